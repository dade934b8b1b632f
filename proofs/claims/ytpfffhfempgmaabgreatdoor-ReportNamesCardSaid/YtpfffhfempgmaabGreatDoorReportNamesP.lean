/- The law ReportNames: whatever the heap and the world: it returns true. (The listed package variables start as the program lays them; the card ties them.) -/
import Derived.Test.YtpfffhfempgmaabGreatDoorReportNamesC1
import Derived.Test.YtpfffhfempgmaabGreatDoorReportNamesC2
import Derived.Test.YtpfffhfempgmaabGreatDoorReportNamesC3
import Derived.Test.YtpfffhfempgmaabGreatDoorReportNamesR
import Derived.Test.YtpfffhfempgmaabGreatDoorRows
import Derived.Test.YtpfffhfempgmaabGreatDoorCards
import Derived.Test.YtpfffhfempgmaabGreatDoorTie
import Derived.WalkKit
import Derived.ProofKit
import Derived.OpenShut
import Derived.LaidMore
import Derived.Stop.Joined
import Derived.Deep.DeepHandedRow
import Derived.LaidLaws
import Derived.Lay
import Derived.MakeChecks
import Derived.SevenTiedAt
namespace Go.Proofs.YtpfffhfempgmaabGreatDoor.reportNames
open Go Go.VE Go.ChangeShapes Go.WideShapes Go.ChangeAt Go.RowKit
set_option maxRecDepth 100000
theorem tabs (i : Nat) : TabOk Tryz.prog gl pu i (vp i) := by
  unfold vp
  exact (ok_bif (ok_bif (ok_bif (ok_bif (ok_bif (ok_bif (ok_leaf q3) (ok_bif (ok_leaf q4) (ok_leaf q5))) (ok_bif (ok_bif (ok_leaf q6) (ok_leaf q7)) (ok_bif (ok_leaf q8) (ok_leaf q9)))) (ok_bif (ok_bif (ok_bif (ok_leaf q10) (ok_leaf q11)) (ok_bif (ok_leaf q12) (ok_leaf q13))) (ok_bif (ok_bif (ok_leaf q14) (ok_leaf q15)) (ok_bif (ok_leaf q16) (ok_leaf q17))))) (ok_bif (ok_bif (ok_bif (ok_bif (ok_leaf q18) (ok_leaf q19)) (ok_bif (ok_leaf q20) (ok_leaf q21))) (ok_bif (ok_bif (ok_leaf q22) (ok_leaf q23)) (ok_bif (ok_leaf q24) (ok_leaf q25)))) (ok_bif (ok_bif (ok_bif (ok_leaf q26) (ok_leaf q27)) (ok_bif (ok_leaf q28) (ok_leaf q29))) (ok_bif (ok_bif (ok_leaf q30) (ok_leaf q31)) (ok_bif (ok_leaf q32) (ok_leaf q33)))))) (ok_bif (ok_bif (ok_bif (ok_bif (ok_bif (ok_leaf q34) (ok_leaf q35)) (ok_bif (ok_leaf q36) (ok_leaf q37))) (ok_bif (ok_bif (ok_leaf q38) (ok_leaf q39)) (ok_bif (ok_leaf q40) (ok_leaf q41)))) (ok_bif (ok_bif (ok_bif (ok_leaf q42) (ok_leaf q43)) (ok_bif (ok_leaf q44) (ok_leaf q45))) (ok_bif (ok_bif (ok_leaf q46) (ok_leaf q47)) (ok_bif (ok_leaf q48) (ok_leaf q49))))) (ok_bif (ok_bif (ok_bif (ok_bif (ok_leaf q50) (ok_leaf q51)) (ok_bif (ok_leaf q52) (ok_leaf q53))) (ok_bif (ok_bif (ok_leaf q54) (ok_leaf q56)) (ok_bif (ok_leaf q57) (ok_leaf q58)))) (ok_bif (ok_bif (ok_bif (ok_leaf q59) (ok_leaf q60)) (ok_bif (ok_leaf q61) (ok_leaf q62))) (ok_bif (ok_bif (ok_leaf q63) (ok_leaf q64)) (ok_bif (ok_leaf q65) (ok_leaf q66))))))) (ok_bif (ok_bif (ok_bif (ok_bif (ok_bif (ok_bif (ok_leaf q67) (ok_leaf q68)) (ok_bif (ok_leaf q69) (ok_leaf q70))) (ok_bif (ok_bif (ok_leaf q71) (ok_leaf q72)) (ok_bif (ok_leaf q73) (ok_leaf q74)))) (ok_bif (ok_bif (ok_bif (ok_leaf q75) (ok_leaf q77)) (ok_bif (ok_leaf q78) (ok_leaf q79))) (ok_bif (ok_bif (ok_leaf q80) (ok_leaf q81)) (ok_bif (ok_leaf q82) (ok_leaf q84))))) (ok_bif (ok_bif (ok_bif (ok_bif (ok_leaf q86) (ok_leaf q87)) (ok_bif (ok_leaf q88) (ok_leaf q89))) (ok_bif (ok_bif (ok_leaf q94) (ok_leaf q95)) (ok_bif (ok_leaf q96) (ok_leaf q99)))) (ok_bif (ok_bif (ok_bif (ok_leaf q100) (ok_leaf q101)) (ok_bif (ok_leaf q102) (ok_leaf q103))) (ok_bif (ok_bif (ok_leaf q104) (ok_leaf q105)) (ok_bif (ok_leaf q106) (ok_leaf q109)))))) (ok_bif (ok_bif (ok_bif (ok_bif (ok_bif (ok_leaf q110) (ok_leaf q111)) (ok_bif (ok_leaf q112) (ok_leaf q113))) (ok_bif (ok_bif (ok_leaf q114) (ok_leaf q115)) (ok_bif (ok_leaf q122) (ok_leaf q123)))) (ok_bif (ok_bif (ok_bif (ok_leaf q124) (ok_leaf q128)) (ok_bif (ok_leaf q129) (ok_leaf q130))) (ok_bif (ok_bif (ok_leaf q132) (ok_leaf q133)) (ok_bif (ok_leaf q136) (ok_leaf q137))))) (ok_bif (ok_bif (ok_bif (ok_bif (ok_leaf q139) (ok_leaf q140)) (ok_bif (ok_leaf q141) (ok_leaf q142))) (ok_bif (ok_bif (ok_leaf q144) (ok_leaf q145)) (ok_bif (ok_leaf q146) (ok_leaf q159)))) (ok_bif (ok_bif (ok_bif (ok_leaf q160) (ok_leaf q164)) (ok_bif (ok_leaf q165) (ok_leaf q166))) (ok_bif (ok_bif (ok_leaf q167) (ok_leaf q179)) (ok_bif (ok_leaf q181) (ok_leaf q186))))))))
theorem tab : TabOK Tryz.prog gl pu vp := tabOK_of tabs (by kernel_rfl)
theorem own : ownKnob Tryz.prog.godebug = none := by kernel_rfl
theorem hgl (W : World) (hl : laidMetH Tryz.prog Rows.reportNamesRow.laid W) : ∀ g cs, gl g = some cs → ∃ row, rowsOf W g = some row ∧ VRels (rowsOf W) (fun _ => none) cs row := by
  intro g cs h
  by_cases h0 : g = 0
  · subst h0
    obtain rfl : g0 = cs := Option.some.inj h
    exact glob_rel (sh := .arr 20 (.int .u64)) (n := "internal/strconv.uint64pow10") (d := Rows.laid_internal_strconv_uint64pow10) (t := 213) (k := 5) hl (by simp [Rows.reportNamesRow]) (by kernel_rfl) (by kernel_rfl) (by kernel_rfl) (by kernel_rfl) (by kernel_rfl)
  by_cases h2 : g = 2
  · subst h2
    obtain rfl : g2 = cs := Option.some.inj h
    exact glob_ifc (sh := .ptr (.st [.str])) (name := "*errors.errorString") (d0 := .agg [.lit (.string [105, 110, 118, 97, 108, 105, 100, 32, 115, 121, 110, 116, 97, 120])]) (n := "strconv.ErrSyntax") (t := 104) (u0 := 262) (k := 5) hl (by simp [Rows.reportNamesRow, Rows.laid_strconv_ErrSyntax]) (by kernel_rfl) (by kernel_rfl) (by kernel_rfl) (by kernel_rfl) (fun u h => typeName_ptr_named (nm := "errors.errorString") (by rw [show "*" ++ "errors.errorString" = "*errors.errorString" by decide]; kernel_rfl) (by kernel_rfl) (by decide) u (by rw [show "*" ++ "errors.errorString" = "*errors.errorString" by decide]; exact h)) (by kernel_rfl) (by kernel_rfl) (by kernel_rfl)
  by_cases h3 : g = 3
  · subst h3
    obtain rfl : g3 = cs := Option.some.inj h
    exact glob_ifc (sh := .ptr (.st [.str])) (name := "*errors.errorString") (d0 := .agg [.lit (.string [118, 97, 108, 117, 101, 32, 111, 117, 116, 32, 111, 102, 32, 114, 97, 110, 103, 101])]) (n := "strconv.ErrRange") (t := 104) (u0 := 262) (k := 5) hl (by simp [Rows.reportNamesRow, Rows.laid_strconv_ErrRange]) (by kernel_rfl) (by kernel_rfl) (by kernel_rfl) (by kernel_rfl) (fun u h => typeName_ptr_named (nm := "errors.errorString") (by rw [show "*" ++ "errors.errorString" = "*errors.errorString" by decide]; kernel_rfl) (by kernel_rfl) (by decide) u (by rw [show "*" ++ "errors.errorString" = "*errors.errorString" by decide]; exact h)) (by kernel_rfl) (by kernel_rfl) (by kernel_rfl)
  exfalso
  unfold gl at h
  simp [beq_dec, h0, h2, h3] at h
theorem walk (W : World) (hl : laidMetH Tryz.prog Rows.reportNamesRow.laid W) : Calls Tryz.prog 3 #[] W fun e W' => e = .returned (.bool true) ∧ Below W.heap.size W W' := by
  obtain ⟨n, h, e⟩ := ran_ex
  exact law_run (xs := []) tab (hgl W hl) VRels.nil rfl e
theorem contract (H : Type) (enc : TypeId × Value → H) (W : World) (args : Array Value) (ds gs : List (DataW H)) (before : List MemPlace) (hl : laidMetH Tryz.prog Rows.reportNamesRow.laid W) 
    (hW : DataW.Whole enc Tryz.prog Tryz.f3.params.toList Rows.reportNamesSpec.vars false W args.toList ds gs before) :
    Calls Tryz.prog 3 args W fun e W' => ∃ v, e = .returned v ∧ Rows.reportNamesSpec.post enc Tryz.prog Tryz.f3 false true false false W args v W' := by
  have hW' := hW
  obtain ⟨p, q, hA0, hV, rfl, hfz, hnd⟩ := hW
  have hA : DataW.TrodAll enc Tryz.prog W 0 (fun _ => true) true Tryz.f3.params.toList args.toList ds p := hA0
  rw [Tryz.params3] at hA
  obtain ⟨ha, rfl, rfl⟩ := trodAll_nil hA
  obtain rfl : args = #[] := by cases args; simp_all
  obtain ⟨rfl, rfl⟩ := trodVars_none hV
  simp only [List.append_nil] at hW'
  refine (walk W hl).mono fun e W' ⟨he, hb⟩ => ?_
  subst he
  exact ⟨_, rfl, post_of_below (pa := []) (pv := []) hW' (fun _ _ _ => trodAll_cons_mk (shut_bool Tryz.underlying4 _) trodAll_mk0) (fun _ _ => trodAll_mk0) (fun _ _ => rfl) rfl hb
    (ok_one (by kernel_rfl) rfl (okWide_bool_mk Tryz.underlying4 _))⟩
theorem door_met (os : Os) : laidMetH Tryz.prog Rows.reportNamesRow.laid ((World.laidAll Tryz.prog os Rows.reportNamesRow.laid).forCall (fun _ _ => 0) ⟨#[], #[], []⟩).memory := by
  rw [MakeChecks.laidMetH_plain _ _ _ (by kernel_rfl)]
  exact laidMet_laidAll _ (by kernel_rfl) (by kernel_rfl)
theorem lifted (os : Os) (started : os.Started) (H : Type) (enc : TypeId × Value → H) :
    ReturnsInHanded {} Tryz.checked os 3 .any (fun w args => (Rows.reportNamesSpec.pre enc Tryz.prog Tryz.f3 [] false w args ∧ laidMetH Tryz.prog Rows.reportNamesRow.laid w) ∧ sizedMet enc Tryz.prog Tryz.f3 (OpenSpec.ofChange Rows.reportNamesSpec) false w args)
      (Rows.reportNamesSpec.post enc Tryz.prog Tryz.f3 false true false false) := by
  refine returnsInHanded_of_change_and (C := Tryz.checked) (X := fun w _ => laidMetH Tryz.prog Rows.reportNamesRow.laid w) (fun _ _ _ hh h => h.of_heap hh) own started (by kernel_rfl) Tryz.func3
    (ChangeSpec.witness_shaped (enc := enc) (C := Tryz.checked) (os := os) (X := fun w _ => laidMetH Tryz.prog Rows.reportNamesRow.laid w) false (World.laidAll Tryz.prog os Rows.reportNamesRow.laid) #[] 8 (World.laidAll_os _ _ _) (World.shaped_of_ZipB (by kernel_rfl) (by kernel_rfl)) (by kernel_rfl) (by kernel_rfl) (by kernel_rfl) (door_met os)) ?_
  intro W base args ds gs before h1 hW h2 h3 h4 h5
  exact contract H enc W args ds gs before (by first | exact h1 | exact h2 | exact h3 | exact h4 | exact h5) hW
theorem said : Rows.ReportNamesSaid :=
  OpenClaim.holds_of_wide 3 Tryz.f3 rfl rfl rfl rfl rfl rfl rfl ⟨rfl, rfl, rfl, rfl, rfl⟩ rfl rfl rfl rfl rfl (by kernel_rfl) Tryz.func3 (by kernel_rfl)
    (of_decide_eq_true (by kernel_rfl)) (by unfold Func.isWrapper; first | (rw [if_pos (by decide +kernel)]; kernel_rfl) | (rw [if_neg (by decide +kernel)]; exact ⟨rfl, rfl⟩))
    (fun os started H enc _ => lifted os started H enc)
theorem plain (f : FuncId) (fn : Func) (hf : Tryz.pinned.checked.prog.funcNamed "spigot/spigotlaw44.ReportNames" = some f) (hfn : Tryz.pinned.checked.prog.funcs[f]? = some fn) :
    true = Tryz.pinned.checked.prog.looks [] ∧ ∀ (j : Nat) t, fn.params[j]? = some t → Tryz.pinned.checked.prog.wantsStandIn t = false := by
  obtain rfl : f = 3 := Option.some.inj ((show Tryz.prog.funcNamed "spigot/spigotlaw44.ReportNames" = some 3 by kernel_rfl).symm.trans hf) |>.symm
  obtain rfl : fn = Tryz.f3 := (Option.some.inj (Tryz.func3.symm.trans hfn)).symm
  refine ⟨by kernel_rfl, fun j t ht => ?_⟩
  rw [Tryz.params3] at ht
  simp at ht
theorem proved : Rows.ReportNamesCardSaid :=
  Claim7.holds_tied_plain_at .later [] _ _ _ _ said (fun _ h => by cases h) (by kernel_rfl) (fun _ h => by cases h) reportNames_row_tie rfl ⟨rfl, rfl⟩ (by kernel_rfl) rfl plain (by kernel_rfl)
#print axioms proved
end Go.Proofs.YtpfffhfempgmaabGreatDoor.reportNames
