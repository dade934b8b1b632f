/- The law ReportSees: whatever the heap and the world, and whatever its two arguments: it returns true, and the arguments read as they did. (The listed package variables start as the program lays them; the card ties them.) -/
import Derived.Test.YtjmlmaidimaloaaGreatDoorReportSeesC1
import Derived.Test.YtjmlmaidimaloaaGreatDoorReportSeesC2
import Derived.Test.YtjmlmaidimaloaaGreatDoorReportSeesC3
import Derived.Test.YtjmlmaidimaloaaGreatDoorReportSeesA13
import Derived.Test.YtjmlmaidimaloaaGreatDoorVeFit
import Derived.Test.YtjmlmaidimaloaaGreatDoorRows
import Derived.WalkKit
import Derived.ProofKit
import Derived.OpenShut
import Derived.Carry
import Derived.Deep.DeepHandedRow
import Derived.Test.YtjmlmaidimaloaaGreatDoorCards
import Derived.Test.YtjmlmaidimaloaaGreatDoorTie
import Derived.LaidMore
import Derived.Stop.Joined
import Derived.LaidLaws
import Derived.Lay
import Derived.MakeChecks
import Derived.SevenTiedAt
set_option linter.all false
namespace Go.Proofs.YtjmlmaidimaloaaGreatDoor.reportSees
open Go Go.VE Go.VE.LB Go.ChangeShapes Go.WideShapes Go.ChangeAt Go.RowKit
set_option maxRecDepth 100000
theorem tabs (i : Nat) : TabOk Tryz.prog gl pu i (vp i) := by
  unfold vp
  exact (ok_bif (ok_bif (ok_bif (ok_bif (ok_bif (ok_bif (ok_leaf q3) (ok_bif (ok_leaf q4) (ok_leaf q5))) (ok_bif (ok_bif (ok_leaf q6) (ok_leaf q7)) (ok_bif (ok_leaf q8) (ok_leaf q9)))) (ok_bif (ok_bif (ok_leaf q10) (ok_bif (ok_leaf q11) (ok_leaf q12))) (ok_bif (ok_bif (ok_leaf q13) (ok_leaf q14)) (ok_bif (ok_leaf q15) (ok_leaf q16))))) (ok_bif (ok_bif (ok_bif (ok_leaf q17) (ok_bif (ok_leaf q18) (ok_leaf q19))) (ok_bif (ok_bif (ok_leaf q20) (ok_leaf q21)) (ok_bif (ok_leaf q22) (ok_leaf q23)))) (ok_bif (ok_bif (ok_leaf q24) (ok_bif (ok_leaf q25) (ok_leaf q26))) (ok_bif (ok_bif (ok_leaf q27) (ok_leaf q28)) (ok_bif (ok_leaf q29) (ok_leaf q30)))))) (ok_bif (ok_bif (ok_bif (ok_bif (ok_leaf q31) (ok_bif (ok_leaf q32) (ok_leaf q33))) (ok_bif (ok_bif (ok_leaf q34) (ok_leaf q35)) (ok_bif (ok_leaf q36) (ok_leaf q37)))) (ok_bif (ok_bif (ok_leaf q38) (ok_bif (ok_leaf q39) (ok_leaf q40))) (ok_bif (ok_bif (ok_leaf q41) (ok_leaf q42)) (ok_bif (ok_leaf q43) (ok_leaf q44))))) (ok_bif (ok_bif (ok_bif (ok_leaf q45) (ok_bif (ok_leaf q46) (ok_leaf q47))) (ok_bif (ok_bif (ok_leaf q48) (ok_leaf q49)) (ok_bif (ok_leaf q50) (ok_leaf q51)))) (ok_bif (ok_bif (ok_leaf q52) (ok_bif (ok_leaf q53) (ok_leaf q54))) (ok_bif (ok_bif (ok_leaf q55) (ok_leaf q56)) (ok_bif (ok_leaf q57) (ok_leaf q58))))))) (ok_bif (ok_bif (ok_bif (ok_bif (ok_bif (ok_leaf q59) (ok_bif (ok_leaf q60) (ok_leaf q61))) (ok_bif (ok_bif (ok_leaf q62) (ok_leaf q63)) (ok_bif (ok_leaf q64) (ok_leaf q65)))) (ok_bif (ok_bif (ok_leaf q66) (ok_bif (ok_leaf q67) (ok_leaf q68))) (ok_bif (ok_bif (ok_leaf q70) (ok_leaf q71)) (ok_bif (ok_leaf q72) (ok_leaf q73))))) (ok_bif (ok_bif (ok_bif (ok_leaf q74) (ok_bif (ok_leaf q75) (ok_leaf q76))) (ok_bif (ok_bif (ok_leaf q77) (ok_leaf q78)) (ok_bif (ok_leaf q79) (ok_leaf q80)))) (ok_bif (ok_bif (ok_leaf q83) (ok_bif (ok_leaf q84) (ok_leaf q85))) (ok_bif (ok_bif (ok_leaf q86) (ok_leaf q87)) (ok_bif (ok_leaf q88) (ok_leaf q89)))))) (ok_bif (ok_bif (ok_bif (ok_bif (ok_leaf q90) (ok_bif (ok_leaf q91) (ok_leaf q92))) (ok_bif (ok_bif (ok_leaf q93) (ok_leaf q94)) (ok_bif (ok_leaf q95) (ok_leaf q96)))) (ok_bif (ok_bif (ok_leaf q97) (ok_bif (ok_leaf q98) (ok_leaf q99))) (ok_bif (ok_bif (ok_leaf q101) (ok_leaf q102)) (ok_bif (ok_leaf q103) (ok_leaf q104))))) (ok_bif (ok_bif (ok_bif (ok_leaf q106) (ok_bif (ok_leaf q107) (ok_leaf q108))) (ok_bif (ok_bif (ok_leaf q109) (ok_leaf q110)) (ok_bif (ok_leaf q111) (ok_leaf q112)))) (ok_bif (ok_bif (ok_bif (ok_leaf q113) (ok_leaf q114)) (ok_bif (ok_leaf q115) (ok_leaf q116))) (ok_bif (ok_bif (ok_leaf q117) (ok_leaf q118)) (ok_bif (ok_leaf q119) (ok_leaf q123))))))))
theorem tab : TabOK Tryz.prog gl pu vp := tabOK_of tabs (by kernel_rfl)
theorem own : ownKnob Tryz.prog.godebug = none := by kernel_rfl
theorem lay : laidOutB Tryz.prog = true := by kernel_rfl
theorem hgl (W : World) (hl : laidMetH Tryz.prog Rows.reportSeesRow.laid W) : ∀ g cs, gl g = some cs → ∃ row, rowsOf W g = some row ∧ VRels (rowsOf W) (fun _ => none) cs row := by
  intro g cs h
  by_cases h0 : g = 0
  · subst h0
    obtain rfl : g0 = cs := Option.some.inj h
    exact glob_rel (sh := .arr 20 (.int .u64)) (n := "internal/strconv.uint64pow10") (d := Rows.laid_internal_strconv_uint64pow10) (t := 195) (k := 5) hl (by simp [Rows.reportSeesRow]) (by kernel_rfl) (by kernel_rfl) (by kernel_rfl) (by kernel_rfl) (by kernel_rfl)
  exfalso
  unfold gl at h
  simp [beq_dec, h0] at h
theorem contract (H : Type) (enc : TypeId × Value → H) (W : World) (base : Nat) (args : Array Value) (ds gs : List (DataW H)) (before : List MemPlace) (hl : laidMetH Tryz.prog Rows.reportSeesRow.laid W)
    (hval : ∀ (j : Nat) t v, Tryz.f3.params[j]? = some t → args[j]? = some v → Value.okWide Tryz.prog W .any base t v)
    (hW : DataW.Whole enc Tryz.prog Tryz.f3.params.toList Rows.reportSeesSpec.vars false W args.toList ds gs before) :
    Calls Tryz.prog 3 args W fun e W' => ∃ v, e = .returned v ∧ Rows.reportSeesSpec.post enc Tryz.prog Tryz.f3 false true false false W args v W' := by
  have hW' := hW
  obtain ⟨p, q, hA0, hV, rfl, hfz, hnd⟩ := hW
  have hA : DataW.TrodAll enc Tryz.prog W 0 (fun _ => true) true Tryz.f3.params.toList args.toList ds p := hA0
  rw [Tryz.params3] at hA hval
  obtain ⟨v0, v1, d0, d1, p0, p1, rfl, rfl, rfl, t0, t1⟩ := trodAll_two hA
  obtain ⟨rfl, rfl⟩ := trodVars_none hV
  simp only [List.append_nil] at hW'
  have s0 : shOf Tryz.prog 12 29 = some shS := by kernel_rfl
  have s1 : shOf Tryz.prog 12 25 = some (.int .u32) := by kernel_rfl
  have st0 : (∃ fs, Tryz.prog.underlying 29 = some (.struct fs)) ∨ ∃ n e, Tryz.prog.underlying 29 = some (.array n e) := .inl ⟨_, Tryz.underlying29⟩
  have ns1 : ∀ fs, Tryz.prog.underlying 25 ≠ some (.struct fs) := fun fs h => by
    rw [Tryz.underlying25] at h
    cases h
  have na1 : ∀ n e, Tryz.prog.underlying 25 ≠ some (.array n e) := fun n e h => by
    rw [Tryz.underlying25] at h
    cases h
  obtain ⟨sv, es, hps⟩ := fitS (arg_rel s0 t0 (fun _ => rfl)).2.2
  obtain ⟨tn, rfl, wt⟩ := fitI (arg_rel s1 t1 (fun _ => rfl)).2.2
  have r0 := arg_agg s0 t0 (fun _ => rfl) (hval 0 _ _ rfl rfl) st0
  have r1 : VRel (rowsOf W) (fun _ => none) (.int .u32 tn) v1 := arg_one s1 t1 (fun _ => rfl) (hval 1 _ _ rfl rfl) ns1 na1 (by simp [dvs])
  rw [es] at r0
  obtain ⟨k, rfl⟩ := Int.eq_ofNat_of_zero_le (wf_u32 wt).1
  obtain ⟨n, e⟩ := callRes_run (top ⟨at3, at4, at5, at6, at7, at8, at9, at10, at11, at12, at13, at14, at15, at16, at17, at18, at19, at20, at21, at22, at23, at24, at25, at26, at27, at28, at29, at30, at31, at32, at33, at34, at35, at36, at37, at38, at39, at40, at41, at42, at43, at44, at45, at46, at47, at48, at49, at50, at51, at52, at53, at54, at55, at56, at57, at58, at59, at60, at61, at62, at63, at64, at65, at66, at67, at68, at70, at71, at72, at73, at74, at75, at76, at77, at78, at79, at80, at83, at84, at85, at86, at87, at88, at89, at90, at91, at92, at93, at94, at95, at96, at97, at98, at99, at101, at102, at103, at104, at106, at107, at108, at109, at110, at111, at112, at113, at114, at115, at116, at117, at118, at119, at123⟩ sv hps k h0)
  have hrel : VRels (rowsOf W) (fun _ => none) [.agg (encS sv), .int .u32 (k : Int)] [v0, v1] := VRels.cons_iff.2 ⟨_, _, rfl, r0, VRels.cons_iff.2 ⟨_, _, rfl, r1, VRels.nil⟩⟩
  refine (law_run tab (hgl W hl) hrel rfl e).mono fun e W' ⟨he, hb⟩ => ?_
  subst he
  have hlt := hW'.lt
  have stay := fun (sp : Nat → Bool) (hsp : ∀ x ∈ p0 ++ p1, sp x.block = true) (t : TypeId) (v : Value) (d : DataW H) (ps : List MemPlace) (hr : Tryz.prog.readableRec t = true) (hrow : t < Tryz.prog.types.size) (h : DataW.Trod enc Tryz.prog W 0 (fun _ => true) true t v d ps) (hin : ∀ x ∈ ps, x ∈ p0 ++ p1) =>
    WideElems.Trod_stays (sp' := sp) lay hr hrow h (fun x hx => hb.same (hlt x (hin x hx))) (fun x hx => hsp x (hin x hx))
  refine ⟨_, rfl, post_of_below (pa := p0 ++ p1) (pv := []) hW' (fun _ _ _ => trodAll_cons_mk (shut_bool Tryz.underlying4 _) trodAll_mk0) (fun sp hsp => ?_) (fun _ _ => rfl) (by simp) hb
    (ok_one (by kernel_rfl) rfl (okWide_bool_mk Tryz.underlying4 _))⟩
  rw [Tryz.params3]
  exact trodAll_mk2 (stay sp hsp _ _ _ _ (by kernel_rfl) (of_decide_eq_true (by kernel_rfl)) t0 (by simp +contextual)) (stay sp hsp _ _ _ _ (by kernel_rfl) (of_decide_eq_true (by kernel_rfl)) t1 (by simp +contextual))
theorem door_met (os : Os) (args : Array Value) : laidMetH Tryz.prog Rows.reportSeesRow.laid ((World.laidAll Tryz.prog os Rows.reportSeesRow.laid).forCall (fun _ _ => 0) ⟨#[], args, []⟩).memory := by
  rw [MakeChecks.laidMetH_plain _ _ _ (by kernel_rfl)]
  exact laidMet_laidAll _ (by kernel_rfl) (by kernel_rfl)
theorem lifted (os : Os) (started : os.Started) (H : Type) (enc : TypeId × Value → H) :
    ReturnsInHanded {} Tryz.checked os 3 .any (fun w args => (Rows.reportSeesSpec.pre enc Tryz.prog Tryz.f3 [] false w args ∧ laidMetH Tryz.prog Rows.reportSeesRow.laid w) ∧ sizedMet enc Tryz.prog Tryz.f3 (OpenSpec.ofChange Rows.reportSeesSpec) false w args)
      (Rows.reportSeesSpec.post enc Tryz.prog Tryz.f3 false true false false) := by
  refine returnsInHanded_of_change_and (C := Tryz.checked) (X := fun w _ => laidMetH Tryz.prog Rows.reportSeesRow.laid w) (fun _ _ _ hh h => h.of_heap hh) own started (by kernel_rfl) Tryz.func3
    (ChangeSpec.witness_shaped (enc := enc) (C := Tryz.checked) (os := os) (X := fun w _ => laidMetH Tryz.prog Rows.reportSeesRow.laid w) false (World.laidAll Tryz.prog os Rows.reportSeesRow.laid) #[.agg #[.int .u64 0, .int .u8 0, .int .u8 0, .int .u8 0, .int .u8 0, .int .u8 0, .int .u8 0, .int .u8 0, .int .u8 0, .int .u8 0, .int .u8 0, .int .u8 0, .int .u8 0, .int .u8 0, .int .u8 0, .int .u8 0, .int .u8 0, .int .u8 0, .int .u8 0, .int .u8 0, .int .u8 0, .int .u8 0, .int .u8 0, .int .u8 0, .int .u8 0, .int .u8 0, .int .u8 0, .int .u8 0, .int .u8 0, .int .u8 0, .int .u8 0, .int .u8 0, .int .u8 0, .int .u32 0, .int .u32 0, .int .u32 0, .int .u32 0, .int .u32 0, .int .u32 0, .int .u32 0, .int .u32 0, .int .u32 0, .int .u32 0, .int .u32 0, .int .u32 0, .int .u32 0, .int .u32 0, .int .u32 0, .int .u32 0, .slice none 0 0], .int .u32 0] 8 (World.laidAll_os _ _ _) (World.shaped_of_ZipB (by kernel_rfl) (by kernel_rfl)) (by kernel_rfl) (by kernel_rfl) (by kernel_rfl) (door_met os _)) ?_
  intro W base args ds gs before h1 hW h2 h3 h4 h5
  exact contract H enc W base args ds gs before (by first | exact h1 | exact h2 | exact h3 | exact h4 | exact h5) (by first | exact h1 | exact h2 | exact h3 | exact h4 | exact h5) hW
theorem said : Rows.ReportSeesSaid :=
  OpenClaim.holds_of_wide 3 Tryz.f3 rfl rfl rfl rfl rfl rfl rfl ⟨rfl, rfl, rfl, rfl, rfl⟩ rfl rfl rfl rfl rfl (by kernel_rfl) Tryz.func3 (by kernel_rfl)
    (of_decide_eq_true (by kernel_rfl)) (by unfold Func.isWrapper; first | (rw [if_pos (by decide +kernel)]; kernel_rfl) | (rw [if_neg (by decide +kernel)]; exact ⟨rfl, rfl⟩))
    (fun os started H enc _ => lifted os started H enc)
theorem plain (f : FuncId) (fn : Func) (hf : Tryz.pinned.checked.prog.funcNamed "spigot/spigotlaw44.ReportSees" = some f) (hfn : Tryz.pinned.checked.prog.funcs[f]? = some fn) :
    false = Tryz.pinned.checked.prog.looks [] ∧ ∀ (j : Nat) t, fn.params[j]? = some t → Tryz.pinned.checked.prog.wantsStandIn t = false := by
  obtain rfl : f = 3 := Option.some.inj ((show Tryz.prog.funcNamed "spigot/spigotlaw44.ReportSees" = some 3 by kernel_rfl).symm.trans hf) |>.symm
  obtain rfl : fn = Tryz.f3 := (Option.some.inj (Tryz.func3.symm.trans hfn)).symm
  refine ⟨by kernel_rfl, fun j t ht => ?_⟩
  rw [Tryz.params3] at ht
  have hm : t ∈ [29, 25] := by simpa using Array.mem_of_getElem? ht
  have hall : ([29, 25].all fun u => !Tryz.prog.wantsStandIn u) = true := by kernel_rfl
  exact (show Tryz.prog.wantsStandIn t = false by simpa using List.all_eq_true.1 hall t hm)
theorem proved : Rows.ReportSeesCardSaid :=
  Claim7.holds_tied_plain_at .later [] _ _ _ _ said (fun _ h => by cases h) (by kernel_rfl) (fun _ h => by cases h) reportSees_row_tie rfl ⟨rfl, rfl⟩ (by kernel_rfl) rfl plain (by kernel_rfl)
#print axioms proved
end Go.Proofs.YtjmlmaidimaloaaGreatDoor.reportSees
