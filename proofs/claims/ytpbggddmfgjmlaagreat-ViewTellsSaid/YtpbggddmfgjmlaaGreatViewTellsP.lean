/- The law ViewTells: whatever the heap and the world, and whatever its four arguments: it returns true, and the arguments read as they did. -/
import Derived.Test.YtpbggddmfgjmlaaGreatViewTellsC1
import Derived.Test.YtpbggddmfgjmlaaGreatViewTellsC2
import Derived.Test.YtpbggddmfgjmlaaGreatViewTellsC3
import Derived.Test.YtpbggddmfgjmlaaGreatViewTellsA18
import Derived.Test.YtpbggddmfgjmlaaGreatVeFit
import Derived.Test.YtpbggddmfgjmlaaGreatRows
import Derived.WalkKit
import Derived.ProofKit
import Derived.OpenShut
import Derived.Carry
import Derived.Deep.DeepHandedRow
set_option linter.all false
namespace Go.Proofs.YtpbggddmfgjmlaaGreat.viewTells
open Go Go.VE Go.VE.LB Go.ChangeShapes Go.WideShapes Go.ChangeAt Go.RowKit
set_option maxRecDepth 100000
theorem tabs (i : Nat) : TabOk Tryz.prog (fun _ => none) pu i (vp i) := by
  unfold vp
  exact (ok_bif (ok_bif (ok_bif (ok_bif (ok_bif (ok_bif (ok_bif (ok_leaf q3) (ok_leaf q4)) (ok_bif (ok_leaf q5) (ok_leaf q6))) (ok_bif (ok_bif (ok_leaf q7) (ok_leaf q8)) (ok_bif (ok_leaf q9) (ok_leaf q10)))) (ok_bif (ok_bif (ok_bif (ok_leaf q11) (ok_leaf q12)) (ok_bif (ok_leaf q13) (ok_leaf q14))) (ok_bif (ok_bif (ok_leaf q15) (ok_leaf q16)) (ok_bif (ok_leaf q17) (ok_leaf q18))))) (ok_bif (ok_bif (ok_bif (ok_bif (ok_leaf q19) (ok_leaf q20)) (ok_bif (ok_leaf q21) (ok_leaf q22))) (ok_bif (ok_bif (ok_leaf q23) (ok_leaf q24)) (ok_bif (ok_leaf q25) (ok_leaf q26)))) (ok_bif (ok_bif (ok_bif (ok_leaf q27) (ok_leaf q28)) (ok_bif (ok_leaf q29) (ok_leaf q30))) (ok_bif (ok_bif (ok_leaf q31) (ok_leaf q32)) (ok_bif (ok_leaf q33) (ok_bif (ok_leaf q34) (ok_leaf q35))))))) (ok_bif (ok_bif (ok_bif (ok_bif (ok_bif (ok_leaf q36) (ok_leaf q37)) (ok_bif (ok_leaf q38) (ok_leaf q39))) (ok_bif (ok_bif (ok_leaf q40) (ok_leaf q41)) (ok_bif (ok_leaf q42) (ok_leaf q43)))) (ok_bif (ok_bif (ok_bif (ok_leaf q44) (ok_leaf q45)) (ok_bif (ok_leaf q46) (ok_leaf q47))) (ok_bif (ok_bif (ok_leaf q48) (ok_leaf q49)) (ok_bif (ok_leaf q50) (ok_leaf q51))))) (ok_bif (ok_bif (ok_bif (ok_bif (ok_leaf q52) (ok_leaf q53)) (ok_bif (ok_leaf q54) (ok_leaf q55))) (ok_bif (ok_bif (ok_leaf q56) (ok_leaf q57)) (ok_bif (ok_leaf q58) (ok_leaf q59)))) (ok_bif (ok_bif (ok_bif (ok_leaf q60) (ok_leaf q61)) (ok_bif (ok_leaf q62) (ok_leaf q63))) (ok_bif (ok_bif (ok_leaf q64) (ok_leaf q65)) (ok_bif (ok_leaf q66) (ok_bif (ok_leaf q69) (ok_leaf q70)))))))) (ok_bif (ok_bif (ok_bif (ok_bif (ok_bif (ok_bif (ok_leaf q71) (ok_leaf q72)) (ok_bif (ok_leaf q73) (ok_leaf q74))) (ok_bif (ok_bif (ok_leaf q75) (ok_leaf q76)) (ok_bif (ok_leaf q77) (ok_leaf q78)))) (ok_bif (ok_bif (ok_bif (ok_leaf q79) (ok_leaf q80)) (ok_bif (ok_leaf q81) (ok_leaf q82))) (ok_bif (ok_bif (ok_leaf q83) (ok_leaf q84)) (ok_bif (ok_leaf q85) (ok_leaf q86))))) (ok_bif (ok_bif (ok_bif (ok_bif (ok_leaf q87) (ok_leaf q88)) (ok_bif (ok_leaf q89) (ok_leaf q90))) (ok_bif (ok_bif (ok_leaf q91) (ok_leaf q92)) (ok_bif (ok_leaf q93) (ok_leaf q94)))) (ok_bif (ok_bif (ok_bif (ok_leaf q95) (ok_leaf q96)) (ok_bif (ok_leaf q97) (ok_leaf q99))) (ok_bif (ok_bif (ok_leaf q100) (ok_leaf q101)) (ok_bif (ok_leaf q102) (ok_bif (ok_leaf q103) (ok_leaf q104))))))) (ok_bif (ok_bif (ok_bif (ok_bif (ok_bif (ok_leaf q105) (ok_leaf q106)) (ok_bif (ok_leaf q107) (ok_leaf q108))) (ok_bif (ok_bif (ok_leaf q109) (ok_leaf q110)) (ok_bif (ok_leaf q111) (ok_leaf q112)))) (ok_bif (ok_bif (ok_bif (ok_leaf q113) (ok_leaf q114)) (ok_bif (ok_leaf q115) (ok_leaf q116))) (ok_bif (ok_bif (ok_leaf q117) (ok_leaf q119)) (ok_bif (ok_leaf q120) (ok_leaf q121))))) (ok_bif (ok_bif (ok_bif (ok_bif (ok_leaf q122) (ok_leaf q123)) (ok_bif (ok_leaf q124) (ok_leaf q125))) (ok_bif (ok_bif (ok_leaf q126) (ok_leaf q127)) (ok_bif (ok_leaf q128) (ok_leaf q129)))) (ok_bif (ok_bif (ok_bif (ok_leaf q130) (ok_leaf q131)) (ok_bif (ok_leaf q132) (ok_leaf q133))) (ok_bif (ok_bif (ok_leaf q134) (ok_leaf q135)) (ok_bif (ok_leaf q136) (ok_bif (ok_leaf q137) (ok_leaf q138)))))))))
theorem tab : TabOK Tryz.prog (fun _ => none) pu vp := tabOK_of tabs (by kernel_rfl)
theorem own : ownKnob Tryz.prog.godebug = none := by kernel_rfl
theorem lay : laidOutB Tryz.prog = true := by kernel_rfl
theorem contract (H : Type) (enc : TypeId × Value → H) (W : World) (base : Nat) (args : Array Value) (ds gs : List (DataW H)) (before : List MemPlace)
    (hval : ∀ (j : Nat) t v, Tryz.f3.params[j]? = some t → args[j]? = some v → Value.okWide Tryz.prog W .any base t v)
    (hW : DataW.Whole enc Tryz.prog Tryz.f3.params.toList Rows.viewTellsSpec.vars false W args.toList ds gs before) :
    Calls Tryz.prog 3 args W fun e W' => ∃ v, e = .returned v ∧ Rows.viewTellsSpec.post enc Tryz.prog Tryz.f3 false true false false W args v W' := by
  have hW' := hW
  obtain ⟨p, q, hA0, hV, rfl, hfz, hnd⟩ := hW
  have hA : DataW.TrodAll enc Tryz.prog W 0 (fun _ => true) true Tryz.f3.params.toList args.toList ds p := hA0
  rw [Tryz.params3] at hA hval
  obtain ⟨v0, v1, v2, v3, d0, d1, d2, d3, p0, p1, p2, p3, rfl, rfl, rfl, t0, t1, t2, t3⟩ := trodAll_four hA
  obtain ⟨rfl, rfl⟩ := trodVars_none hV
  simp only [List.append_nil] at hW'
  have s0 : shOf Tryz.prog 12 22 = some (.sl (.int .u8)) := by kernel_rfl
  have s1 : shOf Tryz.prog 12 30 = some shS := by kernel_rfl
  have s3 : shOf Tryz.prog 12 26 = some (.int .u32) := by kernel_rfl
  have ns0 : ∀ fs, Tryz.prog.underlying 22 ≠ some (.struct fs) := fun fs h => by rw [Tryz.underlying22] at h; cases h
  have na0 : ∀ n e, Tryz.prog.underlying 22 ≠ some (.array n e) := fun n e h => by rw [Tryz.underlying22] at h; cases h
  have st1 : (∃ fs, Tryz.prog.underlying 30 = some (.struct fs)) ∨ ∃ n e, Tryz.prog.underlying 30 = some (.array n e) := .inl ⟨_, Tryz.underlying30⟩
  have ns3 : ∀ fs, Tryz.prog.underlying 26 ≠ some (.struct fs) := fun fs h => by rw [Tryz.underlying26] at h; cases h
  have na3 : ∀ n e, Tryz.prog.underlying 26 ≠ some (.array n e) := fun n e h => by rw [Tryz.underlying26] at h; cases h
  obtain ⟨a, ea, la⟩ := fit_sl (enc := eY) (fun _ => fitY) (arg_rel s0 t0 (fun _ => rfl)).2.2
  obtain ⟨sv, es, _⟩ := fitS (arg_rel s1 t1 (fun _ => rfl)).2.2
  obtain ⟨su, eu, _⟩ := fitS (arg_rel s1 t2 (fun _ => rfl)).2.2
  obtain ⟨tn, rfl, wt⟩ := fitI (arg_rel s3 t3 (fun _ => rfl)).2.2
  have r0 := arg_one s0 t0 (fun _ => rfl) (hval 0 _ _ rfl rfl) ns0 na0 ea
  have r1 := arg_agg s1 t1 (fun _ => rfl) (hval 1 _ _ rfl rfl) st1
  have r2 := arg_agg s1 t2 (fun _ => rfl) (hval 2 _ _ rfl rfl) st1
  have r3 : VRel (rowsOf W) (fun _ => none) (.int .u32 tn) v3 := arg_one s3 t3 (fun _ => rfl) (hval 3 _ _ rfl rfl) ns3 na3 (by simp [dvs])
  rw [es] at r1
  rw [eu] at r2
  obtain ⟨k, rfl⟩ := Int.eq_ofNat_of_zero_le (wf_u32 wt).1
  obtain ⟨n, e⟩ := callRes_run (top ⟨at3, at4, at5, at6, at7, at8, at9, at10, at11, at12, at13, at14, at15, at16, at17, at18, at19, at20, at21, at22, at23, at24, at25, at26, at27, at28, at29, at30, at31, at32, at33, at34, at35, at36, at37, at38, at39, at40, at41, at42, at43, at44, at45, at46, at47, at48, at49, at50, at51, at52, at53, at54, at55, at56, at57, at58, at59, at60, at61, at62, at63, at64, at65, at66, at69, at70, at71, at72, at73, at74, at75, at76, at77, at78, at79, at80, at81, at82, at83, at84, at85, at86, at87, at88, at89, at90, at91, at92, at93, at94, at95, at96, at97, at99, at100, at101, at102, at103, at104, at105, at106, at107, at108, at109, at110, at111, at112, at113, at114, at115, at116, at117, at119, at120, at121, at122, at123, at124, at125, at126, at127, at128, at129, at130, at131, at132, at133, at134, at135, at136, at137, at138⟩ a sv su k h0)
  have hrel : VRels (rowsOf W) (fun _ => none) [a.v eY, .agg (encS sv), .agg (encS su), .int .u32 (k : Int)] [v0, v1, v2, v3] := VRels.cons_iff.2 ⟨_, _, rfl, r0, VRels.cons_iff.2 ⟨_, _, rfl, r1, VRels.cons_iff.2 ⟨_, _, rfl, r2, VRels.cons_iff.2 ⟨_, _, rfl, r3, VRels.nil⟩⟩⟩⟩
  refine (law_run tab (fun g cs h => by cases h) hrel rfl e).mono fun e W' ⟨he, hb⟩ => ?_
  subst he
  have hlt := hW'.lt
  have stay := fun (sp : Nat → Bool) (hsp : ∀ x ∈ p0 ++ p1 ++ p2 ++ p3, sp x.block = true) (t : TypeId) (v : Value) (d : DataW H) (ps : List MemPlace) (hr : Tryz.prog.readableRec t = true) (hrow : t < Tryz.prog.types.size) (h : DataW.Trod enc Tryz.prog W 0 (fun _ => true) true t v d ps) (hin : ∀ x ∈ ps, x ∈ p0 ++ p1 ++ p2 ++ p3) =>
    WideElems.Trod_stays (sp' := sp) lay hr hrow h (fun x hx => hb.same (hlt x (hin x hx))) (fun x hx => hsp x (hin x hx))
  refine ⟨_, rfl, post_of_below (pa := p0 ++ p1 ++ p2 ++ p3) (pv := []) hW' (fun _ _ _ => trodAll_cons_mk (shut_bool Tryz.underlying4 _) trodAll_mk0) (fun sp hsp => ?_) (fun _ _ => rfl) (by simp) hb
    (ok_one (by kernel_rfl) rfl (okWide_bool_mk Tryz.underlying4 _))⟩
  rw [Tryz.params3]
  rw [show p0 ++ p1 ++ p2 ++ p3 = p0 ++ (p1 ++ (p2 ++ p3)) by simp only [List.append_assoc]]
  exact trodAll_mk4 (stay sp hsp _ _ _ _ (by kernel_rfl) (of_decide_eq_true (by kernel_rfl)) t0 (by simp +contextual)) (stay sp hsp _ _ _ _ (by kernel_rfl) (of_decide_eq_true (by kernel_rfl)) t1 (by simp +contextual)) (stay sp hsp _ _ _ _ (by kernel_rfl) (of_decide_eq_true (by kernel_rfl)) t2 (by simp +contextual)) (stay sp hsp _ _ _ _ (by kernel_rfl) (of_decide_eq_true (by kernel_rfl)) t3 (by simp +contextual))
theorem lifted (os : Os) (started : os.Started) (H : Type) (enc : TypeId × Value → H) :
    ReturnsInHanded {} Tryz.checked os 3 .any (Rows.viewTellsSpec.pre6 enc Tryz.prog Tryz.f3 [] false) (Rows.viewTellsSpec.post enc Tryz.prog Tryz.f3 false true false false) := by
  refine returnsInHanded_of_change own started (by kernel_rfl) Tryz.func3 (ChangeSpec.witness6 (fn := Tryz.f3) false ⟨#[], #[.slice none 0 0, .agg #[.int .u64 0, .int .u8 0, .int .u8 0, .int .u8 0, .int .u8 0, .int .u8 0, .int .u8 0, .int .u8 0, .int .u8 0, .int .u8 0, .int .u8 0, .int .u8 0, .int .u8 0, .int .u8 0, .int .u8 0, .int .u8 0, .int .u8 0, .int .u8 0, .int .u8 0, .int .u8 0, .int .u8 0, .int .u8 0, .int .u8 0, .int .u8 0, .int .u8 0, .int .u8 0, .int .u8 0, .int .u8 0, .int .u8 0, .int .u8 0, .int .u8 0, .int .u8 0, .int .u8 0, .int .u32 0, .int .u32 0, .int .u32 0, .int .u32 0, .int .u32 0, .int .u32 0, .int .u32 0, .int .u32 0, .int .u32 0, .int .u32 0, .int .u32 0, .int .u32 0, .int .u32 0, .int .u32 0, .int .u32 0, .int .u32 0, .slice none 0 0], .agg #[.int .u64 0, .int .u8 0, .int .u8 0, .int .u8 0, .int .u8 0, .int .u8 0, .int .u8 0, .int .u8 0, .int .u8 0, .int .u8 0, .int .u8 0, .int .u8 0, .int .u8 0, .int .u8 0, .int .u8 0, .int .u8 0, .int .u8 0, .int .u8 0, .int .u8 0, .int .u8 0, .int .u8 0, .int .u8 0, .int .u8 0, .int .u8 0, .int .u8 0, .int .u8 0, .int .u8 0, .int .u8 0, .int .u8 0, .int .u8 0, .int .u8 0, .int .u8 0, .int .u8 0, .int .u32 0, .int .u32 0, .int .u32 0, .int .u32 0, .int .u32 0, .int .u32 0, .int .u32 0, .int .u32 0, .int .u32 0, .int .u32 0, .int .u32 0, .int .u32 0, .int .u32 0, .int .u32 0, .int .u32 0, .int .u32 0, .slice none 0 0], .int .u32 0], []⟩ 8 (by kernel_rfl) (by kernel_rfl) (by kernel_rfl) (by kernel_rfl)) ?_
  intro W base args ds gs before hval hW _ _
  exact contract H enc W base args ds gs before hval hW
theorem said : Rows.ViewTellsSaid :=
  OpenClaim.holds_of_wide 3 Tryz.f3 rfl rfl rfl rfl rfl rfl rfl ⟨rfl, rfl, rfl, rfl, rfl⟩ rfl rfl rfl rfl rfl (by kernel_rfl) Tryz.func3 (by kernel_rfl)
    (of_decide_eq_true (by kernel_rfl)) (by unfold Func.isWrapper; first | (rw [if_pos (by decide +kernel)]; kernel_rfl) | (rw [if_neg (by decide +kernel)]; exact ⟨rfl, rfl⟩))
    (fun os started H enc _ => lifted os started H enc)
theorem proved : Rows.ViewTellsSaid := said
#print axioms proved
end Go.Proofs.YtpbggddmfgjmlaaGreat.viewTells
