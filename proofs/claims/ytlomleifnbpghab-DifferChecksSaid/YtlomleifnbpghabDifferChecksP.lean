/- The law DifferChecks: whatever the heap and the world, and whatever its two arguments: it returns true, and the arguments read as they did. -/
import Derived.Test.YtlomleifnbpghabDifferChecksC1
import Derived.Test.YtlomleifnbpghabDifferChecksC2
import Derived.Test.YtlomleifnbpghabDifferChecksC3
import Derived.Test.YtlomleifnbpghabDifferChecksA24
import Derived.Test.YtlomleifnbpghabVeFit
import Derived.Test.YtlomleifnbpghabRows
import Derived.WalkKit
import Derived.ProofKit
import Derived.OpenShut
import Derived.Carry
import Derived.Deep.DeepHandedRow
set_option linter.all false
namespace Go.Proofs.Ytlomleifnbpghab.differChecks
open Go Go.VE Go.VE.LB Go.ChangeShapes Go.WideShapes Go.ChangeAt Go.RowKit
set_option maxRecDepth 100000
theorem tabs (i : Nat) : TabOk Try.prog (fun _ => none) pu i (vp i) := by
  unfold vp
  exact (ok_bif (ok_bif (ok_bif (ok_bif (ok_bif (ok_leaf q3) (ok_leaf q4)) (ok_bif (ok_leaf q5) (ok_bif (ok_leaf q6) (ok_leaf q7)))) (ok_bif (ok_bif (ok_leaf q8) (ok_leaf q9)) (ok_bif (ok_leaf q10) (ok_bif (ok_leaf q11) (ok_leaf q12))))) (ok_bif (ok_bif (ok_bif (ok_leaf q13) (ok_leaf q14)) (ok_bif (ok_leaf q15) (ok_bif (ok_leaf q16) (ok_leaf q17)))) (ok_bif (ok_bif (ok_leaf q18) (ok_bif (ok_leaf q19) (ok_leaf q20))) (ok_bif (ok_leaf q21) (ok_bif (ok_leaf q22) (ok_leaf q23)))))) (ok_bif (ok_bif (ok_bif (ok_bif (ok_leaf q24) (ok_leaf q25)) (ok_bif (ok_leaf q26) (ok_bif (ok_leaf q27) (ok_leaf q28)))) (ok_bif (ok_bif (ok_leaf q29) (ok_leaf q30)) (ok_bif (ok_leaf q31) (ok_bif (ok_leaf q32) (ok_leaf q33))))) (ok_bif (ok_bif (ok_bif (ok_leaf q34) (ok_leaf q35)) (ok_bif (ok_leaf q36) (ok_bif (ok_leaf q37) (ok_leaf q38)))) (ok_bif (ok_bif (ok_leaf q39) (ok_bif (ok_leaf q40) (ok_leaf q41))) (ok_bif (ok_leaf q42) (ok_bif (ok_leaf q43) (ok_leaf q44)))))))
theorem tab : TabOK Try.prog (fun _ => none) pu vp := tabOK_of tabs (by kernel_rfl)
theorem own : ownKnob Try.prog.godebug = none := by kernel_rfl
theorem lay : laidOutB Try.prog = true := by kernel_rfl
theorem contract (H : Type) (enc : TypeId × Value → H) (W : World) (base : Nat) (args : Array Value) (ds gs : List (DataW H)) (before : List MemPlace)
    (hval : ∀ (j : Nat) t v, Try.f3.params[j]? = some t → args[j]? = some v → Value.okWide Try.prog W .any base t v)
    (hW : DataW.Whole enc Try.prog Try.f3.params.toList Rows.differChecksSpec.vars false W args.toList ds gs before) :
    Calls Try.prog 3 args W fun e W' => ∃ v, e = .returned v ∧ Rows.differChecksSpec.post enc Try.prog Try.f3 false true false false W args v W' := by
  have hW' := hW
  obtain ⟨p, q, hA0, hV, rfl, hfz, hnd⟩ := hW
  have hA : DataW.TrodAll enc Try.prog W 0 (fun _ => true) true Try.f3.params.toList args.toList ds p := hA0
  rw [Try.params3] at hA hval
  obtain ⟨v0, v1, d0, d1, p0, p1, rfl, rfl, rfl, t0, t1⟩ := trodAll_two hA
  obtain ⟨rfl, rfl⟩ := trodVars_none hV
  simp only [List.append_nil] at hW'
  have s0 : shOf Try.prog 12 25 = some shD := by kernel_rfl
  have st : (∃ fs, Try.prog.underlying 25 = some (.struct fs)) ∨ ∃ n e, Try.prog.underlying 25 = some (.array n e) := .inl ⟨_, Try.underlying25⟩
  obtain ⟨na, a, ea, la⟩ := fitD (arg_rel s0 t0 (fun _ => rfl)).2.2
  obtain ⟨nb, b, eb, lb⟩ := fitD (arg_rel s0 t1 (fun _ => rfl)).2.2
  have r0 := arg_agg s0 t0 (fun _ => rfl) (hval 0 _ _ rfl rfl) st
  have r1 := arg_agg s0 t1 (fun _ => rfl) (hval 1 _ _ rfl rfl) st
  rw [ea] at r0
  rw [eb] at r1
  obtain ⟨n, e⟩ := callRes_run (law ⟨at3, at4, at5, at6, at7, at8, at9, at10, at11, at12, at13, at14, at15, at16, at17, at18, at19, at20, at21, at22, at23, at24, at25, at26, at27, at28, at29, at30, at31, at32, at33, at34, at35, at36, at37, at38, at39, at40, at41, at42, at43, at44⟩ na nb a b h0 la lb)
  have hrel : VRels (rowsOf W) (fun _ => none) [.agg [.int .u64 na, a.v encK], .agg [.int .u64 nb, b.v encK]] [v0, v1] := VRels.cons_iff.2 ⟨_, _, rfl, r0, VRels.cons_iff.2 ⟨_, _, rfl, r1, VRels.nil⟩⟩
  refine (law_run tab (fun g cs h => by cases h) hrel rfl e).mono fun e W' ⟨he, hb⟩ => ?_
  subst he
  have hlt := hW'.lt
  have stay := fun (sp : Nat → Bool) (hsp : ∀ x ∈ p0 ++ p1, sp x.block = true) (t : TypeId) (v : Value) (d : DataW H) (ps : List MemPlace) (hr : Try.prog.readableRec t = true) (hrow : t < Try.prog.types.size) (h : DataW.Trod enc Try.prog W 0 (fun _ => true) true t v d ps) (hin : ∀ x ∈ ps, x ∈ p0 ++ p1) =>
    WideElems.Trod_stays (sp' := sp) lay hr hrow h (fun x hx => hb.same (hlt x (hin x hx))) (fun x hx => hsp x (hin x hx))
  refine ⟨_, rfl, post_of_below (pa := p0 ++ p1) (pv := []) hW' (fun _ _ _ => trodAll_cons_mk (shut_bool Try.underlying4 _) trodAll_mk0) (fun sp hsp => ?_) (fun _ _ => rfl) (by simp) hb
    (ok_one (by kernel_rfl) rfl (okWide_bool_mk Try.underlying4 _))⟩
  rw [Try.params3]
  exact trodAll_mk2 (stay sp hsp _ _ _ _ (by kernel_rfl) (of_decide_eq_true (by kernel_rfl)) t0 (by simp +contextual)) (stay sp hsp _ _ _ _ (by kernel_rfl) (of_decide_eq_true (by kernel_rfl)) t1 (by simp +contextual))
theorem lifted (os : Os) (started : os.Started) (H : Type) (enc : TypeId × Value → H) :
    ReturnsInHanded {} Try.checked os 3 .any (Rows.differChecksSpec.pre6 enc Try.prog Try.f3 [] false) (Rows.differChecksSpec.post enc Try.prog Try.f3 false true false false) := by
  refine returnsInHanded_of_change own started (by kernel_rfl) Try.func3 (ChangeSpec.witness6 (fn := Try.f3) false ⟨#[], #[.agg #[.int .u64 0, .slice none 0 0], .agg #[.int .u64 0, .slice none 0 0]], []⟩ 8 (by kernel_rfl) (by kernel_rfl) (by kernel_rfl) (by kernel_rfl)) ?_
  intro W base args ds gs before hval hW _ _
  exact contract H enc W base args ds gs before hval hW
theorem said : Rows.DifferChecksSaid :=
  OpenClaim.holds_of_wide 3 Try.f3 rfl rfl rfl rfl rfl rfl rfl ⟨rfl, rfl, rfl, rfl, rfl⟩ rfl rfl rfl rfl rfl (by kernel_rfl) Try.func3 (by kernel_rfl)
    (of_decide_eq_true (by kernel_rfl)) (by unfold Func.isWrapper; first | (rw [if_pos (by decide +kernel)]; kernel_rfl) | (rw [if_neg (by decide +kernel)]; exact ⟨rfl, rfl⟩))
    (fun os started H enc _ => lifted os started H enc)
theorem proved : Rows.DifferChecksSaid := said
#print axioms proved
end Go.Proofs.Ytlomleifnbpghab.differChecks
