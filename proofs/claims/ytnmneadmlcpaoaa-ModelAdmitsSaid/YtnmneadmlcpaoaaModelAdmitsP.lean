/- The law ModelAdmits: whatever the heap and the world, and whatever its five arguments: it returns true, and the arguments read as they did. -/
import Derived.Test.YtnmneadmlcpaoaaModelAdmitsC1
import Derived.Test.YtnmneadmlcpaoaaModelAdmitsC2
import Derived.Test.YtnmneadmlcpaoaaModelAdmitsC3
import Derived.Test.YtnmneadmlcpaoaaModelAdmitsA30
import Derived.Test.YtnmneadmlcpaoaaVeFit
import Derived.Test.YtnmneadmlcpaoaaRows
import Derived.WalkKit
import Derived.ProofKit
import Derived.OpenShut
import Derived.Carry
import Derived.Deep.DeepHandedRow
set_option linter.all false
namespace Go.Proofs.Ytnmneadmlcpaoaa.modelAdmits
open Go Go.VE Go.VE.LB Go.ChangeShapes Go.WideShapes Go.ChangeAt Go.RowKit
set_option maxRecDepth 100000
theorem tabs (i : Nat) : TabOk Try.prog (fun _ => none) pu i (vp i) := by
  unfold vp
  exact (ok_bif (ok_bif (ok_bif (ok_bif (ok_bif (ok_bif (ok_leaf q3) (ok_leaf q4)) (ok_bif (ok_leaf q5) (ok_leaf q6))) (ok_bif (ok_bif (ok_leaf q7) (ok_leaf q8)) (ok_bif (ok_leaf q9) (ok_leaf q10)))) (ok_bif (ok_bif (ok_bif (ok_leaf q11) (ok_leaf q12)) (ok_bif (ok_leaf q13) (ok_leaf q14))) (ok_bif (ok_bif (ok_leaf q15) (ok_leaf q16)) (ok_bif (ok_leaf q17) (ok_leaf q18))))) (ok_bif (ok_bif (ok_bif (ok_bif (ok_leaf q19) (ok_leaf q20)) (ok_bif (ok_leaf q21) (ok_leaf q22))) (ok_bif (ok_bif (ok_leaf q23) (ok_leaf q24)) (ok_bif (ok_leaf q25) (ok_leaf q26)))) (ok_bif (ok_bif (ok_bif (ok_leaf q27) (ok_leaf q28)) (ok_bif (ok_leaf q29) (ok_leaf q30))) (ok_bif (ok_bif (ok_leaf q31) (ok_leaf q32)) (ok_bif (ok_leaf q33) (ok_bif (ok_leaf q34) (ok_leaf q35))))))) (ok_bif (ok_bif (ok_bif (ok_bif (ok_bif (ok_leaf q36) (ok_leaf q37)) (ok_bif (ok_leaf q38) (ok_leaf q39))) (ok_bif (ok_bif (ok_leaf q40) (ok_leaf q41)) (ok_bif (ok_leaf q42) (ok_leaf q43)))) (ok_bif (ok_bif (ok_bif (ok_leaf q44) (ok_leaf q45)) (ok_bif (ok_leaf q46) (ok_leaf q47))) (ok_bif (ok_bif (ok_leaf q50) (ok_leaf q51)) (ok_bif (ok_leaf q52) (ok_bif (ok_leaf q53) (ok_leaf q54)))))) (ok_bif (ok_bif (ok_bif (ok_bif (ok_leaf q55) (ok_leaf q56)) (ok_bif (ok_leaf q57) (ok_leaf q58))) (ok_bif (ok_bif (ok_leaf q60) (ok_leaf q61)) (ok_bif (ok_leaf q62) (ok_leaf q63)))) (ok_bif (ok_bif (ok_bif (ok_leaf q64) (ok_leaf q66)) (ok_bif (ok_leaf q67) (ok_leaf q68))) (ok_bif (ok_bif (ok_leaf q70) (ok_leaf q71)) (ok_bif (ok_leaf q72) (ok_bif (ok_leaf q74) (ok_leaf q75))))))))
theorem tab : TabOK Try.prog (fun _ => none) pu vp := tabOK_of tabs (by kernel_rfl)
theorem own : ownKnob Try.prog.godebug = none := by kernel_rfl
theorem lay : laidOutB Try.prog = true := by kernel_rfl
theorem alive_ok (h : Heap) : callF vp 2000 4 [] h = some (.bool true, h) := by kernel_rfl
theorem contract (H : Type) (enc : TypeId × Value → H) (W : World) (base : Nat) (args : Array Value) (ds gs : List (DataW H)) (before : List MemPlace)
    (hval : ∀ (j : Nat) t v, Try.f3.params[j]? = some t → args[j]? = some v → Value.okWide Try.prog W .any base t v)
    (hW : DataW.Whole enc Try.prog Try.f3.params.toList Rows.modelAdmitsSpec.vars false W args.toList ds gs before) :
    Calls Try.prog 3 args W fun e W' => ∃ v, e = .returned v ∧ Rows.modelAdmitsSpec.post enc Try.prog Try.f3 false true false false W args v W' := by
  have hW' := hW
  obtain ⟨p, q, hA0, hV, rfl, hfz, hnd⟩ := hW
  have hA : DataW.TrodAll enc Try.prog W 0 (fun _ => true) true Try.f3.params.toList args.toList ds p := hA0
  rw [Try.params3] at hA hval
  obtain ⟨v0, vs, d0, ds', p0, q0, ha0, rfl, rfl, t0, hr⟩ := trodAll_cons hA
  have hr' : DataW.TrodAll enc Try.prog W 0 (fun _ => true) true [22, 36, 22, 27] vs.toArray.toList ds' q0 := by simpa using hr
  obtain ⟨v1, v2, v3, v4, d1, d2, d3, d4, p1, p2, p3, p4, hvs, rfl, rfl, t1, t2, t3, t4⟩ := trodAll_four hr'
  have hvs' : vs = [v1, v2, v3, v4] := by simpa using congrArg Array.toList hvs
  have hargs : args = #[v0, v1, v2, v3, v4] := by
    rw [hvs'] at ha0
    cases args
    simp_all
  subst hargs
  obtain ⟨rfl, rfl⟩ := trodVars_none hV
  simp only [List.append_nil] at hW'
  have s0 : shOf Try.prog 12 35 = some shA := by kernel_rfl
  have s1 : shOf Try.prog 12 22 = some (.int .u32) := by kernel_rfl
  have s2 : shOf Try.prog 12 36 = some (.int .u16) := by kernel_rfl
  have s4 : shOf Try.prog 12 27 = some (.int .u64) := by kernel_rfl
  have st : (∃ fs, Try.prog.underlying 35 = some (.struct fs)) ∨ ∃ n e, Try.prog.underlying 35 = some (.array n e) := .inl ⟨_, Try.underlying35⟩
  have ns1 : ∀ fs, Try.prog.underlying 22 ≠ some (.struct fs) := fun fs h => by rw [Try.underlying22] at h; cases h
  have na1 : ∀ n e, Try.prog.underlying 22 ≠ some (.array n e) := fun n e h => by rw [Try.underlying22] at h; cases h
  have ns2 : ∀ fs, Try.prog.underlying 36 ≠ some (.struct fs) := fun fs h => by rw [Try.underlying36] at h; cases h
  have na2 : ∀ n e, Try.prog.underlying 36 ≠ some (.array n e) := fun n e h => by rw [Try.underlying36] at h; cases h
  have ns4 : ∀ fs, Try.prog.underlying 27 ≠ some (.struct fs) := fun fs h => by rw [Try.underlying27] at h; cases h
  have na4 : ∀ n e, Try.prog.underlying 27 ≠ some (.array n e) := fun n e h => by rw [Try.underlying27] at h; cases h
  obtain ⟨a, ea, to, tu, te⟩ := fitA (arg_rel s0 t0 (fun _ => rfl)).2.2
  obtain ⟨us, rfl, w1⟩ := fitI (arg_rel s1 t1 (fun _ => rfl)).2.2
  obtain ⟨ep, rfl, w2⟩ := fitI (arg_rel s2 t2 (fun _ => rfl)).2.2
  obtain ⟨co, rfl, w3⟩ := fitI (arg_rel s1 t3 (fun _ => rfl)).2.2
  obtain ⟨ti, rfl, w4⟩ := fitI (arg_rel s4 t4 (fun _ => rfl)).2.2
  have r0 := arg_agg s0 t0 (fun _ => rfl) (hval 0 _ _ rfl rfl) st
  rw [ea] at r0
  have r1 : VRel (rowsOf W) (fun _ => none) (.int .u32 us) v1 := arg_one s1 t1 (fun _ => rfl) (hval 1 _ _ rfl rfl) ns1 na1 (by simp [dvs])
  have r2 : VRel (rowsOf W) (fun _ => none) (.int .u16 ep) v2 := arg_one s2 t2 (fun _ => rfl) (hval 2 _ _ rfl rfl) ns2 na2 (by simp [dvs])
  have r3 : VRel (rowsOf W) (fun _ => none) (.int .u32 co) v3 := arg_one s1 t3 (fun _ => rfl) (hval 3 _ _ rfl rfl) ns1 na1 (by simp [dvs])
  have r4 : VRel (rowsOf W) (fun _ => none) (.int .u64 ti) v4 := arg_one s4 t4 (fun _ => rfl) (hval 4 _ _ rfl rfl) ns4 na4 (by simp [dvs])
  have k1 : us ≤ 4294967295 ∧ 0 ≤ us := by
    simp only [Lit.wf, Bool.and_eq_true, decide_eq_true_eq] at w1
    have e : IntKind.u32.max = 4294967295 := rfl
    have e2 : IntKind.u32.min = 0 := rfl
    omega
  have k2 : ep ≤ 65535 ∧ 0 ≤ ep := by
    simp only [Lit.wf, Bool.and_eq_true, decide_eq_true_eq] at w2
    have e : IntKind.u16.max = 65535 := rfl
    have e2 : IntKind.u16.min = 0 := rfl
    omega
  have k3 : 0 ≤ co ∧ co < 4294967296 := by
    simp only [Lit.wf, Bool.and_eq_true, decide_eq_true_eq] at w3
    have e : IntKind.u32.max = 4294967295 := rfl
    have e2 : IntKind.u32.min = 0 := rfl
    omega
  obtain ⟨n, e⟩ := callRes_run (top ⟨at3, at4, at5, at6, at7, at8, at9, at10, at11, at12, at13, at14, at15, at16, at17, at18, at19, at20, at21, at22, at23, at24, at25, at26, at27, at28, at29, at30, at31, at32, at33, at34, at35, at36, at37, at38, at39, at40, at41, at42, at43, at44, at45, at46, at47, at50, at51, at52, at53, at54, at55, at56, at57, at58, at60, at61, at62, at63, at64, at66, at67, at68, at70, at71, at72, at74, at75⟩ (fun h => callRes_of (alive_ok h)) a us ep co ti k1.1 k2.2 k2.1 k3 (wf_u64 w4) to tu te h0)
  have hrel : VRels (rowsOf W) (fun _ => none) [.agg (encA a), .int .u32 us, .int .u16 ep, .int .u32 co, .int .u64 ti] [v0, v1, v2, v3, v4] := VRels.cons_iff.2 ⟨_, _, rfl, r0, VRels.cons_iff.2 ⟨_, _, rfl, r1, VRels.cons_iff.2 ⟨_, _, rfl, r2, VRels.cons_iff.2 ⟨_, _, rfl, r3, VRels.cons_iff.2 ⟨_, _, rfl, r4, VRels.nil⟩⟩⟩⟩⟩
  refine (law_run tab (fun g cs h => by cases h) hrel rfl e).mono fun e W' ⟨he, hb⟩ => ?_
  subst he
  have hlt := hW'.lt
  have stay := fun (sp : Nat → Bool) (hsp : ∀ x ∈ p0 ++ (p1 ++ p2 ++ p3 ++ p4), sp x.block = true) (t : TypeId) (v : Value) (d : DataW H) (ps : List MemPlace) (hr : Try.prog.readableRec t = true) (hrow : t < Try.prog.types.size) (h : DataW.Trod enc Try.prog W 0 (fun _ => true) true t v d ps) (hin : ∀ x ∈ ps, x ∈ p0 ++ (p1 ++ p2 ++ p3 ++ p4)) =>
    WideElems.Trod_stays (sp' := sp) lay hr hrow h (fun x hx => hb.same (hlt x (hin x hx))) (fun x hx => hsp x (hin x hx))
  refine ⟨_, rfl, post_of_below (pa := p0 ++ (p1 ++ (p2 ++ (p3 ++ p4)))) (pv := []) hW' (fun _ _ _ => trodAll_cons_mk (shut_bool Try.underlying4 _) trodAll_mk0) (fun sp hsp => ?_) (fun _ _ => rfl) (by simp) hb
    (ok_one (by kernel_rfl) rfl (okWide_bool_mk Try.underlying4 _))⟩
  rw [Try.params3]
  exact trodAll_cons_mk (stay sp hsp _ _ _ _ (by kernel_rfl) (of_decide_eq_true (by kernel_rfl)) t0 (by simp +contextual)) (trodAll_mk4 (stay sp hsp _ _ _ _ (by kernel_rfl) (of_decide_eq_true (by kernel_rfl)) t1 (by simp +contextual)) (stay sp hsp _ _ _ _ (by kernel_rfl) (of_decide_eq_true (by kernel_rfl)) t2 (by simp +contextual)) (stay sp hsp _ _ _ _ (by kernel_rfl) (of_decide_eq_true (by kernel_rfl)) t3 (by simp +contextual)) (stay sp hsp _ _ _ _ (by kernel_rfl) (of_decide_eq_true (by kernel_rfl)) t4 (by simp +contextual)))
theorem lifted (os : Os) (started : os.Started) (H : Type) (enc : TypeId × Value → H) :
    ReturnsInHanded {} Try.checked os 3 .any (Rows.modelAdmitsSpec.pre6 enc Try.prog Try.f3 [] false) (Rows.modelAdmitsSpec.post enc Try.prog Try.f3 false true false false) := by
  refine returnsInHanded_of_change own started (by kernel_rfl) Try.func3 (ChangeSpec.witness6 (fn := Try.f3) false ⟨#[], #[.agg #[.int .u32 0, .int .i64 0, .int .i64 0, .int .i64 0, .int .i64 0, .int .i64 0, .int .i64 0, .int .i64 0, .int .i64 0, .int .i64 0, .int .i64 0, .int .i64 0, .int .i64 0, .int .i64 0, .int .i64 0, .int .i64 0, .int .i64 0, .int .u64 0, .slice none 0 0, .slice none 0 0, .slice none 0 0, .int .u64 0, .int .u64 0, .int .u64 0], .int .u32 0, .int .u16 0, .int .u32 0, .int .u64 0], []⟩ 8 (by kernel_rfl) (by kernel_rfl) (by kernel_rfl) (by kernel_rfl)) ?_
  intro W base args ds gs before hval hW _ _
  exact contract H enc W base args ds gs before hval hW
theorem said : Rows.ModelAdmitsSaid :=
  OpenClaim.holds_of_wide 3 Try.f3 rfl rfl rfl rfl rfl rfl rfl ⟨rfl, rfl, rfl, rfl, rfl⟩ rfl rfl rfl rfl rfl (by kernel_rfl) Try.func3 (by kernel_rfl)
    (of_decide_eq_true (by kernel_rfl)) (by unfold Func.isWrapper; first | (rw [if_pos (by decide +kernel)]; kernel_rfl) | (rw [if_neg (by decide +kernel)]; exact ⟨rfl, rfl⟩))
    (fun os started H enc _ => lifted os started H enc)
theorem proved : Rows.ModelAdmitsSaid := said
#print axioms proved
end Go.Proofs.Ytnmneadmlcpaoaa.modelAdmits
