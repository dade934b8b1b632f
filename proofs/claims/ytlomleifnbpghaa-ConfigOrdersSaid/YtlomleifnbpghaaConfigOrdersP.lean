/- The law ConfigOrders: whatever the heap and the world, and whatever its three arguments: it returns true, and the arguments read as they did. -/
import Derived.Test.YtlomleifnbpghaaConfigOrdersC1
import Derived.Test.YtlomleifnbpghaaConfigOrdersC2
import Derived.Test.YtlomleifnbpghaaConfigOrdersC3
import Derived.Test.YtlomleifnbpghaaConfigOrdersA12
import Derived.Test.YtlomleifnbpghaaVeFit
import Derived.Test.YtlomleifnbpghaaRows
import Derived.WalkKit
import Derived.ProofKit
import Derived.OpenShut
import Derived.Carry
import Derived.Deep.DeepHandedRow
set_option linter.all false
namespace Go.Proofs.Ytlomleifnbpghaa.configOrders
open Go Go.VE Go.VE.CO Go.ChangeShapes Go.WideShapes Go.ChangeAt Go.RowKit
set_option maxRecDepth 100000
theorem tabs (i : Nat) : TabOk Try.prog (fun _ => none) pu i (vp i) := by
  unfold vp
  exact (ok_bif (ok_bif (ok_bif (ok_bif (ok_leaf q3) (ok_bif (ok_leaf q4) (ok_leaf q5))) (ok_bif (ok_bif (ok_leaf q6) (ok_leaf q7)) (ok_bif (ok_leaf q8) (ok_leaf q9)))) (ok_bif (ok_bif (ok_bif (ok_leaf q10) (ok_leaf q11)) (ok_bif (ok_leaf q12) (ok_leaf q13))) (ok_bif (ok_bif (ok_leaf q14) (ok_leaf q15)) (ok_bif (ok_leaf q16) (ok_leaf q17))))) (ok_bif (ok_bif (ok_bif (ok_leaf q18) (ok_bif (ok_leaf q19) (ok_leaf q20))) (ok_bif (ok_bif (ok_leaf q21) (ok_leaf q22)) (ok_bif (ok_leaf q23) (ok_leaf q24)))) (ok_bif (ok_bif (ok_bif (ok_leaf q25) (ok_leaf q26)) (ok_bif (ok_leaf q27) (ok_leaf q28))) (ok_bif (ok_bif (ok_leaf q29) (ok_leaf q30)) (ok_bif (ok_leaf q31) (ok_leaf q32))))))
theorem tab : TabOK Try.prog (fun _ => none) pu vp := tabOK_of tabs (by kernel_rfl)
theorem own : ownKnob Try.prog.godebug = none := by kernel_rfl
theorem lay : laidOutB Try.prog = true := by kernel_rfl
theorem contract (H : Type) (enc : TypeId × Value → H) (W : World) (base : Nat) (args : Array Value) (ds gs : List (DataW H)) (before : List MemPlace)
    (hval : ∀ (j : Nat) t v, Try.f3.params[j]? = some t → args[j]? = some v → Value.okWide Try.prog W .any base t v)
    (hW : DataW.Whole enc Try.prog Try.f3.params.toList Rows.configOrdersSpec.vars false W args.toList ds gs before) :
    Calls Try.prog 3 args W fun e W' => ∃ v, e = .returned v ∧ Rows.configOrdersSpec.post enc Try.prog Try.f3 false true false false W args v W' := by
  have hW' := hW
  obtain ⟨p, q, hA0, hV, rfl, hfz, hnd⟩ := hW
  have hA : DataW.TrodAll enc Try.prog W 0 (fun _ => true) true Try.f3.params.toList args.toList ds p := hA0
  rw [Try.params3] at hA hval
  obtain ⟨v0, v1, v2, d0, d1, d2, p0, p1, p2, rfl, rfl, rfl, t0, t1, t2⟩ := trodAll_three hA
  obtain ⟨rfl, rfl⟩ := trodVars_none hV
  simp only [List.append_nil] at hW'
  have s0 : shOf Try.prog 8 22 = some (.sl shS) := by kernel_rfl
  have s2 : shOf Try.prog 8 23 = some (.int .u64) := by kernel_rfl
  have ns : ∀ fs, Try.prog.underlying 22 ≠ some (.struct fs) := fun fs h => by rw [Try.underlying22] at h; cases h
  have na : ∀ n e, Try.prog.underlying 22 ≠ some (.array n e) := fun n e h => by rw [Try.underlying22] at h; cases h
  have ns2 : ∀ fs, Try.prog.underlying 23 ≠ some (.struct fs) := fun fs h => by rw [Try.underlying23] at h; cases h
  have na2 : ∀ n e, Try.prog.underlying 23 ≠ some (.array n e) := fun n e h => by rw [Try.underlying23] at h; cases h
  obtain ⟨a, ea, la⟩ := fit_sl (enc := encS) (fun _ => fitS) (arg_rel s0 t0 (fun _ => rfl)).2.2
  obtain ⟨b, eb, lb⟩ := fit_sl (enc := encS) (fun _ => fitS) (arg_rel s0 t1 (fun _ => rfl)).2.2
  obtain ⟨ex, rfl⟩ := fitI (arg_rel s2 t2 (fun _ => rfl)).2.2
  have r0 := arg_one s0 t0 (fun _ => rfl) (hval 0 _ _ rfl rfl) ns na ea
  have r1 := arg_one s0 t1 (fun _ => rfl) (hval 1 _ _ rfl rfl) ns na eb
  have r2 : VRel (rowsOf W) (fun _ => none) (.int .u64 ex) v2 := arg_one s2 t2 (fun _ => rfl) (hval 2 _ _ rfl rfl) ns2 na2 (by simp [dvs])
  obtain ⟨n, e⟩ := callRes_run (law3 ⟨at3, at4, at5, at6, at7, at8, at9, at10, at11, at12, at13, at14, at15, at16, at17, at18, at19, at20, at21, at22, at23, at24, at25, at26, at27, at28, at29, at30, at31, at32⟩ a b ex h0 la lb)
  have hrel : VRels (rowsOf W) (fun _ => none) [a.v encS, b.v encS, .int .u64 ex] [v0, v1, v2] := VRels.cons_iff.2 ⟨_, _, rfl, r0, VRels.cons_iff.2 ⟨_, _, rfl, r1, VRels.cons_iff.2 ⟨_, _, rfl, r2, VRels.nil⟩⟩⟩
  refine (law_run tab (fun g cs h => by cases h) hrel rfl e).mono fun e W' ⟨he, hb⟩ => ?_
  subst he
  have hlt := hW'.lt
  have st := fun (sp : Nat → Bool) (hsp : ∀ x ∈ p0 ++ p1 ++ p2, sp x.block = true) (t : TypeId) (v : Value) (d : DataW H) (ps : List MemPlace) (hr : Try.prog.readableRec t = true) (hrow : t < Try.prog.types.size) (h : DataW.Trod enc Try.prog W 0 (fun _ => true) true t v d ps) (hin : ∀ x ∈ ps, x ∈ p0 ++ p1 ++ p2) =>
    WideElems.Trod_stays (sp' := sp) lay hr hrow h (fun x hx => hb.same (hlt x (hin x hx))) (fun x hx => hsp x (hin x hx))
  refine ⟨_, rfl, post_of_below (pa := p0 ++ (p1 ++ p2)) (pv := []) hW' (fun _ _ _ => trodAll_cons_mk (shut_bool Try.underlying4 _) trodAll_mk0) (fun sp hsp => ?_) (fun _ _ => rfl) (by simp) hb
    (ok_one (by kernel_rfl) rfl (okWide_bool_mk Try.underlying4 _))⟩
  rw [Try.params3]
  exact trodAll_mk3 (st sp hsp _ _ _ _ (by kernel_rfl) (of_decide_eq_true (by kernel_rfl)) t0 (by simp +contextual)) (st sp hsp _ _ _ _ (by kernel_rfl) (of_decide_eq_true (by kernel_rfl)) t1 (by simp +contextual)) (st sp hsp _ _ _ _ (by kernel_rfl) (of_decide_eq_true (by kernel_rfl)) t2 (by simp +contextual))
theorem lifted (os : Os) (started : os.Started) (H : Type) (enc : TypeId × Value → H) :
    ReturnsInHanded {} Try.checked os 3 .any (Rows.configOrdersSpec.pre6 enc Try.prog Try.f3 [] false) (Rows.configOrdersSpec.post enc Try.prog Try.f3 false true false false) := by
  refine returnsInHanded_of_change own started (by kernel_rfl) Try.func3 (ChangeSpec.witness6 (fn := Try.f3) false ⟨#[], #[.slice none 0 0, .slice none 0 0, .int .u64 0], []⟩ 8 (by kernel_rfl) (by kernel_rfl) (by kernel_rfl) (by kernel_rfl)) ?_
  intro W base args ds gs before hval hW _ _
  exact contract H enc W base args ds gs before hval hW
theorem said : Rows.ConfigOrdersSaid :=
  OpenClaim.holds_of_wide 3 Try.f3 rfl rfl rfl rfl rfl rfl rfl ⟨rfl, rfl, rfl, rfl, rfl⟩ rfl rfl rfl rfl rfl (by kernel_rfl) Try.func3 (by kernel_rfl)
    (of_decide_eq_true (by kernel_rfl)) (by unfold Func.isWrapper; first | (rw [if_pos (by decide +kernel)]; kernel_rfl) | (rw [if_neg (by decide +kernel)]; exact ⟨rfl, rfl⟩))
    (fun os started H enc _ => lifted os started H enc)
theorem proved : Rows.ConfigOrdersSaid := said
#print axioms proved
end Go.Proofs.Ytlomleifnbpghaa.configOrders
