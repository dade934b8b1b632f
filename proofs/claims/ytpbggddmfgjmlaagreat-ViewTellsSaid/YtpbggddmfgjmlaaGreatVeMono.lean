/- A part of a proof that a small evaluator of the translated code agrees with the model (part Mono). No statement of the program stands here. -/
import Derived.Test.YtpbggddmfgjmlaaGreatVeCore
set_option linter.all false
section
namespace Go.VE
section
variable (vp : Nat → Option VFn)
def Mon (n m : Nat) : Prop :=
  (∀ c s h r, exec vp n c s h = some r → exec vp m c s h = some r) ∧
  (∀ ops s h r, runOps vp n ops s h = some r → runOps vp m ops s h = some r) ∧
  (∀ o s h r, stepOp vp n o s h = some r → stepOp vp m o s h = some r) ∧
  (∀ x args h r, callV vp n x args h = some r → callV vp m x args h = some r) ∧
  (∀ f args h r, callF vp n f args h = some r → callF vp m f args h = some r)
theorem mon_step {n m : Nat} (ih : Mon vp n m) : Mon vp (n + 1) (m + 1) := by
 obtain ⟨i1, i2, i3, i4, i5⟩ := ih
 refine ⟨?_, ?_, ?_, ?_, ?_⟩
 ·intro c s h r he
  cases c with
  | skip => simpa only [exec] using he
  | reg ops chk =>
   simp only [exec] at he ⊢
   cases hr : runOps vp n ops s h with
   | none => rw [hr] at he; cases he
   | some q => rw [hr] at he; rw [i2 _ _ _ _ hr]; exact he
  | seq a b =>
   simp only [exec] at he ⊢
   cases hr : exec vp n a s h with
   | none => rw [hr] at he; cases he
   | some q =>
    rw [hr] at he
    rw [i1 _ _ _ _ hr]
    obtain ⟨x, s1, h1⟩ := q
    cases x with
    | norm => exact i1 _ _ _ _ he
    | exit i => exact he
    | ret => exact he
  | cond g a b =>
   simp only [exec] at he ⊢
   split at he
   ·exact i1 _ _ _ _ he
   ·exact i1 _ _ _ _ he
   ·cases he
  | block id c =>
   simp only [exec] at he ⊢
   cases hr : exec vp n c s h with
   | none => rw [hr] at he; cases he
   | some q => rw [hr] at he; rw [i1 _ _ _ _ hr]; exact he
  | loop c =>
   simp only [exec] at he ⊢
   cases hr : exec vp n c s h with
   | none => rw [hr] at he; cases he
   | some q =>
    rw [hr] at he
    rw [i1 _ _ _ _ hr]
    obtain ⟨x, s1, h1⟩ := q
    cases x with
    | norm => exact i1 _ _ _ _ he
    | exit i => exact he
    | ret => exact he
  | exit i => simpa only [exec] using he
  | ret => simpa only [exec] using he
  | scope c =>
   simp only [exec] at he ⊢
   exact i1 _ _ _ _ he
  | rngf f ps asg body =>
   simp only [exec] at he ⊢
   cases hf : f.ev s with
   | fn g caps =>
    rw [hf] at he
    simp only at he ⊢
    cases hr : callF vp n g (.yld h.nx :: caps) (h.new (.loop 0 none s ps asg body)) with
    | none => rw [hr] at he; cases he
    | some q => rw [hr] at he; rw [i5 _ _ _ _ hr]; exact he
   | _ => rw [hf] at he; cases he
 ·intro ops s h r he
  cases ops with
  | nil => simpa only [runOps] using he
  | cons o rest =>
   simp only [runOps] at he ⊢
   cases hg : gEval o.g s with
   | none => rw [hg] at he; cases he
   | some t =>
    rw [hg] at he
    cases t with
    | true =>
     simp only at he ⊢
     cases hr : stepOp vp n o.op s h with
     | none => rw [hr] at he; cases he
     | some q => rw [hr] at he; rw [i3 _ _ _ _ hr]; exact i2 _ _ _ _ he
    | false => exact i2 _ _ _ _ he
 ·intro o s h r he
  cases o with
  | call f args => simp only [stepOp] at he ⊢; exact i5 _ _ _ _ he
  | callp f args =>
   simp only [stepOp] at he ⊢
   split at he
   ·split at he
    ·rw [Bool.cond_eq_ite] at he ⊢
     split at he
     ·rename_i hm; rw [if_pos hm]; exact i5 _ _ _ _ he
     ·cases he
    ·cases he
   ·cases he
  | callo f args =>
   simp only [stepOp] at he ⊢
   split at he
   ·split at he
    ·rw [Bool.cond_eq_ite] at he ⊢
     split at he
     ·rename_i hm; rw [if_pos hm]; exact i5 _ _ _ _ he
     ·cases he
    ·cases he
   ·cases he
  | callc f args t =>
   simp only [stepOp] at he ⊢
   split at he
   ·rw [Bool.cond_eq_ite] at he ⊢
    split at he
    ·rename_i hm
     rw [if_pos hm]
     split at he
     ·rename_i hr
      rw [i5 _ _ _ _ hr]
      exact he
     ·cases he
    ·cases he
   ·cases he
  | callv x args => simp only [stepOp] at he ⊢; exact i4 _ _ _ _ he
  | callvo x args =>
   simp only [stepOp] at he ⊢
   split at he
   ·split at he
    ·split at he
     ·rw [Bool.cond_eq_ite] at he ⊢
      split at he
      ·rename_i hm; rw [if_pos hm]; exact i5 _ _ _ _ he
      ·cases he
     ·cases he
    ·cases he
   ·cases he
  | _ => simpa only [stepOp] using he
 ·intro x args h r he
  unfold callV at he ⊢
  simp only at he ⊢
  split at he
  ·exact i5 _ _ _ _ he
  ·rename_i b
   rw [Bool.cond_eq_ite] at he ⊢
   split at he
   ·cases he
   ·rename_i hb
    rw [if_neg hb]
    split at he
    ·rename_i pd tm ps asg body hg
     rw [Bool.cond_eq_ite] at he ⊢
     split at he
     ·rename_i hl
      rw [if_pos hl]
      cases hr : exec vp n asg ((ps.zip args).foldl (fun s p => s.set p.1 p.2) tm) h with
      | none => rw [hr] at he; cases he
      | some q =>
       rw [hr] at he
       rw [i1 _ _ _ _ hr]
       obtain ⟨x1, s1, h1⟩ := q
       cases x1 with
       | norm =>
        simp only at he ⊢
        split at he
        ·rename_i pd1 tm1 ps1 asg1 body1 hg1
         cases hr2 : exec vp n body s1 (h1.set b (.loop 1 pd1 tm1 ps1 asg1 body1)) with
         | none => rw [hr2] at he; cases he
         | some q2 => rw [hr2] at he; rw [i1 _ _ _ _ hr2]; exact he
        ·cases he
       | exit i => cases he
       | ret => cases he
     ·cases he
    ·cases he
  ·cases he
 ·intro f args h r he
  simp only [callF] at he ⊢
  split at he
  ·cases he
  ·rename_i fn hfn
   split at he
   ·exact he
   ·rename_i hprim
    split at he
    ·rename_i as _
     cases hr : exec vp n fn.body (argSlots as) h0 with
     | none => rw [hr] at he; cases he
     | some q => rw [hr] at he; rw [i1 _ _ _ _ hr]; exact he
    ·cases hr : exec vp n fn.body (argSlots args) (enterH fn.mode h) with
     | none => rw [hr] at he; cases he
     | some q => rw [hr] at he; rw [i1 _ _ _ _ hr]; exact he
theorem mono1 : ∀ n : Nat, Mon vp n (n + 1)
 | 0 => ⟨fun _ _ _ _ h => by simp [exec] at h, fun _ _ _ _ h => by simp [runOps] at h, fun _ _ _ _ h => by simp [stepOp] at h, fun _ _ _ _ h => by simp [callV] at h, fun _ _ _ _ h => by simp [callF] at h⟩
 | n + 1 => mon_step vp (mono1 n)
theorem exec_mono {n m : Nat} (hnm : n ≤ m) {c : VCode} {s : Slots} {h : Heap} {r : VX × Slots × Heap} (he : exec vp n c s h = some r) : exec vp m c s h = some r := by
 induction hnm with
 | refl => exact he
 | step _ ih => exact (mono1 vp _).1 _ _ _ _ ih
theorem runOps_mono {n m : Nat} (hnm : n ≤ m) {c : List VOper} {s : Slots} {h : Heap} {r : Slots × Heap} (he : runOps vp n c s h = some r) : runOps vp m c s h = some r := by
 induction hnm with
 | refl => exact he
 | step _ ih => exact (mono1 vp _).2.1 _ _ _ _ ih
theorem stepOp_mono {n m : Nat} (hnm : n ≤ m) {c : VOp} {s : Slots} {h : Heap} {r : V × Heap} (he : stepOp vp n c s h = some r) : stepOp vp m c s h = some r := by
 induction hnm with
 | refl => exact he
 | step _ ih => exact (mono1 vp _).2.2.1 _ _ _ _ ih
theorem callV_mono {n m : Nat} (hnm : n ≤ m) {c : V} {s : List V} {h : Heap} {r : V × Heap} (he : callV vp n c s h = some r) : callV vp m c s h = some r := by
 induction hnm with
 | refl => exact he
 | step _ ih => exact (mono1 vp _).2.2.2.1 _ _ _ _ ih
theorem callF_mono {n m : Nat} (hnm : n ≤ m) {c : Nat} {s : List V} {h : Heap} {r : V × Heap} (he : callF vp n c s h = some r) : callF vp m c s h = some r := by
 induction hnm with
 | refl => exact he
 | step _ ih => exact (mono1 vp _).2.2.2.2 _ _ _ _ ih
end
end Go.VE
end

