/- A part of a proof that a small evaluator of the translated code agrees with the model (part Fast). No statement of the program stands here. -/
import Derived.Test.YtpfffhfempgmaaaGreatDoorVeCore
set_option linter.all false
section
namespace Go.VE
section
variable (vp : Nat → Option VFn)

def Mon (n m : Nat) : Prop :=
    (∀ c s h r, exec vp n c s h = some r → exec vp m c s h = some r) ∧
    (∀ ops s h r, runOps vp n ops s h = some r → runOps vp m ops s h = some r) ∧
    (∀ o s h r, stepOp vp n o s h = some r → stepOp vp m o s h = some r) ∧
    (∀ x args h r, callV vp n x args h = some r → callV vp m x args h = some r) ∧
    (∀ f args h r, callF vp n f args h = some r → callF vp m f args h = some r)

theorem mon_step {n m : Nat} (ih : Mon vp n m) : Mon vp (n + 1) (m + 1) := by
  obtain ⟨i1, i2, i3, i4, i5⟩ := ih
  refine ⟨?_, ?_, ?_, ?_, ?_⟩
  · intro c s h r he
    cases c with
    | skip => simpa only [exec] using he
    | reg ops chk =>
      simp only [exec] at he ⊢
      cases hr : runOps vp n ops s h with
      | none => rw [hr] at he; cases he
      | some q => rw [hr] at he; rw [i2 _ _ _ _ hr]; exact he
    | seq a b =>
      simp only [exec] at he ⊢
      cases hr : exec vp n a s h with
      | none => rw [hr] at he; cases he
      | some q =>
        rw [hr] at he
        rw [i1 _ _ _ _ hr]
        obtain ⟨x, s1, h1⟩ := q
        cases x with
        | norm => exact i1 _ _ _ _ he
        | exit i => exact he
        | ret => exact he
    | cond g a b =>
      simp only [exec] at he ⊢
      split at he
      · exact i1 _ _ _ _ he
      · exact i1 _ _ _ _ he
      · cases he
    | block id c =>
      simp only [exec] at he ⊢
      cases hr : exec vp n c s h with
      | none => rw [hr] at he; cases he
      | some q => rw [hr] at he; rw [i1 _ _ _ _ hr]; exact he
    | loop c =>
      simp only [exec] at he ⊢
      cases hr : exec vp n c s h with
      | none => rw [hr] at he; cases he
      | some q =>
        rw [hr] at he
        rw [i1 _ _ _ _ hr]
        obtain ⟨x, s1, h1⟩ := q
        cases x with
        | norm => exact i1 _ _ _ _ he
        | exit i => exact he
        | ret => exact he
    | exit i => simpa only [exec] using he
    | ret => simpa only [exec] using he
    | scope c =>
      simp only [exec] at he ⊢
      exact i1 _ _ _ _ he
    | rngf f ps asg body =>
      simp only [exec] at he ⊢
      cases hf : f.ev s with
      | fn g caps =>
        rw [hf] at he
        simp only at he ⊢
        cases hr : callF vp n g (.yld h.nx :: caps) (h.new (.loop 0 none s ps asg body)) with
        | none => rw [hr] at he; cases he
        | some q => rw [hr] at he; rw [i5 _ _ _ _ hr]; exact he
      | _ => rw [hf] at he; cases he
  · intro ops s h r he
    cases ops with
    | nil => simpa only [runOps] using he
    | cons o rest =>
      simp only [runOps] at he ⊢
      cases hg : gEval o.g s with
      | none => rw [hg] at he; cases he
      | some t =>
        rw [hg] at he
        cases t with
        | true =>
          simp only at he ⊢
          cases hr : stepOp vp n o.op s h with
          | none => rw [hr] at he; cases he
          | some q => rw [hr] at he; rw [i3 _ _ _ _ hr]; exact i2 _ _ _ _ he
        | false => exact i2 _ _ _ _ he
  · intro o s h r he
    cases o with
    | call f args => simp only [stepOp] at he ⊢; exact i5 _ _ _ _ he
    | callp f args =>
      simp only [stepOp] at he ⊢
      split at he
      · split at he
        · rw [Bool.cond_eq_ite] at he ⊢
          split at he
          · rename_i hm; rw [if_pos hm]; exact i5 _ _ _ _ he
          · cases he
        · cases he
      · cases he
    | callo f args =>
      simp only [stepOp] at he ⊢
      split at he
      · split at he
        · rw [Bool.cond_eq_ite] at he ⊢
          split at he
          · rename_i hm; rw [if_pos hm]; exact i5 _ _ _ _ he
          · cases he
        · cases he
      · cases he
    | callc f args t =>
      simp only [stepOp] at he ⊢
      split at he
      · rw [Bool.cond_eq_ite] at he ⊢
        split at he
        · rename_i hm
          rw [if_pos hm]
          split at he
          · rename_i hr
            rw [i5 _ _ _ _ hr]
            exact he
          · cases he
        · cases he
      · cases he
    | callv x args => simp only [stepOp] at he ⊢; exact i4 _ _ _ _ he
    | callvo x args =>
      simp only [stepOp] at he ⊢
      split at he
      · split at he
        · split at he
          · rw [Bool.cond_eq_ite] at he ⊢
            split at he
            · rename_i hm; rw [if_pos hm]; exact i5 _ _ _ _ he
            · cases he
          · cases he
        · cases he
      · cases he
    | _ => simpa only [stepOp] using he
  · intro x args h r he
    unfold callV at he ⊢
    simp only at he ⊢
    split at he
    · exact i5 _ _ _ _ he
    · rename_i b
      rw [Bool.cond_eq_ite] at he ⊢
      split at he
      · cases he
      · rename_i hb
        rw [if_neg hb]
        split at he
        · rename_i pd tm ps asg body hg
          rw [Bool.cond_eq_ite] at he ⊢
          split at he
          · rename_i hl
            rw [if_pos hl]
            cases hr : exec vp n asg ((ps.zip args).foldl (fun s p => s.set p.1 p.2) tm) h with
            | none => rw [hr] at he; cases he
            | some q =>
              rw [hr] at he
              rw [i1 _ _ _ _ hr]
              obtain ⟨x1, s1, h1⟩ := q
              cases x1 with
              | norm =>
                simp only at he ⊢
                split at he
                · rename_i pd1 tm1 ps1 asg1 body1 hg1
                  cases hr2 : exec vp n body s1 (h1.set b (.loop 1 pd1 tm1 ps1 asg1 body1)) with
                  | none => rw [hr2] at he; cases he
                  | some q2 => rw [hr2] at he; rw [i1 _ _ _ _ hr2]; exact he
                · cases he
              | exit i => cases he
              | ret => cases he
          · cases he
        · cases he
    · cases he
  · intro f args h r he
    simp only [callF] at he ⊢
    split at he
    · cases he
    · rename_i fn hfn
      split at he
      · exact he
      · rename_i hprim
        split at he
        · rename_i as _
          cases hr : exec vp n fn.body (argSlots as) h0 with
          | none => rw [hr] at he; cases he
          | some q => rw [hr] at he; rw [i1 _ _ _ _ hr]; exact he
        · cases hr : exec vp n fn.body (argSlots args) (enterH fn.mode h) with
          | none => rw [hr] at he; cases he
          | some q => rw [hr] at he; rw [i1 _ _ _ _ hr]; exact he


theorem mono1 : ∀ n : Nat, Mon vp n (n + 1)
  | 0 => ⟨fun _ _ _ _ h => by simp [exec] at h, fun _ _ _ _ h => by simp [runOps] at h, fun _ _ _ _ h => by simp [stepOp] at h, fun _ _ _ _ h => by simp [callV] at h, fun _ _ _ _ h => by simp [callF] at h⟩
  | n + 1 => mon_step vp (mono1 n)

theorem exec_mono {n m : Nat} (hnm : n ≤ m) {c : VCode} {s : Slots} {h : Heap} {r : VX × Slots × Heap} (he : exec vp n c s h = some r) : exec vp m c s h = some r := by
  induction hnm with
  | refl => exact he
  | step _ ih => exact (mono1 vp _).1 _ _ _ _ ih
theorem runOps_mono {n m : Nat} (hnm : n ≤ m) {c : List VOper} {s : Slots} {h : Heap} {r : Slots × Heap} (he : runOps vp n c s h = some r) : runOps vp m c s h = some r := by
  induction hnm with
  | refl => exact he
  | step _ ih => exact (mono1 vp _).2.1 _ _ _ _ ih
theorem stepOp_mono {n m : Nat} (hnm : n ≤ m) {c : VOp} {s : Slots} {h : Heap} {r : V × Heap} (he : stepOp vp n c s h = some r) : stepOp vp m c s h = some r := by
  induction hnm with
  | refl => exact he
  | step _ ih => exact (mono1 vp _).2.2.1 _ _ _ _ ih
theorem callV_mono {n m : Nat} (hnm : n ≤ m) {c : V} {s : List V} {h : Heap} {r : V × Heap} (he : callV vp n c s h = some r) : callV vp m c s h = some r := by
  induction hnm with
  | refl => exact he
  | step _ ih => exact (mono1 vp _).2.2.2.1 _ _ _ _ ih
theorem callF_mono {n m : Nat} (hnm : n ≤ m) {c : Nat} {s : List V} {h : Heap} {r : V × Heap} (he : callF vp n c s h = some r) : callF vp m c s h = some r := by
  induction hnm with
  | refl => exact he
  | step _ ih => exact (mono1 vp _).2.2.2.2 _ _ _ _ ih
end
end Go.VE
end
section
namespace Go.VE

/-- What calls lead to. -/
structure CF where
  f : Nat → List V → Heap → Option (V × Heap)
  m : Nat → Option Nat
  v : V → List V → Heap → Option (V × Heap)

abbrev OpK := CF → Slots → Heap → Option (V × Heap)
abbrev RK := CF → Slots → Heap → Option (Slots × Heap)
abbrev FC := CF → Slots → Heap → Option (VX × Slots × Heap)

def o_mv (x : Opd) : OpK := fun _ s h => op_mv x s h
def o_pick (c : Opd) (a : Opd) (b : Opd) : OpK := fun _ s h => op_pick c a b s h
def o_alloc (t : Nat) (z : List V) : OpK := fun _ s h => op_alloc t z s h
def o_box (n : Nat) (x : Opd) : OpK := fun _ s h => op_box n x s h
def o_build (z : List V) (ps : List (Nat × Nat × Opd)) : OpK := fun _ s h => op_build z ps s h
def o_bsl (n : Nat) (sz : Nat) (z : List V) (ps : List (Nat × Nat × Opd)) : OpK := fun _ s h => op_bsl n sz z ps s h
def o_ld (n : Option Nat) (a : Opd) : OpK := fun _ s h => op_ld n a s h
def o_st (n : Nat) (a : Opd) (x : Opd) : OpK := fun _ s h => op_st n a x s h
def o_nck (x : Opd) : OpK := fun _ s h => op_nck x s h
def o_bin (op : BinOp) (x : Opd) (y : Opd) : OpK := fun _ s h => op_bin op x y s h
def o_eqb (neg : Bool) (x : Opd) (y : Opd) : OpK := fun _ s h => op_eqb neg x y s h
def o_eqn (neg : Bool) (k : Nat) (x : Opd) (y : Opd) : OpK := fun _ s h => op_eqn neg k x y s h
def o_eqa (neg : Bool) (ks : List Nat) (x : Opd) (y : Opd) : OpK := fun _ s h => op_eqa neg ks x y s h
def o_un (op : UnOp) (x : Opd) : OpK := fun _ s h => op_un op x s h
def o_cnv (k : IntKind) (x : Opd) : OpK := fun _ s h => op_cnv k x s h
def o_s2b (x : Opd) : OpK := fun _ s h => op_s2b x s h
def o_b2s (x : Opd) : OpK := fun _ s h => op_b2s x s h
def o_mkf (f : Nat) (caps : List Opd) : OpK := fun _ s h => op_mkf f caps s h
def o_mks (e bytes : Nat) (z : List V) (l : Opd) (c : Opd) : OpK := fun _ s h => op_mks e bytes z l c s h
def o_slc (sz : Nat) (x : Opd) (lo : Option Opd) (hi : Option Opd) (mx : Option Opd) : OpK := fun _ s h => op_slc sz x lo hi mx s h
def o_slcs (x : Opd) (lo : Option Opd) (hi : Option Opd) : OpK := fun _ s h => op_slcs x lo hi s h
def o_slca (n : Nat) (sz : Nat) (x : Opd) (lo : Option Opd) (hi : Option Opd) (mx : Option Opd) : OpK := fun _ s h => op_slca n sz x lo hi mx s h
def o_fa (off : Nat) (x : Opd) : OpK := fun _ s h => op_fa off x s h
def o_fld (off : Nat) (n : Option Nat) (x : Opd) : OpK := fun _ s h => op_fld off n x s h
def o_ia (sz : Nat) (x : Opd) (i : Opd) : OpK := fun _ s h => op_ia sz x i s h
def o_iaa (len : Nat) (sz : Nat) (x : Opd) (i : Opd) : OpK := fun _ s h => op_iaa len sz x i s h
def o_ix (len : Nat) (sz : Nat) (n : Option Nat) (x : Opd) (i : Opd) : OpK := fun _ s h => op_ix len sz n x i s h
def o_ixs (x : Opd) (i : Opd) : OpK := fun _ s h => op_ixs x i s h
def o_ext (i : Nat) (x : Opd) : OpK := fun _ s h => op_ext i x s h
def o_len (x : Opd) : OpK := fun _ s h => op_len x s h
def o_lens (x : Opd) : OpK := fun _ s h => op_lens x s h
def o_lenc (n : Nat) : OpK := fun _ s h => op_lenc n s h
def o_app (sz : Nat) (bytes : Nat) (a : Opd) (x : Opd) : OpK := fun _ s h => op_app sz bytes a x s h
def o_apps (e bytes : Nat) (a : Opd) (x : Opd) : OpK := fun _ s h => op_apps e bytes a x s h
def o_app0 (bytes : Nat) (z : List V) (a : Opd) (x : Opd) : OpK := fun _ s h => op_app0 bytes z a x s h
def o_cpy (sz : Nat) (d : Opd) (a : Opd) : OpK := fun _ s h => op_cpy sz d a s h
def o_cpys (d : Opd) (a : Opd) : OpK := fun _ s h => op_cpys d a s h
def o_mini (xs : List Opd) : OpK := fun _ s h => op_mini xs s h
def o_maxi (xs : List Opd) : OpK := fun _ s h => op_maxi xs s h
def o_mkif (t : Nat) (x : Opd) : OpK := fun _ s h => op_mkif t x s h
def o_carry (sub : Bool) (x : Opd) (y : Opd) (c : Opd) : OpK := fun _ s h => op_carry sub x y c s h
def o_tasrt (t : Nat) (ok : Bool) (z : V) (x : Opd) : OpK := fun _ s h => op_tasrt t ok z x s h
def o_rngs (x : Opd) : OpK := fun _ s h => op_rngs x s h
def o_nxts (x : Opd) : OpK := fun _ s h => op_nxts x s h
def o_mkmap  : OpK := fun _ s h => op_mkmap s h
def o_look (z : V) (ok : Bool) (m : Opd) (k : Opd) : OpK := fun _ s h => op_look z ok m k s h
def o_mupd (m : Opd) (k : Opd) (x : Opd) : OpK := fun _ s h => op_mupd m k x s h
def o_mdel (m : Opd) (k : Opd) : OpK := fun _ s h => op_mdel m k s h
def o_lenm (m : Opd) : OpK := fun _ s h => op_lenm m s h
def o_clr (x : Opd) (z : List V) : OpK := fun _ s h => op_clr x z s h
def o_pur (p : PureOp) (xs : List Opd) : OpK := fun _ s h => op_pur p xs s h
def o_eff (e : EffOp) (xs : List Opd) : OpK := fun _ s h => op_eff e xs s h
def o_mnz (e : Nat) (x : Opd) : OpK := fun _ s h => op_mnz e x s h
def o_bad : OpK := fun _ _ _ => none
def o_call (f : Nat) (args : List Opd) : OpK := fun cf s h => cf.f f (evs s args) h
def withMode (k : Nat) (m : Option Nat) (r : Option (V × Heap)) : Option (V × Heap) :=
  match m with
  | some m => bif Nat.beq m k then r else none
  | none => none
def o_callp (f : Nat) (args : List Opd) : OpK := fun cf s h => withMode 1 (cf.m f) (cf.f f (evs s args) h)
def o_callo (f : Nat) (args : List Opd) : OpK := fun cf s h => withMode 2 (cf.m f) (cf.f f (evs s args) h)
def o_callc (f : Nat) (args : List Opd) (t : Nat) : OpK := fun cf s h => match s.at t with
  | .ptr b _ => bif Nat.ble h.lo b && Nat.blt b h.nx then match cf.f f (evs s args) (cutH h b) with
      | some (v, h') => some (v, backH h h' b)
      | none => none
    else none
  | _ => none
def o_callv (x : Opd) (args : List Opd) : OpK := fun cf s h => cf.v (x.ev s) (evs s args) h
def o_callvo (x : Opd) (args : List Opd) : OpK := fun cf s h =>
  match x.ev s with
  | .fn f caps => withMode 2 (cf.m f) (cf.f f (evs s args ++ caps) h)
  | _ => none

def denO : VOp → OpK
  | .mv x => o_mv x
  | .pick c a b => o_pick c a b
  | .alloc t z => o_alloc t z
  | .box n x => o_box n x
  | .build z ps => o_build z ps
  | .bsl n sz z ps => o_bsl n sz z ps
  | .ld n a => o_ld n a
  | .st n a x => o_st n a x
  | .nck x => o_nck x
  | .bin op x y => o_bin op x y
  | .eqb neg x y => o_eqb neg x y
  | .eqn neg k x y => o_eqn neg k x y
  | .eqa neg ks x y => o_eqa neg ks x y
  | .un op x => o_un op x
  | .cnv k x => o_cnv k x
  | .s2b x => o_s2b x
  | .b2s x => o_b2s x
  | .mkf f caps => o_mkf f caps
  | .mks e bytes z l c => o_mks e bytes z l c
  | .slc sz x lo hi mx => o_slc sz x lo hi mx
  | .slcs x lo hi => o_slcs x lo hi
  | .slca n sz x lo hi mx => o_slca n sz x lo hi mx
  | .fa off x => o_fa off x
  | .fld off n x => o_fld off n x
  | .ia sz x i => o_ia sz x i
  | .iaa len sz x i => o_iaa len sz x i
  | .ix len sz n x i => o_ix len sz n x i
  | .ixs x i => o_ixs x i
  | .ext i x => o_ext i x
  | .len x => o_len x
  | .lens x => o_lens x
  | .lenc n => o_lenc n
  | .app sz bytes a x => o_app sz bytes a x
  | .apps e bytes a x => o_apps e bytes a x
  | .app0 bytes z a x => o_app0 bytes z a x
  | .cpy sz d a => o_cpy sz d a
  | .cpys d a => o_cpys d a
  | .mini xs => o_mini xs
  | .maxi xs => o_maxi xs
  | .mkif t x => o_mkif t x
  | .carry sub x y c => o_carry sub x y c
  | .tasrt t ok z x => o_tasrt t ok z x
  | .rngs x => o_rngs x
  | .nxts x => o_nxts x
  | .mkmap  => o_mkmap 
  | .look z ok m k => o_look z ok m k
  | .mupd m k x => o_mupd m k x
  | .mdel m k => o_mdel m k
  | .lenm m => o_lenm m
  | .clr x z => o_clr x z
  | .pur p xs => o_pur p xs
  | .eff e xs => o_eff e xs
  | .mnz e x => o_mnz e x
  | .bad => o_bad
  | .call f args => o_call f args
  | .callp f args => o_callp f args
  | .callo f args => o_callo f args
  | .callc f args t => o_callc f args t
  | .callv x args => o_callv x args
  | .callvo x args => o_callvo x args

def doneK : RK := fun _ s h => some (s, h)
def pK (d : Nat) (o : OpK) (k : RK) : RK := fun cf s h =>
  match o cf s h with
  | some (v, h') => k cf (s.set d v) h'
  | none => none
def nK (o : OpK) (k : RK) : RK := fun cf s h =>
  match o cf s h with
  | some (_, h') => k cf s h'
  | none => none
def gK (d : Option Nat) (g : Nat) (w : Bool) (o : OpK) (k : RK) : RK := fun cf s h =>
  match gEval (some (g, w)) s with
  | some true => match o cf s h with
    | some (v, h') => k cf (slotsPut s d v) h'
    | none => none
  | some false => k cf (slotsPut s d (.tup [])) h
  | none => none

def denR : List VOper → RK
  | [] => doneK
  | o :: r => match o.g, o.dst with
    | none, some d => pK d (denO o.op) (denR r)
    | none, none => nK (denO o.op) (denR r)
    | some (g, w), d => gK d g w (denO o.op) (denR r)

def skipK : FC := fun _ s h => some (.norm, s, h)
def regK (r : RK) (chk : List (Nat × Nat)) : FC := fun cf s h =>
  match r cf s h with
  | some (s, h) => bif chkOk chk s then some (.norm, s, h) else none
  | none => none
def reg0K (r : RK) : FC := fun cf s h =>
  match r cf s h with
  | some (s, h) => some (.norm, s, h)
  | none => none
def seqK (a b : FC) : FC := fun cf s h =>
  match a cf s h with
  | some (x, s, h) => match x with
    | .norm => b cf s h
    | .exit i => some (.exit i, s, h)
    | .ret => some (.ret, s, h)
  | none => none
def condK (c : Opd) (a b : FC) : FC := fun cf s h =>
  match c.ev s with
  | .bool t => match t with
    | true => a cf s h
    | false => b cf s h
  | _ => none
def blockK (id : Nat) (c : FC) : FC := fun cf s h =>
  match c cf s h with
  | some (x, s, h) => match x with
    | .norm => some (.norm, s, h)
    | .exit i => some (bif Nat.beq i id then .norm else .exit i, s, h)
    | .ret => some (.ret, s, h)
  | none => none
def loopN (c : FC) (cf : CF) : Nat → Slots → Heap → Option (VX × Slots × Heap)
  | 0 => fun _ _ => none
  | n + 1 => fun s h => match c cf s h with
    | some (x, s, h) => match x with
      | .norm => loopN c cf n s h
      | .exit i => some (.exit i, s, h)
      | .ret => some (.ret, s, h)
    | none => none
def loopK (c : FC) : FC := fun cf s h => loopN c cf 1048576 s h
def exitK (id : Nat) : FC := fun _ s h => some (.exit id, s, h)
def retK : FC := fun _ s h => some (.ret, s, h)
def rngK (f : Opd) (ps : List Nat) (asg body : VCode) : FC := fun cf s h =>
  match f.ev s with
  | .fn g caps => match cf.f g (.yld h.nx :: caps) (h.new (.loop 0 none s ps asg body)) with
    | some (_, h1) => match h1.get h.nx with
      | .loop st pend _ _ _ _ => bif Nat.beq st 1 then none else match pend with
        | none => some (.norm, s, h1.set h.nx .dead)
        | some x => some (x, s, h1.set h.nx .dead)
      | _ => none
    | none => none
  | _ => none

def denC : VCode → FC
  | .skip => skipK
  | .reg ops chk => match chk with
    | [] => reg0K (denR ops)
    | p :: r => regK (denR ops) (p :: r)
  | .seq a b => seqK (denC a) (denC b)
  | .cond c a b => condK c (denC a) (denC b)
  | .block id c => blockK id (denC c)
  | .loop c => loopK (denC c)
  | .exit id => exitK id
  | .ret => retK
  | .scope c => denC c
  | .rngf f ps asg body => rngK f ps asg body

structure FFn where
  prim : Option (Nat × Nat)
  mode : Nat
  res : List VRes
  body : FC
def denF (v : VFn) : FFn := ⟨v.prim, v.mode, v.res, denC v.body⟩

def callFK (W : Nat → Option FFn) (cf : CF) (f : Nat) (args : List V) (h : Heap) : Option (V × Heap) :=
  match W f with
  | none => none
  | some w => match w.prim with
    | some (sz, bytes) => match args with
      | [s, i, v] => insertV h sz bytes s i v
      | _ => none
    | none => match isoArgs w.mode args with
      | some as => match w.body cf (argSlots as) h0 with
        | some (x, s', h') => match x with
          | .norm => match resOf s' h' w.res with
            | some v => finishI h h' v
            | none => none
          | .ret => match resOf s' h' w.res with
            | some v => finishI h h' v
            | none => none
          | .exit _ => none
        | none => none
      | none => match w.body cf (argSlots args) (enterH w.mode h) with
        | some (x, s', h') => match x with
          | .norm => match resOf s' h' w.res with
            | some v => finish w.mode h h' v
            | none => none
          | .ret => match resOf s' h' w.res with
            | some v => finish w.mode h h' v
            | none => none
          | .exit _ => none
        | none => none

def modeK (W : Nat → Option FFn) (f : Nat) : Option Nat :=
  match W f with
  | none => none
  | some w => match w.prim with
    | some _ => none
    | none => some w.mode

def yldK (cf : CF) (b : Nat) (args : List V) (h : Heap) : Option (V × Heap) :=
  bif Nat.blt b h.lo then none else match h.get b with
  | .loop 0 _ tm ps asg body => bif Nat.beq ps.length args.length then
      match denC asg cf ((ps.zip args).foldl (fun s p => s.set p.1 p.2) tm) h with
      | some (.norm, s, h1) => match h1.get b with
        | .loop 0 pd tm1 ps1 asg1 body1 => match denC body cf s (h1.set b (.loop 1 pd tm1 ps1 asg1 body1)) with
          | some (x, _, h2) => match h2.get b with
            | .loop _ _ tm2 ps2 asg2 body2 => match x with
              | .norm => some (.bool true, h2.set b (.loop 0 none tm2 ps2 asg2 body2))
              | x => some (.bool false, h2.set b (.loop 2 (some x) tm2 ps2 asg2 body2))
            | _ => none
          | none => none
        | _ => none
      | _ => none
    else none
  | _ => none

/-- Calls that have been reckoned before. -/
abbrev MT := Nat → List V → Option V
def memoF (T : MT) (k : Nat → List V → Heap → Option (V × Heap)) (f : Nat) (args : List V) (h : Heap) : Option (V × Heap) :=
  match T f args with
  | some v => some (v, h)
  | none => k f args h

def callVK (W : Nat → Option FFn) (T : MT) (cf : CF) (x : V) (args : List V) (h : Heap) : Option (V × Heap) :=
  match x with
  | .fn f caps => memoF T (callFK W cf) f (args ++ caps) h
  | .yld b => yldK cf b args h
  | _ => none

def CFn (W : Nat → Option FFn) (T : MT) : Nat → CF
  | 0 => ⟨fun _ _ _ => none, fun _ => none, fun _ _ _ => none⟩
  | n + 1 => ⟨memoF T (callFK W (CFn W T n)), modeK W, callVK W T (CFn W T n)⟩

def noMemo : MT := fun _ _ => none

-- ------------------------------------------------------------------ what it gives, the evaluator gives

section
variable {vp : Nat → Option VFn}

structure CFok (vp : Nat → Option VFn) (cf : CF) : Prop where
  f : ∀ f args h r, cf.f f args h = some r → ∃ n, callF vp n f args h = some r
  m : ∀ f m, cf.m f = some m → ∃ fn, vp f = some fn ∧ fn.prim = none ∧ fn.mode = m
  v : ∀ x args h r, cf.v x args h = some r → ∃ n, callV vp n x args h = some r

theorem withMode_some {k : Nat} {m : Option Nat} {r : Option (V × Heap)} {q : V × Heap} (h : withMode k m r = some q) : m = some k ∧ r = some q := by
  unfold withMode at h
  split at h
  · rw [Bool.cond_eq_ite] at h
    split at h
    · rename_i hm
      rw [Nat.eq_of_beq_eq_true hm]
      exact ⟨rfl, h⟩
    · cases h
  · cases h

theorem op_ok {cf : CF} (ok : CFok vp cf) {o : VOp} {s : Slots} {h : Heap} {r : V × Heap} (he : denO o cf s h = some r) : ∃ n, stepOp vp n o s h = some r := by
  cases o with
  | call f args =>
    obtain ⟨n, hn⟩ := ok.f _ _ _ _ he
    exact ⟨n + 1, by simpa only [stepOp] using hn⟩
  | callp f args =>
    obtain ⟨h1, h2⟩ := withMode_some he
    obtain ⟨fn, q1, q2, q3⟩ := ok.m _ _ h1
    obtain ⟨n, hn⟩ := ok.f _ _ _ _ h2
    exact ⟨n + 1, by simp only [stepOp, q1, q2, q3]; exact hn⟩
  | callo f args =>
    obtain ⟨h1, h2⟩ := withMode_some he
    obtain ⟨fn, q1, q2, q3⟩ := ok.m _ _ h1
    obtain ⟨n, hn⟩ := ok.f _ _ _ _ h2
    exact ⟨n + 1, by simp only [stepOp, q1, q2, q3]; exact hn⟩
  | callc f args t =>
    simp only [denO, o_callc] at he
    split at he
    · rename_i b off hx
      rw [Bool.cond_eq_ite] at he
      split at he
      · rename_i hb
        split at he
        · rename_i v h' hr
          obtain ⟨n, hn⟩ := ok.f _ _ _ _ hr
          refine ⟨n + 1, ?_⟩
          simp only [stepOp, hx, Bool.cond_eq_ite]
          rw [if_pos hb, hn]
          exact he
        · cases he
      · cases he
    · cases he
  | callv x args =>
    obtain ⟨n, hn⟩ := ok.v _ _ _ _ he
    exact ⟨n + 1, by simpa only [stepOp] using hn⟩
  | callvo x args =>
    simp only [denO, o_callvo] at he
    split at he
    · rename_i f caps hx
      obtain ⟨h1, h2⟩ := withMode_some he
      obtain ⟨fn, q1, q2, q3⟩ := ok.m _ _ h1
      obtain ⟨n, hn⟩ := ok.f _ _ _ _ h2
      exact ⟨n + 1, by simp only [stepOp, hx, q1, q2, q3]; exact hn⟩
    · cases he
  | bad => cases he
  | _ => exact ⟨1, by simp only [stepOp, opE]; exact he⟩

theorem ops_ok {cf : CF} (ok : CFok vp cf) : ∀ {l : List VOper} {s : Slots} {h : Heap} {r : Slots × Heap}, denR l cf s h = some r → ∃ n, runOps vp n l s h = some r
  | [], s, h, r, he => ⟨1, by simp only [runOps]; exact he⟩
  | o :: l, s, h, r, he => by
    obtain ⟨d, g, op⟩ := o
    cases g with
    | none =>
      have key : ∀ {v : V} {h1 : Heap}, denO op cf s h = some (v, h1) → denR l cf (slotsPut s d v) h1 = some r → ∃ n, runOps vp n (⟨d, none, op⟩ :: l) s h = some r := by
        intro v h1 e1 e2
        obtain ⟨n1, k1⟩ := op_ok ok e1
        obtain ⟨n2, k2⟩ := ops_ok ok e2
        refine ⟨max n1 n2 + 1, ?_⟩
        simp only [runOps, gEval, stepOp_mono vp (Nat.le_max_left n1 n2) k1]
        exact runOps_mono vp (Nat.le_max_right n1 n2) k2
      cases d with
      | none =>
        simp only [denR, nK] at he
        split at he
        · rename_i v h1 e1
          exact key e1 he
        · cases he
      | some d =>
        simp only [denR, pK] at he
        split at he
        · rename_i v h1 e1
          exact key e1 he
        · cases he
    | some gw =>
      obtain ⟨g, w⟩ := gw
      simp only [denR, gK] at he
      split at he
      · rename_i hg
        split at he
        · rename_i v h1 e1
          obtain ⟨n1, k1⟩ := op_ok ok e1
          obtain ⟨n2, k2⟩ := ops_ok ok he
          refine ⟨max n1 n2 + 1, ?_⟩
          simp only [runOps, hg, stepOp_mono vp (Nat.le_max_left n1 n2) k1]
          exact runOps_mono vp (Nat.le_max_right n1 n2) k2
        · cases he
      · rename_i hg
        obtain ⟨n2, k2⟩ := ops_ok ok he
        refine ⟨n2 + 1, ?_⟩
        simp only [runOps, hg]
        exact k2
      · cases he

theorem code_ok {cf : CF} (ok : CFok vp cf) : ∀ {c : VCode} {s : Slots} {h : Heap} {r : VX × Slots × Heap}, denC c cf s h = some r → ∃ n, exec vp n c s h = some r
  | .skip, s, h, r, he => ⟨1, by simp only [exec]; exact he⟩
  | .exit i, s, h, r, he => ⟨1, by simp only [exec]; exact he⟩
  | .ret, s, h, r, he => ⟨1, by simp only [exec]; exact he⟩
  | .scope c, s, h, r, he => by
    obtain ⟨n, hn⟩ := code_ok ok (c := c) he
    exact ⟨n + 1, by simpa only [exec] using hn⟩
  | .reg ops chk, s, h, r, he => by
    cases chk with
    | nil =>
      simp only [denC, reg0K] at he
      split at he
      · rename_i s1 h1 e1
        obtain ⟨n, hn⟩ := ops_ok ok e1
        exact ⟨n + 1, by simp only [exec, hn, chkOk, cond_true]; exact he⟩
      · cases he
    | cons p q =>
      simp only [denC, regK] at he
      split at he
      · rename_i s1 h1 e1
        obtain ⟨n, hn⟩ := ops_ok ok e1
        exact ⟨n + 1, by simp only [exec, hn]; exact he⟩
      · cases he
  | .seq a b, s, h, r, he => by
    simp only [denC, seqK] at he
    split at he
    · rename_i x s1 h1 e1
      obtain ⟨n1, k1⟩ := code_ok ok (c := a) e1
      cases x with
      | norm =>
        obtain ⟨n2, k2⟩ := code_ok ok (c := b) he
        refine ⟨max n1 n2 + 1, ?_⟩
        simp only [exec, exec_mono vp (Nat.le_max_left n1 n2) k1]
        exact exec_mono vp (Nat.le_max_right n1 n2) k2
      | exit i => exact ⟨n1 + 1, by simp only [exec, k1]; exact he⟩
      | ret => exact ⟨n1 + 1, by simp only [exec, k1]; exact he⟩
    · cases he
  | .cond g a b, s, h, r, he => by
    simp only [denC, condK] at he
    split at he
    · rename_i t hg
      cases t with
      | true =>
        obtain ⟨n1, k1⟩ := code_ok ok (c := a) he
        exact ⟨n1 + 1, by simp only [exec, hg]; exact k1⟩
      | false =>
        obtain ⟨n1, k1⟩ := code_ok ok (c := b) he
        exact ⟨n1 + 1, by simp only [exec, hg]; exact k1⟩
    · cases he
  | .block id c, s, h, r, he => by
    simp only [denC, blockK] at he
    split at he
    · rename_i x s1 h1 e1
      obtain ⟨n1, k1⟩ := code_ok ok (c := c) e1
      cases x <;> exact ⟨n1 + 1, by simp only [exec, k1]; exact he⟩
    · cases he
  | .loop c, s, h, r, he => by
    simp only [denC, loopK] at he
    have key : ∀ (m : Nat) {s : Slots} {h : Heap}, loopN (denC c) cf m s h = some r → ∃ n, exec vp n (.loop c) s h = some r := by
      intro m
      induction m with
      | zero => intro s h e; cases e
      | succ m ihm =>
        intro s h e
        simp only [loopN] at e
        split at e
        · rename_i x s1 h1 e1
          obtain ⟨n1, k1⟩ := code_ok ok (c := c) e1
          cases x with
          | norm =>
            obtain ⟨n2, k2⟩ := ihm e
            refine ⟨max n1 n2 + 1, ?_⟩
            simp only [exec, exec_mono vp (Nat.le_max_left n1 n2) k1]
            exact exec_mono vp (Nat.le_max_right n1 n2) k2
          | exit i => exact ⟨n1 + 1, by simp only [exec, k1]; exact e⟩
          | ret => exact ⟨n1 + 1, by simp only [exec, k1]; exact e⟩
        · cases e
    exact key _ he
  | .rngf f ps asg body, s, h, r, he => by
    simp only [denC, rngK] at he
    split at he
    · rename_i g caps hf
      split at he
      · rename_i v h1 e1
        obtain ⟨n1, k1⟩ := ok.f _ _ _ _ e1
        refine ⟨n1 + 1, ?_⟩
        simp only [exec, hf, k1]
        exact he
      · cases he
    · cases he

def MemoOK (vp : Nat → Option VFn) (T : MT) : Prop := ∀ f args v, T f args = some v → ∀ h, ∃ n, callF vp n f args h = some (v, h)
theorem noMemo_ok : MemoOK vp noMemo := fun _ _ _ e => by cases e

theorem run_ok {W : Nat → Option FFn} (hW : ∀ i, W i = (vp i).map denF) {T : MT} (hT : MemoOK vp T) : ∀ n, CFok vp (CFn W T n)
  | 0 => ⟨(fun _ _ _ _ h => by cases h), (fun _ _ h => by cases h), (fun _ _ _ _ h => by cases h)⟩
  | n + 1 => by
    have ih := run_ok hW hT n
    have hf0 : ∀ f args h r, callFK W (CFn W T n) f args h = some r → ∃ n, callF vp n f args h = some r := by
      intro f args h r he
      unfold callFK at he
      rw [hW] at he
      cases hv : vp f with
      | none => rw [hv] at he; cases he
      | some vf =>
        rw [hv] at he
        simp only [Option.map_some, denF] at he
        split at he
        · rename_i sz bytes hp
          exact ⟨1, by simp only [callF, hv, hp]; exact he⟩
        · rename_i hp
          split at he
          · rename_i as hi
            split at he
            · rename_i x s1 h1 e1
              obtain ⟨n1, k1⟩ := code_ok ih e1
              cases x <;> first | (cases he; done) | exact ⟨n1 + 1, by simp only [callF, hv, hp, hi, k1]; exact he⟩
            · cases he
          · rename_i hi
            split at he
            · rename_i x s1 h1 e1
              obtain ⟨n1, k1⟩ := code_ok ih e1
              cases x <;> first | (cases he; done) | exact ⟨n1 + 1, by simp only [callF, hv, hp, hi, k1]; exact he⟩
            · cases he
    have hf : ∀ f args h r, memoF T (callFK W (CFn W T n)) f args h = some r → ∃ n, callF vp n f args h = some r := by
      intro f args h r he
      unfold memoF at he
      split at he
      · rename_i v hv
        cases he
        exact hT _ _ _ hv h
      · exact hf0 _ _ _ _ he
    refine ⟨hf, fun f m he => ?_, fun x args h r he => ?_⟩
    · simp only [CFn, modeK, hW] at he
      cases hv : vp f with
      | none => rw [hv] at he; cases he
      | some vf =>
        rw [hv] at he
        simp only [Option.map_some, denF] at he
        split at he
        · cases he
        · rename_i hp
          cases he
          exact ⟨vf, rfl, hp, rfl⟩
    · simp only [CFn, callVK] at he
      split at he
      · rename_i f caps
        obtain ⟨n1, k1⟩ := hf _ _ _ _ he
        exact ⟨n1 + 1, by simpa only [callV] using k1⟩
      · rename_i b
        unfold yldK at he
        rw [Bool.cond_eq_ite] at he
        split at he
        · cases he
        · rename_i hb
          split at he
          · rename_i pd tm ps asg body hg
            rw [Bool.cond_eq_ite] at he
            split at he
            · rename_i hl
              split at he
              · rename_i s1 h1 e1
                obtain ⟨n1, k1⟩ := code_ok ih e1
                split at he
                · rename_i pd1 tm1 ps1 asg1 body1 hg1
                  split at he
                  · rename_i x s2 h2 e2
                    obtain ⟨n2, k2⟩ := code_ok ih e2
                    refine ⟨max n1 n2 + 1, ?_⟩
                    have k1' := exec_mono vp (Nat.le_max_left n1 n2) k1
                    have k2' := exec_mono vp (Nat.le_max_right n1 n2) k2
                    unfold callV
                    simp only [Bool.cond_eq_ite]
                    rw [if_neg hb, hg]
                    simp only
                    rw [if_pos hl, k1']
                    simp only [hg1, k2']
                    exact he
                  · cases he
                · cases he
              · cases he
            · cases he
          · cases he
      · cases he

theorem w_bif {b : Bool} {x y : Option VFn} {x' y' : Option FFn} (hx : x' = x.map denF) (hy : y' = y.map denF) : (bif b then x' else y') = (bif b then x else y).map denF := by
  cases b
  · exact hy
  · exact hx
theorem w_leaf {b : Bool} {v : VFn} {w : FFn} (h : w = denF v) : (bif b then some w else none) = (bif b then some v else none).map denF := by
  subst h
  cases b <;> rfl

/-- The run. -/
theorem fast_run {W : Nat → Option FFn} (hW : ∀ i, W i = (vp i).map denF) {T : MT} (hT : MemoOK vp T) {n f : Nat} {args : List V} {h : Heap} {r : V × Heap} (he : (CFn W T n).f f args h = some r) : ∃ m, callF vp m f args h = some r :=
  (run_ok hW hT n).f _ _ _ _ he

-- ------------------------------------------------------------------ calls told once

mutual
def eqV (n : Nat) (a b : V) : Bool :=
  match n with
  | 0 => false
  | n + 1 => match a with
    | .int k x => match b with
      | .int k' y => bif eqI x y then kEq k k' else false
      | _ => false
    | .bool x => match b with
      | .bool y => x == y
      | _ => false
    | .str x => match b with
      | .str y => eqBytes x y
      | _ => false
    | .nilp => match b with
      | .nilp => true
      | _ => false
    | .nils => match b with
      | .nils => true
      | _ => false
    | .nilf => match b with
      | .nilf => true
      | _ => false
    | .nili => match b with
      | .nili => true
      | _ => false
    | .nilm => match b with
      | .nilm => true
      | _ => false
    | .isl c l p => match b with
      | .isl c' l' p' => bif Nat.beq l l' then (match p with
        | none => match p' with
          | none => eqVs n c c'
          | some _ => false
        | some q => match p' with
          | none => false
          | some q' => bif Nat.beq q q' then eqVs n c c' else false) else false
      | _ => false
    | .iptr c => match b with
      | .iptr c' => eqVs n c c'
      | _ => false
    | .fn f c => match b with
      | .fn f' c' => bif Nat.beq f f' then eqVs n c c' else false
      | _ => false
    | .ifc t v => match b with
      | .ifc t' v' => bif Nat.beq t t' then eqV n v v' else false
      | _ => false
    | .agg c => match b with
      | .agg c' => eqVs n c c'
      | _ => false
    | .tup c => match b with
      | .tup c' => eqVs n c c'
      | _ => false
    | _ => false
def eqVs (n : Nat) (a b : List V) : Bool :=
  match n with
  | 0 => false
  | n + 1 => match a with
    | [] => match b with
      | [] => true
      | _ :: _ => false
    | x :: r => match b with
      | [] => false
      | y :: r' => bif eqV n x y then eqVs n r r' else false
end

theorem eqBytes_to : ∀ {a b : List UInt8}, eqBytes a b = true → a = b
  | [], [], _ => rfl
  | [], _ :: _, h => by cases h
  | _ :: _, [], h => by cases h
  | x :: a, y :: b, h => by
    simp only [eqBytes, Bool.cond_eq_ite] at h
    split at h
    · rename_i hx
      rw [UInt8.toNat_inj.1 (Nat.eq_of_beq_eq_true hx), eqBytes_to h]
    · cases h
theorem eqI_to {a b : Int} (h : eqI a b = true) : a = b := by
  cases a <;> cases b <;> simp only [eqI] at h <;> first | (cases h; done) | rw [Nat.eq_of_beq_eq_true h]
theorem kEq_to {a b : IntKind} (h : kEq a b = true) : a = b := by
  cases a <;> cases b <;> first | rfl | (cases h; done)

theorem eqV_eq : ∀ n : Nat, (∀ a b, eqV n a b = true → a = b) ∧ (∀ a b, eqVs n a b = true → a = b) := by
  intro n
  induction n with
  | zero => exact ⟨fun a b h => by simp [eqV] at h, fun a b h => by simp [eqVs] at h⟩
  | succ n ih =>
    obtain ⟨i1, i2⟩ := ih
    constructor
    · intro a b h
      cases a <;> cases b <;> simp only [eqV, Bool.cond_eq_ite] at h <;> first
        | rfl
        | (cases h; done)
        | (rw [i2 _ _ h]; done)
        | (rw [eqBytes_to h]; done)
        | (simp at h; rw [h]; done)
        | (split at h
           · rename_i hx
             first | rw [kEq_to h, eqI_to hx] | rw [Nat.eq_of_beq_eq_true hx, i2 _ _ h] | rw [Nat.eq_of_beq_eq_true hx, i1 _ _ h]
           · cases h
           done)
        | skip
      · rename_i c l p c' l' p'
        split at h
        · rename_i hl
          rw [Nat.eq_of_beq_eq_true hl]
          cases p <;> cases p' <;> simp only [Bool.cond_eq_ite] at h
          · rw [i2 _ _ h]
          · cases h
          · cases h
          · split at h
            · rename_i hq
              rw [Nat.eq_of_beq_eq_true hq, i2 _ _ h]
            · cases h
        · cases h
    · intro a b h
      cases a <;> cases b <;> simp only [eqVs, Bool.cond_eq_ite] at h
      · rfl
      · cases h
      · cases h
      · split at h
        · rename_i hx
          rw [i1 _ _ hx, i2 _ _ h]
        · cases h

/-- One more call told. -/
def withMemo (f : Nat) (a : List V) (v : V) (T : MT) : MT := fun g args =>
  bif Nat.beq f g then (bif eqVs frzFuel a args then some v else T g args) else T g args

theorem iso_any {n f : Nat} {args as : List V} {v : V} {h h1 : Heap} {fn : VFn} (hf : vp f = some fn) (hp : fn.prim = none) (hi : isoArgs fn.mode args = some as) (he : callF vp n f args h = some (v, h1)) (h2 : Heap) : callF vp n f args h2 = some (v, h2) := by
  cases n with
  | zero => simp [callF] at he
  | succ n =>
    simp only [callF, hf, hp, hi] at he ⊢
    split at he
    · split at he
      · unfold finishI at he ⊢
        obtain ⟨u, e1, e2⟩ := Option.map_eq_some_iff.1 he
        cases e2
        rw [e1]
        rfl
      · cases he
    · split at he
      · unfold finishI at he ⊢
        obtain ⟨u, e1, e2⟩ := Option.map_eq_some_iff.1 he
        cases e2
        rw [e1]
        rfl
      · cases he
    · cases he

theorem memo_ok {T : MT} (hT : MemoOK vp T) {f : Nat} {a : List V} {v : V} (h : ∀ h, ∃ n, callF vp n f a h = some (v, h)) : MemoOK vp (withMemo f a v T) := by
  intro g args u e
  unfold withMemo at e
  rw [Bool.cond_eq_ite] at e
  split at e
  · rename_i hg
    rw [Bool.cond_eq_ite] at e
    split at e
    · rename_i ha
      cases e
      rw [← Nat.eq_of_beq_eq_true hg, ← (eqV_eq _).2 _ _ ha]
      exact h
    · exact hT _ _ _ e
  · exact hT _ _ _ e

def isRes (r : Option (V × Heap)) (v : V) : Bool :=
  match r with
  | some (u, _) => eqV frzFuel u v
  | none => false
theorem isRes_some {r : Option (V × Heap)} {v : V} (h : isRes r v = true) : ∃ h, r = some (v, h) := by
  cases r with
  | none => cases h
  | some q =>
    obtain ⟨u, h1⟩ := q
    exact ⟨h1, by rw [(eqV_eq _).1 _ _ h]⟩

/-- The run tells the call. -/
theorem memo_run {W : Nat → Option FFn} (hW : ∀ i, W i = (vp i).map denF) {T : MT} (hT : MemoOK vp T) {n f : Nat} {args : List V} {v : V} {fn : VFn} (hf : vp f = some fn) (hp : fn.prim = none) (hi : (isoArgs fn.mode args).isSome = true)
    (he : isRes ((CFn W T n).f f args h0) v = true) : MemoOK vp (withMemo f args v T) := by
  refine memo_ok hT fun h => ?_
  obtain ⟨h1, e1⟩ := isRes_some he
  obtain ⟨m, hm⟩ := fast_run hW hT e1
  obtain ⟨as, has⟩ := Option.isSome_iff_exists.1 hi
  exact ⟨m, iso_any hf hp has hm h⟩

theorem law_fast {W : Nat → Option FFn} (hW : ∀ i, W i = (vp i).map denF) {T : MT} (hT : MemoOK vp T) {n f : Nat} {v : V} (he : isRes ((CFn W T n).f f [] h0) v = true) : ∃ m h, callF vp m f [] h0 = some (v, h) := by
  obtain ⟨h1, e1⟩ := isRes_some he
  obtain ⟨m, hm⟩ := fast_run hW hT e1
  exact ⟨m, h1, hm⟩
end
end Go.VE
end
