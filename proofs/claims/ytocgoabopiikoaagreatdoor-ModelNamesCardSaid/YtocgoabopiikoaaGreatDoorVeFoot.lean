/- A part of a proof that a small evaluator of the translated code agrees with the model (part Foot). No statement of the program stands here. -/
import Derived.Test.YtocgoabopiikoaaGreatDoorVeMem
set_option linter.all false
namespace Go.VE

theorem opd_congr {s t : Slots} {x : Opd} (h : ∀ i ∈ opdR x, s.at i = t.at i) : x.ev s = x.ev t := by
  cases x with
  | t i => exact h i (by simp [opdR])
  | k v => rfl
theorem opds_congr {s t : Slots} : ∀ {xs : List Opd}, (∀ i ∈ opdsR xs, s.at i = t.at i) → evs s xs = evs t xs
  | [], _ => rfl
  | x :: r, h => by
    simp only [opdsR, List.mem_append] at h
    simp only [evs, List.map_cons]
    rw [opd_congr (x := x) (fun i hi => h i (.inl hi))]
    have := opds_congr (xs := r) (fun i hi => h i (.inr hi))
    simp only [evs] at this
    rw [this]
theorem opdo_congr {s t : Slots} {x : Option Opd} (h : ∀ i ∈ opdoR x, s.at i = t.at i) : evo s x = evo t x := by
  cases x with
  | none => rfl
  | some x => simp [evo, opd_congr (x := x) h]
theorem ps_congr {s t : Slots} : ∀ {ps : List (Nat × Nat × Opd)}, (∀ i ∈ psR ps, s.at i = t.at i) →
    (ps.map fun p => (p.1, p.2.1, p.2.2.ev s)) = (ps.map fun p => (p.1, p.2.1, p.2.2.ev t))
  | [], _ => rfl
  | x :: r, h => by
    simp only [psR, List.mem_append] at h
    simp only [List.map_cons]
    rw [opd_congr (x := x.2.2) (fun i hi => h i (.inl hi)), ps_congr (ps := r) (fun i hi => h i (.inr hi))]

/-- An operation looks at the slots of its operands alone. -/
theorem opE_congr {s t : Slots} {h : Heap} {o : VOp} (hr : ∀ i ∈ rdOp o, s.at i = t.at i) : opE o s h = opE o t h := by
  cases o <;> simp only [rdOp, List.mem_append] at hr <;> simp only [opE]
  case mv x => simp only [op_mv, opd_congr hr]
  case pick c a b => simp only [op_pick, opd_congr (x := c) (fun i q => hr i (.inl q)), opd_congr (x := a) (fun i q => hr i (.inr (.inl q))), opd_congr (x := b) (fun i q => hr i (.inr (.inr q)))]
  case alloc z => simp only [op_alloc]
  case box n x => simp only [op_box, opd_congr hr]
  case build z ps => simp only [op_build, ps_congr hr]
  case bsl n sz z ps => simp only [op_bsl, ps_congr hr]
  case ld n a => simp only [op_ld, opd_congr hr]
  case st n a x => simp only [op_st, opd_congr (x := a) (fun i q => hr i (.inl q)), opd_congr (x := x) (fun i q => hr i (.inr q))]
  case nck x => simp only [op_nck, opd_congr hr]
  case bin op x y => simp only [op_bin, opd_congr (x := x) (fun i q => hr i (.inl q)), opd_congr (x := y) (fun i q => hr i (.inr q))]
  case eqb neg x y => simp only [op_eqb, opd_congr (x := x) (fun i q => hr i (.inl q)), opd_congr (x := y) (fun i q => hr i (.inr q))]
  case eqn neg k x y => simp only [op_eqn, opd_congr (x := x) (fun i q => hr i (.inl q)), opd_congr (x := y) (fun i q => hr i (.inr q))]
  case eqa neg ks x y => simp only [op_eqa, opd_congr (x := x) (fun i q => hr i (.inl q)), opd_congr (x := y) (fun i q => hr i (.inr q))]
  case un op x => simp only [op_un, opd_congr hr]
  case cnv k x => simp only [op_cnv, opd_congr hr]
  case s2b x => simp only [op_s2b, opd_congr hr]
  case b2s x => simp only [op_b2s, opd_congr hr]
  case mkf f xs => simp only [op_mkf, opds_congr hr]
  case mks b z x y => simp only [op_mks, opd_congr (x := x) (fun i q => hr i (.inl q)), opd_congr (x := y) (fun i q => hr i (.inr q))]
  case slc sz x lo hi mx => simp only [op_slc, opd_congr (x := x) (fun i q => hr i (.inl q)), opdo_congr (x := lo) (fun i q => hr i (.inr (.inl q))), opdo_congr (x := hi) (fun i q => hr i (.inr (.inr (.inl q)))), opdo_congr (x := mx) (fun i q => hr i (.inr (.inr (.inr q))))]
  case slcs x lo hi => simp only [op_slcs, opd_congr (x := x) (fun i q => hr i (.inl q)), opdo_congr (x := lo) (fun i q => hr i (.inr (.inl q))), opdo_congr (x := hi) (fun i q => hr i (.inr (.inr q)))]
  case slca n sz x lo hi mx => simp only [op_slca, opd_congr (x := x) (fun i q => hr i (.inl q)), opdo_congr (x := lo) (fun i q => hr i (.inr (.inl q))), opdo_congr (x := hi) (fun i q => hr i (.inr (.inr (.inl q)))), opdo_congr (x := mx) (fun i q => hr i (.inr (.inr (.inr q))))]
  case fa off x => simp only [op_fa, opd_congr hr]
  case fld off n x => simp only [op_fld, opd_congr hr]
  case ia sz x y => simp only [op_ia, opd_congr (x := x) (fun i q => hr i (.inl q)), opd_congr (x := y) (fun i q => hr i (.inr q))]
  case iaa n sz x y => simp only [op_iaa, opd_congr (x := x) (fun i q => hr i (.inl q)), opd_congr (x := y) (fun i q => hr i (.inr q))]
  case ix l sz n x y => simp only [op_ix, opd_congr (x := x) (fun i q => hr i (.inl q)), opd_congr (x := y) (fun i q => hr i (.inr q))]
  case ixs x y => simp only [op_ixs, opd_congr (x := x) (fun i q => hr i (.inl q)), opd_congr (x := y) (fun i q => hr i (.inr q))]
  case ext i x => simp only [op_ext, opd_congr hr]
  case len x => simp only [op_len, opd_congr hr]
  case lens x => simp only [op_lens, opd_congr hr]
  case lenc n => simp only [op_lenc]
  case app sz b x y => simp only [op_app, opd_congr (x := x) (fun i q => hr i (.inl q)), opd_congr (x := y) (fun i q => hr i (.inr q))]
  case apps b x y => simp only [op_apps, opd_congr (x := x) (fun i q => hr i (.inl q)), opd_congr (x := y) (fun i q => hr i (.inr q))]
  case app0 b z x y => simp only [op_app0, opd_congr (x := x) (fun i q => hr i (.inl q)), opd_congr (x := y) (fun i q => hr i (.inr q))]
  case cpy sz x y => simp only [op_cpy, opd_congr (x := x) (fun i q => hr i (.inl q)), opd_congr (x := y) (fun i q => hr i (.inr q))]
  case cpys x y => simp only [op_cpys, opd_congr (x := x) (fun i q => hr i (.inl q)), opd_congr (x := y) (fun i q => hr i (.inr q))]
  case mini xs => simp only [op_mini, opds_congr hr]
  case maxi xs => simp only [op_maxi, opds_congr hr]
  case mkif t x => simp only [op_mkif, opd_congr hr]
  case carry sub c a b => simp only [op_carry, opd_congr (x := c) (fun i q => hr i (.inl q)), opd_congr (x := a) (fun i q => hr i (.inr (.inl q))), opd_congr (x := b) (fun i q => hr i (.inr (.inr q)))]
  case tasrt t ok z x => simp only [op_tasrt, opd_congr hr]
  case rngs x => simp only [op_rngs, opd_congr hr]
  case nxts x => simp only [op_nxts, opd_congr hr]
  case mkmap => simp only [op_mkmap]
  case look z ok x y => simp only [op_look, opd_congr (x := x) (fun i q => hr i (.inl q)), opd_congr (x := y) (fun i q => hr i (.inr q))]
  case mupd c a b => simp only [op_mupd, opd_congr (x := c) (fun i q => hr i (.inl q)), opd_congr (x := a) (fun i q => hr i (.inr (.inl q))), opd_congr (x := b) (fun i q => hr i (.inr (.inr q)))]
  case mdel x y => simp only [op_mdel, opd_congr (x := x) (fun i q => hr i (.inl q)), opd_congr (x := y) (fun i q => hr i (.inr q))]
  case lenm x => simp only [op_lenm, opd_congr hr]
  case clr x z => simp only [op_clr, opd_congr hr]

-- ------------------------------------------------------------------ kinds

theorem map_pair {α β : Type} {x : Option α} {v' : α} {h h' : β} (e : x.map (fun v => (v, h)) = some (v', h')) : x = some v' ∧ h' = h := by
  cases x with
  | none => cases e
  | some z => cases e; exact ⟨rfl, rfl⟩

/-- kind 0: nothing of the heap -/
theorem kind0 {o : VOp} {s : Slots} {h h' : Heap} {v : V} (hk : kindOf o = 0) (he : opE o s h = some (v, h')) : h' = h ∧ ∀ h2, opE o s h2 = some (v, h2) := by
  cases o <;> simp only [kindOf] at hk <;> (try cases hk) <;> simp only [opE] at he ⊢
  case mv x => cases he; exact ⟨rfl, fun _ => rfl⟩
  case pick c a b =>
    simp only [op_pick] at he ⊢
    split at he <;> cases he <;> exact ⟨rfl, fun _ => rfl⟩
  case build z ps =>
    simp only [op_build] at he ⊢
    cases hf : fill z (ps.map fun p => (p.1, p.2.1, p.2.2.ev s)) with
    | none => rw [hf] at he; cases he
    | some cs => rw [hf] at he; cases he; exact ⟨rfl, fun _ => rfl⟩
  case nck x =>
    simp only [op_nck] at he ⊢
    split at he <;> cases he <;> exact ⟨rfl, fun _ => rfl⟩
  case bin op x y =>
    simp only [op_bin] at he ⊢
    obtain ⟨e, rfl⟩ := map_pair he
    exact ⟨rfl, fun _ => by rw [e]; rfl⟩
  case eqb neg x y =>
    simp only [op_eqb] at he ⊢
    split at he <;> cases he <;> exact ⟨rfl, fun _ => rfl⟩
  case eqn neg k x y =>
    simp only [op_eqn] at he ⊢
    split at he <;> cases he <;> exact ⟨rfl, fun _ => rfl⟩
  case eqa neg ks x y =>
    simp only [op_eqa] at he ⊢
    split at he
    · cases hb : (Nat.beq _ ks.length && Nat.beq _ ks.length) with
      | false => rw [hb] at he; cases he
      | true =>
        rw [hb] at he
        simp only [cond_true] at he ⊢
        split at he <;> cases he <;> exact ⟨rfl, fun _ => rfl⟩
    · cases he
  case un op x =>
    simp only [op_un] at he ⊢
    obtain ⟨e, rfl⟩ := map_pair he
    exact ⟨rfl, fun _ => by rw [e]; rfl⟩
  case cnv k x =>
    simp only [op_cnv] at he ⊢
    split at he <;> cases he <;> exact ⟨rfl, fun _ => rfl⟩
  case mkf f xs => cases he; exact ⟨rfl, fun _ => rfl⟩
  case fa off x =>
    simp only [op_fa] at he ⊢
    split at he <;> cases he <;> exact ⟨rfl, fun _ => rfl⟩
  case fld off n x =>
    simp only [op_fld] at he ⊢
    split at he
    · obtain ⟨e, rfl⟩ := map_pair he
      exact ⟨rfl, fun _ => by rw [e]; rfl⟩
    · cases he
  case ia sz x i =>
    simp only [op_ia] at he ⊢
    split at he
    · rename_i i' b off len _ _ _ _
      cases hb : Nat.blt i' len with
      | false => rw [hb] at he; cases he
      | true => rw [hb] at he; cases he; exact ⟨rfl, fun _ => rfl⟩
    · rename_i i' cs len _ _ _
      cases hb : (Nat.blt i' len && Nat.blt (i' * sz) cs.length) with
      | false => rw [hb] at he; cases he
      | true => rw [hb] at he; cases he; exact ⟨rfl, fun _ => rfl⟩
    · cases he
  case iaa len sz x i =>
    simp only [op_iaa] at he ⊢
    split at he
    · rename_i i' b off _ _
      cases hb : Nat.blt i' len with
      | false => rw [hb] at he; cases he
      | true => rw [hb] at he; cases he; exact ⟨rfl, fun _ => rfl⟩
    · rename_i i' cs _ _
      cases hb : Nat.blt i' len with
      | false => rw [hb] at he; cases he
      | true => rw [hb] at he; cases he; exact ⟨rfl, fun _ => rfl⟩
    · cases he
  case ix len sz n x i =>
    simp only [op_ix] at he ⊢
    split at he
    · rename_i i' cs _ _
      cases hb : Nat.blt i' len with
      | false => rw [hb] at he; cases he
      | true =>
        rw [hb] at he
        obtain ⟨e, rfl⟩ := map_pair he
        exact ⟨rfl, fun _ => by rw [e]; rfl⟩
    · cases he
  case ixs x i =>
    simp only [op_ixs] at he ⊢
    split at he
    · rename_i i' l _ _
      cases hb : l[i']? with
      | none => rw [hb] at he; cases he
      | some b => rw [hb] at he; cases he; exact ⟨rfl, fun _ => rfl⟩
    · cases he
  case ext i x =>
    simp only [op_ext] at he ⊢
    split at he
    · obtain ⟨e, rfl⟩ := map_pair he
      exact ⟨rfl, fun _ => by rw [e]; rfl⟩
    · cases he
  case len x =>
    simp only [op_len] at he ⊢
    split at he
    · cases he
    · split at he <;> cases he
      exact ⟨rfl, fun _ => rfl⟩
  case lens x =>
    simp only [op_lens] at he ⊢
    split at he <;> cases he <;> exact ⟨rfl, fun _ => rfl⟩
  case lenc n => cases he; exact ⟨rfl, fun _ => rfl⟩
  case mini xs =>
    simp only [op_mini] at he ⊢
    split at he
    · obtain ⟨e, rfl⟩ := map_pair he
      exact ⟨rfl, fun _ => by rw [e]; rfl⟩
    · cases he
  case maxi xs =>
    simp only [op_maxi] at he ⊢
    split at he
    · obtain ⟨e, rfl⟩ := map_pair he
      exact ⟨rfl, fun _ => by rw [e]; rfl⟩
    · cases he
  case mkif t x => cases he; exact ⟨rfl, fun _ => rfl⟩
  case st n a x => cases a <;> simp [kSt] at hk
  case ld n a =>
    cases a with
    | t i => cases hk
    | k u =>
      simp only [op_ld, Opd.ev] at he ⊢
      cases u with
      | iptr cs =>
        simp only [cellsAt] at he ⊢
        obtain ⟨e, rfl⟩ := map_pair he
        exact ⟨rfl, fun _ => by rw [e]; rfl⟩
      | _ => simp [kLd] at hk
  case slc sz x lo hi mx =>
    cases mx with
    | some m => cases hk
    | none =>
      simp only [op_slc, evo, Option.map_none] at he ⊢
      obtain ⟨e, rfl⟩ := map_pair he
      refine ⟨rfl, fun h2 => ?_⟩
      have : ∀ h1 : Heap, sliceV h1 sz (x.ev s) (lo.map (Opd.ev s)) (hi.map (Opd.ev s)) none = sliceV h' sz (x.ev s) (lo.map (Opd.ev s)) (hi.map (Opd.ev s)) none := by
        intro h1
        unfold sliceV
        rfl
      rw [this h2, e]
      rfl

/-- kind 1: a new block -/
theorem kind1 {o : VOp} {s : Slots} {h h' : Heap} {v : V} (hk : kindOf o = 1) (he : opE o s h = some (v, h')) : ∃ x, h' = h.new x ∧ ∀ h2 : Heap, h2.nx = h.nx → opE o s h2 = some (v, h2.new x) := by
  cases o <;> simp only [kindOf] at hk <;> (try cases hk) <;> simp only [opE] at he ⊢
  case alloc z => cases he; exact ⟨_, rfl, fun h2 e => by simp only [op_alloc, e]⟩
  case box n x =>
    simp only [op_box] at he ⊢
    split at he
    · rename_i l _
      cases hb : Nat.beq l.length n with
      | false => rw [hb] at he; cases he
      | true => rw [hb] at he; cases he; exact ⟨_, rfl, fun h2 e => by simp only [e, cond_true]⟩
    · cases he
  case bsl n sz z ps =>
    simp only [op_bsl] at he ⊢
    cases hf : fill z (ps.map fun p => (p.1, p.2.1, p.2.2.ev s)) with
    | none => rw [hf] at he; cases he
    | some cs => rw [hf] at he; cases he; exact ⟨_, rfl, fun h2 e => by simp only [Option.map_some, e]⟩
  case mks b z x y =>
    simp only [op_mks] at he ⊢
    split at he
    · rename_i l c _ _
      cases hb : (Nat.ble l c && Nat.ble (c * b) 140737488355328 && Nat.ble c 9223372036854775807) with
      | false => rw [hb] at he; cases he
      | true => rw [hb] at he; cases he; exact ⟨_, rfl, fun h2 e => by simp only [e, cond_true]⟩
    · cases he
  case slc sz x lo hi mx => cases mx <;> simp [kMx] at hk
  case ld n a => cases a with
    | t i => simp [kLd] at hk
    | k u => cases u <;> simp [kLd] at hk
  case st n a x => cases a <;> simp [kSt] at hk

theorem kind2_is {o : VOp} (hk : kindOf o = 2) : ∃ n i, o = .ld n (.t i) := by
  cases o <;> simp only [kindOf] at hk <;> (try cases hk)
  case slc sz x lo hi mx => cases mx <;> simp [kMx] at hk
  case ld n a => cases a with
    | t i => exact ⟨n, i, rfl⟩
    | k u => cases u <;> simp [kLd] at hk
  case st n a x => cases a <;> simp [kSt] at hk

theorem kind3_is {o : VOp} (hk : kindOf o = 3) : ∃ n i x, o = .st n (.t i) x := by
  cases o <;> simp only [kindOf] at hk <;> (try cases hk)
  case slc sz x lo hi mx => cases mx <;> simp [kMx] at hk
  case ld n a => cases a with
    | t i => simp [kLd] at hk
    | k u => cases u <;> simp [kLd] at hk
  case st n a x => cases a with
    | t i => exact ⟨n, i, x, rfl⟩
    | k u => simp [kSt] at hk

/-- a load: it looks at one block, or at none -/
theorem kind2 {n : Option Nat} {i : Nat} {s : Slots} {h h' : Heap} {v : V} (he : opE (.ld n (.t i)) s h = some (v, h')) : h' = h ∧
    ((∃ b off, s.at i = .ptr b off ∧ (∃ c o, h.get b = .cells c o) ∧ ∀ h2 : Heap, h2.get b = h.get b → opE (.ld n (.t i)) s h2 = some (v, h2)) ∨ ((∀ b off, s.at i ≠ .ptr b off) ∧ ∀ h2 : Heap, opE (.ld n (.t i)) s h2 = some (v, h2))) := by
  simp only [opE, op_ld, Opd.ev] at he ⊢
  cases hv : s.at i with
  | ptr b off =>
    rw [hv] at he
    simp only [cellsAt] at he ⊢
    cases hg : h.get b with
    | cells c o =>
      rw [hg] at he
      simp only at he
      obtain ⟨e, rfl⟩ := map_pair he
      refine ⟨rfl, .inl ⟨b, off, rfl, ⟨c, o, hg⟩, fun h2 e2 => ?_⟩⟩
      rw [e2, hg]
      show Option.map (fun v => (v, h2)) (part n (List.drop off c)) = some (v, h2)
      rw [e]
      rfl
    | _ => rw [hg] at he; cases he
  | iptr cs =>
    rw [hv] at he
    simp only [cellsAt] at he ⊢
    obtain ⟨e, rfl⟩ := map_pair he
    refine ⟨rfl, .inr ⟨fun _ _ q => (by cases q), fun h2 => ?_⟩⟩
    rw [e]
    rfl
  | _ => rw [hv] at he; simp [cellsAt] at he

/-- a store: one block is looked at and changed -/
theorem kind3 {n : Nat} {i : Nat} {x : Opd} {s : Slots} {h h' : Heap} {v : V} (he : opE (.st n (.t i) x) s h = some (v, h')) :
    ∃ b off, s.at i = .ptr b off ∧ ((n = 0 ∧ h' = h ∧ ∀ h2 : Heap, opE (.st n (.t i) x) s h2 = some (v, h2)) ∨ (n ≠ 0 ∧ h.lo ≤ b ∧ (∃ c o, h.get b = .cells c o) ∧ ∃ y, h' = h.set b y ∧ y ≠ .dead ∧
      ∀ h2 : Heap, h2.get b = h.get b → h2.lo = h.lo → opE (.st n (.t i) x) s h2 = some (v, h2.set b y))) := by
  simp only [opE, op_st, Opd.ev] at he ⊢
  split at he
  · rename_i l hl
    cases hb : Nat.beq l.length n with
    | false => rw [hb] at he; cases he
    | true =>
      rw [hb] at he
      simp only [cond_true] at he
      split at he
      · rename_i b off ha
        refine ⟨b, off, ha, ?_⟩
        cases l with
        | nil =>
          simp only [store, Option.map_some] at he ⊢
          cases he
          rw [beq_dec] at hb
          exact .inl ⟨by simpa using (of_decide_eq_true hb).symm, rfl, fun h2 => by simp [ha, beq_dec, (of_decide_eq_true hb).symm]⟩
        | cons y ys =>
          right
          simp only [store] at he ⊢
          cases hlo : Nat.blt b h.lo with
          | true => rw [hlo] at he; cases he
          | false =>
            rw [hlo] at he
            simp only [cond_false] at he
            rw [blt_dec] at hlo
            have hlo' : h.lo ≤ b := by simpa using hlo
            cases hg : h.get b with
            | cells c o =>
              rw [hg] at he
              simp only at he
              cases ho : over off c (y :: ys) with
              | none => rw [ho] at he; cases he
              | some c' =>
                rw [ho] at he
                cases he
                refine ⟨by rw [beq_dec] at hb; have := of_decide_eq_true hb; simp at this; omega, hlo', ⟨c, o, rfl⟩, _, rfl, by simp, fun h2 e1 e2 => ?_⟩
                have hlo2 : Nat.blt b h2.lo = false := by rw [blt_dec, e2]; simpa using hlo'
                simp only [ha, hb, cond_true, hlo2, cond_false, e1, ho, Option.map_some]
            | _ => rw [hg] at he; cases he
      · cases he
  · cases he

/-- kind 4, no call: reading alone -/
theorem kind4 {o : VOp} {s : Slots} {h h' : Heap} {v : V} (hk : kindOf o = 4) (hc : ∀ f xs, o ≠ .callp f xs) (he : opE o s h = some (v, h')) : h' = h := by
  cases o <;> simp only [kindOf] at hk <;> (try cases hk) <;> simp only [opE] at he
  case callp f xs => exact absurd rfl (hc f xs)
  case slc sz x lo hi mx =>
    simp only [op_slc] at he
    exact (map_pair he).2
  case slca n sz x lo hi mx =>
    simp only [op_slca] at he
    split at he
    · cases he
    · split at he
      · cases he
      · split at he
        · cases he
        · split at he
          · split at he
            · simp only [Bool.cond_eq_ite] at he
              split at he
              · cases he
              · split at he
                · cases he; rfl
                · cases he
            · cases he
          · obtain ⟨_, _, e⟩ := by
              cases hq : takeN _ _ with
              | none => rw [hq] at he; cases he
              | some z => rw [hq] at he; exact (⟨z, trivial, (Prod.mk.inj (Option.some.inj he)).2⟩ : ∃ z : List V, True ∧ h = h')
            exact e.symm
          · cases he
  case ld n a => cases a with
    | t i => simp [kLd] at hk
    | k u => cases u <;> simp [kLd] at hk
  case st n a x => cases a <;> simp [kSt] at hk
end Go.VE
