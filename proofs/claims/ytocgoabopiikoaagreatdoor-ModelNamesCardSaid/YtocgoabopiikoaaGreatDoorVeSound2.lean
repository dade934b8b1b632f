/- A part of a proof that a small evaluator of the translated code agrees with the model (part Sound2). No statement of the program stands here. -/
import Derived.Test.YtocgoabopiikoaaGreatDoorVeSound1
import Derived.Test.YtocgoabopiikoaaGreatDoorVeStep
set_option linter.all false
namespace Go.VE
section
variable {P : Program} {gl : Nat → Option (List V)} {pu : Nat → Nat} {N B : Nat} {M : Mem} {ρ : Rho} {h : Heap} {w : World} {s : Slots} {a : Act}

-- ------------------------------------------------------------------ results

def resM (tm : Array Value) (r : ResultVar) : Sem Value :=
  match r with
  | .tmp t => pure (tm.getD t undef)
  | .cell a t => do loadVar t (← asAddr (tm.getD a undef))
theorem results_eq (fn : Func) (tm : Array Value) : results fn tm = (do let vs ← fn.results.mapM (resM tm); pure (if h : vs.size = 1 then vs[0] else .tuple vs)) := by
  unfold results
  congr 1

theorem res_run (hh : HRel P gl B M ρ h w) {tm : Array Value} (hs : ∀ i, VRel M ρ (s.at i) (tm.getD i undef)) : ∀ {rs : List ResultVar} {vr : List VRes} {vs : List V}, compRes P rs = some vr → resVs s h vr = some vs →
    ∃ xs : List Value, (rs.mapM (resM tm)).run P w = .ok xs w ∧ VRels M ρ vs xs ∧ vs.length = xs.length
  | [], vr, vs, e1, e2 => by
    cases e1
    cases e2
    exact ⟨[], by simp, .nil, rfl⟩
  | .tmp t :: r, vr, vs, e1, e2 => by
    obtain ⟨vr', e3, e4⟩ := map_some (show (compRes P r).map (VRes.t t :: ·) = some vr from e1)
    subst e4
    simp only [resVs] at e2
    split at e2
    · rename_i x y h1 h2
      cases e2
      cases h1
      obtain ⟨xs, k1, k2, k3⟩ := res_run hh hs e3 h2
      refine ⟨tm.getD t undef :: xs, ?_, VRels.cons_iff.2 ⟨_, _, rfl, hs t, k2⟩, by simp [k3]⟩
      simp only [List.mapM_cons, Sem.run_bind, Sem.run_pure, Result.andThen_ok, k1, resM]
    · cases e2
  | .cell a t :: r, vr, vs, e1, e2 => by
    simp only [compRes] at e1
    split at e1
    · rename_i n l hn hl
      cases e1
      simp only [resVs, resV] at e2
      split at e2
      · rename_i x y h1 h2
        cases e2
        split at h1
        · rename_i cs hcs
          obtain ⟨ad, row, e5, e6, e7, e8⟩ := cellsAt_rel hh (hs a) hcs
          obtain ⟨z, k4, k5⟩ := loadVar_run (P := P) hn h1 e7 e8
          obtain ⟨xs, k1, k2, k3⟩ := res_run hh hs hl h2
          refine ⟨z :: xs, ?_, VRels.cons_iff.2 ⟨_, _, rfl, k5, k2⟩, by simp [k3]⟩
          have ha : (asAddr (tm.getD a undef)).run P w = .ok ad w := by rw [e5]; rfl
          simp only [List.mapM_cons, Sem.run_bind, Sem.run_pure, Result.andThen_ok, k1, ha, k4, resM]
        · cases h1
      · cases e2
    · cases e1

theorem results_run (hh : HRel P gl B M ρ h w) {tm : Array Value} (hs : ∀ i, VRel M ρ (s.at i) (tm.getD i undef)) {fn : Func} {vr : List VRes} {v : V} (e1 : compRes P fn.results.toList = some vr) (e2 : resOf s h vr = some v) :
    ∃ x, (results fn tm).run P w = .ok x w ∧ VRel M ρ v x := by
  cases e3 : resVs s h vr with
  | none => simp [resOf, e3] at e2
  | some vs =>
    obtain ⟨xs, k1, k2, k3⟩ := res_run hh hs e1 e3
    have hrun : ∀ (f : ResultVar → Sem Value), (fn.results.toList.mapM f).run P w = .ok xs w → (fn.results.mapM f).run P w = .ok xs.toArray w := by
      intro f hf
      rw [Array.mapM_eq_mapM_toList]
      simp only [Sem.run_map, hf]
      rfl
    refine ⟨if h : xs.toArray.size = 1 then xs.toArray[0] else .tuple xs.toArray, ?_, ?_⟩
    · rw [results_eq]
      simp only [Sem.run_bind]
      rw [hrun _ k1]
      rfl
    · unfold resOf at e2
      rw [e3] at e2
      match vs, xs, k2, k3, e2 with
      | [], [], k2, k3, e2 => cases e2; simpa [VRel] using (⟨[], rfl, k3, k2⟩ : ∃ xs : List Value, (#[] : Array Value) = xs.toArray ∧ _ ∧ _)
      | [u], [x], k2, k3, e2 =>
        cases e2
        obtain ⟨_, _, e, h1, _⟩ := VRels.cons_iff.1 k2
        cases e
        simpa using h1
      | u :: u' :: r, x :: x' :: r', k2, k3, e2 =>
        cases e2
        simp only [VRel]
        refine ⟨_, ?_, k3, k2⟩
        simp

-- ------------------------------------------------------------------ freezing
open Classical in
/-- The rows of the blocks from base on, told for ever. -/
noncomputable def frozen (M : Mem) (ρ : Rho) (h : Heap) (base : Nat) (w : World) : Mem := fun k =>
  match M k with
  | some cs => some cs
  | none => if ∃ b l, ρ b = some l ∧ live h b ∧ base ≤ b ∧ l.blk = k then
      (match w.heap[k]? with
      | some (.cells cur _ _) => some cur.toList
      | _ => none)
    else none

theorem frozen_le (base : Nat) : Mle M (frozen M ρ h base w) := by
  intro k cs e
  simp [frozen, e]

theorem frozen_mem (hh : HRel P gl B M ρ h w) (base : Nat) {k : Nat} {cs : List Value} (e : frozen M ρ h base w k = some cs) : ∃ e fr, w.heap[k]? = some (.cells cs.toArray e fr) := by
  unfold frozen at e
  split at e
  · rename_i c hc
    cases e
    exact hh.mem _ _ hc
  · split at e
    · split at e
      · rename_i cur e' fr hk
        cases e
        exact ⟨e', fr, by rw [hk]⟩
      · cases e
    · cases e

theorem frozen_own (hh : HRel P gl B M ρ h w) {base b : Nat} {l : Loc} (e : ρ b = some l) {c : List V} {o : Bool} (hg : h.get b = .cells c o) (hb : base ≤ b) {cur : Array Value} {e' : TypeId} {fr : Nat × Nat}
    (hw : w.heap[l.blk]? = some (.cells cur e' fr)) : frozen M ρ h base w l.blk = some cur.toList := by
  have hlv : live h b := by simp [live, hg]
  unfold frozen
  rw [hh.sep b l e hlv]
  rw [if_pos ⟨b, l, e, hlv, hb, rfl⟩, hw]

theorem frozen_none (hh : HRel P gl B M ρ h w) {base b : Nat} {l : Loc} (e : ρ b = some l) (hlv : live h b) (hb : b < base) : frozen M ρ h base w l.blk = none := by
  unfold frozen
  rw [hh.sep b l e hlv]
  rw [if_neg]
  rintro ⟨b', l', e', hlv', hb', heq⟩
  have := hh.inj b' b l' l e' e hlv' hlv heq
  omega

theorem frz_rel (hh : HRel P gl B M ρ h w) (base : Nat) : ∀ (n : Nat),
    (∀ (inn : Bool) (ρ2 : Rho) (v v' : V) (x : Value), (inn = false → ∀ b l, ρ b = some l → b < base → ρ2 b = some l) → frz n h base inn v = some v' → VRel M ρ v x → VRel (frozen M ρ h base w) ρ2 v' x) ∧
    (∀ (inn : Bool) (ρ2 : Rho) (l l' : List V) (xs : List Value), (inn = false → ∀ b l, ρ b = some l → b < base → ρ2 b = some l) → frzs n h base inn l = some l' → VRels M ρ l xs → VRels (frozen M ρ h base w) ρ2 l' xs ∧ l'.length = l.length) := by
  intro n
  induction n with
  | zero =>
    constructor
    · intro inn ρ2 v v' x _ e; simp [frz] at e
    · intro inn ρ2 v v' x _ e; simp [frzs] at e
  | succ n ih =>
    obtain ⟨ih1, ih2⟩ := ih
    constructor
    · intro inn ρ2 v v' x hρ e hv
      unfold frz at e
      split at e
      · cases e
      · rename_i b off len cap sz
        simp only [Bool.cond_eq_ite, blt_dec, decide_eq_true_eq] at e
        simp only [VRel] at hv
        obtain ⟨l, ad, cap', e1, e2, e3, e4, e5⟩ := hv
        split at e
        · rename_i hlt
          split at e
          · cases e
          · rename_i hi
            cases e
            simp only [VRel]
            exact ⟨l, ad, cap', hρ (by simpa using hi) b l e1 hlt, e2, e3, e4, e5⟩
        · rename_i hlt
          split at e
          · rename_i c o hg
            split at e
            · rename_i r hr
              split at e
              · rename_i r' hr'
                cases e
                have hb := hh.blk b l e1
                rw [hg] at hb
                obtain ⟨cur, ce, fr, k1, k2, k3, k4, k5, k6⟩ := BRel.cells_iff.1 hb
                have hcap : ∀ q, (bif (o && Nat.beq (off + cap * sz) c.length) then none else some cap) = some q → cap' = q := by
                  intro q hq
                  cases hcond : (o && Nat.beq (off + cap * sz) c.length) with
                  | true => rw [hcond] at hq; cases hq
                  | false =>
                    rw [hcond] at hq
                    cases hq
                    rcases e3 with ⟨_, h2⟩ | ⟨_, _, h2⟩ | ⟨h1, h2, _, _⟩
                    · exact h2
                    · exact h2
                    · exfalso
                      have ho : o = true := by
                        cases o
                        · exact absurd (k6 rfl) h1
                        · rfl
                      rw [ho, beq_dec, k3] at hcond
                      simp [h2] at hcond
                simp only [VRel]
                refine ⟨ad, cap', e2, by simpa only [Bool.cond_eq_ite] using hcap, Nat.le_trans e5 (capR_le e3), ?_⟩
                rcases e4 with h0 | h0
                · have hl0 : len = 0 := by have := capR_le e3; omega
                  subst hl0
                  simp [takeN] at hr
                  subst hr
                  left
                  have hlen := (ih2 true (fun _ => none) [] r' [] (fun q => by cases q) hr' .nil).2
                  simpa using hlen
                · right
                  subst h0
                  obtain ⟨t1, _, _⟩ := VRels.takeN (VRels.drop off k4) hr
                  have := (ih2 true (fun _ => none) r r' _ (fun q => by cases q) hr' t1).1
                  refine ⟨cur.toList, frozen_own hh e1 hg (by omega) k1, rfl, ?_⟩
                  have q := VRels.more (((cur.toList.drop l.base).drop off).drop (len * sz)) this
                  rw [List.take_append_drop, List.drop_drop] at q
                  exact q
              · cases e
            · cases e
          · cases e
      · rename_i b off
        simp only [Bool.cond_eq_ite, blt_dec, decide_eq_true_eq] at e
        simp only [VRel] at hv
        obtain ⟨l, e1, e2⟩ := hv
        split at e
        · rename_i hlt
          split at e
          · cases e
          · rename_i hi
            cases e
            simp only [VRel]
            exact ⟨l, hρ (by simpa using hi) b l e1 hlt, e2⟩
        · rename_i hlt
          split at e
          · rename_i c o hg
            split at e
            · rename_i r' hr'
              cases e
              have hb := hh.blk b l e1
              rw [hg] at hb
              obtain ⟨cur, ce, fr, k1, k2, k3, k4, k5, k6⟩ := BRel.cells_iff.1 hb
              have := (ih2 true (fun _ => none) _ r' _ (fun q => by cases q) hr' (VRels.drop off k4)).1
              rw [List.drop_drop] at this
              simp only [VRel]
              exact ⟨_, cur.toList, e2, frozen_own hh e1 hg (by omega) k1, rfl, this⟩
            · cases e
          · cases e
      · rename_i cs
        obtain ⟨r, h1, h2⟩ := map_some e
        subst h2
        simp only [VRel] at hv ⊢
        obtain ⟨xs, k1, k2, k3⟩ := hv
        obtain ⟨q1, q2⟩ := ih2 inn ρ2 cs r xs hρ h1 k3
        exact ⟨xs, k1, by omega, q1⟩
      · rename_i cs
        obtain ⟨r, h1, h2⟩ := map_some e
        subst h2
        simp only [VRel] at hv ⊢
        obtain ⟨xs, k1, k2, k3⟩ := hv
        obtain ⟨q1, q2⟩ := ih2 inn ρ2 cs r xs hρ h1 k3
        exact ⟨xs, k1, by omega, q1⟩
      · rename_i g cs
        obtain ⟨r, h1, h2⟩ := map_some e
        subst h2
        simp only [VRel] at hv ⊢
        obtain ⟨xs, k1, k2, k3⟩ := hv
        obtain ⟨q1, q2⟩ := ih2 inn ρ2 cs r xs hρ h1 k3
        exact ⟨xs, k1, by omega, q1⟩
      · rename_i t u
        obtain ⟨r, h1, h2⟩ := map_some e
        subst h2
        simp only [VRel] at hv ⊢
        obtain ⟨y, k1, k2⟩ := hv
        exact ⟨y, k1, ih1 inn ρ2 u r y hρ h1 k2⟩
      · cases e
      · cases e
      · cases e
        rename_i n1 n2 n3 n4 n5 n6 n7 n8 n9
        cases v with
        | top => exact absurd rfl n1
        | sl b off len cap sz => exact absurd rfl (n2 _ _ _ _ _)
        | ptr b off => exact absurd rfl (n3 _ _)
        | agg cs => exact absurd rfl (n4 _)
        | tup cs => exact absurd rfl (n5 _)
        | fn g cs => exact absurd rfl (n6 _ _)
        | ifc t u => exact absurd rfl (n7 _ _)
        | yld b => exact absurd rfl (n8 _)
        | mp b => exact absurd rfl (n9 _)
        | isl cs len cap => exact VRel.mono (frozen_le base) (ρ := fun _ => none) (fun _ _ q => by cases q) _ (by simpa [VRel] using hv)
        | iptr cs => exact VRel.mono (frozen_le base) (ρ := fun _ => none) (fun _ _ q => by cases q) _ (by simpa [VRel] using hv)
        | _ => simpa [VRel] using hv
    · intro inn ρ2 l l' xs hρ e hv
      unfold frzs at e
      split at e
      · cases e; exact ⟨.nil, rfl⟩
      · split at e
        · rename_i x r x' r' h1 h2
          cases e
          obtain ⟨y, ys, rfl, k1, k2⟩ := VRels.cons_iff.1 hv
          obtain ⟨q1, q2⟩ := ih2 inn ρ2 _ _ _ hρ h2 k2
          exact ⟨VRels.cons_iff.2 ⟨y, ys, rfl, ih1 inn ρ2 _ _ _ hρ h1 k1, q1⟩, by simp [q2]⟩
        · cases e

-- ------------------------------------------------------------------ leaving a callee

/-- What a call comes to. -/
def Post (P : Program) (gl : Nat → Option (List V)) (B : Nat) (M : Mem) (ρ : Rho) (h : Heap) (w : World) (v : V) (h' : Heap) (x : Value) (w' : World) : Prop :=
  ∃ M' ρ', HRel P gl B M' ρ' h' w' ∧ Evo M ρ h w M' ρ' h' w' ∧ VRel M' ρ' v x

theorem HRel.up (hh : HRel P gl B M ρ h w) : HRel P gl B M ρ { h with lo := h.nx } w :=
  ⟨hh.bound, hh.blk, hh.inj, hh.mem, hh.sep, hh.base, hh.fresh, hh.room, Nat.le_refl _, hh.glob⟩

theorem HRel.enter (hh : HRel P gl B M ρ h w) (mode : Nat) : HRel P gl B M ρ (enterH mode h) w := by
  unfold enterH
  split
  · exact hh
  · exact hh.up

theorem finish_sound (hh : HRel P gl B M ρ h w) {mode : Nat} {h1 h' : Heap} {v v' : V} (hf : finish mode h h1 v = some (v', h')) {x : Value} {w' : World} (hp : Post P gl B M ρ (enterH mode h) w v h1 x w') :
    Post P gl B M ρ h w v' h' x w' := by
  obtain ⟨M1, ρ1, k1, k2, k3⟩ := hp
  unfold finish at hf
  split at hf
  · cases hf
    exact ⟨M1, ρ1, k1, by simpa [enterH] using k2, k3⟩
  · obtain ⟨u, e1, e2⟩ := map_some hf
    cases e2
    simp only [enterH] at k2
    have hold : ∀ b l, ρ1 b = some l → b < h.nx → ρ b = some l := by
      intro b l e hb
      cases e' : ρ b with
      | none => have := k2.new b l e e'; simp at this; omega
      | some l' => have := k2.rho b l' e'; rw [e] at this; exact this.symm
    have hv := (frz_rel k1 h.nx frzFuel).1 false ρ v v' x (fun _ => hold) e1 k3
    have hlow : ∀ b l, ρ b = some l → h1.get b = h.get b := fun b l e => k2.low b l e (hh.bound b l e)
    have hfr : ∀ k, k < w.heap.size → w'.heap[k]? = w.heap[k]? := fun k hk => k2.frame k hk (fun b l e _ hb => by have := hh.bound b l e; simp at hb; omega)
    refine ⟨frozen M1 ρ1 h1 h.nx w', ρ, ?_, ?_, hv⟩
    · constructor
      · exact hh.bound
      · intro b l e
        by_cases hlv : live h b
        · rw [hfr _ (hh.blkLt e hlv)]
          exact BRel.mono (k2.mem.trans (frozen_le _)) (Rle.refl _) (hh.blk b l e)
        · have hd : h.get b = .dead := by simpa [live] using hlv
          rw [hd]
          simp [BRel]
      · exact hh.inj
      · intro k cs e
        exact frozen_mem k1 _ e
      · intro b l e hlv
        have hb := hh.bound b l e
        exact frozen_none k1 (k2.rho b l e) (by rw [live, hlow b l e]; exact hlv) hb
      · exact hh.base
      · exact hh.fresh
      · exact Nat.le_trans hh.room k2.size
      · exact hh.lonx
      · intro g cs e
        obtain ⟨row, e1, e2⟩ := hh.glob g cs e
        exact ⟨row, (k2.mem.trans (frozen_le _)) _ _ e1, VRels.mono (k2.mem.trans (frozen_le _)) (Rle.refl _) _ e2⟩
    · refine ⟨Rle.refl _, k2.mem.trans (frozen_le _), rfl, Nat.le_refl _, k2.os, k2.tape, k2.output, k2.size, fun b l e1 e2 e3 => .inr ⟨b, l, e1, e2, e3, rfl⟩,
        fun k hk _ => hfr k hk, fun _ _ _ _ => rfl, fun b l e1 e2 => (by rw [e2] at e1; cases e1), ?_⟩
      intro k cs e
      unfold frozen at e
      split at e
      · rename_i c hc
        cases e
        exact k2.mnew k cs hc
      · split at e
        · rename_i hex
          obtain ⟨b, l, e1, e2, e3, rfl⟩ := hex
          rcases k2.wr b l e1 e2 (by simpa using e3) with q | ⟨b0, l0, f1, _, f3, _⟩
          · exact .inr q
          · have := hh.bound b0 l0 f1; simp at f3; omega
        · cases e
  · rename_i n1 n2
    cases hf
    have eE : enterH mode h = { h with lo := h.nx } := by
      unfold enterH
      split
      · exact absurd rfl n1
      · rfl
    rw [eE] at k2
    have hlow : ∀ b l, ρ b = some l → h1.get b = h.get b := fun b l e => k2.low b l e (hh.bound b l e)
    refine ⟨M1, ρ1, ⟨k1.bound, k1.blk, k1.inj, k1.mem, k1.sep, k1.base, k1.fresh, k1.room, Nat.le_trans hh.lonx k2.nx, k1.glob⟩, ?_, k3⟩
    refine ⟨k2.rho, k2.mem, rfl, k2.nx, k2.os, k2.tape, k2.output, k2.size, ?_, ?_, ?_, k2.new, k2.mnew⟩
    · intro b l e1 e2 e3
      cases e4 : ρ b with
      | some l' =>
        have e5 := k2.rho b l' e4
        rw [e1] at e5
        cases e5
        refine .inr ⟨b, l, e4, ?_, e3, rfl⟩
        have := hlow b l e4
        unfold live at e2 ⊢
        rw [← this]
        exact e2
      | none =>
        have hb := k2.new b l e1 e4
        rcases k2.wr b l e1 e2 (by simpa using hb) with q | ⟨b0, l0, f1, _, f3, _⟩
        · exact .inl q
        · have := hh.bound b0 l0 f1; simp at f3; omega
    · intro k hk _
      exact k2.frame k hk (fun b l e _ hb => by have := hh.bound b l e; simp at hb; omega)
    · intro b l e _
      exact hlow b l e
end
end Go.VE
