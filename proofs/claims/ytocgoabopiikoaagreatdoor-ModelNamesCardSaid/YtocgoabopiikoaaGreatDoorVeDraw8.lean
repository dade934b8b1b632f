/- A part of a proof that a small evaluator of the translated code agrees with the model (part Draw8). No statement of the program stands here. -/
import Derived.Test.YtocgoabopiikoaaGreatDoorVeDraw7
import Derived.StillTail
set_option linter.all false
namespace Go.VE
section
variable {P : Program} {gl : Nat → Option (List V)} {pu : Nat → Nat} {N B : Nat} {vp : Nat → Option VFn} {n : Nat} {ops : Array Oper} {ys : List VOper} {chk : List (Nat × Nat)} {S : Nat → Slots} {H : Nat → Heap} {M0 : Mem} {ρ0 : Rho} {w0 : World}
  {E : Nat → Prop} {M : Mem} {ρ : Rho} {C D : Nat → Nat} {a : Act} {w : World} {i : Nat} {y : VOper}

def done (listed : Array Bool) (k : Nat) : Prop := listed.getD k false = true
def undone (ops : Array Oper) (listed : Array Bool) : Nat := ((List.range ops.size).filter fun k => !listed.getD k false).length

theorem done_set {listed : Array Bool} {i : Nat} (hi : i < listed.size) : done (listed.setIfInBounds i true) = fun k => done listed k ∨ k = i := by
  funext k
  apply propext
  unfold done
  by_cases h : k = i
  · subst h; simp [hi]
  · rw [getD_set_ne false (Ne.symm h)]
    simp [h]

theorem filter_drop {p q : Nat → Bool} {i : Nat} : ∀ {l : List Nat}, l.Nodup → i ∈ l → p i = true → q i = false → (∀ k, k ≠ i → q k = p k) → (l.filter q).length + 1 = (l.filter p).length
  | [], _, h, _, _, _ => by simp at h
  | x :: r, hn, h, hp, hq, hpq => by
    have hn' := (List.nodup_cons.1 hn)
    by_cases hx : x = i
    · subst hx
      have e : r.filter q = r.filter p := List.filter_congr (fun k hk => hpq k (fun e => hn'.1 (e ▸ hk)))
      simp [hp, hq, e]
    · have hi : i ∈ r := (List.mem_cons.1 h).resolve_left (Ne.symm hx)
      have := filter_drop hn'.2 hi hp hq hpq
      rw [List.filter_cons, List.filter_cons, hpq x hx]
      split
      · simp only [List.length_cons]; omega
      · exact this

theorem undone_set {listed : Array Bool} {i : Nat} (hi : i < ops.size) (hs : i < listed.size) (hn : ¬ done listed i) : undone ops (listed.setIfInBounds i true) + 1 = undone ops listed := by
  unfold undone
  refine filter_drop (i := i) List.nodup_range (List.mem_range.2 hi) ?_ ?_ (fun k hk => ?_)
  · unfold done at hn
    simpa using hn
  · simp [hs]
  · rw [getD_set_ne false (Ne.symm hk)]

theorem undone_zero {listed : Array Bool} (h : undone ops listed = 0) {k : Nat} (hk : k < ops.size) : done listed k := by
  unfold undone at h
  have h1 : (List.range ops.size).filter (fun k => !listed.getD k false) = [] := List.length_eq_zero_iff.1 h
  have := List.filter_eq_nil_iff.1 h1 k (List.mem_range.2 hk)
  unfold done
  simpa using this

theorem wpAny_inv (ht : TabOK P gl pu vp) (ih : ∀ m, m < n → CallOK P gl B vp m) (fx : Fix P gl B vp n ops ys chk S H M0 ρ0 w0) (hlen : ys.length = ops.size) (hoa : ∀ (i : Nat) o y, ops[i]? = some o → ys[i]? = some y → OpAs P gl pu N ops o y)
    (hback : ∀ (j : Nat) o, ops[j]? = some o → ∀ e ∈ o.after, Region.binds .any e = true → e.on < j) {Q : Exit → Act → World → Prop} {df : List Deferred}
    (hQ : ∀ (E : Nat → Prop) (M : Mem) (ρ : Rho) (C D : Nat → Nat) (a : Act) (w : World), a.defers = df → (∀ k, k < ys.length → E k) → InvS ys S H N E M ρ D a.tmps → InvH P gl B ys S H M0 ρ0 w0 E M ρ C w → Q .normal a w) :
    ∀ (fuel : Nat) (listed : Array Bool) (a : Act) (w : World) (M : Mem) (ρ : Rho) (C D : Nat → Nat), undone ops listed = fuel → listed.size = ops.size → Closed ops (done listed) → a.defers = df →
      InvS ys S H N (done listed) M ρ D a.tmps → InvH P gl B ys S H M0 ρ0 w0 (done listed) M ρ C w → wpAny P .any ops Q fuel listed a w := by
  intro fuel
  -- nothing may come up: all have come up
  have none_ready : ∀ (listed : Array Bool), listed.size = ops.size → Region.ready .any ops listed = [] → ∀ k, k < ops.size → done listed k := by
    intro listed hs hr k
    induction k using Nat.strongRecOn with
    | _ k ihk =>
      intro hk
      cases hd : listed.getD k false with
      | true => exact hd
      | false =>
        exfalso
        have : k ∈ Region.ready .any ops listed := by
          refine mem_ready.2 ⟨?_, ops[k], by simp [hk], fun e he hb => ?_⟩
          · exact getD_in (by omega) hd
          · have := hback k ops[k] (by simp [hk]) e he hb
            exact ihk e.on this (by omega)
        rw [hr] at this
        cases this
  induction fuel with
  | zero =>
    intro listed a w M ρ C D hu hs hcl hdf is iv
    have hall : ∀ k, k < ops.size → done listed k := fun k hk => undone_zero hu hk
    refine ⟨?_, hQ _ M ρ C D a w hdf (fun k hk => hall k (by omega)) is iv⟩
    cases hr : Region.ready .any ops listed with
    | nil => rfl
    | cons x r =>
      exfalso
      have hx : x ∈ Region.ready .any ops listed := by rw [hr]; simp
      obtain ⟨h1, o, h2, _⟩ := mem_ready.1 hx
      have := hall x (Array.getElem?_eq_some_iff.1 h2).1
      unfold done at this
      rw [getD_both h1] at this
      cases this
  | succ fuel ihf =>
    intro listed a w M ρ C D hu hs hcl hdf is iv
    refine ⟨fun hr => hQ _ M ρ C D a w hdf (fun k hk => none_ready listed hs hr k (by omega)) is iv, fun i hi => ?_⟩
    obtain ⟨h1, o, h2, h3⟩ := mem_ready.1 hi
    have hilt : i < ops.size := (Array.getElem?_eq_some_iff.1 h2).1
    have hnd : ¬ done listed i := by
      unfold done
      rw [getD_both h1]
      simp
    have hy : ys[i]? = some (ys[i]'(by omega)) := by simp
    have hset := done_set (listed := listed) (i := i) (by omega)
    have nx : Next ops ys (done listed) i (ys[i]'(by omega)) := by
      refine ⟨hy, hnd, fun k hk => ?_, hcl, ?_⟩
      · rcases Nat.lt_or_ge k listed.size with q | q
        · omega
        · unfold done at hk
          simp [Array.getElem?_eq_none q] at hk
      · intro k o' ho' hk e he hb
        rcases hk with hk | hk
        · exact .inl (hcl k o' ho' hk e he hb)
        · subst hk
          rw [h2] at ho'
          cases ho'
          exact .inl (h3 e he hb)
    refine one_op ht ih fx nx is iv h2 (hoa i o _ h2 hy) ?_
    intro a' w' M' ρ' C' D' q1 q2 q3
    have hcl' := nx.closed'
    rw [← hset] at q2 q3 hcl'
    refine ihf _ a' w' M' ρ' C' D' ?_ (by simpa using hs) hcl' (q1.trans hdf) q2 q3
    have := undone_set hilt (by omega) hnd
    omega

/-- the end of a drawn region -/
theorem inv_end (fx : Fix P gl B vp n ops ys chk S H M0 ρ0 w0) (hall : ∀ k, k < ys.length → E k) (is : InvS ys S H N E M ρ D a.tmps) (iv : InvH P gl B ys S H M0 ρ0 w0 E M ρ C w) :
    HRel P gl B M ρ (H ys.length) w ∧ Evo M0 ρ0 (H 0) w0 M ρ (H ys.length) w ∧ SRel M ρ N (S ys.length) a.tmps := by
  have hnow : ∀ b l, ρ b = some l → (H ys.length).get b = (H (C b)).get b := by
    intro b l e
    refine stable fx.run (iv.le b l e) (Nat.le_refl _) (iv.lt b l e) (fun k h1 h2 hw => ?_)
    have := iv.all b l e k (hall k h2) hw
    omega
  have hlo := fx.run.lo (Nat.le_refl ys.length)
  have hnx := fx.run.nx (k := 0) (j := ys.length) (by omega) (Nat.le_refl _)
  have hlive : ∀ b l, ρ b = some l → live (H ys.length) b → (H (C b)).get b ≠ .dead := by
    intro b l e hl
    unfold live at hl
    rw [hnow b l e] at hl
    exact hl
  refine ⟨⟨fun b l e => ?_, fun b l e => ?_, fun b b' l l' e e' hl hl' heq => iv.inj b b' l l' e e' (hlive b l e hl) (hlive b' l' e' hl') heq, iv.mem, fun b l e hl => iv.sep b l e (hlive b l e hl), fun b l e hl => iv.base b l e (hlive b l e hl),
    fx.run.wfs (Nat.le_refl _), iv.room, ?_, iv.glob⟩, ⟨iv.rho, iv.mle, hlo, hnx, iv.os, iv.tape, iv.output, iv.wsize, fun b l e hl hb => iv.wr b l e (hlive b l e hl) hb, iv.frame, fun b l e hb => ?_, iv.new, iv.mnew⟩, ⟨is.size, fun t => ?_⟩⟩
  · exact Nat.lt_of_lt_of_le (iv.lt b l e) (fx.run.nx (iv.le b l e) (Nat.le_refl _))
  · rw [hnow b l e]
    exact BRel.mono (Mle.refl _) (below_le _ _) (iv.blk b l e)
  · have := fx.rel.lonx
    omega
  · rw [hnow b l (iv.rho b l e)]
    exact iv.low b l e hb
  · rw [fx.run.slots (k := D t) (is.le t) (Nat.le_refl _) (fun k z h1 h2 h3 h4 => by
      have := is.all t k z (hall k h2) h3 h4
      omega)]
    exact VRel.mono (Mle.refl _) (below_le _ _) _ (is.slot t)

/-- its beginning -/
theorem inv_start (hh : HRel P gl B M ρ (H 0) w) (hs : SRel M ρ N (S 0) a.tmps) (hE : ∀ k, ¬ E k) : InvS ys S H N E M ρ (fun _ => 0) a.tmps ∧ InvH P gl B ys S H M ρ w E M ρ (fun _ => 0) w := by
  have hb : ρ.below (H 0).nx = ρ := by
    funext b
    unfold Rho.below
    split
    · rfl
    · cases e : ρ b with
      | none => rfl
      | some l => have := hh.bound b l e; omega
  refine ⟨⟨hs.size, fun _ => Nat.zero_le _, fun _ => .inl rfl, fun t k y hk => absurd hk (hE k), fun t => by rw [hb]; exact hs.rel t⟩, ?_⟩
  exact ⟨fun _ _ _ => Nat.zero_le _, hh.bound, fun _ _ _ => .inl rfl, fun b l e k hk => absurd hk (hE k), fun b l e => by rw [hb]; exact hh.blk b l e, hh.inj, hh.mem, hh.sep, hh.base, hh.room, hh.glob, fun b l e => .inl (hh.bound b l e),
    fun k b m i x off y hk => absurd hk (hE k), Rle.refl _, Mle.refl _, fun _ _ q => .inl q, rfl, rfl, rfl, Nat.le_refl _, fun b l e hl hlo => .inr ⟨b, l, e, hl, hlo, rfl⟩, fun _ _ _ => rfl, fun _ _ _ _ => rfl, fun b l e1 e2 => by rw [e2] at e1; cases e1⟩

/-- **A drawn region.** -/
theorem region_drawn (ht : TabOK P gl pu vp) (ih : ∀ m, m < n → CallOK P gl B vp m) {id : Nat} {ops : Array Oper} {l : List VOper} {chk : List (Nat × Nat)} (hc : compOps P gl pu N ops ops.toList = some l) (hd : dregGo chk [] [] ops.toList l = true)
    {M : Mem} {ρ : Rho} {h h' : Heap} {w : World} {s s' : Slots} {a : Act} (hh : HRel P gl B M ρ h w) (hs : SRel M ρ N s a.tmps) (he : runOps vp n l s h = some (s', h')) (hk : chkOk chk s' = true)
    {Q : Exit → Act → World → Prop} (hQ : ∀ a' w', PostS P gl B N M ρ h w a s' h' a' w' → Q .normal a' w') : (Code.region id ops true).wp P Q a w := by
  obtain ⟨hlen, hall⟩ := compOps_as hc
  have hlen' : l.length = ops.size := by simpa using hlen
  obtain ⟨S, H, rfl, rfl, rfl, rfl, hstep⟩ := trace_of n l s s' h h' he
  obtain ⟨hback, hpair⟩ := dregGo_spec (ops := ops) (ys := l) ops.toList l [] [] hd (by simp) rfl (fun j => by simp) (fun k m hk => by simp at hk)
  have hhd := hh.drew
  have fx : Fix P gl B vp n ops l chk S H M ρ w.drew := ⟨⟨hstep, hh.fresh, hk⟩, fun i j x y hij hx hy => hpair i j x y (Nat.zero_le _) hij hx hy, hhd⟩
  refine wp_region_any ht.mixed ?_
  have hE : ∀ k, ¬ done (Array.replicate ops.size false) k := by
    intro k hk
    unfold done at hk
    rw [getD_replicate_false] at hk
    cases hk
  obtain ⟨is, iv⟩ := inv_start (N := N) (ys := l) (H := H) (S := S) (a := a) (E := done (Array.replicate ops.size false)) hhd hs hE
  refine wpAny_inv ht ih fx hlen' (fun i o y h1 h2 => hall i o y (by simpa using h1) h2) (fun j o hj e he hb => hback j o (Nat.zero_le _) hj e he hb) (df := a.defers) ?_ ops.size _ a _ M ρ _ _ ?_ (by simp) ?_ rfl is iv
  · intro E M' ρ' C D a' w' q1 q2 q3 q4
    obtain ⟨k1, k2, k3⟩ := inv_end fx q2 q3 q4
    refine hQ a' w' ⟨q1, M', ρ', k1, ?_, k3⟩
    exact ⟨k2.rho, k2.mem, k2.lo, k2.nx, k2.os, k2.tape, k2.output, k2.size, k2.wr, k2.frame, k2.low, k2.new, k2.mnew⟩
  · unfold undone
    have : (List.range ops.size).filter (fun k => !(Array.replicate ops.size false).getD k false) = List.range ops.size := by
      apply List.filter_eq_self.2
      intro k _
      rw [getD_replicate_false]
      rfl
    rw [this]
    simp
  · intro k o ho hk
    exact absurd hk (hE k)
end
end Go.VE
