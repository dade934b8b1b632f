/- A part of a proof that a small evaluator of the translated code agrees with the model (part Final). No statement of the program stands here. -/
import Derived.Test.YtpbggddmfgjmlaaGreatVeDrawB
import Derived.ChangeSame
import Derived.Below
import Derived.LaidSub
set_option linter.all false
section
namespace Go.VE
section
variable {P : Program} {gl : Nat → Option (List V)} {pu pu0 : Nat → Nat} {N B : Nat} {vp : Nat → Option VFn}
theorem code_sound (ht : TabOK P gl pu0 vp) : ∀ (n : Nat), (∀ m, m < n → AllOK P gl B vp m) → ∀ (c : Code) (vc : VCode), comp P gl pu N c = some vc →
  ∀ {M : Mem} {ρ : Rho} {h h' : Heap} {w : World} {s s' : Slots} {a : Act} {x : VX} {r : Option Nat}, (r = none ∨ noRF c = true) → HRel P gl B M ρ h w → SRel M ρ N s a.tmps → exec vp n vc s h = some (x, s', h') →
   c.wpIn (Fw r) 0 P (PostC P gl B N M ρ h w a r x s' h') a w
 | 0, _, _, _, _, _, _, _, _, _, _, _, _, _, _, _, _, _, he => by simp [exec] at he
 | n + 1, ih, c, vc, hc, M, ρ, h, h', w, s, s', a, x, r, hr, hh, hs, he => by
  have ih' : ∀ m, m < n → AllOK P gl B vp m := fun m hm => ih m (by omega)
  have recd := fun c vc hc (hr : r = none ∨ noRF c = true) {M ρ h h' w s s' a x} hh hs he => @code_sound ht n ih' c vc hc M ρ h h' w s s' a x r hr hh hs he
  cases c with
  | skip =>
   cases hc
   cases he
   exact wpIn_skip ⟨rfl, .same rfl, M, ρ, hh, Evo.refl _ _ _ _, hs⟩
  | region id ops drawn =>
   simp only [comp] at hc
   split at hc
   ·rename_i l hl
    cases drawn with
    | false =>
     cases hc
     simp only [exec] at he
     split at he
     ·rename_i s1 h1 hr
      simp only [chkOk, cond_true] at he
      cases he
      obtain ⟨k1, k2⟩ := compOps_as hl
      have := ops_text (r := r) (Q := PostC P gl B N M ρ h w a r .norm s' h') ht n ih' ops.toList l 0 k1 k2 (fun j => by simp) hh hs hr (fun a' w' p => ⟨rfl, .same p.1, p.2⟩)
      refine wpIn_region ?_
      rw [List.range_eq_range']
      simpa using this
     ·cases he
    | true =>
     simp only [regOf] at hc
     split at hc
     ·rename_i hd
      cases hc
      simp only [exec] at he
      split at he
      ·rename_i s1 h1 hr
       rw [Bool.cond_eq_ite] at he
       split at he
       ·rename_i hk
        cases he
        exact region_drawn ht ih' hl hd hh hs hr hk (fun a' w' p => ⟨rfl, .same p.1, p.2⟩)
       ·cases he
      ·cases he
     ·cases hc
   ·cases hc
  | seq p q =>
   simp only [comp] at hc
   split at hc
   ·rename_i vp' vq hp hq
    cases hc
    simp only [exec] at he
    refine wpIn_seq ?_
    split at he
    ·rename_i s1 h1 hr1
     refine wpIn_mono (recd p vp' hp (hr.imp (fun q => q) (fun q => by simp [noRF] at q; exact q.1)) hh hs hr1) ?_
     rintro e a1 w1 ⟨rfl, q1, M1, ρ1, q2, q3, q4⟩
     exact wpIn_mono (recd q vq hq (hr.imp (fun q => q) (fun q => by simp [noRF] at q; exact q.2)) q2 q4 he) (fun e a' w' p => p.trans q1 q2 q3)
    ·rename_i hne
     refine wpIn_mono (recd p vp' hp (hr.imp (fun q => q) (fun q => by simp [noRF] at q; exact q.1)) hh hs he) ?_
     rintro e a1 w1 ⟨rfl, p1⟩
     cases x with
     | norm => exact absurd he (hne _ _)
     | exit i => exact ⟨rfl, p1⟩
     | ret => exact ⟨rfl, p1⟩
   ·cases hc
  | cond g p q =>
   simp only [comp] at hc
   split at hc
   ·rename_i g' vp' vq hg hp hq
    cases hc
    simp only [exec] at he
    have hgr := opd_rel hh hs hg
    split at he
    ·rename_i hb
     rw [hb] at hgr
     refine wpIn_cond_true (by simpa [VRel] using hgr) (recd p vp' hp (hr.imp (fun q => q) (fun q => by simp [noRF] at q; exact q.1)) hh hs he)
    ·rename_i hb
     rw [hb] at hgr
     refine wpIn_cond_false (by simpa [VRel] using hgr) (recd q vq hq (hr.imp (fun q => q) (fun q => by simp [noRF] at q; exact q.2)) hh hs he)
    ·cases he
   ·cases hc
  | block id p =>
   obtain ⟨vp', hp, e⟩ := map_some (show (comp P gl pu N p).map (VCode.block id) = some vc from hc)
   subst e
   simp only [exec] at he
   refine wpIn_block ?_
   split at he
   ·rename_i i s1 h1 hr1
    cases he
    refine wpIn_mono (recd p vp' hp (hr.imp (fun q => q) (fun q => by simpa [noRF] using q)) hh hs hr1) ?_
    rintro e a1 w1 ⟨rfl, p1⟩
    rw [Bool.cond_eq_ite, beq_dec]
    simp only [toExit, Exit.inBlock, decide_eq_true_eq]
    split
    ·exact ⟨rfl, p1⟩
    ·exact ⟨rfl, p1⟩
   ·rename_i hne
    refine wpIn_mono (recd p vp' hp (hr.imp (fun q => q) (fun q => by simpa [noRF] using q)) hh hs he) ?_
    rintro e a1 w1 ⟨rfl, p1⟩
    cases x with
    | norm => exact ⟨rfl, p1⟩
    | exit i => exact absurd he (hne _ _ _)
    | ret => exact ⟨rfl, p1⟩
  | loop p =>
   obtain ⟨vp', hp, e⟩ := map_some (show (comp P gl pu N p).map VCode.loop = some vc from hc)
   subst e
   have key : ∀ (m : Nat), m ≤ n + 1 → ∀ {M1 : Mem} {ρ1 : Rho} {h1 : Heap} {w1 : World} {s1 : Slots} {a1 : Act}, HRel P gl B M1 ρ1 h1 w1 → SRel M1 ρ1 N s1 a1.tmps → exec vp m (.loop vp') s1 h1 = some (x, s', h') →
     Code.roundsIn (Fw r) 0 P p (PostC P gl B N M1 ρ1 h1 w1 a1 r x s' h') m a1 w1 := by
    intro m
    induction m with
    | zero => intro _ M1 ρ1 h1 w1 s1 a1 _ _ he1; simp [exec] at he1
    | succ m ihm =>
     intro hm M1 ρ1 h1 w1 s1 a1 hh1 hs1 he1
     rw [roundsIn_succ]
     simp only [exec] at he1
     have rec1 := fun {M ρ h h' w s s' a x} hh hs he => @code_sound ht m (fun q hq => ih q (by omega)) p vp' hp M ρ h h' w s s' a x r (hr.imp (fun q => q) (fun q => by simpa [noRF] using q)) hh hs he
     split at he1
     ·rename_i s2 h2 hr1
      refine wpIn_mono (rec1 hh1 hs1 hr1) ?_
      rintro e a2 w2 ⟨rfl, q1, M2, ρ2, q2, q3, q4⟩
      have := ihm (by omega) q2 q4 he1
      have mono : ∀ (k : Nat) {Q Q' : Exit → Act → World → Prop} {a : Act} {w : World}, (∀ e a w, Q e a w → Q' e a w) → Code.roundsIn (Fw r) 0 P p Q k a w → Code.roundsIn (Fw r) 0 P p Q' k a w := by
       intro k
       induction k with
       | zero => intro Q Q' a w _ hf; exact hf.elim
       | succ k ihk =>
        intro Q Q' a w hQ hf
        rw [roundsIn_succ] at hf ⊢
        refine wpIn_mono hf ?_
        intro e a' w' he'
        cases e with
        | normal => exact ihk hQ he'
        | _ => exact hQ _ _ _ he'
      exact mono m (fun e a' w' p => p.trans q1 q2 q3) this
     ·rename_i hne
      refine wpIn_mono (rec1 hh1 hs1 he1) ?_
      rintro e a2 w2 ⟨rfl, p1⟩
      cases x with
      | norm => exact absurd he1 (hne _ _)
      | exit i => exact ⟨rfl, p1⟩
      | ret => exact ⟨rfl, p1⟩
   exact wpIn_loop_rounds (n + 1) (key (n + 1) (Nat.le_refl _) hh hs he)
  | exit id =>
   cases hc
   cases he
   exact wpIn_exit ⟨rfl, .same rfl, M, ρ, hh, Evo.refl _ _ _ _, hs⟩
  | ret =>
   cases hc
   cases he
   exact wpIn_ret ⟨rfl, .same rfl, M, ρ, hh, Evo.refl _ _ _ _, hs⟩
  | scope p =>
   obtain ⟨vp', hp, e⟩ := map_some (show (comp P gl pu N p).map VCode.scope = some vc from hc)
   subst e
   simp only [exec] at he
   refine wpIn_scope_straight ?_
   refine wpIn_mono (recd p vp' hp (hr.imp (fun q => q) (fun q => by simpa [noRF] using q)) hh hs he) ?_
   rintro e a1 w1 ⟨rfl, p1⟩
   cases x <;> exact ⟨rfl, p1⟩
  | label l =>
   cases hc
   cases he
   exact wpIn_label ⟨rfl, .same rfl, M, ρ, hh, Evo.refl _ _ _ _, hs⟩
  | rangeFunc g ps asg body =>
   have hrn : r = none := by
    rcases hr with q | q
    ·exact q
    ·simp [noRF] at q
   subst hrn
   simp only [comp] at hc
   split at hc
   case h_2 => cases hc
   rename_i g' asg' body' hg ha hb
   split at hc
   case isFalse => cases hc
   rename_i hok
   simp only [Bool.and_eq_true] at hok
   obtain ⟨⟨hn1, hn2⟩, hps0⟩ := hok
   have hps : ∀ t ∈ ps, t < N := fun t ht' => by
    have := List.all_eq_true.1 hps0 t (by simpa using ht')
    simpa using this
   cases hc
   simp only [exec] at he
   have hgr := opd_rel hh hs hg
   split at he
   case h_2 => cases he
   rename_i u h1 hcall
   split at hcall
   case h_2 => cases hcall
   rename_i fid caps hev
   rw [hev] at hgr
   simp only [VRel] at hgr
   obtain ⟨xs, hgv, hcl, hcv⟩ := hgr
   let rec0 : FuncId → Loop := fun fn => { state := .ready, pending := none, fn, tmps := a.tmps, params := ps, assign := asg, body, defers := w.heap.size }
   have hwd := hh.allocW (.deferred (some []))
   have evd := Evo.allocW M ρ h w (.deferred (some []))
   have hsz1 : (w.alloc (.deferred (some []))).heap.size = w.heap.size + 1 := by simp
   obtain ⟨vf, hvf⟩ : ∃ vf, vp fid = some vf := by
    cases n with
    | zero => simp [callF] at hcall
    | succ n =>
     simp only [callF] at hcall
     split at hcall
     ·cases hcall
     ·rename_i vf hvf; exact ⟨vf, hvf⟩
   obtain ⟨fn0, q1, q2, q3⟩ := ht.bodied hvf
   refine wpIn_rangeFunc (fun fn _ => ?_)
   have hlive0 : ∀ (L : Loc), BRel P gl M (ρ.add h.nx L) L (.loop 0 none s ps.toList asg' body') (some (.loop (rec0 fn))) := fun L =>
    ⟨rec0 fn, pu, N, rfl, rfl, ha, hb, hn1, hn2, fun t ht' => hps t (by simpa using ht'), hs.mono (Mle.refl _) (hh.rle L), .inl ⟨rfl, rfl⟩, rfl⟩
   obtain ⟨n1, n2⟩ := hwd.new (.loop 0 none s ps.toList asg' body') (.loop (rec0 fn)) ⟨w.heap.size + 1, 0, 0, 0, 0⟩ hsz1.symm (hlive0 _)
   have hm1 : ((w.alloc (.deferred (some []))).alloc (.loop (rec0 fn))).heap[w.heap.size]? = some (.deferred (some [])) := by
    rw [heap_alloc_old _ _ _ (by omega)]
    exact heap_alloc_new w _
   have hargs : VRels M (ρ.add h.nx ⟨w.heap.size + 1, 0, 0, 0, 0⟩) (.yld h.nx :: caps) (.func (.yield (w.heap.size + 1)) #[] #[] :: xs) :=
    VRels.cons_iff.2 ⟨_, _, rfl, by simp only [VRel]; exact ⟨_, Rho.add_same _ _ _, rfl⟩, VRels.mono (Mle.refl _) (hh.rle _) _ hcv⟩
   have hcallee := (ih n (by omega)).1 n1 hargs (by simp [hcl]) hcall
   refine ⟨w.heap.size + 1, [mkD w.heap.size], (w.alloc (.deferred (some []))).alloc (.loop (rec0 fn)), { target := .fn (.func fid) xs.toArray, args := #[.func (.yield (w.heap.size + 1)) #[] #[]] }, (w.alloc (.deferred (some []))).alloc (.loop (rec0 fn)), fid, (.func (.yield (w.heap.size + 1)) #[] #[] :: xs).toArray, (w.alloc (.deferred (some []))).alloc (.loop (rec0 fn)),
    run_enterLoop_outer fn a.tmps ps asg body, ?_, fun _ _ => trivial, ?_, (fun q => by cases q), callsIn_fw.2 (hcallee.mono ?_)⟩
   ·simp only [resolve, rangeCall, hgv, Deferred.ofValue]
    simp [Act.eval]
   ·simp only [invoke]
    have := enter_run q1 q2 q3 (#[Value.func (.yield (w.heap.size + 1)) #[] #[]] ++ xs.toArray) ((w.alloc (.deferred (some []))).alloc (.loop (rec0 fn)))
    rw [this]
    simp
   ·rintro e w3 ⟨x3, rfl, M1, ρ1, g1, g2, g3⟩
    have e1 : ρ1 h.nx = some ⟨w.heap.size + 1, 0, 0, 0, 0⟩ := g2.rho _ _ (Rho.add_same _ _ _)
    have hm3 := mark_kept n1 g2 hm1
    split at he
    case h_2 => cases he
    rename_i st pd tm1 ps1 asg1 body1 hg1
    rw [Bool.cond_eq_ite] at he
    split at he
    ·cases he
    ·rename_i hst
     have hst : st ≠ 1 := by simpa [beq_dec] using hst
     have hb1 := g1.blk _ _ e1
     rw [hg1] at hb1
     obtain ⟨r1, pu1, N1, c1, c2, c3, c4, c5, c6, c7, c8, c9, c10⟩ := hb1
     have hbusy : r1.state ≠ .busy := by
      rcases c9 with ⟨_, q⟩ | ⟨q, _⟩ | ⟨_, q⟩
      ·rw [q]; intro z; cases z
      ·exact absurd q hst
      ·rw [q]; intro z; cases z
     have hlv1 : live h1 h.nx := by unfold live; rw [hg1]; simp
     have hlo1 : h1.lo ≤ h.nx := by
      rw [g2.lo, n2.lo]
      exact hh.lonx
     obtain ⟨u1, u2⟩ := g1.upd e1 hlv1 hlo1 .dead (w3.putObj (w.heap.size + 1) (.loop { r1 with state := .exhausted })) rfl rfl rfl World.putObj_size (fun k hk => World.putObj_heap_other hk) (by simp [BRel])
     have hm4 : (w3.putObj (w.heap.size + 1) (.loop { r1 with state := .exhausted })).heap[w.heap.size]? = some (.deferred (some [])) := by
      rw [World.putObj_heap_other (by omega)]
      exact hm3
     have evAll := ((evd.trans n2).trans g2).trans u2
     refine ⟨r1.pending, _, run_endLoop c1 hbusy, ?_⟩
     have hmarks : Marks w (w3.putObj (w.heap.size + 1) (.loop { r1 with state := .exhausted })) a { a with defers := [mkD w.heap.size] ++ a.defers } none :=
      ⟨[w.heap.size], by simp, by simp, fun m hm => by
       have : m = w.heap.size := by simpa using hm
       subst this
       exact ⟨Nat.le_refl _, hm4⟩, fun q => absurd rfl q⟩
     generalize w3.putObj (w.heap.size + 1) (.loop { r1 with state := .exhausted }) = W4 at u1 evAll hmarks ⊢
     cases pd with
     | none =>
      simp only [pendR] at c10
      rw [c10]
      simp only [Option.some.injEq, Prod.mk.injEq] at he
      obtain ⟨rfl, rfl, rfl⟩ := he
      exact ⟨rfl, hmarks, M1, ρ1, u1, evAll, hs.mono evAll.mem evAll.rho⟩
     | some x' =>
      simp only [Option.some.injEq, Prod.mk.injEq] at he
      obtain ⟨rfl, rfl, rfl⟩ := he
      cases x' with
      | norm => exact absurd c10 id
      | ret =>
       simp only [pendR] at c10
       rw [c10]
       exact wpIn_ret ⟨rfl, hmarks, M1, ρ1, u1, evAll, hs.mono evAll.mem evAll.rho⟩
      | exit i =>
       simp only [pendR] at c10
       rw [c10]
       exact wpIn_exit ⟨rfl, hmarks, M1, ρ1, u1, evAll, hs.mono evAll.mem evAll.rho⟩
  | refuse why =>
   cases hc
   exfalso
   rcases n with _ | _ | _ | n <;> simp [exec, runOps, gEval, stepOp, opE] at he
  | _ => cases hc
end
end Go.VE
end
section
namespace Go.VE
theorem argSlots_go : ∀ (args : List V) (i : Nat) (s : Slots) (t : Nat), (argSlots.go i args s).at t = if i ≤ t ∧ t < i + args.length then (args[t - i]?).getD (.tup []) else s.at t
 | [], i, s, t => by
  simp only [argSlots.go, List.length_nil]
  rw [if_neg (by omega)]
 | v :: r, i, s, t => by
  simp only [argSlots.go]
  rw [argSlots_go r (i + 1), Slots.at_set]
  by_cases h1 : i + 1 ≤ t ∧ t < i + 1 + r.length
  ·rw [if_pos h1, if_pos (by simp only [List.length_cons]; omega)]
   rw [show t - i = (t - (i + 1)) + 1 by omega]
   simp
  ·rw [if_neg h1]
   by_cases h2 : t = i
   ·subst h2
    rw [if_pos rfl, if_pos (by simp only [List.length_cons]; omega)]
    simp
   ·rw [if_neg h2, if_neg (by simp only [List.length_cons]; omega)]
theorem argSlots_at (args : List V) (t : Nat) : (argSlots args).at t = (args[t]?).getD (.tup []) := by
 unfold argSlots
 rw [argSlots_go]
 by_cases h : t < args.length
 ·rw [if_pos (by omega)]
  simp
 ·rw [if_neg (by omega)]
  simp [Slots.at, Tr.get_lf, List.getElem?_eq_none (by omega : args.length ≤ t)]
section
variable {P : Program} {gl : Nat → Option (List V)} {pu : Nat → Nat} {N B : Nat} {vp : Nat → Option VFn}
theorem args_rel {M : Mem} {ρ : Rho} {args : List V} {xs : List Value} (hx : VRels M ρ args xs) (hl : args.length = xs.length) (N : Nat) :
  SRel M ρ N (argSlots args) (xs.toArray ++ Array.replicate (N - xs.toArray.size) undef) := by
 refine ⟨by simp; omega, fun t => ?_⟩
 rw [argSlots_at]
 by_cases h : t < args.length
 ·obtain ⟨x, h1, h2⟩ := VRels.get t hx (List.getElem?_eq_getElem h)
  have hsz : t < xs.length := by omega
  have e : (xs.toArray ++ Array.replicate (N - xs.toArray.size) undef).getD t undef = x := by
   have : (xs.toArray ++ Array.replicate (N - xs.toArray.size) undef)[t]? = some x := by
    rw [Array.getElem?_append_left (by simpa using hsz)]
    simpa using h1
   simp only [Array.getD_eq_getD_getElem?, this, Option.getD_some]
  rw [e]
  simpa [List.getElem?_eq_getElem h] using h2
 ·rw [List.getElem?_eq_none (by omega)]
  have e : (xs.toArray ++ Array.replicate (N - xs.toArray.size) undef).getD t undef = undef := by
   simp only [Array.getD_eq_getD_getElem?]
   rw [Array.getElem?_append_right (by simp; omega)]
   by_cases hq : t - xs.toArray.size < N - xs.toArray.size
   ·rw [Array.getElem?_replicate, if_pos hq]
    rfl
   ·rw [Array.getElem?_replicate, if_neg hq]
    rfl
  rw [e]
  simp only [Option.getD_none]
  exact undef_rel
theorem leaves_marks {fn : Func} {tm : Array Value} {M M1 : Mem} {ρ ρ1 : Rho} {h h1 : Heap} {w0 : World} {R : Ending → World → Prop}
  (hfin : ∀ w, HRel P gl B M1 ρ1 h1 w → Evo M ρ h w0 M1 ρ1 h1 w → ∃ v, (results fn tm).run P w = .ok v w ∧ R (.returned v) w) :
  ∀ (ms : List Nat) (w : World), ms.Nodup → (∀ m ∈ ms, w0.heap.size ≤ m ∧ w.heap[m]? = some (.deferred (some []))) → HRel P gl B M1 ρ1 h1 w → Evo M ρ h w0 M1 ρ1 h1 w → LeavesInM (Fw none) 0 P fn tm R (ms.map mkD) .returning w
 | [], w, _, _, hh, ev => hfin w hh ev
 | m :: ms, w, hnd, hm, hh, ev => by
  have h1' := hm m (by simp)
  refine ⟨(fun q => by cases q), .inl ⟨m, _, rfl, run_takeDeferred h1'.2, ?_⟩⟩
  refine leaves_marks hfin ms _ (List.nodup_cons.1 hnd).2 (fun m' hm' => ?_) (hh.mark h1'.2 _) (ev.mark h1'.1 _)
  have hne : m' ≠ m := fun q => (List.nodup_cons.1 hnd).1 (q ▸ hm')
  refine ⟨(hm m' (by simp [hm'])).1, ?_⟩
  rw [World.putObj_heap_other hne]
  exact (hm m' (by simp [hm'])).2
theorem all_sound (ht : TabOK P gl pu vp) : ∀ (n : Nat), AllOK P gl B vp n := by
 intro n
 induction n using Nat.strongRecOn with
 | _ n ih =>
  refine ⟨?_, fun hc => code_sound ht n ih _ _ hc⟩
  intro M ρ h h' w f args v xs hh hx hl he
  cases n with
  | zero => simp [callF] at he
  | succ n =>
   simp only [callF] at he
   split at he
   ·cases he
   ·rename_i vf hvf
    split at he
    ·rename_i sz bytes hprim
     obtain ⟨t, e, it, ti, z, i1, rfl, rfl⟩ := ht.prim f vf sz bytes hvf hprim
     split at he
     ·rename_i s i v
      obtain ⟨X1, r1, rfl, k1, hx⟩ := VRels.cons_iff.1 hx
      obtain ⟨X2, r2, rfl, k2, hx⟩ := VRels.cons_iff.1 hx
      obtain ⟨X3, r3, rfl, k3, hx⟩ := VRels.cons_iff.1 hx
      cases r3 with
      | nil => exact insert_sim i1 hh k1 k2 k3 he
      | cons _ _ => simp at hl
     ·cases he
    rename_i hprim
    obtain ⟨fn, c, q1, q2, q3, q4, q5⟩ := ht.body hvf hprim
    have hs := args_rel hx hl fn.ntmps
    split at he
    ·rename_i as hiso
     obtain ⟨hx', hl'⟩ := isoArgs_rel hiso hx
     have hs := args_rel hx' (by rw [hl']; exact hl) fn.ntmps
     have fin : ∀ (x : VX) (s' : Slots) (h1 : Heap), (x = .norm ∨ x = .ret) → exec vp n vf.body (argSlots as) h0 = some (x, s', h1) → (match resOf s' h1 vf.res with | some v => finishI h h1 v | none => none) = some (v, h') →
       Calls P f xs.toArray w (fun e w' => ∃ x, e = .returned x ∧ Post P gl B M ρ h w v h' x w') := by
      intro x s' h1 hxx hex hfin
      refine (callsIn_fw (r := none) (n := 0)).1 (callsIn_of_wp_marks q1 q3 trivial ?_)
      have := code_sound (r := none) ht n (fun m hm => ih m (by omega)) c vf.body q4 (a := { tmps := xs.toArray ++ Array.replicate (fn.ntmps - xs.toArray.size) undef, defers := [] }) (.inl rfl) hh.iso hs hex
      refine wpIn_mono this ?_
      rintro e a' w' ⟨rfl, ⟨ms, p1, p2, p3, _⟩, M1, ρ1, k1, k2, k3⟩
      split at hfin
      ·rename_i u hu
       have hleave : LeavesInM (Fw none) 0 P fn a'.tmps (fun e w' => ∃ x, e = .returned x ∧ Post P gl B M ρ h w v h' x w') a'.defers .returning w' := by
        rw [p1, List.append_nil]
        refine leaves_marks (fun w2 j1 j2 => ?_) ms w' p2 p3 k1 k2
        obtain ⟨y, r1, r2⟩ := results_run j1 k3.rel q5 hu
        exact ⟨y, r1, y, rfl, finishI_sound hh hfin ⟨M1, ρ1, j1, j2, r2⟩⟩
       rcases hxx with rfl | rfl
       ·exact hleave
       ·exact hleave
      ·cases hfin
     split at he
     ·rename_i s' h1 hex
      exact fin _ s' h1 (.inl rfl) hex he
     ·rename_i s' h1 hex
      exact fin _ s' h1 (.inr rfl) hex he
     ·cases he
    ·have fin : ∀ (x : VX) (s' : Slots) (h1 : Heap), (x = .norm ∨ x = .ret) → exec vp n vf.body (argSlots args) (enterH vf.mode h) = some (x, s', h1) → (match resOf s' h1 vf.res with | some v => finish vf.mode h h1 v | none => none) = some (v, h') →
       Calls P f xs.toArray w (fun e w' => ∃ x, e = .returned x ∧ Post P gl B M ρ h w v h' x w') := by
      intro x s' h1 hxx hex hfin
      refine (callsIn_fw (r := none) (n := 0)).1 (callsIn_of_wp_marks q1 q3 trivial ?_)
      have := code_sound (r := none) ht n (fun m hm => ih m (by omega)) c vf.body q4 (a := { tmps := xs.toArray ++ Array.replicate (fn.ntmps - xs.toArray.size) undef, defers := [] }) (.inl rfl) (hh.enter vf.mode) hs hex
      refine wpIn_mono this ?_
      rintro e a' w' ⟨rfl, ⟨ms, p1, p2, p3, _⟩, M1, ρ1, k1, k2, k3⟩
      split at hfin
      ·rename_i u hu
       have hleave : LeavesInM (Fw none) 0 P fn a'.tmps (fun e w' => ∃ x, e = .returned x ∧ Post P gl B M ρ h w v h' x w') a'.defers .returning w' := by
        rw [p1, List.append_nil]
        refine leaves_marks (fun w2 j1 j2 => ?_) ms w' p2 p3 k1 k2
        obtain ⟨y, r1, r2⟩ := results_run j1 k3.rel q5 hu
        exact ⟨y, r1, y, rfl, finish_sound hh hfin ⟨M1, ρ1, j1, j2, r2⟩⟩
       rcases hxx with rfl | rfl
       ·exact hleave
       ·exact hleave
      ·cases hfin
     split at he
     ·rename_i s' h1 hex
      exact fin _ s' h1 (.inl rfl) hex he
     ·rename_i s' h1 hex
      exact fin _ s' h1 (.inr rfl) hex he
     ·cases he
theorem call_sound (ht : TabOK P gl pu vp) (n : Nat) : CallOK P gl B vp n := (all_sound ht n).1
end
end Go.VE
end
section
namespace Go.VE
open Go.ChangeShapes Go.WideShapes Go.RowKit
def rowsOf (W : World) : Mem := fun k =>
 match W.heap[k]? with
 | some (.cells cur _ _) => some cur.toList
 | _ => none
section
variable {P : Program} {gl : Nat → Option (List V)} {pu : Nat → Nat} {vp : Nat → Option VFn} {W : World}
theorem start_rel (hg : ∀ g cs, gl g = some cs → ∃ row, rowsOf W g = some row ∧ VRels (rowsOf W) (fun _ => none) cs row) : HRel P gl W.heap.size (rowsOf W) (fun _ => none) h0 W := by
 refine ⟨fun b l e => (by cases e), fun b l e => (by cases e), fun b b' l l' e => (by cases e), fun k cs e => ?_, fun b l e => (by cases e), fun b l e => (by cases e), fun b _ => ?_, Nat.le_refl _, Nat.le_refl _, hg⟩
 ·unfold rowsOf at e
  split at e
  ·rename_i cur e' fr hk
   cases e
   exact ⟨e', fr, by rw [hk]⟩
  ·cases e
 ·simp [h0, Heap.get, Tr.get_lf]
theorem law_run (ht : TabOK P gl pu vp) {n f : Nat} {args : List V} {xs : List Value} (hg : ∀ g cs, gl g = some cs → ∃ row, rowsOf W g = some row ∧ VRels (rowsOf W) (fun _ => none) cs row)
  (hx : VRels (rowsOf W) (fun _ => none) args xs) (hl : args.length = xs.length) {b : Bool} {h' : Heap} (he : callF vp n f args h0 = some (.bool b, h')) :
  Calls P f xs.toArray W fun e W' => e = .returned (.bool b) ∧ Below W.heap.size W W' := by
 refine (call_sound (B := W.heap.size) ht n (start_rel hg) hx hl he).mono ?_
 rintro e W' ⟨x, rfl, M', ρ', g1, g2, g3⟩
 simp only [VRel] at g3
 subst g3
 exact ⟨rfl, g2.os, g2.tape, g2.output, g2.size, fun k hk => g2.frame k hk (fun b l e => (by cases e))⟩
variable {H : Type} {enc : TypeId × Value → H}
theorem post_of_below {f : Func} {s : ChangeSpec} {apart fresh handsOn again : Bool} {W W' : World} {args : Array Value} {v : Value} {ds gs : List (DataW H)} {before pa pv : List MemPlace}
  (hW : DataW.Whole enc P f.params.toList s.vars apart W args.toList ds gs before)
  (hres : ∀ (b : Nat) (sp : Nat → Bool) (hd : Bool), DataW.TrodAll enc P W' b sp hd f.resultTypes.toList (v.resultList f.resultTypes.size) (s.fn H (ds ++ gs)).results [])
  (hargs : ∀ sp : Nat → Bool, (∀ p ∈ before, sp p.block = true) → DataW.TrodAll enc P W' 0 sp true f.params.toList args.toList (s.fn H (ds ++ gs)).args pa)
  (hvars : ∀ sp : Nat → Bool, (∀ p ∈ before, sp p.block = true) → DataW.TrodVars enc P W' sp s.vars (s.fn H (ds ++ gs)).vars pv)
  (hps : before = pa ++ pv) (hb : Below W.heap.size W W')
  (hok : ∀ (j : Nat) (t : TypeId) (r : Value), f.resultTypes[j]? = some t → (v.resultList f.resultTypes.size)[j]? = some r → Value.okWide P W' .any 0 t r) :
  s.post enc P f apart fresh handsOn again W args v W' := by
 have hold : ∀ p ∈ before, (fun b => decide (b < W.heap.size)) p.block = true := fun p hp => by simpa using hW.lt p hp
 have hlt := hW.lt
 refine ⟨ds, gs, before, [], pa, pv, hW, hres _ _ _, hargs _ hold, hvars _ hold, World.keptBut_mono (fun p hp => ⟨hp, ?_⟩) (hb.frame (· ∈ before)), fun _ => ?_⟩
 ·rw [hps, List.mem_append] at hp
  exact Or.inr hp
 ·obtain ⟨_, _, _, _, _, hz, hn⟩ := hW
  refine ⟨hok, _, _, ([] ++ pa) ++ pv, ⟨[] ++ pa, pv, trodAll_append (hargs _ (fun _ _ => rfl)) (hres _ _ _), hvars _ (fun _ _ => rfl), rfl, ?_, ?_⟩, ?_⟩
  ·intro b off hp
   have hp' : MemPlace.cell b off ∈ before := by rw [hps]; simpa using hp
   have := hb.frozen (p := ⟨b, off, none⟩) (hlt _ hp')
   rw [this]
   exact hz b off hp'
  ·intro ha
   have := hn ha
   rw [hps] at this
   simpa using this
  ·intro p hp _
   rw [hps]
   simpa using hp
end
section
variable {P : Program} {gl : Nat → Option (List V)} {pu : Nat → Nat}
def TabQ (P : Program) (gl : Nat → Option (List V)) (pu : Nat → Nat) (i : Nat) (v : VFn) : Prop := (∃ fn, P.funcs[i]? = some fn ∧ compFn P gl pu v.mode fn = some v) ∧ (v.prim = none ∨ ∃ t e it ti z, InsW P i t e it ti z ∧ v.prim = some (ti.size, ti.bytes))
def TabOk (P : Program) (gl : Nat → Option (List V)) (pu : Nat → Nat) (i : Nat) (o : Option VFn) : Prop := ∀ v, o = some v → TabQ P gl pu i v
theorem ok_bif {i : Nat} {b : Bool} {x y : Option VFn} (hx : TabOk P gl pu i x) (hy : TabOk P gl pu i y) : TabOk P gl pu i (bif b then x else y) := by
 cases b
 ·exact hy
 ·exact hx
theorem ok_leaf {i k : Nat} {v : VFn} (h : TabQ P gl pu k v) : TabOk P gl pu i (bif Nat.beq i k then some v else none) := by
 intro v' e
 cases hb : Nat.beq i k with
 | false => rw [hb] at e; cases e
 | true =>
  rw [hb] at e
  cases e
  rw [Nat.eq_of_beq_eq_true hb]
  exact h
theorem tabOK_of {vp : Nat → Option VFn} (h : ∀ i, TabOk P gl pu i (vp i)) (hm : P.follows .mixedOrders = true) : TabOK P gl pu vp :=
 ⟨fun f vf e => (h f vf e).1, fun f vf sz bytes e hp => by
  rcases (h f vf e).2 with q | ⟨t, e', it, ti, z, q1, q2⟩
  ·rw [hp] at q; cases q
  ·rw [hp] at q2
   cases q2
   exact ⟨t, e', it, ti, z, q1, rfl, rfl⟩, hm⟩
end
end Go.VE
end
section
namespace Go.VE
inductive Sh where
 | bool
 | int (k : IntKind)
 | str
 | ptr (s : Sh)
 | sl (s : Sh)
 | st (l : List Sh)
 | arr (n : Nat) (s : Sh)
section
variable {H : Type}
mutual
def dvs : Sh → DataW H → List V
 | .bool, d => match d with
  | .lit (.bool b) => [.bool b]
  | _ => [.top]
 | .int _, d => match d with
  | .lit (.int k n) => [.int k n]
  | _ => [.top]
 | .str, d => match d with
  | .lit (.string l) => [.str l]
  | _ => [.top]
 | .ptr s, d => match d with
  | .nil => [.nilp]
  | .ptr d => [.iptr (dvs s d)]
  | _ => [.top]
 | .sl s, d => match d with
  | .nil => [.nils]
  | .slice es sp => [.isl (es.flatMap fun d => dvs s d) es.length (some (es.length + sp.length))]
  | _ => [.top]
 | .st l, d => match d with
  | .agg ps => dvsL l ps
  | _ => []
 | .arr _ s, d => match d with
  | .agg ps => ps.flatMap fun d => dvs s d
  | _ => []
def dvsL : List Sh → List (DataW H) → List V
 | [], _ => []
 | s :: l, ds => match ds with
  | [] => []
  | d :: ds => dvs s d ++ dvsL l ds
end
end
section
variable (P : Program)
def shFs (f : TypeId → Option Sh) : Nat → List Field → Option (List Sh × Nat)
 | k, [] => some ([], k)
 | k, x :: r => if x.offset = k then match f x.type, shFs f (k + P.cellsOf x.type) r with
   | some s, some (l, e) => some (s :: l, e)
   | _, _ => none
  else none
def shOf : Nat → TypeId → Option Sh
 | 0, _ => none
 | n + 1, t => match P.underlying t with
  | some .bool => some .bool
  | some (.int k) => some (.int k)
  | some .string => some .str
  | some (.pointer e) => if P.cellsOf e = 0 then none else (shOf n e).map .ptr
  | some (.slice e) => (shOf n e).map .sl
  | some (.struct fs) => match shFs P (shOf n) 0 fs.toList with
   | some (l, e) => if e = P.cellsOf t then some (.st l) else none
   | none => none
  | some (.array k e) => if P.cellsOf t = k * P.cellsOf e then (shOf n e).map (.arr k) else none
  | _ => none
end
theorem mapM_cons {α β : Type} {f : α → Option β} {x : α} {l : List α} {r : List β} (h : (x :: l).mapM f = some r) : ∃ y ys, f x = some y ∧ l.mapM f = some ys ∧ r = y :: ys := by
 rw [List.mapM_cons] at h
 cases hx : f x with
 | none => simp [hx] at h
 | some y =>
  cases hl : l.mapM f with
  | none => simp [hx, hl] at h
  | some ys =>
   simp [hx, hl] at h
   exact ⟨y, ys, rfl, rfl, h.symm⟩
theorem mapM_length {α β : Type} {f : α → Option β} : ∀ {l : List α} {r : List β}, l.mapM f = some r → r.length = l.length
 | [], r, h => by simp at h; subst h; rfl
 | x :: l, r, h => by
  obtain ⟨y, ys, _, h2, rfl⟩ := mapM_cons h
  simp [mapM_length h2]
section
variable {H : Type} {enc : TypeId × Value → H} {P : Program} {w : World} {base : Nat} {spare : Nat → Bool} {held : Bool}
theorem add_block (a : Addr) (k : Nat) : (a.add k).block = a.block := by unfold Addr.add; split <;> rfl
theorem add_off (a : Addr) (k : Nat) : (a.add k).off = a.off + k := by
 unfold Addr.add
 split
 ·rename_i h; subst h; rfl
 ·rfl
theorem add_spot {a : Addr} (h : a.spot = none) (k : Nat) : (a.add k).spot = none := by
 unfold Addr.add
 split
 ·exact h
 ·rfl
theorem cell_row {a : Addr} {v : Value} (h1 : w.cell? a = some v) : ∃ row, rowsOf w a.block = some row ∧ a.spot = none := by
 unfold World.cell? at h1
 unfold rowsOf
 split at h1
 ·rename_i c _ _ hc
  cases hs : a.spot with
  | some s => rw [hs] at h1; simp at h1
  | none => exact ⟨_, by rw [hc], rfl⟩
 ·cases h1
theorem cells_drop {a : Addr} {row : List Value} (hr : rowsOf w a.block = some row) (hs : a.spot = none) : ∀ (n k : Nat) {cs : List Value}, ((List.range' k n).mapM fun i => w.cell? (a.add i)) = some cs →
  ∃ rest, row.drop (a.off + k) = cs ++ rest
 | 0, k, cs, h => by
  simp at h
  subst h
  exact ⟨_, rfl⟩
 | n + 1, k, cs, h => by
  rw [List.range'_succ] at h
  obtain ⟨y, ys, h1, h2, rfl⟩ := mapM_cons h
  obtain ⟨rest, h3⟩ := cells_drop hr hs n (k + 1) h2
  unfold World.cell? at h1
  unfold rowsOf at hr
  rw [add_block, add_spot hs, add_off] at h1
  split at hr
  ·rename_i c _ _ hc
   rw [hc] at h1
   cases hr
   simp at h1
   refine ⟨rest, ?_⟩
   have h4 : c.toList[a.off + k]? = some y := by simpa using h1
   obtain ⟨hl, h5⟩ := List.getElem?_eq_some_iff.1 h4
   rw [List.drop_eq_getElem_cons hl, h5]
   have : a.off + (k + 1) = a.off + k + 1 := by omega
   rw [this] at h3
   rw [h3]
   rfl
  ·cases hr
theorem cells_rel {a : Addr} {n : Nat} {cs : List Value} (h : w.cells? base a n = some cs) : (cs = [] ∨ ∃ row, rowsOf w a.block = some row ∧ a.spot = none ∧ ∃ rest, row.drop a.off = cs ++ rest) ∧ cs.length = n := by
 unfold World.cells? at h
 split at h
 ·refine ⟨?_, by simpa using mapM_length h⟩
  cases n with
  | zero => simp at h; exact .inl h
  | succ n =>
   rw [List.range_eq_range'] at h
   have h' := h
   rw [List.range'_succ] at h'
   obtain ⟨y, ys, h1, _, _⟩ := mapM_cons h'
   obtain ⟨row, r1, r2⟩ := cell_row h1
   obtain ⟨rest, h3⟩ := cells_drop r1 r2 _ 0 h
   exact .inr ⟨row, r1, r2, rest, h3⟩
 ·cases h
theorem VRels.nilV {M : Mem} {ρ : Rho} {v : V} {x : Value} (h : VRel M ρ v x) : VRels M ρ [v] [x] := VRels.cons_iff.2 ⟨x, [], rfl, h, .nil⟩
def RelOK (enc : TypeId × Value → H) (P : Program) (w : World) (base : Nat) (spare : Nat → Bool) (held : Bool) (fuel : Nat) : Prop :=
 ∀ n t sh cs d ps, shOf P n t = some sh → DataW.trod enc P w base spare held fuel t cs = some (d, ps) → VRels (rowsOf w) (fun _ => none) (dvs sh d) cs ∧ (dvs sh d).length = cs.length
theorem dvsL_fields {fuel n : Nat} (ih : RelOK enc P w base spare held fuel) : ∀ (fs : List Field) (k : Nat) (l : List Sh) (e : Nat) (cs : List Value) (xs : List (DataW H × List MemPlace)),
  shFs P (shOf P n) k fs = some (l, e) → e = cs.length → (fs.mapM fun f => DataW.trod enc P w base spare held fuel f.type ((cs.drop f.offset).take (P.cellsOf f.type))) = some xs →
  VRels (rowsOf w) (fun _ => none) (dvsL l (xs.map (·.1))) (cs.drop k) ∧ (dvsL l (xs.map (·.1))).length + k = cs.length
 | [], k, l, e, cs, xs, h1, h2, h3 => by
  simp [shFs] at h1
  obtain ⟨rfl, rfl⟩ := h1
  simp only [dvsL, List.length_nil]
  exact ⟨.nil, by omega⟩
 | f :: fs, k, l, e, cs, xs, h1, h2, h3 => by
  unfold shFs at h1
  split at h1
  ·rename_i hoff
   split at h1
   ·rename_i s0 l0 e0 q1 q2
    cases h1
    obtain ⟨y, ys, g1, g2, rfl⟩ := mapM_cons h3
    obtain ⟨r1, r2⟩ := dvsL_fields ih fs _ l0 _ cs ys q2 h2 g2
    obtain ⟨d, ps⟩ := y
    obtain ⟨t1, t2⟩ := ih _ _ _ _ _ _ q1 g1
    rw [hoff] at t1 t2
    have hlen : (dvs s0 d).length = P.cellsOf f.type := by
     rw [t2, List.length_take, List.length_drop]
     omega
    have hspl : cs.drop k = (cs.drop k).take (P.cellsOf f.type) ++ cs.drop (k + P.cellsOf f.type) := by
     rw [← List.drop_drop]
     exact (List.take_append_drop _ _).symm
    simp only [List.map_cons, dvsL]
    rw [hspl]
    exact ⟨VRels.append t1 t2 r1, by rw [List.length_append]; omega⟩
   ·cases h1
  ·cases h1
theorem flat_arr {fuel n : Nat} (ih : RelOK enc P w base spare held fuel) {e : TypeId} {s : Sh} (hs : shOf P n e = some s) (cs : List Value) : ∀ (m k : Nat) (xs : List (DataW H × List MemPlace)), (k + m) * P.cellsOf e = cs.length →
  ((List.range' k m).mapM fun i => DataW.trod enc P w base spare held fuel e ((cs.drop (i * P.cellsOf e)).take (P.cellsOf e))) = some xs →
  VRels (rowsOf w) (fun _ => none) ((xs.map (·.1)).flatMap fun d => dvs s d) (cs.drop (k * P.cellsOf e)) ∧ ((xs.map (·.1)).flatMap fun d => dvs s d).length = m * P.cellsOf e
 | 0, k, xs, h1, h2 => by
  simp at h2
  subst h2
  simpa using .nil
 | m + 1, k, xs, h1, h2 => by
  rw [List.range'_succ] at h2
  obtain ⟨y, ys, g1, g2, rfl⟩ := mapM_cons h2
  obtain ⟨r1, r2⟩ := flat_arr ih hs cs m (k + 1) ys (by rw [← h1]; congr 1; omega) g2
  obtain ⟨d, ps⟩ := y
  obtain ⟨t1, t2⟩ := ih _ _ _ _ _ _ hs g1
  have e1 : (k + 1) * P.cellsOf e = k * P.cellsOf e + P.cellsOf e := by rw [Nat.add_mul]; omega
  have e2 : (k + (m + 1)) * P.cellsOf e = k * P.cellsOf e + m * P.cellsOf e + P.cellsOf e := by rw [Nat.add_mul, Nat.add_mul]; omega
  have hlen : (dvs s d).length = P.cellsOf e := by
   rw [t2, List.length_take, List.length_drop]
   omega
  have hspl : cs.drop (k * P.cellsOf e) = (cs.drop (k * P.cellsOf e)).take (P.cellsOf e) ++ cs.drop ((k + 1) * P.cellsOf e) := by
   rw [e1, ← List.drop_drop]
   exact (List.take_append_drop _ _).symm
  simp only [List.map_cons, List.flatMap_cons]
  rw [hspl]
  refine ⟨VRels.append t1 t2 r1, ?_⟩
  rw [List.length_append, r2, hlen, Nat.add_mul]
  omega
theorem flat_sl {fuel n : Nat} (ih : RelOK enc P w base spare held fuel) {e : TypeId} {s : Sh} (hs : shOf P n e = some s) (a : Addr) : ∀ (m k : Nat) (xs : List (DataW H × List MemPlace)),
  ((List.range' k m).mapM fun i => (w.cells? base (a.add (i * P.cellsOf e)) (P.cellsOf e)).bind (DataW.trod enc P w base spare held fuel e)) = some xs →
  (((xs.map (·.1)).flatMap fun d => dvs s d) = [] ∨ ∃ row, rowsOf w a.block = some row ∧ VRels (rowsOf w) (fun _ => none) ((xs.map (·.1)).flatMap fun d => dvs s d) (row.drop (a.off + k * P.cellsOf e)) ∧ (k = 0 → a.spot = none)) ∧ ((xs.map (·.1)).flatMap fun d => dvs s d).length = m * P.cellsOf e
 | 0, k, xs, h2 => by
  simp at h2
  subst h2
  simp
 | m + 1, k, xs, h2 => by
  rw [List.range'_succ] at h2
  obtain ⟨y, ys, g1, g2, rfl⟩ := mapM_cons h2
  obtain ⟨r1, r2⟩ := flat_sl ih hs a m (k + 1) ys g2
  cases hc : w.cells? base (a.add (k * P.cellsOf e)) (P.cellsOf e) with
  | none => rw [hc] at g1; cases g1
  | some cs =>
   rw [hc] at g1
   obtain ⟨d, ps⟩ := y
   obtain ⟨t1, t2⟩ := ih _ _ _ _ _ _ hs g1
   obtain ⟨c1, c2⟩ := cells_rel hc
   simp only [List.map_cons, List.flatMap_cons]
   refine ⟨?_, by rw [List.length_append, r2, t2, c2, Nat.add_mul]; omega⟩
   have e1 : (k + 1) * P.cellsOf e = k * P.cellsOf e + P.cellsOf e := by rw [Nat.add_mul]; omega
   rcases c1 with rfl | ⟨row, p1, p2, rest, p3⟩
   ·have hz : P.cellsOf e = 0 := by simpa using c2.symm
    have : dvs s d = [] := List.eq_nil_of_length_eq_zero t2
    rw [this, List.nil_append]
    left
    apply List.eq_nil_of_length_eq_zero
    rw [r2, hz]
    omega
   ·right
    rw [add_block] at p1
    rw [add_off] at p3
    refine ⟨row, p1, ?_, fun hk => ?_⟩
    ·have hspl : row.drop (a.off + k * P.cellsOf e) = cs ++ row.drop (a.off + (k + 1) * P.cellsOf e) := by
      have e5 : row.drop (a.off + (k + 1) * P.cellsOf e) = (row.drop (a.off + k * P.cellsOf e)).drop (P.cellsOf e) := by
       rw [List.drop_drop, e1]
       congr 1
       omega
      rw [e5, p3, ← c2, List.drop_left]
     rw [hspl]
     refine VRels.append t1 t2 ?_
     rcases r1 with r1 | ⟨row', u1, u2, _⟩
     ·rw [r1]; exact .nil
     ·rw [p1] at u1
      cases u1
      exact u2
    ·subst hk
     simpa [Addr.add] using p2
theorem rel_ok (hsp : ∀ b, spare b = true) : ∀ fuel, RelOK enc P w base spare held fuel
 | 0 => by
  intro n t sh cs d ps _ h
  simp [DataW.trod] at h
 | fuel + 1 => by
  have ih := rel_ok hsp fuel
  intro n t sh cs d ps hs h
  cases n with
  | zero => simp [shOf] at hs
  | succ n =>
   unfold shOf at hs
   unfold DataW.trod at h
   split at hs
   ·rename_i hu
    cases hs
    split at h <;> rename_i q <;> first | (rw [hu] at q; cases q; done) | (cases h; done) | skip
    cases h
    simp only [dvs]
    exact ⟨VRels.nilV (by simp [VRel]), rfl⟩
   ·rename_i k hu
    cases hs
    split at h <;> rename_i q <;> first | (rw [hu] at q; cases q; done) | (cases h; done) | skip
    rw [hu] at q
    cases q
    split at h
    ·rename_i hk
     cases h
     simp only [dvs]
     exact ⟨VRels.nilV (by simp [VRel, hk.1]), rfl⟩
    ·cases h
   ·rename_i hu
    cases hs
    split at h <;> rename_i q <;> first | (rw [hu] at q; cases q; done) | (cases h; done) | skip
    split at h
    ·cases h
     simp only [dvs]
     exact ⟨VRels.nilV (by simp [VRel]), rfl⟩
    ·cases h
   ·rename_i e hu
    split at hs
    ·cases hs
    rename_i hz
    obtain ⟨s0, hs0, rfl⟩ := Option.map_eq_some_iff.1 hs
    split at h <;> rename_i q <;> first | (rw [hu] at q; cases q; done) | (cases h; done) | skip
    ·cases h
     simp only [dvs]
     exact ⟨VRels.nilV (by simp [VRel]), rfl⟩
    ·rw [hu] at q
     cases q
     obtain ⟨x, hx, e1⟩ := Option.map_eq_some_iff.1 h
     cases e1
     rename_i a
     cases hc : w.cells? base a (P.cellsOf e) with
     | none => rw [hc] at hx; cases hx
     | some cs0 =>
      rw [hc] at hx
      obtain ⟨d0, ps0⟩ := x
      obtain ⟨t1, t2⟩ := ih _ _ _ _ _ _ hs0 hx
      obtain ⟨c1, c2⟩ := cells_rel hc
      simp only [dvs]
      refine ⟨VRels.nilV ?_, rfl⟩
      rcases c1 with rfl | ⟨row, p1, p2, rest, p3⟩
      ·exact absurd c2.symm hz
      ·simp only [VRel]
       exact ⟨a, row, rfl, p1, p2, by rw [p3]; exact VRels.more _ t1⟩
   ·rename_i e hu
    obtain ⟨s0, hs0, rfl⟩ := Option.map_eq_some_iff.1 hs
    split at h <;> rename_i q <;> first | (rw [hu] at q; cases q; done) | (cases h; done) | skip
    ·cases h
     simp only [dvs]
     exact ⟨VRels.nilV (by simp [VRel]), rfl⟩
    ·rw [hu] at q
     cases q
     split at h
     ·rename_i a len cap hle
      obtain ⟨elems, h1, h2⟩ := Option.bind_eq_some_iff.1 h
      obtain ⟨rest, h3, h4⟩ := Option.map_eq_some_iff.1 h2
      cases h4
      simp only [dvs]
      refine ⟨VRels.nilV ?_, rfl⟩
      rw [List.range_eq_range'] at h1
      obtain ⟨f1, f2⟩ := flat_sl ih hs0 _ _ 0 _ h1
      have hl1 := mapM_length h1
      have hl2 : rest.length = cap - len := by
       rw [if_pos (hsp _)] at h3
       simpa using mapM_length h3
      simp only [List.length_range'] at hl1
      simp only [VRel, List.length_map, hl1, hl2]
      refine ⟨a, cap, rfl, fun c q => (by cases q; omega), by omega, ?_⟩
      rcases f1 with f1 | ⟨row, u1, u2, u3⟩
      ·exact .inl f1
      ·exact .inr ⟨row, u1, u3 rfl, by simpa using u2⟩
     ·cases h
   ·rename_i fs hu
    split at hs
    ·rename_i l e hfs
     split at hs
     ·rename_i he
      cases hs
      split at h <;> rename_i q <;> first | (rw [hu] at q; cases q; done) | (cases h; done) | skip
      rw [hu] at q
      cases q
      split at h
      ·rename_i hlen
       obtain ⟨xs, h1, h2⟩ := Option.map_eq_some_iff.1 h
       cases h2
       obtain ⟨r1, r2⟩ := dvsL_fields ih _ 0 _ _ _ xs hfs (by omega) h1
       simp only [dvs]
       exact ⟨by simpa using r1, by simpa using r2⟩
      ·cases h
     ·cases hs
    ·cases hs
   ·rename_i k e hu
    split at hs
    ·rename_i hk
     obtain ⟨s0, hs0, rfl⟩ := Option.map_eq_some_iff.1 hs
     split at h <;> rename_i q <;> first | (rw [hu] at q; cases q; done) | (cases h; done) | skip
     rw [hu] at q
     cases q
     split at h
     ·rename_i hlen
      obtain ⟨xs, h1, h2⟩ := Option.map_eq_some_iff.1 h
      cases h2
      rw [List.range_eq_range'] at h1
      obtain ⟨r1, r2⟩ := flat_arr ih hs0 _ _ 0 xs (by rw [Nat.zero_add, ← hk, hlen]) h1
      simp only [dvs]
      exact ⟨by simpa using r1, by rw [r2, ← hk, hlen]⟩
     ·cases h
    ·cases hs
   ·cases hs
end
end Go.VE
end

