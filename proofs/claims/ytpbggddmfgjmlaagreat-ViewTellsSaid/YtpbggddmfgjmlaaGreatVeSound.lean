/- A part of a proof that a small evaluator of the translated code agrees with the model (part Sound). No statement of the program stands here. -/
import Derived.Test.YtpbggddmfgjmlaaGreatVeSimC
import Derived.Test.YtpbggddmfgjmlaaGreatVeSimB
import Derived.Test.YtpbggddmfgjmlaaGreatVeSimA
import Derived.Test.YtpbggddmfgjmlaaGreatVeMem
import Derived.Test.YtpbggddmfgjmlaaGreatVeIns
import Derived.OrdersIn
import Derived.LoopNIn
import Derived.RangeFuncIn
import Derived.RangeFuncLeaves
import Derived.RangeFuncRecord
import Derived.Scope
set_option linter.all false
section
namespace Go.VE
def isCall : VOp → Bool
 | .call .. | .callp .. | .callo .. | .callc .. | .callv .. | .callvo .. => true
 | _ => false
theorem isCall_callAs (k f : Nat) (as : List Opd) : isCall (callAs k f as) = true := by
 unfold callAs
 split
 ·rfl
 ·rfl
 ·split <;> rfl
 ·rfl
section
variable {P : Program} {gl : Nat → Option (List V)} {pu : Nat → Nat} {N B : Nat} {M : Mem} {ρ : Rho} {h : Heap} {w : World} {s : Slots} {a : Act}
theorem negOf_spec {op : BinOp} {f : Bool → VOp} {vo : VOp} (e : negOf op f = some vo) : ∃ neg, op = (if neg then .neq else .eql) ∧ vo = f neg := by
 unfold negOf at e
 split at e
 ·exact ⟨false, rfl, (Option.some.inj e).symm⟩
 ·exact ⟨true, rfl, (Option.some.inj e).symm⟩
 ·cases e
theorem opds_cons {xs : List Operand} {y : Opd} {ys : List Opd} (e : opds gl xs = some (y :: ys)) : ∃ x r, xs = x :: r ∧ opd gl x = some y ∧ opds gl r = some ys := by
 cases xs with
 | nil => simp [opds] at e
 | cons x r =>
  unfold opds at e
  split at e
  ·rename_i a b h1 h2
   cases e
   exact ⟨x, r, rfl, h1, h2⟩
  ·cases e
theorem opds_nil {xs : List Operand} (e : opds gl xs = some []) : xs = [] := by
 cases xs with
 | nil => rfl
 | cons x r =>
  unfold opds at e
  split at e <;> cases e
theorem opds1 {xs : List Operand} {y : Opd} (e : opds gl xs = some [y]) : ∃ x, xs = [x] ∧ opd gl x = some y := by
 obtain ⟨x, r, rfl, h1, h2⟩ := opds_cons e
 cases opds_nil h2
 exact ⟨x, rfl, h1⟩
theorem opds2 {xs : List Operand} {y z : Opd} (e : opds gl xs = some [y, z]) : ∃ x u, xs = [x, u] ∧ opd gl x = some y ∧ opd gl u = some z := by
 obtain ⟨x, r, rfl, h1, h2⟩ := opds_cons e
 obtain ⟨u, rfl, h3⟩ := opds1 h2
 exact ⟨x, u, rfl, h1, h3⟩
theorem map_some {α β : Type} {f : α → β} {x : Option α} {y : β} (e : x.map f = some y) : ∃ z, x = some z ∧ f z = y := by
 cases x with
 | none => cases e
 | some z => exact ⟨z, rfl, Option.some.inj e⟩
theorem sim_call_builtin (hh : HRel P gl B M ρ h w) (hs : SRel M ρ N s a.tmps) {o : Oper} {c : Call} (ho : o.op = .call c) {vo : VOp} (hc : compCall P gl pu c = some vo) (hcall : isCall vo = false) (hok : okOp vo = true)
  {v : V} {h' : Heap} (he : opE vo s h = some (v, h')) : Good P gl B M ρ h w v h' ((execOp a.eval o).run P w) := by
 unfold compCall at hc
 split at hc
 ·rename_i f as e1 e2
  split at hc
  ·split at hc
   ·rename_i fid _ fn hfn
    split at hc
    ·split at hc
     ·cases hc
     ·cases hc; rw [isCall_callAs] at hcall; cases hcall
    ·rename_i hbody
     cases hc
   ·cases hc
  ·obtain ⟨y, _, e⟩ := map_some hc
   subst e
   rw [Bool.cond_eq_ite] at hcall
   split at hcall <;> cases hcall
 ·rename_i b as e1 e2
  split at hc
  ·rename_i x t e3
   obtain ⟨x0, hx, ex⟩ := opds1 e2
   split at hc
   ·rename_i el ht
    cases hc
    exact sim_len hh hs ho e1 hx e3 ht ex he
   ·rename_i n el ht
    cases hc
    exact sim_lenc hh ho e1 hx e3 (.inl ⟨_, ht⟩) (s := s) he
   ·rename_i el ht
    split at hc
    ·rename_i n e' ht'
     cases hc
     exact sim_lenc hh ho e1 hx e3 (.inr ⟨_, _, ht, ht'⟩) (s := s) he
    ·cases hc
   ·cases hc
  ·rename_i sl x t u e3
   obtain ⟨x0, y0, hx, ex, ey⟩ := opds2 e2
   split at hc
   ·rename_i el ht
    split at hc
    ·rename_i i z el' hi hz hu
     split at hc
     ·cases hc
     ·rename_i hn
      cases hc
      exact sim_app hh hs ho e1 hx e3 ht hu hi hz (fun q => hn (.inl q)) (fun q => hn (.inr q)) ex ey he
    ·cases hc
   ·cases hc
  ·rename_i d sr t u tr e3
   obtain ⟨x0, y0, hx, ex, ey⟩ := opds2 e2
   split at hc
   ·rename_i el el' ht hu
    obtain ⟨n, hn, e⟩ := map_some hc
    subst e
    exact sim_cpy hh hs ho e1 hx e3 ht hn ex ey he
   ·cases hc
  ·cases hc
   exact sim_mini hh hs ho e1 e2 he
  ·cases hc
   exact sim_maxi hh hs ho e1 e2 he
  ·cases hc
 ·cases hc
theorem mx_or {hi mx : Option Operand} {hi' mx' : Option Opd} (e3 : opdo gl hi = some hi') (e4 : opdo gl mx = some mx') (hm : ¬ (mx'.isSome && hi'.isNone) = true) : mx = none ∨ hi ≠ none := by
 cases mx with
 | none => exact .inl rfl
 | some m =>
  right
  intro q
  subst q
  simp only [opdo] at e3 e4
  obtain ⟨z, _, e⟩ := map_some e4
  cases e3
  subst e
  simp at hm
set_option maxHeartbeats 2000000 in
theorem op_sim (hh : HRel P gl B M ρ h w) (hs : SRel M ρ N s a.tmps) {o : Oper} {vo : VOp} (hc : compOp P gl pu o = some vo) (hcall : isCall vo = false) (hok : okOp vo = true)
  {v : V} {h' : Heap} (he : opE vo s h = some (v, h')) : GoodM P gl B M ρ h w v h' ((execOp a.eval o).run P w) := by
 unfold compOp at hc
 split at hc
 case h_1 x ho =>
  obtain ⟨y, e1, e⟩ := map_some hc
  subst e
  cases he
  exact .of <| sim_mv hh hs (.inl ho) e1
 case h_2 x ho =>
  obtain ⟨y, e1, e⟩ := map_some hc
  subst e
  cases he
  exact .of <| sim_mv hh hs (.inr ho) e1
 case h_3 c x y ho =>
  split at hc
  ·rename_i e1 e2 e3
   cases hc
   exact .of <| sim_pick hh hs ho e1 e2 e3 he
  ·cases hc
 case h_4 e ho =>
  obtain ⟨z, e1, e⟩ := map_some hc
  subst e
  exact .of <| sim_alloc hh ho e1 (s := s) he
 case h_5 e x ho =>
  split at hc
  ·rename_i e1 e2
   cases hc
   exact .of <| sim_box hh hs ho e2 he
  ·cases hc
 case h_6 t ps ho =>
  split at hc
  ·rename_i z fs hz ht
   split at hc
   ·rename_i hall
    obtain ⟨qs, e1, e⟩ := map_some hc
    subst e
    exact .of <| sim_build_struct hh hs ho ht hz hall e1 he
   ·cases hc
  ·rename_i z n e hz ht
   split at hc
   ·rename_i sz hsz
    obtain ⟨qs, e1, e⟩ := map_some hc
    subst e
    exact .of <| sim_build_array hh hs ho ht hz hsz e1 he
   ·cases hc
  ·cases hc
 case h_7 t n ps ho =>
  split at hc
  ·rename_i e ht
   split at hc
   ·rename_i z hz
    split at hc
    ·cases hc
    ·rename_i hn
     obtain ⟨qs, e1, e⟩ := map_some hc
     subst e
     exact .of <| sim_bsl hh hs ho ht hz (fun q => hn (.inl q)) e1 he (fun q => hn (.inr q))
   ·cases hc
  ·cases hc
 case h_8 t x ho =>
  split at hc
  ·rename_i e1 e2
   cases hc
   exact .of <| sim_ld hh hs ho e1 e2 he
  ·cases hc
 case h_9 t x y ho =>
  split at hc
  ·rename_i e1 e2 e3
   cases hc
   exact .of <| sim_st hh hs ho e1 e2 e3 he
  ·cases hc
 case h_10 x ho =>
  obtain ⟨y, e1, e⟩ := map_some hc
  subst e
  exact .of <| sim_nck hh hs ho e1 he
 case h_11 op t x y u ho =>
  split at hc
  ·rename_i x' y' e1 e2
   split at hc
   ·rename_i fs ht
    split at hc
    ·cases hc
    ·rename_i hg
     split at hc
     ·rename_i ks hk
      obtain ⟨neg, rfl, rfl⟩ := negOf_spec hc
      exact .of <| sim_eqa hh hs ho ht rfl (by simpa using hg) hk e1 e2 he
     ·cases hc
   ·rename_i n e ht
    split at hc
    ·cases hc
    ·rename_i hg
     split at hc
     ·rename_i ks hk
      obtain ⟨neg, rfl, rfl⟩ := negOf_spec hc
      exact .of <| sim_eqa hh hs ho ht rfl (by simpa using hg) hk e1 e2 he
     ·cases hc
   ·cases hc
    exact .of <| sim_bin hh hs ho e1 e2 he
   ·cases hc
    exact .of <| sim_bin hh hs ho e1 e2 he
   ·rename_i ht
    obtain ⟨neg, rfl, rfl⟩ := negOf_spec hc
    exact .of <| sim_eqb hh hs ho rfl ht e1 e2 he
   ·rename_i ht
    split at hc
    ·obtain ⟨neg, rfl, rfl⟩ := negOf_spec hc
     exact .of <| sim_eqn hh hs ho ht rfl (by omega) e1 e2 he
    ·cases hc
   ·rename_i ht
    obtain ⟨neg, rfl, rfl⟩ := negOf_spec hc
    exact .of <| sim_eqn hh hs ho ht rfl (by omega) e1 e2 he
   ·rename_i ht
    obtain ⟨neg, rfl, rfl⟩ := negOf_spec hc
    exact .of <| sim_eqn hh hs ho ht rfl (by omega) e1 e2 he
   ·rename_i ht
    obtain ⟨neg, rfl, rfl⟩ := negOf_spec hc
    exact .of <| sim_eqn hh hs ho ht rfl (by omega) e1 e2 he
   ·rename_i ht
    split at hc
    ·rename_i hcc
     obtain ⟨neg, rfl, rfl⟩ := negOf_spec hc
     exact .of <| sim_eqn hh hs ho ht rfl (fun _ => hcc) e1 e2 he
    ·cases hc
   ·cases hc
  ·cases hc
 case h_12 op t x ho =>
  obtain ⟨y, e1, e⟩ := map_some hc
  subst e
  exact .of <| sim_un hh hs ho e1 he
 case h_13 sT d x ho =>
  split at hc
  ·rename_i ht hu e1
   cases hc
   exact .of <| sim_cnv hh hs ho ht hu e1 he
  ·cases hc
 case h_14 t x ho =>
  split at hc
  ·cases hc
  ·rename_i d y hd ht e1
   cases hc
   exact .of <| sim_mkif hh hs ho ht (fun m q => hd _ q) e1 he
  ·cases hc
 case h_15 f first caps ho =>
  split at hc
  ·rename_i hf
   obtain ⟨cs, e1, e⟩ := map_some hc
   subst e
   exact .of <| sim_mkf hh hs ho hf e1 he
  ·cases hc
 case h_16 t l c ho =>
  split at hc
  ·rename_i e ht
   split at hc
   ·rename_i i z l' c' hi hz e1 e2
    split at hc
    ·cases hc
    ·rename_i h0
     cases hc
     exact .of <| sim_mks hh hs ho ht hi hz h0 e1 e2 he
   ·cases hc
  ·cases hc
 case h_17 t x lo hi mx ho =>
  split at hc
  ·rename_i e x' lo' hi' mx' ht e1 e2 e3 e4
   split at hc
   ·cases hc
   ·rename_i hm
    obtain ⟨n, hn, e⟩ := map_some hc
    subst e
    exact .of <| sim_slc hh hs ho ht hn e1 e2 e3 e4 (mx_or e3 e4 hm) he
  ·rename_i n e x' lo' hi' mx' ht e1 e2 e3 e4
   split at hc
   ·cases hc
   ·rename_i hm
    obtain ⟨k, hk, e⟩ := map_some hc
    subst e
    exact .of <| sim_slca hh hs ho ht hk e1 e2 e3 e4 (mx_or e3 e4 hm) he
  ·cases hc
 case h_18 t x f ho =>
  split at hc
  ·rename_i fs x' ht e1
   split at hc
   ·rename_i fl hf
    split at hc
    ·rename_i n hn
     cases hc
     exact .of <| sim_fa hh hs ho ht hf hn e1 he
    ·cases hc
   ·cases hc
  ·cases hc
 case h_19 t x f ho =>
  split at hc
  ·rename_i fs x' ht e1
   split at hc
   ·rename_i fl hf
    obtain ⟨n, hn, e⟩ := map_some hc
    subst e
    exact .of <| sim_fld hh hs ho ht hf hn e1 he
   ·cases hc
  ·cases hc
 case h_20 t x i ho =>
  split at hc
  ·rename_i e x' i' ht e1 e2
   split at hc
   ·rename_i k hk
    cases hc
    exact .of <| sim_ia hh hs ho ht hk e1 e2 he (by omega)
   ·cases hc
  ·rename_i n e x' i' ht e1 e2
   obtain ⟨k, hk, e⟩ := map_some hc
   subst e
   exact .of <| sim_iaa hh hs ho ht hk e1 e2 he
  ·cases hc
 case h_21 t x i ho =>
  split at hc
  ·rename_i n e x' i' ht e1 e2
   split at hc
   ·rename_i k ag hk hag
    cases hc
    exact .of <| sim_ix hh hs ho ht hk hag e1 e2 he
   ·cases hc
  ·cases hc
 case h_22 x i ho =>
  obtain ⟨y, e1, e⟩ := map_some hc
  subst e
  exact .of <| sim_ext hh hs ho e1 he
 case h_23 c ho => exact .of <| sim_call_builtin hh hs ho hc hcall hok he
 case h_24 => cases hc
end
end Go.VE
end
section
namespace Go.VE
section
variable {P : Program} {gl : Nat → Option (List V)} {pu : Nat → Nat} {N B : Nat} {M : Mem} {ρ : Rho} {h : Heap} {w : World} {s : Slots} {a : Act}
def resM (tm : Array Value) (r : ResultVar) : Sem Value :=
 match r with
 | .tmp t => pure (tm.getD t undef)
 | .cell a t => do loadVar t (← asAddr (tm.getD a undef))
theorem results_eq (fn : Func) (tm : Array Value) : results fn tm = (do let vs ← fn.results.mapM (resM tm); pure (if h : vs.size = 1 then vs[0] else .tuple vs)) := by
 unfold results
 congr 1
theorem res_run (hh : HRel P gl B M ρ h w) {tm : Array Value} (hs : ∀ i, VRel M ρ (s.at i) (tm.getD i undef)) : ∀ {rs : List ResultVar} {vr : List VRes} {vs : List V}, compRes P rs = some vr → resVs s h vr = some vs →
  ∃ xs : List Value, (rs.mapM (resM tm)).run P w = .ok xs w ∧ VRels M ρ vs xs ∧ vs.length = xs.length
 | [], vr, vs, e1, e2 => by
  cases e1
  cases e2
  exact ⟨[], by simp, .nil, rfl⟩
 | .tmp t :: r, vr, vs, e1, e2 => by
  obtain ⟨vr', e3, e4⟩ := map_some (show (compRes P r).map (VRes.t t :: ·) = some vr from e1)
  subst e4
  simp only [resVs] at e2
  split at e2
  ·rename_i x y h1 h2
   cases e2
   cases h1
   obtain ⟨xs, k1, k2, k3⟩ := res_run hh hs e3 h2
   refine ⟨tm.getD t undef :: xs, ?_, VRels.cons_iff.2 ⟨_, _, rfl, hs t, k2⟩, by simp [k3]⟩
   simp only [List.mapM_cons, Sem.run_bind, Sem.run_pure, Result.andThen_ok, k1, resM]
  ·cases e2
 | .cell a t :: r, vr, vs, e1, e2 => by
  simp only [compRes] at e1
  split at e1
  ·rename_i n l hn hl
   cases e1
   simp only [resVs, resV] at e2
   split at e2
   ·rename_i x y h1 h2
    cases e2
    split at h1
    ·rename_i cs hcs
     obtain ⟨ad, row, e5, e6, e7, e8⟩ := cellsAt_rel hh (hs a) hcs
     obtain ⟨z, k4, k5⟩ := loadVar_run (P := P) hn h1 e7 e8
     obtain ⟨xs, k1, k2, k3⟩ := res_run hh hs hl h2
     refine ⟨z :: xs, ?_, VRels.cons_iff.2 ⟨_, _, rfl, k5, k2⟩, by simp [k3]⟩
     have ha : (asAddr (tm.getD a undef)).run P w = .ok ad w := by rw [e5]; rfl
     simp only [List.mapM_cons, Sem.run_bind, Sem.run_pure, Result.andThen_ok, k1, ha, k4, resM]
    ·cases h1
   ·cases e2
  ·cases e1
theorem results_run (hh : HRel P gl B M ρ h w) {tm : Array Value} (hs : ∀ i, VRel M ρ (s.at i) (tm.getD i undef)) {fn : Func} {vr : List VRes} {v : V} (e1 : compRes P fn.results.toList = some vr) (e2 : resOf s h vr = some v) :
  ∃ x, (results fn tm).run P w = .ok x w ∧ VRel M ρ v x := by
 cases e3 : resVs s h vr with
 | none => simp [resOf, e3] at e2
 | some vs =>
  obtain ⟨xs, k1, k2, k3⟩ := res_run hh hs e1 e3
  have hrun : ∀ (f : ResultVar → Sem Value), (fn.results.toList.mapM f).run P w = .ok xs w → (fn.results.mapM f).run P w = .ok xs.toArray w := by
   intro f hf
   rw [Array.mapM_eq_mapM_toList]
   simp only [Sem.run_map, hf]
   rfl
  refine ⟨if h : xs.toArray.size = 1 then xs.toArray[0] else .tuple xs.toArray, ?_, ?_⟩
  ·rw [results_eq]
   simp only [Sem.run_bind]
   rw [hrun _ k1]
   rfl
  ·unfold resOf at e2
   rw [e3] at e2
   match vs, xs, k2, k3, e2 with
   | [], [], k2, k3, e2 => cases e2; simpa [VRel] using (⟨[], rfl, k3, k2⟩ : ∃ xs : List Value, (#[] : Array Value) = xs.toArray ∧ _ ∧ _)
   | [u], [x], k2, k3, e2 =>
    cases e2
    obtain ⟨_, _, e, h1, _⟩ := VRels.cons_iff.1 k2
    cases e
    simpa using h1
   | u :: u' :: r, x :: x' :: r', k2, k3, e2 =>
    cases e2
    simp only [VRel]
    refine ⟨_, ?_, k3, k2⟩
    simp
open Classical in
noncomputable def frozen (M : Mem) (ρ : Rho) (h : Heap) (base : Nat) (w : World) : Mem := fun k =>
 match M k with
 | some cs => some cs
 | none => if ∃ b l, ρ b = some l ∧ live h b ∧ base ≤ b ∧ l.blk = k then
   (match w.heap[k]? with
   | some (.cells cur _ _) => some cur.toList
   | _ => none)
  else none
theorem frozen_le (base : Nat) : Mle M (frozen M ρ h base w) := by
 intro k cs e
 simp [frozen, e]
theorem frozen_mem (hh : HRel P gl B M ρ h w) (base : Nat) {k : Nat} {cs : List Value} (e : frozen M ρ h base w k = some cs) : ∃ e fr, w.heap[k]? = some (.cells cs.toArray e fr) := by
 unfold frozen at e
 split at e
 ·rename_i c hc
  cases e
  exact hh.mem _ _ hc
 ·split at e
  ·split at e
   ·rename_i cur e' fr hk
    cases e
    exact ⟨e', fr, by rw [hk]⟩
   ·cases e
  ·cases e
theorem frozen_own (hh : HRel P gl B M ρ h w) {base b : Nat} {l : Loc} (e : ρ b = some l) {c : List V} {o : Tag} (hg : h.get b = .cells c o) (hb : base ≤ b) {cur : Array Value} {e' : TypeId} {fr : Nat × Nat}
  (hw : w.heap[l.blk]? = some (.cells cur e' fr)) : frozen M ρ h base w l.blk = some cur.toList := by
 have hlv : live h b := by simp [live, hg]
 unfold frozen
 rw [hh.sep b l e hlv]
 rw [if_pos ⟨b, l, e, hlv, hb, rfl⟩, hw]
theorem frozen_none (hh : HRel P gl B M ρ h w) {base b : Nat} {l : Loc} (e : ρ b = some l) (hlv : live h b) (hb : b < base) : frozen M ρ h base w l.blk = none := by
 unfold frozen
 rw [hh.sep b l e hlv]
 rw [if_neg]
 rintro ⟨b', l', e', hlv', hb', heq⟩
 have := hh.inj b' b l' l e' e hlv' hlv heq
 omega
theorem frz_rel (hh : HRel P gl B M ρ h w) (base : Nat) : ∀ (n : Nat),
  (∀ (inn : Bool) (ρ2 : Rho) (v v' : V) (x : Value), (inn = false → ∀ b l, ρ b = some l → b < base → ρ2 b = some l) → frz n h base inn v = some v' → VRel M ρ v x → VRel (frozen M ρ h base w) ρ2 v' x) ∧
  (∀ (inn : Bool) (ρ2 : Rho) (l l' : List V) (xs : List Value), (inn = false → ∀ b l, ρ b = some l → b < base → ρ2 b = some l) → frzs n h base inn l = some l' → VRels M ρ l xs → VRels (frozen M ρ h base w) ρ2 l' xs ∧ l'.length = l.length) := by
 intro n
 induction n with
 | zero =>
  constructor
  ·intro inn ρ2 v v' x _ e; simp [frz] at e
  ·intro inn ρ2 v v' x _ e; simp [frzs] at e
 | succ n ih =>
  obtain ⟨ih1, ih2⟩ := ih
  constructor
  ·intro inn ρ2 v v' x hρ e hv
   unfold frz at e
   split at e
   ·cases e
   ·rename_i b off len cap sz
    simp only [Bool.cond_eq_ite, blt_dec, decide_eq_true_eq] at e
    simp only [VRel] at hv
    obtain ⟨l, ad, cap', e1, e2, e3, e4, e5⟩ := hv
    split at e
    ·rename_i hlt
     split at e
     ·cases e
     ·rename_i hi
      cases e
      simp only [VRel]
      exact ⟨l, ad, cap', hρ (by simpa using hi) b l e1 hlt, e2, e3, e4, e5⟩
    ·rename_i hlt
     split at e
     ·rename_i c o hg
      split at e
      ·rename_i r hr
       split at e
       ·rename_i r' hr'
        cases e
        have hb := hh.blk b l e1
        rw [hg] at hb
        obtain ⟨cur, ce, fr, k1, k2, k3, k4, k5, k6⟩ := BRel.cells_iff.1 hb
        have hcap : ∀ q, (bif (o.opn && Nat.beq (off + cap * sz) c.length) then none else some cap) = some q → cap' = q := by
         intro q hq
         cases hcond : (o.opn && Nat.beq (off + cap * sz) c.length) with
         | true => rw [hcond] at hq; cases hq
         | false =>
          rw [hcond] at hq
          cases hq
          rcases e3 with ⟨_, h2⟩ | ⟨_, _, h2⟩ | ⟨h1, h2, _, _⟩
          ·exact h2
          ·exact h2
          ·exfalso
           have ho : o.opn = true := by
            cases hq : o.opn
            ·exact absurd (k6.1 hq) h1
            ·rfl
           rw [ho, beq_dec, k3] at hcond
           simp [h2] at hcond
        simp only [VRel]
        refine ⟨ad, cap', e2, by simpa only [Bool.cond_eq_ite] using hcap, Nat.le_trans e5 (capR_le e3), ?_⟩
        rcases e4 with h0 | h0
        ·have hl0 : len = 0 := by have := capR_le e3; omega
         subst hl0
         simp [takeN] at hr
         subst hr
         left
         have hlen := (ih2 true (fun _ => none) [] r' [] (fun q => by cases q) hr' .nil).2
         simpa using hlen
        ·right
         subst h0
         obtain ⟨t1, _, _⟩ := VRels.takeN (VRels.drop off k4) hr
         have := (ih2 true (fun _ => none) r r' _ (fun q => by cases q) hr' t1).1
         refine ⟨cur.toList, frozen_own hh e1 hg (by omega) k1, rfl, ?_⟩
         have q := VRels.more (((cur.toList.drop l.base).drop off).drop (len * sz)) this
         rw [List.take_append_drop, List.drop_drop] at q
         exact q
       ·cases e
      ·cases e
     ·cases e
   ·rename_i b off
    simp only [Bool.cond_eq_ite, blt_dec, decide_eq_true_eq] at e
    simp only [VRel] at hv
    obtain ⟨l, e1, e2⟩ := hv
    split at e
    ·rename_i hlt
     split at e
     ·cases e
     ·rename_i hi
      cases e
      simp only [VRel]
      exact ⟨l, hρ (by simpa using hi) b l e1 hlt, e2⟩
    ·rename_i hlt
     split at e
     ·rename_i c o hg
      split at e
      ·rename_i r' hr'
       cases e
       have hb := hh.blk b l e1
       rw [hg] at hb
       obtain ⟨cur, ce, fr, k1, k2, k3, k4, k5, k6⟩ := BRel.cells_iff.1 hb
       have := (ih2 true (fun _ => none) _ r' _ (fun q => by cases q) hr' (VRels.drop off k4)).1
       rw [List.drop_drop] at this
       simp only [VRel]
       exact ⟨_, cur.toList, e2, frozen_own hh e1 hg (by omega) k1, rfl, this⟩
      ·cases e
     ·cases e
   ·rename_i cs
    obtain ⟨r, h1, h2⟩ := map_some e
    subst h2
    simp only [VRel] at hv ⊢
    obtain ⟨xs, k1, k2, k3⟩ := hv
    obtain ⟨q1, q2⟩ := ih2 inn ρ2 cs r xs hρ h1 k3
    exact ⟨xs, k1, by omega, q1⟩
   ·rename_i cs
    obtain ⟨r, h1, h2⟩ := map_some e
    subst h2
    simp only [VRel] at hv ⊢
    obtain ⟨xs, k1, k2, k3⟩ := hv
    obtain ⟨q1, q2⟩ := ih2 inn ρ2 cs r xs hρ h1 k3
    exact ⟨xs, k1, by omega, q1⟩
   ·rename_i g cs
    obtain ⟨r, h1, h2⟩ := map_some e
    subst h2
    simp only [VRel] at hv ⊢
    obtain ⟨xs, k1, k2, k3⟩ := hv
    obtain ⟨q1, q2⟩ := ih2 inn ρ2 cs r xs hρ h1 k3
    exact ⟨xs, k1, by omega, q1⟩
   ·rename_i t u
    obtain ⟨r, h1, h2⟩ := map_some e
    subst h2
    simp only [VRel] at hv ⊢
    obtain ⟨y, k1, k2⟩ := hv
    exact ⟨y, k1, ih1 inn ρ2 u r y hρ h1 k2⟩
   ·cases e
   ·cases e
   ·cases e
    rename_i n1 n2 n3 n4 n5 n6 n7 n8 n9
    cases v with
    | top => exact absurd rfl n1
    | sl b off len cap sz => exact absurd rfl (n2 _ _ _ _ _)
    | ptr b off => exact absurd rfl (n3 _ _)
    | agg cs => exact absurd rfl (n4 _)
    | tup cs => exact absurd rfl (n5 _)
    | fn g cs => exact absurd rfl (n6 _ _)
    | ifc t u => exact absurd rfl (n7 _ _)
    | yld b => exact absurd rfl (n8 _)
    | mp b => exact absurd rfl (n9 _)
    | isl cs len cap => exact VRel.mono (frozen_le base) (ρ := fun _ => none) (fun _ _ q => by cases q) _ (by simpa [VRel] using hv)
    | iptr cs => exact VRel.mono (frozen_le base) (ρ := fun _ => none) (fun _ _ q => by cases q) _ (by simpa [VRel] using hv)
    | _ => simpa [VRel] using hv
  ·intro inn ρ2 l l' xs hρ e hv
   unfold frzs at e
   split at e
   ·cases e; exact ⟨.nil, rfl⟩
   ·split at e
    ·rename_i x r x' r' h1 h2
     cases e
     obtain ⟨y, ys, rfl, k1, k2⟩ := VRels.cons_iff.1 hv
     obtain ⟨q1, q2⟩ := ih2 inn ρ2 _ _ _ hρ h2 k2
     exact ⟨VRels.cons_iff.2 ⟨y, ys, rfl, ih1 inn ρ2 _ _ _ hρ h1 k1, q1⟩, by simp [q2]⟩
    ·cases e
def Post (P : Program) (gl : Nat → Option (List V)) (B : Nat) (M : Mem) (ρ : Rho) (h : Heap) (w : World) (v : V) (h' : Heap) (x : Value) (w' : World) : Prop :=
 ∃ M' ρ', HRel P gl B M' ρ' h' w' ∧ Evo M ρ h w M' ρ' h' w' ∧ VRel M' ρ' v x
theorem HRel.up (hh : HRel P gl B M ρ h w) : HRel P gl B M ρ { h with lo := h.nx } w :=
 ⟨hh.bound, hh.blk, hh.inj, hh.mem, hh.sep, hh.base, hh.fresh, hh.room, Nat.le_refl _, hh.glob⟩
theorem HRel.enter (hh : HRel P gl B M ρ h w) (mode : Nat) : HRel P gl B M ρ (enterH mode h) w := by
 unfold enterH
 split
 ·exact hh
 ·exact hh.up
theorem finish_sound (hh : HRel P gl B M ρ h w) {mode : Nat} {h1 h' : Heap} {v v' : V} (hf : finish mode h h1 v = some (v', h')) {x : Value} {w' : World} (hp : Post P gl B M ρ (enterH mode h) w v h1 x w') :
  Post P gl B M ρ h w v' h' x w' := by
 obtain ⟨M1, ρ1, k1, k2, k3⟩ := hp
 unfold finish at hf
 split at hf
 ·cases hf
  exact ⟨M1, ρ1, k1, by simpa [enterH] using k2, k3⟩
 ·obtain ⟨u, e1, e2⟩ := map_some hf
  cases e2
  simp only [enterH] at k2
  have hold : ∀ b l, ρ1 b = some l → b < h.nx → ρ b = some l := by
   intro b l e hb
   cases e' : ρ b with
   | none => have := k2.new b l e e'; simp at this; omega
   | some l' => have := k2.rho b l' e'; rw [e] at this; exact this.symm
  have hv := (frz_rel k1 h.nx frzFuel).1 false ρ v v' x (fun _ => hold) e1 k3
  have hlow : ∀ b l, ρ b = some l → h1.get b = h.get b := fun b l e => k2.low b l e (hh.bound b l e)
  have hfr : ∀ k, k < w.heap.size → w'.heap[k]? = w.heap[k]? := fun k hk => k2.frame k hk (fun b l e _ hb => by have := hh.bound b l e; simp at hb; omega)
  refine ⟨frozen M1 ρ1 h1 h.nx w', ρ, ?_, ?_, hv⟩
  ·constructor
   ·exact hh.bound
   ·intro b l e
    by_cases hlv : live h b
    ·rw [hfr _ (hh.blkLt e hlv)]
     exact BRel.mono (k2.mem.trans (frozen_le _)) (Rle.refl _) (hh.blk b l e)
    ·have hd : h.get b = .dead := by simpa [live] using hlv
     rw [hd]
     simp [BRel]
   ·exact hh.inj
   ·intro k cs e
    exact frozen_mem k1 _ e
   ·intro b l e hlv
    have hb := hh.bound b l e
    exact frozen_none k1 (k2.rho b l e) (by rw [live, hlow b l e]; exact hlv) hb
   ·exact hh.base
   ·exact hh.fresh
   ·exact Nat.le_trans hh.room k2.size
   ·exact hh.lonx
   ·intro g cs e
    obtain ⟨row, e1, e2⟩ := hh.glob g cs e
    exact ⟨row, (k2.mem.trans (frozen_le _)) _ _ e1, VRels.mono (k2.mem.trans (frozen_le _)) (Rle.refl _) _ e2⟩
  ·refine ⟨Rle.refl _, k2.mem.trans (frozen_le _), rfl, Nat.le_refl _, k2.os, k2.tape, k2.output, k2.size, fun b l e1 e2 e3 => .inr ⟨b, l, e1, e2, e3, rfl⟩,
    fun k hk _ => hfr k hk, fun _ _ _ _ => rfl, fun b l e1 e2 => (by rw [e2] at e1; cases e1), ?_⟩
   intro k cs e
   unfold frozen at e
   split at e
   ·rename_i c hc
    cases e
    exact k2.mnew k cs hc
   ·split at e
    ·rename_i hex
     obtain ⟨b, l, e1, e2, e3, rfl⟩ := hex
     rcases k2.wr b l e1 e2 (by simpa using e3) with q | ⟨b0, l0, f1, _, f3, _⟩
     ·exact .inr q
     ·have := hh.bound b0 l0 f1; simp at f3; omega
    ·cases e
 ·rename_i n1 n2
  cases hf
  have eE : enterH mode h = { h with lo := h.nx } := by
   unfold enterH
   split
   ·exact absurd rfl n1
   ·rfl
  rw [eE] at k2
  have hlow : ∀ b l, ρ b = some l → h1.get b = h.get b := fun b l e => k2.low b l e (hh.bound b l e)
  refine ⟨M1, ρ1, ⟨k1.bound, k1.blk, k1.inj, k1.mem, k1.sep, k1.base, k1.fresh, k1.room, Nat.le_trans hh.lonx k2.nx, k1.glob⟩, ?_, k3⟩
  refine ⟨k2.rho, k2.mem, rfl, k2.nx, k2.os, k2.tape, k2.output, k2.size, ?_, ?_, ?_, k2.new, k2.mnew⟩
  ·intro b l e1 e2 e3
   cases e4 : ρ b with
   | some l' =>
    have e5 := k2.rho b l' e4
    rw [e1] at e5
    cases e5
    refine .inr ⟨b, l, e4, ?_, e3, rfl⟩
    have := hlow b l e4
    unfold live at e2 ⊢
    rw [← this]
    exact e2
   | none =>
    have hb := k2.new b l e1 e4
    rcases k2.wr b l e1 e2 (by simpa using hb) with q | ⟨b0, l0, f1, _, f3, _⟩
    ·exact .inl q
    ·have := hh.bound b0 l0 f1; simp at f3; omega
  ·intro k hk _
   exact k2.frame k hk (fun b l e _ hb => by have := hh.bound b l e; simp at hb; omega)
  ·intro b l e _
   exact hlow b l e
theorem h0_get (b : Nat) : h0.get b = .dead := by simp [h0, Heap.get, Tr.get_lf]
theorem HRel.iso (hh : HRel P gl B M ρ h w) : HRel P gl B M (fun _ => Option.none) h0 w :=
 ⟨fun b l e => (by cases e), fun b l e => (by cases e), fun b b' l l' e => (by cases e), hh.mem, fun b l e => (by cases e), fun b l e => (by cases e), fun b _ => h0_get b, hh.room, Nat.le_refl _, hh.glob⟩
theorem frz_closed (M : Mem) (ρ ρ2 : Rho) : ∀ (n : Nat),
  (∀ (inn : Bool) (v v' : V) (x : Value), frz n h0 0 inn v = some v' → VRel M ρ v x → VRel M ρ2 v' x) ∧
  (∀ (inn : Bool) (l l' : List V) (xs : List Value), frzs n h0 0 inn l = some l' → VRels M ρ l xs → VRels M ρ2 l' xs ∧ l'.length = l.length) := by
 intro n
 induction n with
 | zero =>
  constructor
  ·intro inn v v' x e; simp [frz] at e
  ·intro inn l l' xs e; simp [frzs] at e
 | succ n ih =>
  obtain ⟨ih1, ih2⟩ := ih
  constructor
  ·intro inn v v' x e hv
   unfold frz at e
   split at e
   ·cases e
   ·rename_i b off len cap sz
    rw [h0_get] at e
    simp [Bool.cond_eq_ite, blt_dec] at e
   ·rename_i b off
    rw [h0_get] at e
    simp [Bool.cond_eq_ite, blt_dec] at e
   ·rename_i cs
    obtain ⟨r, h1, h2⟩ := map_some e
    subst h2
    simp only [VRel] at hv ⊢
    obtain ⟨xs, k1, k2, k3⟩ := hv
    obtain ⟨q1, q2⟩ := ih2 inn cs r xs h1 k3
    exact ⟨xs, k1, by omega, q1⟩
   ·rename_i cs
    obtain ⟨r, h1, h2⟩ := map_some e
    subst h2
    simp only [VRel] at hv ⊢
    obtain ⟨xs, k1, k2, k3⟩ := hv
    obtain ⟨q1, q2⟩ := ih2 inn cs r xs h1 k3
    exact ⟨xs, k1, by omega, q1⟩
   ·rename_i g cs
    obtain ⟨r, h1, h2⟩ := map_some e
    subst h2
    simp only [VRel] at hv ⊢
    obtain ⟨xs, k1, k2, k3⟩ := hv
    obtain ⟨q1, q2⟩ := ih2 inn cs r xs h1 k3
    exact ⟨xs, k1, by omega, q1⟩
   ·rename_i t u
    obtain ⟨r, h1, h2⟩ := map_some e
    subst h2
    simp only [VRel] at hv ⊢
    obtain ⟨y, k1, k2⟩ := hv
    exact ⟨y, k1, ih1 inn u r y h1 k2⟩
   ·cases e
   ·cases e
   ·cases e
    rename_i n1 n2 n3 n4 n5 n6 n7 n8 n9
    cases v with
    | top => exact absurd rfl n1
    | sl b off len cap sz => exact absurd rfl (n2 _ _ _ _ _)
    | ptr b off => exact absurd rfl (n3 _ _)
    | agg cs => exact absurd rfl (n4 _)
    | tup cs => exact absurd rfl (n5 _)
    | fn g cs => exact absurd rfl (n6 _ _)
    | ifc t u => exact absurd rfl (n7 _ _)
    | yld b => exact absurd rfl (n8 _)
    | mp b => exact absurd rfl (n9 _)
    | _ => simpa [VRel] using hv
  ·intro inn l l' xs e hv
   unfold frzs at e
   split at e
   ·cases e; exact ⟨.nil, rfl⟩
   ·split at e
    ·rename_i x r x' r' h1 h2
     cases e
     obtain ⟨y, ys, rfl, k1, k2⟩ := VRels.cons_iff.1 hv
     obtain ⟨q1, q2⟩ := ih2 inn _ _ _ h2 k2
     exact ⟨VRels.cons_iff.2 ⟨y, ys, rfl, ih1 inn _ _ _ h1 k1, q1⟩, by simp [q2]⟩
    ·cases e
theorem isoArgs_rel {mode : Nat} {args as : List V} (e : isoArgs mode args = some as) {xs : List Value} (hx : VRels M ρ args xs) : VRels M (fun _ => none) as xs ∧ as.length = args.length := by
 unfold isoArgs at e
 rw [Bool.cond_eq_ite] at e
 split at e
 ·exact (frz_closed M ρ (fun _ => none) frzFuel).2 false _ _ _ e hx
 ·cases e
theorem finishI_sound (hh : HRel P gl B M ρ h w) {h1 h' : Heap} {v v' : V} (hf : finishI h h1 v = some (v', h')) {x : Value} {w' : World} (hp : Post P gl B M (fun _ => none) h0 w v h1 x w') :
  Post P gl B M ρ h w v' h' x w' := by
 obtain ⟨M1, ρ1, k1, k2, k3⟩ := hp
 obtain ⟨u, e1, e2⟩ := map_some hf
 cases e2
 have hv := (frz_rel k1 0 frzFuel).1 false ρ v v' x (fun _ b l _ hb => absurd hb (by omega)) e1 k3
 have hfr : ∀ k, k < w.heap.size → w'.heap[k]? = w.heap[k]? := fun k hk => k2.frame k hk (fun b l e => (by cases e))
 have hnew : ∀ b l, ρ1 b = some l → live h1 b → w.heap.size ≤ l.blk := by
  intro b l f1 f2
  rcases k2.wr b l f1 f2 (Nat.zero_le _) with q | ⟨b0, l0, g1, _⟩
  ·exact q
  ·cases g1
 refine ⟨frozen M1 ρ1 h1 0 w', ρ, ?_, ?_, hv⟩
 ·constructor
  ·exact hh.bound
  ·intro b l e
   by_cases hlv : live h b
   ·rw [hfr _ (hh.blkLt e hlv)]
    exact BRel.mono (k2.mem.trans (frozen_le _)) (Rle.refl _) (hh.blk b l e)
   ·have hd : h.get b = .dead := by simpa [live] using hlv
    rw [hd]
    simp [BRel]
  ·exact hh.inj
  ·intro k cs e
   exact frozen_mem k1 _ e
  ·intro b l e hlv
   have hlt := hh.blkLt e hlv
   have hM1 : M1 l.blk = none := by
    cases hq : M1 l.blk with
    | none => rfl
    | some cs =>
     rcases k2.mnew _ _ hq with q | q
     ·rw [hh.sep b l e hlv] at q; cases q
     ·omega
   unfold frozen
   rw [hM1]
   simp only
   rw [if_neg]
   rintro ⟨b', l', f1, f2, _, f4⟩
   have := hnew b' l' f1 f2
   omega
  ·exact hh.base
  ·exact hh.fresh
  ·exact Nat.le_trans hh.room k2.size
  ·exact hh.lonx
  ·intro g cs e
   obtain ⟨row, e1, e2⟩ := hh.glob g cs e
   exact ⟨row, (k2.mem.trans (frozen_le _)) _ _ e1, VRels.mono (k2.mem.trans (frozen_le _)) (Rle.refl _) _ e2⟩
 ·refine ⟨Rle.refl _, k2.mem.trans (frozen_le _), rfl, Nat.le_refl _, k2.os, k2.tape, k2.output, k2.size, fun b l e1 e2 e3 => .inr ⟨b, l, e1, e2, e3, rfl⟩,
   fun k hk _ => hfr k hk, fun _ _ _ _ => rfl, fun b l e1 e2 => (by rw [e2] at e1; cases e1), ?_⟩
  intro k cs e
  unfold frozen at e
  split at e
  ·rename_i c hc
   cases e
   exact k2.mnew k cs hc
  ·split at e
   ·rename_i hex
    obtain ⟨b, l, e1, e2, e3, rfl⟩ := hex
    exact .inr (hnew b l e1 e2)
   ·cases e
end
end Go.VE
end
section
namespace Go.VE
def Fw (r : Option Nat) : Fence := { Fence.wide with round := r }
theorem callsIn_fw {r : Option Nat} {n : Nat} {P : Program} {f : FuncId} {args : Array Value} {w : World} {R : Ending → World → Prop} : CallsIn (Fw r) n P f args w R ↔ Calls P f args w R :=
 Iff.trans Iff.rfl (callsIn_wide (n := n))
theorem not_defer {P : Program} {gl : Nat → Option (List V)} {pu : Nat → Nat} {o : Oper} {vo : VOp} (hc : okd (compOp P gl pu o) = vo) (hb : vo ≠ .bad) : ∀ c, o.op ≠ .defer c := by
 intro c e
 apply hb
 rw [← hc]
 unfold compOp
 rw [e]
 rfl
section
variable {F : Fence} {n : Nat} {P : Program} {Q : Exit → Act → World → Prop} {a : Act} {w : World}
theorem wpIn_scope_straight {c : Code} (h : c.wpIn F n P (Exit.noGoto Q) a w) : (Code.scope c).wpIn F n P Q a w := by
 intro b k cs hro hb hr
 obtain ⟨e, a₁, w₁, hq, harr⟩ := h b (.inScope c :: k) cs hro hb hr
 have s0 : StepsIn (Machine.fenced P F) P (lone (b.atR a (.code (.scope c) :: k)) cs w) (lone (b.atR a (.code c :: .inScope c :: k)) cs w) :=
  .one (fenced_calm (fr := b.atR a (.code (.scope c) :: k)) hb hr rfl) (step_lone_go (by simp [stepG, stepG.exec, Frame.atR]))
 have s1 : ∀ a w, StepsIn (Machine.fenced P F) P (lone (b.atR a (.inScope c :: k)) cs w) (lone (b.atR a k) cs w) := fun a w =>
  .one (fenced_calm (fr := b.atR a (.inScope c :: k)) hb hr rfl) (step_lone_go (by simp [stepG, stepG.exec, Frame.atR]))
 cases e with
 | normal => exact ⟨.normal, a₁, w₁, hq, StepsIn.trans s0 (StepsIn.trans harr (s1 a₁ w₁))⟩
 | exit id => exact ⟨.exit id, a₁, w₁, hq, .of_steps s0 ⟨fun k' hk => harr.1 k' (by simp [exitTo, hk]), fun hr' hk => harr.2 hr' (by simp [exitTo, hk])⟩⟩
 | goto l => exact hq.elim
 | ret => exact ⟨.ret, a₁, w₁, hq, .of_steps s0 (show ArrivesIn _ P _ b k cs .ret a₁ w₁ from harr)⟩
 | panic ch => exact ⟨.panic ch, a₁, w₁, hq, .of_steps s0 (show ArrivesIn _ P _ b k cs (.panic ch) a₁ w₁ from harr)⟩
 | outgrown => exact ⟨.outgrown, a₁, w₁, hq, .of_steps s0 (show ArrivesIn _ P _ b k cs .outgrown a₁ w₁ from harr)⟩
end
def toExit : VX → Exit
 | .norm => .normal
 | .exit i => .exit i
 | .ret => .ret
def mkD (m : Nat) : Deferred := { target := .collected m, args := #[] }
def Marks (w w' : World) (a a' : Act) (r : Option Nat) : Prop :=
 ∃ ms : List Nat, a'.defers = ms.map mkD ++ a.defers ∧ ms.Nodup ∧ (∀ m ∈ ms, w.heap.size ≤ m ∧ w'.heap[m]? = some (.deferred (some []))) ∧ (r ≠ none → ms = [])
theorem Marks.same {w w' : World} {a a' : Act} {r : Option Nat} (h : a'.defers = a.defers) : Marks w w' a a' r := ⟨[], by simpa using h, List.nodup_nil, (fun m hm => by cases hm), fun _ => rfl⟩
section
variable {P : Program} {gl : Nat → Option (List V)} {N B : Nat} {M M' : Mem} {ρ ρ' : Rho} {h h' : Heap} {w w' : World}
theorem not_mark (hh : HRel P gl B M ρ h w) {m : Nat} {o : Option (List Deferred)} (hm : w.heap[m]? = some (.deferred o)) : ∀ b l, ρ b = some l → live h b → l.blk ≠ m := by
 intro b l e hl q
 have hb := hh.blk b l e
 rw [q, hm] at hb
 unfold live at hl
 cases hg : h.get b with
 | dead => exact hl hg
 | cells c o' => rw [hg] at hb; obtain ⟨cur, e', fr, h1, _⟩ := BRel.cells_iff.1 hb; cases h1
 | siter s pos => rw [hg] at hb; simp only [BRel] at hb; cases hb.1
 | map es clock => rw [hg] at hb; simp only [BRel] at hb; obtain ⟨_, h1, _⟩ := hb; cases h1
 | miter m s se l => rw [hg] at hb; simp only [BRel] at hb
 | loop st pd tm ps asg body => rw [hg] at hb; obtain ⟨_, _, _, h1, _⟩ := hb; cases h1
theorem mark_kept (hh : HRel P gl B M ρ h w) (ev : Evo M ρ h w M' ρ' h' w') {m : Nat} {o : Option (List Deferred)} (hm : w.heap[m]? = some (.deferred o)) : w'.heap[m]? = some (.deferred o) := by
 rw [ev.frame m (Array.getElem?_eq_some_iff.1 hm).1 (fun b l e hl _ => not_mark hh hm b l e hl)]
 exact hm
theorem HRel.mark (hh : HRel P gl B M ρ h w) {m : Nat} {o : Option (List Deferred)} (hm : w.heap[m]? = some (.deferred o)) (x : Obj) : HRel P gl B M ρ h (w.putObj m x) := by
 refine ⟨hh.bound, fun b l e => ?_, hh.inj, fun k cs e => ?_, hh.sep, hh.base, hh.fresh, by rw [World.putObj_size]; exact hh.room, hh.lonx, hh.glob⟩
 ·by_cases hl : live h b
  ·rw [World.putObj_heap_other (not_mark hh hm b l e hl)]
   exact hh.blk b l e
  ·have hd : h.get b = .dead := by simpa [live] using hl
   rw [hd]
   simp [BRel]
 ·obtain ⟨e', fr, hk⟩ := hh.mem k cs e
  have hne : k ≠ m := fun q => by rw [q, hm] at hk; cases hk
  exact ⟨e', fr, by rw [World.putObj_heap_other hne]; exact hk⟩
theorem Evo.mark (ev : Evo M ρ h w M' ρ' h' w') {m : Nat} (hm : w.heap.size ≤ m) (x : Obj) : Evo M ρ h w M' ρ' h' (w'.putObj m x) :=
 ⟨ev.rho, ev.mem, ev.lo, ev.nx, ev.os, ev.tape, ev.output, by rw [World.putObj_size]; exact ev.size, ev.wr, fun k hk hno => by rw [World.putObj_heap_other (by omega)]; exact ev.frame k hk hno, ev.low, ev.new, ev.mnew⟩
theorem HRel.allocW (hh : HRel P gl B M ρ h w) (o : Obj) : HRel P gl B M ρ h (w.alloc o) := by
 refine ⟨hh.bound, fun b l e => ?_, hh.inj, fun k cs e => ?_, hh.sep, hh.base, hh.fresh, ?_, hh.lonx, hh.glob⟩
 ·by_cases hl : live h b
  ·rw [heap_alloc_old _ _ _ (hh.blkLt e hl)]
   exact hh.blk b l e
  ·have hd : h.get b = .dead := by simpa [live] using hl
   rw [hd]
   simp [BRel]
 ·obtain ⟨e', fr, hk⟩ := hh.mem k cs e
  exact ⟨e', fr, by rw [heap_alloc_old _ _ _ (hh.memLt e)]; exact hk⟩
 ·have := hh.room
  simp
  omega
theorem Evo.allocW (M : Mem) (ρ : Rho) (h : Heap) (w : World) (o : Obj) : Evo M ρ h w M ρ h (w.alloc o) :=
 ⟨Rle.refl _, Mle.refl _, rfl, Nat.le_refl _, rfl, rfl, rfl, by simp, fun b l e hl hlo => .inr ⟨b, l, e, hl, hlo, rfl⟩, fun k hk _ => heap_alloc_old _ _ _ hk, fun _ _ _ _ => rfl, (fun b l e1 e2 => by rw [e2] at e1; cases e1), fun _ _ q => .inl q⟩
def PostC (P : Program) (gl : Nat → Option (List V)) (B N : Nat) (M : Mem) (ρ : Rho) (h : Heap) (w : World) (a : Act) (r : Option Nat) (x : VX) (s' : Slots) (h' : Heap) (e : Exit) (a' : Act) (w' : World) : Prop :=
 e = toExit x ∧ Marks w w' a a' r ∧ ∃ M' ρ', HRel P gl B M' ρ' h' w' ∧ Evo M ρ h w M' ρ' h' w' ∧ SRel M' ρ' N s' a'.tmps
theorem PostC.trans {M1 : Mem} {ρ1 : Rho} {h1 h2 : Heap} {w1 : World} {a a1 : Act} {r : Option Nat} {x : VX} {s2 : Slots} (e1 : Marks w w1 a a1 r) (hh1 : HRel P gl B M1 ρ1 h1 w1) (e2 : Evo M ρ h w M1 ρ1 h1 w1) {e : Exit} {a' : Act} {w' : World}
  (p : PostC P gl B N M1 ρ1 h1 w1 a1 r x s2 h2 e a' w') : PostC P gl B N M ρ h w a r x s2 h2 e a' w' := by
 obtain ⟨q1, ⟨ms2, k1, k2, k3, k4⟩, M2, ρ2, q3, q4, q5⟩ := p
 obtain ⟨ms1, j1, j2, j3, j4⟩ := e1
 refine ⟨q1, ⟨ms2 ++ ms1, by rw [k1, j1]; simp, ?_, fun m hm => ?_, fun hr => by rw [k4 hr, j4 hr]; rfl⟩, M2, ρ2, q3, e2.trans q4, q5⟩
 ·rw [List.nodup_append]
  refine ⟨k2, j2, fun m hm m' hm' q => ?_⟩
  subst q
  have h1 := (k3 m hm).1
  have h2 := (Array.getElem?_eq_some_iff.1 (j3 m hm').2).1
  omega
 ·rcases List.mem_append.1 hm with hm | hm
  ·exact ⟨Nat.le_trans e2.size (k3 m hm).1, (k3 m hm).2⟩
  ·exact ⟨(j3 m hm).1, mark_kept hh1 q4 (j3 m hm).2⟩
def CodeOK (P : Program) (gl : Nat → Option (List V)) (B : Nat) (vp : Nat → Option VFn) (n : Nat) : Prop :=
 ∀ {pu : Nat → Nat} {N : Nat} {c : Code} {vc : VCode}, comp P gl pu N c = some vc → ∀ {M : Mem} {ρ : Rho} {h h' : Heap} {w : World} {s s' : Slots} {a : Act} {x : VX} {r : Option Nat}, (r = none ∨ noRF c = true) →
  HRel P gl B M ρ h w → SRel M ρ N s a.tmps → exec vp n vc s h = some (x, s', h') → c.wpIn (Fw r) 0 P (PostC P gl B N M ρ h w a r x s' h') a w
end
end Go.VE
end
section
namespace Go.VE
section
variable {P : Program} {gl : Nat → Option (List V)} {pu : Nat → Nat} {N B : Nat} {M : Mem} {ρ : Rho} {h : Heap} {w : World} {s : Slots} {a : Act} {vp : Nat → Option VFn}
structure TabOK (P : Program) (gl : Nat → Option (List V)) (pu : Nat → Nat) (vp : Nat → Option VFn) : Prop where
 fn : ∀ f vf, vp f = some vf → ∃ fn, P.funcs[f]? = some fn ∧ compFn P gl pu vf.mode fn = some vf
 prim : ∀ f vf sz bytes, vp f = some vf → vf.prim = some (sz, bytes) → ∃ t e it ti z, InsW P f t e it ti z ∧ ti.size = sz ∧ ti.bytes = bytes
 mixed : P.follows .mixedOrders = true
theorem TabOK.body (ht : TabOK P gl pu vp) {f : Nat} {vf : VFn} (e : vp f = some vf) (hp : vf.prim = none) : ∃ fn c, P.funcs[f]? = some fn ∧ fn.name ≠ "runtime.NumGoroutine" ∧ fn.body = some c ∧ comp P gl pu fn.ntmps c = some vf.body ∧ compRes P fn.results.toList = some vf.res := by
 obtain ⟨fn, h1, h2⟩ := ht.fn f vf e
 unfold compFn at h2
 split at h2
 ·cases h2
 ·rename_i hname
  split at h2
  ·split at h2
   ·split at h2
    ·split at h2
     ·obtain ⟨i, _, e2⟩ := map_some h2
      subst e2
      cases hp
     ·cases h2
    ·cases h2
   ·cases h2
  ·split at h2
   ·rename_i c hc
    split at h2
    ·rename_i b r hb hr
     have e2 := Option.some.inj h2
     refine ⟨fn, c, h1, hname, hc, ?_, ?_⟩
     ·rw [← e2]; exact hb
     ·rw [← e2]; exact hr
    ·cases h2
   ·cases h2
theorem TabOK.bodied (ht : TabOK P gl pu vp) {f : Nat} {vf : VFn} (e : vp f = some vf) : ∃ fn, P.funcs[f]? = some fn ∧ fn.name ≠ "runtime.NumGoroutine" ∧ fn.body.isSome = true := by
 obtain ⟨fn, h1, h2⟩ := ht.fn f vf e
 refine ⟨fn, h1, ?_⟩
 unfold compFn at h2
 split at h2
 ·cases h2
 ·rename_i hname
  refine ⟨hname, ?_⟩
  split at h2
  ·split at h2
   ·split at h2
    ·split at h2
     ·assumption
     ·cases h2
    ·cases h2
   ·cases h2
  ·split at h2
   ·rename_i c hc
    rw [hc]
    rfl
   ·cases h2
def CallOK (P : Program) (gl : Nat → Option (List V)) (B : Nat) (vp : Nat → Option VFn) (n : Nat) : Prop :=
 ∀ {M : Mem} {ρ : Rho} {h h' : Heap} {w : World} {f : Nat} {args : List V} {v : V} {xs : List Value}, HRel P gl B M ρ h w → VRels M ρ args xs → args.length = xs.length →
  callF vp n f args h = some (v, h') → Calls P f xs.toArray w (fun e w' => ∃ x, e = .returned x ∧ Post P gl B M ρ h w v h' x w')
def AllOK (P : Program) (gl : Nat → Option (List V)) (B : Nat) (vp : Nat → Option VFn) (n : Nat) : Prop := CallOK P gl B vp n ∧ CodeOK P gl B vp n
theorem enter_run {f : FuncId} {fn : Func} (hf : P.funcs[f]? = some fn) (hn : fn.name ≠ "runtime.NumGoroutine") (hb : fn.body.isSome = true) (args : Array Value) (w : World) :
  (callFunc f args).run P w = .ok (.enter f args) w := by
 have h1 : (fn.name == "runtime.NumGoroutine") = false := by simpa using hn
 have h2 : fn.body.isNone = false := by cases hq : fn.body <;> simp_all
 have h3 : ¬ (fn.body = none) := by intro q; rw [q] at hb; cases hb
 simp [callFunc, hf, hn, h3]
set_option maxHeartbeats 1000000 in
theorem isCall_inv {o : Oper} {vo : VOp} (hc : compOp P gl pu o = some vo) (hcall : isCall vo = true) : ∃ c, o.op = .call c ∧ compCall P gl pu c = some vo := by
 unfold compOp at hc
 split at hc
 case h_23 c ho => exact ⟨c, ho, hc⟩
 all_goals
  exfalso
  repeat' split at hc
  all_goals first
   |(cases hc; cases hcall; done)
   |(obtain ⟨_, _, e⟩ := map_some hc; subst e; cases hcall; done)
   |(obtain ⟨_, _, e⟩ := negOf_spec hc; subst e; cases hcall; done)
   |(cases hc; done)
theorem mem_builtin_not {c : Call} {b : Builtin} {as : List Opd} (hb : c.callee = .builtin b) (e2 : opds gl c.args.toList = some as) {vo : VOp} (hc : compCall P gl pu c = some vo) : isCall vo = false := by
 unfold compCall at hc
 rw [hb, e2] at hc
 simp only at hc
 repeat' split at hc
 all_goals first
  |(cases hc; rfl)
  |(obtain ⟨_, _, e⟩ := map_some hc; subst e; rfl)
  |(cases hc; done)
theorem call_inv {o : Oper} {vo : VOp} (hc : compOp P gl pu o = some vo) (hcall : isCall vo = true) :
  ∃ c, o.op = .call c ∧ ((∃ f as fn, (vo = .call f as ∨ vo = .callp f as ∨ vo = .callo f as ∨ ∃ t, vo = .callc f as t) ∧ c.callee = .value (.func f) ∧ opds gl c.args.toList = some as ∧ P.funcs[f]? = some fn ∧ fn.body.isSome = true ∧ fn.name ≠ "runtime.NumGoroutine") ∨
   ∃ g x as, (vo = .callv x as ∨ vo = .callvo x as) ∧ c.callee = .value g ∧ opd gl g = some x ∧ opds gl c.args.toList = some as) := by
 obtain ⟨c, ho, hc'⟩ := isCall_inv hc hcall
 refine ⟨c, ho, ?_⟩
 cases hcal : c.callee with
 | builtin b =>
  cases e2 : opds gl c.args.toList with
  | none => unfold compCall at hc'; rw [hcal, e2] at hc'; cases hc'
  | some as => rw [mem_builtin_not hcal e2 hc'] at hcall; cases hcall
 | invoke r m => unfold compCall at hc'; rw [hcal] at hc'; cases hc'
 | value g =>
  unfold compCall at hc'
  rw [hcal] at hc'
  cases e2 : opds gl c.args.toList with
  | none => rw [e2] at hc'; cases hc'
  | some as =>
   rw [e2] at hc'
   simp only at hc'
   split at hc'
   ·rename_i f
    split at hc'
    ·rename_i fn hfn
     split at hc'
     ·rename_i hb
      split at hc'
      ·cases hc'
      ·rename_i hname
       left
       refine ⟨f, as, fn, ?_, rfl, rfl, hfn, hb, hname⟩
       have e := Option.some.inj hc'
       unfold callAs at e
       split at e
       ·exact .inl e.symm
       ·exact .inr (.inl e.symm)
       ·split at e
        ·exact .inr (.inr (.inr ⟨_, e.symm⟩))
        ·exact .inl e.symm
       ·exact .inr (.inr (.inl e.symm))
     ·repeat' split at hc'
      all_goals first | (cases hc'; cases hcall; done) | (cases hc'; done)
    ·cases hc'
   ·obtain ⟨x, h1, h2⟩ := map_some hc'
    refine .inr ⟨g, x, as, ?_, rfl, h1, rfl⟩
    rw [Bool.cond_eq_ite] at h2
    split at h2
    ·exact .inr h2.symm
    ·exact .inl h2.symm
theorem okd_some {x : Option VOp} {vo : VOp} (e : okd x = vo) (hb : vo ≠ .bad) : x = some vo ∧ okOp vo = true := by
 unfold okd at e
 split at e
 ·rename_i o
  split at e
  ·rename_i hk
   subst e
   exact ⟨rfl, hk⟩
  ·exact absurd e.symm hb
 ·exact absurd e.symm hb
theorem value_call_run {o : Oper} {c : Call} {g : Operand} (ho : o.op = .call c) (hc : c.callee = .value g) {f : FuncId} {caps : Array Value} (hv : a.eval g = .func (.func f) #[] caps) {fn : Func} (hf : P.funcs[f]? = some fn)
  (hn : fn.name ≠ "runtime.NumGoroutine") (hb : fn.body.isSome = true) : (execOp a.eval o).run P w = .ok (.enter f (c.args.map a.eval ++ caps)) w := by
 have := enter_run hf hn hb (c.args.map a.eval ++ caps) w
 simp only [execOp, ho, resolve, hc, hv, Deferred.ofValue, pure_bind, invoke, Array.empty_append]
 exact this
theorem fold_rel {N : Nat} : ∀ (ps : List Nat) (vs : List V) (xs : List Value) {s : Slots} {tm : Array Value}, SRel M ρ N s tm → (∀ t ∈ ps, t < N) → VRels M ρ vs xs → vs.length = xs.length →
  SRel M ρ N ((ps.zip vs).foldl (fun s p => s.set p.1 p.2) s) ((ps.zip xs).foldl (fun tmps p => tmps.setIfInBounds p.1 p.2) tm)
 | [], _, _, _, _, hs, _, _, _ => by simpa using hs
 | p :: ps, [], xs, s, tm, hs, _, _, hl => by
  have : xs = [] := List.eq_nil_of_length_eq_zero (by simpa using hl.symm)
  subst this
  simpa using hs
 | p :: ps, v :: vs, xs, s, tm, hs, hp, hv, hl => by
  obtain ⟨x, ys, rfl, k1, k2⟩ := VRels.cons_iff.1 hv
  simp only [List.zip_cons_cons, List.foldl_cons]
  exact fold_rel ps vs ys (hs.put (hp p (by simp)) k1) (fun t ht => hp t (by simp [ht])) k2 (by simpa using hl)
theorem HRel.cut (hh : HRel P gl B M ρ h w) {b : Nat} (hlo : h.lo ≤ b) (hb : b < h.nx) : HRel P gl B M ρ (cutH h b) w := by
 have lv : ∀ c, live (cutH h b) c → live h c := by
  intro c hc
  unfold live at hc ⊢
  rw [cutH_get] at hc
  split at hc
  ·exact absurd rfl hc
  ·exact hc
 refine ⟨fun c l e => by rw [cutH_nx]; exact hh.bound c l e, fun c l e => ?_, fun c c' l l' e e' v v' => hh.inj c c' l l' e e' (lv c v) (lv c' v'), hh.mem, fun c l e v => hh.sep c l e (lv c v), fun c l e v => hh.base c l e (lv c v), fun c hc => ?_, hh.room, by rw [cutH_nx, cutH_lo]; omega, hh.glob⟩
 ·rw [cutH_get]
  split
  ·simp [BRel]
  ·exact hh.blk c l e
 ·rw [cutH_nx] at hc
  rw [cutH_get, if_neg (by omega)]
  exact hh.fresh c hc
theorem Post.back {h1 : Heap} {x : Value} {v : V} {w' : World} {b : Nat} (hp : Post P gl B M ρ (cutH h b) w v h1 x w') (hh : HRel P gl B M ρ h w) (hlo : h.lo ≤ b) (hb : b < h.nx) : Post P gl B M ρ h w v (backH h h1 b) x w' := by
 obtain ⟨M1, ρ1, k1, k2, k3⟩ := hp
 have hnx := k2.nx
 rw [cutH_nx] at hnx
 have hold : ∀ c l, ρ1 c = some l → c < h.nx → ρ c = some l := by
  intro c l e hc
  cases e' : ρ c with
  | none => have := k2.new c l e e'; rw [cutH_nx] at this; omega
  | some l' => have := k2.rho c l' e'; rw [e] at this; exact this.symm
 have hin : ∀ c, ¬ (b < c ∧ c < h.nx) → (backH h h1 b).get c = h1.get c := fun c hc => by rw [backH_get, if_neg hc]
 have hmid : ∀ c, b < c → c < h.nx → (backH h h1 b).get c = h.get c := fun c h1 h2 => by rw [backH_get, if_pos ⟨h1, h2⟩]
 have hwr : ∀ c l, ρ1 c = some l → live h1 c → b ≤ c → (w.heap.size ≤ l.blk ∨ ∃ l0, ρ b = some l0 ∧ live h b ∧ l0.blk = l.blk) := by
  intro c l e v hc
  rcases k2.wr c l e v (by rw [cutH_lo]; exact hc) with q | ⟨c0, l0, f1, f2, f3, f4⟩
  ·exact .inl q
  ·rw [cutH_lo] at f3
   have hb0 := hh.bound c0 l0 f1
   have : c0 = b := by
    unfold live at f2
    rw [cutH_get] at f2
    split at f2
    ·exact absurd rfl f2
    ·omega
   subst this
   refine .inr ⟨l0, f1, ?_, f4⟩
   unfold live at f2 ⊢
   rw [cutH_get, if_neg (by omega)] at f2
   exact f2
 have hrow : ∀ c l, ρ c = some l → live h c → c ≠ b → w'.heap[l.blk]? = w.heap[l.blk]? := by
  intro c l e v hc
  refine k2.frame _ (hh.blkLt e v) (fun c0 l0 f1 f2 f3 q => ?_)
  rw [cutH_lo] at f3
  have hb0 := hh.bound c0 l0 f1
  have h0 : c0 = b := by
   unfold live at f2
   rw [cutH_get] at f2
   split at f2
   ·exact absurd rfl f2
   ·omega
  subst h0
  have v0 : live h c0 := by
   unfold live at f2 ⊢
   rw [cutH_get, if_neg (by omega)] at f2
   exact f2
  exact hc (hh.inj c0 c l0 l f1 e v0 v q).symm
 have hlow : ∀ c l, ρ c = some l → c < b → h1.get c = h.get c := by
  intro c l e hc
  rw [k2.low c l e (by rw [cutH_lo]; exact hc), cutH_get, if_neg (by omega)]
 have lmid : ∀ c l, ρ1 c = some l → live (backH h h1 b) c → b < c → c < h.nx → ρ c = some l ∧ live h c := by
  intro c l e v c1 c2
  refine ⟨hold c l e c2, ?_⟩
  unfold live at v ⊢
  rw [hmid c c1 c2] at v
  exact v
 have lout : ∀ c, live (backH h h1 b) c → ¬ (b < c ∧ c < h.nx) → live h1 c := by
  intro c v hc
  unfold live at v ⊢
  rw [hin c hc] at v
  exact v
 have hap : ∀ c c' l l', ρ1 c = some l → ρ1 c' = some l' → live (backH h h1 b) c → live (backH h h1 b) c' → (b < c ∧ c < h.nx) → ¬ (b < c' ∧ c' < h.nx) → l.blk ≠ l'.blk := by
  intro c c' l l' e e' v v' hc hc' q
  obtain ⟨m1, m2⟩ := lmid c l e v hc.1 hc.2
  have v2 := lout c' v' hc'
  by_cases hcb : b ≤ c'
  ·rcases hwr c' l' e' v2 hcb with r | ⟨l0, r1, r2, r3⟩
   ·have := hh.blkLt m1 m2; omega
   ·have := hh.inj c b l l0 m1 r1 m2 r2 (q.trans r3.symm)
    omega
  ·have e2 := hold c' l' e' (by omega)
   have := hh.inj c c' l l' m1 e2 m2 (by unfold live at v2 ⊢; rw [hlow c' l' e2 (by omega)] at v2; exact v2) q
   omega
 refine ⟨M1, ρ1, ⟨fun c l e => by rw [backH_nx]; exact k1.bound c l e, fun c l e => ?_, fun c c' l l' e e' v v' q => ?_, k1.mem, fun c l e v => ?_, fun c l e v => ?_, fun c hc => ?_, k1.room, by rw [backH_nx, backH_lo]; omega, k1.glob⟩, ?_, k3⟩
 ·by_cases hc : b < c ∧ c < h.nx
  ·rw [hmid c hc.1 hc.2]
   have e2 := hold c l e hc.2
   by_cases hlv : live h c
   ·rw [hrow c l e2 hlv (by omega)]
    exact BRel.mono k2.mem k2.rho (hh.blk c l e2)
   ·have : h.get c = .dead := by simpa [live] using hlv
    rw [this]
    simp [BRel]
  ·rw [hin c hc]
   exact k1.blk c l e
 ·by_cases hc : b < c ∧ c < h.nx <;> by_cases hc' : b < c' ∧ c' < h.nx
  ·obtain ⟨m1, m2⟩ := lmid c l e v hc.1 hc.2
   obtain ⟨m3, m4⟩ := lmid c' l' e' v' hc'.1 hc'.2
   exact hh.inj c c' l l' m1 m3 m2 m4 q
  ·exact absurd q (hap c c' l l' e e' v v' hc hc')
  ·exact absurd q.symm (hap c' c l' l e' e v' v hc' hc)
  ·exact k1.inj c c' l l' e e' (lout c v hc) (lout c' v' hc') q
 ·by_cases hc : b < c ∧ c < h.nx
  ·obtain ⟨m1, m2⟩ := lmid c l e v hc.1 hc.2
   cases hm : M1 l.blk with
   | none => rfl
   | some cs =>
    have := hh.blkLt m1 m2
    rcases k2.mnew _ _ hm with r | r
    ·rw [hh.sep c l m1 m2] at r; cases r
    ·omega
  ·exact k1.sep c l e (lout c v hc)
 ·by_cases hc : b < c ∧ c < h.nx
  ·obtain ⟨m1, m2⟩ := lmid c l e v hc.1 hc.2
   exact hh.base c l m1 m2
  ·exact k1.base c l e (lout c v hc)
 ·rw [backH_nx] at hc
  rw [hin c (by omega)]
  exact k1.fresh c hc
 ·refine ⟨k2.rho, k2.mem, rfl, by rw [backH_nx]; exact hnx, k2.os, k2.tape, k2.output, k2.size, fun c l e v hc => ?_, fun k hk hno => ?_, fun c l e hc => ?_, fun c l e e' => by have := k2.new c l e e'; rw [cutH_nx] at this; exact this, k2.mnew⟩
  ·by_cases hm : b < c ∧ c < h.nx
   ·obtain ⟨m1, m2⟩ := lmid c l e v hm.1 hm.2
    exact .inr ⟨c, l, m1, m2, hc, rfl⟩
   ·have v2 := lout c v hm
    by_cases hcb : b ≤ c
    ·rcases hwr c l e v2 hcb with r | ⟨l0, r1, r2, r3⟩
     ·exact .inl r
     ·exact .inr ⟨b, l0, r1, r2, hlo, r3⟩
    ·have e2 := hold c l e (by omega)
     exact .inr ⟨c, l, e2, by unfold live at v2 ⊢; rw [hlow c l e2 (by omega)] at v2; exact v2, hc, rfl⟩
  ·refine k2.frame k hk (fun c0 l0 f1 f2 f3 => ?_)
   rw [cutH_lo] at f3
   refine hno c0 l0 f1 ?_ (by omega)
   unfold live at f2 ⊢
   rw [cutH_get] at f2
   split at f2
   ·exact absurd rfl f2
   ·exact f2
  ·rw [hin c (by omega)]
   exact hlow c l e (by omega)
theorem step_sound {pu0 : Nat → Nat} (ht : TabOK P gl pu0 vp) {n : Nat} (iha : AllOK P gl B vp n) (iha' : AllOK P gl B vp (n - 1)) (hh : HRel P gl B M ρ h w) (hs : SRel M ρ N s a.tmps) {o : Oper} {vo : VOp} (hc : okd (compOp P gl pu o) = vo)
  {v : V} {h' : Heap} (he : stepOp vp (n + 1) vo s h = some (v, h')) {r : Option Nat} {K : Act → World → Prop} {Q : Exit → Act → World → Prop} (hK : ∀ x w', Post P gl B M ρ h w v h' x w' → K (a.put o.dst x) w') : o.wpIn (Fw r) 0 P a w K Q := by
 obtain ⟨ih, _⟩ := iha
 obtain ⟨ih', ihc⟩ := iha'
 have hbad : vo ≠ .bad := by
  intro q
  subst q
  simp [stepOp, opE] at he
 obtain ⟨hc1, hok⟩ := okd_some hc hbad
 have hsem : o.semAt (Fw r).round a.eval = execOp a.eval o := Oper.semAt_eq _ _ _ (not_defer hc hbad)
 refine ⟨fun _ _ => trivial, ?_⟩
 rw [hsem]
 cases hcall : isCall vo with
 | false =>
  have he' : opE vo s h = some (v, h') := by
   cases vo <;> first | (cases hcall; done) | simpa [stepOp] using he
  obtain ⟨M', ρ', w', x, g1, g2, g3, g4⟩ := op_sim hh hs hc1 hcall hok he'
  have hp := hK x w' ⟨M', ρ', g1, g2, g3⟩
  rcases g4 with g4 | ⟨g4, rfl⟩
  ·rw [g4]; exact hp
  ·rw [g4]; exact hp
 | true =>
  obtain ⟨c, ho, ⟨f, as, fn, hvo, hcal, hargs, hfn, hbody, hname⟩ | ⟨g, x, as, hvo, hcal, hg, hargs⟩⟩ := call_inv hc1 hcall
  ·obtain ⟨r1, r2⟩ := opds_rel hh hs hargs
   have hrun := value_call_run (a := a) (w := w) (P := P) ho hcal (caps := #[]) rfl hfn hname hbody
   have e : c.args.map a.eval ++ #[] = (c.args.toList.map a.eval).toArray := by apply Array.ext'; simp
   by_cases hcc : ∃ t, vo = .callc f as t
   ·obtain ⟨t, rfl⟩ := hcc
    simp only [stepOp] at he
    split at he
    case h_2 => cases he
    rename_i b off hb
    simp only [Bool.cond_eq_ite] at he
    split at he
    case isFalse => cases he
    rename_i hq
    simp only [ble_dec, blt_dec, Bool.and_eq_true, decide_eq_true_eq] at hq
    split at he
    case h_2 => cases he
    rename_i v1 h1 hr
    cases he
    have := ih (hh.cut hq.1 hq.2) r1 (by simpa using r2) hr
    rw [hrun, Oper.uponIn_enter, e]
    refine ⟨(fun q => by cases q), callsIn_fw.2 (Calls.mono this ?_)⟩
    rintro e w' ⟨x, rfl, hp⟩
    exact hK x w' (hp.back hh hq.1 hq.2)
   have hcallF : callF vp n f (evs s as) h = some (v, h') := by
    rcases hvo with rfl | rfl | rfl | ⟨t, rfl⟩
    case inr.inr.inr => exact absurd ⟨t, rfl⟩ hcc
    ·exact he
    all_goals
     simp only [stepOp] at he
     split at he
     ·split at he
      ·rw [Bool.cond_eq_ite] at he
       split at he
       ·exact he
       ·cases he
      ·cases he
     ·cases he
   rw [hrun]
   have := ih hh r1 (by simpa using r2) hcallF
   rw [Oper.uponIn_enter]
   rw [e]
   refine ⟨(fun q => by cases q), callsIn_fw.2 (Calls.mono this ?_)⟩
   rintro e w' ⟨x, rfl, hp⟩
   exact hK x w' hp
  ·have hx := opd_rel hh hs hg
   obtain ⟨r1, r2⟩ := opds_rel hh hs hargs
   rcases hvo with rfl | rfl
   case inr =>
    simp only [stepOp] at he
    split at he
    case h_2 => cases he
    rename_i f caps hxe
    rw [hxe] at hx
    simp only [VRel] at hx
    obtain ⟨ys, e1, e2, e3⟩ := hx
    split at he
    case h_2 => cases he
    rename_i vf hvf
    split at he
    case h_2 => cases he
    rw [Bool.cond_eq_ite] at he
    split at he
    case isFalse => cases he
    obtain ⟨fn, q1, q2, q3⟩ := ht.bodied hvf
    have hrun := value_call_run (a := a) (w := w) (P := P) ho hcal e1 q1 q2 q3
    rw [hrun]
    have := ih hh (VRels.append r1 (by simpa using r2) e3) (by simp [r2, e2]) he
    rw [Oper.uponIn_enter]
    have e : c.args.map a.eval ++ ys.toArray = (c.args.toList.map a.eval ++ ys).toArray := by apply Array.ext'; simp
    rw [e]
    refine ⟨(fun q => by cases q), callsIn_fw.2 (Calls.mono this ?_)⟩
    rintro e w' ⟨x, rfl, hp⟩
    exact hK x w' hp
   simp only [stepOp] at he
   cases n with
   | zero => simp [callV] at he
   | succ n =>
    simp only [callV] at he
    split at he
    ·rename_i f caps hxe
     rw [hxe] at hx
     simp only [VRel] at hx
     obtain ⟨ys, e1, e2, e3⟩ := hx
     have hvf : ∃ vf, vp f = some vf := by
      cases n with
      | zero => simp [callF] at he
      | succ n =>
       simp only [callF] at he
       split at he
       ·cases he
       ·rename_i vf hvf; exact ⟨vf, hvf⟩
     obtain ⟨vf, hvf⟩ := hvf
     obtain ⟨fn, q1, q2, q3⟩ := ht.bodied hvf
     have hrun := value_call_run (a := a) (w := w) (P := P) ho hcal e1 q1 q2 q3
     rw [hrun]
     have := ih' hh (VRels.append r1 (by simpa using r2) e3) (by simp [r2, e2]) he
     rw [Oper.uponIn_enter]
     have e : c.args.map a.eval ++ ys.toArray = (c.args.toList.map a.eval ++ ys).toArray := by apply Array.ext'; simp
     rw [e]
     refine ⟨(fun q => by cases q), callsIn_fw.2 (Calls.mono this ?_)⟩
     rintro e w' ⟨x, rfl, hp⟩
     exact hK x w' hp
    ·rename_i b hxe
     rw [hxe] at hx
     simp only [VRel] at hx
     obtain ⟨l, e1, hval⟩ := hx
     rw [Bool.cond_eq_ite] at he
     split at he
     ·cases he
     ·rename_i hblt
      have hlo : h.lo ≤ b := by
       rw [blt_dec] at hblt
       simpa using hblt
      split at he
      case h_2 => cases he
      rename_i pd0 tm ps asg body hg
      rw [Bool.cond_eq_ite] at he
      split at he
      case isFalse => cases he
      rename_i hpl
      have hpl : ps.length = (evs s as).length := by simpa [beq_dec] using hpl
      have hb := hh.blk b l e1
      rw [hg] at hb
      obtain ⟨r0, pu0, N0, b1, b2, b3, b4, b5, b6, b7, b8, b9, b10⟩ := hb
      split at he
      case h_2 => cases he
      rename_i s1 h1 hasg
      split at he
      case h_2 => cases he
      rename_i pd1 tm1 ps1 asg1 body1 hg1
      split at he
      case h_2 => cases he
      rename_i x2 s2 h2 hbody
      split at he
      case h_2 => cases he
      rename_i st2 pd2 tm2 ps2 asg2 body2 hg2
      have hargs : (c.args.map a.eval).toList = c.args.toList.map a.eval := by simp
      have hsize : (c.args.map a.eval).size = r0.params.size := by
       have h3 : (evs s as).length = (c.args.toList.map a.eval).length := by simpa using r2
       rw [← Array.length_toList, ← Array.length_toList, hargs, ← h3, ← hpl, b2]
      have hrun : (execOp a.eval o).run P w = .ok (.round l.blk r0.fn ((r0.params.zip (c.args.map a.eval)).foldl (fun tmps (t, a) => tmps.setIfInBounds t a) r0.tmps) r0.assign r0.body) w := by
       simp only [execOp, ho, resolve, hcal, hval, Deferred.ofValue, pure_bind, invoke, Array.empty_append]
       exact run_yield b1 hsize
      rw [hrun, Oper.uponIn_round]
      have hst : SRel M ρ N0 ((ps.zip (evs s as)).foldl (fun s p => s.set p.1 p.2) tm) ((r0.params.zip (c.args.map a.eval)).foldl (fun tmps (t, a) => tmps.setIfInBounds t a) r0.tmps) := by
       rw [← Array.foldl_toList, Array.toList_zip, b2, hargs]
       exact fold_rel ps (evs s as) (c.args.toList.map a.eval) b8 b7 r1 (by simpa using r2)
      refine ⟨(fun q => by cases q), roundIn_of_wpIn trivial ?_⟩
      refine wpIn_mono (ihc b3 (r := some l.blk) (.inr b5) hh hst hasg) ?_
      rintro e a1 w1 ⟨rfl, _, M1, ρ1, g1, g2, g3⟩
      have e1' : ρ1 b = some l := g2.rho b l e1
      have hb1 := g1.blk b l e1'
      rw [hg1] at hb1
      obtain ⟨r1', pu1, N1, c1, c2, c3, c4, c5, c6, c7, c8, c9, c10⟩ := hb1
      have hready : r1'.state = .ready := by
       rcases c9 with ⟨_, q⟩ | ⟨q, _⟩ | ⟨q, _⟩
       ·exact q
       ·cases q
       ·cases q
      have hlv1 : live h1 b := by unfold live; rw [hg1]; simp
      have hlt1 : l.blk < w1.heap.size := (Array.getElem?_eq_some_iff.1 c1).1
      have hlo1 : h1.lo ≤ b := by rw [g2.lo]; exact hlo
      obtain ⟨u1, u2⟩ := g1.upd e1' hlv1 hlo1 (.loop 1 pd1 tm1 ps1 asg1 body1) (w1.putObj l.blk (.loop { r1' with state := .busy })) rfl rfl rfl World.putObj_size (fun k hk => World.putObj_heap_other hk) (by
       rw [World.putObj_heap_same hlt1]
       exact ⟨_, pu1, N1, rfl, c2, c3, c4, c5, c6, c7, c8, .inr (.inl ⟨rfl, rfl⟩), c10⟩)
      refine ⟨_, run_beginRound c1 hready, ?_⟩
      refine wpIn_mono (ihc b4 (r := some l.blk) (.inr b6) u1 (g3.mono u2.mem u2.rho) hbody) ?_
      rintro e a2 w2 ⟨rfl, _, M2, ρ2, k1, k2, k3⟩
      have e2' : ρ2 b = some l := k2.rho b l (u2.rho b l e1')
      have hb2 := k1.blk b l e2'
      rw [hg2] at hb2
      obtain ⟨r2', pu2, N2, d1, d2, d3, d4, d5, d6, d7, d8, d9, d10⟩ := hb2
      have hlv2 : live h2 b := by unfold live; rw [hg2]; simp
      have hlt2 : l.blk < w2.heap.size := (Array.getElem?_eq_some_iff.1 d1).1
      have hlo2 : h2.lo ≤ b := by rw [k2.lo, u2.lo]; exact hlo1
      have fin : ∀ (jump : Option Code) (st : Nat) (pd : Option VX), stR st (if jump.isNone then .ready else .done) → pendR pd jump → v = .bool jump.isNone → h' = h2.set b (.loop st pd tm2 ps2 asg2 body2) →
        ∃ v' w', (Instr.endRound l.blk jump).run P w2 = .ok v' w' ∧ K (a.put o.dst v') w' := by
       intro jump st pd q1 q2 q3 q4
       refine ⟨_, _, run_endRound jump d1, ?_⟩
       obtain ⟨y1, y2⟩ := k1.upd e2' hlv2 hlo2 (.loop st pd tm2 ps2 asg2 body2) (w2.putObj l.blk (.loop { r2' with state := if jump.isNone then .ready else .done, pending := jump })) rfl rfl rfl World.putObj_size (fun k hk => World.putObj_heap_other hk) (by
        rw [World.putObj_heap_same hlt2]
        exact ⟨_, pu2, N2, rfl, d2, d3, d4, d5, d6, d7, d8, q1, q2⟩)
       subst q3
       subst q4
       exact hK _ _ ⟨M2, ρ2, y1, ((g2.trans u2).trans k2).trans y2, by simp [VRel]⟩
      cases x2 with
      | norm =>
       simp only [Option.some.injEq, Prod.mk.injEq] at he
       obtain ⟨rfl, rfl⟩ := he
       exact fin none 0 none (.inl ⟨rfl, rfl⟩) rfl rfl rfl
      | exit i =>
       simp only [Option.some.injEq, Prod.mk.injEq] at he
       obtain ⟨rfl, rfl⟩ := he
       exact fin (some (.exit i)) 2 (some (.exit i)) (.inr (.inr ⟨rfl, rfl⟩)) rfl rfl rfl
      | ret =>
       simp only [Option.some.injEq, Prod.mk.injEq] at he
       obtain ⟨rfl, rfl⟩ := he
       exact fin (some .ret) 2 (some .ret) (.inr (.inr ⟨rfl, rfl⟩)) rfl rfl rfl
    ·cases he
end
end Go.VE
end
section
namespace Go.VE
section
variable {P : Program} {gl : Nat → Option (List V)} {pu : Nat → Nat} {N B : Nat} {M : Mem} {ρ : Rho} {h : Heap} {w : World} {s : Slots} {a : Act} {vp : Nat → Option VFn}
structure OpAs (P : Program) (gl : Nat → Option (List V)) (pu : Nat → Nat) (N : Nat) (ops : Array Oper) (o : Oper) (y : VOper) : Prop where
 dst : y.dst = o.dst
 dlt : ∀ d, o.dst = some d → d < N
 op : okd (compOp P gl pu o) = y.op
 grd : (o.guard = none ∧ y.g = none) ∨ ∃ g w d, o.guard = some (g, w) ∧ (ops[g]?).bind (·.dst) = some d ∧ d < N ∧ y.g = some (d, w)
theorem compOps_as {ops : Array Oper} : ∀ {os : List Oper} {l : List VOper}, compOps P gl pu N ops os = some l → l.length = os.length ∧ ∀ (i : Nat) o y, os[i]? = some o → l[i]? = some y → OpAs P gl pu N ops o y
 | [], l, e => by cases e; exact ⟨rfl, fun i o y h => by simp at h⟩
 | o :: os, l, e => by
  unfold compOps at e
  split at e
  ·rename_i r hr
   obtain ⟨k1, k2⟩ := compOps_as hr
   split at e
   ·rename_i hd
    have hdl : ∀ d, o.dst = some d → d < N := by
     intro d hq
     rw [hq] at hd
     simpa [dstOk] using hd
    have fin : ∀ y : VOper, OpAs P gl pu N ops o y → some (y :: r) = some l → l.length = (o :: os).length ∧ ∀ (i : Nat) o' y', (o :: os)[i]? = some o' → l[i]? = some y' → OpAs P gl pu N ops o' y' := by
     intro y hy q
     cases q
     refine ⟨by simp [k1], fun i o' y' e1 e2 => ?_⟩
     cases i with
     | zero => simp at e1 e2; subst e1; subst e2; exact hy
     | succ i => exact k2 i o' y' (by simpa using e1) (by simpa using e2)
    split at e
    ·rename_i hg
     exact fin _ ⟨rfl, hdl, rfl, .inl ⟨hg, rfl⟩⟩ e
    ·rename_i g wt hg
     split at e
     ·rename_i d hdg
      split at e
      ·rename_i hlt
       exact fin _ ⟨rfl, hdl, rfl, .inr ⟨g, wt, d, hg, hdg, hlt, rfl⟩⟩ e
      ·cases e
     ·cases e
   ·cases e
  ·cases e
theorem guard_rel {ops : Array Oper} {o : Oper} {y : VOper} (hoa : OpAs P gl pu N ops o y) (hsz : N ≤ a.tmps.size) (hs : ∀ d w, y.g = some (d, w) → VRel M ρ (s.at d) (a.tmps.getD d undef)) {t : Bool} (e : gEval y.g s = some t) :
  Region.wanted o (yielded ops a.tmps) = t := by
 rcases hoa.grd with ⟨h1, h2⟩ | ⟨g, wt, d, h1, h2, h3, h4⟩
 ·rw [h2] at e
  cases e
  simp [Region.wanted, h1]
 ·rw [h4] at e
  have hr := hs d wt h4
  have hget : a.tmps[d]? = some (a.tmps.getD d undef) := by
   have : d < a.tmps.size := Nat.lt_of_lt_of_le h3 hsz
   simp [this]
  simp only [gEval] at e
  simp only [Region.wanted, h1, yielded, h2, Option.bind_some, hget]
  split at e
  ·rename_i b hb
   rw [hb] at hr
   simp only [VRel] at hr
   rw [hr]
   cases e
   cases b <;> cases wt <;> rfl
  ·rename_i hb
   rw [hb] at hr
   simp only [VRel] at hr
   obtain ⟨xs, e1, e2, _⟩ := hr
   rw [e1]
   cases e
   rfl
  ·cases e
def PostS (P : Program) (gl : Nat → Option (List V)) (B N : Nat) (M : Mem) (ρ : Rho) (h : Heap) (w : World) (a : Act) (s' : Slots) (h' : Heap) (a' : Act) (w' : World) : Prop :=
 a'.defers = a.defers ∧ ∃ M' ρ', HRel P gl B M' ρ' h' w' ∧ Evo M ρ h w M' ρ' h' w' ∧ SRel M' ρ' N s' a'.tmps
theorem PostS.refl (hh : HRel P gl B M ρ h w) (hs : SRel M ρ N s a.tmps) : PostS P gl B N M ρ h w a s h a w := ⟨rfl, M, ρ, hh, Evo.refl _ _ _ _, hs⟩
theorem slots_put (hs : SRel M ρ N s a.tmps) {d : Option Nat} (hd : ∀ i, d = some i → i < N) {v : V} {x : Value} (hv : VRel M ρ v x) : SRel M ρ N (slotsPut s d v) (a.put d x).tmps := by
 cases d with
 | none => exact hs
 | some i => exact hs.put (hd i rfl) hv
theorem put_defers (a : Act) (d : Option Nat) (x : Value) : (a.put d x).defers = a.defers := by cases d <;> rfl
theorem ops_text {pu0 : Nat → Nat} (ht : TabOK P gl pu0 vp) {r : Option Nat} {ops : Array Oper} {Q : Exit → Act → World → Prop} : ∀ (n : Nat), (∀ m, m < n → AllOK P gl B vp m) →
  ∀ (os : List Oper) (l : List VOper) (k : Nat) {M : Mem} {ρ : Rho} {h h' : Heap} {w : World} {s s' : Slots} {a : Act}, l.length = os.length → (∀ (i : Nat) o y, os[i]? = some o → l[i]? = some y → OpAs P gl pu N ops o y) → (∀ j : Nat, os[j]? = ops[k + j]?) →
   HRel P gl B M ρ h w → SRel M ρ N s a.tmps → runOps vp n l s h = some (s', h') →
   (∀ a' w', PostS P gl B N M ρ h w a s' h' a' w' → Q .normal a' w') → wpOpsIn (Fw r) 0 P ops Q (List.range' k os.length) a w
 | 0, _, _, _, _, _, _, _, _, _, _, _, _, _, _, _, _, _, he, _ => by simp [runOps] at he
 | n + 1, ih, [], l, k, M, ρ, h, h', w, s, s', a, hlen, hall, hops, hh, hs, he, hQ => by
  have : l = [] := by simpa using hlen
  subst this
  simp only [runOps] at he
  cases he
  simp only [List.length_nil, List.range'_zero, wpOpsIn]
  exact hQ a w (.refl hh hs)
 | n + 1, ih, o :: os, [], k, M, ρ, h, h', w, s, s', a, hlen, hall, hops, hh, hs, he, hQ => by simp at hlen
 | n + 1, ih, o :: os, y :: l, k, M, ρ, h, h', w, s, s', a, hlen, hall, hops, hh, hs, he, hQ => by
  have hoa : OpAs P gl pu N ops o y := hall 0 o y rfl rfl
  have h0 : ops[k]? = some o := by simpa using (hops 0).symm
  simp only [runOps] at he
  simp only [List.length_cons, List.range'_succ, wpOpsIn, h0]
  have next : ∀ {M1 : Mem} {ρ1 : Rho} {h1 : Heap} {w1 : World} {v : V} {x : Value}, HRel P gl B M1 ρ1 h1 w1 → Evo M ρ h w M1 ρ1 h1 w1 → VRel M1 ρ1 v x → runOps vp n l (slotsPut s y.dst v) h1 = some (s', h') →
    wpOpsIn (Fw r) 0 P ops Q (List.range' (k + 1) os.length) (a.put o.dst x) w1 := by
   intro M1 ρ1 h1 w1 v x g1 g2 g3 g4
   rw [hoa.dst] at g4
   refine ops_text ht n (fun m hm => ih m (by omega)) os l (k + 1) (by simpa using hlen) (fun i o' y' e1 e2 => hall (i + 1) o' y' (by simpa using e1) (by simpa using e2))
    (fun j => by have := hops (j + 1); simpa [Nat.add_assoc, Nat.add_comm 1 j] using this) g1 (slots_put (hs.mono g2.mem g2.rho) hoa.dlt g3) g4 ?_
   rintro a' w' ⟨q1, M2, ρ2, q2, q3, q4⟩
   exact hQ a' w' ⟨by rw [q1, put_defers], M2, ρ2, q2, g2.trans q3, q4⟩
  cases hg : gEval y.g s with
  | none => rw [hg] at he; cases he
  | some t =>
   rw [hg] at he
   have hw := guard_rel hoa hs.size (fun d _ _ => hs.rel d) hg
   rw [hw]
   cases t with
   | true =>
    simp only [if_true]
    simp only at he
    split at he
    ·rename_i v h1 hst
     cases n with
     | zero => simp [stepOp] at hst
     | succ n =>
      refine step_sound ht (ih n (by omega)) (ih (n - 1) (by omega)) hh hs hoa.op hst ?_
      rintro x w1 ⟨M1, ρ1, g1, g2, g3⟩
      exact next g1 g2 g3 he
    ·cases he
   | false =>
    simp only [Bool.false_eq_true, if_false]
    simp only at he
    exact ⟨fun _ _ => trivial, next hh (Evo.refl _ _ _ _) undef_rel he⟩
end
end Go.VE
end

