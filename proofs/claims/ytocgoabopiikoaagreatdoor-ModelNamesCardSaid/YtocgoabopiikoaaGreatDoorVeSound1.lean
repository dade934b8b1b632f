/- A part of a proof that a small evaluator of the translated code agrees with the model (part Sound1). No statement of the program stands here. -/
import Derived.Test.YtocgoabopiikoaaGreatDoorVeSim14
import Derived.Test.YtocgoabopiikoaaGreatDoorVeSim11
import Derived.Test.YtocgoabopiikoaaGreatDoorVeSim6
set_option linter.all false
namespace Go.VE

def isCall : VOp → Bool
  | .call .. | .callp .. | .callo .. | .callv .. => true
  | _ => false

theorem isCall_callAs (k f : Nat) (as : List Opd) : isCall (callAs k f as) = true := by
  unfold callAs
  split <;> rfl

section
variable {P : Program} {gl : Nat → Option (List V)} {pu : Nat → Nat} {N B : Nat} {M : Mem} {ρ : Rho} {h : Heap} {w : World} {s : Slots} {a : Act}

theorem negOf_spec {op : BinOp} {f : Bool → VOp} {vo : VOp} (e : negOf op f = some vo) : ∃ neg, op = (if neg then .neq else .eql) ∧ vo = f neg := by
  unfold negOf at e
  split at e
  · exact ⟨false, rfl, (Option.some.inj e).symm⟩
  · exact ⟨true, rfl, (Option.some.inj e).symm⟩
  · cases e

theorem opds_cons {xs : List Operand} {y : Opd} {ys : List Opd} (e : opds gl xs = some (y :: ys)) : ∃ x r, xs = x :: r ∧ opd gl x = some y ∧ opds gl r = some ys := by
  cases xs with
  | nil => simp [opds] at e
  | cons x r =>
    unfold opds at e
    split at e
    · rename_i a b h1 h2
      cases e
      exact ⟨x, r, rfl, h1, h2⟩
    · cases e
theorem opds_nil {xs : List Operand} (e : opds gl xs = some []) : xs = [] := by
  cases xs with
  | nil => rfl
  | cons x r =>
    unfold opds at e
    split at e <;> cases e
theorem opds1 {xs : List Operand} {y : Opd} (e : opds gl xs = some [y]) : ∃ x, xs = [x] ∧ opd gl x = some y := by
  obtain ⟨x, r, rfl, h1, h2⟩ := opds_cons e
  cases opds_nil h2
  exact ⟨x, rfl, h1⟩
theorem opds2 {xs : List Operand} {y z : Opd} (e : opds gl xs = some [y, z]) : ∃ x u, xs = [x, u] ∧ opd gl x = some y ∧ opd gl u = some z := by
  obtain ⟨x, r, rfl, h1, h2⟩ := opds_cons e
  obtain ⟨u, rfl, h3⟩ := opds1 h2
  exact ⟨x, u, rfl, h1, h3⟩

theorem map_some {α β : Type} {f : α → β} {x : Option α} {y : β} (e : x.map f = some y) : ∃ z, x = some z ∧ f z = y := by
  cases x with
  | none => cases e
  | some z => exact ⟨z, rfl, Option.some.inj e⟩

theorem sim_call_builtin (hh : HRel P gl B M ρ h w) (hs : SRel M ρ N s a.tmps) {o : Oper} {c : Call} (ho : o.op = .call c) {vo : VOp} (hc : compCall P gl pu c = some vo) (hcall : isCall vo = false) (hok : okOp vo = true)
    {v : V} {h' : Heap} (he : opE vo s h = some (v, h')) : Good P gl B M ρ h w v h' ((execOp a.eval o).run P w) := by
  unfold compCall at hc
  split at hc
  · rename_i f as e1 e2
    split at hc
    · split at hc
      · rename_i fid _ fn hfn
        split at hc
        · split at hc
          · cases hc
          · cases hc; rw [isCall_callAs] at hcall; cases hcall
        · rename_i hbody
          split at hc
          · cases hc
          · rename_i hor
            have hor' : fn.origin = "" := by simpa using hor
            have hb' : fn.body.isSome = false := by simpa using hbody
            split at hc
            · rename_i hname
              split at hc
              · rename_i x y z
                cases hc
                exact sim_carry (sub := false) hh hs ho e1 hfn hb' hor' (by simpa using hname) e2 he
              · cases hc
            · split at hc
              · rename_i hname
                split at hc
                · rename_i x y z
                  cases hc
                  exact sim_carry (sub := true) hh hs ho e1 hfn hb' hor' (by simpa using hname) e2 he
                · cases hc
              · cases hc
      · cases hc
    · obtain ⟨y, _, e⟩ := map_some hc
      subst e
      cases hcall
  · rename_i b as e1 e2
    split at hc
    · rename_i x t e3
      obtain ⟨x0, hx, ex⟩ := opds1 e2
      split at hc
      · rename_i ht
        cases hc
        exact sim_lens hh hs ho e1 hx e3 ht ex he
      · rename_i el ht
        cases hc
        exact sim_len hh hs ho e1 hx e3 ht ex he
      · rename_i n el ht
        cases hc
        exact sim_lenc hh ho e1 hx e3 (.inl ⟨_, ht⟩) (s := s) he
      · rename_i el ht
        split at hc
        · rename_i n e' ht'
          cases hc
          exact sim_lenc hh ho e1 hx e3 (.inr ⟨_, _, ht, ht'⟩) (s := s) he
        · cases hc
      · cases hc; cases hok
      · cases hc
    · rename_i sl x t u e3
      obtain ⟨x0, y0, hx, ex, ey⟩ := opds2 e2
      split at hc
      · rename_i el ht
        split at hc
        · rename_i i z kk hi hz hu
          split at hc
          · cases hc
          · rename_i hn
            cases hc
            exact sim_app0 hh hs ho e1 hx e3 ht hu hi hz (fun q => hn (.inl q)) (fun q => hn (.inr q)) ex ey he
        · rename_i i z el' hi hz hu
          split at hc
          · cases hc
          · rename_i hn
            cases hc
            exact sim_app hh hs ho e1 hx e3 ht hu hi hz (fun q => hn (.inl q)) (fun q => hn (.inr q)) ex ey he
        · rename_i i z hi hz hu
          split at hc
          · rename_i hn
            cases hc
            exact sim_apps hh hs ho e1 hx e3 ht hu hi hz hn.1 hn.2 ex ey he
          · cases hc
        · cases hc
      · cases hc
    · rename_i d sr t u tr e3
      obtain ⟨x0, y0, hx, ex, ey⟩ := opds2 e2
      split at hc
      · rename_i el el' ht hu
        obtain ⟨n, hn, e⟩ := map_some hc
        subst e
        exact sim_cpy hh hs ho e1 hx e3 ht hn ex ey he
      · rename_i el ht hu
        split at hc
        · rename_i hn
          cases hc
          exact sim_cpys hh hs ho e1 hx e3 ht hn ex ey he
        · cases hc
      · cases hc
    · cases hc
      exact sim_mini hh hs ho e1 e2 he
    · cases hc
      exact sim_maxi hh hs ho e1 e2 he
    · cases hc; cases hok
    · rename_i x t e3
      obtain ⟨x0, hx, ex⟩ := opds1 e2
      split at hc
      · rename_i el ht
        split at hc
        · rename_i z hz
          split at hc
          · cases hc
          · rename_i hn
            cases hc
            exact sim_clr hh hs ho e1 hx e3 ht hz hn ex he
        · cases hc
      · cases hc
    · cases hc
  · cases hc

theorem mx_or {hi mx : Option Operand} {hi' mx' : Option Opd} (e3 : opdo gl hi = some hi') (e4 : opdo gl mx = some mx') (hm : ¬ (mx'.isSome && hi'.isNone) = true) : mx = none ∨ hi ≠ none := by
  cases mx with
  | none => exact .inl rfl
  | some m =>
    right
    intro q
    subst q
    simp only [opdo] at e3 e4
    obtain ⟨z, _, e⟩ := map_some e4
    cases e3
    subst e
    simp at hm

set_option maxHeartbeats 2000000 in
theorem op_sim (hh : HRel P gl B M ρ h w) (hs : SRel M ρ N s a.tmps) {o : Oper} {vo : VOp} (hc : compOp P gl pu o = some vo) (hcall : isCall vo = false) (hok : okOp vo = true)
    {v : V} {h' : Heap} (he : opE vo s h = some (v, h')) : Good P gl B M ρ h w v h' ((execOp a.eval o).run P w) := by
  unfold compOp at hc
  split at hc
  case h_1 x ho =>
    obtain ⟨y, e1, e⟩ := map_some hc
    subst e
    cases he
    exact sim_mv hh hs (.inl ho) e1
  case h_2 x ho =>
    obtain ⟨y, e1, e⟩ := map_some hc
    subst e
    cases he
    exact sim_mv hh hs (.inr ho) e1
  case h_3 c x y ho =>
    split at hc
    · rename_i e1 e2 e3
      cases hc
      exact sim_pick hh hs ho e1 e2 e3 he
    · cases hc
  case h_4 e ho =>
    obtain ⟨z, e1, e⟩ := map_some hc
    subst e
    exact sim_alloc hh ho e1 (s := s) he
  case h_5 e x ho =>
    split at hc
    · rename_i e1 e2
      cases hc
      exact sim_box hh hs ho e2 he
    · cases hc
  case h_6 t ps ho =>
    split at hc
    · rename_i z fs hz ht
      split at hc
      · rename_i hall
        obtain ⟨qs, e1, e⟩ := map_some hc
        subst e
        exact sim_build_struct hh hs ho ht hz hall e1 he
      · cases hc
    · rename_i z n e hz ht
      split at hc
      · rename_i sz hsz
        obtain ⟨qs, e1, e⟩ := map_some hc
        subst e
        exact sim_build_array hh hs ho ht hz hsz e1 he
      · cases hc
    · cases hc
  case h_7 t n ps ho =>
    split at hc
    · rename_i e ht
      split at hc
      · rename_i z hz
        split at hc
        · cases hc
        · rename_i hn
          obtain ⟨qs, e1, e⟩ := map_some hc
          subst e
          exact sim_bsl hh hs ho ht hz (fun q => hn (.inl q)) e1 he (fun q => hn (.inr q))
      · cases hc
    · cases hc
  case h_8 t x ho =>
    split at hc
    · rename_i e1 e2
      cases hc
      exact sim_ld hh hs ho e1 e2 he
    · cases hc
  case h_9 t x y ho =>
    split at hc
    · rename_i e1 e2 e3
      cases hc
      exact sim_st hh hs ho e1 e2 e3 he
    · cases hc
  case h_10 x ho =>
    obtain ⟨y, e1, e⟩ := map_some hc
    subst e
    exact sim_nck hh hs ho e1 he
  case h_11 op t x y u ho =>
    split at hc
    · rename_i x' y' e1 e2
      split at hc
      · rename_i fs ht
        split at hc
        · cases hc
        · rename_i hg
          split at hc
          · rename_i ks hk
            obtain ⟨neg, rfl, rfl⟩ := negOf_spec hc
            exact sim_eqa hh hs ho ht rfl (by simpa using hg) hk e1 e2 he
          · cases hc
      · rename_i n e ht
        split at hc
        · cases hc
        · rename_i hg
          split at hc
          · rename_i ks hk
            obtain ⟨neg, rfl, rfl⟩ := negOf_spec hc
            exact sim_eqa hh hs ho ht rfl (by simpa using hg) hk e1 e2 he
          · cases hc
      · cases hc
        exact sim_bin hh hs ho e1 e2 he
      · cases hc
        exact sim_bin hh hs ho e1 e2 he
      · rename_i ht
        obtain ⟨neg, rfl, rfl⟩ := negOf_spec hc
        exact sim_eqb hh hs ho rfl ht e1 e2 he
      · rename_i ht
        obtain ⟨neg, rfl, rfl⟩ := negOf_spec hc
        exact sim_eqn hh hs ho ht rfl (by omega) e1 e2 he
      · rename_i ht
        obtain ⟨neg, rfl, rfl⟩ := negOf_spec hc
        exact sim_eqn hh hs ho ht rfl (by omega) e1 e2 he
      · rename_i ht
        obtain ⟨neg, rfl, rfl⟩ := negOf_spec hc
        exact sim_eqn hh hs ho ht rfl (by omega) e1 e2 he
      · rename_i ht
        obtain ⟨neg, rfl, rfl⟩ := negOf_spec hc
        exact sim_eqn hh hs ho ht rfl (by omega) e1 e2 he
      · rename_i ht
        split at hc
        · rename_i hcc
          obtain ⟨neg, rfl, rfl⟩ := negOf_spec hc
          exact sim_eqn hh hs ho ht rfl (fun _ => hcc) e1 e2 he
        · cases hc
      · cases hc
    · cases hc
  case h_12 op t x ho =>
    obtain ⟨y, e1, e⟩ := map_some hc
    subst e
    exact sim_un hh hs ho e1 he
  case h_13 sT d x ho =>
    split at hc
    · rename_i ht hu e1
      cases hc
      exact sim_cnv hh hs ho ht hu e1 he
    · split at hc
      · cases hc; cases hok
      · cases hc
    · split at hc
      · cases hc; cases hok
      · cases hc
    · cases hc
  case h_14 t x ho =>
    split at hc
    · cases hc
    · rename_i d y hd ht e1
      cases hc
      exact sim_mkif hh hs ho ht (fun m q => hd _ q) e1 he
    · cases hc
  case h_15 f first caps ho =>
    split at hc
    · rename_i hf
      obtain ⟨cs, e1, e⟩ := map_some hc
      subst e
      exact sim_mkf hh hs ho hf e1 he
    · cases hc
  case h_16 ho => cases hc; cases hok
  case h_17 t l c ho =>
    split at hc
    · rename_i e ht
      split at hc
      · rename_i i z l' c' hi hz e1 e2
        split at hc
        · cases hc
        · rename_i h0
          cases hc
          exact sim_mks hh hs ho ht hi hz h0 e1 e2 he
      · cases hc
    · cases hc
  case h_18 t x lo hi mx ho =>
    split at hc
    · cases hc; cases hok
    · rename_i e x' lo' hi' mx' ht e1 e2 e3 e4
      split at hc
      · cases hc
      · rename_i hm
        obtain ⟨n, hn, e⟩ := map_some hc
        subst e
        exact sim_slc hh hs ho ht hn e1 e2 e3 e4 (mx_or e3 e4 hm) he
    · rename_i n e x' lo' hi' mx' ht e1 e2 e3 e4
      split at hc
      · cases hc
      · rename_i hm
        obtain ⟨k, hk, e⟩ := map_some hc
        subst e
        exact sim_slca hh hs ho ht hk e1 e2 e3 e4 (mx_or e3 e4 hm) he
    · cases hc
  case h_19 t x f ho =>
    split at hc
    · rename_i fs x' ht e1
      split at hc
      · rename_i fl hf
        split at hc
        · rename_i n hn
          cases hc
          exact sim_fa hh hs ho ht hf hn e1 he
        · cases hc
      · cases hc
    · cases hc
  case h_20 t x f ho =>
    split at hc
    · rename_i fs x' ht e1
      split at hc
      · rename_i fl hf
        obtain ⟨n, hn, e⟩ := map_some hc
        subst e
        exact sim_fld hh hs ho ht hf hn e1 he
      · cases hc
    · cases hc
  case h_21 t x i ho =>
    split at hc
    · rename_i e x' i' ht e1 e2
      split at hc
      · rename_i k hk
        cases hc
        exact sim_ia hh hs ho ht hk e1 e2 he (by omega)
      · cases hc
    · rename_i n e x' i' ht e1 e2
      obtain ⟨k, hk, e⟩ := map_some hc
      subst e
      exact sim_iaa hh hs ho ht hk e1 e2 he
    · cases hc
  case h_22 t x i ho =>
    split at hc
    · rename_i x' i' ht e1 e2
      cases hc
      exact sim_ixs hh hs ho ht e1 e2 he
    · rename_i n e x' i' ht e1 e2
      split at hc
      · rename_i k ag hk hag
        cases hc
        exact sim_ix hh hs ho ht hk hag e1 e2 he
      · cases hc
    · cases hc
  case h_23 t m k ok ho =>
    split at hc
    · split at hc
      · cases hc; cases hok
      · cases hc; cases hok
      · cases hc
    · cases hc
  case h_24 t m k x ho =>
    split at hc
    · split at hc
      · cases hc; cases hok
      · cases hc; cases hok
      · cases hc
    · cases hc
  case h_25 t m k x ho =>
    split at hc
    · split at hc
      · cases hc; cases hok
      · cases hc; cases hok
      · cases hc
    · cases hc
  case h_26 x i ho =>
    obtain ⟨y, e1, e⟩ := map_some hc
    subst e
    exact sim_ext hh hs ho e1 he
  case h_27 x y t ok ho =>
    split at hc
    · cases hc
    · cases hc; cases hok
    · cases hc
  case h_28 t x ho =>
    split at hc
    · cases hc; cases hok
    · cases hc
  case h_29 it ho =>
    obtain ⟨y, e1, e⟩ := map_some hc
    subst e
    cases hok
  case h_30 c ho => exact sim_call_builtin hh hs ho hc hcall hok he
  case h_31 => cases hc
end
end Go.VE
