/- What the functions of the law ModelAdmits compute, on typed arguments (part 28). -/
import Derived.Test.YtnmneadmlcpaoaaModelAdmitsA27
set_option linter.all false
namespace Go.VE.LB
open Go Go.VE
set_option maxRecDepth 100000
set_option linter.all false
set_option maxHeartbeats 4000000
theorem waitB_pos {b : Bucket} {c : Int} (hb : bkBad b = false) (ht : u64 b.t) (h : ¬ c ≤ b.lv) : 0 < waitB b c := by
  obtain ⟨B, R, P, L, T, eB, eR, eP, eL, eT, v1, v2, v3, v4, v5, v6, v7, v8⟩ := bk_nat hb
  unfold waitB
  rw [if_neg h]
  split
  · decide
  split
  · decide
  rename_i h1 h2
  rw [eR] at h2 ⊢
  rw [eP, eT, eL]
  rw [eL] at h
  simp only [Int.toNat_natCast]
  have hm : 1 * P ≤ (c - (L : Int)).toNat * P := Nat.mul_le_mul_right _ (by omega)
  have hR : 0 < R := by omega
  obtain ⟨m, hm'⟩ : ∃ m, (c - (L : Int)).toNat * P - T = m := ⟨_, rfl⟩
  rw [hm']
  have hm0 : 0 < m := by omega
  have hn : 0 < (if m % R = 0 then m / R else m / R + 1) := by
    split
    · rename_i hz
      have := Nat.div_add_mod m R
      rw [hz] at this
      rcases Nat.eq_zero_or_pos (m / R) with q | q
      · rw [q, Nat.mul_zero] at this; omega
      · exact q
    · exact Nat.succ_pos _
  generalize (if m % R = 0 then m / R else m / R + 1) = n at *
  show (0 : Int) < (if (18446744073709551615 - b.t).toNat < n then 18446744073709551615 else (n : Int))
  split
  · decide
  · omega
theorem mx_pos {a b : Int} (h : 0 < a ∨ 0 < b) (ha : 0 ≤ a) : 0 < mx a b := by
  unfold mx
  rw [ltI_dec, Bool.cond_eq_ite]
  split <;> rename_i q <;> simp only [decide_eq_true_eq] at q <;> omega
theorem mx_nn {a b : Int} (ha : 0 ≤ a) : 0 ≤ mx a b := by
  unfold mx
  rw [ltI_dec, Bool.cond_eq_ite]
  split <;> rename_i q <;> simp only [decide_eq_true_eq] at q <;> omega
theorem waitB_nn {b : Bucket} {c : Int} (hb : bkBad b = false) (ht : u64 b.t) : 0 ≤ waitB b c := by
  by_cases q : c ≤ b.lv
  · unfold waitB; rw [if_pos q]; exact Int.le_refl _
  · have := waitB_pos hb ht q; omega
theorem wait3_pos {x y z : Bucket} {c : Int} (hx : bkBad x = false) (tx : u64 x.t) (hy : bkBad y = false) (ty : u64 y.t) (hz : bkBad z = false) (tz : u64 z.t) (h : holds3 x y z c = false) : ¬ wait3 x y z c = 0 := by
  have n1 : 0 ≤ mx 0 (waitB x c) := mx_nn (Int.le_refl _)
  have n2 : 0 ≤ mx (mx 0 (waitB x c)) (waitB y c) := mx_nn n1
  have : 0 < wait3 x y z c := by
    unfold wait3
    unfold holds3 at h
    by_cases q1 : c ≤ x.lv
    · by_cases q2 : c ≤ y.lv
      · by_cases q3 : c ≤ z.lv
        · simp [q1, q2, q3] at h
        · exact mx_pos (.inr (waitB_pos hz tz q3)) n2
      · exact mx_pos (.inl (mx_pos (.inr (waitB_pos hy ty q2)) n1)) n2
    · exact mx_pos (.inl (mx_pos (.inl (mx_pos (.inr (waitB_pos hx tx q1)) (Int.le_refl _))) n1)) n2
  omega
theorem chB_l {ad : Bool} {b : Bucket} {c : Int} : (chB ad b c).l = b.l := by cases ad <;> rfl
theorem chB_ok {ad : Bool} {x y z b : Bucket} {c : Int} (hb : bkBad b = false) (h0 : 0 ≤ c) (h : ad = true → c ≤ b.lv) : bkBad (chB ad b c) = false := by
  cases ad with
  | true => exact takeB_ok hb h0 (h rfl)
  | false => exact hb
theorem wr_u16 {x : Int} (h0 : 0 ≤ x) (h : x ≤ 65535) : wr .u32 x = x := by
  obtain ⟨n, rfl⟩ := Int.eq_ofNat_of_zero_le h0
  show Int.ofNat (n % 4294967296) = _
  rw [Nat.mod_eq_of_lt (by omega)]
  rfl
theorem holds_le {x y z : Bucket} {c : Int} (h : holds3 x y z c = true) : c ≤ x.lv ∧ c ≤ y.lv ∧ c ≤ z.lv := by
  simp only [holds3, Bool.and_eq_true, decide_eq_true_eq] at h
  exact h
theorem Q_of {a : Acct} (ok : AOk a) (hu : a.users.l.length ≤ 40) (he : a.ends.l.length ≤ 40) (hr : a.rev.l.length ≤ 40) (to : u64 a.own.t) (tu : ∀ x ∈ a.users.l, u64 x.b.t) (te : ∀ x ∈ a.ends.l, u64 x.b.t) : QOk a where
  l1 := ok.l1
  l2 := ok.l2
  c0 := by have := ok.c0; have := ok.d0; omega
  c1 := by have := ok.c1; have := ok.d1; omega
  own := ok.own
  ownt := to
  us := fun x hx => ⟨((HL_of ok.us).each x hx).2.2, tu x hx⟩
  es := fun x hx => ⟨((HL_of ok.en).each x hx).2.2, te x hx⟩
  un := by omega
  en := by omega
  rn := by omega
theorem useL_mem {l : List Held} {key : Int} {lim : Limit} {t : Int} {y : Held} {m : Nat} {x : Held} {U : List Held} (ht : u64 t) (hl : ∀ x ∈ l, u64 x.b.t) (h : (useL l key lim t).take m = x :: U) : u64 x.b.t := by
  have hx : x ∈ (useL l key lim t).take m := by rw [h]; exact List.mem_cons_self
  have hx := List.mem_of_mem_take hx
  unfold useL at hx
  split at hx
  · rename_i h0 hf
    rcases List.mem_cons.1 hx with rfl | hx
    · exact hl _ (List.mem_of_find?_eq_some hf)
    · exact hl _ (List.mem_of_mem_eraseIdx hx)
  · rcases List.mem_cons.1 hx with rfl | hx
    · exact ht
    · exact hl _ hx
/-- an account that was asked is valid -/
theorem ask_ok {a b : Acct} {user ek cost tick : Int} {x y : Held} {U E : List Held} {ad : Bool} {o' x' y' : Bucket} (ok : AOk a) (q : QOk a) (ht : u64 tick) (hc : 0 ≤ cost) (hu : user ≤ 4294967295) (he : ek ≤ 65535) (r : AskR a b user ek cost tick x y U E ad o' x' y') :
    AOk b ∧ HL b.users.l a.c0.toNat a.l1 4294967295 ∧ HL b.ends.l a.c1.toNat a.l2 65535 := by
  have hU := HL_of ok.us
  have hE := HL_of ok.en
  have q0 := q.c0
  have q1 := q.c1
  have e0 : ((a.c0.toNat : Nat) : Int) = a.c0 := by omega
  have e1 : ((a.c1.toNat : Nat) : Int) = a.c1 := by omega
  obtain ⟨x1, U1, hx1, hxk, hxb, hxt⟩ := useL_cons a.users.l user a.l1 tick a.c0.toNat (by omega) ok.l1 ht q.us
  obtain ⟨y1, E1, hy1, hyk, hyb, hyt⟩ := useL_cons a.ends.l ek a.l2 tick a.c1.toNat (by omega) ok.l2 ht q.es
  rw [r.pU] at hx1
  rw [r.pE] at hy1
  injection hx1 with i1 i2
  injection hy1 with i3 i4
  subst i1 i2 i3 i4
  have vo := fillB_ok ok.own q.ownt ht
  have vx := fillB_ok hxb hxt ht
  have vy := fillB_ok hyb hyt ht
  have hu' := use_law (e0 ▸ hU : HL a.users.l (a.c0.toNat : Nat) a.l1 4294967295) hu ok.l1 (by omega) r.pU
  have he' := use_law (e1 ▸ hE : HL a.ends.l (a.c1.toNat : Nat) a.l2 65535) he ok.l2 (by omega) r.pE
  have hh : ad = true → _ := fun h => holds_le (r.pad.symm.trans h)
  have bo : bkBad o' = false := by rw [r.po]; exact chB_ok (x := a.own) (y := a.own) (z := a.own) vo.1 hc (fun h => (hh h).1)
  have bx : bkBad x' = false := by rw [r.px]; exact chB_ok (x := a.own) (y := a.own) (z := a.own) vx.1 hc (fun h => (hh h).2.1)
  have by' : bkBad y' = false := by rw [r.py]; exact chB_ok (x := a.own) (y := a.own) (z := a.own) vy.1 hc (fun h => (hh h).2.2)
  have lx : x'.l = a.l1 := by rw [r.px, chB_l, vx.2.2]; exact hu'.2.2.1
  have ly : y'.l = a.l2 := by rw [r.py, chB_l, vy.2.2]; exact he'.2.2.1
  have H1 := use_ok (e0 ▸ hU : HL a.users.l (a.c0.toNat : Nat) a.l1 4294967295) hu ok.l1 (by omega) r.pU lx bx
  have H2 := use_ok (e1 ▸ hE : HL a.ends.l (a.c1.toNat : Nat) a.l2 65535) he ok.l2 (by omega) r.pE ly by'
  rw [← r.us] at H1
  rw [← r.es] at H2
  refine ⟨⟨by rw [r.t]; exact ok.t, by rw [r.rev]; exact ok.rl, by rw [r.l0]; exact ok.l0, by rw [r.l1]; exact ok.l1, by rw [r.l2]; exact ok.l2, by rw [r.c0]; exact ok.c0, by rw [r.c0]; exact ok.d0, by rw [r.c1]; exact ok.c1, by rw [r.c1]; exact ok.d1, ?_, by rw [r.own]; exact bo, ?_, ?_, ?_⟩, H1, H2⟩
  · intro k hk
    have := r.rev
    simp only [this] at hk ⊢
    exact ok.inc k hk
  · rw [r.own, r.l0, r.po, chB_l, vo.2.2]
    exact ok.ol
  · rw [r.c0, r.l1]
    exact of_HL (e0 ▸ H1)
  · rw [r.c1, r.l2]
    exact of_HL (e1 ▸ H2)
end Go.VE.LB
