/- What the functions of the law ViewTells compute, on typed arguments (part 4). -/
import Derived.Test.YtpbggddmfgjmlaaGreatViewTellsA3
import Derived.Test.YtpbggddmfgjmlaaGreatViewTellsA2
set_option linter.all false
namespace Go.VE.LB
set_option maxRecDepth 100000
set_option maxHeartbeats 4000000
section
open Go Go.VE Classical
theorem or_iff {p n l : List Int} {hd tl : Int} (h1 : 1 ≤ p.length) (h2 : p.length ≤ 16) (h3 : n.length = p.length) (hw : walk n n.length hd [] = some l) :
  OrOk p n hd tl ↔ (p = pvs p.length l ∧ n = nvs p.length l ∧ tl = l.getLastD (-1)) := by
 constructor
 ·rintro ⟨_, _, _, l', hl, ht, hi⟩
  rw [hw] at hl
  cases hl
  refine ⟨List.ext_getElem (by rw [pvs_len]) (fun i a b => ?_), List.ext_getElem (by rw [nvs_len, h3]) (fun i a b => ?_), ht⟩
  ·simp only [pvs, List.getElem_map, List.getElem_range]
   exact (hi i a (by omega)).1
  ·simp only [nvs, List.getElem_map, List.getElem_range]
   exact (hi i (by omega) a).2
 ·rintro ⟨e1, e2, e3⟩
  refine ⟨h1, h2, h3, l, hw, e3, fun i a b => ⟨?_, ?_⟩⟩
  ·have : p[i]? = (pvs p.length l)[i]? := by rw [← e1]
   rw [List.getElem?_eq_getElem a, List.getElem?_eq_getElem (by rw [pvs_len]; exact a)] at this
   simpa [pvs] using this
  ·have : n[i]? = (nvs p.length l)[i]? := by rw [← e2]
   rw [List.getElem?_eq_getElem b, List.getElem?_eq_getElem (by rw [nvs_len]; omega)] at this
   simpa [nvs] using this
theorem pv_pre {x : Int} {t : List Int} : ∀ {a : List Int} {z : Int}, x ∈ a → pv z (a ++ t) x = pv z a x
 | y :: a, z, h => by
  simp only [List.cons_append, pv]
  by_cases q : y = x
  ·rw [if_pos q, if_pos q]
  ·rw [if_neg q, if_neg q]
   exact pv_pre (by
    rcases List.mem_cons.1 h with h | h
    ·exact absurd h.symm q
    ·exact h)
section
variable {vp : Nat → Option VFn}
theorem orR_spec {f c1 c2 c3 d1 d3 t1 : Nat} (hf : vp f = some (Zzdr c1 c2 c3)) (h1 : vp c1 = some (Zzdq d1)) (h2 : vp c2 = some (Zzdt t1)) (h3 : vp c3 = some (Zzdu d3)) (g1 : vp d1 = some Zzdi) (g3 : vp d3 = some Zzdv)
  (pr nx : Sl Int) (hd tl : Int) (h : Heap) : callRes vp f [.agg [pr.v eI, nx.v eI, .int .i64 hd, .int .i64 tl]] h = some (.int .i64 (chk (OrOk pr.l nx.l hd tl)), h) := by
 have m1 : modeOf vp c1 = some 1 := mo h1 rfl rfl
 have m2 : modeOf vp c2 = some 1 := mo h2 rfl rfl
 have m3 : modeOf vp c3 = some 1 := mo h3 rfl rfl
 refine res_pure hf rfl rfl (fun g hg => ?_)
 unfold Zzdr
 by_cases q1 : pr.l.length < 1
 ·have q1' : (pr.l.length : Int) < 1 := by omega
  have e := chk_n (p := OrOk pr.l nx.l hd tl) (fun x => by have := x.1; omega)
  simp only [↓zp, zv, seval, q1', e, frzI]
 have q1' : ¬ (pr.l.length : Int) < 1 := by omega
 by_cases q2 : 16 < pr.l.length
 ·have q2' : 16 < (pr.l.length : Int) := by omega
  have e := chk_n (p := OrOk pr.l nx.l hd tl) (fun x => by have := x.2.1; omega)
  simp only [↓zp, zv, seval, q1', q2', e, frzI]
 have q2' : ¬ 16 < (pr.l.length : Int) := by omega
 by_cases q3 : nx.l.length = pr.l.length
 case neg =>
  have q3' : ¬ (nx.l.length : Int) = (pr.l.length : Int) := by omega
  have e := chk_n (p := OrOk pr.l nx.l hd tl) (fun x => q3 x.2.2.1)
  simp only [↓zp, zv, seval, q1', q2', q3', not_false_eq_true, e, frzI]
 have q3' : ((nx.l.length : Int) = (pr.l.length : Int)) = True := eq_true (by omega)
 obtain ⟨H, hH⟩ : ∃ H, g.new (.cells [pr.v eI, nx.v eI, .int .i64 hd, .int .i64 tl] .cl) = H := ⟨_, rfl⟩
 have hb : H.get g.nx = .cells [pr.v eI, nx.v eI, .int .i64 hd, .int .i64 tl] .cl := by rw [← hH, Heap.get_new, if_pos rfl]
 obtain ⟨r, er, o, b, rfl, hr⟩ := all_spec h1 g1 pr nx hd tl H (by omega)
 rcases hr with ⟨rfl, hw⟩ | ⟨rfl, hw⟩
 case inr =>
  have e := chk_n (p := OrOk pr.l nx.l hd tl) (fun x => by obtain ⟨_, _, _, l, hl, _⟩ := x; rw [hw] at hl; cases hl)
  simp only [↓zp, zv, seval, q1', q2', q3', not_true, m1, hH, hb, er, e, frzI]
 have a1 : Acc1 nx.l.length o.l := walk_acc ⟨by simp, by simp⟩ hw
 rw [q3] at a1
 obtain ⟨r2, er2, P, N, rfl, hP, hN⟩ := made_spec h2 pr.l.length (by omega) (by omega) o a1 H
 have so := fun h => so_spec h3 g3 pr nx P N hd tl (o.l.headD (-1)) (o.l.getLastD (-1)) h (by omega) (by omega)
 have hhd : hd = o.l.headD (-1) := by
  obtain ⟨t, e, e2⟩ := walk_pre hw
  rw [e]; simpa using e2
 have iff := or_iff (tl := tl) (by omega) (by omega) q3 hw
 have hdt := eq_true hhd
 have e : chk (OrOk pr.l nx.l hd tl) = if (decide (pr.l = P.l) && (decide (nx.l = N.l) && (decide (hd = o.l.headD (-1)) && decide (tl = o.l.getLastD (-1))))) = true then 0 else 8 := by
  rw [hP, hN]
  unfold chk
  by_cases q : OrOk pr.l nx.l hd tl
  ·obtain ⟨w1, w2, w3⟩ := iff.1 q
   rw [if_pos q, if_pos (by simp only [Bool.and_eq_true, decide_eq_true_eq]; exact ⟨w1, w2, hhd, w3⟩)]
  ·rw [if_neg q, if_neg (fun w => by
    simp only [Bool.and_eq_true, decide_eq_true_eq] at w
    exact q (iff.2 ⟨w.1, w.2.1, w.2.2.2⟩))]
 cases hq : (decide (pr.l = P.l) && (decide (nx.l = N.l) && (decide (hd = o.l.headD (-1)) && decide (tl = o.l.getLastD (-1)))))
 ·rw [hq] at e
  rw [if_neg (by decide)] at e
  simp only [hq] at so
  simp only [↓zp, zv, seval, q1', q2', q3', not_true, m1, m2, m3, hH, hb, er, er2, so, e, frzI]
 ·rw [hq] at e
  rw [if_pos rfl] at e
  simp only [hq] at so
  simp only [↓zp, zv, seval, q1', q2', q3', not_true, m1, m2, m3, hH, hb, er, er2, so, e, frzI]
end
end
section
open Go Go.VE Classical
theorem rep_O : ∀ (n : Nat), rep n [V.bool false] = (List.replicate n false).flatMap eO ++ []
 | 0 => rfl
 | n + 1 => by rw [rep, rep_O n, List.replicate_succ]; rfl
theorem mks_O {e n : Nat} {h : Heap} (hn : n ≤ 1000) : r_mks e 1 [.bool false] (.int .i64 (n : Int)) (.int .i64 (n : Int)) h = some (.sl h.nx 0 n n 1, h.new (.cells ((List.replicate n false).flatMap eO ++ []) (.ct e))) := by
 have h1 : asNat (.int .i64 (n : Int)) = some n := asNatN
 have h2 : Nat.ble n n = true := by rw [ble_dec]; simp
 have h3 : Nat.ble (n * 1) 140737488355328 = true := by rw [ble_dec]; simp; omega
 have h4 : Nat.ble n 9223372036854775807 = true := by rw [ble_dec]; simp; omega
 simp only [r_mks, h1, h2, h3, h4, Bool.and_self, cond_true, rep_O, List.length_cons, List.length_nil, Nat.zero_add]
theorem r_len_sl {b o n c z : Nat} {h : Heap} : r_len (.sl b o n c z) h = some (.int .i64 (n : Int), h) := rfl
structure Lk (p n acc : List Int) (i : Int) : Prop where
 pr : ∀ x ∈ acc, p[x.toNat]? = some (pv (-1) acc x)
 nx : ∀ x ∈ acc, n[x.toNat]? = some (nv i acc x)
theorem Lk.snoc {p n acc : List Int} {k : Nat} (a : Lk p n acc k) (h1 : k < p.length) (h2 : k < n.length) (hn : (k : Int) ∉ acc) (hp : p[k] = acc.getLastD (-1)) : Lk p n (acc ++ [(k : Int)]) n[k] := by
 refine ⟨fun x hx => ?_, fun x hx => ?_⟩
 ·rw [pv_snoc x hn]
  rcases List.mem_append.1 hx with hx | hx
  ·rw [if_neg (by rintro rfl; exact hn hx)]; exact a.pr x hx
  ·rw [List.mem_singleton] at hx
   subst hx
   simp [h1, hp]
 ·rw [nv_snoc x _ hn]
  rcases List.mem_append.1 hx with hx | hx
  ·rw [if_neg (by rintro rfl; exact hn hx)]; exact a.nx x hx
  ·rw [List.mem_singleton] at hx
   subst hx
   simp [h2]
section
variable {vp : Nat → Option VFn}
def invL1 (A : List V) (p n : List Int) (hd : Int) (bx b hx hl : Nat) (tag : Tag) (m : Nat) (s : Slots) (h : Heap) : Prop :=
 ∃ acc i sn, m = n.length - acc.length ∧ Acc1 n.length acc ∧ walk n n.length hd [] = walk n (n.length - acc.length) i acc ∧ Seen (List.replicate p.length false) acc sn ∧ Lk p n acc i ∧ s.at 1 = .ptr bx 0 ∧ s.at 3 = .int .i64 (p.length : Int) ∧ s.at 4 = .sl b 0 p.length p.length 1 ∧ s.at 5 = .int .i64 (acc.getLastD (-1)) ∧ s.at 6 = .int .i64 i ∧
  h.get bx = .cells A .cl ∧ h.get b = .cells (sn.flatMap eO ++ []) tag ∧ h.nx = hx ∧ h.lo = hl
def invL2 (p n acc : List Int) (v1 w v5 : V) (H : Heap) (m : Nat) (s : Slots) (h : Heap) : Prop :=
 ∃ k, k ≤ p.length ∧ m = p.length - k ∧ s.at 1 = v1 ∧ s.at 5 = v5 ∧ s.at 62 = w ∧ s.at 63 = .int .i64 (p.length : Int) ∧ s.at 64 = .int .i64 (k : Int) ∧ h = H ∧ ∀ i (hi : i < p.length) (hn : i < n.length), i < k → acc.any (isN i) = false → p[i] = -1 ∧ n[i] = -1
theorem lrC_spec {f : Nat} (hf : vp f = some Zzay) (pr nx : Sl Int) (hd tl : Int) (h : Heap) :
  callRes vp f [.agg [pr.v eI, nx.v eI, .int .i64 hd, .int .i64 tl]] h = some (.int .i64 (chk (OrOk pr.l nx.l hd tl)), h) := by
 refine res_pure hf rfl rfl (fun g hg => ?_)
 have hlo := hlo hg
 unfold Zzay
 by_cases q1 : pr.l.length < 1
 ·have q1' : (pr.l.length : Int) < 1 := by omega
  have e := chk_n (p := OrOk pr.l nx.l hd tl) (fun x => by have := x.1; omega)
  simp only [↓zp, zv, seval, q1', e, frzI]
 have q1' : ¬ (pr.l.length : Int) < 1 := by omega
 by_cases q2 : 16 < pr.l.length
 ·have q2' : 16 < (pr.l.length : Int) := by omega
  have e := chk_n (p := OrOk pr.l nx.l hd tl) (fun x => by have := x.2.1; omega)
  simp only [↓zp, zv, seval, q1', q2', e, frzI]
 have q2' : ¬ 16 < (pr.l.length : Int) := by omega
 by_cases q3 : nx.l.length = pr.l.length
 case neg =>
  have q3' : ¬ (nx.l.length : Int) = (pr.l.length : Int) := by omega
  have e := chk_n (p := OrOk pr.l nx.l hd tl) (fun x => q3 x.2.2.1)
  simp only [↓zp, zv, seval, q1', q2', q3', not_false_eq_true, e, frzI]
 have q3' : ((nx.l.length : Int) = (pr.l.length : Int)) = True := eq_true (by omega)
 have mk := fun h => mks_O (e := 4) (n := pr.l.length) (h := h) (by omega)
 simp only [↓zp, zv, seval, q1', q2', q3', not_true, mk]
 generalize hS : Tr.set _ 6 _ = S
 have b1 : Slots.at S 1 = .ptr g.nx 0 := by rw [← hS]; simp only [zs, seval]
 have b3 : Slots.at S 3 = .int .i64 (pr.l.length : Int) := by rw [← hS]; simp only [zs, seval]
 have b4 : Slots.at S 4 = .sl (g.nx + 1) 0 pr.l.length pr.l.length 1 := by rw [← hS]; simp only [zs, seval]
 have b5 : Slots.at S 5 = .int .i64 (-1) := by rw [← hS]; simp only [zs, seval]
 have b6 : Slots.at S 6 = .int .i64 hd := by rw [← hS]; simp only [zs, seval]
 clear hS
 generalize hH : Heap.new (Heap.new g _) _ = H
 have hb : H.get g.nx = .cells [pr.v eI, nx.v eI, .int .i64 hd, .int .i64 tl] .cl := by rw [← hH]; simp only [↓zp, zv, seval]
 have og : H.get (g.nx + 1) = .cells ((List.replicate pr.l.length false).flatMap eO ++ []) (.ct 4) := by rw [← hH]; simp only [↓zp, zv, seval]
 have hb2 : H.lo = g.lo := by rw [← hH]; rfl
 clear hH
 have walkF : walk nx.l nx.l.length hd [] = walk nx.l (nx.l.length - ([] : List Int).length) hd [] := rfl
 refine loop_ind (fun m s h => invL1 [pr.v eI, nx.v eI, .int .i64 hd, .int .i64 tl] pr.l nx.l hd g.nx (g.nx + 1) H.nx g.lo (.ct 4) m s h) ?_ nx.l.length ⟨[], hd, List.replicate pr.l.length false, by simp, ⟨by simp, by simp⟩, walkF, ⟨rfl, fun j _ _ => by simp⟩, ⟨by simp, by simp⟩, b1, b3, b4, b5, b6, hb, og, rfl, hb2⟩
 clear b1 b3 b4 b5 b6 hb hb2 og mk
 rintro m s h ⟨acc, i, sn, hm, a1, hw, se, lk, c1', c3, c4, c5, c6, hga, hgb, hnx, hl⟩
 have ln := a1.len
 have lsn : sn.length = pr.l.length := by rw [se.len]; simp
 by_cases r1 : i = -1
 ·
  subst r1
  rw [walk_end] at hw
  simp only [↓zp, zv, seval, c1', c3, c4, c5, c6, hga, not_true, r_len_sl]
  generalize hS : Tr.set _ 64 _ = S
  have b1 : Slots.at S 1 = .ptr g.nx 0 := by rw [← hS]; simp only [zs, seval, c1']
  have b5 : Slots.at S 5 = .int .i64 (acc.getLastD (-1)) := by rw [← hS]; simp only [zs, seval, c5]
  have b62 : Slots.at S 62 = .sl (g.nx + 1) 0 pr.l.length pr.l.length 1 := by rw [← hS]; simp only [zs, seval]
  have b63 : Slots.at S 63 = .int .i64 (pr.l.length : Int) := by rw [← hS]; simp only [zs, seval]
  have b64 : Slots.at S 64 = .int .i64 ((0 : Nat) : Int) := by rw [← hS]; simp only [zs, seval] <;> rfl
  clear hS
  refine loop_ind (fun m s h2 => invL2 pr.l nx.l acc (.ptr g.nx 0) (.sl (g.nx + 1) 0 pr.l.length pr.l.length 1) (.int .i64 (acc.getLastD (-1))) h m s h2) ?_ pr.l.length ⟨0, by omega, by omega, b1, b5, b62, b63, b64, rfl, fun _ _ _ hj => by omega⟩
  clear b1 b5 b62 b63 b64 c1' c3 c4 c5 c6
  rintro m s h ⟨k, hk, hm, c1', c5, c62, c63, c64, rfl, hinc⟩
  by_cases hlt : k < pr.l.length
  case neg =>
   have hlt' : ¬ ((k : Int) < (pr.l.length : Int)) := by omega
   by_cases qt : tl = acc.getLastD (-1)
   ·have qt' := eq_true qt
    have e := chk_y (p := OrOk pr.l nx.l hd tl) ⟨by omega, by omega, q3, acc, hw, qt, fun i hi hn => by
     by_cases hm : (i : Int) ∈ acc
     ·have e1 := lk.pr _ hm
      have e2 := lk.nx _ hm
      simp only [Int.toNat_natCast, List.getElem?_eq_getElem hi, List.getElem?_eq_getElem hn, Option.some.injEq] at e1 e2
      exact ⟨e1, e2⟩
     ·have : acc.any (isN i) = false := by
       rw [List.any_eq_false]
       intro x hx
       simp only [isN, decide_eq_true_eq]
       rintro rfl
       exact hm hx
      have := hinc i hi hn (by omega) this
      rw [pv_out hm, nv_out hm]
      exact this⟩
    simp only [↓zp, zv, seval, c1', c5, c62, c63, c64, hga, hlt', qt', not_true, e, frzI]
   ·have e := chk_n (p := OrOk pr.l nx.l hd tl) (fun x => by
     obtain ⟨_, _, _, l, hl, ht, _⟩ := x
     rw [hw] at hl
     cases hl
     exact qt ht)
    simp only [↓zp, zv, seval, c1', c5, c62, c63, c64, hga, hlt', qt, not_false_eq_true, e, frzI]
  have hlt' : (k : Int) < (pr.l.length : Int) := by omega
  have hkn : k < nx.l.length := by omega
  have ws := wr_succ (k := k) (by omega)
  obtain ⟨a1', ia1, el1⟩ := (Rd.sl (g := h) (enc := eI) (sz := 1) pr).ia eI_len (by decide) hlt
  have ld1 := El.ld1 (cs := []) el1 (Kp.refl h)
  obtain ⟨a2, ia2, el2⟩ := (Rd.sl (g := h) (enc := eI) (sz := 1) nx).ia eI_len (by decide) hkn
  have ld2 := El.ld1 (cs := []) el2 (Kp.refl h)
  obtain ⟨p, hp⟩ := mr_pt (g.nx + 1) k 1
  have ia3 := hp.ia (n := pr.l.length) (cap := pr.l.length) hlt h
  have hs : k < sn.length := by omega
  have ld3 := hp.ld1 (j := 0) (cs := []) eO_len hgb hs (by decide) rfl
  rw [se.ats k hs (by simpa using hlt)] at ld3
  simp only [List.getElem_replicate, Bool.false_or] at ld3
  have bad : ¬ (pr.l[k] = -1 ∧ nx.l[k] = -1) → acc.any (isN k) = false → chk (OrOk pr.l nx.l hd tl) = 8 := fun hb ha => chk_n (fun x => by
   obtain ⟨_, _, _, l, hl, _, hi⟩ := x
   rw [hw] at hl
   cases hl
   have hm : (k : Int) ∉ acc := fun hm => by
    rw [List.any_eq_true.2 ⟨_, hm, by simp [isN]⟩] at ha
    cases ha
   have := hi k hlt hkn
   rw [pv_out hm, nv_out hm] at this
   exact hb this)
  have good : (acc.any (isN k) = false → pr.l[k] = -1 ∧ nx.l[k] = -1) → ∀ i (hi : i < pr.l.length) (hn : i < nx.l.length), i < k + 1 → acc.any (isN i) = false → pr.l[i] = -1 ∧ nx.l[i] = -1 := fun hg i hi hn hik => by
   rcases Nat.lt_or_ge i k with r | r
   ·exact hinc i hi hn r
   ·have : i = k := by omega
    subst this
    exact hg
  cases hi : acc.any (isN k)
  ·simp only [hi, true_implies, forall_const] at bad good
   rw [hi] at ld3
   by_cases qp : pr.l[k] = -1
   ·have qp' := eq_true qp
    by_cases qn : nx.l[k] = -1
    ·have qn' := eq_true qn
     simp only [↓zp, zv, seval, c1', c5, c62, c63, c64, hga, hlt', ia1, ld1, ia2, ld2, ia3, ld3, qp', qn', not_true, ws]
     exact ⟨_, by omega, k + 1, by omega, rfl, by simp only [zs, seval, c1'], by simp only [zs, seval, c5], by simp only [zs, seval, c62], by simp only [zs, seval, c63], by simp only [zs, seval], rfl, good ⟨qp, qn⟩⟩
    ·have e := bad (fun x => qn x.2)
     simp only [↓zp, zv, seval, c1', c5, c62, c63, c64, hga, hlt', ia1, ld1, ia2, ld2, ia3, ld3, qp', qn, not_true, not_false_eq_true, e, frzI]
   ·have e := bad (fun x => qp x.1)
    simp only [↓zp, zv, seval, c1', c5, c62, c63, c64, hga, hlt', ia1, ld1, ia3, ld3, qp, not_false_eq_true, e, frzI]
  ·rw [hi] at ld3
   simp only [↓zp, zv, seval, c1', c5, c62, c63, c64, hlt', ia3, ld3, ws]
   exact ⟨_, by omega, k + 1, by omega, rfl, by simp only [zs, seval, c1'], by simp only [zs, seval, c5], by simp only [zs, seval, c62], by simp only [zs, seval, c63], by simp only [zs, seval], rfl, good (fun hf => by rw [hi] at hf; cases hf)⟩
 have never : walk nx.l nx.l.length hd [] = none → chk (OrOk pr.l nx.l hd tl) = 8 := fun hw => chk_n (fun x => by obtain ⟨_, _, _, l, hl, _⟩ := x; rw [hw] at hl; cases hl)
 by_cases r2 : i < 0
 ·rw [walk_bad r1 (.inl r2)] at hw
  have e := never hw
  simp only [↓zp, zv, seval, c1', c3, c4, c5, c6, r1, not_false_eq_true, r2, e, frzI]
 by_cases r3 : (pr.l.length : Int) ≤ i
 ·rw [walk_bad r1 (.inr (.inl (by omega)))] at hw
  have e := never hw
  simp only [↓zp, zv, seval, c1', c3, c4, c5, c6, r1, not_false_eq_true, r2, r3, e, frzI]
 obtain ⟨k, rfl⟩ : ∃ k : Nat, i = k := ⟨i.toNat, by omega⟩
 have hk : k < nx.l.length := by omega
 have hlt : k < pr.l.length := by omega
 obtain ⟨p, hp⟩ := mr_pt (g.nx + 1) k 1
 have ia3 := fun h => hp.ia (n := pr.l.length) (cap := pr.l.length) hlt h
 have hs : k < sn.length := by omega
 have ld3 := hp.ld1 (j := 0) (cs := []) eO_len hgb hs (by decide) rfl
 rw [se.ats k hs (by simpa using hlt)] at ld3
 simp only [List.getElem_replicate, Bool.false_or] at ld3
 cases hac : acc.any (isN k)
 case true =>
  rw [hac] at ld3
  have e : chk (OrOk pr.l nx.l hd tl) = 8 := by
   obtain ⟨x, hx, hxk⟩ := List.any_eq_true.1 hac
   simp only [isN, decide_eq_true_eq] at hxk
   subst hxk
   rw [walk_bad r1 (.inr (.inr hx))] at hw
   exact never hw
  simp only [↓zp, zv, seval, c1', c3, c4, c5, c6, r1, not_false_eq_true, r2, r3, ia3, ld3, e, frzI]
 rw [hac] at ld3
 have hni : ¬ (k : Int) ∈ acc := fun hm => by
  rw [List.any_eq_true.2 ⟨_, hm, by simp [isN]⟩] at hac
  cases hac
 have a2 := a1.snoc (by omega) (by omega) hni
 have ln2 := a2.len
 simp only [List.length_append, List.length_singleton] at ln2
 rw [walk_step a1 r1 (by simp only [not_or]; exact ⟨r2, by omega, hni⟩)] at hw
 have e5 : (nx.l[((k : Int)).toNat]?).getD 0 = nx.l[k] := by simp [hk]
 rw [e5] at hw
 obtain ⟨a1', ia1, el1⟩ := (Rd.sl (g := h) (enc := eI) (sz := 1) pr).ia eI_len (by decide) hlt
 have ld1 := El.ld1 (cs := []) el1 (Kp.refl h)
 by_cases qp : pr.l[k] = acc.getLastD (-1)
 case neg =>
  have e := chk_n (p := OrOk pr.l nx.l hd tl) (fun x => by
   obtain ⟨_, _, _, l, hl, _, hi⟩ := x
   rw [hw] at hl
   obtain ⟨t, rfl, _⟩ := walk_pre hl
   have := (hi k hlt hk).1
   rw [pv_pre (by simp), pv_snoc _ hni, if_pos rfl] at this
   exact qp this)
  simp only [↓zp, zv, seval, c1', c3, c4, c5, c6, r1, not_false_eq_true, r2, r3, ia3, ld3, hga, ia1, ld1, qp, e, frzI]
 have qp' := eq_true qp
 have st := hp.st (j := 0) (n := 1) (v := .bool true) (new := [.bool true]) eO_len hgb hs (by omega) true rfl rfl (by decide) (by decide) rfl rfl
 obtain ⟨H2, hH2⟩ : ∃ H2, h.set (g.nx + 1) (.cells ((sn.set k true).flatMap eO ++ []) (.ct 4)) = H2 := ⟨_, rfl⟩
 rw [hH2] at st
 have ga2 : H2.get g.nx = .cells [pr.v eI, nx.v eI, .int .i64 hd, .int .i64 tl] .cl := by rw [← hH2, Heap.get_set, if_neg (by omega), hga]
 have gb2 : H2.get (g.nx + 1) = .cells ((sn.set k true).flatMap eO ++ []) (.ct 4) := by rw [← hH2, Heap.get_set, if_pos rfl]
 have nx2 : H2.nx = H.nx := by rw [← hH2]; exact hnx
 have lo2 : H2.lo = g.lo := by rw [← hH2]; exact hl
 obtain ⟨a, ia, el⟩ := (Rd.sl (g := H2) (enc := eI) (sz := 1) nx).ia eI_len (by decide) hk
 have ld := El.ld1 (cs := []) el (Kp.refl H2)
 simp only [↓zp, zz, zy, zw, r_st_p, r_nck_p, seval, c1', c3, c4, c5, c6, r1, not_false_eq_true, r2, r3, ia3, ld3, hga, ia1, ld1, qp', not_true, st, ga2, ia, ld]
 exact ⟨nx.l.length - (acc.length + 1), by omega, acc ++ [(k : Int)], nx.l[k], sn.set k true, by simp, a2, hw, se.set, lk.snoc hlt hk hni qp, by simp only [zs, seval, c1'], by simp only [zs, seval, c3], by simp only [zs, seval, c4], by simp only [zs, seval]; simp, by simp only [zs, seval], ga2, gb2, nx2, lo2⟩
end
end
section
open Go Go.VE Classical
def lst (n : List Int) (hd : Int) : List Int := (walk n n.length hd []).getD []
def ListIs (p n : List Int) (hd tl : Int) (r : V) : Prop := ∃ o : Sl Int, r = .tup [o.v eI, .int .i64 (chk (OrOk p n hd tl))] ∧ (OrOk p n hd tl → o.l = lst n hd)
theorem OrOk.lst {p n : List Int} {hd tl : Int} (h : OrOk p n hd tl) : walk n n.length hd [] = some (LB.lst n hd) := by
 obtain ⟨_, _, _, l, hl, _⟩ := h
 unfold LB.lst
 rw [hl]
 rfl
theorem OrOk.acc {p n : List Int} {hd tl : Int} (h : OrOk p n hd tl) : Acc1 p.length (LB.lst n hd) := by
 have := walk_acc ⟨by simp, by simp⟩ h.lst
 rwa [h.2.2.1] at this
section
variable {vp : Nat → Option VFn}
def invLL (A : List V) (nx l : List Int) (bx lo : Nat) (m : Nat) (s : Slots) (h : Heap) : Prop :=
 ∃ acc i, m = nx.length - acc.length ∧ Acc1 nx.length acc ∧ walk nx (nx.length - acc.length) i acc = some l ∧ s.at 1 = .ptr bx 0 ∧ s.at 6 = .int .i64 i ∧ h.get bx = .cells A .cl ∧ h.lo = lo ∧ lo ≤ h.nx ∧ bx < h.nx ∧ ∃ v, s.at 5 = v ∧ Acc eI 1 h v acc
theorem lrL_spec {f c1 : Nat} (hf : vp f = some (Zzaz c1)) (h1 : vp c1 = some Zzay) (pr nx : Sl Int) (hd tl : Int) (h : Heap) :
  ∃ r, callRes vp f [.agg [pr.v eI, nx.v eI, .int .i64 hd, .int .i64 tl]] h = some (r, h) ∧ ListIs pr.l nx.l hd tl r := by
 have m1 : modeOf vp c1 = some 1 := mo h1 rfl rfl
 have ck := fun h => lrC_spec h1 pr nx hd tl h
 refine res_pure_ex hf rfl rfl (fun g hg => ?_)
 have hlo := hlo hg
 have hge : g.lo = g.nx := by
  rcases hg with ⟨rfl, _⟩ | ⟨e1, e2, _⟩
  ·rfl
  ·omega
 unfold Zzaz
 by_cases q : OrOk pr.l nx.l hd tl
 case neg =>
  have e := chk_n q
  simp only [↓zp, zv, seval, m1, ck, e]
  exact ⟨_, rfl, .nil, by rw [e]; rfl, fun h => absurd h q⟩
 have e := chk_y q
 have hw := q.lst
 have hn : nx.l.length ≤ 16 := by have := q.2.1; have := q.2.2.1; omega
 simp only [↓zp, zv, seval, m1, ck, e, not_true]
 generalize hS : Tr.set _ 6 _ = S
 have b1 : Slots.at S 1 = .ptr g.nx 0 := by rw [← hS]; simp only [zs, seval]
 have b5 : Slots.at S 5 = .nils := by rw [← hS]; simp only [zs, seval]
 have b6 : Slots.at S 6 = .int .i64 hd := by rw [← hS]; simp only [zs, seval]
 clear hS
 generalize hH : Heap.new g _ = H
 have hb : H.get g.nx = .cells [pr.v eI, nx.v eI, .int .i64 hd, .int .i64 tl] .cl := by rw [← hH, Heap.get_new, if_pos rfl]
 have hl : H.lo = g.lo := by rw [← hH]; rfl
 have hn2 : g.nx < H.nx := by rw [← hH]; simp [Heap.new]
 clear hH
 have walkF : walk nx.l nx.l.length hd [] = walk nx.l (nx.l.length - ([] : List Int).length) hd [] := rfl
 refine loop_ind (fun m s h => invLL [pr.v eI, nx.v eI, .int .i64 hd, .int .i64 tl] nx.l (LB.lst nx.l hd) g.nx g.lo m s h) ?_ nx.l.length ⟨[], hd, by simp, ⟨by simp, by simp⟩, walkF ▸ hw, b1, b6, hb, hl, by omega, hn2, .nils, b5, Acc.nil⟩
 rintro m s h ⟨acc, i, hm, a1, hw, c1, c6, hbh, hlh, hnh, hbn, v, c5, ac⟩
 have ln := a1.len
 by_cases q1 : i = -1
 ·subst q1
  rw [walk_end] at hw
  obtain ⟨o, ol, of⟩ := Acc.fz (base := g.nx) eI_len eI_scal ac (by omega)
  simp only [↓zp, zv, seval, c1, c5, c6, hbh, not_true]
  exact ⟨_, fzTx rfl (of.le (by omega)), o, by rw [e], fun _ => by rw [ol]; exact Option.some.inj hw⟩
 by_cases q2 : i < 0 ∨ (nx.l.length : Int) ≤ i ∨ i ∈ acc
 ·rw [walk_bad q1 q2] at hw
  cases hw
 have q2' := q2
 simp only [not_or, Int.not_lt, Int.not_le] at q2'
 obtain ⟨k, rfl⟩ : ∃ k : Nat, i = k := ⟨i.toNat, by omega⟩
 have hk : k < nx.l.length := by omega
 have a2 := a1.snoc (by omega) (by omega) q2'.2.2
 have ln2 := a2.len
 simp only [List.length_append, List.length_singleton] at ln2
 rw [walk_step a1 q1 q2] at hw
 have e5 : (nx.l[((k : Int)).toNat]?).getD 0 = nx.l[k] := by simp [hk]
 rw [e5] at hw
 obtain ⟨v', h', e1, e2, e3⟩ := push eI_len eI_one (bytes := 8) ac (by omega) (k : Int) (by omega)
 have hb' : h'.get g.nx = _ := (e2.get _ hbn (by rw [hbh]; intro cs q; cases q)).trans hbh
 obtain ⟨a, ia, el⟩ := (Rd.sl (g := h') (enc := eI) (sz := 1) nx).ia eI_len (by decide) hk
 have ld := El.ld1 (cs := []) el (Kp.refl h')
 simp only [eI] at e1
 simp only [↓zp, zv, seval, c1, c5, c6, hbh, q1, not_false_eq_true, e1, hb', ia, ld]
 have lo2 := e2.lo
 have nx2 := e2.nx
 exact ⟨nx.l.length - (acc.length + 1), by omega, acc ++ [(k : Int)], nx.l[k], by simp, a2, hw, by simp only [zs, seval, c1], by simp only [zs, seval], hb', by omega, by omega, by omega, v', by simp only [zs, seval], e3⟩
def invIx (n : Int) (v : V) (l : List Int) (H : Heap) (m : Nat) (s : Slots) (h : Heap) : Prop :=
 ∃ k, k ≤ l.length ∧ m = l.length - k ∧ s.at 0 = v ∧ s.at 1 = .int .i64 n ∧ s.at 7 = .int .i64 (l.length : Int) ∧ s.at 8 = .int .i64 (k : Int) ∧ h = H ∧ ∀ j (hj : j < l.length), j < k → isN n l[j] = false
theorem ix_spec {f : Nat} (hf : vp f = some Zzcl) (v : V) (l : List Int) (n : Int) (h : Heap) (hv : Rd eI 1 h v l) (hn : l.length < 4611686018427387904) : callRes vp f [v, .int .i64 n] h = some (.int .i64 (fidx (isN n) l), h) := by
 refine res_pure hf rfl rfl (fun g hg => ?_)
 have hv := hv.enter (A := fun v => [v, .int .i64 n]) hg (fun _ _ _ _ => rfl)
 have ln := hv.len
 unfold Zzcl
 simp only [↓zp, zv, seval, ln]
 generalize hS : Tr.set _ 8 _ = S
 have b0 : Slots.at S 0 = v := by rw [← hS]; simp only [zs, seval]
 have b1 : Slots.at S 1 = .int .i64 n := by rw [← hS]; simp only [zs, seval]
 have b7 : Slots.at S 7 = .int .i64 (l.length : Int) := by rw [← hS]; simp only [zs, seval]
 have b8 : Slots.at S 8 = .int .i64 ((0 : Nat) : Int) := by rw [← hS]; simp only [zs, seval] <;> rfl
 clear hS
 refine loop_ind (fun m s h => invIx n v l g m s h) ?_ l.length ⟨0, by omega, by omega, b0, b1, b7, b8, rfl, fun j _ hj => by omega⟩
 rintro m s h ⟨k, hk, hm, c0, c1, c7, c8, rfl, hinc⟩
 by_cases hlt : k < l.length
 case neg =>
  have hlt' : ¬ ((k : Int) < (l.length : Int)) := by omega
  have e := fidx_none (q := isN n) (l := l) (fun j hj => hinc j hj (by omega))
  simp only [↓zp, zv, seval, c0, c1, c7, c8, hlt', e, frzI]
 have hlt' : (k : Int) < (l.length : Int) := by omega
 have ws := wr_succ (k := k) (by omega)
 obtain ⟨a, ia, el⟩ := hv.ia eI_len (by decide) hlt
 have ld := El.ld1 (cs := []) el (Kp.refl h)
 by_cases q : n = l[k]
 ·have e := fidx_at (q := isN n) hlt (by simp [isN, q]) (fun j hj hjk => hinc j hj hjk)
  have q' := eq_true q
  simp only [↓zp, zv, seval, c0, c1, c7, c8, hlt', ia, ld, q', e, frzI]
 ·simp only [↓zp, zv, seval, c0, c1, c7, c8, hlt', ia, ld, q, ws]
  refine ⟨_, by omega, k + 1, by omega, rfl, by simp only [zs, seval, c0], by simp only [zs, seval, c1], by simp only [zs, seval, c7], by simp only [zs, seval], rfl, fun j hj hj2 => ?_⟩
  rcases Nat.lt_or_ge j k with r | r
  ·exact hinc j hj r
  ·have : j = k := by omega
   subst this
   simp [isN, Ne.symm q]
theorem ct_spec {f c1 : Nat} (hf : vp f = some (Zzcc c1)) (h1 : vp c1 = some Zzcl) (v : V) (l : List Int) (n : Int) (h : Heap) (hv : Rd eI 1 h v l) (hn : l.length < 4611686018427387904) : callRes vp f [v, .int .i64 n] h = some (.bool (l.any (isN n)), h) := by
 have m1 : modeOf vp c1 = some 1 := mo h1 rfl rfl
 refine res_pure hf rfl rfl (fun g hg => ?_)
 have hv := hv.enter (A := fun v => [v, .int .i64 n]) hg (fun _ _ _ _ => rfl)
 have ix := ix_spec h1 v l n g hv hn
 unfold Zzcc
 rw [← fidx_any]
 simp only [↓zp, zv, seval, m1, ix, frzB]
end
end
section
open Go Go.VE Classical
structure K32 where
 a : Nat
 ok : a < 4294967296
def eK (k : K32) : List V := [.int .u32 (k.a : Int)]
structure Cell where
 k : K32
 p : Int
 u : Bool
def eC (c : Cell) : List V := [.int .u32 (c.k.a : Int), .int .i64 c.p, .bool c.u]
theorem eK_len (k : K32) : (eK k).length = 1 := rfl
theorem eC_len (c : Cell) : (eC c).length = 3 := rfl
theorem eK_scal (k : K32) : (eK k).all VE.scal = true := rfl
theorem eC_scal (c : Cell) : (eC c).all VE.scal = true := rfl
def home (a : Nat) : Nat := a * 2654435769 % 4294967296 / 268435456
theorem home_lt (a : Nat) : home a < 16 := by unfold home; omega
theorem bo_mul {k : IntKind} {a b : Int} : VE.binOp .mul (.int k a) (.int k b) = some (.int k (wr k (a * b))) := by simp only [VE.binOp, kEq_refl, cond_true, binInt]
theorem wr_u32 (a : Nat) : wr .u32 (a : Int) = ((a % 4294967296 : Nat) : Int) := rfl
theorem wr_u64 (a : Nat) : wr .u64 (a : Int) = ((a % 18446744073709551616 : Nat) : Int) := rfl
theorem bo_shr {a : Nat} : VE.binOp .shr (.int .u32 (a : Int)) (.int .u64 28) = some (.int .u32 ((a / 268435456 : Nat) : Int)) := by
 show some (V.int .u32 (Int.ofNat (a / 2 ^ Nat.min 28 (IntKind.u32).bits))) = _
 rfl
theorem bo_and : ∀ {k : Nat}, k ≤ 16 → VE.binOp .and (.int .i64 (k : Int)) (.int .i64 15) = some (.int .i64 ((k % 16 : Nat) : Int))
 | 0, _ => rfl
 | 1, _ => rfl
 | 2, _ => rfl
 | 3, _ => rfl
 | 4, _ => rfl
 | 5, _ => rfl
 | 6, _ => rfl
 | 7, _ => rfl
 | 8, _ => rfl
 | 9, _ => rfl
 | 10, _ => rfl
 | 11, _ => rfl
 | 12, _ => rfl
 | 13, _ => rfl
 | 14, _ => rfl
 | 15, _ => rfl
 | 16, _ => rfl
 | n + 17, h => by omega
theorem bo_rem {k : Nat} : VE.binOp .rem (.int .i64 (k : Int)) (.int .i64 16) = some (.int .i64 ((k % 16 : Nat) : Int)) := rfl
theorem bo_rem32 {k : Nat} : VE.binOp .rem (.int .u64 (k : Int)) (.int .u64 4294967296) = some (.int .u64 ((k % 4294967296 : Nat) : Int)) := rfl
theorem bo_quo28 {k : Nat} (h : k < 4294967296) : VE.binOp .quo (.int .u64 (k : Int)) (.int .u64 268435456) = some (.int .u64 ((k / 268435456 : Nat) : Int)) := by
 show some (V.int .u64 (wr .u64 ((k / 268435456 : Nat) : Int))) = _
 rw [wr_u64, Nat.mod_eq_of_lt (by omega)]
theorem castM (a : Nat) : (a : Int) * 2654435769 = ((a * 2654435769 : Nat) : Int) := by rw [Int.natCast_mul]; rfl
section
variable {vp : Nat → Option VFn}
theorem home7_spec {f : Nat} (hf : vp f = some Zzbg) (k : K32) (h : Heap) : callRes vp f [.int .u32 (k.a : Int)] h = some (.int .i64 (home k.a : Int), h) := by
 refine res_pure hf rfl rfl (fun g hg => ?_)
 unfold Zzbg
 have e : wr .i64 ((k.a * 2654435769 % 4294967296 / 268435456 : Nat) : Int) = ((home k.a : Nat) : Int) := wr_i64 (by omega) (by have := home_lt k.a; unfold home at this; omega)
 simp only [↓zp, zv, seval, bo_mul, castM, wr_u32, bo_shr, e, frzI]
theorem home8_spec {f : Nat} (hf : vp f = some Zzdo) (k : K32) (h : Heap) : callRes vp f [.int .u32 (k.a : Int)] h = some (.int .i64 (home k.a : Int), h) := by
 refine res_pure hf rfl rfl (fun g hg => ?_)
 unfold Zzdo
 have ok := k.ok
 have e0 : wr .u64 (k.a : Int) = (k.a : Int) := by rw [wr_u64, Nat.mod_eq_of_lt (by omega)]
 have e1 : wr .u64 ((k.a * 2654435769 : Nat) : Int) = ((k.a * 2654435769 : Nat) : Int) := by rw [wr_u64, Nat.mod_eq_of_lt (by omega)]
 have e : wr .i64 ((k.a * 2654435769 % 4294967296 / 268435456 : Nat) : Int) = ((home k.a : Nat) : Int) := wr_i64 (by omega) (by have := home_lt k.a; unfold home at this; omega)
 have q : VE.binOp .quo (.int .u64 ((k.a * 2654435769 % 4294967296 : Nat) : Int)) (.int .u64 268435456) = _ := bo_quo28 (Nat.mod_lt _ (by decide))
 simp only [↓zp, zv, seval, e0, bo_mul, castM, e1, bo_rem32, q, e, frzI]
theorem wrap_spec {f : Nat} (hf : vp f = some Zzbi) {k : Nat} (hk : k ≤ 16) (h : Heap) : callRes vp f [.int .i64 (k : Int)] h = some (.int .i64 ((k % 16 : Nat) : Int), h) := by
 refine res_pure hf rfl rfl (fun g hg => ?_)
 unfold Zzbi
 have e := bo_and hk
 simp only [↓zp, zv, seval, e, frzI]
end
def cel (x : List Cell) (i : Nat) : Cell := (x[i]?).getD ⟨⟨0, by decide⟩, 0, false⟩
theorem cel_eq {x : List Cell} {i : Nat} (h : i < x.length) : cel x i = x[i] := by simp [cel, h]
def stp (x : List Cell) (key : Nat) (i : Nat) : Bool := !(cel x i).u || decide ((cel x i).k.a = key)
def LookIs (x : List Cell) (key k : Nat) : Prop := ∃ d, d < 16 ∧ k = (home key + d) % 16 ∧ (∀ e, e < d → stp x key ((home key + e) % 16) = false) ∧ stp x key k = true
theorem LookIs.uniq {x : List Cell} {key k k' : Nat} (a : LookIs x key k) (b : LookIs x key k') : k = k' := by
 obtain ⟨d, _, rfl, a1, a2⟩ := a
 obtain ⟨d', _, rfl, b1, b2⟩ := b
 rcases Nat.lt_trichotomy d d' with h | h | h
 ·rw [b1 d h] at a2; cases a2
 ·rw [h]
 ·rw [a1 d' h] at b2; cases b2
theorem LookIs.lt {x : List Cell} {key k : Nat} (a : LookIs x key k) : k < 16 := by
 obtain ⟨d, _, rfl, _⟩ := a
 omega
def Gap (x : List Cell) : Prop := ∃ j, j < 16 ∧ (cel x j).u = false
theorem Gap.at {x : List Cell} (g : Gap x) (key : Nat) : ∃ D, D < 16 ∧ stp x key ((home key + D) % 16) = true := by
 obtain ⟨j, hj, hu⟩ := g
 have := home_lt key
 refine ⟨(j + 16 - home key) % 16, by omega, ?_⟩
 have e : (home key + (j + 16 - home key) % 16) % 16 = j := by omega
 rw [e]
 simp [stp, hu]
theorem gap_of {x : List Cell} (h1 : x.length = 16) (h2 : x.countP (·.u) ≤ 12) : Gap x := by
 apply Classical.byContradiction
 intro hn
 have : ∀ c ∈ x, c.u = true := fun c hc => by
  obtain ⟨i, hi, rfl⟩ := List.mem_iff_getElem.1 hc
  cases hu : x[i].u
  ·exact absurd ⟨i, by omega, by rw [cel_eq hi, hu]⟩ hn
  ·rfl
 have e := (List.countP_eq_length (p := fun c : Cell => c.u)).2 this
 omega
section
variable {vp : Nat → Option VFn}
def invLk (x : Sl Cell) (key D : Nat) (H : Heap) (m : Nat) (s : Slots) (h : Heap) : Prop :=
 ∃ d, d ≤ D ∧ m = D - d ∧ (∀ e, e < d → stp x.l key ((home key + e) % 16) = false) ∧ s.at 0 = x.v eC ∧ s.at 1 = .int .u32 (key : Int) ∧ s.at 4 = .int .i64 (((home key + d) % 16 : Nat) : Int) ∧ s.at 5 = .int .i64 (d : Int) ∧ h = H
theorem look_spec {f c1 c2 : Nat} (hf : vp f = some (Zzbh c1 c2)) (h1 : vp c1 = some Zzbg) (h2 : vp c2 = some Zzbi) (x : Sl Cell) (key : K32) (h : Heap) (hx : x.l.length = 16) (hg : Gap x.l) :
  ∃ k d : Nat, callRes vp f [x.v eC, .int .u32 (key.a : Int)] h = some (.tup [.int .i64 (k : Int), .int .i64 (d : Int)], h) ∧ LookIs x.l key.a k := by
 have m1 : modeOf vp c1 = some 1 := mo h1 rfl rfl
 have m2 : modeOf vp c2 = some 1 := mo h2 rfl rfl
 have hm := fun h => home7_spec h1 key h
 have hk := home_lt key.a
 obtain ⟨D, hD, hDs⟩ := hg.at key.a
 suffices hs : ∃ r, callRes vp f [x.v eC, .int .u32 (key.a : Int)] h = some (r, h) ∧ ∃ k d : Nat, r = .tup [.int .i64 (k : Int), .int .i64 (d : Int)] ∧ LookIs x.l key.a k by
  obtain ⟨r, e, k, d, rfl, l⟩ := hs
  exact ⟨k, d, e, l⟩
 refine res_pure_ex hf rfl rfl (fun g hg => ?_)
 unfold Zzbh
 simp only [↓zp, zv, seval, m1, hm]
 generalize hS : Tr.set _ 4 _ = S
 have b0 : Slots.at S 0 = x.v eC := by rw [← hS]; simp only [zs, seval]
 have b1 : Slots.at S 1 = .int .u32 (key.a : Int) := by rw [← hS]; simp only [zs, seval]
 have b4 : Slots.at S 4 = .int .i64 (((home key.a + 0) % 16 : Nat) : Int) := by rw [← hS]; simp only [zs, seval]; rw [Nat.add_zero, Nat.mod_eq_of_lt hk]
 have b5 : Slots.at S 5 = .int .i64 ((0 : Nat) : Int) := by rw [← hS]; simp only [zs, seval] <;> rfl
 clear hS
 refine loop_ind (fun m s h => invLk x key.a D g m s h) ?_ D ⟨0, by omega, by omega, fun e he => by omega, b0, b1, b4, b5, rfl⟩
 rintro m s h ⟨d, hd, hmm, hst, c0, c1', c4, c5, rfl⟩
 obtain ⟨i, hi⟩ : ∃ i, (home key.a + d) % 16 = i := ⟨_, rfl⟩
 rw [hi] at c4
 have hi16 : i < x.l.length := by omega
 have ia1 : ∀ h, r_ia 3 (x.v eC) (.int .i64 (i : Int)) h = some (.iptr (.int .u32 (x.l[i].k.a : Int) :: .int .i64 x.l[i].p :: .bool x.l[i].u :: (x.l.drop (i + 1)).flatMap eC), h) := fun h => by rw [r_ia_v eC_len (by decide) hi16 rfl]; rfl
 have ce := cel_eq hi16
 have ws := wr_succ (k := d) (by omega)
 cases hu : x.l[i].u
 ·simp only [↓zp, zv, seval, c0, c1', c4, c5, ia1, hu, ws]
  refine ⟨_, frz_tup2 (n := 999996) rfl rfl, i, d + 1, rfl, d, by omega, hi.symm, hst, ?_⟩
  simp [stp, ce, hu]
 by_cases hk2 : x.l[i].k.a = key.a
 ·have hk3 : ((x.l[i].k.a : Int) = (key.a : Int)) = True := eq_true (by omega)
  simp only [↓zp, zv, seval, c0, c1', c4, c5, ia1, hu, hk3, not_true, ws]
  refine ⟨_, frz_tup2 (n := 999996) rfl rfl, i, d + 1, rfl, d, by omega, hi.symm, hst, ?_⟩
  simp [stp, ce, hk2]
 have hk3 : ¬ ((x.l[i].k.a : Int) = (key.a : Int)) := by omega
 have ns : stp x.l key.a ((home key.a + d) % 16) = false := by rw [hi]; simp [stp, ce, hu, hk2]
 have hdD : d < D := by
  rcases Nat.lt_or_ge d D with r | r
  ·exact r
  ·have : d = D := by omega
   rw [this, hDs] at ns
   cases ns
 have wi := wr_succ (k := i) (by omega)
 have wp := fun h => wrap_spec h2 (k := i + 1) (by omega) h
 simp only [↓zp, zv, seval, c0, c1', c4, c5, ia1, hu, hk3, not_false_eq_true, ws, wi, m2, wp]
 have e2 : (i + 1) % 16 = (home key.a + (d + 1)) % 16 := by omega
 rw [e2]
 refine ⟨D - (d + 1), by omega, d + 1, by omega, rfl, fun e he => ?_, by simp only [zs, seval, c0], by simp only [zs, seval, c1'], by simp only [zs, seval], by simp only [zs, seval], rfl⟩
 rcases Nat.lt_or_ge e d with r | r
 ·exact hst e r
 ·have : e = d := by omega
  rw [this]
  exact ns
end
end
section
open Go Go.VE Classical
def CC (x : List Cell) (i : Nat) : Prop := ((cel x i).u = false → (cel x i).k.a = 0 ∧ (cel x i).p = 0) ∧ ((cel x i).u = true → 0 ≤ (cel x i).p ∧ (cel x i).p < 16 ∧ LookIs x (cel x i).k.a i)
def IxOk (x : List Cell) : Prop := x.length = 16 ∧ x.countP (fun c => c.u) ≤ 12 ∧ ∀ i, i < 16 → CC x i
theorem IxOk.gap {x : List Cell} (o : IxOk x) : Gap x := gap_of o.1 o.2.1
def isC (key : Nat) (c : Cell) : Bool := c.u && decide (c.k.a = key)
def RC (x : List Cell) (i : Nat) : Prop := ((cel x i).u = false → (cel x i).k.a = 0 ∧ (cel x i).p = 0) ∧ ((cel x i).u = true → 0 ≤ (cel x i).p ∧ (cel x i).p < 16 ∧ fidx (isC (cel x i).k.a) x = i ∧ ∀ d, d < (i + 16 - home (cel x i).k.a) % 16 → (cel x ((home (cel x i).k.a + d) % 16)).u = true)
theorem LookIs.key {x : List Cell} {i j : Nat} (h1 : LookIs x (cel x i).k.a i) (h2 : LookIs x (cel x j).k.a j) (e : (cel x i).k.a = (cel x j).k.a) : i = j := by
 rw [← e] at h2
 exact h1.uniq h2
theorem cc_rc {x : List Cell} (hx : x.length = 16) : (∀ i, i < 16 → CC x i) ↔ ∀ i, i < 16 → RC x i := by
 constructor
 ·intro H i hi
  refine ⟨(H i hi).1, fun hu => ?_⟩
  obtain ⟨p1, p2, lk⟩ := (H i hi).2 hu
  refine ⟨p1, p2, ?_, ?_⟩
  ·refine fidx_at (q := isC (cel x i).k.a) (by omega) (by rw [← cel_eq (by omega)]; simp [isC, hu]) (fun j hj hji => ?_)
   rw [← cel_eq hj]
   cases hq : isC (cel x i).k.a (cel x j)
   ·rfl
   ·simp only [isC, Bool.and_eq_true, decide_eq_true_eq] at hq
    have lj := ((H j (by omega)).2 hq.1).2.2
    have := lj.key lk hq.2
    omega
  ·obtain ⟨d, hd, e, h1, h2⟩ := lk
   have := home_lt (cel x i).k.a
   intro d' hd'
   have h3 := h1 d' (by omega)
   simp only [stp, Bool.or_eq_false_iff, Bool.not_eq_false'] at h3
   exact h3.1
 ·intro H i hi
  refine ⟨(H i hi).1, fun hu => ?_⟩
  obtain ⟨p1, p2, at_, ch⟩ := (H i hi).2 hu
  have hh := home_lt (cel x i).k.a
  refine ⟨p1, p2, (i + 16 - home (cel x i).k.a) % 16, by omega, by omega, fun e he => ?_, by simp [stp]⟩
  have h1 := ch e he
  have hj : (home (cel x i).k.a + e) % 16 < 16 := by omega
  generalize hjj : (home (cel x i).k.a + e) % 16 = j at h1 hj
  cases hs : stp x (cel x i).k.a j
  ·rfl
  ·simp only [stp, h1, Bool.not_true, Bool.false_or, decide_eq_true_eq] at hs
   have h2 := ((H j hj).2 h1).2.2.1
   rw [hs, at_] at h2
   omega
section
variable {vp : Nat → Option VFn}
def invCn (x : Sl Cell) (H : Heap) (m : Nat) (s : Slots) (h : Heap) : Prop :=
 ∃ k, k ≤ x.l.length ∧ m = x.l.length - k ∧ s.at 0 = x.v eC ∧ s.at 3 = .int .i64 (((x.l.take k).countP (fun c => c.u) : Nat) : Int) ∧ s.at 4 = .int .i64 (k : Int) ∧ h = H
theorem cn_le {x : List Cell} {k : Nat} : (x.take k).countP (fun c => c.u) ≤ x.length := Nat.le_trans List.countP_le_length (by simp; omega)
theorem cn_succ {x : List Cell} {k : Nat} (h : k < x.length) : (x.take (k + 1)).countP (fun c => c.u) = (x.take k).countP (fun c => c.u) + (if x[k].u = true then 1 else 0) := by
 rw [List.take_succ_eq_append_getElem h, List.countP_append, List.countP_singleton]
theorem cn_spec {f : Nat} (hf : vp f = some Zzdn) (x : Sl Cell) (h : Heap) (hx : x.l.length < 4611686018427387904) : callRes vp f [x.v eC] h = some (.int .i64 ((x.l.countP (fun c => c.u) : Nat) : Int), h) := by
 refine res_pure hf rfl rfl (fun g hg => ?_)
 unfold Zzdn
 simp only [↓zp, zv, seval]
 generalize hS : Tr.set _ 4 _ = S
 have b0 : Slots.at S 0 = x.v eC := by rw [← hS]; simp only [zs, seval]
 have b3 : Slots.at S 3 = .int .i64 (((x.l.take 0).countP (fun c => c.u) : Nat) : Int) := by rw [← hS]; simp only [zs, seval] <;> rfl
 have b4 : Slots.at S 4 = .int .i64 ((0 : Nat) : Int) := by rw [← hS]; simp only [zs, seval] <;> rfl
 clear hS
 refine loop_ind (fun m s h => invCn x g m s h) ?_ x.l.length ⟨0, by omega, by omega, b0, b3, b4, rfl⟩
 rintro m s h ⟨k, hk, hm, c0, c3, c4, rfl⟩
 by_cases hlt : k < x.l.length
 case neg =>
  have hlt' : ¬ ((k : Int) < (x.l.length : Int)) := by omega
  obtain rfl : k = x.l.length := by omega
  rw [List.take_length] at c3
  simp only [↓zp, zv, seval, c0, c3, c4, hlt', frzI]
 have hlt' : (k : Int) < (x.l.length : Int) := by omega
 have ws := wr_succ (k := k) (by omega)
 have ia1 : ∀ h, r_ia 3 (x.v eC) (.int .i64 (k : Int)) h = some (.iptr (.int .u32 (x.l[k].k.a : Int) :: .int .i64 x.l[k].p :: .bool x.l[k].u :: (x.l.drop (k + 1)).flatMap eC), h) := fun h => by rw [r_ia_v eC_len (by decide) hlt rfl]; rfl
 have e := cn_succ hlt
 have le := cn_le (x := x.l) (k := k)
 cases hu : x.l[k].u
 ·simp only [hu, Bool.false_eq_true, if_false, Nat.add_zero] at e
  rw [← e] at c3
  simp only [↓zp, zv, seval, c0, c3, c4, hlt', ia1, hu, ws]
  exact ⟨_, by omega, k + 1, by omega, rfl, by simp only [zs, seval, c0], by simp only [zs, seval, c3], by simp only [zs, seval], rfl⟩
 ·rw [hu, if_pos rfl] at e
  have wc := wr_succ (k := (x.l.take k).countP (fun c => c.u)) (by omega)
  rw [← e] at wc
  simp only [↓zp, zv, seval, c0, c3, c4, hlt', ia1, hu, ws, wc]
  exact ⟨_, by omega, k + 1, by omega, rfl, by simp only [zs, seval, c0], by simp only [zs, seval], by simp only [zs, seval], rfl⟩
def invA14 (x : Sl Cell) (key : Nat) (H : Heap) (m : Nat) (s : Slots) (h : Heap) : Prop :=
 ∃ k, k ≤ x.l.length ∧ m = x.l.length - k ∧ s.at 0 = x.v eC ∧ s.at 1 = .int .u32 (key : Int) ∧ s.at 5 = .int .i64 (k : Int) ∧ h = H ∧ ∀ j (hj : j < x.l.length), j < k → isC key x.l[j] = false
theorem at14_spec {f : Nat} (hf : vp f = some Zzdl) (x : Sl Cell) (key : Nat) (h : Heap) (hx : x.l.length < 4611686018427387904) : callRes vp f [x.v eC, .int .u32 (key : Int)] h = some (.int .i64 (fidx (isC key) x.l), h) := by
 refine res_pure hf rfl rfl (fun g hg => ?_)
 unfold Zzdl
 simp only [↓zp, zv, seval]
 generalize hS : Tr.set _ 5 _ = S
 have b0 : Slots.at S 0 = x.v eC := by rw [← hS]; simp only [zs, seval]
 have b1 : Slots.at S 1 = .int .u32 (key : Int) := by rw [← hS]; simp only [zs, seval]
 have b5 : Slots.at S 5 = .int .i64 ((0 : Nat) : Int) := by rw [← hS]; simp only [zs, seval] <;> rfl
 clear hS
 refine loop_ind (fun m s h => invA14 x key g m s h) ?_ x.l.length ⟨0, by omega, by omega, b0, b1, b5, rfl, fun j _ hj => by omega⟩
 rintro m s h ⟨k, hk, hm, c0, c1, c5, rfl, hinc⟩
 by_cases hlt : k < x.l.length
 case neg =>
  have hlt' : ¬ ((k : Int) < (x.l.length : Int)) := by omega
  have e := fidx_none (q := isC key) (l := x.l) (fun j hj => hinc j hj (by omega))
  simp only [↓zp, zv, seval, c0, c1, c5, hlt', e, frzI]
 have hlt' : (k : Int) < (x.l.length : Int) := by omega
 have ws := wr_succ (k := k) (by omega)
 have ia1 : ∀ h, r_ia 3 (x.v eC) (.int .i64 (k : Int)) h = some (.iptr (.int .u32 (x.l[k].k.a : Int) :: .int .i64 x.l[k].p :: .bool x.l[k].u :: (x.l.drop (k + 1)).flatMap eC), h) := fun h => by rw [r_ia_v eC_len (by decide) hlt rfl]; rfl
 have next : isC key x.l[k] = false → ∀ j (hj : j < x.l.length), j < k + 1 → isC key x.l[j] = false := fun hn j hj hjk => by
  rcases Nat.lt_or_ge j k with r | r
  ·exact hinc j hj r
  ·have : j = k := by omega
   subst this
   exact hn
 cases hu : x.l[k].u
 ·simp only [↓zp, zv, seval, c0, c1, c5, hlt', ia1, hu, ws]
  exact ⟨_, by omega, k + 1, by omega, rfl, by simp only [zs, seval, c0], by simp only [zs, seval, c1], by simp only [zs, seval], rfl, next (by simp [isC, hu])⟩
 ·by_cases q : x.l[k].k.a = key
  ·have q' : ((x.l[k].k.a : Int) = (key : Int)) = True := eq_true (by omega)
   have e := fidx_at (q := isC key) hlt (by simp [isC, hu, q]) (fun j hj hjk => hinc j hj hjk)
   simp only [↓zp, zv, seval, c0, c1, c5, hlt', ia1, hu, q', e, frzI]
  ·have q' : ¬ ((x.l[k].k.a : Int) = (key : Int)) := by omega
   simp only [↓zp, zv, seval, c0, c1, c5, hlt', ia1, hu, q', ws]
   exact ⟨_, by omega, k + 1, by omega, rfl, by simp only [zs, seval, c0], by simp only [zs, seval, c1], by simp only [zs, seval], rfl, next (by simp [isC, q])⟩
end
theorem eqCl {a : Nat} {p : Int} {u neg : Bool} {h : Heap} : r_eqa neg [0, 0, 1] (.agg [.int .u32 (a : Int), .int .i64 p, .bool u]) (.agg [.int .u32 0, .int .i64 0, .bool false]) h = some (.bool (bif neg then !(decide (a = 0) && (decide (p = 0) && !u)) else (decide (a = 0) && (decide (p = 0) && !u))), h) := by
 have e0 : (decide (a = 0)) = decide ((a : Int) = 0) := by
  by_cases q : a = 0
  ·subst q; rfl
  ·have : ¬ (a : Int) = 0 := by omega
   simp [q, this]
 rw [e0]
 cases h1 : decide ((a : Int) = 0) <;> cases h2 : decide (p = 0) <;> cases u <;> cases neg <;> simp only [r_eqa, eqCells, eqK, kEq_refl, eqI_dec, cond_true, h1, h2, beq_dec, List.length_cons, List.length_nil, decide_true, Bool.and_self] <;> rfl
end
section
open Go Go.VE Classical
section
variable {vp : Nat → Option VFn}
theorem ixok_rc {x : List Cell} (h1 : x.length = 16) (h2 : x.countP (fun c => c.u) ≤ 12) (h : ∀ i, i < 16 → RC x i) : IxOk x := ⟨h1, h2, (cc_rc h1).2 h⟩
theorem ixok_no {x : List Cell} {i : Nat} (hi : i < 16) (h : ¬ RC x i) : ¬ IxOk x := fun o => h ((cc_rc o.1).1 o.2.2 i hi)
def invX (x : Sl Cell) (H : Heap) (m : Nat) (s : Slots) (h : Heap) : Prop :=
 ∃ k, k ≤ 16 ∧ m = 16 - k ∧ s.at 0 = x.v eC ∧ s.at 3 = .int .i64 (k : Int) ∧ h = H ∧ ∀ i, i < k → RC x.l i
def invY (x : Sl Cell) (k key D : Nat) (H : Heap) (m : Nat) (s : Slots) (h : Heap) : Prop :=
 ∃ d, d ≤ D ∧ m = D - d ∧ s.at 0 = x.v eC ∧ s.at 3 = .int .i64 (k : Int) ∧ s.at 4 = .int .i64 (((home key + d) % 16 : Nat) : Int) ∧ h = H ∧ ∀ e, e < d → (cel x.l ((home key + e) % 16)).u = true
theorem ixR_spec {f c1 c2 c3 : Nat} (hf : vp f = some (Zzdm c1 c2 c3)) (h1 : vp c1 = some Zzdn) (h2 : vp c2 = some Zzdl) (h3 : vp c3 = some Zzdo) (x : Sl Cell) (h : Heap) :
  callRes vp f [x.v eC] h = some (.int .i64 (chk (IxOk x.l)), h) := by
 have m1 : modeOf vp c1 = some 1 := mo h1 rfl rfl
 have m2 : modeOf vp c2 = some 1 := mo h2 rfl rfl
 have m3 : modeOf vp c3 = some 1 := mo h3 rfl rfl
 refine res_pure hf rfl rfl (fun g hg => ?_)
 unfold Zzdm
 by_cases q1 : x.l.length = 16
 case neg =>
  have q1' : ¬ (x.l.length : Int) = 16 := by omega
  have e := chk_n (p := IxOk x.l) (fun o => q1 o.1)
  simp only [↓zp, zv, seval, q1', not_false_eq_true, e, frzI]
 have q1' : ((x.l.length : Int) = 16) = True := eq_true (by omega)
 have cn := fun h => cn_spec h1 x h (by omega)
 have at_ := fun key h => at14_spec h2 x key h (by omega)
 by_cases q2 : 12 < x.l.countP (fun c => c.u)
 ·have q2' : 12 < ((x.l.countP (fun c => c.u) : Nat) : Int) := by omega
  have e := chk_n (p := IxOk x.l) (fun o => by have := o.2.1; omega)
  simp only [↓zp, zv, seval, q1', not_true, m1, cn, q2', e, frzI]
 have q2' : ¬ 12 < ((x.l.countP (fun c => c.u) : Nat) : Int) := by omega
 simp only [↓zp, zv, seval, q1', not_true, m1, cn, q2']
 generalize hS : Tr.set _ 3 _ = S
 have b0 : Slots.at S 0 = x.v eC := by rw [← hS]; simp only [zs, seval]
 have b3 : Slots.at S 3 = .int .i64 ((0 : Nat) : Int) := by rw [← hS]; simp only [zs, seval] <;> rfl
 clear hS
 refine loop_ind (fun m s h => invX x g m s h) ?_ 16 ⟨0, by omega, by omega, b0, b3, rfl, fun j hj => by omega⟩
 clear b0 b3
 rintro m s h ⟨k, hk, hm, c0, c3, rfl, hinc⟩
 by_cases hlt : k < 16
 case neg =>
  have hlt' : ¬ ((k : Int) < 16) := by omega
  have e := chk_y (ixok_rc q1 (by omega) (fun i hi => hinc i (by omega)))
  simp only [↓zp, zv, seval, c0, c3, hlt', e, frzI]
 have hlt' : (k : Int) < 16 := by omega
 have hkx : k < x.l.length := by omega
 have ws := wr_succ (k := k) (by omega)
 have ia1 : ∀ h, r_ia 3 (x.v eC) (.int .i64 (k : Int)) h = some (.iptr (.int .u32 (x.l[k].k.a : Int) :: .int .i64 x.l[k].p :: .bool x.l[k].u :: (x.l.drop (k + 1)).flatMap eC), h) := fun h => by rw [r_ia_v eC_len (by decide) hkx rfl]; rfl
 have ce := cel_eq hkx
 have next : RC x.l k → ∀ j, j < k + 1 → RC x.l j := fun hn j hjk => by
  rcases Nat.lt_or_ge j k with r | r
  ·exact hinc j r
  ·have : j = k := by omega
   subst this
   exact hn
 have bad : ¬ RC x.l k → chk (IxOk x.l) = 8 := fun hn => chk_n (ixok_no hlt hn)
 cases hu : x.l[k].u
 ·by_cases qz : x.l[k].k.a = 0 ∧ x.l[k].p = 0
  ·have z1 : decide (x.l[k].k.a = 0) = true := by simp [qz.1]
   have z2 : decide (x.l[k].p = 0) = true := by simp [qz.2]
   have rc : RC x.l k := ⟨fun _ => by rw [ce]; exact qz, fun h => by rw [ce, hu] at h; cases h⟩
   simp only [↓zp, zv, seval, c0, c3, hlt', ia1, hu, eqCl, z1, z2, ws]
   exact ⟨_, by omega, k + 1, by omega, rfl, by simp only [zs, seval, c0], by simp only [zs, seval], rfl, next rc⟩
  ·have z1 : (decide (x.l[k].k.a = 0) && decide (x.l[k].p = 0)) = false := by
    cases h : (decide (x.l[k].k.a = 0) && decide (x.l[k].p = 0))
    ·rfl
    ·simp only [Bool.and_eq_true, decide_eq_true_eq] at h
     exact absurd h qz
   have e := bad (fun r => qz (by have := r.1 (by rw [ce, hu]); rwa [ce] at this))
   simp only [↓zp, zv, seval, c0, c3, hlt', ia1, hu, eqCl, z1, e, frzI]
 by_cases p1 : x.l[k].p < 0
 ·have e := bad (fun r => by have := (r.2 (by rw [ce, hu])).1; rw [ce] at this; omega)
  simp only [↓zp, zv, seval, c0, c3, hlt', ia1, hu, p1, e, frzI]
 by_cases p2 : 16 ≤ x.l[k].p
 ·have e := bad (fun r => by have := (r.2 (by rw [ce, hu])).2.1; rw [ce] at this; omega)
  simp only [↓zp, zv, seval, c0, c3, hlt', ia1, hu, p1, p2, e, frzI]
 by_cases p3 : fidx (isC x.l[k].k.a) x.l = k
 case neg =>
  have e := bad (fun r => by have := (r.2 (by rw [ce, hu])).2.2.1; rw [ce] at this; exact p3 this)
  simp only [↓zp, zv, seval, c0, c3, hlt', ia1, hu, p1, p2, m2, at_, p3, not_false_eq_true, e, frzI]
 have p3' := eq_true p3
 have hm := fun h => home8_spec h3 x.l[k].k h
 have hh := home_lt x.l[k].k.a
 simp only [↓zp, zv, seval, c0, c3, hlt', ia1, hu, p1, p2, m2, at_, p3', not_true, m3, hm]
 generalize hS : Tr.set _ 4 _ = S
 have b0 : Slots.at S 0 = x.v eC := by rw [← hS]; simp only [zs, seval, c0]
 have b3 : Slots.at S 3 = .int .i64 (k : Int) := by rw [← hS]; simp only [zs, seval, c3]
 have b4 : Slots.at S 4 = .int .i64 (((home x.l[k].k.a + 0) % 16 : Nat) : Int) := by rw [← hS]; simp only [zs, seval]; rw [Nat.add_zero, Nat.mod_eq_of_lt hh]
 clear hS
 refine loop_ind (fun m2 s h2 => invY x k x.l[k].k.a ((k + 16 - home x.l[k].k.a) % 16) h m2 s h2) ?_ ((k + 16 - home x.l[k].k.a) % 16) ⟨0, by omega, by omega, b0, b3, b4, rfl, fun e he => by omega⟩
 clear b0 b3 b4 c0 c3
 rintro m' s h ⟨d, hd, hm', c0, c3, c4, rfl, hus⟩
 by_cases hend : (home x.l[k].k.a + d) % 16 = k
 ·have hend' := eq_true (show (((home x.l[k].k.a + d) % 16 : Nat) : Int) = (k : Int) by omega)
  have rc : RC x.l k := ⟨fun h => (by rw [ce, hu] at h; cases h), fun _ => by
   rw [ce]
   exact ⟨by omega, by omega, p3, fun e he => hus e (by omega)⟩⟩
  simp only [↓zp, zv, seval, c0, c3, c4, hend', not_true, ws]
  exact ⟨_, by omega, k + 1, by omega, rfl, by simp only [zs, seval, c0], by simp only [zs, seval], rfl, next rc⟩
 have hend' : ¬ (((home x.l[k].k.a + d) % 16 : Nat) : Int) = (k : Int) := by omega
 have hdD : d < (k + 16 - home x.l[k].k.a) % 16 := by omega
 obtain ⟨i, hi⟩ : ∃ i, (home x.l[k].k.a + d) % 16 = i := ⟨_, rfl⟩
 rw [hi] at c4 hend'
 have hi16 : i < x.l.length := by omega
 have ia2 : ∀ h, r_ia 3 (x.v eC) (.int .i64 (i : Int)) h = some (.iptr (.int .u32 (x.l[i].k.a : Int) :: .int .i64 x.l[i].p :: .bool x.l[i].u :: (x.l.drop (i + 1)).flatMap eC), h) := fun h => by rw [r_ia_v eC_len (by decide) hi16 rfl]; rfl
 have cei := cel_eq hi16
 cases hui : x.l[i].u
 ·have e := bad (fun r => by
   have := (r.2 (by rw [ce, hu])).2.2.2 d (by rw [ce]; exact hdD)
   rw [ce, hi, cei, hui] at this
   cases this)
  simp only [↓zp, zv, seval, c0, c3, c4, hend', not_false_eq_true, ia2, hui, e, frzI]
 ·have wi := wr_succ (k := i) (by omega)
  have rm : VE.binOp .rem (.int .i64 ((i + 1 : Nat) : Int)) (.int .i64 16) = _ := bo_rem (k := i + 1)
  simp only [↓zp, zv, seval, c0, c3, c4, hend', not_false_eq_true, ia2, hui, wi, rm]
  have e2 : (i + 1) % 16 = (home x.l[k].k.a + (d + 1)) % 16 := by omega
  rw [e2]
  refine ⟨_, by omega, d + 1, by omega, rfl, by simp only [zs, seval, c0], by simp only [zs, seval, c3], by simp only [zs, seval], rfl, fun e he => ?_⟩
  rcases Nat.lt_or_ge e d with r | r
  ·exact hus e r
  ·have : e = d := by omega
   rw [this, hi, cei, hui]
end
end
section
open Go Go.VE Classical
section
variable {vp : Nat → Option VFn}
def invP1 (x : Sl Cell) (t : Nat) (H : Heap) (m : Nat) (s : Slots) (h : Heap) : Prop :=
 ∃ k, k ≤ x.l.length ∧ m = x.l.length - k ∧ s.at 0 = x.v eC ∧ s.at 3 = .int .i64 (((x.l.take k).countP (fun c => c.u) : Nat) : Int) ∧ s.at 13 = x.v eC ∧ s.at 14 = .int .i64 (x.l.length : Int) ∧ s.at 15 = .int .i64 (k : Int) ∧ Kp H h
def invP2 (x : Sl Cell) (H : Heap) (m : Nat) (s : Slots) (h : Heap) : Prop :=
 ∃ k, k ≤ 16 ∧ m = 16 - k ∧ s.at 0 = x.v eC ∧ s.at 26 = .int .i64 (k : Int) ∧ Kp H h ∧ ∀ i, i < k → CC x.l i
theorem ixC_spec {f c1 d1 d2 t1 : Nat} (hf : vp f = some (Zzbe c1 t1)) (h1 : vp c1 = some (Zzbh d1 d2)) (g1 : vp d1 = some Zzbg) (g2 : vp d2 = some Zzbi) (x : Sl Cell) (h : Heap) :
  callRes vp f [x.v eC] h = some (.int .i64 (chk (IxOk x.l)), h) := by
 have m1 : modeOf vp c1 = some 1 := mo h1 rfl rfl
 refine res_pure hf rfl rfl (fun g hg => ?_)
 have hlo := hlo hg
 unfold Zzbe
 by_cases q1 : x.l.length = 16
 case neg =>
  have q1' : ¬ (x.l.length : Int) = 16 := by omega
  have e := chk_n (p := IxOk x.l) (fun o => q1 o.1)
  simp only [↓zp, zv, seval, q1', not_false_eq_true, e, frzI]
 have q1' : ((x.l.length : Int) = 16) = True := eq_true (by omega)
 simp only [↓zp, zv, seval, q1', not_true]
 generalize hS : Tr.set _ 15 _ = S
 have b0 : Slots.at S 0 = x.v eC := by rw [← hS]; simp only [zs, seval]
 have b3 : Slots.at S 3 = .int .i64 (((x.l.take 0).countP (fun c => c.u) : Nat) : Int) := by rw [← hS]; simp only [zs, seval] <;> rfl
 have b13 : Slots.at S 13 = x.v eC := by rw [← hS]; simp only [zs, seval]
 have b14 : Slots.at S 14 = .int .i64 (x.l.length : Int) := by rw [← hS]; simp only [zs, seval]
 have b15 : Slots.at S 15 = .int .i64 ((0 : Nat) : Int) := by rw [← hS]; simp only [zs, seval] <;> rfl
 clear hS
 refine loop_ind (fun m s h => invP1 x t1 g m s h) ?_ x.l.length ⟨0, by omega, by omega, b0, b3, b13, b14, b15, Kp.refl g⟩
 clear b0 b3 b13 b14 b15
 rintro m s h ⟨k, hk, hm, c0, c3, c13, c14, c15, kp⟩
 have l0 : ¬ h.nx < h.lo := by have := kp.lo; have := kp.nx; omega
 by_cases hlt : k < x.l.length
 case pos =>
  have hlt' : (k : Int) < (x.l.length : Int) := by omega
  have ws := wr_succ (k := k) (by omega)
  have ia1 : ∀ h, r_ia 3 (x.v eC) (.int .i64 (k : Int)) h = some (.iptr (.int .u32 (x.l[k].k.a : Int) :: .int .i64 x.l[k].p :: .bool x.l[k].u :: (x.l.drop (k + 1)).flatMap eC), h) := fun h => by rw [r_ia_v eC_len (by decide) hlt rfl]; rfl
  have e := cn_succ hlt
  have le := cn_le (x := x.l) (k := k)
  cases hu : x.l[k].u
  ·simp only [hu, Bool.false_eq_true, if_false, Nat.add_zero] at e
   rw [← e] at c3
   simp only [↓zp, zv, seval, c0, c3, c13, c14, c15, hlt', ia1, l0, hu, ws]
   exact ⟨_, by omega, k + 1, by omega, rfl, by simp only [zs, seval, c0], by simp only [zs, seval, c3], by simp only [zs, seval, c13], by simp only [zs, seval, c14], by simp only [zs, seval], (kp.new _).set _ kp.nx⟩
  ·rw [hu, if_pos rfl] at e
   have wc := wr_succ (k := (x.l.take k).countP (fun c => c.u)) (by omega)
   rw [← e] at wc
   simp only [↓zp, zv, seval, c0, c3, c13, c14, c15, hlt', ia1, l0, hu, ws, wc]
   exact ⟨_, by omega, k + 1, by omega, rfl, by simp only [zs, seval, c0], by simp only [zs, seval], by simp only [zs, seval, c13], by simp only [zs, seval, c14], by simp only [zs, seval], (kp.new _).set _ kp.nx⟩
 have hlt' : ¬ ((k : Int) < (x.l.length : Int)) := by omega
 obtain rfl : k = x.l.length := by omega
 rw [List.take_length] at c3
 by_cases q2 : 12 < x.l.countP (fun c => c.u)
 ·have q2' : 12 < ((x.l.countP (fun c => c.u) : Nat) : Int) := by omega
  have e := chk_n (p := IxOk x.l) (fun o => by have := o.2.1; omega)
  simp only [↓zp, zv, seval, c0, c3, c13, c14, c15, hlt', q2', e, frzI]
 have q2' : ¬ 12 < ((x.l.countP (fun c => c.u) : Nat) : Int) := by omega
 have gp : Gap x.l := gap_of q1 (by omega)
 simp only [↓zp, zv, seval, c0, c3, c13, c14, c15, hlt', q2']
 generalize hS : Tr.set _ 26 _ = S
 have b0 : Slots.at S 0 = x.v eC := by rw [← hS]; simp only [zs, seval, c0]
 have b26 : Slots.at S 26 = .int .i64 ((0 : Nat) : Int) := by rw [← hS]; simp only [zs, seval] <;> rfl
 clear hS
 refine loop_ind (fun m s h => invP2 x g m s h) ?_ 16 ⟨0, by omega, by omega, b0, b26, kp, fun j hj => by omega⟩
 clear b0 b26 c0 c3 c13 c14 c15 l0 kp
 rintro m s h ⟨k, hk, hm, c0, c26, kp, hinc⟩
 have l0 : ¬ h.nx < h.lo := by have := kp.lo; have := kp.nx; omega
 by_cases hlt : k < 16
 case neg =>
  have hlt' : ¬ ((k : Int) < 16) := by omega
  have e := chk_y (p := IxOk x.l) ⟨q1, by omega, fun i hi => hinc i (by omega)⟩
  simp only [↓zp, zv, seval, c0, c26, hlt', e, frzI]
 have hlt' : (k : Int) < 16 := by omega
 have hkx : k < x.l.length := by omega
 have ws := wr_succ (k := k) (by omega)
 have ia1 : ∀ h, r_ia 3 (x.v eC) (.int .i64 (k : Int)) h = some (.iptr (.int .u32 (x.l[k].k.a : Int) :: .int .i64 x.l[k].p :: .bool x.l[k].u :: (x.l.drop (k + 1)).flatMap eC), h) := fun h => by rw [r_ia_v eC_len (by decide) hkx rfl]; rfl
 have ce := cel_eq hkx
 have next : CC x.l k → ∀ j, j < k + 1 → CC x.l j := fun hn j hjk => by
  rcases Nat.lt_or_ge j k with r | r
  ·exact hinc j r
  ·have : j = k := by omega
   subst this
   exact hn
 have bad : ¬ CC x.l k → chk (IxOk x.l) = 8 := fun hn => chk_n (fun o => hn (o.2.2 k hlt))
 obtain ⟨H2, hH2⟩ : ∃ H2, (h.new (.cells [.int .u32 0, .int .i64 0, .bool false] (.ct t1))).set h.nx (.cells [.int .u32 (x.l[k].k.a : Int), .int .i64 x.l[k].p, .bool x.l[k].u] (.ct t1)) = H2 := ⟨_, rfl⟩
 have kp2 : Kp g H2 := hH2 ▸ (kp.new _).set _ kp.nx
 have hb : H2.get h.nx = .cells [.int .u32 (x.l[k].k.a : Int), .int .i64 x.l[k].p, .bool x.l[k].u] (.ct t1) := by rw [← hH2, Heap.get_set, if_pos rfl]
 obtain ⟨i, dd, lk, lki⟩ := look_spec h1 g1 g2 x x.l[k].k H2 q1 gp
 cases hu : x.l[k].u
 ·by_cases qz : x.l[k].k.a = 0 ∧ x.l[k].p = 0
  ·have z1 : decide (x.l[k].k.a = 0) = true := by simp [qz.1]
   have z2 : decide (x.l[k].p = 0) = true := by simp [qz.2]
   have rc : CC x.l k := ⟨fun _ => by rw [ce]; exact qz, fun h => by rw [ce, hu] at h; cases h⟩
   simp only [hu] at hH2 hb
   simp only [↓zp, zv, seval, c0, c26, hlt', ia1, l0, hu, hH2, hb, eqCl, z1, z2, m1, lk, ws]
   exact ⟨_, by omega, k + 1, by omega, rfl, by simp only [zs, seval, c0], by simp only [zs, seval], kp2, next rc⟩
  ·have z1 : (decide (x.l[k].k.a = 0) && decide (x.l[k].p = 0)) = false := by
    cases h : (decide (x.l[k].k.a = 0) && decide (x.l[k].p = 0))
    ·rfl
    ·simp only [Bool.and_eq_true, decide_eq_true_eq] at h
     exact absurd h qz
   have e := bad (fun r => qz (by have := r.1 (by rw [ce, hu]); rwa [ce] at this))
   simp only [hu] at hH2 hb
   simp only [↓zp, zv, seval, c0, c26, hlt', ia1, l0, hu, hH2, hb, eqCl, z1, e, frzI]
 simp only [hu] at hH2 hb
 by_cases p1 : x.l[k].p < 0
 ·have e := bad (fun r => by have := (r.2 (by rw [ce, hu])).1; rw [ce] at this; omega)
  simp only [↓zp, zv, seval, c0, c26, hlt', ia1, l0, hu, hH2, hb, p1, e, frzI]
 by_cases p2 : 16 ≤ x.l[k].p
 ·have e := bad (fun r => by have := (r.2 (by rw [ce, hu])).2.1; rw [ce] at this; omega)
  simp only [↓zp, zv, seval, c0, c26, hlt', ia1, l0, hu, hH2, hb, p1, p2, e, frzI]
 by_cases p3 : i = k
 ·subst p3
  have rc : CC x.l i := ⟨fun h => (by rw [ce, hu] at h; cases h), fun _ => by rw [ce]; exact ⟨by omega, by omega, lki⟩⟩
  simp only [↓zp, zv, seval, c0, c26, hlt', ia1, l0, hu, hH2, hb, p1, p2, m1, lk, not_true, ws]
  exact ⟨16 - (i + 1), by omega, i + 1, by omega, rfl, by simp only [zs, seval, c0], by simp only [zs, seval], kp2, next rc⟩
 ·have p3' : ¬ (i : Int) = (k : Int) := by omega
  have e := bad (fun r => by
   have := (r.2 (by rw [ce, hu])).2.2
   rw [ce] at this
   exact p3 (lki.uniq this))
  simp only [↓zp, zv, seval, c0, c26, hlt', ia1, l0, hu, hH2, hb, p1, p2, m1, lk, p3', not_false_eq_true, e, frzI]
end
end
end Go.VE.LB
