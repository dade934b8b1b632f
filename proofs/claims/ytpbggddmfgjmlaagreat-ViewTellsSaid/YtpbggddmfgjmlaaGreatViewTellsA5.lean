/- What the functions of the law ViewTells compute, on typed arguments (part 5). -/
import Derived.Test.YtpbggddmfgjmlaaGreatViewTellsA4
set_option linter.all false
namespace Go.VE.LB
set_option maxRecDepth 100000
set_option maxHeartbeats 4000000
section
open Go Go.VE Classical
section
variable {α : Type}
def idxs (q : α → Bool) : List α → Nat → List Nat
 | [], _ => []
 | a :: x, s => if q a = true then s :: idxs q x (s + 1) else idxs q x (s + 1)
theorem idxs_len (q : α → Bool) : ∀ (x : List α) (s : Nat), (idxs q x s).length = x.countP q
 | [], _ => rfl
 | a :: x, s => by
  rw [idxs, List.countP_cons]
  by_cases h : q a = true
  ·rw [if_pos h, if_pos h, List.length_cons, idxs_len q x]
  ·rw [if_neg h, if_neg h, idxs_len q x]; rfl
theorem idxs_mem (q : α → Bool) : ∀ (x : List α) (s j : Nat), j ∈ idxs q x s ↔ ∃ i, ∃ h : i < x.length, j = s + i ∧ q x[i] = true
 | [], s, j => by simp [idxs]
 | a :: x, s, j => by
  have ih := idxs_mem q x (s + 1) j
  have e : (∃ i, ∃ h : i < (a :: x).length, j = s + i ∧ q (a :: x)[i] = true) ↔ (j = s ∧ q a = true) ∨ j ∈ idxs q x (s + 1) := by
   rw [ih]
   constructor
   ·rintro ⟨i, h, e, hq⟩
    cases i with
    | zero => exact .inl ⟨by omega, hq⟩
    | succ i => exact .inr ⟨i, by simpa using h, by omega, by simpa using hq⟩
   ·rintro (⟨e, hq⟩ | ⟨i, h, e, hq⟩)
    ·exact ⟨0, by simp, by omega, hq⟩
    ·exact ⟨i + 1, by simpa using h, by omega, by simpa using hq⟩
  rw [e, idxs]
  by_cases h : q a = true
  ·rw [if_pos h, List.mem_cons]; simp [h]
  ·rw [if_neg h]; simp [h]
theorem idxs_nd (q : α → Bool) : ∀ (x : List α) (s : Nat), (idxs q x s).Nodup
 | [], _ => by simp [idxs]
 | a :: x, s => by
  rw [idxs]
  have ih := idxs_nd q x (s + 1)
  by_cases h : q a = true
  ·rw [if_pos h, List.nodup_cons]
   refine ⟨fun hm => ?_, ih⟩
   obtain ⟨i, _, e, _⟩ := (idxs_mem q x (s + 1) s).1 hm
   omega
  ·rw [if_neg h]; exact ih
end
theorem nd_le : ∀ {a b : List Nat}, a.Nodup → (∀ x ∈ a, x ∈ b) → a.length ≤ b.length
 | [], b, _, _ => by simp
 | x :: a, b, h, s => by
  rw [List.nodup_cons] at h
  have hx := s x List.mem_cons_self
  have ih := nd_le (b := b.erase x) h.2 (fun y hy => (List.mem_erase_of_ne (by rintro rfl; exact h.1 hy)).2 (s y (List.mem_cons_of_mem _ hy)))
  rw [List.length_erase_of_mem hx] at ih
  have := List.length_pos_of_mem hx
  simp only [List.length_cons]
  omega
theorem nd_full {a b : List Nat} (h : a.Nodup) (s : ∀ x ∈ a, x ∈ b) (l : b.length ≤ a.length) : ∀ x ∈ b, x ∈ a := by
 intro x hx
 apply Classical.byContradiction
 intro hn
 have := nd_le (a := x :: a) (b := b) (List.nodup_cons.2 ⟨hn, h⟩) (fun y hy => by
  rcases List.mem_cons.1 hy with rfl | hy
  ·exact hx
  ·exact s y hy)
 simp only [List.length_cons] at this
 omega
theorem count1 {α : Type} {q : α → Bool} : ∀ {l : List α} {j : Nat} (hj : j < l.length), q l[j] = true → (∀ i (hi : i < l.length), q l[i] = true → i = j) → l.countP q = 1
 | [], j, hj, _, _ => by simp at hj
 | a :: l, 0, hj, h, u => by
  have : l.countP q = 0 := List.countP_eq_zero.2 (fun x hx hq => by
   obtain ⟨i, hi, rfl⟩ := List.mem_iff_getElem.1 hx
   have := u (i + 1) (by simpa using hi) (by simpa using hq)
   omega)
  have h : q a = true := h
  rw [List.countP_cons, this, if_pos h]
 | a :: l, j + 1, hj, h, u => by
  have h0 : ¬ q a = true := fun h0 => by
   have := u 0 (by simp) h0
   omega
  rw [List.countP_cons, if_neg h0, count1 (l := l) (j := j) (by simpa using hj) (by simpa using h) (fun i hi hq => by
   have := u (i + 1) (by simpa using hi) (by simpa using hq)
   omega)]
structure Tab where
 cap : Int
 ks : Sl K32
 bk : Sl Bucket
 nx : Sl Int
 us : Sl Bool
 fr : Int
 ix : Sl Cell
 op : Sl Int
 on : Sl Int
 hd : Int
 tl : Int
def encT (t : Tab) : List V := [.int .i64 t.cap, t.ks.v eK, t.bk.v encB, t.nx.v eI, t.us.v eO, .int .i64 t.fr, t.ix.v eC, t.op.v eI, t.on.v eI, .int .i64 t.hd, .int .i64 t.tl]
theorem encB_len (x : Bucket) : (encB x).length = 6 := rfl
def BZ (b : Bucket) : Prop := b.l.b = 0 ∧ b.l.r = 0 ∧ b.l.p = 0 ∧ b.lv = 0 ∧ b.pt = 0 ∧ b.t = 0
def fnd (x : List Cell) (key : Nat) : Option Cell := x.find? (isC key)
def PlOk (l : List Int) (x : List Cell) (i : Nat) (k : K32) (b : Bucket) (u : Bool) : Prop :=
 u = l.any (isN i) ∧ (u = false → k.a = 0 ∧ BZ b) ∧ (u = true → (∃ c, fnd x k.a = some c ∧ c.p = i) ∧ chkB b = 0)
def isP (i : Int) (c : Cell) : Bool := c.u && decide (c.p = i)
def smK (i : Int) (k : Nat) (x : List Cell) : Bool := x.all fun c => !isP i c || decide (c.k.a = k)
def RPl (l : List Int) (x : List Cell) (i : Nat) (k : K32) (b : Bucket) (u : Bool) : Prop :=
 u = l.any (isN i) ∧ u = decide (x.countP (isP i) = 1) ∧ smK i k.a x = true ∧ (u = true → chkB b = 0) ∧ (u = false → k.a = 0 ∧ BZ b)
structure Sizes (t : Tab) : Prop where
 lo : 1 ≤ t.cap
 hi : t.cap ≤ 8
 ks : (t.ks.l.length : Int) = t.cap
 bk : (t.bk.l.length : Int) = t.cap
 nx : (t.nx.l.length : Int) = t.cap
 op : (t.op.l.length : Int) = t.cap
structure TbOk (t : Tab) : Prop where
 sz : Sizes t
 ar : ArOk t.nx.l t.us.l t.fr
 ix : IxOk t.ix.l
 od : OrOk t.op.l t.on.l t.hd t.tl
 pl : ∀ i (h1 : i < t.ks.l.length) (h2 : i < t.bk.l.length) (h3 : i < t.us.l.length), PlOk (lst t.on.l t.hd) t.ix.l i t.ks.l[i] t.bk.l[i] t.us.l[i]
 ct : t.us.l.countP (fun u => u) = t.ix.l.countP (fun c => c.u)
theorem IxOk.uni {x : List Cell} (o : IxOk x) {i j : Nat} (hi : i < x.length) (hj : j < x.length) (ui : x[i].u = true) (uj : x[j].u = true) (e : x[i].k.a = x[j].k.a) : i = j := by
 have h16 := o.1
 have a := ((o.2.2 i (by omega)).2 (by rw [cel_eq hi]; exact ui)).2.2
 have b := ((o.2.2 j (by omega)).2 (by rw [cel_eq hj]; exact uj)).2.2
 exact a.key b (by rw [cel_eq hi, cel_eq hj]; exact e)
theorem IxOk.fnd {x : List Cell} (o : IxOk x) {i : Nat} (hi : i < x.length) (ui : x[i].u = true) : LB.fnd x x[i].k.a = some x[i] := by
 refine find_at hi (by simp [isC, ui]) (fun j hj hji => ?_)
 cases h : isC x[i].k.a x[j]
 ·rfl
 ·simp only [isC, Bool.and_eq_true, decide_eq_true_eq] at h
  have := o.uni hj hi h.1 ui h.2
  omega
theorem fnd_some {x : List Cell} {key : Nat} {c : Cell} (h : fnd x key = some c) : ∃ i, ∃ hi : i < x.length, x[i] = c ∧ c.u = true ∧ c.k.a = key := by
 have h1 := List.find?_some h
 have h2 := List.mem_of_find?_eq_some h
 obtain ⟨i, hi, e⟩ := List.mem_iff_getElem.1 h2
 simp only [isC, Bool.and_eq_true, decide_eq_true_eq] at h1
 exact ⟨i, hi, e, h1.1, h1.2⟩
theorem used_ct {us : List Bool} {l : List Int} (a : Acc1 us.length l) (h : ∀ i (hi : i < us.length), us[i] = l.any (isN i)) : us.countP (fun u => u) = l.length := by
 have e1 := idxs_len (fun u : Bool => u) us 0
 have nd := idxs_nd (fun u : Bool => u) us 0
 have ndl : (l.map Int.toNat).Nodup := by
  rw [List.nodup_iff_pairwise_ne, List.pairwise_map]
  exact a.nodup.imp_of_mem fun {x y} hx hy hne e => by
   have := a.range x hx
   have := a.range y hy
   exact hne (by omega)
 have mem : ∀ j, j ∈ idxs (fun u : Bool => u) us 0 ↔ j ∈ l.map Int.toNat := by
  intro j
  rw [idxs_mem, List.mem_map]
  constructor
  ·rintro ⟨i, hi, e, hq⟩
   rw [h i hi] at hq
   obtain ⟨x, hx, hxi⟩ := List.any_eq_true.1 hq
   simp only [isN, decide_eq_true_eq] at hxi
   exact ⟨x, hx, by omega⟩
  ·rintro ⟨x, hx, e⟩
   have := a.range x hx
   refine ⟨j, by omega, by omega, ?_⟩
   rw [h j (by omega)]
   exact List.any_eq_true.2 ⟨x, hx, by simp only [isN, decide_eq_true_eq]; omega⟩
 have h1 := nd_le nd (fun j hj => (mem j).1 hj)
 have h2 := nd_le ndl (fun j hj => (mem j).2 hj)
 rw [List.length_map] at h1 h2
 omega
theorem cover {x : List Cell} {us : List Bool} {ks : List K32} (o : IxOk x) (hk : ks.length = us.length) (ct : us.countP (fun u => u) = x.countP (fun c => c.u)) (h : ∀ i (h1 : i < ks.length) (h2 : i < us.length), us[i] = true → ∃ c, fnd x ks[i].a = some c ∧ c.p = i) :
  ∀ j (hj : j < x.length), x[j].u = true → ∃ i, ∃ h1 : i < ks.length, ∃ h2 : i < us.length, us[i] = true ∧ x[j].p = i ∧ x[j].k.a = ks[i].a := by
 intro j hj uj
 let f : Nat → Nat := fun i => (fidx (isC ((ks[i]?).map (fun k => k.a) |>.getD 0)) x).toNat
 have hf : ∀ i (h1 : i < ks.length) (h2 : i < us.length), us[i] = true → ∃ hi : f i < x.length, x[f i].u = true ∧ x[f i].k.a = ks[i].a ∧ x[f i].p = i := by
  intro i h1 h2 hu
  obtain ⟨c, hc, hp⟩ := h i h1 h2 hu
  obtain ⟨m, hm, rfl, q1, q2⟩ := fnd_some hc
  have e : f i = m := by
   show (fidx (isC ((ks[i]?).map (fun k => k.a) |>.getD 0)) x).toNat = m
   rw [List.getElem?_eq_getElem h1]
   simp only [Option.map_some, Option.getD_some]
   rw [fidx_at (q := isC ks[i].a) hm (by simp [isC, q1, q2]) (fun j hj hji => ?_)]
   ·omega
   ·cases hq : isC ks[i].a x[j]
    ·rfl
    ·simp only [isC, Bool.and_eq_true, decide_eq_true_eq] at hq
     have := o.uni hj hm hq.1 q1 (by rw [hq.2, q2])
     omega
  rw [e]
  exact ⟨hm, q1, q2, hp⟩
 have nd := idxs_nd (fun u : Bool => u) us 0
 have memU : ∀ i, i ∈ idxs (fun u : Bool => u) us 0 ↔ ∃ h2 : i < us.length, us[i] = true := by
  intro i
  rw [idxs_mem]
  constructor
  ·rintro ⟨i', hi, e, hq⟩
   obtain rfl : i = i' := by omega
   exact ⟨hi, hq⟩
  ·rintro ⟨hi, hq⟩
   exact ⟨i, hi, by omega, hq⟩
 have memC : ∀ i, i ∈ idxs (fun c : Cell => c.u) x 0 ↔ ∃ h2 : i < x.length, x[i].u = true := by
  intro i
  rw [idxs_mem]
  constructor
  ·rintro ⟨i', hi, e, hq⟩
   obtain rfl : i = i' := by omega
   exact ⟨hi, hq⟩
  ·rintro ⟨hi, hq⟩
   exact ⟨i, hi, by omega, hq⟩
 have ndm : ((idxs (fun u : Bool => u) us 0).map f).Nodup := by
  rw [List.nodup_iff_pairwise_ne, List.pairwise_map]
  exact nd.imp_of_mem fun {a b} ha hb hne e => by
   obtain ⟨ha2, hau⟩ := (memU a).1 ha
   obtain ⟨hb2, hbu⟩ := (memU b).1 hb
   obtain ⟨p1, _, _, p2⟩ := hf a (by omega) ha2 hau
   obtain ⟨r1, _, _, r2⟩ := hf b (by omega) hb2 hbu
   have e : f a = f b := e
   simp only [e] at p2
   omega
 have full := nd_full ndm (b := idxs (fun c : Cell => c.u) x 0) (fun y hy => by
  obtain ⟨i, hi, rfl⟩ := List.mem_map.1 hy
  obtain ⟨h2, hu⟩ := (memU i).1 hi
  obtain ⟨p1, p2, _, _⟩ := hf i (by omega) h2 hu
  exact (memC _).2 ⟨p1, p2⟩) (by rw [List.length_map, idxs_len, idxs_len, ct]; exact Nat.le_refl _)
 obtain ⟨i, hi, e⟩ := List.mem_map.1 (full j ((memC j).2 ⟨hj, uj⟩))
 obtain ⟨h2, hu⟩ := (memU i).1 hi
 obtain ⟨p1, p2, p3, p4⟩ := hf i (by omega) h2 hu
 subst e
 exact ⟨i, by omega, h2, hu, p4, p3⟩
end
section
open Go Go.VE Classical
theorem pl_ref {x : List Cell} {us : List Bool} {ks : List K32} {bk : List Bucket} {l : List Int} (o : IxOk x) (hk : ks.length = us.length) (hb : bk.length = us.length) (a : Acc1 us.length l) :
  ((∀ i (h1 : i < ks.length) (h2 : i < bk.length) (h3 : i < us.length), PlOk l x i ks[i] bk[i] us[i]) ∧ us.countP (fun u => u) = x.countP (fun c => c.u)) ↔
  (x.countP (fun c => c.u) = l.length ∧ ∀ i (h1 : i < ks.length) (h2 : i < bk.length) (h3 : i < us.length), RPl l x i ks[i] bk[i] us[i]) := by
 constructor
 ·rintro ⟨H, ct⟩
  have uc := used_ct a (fun i hi => (H i (by omega) (by omega) hi).1)
  have cv := cover o hk ct (fun i h1 h2 hu => ((H i h1 (by omega) h2).2.2 hu).1)
  refine ⟨by omega, fun i h1 h2 h3 => ?_⟩
  obtain ⟨p1, p2, p3⟩ := H i h1 h2 h3
  have cvi : ∀ j (hj : j < x.length), isP i x[j] = true → us[i] = true ∧ x[j].k.a = ks[i].a := by
   intro j hj hq
   simp only [isP, Bool.and_eq_true, decide_eq_true_eq] at hq
   obtain ⟨i', q1, q2, q3, q4, q5⟩ := cv j hj hq.1
   obtain rfl : i = i' := by omega
   exact ⟨q3, q5⟩
  refine ⟨p1, ?_, ?_, fun hu => (p3 hu).2, p2⟩
  ·cases hu : us[i]
   ·have : ¬ x.countP (isP i) = 1 := fun e => by
     have := List.countP_pos_iff.1 (by omega : 0 < x.countP (isP i))
     obtain ⟨c, hc, hq⟩ := this
     obtain ⟨j, hj, rfl⟩ := List.mem_iff_getElem.1 hc
     rw [(cvi j hj hq).1] at hu
     cases hu
    simp [this]
   ·obtain ⟨⟨c, hc, hp⟩, _⟩ := p3 hu
    obtain ⟨m, hm, rfl, q1, q2⟩ := fnd_some hc
    have : x.countP (isP i) = 1 := count1 hm (by simp [isP, q1, hp]) (fun j hj hq => by
     have := (cvi j hj hq).2
     simp only [isP, Bool.and_eq_true, decide_eq_true_eq] at hq
     exact o.uni hj hm hq.1 q1 (by rw [this, q2]))
    simp [this]
  ·rw [smK, List.all_eq_true]
   intro c hc
   obtain ⟨j, hj, rfl⟩ := List.mem_iff_getElem.1 hc
   cases hq : isP i x[j]
   ·rfl
   ·simp [(cvi j hj hq).2]
 ·rintro ⟨ct, H⟩
  have uc := used_ct a (fun i hi => (H i (by omega) (by omega) hi).1)
  refine ⟨fun i h1 h2 h3 => ?_, by omega⟩
  obtain ⟨p1, p2, p3, p4, p5⟩ := H i h1 h2 h3
  refine ⟨p1, p5, fun hu => ⟨?_, p4 hu⟩⟩
  rw [hu] at p2
  have p2 := of_decide_eq_true p2.symm
  obtain ⟨c, hc, hq⟩ := List.countP_pos_iff.1 (by omega : 0 < x.countP (isP i))
  obtain ⟨j, hj, rfl⟩ := List.mem_iff_getElem.1 hc
  have hs := List.all_eq_true.1 p3 _ hc
  rw [hq] at hs
  simp only [Bool.not_true, Bool.false_or, decide_eq_true_eq] at hs
  simp only [isP, Bool.and_eq_true, decide_eq_true_eq] at hq
  exact ⟨x[j], by rw [← hs]; exact o.fnd hj hq.1, hq.2⟩
section
variable {vp : Nat → Option VFn}
noncomputable def fP (x : List Cell) (key : Nat) : Int := if IxOk x then ((fnd x key).map (fun c => c.p)).getD 0 else 0
noncomputable def fE (x : List Cell) (key : Nat) : Int := if IxOk x then (if (fnd x key).isSome then 0 else 6) else 8
theorem find_spec {f c1 c2 d1 d2 d3 t1 : Nat} (hf : vp f = some (Zzbf c1 c2)) (h1 : vp c1 = some (Zzbe c2 t1)) (h2 : vp c2 = some (Zzbh d1 d2)) (g1 : vp d1 = some Zzbg) (g2 : vp d2 = some Zzbi) (x : Sl Cell) (key : K32) (h : Heap) :
  callRes vp f [x.v eC, .int .u32 (key.a : Int)] h = some (.tup [.int .i64 (fP x.l key.a), .int .i64 (fE x.l key.a)], h) := by
 have m1 : modeOf vp c1 = some 1 := mo h1 rfl rfl
 have m2 : modeOf vp c2 = some 1 := mo h2 rfl rfl
 have ck := fun h => ixC_spec h1 h2 g1 g2 x h
 refine res_pure hf rfl rfl (fun g hg => ?_)
 unfold Zzbf
 by_cases q : IxOk x.l
 case neg =>
  have e := chk_n q
  have e1 : fP x.l key.a = 0 := by unfold fP; rw [if_neg q]
  have e2 : fE x.l key.a = 8 := by unfold fE; rw [if_neg q]
  simp only [↓zp, zv, seval, m1, ck, e, e1, e2, not_false_eq_true]
  exact frz_tup2 (n := 999996) rfl rfl
 have e := chk_y q
 have h16 := q.1
 obtain ⟨i, d, lk, lki⟩ := look_spec h2 g1 g2 x key g q.1 q.gap
 have hi16 : i < x.l.length := by have := lki.lt; omega
 have ia1 : ∀ h, r_ia 3 (x.v eC) (.int .i64 (i : Int)) h = some (.iptr (.int .u32 (x.l[i].k.a : Int) :: .int .i64 x.l[i].p :: .bool x.l[i].u :: (x.l.drop (i + 1)).flatMap eC), h) := fun h => by rw [r_ia_v eC_len (by decide) hi16 rfl]; rfl
 have ce := cel_eq hi16
 cases hu : x.l[i].u
 ·have hn : fnd x.l key.a = none := find_no (fun j hj => by
   cases hq : isC key.a x.l[j]
   ·rfl
   ·simp only [isC, Bool.and_eq_true, decide_eq_true_eq] at hq
    have lj := ((q.2.2 j (by omega)).2 (by rw [cel_eq hj]; exact hq.1)).2.2
    rw [cel_eq hj, hq.2] at lj
    have := lki.uniq lj
    subst this
    rw [hq.1] at hu
    cases hu)
  have e1 : fP x.l key.a = 0 := by unfold fP; rw [if_pos q, hn]; rfl
  have e2 : fE x.l key.a = 6 := by unfold fE; rw [if_pos q, hn]; rfl
  simp only [↓zp, zv, seval, m1, ck, e, not_true, m2, lk, ia1, hu, e1, e2]
  exact frz_tup2 (n := 999996) rfl rfl
 ·have hk : x.l[i].k.a = key.a := by
   obtain ⟨_, _, _, _, hs⟩ := lki
   simpa [stp, ce, hu] using hs
  have hn : fnd x.l key.a = some x.l[i] := by rw [← hk]; exact q.fnd hi16 hu
  have e1 : fP x.l key.a = x.l[i].p := by unfold fP; rw [if_pos q, hn]; rfl
  have e2 : fE x.l key.a = 0 := by unfold fE; rw [if_pos q, hn]; rfl
  simp only [↓zp, zv, seval, m1, ck, e, not_true, m2, lk, ia1, hu, e1, e2]
  exact frz_tup2 (n := 999996) rfl rfl
def invCe (x : Sl Cell) (i : Int) (key : Nat) (H : Heap) (m : Nat) (s : Slots) (h : Heap) : Prop :=
 ∃ k, k ≤ x.l.length ∧ m = x.l.length - k ∧ s.at 0 = x.v eC ∧ s.at 1 = .int .i64 i ∧ s.at 2 = .int .u32 (key : Int) ∧ s.at 8 = .int .i64 (((x.l.take k).countP (isP i) : Nat) : Int) ∧ s.at 9 = .bool (smK i key (x.l.take k)) ∧ s.at 10 = .int .i64 (k : Int) ∧ h = H
theorem cells_spec {f : Nat} (hf : vp f = some Zzec) (x : Sl Cell) (i : Int) (key : Nat) (h : Heap) (hx : x.l.length < 1000) :
  callRes vp f [x.v eC, .int .i64 i, .int .u32 (key : Int)] h = some (.tup [.int .i64 ((x.l.countP (isP i) : Nat) : Int), .bool (smK i key x.l)], h) := by
 refine res_pure hf rfl rfl (fun g hg => ?_)
 unfold Zzec
 simp only [↓zp, zv, seval]
 generalize hS : Tr.set _ 10 _ = S
 have b0 : Slots.at S 0 = x.v eC := by rw [← hS]; simp only [zs, seval]
 have b1 : Slots.at S 1 = .int .i64 i := by rw [← hS]; simp only [zs, seval]
 have b2 : Slots.at S 2 = .int .u32 (key : Int) := by rw [← hS]; simp only [zs, seval]
 have b8 : Slots.at S 8 = .int .i64 (((x.l.take 0).countP (isP i) : Nat) : Int) := by rw [← hS]; simp only [zs, seval] <;> rfl
 have b9 : Slots.at S 9 = .bool (smK i key (x.l.take 0)) := by rw [← hS]; simp only [zs, seval] <;> rfl
 have b10 : Slots.at S 10 = .int .i64 ((0 : Nat) : Int) := by rw [← hS]; simp only [zs, seval] <;> rfl
 clear hS
 refine loop_ind (fun m s h => invCe x i key g m s h) ?_ x.l.length ⟨0, by omega, by omega, b0, b1, b2, b8, b9, b10, rfl⟩
 rintro m s h ⟨k, hk, hm, c0, c1, c2, c8, c9, c10, rfl⟩
 by_cases hlt : k < x.l.length
 case neg =>
  have hlt' : ¬ ((k : Int) < (x.l.length : Int)) := by omega
  obtain rfl : k = x.l.length := by omega
  rw [List.take_length] at c8 c9
  simp only [↓zp, zv, seval, c0, c1, c2, c8, c9, c10, hlt']
  exact frz_tup2 (n := 999996) rfl rfl
 have hlt' : (k : Int) < (x.l.length : Int) := by omega
 have ws := wr_succ (k := k) (by omega)
 have ia1 : ∀ h, r_ia 3 (x.v eC) (.int .i64 (k : Int)) h = some (.iptr (.int .u32 (x.l[k].k.a : Int) :: .int .i64 x.l[k].p :: .bool x.l[k].u :: (x.l.drop (k + 1)).flatMap eC), h) := fun h => by rw [r_ia_v eC_len (by decide) hlt rfl]; rfl
 have e8 : (x.l.take (k + 1)).countP (isP i) = (x.l.take k).countP (isP i) + (if isP i x.l[k] = true then 1 else 0) := by rw [List.take_succ_eq_append_getElem hlt, List.countP_append, List.countP_singleton]
 have e9 : smK i key (x.l.take (k + 1)) = (smK i key (x.l.take k) && (!isP i x.l[k] || decide (x.l[k].k.a = key))) := by unfold smK; rw [List.take_succ_eq_append_getElem hlt, List.all_append]; simp only [List.all_cons, List.all_nil, Bool.and_true]
 have le : (x.l.take k).countP (isP i) ≤ x.l.length := Nat.le_trans List.countP_le_length (by simp; omega)
 by_cases q : isP i x.l[k] = true
 ·have q' := q
  simp only [isP, Bool.and_eq_true, decide_eq_true_eq] at q'
  obtain ⟨hu, hp⟩ := q'
  have hp' := eq_true hp
  rw [if_pos q] at e8
  rw [q, Bool.not_true, Bool.false_or] at e9
  have wc := wr_succ (k := (x.l.take k).countP (isP i)) (by omega)
  rw [← e8] at wc
  have kk : decide (x.l[k].k.a = key) = decide ((x.l[k].k.a : Int) = (key : Int)) := by
   by_cases h : x.l[k].k.a = key
   ·simp [h]
   ·have : ¬ (x.l[k].k.a : Int) = (key : Int) := by omega
    simp [h, this]
  rw [kk] at e9
  cases hs : smK i key (x.l.take k)
  ·rw [hs] at e9 c9
   rw [Bool.false_and] at e9
   simp only [↓zp, zv, seval, c0, c1, c2, c8, c9, c10, hlt', ia1, hu, hp', ws, wc]
   exact ⟨_, by omega, k + 1, by omega, rfl, by simp only [zs, seval, c0], by simp only [zs, seval, c1], by simp only [zs, seval, c2], by simp only [zs, seval], by simp only [zs, seval, e9], by simp only [zs, seval], rfl⟩
  ·rw [hs] at e9 c9
   rw [Bool.true_and] at e9
   simp only [↓zp, zv, seval, c0, c1, c2, c8, c9, c10, hlt', ia1, hu, hp', ws, wc]
   exact ⟨_, by omega, k + 1, by omega, rfl, by simp only [zs, seval, c0], by simp only [zs, seval, c1], by simp only [zs, seval, c2], by simp only [zs, seval], by simp only [zs, seval, e9], by simp only [zs, seval], rfl⟩
 ·have q0 : isP i x.l[k] = false := by simpa using q
  simp only [q0, Bool.false_eq_true, if_false, Nat.add_zero, Bool.not_false, Bool.true_or, Bool.and_true] at e8 e9
  rw [← e8] at c8
  rw [← e9] at c9
  cases hu : x.l[k].u
  ·simp only [↓zp, zv, seval, c0, c1, c2, c8, c9, c10, hlt', ia1, hu, ws]
   exact ⟨_, by omega, k + 1, by omega, rfl, by simp only [zs, seval, c0], by simp only [zs, seval, c1], by simp only [zs, seval, c2], by simp only [zs, seval, c8], by simp only [zs, seval, c9], by simp only [zs, seval], rfl⟩
  ·have hp : ¬ x.l[k].p = i := fun hp => by simp [isP, hu, hp] at q0
   simp only [↓zp, zv, seval, c0, c1, c2, c8, c9, c10, hlt', ia1, hu, hp, ws]
   exact ⟨_, by omega, k + 1, by omega, rfl, by simp only [zs, seval, c0], by simp only [zs, seval, c1], by simp only [zs, seval, c2], by simp only [zs, seval, c8], by simp only [zs, seval, c9], by simp only [zs, seval], rfl⟩
end
end
section
open Go Go.VE Classical
theorem rep4 : rep 4 [V.int .i64 0] = [.int .i64 0, .int .i64 0, .int .i64 0, .int .i64 0] := rfl
theorem eq4 {a b c d n : Int} {neg : Bool} {h : Heap} : r_eqa neg [0, 0, 0, 0] (.agg [.int .i64 a, .int .i64 b, .int .i64 c, .int .i64 d]) (.agg [.int .i64 n, .int .i64 n, .int .i64 n, .int .i64 n]) h = some (.bool (bif neg then !decide (a = n ∧ b = n ∧ c = n ∧ d = n) else decide (a = n ∧ b = n ∧ c = n ∧ d = n)), h) :=
 eqaInts [(.i64, a, n), (.i64, b, n), (.i64, c, n), (.i64, d, n)] rfl rfl rfl (by simp)
theorem eqBZ {x : Bucket} {neg : Bool} {h : Heap} : r_eqa neg [0, 0, 0, 0, 0, 0] (.agg [.int .i64 x.l.b, .int .i64 x.l.r, .int .i64 x.l.p, .int .i64 x.lv, .int .i64 x.pt, .int .u64 x.t]) (.agg [.int .i64 0, .int .i64 0, .int .i64 0, .int .i64 0, .int .i64 0, .int .u64 0]) h = some (.bool (bif neg then !decide (BZ x) else decide (BZ x)), h) :=
 eqaInts [(.i64, x.l.b, 0), (.i64, x.l.r, 0), (.i64, x.l.p, 0), (.i64, x.lv, 0), (.i64, x.pt, 0), (.u64, x.t, 0)] rfl rfl rfl (by simp [BZ])
section
variable {vp : Nat → Option VFn}
def invT1 (t : Tab) (l : List Int) (ov : V) (bx : Nat) (H : Heap) (m : Nat) (s : Slots) (h : Heap) : Prop :=
 ∃ k, k ≤ t.us.l.length ∧ m = t.us.l.length - k ∧ s.at 1 = .ptr bx 0 ∧ s.at 5 = ov ∧ s.at 7 = .int .i64 (((t.us.l.take k).countP (fun u => u) : Nat) : Int) ∧ s.at 68 = t.us.v eO ∧ s.at 69 = .int .i64 (t.us.l.length : Int) ∧ s.at 70 = .int .i64 (k : Int) ∧ h = H ∧
  ∀ i (h1 : i < t.ks.l.length) (h2 : i < t.bk.l.length) (h3 : i < t.us.l.length), i < k → PlOk l t.ix.l i t.ks.l[i] t.bk.l[i] t.us.l[i]
def invT2 (t : Tab) (H : Heap) (m : Nat) (s : Slots) (h : Heap) : Prop :=
 ∃ k, k ≤ t.ix.l.length ∧ m = t.ix.l.length - k ∧ s.at 7 = .int .i64 ((t.us.l.countP (fun u => u) : Nat) - (((t.ix.l.take k).countP (fun c => c.u) : Nat) : Int)) ∧ s.at 134 = t.ix.v eC ∧ s.at 135 = .int .i64 (t.ix.l.length : Int) ∧ s.at 136 = .int .i64 (k : Int) ∧ Kp H h
theorem tbC_spec {f c1 c2 c3 c4 c5 c6 t1 t2 : Nat} (hf : vp f = some (Zzet c1 c2 c3 c4 c5 c6 t1 t2)) (m1 : modeOf vp c1 = some 1) (m2 : modeOf vp c2 = some 1) (m3 : modeOf vp c3 = some 1) (m4 : modeOf vp c4 = some 1) (m5 : modeOf vp c5 = some 1) (m6 : modeOf vp c6 = some 1)
  (ar : ∀ (nx : Sl Int) (u : Sl Bool) (fr : Int) (h : Heap), callRes vp c1 [.agg [nx.v eI, u.v eO, .int .i64 fr]] h = some (.int .i64 (chk (ArOk nx.l u.l fr)), h))
  (ix : ∀ (x : Sl Cell) (h : Heap), callRes vp c2 [x.v eC] h = some (.int .i64 (chk (IxOk x.l)), h))
  (li : ∀ (pr nx : Sl Int) (hd tl : Int) (h : Heap), ∃ r, callRes vp c3 [.agg [pr.v eI, nx.v eI, .int .i64 hd, .int .i64 tl]] h = some (r, h) ∧ ListIs pr.l nx.l hd tl r)
  (ct : ∀ (v : V) (l : List Int) (n : Int) (h : Heap), Rd eI 1 h v l → l.length < 4611686018427387904 → callRes vp c4 [v, .int .i64 n] h = some (.bool (l.any (isN n)), h))
  (fi : ∀ (x : Sl Cell) (key : K32) (h : Heap), callRes vp c5 [x.v eC, .int .u32 (key.a : Int)] h = some (.tup [.int .i64 (fP x.l key.a), .int .i64 (fE x.l key.a)], h))
  (bk : ∀ (b : Bucket) (h : Heap), callRes vp c6 [.agg (encB b)] h = some (.int .i64 (chkB b), h))
  (t : Tab) (h : Heap) : callRes vp f [.agg (encT t)] h = some (.int .i64 (chk (TbOk t)), h) := by
 refine res_pure hf rfl rfl (fun g hg => ?_)
 have hlo := hlo hg
 have l0 : ¬ g.nx + 1 < g.lo := by omega
 have ar := fun h => ar t.nx t.us t.fr h
 have ix := fun h => ix t.ix h
 unfold Zzet encT
 by_cases q1 : t.cap < 1
 ·have e := chk_n (p := TbOk t) (fun o => by have := o.sz.lo; omega)
  simp only [↓zp, zv, seval, rep4, l0, q1, e, frzI]
 by_cases q2 : 8 < t.cap
 ·have e := chk_n (p := TbOk t) (fun o => by have := o.sz.hi; omega)
  simp only [↓zp, zv, seval, rep4, l0, q1, q2, e, frzI]
 by_cases q3 : (t.ks.l.length : Int) = t.cap ∧ (t.bk.l.length : Int) = t.cap ∧ (t.nx.l.length : Int) = t.cap ∧ (t.op.l.length : Int) = t.cap
 case neg =>
  have q3' := decide_eq_false q3
  have e := chk_n (p := TbOk t) (fun o => q3 ⟨o.sz.ks, o.sz.bk, o.sz.nx, o.sz.op⟩)
  simp only [↓zp, zv, seval, rep4, l0, q1, q2, eq4, q3', e, frzI]
 have q3' := decide_eq_true q3
 by_cases q4 : ArOk t.nx.l t.us.l t.fr
 case neg =>
  have e4 := chk_n q4
  have e := chk_n (p := TbOk t) (fun o => q4 o.ar)
  simp only [↓zp, zv, seval, rep4, l0, q1, q2, eq4, q3', m1, ar, e4, e, frzI]
 have e4 := chk_y q4
 by_cases q5 : IxOk t.ix.l
 case neg =>
  have e5 := chk_n q5
  have e := chk_n (p := TbOk t) (fun o => q5 o.ix)
  simp only [↓zp, zv, seval, rep4, l0, q1, q2, eq4, q3', m1, ar, e4, m2, ix, e5, e, frzI]
 have e5 := chk_y q5
 obtain ⟨H, hH⟩ : ∃ H, ((g.new (.cells [.int .i64 t.cap, t.ks.v eK, t.bk.v encB, t.nx.v eI, t.us.v eO, .int .i64 t.fr, t.ix.v eC, t.op.v eI, t.on.v eI, .int .i64 t.hd, .int .i64 t.tl] .cl)).new (.cells [.int .i64 0, .int .i64 0, .int .i64 0, .int .i64 0] (.ct t1))).set (g.nx + 1) (.cells [.int .i64 t.ks.l.length, .int .i64 t.bk.l.length, .int .i64 t.nx.l.length, .int .i64 t.op.l.length] (.ct t1)) = H := ⟨_, rfl⟩
 have hga : H.get g.nx = .cells [.int .i64 t.cap, t.ks.v eK, t.bk.v encB, t.nx.v eI, t.us.v eO, .int .i64 t.fr, t.ix.v eC, t.op.v eI, t.on.v eI, .int .i64 t.hd, .int .i64 t.tl] .cl := by rw [← hH]; simp only [↓zp, zv, seval]
 have hgb : H.get (g.nx + 1) = .cells [.int .i64 t.ks.l.length, .int .i64 t.bk.l.length, .int .i64 t.nx.l.length, .int .i64 t.op.l.length] (.ct t1) := by rw [← hH]; simp only [↓zp, zv, seval]
 have kpH : Kp g H := by rw [← hH]; exact (((Kp.refl g).new _).new _).set _ (by omega)
 obtain ⟨r, er, o, rfl, ho⟩ := li t.op t.on t.hd t.tl H
 by_cases q6 : OrOk t.op.l t.on.l t.hd t.tl
 case neg =>
  have e6 := chk_n q6
  have e := chk_n (p := TbOk t) (fun o => q6 o.od)
  simp only [↓zp, zv, seval, rep4, l0, q1, q2, hH, hga, hgb, eq4, q3', m1, ar, e4, m2, ix, e5, m3, er, e6, e, frzI]
 have e6 := chk_y q6
 have ho := ho q6
 have acc := q6.acc
 have sz : Sizes t := ⟨by omega, by omega, q3.1, q3.2.1, q3.2.2.1, q3.2.2.2⟩
 have lus : t.us.l.length = t.nx.l.length := q4.2.2.1
 obtain ⟨z1, z2, z3, z4⟩ := q3
 simp only [↓zp, zv, seval, rep4, l0, q1, q2, hH, hga, hgb, eq4, q3', m1, ar, e4, m2, ix, e5, m3, er, e6, not_true]
 generalize hS : Tr.set _ 70 _ = S
 have b1 : Slots.at S 1 = .ptr g.nx 0 := by rw [← hS]; simp only [zs, seval]
 have b5 : Slots.at S 5 = o.v eI := by rw [← hS]; simp only [zs, seval]
 have b7 : Slots.at S 7 = .int .i64 (((t.us.l.take 0).countP (fun u => u) : Nat) : Int) := by rw [← hS]; simp only [zs, seval] <;> rfl
 have b68 : Slots.at S 68 = t.us.v eO := by rw [← hS]; simp only [zs, seval]
 have b69 : Slots.at S 69 = .int .i64 (t.us.l.length : Int) := by rw [← hS]; simp only [zs, seval]
 have b70 : Slots.at S 70 = .int .i64 ((0 : Nat) : Int) := by rw [← hS]; simp only [zs, seval] <;> rfl
 clear hS
 refine loop_ind (fun m s h => invT1 t o.l (o.v eI) g.nx H m s h) ?_ t.us.l.length ⟨0, by omega, by omega, b1, b5, b7, b68, b69, b70, rfl, fun _ _ _ _ hj => by omega⟩
 clear b1 b5 b7 b68 b69 b70 hH er
 rintro m s h ⟨k, hk, hm, c1', c5', c7, c68, c69, c70, rfl, hinc⟩
 by_cases hlt : k < t.us.l.length
 case pos =>
  have hlt' : (k : Int) < (t.us.l.length : Int) := by omega
  have hkk : k < t.ks.l.length := by omega
  have hkb : k < t.bk.l.length := by omega
  have ws := wr_succ (k := k) (by omega)
  have ia1 : ∀ h, r_ia 1 (t.us.v eO) (.int .i64 (k : Int)) h = some (.iptr (.bool t.us.l[k] :: (t.us.l.drop (k + 1)).flatMap eO), h) := fun h => by rw [r_ia_v eO_len (by decide) hlt rfl]; rfl
  have ia2 : ∀ h, r_ia 1 (t.ks.v eK) (.int .i64 (k : Int)) h = some (.iptr (.int .u32 (t.ks.l[k].a : Int) :: (t.ks.l.drop (k + 1)).flatMap eK), h) := fun h => by rw [r_ia_v eK_len (by decide) hkk rfl]; rfl
  have ia3 := fun h => r_ia_v (h := h) (c := t.bk) encB_len (by decide) hkb rfl
  have inn := ct (o.v eI) o.l k h (Rd.sl o) (by have := acc.len; rw [ho]; omega)
  have fi := fun h => fi t.ix t.ks.l[k] h
  have bk := fun h => bk t.bk.l[k] h
  simp only [encB] at ia3 bk
  have bad : ¬ PlOk o.l t.ix.l k t.ks.l[k] t.bk.l[k] t.us.l[k] → chk (TbOk t) = 8 := fun hb => chk_n (fun x => hb (by rw [ho]; exact x.pl k hkk hkb hlt))
  have good : PlOk o.l t.ix.l k t.ks.l[k] t.bk.l[k] t.us.l[k] → ∀ i (h1 : i < t.ks.l.length) (h2 : i < t.bk.l.length) (h3 : i < t.us.l.length), i < k + 1 → PlOk o.l t.ix.l i t.ks.l[i] t.bk.l[i] t.us.l[i] := fun hp i h1 h2 h3 hik => by
   rcases Nat.lt_or_ge i k with r | r
   ·exact hinc i h1 h2 h3 r
   ·have : i = k := by omega
    subst this
    exact hp
  have e7 : (t.us.l.take (k + 1)).countP (fun u => u) = (t.us.l.take k).countP (fun u => u) + (if t.us.l[k] = true then 1 else 0) := by rw [List.take_succ_eq_append_getElem hlt, List.countP_append, List.countP_singleton]
  cases hu : t.us.l[k] <;> cases hi : o.l.any (isN k) <;> simp only [hu] at ia1 bad good
  ·simp only [hu, Bool.false_eq_true, if_false, Nat.add_zero] at e7
   rw [← e7] at c7
   by_cases kz : t.ks.l[k].a = 0
   ·have kz' := eq_true (show (t.ks.l[k].a : Int) = 0 by omega)
    by_cases bz : BZ t.bk.l[k]
    ·have bz' := decide_eq_true bz
     have pl : PlOk o.l t.ix.l k t.ks.l[k] t.bk.l[k] false := ⟨hi.symm, fun _ => ⟨kz, bz⟩, fun h => by cases h⟩
     simp only [↓zp, zv, seval, c1', c5', c7, c68, c69, c70, hlt', ia1, ia2, ia3, m4, inn, hi, eqb_ff, hga, kz', eqBZ, bz', not_true, ws]
     exact ⟨_, by omega, k + 1, by omega, rfl, by simp only [zs, seval, c1'], by simp only [zs, seval, c5'], by simp only [zs, seval, c7], by simp only [zs, seval, c68], by simp only [zs, seval, c69], by simp only [zs, seval], rfl, good pl⟩
    ·have bz' := decide_eq_false bz
     have e := bad (fun p => bz (p.2.1 rfl).2)
     simp only [↓zp, zv, seval, c1', c5', c7, c68, c69, c70, hlt', ia1, ia2, ia3, m4, inn, hi, eqb_ff, hga, kz', eqBZ, bz', not_true, e, frzI]
   ·have kz' : ¬ (t.ks.l[k].a : Int) = 0 := by omega
    have e := bad (fun p => kz (p.2.1 rfl).1)
    simp only [↓zp, zv, seval, c1', c5', c7, c68, c69, c70, hlt', ia1, ia2, m4, inn, hi, eqb_ff, hga, kz', not_false_eq_true, e, frzI]
  ·have e := bad (fun p => by have := p.1; rw [hi] at this; cases this)
   simp only [↓zp, zv, seval, c1', c5', c7, c68, c69, c70, hlt', ia1, m4, inn, hi, eqb_ft, e, frzI]
  ·have e := bad (fun p => by have := p.1; rw [hi] at this; cases this)
   simp only [↓zp, zv, seval, c1', c5', c7, c68, c69, c70, hlt', ia1, m4, inn, hi, eqb_tf, e, frzI]
  ·have wc := wr_succ (k := (t.us.l.take k).countP (fun u => u)) (by have : (t.us.l.take k).countP (fun u => u) ≤ _ := List.countP_le_length; simp only [List.length_take] at this; omega)
   rw [hu, if_pos rfl] at e7
   rw [← e7] at wc
   by_cases fe : fE t.ix.l t.ks.l[k].a = 0
   case neg =>
    have e := bad (fun p => by
     obtain ⟨⟨c, hc, _⟩, _⟩ := p.2.2 rfl
     exact fe (by unfold fE; rw [if_pos q5, hc]; rfl))
    simp only [↓zp, zv, seval, c1', c5', c7, c68, c69, c70, hlt', ia1, ia2, m4, inn, hi, eqb_tt, hga, wc, m5, fi, fe, not_false_eq_true, e, frzI]
   have fe' := eq_true fe
   obtain ⟨c, hc⟩ : ∃ c, fnd t.ix.l t.ks.l[k].a = some c := by
    cases hq : fnd t.ix.l t.ks.l[k].a with
    | some c => exact ⟨c, rfl⟩
    | none => unfold fE at fe; rw [if_pos q5, hq] at fe; simp at fe
   have fp : fP t.ix.l t.ks.l[k].a = c.p := by unfold fP; rw [if_pos q5, hc]; rfl
   by_cases cp : c.p = (k : Int)
   case neg =>
    have e := bad (fun p => by
     obtain ⟨⟨c', hc', hp⟩, _⟩ := p.2.2 rfl
     rw [hc] at hc'
     cases hc'
     exact cp hp)
    simp only [↓zp, zv, seval, c1', c5', c7, c68, c69, c70, hlt', ia1, ia2, m4, inn, hi, eqb_tt, hga, wc, m5, fi, fe', fp, cp, not_true, not_false_eq_true, e, frzI]
   have cp' := eq_true cp
   by_cases cb : chkB t.bk.l[k] = 0
   case neg =>
    have e := bad (fun p => cb (p.2.2 rfl).2)
    simp only [↓zp, zv, seval, c1', c5', c7, c68, c69, c70, hlt', ia1, ia2, ia3, m4, inn, hi, eqb_tt, hga, wc, m5, fi, fe', fp, cp', m6, bk, cb, not_true, not_false_eq_true, e, frzI]
   have cb' := eq_true cb
   have pl : PlOk o.l t.ix.l k t.ks.l[k] t.bk.l[k] true := ⟨hi.symm, fun h => (by cases h), fun _ => ⟨⟨c, hc, cp⟩, cb⟩⟩
   simp only [↓zp, zv, seval, c1', c5', c7, c68, c69, c70, hlt', ia1, ia2, ia3, m4, inn, hi, eqb_tt, hga, wc, m5, fi, fe', fp, cp', m6, bk, cb', not_true, ws]
   exact ⟨_, by omega, k + 1, by omega, rfl, by simp only [zs, seval, c1'], by simp only [zs, seval, c5'], by simp only [zs, seval], by simp only [zs, seval, c68], by simp only [zs, seval, c69], by simp only [zs, seval], rfl, good pl⟩
 have hlt' : ¬ ((k : Int) < (t.us.l.length : Int)) := by omega
 obtain rfl : k = t.us.l.length := by omega
 rw [List.take_length] at c7
 have lix := q5.1
 have lec : t.us.l.countP (fun u => u) ≤ 8 := by have : t.us.l.countP (fun u => u) ≤ _ := List.countP_le_length; omega
 simp only [↓zp, zv, seval, c1', c5', c7, c68, c69, c70, hlt', hga]
 generalize hS : Tr.set _ 136 _ = S
 have b7 : Slots.at S 7 = .int .i64 ((t.us.l.countP (fun u => u) : Nat) - (((t.ix.l.take 0).countP (fun c => c.u) : Nat) : Int)) := by rw [← hS]; simp only [zs, seval, c7]; simp
 have b134 : Slots.at S 134 = t.ix.v eC := by rw [← hS]; simp only [zs, seval]
 have b135 : Slots.at S 135 = .int .i64 (t.ix.l.length : Int) := by rw [← hS]; simp only [zs, seval]
 have b136 : Slots.at S 136 = .int .i64 ((0 : Nat) : Int) := by rw [← hS]; simp only [zs, seval] <;> rfl
 clear hS
 refine loop_ind (fun m s h2 => invT2 t h m s h2) ?_ t.ix.l.length ⟨0, by omega, by omega, b7, b134, b135, b136, Kp.refl h⟩
 clear b7 b134 b135 b136 c1' c5' c7 c68 c69 c70
 rintro m s h2 ⟨k, hk, hm, c7, c134, c135, c136, kp⟩
 have l1 : ¬ h2.nx < h2.lo := by have := kp.lo; have := kp.nx; have := kpH.lo; have := kpH.nx; omega
 by_cases hlt : k < t.ix.l.length
 case pos =>
  have hlt' : (k : Int) < (t.ix.l.length : Int) := by omega
  have ws := wr_succ (k := k) (by omega)
  have ia1 : ∀ h, r_ia 3 (t.ix.v eC) (.int .i64 (k : Int)) h = some (.iptr (.int .u32 (t.ix.l[k].k.a : Int) :: .int .i64 t.ix.l[k].p :: .bool t.ix.l[k].u :: (t.ix.l.drop (k + 1)).flatMap eC), h) := fun h => by rw [r_ia_v eC_len (by decide) hlt rfl]; rfl
  have e := cn_succ hlt
  have le := cn_le (x := t.ix.l) (k := k)
  cases hu : t.ix.l[k].u
  ·simp only [hu, Bool.false_eq_true, if_false, Nat.add_zero] at e
   rw [← e] at c7
   simp only [↓zp, zv, seval, c7, c134, c135, c136, hlt', ia1, l1, hu, ws]
   exact ⟨_, by omega, k + 1, by omega, rfl, by simp only [zs, seval, c7], by simp only [zs, seval, c134], by simp only [zs, seval, c135], by simp only [zs, seval], (kp.new _).set _ kp.nx⟩
  ·rw [hu, if_pos rfl] at e
   have wc : wr .i64 ((t.us.l.countP (fun u => u) : Nat) - (((t.ix.l.take k).countP (fun c => c.u) : Nat) : Int) - 1) = (t.us.l.countP (fun u => u) : Nat) - (((t.ix.l.take (k + 1)).countP (fun c => c.u) : Nat) : Int) := by
    rw [wr_i64 (by omega) (by omega)]; omega
   simp only [↓zp, zv, seval, c7, c134, c135, c136, hlt', ia1, l1, hu, ws, wc]
   exact ⟨_, by omega, k + 1, by omega, rfl, by simp only [zs, seval], by simp only [zs, seval, c134], by simp only [zs, seval, c135], by simp only [zs, seval], (kp.new _).set _ kp.nx⟩
 have hlt' : ¬ ((k : Int) < (t.ix.l.length : Int)) := by omega
 obtain rfl : k = t.ix.l.length := by omega
 rw [List.take_length] at c7
 by_cases qe : t.us.l.countP (fun u => u) = t.ix.l.countP (fun c => c.u)
 ·have qe' := eq_true (show ((t.us.l.countP (fun u => u) : Nat) : Int) - ((t.ix.l.countP (fun c => c.u) : Nat) : Int) = 0 by omega)
  have e := chk_y (p := TbOk t) ⟨sz, q4, q5, q6, fun i h1 h2 h3 => ho ▸ hinc i h1 h2 h3 (by omega), qe⟩
  simp only [↓zp, zv, seval, c7, c134, c135, c136, hlt', qe', not_true, e, frzI]
 ·have qe' : ¬ ((t.us.l.countP (fun u => u) : Nat) : Int) - ((t.ix.l.countP (fun c => c.u) : Nat) : Int) = 0 := by omega
  have e := chk_n (p := TbOk t) (fun o => qe o.ct)
  simp only [↓zp, zv, seval, c7, c134, c135, c136, hlt', qe', not_false_eq_true, e, frzI]
end
end
end Go.VE.LB
