/- What the functions of the law DifferChecks compute, on typed arguments (part 18). -/
import Derived.Test.YtlomleifnbpghabDifferChecksA17
set_option linter.all false
namespace Go.VE.LB
open Go Go.VE Classical
set_option maxRecDepth 100000
set_option linter.all false
theorem SameA.revl {x y : Acct} (s : SameA x y) : x.rev.l = y.rev.l := List.ext_getElem s.len (fun k h1 h2 => s.rev k h1 h2)
theorem SameA.refl (x : Acct) : SameA x x := ⟨rfl, fun _ _ _ => rfl, rfl, ⟨rfl, rfl, rfl⟩, ⟨rfl, rfl⟩, rfl, rfl, rfl, ⟨rfl, rfl, rfl⟩⟩
theorem SameA.symm {x y : Acct} (s : SameA x y) : SameA y x := ⟨s.len.symm, fun k h h' => (s.rev k h' h).symm, s.t.symm, ⟨s.ls.1.symm, s.ls.2.1.symm, s.ls.2.2.symm⟩, ⟨s.cs.1.symm, s.cs.2.symm⟩, s.own.symm, s.us.symm, s.en.symm, ⟨s.ta.1.symm, s.ta.2.1.symm, s.ta.2.2.symm⟩⟩
theorem SameA.trans {x y z : Acct} (s : SameA x y) (q : SameA y z) : SameA x z := ⟨s.len.trans q.len, fun k h h' => (s.rev k h (by rw [← s.len]; exact h)).trans (q.rev k _ h'), s.t.trans q.t, ⟨s.ls.1.trans q.ls.1, s.ls.2.1.trans q.ls.2.1, s.ls.2.2.trans q.ls.2.2⟩, ⟨s.cs.1.trans q.cs.1, s.cs.2.trans q.cs.2⟩, s.own.trans q.own, s.us.trans q.us, s.en.trans q.en, ⟨s.ta.1.trans q.ta.1, s.ta.2.1.trans q.ta.2.1, s.ta.2.2.trans q.ta.2.2⟩⟩
theorem AOk.of_same {x y : Acct} (s : SameA x y) (q : AOk x) : AOk y := by
  have r := s.revl
  obtain ⟨s1, s2, s3⟩ := s.ls
  obtain ⟨s4, s5⟩ := s.cs
  refine ⟨by rw [← s.t]; exact q.t, by rw [← r]; exact q.rl, by rw [← s1]; exact q.l0, by rw [← s2]; exact q.l1, by rw [← s3]; exact q.l2, by rw [← s4]; exact q.c0, by rw [← s4]; exact q.d0, by rw [← s5]; exact q.c1, by rw [← s5]; exact q.d1, ?_, by rw [← s.own]; exact q.own, by rw [← s.own, ← s1]; exact q.ol, by rw [← s.us, ← s4, ← s2]; exact q.us, by rw [← s.en, ← s5, ← s3]; exact q.en⟩
  intro k h
  have := q.inc k (by rw [r]; exact h)
  simpa only [r] using this
theorem late_same {x y : Acct} (s : SameA x y) (now : Int) : lateA now x = lateA now y := by
  unfold lateA
  rw [s.own, s.us, s.en]
theorem MOk.of_same {x y : Acct} (s : SameA x y) {now : Int} {ep : List Int} (q : MOk now ep [x]) : MOk now ep [y] := by
  refine ⟨q.len, q.ep, fun k h => ?_, fun k h => ?_, fun k h => by simp at h⟩
  · obtain rfl : k = 0 := by simpa using h
    exact AOk.of_same s (q.ok 0 (by simp))
  · obtain rfl : k = 0 := by simpa using h
    have := q.late 0 (by simp)
    simp only [List.getElem_cons_zero] at this ⊢
    rw [← late_same s]; exact this
def SameK (x y : Lack) : Prop := x.t = y.t ∧ x.e = y.e ∧ x.is = y.is ∧ SameA x.a y.a
theorem SameK.refl (x : Lack) : SameK x x := ⟨rfl, rfl, rfl, SameA.refl _⟩
theorem SameK.symm {x y : Lack} (s : SameK x y) : SameK y x := ⟨s.1.symm, s.2.1.symm, s.2.2.1.symm, s.2.2.2.symm⟩
theorem SameK.trans {x y z : Lack} (s : SameK x y) (q : SameK y z) : SameK x z := ⟨s.1.trans q.1, s.2.1.trans q.2.1, s.2.2.1.trans q.2.2.1, s.2.2.2.trans q.2.2.2⟩
theorem LackOk.of_same {x y : Lack} (s : SameK x y) {now : Int} (q : LackOk now x) : LackOk now y := by
  obtain ⟨s1, s2, s3, s4⟩ := s
  obtain ⟨q1, q2, q3, q4⟩ := q
  refine ⟨by rw [← s1]; exact q1, by rw [← s2]; exact q2, fun h => ?_, fun h => ?_⟩
  · obtain ⟨a, b⟩ := q3 (by rw [s3]; exact h)
    exact ⟨by rw [← s4.t, ← s1]; exact a, MOk.of_same s4 b⟩
  · exact s4.symm.trans (q4 (by rw [s3]; exact h))
/-- lists of the same lacks -/
def AllK (l m : List Lack) : Prop := l.length = m.length ∧ ∀ k (h : k < l.length) (h' : k < m.length), SameK l[k] m[k]
theorem AllK.refl (l : List Lack) : AllK l l := ⟨rfl, fun _ _ _ => SameK.refl _⟩
theorem AllK.symm {l m : List Lack} (s : AllK l m) : AllK m l := ⟨s.1.symm, fun k h h' => (s.2 k h' h).symm⟩
theorem AllK.trans {l m n : List Lack} (s : AllK l m) (q : AllK m n) : AllK l n := ⟨s.1.trans q.1, fun k h h' => (s.2 k h (by rw [← s.1]; exact h)).trans (q.2 k _ h')⟩
theorem AllK.snoc {l m : List Lack} (s : AllK l m) {x y : Lack} (q : SameK x y) : AllK (l ++ [x]) (m ++ [y]) := ⟨by simp [s.1], fun k h h' => by
  have e := s.1
  by_cases hk : k < l.length
  · rw [List.getElem_append_left hk, List.getElem_append_left (by omega)]
    exact s.2 k hk (by omega)
  · simp only [List.length_append, List.length_cons, List.length_nil] at h h'
    have : k = l.length := by omega
    subst this
    have e1 : (l ++ [x])[l.length]'(by simp) = x := by simp
    have e2 : (m ++ [y])[l.length]'(by simp [e]) = y := by
      rw [List.getElem_append_right (by omega)]
      simp
    rw [e1, e2]
    exact q⟩
theorem DOk.of_same {l m : List Lack} (s : AllK l m) {now : Int} (q : DOk now l) : DOk now m := ⟨fun k h => LackOk.of_same (s.2 k (by rw [s.1]; exact h) h) (q.each k (by rw [s.1]; exact h)), fun k h => by
  have h2 : k + 1 < l.length := by rw [s.1]; exact h
  rw [← (s.2 (k + 1) h2 h).1, ← (s.2 k (by omega) (by omega)).1]
  exact q.inc k h2⟩
theorem chkD_same {l m : List Lack} (s : AllK l m) (now : Int) : chkD now l = chkD now m := by
  have e : DOk now l = DOk now m := propext ⟨fun q => q.of_same s, fun q => q.of_same s.symm⟩
  unfold chkD
  simp only [s.1, e]

def merge : List Lack → List Lack → List Lack
  | [], e => e
  | x :: d, [] => x :: d
  | x :: d, y :: e => if x.t < y.t then x :: merge d (y :: e) else if x.t = y.t then y :: merge d e else y :: merge (x :: d) e
  termination_by d e => d.length + e.length
theorem merge_nil (d : List Lack) : merge d [] = d := by
  cases d <;> simp [merge]
theorem fm_congr {α β : Type} {f g : α → Option β} : ∀ {l : List α}, (∀ x ∈ l, f x = g x) → l.filterMap f = l.filterMap g
  | [], _ => rfl
  | x :: l, h => by
    rw [List.filterMap_cons, List.filterMap_cons, h x (by simp), fm_congr (l := l) (fun y hy => h y (by simp [hy]))]
def pick (d e : List Lack) (t : Nat) : Option Lack := match e.find? (isT t) with
  | some y => some y
  | none => d.find? (isT t)
def Asc (l : List Lack) : Prop := l.Pairwise fun x y => x.t < y.t
theorem head_or (n : Nat) {l : List Lack} (ha : Asc l) (hn : ∀ x ∈ l, (n : Int) ≤ x.t) : (∃ y l', l = y :: l' ∧ y.t = n ∧ ∀ x ∈ l', ((n + 1 : Nat) : Int) ≤ x.t) ∨ ∀ x ∈ l, ((n + 1 : Nat) : Int) ≤ x.t := by
  cases l with
  | nil => exact .inr (fun x hx => by simp at hx)
  | cons y l' =>
    have h1 := (List.pairwise_cons.1 ha).1
    have h2 := hn y (by simp)
    by_cases h : y.t = n
    · exact .inl ⟨y, l', rfl, h, fun x hx => by have := h1 x hx; omega⟩
    · refine .inr (fun x hx => ?_)
      rcases List.mem_cons.1 hx with rfl | hx
      · omega
      · have := h1 x hx; omega
theorem find_ge {n : Nat} {l : List Lack} (h : ∀ x ∈ l, ((n + 1 : Nat) : Int) ≤ x.t) : l.find? (isT n) = none := by
  rw [List.find?_eq_none]
  intro x hx
  have := h x hx
  simp only [isT, decide_eq_true_eq]
  omega
theorem find_tail {n t : Nat} {y : Lack} {l : List Lack} (hy : y.t = n) (ht : n + 1 ≤ t) : (y :: l).find? (isT t) = l.find? (isT t) := by
  rw [List.find?_cons_of_neg]
  simp only [isT, decide_eq_true_eq]
  omega
theorem merge_pick : ∀ (m n : Nat) (d e : List Lack), n + m = 16 → Asc d → Asc e → (∀ x ∈ d, (n : Int) ≤ x.t ∧ x.t < 16) → (∀ x ∈ e, (n : Int) ≤ x.t ∧ x.t < 16) → merge d e = (List.range' n m).filterMap (pick d e)
  | 0, n, d, e, hn, ad, ae, hd, he => by
    cases d with
    | cons x d => have := hd x (by simp); omega
    | nil => cases e with
      | cons x e => have := he x (by simp); omega
      | nil => simp [merge]
  | m + 1, n, d, e, hn, ad, ae, hd, he => by
    rw [List.range'_succ, List.filterMap_cons]
    have cg : ∀ (d' e' : List Lack), (∀ t, n + 1 ≤ t → pick d e t = pick d' e' t) → (List.range' (n + 1) m).filterMap (pick d e) = (List.range' (n + 1) m).filterMap (pick d' e') := fun d' e' h => fm_congr (fun t ht => h t (by have := List.mem_range'_1.1 ht; omega))
    rcases head_or n ae (fun x hx => (he x hx).1) with ⟨y, e', rfl, hy, h2⟩ | h2
    · have fy : (y :: e').find? (isT n) = some y := List.find?_cons_of_pos (by simp [isT, hy])
      have pe : pick d (y :: e') n = some y := by simp only [pick, fy]
      have ae' := (List.pairwise_cons.1 ae).2
      rw [pe]
      rcases head_or n ad (fun x hx => (hd x hx).1) with ⟨x, d', rfl, hx, h1⟩ | h1
      · have ad' := (List.pairwise_cons.1 ad).2
        rw [cg d' e' (fun t ht => by simp only [pick, find_tail hy ht, find_tail hx ht]), merge, if_neg (by omega), if_pos (by omega), merge_pick m (n + 1) d' e' (by omega) ad' ae' (fun z hz => ⟨h1 z hz, (hd z (by simp [hz])).2⟩) (fun z hz => ⟨h2 z hz, (he z (by simp [hz])).2⟩)]
      · have ih := merge_pick m (n + 1) d e' (by omega) ad ae' (fun z hz => ⟨h1 z hz, (hd z hz).2⟩) (fun z hz => ⟨h2 z hz, (he z (by simp [hz])).2⟩)
        rw [cg d e' (fun t ht => by simp only [pick, find_tail hy ht]), ← ih]
        cases d with
        | nil => simp [merge]
        | cons x d' =>
          have := h1 x (by simp)
          rw [merge, if_neg (by omega), if_neg (by omega)]
    · have fy : e.find? (isT n) = none := find_ge h2
      rcases head_or n ad (fun x hx => (hd x hx).1) with ⟨x, d', rfl, hx, h1⟩ | h1
      · have fx : (x :: d').find? (isT n) = some x := List.find?_cons_of_pos (by simp [isT, hx])
        have pe : pick (x :: d') e n = some x := by simp only [pick, fy, fx]
        have ad' := (List.pairwise_cons.1 ad).2
        have ih := merge_pick m (n + 1) d' e (by omega) ad' ae (fun z hz => ⟨h1 z hz, (hd z (by simp [hz])).2⟩) (fun z hz => ⟨h2 z hz, (he z hz).2⟩)
        rw [pe, cg d' e (fun t ht => by simp only [pick, find_tail hx ht]), ← ih]
        cases e with
        | nil => simp only [merge_nil]
        | cons y e' =>
          have := h2 y (by simp)
          rw [merge, if_pos (by omega)]
      · have fx : d.find? (isT n) = none := find_ge h1
        have pe : pick d e n = none := by simp only [pick, fy, fx]
        rw [pe]
        exact merge_pick m (n + 1) d e (by omega) ad ae (fun z hz => ⟨h1 z hz, (hd z hz).2⟩) (fun z hz => ⟨h2 z hz, (he z hz).2⟩)
theorem asc_of {l : List Lack} (h : ∀ k (h : k + 1 < l.length), ¬ l[k + 1].t ≤ l[k].t) : Asc l := by
  unfold Asc
  rw [List.pairwise_iff_getElem]
  have : ∀ (n i : Nat) (h1 : i + n + 1 < l.length), l[i].t < l[i + n + 1].t := by
    intro n
    induction n with
    | zero => intro i h1; have := h i h1; simp only [Nat.add_zero]; omega
    | succ n ih =>
      intro i h1
      have a := ih i (by omega)
      have b := h (i + n + 1) (by omega)
      show l[i].t < l[i + n + 1 + 1].t
      omega
  intro i j hi hj hij
  have := this (j - i - 1) i (by omega)
  have e : i + (j - i - 1) + 1 = j := by omega
  simpa only [e] using this
/-- The merge is, tenant by tenant, the second's lack or else the first's. -/
theorem merge_J {d e : List Lack} {nd ne : Int} (hd : DOk nd d) (he : DOk ne e) : merge d e = (List.range' 0 16).filterMap (pick d e) :=
  merge_pick 16 0 d e rfl (asc_of hd.inc) (asc_of he.inc) (fun x hx => by
    obtain ⟨k, hk, rfl⟩ := List.mem_iff_getElem.1 hx
    have := (hd.each k hk).1
    exact ⟨d[k].ok, by omega⟩) (fun x hx => by
    obtain ⟨k, hk, rfl⟩ := List.mem_iff_getElem.1 hx
    have := (he.each k hk).1
    exact ⟨e[k].ok, by omega⟩)
end Go.VE.LB
