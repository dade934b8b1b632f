/- What the functions of the law DifferChecks compute, on typed arguments (part 19). -/
import Derived.Test.YtlomleifnbpghabDifferChecksA18
set_option linter.all false
namespace Go.VE.LB
open Go Go.VE Classical
set_option maxRecDepth 100000
set_option maxHeartbeats 4000000
set_option linter.all false
structure Ext (h h' : Heap) : Prop where
  lo : h'.lo = h.lo
  nx : h.nx ≤ h'.nx
  get : ∀ b, b < h.nx → (∀ cs, h.get b ≠ .cells cs .op) → h'.get b = h.get b
structure ExtB (bo : Nat) (h h' : Heap) : Prop where
  lo : h'.lo = h.lo
  nx : h.nx ≤ h'.nx
  get : ∀ b, b < h.nx → b ≠ bo → (∀ cs, h.get b ≠ .cells cs .op) → h'.get b = h.get b
theorem ExtB.refl (bo : Nat) (h : Heap) : ExtB bo h h := ⟨rfl, Nat.le_refl _, fun _ _ _ _ => rfl⟩
theorem ExtB.trans {bo : Nat} {a b c : Heap} (x : ExtB bo a b) (y : ExtB bo b c) : ExtB bo a c :=
  ⟨y.lo.trans x.lo, Nat.le_trans x.nx y.nx, fun i hi hb hne => by
    have e := x.get i hi hb hne
    rw [y.get i (Nat.lt_of_lt_of_le hi x.nx) hb (by rw [e]; exact hne), e]⟩
theorem Acc.newK {h : Heap} {v : V} {l : List Lack} (a : Acc encK 27 h v l) (x : Blk) : Acc encK 27 (h.new x) v l := a.keep rfl (by simp [Heap.new]) (fun b _ hb _ => by rw [Heap.get_new, if_neg (by omega)])
theorem pushK {h : Heap} {v : V} {l : List Lack} (a : Acc encK 27 h v l) (hlo : h.lo ≤ h.nx) (c : Lack) (hb : (l.length + 1) * 256 ≤ 140737488355328) :
    ∃ v' h', r_app 27 256 v (.sl h.nx 0 1 1 27) (h.new (.cells (encK c) .cl)) = some (v', h') ∧ Ext h h' ∧ Acc encK 27 h' v' (l ++ [c]) := by
  obtain ⟨v', h', e1, e2, e3, e4, e5⟩ := (Acc.newK a (.cells (encK c) .cl)).app encK_len encK_one (bx := h.nx) (y := c) (tx := .cl) (by rw [Heap.get_new, if_pos rfl]) hb
  refine ⟨v', h', e1, ⟨e2, by rw [e3]; simp [Heap.new]; omega, fun b hb hne => ?_⟩, e4 (by show h.lo ≤ h.nx + 1; omega)⟩
  have e6 : (h.new (.cells (encK c) .cl)).get b = h.get b := by rw [Heap.get_new, if_neg (by omega)]
  rw [e5 b (by show b < h.nx + 1; omega) (by rw [e6]; exact hne), e6]
theorem Acc.oneK {h : Heap} {v : V} {l : List Lack} (a : Acc encK 27 h v l) : oneCell v = true ∧ cellsO v = some [v] := by
  rcases a with ⟨rfl, _⟩ | ⟨b, rfl, _⟩ <;> exact ⟨rfl, rfl⟩
/-- the difference that is put together -/
def OrdK (bo t : Nat) (now : Int) (h : Heap) (l : List Lack) : Prop := ∃ v, h.get bo = .cells [.int .u64 now, v] (.ct t) ∧ Acc encK 27 h v l ∧ h.lo ≤ bo ∧ bo < h.nx
theorem OrdK.new {bo t : Nat} {now : Int} {h : Heap} {l : List Lack} (o : OrdK bo t now h l) (x : Blk) : OrdK bo t now (h.new x) l := by
  obtain ⟨v, h1, h2, h3, h4⟩ := o
  exact ⟨v, by rw [Heap.get_new, if_neg (by omega)]; exact h1, Acc.newK h2 x, h3, by simp [Heap.new]; omega⟩
section
variable {vp : Nat → Option VFn}
theorem put_spec {f c1 d1 d2 t2 : Nat} (hf : vp f = some (B_differ_Join_fn1 c1)) (h1 : vp c1 = some (B_differ_clone d1 d2 t2)) (h2 : vp d1 = some B_slices_Clone_api_Held) (h3 : vp d2 = some B_slices_Clone_uint32)
    (x : Lack) (sh : Short x.a) (bo t : Nat) (now : Int) (l : List Lack) (h : Heap) (o : OrdK bo t now h l) (hb : (l.length + 1) * 256 ≤ 140737488355328) :
    ∃ y h', SameK x y ∧ callRes vp f [.agg (encK x), .ptr bo 0] h = some (.tup [], h') ∧ OrdK bo t now h' (l ++ [y]) ∧ ExtB bo h h' := by
  have m1 : modeOf vp c1 = some 1 := by simp [modeOf, h1, B_differ_clone]
  obtain ⟨v, o1, o2, o3, o4⟩ := o
  obtain ⟨ya, sa, ec⟩ := clone_spec h1 h2 h3 x.a sh (h.new (.cells (encK x) .cl))
  have hne : ¬ (bo = h.nx) := by omega
  have hne2 : ¬ (h.nx = bo) := by omega
  have hl0 : ¬ (h.nx < h.lo) := by omega
  have hset : ∀ (x : Blk) (y : Blk), Acc encK 27 ((h.new x).set h.nx y) v l := fun x y => o2.keep rfl (by simp [Heap.new, Heap.set]) (fun b _ hb _ => by rw [Heap.get_set, if_neg (by omega), Heap.get_new, if_neg (by omega)])
  obtain ⟨v1, h1, e1, e2, e3⟩ := pushK (hset (.cells (encK x) .cl) (.cells (encK { x with a := ya }) .cl)) (by show h.lo ≤ h.nx + 1; omega) { x with a := ya } (by omega)
  have hbo : h1.get bo = .cells [.int .u64 now, v] (.ct t) := by
    have e4 : ((h.new (.cells (encK x) .cl)).set h.nx (.cells (encK { x with a := ya }) .cl)).get bo = .cells [.int .u64 now, v] (.ct t) := by rw [Heap.get_set, if_neg hne, Heap.get_new, if_neg hne, o1]
    rw [e2.get bo (by show bo < h.nx + 1; omega) (by rw [e4]; intro cs q; cases q), e4]
  have hlo1 : ¬ (bo < h1.lo) := by have := e2.lo; simp only [Heap.new_lo, Heap.set_lo] at this; omega
  have e3' : ∃ b1 n1, v1 = .sl b1 0 n1 n1 27 := by
    rcases e3 with ⟨_, q⟩ | ⟨b1, q, _⟩
    · simp at q
    · exact ⟨b1, _, q⟩
  have k := res_raw (vp := vp) (P := fun v' h' => v' = .tup [] ∧ h' = h1.set bo (.cells [.int .u64 now, v1] (.ct t))) (args := [.agg (encK x), .ptr bo 0]) (h := h) hf rfl rfl (by
    simp only [encK, encA, Heap.new_nx, Heap.set_nx, Nat.add_assoc, Nat.reduceAdd] at e1
    simp only [encK, encA] at ec
    obtain ⟨b1, n1, rfl⟩ := e3'
    unfold B_differ_Join_fn1
    simp only [↓zp, zz, true_and, and_true, chkOk, Nat.reduceEqDiff, Nat.reduceAdd, Nat.reduceSub, Nat.reduceMul, Nat.reduceLT, Nat.reduceLeDiff, Int.reduceLT, Int.reduceLE, Int.reduceEq, Int.reduceAdd, Int.reduceNeg, if_false, if_true, reduceIte, List.getElem?_cons_succ, List.getElem?_cons_zero, Option.getD_some, r_mv, r_pick, r_box, r_alloc, r_un, r_eqb, r_ext, r_mkf, r_cnv, r_st, r_nck, r_ix, r_iaa, takeN, List.cons_append, List.nil_append, VE.store, over, cellsAt, VE.part, Option.map_some, Option.bind_some, blkX, gEval, cond_true, cond_false, r_build, r_bsl, fill, VE.unOp, r_bin, List.drop_zero, List.drop_succ_cons, resOf, resVs, resV, List.length_cons, List.length_nil, reduceCtorEq, or_true, true_or, false_or, or_false, eq_self, exists_eq_left', Option.some.injEq, encK, encA, o1, hne, hne2, hl0, hlo1, m1, ec, e1, hbo])
  obtain ⟨v', h', k1, rfl, rfl⟩ := k
  refine ⟨{ x with a := ya }, _, ⟨rfl, rfl, rfl, sa⟩, k1, ⟨v1, by rw [Heap.get_set, if_pos rfl], e3.keep rfl (by simp [Heap.set]) (fun b cs hb q => ?_), ?_, ?_⟩, ⟨?_, ?_, fun b hb hnb hq => ?_⟩⟩
  · rw [Heap.get_set, if_neg (fun e => by subst e; rw [hbo] at q; cases q)]
  · show h1.lo ≤ bo
    omega
  · show bo < h1.nx
    have := e2.nx
    simp only [Heap.new_nx, Heap.set_nx] at this
    omega
  · show h1.lo = h.lo
    exact e2.lo
  · show h.nx ≤ h1.nx
    have := e2.nx
    simp only [Heap.new_nx, Heap.set_nx] at this
    omega
  · have e4 : ((h.new (.cells (encK x) .cl)).set h.nx (.cells (encK { x with a := ya }) .cl)).get b = h.get b := by rw [Heap.get_set, if_neg (by omega), Heap.get_new, if_neg (by omega)]
    rw [Heap.get_set, if_neg hnb, e2.get b (by show b < h.nx + 1; omega) (by rw [e4]; exact hq), e4]
end
end Go.VE.LB
