/- What the functions of the law ModelCommands compute, on typed arguments (part 12). -/
import Derived.Test.YtdggjlfamjfdkaaGreatModelCommandsA11
import Derived.Test.YtdggjlfamjfdkaaGreatModelCommandsA7
set_option linter.all false
namespace Go.VE.LB
section
open Go Go.VE
set_option maxRecDepth 100000
set_option linter.all false
set_option maxHeartbeats 4000000
def nrm (a : Acct) : Acct := { a with users := .mk a.users.l none, ends := .mk a.ends.l none, rev := .mk a.rev.l none }
def Fz (h : Heap) (base K : Nat) (i : Bool) (v v' : V) : Prop := ∀ m, K ≤ m → frz m h base i v = some v'
inductive FzA (h : Heap) (base K : Nat) (i : Bool) : List V → List V → Prop
 | nil : FzA h base K i [] []
 | cons {v v' : V} {l l' : List V} (a : Fz h base K i v v') (b : FzA h base K i l l') : FzA h base K i (v :: l) (v' :: l')
theorem fz_all {h : Heap} {base K : Nat} {i : Bool} : ∀ {l l' : List V}, FzA h base K i l l' → ∀ n, K + l.length + 1 ≤ n → frzs n h base i l = some l' := by
 intro l l' f
 induction f with
 | nil =>
  intro n hn
  obtain ⟨m, rfl⟩ : ∃ m, n = m + 1 := ⟨n - 1, by simp at hn; omega⟩
  rfl
 | cons a b ih =>
  intro n hn
  obtain ⟨m, rfl⟩ : ∃ m, n = m + 1 := ⟨n - 1, by omega⟩
  simp only [List.length_cons] at hn
  rw [frzs, a m (by omega), ih m (by omega)]
theorem FzA.app {h : Heap} {base K : Nat} {i : Bool} {l l' m m' : List V} (f : FzA h base K i l l') (g : FzA h base K i m m') : FzA h base K i (l ++ m) (l' ++ m') := by
 induction f with
 | nil => exact g
 | cons a b ih => exact .cons a ih
theorem fz_int {h : Heap} {base K : Nat} {i : Bool} (k : IntKind) (x : Int) : Fz h base (K + 1) i (.int k x) (.int k x) := fun m hm => by
 obtain ⟨n, rfl⟩ : ∃ n, m = n + 1 := ⟨m - 1, by omega⟩
 rfl
theorem fz_map {h : Heap} {base K : Nat} {i : Bool} (k : IntKind) : ∀ l : List Int, FzA h base (K + 1) i (l.map (V.int k)) (l.map (V.int k))
 | [] => .nil
 | x :: l => .cons (fz_int k x) (fz_map k l)
theorem Own.fzt {α : Type} {enc : α → List V} {sz : Nat} {h : Heap} {v : V} {l : List α} {lo hi base : Nat} (o : Own enc sz h v l lo hi) (he : ∀ x, (enc x).length = sz) (hs : ∀ x, (enc x).all VE.scal = true) (hb : base ≤ lo) (i : Bool) {K : Nat} (hK : l.length * sz + 4 ≤ K) : ∃ o : Sl α, o.l = l ∧ Fz h base (K + 1) i v (o.v enc) := by
 rcases o with ⟨rfl, rfl⟩ | ⟨b, tag, rfl, h1, h2, h3⟩
 ·refine ⟨.nil, rfl, fun m hm => ?_⟩
  obtain ⟨n, rfl⟩ : ∃ n, m = n + 1 := ⟨m - 1, by omega⟩
  rfl
 ·refine ⟨.mk l (bif tag.opn && Nat.beq (0 + l.length * sz) (l.flatMap enc).length then none else some l.length), rfl, fun m hm => ?_⟩
  obtain ⟨n, rfl⟩ : ∃ n, m = n + 1 := ⟨m - 1, by omega⟩
  have hcl : (l.flatMap enc).length = l.length * sz := flat_len2 he l
  have ht : takeN (l.length * sz) ((l.flatMap enc).drop 0) = some (l.flatMap enc) := by rw [List.drop_zero, ← hcl]; exact takeN_all _
  have hlb : Nat.blt b base = false := by rw [blt_dec]; simp; omega
  have hf : frzs n h base true (l.flatMap enc) = some (l.flatMap enc) := frzs_scal _ (all_flat hs l) (by omega)
  simp only [Go.VE.frz, hlb, cond_false, h3, ht, hf, Sl.v]
theorem row_fz {h : Heap} {w : Rw} {base K : Nat} (r : RowB h w base) (i : Bool) (h1 : w.a.users.l.length * 7 + 4 ≤ K) (h2 : w.a.ends.l.length * 7 + 4 ≤ K) (h3 : w.a.rev.l.length * 1 + 4 ≤ K) : ∃ a : Acct, nrm a = nrm w.a ∧ FzA h base (K + 1) i (encW w) (encA a) := by
 obtain ⟨o1, o2, o3⟩ := r
 obtain ⟨s1, e1, f1⟩ := o1.fzt encH_len encH_scal (Nat.le_refl _) i h1
 obtain ⟨s2, e2, f2⟩ := o2.fzt encH_len encH_scal (Nat.le_refl _) i h2
 obtain ⟨s3, e3, f3⟩ := o3.fzt e32_len e32_scal (Nat.le_refl _) i h3
 refine ⟨{ w.a with users := s1, ends := s2, rev := s3 }, ?_, ?_⟩
 ·simp only [nrm, e1, e2, e3]
 ·exact .cons (fz_int _ _) (.cons (fz_int _ _) (.cons (fz_int _ _) (.cons (fz_int _ _) (.cons (fz_int _ _) (.cons (fz_int _ _) (.cons (fz_int _ _) (.cons (fz_int _ _) (.cons (fz_int _ _) (.cons (fz_int _ _) (.cons (fz_int _ _) (.cons (fz_int _ _) (.cons (fz_int _ _) (.cons (fz_int _ _) (.cons (fz_int _ _) (.cons (fz_int _ _) (.cons (fz_int _ _) (.cons (fz_int _ _) (.cons f1 (.cons f2 (.cons f3 (.cons (fz_int _ _) (.cons (fz_int _ _) (.cons (fz_int _ _) (.nil))))))))))))))))))))))))
theorem rows_fz {h : Heap} {base K : Nat} : ∀ {W : List Rw}, (∀ w ∈ W, RowB h w base) → (∀ w ∈ W, w.a.users.l.length * 7 + 4 ≤ K ∧ w.a.ends.l.length * 7 + 4 ≤ K ∧ w.a.rev.l.length * 1 + 4 ≤ K) → ∃ l : List Acct, l.map nrm = W.map (fun w => nrm w.a) ∧ FzA h base (K + 1) true (W.flatMap encW) (l.flatMap encA)
 | [], _, _ => ⟨[], rfl, .nil⟩
 | w :: W, hr, hs => by
  obtain ⟨q1, q2, q3⟩ := hs w List.mem_cons_self
  obtain ⟨a, ea, fa⟩ := row_fz (hr w List.mem_cons_self) true q1 q2 q3
  obtain ⟨l, el, fl⟩ := rows_fz (W := W) (fun x hx => hr x (List.mem_cons_of_mem _ hx)) (fun x hx => hs x (List.mem_cons_of_mem _ hx))
  exact ⟨a :: l, by rw [List.map_cons, List.map_cons, el, ea], by
   rw [List.flatMap_cons, List.flatMap_cons]
   exact fa.app fl⟩
theorem acc_fz {h : Heap} {v : V} {W : List Rw} {bA cap base : Nat} {rest : List V} {tag : Tag} (aM : AccM h v W bA cap rest tag) (hb : base ≤ bA) (hr : ∀ w ∈ W, RowB h w base) (hs : ∀ w ∈ W, w.a.users.l.length ≤ 1000 ∧ w.a.ends.l.length ≤ 1000 ∧ w.a.rev.l.length ≤ 1000) (hn : W.length ≤ 100) (i : Bool) :
  ∃ o : Sl Acct, o.l.map nrm = W.map (fun w => nrm w.a) ∧ Fz h base 20000 i v (o.v encA) := by
 rcases aM with ⟨rfl, rfl⟩ | ⟨rfl, hc, gA⟩
 ·refine ⟨.nil, rfl, fun m hm => ?_⟩
  obtain ⟨n, rfl⟩ : ∃ n, m = n + 1 := ⟨m - 1, by omega⟩
  rfl
 ·obtain ⟨l, el, fl⟩ := rows_fz (K := 10000) hr (fun w hw => by have := hs w hw; omega)
  have ll : l.length = W.length := by
   have := congrArg List.length el
   simpa using this
  refine ⟨.mk l (bif tag.opn && Nat.beq (0 + cap * 24) (W.flatMap encW ++ rest).length then none else some cap), el, fun m hm => ?_⟩
  obtain ⟨n, rfl⟩ : ∃ n, m = n + 1 := ⟨m - 1, by omega⟩
  have hcl : (W.flatMap encW).length = W.length * 24 := flat_len2 encW_len W
  have ht : takeN (W.length * 24) ((W.flatMap encW ++ rest).drop 0) = some (W.flatMap encW) := by rw [List.drop_zero, ← hcl]; exact takeN_app _ _
  have hlb : Nat.blt bA base = false := by rw [blt_dec]; simp; omega
  have hf := fz_all fl n (by rw [hcl]; omega)
  simp only [Go.VE.frz, hlb, cond_false, gA, ht, hf, Sl.v, ll]
theorem model_fz {h : Heap} {v : V} {o : Sl Acct} {base : Nat} (f : Fz h base 20000 false v (o.v encA)) (now : Int) (sd ep : List Int) (hw : MW sd ep) (code e : Int) :
  frz frzFuel h base false (.tup [.agg (.int .u64 now :: mT sd ep v), .int .u8 code, .int .i64 e]) = some (.tup [.agg (.int .u64 now :: mT sd ep (o.v encA)), .int .u8 code, .int .i64 e]) := by
 have hm : FzA h base (19999 + 1) false (.int .u64 now :: mT sd ep v) (.int .u64 now :: mT sd ep (o.v encA)) := .cons (fz_int _ _) ((fz_map .u8 sd).app ((fz_map .u32 ep).app (.cons f .nil)))
 have ha : Fz h base (30000 + 1) false (.agg (.int .u64 now :: mT sd ep v)) (.agg (.int .u64 now :: mT sd ep (o.v encA))) := fun m hm' => by
  obtain ⟨n, rfl⟩ : ∃ n, m = n + 1 := ⟨m - 1, by omega⟩
  have := fz_all hm n (by rw [List.length_cons, hw.len]; omega)
  simp only [frz, this, Option.map_some]
 have ht : FzA h base (30000 + 1) false [.agg (.int .u64 now :: mT sd ep v), .int .u8 code, .int .i64 e] [.agg (.int .u64 now :: mT sd ep (o.v encA)), .int .u8 code, .int .i64 e] := .cons ha (.cons (fz_int _ _) (.cons (fz_int _ _) .nil))
 have := fz_all ht 999999 (by simp)
 show (frzs 999999 h base false _).map V.tup = _
 rw [this, Option.map_some]
end
section
open Go Go.VE
set_option maxRecDepth 100000
set_option linter.all false
set_option maxHeartbeats 4000000
section
variable {vp : Nat → Option VFn}
structure DoK (vp : Nat → Option VFn) (f : Nat) : Prop where
 ex : ∃ c1 c2 c3 c4 c5 c6 c7 e1 e2 e3 e4 t1 t2 f1 g1 g2 g3 i1 t3, vp f = some (B_model_do c1 c2 c3 c4 c5 c6 c7) ∧ vp c1 = some B_model_find ∧ vp c2 = some (B_model_create e1 e2 e3 t1) ∧ vp e1 = some (B_bucket_Full e4 t2) ∧ vp e4 = some B_bucket_CheckLimit ∧ SrtOk vp e2 e3 ∧
  vp c3 = some (B_model_change f1) ∧ ChOk vp f1 ∧ vp c4 = some (B_slices_BinarySearch_uint32 g1 g2) ∧ vp g1 = some (B_cmp_Less_uint32 g3) ∧ vp g3 = some B_cmp_isNaN_uint32 ∧ vp g2 = some B_slices_isNaN_uint32 ∧ vp c5 = some B_slices_Insert_uint32 ∧
  vp c6 = some B_model_do_fn1 ∧ vp c7 = some (B_slices_DeleteFunc_api_Account i1 t3) ∧ vp i1 = some B_slices_IndexFunc_api_Account
structure AccOk (l : List Acct) : Prop where
 n : l.length ≤ 8
 ar : ∀ a ∈ l, AR a
 rev : ∀ a ∈ l, a.rev.l.length ≤ 8 ∧ ∀ k (hk : k + 1 < a.rev.l.length), a.rev.l[k] < a.rev.l[k + 1]
 t : ∀ a ∈ l, 0 ≤ a.t ∧ a.t < 16
 inc : ∀ k (hk : k + 1 < l.length), l[k].t < l[k + 1].t
theorem do_spec {f : Nat} (K : DoK vp f) {bm bA base : Nat} {now : Int} {sd ep : List Int} {v : V} {W : List Rw} {tag tm : Tag} {N : Nat → Nat} {h : Heap} (d : DoIn bm bA base now sd ep v W tag tm N h) {c : Cmd} (hc : c.tg.length = 32) (hct : 0 ≤ c.t) (ok : CmdOk c) (hnow : u64 now) (ao : AccOk (W.map (·.a))) :
  ∃ r h', callRes vp f [.ptr bm 0, .agg (encC c)] h = some (r, h') ∧ DoP bm bA base now sd ep (W.map (·.a)) c tm h r h' := by
 obtain ⟨c1, c2, c3, c4, c5, c6, c7, e1, e2, e3, e4, t1, t2, f1, g1, g2, g3, i1, t3, hf, h1, h2, h3, h4, hS, h5, hC, h6, h7, h8, h9, h10, h11, h12, h13⟩ := K.ex
 have hn : W.length ≤ 8 := by have := ao.n; rwa [List.length_map] at this
 have mem : ∀ w ∈ W, w.a ∈ W.map (·.a) := fun w hw => List.mem_map.2 ⟨w, hw, rfl⟩
 have hA : ∀ w ∈ W, AR w.a := fun w hw => ao.ar _ (mem w hw)
 have hL : ∀ w ∈ W, tOk w := fun w hw => by have := ao.t _ (mem w hw); exact ⟨this.1, by omega⟩
 have hs : ∀ k (hk : k + 1 < W.length), W[k].a.t < W[k + 1].a.t := fun k hk => by
  have := ao.inc k (by rw [List.length_map]; exact hk)
  simpa using this
 have hj : ∃ e, ep[c.t.toNat]? = some e := by
  have h1 := ok.t
  have h2 := d.w.ep
  have h3 : c.t.toNat < ep.length := by omega
  exact ⟨ep[c.t.toNat], List.getElem?_eq_getElem h3⟩
 obtain ⟨e, he⟩ := hj
 have hf' : fidx (isT c.t) W = -1 ∨ ∃ (k : Nat) (_ : k < W.length), fidx (isT c.t) W = (k : Int) := by
  rcases fidx_find (q := isT c.t) W with ⟨q1, _⟩ | ⟨k, hk, q1, _⟩
  ·have := (fidx_range (q := isT c.t) (l := W)).1
   exact .inl (by omega)
  ·exact .inr ⟨k, hk, q1⟩
 rcases hf' with hno | ⟨k, hk, hyes⟩
 ·by_cases hop : c.op = 1
  ·exact do_create hf h1 d hc hn h2 h3 h4 hS ok hct hL hs hop hno
  ·exact do_missing hf h1 d hc hn hop hno
 ·rcases ok.op with hop | hop | hop | hop | hop
  ·exact do_exists hf h1 d hc hn hop k hk hyes
  ·by_cases hne : e = 1000000
   ·exact do_spent hf h1 d hc hn ok hct (.inl hop) (by rw [he, hne]) k hk hyes
   ·exact do_delete hf h1 d hc hn h11 h12 h13 hs ok hct hop e he hne k hk hyes
  ·exact do_limits hf h1 d hc hn h5 hC ok hnow hA hop k hk hyes
  ·by_cases hne : e = 1000000
   ·exact do_spent hf h1 d hc hn ok hct (.inr hop) (by rw [he, hne]) k hk hyes
   ·exact do_rotate hf h1 d hc hn ok hct hop e he hne k hk hyes
  ·exact do_revoke hf h1 d hc hn h6 h7 h8 h9 h10 (fun w hw => ao.rev _ (mem w hw)) hop k hk hyes
theorem DoT.small {now : Int} {ep : List Int} {l : List Acct} {c : Cmd} {code : Int} {ep' : List Int} {l' : List Acct} (t : DoT now ep l c code ep' l') (hn : l.length ≤ 8) (hs : ∀ a ∈ l, a.users.l.length ≤ 900 ∧ a.ends.l.length ≤ 900 ∧ a.rev.l.length ≤ 8) :
  l'.length ≤ 100 ∧ ∀ a ∈ l', a.users.l.length ≤ 1000 ∧ a.ends.l.length ≤ 1000 ∧ a.rev.l.length ≤ 1000 := by
 have same : l.length ≤ 100 ∧ ∀ a ∈ l, a.users.l.length ≤ 1000 ∧ a.ends.l.length ≤ 1000 ∧ a.rev.l.length ≤ 1000 := ⟨by omega, fun a ha => by have := hs a ha; omega⟩
 cases t with
 | exists_ => exact same
 | full => exact same
 | missing => exact same
 | again => exact same
 | many => exact same
 | spent => exact same
 | create hno hop hn' p hp h1 h2 =>
  refine ⟨by simp [insA]; omega, fun a ha => ?_⟩
  simp only [insA, List.mem_append, List.mem_cons] at ha
  rcases ha with ha | rfl | ha
  ·exact same.2 a (List.mem_of_mem_take ha)
  ·simp [newA, Sl.l]
  ·exact same.2 a (List.mem_of_mem_drop ha)
 | limits k hk ht hop =>
  refine ⟨by rw [List.length_set]; omega, fun a ha => ?_⟩
  rcases List.mem_or_eq_of_mem_set ha with ha | rfl
  ·exact same.2 a ha
  ·have := hs _ (List.getElem_mem hk)
   refine ⟨?_, ?_, ?_⟩
   ·show (l[k].users.l.map _).length ≤ _
    rw [List.length_map]; omega
   ·show (l[k].ends.l.map _).length ≤ _
    rw [List.length_map]; omega
   ·show l[k].rev.l.length ≤ _
    omega
 | revoke k hk ht hop hin hn' i hi h1 h2 =>
  refine ⟨by rw [List.length_set]; omega, fun a ha => ?_⟩
  rcases List.mem_or_eq_of_mem_set ha with ha | rfl
  ·exact same.2 a ha
  ·have := hs _ (List.getElem_mem hk)
   refine ⟨by show l[k].users.l.length ≤ _; omega, by show l[k].ends.l.length ≤ _; omega, ?_⟩
   show (insI l[k].rev.l i c.u).length ≤ _
   simp only [insI, List.length_append, List.length_cons, List.length_take, List.length_drop]
   omega
 | rotate k hk ht hop e he hne =>
  refine ⟨by rw [List.length_set]; omega, fun a ha => ?_⟩
  rcases List.mem_or_eq_of_mem_set ha with ha | rfl
  ·exact same.2 a ha
  ·have := hs _ (List.getElem_mem hk)
   exact ⟨by show l[k].users.l.length ≤ _; omega, by show l[k].ends.l.length ≤ _; omega, Nat.zero_le _⟩
 | delete k hk ht hop e he hne =>
  exact ⟨by rw [List.length_eraseIdx_of_lt hk]; omega, fun a ha => same.2 a (List.mem_of_mem_eraseIdx ha)⟩
def DoR (now : Int) (sd ep : List Int) (l : List Acct) (c : Cmd) (r : V) : Prop := ∃ o : Sl Acct, ∃ code ep' l', r = .tup [.agg (encM now sd ep' (o.v encA)), .int .u8 code, .int .i64 0] ∧ MW sd ep' ∧ DoT now ep l c code ep' l' ∧ o.l.map nrm = l'.map nrm
theorem Do_spec {f c1 c2 c3 c4 d1 d2 d3 d4 t1 t2 t3 t4 : Nat} (hf : vp f = some (B_model_Do c1 c2 c3 c4 t1)) (m1 : modeOf vp c1 = some 1) (m2 : modeOf vp c2 = some 1) (h3 : vp c3 = some (B_model_copied d1 d2 t2 t3)) (w1 : vp d1 = some B_slices_Clone_api_Account) (w2 : vp d2 = some (B_model_clone_v2 d3 d4 t4)) (w3 : vp d3 = some B_slices_Clone_api_Held_v2) (w4 : vp d4 = some B_slices_Clone_uint32_v2) (K : DoK vp c4)
  (now : Int) (sd ep : List Int) (w : MW sd ep) (a : Sl Acct) (c : Cmd) (hc : c.tg.length = 32) (hct : 0 ≤ c.t) (ok : CmdOk c) (hnow : u64 now) (ao : AccOk a.l) (hsm : ∀ x ∈ a.l, x.users.l.length ≤ 900 ∧ x.ends.l.length ≤ 900 ∧ x.rev.l.length ≤ 8)
  (k1 : ∀ h, callRes vp c1 [.agg (encM now sd ep (a.v encA))] h = some (.int .i64 0, h)) (k2 : ∀ h, callRes vp c2 [.agg (encF c)] h = some (.int .i64 0, h)) (h : Heap) :
  ∃ r, callRes vp f [.agg (encM now sd ep (a.v encA)), .agg (encC c)] h = some (r, h) ∧ DoR now sd ep a.l c r := by
 refine res_pure_ex hf rfl rfl (fun g hg => ?_)
 have hlo := hlo hg
 clear hg
 obtain ⟨R, hR⟩ : ∃ R, c.tg.map (V.int .u8) = R := ⟨_, rfl⟩
 have lR : R.length = 32 := by rw [← hR, List.length_map, hc]
 have tR : takeN 32 R = some R := by rw [← lR]; exact takeN_all R
 have oR : R.all oneCell = true := by
  rw [← hR, List.all_map]
  exact List.all_eq_true.2 (fun _ _ => rfl)
 have ov32 : over 0 [.int .u8 0, .int .u8 0, .int .u8 0, .int .u8 0, .int .u8 0, .int .u8 0, .int .u8 0, .int .u8 0, .int .u8 0, .int .u8 0, .int .u8 0, .int .u8 0, .int .u8 0, .int .u8 0, .int .u8 0, .int .u8 0, .int .u8 0, .int .u8 0, .int .u8 0, .int .u8 0, .int .u8 0, .int .u8 0, .int .u8 0, .int .u8 0, .int .u8 0, .int .u8 0, .int .u8 0, .int .u8 0, .int .u8 0, .int .u8 0, .int .u8 0, .int .u8 0] R = some R := over_all (by rw [lR]; rfl) oR
 obtain ⟨v0, hv0⟩ : ∃ v0, a.v encA = v0 := ⟨_, rfl⟩
 have v0o : oneCell v0 = true := by rw [← hv0]; exact oneCell_v
 have lM := w.len (v := v0)
 have tM := w.tk (v := v0)
 obtain ⟨H1, hH1⟩ : ∃ H, ((g.new (.cells (.int .u64 now :: mT sd ep v0) .cl)).new (.cells (encC c) .cl)).new (.cells (.int .u64 0 :: z49) (.ct t1)) = H := ⟨_, rfl⟩
 have kp1 : Kp g H1 := by rw [← hH1]; exact (((Kp.refl g).new _).new _).new _
 have nx1 : H1.nx = g.nx + 3 := by rw [← hH1]; rfl
 have ga1 : H1.get g.nx = .cells (.int .u64 now :: mT sd ep v0) .cl := by rw [← hH1]; simp only [↓zp, zz, zy, chkOk, Nat.reduceEqDiff, Nat.reduceAdd, Nat.reduceSub, Nat.reduceMul, Nat.reduceLT, Nat.reduceLeDiff, Int.reduceLT, Int.reduceLE, Int.reduceEq, Int.reduceAdd, Int.reduceNeg, reduceIte, r_st, r_nck, r_ix, r_iaa, takeN, VE.store, over, cellsAt, VE.part, blkX, gEval, fill, VE.unOp, resVs, resV, reduceCtorEq]
 have gb1 : H1.get (g.nx + 1) = .cells (encC c) .cl := by rw [← hH1]; simp only [↓zp, zz, zy, chkOk, Nat.reduceEqDiff, Nat.reduceAdd, Nat.reduceSub, Nat.reduceMul, Nat.reduceLT, Nat.reduceLeDiff, Int.reduceLT, Int.reduceLE, Int.reduceEq, Int.reduceAdd, Int.reduceNeg, reduceIte, r_st, r_nck, r_ix, r_iaa, takeN, VE.store, over, cellsAt, VE.part, blkX, gEval, fill, VE.unOp, resVs, resV, reduceCtorEq]
 have gc1 : H1.get (g.nx + 2) = .cells (.int .u64 0 :: z49) (.ct t1) := by rw [← hH1]; simp only [↓zp, zz, zy, chkOk, Nat.reduceEqDiff, Nat.reduceAdd, Nat.reduceSub, Nat.reduceMul, Nat.reduceLT, Nat.reduceLeDiff, Int.reduceLT, Int.reduceLE, Int.reduceEq, Int.reduceAdd, Int.reduceNeg, reduceIte, r_st, r_nck, r_ix, r_iaa, takeN, VE.store, over, cellsAt, VE.part, blkX, gEval, fill, VE.unOp, resVs, resV, reduceCtorEq]
 have lo1 := kp1.lo
 obtain ⟨r, H2, cp, P⟩ := copied_spec h3 w1 w2 w3 w4 now sd ep w a (by have := ao.n; omega) (fun x hx => by have := hsm x hx; omega) H1 (by omega)
 obtain ⟨v, W, bA, tag, N, rfl, aM, hW, hrow, hmono, hbA, hbN, htop⟩ := P.ex
 have kp2 := P.kp
 have nx2 := kp2.nx
 have lW : W.length = a.l.length := by rw [← hW, List.length_map]
 rw [← lW] at aM htop
 have vo := aM.one
 have ga2 := (kp2.get g.nx (by omega)).trans ga1
 have gb2 := (kp2.get (g.nx + 1) (by omega)).trans gb1
 have gc2 := (kp2.get (g.nx + 2) (by omega)).trans gc1
 obtain ⟨H3, hH3⟩ : ∃ H, H2.set g.nx (.cells (.int .u64 now :: mT sd ep v) .cl) = H := ⟨_, rfl⟩
 have ga3 : H3.get g.nx = .cells (.int .u64 now :: mT sd ep v) .cl := by rw [← hH3, Heap.get_set, if_pos rfl]
 have gk3 : ∀ b, b ≠ g.nx → H3.get b = H2.get b := fun b hb => by rw [← hH3, Heap.get_set, if_neg hb]
 have nx3 : H3.nx = H2.nx := by rw [← hH3]; rfl
 have lo3 : H3.lo = g.lo := by rw [← hH3]; exact kp2.lo.trans lo1
 have gb3 := (gk3 (g.nx + 1) (by omega)).trans gb2
 have gc3 := (gk3 (g.nx + 2) (by omega)).trans gc2
 have lM3 := w.len (v := v)
 have ovM : over 0 (mT sd ep v0) (mT sd ep v) = some (mT sd ep v) := over_all (by rw [lM, lM3]) (w.one vo.1)
 have lo2 : ¬ g.nx < H2.lo := by have := kp2.lo; omega
 have hn0 := mono_le hmono (Nat.zero_le W.length)
 have din : DoIn g.nx bA (g.nx + 3) now sd ep v W tag .cl N H3 := ⟨w, ga3, aM.keep (gk3 bA (by omega)), fun k hk => (hrow k hk).keep (fun b hb hb2 => gk3 b (by have := mono_le hmono (Nat.zero_le k); omega)), hmono, by omega, hbN, by omega, by omega, by omega⟩
 obtain ⟨r, H4, dc, Q⟩ := do_spec K din hc hct ok hnow (by rw [hW]; exact ao)
 obtain ⟨code, ep', W', v', bA', cap', rest', tag', rfl, gm4, w', aM', hbA', hrB, dt⟩ := Q.ex
 have gc4 := (Q.get (g.nx + 2) (by omega) (by omega)).trans gc3
 have lo4 : H4.lo = g.lo := Q.lo.trans lo3
 have vo' := aM'.one
 have tM' := w'.tk (v := v')
 have lM' := w'.len (v := v')
 have ovz := w'.ov (v := v') vo'.1
 have l2 : ¬ g.nx + 2 < H4.lo := by omega
 rw [hW] at dt
 have sml := dt.small ao.n hsm
 obtain ⟨H5, hH5⟩ : ∃ H, H4.set (g.nx + 2) (.cells (.int .u64 now :: mT sd ep' v') (.ct t1)) = H := ⟨_, rfl⟩
 have g5 : H5.get (g.nx + 2) = .cells (.int .u64 now :: mT sd ep' v') (.ct t1) := by rw [← hH5, Heap.get_set, if_pos rfl]
 rw [encM_T, hv0] at k1
 unfold encF encC at k2
 unfold encC at dc hH1 gb1 gb2 gb3
 simp only [encM_T, hv0] at cp
 simp only [List.cons_append, List.nil_append] at k2
 rw [hR] at k2 dc hH1 gb1 gb2 gb3
 rw [encM_T, hv0]
 unfold encC B_model_Do
 rw [hR]
 simp only [z49] at hH1 gc1 gc2 gc3 gc4
 have l00 : ((0 : Int) = 0) = True := by simp
 simp only [↓zp, zz, zy, chkOk, Nat.reduceEqDiff, Nat.reduceAdd, Nat.reduceSub, Nat.reduceMul, Nat.reduceLT, Nat.reduceLeDiff, Int.reduceLT, Int.reduceLE, Int.reduceEq, Int.reduceAdd, Int.reduceNeg, reduceIte, r_st, r_nck, r_ix, r_iaa, takeN, VE.store, over, cellsAt, VE.part, blkX, gEval, fill, VE.unOp, resVs, resV, reduceCtorEq, lM, lR, hH1, ga1, tM, m1, k1, gb1, tR, ov32, m2, k2, cp, ga2, lo2, lM3, ovM, hH3, gb3, dc, gm4, tM', gc4, l2, lM', ovz, hH5, g5]
 have k5 : ∀ b, g.nx + 3 ≤ b → H5.get b = H4.get b := fun b hb => by rw [← hH5, Heap.get_set, if_neg (by omega)]
 have nx5 : H5.nx = H4.nx := by rw [← hH5]; rfl
 obtain ⟨o, eo, fo⟩ := acc_fz (base := g.nx) (h := H5) (aM'.keep (k5 _ hbA')) (by omega) (fun x hx => by
  obtain ⟨o1, o2, o3⟩ := hrB x hx
  refine ⟨?_, ?_, ?_⟩
  ·exact (o1.keep fun b hb _ => k5 b hb).mono (by omega) (by omega)
  ·exact (o2.keep fun b hb _ => k5 b hb).mono (by omega) (by omega)
  ·exact (o3.keep fun b hb _ => k5 b hb).mono (by omega) (by omega)) (fun x hx => sml.2 x.a (List.mem_map.2 ⟨x, hx, rfl⟩)) (by have := sml.1; rwa [List.length_map] at this) false
 have fz := model_fz fo now sd ep' w' code 0
 exact ⟨_, fz, o, code, ep', W'.map (·.a), rfl, w', dt, by rw [eo, List.map_map]; rfl⟩
end
end
section
open Go Go.VE Classical
set_option maxRecDepth 100000
set_option linter.all false
set_option maxHeartbeats 1000000
theorem fidx_map {α β : Type} {g : α → β} {q : β → Bool} : ∀ l : List α, fidx q (l.map g) = fidx (fun x => q (g x)) l
 | [] => rfl
 | x :: l => by simp only [List.map_cons, fidx, fidx_map l]
theorem AOk_nrm {x : Acct} : AOk (nrm x) ↔ AOk x := ⟨fun h => ⟨h.t, h.rl, h.l0, h.l1, h.l2, h.c0, h.d0, h.c1, h.d1, h.inc, h.own, h.ol, h.us, h.en⟩, fun h => ⟨h.t, h.rl, h.l0, h.l1, h.l2, h.c0, h.d0, h.c1, h.d1, h.inc, h.own, h.ol, h.us, h.en⟩⟩
theorem late_nrm {now : Int} {x : Acct} : lateA now (nrm x) = lateA now x := rfl
theorem map_at {l m : List Acct} (h : l.map nrm = m.map nrm) : l.length = m.length ∧ ∀ k (h1 : k < l.length) (h2 : k < m.length), nrm l[k] = nrm m[k] := by
 have e := congrArg List.length h
 simp only [List.length_map] at e
 refine ⟨e, fun k h1 h2 => ?_⟩
 have : (l.map nrm)[k]'(by rw [List.length_map]; exact h1) = (m.map nrm)[k]'(by rw [List.length_map]; exact h2) := by simp only [h]
 simpa using this
theorem nrm_t {x y : Acct} (h : nrm x = nrm y) : x.t = y.t := congrArg (·.t) h
theorem MOk.of_nrm {now : Int} {ep : List Int} {l m : List Acct} (h : l.map nrm = m.map nrm) (ok : MOk now ep m) : MOk now ep l := by
 obtain ⟨e, f⟩ := map_at h
 refine ⟨by rw [e]; exact ok.len, ok.ep, fun k hk => ?_, fun k hk => ?_, fun k hk => ?_⟩
 ·have := ok.ok k (by omega)
  rw [← AOk_nrm, ← f k hk (by omega)] at this
  exact AOk_nrm.1 this
 ·have := ok.late k (by omega)
  rwa [← late_nrm, ← f k hk (by omega), late_nrm] at this
 ·have := ok.inc k (by omega)
  rw [← nrm_t (f k (by omega) (by omega)), ← nrm_t (f (k + 1) (by omega) (by omega))] at this
  exact this
theorem fillB_t (b : Bucket) (t : Int) : (fillB b t).t = if t ≤ b.t then b.t else t := by
 unfold fillB
 split
 ·rfl
 ·split <;> rfl
theorem chgB_t (b : Bucket) (l : Limit) (t : Int) : (chgB b l t).t = if t ≤ b.t then b.t else t := fillB_t b t
theorem chg_held {l : List Held} {most : Int} {lim lim' : Limit} {key t : Int} (h : HeldOk l most lim key) (hu : ∀ x ∈ l, u64 x.b.t) (hl : limBad lim' = false) (ht : u64 t) : HeldOk (l.map (chgH lim' t)) most lim' key where
 len := by rw [List.length_map]; exact h.len
 each := fun k hk => by
  rw [List.length_map] at hk
  obtain ⟨h1, h2, h3, h4⟩ := h.each k hk
  refine ⟨by rw [List.getElem_map]; exact h1, ?_, by rw [List.getElem_map]; rfl, ?_⟩
  ·rw [List.getElem_map, ← List.map_take, fidx_map]
   exact h2
  ·rw [List.getElem_map]
   exact (chgB_ok h4 (hu _ (List.getElem_mem hk)) ht hl).1
theorem late_of {now : Int} {a : Acct} : lateA now a = false ↔ a.own.t ≤ now ∧ (∀ x ∈ a.users.l, x.b.t ≤ now) ∧ ∀ x ∈ a.ends.l, x.b.t ≤ now := by
 simp only [lateA, Bool.or_eq_false_iff, decide_eq_false_iff_not, List.any_eq_false, lateH, decide_eq_true_eq, Int.not_lt, and_assoc]
theorem late_chg {b : Bucket} {l : Limit} {now : Int} (h : b.t ≤ now) : (chgB b l now).t ≤ now := by
 rw [chgB_t]
 split <;> omega
def TA (a : Acct) : Prop := u64 a.own.t ∧ (∀ x ∈ a.users.l, u64 x.b.t) ∧ ∀ x ∈ a.ends.l, u64 x.b.t
theorem chgA_ok {a : Acct} {l0 l1 l2 : Limit} {now : Int} (ok : AOk a) (ta : TA a) (k0 : limBad l0 = false) (k1 : limBad l1 = false) (k2 : limBad l2 = false) (hn : u64 now) : AOk (chgA a l0 l1 l2 now) where
 t := ok.t
 rl := ok.rl
 l0 := k0
 l1 := k1
 l2 := k2
 c0 := ok.c0
 d0 := ok.d0
 c1 := ok.c1
 d1 := ok.d1
 inc := ok.inc
 own := (chgB_ok ok.own ta.1 hn k0).1
 ol := rfl
 us := chg_held ok.us ta.2.1 k1 hn
 en := chg_held ok.en ta.2.2 k2 hn
theorem newA_ok {c : Cmd} {now : Int} (ok : CmdOk c) (hop : c.op = 1) : AOk (newA c now) where
 t := by have := ok.t; show ¬ 16 ≤ c.t; omega
 rl := by show ¬ 8 < ((0 : Nat) : Int); omega
 l0 := (ok.ls (.inl hop)).1
 l1 := (ok.ls (.inl hop)).2.1
 l2 := (ok.ls (.inl hop)).2.2
 c0 := by have := ok.cs hop; show ¬ c.us < 1; omega
 d0 := by have := ok.cs hop; show ¬ 8 < c.us; omega
 c1 := by have := ok.cs hop; show ¬ c.es < 1; omega
 d1 := by have := ok.cs hop; show ¬ 8 < c.es; omega
 inc := fun k hk => by have : (newA c now).rev.l.length = 0 := rfl; omega
 own := by
  have h := (ok.ls (.inl hop)).1
  have := lim_ok.1 h
  exact mkB_ok h (by omega) (by omega) (by omega) (by omega) (fun _ => rfl)
 ol := rfl
 us := ⟨by have := ok.cs hop; show ¬ c.us < ((0 : Nat) : Int); omega, fun k hk => by have : (newA c now).users.l.length = 0 := rfl; omega⟩
 en := ⟨by have := ok.cs hop; show ¬ c.es < ((0 : Nat) : Int); omega, fun k hk => by have : (newA c now).ends.l.length = 0 := rfl; omega⟩
theorem ins_lt {α : Type} (l : List α) (x : α) {i j : Nat} (hi : i ≤ l.length) (hj : j < i) (h : j < (l.take i ++ x :: l.drop i).length) : (l.take i ++ x :: l.drop i)[j] = l[j]'(by omega) := by
 rw [List.getElem_append_left (by rw [List.length_take]; omega), List.getElem_take]
theorem ins_eq {α : Type} (l : List α) (x : α) {i : Nat} (hi : i ≤ l.length) (h : i < (l.take i ++ x :: l.drop i).length) : (l.take i ++ x :: l.drop i)[i] = x := by
 have e : (l.take i).length = i := by rw [List.length_take]; omega
 rw [List.getElem_append_right (by omega)]
 simp [e]
theorem ins_gt {α : Type} (l : List α) (x : α) {i j : Nat} (hi : i ≤ l.length) (hj : i ≤ j) (h : j + 1 < (l.take i ++ x :: l.drop i).length) (h' : j < l.length) : (l.take i ++ x :: l.drop i)[j + 1] = l[j] := by
 have e : (l.take i).length = i := by rw [List.length_take]; omega
 rw [List.getElem_append_right (by omega)]
 have e2 : j + 1 - (l.take i).length = (j - i) + 1 := by omega
 simp only [e2, List.getElem_cons_succ, List.getElem_drop]
 congr 1
 omega
theorem rev_ok {a : Acct} {r : Sl Int} (ok : AOk a) (h1 : r.l.length ≤ 8) (h2 : ∀ k (h : k + 1 < r.l.length), ¬ r.l[k + 1] ≤ r.l[k]) : AOk { a with rev := r } :=
 ⟨ok.t, by show ¬ 8 < (r.l.length : Int); omega, ok.l0, ok.l1, ok.l2, ok.c0, ok.d0, ok.c1, ok.d1, h2, ok.own, ok.ol, ok.us, ok.en⟩
theorem set_ok {now : Int} {ep : List Int} {l : List Acct} {a : Acct} {k : Nat} (ok : MOk now ep l) (hk : k < l.length) (h1 : AOk a) (h2 : lateA now a = false) (h3 : a.t = l[k].t) : MOk now ep (l.set k a) := by
 refine ⟨by rw [List.length_set]; exact ok.len, ok.ep, fun j hj => ?_, fun j hj => ?_, fun j hj => ?_⟩
 ·rw [List.length_set] at hj
  by_cases q : k = j
  ·subst q; rw [List.getElem_set_self]; exact h1
  ·rw [List.getElem_set_ne q]; exact ok.ok j hj
 ·rw [List.length_set] at hj
  by_cases q : k = j
  ·subst q; rw [List.getElem_set_self]; exact h2
  ·rw [List.getElem_set_ne q]; exact ok.late j hj
 ·rw [List.length_set] at hj
  have e : ∀ i (hi : i < l.length), ((l.set k a)[i]'(by rw [List.length_set]; exact hi)).t = l[i].t := fun i hi => by
   by_cases q : k = i
   ·subst q; rw [List.getElem_set_self]; exact h3
   ·rw [List.getElem_set_ne q]
  rw [e, e]
  exact ok.inc j hj
theorem wr32 {e : Int} (h0 : 0 ≤ e) (h : e < 4294967295) : wr .u32 (e + 1) = e + 1 := by
 obtain ⟨n, rfl⟩ := Int.eq_ofNat_of_zero_le h0
 show Int.ofNat ((n + 1) % 4294967296) = _
 rw [Nat.mod_eq_of_lt (by omega)]
 rfl
theorem ep_ok {ep : List Int} {j : Nat} {e : Int} (h : ep.any bigE = false) (he : ep[j]? = some e) (h0 : 0 ≤ e) (hne : e ≠ 1000000) : wr .u32 (e + 1) = e + 1 ∧ (ep.set j (wr .u32 (e + 1))).any bigE = false := by
 have hm := List.mem_of_getElem? he
 have h1 := List.any_eq_false.1 h e hm
 simp only [bigE, decide_eq_true_eq, Int.not_lt] at h1
 have w := wr32 h0 (by omega)
 refine ⟨w, List.any_eq_false.2 fun x hx => ?_⟩
 rcases List.mem_or_eq_of_mem_set hx with hx | rfl
 ·exact List.any_eq_false.1 h x hx
 ·simp only [bigE, decide_eq_true_eq, Int.not_lt]
  omega
theorem ep_any {now : Int} {ep ep' : List Int} {l : List Acct} (ok : MOk now ep l) (h : ep'.any bigE = false) : MOk now ep' l := ⟨ok.len, h, ok.ok, ok.late, ok.inc⟩
theorem inc_lt {now : Int} {ep : List Int} {l : List Acct} (ok : MOk now ep l) : ∀ (d i : Nat) (hi : i < l.length) (h : i + d < l.length), 0 < d → l[i].t < l[i + d].t := by
 intro d
 induction d with
 | zero => intro i _ _ h; omega
 | succ d ih =>
  intro i hi hb _
  have e2 := ok.inc (i + d) (by omega)
  rcases Nat.eq_zero_or_pos d with z | z
  ·subst z
   have e4 : l[i].t < l[i + 1].t := by
    have e5 := ok.inc i (by omega)
    omega
   exact e4
  ·have e1 := ih i hi (by omega) z
   have e3 : i + (d + 1) = i + d + 1 := by omega
   simp only [e3]
   omega
theorem DoT.ok {now : Int} {ep : List Int} {l : List Acct} {c : Cmd} {code : Int} {ep' : List Int} {l' : List Acct} (t : DoT now ep l c code ep' l') (ok : MOk now ep l) (hc : CmdOk c) (hn : u64 now) (ht : ∀ a ∈ l, TA a) (he0 : ∀ e ∈ ep, 0 ≤ e) : MOk now ep' l' := by
 cases t with
 | exists_ => exact ok
 | full => exact ok
 | missing => exact ok
 | again => exact ok
 | many => exact ok
 | spent => exact ok
 | create hno hop hn' p hp h1 h2 =>
  have lE : (insA l (newA c now) p).length = l.length + 1 := by simp [insA]; omega
  have l8 := ok.len
  have nl : lateA now (newA c now) = false := late_of.2 ⟨Int.le_refl _, fun x hx => by simp [newA, Sl.l] at hx, fun x hx => by simp [newA, Sl.l] at hx⟩
  have a1 : ∀ j (hj : j < p) h, (insA l (newA c now) p)[j]'h = l[j]'(by omega) := fun j hj h => ins_lt l _ hp hj h
  have a2 : ∀ h, (insA l (newA c now) p)[p]'h = newA c now := fun h => ins_eq l _ hp h
  have a3 : ∀ j (hj : p ≤ j) h (h' : j < l.length), (insA l (newA c now) p)[j + 1]'h = l[j] := fun j hj h h' => ins_gt l _ hp hj h h'
  refine ⟨by rw [lE]; omega, ok.ep, fun k hk => ?_, fun k hk => ?_, fun k hk => ?_⟩
  ·rcases Nat.lt_trichotomy k p with q | rfl | q
   ·rw [a1 k q]; exact ok.ok _ _
   ·rw [a2]; exact newA_ok hc hop
   ·obtain ⟨j, rfl⟩ : ∃ j, k = j + 1 := ⟨k - 1, by omega⟩
    rw [a3 j (by omega) hk (by omega)]; exact ok.ok _ _
  ·rcases Nat.lt_trichotomy k p with q | rfl | q
   ·rw [a1 k q]; exact ok.late _ _
   ·rw [a2]; exact nl
   ·obtain ⟨j, rfl⟩ : ∃ j, k = j + 1 := ⟨k - 1, by omega⟩
    rw [a3 j (by omega) hk (by omega)]; exact ok.late _ _
  ·have hmem : ∀ i (hi : i < l.length), l[i].t ≠ c.t := fun i hi => hno _ (List.getElem_mem hi)
   have ct : (newA c now).t = c.t := rfl
   by_cases q1 : k + 1 < p
   ·rw [a1 k (by omega), a1 (k + 1) q1]
    exact ok.inc k (by omega)
   ·by_cases q2 : k + 1 = p
    ·subst q2
     rw [a1 k (by omega), a2, ct]
     have := h1 k (by omega) rfl
     have := hmem k (by omega)
     omega
    ·by_cases q3 : k = p
     ·subst q3
      rw [a2, a3 k (by omega) hk (by omega), ct]
      have := h2 k (by omega) (by omega)
      omega
     ·obtain ⟨j, rfl⟩ : ∃ j, k = j + 1 := ⟨k - 1, by omega⟩
      rw [a3 j (by omega) (by omega) (by omega), a3 (j + 1) (by omega) hk (by omega)]
      exact ok.inc j (by omega)
 | limits k hk ht' hop =>
  obtain ⟨k0, k1, k2⟩ := hc.ls (.inr hop)
  have la := late_of.1 (ok.late k hk)
  refine set_ok ok hk (chgA_ok (ok.ok k hk) (ht _ (List.getElem_mem hk)) k0 k1 k2 hn) (late_of.2 ⟨late_chg la.1, fun x hx => ?_, fun x hx => ?_⟩) rfl
  ·obtain ⟨y, hy, rfl⟩ := List.mem_map.1 (show x ∈ l[k].users.l.map (chgH c.l1 now) from hx)
   exact late_chg (la.2.1 y hy)
  ·obtain ⟨y, hy, rfl⟩ := List.mem_map.1 (show x ∈ l[k].ends.l.map (chgH c.l2 now) from hx)
   exact late_chg (la.2.2 y hy)
 | revoke k hk ht' hop hin hn' i hi h1 h2 =>
  have a0 := ok.ok k hk
  have lI : (insI l[k].rev.l i c.u).length = l[k].rev.l.length + 1 := by simp [insI]; omega
  have r8 := a0.rl
  refine set_ok ok hk (rev_ok a0 (by show (insI l[k].rev.l i c.u).length ≤ 8; omega) ?_) (ok.late k hk) rfl
  show ∀ j (h : j + 1 < (insI l[k].rev.l i c.u).length), ¬ (insI l[k].rev.l i c.u)[j + 1] ≤ (insI l[k].rev.l i c.u)[j]
  have b1 : ∀ j (hj : j < i) (h : j < (insI l[k].rev.l i c.u).length), (insI l[k].rev.l i c.u)[j]'h = l[k].rev.l[j]'(by omega) := fun j hj h => ins_lt _ _ hi hj h
  have b2 : ∀ (h : i < (insI l[k].rev.l i c.u).length), (insI l[k].rev.l i c.u)[i]'h = c.u := fun h => ins_eq _ _ hi h
  have b3 : ∀ j (hj : i ≤ j) (h : j + 1 < (insI l[k].rev.l i c.u).length) (h' : j < l[k].rev.l.length), (insI l[k].rev.l i c.u)[j + 1]'h = l[k].rev.l[j] := fun j hj h h' => ins_gt _ _ hi hj h h'
  intro j hj
  have hmem : ∀ i (hi : i < l[k].rev.l.length), l[k].rev.l[i] ≠ c.u := fun i hi e => hin (e ▸ List.getElem_mem hi)
  by_cases q1 : j + 1 < i
  ·rw [b1 j (by omega), b1 (j + 1) q1]
   exact a0.inc j (by omega)
  ·by_cases q2 : j + 1 = i
   ·subst q2
    rw [b1 j (by omega), b2]
    have := h1 j (by omega) (by omega)
    omega
   ·by_cases q3 : j = i
    ·subst q3
     rw [b2, b3 j (by omega) hj (by omega)]
     have := h2 j (by omega) (by omega)
     have := hmem j (by omega)
     omega
    ·obtain ⟨m, rfl⟩ : ∃ m, j = m + 1 := ⟨j - 1, by omega⟩
     rw [b3 m (by omega) (by omega) (by omega), b3 (m + 1) (by omega) hj (by omega)]
     exact a0.inc m (by omega)
 | rotate k hk ht' hop e he hne =>
  refine ep_any (set_ok ok hk (rev_ok (ok.ok k hk) (Nat.zero_le _) (fun j hj => by have : (Sl.nil : Sl Int).l.length = 0 := rfl; omega)) (ok.late k hk) rfl) (ep_ok ok.ep he (he0 e (List.mem_of_getElem? he)) hne).2
 | delete k hk ht' hop e he hne =>
  have lE : (l.eraseIdx k).length = l.length - 1 := List.length_eraseIdx_of_lt hk
  have l8 := ok.len
  have at_ : ∀ j (hj : j < (l.eraseIdx k).length), (l.eraseIdx k)[j] = if h : j < k then l[j]'(by omega) else l[j + 1]'(by omega) := fun j hj => List.getElem_eraseIdx ..
  refine ⟨by omega, (ep_ok ok.ep he (he0 e (List.mem_of_getElem? he)) hne).2, fun j hj => ?_, fun j hj => ?_, fun j hj => ?_⟩
  ·rw [at_ j hj]
   split <;> exact ok.ok _ _
  ·rw [at_ j hj]
   split <;> exact ok.late _ _
  ·rw [at_ j (by omega), at_ (j + 1) hj]
   by_cases q1 : j + 1 < k
   ·rw [dif_pos q1, dif_pos (by omega)]
    exact ok.inc j (by omega)
   ·rw [dif_neg q1]
    by_cases q2 : j < k
    ·rw [dif_pos q2]
     have := inc_lt ok 2 j (by omega) (by omega) (by omega)
     have e : j + 2 = j + 1 + 1 := rfl
     simp only [e] at this
     omega
    ·rw [dif_neg q2]
     exact ok.inc (j + 1) (by omega)
end
section
open Go Go.VE Classical
set_option maxRecDepth 100000
set_option linter.all false
set_option maxHeartbeats 4000000
def isTA (t : Int) (a : Acct) : Bool := decide (a.t = t)
section
variable {vp : Nat → Option VFn}
structure Sml (l : List Acct) : Prop where
 n : l.length ≤ 40
 each : ∀ a ∈ l, a.users.l.length ≤ 40 ∧ a.ends.l.length ≤ 40 ∧ a.rev.l.length ≤ 40
def invGr (l : List Acct) (b : Nat) (H : Heap) (m : Nat) (s : Slots) (h : Heap) : Prop :=
 ∃ k, k ≤ l.length ∧ m = l.length - k ∧ s.at 1 = .ptr b 0 ∧ s.at 3 = .int .i64 (k : Int) ∧ h = H ∧ ∀ j (hj : j < l.length), j < k → l[j].users.l.length ≤ 40 ∧ l[j].ends.l.length ≤ 40 ∧ l[j].rev.l.length ≤ 40
theorem great25_spec {f : Nat} (hf : vp f = some B_spigotref25_Great) (now : Int) (sd ep : List Int) (w : MW sd ep) (c : Sl Acct) (hn : c.l.length ≤ 9223372036854775807) (h : Heap) :
  ∃ b : Bool, callRes vp f [.agg (encM now sd ep (c.v encA))] h = some (.bool b, h) ∧ (b = false → Sml c.l) := by
 suffices hgoal : ∃ r, callRes vp f [.agg (encM now sd ep (c.v encA))] h = some (r, h) ∧ ∃ b : Bool, r = .bool b ∧ (b = false → Sml c.l) by
  obtain ⟨r, e, b, rfl, k⟩ := hgoal
  exact ⟨b, e, k⟩
 refine res_pure_ex hf rfl rfl (fun g hg => ?_)
 clear hg
 have ia0 : ∀ (k : Nat) (hk : k < c.l.length) (h : Heap), r_ia 24 (c.v encA) (.int .i64 (k : Int)) h = some (.iptr (encA c.l[k] ++ (c.l.drop (k + 1)).flatMap encA), h) := fun k hk h => r_ia_v encA_len (by decide) hk rfl
 have ln : ∀ h : Heap, r_len (c.v encA) h = some (.int .i64 (c.l.length : Int), h) := fun h => r_len_v
 obtain ⟨v0, hv0⟩ : ∃ v0, c.v encA = v0 := ⟨_, rfl⟩
 have v0o : oneCell v0 = true := by rw [← hv0]; exact oneCell_v
 have v0c : cellsO v0 = some [v0] := by rw [← hv0]; exact cellsO_v
 rw [hv0] at ia0 ln ⊢
 have lM := w.len (v := v0)
 have d48 := w.d48 (v := v0)
 have tf : (true = false) = False := by simp
 unfold B_spigotref25_Great
 simp only [encM_T]
 simp only [↓zp, zz, zy, chkOk, Nat.reduceEqDiff, Nat.reduceAdd, Nat.reduceSub, Nat.reduceMul, Nat.reduceLT, Nat.reduceLeDiff, Int.reduceLT, Int.reduceLE, Int.reduceEq, Int.reduceAdd, Int.reduceNeg, reduceIte, r_st, r_nck, r_ix, r_iaa, takeN, VE.store, over, cellsAt, VE.part, blkX, gEval, fill, VE.unOp, resVs, resV, reduceCtorEq, lM]
 generalize hS : Tr.set _ 3 _ = S
 have b1 : Slots.at S 1 = .ptr g.nx 0 := by rw [← hS]; simp only [zs, Nat.reduceEqDiff]
 have b3 : Slots.at S 3 = .int .i64 ((0 : Nat) : Int) := by rw [← hS]; simp only [zs, Nat.reduceEqDiff]; rfl
 clear hS
 generalize hH : Heap.new _ _ = H
 have hb : H.get g.nx = .cells (.int .u64 now :: mT sd ep (v0)) .cl := by rw [← hH, Heap.get_new, if_pos rfl]
 clear hH
 refine loop_ind (fun m s h => invGr c.l g.nx H m s h) ?_ c.l.length ⟨0, by omega, by omega, b1, b3, rfl, fun j _ hj => by omega⟩
 rintro m s h ⟨k, hk, hm, c1, c3, rfl, hinc⟩
 by_cases hlt : k < c.l.length
 case neg =>
  have hlt' : ¬ ((k : Int) < (c.l.length : Int)) := by omega
  by_cases q : 40 < (c.l.length : Int)
  ·simp only [↓zp, zz, zy, chkOk, Nat.reduceEqDiff, Nat.reduceAdd, Nat.reduceSub, Nat.reduceMul, Nat.reduceLT, Nat.reduceLeDiff, Int.reduceLT, Int.reduceLE, Int.reduceEq, Int.reduceAdd, Int.reduceNeg, reduceIte, r_st, r_nck, r_ix, r_iaa, takeN, VE.store, over, cellsAt, VE.part, blkX, gEval, fill, VE.unOp, resVs, resV, reduceCtorEq, c1, c3, hb, d48, ln, hlt', q, frzB, V.bool.injEq, tf, false_implies]
  ·simp only [↓zp, zz, zy, chkOk, Nat.reduceEqDiff, Nat.reduceAdd, Nat.reduceSub, Nat.reduceMul, Nat.reduceLT, Nat.reduceLeDiff, Int.reduceLT, Int.reduceLE, Int.reduceEq, Int.reduceAdd, Int.reduceNeg, reduceIte, r_st, r_nck, r_ix, r_iaa, takeN, VE.store, over, cellsAt, VE.part, blkX, gEval, fill, VE.unOp, resVs, resV, reduceCtorEq, c1, c3, hb, d48, ln, hlt', q, frzB, V.bool.injEq]
   exact fun _ => ⟨by omega, fun a ha => by
    obtain ⟨j, hj, rfl⟩ := List.mem_iff_getElem.1 ha
    exact hinc j hj (by omega)⟩
 have hlt' : (k : Int) < (c.l.length : Int) := by omega
 have ws := wr_succ (k := k) (by omega)
 have ia1 := ia0 k hlt
 generalize hR : (c.l.drop (k + 1)).flatMap encA = R at ia1
 unfold encA at ia1
 simp only [List.cons_append, List.nil_append] at ia1
 rcases ch3 (40 < (c.l[k].users.l.length : Int)) (40 < (c.l[k].ends.l.length : Int)) (40 < (c.l[k].rev.l.length : Int)) with q | q | q | q
 ·simp only [↓zp, zz, zy, chkOk, Nat.reduceEqDiff, Nat.reduceAdd, Nat.reduceSub, Nat.reduceMul, Nat.reduceLT, Nat.reduceLeDiff, Int.reduceLT, Int.reduceLE, Int.reduceEq, Int.reduceAdd, Int.reduceNeg, reduceIte, r_st, r_nck, r_ix, r_iaa, takeN, VE.store, over, cellsAt, VE.part, blkX, gEval, fill, VE.unOp, resVs, resV, reduceCtorEq, c1, c3, hb, d48, ln, hlt', ia1, q, frzB, V.bool.injEq, tf, false_implies]
 ·simp only [↓zp, zz, zy, chkOk, Nat.reduceEqDiff, Nat.reduceAdd, Nat.reduceSub, Nat.reduceMul, Nat.reduceLT, Nat.reduceLeDiff, Int.reduceLT, Int.reduceLE, Int.reduceEq, Int.reduceAdd, Int.reduceNeg, reduceIte, r_st, r_nck, r_ix, r_iaa, takeN, VE.store, over, cellsAt, VE.part, blkX, gEval, fill, VE.unOp, resVs, resV, reduceCtorEq, c1, c3, hb, d48, ln, hlt', ia1, q, frzB, V.bool.injEq, tf, false_implies]
 ·simp only [↓zp, zz, zy, chkOk, Nat.reduceEqDiff, Nat.reduceAdd, Nat.reduceSub, Nat.reduceMul, Nat.reduceLT, Nat.reduceLeDiff, Int.reduceLT, Int.reduceLE, Int.reduceEq, Int.reduceAdd, Int.reduceNeg, reduceIte, r_st, r_nck, r_ix, r_iaa, takeN, VE.store, over, cellsAt, VE.part, blkX, gEval, fill, VE.unOp, resVs, resV, reduceCtorEq, c1, c3, hb, d48, ln, hlt', ia1, q, frzB, V.bool.injEq, tf, false_implies]
 ·simp only [↓zp, zz, zy, chkOk, Nat.reduceEqDiff, Nat.reduceAdd, Nat.reduceSub, Nat.reduceMul, Nat.reduceLT, Nat.reduceLeDiff, Int.reduceLT, Int.reduceLE, Int.reduceEq, Int.reduceAdd, Int.reduceNeg, reduceIte, r_st, r_nck, r_ix, r_iaa, takeN, VE.store, over, cellsAt, VE.part, blkX, gEval, fill, VE.unOp, resVs, resV, reduceCtorEq, c1, c3, hb, d48, ln, hlt', ia1, q, ws]
  refine ⟨_, by omega, k + 1, by omega, rfl, by simp only [zs, Nat.reduceEqDiff, c1], by simp only [zs, Nat.reduceEqDiff], rfl, fun j hj hj2 => ?_⟩
  rcases Nat.lt_or_ge j k with r | r
  ·exact hinc j hj r
  ·have : j = k := by omega
   subst this
   simp only [eq_iff_iff, iff_false] at q
   omega
def invFi (t : Int) (l : List Acct) (b : Nat) (H : Heap) (m : Nat) (s : Slots) (h : Heap) : Prop :=
 ∃ k, k ≤ l.length ∧ m = l.length - k ∧ s.at 1 = .int .u32 t ∧ s.at 2 = .ptr b 0 ∧ s.at 5 = .int .i64 (k : Int) ∧ h = H ∧ ∀ j (hj : j < l.length), j < k → isTA t l[j] = false
theorem find25_spec {f : Nat} (hf : vp f = some B_spigotref25_Find) (now : Int) (sd ep : List Int) (w : MW sd ep) (c : Sl Acct) (hn : c.l.length ≤ 100000) (t : Int) (h : Heap) :
  callRes vp f [.agg (encM now sd ep (c.v encA)), .int .u32 t] h = some (.int .i64 (fidx (isTA t) c.l), h) := by
 refine res_pure hf rfl rfl (fun g hg => ?_)
 clear hg
 have ia0 : ∀ (k : Nat) (hk : k < c.l.length) (h : Heap), r_ia 24 (c.v encA) (.int .i64 (k : Int)) h = some (.iptr (encA c.l[k] ++ (c.l.drop (k + 1)).flatMap encA), h) := fun k hk h => r_ia_v encA_len (by decide) hk rfl
 have ln : ∀ h : Heap, r_len (c.v encA) h = some (.int .i64 (c.l.length : Int), h) := fun h => r_len_v
 obtain ⟨v0, hv0⟩ : ∃ v0, c.v encA = v0 := ⟨_, rfl⟩
 have v0o : oneCell v0 = true := by rw [← hv0]; exact oneCell_v
 have v0c : cellsO v0 = some [v0] := by rw [← hv0]; exact cellsO_v
 rw [hv0] at ia0 ln ⊢
 have lM := w.len (v := v0)
 have d48 := w.d48 (v := v0)
 unfold B_spigotref25_Find
 simp only [encM_T]
 simp only [↓zp, zz, zy, chkOk, Nat.reduceEqDiff, Nat.reduceAdd, Nat.reduceSub, Nat.reduceMul, Nat.reduceLT, Nat.reduceLeDiff, Int.reduceLT, Int.reduceLE, Int.reduceEq, Int.reduceAdd, Int.reduceNeg, reduceIte, r_st, r_nck, r_ix, r_iaa, takeN, VE.store, over, cellsAt, VE.part, blkX, gEval, fill, VE.unOp, resVs, resV, reduceCtorEq, lM]
 generalize hS : Tr.set _ 5 _ = S
 have b1 : Slots.at S 1 = .int .u32 t := by rw [← hS]; simp only [zs, Nat.reduceEqDiff]
 have b2 : Slots.at S 2 = .ptr g.nx 0 := by rw [← hS]; simp only [zs, Nat.reduceEqDiff]
 have b5 : Slots.at S 5 = .int .i64 ((0 : Nat) : Int) := by rw [← hS]; simp only [zs, Nat.reduceEqDiff]; rfl
 clear hS
 generalize hH : Heap.new _ _ = H
 have hb : H.get g.nx = .cells (.int .u64 now :: mT sd ep (v0)) .cl := by rw [← hH, Heap.get_new, if_pos rfl]
 clear hH
 refine loop_ind (fun m s h => invFi t c.l g.nx H m s h) ?_ c.l.length ⟨0, by omega, by omega, b1, b2, b5, rfl, fun j _ hj => by omega⟩
 rintro m s h ⟨k, hk, hm, c1, c2, c5, rfl, hinc⟩
 by_cases hlt : k < c.l.length
 case neg =>
  have hlt' : ¬ ((k : Int) < (c.l.length : Int)) := by omega
  have e := fidx_none (q := isTA t) (l := c.l) (fun j hj => hinc j hj (by omega))
  simp only [↓zp, zz, zy, chkOk, Nat.reduceEqDiff, Nat.reduceAdd, Nat.reduceSub, Nat.reduceMul, Nat.reduceLT, Nat.reduceLeDiff, Int.reduceLT, Int.reduceLE, Int.reduceEq, Int.reduceAdd, Int.reduceNeg, reduceIte, r_st, r_nck, r_ix, r_iaa, takeN, VE.store, over, cellsAt, VE.part, blkX, gEval, fill, VE.unOp, resVs, resV, reduceCtorEq, c1, c2, c5, hb, d48, ln, hlt', e, frzI]
 have hlt' : (k : Int) < (c.l.length : Int) := by omega
 have ws := wr_succ (k := k) (by omega)
 have ia1 := ia0 k hlt
 generalize hR : (c.l.drop (k + 1)).flatMap encA = R at ia1
 unfold encA at ia1
 simp only [List.cons_append, List.nil_append] at ia1
 by_cases q : c.l[k].t = t
 ·have e := fidx_at (q := isTA t) hlt (by simp [isTA, q]) hinc
  have q' := eq_true q
  simp only [↓zp, zz, zy, chkOk, Nat.reduceEqDiff, Nat.reduceAdd, Nat.reduceSub, Nat.reduceMul, Nat.reduceLT, Nat.reduceLeDiff, Int.reduceLT, Int.reduceLE, Int.reduceEq, Int.reduceAdd, Int.reduceNeg, reduceIte, r_st, r_nck, r_ix, r_iaa, takeN, VE.store, over, cellsAt, VE.part, blkX, gEval, fill, VE.unOp, resVs, resV, reduceCtorEq, c1, c2, c5, hb, d48, ln, hlt', ia1, q', e, frzI]
 ·simp only [↓zp, zz, zy, chkOk, Nat.reduceEqDiff, Nat.reduceAdd, Nat.reduceSub, Nat.reduceMul, Nat.reduceLT, Nat.reduceLeDiff, Int.reduceLT, Int.reduceLE, Int.reduceEq, Int.reduceAdd, Int.reduceNeg, reduceIte, r_st, r_nck, r_ix, r_iaa, takeN, VE.store, over, cellsAt, VE.part, blkX, gEval, fill, VE.unOp, resVs, resV, reduceCtorEq, c1, c2, c5, hb, d48, ln, hlt', ia1, q, ws]
  refine ⟨_, by omega, k + 1, by omega, rfl, by simp only [zs, Nat.reduceEqDiff, c1], by simp only [zs, Nat.reduceEqDiff, c2], by simp only [zs, Nat.reduceEqDiff], rfl, fun j hj hj2 => ?_⟩
  rcases Nat.lt_or_ge j k with r | r
  ·exact hinc j hj r
  ·have : j = k := by omega
   subst this
   simp [isTA, q]
theorem eqaRefl {ks : List Nat} {l : List Int} {k : IntKind} {h : Heap} (hk : ks = List.replicate l.length 0) (neg : Bool) : r_eqa neg ks (.agg (l.map (V.int k))) (.agg (l.map (V.int k))) h = some (.bool (!neg), h) := by
 have := eqaInts (l.map fun x => (k, x, x)) (neg := neg) (h := h) (ks := ks) (xs := l.map (V.int k)) (ys := l.map (V.int k)) (P := True) (by
  rw [hk, List.map_map]
  exact (List.map_const' ..).symm) (by rw [List.map_map]; rfl) (by rw [List.map_map]; rfl) (by
  constructor
  ·intro _; trivial
  ·intro _ p hp
   obtain ⟨x, _, rfl⟩ := List.mem_map.1 hp
   rfl)
 rw [this]
 cases neg <;> simp
theorem sameA_nrm {x y : Acct} (h : nrm x = nrm y) : SameA x y := by
 cases x; cases y
 simp only [nrm, Acct.mk.injEq, Sl.mk.injEq, and_true] at h
 obtain ⟨h1, h2, h3, h4, h5, h6, h7, h8, h9, h10, h11, h12, h13⟩ := h
 refine ⟨by rw [h10], fun k h h' => by simp only [h10], h1, ⟨h2, h3, h4⟩, ⟨h5, h6⟩, h7, h8, h9, ⟨h11, h12, h13⟩⟩
def invSm (l : List Acct) (b : Nat) (H : Heap) (m : Nat) (s : Slots) (h : Heap) : Prop :=
 ∃ k, k ≤ l.length ∧ m = l.length - k ∧ s.at 2 = .ptr b 0 ∧ s.at 3 = .ptr (b + 1) 0 ∧ s.at 5 = .int .i64 (k : Int) ∧ h = H
theorem same25_spec {f c1 c2 : Nat} (hf : vp f = some (B_spigotref25_Same c1)) (h1 : vp c1 = some (B_spigotref25_SameAccount c2)) (h2 : vp c2 = some B_spigotref25_SameHeld) (now : Int) (sd ep : List Int) (w : MW sd ep) (a b : Sl Acct) (hn : Sml a.l) (he : b.l.map nrm = a.l.map nrm) (h : Heap) :
  callRes vp f [.agg (encM now sd ep (a.v encA)), .agg (encM now sd ep (b.v encA))] h = some (.bool true, h) := by
 have m1 : modeOf vp c1 = some 1 := by simp [modeOf, h1, B_spigotref25_SameAccount]
 obtain ⟨el, ee⟩ := map_at he
 have hn1 := hn.n
 refine res_pure hf rfl rfl (fun g hg => ?_)
 clear hg
 have lM := w.len (v := a.v encA)
 have d48 := w.d48 (v := a.v encA)
 have d32 := w.d32 (v := a.v encA)
 have lMb := w.len (v := b.v encA)
 have d48b := w.d48 (v := b.v encA)
 have d32b := w.d32 (v := b.v encA)
 have t32 : ∀ v, takeN 32 (mT sd ep v) = some (sd.map (V.int .u8)) := fun v => by
  have := takeN_app (sd.map (V.int .u8)) (ep.map (V.int .u32) ++ [v])
  rw [List.length_map, w.sd] at this
  exact this
 have t16 : ∀ v, takeN 16 (ep.map (V.int .u32) ++ [v]) = some (ep.map (V.int .u32)) := fun v => by
  have := takeN_app (ep.map (V.int .u32)) [v]
  rw [List.length_map, w.ep] at this
  exact this
 have es : ∀ h, r_eqa true [0, 0, 0, 0, 0, 0, 0, 0, 0, 0, 0, 0, 0, 0, 0, 0, 0, 0, 0, 0, 0, 0, 0, 0, 0, 0, 0, 0, 0, 0, 0, 0] (.agg (sd.map (V.int .u8))) (.agg (sd.map (V.int .u8))) h = some (.bool false, h) := fun h => eqaRefl (by rw [w.sd]; rfl) true
 have ep' : ∀ h, r_eqa true [0, 0, 0, 0, 0, 0, 0, 0, 0, 0, 0, 0, 0, 0, 0, 0] (.agg (ep.map (V.int .u32))) (.agg (ep.map (V.int .u32))) h = some (.bool false, h) := fun h => eqaRefl (by rw [w.ep]; rfl) true
 have ln : ((a.l.length : Int) = (b.l.length : Int)) = True := by simp; omega
 unfold B_spigotref25_Same
 simp only [encM_T]
 simp only [↓zp, zz, zy, chkOk, Nat.reduceEqDiff, Nat.reduceAdd, Nat.reduceSub, Nat.reduceMul, Nat.reduceLT, Nat.reduceLeDiff, Int.reduceLT, Int.reduceLE, Int.reduceEq, Int.reduceAdd, Int.reduceNeg, reduceIte, r_st, r_nck, r_ix, r_iaa, takeN, VE.store, over, cellsAt, VE.part, blkX, gEval, fill, VE.unOp, resVs, resV, reduceCtorEq, not_true_eq_false, lM, lMb, t32, es, d32, d32b, t16, ep', d48, d48b, ln]
 generalize hS : Tr.set _ 5 _ = S
 have b2 : Slots.at S 2 = .ptr g.nx 0 := by rw [← hS]; simp only [zs, Nat.reduceEqDiff]
 have b3 : Slots.at S 3 = .ptr (g.nx + 1) 0 := by rw [← hS]; simp only [zs, Nat.reduceEqDiff]
 have b5 : Slots.at S 5 = .int .i64 ((0 : Nat) : Int) := by rw [← hS]; simp only [zs, Nat.reduceEqDiff]; rfl
 clear hS
 generalize hH : Heap.new (Heap.new _ _) _ = H
 have hba : H.get g.nx = .cells (.int .u64 now :: mT sd ep (a.v encA)) .cl := by rw [← hH]; simp only [↓zp, zz, zy, chkOk, Nat.reduceEqDiff, Nat.reduceAdd, Nat.reduceSub, Nat.reduceMul, Nat.reduceLT, Nat.reduceLeDiff, Int.reduceLT, Int.reduceLE, Int.reduceEq, Int.reduceAdd, Int.reduceNeg, reduceIte, r_st, r_nck, r_ix, r_iaa, takeN, VE.store, over, cellsAt, VE.part, blkX, gEval, fill, VE.unOp, resVs, resV, reduceCtorEq]
 have hbb : H.get (g.nx + 1) = .cells (.int .u64 now :: mT sd ep (b.v encA)) .cl := by rw [← hH]; simp only [↓zp, zz, zy, chkOk, Nat.reduceEqDiff, Nat.reduceAdd, Nat.reduceSub, Nat.reduceMul, Nat.reduceLT, Nat.reduceLeDiff, Int.reduceLT, Int.reduceLE, Int.reduceEq, Int.reduceAdd, Int.reduceNeg, reduceIte, r_st, r_nck, r_ix, r_iaa, takeN, VE.store, over, cellsAt, VE.part, blkX, gEval, fill, VE.unOp, resVs, resV, reduceCtorEq]
 clear hH
 refine loop_ind (fun m s h => invSm a.l g.nx H m s h) ?_ a.l.length ⟨0, by omega, by omega, b2, b3, b5, rfl⟩
 rintro m s h ⟨k, hk, hm, c2', c3, c5, rfl⟩
 by_cases hlt : k < a.l.length
 case neg =>
  have hlt' : ¬ ((k : Int) < (a.l.length : Int)) := by omega
  simp only [↓zp, zz, zy, chkOk, Nat.reduceEqDiff, Nat.reduceAdd, Nat.reduceSub, Nat.reduceMul, Nat.reduceLT, Nat.reduceLeDiff, Int.reduceLT, Int.reduceLE, Int.reduceEq, Int.reduceAdd, Int.reduceNeg, reduceIte, r_st, r_nck, r_ix, r_iaa, takeN, VE.store, over, cellsAt, VE.part, blkX, gEval, fill, VE.unOp, resVs, resV, reduceCtorEq, c2', c3, c5, hba, hbb, d48, hlt', frzB]
 have hlt' : (k : Int) < (a.l.length : Int) := by omega
 have ws := wr_succ (k := k) (by omega)
 have ia1 : ∀ h, r_ia 24 (a.v encA) (.int .i64 (k : Int)) h = some (.iptr (encA a.l[k] ++ (a.l.drop (k + 1)).flatMap encA), h) := fun h => r_ia_v encA_len (by decide) hlt rfl
 have ia2 : ∀ h, r_ia 24 (b.v encA) (.int .i64 (k : Int)) h = some (.iptr (encA (b.l[k]'(by omega)) ++ (b.l.drop (k + 1)).flatMap encA), h) := fun h => r_ia_v encA_len (by decide) (by omega) rfl
 have tk : ∀ (x : Acct) (r : List V), takeN 24 (encA x ++ r) = some (encA x) := fun x r => takeN_app (encA x) r
 have sm := hn.each _ (List.getElem_mem hlt)
 have cs := fun h => sameA_spec h1 h2 a.l[k] (b.l[k]'(by omega)) h (by omega) (by omega) (by omega)
 have es : SameA a.l[k] (b.l[k]'(by omega)) := sameA_nrm (ee k (by omega) hlt).symm
 simp only [es, decide_true] at cs
 simp only [↓zp, zz, zy, chkOk, Nat.reduceEqDiff, Nat.reduceAdd, Nat.reduceSub, Nat.reduceMul, Nat.reduceLT, Nat.reduceLeDiff, Int.reduceLT, Int.reduceLE, Int.reduceEq, Int.reduceAdd, Int.reduceNeg, reduceIte, r_st, r_nck, r_ix, r_iaa, takeN, VE.store, over, cellsAt, VE.part, blkX, gEval, fill, VE.unOp, resVs, resV, reduceCtorEq, c2', c3, c5, hba, hbb, d48, d48b, hlt', ia1, ia2, tk, m1, cs, ws]
 exact ⟨_, by omega, k + 1, by omega, rfl, by simp only [zs, Nat.reduceEqDiff, c2'], by simp only [zs, Nat.reduceEqDiff, c3], by simp only [zs, Nat.reduceEqDiff], rfl⟩
end
end
end Go.VE.LB
