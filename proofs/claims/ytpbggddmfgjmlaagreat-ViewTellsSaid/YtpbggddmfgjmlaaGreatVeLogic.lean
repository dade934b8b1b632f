/- A part of a proof that a small evaluator of the translated code agrees with the model (part Logic). No statement of the program stands here. -/
import Derived.Test.YtpbggddmfgjmlaaGreatVeMono
import Derived.Test.YtpbggddmfgjmlaaGreatVeMem
import Derived.Test.YtpbggddmfgjmlaaGreatVeFinal
set_option linter.all false
section
namespace Go.VE
variable (vp : Nat → Option VFn)
noncomputable def callRes (f : Nat) (args : List V) (h : Heap) : Option (V × Heap) := open Classical in if e : ∃ r, ∃ n, callF vp n f args h = some r then some (Classical.choose e) else none
noncomputable def callVRes (x : V) (args : List V) (h : Heap) : Option (V × Heap) := open Classical in if e : ∃ r, ∃ n, callV vp n x args h = some r then some (Classical.choose e) else none
def onR (r : Option (V × Heap)) (K : V → Heap → Prop) : Prop := ∃ v h, r = some (v, h) ∧ K v h
def ExP (c : VCode) (s : Slots) (h : Heap) (Q : VX → Slots → Heap → Prop) : Prop := ∃ n x s' h', exec vp n c s h = some (x, s', h') ∧ Q x s' h'
def modeOf (f : Nat) : Option Nat := match vp f with
 | some fn => match fn.prim with
  | none => some fn.mode
  | some _ => none
 | none => none
def opW (o : VOp) (s : Slots) (h : Heap) (K : V → Heap → Prop) : Prop :=
 match o with
 | .call f args => onR (callRes vp f (evs s args) h) K
 | .callp f args => modeOf vp f = some 1 ∧ onR (callRes vp f (evs s args) h) K
 | .callo f args => modeOf vp f = some 2 ∧ onR (callRes vp f (evs s args) h) K
 | .callv x args => onR (callVRes vp (x.ev s) (evs s args) h) K
 | .callvo x args => ∃ f caps, x.ev s = .fn f caps ∧ modeOf vp f = some 2 ∧ onR (callRes vp f (evs s args ++ caps) h) K
 | .callc f args t => ∃ n v h', stepOp vp n (.callc f args t) s h = some (v, h') ∧ K v h'
 | o => onR (opE o s h) K
def wpOps : List VOper → Slots → Heap → (Slots → Heap → Prop) → Prop
 | [], s, h, K => K s h
 | o :: r, s, h, K => match gEval o.g s with
  | some true => opW vp o.op s h fun v h => wpOps r (slotsPut s o.dst v) h K
  | some false => wpOps r (slotsPut s o.dst (.tup [])) h K
  | none => False
def blkX (id : Nat) : VX → VX
 | .exit i => bif Nat.beq i id then .norm else .exit i
 | x => x
def wp : VCode → Slots → Heap → (VX → Slots → Heap → Prop) → Prop
 | .skip, s, h, Q => Q .norm s h
 | .reg ops chk, s, h, Q => wpOps vp ops s h fun s h => chkOk chk s = true ∧ Q .norm s h
 | .seq a b, s, h, Q => wp a s h fun x s h => match x with
  | .norm => wp b s h Q
  | x => Q x s h
 | .cond c a b, s, h, Q => match c.ev s with
  | .bool true => wp a s h Q
  | .bool false => wp b s h Q
  | _ => False
 | .block id c, s, h, Q => wp c s h fun x s h => Q (blkX id x) s h
 | .loop c, s, h, Q => ExP vp (.loop c) s h Q
 | .exit id, s, h, Q => Q (.exit id) s h
 | .ret, s, h, Q => Q .ret s h
 | .rngf f ps a b, s, h, Q => ExP vp (.rngf f ps a b) s h Q
 | .scope c, s, h, Q => wp c s h Q
variable {vp}
theorem callRes_of {n f : Nat} {args : List V} {h : Heap} {r : V × Heap} (e : callF vp n f args h = some r) : callRes vp f args h = some r := by
 have ex : ∃ r, ∃ n, callF vp n f args h = some r := ⟨r, n, e⟩
 unfold callRes
 rw [dif_pos ex]
 obtain ⟨m, e2⟩ := Classical.choose_spec ex
 have h1 := callF_mono vp (Nat.le_max_left n m) e
 have h2 := callF_mono vp (Nat.le_max_right n m) e2
 rw [h1] at h2
 exact congrArg some (Option.some.inj h2).symm
theorem callRes_run {f : Nat} {args : List V} {h : Heap} {r : V × Heap} (e : callRes vp f args h = some r) : ∃ n, callF vp n f args h = some r := by
 unfold callRes at e
 split at e
 ·rename_i ex
  cases e
  exact Classical.choose_spec ex
 ·cases e
theorem callVRes_of {n : Nat} {x : V} {args : List V} {h : Heap} {r : V × Heap} (e : callV vp n x args h = some r) : callVRes vp x args h = some r := by
 have ex : ∃ r, ∃ n, callV vp n x args h = some r := ⟨r, n, e⟩
 unfold callVRes
 rw [dif_pos ex]
 obtain ⟨m, e2⟩ := Classical.choose_spec ex
 have h1 := callV_mono vp (Nat.le_max_left n m) e
 have h2 := callV_mono vp (Nat.le_max_right n m) e2
 rw [h1] at h2
 exact congrArg some (Option.some.inj h2).symm
theorem callVRes_run {x : V} {args : List V} {h : Heap} {r : V × Heap} (e : callVRes vp x args h = some r) : ∃ n, callV vp n x args h = some r := by
 unfold callVRes at e
 split at e
 ·rename_i ex
  cases e
  exact Classical.choose_spec ex
 ·cases e
theorem callVRes_fn {f : Nat} {caps args : List V} {h : Heap} {r : V × Heap} (e : callRes vp f (args ++ caps) h = some r) : callVRes vp (.fn f caps) args h = some r := by
 obtain ⟨n, e⟩ := callRes_run e
 exact callVRes_of (n := n + 1) (by simpa only [callV] using e)
theorem modeOf_some {f m : Nat} (h : modeOf vp f = some m) : ∃ fn, vp f = some fn ∧ fn.prim = none ∧ fn.mode = m := by
 unfold modeOf at h
 split at h
 ·rename_i fn e
  split at h
  ·rename_i e2
   cases h
   exact ⟨fn, e, e2, rfl⟩
  ·cases h
 ·cases h
theorem opW_sound {o : VOp} {s : Slots} {h : Heap} {K : V → Heap → Prop} (w : opW vp o s h K) : ∃ n v h', stepOp vp n o s h = some (v, h') ∧ K v h' := by
 cases o with
 | call f args =>
  obtain ⟨v, h', e, k⟩ := w
  obtain ⟨n, e⟩ := callRes_run e
  exact ⟨n + 1, v, h', by simpa only [stepOp] using e, k⟩
 | callp f args =>
  obtain ⟨m, v, h', e, k⟩ := w
  obtain ⟨n, e⟩ := callRes_run e
  obtain ⟨fn, q1, q2, q3⟩ := modeOf_some m
  exact ⟨n + 1, v, h', by simp only [stepOp, q1, q2, q3]; exact e, k⟩
 | callo f args =>
  obtain ⟨m, v, h', e, k⟩ := w
  obtain ⟨n, e⟩ := callRes_run e
  obtain ⟨fn, q1, q2, q3⟩ := modeOf_some m
  exact ⟨n + 1, v, h', by simp only [stepOp, q1, q2, q3]; exact e, k⟩
 | callv x args =>
  obtain ⟨v, h', e, k⟩ := w
  obtain ⟨n, e⟩ := callVRes_run e
  exact ⟨n + 1, v, h', by simpa only [stepOp] using e, k⟩
 | callvo x args =>
  obtain ⟨f, caps, hx, m, v, h', e, k⟩ := w
  obtain ⟨n, e⟩ := callRes_run e
  obtain ⟨fn, q1, q2, q3⟩ := modeOf_some m
  exact ⟨n + 1, v, h', by simp only [stepOp, hx, q1, q2, q3]; exact e, k⟩
 | callc f args t => exact w
 | _ =>
  obtain ⟨v, h', e, k⟩ := w
  exact ⟨1, v, h', by simpa only [stepOp] using e, k⟩
theorem wpOps_sound : ∀ {l : List VOper} {s : Slots} {h : Heap} {K : Slots → Heap → Prop}, wpOps vp l s h K → ∃ n s' h', runOps vp n l s h = some (s', h') ∧ K s' h'
 | [], s, h, K, w => ⟨1, s, h, rfl, w⟩
 | o :: r, s, h, K, w => by
  unfold wpOps at w
  split at w
  ·rename_i hg
   obtain ⟨n1, v, h1, e1, w1⟩ := opW_sound w
   obtain ⟨n2, s', h', e2, k⟩ := wpOps_sound w1
   refine ⟨max n1 n2 + 1, s', h', ?_, k⟩
   simp only [runOps, hg, stepOp_mono vp (Nat.le_max_left n1 n2) e1]
   exact runOps_mono vp (Nat.le_max_right n1 n2) e2
  ·rename_i hg
   obtain ⟨n2, s', h', e2, k⟩ := wpOps_sound w
   exact ⟨n2 + 1, s', h', by simp only [runOps, hg]; exact e2, k⟩
  ·cases w
theorem wp_sound : ∀ {c : VCode} {s : Slots} {h : Heap} {Q : VX → Slots → Heap → Prop}, wp vp c s h Q → ExP vp c s h Q
 | .skip, s, h, Q, w => ⟨1, .norm, s, h, rfl, w⟩
 | .reg ops chk, s, h, Q, w => by
  obtain ⟨n, s', h', e, c, k⟩ := wpOps_sound w
  exact ⟨n + 1, .norm, s', h', by simp only [exec, e, c, cond_true], k⟩
 | .seq a b, s, h, Q, w => by
  obtain ⟨n1, x, s1, h1, e1, k1⟩ := wp_sound (c := a) w
  cases x with
  | norm =>
   obtain ⟨n2, x2, s2, h2, e2, k2⟩ := wp_sound (c := b) k1
   refine ⟨max n1 n2 + 1, x2, s2, h2, ?_, k2⟩
   simp only [exec, exec_mono vp (Nat.le_max_left n1 n2) e1]
   exact exec_mono vp (Nat.le_max_right n1 n2) e2
  | exit i => exact ⟨n1 + 1, .exit i, s1, h1, by simp only [exec, e1], k1⟩
  | ret => exact ⟨n1 + 1, .ret, s1, h1, by simp only [exec, e1], k1⟩
 | .cond c a b, s, h, Q, w => by
  unfold wp at w
  split at w
  ·rename_i hc
   obtain ⟨n, x, s', h', e, k⟩ := wp_sound (c := a) w
   exact ⟨n + 1, x, s', h', by simp only [exec, hc]; exact e, k⟩
  ·rename_i hc
   obtain ⟨n, x, s', h', e, k⟩ := wp_sound (c := b) w
   exact ⟨n + 1, x, s', h', by simp only [exec, hc]; exact e, k⟩
  ·cases w
 | .block id c, s, h, Q, w => by
  obtain ⟨n, x, s', h', e, k⟩ := wp_sound (c := c) w
  cases x with
  | norm => exact ⟨n + 1, .norm, s', h', by simp only [exec, e], k⟩
  | exit i => exact ⟨n + 1, _, s', h', by simp only [exec, e]; rfl, k⟩
  | ret => exact ⟨n + 1, .ret, s', h', by simp only [exec, e], k⟩
 | .loop c, s, h, Q, w => w
 | .exit id, s, h, Q, w => ⟨1, .exit id, s, h, rfl, w⟩
 | .ret, s, h, Q, w => ⟨1, .ret, s, h, rfl, w⟩
 | .rngf f ps a b, s, h, Q, w => w
 | .scope c, s, h, Q, w => by
  obtain ⟨n, x, s', h', e, k⟩ := wp_sound (c := c) w
  exact ⟨n + 1, x, s', h', by simp only [exec]; exact e, k⟩
theorem loop_ind {c : VCode} {Q : VX → Slots → Heap → Prop} (I : Nat → Slots → Heap → Prop)
  (step : ∀ k s h, I k s h → wp vp c s h fun x s' h' => match x with
   | .norm => ∃ k', k' < k ∧ I k' s' h'
   | x => Q x s' h') : ∀ (k : Nat) {s : Slots} {h : Heap}, I k s h → wp vp (.loop c) s h Q := by
 intro k
 induction k using Nat.strongRecOn with
 | _ k ih =>
  intro s h hi
  obtain ⟨n1, x, s1, h1, e1, k1⟩ := wp_sound (step k s h hi)
  cases x with
  | norm =>
   obtain ⟨k', hk, hi'⟩ := k1
   obtain ⟨n2, x2, s2, h2, e2, k2⟩ := ih k' hk hi'
   refine ⟨max n1 n2 + 1, x2, s2, h2, ?_, k2⟩
   simp only [exec, exec_mono vp (Nat.le_max_left n1 n2) e1]
   exact exec_mono vp (Nat.le_max_right n1 n2) e2
  | exit i => exact ⟨n1 + 1, .exit i, s1, h1, by simp only [exec, e1], k1⟩
  | ret => exact ⟨n1 + 1, .ret, s1, h1, by simp only [exec, e1], k1⟩
theorem onR_mono {r : Option (V × Heap)} {K K' : V → Heap → Prop} (hk : ∀ v h', K v h' → K' v h') (w : onR r K) : onR r K' := by
 obtain ⟨v, h, e, k⟩ := w
 exact ⟨v, h, e, hk _ _ k⟩
theorem opW_mono {o : VOp} {s : Slots} {h : Heap} {K K' : V → Heap → Prop} (hk : ∀ v h', K v h' → K' v h') (w : opW vp o s h K) : opW vp o s h K' := by
 cases o with
 | call f args => exact onR_mono hk w
 | callp f args => exact ⟨w.1, onR_mono hk w.2⟩
 | callo f args => exact ⟨w.1, onR_mono hk w.2⟩
 | callv x args => exact onR_mono hk w
 | callvo x args => obtain ⟨f, c, hx, m, w⟩ := w; exact ⟨f, c, hx, m, onR_mono hk w⟩
 | callc f args t => obtain ⟨n, v, h', e, k⟩ := w; exact ⟨n, v, h', e, hk _ _ k⟩
 | _ => exact onR_mono hk w
theorem wpOps_mono : ∀ {l : List VOper} {s : Slots} {h : Heap} {K K' : Slots → Heap → Prop}, (∀ s h, K s h → K' s h) → wpOps vp l s h K → wpOps vp l s h K'
 | [], s, h, K, K', hk, w => hk _ _ w
 | o :: r, s, h, K, K', hk, w => by
  unfold wpOps at w ⊢
  split at w
  ·exact opW_mono (fun v h' k => wpOps_mono hk k) w
  ·exact wpOps_mono hk w
  ·cases w
theorem wp_mono : ∀ {c : VCode} {s : Slots} {h : Heap} {Q Q' : VX → Slots → Heap → Prop}, (∀ x s h, Q x s h → Q' x s h) → wp vp c s h Q → wp vp c s h Q'
 | .skip, s, h, Q, Q', hq, w => hq _ _ _ w
 | .reg ops chk, s, h, Q, Q', hq, w => wpOps_mono (fun s h k => ⟨k.1, hq _ _ _ k.2⟩) w
 | .seq a b, s, h, Q, Q', hq, w => wp_mono (c := a) (fun x s h k => by
   cases x with
   | norm => exact wp_mono (c := b) hq k
   | exit i => exact hq _ _ _ k
   | ret => exact hq _ _ _ k) w
 | .cond c a b, s, h, Q, Q', hq, w => by
  unfold wp at w ⊢
  split at w
  ·exact wp_mono (c := a) hq w
  ·exact wp_mono (c := b) hq w
  ·cases w
 | .block id c, s, h, Q, Q', hq, w => wp_mono (c := c) (fun x s h k => hq _ _ _ k) w
 | .loop c, s, h, Q, Q', hq, w => by obtain ⟨n, x, s', h', e, k⟩ := w; exact ⟨n, x, s', h', e, hq _ _ _ k⟩
 | .exit id, s, h, Q, Q', hq, w => hq _ _ _ w
 | .ret, s, h, Q, Q', hq, w => hq _ _ _ w
 | .rngf f ps a b, s, h, Q, Q', hq, w => by obtain ⟨n, x, s', h', e, k⟩ := w; exact ⟨n, x, s', h', e, hq _ _ _ k⟩
 | .scope c, s, h, Q, Q', hq, w => wp_mono (c := c) hq w
theorem res_raw {f : Nat} {fn : VFn} {args : List V} {h : Heap} {P : V → Heap → Prop} (hf : vp f = some fn) (hp : fn.prim = none) (hm : fn.mode = 0)
  (w : wp vp fn.body (argSlots args) h fun x s' h' => (x = .norm ∨ x = .ret) ∧ ∃ v, resOf s' h' fn.res = some v ∧ P v h') : ∃ v h', callRes vp f args h = some (v, h') ∧ P v h' := by
 obtain ⟨n, x, s', h', e, hx, v, hv, k⟩ := wp_sound w
 refine ⟨v, h', callRes_of (n := n + 1) ?_, k⟩
 rcases hx with rfl | rfl
 ·simp only [callF, hf, hp, hm, isoArgs, enterH]
  show (match exec vp n fn.body (argSlots args) h with | some (.norm, s', h') => _ | some (.ret, s', h') => _ | _ => none) = _
  rw [e]
  simp only [hv, finish]
 ·simp only [callF, hf, hp, hm, isoArgs, enterH]
  show (match exec vp n fn.body (argSlots args) h with | some (.norm, s', h') => _ | some (.ret, s', h') => _ | _ => none) = _
  rw [e]
  simp only [hv, finish]
mutual
theorem frz_whole : ∀ (n : Nat) {v u : V}, frz n h0 0 false v = some u → u = v
 | 0, v, u, e => by simp [frz] at e
 | n + 1, v, u, e => by
  unfold frz at e
  split at e
  ·cases e
  ·simp [h0, Heap.get, Tr.get, blt_dec] at e
  ·simp [h0, Heap.get, Tr.get, blt_dec] at e
  ·obtain ⟨l, h1, rfl⟩ := Option.map_eq_some_iff.1 e; rw [frzs_whole n h1]
  ·obtain ⟨l, h1, rfl⟩ := Option.map_eq_some_iff.1 e; rw [frzs_whole n h1]
  ·obtain ⟨l, h1, rfl⟩ := Option.map_eq_some_iff.1 e; rw [frzs_whole n h1]
  ·obtain ⟨l, h1, rfl⟩ := Option.map_eq_some_iff.1 e; rw [frz_whole n h1]
  ·cases e
  ·cases e
  ·cases e; rfl
theorem frzs_whole : ∀ (n : Nat) {v u : List V}, frzs n h0 0 false v = some u → u = v
 | 0, v, u, e => by simp [frzs] at e
 | n + 1, v, u, e => by
  unfold frzs at e
  split at e
  ·cases e; rfl
  ·split at e
   ·rename_i h1 h2
    cases e
    rw [frz_whole n h1, frzs_whole n h2]
   ·cases e
end
theorem iso_same {m : Nat} {args as : List V} (e : isoArgs m args = some as) : as = args := by
 unfold isoArgs at e
 rw [Bool.cond_eq_ite] at e
 split at e
 ·exact frzs_whole _ e
 ·cases e
theorem res_pure {f : Nat} {fn : VFn} {args : List V} {h : Heap} {r : V} (hf : vp f = some fn) (hp : fn.prim = none) (hm : fn.mode = 1)
  (w : ∀ g : Heap, (g = h0 ∧ isoArgs 1 args = some args) ∨ (g.nx = h.nx ∧ g.lo = h.nx ∧ ∀ b, g.get b = h.get b) →
   wp vp fn.body (argSlots args) g fun x s' h' => (x = .norm ∨ x = .ret) ∧ ∃ v, resOf s' h' fn.res = some v ∧ frz frzFuel h' g.nx false v = some r) : callRes vp f args h = some (r, h) := by
 cases hi : isoArgs 1 args with
 | some as =>
  have := iso_same hi
  subst this
  obtain ⟨n, x, s', h', e, hx, v, hv, k⟩ := wp_sound (w h0 (.inl ⟨rfl, hi⟩))
  refine callRes_of (n := n + 1) ?_
  have k' : finishI h h' v = some (r, h) := by
   unfold finishI
   have e0 : h0.nx = 0 := rfl
   rw [e0] at k
   rw [k]
   rfl
  rcases hx with rfl | rfl
  ·simp only [callF, hf, hp, hm, hi, e, hv, k']
  ·simp only [callF, hf, hp, hm, hi, e, hv, k']
 | none =>
  obtain ⟨n, x, s', h', e, hx, v, hv, k⟩ := wp_sound (w { h with lo := h.nx } (.inr ⟨rfl, rfl, fun _ => rfl⟩))
  refine callRes_of (n := n + 1) ?_
  have k' : finish 1 h h' v = some (r, h) := by
   unfold finish
   simp only
   rw [k]
   rfl
  rcases hx with rfl | rfl
  ·simp only [callF, hf, hp, hm, hi, enterH, e, hv, k']
  ·simp only [callF, hf, hp, hm, hi, enterH, e, hv, k']
end Go.VE
end
section
namespace Go.VE
def vOf (r : Option (V × Heap)) : V := match r with
   | some x => x.1
   | none => .top
def hOf (r : Option (V × Heap)) : Heap := match r with
   | some x => x.2
   | none => h0
def okR (r : Option (V × Heap)) : Prop := r.isSome = true
theorem vOf_some (v : V) (h : Heap) : vOf (some (v, h)) = v := rfl
theorem hOf_some (v : V) (h : Heap) : hOf (some (v, h)) = h := rfl
theorem okR_some (x : V × Heap) : okR (some x) = True := by simp [okR]
theorem onR_eq {r : Option (V × Heap)} {K : V → Heap → Prop} : onR r K = (okR r ∧ K (vOf r) (hOf r)) := by
   apply propext
   constructor
   ·rintro ⟨v, h', rfl, k⟩
    exact ⟨rfl, k⟩
   ·rintro ⟨e, k⟩
    obtain ⟨⟨v, h'⟩, rfl⟩ := Option.isSome_iff_exists.1 e
    exact ⟨v, h', rfl, k⟩
section
variable {vp : Nat → Option VFn} {s : Slots} {h : Heap} {K : Slots → Heap → Prop} {Q : VX → Slots → Heap → Prop} {d : Nat} {r : List VOper}
theorem wo_nil : wpOps vp [] s h K = K s h := rfl
theorem g_t {o : VOp} {gd : Nat} {w : Bool} (hg : gEval (some (gd, w)) s = some true) : wpOps vp (g d gd w o :: r) s h K = wpOps vp (p d o :: r) s h K := by
   simp only [g, p, wpOps, hg]
   rfl
theorem g_f {o : VOp} {gd : Nat} {w : Bool} (hg : gEval (some (gd, w)) s = some false) : wpOps vp (g d gd w o :: r) s h K = wpOps vp r (Tr.set s d (.tup [])) h K := by
   simp only [g, wpOps, hg, slotsPut]
theorem w_skip : wp vp .skip s h Q = Q .norm s h := rfl
theorem w_reg {ops : List VOper} {chk : List (Nat × Nat)} : wp vp (.reg ops chk) s h Q = wpOps vp ops s h fun s h => chkOk chk s = true ∧ Q .norm s h := rfl
theorem w_seq {a b : VCode} : wp vp (.seq a b) s h Q = wp vp a s h fun x s h => match x with
    | .norm => wp vp b s h Q
    | x => Q x s h := rfl
theorem w_true {c : Opd} {a b : VCode} (hc : c.ev s = .bool true) : wp vp (.cond c a b) s h Q = wp vp a s h Q := by simp only [wp, hc]
theorem w_false {c : Opd} {a b : VCode} (hc : c.ev s = .bool false) : wp vp (.cond c a b) s h Q = wp vp b s h Q := by simp only [wp, hc]
theorem w_block {id : Nat} {c : VCode} : wp vp (.block id c) s h Q = wp vp c s h fun x s h => Q (blkX id x) s h := rfl
theorem w_exit {id : Nat} : wp vp (.exit id) s h Q = Q (.exit id) s h := rfl
theorem w_ret : wp vp .ret s h Q = Q .ret s h := rfl
theorem w_scope {c : VCode} : wp vp (.scope c) s h Q = wp vp c s h Q := rfl
theorem ev_t {i : Nat} : (Opd.t i).ev s = s.at i := rfl
theorem ev_k {v : V} : (Opd.k v).ev s = v := rfl
theorem evs_nil : evs s [] = [] := rfl
theorem evs_cons {x : Opd} {l : List Opd} : evs s (x :: l) = x.ev s :: evs s l := rfl
theorem evo_none : evo s none = none := rfl
theorem evo_some {x : Opd} : evo s (some x) = some (x.ev s) := rfl
theorem evp_nil : ([] : List (Nat × Nat × Opd)).map (fun p => (p.1, p.2.1, p.2.2.ev s)) = [] := rfl
theorem evp_cons {a b : Nat} {x : Opd} {l : List (Nat × Nat × Opd)} : ((a, b, x) :: l).map (fun p => (p.1, p.2.1, p.2.2.ev s)) = (a, b, x.ev s) :: l.map (fun p => (p.1, p.2.1, p.2.2.ev s)) := rfl
theorem p_call {f : Nat} {xs : List Opd} : wpOps vp (p d (.call f xs) :: r) s h K = (okR (callRes vp f (evs s xs) h) ∧ wpOps vp r (Tr.set s d (vOf (callRes vp f (evs s xs) h))) (hOf (callRes vp f (evs s xs) h)) K) := onR_eq
theorem n_call {f : Nat} {xs : List Opd} : wpOps vp (VE.n (.call f xs) :: r) s h K = (okR (callRes vp f (evs s xs) h) ∧ wpOps vp r s (hOf (callRes vp f (evs s xs) h)) K) := onR_eq
theorem p_callp {f : Nat} {xs : List Opd} : wpOps vp (p d (.callp f xs) :: r) s h K = (modeOf vp f = some 1 ∧ okR (callRes vp f (evs s xs) h) ∧ wpOps vp r (Tr.set s d (vOf (callRes vp f (evs s xs) h))) (hOf (callRes vp f (evs s xs) h)) K) := by
   show (modeOf vp f = some 1 ∧ onR (callRes vp f (evs s xs) h) _) = _
   rw [onR_eq]
   rfl
theorem p_callo {f : Nat} {xs : List Opd} : wpOps vp (p d (.callo f xs) :: r) s h K = (modeOf vp f = some 2 ∧ okR (callRes vp f (evs s xs) h) ∧ wpOps vp r (Tr.set s d (vOf (callRes vp f (evs s xs) h))) (hOf (callRes vp f (evs s xs) h)) K) := by
   show (modeOf vp f = some 2 ∧ onR (callRes vp f (evs s xs) h) _) = _
   rw [onR_eq]
   rfl
theorem p_callv {x : Opd} {xs : List Opd} : wpOps vp (p d (.callv x xs) :: r) s h K = (okR (callVRes vp (x.ev s) (evs s xs) h) ∧ wpOps vp r (Tr.set s d (vOf (callVRes vp (x.ev s) (evs s xs) h))) (hOf (callVRes vp (x.ev s) (evs s xs) h)) K) := onR_eq
end
def r_mv (x : V) (h : Heap) : Option (V × Heap) :=
  some (x, h)
def r_pick (c : V) (a : V) (b : V) (h : Heap) : Option (V × Heap) :=
  match c with
    | .bool true => some (a, h)
    | .bool false => some (b, h)
    | _ => none
def r_alloc (t : Nat) (z : List V) (h : Heap) : Option (V × Heap) :=
  some (.ptr h.nx 0, h.new (.cells z (.ct t)))
def r_box (n : Nat) (x : V) (h : Heap) : Option (V × Heap) :=
  match cellsO (x) with
   | some l => bif Nat.beq l.length n then some (.ptr h.nx 0, h.new (.cells l .cl)) else none
   | none => none
def r_build (z : List V) (ps : List (Nat × Nat × V)) (h : Heap) : Option (V × Heap) :=
  (fill z ps).map fun cs => (.agg cs, h)
def r_bsl (n : Nat) (sz : Nat) (z : List V) (ps : List (Nat × Nat × V)) (h : Heap) : Option (V × Heap) :=
  (fill z ps).map fun cs => (.sl h.nx 0 n n sz, h.new (.cells cs .cl))
def r_ld (n : Option Nat) (a : V) (h : Heap) : Option (V × Heap) :=
  match cellsAt h (a) with
    | some cs => (part n cs).map fun v => (v, h)
    | none => none
def r_st (n : Nat) (a : V) (x : V) (h : Heap) : Option (V × Heap) :=
  match cellsO (x) with
   | some l => bif Nat.beq l.length n then match a with
     | .ptr b off => (store h b off l).map fun h => (.tup [], h)
     | _ => none
    else none
   | none => none
def r_nck (x : V) (h : Heap) : Option (V × Heap) :=
  match x with
    | .ptr b o => some (.ptr b o, h)
    | .iptr c => some (.iptr c, h)
    | .fn f c => some (.fn f c, h)
    | .yld b => some (.yld b, h)
    | .ifc t v => some (.ifc t v, h)
    | _ => none
def r_bin (op : BinOp) (x : V) (y : V) (h : Heap) : Option (V × Heap) :=
   (VE.binOp op x y).map fun v => (v, h)
def r_eqb (neg : Bool) (x : V) (y : V) (h : Heap) : Option (V × Heap) :=
  match x, y with
   | .bool a, .bool b => some (.bool (bif neg then !(a == b) else a == b), h)
   | _, _ => none
def r_eqn (neg : Bool) (k : Nat) (x : V) (y : V) (h : Heap) : Option (V × Heap) :=
  match eqNil k (x) (y) with
   | some r => some (.bool (bif neg then !r else r), h)
   | none => none
def r_eqa (neg : Bool) (ks : List Nat) (x : V) (y : V) (h : Heap) : Option (V × Heap) :=
  match x, y with
   | .agg a, .agg b => bif Nat.beq a.length ks.length && Nat.beq b.length ks.length then match eqCells ks a b with
    | some r => some (.bool (bif neg then !r else r), h)
    | none => none
    else none
   | _, _ => none
def r_un (op : UnOp) (x : V) (h : Heap) : Option (V × Heap) :=
  (unOp op (x)).map fun v => (v, h)
def r_cnv (k : IntKind) (x : V) (h : Heap) : Option (V × Heap) :=
  match x with
    | .int _ n => some (.int k (wr k n), h)
    | _ => none
def r_mkf (f : Nat) (caps : List V) (h : Heap) : Option (V × Heap) :=
  some (.fn f (caps), h)
def r_mks (e : Nat) (bytes : Nat) (z : List V) (l : V) (c : V) (h : Heap) : Option (V × Heap) :=
  match asNat (l), asNat (c) with
    | some l, some c => bif Nat.ble l c && Nat.ble (c * bytes) 140737488355328 && Nat.ble c 9223372036854775807 then some (.sl h.nx 0 l c z.length, h.new (.cells (rep c z) (.ct e))) else none
    | _, _ => none
def r_slc (sz : Nat) (x : V) (lo : Option V) (hi : Option V) (mx : Option V) (h : Heap) : Option (V × Heap) :=
   (sliceV h sz x lo hi mx).map fun v => (v, h)
def r_slca (n : Nat) (sz : Nat) (x : V) (lo : Option V) (hi : Option V) (mx : Option V) (h : Heap) : Option (V × Heap) :=
  match bound mx n n with
    | none => none
    | some m => match bound hi n m with
     | none => none
     | some hh => match bound lo 0 hh with
      | none => none
      | some l => match x with
       | .ptr b off => match h.get b with
        | .cells c o => bif o.opn && Nat.beq (off + m * sz) c.length then none else bif Nat.ble (off + n * sz) c.length then some (.sl b (off + l * sz) (hh - l) (m - l) sz, h) else none
        | _ => none
       | .iptr cs => (takeN ((hh - l) * sz) (cs.drop (l * sz))).map fun cs => (.isl cs (hh - l) (some (m - l)), h)
       | _ => none
def r_fa (off : Nat) (x : V) (h : Heap) : Option (V × Heap) :=
  match x with
    | .ptr b o => some (.ptr b (o + off), h)
    | .iptr cs => some (.iptr (cs.drop off), h)
    | _ => none
def r_fld (off : Nat) (n : Option Nat) (x : V) (h : Heap) : Option (V × Heap) :=
  match x with
    | .agg cs => (part n (cs.drop off)).map fun v => (v, h)
    | _ => none
def r_ia (sz : Nat) (x : V) (i : V) (h : Heap) : Option (V × Heap) :=
  match asNat (i), x with
    | some i, .sl b off len _ _ => bif Nat.blt i len then some (.ptr b (off + i * sz), h) else none
    | some i, .isl cs len _ => bif Nat.blt i len && Nat.blt (i * sz) cs.length then some (.iptr (cs.drop (i * sz)), h) else none
    | _, _ => none
def r_iaa (len : Nat) (sz : Nat) (x : V) (i : V) (h : Heap) : Option (V × Heap) :=
  match asNat (i), x with
    | some i, .ptr b off => bif Nat.blt i len then some (.ptr b (off + i * sz), h) else none
    | some i, .iptr cs => bif Nat.blt i len then some (.iptr (cs.drop (i * sz)), h) else none
    | _, _ => none
def r_ix (len : Nat) (sz : Nat) (n : Option Nat) (x : V) (i : V) (h : Heap) : Option (V × Heap) :=
  match asNat (i), x with
    | some i, .agg cs => bif Nat.blt i len then (part n (cs.drop (i * sz))).map fun v => (v, h) else none
    | _, _ => none
def r_ext (i : Nat) (x : V) (h : Heap) : Option (V × Heap) :=
  match x with
    | .tup cs => (cs[i]?).map fun v => (v, h)
    | _ => none
def r_len (x : V) (h : Heap) : Option (V × Heap) :=
  match x with
   | .str _ => none
   | v => match lenOf v with
    | some n => some (.int .i64 n, h)
    | none => none
def r_lenc (n : Nat) (h : Heap) : Option (V × Heap) :=
  some (.int .i64 n, h)
def r_app (sz : Nat) (bytes : Nat) (a : V) (x : V) (h : Heap) : Option (V × Heap) :=
  match lenOf (x), rowOf h sz (x) with
   | some n, some cs => appendV h none sz bytes (a) n cs
   | _, _ => none
def r_cpy (sz : Nat) (d : V) (a : V) (h : Heap) : Option (V × Heap) :=
  copyV h sz (d) (a)
def r_mini (xs : List V) (h : Heap) : Option (V × Heap) :=
  match xs with
    | x :: l => (fold2 min2 x l).map fun v => (v, h)
    | [] => none
def r_maxi (xs : List V) (h : Heap) : Option (V × Heap) :=
  match xs with
    | x :: l => (fold2 max2 x l).map fun v => (v, h)
    | [] => none
def r_mkif (t : Nat) (x : V) (h : Heap) : Option (V × Heap) :=
  some (.ifc t (x), h)
section
variable {vp : Nat → Option VFn} {s : Slots} {h : Heap} {K : Slots → Heap → Prop} {dst : Nat} {r : List VOper}
theorem p_mv {x : Opd} : wpOps vp (VE.p dst (.mv x) :: r) s h K = (okR (r_mv (x.ev s) h) ∧ wpOps vp r (Tr.set s dst (vOf (r_mv (x.ev s) h))) (hOf (r_mv (x.ev s) h)) K) := onR_eq
theorem p_pick {c : Opd} {a : Opd} {b : Opd} : wpOps vp (VE.p dst (.pick c a b) :: r) s h K = (okR (r_pick (c.ev s) (a.ev s) (b.ev s) h) ∧ wpOps vp r (Tr.set s dst (vOf (r_pick (c.ev s) (a.ev s) (b.ev s) h))) (hOf (r_pick (c.ev s) (a.ev s) (b.ev s) h)) K) := onR_eq
theorem p_alloc {t : Nat} {z : List V} : wpOps vp (VE.p dst (.alloc t z) :: r) s h K = (okR (r_alloc t z h) ∧ wpOps vp r (Tr.set s dst (vOf (r_alloc t z h))) (hOf (r_alloc t z h)) K) := onR_eq
theorem p_box {n : Nat} {x : Opd} : wpOps vp (VE.p dst (.box n x) :: r) s h K = (okR (r_box n (x.ev s) h) ∧ wpOps vp r (Tr.set s dst (vOf (r_box n (x.ev s) h))) (hOf (r_box n (x.ev s) h)) K) := onR_eq
theorem p_build {z : List V} {ps : List (Nat × Nat × Opd)} : wpOps vp (VE.p dst (.build z ps) :: r) s h K = (okR (r_build z (ps.map fun p => (p.1, p.2.1, p.2.2.ev s)) h) ∧ wpOps vp r (Tr.set s dst (vOf (r_build z (ps.map fun p => (p.1, p.2.1, p.2.2.ev s)) h))) (hOf (r_build z (ps.map fun p => (p.1, p.2.1, p.2.2.ev s)) h)) K) := onR_eq
theorem p_bsl {n : Nat} {sz : Nat} {z : List V} {ps : List (Nat × Nat × Opd)} : wpOps vp (VE.p dst (.bsl n sz z ps) :: r) s h K = (okR (r_bsl n sz z (ps.map fun p => (p.1, p.2.1, p.2.2.ev s)) h) ∧ wpOps vp r (Tr.set s dst (vOf (r_bsl n sz z (ps.map fun p => (p.1, p.2.1, p.2.2.ev s)) h))) (hOf (r_bsl n sz z (ps.map fun p => (p.1, p.2.1, p.2.2.ev s)) h)) K) := onR_eq
theorem p_ld {n : Option Nat} {a : Opd} : wpOps vp (VE.p dst (.ld n a) :: r) s h K = (okR (r_ld n (a.ev s) h) ∧ wpOps vp r (Tr.set s dst (vOf (r_ld n (a.ev s) h))) (hOf (r_ld n (a.ev s) h)) K) := onR_eq
theorem p_st {n : Nat} {a : Opd} {x : Opd} : wpOps vp (VE.p dst (.st n a x) :: r) s h K = (okR (r_st n (a.ev s) (x.ev s) h) ∧ wpOps vp r (Tr.set s dst (vOf (r_st n (a.ev s) (x.ev s) h))) (hOf (r_st n (a.ev s) (x.ev s) h)) K) := onR_eq
theorem n_st {n : Nat} {a : Opd} {x : Opd} : wpOps vp (VE.n (.st n a x) :: r) s h K = (okR (r_st n (a.ev s) (x.ev s) h) ∧ wpOps vp r s (hOf (r_st n (a.ev s) (x.ev s) h)) K) := onR_eq
theorem p_nck {x : Opd} : wpOps vp (VE.p dst (.nck x) :: r) s h K = (okR (r_nck (x.ev s) h) ∧ wpOps vp r (Tr.set s dst (vOf (r_nck (x.ev s) h))) (hOf (r_nck (x.ev s) h)) K) := onR_eq
theorem p_bin {op : BinOp} {x : Opd} {y : Opd} : wpOps vp (VE.p dst (.bin op x y) :: r) s h K = (okR (r_bin op (x.ev s) (y.ev s) h) ∧ wpOps vp r (Tr.set s dst (vOf (r_bin op (x.ev s) (y.ev s) h))) (hOf (r_bin op (x.ev s) (y.ev s) h)) K) := onR_eq
theorem p_eqb {neg : Bool} {x : Opd} {y : Opd} : wpOps vp (VE.p dst (.eqb neg x y) :: r) s h K = (okR (r_eqb neg (x.ev s) (y.ev s) h) ∧ wpOps vp r (Tr.set s dst (vOf (r_eqb neg (x.ev s) (y.ev s) h))) (hOf (r_eqb neg (x.ev s) (y.ev s) h)) K) := onR_eq
theorem p_eqn {neg : Bool} {k : Nat} {x : Opd} {y : Opd} : wpOps vp (VE.p dst (.eqn neg k x y) :: r) s h K = (okR (r_eqn neg k (x.ev s) (y.ev s) h) ∧ wpOps vp r (Tr.set s dst (vOf (r_eqn neg k (x.ev s) (y.ev s) h))) (hOf (r_eqn neg k (x.ev s) (y.ev s) h)) K) := onR_eq
theorem p_eqa {neg : Bool} {ks : List Nat} {x : Opd} {y : Opd} : wpOps vp (VE.p dst (.eqa neg ks x y) :: r) s h K = (okR (r_eqa neg ks (x.ev s) (y.ev s) h) ∧ wpOps vp r (Tr.set s dst (vOf (r_eqa neg ks (x.ev s) (y.ev s) h))) (hOf (r_eqa neg ks (x.ev s) (y.ev s) h)) K) := onR_eq
theorem p_un {op : UnOp} {x : Opd} : wpOps vp (VE.p dst (.un op x) :: r) s h K = (okR (r_un op (x.ev s) h) ∧ wpOps vp r (Tr.set s dst (vOf (r_un op (x.ev s) h))) (hOf (r_un op (x.ev s) h)) K) := onR_eq
theorem p_cnv {k : IntKind} {x : Opd} : wpOps vp (VE.p dst (.cnv k x) :: r) s h K = (okR (r_cnv k (x.ev s) h) ∧ wpOps vp r (Tr.set s dst (vOf (r_cnv k (x.ev s) h))) (hOf (r_cnv k (x.ev s) h)) K) := onR_eq
theorem p_mkf {f : Nat} {caps : List Opd} : wpOps vp (VE.p dst (.mkf f caps) :: r) s h K = (okR (r_mkf f (evs s caps) h) ∧ wpOps vp r (Tr.set s dst (vOf (r_mkf f (evs s caps) h))) (hOf (r_mkf f (evs s caps) h)) K) := onR_eq
theorem p_mks {e : Nat} {bytes : Nat} {z : List V} {l : Opd} {c : Opd} : wpOps vp (VE.p dst (.mks e bytes z l c) :: r) s h K = (okR (r_mks e bytes z (l.ev s) (c.ev s) h) ∧ wpOps vp r (Tr.set s dst (vOf (r_mks e bytes z (l.ev s) (c.ev s) h))) (hOf (r_mks e bytes z (l.ev s) (c.ev s) h)) K) := onR_eq
theorem p_slc {sz : Nat} {x : Opd} {lo : Option Opd} {hi : Option Opd} {mx : Option Opd} : wpOps vp (VE.p dst (.slc sz x lo hi mx) :: r) s h K = (okR (r_slc sz (x.ev s) (evo s lo) (evo s hi) (evo s mx) h) ∧ wpOps vp r (Tr.set s dst (vOf (r_slc sz (x.ev s) (evo s lo) (evo s hi) (evo s mx) h))) (hOf (r_slc sz (x.ev s) (evo s lo) (evo s hi) (evo s mx) h)) K) := onR_eq
theorem p_slca {n : Nat} {sz : Nat} {x : Opd} {lo : Option Opd} {hi : Option Opd} {mx : Option Opd} : wpOps vp (VE.p dst (.slca n sz x lo hi mx) :: r) s h K = (okR (r_slca n sz (x.ev s) (evo s lo) (evo s hi) (evo s mx) h) ∧ wpOps vp r (Tr.set s dst (vOf (r_slca n sz (x.ev s) (evo s lo) (evo s hi) (evo s mx) h))) (hOf (r_slca n sz (x.ev s) (evo s lo) (evo s hi) (evo s mx) h)) K) := onR_eq
theorem p_fa {off : Nat} {x : Opd} : wpOps vp (VE.p dst (.fa off x) :: r) s h K = (okR (r_fa off (x.ev s) h) ∧ wpOps vp r (Tr.set s dst (vOf (r_fa off (x.ev s) h))) (hOf (r_fa off (x.ev s) h)) K) := onR_eq
theorem p_fld {off : Nat} {n : Option Nat} {x : Opd} : wpOps vp (VE.p dst (.fld off n x) :: r) s h K = (okR (r_fld off n (x.ev s) h) ∧ wpOps vp r (Tr.set s dst (vOf (r_fld off n (x.ev s) h))) (hOf (r_fld off n (x.ev s) h)) K) := onR_eq
theorem p_ia {sz : Nat} {x : Opd} {i : Opd} : wpOps vp (VE.p dst (.ia sz x i) :: r) s h K = (okR (r_ia sz (x.ev s) (i.ev s) h) ∧ wpOps vp r (Tr.set s dst (vOf (r_ia sz (x.ev s) (i.ev s) h))) (hOf (r_ia sz (x.ev s) (i.ev s) h)) K) := onR_eq
theorem p_iaa {len : Nat} {sz : Nat} {x : Opd} {i : Opd} : wpOps vp (VE.p dst (.iaa len sz x i) :: r) s h K = (okR (r_iaa len sz (x.ev s) (i.ev s) h) ∧ wpOps vp r (Tr.set s dst (vOf (r_iaa len sz (x.ev s) (i.ev s) h))) (hOf (r_iaa len sz (x.ev s) (i.ev s) h)) K) := onR_eq
theorem p_ix {len : Nat} {sz : Nat} {n : Option Nat} {x : Opd} {i : Opd} : wpOps vp (VE.p dst (.ix len sz n x i) :: r) s h K = (okR (r_ix len sz n (x.ev s) (i.ev s) h) ∧ wpOps vp r (Tr.set s dst (vOf (r_ix len sz n (x.ev s) (i.ev s) h))) (hOf (r_ix len sz n (x.ev s) (i.ev s) h)) K) := onR_eq
theorem p_ext {i : Nat} {x : Opd} : wpOps vp (VE.p dst (.ext i x) :: r) s h K = (okR (r_ext i (x.ev s) h) ∧ wpOps vp r (Tr.set s dst (vOf (r_ext i (x.ev s) h))) (hOf (r_ext i (x.ev s) h)) K) := onR_eq
theorem p_len {x : Opd} : wpOps vp (VE.p dst (.len x) :: r) s h K = (okR (r_len (x.ev s) h) ∧ wpOps vp r (Tr.set s dst (vOf (r_len (x.ev s) h))) (hOf (r_len (x.ev s) h)) K) := onR_eq
theorem p_lenc {n : Nat} : wpOps vp (VE.p dst (.lenc n) :: r) s h K = (okR (r_lenc n h) ∧ wpOps vp r (Tr.set s dst (vOf (r_lenc n h))) (hOf (r_lenc n h)) K) := onR_eq
theorem p_app {sz : Nat} {bytes : Nat} {a : Opd} {x : Opd} : wpOps vp (VE.p dst (.app sz bytes a x) :: r) s h K = (okR (r_app sz bytes (a.ev s) (x.ev s) h) ∧ wpOps vp r (Tr.set s dst (vOf (r_app sz bytes (a.ev s) (x.ev s) h))) (hOf (r_app sz bytes (a.ev s) (x.ev s) h)) K) := onR_eq
theorem p_cpy {sz : Nat} {d : Opd} {a : Opd} : wpOps vp (VE.p dst (.cpy sz d a) :: r) s h K = (okR (r_cpy sz (d.ev s) (a.ev s) h) ∧ wpOps vp r (Tr.set s dst (vOf (r_cpy sz (d.ev s) (a.ev s) h))) (hOf (r_cpy sz (d.ev s) (a.ev s) h)) K) := onR_eq
theorem n_cpy {sz : Nat} {d : Opd} {a : Opd} : wpOps vp (VE.n (.cpy sz d a) :: r) s h K = (okR (r_cpy sz (d.ev s) (a.ev s) h) ∧ wpOps vp r s (hOf (r_cpy sz (d.ev s) (a.ev s) h)) K) := onR_eq
theorem p_mini {xs : List Opd} : wpOps vp (VE.p dst (.mini xs) :: r) s h K = (okR (r_mini (evs s xs) h) ∧ wpOps vp r (Tr.set s dst (vOf (r_mini (evs s xs) h))) (hOf (r_mini (evs s xs) h)) K) := onR_eq
theorem p_maxi {xs : List Opd} : wpOps vp (VE.p dst (.maxi xs) :: r) s h K = (okR (r_maxi (evs s xs) h) ∧ wpOps vp r (Tr.set s dst (vOf (r_maxi (evs s xs) h))) (hOf (r_maxi (evs s xs) h)) K) := onR_eq
theorem p_mkif {t : Nat} {x : Opd} : wpOps vp (VE.p dst (.mkif t x) :: r) s h K = (okR (r_mkif t (x.ev s) h) ∧ wpOps vp r (Tr.set s dst (vOf (r_mkif t (x.ev s) h))) (hOf (r_mkif t (x.ev s) h)) K) := onR_eq
end
end Go.VE
end
section
namespace Go.VE
theorem Heap.new_nx (h : Heap) (x : Blk) : (h.new x).nx = h.nx + 1 := rfl
theorem Heap.new_lo (h : Heap) (x : Blk) : (h.new x).lo = h.lo := rfl
theorem Heap.set_nx (h : Heap) (b : Nat) (x : Blk) : (h.set b x).nx = h.nx := rfl
theorem Heap.set_lo (h : Heap) (b : Nat) (x : Blk) : (h.set b x).lo = h.lo := rfl
theorem ltI_dec (a b : Int) : ltI a b = decide (a < b) := by
 cases a with
 | ofNat a => cases b with
  | ofNat b => simp only [ltI, blt_dec]; congr 1; apply propext; simp only [Int.ofNat_eq_natCast]; omega
  | negSucc b => simp only [ltI]; symm; rw [decide_eq_false_iff_not]; simp only [Int.ofNat_eq_natCast]; omega
 | negSucc a => cases b with
  | ofNat b => simp only [ltI]; symm; rw [decide_eq_true_eq]; simp only [Int.ofNat_eq_natCast]; omega
  | negSucc b => simp only [ltI, blt_dec]; congr 1; apply propext; omega
theorem eqI_dec (a b : Int) : eqI a b = decide (a = b) := by
 cases a with
 | ofNat a => cases b with
  | ofNat b => simp only [eqI, beq_dec]; congr 1; apply propext; simp only [Int.ofNat_eq_natCast]; omega
  | negSucc b => simp only [eqI]; symm; rw [decide_eq_false_iff_not]; simp only [Int.ofNat_eq_natCast]; omega
 | negSucc a => cases b with
  | ofNat b => simp only [eqI]; symm; rw [decide_eq_false_iff_not]; simp only [Int.ofNat_eq_natCast]; omega
  | negSucc b => simp only [eqI, beq_dec]; congr 1; apply propext; omega
theorem kEq_refl (k : IntKind) : kEq k k = true := by cases k <;> rfl
theorem bi_lss {k : IntKind} {a b : Int} : VE.binOp .lss (.int k a) (.int k b) = some (.bool (decide (a < b))) := by simp only [VE.binOp, kEq_refl, cond_true, binInt, ltI_dec]
theorem bi_leq {k : IntKind} {a b : Int} : VE.binOp .leq (.int k a) (.int k b) = some (.bool (decide (a ≤ b))) := by
 simp only [VE.binOp, kEq_refl, cond_true, binInt, ltI_dec]
 congr 2
 by_cases q : b < a
 ·simp only [q, decide_true, Bool.not_true]; symm; rw [decide_eq_false_iff_not]; omega
 ·simp only [q, decide_false, Bool.not_false]; symm; rw [decide_eq_true_eq]; omega
theorem bi_gtr {k : IntKind} {a b : Int} : VE.binOp .gtr (.int k a) (.int k b) = some (.bool (decide (b < a))) := by simp only [VE.binOp, kEq_refl, cond_true, binInt, ltI_dec]
theorem bi_geq {k : IntKind} {a b : Int} : VE.binOp .geq (.int k a) (.int k b) = some (.bool (decide (b ≤ a))) := by
 simp only [VE.binOp, kEq_refl, cond_true, binInt, ltI_dec]
 congr 2
 by_cases q : a < b
 ·simp only [q, decide_true, Bool.not_true]; symm; rw [decide_eq_false_iff_not]; omega
 ·simp only [q, decide_false, Bool.not_false]; symm; rw [decide_eq_true_eq]; omega
theorem bi_eql {k : IntKind} {a b : Int} : VE.binOp .eql (.int k a) (.int k b) = some (.bool (decide (a = b))) := by simp only [VE.binOp, kEq_refl, cond_true, binInt, eqI_dec]
theorem bi_neq {k : IntKind} {a b : Int} : VE.binOp .neq (.int k a) (.int k b) = some (.bool (!decide (a = b))) := by simp only [VE.binOp, kEq_refl, cond_true, binInt, eqI_dec]
theorem bi_add {k : IntKind} {a b : Int} : VE.binOp .add (.int k a) (.int k b) = some (.int k (wr k (a + b))) := by simp only [VE.binOp, kEq_refl, cond_true, binInt]
theorem bi_sub {k : IntKind} {a b : Int} : VE.binOp .sub (.int k a) (.int k b) = some (.int k (wr k (a - b))) := by simp only [VE.binOp, kEq_refl, cond_true, binInt]
theorem wr_i64 {n : Int} (h1 : -9223372036854775808 ≤ n) (h2 : n ≤ 9223372036854775807) : wr .i64 n = n := by
 unfold wr hf
 simp only [blt_dec, Bool.cond_eq_ite, decide_eq_true_eq]
 cases n with
 | ofNat n =>
  have e : low .i64 (.ofNat n) = n := by
   show n % 18446744073709551616 = n
   simp only [Int.ofNat_eq_natCast] at h2
   omega
  rw [e, if_pos (by simp only [Int.ofNat_eq_natCast] at h2; omega)]
 | negSucc n =>
  have e : low .i64 (.negSucc n) = 18446744073709551615 - n := by
   show 18446744073709551616 - 1 - n % 18446744073709551616 = _
   omega
  rw [e, if_neg (by omega)]
  show Int.negSucc (18446744073709551616 - 1 - (18446744073709551615 - n)) = _
  congr 1
  omega
inductive Sl (α : Type) where
 | nil
 | mk (l : List α) (cap : Option Nat)
def Sl.l {α : Type} : Sl α → List α
 | .nil => []
 | .mk l _ => l
def Sl.v {α : Type} (enc : α → List V) : Sl α → V
 | .nil => .nils
 | .mk l cap => .isl (l.flatMap enc) l.length cap
section
variable {α : Type} {enc : α → List V} {sz : Nat}
theorem flat_drop (he : ∀ x, (enc x).length = sz) : ∀ (l : List α) (k : Nat) (h : k < l.length), (l.flatMap enc).drop (k * sz) = enc l[k] ++ (l.drop (k + 1)).flatMap enc
 | [], k, h => by simp at h
 | x :: l, 0, h => by simp
 | x :: l, k + 1, h => by
  have e : (k + 1) * sz = (enc x).length + k * sz := by rw [he, Nat.add_mul]; omega
  rw [List.flatMap_cons, e, List.drop_append, List.drop_eq_nil_of_le (by omega)]
  simp only [List.nil_append, Nat.add_sub_cancel_left]
  rw [flat_drop he l k (by simpa using h)]
  simp
theorem flat_len2 (he : ∀ x, (enc x).length = sz) (l : List α) : (l.flatMap enc).length = l.length * sz := by
 induction l with
 | nil => simp
 | cons x l ih => rw [List.flatMap_cons, List.length_append, he, ih, List.length_cons, Nat.add_mul]; omega
theorem r_len_v {c : Sl α} {h : Heap} : r_len (c.v enc) h = some (.int .i64 c.l.length, h) := by cases c <;> rfl
theorem r_ia_v (he : ∀ x, (enc x).length = sz) (hz : 0 < sz) {c : Sl α} {k : Nat} {n : Int} {h : Heap} (hk : k < c.l.length) (hn : n = k) : r_ia sz (c.v enc) (.int .i64 n) h = some (.iptr (enc c.l[k] ++ (c.l.drop (k + 1)).flatMap enc), h) := by
 subst hn
 cases c with
 | nil => simp [Sl.l] at hk
 | mk l cap =>
  have h1 : Nat.blt k l.length = true := by rw [blt_dec]; simpa [Sl.l] using hk
  have h2 : Nat.blt (k * sz) (l.flatMap enc).length = true := by
   rw [blt_dec, flat_len2 he]
   simp only [decide_eq_true_eq]
   exact Nat.mul_lt_mul_of_pos_right (by simpa [Sl.l] using hk) hz
  have ha : asNat (.int .i64 (k : Int)) = some k := rfl
  simp only [r_ia, Sl.v, ha, h1, h2, Bool.and_self, cond_true]
  rw [flat_drop he l k (by simpa [Sl.l] using hk)]
  rfl
theorem oneCell_v {c : Sl α} : oneCell (c.v enc) = true := by cases c <;> rfl
theorem cellsO_v {c : Sl α} : cellsO (c.v enc) = some [c.v enc] := by cases c <;> rfl
end
theorem frzI {h : Heap} {b : Nat} {k : IntKind} {x : Int} : frz frzFuel h b false (.int k x) = some (.int k x) := rfl
theorem frzB {h : Heap} {b : Nat} {x : Bool} : frz frzFuel h b false (.bool x) = some (.bool x) := rfl
end Go.VE
namespace Go.VE
theorem w_loop1 {vp : Nat → Option VFn} {c : VCode} {s : Slots} {h : Heap} {Q : VX → Slots → Heap → Prop}
  (w : wp vp c s h fun x s h => match x with
   | .norm => wp vp (.loop c) s h Q
   | x => Q x s h) : wp vp (.loop c) s h Q := by
 obtain ⟨n1, x, s1, h1, e1, k1⟩ := wp_sound w
 cases x with
 | norm =>
  obtain ⟨n2, x2, s2, h2, e2, k2⟩ := k1
  refine ⟨max n1 n2 + 1, x2, s2, h2, ?_, k2⟩
  simp only [exec, exec_mono vp (Nat.le_max_left n1 n2) e1]
  exact exec_mono vp (Nat.le_max_right n1 n2) e2
 | exit i => exact ⟨n1 + 1, .exit i, s1, h1, by simp only [exec, e1], k1⟩
 | ret => exact ⟨n1 + 1, .ret, s1, h1, by simp only [exec, e1], k1⟩
theorem asNat0 {k : IntKind} : asNat (.int k 0) = some 0 := rfl
theorem asNat1 {k : IntKind} : asNat (.int k 1) = some 1 := rfl
theorem asNat2 {k : IntKind} : asNat (.int k 2) = some 2 := rfl
theorem asNatN {k : IntKind} {n : Nat} : asNat (.int k (n : Int)) = some n := rfl
theorem wr1 : wr .i64 1 = 1 := rfl
theorem wr2 : wr .i64 2 = 2 := rfl
theorem wr3 : wr .i64 3 = 3 := rfl
theorem wr_succ {k : Nat} (h : k < 9223372036854775807) : wr .i64 ((k : Int) + 1) = ((k + 1 : Nat) : Int) := by
 rw [wr_i64 (by omega) (by omega)]
 omega
theorem wr_pred {k : Nat} (h1 : 0 < k) (h : k < 9223372036854775807) : wr .i64 ((k : Int) - 1) = ((k - 1 : Nat) : Int) := by
 rw [wr_i64 (by omega) (by omega)]
 omega
end Go.VE
namespace Go.VE
theorem one_int {k : IntKind} {n : Int} : oneCell (.int k n) = true := rfl
theorem one_bool {b : Bool} : oneCell (.bool b) = true := rfl
theorem one_str {b : List UInt8} : oneCell (.str b) = true := rfl
theorem one_ptr {b o : Nat} : oneCell (.ptr b o) = true := rfl
theorem one_sl {b o n c z : Nat} : oneCell (.sl b o n c z) = true := rfl
theorem one_isl {l : List V} {n : Nat} {c : Option Nat} : oneCell (.isl l n c) = true := rfl
theorem one_nils : oneCell .nils = true := rfl
theorem one_nilp : oneCell .nilp = true := rfl
theorem one_fn {f : Nat} {c : List V} : oneCell (.fn f c) = true := rfl
theorem one_ifc {t : Nat} {v : V} : oneCell (.ifc t v) = true := rfl
theorem one_nili : oneCell .nili = true := rfl
theorem one_iptr {l : List V} : oneCell (.iptr l) = true := rfl
theorem co_int {k : IntKind} {n : Int} : cellsO (.int k n) = some [.int k n] := rfl
theorem co_bool {b : Bool} : cellsO (.bool b) = some [.bool b] := rfl
theorem co_str {b : List UInt8} : cellsO (.str b) = some [.str b] := rfl
theorem co_agg {l : List V} : cellsO (.agg l) = some l := rfl
theorem co_ptr {b o : Nat} : cellsO (.ptr b o) = some [.ptr b o] := rfl
theorem co_sl {b o n c z : Nat} : cellsO (.sl b o n c z) = some [.sl b o n c z] := rfl
theorem co_isl {l : List V} {n : Nat} {c : Option Nat} : cellsO (.isl l n c) = some [.isl l n c] := rfl
theorem co_nils : cellsO .nils = some [.nils] := rfl
theorem co_nilp : cellsO .nilp = some [.nilp] := rfl
theorem co_fn {f : Nat} {c : List V} : cellsO (.fn f c) = some [.fn f c] := rfl
theorem co_iptr {l : List V} : cellsO (.iptr l) = some [.iptr l] := rfl
end Go.VE
end
section
namespace Go.VE
section
variable {vp : Nat → Option VFn}
theorem res_pure_ex {f : Nat} {fn : VFn} {args : List V} {h : Heap} {P : V → Prop} (hf : vp f = some fn) (hp : fn.prim = none) (hm : fn.mode = 1)
  (w : ∀ g : Heap, (g = h0 ∧ isoArgs 1 args = some args) ∨ (g.nx = h.nx ∧ g.lo = h.nx ∧ ∀ b, g.get b = h.get b) →
   wp vp fn.body (argSlots args) g fun x s' h' => (x = .norm ∨ x = .ret) ∧ ∃ v, resOf s' h' fn.res = some v ∧ ∃ r, frz frzFuel h' g.nx false v = some r ∧ P r) : ∃ r, callRes vp f args h = some (r, h) ∧ P r := by
 cases hi : isoArgs 1 args with
 | some as =>
  have := iso_same hi
  subst this
  obtain ⟨n, x, s', h', e, hx, v, hv, r, k, hr⟩ := wp_sound (w h0 (.inl ⟨rfl, hi⟩))
  refine ⟨r, callRes_of (n := n + 1) ?_, hr⟩
  have k' : finishI h h' v = some (r, h) := by
   unfold finishI
   have e0 : h0.nx = 0 := rfl
   rw [e0] at k
   rw [k]
   rfl
  rcases hx with rfl | rfl
  ·simp only [callF, hf, hp, hm, hi, e, hv, k']
  ·simp only [callF, hf, hp, hm, hi, e, hv, k']
 | none =>
  obtain ⟨n, x, s', h', e, hx, v, hv, r, k, hr⟩ := wp_sound (w { h with lo := h.nx } (.inr ⟨rfl, rfl, fun _ => rfl⟩))
  refine ⟨r, callRes_of (n := n + 1) ?_, hr⟩
  have k' : finish 1 h h' v = some (r, h) := by
   unfold finish
   simp only
   rw [k]
   rfl
  rcases hx with rfl | rfl
  ·simp only [callF, hf, hp, hm, hi, enterH, e, hv, k']
  ·simp only [callF, hf, hp, hm, hi, enterH, e, hv, k']
end
section
variable {α : Type}
def Acc (enc : α → List V) (sz : Nat) (h : Heap) (v : V) (l : List α) : Prop :=
 (v = .nils ∧ l = []) ∨ ∃ b, v = .sl b 0 l.length l.length sz ∧ h.lo ≤ b ∧ b < h.nx ∧ h.get b = .cells (l.flatMap enc) .op ∧ 0 < l.length
theorem Acc.nil {enc : α → List V} {sz : Nat} {h : Heap} : Acc enc sz h .nils ([] : List α) := .inl ⟨rfl, rfl⟩
theorem Acc.keep {enc : α → List V} {sz : Nat} {h h' : Heap} {v : V} {l : List α} (a : Acc enc sz h v l) (hlo : h'.lo = h.lo) (hnx : h.nx ≤ h'.nx) (hg : ∀ b cs, b < h.nx → h.get b = .cells cs .op → h'.get b = h.get b) : Acc enc sz h' v l := by
 rcases a with ⟨rfl, rfl⟩ | ⟨b, e, h1, h2, h3, h4⟩
 ·exact .inl ⟨rfl, rfl⟩
 ·exact .inr ⟨b, e, by rw [hlo]; exact h1, by omega, by rw [hg b _ h2 h3, h3], h4⟩
theorem takeN_all : ∀ (l : List V), takeN l.length l = some l
 | [] => rfl
 | x :: l => by simp only [List.length_cons, takeN, takeN_all l]
theorem Acc.app {enc : α → List V} {sz bytes : Nat} (he : ∀ x, (enc x).length = sz) (h1 : ∀ x, (enc x).all oneCell = true) {h : Heap} {v : V} {l : List α} (a : Acc enc sz h v l) {bx : Nat} {y : α} {tx : Tag} (hx : h.get bx = .cells (enc y) tx)
  (hb : (l.length + 1) * bytes ≤ 140737488355328) : ∃ v' h', r_app sz bytes v (.sl bx 0 1 1 sz) h = some (v', h') ∧ h'.lo = h.lo ∧ h'.nx = h.nx + 1 ∧ (h.lo ≤ h.nx → Acc enc sz h' v' (l ++ [y])) ∧ ∀ b, b < h.nx → (∀ cs, h.get b ≠ .cells cs .op) → h'.get b = h.get b := by
 have hrow : rowOf h sz (.sl bx 0 1 1 sz) = some (enc y) := by
  have : takeN sz (enc y) = some (enc y) := by rw [← he y]; exact takeN_all _
  simp only [rowOf, beq_dec, decide_true, cond_true, hx, Nat.one_mul, List.drop_zero, this]
 have hlen : lenOf (.sl bx 0 1 1 sz) = some 1 := rfl
 have hnb : Nat.blt 140737488355328 ((l.length + 1) * bytes) = false := by rw [blt_dec]; simp; omega
 rcases a with ⟨rfl, rfl⟩ | ⟨b, rfl, q1, q2, q3, q4⟩
 ·refine ⟨.sl h.nx 0 1 1 sz, h.new (.cells (enc y) .op), ?_, rfl, rfl, fun hlo => .inr ⟨h.nx, rfl, hlo, by simp [Heap.new], ?_, by simp⟩, fun b hb2 _ => ?_⟩
  ·have hnb' : Nat.blt 140737488355328 (1 * bytes) = false := by simpa using hnb
   simp only [r_app, hrow, hlen, appendV, hnb', cond_false, tagN]
  ·rw [Heap.get_new, if_pos rfl]
   simp
  ·rw [Heap.get_new, if_neg (by omega)]
 ·have hcl : (l.flatMap enc).length = l.length * sz := flat_len2 he l
  have ht : takeN (l.length * sz) ((l.flatMap enc).drop 0) = some (l.flatMap enc) := by rw [List.drop_zero, ← hcl]; exact takeN_all _
  have hlt : Nat.ble (l.length + 1) l.length = false := by rw [ble_dec]; simp
  have hlb : Nat.blt b h.lo = false := by rw [blt_dec]; simp; omega
  refine ⟨.sl h.nx 0 (l.length + 1) (l.length + 1) sz, (h.set b .dead).new (.cells (l.flatMap enc ++ enc y) .op), ?_, rfl, rfl, fun hlo => .inr ⟨h.nx, by simp, hlo, by simp [Heap.new, Heap.set], ?_, by simp⟩, fun c hc hne => ?_⟩
  ·simp only [r_app, hrow, hlen, appendV, beq_dec, decide_true, cond_true, q3, hlt, cond_false, hnb, ht, Tag.opn, hcl, Nat.zero_add, Bool.and_self, hlb, h1, Bool.not_true, Bool.or_self, tagM]
  ·show ((h.set b .dead).new _).get (h.set b .dead).nx = _
   rw [Heap.get_new, if_pos rfl]
   simp
  ·rw [Heap.get_new, if_neg (by show c ≠ h.nx; omega), Heap.get_set, if_neg (fun e => by subst e; exact hne _ q3)]
def scal : V → Bool
 | .int .. | .bool _ | .str _ | .isl .. | .nils | .nilp => true
 | _ => false
theorem frz_scal {n : Nat} {h : Heap} {b : Nat} {i : Bool} {v : V} (hs : scal v = true) : frz (n + 1) h b i v = some v := by
 cases v <;> first | (cases hs; done) | rfl
theorem frzs_scal : ∀ (l : List V) {n : Nat} {h : Heap} {b : Nat} {i : Bool}, l.all scal = true → l.length + 2 ≤ n → frzs n h b i l = some l
 | [], n + 1, _, _, _, _, _ => rfl
 | x :: l, n + 1, h, b, i, hs, hn => by
  simp only [List.all_cons, Bool.and_eq_true] at hs
  simp only [List.length_cons] at hn
  obtain ⟨m, rfl⟩ : ∃ m, n = m + 1 := ⟨n - 1, by omega⟩
  rw [frzs, frz_scal hs.1, frzs_scal l hs.2 (by omega)]
theorem all_flat {enc : α → List V} {f : V → Bool} (h : ∀ x, (enc x).all f = true) (l : List α) : (l.flatMap enc).all f = true := by
 rw [List.all_eq_true]
 intro v hv
 obtain ⟨x, _, hx⟩ := List.mem_flatMap.1 hv
 exact List.all_eq_true.1 (h x) v hx
theorem Acc.frz {enc : α → List V} {sz : Nat} (he : ∀ x, (enc x).length = sz) (hs : ∀ x, (enc x).all scal = true) {h : Heap} {v : V} {l : List α} (a : Acc enc sz h v l) {base : Nat} (hb : base ≤ h.lo) {n : Nat} (hn : l.length * sz + 4 ≤ n) :
  ∃ o : Sl α, o.l = l ∧ frz n h base false v = some (o.v enc) := by
 rcases a with ⟨rfl, rfl⟩ | ⟨b, rfl, q1, q2, q3, q4⟩
 ·obtain ⟨m, rfl⟩ : ∃ m, n = m + 1 := ⟨n - 1, by omega⟩
  exact ⟨.nil, rfl, rfl⟩
 ·obtain ⟨m, rfl⟩ : ∃ m, n = m + 1 := ⟨n - 1, by omega⟩
  have hcl : (l.flatMap enc).length = l.length * sz := flat_len2 he l
  have ht : takeN (l.length * sz) ((l.flatMap enc).drop 0) = some (l.flatMap enc) := by rw [List.drop_zero, ← hcl]; exact takeN_all _
  have hlb : Nat.blt b base = false := by rw [blt_dec]; simp; omega
  have hf : frzs m h base true (l.flatMap enc) = some (l.flatMap enc) := frzs_scal _ (all_flat hs l) (by omega)
  refine ⟨.mk l none, rfl, ?_⟩
  simp only [Go.VE.frz, hlb, cond_false, q3, ht, hf, Tag.opn, Nat.zero_add, hcl, beq_dec, decide_true, Bool.and_self, cond_true, Sl.v]
theorem frz_tup2 {n : Nat} {h : Heap} {b : Nat} {v w u : V} (h1 : Go.VE.frz (n + 2) h b false v = some u) (h2 : scal w = true) : Go.VE.frz (n + 4) h b false (.tup [v, w]) = some (.tup [u, w]) := by
 have e1 : frzs (n + 3) h b false [v, w] = some [u, w] := by
  simp only [frzs, h1, frz_scal h2]
 simp only [Go.VE.frz, e1, Option.map_some]
end
end Go.VE
end

