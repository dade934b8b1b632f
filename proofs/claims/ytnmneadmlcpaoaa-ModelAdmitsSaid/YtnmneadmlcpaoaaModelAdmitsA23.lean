/- What the functions of the law ModelAdmits compute, on typed arguments (part 23). -/
import Derived.Test.YtnmneadmlcpaoaaModelAdmitsA22
set_option linter.all false
namespace Go.VE.LB
open Go Go.VE
set_option maxRecDepth 100000
set_option linter.all false
set_option maxHeartbeats 2000000
theorem ins_res {vp : Nat → Option VFn} {f : Nat} (hf : vp f = some B_slices_Insert_api_Held) {s i v : V} {h : Heap} {r : V × Heap} (e : insertV h 7 56 s i v = some r) : callRes vp f [s, i, v] h = some r :=
  callRes_of (n := 1) (by simp only [callF, hf, B_slices_Insert_api_Held, e])
theorem row_of {h : Heap} {b n c : Nat} {l : List Held} {r : List V} {tag : Tag} (hb : h.get b = .cells (l.flatMap encH ++ r) tag) (hn : n = l.length) : rowOf h 7 (.sl b 0 n c 7) = some (l.flatMap encH) := by
  subst hn
  simp only [rowOf, beq_dec, decide_true, cond_true, hb, List.drop_zero]
  have : l.length * 7 = (l.flatMap encH).length := by rw [flat_len2 encH_len]
  rw [this]
  exact takeN_app _ _
/-- what comes of an insertion at the front -/
def InsP (x : Held) (l : List Held) (b : Nat) (h : Heap) (r : Option (V × Heap)) : Prop :=
  ∃ b' cap rest tag h', r = some (.sl b' 0 (l.length + 1) cap 7, h') ∧ h'.get b' = .cells ((x :: l).flatMap encH ++ rest) tag ∧ l.length + 1 ≤ cap ∧ (b' = b ∨ b' = h.nx) ∧ b' < h'.nx ∧ (∀ c, c < h.nx → c ≠ b → h'.get c = h.get c) ∧ h'.lo = h.lo ∧ h.nx ≤ h'.nx
theorem row1 {x : Held} {b2 : Nat} {h : Heap} (h2 : h.get b2 = .cells (encH x) .cl) : rowOf h 7 (.sl b2 0 1 1 7) = some (encH x) := by
  simp only [rowOf, beq_dec, decide_true, cond_true, h2, List.drop_zero]
  rfl
/-- into a nil slice -/
theorem ins_nil {x : Held} {b2 : Nat} {h : Heap} (b : Nat) (h2 : h.get b2 = .cells (encH x) .cl) : InsP x [] b h (insertV h 7 56 .nils (.int .i64 0) (.sl b2 0 1 1 7)) := by
  refine ⟨h.nx, 1, [], .op, h.new (.cells (encH x) .op), ?_, by rw [Heap.get_new, if_pos rfl]; rfl, Nat.le_refl _, .inr rfl, by simp [Heap.new], fun c hc _ => by rw [Heap.get_new, if_neg (by omega)], rfl, by simp [Heap.new]⟩
  have hr := row1 h2
  rw [show (0 : Int) = Int.ofNat 0 from rfl]
  unfold insertV
  rw [hr]
  rfl
theorem asn0 {x : Held} {l : List Held} : (x :: l).flatMap encH = encH x ++ l.flatMap encH := rfl
/-- into a block with room -/
theorem ins_room {x : Held} {l : List Held} {b b2 cap : Nat} {tag : Tag} {h : Heap} (hb : h.get b = .cells (l.flatMap encH ++ z7) tag) (hcap : cap = l.length + 1) (h2 : h.get b2 = .cells (encH x) .cl) (hne : b ≠ b2) (hlo : ¬ b < h.lo) (hlt : b < h.nx) (hn : l.length ≤ 100000) :
    InsP x l b h (insertV h 7 56 (.sl b 0 l.length cap 7) (.int .i64 0) (.sl b2 0 1 1 7)) := by
  subst hcap
  refine ⟨b, l.length + 1, [], tag, h.set b (.cells ((x :: l).flatMap encH) tag), ?_, by rw [Heap.get_set, if_pos rfl, List.append_nil], Nat.le_refl _, .inl rfl, hlt, fun c hc hcb => by rw [Heap.get_set, if_neg hcb], rfl, Nat.le_refl _⟩
  have hr := row1 h2
  have hr2 := row_of (c := l.length + 1) (n := l.length) hb rfl
  have ov : over 0 (l.flatMap encH ++ z7) (encH x ++ l.flatMap encH) = some (encH x ++ l.flatMap encH) := by
    have := over_mid [] (encH x ++ l.flatMap encH) (l.flatMap encH ++ z7) [] (by simp [z7, encH]) (by rw [List.all_append, encH_one, flat_one]; rfl)
    simpa using this
  have z : (0 : Int) = Int.ofNat 0 := rfl
  rw [z]
  unfold insertV
  rw [hr, hr2]
  simp only [lenOf, beq_dec, Nat.reduceEqDiff, decide_false, cond_false]
  by_cases q : l.length = 0
  · have hl : l = [] := List.length_eq_zero_iff.1 q
    subst hl
    simp only [List.length_nil, decide_true, cond_true, appendV, beq_dec, hb, ble_dec, Nat.zero_add, Nat.le_refl, blt_dec, hlo, decide_false, cond_false, Nat.zero_mul]
    have ov : over 0 ([].flatMap encH ++ z7) (encH x) = some (encH x) := by simpa using ov
    rw [ov]
    rfl
  · have q1 : ¬ 0 = l.length := fun e => q e.symm
    have q2 : ¬ (l.length ≤ 0) := by omega
    have q3 : ¬ (140737488355328 < (l.length + 1) * 56) := by omega
    simp only [q1, q2, q3, decide_false, cond_false, ble_dec, blt_dec, encH_one, flat_one, Bool.not_true, Bool.or_self, hb, hne, hlo, Nat.le_refl, decide_true, cond_true, Nat.zero_mul, Nat.add_zero, List.drop_zero, ov]
    rfl
/-- into a block without room -/
theorem ins_full {x : Held} {l : List Held} {b b2 : Nat} {tag : Tag} {h : Heap} (hb : h.get b = .cells (l.flatMap encH) tag) (h2 : h.get b2 = .cells (encH x) .cl) (hne : b ≠ b2) (hlo : ¬ b < h.lo) (hlt : b < h.nx) (hn : l.length ≤ 100000) :
    InsP x l b h (insertV h 7 56 (.sl b 0 l.length l.length 7) (.int .i64 0) (.sl b2 0 1 1 7)) := by
  have hr := row1 h2
  have hr2 := row_of (r := []) (c := l.length) (n := l.length) (by rw [List.append_nil]; exact hb) rfl
  have q3 : ¬ (140737488355328 < (l.length + 1) * 56) := by omega
  have z : (0 : Int) = Int.ofNat 0 := rfl
  have fl : 0 + l.length * 7 = (l.flatMap encH).length := by rw [flat_len2 encH_len]; omega
  have pn : ∀ t, InsP x l b h (some (.sl h.nx 0 (l.length + 1) (l.length + 1) 7, h.new (.cells ((x :: l).flatMap encH) t))) := fun t =>
    ⟨h.nx, _, [], t, _, rfl, by rw [Heap.get_new, if_pos rfl, List.append_nil], Nat.le_refl _, .inr rfl, by simp [Heap.new], fun c hc _ => by rw [Heap.get_new, if_neg (by omega)], rfl, by simp [Heap.new]⟩
  have pd : ∀ t, InsP x l b h (some (.sl h.nx 0 (l.length + 1) (l.length + 1) 7, (h.set b .dead).new (.cells ((x :: l).flatMap encH) t))) := fun t =>
    ⟨h.nx, _, [], t, _, rfl, by rw [Heap.get_new]; rw [List.append_nil]; exact if_pos rfl, Nat.le_refl _, .inr rfl, by simp [Heap.new, Heap.set], fun c hc hcb => by rw [Heap.get_new, if_neg (by show ¬ c = h.nx; omega), Heap.get_set, if_neg hcb], rfl, by simp [Heap.new, Heap.set]⟩
  rw [z]
  unfold insertV
  rw [hr, hr2]
  simp only [lenOf, beq_dec, Nat.reduceEqDiff, decide_false, cond_false]
  by_cases q : l.length = 0
  · have hl : l = [] := List.length_eq_zero_iff.1 q
    subst hl
    have c1 : Nat.ble 1 0 = false := rfl
    have c2 : Nat.blt 140737488355328 (1 * 56) = false := rfl
    simp only [List.length_nil, decide_true, cond_true, appendV, beq_dec, hb, Nat.zero_add, c1, c2, cond_false, Nat.zero_mul, takeN, List.flatMap_nil, Bool.and_true, blt_dec, hlo, decide_false, encH_one, Bool.not_true, Bool.or_self, List.nil_append]
    cases tag.opn with
    | true => exact pd _
    | false => exact pn _
  · have q1 : ¬ 0 = l.length := fun e => q e.symm
    have q2 : ¬ (l.length ≤ 0) := by omega
    have q4 : ¬ (l.length + 1 ≤ l.length) := by omega
    simp only [q1, q2, q3, q4, decide_false, cond_false, ble_dec, blt_dec, encH_one, flat_one, Bool.not_true, Bool.or_self, hb, hne, hlo, decide_true, fl, Bool.and_true, Nat.zero_mul, List.take_zero, List.drop_zero, List.nil_append]
    cases tag.opn with
    | true => exact pd _
    | false => exact pn _
/-- a list where a key is used -/
def useL (l : List Held) (key : Int) (lim : Limit) (t : Int) : List Held :=
  match l.find? (isK key) with
  | some h => h :: l.eraseIdx (fidx (isK key) l).toNat
  | none => ⟨key, fullB lim t⟩ :: l
section
variable {vp : Nat → Option VFn}
theorem frzX {h : Heap} {b : Nat} : True := trivial
theorem take_flat (l : List Held) (m : Nat) (r : List V) : ∃ r', l.flatMap encH ++ r = (l.take m).flatMap encH ++ r' := ⟨(l.drop m).flatMap encH ++ r, by
  conv => lhs; rw [← List.take_append_drop m l, List.flatMap_append]
  rw [List.append_assoc]⟩
/-- what comes of a use -/
def UseP (l : List Held) (most : Nat) (key : Int) (lim : Limit) (t : Int) (lo hi : Nat) (h : Heap) (v : V) (h' : Heap) : Prop :=
  ∃ b cap rest tag, v = .sl b 0 ((useL l key lim t).take most).length cap 7 ∧ h'.get b = .cells (((useL l key lim t).take most).flatMap encH ++ rest) tag ∧ (lo ≤ b ∧ b < hi ∨ h.nx ≤ b) ∧ b < h'.nx ∧ (∀ c, c < h.nx → ¬ (lo ≤ c ∧ c < hi) → h'.get c = h.get c) ∧ h'.lo = h.lo ∧ h.nx ≤ h'.nx
theorem use_spec {f c1 c2 c3 c4 c5 t1 t2 : Nat} (hf : vp f = some (B_model_use c1 c2 c3 c4 t1)) (w1 : AtOk vp c1) (h2 : vp c2 = some B_slices_Delete_api_Held) (h3 : vp c3 = some (B_bucket_Full c5 t2)) (h5 : vp c5 = some B_bucket_CheckLimit) (h4 : vp c4 = some B_slices_Insert_api_Held)
    (l : List Held) (most : Nat) (key : Int) (lim : Limit) (t : Int) (hlim : limBad lim = false) (v : V) (lo hi : Nat) (h : Heap) (ho : Own encH 7 h v l lo hi) (hn : l.length ≤ 100000) (hm : most ≤ 100000) (hlo : h.lo ≤ lo) (hhi : hi ≤ h.nx) (hln : h.lo ≤ h.nx) :
    ∃ v' h', callRes vp f [v, .int .i64 (most : Int), .int .u32 key, .agg (encL lim), .int .u64 t] h = some (v', h') ∧ UseP l most key lim t lo hi h v' h' := by
  refine res_raw hf rfl rfl ?_
  have mA := w1.mode
  have m3 : modeOf vp c3 = some 1 := by simp [modeOf, h3, B_bucket_Full]
  have kf := fun h => full_spec h3 h5 lim t hlim h
  have l1 : ¬ (h.nx + 1 < h.lo) := by omega
  have hrd : Rd encH 7 h v l := by
    rcases ho with ⟨rfl, rfl⟩ | ⟨b, tag, rfl, b1, b2, b3⟩
    · exact .sl .nil
    · exact .inr ⟨b, 0, _, _, tag, _, [], rfl, rfl, b3, by simp, by omega⟩
  have K0 : Kp h ((h.new (.cells (encL lim) .cl)).new (.cells z7 (.ct t1))) := ((Kp.refl h).new _).new _
  have kA := fun (H : Heap) (k : Kp h H) => matR_spec w1 v l key H (hrd.keep k) (by omega)
  have z7e : z7 = [.int .u32 0, .int .i64 0, .int .i64 0, .int .i64 0, .int .i64 0, .int .i64 0, .int .u64 0] := rfl
  -- what stands at the end
  have fin : ∀ (x : Held) (l' : List Held) (H : Heap) (b : Nat) (r : Option (V × Heap)) (H0 : Heap), useL l key lim t = x :: l' → InsP x l' b H r → H.nx = h.nx + 3 → H.lo = h.lo → (lo ≤ b ∧ b < hi ∨ b = h.nx + 2) → (∀ c, c < h.nx → ¬ (lo ≤ c ∧ c < hi) → H.get c = h.get c) →
      ∃ b' cap h', r = some (.sl b' 0 (l'.length + 1) cap 7, h') ∧ l'.length + 1 ≤ cap ∧ UseP l most key lim t lo hi h (.sl b' 0 (min (l'.length + 1) most) cap 7) h' := by
    intro x l' H b r H0 hu ⟨b', cap, rest, tag, h', e1, e2, e3, e4, e5, e6, e7, e8⟩ hnx hl hb hk
    obtain ⟨r', hr'⟩ := take_flat (x :: l') most rest
    refine ⟨b', cap, h', e1, e3, b', cap, r', tag, ?_, ?_, ?_, e5, fun c hc hcn => ?_, by rw [e7, hl], by omega⟩
    · rw [hu, List.length_take, Nat.min_comm]
      rfl
    · rw [hu, e2, hr']
    · rcases e4 with e | e
      · rw [e]
        rcases hb with hb | hb
        · exact .inl hb
        · exact .inr (by omega)
      · exact .inr (by omega)
    · rw [e6 c (by omega) (by
        rcases hb with hb | hb
        · exact fun e => hcn (e ▸ hb)
        · omega), hk c hc hcn]
  have slm : ∀ (b n cap : Nat) (h : Heap), n ≤ cap → r_slc 7 (.sl b 0 n cap 7) none (some (.int .i64 ((min n most : Nat) : Int))) none h = some (.sl b 0 (min n most) cap 7, h) := fun b n cap h hc => by
    simp only [r_slc, sliceV, beq_dec, decide_true, cond_true, VE.bound, asNatN, ble_dec, show min n most ≤ cap by omega, Nat.zero_le, Nat.zero_mul, Nat.add_zero, Nat.sub_zero, Option.map_some]
  have mni : ∀ (n : Nat) (h : Heap), r_mini [.int .i64 (n : Int), .int .i64 (most : Int)] h = some (.int .i64 ((min n most : Nat) : Int), h) := fun n h => by
    have : (bif ltI (most : Int) (n : Int) then (most : Int) else (n : Int)) = ((min n most : Nat) : Int) := by
      rw [ltI_dec, Bool.cond_eq_ite]
      split <;> rename_i q <;> simp only [decide_eq_true_eq] at q <;> omega
    show some (V.int .i64 (bif ltI (most : Int) (n : Int) then (most : Int) else (n : Int)), h) = _
    rw [this]
  have lnn : ∀ (b n cap : Nat) (h : Heap), r_len (.sl b 0 n cap 7) h = some (.int .i64 (n : Int), h) := fun _ _ _ _ => rfl
  unfold B_model_use
  rcases fidx_find (q := isK key) l with ⟨q1, q2⟩ | ⟨k, hk, q1, q2⟩
  · -- no such key
    have hu : useL l key lim t = ⟨key, fullB lim t⟩ :: l := by rw [useL, q2]
    have q1' : ¬ ((0 : Int) ≤ fidx (isK key) l) := by omega
    obtain ⟨x, hx⟩ : ∃ x : Held, x = ⟨key, fullB lim t⟩ := ⟨_, rfl⟩
    rw [← hx] at hu
    have ex : encH x = .int .u32 key :: encB (fullB lim t) := by rw [hx]; rfl
    have kA1 := kA (((h.new (.cells (encL lim) .cl)).new (.cells z7 (.ct t1))).set (h.nx + 1) (.cells (.int .u32 key :: [.int .i64 0, .int .i64 0, .int .i64 0, .int .i64 0, .int .i64 0, .int .u64 0]) (.ct t1))) (K0.set _ (by omega))
    generalize fullB lim t = fb at *
    have K1 : Kp h ((((h.new (.cells (encL lim) .cl)).new (.cells z7 (.ct t1))).set (h.nx + 1) (.cells (.int .u32 key :: [.int .i64 0, .int .i64 0, .int .i64 0, .int .i64 0, .int .i64 0, .int .u64 0]) (.ct t1))).set (h.nx + 1) (.cells (encH x) (.ct t1))) := (K0.set _ (by omega)).set _ (by omega)
    have K2 := K1.new (.cells (encH x) .cl)
    have g2 : ((((((h.new (.cells (encL lim) .cl)).new (.cells z7 (.ct t1))).set (h.nx + 1) (.cells (.int .u32 key :: [.int .i64 0, .int .i64 0, .int .i64 0, .int .i64 0, .int .i64 0, .int .u64 0]) (.ct t1))).set (h.nx + 1) (.cells (encH x) (.ct t1))).new (.cells (encH x) .cl)).get (h.nx + 2)) = .cells (encH x) .cl := by rw [Heap.get_new]; exact if_pos rfl
    have nx2 : ((((((h.new (.cells (encL lim) .cl)).new (.cells z7 (.ct t1))).set (h.nx + 1) (.cells (.int .u32 key :: [.int .i64 0, .int .i64 0, .int .i64 0, .int .i64 0, .int .i64 0, .int .u64 0]) (.ct t1))).set (h.nx + 1) (.cells (encH x) (.ct t1))).new (.cells (encH x) .cl)).nx) = h.nx + 3 := rfl
    have ins : ∃ b, (lo ≤ b ∧ b < hi ∨ b = h.nx + 2) ∧ InsP x l b ((((((h.new (.cells (encL lim) .cl)).new (.cells z7 (.ct t1))).set (h.nx + 1) (.cells (.int .u32 key :: [.int .i64 0, .int .i64 0, .int .i64 0, .int .i64 0, .int .i64 0, .int .u64 0]) (.ct t1))).set (h.nx + 1) (.cells (encH x) (.ct t1))).new (.cells (encH x) .cl))) (insertV ((((((h.new (.cells (encL lim) .cl)).new (.cells z7 (.ct t1))).set (h.nx + 1) (.cells (.int .u32 key :: [.int .i64 0, .int .i64 0, .int .i64 0, .int .i64 0, .int .i64 0, .int .u64 0]) (.ct t1))).set (h.nx + 1) (.cells (encH x) (.ct t1))).new (.cells (encH x) .cl))) 7 56 v (.int .i64 0) (.sl (h.nx + 2) 0 1 1 7)) := by
      rcases ho with ⟨rfl, rfl⟩ | ⟨b, tag, rfl, b1, b2, b3⟩
      · exact ⟨h.nx + 2, .inr rfl, ins_nil _ g2⟩
      · exact ⟨b, .inl ⟨b1, b2⟩, ins_full (by rw [K2.get b (by omega), b3]) g2 (by omega) (by rw [K2.lo]; omega) (by rw [nx2]; omega) hn⟩
    obtain ⟨b, hb, ins⟩ := ins
    obtain ⟨b', cap, h', e1, e2, e3⟩ := fin x l _ b _ h hu ins nx2 K2.lo hb (fun c hc _ => K2.get c hc)
    have e1' := ins_res h4 e1
    have sm := slm b' (l.length + 1) cap h' e2
    have mn := mni (l.length + 1) h'
    unfold encB at ex kf
    unfold encL at kA1 e1' kf
    unfold z7 at kA1 e1'
    rw [ex] at e1'
    unfold encL
    simp only [↓zp, zz, true_and, and_true, chkOk, Nat.reduceEqDiff, Nat.reduceAdd, Nat.reduceSub, Nat.reduceMul, Nat.reduceLT, Nat.reduceLeDiff, Int.reduceLT, Int.reduceLE, Int.reduceEq, Int.reduceAdd, Int.reduceNeg, if_false, if_true, reduceIte, ags, LB.agz, agd, r_mv, r_pick, r_box, r_alloc, r_un, r_eqb, r_ext, r_mkf, r_cnv, r_st, r_nck, r_ix, r_iaa, takeN, agc, agn, VE.store, over, cellsAt, VE.part, agm, agb, blkX, gEval, cond_true, cond_false, r_build, r_bsl, fill, VE.unOp, r_bin, adz, ads, resOf, resVs, resV, alc, aln, reduceCtorEq, or_true, true_or, false_or, or_false, eq_self, exists_eq_left', Option.some.injEq, l1, mA, kA1, q1', m3, kf, e1', lnn, mn, sm]
    exact e3
  · -- the key
    have hu : useL l key lim t = l[k] :: l.eraseIdx k := by
      rw [useL, q2, q1]
      rfl
    have q1' : ((0 : Int) ≤ (k : Int)) := by omega
    rcases ho with ⟨rfl, rfl⟩ | ⟨b, tag, rfl, b1, b2, b3⟩
    · simp at hk
    have kA1 := kA (((h.new (.cells (encL lim) .cl)).new (.cells z7 (.ct t1))).set (h.nx + 1) (.cells (.int .u32 key :: [.int .i64 0, .int .i64 0, .int .i64 0, .int .i64 0, .int .i64 0, .int .u64 0]) (.ct t1))) (K0.set _ (by omega))
    rw [q1] at kA1
    obtain ⟨a, ia1, el⟩ := hrd.ia encH_len (by decide) hk
    have K1 : Kp h (((h.new (.cells (encL lim) .cl)).new (.cells z7 (.ct t1))).set (h.nx + 1) (.cells (.int .u32 key :: [.int .i64 0, .int .i64 0, .int .i64 0, .int .i64 0, .int .i64 0, .int .u64 0]) (.ct t1))) := K0.set _ (by omega)
    have ld1 := el.ld K1 (n := 7) rfl
    have K2 := K1.set (.cells (encH l[k]) (.ct t1)) (show h.nx ≤ h.nx + 1 by omega)
    obtain ⟨h1, d0, d1, d2, d3, d4⟩ := delete_spec h2 l k hk (by omega) b tag _ (by rw [K2.get b (by omega), b3]) (by rw [K2.lo]; omega)
    have wk : wr .i64 ((k : Int) + 1) = ((k + 1 : Nat) : Int) := wr_succ (by omega)
    have gx : h1.get (h.nx + 1) = .cells (encH l[k]) (.ct t1) := by rw [d2 _ (by omega), Heap.get_set, if_pos rfl]
    have nx1 : h1.nx = h.nx + 2 := by rw [d4]; rfl
    have le : (l.eraseIdx k).length = l.length - 1 := List.length_eraseIdx_of_lt hk
    have ins := ins_room (x := l[k]) (l := l.eraseIdx k) (b := b) (b2 := h.nx + 2) (cap := l.length) (tag := tag) (h := h1.new (.cells (encH l[k]) .cl)) (by rw [Heap.get_new, if_neg (by omega), d1]) (by omega) (by rw [Heap.get_new, if_pos nx1.symm]) (by omega) (by show ¬ b < h1.lo; rw [d3, K2.lo]; omega) (by show b < h1.nx + 1; omega) (by omega)
    obtain ⟨b', cap, h', e1, e2, e3⟩ := fin l[k] (l.eraseIdx k) _ b _ h hu ins (by show h1.nx + 1 = _; omega) (by show h1.lo = _; rw [d3, K2.lo]) (.inl ⟨b1, b2⟩) (fun c hc hcn => by
      rw [Heap.get_new, if_neg (by omega), d2 c (fun e => hcn (e ▸ ⟨b1, b2⟩)), K2.get c hc])
    rw [le] at e1
    have e1' := ins_res h4 e1
    have sm := slm b' ((l.eraseIdx k).length + 1) cap h' e2
    have mn := mni ((l.eraseIdx k).length + 1) h'
    rw [le] at sm mn e3
    unfold encL at kA1 d0 ld1
    unfold z7 at kA1 d0 ld1
    unfold encH at d0 ld1 gx e1'
    unfold encL
    simp only [↓zp, zz, true_and, and_true, chkOk, Nat.reduceEqDiff, Nat.reduceAdd, Nat.reduceSub, Nat.reduceMul, Nat.reduceLT, Nat.reduceLeDiff, Int.reduceLT, Int.reduceLE, Int.reduceEq, Int.reduceAdd, Int.reduceNeg, if_false, if_true, reduceIte, ags, LB.agz, agd, r_mv, r_pick, r_box, r_alloc, r_un, r_eqb, r_ext, r_mkf, r_cnv, r_st, r_nck, r_ix, r_iaa, takeN, agc, agn, VE.store, over, cellsAt, VE.part, agm, agb, blkX, gEval, cond_true, cond_false, r_build, r_bsl, fill, VE.unOp, r_bin, adz, ads, resOf, resVs, resV, alc, aln, reduceCtorEq, or_true, true_or, false_or, or_false, eq_self, exists_eq_left', Option.some.injEq, l1, mA, kA1, q1', ia1, ld1, wk, d0, gx, nx1, e1', lnn, mn, sm]
    exact e3
end
end Go.VE.LB
