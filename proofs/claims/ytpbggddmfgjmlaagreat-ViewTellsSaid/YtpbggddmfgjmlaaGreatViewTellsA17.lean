/- What the functions of the law ViewTells compute, on typed arguments (part 17). -/
import Derived.Test.YtpbggddmfgjmlaaGreatViewTellsA16
set_option linter.all false
namespace Go.VE.LB
set_option maxRecDepth 100000
set_option maxHeartbeats 4000000
section
open Go Go.VE Classical
section
variable {vp : Nat → Option VFn}
def invSB (a b : Sl Bt) (H : Heap) (m : Nat) (s : Slots) (h : Heap) : Prop :=
 ∃ k, k ≤ a.l.length ∧ m = a.l.length - k ∧ s.at 0 = a.v eY ∧ s.at 1 = b.v eY ∧ s.at 5 = .int .i64 (k : Int) ∧ h = H ∧ ∀ j (hj : j < a.l.length) (hj' : j < b.l.length), j < k → a.l[j] = b.l[j]
theorem sameB_spec {f : Nat} (hf : vp f = some Zzcr) (a b : Sl Bt) (h : Heap) (hn : a.l.length < 4611686018427387904) : callRes vp f [a.v eY, b.v eY] h = some (.bool (decide (a.l = b.l)), h) := by
 refine res_pure hf rfl rfl (fun g hg => ?_)
 have no : ¬ a.l = b.l → (.bool false : V) = .bool (decide (a.l = b.l)) := fun q => by rw [decide_eq_false q]
 unfold Zzcr
 by_cases hl : (a.l.length : Int) = (b.l.length : Int)
 case neg =>
  have e := no (fun q => hl (by rw [q]))
  simp only [↓zp, zv, seval, hl, frzB, ← e]
 have hl' := eq_true hl
 simp only [↓zp, zv, seval, hl']
 generalize hS : Tr.set _ 5 _ = S
 have b0 : Slots.at S 0 = a.v eY := by rw [← hS]; simp only [zs, seval]
 have b1 : Slots.at S 1 = b.v eY := by rw [← hS]; simp only [zs, seval]
 have b5 : Slots.at S 5 = .int .i64 ((0 : Nat) : Int) := by rw [← hS]; simp only [zs, seval] <;> rfl
 clear hS
 refine loop_ind (fun m s h => invSB a b g m s h) ?_ a.l.length ⟨0, by omega, by omega, b0, b1, b5, rfl, fun j _ _ hj => by omega⟩
 rintro m s h ⟨k, hk, hm, c0, c1, c5, rfl, hinc⟩
 by_cases hlt : k < a.l.length
 case neg =>
  have hlt' : ¬ ((k : Int) < (a.l.length : Int)) := by omega
  have e := eq_true (show a.l = b.l from List.ext_getElem (by omega) (fun j h1 h2 => hinc j h1 h2 (by omega)))
  simp only [↓zp, zv, seval, c0, c1, c5, hlt', e, frzB]
 have hlt' : (k : Int) < (a.l.length : Int) := by omega
 have hltb : k < b.l.length := by omega
 have ws := wr_succ (k := k) (by omega)
 have ia1 := fun h => r_ia_v (enc := eY) eY_len (by decide) (h := h) hlt rfl
 have ia2 := fun h => r_ia_v (enc := eY) eY_len (by decide) (h := h) hltb rfl
 simp only [eY] at ia1 ia2
 by_cases hq : (((a.l[k]).a : Nat) : Int) = (((b.l[k]).a : Nat) : Int)
 case neg =>
  have e := no (fun q => hq (by simp only [q]))
  simp only [↓zp, zv, seval, c0, c1, c5, hlt', ia1, ia2, hq, not_false_eq_true, ← e, frzB]
 have hq' := eq_true hq
 simp only [↓zp, zv, seval, c0, c1, c5, hlt', ia1, ia2, hq', not_true_eq_false, ws]
 refine ⟨_, by omega, k + 1, by omega, rfl, by simp only [zs, seval, c0], by simp only [zs, seval, c1], by simp only [zs, seval], rfl, fun j hj hj' hjk => ?_⟩
 by_cases hjk' : j = k
 ·subst hjk'
  exact bt_ext (by omega)
 ·exact hinc j hj hj' (by omega)
theorem bytC_spec {f c1 c2 c3 d1 t1 : Nat} (hf : vp f = some (Zzcx c1 c2 c3)) (h1 : vp c1 = some (Zzda d1 t1)) (h2 : vp d1 = some Zzcs) (b : List Bt) (hb : b.length = 88) (h : Heap) :
  ∃ o : Sl Bt, o.l = bb2 :: b.drop 1 ∧ callRes vp f [.agg (fr 2 0 zR (encC (cmdOf b)))] h = some (o.v eY, h) := by
 have m1 : modeOf vp c1 = some 2 := mo h1 rfl rfl
 suffices q : ∃ r, callRes vp f [.agg (fr 2 0 zR (encC (cmdOf b)))] h = some (r, h) ∧ ∃ o : Sl Bt, o.l = bb2 :: b.drop 1 ∧ r = o.v eY by
  obtain ⟨r, e, o, h1, rfl⟩ := q
  exact ⟨o, h1, e⟩
 refine res_pure_ex hf rfl rfl (fun g hg => ?_)
 have hlo := hlo hg
 have lC := encC_len (cmdOf_tg b)
 have lF : (fr 2 0 zR (encC (cmdOf b))).length = 86 := by simp [fr, zR_len, lC]
 have el : pad ((b.drop 56).take 32) = b.drop 56 := by
  have e : (b.drop 56).take 32 = b.drop 56 := List.take_of_length_le (by simp; omega)
  rw [e, pad_eq (by simp; omega)]
 have dF : (fr 2 0 zR (encC (cmdOf b))).drop 54 = mY (b.drop 56) := by
  rw [encC_eq, el]
  rfl
 obtain ⟨H0, hH0⟩ : ∃ H, g.new (.cells (fr 2 0 zR (encC (cmdOf b))) .cl) = H := ⟨_, rfl⟩
 have g0 : H0.get g.nx = .cells (fr 2 0 zR (encC (cmdOf b))) .cl := by rw [← hH0, Heap.get_new, if_pos rfl]
 have n0 : H0.nx = g.nx + 1 := by rw [← hH0]; rfl
 have l0 : H0.lo = g.lo := by rw [← hH0]; rfl
 obtain ⟨v1, H1, e1, ⟨d1, p1, w1⟩, kp1⟩ := cmsg_spec h1 h2 b hb H0 (by omega)
 have x1 := kp1.lo
 have y1 := kp1.nx
 have g1 := (kp1.get g.nx (by omega)).trans g0
 have rd : Rd eY 1 H1 (.sl g.nx 54 32 32 1) (b.drop 56) := .inr ⟨g.nx, 54, 32, 32, .cl, _, [], rfl, by simp; omega, g1, by rw [mY_flat, dF, List.append_nil], by omega⟩
 obtain ⟨v2, H2, e2, w2, x2, y2, z2⟩ := w1.app rd (by simp; omega) (by rw [mW_len (by omega)]; simp; omega) (by omega)
 have e55 : mW b 55 ++ b.drop 56 = bb2 :: b.drop 1 := by
  unfold mW
  rw [List.cons_append]
  have : (b.drop 1).drop 55 = b.drop 56 := by rw [List.drop_drop]
  rw [← this, List.take_append_drop]
 rw [e55] at w2
 obtain ⟨o, o1, o2⟩ := fzW (base := g.nx) w2 (by omega) (by simp; omega)
 have sl := slca_all (n := 32) (sz := 1) (off := 54) g1 rfl (by rw [lF]; decide)
 generalize encC (cmdOf b) = C at lC hH0 g0 e1 lF ⊢
 have d37 : (zR ++ C).drop 37 = C := by rw [← zR_len]; exact List.drop_left
 have tC : takeN 47 C = some C := by rw [← lC]; exact takeN_all C
 unfold fr at hH0 g0 ⊢
 unfold Zzcx
 simp only [↓zp, zv, seval, List.length_append, zR_len, lC, hH0, g0, d37, tC, m1, e1, sl, e2]
 exact ⟨_, o2, o, o1, rfl⟩
theorem reqT_eq (b : List Bt) : reqT b = (tokL ((b.drop 1).take 52)).tail ++ [.int .u16 ((num ((b.drop 53).take 2) : Nat) : Int), .int .u32 (w4 b 55)] := rfl
theorem bytR_spec {f c1 c2 c3 d0 : Nat} (hf : vp f = some (Zzcx c1 c2 c3)) (h2 : vp c2 = some (Zzcw d0)) (h0 : vp d0 = some (Zzcu c3)) (h3 : vp c3 = some Zzcs) (b : List Bt) (hb : b.length = 59) (h : Heap) :
  ∃ o : Sl Bt, o.l = bb1 :: b.drop 1 ∧ callRes vp f [.agg (fr 1 (tR b) (reqT b) zC)] h = some (o.v eY, h) := by
 have m2 := mo' h2 rfl rfl
 have m3 : modeOf vp c3 = some 2 := mo h3 rfl rfl
 suffices q : ∃ r, callRes vp f [.agg (fr 1 (tR b) (reqT b) zC)] h = some (r, h) ∧ ∃ o : Sl Bt, o.l = bb1 :: b.drop 1 ∧ r = o.v eY by
  obtain ⟨r, e, o, h1, rfl⟩ := q
  exact ⟨o, h1, e⟩
 refine res_pure_ex hf rfl rfl (fun g hg => ?_)
 have hlo := hlo hg
 obtain ⟨x, hx⟩ : ∃ x, (b.drop 1).take 52 = x := ⟨_, rfl⟩
 have xl : x.length = 52 := by rw [← hx]; simp; omega
 obtain ⟨T, hT⟩ : ∃ T, (tokL x).tail = T := ⟨_, rfl⟩
 have et : tokL x = .int .u32 (tR b) :: T := by rw [← hT, ← hx]; rfl
 have lT : T.length = 35 := by rw [← hT]; simp [tokL, mY_len, pad_len]
 rw [reqT_eq, hx, hT]
 obtain ⟨A, hA⟩ : ∃ A, num ((b.drop 53).take 2) = A := ⟨_, rfl⟩
 obtain ⟨B, hB⟩ : ∃ B, num ((b.drop 55).take 4) = B := ⟨_, rfl⟩
 have kA : A < 65536 := by rw [← hA]; exact num2 _
 have kB : B < 4294967296 := by rw [← hB]; exact num4 _
 have hB' : w4 b 55 = (B : Int) := by rw [← hB]; rfl
 rw [hA, hB']
 obtain ⟨H0, hH0⟩ : ∃ H, g.new (.cells (fr 1 (tR b) (T ++ [.int .u16 (A : Int), .int .u32 (B : Int)]) zC) .cl) = H := ⟨_, rfl⟩
 have g0 : H0.get g.nx = .cells (fr 1 (tR b) (T ++ [.int .u16 (A : Int), .int .u32 (B : Int)]) zC) .cl := by rw [← hH0, Heap.get_new, if_pos rfl]
 have n0 : H0.nx = g.nx + 1 := by rw [← hH0]; rfl
 have l0 : H0.lo = g.lo := by rw [← hH0]; rfl
 obtain ⟨H1, hH1⟩ : ∃ H, H0.new (.cells [.int .u8 1] .cl) = H := ⟨_, rfl⟩
 have g1 : H1.get g.nx = .cells (fr 1 (tR b) (T ++ [.int .u16 (A : Int), .int .u32 (B : Int)]) zC) .cl := by rw [← hH1, Heap.get_new, if_neg (by omega), g0]
 have n1' : H1.nx = g.nx + 2 := by rw [← hH1, Heap.new_nx, n0]
 have l1 : H1.lo = g.lo := by rw [← hH1, Heap.new_lo, l0]
 have w1 : Wrb H1 (g.nx + 1) (.sl (g.nx + 1) 0 1 1 1) [bb1] := ⟨rfl, by omega, by omega, .cl, by rw [← hH1, Heap.get_new, if_pos n0.symm]; rfl⟩
 obtain ⟨o, o1, kw⟩ := twrite_spec h2 h0 h3 x xl H1
 rw [et] at kw
 have rd : Rd eY 1 H1 (o.v eY) x := by rw [← o1]; exact Rd.sl o
 obtain ⟨v2, H2, e2, w2, l2, n2, z2⟩ := w1.app rd (by omega) (by simp; omega) (by omega)
 have g2 := (z2 g.nx (by omega) (by omega)).trans g1
 obtain ⟨v3, H3, e3, o3⟩ := bytes_spec h3 2 A (by decide) (by decide) H2 (by omega)
 rw [← hA, bts2 (by omega)] at o3
 obtain ⟨v4, H4, e4, c4⟩ := catB w2 o3 (by simp; omega) (by simp; omega) (by omega)
 obtain ⟨⟨d4, p4, w4'⟩, x4, y4, z4⟩ := c4
 have g4 := (z4 g.nx (by omega) (by omega)).trans g2
 obtain ⟨v5, H5, e5, o5⟩ := bytes_spec h3 4 B (by decide) (by decide) H4 (by omega)
 rw [← hB, bts4 (by omega)] at o5
 obtain ⟨v6, H6, e6, c6⟩ := catB w4' o5 (by simp; omega) (by simp; omega) (by omega)
 obtain ⟨⟨d6, p6, w6⟩, x6, y6, z6⟩ := c6
 have eb : [bb1] ++ x ++ (b.drop 53).take 2 ++ (b.drop 55).take 4 = bb1 :: b.drop 1 := by
  have q1 := tk_add (l := b) (i := 1) (n := 52) (m := 2)
  have q2 := tk_add (l := b) (i := 1) (n := 54) (m := 4)
  rw [← hx, List.append_assoc, List.append_assoc, ← List.append_assoc (List.take 52 _)]
  rw [show List.take 52 (List.drop 1 b) ++ List.take 2 (List.drop 53 b) = List.take 54 (List.drop 1 b) from q1]
  rw [show List.take 54 (List.drop 1 b) ++ List.take 4 (List.drop 55 b) = List.take 58 (List.drop 1 b) from q2]
  rw [List.take_of_length_le (by simp; omega)]
  rfl
 rw [eb] at w6
 obtain ⟨r, r1, r2⟩ := fzW (base := g.nx) w6 (by omega) (by simp; omega)
 have ap := w2.apart (c := g.nx) (o := 38) (by omega)
 have u1 : wr .u64 (A : Int) = (A : Int) := wr_ul (by omega)
 have u2 : wr .u64 (B : Int) = (B : Int) := wr_ul (by omega)
 have i2 : ((2 : Nat) : Int) = 2 := rfl
 have i4 : ((4 : Nat) : Int) = 4 := rfl
 rw [i2] at e3
 rw [i4] at e5
 unfold fr at hH0 g0 g1 g2 g4 ⊢
 simp only [List.append_assoc, List.cons_append, List.nil_append] at hH0 g0 g1 g2 g4 ⊢
 have t35 : takeN 35 (T ++ .int .u16 (A : Int) :: .int .u32 (B : Int) :: zC) = some T := by rw [← lT]; exact takeN_app _ _
 have d35 : (T ++ .int .u16 (A : Int) :: .int .u32 (B : Int) :: zC).drop 35 = .int .u16 (A : Int) :: .int .u32 (B : Int) :: zC := by rw [← lT]; exact List.drop_left
 have d36 : (T ++ .int .u16 (A : Int) :: .int .u32 (B : Int) :: zC).drop 36 = .int .u32 (B : Int) :: zC := by rw [show 36 = 35 + 1 from rfl, ← List.drop_drop, d35]; rfl
 unfold Zzcx
 simp only [↓zp, zv, seval, List.length_append, lT, zC_len, hH0, n0, hH1, g0, g1, g2, g4, t35, d35, d36, m2, kw, e2, u1, u2, m3, e3, e4, e5, e6, ap]
 exact ⟨_, r2, r, r1, rfl⟩
end
end
section
open Go Go.VE Classical
def dgY (d : List Bt) (i : Nat) : List V := mY (d.take i) ++ zV.drop i
theorem dgY_end {d : List Bt} (hd : d.length = 32) : dgY d 32 = mY d := by
 unfold dgY
 rw [List.take_of_length_le (by omega)]
 exact List.append_nil _
theorem dgY_over {d p : List Bt} {P : List V} {i n : Nat} (hd : d.length = 32) (hi : i < 32) (hn : P.length = n) : over (n + i) (P ++ dgY d i) [.int .u8 ((d[i]'(by omega)).a : Int)] = some (P ++ dgY d (i + 1)) := by
 have hz : zV.length = 32 := rfl
 have e1 : zV.drop i = zV[i] :: zV.drop (i + 1) := List.drop_eq_getElem_cons (by omega)
 have e2 : mY (d.take (i + 1)) = mY (d.take i) ++ [.int .u8 ((d[i]'(by omega)).a : Int)] := by
  rw [List.take_succ_eq_append_getElem (by omega)]
  unfold mY
  rw [List.map_append]
  rfl
 have := over_mid (P ++ mY (d.take i)) [V.int .u8 ((d[i]'(by omega)).a : Int)] [zV[i]] (zV.drop (i + 1)) rfl rfl
 have el : (P ++ mY (d.take i)).length = n + i := by rw [List.length_append, mY_len, hn]; simp; omega
 rw [el] at this
 unfold dgY
 rw [e1, e2]
 simp only [List.append_assoc, List.cons_append, List.nil_append] at this ⊢
 exact this
section
variable {vp : Nat → Option VFn}
def zK : List V := .int .u32 0 :: .int .u32 0 :: .int .u32 0 :: .int .u64 0 :: zV
def inv8R (b : Sl Bt) (P : List V) (T : Nat) (nx lo : Nat) (m : Nat) (s : Slots) (h : Heap) : Prop :=
 ∃ i, i ≤ 32 ∧ m = 32 - i ∧ s.at 0 = b.v eY ∧ s.at 2 = .ptr nx 0 ∧ s.at 4 = .ptr (nx + 1) 0 ∧ s.at 5 = .int .i64 (i : Int) ∧ h.get nx = .cells zK (.ct T) ∧ h.get (nx + 1) = .cells (P ++ dgY (b.l.drop 20) i) (.ct T) ∧ h.lo = lo
theorem read8_spec {f c1 t1 : Nat} (hf : vp f = some (Zzcv c1 t1)) (h1 : vp c1 = some Zzct) (b : Sl Bt) (hb : b.l.length = 52) (h : Heap) : callRes vp f [b.v eY] h = some (.tup [.agg (tokL b.l), .int .i64 0], h) := by
 have m1 := mo' h1 rfl rfl
 refine res_pure hf rfl rfl (fun g hg => ?_)
 have hlo := hlo hg
 have z0 : ¬ g.nx < g.lo := by omega
 have z1 : ¬ g.nx + 1 < g.lo := by omega
 have h52 : ((b.l.length : Nat) : Int) = 52 := by omega
 obtain ⟨x0, q0, s0⟩ := slc_mid eY_len (c := b) (a := 0) (b := 4) (by decide) (by omega)
 have s0 : ∀ h, r_slc 1 (b.v eY) none (some (.int .i64 4)) none h = some (x0.v eY, h) := fun h => slc_none.trans (s0 h)
 obtain ⟨x4, q4, s4⟩ := slc_mid eY_len (c := b) (a := 4) (b := 8) (by decide) (by omega)
 have s4 : ∀ h, r_slc 1 (b.v eY) (some (.int .i64 4)) (some (.int .i64 8)) none h = some (x4.v eY, h) := s4
 obtain ⟨x8, q8, s8⟩ := slc_mid eY_len (c := b) (a := 8) (b := 12) (by decide) (by omega)
 have s8 : ∀ h, r_slc 1 (b.v eY) (some (.int .i64 8)) (some (.int .i64 12)) none h = some (x8.v eY, h) := s8
 obtain ⟨x12, q12, s12⟩ := slc_mid eY_len (c := b) (a := 12) (b := 20) (by decide) (by omega)
 have s12 : ∀ h, r_slc 1 (b.v eY) (some (.int .i64 12)) (some (.int .i64 20)) none h = some (x12.v eY, h) := s12
 have k0 : ∀ h, callRes vp c1 [x0.v eY] h = some (.int .u64 ((num (b.l.take 4) : Nat) : Int), h) := fun h => by rw [num_spec' h1 x0 (by rw [q0]; simp; omega) h, q0]; rfl
 have k4 : ∀ h, callRes vp c1 [x4.v eY] h = some (.int .u64 ((num ((b.l.drop 4).take 4) : Nat) : Int), h) := fun h => by rw [num_spec' h1 x4 (by rw [q4]; simp; omega) h, q4]
 have k8 : ∀ h, callRes vp c1 [x8.v eY] h = some (.int .u64 ((num ((b.l.drop 8).take 4) : Nat) : Int), h) := fun h => by rw [num_spec' h1 x8 (by rw [q8]; simp; omega) h, q8]
 have k12 : ∀ h, callRes vp c1 [x12.v eY] h = some (.int .u64 ((num ((b.l.drop 12).take 8) : Nat) : Int), h) := fun h => by rw [num_spec' h1 x12 (by rw [q12]; simp; omega) h, q12]
 have w0 : wr .u32 ((num (b.l.take 4) : Nat) : Int) = w4 b.l 0 := wr32 (num4 _)
 have w4' : wr .u32 ((num ((b.l.drop 4).take 4) : Nat) : Int) = w4 b.l 4 := wr32 (num4 _)
 have w8 : wr .u32 ((num ((b.l.drop 8).take 4) : Nat) : Int) = w4 b.l 8 := wr32 (num4 _)
 have ld : (b.l.drop 20).length = 32 := by simp; omega
 have el : pad ((b.l.drop 20).take 32) = b.l.drop 20 := by
  have e : (b.l.drop 20).take 32 = b.l.drop 20 := List.take_of_length_le (by omega)
  rw [e, pad_eq ld]
 have fz := fun (H : Heap) (c : Nat) => fzAg (h := H) (base := c) (k := .i64) (x := 0) (tokL_scal b.l) (by simp [tokL, mY_len, pad_len])
 unfold tokL at fz ⊢
 rw [el] at fz ⊢
 obtain ⟨P, hP⟩ : ∃ P, [V.int .u32 (w4 b.l 0), .int .u32 (w4 b.l 4), .int .u32 (w4 b.l 8), .int .u64 ((num ((b.l.drop 12).take 8) : Nat) : Int)] = P := ⟨_, rfl⟩
 have lP : P.length = 4 := by rw [← hP]; rfl
 obtain ⟨H, hH⟩ : ∃ H, ((g.new (.cells zK (.ct t1))).new (.cells zK (.ct t1))).set (g.nx + 1) (.cells (P ++ zV) (.ct t1)) = H := ⟨_, rfl⟩
 have g0 : H.get g.nx = .cells zK (.ct t1) := by
  rw [← hH, Heap.get_set, if_neg (by omega), Heap.get_new, Heap.new_nx, if_neg (by omega), Heap.get_new, if_pos rfl]
 have g1 : H.get (g.nx + 1) = .cells (P ++ zV) (.ct t1) := by rw [← hH, Heap.get_set, if_pos rfl]
 have lH : H.lo = g.lo := by rw [← hH]; rfl
 unfold Zzcv
 rw [← hP] at hH
 simp only [zK, zV, List.cons_append, List.nil_append] at hH
 simp only [↓zp, zv, seval, h52, s0, s4, s8, s12, m1, k0, k4, k8, k12, w0, w4', w8, z0, z1, hH]
 generalize hS : Tr.set _ 5 _ = S
 have a0 : Slots.at S 0 = b.v eY := by rw [← hS]; simp only [zs, seval]
 have a2 : Slots.at S 2 = .ptr g.nx 0 := by rw [← hS]; simp only [zs, seval]
 have a4 : Slots.at S 4 = .ptr (g.nx + 1) 0 := by rw [← hS]; simp only [zs, seval]
 have a5 : Slots.at S 5 = .int .i64 ((0 : Nat) : Int) := by rw [← hS]; simp only [zs, seval] <;> rfl
 clear hS hH
 refine loop_ind (fun m s h => inv8R b P t1 g.nx g.lo m s h) ?_ 32 ⟨0, by omega, by omega, a0, a2, a4, a5, g0, g1, lH⟩
 clear a0 a2 a4 a5 g0 g1 lH
 rintro m s h ⟨i, hi, hm, c0, c2, c4, c5, g0, g1, lo⟩
 have y0 : ¬ g.nx < h.lo := by omega
 have y1 : ¬ g.nx + 1 < h.lo := by omega
 by_cases hlt : i < 32
 case neg =>
  obtain rfl : i = 32 := by omega
  have e32 : ((32 : Nat) : Int) = 32 := rfl
  rw [e32] at c5
  rw [dgY_end ld, ← hP] at g1
  unfold zK at g0
  have lD : (mY (b.l.drop 20)).length = 32 := by rw [mY_len, ld]
  have tD : takeN 32 (mY (b.l.drop 20)) = some (mY (b.l.drop 20)) := by have := takeN_all (mY (b.l.drop 20)); rwa [lD] at this
  have oD := over_zV lD (mY_one _)
  simp only [List.cons_append, List.nil_append] at g1
  simp only [↓zp, zv, seval, c0, c2, c4, c5, g0, g1, lD, tD, oD, y0]
  exact fz _ _
 have hlt' : (i : Int) < 32 := by omega
 have ws := wr_succ (k := i) (by omega)
 have wa : wr .i64 (20 + (i : Int)) = ((20 + i : Nat) : Int) := by rw [wr_i64 (by omega) (by omega)]; push_cast; rfl
 have ia := fun h => r_ia_v (enc := eY) eY_len (by decide) (c := b) (k := 20 + i) (h := h) (by omega) rfl
 have ov := dgY_over (d := b.l.drop 20) (p := []) (P := P) ld hlt lP
 rw [List.getElem_drop] at ov
 simp only [eY] at ia
 simp only [↓zp, zv, seval, c0, c2, c4, c5, g0, g1, hlt', hlt, wa, ia, Nat.mul_one, ov, y1, ws]
 refine ⟨_, by omega, i + 1, by omega, rfl, by simp only [zs, seval, c0], by simp only [zs, seval, c2], by simp only [zs, seval, c4], by simp only [zs, seval], ?_, by rw [Heap.get_set, if_pos rfl], lo⟩
 rw [Heap.get_set, if_neg (by omega), g0]
end
end
section
open Go Go.VE Classical
section
variable {vp : Nat → Option VFn}
structure Rfs (vp : Nat → Option VFn) (c1 c2 c3 c4 c5 c6 a1 e1 e2 e3 q1 q2 q3 q4 u1 : Nat) : Prop where
 h1 : vp c1 = some (Zzcv c2 a1)
 h2 : vp c2 = some Zzct
 h3 : vp c3 = some (Zzde c2)
 h4 : vp c4 = some (Zzcy e1)
 he1 : vp e1 = some (Zzcz e2 e3)
 he2 : vp e2 = some Zzdd
 he3 : vp e3 = some Zzcq
 h5 : vp c5 = some (Zzcx q1 q2 q3)
 hq1 : vp q1 = some (Zzda q3 u1)
 hq2 : vp q2 = some (Zzcw q4)
 hq4 : vp q4 = some (Zzcu q3)
 hq3 : vp q3 = some Zzcs
 h6 : vp c6 = some Zzcr
structure RpA (b : Sl Bt) (F : List V) (tp nx lw : Nat) (s : Slots) (h : Heap) : Prop where
 s0 : s.at 0 = b.v eY
 s2 : s.at 2 = .ptr nx 0
 s4 : s.at 4 = .ptr (nx + 1) 0
 g0 : h.get nx = .cells (.int .u8 0 :: .int .u32 0 :: zTl) (.ct tp)
 g1 : h.get (nx + 1) = .cells F (.ct tp)
 lo : h.lo = lw
def pcl (b : List Bt) (a0 a1 a2 a3 a4 a5 a6 a7 a8 : Int) (Y : List V) : List V := .int .u8 (n1 b 1) :: .int .u32 (w4 b 2) :: .int .u32 (w4 b 6) :: .int .i64 a0 :: .int .i64 a1 :: .int .i64 a2 :: .int .i64 a3 :: .int .i64 a4 :: .int .i64 a5 :: .int .i64 a6 :: .int .i64 a7 :: .int .i64 a8 :: .int .u8 (n1 b 46) :: .int .u8 (n1 b 47) :: .int .u64 ((num ((b.drop 48).take 8) : Nat) : Int) :: Y
structure RpC (b : Sl Bt) (a0 a1 a2 a3 a4 a5 a6 a7 a8 : Int) (tp tc nx lw : Nat) (j : Int) (s : Slots) (h : Heap) : Prop where
 s0 : s.at 0 = b.v eY
 s2 : s.at 2 = .ptr nx 0
 s4 : s.at 4 = .ptr (nx + 1) 0
 s7 : s.at 7 = .ptr (nx + 2) 0
 s8 : s.at 8 = .int .i64 j
 g0 : h.get nx = .cells (.int .u8 0 :: .int .u32 0 :: zTl) (.ct tp)
 g1 : h.get (nx + 1) = .cells (.int .u8 2 :: .int .u32 0 :: zTl) (.ct tp)
 g7 : h.get (nx + 2) = .cells (pcl b.l a0 a1 a2 a3 a4 a5 a6 a7 a8 zV) (.ct tc)
 lo : h.lo = lw
structure RpD (b : Sl Bt) (a0 a1 a2 a3 a4 a5 a6 a7 a8 : Int) (tp tc nx lw : Nat) (i : Nat) (s : Slots) (h : Heap) : Prop where
 s0 : s.at 0 = b.v eY
 s2 : s.at 2 = .ptr nx 0
 s4 : s.at 4 = .ptr (nx + 1) 0
 s7 : s.at 7 = .ptr (nx + 2) 0
 s9 : s.at 9 = .int .i64 (i : Int)
 g0 : h.get nx = .cells (.int .u8 0 :: .int .u32 0 :: zTl) (.ct tp)
 g1 : h.get (nx + 1) = .cells (.int .u8 2 :: .int .u32 0 :: zTl) (.ct tp)
 g7 : h.get (nx + 2) = .cells (pcl b.l a0 a1 a2 a3 a4 a5 a6 a7 a8 (dgY (b.l.drop 56) i)) (.ct tc)
 lo : h.lo = lw
theorem slc_lit {b : Sl Bt} {i j : Nat} (h1 : i ≤ j) (h2 : j ≤ b.l.length) (h3 : j - i ≤ 8) {c2 : Nat} (hc : vp c2 = some Zzct) : ∃ x : Sl Bt, (∀ h, r_slc 1 (b.v eY) (some (.int .i64 (i : Int))) (some (.int .i64 (j : Int))) none h = some (x.v eY, h)) ∧ ∀ h, callRes vp c2 [x.v eY] h = some (.int .u64 ((num ((b.l.drop i).take (j - i)) : Nat) : Int), h) := by
 obtain ⟨x, q, s⟩ := slc_mid eY_len (c := b) h1 h2
 exact ⟨x, s, fun h => by rw [num_spec' hc x (by rw [q]; simp; omega) h, q]⟩
def z35 : List V := .int .u32 0 :: .int .u32 0 :: .int .u64 0 :: zV
theorem fold35 : V.int .u32 0 :: V.int .u32 0 :: V.int .u64 0 :: V.int .u8 0 :: V.int .u8 0 :: V.int .u8 0 :: V.int .u8 0 :: V.int .u8 0 :: V.int .u8 0 :: V.int .u8 0 :: V.int .u8 0 :: V.int .u8 0 :: V.int .u8 0 :: V.int .u8 0 :: V.int .u8 0 :: V.int .u8 0 :: V.int .u8 0 :: V.int .u8 0 :: V.int .u8 0 :: V.int .u8 0 :: V.int .u8 0 :: V.int .u8 0 :: V.int .u8 0 :: V.int .u8 0 :: V.int .u8 0 :: V.int .u8 0 :: V.int .u8 0 :: V.int .u8 0 :: V.int .u8 0 :: V.int .u8 0 :: V.int .u8 0 :: V.int .u8 0 :: V.int .u8 0 :: V.int .u8 0 :: V.int .u8 0 :: [] = z35 := rfl
theorem fold37 : V.int .u32 0 :: V.int .u32 0 :: V.int .u64 0 :: V.int .u8 0 :: V.int .u8 0 :: V.int .u8 0 :: V.int .u8 0 :: V.int .u8 0 :: V.int .u8 0 :: V.int .u8 0 :: V.int .u8 0 :: V.int .u8 0 :: V.int .u8 0 :: V.int .u8 0 :: V.int .u8 0 :: V.int .u8 0 :: V.int .u8 0 :: V.int .u8 0 :: V.int .u8 0 :: V.int .u8 0 :: V.int .u8 0 :: V.int .u8 0 :: V.int .u8 0 :: V.int .u8 0 :: V.int .u8 0 :: V.int .u8 0 :: V.int .u8 0 :: V.int .u8 0 :: V.int .u8 0 :: V.int .u8 0 :: V.int .u8 0 :: V.int .u8 0 :: V.int .u8 0 :: V.int .u8 0 :: V.int .u8 0 :: V.int .u16 0 :: V.int .u32 0 :: [] = zR := rfl
theorem z35_len : z35.length = 35 := rfl
theorem n1_at {b : List Bt} {i : Nat} (h : i < b.length) : n1 b i = ((b[i].a : Nat) : Int) := by
 have e := mY_at1 h
 have e1 : (b.drop i).take 1 = [b[i]] := by rw [List.drop_eq_getElem_cons h, List.take_succ_cons, List.take_zero]
 rw [e1] at e
 have e2 := (List.cons.inj e).1
 exact (V.int.inj e2).2.symm
theorem hd_iff {b : List Bt} {x : Bt} (h : 0 < b.length) : (x :: b.drop 1 = b) ↔ b.head? = some x := by
 cases b with
 | nil => simp at h
 | cons y l => simp [eq_comm]
theorem rparse_spec {f c1 c2 c3 c4 c5 c6 a1 e1 e2 e3 q1 q2 q3 q4 u1 tp tt tc : Nat} (hf : vp f = some (Zzdc c1 c2 c3 c4 c5 c6 tp tt tc)) (R : Rfs vp c1 c2 c3 c4 c5 c6 a1 e1 e2 e3 q1 q2 q3 q4 u1)
  (b : Sl Bt) (hbl : b.l.length ≤ 1000) (h : Heap) : ∃ v, callRes vp f [b.v eY] h = some (v, h) ∧ Prs b.l v := by
 have m1 := mo' R.h1 rfl rfl
 have m2 := mo' R.h2 rfl rfl
 have m3 := mo' R.h3 rfl rfl
 have m4 := mo' R.h4 rfl rfl
 have m5 := mo' R.h5 rfl rfl
 have m6 := mo' R.h6 rfl rfl
 suffices q : ∃ r, callRes vp f [b.v eY] h = some (r, h) ∧ Prs b.l r from q
 refine res_pure_ex hf rfl rfl (fun g hg => ?_)
 have hlo := hlo hg
 have z0 : ¬ g.nx < g.lo := by omega
 have z1 : ¬ g.nx + 1 < g.lo := by omega
 have z2 : ¬ g.nx + 2 < g.lo := by omega
 have tz : takeN 84 zTl = some zTl := rfl
 have oz : over 0 zTl zTl = some zTl := over_id rfl
 have fz := fun (H : Heap) (c : Nat) => frz_fr (h := H) (b := c) (k := 0) (t := 0) (R := zR) (C := zC) (x := 12) rfl rfl rfl rfl
 rw [fr_z] at fz
 have bad : ∀ S : V, ownT b.l = none → S = .tup [.agg (.int .u8 0 :: .int .u32 0 :: zTl), .int .i64 12] → Prs b.l S := fun S o e => .inr (.inr ⟨o, e⟩)
 have noo : ¬ (isR b.l ∧ tR b.l < 16) → ¬ (isCm b.l ∧ CmdOk (cmdOf b.l)) → ownT b.l = none := fun a c => by
  unfold ownT
  rw [if_neg a, if_neg c]
 unfold Zzdc
 by_cases hlen : b.l.length = 59 ∨ b.l.length = 88
 case neg =>
  have n1 : ¬ ((b.l.length : Nat) : Int) = 59 := by omega
  have n2 : ¬ ((b.l.length : Nat) : Int) = 88 := by omega
  simp only [↓zp, zv, seval, fold84, zT_len, oz, z0, z1, n1, n2, tz]
  exact ⟨_, fz _ _, bad _ (noo (fun k => hlen (.inl k.1.1)) (fun k => hlen (.inr k.1.1))) rfl⟩
 simp only []
 rw [w_ass, w_ass]
 refine w_cut (fun s h => ∃ F, RpA b F tp g.nx g.lo s h ∧ ((b.l.length = 59 ∧ F = fr 1 (tR b.l) (reqT b.l) zC) ∨ (b.l.length = 88 ∧ F = fr 2 0 zR (encC (cmdOf b.l))))) ?_ ?_
 ·rcases hlen with hl | hl
  ·have hl' : ((b.l.length : Nat) : Int) = 59 := by omega
   obtain ⟨x, q, sx⟩ := slc_mid eY_len (c := b) (a := 1) (b := 53) (by decide) (by omega)
   have sx : ∀ h, r_slc 1 (b.v eY) (some (.int .i64 1)) (some (.int .i64 53)) none h = some (x.v eY, h) := sx
   have kx := fun h => read8_spec R.h1 R.h2 x (by rw [q]; simp; omega) h
   rw [q, show 53 - 1 = 52 from rfl] at kx
   obtain ⟨y, sy, ky⟩ := slc_lit (b := b) (i := 53) (j := 55) (by decide) (by omega) (by decide) R.h2
   have sy : ∀ h, r_slc 1 (b.v eY) (some (.int .i64 53)) (some (.int .i64 55)) none h = some (y.v eY, h) := sy
   rw [show 55 - 53 = 2 from rfl] at ky
   have kw := fun h => word_spec R.h3 R.h2 b 55 (by omega) hbl h
   have i55 : ((55 : Nat) : Int) = 55 := rfl
   rw [i55] at kw
   have w16 := wr16 (num2 (b.l.drop 53))
   have er : reqL b.l = tokL ((b.l.drop 1).take 52) ++ [.int .u16 ((num ((b.l.drop 53).take 2) : Nat) : Int), .int .u32 (w4 b.l 55)] := rfl
   obtain ⟨T, hT⟩ : ∃ T, tokL ((b.l.drop 1).take 52) = .int .u32 (tR b.l) :: T := ⟨_, rfl⟩
   have lT : T.length = 35 := by
    have : (tokL ((b.l.drop 1).take 52)).length = 36 := by simp [tokL, mY_len, pad_len]
    rw [hT] at this
    simpa using this
   have aT : T.all oneCell = true := by
    have := scal_one (tokL_scal ((b.l.drop 1).take 52))
    rw [hT, List.all_cons, Bool.and_eq_true] at this
    exact this.2
   have eR : reqT b.l = T ++ [.int .u16 ((num ((b.l.drop 53).take 2) : Nat) : Int), .int .u32 (w4 b.l 55)] := by
    unfold reqT
    rw [er, hT]
    rfl
   rw [hT] at kx
   obtain ⟨A, hA⟩ : ∃ A, V.int .u16 ((num ((b.l.drop 53).take 2) : Nat) : Int) = A := ⟨_, rfl⟩
   obtain ⟨B, hB⟩ : ∃ B, V.int .u32 (w4 b.l 55) = B := ⟨_, rfl⟩
   have nA : oneCell A = true ∧ cellsO A = some [A] := by rw [← hA]; exact ⟨rfl, rfl⟩
   have nB : oneCell B = true ∧ cellsO B = some [B] := by rw [← hB]; exact ⟨rfl, rfl⟩
   rw [hA, hB] at eR
   have o35 : over 0 z35 T = some T := by
    have := over_mid [] T z35 [] (by rw [lT]; rfl) aT
    simpa using this
   have oR : over 0 zR T = some (T ++ [.int .u16 0, .int .u32 0]) := over_mid [] T z35 [.int .u16 0, .int .u32 0] (by rw [lT]; rfl) aT
   have t35 : takeN 35 T = some T := by rw [← lT]; exact takeN_all T
   have oA : over 35 (T ++ [.int .u16 0, .int .u32 0]) [A] = some (T ++ [A, .int .u32 0]) := by
    have := over_mid T [A] [.int .u16 0] [.int .u32 0] rfl (by simp [nA.1])
    rw [lT] at this
    exact this
   have oB : over 36 (T ++ [A, .int .u32 0]) [B] = some (T ++ [A, B]) := by
    have := over_mid (T ++ [A]) [B] [.int .u32 0] [] rfl (by simp [nB.1])
    rw [List.length_append, lT] at this
    simp only [List.append_assoc, List.cons_append, List.nil_append] at this
    exact this
   have oF : over 0 zTl (T ++ [A, B]) = some (reqT b.l ++ zC) := by
    rw [eR]
    exact over_mid [] (T ++ [A, B]) zR zC (by rw [List.length_append, lT]; rfl) (by rw [List.all_append, aT]; simp [nA.1, nB.1])
   have w16' : V.int .u16 (wr .u16 ((num ((b.l.drop 53).take 2) : Nat) : Int)) = A := by rw [w16, hA]
   simp only [↓zp, zv, seval, fold84, fold35, fold37, zT_len, z35_len, zR_len, hl', sx, m1, kx, lT, o35, t35, sy, m2, ky, w16', m3, kw, hB, nA, nB, oR, oA, oB, oF, List.length_append, oz, z0, z1, z2]
   refine ⟨_, ⟨by simp only [zs, seval], by simp only [zs, seval], by simp only [zs, seval], by simp only [↓zp, zv, seval], by simp only [↓zp, zv, seval]; rfl, by simp only [↓zp, zv, seval]⟩, .inl ⟨hl, rfl⟩⟩
  ·have n59 : ¬ ((b.l.length : Nat) : Int) = 59 := by omega
   have hl' : ((b.l.length : Nat) : Int) = 88 := by omega
   have ia1 : ∀ h, r_ia 1 (b.v eY) (.int .i64 1) h = some (.iptr (.int .u8 (n1 b.l 1) :: (b.l.drop 2).flatMap eY), h) := fun h => by rw [n1_at (by omega)]; exact r_ia_v eY_len (by decide) (by omega) rfl
   have ia46 : ∀ h, r_ia 1 (b.v eY) (.int .i64 46) h = some (.iptr (.int .u8 (n1 b.l 46) :: (b.l.drop 47).flatMap eY), h) := fun h => by rw [n1_at (by omega)]; exact r_ia_v eY_len (by decide) (by omega) rfl
   have ia47 : ∀ h, r_ia 1 (b.v eY) (.int .i64 47) h = some (.iptr (.int .u8 (n1 b.l 47) :: (b.l.drop 48).flatMap eY), h) := fun h => by rw [n1_at (by omega)]; exact r_ia_v eY_len (by decide) (by omega) rfl
   have k2 : ∀ h, callRes vp c3 [b.v eY, .int .i64 2] h = some (.int .u32 (w4 b.l 2), h) := fun h => word_spec R.h3 R.h2 b 2 (by omega) hbl h
   have k6 : ∀ h, callRes vp c3 [b.v eY, .int .i64 6] h = some (.int .u32 (w4 b.l 6), h) := fun h => word_spec R.h3 R.h2 b 6 (by omega) hbl h
   obtain ⟨y, sy, ky⟩ := slc_lit (b := b) (i := 48) (j := 56) (by decide) (by omega) (by decide) R.h2
   have sy : ∀ h, r_slc 1 (b.v eY) (some (.int .i64 48)) (some (.int .i64 56)) none h = some (y.v eY, h) := sy
   rw [show 56 - 48 = 8 from rfl] at ky
   simp only [↓zp, zv, seval, fold84, zT_len, oz, n59, hl', ia1, ia46, ia47, k2, k6, sy, m2, m3, ky, z0, z1, z2]
   have e10 : ∀ h, callRes vp c3 [b.v eY, .int .i64 10] h = some (.int .u32 (w4 b.l 10), h) := fun h => word_spec R.h3 R.h2 b 10 (by omega) hbl h
   have a10 : wr .i64 10 = 10 := rfl
   have v10 : wr .i64 (w4 b.l 10) = w4 b.l 10 := wr_i64 (by unfold w4; omega) (by have := num4 (b.l.drop 10); unfold w4; omega)
   have e14 : ∀ h, callRes vp c3 [b.v eY, .int .i64 14] h = some (.int .u32 (w4 b.l 14), h) := fun h => word_spec R.h3 R.h2 b 14 (by omega) hbl h
   have a14 : wr .i64 14 = 14 := rfl
   have v14 : wr .i64 (w4 b.l 14) = w4 b.l 14 := wr_i64 (by unfold w4; omega) (by have := num4 (b.l.drop 14); unfold w4; omega)
   have e18 : ∀ h, callRes vp c3 [b.v eY, .int .i64 18] h = some (.int .u32 (w4 b.l 18), h) := fun h => word_spec R.h3 R.h2 b 18 (by omega) hbl h
   have a18 : wr .i64 18 = 18 := rfl
   have v18 : wr .i64 (w4 b.l 18) = w4 b.l 18 := wr_i64 (by unfold w4; omega) (by have := num4 (b.l.drop 18); unfold w4; omega)
   have e22 : ∀ h, callRes vp c3 [b.v eY, .int .i64 22] h = some (.int .u32 (w4 b.l 22), h) := fun h => word_spec R.h3 R.h2 b 22 (by omega) hbl h
   have a22 : wr .i64 22 = 22 := rfl
   have v22 : wr .i64 (w4 b.l 22) = w4 b.l 22 := wr_i64 (by unfold w4; omega) (by have := num4 (b.l.drop 22); unfold w4; omega)
   have e26 : ∀ h, callRes vp c3 [b.v eY, .int .i64 26] h = some (.int .u32 (w4 b.l 26), h) := fun h => word_spec R.h3 R.h2 b 26 (by omega) hbl h
   have a26 : wr .i64 26 = 26 := rfl
   have v26 : wr .i64 (w4 b.l 26) = w4 b.l 26 := wr_i64 (by unfold w4; omega) (by have := num4 (b.l.drop 26); unfold w4; omega)
   have e30 : ∀ h, callRes vp c3 [b.v eY, .int .i64 30] h = some (.int .u32 (w4 b.l 30), h) := fun h => word_spec R.h3 R.h2 b 30 (by omega) hbl h
   have a30 : wr .i64 30 = 30 := rfl
   have v30 : wr .i64 (w4 b.l 30) = w4 b.l 30 := wr_i64 (by unfold w4; omega) (by have := num4 (b.l.drop 30); unfold w4; omega)
   have e34 : ∀ h, callRes vp c3 [b.v eY, .int .i64 34] h = some (.int .u32 (w4 b.l 34), h) := fun h => word_spec R.h3 R.h2 b 34 (by omega) hbl h
   have a34 : wr .i64 34 = 34 := rfl
   have v34 : wr .i64 (w4 b.l 34) = w4 b.l 34 := wr_i64 (by unfold w4; omega) (by have := num4 (b.l.drop 34); unfold w4; omega)
   have e38 : ∀ h, callRes vp c3 [b.v eY, .int .i64 38] h = some (.int .u32 (w4 b.l 38), h) := fun h => word_spec R.h3 R.h2 b 38 (by omega) hbl h
   have a38 : wr .i64 38 = 38 := rfl
   have v38 : wr .i64 (w4 b.l 38) = w4 b.l 38 := wr_i64 (by unfold w4; omega) (by have := num4 (b.l.drop 38); unfold w4; omega)
   have e42 : ∀ h, callRes vp c3 [b.v eY, .int .i64 42] h = some (.int .u32 (w4 b.l 42), h) := fun h => word_spec R.h3 R.h2 b 42 (by omega) hbl h
   have a42 : wr .i64 42 = 42 := rfl
   have v42 : wr .i64 (w4 b.l 42) = w4 b.l 42 := wr_i64 (by unfold w4; omega) (by have := num4 (b.l.drop 42); unfold w4; omega)
   have mu0 : VE.binOp .mul (.int .i64 12) (.int .i64 0) = some (.int .i64 0) := rfl
   have mu1 : VE.binOp .mul (.int .i64 12) (.int .i64 1) = some (.int .i64 12) := rfl
   have mu2 : VE.binOp .mul (.int .i64 12) (.int .i64 2) = some (.int .i64 24) := rfl
   refine w_to (.exit 1) (RpC b (w4 b.l 10) (w4 b.l 14) (w4 b.l 18) (w4 b.l 22) (w4 b.l 26) (w4 b.l 30) (w4 b.l 34) (w4 b.l 38) (w4 b.l 42) tp tc g.nx g.lo 3) ?_ (fun s h I => ?_)
   ·generalize hS : Tr.set _ 8 _ = S0
    generalize hH : Heap.set _ _ _ = H0
    have I0 : RpC b 0 0 0 0 0 0 0 0 0 tp tc g.nx g.lo 0 S0 H0 := ⟨by rw [← hS]; simp only [zs, seval], by rw [← hS]; simp only [zs, seval], by rw [← hS]; simp only [zs, seval], by rw [← hS]; simp only [zs, seval], by rw [← hS]; simp only [zs, seval], by rw [← hH]; simp only [↓zp, zv, seval], by rw [← hH]; simp only [↓zp, zv, seval], by rw [← hH, Heap.get_set, if_pos rfl]; rfl, by rw [← hH]; simp only [↓zp, zv, seval]⟩
    clear hS hH
    have s0 := I0.s0
    have s7 := I0.s7
    have s8 := I0.s8
    have g7 := I0.g7
    have y2 : ¬ g.nx + 2 < H0.lo := by have := I0.lo; omega
    unfold pcl at g7
    refine w_loop1 ?_
    simp only [↓zp, zv, seval, s0, s7, s8, mu0, a10, a14, a18, m3, e10, e14, e18, v10, v14, v18, g7, y2]
    generalize hS : Tr.set _ 8 _ = S1
    generalize hH : Heap.set _ _ _ = H1
    have I1 : RpC b (w4 b.l 10) (w4 b.l 14) (w4 b.l 18) 0 0 0 0 0 0 tp tc g.nx g.lo 1 S1 H1 := ⟨by rw [← hS]; simp only [zs, seval, s0], by rw [← hS]; simp only [zs, seval, I0.s2], by rw [← hS]; simp only [zs, seval, I0.s4], by rw [← hS]; simp only [zs, seval, s7], by rw [← hS]; simp only [zs, seval], by rw [← hH, Heap.get_set, if_neg (by omega), I0.g0], by rw [← hH, Heap.get_set, if_neg (by omega), I0.g1], by rw [← hH, Heap.get_set, if_pos rfl]; rfl, by rw [← hH, Heap.set_lo, I0.lo]⟩
    clear hS hH s0 s7 s8 g7 y2 I0
    have s0 := I1.s0
    have s7 := I1.s7
    have s8 := I1.s8
    have g7 := I1.g7
    have y2 : ¬ g.nx + 2 < H1.lo := by have := I1.lo; omega
    unfold pcl at g7
    refine w_loop1 ?_
    simp only [↓zp, zv, seval, s0, s7, s8, mu1, a22, a26, a30, m3, e22, e26, e30, v22, v26, v30, g7, y2]
    generalize hS : Tr.set _ 8 _ = S2
    generalize hH : Heap.set _ _ _ = H2
    have I2 : RpC b (w4 b.l 10) (w4 b.l 14) (w4 b.l 18) (w4 b.l 22) (w4 b.l 26) (w4 b.l 30) 0 0 0 tp tc g.nx g.lo 2 S2 H2 := ⟨by rw [← hS]; simp only [zs, seval, s0], by rw [← hS]; simp only [zs, seval, I1.s2], by rw [← hS]; simp only [zs, seval, I1.s4], by rw [← hS]; simp only [zs, seval, s7], by rw [← hS]; simp only [zs, seval], by rw [← hH, Heap.get_set, if_neg (by omega), I1.g0], by rw [← hH, Heap.get_set, if_neg (by omega), I1.g1], by rw [← hH, Heap.get_set, if_pos rfl]; rfl, by rw [← hH, Heap.set_lo, I1.lo]⟩
    clear hS hH s0 s7 s8 g7 y2 I1
    have s0 := I2.s0
    have s7 := I2.s7
    have s8 := I2.s8
    have g7 := I2.g7
    have y2 : ¬ g.nx + 2 < H2.lo := by have := I2.lo; omega
    unfold pcl at g7
    refine w_loop1 ?_
    simp only [↓zp, zv, seval, s0, s7, s8, mu2, a34, a38, a42, m3, e34, e38, e42, v34, v38, v42, g7, y2]
    generalize hS : Tr.set _ 8 _ = S3
    generalize hH : Heap.set _ _ _ = H3
    have I3 : RpC b (w4 b.l 10) (w4 b.l 14) (w4 b.l 18) (w4 b.l 22) (w4 b.l 26) (w4 b.l 30) (w4 b.l 34) (w4 b.l 38) (w4 b.l 42) tp tc g.nx g.lo 3 S3 H3 := ⟨by rw [← hS]; simp only [zs, seval, s0], by rw [← hS]; simp only [zs, seval, I2.s2], by rw [← hS]; simp only [zs, seval, I2.s4], by rw [← hS]; simp only [zs, seval, s7], by rw [← hS]; simp only [zs, seval], by rw [← hH, Heap.get_set, if_neg (by omega), I2.g0], by rw [← hH, Heap.get_set, if_neg (by omega), I2.g1], by rw [← hH, Heap.get_set, if_pos rfl]; rfl, by rw [← hH, Heap.set_lo, I2.lo]⟩
    clear hS hH s0 s7 s8 g7 y2 I2
    refine w_loop1 ?_
    simp only [↓zp, zv, seval, I3.s8]
    exact ⟨by simp only [zs, seval, I3.s0], by simp only [zs, seval, I3.s2], by simp only [zs, seval, I3.s4], by simp only [zs, seval, I3.s7], by simp only [zs, seval, I3.s8], I3.g0, I3.g1, I3.g7, I3.lo⟩
   have s0 := I.s0
   have s2 := I.s2
   have s4 := I.s4
   have s7 := I.s7
   have ld : (b.l.drop 56).length = 32 := by simp; omega
   have el : pad ((b.l.drop 56).take 32) = b.l.drop 56 := by
    have e : (b.l.drop 56).take 32 = b.l.drop 56 := List.take_of_length_le (by omega)
    rw [e, pad_eq ld]
   simp only [↓zp, zv, seval, s0, s2, s4, s7]
   refine w_to (.exit 3) (RpD b (w4 b.l 10) (w4 b.l 14) (w4 b.l 18) (w4 b.l 22) (w4 b.l 26) (w4 b.l 30) (w4 b.l 34) (w4 b.l 38) (w4 b.l 42) tp tc g.nx g.lo 32) ?_ (fun s h J => ?_)
   ·generalize hS : Tr.set _ 9 _ = S0
    have J0 : RpD b (w4 b.l 10) (w4 b.l 14) (w4 b.l 18) (w4 b.l 22) (w4 b.l 26) (w4 b.l 30) (w4 b.l 34) (w4 b.l 38) (w4 b.l 42) tp tc g.nx g.lo 0 S0 h := ⟨by rw [← hS]; simp only [zs, seval, s0], by rw [← hS]; simp only [zs, seval, s2], by rw [← hS]; simp only [zs, seval, s4], by rw [← hS]; simp only [zs, seval, s7], by rw [← hS]; simp only [zs, seval] <;> rfl, I.g0, I.g1, I.g7, I.lo⟩
    clear hS s0 s2 s4 s7 I
    refine loop_ind (fun m s h => ∃ i, i ≤ 32 ∧ m = 32 - i ∧ RpD b (w4 b.l 10) (w4 b.l 14) (w4 b.l 18) (w4 b.l 22) (w4 b.l 26) (w4 b.l 30) (w4 b.l 34) (w4 b.l 38) (w4 b.l 42) tp tc g.nx g.lo i s h) ?_ 32 ⟨0, by omega, by omega, J0⟩
    clear J0
    rintro m s h ⟨i, hi, hm, J⟩
    have s0 := J.s0
    have s2 := J.s2
    have s4 := J.s4
    have s7 := J.s7
    have s9 := J.s9
    have g7 := J.g7
    have y2 : ¬ g.nx + 2 < h.lo := by have := J.lo; omega
    by_cases hlt : i < 32
    case neg =>
     obtain rfl : i = 32 := by omega
     have e32 : ((32 : Nat) : Int) = 32 := rfl
     rw [e32] at s9
     simp only [↓zp, zv, seval, s9]
     exact ⟨by simp only [zs, seval, s0], by simp only [zs, seval, s2], by simp only [zs, seval, s4], by simp only [zs, seval, s7], by simp only [zs, seval, s9] <;> rfl, J.g0, J.g1, J.g7, J.lo⟩
    have hlt' : (i : Int) < 32 := by omega
    have ws := wr_succ (k := i) (by omega)
    have wa : wr .i64 (56 + (i : Int)) = ((56 + i : Nat) : Int) := by rw [wr_i64 (by omega) (by omega)]; push_cast; rfl
    have ia := fun h => r_ia_v (enc := eY) eY_len (by decide) (c := b) (k := 56 + i) (h := h) (by omega) rfl
    have ov := dgY_over (n := 15) (d := b.l.drop 56) (p := []) (P := pcl b.l (w4 b.l 10) (w4 b.l 14) (w4 b.l 18) (w4 b.l 22) (w4 b.l 26) (w4 b.l 30) (w4 b.l 34) (w4 b.l 38) (w4 b.l 42) []) ld hlt rfl
    rw [List.getElem_drop] at ov
    have e7 : pcl b.l (w4 b.l 10) (w4 b.l 14) (w4 b.l 18) (w4 b.l 22) (w4 b.l 26) (w4 b.l 30) (w4 b.l 34) (w4 b.l 38) (w4 b.l 42) (dgY (b.l.drop 56) i) = pcl b.l (w4 b.l 10) (w4 b.l 14) (w4 b.l 18) (w4 b.l 22) (w4 b.l 26) (w4 b.l 30) (w4 b.l 34) (w4 b.l 38) (w4 b.l 42) [] ++ dgY (b.l.drop 56) i := rfl
    rw [e7] at g7
    simp only [eY] at ia
    simp only [↓zp, zv, seval, s0, s7, s9, hlt', hlt, wa, ia, g7, Nat.mul_one, ov, y2, ws]
    refine ⟨_, by omega, i + 1, by omega, rfl, by simp only [zs, seval, s0], by simp only [zs, seval, s2], by simp only [zs, seval, s4], by simp only [zs, seval, s7], by simp only [zs, seval], ?_, ?_, by rw [Heap.get_set, if_pos rfl]; rfl, J.lo⟩
    ·rw [Heap.get_set, if_neg (by omega), J.g0]
    ·rw [Heap.get_set, if_neg (by omega), J.g1]
   have s0 := J.s0
   have s2 := J.s2
   have s4 := J.s4
   have s7 := J.s7
   have g1 := J.g1
   have g7 := J.g7
   have y1 : ¬ g.nx + 1 < h.lo := by have := J.lo; omega
   rw [dgY_end ld] at g7
   have eE : encC (cmdOf b.l) = pcl b.l (w4 b.l 10) (w4 b.l 14) (w4 b.l 18) (w4 b.l 22) (w4 b.l 26) (w4 b.l 30) (w4 b.l 34) (w4 b.l 38) (w4 b.l 42) (mY (b.l.drop 56)) := by rw [encC_eq, el]; rfl
   have lE := encC_len (cmdOf_tg b.l)
   have oE : over 37 zTl (encC (cmdOf b.l)) = some (zR ++ encC (cmdOf b.l)) := by
    have := over_mid zR (encC (cmdOf b.l)) zC [] (by rw [lE]; rfl) (scal_one (encC_scal _))
    simp only [List.append_nil] at this
    exact this
   have tE : takeN 32 (mY (b.l.drop 56)) = some (mY (b.l.drop 56)) := by have := takeN_all (mY (b.l.drop 56)); rw [mY_len, ld] at this; exact this
   have lD : (mY (b.l.drop 56)).length = 32 := by rw [mY_len, ld]
   rw [eE] at oE ⊢
   unfold pcl at oE g7
   simp only [↓zp, zv, seval, s7, g7, tE, s4, g1, lD, oE, y1]
   refine ⟨_, ⟨by simp only [zs, seval, s0], by simp only [zs, seval, s2], by simp only [zs, seval, s4], by rw [Heap.get_set, if_neg (by omega)]; exact J.g0, by rw [Heap.get_set, if_pos rfl]; rfl, by rw [Heap.set_lo]; exact J.lo⟩, .inr ⟨hl, rfl⟩⟩
 clear hg
 rintro s h ⟨F, A, hF⟩
 have s0 := A.s0
 have s2 := A.s2
 have s4 := A.s4
 have g0 := A.g0
 have g1 := A.g1
 have y0 : ¬ g.nx < h.lo := by have := A.lo; omega
 rcases hF with ⟨hl, rfl⟩ | ⟨hl, rfl⟩
 ·have c : CellF 1 (tR b.l) (reqT b.l) zC := ⟨reqT_len _, rfl, reqT_scal _, rfl⟩
  obtain ⟨r1, r2, r3, r4⟩ := c.st
  have kc := fun h => rchkR_spec R.h4 (tR b.l) (reqT b.l) (reqT_len _) h
  obtain ⟨o, o1, ko⟩ := bytR_spec R.h5 R.hq2 R.hq4 R.hq3 b.l hl h
  have ks := fun h => sameB_spec R.h6 o b h (by rw [o1]; simp; omega)
  have fy := fun (H : Heap) (c : Nat) => frz_fr (h := H) (b := c) (k := 1) (t := tR b.l) (R := reqT b.l) (C := zC) (x := 0) (reqT_scal _) rfl (reqT_len _) rfl
  have fin : ∀ v, isR b.l → tR b.l < 16 → v = .tup [.agg (fr 1 (tR b.l) (reqT b.l) zC), .int .i64 0] → Prs b.l v := fun v h0 h1 h2 => .inl ⟨h0, h1, h2⟩
  unfold fr at g1 kc ko fy fin
  have nc : ¬ isCm b.l := fun k => by have := k.1; omega
  by_cases ht : tR b.l < 16
  ·rw [if_pos ht] at kc
   by_cases hh : o.l = b.l
   ·have is : isR b.l := ⟨hl, by rw [o1] at hh; exact (hd_iff (by omega)).1 hh⟩
    rw [decide_eq_true hh] at ks
    simp only [↓zp, zv, seval, fold84, zT_len, s0, s2, s4, g0, g1, m4, kc, m5, ko, m6, ks, r1, r2, r3, y0]
    exact ⟨_, fy _ _, fin _ is ht rfl⟩
   ·rw [decide_eq_false hh] at ks
    simp only [↓zp, zv, seval, fold84, zT_len, s0, s2, s4, g0, g1, m4, kc, m5, ko, m6, ks, r1, r2, r3, y0, oz, tz]
    exact ⟨_, fz _ _, bad _ (noo (fun k => hh (by rw [o1]; exact (hd_iff (by omega)).2 k.1.2)) (fun k => nc k.1)) rfl⟩
  ·rw [if_neg ht] at kc
   simp only [↓zp, zv, seval, fold84, zT_len, s0, s2, s4, g0, g1, m4, kc, r1, r2, r3, y0, oz, tz]
   exact ⟨_, fz _ _, bad _ (noo (fun k => ht k.2) (fun k => nc k.1)) rfl⟩
 ·have c : CellF 2 0 zR (encC (cmdOf b.l)) := ⟨rfl, encC_len (cmdOf_tg _), rfl, encC_scal _⟩
  obtain ⟨r1, r2, r3, r4⟩ := c.st
  have kc := fun h => rchkC_spec R.h4 R.he1 R.he2 R.he3 (cmdOf b.l) (cmdOf_tg _) h
  obtain ⟨o, o1, ko⟩ := bytC_spec R.h5 R.hq1 R.hq3 b.l hl h
  have ks := fun h => sameB_spec R.h6 o b h (by rw [o1]; simp; omega)
  have fy := fun (H : Heap) (c : Nat) => frz_fr (h := H) (b := c) (k := 2) (t := 0) (R := zR) (C := encC (cmdOf b.l)) (x := 0) rfl (encC_scal _) rfl (encC_len (cmdOf_tg _))
  have fin : ∀ v, isCm b.l → CmdOk (cmdOf b.l) → v = .tup [.agg (fr 2 0 zR (encC (cmdOf b.l))), .int .i64 0] → Prs b.l v := fun v h0 h1 h2 => .inr (.inl ⟨h0, h1, h2⟩)
  unfold fr at g1 kc ko fy fin
  have nc : ¬ isR b.l := fun k => by have := k.1; omega
  by_cases ht : CmdOk (cmdOf b.l)
  ·rw [if_pos ht] at kc
   by_cases hh : o.l = b.l
   ·have is : isCm b.l := ⟨hl, by rw [o1] at hh; exact (hd_iff (by omega)).1 hh⟩
    rw [decide_eq_true hh] at ks
    simp only [↓zp, zv, seval, fold84, zT_len, s0, s2, s4, g0, g1, m4, kc, m5, ko, m6, ks, r1, r2, r3, y0]
    exact ⟨_, fy _ _, fin _ is ht rfl⟩
   ·rw [decide_eq_false hh] at ks
    simp only [↓zp, zv, seval, fold84, zT_len, s0, s2, s4, g0, g1, m4, kc, m5, ko, m6, ks, r1, r2, r3, y0, oz, tz]
    exact ⟨_, fz _ _, bad _ (noo (fun k => nc k.1) (fun k => hh (by rw [o1]; exact (hd_iff (by omega)).2 k.1.2))) rfl⟩
  ·rw [if_neg ht] at kc
   simp only [↓zp, zv, seval, fold84, zT_len, s0, s2, s4, g0, g1, m4, kc, r1, r2, r3, y0, oz, tz]
   exact ⟨_, fz _ _, bad _ (noo (fun k => nc k.1) (fun k => ht k.2)) rfl⟩
theorem ris_spec {f f1 f2 tb c1 c2 c3 c4 c5 c6 a1 e1 e2 e3 q1 q2 q3 q4 u1 tp tt tc : Nat} (hf : vp f = some (Zzeq f1 f2 tb)) (h1 : vp f1 = some (Zzdc c1 c2 c3 c4 c5 c6 tp tt tc)) (h2 : vp f2 = some Zzdb) (R : Rfs vp c1 c2 c3 c4 c5 c6 a1 e1 e2 e3 q1 q2 q3 q4 u1)
  (b : Sl Bt) (hbl : b.l.length ≤ 1000) (tn : Int) (h : Heap) : callRes vp f [b.v eY, .int .u32 tn] h = some (.bool (decide (ownT b.l = some tn)), h) := by
 have m1 := mo' h1 rfl rfl
 have m2 := mo' h2 rfl rfl
 refine res_pure hf rfl rfl (fun g hg => ?_)
 have hlo := hlo hg
 have z0 : ¬ g.nx < g.lo := by omega
 unfold Zzeq
 obtain ⟨v, kp, pr⟩ := rparse_spec h1 R b hbl g
 rcases pr with ⟨is, ht, rfl⟩ | ⟨is, ok, rfl⟩ | ⟨o, rfl⟩
 ·have c : CellF 1 (tR b.l) (reqT b.l) zC := ⟨reqT_len _, rfl, reqT_scal _, rfl⟩
  have kt := fun h => rofR_spec h2 (tR b.l) (reqT b.l) (reqT_len _) h
  have e := own_R is ht
  obtain ⟨q1, q2, q3, q4⟩ := c.st
  unfold fr at kp kt
  rw [e]
  generalize reqT b.l ++ zC = U at *
  by_cases et : tR b.l = tn
  ·have ed : decide (some (tR b.l) = some tn) = true := decide_eq_true (congrArg some et)
   rw [ed]
   simp only [↓zp, zv, seval, fold84, zT_len, m1, kp, z0, q1, q2, q3, q4, m2, kt, eq_true et, frzB]
  ·have ed : decide (some (tR b.l) = some tn) = false := decide_eq_false (fun q => et (Option.some.inj q))
   rw [ed]
   simp only [↓zp, zv, seval, fold84, zT_len, m1, kp, z0, q1, q2, q3, q4, m2, kt, et, frzB]
 ·have c : CellF 2 0 zR (encC (cmdOf b.l)) := ⟨rfl, encC_len (cmdOf_tg _), rfl, encC_scal _⟩
  have kt := fun h => ofC_spec h2 (cmdOf b.l) (cmdOf_tg _) h
  have e := own_C is ok
  obtain ⟨q1, q2, q3, q4⟩ := c.st
  unfold fr at kp kt
  rw [e]
  generalize zR ++ encC (cmdOf b.l) = U at *
  by_cases et : (cmdOf b.l).t = tn
  ·have ed : decide (some (cmdOf b.l).t = some tn) = true := decide_eq_true (congrArg some et)
   rw [ed]
   simp only [↓zp, zv, seval, fold84, zT_len, m1, kp, z0, q1, q2, q3, q4, m2, kt, eq_true et, frzB]
  ·have ed : decide (some (cmdOf b.l).t = some tn) = false := decide_eq_false (fun q => et (Option.some.inj q))
   rw [ed]
   simp only [↓zp, zv, seval, fold84, zT_len, m1, kp, z0, q1, q2, q3, q4, m2, kt, et, frzB]
 ·have ed : decide (none = some tn) = false := decide_eq_false (fun q => by cases q)
  have oz : over 0 zTl zTl = some zTl := over_id rfl
  rw [o, ed]
  rw [fr_z] at kp
  simp only [↓zp, zv, seval, fold84, zT_len, m1, kp, z0, oz, frzB]
theorem rBel_spec {f fa f1 f2 tb c1 c2 c3 c4 c5 c6 a1 e1 e2 e3 q1 q2 q3 q4 u1 tp tt tc : Nat} (hf : vp f = some (Zzep fa)) (hb : vp fa = some (Zzeq f1 f2 tb)) (h1 : vp f1 = some (Zzdc c1 c2 c3 c4 c5 c6 tp tt tc)) (h2 : vp f2 = some Zzdb) (R : Rfs vp c1 c2 c3 c4 c5 c6 a1 e1 e2 e3 q1 q2 q3 q4 u1)
  (b : Sl Bt) (hbl : b.l.length ≤ 1000) (tn : Int) (h : Heap) : callRes vp f [b.v eY, .int .u32 tn] h = some (if 16 ≤ tn then .tup [.bool false, .int .i64 2] else .tup [.bool (decide (ownT b.l = some tn)), .int .i64 0], h) := by
 have m2 := mo' hb rfl rfl
 have kb := fun h => ris_spec hb h1 h2 R b hbl tn h
 refine res_pure hf rfl rfl (fun g hg => ?_)
 unfold Zzep
 by_cases ht : 16 ≤ tn
 ·rw [if_pos ht]
  simp only [↓zp, zv, seval, ht, frzBI]
 ·rw [if_neg ht]
  simp only [↓zp, zv, seval, ht, m2, kb, frzBI]
end
end
end Go.VE.LB
