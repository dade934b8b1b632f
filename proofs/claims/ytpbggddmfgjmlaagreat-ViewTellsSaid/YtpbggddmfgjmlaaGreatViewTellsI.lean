/- What slices.Insert does, walked once for each element type that the law ViewTells reaches. -/
import Derived.Test.YtpbggddmfgjmlaaGreatViewTellsT
import Derived.Test.YtpbggddmfgjmlaaGreatVeFinal
import Derived.Test.YtpbggddmfgjmlaaGreatVeInsK
import Derived.Test.YtpbggddmfgjmlaaGreatChecked
import Derived.KernelRfl
import Derived.WalkKit
import Derived.ProofKit
import Derived.Lib.Walk
import Derived.Lib.SliceRun
import Derived.Lib.JoinLaws
import Derived.Lib.AppendZeros
import Derived.Lib.Overlaps
import Derived.Laws.Externs
import Derived.Laws.IdiomCopy
import Derived.Shelf.RegionOpenPlain
set_option linter.unusedVariables false
set_option linter.unusedSimpArgs false
set_option linter.all false
set_option maxRecDepth 100000
set_option maxHeartbeats 4000000
namespace Go.Proofs.YtpbggddmfgjmlaaGreat.viewTells
open Go Go.VE Go.VE.LB Go.RowKit Go.Lib
theorem ins34_zero (w : World) (base : Option Addr) (n c i : Nat) (vb : Option Addr) (vc : Nat) (hi : i ≤ n) (hnc : n ≤ c) :
    Calls Tryz.prog 34 #[.slice base n c, .int .i64 i, .slice vb 0 vc] w fun e w' => e = .returned (.slice base n c) ∧ w' = w := by
  go_enter Tryz.func34, Tryz.ntmps34
  cases base with
  | none =>
    go_wp2
    all_goals go_ret
    all_goals exact ⟨rfl, rfl⟩
  | some ad =>
    go_wp2
    all_goals go_ret
    all_goals exact ⟨rfl, rfl⟩

theorem ins34_shift (w W1 W2 : World) (b off n c i m vc k1 k2 : Nat) (va : Addr) (hi : i < n) (hm : 0 < m) (hroom : n + m ≤ c) (hc63 : n + m ≤ 9223372036854775807)
   (hov : ∀ lb cb, (callFunc 67 #[.slice (some va) m vc, .slice (some ⟨b, off + (i + m) * 42, none⟩) lb cb]).run Tryz.prog w = .ok (.value (.bool false)) w)
   (hcp1 : ∀ ty dc sc, (Builtin.copy_ #[28, 28] ty #[.slice (some ⟨b, off + (i + m) * 42, none⟩) (n + m - (i + m)) dc, .slice (some ⟨b, off + i * 42, none⟩) (n + m - i) sc]).run Tryz.prog w.drew = .ok (goInt k1) W1)
   (hcp2 : ∀ ty dc, (Builtin.copy_ #[28, 28] ty #[.slice (some ⟨b, off + i * 42, none⟩) (n + m - i) dc, .slice (some va) m vc]).run Tryz.prog W1 = .ok (goInt k2) W2) :
    Calls Tryz.prog 34 #[.slice (some ⟨b, off, none⟩) n c, .int .i64 i, .slice (some va) m vc] w fun e w' => e = .returned (.slice (some ⟨b, off, none⟩) (n + m) c) ∧ w' = W2 := by
  have hz1 : ¬ ((m : Int) = 0) := by omega
  have hz2 : ¬ ((i : Int) = (n : Int)) := by omega
  have hw1 : IntKind.i64.wrap ((i : Int) + (m : Int)) = (i : Int) + (m : Int) := by rw [IntKind.wrap_i64]; omega
  have hw2 : IntKind.i64.wrap ((n : Int) + (m : Int)) = (n : Int) + (m : Int) := by rw [IntKind.wrap_i64]; omega
  have hb1 : (0 : Int) ≤ (i : Int) + (m : Int) := by omega
  have hin : i ≤ n := by omega
  have htn : ((i : Int) + (m : Int)).toNat = i + m := by omega
  have htn2 : ((n : Int) + (m : Int)).toNat = n + m := by omega
  have hb2 : ¬ (c = i + m) := by omega
  have hb3 : (i : Int) ≤ (n : Int) + (m : Int) := by omega
  have hb4 : ¬ (c = i) := by omega
  have mixed : Tryz.prog.follows .mixedOrders = true := by kernel_rfl
  try simp only [Nat.mul_one] at hov hcp1 hcp2
  go_enter Tryz.func34, Tryz.ntmps34
  go_wp2_with (simp only [hov])
  go_region_law_o (refine step_copy_runI rfl _ _ 28 28 rfl _ _ (by simp [Act.eval, Act.put]) (by simp [Act.eval, Act.put]) (hcp1 _ _ _) ?_)
  go_wp2_with (at_builtin; refine wpList_copy_runI _ rfl _ _ 28 28 rfl _ _ rfl rfl (hcp2 _ _) ?_)
  go_ret
  exact ⟨rfl, rfl⟩

theorem ins34_atend (w W1 : World) (base : Option Addr) (n c m vc : Nat) (va : Addr) (x : Value) (hm : 0 < m) (hnc : n ≤ c)
   (hrun : (Builtin.append_ #[28, 28] 28 #[.slice base n c, .slice (some va) m vc]).run Tryz.prog w = .ok x W1) :
    Calls Tryz.prog 34 #[.slice base n c, .int .i64 n, .slice (some va) m vc] w fun e w' => e = .returned x ∧ w' = W1 := by
  have hz1 : ¬ ((m : Int) = 0) := by omega
  go_enter Tryz.func34, Tryz.ntmps34
  cases base with
  | none =>
    go_wp2_with (at_builtin; refine Lib.wpList_append_run _ rfl _ _ _ _ rfl _ _ rfl rfl _ _ hrun ?_)
    all_goals (go_ret; exact ⟨rfl, rfl⟩)
  | some ad =>
    go_wp2_with (at_builtin; refine Lib.wpList_append_run _ rfl _ _ _ _ rfl _ _ rfl rfl _ _ hrun ?_)
    all_goals (go_ret; exact ⟨rfl, rfl⟩)

theorem ins34_grow (w W1 W2 W3 : World) (b off n c i m vc g G k1 k2 : Nat) (va : Addr) (hi : i < n) (hm : 0 < m) (hnc : n ≤ c) (hroom : c < n + m) (hc63 : n + m ≤ 9223372036854775807) (hG : n + m ≤ G)
   (hrz : ∀ ty, (Builtin.append_ #[28, 3] ty #[.slice (some ⟨b, off, none⟩) i c, .int .i64 ((n : Int) + (m : Int) - (i : Int))]).run Tryz.prog w = .ok (.slice (some ⟨g, 0, none⟩) (n + m) G) W1)
   (hcpA : ∀ ty dc, (Builtin.copy_ #[28, 28] ty #[.slice (some ⟨g, i * 42, none⟩) (n + m - i) dc, .slice (some va) m vc]).run Tryz.prog W1 = .ok (goInt k1) W2)
   (hcpB : ∀ ty dc sc, (Builtin.copy_ #[28, 28] ty #[.slice (some ⟨g, (i + m) * 42, none⟩) (n + m - (i + m)) dc, .slice (some ⟨b, off + i * 42, none⟩) (n - i) sc]).run Tryz.prog W2.drew = .ok (goInt k2) W3) :
    Calls Tryz.prog 34 #[.slice (some ⟨b, off, none⟩) n c, .int .i64 i, .slice (some va) m vc] w fun e w' => e = .returned (.slice (some ⟨g, 0, none⟩) (n + m) G) ∧ w' = W3 := by
  have hz1 : ¬ ((m : Int) = 0) := by omega
  have hz2 : ¬ ((i : Int) = (n : Int)) := by omega
  have hz3 : (c : Int) < (n : Int) + (m : Int) := by omega
  have hw1 : IntKind.i64.wrap ((i : Int) + (m : Int)) = (i : Int) + (m : Int) := by rw [IntKind.wrap_i64]; omega
  have hw2 : IntKind.i64.wrap ((n : Int) + (m : Int)) = (n : Int) + (m : Int) := by rw [IntKind.wrap_i64]; omega
  have hw3 : IntKind.i64.wrap ((n : Int) + (m : Int) - (i : Int)) = (n : Int) + (m : Int) - (i : Int) := by rw [IntKind.wrap_i64]; omega
  have hb1 : (0 : Int) ≤ (i : Int) + (m : Int) := by omega
  have hin : i ≤ n := by omega
  have htn : ((i : Int) + (m : Int)).toNat = i + m := by omega
  have hGi : ¬ (G = i) := by omega
  have hGim : ¬ (G = i + m) := by omega
  have hci : ¬ (c = i) := by omega
  have hic : i ≤ c := by omega
  have hinm : i ≤ n + m := by omega
  have mixed : Tryz.prog.follows .mixedOrders = true := by kernel_rfl
  try simp only [Nat.mul_one] at hcpA hcpB
  go_enter Tryz.func34, Tryz.ntmps34
  go_wp2_with (first
    | (at_builtin; refine Lib.wpList_append_run _ rfl _ _ _ _ rfl _ _ rfl rfl _ _ (hrz _) ?_)
    | (at_builtin; refine wpList_copy_runI _ rfl _ _ 28 28 rfl _ _ rfl rfl (hcpA _ _) ?_))
  go_region_law_o (refine step_copy_runI rfl _ _ 28 28 rfl _ _ (by simp [Act.eval, Act.put]) (by simp [Act.eval, Act.put]) (hcpB _ _ _) ?_)
  go_wp2
  go_ret
  exact ⟨rfl, rfl⟩

theorem insw34 : ∃ t e it ti z, InsW Tryz.prog 34 t e it ti z ∧ v34.prim = some (ti.size, ti.bytes) := by
  obtain ⟨ti, hti⟩ : ∃ ti, Tryz.prog.info? 56 = some ti := Option.isSome_iff_exists.1 (by kernel_rfl)
  have hs : ti.size = 42 := by
    have h : (Tryz.prog.info? 56).map (·.size) = some 42 := by kernel_rfl
    rw [hti] at h
    simpa using h
  have hb : ti.bytes = 576 := by
    have h : (Tryz.prog.info? 56).map (·.bytes) = some 576 := by kernel_rfl
    rw [hti] at h
    simpa using h
  obtain ⟨z, hz, hzs⟩ : ∃ z, ti.zero = some z ∧ z.cells.size = 42 := by
    have h : ((Tryz.prog.info? 56).bind (·.zero)).map (·.cells.size) = some 42 := by kernel_rfl
    rw [hti] at h
    simp only [Option.bind_some] at h
    cases hz : ti.zero with
    | none => rw [hz] at h; cases h
    | some z => rw [hz] at h; exact ⟨z, rfl, by simpa using h⟩
  have hu : Tryz.prog.underlying 28 = some (.slice 56) := by kernel_rfl
  have hzz : ∀ w, (Go.sizeOf 56).run Tryz.prog w = .ok 42 w := fun w => by simp [Go.sizeOf, typeInfo, hti, hs]
  refine ⟨28, 56, 3, ti, z, ⟨hu, ⟨.i64, by kernel_rfl⟩, hti, hz, by rw [hs]; exact hzs, by omega, by omega, ins34_zero, ins34_atend, ?_, ?_⟩, by rw [hs, hb]; rfl⟩
  · rw [hs]
    intro w W1 W2 b off n c i m vc k1 k2 va h1 h2 h3 h4 hne tA tB kA kB hsa hsb hkB hfa hfe h5 h6
    refine ins34_shift w W1 W2 b off n c i m vc k1 k2 va h1 h2 h3 h4 (fun lb cb => ?_) h5 h6
    rw [run_callFunc_extern Tryz.func67 (by kernel_rfl) (by kernel_rfl) (by kernel_rfl) (e := Extern.SlicesOverlaps.overlaps #[28, 28] #[4]) (by kernel_rfl),
      Lib.run_overlaps_apart w 28 4 56 hu 42 hzz va ⟨b, off + (i + m) * 42, none⟩ m vc lb cb hne tA tB kA kB hsa hsb hkB hfa hfe]
    rfl
  · rw [hs]
    exact ins34_grow

end Go.Proofs.YtpbggddmfgjmlaaGreat.viewTells
