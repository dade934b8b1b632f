/- What the functions of the law ModelAdmits compute, on typed arguments (part 2). -/
import Derived.Test.YtnmneadmlcpaoaaModelAdmitsA1
set_option linter.all false
namespace Go.VE.LB
open Go Go.VE
set_option maxRecDepth 100000
set_option linter.all false
set_option linter.defProp false
theorem r_fa_p {n b o : Nat} {h : Heap} : r_fa n (.ptr b o) h = some (.ptr b (o + n), h) := rfl
theorem r_fa_i {n : Nat} {cs : List V} {h : Heap} : r_fa n (.iptr cs) h = some (.iptr (cs.drop n), h) := rfl
theorem r_ld_p {n : Option Nat} {b o : Nat} {h : Heap} : r_ld n (.ptr b o) h = match cellsAt h (.ptr b o) with
    | some cs => (VE.part n cs).map fun v => (v, h)
    | none => none := rfl
theorem r_ld_i {n : Option Nat} {cs : List V} {h : Heap} : r_ld n (.iptr cs) h = (VE.part n cs).map fun v => (v, h) := rfl
/-- the rules that are tried first -/
def zp := And.intro @Go.VE.w_seq (And.intro @Go.VE.w_reg (And.intro @Go.VE.w_block (And.intro @Go.VE.w_skip (And.intro @Go.VE.w_exit (And.intro @Go.VE.w_ret (And.intro @Go.VE.w_scope (And.intro @Go.VE.w_true (And.intro @Go.VE.w_false (And.intro @Go.VE.wo_nil (And.intro @Go.VE.g_t (And.intro @Go.VE.g_f (And.intro @Go.VE.p_call (And.intro @Go.VE.n_call (And.intro @Go.VE.p_callp (And.intro @Go.VE.p_callo (And.intro @Go.VE.p_callv (And.intro @Go.VE.p_mv (And.intro @Go.VE.p_pick (And.intro @Go.VE.p_alloc (And.intro @Go.VE.p_box (And.intro @Go.VE.p_build (And.intro @Go.VE.p_bsl (And.intro @Go.VE.p_ld (And.intro @Go.VE.p_st (And.intro @Go.VE.n_st (And.intro @Go.VE.p_nck (And.intro @Go.VE.p_bin (And.intro @Go.VE.p_eqb (And.intro @Go.VE.p_eqn (And.intro @Go.VE.p_eqa (And.intro @Go.VE.p_un (And.intro @Go.VE.p_cnv (And.intro @Go.VE.p_mkf (And.intro @Go.VE.p_mks (And.intro @Go.VE.p_slc (And.intro @Go.VE.p_slca (And.intro @Go.VE.p_fa (And.intro @Go.VE.p_fld (And.intro @Go.VE.p_ia (And.intro @Go.VE.p_iaa (And.intro @Go.VE.p_ix (And.intro @Go.VE.p_ixs (And.intro @Go.VE.p_ext (And.intro @Go.VE.p_len (And.intro @Go.VE.p_lens (And.intro @Go.VE.p_lenc (And.intro @Go.VE.p_app (And.intro @Go.VE.p_apps (And.intro @Go.VE.p_app0 (And.intro @Go.VE.p_cpy (And.intro @Go.VE.n_cpy (And.intro @Go.VE.p_cpys (And.intro @Go.VE.n_cpys (And.intro @Go.VE.p_mini (And.intro @Go.VE.p_maxi (And.intro @Go.VE.p_mkif (And.intro @Go.VE.p_carry (And.intro @Go.VE.p_clr (And.intro @Go.VE.n_clr (And.intro @Go.VE.p_mkmap (And.intro @Go.VE.p_look (And.intro @Go.VE.p_mupd (And.intro @Go.VE.n_mupd (And.intro @Go.VE.p_mdel (And.intro @Go.VE.n_mdel (And.intro @Go.VE.p_lenm (And.intro @Go.VE.p_pur (And.intro @Go.VE.p_eff (And.intro @Go.VE.n_eff @Go.VE.p_mnz)))))))))))))))))))))))))))))))))))))))))))))))))))))))))))))))))))))
/-- the other rules -/
def zz := And.intro @Go.VE.vOf_some (And.intro @Go.VE.hOf_some (And.intro @Go.VE.okR_some (And.intro @Go.VE.Slots.at_set (And.intro @Nat.add_assoc (And.intro @Nat.add_left_cancel_iff (And.intro @Nat.add_eq_left (And.intro @Nat.left_eq_add (And.intro @Nat.zero_add (And.intro @Nat.add_zero (And.intro @Go.VE.ev_t (And.intro @Go.VE.ev_k (And.intro @Go.VE.evs_nil (And.intro @Go.VE.evs_cons (And.intro @Go.VE.evo_none (And.intro @Go.VE.evo_some (And.intro @Go.VE.evp_nil (And.intro @Go.VE.evp_cons (And.intro @Go.VE.argSlots_at (And.intro @Go.VE.asNat0 (And.intro @Go.VE.asNat1 (And.intro @Go.VE.asNat2 (And.intro @Go.VE.asNatN (And.intro @Go.VE.wr1 (And.intro @Go.VE.wr2 (And.intro @Go.VE.wr3 (And.intro @Go.VE.oneCell_v (And.intro @Go.VE.one_int (And.intro @Go.VE.one_bool (And.intro @Go.VE.one_str (And.intro @Go.VE.one_ptr (And.intro @Go.VE.one_sl (And.intro @Go.VE.one_isl (And.intro @Go.VE.one_nils (And.intro @Go.VE.one_nilp (And.intro @Go.VE.one_fn (And.intro @Go.VE.one_ifc (And.intro @Go.VE.one_nili (And.intro @Go.VE.one_iptr (And.intro @Go.VE.co_int (And.intro @Go.VE.co_bool (And.intro @Go.VE.co_str (And.intro @Go.VE.co_agg (And.intro @Go.VE.co_ptr (And.intro @Go.VE.co_sl (And.intro @Go.VE.co_isl (And.intro @Go.VE.co_nils (And.intro @Go.VE.co_nilp (And.intro @Go.VE.co_fn (And.intro @Go.VE.co_iptr (And.intro @Go.VE.cellsO_v (And.intro @Go.VE.r_len_v (And.intro @Go.VE.Heap.get_new (And.intro @Go.VE.Heap.get_set (And.intro @Go.VE.Heap.new_nx (And.intro @Go.VE.Heap.new_lo (And.intro @Go.VE.Heap.set_nx (And.intro @Go.VE.Heap.set_lo (And.intro @decide_true (And.intro @decide_false (And.intro @Bool.not_true (And.intro @Bool.not_false (And.intro @Bool.and_true (And.intro @Bool.true_and (And.intro @Bool.and_self (And.intro @Bool.or_false (And.intro @Bool.false_or (And.intro @Bool.or_self (And.intro @Bool.and_false (And.intro @Bool.false_and (And.intro @Go.VE.bi_lss (And.intro @Go.VE.bi_leq (And.intro @Go.VE.bi_gtr (And.intro @Go.VE.bi_geq (And.intro @Go.VE.bi_eql (And.intro @Go.VE.bi_neq (And.intro @Go.VE.bi_add (And.intro @Go.VE.bi_sub (And.intro @Go.VE.beq_dec (And.intro @Go.VE.blt_dec (And.intro @Go.VE.ble_dec (And.intro @Bool.true_or (And.intro @Bool.or_true (And.intro @LB.r_fa_p (And.intro @LB.r_fa_i (And.intro @LB.r_ld_p @LB.r_ld_i)))))))))))))))))))))))))))))))))))))))))))))))))))))))))))))))))))))))))))))))))))))
section
variable {α β : Type} {a b : α} {l m : List α} {n : Nat} {f : α → β} {g : α → Option β}
theorem ags : (a :: l)[n + 1]? = l[n]? := List.getElem?_cons_succ
theorem agz : (a :: l)[0]? = some a := List.getElem?_cons_zero
theorem agd : (some a).getD b = a := Option.getD_some
theorem agc : a :: l ++ m = a :: (l ++ m) := List.cons_append
theorem agn : [] ++ l = l := List.nil_append l
theorem agm : Option.map f (some a) = some (f a) := Option.map_some ..
theorem agb : Option.bind (some a) g = g a := Option.bind_some ..
theorem adz : l.drop 0 = l := List.drop_zero
theorem ads : (a :: l).drop (n + 1) = l.drop n := List.drop_succ_cons
theorem alc : (a :: l).length = l.length + 1 := List.length_cons
theorem aln : ([] : List α).length = 0 := List.length_nil
end
end Go.VE.LB
