/- Lattices of turned rows: kin.Ideal and the reference's. -/
import Derived.Test.YtdieenbfdeaffaaVKmQ
namespace Go.Proofs.Ytdieenbfdeaffaa.VKd
open Go Vpi
set_option maxRecDepth 100000
set_option linter.unusedSimpArgs false
set_option linter.unusedVariables false

theorem rp20 : rp 20 = some f20 := rfl
theorem rp21 : rp 21 = some f21 := rfl

def iv (z : Int) (q m i j : Nat) : Nat := otn (zst z ((j + m - i) % m)) q
def fillI (z : Int) (q m i : Nat) (r : List PV) : Nat → List PV
  | 0 => r
  | j + 1 => (fillI z q m i r j).set (m + j) (mk (decide (j < i)) (iv z q m i j))
theorem fillI_len {z : Int} {q m i j : Nat} {r : List PV} : (fillI z q m i r j).length = r.length := by
  induction j with
  | zero => rfl
  | succ j ih => simp [fillI, ih]
theorem fillI_nums {z : Int} {q m i j : Nat} {r : List PV} (h : Nums r) : Nums (fillI z q m i r j) := by
  induction j with
  | zero => exact h
  | succ j ih => exact ih.set
def irow (m q : Nat) (z : Int) (i : Nat) : List PV :=
  if i < m then fillI z q m i ((List.replicate (2 * m) (mk false 0)).set i (mk false 1)) m else (List.replicate (2 * m) (mk false 0)).set i (mk false q)
def irows (m q : Nat) (z : Int) : Nat → List PV
  | 0 => []
  | i + 1 => irows m q z i ++ [.sl (irow m q z i)]
theorem irows_len {m q : Nat} {z : Int} {i : Nat} : (irows m q z i).length = i := by
  induction i with
  | zero => rfl
  | succ i ih => simp [irows, ih]
theorem irow_len {m q i : Nat} {z : Int} : (irow m q z i).length = 2 * m := by
  unfold irow; split <;> simp [fillI_len]
theorem drw_get {z : Int} {q n i : Nat} (h : i < n) : (drw z q n)[i]? = some (.int .u64 ((otn (zst z i) q : Nat) : Int)) := by
  rw [← ot_eq]; simp [drw, h]
theorem mk_neg {v : Nat} : zi (-(v : Int)) = mk true v := by
  by_cases h : v = 0
  · subst h; simp [zi, mk]
  · have : -(v : Int) < 0 := by omega
    simp [zi, mk, h]
    omega

/-- the reference's -/
theorem p21 {m q : Nat} {z : Int} (h1 : 1 ≤ m) (h2 : m ≤ 6) (h4 : 2 ≤ q) (h5 : q ≤ 4294967296) :
    Pu rp 21 [.int .i64 ((2 * m : Nat) : Int), .int .u64 q, .int .u64 z] (.tup [.p (.sl (irows m q z (2 * m))), .p (.int .i64 0)]) := by
  refine pu_of rp21 ?_
  have e1 : ¬ ((2 * m : Nat) : Int) < 2 := by omega
  have e2 : ¬ ((2 * m : Nat) : Int) > 12 := by omega
  have e3 : (((2 * m : Nat) : Int).tmod 2 != 0) = false := by
    have : ((2 * m : Nat) : Int).tmod 2 = 0 := by rw [Int.tmod_eq_emod_of_nonneg (by omega)]; omega
    rw [this]; rfl
  have e4 : IntKind.i64.wrap (((2 * m : Nat) : Int).tdiv 2) = (m : Int) := by
    rw [Int.tdiv_eq_ediv_of_nonneg (by omega), IntWalk.i64_in _ (by omega)]; omega
  have e5 : ¬ (q : Int) < 2 := by omega
  have e6 : ¬ (q : Int) > 4294967296 := by omega
  have q1 : Pu rp 56 [.int .u64 1] (.p (mk false 1)) := p56' (v := 1) (by decide)
  have hd := p13 (z := z) (n := (m : Int)) (below := (q : Int)) (by omega) (by omega) (by omega)
  rw [Int.toNat_natCast] at hd
  simp only [f21, args0, ex_seq, ex_code, ex_blk, ex_block, ex_fg, x_reg, x_draw, x_if, x_if_b, ex_exit_blk, ex_exit_code, ex_exit_lp, x_ret, x_end, kr_some, r_nil, r_nild, ke_some, ke_if, r_mv, r_mkfn, r_pick, r_alloc, r_box, r_build, r_bslice, r_load, r_store, r_nilc, r_bin, r_beq, r_un, r_conv, r_mks, r_slice, r_fieldA, r_field, r_indexA, r_extract, r_idx, r_len,  r_copy, r_mx, r_mn, r_call, r_callv, kv_fn, r_g, kg_b, ev, List.all_nil, push_none, res_t, res_tt, res_ttt, res_n, resultsV, resL, resV, cells_int, cells_bool, cells_sl, cells_agg, mk_cells, zi_cells, ccells_p, ccells_agg, ccells_nils, ccells_own, ccells_ptr, ccells_fn, num_int, len_p, len_own, len_nils, cont_p, cont_nils, binV_add, binV_sub, binV_mul, binV_and, binV_or, binV_xor, binV_eql, binV_neq, binV_lss, binV_leq, binV_shl, binV_shr, Int.reduceLE, Int.reduceLT, binV_gtr, binV_geq, vl, gt, st, sto, fgt, i64, subPV_f, subPV_agg, subPV_mk, subCV, fill, setCells, mkAgg, allP, frz, frz1, frzL, frzs, kill, kill1, killL, kills, updPV_mk, updPV_int, updPV_sl, allSz_nil, allSz_cons, bnd, unV, bsz, toPs, toP, isPure1, pureL, List.elem, List.map_cons, List.map_nil, List.foldl_cons, List.foldl_nil, List.length_cons, List.length_nil, List.all_cons, List.all_nil, List.replicate, List.append_nil, List.nil_append, List.cons_append, List.set_cons_zero, List.set_cons_succ, List.getElem?_cons_zero, List.getElem?_cons_succ, List.take_succ_cons, List.take_zero, List.drop_succ_cons, List.drop_zero, List.take_nil, List.drop_nil, List.append_assoc, List.length_append, List.length_set, get_app0, get_app, set_app0, set_app, Option.map_some, Option.map_none, and_self, true_and, and_true, if_true, if_false, ite_true, ite_false, reduceIte, reduceCtorEq, Nat.reduceLT, Nat.reduceEqDiff, Nat.reduceAdd, Nat.reduceMul, Nat.reduceLeDiff, Nat.zero_add, Nat.add_zero, Nat.zero_mul, beq_self_eq_true, Nat.reduceBEq, Bool.false_eq_true, Bool.and_self, Bool.and_true, Bool.true_and, decide_eq_true_eq, decide_true, decide_false, Nat.le_refl, e1, e2, e3, e4, e5, e6, binV_rem (b := 2) (by decide), binV_quo (b := 2) (by decide), kp3 hd]
  refine loop_rule (β := Nat × Store × CV) (fun b => ([(0, .p (.int .i64 ((2 * m : Nat) : Int))), (1, .p (.int .u64 q)), (8, .p (.int .i64 m)), (9, .p (.sl (drw z q m))), (11, b.2.2), (12, i64 b.1)], b.2.1))
    (fun b => b.1 ≤ 2 * m ∧ Wf b.2.1 ∧ GL b.2.1 1 b.2.2 (irows m q z b.1)) (fun b => 2 * m - b.1) (0, _, .nils) rfl rfl ⟨Nat.zero_le _, Wf.nil, .nil⟩ ?_
  rintro ⟨i, σ, c⟩ ⟨hi, hwf, hgl⟩ ih
  simp only [] at hi hwf hgl ih ⊢
  by_cases hin : (i : Int) < ((2 * m : Nat) : Int)
  · simp only [ex_seq, ex_code, ex_blk, ex_block, ex_fg, x_reg, x_draw, x_if, x_if_b, ex_exit_blk, ex_exit_code, ex_exit_lp, x_ret, x_end, kr_some, r_nil, r_nild, ke_some, ke_if, r_mv, r_mkfn, r_pick, r_alloc, r_box, r_build, r_bslice, r_load, r_store, r_nilc, r_bin, r_beq, r_un, r_conv, r_mks, r_slice, r_fieldA, r_field, r_indexA, r_extract, r_idx, r_len,  r_copy, r_mx, r_mn, r_call, r_callv, kv_fn, r_g, kg_b, ev, List.all_nil, push_none, res_t, res_tt, res_ttt, res_n, resultsV, resL, resV, cells_int, cells_bool, cells_sl, cells_agg, mk_cells, zi_cells, ccells_p, ccells_agg, ccells_nils, ccells_own, ccells_ptr, ccells_fn, num_int, len_p, len_own, len_nils, cont_p, cont_nils, binV_add, binV_sub, binV_mul, binV_and, binV_or, binV_xor, binV_eql, binV_neq, binV_lss, binV_leq, binV_shl, binV_shr, Int.reduceLE, Int.reduceLT, binV_gtr, binV_geq, vl, gt, st, sto, fgt, i64, subPV_f, subPV_agg, subPV_mk, subCV, fill, setCells, mkAgg, allP, frz, frz1, frzL, frzs, kill, kill1, killL, kills, updPV_mk, updPV_int, updPV_sl, allSz_nil, allSz_cons, bnd, unV, bsz, toPs, toP, isPure1, pureL, List.elem, List.map_cons, List.map_nil, List.foldl_cons, List.foldl_nil, List.length_cons, List.length_nil, List.all_cons, List.all_nil, List.replicate, List.append_nil, List.nil_append, List.cons_append, List.set_cons_zero, List.set_cons_succ, List.getElem?_cons_zero, List.getElem?_cons_succ, List.take_succ_cons, List.take_zero, List.drop_succ_cons, List.drop_zero, List.take_nil, List.drop_nil, List.append_assoc, List.length_append, List.length_set, get_app0, get_app, set_app0, set_app, Option.map_some, Option.map_none, and_self, true_and, and_true, if_true, if_false, ite_true, ite_false, reduceIte, reduceCtorEq, Nat.reduceLT, Nat.reduceEqDiff, Nat.reduceAdd, Nat.reduceMul, Nat.reduceLeDiff, Nat.zero_add, Nat.add_zero, Nat.zero_mul, beq_self_eq_true, Nat.reduceBEq, Bool.false_eq_true, Bool.and_self, Bool.and_true, Bool.true_and, decide_eq_true_eq, decide_true, decide_false, Nat.le_refl, hin]
    refine kc_keep' (n55 (by omega) (by omega) hwf fun τ b hwτ hb hle => ?_)
    have I0 : Jnv (σ ++ τ) c _ b _ := Jnv.new hwf hgl hwτ hb hle
    clear hle hwτ hb
    generalize σ ++ τ = ρ at I0 ⊢
    have hb := I0.row
    have hil : i < 2 * m := by omega
    have hr0 : (List.replicate (2 * m) (mk false 0))[i]? = some (mk false 0) := by simp [hil]
    have hc : ∀ r, ((irows m q z i).length + [PV.sl r].length) * 24 ≤ 140737488355328 := by intro r; rw [irows_len]; simp; omega
    by_cases hik : (i : Int) ≥ m
    · have hik' : ¬ i < m := by omega
      have I1 := I0.put (row' := (List.replicate (2 * m) (mk false 0)).set i (mk false q))
      have hrow : (List.replicate (2 * m) (mk false 0)).set i (mk false q) = irow m q z i := by unfold irow; rw [if_neg hik']
      have hl := irow_len (m := m) (q := q) (i := i) (z := z)
      simp only [hrow] at I1
      simp only [ex_seq, ex_code, ex_blk, ex_block, ex_fg, x_reg, x_draw, x_if, x_if_b, ex_exit_blk, ex_exit_code, ex_exit_lp, x_ret, x_end, kr_some, r_nil, r_nild, ke_some, ke_if, r_mv, r_mkfn, r_pick, r_alloc, r_box, r_build, r_bslice, r_load, r_store, r_nilc, r_bin, r_beq, r_un, r_conv, r_mks, r_slice, r_fieldA, r_field, r_indexA, r_extract, r_idx, r_len,  r_copy, r_mx, r_mn, r_call, r_callv, kv_fn, r_g, kg_b, ev, List.all_nil, push_none, res_t, res_tt, res_ttt, res_n, resultsV, resL, resV, cells_int, cells_bool, cells_sl, cells_agg, mk_cells, zi_cells, ccells_p, ccells_agg, ccells_nils, ccells_own, ccells_ptr, ccells_fn, num_int, len_p, len_own, len_nils, cont_p, cont_nils, binV_add, binV_sub, binV_mul, binV_and, binV_or, binV_xor, binV_eql, binV_neq, binV_lss, binV_leq, binV_shl, binV_shr, Int.reduceLE, Int.reduceLT, binV_gtr, binV_geq, vl, gt, st, sto, fgt, i64, subPV_f, subPV_agg, subPV_mk, subCV, fill, setCells, mkAgg, allP, frz, frz1, frzL, frzs, kill, kill1, killL, kills, updPV_mk, updPV_int, updPV_sl, allSz_nil, allSz_cons, bnd, unV, bsz, toPs, toP, isPure1, pureL, List.elem, List.map_cons, List.map_nil, List.foldl_cons, List.foldl_nil, List.length_cons, List.length_nil, List.all_cons, List.all_nil, List.replicate, List.append_nil, List.nil_append, List.cons_append, List.set_cons_zero, List.set_cons_succ, List.getElem?_cons_zero, List.getElem?_cons_succ, List.take_succ_cons, List.take_zero, List.drop_succ_cons, List.drop_zero, List.take_nil, List.drop_nil, List.append_assoc, List.length_append, List.length_set, get_app0, get_app, set_app0, set_app, Option.map_some, Option.map_none, and_self, true_and, and_true, if_true, if_false, ite_true, ite_false, reduceIte, reduceCtorEq, Nat.reduceLT, Nat.reduceEqDiff, Nat.reduceAdd, Nat.reduceMul, Nat.reduceLeDiff, Nat.zero_add, Nat.add_zero, Nat.zero_mul, beq_self_eq_true, Nat.reduceBEq, Bool.false_eq_true, Bool.and_self, Bool.and_true, Bool.true_and, decide_eq_true_eq, decide_true, decide_false, Nat.le_refl, kp1 (p56' h5), Int.natCast_nonneg, Int.toNat_natCast, hb, hil, hr0, hik, hrow, I1.row, take_all hl, hl, r_app I1.done_gl (hc _), irows_len, IntWalk.i64_in ((i : Int) + 1) (by omega)]
      refine ih (i + 1, nd ((ρ.set b (.prow 2 (irow m q z i))).set b .dead) c ++ [.prow 1 [.sl (irow m q z i)], .prow 1 (irows m q z (i + 1))], .own (ρ.length + 1) 0 (i + 1)) _ ⟨by omega, I1.done_wf, GL.new2 irows_len.symm (by simp)⟩ (by simp; omega) ?_
      rfl
    · have hik' : i < m := by omega
      have I2 := I0.put (row' := (List.replicate (2 * m) (mk false 0)).set i (mk false 1))
      simp only [ex_seq, ex_code, ex_blk, ex_block, ex_fg, x_reg, x_draw, x_if, x_if_b, ex_exit_blk, ex_exit_code, ex_exit_lp, x_ret, x_end, kr_some, r_nil, r_nild, ke_some, ke_if, r_mv, r_mkfn, r_pick, r_alloc, r_box, r_build, r_bslice, r_load, r_store, r_nilc, r_bin, r_beq, r_un, r_conv, r_mks, r_slice, r_fieldA, r_field, r_indexA, r_extract, r_idx, r_len,  r_copy, r_mx, r_mn, r_call, r_callv, kv_fn, r_g, kg_b, ev, List.all_nil, push_none, res_t, res_tt, res_ttt, res_n, resultsV, resL, resV, cells_int, cells_bool, cells_sl, cells_agg, mk_cells, zi_cells, ccells_p, ccells_agg, ccells_nils, ccells_own, ccells_ptr, ccells_fn, num_int, len_p, len_own, len_nils, cont_p, cont_nils, binV_add, binV_sub, binV_mul, binV_and, binV_or, binV_xor, binV_eql, binV_neq, binV_lss, binV_leq, binV_shl, binV_shr, Int.reduceLE, Int.reduceLT, binV_gtr, binV_geq, vl, gt, st, sto, fgt, i64, subPV_f, subPV_agg, subPV_mk, subCV, fill, setCells, mkAgg, allP, frz, frz1, frzL, frzs, kill, kill1, killL, kills, updPV_mk, updPV_int, updPV_sl, allSz_nil, allSz_cons, bnd, unV, bsz, toPs, toP, isPure1, pureL, List.elem, List.map_cons, List.map_nil, List.foldl_cons, List.foldl_nil, List.length_cons, List.length_nil, List.all_cons, List.all_nil, List.replicate, List.append_nil, List.nil_append, List.cons_append, List.set_cons_zero, List.set_cons_succ, List.getElem?_cons_zero, List.getElem?_cons_succ, List.take_succ_cons, List.take_zero, List.drop_succ_cons, List.drop_zero, List.take_nil, List.drop_nil, List.append_assoc, List.length_append, List.length_set, get_app0, get_app, set_app0, set_app, Option.map_some, Option.map_none, and_self, true_and, and_true, if_true, if_false, ite_true, ite_false, reduceIte, reduceCtorEq, Nat.reduceLT, Nat.reduceEqDiff, Nat.reduceAdd, Nat.reduceMul, Nat.reduceLeDiff, Nat.zero_add, Nat.add_zero, Nat.zero_mul, beq_self_eq_true, Nat.reduceBEq, Bool.false_eq_true, Bool.and_self, Bool.and_true, Bool.true_and, decide_eq_true_eq, decide_true, decide_false, Nat.le_refl, kp1 q1, Int.natCast_nonneg, Int.toNat_natCast, hb, hil, hr0, hik]
      refine loop_rule (β := Nat × Store) (fun b' => ([(0, .p (.int .i64 ((2 * m : Nat) : Int))), (1, .p (.int .u64 q)), (8, .p (.int .i64 m)), (9, .p (.sl (drw z q m))), (11, c), (12, i64 i), (13, .own b 0 (2 * m)), (14, i64 b'.1)], b'.2))
        (fun b' => b'.1 ≤ m ∧ Jnv b'.2 c (irows m q z i) b (fillI z q m i ((List.replicate (2 * m) (mk false 0)).set i (mk false 1)) b'.1)) (fun b' => m - b'.1) (0, _) rfl rfl ⟨Nat.zero_le _, I2⟩ ?_
      rintro ⟨j, ρ'⟩ ⟨hj, J⟩ ih2
      simp only [] at hj J ih2 ⊢
      by_cases hjm : (j : Int) < m
      · have hkl : m + j < 2 * m := by omega
        obtain ⟨s, v, hsv⟩ := (fillI_nums (z := z) (q := q) (m := m) (i := i) (j := j) (Nums.rep.set (j := i) (s := false) (v := 1)) : Nums (fillI z q m i ((List.replicate (2 * m) (mk false 0)).set i (mk false 1)) j)) (m + j) (by rw [fillI_len]; simpa using hkl)
        have hidx : (j + m - i) % m < m := Nat.mod_lt _ (by omega)
        have hg := drw_get (z := z) (q := q) hidx
        have hlt : iv z q m i j < q := otn_lt (by omega)
        have hivd : otn (zst z ((j + m - i) % m)) q = iv z q m i j := rfl
        rw [hivd] at hg
        have w1 : IntKind.i64.wrap ((j : Int) - i) = (j : Int) - i := IntWalk.i64_in _ (by omega)
        have w2 : IntKind.i64.wrap ((j : Int) - i + m) = (j : Int) - i + m := IntWalk.i64_in _ (by omega)
        have w3 : ((j : Int) - i + m).tmod m = (((j + m - i) % m : Nat) : Int) := by
          rw [Int.tmod_eq_emod_of_nonneg (by omega)]
          have : (j : Int) - i + m = ((j + m - i : Nat) : Int) := by omega
          rw [this]
          rfl
        have w4 : IntKind.i64.wrap ((m : Int) + j) = ((m + j : Nat) : Int) := by rw [IntWalk.i64_in _ (by omega)]; omega
        have hm0 : (m : Int) ≠ 0 := by omega
        have hbl := J.lt
        have hfold : ∀ s v, PV.agg [.bool (s && decide (v ≠ 0)), .sl (lm (dgl v))] = mk s v := fun _ _ => rfl
        have hfold2 : ∀ v, PV.agg [.bool (decide (v ≠ 0)), .sl (lm (dgl v))] = mk true v := fun v => by simp [mk]
        by_cases hji : (j : Int) < i
        · have hneg := p58 (neg := false) (v := iv z q m i j) (by unfold LB; omega)
          simp only [Bool.false_and, Bool.not_false] at hneg
          have hsg : decide (j < i) = true := by simp; omega
          simp only [ex_seq, ex_code, ex_blk, ex_block, ex_fg, x_reg, x_draw, x_if, x_if_b, ex_exit_blk, ex_exit_code, ex_exit_lp, x_ret, x_end, kr_some, r_nil, r_nild, ke_some, ke_if, r_mv, r_mkfn, r_pick, r_alloc, r_box, r_build, r_bslice, r_load, r_store, r_nilc, r_bin, r_beq, r_un, r_conv, r_mks, r_slice, r_fieldA, r_field, r_indexA, r_extract, r_idx, r_len,  r_copy, r_mx, r_mn, r_call, r_callv, kv_fn, r_g, kg_b, ev, List.all_nil, push_none, res_t, res_tt, res_ttt, res_n, resultsV, resL, resV, cells_int, cells_bool, cells_sl, cells_agg, mk_cells, zi_cells, ccells_p, ccells_agg, ccells_nils, ccells_own, ccells_ptr, ccells_fn, num_int, len_p, len_own, len_nils, cont_p, cont_nils, binV_add, binV_sub, binV_mul, binV_and, binV_or, binV_xor, binV_eql, binV_neq, binV_lss, binV_leq, binV_shl, binV_shr, Int.reduceLE, Int.reduceLT, binV_gtr, binV_geq, vl, gt, st, sto, fgt, i64, subPV_f, subPV_agg, subPV_mk, subCV, fill, setCells, mkAgg, allP, frz, frz1, frzL, frzs, kill, kill1, killL, kills, updPV_mk, updPV_int, updPV_sl, allSz_nil, allSz_cons, bnd, unV, bsz, toPs, toP, isPure1, pureL, List.elem, List.map_cons, List.map_nil, List.foldl_cons, List.foldl_nil, List.length_cons, List.length_nil, List.all_cons, List.all_nil, List.replicate, List.append_nil, List.nil_append, List.cons_append, List.set_cons_zero, List.set_cons_succ, List.getElem?_cons_zero, List.getElem?_cons_succ, List.take_succ_cons, List.take_zero, List.drop_succ_cons, List.drop_zero, List.take_nil, List.drop_nil, List.append_assoc, List.length_append, List.length_set, get_app0, get_app, set_app0, set_app, Option.map_some, Option.map_none, and_self, true_and, and_true, if_true, if_false, ite_true, ite_false, reduceIte, reduceCtorEq, Nat.reduceLT, Nat.reduceEqDiff, Nat.reduceAdd, Nat.reduceMul, Nat.reduceLeDiff, Nat.zero_add, Nat.add_zero, Nat.zero_mul, beq_self_eq_true, Nat.reduceBEq, Bool.false_eq_true, Bool.and_self, Bool.and_true, Bool.true_and, decide_eq_true_eq, decide_true, decide_false, Nat.le_refl, hjm, w1, w2, w3, w4, binV_rem hm0, Int.natCast_nonneg, Int.toNat_natCast, hg, kp1 (p56' (v := iv z q m i j) (by omega)), hji, hfold, hfold2, kp1 hneg, get_left hbl, set_left hbl, J.row, hkl, hsv, IntWalk.i64_in ((j : Int) + 1) (by omega)]
          refine ih2 (j + 1, _) _ ⟨by omega, ?_⟩ (by simp; omega) ?_
          rotate_left
          · rfl
          · rw [fillI, hsg]
            exact J.put.push rfl
        · have hsg : decide (j < i) = false := by simp; omega
          simp only [ex_seq, ex_code, ex_blk, ex_block, ex_fg, x_reg, x_draw, x_if, x_if_b, ex_exit_blk, ex_exit_code, ex_exit_lp, x_ret, x_end, kr_some, r_nil, r_nild, ke_some, ke_if, r_mv, r_mkfn, r_pick, r_alloc, r_box, r_build, r_bslice, r_load, r_store, r_nilc, r_bin, r_beq, r_un, r_conv, r_mks, r_slice, r_fieldA, r_field, r_indexA, r_extract, r_idx, r_len,  r_copy, r_mx, r_mn, r_call, r_callv, kv_fn, r_g, kg_b, ev, List.all_nil, push_none, res_t, res_tt, res_ttt, res_n, resultsV, resL, resV, cells_int, cells_bool, cells_sl, cells_agg, mk_cells, zi_cells, ccells_p, ccells_agg, ccells_nils, ccells_own, ccells_ptr, ccells_fn, num_int, len_p, len_own, len_nils, cont_p, cont_nils, binV_add, binV_sub, binV_mul, binV_and, binV_or, binV_xor, binV_eql, binV_neq, binV_lss, binV_leq, binV_shl, binV_shr, Int.reduceLE, Int.reduceLT, binV_gtr, binV_geq, vl, gt, st, sto, fgt, i64, subPV_f, subPV_agg, subPV_mk, subCV, fill, setCells, mkAgg, allP, frz, frz1, frzL, frzs, kill, kill1, killL, kills, updPV_mk, updPV_int, updPV_sl, allSz_nil, allSz_cons, bnd, unV, bsz, toPs, toP, isPure1, pureL, List.elem, List.map_cons, List.map_nil, List.foldl_cons, List.foldl_nil, List.length_cons, List.length_nil, List.all_cons, List.all_nil, List.replicate, List.append_nil, List.nil_append, List.cons_append, List.set_cons_zero, List.set_cons_succ, List.getElem?_cons_zero, List.getElem?_cons_succ, List.take_succ_cons, List.take_zero, List.drop_succ_cons, List.drop_zero, List.take_nil, List.drop_nil, List.append_assoc, List.length_append, List.length_set, get_app0, get_app, set_app0, set_app, Option.map_some, Option.map_none, and_self, true_and, and_true, if_true, if_false, ite_true, ite_false, reduceIte, reduceCtorEq, Nat.reduceLT, Nat.reduceEqDiff, Nat.reduceAdd, Nat.reduceMul, Nat.reduceLeDiff, Nat.zero_add, Nat.add_zero, Nat.zero_mul, beq_self_eq_true, Nat.reduceBEq, Bool.false_eq_true, Bool.and_self, Bool.and_true, Bool.true_and, decide_eq_true_eq, decide_true, decide_false, Nat.le_refl, hjm, w1, w2, w3, w4, binV_rem hm0, Int.natCast_nonneg, Int.toNat_natCast, hg, kp1 (p56' (v := iv z q m i j) (by omega)), hji, hfold, get_left hbl, set_left hbl, J.row, hkl, hsv, IntWalk.i64_in ((j : Int) + 1) (by omega)]
          refine ih2 (j + 1, _) _ ⟨by omega, ?_⟩ (by simp; omega) ?_
          rotate_left
          · rfl
          · rw [fillI, hsg]
            exact J.put.push rfl
      · have hmm : j = m := by omega
        have hrow : fillI z q m i ((List.replicate (2 * m) (mk false 0)).set i (mk false 1)) j = irow m q z i := by unfold irow; rw [if_pos hik', hmm]
        rw [hrow] at J
        have hl := irow_len (m := m) (q := q) (i := i) (z := z)
        simp only [ex_seq, ex_code, ex_blk, ex_block, ex_fg, x_reg, x_draw, x_if, x_if_b, ex_exit_blk, ex_exit_code, ex_exit_lp, x_ret, x_end, kr_some, r_nil, r_nild, ke_some, ke_if, r_mv, r_mkfn, r_pick, r_alloc, r_box, r_build, r_bslice, r_load, r_store, r_nilc, r_bin, r_beq, r_un, r_conv, r_mks, r_slice, r_fieldA, r_field, r_indexA, r_extract, r_idx, r_len,  r_copy, r_mx, r_mn, r_call, r_callv, kv_fn, r_g, kg_b, ev, List.all_nil, push_none, res_t, res_tt, res_ttt, res_n, resultsV, resL, resV, cells_int, cells_bool, cells_sl, cells_agg, mk_cells, zi_cells, ccells_p, ccells_agg, ccells_nils, ccells_own, ccells_ptr, ccells_fn, num_int, len_p, len_own, len_nils, cont_p, cont_nils, binV_add, binV_sub, binV_mul, binV_and, binV_or, binV_xor, binV_eql, binV_neq, binV_lss, binV_leq, binV_shl, binV_shr, Int.reduceLE, Int.reduceLT, binV_gtr, binV_geq, vl, gt, st, sto, fgt, i64, subPV_f, subPV_agg, subPV_mk, subCV, fill, setCells, mkAgg, allP, frz, frz1, frzL, frzs, kill, kill1, killL, kills, updPV_mk, updPV_int, updPV_sl, allSz_nil, allSz_cons, bnd, unV, bsz, toPs, toP, isPure1, pureL, List.elem, List.map_cons, List.map_nil, List.foldl_cons, List.foldl_nil, List.length_cons, List.length_nil, List.all_cons, List.all_nil, List.replicate, List.append_nil, List.nil_append, List.cons_append, List.set_cons_zero, List.set_cons_succ, List.getElem?_cons_zero, List.getElem?_cons_succ, List.take_succ_cons, List.take_zero, List.drop_succ_cons, List.drop_zero, List.take_nil, List.drop_nil, List.append_assoc, List.length_append, List.length_set, get_app0, get_app, set_app0, set_app, Option.map_some, Option.map_none, and_self, true_and, and_true, if_true, if_false, ite_true, ite_false, reduceIte, reduceCtorEq, Nat.reduceLT, Nat.reduceEqDiff, Nat.reduceAdd, Nat.reduceMul, Nat.reduceLeDiff, Nat.zero_add, Nat.add_zero, Nat.zero_mul, beq_self_eq_true, Nat.reduceBEq, Bool.false_eq_true, Bool.and_self, Bool.and_true, Bool.true_and, decide_eq_true_eq, decide_true, decide_false, Nat.le_refl, hjm, J.row, take_all hl, hl, r_app J.done_gl (hc _), irows_len, IntWalk.i64_in ((i : Int) + 1) (by omega)]
        refine ih (i + 1, nd (ρ'.set b .dead) c ++ [.prow 1 [.sl (irow m q z i)], .prow 1 (irows m q z (i + 1))], .own (ρ'.length + 1) 0 (i + 1)) _ ⟨by omega, J.done_wf, GL.new2 irows_len.symm (List.length_set ..).symm⟩ (by simp; omega) ?_
        rfl
  · simp only [ex_seq, ex_code, ex_blk, ex_block, ex_fg, x_reg, x_draw, x_if, x_if_b, ex_exit_blk, ex_exit_code, ex_exit_lp, x_ret, x_end, kr_some, r_nil, r_nild, ke_some, ke_if, r_mv, r_mkfn, r_pick, r_alloc, r_box, r_build, r_bslice, r_load, r_store, r_nilc, r_bin, r_beq, r_un, r_conv, r_mks, r_slice, r_fieldA, r_field, r_indexA, r_extract, r_idx, r_len,  r_copy, r_mx, r_mn, r_call, r_callv, kv_fn, r_g, kg_b, ev, List.all_nil, push_none, res_t, res_tt, res_ttt, res_n, resultsV, resL, resV, cells_int, cells_bool, cells_sl, cells_agg, mk_cells, zi_cells, ccells_p, ccells_agg, ccells_nils, ccells_own, ccells_ptr, ccells_fn, num_int, len_p, len_own, len_nils, cont_p, cont_nils, binV_add, binV_sub, binV_mul, binV_and, binV_or, binV_xor, binV_eql, binV_neq, binV_lss, binV_leq, binV_shl, binV_shr, Int.reduceLE, Int.reduceLT, binV_gtr, binV_geq, vl, gt, st, sto, fgt, i64, subPV_f, subPV_agg, subPV_mk, subCV, fill, setCells, mkAgg, allP, frz, frz1, frzL, frzs, kill, kill1, killL, kills, updPV_mk, updPV_int, updPV_sl, allSz_nil, allSz_cons, bnd, unV, bsz, toPs, toP, isPure1, pureL, List.elem, List.map_cons, List.map_nil, List.foldl_cons, List.foldl_nil, List.length_cons, List.length_nil, List.all_cons, List.all_nil, List.replicate, List.append_nil, List.nil_append, List.cons_append, List.set_cons_zero, List.set_cons_succ, List.getElem?_cons_zero, List.getElem?_cons_succ, List.take_succ_cons, List.take_zero, List.drop_succ_cons, List.drop_zero, List.take_nil, List.drop_nil, List.append_assoc, List.length_append, List.length_set, get_app0, get_app, set_app0, set_app, Option.map_some, Option.map_none, and_self, true_and, and_true, if_true, if_false, ite_true, ite_false, reduceIte, reduceCtorEq, Nat.reduceLT, Nat.reduceEqDiff, Nat.reduceAdd, Nat.reduceMul, Nat.reduceLeDiff, Nat.zero_add, Nat.add_zero, Nat.zero_mul, beq_self_eq_true, Nat.reduceBEq, Bool.false_eq_true, Bool.and_self, Bool.and_true, Bool.true_and, decide_eq_true_eq, decide_true, decide_false, Nat.le_refl, hin]
    have : i = 2 * m := by omega
    subst this
    exact back_t2 hgl.back1 back1_p

end Go.Proofs.Ytdieenbfdeaffaa.VKd
