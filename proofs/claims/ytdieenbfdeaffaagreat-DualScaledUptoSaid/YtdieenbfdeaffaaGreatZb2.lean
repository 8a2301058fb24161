/- nat.Div, the general case; Whole numbers with a sign: zint; The reference's naturals: limb, most, Cmp, Add, less, Sub, Mul; The reference's naturals: less, Sub, Mul; The reference's naturals: Bits, Two, Shr, small; The reference's Div; The reference's whole numbers with a sign; The reference's rationals; Elimination in whole numbers: plain facts about determinants, no program in sight; Elimination without fractions stays whole: plain facts, no program in sight; Dot products; Shapes; gso.built; gso.Valid; The reference's frame. No condition. -/
import Derived.Test.YtdieenbfdeaffaaGreatZb1
import Derived.Test.YtdieenbfdeaffaaGreatZa1

namespace Go.Proofs.YtdieenbfdeaffaaGreat.VBn
open Go Vpi
set_option maxRecDepth 100000
set_option linter.unusedSimpArgs false
set_option linter.unusedVariables false
theorem kf_win {rs : List RRes} {base : Nat} {d : Option Nat} {l : List LOp} {dr : Dr} {ks : List KI} {e : Env} {σ : Store} {Q : CV → Store → Prop} {f b n : Nat} {es : List PV} {r : CV} (h : Pu rp f [.sl es] r) (hf : frz1 σ (.own b 0 n) = some (.sl es)) :
    KC rp rs base .fz f [.own b 0 n] d l dr ks e σ Q = ExR rp rs base l dr ks (sto d r e) (σ.set b .dead) Q :=
  kc_fz h (by simp only [frzs, frz, hf, Option.map_some])
structure DivI (A V m k : Nat) (i : Nat) (F q : List Nat) : Prop where
  hi : i ≤ m - k + 1
  ql : q.length = m - k + 1 - i
  qL : Lim q
  fl : m + 1 ≤ F.length
  fL : Lim F
  eq : val (F.take (m + 1)) + LB ^ i * (val q * V) = A
  lt : val (F.take (m + 1)) < V * LB ^ i
theorem DivI.split {A V m k j : Nat} {F q : List Nat} (h : DivI A V m k (j + 1) F q) (hk : k ≤ m) (hV : V < LB ^ k) :
    val (F.take (m + 1)) = val (F.take j) + LB ^ j * val ((F.drop j).take (k + 1)) ∧ val ((F.drop j).take (k + 1)) < LB * V ∧ val ((F.drop (j + (k + 1))).take (m + 1 - (j + (k + 1)))) = 0 := by
  have hj : j + (k + 1) ≤ m + 1 := by have := h.hi; omega
  have e1 : F.take (m + 1) = F.take j ++ ((F.drop j).take (k + 1) ++ (F.drop (j + (k + 1))).take (m + 1 - (j + (k + 1)))) := by
    rw [← List.drop_drop, ← List.take_add, ← List.take_add]
    congr 1
    omega
  have hfl := h.fl
  have l1 : (F.take j).length = j := by rw [List.length_take]; omega
  have l2 : ((F.drop j).take (k + 1)).length = k + 1 := by rw [List.length_take, List.length_drop]; omega
  have hv : val (F.take (m + 1)) = val (F.take j) + LB ^ j * (val ((F.drop j).take (k + 1)) + LB ^ (k + 1) * val ((F.drop (j + (k + 1))).take (m + 1 - (j + (k + 1))))) := by
    rw [e1, val_append, val_append, l1, l2]
  have hlt := h.lt
  have hz : val ((F.drop (j + (k + 1))).take (m + 1 - (j + (k + 1)))) = 0 := by
    rcases Nat.eq_zero_or_pos (val ((F.drop (j + (k + 1))).take (m + 1 - (j + (k + 1))))) with h0 | h0
    · exact h0
    · exfalso
      have h1 : LB ^ (k + 1) ≤ LB ^ (k + 1) * val ((F.drop (j + (k + 1))).take (m + 1 - (j + (k + 1)))) := Nat.le_mul_of_pos_right _ h0
      have h2 : LB ^ j * LB ^ (k + 1) ≤ val (F.take (m + 1)) := by
        rw [hv]
        exact Nat.le_trans (Nat.mul_le_mul_left _ (Nat.le_trans h1 (Nat.le_add_left _ _))) (Nat.le_add_left _ _)
      have h3 : V * LB ^ (j + 1) ≤ LB ^ k * LB ^ (j + 1) := Nat.mul_le_mul_right _ (Nat.le_of_lt hV)
      rw [← Nat.pow_add] at h2 h3
      rw [show k + (j + 1) = j + (k + 1) by omega] at h3
      exact absurd (Nat.lt_of_lt_of_le (Nat.lt_of_le_of_lt h2 hlt) h3) (Nat.lt_irrefl _)
  rw [hz, Nat.mul_zero, Nat.add_zero] at hv
  refine ⟨hv, ?_, hz⟩
  have h4 : LB ^ j * val ((F.drop j).take (k + 1)) < LB ^ j * (LB * V) := by
    have : V * LB ^ (j + 1) = LB ^ j * (LB * V) := by rw [Nat.pow_succ, Nat.mul_comm, Nat.mul_assoc]
    rw [← this]
    exact Nat.lt_of_le_of_lt (by rw [hv]; exact Nat.le_add_left _ _) hlt
  exact Nat.lt_of_mul_lt_mul_left h4
theorem DivI.step {A V m k j : Nat} {F q W : List Nat} (h : DivI A V m k (j + 1) F q) (hk : k ≤ m) (hV : V < LB ^ k) (hV0 : 0 < V) (hVB : val ((F.drop j).take (k + 1)) / V < LB)
    (hWl : W.length = k + 1) (hWL : Lim W) (hWv : val W = val ((F.drop j).take (k + 1)) % V) :
    DivI A V m k j (F.take j ++ (W ++ F.drop (j + (k + 1)))) (val ((F.drop j).take (k + 1)) / V :: q) := by
  obtain ⟨hv, hlt, hz⟩ := h.split hk hV
  have hi := h.hi
  have hfl := h.fl
  have l1 : (F.take j).length = j := by rw [List.length_take]; omega
  have hval : val ((F.take j ++ (W ++ F.drop (j + (k + 1)))).take (m + 1)) = val (F.take j) + LB ^ j * val W := by
    rw [List.take_append, List.take_append, l1, hWl, List.take_of_length_le (l := F.take j) (by omega), List.take_of_length_le (l := W) (by omega), val_append, val_append, l1, hWl, show m + 1 - j - (k + 1) = m + 1 - (j + (k + 1)) by omega, hz, Nat.mul_zero, Nat.add_zero]
  have hdm := Nat.mod_add_div (val ((F.drop j).take (k + 1))) V
  have hP := val_lt (h.fL.take (n := j))
  rw [l1] at hP
  refine ⟨by omega, by rw [List.length_cons, h.ql]; omega, ?_, by rw [List.length_append, List.length_append, l1, hWl, List.length_drop]; omega, (h.fL.take).append (hWL.append h.fL.drop), ?_, ?_⟩
  · intro y hy
    rcases List.mem_cons.1 hy with rfl | hy
    · exact hVB
    · exact h.qL y hy
  · rw [hval, hWv, val, ← h.eq, hv]
    generalize val ((F.drop j).take (k + 1)) = w at *
    have g1 : LB ^ j * w = LB ^ j * (w % V) + LB ^ j * (V * (w / V)) := by rw [← Nat.mul_add, hdm]
    have g2 : (w / V + LB * val q) * V = V * (w / V) + LB * (val q * V) := by rw [Nat.add_mul, Nat.mul_comm (w / V), Nat.mul_assoc]
    have g3 : LB ^ (j + 1) * (val q * V) = LB ^ j * (LB * (val q * V)) := by rw [Nat.pow_succ, Nat.mul_assoc]
    rw [g1, g2, g3, Nat.mul_add]
    omega
  · rw [hval, hWv, Nat.mul_comm V]
    have h1 := Nat.mod_lt (val ((F.drop j).take (k + 1))) hV0
    have h2 : LB ^ j * (val ((F.drop j).take (k + 1)) % V + 1) ≤ LB ^ j * V := Nat.mul_le_mul_left _ h1
    rw [Nat.mul_add, Nat.mul_one] at h2
    omega
theorem p159g {a b : List Nat} (ha : Lim a) (hb : Lim b) (hna : a.length ≤ 400000000000) (hnb : b.length ≤ 400000000000) (hge : val b ≤ val a) (h1 : 2 ≤ (dgl (val b)).length) :
    Pu rp 134 [.sl (lm a), .sl (lm b)] (.tup [.p (.sl (lm (dgl (val a / val b)))), .p (.sl (lm (dgl (val a % val b)))), .p (.int .i64 0)]) := by
  refine pu_of rp159 ?_
  have hda : (dgl (val a)).length ≤ a.length := dgl_len (val_lt ha)
  have hdb : (dgl (val b)).length ≤ b.length := dgl_len (val_lt hb)
  have hne : val b ≠ 0 := by intro h; rw [h, dgl_zero] at h1; simp at h1
  have hnea : val a ≠ 0 := by omega
  have k1 := p144 ha (by omega)
  have k2 := p144 hb (by omega)
  have hc := p177 (dgl_lim (val a)) (dgl_lim (val b)) (by omega) (by omega)
  rw [val_dgl, val_dgl] at hc
  have hkm : (dgl (val b)).length ≤ (dgl (val a)).length := dgl_len_mono hge
  obtain ⟨t, ht⟩ : ∃ t, (dgl (val b))[(dgl (val b)).length - 1]? = some t := ⟨_, List.getElem?_eq_getElem (by omega)⟩
  obtain ⟨n, hn⟩ : ∃ n, n = 32 - bl t := ⟨_, rfl⟩
  obtain ⟨hvl, hn32, ht0⟩ := norm_len hne ht hn
  have htB : t < LB := by
    have := (dgl_lim (val b)).get (show (dgl (val b)).length - 1 < (dgl (val b)).length by omega)
    rw [List.getElem?_eq_getElem (by omega), Option.some.injEq] at ht
    omega
  have h185 := p185 htB
  rw [← hn] at h185
  have s1 := p186 (n := n) (dgl_lim (val b)) (by omega) hn32 (by rw [val_dgl]; exact hne)
  rw [val_dgl] at s1
  have s2 := fun {Q} => n186 (n := n) (dgl_lim (val a)) (by omega) hn32 (by rw [val_dgl]; exact hnea) Wf.nil (Q := Q)
  simp only [val_dgl] at s2
  have hlx : (dgl (val a)).length ≤ 400000000000 := by omega
  have hly : (dgl (val b)).length ≤ 400000000000 := by omega
  -- the lists
  generalize hx : dgl (val a) = x at *
  generalize hy : dgl (val b) = y at *
  have e0 : ((y.length : Int) == 0) = false := by rw [beq_eq_false_iff_ne]; omega
  have e1 : ((y.length : Int) == 1) = false := by rw [beq_eq_false_iff_ne]; omega
  have hci : ¬ cmpI (val a) (val b) < 0 := by rw [lt_of_cmp]; omega
  have w1 : IntKind.i64.wrap ((y.length : Int) - 1) = ((y.length - 1 : Nat) : Int) := by rw [IntWalk.i64_in _ (by omega)]; omega
  have gt0 := lm_get? ht
  simp only [f134, args0, S1, S2, S3, S4, S5, r_idx, r_mks, ev, resultsV, resL, resV, vl, gt, st, sto, fgt, i64, subCV, fill, mkAgg, allP, bnd, unV, bsz, toPs, toP, isPure1, pureL, List.elem, List.replicate, frz, frz1, frzL, frzs, kill, kill1, killL, kills, setCells, Int.reduceLE, Int.reduceLT, ↓reduceIte, reduceCtorEq, Nat.reduceLT, Nat.reduceEqDiff, Nat.reduceAdd, Nat.reduceMul, Nat.reduceLeDiff, Nat.reduceBEq, kp1 k1, kp1 k2, lm_len, e0, e1, kp2 hc, hci, w1, gt0, kp1 h185, kp2 s1, Int.natCast_nonneg, Int.toNat_natCast]
  refine kc_keep' (s2 fun L kk hL hkk hLl htk hwf => ?_)
  generalize hD : dgl (val a * 2 ^ n) = D at htk
  have hDl : D.length = kk := by rw [← htk, List.length_take]; omega
  have hlen : (x.length ≤ D.length ∧ D.length ≤ x.length + 1) := by
    constructor
    · rw [← hx, ← hD]; exact dgl_len_mono (Nat.le_mul_of_pos_right _ (Nat.pow_pos (by decide)))
    · rw [← hD]
      refine dgl_len ?_
      have h1 := val_lt (dgl_lim (val a))
      rw [val_dgl, hx] at h1
      have h2 : 2 ^ n ≤ LB := by rw [LB_split (n := n) (by omega)]; exact Nat.le_mul_of_pos_left _ (Nat.pow_pos (by decide))
      rw [Nat.pow_succ]
      exact Nat.mul_lt_mul_of_lt_of_le h1 h2 LB_pos
  have hDL : Lim D := by rw [← hD]; exact dgl_lim _
  have c1 : content [Blk.prow 1 (lm L), Blk.prow 1 [.int .u32 0, .int .u32 0]] (.own 0 0 kk) = some (lm D) := by
    simp only [content, List.getElem?_cons_zero, Nat.zero_add, lm_len, hkk, if_true, List.drop_zero, lm_take, htk]
  have c2 : content [Blk.prow 1 (lm L), Blk.prow 1 [.int .u32 0, .int .u32 0]] (.own 1 0 2) = some [.int .u32 0, .int .u32 0] := rfl
  have m1 : (D.length + 2) * 4 ≤ 140737488355328 := by omega
  have w2 : IntKind.i64.wrap ((x.length : Int) + 1) = ((x.length + 1 : Nat) : Int) := by rw [IntWalk.i64_in _ (by omega)]; omega
  have w3 : IntKind.i64.wrap ((x.length : Int) - y.length) = ((x.length - y.length : Nat) : Int) := by rw [IntWalk.i64_in _ (by omega)]; omega
  have w4 : IntKind.i64.wrap (((x.length - y.length : Nat) : Int) + 1) = ((x.length - y.length + 1 : Nat) : Int) := by rw [IntWalk.i64_in _ (by omega)]; omega
  have m2 : x.length + 1 ≤ D.length + 2 := by omega
  have m3 : ((4 : Nat) : Int) * ((x.length - y.length + 1 : Nat) : Int) ≤ 281474976710656 := by omega
  have m4 : ((x.length - y.length + 1 : Nat) : Int) ≤ 9223372036854775807 := by omega
  have a1 : lm D ++ [PV.int .u32 0, .int .u32 0] = lm (D ++ [0, 0]) := by rw [← lm_append]; rfl
  simp only [S1, S2, S3, S4, S5, r_idx, r_mks, ev, resultsV, resL, resV, vl, gt, st, sto, fgt, i64, subCV, fill, mkAgg, allP, bnd, unV, bsz, toPs, toP, isPure1, pureL, List.elem, List.replicate, frz, frz1, frzL, frzs, kill, kill1, killL, kills, setCells, Int.reduceLE, Int.reduceLT, ↓reduceIte, reduceCtorEq, Nat.reduceLT, Nat.reduceEqDiff, Nat.reduceAdd, Nat.reduceMul, Nat.reduceLeDiff, Nat.reduceBEq, r_append, c1, c2, m1, lm_len, a1, w2, w3, w4, Int.natCast_nonneg, Int.toNat_natCast, sliceV, Nat.zero_le, m2, bsz, Nat.sub_zero, m3, m4, Int.le_refl, lm_rep]
  have hj0 : ((x.length - y.length + 1 : Nat) : Int) - 1 = ((x.length - y.length : Nat) : Int) := by omega
  have hbn : val b * 2 ^ n ≠ 0 := Nat.mul_ne_zero hne (Nat.ne_of_gt (Nat.pow_pos (by decide)))
  generalize hv : dgl (val b * 2 ^ n) = v at *
  have hvL : Lim v := by rw [← hv]; exact dgl_lim _
  have hV : val v = val b * 2 ^ n := by rw [← hv, val_dgl]
  have hVlt : val v < LB ^ y.length := by rw [← hvl]; exact val_lt hvL
  have htop : v[v.length - 1]'(by omega) ≠ 0 := by
    simp only [← hv]
    exact (norm_len hbn (List.getElem?_eq_getElem (by have := List.length_pos_iff.2 (dgl_ne hbn); omega)) rfl).2.2
  have hDv : val D = val a * 2 ^ n := by rw [← hD, val_dgl]
  have hI0 : DivI (val a * 2 ^ n) (val v) x.length y.length (x.length - y.length + 1) (D ++ [0, 0]) [] := by
    have t1 : (D ++ [0, 0]).take (x.length + 1) = D ++ List.replicate (x.length + 1 - D.length) 0 := by
      rw [List.take_append, List.take_of_length_le (by omega)]
      congr 1
      rcases (show x.length + 1 - D.length = 0 ∨ x.length + 1 - D.length = 1 by omega) with h | h <;> rw [h] <;> rfl
    have t2 : val ((D ++ [0, 0]).take (x.length + 1)) = val a * 2 ^ n := by
      rw [t1, val_append, val_rep, Nat.mul_zero, Nat.add_zero, hDv]
    have g1 : LB ^ (y.length - 1) ≤ val b := by
      rcases Nat.lt_or_ge (val b) (LB ^ (y.length - 1)) with h | h
      · have := dgl_len h; rw [hy] at this; omega
      · exact h
    have g2 : val a < LB ^ x.length := by have := val_lt (dgl_lim (val a)); rwa [val_dgl, hx] at this
    have g3 : LB ^ x.length = LB ^ (y.length - 1) * LB ^ (x.length - y.length + 1) := by rw [← Nat.pow_add]; congr 1; omega
    have g4 : val a < val b * LB ^ (x.length - y.length + 1) := Nat.lt_of_lt_of_le g2 (by rw [g3]; exact Nat.mul_le_mul_right _ g1)
    have hll : (D ++ [0, 0]).length = D.length + 2 := by rw [List.length_append]; rfl
    have hL2 : Lim (D ++ [0, 0]) := hDL.append (by intro y hy; simp at hy; rw [hy]; exact LB_pos)
    refine ⟨Nat.le_refl _, by rw [Nat.sub_self]; rfl, (fun _ h => by cases h), by rw [hll]; omega, hL2, by rw [t2]; simp [val], ?_⟩
    rw [t2, hV, Nat.mul_right_comm]
    exact Nat.mul_lt_mul_of_pos_right g4 (Nat.pow_pos (by decide))
  refine loop_rule (β := Nat × List Nat × List Nat) (fun t => ([(9, .p (.int .i64 (n : Int))), (10, .p (.sl (lm v))), (11, .own 2 0 (x.length + 1)), (12, .own 3 0 (x.length - y.length + 1)), (13, i64 ((t.1 : Int) - 1))],
      [.dead, .prow 1 [.int .u32 0, .int .u32 0], .prow 1 (lm t.2.1), .prow 1 (lm (List.replicate t.1 0 ++ t.2.2))]))
    (fun t => DivI (val a * 2 ^ n) (val v) x.length y.length t.1 t.2.1 t.2.2) (fun t => t.1) ((x.length - y.length + 1, D ++ [0, 0], []) : Nat × List Nat × List Nat) (by dsimp only; rw [hj0]; rfl) (by simp [List.replicate_succ]) hI0 ?_
  rintro ⟨i, F, q⟩ hI ih
  simp only [] at hI ih ⊢
  cases i with
  | zero =>
    have hneg : ¬ (((0 : Nat) : Int) - 1 ≥ 0) := by omega
    have htq := p144 hI.qL (by have := hI.ql; omega)
    have hFl := hI.fl
    have hFtl : (F.take (x.length + 1)).length = x.length + 1 := by rw [List.length_take]; omega
    have htf := p144 (l := F.take (x.length + 1)) hI.fL.take (by omega)
    have hval := hI.eq
    have hlt := hI.lt
    rw [Nat.pow_zero, Nat.one_mul, hV] at hval
    rw [Nat.pow_zero, Nat.mul_one, hV] at hlt
    have hp : 0 < val b * 2 ^ n := Nat.pos_of_ne_zero hbn
    have h2p : 0 < 2 ^ n := Nat.pow_pos (by decide)
    have q1 : val q = val a / val b := by
      rw [← Nat.mul_div_mul_right (val a) (val b) h2p, ← hval, Nat.add_mul_div_right _ _ hp, Nat.div_eq_of_lt hlt, Nat.zero_add]
    have q2 : val (F.take (x.length + 1)) / 2 ^ n = val a % val b := by
      have : val a * 2 ^ n % (val b * 2 ^ n) = val (F.take (x.length + 1)) := by rw [← hval, Nat.add_mul_mod_self_right, Nat.mod_eq_of_lt hlt]
      rw [← this, Nat.mul_mod_mul_right, Nat.mul_div_cancel _ h2p]
    have h188 := p188 (n := n) (dgl_lim (val (F.take (x.length + 1)))) (by have := dgl_len (val_lt (hI.fL.take (n := x.length + 1))); omega) hn32
    rw [val_dgl, q2] at h188
    rw [q1] at htq
    have hfz : frz1 [Blk.dead, Blk.prow 1 [.int .u32 0, .int .u32 0], Blk.prow 1 (lm F), Blk.dead] (.own 2 0 (x.length + 1)) = some (.sl (lm (F.take (x.length + 1)))) := by
      simp only [frz1, List.getElem?_cons_succ, List.getElem?_cons_zero, Nat.zero_add, lm_len, hFl, if_true, List.drop_zero, lm_take]
    have hqe : x.length - y.length + 1 = (lm q).length := by rw [lm_len, hI.ql]; omega
    have hq0 : List.replicate 0 0 ++ q = q := rfl
    simp only [S1, S2, S3, S4, S5, r_idx, r_mks, ev, resultsV, resL, resV, vl, gt, st, sto, fgt, i64, subCV, fill, mkAgg, allP, bnd, unV, bsz, toPs, toP, isPure1, pureL, List.elem, List.replicate, frz, frz1, frzL, frzs, kill, kill1, killL, kills, setCells, Int.reduceLE, Int.reduceLT, ↓reduceIte, reduceCtorEq, Nat.reduceLT, Nat.reduceEqDiff, Nat.reduceAdd, Nat.reduceMul, Nat.reduceLeDiff, Nat.reduceBEq, hneg, hq0]
    rw [kf_own htq rfl hqe]
    simp only [S1, S2, S3, S4, S5, r_idx, r_mks, ev, resultsV, resL, resV, vl, gt, st, sto, fgt, i64, subCV, fill, mkAgg, allP, bnd, unV, bsz, toPs, toP, isPure1, pureL, List.elem, List.replicate, frz, frz1, frzL, frzs, kill, kill1, killL, kills, setCells, Int.reduceLE, Int.reduceLT, ↓reduceIte, reduceCtorEq, Nat.reduceLT, Nat.reduceEqDiff, Nat.reduceAdd, Nat.reduceMul, Nat.reduceLeDiff, Nat.reduceBEq]
    rw [kf_win htf hfz]
    simp only [S1, S2, S3, S4, S5, r_idx, r_mks, ev, resultsV, resL, resV, vl, gt, st, sto, fgt, i64, subCV, fill, mkAgg, allP, bnd, unV, bsz, toPs, toP, isPure1, pureL, List.elem, List.replicate, frz, frz1, frzL, frzs, kill, kill1, killL, kills, setCells, Int.reduceLE, Int.reduceLT, ↓reduceIte, reduceCtorEq, Nat.reduceLT, Nat.reduceEqDiff, Nat.reduceAdd, Nat.reduceMul, Nat.reduceLeDiff, Nat.reduceBEq, kp2 h188]
    exact back_t3 back1_p back1_p back1_p
  | succ j =>
    have hge0 : ((j + 1 : Nat) : Int) - 1 ≥ 0 := by omega
    have hje : ((j + 1 : Nat) : Int) - 1 = (j : Int) := by omega
    have hi := hI.hi
    obtain ⟨hsp, hW0, hz⟩ := hI.split hkm hVlt
    have hFl := hI.fl
    have hVp : 0 < val v := by rw [hV]; exact Nat.pos_of_ne_zero hbn
    have hWq : val ((F.drop j).take (y.length + 1)) / val v < LB := (Nat.div_lt_iff_lt_mul hVp).2 hW0
    have hstep := fun W h1 h2 h3 => hI.step (W := W) hkm hVlt hVp hWq h1 h2 h3
    obtain ⟨P, hP⟩ : ∃ P, P = F.take j := ⟨_, rfl⟩
    obtain ⟨W0, hW⟩ : ∃ W0, W0 = (F.drop j).take (y.length + 1) := ⟨_, rfl⟩
    obtain ⟨T, hT⟩ : ∃ T, T = F.drop (j + (y.length + 1)) := ⟨_, rfl⟩
    rw [← hP, ← hW, ← hT] at hstep
    rw [← hW] at hW0 hWq
    have hFe : F = P ++ (W0 ++ T) := by rw [hP, hW, hT, ← List.drop_drop, List.take_append_drop, List.take_append_drop]
    have hPl : P.length = j := by rw [hP, List.length_take]; omega
    have hW0l : W0.length = v.length + 1 := by rw [hW, List.length_take, List.length_drop]; omega
    have hW0L : Lim W0 := by rw [hW]; exact hI.fL.drop.take
    have hwf0 : Wf [Blk.dead, Blk.prow 1 [PV.int .u32 0, PV.int .u32 0], Blk.dead, Blk.prow 1 (lm (List.replicate (j + 1) 0 ++ q))] := by
      intro x hx
      simp only [List.mem_cons, List.not_mem_nil, or_false] at hx
      rcases hx with rfl | rfl | rfl | rfl <;> rfl
    have k187' := fun {rs base d l dr ks e Q} h => k187 (P := P) (T := T) (off := j) (b := 2) (W0 := W0) (v := v) (σ := [Blk.dead, Blk.prow 1 [PV.int .u32 0, PV.int .u32 0], Blk.dead, Blk.prow 1 (lm (List.replicate (j + 1) 0 ++ q))]) (rs := rs) (base := base) (d := d) (l := l) (dr := dr) (ks := ks) (e := e) (Q := Q) (by simp) hwf0 hPl hvL (by omega) (by omega) hW0L hW0l htop hW0 h
    rw [hvl] at k187'
    have hje2 : ((x.length - y.length + 1 : Nat) : Int) = (x.length - y.length : Nat) + 1 := by omega
    have w5 : IntKind.i64.wrap ((j : Int) + y.length) = ((j + y.length : Nat) : Int) := by rw [IntWalk.i64_in _ (by omega)]; omega
    have w6 : IntKind.i64.wrap (((j + y.length : Nat) : Int) + 1) = ((j + y.length + 1 : Nat) : Int) := by rw [IntWalk.i64_in _ (by omega)]; omega
    have e3 : j + y.length + 1 - j = y.length + 1 := by omega
    have e4 : j ≤ j + y.length + 1 := by omega
    have e5 : j + y.length + 1 ≤ x.length + 1 := by omega
    have hjm : j < x.length - y.length + 1 := by omega
    have hset : (0 :: (List.replicate j 0 ++ q)).set j (val W0 / val v) = List.replicate j 0 ++ (val W0 / val v :: q) := by
      rw [← List.cons_append, ← List.replicate_succ, List.replicate_succ', List.append_assoc]
      rw [List.set_append_right _ _ (by rw [List.length_replicate]; omega), List.length_replicate, Nat.sub_self]
      rfl
    simp only [S1, S2, S3, S4, S5, r_idx, r_mks, ev, resultsV, resL, resV, vl, gt, st, sto, fgt, i64, subCV, fill, mkAgg, allP, bnd, unV, bsz, toPs, toP, isPure1, pureL, List.elem, List.replicate, frz, frz1, frzL, frzs, kill, kill1, killL, kills, setCells, Int.reduceLE, Int.reduceLT, ↓reduceIte, reduceCtorEq, Nat.reduceLT, Nat.reduceEqDiff, Nat.reduceAdd, Nat.reduceMul, Nat.reduceLeDiff, Nat.reduceBEq, hge0, hje, lm_len, hvl, w5, w6, sliceV, e4, e5, e3, bsz, Int.natCast_nonneg, Int.toNat_natCast]
    rw [hFe]
    refine k187' fun W h1 h2 h3 => ?_
    have hql : 0 < (lm (0 :: (List.replicate j 0 ++ q))).length := by simp [lm]
    have w7 : IntKind.i64.wrap ((j : Int) - 1) = (j : Int) - 1 := IntWalk.i64_in _ (by omega)
    have hJ := hstep W (by rw [h1]) h2 h3
    have hget : (lm (0 :: (List.replicate j 0 ++ q)))[j]? = some (.int .u32 ((0 : Nat) : Int)) := lm_get? (by
      rw [← List.cons_append, ← List.replicate_succ, List.getElem?_append_left (by rw [List.length_replicate]; omega), List.getElem?_replicate, if_pos (Nat.lt_succ_self _)])
    simp only [S1, S2, S3, S4, S5, r_idx, r_mks, ev, resultsV, resL, resV, vl, gt, st, sto, fgt, i64, subCV, fill, mkAgg, allP, bnd, unV, bsz, toPs, toP, isPure1, pureL, List.elem, List.replicate, frz, frz1, frzL, frzs, kill, kill1, killL, kills, setCells, Int.reduceLE, Int.reduceLT, ↓reduceIte, reduceCtorEq, Nat.reduceLT, Nat.reduceEqDiff, Nat.reduceAdd, Nat.reduceMul, Nat.reduceLeDiff, Nat.reduceBEq, hjm, hget, lm_set, hset, w7, Int.natCast_nonneg, Int.toNat_natCast]
    refine ih (j, P ++ (W ++ T), val W0 / val v :: q) _ hJ (Nat.lt_succ_self _) ?_
    rfl
theorem p159 {a b : List Nat} (ha : Lim a) (hb : Lim b) (hna : a.length ≤ 400000000000) (hnb : b.length ≤ 400000000000) (h0 : val b ≠ 0) :
    Pu rp 134 [.sl (lm a), .sl (lm b)] (.tup [.p (.sl (lm (dgl (val a / val b)))), .p (.sl (lm (dgl (val a % val b)))), .p (.int .i64 0)]) := by
  rcases Nat.lt_or_ge (val a) (val b) with h | h
  · exact p159l ha hb hna hnb h
  · have hl := List.length_pos_iff.2 (dgl_ne h0)
    rcases (show (dgl (val b)).length = 1 ∨ 2 ≤ (dgl (val b)).length by omega) with h1 | h1
    · exact p159s ha hb hna hnb h h1
    · exact p159g ha hb hna hnb h h1
end Go.Proofs.YtdieenbfdeaffaaGreat.VBn

namespace Go.Proofs.YtdieenbfdeaffaaGreat.VBn
open Go Vpi
set_option maxRecDepth 100000
set_option linter.unusedSimpArgs false
set_option linter.unusedVariables false
theorem rp77 : rp 96 = some f96 := rfl
theorem rp121 : rp 150 = some f150 := rfl
theorem rp146 : rp 129 = some f129 := rfl
theorem rp145 : rp 105 = some f105 := rfl
theorem rp157 : rp 126 = some f126 := rfl
theorem rp63 : rp 104 = some f104 := rfl
theorem rp134 : rp 99 = some f99 := rfl
def CapN : Nat := 100000000000
theorem CapN_eq : CapN = 100000000000 := by unfold CapN; rfl
attribute [irreducible] CapN
def iv (neg : Bool) (l : List Nat) : Int := if neg then -(val l : Int) else val l
def Nu (p : PV) (x : Int) : Prop := ∃ neg l, p = .agg [.bool neg, .sl (lm l)] ∧ Lim l ∧ l.length ≤ CapN ∧ x = iv neg l
def Sz (x : Int) : Prop := x.natAbs < LB ^ CapN
theorem iv_abs {neg : Bool} {l : List Nat} : (iv neg l).natAbs = val l := by
  unfold iv
  cases neg <;> simp
theorem mk_iv {neg : Bool} {v : Nat} : mk neg v = zi (if neg then -(v : Int) else v) := by
  unfold zi mk
  cases neg
  · simp; omega
  · by_cases h : v = 0
    · subst h; simp
    · simp [h]; omega
theorem mk_val {neg : Bool} {l : List Nat} : mk neg (val l) = zi (iv neg l) := mk_iv
theorem zi_raw {x : Int} : zi x = .agg [.bool (decide (x < 0) && decide (x.natAbs ≠ 0)), .sl (lm (dgl x.natAbs))] := rfl
theorem iv_dgl {x : Int} : iv (decide (x < 0) && decide (x.natAbs ≠ 0)) (dgl x.natAbs) = x := by
  unfold iv
  rw [val_dgl]
  by_cases h : x < 0
  · have : x.natAbs ≠ 0 := by omega
    simp [h, this]; omega
  · simp [h]; omega
theorem Nu.zi {x : Int} (h : Sz x) : Nu (zi x) x := ⟨_, _, zi_raw, dgl_lim _, dgl_len h, iv_dgl.symm⟩
theorem Nu.sz {p : PV} {x : Int} (h : Nu p x) : Sz x := by
  obtain ⟨neg, l, rfl, hl, hn, rfl⟩ := h
  unfold Sz
  rw [iv_abs]
  exact Nat.lt_of_lt_of_le (val_lt hl) (Nat.pow_le_pow_right LB_pos hn)
theorem Sz.neg {x : Int} (h : Sz x) : Sz (-x) := by unfold Sz at *; rwa [Int.natAbs_neg]
theorem p119 {l : List Nat} (hl : Lim l) (hn : l.length ≤ CapN) : Pu rp 131 [.sl (lm l)] (.p (.int .i64 (bl (val l) : Nat))) := by
  refine pu_of rp119 ?_
  rw [CapN_eq] at hn
  have k1 := p144 hl (by omega)
  have hd : (dgl (val l)).length ≤ l.length := dgl_len (val_lt hl)
  by_cases h0 : val l = 0
  · rw [h0, dgl_zero] at k1
    have e : (((([] : List Nat).length : Nat) : Int) == 0) = true := rfl
    simp only [f131, args0, SA, setCells, Int.reduceLE, Int.reduceLT, ↓reduceIte, reduceCtorEq, Nat.reduceLT, Nat.reduceEqDiff, Nat.reduceAdd, Nat.reduceMul, Nat.reduceLeDiff, Nat.reduceBEq, kp1 k1, lm_len, e]
    rw [h0, bl_zero]; rfl
  · have hpos := List.length_pos_iff.2 (dgl_ne h0)
    have e : (((dgl (val l)).length : Int) == 0) = false := by rw [beq_eq_false_iff_ne]; omega
    obtain ⟨t, ht⟩ : ∃ t, (dgl (val l))[(dgl (val l)).length - 1]? = some t := ⟨_, List.getElem?_eq_getElem (by omega)⟩
    obtain ⟨-, -, ht0⟩ := norm_len h0 ht rfl
    have htB : t < LB := by
      have := (dgl_lim (val l)).get (show (dgl (val l)).length - 1 < (dgl (val l)).length by omega)
      rw [List.getElem?_eq_getElem (by omega), Option.some.injEq] at ht
      omega
    have hb := bl_le htB
    have w1 : IntKind.i64.wrap (((dgl (val l)).length : Int) - 1) = (((dgl (val l)).length - 1 : Nat) : Int) := by rw [IntWalk.i64_in _ (by omega)]; omega
    have w2 : IntKind.i64.wrap (32 * (((dgl (val l)).length - 1 : Nat) : Int)) = ((32 * ((dgl (val l)).length - 1) : Nat) : Int) := by rw [IntWalk.i64_in _ (by omega)]; omega
    have w3 : IntKind.i64.wrap (((32 * ((dgl (val l)).length - 1) : Nat) : Int) + (bl t : Nat)) = ((32 * ((dgl (val l)).length - 1) + bl t : Nat) : Int) := by rw [IntWalk.i64_in _ (by omega)]; omega
    simp only [f131, args0, SA, setCells, Int.reduceLE, Int.reduceLT, ↓reduceIte, reduceCtorEq, Nat.reduceLT, Nat.reduceEqDiff, Nat.reduceAdd, Nat.reduceMul, Nat.reduceLeDiff, Nat.reduceBEq, kp1 k1, lm_len, e, w1, w2, Int.natCast_nonneg, Int.toNat_natCast, lm_get? ht, kp1 (p148 htB), w3]
    have hbl : bl (val l) = 32 * ((dgl (val l)).length - 1) + bl t := by
      have hlt : (dgl (val l)).length - 1 < (dgl (val l)).length := by omega
      have s := val_split (l := dgl (val l)) (i := (dgl (val l)).length - 1) (by omega)
      rw [List.getElem?_eq_getElem hlt, Option.some.injEq] at ht
      rw [List.drop_eq_getElem_cons hlt, val, ht, show (dgl (val l)).length - 1 + 1 = (dgl (val l)).length by omega, List.drop_length, val, Nat.mul_zero, Nat.add_zero, val_dgl] at s
      have hlow := val_lt ((dgl_lim (val l)).take (n := (dgl (val l)).length - 1))
      rw [List.length_take, Nat.min_eq_left (by omega)] at hlow
      have hLB : LB ^ ((dgl (val l)).length - 1) = 2 ^ (32 * ((dgl (val l)).length - 1)) := by rw [Nat.pow_mul]; rfl
      rw [hLB] at s hlow
      obtain ⟨b1, b2, b3⟩ := bl_spec ht0
      refine bl_eq h0 ?_ ?_
      · rw [show 32 * ((dgl (val l)).length - 1) + bl t - 1 = 32 * ((dgl (val l)).length - 1) + (bl t - 1) by omega, Nat.pow_add]
        exact Nat.le_trans (Nat.mul_le_mul_left _ b1) (Nat.le_trans (Nat.le_add_left _ _) (Nat.le_of_eq s.symm))
      · rw [Nat.pow_add]
        calc val l = _ := s
          _ < 2 ^ (32 * ((dgl (val l)).length - 1)) * (t + 1) := by rw [Nat.mul_add, Nat.mul_one]; omega
          _ ≤ _ := Nat.mul_le_mul_left _ b2
    rw [hbl]; rfl
theorem bl_eq0 {v : Nat} : bl v = 0 ↔ v = 0 := by
  unfold bl; split <;> simp [*]
theorem p121 {p : PV} {x : Int} (h : Nu p x) : Pu rp 150 [p] (.p (.int .i64 (bl x.natAbs : Nat))) := by
  obtain ⟨neg, l, rfl, hl, hn, rfl⟩ := h
  refine pu_of rp121 ?_
  rw [iv_abs]
  simp only [f150, args0, SA, setCells, Int.reduceLE, Int.reduceLT, ↓reduceIte, reduceCtorEq, Nat.reduceLT, Nat.reduceEqDiff, Nat.reduceAdd, Nat.reduceMul, Nat.reduceLeDiff, Nat.reduceBEq, kp1 (p119 hl hn)]
  rfl
theorem p77 {p : PV} {x : Int} (h : Nu p x) : Pu rp 96 [p] (.p (.int .i64 x.sign)) := by
  obtain ⟨neg, l, rfl, hl, hn, rfl⟩ := h
  refine pu_of rp77 ?_
  by_cases h0 : val l = 0
  · have e : ((bl (val l) : Int) == 0) = true := by rw [bl_eq0.2 h0]; rfl
    simp only [f96, args0, SA, setCells, Int.reduceLE, Int.reduceLT, ↓reduceIte, reduceCtorEq, Nat.reduceLT, Nat.reduceEqDiff, Nat.reduceAdd, Nat.reduceMul, Nat.reduceLeDiff, Nat.reduceBEq, kp1 (p119 hl hn), e]
    have : iv neg l = 0 := by unfold iv; rw [h0]; cases neg <;> rfl
    rw [this]; rfl
  · have e : ((bl (val l) : Int) == 0) = false := by rw [beq_eq_false_iff_ne]; have := mt bl_eq0.1 h0; omega
    cases neg
    · simp only [f96, args0, SA, setCells, Int.reduceLE, Int.reduceLT, ↓reduceIte, reduceCtorEq, Nat.reduceLT, Nat.reduceEqDiff, Nat.reduceAdd, Nat.reduceMul, Nat.reduceLeDiff, Nat.reduceBEq, kp1 (p119 hl hn), e]
      have : (iv false l).sign = 1 := Int.sign_eq_one_of_pos (by unfold iv; simp; omega)
      rw [this]; rfl
    · simp only [f96, args0, SA, setCells, Int.reduceLE, Int.reduceLT, ↓reduceIte, reduceCtorEq, Nat.reduceLT, Nat.reduceEqDiff, Nat.reduceAdd, Nat.reduceMul, Nat.reduceLeDiff, Nat.reduceBEq, kp1 (p119 hl hn), e]
      have : (iv true l).sign = -1 := Int.sign_eq_neg_one_of_neg (by unfold iv; simp; omega)
      rw [this]; rfl
theorem p146 {p : PV} {x : Int} (h : Nu p x) : Pu rp 129 [p] (.p (zi (-x))) := by
  obtain ⟨neg, l, rfl, hl, hn, rfl⟩ := h
  refine pu_of rp146 ?_
  rw [CapN_eq] at hn
  have e : -iv neg l = iv (!neg) l := by unfold iv; cases neg <;> simp
  rw [e, ← mk_val]
  simp only [f129, args0, SA, setCells, Int.reduceLE, Int.reduceLT, ↓reduceIte, reduceCtorEq, Nat.reduceLT, Nat.reduceEqDiff, Nat.reduceAdd, Nat.reduceMul, Nat.reduceLeDiff, Nat.reduceBEq, unV, kp2 (p105 hl (by omega))]
  rfl
theorem p63' {p q : PV} {x y : Int} (h : Nu p x) (h' : Nu q y) : Pu rp 104 [p, q] (.p (zi (x * y))) := by
  obtain ⟨n1, a, rfl, ha, hna, rfl⟩ := h
  obtain ⟨n2, b, rfl, hb, hnb, rfl⟩ := h'
  refine pu_of rp63 ?_
  rw [CapN_eq] at hna hnb
  have hd : (dgl (val a * val b)).length ≤ a.length + b.length := dgl_len (by rw [Nat.pow_add]; exact Nat.mul_lt_mul'' (val_lt ha) (val_lt hb))
  have k1 := p111 ha hb (by omega) (by omega)
  have k2 := fun neg => p105 (neg := neg) (dgl_lim (val a * val b)) (by omega)
  simp only [val_dgl] at k2
  have e : zi (iv n1 a * iv n2 b) = mk (n1 != n2) (val a * val b) := by
    rw [mk_iv]; unfold iv; congr 1; cases n1 <;> cases n2 <;> simp [Int.natCast_mul, Int.neg_mul, Int.mul_neg]
  rw [e]
  cases n1 <;> cases n2 <;> simp only [f104, args0, SA, setCells, Int.reduceLE, Int.reduceLT, ↓reduceIte, reduceCtorEq, Nat.reduceLT, Nat.reduceEqDiff, Nat.reduceAdd, Nat.reduceMul, Nat.reduceLeDiff, Nat.reduceBEq, kp2 k1, kp2 (k2 _)] <;> rfl
theorem bq1 : (true == false) = false := rfl
theorem bq2 : (false == true) = false := rfl
theorem p145 {p q : PV} {x y : Int} (h : Nu p x) (h' : Nu q y) : Pu rp 105 [p, q] (.p (zi (x + y))) := by
  obtain ⟨n1, a, rfl, ha, hna, rfl⟩ := h
  obtain ⟨n2, b, rfl, hb, hnb, rfl⟩ := h'
  refine pu_of rp145 ?_
  rw [CapN_eq] at hna hnb
  have hcmp := p177 ha hb (by omega) (by omega)
  by_cases hs : n1 = n2
  · subst hs
    have hd : (dgl (val a + val b)).length ≤ a.length + b.length + 1 := dgl_len (by
      have h1 := Nat.lt_of_lt_of_le (val_lt ha) (Nat.pow_le_pow_right LB_pos (show a.length ≤ a.length + b.length by omega))
      have h2 := Nat.lt_of_lt_of_le (val_lt hb) (Nat.pow_le_pow_right LB_pos (show b.length ≤ a.length + b.length by omega))
      rw [Nat.pow_succ]
      have h3 : LB ^ (a.length + b.length) * 2 ≤ LB ^ (a.length + b.length) * LB := Nat.mul_le_mul_left _ (by decide)
      omega)
    have k1 := p176 ha hb (by omega) (by omega)
    have k2 := p105 (neg := n1) (dgl_lim (val a + val b)) (by omega)
    rw [val_dgl] at k2
    have e : zi (iv n1 a + iv n1 b) = mk n1 (val a + val b) := by
      rw [mk_iv]; unfold iv; congr 1; cases n1 <;> simp; omega
    rw [e]
    cases n1 <;> simp only [f105, args0, SA, setCells, Int.reduceLE, Int.reduceLT, ↓reduceIte, reduceCtorEq, Nat.reduceLT, Nat.reduceEqDiff, Nat.reduceAdd, Nat.reduceMul, Nat.reduceLeDiff, Nat.reduceBEq, kp2 k1, kp2 k2] <;> rfl
  · by_cases hlt : val a < val b
    · have hci : cmpI (val a) (val b) < 0 := lt_of_cmp.2 hlt
      have k1 := p178 hb ha (by omega) (by omega) (Nat.le_of_lt hlt)
      have hd : (dgl (val b - val a)).length ≤ b.length := dgl_len (Nat.lt_of_le_of_lt (Nat.sub_le _ _) (val_lt hb))
      have k2 := p105 (neg := n2) (dgl_lim (val b - val a)) (by omega)
      rw [val_dgl] at k2
      have e : zi (iv n1 a + iv n2 b) = mk n2 (val b - val a) := by
        rw [mk_iv]; unfold iv; congr 1; cases n1 <;> cases n2 <;> simp at hs ⊢ <;> omega
      rw [e]
      cases n1 <;> cases n2 <;> simp at hs <;> simp only [f105, args0, SA, setCells, Int.reduceLE, Int.reduceLT, ↓reduceIte, reduceCtorEq, Nat.reduceLT, Nat.reduceEqDiff, Nat.reduceAdd, Nat.reduceMul, Nat.reduceLeDiff, Nat.reduceBEq, kp2 hcmp, hci, kp2 k1, kp2 k2, bq1, bq2] <;> rfl
    · have hci : ¬ cmpI (val a) (val b) < 0 := by rw [lt_of_cmp]; exact hlt
      have k1 := p178 ha hb (by omega) (by omega) (Nat.le_of_not_lt hlt)
      have hd : (dgl (val a - val b)).length ≤ a.length := dgl_len (Nat.lt_of_le_of_lt (Nat.sub_le _ _) (val_lt ha))
      have k2 := p105 (neg := n1) (dgl_lim (val a - val b)) (by omega)
      rw [val_dgl] at k2
      have e : zi (iv n1 a + iv n2 b) = mk n1 (val a - val b) := by
        rw [mk_iv]; unfold iv; congr 1; cases n1 <;> cases n2 <;> simp at hs ⊢ <;> omega
      rw [e]
      cases n1 <;> cases n2 <;> simp at hs <;> simp only [f105, args0, SA, setCells, Int.reduceLE, Int.reduceLT, ↓reduceIte, reduceCtorEq, Nat.reduceLT, Nat.reduceEqDiff, Nat.reduceAdd, Nat.reduceMul, Nat.reduceLeDiff, Nat.reduceBEq, kp2 hcmp, hci, kp2 k1, kp2 k2, bq1, bq2] <;> rfl
theorem p157 {p q : PV} {x y : Int} (h : Nu p x) (h' : Nu q y) : Pu rp 126 [p, q] (.p (zi (x - y))) := by
  have k2 := p145 h (Nu.zi h'.sz.neg)
  have k1 := p146 h'
  obtain ⟨n1, a, rfl, ha, hna, rfl⟩ := h
  obtain ⟨n2, b, rfl, hb, hnb, rfl⟩ := h'
  refine pu_of rp157 ?_
  rw [Int.sub_eq_add_neg]
  simp only [f126, args0, SA, setCells, Int.reduceLE, Int.reduceLT, ↓reduceIte, reduceCtorEq, Nat.reduceLT, Nat.reduceEqDiff, Nat.reduceAdd, Nat.reduceMul, Nat.reduceLeDiff, Nat.reduceBEq, kp1 k1, kp2 k2]
  rfl
theorem Sz.le {x y : Int} (h : Sz x) (hy : y.natAbs ≤ x.natAbs) : Sz y := Nat.lt_of_le_of_lt hy h
theorem Sz.small {x : Int} (h : x.natAbs < LB) : Sz x := by
  unfold Sz
  obtain ⟨k, hk⟩ : ∃ k, CapN = k + 1 := ⟨CapN - 1, by rw [CapN_eq]⟩
  rw [hk, Nat.pow_succ]
  exact Nat.lt_of_lt_of_le h (Nat.le_mul_of_pos_left _ (Nat.pow_pos LB_pos))
theorem push_sl {base j : Nat} {σ : Store} {b : Blk} : push base (some j) σ b = (match σ[base + j]? with | some .hole => some (base + j, σ.set (base + j) b) | _ => none) := rfl
theorem p134 {p q : PV} {x y : Int} (h : Nu p x) (h' : Nu q y) (hy : 0 < y) : Pu rp 99 [p, q] (.tup [.p (zi (x / y)), .p (zi (x % y)), .p (.int .i64 0)]) := by
  have hx := h.sz
  have hys := h'.sz
  have k77y := p77 h'
  obtain ⟨n1, a, rfl, ha, hna, rfl⟩ := h
  obtain ⟨n2, b, rfl, hb, hnb, rfl⟩ := h'
  obtain rfl : n2 = false := by cases n2; rfl; unfold iv at hy; simp at hy; omega
  have hvb : iv false b = val b := rfl
  have hb0 : val b ≠ 0 := by rw [hvb] at hy; omega
  refine pu_of rp134 ?_
  rw [CapN_eq] at hna hnb
  have k1 := p159 ha hb (by omega) (by omega) hb0
  have hdq : (dgl (val a / val b)).length ≤ a.length := dgl_len (Nat.lt_of_le_of_lt (Nat.div_le_self _ _) (val_lt ha))
  have hdr : (dgl (val a % val b)).length ≤ a.length := dgl_len (Nat.lt_of_le_of_lt (Nat.mod_le _ _) (val_lt ha))
  have kq := fun neg => p105 (neg := neg) (dgl_lim (val a / val b)) (by omega)
  have kr := fun neg => p105 (neg := neg) (dgl_lim (val a % val b)) (by omega)
  simp only [val_dgl, mk_iv] at kq kr
  have bn1 : (true != false) = true := rfl
  have bn2 : (false != false) = false := rfl
  have e0 : ((0 : Int) != 0) = false := rfl
  cases n1 with
  | false =>
    have kr0 := kr false
    have kq0 := kq false
    simp only [Bool.false_eq_true, if_false] at kr0 kq0
    have hz : Nu (zi ((val a % val b : Nat) : Int)) ((val a % val b : Nat) : Int) := Nu.zi (hx.le (by rw [iv_abs]; exact Nat.mod_le _ _))
    have k77 := p77 hz
    rw [zi_raw] at k77
    have hsy : (iv false b).sign = 1 := Int.sign_eq_one_of_pos hy
    rw [hsy] at k77y
    have hq : iv false a / iv false b = ((val a / val b : Nat) : Int) := rfl
    have hr : iv false a % iv false b = ((val a % val b : Nat) : Int) := rfl
    rw [hq, hr]
    by_cases h0 : val a % val b = 0
    · have hs : (((val a % val b : Nat) : Int).sign != 0) = false := by rw [h0]; rfl
      simp only [f99, args0, SA, setCells, Int.reduceLE, Int.reduceLT, ↓reduceIte, reduceCtorEq, Nat.reduceLT, Nat.reduceEqDiff, Nat.reduceAdd, Nat.reduceMul, Nat.reduceLeDiff, Nat.reduceBEq, kp2 k1, bq1, bq2, Bool.not_true, Bool.not_false, push_sl, bn1, bn2, e0, kp2 kq0, kp2 kr0, kp1 k77, hs]
      rw [r_nilx]
      refine ⟨by rfl, ?_⟩
      simp only [SA, setCells, Int.reduceLE, Int.reduceLT, ↓reduceIte, reduceCtorEq, Nat.reduceLT, Nat.reduceEqDiff, Nat.reduceAdd, Nat.reduceMul, Nat.reduceLeDiff, Nat.reduceBEq]
      exact back_t3 back1_p back1_p back1_p
    · have hs1 : ((val a % val b : Nat) : Int).sign = 1 := Int.sign_eq_one_of_pos (by omega)
      have hs : ((1 : Int) != 0) = true := rfl
      have hs2 : ((1 : Int) != 1) = false := rfl
      rw [hs1] at k77
      simp only [f99, args0, SA, setCells, Int.reduceLE, Int.reduceLT, ↓reduceIte, reduceCtorEq, Nat.reduceLT, Nat.reduceEqDiff, Nat.reduceAdd, Nat.reduceMul, Nat.reduceLeDiff, Nat.reduceBEq, kp2 k1, bq1, bq2, Bool.not_true, Bool.not_false, push_sl, bn1, bn2, e0, kp2 kq0, kp2 kr0, kp1 k77, hs, kp1 k77y, hs2]
      rw [r_nilx]
      refine ⟨by rfl, ?_⟩
      simp only [SA, setCells, Int.reduceLE, Int.reduceLT, ↓reduceIte, reduceCtorEq, Nat.reduceLT, Nat.reduceEqDiff, Nat.reduceAdd, Nat.reduceMul, Nat.reduceLeDiff, Nat.reduceBEq]
      exact back_t3 back1_p back1_p back1_p
  | true =>
    have kr0 := kr true
    have kq0 := kq true
    simp only [if_true] at kr0 kq0
    have hrz : Sz (-((val a % val b : Nat) : Int)) := hx.le (by rw [iv_abs, Int.natAbs_neg]; exact Nat.mod_le _ _)
    have hz : Nu (zi (-((val a % val b : Nat) : Int))) (-((val a % val b : Nat) : Int)) := Nu.zi hrz
    have hqz : Sz (-((val a / val b : Nat) : Int)) := hx.le (by rw [iv_abs, Int.natAbs_neg]; exact Nat.div_le_self _ _)
    have k77 := p77 hz
    have ks := p157 (Nu.zi hqz) (Nu.zi (x := 1) (Sz.small (by decide)))
    have ka := p145 hz ⟨false, b, rfl, hb, by rw [CapN_eq]; exact hnb, rfl⟩
    rw [zi_raw] at k77 ka
    rw [zi_raw (x := -((val a / val b : Nat) : Int))] at ks
    have hsy : (iv false b).sign = 1 := Int.sign_eq_one_of_pos hy
    rw [hsy] at k77y
    have hdm := Nat.mod_add_div (val a) (val b)
    have hml := Nat.mod_lt (val a) (Nat.pos_of_ne_zero hb0)
    have hxa : iv true a = -(val a : Int) := rfl
    by_cases h0 : val a % val b = 0
    · have hs : ((-((val a % val b : Nat) : Int)).sign != 0) = false := by rw [h0]; rfl
      have hq : iv true a / iv false b = -((val a / val b : Nat) : Int) := by
        rw [hxa, hvb, Int.neg_ediv_of_dvd (Int.natCast_dvd_natCast.2 (Nat.dvd_of_mod_eq_zero h0))]; rfl
      have hr : iv true a % iv false b = -((val a % val b : Nat) : Int) := by
        rw [hxa, hvb, h0]; exact Int.emod_eq_zero_of_dvd ((Int.dvd_neg).2 (Int.natCast_dvd_natCast.2 (Nat.dvd_of_mod_eq_zero h0)))
      rw [hq, hr]
      simp only [f99, args0, SA, setCells, Int.reduceLE, Int.reduceLT, ↓reduceIte, reduceCtorEq, Nat.reduceLT, Nat.reduceEqDiff, Nat.reduceAdd, Nat.reduceMul, Nat.reduceLeDiff, Nat.reduceBEq, kp2 k1, bq1, bq2, Bool.not_true, Bool.not_false, push_sl, bn1, bn2, e0, kp2 kq0, kp2 kr0, kp1 k77, hs]
      rw [r_nilx]
      refine ⟨by rfl, ?_⟩
      simp only [SA, setCells, Int.reduceLE, Int.reduceLT, ↓reduceIte, reduceCtorEq, Nat.reduceLT, Nat.reduceEqDiff, Nat.reduceAdd, Nat.reduceMul, Nat.reduceLeDiff, Nat.reduceBEq]
      exact back_t3 back1_p back1_p back1_p
    · have hs1 : (-((val a % val b : Nat) : Int)).sign = -1 := Int.sign_eq_neg_one_of_neg (by omega)
      have hs : ((-1 : Int) != 0) = true := rfl
      have hs2 : ((-1 : Int) != 1) = true := rfl
      rw [hs1] at k77
      have hu := (Int.ediv_emod_unique (a := iv true a) (b := iv false b) (r := -((val a % val b : Nat) : Int) + iv false b) (q := -((val a / val b : Nat) : Int) - 1) hy).2
        ⟨by rw [hxa, hvb, Int.mul_sub, Int.mul_neg, Int.mul_one, ← Int.natCast_mul]; omega, by rw [hvb]; omega, by rw [hvb]; omega⟩
      rw [hu.1, hu.2]
      simp only [f99, args0, SA, setCells, Int.reduceLE, Int.reduceLT, ↓reduceIte, reduceCtorEq, Nat.reduceLT, Nat.reduceEqDiff, Nat.reduceAdd, Nat.reduceMul, Nat.reduceLeDiff, Nat.reduceBEq, kp2 k1, bq1, bq2, Bool.not_true, Bool.not_false, push_sl, bn1, bn2, e0, kp2 kq0, kp2 kr0, kp1 k77, hs, kp1 k77y, hs2, kp1 (p54 (x := 1) (by decide) (by decide)), kp2 ks, kp2 ka]
      rw [r_nilx]
      refine ⟨by rfl, ?_⟩
      simp only [SA, setCells, Int.reduceLE, Int.reduceLT, ↓reduceIte, reduceCtorEq, Nat.reduceLT, Nat.reduceEqDiff, Nat.reduceAdd, Nat.reduceMul, Nat.reduceLeDiff, Nat.reduceBEq]
      exact back_t3 back1_p back1_p back1_p
end Go.Proofs.YtdieenbfdeaffaaGreat.VBn

namespace Go.Proofs.YtdieenbfdeaffaaGreat.VBn
open Go Vpi
set_option maxRecDepth 100000
set_option linter.unusedSimpArgs false
set_option linter.unusedVariables false
theorem rp162 : rp 141 = some f141 := rfl
theorem rp170 : rp 144 = some f144 := rfl
theorem rp140 : rp 115 = some f115 := rfl
theorem rp139 : rp 114 = some f114 := rfl
theorem rp163 : rp 142 = some f142 := rfl
theorem rp141 : rp 116 = some f116 := rfl
theorem kf_gl {rs : List RRes} {base : Nat} {d : Option Nat} {l : List LOp} {dr : Dr} {ks : List KI} {e : Env} {σ : Store} {Q : CV → Store → Prop} {f sz : Nat} {c : CV} {es : List PV} {r : CV} (h : Pu rp f [.sl es] r) (hg : GL σ sz c es) :
    KC rp rs base .fz f [c] d l dr ks e σ Q = ExR rp rs base l dr ks (sto d r e) (kills σ [c]) Q :=
  kc_fz h (by simp only [frzs, hg.frz, Option.map_some])
theorem remLB {x : Nat} : (x : Int).tmod 4294967296 = ((x % LB : Nat) : Int) := rfl
theorem quoLB {x : Nat} (h : x < 18446744073709551616) : IntKind.u64.wrap ((x : Int).tdiv 4294967296) = ((x / LB : Nat) : Int) := quo64 (y := LB) h
theorem nLB : (4294967296 : Int) ≠ 0 := by decide
theorem p162 {l : List Nat} {i : Nat} (hl : Lim l) : Pu rp 141 [.sl (lm l), .int .i64 (i : Int)] (.p (.int .u64 (lg l i : Nat))) := by
  refine pu_of rp162 ?_
  by_cases h : (i : Int) < l.length
  · have hi : i < l.length := by omega
    simp only [f141, args0, SA, setCells, Int.reduceLE, Int.reduceLT, ↓reduceIte, reduceCtorEq, Nat.reduceLT, Nat.reduceEqDiff, Nat.reduceAdd, Nat.reduceMul, Nat.reduceLeDiff, Nat.reduceBEq, lm_len, h, Int.natCast_nonneg, Int.toNat_natCast, lm_get hi, w64l (hl.get hi)]
    rw [lg_in hi]; rfl
  · simp only [f141, args0, SA, setCells, Int.reduceLE, Int.reduceLT, ↓reduceIte, reduceCtorEq, Nat.reduceLT, Nat.reduceEqDiff, Nat.reduceAdd, Nat.reduceMul, Nat.reduceLeDiff, Nat.reduceBEq, lm_len, h]
    rw [lg_out (by omega)]; rfl
theorem p170 {a b : Nat} : Pu rp 144 [.int .i64 (a : Int), .int .i64 (b : Int)] (.p (.int .i64 ((max a b : Nat) : Int))) := by
  refine pu_of rp170 ?_
  by_cases h : (a : Int) > b
  · simp only [f144, args0, SA, setCells, Int.reduceLE, Int.reduceLT, ↓reduceIte, reduceCtorEq, Nat.reduceLT, Nat.reduceEqDiff, Nat.reduceAdd, Nat.reduceMul, Nat.reduceLeDiff, Nat.reduceBEq, h]
    rw [Nat.max_eq_left (by omega)]; rfl
  · simp only [f144, args0, SA, setCells, Int.reduceLE, Int.reduceLT, ↓reduceIte, reduceCtorEq, Nat.reduceLT, Nat.reduceEqDiff, Nat.reduceAdd, Nat.reduceMul, Nat.reduceLeDiff, Nat.reduceBEq, h]
    rw [Nat.max_eq_right (by omega)]; rfl
theorem drop_lg {l : List Nat} {i : Nat} : val (l.drop i) = lg l i + LB * val (l.drop (i + 1)) := by
  rcases Nat.lt_or_ge i l.length with h | h
  · rw [List.drop_eq_getElem_cons h, val, lg_in h]
  · rw [lg_out h, List.drop_of_length_le h, List.drop_of_length_le (by omega), val]; rfl
theorem drop_lt {a b : List Nat} (ha : Lim a) : ∀ {i : Nat}, val (a.drop i) < val (b.drop i) → val a < val b
  | 0, h => by simpa using h
  | i + 1, h => by
    refine drop_lt ha (i := i) ?_
    rw [drop_lg, drop_lg (l := b)]
    have h1 := lg_lt ha (i := i)
    have h2 := Nat.mul_le_mul_left LB (show val (a.drop (i + 1)) + 1 ≤ val (b.drop (i + 1)) from h)
    rw [Nat.mul_add, Nat.mul_one] at h2
    omega
theorem p140 {a b : List Nat} (ha : Lim a) (hb : Lim b) (hna : a.length ≤ 1099511627775) (hnb : b.length ≤ 1099511627775) : Pu rp 115 [.sl (lm a), .sl (lm b)] (.p (.int .i64 (cmpI (val a) (val b)))) := by
  refine pu_of rp140 ?_
  have hmx : max a.length b.length ≤ 1099511627775 := Nat.max_le.2 ⟨hna, hnb⟩
  have w1 : IntKind.i64.wrap (((max a.length b.length : Nat) : Int) - 1) = ((max a.length b.length : Nat) : Int) - 1 := IntWalk.i64_in _ (by omega)
  simp only [f115, args0, SA, setCells, Int.reduceLE, Int.reduceLT, ↓reduceIte, reduceCtorEq, Nat.reduceLT, Nat.reduceEqDiff, Nat.reduceAdd, Nat.reduceMul, Nat.reduceLeDiff, Nat.reduceBEq, lm_len, kp2 p170, w1]
  refine loop_rule (β := Nat) (fun n => ([(0, .p (.sl (lm a))), (1, .p (.sl (lm b))), (5, i64 ((n : Int) - 1))], []))
    (fun n => n ≤ max a.length b.length ∧ val (a.drop n) = val (b.drop n)) (fun n => n) (max a.length b.length) rfl rfl ⟨Nat.le_refl _, by rw [List.drop_of_length_le (Nat.le_max_left _ _), List.drop_of_length_le (Nat.le_max_right _ _)]⟩ ?_
  rintro n ⟨hn, hd⟩ ih
  by_cases h0 : ((n : Int) - 1) ≥ 0
  · obtain ⟨m, rfl⟩ : ∃ m, n = m + 1 := ⟨n - 1, by omega⟩
    have hi : ((m + 1 : Nat) : Int) - 1 = (m : Int) := by omega
    rw [hi] at h0
    have hw : IntKind.i64.wrap ((m : Int) - 1) = (m : Int) - 1 := IntWalk.i64_in _ (by omega)
    have da := drop_lg (l := a) (i := m)
    have db := drop_lg (l := b) (i := m)
    rw [hd] at da
    by_cases hlt : (lg a m : Int) < lg b m
    · simp only [SA, setCells, Int.reduceLE, Int.reduceLT, ↓reduceIte, reduceCtorEq, Nat.reduceLT, Nat.reduceEqDiff, Nat.reduceAdd, Nat.reduceMul, Nat.reduceLeDiff, Nat.reduceBEq, hi, h0, kp2 (p162 ha (i := m)), kp2 (p162 hb (i := m)), hlt]
      have := drop_lt ha (b := b) (i := m) (by omega)
      rw [cmpI, if_pos this]
      rfl
    · by_cases hgt : (lg a m : Int) > lg b m
      · simp only [SA, setCells, Int.reduceLE, Int.reduceLT, ↓reduceIte, reduceCtorEq, Nat.reduceLT, Nat.reduceEqDiff, Nat.reduceAdd, Nat.reduceMul, Nat.reduceLeDiff, Nat.reduceBEq, hi, h0, kp2 (p162 ha (i := m)), kp2 (p162 hb (i := m)), hlt, hgt]
        have := drop_lt hb (b := a) (i := m) (by omega)
        rw [cmpI, if_neg (by omega), if_neg (by omega)]
        rfl
      · simp only [SA, setCells, Int.reduceLE, Int.reduceLT, ↓reduceIte, reduceCtorEq, Nat.reduceLT, Nat.reduceEqDiff, Nat.reduceAdd, Nat.reduceMul, Nat.reduceLeDiff, Nat.reduceBEq, hi, h0, kp2 (p162 ha (i := m)), kp2 (p162 hb (i := m)), hlt, hgt, hw]
        refine ih m _ ⟨by omega, by omega⟩ (by omega) ?_
        rfl
  · obtain rfl : n = 0 := by omega
    have h0' : ¬ (((0 : Nat) : Int) - 1 ≥ 0) := by omega
    simp only [SA, setCells, Int.reduceLE, Int.reduceLT, ↓reduceIte, reduceCtorEq, Nat.reduceLT, Nat.reduceEqDiff, Nat.reduceAdd, Nat.reduceMul, Nat.reduceLeDiff, Nat.reduceBEq, h0']
    simp only [List.drop_zero] at hd
    rw [cmpI, if_neg (by omega), if_pos hd]
    rfl
theorem p139 {a b : List Nat} (ha : Lim a) (hb : Lim b) (hna : a.length ≤ 1099511627775) (hnb : b.length ≤ 1099511627775) : Pu rp 114 [.sl (lm a), .sl (lm b)] (.p (.sl (lm (dgl (val a + val b))))) := by
  refine pu_of rp139 ?_
  have hmx : max a.length b.length ≤ 1099511627775 := Nat.max_le.2 ⟨hna, hnb⟩
  simp only [f114, args0, SA, setCells, Int.reduceLE, Int.reduceLT, ↓reduceIte, reduceCtorEq, Nat.reduceLT, Nat.reduceEqDiff, Nat.reduceAdd, Nat.reduceMul, Nat.reduceLeDiff, Nat.reduceBEq, lm_len]
  refine loop_rule (β := Nat × List Nat × Nat × Store × CV) (fun t => ([(0, .p (.sl (lm a))), (1, .p (.sl (lm b))), (5, t.2.2.2.2), (6, .p (.int .u64 (t.2.2.1 : Int))), (7, i64 t.1)], t.2.2.2.1))
    (fun t => t.1 ≤ max a.length b.length ∧ t.2.1.length = t.1 ∧ Lim t.2.1 ∧ val t.2.1 + LB ^ t.1 * t.2.2.1 = val (a.take t.1) + val (b.take t.1) ∧ t.2.2.1 ≤ 1 ∧ GL t.2.2.2.1 1 t.2.2.2.2 (lm t.2.1)) (fun t => max a.length b.length - t.1) ((0, [], 0, [], .nils) : Nat × List Nat × Nat × Store × CV) rfl rfl ⟨Nat.zero_le _, rfl, (fun _ hx => nomatch hx), rfl, Nat.zero_le _, .nil⟩ ?_
  rintro ⟨i, o, c, σ, g⟩ ⟨hi, ho, hlo, hv, hc, hgl⟩ ih
  simp only [] at hi ho hlo hv hc hgl ih ⊢
  by_cases hin : (i : Int) < (max a.length b.length : Nat)
  · obtain ⟨k1, k2, k3⟩ := carry1 hc (lg_lt ha (i := i)) (lg_lt hb (i := i))
    have hst := addStep (x := lg a i) (y := lg b i) ho hv
    rw [← val_take_lg, ← val_take_lg] at hst
    have hapc : ((lm o).length + [PV.int .u32 (((c + lg a i + lg b i) % LB : Nat) : Int)].length) * 4 ≤ 140737488355328 := by rw [lm_len, ho]; simp; omega
    have hmm : (c + lg a i + lg b i) % LB % LB = (c + lg a i + lg b i) % LB := Nat.mod_mod _ _
    simp only [SA, setCells, Int.reduceLE, Int.reduceLT, ↓reduceIte, reduceCtorEq, Nat.reduceLT, Nat.reduceEqDiff, Nat.reduceAdd, Nat.reduceMul, Nat.reduceLeDiff, Nat.reduceBEq, lm_len, kp2 p170, hin, kp2 (p162 ha (i := i)), kp2 (p162 hb (i := i)), w64s k3, w64s k2, binV_rem nLB, remLB, w32, hmm, r_app hgl hapc, binV_quo nLB, quoLB k2, IntWalk.i64_in ((i : Int) + 1) (by omega)]
    rw [show lm o ++ [PV.int .u32 (((c + lg a i + lg b i) % LB : Nat) : Int)] = lm (o ++ [(c + lg a i + lg b i) % LB]) by rw [← lm_append]; rfl, ho]
    refine ih (i + 1, o ++ [(c + lg a i + lg b i) % LB], (c + lg a i + lg b i) / LB, nd σ g ++ [.prow 1 [PV.int .u32 (((c + lg a i + lg b i) % LB : Nat) : Int)], .prow 1 (lm (o ++ [(c + lg a i + lg b i) % LB]))], .own (σ.length + 1) 0 (i + 1)) _
      ⟨by omega, by simp [ho], hlo.append (.one (Nat.mod_lt _ LB_pos)), hst, k1, GL.new2 (by rw [lm_len]; simp [ho]) rfl⟩ (by simp; omega) ?_
    rfl
  · have hia : i = max a.length b.length := by omega
    have hcl : c % LB = c := Nat.mod_eq_of_lt (by unfold LB; omega)
    have hval : val (o ++ [c]) = val a + val b := by
      rw [val_append, val_one, ho, hv, List.take_of_length_le (by rw [hia]; exact Nat.le_max_left _ _), List.take_of_length_le (by rw [hia]; exact Nat.le_max_right _ _)]
    have hlim : Lim (o ++ [c]) := hlo.append (.one (by unfold LB; omega))
    have htr := p98 hlim (by simp; omega)
    rw [hval] at htr
    have hapc : ((lm o).length + [PV.int .u32 (c : Int)].length) * 4 ≤ 140737488355328 := by rw [lm_len, ho]; simp; omega
    simp only [SA, setCells, Int.reduceLE, Int.reduceLT, ↓reduceIte, reduceCtorEq, Nat.reduceLT, Nat.reduceEqDiff, Nat.reduceAdd, Nat.reduceMul, Nat.reduceLeDiff, Nat.reduceBEq, lm_len, kp2 p170, hin, w32, hcl, r_app hgl hapc]
    rw [show lm o ++ [PV.int .u32 (c : Int)] = lm (o ++ [c]) by rw [← lm_append]; rfl, ho]
    rw [kf_gl (sz := 1) htr (GL.new2 (by rw [lm_len]; simp [ho]) rfl)]
    simp only [SA, setCells, Int.reduceLE, Int.reduceLT, ↓reduceIte, reduceCtorEq, Nat.reduceLT, Nat.reduceEqDiff, Nat.reduceAdd, Nat.reduceMul, Nat.reduceLeDiff, Nat.reduceBEq]
    rfl
end Go.Proofs.YtdieenbfdeaffaaGreat.VBn

namespace Go.Proofs.YtdieenbfdeaffaaGreat.VBn
open Go Vpi
set_option maxRecDepth 100000
set_option linter.unusedSimpArgs false
set_option linter.unusedVariables false
theorem w64d {x y : Nat} (h : y ≤ x) (hx : x < 18446744073709551616) : IntKind.u64.wrap ((x : Int) - (y : Int)) = ((x - y : Nat) : Int) := by
  rw [IntKind.wrap_u64]; omega
theorem p163 {a b : List Nat} (ha : Lim a) (hb : Lim b) (hab : val b ≤ val a) (hna : a.length ≤ 1099511627775) (hnb : val b < LB ^ a.length) :
    Pu rp 142 [.sl (lm a), .sl (lm b)] (.p (.sl (lm (dgl (val a - val b))))) := by
  refine pu_of rp163 ?_
  simp only [f142, args0, SA, setCells, Int.reduceLE, Int.reduceLT, ↓reduceIte, reduceCtorEq, Nat.reduceLT, Nat.reduceEqDiff, Nat.reduceAdd, Nat.reduceMul, Nat.reduceLeDiff, Nat.reduceBEq, lm_len]
  refine loop_rule (β := Nat × List Nat × Nat × Store × CV) (fun t => ([(0, .p (.sl (lm a))), (1, .p (.sl (lm b))), (5, t.2.2.2.2), (6, .p (.int .u64 (t.2.2.1 : Int))), (7, i64 t.1)], t.2.2.2.1))
    (fun t => t.1 ≤ a.length ∧ t.2.1.length = t.1 ∧ Lim t.2.1 ∧ val t.2.1 + val (b.take t.1) = val (a.take t.1) + LB ^ t.1 * t.2.2.1 ∧ t.2.2.1 ≤ 1 ∧ GL t.2.2.2.1 1 t.2.2.2.2 (lm t.2.1)) (fun t => a.length - t.1) ((0, [], 0, [], .nils) : Nat × List Nat × Nat × Store × CV) rfl rfl ⟨Nat.zero_le _, rfl, (fun _ hx => nomatch hx), rfl, Nat.zero_le _, .nil⟩ ?_
  rintro ⟨i, o, w, σ, g⟩ ⟨hi, ho, hlo, hv, hw, hgl⟩ ih
  simp only [] at hi ho hlo hv hw hgl ih ⊢
  by_cases hin : (i : Int) < a.length
  · have hx := lg_lt ha (i := i)
    have hy := lg_lt hb (i := i)
    have k1 : lg b i + w < 18446744073709551616 := by unfold LB at hy; omega
    have hnext : ∀ r w', r + lg b i + w = lg a i + w' * LB → val (o ++ [r]) + val (b.take (i + 1)) = val (a.take (i + 1)) + LB ^ (i + 1) * w' := by
      intro r w' hr
      rw [val_take_lg, val_take_lg]
      exact subNext ho hv hr
    have hapc : ∀ r : Nat, ((lm o).length + [PV.int .u32 (r : Int)].length) * 4 ≤ 140737488355328 := by intro r; rw [lm_len, ho]; simp; omega
    have hap : ∀ r : Nat, lm o ++ [PV.int .u32 (r : Int)] = lm (o ++ [r]) := fun r => by rw [← lm_append]; rfl
    have k0 : ((0 : Int)) = ((0 : Nat) : Int) := rfl
    by_cases hlt : (lg a i : Int) < ((lg b i + w : Nat) : Int)
    · have k2 : lg a i + LB < 18446744073709551616 := by unfold LB at hx ⊢; omega
      have k2' : IntKind.u64.wrap ((lg a i : Int) + 4294967296) = ((lg a i + LB : Nat) : Int) := w64s k2
      have hr : lg a i + LB - (lg b i + w) < LB := by omega
      have hrel : lg a i + LB - (lg b i + w) + lg b i + w = lg a i + 1 * LB := by omega
      have k3 := w64d (x := lg a i + LB) (y := lg b i + w) (by omega) k2
      have hmm : (lg a i + LB - (lg b i + w)) % LB = lg a i + LB - (lg b i + w) := Nat.mod_eq_of_lt hr
      simp only [SA, setCells, Int.reduceLE, Int.reduceLT, ↓reduceIte, reduceCtorEq, Nat.reduceLT, Nat.reduceEqDiff, Nat.reduceAdd, Nat.reduceMul, Nat.reduceLeDiff, Nat.reduceBEq, lm_len, hin, kp2 (p162 ha (i := i)), kp2 (p162 hb (i := i)), w64s k1, hlt, k2', k3, w32, hmm, r_app hgl (hapc _), IntWalk.i64_in ((i : Int) + 1) (by omega)]
      rw [hap, ho]
      refine ih (i + 1, o ++ [lg a i + LB - (lg b i + w)], 1, nd σ g ++ [.prow 1 [PV.int .u32 ((lg a i + LB - (lg b i + w) : Nat) : Int)], .prow 1 (lm (o ++ [lg a i + LB - (lg b i + w)]))], .own (σ.length + 1) 0 (i + 1)) _
        ⟨by omega, by simp [ho], hlo.append (.one hr), hnext _ 1 hrel, Nat.le_refl _, GL.new2 (by rw [lm_len]; simp [ho]) rfl⟩ (by simp; omega) ?_
      rfl
    · have hr : lg a i - (lg b i + w) < LB := by omega
      have hrel : lg a i - (lg b i + w) + lg b i + w = lg a i + 0 * LB := by omega
      have k3 := w64d (x := lg a i) (y := lg b i + w) (by omega) (by unfold LB at hx; omega)
      have hmm : (lg a i - (lg b i + w)) % LB = lg a i - (lg b i + w) := Nat.mod_eq_of_lt hr
      simp only [SA, setCells, Int.reduceLE, Int.reduceLT, ↓reduceIte, reduceCtorEq, Nat.reduceLT, Nat.reduceEqDiff, Nat.reduceAdd, Nat.reduceMul, Nat.reduceLeDiff, Nat.reduceBEq, lm_len, hin, kp2 (p162 ha (i := i)), kp2 (p162 hb (i := i)), w64s k1, hlt, k3, w32, hmm, r_app hgl (hapc _), IntWalk.i64_in ((i : Int) + 1) (by omega)]
      rw [hap, ho]
      refine ih (i + 1, o ++ [lg a i - (lg b i + w)], 0, nd σ g ++ [.prow 1 [PV.int .u32 ((lg a i - (lg b i + w) : Nat) : Int)], .prow 1 (lm (o ++ [lg a i - (lg b i + w)]))], .own (σ.length + 1) 0 (i + 1)) _
        ⟨by omega, by simp [ho], hlo.append (.one hr), hnext _ 0 hrel, Nat.zero_le _, GL.new2 (by rw [lm_len]; simp [ho]) rfl⟩ (by simp; omega) ?_
      rfl
  · have hia : i = a.length := by omega
    subst hia
    have hbv : val (b.take a.length) = val b := by
      have h1 := val_split (l := b) (i := a.length)
      rcases Nat.lt_or_ge b.length a.length with h2 | h2
      · rw [List.take_of_length_le (by omega)]
      · have h1 := val_split (l := b) (i := a.length) h2
        rcases Nat.eq_zero_or_pos (val (b.drop a.length)) with h3 | h3
        · rw [h3, Nat.mul_zero, Nat.add_zero] at h1; exact h1.symm
        · have := Nat.le_mul_of_pos_right (LB ^ a.length) h3
          omega
    have hval : val o = val a - val b := by
      rw [List.take_length, hbv] at hv
      have h1 := val_lt hlo
      rw [ho] at h1
      rcases Nat.lt_or_ge w 1 with h2 | h2
      · obtain rfl : w = 0 := by omega
        rw [Nat.mul_zero] at hv
        omega
      · obtain rfl : w = 1 := by omega
        rw [Nat.mul_one] at hv
        omega
    have htr := p98 hlo (by omega)
    rw [hval] at htr
    simp only [SA, setCells, Int.reduceLE, Int.reduceLT, ↓reduceIte, reduceCtorEq, Nat.reduceLT, Nat.reduceEqDiff, Nat.reduceAdd, Nat.reduceMul, Nat.reduceLeDiff, Nat.reduceBEq, lm_len, hin, kf_gl htr hgl]
    rfl
theorem p141 {a b : List Nat} (ha : Lim a) (hb : Lim b) (hna : a.length ≤ 1099511627775) (hnb : b.length ≤ 1099511627775) (hab : val b ≤ val a) :
    Pu rp 116 [.sl (lm a), .sl (lm b)] (.tup [.p (.sl (lm (dgl (val a - val b)))), .p (.int .i64 0)]) := by
  refine pu_of rp141 ?_
  have hc : ¬ cmpI (val a) (val b) < 0 := by rw [lt_of_cmp]; omega
  simp only [f116, args0, SA, setCells, Int.reduceLE, Int.reduceLT, ↓reduceIte, reduceCtorEq, Nat.reduceLT, Nat.reduceEqDiff, Nat.reduceAdd, Nat.reduceMul, Nat.reduceLeDiff, Nat.reduceBEq, kp2 (p140 ha hb hna hnb), hc, kp2 (p163 ha hb hab hna (Nat.lt_of_le_of_lt hab (val_lt ha)))]
  exact back_t2 back1_p back1_p
theorem p147 {a b : List Nat} (ha : Lim a) (hb : Lim b) (hna : a.length ≤ 500000000000) (hnb : b.length ≤ 500000000000) : Pu rp 113 [.sl (lm a), .sl (lm b)] (.p (.sl (lm (dgl (val a * val b))))) := by
  refine pu_of rp147 ?_
  have w1 : IntKind.i64.wrap ((a.length : Int) + b.length) = ((a.length + b.length : Nat) : Int) := by rw [IntWalk.i64_in _ (by omega)]; omega
  have m1 : ((4 : Nat) : Int) * ((a.length + b.length : Nat) : Int) ≤ 281474976710656 := by omega
  have m2 : ((a.length + b.length : Nat) : Int) ≤ 9223372036854775807 := by omega
  simp only [f113, args0, SA, setCells, Int.reduceLE, Int.reduceLT, ↓reduceIte, reduceCtorEq, Nat.reduceLT, Nat.reduceEqDiff, Nat.reduceAdd, Nat.reduceMul, Nat.reduceLeDiff, Nat.reduceBEq, lm_len, w1, m1, m2, Int.natCast_nonneg, Int.toNat_natCast, Int.le_refl, lm_rep]
  refine loop_rule (β := Nat × List Nat) (fun t => ([(0, .p (.sl (lm a))), (1, .p (.sl (lm b))), (5, .own 0 0 (a.length + b.length)), (6, i64 t.1)], [.prow 1 (lm t.2)]))
    (fun t => t.1 ≤ a.length ∧ MulI a b t.1 t.2) (fun t => a.length - t.1) ((0, List.replicate (a.length + b.length) 0) : Nat × List Nat) rfl rfl ⟨Nat.zero_le _, .start⟩ ?_
  rintro ⟨i, O⟩ ⟨hi, hM⟩ ih
  simp only [] at hi hM ih ⊢
  by_cases hin : (i : Int) < a.length
  · have hix : i < a.length := by omega
    simp only [SA, setCells, Int.reduceLE, Int.reduceLT, ↓reduceIte, reduceCtorEq, Nat.reduceLT, Nat.reduceEqDiff, Nat.reduceAdd, Nat.reduceMul, Nat.reduceLeDiff, Nat.reduceBEq, hin, lm_len]
    refine loop_rule (β := Nat × List Nat × Nat) (fun t => ([(0, .p (.sl (lm a))), (1, .p (.sl (lm b))), (5, .own 0 0 (a.length + b.length)), (6, i64 i), (7, .p (.int .u64 (t.2.2 : Int))), (8, i64 t.1)], [.prow 1 (lm t.2.1)]))
      (fun t => t.1 ≤ b.length ∧ MulJ a b i t.1 t.2.1 t.2.2) (fun t => b.length - t.1) ((0, O, 0) : Nat × List Nat × Nat) rfl rfl ⟨Nat.zero_le _, hM.row⟩ ?_
    rintro ⟨j, P, c⟩ ⟨hj, hJ⟩ ih2
    simp only [] at hj hJ ih2 ⊢
    by_cases hjn : (j : Int) < b.length
    · have hjy : j < b.length := by omega
      have hkl : i + j < a.length + b.length := by omega
      have hk : i + j < P.length := by rw [hJ.len]; exact hkl
      obtain ⟨b1, b2, b3, b4⟩ := mulBound hJ.cl (ha.get hix) (hb.get hjy) (hJ.lim.get hk)
      have hJ' := hJ.step ha hb hix hjy hk
      rw [show c + (a[i] * b[j] + P[i + j]) = c + P[i + j] + a[i] * b[j] by omega] at b3 hJ'
      have b5 : c + P[i + j] < 18446744073709551616 := by omega
      have w2 : IntKind.i64.wrap ((i : Int) + j) = ((i + j : Nat) : Int) := by rw [IntWalk.i64_in _ (by omega)]; omega
      have hmm : (c + P[i + j] + a[i] * b[j]) % LB % LB = (c + P[i + j] + a[i] * b[j]) % LB := Nat.mod_mod _ _
      simp only [SA, setCells, Int.reduceLE, Int.reduceLT, ↓reduceIte, reduceCtorEq, Nat.reduceLT, Nat.reduceEqDiff, Nat.reduceAdd, Nat.reduceMul, Nat.reduceLeDiff, Nat.reduceBEq, lm_len, hjn, lm_get hix, lm_get hjy, lm_get hk, w64l (ha.get hix), w64l (hb.get hjy), w64l (hJ.lim.get hk), w64m b2, w64s b5, w64s b3, w2, binV_rem nLB, remLB, w32, hmm, binV_quo nLB, quoLB b3, Int.natCast_nonneg, Int.toNat_natCast, hkl, lm_set, IntWalk.i64_in ((j : Int) + 1) (by omega)]
      refine ih2 (j + 1, P.set (i + j) ((c + P[i + j] + a[i] * b[j]) % LB), (c + P[i + j] + a[i] * b[j]) / LB) _ ⟨by omega, hJ'⟩ (by simp; omega) ?_
      rfl
    · obtain rfl : j = b.length := by omega
      have hkl : i + b.length < a.length + b.length := by omega
      have hk : i + b.length < P.length := by rw [hJ.len]; exact hkl
      have w2 : IntKind.i64.wrap ((i : Int) + b.length) = ((i + b.length : Nat) : Int) := by rw [IntWalk.i64_in _ (by omega)]; omega
      have hcl : c % LB = c := Nat.mod_eq_of_lt hJ.cl
      simp only [SA, setCells, Int.reduceLE, Int.reduceLT, ↓reduceIte, reduceCtorEq, Nat.reduceLT, Nat.reduceEqDiff, Nat.reduceAdd, Nat.reduceMul, Nat.reduceLeDiff, Nat.reduceBEq, lm_len, hjn, w2, w32, hcl, lm_get hk, Int.natCast_nonneg, Int.toNat_natCast, hkl, lm_set, IntWalk.i64_in ((i : Int) + 1) (by omega)]
      refine ih (i + 1, P.set (i + b.length) c) _ ⟨by omega, hJ.done hix⟩ (by simp; omega) ?_
      rfl
  · obtain rfl : i = a.length := by omega
    have htr := p98 hM.lim (by rw [hM.len]; omega)
    rw [hM.v, List.take_length] at htr
    simp only [SA, setCells, Int.reduceLE, Int.reduceLT, ↓reduceIte, reduceCtorEq, Nat.reduceLT, Nat.reduceEqDiff, Nat.reduceAdd, Nat.reduceMul, Nat.reduceLeDiff, Nat.reduceBEq, lm_len, hin]
    rw [kf_own htr rfl (by rw [lm_len, hM.len])]
    simp only [SA, setCells, Int.reduceLE, Int.reduceLT, ↓reduceIte, reduceCtorEq, Nat.reduceLT, Nat.reduceEqDiff, Nat.reduceAdd, Nat.reduceMul, Nat.reduceLeDiff, Nat.reduceBEq]
    rfl
end Go.Proofs.YtdieenbfdeaffaaGreat.VBn

namespace Go.Proofs.YtdieenbfdeaffaaGreat.VBn
open Go Vpi
set_option maxRecDepth 100000
set_option linter.unusedSimpArgs false
set_option linter.unusedVariables false
theorem rp82 : rp 106 = some f106 := rfl
theorem rp161 : rp 140 = some f140 := rfl
theorem rp164 : rp 143 = some f143 := rfl
theorem rp160 : rp 139 = some f139 := rfl
theorem bl_half {w : Nat} (h : w ≠ 0) : bl w = 1 + bl (w / 2) := by
  by_cases h1 : w / 2 = 0
  · obtain rfl : w = 1 := by omega
    decide
  · have := bl_shift (x := w) (k := 1) (by simpa using h1)
    simpa using this
theorem bl_top {l : List Nat} {m : Nat} (hl : Lim l) (hm : m < l.length) (h0 : l[m] ≠ 0) (hz : val (l.drop (m + 1)) = 0) : bl (val l) = 32 * m + bl l[m] := by
  have s := val_split (l := l) (i := m) (by omega)
  rw [List.drop_eq_getElem_cons hm, val, hz, Nat.mul_zero, Nat.add_zero] at s
  have hlow := val_lt (hl.take (n := m))
  rw [List.length_take, Nat.min_eq_left (by omega)] at hlow
  have hLB : LB ^ m = 2 ^ (32 * m) := by rw [Nat.pow_mul]; rfl
  rw [hLB] at s hlow
  obtain ⟨b1, b2, b3⟩ := bl_spec h0
  have hp : 0 < 2 ^ (32 * m) * l[m] := Nat.mul_pos (Nat.pow_pos (by decide)) (Nat.pos_of_ne_zero h0)
  refine bl_eq (by omega) ?_ ?_
  · rw [show 32 * m + bl l[m] - 1 = 32 * m + (bl l[m] - 1) by omega, Nat.pow_add]
    exact Nat.le_trans (Nat.mul_le_mul_left _ b1) (Nat.le_trans (Nat.le_add_left _ _) (Nat.le_of_eq s.symm))
  · rw [Nat.pow_add]
    calc val l = _ := s
      _ < 2 ^ (32 * m) * (l[m] + 1) := by rw [Nat.mul_add, Nat.mul_one]; omega
      _ ≤ _ := Nat.mul_le_mul_left _ b2
theorem half32 {x : Nat} (h : x < LB) : IntKind.u32.wrap ((x : Int).tdiv 2) = ((x / 2 : Nat) : Int) := by
  have : (x : Int).tdiv 2 = ((x / 2 : Nat) : Int) := rfl
  rw [this, w32, Nat.mod_eq_of_lt (Nat.lt_of_le_of_lt (Nat.div_le_self _ _) h)]
theorem p82 {l : List Nat} (hl : Lim l) (hn : l.length ≤ 1099511627775) : Pu rp 106 [.sl (lm l)] (.p (.int .i64 (bl (val l) : Nat))) := by
  refine pu_of rp82 ?_
  have w1 : IntKind.i64.wrap ((l.length : Int) - 1) = (l.length : Int) - 1 := IntWalk.i64_in _ (by omega)
  simp only [f106, args0, SA, setCells, Int.reduceLE, Int.reduceLT, ↓reduceIte, reduceCtorEq, Nat.reduceLT, Nat.reduceEqDiff, Nat.reduceAdd, Nat.reduceMul, Nat.reduceLeDiff, Nat.reduceBEq, lm_len, w1]
  refine loop_rule (β := Nat) (fun n => ([(0, .p (.sl (lm l))), (3, i64 ((n : Int) - 1))], []))
    (fun n => n ≤ l.length ∧ val (l.drop n) = 0) (fun n => n) l.length rfl rfl ⟨Nat.le_refl _, by rw [List.drop_length]; rfl⟩ ?_
  rintro n ⟨hnl, hd⟩ ih
  by_cases h0 : ((n : Int) - 1) ≥ 0
  · obtain ⟨m, rfl⟩ : ∃ m, n = m + 1 := ⟨n - 1, by omega⟩
    have hm : m < l.length := hnl
    have hi : ((m + 1 : Nat) : Int) - 1 = (m : Int) := by omega
    rw [hi] at h0
    have hw : IntKind.i64.wrap ((m : Int) - 1) = (m : Int) - 1 := IntWalk.i64_in _ (by omega)
    by_cases hx : l[m] = 0
    · have e : (((l[m] : Nat) : Int) != 0) = false := by simp [hx]
      simp only [SA, setCells, Int.reduceLE, Int.reduceLT, ↓reduceIte, reduceCtorEq, Nat.reduceLT, Nat.reduceEqDiff, Nat.reduceAdd, Nat.reduceMul, Nat.reduceLeDiff, Nat.reduceBEq, hi, h0, Int.natCast_nonneg, Int.toNat_natCast, lm_get hm, e, hw]
      refine ih m _ ⟨by omega, ?_⟩ (by omega) ?_
      · rw [List.drop_eq_getElem_cons hm, val, hd, hx, Nat.mul_zero]
      · rfl
    · have e : (((l[m] : Nat) : Int) != 0) = true := by simp [hx]
      have w2 : IntKind.i64.wrap (32 * (m : Int)) = ((32 * m : Nat) : Int) := by rw [IntWalk.i64_in _ (by omega)]; omega
      have hbl := bl_top hl hm hx hd
      have hb32 := bl_le (hl.get hm)
      have hgm := lm_get hm
      have hlB := hl.get hm
      simp only [SA, setCells, Int.reduceLE, Int.reduceLT, ↓reduceIte, reduceCtorEq, Nat.reduceLT, Nat.reduceEqDiff, Nat.reduceAdd, Nat.reduceMul, Nat.reduceLeDiff, Nat.reduceBEq, hi, h0, Int.natCast_nonneg, Int.toNat_natCast, hgm, e, w2]
      rw [hbl]
      generalize l[m] = w0 at *
      refine loop_rule (β := Nat × Nat) (fun t => ([(4, i64 t.1), (5, .p (.int .u32 (t.2 : Int)))], []))
        (fun t => t.1 + bl t.2 = 32 * m + bl w0 ∧ t.2 < LB) (fun t => t.2) ((32 * m, w0) : Nat × Nat) rfl rfl ⟨rfl, hlB⟩ ?_
      rintro ⟨c, w⟩ ⟨hc, hw⟩ ih2
      simp only [] at hc hw ih2 ⊢
      by_cases hw0 : (w : Int) > 0
      · have hh := bl_half (w := w) (by omega)
        have w3 : IntKind.i64.wrap ((c : Int) + 1) = ((c + 1 : Nat) : Int) := by rw [IntWalk.i64_in _ (by omega)]; omega
        simp only [SA, setCells, Int.reduceLE, Int.reduceLT, ↓reduceIte, reduceCtorEq, Nat.reduceLT, Nat.reduceEqDiff, Nat.reduceAdd, Nat.reduceMul, Nat.reduceLeDiff, Nat.reduceBEq, hw0, w3, binV_quo (b := 2) (by decide), half32 hw]
        refine ih2 (c + 1, w / 2) _ ⟨by simp only []; omega, by simp only []; omega⟩ (by simp; omega) ?_
        rfl
      · obtain rfl : w = 0 := by omega
        rw [bl_zero, Nat.add_zero] at hc
        simp only [SA, setCells, Int.reduceLE, Int.reduceLT, ↓reduceIte, reduceCtorEq, Nat.reduceLT, Nat.reduceEqDiff, Nat.reduceAdd, Nat.reduceMul, Nat.reduceLeDiff, Nat.reduceBEq, hw0, ← hc]
        rfl
  · obtain rfl : n = 0 := by omega
    have h0' : ¬ (((0 : Nat) : Int) - 1 ≥ 0) := by omega
    simp only [SA, setCells, Int.reduceLE, Int.reduceLT, ↓reduceIte, reduceCtorEq, Nat.reduceLT, Nat.reduceEqDiff, Nat.reduceAdd, Nat.reduceMul, Nat.reduceLeDiff, Nat.reduceBEq, h0']
    rw [List.drop_zero] at hd
    rw [hd, bl_zero]
    rfl
theorem p161 {n : Nat} (hn : n < 32) : Pu rp 140 [.int .i64 (n : Int)] (.p (.sl (lm [2 ^ n]))) := by
  refine pu_of rp161 ?_
  have e1 : IntKind.i64.wrap ((n : Int).tdiv 32) = 0 := by
    have : (n : Int).tdiv 32 = 0 := by rw [Int.tdiv_eq_ediv_of_nonneg (by omega)]; omega
    rw [this]; decide
  have e2 : (n : Int).tmod 32 = (n : Int) := by rw [Int.tmod_eq_emod_of_nonneg (by omega)]; omega
  have e3 : IntKind.u64.wrap (n : Int) = (n : Int) := w64 (by omega)
  have e4 : ¬ ((0 : Int) < 0) := by omega
  have hsh : IntKind.u32.wrap (1 * 2 ^ min n IntKind.u32.bits) = ((2 ^ n : Nat) : Int) := by
    have h1 : min n IntKind.u32.bits = n := by show min n 32 = n; omega
    rw [h1, Int.one_mul, show (2 : Int) ^ n = ((2 ^ n : Nat) : Int) by push_cast; rfl, w32, Nat.mod_eq_of_lt]
    have := Nat.pow_lt_pow_right (a := 2) (by decide) hn
    unfold LB; omega
  have hapc : (([] : List PV).length + [PV.int .u32 ((2 ^ n : Nat) : Int)].length) * 4 ≤ 140737488355328 := by simp
  simp only [f140, args0, SA, setCells, Int.reduceLE, Int.reduceLT, ↓reduceIte, reduceCtorEq, Nat.reduceLT, Nat.reduceEqDiff, Nat.reduceAdd, Nat.reduceMul, Nat.reduceLeDiff, Nat.reduceBEq, lm_len]
  refine loop_rule (β := Unit) (fun t => ([(0, .p (.int .i64 (n : Int))), (3, .nils), (4, i64 0)], [])) (fun _ => True) (fun _ => 0) () rfl rfl trivial ?_
  rintro ⟨⟩ - -
  simp only [SA, setCells, Int.reduceLE, Int.reduceLT, ↓reduceIte, reduceCtorEq, Nat.reduceLT, Nat.reduceEqDiff, Nat.reduceAdd, Nat.reduceMul, Nat.reduceLeDiff, Nat.reduceBEq, binV_quo (b := 32) (by decide), binV_rem (b := 32) (by decide), e1, e2, e3, e4, Int.natCast_nonneg, Int.toNat_natCast, hsh, r_append, content, cont_nils, Nat.reduceLeDiff]
  rfl
theorem p164 {a : List Nat} {n : Nat} (ha : Lim a) (hna : a.length ≤ 500000000000) (hn : n < 32) : Pu rp 143 [.sl (lm a), .int .i64 (n : Int)] (.tup [.p (.sl (lm (dgl (val a / 2 ^ n)))), .p (.int .i64 0)]) := by
  refine pu_of rp164 ?_
  have e0 : ¬ ((n : Int) < 0) := by omega
  by_cases hbb : (n : Int) ≥ (bl (val a) : Nat)
  · have hz : val a / 2 ^ n = 0 := by
      refine Nat.div_eq_of_lt ?_
      by_cases h : val a = 0
      · rw [h]; exact Nat.pow_pos (by decide)
      · exact Nat.lt_of_lt_of_le (bl_spec h).2.1 (Nat.pow_le_pow_right (by decide) (by omega))
    simp only [f143, args0, SA, setCells, Int.reduceLE, Int.reduceLT, ↓reduceIte, reduceCtorEq, Nat.reduceLT, Nat.reduceEqDiff, Nat.reduceAdd, Nat.reduceMul, Nat.reduceLeDiff, Nat.reduceBEq, e0, kp1 (p82 ha (by omega)), hbb]
    rw [hz, dgl_zero]
    exact back_t2 back1_nils back1_p
  have e1 : IntKind.i64.wrap ((n : Int).tdiv 32) = 0 := by
    have : (n : Int).tdiv 32 = 0 := by rw [Int.tdiv_eq_ediv_of_nonneg (by omega)]; omega
    rw [this]; decide
  have e2 : (n : Int).tmod 32 = (n : Int) := by rw [Int.tmod_eq_emod_of_nonneg (by omega)]; omega
  have e3 : IntKind.u64.wrap (n : Int) = (n : Int) := w64 (by omega)
  simp only [f143, args0, SA, setCells, Int.reduceLE, Int.reduceLT, ↓reduceIte, reduceCtorEq, Nat.reduceLT, Nat.reduceEqDiff, Nat.reduceAdd, Nat.reduceMul, Nat.reduceLeDiff, Nat.reduceBEq, e0, kp1 (p82 ha (by omega)), hbb, binV_quo (b := 32) (by decide), e1]
  refine loop_rule (β := Nat × List Nat × Store × CV) (fun t => ([(0, .p (.sl (lm a))), (1, .p (.int .i64 (n : Int))), (6, t.2.2.2), (7, i64 t.1)], t.2.2.1))
    (fun t => t.1 ≤ a.length ∧ t.2.1.length = t.1 ∧ Lim t.2.1 ∧ val t.2.1 + LB ^ t.1 * (val (a.drop t.1) / 2 ^ n) = val a / 2 ^ n ∧ GL t.2.2.1 1 t.2.2.2 (lm t.2.1)) (fun t => a.length - t.1) ((0, [], [], .nils) : Nat × List Nat × Store × CV) rfl rfl ⟨Nat.zero_le _, rfl, (fun _ hx => nomatch hx), by simp [val], .nil⟩ ?_
  rintro ⟨i, o, σ, g⟩ ⟨hi, ho, hlo, hv, hgl⟩ ih
  simp only [] at hi ho hlo hv hgl ih ⊢
  by_cases hin : (i : Int) < a.length
  · have hix : i < a.length := by omega
    obtain ⟨d, hd1, hd2, hd3⟩ := shr_next (W := val (a.drop (i + 1))) (lg_lt ha (i := i)) (show n ≤ 32 by omega)
    rw [drop_mod ha] at hd1
    have hx := lg_lt ha (i := i)
    have hy := lg_lt ha (i := i + 1)
    have hmul : lg a (i + 1) * LB < 18446744073709551616 ∧ lg a i + lg a (i + 1) * LB < 18446744073709551616 := by
      have := Nat.mul_le_mul_right LB (show lg a (i + 1) ≤ LB - 1 by omega)
      rw [show (LB - 1) * LB = 18446744069414584320 by decide] at this
      unfold LB at *
      omega
    have w5 : IntKind.u64.wrap ((lg a (i + 1) : Int) * 4294967296) = ((lg a (i + 1) * LB : Nat) : Int) := w64m (y := LB) hmul.1
    have w6 := w64s (x := lg a i) (y := lg a (i + 1) * LB) hmul.2
    have w7 : IntKind.i64.wrap ((i : Int) + 1) = ((i + 1 : Nat) : Int) := by rw [IntWalk.i64_in _ (by omega)]; omega
    have hmm : (lg a i + lg a (i + 1) * LB) / 2 ^ n % LB = d := by rw [Nat.mul_comm]; exact hd1
    have hdd : d % LB = d := Nat.mod_eq_of_lt hd2
    have hapc : ((lm o).length + [PV.int .u32 (d : Int)].length) * 4 ≤ 140737488355328 := by rw [lm_len, ho]; simp; omega
    have hap : lm o ++ [PV.int .u32 (d : Int)] = lm (o ++ [d]) := by rw [← lm_append]; rfl
    simp only [SA, setCells, Int.reduceLE, Int.reduceLT, ↓reduceIte, reduceCtorEq, Nat.reduceLT, Nat.reduceEqDiff, Nat.reduceAdd, Nat.reduceMul, Nat.reduceLeDiff, Nat.reduceBEq, lm_len, hin, kp2 (p162 ha (i := i)), w7, kp2 (p162 ha (i := i + 1)), w5, w6, binV_rem (b := 32) (by decide), e2, e3, Int.natCast_nonneg, Int.toNat_natCast, shrv hn, binV_rem nLB, remLB, hmm, w32, hdd, r_app hgl hapc, hap, ho]
    refine ih (i + 1, o ++ [d], nd σ g ++ [.prow 1 [PV.int .u32 (d : Int)], .prow 1 (lm (o ++ [d]))], .own (σ.length + 1) 0 (i + 1)) _
      ⟨by omega, by simp [ho], hlo.append (.one hd2), ?_, GL.new2 (by rw [lm_len]; simp [ho]) rfl⟩ (by simp; omega) ?_
    · rw [val_append, val_one, ho, ← hv, drop_lg (i := i), hd3, Nat.pow_succ, Nat.mul_add, Nat.mul_assoc, Nat.add_assoc]
    · rfl
  · obtain rfl : i = a.length := by omega
    rw [List.drop_length, val, Nat.zero_div, Nat.mul_zero, Nat.add_zero] at hv
    have htr := p98 hlo (by omega)
    rw [hv] at htr
    simp only [SA, setCells, Int.reduceLE, Int.reduceLT, ↓reduceIte, reduceCtorEq, Nat.reduceLT, Nat.reduceEqDiff, Nat.reduceAdd, Nat.reduceMul, Nat.reduceLeDiff, Nat.reduceBEq, lm_len, hin, kf_gl htr hgl]
    exact back_t2 back1_p back1_p
theorem p160 {a : List Nat} {q : Nat} (ha : Lim a) (hq : 0 < q) (hq' : q < LB) (hna : a.length ≤ 1099511627775) :
    Pu rp 139 [.sl (lm a), .int .u64 (q : Int)] (.tup [.p (.sl (lm (dgl (val a / q)))), .p (.int .u64 ((val a % q : Nat) : Int))]) := by
  refine pu_of rp160 ?_
  have m1 : ((4 : Nat) : Int) * (a.length : Int) ≤ 281474976710656 := by omega
  have m2 : (a.length : Int) ≤ 9223372036854775807 := by omega
  have w1 : IntKind.i64.wrap ((a.length : Int) - 1) = (a.length : Int) - 1 := IntWalk.i64_in _ (by omega)
  have hq0 : (q : Int) ≠ 0 := by omega
  simp only [f139, args0, SA, setCells, Int.reduceLE, Int.reduceLT, ↓reduceIte, reduceCtorEq, Nat.reduceLT, Nat.reduceEqDiff, Nat.reduceAdd, Nat.reduceMul, Nat.reduceLeDiff, Nat.reduceBEq, lm_len, m1, m2, w1, Int.natCast_nonneg, Int.toNat_natCast, Int.le_refl, lm_rep]
  refine loop_rule (β := Nat × List Nat × Nat) (fun t => ([(0, .p (.sl (lm a))), (1, .p (.int .u64 (q : Int))), (6, .own 0 0 a.length), (7, .p (.int .u64 (t.2.2 : Int))), (8, i64 ((t.1 : Int) - 1))], [.prow 1 (lm (List.replicate t.1 0 ++ t.2.1))]))
    (fun t => t.1 ≤ a.length ∧ t.2.1.length = a.length - t.1 ∧ Lim t.2.1 ∧ t.2.2 < q ∧ val (a.drop t.1) = val t.2.1 * q + t.2.2) (fun t => t.1) ((a.length, [], 0) : Nat × List Nat × Nat) rfl (by simp) ⟨Nat.le_refl _, by simp, (fun _ hx => nomatch hx), hq, by simp [val]⟩ ?_
  rintro ⟨n, o, r⟩ ⟨hn, ho, hlo, hr, hv⟩ ih
  simp only [] at hn ho hlo hr hv ih ⊢
  by_cases h0 : ((n : Int) - 1) ≥ 0
  · obtain ⟨m, rfl⟩ : ∃ m, n = m + 1 := ⟨n - 1, by omega⟩
    have hm : m < a.length := hn
    have hi : ((m + 1 : Nat) : Int) - 1 = (m : Int) := by omega
    rw [hi] at h0
    have hw : IntKind.i64.wrap ((m : Int) - 1) = (m : Int) - 1 := IntWalk.i64_in _ (by omega)
    have hrl : r < LB := Nat.lt_trans hr hq'
    have hs : r * LB + a[m] < 18446744073709551616 := by
      have := Nat.mul_le_mul_right LB (show r ≤ LB - 1 by omega)
      have h1 := ha.get hm
      rw [show (LB - 1) * LB = 18446744069414584320 by decide] at this
      unfold LB at *
      omega
    have hsm : IntKind.u64.wrap ((r : Int) * 4294967296) = ((r * LB : Nat) : Int) := w64m (y := LB) (by omega)
    have hdl : (r * LB + a[m]) / q < LB := by
      rw [Nat.div_lt_iff_lt_mul hq]
      have h1 := ha.get hm
      have h2 := Nat.mul_le_mul_right LB (show r + 1 ≤ q from hr)
      rw [Nat.add_mul, Nat.one_mul] at h2
      rw [Nat.mul_comm LB q]
      omega
    have hrep : 0 :: (List.replicate m 0 ++ o) = List.replicate (m + 1) 0 ++ o := rfl
    have hget : (lm (0 :: (List.replicate m 0 ++ o)))[m]? = some (.int .u32 0) := by
      have : (0 :: (List.replicate m 0 ++ o))[m]? = some 0 := by rw [hrep, List.getElem?_append_left (by simp)]; simp
      exact lm_get? this
    have hset : ∀ v, (0 :: (List.replicate m 0 ++ o)).set m v = List.replicate m 0 ++ (v :: o) := by
      intro v
      rw [hrep, List.replicate_succ', List.append_assoc, List.set_append_right _ _ (by simp)]
      simp
    have hmod := Nat.mod_eq_of_lt hdl
    simp only [SA, setCells, Int.reduceLE, Int.reduceLT, ↓reduceIte, reduceCtorEq, Nat.reduceLT, Nat.reduceEqDiff, Nat.reduceAdd, Nat.reduceMul, Nat.reduceLeDiff, Nat.reduceBEq, lm_len, hi, h0, hsm, lm_get hm, w64l (ha.get hm), w64s hs, quo64 hs, rem64, w32, hmod, binV_quo hq0, binV_rem hq0, Int.natCast_nonneg, Int.toNat_natCast, hm, hget, lm_set, hset, hw]
    refine ih (m, (r * LB + a[m]) / q :: o, (r * LB + a[m]) % q) _ ⟨by omega, by simp [ho]; omega, ?_, Nat.mod_lt _ hq, ?_⟩ (by simp) ?_
    · intro y hy
      rcases List.mem_cons.1 hy with rfl | hy
      · exact hdl
      · exact hlo y hy
    · rw [List.drop_eq_getElem_cons hm, val, val, hv]
      have h1 := Nat.div_add_mod (r * LB + a[m]) q
      have g1 : LB * (val o * q + r) = LB * (val o * q) + LB * r := Nat.mul_add ..
      have g2 : ((r * LB + a[m]) / q + LB * val o) * q = (r * LB + a[m]) / q * q + LB * val o * q := Nat.add_mul ..
      have g3 : LB * val o * q = LB * (val o * q) := Nat.mul_assoc ..
      have g4 : (r * LB + a[m]) / q * q = q * ((r * LB + a[m]) / q) := Nat.mul_comm ..
      have g5 : r * LB = LB * r := Nat.mul_comm ..
      rw [g1, g2, g3, g4]
      show a[m] + (LB * (val o * q) + LB * r) = q * ((r * LB + a[m]) / q) + LB * (val o * q) + (r * LB + a[m]) % q
      omega
    · rfl
  · obtain rfl : n = 0 := by omega
    rw [List.drop_zero] at hv
    have hvq : val o = val a / q := by
      rw [hv, Nat.mul_comm, Nat.mul_add_div hq, Nat.div_eq_of_lt hr]; omega
    have hvr : r = val a % q := by
      rw [hv, Nat.mul_comm, Nat.mul_add_mod, Nat.mod_eq_of_lt hr]
    have htr := p98 hlo (by omega)
    rw [hvq] at htr
    have h0' : ¬ (((0 : Nat) : Int) - 1 ≥ 0) := by omega
    rw [List.replicate_zero, List.nil_append]
    simp only [SA, setCells, Int.reduceLE, Int.reduceLT, ↓reduceIte, reduceCtorEq, Nat.reduceLT, Nat.reduceEqDiff, Nat.reduceAdd, Nat.reduceMul, Nat.reduceLeDiff, Nat.reduceBEq, lm_len, h0']
    rw [kf_own htr rfl (show a.length = (lm o).length by rw [lm_len, ho]; omega)]
    simp only [SA, setCells, Int.reduceLE, Int.reduceLT, ↓reduceIte, reduceCtorEq, Nat.reduceLT, Nat.reduceEqDiff, Nat.reduceAdd, Nat.reduceMul, Nat.reduceLeDiff, Nat.reduceBEq]
    rw [← hvr]
    exact back_t2 back1_p back1_p
end Go.Proofs.YtdieenbfdeaffaaGreat.VBn

namespace Go.Proofs.YtdieenbfdeaffaaGreat.VBn
open Go Vpi
set_option maxRecDepth 100000
set_option linter.unusedSimpArgs false
set_option linter.unusedVariables false
theorem rp135 : rp 109 = some f109 := rfl
theorem rp99 : rp 112 = some f112 := rfl
theorem r_app2 {rp : RProg} {rs : List RRes} {base : Nat} {d : Option Nat} {l : List LOp} {dr : Dr} {ks : List KI} {e : Env} {σ : Store} {Q : CV → Store → Prop} {sz bytes : Nat} {s x : Opd} {xs ys : List PV} {g : CV}
    (hg : g = .nils ∧ ys = [] ∨ g = .p (.sl ys)) (hc : (xs.length + ys.length) * bytes ≤ 140737488355328) (hz : allSz sz ys = true) (hs : vl e s = .own σ.length 0 xs.length) (hx : vl e x = g) :
    ExR rp rs base (⟨d, none, none, .append sz bytes s x⟩ :: l) dr ks e (σ ++ [.prow sz xs]) Q = ExR rp rs base l dr ks (sto d (.own (σ.length + 1) 0 (xs.length + ys.length)) e) (σ ++ [.dead, .prow sz (xs ++ ys)]) Q := by
  rw [r_append]
  have h1 : content (σ ++ [.prow sz xs]) (.own σ.length 0 xs.length) = some xs := cont_own (s := sz) (by simp) rfl
  have h2 : content (σ ++ [.prow sz xs]) (vl e x) = some ys := by
    rw [hx]
    rcases hg with ⟨rfl, rfl⟩ | rfl
    · rfl
    · rfl
  simp only [ev, hs, h1, h2, hc, hz, and_self, if_true, get_app0, List.getElem?_cons_zero, set_app0, List.set_cons_zero, push_none, Option.map_some, ke_some, List.length_append, List.length_cons, List.length_nil, List.append_assoc, List.cons_append, List.nil_append, Nat.zero_add]
theorem lg_dgl {x : Nat} : ∀ {j : Nat}, lg (dgl x) j = x / LB ^ j % LB := by
  intro j
  induction j generalizing x with
  | zero =>
    by_cases h : x = 0
    · subst h; rw [dgl_zero]; simp [lg]
    · rw [dgl_pos h]; simp [lg]
  | succ j ih =>
    by_cases h : x = 0
    · subst h; rw [dgl_zero]; simp [lg]
    · rw [dgl_pos h, Nat.pow_succ, Nat.mul_comm, ← Nat.div_div_eq_div_mul, ← ih]; simp [lg]
theorem replace_top {n : Nat} {q : List Nat} : 0 :: (List.replicate n 0 ++ q) = List.replicate (n + 1) 0 ++ q := rfl
theorem guess_ge {R V k : Nat} (hk : 1 ≤ k) (hV : V < LB ^ k) (hV2 : LB ^ (k - 1) ≤ V) (hR : R < V * LB) :
    R / V ≤ R / LB ^ (k - 1) / (V / LB ^ (k - 1)) ∧ R / V < LB := by
  have hP : 0 < LB ^ (k - 1) := Nat.pow_pos LB_pos
  have hV0 : 0 < V := Nat.lt_of_lt_of_le hP hV2
  refine ⟨?_, (Nat.div_lt_iff_lt_mul hV0).2 (by rw [Nat.mul_comm]; exact hR)⟩
  rw [Nat.div_div_eq_div_mul]
  refine Nat.div_le_div_left ?_ ?_
  · exact Nat.mul_div_le V _
  · exact Nat.mul_pos hP (Nat.div_pos hV2 hP)
theorem p135s {a b : List Nat} (ha : Lim a) (hb : Lim b) (hna : a.length ≤ 400000000000) (hnb : b.length ≤ 400000000000) (h1 : (dgl (val b)).length = 1) :
    Pu rp 109 [.sl (lm a), .sl (lm b)] (.tup [.p (.sl (lm (dgl (val a / val b)))), .p (.sl (lm (dgl (val a % val b)))), .p (.int .i64 0)]) := by
  refine pu_of rp135 ?_
  have hne : val b ≠ 0 := by intro h; rw [h, dgl_zero] at h1; cases h1
  obtain ⟨q, hq⟩ := List.length_eq_one_iff.1 h1
  have hvq : val b = q := by rw [← val_dgl (val b), hq, val_one]
  have hqB : q < LB := (dgl_lim (val b)) q (by rw [hq]; exact List.mem_singleton.2 rfl)
  have e : (((1 : Nat) : Int) == 0) = false := rfl
  have e' : (((1 : Nat) : Int) == 1) = true := rfl
  have k2 := p98 hb (by omega)
  have hs := p160 ha (show 0 < q by omega) hqB (by omega)
  rw [hq] at k2
  have hrl : val a % q < LB := Nat.lt_trans (Nat.mod_lt _ (by omega)) hqB
  have htr := p98 (l := [val a % q]) (.one hrl) (by simp)
  rw [val_one] at htr
  have g0 : (lm [q])[(0 : Nat)]? = some (.int .u32 (q : Int)) := rfl
  have i0 : Int.toNat 0 = 0 := rfl
  have hmm : val a % q % LB = val a % q := Nat.mod_eq_of_lt hrl
  simp only [f109, args0, SA, setCells, Int.reduceLE, Int.reduceLT, ↓reduceIte, reduceCtorEq, Nat.reduceLT, Nat.reduceEqDiff, Nat.reduceAdd, Nat.reduceMul, Nat.reduceLeDiff, Nat.reduceBEq, kp1 k2, lm_len, e, e', kp2 hs, i0, g0, w64l hqB, w32, hmm]
  rw [kf_own (n := 1) htr rfl rfl]
  simp only [SA, setCells, Int.reduceLE, Int.reduceLT, ↓reduceIte, reduceCtorEq, Nat.reduceLT, Nat.reduceEqDiff, Nat.reduceAdd, Nat.reduceMul, Nat.reduceLeDiff, Nat.reduceBEq]
  rw [hvq]
  exact back_t3 back1_p back1_p back1_p
theorem p135g {a b : List Nat} (ha : Lim a) (hb : Lim b) (hna : a.length ≤ 400000000000) (hnb : b.length ≤ 400000000000) (h1 : 2 ≤ (dgl (val b)).length) :
    Pu rp 109 [.sl (lm a), .sl (lm b)] (.tup [.p (.sl (lm (dgl (val a / val b)))), .p (.sl (lm (dgl (val a % val b)))), .p (.int .i64 0)]) := by
  refine pu_of rp135 ?_
  have hdb : (dgl (val b)).length ≤ b.length := dgl_len (val_lt hb)
  have hne : val b ≠ 0 := by intro h; rw [h, dgl_zero] at h1; simp at h1
  have k2 := p98 hb (by omega)
  obtain ⟨t, ht⟩ : ∃ t, (dgl (val b))[(dgl (val b)).length - 1]? = some t := ⟨_, List.getElem?_eq_getElem (by omega)⟩
  obtain ⟨n, hn⟩ : ∃ n, n = 32 - bl t := ⟨_, rfl⟩
  obtain ⟨hvl, hn32, ht0⟩ := norm_len hne ht hn
  have hm : (dgl (val b)).length - 1 < (dgl (val b)).length := by omega
  rw [List.getElem?_eq_getElem hm, Option.some.injEq] at ht
  have hbits := bl_top (dgl_lim (val b)) hm (by rw [ht]; exact ht0) (by rw [show (dgl (val b)).length - 1 + 1 = (dgl (val b)).length by omega, List.drop_length]; rfl)
  have htB : t < LB := by rw [← ht]; exact (dgl_lim (val b)).get hm
  have hb32 := bl_le htB
  rw [ht] at hbits
  have h82 := p82 (dgl_lim (val b)) (by omega)
  have hbn : val b * 2 ^ n ≠ 0 := Nat.mul_ne_zero hne (Nat.ne_of_gt (Nat.pow_pos (by decide)))
  have h2l : Lim [2 ^ n] := .one (by have := Nat.pow_lt_pow_right (a := 2) (by decide) hn32; unfold LB; omega)
  have hu := p147 ha h2l (by omega) (by simp)
  have hv := p147 (dgl_lim (val b)) h2l (by omega) (by simp)
  rw [val_dgl] at hv
  rw [val_one] at hu hv
  have hul : (dgl (val a * 2 ^ n)).length ≤ a.length + 1 := dgl_len (by
    rw [Nat.pow_succ]
    exact Nat.mul_lt_mul'' (val_lt ha) (h2l _ (List.mem_singleton.2 rfl)))
  have hV2 : LB ^ ((dgl (val b)).length - 1) ≤ val b * 2 ^ n := by
    rcases Nat.lt_or_ge (val b * 2 ^ n) (LB ^ ((dgl (val b)).length - 1)) with h | h
    · have := dgl_len h; omega
    · exact h
  have hVlt : val b * 2 ^ n < LB ^ (dgl (val b)).length := by
    have := val_lt (dgl_lim (val b * 2 ^ n)); rwa [val_dgl, hvl] at this
  have hVL := dgl_lim (val b * 2 ^ n)
  have hvV := val_dgl (val b * 2 ^ n)
  have h82e : bl (val (dgl (val b))) = 32 * ((dgl (val b)).length - 1) + bl t := hbits
  rw [hbits] at h82
  have hkl : (dgl (val b)).length ≤ 400000000000 := by omega
  have h164 := fun (r : List Nat) (hr : Lim r) (hrl : r.length ≤ 500000000000) => p164 hr hrl hn32
  clear hbits h82e
  generalize hd : dgl (val b) = d at *
  generalize hvd : dgl (val b * 2 ^ n) = v at *
  generalize hud : dgl (val a * 2 ^ n) = u at *
  have huL : Lim u := by rw [← hud]; exact dgl_lim _
  have huv : val u = val a * 2 ^ n := by rw [← hud, val_dgl]
  have e0 : ((d.length : Int) == 0) = false := by rw [beq_eq_false_iff_ne]; omega
  have e1 : ((d.length : Int) == 1) = false := by rw [beq_eq_false_iff_ne]; omega
  have w1 : IntKind.i64.wrap (32 * (d.length : Int)) = ((32 * d.length : Nat) : Int) := by rw [IntWalk.i64_in _ (by omega)]; omega
  have w2 : IntKind.i64.wrap (((32 * d.length : Nat) : Int) - ((32 * (d.length - 1) + bl t : Nat) : Int)) = (n : Int) := by rw [IntWalk.i64_in _ (by omega)]; omega
  have w3 : IntKind.i64.wrap ((u.length : Int) - 1) = (u.length : Int) - 1 := IntWalk.i64_in _ (by omega)
  have m1 : ((4 : Nat) : Int) * (u.length : Int) ≤ 281474976710656 := by omega
  have m2 : (u.length : Int) ≤ 9223372036854775807 := by omega
  simp only [f109, args0, SA, setCells, Int.reduceLE, Int.reduceLT, ↓reduceIte, reduceCtorEq, Nat.reduceLT, Nat.reduceEqDiff, Nat.reduceAdd, Nat.reduceMul, Nat.reduceLeDiff, Nat.reduceBEq, kp1 k2, lm_len, e0, e1, kp1 h82, w1, w2, kp1 (p161 hn32), kp2 hu, kp2 hv, w3, m1, m2, Int.natCast_nonneg, Int.toNat_natCast, Int.le_refl, lm_rep]
  have hV0 : 0 < val v := by rw [hvV]; exact Nat.pos_of_ne_zero hbn
  have h2p : 0 < 2 ^ n := Nat.pow_pos (by decide)
  refine loop_rule (β := Nat × List Nat × Nat × Store × CV) (fun t => ([(7, .p (.sl (lm d))), (11, .p (.sl (lm u))), (12, .p (.sl (lm v))), (13, .own 0 0 u.length), (14, t.2.2.2.2), (15, i64 ((t.1 : Int) - 1))], t.2.2.2.1))
    (fun t => t.1 ≤ u.length ∧ t.2.1.length = u.length - t.1 ∧ Lim t.2.1 ∧ t.2.2.1 < val v ∧ val t.2.1 * val v + t.2.2.1 = val (u.drop t.1) ∧ t.2.2.2.1[0]? = some (.prow 1 (lm (List.replicate t.1 0 ++ t.2.1))) ∧ (t.2.2.2.2 = .nils ∧ lm (dgl t.2.2.1) = [] ∨ t.2.2.2.2 = .p (.sl (lm (dgl t.2.2.1))))) (fun t => t.1) ((u.length, [], 0, [.prow 1 (lm (List.replicate u.length 0))], .nils) : Nat × List Nat × Nat × Store × CV) rfl rfl
    ⟨Nat.le_refl _, by simp, (fun _ hx => nomatch hx), hV0, by simp [val], by simp, .inl ⟨rfl, by rw [dgl_zero]; rfl⟩⟩ ?_
  rintro ⟨i, qs, R, σ, g⟩ ⟨hi, hql, hqL, hR, hq, hσ, hg⟩ ih
  simp only [] at hi hql hqL hR hq hσ hg ih ⊢
  cases i with
  | zero =>
    have hneg : ¬ (((0 : Nat) : Int) - 1 ≥ 0) := by omega
    rw [List.drop_zero, huv, hvV] at hq
    rw [hvV] at hR
    have hp := Nat.pos_of_ne_zero hbn
    have q1 : val qs = val a / val b := by
      rw [← Nat.mul_div_mul_right (val a) (val b) h2p, ← hq, Nat.add_comm, Nat.add_mul_div_right _ _ hp, Nat.div_eq_of_lt hR, Nat.zero_add]
    have q2 : R / 2 ^ n = val a % val b := by
      have : val a * 2 ^ n % (val b * 2 ^ n) = R := by rw [← hq, Nat.add_comm, Nat.add_mul_mod_self_right, Nat.mod_eq_of_lt hR]
      rw [← this, Nat.mul_mod_mul_right, Nat.mul_div_cancel _ h2p]
    have htq := p98 hqL (by omega)
    rw [q1] at htq
    have hrl : (dgl R).length ≤ d.length := dgl_len (Nat.lt_trans hR hVlt)
    have hr := h164 (dgl R) (dgl_lim R) (by omega)
    rw [val_dgl, q2] at hr
    have hσ' : σ[0]? = some (.prow 1 (lm qs)) := hσ
    rcases hg with ⟨rfl, hg0⟩ | rfl
    · rw [hg0] at hr
      simp only [SA, setCells, Int.reduceLE, Int.reduceLT, ↓reduceIte, reduceCtorEq, Nat.reduceLT, Nat.reduceEqDiff, Nat.reduceAdd, Nat.reduceMul, Nat.reduceLeDiff, Nat.reduceBEq, hneg, lm_len, w1, kp1 h82, w2]
      rw [kc_pu hr rfl]
      simp only [SA, setCells, Int.reduceLE, Int.reduceLT, ↓reduceIte, reduceCtorEq, Nat.reduceLT, Nat.reduceEqDiff, Nat.reduceAdd, Nat.reduceMul, Nat.reduceLeDiff, Nat.reduceBEq]
      rw [kf_own htq hσ' (by rw [lm_len, hql]; omega)]
      simp only [SA, setCells, Int.reduceLE, Int.reduceLT, ↓reduceIte, reduceCtorEq, Nat.reduceLT, Nat.reduceEqDiff, Nat.reduceAdd, Nat.reduceMul, Nat.reduceLeDiff, Nat.reduceBEq]
      exact back_t3 back1_p back1_p back1_p
    · simp only [SA, setCells, Int.reduceLE, Int.reduceLT, ↓reduceIte, reduceCtorEq, Nat.reduceLT, Nat.reduceEqDiff, Nat.reduceAdd, Nat.reduceMul, Nat.reduceLeDiff, Nat.reduceBEq, hneg, lm_len, w1, kp1 h82, w2, kp2 hr]
      rw [kf_own htq hσ' (by rw [lm_len, hql]; omega)]
      simp only [SA, setCells, Int.reduceLE, Int.reduceLT, ↓reduceIte, reduceCtorEq, Nat.reduceLT, Nat.reduceEqDiff, Nat.reduceAdd, Nat.reduceMul, Nat.reduceLeDiff, Nat.reduceBEq]
      exact back_t3 back1_p back1_p back1_p
  | succ m =>
    have hm : m < u.length := hi
    have hge0 : ((m + 1 : Nat) : Int) - 1 ≥ 0 := by omega
    have hje : ((m + 1 : Nat) : Int) - 1 = (m : Int) := by omega
    have hm0 : (m : Int) ≥ 0 := by omega
    have w4 : IntKind.i64.wrap ((m : Int) - 1) = (m : Int) - 1 := IntWalk.i64_in _ (by omega)
    have hux := huL.get hm
    have hRl : (dgl R).length ≤ d.length := dgl_len (Nat.lt_trans (by rw [hvV] at hR; exact hR) hVlt)
    have hapc : ([PV.int .u32 (u[m] : Nat)].length + (lm (dgl R)).length) * 4 ≤ 140737488355328 := by rw [lm_len]; simp; omega
    obtain ⟨R', hR'⟩ : ∃ R', R' = u[m] + LB * R := ⟨_, rfl⟩
    have hLR : Lim (u[m] :: dgl R) := by
      intro y hy
      rcases List.mem_cons.1 hy with rfl | hy
      · exact hux
      · exact dgl_lim R y hy
    have k98 := p98 hLR (by simp; omega)
    rw [val, val_dgl, ← hR'] at k98
    have hR'V : R' < val v * LB := by
      have := Nat.mul_le_mul_left LB (show R + 1 ≤ val v from hR)
      rw [Nat.mul_add, Nat.mul_one] at this
      rw [Nat.mul_comm]; omega
    have hR'l : (dgl R').length ≤ d.length + 1 := dgl_len (by rw [Nat.pow_succ]; exact Nat.lt_of_lt_of_le hR'V (Nat.mul_le_mul_right _ (by rw [hvV]; omega)))
    have hcmp := p140 (dgl_lim R') hVL (by omega) (by omega)
    rw [val_dgl] at hcmp
    have hqd : val (u.drop m) = u[m] + LB * val (u.drop (m + 1)) := by rw [List.drop_eq_getElem_cons hm, val]
    have hb1 : σ ++ [Blk.prow 1 [PV.int .u32 (u[m] : Nat)]] = σ ++ [Blk.prow 1 [PV.int .u32 (u[m] : Nat)]] := rfl
    have hg2 : (σ ++ [Blk.dead, Blk.prow 1 (PV.int .u32 (u[m] : Nat) :: lm (dgl R))])[σ.length + 1]? = some (Blk.prow 1 (PV.int .u32 (u[m] : Nat) :: lm (dgl R))) := by rw [get_app]; rfl
    have hl2 : 1 + (dgl R).length = (PV.int .u32 (u[m] : Nat) :: lm (dgl R)).length := by simp [lm_len]; omega
    have hs0 : 0 < σ.length := (List.getElem?_eq_some_iff.1 hσ).1
    simp only [SA, setCells, Int.reduceLE, Int.reduceLT, ↓reduceIte, reduceCtorEq, Nat.reduceLT, Nat.reduceEqDiff, Nat.reduceAdd, Nat.reduceMul, Nat.reduceLeDiff, Nat.reduceBEq, hje, hm0, lm_get hm, Int.natCast_nonneg, Int.toNat_natCast, r_app2 hg hapc lm_sz, lm_len]
    rw [kf_own (es := PV.int .u32 (u[m] : Nat) :: lm (dgl R)) k98 hg2 hl2]
    by_cases hlt : R' < val v
    · have hci : cmpI R' (val v) < 0 := lt_of_cmp.2 hlt
      simp only [SA, setCells, Int.reduceLE, Int.reduceLT, ↓reduceIte, reduceCtorEq, Nat.reduceLT, Nat.reduceEqDiff, Nat.reduceAdd, Nat.reduceMul, Nat.reduceLeDiff, Nat.reduceBEq, kp2 hcmp, hci, w4]
      refine ih (m, 0 :: qs, R', σ ++ [.dead, .dead], .p (.sl (lm (dgl R')))) _ ⟨by simp only []; omega, by simp [hql]; omega, ?_, hlt, ?_, ?_, .inr rfl⟩ (Nat.lt_succ_self _) ?_
      · intro y hy
        rcases List.mem_cons.1 hy with rfl | hy
        · exact LB_pos
        · exact hqL y hy
      · simp only [val]
        rw [hqd, ← hq, hR', Nat.zero_add, Nat.mul_add, Nat.mul_assoc]; omega
      · simp only []
        rw [get_left hs0, hσ, List.replicate_succ', List.append_assoc]; rfl
      · rfl
    · have hci : ¬ cmpI R' (val v) < 0 := by rw [lt_of_cmp]; exact hlt
      have hk1 : 1 ≤ d.length := by omega
      have hvlt : val v < LB ^ d.length := by rw [hvV]; exact hVlt
      have hvge : LB ^ (d.length - 1) ≤ val v := by rw [hvV]; exact hV2
      obtain ⟨gg1, gg2⟩ := guess_ge hk1 hvlt hvge hR'V
      have hR'k : R' / LB ^ d.length < LB := by
        rw [Nat.div_lt_iff_lt_mul (Nat.pow_pos LB_pos), Nat.mul_comm]
        exact Nat.lt_of_lt_of_le hR'V (Nat.mul_le_mul_right _ (Nat.le_of_lt hvlt))
      have t1 : lg (dgl R') d.length = R' / LB ^ d.length := by rw [lg_dgl, Nat.mod_eq_of_lt hR'k]
      have t2 : lg (dgl R') (d.length - 1) = R' / LB ^ (d.length - 1) % LB := lg_dgl
      have t3 : lg v (d.length - 1) = val v / LB ^ (d.length - 1) := by
        rw [← hvd, lg_dgl, val_dgl, Nat.mod_eq_of_lt]
        rw [Nat.div_lt_iff_lt_mul (Nat.pow_pos LB_pos), Nat.mul_comm LB, ← Nat.pow_succ, show (d.length - 1).succ = d.length by omega]
        exact hVlt
      have t4 : lg (dgl R') d.length * LB + lg (dgl R') (d.length - 1) = R' / LB ^ (d.length - 1) := by
        rw [t1, t2]
        have := Nat.mod_add_div (R' / LB ^ (d.length - 1)) LB
        rw [Nat.div_div_eq_div_mul, ← Nat.pow_succ, show (d.length - 1).succ = d.length by omega, Nat.mul_comm] at this
        omega
      have hT0 : 0 < val v / LB ^ (d.length - 1) := Nat.div_pos hvge (Nat.pow_pos LB_pos)
      have b1 : lg (dgl R') d.length < LB := lg_lt (dgl_lim R')
      have b2 : lg (dgl R') (d.length - 1) < LB := lg_lt (dgl_lim R')
      have b3 : lg (dgl R') d.length * LB < 18446744073709551616 ∧ lg (dgl R') d.length * LB + lg (dgl R') (d.length - 1) < 18446744073709551616 := by
        have := Nat.mul_le_mul_right LB (show lg (dgl R') d.length ≤ LB - 1 by omega)
        rw [show (LB - 1) * LB = 18446744069414584320 by decide] at this
        unfold LB at *
        omega
      have x1 : IntKind.u64.wrap ((lg (dgl R') d.length : Int) * 4294967296) = ((lg (dgl R') d.length * LB : Nat) : Int) := w64m (y := LB) b3.1
      have x2 := w64s b3.2
      have x3 : IntKind.i64.wrap ((d.length : Int) - 1) = ((d.length - 1 : Nat) : Int) := by rw [IntWalk.i64_in _ (by omega)]; omega
      have x4 : ((lg v (d.length - 1) : Nat) : Int) ≠ 0 := by rw [t3]; omega
      have x5 := quo64 (y := lg v (d.length - 1)) b3.2
      have hgv : (lg (dgl R') d.length * LB + lg (dgl R') (d.length - 1)) / lg v (d.length - 1) = R' / LB ^ (d.length - 1) / (val v / LB ^ (d.length - 1)) := by rw [t4, t3]
      rw [← hgv] at gg1
      generalize hG : (lg (dgl R') d.length * LB + lg (dgl R') (d.length - 1)) / lg v (d.length - 1) = G at *
      have k162a := p162 (dgl_lim R') (i := d.length)
      have k162b := p162 (dgl_lim R') (i := d.length - 1)
      have k162c := p162 hVL (i := d.length - 1)
      -- what goes on after the guess
      have hrd : R' % val v + val v * (R' / val v) = R' := Nat.mod_add_div _ _
      have hmd := Nat.mod_lt R' hV0
      have hσm : ∀ l, (σ ++ l)[0]? = some (.prow 1 (lm (0 :: (List.replicate m 0 ++ qs)))) := fun l => by rw [get_left hs0]; exact hσ
      have hσs : ∀ l x, (σ ++ l).set 0 x = σ.set 0 x ++ l := fun l x => set_left hs0
      have hlm : m < u.length := hm
      have hgm : (lm (0 :: (List.replicate m 0 ++ qs)))[m]? = some (.int .u32 ((0 : Nat) : Int)) := lm_get? (by
        rw [replace_top, List.getElem?_append_left (by rw [List.length_replicate]; omega), List.getElem?_replicate, if_pos (Nat.lt_succ_self _)])
      have hsm : ∀ c, (0 :: (List.replicate m 0 ++ qs)).set m c = List.replicate m 0 ++ (c :: qs) := by
        intro c
        rw [replace_top, List.replicate_succ', List.append_assoc, List.set_append_right _ _ (by rw [List.length_replicate]; omega), List.length_replicate, Nat.sub_self]
        rfl
      have hcap : ∃ G' : Nat, R' / val v ≤ G' ∧ G' < LB ∧ ((G : Int) ≥ 4294967296 ∧ G' = 4294967295 ∧ IntKind.u32.wrap 4294967295 = (G' : Int) ∨ ¬ (G : Int) ≥ 4294967296 ∧ G' = G ∧ IntKind.u32.wrap (G : Int) = (G' : Int)) := by
        by_cases h : (G : Int) ≥ 4294967296
        · exact ⟨4294967295, by unfold LB at gg2; omega, by decide, .inl ⟨h, rfl, by decide⟩⟩
        · exact ⟨G, gg1, by unfold LB; omega, .inr ⟨h, rfl, by rw [w32, Nat.mod_eq_of_lt (by unfold LB; omega)]⟩⟩
      obtain ⟨G', hG1, hG2, hG3⟩ := hcap
      have hGm : G' % LB = G' := Nat.mod_eq_of_lt hG2
      have k147 := p147 hVL (.one hG2) (by omega) (by simp)
      rw [val_one] at k147
      have hg3 : (σ ++ [Blk.dead, Blk.dead, Blk.prow 1 [PV.int .u32 (G' : Int)]])[σ.length + 2]? = some (.prow 1 (lm [G'])) := by rw [get_app]; rfl
      have hpl : ∀ c, c ≤ G' → (dgl (val v * c)).length ≤ d.length + 1 := fun c hc => dgl_len (by
        rw [Nat.pow_succ]
        exact Nat.mul_lt_mul'' hvlt (Nat.lt_of_le_of_lt hc hG2))
      rcases hG3 with ⟨hG3, hG4, hw⟩ | ⟨hG3, hG4, hw⟩
      all_goals
        simp only [SA, setCells, Int.reduceLE, Int.reduceLT, ↓reduceIte, reduceCtorEq, Nat.reduceLT, Nat.reduceEqDiff, Nat.reduceAdd, Nat.reduceMul, Nat.reduceLeDiff, Nat.reduceBEq, kp2 hcmp, hci, lm_len, hvl, kp2 k162a, x1, x3, kp2 k162b, x2, kp2 k162c, binV_quo x4, x5, hG3]
        simp only [SA, setCells, Int.reduceLE, Int.reduceLT, ↓reduceIte, reduceCtorEq, Nat.reduceLT, Nat.reduceEqDiff, Nat.reduceAdd, Nat.reduceMul, Nat.reduceLeDiff, Nat.reduceBEq, hw, kf_p_own (n := 1) k147 hg3 rfl]
        refine loop_rule (β := Nat) (fun c => ([(7, .p (.sl (lm d))), (11, .p (.sl (lm u))), (12, .p (.sl (lm v))), (13, .own 0 0 u.length), (14, .p (.sl (lm (dgl R')))), (15, i64 (m : Int)), (16, .p (.int .u64 (c : Int))), (17, .p (.sl (lm (dgl (val v * c)))))], σ ++ [.dead, .dead, .dead]))
          (fun c => R' / val v ≤ c ∧ c ≤ G') (fun c => c) G' (by subst hG4; rfl) rfl ⟨hG1, Nat.le_refl _⟩ ?_
        rintro c ⟨hc1, hc2⟩ ih2
        simp only [] at ih2 ⊢
        have hpc := hpl c hc2
        have hcmp2 := p140 (dgl_lim (val v * c)) (dgl_lim R') (by omega) (by omega)
        rw [val_dgl, val_dgl] at hcmp2
        by_cases hgt2 : R' < val v * c
        · have hc0 : 0 < c := by rcases Nat.eq_zero_or_pos c with h | h; rw [h, Nat.mul_zero] at hgt2; omega; exact h
          have hcs : val v * c = val v * (c - 1) + val v := by rw [← Nat.mul_succ]; congr 1; omega
          have hci2 : cmpI (val v * c) R' > 0 := by unfold cmpI; rw [if_neg (by omega), if_neg (by omega)]; decide
          have hlow : R' / val v ≤ c - 1 := by
            have : R' / val v < c := (Nat.div_lt_iff_lt_mul hV0).2 (by rw [Nat.mul_comm]; exact hgt2)
            omega
          have y1 : IntKind.u64.wrap ((c : Int) - 1) = ((c - 1 : Nat) : Int) := w64d (y := 1) hc0 (by unfold LB at hG2; omega)
          have k163 := p163 (dgl_lim (val v * c)) hVL (by rw [val_dgl]; omega) (by omega) (by have := val_lt (dgl_lim (val v * c)); rw [val_dgl] at this; omega)
          rw [val_dgl, show val v * c - val v = val v * (c - 1) by omega] at k163
          simp only [SA, setCells, Int.reduceLE, Int.reduceLT, ↓reduceIte, reduceCtorEq, Nat.reduceLT, Nat.reduceEqDiff, Nat.reduceAdd, Nat.reduceMul, Nat.reduceLeDiff, Nat.reduceBEq, kp2 hcmp2, hci2, y1, kp2 k163]
          refine ih2 (c - 1) _ ⟨hlow, by omega⟩ (by omega) ?_
          rfl
        · have hci2 : ¬ cmpI (val v * c) R' > 0 := by unfold cmpI; split; decide; rw [if_pos (by omega)]; decide
          have hce : c = R' / val v := by
            have : c ≤ R' / val v := (Nat.le_div_iff_mul_le hV0).2 (by rw [Nat.mul_comm]; omega)
            omega
          have k163 := p163 (dgl_lim R') (dgl_lim (val v * c)) (by rw [val_dgl, val_dgl]; omega) (by omega) (by have := val_lt (dgl_lim R'); rw [val_dgl] at this ⊢; omega)
          rw [val_dgl, val_dgl] at k163
          have hcm : c % LB = c := Nat.mod_eq_of_lt (by omega)
          simp only [SA, setCells, Int.reduceLE, Int.reduceLT, ↓reduceIte, reduceCtorEq, Nat.reduceLT, Nat.reduceEqDiff, Nat.reduceAdd, Nat.reduceMul, Nat.reduceLeDiff, Nat.reduceBEq, kp2 hcmp2, hci2, w32, hcm, Int.natCast_nonneg, Int.toNat_natCast, hlm, hσm, hgm, lm_set, hsm, hσs, kp2 k163, w4, ge_iff_le]
          have hfin : R' - val v * c = R' % val v := by rw [hce]; omega
          refine ih (m, c :: qs, R' - val v * c, σ.set 0 (.prow 1 (lm (List.replicate m 0 ++ (c :: qs)))) ++ [.dead, .dead, .dead], .p (.sl (lm (dgl (R' - val v * c))))) _ ⟨by simp only []; omega, by simp [hql]; omega, ?_, by simp only []; rw [hfin]; exact hmd, ?_, ?_, .inr rfl⟩ (Nat.lt_succ_self _) ?_
          · intro y hy
            rcases List.mem_cons.1 hy with rfl | hy
            · omega
            · exact hqL y hy
          · simp only [val]
            rw [hqd, ← hq, Nat.mul_add, ← Nat.mul_assoc, Nat.add_mul, Nat.mul_comm c]; omega
          · simp only []
            rw [get_left (by rw [List.length_set]; exact hs0), get_self hs0]
          · rfl
theorem p135 {a b : List Nat} (ha : Lim a) (hb : Lim b) (hna : a.length ≤ 400000000000) (hnb : b.length ≤ 400000000000) (h0 : val b ≠ 0) :
    Pu rp 109 [.sl (lm a), .sl (lm b)] (.tup [.p (.sl (lm (dgl (val a / val b)))), .p (.sl (lm (dgl (val a % val b)))), .p (.int .i64 0)]) := by
  have hl := List.length_pos_iff.2 (dgl_ne h0)
  rcases (show (dgl (val b)).length = 1 ∨ 2 ≤ (dgl (val b)).length by omega) with h1 | h1
  · exact p135s ha hb hna hnb h1
  · exact p135g ha hb hna hnb h1
theorem p99 {a b : List Nat} (ha : Lim a) (hb : Lim b) (hna : a.length ≤ 400000000000) (hnb : b.length ≤ 400000000000) :
    Pu rp 112 [.sl (lm a), .sl (lm b)] (.p (.sl (lm (dgl (Nat.gcd (val a) (val b)))))) := by
  refine pu_of rp99 ?_
  have hda : (dgl (val a)).length ≤ a.length := dgl_len (val_lt ha)
  have hdb : (dgl (val b)).length ≤ b.length := dgl_len (val_lt hb)
  simp only [f112, args0, SA, setCells, Int.reduceLE, Int.reduceLT, ↓reduceIte, reduceCtorEq, Nat.reduceLT, Nat.reduceEqDiff, Nat.reduceAdd, Nat.reduceMul, Nat.reduceLeDiff, Nat.reduceBEq, kp1 (p98 ha (by omega)), kp1 (p98 hb (by omega))]
  refine bloop (β := Nat × Nat) (γ := Unit) (fun t => ([(5, .p (.sl (lm (dgl t.1)))), (6, .p (.sl (lm (dgl t.2))))], [])) (fun t => Nat.gcd t.1 t.2 = Nat.gcd (val a) (val b) ∧ (dgl t.1).length ≤ 400000000000 ∧ (dgl t.2).length ≤ 400000000000) (fun t => t.2)
    (fun _ => ([(5, .p (.sl (lm (dgl (Nat.gcd (val a) (val b))))))], [])) (fun _ => True) ((val a, val b) : Nat × Nat) rfl rfl ⟨rfl, by simp only []; omega, by simp only []; omega⟩ ?_ ?_
  · rintro ks' ⟨x, y⟩ ⟨hg, hx, hy⟩ ih hexit
    simp only [] at hg hx hy ih hexit ⊢
    by_cases h0 : y = 0
    · subst h0
      have hn : ¬ (((([] : List Nat).length : Nat) : Int) > 0) := by simp
      rw [Nat.gcd_zero_right] at hg
      simp only [SA, setCells, Int.reduceLE, Int.reduceLT, ↓reduceIte, reduceCtorEq, Nat.reduceLT, Nat.reduceEqDiff, Nat.reduceAdd, Nat.reduceMul, Nat.reduceLeDiff, Nat.reduceBEq, dgl_zero, lm_len, hn]
      refine hexit () _ trivial ?_
      rw [← hg]; rfl
    · have hlen := List.length_pos_iff.2 (dgl_ne h0)
      have hp : ((dgl y).length : Int) > 0 := by omega
      have hk := p135 (dgl_lim x) (dgl_lim y) hx hy (by rw [val_dgl]; exact h0)
      rw [val_dgl, val_dgl] at hk
      have hr : (dgl (x % y)).length ≤ (dgl y).length := dgl_len_mono (Nat.le_of_lt (Nat.mod_lt _ (Nat.pos_of_ne_zero h0)))
      simp only [SA, setCells, Int.reduceLE, Int.reduceLT, ↓reduceIte, reduceCtorEq, Nat.reduceLT, Nat.reduceEqDiff, Nat.reduceAdd, Nat.reduceMul, Nat.reduceLeDiff, Nat.reduceBEq, lm_len, hp, kp2 hk]
      refine ih (y, x % y) _ ⟨?_, hy, by simp only []; omega⟩ (Nat.mod_lt _ (Nat.pos_of_ne_zero h0)) ?_
      · rw [← hg]; simp only []; rw [Nat.gcd_comm, ← Nat.gcd_rec, Nat.gcd_comm]
      · rfl
  · rintro ⟨⟩ -
    simp only [SA, setCells, Int.reduceLE, Int.reduceLT, ↓reduceIte, reduceCtorEq, Nat.reduceLT, Nat.reduceEqDiff, Nat.reduceAdd, Nat.reduceMul, Nat.reduceLeDiff, Nat.reduceBEq]
    rfl
end Go.Proofs.YtdieenbfdeaffaaGreat.VBn

namespace Go.Proofs.YtdieenbfdeaffaaGreat.VBn
open Go Vpi
set_option maxRecDepth 100000
set_option linter.unusedSimpArgs false
set_option linter.unusedVariables false
theorem rp79 : rp 14 = some f14 := rfl
theorem rp109 : rp 76 = some f76 := rfl
theorem rp60 : rp 110 = some f110 := rfl
theorem rp117 : rp 73 = some f73 := rfl
theorem p68' {p : PV} {x : Int} (h : Nu p x) : Pu rp 74 [p] (.p (zi x)) := by
  obtain ⟨neg, l, rfl, hl, hn, rfl⟩ := h
  rw [← mk_val]
  exact p68 hl (by rw [CapN_eq] at hn; omega)
theorem p58' {p : PV} {x : Int} (h : Nu p x) : Pu rp 111 [p] (.p (zi (-x))) := by
  obtain ⟨neg, l, rfl, hl, hn, rfl⟩ := h
  refine pu_of rp58 ?_
  rw [CapN_eq] at hn
  have e : -iv neg l = iv (!neg) l := by unfold iv; cases neg <;> simp
  rw [e, ← mk_val]
  simp only [f111, args0, SA, setCells, Int.reduceLE, Int.reduceLT, ↓reduceIte, reduceCtorEq, Nat.reduceLT, Nat.reduceEqDiff, Nat.reduceAdd, Nat.reduceMul, Nat.reduceLeDiff, Nat.reduceBEq, unV, kp2 (p107 hl (by omega))]
  rfl
theorem p79 {p : PV} {x : Int} (h : Nu p x) : Pu rp 14 [p] (.p (.int .i64 x.sign)) := by
  obtain ⟨neg, l, rfl, hl, hn, rfl⟩ := h
  refine pu_of rp79 ?_
  rw [CapN_eq] at hn
  have k := p98 hl (by omega)
  by_cases h0 : val l = 0
  · rw [h0, dgl_zero] at k
    have e : (((([] : List Nat).length : Nat) : Int) == 0) = true := rfl
    simp only [f14, args0, SA, setCells, Int.reduceLE, Int.reduceLT, ↓reduceIte, reduceCtorEq, Nat.reduceLT, Nat.reduceEqDiff, Nat.reduceAdd, Nat.reduceMul, Nat.reduceLeDiff, Nat.reduceBEq, kp1 k, lm_len, e]
    have : iv neg l = 0 := by unfold iv; rw [h0]; cases neg <;> rfl
    rw [this]; rfl
  · have hpos := List.length_pos_iff.2 (dgl_ne h0)
    have e : (((dgl (val l)).length : Int) == 0) = false := by rw [beq_eq_false_iff_ne]; omega
    cases neg
    · simp only [f14, args0, SA, setCells, Int.reduceLE, Int.reduceLT, ↓reduceIte, reduceCtorEq, Nat.reduceLT, Nat.reduceEqDiff, Nat.reduceAdd, Nat.reduceMul, Nat.reduceLeDiff, Nat.reduceBEq, kp1 k, lm_len, e]
      have : (iv false l).sign = 1 := Int.sign_eq_one_of_pos (by unfold iv; simp; omega)
      rw [this]; rfl
    · simp only [f14, args0, SA, setCells, Int.reduceLE, Int.reduceLT, ↓reduceIte, reduceCtorEq, Nat.reduceLT, Nat.reduceEqDiff, Nat.reduceAdd, Nat.reduceMul, Nat.reduceLeDiff, Nat.reduceBEq, kp1 k, lm_len, e]
      have : (iv true l).sign = -1 := Int.sign_eq_neg_one_of_neg (by unfold iv; simp; omega)
      rw [this]; rfl
theorem p117 {p q : PV} {x y : Int} (h : Nu p x) (h' : Nu q y) : Pu rp 73 [p, q] (.p (zi (x * y))) := by
  obtain ⟨n1, a, rfl, ha, hna, rfl⟩ := h
  obtain ⟨n2, b, rfl, hb, hnb, rfl⟩ := h'
  refine pu_of rp117 ?_
  rw [CapN_eq] at hna hnb
  have hd : (dgl (val a * val b)).length ≤ a.length + b.length := dgl_len (by rw [Nat.pow_add]; exact Nat.mul_lt_mul'' (val_lt ha) (val_lt hb))
  have k1 := p147 ha hb (by omega) (by omega)
  have k2 := fun neg => p107 (neg := neg) (dgl_lim (val a * val b)) (by omega)
  simp only [val_dgl] at k2
  have e : zi (iv n1 a * iv n2 b) = mk (n1 != n2) (val a * val b) := by
    rw [mk_iv]; unfold iv; congr 1; cases n1 <;> cases n2 <;> simp [Int.natCast_mul, Int.neg_mul, Int.mul_neg]
  rw [e]
  cases n1 <;> cases n2 <;> simp only [f73, args0, SA, setCells, Int.reduceLE, Int.reduceLT, ↓reduceIte, reduceCtorEq, Nat.reduceLT, Nat.reduceEqDiff, Nat.reduceAdd, Nat.reduceMul, Nat.reduceLeDiff, Nat.reduceBEq, kp2 k1, kp2 (k2 _)] <;> rfl
theorem p109 {p q : PV} {x y : Int} (h : Nu p x) (h' : Nu q y) : Pu rp 76 [p, q] (.p (zi (x + y))) := by
  obtain ⟨n1, a, rfl, ha, hna, rfl⟩ := h
  obtain ⟨n2, b, rfl, hb, hnb, rfl⟩ := h'
  refine pu_of rp109 ?_
  rw [CapN_eq] at hna hnb
  have hcmp := p140 ha hb (by omega) (by omega)
  by_cases hs : n1 = n2
  · subst hs
    have hd : (dgl (val a + val b)).length ≤ a.length + b.length + 1 := dgl_len (by
      have h1 := Nat.lt_of_lt_of_le (val_lt ha) (Nat.pow_le_pow_right LB_pos (show a.length ≤ a.length + b.length by omega))
      have h2 := Nat.lt_of_lt_of_le (val_lt hb) (Nat.pow_le_pow_right LB_pos (show b.length ≤ a.length + b.length by omega))
      rw [Nat.pow_succ]
      have h3 : LB ^ (a.length + b.length) * 2 ≤ LB ^ (a.length + b.length) * LB := Nat.mul_le_mul_left _ (by decide)
      omega)
    have k1 := p139 ha hb (by omega) (by omega)
    have k2 := p107 (neg := n1) (dgl_lim (val a + val b)) (by omega)
    rw [val_dgl] at k2
    have e : zi (iv n1 a + iv n1 b) = mk n1 (val a + val b) := by
      rw [mk_iv]; unfold iv; congr 1; cases n1 <;> simp; omega
    rw [e]
    cases n1 <;> simp only [f76, args0, SA, setCells, Int.reduceLE, Int.reduceLT, ↓reduceIte, reduceCtorEq, Nat.reduceLT, Nat.reduceEqDiff, Nat.reduceAdd, Nat.reduceMul, Nat.reduceLeDiff, Nat.reduceBEq, kp2 k1, kp2 k2] <;> rfl
  · by_cases hlt : val a < val b
    · have hci : ¬ cmpI (val a) (val b) ≥ 0 := by have := lt_of_cmp.2 hlt; omega
      have k1 := p141 hb ha (by omega) (by omega) (Nat.le_of_lt hlt)
      have hd : (dgl (val b - val a)).length ≤ b.length := dgl_len (Nat.lt_of_le_of_lt (Nat.sub_le _ _) (val_lt hb))
      have k2 := p107 (neg := n2) (dgl_lim (val b - val a)) (by omega)
      rw [val_dgl] at k2
      have e : zi (iv n1 a + iv n2 b) = mk n2 (val b - val a) := by
        rw [mk_iv]; unfold iv; congr 1; cases n1 <;> cases n2 <;> simp at hs ⊢ <;> omega
      rw [e]
      cases n1 <;> cases n2 <;> simp at hs <;> simp only [f76, args0, SA, setCells, Int.reduceLE, Int.reduceLT, ↓reduceIte, reduceCtorEq, Nat.reduceLT, Nat.reduceEqDiff, Nat.reduceAdd, Nat.reduceMul, Nat.reduceLeDiff, Nat.reduceBEq, kp2 hcmp, hci, kp2 k1, kp2 k2, bq1, bq2] <;> rfl
    · have hci : cmpI (val a) (val b) ≥ 0 := by have := mt lt_of_cmp.1 hlt; omega
      have k1 := p141 ha hb (by omega) (by omega) (Nat.le_of_not_lt hlt)
      have hd : (dgl (val a - val b)).length ≤ a.length := dgl_len (Nat.lt_of_le_of_lt (Nat.sub_le _ _) (val_lt ha))
      have k2 := p107 (neg := n1) (dgl_lim (val a - val b)) (by omega)
      rw [val_dgl] at k2
      have e : zi (iv n1 a + iv n2 b) = mk n1 (val a - val b) := by
        rw [mk_iv]; unfold iv; congr 1; cases n1 <;> cases n2 <;> simp at hs ⊢ <;> omega
      rw [e]
      cases n1 <;> cases n2 <;> simp at hs <;> simp only [f76, args0, SA, setCells, Int.reduceLE, Int.reduceLT, ↓reduceIte, reduceCtorEq, Nat.reduceLT, Nat.reduceEqDiff, Nat.reduceAdd, Nat.reduceMul, Nat.reduceLeDiff, Nat.reduceBEq, kp2 hcmp, hci, kp2 k1, kp2 k2, bq1, bq2] <;> rfl
theorem p60 {p q : PV} {x y : Int} (h : Nu p x) (h' : Nu q y) : Pu rp 110 [p, q] (.p (zi (x - y))) := by
  have k2 := p109 h (Nu.zi h'.sz.neg)
  have k1 := p58' h'
  obtain ⟨n1, a, rfl, ha, hna, rfl⟩ := h
  obtain ⟨n2, b, rfl, hb, hnb, rfl⟩ := h'
  refine pu_of rp60 ?_
  rw [Int.sub_eq_add_neg]
  simp only [f110, args0, SA, setCells, Int.reduceLE, Int.reduceLT, ↓reduceIte, reduceCtorEq, Nat.reduceLT, Nat.reduceEqDiff, Nat.reduceAdd, Nat.reduceMul, Nat.reduceLeDiff, Nat.reduceBEq, kp1 k1, kp2 k2]
  rfl
end Go.Proofs.YtdieenbfdeaffaaGreat.VBn

namespace Go.Proofs.YtdieenbfdeaffaaGreat.VBn
open Go Vpi
set_option maxRecDepth 100000
set_option linter.unusedSimpArgs false
set_option linter.unusedVariables false
theorem rp27 : rp 33 = some f33 := rfl
theorem rp69 : rp 75 = some f75 := rfl
theorem rp198 : rp 68 = some f68 := rfl
theorem rp199 : rp 108 = some f108 := rfl
theorem rp200 : rp 72 = some f72 := rfl
theorem rp172 : rp 67 = some f67 := rfl
theorem rp173 : rp 32 = some f32 := rfl
theorem rp174 : rp 70 = some f70 := rfl
def Sk (n : Nat) (x : Int) : Prop := x.natAbs < LB ^ n
theorem Sk.sz {n : Nat} {x : Int} (h : Sk n x) (hn : n ≤ 100000000000) : Sz x := Nat.lt_of_lt_of_le h (Nat.pow_le_pow_right LB_pos (by rw [CapN_eq]; exact hn))
theorem Sk.mono {n m : Nat} {x : Int} (h : Sk n x) (hn : n ≤ m) : Sk m x := Nat.lt_of_lt_of_le h (Nat.pow_le_pow_right LB_pos hn)
theorem Sk.mul {n m : Nat} {x y : Int} (h : Sk n x) (h' : Sk m y) : Sk (n + m) (x * y) := by
  unfold Sk at *
  rw [Int.natAbs_mul, Nat.pow_add]
  exact Nat.mul_lt_mul'' h h'
theorem Sk.neg {n : Nat} {x : Int} (h : Sk n x) : Sk n (-x) := by unfold Sk at *; rwa [Int.natAbs_neg]
theorem Sk.add {n : Nat} {x y : Int} (h : Sk n x) (h' : Sk n y) : Sk (n + 1) (x + y) := by
  unfold Sk at *
  have h1 := Int.natAbs_add_le x y
  have h3 : LB ^ n * 2 ≤ LB ^ n * LB := Nat.mul_le_mul_left _ (by decide)
  rw [Nat.pow_succ]
  omega
theorem Sk.sub {n : Nat} {x y : Int} (h : Sk n x) (h' : Sk n y) : Sk (n + 1) (x - y) := by
  rw [Int.sub_eq_add_neg]; exact h.add h'.neg
theorem Sk.le {n : Nat} {x y : Int} (h : Sk n x) (hy : y.natAbs ≤ x.natAbs) : Sk n y := Nat.lt_of_le_of_lt hy h
def rq (x : Rat) : PV := .agg [.bool (decide (x.num < 0) && decide (x.num.natAbs ≠ 0)), .sl (lm (dgl x.num.natAbs)), .bool false, .sl (lm (dgl x.den))]
theorem rq_cells {x : Rat} : (rq x).cells = [.bool (decide (x.num < 0) && decide (x.num.natAbs ≠ 0)), .sl (lm (dgl x.num.natAbs)), .bool false, .sl (lm (dgl x.den))] := rfl
def RL : Nat := 10000000000
theorem RL_eq : RL = 10000000000 := by unfold RL; rfl
attribute [irreducible] RL
def RS (x : Rat) : Prop := Sk RL x.num ∧ Sk RL (x.den : Int)
theorem nuNum {x : Rat} (h : Sz x.num) : Nu (.agg [.bool (decide (x.num < 0) && decide (x.num.natAbs ≠ 0)), .sl (lm (dgl x.num.natAbs))]) x.num := Nu.zi h
theorem nuDen {x : Rat} (h : Sz (x.den : Int)) : Nu (.agg [.bool false, .sl (lm (dgl x.den))]) (x.den : Int) := ⟨false, _, rfl, dgl_lim _, dgl_len h, by unfold iv; rw [val_dgl]; rfl⟩
theorem p69 : Pu rp 75 [] (.p (zi 1)) := by
  refine pu_of rp69 ?_
  simp only [f75, args0, SA, setCells, Int.reduceLE, Int.reduceLT, ↓reduceIte, reduceCtorEq, Nat.reduceLT, Nat.reduceEqDiff, Nat.reduceAdd, Nat.reduceMul, Nat.reduceLeDiff, Nat.reduceBEq, kp1 (p66 (x := 1) (by decide) (by decide))]
  rfl
theorem p27 {p : PV} {x : Int} (h : Nu p x) : Pu rp 33 [p] (.p (rq (x : Rat))) := by
  have k := p68' h
  obtain ⟨neg, l, rfl, hl, hn, rfl⟩ := h
  refine pu_of rp27 ?_
  simp only [f33, args0, SA, setCells, Int.reduceLE, Int.reduceLT, ↓reduceIte, reduceCtorEq, Nat.reduceLT, Nat.reduceEqDiff, Nat.reduceAdd, Nat.reduceMul, Nat.reduceLeDiff, Nat.reduceBEq, kp1 k, kp0 p69, subPV]
  rfl
theorem divInt_pos {a b : Int} (hb : 0 < b) : (Rat.divInt a b).num = a / (Int.gcd a b : Nat) ∧ (Rat.divInt a b).den = b.natAbs / Int.gcd a b := by
  obtain ⟨n, rfl⟩ := Int.eq_ofNat_of_zero_le (Int.le_of_lt hb)
  have hn : n ≠ 0 := by omega
  have e : Rat.divInt a (n : Int) = mkRat a n := rfl
  rw [e, Rat.mkRat_def, dif_neg hn, Rat.normalize_eq hn]
  exact ⟨rfl, rfl⟩
theorem make_num {a b : Int} (hb : 0 < b) : zi (Rat.divInt a b).num = mk (decide (a < 0) && decide (a.natAbs ≠ 0)) (a.natAbs / Nat.gcd a.natAbs b.natAbs) := by
  rw [(divInt_pos hb).1]
  have hg : 0 < Nat.gcd a.natAbs b.natAbs := Nat.gcd_pos_of_pos_right _ (by omega)
  have hd : Nat.gcd a.natAbs b.natAbs ∣ a.natAbs := Nat.gcd_dvd_left _ _
  obtain ⟨c, hc⟩ := hd
  show zi (a / ((Nat.gcd a.natAbs b.natAbs : Nat) : Int)) = _
  generalize Nat.gcd a.natAbs b.natAbs = g at *
  rw [hc, Nat.mul_div_cancel_left _ hg, mk_iv]
  congr 1
  by_cases h : a < 0
  · have h0 : ¬ (a.natAbs = 0) := by omega
    have : a = -(c : Int) * (g : Int) := by rw [Int.neg_mul, ← Int.natCast_mul, Nat.mul_comm, ← hc]; omega
    have hgc : ¬ (g * c = 0) := by omega
    simp only [h, decide_true, Bool.true_and, ne_eq, hgc, not_false_eq_true, if_true]
    rw [this, Int.mul_ediv_cancel _ (by omega)]
  · have : a = (c : Int) * (g : Int) := by rw [← Int.natCast_mul, Nat.mul_comm, ← hc]; omega
    simp only [h, decide_false, Bool.false_and, Bool.false_eq_true, if_false]
    rw [this, Int.mul_ediv_cancel _ (by omega)]
theorem rq_make {a b : Int} (hb : 0 < b) : rq (Rat.divInt a b) = .agg [.bool ((decide (a < 0) && decide (a.natAbs ≠ 0)) && decide (a.natAbs / Nat.gcd a.natAbs b.natAbs ≠ 0)), .sl (lm (dgl (a.natAbs / Nat.gcd a.natAbs b.natAbs))), .bool false, .sl (lm (dgl (b.natAbs / Nat.gcd a.natAbs b.natAbs)))] := by
  have h := make_num (a := a) hb
  unfold zi mk at h
  injection h with h
  injection h with h1 h
  injection h with h2 h
  unfold rq
  rw [h1, h2, (divInt_pos hb).2]
  rfl
theorem p200 {p q : PV} {a b : Int} (h : Nu p a) (h' : Nu q b) (hb : b ≠ 0) : Pu rp 72 [p, q] (.p (rq (Rat.divInt a b))) := by
  have ha := h.sz
  have hbs := h'.sz
  have k1 := p68' h
  have k2 := p68' h'
  have k79 := p79 (Nu.zi hbs)
  have k58a := p58' (Nu.zi ha)
  have k58b := p58' (Nu.zi hbs)
  have key : ∀ a' b' : Int, 0 < b' → Sz a' → Sz b' →
      Pu rp 112 [.sl (lm (dgl a'.natAbs)), .sl (lm (dgl b'.natAbs))] (.p (.sl (lm (dgl (Nat.gcd a'.natAbs b'.natAbs))))) ∧
      Pu rp 109 [.sl (lm (dgl a'.natAbs)), .sl (lm (dgl (Nat.gcd a'.natAbs b'.natAbs)))] (.tup [.p (.sl (lm (dgl (a'.natAbs / Nat.gcd a'.natAbs b'.natAbs)))), .p (.sl (lm (dgl (a'.natAbs % Nat.gcd a'.natAbs b'.natAbs)))), .p (.int .i64 0)]) ∧
      Pu rp 109 [.sl (lm (dgl b'.natAbs)), .sl (lm (dgl (Nat.gcd a'.natAbs b'.natAbs)))] (.tup [.p (.sl (lm (dgl (b'.natAbs / Nat.gcd a'.natAbs b'.natAbs)))), .p (.sl (lm (dgl (b'.natAbs % Nat.gcd a'.natAbs b'.natAbs)))), .p (.int .i64 0)]) ∧
      ∀ neg, Pu rp 74 [.agg [.bool neg, .sl (lm (dgl (a'.natAbs / Nat.gcd a'.natAbs b'.natAbs)))]] (.p (mk neg (a'.natAbs / Nat.gcd a'.natAbs b'.natAbs))) := by
    intro a' b' hb' ha' hbs'
    have hla : (dgl a'.natAbs).length ≤ 100000000000 := by have := dgl_len ha'; rwa [CapN_eq] at this
    have hlb : (dgl b'.natAbs).length ≤ 100000000000 := by have := dgl_len hbs'; rwa [CapN_eq] at this
    have hg : 0 < Nat.gcd a'.natAbs b'.natAbs := Nat.gcd_pos_of_pos_right _ (by omega)
    have hlg : (dgl (Nat.gcd a'.natAbs b'.natAbs)).length ≤ 100000000000 := Nat.le_trans (dgl_len_mono (Nat.gcd_le_right _ (by omega))) hlb
    have hlq : (dgl (a'.natAbs / Nat.gcd a'.natAbs b'.natAbs)).length ≤ 100000000000 := Nat.le_trans (dgl_len_mono (Nat.div_le_self _ _)) hla
    have r1 := p99 (dgl_lim a'.natAbs) (dgl_lim b'.natAbs) (by omega) (by omega)
    have r2 := p135 (dgl_lim a'.natAbs) (dgl_lim (Nat.gcd a'.natAbs b'.natAbs)) (by omega) (by omega) (by rw [val_dgl]; omega)
    have r3 := p135 (dgl_lim b'.natAbs) (dgl_lim (Nat.gcd a'.natAbs b'.natAbs)) (by omega) (by omega) (by rw [val_dgl]; omega)
    have r4 := fun neg => p68 (neg := neg) (dgl_lim (a'.natAbs / Nat.gcd a'.natAbs b'.natAbs)) (by omega)
    simp only [val_dgl] at r1 r2 r3 r4
    exact ⟨r1, r2, r3, r4⟩
  obtain ⟨n1, la, rfl, hla, hna, ea⟩ := h
  obtain ⟨n2, lb, rfl, hlb, hnb, eb⟩ := h'
  refine pu_of rp200 ?_
  rw [zi_raw] at k79 k58a k58b
  by_cases hneg : b < 0
  · obtain ⟨r1, r2, r3, r4⟩ := key (-a) (-b) (by omega) ha.neg hbs.neg
    have hs : b.sign < 0 := by rw [Int.sign_eq_neg_one_of_neg hneg]; decide
    have e : Rat.divInt a b = Rat.divInt (-a) (-b) := (Rat.neg_divInt_neg a b).symm
    rw [e, rq_make (by omega)]
    simp only [f72, args0, SA, setCells, Int.reduceLE, Int.reduceLT, ↓reduceIte, reduceCtorEq, Nat.reduceLT, Nat.reduceEqDiff, Nat.reduceAdd, Nat.reduceMul, Nat.reduceLeDiff, Nat.reduceBEq, kp1 k1, kp1 k2, kp1 k79, hs, kp1 k58a, kp1 k58b, kp2 r1, kp2 r2, kp2 r3, kp1 (r4 _), subPV]
    rfl
  · obtain ⟨r1, r2, r3, r4⟩ := key a b (by omega) ha hbs
    have hs : ¬ b.sign < 0 := by rw [Int.sign_eq_one_of_pos (by omega)]; decide
    rw [rq_make (by omega)]
    simp only [f72, args0, SA, setCells, Int.reduceLE, Int.reduceLT, ↓reduceIte, reduceCtorEq, Nat.reduceLT, Nat.reduceEqDiff, Nat.reduceAdd, Nat.reduceMul, Nat.reduceLeDiff, Nat.reduceBEq, kp1 k1, kp1 k2, kp1 k79, hs, kp2 r1, kp2 r2, kp2 r3, kp1 (r4 _), subPV]
    rfl
theorem RS.num {x : Rat} (h : RS x) : Nu (zi x.num) x.num := Nu.zi (h.1.sz (by rw [RL_eq]; omega))
theorem p198 {x y : Rat} (h : RS x) (h' : RS y) : Pu rp 68 [rq x, rq y] (.p (rq (x + y))) := by
  refine pu_of rp198 ?_
  have xn := nuNum (h.1.sz (by rw [RL_eq]; omega))
  have xd := nuDen (h.2.sz (by rw [RL_eq]; omega))
  have yn := nuNum (h'.1.sz (by rw [RL_eq]; omega))
  have yd := nuDen (h'.2.sz (by rw [RL_eq]; omega))
  have s1 : Sk (RL + RL) (x.num * y.den) := h.1.mul h'.2
  have s2 : Sk (RL + RL) (y.num * x.den) := h'.1.mul h.2
  have s3 : Sk (RL + RL) ((x.den : Int) * y.den) := h.2.mul h'.2
  have k1 := p117 xn yd
  have k2 := p117 yn xd
  have k3 := p117 xd yd
  have k4 := p109 (Nu.zi (s1.sz (by rw [RL_eq]; omega))) (Nu.zi (s2.sz (by rw [RL_eq]; omega)))
  have hd : (x.den : Int) * y.den ≠ 0 := by
    have := x.den_nz; have := y.den_nz
    exact Int.mul_ne_zero (by omega) (by omega)
  have k5 := p200 (Nu.zi ((s1.add s2).sz (by rw [RL_eq]; omega))) (Nu.zi (s3.sz (by rw [RL_eq]; omega))) hd
  have e : x + y = Rat.divInt (x.num * y.den + y.num * x.den) ((x.den : Int) * y.den) := by
    have := Rat.divInt_add_divInt x.num y.num (d₁ := x.den) (d₂ := y.den) (by have := x.den_nz; omega) (by have := y.den_nz; omega)
    rwa [Rat.num_divInt_den, Rat.num_divInt_den] at this
  rw [e]
  rw [zi_raw (x := x.num * y.den), zi_raw (x := y.num * x.den)] at k4
  simp only [f68, args0, SA, setCells, Int.reduceLE, Int.reduceLT, ↓reduceIte, reduceCtorEq, Nat.reduceLT, Nat.reduceEqDiff, Nat.reduceAdd, Nat.reduceMul, Nat.reduceLeDiff, Nat.reduceBEq, rq, kp2 k1, kp2 k2, kp2 k3, kp2 k4, kp2 k5]
  rfl
theorem p199 {x : Rat} (h : RS x) : Pu rp 108 [rq x] (.p (rq (-x))) := by
  refine pu_of rp199 ?_
  have xn := nuNum (h.1.sz (by rw [RL_eq]; omega))
  have xd := nuDen (h.2.sz (by rw [RL_eq]; omega))
  have k1 := p58' xn
  have k5 := p200 (Nu.zi ((h.1.neg).sz (by rw [RL_eq]; omega))) xd (by have := x.den_nz; omega)
  have e : -x = Rat.divInt (-x.num) x.den := by
    rw [← Rat.neg_divInt, Rat.num_divInt_den]
  rw [e]
  simp only [f108, args0, SA, setCells, Int.reduceLE, Int.reduceLT, ↓reduceIte, reduceCtorEq, Nat.reduceLT, Nat.reduceEqDiff, Nat.reduceAdd, Nat.reduceMul, Nat.reduceLeDiff, Nat.reduceBEq, rq, kp1 k1, kp2 k5]
  rfl
theorem Rat.RS_neg {x : Rat} (h : RS x) : RS (-x) := by
  unfold RS at *
  rw [Rat.neg_num, Rat.neg_den]
  exact ⟨h.1.neg, h.2⟩
theorem p172 {x y : Rat} (h : RS x) (h' : RS y) : Pu rp 67 [rq x, rq y] (.p (rq (x - y))) := by
  refine pu_of rp172 ?_
  have k1 := p199 h'
  have k2 := p198 h (Rat.RS_neg h')
  rw [Rat.sub_eq_add_neg]
  unfold rq at k1 k2 ⊢
  simp only [f67, args0, SA, setCells, Int.reduceLE, Int.reduceLT, ↓reduceIte, reduceCtorEq, Nat.reduceLT, Nat.reduceEqDiff, Nat.reduceAdd, Nat.reduceMul, Nat.reduceLeDiff, Nat.reduceBEq, kp1 k1, kp2 k2]
  rfl
theorem p173 {x y : Rat} (h : RS x) (h' : RS y) : Pu rp 32 [rq x, rq y] (.p (rq (x * y))) := by
  refine pu_of rp173 ?_
  have xn := nuNum (h.1.sz (by rw [RL_eq]; omega))
  have xd := nuDen (h.2.sz (by rw [RL_eq]; omega))
  have yn := nuNum (h'.1.sz (by rw [RL_eq]; omega))
  have yd := nuDen (h'.2.sz (by rw [RL_eq]; omega))
  have s1 : Sk (RL + RL) (x.num * y.num) := h.1.mul h'.1
  have s3 : Sk (RL + RL) ((x.den : Int) * y.den) := h.2.mul h'.2
  have k1 := p117 xn yn
  have k3 := p117 xd yd
  have hd : (x.den : Int) * y.den ≠ 0 := by
    have := x.den_nz; have := y.den_nz
    exact Int.mul_ne_zero (by omega) (by omega)
  have k5 := p200 (Nu.zi (s1.sz (by rw [RL_eq]; omega))) (Nu.zi (s3.sz (by rw [RL_eq]; omega))) hd
  have e : x * y = Rat.divInt (x.num * y.num) ((x.den : Int) * y.den) := by
    have := Rat.divInt_mul_divInt x.num y.num (d₁ := x.den) (d₂ := y.den)
    rwa [Rat.num_divInt_den, Rat.num_divInt_den] at this
  rw [e]
  simp only [f32, args0, SA, setCells, Int.reduceLE, Int.reduceLT, ↓reduceIte, reduceCtorEq, Nat.reduceLT, Nat.reduceEqDiff, Nat.reduceAdd, Nat.reduceMul, Nat.reduceLeDiff, Nat.reduceBEq, rq, kp2 k1, kp2 k3, kp2 k5]
  rfl
theorem p174 {x y : Rat} (h : RS x) (h' : RS y) (hy : y ≠ 0) : Pu rp 70 [rq x, rq y] (.p (rq (x / y))) := by
  refine pu_of rp174 ?_
  have xn := nuNum (h.1.sz (by rw [RL_eq]; omega))
  have xd := nuDen (h.2.sz (by rw [RL_eq]; omega))
  have yn := nuNum (h'.1.sz (by rw [RL_eq]; omega))
  have yd := nuDen (h'.2.sz (by rw [RL_eq]; omega))
  have s1 : Sk (RL + RL) (x.num * y.den) := h.1.mul h'.2
  have s3 : Sk (RL + RL) ((x.den : Int) * y.num) := h.2.mul h'.1
  have k1 := p117 xn yd
  have k3 := p117 xd yn
  have hyn : y.num ≠ 0 := fun h0 => hy (Rat.num_eq_zero.1 h0)
  have hd : (x.den : Int) * y.num ≠ 0 := by
    have := x.den_nz
    exact Int.mul_ne_zero (by omega) hyn
  have k5 := p200 (Nu.zi (s1.sz (by rw [RL_eq]; omega))) (Nu.zi (s3.sz (by rw [RL_eq]; omega))) hd
  have e : x / y = Rat.divInt (x.num * y.den) ((x.den : Int) * y.num) := by
    have h1 : y⁻¹ = Rat.divInt y.den y.num := Rat.inv_def y
    have := Rat.divInt_mul_divInt x.num y.den (d₁ := x.den) (d₂ := y.num)
    rwa [Rat.num_divInt_den, ← h1, ← Rat.div_def] at this
  rw [e]
  simp only [f70, args0, SA, setCells, Int.reduceLE, Int.reduceLT, ↓reduceIte, reduceCtorEq, Nat.reduceLT, Nat.reduceEqDiff, Nat.reduceAdd, Nat.reduceMul, Nat.reduceLeDiff, Nat.reduceBEq, rq, kp2 k1, kp2 k3, kp2 k5]
  rfl
end Go.Proofs.YtdieenbfdeaffaaGreat.VBn

namespace Go.Proofs.YtdieenbfdeaffaaGreat.Gs
set_option linter.unusedVariables false
def sumR (f : Nat → Rat) : Nat → Rat
  | 0 => 0
  | n + 1 => sumR f n + f n
def sg : Nat → Rat
  | 0 => 1
  | n + 1 => - sg n
def sk (r p : Nat) : Nat := if p < r then p else p + 1
def det : Nat → (Nat → Nat → Rat) → Rat
  | 0, _ => 1
  | n + 1, A => sumR (fun r => sg r * A r 0 * det n fun p q => A (sk r p) (q + 1)) (n + 1)
theorem sumR_congr {f g : Nat → Rat} : ∀ {n : Nat}, (∀ r, r < n → f r = g r) → sumR f n = sumR g n
  | 0, _ => rfl
  | n + 1, h => by
    simp only [sumR]
    rw [sumR_congr fun r hr => h r (Nat.lt_succ_of_lt hr), h n (Nat.lt_succ_self n)]
theorem sumR_zero {f : Nat → Rat} : ∀ {n : Nat}, (∀ r, r < n → f r = 0) → sumR f n = 0
  | 0, _ => rfl
  | n + 1, h => by
    simp only [sumR]
    rw [sumR_zero fun r hr => h r (Nat.lt_succ_of_lt hr), h n (Nat.lt_succ_self n)]
    grind
theorem sumR_lin {f g : Nat → Rat} {c : Rat} : ∀ {n : Nat}, sumR (fun r => f r + c * g r) n = sumR f n + c * sumR g n
  | 0 => by simp only [sumR]; grind
  | n + 1 => by
    simp only [sumR]
    rw [sumR_lin]
    grind
theorem sumR_two {f : Nat → Rat} {p : Nat} (hs : f p + f (p + 1) = 0) : ∀ {n : Nat}, p + 1 < n → (∀ r, r < n → r ≠ p → r ≠ p + 1 → f r = 0) → sumR f n = 0
  | 0, h, _ => by omega
  | n + 1, h, hz => by
    simp only [sumR]
    by_cases hn : n = p + 1
    · subst hn
      simp only [sumR]
      rw [sumR_zero fun r hr => hz r (by omega) (by omega) (by omega)]
      grind
    · rw [sumR_two hs (n := n) (by omega) fun r hr => hz r (by omega), hz n (by omega) (by omega) (by omega)]
      grind
theorem sumR_one {f : Nat → Rat} : ∀ {n : Nat}, (∀ r, 0 < r → r < n + 1 → f r = 0) → sumR f (n + 1) = f 0
  | 0, _ => by simp only [sumR]; grind
  | n + 1, h => by
    rw [sumR, sumR_one fun r h0 hr => h r h0 (by omega), h (n + 1) (by omega) (by omega)]
    grind
theorem sk_lt {r p n : Nat} (hr : r < n + 1) (hp : p < n) : sk r p < n + 1 := by unfold sk; split <;> omega
theorem sk_ne {r p : Nat} : sk r p ≠ r := by unfold sk; split <;> omega
theorem det_congr : ∀ {n : Nat} {A B : Nat → Nat → Rat}, (∀ p q, p < n → q < n → A p q = B p q) → det n A = det n B
  | 0, _, _, _ => rfl
  | n + 1, A, B, h => by
    simp only [det]
    refine sumR_congr fun r hr => ?_
    rw [h r 0 hr (by omega), det_congr (n := n) (A := fun p q => A (sk r p) (q + 1)) (B := fun p q => B (sk r p) (q + 1)) fun p q hp hq => h _ _ (sk_lt hr hp) (by omega)]
def sp (r p : Nat) : Nat := if p < r then p else p - 1
theorem sk_sp {r p : Nat} (h : p ≠ r) : sk r (sp r p) = p := by
  unfold sk sp
  by_cases h1 : p < r
  · rw [if_pos h1, if_pos h1]
  · rw [if_neg h1, if_neg (by omega)]; omega
theorem sk_inj {r p p' : Nat} (h : sk r p = sk r p') : p = p' := by unfold sk at h; split at h <;> split at h <;> omega
theorem sp_lt {r p n : Nat} (hr : r < n + 1) (hp : p < n + 1) (h : p ≠ r) : sp r p < n := by unfold sp; split <;> omega
theorem det_lin : ∀ {n : Nat} {A B C : Nat → Nat → Rat} {c : Rat} {p : Nat}, p < n → (∀ q, C p q = A p q + c * B p q) → (∀ r q, r ≠ p → C r q = A r q ∧ C r q = B r q) → det n C = det n A + c * det n B
  | 0, _, _, _, _, _, hp, _, _ => by omega
  | n + 1, A, B, C, c, p, hp, h1, h2 => by
    simp only [det]
    rw [← sumR_lin]
    refine sumR_congr fun r hr => ?_
    by_cases hrp : r = p
    · subst hrp
      have e1 : (det n fun p q => C (sk r p) (q + 1)) = det n fun p q => A (sk r p) (q + 1) := det_congr fun p q _ _ => (h2 _ _ sk_ne).1
      have e2 : (det n fun p q => C (sk r p) (q + 1)) = det n fun p q => B (sk r p) (q + 1) := det_congr fun p q _ _ => (h2 _ _ sk_ne).2
      rw [← e2, ← e1, h1]
      grind
    · have e := det_lin (n := n) (A := fun p q => A (sk r p) (q + 1)) (B := fun p q => B (sk r p) (q + 1)) (C := fun p q => C (sk r p) (q + 1)) (c := c) (p := sp r p) (sp_lt hr hp (Ne.symm hrp))
        (fun q => by simp only [sk_sp (Ne.symm hrp)]; exact h1 _) (fun r' q hr' => h2 _ _ fun h => hr' (by
          rw [← sk_sp (Ne.symm hrp)] at h; exact sk_inj h))
      rw [e, ← (h2 r 0 hrp).1, (h2 r 0 hrp).2]
      grind
theorem det_adj : ∀ {n : Nat} {A : Nat → Nat → Rat} {p : Nat}, p + 1 < n → (∀ q, A p q = A (p + 1) q) → det n A = 0
  | 0, _, _, hp, _ => by omega
  | n + 1, A, p, hp, h => by
    simp only [det]
    refine sumR_two (p := p) ?_ hp ?_
    · have e : (det n fun p' q => A (sk p p') (q + 1)) = det n fun p' q => A (sk (p + 1) p') (q + 1) := det_congr fun p' q _ _ => by
        by_cases hpp : p' = p
        · subst hpp
          have a1 : sk p' p' = p' + 1 := by unfold sk; rw [if_neg (by omega)]
          have a2 : sk (p' + 1) p' = p' := by unfold sk; rw [if_pos (by omega)]
          rw [a1, a2, h]
        · have : sk p p' = sk (p + 1) p' := by unfold sk; split <;> split <;> omega
          rw [this]
      rw [e, h 0, sg]
      grind
    · intro r hr h1 h2
      have hp1 : sk r (sp r p) = p := sk_sp (Ne.symm h1)
      have hp2 : sk r (sp r p + 1) = p + 1 := by unfold sk sp; split <;> split <;> omega
      rw [det_adj (n := n) (p := sp r p) (by unfold sp; split <;> omega) (fun q => by simp only [hp1, hp2]; exact h _)]
      grind
def put (A : Nat → Nat → Rat) (p : Nat) (v : Nat → Rat) : Nat → Nat → Rat := fun r q => if r = p then v q else A r q
theorem put_at {A : Nat → Nat → Rat} {p : Nat} {v : Nat → Rat} {q : Nat} : put A p v p q = v q := by unfold put; rw [if_pos rfl]
theorem put_ne {A : Nat → Nat → Rat} {p r : Nat} {v : Nat → Rat} {q : Nat} (h : r ≠ p) : put A p v r q = A r q := by unfold put; rw [if_neg h]
theorem det_swap {n : Nat} {A : Nat → Nat → Rat} {p : Nat} (hp : p + 1 < n) : det n (put (put A p (A (p + 1))) (p + 1) (A p)) = - det n A := by
  -- u, v: the two rows
  have key : ∀ x y : Nat → Rat, det n (put (put A p fun q => x q + y q) (p + 1) fun q => x q + y q) = 0 := fun x y =>
    det_adj (p := p) hp fun q => by rw [put_ne (by omega), put_at, put_at]
  have same : ∀ x : Nat → Rat, det n (put (put A p x) (p + 1) x) = 0 := fun x => det_adj (p := p) hp fun q => by rw [put_ne (by omega), put_at, put_at]
  have l1 : ∀ x y z : Nat → Rat, det n (put (put A p fun q => x q + y q) (p + 1) z) = det n (put (put A p x) (p + 1) z) + 1 * det n (put (put A p y) (p + 1) z) := fun x y z =>
    det_lin (p := p) (by omega) (fun q => by
      have e : p ≠ p + 1 := by omega
      simp only [put, if_neg e, if_true]
      grind) (fun r q hr => by
      by_cases h : r = p + 1
      · subst h; rw [put_at, put_at, put_at]; exact ⟨rfl, rfl⟩
      · rw [put_ne h, put_ne h, put_ne h, put_ne hr, put_ne hr, put_ne hr]; exact ⟨rfl, rfl⟩)
  have l2 : ∀ x y z : Nat → Rat, det n (put (put A p z) (p + 1) fun q => x q + y q) = det n (put (put A p z) (p + 1) x) + 1 * det n (put (put A p z) (p + 1) y) := fun x y z =>
    det_lin (p := p + 1) (by omega) (fun q => by rw [put_at, put_at, put_at]; grind) (fun r q hr => by rw [put_ne hr, put_ne hr, put_ne hr]; exact ⟨rfl, rfl⟩)
  have k := key (A p) (A (p + 1))
  rw [l1, l2, l2, same, same] at k
  have e : det n (put (put A p (A p)) (p + 1) (A (p + 1))) = det n A := det_congr fun r q _ _ => by
    by_cases h : r = p + 1
    · subst h; rw [put_at]
    · rw [put_ne h]
      by_cases h' : r = p
      · subst h'; rw [put_at]
      · rw [put_ne h']
  rw [e] at k
  grind
theorem det_same0 {n : Nat} : ∀ {p : Nat} {A : Nat → Nat → Rat}, p + 1 < n → (∀ q, A (p + 1) q = A 0 q) → det n A = 0
  | 0, A, hp, h => det_adj (p := 0) hp fun q => (h q).symm
  | p + 1, A, hp, h => by
    have h1 := det_swap (A := A) (p := p + 1) hp
    rw [det_same0 (p := p) (A := put (put A (p + 1) (A (p + 1 + 1))) (p + 1 + 1) (A (p + 1))) (by omega) (fun q => by
      rw [put_ne (by omega), put_at, put_ne (by omega), put_ne (by omega)]; exact h q)] at h1
    grind
theorem det_addrow {n : Nat} {A : Nat → Nat → Rat} {p : Nat} {c : Rat} (hp : p + 1 < n) : det n (put A (p + 1) fun q => A (p + 1) q + c * A 0 q) = det n A := by
  have h := det_lin (n := n) (A := A) (B := put A (p + 1) (A 0)) (C := put A (p + 1) fun q => A (p + 1) q + c * A 0 q) (c := c) (p := p + 1) hp
    (fun q => by rw [put_at, put_at]) (fun r q hr => by rw [put_ne hr, put_ne hr]; exact ⟨rfl, rfl⟩)
  rw [h, det_same0 (p := p) hp (A := put A (p + 1) (A 0)) (fun q => by rw [put_at, put_ne (by omega)])]
  grind
theorem det_rows {n : Nat} {A : Nat → Nat → Rat} (c : Nat → Rat) : ∀ {m : Nat}, m < n → det n (fun r q => if 0 < r ∧ r ≤ m then A r q + c r * A 0 q else A r q) = det n A
  | 0, _ => det_congr fun r q _ _ => by rw [if_neg (by omega)]
  | m + 1, hm => by
    refine Eq.trans ?_ (det_rows c (m := m) (by omega))
    rw [← det_addrow (A := fun r q => if 0 < r ∧ r ≤ m then A r q + c r * A 0 q else A r q) (p := m) (c := c (m + 1)) hm]
    refine det_congr fun r q _ _ => ?_
    by_cases h : r = m + 1
    · subst h
      rw [put_at, if_pos (by omega), if_neg (by omega), if_neg (by omega)]
    · rw [put_ne h]
      by_cases h2 : 0 < r ∧ r ≤ m
      · rw [if_pos (by omega), if_pos h2]
      · rw [if_neg (by omega), if_neg h2]
theorem det_elim {n : Nat} {A : Nat → Nat → Rat} (h0 : A 0 0 ≠ 0) : det (n + 1) A = A 0 0 * det n fun p q => A (p + 1) (q + 1) - A (p + 1) 0 * A 0 (q + 1) / A 0 0 := by
  rw [← det_rows (fun r => - A r 0 / A 0 0) (m := n) (Nat.lt_succ_self n)]
  rw [det, sumR_one]
  · have e : (det n fun p q => if 0 < sk 0 p ∧ sk 0 p ≤ n then A (sk 0 p) (q + 1) + (- A (sk 0 p) 0 / A 0 0) * A 0 (q + 1) else A (sk 0 p) (q + 1)) = det n fun p q => A (p + 1) (q + 1) - A (p + 1) 0 * A 0 (q + 1) / A 0 0 := det_congr fun p q hp hq => by
      have : sk 0 p = p + 1 := by unfold sk; rw [if_neg (by omega)]
      rw [this, if_pos (by omega)]
      grind
    rw [e, if_neg (by omega), sg]
    grind
  · intro r hr hr2
    rw [if_pos (by omega)]
    have : A r 0 + - A r 0 / A 0 0 * A 0 0 = 0 := by grind
    rw [this]
    grind
end Go.Proofs.YtdieenbfdeaffaaGreat.Gs

namespace Go.Proofs.YtdieenbfdeaffaaGreat.Gs
set_option linter.unusedVariables false
def U (g : Nat → Nat → Rat) : Nat → Nat → Nat → Rat
  | 0, i, j => g i j
  | k + 1, i, j => U g k i j - U g k i k * U g k k j / U g k k k
def Dk (g : Nat → Nat → Rat) : Nat → Rat
  | 0 => 1
  | k + 1 => Dk g k * U g k k k
def nx (g : Nat → Nat → Rat) : Nat → Nat → Rat := fun i j => U g 1 (i + 1) (j + 1)
theorem U_nx {g : Nat → Nat → Rat} : ∀ {k i j : Nat}, U g (k + 1) (i + 1) (j + 1) = U (nx g) k i j
  | 0, _, _ => rfl
  | k + 1, i, j => by
    rw [U, U_nx, U_nx, U_nx, U_nx, U]
theorem Dk_nx {g : Nat → Nat → Rat} : ∀ {k : Nat}, Dk g (k + 1) = g 0 0 * Dk (nx g) k
  | 0 => by simp only [Dk, U]; grind
  | k + 1 => by
    rw [Dk, Dk_nx, U_nx, Dk]
    grind
def ro (k i p : Nat) : Nat := if p < k then p else i
theorem det_U : ∀ {k : Nat} {g : Nat → Nat → Rat} {i j : Nat}, k ≤ i → k ≤ j → (∀ t, t < k → U g t t t ≠ 0) → det (k + 1) (fun p q => g (ro k i p) (ro k j q)) = Dk g k * U g k i j
  | 0, g, i, j, _, _, _ => by
    simp only [det, sumR, sg, Dk, U, ro]
    simp only [Nat.not_lt_zero, if_false]
    grind
  | k + 1, g, i, j, hi, hj, hp => by
    obtain ⟨i, rfl⟩ : ∃ i', i = i' + 1 := ⟨i - 1, by omega⟩
    obtain ⟨j, rfl⟩ : ∃ j', j = j' + 1 := ⟨j - 1, by omega⟩
    have r0 : ∀ i, ro (k + 1) i 0 = 0 := fun i => by unfold ro; rw [if_pos (by omega)]
    have rs : ∀ i p, ro (k + 1) (i + 1) (p + 1) = ro k i p + 1 := fun i p => by
      unfold ro
      by_cases h : p < k
      · rw [if_pos h, if_pos (by omega)]
      · rw [if_neg h, if_neg (by omega)]
    have h0 : g 0 0 ≠ 0 := hp 0 (by omega)
    rw [det_elim (by simp only [r0]; exact h0)]
    have e : (fun p q => g (ro (k + 1) (i + 1) (p + 1)) (ro (k + 1) (j + 1) (q + 1)) - g (ro (k + 1) (i + 1) (p + 1)) (ro (k + 1) (j + 1) 0) * g (ro (k + 1) (i + 1) 0) (ro (k + 1) (j + 1) (q + 1)) / g (ro (k + 1) (i + 1) 0) (ro (k + 1) (j + 1) 0)) = fun p q => nx g (ro k i p) (ro k j q) := by
      funext p q
      rw [rs, rs, r0, r0]
      rfl
    rw [e, det_U (g := nx g) (by omega) (by omega) (fun t ht => by rw [← U_nx]; exact hp (t + 1) (by omega)), r0, r0, Dk_nx, U_nx]
    grind
def In (M : Nat) (x : Rat) : Prop := ∃ v : Int, x = (v : Rat) ∧ v.natAbs ≤ M
theorem In.mul {M N : Nat} {x y : Rat} (h : In M x) (h' : In N y) : In (M * N) (x * y) := by
  obtain ⟨v, rfl, hv⟩ := h
  obtain ⟨w, rfl, hw⟩ := h'
  exact ⟨v * w, by rw [Rat.intCast_mul], by rw [Int.natAbs_mul]; exact Nat.mul_le_mul hv hw⟩
theorem In.add {M N : Nat} {x y : Rat} (h : In M x) (h' : In N y) : In (M + N) (x + y) := by
  obtain ⟨v, rfl, hv⟩ := h
  obtain ⟨w, rfl, hw⟩ := h'
  exact ⟨v + w, by rw [Rat.intCast_add], by have := Int.natAbs_add_le v w; omega⟩
theorem In.neg {M : Nat} {x : Rat} (h : In M x) : In M (-x) := by
  obtain ⟨v, rfl, hv⟩ := h
  exact ⟨-v, by rw [Rat.intCast_neg], by rwa [Int.natAbs_neg]⟩
theorem In.sg : ∀ {n : Nat}, In 1 (sg n)
  | 0 => ⟨1, rfl, by decide⟩
  | n + 1 => In.neg In.sg
theorem In.sum {M : Nat} {f : Nat → Rat} : ∀ {n : Nat}, (∀ r, r < n → In M (f r)) → In (n * M) (sumR f n)
  | 0, _ => ⟨0, rfl, by simp⟩
  | n + 1, h => by
    rw [Nat.add_mul, Nat.one_mul]
    exact In.add (In.sum fun r hr => h r (by omega)) (h n (by omega))
def bd (M : Nat) : Nat → Nat
  | 0 => 1
  | n + 1 => (n + 1) * (M * bd M n)
theorem In.det {M : Nat} : ∀ {n : Nat} {A : Nat → Nat → Rat}, (∀ p q, p < n → q < n → In M (A p q)) → In (bd M n) (det n A)
  | 0, _, _ => ⟨1, rfl, Nat.le_refl 1⟩
  | n + 1, A, h => by
    rw [Gs.det, bd]
    apply In.sum
    intro r hr
    have := (In.mul (In.sg (n := r)) (h r 0 hr (by omega))).mul (In.det (n := n) (A := fun p q => A (sk r p) (q + 1)) fun p q hp hq => h _ _ (sk_lt hr hp) (by omega))
    rw [Nat.one_mul] at this
    exact this
def V (g : Nat → Nat → Int) : Nat → Nat → Nat → Int
  | 0, i, j => g i j
  | 1, i, j => (V g 0 0 0 * V g 0 i j - V g 0 i 0 * V g 0 j 0) / 1
  | k + 2, i, j => (V g (k + 1) (k + 1) (k + 1) * V g (k + 1) i j - V g (k + 1) i (k + 1) * V g (k + 1) j (k + 1)) / V g k k k
def Dv (g : Nat → Nat → Int) : Nat → Int
  | 0 => 1
  | k + 1 => V g k k k
theorem V_succ {g : Nat → Nat → Int} {k i j : Nat} : V g (k + 1) i j = (Dv g (k + 1) * V g k i j - V g k i k * V g k j k) / Dv g k := by
  cases k <;> rfl
theorem V_symm {g : Nat → Nat → Int} (hs : ∀ i j, g i j = g j i) : ∀ {k i j : Nat}, V g k i j = V g k j i
  | 0, i, j => hs i j
  | k + 1, i, j => by rw [V_succ, V_succ, V_symm hs (i := i) (j := j), Int.mul_comm (V g k i k)]
def rg (g : Nat → Nat → Int) : Nat → Nat → Rat := fun i j => ((g i j : Int) : Rat)
def Pos (g : Nat → Nat → Int) (k : Nat) : Prop := ∀ t, t < k → 0 < V g t t t
theorem Pos.pred {g : Nat → Nat → Int} {k : Nat} (h : Pos g (k + 1)) : Pos g k := fun t ht => h t (by omega)
theorem Pos.mono {g : Nat → Nat → Int} {k m : Nat} (h : Pos g k) (hm : m ≤ k) : Pos g m := fun t ht => h t (by omega)
structure Good (g : Nat → Nat → Int) (M k : Nat) : Prop where
  d : (Dv g k : Rat) = Dk (rg g) k
  dp : 0 < Dv g k
  piv : ∀ t, t < k → 0 < U (rg g) t t t
  v : ∀ i j, k ≤ i → k ≤ j → (V g k i j : Rat) = Dk (rg g) k * U (rg g) k i j
  sz : ∀ i j, k ≤ i → k ≤ j → (∀ p q, (p < k ∨ p = i) → (q < k ∨ q = j) → (g p q).natAbs ≤ M) → (V g k i j).natAbs ≤ bd M (k + 1)
def mx2 (f : Nat → Nat → Nat) (n : Nat) : Nat → Nat
  | 0 => 0
  | p + 1 => mx2 f n p + mx1 (f p) n
where mx1 (f : Nat → Nat) : Nat → Nat
  | 0 => 0
  | q + 1 => mx1 f q + f q
theorem le_mx1 {f : Nat → Nat} : ∀ {n q : Nat}, q < n → f q ≤ mx2.mx1 f n
  | 0, _, h => by omega
  | n + 1, q, h => by
    simp only [mx2.mx1]
    rcases Nat.lt_or_ge q n with h1 | h1
    · have := le_mx1 (f := f) h1; omega
    · obtain rfl : q = n := by omega
      omega
theorem le_mx2 {f : Nat → Nat → Nat} {n : Nat} : ∀ {m p q : Nat}, p < m → q < n → f p q ≤ mx2 f n m
  | 0, _, _, h, _ => by omega
  | m + 1, p, q, h, hq => by
    simp only [mx2]
    rcases Nat.lt_or_ge p m with h1 | h1
    · have := le_mx2 (f := f) h1 hq; omega
    · obtain rfl : p = m := by omega
      have := le_mx1 (f := f p) hq
      omega
theorem ro_or {k i p : Nat} : ro k i p < k ∨ ro k i p = i := by unfold ro; split <;> omega
theorem good {g : Nat → Nat → Int} (hs : ∀ i j, g i j = g j i) {M : Nat} : ∀ {k : Nat}, Pos g k → Good g M k
  | 0, _ => by
    refine ⟨rfl, Int.one_pos, fun t ht => by omega, fun i j _ _ => by simp only [V, Dk, U, rg]; grind, fun i j _ _ h => ?_⟩
    have := h i j (.inr rfl) (.inr rfl)
    simp only [V, bd]
    omega
  | k + 1, h => by
    have G := good hs (M := M) h.pred
    have hk := h k (by omega)
    have hV := G.v k k (Nat.le_refl _) (Nat.le_refl _)
    have hdp : (0 : Rat) < Dk (rg g) k := by rw [← G.d]; exact Rat.intCast_pos.2 G.dp
    have hUp : 0 < U (rg g) k k k := by
      have h1 : (0 : Rat) < (V g k k k : Rat) := Rat.intCast_pos.2 hk
      rw [hV] at h1
      rcases (show U (rg g) k k k < 0 ∨ U (rg g) k k k = 0 ∨ 0 < U (rg g) k k k by grind) with h2 | h2 | h2
      · exfalso
        have := Rat.mul_pos hdp (show 0 < - U (rg g) k k k by grind)
        grind
      · rw [h2] at h1; grind
      · exact h2
    have hpiv : ∀ t, t < k + 1 → 0 < U (rg g) t t t := fun t ht => by
      rcases Nat.lt_or_ge t k with h1 | h1
      · exact G.piv t h1
      · obtain rfl : t = k := by omega
        exact hUp
    have hd : (Dv g (k + 1) : Rat) = Dk (rg g) (k + 1) := by rw [Dv, hV, Dk]
    have hint : ∀ i j, k + 1 ≤ i → k + 1 ≤ j → ∃ x : Int, (x : Rat) = Dk (rg g) (k + 1) * U (rg g) (k + 1) i j ∧ ((∀ p q, (p < k + 1 ∨ p = i) → (q < k + 1 ∨ q = j) → (g p q).natAbs ≤ M) → x.natAbs ≤ bd M (k + 1 + 1)) := by
      intro i j hi hj
      have e := det_U (g := rg g) hi hj (fun t ht => by have := hpiv t ht; grind)
      obtain ⟨x0, hx0, -⟩ := In.det (n := k + 1 + 1) (A := fun p q => rg g (ro (k + 1) i p) (ro (k + 1) j q)) (M := mx2 (fun p q => (g (ro (k + 1) i p) (ro (k + 1) j q)).natAbs) (k + 1 + 1) (k + 1 + 1)) fun p q hp hq => ⟨_, rfl, le_mx2 (f := fun p q => (g (ro (k + 1) i p) (ro (k + 1) j q)).natAbs) hp hq⟩
      refine ⟨x0, by rw [← hx0, e], fun hM => ?_⟩
      obtain ⟨x, hx, hb⟩ := In.det (n := k + 1 + 1) (A := fun p q => rg g (ro (k + 1) i p) (ro (k + 1) j q)) (M := M) fun p q hp hq => ⟨_, rfl, hM _ _ ro_or ro_or⟩
      have : x0 = x := by rw [hx0] at hx; exact Rat.intCast_inj.1 hx
      rw [this]; exact hb
    have key : ∀ i j x, k + 1 ≤ i → k + 1 ≤ j → ((x : Int) : Rat) = Dk (rg g) (k + 1) * U (rg g) (k + 1) i j → V g (k + 1) i j = x := by
      intro i j x hi hj hx
      rw [V_succ]
      have e1 := G.v i j (by omega) (by omega)
      have e2 := G.v i k (by omega) (by omega)
      have e3 := G.v j k (by omega) (by omega)
      have e3' := G.v k j (by omega) (by omega)
      rw [V_symm hs (i := k) (j := j)] at e3'
      have hnum : Dv g (k + 1) * V g k i j - V g k i k * V g k j k = Dv g k * x := by
        apply Rat.intCast_inj.1
        rw [Rat.intCast_sub, Rat.intCast_mul, Rat.intCast_mul, Rat.intCast_mul, hx, hd, G.d, e1, e2, e3', Dk, U]
        have : U (rg g) k k k ≠ 0 := by grind
        grind
      rw [hnum]
      exact Int.mul_ediv_cancel_left _ (by have := G.dp; omega)
    refine ⟨hd, hk, hpiv, fun i j hi hj => ?_, fun i j hi hj hM => ?_⟩
    · obtain ⟨x, hx, -⟩ := hint i j hi hj
      rw [key i j x hi hj hx, hx]
    · obtain ⟨x, hx, hb⟩ := hint i j hi hj
      rw [key i j x hi hj hx]
      exact hb hM
end Go.Proofs.YtdieenbfdeaffaaGreat.Gs

namespace Go.Proofs.YtdieenbfdeaffaaGreat.VBn
open Go Vpi
set_option maxRecDepth 100000
set_option linter.unusedSimpArgs false
set_option linter.unusedVariables false
theorem rp112 : rp 61 = some f61 := rfl
theorem rp169 : rp 25 = some f25 := rfl
theorem rp171 : rp 34 = some f34 := rfl
def NuR (r : List PV) (x : Nat → Int) : Prop := ∀ i, i < r.length → ∃ p, r[i]? = some p ∧ Nu p (x i)
def dotI (x y : Nat → Int) : Nat → Int
  | 0 => 0
  | n + 1 => dotI x y n + x n * y n
theorem dot_sz {x y : Nat → Int} : ∀ {n : Nat}, (∀ i, i < n → Sk 8 (x i) ∧ Sk 8 (y i)) → (dotI x y n).natAbs ≤ n * LB ^ 16
  | 0, _ => by simp [dotI]
  | n + 1, h => by
    have h1 := dot_sz (n := n) fun i hi => h i (by omega)
    have h2 : (x n * y n).natAbs < LB ^ 16 := (h n (by omega)).1.mul (h n (by omega)).2
    have h3 := Int.natAbs_add_le (dotI x y n) (x n * y n)
    simp only [dotI]
    rw [Nat.add_mul, Nat.one_mul]
    omega
theorem dot_sk {x y : Nat → Int} {n : Nat} (h : ∀ i, i < n → Sk 8 (x i) ∧ Sk 8 (y i)) (hn : n ≤ 12) : Sk 17 (dotI x y n) := by
  have h1 := dot_sz h
  unfold Sk
  have h2 : n * LB ^ 16 ≤ 12 * LB ^ 16 := Nat.mul_le_mul_right _ hn
  have h3 : 12 * LB ^ 16 < LB * LB ^ 16 := Nat.mul_lt_mul_of_pos_right (by decide) (Nat.pow_pos LB_pos)
  rw [show (17 : Nat) = 16 + 1 from rfl, Nat.pow_succ, Nat.mul_comm (LB ^ 16)]
  omega
theorem dotI_symm {x y : Nat → Int} : ∀ {n : Nat}, dotI x y n = dotI y x n
  | 0 => rfl
  | n + 1 => by simp only [dotI]; rw [dotI_symm, Int.mul_comm]
def accC (x : Int) : Nat → List CV
  | 0 => [.p (.bool false), .nils]
  | _ + 1 => [.p (.bool (decide (x < 0) && decide (x.natAbs ≠ 0))), .p (.sl (lm (dgl x.natAbs)))]
theorem zi_zero : zi 0 = .agg [.bool false, .sl []] := by
  rw [zi_raw, Int.natAbs_zero, dgl_zero]; rfl
theorem nu0 : Nu (.agg [.bool false, .sl []]) 0 := ⟨false, [], rfl, (fun _ h => by cases h), Nat.zero_le _, rfl⟩
section
variable {r s : List PV} {x y : Nat → Int}
theorem p112g (hr : NuR r x) (hs : NuR s y) (hl : r.length = s.length) (hn : r.length ≤ 2000000) (hz : ∀ k, k ≤ r.length → Sz (dotI x y k)) (hm : ∀ k, k < r.length → Sz (x k * y k)) : Pu rp 61 [.sl r, .sl s] (.p (zi (dotI x y r.length))) := by
  refine pu_of rp112 ?_
  simp only [f61, args0, SA, setCells, Int.reduceLE, Int.reduceLT, ↓reduceIte, reduceCtorEq, Nat.reduceLT, Nat.reduceEqDiff, Nat.reduceAdd, Nat.reduceMul, Nat.reduceLeDiff, Nat.reduceBEq]
  refine loop_rule (β := Nat) (fun k => ([(0, .p (.sl r)), (1, .p (.sl s)), (4, .ptr 0 0 0), (5, .ptr 1 0 0), (8, i64 r.length), (9, i64 k)], [.kblk 2 [.p (.bool false), .nils], .kblk 2 (accC (dotI x y k) k)]))
    (fun k => k ≤ r.length) (fun k => r.length - k) 0 rfl rfl (Nat.zero_le _) ?_
  rintro k hk ih
  simp only [] at hk ih ⊢
  by_cases hin : (k : Int) < r.length
  · have hkr : k < r.length := by omega
    obtain ⟨p, hp, hpx⟩ := hr k hkr
    obtain ⟨q, hq, hqx⟩ := hs k (by omega)
    have k63 := p63' hpx hqx
    have hsk := hz k (by omega)
    have hm := hm k hkr
    obtain ⟨n1, l1, rfl, -⟩ := hpx
    obtain ⟨n2, l2, rfl, -⟩ := hqx
    cases k with
    | zero =>
      have k145 := p145 nu0 (Nu.zi hm)
      simp only [SA, setCells, Int.reduceLE, Int.reduceLT, ↓reduceIte, reduceCtorEq, Nat.reduceLT, Nat.reduceEqDiff, Nat.reduceAdd, Nat.reduceMul, Nat.reduceLeDiff, Nat.reduceBEq, hin, hp, hq, kp2 k63, Int.natCast_nonneg, Int.toNat_natCast, accC]
      rw [kc_pu k145 rfl]
      simp only [SA, setCells, Int.reduceLE, Int.reduceLT, ↓reduceIte, reduceCtorEq, Nat.reduceLT, Nat.reduceEqDiff, Nat.reduceAdd, Nat.reduceMul, Nat.reduceLeDiff, Nat.reduceBEq, IntWalk.i64_in (((0 : Nat) : Int) + 1) (by omega)]
      refine ih 1 _ (by omega) (by omega) ?_
      rfl
    | succ k =>
      have k145 := p145 (Nu.zi hsk) (Nu.zi hm)
      rw [zi_raw (x := dotI x y (k + 1))] at k145
      simp only [SA, setCells, Int.reduceLE, Int.reduceLT, ↓reduceIte, reduceCtorEq, Nat.reduceLT, Nat.reduceEqDiff, Nat.reduceAdd, Nat.reduceMul, Nat.reduceLeDiff, Nat.reduceBEq, hin, hp, hq, kp2 k63, Int.natCast_nonneg, Int.toNat_natCast, accC, kp2 k145, IntWalk.i64_in (((k + 1 : Nat) : Int) + 1) (by omega)]
      refine ih (k + 2) _ (by omega) (by omega) ?_
      rfl
  · obtain rfl : k = r.length := by omega
    simp only [SA, setCells, Int.reduceLE, Int.reduceLT, ↓reduceIte, reduceCtorEq, Nat.reduceLT, Nat.reduceEqDiff, Nat.reduceAdd, Nat.reduceMul, Nat.reduceLeDiff, Nat.reduceBEq, hin]
    cases h0 : r.length with
    | zero =>
      simp only [SA, setCells, Int.reduceLE, Int.reduceLT, ↓reduceIte, reduceCtorEq, Nat.reduceLT, Nat.reduceEqDiff, Nat.reduceAdd, Nat.reduceMul, Nat.reduceLeDiff, Nat.reduceBEq, accC]
      rw [show zi (dotI x y 0) = .agg [.bool false, .sl []] from zi_zero]
      rfl
    | succ k =>
      simp only [SA, setCells, Int.reduceLE, Int.reduceLT, ↓reduceIte, reduceCtorEq, Nat.reduceLT, Nat.reduceEqDiff, Nat.reduceAdd, Nat.reduceMul, Nat.reduceLeDiff, Nat.reduceBEq, accC]
      rfl
theorem p169g (hr : NuR r x) (hs : NuR s y) (hl : r.length = s.length) (hn : r.length ≤ 2000000) (hz : ∀ k, k ≤ r.length → Sz (dotI x y k)) (hm : ∀ k, k < r.length → Sz (x k * y k)) : Pu rp 25 [.sl r, .sl s] (.tup [.p (zi (dotI x y r.length)), .p (.int .i64 0)]) := by
  refine pu_of rp169 ?_
  have e : ((r.length : Int) != (s.length : Int)) = false := by rw [hl]; simp
  simp only [f25, args0, SA, setCells, Int.reduceLE, Int.reduceLT, ↓reduceIte, reduceCtorEq, Nat.reduceLT, Nat.reduceEqDiff, Nat.reduceAdd, Nat.reduceMul, Nat.reduceLeDiff, Nat.reduceBEq, e, kp2 (p112g hr hs hl hn hz hm)]
  exact back_t2 back1_p back1_p
theorem p171g (hr : NuR r x) (hs : NuR s y) (hl : r.length = s.length) (hn : r.length ≤ 2000000) (hz : ∀ k, k ≤ r.length → Sz (dotI x y k)) (hm : ∀ k, k < r.length → Sz (x k * y k)) : Pu rp 34 [.sl r, .sl s] (.p (zi (dotI x y r.length))) := by
  refine pu_of rp171 ?_
  simp only [f34, args0, SA, setCells, Int.reduceLE, Int.reduceLT, ↓reduceIte, reduceCtorEq, Nat.reduceLT, Nat.reduceEqDiff, Nat.reduceAdd, Nat.reduceMul, Nat.reduceLeDiff, Nat.reduceBEq]
  refine loop_rule (β := Nat) (fun k => ([(0, .p (.sl r)), (1, .p (.sl s)), (4, .ptr 0 0 0), (5, .ptr 1 0 0), (6, i64 k)], [.kblk 2 [.p (.bool false), .nils], .kblk 2 (accC (dotI x y k) k)]))
    (fun k => k ≤ r.length) (fun k => r.length - k) 0 rfl rfl (Nat.zero_le _) ?_
  rintro k hk ih
  simp only [] at hk ih ⊢
  by_cases hin : (k : Int) < r.length
  · have hkr : k < r.length := by omega
    have hin2 : (k : Int) < s.length := by omega
    obtain ⟨p, hp, hpx⟩ := hr k hkr
    obtain ⟨q, hq, hqx⟩ := hs k (by omega)
    have k63 := p117 hpx hqx
    have hsk := hz k (by omega)
    have hm := hm k hkr
    obtain ⟨n1, l1, rfl, -⟩ := hpx
    obtain ⟨n2, l2, rfl, -⟩ := hqx
    cases k with
    | zero =>
      have k145 := p109 nu0 (Nu.zi hm)
      simp only [SA, setCells, Int.reduceLE, Int.reduceLT, ↓reduceIte, reduceCtorEq, Nat.reduceLT, Nat.reduceEqDiff, Nat.reduceAdd, Nat.reduceMul, Nat.reduceLeDiff, Nat.reduceBEq, hin, hin2, hp, hq, kp2 k63, Int.natCast_nonneg, Int.toNat_natCast, accC]
      rw [kc_pu k145 rfl]
      simp only [SA, setCells, Int.reduceLE, Int.reduceLT, ↓reduceIte, reduceCtorEq, Nat.reduceLT, Nat.reduceEqDiff, Nat.reduceAdd, Nat.reduceMul, Nat.reduceLeDiff, Nat.reduceBEq, IntWalk.i64_in (((0 : Nat) : Int) + 1) (by omega)]
      refine ih 1 _ (by omega) (by omega) ?_
      rfl
    | succ k =>
      have k145 := p109 (Nu.zi hsk) (Nu.zi hm)
      rw [zi_raw (x := dotI x y (k + 1))] at k145
      simp only [SA, setCells, Int.reduceLE, Int.reduceLT, ↓reduceIte, reduceCtorEq, Nat.reduceLT, Nat.reduceEqDiff, Nat.reduceAdd, Nat.reduceMul, Nat.reduceLeDiff, Nat.reduceBEq, hin, hin2, hp, hq, kp2 k63, Int.natCast_nonneg, Int.toNat_natCast, accC, kp2 k145, IntWalk.i64_in (((k + 1 : Nat) : Int) + 1) (by omega)]
      refine ih (k + 2) _ (by omega) (by omega) ?_
      rfl
  · obtain rfl : k = r.length := by omega
    have hin2 : ¬ ((r.length : Int) < s.length) := by omega
    simp only [SA, setCells, Int.reduceLE, Int.reduceLT, ↓reduceIte, reduceCtorEq, Nat.reduceLT, Nat.reduceEqDiff, Nat.reduceAdd, Nat.reduceMul, Nat.reduceLeDiff, Nat.reduceBEq, hin]
    cases h0 : r.length with
    | zero =>
      simp only [SA, setCells, Int.reduceLE, Int.reduceLT, ↓reduceIte, reduceCtorEq, Nat.reduceLT, Nat.reduceEqDiff, Nat.reduceAdd, Nat.reduceMul, Nat.reduceLeDiff, Nat.reduceBEq, accC]
      rw [show zi (dotI x y 0) = .agg [.bool false, .sl []] from zi_zero]
      rfl
    | succ k =>
      simp only [SA, setCells, Int.reduceLE, Int.reduceLT, ↓reduceIte, reduceCtorEq, Nat.reduceLT, Nat.reduceEqDiff, Nat.reduceAdd, Nat.reduceMul, Nat.reduceLeDiff, Nat.reduceBEq, accC]
      rfl
theorem p112 (hr : NuR r x) (hs : NuR s y) (hl : r.length = s.length) (hn : r.length ≤ 12) (hx : ∀ i, i < r.length → Sk 8 (x i) ∧ Sk 8 (y i)) : Pu rp 61 [.sl r, .sl s] (.p (zi (dotI x y r.length))) :=
  p112g hr hs hl (by omega) (fun k hk => (dot_sk (n := k) (fun i hi => hx i (by omega)) (by omega)).sz (by omega)) fun k hk => ((hx k hk).1.mul (hx k hk).2).sz (by omega)
theorem p169 (hr : NuR r x) (hs : NuR s y) (hl : r.length = s.length) (hn : r.length ≤ 12) (hx : ∀ i, i < r.length → Sk 8 (x i) ∧ Sk 8 (y i)) : Pu rp 25 [.sl r, .sl s] (.tup [.p (zi (dotI x y r.length)), .p (.int .i64 0)]) :=
  p169g hr hs hl (by omega) (fun k hk => (dot_sk (n := k) (fun i hi => hx i (by omega)) (by omega)).sz (by omega)) fun k hk => ((hx k hk).1.mul (hx k hk).2).sz (by omega)
theorem p171 (hr : NuR r x) (hs : NuR s y) (hl : r.length = s.length) (hn : r.length ≤ 12) (hx : ∀ i, i < r.length → Sk 8 (x i) ∧ Sk 8 (y i)) : Pu rp 34 [.sl r, .sl s] (.p (zi (dotI x y r.length))) :=
  p171g hr hs hl (by omega) (fun k hk => (dot_sk (n := k) (fun i hi => hx i (by omega)) (by omega)).sz (by omega)) fun k hk => ((hx k hk).1.mul (hx k hk).2).sz (by omega)
end
end Go.Proofs.YtdieenbfdeaffaaGreat.VBn

namespace Go.Proofs.YtdieenbfdeaffaaGreat.VBn
open Go Vpi
set_option maxRecDepth 100000
set_option linter.unusedSimpArgs false
set_option linter.unusedVariables false
theorem rp80 : rp 125 = some f125 := rfl
theorem rp93 : rp 89 = some f89 := rfl
theorem rp137 : rp 87 = some f87 := rfl
theorem rp142 : rp 62 = some f62 := rfl
def MR (b : List PV) (n : Nat → Nat) (X : Nat → Nat → Int) : Prop := ∀ i, i < b.length → ∃ r, b[i]? = some (.sl r) ∧ r.length = n i ∧ n i ≤ 2000000 ∧ NuR r (X i)
def mxR (f : Nat → Nat) : Nat → Nat
  | 0 => 0
  | n + 1 => max (mxR f n) (f n)
theorem mxR_le {f : Nat → Nat} {K : Nat} : ∀ {n : Nat}, mxR f n ≤ K ↔ ∀ i, i < n → f i ≤ K
  | 0 => by simp [mxR]
  | n + 1 => by
    rw [mxR, Nat.max_le, mxR_le]
    constructor
    · rintro ⟨h1, h2⟩ i hi
      rcases Nat.lt_or_ge i n with h | h
      · exact h1 i h
      · obtain rfl : i = n := by omega
        exact h2
    · intro h
      exact ⟨fun i hi => h i (by omega), h n (by omega)⟩
theorem LB_pow2 {n : Nat} : LB ^ n = 2 ^ (32 * n) := by rw [Nat.pow_mul]; rfl
theorem bl_bound {p : PV} {x : Int} (h : Nu p x) : bl x.natAbs ≤ 3200000000000 := by
  have hs := h.sz
  unfold Sz at hs
  by_cases h0 : x.natAbs = 0
  · rw [h0, bl_zero]; omega
  · have h1 := (bl_spec h0).1
    rw [LB_pow2] at hs
    have h2 := (Nat.pow_lt_pow_iff_right (a := 2) (by decide)).1 (Nat.lt_of_le_of_lt h1 hs)
    have := CapN_eq
    omega
def bm (n : Nat → Nat) (X : Nat → Nat → Int) : Nat → Nat := mxR fun i => mxR (fun j => bl (X i j).natAbs) (n i)
section
variable {b : List PV} {n : Nat → Nat} {X : Nat → Nat → Int}
theorem max_int {a c : Nat} : (if (c : Int) > (a : Int) then (c : Int) else (a : Int)) = ((max a c : Nat) : Int) := by
  split <;> omega
theorem p80 (hb : MR b n X) (hlb : b.length ≤ 2000000) : Pu rp 125 [.sl b] (.p (.int .i64 (bm n X b.length : Nat))) := by
  refine pu_of rp80 ?_
  have hbm : ∀ i, i ≤ b.length → bm n X i ≤ 3200000000000 := fun i hi => mxR_le.2 fun k hk => mxR_le.2 fun j hj => by
    obtain ⟨r, -, hl, -, hr⟩ := hb k (by omega)
    obtain ⟨p, -, hp⟩ := hr j (by omega)
    exact bl_bound hp
  simp only [f125, args0, SA, setCells, Int.reduceLE, Int.reduceLT, ↓reduceIte, reduceCtorEq, Nat.reduceLT, Nat.reduceEqDiff, Nat.reduceAdd, Nat.reduceMul, Nat.reduceLeDiff, Nat.reduceBEq]
  refine loop_rule (β := Nat × Store) (fun t => ([(3, i64 (bm n X t.1 : Nat)), (8, .p (.sl b)), (9, i64 b.length), (10, i64 t.1)], t.2))
    (fun t => t.1 ≤ b.length) (fun t => b.length - t.1) ((0, []) : Nat × Store) rfl rfl (Nat.zero_le _) ?_
  rintro ⟨i, σ⟩ hi ih
  simp only [] at hi ih ⊢
  by_cases hin : (i : Int) < b.length
  · have hib : i < b.length := by omega
    obtain ⟨r, hr, hrl, hrn, hrx⟩ := hb i hib
    simp only [SA, setCells, Int.reduceLE, Int.reduceLT, ↓reduceIte, reduceCtorEq, Nat.reduceLT, Nat.reduceEqDiff, Nat.reduceAdd, Nat.reduceMul, Nat.reduceLeDiff, Nat.reduceBEq, hin, hr, Int.natCast_nonneg, Int.toNat_natCast]
    refine loop_rule (β := Nat × Store) (fun t => ([(3, i64 ((max (bm n X i) (mxR (fun j => bl (X i j).natAbs) t.1) : Nat) : Int)), (8, .p (.sl b)), (9, i64 b.length), (10, i64 i), (14, .p (.sl r)), (15, i64 r.length), (16, i64 t.1)], t.2))
      (fun t => t.1 ≤ r.length) (fun t => r.length - t.1) ((0, σ) : Nat × Store) (by simp only [mxR, Nat.max_zero]; rfl) rfl (Nat.zero_le _) ?_
    rintro ⟨j, τ⟩ hj ih2
    simp only [] at hj ih2 ⊢
    by_cases hjn : (j : Int) < r.length
    · obtain ⟨p, hp, hpx⟩ := hrx j (by omega)
      have k121 := p121 hpx
      obtain ⟨n1, l1, rfl, -⟩ := hpx
      have hw : IntKind.i64.wrap ((j : Int) + 1) = ((j + 1 : Nat) : Int) := by rw [IntWalk.i64_in _ (by omega)]; omega
      simp only [SA, setCells, Int.reduceLE, Int.reduceLT, ↓reduceIte, reduceCtorEq, Nat.reduceLT, Nat.reduceEqDiff, Nat.reduceAdd, Nat.reduceMul, Nat.reduceLeDiff, Nat.reduceBEq, hjn, hp, Int.natCast_nonneg, Int.toNat_natCast, kp1 k121, max_int, hw, Nat.max_assoc]
      refine ih2 (j + 1, τ ++ [.kblk 2 [.p (.bool n1), .p (.sl (lm l1))]]) _ (by simp only []; omega) (by simp only []; omega) ?_
      rfl
    · obtain rfl : j = r.length := by omega
      have hw : IntKind.i64.wrap ((i : Int) + 1) = ((i + 1 : Nat) : Int) := by rw [IntWalk.i64_in _ (by omega)]; omega
      simp only [SA, setCells, Int.reduceLE, Int.reduceLT, ↓reduceIte, reduceCtorEq, Nat.reduceLT, Nat.reduceEqDiff, Nat.reduceAdd, Nat.reduceMul, Nat.reduceLeDiff, Nat.reduceBEq, hjn, hw]
      refine ih (i + 1, τ) _ (by simp only []; omega) (by simp only []; omega) ?_
      rw [show bm n X (i + 1) = max (bm n X i) (mxR (fun j => bl (X i j).natAbs) r.length) by rw [hrl]; rfl]
      rfl
  · obtain rfl : i = b.length := by omega
    simp only [SA, setCells, Int.reduceLE, Int.reduceLT, ↓reduceIte, reduceCtorEq, Nat.reduceLT, Nat.reduceEqDiff, Nat.reduceAdd, Nat.reduceMul, Nat.reduceLeDiff, Nat.reduceBEq, hin]
    rfl
def Uneven (n : Nat → Nat) (m : Nat) : Prop := ∃ i, i < m ∧ n i ≠ n 0
theorem p93 (hb : MR b n X) (h0 : b.length ≠ 0) (hlb : b.length ≤ 2000000) :
    (Uneven n b.length → Pu rp 89 [.sl b] (.tup [.p (.int .i64 0), .p (.int .i64 0), .p (.int .i64 8)])) ∧
    (¬ Uneven n b.length → Pu rp 89 [.sl b] (.tup [.p (.int .i64 b.length), .p (.int .i64 (n 0 : Nat)), .p (.int .i64 0)])) := by
  have e : ((b.length : Int) == 0) = false := by rw [beq_eq_false_iff_ne]; omega
  obtain ⟨r0, hr0, hl0, hn0, -⟩ := hb 0 (by omega)
  have key : ∀ R : CV, (Uneven n b.length → R = .tup [.p (.int .i64 0), .p (.int .i64 0), .p (.int .i64 8)]) → (¬ Uneven n b.length → R = .tup [.p (.int .i64 b.length), .p (.int .i64 (n 0 : Nat)), .p (.int .i64 0)]) → Pu rp 89 [.sl b] R := by
    intro R h1 h2
    refine pu_of rp93 ?_
    simp only [f89, args0, SA, setCells, Int.reduceLE, Int.reduceLT, ↓reduceIte, reduceCtorEq, Nat.reduceLT, Nat.reduceEqDiff, Nat.reduceAdd, Nat.reduceMul, Nat.reduceLeDiff, Nat.reduceBEq, e]
    refine loop_rule (β := Nat) (fun t => ([(0, .p (.sl b)), (10, .p (.sl b)), (11, i64 b.length), (12, i64 t)], []))
      (fun t => t ≤ b.length ∧ ∀ k, k < t → n k = n 0) (fun t => b.length - t) 0 rfl rfl ⟨Nat.zero_le _, fun k hk => by omega⟩ ?_
    rintro i ⟨hi, hev⟩ ih
    simp only [] at hi hev ih ⊢
    by_cases hin : (i : Int) < b.length
    · obtain ⟨r, hr, hrl, hrn, -⟩ := hb i (by omega)
      have i0 : Int.toNat 0 = 0 := rfl
      by_cases hne : n i = n 0
      · have e1 : ((r.length : Int) != (r0.length : Int)) = false := by rw [hrl, hl0, hne]; simp
        have hw : IntKind.i64.wrap ((i : Int) + 1) = ((i + 1 : Nat) : Int) := by rw [IntWalk.i64_in _ (by omega)]; omega
        simp only [SA, setCells, Int.reduceLE, Int.reduceLT, ↓reduceIte, reduceCtorEq, Nat.reduceLT, Nat.reduceEqDiff, Nat.reduceAdd, Nat.reduceMul, Nat.reduceLeDiff, Nat.reduceBEq, hin, hr, i0, hr0, Int.natCast_nonneg, Int.toNat_natCast, e1, hw]
        refine ih (i + 1) _ ⟨by omega, fun k hk => ?_⟩ (by omega) ?_
        · rcases Nat.lt_or_ge k i with h | h
          · exact hev k h
          · obtain rfl : k = i := by omega
            exact hne
        · rfl
      · have e1 : ((r.length : Int) != (r0.length : Int)) = true := by rw [hrl, hl0]; simp; omega
        simp only [SA, setCells, Int.reduceLE, Int.reduceLT, ↓reduceIte, reduceCtorEq, Nat.reduceLT, Nat.reduceEqDiff, Nat.reduceAdd, Nat.reduceMul, Nat.reduceLeDiff, Nat.reduceBEq, hin, hr, i0, hr0, Int.natCast_nonneg, Int.toNat_natCast, e1]
        rw [h1 ⟨i, by omega, hne⟩]
        exact back_t3 back1_p back1_p back1_p
    · obtain rfl : i = b.length := by omega
      have i0 : Int.toNat 0 = 0 := rfl
      simp only [SA, setCells, Int.reduceLE, Int.reduceLT, ↓reduceIte, reduceCtorEq, Nat.reduceLT, Nat.reduceEqDiff, Nat.reduceAdd, Nat.reduceMul, Nat.reduceLeDiff, Nat.reduceBEq, hin, hr0, i0]
      rw [h2 (fun ⟨k, hk, hk2⟩ => hk2 (hev k hk)), hl0]
      exact back_t3 back1_p back1_p back1_p
  exact ⟨fun h => key _ (fun _ => rfl) (fun h2 => absurd h h2), fun h => key _ (fun h2 => absurd h2 h) (fun _ => rfl)⟩
def Big (n : Nat → Nat) (X : Nat → Nat → Int) (m : Nat) : Prop := 12 < m ∨ (∃ i, i < m ∧ 12 < n i) ∨ ∃ i j, i < m ∧ j < n i ∧ 256 < bl (X i j).natAbs
open Classical in
noncomputable def shE (n : Nat → Nat) (X : Nat → Nat → Int) (m : Nat) : Int := if Big n X m then 40 else if m = 0 then 41 else if Uneven n m then 8 else 0
theorem bm_gt {m : Nat} : 256 < bm n X m ↔ ∃ i j, i < m ∧ j < n i ∧ 256 < bl (X i j).natAbs := by
  rw [← Nat.not_le]
  unfold bm
  rw [mxR_le]
  constructor
  · intro h
    refine Classical.byContradiction fun hc => h fun i hi => mxR_le.2 fun j hj => ?_
    exact Nat.not_lt.1 fun hlt => hc ⟨i, j, hi, hj, hlt⟩
  · rintro ⟨i, j, hi, hj, hlt⟩ h
    have := mxR_le.1 (h i hi) j hj
    omega
theorem p137 (hb : MR b n X) (hlb : b.length ≤ 2000000) : Pu rp 87 [.sl b, .bool true] (.p (.int .i64 (shE n X b.length))) := by
  refine pu_of rp137 ?_
  have w80 := p80 hb hlb
  have hbn : bm n X b.length ≤ 3200000000000 := mxR_le.2 fun k hk => mxR_le.2 fun j hj => by
    obtain ⟨r, -, hl, -, hr⟩ := hb k (by omega)
    obtain ⟨p, -, hp⟩ := hr j (by omega)
    exact bl_bound hp
  have tail : ∀ (B : Bool), (B = true ↔ 12 < b.length ∨ 256 < bm n X b.length) → ∀ (e : Env) (σ : Store), fgt [0, 5, 22, 23, 24] e = [(0, .p (.sl b)), (5, .p (.bool B)), (22, .p (.sl b)), (23, i64 b.length), (24, i64 0)] → True := fun _ _ _ _ _ => trivial
  have fin : ∀ (c1 : Bool), (c1 = true ↔ Big n X b.length) → (c1 = true → shE n X b.length = 40) ∧ (c1 = false → b.length = 0 → shE n X b.length = 41) ∧ (c1 = false → b.length ≠ 0 → Uneven n b.length → shE n X b.length = 8) ∧ (c1 = false → b.length ≠ 0 → ¬ Uneven n b.length → shE n X b.length = 0) := by
    intro c1 h1
    unfold shE
    refine ⟨fun h => if_pos (h1.1 h), fun h h0 => ?_, fun h h0 hu => ?_, fun h h0 hu => ?_⟩
    all_goals
      rw [if_neg (fun hB => by rw [h1.2 hB] at h; cases h)]
    · rw [if_pos h0]
    · rw [if_neg h0, if_pos hu]
    · rw [if_neg h0, if_neg hu]
  have hstart : ∃ B : Bool, (B = true ↔ 12 < b.length ∨ 256 < bm n X b.length) ∧ ((b.length : Int) > 12 ∧ B = true ∨ ¬ (b.length : Int) > 12 ∧ B = decide (((bm n X b.length : Nat) : Int) > 256)) := by
    by_cases h : (b.length : Int) > 12
    · exact ⟨true, by simp; omega, .inl ⟨h, rfl⟩⟩
    · refine ⟨decide (((bm n X b.length : Nat) : Int) > 256), ?_, .inr ⟨h, rfl⟩⟩
      rw [decide_eq_true_eq]; omega
  obtain ⟨B, hB, hB2⟩ := hstart
  rcases hB2 with ⟨hgt, hBe⟩ | ⟨hgt, hBe⟩
  all_goals
    simp only [f87, args0, SA, setCells, Int.reduceLE, Int.reduceLT, ↓reduceIte, reduceCtorEq, Nat.reduceLT, Nat.reduceEqDiff, Nat.reduceAdd, Nat.reduceMul, Nat.reduceLeDiff, Nat.reduceBEq, hgt, kp1 w80]
    refine loop_rule (β := Nat × Bool) (fun t => ([(0, .p (.sl b)), (5, .p (.bool t.2)), (22, .p (.sl b)), (23, i64 b.length), (24, i64 t.1)], []))
      (fun t => t.1 ≤ b.length ∧ (t.2 = true ↔ B = true ∨ ∃ k, k < t.1 ∧ 12 < n k)) (fun t => b.length - t.1)
      ((0, B) : Nat × Bool) (by simp only [hBe]; rfl) rfl ⟨Nat.zero_le _, by simp⟩ ?_
    rintro ⟨i, C⟩ ⟨hi, hC⟩ ih
    simp only [] at hi hC ih ⊢
    by_cases hin : (i : Int) < b.length
    · obtain ⟨r, hr, hrl, hrn, -⟩ := hb i (by omega)
      have hw : IntKind.i64.wrap ((i : Int) + 1) = ((i + 1 : Nat) : Int) := by rw [IntWalk.i64_in _ (by omega)]; omega
      cases C with
      | true =>
        simp only [SA, setCells, Int.reduceLE, Int.reduceLT, ↓reduceIte, reduceCtorEq, Nat.reduceLT, Nat.reduceEqDiff, Nat.reduceAdd, Nat.reduceMul, Nat.reduceLeDiff, Nat.reduceBEq, hin, hr, Int.natCast_nonneg, Int.toNat_natCast, hw]
        refine ih (i + 1, true) _ ⟨by simp only []; omega, ?_⟩ (by simp only []; omega) ?_
        · simp only [true_iff]
          rcases hC.1 rfl with h | ⟨k, h1, h2⟩
          · exact .inl h
          · exact .inr ⟨k, by omega, h2⟩
        · rfl
      | false =>
        simp only [SA, setCells, Int.reduceLE, Int.reduceLT, ↓reduceIte, reduceCtorEq, Nat.reduceLT, Nat.reduceEqDiff, Nat.reduceAdd, Nat.reduceMul, Nat.reduceLeDiff, Nat.reduceBEq, hin, hr, Int.natCast_nonneg, Int.toNat_natCast, hw]
        refine ih (i + 1, decide ((r.length : Int) > 12)) _ ⟨by simp only []; omega, ?_⟩ (by simp only []; omega) ?_
        · simp only [decide_eq_true_eq, hrl]
          constructor
          · intro h; exact .inr ⟨i, by omega, by omega⟩
          · rintro (h | ⟨k, h1, h2⟩)
            · exact absurd (hC.2 (.inl h)) (by simp)
            · rcases Nat.lt_or_ge k i with h3 | h3
              · exact absurd (hC.2 (.inr ⟨k, h3, h2⟩)) (by simp)
              · obtain rfl : k = i := by omega
                omega
        · rfl
    · obtain rfl : i = b.length := by omega
      have hCB : C = true ↔ Big n X b.length := by
        rw [hC, hB, bm_gt]
        unfold Big
        constructor
        · rintro ((h | h) | h)
          · exact .inl h
          · exact .inr (.inr h)
          · exact .inr (.inl h)
        · rintro (h | h | h)
          · exact .inl (.inl h)
          · exact .inr h
          · exact .inl (.inr h)
      obtain ⟨f1, f2, f3, f4⟩ := fin C hCB
      cases C with
      | true =>
        simp only [SA, setCells, Int.reduceLE, Int.reduceLT, ↓reduceIte, reduceCtorEq, Nat.reduceLT, Nat.reduceEqDiff, Nat.reduceAdd, Nat.reduceMul, Nat.reduceLeDiff, Nat.reduceBEq, hin]
        rw [f1 rfl]; rfl
      | false =>
        by_cases h0 : b.length = 0
        · have e0 : ((b.length : Int) == 0) = true := by rw [h0]; rfl
          simp only [SA, setCells, Int.reduceLE, Int.reduceLT, ↓reduceIte, reduceCtorEq, Nat.reduceLT, Nat.reduceEqDiff, Nat.reduceAdd, Nat.reduceMul, Nat.reduceLeDiff, Nat.reduceBEq, hin, e0]
          rw [f2 rfl h0]; rfl
        · have e0 : ((b.length : Int) == 0) = false := by rw [beq_eq_false_iff_ne]; omega
          obtain ⟨s1, s2⟩ := p93 hb h0 hlb
          by_cases hu : Uneven n b.length
          · simp only [SA, setCells, Int.reduceLE, Int.reduceLT, ↓reduceIte, reduceCtorEq, Nat.reduceLT, Nat.reduceEqDiff, Nat.reduceAdd, Nat.reduceMul, Nat.reduceLeDiff, Nat.reduceBEq, hin, e0, kp1 (s1 hu)]
            rw [f3 rfl h0 hu]; rfl
          · simp only [SA, setCells, Int.reduceLE, Int.reduceLT, ↓reduceIte, reduceCtorEq, Nat.reduceLT, Nat.reduceEqDiff, Nat.reduceAdd, Nat.reduceMul, Nat.reduceLeDiff, Nat.reduceBEq, hin, e0, kp1 (s2 hu)]
            rw [f4 rfl h0 hu]; rfl
theorem p142 (hb : MR b n X) (hlb : b.length ≤ 2000000) : Pu rp 62 [.sl b, .bool true] (.p (.int .i64 (shE n X b.length))) := by
  refine pu_of rp142 ?_
  by_cases hgt : (b.length : Int) > 12
  · simp only [f62, args0, SA, setCells, Int.reduceLE, Int.reduceLT, ↓reduceIte, reduceCtorEq, Nat.reduceLT, Nat.reduceEqDiff, Nat.reduceAdd, Nat.reduceMul, Nat.reduceLeDiff, Nat.reduceBEq, hgt]
    rw [shE, if_pos (.inl (by omega))]; rfl
  simp only [f62, args0, SA, setCells, Int.reduceLE, Int.reduceLT, ↓reduceIte, reduceCtorEq, Nat.reduceLT, Nat.reduceEqDiff, Nat.reduceAdd, Nat.reduceMul, Nat.reduceLeDiff, Nat.reduceBEq, hgt]
  refine loop_rule (β := Nat) (fun t => ([(0, .p (.sl b)), (1, .p (.bool true)), (5, i64 t)], []))
    (fun t => t ≤ b.length ∧ ∀ k, k < t → n k ≤ 12 ∧ ∀ j, j < n k → bl (X k j).natAbs ≤ 256) (fun t => b.length - t) 0 rfl rfl ⟨Nat.zero_le _, fun k hk => by omega⟩ ?_
  rintro i ⟨hi, hok⟩ ih
  simp only [] at hi hok ih ⊢
  by_cases hin : (i : Int) < b.length
  · obtain ⟨r, hr, hrl, hrn, hrx⟩ := hb i (by omega)
    have hw : IntKind.i64.wrap ((i : Int) + 1) = ((i + 1 : Nat) : Int) := by rw [IntWalk.i64_in _ (by omega)]; omega
    by_cases h12 : (r.length : Int) > 12
    · simp only [SA, setCells, Int.reduceLE, Int.reduceLT, ↓reduceIte, reduceCtorEq, Nat.reduceLT, Nat.reduceEqDiff, Nat.reduceAdd, Nat.reduceMul, Nat.reduceLeDiff, Nat.reduceBEq, hin, hr, Int.natCast_nonneg, Int.toNat_natCast, h12]
      rw [shE, if_pos (.inr (.inl ⟨i, by omega, by omega⟩))]; rfl
    · simp only [SA, setCells, Int.reduceLE, Int.reduceLT, ↓reduceIte, reduceCtorEq, Nat.reduceLT, Nat.reduceEqDiff, Nat.reduceAdd, Nat.reduceMul, Nat.reduceLeDiff, Nat.reduceBEq, hin, hr, Int.natCast_nonneg, Int.toNat_natCast, h12]
      refine loop_rule (β := Nat) (fun t => ([(0, .p (.sl b)), (1, .p (.bool true)), (5, i64 i), (6, i64 t)], []))
        (fun t => t ≤ r.length ∧ ∀ j, j < t → bl (X i j).natAbs ≤ 256) (fun t => r.length - t) 0 rfl rfl ⟨Nat.zero_le _, fun k hk => by omega⟩ ?_
      rintro j ⟨hj, hok2⟩ ih2
      simp only [] at hj hok2 ih2 ⊢
      by_cases hjn : (j : Int) < r.length
      · obtain ⟨p, hp, hpx⟩ := hrx j (by omega)
        have hpb := bl_bound hpx
        obtain ⟨n1, l1, rfl, hl1, hn1, hx1⟩ := hpx
        have k82 := p82 hl1 (by rw [CapN_eq] at hn1; omega)
        have hba : bl (X i j).natAbs = bl (val l1) := by rw [hx1, iv_abs]
        by_cases h256 : ((bl (val l1) : Nat) : Int) > 256
        · simp only [SA, setCells, Int.reduceLE, Int.reduceLT, ↓reduceIte, reduceCtorEq, Nat.reduceLT, Nat.reduceEqDiff, Nat.reduceAdd, Nat.reduceMul, Nat.reduceLeDiff, Nat.reduceBEq, hjn, hr, hp, Int.natCast_nonneg, Int.toNat_natCast, kp1 k82, h256]
          rw [shE, if_pos (.inr (.inr ⟨i, j, by omega, by omega, by omega⟩))]; rfl
        · have hw2 : IntKind.i64.wrap ((j : Int) + 1) = ((j + 1 : Nat) : Int) := by rw [IntWalk.i64_in _ (by omega)]; omega
          simp only [SA, setCells, Int.reduceLE, Int.reduceLT, ↓reduceIte, reduceCtorEq, Nat.reduceLT, Nat.reduceEqDiff, Nat.reduceAdd, Nat.reduceMul, Nat.reduceLeDiff, Nat.reduceBEq, hjn, hr, hp, Int.natCast_nonneg, Int.toNat_natCast, kp1 k82, h256, hw2]
          refine ih2 (j + 1) _ ⟨by omega, fun k hk => ?_⟩ (by omega) ?_
          · rcases Nat.lt_or_ge k j with h | h
            · exact hok2 k h
            · obtain rfl : k = j := by omega
              omega
          · rfl
      · obtain rfl : j = r.length := by omega
        simp only [SA, setCells, Int.reduceLE, Int.reduceLT, ↓reduceIte, reduceCtorEq, Nat.reduceLT, Nat.reduceEqDiff, Nat.reduceAdd, Nat.reduceMul, Nat.reduceLeDiff, Nat.reduceBEq, hjn, hr, Int.natCast_nonneg, Int.toNat_natCast, hw]
        refine ih (i + 1) _ ⟨by omega, fun k hk => ?_⟩ (by omega) ?_
        · rcases Nat.lt_or_ge k i with h | h
          · exact hok k h
          · obtain rfl : k = i := by omega
            exact ⟨by omega, fun j hj => hok2 j (by omega)⟩
        · rfl
  · obtain rfl : i = b.length := by omega
    have hnb : ¬ Big n X b.length := by
      rintro (h | ⟨i, h1, h2⟩ | ⟨i, j, h1, h2, h3⟩)
      · omega
      · have := (hok i h1).1; omega
      · have := (hok i h1).2 j h2; omega
    by_cases h0 : b.length = 0
    · have e0 : ((b.length : Int) == 0) = true := by rw [h0]; rfl
      simp only [SA, setCells, Int.reduceLE, Int.reduceLT, ↓reduceIte, reduceCtorEq, Nat.reduceLT, Nat.reduceEqDiff, Nat.reduceAdd, Nat.reduceMul, Nat.reduceLeDiff, Nat.reduceBEq, hin, e0]
      rw [shE, if_neg hnb, if_pos h0]; rfl
    · have e0 : ((b.length : Int) == 0) = false := by rw [beq_eq_false_iff_ne]; omega
      obtain ⟨r0, hr0, hl0, hn0, -⟩ := hb 0 (by omega)
      simp only [SA, setCells, Int.reduceLE, Int.reduceLT, ↓reduceIte, reduceCtorEq, Nat.reduceLT, Nat.reduceEqDiff, Nat.reduceAdd, Nat.reduceMul, Nat.reduceLeDiff, Nat.reduceBEq, hin, e0]
      refine loop_rule (β := Nat) (fun t => ([(0, .p (.sl b)), (7, i64 t)], []))
        (fun t => t ≤ b.length ∧ ∀ k, k < t → n k = n 0) (fun t => b.length - t) 0 rfl rfl ⟨Nat.zero_le _, fun k hk => by omega⟩ ?_
      rintro i ⟨hi, hev⟩ ih
      simp only [] at hi hev ih ⊢
      by_cases hin : (i : Int) < b.length
      · obtain ⟨r, hr, hrl, hrn, -⟩ := hb i (by omega)
        have i0 : Int.toNat 0 = 0 := rfl
        by_cases hne : n i = n 0
        · have e1 : ((r.length : Int) != (r0.length : Int)) = false := by rw [hrl, hl0, hne]; simp
          have hw : IntKind.i64.wrap ((i : Int) + 1) = ((i + 1 : Nat) : Int) := by rw [IntWalk.i64_in _ (by omega)]; omega
          simp only [SA, setCells, Int.reduceLE, Int.reduceLT, ↓reduceIte, reduceCtorEq, Nat.reduceLT, Nat.reduceEqDiff, Nat.reduceAdd, Nat.reduceMul, Nat.reduceLeDiff, Nat.reduceBEq, hin, hr, i0, hr0, Int.natCast_nonneg, Int.toNat_natCast, e1, hw]
          refine ih (i + 1) _ ⟨by omega, fun k hk => ?_⟩ (by omega) ?_
          · rcases Nat.lt_or_ge k i with h | h
            · exact hev k h
            · obtain rfl : k = i := by omega
              exact hne
          · rfl
        · have e1 : ((r.length : Int) != (r0.length : Int)) = true := by rw [hrl, hl0]; simp; omega
          simp only [SA, setCells, Int.reduceLE, Int.reduceLT, ↓reduceIte, reduceCtorEq, Nat.reduceLT, Nat.reduceEqDiff, Nat.reduceAdd, Nat.reduceMul, Nat.reduceLeDiff, Nat.reduceBEq, hin, hr, i0, hr0, Int.natCast_nonneg, Int.toNat_natCast, e1]
          rw [shE, if_neg hnb, if_neg h0, if_pos ⟨i, by omega, hne⟩]; rfl
      · obtain rfl : i = b.length := by omega
        simp only [SA, setCells, Int.reduceLE, Int.reduceLT, ↓reduceIte, reduceCtorEq, Nat.reduceLT, Nat.reduceEqDiff, Nat.reduceAdd, Nat.reduceMul, Nat.reduceLeDiff, Nat.reduceBEq, hin]
        rw [shE, if_neg hnb, if_neg h0, if_neg (fun ⟨k, hk, hk2⟩ => hk2 (hev k hk))]; rfl
end
end Go.Proofs.YtdieenbfdeaffaaGreat.VBn

namespace Go.Proofs.YtdieenbfdeaffaaGreat.VBn
open Go Vpi
open Gs (V Dv Pos Good)
set_option maxRecDepth 100000
set_option linter.unusedSimpArgs false
set_option linter.unusedVariables false
section
variable {rp : RProg} {rs : List RRes} {base : Nat} {d : Option Nat} {l : List LOp} {dr : Dr} {ks : List KI} {e : Env} {σ : Store} {Q : CV → Store → Prop}
theorem kz1 {f : Nat} {a0 : PV} {r : CV} (h : Pu rp f [a0] r) : KC rp rs base .fz f [.p a0] d l dr ks e σ Q = ExR rp rs base l dr ks (sto d r e) σ Q := kc_fz h rfl
theorem kz2 {f : Nat} {a0 a1 : PV} {r : CV} (h : Pu rp f [a0, a1] r) : KC rp rs base .fz f [.p a0, .p a1] d l dr ks e σ Q = ExR rp rs base l dr ks (sto d r e) σ Q := kc_fz h rfl
end
section
variable {rp : RProg} {rs : List RRes} {base : Nat} {d : Option Nat} {l : List LOp} {dr : Dr} {ks : List KI} {e : Env} {σ : Store} {Q : CV → Store → Prop} {sz : Nat} {c : CV} {es xs : List PV}
theorem r_app_sl {s x : Opd} {bytes : Nat} (hb : base = σ.length) (h : GL σ sz c es) (hc : (es.length + xs.length) * bytes ≤ 140737488355328) (hs : vl e s = c) (hx : vl e x = .own base 0 xs.length) (hz : allSz sz xs = true) :
    ExR rp rs base (⟨d, none, some 1, .append sz bytes s x⟩ :: l) dr ks e (σ ++ [.prow sz xs, .hole]) Q = ExR rp rs base l dr ks (sto d (.own (base + 1) 0 (es.length + xs.length)) e) (nd σ c ++ [.prow sz xs, .prow sz (es ++ xs)]) Q := by
  subst hb
  rw [r_append]
  have h1 : content (σ ++ [.prow sz xs, .hole]) c = some es := h.left.content
  have h2 : content (σ ++ [.prow sz xs, .hole]) (.own σ.length 0 xs.length) = some xs := cont_own (s := sz) (by rw [get_app0]; rfl) rfl
  have hlt := h.lt.2
  simp only [ev, hs, hx, h1, h2, hc, hz, and_self, if_true]
  rcases h with ⟨rfl, rfl⟩ | ⟨b, rfl, hb⟩
  · simp only [push_sl, get_app, set_app, List.getElem?_cons_succ, List.getElem?_cons_zero, List.set_cons_succ, List.set_cons_zero, Option.map_some, ke_some, nd, List.nil_append]
  · have hlb := hlt _ _ _ rfl
    have hb' : (σ ++ [.prow sz xs, .hole])[b]? = some (.prow sz es) := by rw [List.getElem?_append_left hlb]; exact hb
    have e1 : ∀ l : Store, (σ.set b .dead ++ l)[σ.length + 1]? = l[1]? := fun l => by rw [show σ.length + 1 = (σ.set b Blk.dead).length + 1 by rw [List.length_set], get_app]
    have e2 : ∀ (l : Store) (x : Blk), (σ.set b .dead ++ l).set (σ.length + 1) x = σ.set b .dead ++ l.set 1 x := fun l x => by rw [show σ.length + 1 = (σ.set b Blk.dead).length + 1 by rw [List.length_set], set_app]
    simp only [hb', if_true, push_sl, set_left hlb, e1, e2, List.getElem?_cons_succ, List.getElem?_cons_zero, List.set_cons_succ, List.set_cons_zero, Option.map_some, ke_some, nd]
theorem r_fz_sl {x : Opd} {b s n : Nat} (hb : σ[b]? = some (.prow s es)) (hn : n ≤ es.length) (hx : vl e x = .own b 0 n) :
    ExR rp rs σ.length (⟨d, none, some 0, .bslice 1 [x]⟩ :: l) dr ks e (σ ++ [.hole, .hole]) Q = ExR rp rs σ.length l dr ks (sto d (.own σ.length 0 1) e) (σ.set b .dead ++ [.prow 1 [.sl (es.take n)], .hole]) Q := by
  rw [r_bslice]
  have hlb := (List.getElem?_eq_some_iff.1 hb).1
  have hf : frz (σ ++ [.hole, .hole]) (.own b 0 n) = some (.sl (es.take n)) := by
    simp only [frz, frz1, List.getElem?_append_left hlb, hb, Nat.zero_add, hn, if_true, List.drop_zero]
  have e1 : ∀ l : Store, (σ.set b .dead ++ l)[σ.length]? = l[0]? := fun l => by rw [show σ.length = (σ.set b Blk.dead).length by rw [List.length_set], get_app0]
  have e2 : ∀ (l : Store) (x : Blk), (σ.set b .dead ++ l).set σ.length x = σ.set b .dead ++ l.set 0 x := fun l x => by rw [show σ.length = (σ.set b Blk.dead).length by rw [List.length_set], set_app0]
  simp only [ev, List.map_cons, List.map_nil, hx, frzs, hf, Option.map_some, allSz_cons, allSz_nil, PV.cells, List.length_cons, List.length_nil, Nat.zero_add, beq_self_eq_true, Bool.and_self, if_true, kills, List.foldl_cons, List.foldl_nil, kill, kill1, set_left hlb, push_sl, e1, e2, List.getElem?_cons_zero, List.set_cons_zero, ke_some, Nat.add_zero]
end
theorem rp138 : rp 88 = some f88 := rfl
theorem subPV_zi {x : Int} : subPV true 2 (zi x) 0 = some (zi x) := subPV_mk
structure Bs (b : List PV) (N : Nat) (X : Nat → Nat → Int) : Prop where
  m : b.length ≤ 12
  n : N ≤ 12
  row : ∀ i, i < b.length → ∃ r, b[i]? = some (.sl r) ∧ r.length = N ∧ NuR r (X i)
  sz : ∀ i j, i < b.length → j < N → Sk 8 (X i j)
def gr (N : Nat) (X : Nat → Nat → Int) : Nat → Nat → Int := fun i j => dotI (X i) (X j) N
theorem gr_symm {N : Nat} {X : Nat → Nat → Int} : ∀ i j, gr N X i j = gr N X j i := fun i j => dotI_symm
theorem bd_le {M : Nat} : ∀ {n : Nat}, n ≤ 12 → Gs.bd M n ≤ (LB * M) ^ n
  | 0, _ => by simp [Gs.bd]
  | n + 1, h => by
    have ih := bd_le (M := M) (n := n) (by omega)
    rw [Gs.bd, Nat.pow_succ, Nat.mul_comm ((LB * M) ^ n), Nat.mul_assoc]
    exact Nat.mul_le_mul (by unfold LB; omega) (Nat.mul_le_mul_left _ ih)
section
variable {b : List PV} {N : Nat} {X : Nat → Nat → Int}
theorem V_sk (hb : Bs b N X) {k i j : Nat} (hp : Pos (gr N X) k) (hi : k ≤ i) (hj : k ≤ j) (hi' : i < b.length) (hj' : j < b.length) : Sk 217 (V (gr N X) k i j) := by
  have hm := hb.m
  have h1 := (Gs.good gr_symm (M := LB ^ 17) hp).sz i j hi hj fun p q hp hq => Nat.le_of_lt (dot_sk (fun t ht => ⟨hb.sz p t (by omega) ht, hb.sz q t (by omega) ht⟩) hb.n)
  have h2 := bd_le (M := LB ^ 17) (n := k + 1) (by omega)
  have h3 : LB * LB ^ 17 = LB ^ 18 := by rw [Nat.mul_comm, ← Nat.pow_succ]
  rw [h3, ← Nat.pow_mul] at h2
  have h4 : LB ^ (18 * (k + 1)) ≤ LB ^ 216 := Nat.pow_le_pow_right LB_pos (by omega)
  have h5 : LB ^ 216 < LB ^ 217 := by
    exact (Nat.pow_lt_pow_iff_right (a := LB) (by decide)).2 (by omega)
  unfold Sk
  omega
theorem Dv_sk (hb : Bs b N X) {k : Nat} (hp : Pos (gr N X) k) (hk : k ≤ b.length) : Sk 217 (Dv (gr N X) k) := by
  cases k with
  | zero => 
    show (1 : Nat) < LB ^ 217
    exact Nat.one_lt_pow (by omega) (by decide)
  | succ k => exact V_sk hb hp.pred (Nat.le_refl _) (Nat.le_refl _) (by omega) (by omega)
def Dl (g : Nat → Nat → Int) (i : Nat) : List PV := (List.range i).map fun k => zi (Dv g k)
def Ll (g : Nat → Nat → Int) (i j : Nat) : List PV := (List.range j).map fun k => zi (V g k i k)
def Rl (g : Nat → Nat → Int) (i : Nat) : List PV := (List.range i).map fun t => .sl (Ll g t t)
theorem Dl_get {g : Nat → Nat → Int} {i k : Nat} (h : k < i) : (Dl g i)[k]? = some (zi (Dv g k)) := by simp [Dl, h]
theorem Ll_get {g : Nat → Nat → Int} {i j k : Nat} (h : k < j) : (Ll g i j)[k]? = some (zi (V g k i k)) := by simp [Ll, h]
theorem Rl_get {g : Nat → Nat → Int} {i k : Nat} (h : k < i) : (Rl g i)[k]? = some (.sl (Ll g k k)) := by simp [Rl, h]
theorem Dl_len {g : Nat → Nat → Int} {i : Nat} : (Dl g i).length = i := by simp [Dl]
theorem Ll_len {g : Nat → Nat → Int} {i j : Nat} : (Ll g i j).length = j := by simp [Ll]
theorem Rl_len {g : Nat → Nat → Int} {i : Nat} : (Rl g i).length = i := by simp [Rl]
theorem Dl_succ {g : Nat → Nat → Int} {i : Nat} : Dl g (i + 1) = Dl g i ++ [zi (Dv g i)] := by simp [Dl, List.range_succ]
theorem Ll_succ {g : Nat → Nat → Int} {i j : Nat} : Ll g i (j + 1) = Ll g i j ++ [zi (V g j i j)] := by simp [Ll, List.range_succ]
theorem Rl_succ {g : Nat → Nat → Int} {i : Nat} : Rl g (i + 1) = Rl g i ++ [.sl (Ll g i i)] := by simp [Rl, List.range_succ]
theorem Ll_take {g : Nat → Nat → Int} {i : Nat} : (Ll g i (i + 1)).take i = Ll g i i := by
  rw [Ll_succ, List.take_append, Ll_len, Nat.sub_self, List.take_zero, List.append_nil, List.take_of_length_le (by rw [Ll_len]; omega)]
def cz (x : Int) : List CV := [.p (.bool (decide (x < 0) && decide (x.natAbs ≠ 0))), .p (.sl (lm (dgl x.natAbs)))]
structure JI (g : Nat → Nat → Int) (τ : Store) (bd : Nat) (cL : CV) (i j bl : Nat) : Prop where
  g0 : τ[0]? = some (.kblk 2 [.nils, .nils])
  g2 : τ[2]? = some (.kblk 2 [.own bd 0 (i + 1), cL])
  gd : τ[bd]? = some (.prow 2 (Dl g (i + 1)))
  gL : GL τ 1 cL (Rl g i)
  gl : τ[bl]? = some (.prow 2 (Ll g i j))
  ne : bl ≠ bd
theorem JI.bl0 {g : Nat → Nat → Int} {τ : Store} {bd : Nat} {cL : CV} {i j bl : Nat} (h : JI g τ bd cL i j bl) : bl ≠ 0 ∧ bl ≠ 2 ∧ bd ≠ 0 ∧ bd ≠ 2 ∧ bl < τ.length ∧ bd < τ.length ∧ 2 < τ.length ∧ 0 < τ.length := by
  refine ⟨?_, ?_, ?_, ?_, (List.getElem?_eq_some_iff.1 h.gl).1, (List.getElem?_eq_some_iff.1 h.gd).1, (List.getElem?_eq_some_iff.1 h.g2).1, (List.getElem?_eq_some_iff.1 h.g0).1⟩
  · rintro rfl; have := h.gl; rw [h.g0] at this; cases this
  · rintro rfl; have := h.gl; rw [h.g2] at this; cases this
  · rintro rfl; have := h.gd; rw [h.g0] at this; cases this
  · rintro rfl; have := h.gd; rw [h.g2] at this; cases this
theorem GL.ne2 {σ : Store} {c : CV} {es xs : List PV} {k : Nat} (h : GL σ 1 c es) (hk : σ[k]? = some (.prow 2 xs)) : ∀ b o n, c = .own b o n → b ≠ k := by
  rintro b o n rfl rfl
  rcases h with ⟨h, _⟩ | ⟨b', h, hb⟩
  · cases h
  · cases h; rw [hb] at hk; cases hk
theorem p138 (hb : Bs b N X) :
    (Pos (gr N X) b.length → Pu rp 88 [.sl b] (.tup [.p (.agg [.sl (Dl (gr N X) (b.length + 1)), .sl (Rl (gr N X) b.length)]), .p (.bool true)])) ∧
    (¬ Pos (gr N X) b.length → Pu rp 88 [.sl b] (.tup [.p (.agg [.sl [], .sl []]), .p (.bool false)])) := by
  have key : ∀ R : CV, (Pos (gr N X) b.length → R = .tup [.p (.agg [.sl (Dl (gr N X) (b.length + 1)), .sl (Rl (gr N X) b.length)]), .p (.bool true)]) → (¬ Pos (gr N X) b.length → R = .tup [.p (.agg [.sl [], .sl []]), .p (.bool false)]) → Pu rp 88 [.sl b] R := by
    intro R hR1 hR2
    refine pu_of rp138 ?_
    have hm := hb.m
    have hN := hb.n
    have k54 := p54 (x := 1) (by decide) (by decide)
    have hz1 : (zi 1).cells.length = 2 := rfl
    simp only [f88, args0, SA, setCells, Int.reduceLE, Int.reduceLT, ↓reduceIte, reduceCtorEq, Nat.reduceLT, Nat.reduceEqDiff, Nat.reduceAdd, Nat.reduceMul, Nat.reduceLeDiff, Nat.reduceBEq, kp1 k54]
    refine loop_rule (β := Nat × Store × Nat × CV) (fun t => ([(0, .p (.sl b)), (2, .ptr 0 0 0), (4, .ptr 2 0 0), (16, i64 b.length), (17, i64 t.1)], t.2.1))
      (fun t => t.1 ≤ b.length ∧ Pos (gr N X) t.1 ∧ t.2.1[0]? = some (.kblk 2 [.nils, .nils]) ∧ t.2.1[2]? = some (.kblk 2 [.own t.2.2.1 0 (t.1 + 1), t.2.2.2]) ∧ t.2.1[t.2.2.1]? = some (.prow 2 (Dl (gr N X) (t.1 + 1))) ∧ GL t.2.1 1 t.2.2.2 (Rl (gr N X) t.1)) (fun t => b.length - t.1)
      ((0, [.kblk 2 [.nils, .nils], .prow 2 [zi 1], .kblk 2 [.own 1 0 1, .nils]], 1, .nils) : Nat × Store × Nat × CV) rfl rfl ⟨Nat.zero_le _, fun t ht => by omega, rfl, rfl, rfl, .nil⟩ ?_
    rintro ⟨i, σ, bd, cL⟩ ⟨hi, hpos, h0, h2, hd, hL⟩ ih
    simp only [] at hi hpos h0 h2 hd hL ih ⊢
    by_cases hin : (i : Int) < b.length
    · have hib : i < b.length := by omega
      have w1 : IntKind.i64.wrap ((i : Int) + 1) = ((i + 1 : Nat) : Int) := by rw [IntWalk.i64_in _ (by omega)]; omega
      have m1 : ((32 : Nat) : Int) * ((i + 1 : Nat) : Int) ≤ 281474976710656 := by omega
      have m2 : ((i + 1 : Nat) : Int) ≤ 9223372036854775807 := by omega
      have m3 : (0 : Int) ≤ ((i + 1 : Nat) : Int) := by omega
      have i0 : Int.toNat 0 = 0 := rfl
      simp only [SA, setCells, Int.reduceLE, Int.reduceLT, ↓reduceIte, reduceCtorEq, Nat.reduceLT, Nat.reduceEqDiff, Nat.reduceAdd, Nat.reduceMul, Nat.reduceLeDiff, Nat.reduceBEq, hin, w1, m1, m2, m3, i0, Int.le_refl]
      obtain ⟨ri, hri, hril, hrix⟩ := hb.row i hib
      have hs2 : 2 < σ.length := (List.getElem?_eq_some_iff.1 h2).1
      have hs0 : 0 < σ.length := (List.getElem?_eq_some_iff.1 h0).1
      have hsd : bd < σ.length := (List.getElem?_eq_some_iff.1 hd).1
      have hJ0 : JI (gr N X) (σ ++ [.prow 2 []]) bd cL i 0 σ.length :=
        ⟨by rw [get_left hs0, h0], by rw [get_left hs2, h2], by rw [get_left hsd, hd], hL.left, by rw [get_app0]; rfl, by omega⟩
      refine loop_rule (β := Nat × Store × Nat) (fun t => ([(0, .p (.sl b)), (2, .ptr 0 0 0), (4, .ptr 2 0 0), (5, i64 i), (6, .own t.2.2 0 t.1), (7, i64 t.1), (16, i64 b.length), (17, i64 i)], t.2.1))
        (fun t => t.1 ≤ i + 1 ∧ JI (gr N X) t.2.1 bd cL i t.1 t.2.2) (fun t => i + 1 - t.1) ((0, σ ++ [.prow 2 []], σ.length) : Nat × Store × Nat) rfl rfl ⟨Nat.zero_le _, hJ0⟩ ?_
      rintro ⟨j, τ, bl⟩ ⟨hj, hJ⟩ ih2
      simp only [] at hj hJ ih2 ⊢
      obtain ⟨n1, n2, n3, n4, lbl, lbd, l2, l0⟩ := hJ.bl0
      have e0 : ∀ l, (τ ++ l)[0]? = some (.kblk 2 [.nils, .nils]) := fun l => by rw [get_left l0, hJ.g0]
      have e2 : ∀ l, (τ ++ l)[2]? = some (.kblk 2 [.own bd 0 (i + 1), cL]) := fun l => by rw [get_left l2, hJ.g2]
      have ed : ∀ l, (τ ++ l)[bd]? = some (.prow 2 (Dl (gr N X) (i + 1))) := fun l => by rw [get_left lbd, hJ.gd]
      have el : ∀ l, (τ ++ l)[bl]? = some (.prow 2 (Ll (gr N X) i j)) := fun l => by rw [get_left lbl, hJ.gl]
      by_cases hji : (j : Int) ≤ i
      · have hjb : j < b.length := by omega
        obtain ⟨rj, hrj, hrjl, hrjx⟩ := hb.row j hjb
        have k169 := p169 hrix hrjx (by rw [hril, hrjl]) (by omega) (fun t ht => ⟨hb.sz i t hib (by omega), hb.sz j t hjb (by omega)⟩)
        rw [hril] at k169
        simp only [SA, setCells, Int.reduceLE, Int.reduceLT, ↓reduceIte, reduceCtorEq, Nat.reduceLT, Nat.reduceEqDiff, Nat.reduceAdd, Nat.reduceMul, Nat.reduceLeDiff, Nat.reduceBEq, hji, hri, hrj, Int.natCast_nonneg, Int.toNat_natCast, kz2 k169, push_sl]
        refine loop_rule (β := Nat) (fun k => ([(0, .p (.sl b)), (2, .ptr 0 0 0), (4, .ptr 2 0 0), (5, i64 i), (6, .own bl 0 j), (7, i64 j), (8, .ptr τ.length 0 0), (10, i64 k), (16, i64 b.length), (17, i64 i)], τ ++ [.kblk 2 (cz (V (gr N X) k i j))]))
          (fun k => k ≤ j) (fun k => j - k) 0 rfl rfl (Nat.zero_le _) ?_
        rintro k hk ih3
        simp only [] at hk ih3 ⊢
        have sV : Sz (V (gr N X) k i j) := (V_sk hb (hpos.mono (by omega)) (by omega) hk hib hjb).sz (by omega)
        by_cases hkj : (k : Int) < j
        · have hkj' : k < j := by omega
          have hpk : Pos (gr N X) (k + 1) := hpos.mono (by omega)
          have s1 := Dv_sk hb hpk (by omega)
          have s2 := V_sk hb hpk.pred (show k ≤ i by omega) hk hib hjb
          have s3 := V_sk hb hpk.pred (show k ≤ i by omega) (Nat.le_refl k) hib (by omega)
          have s4 := V_sk hb hpk.pred hk (Nat.le_refl k) hjb (by omega)
          have s5 := Dv_sk hb hpk.pred (by omega)
          have q1 := p63' (Nu.zi (s1.sz (by omega))) (Nu.zi (s2.sz (by omega)))
          have q2 := p63' (Nu.zi (s3.sz (by omega))) (Nu.zi (s4.sz (by omega)))
          have q3 := p157 (Nu.zi ((s1.mul s2).sz (by omega))) (Nu.zi ((s3.mul s4).sz (by omega)))
          have q4 := p134 (Nu.zi (((s1.mul s2).sub (s3.mul s4)).sz (by omega))) (Nu.zi (s5.sz (by omega))) (Gs.good gr_symm (M := 0) hpk.pred).dp
          rw [← Gs.V_succ] at q4
          rw [zi_raw (x := V (gr N X) k i j)] at q1
          rw [zi_raw (x := Dv (gr N X) (k + 1) * V (gr N X) k i j - V (gr N X) k i k * V (gr N X) k j k)] at q4
          have w2 : IntKind.i64.wrap ((k : Int) + 1) = ((k + 1 : Nat) : Int) := by rw [IntWalk.i64_in _ (by omega)]; omega
          have d1 := Dl_get (g := gr N X) (i := i + 1) (k := k + 1) (by omega)
          have d2 := Dl_get (g := gr N X) (i := i + 1) (k := k) (by omega)
          have d3 := Ll_get (g := gr N X) (i := i) hkj'
          have f1 : k + 1 < i + 1 := by omega
          have f2 : k < i + 1 := by omega
          by_cases hjlt : (j : Int) < i
          · have hjlt' : j < i := by omega
            have d4 := Ll_get (g := gr N X) (i := j) hkj'
            have d5 := Rl_get (g := gr N X) hjlt'
            obtain ⟨bL, hbL, hbLg⟩ : ∃ bL, cL = .own bL 0 i ∧ τ[bL]? = some (.prow 1 (Rl (gr N X) i)) := by
              rcases hJ.gL with ⟨h, h'⟩ | ⟨bL, h, h'⟩
              · have := congrArg List.length h'; rw [Rl_len] at this; simp at this; omega
              · rw [Rl_len] at h; exact ⟨bL, h, h'⟩
            subst hbL
            have lbL : bL < τ.length := (List.getElem?_eq_some_iff.1 hbLg).1
            have eL : ∀ l, (τ ++ l)[bL]? = some (.prow 1 (Rl (gr N X) i)) := fun l => by rw [get_left lbL, hbLg]
            simp only [SA, setCells, Int.reduceLE, Int.reduceLT, ↓reduceIte, reduceCtorEq, Nat.reduceLT, Nat.reduceEqDiff, Nat.reduceAdd, Nat.reduceMul, Nat.reduceLeDiff, Nat.reduceBEq, hkj, hjlt, w2, e2, ed, el, eL, bsz, cz, f1, f2, hkj', hjlt', d1, d2, d3, d4, d5, subPV_zi, kz2 q1, kz2 q2, kp2 q3, Int.natCast_nonneg, Int.toNat_natCast]
            rw [r_nilx]
            refine ⟨by rfl, ?_⟩
            simp only [SA, setCells, Int.reduceLE, Int.reduceLT, ↓reduceIte, reduceCtorEq, Nat.reduceLT, Nat.reduceEqDiff, Nat.reduceAdd, Nat.reduceMul, Nat.reduceLeDiff, Nat.reduceBEq, e2, ed, el, bsz, f2, d2, subPV_zi, kz2 q4, w2, Int.natCast_nonneg, Int.toNat_natCast]
            refine ih3 (k + 1) _ (by omega) (by omega) ?_
            rfl
          · obtain rfl : j = i := by omega
            simp only [SA, setCells, Int.reduceLE, Int.reduceLT, ↓reduceIte, reduceCtorEq, Nat.reduceLT, Nat.reduceEqDiff, Nat.reduceAdd, Nat.reduceMul, Nat.reduceLeDiff, Nat.reduceBEq, hkj, hjlt, w2, e2, ed, el, bsz, cz, f1, f2, hkj', d1, d2, d3, subPV_zi, kz2 q1, kz2 q2, kp2 q3, Int.natCast_nonneg, Int.toNat_natCast]
            rw [r_nilx]
            refine ⟨by rfl, ?_⟩
            simp only [SA, setCells, Int.reduceLE, Int.reduceLT, ↓reduceIte, reduceCtorEq, Nat.reduceLT, Nat.reduceEqDiff, Nat.reduceAdd, Nat.reduceMul, Nat.reduceLeDiff, Nat.reduceBEq, e2, ed, el, bsz, f2, d2, subPV_zi, kz2 q4, w2, Int.natCast_nonneg, Int.toNat_natCast]
            refine ih3 (k + 1) _ (by omega) (by omega) ?_
            rfl
        · obtain rfl : k = j := by omega
          have w3 : IntKind.i64.wrap ((k : Int) + 1) = ((k + 1 : Nat) : Int) := by rw [IntWalk.i64_in _ (by omega)]; omega
          have c1 : content (τ ++ [.kblk 2 (cz (V (gr N X) k i k)), .prow 2 [zi (V (gr N X) k i k)]]) (.own bl 0 k) = some (Ll (gr N X) i k) := by
            simp only [content, el, Ll_len, Nat.zero_add, Nat.le_refl, if_true, List.drop_zero]
            rw [List.take_of_length_le (by rw [Ll_len]; omega)]
          have c2 : content (τ ++ [.kblk 2 (cz (V (gr N X) k i k)), .prow 2 [zi (V (gr N X) k i k)]]) (.own (τ.length + 1) 0 1) = some [zi (V (gr N X) k i k)] := by
            simp only [content, get_app]; rfl
          have m4 : (k + 1) * 32 ≤ 140737488355328 := by omega
          simp only [cz, zi_raw] at c1 c2
          have sl : ∀ l x, (τ ++ l).set bl x = τ.set bl x ++ l := fun l x => set_left lbl
          simp only [SA, setCells, Int.reduceLE, Int.reduceLT, ↓reduceIte, reduceCtorEq, Nat.reduceLT, Nat.reduceEqDiff, Nat.reduceAdd, Nat.reduceMul, Nat.reduceLeDiff, Nat.reduceBEq, hkj, cz, r_append, c1, c2, el, Ll_len, m4, sl, w3]
          rw [← zi_raw (x := V (gr N X) k i k), ← Ll_succ]
          refine ih2 (k + 1, τ.set bl .dead ++ [.kblk 2 (cz (V (gr N X) k i k)), .prow 2 [zi (V (gr N X) k i k)], .prow 2 (Ll (gr N X) i (k + 1))], τ.length + 2) _ ⟨by simp only []; omega, ?_⟩ (by simp only []; omega) ?_
          · have lt : ∀ x, x ≠ bl → x < τ.length → ∀ l, (τ.set bl .dead ++ l)[x]? = τ[x]? := fun x hx hl l => by
              rw [get_left (by rw [List.length_set]; exact hl), get_ne (Ne.symm hx)]
            refine ⟨by rw [lt 0 n1.symm l0, hJ.g0], by rw [lt 2 n2.symm l2, hJ.g2], by rw [lt bd hJ.ne.symm lbd, hJ.gd], ?_, ?_, by simp only []; omega⟩
            · exact (hJ.gL.set_ne (GL.ne2 hJ.gL hJ.gl)).left
            · rw [show τ.length + 2 = (τ.set bl Blk.dead).length + 2 by rw [List.length_set], get_app]; rfl
          · rfl
      · obtain rfl : j = i + 1 := by omega
        have hji' : ¬ ((i + 1 : Nat) : Int) ≤ i := by omega
        have hVz : Nu (zi (V (gr N X) i i i)) (V (gr N X) i i i) := Nu.zi ((V_sk hb hpos (Nat.le_refl _) (Nat.le_refl _) hib hib).sz (by omega))
        have k77 := p77 hVz
        have d1 := Ll_get (g := gr N X) (i := i) (Nat.lt_succ_self i)
        have f1 : i < i + 1 := Nat.lt_succ_self i
        by_cases hs : (V (gr N X) i i i).sign ≤ 0
        · have hVn : V (gr N X) i i i ≤ 0 := Int.sign_nonpos_iff.1 hs
          have s0 : ∀ x, (τ.set 0 x)[0]? = some x := fun x => get_self l0
          simp only [SA, setCells, Int.reduceLE, Int.reduceLT, ↓reduceIte, reduceCtorEq, Nat.reduceLT, Nat.reduceEqDiff, Nat.reduceAdd, Nat.reduceMul, Nat.reduceLeDiff, Nat.reduceBEq, hji', hJ.gl, hJ.g0, bsz, f1, d1, subPV_zi, kz1 k77, hs, Int.natCast_nonneg, Int.toNat_natCast, s0]
          rw [hR2 (fun hp => by have := hp i hib; omega)]
          rfl
        · have hVp : 0 < V (gr N X) i i i := by
            rcases Int.lt_or_le 0 (V (gr N X) i i i) with h | h
            · exact h
            · exact absurd (Int.sign_nonpos_iff.2 h) hs
          have gD : GL τ 2 (.own bd 0 (i + 1)) (Dl (gr N X) (i + 1)) := GL.own hJ.gd Dl_len.symm
          have m5 : ((Dl (gr N X) (i + 1)).length + [zi (V (gr N X) i i i)].length) * 32 ≤ 140737488355328 := by rw [Dl_len]; simp; omega
          have hDs : Dl (gr N X) (i + 1) ++ [zi (V (gr N X) i i i)] = Dl (gr N X) (i + 2) := by rw [Dl_succ (i := i + 1)]; rfl
          have sd : ∀ l x, (τ.set bd .dead ++ l).set 2 x = (τ.set bd .dead).set 2 x ++ l := fun l x => set_left (by rw [List.length_set]; exact l2)
          have gd2 : ∀ l, (τ.set bd .dead ++ l)[2]? = some (.kblk 2 [.own bd 0 (i + 1), cL]) := fun l => by rw [get_left (by rw [List.length_set]; exact l2), get_ne n4, hJ.g2]
          simp only [SA, setCells, Int.reduceLE, Int.reduceLT, ↓reduceIte, reduceCtorEq, Nat.reduceLT, Nat.reduceEqDiff, Nat.reduceAdd, Nat.reduceMul, Nat.reduceLeDiff, Nat.reduceBEq, hji', hJ.gl, hJ.g0, hJ.g2, hJ.gd, bsz, f1, d1, subPV_zi, kz1 k77, hs, Int.natCast_nonneg, Int.toNat_natCast, e2, el, push_sl, r_app_sl rfl gD m5, nd, Dl_len, hDs, sd, gd2]
          rw [r_nilx]
          refine ⟨by rfl, ?_⟩
          -- the store with the new determinant
          obtain ⟨ρ, hρ⟩ : ∃ ρ, ρ = (τ.set bd .dead).set 2 (.kblk 2 [.own (τ.length + 1) 0 (i + 2), cL]) ++ [.prow 2 [zi (V (gr N X) i i i)], .prow 2 (Dl (gr N X) (i + 2))] := ⟨_, rfl⟩
          have hl : ((τ.set bd Blk.dead).set 2 (.kblk 2 [.own (τ.length + 1) 0 (i + 2), cL])).length = τ.length := by rw [List.length_set, List.length_set]
          have r0 : ρ[0]? = some (.kblk 2 [.nils, .nils]) := by rw [hρ, get_left (by rw [hl]; exact l0), get_ne (by omega), get_ne n3, hJ.g0]
          have r2 : ρ[2]? = some (.kblk 2 [.own (τ.length + 1) 0 (i + 2), cL]) := by rw [hρ, get_left (by rw [hl]; exact l2), get_self (by rw [List.length_set]; exact l2)]
          have rd : ρ[τ.length + 1]? = some (.prow 2 (Dl (gr N X) (i + 2))) := by rw [hρ, List.getElem?_append_right (by rw [hl]; omega), hl, Nat.add_sub_cancel_left]; rfl
          have rl : ρ[bl]? = some (.prow 2 (Ll (gr N X) i (i + 1))) := by rw [hρ, get_left (by rw [hl]; exact lbl), get_ne (Ne.symm n2), get_ne (Ne.symm hJ.ne), hJ.gl]
          have rL : GL ρ 1 cL (Rl (gr N X) i) := by
            rw [hρ]
            refine (GL.set_ne (hJ.gL.set_ne (GL.ne2 hJ.gL hJ.gd)) ?_).left
            rintro b' o n rfl rfl
            rcases hJ.gL with ⟨h, _⟩ | ⟨b2, h, hb2⟩
            · cases h
            · cases h; rw [hJ.g2] at hb2; cases hb2
          rw [← hρ]
          have lr2 : 2 < ρ.length := (List.getElem?_eq_some_iff.1 r2).1
          have lr0 : 0 < ρ.length := (List.getElem?_eq_some_iff.1 r0).1
          have lrl : bl < ρ.length := (List.getElem?_eq_some_iff.1 rl).1
          have q2 : ∀ l, (ρ ++ l)[2]? = some (.kblk 2 [.own (τ.length + 1) 0 (i + 2), cL]) := fun l => by rw [get_left lr2, r2]
          have ql : ∀ l, (ρ ++ l)[bl]? = some (.prow 2 (Ll (gr N X) i (i + 1))) := fun l => by rw [get_left lrl, rl]
          have hii : i ≤ i + 1 := by omega
          have hf := fun {rp rs d l dr ks e Q x} => r_fz_sl (rp := rp) (rs := rs) (d := d) (l := l) (dr := dr) (ks := ks) (e := e) (Q := Q) (x := x) rl (show i ≤ (Ll (gr N X) i (i + 1)).length by rw [Ll_len]; omega)
          have gL' : GL (ρ.set bl .dead) 1 cL (Rl (gr N X) i) := rL.set_ne (GL.ne2 rL rl)
          have m6 : ((Rl (gr N X) i).length + [PV.sl (Ll (gr N X) i i)].length) * 24 ≤ 140737488355328 := by rw [Rl_len]; simp; omega
          have hRs : Rl (gr N X) i ++ [PV.sl (Ll (gr N X) i i)] = Rl (gr N X) (i + 1) := Rl_succ.symm
          have lset : (ρ.set bl Blk.dead).length = ρ.length := List.length_set
          have lnd : (nd (ρ.set bl .dead) cL).length = ρ.length := by rw [nd_len, lset]
          have h2s : (ρ.set bl .dead)[2]? = some (.kblk 2 [.own (τ.length + 1) 0 (i + 2), cL]) := by rw [get_ne n2, r2]
          have h0s : (ρ.set bl .dead)[0]? = some (.kblk 2 [.nils, .nils]) := by rw [get_ne n1, r0]
          have v2 : ∀ l, (nd (ρ.set bl .dead) cL ++ l)[2]? = some (.kblk 2 [.own (τ.length + 1) 0 (i + 2), cL]) := fun l => nd_get gL' h2s
          have v2s : ∀ l x, (nd (ρ.set bl .dead) cL ++ l).set 2 x = (nd (ρ.set bl .dead) cL).set 2 x ++ l := fun l x => set_left (by rw [lnd]; exact lr2)
          have hA := fun {rp rs d l dr ks e Q s x} => r_app_sl (rp := rp) (rs := rs) (d := d) (l := l) (dr := dr) (ks := ks) (e := e) (Q := Q) (s := s) (x := x) lset.symm gL' m6
          simp only [SA, setCells, Int.reduceLE, Int.reduceLT, ↓reduceIte, reduceCtorEq, Nat.reduceLT, Nat.reduceEqDiff, Nat.reduceAdd, Nat.reduceMul, Nat.reduceLeDiff, Nat.reduceBEq, q2, ql, bsz, sliceV, hii, hf, Ll_take, Nat.sub_zero, Nat.zero_le, Int.natCast_nonneg, Int.toNat_natCast, hA, Rl_len, hRs, v2, v2s]
          rw [r_nilx]
          refine ⟨by simp [apartAt, apartB, foot, addrs, ownsOf, own0, vl, gt, n2, Ne.symm n2, List.elem], ?_⟩
          simp only [SA, setCells, Int.reduceLE, Int.reduceLT, ↓reduceIte, reduceCtorEq, Nat.reduceLT, Nat.reduceEqDiff, Nat.reduceAdd, Nat.reduceMul, Nat.reduceLeDiff, Nat.reduceBEq, w1]
          have hbd : bl ≠ τ.length + 1 := by omega
          have hdn : (nd (ρ.set bl .dead) cL)[τ.length + 1]? = some (.prow 2 (Dl (gr N X) (i + 2))) := by
            have h1 : (ρ.set bl .dead)[τ.length + 1]? = some (.prow 2 (Dl (gr N X) (i + 2))) := by rw [get_ne hbd, rd]
            have hne := GL.ne2 gL' h1
            cases cL with
            | own b' o n => simp only [nd]; rw [get_ne (hne b' o n rfl), h1]
            | _ => exact h1
          have h0n : (nd (ρ.set bl .dead) cL)[0]? = some (.kblk 2 [.nils, .nils]) := by have := nd_get gL' h0s (τ := []); rwa [List.append_nil] at this
          have hll : ((nd (ρ.set bl .dead) cL).set 2 (.kblk 2 [.own (τ.length + 1) 0 (i + 2), .own (ρ.length + 1) 0 (i + 1)])).length = ρ.length := by rw [List.length_set, lnd]
          have ltd : τ.length + 1 < ρ.length := (List.getElem?_eq_some_iff.1 rd).1
          refine ih (i + 1, (nd (ρ.set bl .dead) cL).set 2 (.kblk 2 [.own (τ.length + 1) 0 (i + 2), .own (ρ.length + 1) 0 (i + 1)]) ++ [.prow 1 [.sl (Ll (gr N X) i i)], .prow 1 (Rl (gr N X) (i + 1))], τ.length + 1, .own (ρ.length + 1) 0 (i + 1)) _
            ⟨by simp only []; omega, ?_, ?_, ?_, ?_, ?_⟩ (by simp only []; omega) ?_
          · intro t ht
            rcases Nat.lt_or_ge t i with h | h
            · exact hpos t h
            · obtain rfl : t = i := by simp only [] at ht; omega
              exact hVp
          · simp only []
            rw [get_left (by rw [hll]; exact lr0), get_ne (by omega), h0n]
          · simp only []
            rw [get_left (by rw [hll]; exact lr2), get_self (by rw [lnd]; exact lr2)]
          · simp only []
            rw [get_left (by rw [hll]; exact ltd), get_ne (by omega), hdn]
          · simp only []
            refine .own ?_ Rl_len.symm
            rw [List.getElem?_append_right (by rw [hll]; omega), hll, Nat.add_sub_cancel_left]; rfl
          · rfl
    · obtain rfl : i = b.length := by omega
      have s0 : ∀ x, (σ.set 0 x)[0]? = some x := fun x => get_self (List.getElem?_eq_some_iff.1 h0).1
      have nd0 : bd ≠ 0 := by rintro rfl; rw [h0] at hd; cases hd
      have hfd : frz1 (σ.set 0 (.kblk 2 [.own bd 0 (b.length + 1), cL])) (.own bd 0 (b.length + 1)) = some (.sl (Dl (gr N X) (b.length + 1))) := frz1_own (s := 2) (by rw [get_ne nd0.symm, hd]) Dl_len.symm
      have hfl : frz1 (σ.set 0 (.kblk 2 [.own bd 0 (b.length + 1), cL])) cL = some (.sl (Rl (gr N X) b.length)) := GL.frz1 (sz := 1) (hL.set_ne (by
        rintro b' o n rfl rfl
        rcases hL with ⟨h, _⟩ | ⟨b2, h, hb2⟩
        · cases h
        · cases h; rw [h0] at hb2; cases hb2))
      simp only [SA, setCells, Int.reduceLE, Int.reduceLT, ↓reduceIte, reduceCtorEq, Nat.reduceLT, Nat.reduceEqDiff, Nat.reduceAdd, Nat.reduceMul, Nat.reduceLeDiff, Nat.reduceBEq, hin, h2, h0, s0]
      rw [hR1 hpos]
      rcases hL with ⟨h, _⟩ | ⟨bL, h, _⟩ <;> subst h <;> simp [back, backL, back1, frz, frzL, hfd, hfl, frz1_p]
  exact ⟨fun h => key _ (fun _ => rfl) (fun h2 => absurd h h2), fun h => key _ (fun h2 => absurd h2 h) (fun _ => rfl)⟩
end
end Go.Proofs.YtdieenbfdeaffaaGreat.VBn

namespace Go.Proofs.YtdieenbfdeaffaaGreat.VBn
open Go Vpi
open Gs (V Dv Pos Good)
set_option maxRecDepth 100000
set_option linter.unusedSimpArgs false
set_option linter.unusedVariables false
theorem rp108 : rp 53 = some f53 := rfl
theorem rp59 : rp 22 = some f22 := rfl
open Classical in
noncomputable def vE (n : Nat → Nat) (X : Nat → Nat → Int) (m : Nat) : Int := if shE n X m ≠ 0 then shE n X m else if Pos (gr (n 0) X) m then 0 else 50
section
variable {b : List PV} {n : Nat → Nat} {X : Nat → Nat → Int}
theorem shE_zero {m : Nat} (h : shE n X m = 0) : ¬ Big n X m ∧ m ≠ 0 ∧ ¬ Uneven n m := by
  unfold shE at h
  refine ⟨fun hb => ?_, fun h0 => ?_, fun hu => ?_⟩
  · rw [if_pos hb] at h; cases h
  · by_cases hb : Big n X m
    · rw [if_pos hb] at h; cases h
    · rw [if_neg hb, if_pos h0] at h; cases h
  · by_cases hb : Big n X m
    · rw [if_pos hb] at h; cases h
    · by_cases h0 : m = 0
      · rw [if_neg hb, if_pos h0] at h; cases h
      · rw [if_neg hb, if_neg h0, if_pos hu] at h; cases h
theorem sk8_of_bl {x : Int} (h : bl x.natAbs ≤ 256) : Sk 8 x := by
  unfold Sk
  by_cases h0 : x.natAbs = 0
  · rw [h0]; exact Nat.pow_pos LB_pos
  · have h1 := (bl_spec h0).2.1
    have h2 : 2 ^ bl x.natAbs ≤ 2 ^ 256 := Nat.pow_le_pow_right (by decide) h
    have h3 : LB ^ 8 = 2 ^ 256 := by
      show (2 ^ 32) ^ 8 = _
      rw [← Nat.pow_mul]
    rw [h3]; omega
theorem MR.bs (hb : MR b n X) (h : shE n X b.length = 0) : Bs b (n 0) X := by
  obtain ⟨h1, h2, h3⟩ := shE_zero h
  have hm : b.length ≤ 12 := Nat.not_lt.1 fun hh => h1 (.inl hh)
  have hn : ∀ i, i < b.length → n i = n 0 := fun i hi => Classical.byContradiction fun hne => h3 ⟨i, hi, hne⟩
  refine ⟨hm, Nat.not_lt.1 fun hh => h1 (.inr (.inl ⟨0, by omega, hh⟩)), fun i hi => ?_, fun i j hi hj => ?_⟩
  · obtain ⟨r, hr, hl, _, hx⟩ := hb i hi
    exact ⟨r, hr, by rw [hl, hn i hi], hx⟩
  · exact sk8_of_bl (Nat.not_lt.1 fun hh => h1 (.inr (.inr ⟨i, j, hi, by rw [hn i hi]; exact hj, hh⟩)))
theorem p59 (hb : MR b n X) (hlb : b.length ≤ 2000000) : Pu rp 22 [.sl b] (.p (.int .i64 (vE n X b.length))) := by
  have k137 := p137 hb hlb
  have key : ∃ g, Pu rp 53 [.sl b, .bool true] (.tup [.p (.agg g), .p (.int .i64 (vE n X b.length))]) ∧ g.length = 2 := by
    by_cases he : shE n X b.length = 0
    · have hbs := hb.bs he
      obtain ⟨h1, h2⟩ := p138 hbs
      have e0 : (shE n X b.length != 0) = false := by rw [he]; rfl
      by_cases hp : Pos (gr (n 0) X) b.length
      · refine ⟨[.sl (Dl (gr (n 0) X) (b.length + 1)), .sl (Rl (gr (n 0) X) b.length)], pu_of rp108 ?_, rfl⟩
        rw [vE, if_neg (by simp [he]), if_pos hp]
        simp only [f53, args0, SA, setCells, Int.reduceLE, Int.reduceLT, ↓reduceIte, reduceCtorEq, Nat.reduceLT, Nat.reduceEqDiff, Nat.reduceAdd, Nat.reduceMul, Nat.reduceLeDiff, Nat.reduceBEq, kp2 k137, e0, kp1 (h1 hp), unV, Bool.not_true]
        rfl
      · refine ⟨[.sl [], .sl []], pu_of rp108 ?_, rfl⟩
        rw [vE, if_neg (by simp [he]), if_neg hp]
        simp only [f53, args0, SA, setCells, Int.reduceLE, Int.reduceLT, ↓reduceIte, reduceCtorEq, Nat.reduceLT, Nat.reduceEqDiff, Nat.reduceAdd, Nat.reduceMul, Nat.reduceLeDiff, Nat.reduceBEq, kp2 k137, e0, kp1 (h2 hp), unV, Bool.not_false]
        rfl
    · have e0 : (shE n X b.length != 0) = true := by simp [he]
      refine ⟨[.sl [], .sl []], pu_of rp108 ?_, rfl⟩
      rw [vE, if_pos he]
      simp only [f53, args0, SA, setCells, Int.reduceLE, Int.reduceLT, ↓reduceIte, reduceCtorEq, Nat.reduceLT, Nat.reduceEqDiff, Nat.reduceAdd, Nat.reduceMul, Nat.reduceLeDiff, Nat.reduceBEq, kp2 k137, e0]
      rfl
  obtain ⟨g, k108, hg⟩ := key
  obtain ⟨g1, g2, rfl⟩ : ∃ g1 g2, g = [g1, g2] := by
    match g, hg with
    | [a, c], _ => exact ⟨a, c, rfl⟩
  refine pu_of rp59 ?_
  simp only [f22, args0, SA, setCells, Int.reduceLE, Int.reduceLT, ↓reduceIte, reduceCtorEq, Nat.reduceLT, Nat.reduceEqDiff, Nat.reduceAdd, Nat.reduceMul, Nat.reduceLeDiff, Nat.reduceBEq, kp2 k108]
  rfl
end
end Go.Proofs.YtdieenbfdeaffaaGreat.VBn

namespace Go.Proofs.YtdieenbfdeaffaaGreat.VBn
open Go Vpi
open Gs (V Dv Pos Good U Dk rg)
set_option maxRecDepth 100000
set_option linter.unusedSimpArgs false
set_option linter.unusedVariables false
theorem rp143 : rp 63 = some f63 := rfl
theorem rp175 : rp 69 = some f69 := rfl
def RSn (n : Nat) (x : Rat) : Prop := Sk n x.num ∧ Sk n (x.den : Int)
theorem RSn.rs {n : Nat} {x : Rat} (h : RSn n x) (hn : n ≤ 10000000000) : RS x := ⟨h.1.mono (by rw [RL_eq]; exact hn), h.2.mono (by rw [RL_eq]; exact hn)⟩
theorem rsn_divInt {n : Nat} {a b : Int} (hb : 0 < b) (ha : Sk n a) (hb' : Sk n b) : RSn n (Rat.divInt a b) := by
  obtain ⟨h1, h2⟩ := divInt_pos (a := a) hb
  refine ⟨?_, ?_⟩
  · rw [h1]
    exact ha.le (Int.natAbs_ediv_le_natAbs _ _)
  · rw [h2]
    exact hb'.le (Nat.div_le_self _ _)
theorem RSn.mul {n m : Nat} {x y : Rat} (h : RSn n x) (h' : RSn m y) : RSn (n + m) (x * y) := by
  have e : x * y = Rat.divInt (x.num * y.num) ((x.den : Int) * y.den) := by
    have := Rat.divInt_mul_divInt x.num y.num (d₁ := x.den) (d₂ := y.den)
    rwa [Rat.num_divInt_den, Rat.num_divInt_den] at this
  rw [e]
  have := x.den_nz
  have := y.den_nz
  exact rsn_divInt (Int.mul_pos (by omega) (by omega)) (h.1.mul h'.1) (h.2.mul h'.2)
theorem U_symm {g : Nat → Nat → Int} (hs : ∀ i j, g i j = g j i) : ∀ {k i j : Nat}, U (rg g) k i j = U (rg g) k j i
  | 0, i, j => by simp only [U, rg]; rw [hs]
  | k + 1, i, j => by
    rw [U, U, U_symm hs (i := i) (j := j), U_symm hs (i := i) (j := k), U_symm hs (i := k) (j := j)]
    rw [Rat.mul_comm]
section
variable {b : List PV} {N : Nat} {X : Nat → Nat → Int}
def star (g : Nat → Nat → Int) (k : Nat) : Rat := U (rg g) k k k
def mu (g : Nat → Nat → Int) (i k : Nat) : Rat := U (rg g) k i k / U (rg g) k k k
theorem U_div {g : Nat → Nat → Int} (hs : ∀ i j, g i j = g j i) {k i j : Nat} (hp : Pos g k) (hi : k ≤ i) (hj : k ≤ j) : U (rg g) k i j = Rat.divInt (V g k i j) (Dv g k) := by
  have G := Gs.good hs (M := 0) hp
  have h1 := G.v i j hi hj
  have h2 := G.d
  have h3 : (0 : Rat) < Dv g k := Rat.intCast_pos.2 G.dp
  rw [← h2] at h1
  rw [Rat.divInt_eq_div, h1]
  grind
theorem mu_div {g : Nat → Nat → Int} (hs : ∀ i j, g i j = g j i) {k i : Nat} (hp : Pos g (k + 1)) (hi : k ≤ i) : mu g i k = Rat.divInt (V g k i k) (V g k k k) := by
  have G := Gs.good hs (M := 0) hp.pred
  have h1 := G.v i k hi (Nat.le_refl _)
  have h2 := G.v k k (Nat.le_refl _) (Nat.le_refl _)
  have h3 : (0 : Rat) < Dk (rg g) k := by rw [← G.d]; exact Rat.intCast_pos.2 G.dp
  have h4 : (0 : Rat) < V g k k k := Rat.intCast_pos.2 (hp k (by omega))
  unfold mu
  rw [Rat.divInt_eq_div, h1, h2]
  rw [h2] at h4
  generalize Dk (rg g) k = D at *
  generalize U (rg g) k k k = u at *
  have h5 : u ≠ 0 := by rintro rfl; grind
  have h6 : D ≠ 0 := by grind
  grind
theorem U_rs (hb : Bs b N X) {k i j : Nat} (hp : Pos (gr N X) k) (hi : k ≤ i) (hj : k ≤ j) (hi' : i < b.length) (hj' : j < b.length) : RSn 217 (U (rg (gr N X)) k i j) := by
  rw [U_div gr_symm hp hi hj]
  exact rsn_divInt (Gs.good gr_symm (M := 0) hp).dp (V_sk hb hp hi hj hi' hj') (Dv_sk hb hp (by omega))
theorem mu_rs (hb : Bs b N X) {k i : Nat} (hp : Pos (gr N X) (k + 1)) (hi : k ≤ i) (hi' : i < b.length) : RSn 217 (mu (gr N X) i k) := by
  rw [mu_div gr_symm hp hi]
  exact rsn_divInt (hp k (by omega)) (V_sk hb hp.pred hi (Nat.le_refl _) hi' (by omega)) (V_sk hb hp.pred (Nat.le_refl _) (Nat.le_refl _) (by omega) (by omega))
theorem star_pos {g : Nat → Nat → Int} (hs : ∀ i j, g i j = g j i) {k : Nat} (hp : Pos g (k + 1)) : 0 < star g k := (Gs.good hs (M := 0) hp).piv k (by omega)
theorem U_step {g : Nat → Nat → Int} (hs : ∀ i j, g i j = g j i) {k i j : Nat} (hp : Pos g (k + 1)) : U (rg g) k i j - mu g j k * mu g i k * star g k = U (rg g) (k + 1) i j := by
  have h := star_pos hs hp
  unfold star at h
  rw [U, U_symm hs (i := k) (j := j)]
  unfold mu star
  have : U (rg g) k k k ≠ 0 := by grind
  grind
theorem U_sign {g : Nat → Nat → Int} (hs : ∀ i j, g i j = g j i) {k : Nat} (hp : Pos g k) : (U (rg g) k k k).num.sign ≤ 0 ↔ V g k k k ≤ 0 := by
  have G := Gs.good hs (M := 0) hp
  have h1 := G.v k k (Nat.le_refl _) (Nat.le_refl _)
  have h3 : (0 : Rat) < Dk (rg g) k := by rw [← G.d]; exact Rat.intCast_pos.2 G.dp
  rw [Int.sign_nonpos_iff]
  have e1 : (U (rg g) k k k).num ≤ 0 ↔ U (rg g) k k k ≤ 0 := by
    have h := Rat.num_nonneg (q := - U (rg g) k k k)
    rw [Rat.neg_num] at h
    constructor
    · intro h1; have := h.1 (by omega); grind
    · intro h1; have := h.2 (by grind); omega
  have e2 : V g k k k ≤ 0 ↔ (V g k k k : Rat) ≤ 0 := by
    rw [← Int.not_lt, ← Rat.not_lt, Rat.intCast_pos]
  rw [e1, e2, h1]
  constructor
  · intro h
    have := Rat.mul_nonneg (Rat.le_of_lt h3) (show 0 ≤ - U (rg g) k k k by grind)
    grind
  · intro h
    refine Rat.not_lt.1 fun h4 => ?_
    have := Rat.mul_pos h3 h4
    grind
theorem subPV_rq {x : Rat} : subPV true 4 (rq x) 0 = some (rq x) := by simp [subPV, rq]
theorem rq_raw {x : Rat} : rq x = .agg [.bool (decide (x.num < 0) && decide (x.num.natAbs ≠ 0)), .sl (lm (dgl x.num.natAbs)), .bool false, .sl (lm (dgl x.den))] := rfl
theorem p175 {x : Rat} (h : RS x) : Pu rp 69 [rq x] (.p (rq (x * x))) := by
  refine pu_of rp175 ?_
  have k := p173 h h
  unfold rq at k ⊢
  simp only [f69, args0, SA, setCells, Int.reduceLE, Int.reduceLT, ↓reduceIte, reduceCtorEq, Nat.reduceLT, Nat.reduceEqDiff, Nat.reduceAdd, Nat.reduceMul, Nat.reduceLeDiff, Nat.reduceBEq, kp2 k]
  rfl
def Sl (g : Nat → Nat → Int) (i : Nat) : List PV := (List.range i).map fun k => rq (star g k)
def Ul (g : Nat → Nat → Int) (i j : Nat) : List PV := (List.range j).map fun k => rq (mu g i k)
def Ml (g : Nat → Nat → Int) (i : Nat) : List PV := (List.range i).map fun t => .sl (Ul g t t)
theorem Sl_get {g : Nat → Nat → Int} {i k : Nat} (h : k < i) : (Sl g i)[k]? = some (rq (star g k)) := by simp [Sl, h]
theorem Ul_get {g : Nat → Nat → Int} {i j k : Nat} (h : k < j) : (Ul g i j)[k]? = some (rq (mu g i k)) := by simp [Ul, h]
theorem Ml_get {g : Nat → Nat → Int} {i k : Nat} (h : k < i) : (Ml g i)[k]? = some (.sl (Ul g k k)) := by simp [Ml, h]
theorem Sl_len {g : Nat → Nat → Int} {i : Nat} : (Sl g i).length = i := by simp [Sl]
theorem Ul_len {g : Nat → Nat → Int} {i j : Nat} : (Ul g i j).length = j := by simp [Ul]
theorem Ml_len {g : Nat → Nat → Int} {i : Nat} : (Ml g i).length = i := by simp [Ml]
theorem Sl_succ {g : Nat → Nat → Int} {i : Nat} : Sl g (i + 1) = Sl g i ++ [rq (star g i)] := by simp [Sl, List.range_succ]
theorem Ul_succ {g : Nat → Nat → Int} {i j : Nat} : Ul g i (j + 1) = Ul g i j ++ [rq (mu g i j)] := by simp [Ul, List.range_succ]
theorem Ml_succ {g : Nat → Nat → Int} {i : Nat} : Ml g (i + 1) = Ml g i ++ [.sl (Ul g i i)] := by simp [Ml, List.range_succ]
def cr (x : Rat) : List CV := [.p (.bool (decide (x.num < 0) && decide (x.num.natAbs ≠ 0))), .p (.sl (lm (dgl x.num.natAbs))), .p (.bool false), .p (.sl (lm (dgl x.den)))]
def Apart (c c' : CV) : Prop := ∀ b o n b' o' n', c = .own b o n → c' = .own b' o' n' → b ≠ b'
structure KI2 (g : Nat → Nat → Int) (τ : Store) (cM cS : CV) (i j : Nat) (c : CV) : Prop where
  g0 : τ[0]? = some (.kblk 2 [.nils, .nils])
  g1 : τ[1]? = some (.kblk 2 [cM, cS])
  gM : GL τ 1 cM (Ml g i)
  gS : GL τ 4 cS (Sl g i)
  gc : GL τ 4 c (Ul g i j)
  ap : Apart c cS
theorem GL.own_of {σ : Store} {sz : Nat} {c : CV} {es : List PV} {n : Nat} (h : GL σ sz c es) (hn : es.length = n) (h0 : 0 < n) : ∃ k, c = .own k 0 n ∧ σ[k]? = some (.prow sz es) ∧ k < σ.length := by
  rcases h with ⟨rfl, rfl⟩ | ⟨k, rfl, hk⟩
  · simp at hn; omega
  · exact ⟨k, by rw [hn], hk, (List.getElem?_eq_some_iff.1 hk).1⟩
theorem GL.ne_sz {σ : Store} {s s' : Nat} {c c' : CV} {es es' : List PV} (h : GL σ s c es) (h' : GL σ s' c' es') (hs : s ≠ s') : Apart c c' := by
  rintro b o n b' o' n' rfl rfl rfl
  rcases h with ⟨h, _⟩ | ⟨k, h, hk⟩
  · cases h
  rcases h' with ⟨h', _⟩ | ⟨k', h', hk'⟩
  · cases h'
  cases h; cases h'
  rw [hk] at hk'
  cases hk'
  exact hs rfl
theorem Apart.symm {c c' : CV} (h : Apart c c') : Apart c' c := fun b o n b' o' n' h1 h2 => (h b' o' n' b o n h2 h1).symm
theorem GL.nd {σ : Store} {sz : Nat} {c c' : CV} {es : List PV} (h : GL σ sz c es) (ha : Apart c c') : GL (nd σ c') sz c es := by
  cases c' with
  | own b o n => exact h.set_ne fun b' o' n' hc => ha b' o' n' b o n hc rfl
  | _ => exact h
theorem GL.nek {σ : Store} {sz s : Nat} {c : CV} {es : List PV} {k : Nat} {cs : List CV} (h : GL σ sz c es) (hk : σ[k]? = some (.kblk s cs)) : ∀ b o n, c = .own b o n → b ≠ k := by
  rintro b o n rfl rfl
  rcases h with ⟨h, _⟩ | ⟨b', h, hb⟩
  · cases h
  · cases h; rw [hb] at hk; cases hk
theorem p143k (hb : Bs b N X) (hlen : b.length ≠ 0) : ∀ R : CV, (Pos (gr N X) b.length → R = .tup [.p (.agg [.sl (Ml (gr N X) b.length), .sl (Sl (gr N X) b.length)]), .p (.bool true)]) → (∀ i, i < b.length → Pos (gr N X) i → V (gr N X) i i i ≤ 0 → R = .tup [.p (.agg [.sl (Ml (gr N X) i), .sl (Sl (gr N X) i)]), .p (.bool false)]) → Pu rp 63 [.sl b] R := by
  intro R hR1 hR2
  refine pu_of rp143 ?_
  have hm := hb.m
  have hN := hb.n
  simp only [f63, args0, SA, setCells, Int.reduceLE, Int.reduceLT, ↓reduceIte, reduceCtorEq, Nat.reduceLT, Nat.reduceEqDiff, Nat.reduceAdd, Nat.reduceMul, Nat.reduceLeDiff, Nat.reduceBEq]
  refine loop_rule (β := Nat × Store × CV × CV) (fun t => ([(0, .p (.sl b)), (2, .ptr 0 0 0), (4, .ptr 1 0 0), (5, i64 t.1)], t.2.1))
    (fun t => t.1 ≤ b.length ∧ Pos (gr N X) t.1 ∧ t.2.1[0]? = some (.kblk 2 [.nils, .nils]) ∧ t.2.1[1]? = some (.kblk 2 [t.2.2.1, t.2.2.2]) ∧ GL t.2.1 1 t.2.2.1 (Ml (gr N X) t.1) ∧ GL t.2.1 4 t.2.2.2 (Sl (gr N X) t.1)) (fun t => b.length - t.1)
    ((0, [.kblk 2 [.nils, .nils], .kblk 2 [.nils, .nils]], .nils, .nils) : Nat × Store × CV × CV) rfl rfl ⟨Nat.zero_le _, fun t ht => by omega, rfl, rfl, .nil, .nil⟩ ?_
  rintro ⟨i, σ, cM, cS⟩ ⟨hi, hpos, h0, h1, hM, hS⟩ ih
  simp only [] at hi hpos h0 h1 hM hS ih ⊢
  by_cases hin : (i : Int) < b.length
  · have hib : i < b.length := by omega
    obtain ⟨ri, hri, hril, hrix⟩ := hb.row i hib
    simp only [SA, setCells, Int.reduceLE, Int.reduceLT, ↓reduceIte, reduceCtorEq, Nat.reduceLT, Nat.reduceEqDiff, Nat.reduceAdd, Nat.reduceMul, Nat.reduceLeDiff, Nat.reduceBEq, hin]
    refine loop_rule (β := Nat × Store × CV) (fun t => ([(0, .p (.sl b)), (2, .ptr 0 0 0), (4, .ptr 1 0 0), (5, i64 i), (6, t.2.2), (7, i64 t.1)], t.2.1))
      (fun t => t.1 ≤ i ∧ KI2 (gr N X) t.2.1 cM cS i t.1 t.2.2) (fun t => i - t.1) ((0, σ, .nils) : Nat × Store × CV) rfl rfl ⟨Nat.zero_le _, h0, h1, hM, hS, .nil, by rintro b o n b' o' n' h; cases h⟩ ?_
    rintro ⟨j, τ, c⟩ ⟨hj, hK⟩ ih2
    simp only [] at hj hK ih2 ⊢
    have l1 : 1 < τ.length := (List.getElem?_eq_some_iff.1 hK.g1).1
    have l0 : 0 < τ.length := (List.getElem?_eq_some_iff.1 hK.g0).1
    have e0 : ∀ l, (τ ++ l)[0]? = some (.kblk 2 [.nils, .nils]) := fun l => by rw [get_left l0, hK.g0]
    have e1 : ∀ l, (τ ++ l)[1]? = some (.kblk 2 [cM, cS]) := fun l => by rw [get_left l1, hK.g1]
    by_cases hji : (j : Int) < i
    · have hji' : j < i := by omega
      have hjb : j < b.length := by omega
      obtain ⟨rj, hrj, hrjl, hrjx⟩ := hb.row j hjb
      have k171 := p171 hrix hrjx (by rw [hril, hrjl]) (by omega) (fun t ht => ⟨hb.sz i t hib (by omega), hb.sz j t hjb (by omega)⟩)
      rw [hril] at k171
      have k27 := p27 (Nu.zi ((dot_sk (x := X i) (y := X j) (n := N) (fun t ht => ⟨hb.sz i t hib (by omega), hb.sz j t hjb (by omega)⟩) hN).sz (by omega)))
      obtain ⟨bM, rfl, gM, lM⟩ := GL.own_of hK.gM Ml_len (by omega)
      obtain ⟨bS, rfl, gS, lS⟩ := GL.own_of hK.gS Sl_len (by omega)
      have eM : ∀ l, (τ ++ l)[bM]? = some (.prow 1 (Ml (gr N X) i)) := fun l => by rw [get_left lM, gM]
      have eS : ∀ l, (τ ++ l)[bS]? = some (.prow 4 (Sl (gr N X) i)) := fun l => by rw [get_left lS, gS]
      simp only [SA, setCells, Int.reduceLE, Int.reduceLT, ↓reduceIte, reduceCtorEq, Nat.reduceLT, Nat.reduceEqDiff, Nat.reduceAdd, Nat.reduceMul, Nat.reduceLeDiff, Nat.reduceBEq, hji, hri, hrj, Int.natCast_nonneg, Int.toNat_natCast, kz2 k171, kp1 k27, push_sl, rq_cells]
      refine loop_rule (β := Nat) (fun k => ([(0, .p (.sl b)), (2, .ptr 0 0 0), (4, .ptr 1 0 0), (5, i64 i), (6, c), (7, i64 j), (8, .ptr τ.length 0 0), (9, i64 k)], τ ++ [.kblk 4 (cr (U (rg (gr N X)) k i j))]))
        (fun k => k ≤ j) (fun k => j - k) 0 rfl rfl (Nat.zero_le _) ?_
      rintro k hk ih3
      simp only [] at hk ih3 ⊢
      have hUr : RS (U (rg (gr N X)) k i j) := (U_rs hb (hpos.mono (by omega)) (by omega) hk hib hjb).rs (by omega)
      have hjM := Ml_get (g := gr N X) hji'
      have hjS := Sl_get (g := gr N X) hji'
      by_cases hkj : (k : Int) < j
      · have hkj' : k < j := by omega
        have hki' : k < i := by omega
        have hpk : Pos (gr N X) (k + 1) := hpos.mono (by omega)
        obtain ⟨bc, rfl, gc, lc⟩ := GL.own_of hK.gc Ul_len (by omega)
        have ec : ∀ l, (τ ++ l)[bc]? = some (.prow 4 (Ul (gr N X) i j)) := fun l => by rw [get_left lc, gc]
        have s1 := mu_rs hb hpk (show k ≤ j by omega) hjb
        have s2 := mu_rs hb hpk (show k ≤ i by omega) hib
        have s3 := U_rs hb hpk.pred (Nat.le_refl k) (Nat.le_refl k) (show k < b.length by omega) (by omega)
        have q1 := p173 (s1.rs (by omega)) (s2.rs (by omega))
        have q2 := p173 ((s1.mul s2).rs (by omega)) (s3.rs (by omega))
        have q3 := p172 hUr (((s1.mul s2).mul s3).rs (by omega))
        rw [show U (rg (gr N X)) k k k = star (gr N X) k from rfl] at q2 q3
        rw [U_step gr_symm hpk, rq_raw (x := U (rg (gr N X)) k i j)] at q3
        have d1 := Ul_get (g := gr N X) (i := j) hkj'
        have d2 := Ul_get (g := gr N X) (i := i) hkj'
        have d3 := Sl_get (g := gr N X) hki'
        have w2 : IntKind.i64.wrap ((k : Int) + 1) = ((k + 1 : Nat) : Int) := by rw [IntWalk.i64_in _ (by omega)]; omega
        simp only [SA, setCells, Int.reduceLE, Int.reduceLT, ↓reduceIte, reduceCtorEq, Nat.reduceLT, Nat.reduceEqDiff, Nat.reduceAdd, Nat.reduceMul, Nat.reduceLeDiff, Nat.reduceBEq, hkj, e1, eM, eS, ec, bsz, cr, hkj', hki', hji', hjM, d1, d2, d3, subPV_rq, rq_cells, kz2 q1, kz2 q2, kz2 q3, Int.natCast_nonneg, Int.toNat_natCast]
        rw [r_nilx]
        refine ⟨by rfl, ?_⟩
        simp only [SA, setCells, Int.reduceLE, Int.reduceLT, ↓reduceIte, reduceCtorEq, Nat.reduceLT, Nat.reduceEqDiff, Nat.reduceAdd, Nat.reduceMul, Nat.reduceLeDiff, Nat.reduceBEq, w2]
        refine ih3 (k + 1) _ (by omega) (by omega) ?_
        rfl
      · obtain rfl : k = j := by omega
        have hpk : Pos (gr N X) (k + 1) := hpos.mono (by omega)
        have hst := star_pos gr_symm hpk
        have s3 := U_rs hb hpk.pred (Nat.le_refl k) (Nat.le_refl k) (show k < b.length by omega) (by omega)
        have q4 := p174 hUr (s3.rs (by omega)) (by rw [show U (rg (gr N X)) k k k = star (gr N X) k from rfl]; grind)
        rw [show U (rg (gr N X)) k i k / U (rg (gr N X)) k k k = mu (gr N X) i k from rfl, show U (rg (gr N X)) k k k = star (gr N X) k from rfl, rq_raw (x := U (rg (gr N X)) k i k)] at q4
        have w3 : IntKind.i64.wrap ((k : Int) + 1) = ((k + 1 : Nat) : Int) := by rw [IntWalk.i64_in _ (by omega)]; omega
        have m5 : ((Ul (gr N X) i k).length + [rq (mu (gr N X) i k)].length) * 64 ≤ 140737488355328 := by rw [Ul_len]; simp; omega
        have hUs : Ul (gr N X) i k ++ [rq (mu (gr N X) i k)] = Ul (gr N X) i (k + 1) := Ul_succ.symm
        obtain ⟨ρ, hρ⟩ : ∃ ρ, ρ = τ ++ [.kblk 4 (cr (U (rg (gr N X)) k i k))] := ⟨_, rfl⟩
        have hlρ : ρ.length = τ.length + 1 := by rw [hρ, List.length_append]; rfl
        have hgc : GL ρ 4 c (Ul (gr N X) i k) := by rw [hρ]; exact hK.gc.left
        have r0 : ρ[0]? = some (.kblk 2 [.nils, .nils]) := by rw [hρ, e0]
        have r1 : ρ[1]? = some (.kblk 2 [.own bM 0 i, .own bS 0 i]) := by rw [hρ, e1]
        have q8 : ∀ l, (ρ ++ l)[τ.length]? = some (.kblk 4 (cr (U (rg (gr N X)) k i k))) := fun l => by rw [hρ, List.append_assoc, get_app0]; rfl
        have q1 : ∀ l, (ρ ++ l)[1]? = some (.kblk 2 [.own bM 0 i, .own bS 0 i]) := fun l => by rw [get_left (by omega), r1]
        have qS : ∀ l, (ρ ++ l)[bS]? = some (.prow 4 (Sl (gr N X) i)) := fun l => by rw [get_left (by omega), hρ, eS]
        rw [← hρ]
        simp only [SA, setCells, Int.reduceLE, Int.reduceLT, ↓reduceIte, reduceCtorEq, Nat.reduceLT, Nat.reduceEqDiff, Nat.reduceAdd, Nat.reduceMul, Nat.reduceLeDiff, Nat.reduceBEq, hkj, cr, q1, q8, qS, bsz, hji', hjS, subPV_rq, rq_cells, kz2 q4, Int.natCast_nonneg, Int.toNat_natCast, push_sl, r_app_sl rfl hgc m5, Ul_len, hUs, w3]
        refine ih2 (k + 1, nd ρ c ++ [.prow 4 [rq (mu (gr N X) i k)], .prow 4 (Ul (gr N X) i (k + 1))], .own (ρ.length + 1) 0 (k + 1)) _ ⟨by simp only []; omega, ?_⟩ (by simp only []; omega) ?_
        · refine ⟨nd_get hgc r0, nd_get hgc r1, ?_, ?_, ?_, ?_⟩
          · have h : GL ρ 1 (.own bM 0 i) (Ml (gr N X) i) := by rw [hρ]; exact hK.gM.left
            exact (GL.nd h (GL.ne_sz h hgc (by decide))).left
          · have h : GL ρ 4 (.own bS 0 i) (Sl (gr N X) i) := by rw [hρ]; exact hK.gS.left
            exact (GL.nd h (Apart.symm hK.ap)).left
          · exact GL.new2 Ul_len.symm rfl
          · rintro b1 o1 n1 b2 o2 n2 h1 h2
            cases h1; cases h2
            omega
        · rfl
    · obtain rfl : j = i := by omega
      have k171 := p171 hrix hrix rfl (by omega) (fun t ht => ⟨hb.sz j t hib (by omega), hb.sz j t hib (by omega)⟩)
      rw [hril] at k171
      have k27 := p27 (Nu.zi ((dot_sk (x := X j) (y := X j) (n := N) (fun t ht => ⟨hb.sz j t hib (by omega), hb.sz j t hib (by omega)⟩) hN).sz (by omega)))
      simp only [SA, setCells, Int.reduceLE, Int.reduceLT, ↓reduceIte, reduceCtorEq, Nat.reduceLT, Nat.reduceEqDiff, Nat.reduceAdd, Nat.reduceMul, Nat.reduceLeDiff, Nat.reduceBEq, hji, hri, Int.natCast_nonneg, Int.toNat_natCast, kz2 k171, kp1 k27, push_sl, rq_cells]
      refine loop_rule (β := Nat) (fun k => ([(0, .p (.sl b)), (2, .ptr 0 0 0), (4, .ptr 1 0 0), (5, i64 j), (6, c), (10, .ptr τ.length 0 0), (11, i64 k)], τ ++ [.kblk 4 (cr (U (rg (gr N X)) k j j))]))
        (fun k => k ≤ j) (fun k => j - k) 0 rfl rfl (Nat.zero_le _) ?_
      rintro k hk ih3
      simp only [] at hk ih3 ⊢
      have hUr : RS (U (rg (gr N X)) k j j) := (U_rs hb (hpos.mono (by omega)) hk hk hib hib).rs (by omega)
      by_cases hkj : (k : Int) < j
      · have hkj' : k < j := by omega
        have hpk : Pos (gr N X) (k + 1) := hpos.mono (by omega)
        obtain ⟨bc, rfl, gc, lc⟩ := GL.own_of hK.gc Ul_len (by omega)
        have ec : ∀ l, (τ ++ l)[bc]? = some (.prow 4 (Ul (gr N X) j j)) := fun l => by rw [get_left lc, gc]
        obtain ⟨bS, rfl, gS, lS⟩ := GL.own_of hK.gS Sl_len (by omega)
        have eS : ∀ l, (τ ++ l)[bS]? = some (.prow 4 (Sl (gr N X) j)) := fun l => by rw [get_left lS, gS]
        have s1 := mu_rs hb hpk (show k ≤ j by omega) hib
        have s3 := U_rs hb hpk.pred (Nat.le_refl k) (Nat.le_refl k) (show k < b.length by omega) (by omega)
        have q1 := p175 (s1.rs (by omega))
        have q2 := p173 ((s1.mul s1).rs (by omega)) (s3.rs (by omega))
        have q3 := p172 hUr (((s1.mul s1).mul s3).rs (by omega))
        rw [show U (rg (gr N X)) k k k = star (gr N X) k from rfl] at q2 q3
        rw [U_step gr_symm hpk, rq_raw (x := U (rg (gr N X)) k j j)] at q3
        have d1 := Ul_get (g := gr N X) (i := j) hkj'
        have d3 := Sl_get (g := gr N X) hkj'
        have w2 : IntKind.i64.wrap ((k : Int) + 1) = ((k + 1 : Nat) : Int) := by rw [IntWalk.i64_in _ (by omega)]; omega
        simp only [SA, setCells, Int.reduceLE, Int.reduceLT, ↓reduceIte, reduceCtorEq, Nat.reduceLT, Nat.reduceEqDiff, Nat.reduceAdd, Nat.reduceMul, Nat.reduceLeDiff, Nat.reduceBEq, hkj, e1, eS, ec, bsz, cr, hkj', d1, d3, subPV_rq, rq_cells, kz1 q1, kz2 q2, kz2 q3, Int.natCast_nonneg, Int.toNat_natCast]
        rw [r_nilx]
        refine ⟨by rfl, ?_⟩
        simp only [SA, setCells, Int.reduceLE, Int.reduceLT, ↓reduceIte, reduceCtorEq, Nat.reduceLT, Nat.reduceEqDiff, Nat.reduceAdd, Nat.reduceMul, Nat.reduceLeDiff, Nat.reduceBEq, w2]
        refine ih3 (k + 1) _ (by omega) (by omega) ?_
        rfl
      · obtain rfl : k = j := by omega
        obtain ⟨ρ, hρ⟩ : ∃ ρ, ρ = τ ++ [.kblk 4 (cr (U (rg (gr N X)) k k k))] := ⟨_, rfl⟩
        have hlρ : ρ.length = τ.length + 1 := by rw [hρ, List.length_append]; rfl
        have hgc : GL ρ 4 c (Ul (gr N X) k k) := by rw [hρ]; exact hK.gc.left
        have hgM : GL ρ 1 cM (Ml (gr N X) k) := by rw [hρ]; exact hK.gM.left
        have hgS : GL ρ 4 cS (Sl (gr N X) k) := by rw [hρ]; exact hK.gS.left
        have r0 : ρ[0]? = some (.kblk 2 [.nils, .nils]) := by rw [hρ, e0]
        have r1 : ρ[1]? = some (.kblk 2 [cM, cS]) := by rw [hρ, e1]
        have r8 : ρ[τ.length]? = some (.kblk 4 (cr (U (rg (gr N X)) k k k))) := by rw [hρ, get_app0]; rfl
        rw [← hρ]
        have k79 := p79 (nuNum (x := U (rg (gr N X)) k k k) (hUr.1.sz (by rw [RL_eq]; omega)))
        by_cases hs : (U (rg (gr N X)) k k k).num.sign ≤ 0
        · have hVn := (U_sign gr_symm hpos).1 hs
          have s0 : ∀ x, (ρ.set 0 x)[0]? = some x := fun x => get_self (by omega)
          have hfM : frz1 (ρ.set 0 (.kblk 2 [cM, cS])) cM = some (.sl (Ml (gr N X) k)) := GL.frz1 (hgM.set_ne (GL.nek hgM r0))
          have hfS : frz1 (ρ.set 0 (.kblk 2 [cM, cS])) cS = some (.sl (Sl (gr N X) k)) := GL.frz1 (hgS.set_ne (GL.nek hgS r0))
          have hR := hR2 k hib hpos hVn
          rcases hgM with ⟨h, hM0⟩ | ⟨bM, h, hbM⟩ <;> subst h <;> rcases hgS with ⟨h, hS0⟩ | ⟨bS, h, hbS⟩ <;> subst h
          all_goals
            simp only [SA, setCells, Int.reduceLE, Int.reduceLT, ↓reduceIte, reduceCtorEq, Nat.reduceLT, Nat.reduceEqDiff, Nat.reduceAdd, Nat.reduceMul, Nat.reduceLeDiff, Nat.reduceBEq, hkj, cr, r0, r1, r8, kz1 k79, hs, s0]
            rw [hR]
            simp [back, backL, back1, frz, frzL, hfM, hfS, frz1_p] <;> simp only [hM0, hS0]
        · have hVp : 0 < V (gr N X) k k k := by
            rcases Int.lt_or_le 0 (V (gr N X) k k k) with h | h
            · exact h
            · exact absurd ((U_sign gr_symm hpos).2 h) hs
          have hz1 : allSz 1 [PV.sl (Ul (gr N X) k k)] = true := rfl
          have frl : frzs ρ [c] = some [.sl (Ul (gr N X) k k)] := by simp only [frzs, hgc.frz, Option.map_some]
          have kil : kills ρ [c] = nd ρ c := by simp only [kills, List.foldl_cons, List.foldl_nil, hgc.kill]
          have aMc : Apart cM c := GL.ne_sz hgM hgc (by decide)
          have aSc : Apart cS c := Apart.symm hK.ap
          have hM2 : GL (nd ρ c) 1 cM (Ml (gr N X) k) := GL.nd hgM aMc
          have hS2 : GL (nd ρ c) 4 cS (Sl (gr N X) k) := GL.nd hgS aSc
          have m6 : ((Ml (gr N X) k).length + [PV.sl (Ul (gr N X) k k)].length) * 24 ≤ 140737488355328 := by rw [Ml_len]; simp; omega
          have hMs : Ml (gr N X) k ++ [PV.sl (Ul (gr N X) k k)] = Ml (gr N X) (k + 1) := Ml_succ.symm
          have l2 : (nd ρ c).length = ρ.length := nd_len
          have l3 : (nd (nd ρ c) cM).length = ρ.length := by rw [nd_len, nd_len]
          have z1 : (nd ρ c)[1]? = some (.kblk 2 [cM, cS]) := by have := nd_get hgc r1 (τ := []); rwa [List.append_nil] at this
          have z0 : (nd ρ c)[0]? = some (.kblk 2 [.nils, .nils]) := by have := nd_get hgc r0 (τ := []); rwa [List.append_nil] at this
          have z8 : (nd ρ c)[τ.length]? = some (.kblk 4 (cr (U (rg (gr N X)) k k k))) := by have := nd_get hgc r8 (τ := []); rwa [List.append_nil] at this
          have y1 : ∀ l, (nd (nd ρ c) cM ++ l)[1]? = some (.kblk 2 [cM, cS]) := fun l => nd_get hM2 z1
          have y1s : ∀ l x, (nd (nd ρ c) cM ++ l).set 1 x = (nd (nd ρ c) cM).set 1 x ++ l := fun l x => set_left (by rw [l3]; omega)
          simp only [S1, S2, S3, S4, S5, r_idx, r_mks, S6, S7, setCells, Int.reduceLE, Int.reduceLT, ↓reduceIte, reduceCtorEq, Nat.reduceLT, Nat.reduceEqDiff, Nat.reduceAdd, Nat.reduceMul, Nat.reduceLeDiff, Nat.reduceBEq, hkj, cr, r0, r1, r8, kz1 k79, hs, frl, kil, hz1, r_app hM2 m6, Ml_len, hMs, y1, y1s, l2]
          -- the store with the new row of coefficients
          obtain ⟨μ, hμ⟩ : ∃ μ, μ = (nd (nd ρ c) cM).set 1 (.kblk 2 [.own (ρ.length + 1) 0 (k + 1), cS]) ++ [.prow 1 [.sl (Ul (gr N X) k k)], .prow 1 (Ml (gr N X) (k + 1))] := ⟨_, rfl⟩
          have hl : ((nd (nd ρ c) cM).set 1 (.kblk 2 [.own (ρ.length + 1) 0 (k + 1), cS])).length = ρ.length := by rw [List.length_set, l3]
          have x0 : (nd (nd ρ c) cM)[0]? = some (.kblk 2 [.nils, .nils]) := by have := nd_get hM2 z0 (τ := []); rwa [List.append_nil] at this
          have x8 : (nd (nd ρ c) cM)[τ.length]? = some (.kblk 4 (cr (U (rg (gr N X)) k k k))) := by have := nd_get hM2 z8 (τ := []); rwa [List.append_nil] at this
          have hS3 : GL (nd (nd ρ c) cM) 4 cS (Sl (gr N X) k) := GL.nd hS2 (GL.ne_sz hS2 hM2 (by decide))
          have x1 : (nd (nd ρ c) cM)[1]? = some (.kblk 2 [cM, cS]) := by have := y1 []; rwa [List.append_nil] at this
          have u0 : μ[0]? = some (.kblk 2 [.nils, .nils]) := by rw [hμ, get_left (by rw [hl]; omega), get_ne (by omega), x0]
          have u1 : μ[1]? = some (.kblk 2 [.own (ρ.length + 1) 0 (k + 1), cS]) := by rw [hμ, get_left (by rw [hl]; omega), get_self (by rw [l3]; omega)]
          have u8 : μ[τ.length]? = some (.kblk 4 (cr (U (rg (gr N X)) k k k))) := by rw [hμ, get_left (by rw [hl]; omega), get_ne (by omega), x8]
          have uM : GL μ 1 (.own (ρ.length + 1) 0 (k + 1)) (Ml (gr N X) (k + 1)) := by
            refine .own ?_ Ml_len.symm
            rw [hμ, List.getElem?_append_right (by rw [hl]; omega), hl, Nat.add_sub_cancel_left]; rfl
          have uS : GL μ 4 cS (Sl (gr N X) k) := by rw [hμ]; exact (hS3.set_ne (GL.nek hS3 x1)).left
          rw [← hμ]
          have lμ : 1 < μ.length := (List.getElem?_eq_some_iff.1 u1).1
          have m7 : ((Sl (gr N X) k).length + [rq (star (gr N X) k)].length) * 64 ≤ 140737488355328 := by rw [Sl_len]; simp; omega
          have hSs : Sl (gr N X) k ++ [rq (star (gr N X) k)] = Sl (gr N X) (k + 1) := Sl_succ.symm
          have hA := fun {rp rs base d l dr ks e Q s x} => r_app (rp := rp) (rs := rs) (base := base) (d := d) (l := l) (dr := dr) (ks := ks) (e := e) (Q := Q) (s := s) (x := x) uS m7
          simp only [star, rq_raw (x := U (rg (gr N X)) k k k)] at hA hSs
          have v1 : ∀ l, (nd μ cS ++ l)[1]? = some (.kblk 2 [.own (ρ.length + 1) 0 (k + 1), cS]) := fun l => nd_get uS u1
          have v1s : ∀ l x, (nd μ cS ++ l).set 1 x = (nd μ cS).set 1 x ++ l := fun l x => set_left (by rw [nd_len]; omega)
          have w1 : IntKind.i64.wrap ((k : Int) + 1) = ((k + 1 : Nat) : Int) := by rw [IntWalk.i64_in _ (by omega)]; omega
          simp only [SA, setCells, Int.reduceLE, Int.reduceLT, ↓reduceIte, reduceCtorEq, Nat.reduceLT, Nat.reduceEqDiff, Nat.reduceAdd, Nat.reduceMul, Nat.reduceLeDiff, Nat.reduceBEq, u1, u8, cr, hA, hSs, Sl_len, v1, v1s, w1]
          refine ih (k + 1, (nd μ cS).set 1 (.kblk 2 [.own (ρ.length + 1) 0 (k + 1), .own (μ.length + 1) 0 (k + 1)]) ++ [.prow 4 [rq (star (gr N X) k)], .prow 4 (Sl (gr N X) (k + 1))], .own (ρ.length + 1) 0 (k + 1), .own (μ.length + 1) 0 (k + 1)) _
            ⟨by simp only []; omega, ?_, ?_, ?_, ?_, ?_⟩ (by simp only []; omega) ?_
          · intro t ht
            rcases Nat.lt_or_ge t k with h | h
            · exact hpos t h
            · obtain rfl : t = k := by simp only [] at ht; omega
              exact hVp
          · simp only []
            have := nd_get uS u0 (τ := [])
            rw [List.append_nil] at this
            rw [get_left (by rw [List.length_set, nd_len]; omega), get_ne (by omega), this]
          · simp only []
            rw [get_left (by rw [List.length_set, nd_len]; omega), get_self (by rw [nd_len]; omega)]
          · simp only []
            have h := GL.nd uM (GL.ne_sz uM uS (by decide))
            have h1' : (nd μ cS)[1]? = some (.kblk 2 [.own (ρ.length + 1) 0 (k + 1), cS]) := by have := v1 []; rwa [List.append_nil] at this
            exact (h.set_ne (GL.nek h h1')).left
          · simp only []
            refine .own ?_ Sl_len.symm
            rw [List.getElem?_append_right (by rw [List.length_set, nd_len]; omega), List.length_set, nd_len, Nat.add_sub_cancel_left]; rfl
          · rfl
  · obtain rfl : i = b.length := by omega
    have s0 : ∀ x, (σ.set 0 x)[0]? = some x := fun x => get_self (List.getElem?_eq_some_iff.1 h0).1
    have hfM : frz1 (σ.set 0 (.kblk 2 [cM, cS])) cM = some (.sl (Ml (gr N X) b.length)) := GL.frz1 (hM.set_ne (GL.nek hM h0))
    have hfS : frz1 (σ.set 0 (.kblk 2 [cM, cS])) cS = some (.sl (Sl (gr N X) b.length)) := GL.frz1 (hS.set_ne (GL.nek hS h0))
    have hR := hR1 hpos
    rcases hM with ⟨h, hM0⟩ | ⟨bM, h, hbM⟩ <;> subst h <;> rcases hS with ⟨h, hS0⟩ | ⟨bS, h, hbS⟩ <;> subst h
    all_goals
      simp only [SA, setCells, Int.reduceLE, Int.reduceLT, ↓reduceIte, reduceCtorEq, Nat.reduceLT, Nat.reduceEqDiff, Nat.reduceAdd, Nat.reduceMul, Nat.reduceLeDiff, Nat.reduceBEq, hin, h0, h1, s0]
      rw [hR]
      simp [back, backL, back1, frz, frzL, hfM, hfS, frz1_p] <;> simp only [hM0, hS0]
theorem p143ok (hb : Bs b N X) (hlen : b.length ≠ 0) (hp : Pos (gr N X) b.length) : Pu rp 63 [.sl b] (.tup [.p (.agg [.sl (Ml (gr N X) b.length), .sl (Sl (gr N X) b.length)]), .p (.bool true)]) :=
  p143k hb hlen _ (fun _ => rfl) fun i hi _ hV => absurd (hp i hi) (by omega)
theorem p143 (hb : Bs b N X) (hlen : b.length ≠ 0) : ∃ (G1 G2 : List PV) (ok : Bool), (ok = true ↔ Pos (gr N X) b.length) ∧ Pu rp 63 [.sl b] (.tup [.p (.agg [.sl G1, .sl G2]), .p (.bool ok)]) := by
  have key := p143k hb hlen
  by_cases hp : Pos (gr N X) b.length
  · exact ⟨_, _, true, ⟨fun _ => hp, fun _ => rfl⟩, key _ (fun _ => rfl) fun i hi _ hV => absurd (hp i hi) (by omega)⟩
  · -- the first pivot that is not above nought
    have hex : ∃ i, i < b.length ∧ Pos (gr N X) i ∧ V (gr N X) i i i ≤ 0 := by
      refine Classical.byContradiction fun hno => hp ?_
      have all : ∀ i, i ≤ b.length → Pos (gr N X) i := by
        intro i
        induction i with
        | zero => intro _ t ht; omega
        | succ i ih =>
          intro hi t ht
          rcases Nat.lt_or_ge t i with h | h
          · exact ih (by omega) t h
          · obtain rfl : t = i := by omega
            exact Int.not_le.1 fun hle => hno ⟨t, by omega, ih (by omega), hle⟩
      exact all _ (Nat.le_refl _)
    obtain ⟨i0, h1, h2, h3⟩ := hex
    refine ⟨Ml (gr N X) i0, Sl (gr N X) i0, false, ⟨(fun h => absurd h (by decide)), fun h => absurd h hp⟩, key _ (fun h => absurd h hp) fun i hi hpi hV => ?_⟩
    have : i = i0 := by
      rcases Nat.lt_trichotomy i i0 with h | h | h
      · have := h2 i h; omega
      · exact h
      · have := hpi i0 h; omega
    rw [this]
theorem rp110 : rp 26 = some f26 := rfl
theorem rp61 : rp 8 = some f8 := rfl
theorem p110ok {n : Nat → Nat} (hb : MR b n X) (hlb : b.length ≤ 2000000) (hv : vE n X b.length = 0) : Pu rp 26 [.sl b, .bool true] (.tup [.p (.agg [.sl (Ml (gr (n 0) X) b.length), .sl (Sl (gr (n 0) X) b.length)]), .p (.int .i64 0)]) := by
  have k142 := p142 hb hlb
  have he : shE n X b.length = 0 := by
    refine Classical.byContradiction fun h => ?_
    rw [vE, if_pos h] at hv
    exact h hv
  have hp : Pos (gr (n 0) X) b.length := by
    refine Classical.byContradiction fun h => ?_
    rw [vE, if_neg (by simp [he]), if_neg h] at hv
    cases hv
  obtain ⟨-, h0, -⟩ := shE_zero he
  have k143 := p143ok (hb.bs he) h0 hp
  have e0 : (shE n X b.length != 0) = false := by rw [he]; rfl
  refine pu_of rp110 ?_
  simp only [f26, args0, SA, setCells, Int.reduceLE, Int.reduceLT, ↓reduceIte, reduceCtorEq, Nat.reduceLT, Nat.reduceEqDiff, Nat.reduceAdd, Nat.reduceMul, Nat.reduceLeDiff, Nat.reduceBEq, kp2 k142, e0, kp1 k143, unV, Bool.not_true]
  rfl
theorem p61 {n : Nat → Nat} (hb : MR b n X) (hlb : b.length ≤ 2000000) : Pu rp 8 [.sl b] (.p (.int .i64 (vE n X b.length))) := by
  have k142 := p142 hb hlb
  have key : ∃ g1 g2, Pu rp 26 [.sl b, .bool true] (.tup [.p (.agg [g1, g2]), .p (.int .i64 (vE n X b.length))]) := by
    by_cases he : shE n X b.length = 0
    · have hbs := hb.bs he
      obtain ⟨-, h0, -⟩ := shE_zero he
      obtain ⟨G1, G2, ok, hok, k143⟩ := p143 hbs h0
      have e0 : (shE n X b.length != 0) = false := by rw [he]; rfl
      cases ok with
      | true =>
        refine ⟨.sl G1, .sl G2, pu_of rp110 ?_⟩
        rw [vE, if_neg (by simp [he]), if_pos (hok.1 rfl)]
        simp only [f26, args0, SA, setCells, Int.reduceLE, Int.reduceLT, ↓reduceIte, reduceCtorEq, Nat.reduceLT, Nat.reduceEqDiff, Nat.reduceAdd, Nat.reduceMul, Nat.reduceLeDiff, Nat.reduceBEq, kp2 k142, e0, kp1 k143, unV, Bool.not_true]
        rfl
      | false =>
        refine ⟨.sl [], .sl [], pu_of rp110 ?_⟩
        rw [vE, if_neg (by simp [he]), if_neg (fun h => by have := hok.2 h; cases this)]
        simp only [f26, args0, SA, setCells, Int.reduceLE, Int.reduceLT, ↓reduceIte, reduceCtorEq, Nat.reduceLT, Nat.reduceEqDiff, Nat.reduceAdd, Nat.reduceMul, Nat.reduceLeDiff, Nat.reduceBEq, kp2 k142, e0, kp1 k143, unV, Bool.not_false]
        rfl
    · have e0 : (shE n X b.length != 0) = true := by simp [he]
      refine ⟨.sl [], .sl [], pu_of rp110 ?_⟩
      rw [vE, if_pos he]
      simp only [f26, args0, SA, setCells, Int.reduceLE, Int.reduceLT, ↓reduceIte, reduceCtorEq, Nat.reduceLT, Nat.reduceEqDiff, Nat.reduceAdd, Nat.reduceMul, Nat.reduceLeDiff, Nat.reduceBEq, kp2 k142, e0]
      rfl
  obtain ⟨g1, g2, k110⟩ := key
  refine pu_of rp61 ?_
  simp only [f8, args0, SA, setCells, Int.reduceLE, Int.reduceLT, ↓reduceIte, reduceCtorEq, Nat.reduceLT, Nat.reduceEqDiff, Nat.reduceAdd, Nat.reduceMul, Nat.reduceLeDiff, Nat.reduceBEq, kp2 k110]
  rfl
end
end Go.Proofs.YtdieenbfdeaffaaGreat.VBn
