/- Shifts by less than a limb; The next digit of a quotient; nat.Div: the simple cases; nat.Div, the general case; Whole numbers with a sign: zint; The reference's naturals: limb, most, Cmp, Add, less, Sub, Mul; The reference's naturals: less, Sub, Mul; The reference's naturals: Bits, Two, Shr, small; The reference's Div; The reference's whole numbers with a sign; The reference's rationals; Elimination in whole numbers: plain facts about determinants, no program in sight; Elimination without fractions stays whole: plain facts, no program in sight; Dot products; Shapes; gso.built; gso.Valid; The reference's frame. No condition. -/
import Derived.Test.YtdieenbfdeaffaaZb1
import Derived.Test.YtdieenbfdeaffaaZa1

namespace Go.Proofs.Ytdieenbfdeaffaa.VBn
open Go Vpi
set_option maxRecDepth 100000
set_option linter.unusedSimpArgs false
set_option linter.unusedVariables false

theorem LB_split {n : Nat} (h : n ≤ 32) : LB = 2 ^ (32 - n) * 2 ^ n := by
  rw [← Nat.pow_add, show 32 - n + n = 32 by omega]
  decide

theorem shlv {x n : Nat} (hx : x < LB) (hn : n < 32) : IntKind.u64.wrap ((x : Int) * 2 ^ min n IntKind.u64.bits) = ((x * 2 ^ n : Nat) : Int) ∧ x * 2 ^ n < 18446744073709551616 := by
  have h1 : min n IntKind.u64.bits = n := by show min n 64 = n; omega
  have h2 : x * 2 ^ n < 18446744073709551616 := by
    have h3 : 2 ^ n ≤ 2 ^ 31 := Nat.pow_le_pow_right (by decide) (by omega)
    have h4 := Nat.mul_le_mul (show x ≤ LB - 1 by omega) h3
    have h5 : (LB - 1) * 2 ^ 31 < 18446744073709551616 := by decide
    omega
  rw [h1, show (x : Int) * 2 ^ n = ((x * 2 ^ n : Nat) : Int) by push_cast; rfl]
  exact ⟨w64 h2, h2⟩

theorem or32 {h k n : Nat} (hh : h < 2 ^ n) (hs : h + k * 2 ^ n < LB) : IntKind.u32.wrap ((BitVec.ofInt IntKind.u32.bits ((h : Nat) : Int) ||| BitVec.ofInt IntKind.u32.bits ((k * 2 ^ n : Nat) : Int)).toNat : Int) = ((h + k * 2 ^ n : Nat) : Int) := by
  have h1 : (BitVec.ofInt IntKind.u32.bits ((h : Nat) : Int) ||| BitVec.ofInt IntKind.u32.bits ((k * 2 ^ n : Nat) : Int)).toNat = h + k * 2 ^ n := by
    rw [BitVec.toNat_or, BitVec.ofInt_natCast, BitVec.ofInt_natCast, BitVec.toNat_ofNat, BitVec.toNat_ofNat]
    have hb : 2 ^ IntKind.u32.bits = LB := by decide
    rw [hb, Nat.mod_eq_of_lt (by omega), Nat.mod_eq_of_lt (by omega), Nat.or_comm, or_add hh, Nat.add_comm]
  rw [h1, w32, Nat.mod_eq_of_lt hs]

/-- a limb, shifted: its two parts -/
theorem shl_parts {x n : Nat} (hx : x < LB) (hn : n < 32) : ∃ k, x * 2 ^ n % LB = k * 2 ^ n ∧ k < 2 ^ (32 - n) ∧ x * 2 ^ n / LB < 2 ^ n := by
  have hs := LB_split (n := n) (by omega)
  refine ⟨x % 2 ^ (32 - n), ?_, Nat.mod_lt _ (Nat.pow_pos (by decide)), ?_⟩
  · rw [hs, Nat.mul_mod_mul_right]
  · rw [Nat.div_lt_iff_lt_mul LB_pos, Nat.mul_comm]
    exact Nat.mul_lt_mul_of_pos_left hx (Nat.pow_pos (by decide))

/-- trim, of a block of one's own -/
theorem n144 {σ : Store} {b : Nat} {l : List Nat} (hb : σ[b]? = some (.prow 1 (lm l))) (hl : Lim l) (hn : l.length ≤ 1099511627776) {Q : CV → Store → Prop}
    (hq : ∀ k, k ≤ l.length → l.take k = dgl (val l) → Q (.own b 0 k) σ) : Rn rp 144 [.own b 0 l.length] σ Q := by
  rw [rn_of rp144]
  simp only [f144, args0, S1, S2, S3, S4, S5, r_idx, r_mks, ev, resultsV, resL, resV, vl, gt, st, sto, fgt, i64, subCV, fill, setCells, mkAgg, allP, frz, frz1, frzL, frzs, kill, kill1, killL, kills, bnd, unV, bsz, toPs, toP, isPure1, pureL, List.elem, List.replicate, Int.reduceLE, Int.reduceLT, ↓reduceIte, reduceCtorEq, Nat.reduceLT, Nat.reduceEqDiff, Nat.reduceAdd, Nat.reduceMul, Nat.reduceLeDiff, Nat.reduceBEq]
  refine bloop (β := Nat) (γ := Nat) (fun n => ([(0, .own b 0 n)], σ)) (fun n => n ≤ l.length ∧ ∀ i, n ≤ i → ∀ x, l[i]? = some x → x = 0) (fun n => n)
    (fun n => ([(0, .own b 0 n)], σ)) (fun n => n ≤ l.length ∧ trimL l = l.take n) l.length rfl rfl ⟨Nat.le_refl _, fun i hi x hx => ?_⟩ ?_ ?_
  · rw [List.getElem?_eq_none hi] at hx; cases hx
  · rintro ks' n ⟨hnl, hz⟩ ih hx
    by_cases h0 : (n : Int) > 0
    · obtain ⟨m, rfl⟩ : ∃ m, n = m + 1 := ⟨n - 1, by omega⟩
      have hm : m < l.length := hnl
      have hmm : m < m + 1 := Nat.lt_succ_self _
      have hi : IntKind.i64.wrap (((m + 1 : Nat) : Int) - 1) = (m : Int) := by rw [IntWalk.i64_in _ (by omega)]; omega
      have hg := lm_get hm
      have hs : sliceV σ 1 (.own b 0 (m + 1)) 0 m = some (.own b 0 m) := by
        simp [sliceV, bsz, hb]
      by_cases hx0 : l[m] = 0
      · have e1 : (((l[m] : Nat) : Int) == 0) = true := by simp [hx0]
        simp only [S1, S2, S3, S4, S5, r_idx, r_mks, ev, resultsV, resL, resV, vl, gt, st, sto, fgt, i64, subCV, fill, setCells, mkAgg, allP, frz, frz1, frzL, frzs, kill, kill1, killL, kills, bnd, unV, bsz, toPs, toP, isPure1, pureL, List.elem, List.replicate, Int.reduceLE, Int.reduceLT, ↓reduceIte, reduceCtorEq, Nat.reduceLT, Nat.reduceEqDiff, Nat.reduceAdd, Nat.reduceMul, Nat.reduceLeDiff, Nat.reduceBEq, h0, hi, Int.natCast_nonneg, Int.toNat_natCast, hmm, hb, hg, e1, hs]
        refine ih m _ ⟨by omega, fun i hi x hx => ?_⟩ (by omega) ?_
        · rcases Nat.lt_or_ge m i with h1 | h1
          · exact hz i h1 x hx
          · obtain rfl : i = m := by omega
            rw [List.getElem?_eq_getElem hm] at hx
            cases hx
            exact hx0
        · rfl
      · have e1 : (((l[m] : Nat) : Int) == 0) = false := by simp [hx0]
        simp only [S1, S2, S3, S4, S5, r_idx, r_mks, ev, resultsV, resL, resV, vl, gt, st, sto, fgt, i64, subCV, fill, setCells, mkAgg, allP, frz, frz1, frzL, frzs, kill, kill1, killL, kills, bnd, unV, bsz, toPs, toP, isPure1, pureL, List.elem, List.replicate, Int.reduceLE, Int.reduceLT, ↓reduceIte, reduceCtorEq, Nat.reduceLT, Nat.reduceEqDiff, Nat.reduceAdd, Nat.reduceMul, Nat.reduceLeDiff, Nat.reduceBEq, h0, hi, Int.natCast_nonneg, Int.toNat_natCast, hmm, hb, hg, e1]
        refine hx (m + 1) _ ⟨hnl, trimL_take hz (.inr ⟨l[m], by simp, hx0⟩)⟩ ?_
        rfl
    · simp only [S1, S2, S3, S4, S5, r_idx, r_mks, ev, resultsV, resL, resV, vl, gt, st, sto, fgt, i64, subCV, fill, setCells, mkAgg, allP, frz, frz1, frzL, frzs, kill, kill1, killL, kills, bnd, unV, bsz, toPs, toP, isPure1, pureL, List.elem, List.replicate, Int.reduceLE, Int.reduceLT, ↓reduceIte, reduceCtorEq, Nat.reduceLT, Nat.reduceEqDiff, Nat.reduceAdd, Nat.reduceMul, Nat.reduceLeDiff, Nat.reduceBEq, h0]
      obtain rfl : n = 0 := by omega
      refine hx 0 _ ⟨Nat.zero_le _, trimL_take hz (.inl rfl)⟩ ?_
      rfl
  · rintro n ⟨hnl, ht⟩
    simp only [S1, S2, S3, S4, S5, r_idx, r_mks, ev, resultsV, resL, resV, vl, gt, st, sto, fgt, i64, subCV, fill, setCells, mkAgg, allP, frz, frz1, frzL, frzs, kill, kill1, killL, kills, bnd, unV, bsz, toPs, toP, isPure1, pureL, List.elem, List.replicate, Int.reduceLE, Int.reduceLT, ↓reduceIte, reduceCtorEq, Nat.reduceLT, Nat.reduceEqDiff, Nat.reduceAdd, Nat.reduceMul, Nat.reduceLeDiff, Nat.reduceBEq]
    exact hq n hnl (by rw [← trimL_dgl hl, ht])

theorem n186 {a : List Nat} {n : Nat} (ha : Lim a) (hna : a.length ≤ 500000000000) (hn : n < 32) (hz : val a ≠ 0) {σ : Store} (hwf : Wf σ) {Q : CV → Store → Prop}
    (hq : ∀ L k, Lim L → k ≤ L.length → L.length ≤ 500000000001 → L.take k = dgl (val a * 2 ^ n) → Wf (σ ++ [.prow 1 (lm L)]) → Q (.own σ.length 0 k) (σ ++ [.prow 1 (lm L)])) : Rn rp 186 [.p (.sl (lm a)), .p (.int .i64 (n : Int))] σ Q := by
  rw [rn_of rp186]
  obtain ⟨x, hxd⟩ : ∃ x, x = dgl (val a) := ⟨_, rfl⟩
  have k1 : Pu rp 144 [.sl (lm a)] (.p (.sl (lm x))) := by rw [hxd]; exact p144 ha (by omega)
  have hx : Lim x := by rw [hxd]; exact dgl_lim _
  have hlx : x.length ≤ 500000000000 := by rw [hxd]; exact Nat.le_trans (dgl_len (val_lt ha)) hna
  have hva : val a = val x := by rw [hxd, val_dgl]
  rw [hva] at hq hz
  clear hxd hva
  have h0 : x.length ≠ 0 := by
    intro h
    rw [List.eq_nil_of_length_eq_zero h] at hz
    exact hz rfl
  have e0 : ((x.length : Int) == 0) = false := by rw [beq_eq_false_iff_ne]; omega
  have e1 : IntKind.i64.wrap ((n : Int).tdiv 32) = 0 := by
    have : (n : Int).tdiv 32 = 0 := by rw [Int.tdiv_eq_ediv_of_nonneg (by omega)]; omega
    rw [this]; decide
  have e2 : (n : Int).tmod 32 = (n : Int) := by rw [Int.tmod_eq_emod_of_nonneg (by omega)]; omega
  have e3 : IntKind.u64.wrap (n : Int) = (n : Int) := w64 (by omega)
  have e4 : IntKind.i64.wrap ((x.length : Int) + 0) = (x.length : Int) := by rw [IntWalk.i64_in _ (by omega)]; omega
  have e5 : IntKind.i64.wrap ((x.length : Int) + 1) = ((x.length + 1 : Nat) : Int) := by rw [IntWalk.i64_in _ (by omega)]; omega
  have m1 : ((4 : Nat) : Int) * ((x.length + 1 : Nat) : Int) ≤ 281474976710656 := by omega
  have m2 : ((x.length + 1 : Nat) : Int) ≤ 9223372036854775807 := by omega
  simp only [f186, args0, S1, S2, S3, S4, S5, r_idx, r_mks, ev, resultsV, resL, resV, vl, gt, st, sto, fgt, i64, subCV, fill, setCells, mkAgg, allP, frz, frz1, frzL, frzs, kill, kill1, killL, kills, bnd, unV, bsz, toPs, toP, isPure1, pureL, List.elem, List.replicate, Int.reduceLE, Int.reduceLT, ↓reduceIte, reduceCtorEq, Nat.reduceLT, Nat.reduceEqDiff, Nat.reduceAdd, Nat.reduceMul, Nat.reduceLeDiff, Nat.reduceBEq, kp1 k1, lm_len, e0, e1, e2, e3, e4, e5, m1, m2, binV_quo (b := 32) (by decide), binV_rem (b := 32) (by decide), Int.natCast_nonneg, Int.toNat_natCast, Int.le_refl, lm_rep]
  refine loop_rule (β := Nat × List Nat × Nat) (fun t => ([(0, .p (.sl (lm x))), (5, .p (.int .i64 0)), (6, .p (.int .u64 (n : Int))), (7, .own σ.length 0 (x.length + 1)), (27, i64 x.length), (28, i64 t.1)], σ ++ [.prow 1 (lm (t.2.1 ++ t.2.2 :: List.replicate (x.length - t.1) 0))]))
    (fun t => t.1 ≤ x.length ∧ t.2.1.length = t.1 ∧ Lim t.2.1 ∧ t.2.2 < 2 ^ n ∧ val t.2.1 + LB ^ t.1 * t.2.2 = val (x.take t.1) * 2 ^ n) (fun t => x.length - t.1) ((0, [], 0) : Nat × List Nat × Nat) rfl rfl ⟨Nat.zero_le _, rfl, (fun _ hx => nomatch hx), Nat.pow_pos (by decide), by simp [val]⟩ ?_
  rintro ⟨i, o, h⟩ ⟨hi, ho, hlo, hh, hv⟩ ih
  simp only [] at hi ho hlo hh hv ih ⊢
  by_cases hin : (i : Int) < x.length
  · have hix : i < x.length := by omega
    have hil : i < x.length + 1 := by omega
    have hil2 : i + 1 < x.length + 1 := by omega
    obtain ⟨sv, sb⟩ := shlv (hx.get hix) hn
    obtain ⟨k, hk1, hk2, hk3⟩ := shl_parts (hx.get hix) hn
    have hPL : 2 ^ n ≤ LB := by rw [LB_split (n := n) (by omega)]; exact Nat.le_mul_of_pos_left _ (Nat.pow_pos (by decide))
    have hsum : h + k * 2 ^ n < LB := by
      have h6 : (k + 1) * 2 ^ n ≤ 2 ^ (32 - n) * 2 ^ n := Nat.mul_le_mul_right _ hk2
      rw [← LB_split (n := n) (by omega), Nat.add_mul, Nat.one_mul] at h6
      omega
    have hor := or32 hh hsum
    have hdm : x[i] * 2 ^ n / LB % LB = x[i] * 2 ^ n / LB := Nat.mod_eq_of_lt (by omega)
    have hg1 : (lm (o ++ h :: List.replicate (x.length - i) 0))[i]? = some (.int .u32 (h : Nat)) := by
      have : (o ++ h :: List.replicate (x.length - i) 0)[i]? = some h := by rw [List.getElem?_append_right (by omega), ho, Nat.sub_self]; rfl
      exact lm_get? this
    have hs1 : ∀ v, (o ++ h :: List.replicate (x.length - i) 0).set i v = o ++ v :: List.replicate (x.length - i) 0 := by
      intro v
      rw [List.set_append_right _ _ (by omega), ho, Nat.sub_self]
      rfl
    have hrp : List.replicate (x.length - i) 0 = 0 :: List.replicate (x.length - (i + 1)) 0 := by
      rw [show x.length - i = (x.length - (i + 1)) + 1 by omega]; rfl
    have hg2 : ∀ v, (lm (o ++ v :: List.replicate (x.length - i) 0))[i + 1]? = some (.int .u32 0) := by
      intro v
      have : (o ++ v :: List.replicate (x.length - i) 0)[i + 1]? = some 0 := by rw [List.getElem?_append_right (by omega), ho, hrp, show i + 1 - i = 1 by omega]; rfl
      exact lm_get? this
    have hs2 : ∀ v u, (o ++ v :: List.replicate (x.length - i) 0).set (i + 1) u = (o ++ [v]) ++ u :: List.replicate (x.length - (i + 1)) 0 := by
      intro v u
      rw [List.set_append_right _ _ (by omega), ho, hrp, show i + 1 - i = 1 by omega, List.append_assoc]
      rfl
    have e6 : IntKind.i64.wrap ((i : Int) + 0) = (i : Int) := by rw [IntWalk.i64_in _ (by omega)]; omega
    have e7 : IntKind.i64.wrap ((i : Int) + 1) = ((i + 1 : Nat) : Int) := by rw [IntWalk.i64_in _ (by omega)]; omega
    simp only [S1, S2, S3, S4, S5, r_idx, r_mks, ev, resultsV, resL, resV, vl, gt, st, sto, fgt, i64, subCV, fill, setCells, mkAgg, allP, frz, frz1, frzL, frzs, kill, kill1, killL, kills, bnd, unV, bsz, toPs, toP, isPure1, pureL, List.elem, List.replicate, Int.reduceLE, Int.reduceLT, ↓reduceIte, reduceCtorEq, Nat.reduceLT, Nat.reduceEqDiff, Nat.reduceAdd, Nat.reduceMul, Nat.reduceLeDiff, Nat.reduceBEq, lm_len, hin, lm_get hix, w64l (hx.get hix), sv, w32, hk1, hor, sh32, hdm, e6, e7, Int.natCast_nonneg, Int.toNat_natCast, hil, hil2, hg1, hg2, lm_set, hs1]
    have hs2' := hs2 (h + k * 2 ^ n) (x[i] * 2 ^ n / LB)
    rw [hs2']
    refine ih (i + 1, o ++ [h + k * 2 ^ n], x[i] * 2 ^ n / LB) _ ⟨by omega, by simp [ho], hlo.append (.one hsum), hk3, ?_⟩ (by simp; omega) ?_
    · rw [val_append, ho, val_one, val_take_succ hix, Nat.add_mul, ← hv]
      have h7 := Nat.mod_add_div (x[i] * 2 ^ n) LB
      rw [hk1] at h7
      have h8 : LB ^ i * (k * 2 ^ n) + LB ^ (i + 1) * (x[i] * 2 ^ n / LB) = LB ^ i * x[i] * 2 ^ n := by
        rw [Nat.pow_succ, Nat.mul_assoc (LB ^ i) LB, ← Nat.mul_add, h7, Nat.mul_assoc]
      rw [Nat.mul_add]
      show val o + (LB ^ i * h + LB ^ i * (k * 2 ^ n)) + LB ^ (i + 1) * (x[i] * 2 ^ n / LB) = _
      omega
    · rfl
  · obtain rfl : i = x.length := by omega
    have hPL : 2 ^ n ≤ LB := by rw [LB_split (n := n) (by omega)]; exact Nat.le_mul_of_pos_left _ (Nat.pow_pos (by decide))
    have hfin : o ++ h :: List.replicate (x.length - x.length) 0 = o ++ [h] := by simp
    have hval : val (o ++ [h]) = val x * 2 ^ n := by rw [val_append, val_one, ho, hv, List.take_length]
    have hL : Lim (o ++ [h]) := hlo.append (.one (show h < LB by omega))
    rw [hfin]
    simp only [S1, S2, S3, S4, S5, r_idx, r_mks, ev, resultsV, resL, resV, vl, gt, st, sto, fgt, i64, subCV, fill, setCells, mkAgg, allP, frz, frz1, frzL, frzs, kill, kill1, killL, kills, bnd, unV, bsz, toPs, toP, isPure1, pureL, List.elem, List.replicate, Int.reduceLE, Int.reduceLT, ↓reduceIte, reduceCtorEq, Nat.reduceLT, Nat.reduceEqDiff, Nat.reduceAdd, Nat.reduceMul, Nat.reduceLeDiff, Nat.reduceBEq, lm_len, hin]
    have hlen : (o ++ [h]).length = x.length + 1 := by simp [ho]
    refine kc_keep' ?_
    rw [← hlen]
    refine n144 (by rw [get_app0]; rfl) hL (by omega) fun k hk ht => ?_
    simp only [S1, S2, S3, S4, S5, r_idx, r_mks, ev, resultsV, resL, resV, vl, gt, st, sto, fgt, i64, subCV, fill, setCells, mkAgg, allP, frz, frz1, frzL, frzs, kill, kill1, killL, kills, bnd, unV, bsz, toPs, toP, isPure1, pureL, List.elem, List.replicate, Int.reduceLE, Int.reduceLT, ↓reduceIte, reduceCtorEq, Nat.reduceLT, Nat.reduceEqDiff, Nat.reduceAdd, Nat.reduceMul, Nat.reduceLeDiff, Nat.reduceBEq]
    exact hq _ k hL hk (by omega) (by rw [ht, hval]) (hwf.push rfl)

theorem p186 {a : List Nat} {n : Nat} (ha : Lim a) (hna : a.length ≤ 500000000000) (hn : n < 32) (hz : val a ≠ 0) : Pu rp 186 [.sl (lm a), .int .i64 (n : Int)] (.p (.sl (lm (dgl (val a * 2 ^ n))))) := by
  unfold Pu
  refine n186 ha hna hn hz Wf.nil fun L k hL hk hl ht hw => ?_
  have hf : frz1 [.prow 1 (lm L)] (.own 0 0 k) = some (.sl (lm (dgl (val a * 2 ^ n)))) := by
    simp [frz1, lm_len, hk, lm_take, ht]
  simp only [List.nil_append, List.length_nil, back, back1, Nat.not_lt_zero, if_false, hf, Option.map_some]

theorem shr_next {x0 W n : Nat} (hx : x0 < LB) (hn : n ≤ 32) : ∃ d, (x0 + LB * (W % LB)) / 2 ^ n % LB = d ∧ d < LB ∧ (x0 + LB * W) / 2 ^ n = d + LB * (W / 2 ^ n) := by
  have hs := LB_split hn
  have hP : 0 < 2 ^ n := Nat.pow_pos (by decide)
  generalize 2 ^ (32 - n) = M at hs
  generalize 2 ^ n = P at hs hP ⊢
  have hM : 0 < M := by
    rcases Nat.eq_zero_or_pos M with h | h
    · rw [h, Nat.zero_mul] at hs; have := LB_pos; omega
    · exact h
  have hx0 : x0 / P < M := by rw [Nat.div_lt_iff_lt_mul hP, ← hs]; exact hx
  -- the quotient of x0 + LB * V
  have hq : ∀ V, (x0 + LB * V) / P = x0 / P + M * V := by
    intro V
    rw [hs, show M * P * V = P * (M * V) by rw [Nat.mul_comm M P, Nat.mul_assoc], Nat.add_mul_div_left _ _ hP]
  have hWm : W % LB % P = W % P := by rw [hs]; exact Nat.mod_mul_left_mod W M P
  refine ⟨x0 / P + M * (W % P), ?_, ?_, ?_⟩
  · rw [hq]
    have h1 : M * (W % LB) = M * (W % P) + LB * (W % LB / P) := by
      have := Nat.mod_add_div (W % LB) P
      rw [hWm] at this
      calc M * (W % LB) = M * (W % P + P * (W % LB / P)) := by rw [this]
        _ = M * (W % P) + LB * (W % LB / P) := by rw [Nat.mul_add, hs, Nat.mul_assoc]
    rw [h1, ← Nat.add_assoc, Nat.add_mul_mod_self_left]
    refine Nat.mod_eq_of_lt ?_
    have h2 : W % P + 1 ≤ P := Nat.mod_lt _ hP
    have h3 := Nat.mul_le_mul_left M h2
    rw [Nat.mul_add, Nat.mul_one, ← hs] at h3
    omega
  · have h2 : W % P + 1 ≤ P := Nat.mod_lt _ hP
    have h3 := Nat.mul_le_mul_left M h2
    rw [Nat.mul_add, Nat.mul_one, ← hs] at h3
    omega
  · rw [hq]
    have := Nat.mod_add_div W P
    calc x0 / P + M * W = x0 / P + M * (W % P + P * (W / P)) := by rw [this]
      _ = x0 / P + M * (W % P) + LB * (W / P) := by rw [Nat.mul_add, hs, Nat.mul_assoc, Nat.add_assoc]

theorem shrv {v n : Nat} (hn : n < 32) : ((v : Int).fdiv (2 ^ min n IntKind.u64.bits)) = ((v / 2 ^ n : Nat) : Int) := by
  have h1 : min n IntKind.u64.bits = n := by show min n 64 = n; omega
  rw [h1, Int.fdiv_eq_ediv_of_nonneg _ (Int.le_of_lt (Int.pow_pos (by decide))), show (2 : Int) ^ n = ((2 ^ n : Nat) : Int) by push_cast; rfl]
  rfl

theorem or64' {x y : Nat} (hy : y < LB) (hx : x < LB) : IntKind.u64.wrap ((BitVec.ofInt IntKind.u64.bits ((y : Nat) : Int) ||| BitVec.ofInt IntKind.u64.bits ((x * LB : Nat) : Int)).toNat : Int) = ((y + LB * x : Nat) : Int) := by
  have h := or64 (x := x) hy (by
    have := Nat.mul_le_mul_right LB (show x ≤ LB - 1 by omega)
    rw [show (LB - 1) * LB = 18446744069414584320 by decide] at this
    unfold LB at *
    omega)
  rw [BitVec.or_comm, h, Nat.mul_comm, Nat.add_comm]

theorem drop_mod {x : List Nat} (hx : Lim x) {i : Nat} : val (x.drop i) % LB = lg x i := by
  rcases Nat.lt_or_ge i x.length with h | h
  · rw [List.drop_eq_getElem_cons h, val, lg_in h, Nat.add_mul_mod_self_left, Nat.mod_eq_of_lt (hx.get h)]
  · rw [List.drop_of_length_le h, lg_out h]; rfl

theorem p188 {a : List Nat} {n : Nat} (ha : Lim a) (hna : a.length ≤ 500000000000) (hn : n < 32) : Pu rp 188 [.sl (lm a), .int .i64 (n : Int)] (.p (.sl (lm (dgl (val a / 2 ^ n))))) := by
  refine pu_of rp188 ?_
  obtain ⟨x, hxd⟩ : ∃ x, x = dgl (val a) := ⟨_, rfl⟩
  have k1 : Pu rp 144 [.sl (lm a)] (.p (.sl (lm x))) := by rw [hxd]; exact p144 ha (by omega)
  have hx : Lim x := by rw [hxd]; exact dgl_lim _
  have hlx : x.length ≤ 500000000000 := by rw [hxd]; exact Nat.le_trans (dgl_len (val_lt ha)) hna
  have hva : val a = val x := by rw [hxd, val_dgl]
  rw [hva]
  clear hxd hva
  have e1 : IntKind.i64.wrap ((n : Int).tdiv 32) = 0 := by
    have : (n : Int).tdiv 32 = 0 := by rw [Int.tdiv_eq_ediv_of_nonneg (by omega)]; omega
    rw [this]; decide
  have e2 : (n : Int).tmod 32 = (n : Int) := by rw [Int.tmod_eq_emod_of_nonneg (by omega)]; omega
  have e3 : IntKind.u64.wrap (n : Int) = (n : Int) := w64 (by omega)
  by_cases h0 : (0 : Int) ≥ x.length
  · have h00 : x = [] := List.eq_nil_of_length_eq_zero (by omega)
    subst h00
    simp only [f188, args0, S1, S2, S3, S4, S5, r_idx, r_mks, ev, resultsV, resL, resV, vl, gt, st, sto, fgt, i64, subCV, fill, setCells, mkAgg, allP, frz, frz1, frzL, frzs, kill, kill1, killL, kills, bnd, unV, bsz, toPs, toP, isPure1, pureL, List.elem, List.replicate, Int.reduceLE, Int.reduceLT, ↓reduceIte, reduceCtorEq, Nat.reduceLT, Nat.reduceEqDiff, Nat.reduceAdd, Nat.reduceMul, Nat.reduceLeDiff, Nat.reduceBEq, kp1 k1, lm_len, e1, e2, e3, binV_quo (b := 32) (by decide), binV_rem (b := 32) (by decide), h0]
    rw [val, Nat.zero_div, dgl_zero]
    rfl
  have e4 : IntKind.i64.wrap ((x.length : Int) - 0) = (x.length : Int) := by rw [IntWalk.i64_in _ (by omega)]; omega
  have m1 : ((4 : Nat) : Int) * (x.length : Int) ≤ 281474976710656 := by omega
  have m2 : (x.length : Int) ≤ 9223372036854775807 := by omega
  simp only [f188, args0, S1, S2, S3, S4, S5, r_idx, r_mks, ev, resultsV, resL, resV, vl, gt, st, sto, fgt, i64, subCV, fill, setCells, mkAgg, allP, frz, frz1, frzL, frzs, kill, kill1, killL, kills, bnd, unV, bsz, toPs, toP, isPure1, pureL, List.elem, List.replicate, Int.reduceLE, Int.reduceLT, ↓reduceIte, reduceCtorEq, Nat.reduceLT, Nat.reduceEqDiff, Nat.reduceAdd, Nat.reduceMul, Nat.reduceLeDiff, Nat.reduceBEq, kp1 k1, lm_len, h0, e1, e2, e3, e4, m1, m2, binV_quo (b := 32) (by decide), binV_rem (b := 32) (by decide), Int.natCast_nonneg, Int.toNat_natCast, Int.le_refl, lm_rep]
  refine loop_rule (β := Nat × List Nat) (fun t => ([(0, .p (.sl (lm x))), (5, .p (.int .i64 0)), (6, .p (.int .u64 (n : Int))), (7, .own 0 0 x.length), (27, i64 x.length), (28, i64 t.1)], [.prow 1 (lm (t.2 ++ List.replicate (x.length - t.1) 0))]))
    (fun t => t.1 ≤ x.length ∧ t.2.length = t.1 ∧ Lim t.2 ∧ val t.2 + LB ^ t.1 * (val (x.drop t.1) / 2 ^ n) = val x / 2 ^ n) (fun t => x.length - t.1) ((0, []) : Nat × List Nat) rfl rfl ⟨Nat.zero_le _, rfl, (fun _ hx => nomatch hx), by simp [val]⟩ ?_
  rintro ⟨i, o⟩ ⟨hi, ho, hlo, hv⟩ ih
  simp only [] at hi ho hlo hv ih ⊢
  by_cases hin : (i : Int) < x.length
  · have hix : i < x.length := by omega
    obtain ⟨d, hd1, hd2, hd3⟩ := shr_next (W := val (x.drop (i + 1))) (hx.get hix) (show n ≤ 32 by omega)
    rw [drop_mod hx] at hd1
    have hget : (lm (o ++ List.replicate (x.length - i) 0))[i]? = some (.int .u32 0) := by
      have : (o ++ List.replicate (x.length - i) 0)[i]? = some 0 := by rw [show x.length - i = (x.length - i - 1) + 1 by omega, List.getElem?_append_right (by omega), ho, Nat.sub_self]; rfl
      exact lm_get? this
    have hset : ∀ v, (o ++ List.replicate (x.length - i) 0).set i v = o ++ v :: List.replicate (x.length - (i + 1)) 0 := by
      intro v
      rw [show x.length - i = (x.length - (i + 1)) + 1 by omega, ← ho, set_next, List.append_assoc]
      rfl
    have hfold : ∀ v, o ++ v :: List.replicate (x.length - (i + 1)) 0 = (o ++ [v]) ++ List.replicate (x.length - (i + 1)) 0 := by
      intro v
      rw [List.append_assoc]
      rfl
    have hnew : val (o ++ [d]) + LB ^ (i + 1) * (val (x.drop (i + 1)) / 2 ^ n) = val x / 2 ^ n := by
      rw [List.drop_eq_getElem_cons hix, val, hd3] at hv
      rw [val_append, ho, val_one, ← hv, Nat.pow_succ, Nat.mul_add, Nat.mul_assoc]
      omega
    have e6 : IntKind.i64.wrap ((i : Int) + 0) = (i : Int) := by rw [IntWalk.i64_in _ (by omega)]; omega
    have e7 : IntKind.i64.wrap ((i : Int) + 1) = ((i + 1 : Nat) : Int) := by rw [IntWalk.i64_in _ (by omega)]; omega
    by_cases hi1 : ((i + 1 : Nat) : Int) < x.length
    · have hix1 : i + 1 < x.length := by omega
      rw [lg_in hix1] at hd1
      simp only [S1, S2, S3, S4, S5, r_idx, r_mks, ev, resultsV, resL, resV, vl, gt, st, sto, fgt, i64, subCV, fill, setCells, mkAgg, allP, frz, frz1, frzL, frzs, kill, kill1, killL, kills, bnd, unV, bsz, toPs, toP, isPure1, pureL, List.elem, List.replicate, Int.reduceLE, Int.reduceLT, ↓reduceIte, reduceCtorEq, Nat.reduceLT, Nat.reduceEqDiff, Nat.reduceAdd, Nat.reduceMul, Nat.reduceLeDiff, Nat.reduceBEq, lm_len, hin, lm_get hix, lm_get hix1, w64l (hx.get hix), w64l (hx.get hix1), e6, e7, hi1, shl32 (hx.get hix1), or64' (hx.get hix) (hx.get hix1), shrv hn, w32, hd1, Int.natCast_nonneg, Int.toNat_natCast, hix, hget, lm_set, hset]
      rw [hfold]
      refine ih (i + 1, o ++ [d]) _ ⟨by omega, by simp [ho], hlo.append (.one hd2), hnew⟩ (by simp; omega) ?_
      rfl
    · rw [lg_out (by omega), Nat.mul_zero, Nat.add_zero] at hd1
      simp only [S1, S2, S3, S4, S5, r_idx, r_mks, ev, resultsV, resL, resV, vl, gt, st, sto, fgt, i64, subCV, fill, setCells, mkAgg, allP, frz, frz1, frzL, frzs, kill, kill1, killL, kills, bnd, unV, bsz, toPs, toP, isPure1, pureL, List.elem, List.replicate, Int.reduceLE, Int.reduceLT, ↓reduceIte, reduceCtorEq, Nat.reduceLT, Nat.reduceEqDiff, Nat.reduceAdd, Nat.reduceMul, Nat.reduceLeDiff, Nat.reduceBEq, lm_len, hin, lm_get hix, w64l (hx.get hix), e6, e7, hi1, shrv hn, w32, hd1, Int.natCast_nonneg, Int.toNat_natCast, hix, hget, lm_set, hset]
      rw [hfold]
      refine ih (i + 1, o ++ [d]) _ ⟨by omega, by simp [ho], hlo.append (.one hd2), hnew⟩ (by simp; omega) ?_
      rfl
  · obtain rfl : i = x.length := by omega
    have hval : val o = val x / 2 ^ n := by
      rw [List.drop_length, val, Nat.zero_div, Nat.mul_zero, Nat.add_zero] at hv
      exact hv
    have htr := p144 hlo (by omega)
    rw [hval] at htr
    have hfin : o ++ List.replicate (x.length - x.length) 0 = o := by simp
    rw [hfin]
    simp only [S1, S2, S3, S4, S5, r_idx, r_mks, ev, resultsV, resL, resV, vl, gt, st, sto, fgt, i64, subCV, fill, setCells, mkAgg, allP, frz, frz1, frzL, frzs, kill, kill1, killL, kills, bnd, unV, bsz, toPs, toP, isPure1, pureL, List.elem, List.replicate, Int.reduceLE, Int.reduceLT, ↓reduceIte, reduceCtorEq, Nat.reduceLT, Nat.reduceEqDiff, Nat.reduceAdd, Nat.reduceMul, Nat.reduceLeDiff, Nat.reduceBEq, lm_len, hin]
    rw [kf_own htr rfl (by rw [lm_len, ho])]
    simp only [S1, S2, S3, S4, S5, r_idx, r_mks, ev, resultsV, resL, resV, vl, gt, st, sto, fgt, i64, subCV, fill, setCells, mkAgg, allP, frz, frz1, frzL, frzs, kill, kill1, killL, kills, bnd, unV, bsz, toPs, toP, isPure1, pureL, List.elem, List.replicate, Int.reduceLE, Int.reduceLT, ↓reduceIte, reduceCtorEq, Nat.reduceLT, Nat.reduceEqDiff, Nat.reduceAdd, Nat.reduceMul, Nat.reduceLeDiff, Nat.reduceBEq]
    rfl
end Go.Proofs.Ytdieenbfdeaffaa.VBn

namespace Go.Proofs.Ytdieenbfdeaffaa.VBn
open Go Vpi
set_option maxRecDepth 100000
set_option linter.unusedSimpArgs false
set_option linter.unusedVariables false

theorem rp187 : rp 187 = some f187 := rfl

theorem subStep' {x y w : Nat} (hx : x < LB) (hy : y < LB) (hw : w ≤ 1) : ∃ r w' : Nat, r < LB ∧ w' ≤ 1 ∧ r + y + w = x + w' * LB ∧
    IntKind.u32.wrap (IntKind.u64.wrap (IntKind.u64.wrap ((x : Int) - (y : Int)) - (w : Int))) = (r : Int) ∧ (IntKind.u64.wrap (IntKind.u64.wrap ((x : Int) - (y : Int)) - (w : Int))).fdiv (2 ^ min (Int.toNat 63) IntKind.u64.bits) = (w' : Int) := by
  rw [p63, IntKind.wrap_u64, IntKind.wrap_u64, IntKind.wrap_u32, Int.fdiv_eq_ediv_of_nonneg _ (by decide)]
  unfold LB at *
  by_cases h : w + y ≤ x
  · exact ⟨x - w - y, 0, by omega, by omega, by omega, by omega, by omega⟩
  · exact ⟨x + 4294967296 - w - y, 1, by omega, by omega, by omega, by omega, by omega⟩

theorem digNext {R : List Nat} {A B br c m x r br' i : Nat} (hR : R.length = i) (h : val R + A = B + LB ^ i * (br + c)) (hr : r + (c + m) % LB + br = x + br' * LB) :
    val (R ++ [r]) + (A + LB ^ i * m) = B + LB ^ i * x + LB ^ (i + 1) * (br' + (c + m) / LB) := by
  rw [val_append, hR, val_one, Nat.pow_succ]
  have h1 := Nat.mod_add_div (c + m) LB
  have h2 : LB ^ i * (r + (c + m) % LB + br) = LB ^ i * (x + br' * LB) := by rw [hr]
  have h3 : LB ^ i * ((c + m) % LB + LB * ((c + m) / LB)) = LB ^ i * (c + m) := by rw [h1]
  simp only [Nat.mul_add] at *
  rw [Nat.mul_comm br' LB, ← Nat.mul_assoc] at h2
  rw [← Nat.mul_assoc] at h3
  omega

/-- the cells of a window -/
theorem win_get {P W T : List Nat} {off i : Nat} (hP : P.length = off) (hi : i < W.length) : (lm (P ++ (W ++ T)))[off + i]? = some (.int .u32 (W[i] : Nat)) := by
  refine lm_get? ?_
  rw [List.getElem?_append_right (by omega), hP, Nat.add_sub_cancel_left, List.getElem?_append_left hi]
  simp
theorem win_set {P W T : List Nat} {off i v : Nat} (hP : P.length = off) (hi : i < W.length) : (P ++ (W ++ T)).set (off + i) v = P ++ (W.set i v ++ T) := by
  rw [List.set_append_right _ _ (by omega), hP, Nat.add_sub_cancel_left, List.set_append_left _ _ hi]

/-- a window whose first i limbs are new -/
theorem new_get {R W : List Nat} {i : Nat} (hR : R.length = i) (hi : i < W.length) : (R ++ W.drop i)[i]? = some W[i] := by
  rw [List.getElem?_append_right (by omega), hR, Nat.sub_self, List.getElem?_drop, Nat.add_zero]
  simp
theorem new_set {R W : List Nat} {i v : Nat} (hR : R.length = i) (hi : i < W.length) : (R ++ W.drop i).set i v = (R ++ [v]) ++ W.drop (i + 1) := by
  rw [List.set_append_right _ _ (by omega), hR, Nat.sub_self, List.drop_eq_getElem_cons hi, List.set_cons_zero, List.append_assoc]
  rfl

section
variable {σ : Store} {b off : Nat} {P T v : List Nat}

theorem n187 {W0 : List Nat} (hb : b < σ.length) (hP : P.length = off) (hv : Lim v) (hn : 0 < v.length) (hnl : v.length ≤ 500000000000) (hW : Lim W0) (hWl : W0.length = v.length + 1)
    (htop : v[v.length - 1]'(by omega) ≠ 0) (hlt : val W0 < LB * val v) {Q : CV → Store → Prop}
    (hq : ∀ W : List Nat, W.length = v.length + 1 → Lim W → val W = val W0 % val v → Q (.p (.int .u32 ((val W0 / val v : Nat) : Int))) (σ.set b (.prow 1 (lm (P ++ (W ++ T)))))) :
    Rn rp 187 [.own b off (v.length + 1), .p (.sl (lm v))] (σ.set b (.prow 1 (lm (P ++ (W0 ++ T))))) Q := by
  rw [rn_of rp187]
  have hV : 0 < val v := by
    rcases Nat.eq_zero_or_pos (val v) with h | h
    · rw [h, Nat.mul_zero] at hlt; omega
    · exact h
  have hi1 : v.length - 1 < v.length := by omega
  have hw0 : v.length - 1 < W0.length := by omega
  have hw1 : v.length < W0.length := by omega
  have i1 : v.length - 1 < v.length + 1 := by omega
  have i2 : v.length < v.length + 1 := by omega
  have e1 : IntKind.i64.wrap ((v.length : Int) - 1) = ((v.length - 1 : Nat) : Int) := by rw [IntWalk.i64_in _ (by omega)]; omega
  have e2 : IntKind.i64.wrap ((v.length : Int) + 1) = ((v.length + 1 : Nat) : Int) := by rw [IntWalk.i64_in _ (by omega)]; omega
  have htl : W0[v.length] * LB + W0[v.length - 1] < 18446744073709551616 := by
    have h1 := hW.get hw1
    have h2 := hW.get hw0
    have := Nat.mul_le_mul_right LB (show W0[v.length] ≤ LB - 1 by omega)
    rw [show (LB - 1) * LB = 18446744069414584320 by decide] at this
    unfold LB at *
    omega
  have hd0 : ((v[v.length - 1] : Nat) : Int) ≠ 0 := by omega
  -- the guess
  obtain ⟨q, hqd, hq1, hq2⟩ : ∃ q : Nat, (if (4294967295 : Int) < (((W0[v.length] * LB + W0[v.length - 1]) / v[v.length - 1] : Nat) : Int) then (4294967295 : Int) else (((W0[v.length] * LB + W0[v.length - 1]) / v[v.length - 1] : Nat) : Int)) = (q : Int) ∧ q < LB ∧ val W0 < (q + 1) * val v := by
    by_cases h : (4294967295 : Int) < (((W0[v.length] * LB + W0[v.length - 1]) / v[v.length - 1] : Nat) : Int)
    · exact ⟨4294967295, by rw [if_pos h]; rfl, by decide, hlt⟩
    · refine ⟨(W0[v.length] * LB + W0[v.length - 1]) / v[v.length - 1], by rw [if_neg h], by unfold LB at *; omega, ?_⟩
      have hd := Nat.lt_mul_div_succ (W0[v.length] * LB + W0[v.length - 1]) (show 0 < v[v.length - 1] by omega)
      generalize (W0[v.length] * LB + W0[v.length - 1]) / v[v.length - 1] = g at hd ⊢
      -- the numbers by their tops
      have s1 := val_split (l := W0) (i := v.length - 1) (by omega)
      have s2 := val_split (l := v) (i := v.length - 1) (by omega)
      have t1 := val_lt (hW.take (n := v.length - 1))
      rw [List.length_take, Nat.min_eq_left (by omega)] at t1
      have s3 : val (W0.drop (v.length - 1)) = W0[v.length - 1] + LB * W0[v.length] := by
        rw [List.drop_eq_getElem_cons hw0, val]
        simp only [show v.length - 1 + 1 = v.length by omega]
        rw [List.drop_eq_getElem_cons hw1, val, List.drop_of_length_le (by omega), val, Nat.mul_zero, Nat.add_zero]
      have s4 : val (v.drop (v.length - 1)) = v[v.length - 1] := by
        rw [List.drop_eq_getElem_cons hi1, val]
        simp only [show v.length - 1 + 1 = v.length by omega]
        rw [List.drop_length, val, Nat.mul_zero, Nat.add_zero]
      rw [s3] at s1
      rw [s4] at s2
      have h5 : W0[v.length - 1] + LB * W0[v.length] + 1 ≤ v[v.length - 1] * (g + 1) := by rw [Nat.mul_comm LB]; omega
      have h6 := Nat.mul_le_mul_left (LB ^ (v.length - 1)) h5
      have h7 : LB ^ (v.length - 1) * v[v.length - 1] * (g + 1) ≤ val v * (g + 1) := Nat.mul_le_mul_right _ (by rw [s2]; exact Nat.le_add_left _ _)
      rw [Nat.mul_comm (g + 1)]
      calc val W0 = val (W0.take (v.length - 1)) + LB ^ (v.length - 1) * (W0[v.length - 1] + LB * W0[v.length]) := s1
        _ < LB ^ (v.length - 1) + LB ^ (v.length - 1) * (W0[v.length - 1] + LB * W0[v.length]) := Nat.add_lt_add_right t1 _
        _ = LB ^ (v.length - 1) * (W0[v.length - 1] + LB * W0[v.length] + 1) := by rw [Nat.mul_add _ _ 1, Nat.mul_one, Nat.add_comm]
        _ ≤ LB ^ (v.length - 1) * (v[v.length - 1] * (g + 1)) := h6
        _ = LB ^ (v.length - 1) * v[v.length - 1] * (g + 1) := (Nat.mul_assoc ..).symm
        _ ≤ val v * (g + 1) := h7
  simp only [f187, args0, S1, S2, S3, S4, S5, r_idx, r_mks, ev, resultsV, resL, resV, vl, gt, st, sto, fgt, i64, subCV, fill, setCells, mkAgg, allP, frz, frz1, frzL, frzs, kill, kill1, killL, kills, bnd, unV, bsz, toPs, toP, isPure1, pureL, List.elem, List.replicate, Int.reduceLE, Int.reduceLT, ↓reduceIte, reduceCtorEq, Nat.reduceLT, Nat.reduceEqDiff, Nat.reduceAdd, Nat.reduceMul, Nat.reduceLeDiff, Nat.reduceBEq, lm_len, e1, e2, win_get hP hw0, win_get hP hw1, get_self hb, lm_get hi1, w64l (hW.get hw0), w64l (hW.get hw1), w64l (hv.get hi1), shl32 (hW.get hw1), or64 (hW.get hw0) htl, quo64 htl, binV_quo hd0, hqd, Int.natCast_nonneg, Int.toNat_natCast, i1, i2]
  refine loop_rule (β := Nat × List Nat × Nat × Nat) (fun t => ([(0, .own b off (v.length + 1)), (1, .p (.sl (lm v))), (5, i64 v.length), (7, .p (.int .u64 (q : Int))), (8, .p (.int .u64 (t.2.2.1 : Int))), (9, .p (.int .u64 (t.2.2.2 : Int))), (40, .p (.int .i64 ((v.length + 1 : Nat) : Int))), (41, i64 t.1)], σ.set b (.prow 1 (lm (P ++ (t.2.1 ++ (W0.drop t.1 ++ T)))))))
    (fun t => t.1 ≤ v.length + 1 ∧ t.2.1.length = t.1 ∧ Lim t.2.1 ∧ t.2.2.1 < LB ∧ t.2.2.2 ≤ 1 ∧ (t.1 = v.length + 1 → t.2.2.1 = 0) ∧ val t.2.1 + q * val (v.take t.1) = val (W0.take t.1) + LB ^ t.1 * (t.2.2.2 + t.2.2.1)) (fun t => v.length + 1 - t.1) ((0, [], 0, 0) : Nat × List Nat × Nat × Nat) rfl rfl
    ⟨Nat.zero_le _, rfl, (fun _ hx => nomatch hx), LB_pos, Nat.zero_le _, (fun h => rfl), by simp [val]⟩ ?_
  rintro ⟨i, R, c, br⟩ ⟨hi, hR, hlR, hc, hbr, hc0, hval⟩ ih
  simp only [] at hi hR hlR hc hbr hc0 hval ih ⊢
  by_cases hin : (i : Int) < ((v.length + 1 : Nat) : Int)
  · have hiw : i < W0.length := by omega
    have hil : i < v.length + 1 := by omega
    have hRd : i < (R ++ W0.drop i).length := by rw [List.length_append, List.length_drop]; omega
    have hg := win_get (T := T) hP hRd
    have hgv : (R ++ W0.drop i)[i] = W0[i] := by
      have := new_get hR hiw
      rw [List.getElem?_eq_getElem hRd] at this
      exact Option.some.inj this
    rw [hgv] at hg
    have hst : ∀ u, (P ++ ((R ++ W0.drop i) ++ T)).set (off + i) u = P ++ (((R ++ [u]) ++ W0.drop (i + 1)) ++ T) := by
      intro u
      rw [win_set hP hRd, new_set hR hiw]
    simp only [List.append_assoc, List.cons_append, List.nil_append] at hg hst
    have hfold : ∀ u, R ++ u :: (W0.drop (i + 1) ++ T) = (R ++ [u]) ++ (W0.drop (i + 1) ++ T) := by intro u; simp
    by_cases hiv : (i : Int) < v.length
    · have hiv' : i < v.length := by omega
      obtain ⟨b1, b2, b3, b4⟩ := mulBound hc hq1 (hv.get hiv') LB_pos
      simp only [Nat.add_zero] at b1 b3 b4
      obtain ⟨r, br', hr, hbr', hrel, e32, e63⟩ := subStep' (hW.get hiw) (Nat.mod_lt (c + q * v[i]) LB_pos) hbr
      have hnx := digNext hR hval hrel
      simp only [S1, S2, S3, S4, S5, r_idx, r_mks, ev, resultsV, resL, resV, vl, gt, st, sto, fgt, i64, subCV, fill, setCells, mkAgg, allP, frz, frz1, frzL, frzs, kill, kill1, killL, kills, bnd, unV, bsz, toPs, toP, isPure1, pureL, List.elem, List.replicate, Int.reduceLE, Int.reduceLT, ↓reduceIte, reduceCtorEq, Nat.reduceLT, Nat.reduceEqDiff, Nat.reduceAdd, Nat.reduceMul, Nat.reduceLeDiff, Nat.reduceBEq, lm_len, hin, hiv, w64m b2, w64s b3, lm_get hiv', w64l (hv.get hiv'), w64l (hW.get hiw), sh32, w32, w64l (Nat.mod_lt (c + q * v[i]) LB_pos), e32, e63, get_self hb, hg, hst, hil, lm_set, Int.natCast_nonneg, Int.toNat_natCast, List.set_set, IntWalk.i64_in ((i : Int) + 1) (by omega)]
      rw [hfold]
      refine ih (i + 1, R ++ [r], (c + q * v[i]) / LB, br') _ ⟨by omega, by simp [hR], hlR.append (.one hr), b4, hbr', (fun h => absurd h (by simp; omega)), ?_⟩ (by simp; omega) ?_
      · show val (R ++ [r]) + q * val (v.take (i + 1)) = val (W0.take (i + 1)) + LB ^ (i + 1) * (br' + (c + q * v[i]) / LB)
        rw [val_take_succ hiv', val_take_succ hiw, Nat.mul_add, ← hnx, Nat.mul_left_comm q]
      · rfl
    · obtain rfl : i = v.length := by omega
      obtain ⟨r, br', hr, hbr', hrel, e32, e63⟩ := subStep' (hW.get hiw) hc hbr
      have hcm : (c + 0) % LB = c := by rw [Nat.add_zero]; exact Nat.mod_eq_of_lt hc
      have hcd : (c + 0) / LB = 0 := by rw [Nat.add_zero]; exact Nat.div_eq_of_lt hc
      have hcd' : c / LB = 0 := Nat.div_eq_of_lt hc
      have hcm' : c % LB = c := Nat.mod_eq_of_lt hc
      have hnx := digNext (m := 0) hR hval (by rw [hcm]; exact hrel)
      rw [hcd, Nat.mul_zero, Nat.add_zero] at hnx
      simp only [S1, S2, S3, S4, S5, r_idx, r_mks, ev, resultsV, resL, resV, vl, gt, st, sto, fgt, i64, subCV, fill, setCells, mkAgg, allP, frz, frz1, frzL, frzs, kill, kill1, killL, kills, bnd, unV, bsz, toPs, toP, isPure1, pureL, List.elem, List.replicate, Int.reduceLE, Int.reduceLT, ↓reduceIte, reduceCtorEq, Nat.reduceLT, Nat.reduceEqDiff, Nat.reduceAdd, Nat.reduceMul, Nat.reduceLeDiff, Nat.reduceBEq, lm_len, hin, hiv, hW.get hiw, w64l (hW.get hiw), sh32, w32, hcm', hcd', w64l hc, e32, e63, get_self hb, hg, hst, hil, lm_set, Int.natCast_nonneg, Int.toNat_natCast, List.set_set, IntWalk.i64_in ((v.length : Int) + 1) (by omega)]
      rw [hfold]
      refine ih (v.length + 1, R ++ [r], 0, br') _ ⟨by omega, by simp [hR], hlR.append (.one hr), LB_pos, hbr', (fun _ => rfl), ?_⟩ (by simp) ?_
      · show val (R ++ [r]) + q * val (v.take (v.length + 1)) = val (W0.take (v.length + 1)) + LB ^ (v.length + 1) * (br' + 0)
        rw [List.take_of_length_le (Nat.le_succ _), val_take_succ hiw, Nat.add_zero, ← hnx, List.take_length]
      · rfl
  · obtain rfl : i = v.length + 1 := by omega
    obtain rfl := hc0 rfl
    rw [List.take_of_length_le (Nat.le_succ _), List.take_of_length_le (by omega), Nat.add_zero] at hval
    have hdn : W0.drop (v.length + 1) = [] := List.drop_of_length_le (by omega)
    rw [hdn]
    simp only [S1, S2, S3, S4, S5, r_idx, r_mks, ev, resultsV, resL, resV, vl, gt, st, sto, fgt, i64, subCV, fill, setCells, mkAgg, allP, frz, frz1, frzL, frzs, kill, kill1, killL, kills, bnd, unV, bsz, toPs, toP, isPure1, pureL, List.elem, List.replicate, Int.reduceLE, Int.reduceLT, ↓reduceIte, reduceCtorEq, Nat.reduceLT, Nat.reduceEqDiff, Nat.reduceAdd, Nat.reduceMul, Nat.reduceLeDiff, Nat.reduceBEq, hin]
    have hRl : R.length = v.length + 1 := hR
    refine loop_rule (β := List Nat × Nat × Nat) (fun t => ([(0, .own b off (v.length + 1)), (1, .p (.sl (lm v))), (5, i64 v.length), (7, .p (.int .u64 (t.2.1 : Int))), (9, .p (.int .u64 (t.2.2 : Int)))], σ.set b (.prow 1 (lm (P ++ (t.1 ++ T))))))
      (fun t => t.1.length = v.length + 1 ∧ Lim t.1 ∧ t.2.1 < LB ∧ t.2.2 ≤ 1 ∧ val t.1 + t.2.1 * val v = val W0 + LB ^ (v.length + 1) * t.2.2 ∧ val W0 < (t.2.1 + 1) * val v) (fun t => t.2.1) ((R, q, br) : List Nat × Nat × Nat) rfl rfl ⟨hRl, hlR, hq1, hbr, hval, hq2⟩ ?_
    rintro ⟨W, g, br⟩ ⟨hWl', hWL, hg, hbr, hv1, hv2⟩ ih2
    simp only [] at hWl' hWL hg hbr hv1 hv2 ih2 ⊢
    by_cases hb0 : (br : Int) > 0
    · obtain rfl : br = 1 := by omega
      have hWlt := val_lt hWL
      rw [hWl'] at hWlt
      rw [Nat.mul_one] at hv1
      obtain ⟨g', rfl⟩ : ∃ g', g = g' + 1 := by
        rcases Nat.eq_zero_or_pos g with h | h
        · rw [h, Nat.zero_mul] at hv1; omega
        · exact ⟨g - 1, by omega⟩
      have hgw : IntKind.u64.wrap (((g' + 1 : Nat) : Int) - 1) = (g' : Int) := by
        rw [show ((g' + 1 : Nat) : Int) - 1 = (g' : Int) by omega]
        exact w64 (by unfold LB at hg; omega)
      rw [Nat.add_mul, Nat.one_mul] at hv1
      simp only [S1, S2, S3, S4, S5, r_idx, r_mks, ev, resultsV, resL, resV, vl, gt, st, sto, fgt, i64, subCV, fill, setCells, mkAgg, allP, frz, frz1, frzL, frzs, kill, kill1, killL, kills, bnd, unV, bsz, toPs, toP, isPure1, pureL, List.elem, List.replicate, Int.reduceLE, Int.reduceLT, ↓reduceIte, reduceCtorEq, Nat.reduceLT, Nat.reduceEqDiff, Nat.reduceAdd, Nat.reduceMul, Nat.reduceLeDiff, Nat.reduceBEq, hb0, hgw, e2]
      refine loop_rule (β := Nat × List Nat × Nat) (fun t => ([(0, .own b off (v.length + 1)), (1, .p (.sl (lm v))), (5, i64 v.length), (7, .p (.int .u64 (g' : Int))), (9, .p (.int .u64 ((1 : Nat) : Int))), (13, .p (.int .u64 (t.2.2 : Int))), (83, .p (.int .i64 ((v.length + 1 : Nat) : Int))), (84, i64 t.1)], σ.set b (.prow 1 (lm (P ++ (t.2.1 ++ (W.drop t.1 ++ T)))))))
        (fun t => t.1 ≤ v.length + 1 ∧ t.2.1.length = t.1 ∧ Lim t.2.1 ∧ t.2.2 ≤ 1 ∧ val t.2.1 + LB ^ t.1 * t.2.2 = val (W.take t.1) + val (v.take t.1)) (fun t => v.length + 1 - t.1) ((0, [], 0) : Nat × List Nat × Nat) rfl rfl
        ⟨Nat.zero_le _, rfl, (fun _ hx => nomatch hx), Nat.zero_le _, by simp [val]⟩ ?_
      rintro ⟨i, R, c⟩ ⟨hi, hR, hlR, hc, hval⟩ ih3
      simp only [] at hi hR hlR hc hval ih3 ⊢
      by_cases hin3 : (i : Int) < ((v.length + 1 : Nat) : Int)
      · have hiw : i < W.length := by omega
        have hil : i < v.length + 1 := by omega
        have hRd : i < (R ++ W.drop i).length := by rw [List.length_append, List.length_drop]; omega
        have hgt := win_get (T := T) hP hRd
        have hgv : (R ++ W.drop i)[i] = W[i] := by
          have := new_get hR hiw
          rw [List.getElem?_eq_getElem hRd] at this
          exact Option.some.inj this
        rw [hgv] at hgt
        have hst : ∀ u, (P ++ ((R ++ W.drop i) ++ T)).set (off + i) u = P ++ (((R ++ [u]) ++ W.drop (i + 1)) ++ T) := by
          intro u
          rw [win_set hP hRd, new_set hR hiw]
        simp only [List.append_assoc, List.cons_append, List.nil_append] at hgt hst
        have hfold : ∀ u, R ++ u :: (W.drop (i + 1) ++ T) = (R ++ [u]) ++ (W.drop (i + 1) ++ T) := by intro u; simp
        obtain ⟨k1, k2, k3⟩ := carry1 hc (hWL.get hiw) (lg_lt hv (i := i))
        have hstp := addStep (x := W[i]) (y := lg v i) hR hval
        have hta := val_take_lg (l := W) (i := i)
        have htb := val_take_lg (l := v) (i := i)
        rw [lg_in hiw] at hta
        rw [← hta, ← htb] at hstp
        by_cases hiv : (i : Int) < v.length
        · have hiv' : i < v.length := by omega
          rw [lg_in hiv'] at hstp k1 k2
          simp only [S1, S2, S3, S4, S5, r_idx, r_mks, ev, resultsV, resL, resV, vl, gt, st, sto, fgt, i64, subCV, fill, setCells, mkAgg, allP, frz, frz1, frzL, frzs, kill, kill1, killL, kills, bnd, unV, bsz, toPs, toP, isPure1, pureL, List.elem, List.replicate, Int.reduceLE, Int.reduceLT, ↓reduceIte, reduceCtorEq, Nat.reduceLT, Nat.reduceEqDiff, Nat.reduceAdd, Nat.reduceMul, Nat.reduceLeDiff, Nat.reduceBEq, lm_len, hin3, hiv, lm_get hiv', w64l (hv.get hiv'), w64l (hWL.get hiw), w64s k3, w64s k2, sh32, w32, get_self hb, hgt, hst, hil, lm_set, Int.natCast_nonneg, Int.toNat_natCast, List.set_set, IntWalk.i64_in ((i : Int) + 1) (by omega)]
          rw [hfold]
          refine ih3 (i + 1, R ++ [(c + W[i] + v[i]) % LB], (c + W[i] + v[i]) / LB) _ ⟨by omega, by simp [hR], hlR.append (.one (Nat.mod_lt _ LB_pos)), k1, hstp⟩ (by simp; omega) ?_
          rfl
        · rw [lg_out (by omega), Nat.add_zero] at hstp k1 k2
          simp only [S1, S2, S3, S4, S5, r_idx, r_mks, ev, resultsV, resL, resV, vl, gt, st, sto, fgt, i64, subCV, fill, setCells, mkAgg, allP, frz, frz1, frzL, frzs, kill, kill1, killL, kills, bnd, unV, bsz, toPs, toP, isPure1, pureL, List.elem, List.replicate, Int.reduceLE, Int.reduceLT, ↓reduceIte, reduceCtorEq, Nat.reduceLT, Nat.reduceEqDiff, Nat.reduceAdd, Nat.reduceMul, Nat.reduceLeDiff, Nat.reduceBEq, lm_len, hin3, hiv, w64l (hWL.get hiw), w64s k3, sh32, w32, get_self hb, hgt, hst, hil, lm_set, Int.natCast_nonneg, Int.toNat_natCast, List.set_set, IntWalk.i64_in ((i : Int) + 1) (by omega)]
          rw [hfold]
          refine ih3 (i + 1, R ++ [(c + W[i]) % LB], (c + W[i]) / LB) _ ⟨by omega, by simp [hR], hlR.append (.one (Nat.mod_lt _ LB_pos)), k1, hstp⟩ (by simp; omega) ?_
          rfl
      · obtain rfl : i = v.length + 1 := by omega
        rw [List.take_of_length_le (Nat.le_of_eq hWl'), List.take_of_length_le (Nat.le_succ _)] at hval
        have hdn : W.drop (v.length + 1) = [] := List.drop_of_length_le (by omega)
        have hcw : IntKind.u64.wrap (((1 : Nat) : Int) - (c : Int)) = ((1 - c : Nat) : Int) := by
          rw [show ((1 : Nat) : Int) - (c : Int) = ((1 - c : Nat) : Int) by omega]
          exact w64 (by omega)
        rw [hdn]
        simp only [S1, S2, S3, S4, S5, r_idx, r_mks, ev, resultsV, resL, resV, vl, gt, st, sto, fgt, i64, subCV, fill, setCells, mkAgg, allP, frz, frz1, frzL, frzs, kill, kill1, killL, kills, bnd, unV, bsz, toPs, toP, isPure1, pureL, List.elem, List.replicate, Int.reduceLE, Int.reduceLT, ↓reduceIte, reduceCtorEq, Nat.reduceLT, Nat.reduceEqDiff, Nat.reduceAdd, Nat.reduceMul, Nat.reduceLeDiff, Nat.reduceBEq, hin3, hcw]
        refine ih2 (R, g', 1 - c) _ ⟨hR, hlR, (show g' < LB by omega), (show 1 - c ≤ 1 by omega), ?_, ?_⟩ (Nat.lt_succ_self _) ?_
        · show val R + g' * val v = val W0 + LB ^ (v.length + 1) * (1 - c)
          rcases Nat.lt_or_ge c 1 with h | h
          · obtain rfl : c = 0 := by omega
            rw [Nat.mul_zero] at hval
            rw [Nat.sub_zero, Nat.mul_one]
            omega
          · obtain rfl : c = 1 := by omega
            rw [Nat.mul_one] at hval
            rw [Nat.sub_self, Nat.mul_zero]
            omega
        · show val W0 < (g' + 1) * val v
          rw [Nat.add_mul, Nat.one_mul]
          omega
        · rfl
    · obtain rfl : br = 0 := by omega
      rw [Nat.mul_zero, Nat.add_zero] at hv1
      rw [Nat.add_mul, Nat.one_mul] at hv2
      have hlt' : val W < val v := by omega
      have hgq : val W0 / val v = g := by rw [← hv1, Nat.add_mul_div_right _ _ hV, Nat.div_eq_of_lt hlt', Nat.zero_add]
      have hgr : val W0 % val v = val W := by rw [← hv1, Nat.add_mul_mod_self_right, Nat.mod_eq_of_lt hlt']
      have hgl : g % LB = g := Nat.mod_eq_of_lt hg
      have hfin := hq W hWl' hWL hgr.symm
      rw [hgq] at hfin
      simp only [S1, S2, S3, S4, S5, r_idx, r_mks, ev, resultsV, resL, resV, vl, gt, st, sto, fgt, i64, subCV, fill, setCells, mkAgg, allP, frz, frz1, frzL, frzs, kill, kill1, killL, kills, bnd, unV, bsz, toPs, toP, isPure1, pureL, List.elem, List.replicate, Int.reduceLE, Int.reduceLT, ↓reduceIte, reduceCtorEq, Nat.reduceLT, Nat.reduceEqDiff, Nat.reduceAdd, Nat.reduceMul, Nat.reduceLeDiff, Nat.reduceBEq, hb0, w32, hgl]
      exact hfin

theorem k187 {W0 : List Nat} {rs : List RRes} {base : Nat} {d : Option Nat} {l : List LOp} {dr : Dr} {ks : List KI} {e : Env} {Q : CV → Store → Prop} (hb : b < σ.length) (hwf : Wf σ) (hP : P.length = off) (hv : Lim v) (hn : 0 < v.length) (hnl : v.length ≤ 500000000000) (hW : Lim W0) (hWl : W0.length = v.length + 1)
    (htop : v[v.length - 1]'(by omega) ≠ 0) (hlt : val W0 < LB * val v)
    (h : ∀ W : List Nat, W.length = v.length + 1 → Lim W → val W = val W0 % val v → ExR rp rs base l dr ks (sto d (.p (.int .u32 ((val W0 / val v : Nat) : Int))) e) (σ.set b (.prow 1 (lm (P ++ (W ++ T))))) Q) :
    KC rp rs base .full 187 [.own b off (v.length + 1), .p (.sl (lm v))] d l dr ks e (σ.set b (.prow 1 (lm (P ++ (W0 ++ T))))) Q := by
  unfold KC
  refine cl_full (n187 hb hP hv hn hnl hW hWl htop hlt fun W h1 h2 h3 => ?_)
  have hl : (σ.set b (.prow 1 (lm (P ++ (W0 ++ T))))).length = (σ.set b (.prow 1 (lm (P ++ (W ++ T))))).length := by rw [List.length_set, List.length_set]
  rw [hl, List.take_length]
  exact ⟨(hwf.set rfl).all, _, back_p, h W h1 h2 h3⟩
end
end Go.Proofs.Ytdieenbfdeaffaa.VBn

namespace Go.Proofs.Ytdieenbfdeaffaa.VBn
open Go Vpi
set_option maxRecDepth 100000
set_option linter.unusedSimpArgs false
set_option linter.unusedVariables false

theorem rp159 : rp 159 = some f159 := rfl

theorem dgl_len_mono {m n : Nat} (h : m ≤ n) : (dgl m).length ≤ (dgl n).length := by
  refine dgl_len (Nat.lt_of_le_of_lt h ?_)
  have := val_lt (dgl_lim n)
  rwa [val_dgl] at this

/-- a divisor is shifted until its top bit is set: it keeps its length -/
theorem norm_len {v t n : Nat} (h : v ≠ 0) (ht : (dgl v)[(dgl v).length - 1]? = some t) (hn : n = 32 - bl t) : (dgl (v * 2 ^ n)).length = (dgl v).length ∧ n < 32 ∧ t ≠ 0 := by
  have hpos := List.length_pos_iff.2 (dgl_ne h)
  have hlt : (dgl v).length - 1 < (dgl v).length := by omega
  rw [List.getElem?_eq_getElem hlt, Option.some.injEq] at ht
  have hs := val_take_succ hlt
  rw [ht, show (dgl v).length - 1 + 1 = (dgl v).length by omega, List.take_length, val_dgl] at hs
  have hlow := val_lt ((dgl_lim v).take (n := (dgl v).length - 1))
  rw [List.length_take, Nat.min_eq_left (by omega)] at hlow
  have ht0 : t ≠ 0 := by
    intro h0
    rw [h0, Nat.mul_zero, Nat.add_zero] at hs
    have := dgl_len (show v < LB ^ ((dgl v).length - 1) by omega)
    omega
  have htB : t < LB := by
    have := (dgl_lim v).get hlt
    omega
  obtain ⟨b1, b2, b3⟩ := bl_spec ht0
  have b4 := bl_le htB
  refine ⟨Nat.le_antisymm (dgl_len ?_) (dgl_len_mono (Nat.le_mul_of_pos_right _ (Nat.pow_pos (by decide)))), by omega, ht0⟩
  have e1 : LB ^ (dgl v).length = LB ^ ((dgl v).length - 1) * 2 ^ bl t * 2 ^ n := by
    rw [Nat.mul_assoc, ← Nat.pow_add, hn, show bl t + (32 - bl t) = 32 by omega]
    rw [show (2 : Nat) ^ 32 = LB from rfl, ← Nat.pow_succ]
    congr 1
    omega
  rw [e1]
  refine Nat.mul_lt_mul_of_pos_right ?_ (Nat.pow_pos (by decide))
  calc v = _ := hs
    _ < LB ^ ((dgl v).length - 1) * (t + 1) := by rw [Nat.mul_add, Nat.mul_one]; omega
    _ ≤ _ := Nat.mul_le_mul_left _ b2

theorem lt_of_cmp {x y : Nat} : cmpI x y < 0 ↔ x < y := by
  unfold cmpI
  split
  · simp; assumption
  · split
    · simp; omega
    · simp; omega

theorem p159l {a b : List Nat} (ha : Lim a) (hb : Lim b) (hna : a.length ≤ 400000000000) (hnb : b.length ≤ 400000000000) (h : val a < val b) :
    Pu rp 159 [.sl (lm a), .sl (lm b)] (.tup [.p (.sl (lm (dgl (val a / val b)))), .p (.sl (lm (dgl (val a % val b)))), .p (.int .i64 0)]) := by
  refine pu_of rp159 ?_
  have hda : (dgl (val a)).length ≤ a.length := dgl_len (val_lt ha)
  have hdb : (dgl (val b)).length ≤ b.length := dgl_len (val_lt hb)
  have k1 := p144 ha (by omega)
  have k2 := p144 hb (by omega)
  have hc := p177 (dgl_lim (val a)) (dgl_lim (val b)) (by omega) (by omega)
  have kn := p158 (dgl_lim (val a)) (by omega)
  rw [val_dgl] at kn
  rw [val_dgl, val_dgl] at hc
  have hci : cmpI (val a) (val b) < 0 := lt_of_cmp.2 h
  have hpos := List.length_pos_iff.2 (dgl_ne (show val b ≠ 0 by omega))
  have e0 : (((dgl (val b)).length : Int) == 0) = false := by rw [beq_eq_false_iff_ne]; omega
  rw [Nat.div_eq_of_lt h, Nat.mod_eq_of_lt h, dgl_zero]
  simp only [f159, args0, S1, S2, S3, S4, S5, r_idx, r_mks, ev, resultsV, resL, resV, vl, gt, st, sto, fgt, i64, subCV, fill, setCells, mkAgg, allP, frz, frz1, frzL, frzs, kill, kill1, killL, kills, bnd, unV, bsz, toPs, toP, isPure1, pureL, List.elem, List.replicate, Int.reduceLE, Int.reduceLT, ↓reduceIte, reduceCtorEq, Nat.reduceLT, Nat.reduceEqDiff, Nat.reduceAdd, Nat.reduceMul, Nat.reduceLeDiff, Nat.reduceBEq, kp1 k1, kp1 k2, lm_len, e0, kp2 hc, hci, kp1 kn]
  exact back_t3 back1_nils back1_p back1_p

theorem p159s {a b : List Nat} (ha : Lim a) (hb : Lim b) (hna : a.length ≤ 400000000000) (hnb : b.length ≤ 400000000000) (h : val b ≤ val a) (h1 : (dgl (val b)).length = 1) :
    Pu rp 159 [.sl (lm a), .sl (lm b)] (.tup [.p (.sl (lm (dgl (val a / val b)))), .p (.sl (lm (dgl (val a % val b)))), .p (.int .i64 0)]) := by
  refine pu_of rp159 ?_
  have hda : (dgl (val a)).length ≤ a.length := dgl_len (val_lt ha)
  have hdb : (dgl (val b)).length ≤ b.length := dgl_len (val_lt hb)
  have k1 := p144 ha (by omega)
  have k2 := p144 hb (by omega)
  have hc := p177 (dgl_lim (val a)) (dgl_lim (val b)) (by omega) (by omega)
  rw [val_dgl, val_dgl] at hc
  have hci : ¬ cmpI (val a) (val b) < 0 := by rw [lt_of_cmp]; omega
  obtain ⟨q, hq⟩ := List.length_eq_one_iff.1 h1
  have hqv : val b = q := by have := val_dgl (val b); rw [hq, val_one] at this; exact this.symm
  have hqB : q < LB := dgl_lim (val b) q (by rw [hq]; simp)
  have hq0 : q ≠ 0 := by
    intro h0
    rw [hqv, h0, dgl_zero] at hq
    cases hq
  have ks := p184 (dgl_lim (val a)) (Nat.pos_of_ne_zero hq0) hqB (by omega)
  rw [val_dgl] at ks
  have hr : val a % q < LB := Nat.lt_trans (Nat.mod_lt _ (Nat.pos_of_ne_zero hq0)) hqB
  have kr := p144 (Lim.one hr) (by simp)
  rw [val_one] at kr
  have e0 : (((1 : Nat) : Int) == 0) = false := rfl
  have e1 : (((1 : Nat) : Int) == 1) = true := rfl
  have i0 : Int.toNat 0 = 0 := rfl
  rw [hq] at k2 hc
  rw [hqv] at hc hci ⊢
  simp only [lm_cons, lm_nil] at k2 hc
  simp only [f159, args0, S1, S2, S3, S4, S5, r_idx, r_mks, ev, resultsV, resL, resV, vl, gt, st, sto, fgt, i64, subCV, fill, setCells, mkAgg, allP, frz, frz1, frzL, frzs, kill, kill1, killL, kills, bnd, unV, bsz, toPs, toP, isPure1, pureL, List.elem, List.replicate, Int.reduceLE, Int.reduceLT, ↓reduceIte, reduceCtorEq, Nat.reduceLT, Nat.reduceEqDiff, Nat.reduceAdd, Nat.reduceMul, Nat.reduceLeDiff, Nat.reduceBEq, kp1 k1, kp1 k2, lm_len, e0, e1, kp2 hc, hci, lm_cons, lm_nil, i0, kp2 ks]
  rw [kf_own (n := 1) kr rfl rfl]
  simp only [S1, S2, S3, S4, S5, r_idx, r_mks, ev, resultsV, resL, resV, vl, gt, st, sto, fgt, i64, subCV, fill, setCells, mkAgg, allP, frz, frz1, frzL, frzs, kill, kill1, killL, kills, bnd, unV, bsz, toPs, toP, isPure1, pureL, List.elem, List.replicate, Int.reduceLE, Int.reduceLT, ↓reduceIte, reduceCtorEq, Nat.reduceLT, Nat.reduceEqDiff, Nat.reduceAdd, Nat.reduceMul, Nat.reduceLeDiff, Nat.reduceBEq]
  exact back_t3 back1_p back1_p back1_p
end Go.Proofs.Ytdieenbfdeaffaa.VBn

namespace Go.Proofs.Ytdieenbfdeaffaa.VBn
open Go Vpi
set_option maxRecDepth 100000
set_option linter.unusedSimpArgs false
set_option linter.unusedVariables false

theorem kf_win {rs : List RRes} {base : Nat} {d : Option Nat} {l : List LOp} {dr : Dr} {ks : List KI} {e : Env} {σ : Store} {Q : CV → Store → Prop} {f b n : Nat} {es : List PV} {r : CV} (h : Pu rp f [.sl es] r) (hf : frz1 σ (.own b 0 n) = some (.sl es)) :
    KC rp rs base .fz f [.own b 0 n] d l dr ks e σ Q = ExR rp rs base l dr ks (sto d r e) (σ.set b .dead) Q :=
  kc_fz h (by simp only [frzs, frz, hf, Option.map_some])

/-- one digit more: what stays -/
structure DivI (A V m k : Nat) (i : Nat) (F q : List Nat) : Prop where
  hi : i ≤ m - k + 1
  ql : q.length = m - k + 1 - i
  qL : Lim q
  fl : m + 1 ≤ F.length
  fL : Lim F
  eq : val (F.take (m + 1)) + LB ^ i * (val q * V) = A
  lt : val (F.take (m + 1)) < V * LB ^ i

theorem DivI.split {A V m k j : Nat} {F q : List Nat} (h : DivI A V m k (j + 1) F q) (hk : k ≤ m) (hV : V < LB ^ k) :
    val (F.take (m + 1)) = val (F.take j) + LB ^ j * val ((F.drop j).take (k + 1)) ∧ val ((F.drop j).take (k + 1)) < LB * V ∧ val ((F.drop (j + (k + 1))).take (m + 1 - (j + (k + 1)))) = 0 := by
  have hj : j + (k + 1) ≤ m + 1 := by have := h.hi; omega
  have e1 : F.take (m + 1) = F.take j ++ ((F.drop j).take (k + 1) ++ (F.drop (j + (k + 1))).take (m + 1 - (j + (k + 1)))) := by
    rw [← List.drop_drop, ← List.take_add, ← List.take_add]
    congr 1
    omega
  have hfl := h.fl
  have l1 : (F.take j).length = j := by rw [List.length_take]; omega
  have l2 : ((F.drop j).take (k + 1)).length = k + 1 := by rw [List.length_take, List.length_drop]; omega
  have hv : val (F.take (m + 1)) = val (F.take j) + LB ^ j * (val ((F.drop j).take (k + 1)) + LB ^ (k + 1) * val ((F.drop (j + (k + 1))).take (m + 1 - (j + (k + 1))))) := by
    rw [e1, val_append, val_append, l1, l2]
  have hlt := h.lt
  have hz : val ((F.drop (j + (k + 1))).take (m + 1 - (j + (k + 1)))) = 0 := by
    rcases Nat.eq_zero_or_pos (val ((F.drop (j + (k + 1))).take (m + 1 - (j + (k + 1))))) with h0 | h0
    · exact h0
    · exfalso
      have h1 : LB ^ (k + 1) ≤ LB ^ (k + 1) * val ((F.drop (j + (k + 1))).take (m + 1 - (j + (k + 1)))) := Nat.le_mul_of_pos_right _ h0
      have h2 : LB ^ j * LB ^ (k + 1) ≤ val (F.take (m + 1)) := by
        rw [hv]
        exact Nat.le_trans (Nat.mul_le_mul_left _ (Nat.le_trans h1 (Nat.le_add_left _ _))) (Nat.le_add_left _ _)
      have h3 : V * LB ^ (j + 1) ≤ LB ^ k * LB ^ (j + 1) := Nat.mul_le_mul_right _ (Nat.le_of_lt hV)
      rw [← Nat.pow_add] at h2 h3
      rw [show k + (j + 1) = j + (k + 1) by omega] at h3
      exact absurd (Nat.lt_of_lt_of_le (Nat.lt_of_le_of_lt h2 hlt) h3) (Nat.lt_irrefl _)
  rw [hz, Nat.mul_zero, Nat.add_zero] at hv
  refine ⟨hv, ?_, hz⟩
  have h4 : LB ^ j * val ((F.drop j).take (k + 1)) < LB ^ j * (LB * V) := by
    have : V * LB ^ (j + 1) = LB ^ j * (LB * V) := by rw [Nat.pow_succ, Nat.mul_comm, Nat.mul_assoc]
    rw [← this]
    exact Nat.lt_of_le_of_lt (by rw [hv]; exact Nat.le_add_left _ _) hlt
  exact Nat.lt_of_mul_lt_mul_left h4

theorem DivI.step {A V m k j : Nat} {F q W : List Nat} (h : DivI A V m k (j + 1) F q) (hk : k ≤ m) (hV : V < LB ^ k) (hV0 : 0 < V) (hVB : val ((F.drop j).take (k + 1)) / V < LB)
    (hWl : W.length = k + 1) (hWL : Lim W) (hWv : val W = val ((F.drop j).take (k + 1)) % V) :
    DivI A V m k j (F.take j ++ (W ++ F.drop (j + (k + 1)))) (val ((F.drop j).take (k + 1)) / V :: q) := by
  obtain ⟨hv, hlt, hz⟩ := h.split hk hV
  have hi := h.hi
  have hfl := h.fl
  have l1 : (F.take j).length = j := by rw [List.length_take]; omega
  have hval : val ((F.take j ++ (W ++ F.drop (j + (k + 1)))).take (m + 1)) = val (F.take j) + LB ^ j * val W := by
    rw [List.take_append, List.take_append, l1, hWl, List.take_of_length_le (l := F.take j) (by omega), List.take_of_length_le (l := W) (by omega), val_append, val_append, l1, hWl, show m + 1 - j - (k + 1) = m + 1 - (j + (k + 1)) by omega, hz, Nat.mul_zero, Nat.add_zero]
  have hdm := Nat.mod_add_div (val ((F.drop j).take (k + 1))) V
  have hP := val_lt (h.fL.take (n := j))
  rw [l1] at hP
  refine ⟨by omega, by rw [List.length_cons, h.ql]; omega, ?_, by rw [List.length_append, List.length_append, l1, hWl, List.length_drop]; omega, (h.fL.take).append (hWL.append h.fL.drop), ?_, ?_⟩
  · intro y hy
    rcases List.mem_cons.1 hy with rfl | hy
    · exact hVB
    · exact h.qL y hy
  · rw [hval, hWv, val, ← h.eq, hv]
    generalize val ((F.drop j).take (k + 1)) = w at *
    have g1 : LB ^ j * w = LB ^ j * (w % V) + LB ^ j * (V * (w / V)) := by rw [← Nat.mul_add, hdm]
    have g2 : (w / V + LB * val q) * V = V * (w / V) + LB * (val q * V) := by rw [Nat.add_mul, Nat.mul_comm (w / V), Nat.mul_assoc]
    have g3 : LB ^ (j + 1) * (val q * V) = LB ^ j * (LB * (val q * V)) := by rw [Nat.pow_succ, Nat.mul_assoc]
    rw [g1, g2, g3, Nat.mul_add]
    omega
  · rw [hval, hWv, Nat.mul_comm V]
    have h1 := Nat.mod_lt (val ((F.drop j).take (k + 1))) hV0
    have h2 : LB ^ j * (val ((F.drop j).take (k + 1)) % V + 1) ≤ LB ^ j * V := Nat.mul_le_mul_left _ h1
    rw [Nat.mul_add, Nat.mul_one] at h2
    omega

theorem p159g {a b : List Nat} (ha : Lim a) (hb : Lim b) (hna : a.length ≤ 400000000000) (hnb : b.length ≤ 400000000000) (hge : val b ≤ val a) (h1 : 2 ≤ (dgl (val b)).length) :
    Pu rp 159 [.sl (lm a), .sl (lm b)] (.tup [.p (.sl (lm (dgl (val a / val b)))), .p (.sl (lm (dgl (val a % val b)))), .p (.int .i64 0)]) := by
  refine pu_of rp159 ?_
  have hda : (dgl (val a)).length ≤ a.length := dgl_len (val_lt ha)
  have hdb : (dgl (val b)).length ≤ b.length := dgl_len (val_lt hb)
  have hne : val b ≠ 0 := by intro h; rw [h, dgl_zero] at h1; simp at h1
  have hnea : val a ≠ 0 := by omega
  have k1 := p144 ha (by omega)
  have k2 := p144 hb (by omega)
  have hc := p177 (dgl_lim (val a)) (dgl_lim (val b)) (by omega) (by omega)
  rw [val_dgl, val_dgl] at hc
  have hkm : (dgl (val b)).length ≤ (dgl (val a)).length := dgl_len_mono hge
  obtain ⟨t, ht⟩ : ∃ t, (dgl (val b))[(dgl (val b)).length - 1]? = some t := ⟨_, List.getElem?_eq_getElem (by omega)⟩
  obtain ⟨n, hn⟩ : ∃ n, n = 32 - bl t := ⟨_, rfl⟩
  obtain ⟨hvl, hn32, ht0⟩ := norm_len hne ht hn
  have htB : t < LB := by
    have := (dgl_lim (val b)).get (show (dgl (val b)).length - 1 < (dgl (val b)).length by omega)
    rw [List.getElem?_eq_getElem (by omega), Option.some.injEq] at ht
    omega
  have h185 := p185 htB
  rw [← hn] at h185
  have s1 := p186 (n := n) (dgl_lim (val b)) (by omega) hn32 (by rw [val_dgl]; exact hne)
  rw [val_dgl] at s1
  have s2 := fun {Q} => n186 (n := n) (dgl_lim (val a)) (by omega) hn32 (by rw [val_dgl]; exact hnea) Wf.nil (Q := Q)
  simp only [val_dgl] at s2
  have hlx : (dgl (val a)).length ≤ 400000000000 := by omega
  have hly : (dgl (val b)).length ≤ 400000000000 := by omega
  -- the lists
  generalize hx : dgl (val a) = x at *
  generalize hy : dgl (val b) = y at *
  have e0 : ((y.length : Int) == 0) = false := by rw [beq_eq_false_iff_ne]; omega
  have e1 : ((y.length : Int) == 1) = false := by rw [beq_eq_false_iff_ne]; omega
  have hci : ¬ cmpI (val a) (val b) < 0 := by rw [lt_of_cmp]; omega
  have w1 : IntKind.i64.wrap ((y.length : Int) - 1) = ((y.length - 1 : Nat) : Int) := by rw [IntWalk.i64_in _ (by omega)]; omega
  have gt0 := lm_get? ht
  simp only [f159, args0, S1, S2, S3, S4, S5, r_idx, r_mks, ev, resultsV, resL, resV, vl, gt, st, sto, fgt, i64, subCV, fill, setCells, mkAgg, allP, frz, frz1, frzL, frzs, kill, kill1, killL, kills, bnd, unV, bsz, toPs, toP, isPure1, pureL, List.elem, List.replicate, Int.reduceLE, Int.reduceLT, ↓reduceIte, reduceCtorEq, Nat.reduceLT, Nat.reduceEqDiff, Nat.reduceAdd, Nat.reduceMul, Nat.reduceLeDiff, Nat.reduceBEq, kp1 k1, kp1 k2, lm_len, e0, e1, kp2 hc, hci, w1, gt0, kp1 h185, kp2 s1, Int.natCast_nonneg, Int.toNat_natCast]
  refine kc_keep' (s2 fun L kk hL hkk hLl htk hwf => ?_)
  generalize hD : dgl (val a * 2 ^ n) = D at htk
  have hDl : D.length = kk := by rw [← htk, List.length_take]; omega
  have hlen : (x.length ≤ D.length ∧ D.length ≤ x.length + 1) := by
    constructor
    · rw [← hx, ← hD]; exact dgl_len_mono (Nat.le_mul_of_pos_right _ (Nat.pow_pos (by decide)))
    · rw [← hD]
      refine dgl_len ?_
      have h1 := val_lt (dgl_lim (val a))
      rw [val_dgl, hx] at h1
      have h2 : 2 ^ n ≤ LB := by rw [LB_split (n := n) (by omega)]; exact Nat.le_mul_of_pos_left _ (Nat.pow_pos (by decide))
      rw [Nat.pow_succ]
      exact Nat.mul_lt_mul_of_lt_of_le h1 h2 LB_pos
  have hDL : Lim D := by rw [← hD]; exact dgl_lim _
  have c1 : content [Blk.prow 1 (lm L), Blk.prow 1 [.int .u32 0, .int .u32 0]] (.own 0 0 kk) = some (lm D) := by
    simp only [content, List.getElem?_cons_zero, Nat.zero_add, lm_len, hkk, if_true, List.drop_zero, lm_take, htk]
  have c2 : content [Blk.prow 1 (lm L), Blk.prow 1 [.int .u32 0, .int .u32 0]] (.own 1 0 2) = some [.int .u32 0, .int .u32 0] := rfl
  have m1 : (D.length + 2) * 4 ≤ 140737488355328 := by omega
  have w2 : IntKind.i64.wrap ((x.length : Int) + 1) = ((x.length + 1 : Nat) : Int) := by rw [IntWalk.i64_in _ (by omega)]; omega
  have w3 : IntKind.i64.wrap ((x.length : Int) - y.length) = ((x.length - y.length : Nat) : Int) := by rw [IntWalk.i64_in _ (by omega)]; omega
  have w4 : IntKind.i64.wrap (((x.length - y.length : Nat) : Int) + 1) = ((x.length - y.length + 1 : Nat) : Int) := by rw [IntWalk.i64_in _ (by omega)]; omega
  have m2 : x.length + 1 ≤ D.length + 2 := by omega
  have m3 : ((4 : Nat) : Int) * ((x.length - y.length + 1 : Nat) : Int) ≤ 281474976710656 := by omega
  have m4 : ((x.length - y.length + 1 : Nat) : Int) ≤ 9223372036854775807 := by omega
  have a1 : lm D ++ [PV.int .u32 0, .int .u32 0] = lm (D ++ [0, 0]) := by rw [← lm_append]; rfl
  simp only [S1, S2, S3, S4, S5, r_idx, r_mks, ev, resultsV, resL, resV, vl, gt, st, sto, fgt, i64, subCV, fill, setCells, mkAgg, allP, frz, frz1, frzL, frzs, kill, kill1, killL, kills, bnd, unV, bsz, toPs, toP, isPure1, pureL, List.elem, List.replicate, Int.reduceLE, Int.reduceLT, ↓reduceIte, reduceCtorEq, Nat.reduceLT, Nat.reduceEqDiff, Nat.reduceAdd, Nat.reduceMul, Nat.reduceLeDiff, Nat.reduceBEq, r_append, c1, c2, m1, lm_len, a1, w2, w3, w4, Int.natCast_nonneg, Int.toNat_natCast, sliceV, Nat.zero_le, m2, bsz, Nat.sub_zero, m3, m4, Int.le_refl, lm_rep]
  have hj0 : ((x.length - y.length + 1 : Nat) : Int) - 1 = ((x.length - y.length : Nat) : Int) := by omega
  have hbn : val b * 2 ^ n ≠ 0 := Nat.mul_ne_zero hne (Nat.ne_of_gt (Nat.pow_pos (by decide)))
  generalize hv : dgl (val b * 2 ^ n) = v at *
  have hvL : Lim v := by rw [← hv]; exact dgl_lim _
  have hV : val v = val b * 2 ^ n := by rw [← hv, val_dgl]
  have hVlt : val v < LB ^ y.length := by rw [← hvl]; exact val_lt hvL
  have htop : v[v.length - 1]'(by omega) ≠ 0 := by
    simp only [← hv]
    exact (norm_len hbn (List.getElem?_eq_getElem (by have := List.length_pos_iff.2 (dgl_ne hbn); omega)) rfl).2.2
  have hDv : val D = val a * 2 ^ n := by rw [← hD, val_dgl]
  have hI0 : DivI (val a * 2 ^ n) (val v) x.length y.length (x.length - y.length + 1) (D ++ [0, 0]) [] := by
    have t1 : (D ++ [0, 0]).take (x.length + 1) = D ++ List.replicate (x.length + 1 - D.length) 0 := by
      rw [List.take_append, List.take_of_length_le (by omega)]
      congr 1
      rcases (show x.length + 1 - D.length = 0 ∨ x.length + 1 - D.length = 1 by omega) with h | h <;> rw [h] <;> rfl
    have t2 : val ((D ++ [0, 0]).take (x.length + 1)) = val a * 2 ^ n := by
      rw [t1, val_append, val_rep, Nat.mul_zero, Nat.add_zero, hDv]
    have g1 : LB ^ (y.length - 1) ≤ val b := by
      rcases Nat.lt_or_ge (val b) (LB ^ (y.length - 1)) with h | h
      · have := dgl_len h; rw [hy] at this; omega
      · exact h
    have g2 : val a < LB ^ x.length := by have := val_lt (dgl_lim (val a)); rwa [val_dgl, hx] at this
    have g3 : LB ^ x.length = LB ^ (y.length - 1) * LB ^ (x.length - y.length + 1) := by rw [← Nat.pow_add]; congr 1; omega
    have g4 : val a < val b * LB ^ (x.length - y.length + 1) := Nat.lt_of_lt_of_le g2 (by rw [g3]; exact Nat.mul_le_mul_right _ g1)
    have hll : (D ++ [0, 0]).length = D.length + 2 := by rw [List.length_append]; rfl
    have hL2 : Lim (D ++ [0, 0]) := hDL.append (by intro y hy; simp at hy; rw [hy]; exact LB_pos)
    refine ⟨Nat.le_refl _, by rw [Nat.sub_self]; rfl, (fun _ h => by cases h), by rw [hll]; omega, hL2, by rw [t2]; simp [val], ?_⟩
    rw [t2, hV, Nat.mul_right_comm]
    exact Nat.mul_lt_mul_of_pos_right g4 (Nat.pow_pos (by decide))
  refine loop_rule (β := Nat × List Nat × List Nat) (fun t => ([(9, .p (.int .i64 (n : Int))), (10, .p (.sl (lm v))), (11, .own 2 0 (x.length + 1)), (12, .own 3 0 (x.length - y.length + 1)), (13, i64 ((t.1 : Int) - 1))],
      [.dead, .prow 1 [.int .u32 0, .int .u32 0], .prow 1 (lm t.2.1), .prow 1 (lm (List.replicate t.1 0 ++ t.2.2))]))
    (fun t => DivI (val a * 2 ^ n) (val v) x.length y.length t.1 t.2.1 t.2.2) (fun t => t.1) ((x.length - y.length + 1, D ++ [0, 0], []) : Nat × List Nat × List Nat) (by dsimp only; rw [hj0]; rfl) (by simp [List.replicate_succ]) hI0 ?_
  rintro ⟨i, F, q⟩ hI ih
  simp only [] at hI ih ⊢
  cases i with
  | zero =>
    have hneg : ¬ (((0 : Nat) : Int) - 1 ≥ 0) := by omega
    have htq := p144 hI.qL (by have := hI.ql; omega)
    have hFl := hI.fl
    have hFtl : (F.take (x.length + 1)).length = x.length + 1 := by rw [List.length_take]; omega
    have htf := p144 (l := F.take (x.length + 1)) hI.fL.take (by omega)
    have hval := hI.eq
    have hlt := hI.lt
    rw [Nat.pow_zero, Nat.one_mul, hV] at hval
    rw [Nat.pow_zero, Nat.mul_one, hV] at hlt
    have hp : 0 < val b * 2 ^ n := Nat.pos_of_ne_zero hbn
    have h2p : 0 < 2 ^ n := Nat.pow_pos (by decide)
    have q1 : val q = val a / val b := by
      rw [← Nat.mul_div_mul_right (val a) (val b) h2p, ← hval, Nat.add_mul_div_right _ _ hp, Nat.div_eq_of_lt hlt, Nat.zero_add]
    have q2 : val (F.take (x.length + 1)) / 2 ^ n = val a % val b := by
      have : val a * 2 ^ n % (val b * 2 ^ n) = val (F.take (x.length + 1)) := by rw [← hval, Nat.add_mul_mod_self_right, Nat.mod_eq_of_lt hlt]
      rw [← this, Nat.mul_mod_mul_right, Nat.mul_div_cancel _ h2p]
    have h188 := p188 (n := n) (dgl_lim (val (F.take (x.length + 1)))) (by have := dgl_len (val_lt (hI.fL.take (n := x.length + 1))); omega) hn32
    rw [val_dgl, q2] at h188
    rw [q1] at htq
    have hfz : frz1 [Blk.dead, Blk.prow 1 [.int .u32 0, .int .u32 0], Blk.prow 1 (lm F), Blk.dead] (.own 2 0 (x.length + 1)) = some (.sl (lm (F.take (x.length + 1)))) := by
      simp only [frz1, List.getElem?_cons_succ, List.getElem?_cons_zero, Nat.zero_add, lm_len, hFl, if_true, List.drop_zero, lm_take]
    have hqe : x.length - y.length + 1 = (lm q).length := by rw [lm_len, hI.ql]; omega
    have hq0 : List.replicate 0 0 ++ q = q := rfl
    simp only [S1, S2, S3, S4, S5, r_idx, r_mks, ev, resultsV, resL, resV, vl, gt, st, sto, fgt, i64, subCV, fill, setCells, mkAgg, allP, frz, frz1, frzL, frzs, kill, kill1, killL, kills, bnd, unV, bsz, toPs, toP, isPure1, pureL, List.elem, List.replicate, Int.reduceLE, Int.reduceLT, ↓reduceIte, reduceCtorEq, Nat.reduceLT, Nat.reduceEqDiff, Nat.reduceAdd, Nat.reduceMul, Nat.reduceLeDiff, Nat.reduceBEq, hneg, hq0]
    rw [kf_own htq rfl hqe]
    simp only [S1, S2, S3, S4, S5, r_idx, r_mks, ev, resultsV, resL, resV, vl, gt, st, sto, fgt, i64, subCV, fill, setCells, mkAgg, allP, frz, frz1, frzL, frzs, kill, kill1, killL, kills, bnd, unV, bsz, toPs, toP, isPure1, pureL, List.elem, List.replicate, Int.reduceLE, Int.reduceLT, ↓reduceIte, reduceCtorEq, Nat.reduceLT, Nat.reduceEqDiff, Nat.reduceAdd, Nat.reduceMul, Nat.reduceLeDiff, Nat.reduceBEq]
    rw [kf_win htf hfz]
    simp only [S1, S2, S3, S4, S5, r_idx, r_mks, ev, resultsV, resL, resV, vl, gt, st, sto, fgt, i64, subCV, fill, setCells, mkAgg, allP, frz, frz1, frzL, frzs, kill, kill1, killL, kills, bnd, unV, bsz, toPs, toP, isPure1, pureL, List.elem, List.replicate, Int.reduceLE, Int.reduceLT, ↓reduceIte, reduceCtorEq, Nat.reduceLT, Nat.reduceEqDiff, Nat.reduceAdd, Nat.reduceMul, Nat.reduceLeDiff, Nat.reduceBEq, kp2 h188]
    exact back_t3 back1_p back1_p back1_p
  | succ j =>
    have hge0 : ((j + 1 : Nat) : Int) - 1 ≥ 0 := by omega
    have hje : ((j + 1 : Nat) : Int) - 1 = (j : Int) := by omega
    have hi := hI.hi
    obtain ⟨hsp, hW0, hz⟩ := hI.split hkm hVlt
    have hFl := hI.fl
    have hVp : 0 < val v := by rw [hV]; exact Nat.pos_of_ne_zero hbn
    have hWq : val ((F.drop j).take (y.length + 1)) / val v < LB := (Nat.div_lt_iff_lt_mul hVp).2 hW0
    have hstep := fun W h1 h2 h3 => hI.step (W := W) hkm hVlt hVp hWq h1 h2 h3
    obtain ⟨P, hP⟩ : ∃ P, P = F.take j := ⟨_, rfl⟩
    obtain ⟨W0, hW⟩ : ∃ W0, W0 = (F.drop j).take (y.length + 1) := ⟨_, rfl⟩
    obtain ⟨T, hT⟩ : ∃ T, T = F.drop (j + (y.length + 1)) := ⟨_, rfl⟩
    rw [← hP, ← hW, ← hT] at hstep
    rw [← hW] at hW0 hWq
    have hFe : F = P ++ (W0 ++ T) := by rw [hP, hW, hT, ← List.drop_drop, List.take_append_drop, List.take_append_drop]
    have hPl : P.length = j := by rw [hP, List.length_take]; omega
    have hW0l : W0.length = v.length + 1 := by rw [hW, List.length_take, List.length_drop]; omega
    have hW0L : Lim W0 := by rw [hW]; exact hI.fL.drop.take
    have hwf0 : Wf [Blk.dead, Blk.prow 1 [PV.int .u32 0, PV.int .u32 0], Blk.dead, Blk.prow 1 (lm (List.replicate (j + 1) 0 ++ q))] := by
      intro x hx
      simp only [List.mem_cons, List.not_mem_nil, or_false] at hx
      rcases hx with rfl | rfl | rfl | rfl <;> rfl
    have k187' := fun {rs base d l dr ks e Q} h => k187 (P := P) (T := T) (off := j) (b := 2) (W0 := W0) (v := v) (σ := [Blk.dead, Blk.prow 1 [PV.int .u32 0, PV.int .u32 0], Blk.dead, Blk.prow 1 (lm (List.replicate (j + 1) 0 ++ q))]) (rs := rs) (base := base) (d := d) (l := l) (dr := dr) (ks := ks) (e := e) (Q := Q) (by simp) hwf0 hPl hvL (by omega) (by omega) hW0L hW0l htop hW0 h
    rw [hvl] at k187'
    have hje2 : ((x.length - y.length + 1 : Nat) : Int) = (x.length - y.length : Nat) + 1 := by omega
    have w5 : IntKind.i64.wrap ((j : Int) + y.length) = ((j + y.length : Nat) : Int) := by rw [IntWalk.i64_in _ (by omega)]; omega
    have w6 : IntKind.i64.wrap (((j + y.length : Nat) : Int) + 1) = ((j + y.length + 1 : Nat) : Int) := by rw [IntWalk.i64_in _ (by omega)]; omega
    have e3 : j + y.length + 1 - j = y.length + 1 := by omega
    have e4 : j ≤ j + y.length + 1 := by omega
    have e5 : j + y.length + 1 ≤ x.length + 1 := by omega
    have hjm : j < x.length - y.length + 1 := by omega
    have hset : (0 :: (List.replicate j 0 ++ q)).set j (val W0 / val v) = List.replicate j 0 ++ (val W0 / val v :: q) := by
      rw [← List.cons_append, ← List.replicate_succ, List.replicate_succ', List.append_assoc]
      rw [List.set_append_right _ _ (by rw [List.length_replicate]; omega), List.length_replicate, Nat.sub_self]
      rfl
    simp only [S1, S2, S3, S4, S5, r_idx, r_mks, ev, resultsV, resL, resV, vl, gt, st, sto, fgt, i64, subCV, fill, setCells, mkAgg, allP, frz, frz1, frzL, frzs, kill, kill1, killL, kills, bnd, unV, bsz, toPs, toP, isPure1, pureL, List.elem, List.replicate, Int.reduceLE, Int.reduceLT, ↓reduceIte, reduceCtorEq, Nat.reduceLT, Nat.reduceEqDiff, Nat.reduceAdd, Nat.reduceMul, Nat.reduceLeDiff, Nat.reduceBEq, hge0, hje, lm_len, hvl, w5, w6, sliceV, e4, e5, e3, bsz, Int.natCast_nonneg, Int.toNat_natCast]
    rw [hFe]
    refine k187' fun W h1 h2 h3 => ?_
    have hql : 0 < (lm (0 :: (List.replicate j 0 ++ q))).length := by simp [lm]
    have w7 : IntKind.i64.wrap ((j : Int) - 1) = (j : Int) - 1 := IntWalk.i64_in _ (by omega)
    have hJ := hstep W (by rw [h1]) h2 h3
    have hget : (lm (0 :: (List.replicate j 0 ++ q)))[j]? = some (.int .u32 ((0 : Nat) : Int)) := lm_get? (by
      rw [← List.cons_append, ← List.replicate_succ, List.getElem?_append_left (by rw [List.length_replicate]; omega), List.getElem?_replicate, if_pos (Nat.lt_succ_self _)])
    simp only [S1, S2, S3, S4, S5, r_idx, r_mks, ev, resultsV, resL, resV, vl, gt, st, sto, fgt, i64, subCV, fill, setCells, mkAgg, allP, frz, frz1, frzL, frzs, kill, kill1, killL, kills, bnd, unV, bsz, toPs, toP, isPure1, pureL, List.elem, List.replicate, Int.reduceLE, Int.reduceLT, ↓reduceIte, reduceCtorEq, Nat.reduceLT, Nat.reduceEqDiff, Nat.reduceAdd, Nat.reduceMul, Nat.reduceLeDiff, Nat.reduceBEq, hjm, hget, lm_set, hset, w7, Int.natCast_nonneg, Int.toNat_natCast]
    refine ih (j, P ++ (W ++ T), val W0 / val v :: q) _ hJ (Nat.lt_succ_self _) ?_
    rfl

theorem p159 {a b : List Nat} (ha : Lim a) (hb : Lim b) (hna : a.length ≤ 400000000000) (hnb : b.length ≤ 400000000000) (h0 : val b ≠ 0) :
    Pu rp 159 [.sl (lm a), .sl (lm b)] (.tup [.p (.sl (lm (dgl (val a / val b)))), .p (.sl (lm (dgl (val a % val b)))), .p (.int .i64 0)]) := by
  rcases Nat.lt_or_ge (val a) (val b) with h | h
  · exact p159l ha hb hna hnb h
  · have hl := List.length_pos_iff.2 (dgl_ne h0)
    rcases (show (dgl (val b)).length = 1 ∨ 2 ≤ (dgl (val b)).length by omega) with h1 | h1
    · exact p159s ha hb hna hnb h h1
    · exact p159g ha hb hna hnb h h1
end Go.Proofs.Ytdieenbfdeaffaa.VBn

namespace Go.Proofs.Ytdieenbfdeaffaa.VBn
open Go Vpi
set_option maxRecDepth 100000
set_option linter.unusedSimpArgs false
set_option linter.unusedVariables false

theorem rp77 : rp 77 = some f77 := rfl
theorem rp146 : rp 146 = some f146 := rfl
theorem rp145 : rp 145 = some f145 := rfl
theorem rp157 : rp 157 = some f157 := rfl
theorem rp134 : rp 134 = some f134 := rfl

/-- numbers are at most so long -/
def CapN : Nat := 100000000000
theorem CapN_eq : CapN = 100000000000 := by unfold CapN; rfl
attribute [irreducible] CapN

/-- the number of a sign and limbs -/
def iv (neg : Bool) (l : List Nat) : Int := if neg then -(val l : Int) else val l

/-- a program's number, in whatever form -/
def Nu (p : PV) (x : Int) : Prop := ∃ neg l, p = .agg [.bool neg, .sl (lm l)] ∧ Lim l ∧ l.length ≤ CapN ∧ x = iv neg l

/-- small enough -/
def Sz (x : Int) : Prop := x.natAbs < LB ^ CapN

theorem iv_abs {neg : Bool} {l : List Nat} : (iv neg l).natAbs = val l := by
  unfold iv
  cases neg <;> simp

theorem mk_iv {neg : Bool} {v : Nat} : mk neg v = zi (if neg then -(v : Int) else v) := by
  unfold zi mk
  cases neg
  · simp; omega
  · by_cases h : v = 0
    · subst h; simp
    · simp [h]; omega

theorem mk_val {neg : Bool} {l : List Nat} : mk neg (val l) = zi (iv neg l) := mk_iv

theorem zi_raw {x : Int} : zi x = .agg [.bool (decide (x < 0) && decide (x.natAbs ≠ 0)), .sl (lm (dgl x.natAbs))] := rfl

theorem iv_dgl {x : Int} : iv (decide (x < 0) && decide (x.natAbs ≠ 0)) (dgl x.natAbs) = x := by
  unfold iv
  rw [val_dgl]
  by_cases h : x < 0
  · have : x.natAbs ≠ 0 := by omega
    simp [h, this]; omega
  · simp [h]; omega

theorem Nu.zi {x : Int} (h : Sz x) : Nu (zi x) x := ⟨_, _, zi_raw, dgl_lim _, dgl_len h, iv_dgl.symm⟩
theorem Nu.sz {p : PV} {x : Int} (h : Nu p x) : Sz x := by
  obtain ⟨neg, l, rfl, hl, hn, rfl⟩ := h
  unfold Sz
  rw [iv_abs]
  exact Nat.lt_of_lt_of_le (val_lt hl) (Nat.pow_le_pow_right LB_pos hn)
theorem Sz.neg {x : Int} (h : Sz x) : Sz (-x) := by unfold Sz at *; rwa [Int.natAbs_neg]

theorem p119 {l : List Nat} (hl : Lim l) (hn : l.length ≤ CapN) : Pu rp 119 [.sl (lm l)] (.p (.int .i64 (bl (val l) : Nat))) := by
  refine pu_of rp119 ?_
  rw [CapN_eq] at hn
  have k1 := p144 hl (by omega)
  have hd : (dgl (val l)).length ≤ l.length := dgl_len (val_lt hl)
  by_cases h0 : val l = 0
  · rw [h0, dgl_zero] at k1
    have e : (((([] : List Nat).length : Nat) : Int) == 0) = true := rfl
    simp only [f119, args0, S1, S2, S3, S4, S5, r_idx, r_mks, ev, resultsV, resL, resV, vl, gt, st, sto, fgt, i64, subCV, fill, setCells, mkAgg, allP, frz, frz1, frzL, frzs, kill, kill1, killL, kills, bnd, unV, bsz, toPs, toP, isPure1, pureL, List.elem, List.replicate, Int.reduceLE, Int.reduceLT, ↓reduceIte, reduceCtorEq, Nat.reduceLT, Nat.reduceEqDiff, Nat.reduceAdd, Nat.reduceMul, Nat.reduceLeDiff, Nat.reduceBEq, kp1 k1, lm_len, e]
    rw [h0, bl_zero]; rfl
  · have hpos := List.length_pos_iff.2 (dgl_ne h0)
    have e : (((dgl (val l)).length : Int) == 0) = false := by rw [beq_eq_false_iff_ne]; omega
    obtain ⟨t, ht⟩ : ∃ t, (dgl (val l))[(dgl (val l)).length - 1]? = some t := ⟨_, List.getElem?_eq_getElem (by omega)⟩
    obtain ⟨-, -, ht0⟩ := norm_len h0 ht rfl
    have htB : t < LB := by
      have := (dgl_lim (val l)).get (show (dgl (val l)).length - 1 < (dgl (val l)).length by omega)
      rw [List.getElem?_eq_getElem (by omega), Option.some.injEq] at ht
      omega
    have hb := bl_le htB
    have w1 : IntKind.i64.wrap (((dgl (val l)).length : Int) - 1) = (((dgl (val l)).length - 1 : Nat) : Int) := by rw [IntWalk.i64_in _ (by omega)]; omega
    have w2 : IntKind.i64.wrap (32 * (((dgl (val l)).length - 1 : Nat) : Int)) = ((32 * ((dgl (val l)).length - 1) : Nat) : Int) := by rw [IntWalk.i64_in _ (by omega)]; omega
    have w3 : IntKind.i64.wrap (((32 * ((dgl (val l)).length - 1) : Nat) : Int) + (bl t : Nat)) = ((32 * ((dgl (val l)).length - 1) + bl t : Nat) : Int) := by rw [IntWalk.i64_in _ (by omega)]; omega
    simp only [f119, args0, S1, S2, S3, S4, S5, r_idx, r_mks, ev, resultsV, resL, resV, vl, gt, st, sto, fgt, i64, subCV, fill, setCells, mkAgg, allP, frz, frz1, frzL, frzs, kill, kill1, killL, kills, bnd, unV, bsz, toPs, toP, isPure1, pureL, List.elem, List.replicate, Int.reduceLE, Int.reduceLT, ↓reduceIte, reduceCtorEq, Nat.reduceLT, Nat.reduceEqDiff, Nat.reduceAdd, Nat.reduceMul, Nat.reduceLeDiff, Nat.reduceBEq, kp1 k1, lm_len, e, w1, w2, Int.natCast_nonneg, Int.toNat_natCast, lm_get? ht, kp1 (p148 htB), w3]
    have hbl : bl (val l) = 32 * ((dgl (val l)).length - 1) + bl t := by
      have hlt : (dgl (val l)).length - 1 < (dgl (val l)).length := by omega
      have s := val_split (l := dgl (val l)) (i := (dgl (val l)).length - 1) (by omega)
      rw [List.getElem?_eq_getElem hlt, Option.some.injEq] at ht
      rw [List.drop_eq_getElem_cons hlt, val, ht, show (dgl (val l)).length - 1 + 1 = (dgl (val l)).length by omega, List.drop_length, val, Nat.mul_zero, Nat.add_zero, val_dgl] at s
      have hlow := val_lt ((dgl_lim (val l)).take (n := (dgl (val l)).length - 1))
      rw [List.length_take, Nat.min_eq_left (by omega)] at hlow
      have hLB : LB ^ ((dgl (val l)).length - 1) = 2 ^ (32 * ((dgl (val l)).length - 1)) := by rw [Nat.pow_mul]; rfl
      rw [hLB] at s hlow
      obtain ⟨b1, b2, b3⟩ := bl_spec ht0
      refine bl_eq h0 ?_ ?_
      · rw [show 32 * ((dgl (val l)).length - 1) + bl t - 1 = 32 * ((dgl (val l)).length - 1) + (bl t - 1) by omega, Nat.pow_add]
        exact Nat.le_trans (Nat.mul_le_mul_left _ b1) (Nat.le_trans (Nat.le_add_left _ _) (Nat.le_of_eq s.symm))
      · rw [Nat.pow_add]
        calc val l = _ := s
          _ < 2 ^ (32 * ((dgl (val l)).length - 1)) * (t + 1) := by rw [Nat.mul_add, Nat.mul_one]; omega
          _ ≤ _ := Nat.mul_le_mul_left _ b2
    rw [hbl]; rfl

theorem bl_eq0 {v : Nat} : bl v = 0 ↔ v = 0 := by
  unfold bl; split <;> simp [*]

theorem p77 {p : PV} {x : Int} (h : Nu p x) : Pu rp 77 [p] (.p (.int .i64 x.sign)) := by
  obtain ⟨neg, l, rfl, hl, hn, rfl⟩ := h
  refine pu_of rp77 ?_
  by_cases h0 : val l = 0
  · have e : ((bl (val l) : Int) == 0) = true := by rw [bl_eq0.2 h0]; rfl
    simp only [f77, args0, S1, S2, S3, S4, S5, r_idx, r_mks, ev, resultsV, resL, resV, vl, gt, st, sto, fgt, i64, subCV, fill, setCells, mkAgg, allP, frz, frz1, frzL, frzs, kill, kill1, killL, kills, bnd, unV, bsz, toPs, toP, isPure1, pureL, List.elem, List.replicate, Int.reduceLE, Int.reduceLT, ↓reduceIte, reduceCtorEq, Nat.reduceLT, Nat.reduceEqDiff, Nat.reduceAdd, Nat.reduceMul, Nat.reduceLeDiff, Nat.reduceBEq, kp1 (p119 hl hn), e]
    have : iv neg l = 0 := by unfold iv; rw [h0]; cases neg <;> rfl
    rw [this]; rfl
  · have e : ((bl (val l) : Int) == 0) = false := by rw [beq_eq_false_iff_ne]; have := mt bl_eq0.1 h0; omega
    cases neg
    · simp only [f77, args0, S1, S2, S3, S4, S5, r_idx, r_mks, ev, resultsV, resL, resV, vl, gt, st, sto, fgt, i64, subCV, fill, setCells, mkAgg, allP, frz, frz1, frzL, frzs, kill, kill1, killL, kills, bnd, unV, bsz, toPs, toP, isPure1, pureL, List.elem, List.replicate, Int.reduceLE, Int.reduceLT, ↓reduceIte, reduceCtorEq, Nat.reduceLT, Nat.reduceEqDiff, Nat.reduceAdd, Nat.reduceMul, Nat.reduceLeDiff, Nat.reduceBEq, kp1 (p119 hl hn), e]
      have : (iv false l).sign = 1 := Int.sign_eq_one_of_pos (by unfold iv; simp; omega)
      rw [this]; rfl
    · simp only [f77, args0, S1, S2, S3, S4, S5, r_idx, r_mks, ev, resultsV, resL, resV, vl, gt, st, sto, fgt, i64, subCV, fill, setCells, mkAgg, allP, frz, frz1, frzL, frzs, kill, kill1, killL, kills, bnd, unV, bsz, toPs, toP, isPure1, pureL, List.elem, List.replicate, Int.reduceLE, Int.reduceLT, ↓reduceIte, reduceCtorEq, Nat.reduceLT, Nat.reduceEqDiff, Nat.reduceAdd, Nat.reduceMul, Nat.reduceLeDiff, Nat.reduceBEq, kp1 (p119 hl hn), e]
      have : (iv true l).sign = -1 := Int.sign_eq_neg_one_of_neg (by unfold iv; simp; omega)
      rw [this]; rfl

theorem p146 {p : PV} {x : Int} (h : Nu p x) : Pu rp 146 [p] (.p (zi (-x))) := by
  obtain ⟨neg, l, rfl, hl, hn, rfl⟩ := h
  refine pu_of rp146 ?_
  rw [CapN_eq] at hn
  have e : -iv neg l = iv (!neg) l := by unfold iv; cases neg <;> simp
  rw [e, ← mk_val]
  simp only [f146, args0, S1, S2, S3, S4, S5, r_idx, r_mks, ev, resultsV, resL, resV, vl, gt, st, sto, fgt, i64, subCV, fill, setCells, mkAgg, allP, frz, frz1, frzL, frzs, kill, kill1, killL, kills, bnd, unV, bsz, toPs, toP, isPure1, pureL, List.elem, List.replicate, Int.reduceLE, Int.reduceLT, ↓reduceIte, reduceCtorEq, Nat.reduceLT, Nat.reduceEqDiff, Nat.reduceAdd, Nat.reduceMul, Nat.reduceLeDiff, Nat.reduceBEq, unV, kp2 (p105 hl (by omega))]
  rfl

theorem bq1 : (true == false) = false := rfl
theorem bq2 : (false == true) = false := rfl

theorem p145 {p q : PV} {x y : Int} (h : Nu p x) (h' : Nu q y) : Pu rp 145 [p, q] (.p (zi (x + y))) := by
  obtain ⟨n1, a, rfl, ha, hna, rfl⟩ := h
  obtain ⟨n2, b, rfl, hb, hnb, rfl⟩ := h'
  refine pu_of rp145 ?_
  rw [CapN_eq] at hna hnb
  have hcmp := p177 ha hb (by omega) (by omega)
  by_cases hs : n1 = n2
  · subst hs
    have hd : (dgl (val a + val b)).length ≤ a.length + b.length + 1 := dgl_len (by
      have h1 := Nat.lt_of_lt_of_le (val_lt ha) (Nat.pow_le_pow_right LB_pos (show a.length ≤ a.length + b.length by omega))
      have h2 := Nat.lt_of_lt_of_le (val_lt hb) (Nat.pow_le_pow_right LB_pos (show b.length ≤ a.length + b.length by omega))
      rw [Nat.pow_succ]
      have h3 : LB ^ (a.length + b.length) * 2 ≤ LB ^ (a.length + b.length) * LB := Nat.mul_le_mul_left _ (by decide)
      omega)
    have k1 := p176 ha hb (by omega) (by omega)
    have k2 := p105 (neg := n1) (dgl_lim (val a + val b)) (by omega)
    rw [val_dgl] at k2
    have e : zi (iv n1 a + iv n1 b) = mk n1 (val a + val b) := by
      rw [mk_iv]; unfold iv; congr 1; cases n1 <;> simp; omega
    rw [e]
    cases n1 <;> simp only [f145, args0, S1, S2, S3, S4, S5, r_idx, r_mks, ev, resultsV, resL, resV, vl, gt, st, sto, fgt, i64, subCV, fill, setCells, mkAgg, allP, frz, frz1, frzL, frzs, kill, kill1, killL, kills, bnd, unV, bsz, toPs, toP, isPure1, pureL, List.elem, List.replicate, Int.reduceLE, Int.reduceLT, ↓reduceIte, reduceCtorEq, Nat.reduceLT, Nat.reduceEqDiff, Nat.reduceAdd, Nat.reduceMul, Nat.reduceLeDiff, Nat.reduceBEq, kp2 k1, kp2 k2] <;> rfl
  · by_cases hlt : val a < val b
    · have hci : cmpI (val a) (val b) < 0 := lt_of_cmp.2 hlt
      have k1 := p178 hb ha (by omega) (by omega) (Nat.le_of_lt hlt)
      have hd : (dgl (val b - val a)).length ≤ b.length := dgl_len (Nat.lt_of_le_of_lt (Nat.sub_le _ _) (val_lt hb))
      have k2 := p105 (neg := n2) (dgl_lim (val b - val a)) (by omega)
      rw [val_dgl] at k2
      have e : zi (iv n1 a + iv n2 b) = mk n2 (val b - val a) := by
        rw [mk_iv]; unfold iv; congr 1; cases n1 <;> cases n2 <;> simp at hs ⊢ <;> omega
      rw [e]
      cases n1 <;> cases n2 <;> simp at hs <;> simp only [f145, args0, S1, S2, S3, S4, S5, r_idx, r_mks, ev, resultsV, resL, resV, vl, gt, st, sto, fgt, i64, subCV, fill, setCells, mkAgg, allP, frz, frz1, frzL, frzs, kill, kill1, killL, kills, bnd, unV, bsz, toPs, toP, isPure1, pureL, List.elem, List.replicate, Int.reduceLE, Int.reduceLT, ↓reduceIte, reduceCtorEq, Nat.reduceLT, Nat.reduceEqDiff, Nat.reduceAdd, Nat.reduceMul, Nat.reduceLeDiff, Nat.reduceBEq, kp2 hcmp, hci, kp2 k1, kp2 k2, bq1, bq2] <;> rfl
    · have hci : ¬ cmpI (val a) (val b) < 0 := by rw [lt_of_cmp]; exact hlt
      have k1 := p178 ha hb (by omega) (by omega) (Nat.le_of_not_lt hlt)
      have hd : (dgl (val a - val b)).length ≤ a.length := dgl_len (Nat.lt_of_le_of_lt (Nat.sub_le _ _) (val_lt ha))
      have k2 := p105 (neg := n1) (dgl_lim (val a - val b)) (by omega)
      rw [val_dgl] at k2
      have e : zi (iv n1 a + iv n2 b) = mk n1 (val a - val b) := by
        rw [mk_iv]; unfold iv; congr 1; cases n1 <;> cases n2 <;> simp at hs ⊢ <;> omega
      rw [e]
      cases n1 <;> cases n2 <;> simp at hs <;> simp only [f145, args0, S1, S2, S3, S4, S5, r_idx, r_mks, ev, resultsV, resL, resV, vl, gt, st, sto, fgt, i64, subCV, fill, setCells, mkAgg, allP, frz, frz1, frzL, frzs, kill, kill1, killL, kills, bnd, unV, bsz, toPs, toP, isPure1, pureL, List.elem, List.replicate, Int.reduceLE, Int.reduceLT, ↓reduceIte, reduceCtorEq, Nat.reduceLT, Nat.reduceEqDiff, Nat.reduceAdd, Nat.reduceMul, Nat.reduceLeDiff, Nat.reduceBEq, kp2 hcmp, hci, kp2 k1, kp2 k2, bq1, bq2] <;> rfl

theorem p157 {p q : PV} {x y : Int} (h : Nu p x) (h' : Nu q y) : Pu rp 157 [p, q] (.p (zi (x - y))) := by
  have k2 := p145 h (Nu.zi h'.sz.neg)
  have k1 := p146 h'
  obtain ⟨n1, a, rfl, ha, hna, rfl⟩ := h
  obtain ⟨n2, b, rfl, hb, hnb, rfl⟩ := h'
  refine pu_of rp157 ?_
  rw [Int.sub_eq_add_neg]
  simp only [f157, args0, S1, S2, S3, S4, S5, r_idx, r_mks, ev, resultsV, resL, resV, vl, gt, st, sto, fgt, i64, subCV, fill, setCells, mkAgg, allP, frz, frz1, frzL, frzs, kill, kill1, killL, kills, bnd, unV, bsz, toPs, toP, isPure1, pureL, List.elem, List.replicate, Int.reduceLE, Int.reduceLT, ↓reduceIte, reduceCtorEq, Nat.reduceLT, Nat.reduceEqDiff, Nat.reduceAdd, Nat.reduceMul, Nat.reduceLeDiff, Nat.reduceBEq, kp1 k1, kp2 k2]
  rfl

theorem Sz.le {x y : Int} (h : Sz x) (hy : y.natAbs ≤ x.natAbs) : Sz y := Nat.lt_of_le_of_lt hy h
theorem Sz.small {x : Int} (h : x.natAbs < LB) : Sz x := by
  unfold Sz
  obtain ⟨k, hk⟩ : ∃ k, CapN = k + 1 := ⟨CapN - 1, by rw [CapN_eq]⟩
  rw [hk, Nat.pow_succ]
  exact Nat.lt_of_lt_of_le h (Nat.le_mul_of_pos_left _ (Nat.pow_pos LB_pos))

theorem push_sl {base j : Nat} {σ : Store} {b : Blk} : push base (some j) σ b = (match σ[base + j]? with | some .hole => some (base + j, σ.set (base + j) b) | _ => none) := rfl

theorem p134 {p q : PV} {x y : Int} (h : Nu p x) (h' : Nu q y) (hy : 0 < y) : Pu rp 134 [p, q] (.tup [.p (zi (x / y)), .p (zi (x % y)), .p (.int .i64 0)]) := by
  have hx := h.sz
  have hys := h'.sz
  have k77y := p77 h'
  obtain ⟨n1, a, rfl, ha, hna, rfl⟩ := h
  obtain ⟨n2, b, rfl, hb, hnb, rfl⟩ := h'
  obtain rfl : n2 = false := by cases n2; rfl; unfold iv at hy; simp at hy; omega
  have hvb : iv false b = val b := rfl
  have hb0 : val b ≠ 0 := by rw [hvb] at hy; omega
  refine pu_of rp134 ?_
  rw [CapN_eq] at hna hnb
  have k1 := p159 ha hb (by omega) (by omega) hb0
  have hdq : (dgl (val a / val b)).length ≤ a.length := dgl_len (Nat.lt_of_le_of_lt (Nat.div_le_self _ _) (val_lt ha))
  have hdr : (dgl (val a % val b)).length ≤ a.length := dgl_len (Nat.lt_of_le_of_lt (Nat.mod_le _ _) (val_lt ha))
  have kq := fun neg => p105 (neg := neg) (dgl_lim (val a / val b)) (by omega)
  have kr := fun neg => p105 (neg := neg) (dgl_lim (val a % val b)) (by omega)
  simp only [val_dgl, mk_iv] at kq kr
  have bn1 : (true != false) = true := rfl
  have bn2 : (false != false) = false := rfl
  have e0 : ((0 : Int) != 0) = false := rfl
  cases n1 with
  | false =>
    have kr0 := kr false
    have kq0 := kq false
    simp only [Bool.false_eq_true, if_false] at kr0 kq0
    have hz : Nu (zi ((val a % val b : Nat) : Int)) ((val a % val b : Nat) : Int) := Nu.zi (hx.le (by rw [iv_abs]; exact Nat.mod_le _ _))
    have k77 := p77 hz
    rw [zi_raw] at k77
    have hsy : (iv false b).sign = 1 := Int.sign_eq_one_of_pos hy
    rw [hsy] at k77y
    have hq : iv false a / iv false b = ((val a / val b : Nat) : Int) := rfl
    have hr : iv false a % iv false b = ((val a % val b : Nat) : Int) := rfl
    rw [hq, hr]
    by_cases h0 : val a % val b = 0
    · have hs : (((val a % val b : Nat) : Int).sign != 0) = false := by rw [h0]; rfl
      simp only [f134, args0, S1, S2, S3, S4, S5, r_idx, r_mks, ev, resultsV, resL, resV, vl, gt, st, sto, fgt, i64, subCV, fill, setCells, mkAgg, allP, frz, frz1, frzL, frzs, kill, kill1, killL, kills, bnd, unV, bsz, toPs, toP, isPure1, pureL, List.elem, List.replicate, Int.reduceLE, Int.reduceLT, ↓reduceIte, reduceCtorEq, Nat.reduceLT, Nat.reduceEqDiff, Nat.reduceAdd, Nat.reduceMul, Nat.reduceLeDiff, Nat.reduceBEq, kp2 k1, bq1, bq2, Bool.not_true, Bool.not_false, push_sl, bn1, bn2, e0, kp2 kq0, kp2 kr0, kp1 k77, hs]
      rw [r_nilx]
      refine ⟨by rfl, ?_⟩
      simp only [S1, S2, S3, S4, S5, r_idx, r_mks, ev, resultsV, resL, resV, vl, gt, st, sto, fgt, i64, subCV, fill, setCells, mkAgg, allP, frz, frz1, frzL, frzs, kill, kill1, killL, kills, bnd, unV, bsz, toPs, toP, isPure1, pureL, List.elem, List.replicate, Int.reduceLE, Int.reduceLT, ↓reduceIte, reduceCtorEq, Nat.reduceLT, Nat.reduceEqDiff, Nat.reduceAdd, Nat.reduceMul, Nat.reduceLeDiff, Nat.reduceBEq]
      exact back_t3 back1_p back1_p back1_p
    · have hs1 : ((val a % val b : Nat) : Int).sign = 1 := Int.sign_eq_one_of_pos (by omega)
      have hs : ((1 : Int) != 0) = true := rfl
      have hs2 : ((1 : Int) != 1) = false := rfl
      rw [hs1] at k77
      simp only [f134, args0, S1, S2, S3, S4, S5, r_idx, r_mks, ev, resultsV, resL, resV, vl, gt, st, sto, fgt, i64, subCV, fill, setCells, mkAgg, allP, frz, frz1, frzL, frzs, kill, kill1, killL, kills, bnd, unV, bsz, toPs, toP, isPure1, pureL, List.elem, List.replicate, Int.reduceLE, Int.reduceLT, ↓reduceIte, reduceCtorEq, Nat.reduceLT, Nat.reduceEqDiff, Nat.reduceAdd, Nat.reduceMul, Nat.reduceLeDiff, Nat.reduceBEq, kp2 k1, bq1, bq2, Bool.not_true, Bool.not_false, push_sl, bn1, bn2, e0, kp2 kq0, kp2 kr0, kp1 k77, hs, kp1 k77y, hs2]
      rw [r_nilx]
      refine ⟨by rfl, ?_⟩
      simp only [S1, S2, S3, S4, S5, r_idx, r_mks, ev, resultsV, resL, resV, vl, gt, st, sto, fgt, i64, subCV, fill, setCells, mkAgg, allP, frz, frz1, frzL, frzs, kill, kill1, killL, kills, bnd, unV, bsz, toPs, toP, isPure1, pureL, List.elem, List.replicate, Int.reduceLE, Int.reduceLT, ↓reduceIte, reduceCtorEq, Nat.reduceLT, Nat.reduceEqDiff, Nat.reduceAdd, Nat.reduceMul, Nat.reduceLeDiff, Nat.reduceBEq]
      exact back_t3 back1_p back1_p back1_p
  | true =>
    have kr0 := kr true
    have kq0 := kq true
    simp only [if_true] at kr0 kq0
    have hrz : Sz (-((val a % val b : Nat) : Int)) := hx.le (by rw [iv_abs, Int.natAbs_neg]; exact Nat.mod_le _ _)
    have hz : Nu (zi (-((val a % val b : Nat) : Int))) (-((val a % val b : Nat) : Int)) := Nu.zi hrz
    have hqz : Sz (-((val a / val b : Nat) : Int)) := hx.le (by rw [iv_abs, Int.natAbs_neg]; exact Nat.div_le_self _ _)
    have k77 := p77 hz
    have ks := p157 (Nu.zi hqz) (Nu.zi (x := 1) (Sz.small (by decide)))
    have ka := p145 hz ⟨false, b, rfl, hb, by rw [CapN_eq]; exact hnb, rfl⟩
    rw [zi_raw] at k77 ka
    rw [zi_raw (x := -((val a / val b : Nat) : Int))] at ks
    have hsy : (iv false b).sign = 1 := Int.sign_eq_one_of_pos hy
    rw [hsy] at k77y
    have hdm := Nat.mod_add_div (val a) (val b)
    have hml := Nat.mod_lt (val a) (Nat.pos_of_ne_zero hb0)
    have hxa : iv true a = -(val a : Int) := rfl
    by_cases h0 : val a % val b = 0
    · have hs : ((-((val a % val b : Nat) : Int)).sign != 0) = false := by rw [h0]; rfl
      have hq : iv true a / iv false b = -((val a / val b : Nat) : Int) := by
        rw [hxa, hvb, Int.neg_ediv_of_dvd (Int.natCast_dvd_natCast.2 (Nat.dvd_of_mod_eq_zero h0))]; rfl
      have hr : iv true a % iv false b = -((val a % val b : Nat) : Int) := by
        rw [hxa, hvb, h0]; exact Int.emod_eq_zero_of_dvd ((Int.dvd_neg).2 (Int.natCast_dvd_natCast.2 (Nat.dvd_of_mod_eq_zero h0)))
      rw [hq, hr]
      simp only [f134, args0, S1, S2, S3, S4, S5, r_idx, r_mks, ev, resultsV, resL, resV, vl, gt, st, sto, fgt, i64, subCV, fill, setCells, mkAgg, allP, frz, frz1, frzL, frzs, kill, kill1, killL, kills, bnd, unV, bsz, toPs, toP, isPure1, pureL, List.elem, List.replicate, Int.reduceLE, Int.reduceLT, ↓reduceIte, reduceCtorEq, Nat.reduceLT, Nat.reduceEqDiff, Nat.reduceAdd, Nat.reduceMul, Nat.reduceLeDiff, Nat.reduceBEq, kp2 k1, bq1, bq2, Bool.not_true, Bool.not_false, push_sl, bn1, bn2, e0, kp2 kq0, kp2 kr0, kp1 k77, hs]
      rw [r_nilx]
      refine ⟨by rfl, ?_⟩
      simp only [S1, S2, S3, S4, S5, r_idx, r_mks, ev, resultsV, resL, resV, vl, gt, st, sto, fgt, i64, subCV, fill, setCells, mkAgg, allP, frz, frz1, frzL, frzs, kill, kill1, killL, kills, bnd, unV, bsz, toPs, toP, isPure1, pureL, List.elem, List.replicate, Int.reduceLE, Int.reduceLT, ↓reduceIte, reduceCtorEq, Nat.reduceLT, Nat.reduceEqDiff, Nat.reduceAdd, Nat.reduceMul, Nat.reduceLeDiff, Nat.reduceBEq]
      exact back_t3 back1_p back1_p back1_p
    · have hs1 : (-((val a % val b : Nat) : Int)).sign = -1 := Int.sign_eq_neg_one_of_neg (by omega)
      have hs : ((-1 : Int) != 0) = true := rfl
      have hs2 : ((-1 : Int) != 1) = true := rfl
      rw [hs1] at k77
      have hu := (Int.ediv_emod_unique (a := iv true a) (b := iv false b) (r := -((val a % val b : Nat) : Int) + iv false b) (q := -((val a / val b : Nat) : Int) - 1) hy).2
        ⟨by rw [hxa, hvb, Int.mul_sub, Int.mul_neg, Int.mul_one, ← Int.natCast_mul]; omega, by rw [hvb]; omega, by rw [hvb]; omega⟩
      rw [hu.1, hu.2]
      simp only [f134, args0, S1, S2, S3, S4, S5, r_idx, r_mks, ev, resultsV, resL, resV, vl, gt, st, sto, fgt, i64, subCV, fill, setCells, mkAgg, allP, frz, frz1, frzL, frzs, kill, kill1, killL, kills, bnd, unV, bsz, toPs, toP, isPure1, pureL, List.elem, List.replicate, Int.reduceLE, Int.reduceLT, ↓reduceIte, reduceCtorEq, Nat.reduceLT, Nat.reduceEqDiff, Nat.reduceAdd, Nat.reduceMul, Nat.reduceLeDiff, Nat.reduceBEq, kp2 k1, bq1, bq2, Bool.not_true, Bool.not_false, push_sl, bn1, bn2, e0, kp2 kq0, kp2 kr0, kp1 k77, hs, kp1 k77y, hs2, kp1 (p54 (x := 1) (by decide) (by decide)), kp2 ks, kp2 ka]
      rw [r_nilx]
      refine ⟨by rfl, ?_⟩
      simp only [S1, S2, S3, S4, S5, r_idx, r_mks, ev, resultsV, resL, resV, vl, gt, st, sto, fgt, i64, subCV, fill, setCells, mkAgg, allP, frz, frz1, frzL, frzs, kill, kill1, killL, kills, bnd, unV, bsz, toPs, toP, isPure1, pureL, List.elem, List.replicate, Int.reduceLE, Int.reduceLT, ↓reduceIte, reduceCtorEq, Nat.reduceLT, Nat.reduceEqDiff, Nat.reduceAdd, Nat.reduceMul, Nat.reduceLeDiff, Nat.reduceBEq]
      exact back_t3 back1_p back1_p back1_p
end Go.Proofs.Ytdieenbfdeaffaa.VBn

namespace Go.Proofs.Ytdieenbfdeaffaa.VBn
open Go Vpi
set_option maxRecDepth 100000
set_option linter.unusedSimpArgs false
set_option linter.unusedVariables false

theorem rp162 : rp 162 = some f162 := rfl
theorem rp170 : rp 170 = some f170 := rfl
theorem rp140 : rp 140 = some f140 := rfl
theorem rp139 : rp 139 = some f139 := rfl
theorem rp163 : rp 163 = some f163 := rfl
theorem rp141 : rp 141 = some f141 := rfl

theorem kf_gl {rs : List RRes} {base : Nat} {d : Option Nat} {l : List LOp} {dr : Dr} {ks : List KI} {e : Env} {σ : Store} {Q : CV → Store → Prop} {f sz : Nat} {c : CV} {es : List PV} {r : CV} (h : Pu rp f [.sl es] r) (hg : GL σ sz c es) :
    KC rp rs base .fz f [c] d l dr ks e σ Q = ExR rp rs base l dr ks (sto d r e) (kills σ [c]) Q :=
  kc_fz h (by simp only [frzs, hg.frz, Option.map_some])

theorem remLB {x : Nat} : (x : Int).tmod 4294967296 = ((x % LB : Nat) : Int) := rfl
theorem quoLB {x : Nat} (h : x < 18446744073709551616) : IntKind.u64.wrap ((x : Int).tdiv 4294967296) = ((x / LB : Nat) : Int) := quo64 (y := LB) h
theorem nLB : (4294967296 : Int) ≠ 0 := by decide

theorem p162 {l : List Nat} {i : Nat} (hl : Lim l) : Pu rp 162 [.sl (lm l), .int .i64 (i : Int)] (.p (.int .u64 (lg l i : Nat))) := by
  refine pu_of rp162 ?_
  by_cases h : (i : Int) < l.length
  · have hi : i < l.length := by omega
    simp only [f162, args0, S1, S2, S3, S4, S5, r_idx, r_mks, ev, resultsV, resL, resV, vl, gt, st, sto, fgt, i64, subCV, fill, setCells, mkAgg, allP, frz, frz1, frzL, frzs, kill, kill1, killL, kills, bnd, unV, bsz, toPs, toP, isPure1, pureL, List.elem, List.replicate, Int.reduceLE, Int.reduceLT, ↓reduceIte, reduceCtorEq, Nat.reduceLT, Nat.reduceEqDiff, Nat.reduceAdd, Nat.reduceMul, Nat.reduceLeDiff, Nat.reduceBEq, lm_len, h, Int.natCast_nonneg, Int.toNat_natCast, lm_get hi, w64l (hl.get hi)]
    rw [lg_in hi]; rfl
  · simp only [f162, args0, S1, S2, S3, S4, S5, r_idx, r_mks, ev, resultsV, resL, resV, vl, gt, st, sto, fgt, i64, subCV, fill, setCells, mkAgg, allP, frz, frz1, frzL, frzs, kill, kill1, killL, kills, bnd, unV, bsz, toPs, toP, isPure1, pureL, List.elem, List.replicate, Int.reduceLE, Int.reduceLT, ↓reduceIte, reduceCtorEq, Nat.reduceLT, Nat.reduceEqDiff, Nat.reduceAdd, Nat.reduceMul, Nat.reduceLeDiff, Nat.reduceBEq, lm_len, h]
    rw [lg_out (by omega)]; rfl

theorem p170 {a b : Nat} : Pu rp 170 [.int .i64 (a : Int), .int .i64 (b : Int)] (.p (.int .i64 ((max a b : Nat) : Int))) := by
  refine pu_of rp170 ?_
  by_cases h : (a : Int) > b
  · simp only [f170, args0, S1, S2, S3, S4, S5, r_idx, r_mks, ev, resultsV, resL, resV, vl, gt, st, sto, fgt, i64, subCV, fill, setCells, mkAgg, allP, frz, frz1, frzL, frzs, kill, kill1, killL, kills, bnd, unV, bsz, toPs, toP, isPure1, pureL, List.elem, List.replicate, Int.reduceLE, Int.reduceLT, ↓reduceIte, reduceCtorEq, Nat.reduceLT, Nat.reduceEqDiff, Nat.reduceAdd, Nat.reduceMul, Nat.reduceLeDiff, Nat.reduceBEq, h]
    rw [Nat.max_eq_left (by omega)]; rfl
  · simp only [f170, args0, S1, S2, S3, S4, S5, r_idx, r_mks, ev, resultsV, resL, resV, vl, gt, st, sto, fgt, i64, subCV, fill, setCells, mkAgg, allP, frz, frz1, frzL, frzs, kill, kill1, killL, kills, bnd, unV, bsz, toPs, toP, isPure1, pureL, List.elem, List.replicate, Int.reduceLE, Int.reduceLT, ↓reduceIte, reduceCtorEq, Nat.reduceLT, Nat.reduceEqDiff, Nat.reduceAdd, Nat.reduceMul, Nat.reduceLeDiff, Nat.reduceBEq, h]
    rw [Nat.max_eq_right (by omega)]; rfl

theorem drop_lg {l : List Nat} {i : Nat} : val (l.drop i) = lg l i + LB * val (l.drop (i + 1)) := by
  rcases Nat.lt_or_ge i l.length with h | h
  · rw [List.drop_eq_getElem_cons h, val, lg_in h]
  · rw [lg_out h, List.drop_of_length_le h, List.drop_of_length_le (by omega), val]; rfl

theorem drop_lt {a b : List Nat} (ha : Lim a) : ∀ {i : Nat}, val (a.drop i) < val (b.drop i) → val a < val b
  | 0, h => by simpa using h
  | i + 1, h => by
    refine drop_lt ha (i := i) ?_
    rw [drop_lg, drop_lg (l := b)]
    have h1 := lg_lt ha (i := i)
    have h2 := Nat.mul_le_mul_left LB (show val (a.drop (i + 1)) + 1 ≤ val (b.drop (i + 1)) from h)
    rw [Nat.mul_add, Nat.mul_one] at h2
    omega

theorem p140 {a b : List Nat} (ha : Lim a) (hb : Lim b) (hna : a.length ≤ 1099511627775) (hnb : b.length ≤ 1099511627775) : Pu rp 140 [.sl (lm a), .sl (lm b)] (.p (.int .i64 (cmpI (val a) (val b)))) := by
  refine pu_of rp140 ?_
  have hmx : max a.length b.length ≤ 1099511627775 := Nat.max_le.2 ⟨hna, hnb⟩
  have w1 : IntKind.i64.wrap (((max a.length b.length : Nat) : Int) - 1) = ((max a.length b.length : Nat) : Int) - 1 := IntWalk.i64_in _ (by omega)
  simp only [f140, args0, S1, S2, S3, S4, S5, r_idx, r_mks, ev, resultsV, resL, resV, vl, gt, st, sto, fgt, i64, subCV, fill, setCells, mkAgg, allP, frz, frz1, frzL, frzs, kill, kill1, killL, kills, bnd, unV, bsz, toPs, toP, isPure1, pureL, List.elem, List.replicate, Int.reduceLE, Int.reduceLT, ↓reduceIte, reduceCtorEq, Nat.reduceLT, Nat.reduceEqDiff, Nat.reduceAdd, Nat.reduceMul, Nat.reduceLeDiff, Nat.reduceBEq, lm_len, kp2 p170, w1]
  refine loop_rule (β := Nat) (fun n => ([(0, .p (.sl (lm a))), (1, .p (.sl (lm b))), (5, i64 ((n : Int) - 1))], []))
    (fun n => n ≤ max a.length b.length ∧ val (a.drop n) = val (b.drop n)) (fun n => n) (max a.length b.length) rfl rfl ⟨Nat.le_refl _, by rw [List.drop_of_length_le (Nat.le_max_left _ _), List.drop_of_length_le (Nat.le_max_right _ _)]⟩ ?_
  rintro n ⟨hn, hd⟩ ih
  by_cases h0 : ((n : Int) - 1) ≥ 0
  · obtain ⟨m, rfl⟩ : ∃ m, n = m + 1 := ⟨n - 1, by omega⟩
    have hi : ((m + 1 : Nat) : Int) - 1 = (m : Int) := by omega
    rw [hi] at h0
    have hw : IntKind.i64.wrap ((m : Int) - 1) = (m : Int) - 1 := IntWalk.i64_in _ (by omega)
    have da := drop_lg (l := a) (i := m)
    have db := drop_lg (l := b) (i := m)
    rw [hd] at da
    by_cases hlt : (lg a m : Int) < lg b m
    · simp only [S1, S2, S3, S4, S5, r_idx, r_mks, ev, resultsV, resL, resV, vl, gt, st, sto, fgt, i64, subCV, fill, setCells, mkAgg, allP, frz, frz1, frzL, frzs, kill, kill1, killL, kills, bnd, unV, bsz, toPs, toP, isPure1, pureL, List.elem, List.replicate, Int.reduceLE, Int.reduceLT, ↓reduceIte, reduceCtorEq, Nat.reduceLT, Nat.reduceEqDiff, Nat.reduceAdd, Nat.reduceMul, Nat.reduceLeDiff, Nat.reduceBEq, hi, h0, kp2 (p162 ha (i := m)), kp2 (p162 hb (i := m)), hlt]
      have := drop_lt ha (b := b) (i := m) (by omega)
      rw [cmpI, if_pos this]
      rfl
    · by_cases hgt : (lg a m : Int) > lg b m
      · simp only [S1, S2, S3, S4, S5, r_idx, r_mks, ev, resultsV, resL, resV, vl, gt, st, sto, fgt, i64, subCV, fill, setCells, mkAgg, allP, frz, frz1, frzL, frzs, kill, kill1, killL, kills, bnd, unV, bsz, toPs, toP, isPure1, pureL, List.elem, List.replicate, Int.reduceLE, Int.reduceLT, ↓reduceIte, reduceCtorEq, Nat.reduceLT, Nat.reduceEqDiff, Nat.reduceAdd, Nat.reduceMul, Nat.reduceLeDiff, Nat.reduceBEq, hi, h0, kp2 (p162 ha (i := m)), kp2 (p162 hb (i := m)), hlt, hgt]
        have := drop_lt hb (b := a) (i := m) (by omega)
        rw [cmpI, if_neg (by omega), if_neg (by omega)]
        rfl
      · simp only [S1, S2, S3, S4, S5, r_idx, r_mks, ev, resultsV, resL, resV, vl, gt, st, sto, fgt, i64, subCV, fill, setCells, mkAgg, allP, frz, frz1, frzL, frzs, kill, kill1, killL, kills, bnd, unV, bsz, toPs, toP, isPure1, pureL, List.elem, List.replicate, Int.reduceLE, Int.reduceLT, ↓reduceIte, reduceCtorEq, Nat.reduceLT, Nat.reduceEqDiff, Nat.reduceAdd, Nat.reduceMul, Nat.reduceLeDiff, Nat.reduceBEq, hi, h0, kp2 (p162 ha (i := m)), kp2 (p162 hb (i := m)), hlt, hgt, hw]
        refine ih m _ ⟨by omega, by omega⟩ (by omega) ?_
        rfl
  · obtain rfl : n = 0 := by omega
    have h0' : ¬ (((0 : Nat) : Int) - 1 ≥ 0) := by omega
    simp only [S1, S2, S3, S4, S5, r_idx, r_mks, ev, resultsV, resL, resV, vl, gt, st, sto, fgt, i64, subCV, fill, setCells, mkAgg, allP, frz, frz1, frzL, frzs, kill, kill1, killL, kills, bnd, unV, bsz, toPs, toP, isPure1, pureL, List.elem, List.replicate, Int.reduceLE, Int.reduceLT, ↓reduceIte, reduceCtorEq, Nat.reduceLT, Nat.reduceEqDiff, Nat.reduceAdd, Nat.reduceMul, Nat.reduceLeDiff, Nat.reduceBEq, h0']
    simp only [List.drop_zero] at hd
    rw [cmpI, if_neg (by omega), if_pos hd]
    rfl

theorem p139 {a b : List Nat} (ha : Lim a) (hb : Lim b) (hna : a.length ≤ 1099511627775) (hnb : b.length ≤ 1099511627775) : Pu rp 139 [.sl (lm a), .sl (lm b)] (.p (.sl (lm (dgl (val a + val b))))) := by
  refine pu_of rp139 ?_
  have hmx : max a.length b.length ≤ 1099511627775 := Nat.max_le.2 ⟨hna, hnb⟩
  simp only [f139, args0, S1, S2, S3, S4, S5, r_idx, r_mks, ev, resultsV, resL, resV, vl, gt, st, sto, fgt, i64, subCV, fill, setCells, mkAgg, allP, frz, frz1, frzL, frzs, kill, kill1, killL, kills, bnd, unV, bsz, toPs, toP, isPure1, pureL, List.elem, List.replicate, Int.reduceLE, Int.reduceLT, ↓reduceIte, reduceCtorEq, Nat.reduceLT, Nat.reduceEqDiff, Nat.reduceAdd, Nat.reduceMul, Nat.reduceLeDiff, Nat.reduceBEq, lm_len]
  refine loop_rule (β := Nat × List Nat × Nat × Store × CV) (fun t => ([(0, .p (.sl (lm a))), (1, .p (.sl (lm b))), (5, t.2.2.2.2), (6, .p (.int .u64 (t.2.2.1 : Int))), (7, i64 t.1)], t.2.2.2.1))
    (fun t => t.1 ≤ max a.length b.length ∧ t.2.1.length = t.1 ∧ Lim t.2.1 ∧ val t.2.1 + LB ^ t.1 * t.2.2.1 = val (a.take t.1) + val (b.take t.1) ∧ t.2.2.1 ≤ 1 ∧ GL t.2.2.2.1 1 t.2.2.2.2 (lm t.2.1)) (fun t => max a.length b.length - t.1) ((0, [], 0, [], .nils) : Nat × List Nat × Nat × Store × CV) rfl rfl ⟨Nat.zero_le _, rfl, (fun _ hx => nomatch hx), rfl, Nat.zero_le _, .nil⟩ ?_
  rintro ⟨i, o, c, σ, g⟩ ⟨hi, ho, hlo, hv, hc, hgl⟩ ih
  simp only [] at hi ho hlo hv hc hgl ih ⊢
  by_cases hin : (i : Int) < (max a.length b.length : Nat)
  · obtain ⟨k1, k2, k3⟩ := carry1 hc (lg_lt ha (i := i)) (lg_lt hb (i := i))
    have hst := addStep (x := lg a i) (y := lg b i) ho hv
    rw [← val_take_lg, ← val_take_lg] at hst
    have hapc : ((lm o).length + [PV.int .u32 (((c + lg a i + lg b i) % LB : Nat) : Int)].length) * 4 ≤ 140737488355328 := by rw [lm_len, ho]; simp; omega
    have hmm : (c + lg a i + lg b i) % LB % LB = (c + lg a i + lg b i) % LB := Nat.mod_mod _ _
    simp only [S1, S2, S3, S4, S5, r_idx, r_mks, ev, resultsV, resL, resV, vl, gt, st, sto, fgt, i64, subCV, fill, setCells, mkAgg, allP, frz, frz1, frzL, frzs, kill, kill1, killL, kills, bnd, unV, bsz, toPs, toP, isPure1, pureL, List.elem, List.replicate, Int.reduceLE, Int.reduceLT, ↓reduceIte, reduceCtorEq, Nat.reduceLT, Nat.reduceEqDiff, Nat.reduceAdd, Nat.reduceMul, Nat.reduceLeDiff, Nat.reduceBEq, lm_len, kp2 p170, hin, kp2 (p162 ha (i := i)), kp2 (p162 hb (i := i)), w64s k3, w64s k2, binV_rem nLB, remLB, w32, hmm, r_app hgl hapc, binV_quo nLB, quoLB k2, IntWalk.i64_in ((i : Int) + 1) (by omega)]
    rw [show lm o ++ [PV.int .u32 (((c + lg a i + lg b i) % LB : Nat) : Int)] = lm (o ++ [(c + lg a i + lg b i) % LB]) by rw [← lm_append]; rfl, ho]
    refine ih (i + 1, o ++ [(c + lg a i + lg b i) % LB], (c + lg a i + lg b i) / LB, nd σ g ++ [.prow 1 [PV.int .u32 (((c + lg a i + lg b i) % LB : Nat) : Int)], .prow 1 (lm (o ++ [(c + lg a i + lg b i) % LB]))], .own (σ.length + 1) 0 (i + 1)) _
      ⟨by omega, by simp [ho], hlo.append (.one (Nat.mod_lt _ LB_pos)), hst, k1, GL.new2 (by rw [lm_len]; simp [ho]) rfl⟩ (by simp; omega) ?_
    rfl
  · have hia : i = max a.length b.length := by omega
    have hcl : c % LB = c := Nat.mod_eq_of_lt (by unfold LB; omega)
    have hval : val (o ++ [c]) = val a + val b := by
      rw [val_append, val_one, ho, hv, List.take_of_length_le (by rw [hia]; exact Nat.le_max_left _ _), List.take_of_length_le (by rw [hia]; exact Nat.le_max_right _ _)]
    have hlim : Lim (o ++ [c]) := hlo.append (.one (by unfold LB; omega))
    have htr := p98 hlim (by simp; omega)
    rw [hval] at htr
    have hapc : ((lm o).length + [PV.int .u32 (c : Int)].length) * 4 ≤ 140737488355328 := by rw [lm_len, ho]; simp; omega
    simp only [S1, S2, S3, S4, S5, r_idx, r_mks, ev, resultsV, resL, resV, vl, gt, st, sto, fgt, i64, subCV, fill, setCells, mkAgg, allP, frz, frz1, frzL, frzs, kill, kill1, killL, kills, bnd, unV, bsz, toPs, toP, isPure1, pureL, List.elem, List.replicate, Int.reduceLE, Int.reduceLT, ↓reduceIte, reduceCtorEq, Nat.reduceLT, Nat.reduceEqDiff, Nat.reduceAdd, Nat.reduceMul, Nat.reduceLeDiff, Nat.reduceBEq, lm_len, kp2 p170, hin, w32, hcl, r_app hgl hapc]
    rw [show lm o ++ [PV.int .u32 (c : Int)] = lm (o ++ [c]) by rw [← lm_append]; rfl, ho]
    rw [kf_gl (sz := 1) htr (GL.new2 (by rw [lm_len]; simp [ho]) rfl)]
    simp only [S1, S2, S3, S4, S5, r_idx, r_mks, ev, resultsV, resL, resV, vl, gt, st, sto, fgt, i64, subCV, fill, setCells, mkAgg, allP, frz, frz1, frzL, frzs, kill, kill1, killL, kills, bnd, unV, bsz, toPs, toP, isPure1, pureL, List.elem, List.replicate, Int.reduceLE, Int.reduceLT, ↓reduceIte, reduceCtorEq, Nat.reduceLT, Nat.reduceEqDiff, Nat.reduceAdd, Nat.reduceMul, Nat.reduceLeDiff, Nat.reduceBEq]
    rfl
end Go.Proofs.Ytdieenbfdeaffaa.VBn

namespace Go.Proofs.Ytdieenbfdeaffaa.VBn
open Go Vpi
set_option maxRecDepth 100000
set_option linter.unusedSimpArgs false
set_option linter.unusedVariables false

theorem w64d {x y : Nat} (h : y ≤ x) (hx : x < 18446744073709551616) : IntKind.u64.wrap ((x : Int) - (y : Int)) = ((x - y : Nat) : Int) := by
  rw [IntKind.wrap_u64]; omega

theorem p163 {a b : List Nat} (ha : Lim a) (hb : Lim b) (hab : val b ≤ val a) (hna : a.length ≤ 1099511627775) (hnb : val b < LB ^ a.length) :
    Pu rp 163 [.sl (lm a), .sl (lm b)] (.p (.sl (lm (dgl (val a - val b))))) := by
  refine pu_of rp163 ?_
  simp only [f163, args0, S1, S2, S3, S4, S5, r_idx, r_mks, ev, resultsV, resL, resV, vl, gt, st, sto, fgt, i64, subCV, fill, setCells, mkAgg, allP, frz, frz1, frzL, frzs, kill, kill1, killL, kills, bnd, unV, bsz, toPs, toP, isPure1, pureL, List.elem, List.replicate, Int.reduceLE, Int.reduceLT, ↓reduceIte, reduceCtorEq, Nat.reduceLT, Nat.reduceEqDiff, Nat.reduceAdd, Nat.reduceMul, Nat.reduceLeDiff, Nat.reduceBEq, lm_len]
  refine loop_rule (β := Nat × List Nat × Nat × Store × CV) (fun t => ([(0, .p (.sl (lm a))), (1, .p (.sl (lm b))), (5, t.2.2.2.2), (6, .p (.int .u64 (t.2.2.1 : Int))), (7, i64 t.1)], t.2.2.2.1))
    (fun t => t.1 ≤ a.length ∧ t.2.1.length = t.1 ∧ Lim t.2.1 ∧ val t.2.1 + val (b.take t.1) = val (a.take t.1) + LB ^ t.1 * t.2.2.1 ∧ t.2.2.1 ≤ 1 ∧ GL t.2.2.2.1 1 t.2.2.2.2 (lm t.2.1)) (fun t => a.length - t.1) ((0, [], 0, [], .nils) : Nat × List Nat × Nat × Store × CV) rfl rfl ⟨Nat.zero_le _, rfl, (fun _ hx => nomatch hx), rfl, Nat.zero_le _, .nil⟩ ?_
  rintro ⟨i, o, w, σ, g⟩ ⟨hi, ho, hlo, hv, hw, hgl⟩ ih
  simp only [] at hi ho hlo hv hw hgl ih ⊢
  by_cases hin : (i : Int) < a.length
  · have hx := lg_lt ha (i := i)
    have hy := lg_lt hb (i := i)
    have k1 : lg b i + w < 18446744073709551616 := by unfold LB at hy; omega
    have hnext : ∀ r w', r + lg b i + w = lg a i + w' * LB → val (o ++ [r]) + val (b.take (i + 1)) = val (a.take (i + 1)) + LB ^ (i + 1) * w' := by
      intro r w' hr
      rw [val_take_lg, val_take_lg]
      exact subNext ho hv hr
    have hapc : ∀ r : Nat, ((lm o).length + [PV.int .u32 (r : Int)].length) * 4 ≤ 140737488355328 := by intro r; rw [lm_len, ho]; simp; omega
    have hap : ∀ r : Nat, lm o ++ [PV.int .u32 (r : Int)] = lm (o ++ [r]) := fun r => by rw [← lm_append]; rfl
    have k0 : ((0 : Int)) = ((0 : Nat) : Int) := rfl
    by_cases hlt : (lg a i : Int) < ((lg b i + w : Nat) : Int)
    · have k2 : lg a i + LB < 18446744073709551616 := by unfold LB at hx ⊢; omega
      have k2' : IntKind.u64.wrap ((lg a i : Int) + 4294967296) = ((lg a i + LB : Nat) : Int) := w64s k2
      have hr : lg a i + LB - (lg b i + w) < LB := by omega
      have hrel : lg a i + LB - (lg b i + w) + lg b i + w = lg a i + 1 * LB := by omega
      have k3 := w64d (x := lg a i + LB) (y := lg b i + w) (by omega) k2
      have hmm : (lg a i + LB - (lg b i + w)) % LB = lg a i + LB - (lg b i + w) := Nat.mod_eq_of_lt hr
      simp only [S1, S2, S3, S4, S5, r_idx, r_mks, ev, resultsV, resL, resV, vl, gt, st, sto, fgt, i64, subCV, fill, setCells, mkAgg, allP, frz, frz1, frzL, frzs, kill, kill1, killL, kills, bnd, unV, bsz, toPs, toP, isPure1, pureL, List.elem, List.replicate, Int.reduceLE, Int.reduceLT, ↓reduceIte, reduceCtorEq, Nat.reduceLT, Nat.reduceEqDiff, Nat.reduceAdd, Nat.reduceMul, Nat.reduceLeDiff, Nat.reduceBEq, lm_len, hin, kp2 (p162 ha (i := i)), kp2 (p162 hb (i := i)), w64s k1, hlt, k2', k3, w32, hmm, r_app hgl (hapc _), IntWalk.i64_in ((i : Int) + 1) (by omega)]
      rw [hap, ho]
      refine ih (i + 1, o ++ [lg a i + LB - (lg b i + w)], 1, nd σ g ++ [.prow 1 [PV.int .u32 ((lg a i + LB - (lg b i + w) : Nat) : Int)], .prow 1 (lm (o ++ [lg a i + LB - (lg b i + w)]))], .own (σ.length + 1) 0 (i + 1)) _
        ⟨by omega, by simp [ho], hlo.append (.one hr), hnext _ 1 hrel, Nat.le_refl _, GL.new2 (by rw [lm_len]; simp [ho]) rfl⟩ (by simp; omega) ?_
      rfl
    · have hr : lg a i - (lg b i + w) < LB := by omega
      have hrel : lg a i - (lg b i + w) + lg b i + w = lg a i + 0 * LB := by omega
      have k3 := w64d (x := lg a i) (y := lg b i + w) (by omega) (by unfold LB at hx; omega)
      have hmm : (lg a i - (lg b i + w)) % LB = lg a i - (lg b i + w) := Nat.mod_eq_of_lt hr
      simp only [S1, S2, S3, S4, S5, r_idx, r_mks, ev, resultsV, resL, resV, vl, gt, st, sto, fgt, i64, subCV, fill, setCells, mkAgg, allP, frz, frz1, frzL, frzs, kill, kill1, killL, kills, bnd, unV, bsz, toPs, toP, isPure1, pureL, List.elem, List.replicate, Int.reduceLE, Int.reduceLT, ↓reduceIte, reduceCtorEq, Nat.reduceLT, Nat.reduceEqDiff, Nat.reduceAdd, Nat.reduceMul, Nat.reduceLeDiff, Nat.reduceBEq, lm_len, hin, kp2 (p162 ha (i := i)), kp2 (p162 hb (i := i)), w64s k1, hlt, k3, w32, hmm, r_app hgl (hapc _), IntWalk.i64_in ((i : Int) + 1) (by omega)]
      rw [hap, ho]
      refine ih (i + 1, o ++ [lg a i - (lg b i + w)], 0, nd σ g ++ [.prow 1 [PV.int .u32 ((lg a i - (lg b i + w) : Nat) : Int)], .prow 1 (lm (o ++ [lg a i - (lg b i + w)]))], .own (σ.length + 1) 0 (i + 1)) _
        ⟨by omega, by simp [ho], hlo.append (.one hr), hnext _ 0 hrel, Nat.zero_le _, GL.new2 (by rw [lm_len]; simp [ho]) rfl⟩ (by simp; omega) ?_
      rfl
  · have hia : i = a.length := by omega
    subst hia
    have hbv : val (b.take a.length) = val b := by
      have h1 := val_split (l := b) (i := a.length)
      rcases Nat.lt_or_ge b.length a.length with h2 | h2
      · rw [List.take_of_length_le (by omega)]
      · have h1 := val_split (l := b) (i := a.length) h2
        rcases Nat.eq_zero_or_pos (val (b.drop a.length)) with h3 | h3
        · rw [h3, Nat.mul_zero, Nat.add_zero] at h1; exact h1.symm
        · have := Nat.le_mul_of_pos_right (LB ^ a.length) h3
          omega
    have hval : val o = val a - val b := by
      rw [List.take_length, hbv] at hv
      have h1 := val_lt hlo
      rw [ho] at h1
      rcases Nat.lt_or_ge w 1 with h2 | h2
      · obtain rfl : w = 0 := by omega
        rw [Nat.mul_zero] at hv
        omega
      · obtain rfl : w = 1 := by omega
        rw [Nat.mul_one] at hv
        omega
    have htr := p98 hlo (by omega)
    rw [hval] at htr
    simp only [S1, S2, S3, S4, S5, r_idx, r_mks, ev, resultsV, resL, resV, vl, gt, st, sto, fgt, i64, subCV, fill, setCells, mkAgg, allP, frz, frz1, frzL, frzs, kill, kill1, killL, kills, bnd, unV, bsz, toPs, toP, isPure1, pureL, List.elem, List.replicate, Int.reduceLE, Int.reduceLT, ↓reduceIte, reduceCtorEq, Nat.reduceLT, Nat.reduceEqDiff, Nat.reduceAdd, Nat.reduceMul, Nat.reduceLeDiff, Nat.reduceBEq, lm_len, hin, kf_gl htr hgl]
    rfl

theorem p141 {a b : List Nat} (ha : Lim a) (hb : Lim b) (hna : a.length ≤ 1099511627775) (hnb : b.length ≤ 1099511627775) (hab : val b ≤ val a) :
    Pu rp 141 [.sl (lm a), .sl (lm b)] (.tup [.p (.sl (lm (dgl (val a - val b)))), .p (.int .i64 0)]) := by
  refine pu_of rp141 ?_
  have hc : ¬ cmpI (val a) (val b) < 0 := by rw [lt_of_cmp]; omega
  simp only [f141, args0, S1, S2, S3, S4, S5, r_idx, r_mks, ev, resultsV, resL, resV, vl, gt, st, sto, fgt, i64, subCV, fill, setCells, mkAgg, allP, frz, frz1, frzL, frzs, kill, kill1, killL, kills, bnd, unV, bsz, toPs, toP, isPure1, pureL, List.elem, List.replicate, Int.reduceLE, Int.reduceLT, ↓reduceIte, reduceCtorEq, Nat.reduceLT, Nat.reduceEqDiff, Nat.reduceAdd, Nat.reduceMul, Nat.reduceLeDiff, Nat.reduceBEq, kp2 (p140 ha hb hna hnb), hc, kp2 (p163 ha hb hab hna (Nat.lt_of_le_of_lt hab (val_lt ha)))]
  exact back_t2 back1_p back1_p

theorem p147 {a b : List Nat} (ha : Lim a) (hb : Lim b) (hna : a.length ≤ 500000000000) (hnb : b.length ≤ 500000000000) : Pu rp 147 [.sl (lm a), .sl (lm b)] (.p (.sl (lm (dgl (val a * val b))))) := by
  refine pu_of rp147 ?_
  have w1 : IntKind.i64.wrap ((a.length : Int) + b.length) = ((a.length + b.length : Nat) : Int) := by rw [IntWalk.i64_in _ (by omega)]; omega
  have m1 : ((4 : Nat) : Int) * ((a.length + b.length : Nat) : Int) ≤ 281474976710656 := by omega
  have m2 : ((a.length + b.length : Nat) : Int) ≤ 9223372036854775807 := by omega
  simp only [f147, args0, S1, S2, S3, S4, S5, r_idx, r_mks, ev, resultsV, resL, resV, vl, gt, st, sto, fgt, i64, subCV, fill, setCells, mkAgg, allP, frz, frz1, frzL, frzs, kill, kill1, killL, kills, bnd, unV, bsz, toPs, toP, isPure1, pureL, List.elem, List.replicate, Int.reduceLE, Int.reduceLT, ↓reduceIte, reduceCtorEq, Nat.reduceLT, Nat.reduceEqDiff, Nat.reduceAdd, Nat.reduceMul, Nat.reduceLeDiff, Nat.reduceBEq, lm_len, w1, m1, m2, Int.natCast_nonneg, Int.toNat_natCast, Int.le_refl, lm_rep]
  refine loop_rule (β := Nat × List Nat) (fun t => ([(0, .p (.sl (lm a))), (1, .p (.sl (lm b))), (5, .own 0 0 (a.length + b.length)), (6, i64 t.1)], [.prow 1 (lm t.2)]))
    (fun t => t.1 ≤ a.length ∧ MulI a b t.1 t.2) (fun t => a.length - t.1) ((0, List.replicate (a.length + b.length) 0) : Nat × List Nat) rfl rfl ⟨Nat.zero_le _, .start⟩ ?_
  rintro ⟨i, O⟩ ⟨hi, hM⟩ ih
  simp only [] at hi hM ih ⊢
  by_cases hin : (i : Int) < a.length
  · have hix : i < a.length := by omega
    simp only [S1, S2, S3, S4, S5, r_idx, r_mks, ev, resultsV, resL, resV, vl, gt, st, sto, fgt, i64, subCV, fill, setCells, mkAgg, allP, frz, frz1, frzL, frzs, kill, kill1, killL, kills, bnd, unV, bsz, toPs, toP, isPure1, pureL, List.elem, List.replicate, Int.reduceLE, Int.reduceLT, ↓reduceIte, reduceCtorEq, Nat.reduceLT, Nat.reduceEqDiff, Nat.reduceAdd, Nat.reduceMul, Nat.reduceLeDiff, Nat.reduceBEq, hin, lm_len]
    refine loop_rule (β := Nat × List Nat × Nat) (fun t => ([(0, .p (.sl (lm a))), (1, .p (.sl (lm b))), (5, .own 0 0 (a.length + b.length)), (6, i64 i), (7, .p (.int .u64 (t.2.2 : Int))), (8, i64 t.1)], [.prow 1 (lm t.2.1)]))
      (fun t => t.1 ≤ b.length ∧ MulJ a b i t.1 t.2.1 t.2.2) (fun t => b.length - t.1) ((0, O, 0) : Nat × List Nat × Nat) rfl rfl ⟨Nat.zero_le _, hM.row⟩ ?_
    rintro ⟨j, P, c⟩ ⟨hj, hJ⟩ ih2
    simp only [] at hj hJ ih2 ⊢
    by_cases hjn : (j : Int) < b.length
    · have hjy : j < b.length := by omega
      have hkl : i + j < a.length + b.length := by omega
      have hk : i + j < P.length := by rw [hJ.len]; exact hkl
      obtain ⟨b1, b2, b3, b4⟩ := mulBound hJ.cl (ha.get hix) (hb.get hjy) (hJ.lim.get hk)
      have hJ' := hJ.step ha hb hix hjy hk
      rw [show c + (a[i] * b[j] + P[i + j]) = c + P[i + j] + a[i] * b[j] by omega] at b3 hJ'
      have b5 : c + P[i + j] < 18446744073709551616 := by omega
      have w2 : IntKind.i64.wrap ((i : Int) + j) = ((i + j : Nat) : Int) := by rw [IntWalk.i64_in _ (by omega)]; omega
      have hmm : (c + P[i + j] + a[i] * b[j]) % LB % LB = (c + P[i + j] + a[i] * b[j]) % LB := Nat.mod_mod _ _
      simp only [S1, S2, S3, S4, S5, r_idx, r_mks, ev, resultsV, resL, resV, vl, gt, st, sto, fgt, i64, subCV, fill, setCells, mkAgg, allP, frz, frz1, frzL, frzs, kill, kill1, killL, kills, bnd, unV, bsz, toPs, toP, isPure1, pureL, List.elem, List.replicate, Int.reduceLE, Int.reduceLT, ↓reduceIte, reduceCtorEq, Nat.reduceLT, Nat.reduceEqDiff, Nat.reduceAdd, Nat.reduceMul, Nat.reduceLeDiff, Nat.reduceBEq, lm_len, hjn, lm_get hix, lm_get hjy, lm_get hk, w64l (ha.get hix), w64l (hb.get hjy), w64l (hJ.lim.get hk), w64m b2, w64s b5, w64s b3, w2, binV_rem nLB, remLB, w32, hmm, binV_quo nLB, quoLB b3, Int.natCast_nonneg, Int.toNat_natCast, hkl, lm_set, IntWalk.i64_in ((j : Int) + 1) (by omega)]
      refine ih2 (j + 1, P.set (i + j) ((c + P[i + j] + a[i] * b[j]) % LB), (c + P[i + j] + a[i] * b[j]) / LB) _ ⟨by omega, hJ'⟩ (by simp; omega) ?_
      rfl
    · obtain rfl : j = b.length := by omega
      have hkl : i + b.length < a.length + b.length := by omega
      have hk : i + b.length < P.length := by rw [hJ.len]; exact hkl
      have w2 : IntKind.i64.wrap ((i : Int) + b.length) = ((i + b.length : Nat) : Int) := by rw [IntWalk.i64_in _ (by omega)]; omega
      have hcl : c % LB = c := Nat.mod_eq_of_lt hJ.cl
      simp only [S1, S2, S3, S4, S5, r_idx, r_mks, ev, resultsV, resL, resV, vl, gt, st, sto, fgt, i64, subCV, fill, setCells, mkAgg, allP, frz, frz1, frzL, frzs, kill, kill1, killL, kills, bnd, unV, bsz, toPs, toP, isPure1, pureL, List.elem, List.replicate, Int.reduceLE, Int.reduceLT, ↓reduceIte, reduceCtorEq, Nat.reduceLT, Nat.reduceEqDiff, Nat.reduceAdd, Nat.reduceMul, Nat.reduceLeDiff, Nat.reduceBEq, lm_len, hjn, w2, w32, hcl, lm_get hk, Int.natCast_nonneg, Int.toNat_natCast, hkl, lm_set, IntWalk.i64_in ((i : Int) + 1) (by omega)]
      refine ih (i + 1, P.set (i + b.length) c) _ ⟨by omega, hJ.done hix⟩ (by simp; omega) ?_
      rfl
  · obtain rfl : i = a.length := by omega
    have htr := p98 hM.lim (by rw [hM.len]; omega)
    rw [hM.v, List.take_length] at htr
    simp only [S1, S2, S3, S4, S5, r_idx, r_mks, ev, resultsV, resL, resV, vl, gt, st, sto, fgt, i64, subCV, fill, setCells, mkAgg, allP, frz, frz1, frzL, frzs, kill, kill1, killL, kills, bnd, unV, bsz, toPs, toP, isPure1, pureL, List.elem, List.replicate, Int.reduceLE, Int.reduceLT, ↓reduceIte, reduceCtorEq, Nat.reduceLT, Nat.reduceEqDiff, Nat.reduceAdd, Nat.reduceMul, Nat.reduceLeDiff, Nat.reduceBEq, lm_len, hin]
    rw [kf_own htr rfl (by rw [lm_len, hM.len])]
    simp only [S1, S2, S3, S4, S5, r_idx, r_mks, ev, resultsV, resL, resV, vl, gt, st, sto, fgt, i64, subCV, fill, setCells, mkAgg, allP, frz, frz1, frzL, frzs, kill, kill1, killL, kills, bnd, unV, bsz, toPs, toP, isPure1, pureL, List.elem, List.replicate, Int.reduceLE, Int.reduceLT, ↓reduceIte, reduceCtorEq, Nat.reduceLT, Nat.reduceEqDiff, Nat.reduceAdd, Nat.reduceMul, Nat.reduceLeDiff, Nat.reduceBEq]
    rfl
end Go.Proofs.Ytdieenbfdeaffaa.VBn

namespace Go.Proofs.Ytdieenbfdeaffaa.VBn
open Go Vpi
set_option maxRecDepth 100000
set_option linter.unusedSimpArgs false
set_option linter.unusedVariables false

theorem rp82 : rp 82 = some f82 := rfl
theorem rp161 : rp 161 = some f161 := rfl
theorem rp164 : rp 164 = some f164 := rfl
theorem rp160 : rp 160 = some f160 := rfl

theorem bl_half {w : Nat} (h : w ≠ 0) : bl w = 1 + bl (w / 2) := by
  by_cases h1 : w / 2 = 0
  · obtain rfl : w = 1 := by omega
    decide
  · have := bl_shift (x := w) (k := 1) (by simpa using h1)
    simpa using this

theorem bl_top {l : List Nat} {m : Nat} (hl : Lim l) (hm : m < l.length) (h0 : l[m] ≠ 0) (hz : val (l.drop (m + 1)) = 0) : bl (val l) = 32 * m + bl l[m] := by
  have s := val_split (l := l) (i := m) (by omega)
  rw [List.drop_eq_getElem_cons hm, val, hz, Nat.mul_zero, Nat.add_zero] at s
  have hlow := val_lt (hl.take (n := m))
  rw [List.length_take, Nat.min_eq_left (by omega)] at hlow
  have hLB : LB ^ m = 2 ^ (32 * m) := by rw [Nat.pow_mul]; rfl
  rw [hLB] at s hlow
  obtain ⟨b1, b2, b3⟩ := bl_spec h0
  have hp : 0 < 2 ^ (32 * m) * l[m] := Nat.mul_pos (Nat.pow_pos (by decide)) (Nat.pos_of_ne_zero h0)
  refine bl_eq (by omega) ?_ ?_
  · rw [show 32 * m + bl l[m] - 1 = 32 * m + (bl l[m] - 1) by omega, Nat.pow_add]
    exact Nat.le_trans (Nat.mul_le_mul_left _ b1) (Nat.le_trans (Nat.le_add_left _ _) (Nat.le_of_eq s.symm))
  · rw [Nat.pow_add]
    calc val l = _ := s
      _ < 2 ^ (32 * m) * (l[m] + 1) := by rw [Nat.mul_add, Nat.mul_one]; omega
      _ ≤ _ := Nat.mul_le_mul_left _ b2

theorem half32 {x : Nat} (h : x < LB) : IntKind.u32.wrap ((x : Int).tdiv 2) = ((x / 2 : Nat) : Int) := by
  have : (x : Int).tdiv 2 = ((x / 2 : Nat) : Int) := rfl
  rw [this, w32, Nat.mod_eq_of_lt (Nat.lt_of_le_of_lt (Nat.div_le_self _ _) h)]

theorem p82 {l : List Nat} (hl : Lim l) (hn : l.length ≤ 1099511627775) : Pu rp 82 [.sl (lm l)] (.p (.int .i64 (bl (val l) : Nat))) := by
  refine pu_of rp82 ?_
  have w1 : IntKind.i64.wrap ((l.length : Int) - 1) = (l.length : Int) - 1 := IntWalk.i64_in _ (by omega)
  simp only [f82, args0, S1, S2, S3, S4, S5, r_idx, r_mks, ev, resultsV, resL, resV, vl, gt, st, sto, fgt, i64, subCV, fill, setCells, mkAgg, allP, frz, frz1, frzL, frzs, kill, kill1, killL, kills, bnd, unV, bsz, toPs, toP, isPure1, pureL, List.elem, List.replicate, Int.reduceLE, Int.reduceLT, ↓reduceIte, reduceCtorEq, Nat.reduceLT, Nat.reduceEqDiff, Nat.reduceAdd, Nat.reduceMul, Nat.reduceLeDiff, Nat.reduceBEq, lm_len, w1]
  refine loop_rule (β := Nat) (fun n => ([(0, .p (.sl (lm l))), (3, i64 ((n : Int) - 1))], []))
    (fun n => n ≤ l.length ∧ val (l.drop n) = 0) (fun n => n) l.length rfl rfl ⟨Nat.le_refl _, by rw [List.drop_length]; rfl⟩ ?_
  rintro n ⟨hnl, hd⟩ ih
  by_cases h0 : ((n : Int) - 1) ≥ 0
  · obtain ⟨m, rfl⟩ : ∃ m, n = m + 1 := ⟨n - 1, by omega⟩
    have hm : m < l.length := hnl
    have hi : ((m + 1 : Nat) : Int) - 1 = (m : Int) := by omega
    rw [hi] at h0
    have hw : IntKind.i64.wrap ((m : Int) - 1) = (m : Int) - 1 := IntWalk.i64_in _ (by omega)
    by_cases hx : l[m] = 0
    · have e : (((l[m] : Nat) : Int) != 0) = false := by simp [hx]
      simp only [S1, S2, S3, S4, S5, r_idx, r_mks, ev, resultsV, resL, resV, vl, gt, st, sto, fgt, i64, subCV, fill, setCells, mkAgg, allP, frz, frz1, frzL, frzs, kill, kill1, killL, kills, bnd, unV, bsz, toPs, toP, isPure1, pureL, List.elem, List.replicate, Int.reduceLE, Int.reduceLT, ↓reduceIte, reduceCtorEq, Nat.reduceLT, Nat.reduceEqDiff, Nat.reduceAdd, Nat.reduceMul, Nat.reduceLeDiff, Nat.reduceBEq, hi, h0, Int.natCast_nonneg, Int.toNat_natCast, lm_get hm, e, hw]
      refine ih m _ ⟨by omega, ?_⟩ (by omega) ?_
      · rw [List.drop_eq_getElem_cons hm, val, hd, hx, Nat.mul_zero]
      · rfl
    · have e : (((l[m] : Nat) : Int) != 0) = true := by simp [hx]
      have w2 : IntKind.i64.wrap (32 * (m : Int)) = ((32 * m : Nat) : Int) := by rw [IntWalk.i64_in _ (by omega)]; omega
      have hbl := bl_top hl hm hx hd
      have hb32 := bl_le (hl.get hm)
      have hgm := lm_get hm
      have hlB := hl.get hm
      simp only [S1, S2, S3, S4, S5, r_idx, r_mks, ev, resultsV, resL, resV, vl, gt, st, sto, fgt, i64, subCV, fill, setCells, mkAgg, allP, frz, frz1, frzL, frzs, kill, kill1, killL, kills, bnd, unV, bsz, toPs, toP, isPure1, pureL, List.elem, List.replicate, Int.reduceLE, Int.reduceLT, ↓reduceIte, reduceCtorEq, Nat.reduceLT, Nat.reduceEqDiff, Nat.reduceAdd, Nat.reduceMul, Nat.reduceLeDiff, Nat.reduceBEq, hi, h0, Int.natCast_nonneg, Int.toNat_natCast, hgm, e, w2]
      rw [hbl]
      generalize l[m] = w0 at *
      refine loop_rule (β := Nat × Nat) (fun t => ([(4, i64 t.1), (5, .p (.int .u32 (t.2 : Int)))], []))
        (fun t => t.1 + bl t.2 = 32 * m + bl w0 ∧ t.2 < LB) (fun t => t.2) ((32 * m, w0) : Nat × Nat) rfl rfl ⟨rfl, hlB⟩ ?_
      rintro ⟨c, w⟩ ⟨hc, hw⟩ ih2
      simp only [] at hc hw ih2 ⊢
      by_cases hw0 : (w : Int) > 0
      · have hh := bl_half (w := w) (by omega)
        have w3 : IntKind.i64.wrap ((c : Int) + 1) = ((c + 1 : Nat) : Int) := by rw [IntWalk.i64_in _ (by omega)]; omega
        simp only [S1, S2, S3, S4, S5, r_idx, r_mks, ev, resultsV, resL, resV, vl, gt, st, sto, fgt, i64, subCV, fill, setCells, mkAgg, allP, frz, frz1, frzL, frzs, kill, kill1, killL, kills, bnd, unV, bsz, toPs, toP, isPure1, pureL, List.elem, List.replicate, Int.reduceLE, Int.reduceLT, ↓reduceIte, reduceCtorEq, Nat.reduceLT, Nat.reduceEqDiff, Nat.reduceAdd, Nat.reduceMul, Nat.reduceLeDiff, Nat.reduceBEq, hw0, w3, binV_quo (b := 2) (by decide), half32 hw]
        refine ih2 (c + 1, w / 2) _ ⟨by simp only []; omega, by simp only []; omega⟩ (by simp; omega) ?_
        rfl
      · obtain rfl : w = 0 := by omega
        rw [bl_zero, Nat.add_zero] at hc
        simp only [S1, S2, S3, S4, S5, r_idx, r_mks, ev, resultsV, resL, resV, vl, gt, st, sto, fgt, i64, subCV, fill, setCells, mkAgg, allP, frz, frz1, frzL, frzs, kill, kill1, killL, kills, bnd, unV, bsz, toPs, toP, isPure1, pureL, List.elem, List.replicate, Int.reduceLE, Int.reduceLT, ↓reduceIte, reduceCtorEq, Nat.reduceLT, Nat.reduceEqDiff, Nat.reduceAdd, Nat.reduceMul, Nat.reduceLeDiff, Nat.reduceBEq, hw0, ← hc]
        rfl
  · obtain rfl : n = 0 := by omega
    have h0' : ¬ (((0 : Nat) : Int) - 1 ≥ 0) := by omega
    simp only [S1, S2, S3, S4, S5, r_idx, r_mks, ev, resultsV, resL, resV, vl, gt, st, sto, fgt, i64, subCV, fill, setCells, mkAgg, allP, frz, frz1, frzL, frzs, kill, kill1, killL, kills, bnd, unV, bsz, toPs, toP, isPure1, pureL, List.elem, List.replicate, Int.reduceLE, Int.reduceLT, ↓reduceIte, reduceCtorEq, Nat.reduceLT, Nat.reduceEqDiff, Nat.reduceAdd, Nat.reduceMul, Nat.reduceLeDiff, Nat.reduceBEq, h0']
    rw [List.drop_zero] at hd
    rw [hd, bl_zero]
    rfl

theorem p161 {n : Nat} (hn : n < 32) : Pu rp 161 [.int .i64 (n : Int)] (.p (.sl (lm [2 ^ n]))) := by
  refine pu_of rp161 ?_
  have e1 : IntKind.i64.wrap ((n : Int).tdiv 32) = 0 := by
    have : (n : Int).tdiv 32 = 0 := by rw [Int.tdiv_eq_ediv_of_nonneg (by omega)]; omega
    rw [this]; decide
  have e2 : (n : Int).tmod 32 = (n : Int) := by rw [Int.tmod_eq_emod_of_nonneg (by omega)]; omega
  have e3 : IntKind.u64.wrap (n : Int) = (n : Int) := w64 (by omega)
  have e4 : ¬ ((0 : Int) < 0) := by omega
  have hsh : IntKind.u32.wrap (1 * 2 ^ min n IntKind.u32.bits) = ((2 ^ n : Nat) : Int) := by
    have h1 : min n IntKind.u32.bits = n := by show min n 32 = n; omega
    rw [h1, Int.one_mul, show (2 : Int) ^ n = ((2 ^ n : Nat) : Int) by push_cast; rfl, w32, Nat.mod_eq_of_lt]
    have := Nat.pow_lt_pow_right (a := 2) (by decide) hn
    unfold LB; omega
  have hapc : (([] : List PV).length + [PV.int .u32 ((2 ^ n : Nat) : Int)].length) * 4 ≤ 140737488355328 := by simp
  simp only [f161, args0, S1, S2, S3, S4, S5, r_idx, r_mks, ev, resultsV, resL, resV, vl, gt, st, sto, fgt, i64, subCV, fill, setCells, mkAgg, allP, frz, frz1, frzL, frzs, kill, kill1, killL, kills, bnd, unV, bsz, toPs, toP, isPure1, pureL, List.elem, List.replicate, Int.reduceLE, Int.reduceLT, ↓reduceIte, reduceCtorEq, Nat.reduceLT, Nat.reduceEqDiff, Nat.reduceAdd, Nat.reduceMul, Nat.reduceLeDiff, Nat.reduceBEq, lm_len]
  refine loop_rule (β := Unit) (fun t => ([(0, .p (.int .i64 (n : Int))), (3, .nils), (4, i64 0)], [])) (fun _ => True) (fun _ => 0) () rfl rfl trivial ?_
  rintro ⟨⟩ - -
  simp only [S1, S2, S3, S4, S5, r_idx, r_mks, ev, resultsV, resL, resV, vl, gt, st, sto, fgt, i64, subCV, fill, setCells, mkAgg, allP, frz, frz1, frzL, frzs, kill, kill1, killL, kills, bnd, unV, bsz, toPs, toP, isPure1, pureL, List.elem, List.replicate, Int.reduceLE, Int.reduceLT, ↓reduceIte, reduceCtorEq, Nat.reduceLT, Nat.reduceEqDiff, Nat.reduceAdd, Nat.reduceMul, Nat.reduceLeDiff, Nat.reduceBEq, binV_quo (b := 32) (by decide), binV_rem (b := 32) (by decide), e1, e2, e3, e4, Int.natCast_nonneg, Int.toNat_natCast, hsh, r_append, content, cont_nils, Nat.reduceLeDiff]
  rfl

theorem p164 {a : List Nat} {n : Nat} (ha : Lim a) (hna : a.length ≤ 500000000000) (hn : n < 32) : Pu rp 164 [.sl (lm a), .int .i64 (n : Int)] (.tup [.p (.sl (lm (dgl (val a / 2 ^ n)))), .p (.int .i64 0)]) := by
  refine pu_of rp164 ?_
  have e0 : ¬ ((n : Int) < 0) := by omega
  by_cases hbb : (n : Int) ≥ (bl (val a) : Nat)
  · have hz : val a / 2 ^ n = 0 := by
      refine Nat.div_eq_of_lt ?_
      by_cases h : val a = 0
      · rw [h]; exact Nat.pow_pos (by decide)
      · exact Nat.lt_of_lt_of_le (bl_spec h).2.1 (Nat.pow_le_pow_right (by decide) (by omega))
    simp only [f164, args0, S1, S2, S3, S4, S5, r_idx, r_mks, ev, resultsV, resL, resV, vl, gt, st, sto, fgt, i64, subCV, fill, setCells, mkAgg, allP, frz, frz1, frzL, frzs, kill, kill1, killL, kills, bnd, unV, bsz, toPs, toP, isPure1, pureL, List.elem, List.replicate, Int.reduceLE, Int.reduceLT, ↓reduceIte, reduceCtorEq, Nat.reduceLT, Nat.reduceEqDiff, Nat.reduceAdd, Nat.reduceMul, Nat.reduceLeDiff, Nat.reduceBEq, e0, kp1 (p82 ha (by omega)), hbb]
    rw [hz, dgl_zero]
    exact back_t2 back1_nils back1_p
  have e1 : IntKind.i64.wrap ((n : Int).tdiv 32) = 0 := by
    have : (n : Int).tdiv 32 = 0 := by rw [Int.tdiv_eq_ediv_of_nonneg (by omega)]; omega
    rw [this]; decide
  have e2 : (n : Int).tmod 32 = (n : Int) := by rw [Int.tmod_eq_emod_of_nonneg (by omega)]; omega
  have e3 : IntKind.u64.wrap (n : Int) = (n : Int) := w64 (by omega)
  simp only [f164, args0, S1, S2, S3, S4, S5, r_idx, r_mks, ev, resultsV, resL, resV, vl, gt, st, sto, fgt, i64, subCV, fill, setCells, mkAgg, allP, frz, frz1, frzL, frzs, kill, kill1, killL, kills, bnd, unV, bsz, toPs, toP, isPure1, pureL, List.elem, List.replicate, Int.reduceLE, Int.reduceLT, ↓reduceIte, reduceCtorEq, Nat.reduceLT, Nat.reduceEqDiff, Nat.reduceAdd, Nat.reduceMul, Nat.reduceLeDiff, Nat.reduceBEq, e0, kp1 (p82 ha (by omega)), hbb, binV_quo (b := 32) (by decide), e1]
  refine loop_rule (β := Nat × List Nat × Store × CV) (fun t => ([(0, .p (.sl (lm a))), (1, .p (.int .i64 (n : Int))), (6, t.2.2.2), (7, i64 t.1)], t.2.2.1))
    (fun t => t.1 ≤ a.length ∧ t.2.1.length = t.1 ∧ Lim t.2.1 ∧ val t.2.1 + LB ^ t.1 * (val (a.drop t.1) / 2 ^ n) = val a / 2 ^ n ∧ GL t.2.2.1 1 t.2.2.2 (lm t.2.1)) (fun t => a.length - t.1) ((0, [], [], .nils) : Nat × List Nat × Store × CV) rfl rfl ⟨Nat.zero_le _, rfl, (fun _ hx => nomatch hx), by simp [val], .nil⟩ ?_
  rintro ⟨i, o, σ, g⟩ ⟨hi, ho, hlo, hv, hgl⟩ ih
  simp only [] at hi ho hlo hv hgl ih ⊢
  by_cases hin : (i : Int) < a.length
  · have hix : i < a.length := by omega
    obtain ⟨d, hd1, hd2, hd3⟩ := shr_next (W := val (a.drop (i + 1))) (lg_lt ha (i := i)) (show n ≤ 32 by omega)
    rw [drop_mod ha] at hd1
    have hx := lg_lt ha (i := i)
    have hy := lg_lt ha (i := i + 1)
    have hmul : lg a (i + 1) * LB < 18446744073709551616 ∧ lg a i + lg a (i + 1) * LB < 18446744073709551616 := by
      have := Nat.mul_le_mul_right LB (show lg a (i + 1) ≤ LB - 1 by omega)
      rw [show (LB - 1) * LB = 18446744069414584320 by decide] at this
      unfold LB at *
      omega
    have w5 : IntKind.u64.wrap ((lg a (i + 1) : Int) * 4294967296) = ((lg a (i + 1) * LB : Nat) : Int) := w64m (y := LB) hmul.1
    have w6 := w64s (x := lg a i) (y := lg a (i + 1) * LB) hmul.2
    have w7 : IntKind.i64.wrap ((i : Int) + 1) = ((i + 1 : Nat) : Int) := by rw [IntWalk.i64_in _ (by omega)]; omega
    have hmm : (lg a i + lg a (i + 1) * LB) / 2 ^ n % LB = d := by rw [Nat.mul_comm]; exact hd1
    have hdd : d % LB = d := Nat.mod_eq_of_lt hd2
    have hapc : ((lm o).length + [PV.int .u32 (d : Int)].length) * 4 ≤ 140737488355328 := by rw [lm_len, ho]; simp; omega
    have hap : lm o ++ [PV.int .u32 (d : Int)] = lm (o ++ [d]) := by rw [← lm_append]; rfl
    simp only [S1, S2, S3, S4, S5, r_idx, r_mks, ev, resultsV, resL, resV, vl, gt, st, sto, fgt, i64, subCV, fill, setCells, mkAgg, allP, frz, frz1, frzL, frzs, kill, kill1, killL, kills, bnd, unV, bsz, toPs, toP, isPure1, pureL, List.elem, List.replicate, Int.reduceLE, Int.reduceLT, ↓reduceIte, reduceCtorEq, Nat.reduceLT, Nat.reduceEqDiff, Nat.reduceAdd, Nat.reduceMul, Nat.reduceLeDiff, Nat.reduceBEq, lm_len, hin, kp2 (p162 ha (i := i)), w7, kp2 (p162 ha (i := i + 1)), w5, w6, binV_rem (b := 32) (by decide), e2, e3, Int.natCast_nonneg, Int.toNat_natCast, shrv hn, binV_rem nLB, remLB, hmm, w32, hdd, r_app hgl hapc, hap, ho]
    refine ih (i + 1, o ++ [d], nd σ g ++ [.prow 1 [PV.int .u32 (d : Int)], .prow 1 (lm (o ++ [d]))], .own (σ.length + 1) 0 (i + 1)) _
      ⟨by omega, by simp [ho], hlo.append (.one hd2), ?_, GL.new2 (by rw [lm_len]; simp [ho]) rfl⟩ (by simp; omega) ?_
    · rw [val_append, val_one, ho, ← hv, drop_lg (i := i), hd3, Nat.pow_succ, Nat.mul_add, Nat.mul_assoc, Nat.add_assoc]
    · rfl
  · obtain rfl : i = a.length := by omega
    rw [List.drop_length, val, Nat.zero_div, Nat.mul_zero, Nat.add_zero] at hv
    have htr := p98 hlo (by omega)
    rw [hv] at htr
    simp only [S1, S2, S3, S4, S5, r_idx, r_mks, ev, resultsV, resL, resV, vl, gt, st, sto, fgt, i64, subCV, fill, setCells, mkAgg, allP, frz, frz1, frzL, frzs, kill, kill1, killL, kills, bnd, unV, bsz, toPs, toP, isPure1, pureL, List.elem, List.replicate, Int.reduceLE, Int.reduceLT, ↓reduceIte, reduceCtorEq, Nat.reduceLT, Nat.reduceEqDiff, Nat.reduceAdd, Nat.reduceMul, Nat.reduceLeDiff, Nat.reduceBEq, lm_len, hin, kf_gl htr hgl]
    exact back_t2 back1_p back1_p

theorem p160 {a : List Nat} {q : Nat} (ha : Lim a) (hq : 0 < q) (hq' : q < LB) (hna : a.length ≤ 1099511627775) :
    Pu rp 160 [.sl (lm a), .int .u64 (q : Int)] (.tup [.p (.sl (lm (dgl (val a / q)))), .p (.int .u64 ((val a % q : Nat) : Int))]) := by
  refine pu_of rp160 ?_
  have m1 : ((4 : Nat) : Int) * (a.length : Int) ≤ 281474976710656 := by omega
  have m2 : (a.length : Int) ≤ 9223372036854775807 := by omega
  have w1 : IntKind.i64.wrap ((a.length : Int) - 1) = (a.length : Int) - 1 := IntWalk.i64_in _ (by omega)
  have hq0 : (q : Int) ≠ 0 := by omega
  simp only [f160, args0, S1, S2, S3, S4, S5, r_idx, r_mks, ev, resultsV, resL, resV, vl, gt, st, sto, fgt, i64, subCV, fill, setCells, mkAgg, allP, frz, frz1, frzL, frzs, kill, kill1, killL, kills, bnd, unV, bsz, toPs, toP, isPure1, pureL, List.elem, List.replicate, Int.reduceLE, Int.reduceLT, ↓reduceIte, reduceCtorEq, Nat.reduceLT, Nat.reduceEqDiff, Nat.reduceAdd, Nat.reduceMul, Nat.reduceLeDiff, Nat.reduceBEq, lm_len, m1, m2, w1, Int.natCast_nonneg, Int.toNat_natCast, Int.le_refl, lm_rep]
  refine loop_rule (β := Nat × List Nat × Nat) (fun t => ([(0, .p (.sl (lm a))), (1, .p (.int .u64 (q : Int))), (6, .own 0 0 a.length), (7, .p (.int .u64 (t.2.2 : Int))), (8, i64 ((t.1 : Int) - 1))], [.prow 1 (lm (List.replicate t.1 0 ++ t.2.1))]))
    (fun t => t.1 ≤ a.length ∧ t.2.1.length = a.length - t.1 ∧ Lim t.2.1 ∧ t.2.2 < q ∧ val (a.drop t.1) = val t.2.1 * q + t.2.2) (fun t => t.1) ((a.length, [], 0) : Nat × List Nat × Nat) rfl (by simp) ⟨Nat.le_refl _, by simp, (fun _ hx => nomatch hx), hq, by simp [val]⟩ ?_
  rintro ⟨n, o, r⟩ ⟨hn, ho, hlo, hr, hv⟩ ih
  simp only [] at hn ho hlo hr hv ih ⊢
  by_cases h0 : ((n : Int) - 1) ≥ 0
  · obtain ⟨m, rfl⟩ : ∃ m, n = m + 1 := ⟨n - 1, by omega⟩
    have hm : m < a.length := hn
    have hi : ((m + 1 : Nat) : Int) - 1 = (m : Int) := by omega
    rw [hi] at h0
    have hw : IntKind.i64.wrap ((m : Int) - 1) = (m : Int) - 1 := IntWalk.i64_in _ (by omega)
    have hrl : r < LB := Nat.lt_trans hr hq'
    have hs : r * LB + a[m] < 18446744073709551616 := by
      have := Nat.mul_le_mul_right LB (show r ≤ LB - 1 by omega)
      have h1 := ha.get hm
      rw [show (LB - 1) * LB = 18446744069414584320 by decide] at this
      unfold LB at *
      omega
    have hsm : IntKind.u64.wrap ((r : Int) * 4294967296) = ((r * LB : Nat) : Int) := w64m (y := LB) (by omega)
    have hdl : (r * LB + a[m]) / q < LB := by
      rw [Nat.div_lt_iff_lt_mul hq]
      have h1 := ha.get hm
      have h2 := Nat.mul_le_mul_right LB (show r + 1 ≤ q from hr)
      rw [Nat.add_mul, Nat.one_mul] at h2
      rw [Nat.mul_comm LB q]
      omega
    have hrep : 0 :: (List.replicate m 0 ++ o) = List.replicate (m + 1) 0 ++ o := rfl
    have hget : (lm (0 :: (List.replicate m 0 ++ o)))[m]? = some (.int .u32 0) := by
      have : (0 :: (List.replicate m 0 ++ o))[m]? = some 0 := by rw [hrep, List.getElem?_append_left (by simp)]; simp
      exact lm_get? this
    have hset : ∀ v, (0 :: (List.replicate m 0 ++ o)).set m v = List.replicate m 0 ++ (v :: o) := by
      intro v
      rw [hrep, List.replicate_succ', List.append_assoc, List.set_append_right _ _ (by simp)]
      simp
    have hmod := Nat.mod_eq_of_lt hdl
    simp only [S1, S2, S3, S4, S5, r_idx, r_mks, ev, resultsV, resL, resV, vl, gt, st, sto, fgt, i64, subCV, fill, setCells, mkAgg, allP, frz, frz1, frzL, frzs, kill, kill1, killL, kills, bnd, unV, bsz, toPs, toP, isPure1, pureL, List.elem, List.replicate, Int.reduceLE, Int.reduceLT, ↓reduceIte, reduceCtorEq, Nat.reduceLT, Nat.reduceEqDiff, Nat.reduceAdd, Nat.reduceMul, Nat.reduceLeDiff, Nat.reduceBEq, lm_len, hi, h0, hsm, lm_get hm, w64l (ha.get hm), w64s hs, quo64 hs, rem64, w32, hmod, binV_quo hq0, binV_rem hq0, Int.natCast_nonneg, Int.toNat_natCast, hm, hget, lm_set, hset, hw]
    refine ih (m, (r * LB + a[m]) / q :: o, (r * LB + a[m]) % q) _ ⟨by omega, by simp [ho]; omega, ?_, Nat.mod_lt _ hq, ?_⟩ (by simp) ?_
    · intro y hy
      rcases List.mem_cons.1 hy with rfl | hy
      · exact hdl
      · exact hlo y hy
    · rw [List.drop_eq_getElem_cons hm, val, val, hv]
      have h1 := Nat.div_add_mod (r * LB + a[m]) q
      have g1 : LB * (val o * q + r) = LB * (val o * q) + LB * r := Nat.mul_add ..
      have g2 : ((r * LB + a[m]) / q + LB * val o) * q = (r * LB + a[m]) / q * q + LB * val o * q := Nat.add_mul ..
      have g3 : LB * val o * q = LB * (val o * q) := Nat.mul_assoc ..
      have g4 : (r * LB + a[m]) / q * q = q * ((r * LB + a[m]) / q) := Nat.mul_comm ..
      have g5 : r * LB = LB * r := Nat.mul_comm ..
      rw [g1, g2, g3, g4]
      show a[m] + (LB * (val o * q) + LB * r) = q * ((r * LB + a[m]) / q) + LB * (val o * q) + (r * LB + a[m]) % q
      omega
    · rfl
  · obtain rfl : n = 0 := by omega
    rw [List.drop_zero] at hv
    have hvq : val o = val a / q := by
      rw [hv, Nat.mul_comm, Nat.mul_add_div hq, Nat.div_eq_of_lt hr]; omega
    have hvr : r = val a % q := by
      rw [hv, Nat.mul_comm, Nat.mul_add_mod, Nat.mod_eq_of_lt hr]
    have htr := p98 hlo (by omega)
    rw [hvq] at htr
    have h0' : ¬ (((0 : Nat) : Int) - 1 ≥ 0) := by omega
    rw [List.replicate_zero, List.nil_append]
    simp only [S1, S2, S3, S4, S5, r_idx, r_mks, ev, resultsV, resL, resV, vl, gt, st, sto, fgt, i64, subCV, fill, setCells, mkAgg, allP, frz, frz1, frzL, frzs, kill, kill1, killL, kills, bnd, unV, bsz, toPs, toP, isPure1, pureL, List.elem, List.replicate, Int.reduceLE, Int.reduceLT, ↓reduceIte, reduceCtorEq, Nat.reduceLT, Nat.reduceEqDiff, Nat.reduceAdd, Nat.reduceMul, Nat.reduceLeDiff, Nat.reduceBEq, lm_len, h0']
    rw [kf_own htr rfl (show a.length = (lm o).length by rw [lm_len, ho]; omega)]
    simp only [S1, S2, S3, S4, S5, r_idx, r_mks, ev, resultsV, resL, resV, vl, gt, st, sto, fgt, i64, subCV, fill, setCells, mkAgg, allP, frz, frz1, frzL, frzs, kill, kill1, killL, kills, bnd, unV, bsz, toPs, toP, isPure1, pureL, List.elem, List.replicate, Int.reduceLE, Int.reduceLT, ↓reduceIte, reduceCtorEq, Nat.reduceLT, Nat.reduceEqDiff, Nat.reduceAdd, Nat.reduceMul, Nat.reduceLeDiff, Nat.reduceBEq]
    rw [← hvr]
    exact back_t2 back1_p back1_p
end Go.Proofs.Ytdieenbfdeaffaa.VBn

namespace Go.Proofs.Ytdieenbfdeaffaa.VBn
open Go Vpi
set_option maxRecDepth 100000
set_option linter.unusedSimpArgs false
set_option linter.unusedVariables false

theorem rp135 : rp 135 = some f135 := rfl
theorem rp99 : rp 99 = some f99 := rfl

/-- append of a list to what bslice just laid -/
theorem r_app2 {rp : RProg} {rs : List RRes} {base : Nat} {d : Option Nat} {l : List LOp} {dr : Dr} {ks : List KI} {e : Env} {σ : Store} {Q : CV → Store → Prop} {sz bytes : Nat} {s x : Opd} {xs ys : List PV} {g : CV}
    (hg : g = .nils ∧ ys = [] ∨ g = .p (.sl ys)) (hc : (xs.length + ys.length) * bytes ≤ 140737488355328) (hz : allSz sz ys = true) (hs : vl e s = .own σ.length 0 xs.length) (hx : vl e x = g) :
    ExR rp rs base (⟨d, none, none, .append sz bytes s x⟩ :: l) dr ks e (σ ++ [.prow sz xs]) Q = ExR rp rs base l dr ks (sto d (.own (σ.length + 1) 0 (xs.length + ys.length)) e) (σ ++ [.dead, .prow sz (xs ++ ys)]) Q := by
  rw [r_append]
  have h1 : content (σ ++ [.prow sz xs]) (.own σ.length 0 xs.length) = some xs := cont_own (s := sz) (by simp) rfl
  have h2 : content (σ ++ [.prow sz xs]) (vl e x) = some ys := by
    rw [hx]
    rcases hg with ⟨rfl, rfl⟩ | rfl
    · rfl
    · rfl
  simp only [ev, hs, h1, h2, hc, hz, and_self, if_true, get_app0, List.getElem?_cons_zero, set_app0, List.set_cons_zero, push_none, Option.map_some, ke_some, List.length_append, List.length_cons, List.length_nil, List.append_assoc, List.cons_append, List.nil_append, Nat.zero_add]

theorem lg_dgl {x : Nat} : ∀ {j : Nat}, lg (dgl x) j = x / LB ^ j % LB := by
  intro j
  induction j generalizing x with
  | zero =>
    by_cases h : x = 0
    · subst h; rw [dgl_zero]; simp [lg]
    · rw [dgl_pos h]; simp [lg]
  | succ j ih =>
    by_cases h : x = 0
    · subst h; rw [dgl_zero]; simp [lg]
    · rw [dgl_pos h, Nat.pow_succ, Nat.mul_comm, ← Nat.div_div_eq_div_mul, ← ih]; simp [lg]

theorem replace_top {n : Nat} {q : List Nat} : 0 :: (List.replicate n 0 ++ q) = List.replicate (n + 1) 0 ++ q := rfl

/-- the first guess is not too low -/
theorem guess_ge {R V k : Nat} (hk : 1 ≤ k) (hV : V < LB ^ k) (hV2 : LB ^ (k - 1) ≤ V) (hR : R < V * LB) :
    R / V ≤ R / LB ^ (k - 1) / (V / LB ^ (k - 1)) ∧ R / V < LB := by
  have hP : 0 < LB ^ (k - 1) := Nat.pow_pos LB_pos
  have hV0 : 0 < V := Nat.lt_of_lt_of_le hP hV2
  refine ⟨?_, (Nat.div_lt_iff_lt_mul hV0).2 (by rw [Nat.mul_comm]; exact hR)⟩
  rw [Nat.div_div_eq_div_mul]
  refine Nat.div_le_div_left ?_ ?_
  · exact Nat.mul_div_le V _
  · exact Nat.mul_pos hP (Nat.div_pos hV2 hP)

theorem p135s {a b : List Nat} (ha : Lim a) (hb : Lim b) (hna : a.length ≤ 400000000000) (hnb : b.length ≤ 400000000000) (h1 : (dgl (val b)).length = 1) :
    Pu rp 135 [.sl (lm a), .sl (lm b)] (.tup [.p (.sl (lm (dgl (val a / val b)))), .p (.sl (lm (dgl (val a % val b)))), .p (.int .i64 0)]) := by
  refine pu_of rp135 ?_
  have hne : val b ≠ 0 := by intro h; rw [h, dgl_zero] at h1; cases h1
  obtain ⟨q, hq⟩ := List.length_eq_one_iff.1 h1
  have hvq : val b = q := by rw [← val_dgl (val b), hq, val_one]
  have hqB : q < LB := (dgl_lim (val b)) q (by rw [hq]; exact List.mem_singleton.2 rfl)
  have e : (((1 : Nat) : Int) == 0) = false := rfl
  have e' : (((1 : Nat) : Int) == 1) = true := rfl
  have k2 := p98 hb (by omega)
  have hs := p160 ha (show 0 < q by omega) hqB (by omega)
  rw [hq] at k2
  have hrl : val a % q < LB := Nat.lt_trans (Nat.mod_lt _ (by omega)) hqB
  have htr := p98 (l := [val a % q]) (.one hrl) (by simp)
  rw [val_one] at htr
  have g0 : (lm [q])[(0 : Nat)]? = some (.int .u32 (q : Int)) := rfl
  have i0 : Int.toNat 0 = 0 := rfl
  have hmm : val a % q % LB = val a % q := Nat.mod_eq_of_lt hrl
  simp only [f135, args0, S1, S2, S3, S4, S5, r_idx, r_mks, ev, resultsV, resL, resV, vl, gt, st, sto, fgt, i64, subCV, fill, setCells, mkAgg, allP, frz, frz1, frzL, frzs, kill, kill1, killL, kills, bnd, unV, bsz, toPs, toP, isPure1, pureL, List.elem, List.replicate, Int.reduceLE, Int.reduceLT, ↓reduceIte, reduceCtorEq, Nat.reduceLT, Nat.reduceEqDiff, Nat.reduceAdd, Nat.reduceMul, Nat.reduceLeDiff, Nat.reduceBEq, kp1 k2, lm_len, e, e', kp2 hs, i0, g0, w64l hqB, w32, hmm]
  rw [kf_own (n := 1) htr rfl rfl]
  simp only [S1, S2, S3, S4, S5, r_idx, r_mks, ev, resultsV, resL, resV, vl, gt, st, sto, fgt, i64, subCV, fill, setCells, mkAgg, allP, frz, frz1, frzL, frzs, kill, kill1, killL, kills, bnd, unV, bsz, toPs, toP, isPure1, pureL, List.elem, List.replicate, Int.reduceLE, Int.reduceLT, ↓reduceIte, reduceCtorEq, Nat.reduceLT, Nat.reduceEqDiff, Nat.reduceAdd, Nat.reduceMul, Nat.reduceLeDiff, Nat.reduceBEq]
  rw [hvq]
  exact back_t3 back1_p back1_p back1_p

theorem p135g {a b : List Nat} (ha : Lim a) (hb : Lim b) (hna : a.length ≤ 400000000000) (hnb : b.length ≤ 400000000000) (h1 : 2 ≤ (dgl (val b)).length) :
    Pu rp 135 [.sl (lm a), .sl (lm b)] (.tup [.p (.sl (lm (dgl (val a / val b)))), .p (.sl (lm (dgl (val a % val b)))), .p (.int .i64 0)]) := by
  refine pu_of rp135 ?_
  have hdb : (dgl (val b)).length ≤ b.length := dgl_len (val_lt hb)
  have hne : val b ≠ 0 := by intro h; rw [h, dgl_zero] at h1; simp at h1
  have k2 := p98 hb (by omega)
  obtain ⟨t, ht⟩ : ∃ t, (dgl (val b))[(dgl (val b)).length - 1]? = some t := ⟨_, List.getElem?_eq_getElem (by omega)⟩
  obtain ⟨n, hn⟩ : ∃ n, n = 32 - bl t := ⟨_, rfl⟩
  obtain ⟨hvl, hn32, ht0⟩ := norm_len hne ht hn
  have hm : (dgl (val b)).length - 1 < (dgl (val b)).length := by omega
  rw [List.getElem?_eq_getElem hm, Option.some.injEq] at ht
  have hbits := bl_top (dgl_lim (val b)) hm (by rw [ht]; exact ht0) (by rw [show (dgl (val b)).length - 1 + 1 = (dgl (val b)).length by omega, List.drop_length]; rfl)
  have htB : t < LB := by rw [← ht]; exact (dgl_lim (val b)).get hm
  have hb32 := bl_le htB
  rw [ht] at hbits
  have h82 := p82 (dgl_lim (val b)) (by omega)
  have hbn : val b * 2 ^ n ≠ 0 := Nat.mul_ne_zero hne (Nat.ne_of_gt (Nat.pow_pos (by decide)))
  have h2l : Lim [2 ^ n] := .one (by have := Nat.pow_lt_pow_right (a := 2) (by decide) hn32; unfold LB; omega)
  have hu := p147 ha h2l (by omega) (by simp)
  have hv := p147 (dgl_lim (val b)) h2l (by omega) (by simp)
  rw [val_dgl] at hv
  rw [val_one] at hu hv
  have hul : (dgl (val a * 2 ^ n)).length ≤ a.length + 1 := dgl_len (by
    rw [Nat.pow_succ]
    exact Nat.mul_lt_mul'' (val_lt ha) (h2l _ (List.mem_singleton.2 rfl)))
  have hV2 : LB ^ ((dgl (val b)).length - 1) ≤ val b * 2 ^ n := by
    rcases Nat.lt_or_ge (val b * 2 ^ n) (LB ^ ((dgl (val b)).length - 1)) with h | h
    · have := dgl_len h; omega
    · exact h
  have hVlt : val b * 2 ^ n < LB ^ (dgl (val b)).length := by
    have := val_lt (dgl_lim (val b * 2 ^ n)); rwa [val_dgl, hvl] at this
  have hVL := dgl_lim (val b * 2 ^ n)
  have hvV := val_dgl (val b * 2 ^ n)
  have h82e : bl (val (dgl (val b))) = 32 * ((dgl (val b)).length - 1) + bl t := hbits
  rw [hbits] at h82
  have hkl : (dgl (val b)).length ≤ 400000000000 := by omega
  have h164 := fun (r : List Nat) (hr : Lim r) (hrl : r.length ≤ 500000000000) => p164 hr hrl hn32
  clear hbits h82e
  generalize hd : dgl (val b) = d at *
  generalize hvd : dgl (val b * 2 ^ n) = v at *
  generalize hud : dgl (val a * 2 ^ n) = u at *
  have huL : Lim u := by rw [← hud]; exact dgl_lim _
  have huv : val u = val a * 2 ^ n := by rw [← hud, val_dgl]
  have e0 : ((d.length : Int) == 0) = false := by rw [beq_eq_false_iff_ne]; omega
  have e1 : ((d.length : Int) == 1) = false := by rw [beq_eq_false_iff_ne]; omega
  have w1 : IntKind.i64.wrap (32 * (d.length : Int)) = ((32 * d.length : Nat) : Int) := by rw [IntWalk.i64_in _ (by omega)]; omega
  have w2 : IntKind.i64.wrap (((32 * d.length : Nat) : Int) - ((32 * (d.length - 1) + bl t : Nat) : Int)) = (n : Int) := by rw [IntWalk.i64_in _ (by omega)]; omega
  have w3 : IntKind.i64.wrap ((u.length : Int) - 1) = (u.length : Int) - 1 := IntWalk.i64_in _ (by omega)
  have m1 : ((4 : Nat) : Int) * (u.length : Int) ≤ 281474976710656 := by omega
  have m2 : (u.length : Int) ≤ 9223372036854775807 := by omega
  simp only [f135, args0, S1, S2, S3, S4, S5, r_idx, r_mks, ev, resultsV, resL, resV, vl, gt, st, sto, fgt, i64, subCV, fill, setCells, mkAgg, allP, frz, frz1, frzL, frzs, kill, kill1, killL, kills, bnd, unV, bsz, toPs, toP, isPure1, pureL, List.elem, List.replicate, Int.reduceLE, Int.reduceLT, ↓reduceIte, reduceCtorEq, Nat.reduceLT, Nat.reduceEqDiff, Nat.reduceAdd, Nat.reduceMul, Nat.reduceLeDiff, Nat.reduceBEq, kp1 k2, lm_len, e0, e1, kp1 h82, w1, w2, kp1 (p161 hn32), kp2 hu, kp2 hv, w3, m1, m2, Int.natCast_nonneg, Int.toNat_natCast, Int.le_refl, lm_rep]
  have hV0 : 0 < val v := by rw [hvV]; exact Nat.pos_of_ne_zero hbn
  have h2p : 0 < 2 ^ n := Nat.pow_pos (by decide)
  refine loop_rule (β := Nat × List Nat × Nat × Store × CV) (fun t => ([(7, .p (.sl (lm d))), (11, .p (.sl (lm u))), (12, .p (.sl (lm v))), (13, .own 0 0 u.length), (14, t.2.2.2.2), (15, i64 ((t.1 : Int) - 1))], t.2.2.2.1))
    (fun t => t.1 ≤ u.length ∧ t.2.1.length = u.length - t.1 ∧ Lim t.2.1 ∧ t.2.2.1 < val v ∧ val t.2.1 * val v + t.2.2.1 = val (u.drop t.1) ∧ t.2.2.2.1[0]? = some (.prow 1 (lm (List.replicate t.1 0 ++ t.2.1))) ∧ (t.2.2.2.2 = .nils ∧ lm (dgl t.2.2.1) = [] ∨ t.2.2.2.2 = .p (.sl (lm (dgl t.2.2.1))))) (fun t => t.1) ((u.length, [], 0, [.prow 1 (lm (List.replicate u.length 0))], .nils) : Nat × List Nat × Nat × Store × CV) rfl rfl
    ⟨Nat.le_refl _, by simp, (fun _ hx => nomatch hx), hV0, by simp [val], by simp, .inl ⟨rfl, by rw [dgl_zero]; rfl⟩⟩ ?_
  rintro ⟨i, qs, R, σ, g⟩ ⟨hi, hql, hqL, hR, hq, hσ, hg⟩ ih
  simp only [] at hi hql hqL hR hq hσ hg ih ⊢
  cases i with
  | zero =>
    have hneg : ¬ (((0 : Nat) : Int) - 1 ≥ 0) := by omega
    rw [List.drop_zero, huv, hvV] at hq
    rw [hvV] at hR
    have hp := Nat.pos_of_ne_zero hbn
    have q1 : val qs = val a / val b := by
      rw [← Nat.mul_div_mul_right (val a) (val b) h2p, ← hq, Nat.add_comm, Nat.add_mul_div_right _ _ hp, Nat.div_eq_of_lt hR, Nat.zero_add]
    have q2 : R / 2 ^ n = val a % val b := by
      have : val a * 2 ^ n % (val b * 2 ^ n) = R := by rw [← hq, Nat.add_comm, Nat.add_mul_mod_self_right, Nat.mod_eq_of_lt hR]
      rw [← this, Nat.mul_mod_mul_right, Nat.mul_div_cancel _ h2p]
    have htq := p98 hqL (by omega)
    rw [q1] at htq
    have hrl : (dgl R).length ≤ d.length := dgl_len (Nat.lt_trans hR hVlt)
    have hr := h164 (dgl R) (dgl_lim R) (by omega)
    rw [val_dgl, q2] at hr
    have hσ' : σ[0]? = some (.prow 1 (lm qs)) := hσ
    rcases hg with ⟨rfl, hg0⟩ | rfl
    · rw [hg0] at hr
      simp only [S1, S2, S3, S4, S5, r_idx, r_mks, ev, resultsV, resL, resV, vl, gt, st, sto, fgt, i64, subCV, fill, setCells, mkAgg, allP, frz, frz1, frzL, frzs, kill, kill1, killL, kills, bnd, unV, bsz, toPs, toP, isPure1, pureL, List.elem, List.replicate, Int.reduceLE, Int.reduceLT, ↓reduceIte, reduceCtorEq, Nat.reduceLT, Nat.reduceEqDiff, Nat.reduceAdd, Nat.reduceMul, Nat.reduceLeDiff, Nat.reduceBEq, hneg, lm_len, w1, kp1 h82, w2]
      rw [kc_pu hr rfl]
      simp only [S1, S2, S3, S4, S5, r_idx, r_mks, ev, resultsV, resL, resV, vl, gt, st, sto, fgt, i64, subCV, fill, setCells, mkAgg, allP, frz, frz1, frzL, frzs, kill, kill1, killL, kills, bnd, unV, bsz, toPs, toP, isPure1, pureL, List.elem, List.replicate, Int.reduceLE, Int.reduceLT, ↓reduceIte, reduceCtorEq, Nat.reduceLT, Nat.reduceEqDiff, Nat.reduceAdd, Nat.reduceMul, Nat.reduceLeDiff, Nat.reduceBEq]
      rw [kf_own htq hσ' (by rw [lm_len, hql]; omega)]
      simp only [S1, S2, S3, S4, S5, r_idx, r_mks, ev, resultsV, resL, resV, vl, gt, st, sto, fgt, i64, subCV, fill, setCells, mkAgg, allP, frz, frz1, frzL, frzs, kill, kill1, killL, kills, bnd, unV, bsz, toPs, toP, isPure1, pureL, List.elem, List.replicate, Int.reduceLE, Int.reduceLT, ↓reduceIte, reduceCtorEq, Nat.reduceLT, Nat.reduceEqDiff, Nat.reduceAdd, Nat.reduceMul, Nat.reduceLeDiff, Nat.reduceBEq]
      exact back_t3 back1_p back1_p back1_p
    · simp only [S1, S2, S3, S4, S5, r_idx, r_mks, ev, resultsV, resL, resV, vl, gt, st, sto, fgt, i64, subCV, fill, setCells, mkAgg, allP, frz, frz1, frzL, frzs, kill, kill1, killL, kills, bnd, unV, bsz, toPs, toP, isPure1, pureL, List.elem, List.replicate, Int.reduceLE, Int.reduceLT, ↓reduceIte, reduceCtorEq, Nat.reduceLT, Nat.reduceEqDiff, Nat.reduceAdd, Nat.reduceMul, Nat.reduceLeDiff, Nat.reduceBEq, hneg, lm_len, w1, kp1 h82, w2, kp2 hr]
      rw [kf_own htq hσ' (by rw [lm_len, hql]; omega)]
      simp only [S1, S2, S3, S4, S5, r_idx, r_mks, ev, resultsV, resL, resV, vl, gt, st, sto, fgt, i64, subCV, fill, setCells, mkAgg, allP, frz, frz1, frzL, frzs, kill, kill1, killL, kills, bnd, unV, bsz, toPs, toP, isPure1, pureL, List.elem, List.replicate, Int.reduceLE, Int.reduceLT, ↓reduceIte, reduceCtorEq, Nat.reduceLT, Nat.reduceEqDiff, Nat.reduceAdd, Nat.reduceMul, Nat.reduceLeDiff, Nat.reduceBEq]
      exact back_t3 back1_p back1_p back1_p
  | succ m =>
    have hm : m < u.length := hi
    have hge0 : ((m + 1 : Nat) : Int) - 1 ≥ 0 := by omega
    have hje : ((m + 1 : Nat) : Int) - 1 = (m : Int) := by omega
    have hm0 : (m : Int) ≥ 0 := by omega
    have w4 : IntKind.i64.wrap ((m : Int) - 1) = (m : Int) - 1 := IntWalk.i64_in _ (by omega)
    have hux := huL.get hm
    have hRl : (dgl R).length ≤ d.length := dgl_len (Nat.lt_trans (by rw [hvV] at hR; exact hR) hVlt)
    have hapc : ([PV.int .u32 (u[m] : Nat)].length + (lm (dgl R)).length) * 4 ≤ 140737488355328 := by rw [lm_len]; simp; omega
    obtain ⟨R', hR'⟩ : ∃ R', R' = u[m] + LB * R := ⟨_, rfl⟩
    have hLR : Lim (u[m] :: dgl R) := by
      intro y hy
      rcases List.mem_cons.1 hy with rfl | hy
      · exact hux
      · exact dgl_lim R y hy
    have k98 := p98 hLR (by simp; omega)
    rw [val, val_dgl, ← hR'] at k98
    have hR'V : R' < val v * LB := by
      have := Nat.mul_le_mul_left LB (show R + 1 ≤ val v from hR)
      rw [Nat.mul_add, Nat.mul_one] at this
      rw [Nat.mul_comm]; omega
    have hR'l : (dgl R').length ≤ d.length + 1 := dgl_len (by rw [Nat.pow_succ]; exact Nat.lt_of_lt_of_le hR'V (Nat.mul_le_mul_right _ (by rw [hvV]; omega)))
    have hcmp := p140 (dgl_lim R') hVL (by omega) (by omega)
    rw [val_dgl] at hcmp
    have hqd : val (u.drop m) = u[m] + LB * val (u.drop (m + 1)) := by rw [List.drop_eq_getElem_cons hm, val]
    have hb1 : σ ++ [Blk.prow 1 [PV.int .u32 (u[m] : Nat)]] = σ ++ [Blk.prow 1 [PV.int .u32 (u[m] : Nat)]] := rfl
    have hg2 : (σ ++ [Blk.dead, Blk.prow 1 (PV.int .u32 (u[m] : Nat) :: lm (dgl R))])[σ.length + 1]? = some (Blk.prow 1 (PV.int .u32 (u[m] : Nat) :: lm (dgl R))) := by rw [get_app]; rfl
    have hl2 : 1 + (dgl R).length = (PV.int .u32 (u[m] : Nat) :: lm (dgl R)).length := by simp [lm_len]; omega
    have hs0 : 0 < σ.length := (List.getElem?_eq_some_iff.1 hσ).1
    simp only [S1, S2, S3, S4, S5, r_idx, r_mks, ev, resultsV, resL, resV, vl, gt, st, sto, fgt, i64, subCV, fill, setCells, mkAgg, allP, frz, frz1, frzL, frzs, kill, kill1, killL, kills, bnd, unV, bsz, toPs, toP, isPure1, pureL, List.elem, List.replicate, Int.reduceLE, Int.reduceLT, ↓reduceIte, reduceCtorEq, Nat.reduceLT, Nat.reduceEqDiff, Nat.reduceAdd, Nat.reduceMul, Nat.reduceLeDiff, Nat.reduceBEq, hje, hm0, lm_get hm, Int.natCast_nonneg, Int.toNat_natCast, r_app2 hg hapc lm_sz, lm_len]
    rw [kf_own (es := PV.int .u32 (u[m] : Nat) :: lm (dgl R)) k98 hg2 hl2]
    by_cases hlt : R' < val v
    · have hci : cmpI R' (val v) < 0 := lt_of_cmp.2 hlt
      simp only [S1, S2, S3, S4, S5, r_idx, r_mks, ev, resultsV, resL, resV, vl, gt, st, sto, fgt, i64, subCV, fill, setCells, mkAgg, allP, frz, frz1, frzL, frzs, kill, kill1, killL, kills, bnd, unV, bsz, toPs, toP, isPure1, pureL, List.elem, List.replicate, Int.reduceLE, Int.reduceLT, ↓reduceIte, reduceCtorEq, Nat.reduceLT, Nat.reduceEqDiff, Nat.reduceAdd, Nat.reduceMul, Nat.reduceLeDiff, Nat.reduceBEq, kp2 hcmp, hci, w4]
      refine ih (m, 0 :: qs, R', σ ++ [.dead, .dead], .p (.sl (lm (dgl R')))) _ ⟨by simp only []; omega, by simp [hql]; omega, ?_, hlt, ?_, ?_, .inr rfl⟩ (Nat.lt_succ_self _) ?_
      · intro y hy
        rcases List.mem_cons.1 hy with rfl | hy
        · exact LB_pos
        · exact hqL y hy
      · simp only [val]
        rw [hqd, ← hq, hR', Nat.zero_add, Nat.mul_add, Nat.mul_assoc]; omega
      · simp only []
        rw [get_left hs0, hσ, List.replicate_succ', List.append_assoc]; rfl
      · rfl
    · have hci : ¬ cmpI R' (val v) < 0 := by rw [lt_of_cmp]; exact hlt
      have hk1 : 1 ≤ d.length := by omega
      have hvlt : val v < LB ^ d.length := by rw [hvV]; exact hVlt
      have hvge : LB ^ (d.length - 1) ≤ val v := by rw [hvV]; exact hV2
      obtain ⟨gg1, gg2⟩ := guess_ge hk1 hvlt hvge hR'V
      have hR'k : R' / LB ^ d.length < LB := by
        rw [Nat.div_lt_iff_lt_mul (Nat.pow_pos LB_pos), Nat.mul_comm]
        exact Nat.lt_of_lt_of_le hR'V (Nat.mul_le_mul_right _ (Nat.le_of_lt hvlt))
      have t1 : lg (dgl R') d.length = R' / LB ^ d.length := by rw [lg_dgl, Nat.mod_eq_of_lt hR'k]
      have t2 : lg (dgl R') (d.length - 1) = R' / LB ^ (d.length - 1) % LB := lg_dgl
      have t3 : lg v (d.length - 1) = val v / LB ^ (d.length - 1) := by
        rw [← hvd, lg_dgl, val_dgl, Nat.mod_eq_of_lt]
        rw [Nat.div_lt_iff_lt_mul (Nat.pow_pos LB_pos), Nat.mul_comm LB, ← Nat.pow_succ, show (d.length - 1).succ = d.length by omega]
        exact hVlt
      have t4 : lg (dgl R') d.length * LB + lg (dgl R') (d.length - 1) = R' / LB ^ (d.length - 1) := by
        rw [t1, t2]
        have := Nat.mod_add_div (R' / LB ^ (d.length - 1)) LB
        rw [Nat.div_div_eq_div_mul, ← Nat.pow_succ, show (d.length - 1).succ = d.length by omega, Nat.mul_comm] at this
        omega
      have hT0 : 0 < val v / LB ^ (d.length - 1) := Nat.div_pos hvge (Nat.pow_pos LB_pos)
      have b1 : lg (dgl R') d.length < LB := lg_lt (dgl_lim R')
      have b2 : lg (dgl R') (d.length - 1) < LB := lg_lt (dgl_lim R')
      have b3 : lg (dgl R') d.length * LB < 18446744073709551616 ∧ lg (dgl R') d.length * LB + lg (dgl R') (d.length - 1) < 18446744073709551616 := by
        have := Nat.mul_le_mul_right LB (show lg (dgl R') d.length ≤ LB - 1 by omega)
        rw [show (LB - 1) * LB = 18446744069414584320 by decide] at this
        unfold LB at *
        omega
      have x1 : IntKind.u64.wrap ((lg (dgl R') d.length : Int) * 4294967296) = ((lg (dgl R') d.length * LB : Nat) : Int) := w64m (y := LB) b3.1
      have x2 := w64s b3.2
      have x3 : IntKind.i64.wrap ((d.length : Int) - 1) = ((d.length - 1 : Nat) : Int) := by rw [IntWalk.i64_in _ (by omega)]; omega
      have x4 : ((lg v (d.length - 1) : Nat) : Int) ≠ 0 := by rw [t3]; omega
      have x5 := quo64 (y := lg v (d.length - 1)) b3.2
      have hgv : (lg (dgl R') d.length * LB + lg (dgl R') (d.length - 1)) / lg v (d.length - 1) = R' / LB ^ (d.length - 1) / (val v / LB ^ (d.length - 1)) := by rw [t4, t3]
      rw [← hgv] at gg1
      generalize hG : (lg (dgl R') d.length * LB + lg (dgl R') (d.length - 1)) / lg v (d.length - 1) = G at *
      have k162a := p162 (dgl_lim R') (i := d.length)
      have k162b := p162 (dgl_lim R') (i := d.length - 1)
      have k162c := p162 hVL (i := d.length - 1)
      -- what goes on after the guess
      have hrd : R' % val v + val v * (R' / val v) = R' := Nat.mod_add_div _ _
      have hmd := Nat.mod_lt R' hV0
      have hσm : ∀ l, (σ ++ l)[0]? = some (.prow 1 (lm (0 :: (List.replicate m 0 ++ qs)))) := fun l => by rw [get_left hs0]; exact hσ
      have hσs : ∀ l x, (σ ++ l).set 0 x = σ.set 0 x ++ l := fun l x => set_left hs0
      have hlm : m < u.length := hm
      have hgm : (lm (0 :: (List.replicate m 0 ++ qs)))[m]? = some (.int .u32 ((0 : Nat) : Int)) := lm_get? (by
        rw [replace_top, List.getElem?_append_left (by rw [List.length_replicate]; omega), List.getElem?_replicate, if_pos (Nat.lt_succ_self _)])
      have hsm : ∀ c, (0 :: (List.replicate m 0 ++ qs)).set m c = List.replicate m 0 ++ (c :: qs) := by
        intro c
        rw [replace_top, List.replicate_succ', List.append_assoc, List.set_append_right _ _ (by rw [List.length_replicate]; omega), List.length_replicate, Nat.sub_self]
        rfl
      have hcap : ∃ G' : Nat, R' / val v ≤ G' ∧ G' < LB ∧ ((G : Int) ≥ 4294967296 ∧ G' = 4294967295 ∧ IntKind.u32.wrap 4294967295 = (G' : Int) ∨ ¬ (G : Int) ≥ 4294967296 ∧ G' = G ∧ IntKind.u32.wrap (G : Int) = (G' : Int)) := by
        by_cases h : (G : Int) ≥ 4294967296
        · exact ⟨4294967295, by unfold LB at gg2; omega, by decide, .inl ⟨h, rfl, by decide⟩⟩
        · exact ⟨G, gg1, by unfold LB; omega, .inr ⟨h, rfl, by rw [w32, Nat.mod_eq_of_lt (by unfold LB; omega)]⟩⟩
      obtain ⟨G', hG1, hG2, hG3⟩ := hcap
      have hGm : G' % LB = G' := Nat.mod_eq_of_lt hG2
      have k147 := p147 hVL (.one hG2) (by omega) (by simp)
      rw [val_one] at k147
      have hg3 : (σ ++ [Blk.dead, Blk.dead, Blk.prow 1 [PV.int .u32 (G' : Int)]])[σ.length + 2]? = some (.prow 1 (lm [G'])) := by rw [get_app]; rfl
      have hpl : ∀ c, c ≤ G' → (dgl (val v * c)).length ≤ d.length + 1 := fun c hc => dgl_len (by
        rw [Nat.pow_succ]
        exact Nat.mul_lt_mul'' hvlt (Nat.lt_of_le_of_lt hc hG2))
      rcases hG3 with ⟨hG3, hG4, hw⟩ | ⟨hG3, hG4, hw⟩
      all_goals
        simp only [S1, S2, S3, S4, S5, r_idx, r_mks, ev, resultsV, resL, resV, vl, gt, st, sto, fgt, i64, subCV, fill, setCells, mkAgg, allP, frz, frz1, frzL, frzs, kill, kill1, killL, kills, bnd, unV, bsz, toPs, toP, isPure1, pureL, List.elem, List.replicate, Int.reduceLE, Int.reduceLT, ↓reduceIte, reduceCtorEq, Nat.reduceLT, Nat.reduceEqDiff, Nat.reduceAdd, Nat.reduceMul, Nat.reduceLeDiff, Nat.reduceBEq, kp2 hcmp, hci, lm_len, hvl, kp2 k162a, x1, x3, kp2 k162b, x2, kp2 k162c, binV_quo x4, x5, hG3]
        simp only [S1, S2, S3, S4, S5, r_idx, r_mks, ev, resultsV, resL, resV, vl, gt, st, sto, fgt, i64, subCV, fill, setCells, mkAgg, allP, frz, frz1, frzL, frzs, kill, kill1, killL, kills, bnd, unV, bsz, toPs, toP, isPure1, pureL, List.elem, List.replicate, Int.reduceLE, Int.reduceLT, ↓reduceIte, reduceCtorEq, Nat.reduceLT, Nat.reduceEqDiff, Nat.reduceAdd, Nat.reduceMul, Nat.reduceLeDiff, Nat.reduceBEq, hw, kf_p_own (n := 1) k147 hg3 rfl]
        refine loop_rule (β := Nat) (fun c => ([(7, .p (.sl (lm d))), (11, .p (.sl (lm u))), (12, .p (.sl (lm v))), (13, .own 0 0 u.length), (14, .p (.sl (lm (dgl R')))), (15, i64 (m : Int)), (16, .p (.int .u64 (c : Int))), (17, .p (.sl (lm (dgl (val v * c)))))], σ ++ [.dead, .dead, .dead]))
          (fun c => R' / val v ≤ c ∧ c ≤ G') (fun c => c) G' (by subst hG4; rfl) rfl ⟨hG1, Nat.le_refl _⟩ ?_
        rintro c ⟨hc1, hc2⟩ ih2
        simp only [] at ih2 ⊢
        have hpc := hpl c hc2
        have hcmp2 := p140 (dgl_lim (val v * c)) (dgl_lim R') (by omega) (by omega)
        rw [val_dgl, val_dgl] at hcmp2
        by_cases hgt2 : R' < val v * c
        · have hc0 : 0 < c := by rcases Nat.eq_zero_or_pos c with h | h; rw [h, Nat.mul_zero] at hgt2; omega; exact h
          have hcs : val v * c = val v * (c - 1) + val v := by rw [← Nat.mul_succ]; congr 1; omega
          have hci2 : cmpI (val v * c) R' > 0 := by unfold cmpI; rw [if_neg (by omega), if_neg (by omega)]; decide
          have hlow : R' / val v ≤ c - 1 := by
            have : R' / val v < c := (Nat.div_lt_iff_lt_mul hV0).2 (by rw [Nat.mul_comm]; exact hgt2)
            omega
          have y1 : IntKind.u64.wrap ((c : Int) - 1) = ((c - 1 : Nat) : Int) := w64d (y := 1) hc0 (by unfold LB at hG2; omega)
          have k163 := p163 (dgl_lim (val v * c)) hVL (by rw [val_dgl]; omega) (by omega) (by have := val_lt (dgl_lim (val v * c)); rw [val_dgl] at this; omega)
          rw [val_dgl, show val v * c - val v = val v * (c - 1) by omega] at k163
          simp only [S1, S2, S3, S4, S5, r_idx, r_mks, ev, resultsV, resL, resV, vl, gt, st, sto, fgt, i64, subCV, fill, setCells, mkAgg, allP, frz, frz1, frzL, frzs, kill, kill1, killL, kills, bnd, unV, bsz, toPs, toP, isPure1, pureL, List.elem, List.replicate, Int.reduceLE, Int.reduceLT, ↓reduceIte, reduceCtorEq, Nat.reduceLT, Nat.reduceEqDiff, Nat.reduceAdd, Nat.reduceMul, Nat.reduceLeDiff, Nat.reduceBEq, kp2 hcmp2, hci2, y1, kp2 k163]
          refine ih2 (c - 1) _ ⟨hlow, by omega⟩ (by omega) ?_
          rfl
        · have hci2 : ¬ cmpI (val v * c) R' > 0 := by unfold cmpI; split; decide; rw [if_pos (by omega)]; decide
          have hce : c = R' / val v := by
            have : c ≤ R' / val v := (Nat.le_div_iff_mul_le hV0).2 (by rw [Nat.mul_comm]; omega)
            omega
          have k163 := p163 (dgl_lim R') (dgl_lim (val v * c)) (by rw [val_dgl, val_dgl]; omega) (by omega) (by have := val_lt (dgl_lim R'); rw [val_dgl] at this ⊢; omega)
          rw [val_dgl, val_dgl] at k163
          have hcm : c % LB = c := Nat.mod_eq_of_lt (by omega)
          simp only [S1, S2, S3, S4, S5, r_idx, r_mks, ev, resultsV, resL, resV, vl, gt, st, sto, fgt, i64, subCV, fill, setCells, mkAgg, allP, frz, frz1, frzL, frzs, kill, kill1, killL, kills, bnd, unV, bsz, toPs, toP, isPure1, pureL, List.elem, List.replicate, Int.reduceLE, Int.reduceLT, ↓reduceIte, reduceCtorEq, Nat.reduceLT, Nat.reduceEqDiff, Nat.reduceAdd, Nat.reduceMul, Nat.reduceLeDiff, Nat.reduceBEq, kp2 hcmp2, hci2, w32, hcm, Int.natCast_nonneg, Int.toNat_natCast, hlm, hσm, hgm, lm_set, hsm, hσs, kp2 k163, w4, ge_iff_le]
          have hfin : R' - val v * c = R' % val v := by rw [hce]; omega
          refine ih (m, c :: qs, R' - val v * c, σ.set 0 (.prow 1 (lm (List.replicate m 0 ++ (c :: qs)))) ++ [.dead, .dead, .dead], .p (.sl (lm (dgl (R' - val v * c))))) _ ⟨by simp only []; omega, by simp [hql]; omega, ?_, by simp only []; rw [hfin]; exact hmd, ?_, ?_, .inr rfl⟩ (Nat.lt_succ_self _) ?_
          · intro y hy
            rcases List.mem_cons.1 hy with rfl | hy
            · omega
            · exact hqL y hy
          · simp only [val]
            rw [hqd, ← hq, Nat.mul_add, ← Nat.mul_assoc, Nat.add_mul, Nat.mul_comm c]; omega
          · simp only []
            rw [get_left (by rw [List.length_set]; exact hs0), get_self hs0]
          · rfl

theorem p135 {a b : List Nat} (ha : Lim a) (hb : Lim b) (hna : a.length ≤ 400000000000) (hnb : b.length ≤ 400000000000) (h0 : val b ≠ 0) :
    Pu rp 135 [.sl (lm a), .sl (lm b)] (.tup [.p (.sl (lm (dgl (val a / val b)))), .p (.sl (lm (dgl (val a % val b)))), .p (.int .i64 0)]) := by
  have hl := List.length_pos_iff.2 (dgl_ne h0)
  rcases (show (dgl (val b)).length = 1 ∨ 2 ≤ (dgl (val b)).length by omega) with h1 | h1
  · exact p135s ha hb hna hnb h1
  · exact p135g ha hb hna hnb h1

theorem p99 {a b : List Nat} (ha : Lim a) (hb : Lim b) (hna : a.length ≤ 400000000000) (hnb : b.length ≤ 400000000000) :
    Pu rp 99 [.sl (lm a), .sl (lm b)] (.p (.sl (lm (dgl (Nat.gcd (val a) (val b)))))) := by
  refine pu_of rp99 ?_
  have hda : (dgl (val a)).length ≤ a.length := dgl_len (val_lt ha)
  have hdb : (dgl (val b)).length ≤ b.length := dgl_len (val_lt hb)
  simp only [f99, args0, S1, S2, S3, S4, S5, r_idx, r_mks, ev, resultsV, resL, resV, vl, gt, st, sto, fgt, i64, subCV, fill, setCells, mkAgg, allP, frz, frz1, frzL, frzs, kill, kill1, killL, kills, bnd, unV, bsz, toPs, toP, isPure1, pureL, List.elem, List.replicate, Int.reduceLE, Int.reduceLT, ↓reduceIte, reduceCtorEq, Nat.reduceLT, Nat.reduceEqDiff, Nat.reduceAdd, Nat.reduceMul, Nat.reduceLeDiff, Nat.reduceBEq, kp1 (p98 ha (by omega)), kp1 (p98 hb (by omega))]
  refine bloop (β := Nat × Nat) (γ := Unit) (fun t => ([(5, .p (.sl (lm (dgl t.1)))), (6, .p (.sl (lm (dgl t.2))))], [])) (fun t => Nat.gcd t.1 t.2 = Nat.gcd (val a) (val b) ∧ (dgl t.1).length ≤ 400000000000 ∧ (dgl t.2).length ≤ 400000000000) (fun t => t.2)
    (fun _ => ([(5, .p (.sl (lm (dgl (Nat.gcd (val a) (val b))))))], [])) (fun _ => True) ((val a, val b) : Nat × Nat) rfl rfl ⟨rfl, by simp only []; omega, by simp only []; omega⟩ ?_ ?_
  · rintro ks' ⟨x, y⟩ ⟨hg, hx, hy⟩ ih hexit
    simp only [] at hg hx hy ih hexit ⊢
    by_cases h0 : y = 0
    · subst h0
      have hn : ¬ (((([] : List Nat).length : Nat) : Int) > 0) := by simp
      rw [Nat.gcd_zero_right] at hg
      simp only [S1, S2, S3, S4, S5, r_idx, r_mks, ev, resultsV, resL, resV, vl, gt, st, sto, fgt, i64, subCV, fill, setCells, mkAgg, allP, frz, frz1, frzL, frzs, kill, kill1, killL, kills, bnd, unV, bsz, toPs, toP, isPure1, pureL, List.elem, List.replicate, Int.reduceLE, Int.reduceLT, ↓reduceIte, reduceCtorEq, Nat.reduceLT, Nat.reduceEqDiff, Nat.reduceAdd, Nat.reduceMul, Nat.reduceLeDiff, Nat.reduceBEq, dgl_zero, lm_len, hn]
      refine hexit () _ trivial ?_
      rw [← hg]; rfl
    · have hlen := List.length_pos_iff.2 (dgl_ne h0)
      have hp : ((dgl y).length : Int) > 0 := by omega
      have hk := p135 (dgl_lim x) (dgl_lim y) hx hy (by rw [val_dgl]; exact h0)
      rw [val_dgl, val_dgl] at hk
      have hr : (dgl (x % y)).length ≤ (dgl y).length := dgl_len_mono (Nat.le_of_lt (Nat.mod_lt _ (Nat.pos_of_ne_zero h0)))
      simp only [S1, S2, S3, S4, S5, r_idx, r_mks, ev, resultsV, resL, resV, vl, gt, st, sto, fgt, i64, subCV, fill, setCells, mkAgg, allP, frz, frz1, frzL, frzs, kill, kill1, killL, kills, bnd, unV, bsz, toPs, toP, isPure1, pureL, List.elem, List.replicate, Int.reduceLE, Int.reduceLT, ↓reduceIte, reduceCtorEq, Nat.reduceLT, Nat.reduceEqDiff, Nat.reduceAdd, Nat.reduceMul, Nat.reduceLeDiff, Nat.reduceBEq, lm_len, hp, kp2 hk]
      refine ih (y, x % y) _ ⟨?_, hy, by simp only []; omega⟩ (Nat.mod_lt _ (Nat.pos_of_ne_zero h0)) ?_
      · rw [← hg]; simp only []; rw [Nat.gcd_comm, ← Nat.gcd_rec, Nat.gcd_comm]
      · rfl
  · rintro ⟨⟩ -
    simp only [S1, S2, S3, S4, S5, r_idx, r_mks, ev, resultsV, resL, resV, vl, gt, st, sto, fgt, i64, subCV, fill, setCells, mkAgg, allP, frz, frz1, frzL, frzs, kill, kill1, killL, kills, bnd, unV, bsz, toPs, toP, isPure1, pureL, List.elem, List.replicate, Int.reduceLE, Int.reduceLT, ↓reduceIte, reduceCtorEq, Nat.reduceLT, Nat.reduceEqDiff, Nat.reduceAdd, Nat.reduceMul, Nat.reduceLeDiff, Nat.reduceBEq]
    rfl
end Go.Proofs.Ytdieenbfdeaffaa.VBn

namespace Go.Proofs.Ytdieenbfdeaffaa.VBn
open Go Vpi
set_option maxRecDepth 100000
set_option linter.unusedSimpArgs false
set_option linter.unusedVariables false

theorem rp79 : rp 79 = some f79 := rfl
theorem rp109 : rp 109 = some f109 := rfl
theorem rp60 : rp 60 = some f60 := rfl
theorem rp117 : rp 117 = some f117 := rfl

theorem p68' {p : PV} {x : Int} (h : Nu p x) : Pu rp 68 [p] (.p (zi x)) := by
  obtain ⟨neg, l, rfl, hl, hn, rfl⟩ := h
  rw [← mk_val]
  exact p68 hl (by rw [CapN_eq] at hn; omega)

theorem p58' {p : PV} {x : Int} (h : Nu p x) : Pu rp 58 [p] (.p (zi (-x))) := by
  obtain ⟨neg, l, rfl, hl, hn, rfl⟩ := h
  refine pu_of rp58 ?_
  rw [CapN_eq] at hn
  have e : -iv neg l = iv (!neg) l := by unfold iv; cases neg <;> simp
  rw [e, ← mk_val]
  simp only [f58, args0, S1, S2, S3, S4, S5, r_idx, r_mks, ev, resultsV, resL, resV, vl, gt, st, sto, fgt, i64, subCV, fill, setCells, mkAgg, allP, frz, frz1, frzL, frzs, kill, kill1, killL, kills, bnd, unV, bsz, toPs, toP, isPure1, pureL, List.elem, List.replicate, Int.reduceLE, Int.reduceLT, ↓reduceIte, reduceCtorEq, Nat.reduceLT, Nat.reduceEqDiff, Nat.reduceAdd, Nat.reduceMul, Nat.reduceLeDiff, Nat.reduceBEq, unV, kp2 (p107 hl (by omega))]
  rfl

theorem p79 {p : PV} {x : Int} (h : Nu p x) : Pu rp 79 [p] (.p (.int .i64 x.sign)) := by
  obtain ⟨neg, l, rfl, hl, hn, rfl⟩ := h
  refine pu_of rp79 ?_
  rw [CapN_eq] at hn
  have k := p98 hl (by omega)
  by_cases h0 : val l = 0
  · rw [h0, dgl_zero] at k
    have e : (((([] : List Nat).length : Nat) : Int) == 0) = true := rfl
    simp only [f79, args0, S1, S2, S3, S4, S5, r_idx, r_mks, ev, resultsV, resL, resV, vl, gt, st, sto, fgt, i64, subCV, fill, setCells, mkAgg, allP, frz, frz1, frzL, frzs, kill, kill1, killL, kills, bnd, unV, bsz, toPs, toP, isPure1, pureL, List.elem, List.replicate, Int.reduceLE, Int.reduceLT, ↓reduceIte, reduceCtorEq, Nat.reduceLT, Nat.reduceEqDiff, Nat.reduceAdd, Nat.reduceMul, Nat.reduceLeDiff, Nat.reduceBEq, kp1 k, lm_len, e]
    have : iv neg l = 0 := by unfold iv; rw [h0]; cases neg <;> rfl
    rw [this]; rfl
  · have hpos := List.length_pos_iff.2 (dgl_ne h0)
    have e : (((dgl (val l)).length : Int) == 0) = false := by rw [beq_eq_false_iff_ne]; omega
    cases neg
    · simp only [f79, args0, S1, S2, S3, S4, S5, r_idx, r_mks, ev, resultsV, resL, resV, vl, gt, st, sto, fgt, i64, subCV, fill, setCells, mkAgg, allP, frz, frz1, frzL, frzs, kill, kill1, killL, kills, bnd, unV, bsz, toPs, toP, isPure1, pureL, List.elem, List.replicate, Int.reduceLE, Int.reduceLT, ↓reduceIte, reduceCtorEq, Nat.reduceLT, Nat.reduceEqDiff, Nat.reduceAdd, Nat.reduceMul, Nat.reduceLeDiff, Nat.reduceBEq, kp1 k, lm_len, e]
      have : (iv false l).sign = 1 := Int.sign_eq_one_of_pos (by unfold iv; simp; omega)
      rw [this]; rfl
    · simp only [f79, args0, S1, S2, S3, S4, S5, r_idx, r_mks, ev, resultsV, resL, resV, vl, gt, st, sto, fgt, i64, subCV, fill, setCells, mkAgg, allP, frz, frz1, frzL, frzs, kill, kill1, killL, kills, bnd, unV, bsz, toPs, toP, isPure1, pureL, List.elem, List.replicate, Int.reduceLE, Int.reduceLT, ↓reduceIte, reduceCtorEq, Nat.reduceLT, Nat.reduceEqDiff, Nat.reduceAdd, Nat.reduceMul, Nat.reduceLeDiff, Nat.reduceBEq, kp1 k, lm_len, e]
      have : (iv true l).sign = -1 := Int.sign_eq_neg_one_of_neg (by unfold iv; simp; omega)
      rw [this]; rfl

theorem p117 {p q : PV} {x y : Int} (h : Nu p x) (h' : Nu q y) : Pu rp 117 [p, q] (.p (zi (x * y))) := by
  obtain ⟨n1, a, rfl, ha, hna, rfl⟩ := h
  obtain ⟨n2, b, rfl, hb, hnb, rfl⟩ := h'
  refine pu_of rp117 ?_
  rw [CapN_eq] at hna hnb
  have hd : (dgl (val a * val b)).length ≤ a.length + b.length := dgl_len (by rw [Nat.pow_add]; exact Nat.mul_lt_mul'' (val_lt ha) (val_lt hb))
  have k1 := p147 ha hb (by omega) (by omega)
  have k2 := fun neg => p107 (neg := neg) (dgl_lim (val a * val b)) (by omega)
  simp only [val_dgl] at k2
  have e : zi (iv n1 a * iv n2 b) = mk (n1 != n2) (val a * val b) := by
    rw [mk_iv]; unfold iv; congr 1; cases n1 <;> cases n2 <;> simp [Int.natCast_mul, Int.neg_mul, Int.mul_neg]
  rw [e]
  cases n1 <;> cases n2 <;> simp only [f117, args0, S1, S2, S3, S4, S5, r_idx, r_mks, ev, resultsV, resL, resV, vl, gt, st, sto, fgt, i64, subCV, fill, setCells, mkAgg, allP, frz, frz1, frzL, frzs, kill, kill1, killL, kills, bnd, unV, bsz, toPs, toP, isPure1, pureL, List.elem, List.replicate, Int.reduceLE, Int.reduceLT, ↓reduceIte, reduceCtorEq, Nat.reduceLT, Nat.reduceEqDiff, Nat.reduceAdd, Nat.reduceMul, Nat.reduceLeDiff, Nat.reduceBEq, kp2 k1, kp2 (k2 _)] <;> rfl

theorem p109 {p q : PV} {x y : Int} (h : Nu p x) (h' : Nu q y) : Pu rp 109 [p, q] (.p (zi (x + y))) := by
  obtain ⟨n1, a, rfl, ha, hna, rfl⟩ := h
  obtain ⟨n2, b, rfl, hb, hnb, rfl⟩ := h'
  refine pu_of rp109 ?_
  rw [CapN_eq] at hna hnb
  have hcmp := p140 ha hb (by omega) (by omega)
  by_cases hs : n1 = n2
  · subst hs
    have hd : (dgl (val a + val b)).length ≤ a.length + b.length + 1 := dgl_len (by
      have h1 := Nat.lt_of_lt_of_le (val_lt ha) (Nat.pow_le_pow_right LB_pos (show a.length ≤ a.length + b.length by omega))
      have h2 := Nat.lt_of_lt_of_le (val_lt hb) (Nat.pow_le_pow_right LB_pos (show b.length ≤ a.length + b.length by omega))
      rw [Nat.pow_succ]
      have h3 : LB ^ (a.length + b.length) * 2 ≤ LB ^ (a.length + b.length) * LB := Nat.mul_le_mul_left _ (by decide)
      omega)
    have k1 := p139 ha hb (by omega) (by omega)
    have k2 := p107 (neg := n1) (dgl_lim (val a + val b)) (by omega)
    rw [val_dgl] at k2
    have e : zi (iv n1 a + iv n1 b) = mk n1 (val a + val b) := by
      rw [mk_iv]; unfold iv; congr 1; cases n1 <;> simp; omega
    rw [e]
    cases n1 <;> simp only [f109, args0, S1, S2, S3, S4, S5, r_idx, r_mks, ev, resultsV, resL, resV, vl, gt, st, sto, fgt, i64, subCV, fill, setCells, mkAgg, allP, frz, frz1, frzL, frzs, kill, kill1, killL, kills, bnd, unV, bsz, toPs, toP, isPure1, pureL, List.elem, List.replicate, Int.reduceLE, Int.reduceLT, ↓reduceIte, reduceCtorEq, Nat.reduceLT, Nat.reduceEqDiff, Nat.reduceAdd, Nat.reduceMul, Nat.reduceLeDiff, Nat.reduceBEq, kp2 k1, kp2 k2] <;> rfl
  · by_cases hlt : val a < val b
    · have hci : ¬ cmpI (val a) (val b) ≥ 0 := by have := lt_of_cmp.2 hlt; omega
      have k1 := p141 hb ha (by omega) (by omega) (Nat.le_of_lt hlt)
      have hd : (dgl (val b - val a)).length ≤ b.length := dgl_len (Nat.lt_of_le_of_lt (Nat.sub_le _ _) (val_lt hb))
      have k2 := p107 (neg := n2) (dgl_lim (val b - val a)) (by omega)
      rw [val_dgl] at k2
      have e : zi (iv n1 a + iv n2 b) = mk n2 (val b - val a) := by
        rw [mk_iv]; unfold iv; congr 1; cases n1 <;> cases n2 <;> simp at hs ⊢ <;> omega
      rw [e]
      cases n1 <;> cases n2 <;> simp at hs <;> simp only [f109, args0, S1, S2, S3, S4, S5, r_idx, r_mks, ev, resultsV, resL, resV, vl, gt, st, sto, fgt, i64, subCV, fill, setCells, mkAgg, allP, frz, frz1, frzL, frzs, kill, kill1, killL, kills, bnd, unV, bsz, toPs, toP, isPure1, pureL, List.elem, List.replicate, Int.reduceLE, Int.reduceLT, ↓reduceIte, reduceCtorEq, Nat.reduceLT, Nat.reduceEqDiff, Nat.reduceAdd, Nat.reduceMul, Nat.reduceLeDiff, Nat.reduceBEq, kp2 hcmp, hci, kp2 k1, kp2 k2, bq1, bq2] <;> rfl
    · have hci : cmpI (val a) (val b) ≥ 0 := by have := mt lt_of_cmp.1 hlt; omega
      have k1 := p141 ha hb (by omega) (by omega) (Nat.le_of_not_lt hlt)
      have hd : (dgl (val a - val b)).length ≤ a.length := dgl_len (Nat.lt_of_le_of_lt (Nat.sub_le _ _) (val_lt ha))
      have k2 := p107 (neg := n1) (dgl_lim (val a - val b)) (by omega)
      rw [val_dgl] at k2
      have e : zi (iv n1 a + iv n2 b) = mk n1 (val a - val b) := by
        rw [mk_iv]; unfold iv; congr 1; cases n1 <;> cases n2 <;> simp at hs ⊢ <;> omega
      rw [e]
      cases n1 <;> cases n2 <;> simp at hs <;> simp only [f109, args0, S1, S2, S3, S4, S5, r_idx, r_mks, ev, resultsV, resL, resV, vl, gt, st, sto, fgt, i64, subCV, fill, setCells, mkAgg, allP, frz, frz1, frzL, frzs, kill, kill1, killL, kills, bnd, unV, bsz, toPs, toP, isPure1, pureL, List.elem, List.replicate, Int.reduceLE, Int.reduceLT, ↓reduceIte, reduceCtorEq, Nat.reduceLT, Nat.reduceEqDiff, Nat.reduceAdd, Nat.reduceMul, Nat.reduceLeDiff, Nat.reduceBEq, kp2 hcmp, hci, kp2 k1, kp2 k2, bq1, bq2] <;> rfl

theorem p60 {p q : PV} {x y : Int} (h : Nu p x) (h' : Nu q y) : Pu rp 60 [p, q] (.p (zi (x - y))) := by
  have k2 := p109 h (Nu.zi h'.sz.neg)
  have k1 := p58' h'
  obtain ⟨n1, a, rfl, ha, hna, rfl⟩ := h
  obtain ⟨n2, b, rfl, hb, hnb, rfl⟩ := h'
  refine pu_of rp60 ?_
  rw [Int.sub_eq_add_neg]
  simp only [f60, args0, S1, S2, S3, S4, S5, r_idx, r_mks, ev, resultsV, resL, resV, vl, gt, st, sto, fgt, i64, subCV, fill, setCells, mkAgg, allP, frz, frz1, frzL, frzs, kill, kill1, killL, kills, bnd, unV, bsz, toPs, toP, isPure1, pureL, List.elem, List.replicate, Int.reduceLE, Int.reduceLT, ↓reduceIte, reduceCtorEq, Nat.reduceLT, Nat.reduceEqDiff, Nat.reduceAdd, Nat.reduceMul, Nat.reduceLeDiff, Nat.reduceBEq, kp1 k1, kp2 k2]
  rfl
end Go.Proofs.Ytdieenbfdeaffaa.VBn

namespace Go.Proofs.Ytdieenbfdeaffaa.VBn
open Go Vpi
set_option maxRecDepth 100000
set_option linter.unusedSimpArgs false
set_option linter.unusedVariables false

/-- a size, in limbs -/
def Sk (n : Nat) (x : Int) : Prop := x.natAbs < LB ^ n

theorem Sk.sz {n : Nat} {x : Int} (h : Sk n x) (hn : n ≤ 100000000000) : Sz x := Nat.lt_of_lt_of_le h (Nat.pow_le_pow_right LB_pos (by rw [CapN_eq]; exact hn))
theorem Sk.mono {n m : Nat} {x : Int} (h : Sk n x) (hn : n ≤ m) : Sk m x := Nat.lt_of_lt_of_le h (Nat.pow_le_pow_right LB_pos hn)
theorem Sk.mul {n m : Nat} {x y : Int} (h : Sk n x) (h' : Sk m y) : Sk (n + m) (x * y) := by
  unfold Sk at *
  rw [Int.natAbs_mul, Nat.pow_add]
  exact Nat.mul_lt_mul'' h h'
theorem Sk.neg {n : Nat} {x : Int} (h : Sk n x) : Sk n (-x) := by unfold Sk at *; rwa [Int.natAbs_neg]
theorem Sk.add {n : Nat} {x y : Int} (h : Sk n x) (h' : Sk n y) : Sk (n + 1) (x + y) := by
  unfold Sk at *
  have h1 := Int.natAbs_add_le x y
  have h3 : LB ^ n * 2 ≤ LB ^ n * LB := Nat.mul_le_mul_left _ (by decide)
  rw [Nat.pow_succ]
  omega
theorem Sk.sub {n : Nat} {x y : Int} (h : Sk n x) (h' : Sk n y) : Sk (n + 1) (x - y) := by
  rw [Int.sub_eq_add_neg]; exact h.add h'.neg
theorem Sk.le {n : Nat} {x y : Int} (h : Sk n x) (hy : y.natAbs ≤ x.natAbs) : Sk n y := Nat.lt_of_le_of_lt hy h

/-- a rational -/
def rq (x : Rat) : PV := .agg [.bool (decide (x.num < 0) && decide (x.num.natAbs ≠ 0)), .sl (lm (dgl x.num.natAbs)), .bool false, .sl (lm (dgl x.den))]

/-- small enough to go on with -/
def RS (x : Rat) : Prop := Sk 10000 x.num ∧ Sk 10000 (x.den : Int)

theorem divInt_pos {a b : Int} (hb : 0 < b) : (Rat.divInt a b).num = a / (Int.gcd a b : Nat) ∧ (Rat.divInt a b).den = b.natAbs / Int.gcd a b := by
  obtain ⟨n, rfl⟩ := Int.eq_ofNat_of_zero_le (Int.le_of_lt hb)
  have hn : n ≠ 0 := by omega
  have e : Rat.divInt a (n : Int) = mkRat a n := rfl
  rw [e, Rat.mkRat_def, dif_neg hn, Rat.normalize_eq hn]
  exact ⟨rfl, rfl⟩

theorem RS.num {x : Rat} (h : RS x) : Nu (zi x.num) x.num := Nu.zi (h.1.sz (by omega))

end Go.Proofs.Ytdieenbfdeaffaa.VBn

namespace Go.Proofs.Ytdieenbfdeaffaa.Gs
set_option linter.unusedVariables false

def sumR (f : Nat → Rat) : Nat → Rat
  | 0 => 0
  | n + 1 => sumR f n + f n

def sg : Nat → Rat
  | 0 => 1
  | n + 1 => - sg n

/-- the places without one -/
def sk (r p : Nat) : Nat := if p < r then p else p + 1

def det : Nat → (Nat → Nat → Rat) → Rat
  | 0, _ => 1
  | n + 1, A => sumR (fun r => sg r * A r 0 * det n fun p q => A (sk r p) (q + 1)) (n + 1)

theorem sk_lt {r p n : Nat} (hr : r < n + 1) (hp : p < n) : sk r p < n + 1 := by unfold sk; split <;> omega
/-- where a row stands when another one is taken out -/
def sp (r p : Nat) : Nat := if p < r then p else p - 1

/-- a row put in another's place -/
def put (A : Nat → Nat → Rat) (p : Nat) (v : Nat → Rat) : Nat → Nat → Rat := fun r q => if r = p then v q else A r q

end Go.Proofs.Ytdieenbfdeaffaa.Gs

namespace Go.Proofs.Ytdieenbfdeaffaa.Gs
set_option linter.unusedVariables false

def U (g : Nat → Nat → Rat) : Nat → Nat → Nat → Rat
  | 0, i, j => g i j
  | k + 1, i, j => U g k i j - U g k i k * U g k k j / U g k k k

def Dk (g : Nat → Nat → Rat) : Nat → Rat
  | 0 => 1
  | k + 1 => Dk g k * U g k k k

def nx (g : Nat → Nat → Rat) : Nat → Nat → Rat := fun i j => U g 1 (i + 1) (j + 1)

/-- a whole number not above M -/
def In (M : Nat) (x : Rat) : Prop := ∃ v : Int, x = (v : Rat) ∧ v.natAbs ≤ M

theorem In.mul {M N : Nat} {x y : Rat} (h : In M x) (h' : In N y) : In (M * N) (x * y) := by
  obtain ⟨v, rfl, hv⟩ := h
  obtain ⟨w, rfl, hw⟩ := h'
  exact ⟨v * w, by rw [Rat.intCast_mul], by rw [Int.natAbs_mul]; exact Nat.mul_le_mul hv hw⟩
theorem In.add {M N : Nat} {x y : Rat} (h : In M x) (h' : In N y) : In (M + N) (x + y) := by
  obtain ⟨v, rfl, hv⟩ := h
  obtain ⟨w, rfl, hw⟩ := h'
  exact ⟨v + w, by rw [Rat.intCast_add], by have := Int.natAbs_add_le v w; omega⟩
theorem In.neg {M : Nat} {x : Rat} (h : In M x) : In M (-x) := by
  obtain ⟨v, rfl, hv⟩ := h
  exact ⟨-v, by rw [Rat.intCast_neg], by rwa [Int.natAbs_neg]⟩
theorem In.sg : ∀ {n : Nat}, In 1 (sg n)
  | 0 => ⟨1, rfl, by decide⟩
  | n + 1 => In.neg In.sg
theorem In.sum {M : Nat} {f : Nat → Rat} : ∀ {n : Nat}, (∀ r, r < n → In M (f r)) → In (n * M) (sumR f n)
  | 0, _ => ⟨0, rfl, by simp⟩
  | n + 1, h => by
    rw [Nat.add_mul, Nat.one_mul]
    exact In.add (In.sum fun r hr => h r (by omega)) (h n (by omega))

def bd (M : Nat) : Nat → Nat
  | 0 => 1
  | n + 1 => (n + 1) * (M * bd M n)

theorem In.det {M : Nat} : ∀ {n : Nat} {A : Nat → Nat → Rat}, (∀ p q, p < n → q < n → In M (A p q)) → In (bd M n) (det n A)
  | 0, _, _ => ⟨1, rfl, Nat.le_refl 1⟩
  | n + 1, A, h => by
    rw [Gs.det, bd]
    apply In.sum
    intro r hr
    have := (In.mul (In.sg (n := r)) (h r 0 hr (by omega))).mul (In.det (n := n) (A := fun p q => A (sk r p) (q + 1)) fun p q hp hq => h _ _ (sk_lt hr hp) (by omega))
    rw [Nat.one_mul] at this
    exact this

/-- elimination in whole numbers -/
def V (g : Nat → Nat → Int) : Nat → Nat → Nat → Int
  | 0, i, j => g i j
  | 1, i, j => (V g 0 0 0 * V g 0 i j - V g 0 i 0 * V g 0 j 0) / 1
  | k + 2, i, j => (V g (k + 1) (k + 1) (k + 1) * V g (k + 1) i j - V g (k + 1) i (k + 1) * V g (k + 1) j (k + 1)) / V g k k k

/-- the determinants -/
def Dv (g : Nat → Nat → Int) : Nat → Int
  | 0 => 1
  | k + 1 => V g k k k

def rg (g : Nat → Nat → Int) : Nat → Nat → Rat := fun i j => ((g i j : Int) : Rat)

/-- all pivots ahead are above nought -/
def Pos (g : Nat → Nat → Int) (k : Nat) : Prop := ∀ t, t < k → 0 < V g t t t

theorem Pos.mono {g : Nat → Nat → Int} {k m : Nat} (h : Pos g k) (hm : m ≤ k) : Pos g m := fun t ht => h t (by omega)

structure Good (g : Nat → Nat → Int) (M k : Nat) : Prop where
  d : (Dv g k : Rat) = Dk (rg g) k
  dp : 0 < Dv g k
  piv : ∀ t, t < k → 0 < U (rg g) t t t
  v : ∀ i j, k ≤ i → k ≤ j → (V g k i j : Rat) = Dk (rg g) k * U (rg g) k i j
  sz : ∀ i j, k ≤ i → k ≤ j → (∀ p q, (p < k ∨ p = i) → (q < k ∨ q = j) → (g p q).natAbs ≤ M) → (V g k i j).natAbs ≤ bd M (k + 1)

end Go.Proofs.Ytdieenbfdeaffaa.Gs

namespace Go.Proofs.Ytdieenbfdeaffaa.VBn
open Go Vpi
set_option maxRecDepth 100000
set_option linter.unusedSimpArgs false
set_option linter.unusedVariables false

/-- a row of numbers -/
def NuR (r : List PV) (x : Nat → Int) : Prop := ∀ i, i < r.length → ∃ p, r[i]? = some p ∧ Nu p (x i)

theorem zi_zero : zi 0 = .agg [.bool false, .sl []] := by
  rw [zi_raw, Int.natAbs_zero, dgl_zero]; rfl

section
variable {r s : List PV} {x y : Nat → Int}

end
end Go.Proofs.Ytdieenbfdeaffaa.VBn

namespace Go.Proofs.Ytdieenbfdeaffaa.VBn
open Go Vpi
set_option maxRecDepth 100000
set_option linter.unusedSimpArgs false
set_option linter.unusedVariables false

theorem rp93 : rp 93 = some f93 := rfl
/-- a matrix: its rows' lengths, its numbers -/
def MR (b : List PV) (n : Nat → Nat) (X : Nat → Nat → Int) : Prop := ∀ i, i < b.length → ∃ r, b[i]? = some (.sl r) ∧ r.length = n i ∧ n i ≤ 2000000 ∧ NuR r (X i)

section
variable {b : List PV} {n : Nat → Nat} {X : Nat → Nat → Int}

/-- is a row's length not the first one's? -/
def Uneven (n : Nat → Nat) (m : Nat) : Prop := ∃ i, i < m ∧ n i ≠ n 0

theorem p93 (hb : MR b n X) (h0 : b.length ≠ 0) (hlb : b.length ≤ 2000000) :
    (Uneven n b.length → Pu rp 93 [.sl b] (.tup [.p (.int .i64 0), .p (.int .i64 0), .p (.int .i64 8)])) ∧
    (¬ Uneven n b.length → Pu rp 93 [.sl b] (.tup [.p (.int .i64 b.length), .p (.int .i64 (n 0 : Nat)), .p (.int .i64 0)])) := by
  have e : ((b.length : Int) == 0) = false := by rw [beq_eq_false_iff_ne]; omega
  obtain ⟨r0, hr0, hl0, hn0, -⟩ := hb 0 (by omega)
  have key : ∀ R : CV, (Uneven n b.length → R = .tup [.p (.int .i64 0), .p (.int .i64 0), .p (.int .i64 8)]) → (¬ Uneven n b.length → R = .tup [.p (.int .i64 b.length), .p (.int .i64 (n 0 : Nat)), .p (.int .i64 0)]) → Pu rp 93 [.sl b] R := by
    intro R h1 h2
    refine pu_of rp93 ?_
    simp only [f93, args0, S1, S2, S3, S4, S5, r_idx, r_mks, ev, resultsV, resL, resV, vl, gt, st, sto, fgt, i64, subCV, fill, setCells, mkAgg, allP, frz, frz1, frzL, frzs, kill, kill1, killL, kills, bnd, unV, bsz, toPs, toP, isPure1, pureL, List.elem, List.replicate, Int.reduceLE, Int.reduceLT, ↓reduceIte, reduceCtorEq, Nat.reduceLT, Nat.reduceEqDiff, Nat.reduceAdd, Nat.reduceMul, Nat.reduceLeDiff, Nat.reduceBEq, e]
    refine loop_rule (β := Nat) (fun t => ([(0, .p (.sl b)), (10, .p (.sl b)), (11, i64 b.length), (12, i64 t)], []))
      (fun t => t ≤ b.length ∧ ∀ k, k < t → n k = n 0) (fun t => b.length - t) 0 rfl rfl ⟨Nat.zero_le _, fun k hk => by omega⟩ ?_
    rintro i ⟨hi, hev⟩ ih
    simp only [] at hi hev ih ⊢
    by_cases hin : (i : Int) < b.length
    · obtain ⟨r, hr, hrl, hrn, -⟩ := hb i (by omega)
      have i0 : Int.toNat 0 = 0 := rfl
      by_cases hne : n i = n 0
      · have e1 : ((r.length : Int) != (r0.length : Int)) = false := by rw [hrl, hl0, hne]; simp
        have hw : IntKind.i64.wrap ((i : Int) + 1) = ((i + 1 : Nat) : Int) := by rw [IntWalk.i64_in _ (by omega)]; omega
        simp only [S1, S2, S3, S4, S5, r_idx, r_mks, ev, resultsV, resL, resV, vl, gt, st, sto, fgt, i64, subCV, fill, setCells, mkAgg, allP, frz, frz1, frzL, frzs, kill, kill1, killL, kills, bnd, unV, bsz, toPs, toP, isPure1, pureL, List.elem, List.replicate, Int.reduceLE, Int.reduceLT, ↓reduceIte, reduceCtorEq, Nat.reduceLT, Nat.reduceEqDiff, Nat.reduceAdd, Nat.reduceMul, Nat.reduceLeDiff, Nat.reduceBEq, hin, hr, i0, hr0, Int.natCast_nonneg, Int.toNat_natCast, e1, hw]
        refine ih (i + 1) _ ⟨by omega, fun k hk => ?_⟩ (by omega) ?_
        · rcases Nat.lt_or_ge k i with h | h
          · exact hev k h
          · obtain rfl : k = i := by omega
            exact hne
        · rfl
      · have e1 : ((r.length : Int) != (r0.length : Int)) = true := by rw [hrl, hl0]; simp; omega
        simp only [S1, S2, S3, S4, S5, r_idx, r_mks, ev, resultsV, resL, resV, vl, gt, st, sto, fgt, i64, subCV, fill, setCells, mkAgg, allP, frz, frz1, frzL, frzs, kill, kill1, killL, kills, bnd, unV, bsz, toPs, toP, isPure1, pureL, List.elem, List.replicate, Int.reduceLE, Int.reduceLT, ↓reduceIte, reduceCtorEq, Nat.reduceLT, Nat.reduceEqDiff, Nat.reduceAdd, Nat.reduceMul, Nat.reduceLeDiff, Nat.reduceBEq, hin, hr, i0, hr0, Int.natCast_nonneg, Int.toNat_natCast, e1]
        rw [h1 ⟨i, by omega, hne⟩]
        exact back_t3 back1_p back1_p back1_p
    · obtain rfl : i = b.length := by omega
      have i0 : Int.toNat 0 = 0 := rfl
      simp only [S1, S2, S3, S4, S5, r_idx, r_mks, ev, resultsV, resL, resV, vl, gt, st, sto, fgt, i64, subCV, fill, setCells, mkAgg, allP, frz, frz1, frzL, frzs, kill, kill1, killL, kills, bnd, unV, bsz, toPs, toP, isPure1, pureL, List.elem, List.replicate, Int.reduceLE, Int.reduceLT, ↓reduceIte, reduceCtorEq, Nat.reduceLT, Nat.reduceEqDiff, Nat.reduceAdd, Nat.reduceMul, Nat.reduceLeDiff, Nat.reduceBEq, hin, hr0, i0]
      rw [h2 (fun ⟨k, hk, hk2⟩ => hk2 (hev k hk)), hl0]
      exact back_t3 back1_p back1_p back1_p
  exact ⟨fun h => key _ (fun _ => rfl) (fun h2 => absurd h h2), fun h => key _ (fun h2 => absurd h2 h) (fun _ => rfl)⟩

/-- too big -/
def Big (n : Nat → Nat) (X : Nat → Nat → Int) (m : Nat) : Prop := 12 < m ∨ (∃ i, i < m ∧ 12 < n i) ∨ ∃ i j, i < m ∧ j < n i ∧ 256 < bl (X i j).natAbs

open Classical in
/-- what is wrong with a shape -/
noncomputable def shE (n : Nat → Nat) (X : Nat → Nat → Int) (m : Nat) : Int := if Big n X m then 40 else if m = 0 then 41 else if Uneven n m then 8 else 0

end
end Go.Proofs.Ytdieenbfdeaffaa.VBn

namespace Go.Proofs.Ytdieenbfdeaffaa.VBn
open Go Vpi
open Gs (V Dv Pos Good)
set_option maxRecDepth 100000
set_option linter.unusedSimpArgs false
set_option linter.unusedVariables false

section
variable {rp : RProg} {rs : List RRes} {base : Nat} {d : Option Nat} {l : List LOp} {dr : Dr} {ks : List KI} {e : Env} {σ : Store} {Q : CV → Store → Prop}
end

section
variable {rp : RProg} {rs : List RRes} {base : Nat} {d : Option Nat} {l : List LOp} {dr : Dr} {ks : List KI} {e : Env} {σ : Store} {Q : CV → Store → Prop} {sz : Nat} {c : CV} {es xs : List PV}

end

theorem subPV_zi {x : Int} : subPV true 2 (zi x) 0 = some (zi x) := subPV_mk

/-- rows of one length, of numbers that are not too long -/
structure Bs (b : List PV) (N : Nat) (X : Nat → Nat → Int) : Prop where
  m : b.length ≤ 12
  n : N ≤ 12
  row : ∀ i, i < b.length → ∃ r, b[i]? = some (.sl r) ∧ r.length = N ∧ NuR r (X i)
  sz : ∀ i j, i < b.length → j < N → Sk 8 (X i j)

section
variable {b : List PV} {N : Nat} {X : Nat → Nat → Int}

/-- the lists -/
def Dl (g : Nat → Nat → Int) (i : Nat) : List PV := (List.range i).map fun k => zi (Dv g k)
def Ll (g : Nat → Nat → Int) (i j : Nat) : List PV := (List.range j).map fun k => zi (V g k i k)
def Rl (g : Nat → Nat → Int) (i : Nat) : List PV := (List.range i).map fun t => .sl (Ll g t t)

/-- a number's cells -/
def cz (x : Int) : List CV := [.p (.bool (decide (x < 0) && decide (x.natAbs ≠ 0))), .p (.sl (lm (dgl x.natAbs)))]

/-- the store while a row is made -/
structure JI (g : Nat → Nat → Int) (τ : Store) (bd : Nat) (cL : CV) (i j bl : Nat) : Prop where
  g0 : τ[0]? = some (.kblk 2 [.nils, .nils])
  g2 : τ[2]? = some (.kblk 2 [.own bd 0 (i + 1), cL])
  gd : τ[bd]? = some (.prow 2 (Dl g (i + 1)))
  gL : GL τ 1 cL (Rl g i)
  gl : τ[bl]? = some (.prow 2 (Ll g i j))
  ne : bl ≠ bd

end
end Go.Proofs.Ytdieenbfdeaffaa.VBn

namespace Go.Proofs.Ytdieenbfdeaffaa.VBn
open Go Vpi
open Gs (V Dv Pos Good)
set_option maxRecDepth 100000
set_option linter.unusedSimpArgs false
set_option linter.unusedVariables false

section
variable {b : List PV} {n : Nat → Nat} {X : Nat → Nat → Int}

theorem shE_zero {m : Nat} (h : shE n X m = 0) : ¬ Big n X m ∧ m ≠ 0 ∧ ¬ Uneven n m := by
  unfold shE at h
  refine ⟨fun hb => ?_, fun h0 => ?_, fun hu => ?_⟩
  · rw [if_pos hb] at h; cases h
  · by_cases hb : Big n X m
    · rw [if_pos hb] at h; cases h
    · rw [if_neg hb, if_pos h0] at h; cases h
  · by_cases hb : Big n X m
    · rw [if_pos hb] at h; cases h
    · by_cases h0 : m = 0
      · rw [if_neg hb, if_pos h0] at h; cases h
      · rw [if_neg hb, if_neg h0, if_pos hu] at h; cases h

theorem sk8_of_bl {x : Int} (h : bl x.natAbs ≤ 256) : Sk 8 x := by
  unfold Sk
  by_cases h0 : x.natAbs = 0
  · rw [h0]; exact Nat.pow_pos LB_pos
  · have h1 := (bl_spec h0).2.1
    have h2 : 2 ^ bl x.natAbs ≤ 2 ^ 256 := Nat.pow_le_pow_right (by decide) h
    have h3 : LB ^ 8 = 2 ^ 256 := by
      show (2 ^ 32) ^ 8 = _
      rw [← Nat.pow_mul]
    rw [h3]; omega

theorem MR.bs (hb : MR b n X) (h : shE n X b.length = 0) : Bs b (n 0) X := by
  obtain ⟨h1, h2, h3⟩ := shE_zero h
  have hm : b.length ≤ 12 := Nat.not_lt.1 fun hh => h1 (.inl hh)
  have hn : ∀ i, i < b.length → n i = n 0 := fun i hi => Classical.byContradiction fun hne => h3 ⟨i, hi, hne⟩
  refine ⟨hm, Nat.not_lt.1 fun hh => h1 (.inr (.inl ⟨0, by omega, hh⟩)), fun i hi => ?_, fun i j hi hj => ?_⟩
  · obtain ⟨r, hr, hl, _, hx⟩ := hb i hi
    exact ⟨r, hr, by rw [hl, hn i hi], hx⟩
  · exact sk8_of_bl (Nat.not_lt.1 fun hh => h1 (.inr (.inr ⟨i, j, hi, by rw [hn i hi]; exact hj, hh⟩)))

end
end Go.Proofs.Ytdieenbfdeaffaa.VBn

namespace Go.Proofs.Ytdieenbfdeaffaa.VBn
open Go Vpi
open Gs (V Dv Pos Good U Dk rg)
set_option maxRecDepth 100000
set_option linter.unusedSimpArgs false
set_option linter.unusedVariables false

def RSn (n : Nat) (x : Rat) : Prop := Sk n x.num ∧ Sk n (x.den : Int)

theorem RSn.rs {n : Nat} {x : Rat} (h : RSn n x) (hn : n ≤ 10000) : RS x := ⟨h.1.mono hn, h.2.mono hn⟩

theorem rsn_divInt {n : Nat} {a b : Int} (hb : 0 < b) (ha : Sk n a) (hb' : Sk n b) : RSn n (Rat.divInt a b) := by
  obtain ⟨h1, h2⟩ := divInt_pos (a := a) hb
  refine ⟨?_, ?_⟩
  · rw [h1]
    exact ha.le (Int.natAbs_ediv_le_natAbs _ _)
  · rw [h2]
    exact hb'.le (Nat.div_le_self _ _)

theorem RSn.mul {n m : Nat} {x y : Rat} (h : RSn n x) (h' : RSn m y) : RSn (n + m) (x * y) := by
  have e : x * y = Rat.divInt (x.num * y.num) ((x.den : Int) * y.den) := by
    have := Rat.divInt_mul_divInt x.num y.num (d₁ := x.den) (d₂ := y.den)
    rwa [Rat.num_divInt_den, Rat.num_divInt_den] at this
  rw [e]
  have := x.den_nz
  have := y.den_nz
  exact rsn_divInt (Int.mul_pos (by omega) (by omega)) (h.1.mul h'.1) (h.2.mul h'.2)

section
variable {b : List PV} {N : Nat} {X : Nat → Nat → Int}

/-- what the reference keeps -/
def star (g : Nat → Nat → Int) (k : Nat) : Rat := U (rg g) k k k
def mu (g : Nat → Nat → Int) (i k : Nat) : Rat := U (rg g) k i k / U (rg g) k k k

/-- the lists -/
def Sl (g : Nat → Nat → Int) (i : Nat) : List PV := (List.range i).map fun k => rq (star g k)
def Ul (g : Nat → Nat → Int) (i j : Nat) : List PV := (List.range j).map fun k => rq (mu g i k)
def Ml (g : Nat → Nat → Int) (i : Nat) : List PV := (List.range i).map fun t => .sl (Ul g t t)

def cr (x : Rat) : List CV := [.p (.bool (decide (x.num < 0) && decide (x.num.natAbs ≠ 0))), .p (.sl (lm (dgl x.num.natAbs))), .p (.bool false), .p (.sl (lm (dgl x.den)))]

/-- two lists do not share their block -/
def Apart (c c' : CV) : Prop := ∀ b o n b' o' n', c = .own b o n → c' = .own b' o' n' → b ≠ b'

/-- the store while a row is made -/
structure KI2 (g : Nat → Nat → Int) (τ : Store) (cM cS : CV) (i j : Nat) (c : CV) : Prop where
  g0 : τ[0]? = some (.kblk 2 [.nils, .nils])
  g1 : τ[1]? = some (.kblk 2 [cM, cS])
  gM : GL τ 1 cM (Ml g i)
  gS : GL τ 4 cS (Sl g i)
  gc : GL τ 4 c (Ul g i j)
  ap : Apart c cS

theorem GL.ne_sz {σ : Store} {s s' : Nat} {c c' : CV} {es es' : List PV} (h : GL σ s c es) (h' : GL σ s' c' es') (hs : s ≠ s') : Apart c c' := by
  rintro b o n b' o' n' rfl rfl rfl
  rcases h with ⟨h, _⟩ | ⟨k, h, hk⟩
  · cases h
  rcases h' with ⟨h', _⟩ | ⟨k', h', hk'⟩
  · cases h'
  cases h; cases h'
  rw [hk] at hk'
  cases hk'
  exact hs rfl
theorem Apart.symm {c c' : CV} (h : Apart c c') : Apart c' c := fun b o n b' o' n' h1 h2 => (h b' o' n' b o n h2 h1).symm

theorem GL.nd {σ : Store} {sz : Nat} {c c' : CV} {es : List PV} (h : GL σ sz c es) (ha : Apart c c') : GL (nd σ c') sz c es := by
  cases c' with
  | own b o n => exact h.set_ne fun b' o' n' hc => ha b' o' n' b o n hc rfl
  | _ => exact h
theorem GL.nek {σ : Store} {sz s : Nat} {c : CV} {es : List PV} {k : Nat} {cs : List CV} (h : GL σ sz c es) (hk : σ[k]? = some (.kblk s cs)) : ∀ b o n, c = .own b o n → b ≠ k := by
  rintro b o n rfl rfl
  rcases h with ⟨h, _⟩ | ⟨b', h, hb⟩
  · cases h
  · cases h; rw [hb] at hk; cases hk

end
end Go.Proofs.Ytdieenbfdeaffaa.VBn
