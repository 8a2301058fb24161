/- herm.basis, herm.Kernel, relate.Space; herm.Kernel of a column, relate.Space; The reference: Floor, lose, Lead, Shape, identity; The reference's elimination: plain part; The reference's Hermite form; The reference: identity, basis, kernel, Space; The reference's Space; Comparison, awake, the law RelateSpace; What the law's row asks; What the bound on all arguments gives for their parts. No condition. -/
import Derived.Test.YtdieenbfdeaffaaZr1
import Derived.Test.YtdieenbfdeaffaaZc1
import Derived.Test.YtdieenbfdeaffaaChecked
import Derived.Test.YtdieenbfdeaffaaRows

namespace Go.Proofs.Ytdieenbfdeaffaa.VRs
open Go Vpi
open VBn hiding rp tab rp_ok all_ok mixed sim Big
open Hn (addR swR tuR Fl en Wd Bd Col Inn Ph Least SpE Frm vec vm Sp shR)
set_option maxRecDepth 100000
set_option linter.unusedSimpArgs false
set_option linter.unusedVariables false

theorem rp150 : rp 150 = some f150 := rfl
theorem rp123 : rp 123 = some f123 := rfl

/-! ### the left side alone -/

theorem vec_take {m j : Nat} {s : List Int} (h : j < m) : vec (s.take m) j = vec s j := by
  unfold vec
  rw [List.getD_eq_getElem?_getD, List.getD_eq_getElem?_getD, List.getElem?_take, if_pos h]

theorem Frm_left {W : List (List Int)} {m r : Nat} (h : Frm W m r) : Frm (lw m W) m r := by
  have hget : ∀ (i : Nat) (s : List Int), (lw m W)[i]? = some s → ∃ t, W[i]? = some t ∧ s = t.take m := fun i s hs => by
    unfold lw at hs
    rw [List.getElem?_map, Option.map_eq_some_iff] at hs
    obtain ⟨t, ht, rfl⟩ := hs
    exact ⟨t, ht, rfl⟩
  have hhead : ∀ (i : Nat) (s : List Int), i < r → (lw m W)[i]? = some s → ∃ p, p < m ∧ 0 < vec s p ∧ ∀ j, j < p → vec s j = 0 := by
    intro i s hi hs
    obtain ⟨t, ht, rfl⟩ := hget i s hs
    obtain ⟨p, hp, h1, h2⟩ := h.head i t hi ht
    exact ⟨p, hp, by rw [vec_take hp]; exact h1, fun j hj => by rw [vec_take (by omega)]; exact h2 j hj⟩
  refine ⟨by rw [lw_len]; exact h.le, ?_, hhead, fun i s hi hs j hj => ?_⟩
  · refine Hn.Hnf.congr (d := m) (by simp [vm, lw]) (fun i a b ha hb j hj => ?_) (fun b hb => ?_) h.hnf
    · simp only [vm, List.getElem?_map, Option.map_eq_some_iff] at ha hb
      obtain ⟨s, hs, rfl⟩ := ha
      obtain ⟨u, hu, rfl⟩ := hb
      rw [List.getElem?_take] at hs hu
      split at hs
      · rename_i hir
        rw [if_pos hir] at hu
        obtain ⟨t, ht, rfl⟩ := hget i u hu
        rw [hs] at ht
        cases ht
        exact (vec_take hj).symm
      · cases hs
    · obtain ⟨i, u, hi, rfl⟩ := Hn.mem_vm.1 hb
      rw [List.getElem?_take] at hi
      split at hi
      · rename_i hir
        exact hhead i u hir hi
      · cases hi
  · obtain ⟨t, ht, rfl⟩ := hget i s hs
    rw [vec_take hj]
    exact h.low i t hi ht j hj

theorem Sp_take {M : List (List Int)} {m : Nat} {v : Hn.Vec} (h : Sp (vm M) v) : Sp (vm (lw m M)) fun j => if j < m then v j else 0 := by
  induction h with
  | zero => exact Sp.zero.cast fun j => by split <;> rfl
  | @add v r c hr _ ih =>
    obtain ⟨j, s, hj, rfl⟩ := Hn.mem_vm.1 hr
    refine (Sp.add c (r := vec (s.take m)) (Hn.mem_vm.2 ⟨j, s.take m, by simp [lw, hj], rfl⟩) ih).cast fun x => ?_
    by_cases hx : x < m
    · simp only [hx, if_true, vec_take hx]
    · have : vec (s.take m) x = 0 := by
        unfold vec
        rw [List.getD_eq_getElem?_getD, List.getElem?_eq_none (by rw [List.length_take]; omega)]; rfl
      simp only [hx, if_false, this, Int.mul_zero, Int.add_zero]

theorem SpE_left {A B : List (List Int)} {m : Nat} (h : SpE A B) : SpE (lw m A) (lw m B) := by
  have key : ∀ {A B : List (List Int)}, SpE A B → ∀ v, Sp (vm (lw m A)) v → Sp (vm (lw m B)) v := by
    intro A B h v
    refine Sp.mono fun r hr => ?_
    obtain ⟨j, s, hj, rfl⟩ := Hn.mem_vm.1 hr
    unfold lw at hj
    rw [List.getElem?_map, Option.map_eq_some_iff] at hj
    obtain ⟨t, ht, rfl⟩ := hj
    refine (Sp_take (m := m) ((h _).1 (Hn.vm_row ht))).cast fun x => ?_
    by_cases hx : x < m
    · simp only [hx, if_true, vec_take hx]
    · have : vec (t.take m) x = 0 := by
        unfold vec
        rw [List.getD_eq_getElem?_getD, List.getElem?_eq_none (by rw [List.length_take]; omega)]; rfl
      simp only [hx, if_false, this]
  exact fun v => ⟨key h v, key h.symm v⟩

theorem lw_wd {m n : Nat} {W : List (List Int)} (h : Wd (m + n) W) : Wd m (lw m W) := by
  intro i s hs
  unfold lw at hs
  rw [List.getElem?_map, Option.map_eq_some_iff] at hs
  obtain ⟨t, ht, rfl⟩ := hs
  rw [List.length_take, h i t ht]; omega
theorem uw_wd {m n : Nat} {W : List (List Int)} (h : Wd (m + n) W) : Wd n (uw m W) := by
  intro i s hs
  unfold uw at hs
  rw [List.getElem?_map, Option.map_eq_some_iff] at hs
  obtain ⟨t, ht, rfl⟩ := hs
  rw [List.length_drop, h i t ht]; omega
theorem zm_take {M : List (List Int)} {r : Nat} : (zm M).take r = zm (M.take r) := by unfold zm; rw [List.map_take]
theorem zm_drop {M : List (List Int)} {r : Nat} : (zm M).drop r = zm (M.drop r) := by unfold zm; rw [List.map_drop]

/-- H is the form of M's lattice, M of m columns -/
def IsB (m : Nat) (M H : List (List Int)) : Prop := ∃ L r, H = L.take r ∧ Wd m L ∧ Frm L m r ∧ SpE M L

theorem IsB.one {m : Nat} {M M' H H' : List (List Int)} (h : IsB m M H) (h' : IsB m M' H') (he : SpE M M') : H = H' := by
  obtain ⟨L, r, rfl, w1, f1, s1⟩ := h
  obtain ⟨L', r', rfl, w2, f2, s2⟩ := h'
  exact Hn.Frm.one w1 w2 f1 f2 ((s1.symm.trans he).trans s2)

/-- sizes that a form may meet -/
def CapOk (E N : Nat) : Prop := ∀ k, k ≤ N → loB E k + 1 < LB ^ CapN ∧ upB E k + 1 < LB ^ CapN

theorem p150 {b : List PV} {M : List (List Int)} {m E : Nat} (hML : ML b M) (hNm : M.length ≤ 2000000) (hw : Wd m M) (hm0 : 0 < m) (hm2 : m ≤ 2000000) (hE : Bd E (sd M (un M.length)) 0) (hC : CapOk E M.length) :
    ∃ H, Pu rp 150 [.sl b, .int .i64 m] (.p (.sl (zm H))) ∧ IsB m M H := by
  rcases Nat.eq_zero_or_pos M.length with h0 | h0
  · obtain rfl : M = [] := List.length_eq_zero_iff.1 h0
    obtain rfl : b = [] := List.length_eq_zero_iff.1 hML.1
    refine ⟨[], ?_, [], 0, rfl, fun i r h => by simp at h, ⟨Nat.le_refl _, trivial, fun i s h => by omega, fun i s _ h => by simp at h⟩, .refl⟩
    refine pu_of rp150 ?_
    have m0 : (0 : Int) < (m : Int) := by omega
    have z0 : ¬ ((0 : Int) < ((0 : Nat) : Int)) := by decide
    have i0 : Int.toNat 0 = 0 := rfl
    simp only [f150, args0, S1, S2, S3, S4, S5, r_idx, r_mks, ev, resultsV, resL, resV, vl, gt, st, sto, fgt, i64, subCV, fill, setCells, mkAgg, allP, frz, frz1, frzL, frzs, kill, kill1, killL, kills, bnd, unV, bsz, toPs, toP, isPure1, pureL, List.elem, List.replicate, Int.reduceLE, Int.reduceLT, ↓reduceIte, reduceCtorEq, Nat.reduceLT, Nat.reduceEqDiff, Nat.reduceAdd, Nat.reduceMul, Nat.reduceLeDiff, Nat.reduceBEq]
    refine kc_keep' ?_
    rw [rn_of rp149]
    simp only [f149, args0, S1, S2, S3, S4, S5, r_idx, r_mks, ev, resultsV, resL, resV, vl, gt, st, sto, fgt, i64, subCV, fill, setCells, mkAgg, allP, frz, frz1, frzL, frzs, kill, kill1, killL, kills, bnd, unV, bsz, toPs, toP, isPure1, pureL, List.elem, List.replicate, Int.reduceLE, Int.reduceLT, ↓reduceIte, reduceCtorEq, Nat.reduceLT, Nat.reduceEqDiff, Nat.reduceAdd, Nat.reduceMul, Nat.reduceLeDiff, Nat.reduceBEq]
    refine kc_keep' (n70 Wf.nil hML (by simp) fun ρ0 bl _ hwf0 _ hbl0 => ?_)
    have hbl : bl < ρ0.length := (List.getElem?_eq_some_iff.1 hbl0).1
    have hb' : ∀ l, (ρ0 ++ l)[bl]? = some (.prow 1 (zm [])) := fun l => by rw [get_left hbl]; exact hbl0
    simp only [S1, S2, S3, S4, S5, r_idx, r_mks, ev, resultsV, resL, resV, vl, gt, st, sto, fgt, i64, subCV, fill, setCells, mkAgg, allP, frz, frz1, frzL, frzs, kill, kill1, killL, kills, bnd, unV, bsz, toPs, toP, isPure1, pureL, List.elem, List.replicate, Int.reduceLE, Int.reduceLT, ↓reduceIte, reduceCtorEq, Nat.reduceLT, Nat.reduceEqDiff, Nat.reduceAdd, Nat.reduceMul, Nat.reduceLeDiff, Nat.reduceBEq, z0]
    rw [ex_loop]
    simp only [S1, S2, S3, S4, S5, r_idx, r_mks, ev, resultsV, resL, resV, vl, gt, st, sto, fgt, i64, subCV, fill, setCells, mkAgg, allP, frz, frz1, frzL, frzs, kill, kill1, killL, kills, bnd, unV, bsz, toPs, toP, isPure1, pureL, List.elem, List.replicate, Int.reduceLE, Int.reduceLT, ↓reduceIte, reduceCtorEq, Nat.reduceLT, Nat.reduceEqDiff, Nat.reduceAdd, Nat.reduceMul, Nat.reduceLeDiff, Nat.reduceBEq, z0]
    rw [ex_loop]
    simp only [S1, S2, S3, S4, S5, r_idx, r_mks, ev, resultsV, resL, resV, vl, gt, st, sto, fgt, i64, subCV, fill, setCells, mkAgg, allP, frz, frz1, frzL, frzs, kill, kill1, killL, kills, bnd, unV, bsz, toPs, toP, isPure1, pureL, List.elem, List.replicate, Int.reduceLE, Int.reduceLT, ↓reduceIte, reduceCtorEq, Nat.reduceLT, Nat.reduceEqDiff, Nat.reduceAdd, Nat.reduceMul, Nat.reduceLeDiff, Nat.reduceBEq, z0, m0, hb', i0, Int.le_refl, sliceV, back, back1, Nat.sub_self]
    rw [if_neg (Nat.not_lt_zero _)]
    simp only [S1, S2, S3, S4, S5, r_idx, r_mks, ev, resultsV, resL, resV, vl, gt, st, sto, fgt, i64, subCV, fill, setCells, mkAgg, allP, frz, frz1, frzL, frzs, kill, kill1, killL, kills, bnd, unV, bsz, toPs, toP, isPure1, pureL, List.elem, List.replicate, Int.reduceLE, Int.reduceLT, ↓reduceIte, reduceCtorEq, Nat.reduceLT, Nat.reduceEqDiff, Nat.reduceAdd, Nat.reduceMul, Nat.reduceLeDiff, Nat.reduceBEq, hb', Nat.zero_le]
    rfl
  · obtain ⟨n, v, hrun, W, r, P, bl, bu, hv, hps, hFI⟩ := n149 hML h0 hNm hw hm0 hm2 hE hC (Q := fun v ρ => ∃ (W : List (List Int)) (r P bl bu : Nat), v = .tup [.ptr P 0 0, i64 r] ∧ PS ρ P bl bu (lw m W) (uw m W) ∧ FI (sd M (un M.length)) W (m + M.length) m r E)
      (fun W r ρ P bl bu h1 h2 => ⟨W, r, P, bl, bu, rfl, h1, h2⟩)
    obtain ⟨v1, ρ⟩ := v
    simp only [] at hv hps
    subst hv
    have hWN : W.length = M.length := hFI.len.trans (sd_len un_len.symm)
    have hrN : r ≤ W.length := hFI.frm.le
    refine ⟨(lw m W).take r, ?_, lw m W, r, rfl, lw_wd hFI.wd, Frm_left hFI.frm, ?_⟩
    · refine pu_of rp150 ?_
      simp only [f150, args0, S1, S2, S3, S4, S5, r_idx, r_mks, ev, resultsV, resL, resV, vl, gt, st, sto, fgt, i64, subCV, fill, setCells, mkAgg, allP, frz, frz1, frzL, frzs, kill, kill1, killL, kills, bnd, unV, bsz, toPs, toP, isPure1, pureL, List.elem, List.replicate, Int.reduceLE, Int.reduceLT, ↓reduceIte, reduceCtorEq, Nat.reduceLT, Nat.reduceEqDiff, Nat.reduceAdd, Nat.reduceMul, Nat.reduceLeDiff, Nat.reduceBEq]
      refine kc_keep' ⟨n, _, hrun, ?_⟩
      have gP := hps.pair
      have gl := hps.l
      have hrl : r ≤ (lw m W).length := by rw [lw_len]; exact hrN
      have hrz : r ≤ (zm (lw m W)).length := by rw [zm_len, lw_len]; exact hrN
      simp only [S1, S2, S3, S4, S5, r_idx, r_mks, ev, resultsV, resL, resV, vl, gt, st, sto, fgt, i64, subCV, fill, setCells, mkAgg, allP, frz, frz1, frzL, frzs, kill, kill1, killL, kills, bnd, unV, bsz, toPs, toP, isPure1, pureL, List.elem, List.replicate, Int.reduceLE, Int.reduceLT, ↓reduceIte, reduceCtorEq, Nat.reduceLT, Nat.reduceEqDiff, Nat.reduceAdd, Nat.reduceMul, Nat.reduceLeDiff, Nat.reduceBEq, gP, gl, Int.natCast_nonneg, Int.toNat_natCast, hrl, sliceV, Nat.sub_zero, Nat.zero_le]
      simp only [back, back1, Nat.not_lt_zero, if_false, frz1, gl, Nat.zero_add, hrz, if_true, List.drop_zero, Option.map_some, zm_take]
    · have := SpE_left (m := m) hFI.sp
      rwa [lw_sd hw un_len.symm] at this

/-! ### the kernel -/

theorem hnf_len : ∀ {A : List Hn.Vec} {c d : Nat}, Hn.Hnf c A → (∀ a ∈ A, ∃ p, p < d ∧ 0 < a p ∧ ∀ j, j < p → a j = 0) → c ≤ d → A.length + c ≤ d
  | [], c, d, _, _, h => by simpa using h
  | a :: A, c, d, ⟨⟨p, g1, g2, g3, g4⟩, g5⟩, hA, _ => by
    obtain ⟨q, hq, hq1, hq2⟩ := hA a (List.mem_cons_self ..)
    have hpq : p = q := by
      rcases Nat.lt_trichotomy p q with h | h | h
      · have := hq2 p h; omega
      · exact h
      · have := g3 q h; omega
    subst hpq
    have := hnf_len g4 (fun x hx => hA x (List.mem_cons_of_mem _ hx)) (by omega)
    rw [List.length_cons]; omega

theorem Frm_le {W : List (List Int)} {m r : Nat} (h : Frm W m r) : r ≤ m := by
  have h1 := hnf_len (d := m) h.hnf (fun a ha => by
    obtain ⟨i, u, hi, rfl⟩ := Hn.mem_vm.1 ha
    rw [List.getElem?_take] at hi
    split at hi
    · rename_i hir; exact h.head i u hir hi
    · cases hi) (Nat.zero_le _)
  have h2 := h.le
  simp only [vm, List.length_map, List.length_take, Nat.add_zero] at h1
  omega

/-- rows of the kernel of M: x with x M = 0 -/
def IsK (m : Nat) (M K : List (List Int)) : Prop := ∀ v, Sp (vm K) v ↔ Sp (vm (sd M (un M.length))) (shR m v)

theorem ML_zm {M : List (List Int)} {n : Nat} (hw : Wd n M) (hn : n ≤ 2000000) (hs : SzA M) : ML (zm M) M := ML.zm fun i r hr => by
  refine ⟨szl_of fun j => ?_, by rw [hw i r hr]; exact hn⟩
  have := hs i j
  unfold en at this
  rwa [show M.getD i [] = r by rw [List.getD_eq_getElem?_getD, hr]; rfl] at this

theorem p123 {b : List PV} {M : List (List Int)} {m E : Nat} (hML : ML b M) (hN0 : 0 < M.length) (hNm : M.length ≤ 2000000) (hw : Wd m M) (hm0 : 0 < m) (hm2 : m ≤ 2000000) (hE : Bd E (sd M (un M.length)) 0) (hC : CapOk E M.length)
    (hC2 : ∀ r, r ≤ m → r ≤ M.length → CapOk (max (loB E r) 1) (M.length - r)) :
    ∃ K H, Pu rp 123 [.sl b, .int .i64 m] (.p (.sl (zm H))) ∧ Wd M.length K ∧ IsK m M K ∧ IsB M.length K H := by
  obtain ⟨n, v, hrun, W, r, P, bl, bu, hv, hps, hFI⟩ := n149 hML hN0 hNm hw hm0 hm2 hE hC (Q := fun v ρ => ∃ (W : List (List Int)) (r P bl bu : Nat), v = .tup [.ptr P 0 0, i64 r] ∧ PS ρ P bl bu (lw m W) (uw m W) ∧ FI (sd M (un M.length)) W (m + M.length) m r E)
      (fun W r ρ P bl bu h1 h2 => ⟨W, r, P, bl, bu, rfl, h1, h2⟩)
  obtain ⟨v1, ρ⟩ := v
  simp only [] at hv hps
  subst hv
  have hWN : W.length = M.length := hFI.len.trans (sd_len un_len.symm)
  have hrN : r ≤ W.length := hFI.frm.le
  have hrm : r ≤ m := Frm_le hFI.frm
  have hu : Wd M.length (uw m W) := uw_wd hFI.wd
  have hK : Wd M.length ((uw m W).drop r) := fun i s hs => hu (r + i) s (by rw [List.getElem?_drop] at hs; exact hs)
  have hKl : ((uw m W).drop r).length = M.length - r := by rw [List.length_drop, uw_len, hWN]
  have eK : ∀ i j, en ((uw m W).drop r) i j = en W (r + i) (m + j) := fun i j => by
    rw [← uw_en]
    refine Hn.en_get ?_ j
    rw [List.getElem?_drop]
  have hbK : ∀ i j, (en ((uw m W).drop r) i j).natAbs ≤ loB E r := fun i j => by rw [eK]; exact hFI.lo _ _ (by omega)
  have hcap := hC r (by omega)
  have hszK : SzA ((uw m W).drop r) := fun i j => sz_of_le (hbK i j) (Nat.lt_of_succ_lt hcap.1)
  have hMLK : ML (zm ((uw m W).drop r)) ((uw m W).drop r) := ML_zm hK hNm hszK
  have hEK : Bd (max (loB E r) 1) (sd ((uw m W).drop r) (un ((uw m W).drop r).length)) 0 := by
    intro i j _
    rcases Nat.lt_or_ge i ((uw m W).drop r).length with hi | hi
    · have h1 : ((uw m W).drop r)[i]? = some (((uw m W).drop r)[i]) := by simp
      have h2 := un_get hi
      rw [Hn.en_vec (sd_get h1 h2)]
      unfold vec
      rw [List.getD_eq_getElem?_getD]
      rcases Nat.lt_or_ge j M.length with hj | hj
      · have hl : j < (((uw m W).drop r)[i]).length := by rw [hK i _ h1]; exact hj
        rw [List.getElem?_append_left hl]
        have h3 := hbK i j
        rw [Hn.en_vec h1] at h3
        unfold vec at h3
        rw [List.getD_eq_getElem?_getD] at h3
        omega
      · have hl : (((uw m W).drop r)[i]).length ≤ j := by rw [hK i _ h1]; exact hj
        rw [List.getElem?_append_right hl]
        generalize j - _ = k
        rcases Nat.lt_or_ge k ((uw m W).drop r).length with hk | hk
        · rw [urow_get hk, Option.getD_some]
          split <;> simp <;> omega
        · rw [List.getElem?_eq_none (by rw [urow_len]; exact hk)]; simp
    · rw [Hn.en_out (by rw [sd_len un_len.symm]; exact hi)]; simp
  obtain ⟨H, h150, hB⟩ := p150 hMLK (by rw [hKl]; omega) hK hN0 hNm hEK (by rw [hKl]; exact hC2 r hrm (by omega))
  refine ⟨(uw m W).drop r, H, ?_, hK, ?_, hB⟩
  · refine pu_of rp123 ?_
    have hbN : b.length = M.length := hML.1
    simp only [f123, args0, S1, S2, S3, S4, S5, r_idx, r_mks, ev, resultsV, resL, resV, vl, gt, st, sto, fgt, i64, subCV, fill, setCells, mkAgg, allP, frz, frz1, frzL, frzs, kill, kill1, killL, kills, bnd, unV, bsz, toPs, toP, isPure1, pureL, List.elem, List.replicate, Int.reduceLE, Int.reduceLT, ↓reduceIte, reduceCtorEq, Nat.reduceLT, Nat.reduceEqDiff, Nat.reduceAdd, Nat.reduceMul, Nat.reduceLeDiff, Nat.reduceBEq]
    refine kc_keep' ⟨n, _, hrun, ?_⟩
    have gP := hps.pair
    have gu := hps.u
    have hru : r ≤ (uw m W).length := by rw [uw_len]; exact hrN
    have hsum : r + ((uw m W).length - r) ≤ (zm (uw m W)).length := by rw [zm_len]; omega
    have htk : ((zm (uw m W)).drop r).take ((uw m W).length - r) = zm ((uw m W).drop r) := by
      rw [List.take_of_length_le (by rw [List.length_drop, zm_len]; exact Nat.le_refl _), zm_drop]
    have hf : frzs ρ [.own bu r ((uw m W).length - r), .p (.int .i64 (M.length : Int))] = some [.sl (zm ((uw m W).drop r)), .int .i64 (M.length : Int)] := by
      simp only [frzs, frz, frz1, gu, hsum, if_true, htk, Option.map_some]
    simp only [S1, S2, S3, S4, S5, r_idx, r_mks, ev, resultsV, resL, resV, vl, gt, st, sto, fgt, i64, subCV, fill, setCells, mkAgg, allP, frz, frz1, frzL, frzs, kill, kill1, killL, kills, bnd, unV, bsz, toPs, toP, isPure1, pureL, List.elem, List.replicate, Int.reduceLE, Int.reduceLT, ↓reduceIte, reduceCtorEq, Nat.reduceLT, Nat.reduceEqDiff, Nat.reduceAdd, Nat.reduceMul, Nat.reduceLeDiff, Nat.reduceBEq, hbN, gP, gu, Int.natCast_nonneg, Int.toNat_natCast, hru, sliceV, Nat.le_refl]
    rw [kc_fz h150 hf]
    simp only [S1, S2, S3, S4, S5, r_idx, r_mks, ev, resultsV, resL, resV, vl, gt, st, sto, fgt, i64, subCV, fill, setCells, mkAgg, allP, frz, frz1, frzL, frzs, kill, kill1, killL, kills, bnd, unV, bsz, toPs, toP, isPure1, pureL, List.elem, List.replicate, Int.reduceLE, Int.reduceLT, ↓reduceIte, reduceCtorEq, Nat.reduceLT, Nat.reduceEqDiff, Nat.reduceAdd, Nat.reduceMul, Nat.reduceLeDiff, Nat.reduceBEq]
    rfl
  · intro v
    have hk := Hn.kern (m := m) (r := r) hFI.sp hFI.frm.hnf.ech (fun a ha p hp hp' => by
      obtain ⟨i, u, hi, rfl⟩ := Hn.mem_vm.1 ha
      rw [List.getElem?_take] at hi
      split at hi
      · rename_i hir
        obtain ⟨q, hq, hq1, hq2⟩ := hFI.frm.head i u hir hi
        rcases Nat.lt_or_ge p m with h | h
        · exact h
        · have := hp' q (by omega); omega
      · cases hi) hFI.frm.low v
    rw [← hk]
    have e : (uw m W).drop r = (W.drop r).map (List.drop m) := by unfold uw; rw [List.map_drop]
    rw [e]
end Go.Proofs.Ytdieenbfdeaffaa.VRs

namespace Go.Proofs.Ytdieenbfdeaffaa.VRs
open Go Vpi
open VBn hiding rp tab rp_ok all_ok mixed sim Big
open Hn (addR swR tuR Fl en Wd Bd Col Inn Ph Least SpE Frm vec vm Sp shR)
set_option maxRecDepth 100000
set_option linter.unusedSimpArgs false
set_option linter.unusedVariables false

theorem rp122 : rp 122 = some f122 := rfl
theorem rp81 : rp 81 = some f81 := rfl
theorem rp37 : rp 37 = some f37 := rfl

/-! ### sizes -/

def lb (e : Nat) : Nat → Nat
  | 0 => e
  | k + 1 => 5 * lb e k + 2
def ub (e : Nat) : Nat → Nat
  | 0 => 0
  | k + 1 => ub e k + lb e (k + 1) + 1

theorem loB_le {E e : Nat} (h : E ≤ 2 ^ e) : ∀ k, loB E k ≤ 2 ^ lb e k
  | 0 => h
  | k + 1 => by
    have ih := loB_le h k
    show 3 * loB E k ^ 5 ≤ 2 ^ (5 * lb e k + 2)
    have h1 : loB E k ^ 5 ≤ (2 ^ lb e k) ^ 5 := Nat.pow_le_pow_left ih 5
    rw [← Nat.pow_mul, Nat.mul_comm] at h1
    rw [Nat.pow_add]
    have : (2 : Nat) ^ 2 = 4 := rfl
    rw [this]
    generalize (2 : Nat) ^ (5 * lb e k) = y at *
    generalize loB E k ^ 5 = x at *
    omega
theorem upB_le {E e : Nat} (h : E ≤ 2 ^ e) : ∀ k, upB E k + 1 ≤ 2 ^ ub e k
  | 0 => Nat.le_refl _
  | k + 1 => by
    have ih := upB_le h k
    have h1 := loB_le h (k + 1)
    have h2 : loB E (k + 1) + 1 ≤ 2 ^ (lb e (k + 1) + 1) := by
      rw [Nat.pow_succ]
      have : 0 < 2 ^ lb e (k + 1) := Nat.pow_pos (by decide)
      omega
    have e1 : upB E (k + 1) + 1 = (upB E k + 1) * (loB E (k + 1) + 1) := by
      show upB E k + (upB E k + 1) * loB E (k + 1) + 1 = _
      rw [Nat.mul_add, Nat.mul_one]; omega
    rw [e1]
    show _ ≤ 2 ^ (ub e k + lb e (k + 1) + 1)
    rw [Nat.add_assoc, Nat.pow_add]
    exact Nat.mul_le_mul ih h2

theorem capOk {E e N : Nat} (h : E ≤ 2 ^ e) (hN : ∀ k, k ≤ N → lb e k + 1 < 3200000000000 ∧ ub e k + 1 < 3200000000000) : CapOk E N := by
  intro k hk
  obtain ⟨h1, h2⟩ := hN k hk
  have c1 : 3200000000000 ≤ 32 * CapN := by rw [CapN_eq]; omega
  constructor
  · have h3 := loB_le h k
    rw [LB_pow2]
    have h4 : 2 ^ (lb e k + 1) < 2 ^ (32 * CapN) := Nat.pow_lt_pow_right (by decide) (by omega)
    rw [Nat.pow_succ] at h4
    have : 0 < 2 ^ lb e k := Nat.pow_pos (by decide)
    generalize 2 ^ (32 * CapN) = Z at *
    omega
  · have h3 := upB_le h k
    rw [LB_pow2]
    exact Nat.lt_of_le_of_lt h3 (Nat.pow_lt_pow_right (by decide) (by omega))

theorem caps0 : ∀ k, k ≤ 12 → lb 256 k + 1 < 3200000000000 ∧ ub 256 k + 1 < 3200000000000 := by decide
theorem caps1 : ∀ k, k ≤ 11 → lb (lb 256 1) k + 1 < 3200000000000 ∧ ub (lb 256 1) k + 1 < 3200000000000 := by decide

/-! ### a column -/

def colp (a : List PV) : List PV := a.map fun p => .sl [p]
def colM (xs : List Int) : List (List Int) := xs.map fun x => [x]
theorem colM_len {xs : List Int} : (colM xs).length = xs.length := by simp [colM]
theorem colM_wd {xs : List Int} : Wd 1 (colM xs) := by
  intro i r hr
  unfold colM at hr
  rw [List.getElem?_map, Option.map_eq_some_iff] at hr
  obtain ⟨x, _, rfl⟩ := hr
  rfl
theorem colp_ml {a : List PV} {xs : List Int} (h : NL a xs) : ML (colp a) (colM xs) := by
  refine ⟨by simp [colp, colM, h.1], fun i p r hp hr => ?_⟩
  simp only [colp, colM, List.getElem?_map, Option.map_eq_some_iff] at hp hr
  obtain ⟨q, hq, rfl⟩ := hp
  obtain ⟨x, hx, rfl⟩ := hr
  refine ⟨[q], rfl, ⟨rfl, fun j p' x' hp' hx' => ?_⟩, by simp⟩
  cases j with
  | zero => simp at hp' hx'; subst hp' hx'; exact h.2 i q x hq hx
  | succ j => simp at hp'
theorem colp_mr {a : List PV} {xs : List Int} (h : NL a xs) : MR (colp a) (fun _ => 1) (fun i _ => xs.getD i 0) := by
  intro i hi
  simp only [colp, List.length_map] at hi
  obtain ⟨p, x, h1, h2, h3⟩ := h.ix hi
  refine ⟨[p], by simp [colp, h1], rfl, (show (1 : Nat) ≤ 2000000 by omega), fun j hj => ?_⟩
  have hj0 : j = 0 := by simp at hj; omega
  subst hj0
  exact ⟨p, rfl, by show Nu p (xs.getD i 0); rw [List.getD_eq_getElem?_getD, h2]; exact h3⟩

/-- all of at most 256 bits -/
def Small (xs : List Int) : Prop := ∀ (i : Nat) (x : Int), xs[i]? = some x → bl x.natAbs ≤ 256

theorem natAbs_lt {x : Int} (h : bl x.natAbs ≤ 256) : x.natAbs ≤ 2 ^ 256 := by
  have := sk8_of_bl h
  unfold Sk at this
  rw [LB_pow2] at this
  exact Nat.le_of_lt this

theorem col_bd {xs : List Int} (h : Small xs) : Bd (2 ^ 256) (sd (colM xs) (un (colM xs).length)) 0 := by
  intro i j _
  have p1 : 1 ≤ 2 ^ 256 := Nat.pow_pos (by decide)
  rcases Nat.lt_or_ge i (colM xs).length with hi | hi
  · have h1 : (colM xs)[i]? = some [xs[i]'(by rw [colM_len] at hi; exact hi)] := by simp [colM]
    have h2 := un_get hi
    rw [Hn.en_vec (sd_get h1 h2)]
    unfold vec
    rw [List.getD_eq_getElem?_getD]
    cases j with
    | zero =>
      rw [List.singleton_append, List.getElem?_cons_zero, Option.getD_some]
      exact natAbs_lt (h i _ (by simp))
    | succ k =>
      rw [List.singleton_append, List.getElem?_cons_succ]
      rcases Nat.lt_or_ge k (colM xs).length with hk | hk
      · rw [urow_get hk, Option.getD_some]
        split
        · exact p1
        · exact Nat.zero_le _
      · rw [List.getElem?_eq_none (by rw [urow_len]; exact hk)]; exact Nat.zero_le _
  · rw [Hn.en_out (by rw [sd_len un_len.symm]; exact hi)]; exact Nat.zero_le _

/-- the answer: the form of the kernel's lattice -/
def Ans (xs : List Int) (H : List (List Int)) : Prop := ∃ K, Wd xs.length K ∧ IsK 1 (colM xs) K ∧ IsB xs.length K H

theorem Ans.one {xs : List Int} {H H' : List (List Int)} (h : Ans xs H) (h' : Ans xs H') : H = H' := by
  obtain ⟨K, w, k, b⟩ := h
  obtain ⟨K', w', k', b'⟩ := h'
  exact b.one b' fun v => (k v).trans (k' v).symm

theorem p81 {a : List PV} {xs : List Int} (h : NL a xs) (h0 : 0 < a.length) (h12 : a.length ≤ 12) (hs : Small xs) : ∃ H, Pu rp 81 [.sl (colp a)] (.tup [.p (.sl (zm H)), .p (.int .i64 0)]) ∧ Ans xs H := by
  have hl : xs.length = a.length := h.1.symm
  have hcl : (colp a).length = a.length := by simp [colp]
  have k93 := ((VBn.p93 (colp_mr h) (by omega) (by omega)).2 (by rintro ⟨i, _, hh⟩; exact hh rfl)).lift base_le
  have k122 : Pu rp 122 [.sl (colp a)] (.tup [.p (.int .i64 a.length), .p (.int .i64 1), .p (.int .i64 0)]) := by
    refine pu_of rp122 ?_
    have e0 : ((0 : Int) != 0) = false := rfl
    have t1 : ¬ ((a.length : Int) > 64) := by omega
    have t2 : ¬ (((1 : Nat) : Int) > 64) := by decide
    rw [hcl] at k93
    simp only [f122, args0, S1, S2, S3, S4, S5, r_idx, r_mks, ev, resultsV, resL, resV, vl, gt, st, sto, fgt, i64, subCV, fill, setCells, mkAgg, allP, frz, frz1, frzL, frzs, kill, kill1, killL, kills, bnd, unV, bsz, toPs, toP, isPure1, pureL, List.elem, List.replicate, Int.reduceLE, Int.reduceLT, ↓reduceIte, reduceCtorEq, Nat.reduceLT, Nat.reduceEqDiff, Nat.reduceAdd, Nat.reduceMul, Nat.reduceLeDiff, Nat.reduceBEq, kp1 k93, e0, t1, t2]
    exact back_t3 back1_p back1_p back1_p
  obtain ⟨K, H, k123, hw, hk, hb⟩ := p123 (colp_ml h) (by rw [colM_len]; omega) (by rw [colM_len]; omega) colM_wd (by decide) (by decide) (col_bd hs) (capOk (Nat.le_refl _) fun k hk => caps0 k (by rw [colM_len] at hk; omega)) (fun r hr hrl => by
    rcases (show r = 0 ∨ r = 1 by omega) with rfl | rfl
    · refine capOk (e := 256) ?_ fun k hk => caps0 k (by rw [colM_len] at hk; omega)
      exact Nat.max_le.2 ⟨Nat.le_refl _, Nat.pow_pos (by decide)⟩
    · refine capOk (e := lb 256 1) ?_ fun k hk => caps1 k (by rw [colM_len] at hk; omega)
      exact Nat.max_le.2 ⟨loB_le (Nat.le_refl (2 ^ 256)) 1, Nat.pow_pos (by decide)⟩)
  rw [colM_len] at hw hb
  have k123 : Pu rp 123 [.sl (colp a), .int .i64 1] (.p (.sl (zm H))) := k123
  refine ⟨H, ?_, K, hw, hk, hb⟩
  refine pu_of rp81 ?_
  have e0 : ((0 : Int) != 0) = false := rfl
  simp only [f81, args0, S1, S2, S3, S4, S5, r_idx, r_mks, ev, resultsV, resL, resV, vl, gt, st, sto, fgt, i64, subCV, fill, setCells, mkAgg, allP, frz, frz1, frzL, frzs, kill, kill1, killL, kills, bnd, unV, bsz, toPs, toP, isPure1, pureL, List.elem, List.replicate, Int.reduceLE, Int.reduceLT, ↓reduceIte, reduceCtorEq, Nat.reduceLT, Nat.reduceEqDiff, Nat.reduceAdd, Nat.reduceMul, Nat.reduceLeDiff, Nat.reduceBEq, kp1 k122, e0, kp2 k123]
  exact back_t2 back1_p back1_p

/-! ### relate.Space -/

def colq (a : List PV) (i : Nat) : List PV := (colp a).take i ++ List.replicate (a.length - i) (.sl [])

theorem colq_zero {a : List PV} : colq a 0 = List.replicate a.length (.sl []) := by simp [colq]
theorem colq_all {a : List PV} : colq a a.length = colp a := by
  unfold colq
  rw [Nat.sub_self, List.replicate_zero, List.append_nil, List.take_of_length_le (by simp [colp])]
theorem colq_at {a : List PV} {i : Nat} (h : i < a.length) : (colq a i)[i]? = some (.sl []) := by
  unfold colq
  rw [List.getElem?_append_right (by simp [colp]; omega), List.getElem?_replicate, if_pos (by simp [colp]; omega)]
theorem colq_set {a : List PV} {i : Nat} {p : PV} (h : a[i]? = some p) : (colq a i).set i (.sl [p]) = colq a (i + 1) := by
  have hi := (List.getElem?_eq_some_iff.1 h).1
  apply List.ext_getElem?
  intro j
  have hl : (colp a).length = a.length := by simp [colp]
  have hp : (colp a)[i]? = some (.sl [p]) := by simp [colp, h]
  unfold colq
  rcases Nat.lt_trichotomy j i with hj | hj | hj
  · rw [List.getElem?_set_ne (by omega), List.getElem?_append_left (by rw [List.length_take]; omega), List.getElem?_append_left (by rw [List.length_take]; omega), List.getElem?_take, List.getElem?_take, if_pos hj, if_pos (by omega)]
  · subst hj
    rw [List.getElem?_set_self (by simp; omega), List.getElem?_append_left (by rw [List.length_take]; omega), List.getElem?_take, if_pos (by omega), hp]
  · rw [List.getElem?_set_ne (by omega), List.getElem?_append_right (by rw [List.length_take]; omega), List.getElem?_append_right (by rw [List.length_take]; omega), List.length_take, List.length_take, List.getElem?_replicate, List.getElem?_replicate]
    have e1 : min i (colp a).length = i := by omega
    have e2 : min (i + 1) (colp a).length = i + 1 := by omega
    rw [e1, e2]
    by_cases hja : j < a.length
    · rw [if_pos (by omega), if_pos (by omega)]
    · rw [if_neg (by omega), if_neg (by omega)]

theorem row_mr {a : List PV} {xs : List Int} (h : NL a xs) (hm : a.length ≤ 2000000) : MR [.sl a] (fun _ => a.length) (fun _ j => xs.getD j 0) := by
  intro i hi
  have hi0 : i = 0 := by simp at hi; omega
  subst hi0
  refine ⟨a, rfl, rfl, hm, fun j hj => ?_⟩
  obtain ⟨p, x, h1, h2, h3⟩ := h.ix hj
  exact ⟨p, h1, by show Nu p (xs.getD j 0); rw [List.getD_eq_getElem?_getD, h2]; exact h3⟩

open Classical in
/-- relate.Space, all cases -/
theorem p37 {a : List PV} {xs : List Int} (h : NL a xs) (hm : a.length ≤ 2000000) :
    (12 < a.length ∨ ¬ Small xs → Pu rp 37 [.sl a] (.tup [.p (.sl []), .p (.int .i64 40)])) ∧ (a.length = 0 → Pu rp 37 [.sl a] (.tup [.p (.sl []), .p (.int .i64 41)])) ∧
    (0 < a.length → a.length ≤ 12 → Small xs → ∃ H, Pu rp 37 [.sl a] (.tup [.p (.sl (zm H)), .p (.int .i64 0)]) ∧ Ans xs H) := by
  have k80 := (VBn.p80 (row_mr h hm) (by simp)).lift base_le
  have hgt : 256 < bm (fun _ => a.length) (fun _ j => xs.getD j 0) [PV.sl a].length ↔ ¬ Small xs := by
    rw [bm_gt]
    constructor
    · rintro ⟨i, j, hi, hj, hb⟩ hs
      have hj' : j < xs.length := by rw [← h.1]; exact hj
      have := hs j xs[j] (by simp)
      rw [List.getD_eq_getElem?_getD, List.getElem?_eq_getElem hj', Option.getD_some] at hb
      omega
    · intro hs
      have : ∃ (i : Nat) (x : Int), xs[i]? = some x ∧ 256 < bl x.natAbs := Classical.byContradiction fun hh => hs fun i x hx => Nat.not_lt.1 fun hlt => hh ⟨i, x, hx, hlt⟩
      obtain ⟨i, x, hx, hb⟩ := this
      have hi := (List.getElem?_eq_some_iff.1 hx).1
      exact ⟨0, i, by simp, by rw [h.1]; exact hi, by rw [List.getD_eq_getElem?_getD, hx]; exact hb⟩
  generalize bm (fun _ => a.length) (fun _ j => xs.getD j 0) [PV.sl a].length = B at *
  refine ⟨fun hbad => ?_, fun h0 => ?_, fun h0 h12 hs => ?_⟩
  · refine pu_of rp37 ?_
    by_cases h12 : 12 < a.length
    · have t1 : ((a.length : Int) > 12) := by omega
      simp only [f37, args0, S1, S2, S3, S4, S5, r_idx, r_mks, ev, resultsV, resL, resV, vl, gt, st, sto, fgt, i64, subCV, fill, setCells, mkAgg, allP, frz, frz1, frzL, frzs, kill, kill1, killL, kills, bnd, unV, bsz, toPs, toP, isPure1, pureL, List.elem, List.replicate, Int.reduceLE, Int.reduceLT, ↓reduceIte, reduceCtorEq, Nat.reduceLT, Nat.reduceEqDiff, Nat.reduceAdd, Nat.reduceMul, Nat.reduceLeDiff, Nat.reduceBEq, t1]
      rfl
    · have t1 : ¬ ((a.length : Int) > 12) := by omega
      have t2 : ((B : Int) > 256) := by
        have := hgt.2 (hbad.resolve_left h12)
        omega
      have kz : ∀ {rs base d l dr ks e Q}, KC rp rs base .fz 80 [.own 0 0 1] d l dr ks e [.prow 1 [.sl a]] Q = ExR rp rs base l dr ks (sto d (.p (.int .i64 (B : Int))) e) _ Q := fun {rs base d l dr ks e Q} => kc_fz (σ := [.prow 1 [.sl a]]) k80 (by rfl)
      simp only [f37, args0, S1, S2, S3, S4, S5, r_idx, r_mks, ev, resultsV, resL, resV, vl, gt, st, sto, fgt, i64, subCV, fill, setCells, mkAgg, allP, frz, frz1, frzL, frzs, kill, kill1, killL, kills, bnd, unV, bsz, toPs, toP, isPure1, pureL, List.elem, List.replicate, Int.reduceLE, Int.reduceLT, ↓reduceIte, reduceCtorEq, Nat.reduceLT, Nat.reduceEqDiff, Nat.reduceAdd, Nat.reduceMul, Nat.reduceLeDiff, Nat.reduceBEq, t1, kz, t2]
      rfl
  · obtain rfl : a = [] := List.length_eq_zero_iff.1 h0
    refine pu_of rp37 ?_
    have hB : ¬ ((B : Int) > 256) := by
      have : ¬ 256 < B := fun hh => (hgt.1 hh) fun i x hx => by
        have := (List.getElem?_eq_some_iff.1 hx).1
        have h2 := h.1
        simp at h2
        omega
      omega
    have t1 : ¬ (((0 : Nat) : Int) > 12) := by decide
    have e0 : (((0 : Nat) : Int) == 0) = true := rfl
    have kz : ∀ {rs base d l dr ks e Q}, KC rp rs base .fz 80 [.own 0 0 1] d l dr ks e [.prow 1 [.sl []]] Q = ExR rp rs base l dr ks (sto d (.p (.int .i64 (B : Int))) e) _ Q := fun {rs base d l dr ks e Q} => kc_fz (σ := [.prow 1 [.sl []]]) k80 (by rfl)
    simp only [f37, args0, S1, S2, S3, S4, S5, r_idx, r_mks, ev, resultsV, resL, resV, vl, gt, st, sto, fgt, i64, subCV, fill, setCells, mkAgg, allP, frz, frz1, frzL, frzs, kill, kill1, killL, kills, bnd, unV, bsz, toPs, toP, isPure1, pureL, List.elem, List.replicate, Int.reduceLE, Int.reduceLT, ↓reduceIte, reduceCtorEq, Nat.reduceLT, Nat.reduceEqDiff, Nat.reduceAdd, Nat.reduceMul, Nat.reduceLeDiff, Nat.reduceBEq, t1, kz, hB, e0]
    rfl
  · obtain ⟨H, k81, hA⟩ := p81 h h0 h12 hs
    refine ⟨H, ?_, hA⟩
    refine pu_of rp37 ?_
    have hB : ¬ ((B : Int) > 256) := by
      have : ¬ 256 < B := fun hh => (hgt.1 hh) hs
      omega
    have t1 : ¬ ((a.length : Int) > 12) := by omega
    have e0 : ((a.length : Int) == 0) = false := by rw [beq_eq_false_iff_ne]; omega
    have kz : ∀ {rs base d l dr ks e Q}, KC rp rs base .fz 80 [.own 0 0 1] d l dr ks e [.prow 1 [.sl a]] Q = ExR rp rs base l dr ks (sto d (.p (.int .i64 (B : Int))) e) [.dead] Q := fun {rs base d l dr ks e Q} => kc_fz (σ := [.prow 1 [.sl a]]) k80 (by rfl)
    have m1 : ((24 : Nat) : Int) * (a.length : Int) ≤ 281474976710656 := by omega
    have m2 : (a.length : Int) ≤ 9223372036854775807 := by omega
    simp only [f37, args0, S1, S2, S3, S4, S5, r_idx, r_mks, ev, resultsV, resL, resV, vl, gt, st, sto, fgt, i64, subCV, fill, setCells, mkAgg, allP, frz, frz1, frzL, frzs, kill, kill1, killL, kills, bnd, unV, bsz, toPs, toP, isPure1, pureL, List.elem, List.replicate, Int.reduceLE, Int.reduceLT, ↓reduceIte, reduceCtorEq, Nat.reduceLT, Nat.reduceEqDiff, Nat.reduceAdd, Nat.reduceMul, Nat.reduceLeDiff, Nat.reduceBEq, t1, kz, hB, e0, Int.natCast_nonneg, m1, m2, Int.le_refl, Int.toNat_natCast]
    refine loop_rule (β := Nat × Store) (fun t => ([(0, .p (.sl a)), (4, .own 1 0 a.length), (22, i64 a.length), (23, i64 t.1)], t.2))
      (fun t => t.1 ≤ a.length ∧ 1 < t.2.length ∧ t.2[1]? = some (.prow 1 (colq a t.1))) (fun t => a.length - t.1) ((0, _) : Nat × Store) rfl rfl ⟨Nat.zero_le _, by simp, by rw [colq_zero]; rfl⟩ ?_
    rintro ⟨i, τ⟩ ⟨hi, hlt, hb⟩ ih
    simp only [] at hi hlt hb ih ⊢
    by_cases hin : (i : Int) < a.length
    · have hin' : i < a.length := by omega
      obtain ⟨p, x, p1, p2, p3⟩ := h.ix hin'
      obtain ⟨a1, a2, rfl⟩ := Nu.agg p3
      have w1 : IntKind.i64.wrap ((i : Int) + 1) = ((i + 1 : Nat) : Int) := by rw [IntWalk.i64_in _ (by omega)]; omega
      have hb' : ∀ l, (τ ++ l)[1]? = some (.prow 1 (colq a i)) := fun l => by rw [get_left hlt]; exact hb
      have hf : frz (τ ++ [Blk.prow 2 [.agg [.bool a1, .sl a2]]]) (.own τ.length 0 1) = some (.sl [.agg [.bool a1, .sl a2]]) := by
        simp only [frz, frz1_own (n := 1) (show (τ ++ [Blk.prow 2 [.agg [.bool a1, .sl a2]]])[τ.length]? = some (.prow 2 [.agg [.bool a1, .sl a2]]) by rw [get_app0]; rfl) rfl]
      have hk : kill (τ ++ [Blk.prow 2 [.agg [.bool a1, .sl a2]]]) (.own τ.length 0 1) = τ ++ [Blk.dead] := by simp only [kill, kill1, set_app0, List.set_cons_zero]
      have hs1 := colq_set p1
      have hks : ∀ x : PV, kills τ [.p x] = τ := fun _ => rfl
      simp only [S1, S2, S3, S4, S5, r_idx, r_mks, ev, resultsV, resL, resV, vl, gt, st, sto, fgt, i64, subCV, fill, setCells, mkAgg, allP, frz, frz1, frzL, frzs, bnd, unV, bsz, toPs, toP, isPure1, pureL, List.elem, List.replicate, Int.reduceLE, Int.reduceLT, ↓reduceIte, reduceCtorEq, Nat.reduceLT, Nat.reduceEqDiff, Nat.reduceAdd, Nat.reduceMul, Nat.reduceLeDiff, Nat.reduceBEq, hin, hin', p1, hb', hks, hf, hk, colq_at hin', hs1, Int.natCast_nonneg, Int.toNat_natCast, w1]
      refine ih (i + 1, (τ ++ [Blk.dead]).set 1 (.prow 1 (colq a (i + 1)))) _ ⟨by simp only []; omega, by simp; omega, get_self (by simp; omega)⟩ (by simp only []; omega) ?_
      rfl
    · obtain rfl : i = a.length := by omega
      rw [colq_all] at hb
      have hf : frzs τ [.own 1 0 a.length] = some [.sl (colp a)] := by
        simp only [frzs, frz, frz1_own hb (show a.length = (colp a).length by simp [colp]), Option.map_some]
      simp only [S1, S2, S3, S4, S5, r_idx, r_mks, ev, resultsV, resL, resV, vl, gt, st, sto, fgt, i64, subCV, fill, setCells, mkAgg, allP, frz, frz1, frzL, frzs, kill, kill1, killL, kills, bnd, unV, bsz, toPs, toP, isPure1, pureL, List.elem, List.replicate, Int.reduceLE, Int.reduceLT, ↓reduceIte, reduceCtorEq, Nat.reduceLT, Nat.reduceEqDiff, Nat.reduceAdd, Nat.reduceMul, Nat.reduceLeDiff, Nat.reduceBEq, hin]
      rw [kc_fz k81 hf]
      simp only [S1, S2, S3, S4, S5, r_idx, r_mks, ev, resultsV, resL, resV, vl, gt, st, sto, fgt, i64, subCV, fill, setCells, mkAgg, allP, frz, frz1, frzL, frzs, kill, kill1, killL, kills, bnd, unV, bsz, toPs, toP, isPure1, pureL, List.elem, List.replicate, Int.reduceLE, Int.reduceLT, ↓reduceIte, reduceCtorEq, Nat.reduceLT, Nat.reduceEqDiff, Nat.reduceAdd, Nat.reduceMul, Nat.reduceLeDiff, Nat.reduceBEq]
      exact back_t2 back1_p back1_p
end Go.Proofs.Ytdieenbfdeaffaa.VRs

namespace Go.Proofs.Ytdieenbfdeaffaa.VRs
open Go Vpi
open VBn hiding rp tab rp_ok all_ok mixed sim Big
open Hn (addR swR tuR Fl en Wd Bd SpE Frm vec vm Sp)
set_option maxRecDepth 100000
set_option linter.unusedSimpArgs false
set_option linter.unusedVariables false

theorem rp183 : rp 183 = some f183 := rfl
theorem rp154 : rp 154 = some f154 := rfl
theorem rp182 : rp 182 = some f182 := rfl
theorem rp152 : rp 152 = some f152 := rfl
theorem rp151 : rp 151 = some f151 := rfl

theorem fl100 {p p' : PV} {x y : Int} (h : Nu p x) (h' : Nu p' y) (hy : y ≠ 0) : ∃ q r, Fl x y q r ∧ Pu rp 100 [p, p'] (.tup [.p (zi q), .p (zi r)]) := by
  have hx := h.sz
  have hys := h'.sz
  have k79y := (VBn.p79 h').lift base_le
  have h0' := h
  obtain ⟨n1, a, rfl, ha, hna, rfl⟩ := h
  have h'' := h'
  obtain ⟨n2, b, rfl, hb, hnb, rfl⟩ := h'
  have hb0 : val b ≠ 0 := by intro h0; apply hy; unfold iv; rw [h0]; cases n2 <;> rfl
  obtain ⟨q0, r0, eq0, er0, key, qle, rle, rlt, f1, f2, f3⟩ := fl_of (n1 := n1) (n2 := n2) (A := val a) (B := val b) (x := iv n1 a) (y := iv n2 b) rfl rfl hb0
  rw [CapN_eq] at hna hnb
  have k1 := (VBn.p135 ha hb (by omega) (by omega) hb0).lift base_le
  have hdq : (dgl (val a / val b)).length ≤ a.length := dgl_len (Nat.lt_of_le_of_lt (Nat.div_le_self _ _) (val_lt ha))
  have kq := (VBn.p107 (neg := !(n1 == n2)) (dgl_lim (val a / val b)) (by omega)).lift base_le
  simp only [val_dgl, mk_iv] at kq
  rw [← eq0] at kq
  have hqz : Sz q0 := hx.le qle
  have hrz : Sz r0 := hx.le rle
  have hmz : Sz (q0 * iv n2 b) := hx.le (by
    have e : q0 * iv n2 b = iv n1 a - r0 := by omega
    rw [e, er0]
    have hRA : val a % val b ≤ val a := Nat.mod_le _ _
    cases n1
    · show ((val a : Int) - ((val a % val b : Nat) : Int)).natAbs ≤ ((val a : Int)).natAbs
      omega
    · show (-(val a : Int) - -((val a % val b : Nat) : Int)).natAbs ≤ (-(val a : Int)).natAbs
      omega)
  have k117 := (VBn.p117 (Nu.zi hqz) h'').lift base_le
  have k60 := (VBn.p60 h0' (Nu.zi hmz)).lift base_le
  rw [show iv n1 a - q0 * iv n2 b = r0 by omega] at k60
  rw [zi_raw (x := q0)] at k117
  have k79 := (VBn.p79 (Nu.zi hrz)).lift base_le
  have ks := (VBn.p60 (Nu.zi hqz) (Nu.zi (x := 1) (Sz.small (by decide)))).lift base_le
  have ka := (VBn.p109 (Nu.zi hrz) h'').lift base_le
  have k66 := (VBn.p66 (x := 1) (by decide) (by decide)).lift base_le
  rw [zi_raw] at k79 ka
  rw [zi_raw (x := q0)] at ks
  have e0 : ((0 : Int) != 0) = false := rfl
  by_cases h0 : r0.sign = 0
  · refine ⟨q0, r0, f1 h0, ?_⟩
    refine pu_of rp100 ?_
    have e1 : (r0.sign != 0) = false := by rw [h0]; rfl
    simp only [f100, args0, S1, S2, S3, S4, S5, r_idx, r_mks, ev, resultsV, resL, resV, vl, gt, st, sto, fgt, i64, subCV, fill, setCells, mkAgg, allP, frz, frz1, frzL, frzs, kill, kill1, killL, kills, bnd, unV, bsz, toPs, toP, isPure1, pureL, List.elem, List.replicate, Int.reduceLE, Int.reduceLT, ↓reduceIte, reduceCtorEq, Nat.reduceLT, Nat.reduceEqDiff, Nat.reduceAdd, Nat.reduceMul, Nat.reduceLeDiff, Nat.reduceBEq, kp2 k1, push_sl, e0, kp2 kq, kp2 k117, kp2 k60, kp1 k79, e1]
    rw [r_nilx]
    refine ⟨by rfl, ?_⟩
    simp only [S1, S2, S3, S4, S5, r_idx, r_mks, ev, resultsV, resL, resV, vl, gt, st, sto, fgt, i64, subCV, fill, setCells, mkAgg, allP, frz, frz1, frzL, frzs, kill, kill1, killL, kills, bnd, unV, bsz, toPs, toP, isPure1, pureL, List.elem, List.replicate, Int.reduceLE, Int.reduceLT, ↓reduceIte, reduceCtorEq, Nat.reduceLT, Nat.reduceEqDiff, Nat.reduceAdd, Nat.reduceMul, Nat.reduceLeDiff, Nat.reduceBEq]
    exact back_t2 back1_p back1_p
  · have e1 : (r0.sign != 0) = true := by simp [h0]
    by_cases h1 : r0.sign = (iv n2 b).sign
    · refine ⟨q0, r0, f2 h0 h1, ?_⟩
      refine pu_of rp100 ?_
      rw [← h1] at k79y
      simp only [f100, args0, S1, S2, S3, S4, S5, r_idx, r_mks, ev, resultsV, resL, resV, vl, gt, st, sto, fgt, i64, subCV, fill, setCells, mkAgg, allP, frz, frz1, frzL, frzs, kill, kill1, killL, kills, bnd, unV, bsz, toPs, toP, isPure1, pureL, List.elem, List.replicate, Int.reduceLE, Int.reduceLT, ↓reduceIte, reduceCtorEq, Nat.reduceLT, Nat.reduceEqDiff, Nat.reduceAdd, Nat.reduceMul, Nat.reduceLeDiff, Nat.reduceBEq, kp2 k1, push_sl, e0, kp2 kq, kp2 k117, kp2 k60, kp1 k79, e1, kp1 k79y, bne_self_eq_false]
      rw [r_nilx]
      refine ⟨by rfl, ?_⟩
      simp only [S1, S2, S3, S4, S5, r_idx, r_mks, ev, resultsV, resL, resV, vl, gt, st, sto, fgt, i64, subCV, fill, setCells, mkAgg, allP, frz, frz1, frzL, frzs, kill, kill1, killL, kills, bnd, unV, bsz, toPs, toP, isPure1, pureL, List.elem, List.replicate, Int.reduceLE, Int.reduceLT, ↓reduceIte, reduceCtorEq, Nat.reduceLT, Nat.reduceEqDiff, Nat.reduceAdd, Nat.reduceMul, Nat.reduceLeDiff, Nat.reduceBEq]
      exact back_t2 back1_p back1_p
    · refine ⟨q0 - 1, r0 + iv n2 b, f3 h0 h1, ?_⟩
      refine pu_of rp100 ?_
      have e2 : (r0.sign != (iv n2 b).sign) = true := by simp [h1]
      simp only [f100, args0, S1, S2, S3, S4, S5, r_idx, r_mks, ev, resultsV, resL, resV, vl, gt, st, sto, fgt, i64, subCV, fill, setCells, mkAgg, allP, frz, frz1, frzL, frzs, kill, kill1, killL, kills, bnd, unV, bsz, toPs, toP, isPure1, pureL, List.elem, List.replicate, Int.reduceLE, Int.reduceLT, ↓reduceIte, reduceCtorEq, Nat.reduceLT, Nat.reduceEqDiff, Nat.reduceAdd, Nat.reduceMul, Nat.reduceLeDiff, Nat.reduceBEq, kp2 k1, push_sl, e0, kp2 kq, kp2 k117, kp2 k60, kp1 k79, e1, kp1 k79y, e2, kp1 k66, kp2 ks, kp2 ka]
      rw [r_nilx]
      refine ⟨by rfl, ?_⟩
      simp only [S1, S2, S3, S4, S5, r_idx, r_mks, ev, resultsV, resL, resV, vl, gt, st, sto, fgt, i64, subCV, fill, setCells, mkAgg, allP, frz, frz1, frzL, frzs, kill, kill1, killL, kills, bnd, unV, bsz, toPs, toP, isPure1, pureL, List.elem, List.replicate, Int.reduceLE, Int.reduceLT, ↓reduceIte, reduceCtorEq, Nat.reduceLT, Nat.reduceEqDiff, Nat.reduceAdd, Nat.reduceMul, Nat.reduceLeDiff, Nat.reduceBEq]
      exact back_t2 back1_p back1_p

/-! ### lose -/

theorem lose_eq {a b : List Int} {q : Int} : List.zipWith (· - ·) a (b.map (q * ·)) = List.zipWith (· + ·) a (b.map (-q * ·)) := by
  apply List.ext_getElem?
  intro i
  rw [List.getElem?_zipWith, List.getElem?_zipWith, List.getElem?_map, List.getElem?_map]
  cases a[i]? <;> cases b[i]? <;> simp [Int.neg_mul, Int.sub_eq_add_neg]

theorem n183 {σ : Store} {b i k w : Nat} {M : List (List Int)} {kp : PV} {q : Int} (hq : Nu kp q) (hb : σ[b]? = some (.prow 1 (zm M))) (hi : i < M.length) (hk : k < M.length)
    (hw : ∀ j, j < M.length → (M.getD j []).length = w ∧ SzL (M.getD j [])) (hw2 : w ≤ 2000000) (hsz : SzL ((M.getD k []).map (q * ·))) {Q : CV → Store → Prop}
    (hQ : ∀ g, Q (.tup []) (σ.set b (.prow 1 (zm (addR M i k (-q)))) ++ [g])) : Rn rp 183 [.own b 0 M.length, i64 i, i64 k, .p kp] σ Q := by
  obtain ⟨wi, si⟩ := hw i hi
  obtain ⟨wk, sk⟩ := hw k hk
  have k74 := p74 hq (NL.zr sk) (by rw [zr_len, wk]; exact hw2)
  have hneg : SzL (((M.getD k []).map (q * ·)).map (-1 * ·)) := by
    intro j x hx
    rw [List.getElem?_map, Option.map_eq_some_iff] at hx
    obtain ⟨y, hy, rfl⟩ := hx
    have := (hsz j y hy).neg
    rwa [show -y = -1 * y by omega] at this
  have k130 := p130 (NL.zr si) (NL.zr hsz) (by rw [zr_len, zr_len, List.length_map, wi, wk]) (by rw [zr_len, wi]; exact hw2) hneg
  obtain ⟨a1, a2, rfl⟩ := Nu.agg hq
  rw [rn_of rp183]
  have hlt := (List.getElem?_eq_some_iff.1 hb).1
  have hb' : ∀ l, (σ ++ l)[b]? = some (.prow 1 (zm M)) := fun l => by rw [get_left hlt]; exact hb
  have h1 := zm_getD hi
  have h2 := zm_getD hk
  have he : (zm M).set i (.sl (zr (List.zipWith (· - ·) (M.getD i []) ((M.getD k []).map (q * ·))))) = zm (addR M i k (-q)) := by rw [zm_set, lose_eq]; rfl
  simp only [f183, args0, S1, S2, S3, S4, S5, r_idx, r_mks, ev, resultsV, resL, resV, vl, gt, st, sto, fgt, i64, subCV, fill, setCells, mkAgg, allP, frz, frz1, frzL, frzs, kill, kill1, killL, kills, bnd, unV, bsz, toPs, toP, isPure1, pureL, List.elem, List.replicate, Int.reduceLE, Int.reduceLT, ↓reduceIte, reduceCtorEq, Nat.reduceLT, Nat.reduceEqDiff, Nat.reduceAdd, Nat.reduceMul, Nat.reduceLeDiff, Nat.reduceBEq, hb', hi, hk, h1, h2, kp2 k74, kp2 k130, he, Int.natCast_nonneg, Int.toNat_natCast, set_left hlt]
  exact hQ _

/-! ### Lead -/

theorem p154 {r : List PV} {xs : List Int} (h : NL r xs) (hm : r.length ≤ 2000000) : ∃ t : Int, Pu rp 154 [.sl r] (.p (.int .i64 t)) ∧ (t < 0 ↔ ∀ j, xs.getD j 0 = 0) := by
  have key : ∀ R : CV, (∀ i : Nat, i < xs.length → xs.getD i 0 ≠ 0 → (∀ j, j < i → xs.getD j 0 = 0) → R = .p (.int .i64 (i : Int))) → ((∀ j, xs.getD j 0 = 0) → R = .p (.int .i64 (-1))) → Pu rp 154 [.sl r] R := by
    intro R h1 h2
    refine pu_of rp154 ?_
    have hl := h.1
    simp only [f154, args0, S1, S2, S3, S4, S5, r_idx, r_mks, ev, resultsV, resL, resV, vl, gt, st, sto, fgt, i64, subCV, fill, setCells, mkAgg, allP, frz, frz1, frzL, frzs, kill, kill1, killL, kills, bnd, unV, bsz, toPs, toP, isPure1, pureL, List.elem, List.replicate, Int.reduceLE, Int.reduceLT, ↓reduceIte, reduceCtorEq, Nat.reduceLT, Nat.reduceEqDiff, Nat.reduceAdd, Nat.reduceMul, Nat.reduceLeDiff, Nat.reduceBEq]
    refine loop_rule (β := Nat) (fun t => ([(0, .p (.sl r)), (3, i64 t)], [])) (fun t => t ≤ r.length ∧ ∀ j, j < t → xs.getD j 0 = 0) (fun t => r.length - t) 0 rfl rfl ⟨Nat.zero_le _, fun j hj => by omega⟩ ?_
    rintro i ⟨hi, hz⟩ ih
    simp only [] at hi hz ih ⊢
    by_cases hin : (i : Int) < r.length
    · obtain ⟨p, x, p1, p2, p3⟩ := h.ix (i := i) (by omega)
      have k79 := (VBn.p79 p3).lift base_le
      obtain ⟨_, _, rfl⟩ := Nu.agg p3
      have hx : xs.getD i 0 = x := by rw [List.getD_eq_getElem?_getD, p2]; rfl
      have w1 : IntKind.i64.wrap ((i : Int) + 1) = ((i + 1 : Nat) : Int) := by rw [IntWalk.i64_in _ (by omega)]; omega
      by_cases h0 : x = 0
      · have s0 : (x.sign != 0) = false := by rw [h0]; rfl
        simp only [S1, S2, S3, S4, S5, r_idx, r_mks, ev, resultsV, resL, resV, vl, gt, st, sto, fgt, i64, subCV, fill, setCells, mkAgg, allP, frz, frz1, frzL, frzs, kill, kill1, killL, kills, bnd, unV, bsz, toPs, toP, isPure1, pureL, List.elem, List.replicate, Int.reduceLE, Int.reduceLT, ↓reduceIte, reduceCtorEq, Nat.reduceLT, Nat.reduceEqDiff, Nat.reduceAdd, Nat.reduceMul, Nat.reduceLeDiff, Nat.reduceBEq, hin, p1, Int.natCast_nonneg, Int.toNat_natCast, kp1 k79, s0, w1]
        refine ih (i + 1) _ ⟨by omega, fun j hj => ?_⟩ (by omega) ?_
        · rcases Nat.lt_or_ge j i with hji | hji
          · exact hz j hji
          · obtain rfl : j = i := by omega
            rw [hx]; exact h0
        · rfl
      · have s0 : (x.sign != 0) = true := by
          rw [bne_iff_ne]; exact fun hh => h0 (Int.sign_eq_zero_iff_zero.1 hh)
        simp only [S1, S2, S3, S4, S5, r_idx, r_mks, ev, resultsV, resL, resV, vl, gt, st, sto, fgt, i64, subCV, fill, setCells, mkAgg, allP, frz, frz1, frzL, frzs, kill, kill1, killL, kills, bnd, unV, bsz, toPs, toP, isPure1, pureL, List.elem, List.replicate, Int.reduceLE, Int.reduceLT, ↓reduceIte, reduceCtorEq, Nat.reduceLT, Nat.reduceEqDiff, Nat.reduceAdd, Nat.reduceMul, Nat.reduceLeDiff, Nat.reduceBEq, hin, p1, Int.natCast_nonneg, Int.toNat_natCast, kp1 k79, s0]
        rw [h1 i (by omega) (by rw [hx]; exact h0) hz]
        rfl
    · obtain rfl : i = r.length := by omega
      simp only [S1, S2, S3, S4, S5, r_idx, r_mks, ev, resultsV, resL, resV, vl, gt, st, sto, fgt, i64, subCV, fill, setCells, mkAgg, allP, frz, frz1, frzL, frzs, kill, kill1, killL, kills, bnd, unV, bsz, toPs, toP, isPure1, pureL, List.elem, List.replicate, Int.reduceLE, Int.reduceLT, ↓reduceIte, reduceCtorEq, Nat.reduceLT, Nat.reduceEqDiff, Nat.reduceAdd, Nat.reduceMul, Nat.reduceLeDiff, Nat.reduceBEq, hin]
      rw [h2 fun j => ?_]
      · rfl
      · rcases Nat.lt_or_ge j r.length with hj | hj
        · exact hz j hj
        · rw [List.getD_eq_getElem?_getD, List.getElem?_eq_none (by omega)]; rfl
  by_cases hz : ∀ j, xs.getD j 0 = 0
  · exact ⟨-1, key _ (fun i _ h0 _ => absurd (hz i) h0) (fun _ => rfl), by simp; exact hz⟩
  · obtain ⟨i, hi, hi2⟩ : ∃ i, xs.getD i 0 ≠ 0 ∧ ∀ j, j < i → xs.getD j 0 = 0 := by
      have hex : ∃ i, xs.getD i 0 ≠ 0 := Classical.byContradiction fun hh => hz fun j => Classical.byContradiction fun h0 => hh ⟨j, h0⟩
      obtain ⟨i, hi⟩ := hex
      have : ∀ n i, i ≤ n → xs.getD i 0 ≠ 0 → ∃ i, xs.getD i 0 ≠ 0 ∧ ∀ j, j < i → xs.getD j 0 = 0 := by
        intro n
        induction n with
        | zero => intro i h1 h2; exact ⟨i, h2, fun j hj => by omega⟩
        | succ n ihn =>
          intro i h1 h2
          by_cases hh : ∃ j, j < i ∧ xs.getD j 0 ≠ 0
          · obtain ⟨j, hj, hj2⟩ := hh
            exact ihn j (by omega) hj2
          · exact ⟨i, h2, fun j hj => Classical.byContradiction fun h0 => hh ⟨j, hj, h0⟩⟩
      exact this i i (Nat.le_refl _) hi
    refine ⟨(i : Int), key _ (fun k _ k0 kz => ?_) (fun hh => absurd hh hz), ?_⟩
    · have : k = i := by
        rcases Nat.lt_trichotomy k i with hh | hh | hh
        · exact absurd (hi2 k hh) k0
        · exact hh
        · exact absurd (kz i hh) hi
      rw [this]
    · constructor
      · intro hh; omega
      · intro hh; exact absurd hh hz
end Go.Proofs.Ytdieenbfdeaffaa.VRs

namespace Go.Proofs.Ytdieenbfdeaffaa.VRs
open Go Vpi
open VBn hiding rp tab rp_ok all_ok mixed sim Big
open Hn (addR swR tuR Fl en Wd Bd SpE Frm vec vm Sp)
set_option maxRecDepth 100000
set_option linter.unusedSimpArgs false
set_option linter.unusedVariables false

/-! ### bits -/

def tl : Nat → List Nat → List Nat
  | _, [] => []
  | a, x :: xs => (max a x + x + 2) :: tl (max a x + x + 2) xs
def tp : Nat → List Nat → Nat
  | a, [] => a
  | a, x :: xs => tp (max a x + x + 2) xs

theorem tl_len : ∀ {a : Nat} {xs : List Nat}, (tl a xs).length = xs.length
  | _, [] => rfl
  | a, x :: xs => by simp [tl, tl_len]
theorem tp_take : ∀ {a k x : Nat} {xs : List Nat}, xs[k]? = some x → tp a (xs.take (k + 1)) = max (tp a (xs.take k)) x + x + 2
  | a, k, x, [], h => by simp at h
  | a, 0, x, y :: xs, h => by simp at h; subst h; simp [tp]
  | a, k + 1, x, y :: xs, h => by
    rw [List.take_succ_cons, List.take_succ_cons]
    exact tp_take (a := max a y + y + 2) (by simpa using h)
theorem tl_get : ∀ {a k : Nat} {xs : List Nat}, k < xs.length → (tl a xs)[k]? = some (tp a (xs.take (k + 1)))
  | a, k, [], h => by simp at h
  | a, 0, y :: xs, h => by simp [tl, tp]
  | a, k + 1, y :: xs, h => by
    rw [List.take_succ_cons]
    exact tl_get (a := max a y + y + 2) (by simpa using h)
theorem tp_le : ∀ {a : Nat} {xs : List Nat} {k : Nat}, tp a (xs.take k) ≤ tp a xs
  | a, [], k => by simp
  | a, x :: xs, 0 => by
    have h : ∀ {a b : Nat} {xs : List Nat}, a ≤ b → a ≤ tp b xs := by
      intro a b xs
      induction xs generalizing b with
      | nil => intro h; exact h
      | cons y ys ih => intro h; exact ih (by omega)
    simp only [List.take_zero, tp]
    exact h (by omega)
  | a, x :: xs, k + 1 => tp_le (a := max a x + x + 2)
theorem tp_zero {a : Nat} {xs : List Nat} : tp a (xs.take 0) = a := by simp [tp]

def LIM : Nat := 3200000000000

/-- all stages stay below the limit -/
def okL : Nat → Nat → List Nat → Bool
  | 0, u, _ => decide (u + 4 < LIM)
  | n + 1, u, [] => decide (u + 4 < LIM)
  | n + 1, u, x :: xs => decide (u + 4 < LIM) && decide (tp x xs + 4 < LIM) && okL n (u + tp x xs + 1) (tl x xs)

theorem pow_lim {T : Nat} (h : T + 4 < LIM) : 4 * 2 ^ T < LB ^ CapN := by
  rw [LB_pow2]
  have h1 : 2 ^ (T + 2) < 2 ^ (32 * CapN) := Nat.pow_lt_pow_right (by decide) (by rw [CapN_eq]; unfold LIM at h; omega)
  rw [Nat.pow_add] at h1
  have : (2 : Nat) ^ 2 = 4 := rfl
  omega

/-! ### Euclid, on two rows -/

theorem same_abs {x y q r : Int} (h : Fl x y q r) (hs : 0 ≤ x * y) : x.natAbs = q.natAbs * y.natAbs + r.natAbs := by
  have key : ∀ {x y q r : Int}, x = q * y + r → 0 ≤ r → r < y → 0 < y → 0 ≤ x * y → x.natAbs = q.natAbs * y.natAbs + r.natAbs := by
    intro x y q r he h0 hry hy hs
    have hx : 0 ≤ x := by
      rcases Int.lt_or_le x 0 with hx | hx
      · have := Int.mul_neg_of_neg_of_pos hx hy; omega
      · exact hx
    have hq : 0 ≤ q := by
      rcases Int.lt_or_le q 0 with hq | hq
      · have : q * y ≤ -1 * y := Int.mul_le_mul_of_nonneg_right (by omega) (by omega)
        omega
      · exact hq
    have h1 : (q * y).natAbs = q.natAbs * y.natAbs := Int.natAbs_mul _ _
    have h2 : 0 ≤ q * y := Int.mul_nonneg hq (by omega)
    omega
  rcases h.rest with ⟨h1, h2⟩ | ⟨h1, h2⟩
  · exact key h.eq h1 h2 (by omega) hs
  · have := key (x := -x) (y := -y) (q := q) (r := -r) (by rw [Int.mul_neg]; have := h.eq; omega) (by omega) (by omega) (by omega) (by rw [Int.neg_mul_neg]; exact hs)
    rwa [Int.natAbs_neg, Int.natAbs_neg, Int.natAbs_neg] at this

/-- rows t and i on their way -/
structure Euc (V0 V : List (List Int)) (w t i c F : Nat) : Prop where
  len : V.length = V0.length
  wd : Wd w V
  sp : SpE V0 V
  oth : ∀ k, k ≠ t → k ≠ i → V[k]? = V0[k]?
  low : ∀ j, j < c → en V t j = 0 ∧ en V i j = 0
  bd : ∀ j, (en V t j).natAbs ≤ F ∧ (en V i j).natAbs ≤ F
  ph : V = V0 ∨ (en V t c ≠ 0 ∧ 0 ≤ en V t c * en V i c ∧ ∀ j, (en V t j).natAbs * (en V i c).natAbs + (en V i j).natAbs * (en V t c).natAbs ≤ F)

theorem Euc.step {V0 V : List (List Int)} {w t i c a b : Nat} {q ρ : Int} (h : Euc V0 V w t i c (2 * b * (a + b))) (ht : t < V.length) (hi : i < V.length) (hne : t ≠ i) (hy : en V i c ≠ 0) (hF : Fl (en V t c) (en V i c) q ρ)
    (ha : ∀ j, (en V0 t j).natAbs ≤ a) (hb : ∀ j, (en V0 i j).natAbs ≤ b) :
    Euc V0 (swR (addR V t i (-q)) t i) w t i c (2 * b * (a + b)) ∧ (en (swR (addR V t i (-q)) t i) i c).natAbs < (en V i c).natAbs ∧ (∀ j, (q * en V i j).natAbs ≤ 2 * (2 * b * (a + b))) ∧ en (swR (addR V t i (-q)) t i) t c ≠ 0 := by
  have ht' : t < (addR V t i (-q)).length := by rw [Hn.addR_len]; exact ht
  have hi' : i < (addR V t i (-q)).length := by rw [Hn.addR_len]; exact hi
  have et : ∀ j, en (swR (addR V t i (-q)) t i) t j = en V i j := fun j => by rw [Hn.swR_en_fst ht' hi', Hn.addR_en_ne (Ne.symm hne)]
  have ei : ∀ j, en (swR (addR V t i (-q)) t i) i j = en V t j - q * en V i j := fun j => by rw [Hn.swR_en_snd ht' hi', Hn.addR_en h.wd ht hi, Int.neg_mul]; omega
  have eρ : en (swR (addR V t i (-q)) t i) i c = ρ := by rw [ei]; have := hF.eq; omega
  have hy1 : 0 < (en V i c).natAbs := Int.natAbs_pos.2 hy
  have hsub : ∀ j, (en V t j - q * en V i j).natAbs ≤ (en V t j).natAbs + q.natAbs * (en V i j).natAbs := fun j => by
    rw [← Int.natAbs_mul]; omega
  have hpot : ∀ j, (en V i j).natAbs * ρ.natAbs + (en V t j - q * en V i j).natAbs * (en V i c).natAbs ≤ 2 * b * (a + b) := by
    intro j
    have h1 := Nat.mul_le_mul_right (en V i c).natAbs (hsub j)
    rw [Nat.add_mul] at h1
    rcases h.ph with rfl | ⟨hx0, hs, hP⟩
    · have hq := hF.q_le
      have hr := hF.rle
      have haj := ha j
      have hbj := hb j
      have hac := ha c
      have hbc := hb c
      have m1 : (en V i j).natAbs * ρ.natAbs ≤ b * b := Nat.mul_le_mul hbj (by omega)
      have m2 : (en V t j).natAbs * (en V i c).natAbs ≤ a * b := Nat.mul_le_mul haj hbc
      have m3 : q.natAbs * (en V i j).natAbs * (en V i c).natAbs ≤ (a + b) * b := by
        rw [Nat.mul_right_comm]
        exact Nat.mul_le_mul (by omega) hbj
      have e : 2 * b * (a + b) = b * b + a * b + (a + b) * b := by
        rw [Nat.add_mul, Nat.mul_assoc, Nat.mul_add, Nat.mul_comm b a]; omega
      rw [e]; omega
    · have hab := same_abs hF hs
      have hPj := hP j
      rw [hab, Nat.mul_add] at hPj
      have e : q.natAbs * (en V i j).natAbs * (en V i c).natAbs = (en V i j).natAbs * (q.natAbs * (en V i c).natAbs) := by ac_rfl
      omega
  have hbi : ∀ j, (en V t j - q * en V i j).natAbs ≤ 2 * b * (a + b) := fun j => by
    have h1 := hpot j
    have h2 : (en V t j - q * en V i j).natAbs * 1 ≤ (en V t j - q * en V i j).natAbs * (en V i c).natAbs := Nat.mul_le_mul_left _ hy1
    omega
  refine ⟨⟨Hn.swR_len.trans (Hn.addR_len.trans h.len), Hn.swR_wd (Hn.addR_wd h.wd ht hi) ht' hi', (h.sp.trans (Hn.addR_sp h.wd ht hi hne)).trans (Hn.swR_sp ht' hi'), fun k k1 k2 => (Hn.swR_ne k1 k2).trans ((Hn.addR_ne k1).trans (h.oth k k1 k2)), fun j hj => ?_, fun j => ?_, .inr ⟨?_, ?_, fun j => ?_⟩⟩, ?_, fun j => ?_, ?_⟩
  · obtain ⟨l1, l2⟩ := h.low j hj
    rw [et, ei, l1, l2, Int.mul_zero]; exact ⟨rfl, rfl⟩
  · rw [et, ei]; exact ⟨(h.bd j).2, hbi j⟩
  · rw [et]; exact hy
  · rw [et, eρ, Int.mul_comm]; exact hF.same
  · rw [et, et, eρ, ei]; exact hpot j
  · rw [eρ]; exact hF.rle
  · have h1 := (h.bd j).1
    have h2 := hbi j
    omega
  · rw [et]; exact hy

/-! ### one column -/

/-- rows t+1 .. t+k are nought in column c; bits of the rows from t on: a :: xs at the start -/
structure Ec (V0 V : List (List Int)) (w t c a : Nat) (xs : List Nat) (k : Nat) : Prop where
  len : V.length = V0.length
  wd : Wd w V
  sp : SpE V0 V
  up : ∀ i, i < t → V[i]? = V0[i]?
  low : ∀ i, t ≤ i → ∀ j, j < c → en V i j = 0
  zero : ∀ i, t < i → i < t + 1 + k → en V i c = 0
  stay : en V t c = 0 → V = V0
  top : ∀ j, (en V t j).natAbs ≤ 2 ^ tp a (xs.take k)
  done : ∀ k', k' < k → ∀ j, (en V (t + 1 + k') j).natAbs ≤ 2 ^ (tl a xs).getD k' 0
  rest : ∀ i, t + 1 + k ≤ i → V[i]? = V0[i]?

theorem Ec.start {V : List (List Int)} {w t c a : Nat} {xs : List Nat} (hw : Wd w V) (hl : ∀ i, t ≤ i → ∀ j, j < c → en V i j = 0) (ha : ∀ j, (en V t j).natAbs ≤ 2 ^ a) : Ec V V w t c a xs 0 :=
  ⟨rfl, hw, .refl, fun _ _ => rfl, hl, fun i h1 h2 => by omega, fun _ => rfl, by rw [tp_zero]; exact ha, fun k' h => by omega, fun _ _ => rfl⟩

theorem two_le {a b : Nat} : 2 * 2 ^ b * (2 ^ a + 2 ^ b) ≤ 2 ^ (max a b + b + 2) := by
  have h1 : (2 : Nat) ^ a ≤ 2 ^ max a b := Nat.pow_le_pow_right (by decide) (Nat.le_max_left _ _)
  have h2 : (2 : Nat) ^ b ≤ 2 ^ max a b := Nat.pow_le_pow_right (by decide) (Nat.le_max_right _ _)
  have h3 : (2 : Nat) ^ a + 2 ^ b ≤ 2 * 2 ^ max a b := by omega
  have h4 := Nat.mul_le_mul_left (2 * 2 ^ b) h3
  refine Nat.le_trans h4 (Nat.le_of_eq ?_)
  rw [Nat.pow_add, Nat.pow_add]
  have : (2 : Nat) ^ 2 = 4 := rfl
  rw [this]
  generalize (2 : Nat) ^ max a b = x
  generalize (2 : Nat) ^ b = y
  have e : 2 * y * (2 * x) = 4 * (x * y) := by
    rw [Nat.mul_mul_mul_comm, Nat.mul_comm y x]
  rw [e]; omega

/-- where Euclid begins -/
theorem Ec.euc {V0 V : List (List Int)} {w t c a k g : Nat} {xs : List Nat} (h : Ec V0 V w t c a xs k) (hg : xs[k]? = some g) (hgb : ∀ j, (en V0 (t + 1 + k) j).natAbs ≤ 2 ^ g) : Euc V V w t (t + 1 + k) c (2 * 2 ^ g * (2 ^ tp a (xs.take k) + 2 ^ g)) := by
  have e : ∀ j, en V (t + 1 + k) j = en V0 (t + 1 + k) j := fun j => Hn.en_congr (h.rest _ (Nat.le_refl _)) j
  refine ⟨rfl, h.wd, .refl, fun _ _ _ => rfl, fun j hj => ⟨h.low t (Nat.le_refl _) j hj, h.low _ (by omega) j hj⟩, fun j => ?_, .inl rfl⟩
  have h1 := h.top j
  have h2 := hgb j
  rw [← e] at h2
  have p1 : 0 < 2 ^ g := Nat.pow_pos (by decide)
  have : 1 * (2 ^ tp a (xs.take k) + 2 ^ g) ≤ 2 * 2 ^ g * (2 ^ tp a (xs.take k) + 2 ^ g) := Nat.mul_le_mul_right _ (by omega)
  omega

/-- where it ends -/
theorem Ec.next {V0 V V' : List (List Int)} {w t c a k g : Nat} {xs : List Nat} (h : Ec V0 V w t c a xs k) (hg : xs[k]? = some g) (hE : Euc V V' w t (t + 1 + k) c (2 * 2 ^ g * (2 ^ tp a (xs.take k) + 2 ^ g))) (hz : en V' (t + 1 + k) c = 0) : Ec V0 V' w t c a xs (k + 1) := by
  have hk : k < xs.length := (List.getElem?_eq_some_iff.1 hg).1
  have hF : 2 * 2 ^ g * (2 ^ tp a (xs.take k) + 2 ^ g) ≤ 2 ^ tp a (xs.take (k + 1)) := by rw [tp_take hg]; exact two_le
  refine ⟨hE.len.trans h.len, hE.wd, h.sp.trans hE.sp, fun i hi => (hE.oth i (by omega) (by omega)).trans (h.up i hi), fun i hi j hj => ?_, fun i h1 h2 => ?_, fun h0 => ?_, fun j => Nat.le_trans (hE.bd j).1 hF, fun k' hk' j => ?_, fun i hi => (hE.oth i (by omega) (by omega)).trans (h.rest i (by omega))⟩
  · by_cases hit : i = t
    · subst hit; exact (hE.low j hj).1
    · by_cases hik : i = t + 1 + k
      · subst hik; exact (hE.low j hj).2
      · rw [Hn.en_congr (hE.oth i hit hik)]; exact h.low i hi j hj
  · by_cases hik : i = t + 1 + k
    · subst hik; exact hz
    · rw [Hn.en_congr (hE.oth i (by omega) hik)]; exact h.zero i h1 (by omega)
  · rcases hE.ph with he | ⟨hx, _, _⟩
    · rw [he] at h0 ⊢; exact h.stay h0
    · exact absurd h0 hx
  · rcases Nat.lt_or_ge k' k with hlt | hge
    · rw [Hn.en_congr (hE.oth _ (by omega) (by omega))]; exact h.done k' hlt j
    · obtain rfl : k' = k := by omega
      rw [List.getD_eq_getElem?_getD, tl_get hk, Option.getD_some]
      exact Nat.le_trans (hE.bd j).2 hF

/-! ### all columns -/

/-- what stands when columns up to c are done -/
structure RI (W0 V : List (List Int)) (w c t u : Nat) (l : List Nat) : Prop where
  len : V.length = W0.length
  wd : Wd w V
  sp : SpE W0 V
  frm : Frm V c t
  ll : t + l.length = V.length
  lo : ∀ k j, (en V (t + k) j).natAbs ≤ 2 ^ l.getD k 0
  up : ∀ i j, i < t → (en V i j).natAbs + 1 ≤ 2 ^ u
  ok : okL l.length u l = true

theorem RI.low {W0 V : List (List Int)} {w c t u : Nat} {l : List Nat} (h : RI W0 V w c t u l) : ∀ i, t ≤ i → ∀ j, j < c → en V i j = 0 := by
  intro i hi j hj
  rcases Nat.lt_or_ge i V.length with hil | hil
  · rw [Hn.en_vec (Hn.getD_get hil)]
    exact h.frm.low i _ hi (Hn.getD_get hil) j hj
  · exact Hn.en_out hil

theorem RI.skip {W0 V : List (List Int)} {w c t u : Nat} {l : List Nat} (h : RI W0 V w c t u l) (h0 : ∀ i, t ≤ i → en V i c = 0) : RI W0 V w (c + 1) t u l :=
  ⟨h.len, h.wd, h.sp, h.frm.skip fun i s hi hs => by rw [← Hn.en_vec hs]; exact h0 i hi, h.ll, h.lo, h.up, h.ok⟩

theorem okL_u {n u : Nat} {l : List Nat} (h : okL n u l = true) : u + 4 < LIM := by
  cases n with
  | zero => simpa [okL] using h
  | succ n =>
    cases l with
    | nil => simpa [okL] using h
    | cons x xs => simp only [okL, Bool.and_eq_true, decide_eq_true_eq] at h; exact h.1.1

theorem RI.next {W0 V W2 V2 : List (List Int)} {w c t u a : Nat} {xs : List Nat} (h : RI W0 V w c t u (a :: xs)) (hl2 : W2.length = V.length) (hsp2 : SpE V W2) (hup2 : ∀ i, i < t → W2[i]? = V[i]?) (hlow2 : ∀ i, t ≤ i → ∀ j, j < c → en W2 i j = 0)
    (hy : 0 < en W2 t c) (hz : ∀ i, t < i → en W2 i c = 0) (htop : ∀ j, (en W2 t j).natAbs ≤ 2 ^ tp a xs) (hdone : ∀ k j, (en W2 (t + 1 + k) j).natAbs ≤ 2 ^ (tl a xs).getD k 0)
    (hV : Rd W2 V2 w t c t (2 ^ u - 1) (2 ^ u - 1 + (2 ^ u - 1 + 1) * 2 ^ tp a xs)) : RI W0 V2 w (c + 1) (t + 1) (u + tp a xs + 1) (tl a xs) := by
  have erest : ∀ i, t ≤ i → V2[i]? = W2[i]? := hV.rest
  have htl : t < V.length := by have := h.ll; simp at this; omega
  have hok := h.ok
  simp only [List.length_cons, okL, Bool.and_eq_true, decide_eq_true_eq] at hok
  have p1 : 0 < 2 ^ u := Nat.pow_pos (by decide)
  have e1 : 2 ^ (u + tp a xs + 1) = 2 * (2 ^ u * 2 ^ tp a xs) := by rw [Nat.pow_succ, Nat.pow_add, Nat.mul_comm]
  have e2 : 2 ^ u * 1 ≤ 2 ^ u * 2 ^ tp a xs := Nat.mul_le_mul_left _ (Nat.pow_pos (by decide))
  have e3 : 1 * 2 ^ tp a xs ≤ 2 ^ u * 2 ^ tp a xs := Nat.mul_le_mul_right _ p1
  have e4 : 0 < 2 ^ tp a xs := Nat.pow_pos (by decide)
  have e5 : (2 ^ u - 1 + 1) = 2 ^ u := by omega
  refine ⟨hV.len.trans (hl2.trans h.len), hV.wd, (h.sp.trans hsp2).trans hV.sp, ?_, ?_, fun k j => ?_, fun i j hi => ?_, ?_⟩
  · have hrV : t < V2.length := by rw [hV.len, hl2]; exact htl
    have ht := Hn.getD_get hrV
    have et : ∀ j, vec (V2.getD t []) j = en W2 t j := fun j => by rw [← Hn.en_vec ht, Hn.en_congr (erest t (Nat.le_refl _))]
    refine h.frm.step (hV.len.trans hl2) htl (fun i s r hi hs hr j hj => ?_) (fun i s hi hs j hj => ?_) ht ?_ (fun i s hi hs => ?_) (fun i s hi hs => ?_)
    · rw [← Hn.en_vec hs, ← Hn.en_vec hr, hV.same i j hj, Hn.en_congr (hup2 i hi)]
    · rw [← Hn.en_vec hs, Hn.en_congr (erest i hi)]; exact hlow2 i hi j hj
    · rw [et]; exact hy
    · rw [← Hn.en_vec hs, Hn.en_congr (erest i (by omega))]; exact hz i hi
    · rw [← Hn.en_vec hs, et]; exact hV.red i hi
  · have := h.ll
    rw [List.length_cons] at this
    rw [tl_len, hV.len, hl2]; omega
  · rw [Hn.en_congr (erest _ (by omega))]; exact hdone k j
  · rw [e1]
    rcases Nat.lt_or_ge i t with hit | hit
    · have := hV.bd i j hit
      rw [e5] at this
      omega
    · obtain rfl : i = t := by omega
      rw [Hn.en_congr (erest i (Nat.le_refl _))]
      have := htop j
      omega
  · rw [tl_len]; exact hok.2
end Go.Proofs.Ytdieenbfdeaffaa.VRs

namespace Go.Proofs.Ytdieenbfdeaffaa.VRs
open Go Vpi
open VBn hiding rp tab rp_ok all_ok mixed sim Big
open Hn (addR swR tuR Fl en Wd Bd SpE Frm vec vm Sp)
set_option maxRecDepth 100000
set_option linter.unusedSimpArgs false
set_option linter.unusedVariables false

theorem rp153 : rp 153 = some f153 := rfl

theorem rows_of {w : Nat} {V : List (List Int)} (hw : Wd w V) (hs : SzA V) : ∀ j, j < V.length → (V.getD j []).length = w ∧ SzL (V.getD j []) := fun j hj => ⟨hw j _ (Hn.getD_get hj), szl_of fun k => hs j k⟩

theorem okL_el : ∀ {u : Nat} {l : List Nat}, okL l.length u l = true → ∀ k, l.getD k 0 + 4 < LIM
  | u, [], _, k => by simp [LIM]
  | u, x :: xs, h, k => by
    simp only [List.length_cons, okL, Bool.and_eq_true, decide_eq_true_eq] at h
    cases k with
    | zero =>
      have := tp_le (a := x) (xs := xs) (k := 0)
      rw [tp_zero] at this
      simp only [List.getD_cons_zero]; omega
    | succ k =>
      simp only [List.getD_cons_succ]
      rw [List.getD_eq_getElem?_getD]
      cases hx : xs[k]? with
      | none => simp [LIM]
      | some y =>
        have h1 := tp_take (a := x) hx
        have h2 := tp_le (a := x) (xs := xs) (k := k + 1)
        simp only [Option.getD_some]; omega

theorem RI.sz {W0 V : List (List Int)} {w c t u : Nat} {l : List Nat} (h : RI W0 V w c t u l) : SzA V := fun i j => by
  rcases Nat.lt_or_ge i t with hi | hi
  · have h1 := h.up i j hi
    have h2 := pow_lim (okL_u h.ok)
    exact sz_of_le (B := 2 ^ u) (by omega) (by omega)
  · obtain ⟨k, rfl⟩ : ∃ k, i = t + k := ⟨i - t, by omega⟩
    have h2 := pow_lim (okL_el h.ok k)
    have : 0 < 2 ^ l.getD k 0 := Nat.pow_pos (by decide)
    exact sz_of_le (h.lo k j) (by omega)

theorem RI.tp {W0 V : List (List Int)} {w c t u a : Nat} {xs : List Nat} (h : RI W0 V w c t u (a :: xs)) : 4 * 2 ^ tp a xs < LB ^ CapN := by
  have := h.ok
  simp only [List.length_cons, okL, Bool.and_eq_true, decide_eq_true_eq] at this
  exact pow_lim this.1.2

theorem tp_cap {a k : Nat} {xs : List Nat} (h : 4 * 2 ^ tp a xs < LB ^ CapN) : 4 * 2 ^ tp a (xs.take k) < LB ^ CapN :=
  Nat.lt_of_le_of_lt (Nat.mul_le_mul_left _ (Nat.pow_le_pow_right (by decide) tp_le)) h

theorem Ec.sz {W0 V0 V : List (List Int)} {w c t u a k : Nat} {xs : List Nat} (h : Ec V0 V w t c a xs k) (hR : RI W0 V0 w c t u (a :: xs)) (hk : k ≤ xs.length) : SzA V := fun i j => by
  have hcap := hR.tp
  rcases Nat.lt_trichotomy i t with hi | hi | hi
  · rw [Hn.en_congr (h.up i hi)]; exact hR.sz i j
  · subst hi
    have := tp_cap (k := k) hcap
    exact sz_of_le (h.top j) (by omega)
  · rcases Nat.lt_or_ge i (t + 1 + k) with hik | hik
    · obtain ⟨k', rfl⟩ : ∃ k', i = t + 1 + k' := ⟨i - (t + 1), by omega⟩
      have h1 := h.done k' (by omega) j
      rw [List.getD_eq_getElem?_getD, tl_get (by omega), Option.getD_some] at h1
      have := tp_cap (k := k' + 1) hcap
      exact sz_of_le h1 (by omega)
    · rw [Hn.en_congr (h.rest i hik)]; exact hR.sz i j

theorem Euc.sz {V0 V : List (List Int)} {w t i c F : Nat} (h : Euc V0 V w t i c F) (h0 : SzA V0) (hF : F < LB ^ CapN) : SzA V := fun k j => by
  by_cases hkt : k = t
  · subst hkt; exact sz_of_le (h.bd j).1 hF
  · by_cases hki : k = i
    · subst hki; exact sz_of_le (h.bd j).2 hF
    · rw [Hn.en_congr (h.oth k hkt hki)]; exact h0 k j

theorem n153 {b : List PV} {M : List (List Int)} {n w : Nat} {l0 : List Nat} (hML : ML b M) (hN0 : 0 < M.length) (hNm : M.length ≤ 2000000) (hw : Wd w M) (hnw : n ≤ w) (hw2 : w ≤ 2000000) (hl0 : l0.length = M.length) (hlo : ∀ k j, (en M k j).natAbs ≤ 2 ^ l0.getD k 0) (hok : okL l0.length 0 l0 = true) {Q : CV → Store → Prop}
    (hQ : ∀ (V : List (List Int)) (t u : Nat) (l : List Nat) (bm : Nat) (ρ : Store), RI M V w n t u l → ρ[bm]? = some (.prow 1 (zm V)) → Q (.own bm 0 M.length) ρ) : Rn rp 153 [.p (.sl b), i64 n] [] Q := by
  rw [rn_of rp153]
  have hbN : b.length = M.length := hML.1
  simp only [f153, args0, S1, S2, S3, S4, S5, r_idx, r_mks, ev, resultsV, resL, resV, vl, gt, st, sto, fgt, i64, subCV, fill, setCells, mkAgg, allP, frz, frz1, frzL, frzs, kill, kill1, killL, kills, bnd, unV, bsz, toPs, toP, isPure1, pureL, List.elem, List.replicate, Int.reduceLE, Int.reduceLT, ↓reduceIte, reduceCtorEq, Nat.reduceLT, Nat.reduceEqDiff, Nat.reduceAdd, Nat.reduceMul, Nat.reduceLeDiff, Nat.reduceBEq]
  refine kc_keep' (n89 Wf.nil hML (by omega) fun ρ0 cm _ hwf0 _ hG => ?_)
  obtain ⟨bm, rfl, hbm, _⟩ := GL.own_of hG (n := M.length) (by rw [zm_len]) hN0
  simp only [S1, S2, S3, S4, S5, r_idx, r_mks, ev, resultsV, resL, resV, vl, gt, st, sto, fgt, i64, subCV, fill, setCells, mkAgg, allP, frz, frz1, frzL, frzs, kill, kill1, killL, kills, bnd, unV, bsz, toPs, toP, isPure1, pureL, List.elem, List.replicate, Int.reduceLE, Int.reduceLT, ↓reduceIte, reduceCtorEq, Nat.reduceLT, Nat.reduceEqDiff, Nat.reduceAdd, Nat.reduceMul, Nat.reduceLeDiff, Nat.reduceBEq]
  refine loop_rule (β := List (List Int) × Nat × Nat × List Nat × Nat × Store) (fun t => ([(1, i64 n), (5, .own bm 0 M.length), (6, i64 t.2.1), (7, i64 t.2.2.2.2.1)], t.2.2.2.2.2))
    (fun t => t.2.2.2.2.1 ≤ n ∧ t.2.2.2.2.2[bm]? = some (.prow 1 (zm t.1)) ∧ RI M t.1 w t.2.2.2.2.1 t.2.1 t.2.2.1 t.2.2.2.1) (fun t => n - t.2.2.2.2.1) ((M, 0, 0, l0, 0, ρ0) : List (List Int) × Nat × Nat × List Nat × Nat × Store) rfl rfl
    ⟨Nat.zero_le _, hbm, ⟨rfl, hw, .refl, .zero, by simpa using hl0, fun k j => by rw [Nat.zero_add]; exact hlo k j, fun i j hi => absurd hi (Nat.not_lt_zero _), hok⟩⟩ ?_
  clear hbm hG
  rintro ⟨V, t, u, l, c, ρ⟩ ⟨hc, hbm, hR⟩ ih
  simp only [] at hc hbm hR ih ⊢
  have hVN : V.length = M.length := hR.len
  have htN : t ≤ M.length := by have := hR.frm.le; omega
  by_cases hcn : (c : Int) < n
  · have hcn' : c < n := by omega
    have hcw : c < w := by omega
    have w1 : IntKind.i64.wrap ((c : Int) + 1) = ((c + 1 : Nat) : Int) := by rw [IntWalk.i64_in _ (by omega)]; omega
    have w2 : IntKind.i64.wrap ((t : Int) + 1) = ((t + 1 : Nat) : Int) := by rw [IntWalk.i64_in _ (by omega)]; omega
    simp only [S1, S2, S3, S4, S5, r_idx, r_mks, ev, resultsV, resL, resV, vl, gt, st, sto, fgt, i64, subCV, fill, setCells, mkAgg, allP, frz, frz1, frzL, frzs, kill, kill1, killL, kills, bnd, unV, bsz, toPs, toP, isPure1, pureL, List.elem, List.replicate, Int.reduceLE, Int.reduceLT, ↓reduceIte, reduceCtorEq, Nat.reduceLT, Nat.reduceEqDiff, Nat.reduceAdd, Nat.reduceMul, Nat.reduceLeDiff, Nat.reduceBEq, hcn, w2]
    rcases Nat.lt_or_ge t M.length with htl | htl
    · -- rows are left
      obtain ⟨a, xs, rfl⟩ : ∃ a xs, l = a :: xs := by
        cases l with
        | nil => have := hR.ll; simp at this; omega
        | cons a xs => exact ⟨a, xs, rfl⟩
      have hxl : t + 1 + xs.length = M.length := by have := hR.ll; rw [List.length_cons] at this; omega
      have hcap := hR.tp
      refine loop_rule (β := List (List Int) × Nat × Store) (fun s => ([(1, i64 n), (5, .own bm 0 M.length), (6, i64 t), (7, i64 c), (8, i64 (t + 1 + s.2.1 : Nat))], s.2.2))
        (fun s => s.2.1 ≤ xs.length ∧ Ec V s.1 w t c a xs s.2.1 ∧ s.2.2[bm]? = some (.prow 1 (zm s.1))) (fun s => xs.length - s.2.1) ((V, 0, ρ) : List (List Int) × Nat × Store) rfl rfl
        ⟨Nat.zero_le _, .start hR.wd hR.low (fun j => by have := hR.lo 0 j; simpa using this), hbm⟩ ?_
      rintro ⟨V1, k, ρ1⟩ ⟨hk, hEc, hbm1⟩ ih1
      simp only [] at hk hEc hbm1 ih1 ⊢
      have hV1N : V1.length = M.length := hEc.len.trans hVN
      have hsz1 := hEc.sz hR hk
      by_cases hin : ((t + 1 + k : Nat) : Int) < M.length
      · have hkx : k < xs.length := by omega
        have hiN : t + 1 + k < M.length := by omega
        obtain ⟨g, hg⟩ : ∃ g, xs[k]? = some g := ⟨xs[k], by simp⟩
        have hgb : ∀ j, (en V (t + 1 + k) j).natAbs ≤ 2 ^ g := fun j => by
          have := hR.lo (k + 1) j
          rw [show t + (k + 1) = t + 1 + k by omega] at this
          simpa [List.getD_eq_getElem?_getD, hg] using this
        have hF : 2 * 2 ^ g * (2 ^ tp a (xs.take k) + 2 ^ g) ≤ 2 ^ tp a (xs.take (k + 1)) := by rw [tp_take hg]; exact two_le
        have hFc := tp_cap (k := k + 1) hcap
        have w3 : IntKind.i64.wrap (((t + 1 + k : Nat) : Int) + 1) = ((t + 1 + (k + 1) : Nat) : Int) := by rw [IntWalk.i64_in _ (by omega)]; omega
        have hE0 := hEc.euc hg hgb
        have hab : ∀ j, (en V1 t j).natAbs ≤ 2 ^ tp a (xs.take k) := hEc.top
        have hbb : ∀ j, (en V1 (t + 1 + k) j).natAbs ≤ 2 ^ g := fun j => by rw [Hn.en_congr (hEc.rest _ (Nat.le_refl _))]; exact hgb j
        simp only [S1, S2, S3, S4, S5, r_idx, r_mks, ev, resultsV, resL, resV, vl, gt, st, sto, fgt, i64, subCV, fill, setCells, mkAgg, allP, frz, frz1, frzL, frzs, kill, kill1, killL, kills, bnd, unV, bsz, toPs, toP, isPure1, pureL, List.elem, List.replicate, Int.reduceLE, Int.reduceLT, ↓reduceIte, reduceCtorEq, Nat.reduceLT, Nat.reduceEqDiff, Nat.reduceAdd, Nat.reduceMul, Nat.reduceLeDiff, Nat.reduceBEq, hin]
        refine loop_rule (β := List (List Int) × Store) (fun s => ([(1, i64 n), (5, .own bm 0 M.length), (6, i64 t), (7, i64 c), (8, i64 (t + 1 + k : Nat))], s.2))
          (fun s => Euc V1 s.1 w t (t + 1 + k) c (2 * 2 ^ g * (2 ^ tp a (xs.take k) + 2 ^ g)) ∧ s.2[bm]? = some (.prow 1 (zm s.1))) (fun s => (en s.1 (t + 1 + k) c).natAbs) ((V1, ρ1) : List (List Int) × Store) rfl rfl
          ⟨hE0, hbm1⟩ ?_
        rintro ⟨V2, ρ2⟩ ⟨hE, hbm2⟩ ih2
        simp only [] at hE hbm2 ih2 ⊢
        have hV2N : V2.length = M.length := hE.len.trans hV1N
        have hsz2 := hE.sz hsz1 (by omega)
        have hrowi := zm_getD (M := V2) (i := t + 1 + k) (by omega)
        have hrowt := zm_getD (M := V2) (i := t) (by omega)
        have hxi := zr_en (L := V2) (i := t + 1 + k) (j := c) (by rw [(rows_of hE.wd hsz2 _ (by omega)).1]; exact hcw)
        have hxt := zr_en (L := V2) (i := t) (j := c) (by rw [(rows_of hE.wd hsz2 _ (by omega)).1]; exact hcw)
        have k79 := (VBn.p79 (Nu.zi (hsz2 (t + 1 + k) c))).lift base_le
        by_cases h0 : en V2 (t + 1 + k) c = 0
        · have s0 : ((en V2 (t + 1 + k) c).sign != 0) = false := by rw [h0]; rfl
          simp only [S1, S2, S3, S4, S5, r_idx, r_mks, ev, resultsV, resL, resV, vl, gt, st, sto, fgt, i64, subCV, fill, setCells, mkAgg, allP, frz, frz1, frzL, frzs, kill, kill1, killL, kills, bnd, unV, bsz, toPs, toP, isPure1, pureL, List.elem, List.replicate, Int.reduceLE, Int.reduceLT, ↓reduceIte, reduceCtorEq, Nat.reduceLT, Nat.reduceEqDiff, Nat.reduceAdd, Nat.reduceMul, Nat.reduceLeDiff, Nat.reduceBEq, hbm2, hiN, hrowi, hxi, subPV_zi, Int.natCast_nonneg, Int.toNat_natCast, kp1 k79, s0, w3]
          exact ih1 (V2, k + 1, ρ2) _ ⟨hkx, hEc.next hg hE h0, hbm2⟩ (by simp only []; omega) rfl
        · have s0 : ((en V2 (t + 1 + k) c).sign != 0) = true := by
            rw [bne_iff_ne]; exact fun hh => h0 (Int.sign_eq_zero_iff_zero.1 hh)
          obtain ⟨q, r, hFl, k100⟩ := fl100 (Nu.zi (hsz2 t c)) (Nu.zi (hsz2 (t + 1 + k) c)) h0
          obtain ⟨stp, hlt, hqs, _⟩ := hE.step (by omega) (by omega) (by omega) h0 hFl hab hbb
          have hltb := (List.getElem?_eq_some_iff.1 hbm2).1
          have hbm2' : ∀ l, (ρ2 ++ l)[bm]? = some (.prow 1 (zm V2)) := fun l => by rw [get_left hltb]; exact hbm2
          have hqz : Sz q := by
            have h1 := hFl.le
            have h2 := (hE.bd c).1
            have p0 : 0 < 2 ^ tp a (xs.take (k + 1)) := Nat.pow_pos (by decide)
            exact sz_of_le (B := 2 * 2 ^ g * (2 ^ tp a (xs.take k) + 2 ^ g) + 1) (by omega) (by omega)
          have hqr : SzL ((V2.getD (t + 1 + k) []).map (q * ·)) := map_sz fun j => sz_of_le (hqs j) (by omega)
          simp only [S1, S2, S3, S4, S5, r_idx, r_mks, ev, resultsV, resL, resV, vl, gt, st, sto, fgt, i64, subCV, fill, setCells, mkAgg, allP, frz, frz1, frzL, frzs, kill, kill1, killL, kills, bnd, unV, bsz, toPs, toP, isPure1, pureL, List.elem, List.replicate, Int.reduceLE, Int.reduceLT, ↓reduceIte, reduceCtorEq, Nat.reduceLT, Nat.reduceEqDiff, Nat.reduceAdd, Nat.reduceMul, Nat.reduceLeDiff, Nat.reduceBEq, hbm2, hbm2', hiN, htl, hrowi, hrowt, hxi, hxt, subPV_zi, push_sl, Int.natCast_nonneg, Int.toNat_natCast, kp1 k79, s0, kp2 k100]
          have hn183 := fun {Q} hQ => n183 (σ := ρ2 ++ [.kblk 2 [.p (.bool (decide (q < 0) && decide (q.natAbs ≠ 0))), .p (.sl (lm (dgl q.natAbs)))], .kblk 2 [.p (.bool (decide (r < 0) && decide (r.natAbs ≠ 0))), .p (.sl (lm (dgl r.natAbs)))]]) (Q := Q) (kp := zi q) (Nu.zi hqz) (hbm2' _) (i := t) (k := t + 1 + k) (by omega) (by omega) (rows_of hE.wd hsz2) hw2 hqr hQ
          rw [hV2N] at hn183
          refine kc_keep' (hn183 fun g' => ?_)
          have hl3 : (addR V2 t (t + 1 + k) (-q)).length = M.length := by rw [Hn.addR_len, hV2N]
          generalize hρ3 : (ρ2 ++ [Blk.kblk 2 [.p (.bool (decide (q < 0) && decide (q.natAbs ≠ 0))), .p (.sl (lm (dgl q.natAbs)))], .kblk 2 [.p (.bool (decide (r < 0) && decide (r.natAbs ≠ 0))), .p (.sl (lm (dgl r.natAbs)))]]).set bm (.prow 1 (zm (addR V2 t (t + 1 + k) (-q)))) ++ [g'] = ρ3
          have hbm3 : ρ3[bm]? = some (.prow 1 (zm (addR V2 t (t + 1 + k) (-q)))) := by
            rw [← hρ3, List.getElem?_append_left (by simp; omega)]
            exact get_self (by simp; omega)
          have hlt3 := (List.getElem?_eq_some_iff.1 hbm3).1
          have h1 := zm_getD (M := addR V2 t (t + 1 + k) (-q)) (i := t) (by omega)
          have h2 := zm_getD (M := addR V2 t (t + 1 + k) (-q)) (i := t + 1 + k) (by omega)
          have h3 : ((zm (addR V2 t (t + 1 + k) (-q))).set t (.sl (zr ((addR V2 t (t + 1 + k) (-q)).getD (t + 1 + k) []))))[t + 1 + k]? = some (.sl (zr ((addR V2 t (t + 1 + k) (-q)).getD (t + 1 + k) []))) := by
            rw [List.getElem?_set_ne (by omega), h2]
          have hs : ∀ X, (ρ3.set bm X)[bm]? = some X := fun X => get_self hlt3
          have he : ((zm (addR V2 t (t + 1 + k) (-q))).set t (.sl (zr ((addR V2 t (t + 1 + k) (-q)).getD (t + 1 + k) [])))).set (t + 1 + k) (.sl (zr ((addR V2 t (t + 1 + k) (-q)).getD t []))) = zm (swR (addR V2 t (t + 1 + k) (-q)) t (t + 1 + k)) := by rw [zm_set, zm_set]; rfl
          simp only [S1, S2, S3, S4, S5, r_idx, r_mks, ev, resultsV, resL, resV, vl, gt, st, sto, fgt, i64, subCV, fill, setCells, mkAgg, allP, frz, frz1, frzL, frzs, kill, kill1, killL, kills, bnd, unV, bsz, toPs, toP, isPure1, pureL, List.elem, List.replicate, Int.reduceLE, Int.reduceLT, ↓reduceIte, reduceCtorEq, Nat.reduceLT, Nat.reduceEqDiff, Nat.reduceAdd, Nat.reduceMul, Nat.reduceLeDiff, Nat.reduceBEq, hbm3, hiN, htl, h1, h2, h3, hs, he, Int.natCast_nonneg, Int.toNat_natCast, List.set_set]
          exact ih2 (swR (addR V2 t (t + 1 + k) (-q)) t (t + 1 + k), ρ3.set bm (.prow 1 (zm (swR (addR V2 t (t + 1 + k) (-q)) t (t + 1 + k))))) _ ⟨stp, get_self hlt3⟩ hlt rfl
      · obtain rfl : k = xs.length := by omega
        have htz : ((t : Int) == (M.length : Int)) = false := by rw [beq_eq_false_iff_ne]; omega
        have hrowt := zm_getD (M := V1) (i := t) (by omega)
        have hxt := zr_en (L := V1) (i := t) (j := c) (by rw [(rows_of hEc.wd hsz1 _ (by omega)).1]; exact hcw)
        have k79 := (VBn.p79 (Nu.zi (hsz1 t c))).lift base_le
        have hzero : ∀ i, t < i → en V1 i c = 0 := fun i hi => by
          rcases Nat.lt_or_ge i M.length with h | h
          · exact hEc.zero i hi (by omega)
          · exact Hn.en_out (by omega)
        by_cases h0 : en V1 t c = 0
        · have s0 : ((en V1 t c).sign == 0) = true := by rw [h0]; rfl
          have hst := hEc.stay h0
          subst hst
          simp only [S1, S2, S3, S4, S5, r_idx, r_mks, ev, resultsV, resL, resV, vl, gt, st, sto, fgt, i64, subCV, fill, setCells, mkAgg, allP, frz, frz1, frzL, frzs, kill, kill1, killL, kills, bnd, unV, bsz, toPs, toP, isPure1, pureL, List.elem, List.replicate, Int.reduceLE, Int.reduceLT, ↓reduceIte, reduceCtorEq, Nat.reduceLT, Nat.reduceEqDiff, Nat.reduceAdd, Nat.reduceMul, Nat.reduceLeDiff, Nat.reduceBEq, hin, htz, hbm1, htl, hrowt, hxt, subPV_zi, Int.natCast_nonneg, Int.toNat_natCast, kp1 k79, s0, w1]
          refine ih (V1, t, u, a :: xs, c + 1, ρ1) _ ⟨hcn', hbm1, hR.skip fun i hi => ?_⟩ (by simp only []; omega) rfl
          rcases Nat.lt_or_ge t i with h | h
          · exact hzero i h
          · obtain rfl : i = t := by omega
            exact h0
        · have s0 : ((en V1 t c).sign == 0) = false := by
            rw [beq_eq_false_iff_ne]; exact fun hh => h0 (Int.sign_eq_zero_iff_zero.1 hh)
          have htop : ∀ j, (en V1 t j).natAbs ≤ 2 ^ tp a xs := fun j => by
            have := hEc.top j
            rwa [List.take_length] at this
          have hdone : ∀ k j, (en V1 (t + 1 + k) j).natAbs ≤ 2 ^ (tl a xs).getD k 0 := fun k j => by
            rcases Nat.lt_or_ge k xs.length with h | h
            · exact hEc.done k h j
            · rw [Hn.en_out (by omega)]; simp
          refine @join2 ?rs ?cc ?kk Q _ (fun e ρ => ∃ W2, fgt [1, 5, 6, 7, 11] e = [(1, i64 n), (5, .own bm 0 M.length), (6, i64 t), (7, i64 c), (11, i64 (0 : Nat))] ∧ ρ[bm]? = some (.prow 1 (zm W2)) ∧
            W2.length = V.length ∧ SpE V W2 ∧ Wd w W2 ∧ (∀ i, i < t → W2[i]? = V[i]?) ∧ (∀ i, t ≤ i → ∀ j, j < c → en W2 i j = 0) ∧ 0 < en W2 t c ∧ (∀ i, t < i → en W2 i c = 0) ∧ (∀ j, (en W2 t j).natAbs ≤ 2 ^ tp a xs) ∧ (∀ k j, (en W2 (t + 1 + k) j).natAbs ≤ 2 ^ (tl a xs).getD k 0) ∧ SzA W2) (fun rest => ?main) ?tail
          case main =>
            by_cases hs : (en V1 t c).sign < 0
            · have k66 := (VBn.p66 (x := -1) (by decide) (by decide)).lift base_le
              have k74 := p74 (Nu.zi (Sz.small (by decide) : Sz (-1))) (NL.zr (rows_of hEc.wd hsz1 t (by omega)).2) (by rw [zr_len, (rows_of hEc.wd hsz1 t (by omega)).1]; exact hw2)
              have he : (zm V1).set t (.sl (zr ((V1.getD t []).map (-1 * ·)))) = zm (tuR V1 t) := by rw [zm_set]; rfl
              simp only [S1, S2, S3, S4, S5, r_idx, r_mks, ev, resultsV, resL, resV, vl, gt, st, sto, fgt, i64, subCV, fill, setCells, mkAgg, allP, frz, frz1, frzL, frzs, kill, kill1, killL, kills, bnd, unV, bsz, toPs, toP, isPure1, pureL, List.elem, List.replicate, Int.reduceLE, Int.reduceLT, ↓reduceIte, reduceCtorEq, Nat.reduceLT, Nat.reduceEqDiff, Nat.reduceAdd, Nat.reduceMul, Nat.reduceLeDiff, Nat.reduceBEq, hin, htz, hbm1, htl, hrowt, hxt, subPV_zi, Int.natCast_nonneg, Int.toNat_natCast, kp1 k79, s0, hs, kp1 k66, kp2 k74, he]
              refine rest _ _ ?_
              have htV : t < V1.length := by omega
              have hneg : en V1 t c < 0 := by
                rcases Int.lt_trichotomy (en V1 t c) 0 with h | h | h
                · exact h
                · exact absurd h h0
                · rw [Int.sign_eq_one_of_pos h] at hs; exact absurd hs (by decide)
              have hnat : ∀ i j, (en (tuR V1 t) i j).natAbs = (en V1 i j).natAbs := fun i j => by
                by_cases h : i = t
                · subst h; rw [Hn.tuR_en htV, Int.neg_mul, Int.one_mul, Int.natAbs_neg]
                · rw [Hn.tuR_en_ne h]
              refine ⟨tuR V1 t, rfl, get_self (List.getElem?_eq_some_iff.1 hbm1).1, Hn.tuR_len.trans hEc.len, hEc.sp.trans (Hn.tuR_sp hEc.wd htV), Hn.tuR_wd hEc.wd htV, fun i hi => (Hn.tuR_ne (by omega)).trans (hEc.up i hi), fun i hi j hj => ?_, ?_, fun i hi => ?_, fun j => by rw [hnat]; exact htop j, fun k j => by rw [hnat]; exact hdone k j, fun i j => ?_⟩
              · by_cases h : i = t
                · subst h; rw [Hn.tuR_en htV, hEc.low i hi j hj, Int.mul_zero]
                · rw [Hn.tuR_en_ne h]; exact hEc.low i hi j hj
              · rw [Hn.tuR_en htV]; omega
              · rw [Hn.tuR_en_ne (by omega)]; exact hzero i hi
              · have := hsz1 i j
                unfold Sz at this ⊢
                rw [hnat]; exact this
            · simp only [S1, S2, S3, S4, S5, r_idx, r_mks, ev, resultsV, resL, resV, vl, gt, st, sto, fgt, i64, subCV, fill, setCells, mkAgg, allP, frz, frz1, frzL, frzs, kill, kill1, killL, kills, bnd, unV, bsz, toPs, toP, isPure1, pureL, List.elem, List.replicate, Int.reduceLE, Int.reduceLT, ↓reduceIte, reduceCtorEq, Nat.reduceLT, Nat.reduceEqDiff, Nat.reduceAdd, Nat.reduceMul, Nat.reduceLeDiff, Nat.reduceBEq, hin, htz, hbm1, htl, hrowt, hxt, subPV_zi, Int.natCast_nonneg, Int.toNat_natCast, kp1 k79, s0, hs]
              refine rest _ _ ?_
              have hpos : 0 < en V1 t c := by
                rcases Int.lt_trichotomy (en V1 t c) 0 with h | h | h
                · rw [Int.sign_eq_neg_one_of_neg h] at hs; exact absurd (by decide) hs
                · exact absurd h h0
                · exact h
              exact ⟨V1, rfl, hbm1, hEc.len, hEc.sp, hEc.wd, hEc.up, hEc.low, hpos, hzero, htop, hdone, hsz1⟩
          case tail =>
            rintro e ρ2 ⟨W2, he, hbm2, hl2, hsp2, hwd2, hup2, hlow2, hy2, hz2, htop2, hdone2, hszW⟩
            have hW2N : W2.length = M.length := hl2.trans hVN
            have p1 : 0 < 2 ^ u := Nat.pow_pos (by decide)
            have hupb : ∀ k j, k < t → (en W2 k j).natAbs ≤ 2 ^ u - 1 := fun k j hk => by
              rw [Hn.en_congr (hup2 k hk)]
              have := hR.up k j hk
              omega
            have hok1 := hR.ok
            simp only [List.length_cons, okL, Bool.and_eq_true, decide_eq_true_eq] at hok1
            have hok2 := okL_u hok1.2
            have hcapu := pow_lim hok2
            have e1 : 2 ^ (u + tp a xs + 1) = 2 * (2 ^ u * 2 ^ tp a xs) := by rw [Nat.pow_succ, Nat.pow_add, Nat.mul_comm]
            have e2 : 2 ^ u * 1 ≤ 2 ^ u * 2 ^ tp a xs := Nat.mul_le_mul_left _ (Nat.pow_pos (by decide))
            have e5 : (2 ^ u - 1 + 1) = 2 ^ u := by omega
            rw [e1] at hcapu
            refine loop_rule (β := List (List Int) × Nat × Store) (fun s => ([(1, i64 n), (5, .own bm 0 M.length), (6, i64 t), (7, i64 c), (11, i64 s.2.1)], s.2.2))
              (fun s => s.2.1 ≤ t ∧ Rd W2 s.1 w t c s.2.1 (2 ^ u - 1) (2 ^ u - 1 + (2 ^ u - 1 + 1) * 2 ^ tp a xs) ∧ s.2.2[bm]? = some (.prow 1 (zm s.1))) (fun s => t - s.2.1) ((W2, 0, ρ2) : List (List Int) × Nat × Store) he rfl
              ⟨Nat.zero_le _, .start hwd2, hbm2⟩ ?_
            rintro ⟨V3, i, ρ3⟩ ⟨hit, hRd, hbm3⟩ ih3
            simp only [] at hit hRd hbm3 ih3 ⊢
            have hV3N : V3.length = M.length := hRd.len.trans hW2N
            have hsz3 : SzA V3 := fun k j => by
              rcases Nat.lt_or_ge k i with hk | hk
              · have := hRd.bd k j hk
                rw [e5] at this
                exact sz_of_le this (by omega)
              · rw [Hn.en_congr (hRd.rest k hk)]; exact hszW k j
            by_cases hin3 : (i : Int) < t
            · have hin' : i < t := by omega
              have hiN : i < M.length := by omega
              have w3 : IntKind.i64.wrap ((i : Int) + 1) = ((i + 1 : Nat) : Int) := by rw [IntWalk.i64_in _ (by omega)]; omega
              have hrowi := zm_getD (M := V3) (i := i) (by omega)
              have hrowt := zm_getD (M := V3) (i := t) (by omega)
              have hxi := zr_en (L := V3) (i := i) (j := c) (by rw [(rows_of hRd.wd hsz3 _ (by omega)).1]; exact hcw)
              have hxt := zr_en (L := V3) (i := t) (j := c) (by rw [(rows_of hRd.wd hsz3 _ (by omega)).1]; exact hcw)
              have et : en V3 t c = en W2 t c := Hn.en_congr (hRd.rest t (by omega)) c
              obtain ⟨q, r, hFl, k100⟩ := fl100 (Nu.zi (hsz3 i c)) (Nu.zi (hsz3 t c)) (by rw [et]; omega)
              obtain ⟨_, st1, hqs⟩ := hRd.step hin' (by omega) (hlow2 t (Nat.le_refl _)) hy2 hupb htop2 hFl
              have hltb := (List.getElem?_eq_some_iff.1 hbm3).1
              have hbm3' : ∀ l, (ρ3 ++ l)[bm]? = some (.prow 1 (zm V3)) := fun l => by rw [get_left hltb]; exact hbm3
              have hqz : Sz q := by
                have h1 := hFl.le
                have h2 : (en V3 i c).natAbs ≤ 2 ^ u - 1 := by rw [Hn.en_congr (hRd.rest i (Nat.le_refl _))]; exact hupb i c hin'
                exact sz_of_le (B := 2 ^ u) (by omega) (by omega)
              have hqr : SzL ((V3.getD t []).map (q * ·)) := map_sz fun j => by
                have h1 := hqs j
                rw [Int.neg_mul, Int.natAbs_neg, e5] at h1
                exact sz_of_le h1 (by omega)
              simp only [S1, S2, S3, S4, S5, r_idx, r_mks, ev, resultsV, resL, resV, vl, gt, st, sto, fgt, i64, subCV, fill, setCells, mkAgg, allP, frz, frz1, frzL, frzs, kill, kill1, killL, kills, bnd, unV, bsz, toPs, toP, isPure1, pureL, List.elem, List.replicate, Int.reduceLE, Int.reduceLT, ↓reduceIte, reduceCtorEq, Nat.reduceLT, Nat.reduceEqDiff, Nat.reduceAdd, Nat.reduceMul, Nat.reduceLeDiff, Nat.reduceBEq, hin3, hbm3, hbm3', hiN, htl, hrowi, hrowt, hxi, hxt, subPV_zi, push_sl, Int.natCast_nonneg, Int.toNat_natCast, kp2 k100]
              have hn183 := fun {Q} hQ => n183 (σ := ρ3 ++ [.kblk 2 [.p (.bool (decide (q < 0) && decide (q.natAbs ≠ 0))), .p (.sl (lm (dgl q.natAbs)))], .kblk 2 [.p (.bool (decide (r < 0) && decide (r.natAbs ≠ 0))), .p (.sl (lm (dgl r.natAbs)))]]) (Q := Q) (kp := zi q) (Nu.zi hqz) (hbm3' _) (i := i) (k := t) (by omega) (by omega) (rows_of hRd.wd hsz3) hw2 hqr hQ
              rw [hV3N] at hn183
              refine kc_keep' (hn183 fun g' => ?_)
              simp only [S1, S2, S3, S4, S5, r_idx, r_mks, ev, resultsV, resL, resV, vl, gt, st, sto, fgt, i64, subCV, fill, setCells, mkAgg, allP, frz, frz1, frzL, frzs, kill, kill1, killL, kills, bnd, unV, bsz, toPs, toP, isPure1, pureL, List.elem, List.replicate, Int.reduceLE, Int.reduceLT, ↓reduceIte, reduceCtorEq, Nat.reduceLT, Nat.reduceEqDiff, Nat.reduceAdd, Nat.reduceMul, Nat.reduceLeDiff, Nat.reduceBEq, w3]
              refine ih3 (addR V3 i t (-q), i + 1, _) _ ⟨by simp only []; omega, st1, ?_⟩ (by simp only []; omega) rfl
              simp only []
              rw [List.getElem?_append_left (by simp; omega)]
              exact get_self (by simp; omega)
            · obtain rfl : i = t := by omega
              simp only [S1, S2, S3, S4, S5, r_idx, r_mks, ev, resultsV, resL, resV, vl, gt, st, sto, fgt, i64, subCV, fill, setCells, mkAgg, allP, frz, frz1, frzL, frzs, kill, kill1, killL, kills, bnd, unV, bsz, toPs, toP, isPure1, pureL, List.elem, List.replicate, Int.reduceLE, Int.reduceLT, ↓reduceIte, reduceCtorEq, Nat.reduceLT, Nat.reduceEqDiff, Nat.reduceAdd, Nat.reduceMul, Nat.reduceLeDiff, Nat.reduceBEq, hin3, w1, w2]
              exact ih (V3, i + 1, u + tp a xs + 1, tl a xs, c + 1, ρ3) _ ⟨hcn', hbm3, hR.next hl2 hsp2 hup2 hlow2 hy2 hz2 htop2 hdone2 hRd⟩ (by simp only []; omega) rfl
    · -- all rows stand
      obtain rfl : t = M.length := by omega
      have n1 : ¬ (((M.length + 1 : Nat) : Int) < (M.length : Int)) := by omega
      have t1 : ((M.length : Int) == (M.length : Int)) = true := by simp
      rw [ex_loop]
      simp only [S1, S2, S3, S4, S5, r_idx, r_mks, ev, resultsV, resL, resV, vl, gt, st, sto, fgt, i64, subCV, fill, setCells, mkAgg, allP, frz, frz1, frzL, frzs, kill, kill1, killL, kills, bnd, unV, bsz, toPs, toP, isPure1, pureL, List.elem, List.replicate, Int.reduceLE, Int.reduceLT, ↓reduceIte, reduceCtorEq, Nat.reduceLT, Nat.reduceEqDiff, Nat.reduceAdd, Nat.reduceMul, Nat.reduceLeDiff, Nat.reduceBEq, n1, t1, w1]
      exact ih (V, M.length, u, l, c + 1, ρ) _ ⟨hcn', hbm, hR.skip fun i hi => Hn.en_out (by omega)⟩ (by simp only []; omega) rfl
  · obtain rfl : c = n := by omega
    simp only [S1, S2, S3, S4, S5, r_idx, r_mks, ev, resultsV, resL, resV, vl, gt, st, sto, fgt, i64, subCV, fill, setCells, mkAgg, allP, frz, frz1, frzL, frzs, kill, kill1, killL, kills, bnd, unV, bsz, toPs, toP, isPure1, pureL, List.elem, List.replicate, Int.reduceLE, Int.reduceLT, ↓reduceIte, reduceCtorEq, Nat.reduceLT, Nat.reduceEqDiff, Nat.reduceAdd, Nat.reduceMul, Nat.reduceLeDiff, Nat.reduceBEq, hcn]
    exact hQ V t u l bm ρ hR hbm

theorem p153 {b : List PV} {M : List (List Int)} {n w : Nat} {l0 : List Nat} (hML : ML b M) (hN0 : 0 < M.length) (hNm : M.length ≤ 2000000) (hw : Wd w M) (hnw : n ≤ w) (hw2 : w ≤ 2000000) (hl0 : l0.length = M.length) (hlo : ∀ k j, (en M k j).natAbs ≤ 2 ^ l0.getD k 0) (hok : okL l0.length 0 l0 = true) :
    ∃ (V : List (List Int)) (t u : Nat) (l : List Nat), RI M V w n t u l ∧ Pu rp 153 [.sl b, .int .i64 n] (.p (.sl (zm V))) := by
  obtain ⟨m, v, hrun, V, t, u, l, bm, hv, hR, hb⟩ := n153 hML hN0 hNm hw hnw hw2 hl0 hlo hok (Q := fun v τ => ∃ (V : List (List Int)) (t u : Nat) (l : List Nat) (bm : Nat), v = .own bm 0 M.length ∧ RI M V w n t u l ∧ τ[bm]? = some (.prow 1 (zm V)))
    (fun V t u l bm ρ h1 h2 => ⟨V, t, u, l, bm, rfl, h1, h2⟩)
  refine ⟨V, t, u, l, hR, m, v, hrun, ?_⟩
  rw [hv]
  exact (GL.own hb (by rw [zm_len, hR.len])).back
end Go.Proofs.Ytdieenbfdeaffaa.VRs

namespace Go.Proofs.Ytdieenbfdeaffaa.VRs
open Go Vpi
open VBn hiding rp tab rp_ok all_ok mixed sim Big
open Hn (addR swR tuR Fl en Wd Bd SpE Frm vec vm Sp shR)
set_option maxRecDepth 100000
set_option linter.unusedSimpArgs false
set_option linter.unusedVariables false

theorem rp155 : rp 155 = some f155 := rfl
theorem rp124 : rp 124 = some f124 := rfl
theorem rp83 : rp 83 = some f83 := rfl
theorem rp38 : rp 38 = some f38 := rfl

section
variable {rp : RProg} {rs : List RRes} {base : Nat} {d : Option Nat} {l : List LOp} {dr : Dr} {ks : List KI} {e : Env} {ρ : Store} {Q : CV → Store → Prop}
theorem r_bsl_own1 {a : Blk} {ws : List PV} {x : Opd} {s : Nat} (hx : vl e x = .own (ρ.length + 1) 0 ws.length) :
    ExR rp rs base (⟨d, none, none, .bslice 1 [x]⟩ :: l) dr ks e (ρ ++ [a, .prow s ws]) Q = ExR rp rs base l dr ks (sto d (.own (ρ.length + 2) 0 1) e) (ρ ++ [a, .dead, .prow 1 [.sl ws]]) Q := by
  have hl : (ρ ++ [a]).length = ρ.length + 1 := by simp
  have := r_bsl_own (rp := rp) (rs := rs) (base := base) (d := d) (l := l) (dr := dr) (ks := ks) (e := e) (Q := Q) (ρ := ρ ++ [a]) (ws := ws) (x := x) (s := s) (by rw [hl]; exact hx)
  rw [hl, List.append_assoc, List.append_assoc] at this
  exact this

theorem r_app_2 {a a2 : Blk} {sz bytes : Nat} {c : CV} {es xs : List PV} {s x : Opd} (h : GL ρ sz c es) (hc : (es.length + xs.length) * bytes ≤ 140737488355328) (hs : vl e s = c) (hx : vl e x = .own (ρ.length + 2) 0 xs.length) (hz : allSz sz xs = true) :
    ExR rp rs base (⟨d, none, none, .append sz bytes s x⟩ :: l) dr ks e (ρ ++ [a, a2, .prow sz xs]) Q = ExR rp rs base l dr ks (sto d (.own (ρ.length + 3) 0 (es.length + xs.length)) e) (nd ρ c ++ [a, a2, .prow sz xs, .prow sz (es ++ xs)]) Q := by
  have hl : (ρ ++ [a, a2]).length = ρ.length + 2 := by simp
  have := r_app (rp := rp) (rs := rs) (base := base) (d := d) (l := l) (dr := dr) (ks := ks) (e := e) (Q := Q) (s := s) (x := x) (h.left (τ := [a, a2])) hc hs (by rw [hl]; exact hx) hz
  rw [hl, nd_left h, List.append_assoc, List.append_assoc] at this
  exact this

/-- append of a value to the last block -/
theorem r_app_p {sz bytes : Nat} {zs es : List PV} {s x : Opd} (hc : (zs.length + es.length) * bytes ≤ 140737488355328) (hz : allSz sz es = true) (hs : vl e s = .own ρ.length 0 zs.length) (hx : vl e x = .p (.sl es)) :
    ExR rp rs base (⟨d, none, none, .append sz bytes s x⟩ :: l) dr ks e (ρ ++ [.prow sz zs]) Q = ExR rp rs base l dr ks (sto d (.own (ρ.length + 1) 0 (zs.length + es.length)) e) (ρ ++ [.dead, .prow sz (zs ++ es)]) Q := by
  rw [r_append]
  have h1 : content (ρ ++ [.prow sz zs]) (.own ρ.length 0 zs.length) = some zs := cont_own (s := sz) (by rw [get_app0]; rfl) rfl
  have h3 : (ρ ++ [Blk.prow sz zs])[ρ.length]? = some (.prow sz zs) := by rw [get_app0]; rfl
  simp only [ev, hs, hx, h1, cont_p]
  rw [if_pos ⟨hc, hz⟩]
  simp only [h3, if_true, push_none, Option.map_some, ke_some, List.length_set, List.length_append, List.length_cons, List.length_nil, set_app0, List.set_cons_zero, List.append_assoc, List.cons_append, List.nil_append]


theorem r_app_nil {sz bytes : Nat} {es : List PV} {s x : Opd} (hc : es.length * bytes ≤ 140737488355328) (hz : allSz sz es = true) (hs : vl e s = .nils) (hx : vl e x = .p (.sl es)) :
    ExR rp rs base (⟨d, none, none, .append sz bytes s x⟩ :: l) dr ks e ρ Q = ExR rp rs base l dr ks (sto d (.own ρ.length 0 es.length) e) (ρ ++ [.prow sz es]) Q := by
  rw [r_append]
  have h0 : (([] : List PV).length + es.length) * bytes ≤ 140737488355328 := by simpa using hc
  simp only [ev, hs, hx, cont_nils, cont_p]
  rw [if_pos ⟨h0, hz⟩]
  simp only [push_none, Option.map_some, ke_some, List.nil_append, List.length_nil, Nat.zero_add]
end

theorem zr_sz {r : List Int} : allSz 2 (zr r) = true := by
  unfold allSz zr
  rw [List.all_eq_true]
  intro x hx
  obtain ⟨y, _, rfl⟩ := List.mem_map.1 hx
  rfl


theorem NL.szs {r : List PV} {xs : List Int} (h : NL r xs) : allSz 2 r = true := by
  unfold allSz
  rw [List.all_eq_true]
  intro p hp
  obtain ⟨i, hi⟩ := List.getElem?_of_mem hp
  have hil := (List.getElem?_eq_some_iff.1 hi).1
  obtain ⟨q, x, h1, _, h3⟩ := h.ix hil
  rw [hi] at h1
  cases h1
  obtain ⟨a, b, rfl⟩ := Nu.agg h3
  rfl

/-! ### cols -/

theorem p182 {b : List PV} {m : Nat} (hb0 : 0 < b.length) (hbm : b.length ≤ 2000000) (h : ∀ i, i < b.length → ∃ r, b[i]? = some (.sl r) ∧ r.length = m) : Pu rp 182 [.sl b] (.tup [.p (.int .i64 b.length), .p (.int .i64 m), .p (.int .i64 0)]) := by
  refine pu_of rp182 ?_
  obtain ⟨r0, g1, g2⟩ := h 0 hb0
  have i0 : Int.toNat 0 = 0 := rfl
  simp only [f182, args0, S1, S2, S3, S4, S5, r_idx, r_mks, ev, resultsV, resL, resV, vl, gt, st, sto, fgt, i64, subCV, fill, setCells, mkAgg, allP, frz, frz1, frzL, frzs, kill, kill1, killL, kills, bnd, unV, bsz, toPs, toP, isPure1, pureL, List.elem, List.replicate, Int.reduceLE, Int.reduceLT, ↓reduceIte, reduceCtorEq, Nat.reduceLT, Nat.reduceEqDiff, Nat.reduceAdd, Nat.reduceMul, Nat.reduceLeDiff, Nat.reduceBEq]
  refine loop_rule (β := Nat) (fun t => ([(0, .p (.sl b)), (5, i64 t)], [])) (fun t => t ≤ b.length) (fun t => b.length - t) 0 rfl rfl (Nat.zero_le _) ?_
  intro i hi ih
  by_cases hin : (i : Int) < b.length
  · obtain ⟨r, h1, h2⟩ := h i (by omega)
    have e1 : ((r.length : Int) != (r0.length : Int)) = false := by rw [h2, g2]; simp
    have w1 : IntKind.i64.wrap ((i : Int) + 1) = ((i + 1 : Nat) : Int) := by rw [IntWalk.i64_in _ (by omega)]; omega
    simp only [S1, S2, S3, S4, S5, r_idx, r_mks, ev, resultsV, resL, resV, vl, gt, st, sto, fgt, i64, subCV, fill, setCells, mkAgg, allP, frz, frz1, frzL, frzs, kill, kill1, killL, kills, bnd, unV, bsz, toPs, toP, isPure1, pureL, List.elem, List.replicate, Int.reduceLE, Int.reduceLT, ↓reduceIte, reduceCtorEq, Nat.reduceLT, Nat.reduceEqDiff, Nat.reduceAdd, Nat.reduceMul, Nat.reduceLeDiff, Nat.reduceBEq, hin, h1, g1, i0, Int.natCast_nonneg, Int.toNat_natCast, Int.le_refl, e1, w1]
    exact ih (i + 1) _ (by omega) (by omega) rfl
  · obtain rfl : i = b.length := by omega
    have e0 : ((b.length : Int) == 0) = false := by rw [beq_eq_false_iff_ne]; omega
    simp only [S1, S2, S3, S4, S5, r_idx, r_mks, ev, resultsV, resL, resV, vl, gt, st, sto, fgt, i64, subCV, fill, setCells, mkAgg, allP, frz, frz1, frzL, frzs, kill, kill1, killL, kills, bnd, unV, bsz, toPs, toP, isPure1, pureL, List.elem, List.replicate, Int.reduceLE, Int.reduceLT, ↓reduceIte, reduceCtorEq, Nat.reduceLT, Nat.reduceEqDiff, Nat.reduceAdd, Nat.reduceMul, Nat.reduceLeDiff, Nat.reduceBEq, hin, e0, g1, i0, Int.le_refl, g2]
    exact back_t3 back1_p back1_p back1_p

theorem p182n : Pu rp 182 [.sl []] (.tup [.p (.int .i64 0), .p (.int .i64 0), .p (.int .i64 0)]) := by
  refine pu_of rp182 ?_
  have n0 : ¬ ((0 : Int) < ((0 : Nat) : Int)) := by decide
  have e0 : (((0 : Nat) : Int) == 0) = true := rfl
  simp only [f182, args0, S1, S2, S3, S4, S5, r_idx, r_mks, ev, resultsV, resL, resV, vl, gt, st, sto, fgt, i64, subCV, fill, setCells, mkAgg, allP, frz, frz1, frzL, frzs, kill, kill1, killL, kills, bnd, unV, bsz, toPs, toP, isPure1, pureL, List.elem, List.replicate, Int.reduceLE, Int.reduceLT, ↓reduceIte, reduceCtorEq, Nat.reduceLT, Nat.reduceEqDiff, Nat.reduceAdd, Nat.reduceMul, Nat.reduceLeDiff, Nat.reduceBEq]
  rw [ex_loop]
  simp only [S1, S2, S3, S4, S5, r_idx, r_mks, ev, resultsV, resL, resV, vl, gt, st, sto, fgt, i64, subCV, fill, setCells, mkAgg, allP, frz, frz1, frzL, frzs, kill, kill1, killL, kills, bnd, unV, bsz, toPs, toP, isPure1, pureL, List.elem, List.replicate, Int.reduceLE, Int.reduceLT, ↓reduceIte, reduceCtorEq, Nat.reduceLT, Nat.reduceEqDiff, Nat.reduceAdd, Nat.reduceMul, Nat.reduceLeDiff, Nat.reduceBEq, n0, e0]
  rfl

theorem p152 {b : List PV} {m : Nat} (hb0 : 0 < b.length) (hbm : b.length ≤ 2000000) (h : ∀ i, i < b.length → ∃ r, b[i]? = some (.sl r) ∧ r.length = m) : Pu rp 152 [.sl b] (.p (.int .i64 m)) := by
  refine pu_of rp152 ?_
  simp only [f152, args0, S1, S2, S3, S4, S5, r_idx, r_mks, ev, resultsV, resL, resV, vl, gt, st, sto, fgt, i64, subCV, fill, setCells, mkAgg, allP, frz, frz1, frzL, frzs, kill, kill1, killL, kills, bnd, unV, bsz, toPs, toP, isPure1, pureL, List.elem, List.replicate, Int.reduceLE, Int.reduceLT, ↓reduceIte, reduceCtorEq, Nat.reduceLT, Nat.reduceEqDiff, Nat.reduceAdd, Nat.reduceMul, Nat.reduceLeDiff, Nat.reduceBEq, kp1 (p182 hb0 hbm h)]
  rfl
theorem p152n : Pu rp 152 [.sl []] (.p (.int .i64 0)) := by
  refine pu_of rp152 ?_
  simp only [f152, args0, S1, S2, S3, S4, S5, r_idx, r_mks, ev, resultsV, resL, resV, vl, gt, st, sto, fgt, i64, subCV, fill, setCells, mkAgg, allP, frz, frz1, frzL, frzs, kill, kill1, killL, kills, bnd, unV, bsz, toPs, toP, isPure1, pureL, List.elem, List.replicate, Int.reduceLE, Int.reduceLT, ↓reduceIte, reduceCtorEq, Nat.reduceLT, Nat.reduceEqDiff, Nat.reduceAdd, Nat.reduceMul, Nat.reduceLeDiff, Nat.reduceBEq, kp1 p182n]
  rfl

theorem ML.row {b : List PV} {M : List (List Int)} {m : Nat} (h : ML b M) (hw : Wd m M) : ∀ i, i < b.length → ∃ r, b[i]? = some (.sl r) ∧ r.length = m := fun i hi => by
  obtain ⟨q, r, h1, h2, h3, _⟩ := h.ix hi
  exact ⟨q, h1, by rw [h3.1, hw i r h2]⟩

/-! ### identity -/

theorem zr_rep {n : Nat} : zr (List.replicate n 0) = List.replicate n (PV.agg [.bool false, .sl []]) := by
  unfold zr
  rw [List.map_replicate, zi_zero]

theorem p151 {n : Nat} (hn : n ≤ 2000000) : Pu rp 151 [.int .i64 n] (.p (.sl (zm (un n)))) := by
  refine pu_of rp151 ?_
  have k0 := (VBn.p66 (x := 0) (by decide) (by decide)).lift base_le
  have k1 := (VBn.p66 (x := 1) (by decide) (by decide)).lift base_le
  simp only [f151, args0, S1, S2, S3, S4, S5, r_idx, r_mks, ev, resultsV, resL, resV, vl, gt, st, sto, fgt, i64, subCV, fill, setCells, mkAgg, allP, frz, frz1, frzL, frzs, kill, kill1, killL, kills, bnd, unV, bsz, toPs, toP, isPure1, pureL, List.elem, List.replicate, Int.reduceLE, Int.reduceLT, ↓reduceIte, reduceCtorEq, Nat.reduceLT, Nat.reduceEqDiff, Nat.reduceAdd, Nat.reduceMul, Nat.reduceLeDiff, Nat.reduceBEq]
  refine loop_rule (β := Nat × Store × CV) (fun t => ([(0, i64 n), (3, t.2.2), (4, i64 t.1)], t.2.1))
    (fun t => t.1 ≤ n ∧ GL t.2.1 1 t.2.2 (zm ((un n).take t.1))) (fun t => n - t.1) ((0, [], .nils) : Nat × Store × CV) rfl rfl ⟨Nat.zero_le _, .nil⟩ ?_
  rintro ⟨i, ρ, c⟩ ⟨hi, hG⟩ ih
  simp only [] at hi hG ih ⊢
  by_cases hin : (i : Int) < n
  · have hin' : i < n := by omega
    simp only [S1, S2, S3, S4, S5, r_idx, r_mks, ev, resultsV, resL, resV, vl, gt, st, sto, fgt, i64, subCV, fill, setCells, mkAgg, allP, frz, frz1, frzL, frzs, kill, kill1, killL, kills, bnd, unV, bsz, toPs, toP, isPure1, pureL, List.elem, List.replicate, Int.reduceLE, Int.reduceLT, ↓reduceIte, reduceCtorEq, Nat.reduceLT, Nat.reduceEqDiff, Nat.reduceAdd, Nat.reduceMul, Nat.reduceLeDiff, Nat.reduceBEq, hin]
    refine loop_rule (β := Nat × Store × CV) (fun t => ([(0, i64 n), (3, c), (4, i64 i), (5, t.2.2), (6, i64 t.1)], t.2.1))
      (fun t => t.1 ≤ n ∧ GL t.2.1 1 c (zm ((un n).take i)) ∧ GL t.2.1 2 t.2.2 (zr (List.replicate t.1 0))) (fun t => n - t.1) ((0, ρ, .nils) : Nat × Store × CV) rfl rfl ⟨Nat.zero_le _, hG, .nil⟩ ?_
    rintro ⟨k, τ, cr⟩ ⟨hk, hG1, hG2⟩ ih2
    simp only [] at hk hG1 hG2 ih2 ⊢
    by_cases hkn : (k : Int) < n
    · have w1 : IntKind.i64.wrap ((k : Int) + 1) = ((k + 1 : Nat) : Int) := by rw [IntWalk.i64_in _ (by omega)]; omega
      have htl : (zr (List.replicate k 0)).length = k := by rw [zr_len, List.length_replicate]
      have hc : ((zr (List.replicate k 0)).length + [zi 0].length) * 32 ≤ 140737488355328 := by rw [htl]; simp; omega
      have hs : zr (List.replicate k 0) ++ [zi 0] = zr (List.replicate (k + 1) 0) := by rw [List.replicate_succ', zr_app]; rfl
      simp only [S1, S2, S3, S4, S5, r_idx, r_mks, ev, resultsV, resL, resV, vl, gt, st, sto, fgt, i64, subCV, fill, setCells, mkAgg, allP, frz, frz1, frzL, frzs, kill, kill1, killL, kills, bnd, unV, bsz, toPs, toP, isPure1, pureL, List.elem, List.replicate, Int.reduceLE, Int.reduceLT, ↓reduceIte, reduceCtorEq, Nat.reduceLT, Nat.reduceEqDiff, Nat.reduceAdd, Nat.reduceMul, Nat.reduceLeDiff, Nat.reduceBEq, hkn, kp1 k0, r_app hG2 hc, hs, htl, w1]
      refine ih2 (k + 1, nd τ cr ++ [.prow 2 [zi 0], .prow 2 (zr (List.replicate (k + 1) 0))], .own (τ.length + 1) 0 (k + 1)) _ ⟨by simp only []; omega, ?_, ?_⟩ (by simp only []; omega) ?_
      · exact (GL.nd hG1 (GL.ne_sz hG1 hG2 (by decide))).left
      · exact GL.new2 (by rw [zr_len, List.length_replicate]) rfl
      · rfl
    · obtain rfl : k = n := by omega
      obtain ⟨br, rfl, hbr, hbl⟩ := GL.own_of hG2 (n := k) (by rw [zr_len, List.length_replicate]) (by omega)
      rw [zr_rep] at hbr
      have hz1 : (List.replicate k (PV.agg [.bool false, .sl []]))[i]? = some (.agg [.bool false, .sl []]) := by simp [hin']
      have w1 : IntKind.i64.wrap ((i : Int) + 1) = ((i + 1 : Nat) : Int) := by rw [IntWalk.i64_in _ (by omega)]; omega
      have hne : ∀ b o m, c = .own b o m → b ≠ br := by
        rintro b o m rfl rfl
        rcases hG1 with ⟨h, _⟩ | ⟨b', h, h'⟩
        · cases h
        · cases h; rw [hbr] at h'; cases h'
      have hGs : GL (τ.set br (.prow 2 (zr (urow k i)))) 1 c (zm ((un k).take i)) := hG1.set_ne hne
      have hbs : (τ.set br (.prow 2 (zr (urow k i))))[br]? = some (.prow 2 (zr (urow k i))) := get_self hbl
      have hf : frzs (τ.set br (.prow 2 (zr (urow k i)))) [.own br 0 k] = some [.sl (zr (urow k i))] := by
        simp only [frzs, frz, frz1_own hbs (show k = (zr (urow k i)).length by rw [zr_len, urow_len]), Option.map_some]
      have hkl : kills (τ.set br (.prow 2 (zr (urow k i)))) [.own br 0 k] = τ.set br .dead := by simp only [kills, List.foldl_cons, List.foldl_nil, kill, kill1, List.set_set]
      have hGd : GL (τ.set br .dead) 1 c (zm ((un k).take i)) := hG1.set_ne hne
      have htl : (zm ((un k).take i)).length = i := by rw [zm_len, List.length_take, un_len]; omega
      have hc : ((zm ((un k).take i)).length + [PV.sl (zr (urow k i))].length) * 24 ≤ 140737488355328 := by rw [htl]; simp; omega
      have hz2 : allSz 1 [PV.sl (zr (urow k i))] = true := rfl
      have hkp : ∀ x : PV, kill τ (.p x) = τ := fun _ => rfl
      simp only [S1, S2, S3, S4, S5, r_idx, r_mks, ev, resultsV, resL, resV, vl, gt, st, sto, fgt, i64, subCV, fill, setCells, mkAgg, allP, frz, frz1, frzL, frzs, bnd, unV, bsz, toPs, toP, isPure1, pureL, List.elem, List.replicate, Int.reduceLE, Int.reduceLT, ↓reduceIte, reduceCtorEq, Nat.reduceLT, Nat.reduceEqDiff, Nat.reduceAdd, Nat.reduceMul, Nat.reduceLeDiff, Nat.reduceBEq, hkn, kp1 k1, hbr, hin', hz1, updPV_zi, urow_set hin', hkp, hf, hkl, hz2, r_app hGd hc, ← zm_suc (un_get hin'), htl, Int.natCast_nonneg, Int.toNat_natCast, w1]
      refine ih (i + 1, nd (τ.set br .dead) c ++ [.prow 1 [.sl (zr (urow k i))], .prow 1 (zm ((un k).take (i + 1)))], .own (τ.length + 1) 0 (i + 1)) _ ⟨by simp only []; omega, ?_⟩ (by simp only []; omega) ?_
      · refine .own ?_ (by rw [zm_len, List.length_take, un_len]; omega)
        simp only []
        rw [show τ.length + 1 = (nd (τ.set br Blk.dead) c).length + 1 by rw [nd_len, List.length_set], get_app]
        rfl
      · rfl
  · obtain rfl : i = n := by omega
    rw [List.take_of_length_le (by rw [un_len]; exact Nat.le_refl _)] at hG
    simp only [S1, S2, S3, S4, S5, r_idx, r_mks, ev, resultsV, resL, resV, vl, gt, st, sto, fgt, i64, subCV, fill, setCells, mkAgg, allP, frz, frz1, frzL, frzs, kill, kill1, killL, kills, bnd, unV, bsz, toPs, toP, isPure1, pureL, List.elem, List.replicate, Int.reduceLE, Int.reduceLT, ↓reduceIte, reduceCtorEq, Nat.reduceLT, Nat.reduceEqDiff, Nat.reduceAdd, Nat.reduceMul, Nat.reduceLeDiff, Nat.reduceBEq, hin]
    exact hG.back

/-! ### basis -/

theorem lead_row {V : List (List Int)} {w i : Nat} (hw : Wd w V) (hs : SzA V) (hw2 : w ≤ 2000000) (hi : i < V.length) : ∃ t : Int, Pu rp 154 [.sl (zr (V.getD i []))] (.p (.int .i64 t)) ∧ (t < 0 ↔ ∀ j, en V i j = 0) := by
  obtain ⟨h1, h2⟩ := rows_of hw hs i hi
  obtain ⟨t, k, ht⟩ := p154 (NL.zr h2) (by rw [zr_len, h1]; exact hw2)
  exact ⟨t, k, ht⟩

theorem sza_take {V : List (List Int)} {t : Nat} (h : SzA V) : SzA (V.take t) := fun i j => by
  rcases Nat.lt_or_ge i t with hi | hi
  · rw [Hn.en_congr (N := V) (by rw [List.getElem?_take, if_pos hi])]; exact h i j
  · rw [Hn.en_out (by rw [List.length_take]; omega)]; exact Sz.small (by decide)

theorem p155 {b : List PV} {M : List (List Int)} {m : Nat} {l0 : List Nat} (hML : ML b M) (hNm : M.length ≤ 2000000) (hw : Wd m M) (hm2 : m ≤ 2000000) (hl0 : l0.length = M.length) (hlo : ∀ k j, (en M k j).natAbs ≤ 2 ^ l0.getD k 0) (hok : okL l0.length 0 l0 = true) :
    ∃ H, Pu rp 155 [.sl b] (.p (.sl (zm H))) ∧ IsB m M H ∧ SzA H ∧ H.length ≤ M.length := by
  have hbN : b.length = M.length := hML.1
  rcases Nat.eq_zero_or_pos M.length with h0 | h0
  · obtain rfl : M = [] := List.length_eq_zero_iff.1 h0
    obtain rfl : b = [] := List.length_eq_zero_iff.1 hML.1
    have k153 : Pu rp 153 [.sl [], .int .i64 0] (.p (.sl [])) := by
      refine pu_of rp153 ?_
      have n0 : ¬ ((0 : Int) < 0) := by decide
      simp only [f153, args0, S1, S2, S3, S4, S5, r_idx, r_mks, ev, resultsV, resL, resV, vl, gt, st, sto, fgt, i64, subCV, fill, setCells, mkAgg, allP, frz, frz1, frzL, frzs, kill, kill1, killL, kills, bnd, unV, bsz, toPs, toP, isPure1, pureL, List.elem, List.replicate, Int.reduceLE, Int.reduceLT, ↓reduceIte, reduceCtorEq, Nat.reduceLT, Nat.reduceEqDiff, Nat.reduceAdd, Nat.reduceMul, Nat.reduceLeDiff, Nat.reduceBEq]
      refine kc_keep' (n89 Wf.nil hML (by simp) fun ρ0 cm _ hwf0 _ hG => ?_)
      simp only [S1, S2, S3, S4, S5, r_idx, r_mks, ev, resultsV, resL, resV, vl, gt, st, sto, fgt, i64, subCV, fill, setCells, mkAgg, allP, frz, frz1, frzL, frzs, kill, kill1, killL, kills, bnd, unV, bsz, toPs, toP, isPure1, pureL, List.elem, List.replicate, Int.reduceLE, Int.reduceLT, ↓reduceIte, reduceCtorEq, Nat.reduceLT, Nat.reduceEqDiff, Nat.reduceAdd, Nat.reduceMul, Nat.reduceLeDiff, Nat.reduceBEq]
      rw [ex_loop]
      simp only [S1, S2, S3, S4, S5, r_idx, r_mks, ev, resultsV, resL, resV, vl, gt, st, sto, fgt, i64, subCV, fill, setCells, mkAgg, allP, frz, frz1, frzL, frzs, kill, kill1, killL, kills, bnd, unV, bsz, toPs, toP, isPure1, pureL, List.elem, List.replicate, Int.reduceLE, Int.reduceLT, ↓reduceIte, reduceCtorEq, Nat.reduceLT, Nat.reduceEqDiff, Nat.reduceAdd, Nat.reduceMul, Nat.reduceLeDiff, Nat.reduceBEq, n0]
      exact hG.back
    refine ⟨[], ?_, ⟨[], 0, rfl, fun i r h => by simp at h, ⟨Nat.le_refl _, trivial, fun i s h => by omega, fun i s _ h => by simp at h⟩, .refl⟩, fun i j => by rw [Hn.en_out (Nat.zero_le _)]; exact Sz.small (by decide), Nat.le_refl _⟩
    refine pu_of rp155 ?_
    have n0 : ¬ ((0 : Int) < ((0 : Nat) : Int)) := by decide
    simp only [f155, args0, S1, S2, S3, S4, S5, r_idx, r_mks, ev, resultsV, resL, resV, vl, gt, st, sto, fgt, i64, subCV, fill, setCells, mkAgg, allP, frz, frz1, frzL, frzs, kill, kill1, killL, kills, bnd, unV, bsz, toPs, toP, isPure1, pureL, List.elem, List.replicate, Int.reduceLE, Int.reduceLT, ↓reduceIte, reduceCtorEq, Nat.reduceLT, Nat.reduceEqDiff, Nat.reduceAdd, Nat.reduceMul, Nat.reduceLeDiff, Nat.reduceBEq, kp1 p152n, kp2 k153]
    rw [ex_loop]
    simp only [S1, S2, S3, S4, S5, r_idx, r_mks, ev, resultsV, resL, resV, vl, gt, st, sto, fgt, i64, subCV, fill, setCells, mkAgg, allP, frz, frz1, frzL, frzs, kill, kill1, killL, kills, bnd, unV, bsz, toPs, toP, isPure1, pureL, List.elem, List.replicate, Int.reduceLE, Int.reduceLT, ↓reduceIte, reduceCtorEq, Nat.reduceLT, Nat.reduceEqDiff, Nat.reduceAdd, Nat.reduceMul, Nat.reduceLeDiff, Nat.reduceBEq, n0]
    rfl
  · obtain ⟨V, t, u, l, hR, k153⟩ := p153 (n := m) hML h0 hNm hw (Nat.le_refl _) hm2 hl0 hlo hok
    have k152 := p152 (by rw [hbN]; exact h0) (by omega) (ML.row hML hw)
    have hVN : V.length = M.length := hR.len
    have htN : t ≤ V.length := hR.frm.le
    refine ⟨V.take t, ?_, ⟨V, t, rfl, hR.wd, hR.frm, hR.sp⟩, sza_take hR.sz, by rw [List.length_take]; omega⟩
    refine pu_of rp155 ?_
    simp only [f155, args0, S1, S2, S3, S4, S5, r_idx, r_mks, ev, resultsV, resL, resV, vl, gt, st, sto, fgt, i64, subCV, fill, setCells, mkAgg, allP, frz, frz1, frzL, frzs, kill, kill1, killL, kills, bnd, unV, bsz, toPs, toP, isPure1, pureL, List.elem, List.replicate, Int.reduceLE, Int.reduceLT, ↓reduceIte, reduceCtorEq, Nat.reduceLT, Nat.reduceEqDiff, Nat.reduceAdd, Nat.reduceMul, Nat.reduceLeDiff, Nat.reduceBEq, kp1 k152, kp2 k153]
    refine loop_rule (β := Nat × Store × CV) (fun s => ([(3, .p (.sl (zm V))), (4, s.2.2), (5, i64 s.1)], s.2.1))
      (fun s => s.1 ≤ V.length ∧ GL s.2.1 1 s.2.2 (zm (V.take (min s.1 t)))) (fun s => V.length - s.1) ((0, [], .nils) : Nat × Store × CV) rfl rfl ⟨Nat.zero_le _, by simp only [Nat.zero_min, List.take_zero]; exact .nil⟩ ?_
    rintro ⟨i, ρ, c⟩ ⟨hi, hG⟩ ih
    simp only [] at hi hG ih ⊢
    by_cases hin : (i : Int) < V.length
    · have hin' : i < V.length := by omega
      obtain ⟨ld, k154, hld⟩ := lead_row hR.wd hR.sz hm2 hin'
      have hrow := zm_getD (M := V) hin'
      have w1 : IntKind.i64.wrap ((i : Int) + 1) = ((i + 1 : Nat) : Int) := by rw [IntWalk.i64_in _ (by omega)]; omega
      have hin2 : (i : Int) < ((zm V).length : Int) := by rw [zm_len]; exact hin
      rcases Nat.lt_or_ge i t with hit | hit
      · have hge : ld ≥ 0 := by
          obtain ⟨p, hp, h1, _⟩ := hR.frm.head i _ hit (Hn.getD_get hin')
          rw [← Hn.en_vec (Hn.getD_get hin')] at h1
          refine Int.not_lt.1 fun hh => ?_
          have := hld.1 hh p
          omega
        rw [Nat.min_eq_left (by omega)] at hG
        have htl : (zm (V.take i)).length = i := by rw [zm_len, List.length_take]; omega
        have hc : ((zm (V.take i)).length + [PV.sl (zr (V.getD i []))].length) * 24 ≤ 140737488355328 := by rw [htl]; simp; omega
        simp only [S1, S2, S3, S4, S5, r_idx, r_mks, ev, resultsV, resL, resV, vl, gt, st, sto, fgt, i64, subCV, fill, setCells, mkAgg, allP, frz, frz1, frzL, frzs, kill, kill1, killL, kills, bnd, unV, bsz, toPs, toP, isPure1, pureL, List.elem, List.replicate, Int.reduceLE, Int.reduceLT, ↓reduceIte, reduceCtorEq, Nat.reduceLT, Nat.reduceEqDiff, Nat.reduceAdd, Nat.reduceMul, Nat.reduceLeDiff, Nat.reduceBEq, hin2, hrow, Int.natCast_nonneg, Int.toNat_natCast, kp1 k154, hge, r_app hG hc, ← zm_suc (Hn.getD_get hin'), htl, w1]
        refine ih (i + 1, nd ρ c ++ [.prow 1 [.sl (zr (V.getD i []))], .prow 1 (zm (V.take (i + 1)))], .own (ρ.length + 1) 0 (i + 1)) _ ⟨by simp only []; omega, ?_⟩ (by simp only []; omega) ?_
        · simp only []
          rw [Nat.min_eq_left (by omega)]
          exact GL.new2 (by rw [zm_len, List.length_take]; omega) rfl
        · rfl
      · have hlt : ¬ ld ≥ 0 := by
          refine Int.not_le.2 (hld.2 fun j => ?_)
          rcases Nat.lt_or_ge j m with hj | hj
          · exact hR.low i hit j hj
          · have hl := hR.wd i _ (Hn.getD_get hin')
            rw [Hn.en_vec (Hn.getD_get hin')]
            unfold vec
            rw [List.getD_eq_getElem?_getD, List.getElem?_eq_none (by omega)]; rfl
        rw [Nat.min_eq_right hit] at hG
        simp only [S1, S2, S3, S4, S5, r_idx, r_mks, ev, resultsV, resL, resV, vl, gt, st, sto, fgt, i64, subCV, fill, setCells, mkAgg, allP, frz, frz1, frzL, frzs, kill, kill1, killL, kills, bnd, unV, bsz, toPs, toP, isPure1, pureL, List.elem, List.replicate, Int.reduceLE, Int.reduceLT, ↓reduceIte, reduceCtorEq, Nat.reduceLT, Nat.reduceEqDiff, Nat.reduceAdd, Nat.reduceMul, Nat.reduceLeDiff, Nat.reduceBEq, hin2, hrow, Int.natCast_nonneg, Int.toNat_natCast, kp1 k154, hlt, w1]
        refine ih (i + 1, ρ, c) _ ⟨by simp only []; omega, ?_⟩ (by simp only []; omega) ?_
        · simp only []
          rw [Nat.min_eq_right (by omega)]
          exact hG
        · rfl
    · obtain rfl : i = V.length := by omega
      rw [Nat.min_eq_right htN] at hG
      have hin2 : ¬ ((V.length : Int) < ((zm V).length : Int)) := by rw [zm_len]; exact hin
      simp only [S1, S2, S3, S4, S5, r_idx, r_mks, ev, resultsV, resL, resV, vl, gt, st, sto, fgt, i64, subCV, fill, setCells, mkAgg, allP, frz, frz1, frzL, frzs, kill, kill1, killL, kills, bnd, unV, bsz, toPs, toP, isPure1, pureL, List.elem, List.replicate, Int.reduceLE, Int.reduceLT, ↓reduceIte, reduceCtorEq, Nat.reduceLT, Nat.reduceEqDiff, Nat.reduceAdd, Nat.reduceMul, Nat.reduceLeDiff, Nat.reduceBEq, hin2]
      exact hG.back

/-! ### kernel -/

def wideP (b : List PV) (N : Nat) : List PV := (List.range b.length).map fun i => .sl ((match b[i]? with | some (.sl q) => q | _ => []) ++ zr (urow N i))

theorem wideP_len {b : List PV} {N : Nat} : (wideP b N).length = b.length := by simp [wideP]
theorem wideP_get {b : List PV} {N i : Nat} {q : List PV} (h : b[i]? = some (.sl q)) : (wideP b N)[i]? = some (.sl (q ++ zr (urow N i))) := by
  have hi := (List.getElem?_eq_some_iff.1 h).1
  unfold wideP
  rw [List.getElem?_map, List.getElem?_range hi, Option.map_some, h]

theorem urow_szl {n i : Nat} : SzL (urow n i) := by
  intro j x hx
  have hj := (List.getElem?_eq_some_iff.1 hx).1
  rw [urow_len] at hj
  rw [urow_get hj] at hx
  cases hx
  split
  · exact Sz.small (by decide)
  · exact Sz.small (by decide)

theorem NL.app {r s : List PV} {xs ys : List Int} (h : NL r xs) (k : NL s ys) : NL (r ++ s) (xs ++ ys) := by
  refine ⟨by rw [List.length_append, List.length_append, h.1, k.1], fun i p x hp hx => ?_⟩
  rcases Nat.lt_or_ge i r.length with hi | hi
  · rw [List.getElem?_append_left hi] at hp
    rw [List.getElem?_append_left (by rw [← h.1]; exact hi)] at hx
    exact h.2 i p x hp hx
  · rw [List.getElem?_append_right hi] at hp
    rw [List.getElem?_append_right (by rw [← h.1]; exact hi), ← h.1] at hx
    exact k.2 _ p x hp hx

theorem wideP_ml {b : List PV} {M : List (List Int)} {m : Nat} (h : ML b M) (hw : Wd m M) (hm : m + M.length ≤ 2000000) : ML (wideP b M.length) (sd M (un M.length)) := by
  refine ⟨by rw [wideP_len, sd_len un_len.symm, h.1], fun i p r hp hr => ?_⟩
  have hi := (List.getElem?_eq_some_iff.1 hp).1
  rw [wideP_len] at hi
  obtain ⟨q, s, h1, h2, h3, _⟩ := h.ix hi
  rw [wideP_get h1] at hp
  cases hp
  rw [sd_get h2 (un_get (by rw [← h.1]; exact hi))] at hr
  cases hr
  refine ⟨_, rfl, h3.app (NL.zr urow_szl), ?_⟩
  rw [List.length_append, zr_len, urow_len, h3.1, hw i s h2]; exact hm

theorem zr_take {r : List Int} {k : Nat} : (zr r).take k = zr (r.take k) := by unfold zr; rw [List.map_take]
theorem zr_drop {r : List Int} {k : Nat} : (zr r).drop k = zr (r.drop k) := by unfold zr; rw [List.map_drop]

theorem okL_mono : ∀ {n u v : Nat} {l : List Nat}, v ≤ u → okL n u l = true → okL n v l = true
  | 0, u, v, l, h, k => by simp only [okL, decide_eq_true_eq] at k ⊢; omega
  | n + 1, u, v, [], h, k => by simp only [okL, decide_eq_true_eq] at k ⊢; omega
  | n + 1, u, v, x :: xs, h, k => by
    simp only [okL, Bool.and_eq_true, decide_eq_true_eq] at k ⊢
    exact ⟨⟨by omega, k.1.2⟩, okL_mono (by omega) k.2⟩

theorem p124 {b : List PV} {M : List (List Int)} {m : Nat} {l0 : List Nat} (hML : ML b M) (hN0 : 0 < M.length) (hw : Wd m M) (hm2 : m + M.length ≤ 2000000) (hl0 : l0.length = M.length) (hlo : ∀ k j, (en (sd M (un M.length)) k j).natAbs ≤ 2 ^ l0.getD k 0) (hok : okL l0.length 0 l0 = true) :
    ∃ K H, Pu rp 124 [.sl b] (.p (.sl (zm H))) ∧ Wd M.length K ∧ IsK m M K ∧ IsB M.length K H ∧ SzA H ∧ H.length ≤ M.length := by
  have hbN : b.length = M.length := hML.1
  have hMLw := wideP_ml hML hw hm2
  have hwd := sd_wd hw (un_wd (n := M.length))
  obtain ⟨V, t, u, l, hR, k153⟩ := p153 (n := m) hMLw (by rw [sd_len un_len.symm]; exact hN0) (by rw [sd_len un_len.symm]; omega) hwd (by omega) hm2 (by rw [sd_len un_len.symm]; exact hl0) hlo hok
  have hVN : V.length = M.length := hR.len.trans (sd_len un_len.symm)
  have htN : t ≤ V.length := hR.frm.le
  have hK : Wd M.length ((uw m V).drop t) := fun i s hs => uw_wd hR.wd (t + i) s (by rw [List.getElem?_drop] at hs; exact hs)
  have eK : ∀ i j, en ((uw m V).drop t) i j = en V (t + i) (m + j) := fun i j => by
    rw [← uw_en]
    refine Hn.en_get ?_ j
    rw [List.getElem?_drop]
  have hszK : SzA ((uw m V).drop t) := fun i j => by rw [eK]; exact hR.sz _ _
  have hKl : ((uw m V).drop t).length = M.length - t := by rw [List.length_drop, uw_len, hVN]
  have hll : l.length = M.length - t := by have := hR.ll; omega
  obtain ⟨H, k155, hB, hHs, hHl⟩ := p155 (ML_zm hK (by omega) hszK) (by omega) hK (by omega) (l0 := l) (by rw [hll, hKl]) (fun k j => by rw [eK]; exact hR.lo k _) (okL_mono (Nat.zero_le _) hR.ok)
  refine ⟨(uw m V).drop t, H, ?_, hK, ?_, hB, hHs, by omega⟩
  · have k151 := p151 (n := M.length) (by omega)
    have k152 := p152 (by rw [hbN]; exact hN0) (by omega) (ML.row hML hw)
    refine pu_of rp124 ?_
    simp only [f124, args0, S1, S2, S3, S4, S5, r_idx, r_mks, ev, resultsV, resL, resV, vl, gt, st, sto, fgt, i64, subCV, fill, setCells, mkAgg, allP, frz, frz1, frzL, frzs, kill, kill1, killL, kills, bnd, unV, bsz, toPs, toP, isPure1, pureL, List.elem, List.replicate, Int.reduceLE, Int.reduceLT, ↓reduceIte, reduceCtorEq, Nat.reduceLT, Nat.reduceEqDiff, Nat.reduceAdd, Nat.reduceMul, Nat.reduceLeDiff, Nat.reduceBEq, hbN, kp1 k151]
    refine loop_rule (β := Nat × Store × CV) (fun s => ([(0, .p (.sl b)), (3, .p (.sl (zm (un M.length)))), (4, s.2.2), (5, i64 s.1)], s.2.1))
      (fun s => s.1 ≤ M.length ∧ GL s.2.1 1 s.2.2 ((wideP b M.length).take s.1)) (fun s => M.length - s.1) ((0, [], .nils) : Nat × Store × CV) rfl rfl ⟨Nat.zero_le _, by rw [List.take_zero]; exact .nil⟩ ?_
    rintro ⟨i, ρ, c⟩ ⟨hi, hG⟩ ih
    simp only [] at hi hG ih ⊢
    have hwl : (wideP b M.length).length = M.length := by rw [wideP_len, hbN]
    by_cases hin : (i : Int) < M.length
    · have hin' : i < M.length := by omega
      obtain ⟨q, s, h1, h2, h3, h4⟩ := hML.ix (i := i) (by omega)
      have hq := wideP_get (N := M.length) h1
      have hur : (zm (un M.length))[i]? = some (.sl (zr (urow M.length i))) := zm_get (un_get hin')
      have w1 : IntKind.i64.wrap ((i : Int) + 1) = ((i + 1 : Nat) : Int) := by rw [IntWalk.i64_in _ (by omega)]; omega
      have hql : q.length = m := by rw [h3.1, hw i s h2]
      have htl : ((wideP b M.length).take i).length = i := by rw [List.length_take]; omega
      have hc1 : q.length * 32 ≤ 140737488355328 := by omega
      have hc2 : (q.length + (zr (urow M.length i)).length) * 32 ≤ 140737488355328 := by rw [zr_len, urow_len]; omega
      have hc3 : (((wideP b M.length).take i).length + [PV.sl (q ++ zr (urow M.length i))].length) * 24 ≤ 140737488355328 := by rw [htl]; simp; omega
      have rN := fun {rp rs base d l dr ks e Q s x} => r_app_nil (rp := rp) (rs := rs) (base := base) (d := d) (l := l) (dr := dr) (ks := ks) (e := e) (ρ := ρ) (Q := Q) (s := s) (x := x) hc1 h3.szs
      have rA := fun {rp rs base d l dr ks e Q s x} => r_app_p (rp := rp) (rs := rs) (base := base) (d := d) (l := l) (dr := dr) (ks := ks) (e := e) (ρ := ρ) (Q := Q) (s := s) (x := x) hc2 (zr_sz (r := urow M.length i))
      have rC := fun {rp rs base d l dr ks e Q s x} => r_app_2 (rp := rp) (rs := rs) (base := base) (d := d) (l := l) (dr := dr) (ks := ks) (e := e) (Q := Q) (s := s) (x := x) (a := .dead) (a2 := .dead) hG hc3
      have hs1 : (wideP b M.length).take i ++ [PV.sl (q ++ zr (urow M.length i))] = (wideP b M.length).take (i + 1) := (take_suc hq).symm
      simp only [S1, S2, S3, S4, S5, r_idx, r_mks, ev, resultsV, resL, resV, vl, gt, st, sto, fgt, i64, subCV, fill, setCells, mkAgg, allP, frz, frz1, frzL, frzs, kill, kill1, killL, kills, bnd, unV, bsz, toPs, toP, isPure1, pureL, List.elem, List.replicate, Int.reduceLE, Int.reduceLT, ↓reduceIte, reduceCtorEq, Nat.reduceLT, Nat.reduceEqDiff, Nat.reduceAdd, Nat.reduceMul, Nat.reduceLeDiff, Nat.reduceBEq, hbN, hin, h1, hur, Int.natCast_nonneg, Int.toNat_natCast, rN, zr_len, urow_len, rA, ↓r_bsl_own1, rC, hs1, htl, w1]
      refine ih (i + 1, nd ρ c ++ [.dead, .dead, .prow 1 [.sl (q ++ zr (urow M.length i))], .prow 1 ((wideP b M.length).take (i + 1))], .own (ρ.length + 3) 0 (i + 1)) _ ⟨by simp only []; omega, ?_⟩ (by simp only []; omega) ?_
      · refine .own ?_ (by rw [List.length_take]; omega)
        simp only []
        rw [show ρ.length + 3 = (nd ρ c).length + 3 by rw [nd_len], get_app]
        rfl
      · rfl
    · obtain rfl : i = M.length := by omega
      rw [List.take_of_length_le (by rw [hwl]; exact Nat.le_refl _)] at hG
      have hf : frzs ρ [c, .p (.int .i64 (m : Int))] = some [.sl (wideP b M.length), .int .i64 (m : Int)] := by
        have e2 : frz ρ (.p (.int .i64 (m : Int))) = some (.int .i64 (m : Int)) := rfl
        simp only [frzs, hG.frz, e2, Option.map_some]
      simp only [S1, S2, S3, S4, S5, r_idx, r_mks, ev, resultsV, resL, resV, vl, gt, st, sto, fgt, i64, subCV, fill, setCells, mkAgg, allP, frz, frz1, frzL, frzs, kill, kill1, killL, kills, bnd, unV, bsz, toPs, toP, isPure1, pureL, List.elem, List.replicate, Int.reduceLE, Int.reduceLT, ↓reduceIte, reduceCtorEq, Nat.reduceLT, Nat.reduceEqDiff, Nat.reduceAdd, Nat.reduceMul, Nat.reduceLeDiff, Nat.reduceBEq, hbN, hin, kp1 k152]
      rw [kc_fz k153 hf]
      generalize kills ρ [c, .p (.int .i64 (m : Int))] = ρ1
      simp only [S1, S2, S3, S4, S5, r_idx, r_mks, ev, resultsV, resL, resV, vl, gt, st, sto, fgt, i64, subCV, fill, setCells, mkAgg, allP, frz, frz1, frzL, frzs, kill, kill1, killL, kills, bnd, unV, bsz, toPs, toP, isPure1, pureL, List.elem, List.replicate, Int.reduceLE, Int.reduceLT, ↓reduceIte, reduceCtorEq, Nat.reduceLT, Nat.reduceEqDiff, Nat.reduceAdd, Nat.reduceMul, Nat.reduceLeDiff, Nat.reduceBEq]
      refine loop_rule (β := Nat × Store × CV) (fun s => ([(7, i64 m), (8, .p (.sl (zm V))), (9, s.2.2), (10, i64 s.1)], s.2.1))
        (fun s => s.1 ≤ V.length ∧ GL s.2.1 1 s.2.2 (zm (((uw m V).take s.1).drop t))) (fun s => V.length - s.1) ((0, ρ1, .nils) : Nat × Store × CV) rfl rfl ⟨Nat.zero_le _, by rw [List.take_zero, List.drop_nil]; exact .nil⟩ ?_
      clear ih hf hG
      rintro ⟨i, ρ, c⟩ ⟨hi, hG⟩ ih
      simp only [] at hi hG ih ⊢
      by_cases hin : (i : Int) < V.length
      · have hin' : i < V.length := by omega
        have hrow := zm_getD (M := V) hin'
        have w1 : IntKind.i64.wrap ((i : Int) + 1) = ((i + 1 : Nat) : Int) := by rw [IntWalk.i64_in _ (by omega)]; omega
        have hin2 : (i : Int) < ((zm V).length : Int) := by rw [zm_len]; exact hin
        obtain ⟨hrl, hrs⟩ := rows_of hR.wd hR.sz i hin'
        have hlz : (zr (V.getD i [])).length = m + M.length := by rw [zr_len, hrl]
        have hml : m ≤ (zr (V.getD i [])).length := by omega
        have hml2 : m ≤ m + M.length := by omega
        have hst : SzL ((V.getD i []).take m) := fun j x hx => by
          rw [List.getElem?_take] at hx
          split at hx
          · exact hrs j x hx
          · cases hx
        obtain ⟨ld, k154, hld⟩ := p154 (NL.zr hst) (by rw [zr_len, List.length_take]; omega)
        have hld2 : ld < 0 ↔ ∀ j, j < m → en V i j = 0 := by
          rw [hld]
          constructor
          · intro h j hj
            have := h j
            rw [List.getD_eq_getElem?_getD, List.getElem?_take, if_pos hj] at this
            unfold en
            rw [List.getD_eq_getElem?_getD (l := V.getD i [])]; exact this
          · intro h j
            rw [List.getD_eq_getElem?_getD, List.getElem?_take]
            split
            · rename_i hj
              have := h j hj
              unfold en at this
              rwa [List.getD_eq_getElem?_getD (l := V.getD i [])] at this
            · rfl
        have huw : (uw m V)[i]? = some ((V.getD i []).drop m) := by unfold uw; rw [List.getElem?_map, Hn.getD_get hin']; rfl
        rcases Nat.lt_or_ge i t with hit | hit
        · have hge : ¬ ld < 0 := fun hh => by
            obtain ⟨p, hp, h1, _⟩ := hR.frm.head i _ hit (Hn.getD_get hin')
            rw [← Hn.en_vec (Hn.getD_get hin')] at h1
            have := hld2.1 hh p hp
            omega
          have hd : ∀ k, k ≤ t → ((uw m V).take k).drop t = [] := fun k hk => List.drop_eq_nil_of_le (by rw [List.length_take]; omega)
          rw [hd i (by omega)] at hG
          simp only [S1, S2, S3, S4, S5, r_idx, r_mks, ev, resultsV, resL, resV, vl, gt, st, sto, fgt, i64, subCV, fill, setCells, mkAgg, allP, frz, frz1, frzL, frzs, kill, kill1, killL, kills, bnd, unV, bsz, toPs, toP, isPure1, pureL, List.elem, List.replicate, Int.reduceLE, Int.reduceLT, ↓reduceIte, reduceCtorEq, Nat.reduceLT, Nat.reduceEqDiff, Nat.reduceAdd, Nat.reduceMul, Nat.reduceLeDiff, Nat.reduceBEq, hin2, hrow, Int.natCast_nonneg, Int.toNat_natCast, sliceV, Nat.zero_le, hml, hlz, hml2, Nat.sub_zero, zr_take, kp1 k154, hge, w1, true_or]
          refine ih (i + 1, ρ, c) _ ⟨by simp only []; omega, ?_⟩ (by simp only []; omega) ?_
          · simp only []
            rw [hd (i + 1) (by omega)]
            exact hG
          · rfl
        · have hlt : ld < 0 := hld2.2 fun j hj => hR.low i hit j hj
          have hds : ((uw m V).take (i + 1)).drop t = ((uw m V).take i).drop t ++ [(V.getD i []).drop m] := by
            rw [take_suc huw, List.drop_append_of_le_length (by rw [List.length_take, uw_len]; omega)]
          have htl : (zm (((uw m V).take i).drop t)).length = i - t := by rw [zm_len, List.length_drop, List.length_take, uw_len]; omega
          have hc : ((zm (((uw m V).take i).drop t)).length + [PV.sl (zr ((V.getD i []).drop m))].length) * 24 ≤ 140737488355328 := by rw [htl]; simp; omega
          have hzs := zr_sz (r := V.getD i [])
          have htk : (zr ((V.getD i []).drop m)).take (m + M.length - m) = zr ((V.getD i []).drop m) := List.take_of_length_le (by rw [zr_len, List.length_drop, hrl]; exact Nat.le_refl _)
          have hs1 : zm (((uw m V).take i).drop t) ++ [PV.sl (zr ((V.getD i []).drop m))] = zm (((uw m V).take (i + 1)).drop t) := by rw [hds, zm_app]; rfl
          have hit1 : i - t + 1 = i + 1 - t := by omega
          simp only [S1, S2, S3, S4, S5, r_idx, r_mks, ev, resultsV, resL, resV, vl, gt, st, sto, fgt, i64, subCV, fill, setCells, mkAgg, allP, frz, frz1, frzL, frzs, kill, kill1, killL, kills, bnd, unV, bsz, toPs, toP, isPure1, pureL, List.elem, List.replicate, Int.reduceLE, Int.reduceLT, ↓reduceIte, reduceCtorEq, Nat.reduceLT, Nat.reduceEqDiff, Nat.reduceAdd, Nat.reduceMul, Nat.reduceLeDiff, Nat.reduceBEq, hin2, hrow, Int.natCast_nonneg, Int.toNat_natCast, sliceV, Nat.zero_le, hml, hlz, hml2, hzs, Nat.sub_zero, zr_take, zr_drop, htk, kp1 k154, hlt, r_app hG hc, hs1, htl, w1, true_or, or_true]
          refine ih (i + 1, nd ρ c ++ [.prow 1 [.sl (zr ((V.getD i []).drop m))], .prow 1 (zm (((uw m V).take (i + 1)).drop t))], .own (ρ.length + 1) 0 (i - t + 1)) _ ⟨by simp only []; omega, ?_⟩ (by simp only []; omega) ?_
          · exact GL.new2 (by rw [zm_len, List.length_drop, List.length_take, uw_len]; omega) rfl
          · rfl
      · obtain rfl : i = V.length := by omega
        rw [List.take_of_length_le (by rw [uw_len]; exact Nat.le_refl _)] at hG
        have hin2 : ¬ ((V.length : Int) < ((zm V).length : Int)) := by rw [zm_len]; exact hin
        have hf : frzs ρ [c] = some [.sl (zm ((uw m V).drop t))] := by simp only [frzs, hG.frz, Option.map_some]
        simp only [S1, S2, S3, S4, S5, r_idx, r_mks, ev, resultsV, resL, resV, vl, gt, st, sto, fgt, i64, subCV, fill, setCells, mkAgg, allP, frz, frz1, frzL, frzs, kill, kill1, killL, kills, bnd, unV, bsz, toPs, toP, isPure1, pureL, List.elem, List.replicate, Int.reduceLE, Int.reduceLT, ↓reduceIte, reduceCtorEq, Nat.reduceLT, Nat.reduceEqDiff, Nat.reduceAdd, Nat.reduceMul, Nat.reduceLeDiff, Nat.reduceBEq, hin2]
        rw [kc_fz k155 hf]
        simp only [S1, S2, S3, S4, S5, r_idx, r_mks, ev, resultsV, resL, resV, vl, gt, st, sto, fgt, i64, subCV, fill, setCells, mkAgg, allP, frz, frz1, frzL, frzs, kill, kill1, killL, kills, bnd, unV, bsz, toPs, toP, isPure1, pureL, List.elem, List.replicate, Int.reduceLE, Int.reduceLT, ↓reduceIte, reduceCtorEq, Nat.reduceLT, Nat.reduceEqDiff, Nat.reduceAdd, Nat.reduceMul, Nat.reduceLeDiff, Nat.reduceBEq]
        rfl
  · intro v
    have hk := Hn.kern (m := m) (r := t) hR.sp hR.frm.hnf.ech (fun a ha p hp hp' => by
      obtain ⟨i, x, hi, rfl⟩ := Hn.mem_vm.1 ha
      rw [List.getElem?_take] at hi
      split at hi
      · rename_i hir
        obtain ⟨q, hq, hq1, hq2⟩ := hR.frm.head i x hir hi
        rcases Nat.lt_or_ge p m with h | h
        · exact h
        · have := hp' q (by omega); omega
      · cases hi) hR.frm.low v
    rw [← hk]
    have e : (uw m V).drop t = (V.drop t).map (List.drop m) := by unfold uw; rw [List.map_drop]
    rw [e]
end Go.Proofs.Ytdieenbfdeaffaa.VRs

namespace Go.Proofs.Ytdieenbfdeaffaa.VRs
open Go Vpi
open VBn hiding rp tab rp_ok all_ok mixed sim Big
open Hn (addR swR tuR Fl en Wd Bd SpE Frm vec vm Sp shR)
set_option maxRecDepth 100000
set_option linter.unusedSimpArgs false
set_option linter.unusedVariables false


theorem ok12 : ∀ N, N ≤ 12 → okL N 0 (List.replicate N 256) = true := by decide +kernel

theorem p83 {a : List PV} {xs : List Int} (h : NL a xs) (h0 : 0 < a.length) (h12 : a.length ≤ 12) (hs : Small xs) : ∃ H, Pu rp 83 [.sl (colp a)] (.p (.sl (zm H))) ∧ Ans xs H ∧ SzA H ∧ H.length ≤ xs.length := by
  have hl : xs.length = a.length := h.1.symm
  obtain ⟨K, H, k124, hw, hk, hb, hHs, hHl⟩ := p124 (l0 := List.replicate (colM xs).length 256) (colp_ml h) (by rw [colM_len]; omega) colM_wd (by rw [colM_len]; omega) (by simp) (fun k j => by
    rcases Nat.lt_or_ge k (colM xs).length with hk | hk
    · have := col_bd hs k j (Nat.zero_le _)
      rw [List.getD_eq_getElem?_getD, List.getElem?_replicate, if_pos hk]
      exact this
    · rw [Hn.en_out (by rw [sd_len un_len.symm]; exact hk)]; simp) (by rw [List.length_replicate]; exact ok12 _ (by rw [colM_len]; omega))
  rw [colM_len] at hw hb hHl
  refine ⟨H, ?_, ⟨K, hw, hk, hb⟩, hHs, hHl⟩
  refine pu_of rp83 ?_
  simp only [f83, args0, S1, S2, S3, S4, S5, r_idx, r_mks, ev, resultsV, resL, resV, vl, gt, st, sto, fgt, i64, subCV, fill, setCells, mkAgg, allP, frz, frz1, frzL, frzs, kill, kill1, killL, kills, bnd, unV, bsz, toPs, toP, isPure1, pureL, List.elem, List.replicate, Int.reduceLE, Int.reduceLT, ↓reduceIte, reduceCtorEq, Nat.reduceLT, Nat.reduceEqDiff, Nat.reduceAdd, Nat.reduceMul, Nat.reduceLeDiff, Nat.reduceBEq, kp1 k124]
  rfl

theorem colp_get {a : List PV} {i : Nat} {p : PV} (h : a[i]? = some p) : (colp a)[i]? = some (.sl [p]) := by simp [colp, h]
theorem colp_len {a : List PV} : (colp a).length = a.length := by simp [colp]

theorem p38' {a : List PV} {xs : List Int} {R : CV} (h : NL a xs) (hm : a.length ≤ 12) (hbad : ¬ Small xs → R = .tup [.p (.sl []), .p (.int .i64 40)]) (hnil : Small xs → a.length = 0 → R = .tup [.p (.sl []), .p (.int .i64 41)])
    (hok : Small xs → 0 < a.length → ∃ v, Pu rp 83 [.sl (colp a)] (.p v) ∧ R = .tup [.p v, .p (.int .i64 0)]) : Pu rp 38 [.sl a] R := by
  refine pu_of rp38 ?_
  have t1 : ¬ ((a.length : Int) > 12) := by omega
  simp only [f38, args0, S1, S2, S3, S4, S5, r_idx, r_mks, ev, resultsV, resL, resV, vl, gt, st, sto, fgt, i64, subCV, fill, setCells, mkAgg, allP, frz, frz1, frzL, frzs, kill, kill1, killL, kills, bnd, unV, bsz, toPs, toP, isPure1, pureL, List.elem, List.replicate, Int.reduceLE, Int.reduceLT, ↓reduceIte, reduceCtorEq, Nat.reduceLT, Nat.reduceEqDiff, Nat.reduceAdd, Nat.reduceMul, Nat.reduceLeDiff, Nat.reduceBEq, t1]
  refine loop_rule (β := Nat × Store × CV) (fun t => ([(0, .p (.sl a)), (4, t.2.2), (5, i64 t.1)], t.2.1))
    (fun t => t.1 ≤ a.length ∧ (∀ j x, j < t.1 → xs[j]? = some x → bl x.natAbs ≤ 256) ∧ GL t.2.1 1 t.2.2 ((colp a).take t.1)) (fun t => a.length - t.1) ((0, [], .nils) : Nat × Store × CV) rfl rfl ⟨Nat.zero_le _, fun j x hj => absurd hj (Nat.not_lt_zero _), by rw [List.take_zero]; exact .nil⟩ ?_
  rintro ⟨i, ρ, c⟩ ⟨hi, hsm, hG⟩ ih
  simp only [] at hi hsm hG ih ⊢
  by_cases hin : (i : Int) < a.length
  · have hin' : i < a.length := by omega
    obtain ⟨p, x, p1, p2, p3⟩ := h.ix hin'
    have hbl : ∃ s l, p = .agg [.bool s, .sl (lm l)] ∧ Lim l ∧ l.length ≤ CapN ∧ bl (val l) = bl x.natAbs := by
      obtain ⟨s, l, hp, hl, hn, hx⟩ := p3
      exact ⟨s, l, hp, hl, hn, by rw [hx, iv_abs]⟩
    obtain ⟨s, l, rfl, hl, hn, hbx⟩ := hbl
    rw [CapN_eq] at hn
    have k82 := (VBn.p82 hl (by omega)).lift base_le
    rw [hbx] at k82
    by_cases hgt : 256 < bl x.natAbs
    · have hg : ((bl x.natAbs : Nat) : Int) > 256 := by omega
      simp only [S1, S2, S3, S4, S5, r_idx, r_mks, ev, resultsV, resL, resV, vl, gt, st, sto, fgt, i64, subCV, fill, setCells, mkAgg, allP, frz, frz1, frzL, frzs, kill, kill1, killL, kills, bnd, unV, bsz, toPs, toP, isPure1, pureL, List.elem, List.replicate, Int.reduceLE, Int.reduceLT, ↓reduceIte, reduceCtorEq, Nat.reduceLT, Nat.reduceEqDiff, Nat.reduceAdd, Nat.reduceMul, Nat.reduceLeDiff, Nat.reduceBEq, hin, p1, Int.natCast_nonneg, Int.toNat_natCast, kp1 k82, hg]
      rw [hbad fun hs => by have := hs i x p2; omega]
      rfl
    · have hg : ¬ ((bl x.natAbs : Nat) : Int) > 256 := by omega
      have w1 : IntKind.i64.wrap ((i : Int) + 1) = ((i + 1 : Nat) : Int) := by rw [IntWalk.i64_in _ (by omega)]; omega
      have htl : ((colp a).take i).length = i := by rw [List.length_take, colp_len]; omega
      have hc : (((colp a).take i).length + [PV.sl [PV.agg [.bool s, .sl (lm l)]]].length) * 24 ≤ 140737488355328 := by rw [htl]; simp; omega
      have hs1 : (colp a).take i ++ [PV.sl [PV.agg [.bool s, .sl (lm l)]]] = (colp a).take (i + 1) := (take_suc (colp_get p1)).symm
      have rB := fun {rs base d ll dr ks e Q x} => r_bsl_own (rp := rp) (rs := rs) (base := base) (d := d) (l := ll) (dr := dr) (ks := ks) (e := e) (Q := Q) (ρ := ρ) (ws := [PV.agg [.bool s, .sl (lm l)]]) (x := x) (s := 2)
      have rC := fun {rp rs base d l dr ks e Q s x} => r_app_1 (rp := rp) (rs := rs) (base := base) (d := d) (l := l) (dr := dr) (ks := ks) (e := e) (Q := Q) (s := s) (x := x) (a := .dead) hG hc
      have hf : frzs (ρ ++ [Blk.prow 2 [.agg [.bool s, .sl (lm l)]]]) [.own ρ.length 0 1] = some [.sl [.agg [.bool s, .sl (lm l)]]] := by
        simp only [frzs, frz, frz1_own (n := 1) (show (ρ ++ [Blk.prow 2 [.agg [.bool s, .sl (lm l)]]])[ρ.length]? = some (.prow 2 [.agg [.bool s, .sl (lm l)]]) by rw [get_app0]; rfl) rfl, Option.map_some]
      have hkp : ∀ x : PV, kills ρ [.p x] = ρ := fun _ => rfl
      have hkl : kills (ρ ++ [Blk.prow 2 [.agg [.bool s, .sl (lm l)]]]) [.own ρ.length 0 1] = ρ ++ [Blk.dead] := by simp only [kills, List.foldl_cons, List.foldl_nil, kill, kill1, set_app0, List.set_cons_zero]
      simp only [S1, S2, S3, S4, S5, r_idx, r_mks, ev, resultsV, resL, resV, vl, gt, st, sto, fgt, i64, subCV, fill, setCells, mkAgg, allP, frz, frz1, frzL, frzs, bnd, unV, bsz, toPs, toP, isPure1, pureL, List.elem, List.replicate, Int.reduceLE, Int.reduceLT, ↓reduceIte, reduceCtorEq, Nat.reduceLT, Nat.reduceEqDiff, Nat.reduceAdd, Nat.reduceMul, Nat.reduceLeDiff, Nat.reduceBEq, hin, p1, Int.natCast_nonneg, Int.toNat_natCast, kp1 k82, hg, ↓rB, hf, hkp, hkl, rC, hs1, htl, w1]
      refine ih (i + 1, nd ρ c ++ [.dead, .prow 1 [.sl [.agg [.bool s, .sl (lm l)]]], .prow 1 ((colp a).take (i + 1))], .own (ρ.length + 2) 0 (i + 1)) _ ⟨by simp only []; omega, fun j y hj hy => ?_, ?_⟩ (by simp only []; omega) ?_
      · simp only [] at hj
        rcases Nat.lt_or_ge j i with hji | hji
        · exact hsm j y hji hy
        · obtain rfl : j = i := by omega
          rw [p2] at hy
          cases hy
          omega
      · refine .own ?_ (by rw [List.length_take, colp_len]; omega)
        simp only []
        rw [show ρ.length + 2 = (nd ρ c).length + 2 by rw [nd_len], get_app]
        rfl
      · rfl
  · obtain rfl : i = a.length := by omega
    have hs : Small xs := fun j x hx => hsm j x (by have := (List.getElem?_eq_some_iff.1 hx).1; rw [h.1]; exact this) hx
    rw [List.take_of_length_le (by rw [colp_len]; exact Nat.le_refl _)] at hG
    rcases Nat.eq_zero_or_pos a.length with h0 | h0
    · have e0 : ((a.length : Int) == 0) = true := by rw [h0]; rfl
      simp only [S1, S2, S3, S4, S5, r_idx, r_mks, ev, resultsV, resL, resV, vl, gt, st, sto, fgt, i64, subCV, fill, setCells, mkAgg, allP, frz, frz1, frzL, frzs, kill, kill1, killL, kills, bnd, unV, bsz, toPs, toP, isPure1, pureL, List.elem, List.replicate, Int.reduceLE, Int.reduceLT, ↓reduceIte, reduceCtorEq, Nat.reduceLT, Nat.reduceEqDiff, Nat.reduceAdd, Nat.reduceMul, Nat.reduceLeDiff, Nat.reduceBEq, hin, e0]
      rw [hnil hs h0]
      rfl
    · have e0 : ((a.length : Int) == 0) = false := by rw [beq_eq_false_iff_ne]; omega
      obtain ⟨v, k83, rfl⟩ := hok hs h0
      have hf : frzs ρ [c] = some [.sl (colp a)] := by simp only [frzs, hG.frz, Option.map_some]
      simp only [S1, S2, S3, S4, S5, r_idx, r_mks, ev, resultsV, resL, resV, vl, gt, st, sto, fgt, i64, subCV, fill, setCells, mkAgg, allP, frz, frz1, frzL, frzs, kill, kill1, killL, kills, bnd, unV, bsz, toPs, toP, isPure1, pureL, List.elem, List.replicate, Int.reduceLE, Int.reduceLT, ↓reduceIte, reduceCtorEq, Nat.reduceLT, Nat.reduceEqDiff, Nat.reduceAdd, Nat.reduceMul, Nat.reduceLeDiff, Nat.reduceBEq, hin, e0]
      rw [kc_fz k83 hf]
      simp only [S1, S2, S3, S4, S5, r_idx, r_mks, ev, resultsV, resL, resV, vl, gt, st, sto, fgt, i64, subCV, fill, setCells, mkAgg, allP, frz, frz1, frzL, frzs, kill, kill1, killL, kills, bnd, unV, bsz, toPs, toP, isPure1, pureL, List.elem, List.replicate, Int.reduceLE, Int.reduceLT, ↓reduceIte, reduceCtorEq, Nat.reduceLT, Nat.reduceEqDiff, Nat.reduceAdd, Nat.reduceMul, Nat.reduceLeDiff, Nat.reduceBEq]
      exact back_t2 back1_p back1_p

open Classical in
/-- the reference's Space, all cases -/
theorem p38 {a : List PV} {xs : List Int} (h : NL a xs) (hm : a.length ≤ 2000000) :
    (12 < a.length ∨ ¬ Small xs → Pu rp 38 [.sl a] (.tup [.p (.sl []), .p (.int .i64 40)])) ∧ (a.length = 0 → Pu rp 38 [.sl a] (.tup [.p (.sl []), .p (.int .i64 41)])) ∧
    (0 < a.length → a.length ≤ 12 → Small xs → ∃ H, Pu rp 38 [.sl a] (.tup [.p (.sl (zm H)), .p (.int .i64 0)]) ∧ Ans xs H ∧ SzA H ∧ H.length ≤ xs.length) := by
  refine ⟨fun hbad => ?_, fun h0 => ?_, fun h0 h12 hs => ?_⟩
  · by_cases h12 : 12 < a.length
    · refine pu_of rp38 ?_
      have t1 : ((a.length : Int) > 12) := by omega
      simp only [f38, args0, S1, S2, S3, S4, S5, r_idx, r_mks, ev, resultsV, resL, resV, vl, gt, st, sto, fgt, i64, subCV, fill, setCells, mkAgg, allP, frz, frz1, frzL, frzs, kill, kill1, killL, kills, bnd, unV, bsz, toPs, toP, isPure1, pureL, List.elem, List.replicate, Int.reduceLE, Int.reduceLT, ↓reduceIte, reduceCtorEq, Nat.reduceLT, Nat.reduceEqDiff, Nat.reduceAdd, Nat.reduceMul, Nat.reduceLeDiff, Nat.reduceBEq, t1]
      rfl
    · have hns := hbad.resolve_left h12
      exact p38' h (by omega) (fun _ => rfl) (fun hs => absurd hs hns) (fun hs => absurd hs hns)
  · have hs : Small xs := fun i x hx => by
      have := (List.getElem?_eq_some_iff.1 hx).1
      have h2 := h.1
      omega
    exact p38' h (by omega) (fun hns => absurd hs hns) (fun _ _ => rfl) (fun _ h1 => by omega)
  · obtain ⟨H, k83, hA⟩ := p83 h h0 h12 hs
    exact ⟨H, p38' h h12 (fun hns => absurd hs hns) (fun _ h1 => by omega) (fun _ _ => ⟨_, k83, rfl⟩), hA⟩
end Go.Proofs.Ytdieenbfdeaffaa.VRs

namespace Go.Proofs.Ytdieenbfdeaffaa.VRs
open Go Vpi
open VBn hiding rp tab rp_ok all_ok mixed sim Big
open Hn (addR swR tuR Fl en Wd Bd SpE Frm vec vm Sp shR)
set_option maxRecDepth 100000
set_option linter.unusedSimpArgs false
set_option linter.unusedVariables false

theorem rp125 : rp 125 = some f125 := rfl
theorem rp84 : rp 84 = some f84 := rfl
theorem rp39 : rp 39 = some f39 := rfl
theorem rp9 : rp 9 = some f9 := rfl

theorem p125 {s : Bool} {l : List Nat} (hl : l.length ≤ 1000000000000) : Pu rp 125 [.agg [.bool s, .sl (lm l)], .agg [.bool s, .sl (lm l)]] (.p (.bool true)) := by
  refine pu_of rp125 ?_
  simp only [f125, args0, S1, S2, S3, S4, S5, r_idx, r_mks, ev, resultsV, resL, resV, vl, gt, st, sto, fgt, i64, subCV, fill, setCells, mkAgg, allP, frz, frz1, frzL, frzs, kill, kill1, killL, kills, bnd, unV, bsz, toPs, toP, isPure1, pureL, List.elem, List.replicate, Int.reduceLE, Int.reduceLT, ↓reduceIte, reduceCtorEq, Nat.reduceLT, Nat.reduceEqDiff, Nat.reduceAdd, Nat.reduceMul, Nat.reduceLeDiff, Nat.reduceBEq, lm_len, bne_self_eq_false, Bool.not_true]
  refine loop_rule (β := Nat) (fun t => ([(2, .ptr 0 0 0), (3, .ptr 1 0 0), (5, i64 t)], [.kblk 2 [.p (.bool s), .p (.sl (lm l))], .kblk 2 [.p (.bool s), .p (.sl (lm l))]])) (fun t => t ≤ l.length) (fun t => l.length - t) 0 rfl rfl (Nat.zero_le _) ?_
  intro i hi ih
  by_cases hin : (i : Int) < l.length
  · have hin' : i < l.length := by omega
    have w1 : IntKind.i64.wrap ((i : Int) + 1) = ((i + 1 : Nat) : Int) := by rw [IntWalk.i64_in _ (by omega)]; omega
    simp only [S1, S2, S3, S4, S5, r_idx, r_mks, ev, resultsV, resL, resV, vl, gt, st, sto, fgt, i64, subCV, fill, setCells, mkAgg, allP, frz, frz1, frzL, frzs, kill, kill1, killL, kills, bnd, unV, bsz, toPs, toP, isPure1, pureL, List.elem, List.replicate, Int.reduceLE, Int.reduceLT, ↓reduceIte, reduceCtorEq, Nat.reduceLT, Nat.reduceEqDiff, Nat.reduceAdd, Nat.reduceMul, Nat.reduceLeDiff, Nat.reduceBEq, lm_len, hin, lm_get hin', Int.natCast_nonneg, Int.toNat_natCast, bne_self_eq_false, w1]
    exact ih (i + 1) _ (by omega) (by omega) rfl
  · simp only [S1, S2, S3, S4, S5, r_idx, r_mks, ev, resultsV, resL, resV, vl, gt, st, sto, fgt, i64, subCV, fill, setCells, mkAgg, allP, frz, frz1, frzL, frzs, kill, kill1, killL, kills, bnd, unV, bsz, toPs, toP, isPure1, pureL, List.elem, List.replicate, Int.reduceLE, Int.reduceLT, ↓reduceIte, reduceCtorEq, Nat.reduceLT, Nat.reduceEqDiff, Nat.reduceAdd, Nat.reduceMul, Nat.reduceLeDiff, Nat.reduceBEq, lm_len, hin]
    rfl

theorem p84 {r : List Int} (hr : r.length ≤ 2000000) (hs : SzL r) : Pu rp 84 [.sl (zr r), .sl (zr r)] (.p (.bool true)) := by
  refine pu_of rp84 ?_
  simp only [f84, args0, S1, S2, S3, S4, S5, r_idx, r_mks, ev, resultsV, resL, resV, vl, gt, st, sto, fgt, i64, subCV, fill, setCells, mkAgg, allP, frz, frz1, frzL, frzs, kill, kill1, killL, kills, bnd, unV, bsz, toPs, toP, isPure1, pureL, List.elem, List.replicate, Int.reduceLE, Int.reduceLT, ↓reduceIte, reduceCtorEq, Nat.reduceLT, Nat.reduceEqDiff, Nat.reduceAdd, Nat.reduceMul, Nat.reduceLeDiff, Nat.reduceBEq, bne_self_eq_false, zr_len]
  refine loop_rule (β := Nat) (fun t => ([(0, .p (.sl (zr r))), (1, .p (.sl (zr r))), (5, i64 t)], [])) (fun t => t ≤ r.length) (fun t => r.length - t) 0 rfl rfl (Nat.zero_le _) ?_
  intro i hi ih
  by_cases hin : (i : Int) < r.length
  · have hin' : i < r.length := by omega
    have w1 : IntKind.i64.wrap ((i : Int) + 1) = ((i + 1 : Nat) : Int) := by rw [IntWalk.i64_in _ (by omega)]; omega
    have hri : r[i]? = some r[i] := by simp
    have hg := zr_get hri
    have hz : Sz r[i] := hs i _ hri
    have k68 := (VBn.p68' (Nu.zi hz)).lift base_le
    have hdl : (dgl r[i].natAbs).length ≤ 1000000000000 := by
      obtain ⟨s', l', he, _, hn, _⟩ := Nu.zi hz
      have := congrArg (fun p => match p with | .agg [_, .sl q] => q.length | _ => 0) he
      simp only [zi, mk] at this
      rw [CapN_eq] at hn
      rw [lm_len, lm_len] at this
      omega
    have k125 := p125 (s := decide (r[i] < 0) && decide (r[i].natAbs ≠ 0)) hdl
    have k125 : Pu rp 125 [zi r[i], zi r[i]] (.p (.bool true)) := k125
    simp only [S1, S2, S3, S4, S5, r_idx, r_mks, ev, resultsV, resL, resV, vl, gt, st, sto, fgt, i64, subCV, fill, setCells, mkAgg, allP, frz, frz1, frzL, frzs, kill, kill1, killL, kills, bnd, unV, bsz, toPs, toP, isPure1, pureL, List.elem, List.replicate, Int.reduceLE, Int.reduceLT, ↓reduceIte, reduceCtorEq, Nat.reduceLT, Nat.reduceEqDiff, Nat.reduceAdd, Nat.reduceMul, Nat.reduceLeDiff, Nat.reduceBEq, zr_len, hin, hg, Int.natCast_nonneg, Int.toNat_natCast, subPV_zi, kp1 k68, kp2 k125, Bool.not_true, w1]
    exact ih (i + 1) _ (by omega) (by omega) rfl
  · simp only [S1, S2, S3, S4, S5, r_idx, r_mks, ev, resultsV, resL, resV, vl, gt, st, sto, fgt, i64, subCV, fill, setCells, mkAgg, allP, frz, frz1, frzL, frzs, kill, kill1, killL, kills, bnd, unV, bsz, toPs, toP, isPure1, pureL, List.elem, List.replicate, Int.reduceLE, Int.reduceLT, ↓reduceIte, reduceCtorEq, Nat.reduceLT, Nat.reduceEqDiff, Nat.reduceAdd, Nat.reduceMul, Nat.reduceLeDiff, Nat.reduceBEq, zr_len, hin]
    rfl

theorem p39 {M : List (List Int)} (hM : M.length ≤ 2000000) (h : ∀ (i : Nat) (r : List Int), M[i]? = some r → r.length ≤ 2000000 ∧ SzL r) : Pu rp 39 [.sl (zm M), .sl (zm M)] (.p (.bool true)) := by
  refine pu_of rp39 ?_
  simp only [f39, args0, S1, S2, S3, S4, S5, r_idx, r_mks, ev, resultsV, resL, resV, vl, gt, st, sto, fgt, i64, subCV, fill, setCells, mkAgg, allP, frz, frz1, frzL, frzs, kill, kill1, killL, kills, bnd, unV, bsz, toPs, toP, isPure1, pureL, List.elem, List.replicate, Int.reduceLE, Int.reduceLT, ↓reduceIte, reduceCtorEq, Nat.reduceLT, Nat.reduceEqDiff, Nat.reduceAdd, Nat.reduceMul, Nat.reduceLeDiff, Nat.reduceBEq, bne_self_eq_false, zm_len]
  refine loop_rule (β := Nat) (fun t => ([(0, .p (.sl (zm M))), (1, .p (.sl (zm M))), (5, i64 t)], [])) (fun t => t ≤ M.length) (fun t => M.length - t) 0 rfl rfl (Nat.zero_le _) ?_
  intro i hi ih
  by_cases hin : (i : Int) < M.length
  · have hin' : i < M.length := by omega
    have w1 : IntKind.i64.wrap ((i : Int) + 1) = ((i + 1 : Nat) : Int) := by rw [IntWalk.i64_in _ (by omega)]; omega
    have hri : M[i]? = some M[i] := by simp
    have hg := zm_get hri
    have k84 := p84 (h i _ hri).1 (h i _ hri).2
    simp only [S1, S2, S3, S4, S5, r_idx, r_mks, ev, resultsV, resL, resV, vl, gt, st, sto, fgt, i64, subCV, fill, setCells, mkAgg, allP, frz, frz1, frzL, frzs, kill, kill1, killL, kills, bnd, unV, bsz, toPs, toP, isPure1, pureL, List.elem, List.replicate, Int.reduceLE, Int.reduceLT, ↓reduceIte, reduceCtorEq, Nat.reduceLT, Nat.reduceEqDiff, Nat.reduceAdd, Nat.reduceMul, Nat.reduceLeDiff, Nat.reduceBEq, zm_len, hin, hg, Int.natCast_nonneg, Int.toNat_natCast, kp2 k84, Bool.not_true, w1]
    exact ih (i + 1) _ (by omega) (by omega) rfl
  · simp only [S1, S2, S3, S4, S5, r_idx, r_mks, ev, resultsV, resL, resV, vl, gt, st, sto, fgt, i64, subCV, fill, setCells, mkAgg, allP, frz, frz1, frzL, frzs, kill, kill1, killL, kills, bnd, unV, bsz, toPs, toP, isPure1, pureL, List.elem, List.replicate, Int.reduceLE, Int.reduceLT, ↓reduceIte, reduceCtorEq, Nat.reduceLT, Nat.reduceEqDiff, Nat.reduceAdd, Nat.reduceMul, Nat.reduceLeDiff, Nat.reduceBEq, zm_len, hin]
    rfl

def isTrue : Option (CV × Store) → Bool
  | some (.p (.bool b), _) => b
  | _ => false

theorem runs40 : isTrue (runF rp 1000 40 [] []) = true := by kernel_rfl

theorem isTrue_eq {x : Option (CV × Store)} (h : isTrue x = true) : ∃ ρ, x = some (.p (.bool true), ρ) := by
  unfold isTrue at h
  split at h
  · subst h; exact ⟨_, rfl⟩
  · cases h

theorem p40 : Pu rp 40 [] (.p (.bool true)) := by
  obtain ⟨ρ, h⟩ := isTrue_eq runs40
  exact ⟨1000, _, h, rfl⟩

/-! ### the law -/

theorem Ans.wd {xs : List Int} {H : List (List Int)} (h : Ans xs H) : Wd xs.length H := by
  obtain ⟨K, _, _, L, r, rfl, hw, _⟩ := h
  intro i s hs
  rw [List.getElem?_take] at hs
  split at hs
  · exact hw i s hs
  · cases hs

theorem p39z {M : List (List Int)} {n : Nat} (hM : M.length ≤ 2000000) (hn : n ≤ 2000000) (hw : Wd n M) (hs : SzA M) : Pu rp 39 [.sl (zm M), .sl (zm M)] (.p (.bool true)) :=
  p39 hM fun i r hr => by
    refine ⟨by rw [hw i r hr]; exact hn, szl_of fun j => ?_⟩
    have := hs i j
    unfold en at this
    rwa [show M.getD i [] = r by rw [List.getD_eq_getElem?_getD, hr]; rfl] at this

open Classical in
theorem p9 {a : List PV} {xs : List Int} (h : NL a xs) (hm : a.length ≤ 2000000) : Pu rp 9 [.sl a] (.p (.bool true)) := by
  obtain ⟨a1, a2, a3⟩ := p37 h hm
  obtain ⟨b1, b2, b3⟩ := p38 h hm
  have key : ∃ v c, Pu rp 37 [.sl a] (.tup [.p v, .p (.int .i64 c)]) ∧ Pu rp 38 [.sl a] (.tup [.p v, .p (.int .i64 c)]) ∧ Pu rp 39 [v, v] (.p (.bool true)) := by
    have n39 : Pu rp 39 [.sl [], .sl []] (.p (.bool true)) := p39 (M := []) (Nat.zero_le _) fun i r hr => by simp at hr
    by_cases hbad : 12 < a.length ∨ ¬ Small xs
    · exact ⟨_, _, a1 hbad, b1 hbad, n39⟩
    · have h12 : a.length ≤ 12 := Nat.not_lt.1 fun hh => hbad (.inl hh)
      have hs : Small xs := Classical.byContradiction fun hh => hbad (.inr hh)
      rcases Nat.eq_zero_or_pos a.length with h0 | h0
      · exact ⟨_, _, a2 h0, b2 h0, n39⟩
      · obtain ⟨H, g1, g2⟩ := a3 h0 h12 hs
        obtain ⟨H', g3, g4, g5, g6⟩ := b3 h0 h12 hs
        obtain rfl := g2.one g4
        have hl : xs.length = a.length := h.1.symm
        exact ⟨_, _, g1, g3, p39z (by omega) (n := xs.length) (by omega) g2.wd g5⟩
  obtain ⟨v, c, k37, k38, k39⟩ := key
  refine pu_of rp9 ?_
  simp only [f9, args0, S1, S2, S3, S4, S5, r_idx, r_mks, ev, resultsV, resL, resV, vl, gt, st, sto, fgt, i64, subCV, fill, setCells, mkAgg, allP, frz, frz1, frzL, frzs, kill, kill1, killL, kills, bnd, unV, bsz, toPs, toP, isPure1, pureL, List.elem, List.replicate, Int.reduceLE, Int.reduceLT, ↓reduceIte, reduceCtorEq, Nat.reduceLT, Nat.reduceEqDiff, Nat.reduceAdd, Nat.reduceMul, Nat.reduceLeDiff, Nat.reduceBEq, kp1 k37, kp1 k38, kp2 k39, beq_self_eq_true, kp0 p40]
  rfl
end Go.Proofs.Ytdieenbfdeaffaa.VRs

namespace Go.Proofs.Ytdieenbfdeaffaa.VRs
open Go Vpi
open VBn hiding rp tab rp_ok all_ok mixed sim Big
set_option maxRecDepth 100000
set_option linter.unusedSimpArgs false
set_option linter.unusedVariables false

theorem num_of {L n : Nat} {qs : List PV} (hL : L ≤ 1048576) (h : shpB Try.prog L (n + 3) 53 qs) : ∃ x, Nu (.agg qs) x := by
  obtain ⟨a, r, rfl, ha, c, r, rfl, hc, rfl⟩ := shpB_struct Try.underlying53 h
  obtain ⟨s, rfl⟩ := shpB_bool Try.underlying4 ha
  obtain ⟨us, rfl, hl, hu⟩ := shpB_slice Try.underlying51 hc
  have hlm : ∃ l : List Nat, us = lm l ∧ Lim l := by
    clear hl ha hc h
    induction us with
    | nil => exact ⟨[], rfl, fun x hx => by cases hx⟩
    | cons u us ih =>
      obtain ⟨l, rfl, h2⟩ := ih fun y hy => hu y (List.mem_cons_of_mem _ hy)
      obtain ⟨q, rfl, hq⟩ := hu u (List.mem_cons_self ..)
      obtain ⟨i, rfl, hw⟩ := shpB_int Try.underlying115 hq
      have hw2 : (0 : Int) ≤ i ∧ i ≤ 4294967295 := by
        simp only [Lit.wf, Bool.and_eq_true, decide_eq_true_eq] at hw
        exact hw
      refine ⟨i.toNat :: l, ?_, ?_⟩
      · have : ofCells (isSt Try.prog 115) [PV.int .u32 i] = .int .u32 i := by
          have e : isSt Try.prog 115 = false := by unfold isSt; rw [Try.underlying115]
          rw [e]; rfl
        rw [this, lm_cons, Int.toNat_of_nonneg hw2.1]
      · intro x hx
        rcases List.mem_cons.1 hx with rfl | hx
        · unfold LB; omega
        · exact h2 x hx
  obtain ⟨l, rfl, hlim⟩ := hlm
  rw [lm_len] at hl
  refine ⟨iv s l, s, l, ?_, hlim, ?_, rfl⟩
  · simp
  · rw [CapN_eq]; omega

theorem nl_of : ∀ {a : List PV}, (∀ p ∈ a, ∃ x, Nu p x) → ∃ xs, NL a xs
  | [], _ => ⟨[], rfl, fun i p x hp => by simp at hp⟩
  | p :: a, h => by
    obtain ⟨x, hx⟩ := h p (List.mem_cons_self ..)
    obtain ⟨xs, h1, h2⟩ := nl_of (a := a) fun q hq => h q (List.mem_cons_of_mem _ hq)
    refine ⟨x :: xs, by simp [h1], fun i q y hq hy => ?_⟩
    cases i with
    | zero => simp at hq hy; subst hq hy; exact hx
    | succ i => simp at hq hy; exact h2 i q y hq hy

theorem row9 (q : PV) (w : shpB Try.prog 1048576 8 59 [q]) : Pu rp 9 [q] (.p (.bool true)) := by
  obtain ⟨a, hq, hl, ha⟩ := shpB_slice Try.underlying59 w
  cases hq
  obtain ⟨xs, hx⟩ := nl_of (a := a) fun p hp => by
    obtain ⟨qs, k1, k2⟩ := ha p hp
    obtain ⟨x, hx⟩ := num_of (Nat.le_refl _) k2
    have e2 : ofCells (isSt Try.prog 53) qs = .agg qs := by
      have e : isSt Try.prog 53 = true := by unfold isSt; rw [Try.underlying53]
      rw [e]; rfl
    rw [e2] at k1
    exact ⟨x, by rw [k1]; exact hx⟩
  exact p9 hx (by omega)
end Go.Proofs.Ytdieenbfdeaffaa.VRs

namespace Go.Proofs.Ytdieenbfdeaffaa.Rbulk
open Go
set_option linter.unusedVariables false

theorem one_le {H : Type} (d : DataW H) : 1 ≤ Rows.uptoBulk d := by
  cases d with
  | lit l => cases l <;> simp [Rows.uptoBulk]
  | _ => simp [Rows.uptoBulk]

theorem part_le {H : Type} {d : DataW H} {l : List (DataW H)} (h : d ∈ l) : Rows.uptoBulk d ≤ Rows.uptoBulkAll l := by
  induction l with
  | nil => cases h
  | cons x r ih =>
    simp only [Rows.uptoBulkAll]
    rcases List.mem_cons.1 h with rfl | h
    · omega
    · have := ih h; omega

theorem length_le {H : Type} (l : List (DataW H)) : l.length ≤ Rows.uptoBulkAll l := by
  induction l with
  | nil => simp [Rows.uptoBulkAll]
  | cons x r ih => have := one_le x; simp only [Rows.uptoBulkAll, List.length_cons]; omega

theorem mus {H : Type} (es sp : List (DataW H)) : es.length ≤ Rows.uptoBulk (.slice es sp) ∧ ∀ d ∈ es, Rows.uptoBulk d ≤ Rows.uptoBulk (.slice es sp) := by
  have h1 := length_le es
  simp only [Rows.uptoBulk]
  refine ⟨by omega, fun d hd => ?_⟩
  have := part_le hd
  omega

theorem mua {H : Type} (ps : List (DataW H)) : ∀ d ∈ ps, Rows.uptoBulk d ≤ Rows.uptoBulk (.agg ps) := by
  intro d hd
  have := part_le hd
  simp only [Rows.uptoBulk]
  omega

/-- each argument's bulk -/
theorem each {H : Type} {l : List (DataW H)} (hk : Rows.uptoSmall H l = true) {d : DataW H} (h : d ∈ l) : Rows.uptoBulk d ≤ 1048576 :=
  Nat.le_trans (part_le h) (of_decide_eq_true hk)
end Go.Proofs.Ytdieenbfdeaffaa.Rbulk
