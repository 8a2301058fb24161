/- Shapes; gso.built; gso.Valid; The reference's frame. No condition. -/
import Derived.Test.YtdieenbfdeaffaaZb2

namespace Go.Proofs.Ytdieenbfdeaffaa.VBn
open Go Vpi
set_option maxRecDepth 100000
set_option linter.unusedSimpArgs false
set_option linter.unusedVariables false

theorem rp80 : rp 80 = some f80 := rfl
theorem rp93 : rp 93 = some f93 := rfl
theorem rp137 : rp 137 = some f137 := rfl
theorem rp142 : rp 142 = some f142 := rfl

/-- a matrix: its rows' lengths, its numbers -/
def MR (b : List PV) (n : Nat → Nat) (X : Nat → Nat → Int) : Prop := ∀ i, i < b.length → ∃ r, b[i]? = some (.sl r) ∧ r.length = n i ∧ n i ≤ 2000000 ∧ NuR r (X i)

def mxR (f : Nat → Nat) : Nat → Nat
  | 0 => 0
  | n + 1 => max (mxR f n) (f n)

theorem mxR_le {f : Nat → Nat} {K : Nat} : ∀ {n : Nat}, mxR f n ≤ K ↔ ∀ i, i < n → f i ≤ K
  | 0 => by simp [mxR]
  | n + 1 => by
    rw [mxR, Nat.max_le, mxR_le]
    constructor
    · rintro ⟨h1, h2⟩ i hi
      rcases Nat.lt_or_ge i n with h | h
      · exact h1 i h
      · obtain rfl : i = n := by omega
        exact h2
    · intro h
      exact ⟨fun i hi => h i (by omega), h n (by omega)⟩

theorem LB_pow2 {n : Nat} : LB ^ n = 2 ^ (32 * n) := by rw [Nat.pow_mul]; rfl

theorem bl_bound {p : PV} {x : Int} (h : Nu p x) : bl x.natAbs ≤ 3200000000000 := by
  have hs := h.sz
  unfold Sz at hs
  by_cases h0 : x.natAbs = 0
  · rw [h0, bl_zero]; omega
  · have h1 := (bl_spec h0).1
    rw [LB_pow2] at hs
    have h2 := (Nat.pow_lt_pow_iff_right (a := 2) (by decide)).1 (Nat.lt_of_le_of_lt h1 hs)
    have := CapN_eq
    omega

def bm (n : Nat → Nat) (X : Nat → Nat → Int) : Nat → Nat := mxR fun i => mxR (fun j => bl (X i j).natAbs) (n i)

section
variable {b : List PV} {n : Nat → Nat} {X : Nat → Nat → Int}

theorem max_int {a c : Nat} : (if (c : Int) > (a : Int) then (c : Int) else (a : Int)) = ((max a c : Nat) : Int) := by
  split <;> omega

theorem p80 (hb : MR b n X) (hlb : b.length ≤ 2000000) : Pu rp 80 [.sl b] (.p (.int .i64 (bm n X b.length : Nat))) := by
  refine pu_of rp80 ?_
  have hbm : ∀ i, i ≤ b.length → bm n X i ≤ 3200000000000 := fun i hi => mxR_le.2 fun k hk => mxR_le.2 fun j hj => by
    obtain ⟨r, -, hl, -, hr⟩ := hb k (by omega)
    obtain ⟨p, -, hp⟩ := hr j (by omega)
    exact bl_bound hp
  simp only [f80, args0, S1, S2, S3, S4, S5, r_idx, r_mks, ev, resultsV, resL, resV, vl, gt, st, sto, fgt, i64, subCV, fill, setCells, mkAgg, allP, frz, frz1, frzL, frzs, kill, kill1, killL, kills, bnd, unV, bsz, toPs, toP, isPure1, pureL, List.elem, List.replicate, Int.reduceLE, Int.reduceLT, ↓reduceIte, reduceCtorEq, Nat.reduceLT, Nat.reduceEqDiff, Nat.reduceAdd, Nat.reduceMul, Nat.reduceLeDiff, Nat.reduceBEq]
  refine loop_rule (β := Nat × Store) (fun t => ([(3, i64 (bm n X t.1 : Nat)), (8, .p (.sl b)), (9, i64 b.length), (10, i64 t.1)], t.2))
    (fun t => t.1 ≤ b.length) (fun t => b.length - t.1) ((0, []) : Nat × Store) rfl rfl (Nat.zero_le _) ?_
  rintro ⟨i, σ⟩ hi ih
  simp only [] at hi ih ⊢
  by_cases hin : (i : Int) < b.length
  · have hib : i < b.length := by omega
    obtain ⟨r, hr, hrl, hrn, hrx⟩ := hb i hib
    simp only [S1, S2, S3, S4, S5, r_idx, r_mks, ev, resultsV, resL, resV, vl, gt, st, sto, fgt, i64, subCV, fill, setCells, mkAgg, allP, frz, frz1, frzL, frzs, kill, kill1, killL, kills, bnd, unV, bsz, toPs, toP, isPure1, pureL, List.elem, List.replicate, Int.reduceLE, Int.reduceLT, ↓reduceIte, reduceCtorEq, Nat.reduceLT, Nat.reduceEqDiff, Nat.reduceAdd, Nat.reduceMul, Nat.reduceLeDiff, Nat.reduceBEq, hin, hr, Int.natCast_nonneg, Int.toNat_natCast]
    refine loop_rule (β := Nat × Store) (fun t => ([(3, i64 ((max (bm n X i) (mxR (fun j => bl (X i j).natAbs) t.1) : Nat) : Int)), (8, .p (.sl b)), (9, i64 b.length), (10, i64 i), (14, .p (.sl r)), (15, i64 r.length), (16, i64 t.1)], t.2))
      (fun t => t.1 ≤ r.length) (fun t => r.length - t.1) ((0, σ) : Nat × Store) (by simp only [mxR, Nat.max_zero]; rfl) rfl (Nat.zero_le _) ?_
    rintro ⟨j, τ⟩ hj ih2
    simp only [] at hj ih2 ⊢
    by_cases hjn : (j : Int) < r.length
    · obtain ⟨p, hp, hpx⟩ := hrx j (by omega)
      have k121 := p121 hpx
      obtain ⟨n1, l1, rfl, -⟩ := hpx
      have hw : IntKind.i64.wrap ((j : Int) + 1) = ((j + 1 : Nat) : Int) := by rw [IntWalk.i64_in _ (by omega)]; omega
      simp only [S1, S2, S3, S4, S5, r_idx, r_mks, ev, resultsV, resL, resV, vl, gt, st, sto, fgt, i64, subCV, fill, setCells, mkAgg, allP, frz, frz1, frzL, frzs, kill, kill1, killL, kills, bnd, unV, bsz, toPs, toP, isPure1, pureL, List.elem, List.replicate, Int.reduceLE, Int.reduceLT, ↓reduceIte, reduceCtorEq, Nat.reduceLT, Nat.reduceEqDiff, Nat.reduceAdd, Nat.reduceMul, Nat.reduceLeDiff, Nat.reduceBEq, hjn, hp, Int.natCast_nonneg, Int.toNat_natCast, kp1 k121, max_int, hw, Nat.max_assoc]
      refine ih2 (j + 1, τ ++ [.kblk 2 [.p (.bool n1), .p (.sl (lm l1))]]) _ (by simp only []; omega) (by simp only []; omega) ?_
      rfl
    · obtain rfl : j = r.length := by omega
      have hw : IntKind.i64.wrap ((i : Int) + 1) = ((i + 1 : Nat) : Int) := by rw [IntWalk.i64_in _ (by omega)]; omega
      simp only [S1, S2, S3, S4, S5, r_idx, r_mks, ev, resultsV, resL, resV, vl, gt, st, sto, fgt, i64, subCV, fill, setCells, mkAgg, allP, frz, frz1, frzL, frzs, kill, kill1, killL, kills, bnd, unV, bsz, toPs, toP, isPure1, pureL, List.elem, List.replicate, Int.reduceLE, Int.reduceLT, ↓reduceIte, reduceCtorEq, Nat.reduceLT, Nat.reduceEqDiff, Nat.reduceAdd, Nat.reduceMul, Nat.reduceLeDiff, Nat.reduceBEq, hjn, hw]
      refine ih (i + 1, τ) _ (by simp only []; omega) (by simp only []; omega) ?_
      rw [show bm n X (i + 1) = max (bm n X i) (mxR (fun j => bl (X i j).natAbs) r.length) by rw [hrl]; rfl]
      rfl
  · obtain rfl : i = b.length := by omega
    simp only [S1, S2, S3, S4, S5, r_idx, r_mks, ev, resultsV, resL, resV, vl, gt, st, sto, fgt, i64, subCV, fill, setCells, mkAgg, allP, frz, frz1, frzL, frzs, kill, kill1, killL, kills, bnd, unV, bsz, toPs, toP, isPure1, pureL, List.elem, List.replicate, Int.reduceLE, Int.reduceLT, ↓reduceIte, reduceCtorEq, Nat.reduceLT, Nat.reduceEqDiff, Nat.reduceAdd, Nat.reduceMul, Nat.reduceLeDiff, Nat.reduceBEq, hin]
    rfl

/-- is a row's length not the first one's? -/
def Uneven (n : Nat → Nat) (m : Nat) : Prop := ∃ i, i < m ∧ n i ≠ n 0

theorem p93 (hb : MR b n X) (h0 : b.length ≠ 0) (hlb : b.length ≤ 2000000) :
    (Uneven n b.length → Pu rp 93 [.sl b] (.tup [.p (.int .i64 0), .p (.int .i64 0), .p (.int .i64 8)])) ∧
    (¬ Uneven n b.length → Pu rp 93 [.sl b] (.tup [.p (.int .i64 b.length), .p (.int .i64 (n 0 : Nat)), .p (.int .i64 0)])) := by
  have e : ((b.length : Int) == 0) = false := by rw [beq_eq_false_iff_ne]; omega
  obtain ⟨r0, hr0, hl0, hn0, -⟩ := hb 0 (by omega)
  have key : ∀ R : CV, (Uneven n b.length → R = .tup [.p (.int .i64 0), .p (.int .i64 0), .p (.int .i64 8)]) → (¬ Uneven n b.length → R = .tup [.p (.int .i64 b.length), .p (.int .i64 (n 0 : Nat)), .p (.int .i64 0)]) → Pu rp 93 [.sl b] R := by
    intro R h1 h2
    refine pu_of rp93 ?_
    simp only [f93, args0, S1, S2, S3, S4, S5, r_idx, r_mks, ev, resultsV, resL, resV, vl, gt, st, sto, fgt, i64, subCV, fill, setCells, mkAgg, allP, frz, frz1, frzL, frzs, kill, kill1, killL, kills, bnd, unV, bsz, toPs, toP, isPure1, pureL, List.elem, List.replicate, Int.reduceLE, Int.reduceLT, ↓reduceIte, reduceCtorEq, Nat.reduceLT, Nat.reduceEqDiff, Nat.reduceAdd, Nat.reduceMul, Nat.reduceLeDiff, Nat.reduceBEq, e]
    refine loop_rule (β := Nat) (fun t => ([(0, .p (.sl b)), (10, .p (.sl b)), (11, i64 b.length), (12, i64 t)], []))
      (fun t => t ≤ b.length ∧ ∀ k, k < t → n k = n 0) (fun t => b.length - t) 0 rfl rfl ⟨Nat.zero_le _, fun k hk => by omega⟩ ?_
    rintro i ⟨hi, hev⟩ ih
    simp only [] at hi hev ih ⊢
    by_cases hin : (i : Int) < b.length
    · obtain ⟨r, hr, hrl, hrn, -⟩ := hb i (by omega)
      have i0 : Int.toNat 0 = 0 := rfl
      by_cases hne : n i = n 0
      · have e1 : ((r.length : Int) != (r0.length : Int)) = false := by rw [hrl, hl0, hne]; simp
        have hw : IntKind.i64.wrap ((i : Int) + 1) = ((i + 1 : Nat) : Int) := by rw [IntWalk.i64_in _ (by omega)]; omega
        simp only [S1, S2, S3, S4, S5, r_idx, r_mks, ev, resultsV, resL, resV, vl, gt, st, sto, fgt, i64, subCV, fill, setCells, mkAgg, allP, frz, frz1, frzL, frzs, kill, kill1, killL, kills, bnd, unV, bsz, toPs, toP, isPure1, pureL, List.elem, List.replicate, Int.reduceLE, Int.reduceLT, ↓reduceIte, reduceCtorEq, Nat.reduceLT, Nat.reduceEqDiff, Nat.reduceAdd, Nat.reduceMul, Nat.reduceLeDiff, Nat.reduceBEq, hin, hr, i0, hr0, Int.natCast_nonneg, Int.toNat_natCast, e1, hw]
        refine ih (i + 1) _ ⟨by omega, fun k hk => ?_⟩ (by omega) ?_
        · rcases Nat.lt_or_ge k i with h | h
          · exact hev k h
          · obtain rfl : k = i := by omega
            exact hne
        · rfl
      · have e1 : ((r.length : Int) != (r0.length : Int)) = true := by rw [hrl, hl0]; simp; omega
        simp only [S1, S2, S3, S4, S5, r_idx, r_mks, ev, resultsV, resL, resV, vl, gt, st, sto, fgt, i64, subCV, fill, setCells, mkAgg, allP, frz, frz1, frzL, frzs, kill, kill1, killL, kills, bnd, unV, bsz, toPs, toP, isPure1, pureL, List.elem, List.replicate, Int.reduceLE, Int.reduceLT, ↓reduceIte, reduceCtorEq, Nat.reduceLT, Nat.reduceEqDiff, Nat.reduceAdd, Nat.reduceMul, Nat.reduceLeDiff, Nat.reduceBEq, hin, hr, i0, hr0, Int.natCast_nonneg, Int.toNat_natCast, e1]
        rw [h1 ⟨i, by omega, hne⟩]
        exact back_t3 back1_p back1_p back1_p
    · obtain rfl : i = b.length := by omega
      have i0 : Int.toNat 0 = 0 := rfl
      simp only [S1, S2, S3, S4, S5, r_idx, r_mks, ev, resultsV, resL, resV, vl, gt, st, sto, fgt, i64, subCV, fill, setCells, mkAgg, allP, frz, frz1, frzL, frzs, kill, kill1, killL, kills, bnd, unV, bsz, toPs, toP, isPure1, pureL, List.elem, List.replicate, Int.reduceLE, Int.reduceLT, ↓reduceIte, reduceCtorEq, Nat.reduceLT, Nat.reduceEqDiff, Nat.reduceAdd, Nat.reduceMul, Nat.reduceLeDiff, Nat.reduceBEq, hin, hr0, i0]
      rw [h2 (fun ⟨k, hk, hk2⟩ => hk2 (hev k hk)), hl0]
      exact back_t3 back1_p back1_p back1_p
  exact ⟨fun h => key _ (fun _ => rfl) (fun h2 => absurd h h2), fun h => key _ (fun h2 => absurd h2 h) (fun _ => rfl)⟩

/-- too big -/
def Big (n : Nat → Nat) (X : Nat → Nat → Int) (m : Nat) : Prop := 12 < m ∨ (∃ i, i < m ∧ 12 < n i) ∨ ∃ i j, i < m ∧ j < n i ∧ 256 < bl (X i j).natAbs

open Classical in
/-- what is wrong with a shape -/
noncomputable def shE (n : Nat → Nat) (X : Nat → Nat → Int) (m : Nat) : Int := if Big n X m then 40 else if m = 0 then 41 else if Uneven n m then 8 else 0

theorem bm_gt {m : Nat} : 256 < bm n X m ↔ ∃ i j, i < m ∧ j < n i ∧ 256 < bl (X i j).natAbs := by
  rw [← Nat.not_le]
  unfold bm
  rw [mxR_le]
  constructor
  · intro h
    refine Classical.byContradiction fun hc => h fun i hi => mxR_le.2 fun j hj => ?_
    exact Nat.not_lt.1 fun hlt => hc ⟨i, j, hi, hj, hlt⟩
  · rintro ⟨i, j, hi, hj, hlt⟩ h
    have := mxR_le.1 (h i hi) j hj
    omega

theorem p137 (hb : MR b n X) (hlb : b.length ≤ 2000000) : Pu rp 137 [.sl b, .bool true] (.p (.int .i64 (shE n X b.length))) := by
  refine pu_of rp137 ?_
  have w80 := p80 hb hlb
  have hbn : bm n X b.length ≤ 3200000000000 := mxR_le.2 fun k hk => mxR_le.2 fun j hj => by
    obtain ⟨r, -, hl, -, hr⟩ := hb k (by omega)
    obtain ⟨p, -, hp⟩ := hr j (by omega)
    exact bl_bound hp
  have tail : ∀ (B : Bool), (B = true ↔ 12 < b.length ∨ 256 < bm n X b.length) → ∀ (e : Env) (σ : Store), fgt [0, 5, 22, 23, 24] e = [(0, .p (.sl b)), (5, .p (.bool B)), (22, .p (.sl b)), (23, i64 b.length), (24, i64 0)] → True := fun _ _ _ _ _ => trivial
  have fin : ∀ (c1 : Bool), (c1 = true ↔ Big n X b.length) → (c1 = true → shE n X b.length = 40) ∧ (c1 = false → b.length = 0 → shE n X b.length = 41) ∧ (c1 = false → b.length ≠ 0 → Uneven n b.length → shE n X b.length = 8) ∧ (c1 = false → b.length ≠ 0 → ¬ Uneven n b.length → shE n X b.length = 0) := by
    intro c1 h1
    unfold shE
    refine ⟨fun h => if_pos (h1.1 h), fun h h0 => ?_, fun h h0 hu => ?_, fun h h0 hu => ?_⟩
    all_goals
      rw [if_neg (fun hB => by rw [h1.2 hB] at h; cases h)]
    · rw [if_pos h0]
    · rw [if_neg h0, if_pos hu]
    · rw [if_neg h0, if_neg hu]
  have hstart : ∃ B : Bool, (B = true ↔ 12 < b.length ∨ 256 < bm n X b.length) ∧ ((b.length : Int) > 12 ∧ B = true ∨ ¬ (b.length : Int) > 12 ∧ B = decide (((bm n X b.length : Nat) : Int) > 256)) := by
    by_cases h : (b.length : Int) > 12
    · exact ⟨true, by simp; omega, .inl ⟨h, rfl⟩⟩
    · refine ⟨decide (((bm n X b.length : Nat) : Int) > 256), ?_, .inr ⟨h, rfl⟩⟩
      rw [decide_eq_true_eq]; omega
  obtain ⟨B, hB, hB2⟩ := hstart
  rcases hB2 with ⟨hgt, hBe⟩ | ⟨hgt, hBe⟩
  all_goals
    simp only [f137, args0, S1, S2, S3, S4, S5, r_idx, r_mks, ev, resultsV, resL, resV, vl, gt, st, sto, fgt, i64, subCV, fill, setCells, mkAgg, allP, frz, frz1, frzL, frzs, kill, kill1, killL, kills, bnd, unV, bsz, toPs, toP, isPure1, pureL, List.elem, List.replicate, Int.reduceLE, Int.reduceLT, ↓reduceIte, reduceCtorEq, Nat.reduceLT, Nat.reduceEqDiff, Nat.reduceAdd, Nat.reduceMul, Nat.reduceLeDiff, Nat.reduceBEq, hgt, kp1 w80]
    refine loop_rule (β := Nat × Bool) (fun t => ([(0, .p (.sl b)), (5, .p (.bool t.2)), (22, .p (.sl b)), (23, i64 b.length), (24, i64 t.1)], []))
      (fun t => t.1 ≤ b.length ∧ (t.2 = true ↔ B = true ∨ ∃ k, k < t.1 ∧ 12 < n k)) (fun t => b.length - t.1)
      ((0, B) : Nat × Bool) (by simp only [hBe]; rfl) rfl ⟨Nat.zero_le _, by simp⟩ ?_
    rintro ⟨i, C⟩ ⟨hi, hC⟩ ih
    simp only [] at hi hC ih ⊢
    by_cases hin : (i : Int) < b.length
    · obtain ⟨r, hr, hrl, hrn, -⟩ := hb i (by omega)
      have hw : IntKind.i64.wrap ((i : Int) + 1) = ((i + 1 : Nat) : Int) := by rw [IntWalk.i64_in _ (by omega)]; omega
      cases C with
      | true =>
        simp only [S1, S2, S3, S4, S5, r_idx, r_mks, ev, resultsV, resL, resV, vl, gt, st, sto, fgt, i64, subCV, fill, setCells, mkAgg, allP, frz, frz1, frzL, frzs, kill, kill1, killL, kills, bnd, unV, bsz, toPs, toP, isPure1, pureL, List.elem, List.replicate, Int.reduceLE, Int.reduceLT, ↓reduceIte, reduceCtorEq, Nat.reduceLT, Nat.reduceEqDiff, Nat.reduceAdd, Nat.reduceMul, Nat.reduceLeDiff, Nat.reduceBEq, hin, hr, Int.natCast_nonneg, Int.toNat_natCast, hw]
        refine ih (i + 1, true) _ ⟨by simp only []; omega, ?_⟩ (by simp only []; omega) ?_
        · simp only [true_iff]
          rcases hC.1 rfl with h | ⟨k, h1, h2⟩
          · exact .inl h
          · exact .inr ⟨k, by omega, h2⟩
        · rfl
      | false =>
        simp only [S1, S2, S3, S4, S5, r_idx, r_mks, ev, resultsV, resL, resV, vl, gt, st, sto, fgt, i64, subCV, fill, setCells, mkAgg, allP, frz, frz1, frzL, frzs, kill, kill1, killL, kills, bnd, unV, bsz, toPs, toP, isPure1, pureL, List.elem, List.replicate, Int.reduceLE, Int.reduceLT, ↓reduceIte, reduceCtorEq, Nat.reduceLT, Nat.reduceEqDiff, Nat.reduceAdd, Nat.reduceMul, Nat.reduceLeDiff, Nat.reduceBEq, hin, hr, Int.natCast_nonneg, Int.toNat_natCast, hw]
        refine ih (i + 1, decide ((r.length : Int) > 12)) _ ⟨by simp only []; omega, ?_⟩ (by simp only []; omega) ?_
        · simp only [decide_eq_true_eq, hrl]
          constructor
          · intro h; exact .inr ⟨i, by omega, by omega⟩
          · rintro (h | ⟨k, h1, h2⟩)
            · exact absurd (hC.2 (.inl h)) (by simp)
            · rcases Nat.lt_or_ge k i with h3 | h3
              · exact absurd (hC.2 (.inr ⟨k, h3, h2⟩)) (by simp)
              · obtain rfl : k = i := by omega
                omega
        · rfl
    · obtain rfl : i = b.length := by omega
      have hCB : C = true ↔ Big n X b.length := by
        rw [hC, hB, bm_gt]
        unfold Big
        constructor
        · rintro ((h | h) | h)
          · exact .inl h
          · exact .inr (.inr h)
          · exact .inr (.inl h)
        · rintro (h | h | h)
          · exact .inl (.inl h)
          · exact .inr h
          · exact .inl (.inr h)
      obtain ⟨f1, f2, f3, f4⟩ := fin C hCB
      cases C with
      | true =>
        simp only [S1, S2, S3, S4, S5, r_idx, r_mks, ev, resultsV, resL, resV, vl, gt, st, sto, fgt, i64, subCV, fill, setCells, mkAgg, allP, frz, frz1, frzL, frzs, kill, kill1, killL, kills, bnd, unV, bsz, toPs, toP, isPure1, pureL, List.elem, List.replicate, Int.reduceLE, Int.reduceLT, ↓reduceIte, reduceCtorEq, Nat.reduceLT, Nat.reduceEqDiff, Nat.reduceAdd, Nat.reduceMul, Nat.reduceLeDiff, Nat.reduceBEq, hin]
        rw [f1 rfl]; rfl
      | false =>
        by_cases h0 : b.length = 0
        · have e0 : ((b.length : Int) == 0) = true := by rw [h0]; rfl
          simp only [S1, S2, S3, S4, S5, r_idx, r_mks, ev, resultsV, resL, resV, vl, gt, st, sto, fgt, i64, subCV, fill, setCells, mkAgg, allP, frz, frz1, frzL, frzs, kill, kill1, killL, kills, bnd, unV, bsz, toPs, toP, isPure1, pureL, List.elem, List.replicate, Int.reduceLE, Int.reduceLT, ↓reduceIte, reduceCtorEq, Nat.reduceLT, Nat.reduceEqDiff, Nat.reduceAdd, Nat.reduceMul, Nat.reduceLeDiff, Nat.reduceBEq, hin, e0]
          rw [f2 rfl h0]; rfl
        · have e0 : ((b.length : Int) == 0) = false := by rw [beq_eq_false_iff_ne]; omega
          obtain ⟨s1, s2⟩ := p93 hb h0 hlb
          by_cases hu : Uneven n b.length
          · simp only [S1, S2, S3, S4, S5, r_idx, r_mks, ev, resultsV, resL, resV, vl, gt, st, sto, fgt, i64, subCV, fill, setCells, mkAgg, allP, frz, frz1, frzL, frzs, kill, kill1, killL, kills, bnd, unV, bsz, toPs, toP, isPure1, pureL, List.elem, List.replicate, Int.reduceLE, Int.reduceLT, ↓reduceIte, reduceCtorEq, Nat.reduceLT, Nat.reduceEqDiff, Nat.reduceAdd, Nat.reduceMul, Nat.reduceLeDiff, Nat.reduceBEq, hin, e0, kp1 (s1 hu)]
            rw [f3 rfl h0 hu]; rfl
          · simp only [S1, S2, S3, S4, S5, r_idx, r_mks, ev, resultsV, resL, resV, vl, gt, st, sto, fgt, i64, subCV, fill, setCells, mkAgg, allP, frz, frz1, frzL, frzs, kill, kill1, killL, kills, bnd, unV, bsz, toPs, toP, isPure1, pureL, List.elem, List.replicate, Int.reduceLE, Int.reduceLT, ↓reduceIte, reduceCtorEq, Nat.reduceLT, Nat.reduceEqDiff, Nat.reduceAdd, Nat.reduceMul, Nat.reduceLeDiff, Nat.reduceBEq, hin, e0, kp1 (s2 hu)]
            rw [f4 rfl h0 hu]; rfl

theorem p142 (hb : MR b n X) (hlb : b.length ≤ 2000000) : Pu rp 142 [.sl b, .bool true] (.p (.int .i64 (shE n X b.length))) := by
  refine pu_of rp142 ?_
  by_cases hgt : (b.length : Int) > 12
  · simp only [f142, args0, S1, S2, S3, S4, S5, r_idx, r_mks, ev, resultsV, resL, resV, vl, gt, st, sto, fgt, i64, subCV, fill, setCells, mkAgg, allP, frz, frz1, frzL, frzs, kill, kill1, killL, kills, bnd, unV, bsz, toPs, toP, isPure1, pureL, List.elem, List.replicate, Int.reduceLE, Int.reduceLT, ↓reduceIte, reduceCtorEq, Nat.reduceLT, Nat.reduceEqDiff, Nat.reduceAdd, Nat.reduceMul, Nat.reduceLeDiff, Nat.reduceBEq, hgt]
    rw [shE, if_pos (.inl (by omega))]; rfl
  simp only [f142, args0, S1, S2, S3, S4, S5, r_idx, r_mks, ev, resultsV, resL, resV, vl, gt, st, sto, fgt, i64, subCV, fill, setCells, mkAgg, allP, frz, frz1, frzL, frzs, kill, kill1, killL, kills, bnd, unV, bsz, toPs, toP, isPure1, pureL, List.elem, List.replicate, Int.reduceLE, Int.reduceLT, ↓reduceIte, reduceCtorEq, Nat.reduceLT, Nat.reduceEqDiff, Nat.reduceAdd, Nat.reduceMul, Nat.reduceLeDiff, Nat.reduceBEq, hgt]
  refine loop_rule (β := Nat) (fun t => ([(0, .p (.sl b)), (1, .p (.bool true)), (5, i64 t)], []))
    (fun t => t ≤ b.length ∧ ∀ k, k < t → n k ≤ 12 ∧ ∀ j, j < n k → bl (X k j).natAbs ≤ 256) (fun t => b.length - t) 0 rfl rfl ⟨Nat.zero_le _, fun k hk => by omega⟩ ?_
  rintro i ⟨hi, hok⟩ ih
  simp only [] at hi hok ih ⊢
  by_cases hin : (i : Int) < b.length
  · obtain ⟨r, hr, hrl, hrn, hrx⟩ := hb i (by omega)
    have hw : IntKind.i64.wrap ((i : Int) + 1) = ((i + 1 : Nat) : Int) := by rw [IntWalk.i64_in _ (by omega)]; omega
    by_cases h12 : (r.length : Int) > 12
    · simp only [S1, S2, S3, S4, S5, r_idx, r_mks, ev, resultsV, resL, resV, vl, gt, st, sto, fgt, i64, subCV, fill, setCells, mkAgg, allP, frz, frz1, frzL, frzs, kill, kill1, killL, kills, bnd, unV, bsz, toPs, toP, isPure1, pureL, List.elem, List.replicate, Int.reduceLE, Int.reduceLT, ↓reduceIte, reduceCtorEq, Nat.reduceLT, Nat.reduceEqDiff, Nat.reduceAdd, Nat.reduceMul, Nat.reduceLeDiff, Nat.reduceBEq, hin, hr, Int.natCast_nonneg, Int.toNat_natCast, h12]
      rw [shE, if_pos (.inr (.inl ⟨i, by omega, by omega⟩))]; rfl
    · simp only [S1, S2, S3, S4, S5, r_idx, r_mks, ev, resultsV, resL, resV, vl, gt, st, sto, fgt, i64, subCV, fill, setCells, mkAgg, allP, frz, frz1, frzL, frzs, kill, kill1, killL, kills, bnd, unV, bsz, toPs, toP, isPure1, pureL, List.elem, List.replicate, Int.reduceLE, Int.reduceLT, ↓reduceIte, reduceCtorEq, Nat.reduceLT, Nat.reduceEqDiff, Nat.reduceAdd, Nat.reduceMul, Nat.reduceLeDiff, Nat.reduceBEq, hin, hr, Int.natCast_nonneg, Int.toNat_natCast, h12]
      refine loop_rule (β := Nat) (fun t => ([(0, .p (.sl b)), (1, .p (.bool true)), (5, i64 i), (6, i64 t)], []))
        (fun t => t ≤ r.length ∧ ∀ j, j < t → bl (X i j).natAbs ≤ 256) (fun t => r.length - t) 0 rfl rfl ⟨Nat.zero_le _, fun k hk => by omega⟩ ?_
      rintro j ⟨hj, hok2⟩ ih2
      simp only [] at hj hok2 ih2 ⊢
      by_cases hjn : (j : Int) < r.length
      · obtain ⟨p, hp, hpx⟩ := hrx j (by omega)
        have hpb := bl_bound hpx
        obtain ⟨n1, l1, rfl, hl1, hn1, hx1⟩ := hpx
        have k82 := p82 hl1 (by rw [CapN_eq] at hn1; omega)
        have hba : bl (X i j).natAbs = bl (val l1) := by rw [hx1, iv_abs]
        by_cases h256 : ((bl (val l1) : Nat) : Int) > 256
        · simp only [S1, S2, S3, S4, S5, r_idx, r_mks, ev, resultsV, resL, resV, vl, gt, st, sto, fgt, i64, subCV, fill, setCells, mkAgg, allP, frz, frz1, frzL, frzs, kill, kill1, killL, kills, bnd, unV, bsz, toPs, toP, isPure1, pureL, List.elem, List.replicate, Int.reduceLE, Int.reduceLT, ↓reduceIte, reduceCtorEq, Nat.reduceLT, Nat.reduceEqDiff, Nat.reduceAdd, Nat.reduceMul, Nat.reduceLeDiff, Nat.reduceBEq, hjn, hr, hp, Int.natCast_nonneg, Int.toNat_natCast, kp1 k82, h256]
          rw [shE, if_pos (.inr (.inr ⟨i, j, by omega, by omega, by omega⟩))]; rfl
        · have hw2 : IntKind.i64.wrap ((j : Int) + 1) = ((j + 1 : Nat) : Int) := by rw [IntWalk.i64_in _ (by omega)]; omega
          simp only [S1, S2, S3, S4, S5, r_idx, r_mks, ev, resultsV, resL, resV, vl, gt, st, sto, fgt, i64, subCV, fill, setCells, mkAgg, allP, frz, frz1, frzL, frzs, kill, kill1, killL, kills, bnd, unV, bsz, toPs, toP, isPure1, pureL, List.elem, List.replicate, Int.reduceLE, Int.reduceLT, ↓reduceIte, reduceCtorEq, Nat.reduceLT, Nat.reduceEqDiff, Nat.reduceAdd, Nat.reduceMul, Nat.reduceLeDiff, Nat.reduceBEq, hjn, hr, hp, Int.natCast_nonneg, Int.toNat_natCast, kp1 k82, h256, hw2]
          refine ih2 (j + 1) _ ⟨by omega, fun k hk => ?_⟩ (by omega) ?_
          · rcases Nat.lt_or_ge k j with h | h
            · exact hok2 k h
            · obtain rfl : k = j := by omega
              omega
          · rfl
      · obtain rfl : j = r.length := by omega
        simp only [S1, S2, S3, S4, S5, r_idx, r_mks, ev, resultsV, resL, resV, vl, gt, st, sto, fgt, i64, subCV, fill, setCells, mkAgg, allP, frz, frz1, frzL, frzs, kill, kill1, killL, kills, bnd, unV, bsz, toPs, toP, isPure1, pureL, List.elem, List.replicate, Int.reduceLE, Int.reduceLT, ↓reduceIte, reduceCtorEq, Nat.reduceLT, Nat.reduceEqDiff, Nat.reduceAdd, Nat.reduceMul, Nat.reduceLeDiff, Nat.reduceBEq, hjn, hr, Int.natCast_nonneg, Int.toNat_natCast, hw]
        refine ih (i + 1) _ ⟨by omega, fun k hk => ?_⟩ (by omega) ?_
        · rcases Nat.lt_or_ge k i with h | h
          · exact hok k h
          · obtain rfl : k = i := by omega
            exact ⟨by omega, fun j hj => hok2 j (by omega)⟩
        · rfl
  · obtain rfl : i = b.length := by omega
    have hnb : ¬ Big n X b.length := by
      rintro (h | ⟨i, h1, h2⟩ | ⟨i, j, h1, h2, h3⟩)
      · omega
      · have := (hok i h1).1; omega
      · have := (hok i h1).2 j h2; omega
    by_cases h0 : b.length = 0
    · have e0 : ((b.length : Int) == 0) = true := by rw [h0]; rfl
      simp only [S1, S2, S3, S4, S5, r_idx, r_mks, ev, resultsV, resL, resV, vl, gt, st, sto, fgt, i64, subCV, fill, setCells, mkAgg, allP, frz, frz1, frzL, frzs, kill, kill1, killL, kills, bnd, unV, bsz, toPs, toP, isPure1, pureL, List.elem, List.replicate, Int.reduceLE, Int.reduceLT, ↓reduceIte, reduceCtorEq, Nat.reduceLT, Nat.reduceEqDiff, Nat.reduceAdd, Nat.reduceMul, Nat.reduceLeDiff, Nat.reduceBEq, hin, e0]
      rw [shE, if_neg hnb, if_pos h0]; rfl
    · have e0 : ((b.length : Int) == 0) = false := by rw [beq_eq_false_iff_ne]; omega
      obtain ⟨r0, hr0, hl0, hn0, -⟩ := hb 0 (by omega)
      simp only [S1, S2, S3, S4, S5, r_idx, r_mks, ev, resultsV, resL, resV, vl, gt, st, sto, fgt, i64, subCV, fill, setCells, mkAgg, allP, frz, frz1, frzL, frzs, kill, kill1, killL, kills, bnd, unV, bsz, toPs, toP, isPure1, pureL, List.elem, List.replicate, Int.reduceLE, Int.reduceLT, ↓reduceIte, reduceCtorEq, Nat.reduceLT, Nat.reduceEqDiff, Nat.reduceAdd, Nat.reduceMul, Nat.reduceLeDiff, Nat.reduceBEq, hin, e0]
      refine loop_rule (β := Nat) (fun t => ([(0, .p (.sl b)), (7, i64 t)], []))
        (fun t => t ≤ b.length ∧ ∀ k, k < t → n k = n 0) (fun t => b.length - t) 0 rfl rfl ⟨Nat.zero_le _, fun k hk => by omega⟩ ?_
      rintro i ⟨hi, hev⟩ ih
      simp only [] at hi hev ih ⊢
      by_cases hin : (i : Int) < b.length
      · obtain ⟨r, hr, hrl, hrn, -⟩ := hb i (by omega)
        have i0 : Int.toNat 0 = 0 := rfl
        by_cases hne : n i = n 0
        · have e1 : ((r.length : Int) != (r0.length : Int)) = false := by rw [hrl, hl0, hne]; simp
          have hw : IntKind.i64.wrap ((i : Int) + 1) = ((i + 1 : Nat) : Int) := by rw [IntWalk.i64_in _ (by omega)]; omega
          simp only [S1, S2, S3, S4, S5, r_idx, r_mks, ev, resultsV, resL, resV, vl, gt, st, sto, fgt, i64, subCV, fill, setCells, mkAgg, allP, frz, frz1, frzL, frzs, kill, kill1, killL, kills, bnd, unV, bsz, toPs, toP, isPure1, pureL, List.elem, List.replicate, Int.reduceLE, Int.reduceLT, ↓reduceIte, reduceCtorEq, Nat.reduceLT, Nat.reduceEqDiff, Nat.reduceAdd, Nat.reduceMul, Nat.reduceLeDiff, Nat.reduceBEq, hin, hr, i0, hr0, Int.natCast_nonneg, Int.toNat_natCast, e1, hw]
          refine ih (i + 1) _ ⟨by omega, fun k hk => ?_⟩ (by omega) ?_
          · rcases Nat.lt_or_ge k i with h | h
            · exact hev k h
            · obtain rfl : k = i := by omega
              exact hne
          · rfl
        · have e1 : ((r.length : Int) != (r0.length : Int)) = true := by rw [hrl, hl0]; simp; omega
          simp only [S1, S2, S3, S4, S5, r_idx, r_mks, ev, resultsV, resL, resV, vl, gt, st, sto, fgt, i64, subCV, fill, setCells, mkAgg, allP, frz, frz1, frzL, frzs, kill, kill1, killL, kills, bnd, unV, bsz, toPs, toP, isPure1, pureL, List.elem, List.replicate, Int.reduceLE, Int.reduceLT, ↓reduceIte, reduceCtorEq, Nat.reduceLT, Nat.reduceEqDiff, Nat.reduceAdd, Nat.reduceMul, Nat.reduceLeDiff, Nat.reduceBEq, hin, hr, i0, hr0, Int.natCast_nonneg, Int.toNat_natCast, e1]
          rw [shE, if_neg hnb, if_neg h0, if_pos ⟨i, by omega, hne⟩]; rfl
      · obtain rfl : i = b.length := by omega
        simp only [S1, S2, S3, S4, S5, r_idx, r_mks, ev, resultsV, resL, resV, vl, gt, st, sto, fgt, i64, subCV, fill, setCells, mkAgg, allP, frz, frz1, frzL, frzs, kill, kill1, killL, kills, bnd, unV, bsz, toPs, toP, isPure1, pureL, List.elem, List.replicate, Int.reduceLE, Int.reduceLT, ↓reduceIte, reduceCtorEq, Nat.reduceLT, Nat.reduceEqDiff, Nat.reduceAdd, Nat.reduceMul, Nat.reduceLeDiff, Nat.reduceBEq, hin]
        rw [shE, if_neg hnb, if_neg h0, if_neg (fun ⟨k, hk, hk2⟩ => hk2 (hev k hk))]; rfl
end
end Go.Proofs.Ytdieenbfdeaffaa.VBn

namespace Go.Proofs.Ytdieenbfdeaffaa.VBn
open Go Vpi
open Gs (V Dv Pos Good)
set_option maxRecDepth 100000
set_option linter.unusedSimpArgs false
set_option linter.unusedVariables false

section
variable {rp : RProg} {rs : List RRes} {base : Nat} {d : Option Nat} {l : List LOp} {dr : Dr} {ks : List KI} {e : Env} {σ : Store} {Q : CV → Store → Prop}
theorem kz1 {f : Nat} {a0 : PV} {r : CV} (h : Pu rp f [a0] r) : KC rp rs base .fz f [.p a0] d l dr ks e σ Q = ExR rp rs base l dr ks (sto d r e) σ Q := kc_fz h rfl
theorem kz2 {f : Nat} {a0 a1 : PV} {r : CV} (h : Pu rp f [a0, a1] r) : KC rp rs base .fz f [.p a0, .p a1] d l dr ks e σ Q = ExR rp rs base l dr ks (sto d r e) σ Q := kc_fz h rfl
end

section
variable {rp : RProg} {rs : List RRes} {base : Nat} {d : Option Nat} {l : List LOp} {dr : Dr} {ks : List KI} {e : Env} {σ : Store} {Q : CV → Store → Prop} {sz : Nat} {c : CV} {es xs : List PV}

/-- append in a region: what bslice laid, to a list -/
theorem r_app_sl {s x : Opd} {bytes : Nat} (hb : base = σ.length) (h : GL σ sz c es) (hc : (es.length + xs.length) * bytes ≤ 140737488355328) (hs : vl e s = c) (hx : vl e x = .own base 0 xs.length) (hz : allSz sz xs = true) :
    ExR rp rs base (⟨d, none, some 1, .append sz bytes s x⟩ :: l) dr ks e (σ ++ [.prow sz xs, .hole]) Q = ExR rp rs base l dr ks (sto d (.own (base + 1) 0 (es.length + xs.length)) e) (nd σ c ++ [.prow sz xs, .prow sz (es ++ xs)]) Q := by
  subst hb
  rw [r_append]
  have h1 : content (σ ++ [.prow sz xs, .hole]) c = some es := h.left.content
  have h2 : content (σ ++ [.prow sz xs, .hole]) (.own σ.length 0 xs.length) = some xs := cont_own (s := sz) (by rw [get_app0]; rfl) rfl
  have hlt := h.lt.2
  simp only [ev, hs, hx, h1, h2, hc, hz, and_self, if_true]
  rcases h with ⟨rfl, rfl⟩ | ⟨b, rfl, hb⟩
  · simp only [push_sl, get_app, set_app, List.getElem?_cons_succ, List.getElem?_cons_zero, List.set_cons_succ, List.set_cons_zero, Option.map_some, ke_some, nd, List.nil_append]
  · have hlb := hlt _ _ _ rfl
    have hb' : (σ ++ [.prow sz xs, .hole])[b]? = some (.prow sz es) := by rw [List.getElem?_append_left hlb]; exact hb
    have e1 : ∀ l : Store, (σ.set b .dead ++ l)[σ.length + 1]? = l[1]? := fun l => by rw [show σ.length + 1 = (σ.set b Blk.dead).length + 1 by rw [List.length_set], get_app]
    have e2 : ∀ (l : Store) (x : Blk), (σ.set b .dead ++ l).set (σ.length + 1) x = σ.set b .dead ++ l.set 1 x := fun l x => by rw [show σ.length + 1 = (σ.set b Blk.dead).length + 1 by rw [List.length_set], set_app]
    simp only [hb', if_true, push_sl, set_left hlb, e1, e2, List.getElem?_cons_succ, List.getElem?_cons_zero, List.set_cons_succ, List.set_cons_zero, Option.map_some, ke_some, nd]

/-- a block that becomes an element, in a region -/
theorem r_fz_sl {x : Opd} {b s n : Nat} (hb : σ[b]? = some (.prow s es)) (hn : n ≤ es.length) (hx : vl e x = .own b 0 n) :
    ExR rp rs σ.length (⟨d, none, some 0, .bslice 1 [x]⟩ :: l) dr ks e (σ ++ [.hole, .hole]) Q = ExR rp rs σ.length l dr ks (sto d (.own σ.length 0 1) e) (σ.set b .dead ++ [.prow 1 [.sl (es.take n)], .hole]) Q := by
  rw [r_bslice]
  have hlb := (List.getElem?_eq_some_iff.1 hb).1
  have hf : frz (σ ++ [.hole, .hole]) (.own b 0 n) = some (.sl (es.take n)) := by
    simp only [frz, frz1, List.getElem?_append_left hlb, hb, Nat.zero_add, hn, if_true, List.drop_zero]
  have e1 : ∀ l : Store, (σ.set b .dead ++ l)[σ.length]? = l[0]? := fun l => by rw [show σ.length = (σ.set b Blk.dead).length by rw [List.length_set], get_app0]
  have e2 : ∀ (l : Store) (x : Blk), (σ.set b .dead ++ l).set σ.length x = σ.set b .dead ++ l.set 0 x := fun l x => by rw [show σ.length = (σ.set b Blk.dead).length by rw [List.length_set], set_app0]
  simp only [ev, List.map_cons, List.map_nil, hx, frzs, hf, Option.map_some, allSz_cons, allSz_nil, PV.cells, List.length_cons, List.length_nil, Nat.zero_add, beq_self_eq_true, Bool.and_self, if_true, kills, List.foldl_cons, List.foldl_nil, kill, kill1, set_left hlb, push_sl, e1, e2, List.getElem?_cons_zero, List.set_cons_zero, ke_some, Nat.add_zero]
end

theorem rp138 : rp 138 = some f138 := rfl

theorem subPV_zi {x : Int} : subPV true 2 (zi x) 0 = some (zi x) := subPV_mk

/-- rows of one length, of numbers that are not too long -/
structure Bs (b : List PV) (N : Nat) (X : Nat → Nat → Int) : Prop where
  m : b.length ≤ 12
  n : N ≤ 12
  row : ∀ i, i < b.length → ∃ r, b[i]? = some (.sl r) ∧ r.length = N ∧ NuR r (X i)
  sz : ∀ i j, i < b.length → j < N → Sk 8 (X i j)

def gr (N : Nat) (X : Nat → Nat → Int) : Nat → Nat → Int := fun i j => dotI (X i) (X j) N

theorem gr_symm {N : Nat} {X : Nat → Nat → Int} : ∀ i j, gr N X i j = gr N X j i := fun i j => dotI_symm

theorem bd_le {M : Nat} : ∀ {n : Nat}, n ≤ 12 → Gs.bd M n ≤ (LB * M) ^ n
  | 0, _ => by simp [Gs.bd]
  | n + 1, h => by
    have ih := bd_le (M := M) (n := n) (by omega)
    rw [Gs.bd, Nat.pow_succ, Nat.mul_comm ((LB * M) ^ n), Nat.mul_assoc]
    exact Nat.mul_le_mul (by unfold LB; omega) (Nat.mul_le_mul_left _ ih)

section
variable {b : List PV} {N : Nat} {X : Nat → Nat → Int}

theorem V_sk (hb : Bs b N X) {k i j : Nat} (hp : Pos (gr N X) k) (hi : k ≤ i) (hj : k ≤ j) (hi' : i < b.length) (hj' : j < b.length) : Sk 217 (V (gr N X) k i j) := by
  have hm := hb.m
  have h1 := (Gs.good gr_symm (M := LB ^ 17) hp).sz i j hi hj fun p q hp hq => Nat.le_of_lt (dot_sk (fun t ht => ⟨hb.sz p t (by omega) ht, hb.sz q t (by omega) ht⟩) hb.n)
  have h2 := bd_le (M := LB ^ 17) (n := k + 1) (by omega)
  have h3 : LB * LB ^ 17 = LB ^ 18 := by rw [Nat.mul_comm, ← Nat.pow_succ]
  rw [h3, ← Nat.pow_mul] at h2
  have h4 : LB ^ (18 * (k + 1)) ≤ LB ^ 216 := Nat.pow_le_pow_right LB_pos (by omega)
  have h5 : LB ^ 216 < LB ^ 217 := by
    exact (Nat.pow_lt_pow_iff_right (a := LB) (by decide)).2 (by omega)
  unfold Sk
  omega

theorem Dv_sk (hb : Bs b N X) {k : Nat} (hp : Pos (gr N X) k) (hk : k ≤ b.length) : Sk 217 (Dv (gr N X) k) := by
  cases k with
  | zero => 
    show (1 : Nat) < LB ^ 217
    exact Nat.one_lt_pow (by omega) (by decide)
  | succ k => exact V_sk hb hp.pred (Nat.le_refl _) (Nat.le_refl _) (by omega) (by omega)

/-- the lists -/
def Dl (g : Nat → Nat → Int) (i : Nat) : List PV := (List.range i).map fun k => zi (Dv g k)
def Ll (g : Nat → Nat → Int) (i j : Nat) : List PV := (List.range j).map fun k => zi (V g k i k)
def Rl (g : Nat → Nat → Int) (i : Nat) : List PV := (List.range i).map fun t => .sl (Ll g t t)

theorem Dl_get {g : Nat → Nat → Int} {i k : Nat} (h : k < i) : (Dl g i)[k]? = some (zi (Dv g k)) := by simp [Dl, h]
theorem Ll_get {g : Nat → Nat → Int} {i j k : Nat} (h : k < j) : (Ll g i j)[k]? = some (zi (V g k i k)) := by simp [Ll, h]
theorem Rl_get {g : Nat → Nat → Int} {i k : Nat} (h : k < i) : (Rl g i)[k]? = some (.sl (Ll g k k)) := by simp [Rl, h]
theorem Dl_len {g : Nat → Nat → Int} {i : Nat} : (Dl g i).length = i := by simp [Dl]
theorem Ll_len {g : Nat → Nat → Int} {i j : Nat} : (Ll g i j).length = j := by simp [Ll]
theorem Rl_len {g : Nat → Nat → Int} {i : Nat} : (Rl g i).length = i := by simp [Rl]
theorem Dl_succ {g : Nat → Nat → Int} {i : Nat} : Dl g (i + 1) = Dl g i ++ [zi (Dv g i)] := by simp [Dl, List.range_succ]
theorem Ll_succ {g : Nat → Nat → Int} {i j : Nat} : Ll g i (j + 1) = Ll g i j ++ [zi (V g j i j)] := by simp [Ll, List.range_succ]
theorem Rl_succ {g : Nat → Nat → Int} {i : Nat} : Rl g (i + 1) = Rl g i ++ [.sl (Ll g i i)] := by simp [Rl, List.range_succ]
theorem Ll_take {g : Nat → Nat → Int} {i : Nat} : (Ll g i (i + 1)).take i = Ll g i i := by
  rw [Ll_succ, List.take_append, Ll_len, Nat.sub_self, List.take_zero, List.append_nil, List.take_of_length_le (by rw [Ll_len]; omega)]

/-- a number's cells -/
def cz (x : Int) : List CV := [.p (.bool (decide (x < 0) && decide (x.natAbs ≠ 0))), .p (.sl (lm (dgl x.natAbs)))]

/-- the store while a row is made -/
structure JI (g : Nat → Nat → Int) (τ : Store) (bd : Nat) (cL : CV) (i j bl : Nat) : Prop where
  g0 : τ[0]? = some (.kblk 2 [.nils, .nils])
  g2 : τ[2]? = some (.kblk 2 [.own bd 0 (i + 1), cL])
  gd : τ[bd]? = some (.prow 2 (Dl g (i + 1)))
  gL : GL τ 1 cL (Rl g i)
  gl : τ[bl]? = some (.prow 2 (Ll g i j))
  ne : bl ≠ bd

theorem JI.bl0 {g : Nat → Nat → Int} {τ : Store} {bd : Nat} {cL : CV} {i j bl : Nat} (h : JI g τ bd cL i j bl) : bl ≠ 0 ∧ bl ≠ 2 ∧ bd ≠ 0 ∧ bd ≠ 2 ∧ bl < τ.length ∧ bd < τ.length ∧ 2 < τ.length ∧ 0 < τ.length := by
  refine ⟨?_, ?_, ?_, ?_, (List.getElem?_eq_some_iff.1 h.gl).1, (List.getElem?_eq_some_iff.1 h.gd).1, (List.getElem?_eq_some_iff.1 h.g2).1, (List.getElem?_eq_some_iff.1 h.g0).1⟩
  · rintro rfl; have := h.gl; rw [h.g0] at this; cases this
  · rintro rfl; have := h.gl; rw [h.g2] at this; cases this
  · rintro rfl; have := h.gd; rw [h.g0] at this; cases this
  · rintro rfl; have := h.gd; rw [h.g2] at this; cases this

theorem GL.ne2 {σ : Store} {c : CV} {es xs : List PV} {k : Nat} (h : GL σ 1 c es) (hk : σ[k]? = some (.prow 2 xs)) : ∀ b o n, c = .own b o n → b ≠ k := by
  rintro b o n rfl rfl
  rcases h with ⟨h, _⟩ | ⟨b', h, hb⟩
  · cases h
  · cases h; rw [hb] at hk; cases hk

theorem p138 (hb : Bs b N X) :
    (Pos (gr N X) b.length → Pu rp 138 [.sl b] (.tup [.p (.agg [.sl (Dl (gr N X) (b.length + 1)), .sl (Rl (gr N X) b.length)]), .p (.bool true)])) ∧
    (¬ Pos (gr N X) b.length → Pu rp 138 [.sl b] (.tup [.p (.agg [.sl [], .sl []]), .p (.bool false)])) := by
  have key : ∀ R : CV, (Pos (gr N X) b.length → R = .tup [.p (.agg [.sl (Dl (gr N X) (b.length + 1)), .sl (Rl (gr N X) b.length)]), .p (.bool true)]) → (¬ Pos (gr N X) b.length → R = .tup [.p (.agg [.sl [], .sl []]), .p (.bool false)]) → Pu rp 138 [.sl b] R := by
    intro R hR1 hR2
    refine pu_of rp138 ?_
    have hm := hb.m
    have hN := hb.n
    have k54 := p54 (x := 1) (by decide) (by decide)
    have hz1 : (zi 1).cells.length = 2 := rfl
    simp only [f138, args0, S1, S2, S3, S4, S5, r_idx, r_mks, ev, resultsV, resL, resV, vl, gt, st, sto, fgt, i64, subCV, fill, setCells, mkAgg, allP, frz, frz1, frzL, frzs, kill, kill1, killL, kills, bnd, unV, bsz, toPs, toP, isPure1, pureL, List.elem, List.replicate, Int.reduceLE, Int.reduceLT, ↓reduceIte, reduceCtorEq, Nat.reduceLT, Nat.reduceEqDiff, Nat.reduceAdd, Nat.reduceMul, Nat.reduceLeDiff, Nat.reduceBEq, kp1 k54]
    refine loop_rule (β := Nat × Store × Nat × CV) (fun t => ([(0, .p (.sl b)), (2, .ptr 0 0 0), (4, .ptr 2 0 0), (16, i64 b.length), (17, i64 t.1)], t.2.1))
      (fun t => t.1 ≤ b.length ∧ Pos (gr N X) t.1 ∧ t.2.1[0]? = some (.kblk 2 [.nils, .nils]) ∧ t.2.1[2]? = some (.kblk 2 [.own t.2.2.1 0 (t.1 + 1), t.2.2.2]) ∧ t.2.1[t.2.2.1]? = some (.prow 2 (Dl (gr N X) (t.1 + 1))) ∧ GL t.2.1 1 t.2.2.2 (Rl (gr N X) t.1)) (fun t => b.length - t.1)
      ((0, [.kblk 2 [.nils, .nils], .prow 2 [zi 1], .kblk 2 [.own 1 0 1, .nils]], 1, .nils) : Nat × Store × Nat × CV) rfl rfl ⟨Nat.zero_le _, fun t ht => by omega, rfl, rfl, rfl, .nil⟩ ?_
    rintro ⟨i, σ, bd, cL⟩ ⟨hi, hpos, h0, h2, hd, hL⟩ ih
    simp only [] at hi hpos h0 h2 hd hL ih ⊢
    by_cases hin : (i : Int) < b.length
    · have hib : i < b.length := by omega
      have w1 : IntKind.i64.wrap ((i : Int) + 1) = ((i + 1 : Nat) : Int) := by rw [IntWalk.i64_in _ (by omega)]; omega
      have m1 : ((32 : Nat) : Int) * ((i + 1 : Nat) : Int) ≤ 281474976710656 := by omega
      have m2 : ((i + 1 : Nat) : Int) ≤ 9223372036854775807 := by omega
      have m3 : (0 : Int) ≤ ((i + 1 : Nat) : Int) := by omega
      have i0 : Int.toNat 0 = 0 := rfl
      simp only [S1, S2, S3, S4, S5, r_idx, r_mks, ev, resultsV, resL, resV, vl, gt, st, sto, fgt, i64, subCV, fill, setCells, mkAgg, allP, frz, frz1, frzL, frzs, kill, kill1, killL, kills, bnd, unV, bsz, toPs, toP, isPure1, pureL, List.elem, List.replicate, Int.reduceLE, Int.reduceLT, ↓reduceIte, reduceCtorEq, Nat.reduceLT, Nat.reduceEqDiff, Nat.reduceAdd, Nat.reduceMul, Nat.reduceLeDiff, Nat.reduceBEq, hin, w1, m1, m2, m3, i0, Int.le_refl]
      obtain ⟨ri, hri, hril, hrix⟩ := hb.row i hib
      have hs2 : 2 < σ.length := (List.getElem?_eq_some_iff.1 h2).1
      have hs0 : 0 < σ.length := (List.getElem?_eq_some_iff.1 h0).1
      have hsd : bd < σ.length := (List.getElem?_eq_some_iff.1 hd).1
      have hJ0 : JI (gr N X) (σ ++ [.prow 2 []]) bd cL i 0 σ.length :=
        ⟨by rw [get_left hs0, h0], by rw [get_left hs2, h2], by rw [get_left hsd, hd], hL.left, by rw [get_app0]; rfl, by omega⟩
      refine loop_rule (β := Nat × Store × Nat) (fun t => ([(0, .p (.sl b)), (2, .ptr 0 0 0), (4, .ptr 2 0 0), (5, i64 i), (6, .own t.2.2 0 t.1), (7, i64 t.1), (16, i64 b.length), (17, i64 i)], t.2.1))
        (fun t => t.1 ≤ i + 1 ∧ JI (gr N X) t.2.1 bd cL i t.1 t.2.2) (fun t => i + 1 - t.1) ((0, σ ++ [.prow 2 []], σ.length) : Nat × Store × Nat) rfl rfl ⟨Nat.zero_le _, hJ0⟩ ?_
      rintro ⟨j, τ, bl⟩ ⟨hj, hJ⟩ ih2
      simp only [] at hj hJ ih2 ⊢
      obtain ⟨n1, n2, n3, n4, lbl, lbd, l2, l0⟩ := hJ.bl0
      have e0 : ∀ l, (τ ++ l)[0]? = some (.kblk 2 [.nils, .nils]) := fun l => by rw [get_left l0, hJ.g0]
      have e2 : ∀ l, (τ ++ l)[2]? = some (.kblk 2 [.own bd 0 (i + 1), cL]) := fun l => by rw [get_left l2, hJ.g2]
      have ed : ∀ l, (τ ++ l)[bd]? = some (.prow 2 (Dl (gr N X) (i + 1))) := fun l => by rw [get_left lbd, hJ.gd]
      have el : ∀ l, (τ ++ l)[bl]? = some (.prow 2 (Ll (gr N X) i j)) := fun l => by rw [get_left lbl, hJ.gl]
      by_cases hji : (j : Int) ≤ i
      · have hjb : j < b.length := by omega
        obtain ⟨rj, hrj, hrjl, hrjx⟩ := hb.row j hjb
        have k169 := p169 hrix hrjx (by rw [hril, hrjl]) (by omega) (fun t ht => ⟨hb.sz i t hib (by omega), hb.sz j t hjb (by omega)⟩)
        rw [hril] at k169
        simp only [S1, S2, S3, S4, S5, r_idx, r_mks, ev, resultsV, resL, resV, vl, gt, st, sto, fgt, i64, subCV, fill, setCells, mkAgg, allP, frz, frz1, frzL, frzs, kill, kill1, killL, kills, bnd, unV, bsz, toPs, toP, isPure1, pureL, List.elem, List.replicate, Int.reduceLE, Int.reduceLT, ↓reduceIte, reduceCtorEq, Nat.reduceLT, Nat.reduceEqDiff, Nat.reduceAdd, Nat.reduceMul, Nat.reduceLeDiff, Nat.reduceBEq, hji, hri, hrj, Int.natCast_nonneg, Int.toNat_natCast, kz2 k169, push_sl]
        refine loop_rule (β := Nat) (fun k => ([(0, .p (.sl b)), (2, .ptr 0 0 0), (4, .ptr 2 0 0), (5, i64 i), (6, .own bl 0 j), (7, i64 j), (8, .ptr τ.length 0 0), (10, i64 k), (16, i64 b.length), (17, i64 i)], τ ++ [.kblk 2 (cz (V (gr N X) k i j))]))
          (fun k => k ≤ j) (fun k => j - k) 0 rfl rfl (Nat.zero_le _) ?_
        rintro k hk ih3
        simp only [] at hk ih3 ⊢
        have sV : Sz (V (gr N X) k i j) := (V_sk hb (hpos.mono (by omega)) (by omega) hk hib hjb).sz (by omega)
        by_cases hkj : (k : Int) < j
        · have hkj' : k < j := by omega
          have hpk : Pos (gr N X) (k + 1) := hpos.mono (by omega)
          have s1 := Dv_sk hb hpk (by omega)
          have s2 := V_sk hb hpk.pred (show k ≤ i by omega) hk hib hjb
          have s3 := V_sk hb hpk.pred (show k ≤ i by omega) (Nat.le_refl k) hib (by omega)
          have s4 := V_sk hb hpk.pred hk (Nat.le_refl k) hjb (by omega)
          have s5 := Dv_sk hb hpk.pred (by omega)
          have q1 := p63' (Nu.zi (s1.sz (by omega))) (Nu.zi (s2.sz (by omega)))
          have q2 := p63' (Nu.zi (s3.sz (by omega))) (Nu.zi (s4.sz (by omega)))
          have q3 := p157 (Nu.zi ((s1.mul s2).sz (by omega))) (Nu.zi ((s3.mul s4).sz (by omega)))
          have q4 := p134 (Nu.zi (((s1.mul s2).sub (s3.mul s4)).sz (by omega))) (Nu.zi (s5.sz (by omega))) (Gs.good gr_symm (M := 0) hpk.pred).dp
          rw [← Gs.V_succ] at q4
          rw [zi_raw (x := V (gr N X) k i j)] at q1
          rw [zi_raw (x := Dv (gr N X) (k + 1) * V (gr N X) k i j - V (gr N X) k i k * V (gr N X) k j k)] at q4
          have w2 : IntKind.i64.wrap ((k : Int) + 1) = ((k + 1 : Nat) : Int) := by rw [IntWalk.i64_in _ (by omega)]; omega
          have d1 := Dl_get (g := gr N X) (i := i + 1) (k := k + 1) (by omega)
          have d2 := Dl_get (g := gr N X) (i := i + 1) (k := k) (by omega)
          have d3 := Ll_get (g := gr N X) (i := i) hkj'
          have f1 : k + 1 < i + 1 := by omega
          have f2 : k < i + 1 := by omega
          by_cases hjlt : (j : Int) < i
          · have hjlt' : j < i := by omega
            have d4 := Ll_get (g := gr N X) (i := j) hkj'
            have d5 := Rl_get (g := gr N X) hjlt'
            obtain ⟨bL, hbL, hbLg⟩ : ∃ bL, cL = .own bL 0 i ∧ τ[bL]? = some (.prow 1 (Rl (gr N X) i)) := by
              rcases hJ.gL with ⟨h, h'⟩ | ⟨bL, h, h'⟩
              · have := congrArg List.length h'; rw [Rl_len] at this; simp at this; omega
              · rw [Rl_len] at h; exact ⟨bL, h, h'⟩
            subst hbL
            have lbL : bL < τ.length := (List.getElem?_eq_some_iff.1 hbLg).1
            have eL : ∀ l, (τ ++ l)[bL]? = some (.prow 1 (Rl (gr N X) i)) := fun l => by rw [get_left lbL, hbLg]
            simp only [S1, S2, S3, S4, S5, r_idx, r_mks, ev, resultsV, resL, resV, vl, gt, st, sto, fgt, i64, subCV, fill, setCells, mkAgg, allP, frz, frz1, frzL, frzs, kill, kill1, killL, kills, bnd, unV, bsz, toPs, toP, isPure1, pureL, List.elem, List.replicate, Int.reduceLE, Int.reduceLT, ↓reduceIte, reduceCtorEq, Nat.reduceLT, Nat.reduceEqDiff, Nat.reduceAdd, Nat.reduceMul, Nat.reduceLeDiff, Nat.reduceBEq, hkj, hjlt, w2, e2, ed, el, eL, bsz, cz, f1, f2, hkj', hjlt', d1, d2, d3, d4, d5, subPV_zi, kz2 q1, kz2 q2, kp2 q3, Int.natCast_nonneg, Int.toNat_natCast]
            rw [r_nilx]
            refine ⟨by rfl, ?_⟩
            simp only [S1, S2, S3, S4, S5, r_idx, r_mks, ev, resultsV, resL, resV, vl, gt, st, sto, fgt, i64, subCV, fill, setCells, mkAgg, allP, frz, frz1, frzL, frzs, kill, kill1, killL, kills, bnd, unV, bsz, toPs, toP, isPure1, pureL, List.elem, List.replicate, Int.reduceLE, Int.reduceLT, ↓reduceIte, reduceCtorEq, Nat.reduceLT, Nat.reduceEqDiff, Nat.reduceAdd, Nat.reduceMul, Nat.reduceLeDiff, Nat.reduceBEq, e2, ed, el, bsz, f2, d2, subPV_zi, kz2 q4, w2, Int.natCast_nonneg, Int.toNat_natCast]
            refine ih3 (k + 1) _ (by omega) (by omega) ?_
            rfl
          · obtain rfl : j = i := by omega
            simp only [S1, S2, S3, S4, S5, r_idx, r_mks, ev, resultsV, resL, resV, vl, gt, st, sto, fgt, i64, subCV, fill, setCells, mkAgg, allP, frz, frz1, frzL, frzs, kill, kill1, killL, kills, bnd, unV, bsz, toPs, toP, isPure1, pureL, List.elem, List.replicate, Int.reduceLE, Int.reduceLT, ↓reduceIte, reduceCtorEq, Nat.reduceLT, Nat.reduceEqDiff, Nat.reduceAdd, Nat.reduceMul, Nat.reduceLeDiff, Nat.reduceBEq, hkj, hjlt, w2, e2, ed, el, bsz, cz, f1, f2, hkj', d1, d2, d3, subPV_zi, kz2 q1, kz2 q2, kp2 q3, Int.natCast_nonneg, Int.toNat_natCast]
            rw [r_nilx]
            refine ⟨by rfl, ?_⟩
            simp only [S1, S2, S3, S4, S5, r_idx, r_mks, ev, resultsV, resL, resV, vl, gt, st, sto, fgt, i64, subCV, fill, setCells, mkAgg, allP, frz, frz1, frzL, frzs, kill, kill1, killL, kills, bnd, unV, bsz, toPs, toP, isPure1, pureL, List.elem, List.replicate, Int.reduceLE, Int.reduceLT, ↓reduceIte, reduceCtorEq, Nat.reduceLT, Nat.reduceEqDiff, Nat.reduceAdd, Nat.reduceMul, Nat.reduceLeDiff, Nat.reduceBEq, e2, ed, el, bsz, f2, d2, subPV_zi, kz2 q4, w2, Int.natCast_nonneg, Int.toNat_natCast]
            refine ih3 (k + 1) _ (by omega) (by omega) ?_
            rfl
        · obtain rfl : k = j := by omega
          have w3 : IntKind.i64.wrap ((k : Int) + 1) = ((k + 1 : Nat) : Int) := by rw [IntWalk.i64_in _ (by omega)]; omega
          have c1 : content (τ ++ [.kblk 2 (cz (V (gr N X) k i k)), .prow 2 [zi (V (gr N X) k i k)]]) (.own bl 0 k) = some (Ll (gr N X) i k) := by
            simp only [content, el, Ll_len, Nat.zero_add, Nat.le_refl, if_true, List.drop_zero]
            rw [List.take_of_length_le (by rw [Ll_len]; omega)]
          have c2 : content (τ ++ [.kblk 2 (cz (V (gr N X) k i k)), .prow 2 [zi (V (gr N X) k i k)]]) (.own (τ.length + 1) 0 1) = some [zi (V (gr N X) k i k)] := by
            simp only [content, get_app]; rfl
          have m4 : (k + 1) * 32 ≤ 140737488355328 := by omega
          simp only [cz, zi_raw] at c1 c2
          have sl : ∀ l x, (τ ++ l).set bl x = τ.set bl x ++ l := fun l x => set_left lbl
          simp only [S1, S2, S3, S4, S5, r_idx, r_mks, ev, resultsV, resL, resV, vl, gt, st, sto, fgt, i64, subCV, fill, setCells, mkAgg, allP, frz, frz1, frzL, frzs, kill, kill1, killL, kills, bnd, unV, bsz, toPs, toP, isPure1, pureL, List.elem, List.replicate, Int.reduceLE, Int.reduceLT, ↓reduceIte, reduceCtorEq, Nat.reduceLT, Nat.reduceEqDiff, Nat.reduceAdd, Nat.reduceMul, Nat.reduceLeDiff, Nat.reduceBEq, hkj, cz, r_append, c1, c2, el, Ll_len, m4, sl, w3]
          rw [← zi_raw (x := V (gr N X) k i k), ← Ll_succ]
          refine ih2 (k + 1, τ.set bl .dead ++ [.kblk 2 (cz (V (gr N X) k i k)), .prow 2 [zi (V (gr N X) k i k)], .prow 2 (Ll (gr N X) i (k + 1))], τ.length + 2) _ ⟨by simp only []; omega, ?_⟩ (by simp only []; omega) ?_
          · have lt : ∀ x, x ≠ bl → x < τ.length → ∀ l, (τ.set bl .dead ++ l)[x]? = τ[x]? := fun x hx hl l => by
              rw [get_left (by rw [List.length_set]; exact hl), get_ne (Ne.symm hx)]
            refine ⟨by rw [lt 0 n1.symm l0, hJ.g0], by rw [lt 2 n2.symm l2, hJ.g2], by rw [lt bd hJ.ne.symm lbd, hJ.gd], ?_, ?_, by simp only []; omega⟩
            · exact (hJ.gL.set_ne (GL.ne2 hJ.gL hJ.gl)).left
            · rw [show τ.length + 2 = (τ.set bl Blk.dead).length + 2 by rw [List.length_set], get_app]; rfl
          · rfl
      · obtain rfl : j = i + 1 := by omega
        have hji' : ¬ ((i + 1 : Nat) : Int) ≤ i := by omega
        have hVz : Nu (zi (V (gr N X) i i i)) (V (gr N X) i i i) := Nu.zi ((V_sk hb hpos (Nat.le_refl _) (Nat.le_refl _) hib hib).sz (by omega))
        have k77 := p77 hVz
        have d1 := Ll_get (g := gr N X) (i := i) (Nat.lt_succ_self i)
        have f1 : i < i + 1 := Nat.lt_succ_self i
        by_cases hs : (V (gr N X) i i i).sign ≤ 0
        · have hVn : V (gr N X) i i i ≤ 0 := Int.sign_nonpos_iff.1 hs
          have s0 : ∀ x, (τ.set 0 x)[0]? = some x := fun x => get_self l0
          simp only [S1, S2, S3, S4, S5, r_idx, r_mks, ev, resultsV, resL, resV, vl, gt, st, sto, fgt, i64, subCV, fill, setCells, mkAgg, allP, frz, frz1, frzL, frzs, kill, kill1, killL, kills, bnd, unV, bsz, toPs, toP, isPure1, pureL, List.elem, List.replicate, Int.reduceLE, Int.reduceLT, ↓reduceIte, reduceCtorEq, Nat.reduceLT, Nat.reduceEqDiff, Nat.reduceAdd, Nat.reduceMul, Nat.reduceLeDiff, Nat.reduceBEq, hji', hJ.gl, hJ.g0, bsz, f1, d1, subPV_zi, kz1 k77, hs, Int.natCast_nonneg, Int.toNat_natCast, s0]
          rw [hR2 (fun hp => by have := hp i hib; omega)]
          rfl
        · have hVp : 0 < V (gr N X) i i i := by
            rcases Int.lt_or_le 0 (V (gr N X) i i i) with h | h
            · exact h
            · exact absurd (Int.sign_nonpos_iff.2 h) hs
          have gD : GL τ 2 (.own bd 0 (i + 1)) (Dl (gr N X) (i + 1)) := GL.own hJ.gd Dl_len.symm
          have m5 : ((Dl (gr N X) (i + 1)).length + [zi (V (gr N X) i i i)].length) * 32 ≤ 140737488355328 := by rw [Dl_len]; simp; omega
          have hDs : Dl (gr N X) (i + 1) ++ [zi (V (gr N X) i i i)] = Dl (gr N X) (i + 2) := by rw [Dl_succ (i := i + 1)]; rfl
          have sd : ∀ l x, (τ.set bd .dead ++ l).set 2 x = (τ.set bd .dead).set 2 x ++ l := fun l x => set_left (by rw [List.length_set]; exact l2)
          have gd2 : ∀ l, (τ.set bd .dead ++ l)[2]? = some (.kblk 2 [.own bd 0 (i + 1), cL]) := fun l => by rw [get_left (by rw [List.length_set]; exact l2), get_ne n4, hJ.g2]
          simp only [S1, S2, S3, S4, S5, r_idx, r_mks, ev, resultsV, resL, resV, vl, gt, st, sto, fgt, i64, subCV, fill, setCells, mkAgg, allP, frz, frz1, frzL, frzs, kill, kill1, killL, kills, bnd, unV, bsz, toPs, toP, isPure1, pureL, List.elem, List.replicate, Int.reduceLE, Int.reduceLT, ↓reduceIte, reduceCtorEq, Nat.reduceLT, Nat.reduceEqDiff, Nat.reduceAdd, Nat.reduceMul, Nat.reduceLeDiff, Nat.reduceBEq, hji', hJ.gl, hJ.g0, hJ.g2, hJ.gd, bsz, f1, d1, subPV_zi, kz1 k77, hs, Int.natCast_nonneg, Int.toNat_natCast, e2, el, push_sl, r_app_sl rfl gD m5, nd, Dl_len, hDs, sd, gd2]
          rw [r_nilx]
          refine ⟨by rfl, ?_⟩
          -- the store with the new determinant
          obtain ⟨ρ, hρ⟩ : ∃ ρ, ρ = (τ.set bd .dead).set 2 (.kblk 2 [.own (τ.length + 1) 0 (i + 2), cL]) ++ [.prow 2 [zi (V (gr N X) i i i)], .prow 2 (Dl (gr N X) (i + 2))] := ⟨_, rfl⟩
          have hl : ((τ.set bd Blk.dead).set 2 (.kblk 2 [.own (τ.length + 1) 0 (i + 2), cL])).length = τ.length := by rw [List.length_set, List.length_set]
          have r0 : ρ[0]? = some (.kblk 2 [.nils, .nils]) := by rw [hρ, get_left (by rw [hl]; exact l0), get_ne (by omega), get_ne n3, hJ.g0]
          have r2 : ρ[2]? = some (.kblk 2 [.own (τ.length + 1) 0 (i + 2), cL]) := by rw [hρ, get_left (by rw [hl]; exact l2), get_self (by rw [List.length_set]; exact l2)]
          have rd : ρ[τ.length + 1]? = some (.prow 2 (Dl (gr N X) (i + 2))) := by rw [hρ, List.getElem?_append_right (by rw [hl]; omega), hl, Nat.add_sub_cancel_left]; rfl
          have rl : ρ[bl]? = some (.prow 2 (Ll (gr N X) i (i + 1))) := by rw [hρ, get_left (by rw [hl]; exact lbl), get_ne (Ne.symm n2), get_ne (Ne.symm hJ.ne), hJ.gl]
          have rL : GL ρ 1 cL (Rl (gr N X) i) := by
            rw [hρ]
            refine (GL.set_ne (hJ.gL.set_ne (GL.ne2 hJ.gL hJ.gd)) ?_).left
            rintro b' o n rfl rfl
            rcases hJ.gL with ⟨h, _⟩ | ⟨b2, h, hb2⟩
            · cases h
            · cases h; rw [hJ.g2] at hb2; cases hb2
          rw [← hρ]
          have lr2 : 2 < ρ.length := (List.getElem?_eq_some_iff.1 r2).1
          have lr0 : 0 < ρ.length := (List.getElem?_eq_some_iff.1 r0).1
          have lrl : bl < ρ.length := (List.getElem?_eq_some_iff.1 rl).1
          have q2 : ∀ l, (ρ ++ l)[2]? = some (.kblk 2 [.own (τ.length + 1) 0 (i + 2), cL]) := fun l => by rw [get_left lr2, r2]
          have ql : ∀ l, (ρ ++ l)[bl]? = some (.prow 2 (Ll (gr N X) i (i + 1))) := fun l => by rw [get_left lrl, rl]
          have hii : i ≤ i + 1 := by omega
          have hf := fun {rp rs d l dr ks e Q x} => r_fz_sl (rp := rp) (rs := rs) (d := d) (l := l) (dr := dr) (ks := ks) (e := e) (Q := Q) (x := x) rl (show i ≤ (Ll (gr N X) i (i + 1)).length by rw [Ll_len]; omega)
          have gL' : GL (ρ.set bl .dead) 1 cL (Rl (gr N X) i) := rL.set_ne (GL.ne2 rL rl)
          have m6 : ((Rl (gr N X) i).length + [PV.sl (Ll (gr N X) i i)].length) * 24 ≤ 140737488355328 := by rw [Rl_len]; simp; omega
          have hRs : Rl (gr N X) i ++ [PV.sl (Ll (gr N X) i i)] = Rl (gr N X) (i + 1) := Rl_succ.symm
          have lset : (ρ.set bl Blk.dead).length = ρ.length := List.length_set
          have lnd : (nd (ρ.set bl .dead) cL).length = ρ.length := by rw [nd_len, lset]
          have h2s : (ρ.set bl .dead)[2]? = some (.kblk 2 [.own (τ.length + 1) 0 (i + 2), cL]) := by rw [get_ne n2, r2]
          have h0s : (ρ.set bl .dead)[0]? = some (.kblk 2 [.nils, .nils]) := by rw [get_ne n1, r0]
          have v2 : ∀ l, (nd (ρ.set bl .dead) cL ++ l)[2]? = some (.kblk 2 [.own (τ.length + 1) 0 (i + 2), cL]) := fun l => nd_get gL' h2s
          have v2s : ∀ l x, (nd (ρ.set bl .dead) cL ++ l).set 2 x = (nd (ρ.set bl .dead) cL).set 2 x ++ l := fun l x => set_left (by rw [lnd]; exact lr2)
          have hA := fun {rp rs d l dr ks e Q s x} => r_app_sl (rp := rp) (rs := rs) (d := d) (l := l) (dr := dr) (ks := ks) (e := e) (Q := Q) (s := s) (x := x) lset.symm gL' m6
          simp only [S1, S2, S3, S4, S5, r_idx, r_mks, ev, resultsV, resL, resV, vl, gt, st, sto, fgt, i64, subCV, fill, setCells, mkAgg, allP, frz, frz1, frzL, frzs, kill, kill1, killL, kills, bnd, unV, bsz, toPs, toP, isPure1, pureL, List.elem, List.replicate, Int.reduceLE, Int.reduceLT, ↓reduceIte, reduceCtorEq, Nat.reduceLT, Nat.reduceEqDiff, Nat.reduceAdd, Nat.reduceMul, Nat.reduceLeDiff, Nat.reduceBEq, q2, ql, bsz, sliceV, hii, hf, Ll_take, Nat.sub_zero, Nat.zero_le, Int.natCast_nonneg, Int.toNat_natCast, hA, Rl_len, hRs, v2, v2s]
          rw [r_nilx]
          refine ⟨by simp [apartAt, apartB, foot, addrs, ownsOf, own0, vl, gt, n2, Ne.symm n2, List.elem], ?_⟩
          simp only [S1, S2, S3, S4, S5, r_idx, r_mks, ev, resultsV, resL, resV, vl, gt, st, sto, fgt, i64, subCV, fill, setCells, mkAgg, allP, frz, frz1, frzL, frzs, kill, kill1, killL, kills, bnd, unV, bsz, toPs, toP, isPure1, pureL, List.elem, List.replicate, Int.reduceLE, Int.reduceLT, ↓reduceIte, reduceCtorEq, Nat.reduceLT, Nat.reduceEqDiff, Nat.reduceAdd, Nat.reduceMul, Nat.reduceLeDiff, Nat.reduceBEq, w1]
          have hbd : bl ≠ τ.length + 1 := by omega
          have hdn : (nd (ρ.set bl .dead) cL)[τ.length + 1]? = some (.prow 2 (Dl (gr N X) (i + 2))) := by
            have h1 : (ρ.set bl .dead)[τ.length + 1]? = some (.prow 2 (Dl (gr N X) (i + 2))) := by rw [get_ne hbd, rd]
            have hne := GL.ne2 gL' h1
            cases cL with
            | own b' o n => simp only [nd]; rw [get_ne (hne b' o n rfl), h1]
            | _ => exact h1
          have h0n : (nd (ρ.set bl .dead) cL)[0]? = some (.kblk 2 [.nils, .nils]) := by have := nd_get gL' h0s (τ := []); rwa [List.append_nil] at this
          have hll : ((nd (ρ.set bl .dead) cL).set 2 (.kblk 2 [.own (τ.length + 1) 0 (i + 2), .own (ρ.length + 1) 0 (i + 1)])).length = ρ.length := by rw [List.length_set, lnd]
          have ltd : τ.length + 1 < ρ.length := (List.getElem?_eq_some_iff.1 rd).1
          refine ih (i + 1, (nd (ρ.set bl .dead) cL).set 2 (.kblk 2 [.own (τ.length + 1) 0 (i + 2), .own (ρ.length + 1) 0 (i + 1)]) ++ [.prow 1 [.sl (Ll (gr N X) i i)], .prow 1 (Rl (gr N X) (i + 1))], τ.length + 1, .own (ρ.length + 1) 0 (i + 1)) _
            ⟨by simp only []; omega, ?_, ?_, ?_, ?_, ?_⟩ (by simp only []; omega) ?_
          · intro t ht
            rcases Nat.lt_or_ge t i with h | h
            · exact hpos t h
            · obtain rfl : t = i := by simp only [] at ht; omega
              exact hVp
          · simp only []
            rw [get_left (by rw [hll]; exact lr0), get_ne (by omega), h0n]
          · simp only []
            rw [get_left (by rw [hll]; exact lr2), get_self (by rw [lnd]; exact lr2)]
          · simp only []
            rw [get_left (by rw [hll]; exact ltd), get_ne (by omega), hdn]
          · simp only []
            refine .own ?_ Rl_len.symm
            rw [List.getElem?_append_right (by rw [hll]; omega), hll, Nat.add_sub_cancel_left]; rfl
          · rfl
    · obtain rfl : i = b.length := by omega
      have s0 : ∀ x, (σ.set 0 x)[0]? = some x := fun x => get_self (List.getElem?_eq_some_iff.1 h0).1
      have nd0 : bd ≠ 0 := by rintro rfl; rw [h0] at hd; cases hd
      have hfd : frz1 (σ.set 0 (.kblk 2 [.own bd 0 (b.length + 1), cL])) (.own bd 0 (b.length + 1)) = some (.sl (Dl (gr N X) (b.length + 1))) := frz1_own (s := 2) (by rw [get_ne nd0.symm, hd]) Dl_len.symm
      have hfl : frz1 (σ.set 0 (.kblk 2 [.own bd 0 (b.length + 1), cL])) cL = some (.sl (Rl (gr N X) b.length)) := GL.frz1 (sz := 1) (hL.set_ne (by
        rintro b' o n rfl rfl
        rcases hL with ⟨h, _⟩ | ⟨b2, h, hb2⟩
        · cases h
        · cases h; rw [h0] at hb2; cases hb2))
      simp only [S1, S2, S3, S4, S5, r_idx, r_mks, ev, resultsV, resL, resV, vl, gt, st, sto, fgt, i64, subCV, fill, setCells, mkAgg, allP, frz, frz1, frzL, frzs, kill, kill1, killL, kills, bnd, unV, bsz, toPs, toP, isPure1, pureL, List.elem, List.replicate, Int.reduceLE, Int.reduceLT, ↓reduceIte, reduceCtorEq, Nat.reduceLT, Nat.reduceEqDiff, Nat.reduceAdd, Nat.reduceMul, Nat.reduceLeDiff, Nat.reduceBEq, hin, h2, h0, s0]
      rw [hR1 hpos]
      rcases hL with ⟨h, _⟩ | ⟨bL, h, _⟩ <;> subst h <;> simp [back, backL, back1, frz, frzL, hfd, hfl, frz1_p]
  exact ⟨fun h => key _ (fun _ => rfl) (fun h2 => absurd h h2), fun h => key _ (fun h2 => absurd h2 h) (fun _ => rfl)⟩
end
end Go.Proofs.Ytdieenbfdeaffaa.VBn

namespace Go.Proofs.Ytdieenbfdeaffaa.VBn
open Go Vpi
open Gs (V Dv Pos Good)
set_option maxRecDepth 100000
set_option linter.unusedSimpArgs false
set_option linter.unusedVariables false

theorem rp108 : rp 108 = some f108 := rfl
theorem rp59 : rp 59 = some f59 := rfl

open Classical in
/-- may rows be a basis? -/
noncomputable def vE (n : Nat → Nat) (X : Nat → Nat → Int) (m : Nat) : Int := if shE n X m ≠ 0 then shE n X m else if Pos (gr (n 0) X) m then 0 else 50

section
variable {b : List PV} {n : Nat → Nat} {X : Nat → Nat → Int}

theorem shE_zero {m : Nat} (h : shE n X m = 0) : ¬ Big n X m ∧ m ≠ 0 ∧ ¬ Uneven n m := by
  unfold shE at h
  refine ⟨fun hb => ?_, fun h0 => ?_, fun hu => ?_⟩
  · rw [if_pos hb] at h; cases h
  · by_cases hb : Big n X m
    · rw [if_pos hb] at h; cases h
    · rw [if_neg hb, if_pos h0] at h; cases h
  · by_cases hb : Big n X m
    · rw [if_pos hb] at h; cases h
    · by_cases h0 : m = 0
      · rw [if_neg hb, if_pos h0] at h; cases h
      · rw [if_neg hb, if_neg h0, if_pos hu] at h; cases h

theorem sk8_of_bl {x : Int} (h : bl x.natAbs ≤ 256) : Sk 8 x := by
  unfold Sk
  by_cases h0 : x.natAbs = 0
  · rw [h0]; exact Nat.pow_pos LB_pos
  · have h1 := (bl_spec h0).2.1
    have h2 : 2 ^ bl x.natAbs ≤ 2 ^ 256 := Nat.pow_le_pow_right (by decide) h
    have h3 : LB ^ 8 = 2 ^ 256 := by
      show (2 ^ 32) ^ 8 = _
      rw [← Nat.pow_mul]
    rw [h3]; omega

theorem MR.bs (hb : MR b n X) (h : shE n X b.length = 0) : Bs b (n 0) X := by
  obtain ⟨h1, h2, h3⟩ := shE_zero h
  have hm : b.length ≤ 12 := Nat.not_lt.1 fun hh => h1 (.inl hh)
  have hn : ∀ i, i < b.length → n i = n 0 := fun i hi => Classical.byContradiction fun hne => h3 ⟨i, hi, hne⟩
  refine ⟨hm, Nat.not_lt.1 fun hh => h1 (.inr (.inl ⟨0, by omega, hh⟩)), fun i hi => ?_, fun i j hi hj => ?_⟩
  · obtain ⟨r, hr, hl, _, hx⟩ := hb i hi
    exact ⟨r, hr, by rw [hl, hn i hi], hx⟩
  · exact sk8_of_bl (Nat.not_lt.1 fun hh => h1 (.inr (.inr ⟨i, j, hi, by rw [hn i hi]; exact hj, hh⟩)))

theorem p59 (hb : MR b n X) (hlb : b.length ≤ 2000000) : Pu rp 59 [.sl b] (.p (.int .i64 (vE n X b.length))) := by
  have k137 := p137 hb hlb
  have key : ∃ g, Pu rp 108 [.sl b, .bool true] (.tup [.p (.agg g), .p (.int .i64 (vE n X b.length))]) ∧ g.length = 2 := by
    by_cases he : shE n X b.length = 0
    · have hbs := hb.bs he
      obtain ⟨h1, h2⟩ := p138 hbs
      have e0 : (shE n X b.length != 0) = false := by rw [he]; rfl
      by_cases hp : Pos (gr (n 0) X) b.length
      · refine ⟨[.sl (Dl (gr (n 0) X) (b.length + 1)), .sl (Rl (gr (n 0) X) b.length)], pu_of rp108 ?_, rfl⟩
        rw [vE, if_neg (by simp [he]), if_pos hp]
        simp only [f108, args0, S1, S2, S3, S4, S5, r_idx, r_mks, ev, resultsV, resL, resV, vl, gt, st, sto, fgt, i64, subCV, fill, setCells, mkAgg, allP, frz, frz1, frzL, frzs, kill, kill1, killL, kills, bnd, unV, bsz, toPs, toP, isPure1, pureL, List.elem, List.replicate, Int.reduceLE, Int.reduceLT, ↓reduceIte, reduceCtorEq, Nat.reduceLT, Nat.reduceEqDiff, Nat.reduceAdd, Nat.reduceMul, Nat.reduceLeDiff, Nat.reduceBEq, kp2 k137, e0, kp1 (h1 hp), unV, Bool.not_true]
        rfl
      · refine ⟨[.sl [], .sl []], pu_of rp108 ?_, rfl⟩
        rw [vE, if_neg (by simp [he]), if_neg hp]
        simp only [f108, args0, S1, S2, S3, S4, S5, r_idx, r_mks, ev, resultsV, resL, resV, vl, gt, st, sto, fgt, i64, subCV, fill, setCells, mkAgg, allP, frz, frz1, frzL, frzs, kill, kill1, killL, kills, bnd, unV, bsz, toPs, toP, isPure1, pureL, List.elem, List.replicate, Int.reduceLE, Int.reduceLT, ↓reduceIte, reduceCtorEq, Nat.reduceLT, Nat.reduceEqDiff, Nat.reduceAdd, Nat.reduceMul, Nat.reduceLeDiff, Nat.reduceBEq, kp2 k137, e0, kp1 (h2 hp), unV, Bool.not_false]
        rfl
    · have e0 : (shE n X b.length != 0) = true := by simp [he]
      refine ⟨[.sl [], .sl []], pu_of rp108 ?_, rfl⟩
      rw [vE, if_pos he]
      simp only [f108, args0, S1, S2, S3, S4, S5, r_idx, r_mks, ev, resultsV, resL, resV, vl, gt, st, sto, fgt, i64, subCV, fill, setCells, mkAgg, allP, frz, frz1, frzL, frzs, kill, kill1, killL, kills, bnd, unV, bsz, toPs, toP, isPure1, pureL, List.elem, List.replicate, Int.reduceLE, Int.reduceLT, ↓reduceIte, reduceCtorEq, Nat.reduceLT, Nat.reduceEqDiff, Nat.reduceAdd, Nat.reduceMul, Nat.reduceLeDiff, Nat.reduceBEq, kp2 k137, e0]
      rfl
  obtain ⟨g, k108, hg⟩ := key
  obtain ⟨g1, g2, rfl⟩ : ∃ g1 g2, g = [g1, g2] := by
    match g, hg with
    | [a, c], _ => exact ⟨a, c, rfl⟩
  refine pu_of rp59 ?_
  simp only [f59, args0, S1, S2, S3, S4, S5, r_idx, r_mks, ev, resultsV, resL, resV, vl, gt, st, sto, fgt, i64, subCV, fill, setCells, mkAgg, allP, frz, frz1, frzL, frzs, kill, kill1, killL, kills, bnd, unV, bsz, toPs, toP, isPure1, pureL, List.elem, List.replicate, Int.reduceLE, Int.reduceLT, ↓reduceIte, reduceCtorEq, Nat.reduceLT, Nat.reduceEqDiff, Nat.reduceAdd, Nat.reduceMul, Nat.reduceLeDiff, Nat.reduceBEq, kp2 k108]
  rfl
end
end Go.Proofs.Ytdieenbfdeaffaa.VBn

namespace Go.Proofs.Ytdieenbfdeaffaa.VBn
open Go Vpi
open Gs (V Dv Pos Good U Dk rg)
set_option maxRecDepth 100000
set_option linter.unusedSimpArgs false
set_option linter.unusedVariables false

theorem rp143 : rp 143 = some f143 := rfl
theorem rp175 : rp 175 = some f175 := rfl

def RSn (n : Nat) (x : Rat) : Prop := Sk n x.num ∧ Sk n (x.den : Int)

theorem RSn.rs {n : Nat} {x : Rat} (h : RSn n x) (hn : n ≤ 10000) : RS x := ⟨h.1.mono hn, h.2.mono hn⟩

theorem rsn_divInt {n : Nat} {a b : Int} (hb : 0 < b) (ha : Sk n a) (hb' : Sk n b) : RSn n (Rat.divInt a b) := by
  obtain ⟨h1, h2⟩ := divInt_pos (a := a) hb
  refine ⟨?_, ?_⟩
  · rw [h1]
    exact ha.le (Int.natAbs_ediv_le_natAbs _ _)
  · rw [h2]
    exact hb'.le (Nat.div_le_self _ _)

theorem RSn.mul {n m : Nat} {x y : Rat} (h : RSn n x) (h' : RSn m y) : RSn (n + m) (x * y) := by
  have e : x * y = Rat.divInt (x.num * y.num) ((x.den : Int) * y.den) := by
    have := Rat.divInt_mul_divInt x.num y.num (d₁ := x.den) (d₂ := y.den)
    rwa [Rat.num_divInt_den, Rat.num_divInt_den] at this
  rw [e]
  have := x.den_nz
  have := y.den_nz
  exact rsn_divInt (Int.mul_pos (by omega) (by omega)) (h.1.mul h'.1) (h.2.mul h'.2)

theorem U_symm {g : Nat → Nat → Int} (hs : ∀ i j, g i j = g j i) : ∀ {k i j : Nat}, U (rg g) k i j = U (rg g) k j i
  | 0, i, j => by simp only [U, rg]; rw [hs]
  | k + 1, i, j => by
    rw [U, U, U_symm hs (i := i) (j := j), U_symm hs (i := i) (j := k), U_symm hs (i := k) (j := j)]
    rw [Rat.mul_comm]

section
variable {b : List PV} {N : Nat} {X : Nat → Nat → Int}

/-- what the reference keeps -/
def star (g : Nat → Nat → Int) (k : Nat) : Rat := U (rg g) k k k
def mu (g : Nat → Nat → Int) (i k : Nat) : Rat := U (rg g) k i k / U (rg g) k k k

theorem U_div {g : Nat → Nat → Int} (hs : ∀ i j, g i j = g j i) {k i j : Nat} (hp : Pos g k) (hi : k ≤ i) (hj : k ≤ j) : U (rg g) k i j = Rat.divInt (V g k i j) (Dv g k) := by
  have G := Gs.good hs (M := 0) hp
  have h1 := G.v i j hi hj
  have h2 := G.d
  have h3 : (0 : Rat) < Dv g k := Rat.intCast_pos.2 G.dp
  rw [← h2] at h1
  rw [Rat.divInt_eq_div, h1]
  grind

theorem mu_div {g : Nat → Nat → Int} (hs : ∀ i j, g i j = g j i) {k i : Nat} (hp : Pos g (k + 1)) (hi : k ≤ i) : mu g i k = Rat.divInt (V g k i k) (V g k k k) := by
  have G := Gs.good hs (M := 0) hp.pred
  have h1 := G.v i k hi (Nat.le_refl _)
  have h2 := G.v k k (Nat.le_refl _) (Nat.le_refl _)
  have h3 : (0 : Rat) < Dk (rg g) k := by rw [← G.d]; exact Rat.intCast_pos.2 G.dp
  have h4 : (0 : Rat) < V g k k k := Rat.intCast_pos.2 (hp k (by omega))
  unfold mu
  rw [Rat.divInt_eq_div, h1, h2]
  rw [h2] at h4
  generalize Dk (rg g) k = D at *
  generalize U (rg g) k k k = u at *
  have h5 : u ≠ 0 := by rintro rfl; grind
  have h6 : D ≠ 0 := by grind
  grind

theorem U_rs (hb : Bs b N X) {k i j : Nat} (hp : Pos (gr N X) k) (hi : k ≤ i) (hj : k ≤ j) (hi' : i < b.length) (hj' : j < b.length) : RSn 217 (U (rg (gr N X)) k i j) := by
  rw [U_div gr_symm hp hi hj]
  exact rsn_divInt (Gs.good gr_symm (M := 0) hp).dp (V_sk hb hp hi hj hi' hj') (Dv_sk hb hp (by omega))

theorem mu_rs (hb : Bs b N X) {k i : Nat} (hp : Pos (gr N X) (k + 1)) (hi : k ≤ i) (hi' : i < b.length) : RSn 217 (mu (gr N X) i k) := by
  rw [mu_div gr_symm hp hi]
  exact rsn_divInt (hp k (by omega)) (V_sk hb hp.pred hi (Nat.le_refl _) hi' (by omega)) (V_sk hb hp.pred (Nat.le_refl _) (Nat.le_refl _) (by omega) (by omega))

theorem star_pos {g : Nat → Nat → Int} (hs : ∀ i j, g i j = g j i) {k : Nat} (hp : Pos g (k + 1)) : 0 < star g k := (Gs.good hs (M := 0) hp).piv k (by omega)

theorem U_step {g : Nat → Nat → Int} (hs : ∀ i j, g i j = g j i) {k i j : Nat} (hp : Pos g (k + 1)) : U (rg g) k i j - mu g j k * mu g i k * star g k = U (rg g) (k + 1) i j := by
  have h := star_pos hs hp
  unfold star at h
  rw [U, U_symm hs (i := k) (j := j)]
  unfold mu star
  have : U (rg g) k k k ≠ 0 := by grind
  grind

theorem U_sign {g : Nat → Nat → Int} (hs : ∀ i j, g i j = g j i) {k : Nat} (hp : Pos g k) : (U (rg g) k k k).num.sign ≤ 0 ↔ V g k k k ≤ 0 := by
  have G := Gs.good hs (M := 0) hp
  have h1 := G.v k k (Nat.le_refl _) (Nat.le_refl _)
  have h3 : (0 : Rat) < Dk (rg g) k := by rw [← G.d]; exact Rat.intCast_pos.2 G.dp
  rw [Int.sign_nonpos_iff]
  have e1 : (U (rg g) k k k).num ≤ 0 ↔ U (rg g) k k k ≤ 0 := by
    have h := Rat.num_nonneg (q := - U (rg g) k k k)
    rw [Rat.neg_num] at h
    constructor
    · intro h1; have := h.1 (by omega); grind
    · intro h1; have := h.2 (by grind); omega
  have e2 : V g k k k ≤ 0 ↔ (V g k k k : Rat) ≤ 0 := by
    rw [← Int.not_lt, ← Rat.not_lt, Rat.intCast_pos]
  rw [e1, e2, h1]
  constructor
  · intro h
    have := Rat.mul_nonneg (Rat.le_of_lt h3) (show 0 ≤ - U (rg g) k k k by grind)
    grind
  · intro h
    refine Rat.not_lt.1 fun h4 => ?_
    have := Rat.mul_pos h3 h4
    grind

theorem subPV_rq {x : Rat} : subPV true 4 (rq x) 0 = some (rq x) := by simp [subPV, rq]
theorem rq_raw {x : Rat} : rq x = .agg [.bool (decide (x.num < 0) && decide (x.num.natAbs ≠ 0)), .sl (lm (dgl x.num.natAbs)), .bool false, .sl (lm (dgl x.den))] := rfl

theorem p175 {x : Rat} (h : RS x) : Pu rp 175 [rq x] (.p (rq (x * x))) := by
  refine pu_of rp175 ?_
  have k := p173 h h
  unfold rq at k ⊢
  simp only [f175, args0, S1, S2, S3, S4, S5, r_idx, r_mks, ev, resultsV, resL, resV, vl, gt, st, sto, fgt, i64, subCV, fill, setCells, mkAgg, allP, frz, frz1, frzL, frzs, kill, kill1, killL, kills, bnd, unV, bsz, toPs, toP, isPure1, pureL, List.elem, List.replicate, Int.reduceLE, Int.reduceLT, ↓reduceIte, reduceCtorEq, Nat.reduceLT, Nat.reduceEqDiff, Nat.reduceAdd, Nat.reduceMul, Nat.reduceLeDiff, Nat.reduceBEq, kp2 k]
  rfl

/-- the lists -/
def Sl (g : Nat → Nat → Int) (i : Nat) : List PV := (List.range i).map fun k => rq (star g k)
def Ul (g : Nat → Nat → Int) (i j : Nat) : List PV := (List.range j).map fun k => rq (mu g i k)
def Ml (g : Nat → Nat → Int) (i : Nat) : List PV := (List.range i).map fun t => .sl (Ul g t t)

theorem Sl_get {g : Nat → Nat → Int} {i k : Nat} (h : k < i) : (Sl g i)[k]? = some (rq (star g k)) := by simp [Sl, h]
theorem Ul_get {g : Nat → Nat → Int} {i j k : Nat} (h : k < j) : (Ul g i j)[k]? = some (rq (mu g i k)) := by simp [Ul, h]
theorem Ml_get {g : Nat → Nat → Int} {i k : Nat} (h : k < i) : (Ml g i)[k]? = some (.sl (Ul g k k)) := by simp [Ml, h]
theorem Sl_len {g : Nat → Nat → Int} {i : Nat} : (Sl g i).length = i := by simp [Sl]
theorem Ul_len {g : Nat → Nat → Int} {i j : Nat} : (Ul g i j).length = j := by simp [Ul]
theorem Ml_len {g : Nat → Nat → Int} {i : Nat} : (Ml g i).length = i := by simp [Ml]
theorem Sl_succ {g : Nat → Nat → Int} {i : Nat} : Sl g (i + 1) = Sl g i ++ [rq (star g i)] := by simp [Sl, List.range_succ]
theorem Ul_succ {g : Nat → Nat → Int} {i j : Nat} : Ul g i (j + 1) = Ul g i j ++ [rq (mu g i j)] := by simp [Ul, List.range_succ]
theorem Ml_succ {g : Nat → Nat → Int} {i : Nat} : Ml g (i + 1) = Ml g i ++ [.sl (Ul g i i)] := by simp [Ml, List.range_succ]

def cr (x : Rat) : List CV := [.p (.bool (decide (x.num < 0) && decide (x.num.natAbs ≠ 0))), .p (.sl (lm (dgl x.num.natAbs))), .p (.bool false), .p (.sl (lm (dgl x.den)))]

/-- two lists do not share their block -/
def Apart (c c' : CV) : Prop := ∀ b o n b' o' n', c = .own b o n → c' = .own b' o' n' → b ≠ b'

/-- the store while a row is made -/
structure KI2 (g : Nat → Nat → Int) (τ : Store) (cM cS : CV) (i j : Nat) (c : CV) : Prop where
  g0 : τ[0]? = some (.kblk 2 [.nils, .nils])
  g1 : τ[1]? = some (.kblk 2 [cM, cS])
  gM : GL τ 1 cM (Ml g i)
  gS : GL τ 4 cS (Sl g i)
  gc : GL τ 4 c (Ul g i j)
  ap : Apart c cS

theorem GL.own_of {σ : Store} {sz : Nat} {c : CV} {es : List PV} {n : Nat} (h : GL σ sz c es) (hn : es.length = n) (h0 : 0 < n) : ∃ k, c = .own k 0 n ∧ σ[k]? = some (.prow sz es) ∧ k < σ.length := by
  rcases h with ⟨rfl, rfl⟩ | ⟨k, rfl, hk⟩
  · simp at hn; omega
  · exact ⟨k, by rw [hn], hk, (List.getElem?_eq_some_iff.1 hk).1⟩

theorem GL.ne_sz {σ : Store} {s s' : Nat} {c c' : CV} {es es' : List PV} (h : GL σ s c es) (h' : GL σ s' c' es') (hs : s ≠ s') : Apart c c' := by
  rintro b o n b' o' n' rfl rfl rfl
  rcases h with ⟨h, _⟩ | ⟨k, h, hk⟩
  · cases h
  rcases h' with ⟨h', _⟩ | ⟨k', h', hk'⟩
  · cases h'
  cases h; cases h'
  rw [hk] at hk'
  cases hk'
  exact hs rfl
theorem Apart.symm {c c' : CV} (h : Apart c c') : Apart c' c := fun b o n b' o' n' h1 h2 => (h b' o' n' b o n h2 h1).symm

theorem GL.nd {σ : Store} {sz : Nat} {c c' : CV} {es : List PV} (h : GL σ sz c es) (ha : Apart c c') : GL (nd σ c') sz c es := by
  cases c' with
  | own b o n => exact h.set_ne fun b' o' n' hc => ha b' o' n' b o n hc rfl
  | _ => exact h
theorem GL.nek {σ : Store} {sz s : Nat} {c : CV} {es : List PV} {k : Nat} {cs : List CV} (h : GL σ sz c es) (hk : σ[k]? = some (.kblk s cs)) : ∀ b o n, c = .own b o n → b ≠ k := by
  rintro b o n rfl rfl
  rcases h with ⟨h, _⟩ | ⟨b', h, hb⟩
  · cases h
  · cases h; rw [hb] at hk; cases hk

theorem p143 (hb : Bs b N X) (hlen : b.length ≠ 0) : ∃ (G1 G2 : List PV) (ok : Bool), (ok = true ↔ Pos (gr N X) b.length) ∧ Pu rp 143 [.sl b] (.tup [.p (.agg [.sl G1, .sl G2]), .p (.bool ok)]) := by
  have key : ∀ R : CV, (Pos (gr N X) b.length → R = .tup [.p (.agg [.sl (Ml (gr N X) b.length), .sl (Sl (gr N X) b.length)]), .p (.bool true)]) → (∀ i, i < b.length → Pos (gr N X) i → V (gr N X) i i i ≤ 0 → R = .tup [.p (.agg [.sl (Ml (gr N X) i), .sl (Sl (gr N X) i)]), .p (.bool false)]) → Pu rp 143 [.sl b] R := by
    intro R hR1 hR2
    refine pu_of rp143 ?_
    have hm := hb.m
    have hN := hb.n
    simp only [f143, args0, S1, S2, S3, S4, S5, r_idx, r_mks, ev, resultsV, resL, resV, vl, gt, st, sto, fgt, i64, subCV, fill, setCells, mkAgg, allP, frz, frz1, frzL, frzs, kill, kill1, killL, kills, bnd, unV, bsz, toPs, toP, isPure1, pureL, List.elem, List.replicate, Int.reduceLE, Int.reduceLT, ↓reduceIte, reduceCtorEq, Nat.reduceLT, Nat.reduceEqDiff, Nat.reduceAdd, Nat.reduceMul, Nat.reduceLeDiff, Nat.reduceBEq]
    refine loop_rule (β := Nat × Store × CV × CV) (fun t => ([(0, .p (.sl b)), (2, .ptr 0 0 0), (4, .ptr 1 0 0), (5, i64 t.1)], t.2.1))
      (fun t => t.1 ≤ b.length ∧ Pos (gr N X) t.1 ∧ t.2.1[0]? = some (.kblk 2 [.nils, .nils]) ∧ t.2.1[1]? = some (.kblk 2 [t.2.2.1, t.2.2.2]) ∧ GL t.2.1 1 t.2.2.1 (Ml (gr N X) t.1) ∧ GL t.2.1 4 t.2.2.2 (Sl (gr N X) t.1)) (fun t => b.length - t.1)
      ((0, [.kblk 2 [.nils, .nils], .kblk 2 [.nils, .nils]], .nils, .nils) : Nat × Store × CV × CV) rfl rfl ⟨Nat.zero_le _, fun t ht => by omega, rfl, rfl, .nil, .nil⟩ ?_
    rintro ⟨i, σ, cM, cS⟩ ⟨hi, hpos, h0, h1, hM, hS⟩ ih
    simp only [] at hi hpos h0 h1 hM hS ih ⊢
    by_cases hin : (i : Int) < b.length
    · have hib : i < b.length := by omega
      obtain ⟨ri, hri, hril, hrix⟩ := hb.row i hib
      simp only [S1, S2, S3, S4, S5, r_idx, r_mks, ev, resultsV, resL, resV, vl, gt, st, sto, fgt, i64, subCV, fill, setCells, mkAgg, allP, frz, frz1, frzL, frzs, kill, kill1, killL, kills, bnd, unV, bsz, toPs, toP, isPure1, pureL, List.elem, List.replicate, Int.reduceLE, Int.reduceLT, ↓reduceIte, reduceCtorEq, Nat.reduceLT, Nat.reduceEqDiff, Nat.reduceAdd, Nat.reduceMul, Nat.reduceLeDiff, Nat.reduceBEq, hin]
      refine loop_rule (β := Nat × Store × CV) (fun t => ([(0, .p (.sl b)), (2, .ptr 0 0 0), (4, .ptr 1 0 0), (5, i64 i), (6, t.2.2), (7, i64 t.1)], t.2.1))
        (fun t => t.1 ≤ i ∧ KI2 (gr N X) t.2.1 cM cS i t.1 t.2.2) (fun t => i - t.1) ((0, σ, .nils) : Nat × Store × CV) rfl rfl ⟨Nat.zero_le _, h0, h1, hM, hS, .nil, by rintro b o n b' o' n' h; cases h⟩ ?_
      rintro ⟨j, τ, c⟩ ⟨hj, hK⟩ ih2
      simp only [] at hj hK ih2 ⊢
      have l1 : 1 < τ.length := (List.getElem?_eq_some_iff.1 hK.g1).1
      have l0 : 0 < τ.length := (List.getElem?_eq_some_iff.1 hK.g0).1
      have e0 : ∀ l, (τ ++ l)[0]? = some (.kblk 2 [.nils, .nils]) := fun l => by rw [get_left l0, hK.g0]
      have e1 : ∀ l, (τ ++ l)[1]? = some (.kblk 2 [cM, cS]) := fun l => by rw [get_left l1, hK.g1]
      by_cases hji : (j : Int) < i
      · have hji' : j < i := by omega
        have hjb : j < b.length := by omega
        obtain ⟨rj, hrj, hrjl, hrjx⟩ := hb.row j hjb
        have k171 := p171 hrix hrjx (by rw [hril, hrjl]) (by omega) (fun t ht => ⟨hb.sz i t hib (by omega), hb.sz j t hjb (by omega)⟩)
        rw [hril] at k171
        have k27 := p27 (Nu.zi ((dot_sk (x := X i) (y := X j) (n := N) (fun t ht => ⟨hb.sz i t hib (by omega), hb.sz j t hjb (by omega)⟩) hN).sz (by omega)))
        obtain ⟨bM, rfl, gM, lM⟩ := GL.own_of hK.gM Ml_len (by omega)
        obtain ⟨bS, rfl, gS, lS⟩ := GL.own_of hK.gS Sl_len (by omega)
        have eM : ∀ l, (τ ++ l)[bM]? = some (.prow 1 (Ml (gr N X) i)) := fun l => by rw [get_left lM, gM]
        have eS : ∀ l, (τ ++ l)[bS]? = some (.prow 4 (Sl (gr N X) i)) := fun l => by rw [get_left lS, gS]
        simp only [S1, S2, S3, S4, S5, r_idx, r_mks, ev, resultsV, resL, resV, vl, gt, st, sto, fgt, i64, subCV, fill, setCells, mkAgg, allP, frz, frz1, frzL, frzs, kill, kill1, killL, kills, bnd, unV, bsz, toPs, toP, isPure1, pureL, List.elem, List.replicate, Int.reduceLE, Int.reduceLT, ↓reduceIte, reduceCtorEq, Nat.reduceLT, Nat.reduceEqDiff, Nat.reduceAdd, Nat.reduceMul, Nat.reduceLeDiff, Nat.reduceBEq, hji, hri, hrj, Int.natCast_nonneg, Int.toNat_natCast, kz2 k171, kp1 k27, push_sl, rq_cells]
        refine loop_rule (β := Nat) (fun k => ([(0, .p (.sl b)), (2, .ptr 0 0 0), (4, .ptr 1 0 0), (5, i64 i), (6, c), (7, i64 j), (8, .ptr τ.length 0 0), (9, i64 k)], τ ++ [.kblk 4 (cr (U (rg (gr N X)) k i j))]))
          (fun k => k ≤ j) (fun k => j - k) 0 rfl rfl (Nat.zero_le _) ?_
        rintro k hk ih3
        simp only [] at hk ih3 ⊢
        have hUr : RS (U (rg (gr N X)) k i j) := (U_rs hb (hpos.mono (by omega)) (by omega) hk hib hjb).rs (by omega)
        have hjM := Ml_get (g := gr N X) hji'
        have hjS := Sl_get (g := gr N X) hji'
        by_cases hkj : (k : Int) < j
        · have hkj' : k < j := by omega
          have hki' : k < i := by omega
          have hpk : Pos (gr N X) (k + 1) := hpos.mono (by omega)
          obtain ⟨bc, rfl, gc, lc⟩ := GL.own_of hK.gc Ul_len (by omega)
          have ec : ∀ l, (τ ++ l)[bc]? = some (.prow 4 (Ul (gr N X) i j)) := fun l => by rw [get_left lc, gc]
          have s1 := mu_rs hb hpk (show k ≤ j by omega) hjb
          have s2 := mu_rs hb hpk (show k ≤ i by omega) hib
          have s3 := U_rs hb hpk.pred (Nat.le_refl k) (Nat.le_refl k) (show k < b.length by omega) (by omega)
          have q1 := p173 (s1.rs (by omega)) (s2.rs (by omega))
          have q2 := p173 ((s1.mul s2).rs (by omega)) (s3.rs (by omega))
          have q3 := p172 hUr (((s1.mul s2).mul s3).rs (by omega))
          rw [show U (rg (gr N X)) k k k = star (gr N X) k from rfl] at q2 q3
          rw [U_step gr_symm hpk, rq_raw (x := U (rg (gr N X)) k i j)] at q3
          have d1 := Ul_get (g := gr N X) (i := j) hkj'
          have d2 := Ul_get (g := gr N X) (i := i) hkj'
          have d3 := Sl_get (g := gr N X) hki'
          have w2 : IntKind.i64.wrap ((k : Int) + 1) = ((k + 1 : Nat) : Int) := by rw [IntWalk.i64_in _ (by omega)]; omega
          simp only [S1, S2, S3, S4, S5, r_idx, r_mks, ev, resultsV, resL, resV, vl, gt, st, sto, fgt, i64, subCV, fill, setCells, mkAgg, allP, frz, frz1, frzL, frzs, kill, kill1, killL, kills, bnd, unV, bsz, toPs, toP, isPure1, pureL, List.elem, List.replicate, Int.reduceLE, Int.reduceLT, ↓reduceIte, reduceCtorEq, Nat.reduceLT, Nat.reduceEqDiff, Nat.reduceAdd, Nat.reduceMul, Nat.reduceLeDiff, Nat.reduceBEq, hkj, e1, eM, eS, ec, bsz, cr, hkj', hki', hji', hjM, d1, d2, d3, subPV_rq, rq_cells, kz2 q1, kz2 q2, kz2 q3, Int.natCast_nonneg, Int.toNat_natCast]
          rw [r_nilx]
          refine ⟨by rfl, ?_⟩
          simp only [S1, S2, S3, S4, S5, r_idx, r_mks, ev, resultsV, resL, resV, vl, gt, st, sto, fgt, i64, subCV, fill, setCells, mkAgg, allP, frz, frz1, frzL, frzs, kill, kill1, killL, kills, bnd, unV, bsz, toPs, toP, isPure1, pureL, List.elem, List.replicate, Int.reduceLE, Int.reduceLT, ↓reduceIte, reduceCtorEq, Nat.reduceLT, Nat.reduceEqDiff, Nat.reduceAdd, Nat.reduceMul, Nat.reduceLeDiff, Nat.reduceBEq, w2]
          refine ih3 (k + 1) _ (by omega) (by omega) ?_
          rfl
        · obtain rfl : k = j := by omega
          have hpk : Pos (gr N X) (k + 1) := hpos.mono (by omega)
          have hst := star_pos gr_symm hpk
          have s3 := U_rs hb hpk.pred (Nat.le_refl k) (Nat.le_refl k) (show k < b.length by omega) (by omega)
          have q4 := p174 hUr (s3.rs (by omega)) (by rw [show U (rg (gr N X)) k k k = star (gr N X) k from rfl]; grind)
          rw [show U (rg (gr N X)) k i k / U (rg (gr N X)) k k k = mu (gr N X) i k from rfl, show U (rg (gr N X)) k k k = star (gr N X) k from rfl, rq_raw (x := U (rg (gr N X)) k i k)] at q4
          have w3 : IntKind.i64.wrap ((k : Int) + 1) = ((k + 1 : Nat) : Int) := by rw [IntWalk.i64_in _ (by omega)]; omega
          have m5 : ((Ul (gr N X) i k).length + [rq (mu (gr N X) i k)].length) * 64 ≤ 140737488355328 := by rw [Ul_len]; simp; omega
          have hUs : Ul (gr N X) i k ++ [rq (mu (gr N X) i k)] = Ul (gr N X) i (k + 1) := Ul_succ.symm
          obtain ⟨ρ, hρ⟩ : ∃ ρ, ρ = τ ++ [.kblk 4 (cr (U (rg (gr N X)) k i k))] := ⟨_, rfl⟩
          have hlρ : ρ.length = τ.length + 1 := by rw [hρ, List.length_append]; rfl
          have hgc : GL ρ 4 c (Ul (gr N X) i k) := by rw [hρ]; exact hK.gc.left
          have r0 : ρ[0]? = some (.kblk 2 [.nils, .nils]) := by rw [hρ, e0]
          have r1 : ρ[1]? = some (.kblk 2 [.own bM 0 i, .own bS 0 i]) := by rw [hρ, e1]
          have q8 : ∀ l, (ρ ++ l)[τ.length]? = some (.kblk 4 (cr (U (rg (gr N X)) k i k))) := fun l => by rw [hρ, List.append_assoc, get_app0]; rfl
          have q1 : ∀ l, (ρ ++ l)[1]? = some (.kblk 2 [.own bM 0 i, .own bS 0 i]) := fun l => by rw [get_left (by omega), r1]
          have qS : ∀ l, (ρ ++ l)[bS]? = some (.prow 4 (Sl (gr N X) i)) := fun l => by rw [get_left (by omega), hρ, eS]
          rw [← hρ]
          simp only [S1, S2, S3, S4, S5, r_idx, r_mks, ev, resultsV, resL, resV, vl, gt, st, sto, fgt, i64, subCV, fill, setCells, mkAgg, allP, frz, frz1, frzL, frzs, kill, kill1, killL, kills, bnd, unV, bsz, toPs, toP, isPure1, pureL, List.elem, List.replicate, Int.reduceLE, Int.reduceLT, ↓reduceIte, reduceCtorEq, Nat.reduceLT, Nat.reduceEqDiff, Nat.reduceAdd, Nat.reduceMul, Nat.reduceLeDiff, Nat.reduceBEq, hkj, cr, q1, q8, qS, bsz, hji', hjS, subPV_rq, rq_cells, kz2 q4, Int.natCast_nonneg, Int.toNat_natCast, push_sl, r_app_sl rfl hgc m5, Ul_len, hUs, w3]
          refine ih2 (k + 1, nd ρ c ++ [.prow 4 [rq (mu (gr N X) i k)], .prow 4 (Ul (gr N X) i (k + 1))], .own (ρ.length + 1) 0 (k + 1)) _ ⟨by simp only []; omega, ?_⟩ (by simp only []; omega) ?_
          · refine ⟨nd_get hgc r0, nd_get hgc r1, ?_, ?_, ?_, ?_⟩
            · have h : GL ρ 1 (.own bM 0 i) (Ml (gr N X) i) := by rw [hρ]; exact hK.gM.left
              exact (GL.nd h (GL.ne_sz h hgc (by decide))).left
            · have h : GL ρ 4 (.own bS 0 i) (Sl (gr N X) i) := by rw [hρ]; exact hK.gS.left
              exact (GL.nd h (Apart.symm hK.ap)).left
            · exact GL.new2 Ul_len.symm rfl
            · rintro b1 o1 n1 b2 o2 n2 h1 h2
              cases h1; cases h2
              omega
          · rfl
      · obtain rfl : j = i := by omega
        have k171 := p171 hrix hrix rfl (by omega) (fun t ht => ⟨hb.sz j t hib (by omega), hb.sz j t hib (by omega)⟩)
        rw [hril] at k171
        have k27 := p27 (Nu.zi ((dot_sk (x := X j) (y := X j) (n := N) (fun t ht => ⟨hb.sz j t hib (by omega), hb.sz j t hib (by omega)⟩) hN).sz (by omega)))
        simp only [S1, S2, S3, S4, S5, r_idx, r_mks, ev, resultsV, resL, resV, vl, gt, st, sto, fgt, i64, subCV, fill, setCells, mkAgg, allP, frz, frz1, frzL, frzs, kill, kill1, killL, kills, bnd, unV, bsz, toPs, toP, isPure1, pureL, List.elem, List.replicate, Int.reduceLE, Int.reduceLT, ↓reduceIte, reduceCtorEq, Nat.reduceLT, Nat.reduceEqDiff, Nat.reduceAdd, Nat.reduceMul, Nat.reduceLeDiff, Nat.reduceBEq, hji, hri, Int.natCast_nonneg, Int.toNat_natCast, kz2 k171, kp1 k27, push_sl, rq_cells]
        refine loop_rule (β := Nat) (fun k => ([(0, .p (.sl b)), (2, .ptr 0 0 0), (4, .ptr 1 0 0), (5, i64 j), (6, c), (10, .ptr τ.length 0 0), (11, i64 k)], τ ++ [.kblk 4 (cr (U (rg (gr N X)) k j j))]))
          (fun k => k ≤ j) (fun k => j - k) 0 rfl rfl (Nat.zero_le _) ?_
        rintro k hk ih3
        simp only [] at hk ih3 ⊢
        have hUr : RS (U (rg (gr N X)) k j j) := (U_rs hb (hpos.mono (by omega)) hk hk hib hib).rs (by omega)
        by_cases hkj : (k : Int) < j
        · have hkj' : k < j := by omega
          have hpk : Pos (gr N X) (k + 1) := hpos.mono (by omega)
          obtain ⟨bc, rfl, gc, lc⟩ := GL.own_of hK.gc Ul_len (by omega)
          have ec : ∀ l, (τ ++ l)[bc]? = some (.prow 4 (Ul (gr N X) j j)) := fun l => by rw [get_left lc, gc]
          obtain ⟨bS, rfl, gS, lS⟩ := GL.own_of hK.gS Sl_len (by omega)
          have eS : ∀ l, (τ ++ l)[bS]? = some (.prow 4 (Sl (gr N X) j)) := fun l => by rw [get_left lS, gS]
          have s1 := mu_rs hb hpk (show k ≤ j by omega) hib
          have s3 := U_rs hb hpk.pred (Nat.le_refl k) (Nat.le_refl k) (show k < b.length by omega) (by omega)
          have q1 := p175 (s1.rs (by omega))
          have q2 := p173 ((s1.mul s1).rs (by omega)) (s3.rs (by omega))
          have q3 := p172 hUr (((s1.mul s1).mul s3).rs (by omega))
          rw [show U (rg (gr N X)) k k k = star (gr N X) k from rfl] at q2 q3
          rw [U_step gr_symm hpk, rq_raw (x := U (rg (gr N X)) k j j)] at q3
          have d1 := Ul_get (g := gr N X) (i := j) hkj'
          have d3 := Sl_get (g := gr N X) hkj'
          have w2 : IntKind.i64.wrap ((k : Int) + 1) = ((k + 1 : Nat) : Int) := by rw [IntWalk.i64_in _ (by omega)]; omega
          simp only [S1, S2, S3, S4, S5, r_idx, r_mks, ev, resultsV, resL, resV, vl, gt, st, sto, fgt, i64, subCV, fill, setCells, mkAgg, allP, frz, frz1, frzL, frzs, kill, kill1, killL, kills, bnd, unV, bsz, toPs, toP, isPure1, pureL, List.elem, List.replicate, Int.reduceLE, Int.reduceLT, ↓reduceIte, reduceCtorEq, Nat.reduceLT, Nat.reduceEqDiff, Nat.reduceAdd, Nat.reduceMul, Nat.reduceLeDiff, Nat.reduceBEq, hkj, e1, eS, ec, bsz, cr, hkj', d1, d3, subPV_rq, rq_cells, kz1 q1, kz2 q2, kz2 q3, Int.natCast_nonneg, Int.toNat_natCast]
          rw [r_nilx]
          refine ⟨by rfl, ?_⟩
          simp only [S1, S2, S3, S4, S5, r_idx, r_mks, ev, resultsV, resL, resV, vl, gt, st, sto, fgt, i64, subCV, fill, setCells, mkAgg, allP, frz, frz1, frzL, frzs, kill, kill1, killL, kills, bnd, unV, bsz, toPs, toP, isPure1, pureL, List.elem, List.replicate, Int.reduceLE, Int.reduceLT, ↓reduceIte, reduceCtorEq, Nat.reduceLT, Nat.reduceEqDiff, Nat.reduceAdd, Nat.reduceMul, Nat.reduceLeDiff, Nat.reduceBEq, w2]
          refine ih3 (k + 1) _ (by omega) (by omega) ?_
          rfl
        · obtain rfl : k = j := by omega
          obtain ⟨ρ, hρ⟩ : ∃ ρ, ρ = τ ++ [.kblk 4 (cr (U (rg (gr N X)) k k k))] := ⟨_, rfl⟩
          have hlρ : ρ.length = τ.length + 1 := by rw [hρ, List.length_append]; rfl
          have hgc : GL ρ 4 c (Ul (gr N X) k k) := by rw [hρ]; exact hK.gc.left
          have hgM : GL ρ 1 cM (Ml (gr N X) k) := by rw [hρ]; exact hK.gM.left
          have hgS : GL ρ 4 cS (Sl (gr N X) k) := by rw [hρ]; exact hK.gS.left
          have r0 : ρ[0]? = some (.kblk 2 [.nils, .nils]) := by rw [hρ, e0]
          have r1 : ρ[1]? = some (.kblk 2 [cM, cS]) := by rw [hρ, e1]
          have r8 : ρ[τ.length]? = some (.kblk 4 (cr (U (rg (gr N X)) k k k))) := by rw [hρ, get_app0]; rfl
          rw [← hρ]
          have k79 := p79 (nuNum (x := U (rg (gr N X)) k k k) (hUr.1.sz (by omega)))
          by_cases hs : (U (rg (gr N X)) k k k).num.sign ≤ 0
          · have hVn := (U_sign gr_symm hpos).1 hs
            have s0 : ∀ x, (ρ.set 0 x)[0]? = some x := fun x => get_self (by omega)
            have hfM : frz1 (ρ.set 0 (.kblk 2 [cM, cS])) cM = some (.sl (Ml (gr N X) k)) := GL.frz1 (hgM.set_ne (GL.nek hgM r0))
            have hfS : frz1 (ρ.set 0 (.kblk 2 [cM, cS])) cS = some (.sl (Sl (gr N X) k)) := GL.frz1 (hgS.set_ne (GL.nek hgS r0))
            have hR := hR2 k hib hpos hVn
            rcases hgM with ⟨h, hM0⟩ | ⟨bM, h, hbM⟩ <;> subst h <;> rcases hgS with ⟨h, hS0⟩ | ⟨bS, h, hbS⟩ <;> subst h
            all_goals
              simp only [S1, S2, S3, S4, S5, r_idx, r_mks, ev, resultsV, resL, resV, vl, gt, st, sto, fgt, i64, subCV, fill, setCells, mkAgg, allP, frz, frz1, frzL, frzs, kill, kill1, killL, kills, bnd, unV, bsz, toPs, toP, isPure1, pureL, List.elem, List.replicate, Int.reduceLE, Int.reduceLT, ↓reduceIte, reduceCtorEq, Nat.reduceLT, Nat.reduceEqDiff, Nat.reduceAdd, Nat.reduceMul, Nat.reduceLeDiff, Nat.reduceBEq, hkj, cr, r0, r1, r8, kz1 k79, hs, s0]
              rw [hR]
              simp [back, backL, back1, frz, frzL, hfM, hfS, frz1_p] <;> simp only [hM0, hS0]
          · have hVp : 0 < V (gr N X) k k k := by
              rcases Int.lt_or_le 0 (V (gr N X) k k k) with h | h
              · exact h
              · exact absurd ((U_sign gr_symm hpos).2 h) hs
            have hz1 : allSz 1 [PV.sl (Ul (gr N X) k k)] = true := rfl
            have frl : frzs ρ [c] = some [.sl (Ul (gr N X) k k)] := by simp only [frzs, hgc.frz, Option.map_some]
            have kil : kills ρ [c] = nd ρ c := by simp only [kills, List.foldl_cons, List.foldl_nil, hgc.kill]
            have aMc : Apart cM c := GL.ne_sz hgM hgc (by decide)
            have aSc : Apart cS c := Apart.symm hK.ap
            have hM2 : GL (nd ρ c) 1 cM (Ml (gr N X) k) := GL.nd hgM aMc
            have hS2 : GL (nd ρ c) 4 cS (Sl (gr N X) k) := GL.nd hgS aSc
            have m6 : ((Ml (gr N X) k).length + [PV.sl (Ul (gr N X) k k)].length) * 24 ≤ 140737488355328 := by rw [Ml_len]; simp; omega
            have hMs : Ml (gr N X) k ++ [PV.sl (Ul (gr N X) k k)] = Ml (gr N X) (k + 1) := Ml_succ.symm
            have l2 : (nd ρ c).length = ρ.length := nd_len
            have l3 : (nd (nd ρ c) cM).length = ρ.length := by rw [nd_len, nd_len]
            have z1 : (nd ρ c)[1]? = some (.kblk 2 [cM, cS]) := by have := nd_get hgc r1 (τ := []); rwa [List.append_nil] at this
            have z0 : (nd ρ c)[0]? = some (.kblk 2 [.nils, .nils]) := by have := nd_get hgc r0 (τ := []); rwa [List.append_nil] at this
            have z8 : (nd ρ c)[τ.length]? = some (.kblk 4 (cr (U (rg (gr N X)) k k k))) := by have := nd_get hgc r8 (τ := []); rwa [List.append_nil] at this
            have y1 : ∀ l, (nd (nd ρ c) cM ++ l)[1]? = some (.kblk 2 [cM, cS]) := fun l => nd_get hM2 z1
            have y1s : ∀ l x, (nd (nd ρ c) cM ++ l).set 1 x = (nd (nd ρ c) cM).set 1 x ++ l := fun l x => set_left (by rw [l3]; omega)
            simp only [S1, S2, S3, S4, S5, r_idx, r_mks, ev, resultsV, resL, resV, vl, gt, st, sto, fgt, i64, subCV, fill, setCells, mkAgg, allP, frz, frz1, frzL, frzs, bnd, unV, bsz, toPs, toP, isPure1, pureL, List.elem, List.replicate, Int.reduceLE, Int.reduceLT, ↓reduceIte, reduceCtorEq, Nat.reduceLT, Nat.reduceEqDiff, Nat.reduceAdd, Nat.reduceMul, Nat.reduceLeDiff, Nat.reduceBEq, hkj, cr, r0, r1, r8, kz1 k79, hs, frl, kil, hz1, r_app hM2 m6, Ml_len, hMs, y1, y1s, l2]
            -- the store with the new row of coefficients
            obtain ⟨μ, hμ⟩ : ∃ μ, μ = (nd (nd ρ c) cM).set 1 (.kblk 2 [.own (ρ.length + 1) 0 (k + 1), cS]) ++ [.prow 1 [.sl (Ul (gr N X) k k)], .prow 1 (Ml (gr N X) (k + 1))] := ⟨_, rfl⟩
            have hl : ((nd (nd ρ c) cM).set 1 (.kblk 2 [.own (ρ.length + 1) 0 (k + 1), cS])).length = ρ.length := by rw [List.length_set, l3]
            have x0 : (nd (nd ρ c) cM)[0]? = some (.kblk 2 [.nils, .nils]) := by have := nd_get hM2 z0 (τ := []); rwa [List.append_nil] at this
            have x8 : (nd (nd ρ c) cM)[τ.length]? = some (.kblk 4 (cr (U (rg (gr N X)) k k k))) := by have := nd_get hM2 z8 (τ := []); rwa [List.append_nil] at this
            have hS3 : GL (nd (nd ρ c) cM) 4 cS (Sl (gr N X) k) := GL.nd hS2 (GL.ne_sz hS2 hM2 (by decide))
            have x1 : (nd (nd ρ c) cM)[1]? = some (.kblk 2 [cM, cS]) := by have := y1 []; rwa [List.append_nil] at this
            have u0 : μ[0]? = some (.kblk 2 [.nils, .nils]) := by rw [hμ, get_left (by rw [hl]; omega), get_ne (by omega), x0]
            have u1 : μ[1]? = some (.kblk 2 [.own (ρ.length + 1) 0 (k + 1), cS]) := by rw [hμ, get_left (by rw [hl]; omega), get_self (by rw [l3]; omega)]
            have u8 : μ[τ.length]? = some (.kblk 4 (cr (U (rg (gr N X)) k k k))) := by rw [hμ, get_left (by rw [hl]; omega), get_ne (by omega), x8]
            have uM : GL μ 1 (.own (ρ.length + 1) 0 (k + 1)) (Ml (gr N X) (k + 1)) := by
              refine .own ?_ Ml_len.symm
              rw [hμ, List.getElem?_append_right (by rw [hl]; omega), hl, Nat.add_sub_cancel_left]; rfl
            have uS : GL μ 4 cS (Sl (gr N X) k) := by rw [hμ]; exact (hS3.set_ne (GL.nek hS3 x1)).left
            rw [← hμ]
            have lμ : 1 < μ.length := (List.getElem?_eq_some_iff.1 u1).1
            have m7 : ((Sl (gr N X) k).length + [rq (star (gr N X) k)].length) * 64 ≤ 140737488355328 := by rw [Sl_len]; simp; omega
            have hSs : Sl (gr N X) k ++ [rq (star (gr N X) k)] = Sl (gr N X) (k + 1) := Sl_succ.symm
            have hA := fun {rp rs base d l dr ks e Q s x} => r_app (rp := rp) (rs := rs) (base := base) (d := d) (l := l) (dr := dr) (ks := ks) (e := e) (Q := Q) (s := s) (x := x) uS m7
            simp only [star, rq_raw (x := U (rg (gr N X)) k k k)] at hA hSs
            have v1 : ∀ l, (nd μ cS ++ l)[1]? = some (.kblk 2 [.own (ρ.length + 1) 0 (k + 1), cS]) := fun l => nd_get uS u1
            have v1s : ∀ l x, (nd μ cS ++ l).set 1 x = (nd μ cS).set 1 x ++ l := fun l x => set_left (by rw [nd_len]; omega)
            have w1 : IntKind.i64.wrap ((k : Int) + 1) = ((k + 1 : Nat) : Int) := by rw [IntWalk.i64_in _ (by omega)]; omega
            simp only [S1, S2, S3, S4, S5, r_idx, r_mks, ev, resultsV, resL, resV, vl, gt, st, sto, fgt, i64, subCV, fill, setCells, mkAgg, allP, frz, frz1, frzL, frzs, kill, kill1, killL, kills, bnd, unV, bsz, toPs, toP, isPure1, pureL, List.elem, List.replicate, Int.reduceLE, Int.reduceLT, ↓reduceIte, reduceCtorEq, Nat.reduceLT, Nat.reduceEqDiff, Nat.reduceAdd, Nat.reduceMul, Nat.reduceLeDiff, Nat.reduceBEq, u1, u8, cr, hA, hSs, Sl_len, v1, v1s, w1]
            refine ih (k + 1, (nd μ cS).set 1 (.kblk 2 [.own (ρ.length + 1) 0 (k + 1), .own (μ.length + 1) 0 (k + 1)]) ++ [.prow 4 [rq (star (gr N X) k)], .prow 4 (Sl (gr N X) (k + 1))], .own (ρ.length + 1) 0 (k + 1), .own (μ.length + 1) 0 (k + 1)) _
              ⟨by simp only []; omega, ?_, ?_, ?_, ?_, ?_⟩ (by simp only []; omega) ?_
            · intro t ht
              rcases Nat.lt_or_ge t k with h | h
              · exact hpos t h
              · obtain rfl : t = k := by simp only [] at ht; omega
                exact hVp
            · simp only []
              have := nd_get uS u0 (τ := [])
              rw [List.append_nil] at this
              rw [get_left (by rw [List.length_set, nd_len]; omega), get_ne (by omega), this]
            · simp only []
              rw [get_left (by rw [List.length_set, nd_len]; omega), get_self (by rw [nd_len]; omega)]
            · simp only []
              have h := GL.nd uM (GL.ne_sz uM uS (by decide))
              have h1' : (nd μ cS)[1]? = some (.kblk 2 [.own (ρ.length + 1) 0 (k + 1), cS]) := by have := v1 []; rwa [List.append_nil] at this
              exact (h.set_ne (GL.nek h h1')).left
            · simp only []
              refine .own ?_ Sl_len.symm
              rw [List.getElem?_append_right (by rw [List.length_set, nd_len]; omega), List.length_set, nd_len, Nat.add_sub_cancel_left]; rfl
            · rfl
    · obtain rfl : i = b.length := by omega
      have s0 : ∀ x, (σ.set 0 x)[0]? = some x := fun x => get_self (List.getElem?_eq_some_iff.1 h0).1
      have hfM : frz1 (σ.set 0 (.kblk 2 [cM, cS])) cM = some (.sl (Ml (gr N X) b.length)) := GL.frz1 (hM.set_ne (GL.nek hM h0))
      have hfS : frz1 (σ.set 0 (.kblk 2 [cM, cS])) cS = some (.sl (Sl (gr N X) b.length)) := GL.frz1 (hS.set_ne (GL.nek hS h0))
      have hR := hR1 hpos
      rcases hM with ⟨h, hM0⟩ | ⟨bM, h, hbM⟩ <;> subst h <;> rcases hS with ⟨h, hS0⟩ | ⟨bS, h, hbS⟩ <;> subst h
      all_goals
        simp only [S1, S2, S3, S4, S5, r_idx, r_mks, ev, resultsV, resL, resV, vl, gt, st, sto, fgt, i64, subCV, fill, setCells, mkAgg, allP, frz, frz1, frzL, frzs, kill, kill1, killL, kills, bnd, unV, bsz, toPs, toP, isPure1, pureL, List.elem, List.replicate, Int.reduceLE, Int.reduceLT, ↓reduceIte, reduceCtorEq, Nat.reduceLT, Nat.reduceEqDiff, Nat.reduceAdd, Nat.reduceMul, Nat.reduceLeDiff, Nat.reduceBEq, hin, h0, h1, s0]
        rw [hR]
        simp [back, backL, back1, frz, frzL, hfM, hfS, frz1_p] <;> simp only [hM0, hS0]
  by_cases hp : Pos (gr N X) b.length
  · exact ⟨_, _, true, ⟨fun _ => hp, fun _ => rfl⟩, key _ (fun _ => rfl) fun i hi _ hV => absurd (hp i hi) (by omega)⟩
  · -- the first pivot that is not above nought
    have hex : ∃ i, i < b.length ∧ Pos (gr N X) i ∧ V (gr N X) i i i ≤ 0 := by
      refine Classical.byContradiction fun hno => hp ?_
      have all : ∀ i, i ≤ b.length → Pos (gr N X) i := by
        intro i
        induction i with
        | zero => intro _ t ht; omega
        | succ i ih =>
          intro hi t ht
          rcases Nat.lt_or_ge t i with h | h
          · exact ih (by omega) t h
          · obtain rfl : t = i := by omega
            exact Int.not_le.1 fun hle => hno ⟨t, by omega, ih (by omega), hle⟩
      exact all _ (Nat.le_refl _)
    obtain ⟨i0, h1, h2, h3⟩ := hex
    refine ⟨Ml (gr N X) i0, Sl (gr N X) i0, false, ⟨(fun h => absurd h (by decide)), fun h => absurd h hp⟩, key _ (fun h => absurd h hp) fun i hi hpi hV => ?_⟩
    have : i = i0 := by
      rcases Nat.lt_trichotomy i i0 with h | h | h
      · have := h2 i h; omega
      · exact h
      · have := hpi i0 h; omega
    rw [this]

theorem rp110 : rp 110 = some f110 := rfl
theorem rp61 : rp 61 = some f61 := rfl

theorem p61 {n : Nat → Nat} (hb : MR b n X) (hlb : b.length ≤ 2000000) : Pu rp 61 [.sl b] (.p (.int .i64 (vE n X b.length))) := by
  have k142 := p142 hb hlb
  have key : ∃ g1 g2, Pu rp 110 [.sl b, .bool true] (.tup [.p (.agg [g1, g2]), .p (.int .i64 (vE n X b.length))]) := by
    by_cases he : shE n X b.length = 0
    · have hbs := hb.bs he
      obtain ⟨-, h0, -⟩ := shE_zero he
      obtain ⟨G1, G2, ok, hok, k143⟩ := p143 hbs h0
      have e0 : (shE n X b.length != 0) = false := by rw [he]; rfl
      cases ok with
      | true =>
        refine ⟨.sl G1, .sl G2, pu_of rp110 ?_⟩
        rw [vE, if_neg (by simp [he]), if_pos (hok.1 rfl)]
        simp only [f110, args0, S1, S2, S3, S4, S5, r_idx, r_mks, ev, resultsV, resL, resV, vl, gt, st, sto, fgt, i64, subCV, fill, setCells, mkAgg, allP, frz, frz1, frzL, frzs, kill, kill1, killL, kills, bnd, unV, bsz, toPs, toP, isPure1, pureL, List.elem, List.replicate, Int.reduceLE, Int.reduceLT, ↓reduceIte, reduceCtorEq, Nat.reduceLT, Nat.reduceEqDiff, Nat.reduceAdd, Nat.reduceMul, Nat.reduceLeDiff, Nat.reduceBEq, kp2 k142, e0, kp1 k143, unV, Bool.not_true]
        rfl
      | false =>
        refine ⟨.sl [], .sl [], pu_of rp110 ?_⟩
        rw [vE, if_neg (by simp [he]), if_neg (fun h => by have := hok.2 h; cases this)]
        simp only [f110, args0, S1, S2, S3, S4, S5, r_idx, r_mks, ev, resultsV, resL, resV, vl, gt, st, sto, fgt, i64, subCV, fill, setCells, mkAgg, allP, frz, frz1, frzL, frzs, kill, kill1, killL, kills, bnd, unV, bsz, toPs, toP, isPure1, pureL, List.elem, List.replicate, Int.reduceLE, Int.reduceLT, ↓reduceIte, reduceCtorEq, Nat.reduceLT, Nat.reduceEqDiff, Nat.reduceAdd, Nat.reduceMul, Nat.reduceLeDiff, Nat.reduceBEq, kp2 k142, e0, kp1 k143, unV, Bool.not_false]
        rfl
    · have e0 : (shE n X b.length != 0) = true := by simp [he]
      refine ⟨.sl [], .sl [], pu_of rp110 ?_⟩
      rw [vE, if_pos he]
      simp only [f110, args0, S1, S2, S3, S4, S5, r_idx, r_mks, ev, resultsV, resL, resV, vl, gt, st, sto, fgt, i64, subCV, fill, setCells, mkAgg, allP, frz, frz1, frzL, frzs, kill, kill1, killL, kills, bnd, unV, bsz, toPs, toP, isPure1, pureL, List.elem, List.replicate, Int.reduceLE, Int.reduceLT, ↓reduceIte, reduceCtorEq, Nat.reduceLT, Nat.reduceEqDiff, Nat.reduceAdd, Nat.reduceMul, Nat.reduceLeDiff, Nat.reduceBEq, kp2 k142, e0]
      rfl
  obtain ⟨g1, g2, k110⟩ := key
  refine pu_of rp61 ?_
  simp only [f61, args0, S1, S2, S3, S4, S5, r_idx, r_mks, ev, resultsV, resL, resV, vl, gt, st, sto, fgt, i64, subCV, fill, setCells, mkAgg, allP, frz, frz1, frzL, frzs, kill, kill1, killL, kills, bnd, unV, bsz, toPs, toP, isPure1, pureL, List.elem, List.replicate, Int.reduceLE, Int.reduceLT, ↓reduceIte, reduceCtorEq, Nat.reduceLT, Nat.reduceEqDiff, Nat.reduceAdd, Nat.reduceMul, Nat.reduceLeDiff, Nat.reduceBEq, kp2 k110]
  rfl
end
end Go.Proofs.Ytdieenbfdeaffaa.VBn
