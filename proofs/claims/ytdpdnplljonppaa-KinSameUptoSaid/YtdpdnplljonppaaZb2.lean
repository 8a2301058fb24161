/- Shapes; gso.built; gso.Valid. No condition. -/
import Derived.Test.YtdpdnplljonppaaZb1

namespace Go.Proofs.Ytdpdnplljonppaa.VBn
open Go Vpi
set_option maxRecDepth 100000
set_option linter.unusedSimpArgs false
set_option linter.unusedVariables false
theorem rp80 : rp 42 = some f42 := rfl
theorem rp93 : rp 56 = some f56 := rfl
theorem rp137 : rp 134 = some f134 := rfl
def MR (b : List PV) (n : Nat → Nat) (X : Nat → Nat → Int) : Prop := ∀ i, i < b.length → ∃ r, b[i]? = some (.sl r) ∧ r.length = n i ∧ n i ≤ 2000000 ∧ NuR r (X i)
def mxR (f : Nat → Nat) : Nat → Nat
  | 0 => 0
  | n + 1 => max (mxR f n) (f n)
theorem mxR_le {f : Nat → Nat} {K : Nat} : ∀ {n : Nat}, mxR f n ≤ K ↔ ∀ i, i < n → f i ≤ K
  | 0 => by simp [mxR]
  | n + 1 => by
    rw [mxR, Nat.max_le, mxR_le]
    constructor
    · rintro ⟨h1, h2⟩ i hi
      rcases Nat.lt_or_ge i n with h | h
      · exact h1 i h
      · obtain rfl : i = n := by omega
        exact h2
    · intro h
      exact ⟨fun i hi => h i (by omega), h n (by omega)⟩
theorem LB_pow2 {n : Nat} : LB ^ n = 2 ^ (32 * n) := by rw [Nat.pow_mul]; rfl
theorem bl_bound {p : PV} {x : Int} (h : Nu p x) : bl x.natAbs ≤ 3200000000000 := by
  have hs := h.sz
  unfold Sz at hs
  by_cases h0 : x.natAbs = 0
  · rw [h0, bl_zero]; omega
  · have h1 := (bl_spec h0).1
    rw [LB_pow2] at hs
    have h2 := (Nat.pow_lt_pow_iff_right (a := 2) (by decide)).1 (Nat.lt_of_le_of_lt h1 hs)
    have := CapN_eq
    omega
def bm (n : Nat → Nat) (X : Nat → Nat → Int) : Nat → Nat := mxR fun i => mxR (fun j => bl (X i j).natAbs) (n i)
section
variable {b : List PV} {n : Nat → Nat} {X : Nat → Nat → Int}
theorem max_int {a c : Nat} : (if (c : Int) > (a : Int) then (c : Int) else (a : Int)) = ((max a c : Nat) : Int) := by
  split <;> omega
theorem p80 (hb : MR b n X) (hlb : b.length ≤ 2000000) : Pu rp 42 [.sl b] (.p (.int .i64 (bm n X b.length : Nat))) := by
  refine pu_of rp80 ?_
  have hbm : ∀ i, i ≤ b.length → bm n X i ≤ 3200000000000 := fun i hi => mxR_le.2 fun k hk => mxR_le.2 fun j hj => by
    obtain ⟨r, -, hl, -, hr⟩ := hb k (by omega)
    obtain ⟨p, -, hp⟩ := hr j (by omega)
    exact bl_bound hp
  simp only [f42, args0, SA, setCells, Int.reduceLE, Int.reduceLT, ↓reduceIte, reduceCtorEq, Nat.reduceLT, Nat.reduceEqDiff, Nat.reduceAdd, Nat.reduceMul, Nat.reduceLeDiff, Nat.reduceBEq]
  refine loop_rule (β := Nat × Store) (fun t => ([(3, i64 (bm n X t.1 : Nat)), (8, .p (.sl b)), (9, i64 b.length), (10, i64 t.1)], t.2))
    (fun t => t.1 ≤ b.length) (fun t => b.length - t.1) ((0, []) : Nat × Store) rfl rfl (Nat.zero_le _) ?_
  rintro ⟨i, σ⟩ hi ih
  simp only [] at hi ih ⊢
  by_cases hin : (i : Int) < b.length
  · have hib : i < b.length := by omega
    obtain ⟨r, hr, hrl, hrn, hrx⟩ := hb i hib
    simp only [SA, setCells, Int.reduceLE, Int.reduceLT, ↓reduceIte, reduceCtorEq, Nat.reduceLT, Nat.reduceEqDiff, Nat.reduceAdd, Nat.reduceMul, Nat.reduceLeDiff, Nat.reduceBEq, hin, hr, Int.natCast_nonneg, Int.toNat_natCast]
    refine loop_rule (β := Nat × Store) (fun t => ([(3, i64 ((max (bm n X i) (mxR (fun j => bl (X i j).natAbs) t.1) : Nat) : Int)), (8, .p (.sl b)), (9, i64 b.length), (10, i64 i), (14, .p (.sl r)), (15, i64 r.length), (16, i64 t.1)], t.2))
      (fun t => t.1 ≤ r.length) (fun t => r.length - t.1) ((0, σ) : Nat × Store) (by simp only [mxR, Nat.max_zero]; rfl) rfl (Nat.zero_le _) ?_
    rintro ⟨j, τ⟩ hj ih2
    simp only [] at hj ih2 ⊢
    by_cases hjn : (j : Int) < r.length
    · obtain ⟨p, hp, hpx⟩ := hrx j (by omega)
      have k121 := p121 hpx
      obtain ⟨n1, l1, rfl, -⟩ := hpx
      have hw : IntKind.i64.wrap ((j : Int) + 1) = ((j + 1 : Nat) : Int) := by rw [IntWalk.i64_in _ (by omega)]; omega
      simp only [SA, setCells, Int.reduceLE, Int.reduceLT, ↓reduceIte, reduceCtorEq, Nat.reduceLT, Nat.reduceEqDiff, Nat.reduceAdd, Nat.reduceMul, Nat.reduceLeDiff, Nat.reduceBEq, hjn, hp, Int.natCast_nonneg, Int.toNat_natCast, kp1 k121, max_int, hw, Nat.max_assoc]
      refine ih2 (j + 1, τ ++ [.kblk 2 [.p (.bool n1), .p (.sl (lm l1))]]) _ (by simp only []; omega) (by simp only []; omega) ?_
      rfl
    · obtain rfl : j = r.length := by omega
      have hw : IntKind.i64.wrap ((i : Int) + 1) = ((i + 1 : Nat) : Int) := by rw [IntWalk.i64_in _ (by omega)]; omega
      simp only [SA, setCells, Int.reduceLE, Int.reduceLT, ↓reduceIte, reduceCtorEq, Nat.reduceLT, Nat.reduceEqDiff, Nat.reduceAdd, Nat.reduceMul, Nat.reduceLeDiff, Nat.reduceBEq, hjn, hw]
      refine ih (i + 1, τ) _ (by simp only []; omega) (by simp only []; omega) ?_
      rw [show bm n X (i + 1) = max (bm n X i) (mxR (fun j => bl (X i j).natAbs) r.length) by rw [hrl]; rfl]
      rfl
  · obtain rfl : i = b.length := by omega
    simp only [SA, setCells, Int.reduceLE, Int.reduceLT, ↓reduceIte, reduceCtorEq, Nat.reduceLT, Nat.reduceEqDiff, Nat.reduceAdd, Nat.reduceMul, Nat.reduceLeDiff, Nat.reduceBEq, hin]
    rfl
def Uneven (n : Nat → Nat) (m : Nat) : Prop := ∃ i, i < m ∧ n i ≠ n 0
theorem p93 (hb : MR b n X) (h0 : b.length ≠ 0) (hlb : b.length ≤ 2000000) :
    (Uneven n b.length → Pu rp 56 [.sl b] (.tup [.p (.int .i64 0), .p (.int .i64 0), .p (.int .i64 8)])) ∧
    (¬ Uneven n b.length → Pu rp 56 [.sl b] (.tup [.p (.int .i64 b.length), .p (.int .i64 (n 0 : Nat)), .p (.int .i64 0)])) := by
  have e : ((b.length : Int) == 0) = false := by rw [beq_eq_false_iff_ne]; omega
  obtain ⟨r0, hr0, hl0, hn0, -⟩ := hb 0 (by omega)
  have key : ∀ R : CV, (Uneven n b.length → R = .tup [.p (.int .i64 0), .p (.int .i64 0), .p (.int .i64 8)]) → (¬ Uneven n b.length → R = .tup [.p (.int .i64 b.length), .p (.int .i64 (n 0 : Nat)), .p (.int .i64 0)]) → Pu rp 56 [.sl b] R := by
    intro R h1 h2
    refine pu_of rp93 ?_
    simp only [f56, args0, SA, setCells, Int.reduceLE, Int.reduceLT, ↓reduceIte, reduceCtorEq, Nat.reduceLT, Nat.reduceEqDiff, Nat.reduceAdd, Nat.reduceMul, Nat.reduceLeDiff, Nat.reduceBEq, e]
    refine loop_rule (β := Nat) (fun t => ([(0, .p (.sl b)), (10, .p (.sl b)), (11, i64 b.length), (12, i64 t)], []))
      (fun t => t ≤ b.length ∧ ∀ k, k < t → n k = n 0) (fun t => b.length - t) 0 rfl rfl ⟨Nat.zero_le _, fun k hk => by omega⟩ ?_
    rintro i ⟨hi, hev⟩ ih
    simp only [] at hi hev ih ⊢
    by_cases hin : (i : Int) < b.length
    · obtain ⟨r, hr, hrl, hrn, -⟩ := hb i (by omega)
      have i0 : Int.toNat 0 = 0 := rfl
      by_cases hne : n i = n 0
      · have e1 : ((r.length : Int) != (r0.length : Int)) = false := by rw [hrl, hl0, hne]; simp
        have hw : IntKind.i64.wrap ((i : Int) + 1) = ((i + 1 : Nat) : Int) := by rw [IntWalk.i64_in _ (by omega)]; omega
        simp only [SA, setCells, Int.reduceLE, Int.reduceLT, ↓reduceIte, reduceCtorEq, Nat.reduceLT, Nat.reduceEqDiff, Nat.reduceAdd, Nat.reduceMul, Nat.reduceLeDiff, Nat.reduceBEq, hin, hr, i0, hr0, Int.natCast_nonneg, Int.toNat_natCast, e1, hw]
        refine ih (i + 1) _ ⟨by omega, fun k hk => ?_⟩ (by omega) ?_
        · rcases Nat.lt_or_ge k i with h | h
          · exact hev k h
          · obtain rfl : k = i := by omega
            exact hne
        · rfl
      · have e1 : ((r.length : Int) != (r0.length : Int)) = true := by rw [hrl, hl0]; simp; omega
        simp only [SA, setCells, Int.reduceLE, Int.reduceLT, ↓reduceIte, reduceCtorEq, Nat.reduceLT, Nat.reduceEqDiff, Nat.reduceAdd, Nat.reduceMul, Nat.reduceLeDiff, Nat.reduceBEq, hin, hr, i0, hr0, Int.natCast_nonneg, Int.toNat_natCast, e1]
        rw [h1 ⟨i, by omega, hne⟩]
        exact back_t3 back1_p back1_p back1_p
    · obtain rfl : i = b.length := by omega
      have i0 : Int.toNat 0 = 0 := rfl
      simp only [SA, setCells, Int.reduceLE, Int.reduceLT, ↓reduceIte, reduceCtorEq, Nat.reduceLT, Nat.reduceEqDiff, Nat.reduceAdd, Nat.reduceMul, Nat.reduceLeDiff, Nat.reduceBEq, hin, hr0, i0]
      rw [h2 (fun ⟨k, hk, hk2⟩ => hk2 (hev k hk)), hl0]
      exact back_t3 back1_p back1_p back1_p
  exact ⟨fun h => key _ (fun _ => rfl) (fun h2 => absurd h h2), fun h => key _ (fun h2 => absurd h2 h) (fun _ => rfl)⟩
def Big (n : Nat → Nat) (X : Nat → Nat → Int) (m : Nat) : Prop := 12 < m ∨ (∃ i, i < m ∧ 12 < n i) ∨ ∃ i j, i < m ∧ j < n i ∧ 256 < bl (X i j).natAbs
open Classical in
noncomputable def shE (n : Nat → Nat) (X : Nat → Nat → Int) (m : Nat) : Int := if Big n X m then 40 else if m = 0 then 41 else if Uneven n m then 8 else 0
theorem bm_gt {m : Nat} : 256 < bm n X m ↔ ∃ i j, i < m ∧ j < n i ∧ 256 < bl (X i j).natAbs := by
  rw [← Nat.not_le]
  unfold bm
  rw [mxR_le]
  constructor
  · intro h
    refine Classical.byContradiction fun hc => h fun i hi => mxR_le.2 fun j hj => ?_
    exact Nat.not_lt.1 fun hlt => hc ⟨i, j, hi, hj, hlt⟩
  · rintro ⟨i, j, hi, hj, hlt⟩ h
    have := mxR_le.1 (h i hi) j hj
    omega
theorem p137 (hb : MR b n X) (hlb : b.length ≤ 2000000) : Pu rp 134 [.sl b, .bool true] (.p (.int .i64 (shE n X b.length))) := by
  refine pu_of rp137 ?_
  have w80 := p80 hb hlb
  have hbn : bm n X b.length ≤ 3200000000000 := mxR_le.2 fun k hk => mxR_le.2 fun j hj => by
    obtain ⟨r, -, hl, -, hr⟩ := hb k (by omega)
    obtain ⟨p, -, hp⟩ := hr j (by omega)
    exact bl_bound hp
  have tail : ∀ (B : Bool), (B = true ↔ 12 < b.length ∨ 256 < bm n X b.length) → ∀ (e : Env) (σ : Store), fgt [0, 5, 22, 23, 24] e = [(0, .p (.sl b)), (5, .p (.bool B)), (22, .p (.sl b)), (23, i64 b.length), (24, i64 0)] → True := fun _ _ _ _ _ => trivial
  have fin : ∀ (c1 : Bool), (c1 = true ↔ Big n X b.length) → (c1 = true → shE n X b.length = 40) ∧ (c1 = false → b.length = 0 → shE n X b.length = 41) ∧ (c1 = false → b.length ≠ 0 → Uneven n b.length → shE n X b.length = 8) ∧ (c1 = false → b.length ≠ 0 → ¬ Uneven n b.length → shE n X b.length = 0) := by
    intro c1 h1
    unfold shE
    refine ⟨fun h => if_pos (h1.1 h), fun h h0 => ?_, fun h h0 hu => ?_, fun h h0 hu => ?_⟩
    all_goals
      rw [if_neg (fun hB => by rw [h1.2 hB] at h; cases h)]
    · rw [if_pos h0]
    · rw [if_neg h0, if_pos hu]
    · rw [if_neg h0, if_neg hu]
  have hstart : ∃ B : Bool, (B = true ↔ 12 < b.length ∨ 256 < bm n X b.length) ∧ ((b.length : Int) > 12 ∧ B = true ∨ ¬ (b.length : Int) > 12 ∧ B = decide (((bm n X b.length : Nat) : Int) > 256)) := by
    by_cases h : (b.length : Int) > 12
    · exact ⟨true, by simp; omega, .inl ⟨h, rfl⟩⟩
    · refine ⟨decide (((bm n X b.length : Nat) : Int) > 256), ?_, .inr ⟨h, rfl⟩⟩
      rw [decide_eq_true_eq]; omega
  obtain ⟨B, hB, hB2⟩ := hstart
  rcases hB2 with ⟨hgt, hBe⟩ | ⟨hgt, hBe⟩
  all_goals
    simp only [f134, args0, SA, setCells, Int.reduceLE, Int.reduceLT, ↓reduceIte, reduceCtorEq, Nat.reduceLT, Nat.reduceEqDiff, Nat.reduceAdd, Nat.reduceMul, Nat.reduceLeDiff, Nat.reduceBEq, hgt, kp1 w80]
    refine loop_rule (β := Nat × Bool) (fun t => ([(0, .p (.sl b)), (5, .p (.bool t.2)), (22, .p (.sl b)), (23, i64 b.length), (24, i64 t.1)], []))
      (fun t => t.1 ≤ b.length ∧ (t.2 = true ↔ B = true ∨ ∃ k, k < t.1 ∧ 12 < n k)) (fun t => b.length - t.1)
      ((0, B) : Nat × Bool) (by simp only [hBe]; rfl) rfl ⟨Nat.zero_le _, by simp⟩ ?_
    rintro ⟨i, C⟩ ⟨hi, hC⟩ ih
    simp only [] at hi hC ih ⊢
    by_cases hin : (i : Int) < b.length
    · obtain ⟨r, hr, hrl, hrn, -⟩ := hb i (by omega)
      have hw : IntKind.i64.wrap ((i : Int) + 1) = ((i + 1 : Nat) : Int) := by rw [IntWalk.i64_in _ (by omega)]; omega
      cases C with
      | true =>
        simp only [SA, setCells, Int.reduceLE, Int.reduceLT, ↓reduceIte, reduceCtorEq, Nat.reduceLT, Nat.reduceEqDiff, Nat.reduceAdd, Nat.reduceMul, Nat.reduceLeDiff, Nat.reduceBEq, hin, hr, Int.natCast_nonneg, Int.toNat_natCast, hw]
        refine ih (i + 1, true) _ ⟨by simp only []; omega, ?_⟩ (by simp only []; omega) ?_
        · simp only [true_iff]
          rcases hC.1 rfl with h | ⟨k, h1, h2⟩
          · exact .inl h
          · exact .inr ⟨k, by omega, h2⟩
        · rfl
      | false =>
        simp only [SA, setCells, Int.reduceLE, Int.reduceLT, ↓reduceIte, reduceCtorEq, Nat.reduceLT, Nat.reduceEqDiff, Nat.reduceAdd, Nat.reduceMul, Nat.reduceLeDiff, Nat.reduceBEq, hin, hr, Int.natCast_nonneg, Int.toNat_natCast, hw]
        refine ih (i + 1, decide ((r.length : Int) > 12)) _ ⟨by simp only []; omega, ?_⟩ (by simp only []; omega) ?_
        · simp only [decide_eq_true_eq, hrl]
          constructor
          · intro h; exact .inr ⟨i, by omega, by omega⟩
          · rintro (h | ⟨k, h1, h2⟩)
            · exact absurd (hC.2 (.inl h)) (by simp)
            · rcases Nat.lt_or_ge k i with h3 | h3
              · exact absurd (hC.2 (.inr ⟨k, h3, h2⟩)) (by simp)
              · obtain rfl : k = i := by omega
                omega
        · rfl
    · obtain rfl : i = b.length := by omega
      have hCB : C = true ↔ Big n X b.length := by
        rw [hC, hB, bm_gt]
        unfold Big
        constructor
        · rintro ((h | h) | h)
          · exact .inl h
          · exact .inr (.inr h)
          · exact .inr (.inl h)
        · rintro (h | h | h)
          · exact .inl (.inl h)
          · exact .inr h
          · exact .inl (.inr h)
      obtain ⟨f1, f2, f3, f4⟩ := fin C hCB
      cases C with
      | true =>
        simp only [SA, setCells, Int.reduceLE, Int.reduceLT, ↓reduceIte, reduceCtorEq, Nat.reduceLT, Nat.reduceEqDiff, Nat.reduceAdd, Nat.reduceMul, Nat.reduceLeDiff, Nat.reduceBEq, hin]
        rw [f1 rfl]; rfl
      | false =>
        by_cases h0 : b.length = 0
        · have e0 : ((b.length : Int) == 0) = true := by rw [h0]; rfl
          simp only [SA, setCells, Int.reduceLE, Int.reduceLT, ↓reduceIte, reduceCtorEq, Nat.reduceLT, Nat.reduceEqDiff, Nat.reduceAdd, Nat.reduceMul, Nat.reduceLeDiff, Nat.reduceBEq, hin, e0]
          rw [f2 rfl h0]; rfl
        · have e0 : ((b.length : Int) == 0) = false := by rw [beq_eq_false_iff_ne]; omega
          obtain ⟨s1, s2⟩ := p93 hb h0 hlb
          by_cases hu : Uneven n b.length
          · simp only [SA, setCells, Int.reduceLE, Int.reduceLT, ↓reduceIte, reduceCtorEq, Nat.reduceLT, Nat.reduceEqDiff, Nat.reduceAdd, Nat.reduceMul, Nat.reduceLeDiff, Nat.reduceBEq, hin, e0, kp1 (s1 hu)]
            rw [f3 rfl h0 hu]; rfl
          · simp only [SA, setCells, Int.reduceLE, Int.reduceLT, ↓reduceIte, reduceCtorEq, Nat.reduceLT, Nat.reduceEqDiff, Nat.reduceAdd, Nat.reduceMul, Nat.reduceLeDiff, Nat.reduceBEq, hin, e0, kp1 (s2 hu)]
            rw [f4 rfl h0 hu]; rfl
end
end Go.Proofs.Ytdpdnplljonppaa.VBn

namespace Go.Proofs.Ytdpdnplljonppaa.VBn
open Go Vpi
open Gs (V Dv Pos Good)
set_option maxRecDepth 100000
set_option linter.unusedSimpArgs false
set_option linter.unusedVariables false
section
variable {rp : RProg} {rs : List RRes} {base : Nat} {d : Option Nat} {l : List LOp} {dr : Dr} {ks : List KI} {e : Env} {σ : Store} {Q : CV → Store → Prop}
theorem kz1 {f : Nat} {a0 : PV} {r : CV} (h : Pu rp f [a0] r) : KC rp rs base .fz f [.p a0] d l dr ks e σ Q = ExR rp rs base l dr ks (sto d r e) σ Q := kc_fz h rfl
theorem kz2 {f : Nat} {a0 a1 : PV} {r : CV} (h : Pu rp f [a0, a1] r) : KC rp rs base .fz f [.p a0, .p a1] d l dr ks e σ Q = ExR rp rs base l dr ks (sto d r e) σ Q := kc_fz h rfl
end
section
variable {rp : RProg} {rs : List RRes} {base : Nat} {d : Option Nat} {l : List LOp} {dr : Dr} {ks : List KI} {e : Env} {σ : Store} {Q : CV → Store → Prop} {sz : Nat} {c : CV} {es xs : List PV}
theorem r_app_sl {s x : Opd} {bytes : Nat} (hb : base = σ.length) (h : GL σ sz c es) (hc : (es.length + xs.length) * bytes ≤ 140737488355328) (hs : vl e s = c) (hx : vl e x = .own base 0 xs.length) (hz : allSz sz xs = true) :
    ExR rp rs base (⟨d, none, some 1, .append sz bytes s x⟩ :: l) dr ks e (σ ++ [.prow sz xs, .hole]) Q = ExR rp rs base l dr ks (sto d (.own (base + 1) 0 (es.length + xs.length)) e) (nd σ c ++ [.prow sz xs, .prow sz (es ++ xs)]) Q := by
  subst hb
  rw [r_append]
  have h1 : content (σ ++ [.prow sz xs, .hole]) c = some es := h.left.content
  have h2 : content (σ ++ [.prow sz xs, .hole]) (.own σ.length 0 xs.length) = some xs := cont_own (s := sz) (by rw [get_app0]; rfl) rfl
  have hlt := h.lt.2
  simp only [ev, hs, hx, h1, h2, hc, hz, and_self, if_true]
  rcases h with ⟨rfl, rfl⟩ | ⟨b, rfl, hb⟩
  · simp only [push_sl, get_app, set_app, List.getElem?_cons_succ, List.getElem?_cons_zero, List.set_cons_succ, List.set_cons_zero, Option.map_some, ke_some, nd, List.nil_append]
  · have hlb := hlt _ _ _ rfl
    have hb' : (σ ++ [.prow sz xs, .hole])[b]? = some (.prow sz es) := by rw [List.getElem?_append_left hlb]; exact hb
    have e1 : ∀ l : Store, (σ.set b .dead ++ l)[σ.length + 1]? = l[1]? := fun l => by rw [show σ.length + 1 = (σ.set b Blk.dead).length + 1 by rw [List.length_set], get_app]
    have e2 : ∀ (l : Store) (x : Blk), (σ.set b .dead ++ l).set (σ.length + 1) x = σ.set b .dead ++ l.set 1 x := fun l x => by rw [show σ.length + 1 = (σ.set b Blk.dead).length + 1 by rw [List.length_set], set_app]
    simp only [hb', if_true, push_sl, set_left hlb, e1, e2, List.getElem?_cons_succ, List.getElem?_cons_zero, List.set_cons_succ, List.set_cons_zero, Option.map_some, ke_some, nd]
theorem r_fz_sl {x : Opd} {b s n : Nat} (hb : σ[b]? = some (.prow s es)) (hn : n ≤ es.length) (hx : vl e x = .own b 0 n) :
    ExR rp rs σ.length (⟨d, none, some 0, .bslice 1 [x]⟩ :: l) dr ks e (σ ++ [.hole, .hole]) Q = ExR rp rs σ.length l dr ks (sto d (.own σ.length 0 1) e) (σ.set b .dead ++ [.prow 1 [.sl (es.take n)], .hole]) Q := by
  rw [r_bslice]
  have hlb := (List.getElem?_eq_some_iff.1 hb).1
  have hf : frz (σ ++ [.hole, .hole]) (.own b 0 n) = some (.sl (es.take n)) := by
    simp only [frz, frz1, List.getElem?_append_left hlb, hb, Nat.zero_add, hn, if_true, List.drop_zero]
  have e1 : ∀ l : Store, (σ.set b .dead ++ l)[σ.length]? = l[0]? := fun l => by rw [show σ.length = (σ.set b Blk.dead).length by rw [List.length_set], get_app0]
  have e2 : ∀ (l : Store) (x : Blk), (σ.set b .dead ++ l).set σ.length x = σ.set b .dead ++ l.set 0 x := fun l x => by rw [show σ.length = (σ.set b Blk.dead).length by rw [List.length_set], set_app0]
  simp only [ev, List.map_cons, List.map_nil, hx, frzs, hf, Option.map_some, allSz_cons, allSz_nil, PV.cells, List.length_cons, List.length_nil, Nat.zero_add, beq_self_eq_true, Bool.and_self, if_true, kills, List.foldl_cons, List.foldl_nil, kill, kill1, set_left hlb, push_sl, e1, e2, List.getElem?_cons_zero, List.set_cons_zero, ke_some, Nat.add_zero]
end
theorem rp138 : rp 135 = some f135 := rfl
theorem subPV_zi {x : Int} : subPV true 2 (zi x) 0 = some (zi x) := subPV_mk
structure Bs (b : List PV) (N : Nat) (X : Nat → Nat → Int) : Prop where
  m : b.length ≤ 12
  n : N ≤ 12
  row : ∀ i, i < b.length → ∃ r, b[i]? = some (.sl r) ∧ r.length = N ∧ NuR r (X i)
  sz : ∀ i j, i < b.length → j < N → Sk 8 (X i j)
def gr (N : Nat) (X : Nat → Nat → Int) : Nat → Nat → Int := fun i j => dotI (X i) (X j) N
theorem gr_symm {N : Nat} {X : Nat → Nat → Int} : ∀ i j, gr N X i j = gr N X j i := fun i j => dotI_symm
theorem bd_le {M : Nat} : ∀ {n : Nat}, n ≤ 12 → Gs.bd M n ≤ (LB * M) ^ n
  | 0, _ => by simp [Gs.bd]
  | n + 1, h => by
    have ih := bd_le (M := M) (n := n) (by omega)
    rw [Gs.bd, Nat.pow_succ, Nat.mul_comm ((LB * M) ^ n), Nat.mul_assoc]
    exact Nat.mul_le_mul (by unfold LB; omega) (Nat.mul_le_mul_left _ ih)
section
variable {b : List PV} {N : Nat} {X : Nat → Nat → Int}
theorem V_sk (hb : Bs b N X) {k i j : Nat} (hp : Pos (gr N X) k) (hi : k ≤ i) (hj : k ≤ j) (hi' : i < b.length) (hj' : j < b.length) : Sk 217 (V (gr N X) k i j) := by
  have hm := hb.m
  have h1 := (Gs.good gr_symm (M := LB ^ 17) hp).sz i j hi hj fun p q hp hq => Nat.le_of_lt (dot_sk (fun t ht => ⟨hb.sz p t (by omega) ht, hb.sz q t (by omega) ht⟩) hb.n)
  have h2 := bd_le (M := LB ^ 17) (n := k + 1) (by omega)
  have h3 : LB * LB ^ 17 = LB ^ 18 := by rw [Nat.mul_comm, ← Nat.pow_succ]
  rw [h3, ← Nat.pow_mul] at h2
  have h4 : LB ^ (18 * (k + 1)) ≤ LB ^ 216 := Nat.pow_le_pow_right LB_pos (by omega)
  have h5 : LB ^ 216 < LB ^ 217 := by
    exact (Nat.pow_lt_pow_iff_right (a := LB) (by decide)).2 (by omega)
  unfold Sk
  omega
theorem Dv_sk (hb : Bs b N X) {k : Nat} (hp : Pos (gr N X) k) (hk : k ≤ b.length) : Sk 217 (Dv (gr N X) k) := by
  cases k with
  | zero => 
    show (1 : Nat) < LB ^ 217
    exact Nat.one_lt_pow (by omega) (by decide)
  | succ k => exact V_sk hb hp.pred (Nat.le_refl _) (Nat.le_refl _) (by omega) (by omega)
def Dl (g : Nat → Nat → Int) (i : Nat) : List PV := (List.range i).map fun k => zi (Dv g k)
def Ll (g : Nat → Nat → Int) (i j : Nat) : List PV := (List.range j).map fun k => zi (V g k i k)
def Rl (g : Nat → Nat → Int) (i : Nat) : List PV := (List.range i).map fun t => .sl (Ll g t t)
theorem Dl_get {g : Nat → Nat → Int} {i k : Nat} (h : k < i) : (Dl g i)[k]? = some (zi (Dv g k)) := by simp [Dl, h]
theorem Ll_get {g : Nat → Nat → Int} {i j k : Nat} (h : k < j) : (Ll g i j)[k]? = some (zi (V g k i k)) := by simp [Ll, h]
theorem Rl_get {g : Nat → Nat → Int} {i k : Nat} (h : k < i) : (Rl g i)[k]? = some (.sl (Ll g k k)) := by simp [Rl, h]
theorem Dl_len {g : Nat → Nat → Int} {i : Nat} : (Dl g i).length = i := by simp [Dl]
theorem Ll_len {g : Nat → Nat → Int} {i j : Nat} : (Ll g i j).length = j := by simp [Ll]
theorem Rl_len {g : Nat → Nat → Int} {i : Nat} : (Rl g i).length = i := by simp [Rl]
theorem Dl_succ {g : Nat → Nat → Int} {i : Nat} : Dl g (i + 1) = Dl g i ++ [zi (Dv g i)] := by simp [Dl, List.range_succ]
theorem Ll_succ {g : Nat → Nat → Int} {i j : Nat} : Ll g i (j + 1) = Ll g i j ++ [zi (V g j i j)] := by simp [Ll, List.range_succ]
theorem Rl_succ {g : Nat → Nat → Int} {i : Nat} : Rl g (i + 1) = Rl g i ++ [.sl (Ll g i i)] := by simp [Rl, List.range_succ]
theorem Ll_take {g : Nat → Nat → Int} {i : Nat} : (Ll g i (i + 1)).take i = Ll g i i := by
  rw [Ll_succ, List.take_append, Ll_len, Nat.sub_self, List.take_zero, List.append_nil, List.take_of_length_le (by rw [Ll_len]; omega)]
def cz (x : Int) : List CV := [.p (.bool (decide (x < 0) && decide (x.natAbs ≠ 0))), .p (.sl (lm (dgl x.natAbs)))]
structure JI (g : Nat → Nat → Int) (τ : Store) (bd : Nat) (cL : CV) (i j bl : Nat) : Prop where
  g0 : τ[0]? = some (.kblk 2 [.nils, .nils])
  g2 : τ[2]? = some (.kblk 2 [.own bd 0 (i + 1), cL])
  gd : τ[bd]? = some (.prow 2 (Dl g (i + 1)))
  gL : GL τ 1 cL (Rl g i)
  gl : τ[bl]? = some (.prow 2 (Ll g i j))
  ne : bl ≠ bd
theorem JI.bl0 {g : Nat → Nat → Int} {τ : Store} {bd : Nat} {cL : CV} {i j bl : Nat} (h : JI g τ bd cL i j bl) : bl ≠ 0 ∧ bl ≠ 2 ∧ bd ≠ 0 ∧ bd ≠ 2 ∧ bl < τ.length ∧ bd < τ.length ∧ 2 < τ.length ∧ 0 < τ.length := by
  refine ⟨?_, ?_, ?_, ?_, (List.getElem?_eq_some_iff.1 h.gl).1, (List.getElem?_eq_some_iff.1 h.gd).1, (List.getElem?_eq_some_iff.1 h.g2).1, (List.getElem?_eq_some_iff.1 h.g0).1⟩
  · rintro rfl; have := h.gl; rw [h.g0] at this; cases this
  · rintro rfl; have := h.gl; rw [h.g2] at this; cases this
  · rintro rfl; have := h.gd; rw [h.g0] at this; cases this
  · rintro rfl; have := h.gd; rw [h.g2] at this; cases this
theorem GL.ne2 {σ : Store} {c : CV} {es xs : List PV} {k : Nat} (h : GL σ 1 c es) (hk : σ[k]? = some (.prow 2 xs)) : ∀ b o n, c = .own b o n → b ≠ k := by
  rintro b o n rfl rfl
  rcases h with ⟨h, _⟩ | ⟨b', h, hb⟩
  · cases h
  · cases h; rw [hb] at hk; cases hk
theorem p138 (hb : Bs b N X) :
    (Pos (gr N X) b.length → Pu rp 135 [.sl b] (.tup [.p (.agg [.sl (Dl (gr N X) (b.length + 1)), .sl (Rl (gr N X) b.length)]), .p (.bool true)])) ∧
    (¬ Pos (gr N X) b.length → Pu rp 135 [.sl b] (.tup [.p (.agg [.sl [], .sl []]), .p (.bool false)])) := by
  have key : ∀ R : CV, (Pos (gr N X) b.length → R = .tup [.p (.agg [.sl (Dl (gr N X) (b.length + 1)), .sl (Rl (gr N X) b.length)]), .p (.bool true)]) → (¬ Pos (gr N X) b.length → R = .tup [.p (.agg [.sl [], .sl []]), .p (.bool false)]) → Pu rp 135 [.sl b] R := by
    intro R hR1 hR2
    refine pu_of rp138 ?_
    have hm := hb.m
    have hN := hb.n
    have k54 := p54 (x := 1) (by decide) (by decide)
    have hz1 : (zi 1).cells.length = 2 := rfl
    simp only [f135, args0, SA, setCells, Int.reduceLE, Int.reduceLT, ↓reduceIte, reduceCtorEq, Nat.reduceLT, Nat.reduceEqDiff, Nat.reduceAdd, Nat.reduceMul, Nat.reduceLeDiff, Nat.reduceBEq, kp1 k54]
    refine loop_rule (β := Nat × Store × Nat × CV) (fun t => ([(0, .p (.sl b)), (2, .ptr 0 0 0), (4, .ptr 2 0 0), (16, i64 b.length), (17, i64 t.1)], t.2.1))
      (fun t => t.1 ≤ b.length ∧ Pos (gr N X) t.1 ∧ t.2.1[0]? = some (.kblk 2 [.nils, .nils]) ∧ t.2.1[2]? = some (.kblk 2 [.own t.2.2.1 0 (t.1 + 1), t.2.2.2]) ∧ t.2.1[t.2.2.1]? = some (.prow 2 (Dl (gr N X) (t.1 + 1))) ∧ GL t.2.1 1 t.2.2.2 (Rl (gr N X) t.1)) (fun t => b.length - t.1)
      ((0, [.kblk 2 [.nils, .nils], .prow 2 [zi 1], .kblk 2 [.own 1 0 1, .nils]], 1, .nils) : Nat × Store × Nat × CV) rfl rfl ⟨Nat.zero_le _, fun t ht => by omega, rfl, rfl, rfl, .nil⟩ ?_
    rintro ⟨i, σ, bd, cL⟩ ⟨hi, hpos, h0, h2, hd, hL⟩ ih
    simp only [] at hi hpos h0 h2 hd hL ih ⊢
    by_cases hin : (i : Int) < b.length
    · have hib : i < b.length := by omega
      have w1 : IntKind.i64.wrap ((i : Int) + 1) = ((i + 1 : Nat) : Int) := by rw [IntWalk.i64_in _ (by omega)]; omega
      have m1 : ((32 : Nat) : Int) * ((i + 1 : Nat) : Int) ≤ 281474976710656 := by omega
      have m2 : ((i + 1 : Nat) : Int) ≤ 9223372036854775807 := by omega
      have m3 : (0 : Int) ≤ ((i + 1 : Nat) : Int) := by omega
      have i0 : Int.toNat 0 = 0 := rfl
      simp only [SA, setCells, Int.reduceLE, Int.reduceLT, ↓reduceIte, reduceCtorEq, Nat.reduceLT, Nat.reduceEqDiff, Nat.reduceAdd, Nat.reduceMul, Nat.reduceLeDiff, Nat.reduceBEq, hin, w1, m1, m2, m3, i0, Int.le_refl]
      obtain ⟨ri, hri, hril, hrix⟩ := hb.row i hib
      have hs2 : 2 < σ.length := (List.getElem?_eq_some_iff.1 h2).1
      have hs0 : 0 < σ.length := (List.getElem?_eq_some_iff.1 h0).1
      have hsd : bd < σ.length := (List.getElem?_eq_some_iff.1 hd).1
      have hJ0 : JI (gr N X) (σ ++ [.prow 2 []]) bd cL i 0 σ.length :=
        ⟨by rw [get_left hs0, h0], by rw [get_left hs2, h2], by rw [get_left hsd, hd], hL.left, by rw [get_app0]; rfl, by omega⟩
      refine loop_rule (β := Nat × Store × Nat) (fun t => ([(0, .p (.sl b)), (2, .ptr 0 0 0), (4, .ptr 2 0 0), (5, i64 i), (6, .own t.2.2 0 t.1), (7, i64 t.1), (16, i64 b.length), (17, i64 i)], t.2.1))
        (fun t => t.1 ≤ i + 1 ∧ JI (gr N X) t.2.1 bd cL i t.1 t.2.2) (fun t => i + 1 - t.1) ((0, σ ++ [.prow 2 []], σ.length) : Nat × Store × Nat) rfl rfl ⟨Nat.zero_le _, hJ0⟩ ?_
      rintro ⟨j, τ, bl⟩ ⟨hj, hJ⟩ ih2
      simp only [] at hj hJ ih2 ⊢
      obtain ⟨n1, n2, n3, n4, lbl, lbd, l2, l0⟩ := hJ.bl0
      have e0 : ∀ l, (τ ++ l)[0]? = some (.kblk 2 [.nils, .nils]) := fun l => by rw [get_left l0, hJ.g0]
      have e2 : ∀ l, (τ ++ l)[2]? = some (.kblk 2 [.own bd 0 (i + 1), cL]) := fun l => by rw [get_left l2, hJ.g2]
      have ed : ∀ l, (τ ++ l)[bd]? = some (.prow 2 (Dl (gr N X) (i + 1))) := fun l => by rw [get_left lbd, hJ.gd]
      have el : ∀ l, (τ ++ l)[bl]? = some (.prow 2 (Ll (gr N X) i j)) := fun l => by rw [get_left lbl, hJ.gl]
      by_cases hji : (j : Int) ≤ i
      · have hjb : j < b.length := by omega
        obtain ⟨rj, hrj, hrjl, hrjx⟩ := hb.row j hjb
        have k169 := p169 hrix hrjx (by rw [hril, hrjl]) (by omega) (fun t ht => ⟨hb.sz i t hib (by omega), hb.sz j t hjb (by omega)⟩)
        rw [hril] at k169
        simp only [SA, setCells, Int.reduceLE, Int.reduceLT, ↓reduceIte, reduceCtorEq, Nat.reduceLT, Nat.reduceEqDiff, Nat.reduceAdd, Nat.reduceMul, Nat.reduceLeDiff, Nat.reduceBEq, hji, hri, hrj, Int.natCast_nonneg, Int.toNat_natCast, kz2 k169, push_sl]
        refine loop_rule (β := Nat) (fun k => ([(0, .p (.sl b)), (2, .ptr 0 0 0), (4, .ptr 2 0 0), (5, i64 i), (6, .own bl 0 j), (7, i64 j), (8, .ptr τ.length 0 0), (10, i64 k), (16, i64 b.length), (17, i64 i)], τ ++ [.kblk 2 (cz (V (gr N X) k i j))]))
          (fun k => k ≤ j) (fun k => j - k) 0 rfl rfl (Nat.zero_le _) ?_
        rintro k hk ih3
        simp only [] at hk ih3 ⊢
        have sV : Sz (V (gr N X) k i j) := (V_sk hb (hpos.mono (by omega)) (by omega) hk hib hjb).sz (by omega)
        by_cases hkj : (k : Int) < j
        · have hkj' : k < j := by omega
          have hpk : Pos (gr N X) (k + 1) := hpos.mono (by omega)
          have s1 := Dv_sk hb hpk (by omega)
          have s2 := V_sk hb hpk.pred (show k ≤ i by omega) hk hib hjb
          have s3 := V_sk hb hpk.pred (show k ≤ i by omega) (Nat.le_refl k) hib (by omega)
          have s4 := V_sk hb hpk.pred hk (Nat.le_refl k) hjb (by omega)
          have s5 := Dv_sk hb hpk.pred (by omega)
          have q1 := p63' (Nu.zi (s1.sz (by omega))) (Nu.zi (s2.sz (by omega)))
          have q2 := p63' (Nu.zi (s3.sz (by omega))) (Nu.zi (s4.sz (by omega)))
          have q3 := p157 (Nu.zi ((s1.mul s2).sz (by omega))) (Nu.zi ((s3.mul s4).sz (by omega)))
          have q4 := p134 (Nu.zi (((s1.mul s2).sub (s3.mul s4)).sz (by omega))) (Nu.zi (s5.sz (by omega))) (Gs.good gr_symm (M := 0) hpk.pred).dp
          rw [← Gs.V_succ] at q4
          rw [zi_raw (x := V (gr N X) k i j)] at q1
          rw [zi_raw (x := Dv (gr N X) (k + 1) * V (gr N X) k i j - V (gr N X) k i k * V (gr N X) k j k)] at q4
          have w2 : IntKind.i64.wrap ((k : Int) + 1) = ((k + 1 : Nat) : Int) := by rw [IntWalk.i64_in _ (by omega)]; omega
          have d1 := Dl_get (g := gr N X) (i := i + 1) (k := k + 1) (by omega)
          have d2 := Dl_get (g := gr N X) (i := i + 1) (k := k) (by omega)
          have d3 := Ll_get (g := gr N X) (i := i) hkj'
          have f1 : k + 1 < i + 1 := by omega
          have f2 : k < i + 1 := by omega
          by_cases hjlt : (j : Int) < i
          · have hjlt' : j < i := by omega
            have d4 := Ll_get (g := gr N X) (i := j) hkj'
            have d5 := Rl_get (g := gr N X) hjlt'
            obtain ⟨bL, hbL, hbLg⟩ : ∃ bL, cL = .own bL 0 i ∧ τ[bL]? = some (.prow 1 (Rl (gr N X) i)) := by
              rcases hJ.gL with ⟨h, h'⟩ | ⟨bL, h, h'⟩
              · have := congrArg List.length h'; rw [Rl_len] at this; simp at this; omega
              · rw [Rl_len] at h; exact ⟨bL, h, h'⟩
            subst hbL
            have lbL : bL < τ.length := (List.getElem?_eq_some_iff.1 hbLg).1
            have eL : ∀ l, (τ ++ l)[bL]? = some (.prow 1 (Rl (gr N X) i)) := fun l => by rw [get_left lbL, hbLg]
            simp only [SA, setCells, Int.reduceLE, Int.reduceLT, ↓reduceIte, reduceCtorEq, Nat.reduceLT, Nat.reduceEqDiff, Nat.reduceAdd, Nat.reduceMul, Nat.reduceLeDiff, Nat.reduceBEq, hkj, hjlt, w2, e2, ed, el, eL, bsz, cz, f1, f2, hkj', hjlt', d1, d2, d3, d4, d5, subPV_zi, kz2 q1, kz2 q2, kp2 q3, Int.natCast_nonneg, Int.toNat_natCast]
            rw [r_nilx]
            refine ⟨by rfl, ?_⟩
            simp only [SA, setCells, Int.reduceLE, Int.reduceLT, ↓reduceIte, reduceCtorEq, Nat.reduceLT, Nat.reduceEqDiff, Nat.reduceAdd, Nat.reduceMul, Nat.reduceLeDiff, Nat.reduceBEq, e2, ed, el, bsz, f2, d2, subPV_zi, kz2 q4, w2, Int.natCast_nonneg, Int.toNat_natCast]
            refine ih3 (k + 1) _ (by omega) (by omega) ?_
            rfl
          · obtain rfl : j = i := by omega
            simp only [SA, setCells, Int.reduceLE, Int.reduceLT, ↓reduceIte, reduceCtorEq, Nat.reduceLT, Nat.reduceEqDiff, Nat.reduceAdd, Nat.reduceMul, Nat.reduceLeDiff, Nat.reduceBEq, hkj, hjlt, w2, e2, ed, el, bsz, cz, f1, f2, hkj', d1, d2, d3, subPV_zi, kz2 q1, kz2 q2, kp2 q3, Int.natCast_nonneg, Int.toNat_natCast]
            rw [r_nilx]
            refine ⟨by rfl, ?_⟩
            simp only [SA, setCells, Int.reduceLE, Int.reduceLT, ↓reduceIte, reduceCtorEq, Nat.reduceLT, Nat.reduceEqDiff, Nat.reduceAdd, Nat.reduceMul, Nat.reduceLeDiff, Nat.reduceBEq, e2, ed, el, bsz, f2, d2, subPV_zi, kz2 q4, w2, Int.natCast_nonneg, Int.toNat_natCast]
            refine ih3 (k + 1) _ (by omega) (by omega) ?_
            rfl
        · obtain rfl : k = j := by omega
          have w3 : IntKind.i64.wrap ((k : Int) + 1) = ((k + 1 : Nat) : Int) := by rw [IntWalk.i64_in _ (by omega)]; omega
          have c1 : content (τ ++ [.kblk 2 (cz (V (gr N X) k i k)), .prow 2 [zi (V (gr N X) k i k)]]) (.own bl 0 k) = some (Ll (gr N X) i k) := by
            simp only [content, el, Ll_len, Nat.zero_add, Nat.le_refl, if_true, List.drop_zero]
            rw [List.take_of_length_le (by rw [Ll_len]; omega)]
          have c2 : content (τ ++ [.kblk 2 (cz (V (gr N X) k i k)), .prow 2 [zi (V (gr N X) k i k)]]) (.own (τ.length + 1) 0 1) = some [zi (V (gr N X) k i k)] := by
            simp only [content, get_app]; rfl
          have m4 : (k + 1) * 32 ≤ 140737488355328 := by omega
          simp only [cz, zi_raw] at c1 c2
          have sl : ∀ l x, (τ ++ l).set bl x = τ.set bl x ++ l := fun l x => set_left lbl
          simp only [SA, setCells, Int.reduceLE, Int.reduceLT, ↓reduceIte, reduceCtorEq, Nat.reduceLT, Nat.reduceEqDiff, Nat.reduceAdd, Nat.reduceMul, Nat.reduceLeDiff, Nat.reduceBEq, hkj, cz, r_append, c1, c2, el, Ll_len, m4, sl, w3]
          rw [← zi_raw (x := V (gr N X) k i k), ← Ll_succ]
          refine ih2 (k + 1, τ.set bl .dead ++ [.kblk 2 (cz (V (gr N X) k i k)), .prow 2 [zi (V (gr N X) k i k)], .prow 2 (Ll (gr N X) i (k + 1))], τ.length + 2) _ ⟨by simp only []; omega, ?_⟩ (by simp only []; omega) ?_
          · have lt : ∀ x, x ≠ bl → x < τ.length → ∀ l, (τ.set bl .dead ++ l)[x]? = τ[x]? := fun x hx hl l => by
              rw [get_left (by rw [List.length_set]; exact hl), get_ne (Ne.symm hx)]
            refine ⟨by rw [lt 0 n1.symm l0, hJ.g0], by rw [lt 2 n2.symm l2, hJ.g2], by rw [lt bd hJ.ne.symm lbd, hJ.gd], ?_, ?_, by simp only []; omega⟩
            · exact (hJ.gL.set_ne (GL.ne2 hJ.gL hJ.gl)).left
            · rw [show τ.length + 2 = (τ.set bl Blk.dead).length + 2 by rw [List.length_set], get_app]; rfl
          · rfl
      · obtain rfl : j = i + 1 := by omega
        have hji' : ¬ ((i + 1 : Nat) : Int) ≤ i := by omega
        have hVz : Nu (zi (V (gr N X) i i i)) (V (gr N X) i i i) := Nu.zi ((V_sk hb hpos (Nat.le_refl _) (Nat.le_refl _) hib hib).sz (by omega))
        have k77 := p77 hVz
        have d1 := Ll_get (g := gr N X) (i := i) (Nat.lt_succ_self i)
        have f1 : i < i + 1 := Nat.lt_succ_self i
        by_cases hs : (V (gr N X) i i i).sign ≤ 0
        · have hVn : V (gr N X) i i i ≤ 0 := Int.sign_nonpos_iff.1 hs
          have s0 : ∀ x, (τ.set 0 x)[0]? = some x := fun x => get_self l0
          simp only [SA, setCells, Int.reduceLE, Int.reduceLT, ↓reduceIte, reduceCtorEq, Nat.reduceLT, Nat.reduceEqDiff, Nat.reduceAdd, Nat.reduceMul, Nat.reduceLeDiff, Nat.reduceBEq, hji', hJ.gl, hJ.g0, bsz, f1, d1, subPV_zi, kz1 k77, hs, Int.natCast_nonneg, Int.toNat_natCast, s0]
          rw [hR2 (fun hp => by have := hp i hib; omega)]
          rfl
        · have hVp : 0 < V (gr N X) i i i := by
            rcases Int.lt_or_le 0 (V (gr N X) i i i) with h | h
            · exact h
            · exact absurd (Int.sign_nonpos_iff.2 h) hs
          have gD : GL τ 2 (.own bd 0 (i + 1)) (Dl (gr N X) (i + 1)) := GL.own hJ.gd Dl_len.symm
          have m5 : ((Dl (gr N X) (i + 1)).length + [zi (V (gr N X) i i i)].length) * 32 ≤ 140737488355328 := by rw [Dl_len]; simp; omega
          have hDs : Dl (gr N X) (i + 1) ++ [zi (V (gr N X) i i i)] = Dl (gr N X) (i + 2) := by rw [Dl_succ (i := i + 1)]; rfl
          have sd : ∀ l x, (τ.set bd .dead ++ l).set 2 x = (τ.set bd .dead).set 2 x ++ l := fun l x => set_left (by rw [List.length_set]; exact l2)
          have gd2 : ∀ l, (τ.set bd .dead ++ l)[2]? = some (.kblk 2 [.own bd 0 (i + 1), cL]) := fun l => by rw [get_left (by rw [List.length_set]; exact l2), get_ne n4, hJ.g2]
          simp only [SA, setCells, Int.reduceLE, Int.reduceLT, ↓reduceIte, reduceCtorEq, Nat.reduceLT, Nat.reduceEqDiff, Nat.reduceAdd, Nat.reduceMul, Nat.reduceLeDiff, Nat.reduceBEq, hji', hJ.gl, hJ.g0, hJ.g2, hJ.gd, bsz, f1, d1, subPV_zi, kz1 k77, hs, Int.natCast_nonneg, Int.toNat_natCast, e2, el, push_sl, r_app_sl rfl gD m5, nd, Dl_len, hDs, sd, gd2]
          rw [r_nilx]
          refine ⟨by rfl, ?_⟩
          -- the store with the new determinant
          obtain ⟨ρ, hρ⟩ : ∃ ρ, ρ = (τ.set bd .dead).set 2 (.kblk 2 [.own (τ.length + 1) 0 (i + 2), cL]) ++ [.prow 2 [zi (V (gr N X) i i i)], .prow 2 (Dl (gr N X) (i + 2))] := ⟨_, rfl⟩
          have hl : ((τ.set bd Blk.dead).set 2 (.kblk 2 [.own (τ.length + 1) 0 (i + 2), cL])).length = τ.length := by rw [List.length_set, List.length_set]
          have r0 : ρ[0]? = some (.kblk 2 [.nils, .nils]) := by rw [hρ, get_left (by rw [hl]; exact l0), get_ne (by omega), get_ne n3, hJ.g0]
          have r2 : ρ[2]? = some (.kblk 2 [.own (τ.length + 1) 0 (i + 2), cL]) := by rw [hρ, get_left (by rw [hl]; exact l2), get_self (by rw [List.length_set]; exact l2)]
          have rd : ρ[τ.length + 1]? = some (.prow 2 (Dl (gr N X) (i + 2))) := by rw [hρ, List.getElem?_append_right (by rw [hl]; omega), hl, Nat.add_sub_cancel_left]; rfl
          have rl : ρ[bl]? = some (.prow 2 (Ll (gr N X) i (i + 1))) := by rw [hρ, get_left (by rw [hl]; exact lbl), get_ne (Ne.symm n2), get_ne (Ne.symm hJ.ne), hJ.gl]
          have rL : GL ρ 1 cL (Rl (gr N X) i) := by
            rw [hρ]
            refine (GL.set_ne (hJ.gL.set_ne (GL.ne2 hJ.gL hJ.gd)) ?_).left
            rintro b' o n rfl rfl
            rcases hJ.gL with ⟨h, _⟩ | ⟨b2, h, hb2⟩
            · cases h
            · cases h; rw [hJ.g2] at hb2; cases hb2
          rw [← hρ]
          have lr2 : 2 < ρ.length := (List.getElem?_eq_some_iff.1 r2).1
          have lr0 : 0 < ρ.length := (List.getElem?_eq_some_iff.1 r0).1
          have lrl : bl < ρ.length := (List.getElem?_eq_some_iff.1 rl).1
          have q2 : ∀ l, (ρ ++ l)[2]? = some (.kblk 2 [.own (τ.length + 1) 0 (i + 2), cL]) := fun l => by rw [get_left lr2, r2]
          have ql : ∀ l, (ρ ++ l)[bl]? = some (.prow 2 (Ll (gr N X) i (i + 1))) := fun l => by rw [get_left lrl, rl]
          have hii : i ≤ i + 1 := by omega
          have hf := fun {rp rs d l dr ks e Q x} => r_fz_sl (rp := rp) (rs := rs) (d := d) (l := l) (dr := dr) (ks := ks) (e := e) (Q := Q) (x := x) rl (show i ≤ (Ll (gr N X) i (i + 1)).length by rw [Ll_len]; omega)
          have gL' : GL (ρ.set bl .dead) 1 cL (Rl (gr N X) i) := rL.set_ne (GL.ne2 rL rl)
          have m6 : ((Rl (gr N X) i).length + [PV.sl (Ll (gr N X) i i)].length) * 24 ≤ 140737488355328 := by rw [Rl_len]; simp; omega
          have hRs : Rl (gr N X) i ++ [PV.sl (Ll (gr N X) i i)] = Rl (gr N X) (i + 1) := Rl_succ.symm
          have lset : (ρ.set bl Blk.dead).length = ρ.length := List.length_set
          have lnd : (nd (ρ.set bl .dead) cL).length = ρ.length := by rw [nd_len, lset]
          have h2s : (ρ.set bl .dead)[2]? = some (.kblk 2 [.own (τ.length + 1) 0 (i + 2), cL]) := by rw [get_ne n2, r2]
          have h0s : (ρ.set bl .dead)[0]? = some (.kblk 2 [.nils, .nils]) := by rw [get_ne n1, r0]
          have v2 : ∀ l, (nd (ρ.set bl .dead) cL ++ l)[2]? = some (.kblk 2 [.own (τ.length + 1) 0 (i + 2), cL]) := fun l => nd_get gL' h2s
          have v2s : ∀ l x, (nd (ρ.set bl .dead) cL ++ l).set 2 x = (nd (ρ.set bl .dead) cL).set 2 x ++ l := fun l x => set_left (by rw [lnd]; exact lr2)
          have hA := fun {rp rs d l dr ks e Q s x} => r_app_sl (rp := rp) (rs := rs) (d := d) (l := l) (dr := dr) (ks := ks) (e := e) (Q := Q) (s := s) (x := x) lset.symm gL' m6
          simp only [SA, setCells, Int.reduceLE, Int.reduceLT, ↓reduceIte, reduceCtorEq, Nat.reduceLT, Nat.reduceEqDiff, Nat.reduceAdd, Nat.reduceMul, Nat.reduceLeDiff, Nat.reduceBEq, q2, ql, bsz, sliceV, hii, hf, Ll_take, Nat.sub_zero, Nat.zero_le, Int.natCast_nonneg, Int.toNat_natCast, hA, Rl_len, hRs, v2, v2s]
          rw [r_nilx]
          refine ⟨by simp [apartAt, apartB, foot, addrs, ownsOf, own0, vl, gt, n2, Ne.symm n2, List.elem], ?_⟩
          simp only [SA, setCells, Int.reduceLE, Int.reduceLT, ↓reduceIte, reduceCtorEq, Nat.reduceLT, Nat.reduceEqDiff, Nat.reduceAdd, Nat.reduceMul, Nat.reduceLeDiff, Nat.reduceBEq, w1]
          have hbd : bl ≠ τ.length + 1 := by omega
          have hdn : (nd (ρ.set bl .dead) cL)[τ.length + 1]? = some (.prow 2 (Dl (gr N X) (i + 2))) := by
            have h1 : (ρ.set bl .dead)[τ.length + 1]? = some (.prow 2 (Dl (gr N X) (i + 2))) := by rw [get_ne hbd, rd]
            have hne := GL.ne2 gL' h1
            cases cL with
            | own b' o n => simp only [nd]; rw [get_ne (hne b' o n rfl), h1]
            | _ => exact h1
          have h0n : (nd (ρ.set bl .dead) cL)[0]? = some (.kblk 2 [.nils, .nils]) := by have := nd_get gL' h0s (τ := []); rwa [List.append_nil] at this
          have hll : ((nd (ρ.set bl .dead) cL).set 2 (.kblk 2 [.own (τ.length + 1) 0 (i + 2), .own (ρ.length + 1) 0 (i + 1)])).length = ρ.length := by rw [List.length_set, lnd]
          have ltd : τ.length + 1 < ρ.length := (List.getElem?_eq_some_iff.1 rd).1
          refine ih (i + 1, (nd (ρ.set bl .dead) cL).set 2 (.kblk 2 [.own (τ.length + 1) 0 (i + 2), .own (ρ.length + 1) 0 (i + 1)]) ++ [.prow 1 [.sl (Ll (gr N X) i i)], .prow 1 (Rl (gr N X) (i + 1))], τ.length + 1, .own (ρ.length + 1) 0 (i + 1)) _
            ⟨by simp only []; omega, ?_, ?_, ?_, ?_, ?_⟩ (by simp only []; omega) ?_
          · intro t ht
            rcases Nat.lt_or_ge t i with h | h
            · exact hpos t h
            · obtain rfl : t = i := by simp only [] at ht; omega
              exact hVp
          · simp only []
            rw [get_left (by rw [hll]; exact lr0), get_ne (by omega), h0n]
          · simp only []
            rw [get_left (by rw [hll]; exact lr2), get_self (by rw [lnd]; exact lr2)]
          · simp only []
            rw [get_left (by rw [hll]; exact ltd), get_ne (by omega), hdn]
          · simp only []
            refine .own ?_ Rl_len.symm
            rw [List.getElem?_append_right (by rw [hll]; omega), hll, Nat.add_sub_cancel_left]; rfl
          · rfl
    · obtain rfl : i = b.length := by omega
      have s0 : ∀ x, (σ.set 0 x)[0]? = some x := fun x => get_self (List.getElem?_eq_some_iff.1 h0).1
      have nd0 : bd ≠ 0 := by rintro rfl; rw [h0] at hd; cases hd
      have hfd : frz1 (σ.set 0 (.kblk 2 [.own bd 0 (b.length + 1), cL])) (.own bd 0 (b.length + 1)) = some (.sl (Dl (gr N X) (b.length + 1))) := frz1_own (s := 2) (by rw [get_ne nd0.symm, hd]) Dl_len.symm
      have hfl : frz1 (σ.set 0 (.kblk 2 [.own bd 0 (b.length + 1), cL])) cL = some (.sl (Rl (gr N X) b.length)) := GL.frz1 (sz := 1) (hL.set_ne (by
        rintro b' o n rfl rfl
        rcases hL with ⟨h, _⟩ | ⟨b2, h, hb2⟩
        · cases h
        · cases h; rw [h0] at hb2; cases hb2))
      simp only [SA, setCells, Int.reduceLE, Int.reduceLT, ↓reduceIte, reduceCtorEq, Nat.reduceLT, Nat.reduceEqDiff, Nat.reduceAdd, Nat.reduceMul, Nat.reduceLeDiff, Nat.reduceBEq, hin, h2, h0, s0]
      rw [hR1 hpos]
      rcases hL with ⟨h, _⟩ | ⟨bL, h, _⟩ <;> subst h <;> simp [back, backL, back1, frz, frzL, hfd, hfl, frz1_p]
  exact ⟨fun h => key _ (fun _ => rfl) (fun h2 => absurd h h2), fun h => key _ (fun h2 => absurd h2 h) (fun _ => rfl)⟩
end
end Go.Proofs.Ytdpdnplljonppaa.VBn

namespace Go.Proofs.Ytdpdnplljonppaa.VBn
open Go Vpi
open Gs (V Dv Pos Good)
set_option maxRecDepth 100000
set_option linter.unusedSimpArgs false
set_option linter.unusedVariables false
theorem rp108 : rp 93 = some f93 := rfl
theorem rp59 : rp 38 = some f38 := rfl
open Classical in
noncomputable def vE (n : Nat → Nat) (X : Nat → Nat → Int) (m : Nat) : Int := if shE n X m ≠ 0 then shE n X m else if Pos (gr (n 0) X) m then 0 else 50
section
variable {b : List PV} {n : Nat → Nat} {X : Nat → Nat → Int}
theorem shE_zero {m : Nat} (h : shE n X m = 0) : ¬ Big n X m ∧ m ≠ 0 ∧ ¬ Uneven n m := by
  unfold shE at h
  refine ⟨fun hb => ?_, fun h0 => ?_, fun hu => ?_⟩
  · rw [if_pos hb] at h; cases h
  · by_cases hb : Big n X m
    · rw [if_pos hb] at h; cases h
    · rw [if_neg hb, if_pos h0] at h; cases h
  · by_cases hb : Big n X m
    · rw [if_pos hb] at h; cases h
    · by_cases h0 : m = 0
      · rw [if_neg hb, if_pos h0] at h; cases h
      · rw [if_neg hb, if_neg h0, if_pos hu] at h; cases h
theorem sk8_of_bl {x : Int} (h : bl x.natAbs ≤ 256) : Sk 8 x := by
  unfold Sk
  by_cases h0 : x.natAbs = 0
  · rw [h0]; exact Nat.pow_pos LB_pos
  · have h1 := (bl_spec h0).2.1
    have h2 : 2 ^ bl x.natAbs ≤ 2 ^ 256 := Nat.pow_le_pow_right (by decide) h
    have h3 : LB ^ 8 = 2 ^ 256 := by
      show (2 ^ 32) ^ 8 = _
      rw [← Nat.pow_mul]
    rw [h3]; omega
theorem MR.bs (hb : MR b n X) (h : shE n X b.length = 0) : Bs b (n 0) X := by
  obtain ⟨h1, h2, h3⟩ := shE_zero h
  have hm : b.length ≤ 12 := Nat.not_lt.1 fun hh => h1 (.inl hh)
  have hn : ∀ i, i < b.length → n i = n 0 := fun i hi => Classical.byContradiction fun hne => h3 ⟨i, hi, hne⟩
  refine ⟨hm, Nat.not_lt.1 fun hh => h1 (.inr (.inl ⟨0, by omega, hh⟩)), fun i hi => ?_, fun i j hi hj => ?_⟩
  · obtain ⟨r, hr, hl, _, hx⟩ := hb i hi
    exact ⟨r, hr, by rw [hl, hn i hi], hx⟩
  · exact sk8_of_bl (Nat.not_lt.1 fun hh => h1 (.inr (.inr ⟨i, j, hi, by rw [hn i hi]; exact hj, hh⟩)))
theorem p59 (hb : MR b n X) (hlb : b.length ≤ 2000000) : Pu rp 38 [.sl b] (.p (.int .i64 (vE n X b.length))) := by
  have k137 := p137 hb hlb
  have key : ∃ g, Pu rp 93 [.sl b, .bool true] (.tup [.p (.agg g), .p (.int .i64 (vE n X b.length))]) ∧ g.length = 2 := by
    by_cases he : shE n X b.length = 0
    · have hbs := hb.bs he
      obtain ⟨h1, h2⟩ := p138 hbs
      have e0 : (shE n X b.length != 0) = false := by rw [he]; rfl
      by_cases hp : Pos (gr (n 0) X) b.length
      · refine ⟨[.sl (Dl (gr (n 0) X) (b.length + 1)), .sl (Rl (gr (n 0) X) b.length)], pu_of rp108 ?_, rfl⟩
        rw [vE, if_neg (by simp [he]), if_pos hp]
        simp only [f93, args0, SA, setCells, Int.reduceLE, Int.reduceLT, ↓reduceIte, reduceCtorEq, Nat.reduceLT, Nat.reduceEqDiff, Nat.reduceAdd, Nat.reduceMul, Nat.reduceLeDiff, Nat.reduceBEq, kp2 k137, e0, kp1 (h1 hp), unV, Bool.not_true]
        rfl
      · refine ⟨[.sl [], .sl []], pu_of rp108 ?_, rfl⟩
        rw [vE, if_neg (by simp [he]), if_neg hp]
        simp only [f93, args0, SA, setCells, Int.reduceLE, Int.reduceLT, ↓reduceIte, reduceCtorEq, Nat.reduceLT, Nat.reduceEqDiff, Nat.reduceAdd, Nat.reduceMul, Nat.reduceLeDiff, Nat.reduceBEq, kp2 k137, e0, kp1 (h2 hp), unV, Bool.not_false]
        rfl
    · have e0 : (shE n X b.length != 0) = true := by simp [he]
      refine ⟨[.sl [], .sl []], pu_of rp108 ?_, rfl⟩
      rw [vE, if_pos he]
      simp only [f93, args0, SA, setCells, Int.reduceLE, Int.reduceLT, ↓reduceIte, reduceCtorEq, Nat.reduceLT, Nat.reduceEqDiff, Nat.reduceAdd, Nat.reduceMul, Nat.reduceLeDiff, Nat.reduceBEq, kp2 k137, e0]
      rfl
  obtain ⟨g, k108, hg⟩ := key
  obtain ⟨g1, g2, rfl⟩ : ∃ g1 g2, g = [g1, g2] := by
    match g, hg with
    | [a, c], _ => exact ⟨a, c, rfl⟩
  refine pu_of rp59 ?_
  simp only [f38, args0, SA, setCells, Int.reduceLE, Int.reduceLT, ↓reduceIte, reduceCtorEq, Nat.reduceLT, Nat.reduceEqDiff, Nat.reduceAdd, Nat.reduceMul, Nat.reduceLeDiff, Nat.reduceBEq, kp2 k108]
  rfl
end
end Go.Proofs.Ytdpdnplljonppaa.VBn
