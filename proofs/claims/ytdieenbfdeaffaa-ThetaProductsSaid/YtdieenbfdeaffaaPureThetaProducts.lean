/- The product of two series: for all lists of counts p, q and each last place m, the program and the reference answer the same error and the same numbers. No condition but the sizes that memory can hold. -/
import Derived.Test.YtdieenbfdeaffaaPThetaProductsx2
namespace Go.Proofs.Ytdieenbfdeaffaa.Pure
set_option linter.unusedVariables false
set_option maxHeartbeats 2000000
open Go.RowKit Go.Proofs.Ytdieenbfdeaffaa.PThetaProducts Go.Proofs.YtdieenbfdeaffaaW.PrintWords Go.Proofs.YtdieenbfdeaffaaW.PrintLast

theorem w64 {x : Int} (h0 : -9223372036854775808 ≤ x) (h : x < 9223372036854775808) : wrap64 x = x := by
  unfold wrap64; omega

/-- whether a list is refused, as both see it -/
theorem wrong_series (l : List Int) (hn : l.length ≤ 140737488351232) : ∀ d k : Nat, k + d = l.length →
    ∃ b : Bool, (∀ F, d + 1 ≤ F → theta_wrong.l0 F l l (l.length : Int) (k : Int) = some b) ∧
      (∀ F, d + 1 ≤ F → trammelref20_series.l0 F l (k : Int) = some (!b)) ∧ (b = false → l.length ≤ 4097) := by
  intro d
  induction d with
  | zero =>
    intro k hk
    refine ⟨decide ((l.length : Int) > 4097), ?_, ?_, ?_⟩
    · intro F hF
      obtain ⟨F, rfl⟩ : ∃ m, F = m + 1 := ⟨F - 1, by omega⟩
      simp only [theta_wrong.l0]; rw [if_neg (by omega)]
    · intro F hF
      obtain ⟨F, rfl⟩ : ∃ m, F = m + 1 := ⟨F - 1, by omega⟩
      simp only [trammelref20_series.l0]; rw [if_neg (by omega)]
      congr 1
      by_cases h : (l.length : Int) ≤ 4097
      · rw [decide_eq_true h, decide_eq_false (by omega)]; rfl
      · rw [decide_eq_false h, decide_eq_true (by omega)]; rfl
    · intro h; have := of_decide_eq_false h; omega
  | succ d ih =>
    intro k hk
    by_cases h1 : rd l (k : Int) < 0
    · refine ⟨true, ?_, ?_, by simp⟩
      · intro F hF
        obtain ⟨F, rfl⟩ : ∃ m, F = m + 1 := ⟨F - 1, by omega⟩
        simp only [theta_wrong.l0]; rw [if_pos (by omega), if_pos (by omega), if_pos (by omega), if_pos h1]
      · intro F hF
        obtain ⟨F, rfl⟩ : ∃ m, F = m + 1 := ⟨F - 1, by omega⟩
        simp only [trammelref20_series.l0]; rw [if_pos (by omega), if_pos (by omega), if_pos h1]; rfl
    · by_cases h2 : rd l (k : Int) > 131072
      · refine ⟨true, ?_, ?_, by simp⟩
        · intro F hF
          obtain ⟨F, rfl⟩ : ∃ m, F = m + 1 := ⟨F - 1, by omega⟩
          simp only [theta_wrong.l0]; rw [if_pos (by omega), if_pos (by omega), if_pos (by omega), if_neg h1, if_pos h2]
        · intro F hF
          obtain ⟨F, rfl⟩ : ∃ m, F = m + 1 := ⟨F - 1, by omega⟩
          simp only [trammelref20_series.l0]; rw [if_pos (by omega), if_pos (by omega), if_neg h1, if_pos h2]; rfl
      · obtain ⟨b, hb1, hb2, hb3⟩ := ih (k + 1) (by omega)
        refine ⟨b, ?_, ?_, hb3⟩
        · intro F hF
          obtain ⟨F, rfl⟩ : ∃ m, F = m + 1 := ⟨F - 1, by omega⟩
          simp only [theta_wrong.l0]; rw [if_pos (by omega), if_pos (by omega), if_pos (by omega), if_neg h1, if_neg h2, w64 (by omega) (by omega)]
          exact hb1 F (by omega)
        · intro F hF
          obtain ⟨F, rfl⟩ : ∃ m, F = m + 1 := ⟨F - 1, by omega⟩
          simp only [trammelref20_series.l0]; rw [if_pos (by omega), if_pos (by omega), if_neg h1, if_neg h2, w64 (by omega) (by omega)]
          exact hb2 F (by omega)

/-- one number of p, from the k-th number of q on -/
def inn (q : List Int) (x : Int) (m i : Nat) : Nat → Nat → List Int → List Int
  | 0, _, out => out
  | d + 1, k, out => inn q x m i d (k + 1) (if i + k ≤ m then out.set (i + k) (wrap64 (rd out ((i + k : Nat) : Int) + wrap64 (x * rd q (k : Int)))) else out)

theorem inn_len (q : List Int) (x : Int) (m i : Nat) : ∀ (d k : Nat) (out : List Int), (inn q x m i d k out).length = out.length := by
  intro d
  induction d with
  | zero => intros; rfl
  | succ d ih => intro k out; rw [inn, ih]; split <;> simp

theorem inn_past (q : List Int) (x : Int) (m i : Nat) : ∀ (d k : Nat) (out : List Int), m < i + k → inn q x m i d k out = out := by
  intro d
  induction d with
  | zero => intros; rfl
  | succ d ih => intro k out h; rw [inn, if_neg (by omega), ih _ _ (by omega)]

theorem prog_in (p q : List Int) (m i : Nat) (x : Int) (p0 : List Int) (n0 : Int) (r : List Int × Int) (K : Nat)
    (hq : q.length ≤ 4097) (hi : i ≤ 4097) (hm : m ≤ 4096) : ∀ (d k : Nat) (out : List Int), k + d = q.length → out.length = m + 1 →
    (∀ K', K ≤ K' → theta_Times.l0 K' q (m : Int) (inn q x m i d k out) p0 n0 (wrap64 ((i : Int) + 1)) = some r) →
    ∀ F, d + 1 + K ≤ F → theta_Times.l1 F q (m : Int) out (i : Int) x p0 n0 (i : Int) q (q.length : Int) (k : Int) = some r := by
  intro d
  induction d with
  | zero =>
    intro k out hk ho h F hF
    obtain ⟨F, rfl⟩ : ∃ m, F = m + 1 := ⟨F - 1, by omega⟩
    simp only [theta_Times.l1]; rw [if_neg (by omega)]
    exact h F (by omega)
  | succ d ih =>
    intro k out hk ho h F hF
    obtain ⟨F, rfl⟩ : ∃ m, F = m + 1 := ⟨F - 1, by omega⟩
    simp only [theta_Times.l1]
    have e1 : wrap64 ((i : Int) + (k : Int)) = ((i + k : Nat) : Int) := by rw [w64 (by omega) (by omega)]; omega
    have e2 : wrap64 ((k : Int) + 1) = ((k + 1 : Nat) : Int) := by rw [w64 (by omega) (by omega)]; omega
    rw [if_pos (by omega), if_pos (by omega), if_pos (by omega), e1, e2]
    by_cases hc : i + k ≤ m
    · rw [if_pos (by omega), if_pos (by omega), if_pos (by omega), Int.toNat_natCast]
      refine ih (k + 1) _ (by omega) (by simpa using ho) ?_ F (by omega)
      intro K' hK
      have := h K' hK
      rwa [inn, if_pos hc] at this
    · rw [if_neg (by omega)]
      refine ih (k + 1) _ (by omega) ho ?_ F (by omega)
      intro K' hK
      have := h K' hK
      rwa [inn, if_neg hc] at this

theorem ref_in (p q : List Int) (m i : Nat) (r : List Int × Int) (K : Nat)
    (hq : q.length ≤ 4097) (hi : i < p.length) (hp : p.length ≤ 4097) (hm : m ≤ 4096) : ∀ (d k : Nat) (out : List Int), k + d = q.length → out.length = m + 1 →
    (∀ K', K ≤ K' → trammelref20_Times.l0 K' p q (m : Int) (inn q (rd p (i : Int)) m i d k out) (wrap64 ((i : Int) + 1)) = some r) →
    ∀ F, d + 1 + K ≤ F → trammelref20_Times.l1 F p q (m : Int) out (i : Int) (k : Int) = some r := by
  intro d
  induction d with
  | zero =>
    intro k out hk ho h F hF
    obtain ⟨F, rfl⟩ : ∃ m, F = m + 1 := ⟨F - 1, by omega⟩
    simp only [trammelref20_Times.l1]; rw [if_neg (by omega)]
    exact h F (by omega)
  | succ d ih =>
    intro k out hk ho h F hF
    obtain ⟨F, rfl⟩ : ∃ m, F = m + 1 := ⟨F - 1, by omega⟩
    simp only [trammelref20_Times.l1]
    have e1 : wrap64 ((i : Int) + (k : Int)) = ((i + k : Nat) : Int) := by rw [w64 (by omega) (by omega)]; omega
    have e2 : wrap64 ((k : Int) + 1) = ((k + 1 : Nat) : Int) := by rw [w64 (by omega) (by omega)]; omega
    rw [if_pos (by omega), e1, e2]
    by_cases hc : i + k ≤ m
    · have c1 : ((i + k : Nat) : Int) ≤ (m : Int) := Int.ofNat_le.2 hc
      have c3 : ((i + k : Nat) : Int) < (out.length : Int) := Int.ofNat_lt.2 (by rw [ho]; exact Nat.lt_succ_of_le hc)
      rw [if_pos c1, if_pos (Int.natCast_nonneg _), if_pos c3, if_pos (Int.natCast_nonneg _), if_pos (Int.ofNat_lt.2 hi), if_pos (Int.natCast_nonneg _), Int.toNat_natCast]
      refine ih (k + 1) _ (by omega) (by simpa using ho) ?_ F (by omega)
      intro K' hK
      have := h K' hK
      rwa [inn, if_pos hc] at this
    · rw [if_neg (by omega)]
      have := h F (by omega)
      rwa [inn_past _ _ _ _ _ _ _ (by omega)] at this

/-- all numbers of p from the i-th on -/
def outs (p q : List Int) (m : Nat) : Nat → Nat → List Int → List Int
  | 0, _, out => out
  | d + 1, i, out => outs p q m d (i + 1) (inn q (rd p (i : Int)) m i q.length 0 out)

theorem prog_out (p q : List Int) (m : Nat) (hq : q.length ≤ 4097) (hp : p.length ≤ 4097) (hm : m ≤ 4096) : ∀ (d i : Nat) (out : List Int), i + d = p.length → out.length = m + 1 →
    ∀ F, d * (q.length + 2) + 1 ≤ F → theta_Times.l0 F q (m : Int) out p (p.length : Int) (i : Int) = some (outs p q m d i out, 0) := by
  intro d
  induction d with
  | zero =>
    intro i out hk ho F hF
    obtain ⟨F, rfl⟩ : ∃ m, F = m + 1 := ⟨F - 1, by omega⟩
    simp only [theta_Times.l0]; rw [if_neg (by omega)]; rfl
  | succ d ih =>
    intro i out hk ho F hF
    obtain ⟨F, rfl⟩ : ∃ m, F = m + 1 := ⟨F - 1, by omega⟩
    simp only [theta_Times.l0]
    rw [if_pos (by omega), if_pos (by omega), if_pos (by omega)]
    rw [Nat.succ_mul] at hF
    refine prog_in p q m i _ p _ _ (d * (q.length + 2) + 1) hq (by omega) hm q.length 0 out (by omega) ho ?_ F (by omega)
    intro K' hK
    rw [w64 (by omega) (by omega), show (i : Int) + 1 = ((i + 1 : Nat) : Int) by omega]
    rw [ih (i + 1) _ (by omega) (by rw [inn_len]; exact ho) K' hK, outs]

theorem ref_out (p q : List Int) (m : Nat) (hq : q.length ≤ 4097) (hp : p.length ≤ 4097) (hm : m ≤ 4096) : ∀ (d i : Nat) (out : List Int), i + d = p.length → out.length = m + 1 →
    ∀ F, d * (q.length + 2) + 1 ≤ F → trammelref20_Times.l0 F p q (m : Int) out (i : Int) = some (outs p q m d i out, 0) := by
  intro d
  induction d with
  | zero =>
    intro i out hk ho F hF
    obtain ⟨F, rfl⟩ : ∃ m, F = m + 1 := ⟨F - 1, by omega⟩
    simp only [trammelref20_Times.l0]; rw [if_neg (by omega)]; rfl
  | succ d ih =>
    intro i out hk ho F hF
    obtain ⟨F, rfl⟩ : ∃ m, F = m + 1 := ⟨F - 1, by omega⟩
    simp only [trammelref20_Times.l0]
    rw [if_pos (by omega)]
    rw [Nat.succ_mul] at hF
    refine ref_in p q m i _ (d * (q.length + 2) + 1) hq (by omega) hp hm q.length 0 out (by omega) ho ?_ F (by omega)
    intro K' hK
    rw [w64 (by omega) (by omega), show (i : Int) + 1 = ((i + 1 : Nat) : Int) by omega]
    rw [ih (i + 1) _ (by omega) (by rw [inn_len]; exact ho) K' hK, outs]

theorem ints_self (l : List Int) (hn : l.length ≤ 140737488351232) : ∀ d k : Nat, k + d = l.length → ∀ F, d + 1 ≤ F → trammellaw20_ints.l0 F l l (k : Int) = some true := by
  intro d
  induction d with
  | zero =>
    intro k hk F hF
    obtain ⟨F, rfl⟩ : ∃ m, F = m + 1 := ⟨F - 1, by omega⟩
    simp only [trammellaw20_ints.l0]; rw [if_neg (by omega)]
  | succ d ih =>
    intro k hk F hF
    obtain ⟨F, rfl⟩ : ∃ m, F = m + 1 := ⟨F - 1, by omega⟩
    simp only [trammellaw20_ints.l0]; rw [if_pos (by omega), if_pos (by omega), if_pos (by omega)]
    rw [if_pos trivial, w64 (by omega) (by omega)]
    exact ih (k + 1) (by omega) F (by omega)

theorem outs_len (p q : List Int) (m : Nat) : ∀ (d i : Nat) (out : List Int), (outs p q m d i out).length = out.length := by
  intro d
  induction d with
  | zero => intros; rfl
  | succ d ih => intro i out; rw [outs, ih, inn_len]

theorem ThetaProducts : trammellaw20_ThetaProducts.Pure := by
  intro p q a hp0 hp hpw hq0 hq hqw ha
  obtain ⟨b, hb1, hb2, hb3⟩ := wrong_series p (by omega) p.length 0 (by omega)
  obtain ⟨c, hc1, hc2, hc3⟩ := wrong_series q (by omega) q.length 0 (by omega)
  rw [show ((0 : Nat) : Int) = 0 from rfl] at hb1 hb2 hc1 hc2
  have key : ∃ (K : Nat) (r : List Int × Int), r.1.length ≤ 4097 ∧ ∀ F, K ≤ F → theta_Times.f F p q a = some r ∧ trammelref20_Times.f F p q a = some r := by
    have refused : ∀ F, p.length + q.length + 2 ≤ F → theta_Times.j0 F p q a true = some ([], 1) ∧ trammelref20_Times.j0 F p q a true = some ([], 1) := by
      intro F hF
      obtain ⟨F, rfl⟩ : ∃ m, F = m + 1 := ⟨F - 1, by omega⟩
      constructor
      · simp [theta_Times.j0]
      · simp [trammelref20_Times.j0]
    by_cases h1 : a < 0
    · refine ⟨p.length + q.length + 2, ([], 1), by simp, fun F hF => ?_⟩
      unfold theta_Times.f trammelref20_Times.f
      rw [if_pos h1, if_pos h1]; exact refused F hF
    by_cases h2 : a > 4096
    · refine ⟨p.length + q.length + 2, ([], 1), by simp, fun F hF => ?_⟩
      unfold theta_Times.f trammelref20_Times.f
      rw [if_neg h1, if_neg h1, if_pos h2, if_pos h2]; exact refused F hF
    cases b with
    | true =>
      refine ⟨p.length + q.length + 2, ([], 1), by simp, fun F hF => ?_⟩
      unfold theta_Times.f trammelref20_Times.f theta_wrong.f trammelref20_series.f
      rw [if_neg h1, if_neg h1, if_neg h2, if_neg h2, hb1 F (by omega), hb2 F (by omega)]
      simp only [Option.bind_some, Bool.not_true]
      rw [if_pos trivial, if_neg (by simp)]; exact refused F hF
    | false =>
      cases c with
      | true =>
        refine ⟨p.length + q.length + 2, ([], 1), by simp, fun F hF => ?_⟩
        unfold theta_Times.f trammelref20_Times.f theta_wrong.f trammelref20_series.f
        rw [if_neg h1, if_neg h1, if_neg h2, if_neg h2, hb1 F (by omega), hb2 F (by omega), hc1 F (by omega), hc2 F (by omega)]
        simp only [Option.bind_some, Bool.not_true, Bool.not_false]
        rw [if_neg (by simp), if_pos trivial]; exact refused F hF
      | false =>
        have hp4 := hb3 rfl
        have hq4 := hc3 rfl
        obtain ⟨m, rfl⟩ : ∃ m : Nat, a = (m : Int) := ⟨a.toNat, by omega⟩
        refine ⟨p.length * (q.length + 2) + p.length + q.length + 4, (outs p q m p.length 0 (List.replicate (m + 1) 0), 0), by simp [outs_len]; omega, fun F hF => ?_⟩
        unfold theta_Times.f trammelref20_Times.f theta_wrong.f trammelref20_series.f
        rw [if_neg h1, if_neg h1, if_neg h2, if_neg h2, hb1 F (by omega), hb2 F (by omega), hc1 F (by omega), hc2 F (by omega)]
        simp only [Option.bind_some, Bool.not_false, Bool.not_true]
        rw [if_neg (by simp), if_pos trivial]
        obtain ⟨F, rfl⟩ : ∃ m, F = m + 1 := ⟨F - 1, by omega⟩
        have e : wrap64 ((m : Int) + 1) = ((m + 1 : Nat) : Int) := by rw [w64 (by omega) (by omega)]; omega
        constructor
        · simp only [theta_Times.j0]
          rw [if_neg (by simp), e, if_pos (by omega), if_pos (by omega), Int.toNat_natCast]
          exact prog_out p q m hq4 hp4 (by omega) p.length 0 _ (by omega) (by simp) F (by omega)
        · simp only [trammelref20_Times.j0]
          rw [if_neg (by simp), e, if_pos (by omega), if_pos (by omega), Int.toNat_natCast]
          exact ref_out p q m hq4 hp4 (by omega) p.length 0 _ (by omega) (by simp) F (by omega)
  obtain ⟨K, r, hr, h⟩ := key
  obtain ⟨h1, h2⟩ := h (K + r.1.length + 1) (by omega)
  refine ⟨K + r.1.length + 1, ?_⟩
  unfold trammellaw20_ThetaProducts.f
  rw [h1, h2]
  simp only [Option.bind_some]
  rw [if_pos trivial]
  unfold trammellaw20_ints.f
  rw [if_pos rfl, show (0 : Int) = ((0 : Nat) : Int) from rfl, ints_self r.1 (by omega) r.1.length 0 (by omega) _ (by omega)]
  rfl

end Go.Proofs.Ytdieenbfdeaffaa.Pure
