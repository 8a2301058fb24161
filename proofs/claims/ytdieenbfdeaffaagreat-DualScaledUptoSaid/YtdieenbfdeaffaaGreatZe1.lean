/- mat.Combine, mat.Product, mat.Times; mat.Product, dual.scaled, dual.Scaled; dual.Scaled: its answers; dual.Pairs; Comparison of numbers and lists, awake; The law DualPairs; Coefficients along rows: what the reference computes, and that it solves the equations: plain; The reference: rationals once more, unit vectors, a row's product with rationals; The reference's data of a basis; The reference's Coords: the walk; The reference's data, unit vectors, dual rows; The reference's dual rows; The reference's Pairs; the program's, of a row too long or too short; Matrices as arguments; The law DualScaled; What the bound on all arguments gives for their parts. No condition. -/
import Derived.Test.YtdieenbfdeaffaaGreatZd2
import Derived.Test.YtdieenbfdeaffaaGreatZd1
import Derived.Test.YtdieenbfdeaffaaGreatZb2
import Derived.Test.YtdieenbfdeaffaaGreatZc1
import Derived.Test.YtdieenbfdeaffaaGreatChecked
import Derived.Test.YtdieenbfdeaffaaGreatRows

namespace Go.Proofs.YtdieenbfdeaffaaGreat.VDd
open Go Vpi
open VBn hiding rp tab rp_ok all_ok mixed sim Big
set_option maxRecDepth 100000
set_option linter.unusedSimpArgs false
set_option linter.unusedVariables false
open Gs (Pv dI swp sk cI sumI)
theorem rp78 : rp 59 = some f59 := rfl
theorem rp120 : rp 103 = some f103 := rfl
theorem rp197 : rp 101 = some f101 := rfl
theorem rp196 : rp 100 = some f100 := rfl
theorem rp168 : rp 58 = some f58 := rfl
theorem n120 {a : Bool} {b : List PV} {p : PV} {k x : Int} (hk : Nu (.agg [.bool a, .sl b]) k) (hx : Nu p x) : Rn rp 103 [.p p, .ptr 0 0 0] [.kblk 2 [.p (.bool a), .p (.sl b)]] fun v τ => v = .p (zi (k * x)) ∧ τ[0]? = some (.kblk 2 [.p (.bool a), .p (.sl b)]) := by
  have k63 := (p63' hk hx).lift base_le
  obtain ⟨n1, l1, rfl, -⟩ := hx
  rw [rn_of rp120]
  simp only [f103, args0, SA, setCells, Int.reduceLE, Int.reduceLT, ↓reduceIte, reduceCtorEq, Nat.reduceLT, Nat.reduceEqDiff, Nat.reduceAdd, Nat.reduceMul, Nat.reduceLeDiff, Nat.reduceBEq, kp2 k63]
  rfl
theorem p78 {kp : PV} {k : Int} {r : List PV} {xs : List Int} (hk : Nu kp k) (h : NL r xs) (hm : r.length ≤ 2000000) : Pu rp 59 [kp, .sl r] (.p (.sl (zr (xs.map (k * ·))))) := by
  obtain ⟨a, b, rfl⟩ := Nu.agg hk
  refine pu_of rp78 ?_
  simp only [f59, args0, SA, setCells, Int.reduceLE, Int.reduceLT, ↓reduceIte, reduceCtorEq, Nat.reduceLT, Nat.reduceEqDiff, Nat.reduceAdd, Nat.reduceMul, Nat.reduceLeDiff, Nat.reduceBEq]
  refine kc_full' (n116 (σ := [.kblk 2 [.p (.bool a), .p (.sl b)]]) (ys := xs.map (k * ·)) (Wf.nil.push (x := .kblk 2 [.p (.bool a), .p (.sl b)]) rfl) (by rw [List.length_map]; exact h.1) hm (fun i hi => ?_) fun ρ c hp hwf hb hg => ?_)
  · obtain ⟨p, x, h1, h2, h3⟩ := h.ix hi
    refine ⟨p, k * x, h1, by simp [h2], Nu.agg h3, ?_⟩
    intro ρ hpre rs base d l dr ks e Q
    have h0 : ρ[0]? = some (.kblk 2 [.p (.bool a), .p (.sl b)]) := hpre.get 0 (Nat.lt_succ_self _)
    rw [kc_cell (b := 0) (al := [.p p, .ptr 0 0 0]) rfl h0 rfl rfl (n120 hk h3) rfl, set_same h0]
  · rw [hp.take]
    refine ⟨rfl, _, back_ge hg zr_len.symm hb, ?_⟩
    simp only [SA, setCells, Int.reduceLE, Int.reduceLT, ↓reduceIte, reduceCtorEq, Nat.reduceLT, Nat.reduceEqDiff, Nat.reduceAdd, Nat.reduceMul, Nat.reduceLeDiff, Nat.reduceBEq]
    rfl
theorem p78F {k : Int} {N : Nat} {f : Nat → Int} {kp : PV} (hk : Nu kp k) (hN : N ≤ 2000000) (hf : ∀ j, j < N → Sz (f j)) : Pu rp 59 [kp, .sl (zF N f)] (.p (.sl (zF N fun j => k * f j))) := by
  have h := p78 hk (r := zr ((List.range N).map f)) (xs := (List.range N).map f) (NL.zr fun i x hx => by
    have hi := (List.getElem?_eq_some_iff.1 hx).1
    simp at hi
    simp [hi] at hx
    subst hx
    exact hf i hi) (by rw [zr_len]; simpa using hN)
  rw [← zF_zr, List.map_map] at h
  rw [zF_zr (f := fun j => k * f j)]
  exact h
theorem sumI_le {f : Nat → Int} {M : Nat} : ∀ {n : Nat}, (∀ t, t < n → (f t).natAbs ≤ M) → (sumI f n).natAbs ≤ n * M
  | 0, _ => by simp [sumI]
  | n + 1, h => by
    have h1 := sumI_le (n := n) fun t ht => h t (by omega)
    have h2 := h n (by omega)
    have h3 := Int.natAbs_add_le (sumI f n) (f n)
    rw [sumI, Nat.succ_mul]
    omega
theorem sumI_sk {f : Nat → Int} {e n : Nat} (hn : n ≤ 12) (h : ∀ t, t < n → Sk e (f t)) : Sk (e + 1) (sumI f n) := by
  have h1 := sumI_le (M := LB ^ e) fun t ht => Nat.le_of_lt (h t ht)
  unfold Sk
  rw [Nat.pow_succ]
  have h2 : n * LB ^ e ≤ 12 * LB ^ e := Nat.mul_le_mul_right _ hn
  have h3 : LB ^ e * 13 ≤ LB ^ e * LB := Nat.mul_le_mul_left _ (by decide)
  have h4 : 0 < LB ^ e := Nat.pow_pos LB_pos
  omega
section
variable {b : List PV} {N e : Nat} {X : Nat → Nat → Int} {a : Nat → Int}
theorem p197 (h : Bs b N X) (h0 : b.length ≠ 0) (he : e ≤ 1000) (ha : ∀ t, t < b.length → Sk e (a t)) : Pu rp 101 [.sl (zF b.length a), .sl b] (.p (.sl (zF N fun c => sumI (fun t => a t * X t c) b.length))) := by
  refine pu_of rp197 ?_
  have hm := h.m
  have hN := h.n
  obtain ⟨r0, f1, f2, f3⟩ := h.row 0 (by omega)
  have e0 : ((b.length : Int) == 0) = false := by rw [beq_eq_false_iff_ne]; omega
  have i0 : Int.toNat 0 = 0 := rfl
  have m3 : ((32 : Nat) : Int) * (N : Int) ≤ 281474976710656 := by omega
  have m4 : (N : Int) ≤ 9223372036854775807 := by omega
  simp only [f101, args0, SA, setCells, Int.reduceLE, Int.reduceLT, ↓reduceIte, reduceCtorEq, Nat.reduceLT, Nat.reduceEqDiff, Nat.reduceAdd, Nat.reduceMul, Nat.reduceLeDiff, Nat.reduceBEq, e0, f1, i0, f2, Int.natCast_nonneg, m3, m4, Int.le_refl, Int.toNat_natCast]
  have hz0 : List.replicate N (PV.agg [.bool false, .sl []]) = zF N fun c => sumI (fun t => a t * X t c) 0 := by
    simp only [sumI]
    rw [← zi_zero]
    unfold zF
    rw [List.map_const', List.length_range]
  refine loop_rule (β := Nat × Store) (fun t => ([(0, .p (.sl (zF b.length a))), (5, .own 0 0 N), (18, .p (.sl b)), (19, i64 b.length), (20, i64 t.1)], t.2))
    (fun t => t.1 ≤ b.length ∧ t.2[0]? = some (.prow 2 (zF N fun c => sumI (fun u => a u * X u c) t.1))) (fun t => b.length - t.1) ((0, [.prow 2 (List.replicate N (PV.agg [.bool false, .sl []]))]) : Nat × Store) rfl rfl ⟨Nat.zero_le _, by rw [hz0]; rfl⟩ ?_
  rintro ⟨i, τ⟩ ⟨hi, hg⟩ ih
  simp only [] at hi hg ih ⊢
  by_cases hin : (i : Int) < b.length
  · have hi' : i < b.length := by omega
    obtain ⟨r, g1, g2, g3⟩ := h.row i hi'
    have w1 : IntKind.i64.wrap ((i : Int) + 1) = ((i + 1 : Nat) : Int) := by rw [IntWalk.i64_in _ (by omega)]; omega
    simp only [SA, setCells, Int.reduceLE, Int.reduceLT, ↓reduceIte, reduceCtorEq, Nat.reduceLT, Nat.reduceEqDiff, Nat.reduceAdd, Nat.reduceMul, Nat.reduceLeDiff, Nat.reduceBEq, hin, g1, Int.natCast_nonneg, Int.toNat_natCast]
    refine loop_rule (β := Nat × Store) (fun t => ([(0, .p (.sl (zF b.length a))), (5, .own 0 0 N), (6, i64 i), (18, .p (.sl b)), (19, i64 b.length), (20, i64 i), (25, .p (.sl r)), (26, i64 r.length), (27, i64 t.1)], t.2))
      (fun t => t.1 ≤ N ∧ t.2[0]? = some (.prow 2 (zF N fun c => if c < t.1 then sumI (fun u => a u * X u c) (i + 1) else sumI (fun u => a u * X u c) i))) (fun t => N - t.1) ((0, τ) : Nat × Store) rfl rfl ⟨Nat.zero_le _, by simp only []; rw [hg]; congr 2⟩ ?_
    clear hg
    rintro ⟨k, τ⟩ ⟨hk, hg⟩ ih2
    simp only [] at hk hg ih2 ⊢
    by_cases hkn : (k : Int) < r.length
    · have hk' : k < N := by omega
      obtain ⟨p, k1, k2⟩ := g3 k (by omega)
      have w2 : IntKind.i64.wrap ((k : Int) + 1) = ((k + 1 : Nat) : Int) := by rw [IntWalk.i64_in _ (by omega)]; omega
      have s1 : ∀ u, u < b.length → Sk (e + 8) (a u * X u k) := fun u hu => (ha u hu).mul (h.sz u k hu hk')
      have s2 : Sk (e + 8 + 1) (sumI (fun u => a u * X u k) i) := sumI_sk (by omega) fun u hu => s1 u (by omega)
      have k63 := (VBn.p63' (Nu.zi ((ha i hi').sz (by omega))) k2).lift base_le
      have k145 := (VBn.p145 (Nu.zi (s2.sz (by omega))) (Nu.zi ((s1 i hi').sz (by omega)))).lift base_le
      rw [show sumI (fun u => a u * X u k) i + a i * X i k = sumI (fun u => a u * X u k) (i + 1) from rfl] at k145
      obtain ⟨sb, lb, rfl⟩ := Nu.agg k2
      have l0 := (List.getElem?_eq_some_iff.1 hg).1
      have e1 : ∀ l, (τ ++ l)[0]? = some (.prow 2 (zF N fun c => if c < k then sumI (fun u => a u * X u c) (i + 1) else sumI (fun u => a u * X u c) i)) := fun l => by rw [get_left l0]; exact hg
      have e2 : ∀ l x, (τ ++ l).set 0 x = τ.set 0 x ++ l := fun l x => set_left l0
      have b1 := zF_get (f := fun c => if c < k then sumI (fun u => a u * X u c) (i + 1) else sumI (fun u => a u * X u c) i) hk'
      simp only [Nat.lt_irrefl, if_false] at b1
      simp only [SA, setCells, Int.reduceLE, Int.reduceLT, ↓reduceIte, reduceCtorEq, Nat.reduceLT, Nat.reduceEqDiff, Nat.reduceAdd, Nat.reduceMul, Nat.reduceLeDiff, Nat.reduceBEq, hkn, k1, hk', Int.natCast_nonneg, Int.toNat_natCast, e1, b1, subPV_zi, zF_get hi', kp2 k63, kp2 k145, updPV_zz, zF_set, e2, w2]
      refine ih2 (k + 1, τ.set 0 (.prow 2 (zF N fun c => if c = k then sumI (fun u => a u * X u k) (i + 1) else if c < k then sumI (fun u => a u * X u c) (i + 1) else sumI (fun u => a u * X u c) i)) ++ [.kblk 2 [.p (.bool sb), .p (.sl lb)]]) _ ⟨by simp only []; omega, ?_⟩ (by simp only []; omega) ?_
      · simp only []
        rw [get_left (by rw [List.length_set]; exact l0), get_self l0]
        congr 2
        refine zF_congr fun c hc => ?_
        show (if c = k then _ else _) = _
        by_cases hck : c = k
        · subst hck
          rw [if_pos rfl, if_pos (by omega)]
        · rw [if_neg hck]
          by_cases h3 : c < k
          · rw [if_pos h3, if_pos (by omega)]
          · rw [if_neg h3, if_neg (by omega)]
      · rfl
    · obtain rfl : k = N := by omega
      simp only [SA, setCells, Int.reduceLE, Int.reduceLT, ↓reduceIte, reduceCtorEq, Nat.reduceLT, Nat.reduceEqDiff, Nat.reduceAdd, Nat.reduceMul, Nat.reduceLeDiff, Nat.reduceBEq, hkn, w1]
      refine ih (i + 1, τ) _ ⟨by simp only []; omega, ?_⟩ (by simp only []; omega) ?_
      · simp only []
        rw [hg]
        congr 2
        refine zF_congr fun c hc => ?_
        rw [if_pos hc]
      · rfl
  · obtain rfl : i = b.length := by omega
    simp only [SA, setCells, Int.reduceLE, Int.reduceLT, ↓reduceIte, reduceCtorEq, Nat.reduceLT, Nat.reduceEqDiff, Nat.reduceAdd, Nat.reduceMul, Nat.reduceLeDiff, Nat.reduceBEq, hin]
    exact (GL.own hg zF_len.symm).back
end
end Go.Proofs.YtdieenbfdeaffaaGreat.VDd

namespace Go.Proofs.YtdieenbfdeaffaaGreat.VDd
open Go Vpi
open VBn hiding rp tab rp_ok all_ok mixed sim Big
set_option maxRecDepth 100000
set_option linter.unusedSimpArgs false
set_option linter.unusedVariables false
open Gs (Pv dI swp sk cI sumI)
theorem rp136 : rp 23 = some f23 := rfl
theorem rp102 : rp 6 = some f6 := rfl
section
variable {b : List PV} {N e m : Nat} {X A : Nat → Nat → Int}
theorem zM_set {m n i : Nat} {W : Nat → Nat → Int} {f : Nat → Int} : (zM m n W).set i (.sl (zF n f)) = zM m n fun a => if a = i then f else W a := by
  apply List.ext_getElem?
  intro k
  by_cases hk : k < m
  · rw [zM_get hk]
    by_cases h : i = k
    · subst h
      rw [List.getElem?_set_self (by rw [zM_len]; exact hk), if_pos rfl]
    · rw [List.getElem?_set_ne h, zM_get hk, if_neg (Ne.symm h)]
  · rw [List.getElem?_eq_none (by rw [List.length_set, zM_len]; omega), List.getElem?_eq_none (by rw [zM_len]; omega)]
def prM (m : Nat) (A X : Nat → Nat → Int) (i c : Nat) : Int := sumI (fun t => A i t * X t c) m
theorem n168 (h : Bs b N X) {B : Nat} (hB : b.length = B) (h0 : b.length ≠ 0) (he : e ≤ 1000) (hm0 : 0 < m) (hm : m ≤ 64) (hA : ∀ i t, i < m → t < B → Sk e (A i t)) {σ : Store} (hw : Wf σ) {Q : CV → Store → Prop}
    (hQ : ∀ ρ k, Pre σ ρ → Wf ρ → σ.length ≤ k → ρ[k]? = some (.prow 1 (zM m N (prM B A X))) → Q (.tup [.own k 0 m, .p (.int .i64 0)]) ρ) : Rn rp 58 [.p (.sl (zM m B A)), .p (.sl b)] σ Q := by
  subst hB
  have hbm := h.m
  have k93 := Bs.b93 h h0
  have k93' := z93 (m := m) (n := b.length) (W := A) hm0 (by omega) (by omega) fun i t hi ht => (hA i t hi ht).sz (by omega)
  rw [rn_of rp168]
  have e1 : (m : Int) > 0 := by omega
  simp only [f58, args0, SA, setCells, Int.reduceLE, Int.reduceLT, ↓reduceIte, reduceCtorEq, Nat.reduceLT, Nat.reduceEqDiff, Nat.reduceAdd, Nat.reduceMul, Nat.reduceLeDiff, Nat.reduceBEq, kp1 k93', get_app0, kp1 k93, bne_self_eq_false, e1]
  refine kc_keep' (n114p (σ := σ ++ [.kblk 1 [.p (.sl b)]]) (m := m) (n := N) (W := prM b.length A X) (hw.push rfl) zM_len (by omega) (fun i hi => ?_) fun ρ k hp hwf hk hgk => ?_)
  · refine ⟨_, zM_get hi, fun ρ hpre hwf K hK => ?_⟩
    have hb0 : ρ[σ.length]? = some (.kblk 1 [.p (.sl b)]) := by rw [hpre.get _ (by simp)]; exact get_app0
    have k197 := p197 h h0 he (a := A i) fun t ht => hA i t hi ht
    rw [rn_of rp196]
    simp only [f100, args0, SA, setCells, Int.reduceLE, Int.reduceLT, ↓reduceIte, reduceCtorEq, Nat.reduceLT, Nat.reduceEqDiff, Nat.reduceAdd, Nat.reduceMul, Nat.reduceLeDiff, Nat.reduceBEq, hb0, kp2 k197]
    exact hK ρ Pre.refl hwf
  · have hlk := (List.getElem?_eq_some_iff.1 hgk).1
    simp only [SA, setCells, Int.reduceLE, Int.reduceLT, ↓reduceIte, reduceCtorEq, Nat.reduceLT, Nat.reduceEqDiff, Nat.reduceAdd, Nat.reduceMul, Nat.reduceLeDiff, Nat.reduceBEq]
    rw [ex_frzk (b := k) (o := 0) (n := m) rfl hgk frzL_p zM_isSl (by rw [own0_p]; rfl), killL_p]
    have hk2 : σ.length ≤ k := by simp at hk; omega
    have hpp : Pre σ (ρ.set k (.prow 1 (zM m N (prM b.length A X)))) := (Pre.trans (Pre.refl.push) hp).set hk2
    have hww : Wf (ρ.set k (.prow 1 (zM m N (prM b.length A X)))) := hwf.set rfl
    simp only [SA, setCells, Int.reduceLE, Int.reduceLT, ↓reduceIte, reduceCtorEq, Nat.reduceLT, Nat.reduceEqDiff, Nat.reduceAdd, Nat.reduceMul, Nat.reduceLeDiff, Nat.reduceBEq]
    exact hQ _ k hpp hww hk2 (get_self hlk)
def dmM (m : Nat) (N : Nat) (X : Nat → Nat → Int) (i c : Nat) : Int := sumI (fun t => cI (m - 1) (gr N X) t i * X t c) m
theorem p136 (h : Bs b N X) (h0 : b.length ≠ 0) (hd : 0 < dI b.length (gr N X)) : Pu rp 23 [.sl b] (.tup [.p (.sl (zM b.length N (dmM b.length N X))), .p (zi (dI b.length (gr N X)))]) := by
  have hbm := h.m
  have hN := h.n
  obtain ⟨n, hn⟩ : ∃ n, b.length = n + 1 := ⟨b.length - 1, by omega⟩
  have hW : ∀ i j, i < n + 1 → j < n + 1 → Sk 17 (gr N X i j) := fun i j hi hj => dot_sk (fun t ht => ⟨h.sz i t (by omega) ht, h.sz j t (by omega) ht⟩) hN
  have k165 := p165 h h0
  rw [hn] at k165 hd ⊢
  have k166 := z166 (by omega) (by omega) (by decide) (by decide) hW
  have k167 := z167 (by omega) (by decide) (by decide) hW hd
  have hdk := dI_sk (by omega) hW
  have hck : ∀ i k, i < n + 1 → k < n + 1 → Sk 217 (cI n (gr N X) i k) := fun i k hi hk => by
    have h1 := (dI_sk (n := n) (W := fun p q => gr N X (sk i p) (sk k q)) (by omega) fun a c ha hc => hW _ _ (Gs.sk_lt hi ha) (Gs.sk_lt hk hc)).mono (m := 217) (by omega)
    unfold cI
    split
    · rw [Int.neg_one_mul]; exact h1.neg
    · rw [Int.one_mul]; exact h1
  obtain ⟨v1, v2⟩ := gF_dvd (g := (dI (n + 1) (gr N X)).natAbs) (f := flC n (gr N X)) (n := (n + 1) * (n + 1))
  generalize hD : dI (n + 1) (gr N X) = D at *
  generalize hG : gF D.natAbs (flC n (gr N X)) ((n + 1) * (n + 1)) = G at *
  have hGp : 0 < G := Nat.pos_of_dvd_of_pos v1 (by omega)
  have hGD : (G : Int) ∣ D := Int.ofNat_dvd_left.2 v1
  have hdiv : ∀ i k, i < n + 1 → k < n + 1 → (G : Int) ∣ cI n (gr N X) k i := fun i k hi hk => by
    have hb : (i + 1) * (n + 1) ≤ (n + 1) * (n + 1) := Nat.mul_le_mul_right _ (by omega)
    have hb2 : (i + 1) * (n + 1) = i * (n + 1) + (n + 1) := Nat.succ_mul ..
    have := v2 (i * (n + 1) + k) (by omega)
    unfold flC at this
    rw [Nat.mul_comm i, Nat.mul_add_mod, Nat.mod_eq_of_lt hk, Nat.mul_add_div (by omega), Nat.div_eq_of_lt hk, Nat.add_zero] at this
    exact Int.ofNat_dvd_left.2 this
  have hDs : Sz D := hdk.sz (by omega)
  have hDG : Sz (D / (G : Int)) := hDs.le (Int.natAbs_ediv_le_natAbs ..)
  have hDGp : 0 < D / (G : Int) := Int.ediv_pos_of_pos_of_dvd hd (by omega) hGD
  have k97 := p97 (Nu.zi hDs) (Nu.zi hDG) hDGp ⟨(G : Int), by rw [Int.ediv_mul_cancel hGD]⟩
  have hq : D / (D / (G : Int)) = G := by
    obtain ⟨q, hq⟩ := hGD
    rw [hq, Int.mul_ediv_cancel_left _ (by omega), Int.mul_ediv_cancel _ (by
      rintro rfl
      rw [Int.mul_zero] at hq; omega)]
  rw [hq] at k97
  have hA : ∀ i t, i < n + 1 → t < b.length → Sk 217 (cI n (gr N X) t i / (G : Int)) := fun i t hi ht => (hck t i (by omega) hi).le (Int.natAbs_ediv_le_natAbs ..)
  have hGs : Sz (G : Int) := hDs.le (by
    have := Nat.le_of_dvd (by omega) v1
    omega)
  have hsum : ∀ i c, i < n + 1 → c < N → Sk 226 (prM (n + 1) (fun i k => cI n (gr N X) k i / (G : Int)) X i c) := fun i c hi hc => sumI_sk (e := 225) (by omega) fun t ht => (hA i t hi (by omega)).mul (h.sz t c (by omega) hc)
  have hmul : ∀ i c, i < n + 1 → (G : Int) * prM (n + 1) (fun i k => cI n (gr N X) k i / (G : Int)) X i c = dmM (n + 1) N X i c := fun i c hi => by
    unfold prM dmM
    have key : ∀ m', m' ≤ n + 1 → (G : Int) * sumI (fun t => cI n (gr N X) t i / (G : Int) * X t c) m' = sumI (fun t => cI n (gr N X) t i * X t c) m' := by
      intro m'
      induction m' with
      | zero => intro _; simp [sumI]
      | succ m' ih =>
        intro hm'
        rw [sumI, sumI, Int.mul_add, ih (by omega), ← Int.mul_assoc, Int.mul_ediv_cancel' (hdiv i m' hi (by omega))]
    exact key _ (Nat.le_refl _)
  refine pu_of rp136 ?_
  rw [zi_raw (x := D), zi_raw (x := D / (G : Int))] at k97
  simp only [f23, args0, SA, setCells, Int.reduceLE, Int.reduceLT, ↓reduceIte, reduceCtorEq, Nat.reduceLT, Nat.reduceEqDiff, Nat.reduceAdd, Nat.reduceMul, Nat.reduceLeDiff, Nat.reduceBEq, kp1 k165, kp1 k166, zi_raw (x := D), kp1 k167, zi_raw (x := D / (G : Int)), kp2 k97]
  have hwf : Wf [Blk.kblk 2 [.p (.bool false), .nils], .kblk 2 (cz D), .kblk 2 (cz (D / (G : Int))), .kblk 2 (cz G)] := (((Wf.nil.push (x := .kblk 2 [.p (.bool false), .nils]) rfl).push (x := .kblk 2 (cz D)) rfl).push (x := .kblk 2 (cz (D / (G : Int)))) rfl).push (x := .kblk 2 (cz G)) rfl
  refine kc_keep' (n168 h hn h0 (e := 217) (m := n + 1) (by decide) (by omega) (by omega) (fun i t hi ht => hA i t hi (by omega)) hwf fun ρ k hp hwf2 hk hgk => ?_)
  have r0 : ρ[0]? = some (.kblk 2 [.p (.bool false), .nils]) := hp.get 0 (by simp)
  have r1 : ρ[1]? = some (.kblk 2 (cz D)) := hp.get 1 (by simp)
  have r3 : ρ[3]? = some (.kblk 2 (cz G)) := hp.get 3 (by simp)
  have hGn : Nu (.agg [.bool (decide ((G : Int) < 0) && decide (((G : Nat) : Int).natAbs ≠ 0)), .sl (lm (dgl ((G : Nat) : Int).natAbs))]) (G : Int) := Nu.zi hGs
  simp only [SA, setCells, Int.reduceLE, Int.reduceLT, ↓reduceIte, reduceCtorEq, Nat.reduceLT, Nat.reduceEqDiff, Nat.reduceAdd, Nat.reduceMul, Nat.reduceLeDiff, Nat.reduceBEq]
  refine loop_rule (β := Nat × Store) (fun t => ([(3, .ptr 0 0 0), (6, .ptr 1 0 0), (11, .ptr 3 0 0), (13, .own k 0 (n + 1)), (45, i64 (n + 1 : Nat)), (46, i64 t.1)], t.2))
    (fun t => t.1 ≤ n + 1 ∧ t.2[0]? = some (.kblk 2 [.p (.bool false), .nils]) ∧ t.2[1]? = some (.kblk 2 (cz D)) ∧ t.2[3]? = some (.kblk 2 (cz G)) ∧ t.2[k]? = some (.prow 1 (zM (n + 1) N fun a c => if a < t.1 then dmM (n + 1) N X a c else prM (n + 1) (fun i k => cI n (gr N X) k i / (G : Int)) X a c))) (fun t => n + 1 - t.1) ((0, ρ) : Nat × Store) rfl rfl ⟨Nat.zero_le _, r0, r1, r3, by simp only []; rw [hgk]; congr 2⟩ ?_
  clear hgk hk hp hwf2 hwf r0 r1 r3
  rintro ⟨i, τ⟩ ⟨hi, r0, r1, r3, hgk⟩ ih
  simp only [] at hi r0 r1 r3 hgk ih ⊢
  have lk := (List.getElem?_eq_some_iff.1 hgk).1
  by_cases hin : (i : Int) < (n + 1 : Nat)
  · have hi' : i < n + 1 := by omega
    have w1 : IntKind.i64.wrap ((i : Int) + 1) = ((i + 1 : Nat) : Int) := by rw [IntWalk.i64_in _ (by omega)]; omega
    have hrow := zM_get (m := n + 1) (n := N) (W := fun a c => if a < i then dmM (n + 1) N X a c else prM (n + 1) (fun i k => cI n (gr N X) k i / (G : Int)) X a c) hi'
    simp only [Nat.lt_irrefl, if_false] at hrow
    have k78 := p78F hGn (N := N) (f := fun c => prM (n + 1) (fun i k => cI n (gr N X) k i / (G : Int)) X i c) (by omega) fun c hc => (hsum i c hi' hc).sz (by omega)
    have k78' : Pu rp 59 [.agg [.bool (decide ((G : Int) < 0) && decide (((G : Nat) : Int).natAbs ≠ 0)), .sl (lm (dgl ((G : Nat) : Int).natAbs))], .sl (zF N (prM (n + 1) (fun i k => cI n (gr N X) k i / (G : Int)) X i))] (.p (.sl (zF N (dmM (n + 1) N X i)))) := by
      rw [show zF N (dmM (n + 1) N X i) = zF N (fun c => (G : Int) * prM (n + 1) (fun i k => cI n (gr N X) k i / (G : Int)) X i c) from zF_congr fun c _ => (hmul i c hi').symm]
      exact k78
    have hset : (zM (n + 1) N fun a c => if a < i then dmM (n + 1) N X a c else prM (n + 1) (fun i k => cI n (gr N X) k i / (G : Int)) X a c).set i (.sl (zF N (dmM (n + 1) N X i))) = zM (n + 1) N fun a c => if a < i + 1 then dmM (n + 1) N X a c else prM (n + 1) (fun i k => cI n (gr N X) k i / (G : Int)) X a c := by
      rw [zM_set]
      refine zM_congr fun a c ha hc => ?_
      show (if a = i then dmM (n + 1) N X i else fun c => _) c = _
      by_cases h1 : a = i
      · subst h1
        rw [if_pos rfl, if_pos (Nat.lt_succ_self a)]
      · rw [if_neg h1]
        by_cases h2 : a < i
        · rw [if_pos h2, if_pos (by omega)]
        · rw [if_neg h2, if_neg (by omega)]
    have k0 : k ≠ 0 := by rintro rfl; rw [r0] at hgk; cases hgk
    have k1 : k ≠ 1 := by rintro rfl; rw [r1] at hgk; cases hgk
    have k3 : k ≠ 3 := by rintro rfl; rw [r3] at hgk; cases hgk
    simp only [SA, setCells, Int.reduceLE, Int.reduceLT, ↓reduceIte, reduceCtorEq, Nat.reduceLT, Nat.reduceEqDiff, Nat.reduceAdd, Nat.reduceMul, Nat.reduceLeDiff, Nat.reduceBEq, hin, hi', Int.natCast_nonneg, Int.toNat_natCast, hgk, hrow, r3, cz, kz2 k78', hset, w1]
    refine ih (i + 1, τ.set k (.prow 1 (zM (n + 1) N fun a c => if a < i + 1 then dmM (n + 1) N X a c else prM (n + 1) (fun i k => cI n (gr N X) k i / (G : Int)) X a c))) _ ⟨by simp only []; omega, by simp only []; rw [get_ne k0]; exact r0, by simp only []; rw [get_ne k1]; exact r1, by simp only []; rw [get_ne k3]; exact r3, get_self lk⟩ (by simp only []; omega) ?_
    rfl
  · obtain rfl : i = n + 1 := by omega
    have l0 := (List.getElem?_eq_some_iff.1 r0).1
    have k0 : (0 : Nat) ≠ k := by rintro rfl; rw [r0] at hgk; cases hgk
    have e1 : ∀ x, (τ.set 0 x)[0]? = some x := fun x => get_self l0
    simp only [SA, setCells, Int.reduceLE, Int.reduceLT, ↓reduceIte, reduceCtorEq, Nat.reduceLT, Nat.reduceEqDiff, Nat.reduceAdd, Nat.reduceMul, Nat.reduceLeDiff, Nat.reduceBEq, hin, r0, r1, cz, e1]
    have hgk2 : ∀ x : Blk, (τ.set 0 x)[k]? = some (.prow 1 (zM (n + 1) N (dmM (n + 1) N X))) := fun x => by
      rw [get_ne k0, hgk]
      congr 2
      refine zM_congr fun a c ha hc => ?_
      rw [if_pos ha]
    exact back_t2 (GL.own (hgk2 _) zM_len.symm).back1 back1_p
end
end Go.Proofs.YtdieenbfdeaffaaGreat.VDd

namespace Go.Proofs.YtdieenbfdeaffaaGreat.VDd
open Go Vpi
open VBn hiding rp tab rp_ok all_ok mixed sim Big
set_option maxRecDepth 100000
set_option linter.unusedSimpArgs false
set_option linter.unusedVariables false
open Gs (V Dv Pos dI sk cI sumI)
section
variable {b : List PV} {nn : Nat → Nat} {X : Nat → Nat → Int}
theorem vE_zero {m : Nat} (h : vE nn X m = 0) : shE nn X m = 0 ∧ Pos (gr (nn 0) X) m := by
  unfold vE at h
  by_cases hs : shE nn X m = 0
  · refine ⟨hs, ?_⟩
    rw [if_neg (by simp [hs])] at h
    by_cases hp : Pos (gr (nn 0) X) m
    · exact hp
    · rw [if_neg hp] at h; cases h
  · rw [if_pos hs] at h
    exact absurd h hs
structure Vb (b : List PV) (N : Nat) (X : Nat → Nat → Int) : Prop where
  bs : Bs b N X
  ne : b.length ≠ 0
  pos : Pos (gr N X) b.length
theorem vb_of (hb : MR b nn X) (h : vE nn X b.length = 0) : Vb b (nn 0) X := by
  obtain ⟨h1, h2⟩ := vE_zero h
  exact ⟨MR.bs hb h1, (shE_zero h1).2.1, h2⟩
theorem Vb.dI {N : Nat} (h : Vb b N X) : 0 < dI b.length (gr N X) := by
  rw [Gs.dI_Dv gr_symm h.pos]
  have h0 := h.ne
  obtain ⟨n, hn⟩ : ∃ n, b.length = n + 1 := ⟨b.length - 1, by omega⟩
  have := h.pos n (by omega)
  rw [hn]
  exact this
theorem p102 (hb : MR b nn X) (hlb : b.length ≤ 2000000) (hv : vE nn X b.length = 0) : Pu rp 6 [.sl b] (.tup [.p (.sl (zM b.length (nn 0) (dmM b.length (nn 0) X))), .p (zi (Gs.dI b.length (gr (nn 0) X))), .p (.int .i64 0)]) := by
  have h := vb_of hb hv
  have k59 := (VBn.p59 hb hlb).lift base_le
  rw [hv] at k59
  have k136 := p136 h.bs h.ne h.dI
  refine pu_of rp102 ?_
  rw [zi_raw (x := Gs.dI b.length (gr (nn 0) X))] at k136 ⊢
  simp only [f6, args0, SA, setCells, Int.reduceLE, Int.reduceLT, ↓reduceIte, reduceCtorEq, Nat.reduceLT, Nat.reduceEqDiff, Nat.reduceAdd, Nat.reduceMul, Nat.reduceLeDiff, Nat.reduceBEq, kp1 k59, bne_self_eq_false, kp1 k136]
  exact back_t3 back1_p back1_p back1_p
theorem e102 (hb : MR b nn X) (hlb : b.length ≤ 2000000) (hv : vE nn X b.length ≠ 0) : Pu rp 6 [.sl b] (.tup [.p (.sl []), .p (.agg [.bool false, .sl []]), .p (.int .i64 (vE nn X b.length))]) := by
  have k59 := (VBn.p59 hb hlb).lift base_le
  have e0 : (vE nn X b.length != 0) = true := by simp [hv]
  refine pu_of rp102 ?_
  simp only [f6, args0, SA, setCells, Int.reduceLE, Int.reduceLT, ↓reduceIte, reduceCtorEq, Nat.reduceLT, Nat.reduceEqDiff, Nat.reduceAdd, Nat.reduceMul, Nat.reduceLeDiff, Nat.reduceBEq, kp1 k59, e0]
  rfl
/-! ### the dual rows meet their own rows alone -/
end
end Go.Proofs.YtdieenbfdeaffaaGreat.VDd

namespace Go.Proofs.YtdieenbfdeaffaaGreat.VDd
open Go Vpi
open VBn hiding rp tab rp_ok all_ok mixed sim Big
set_option maxRecDepth 100000
set_option linter.unusedSimpArgs false
set_option linter.unusedVariables false
open Gs (V Dv Pos dI sk cI sumI)
theorem rp7 : rp 7 = some f7 := rfl
theorem ex_frzk_no {rp : RProg} {rs : List RRes} {ks : List KI} {e : Env} {σ : Store} {Q : CV → Store → Prop} {t : Nat} {c : RCode} (h : ∀ b o n, gt e t = .own b o n → False) :
    Ex rp rs (.frzk t c) ks e σ Q = Ex rp rs c ks e σ Q := ex_step fun n => by
  cases hg : gt e t with
  | own b o n => exact absurd hg (fun h' => h _ _ _ h')
  | _ => simp only [runK, hg]
section
variable {b m : List PV} {nn : Nat → Nat} {X Y : Nat → Nat → Int} {L N : Nat}
theorem e7 (hb : MR b nn X) (hlb : b.length ≤ 2000000) (hv : vE nn X b.length ≠ 0) : Pu rp 7 [.sl b, .sl m] (.tup [.p (.sl []), .p (.int .i64 (vE nn X b.length))]) := by
  have k59 := (VBn.p59 hb hlb).lift base_le
  have e0 : (vE nn X b.length != 0) = true := by simp [hv]
  refine pu_of rp7 ?_
  simp only [f7, args0, SA, setCells, Int.reduceLE, Int.reduceLT, ↓reduceIte, reduceCtorEq, Nat.reduceLT, Nat.reduceEqDiff, Nat.reduceAdd, Nat.reduceMul, Nat.reduceLeDiff, Nat.reduceBEq, kz1 k59, e0]
  rw [ex_frzk_no (by intro b o n h; cases h)]
  simp only [SA, setCells, Int.reduceLE, Int.reduceLT, ↓reduceIte, reduceCtorEq, Nat.reduceLT, Nat.reduceEqDiff, Nat.reduceAdd, Nat.reduceMul, Nat.reduceLeDiff, Nat.reduceBEq]
  rfl
section
variable {rp : RProg} {rs : List RRes} {d : Option Nat} {l : List LOp} {e : Env} {ρ : Store} {Q : CV → Store → Prop} {c : CV} {sz : Nat} {es xs : List PV}
theorem r_app_h3 {a : Blk} {s x : Opd} {bytes : Nat} {dr : Dr} {ks : List KI} (h : GL ρ sz c es) (hc : (es.length + xs.length) * bytes ≤ 140737488355328) (hs : vl e s = c) (hx : vl e x = .own (ρ.length + 1) 0 xs.length) (hz : allSz sz xs = true) :
    ExR rp rs (ρ.length + 1) (⟨d, none, some 1, .append sz bytes s x⟩ :: l) dr ks e (ρ ++ [a, .prow sz xs, .hole]) Q = ExR rp rs (ρ.length + 1) l dr ks (sto d (.own (ρ.length + 2) 0 (es.length + xs.length)) e) (nd ρ c ++ [a, .prow sz xs, .prow sz (es ++ xs)]) Q := by
  rw [r_append]
  have h1 : content (ρ ++ [a, .prow sz xs, .hole]) (vl e s) = some es := by rw [hs]; exact h.left.content
  have h2 : content (ρ ++ [a, .prow sz xs, .hole]) (vl e x) = some xs := by rw [hx]; exact cont_own (s := sz) (by rw [get_app]; rfl) rfl
  have hlt := h.lt.2
  simp only [ev, h1, h2, hc, hz, and_self, if_true]
  rcases h with ⟨rfl, rfl⟩ | ⟨b, rfl, hb⟩
  · rw [hs]
    simp only [push_sl, Nat.add_assoc, Nat.reduceAdd, get_app, List.getElem?_cons_succ, List.getElem?_cons_zero, set_app, List.set_cons_succ, List.set_cons_zero, Option.map_some, ke_some]
    rfl
  · rw [hs]
    have hbl := hlt b 0 _ rfl
    have h3 : (ρ ++ [a, .prow sz xs, .hole])[b]? = some (.prow sz es) := by rw [get_left hbl]; exact hb
    have h4 : (ρ ++ [a, Blk.prow sz xs, .hole]).set b .dead = ρ.set b .dead ++ [a, .prow sz xs, .hole] := set_left hbl
    have h5 : (ρ.set b .dead ++ [a, Blk.prow sz xs, .hole])[ρ.length + 2]? = some .hole := by rw [show ρ.length = (ρ.set b .dead).length by rw [List.length_set], get_app]; rfl
    have h6 : ∀ x : Blk, (ρ.set b .dead ++ [a, Blk.prow sz xs, .hole]).set (ρ.length + 2) x = ρ.set b .dead ++ [a, .prow sz xs, x] := fun x => by rw [show ρ.length = (ρ.set b .dead).length by rw [List.length_set], set_app]; rfl
    simp only [h3, if_true, h4, push_sl, Nat.add_assoc, Nat.reduceAdd, h5, h6, Option.map_some, ke_some]
    rfl
end
structure RowsL (τ : Store) (cs : List CV) (n : Nat) (R : Nat → List PV) : Prop where
  len : cs.length = n
  row : ∀ a, a < n → ∃ c, cs[a]? = some c ∧ GL τ 2 c (R a)
  ne : ∀ a a' b b' o o' k k' : Nat, a ≠ a' → cs[a]? = some (.own b o k) → cs[a']? = some (.own b' o' k') → b ≠ b'
theorem RowsL.app {τ : Store} {cs : List CV} {n : Nat} {R : Nat → List PV} (h : RowsL τ cs n R) {l : Store} : RowsL (τ ++ l) cs n R :=
  ⟨h.len, fun a ha => by obtain ⟨c, h1, h2⟩ := h.row a ha; exact ⟨c, h1, h2.left⟩, h.ne⟩
theorem RowsL.grow {τ : Store} {cs : List CV} {n i : Nat} {R : Nat → List PV} {c : CV} {es es' : List PV} (h : RowsL τ cs n R) (hi : i < n) (hc : cs[i]? = some c) (hg : GL τ 2 c es) {l : Store} {t k : Nat} (hl : l[t]? = some (.prow 2 es')) (hk : k = es'.length) :
    RowsL (nd τ c ++ l) (cs.set i (.own (τ.length + t) 0 k)) n (fun a => if a = i then es' else R a) := by
  have hlen : (nd τ c).length = τ.length := nd_len
  have hnew : (nd τ c ++ l)[τ.length + t]? = some (.prow 2 es') := by rw [← hlen, get_app]; exact hl
  have hap : ∀ a c', a ≠ i → cs[a]? = some c' → ∀ b o k b' o' k', c' = .own b o k → c = .own b' o' k' → b ≠ b' := fun a c' hai hc' b o k b' o' k' e1 e2 => h.ne a i b b' o o' k k' hai (by rw [hc', e1]) (by rw [hc, e2])
  have hlt : ∀ a b o k, a < n → cs[a]? = some (.own b o k) → b < τ.length := fun a b o k ha hb => by
    obtain ⟨c', h1, h2⟩ := h.row a ha
    rw [hb] at h1
    cases h1
    exact h2.lt.2 _ _ _ rfl
  refine ⟨by rw [List.length_set]; exact h.len, fun a ha => ?_, fun a a' b b' o o' k1 k2 hne h1 h2 => ?_⟩
  · by_cases hai : a = i
    · subst hai
      refine ⟨_, List.getElem?_set_self (by rw [h.len]; exact hi), ?_⟩
      rw [if_pos rfl]
      exact .own hnew hk
    · obtain ⟨c', h1, h2⟩ := h.row a ha
      refine ⟨c', by rw [List.getElem?_set_ne (Ne.symm hai)]; exact h1, ?_⟩
      rw [if_neg hai]
      exact (VBn.GL.nd h2 fun b o k b' o' k' e1 e2 => hap a c' hai h1 b o k b' o' k' e1 e2).left
  · have hlt2 : ∀ {a x}, (cs.set i (.own (τ.length + t) 0 k))[a]? = some x → a < n := fun {a x} hx => by
      have := (List.getElem?_eq_some_iff.1 hx).1
      rw [List.length_set, h.len] at this
      exact this
    have ha := hlt2 h1
    have ha' := hlt2 h2
    by_cases hai : a = i
    · subst hai
      rw [List.getElem?_set_self (by rw [h.len]; exact ha)] at h1
      cases h1
      rw [List.getElem?_set_ne hne] at h2
      have := hlt a' b' o' k2 ha' h2
      omega
    · rw [List.getElem?_set_ne (Ne.symm hai)] at h1
      by_cases hai' : a' = i
      · subst hai'
        rw [List.getElem?_set_self (by rw [h.len]; exact ha')] at h2
        cases h2
        have := hlt a b o k1 ha h1
        omega
      · rw [List.getElem?_set_ne (Ne.symm hai')] at h2
        exact h.ne a a' b b' o o' k1 k2 hne h1 h2
theorem RowsL.frzL {τ : Store} : ∀ {n : Nat} {cs : List CV} {R : Nat → List PV}, cs.length = n → (∀ a, a < n → ∃ c, cs[a]? = some c ∧ GL τ 2 c (R a)) → frzL τ cs = some ((List.range n).map fun a => .sl (R a))
  | 0, [], R, _, _ => rfl
  | 0, _ :: _, R, h, _ => by simp at h
  | n + 1, [], R, h, _ => by simp at h
  | n + 1, c :: cs, R, h, hr => by
    obtain ⟨c0, h1, h2⟩ := hr 0 (by omega)
    simp at h1
    subst h1
    have ih := RowsL.frzL (n := n) (cs := cs) (R := fun a => R (a + 1)) (by simpa using h) fun a ha => hr (a + 1) (by omega)
    simp only [Vpi.frzL, h2.frz1, ih, Option.map_some]
    rw [List.range_succ_eq_map]
    simp
theorem RowsL.killL {τ : Store} {cs : List CV} {n j s : Nat} {R : Nat → List PV} {xs : List CV} (h : RowsL τ cs n R) (hj : τ[j]? = some (.kblk s xs)) : (∀ c, c ∈ cs → ∀ b o k, c = .own b o k → b ≠ j) := by
  rintro c hc b o k rfl
  obtain ⟨a, ha⟩ := List.getElem?_of_mem hc
  have hal : a < n := by rw [← h.len]; exact (List.getElem?_eq_some_iff.1 ha).1
  obtain ⟨c', h1, h2⟩ := h.row a hal
  rw [ha] at h1
  cases h1
  exact VBn.GL.nek h2 hj _ _ _ rfl
theorem RowsL.notin {τ : Store} {cs : List CV} {n j s : Nat} {R : Nat → List PV} {xs : List CV} (h : RowsL τ cs n R) (hj : τ[j]? = some (.kblk s xs)) : (cs.flatMap own0).elem j = false := by
  rw [Bool.eq_false_iff]
  intro he
  have hm := List.elem_iff.1 he
  obtain ⟨c, hc, hb⟩ := List.mem_flatMap.1 hm
  cases c <;> simp [own0] at hb
  exact h.killL hj _ hc _ _ _ rfl hb.symm
theorem GL.elem {τ : Store} {c : CV} {es : List PV} {j s : Nat} {xs : List CV} (h : GL τ 2 c es) (hj : τ[j]? = some (.kblk s xs)) : List.elem j (ownsOf c) = false := by
  have := VBn.GL.nek h hj
  rcases h with ⟨rfl, _⟩ | ⟨b, rfl, _⟩
  · rfl
  · have h2 := this _ _ _ rfl
    simp [ownsOf, own0, Ne.symm h2]
structure Fp (b m : List PV) (B : Nat) (τ : Store) (cs : List CV) (R : Nat → List PV) : Prop where
  h0 : τ[0]? = some (.kblk 1 [.p (.sl b)])
  h1 : τ[1]? = some (.kblk 1 [.p (.sl m)])
  h2 : τ[2]? = some (.kblk 1 [.nils])
  h3 : τ[3]? = some (.kblk 1 [.p (.int .i64 0)])
  h5 : τ[5]? = some (.kblk 1 cs)
  h6 : τ[6]? = some (.kblk 1 [.own 5 0 B])
  ro : RowsL τ cs B R
theorem Fp.push {B : Nat} {τ : Store} {cs : List CV} {R : Nat → List PV} (h : Fp b m B τ cs R) {l : Store} : Fp b m B (τ ++ l) cs R := by
  obtain ⟨a0, a1, a2, a3, a5, a6, r⟩ := h
  exact ⟨by rw [get_left (List.getElem?_eq_some_iff.1 a0).1]; exact a0, by rw [get_left (List.getElem?_eq_some_iff.1 a1).1]; exact a1, by rw [get_left (List.getElem?_eq_some_iff.1 a2).1]; exact a2, by rw [get_left (List.getElem?_eq_some_iff.1 a3).1]; exact a3, by rw [get_left (List.getElem?_eq_some_iff.1 a5).1]; exact a5, by rw [get_left (List.getElem?_eq_some_iff.1 a6).1]; exact a6, r.app⟩
theorem Fp.congr {B : Nat} {τ : Store} {cs : List CV} {R R' : Nat → List PV} (h : Fp b m B τ cs R) (hr : ∀ a, a < B → R a = R' a) : Fp b m B τ cs R' :=
  ⟨h.h0, h.h1, h.h2, h.h3, h.h5, h.h6, ⟨h.ro.len, fun a ha => by obtain ⟨c, h1, h2⟩ := h.ro.row a ha; exact ⟨c, h1, hr a ha ▸ h2⟩, h.ro.ne⟩⟩
theorem RowsL.setk {τ : Store} {cs : List CV} {n j s : Nat} {R : Nat → List PV} {xs : List CV} (h : RowsL τ cs n R) (hj : τ[j]? = some (.kblk s xs)) {x : Blk} : RowsL (τ.set j x) cs n R :=
  ⟨h.len, fun a ha => by obtain ⟨c, h1, h2⟩ := h.row a ha; exact ⟨c, h1, h2.set hj⟩, h.ne⟩
theorem Fp.grow {B i : Nat} {τ : Store} {cs : List CV} {R : Nat → List PV} {c : CV} {es es' : List PV} (h : Fp b m B τ cs R) (hi : i < B) (hc : cs[i]? = some c) (hg : GL τ 2 c es) {l : Store} {t k : Nat} (hl : l[t]? = some (.prow 2 es')) (hk : k = es'.length) :
    Fp b m B ((nd τ c).set 5 (.kblk 1 (cs.set i (.own (τ.length + t) 0 k))) ++ l) (cs.set i (.own (τ.length + t) 0 k)) (fun a => if a = i then es' else R a) := by
  obtain ⟨a0, a1, a2, a3, a5, a6, r⟩ := h
  have l5 : 5 < (nd τ c).length := by rw [nd_len]; exact (List.getElem?_eq_some_iff.1 a5).1
  have g5 : (nd τ c ++ l)[5]? = some (.kblk 1 cs) := GL.kb hg a5
  have hr := (r.grow hi hc hg hl hk).setk g5 (x := .kblk 1 (cs.set i (.own (τ.length + t) 0 k)))
  rw [set_left l5] at hr
  have e : ∀ j xs, j ≠ 5 → τ[j]? = some (.kblk 1 xs) → ((nd τ c).set 5 (.kblk 1 (cs.set i (.own (τ.length + t) 0 k))) ++ l)[j]? = some (.kblk 1 xs) := fun j xs hj hx => by
    rw [← set_left l5, get_ne (Ne.symm hj)]
    exact GL.kb hg hx
  exact ⟨e _ _ (by decide) a0, e _ _ (by decide) a1, e _ _ (by decide) a2, e _ _ (by decide) a3, by rw [get_left (by rw [List.length_set]; exact l5), get_self l5], e _ _ (by decide) a6, hr⟩
theorem p7 (hb : MR b nn X) (hlb : b.length ≤ 2000000) (hv : vE nn X b.length = 0) (hN : nn 0 = N) (hmL : m.length = L) (hL : L ≤ 2000000) (hm : ∀ j, j < L → ∃ s, m[j]? = some (.sl s) ∧ s.length = N ∧ NuR s (Y j))
    (hz : ∀ i j k, i < b.length → j < L → k ≤ N → Sz (dotI (X i) (Y j) k)) (hz2 : ∀ i j k, i < b.length → j < L → k < N → Sz (X i k * Y j k)) :
    Pu rp 7 [.sl b, .sl m] (.tup [.p (.sl (zM b.length L fun i j => dotI (X i) (Y j) N)), .p (.int .i64 0)]) := by
  subst hN
  have hV := vb_of hb hv
  have k59 := (VBn.p59 hb hlb).lift base_le
  rw [hv] at k59
  have hbm := hV.bs.m
  have hbn := hV.bs.n
  have hb0 := hV.ne
  obtain ⟨r0, g1, g2, g3⟩ := hV.bs.row 0 (by omega)
  have i0 : Int.toNat 0 = 0 := rfl
  refine pu_of rp7 ?_
  simp only [f7, args0, SA, setCells, Int.reduceLE, Int.reduceLT, ↓reduceIte, reduceCtorEq, Nat.reduceLT, Nat.reduceEqDiff, Nat.reduceAdd, Nat.reduceMul, Nat.reduceLeDiff, Nat.reduceBEq, kz1 k59, bne_self_eq_false]
  refine kc_keep' (n95 ?_ (.inl ⟨_, rfl⟩))
  simp only [SA, setCells, Int.reduceLE, Int.reduceLT, ↓reduceIte, reduceCtorEq, Nat.reduceLT, Nat.reduceEqDiff, Nat.reduceAdd, Nat.reduceMul, Nat.reduceLeDiff, Nat.reduceBEq]
  refine x_each (c := .p (.sl m)) (n := L) (bx := 4) (gf := 60) rfl rfl rfl (by rw [← hmL]; rfl) (by omega) rfl rfl (fun i τ => τ = [.kblk 1 [.p (.sl b)], .kblk 1 [.p (.sl m)], .kblk 1 [.nils], .kblk 1 [i64 0], .kblk 1 [.p (.sl m)]]) (fun _ => False) rfl ?_ ?_ ?_
  · rintro i τ hi rfl
    obtain ⟨s, h1, h2, h3⟩ := hm i hi
    refine ⟨.p (.sl s), by simp [elC, h1, PV.cells, subPV], ?_⟩
    have e1 : ((s.length : Int) != (r0.length : Int)) = false := by rw [h2, g2]; simp
    simp only [stL, SA, setCells, Int.reduceLE, Int.reduceLT, ↓reduceIte, reduceCtorEq, Nat.reduceLT, Nat.reduceEqDiff, Nat.reduceAdd, Nat.reduceMul, Nat.reduceLeDiff, Nat.reduceBEq, g1, i0, Int.le_refl, e1, ex_fin]
    exact .inl trivial
  · rintro τ rfl
    have m1 : ((24 : Nat) : Int) * (b.length : Int) ≤ 281474976710656 := by omega
    have m2 : (b.length : Int) ≤ 9223372036854775807 := by omega
    simp only [SA, setCells, Int.reduceLE, Int.reduceLT, ↓reduceIte, reduceCtorEq, Nat.reduceLT, Nat.reduceEqDiff, Nat.reduceAdd, Nat.reduceMul, Nat.reduceLeDiff, Nat.reduceBEq, Int.natCast_nonneg, m1, m2, Int.le_refl, Int.toNat_natCast]
    refine kc_keep' (n95 ?_ (.inl ⟨_, rfl⟩))
    simp only [SA, setCells, Int.reduceLE, Int.reduceLT, ↓reduceIte, reduceCtorEq, Nat.reduceLT, Nat.reduceEqDiff, Nat.reduceAdd, Nat.reduceMul, Nat.reduceLeDiff, Nat.reduceBEq]
    generalize hP : (fun (i j : Nat) => dotI (X i) (Y j) (nn 0)) = P
    refine x_each (c := .p (.sl b)) (n := b.length) (bx := 7) (gf := 60) rfl rfl rfl rfl (by omega) rfl rfl (fun i τ => ∃ cs, Fp b m b.length τ cs (fun a => if a < i then zF L (P a) else [])) (fun _ => False) ?_ ?_ ?_ ?_
    · refine ⟨List.replicate b.length .nils, rfl, rfl, rfl, rfl, rfl, rfl, ⟨List.length_replicate, fun a ha => ⟨.nils, by simp [ha], by rw [if_neg (by omega)]; exact .nil⟩, fun a a' q q' o o' k k' _ h1 => ?_⟩⟩
      rw [List.getElem?_replicate] at h1
      split at h1 <;> cases h1
    · rintro i τ hi ⟨cs, hF⟩
      obtain ⟨r, h1, h2, h3⟩ := hV.bs.row i hi
      refine ⟨.p (.sl r), by simp [elC, h1, PV.cells, subPV], ?_⟩
      have e1 : ∀ l, (τ ++ l)[1]? = some (.kblk 1 [.p (.sl m)]) := fun l => hF.push.h1
      simp only [stL, SA, setCells, Int.reduceLE, Int.reduceLT, ↓reduceIte, reduceCtorEq, Nat.reduceLT, Nat.reduceEqDiff, Nat.reduceAdd, Nat.reduceMul, Nat.reduceLeDiff, Nat.reduceBEq, e1]
      refine kc_keep' (n95 ?_ (.inl ⟨_, rfl⟩))
      simp only [SA, setCells, Int.reduceLE, Int.reduceLT, ↓reduceIte, reduceCtorEq, Nat.reduceLT, Nat.reduceEqDiff, Nat.reduceAdd, Nat.reduceMul, Nat.reduceLeDiff, Nat.reduceBEq]
      refine x_each (c := .p (.sl m)) (n := L) (bx := τ.length + 2) (gf := 60) rfl rfl (by rw [get_app]; rfl) (by rw [← hmL]; rfl) (by omega) rfl rfl (fun j τ' => τ'[τ.length]? = some (.kblk 1 [.p (.int .i64 i)]) ∧ τ'[τ.length + 1]? = some (.kblk 1 [.p (.sl r)]) ∧ ∃ cs, Fp b m b.length τ' cs (fun a => if a = i then zF j (P i) else if a < i then zF L (P a) else [])) (fun _ => False) ?_ ?_ ?_ ?_
      · refine ⟨get_app0, by rw [get_app]; rfl, cs, (hF.congr fun a ha => ?_).push⟩
        by_cases h : a = i
        · subst h
          rw [if_neg (Nat.lt_irrefl a), if_pos rfl]; rfl
        · rw [if_neg h]
      · have hq5 : 5 < τ.length := Nat.lt_of_succ_lt (List.getElem?_eq_some_iff.1 hF.h6).1
        generalize τ.length = q at *
        clear hF e1
        rintro j τ' hj ⟨hq0, hq1, cs, hF⟩
        obtain ⟨s, k1, k2, k3⟩ := hm j hj
        refine ⟨.p (.sl s), by simp [elC, k1, PV.cells, subPV], ?_⟩
        have k169 := (VBn.p169g h3 k3 (by rw [h2, k2]) (by omega) (fun k hk => hz i j k hi hj (by omega)) fun k hk => hz2 i j k hi hj (by omega)).lift base_le
        rw [h2, show dotI (X i) (Y j) (nn 0) = P i j by rw [← hP]] at k169
        obtain ⟨c, c1, c2⟩ := hF.ro.row i hi
        rw [if_pos rfl] at c2
        have hcl := hF.ro.len
        have hc : ((zF j (P i)).length + [zi (P i j)].length) * 32 ≤ 140737488355328 := by rw [zF_len]; simp; omega
        have hsuc := zF_suc (n := j) (f := P i)
        have hraw := (zi_raw (x := P i j)).symm
        have a6 : ∀ l, (τ' ++ l)[6]? = some (.kblk 1 [.own 5 0 b.length]) := fun l => hF.push.h6
        have a5 : ∀ l, (τ' ++ l)[5]? = some (.kblk 1 cs) := fun l => hF.push.h5
        have aq : ∀ l, (τ' ++ l)[q]? = some (.kblk 1 [.p (.int .i64 i)]) := fun l => by rw [get_left (List.getElem?_eq_some_iff.1 hq0).1]; exact hq0
        have b5 : ∀ l, (nd τ' c ++ l)[5]? = some (.kblk 1 cs) := fun l => GL.kb c2 hF.h5
        have l5 : 5 < (nd τ' c).length := by rw [nd_len]; exact (List.getElem?_eq_some_iff.1 hF.h5).1
        have s5 : ∀ l x, (nd τ' c ++ l).set 5 x = (nd τ' c).set 5 x ++ l := fun l x => set_left l5
        have c1' : cs[i * 1]? = some c := by rw [Nat.mul_one]; exact c1
        have hs1 : setCells cs (i * 1) [.own (τ'.length + 2) 0 (j + 1)] = cs.set i (.own (τ'.length + 2) 0 (j + 1)) := setC1 (by omega)
        have l1 : i * 1 + 1 ≤ cs.length := by omega
        have sc0 : ∀ x y : CV, setCells [CV.p (.bool false), .nils] 0 [x, y] = [x, y] := fun _ _ => rfl
        simp only [stL, SA, Int.reduceLE, Int.reduceLT, ↓reduceIte, reduceCtorEq, Nat.reduceLT, Nat.reduceEqDiff, Nat.reduceAdd, Nat.reduceMul, Nat.reduceLeDiff, Nat.reduceBEq, hq1, kz2 k169, sc0, hraw, a6, aq, a5, c1', hi, Int.natCast_nonneg, Int.toNat_natCast, push_sl, r_app_h3 c2 hc, hsuc, zF_len, b5, s5, hs1, l1]
        have el6 := GL.elem c2 hF.h6
        have elq := GL.elem c2 hq0
        have em6 : ¬ 6 ∈ ownsOf c := fun h => by rw [List.elem_iff.2 h] at el6; cases el6
        have emq : ¬ q ∈ ownsOf c := fun h => by rw [List.elem_iff.2 h] at elq; cases elq
        have oo : ∀ b o n, ownsOf (.own b o n) = [b] := fun _ _ _ => rfl
        have op : ∀ v, ownsOf (.p v) = [] := fun _ => rfl
        have ot : ∀ b i o, ownsOf (.ptr b i o) = [] := fun _ _ _ => rfl
        rw [r_nilx]
        refine ⟨by simp [apartAt, apartB, foot, addrs, oo, op, ot, vl, gt, em6, emq], ?_⟩
        have hg := hF.grow hi c1 c2 (l := [.kblk 2 (cz (P i j)), .prow 2 [zi (P i j)], .prow 2 (zF (j + 1) (P i))]) (t := 2) (k := j + 1) rfl zF_len.symm
        have kq : ∀ t xs, 5 < t → τ'[t]? = some (.kblk 1 xs) → ∀ x l, ((nd τ' c).set 5 x ++ l)[t]? = some (.kblk 1 xs) := fun t xs ht hx x l => by
          rw [← s5, get_ne (by omega)]
          exact GL.kb c2 hx
        simp only [SA, setCells, Int.reduceLE, Int.reduceLT, ↓reduceIte, reduceCtorEq, Nat.reduceLT, Nat.reduceEqDiff, Nat.reduceAdd, Nat.reduceMul, Nat.reduceLeDiff, Nat.reduceBEq, ex_fin]
        refine .inl ⟨kq _ _ hq5 hq0 _ _, kq _ _ (by omega) hq1 _ _, _, hg.congr fun a ha => ?_⟩
        by_cases h : a = i
        · subst h
          rw [if_pos rfl, if_pos rfl]
        · rw [if_neg h, if_neg h, if_neg h]
      · rintro τ' ⟨hq0, hq1, cs, hF⟩
        simp only [SA, setCells, Int.reduceLE, Int.reduceLT, ↓reduceIte, reduceCtorEq, Nat.reduceLT, Nat.reduceEqDiff, Nat.reduceAdd, Nat.reduceMul, Nat.reduceLeDiff, Nat.reduceBEq, ex_fin]
        refine .inl ⟨cs, hF.congr fun a ha => ?_⟩
        by_cases h : a = i
        · subst h
          rw [if_pos rfl, if_pos (Nat.lt_succ_self a)]
        · rw [if_neg h]
          by_cases h' : a < i
          · rw [if_pos h', if_pos (by omega)]
          · rw [if_neg h', if_neg (by omega)]
      · intro τ h; cases h
    · rintro τ ⟨cs, hF⟩
      have e2 : ∀ x, (τ.set 2 x)[3]? = some (.kblk 1 [.p (.int .i64 0)]) := fun x => by rw [get_ne (by decide)]; exact hF.h3
      simp only [SA, setCells, Int.reduceLE, Int.reduceLT, ↓reduceIte, reduceCtorEq, Nat.reduceLT, Nat.reduceEqDiff, Nat.reduceAdd, Nat.reduceMul, Nat.reduceLeDiff, Nat.reduceBEq, hF.h6, hF.h2, e2]
      have l2 := (List.getElem?_eq_some_iff.1 hF.h2).1
      have l3 := (List.getElem?_eq_some_iff.1 hF.h3).1
      have r1 := (hF.ro.setk hF.h2 (x := .kblk 1 [.own 5 0 b.length])).setk (e2 _) (x := .kblk 1 [.p (.int .i64 0)])
      have hk5 : ((τ.set 2 (.kblk 1 [.own 5 0 b.length])).set 3 (.kblk 1 [.p (.int .i64 0)]))[5]? = some (.kblk 1 cs) := by rw [get_ne (by decide), get_ne (by decide)]; exact hF.h5
      have hk2 : ((τ.set 2 (.kblk 1 [.own 5 0 b.length])).set 3 (.kblk 1 [.p (.int .i64 0)]))[2]? = some (.kblk 1 [.own 5 0 b.length]) := by rw [get_ne (by decide), get_self l2]
      have hk3 : ((τ.set 2 (.kblk 1 [.own 5 0 b.length])).set 3 (.kblk 1 [.p (.int .i64 0)]))[3]? = some (.kblk 1 [.p (.int .i64 0)]) := get_self (by rw [List.length_set]; exact l3)
      generalize (τ.set 2 (.kblk 1 [.own 5 0 b.length])).set 3 (.kblk 1 [.p (.int .i64 0)]) = τ1 at *
      have hfr : frzL τ1 cs = some (zM b.length L P) := by
        rw [RowsL.frzL r1.len r1.row]
        congr 1
        unfold zM
        refine List.map_congr_left fun a ha => ?_
        rw [if_pos (List.mem_range.1 ha)]
      rw [ex_frzk (b := 5) (o := 0) (n := b.length) rfl hk5 hfr zM_isSl (r1.notin hk5)]
      have g2' : ((killL τ1 cs).set 5 (.prow 1 (zM b.length L P)))[2]? = some (.kblk 1 [.own 5 0 b.length]) := by rw [get_ne (by decide), killL_get (r1.killL hk2)]; exact hk2
      have g3' : ((killL τ1 cs).set 5 (.prow 1 (zM b.length L P)))[3]? = some (.kblk 1 [.p (.int .i64 0)]) := by rw [get_ne (by decide), killL_get (r1.killL hk3)]; exact hk3
      have g5' : ((killL τ1 cs).set 5 (.prow 1 (zM b.length L P)))[5]? = some (.prow 1 (zM b.length L P)) := get_self (by rw [killL_len]; exact (List.getElem?_eq_some_iff.1 hk5).1)
      generalize (killL τ1 cs).set 5 (.prow 1 (zM b.length L P)) = τ2 at *
      simp only [SA, setCells, Int.reduceLE, Int.reduceLT, ↓reduceIte, reduceCtorEq, Nat.reduceLT, Nat.reduceEqDiff, Nat.reduceAdd, Nat.reduceMul, Nat.reduceLeDiff, Nat.reduceBEq, g2', g3']
      exact back_t2 (GL.own g5' zM_len.symm).back1 back1_p
    · intro τ h; cases h
  · intro τ h; cases h
end
end Go.Proofs.YtdieenbfdeaffaaGreat.VDd

namespace Go.Proofs.YtdieenbfdeaffaaGreat.VDd
open Go Vpi
open VBn hiding rp tab rp_ok all_ok mixed sim Big
set_option maxRecDepth 100000
set_option linter.unusedSimpArgs false
set_option linter.unusedVariables false
/-! ### comparison, awake -/
theorem rp47 : rp 9 = some f9 := rfl
theorem rp101 : rp 35 = some f35 := rfl
theorem rp46 : rp 13 = some f13 := rfl
theorem p47 {s : Bool} {l : List Nat} (hl : l.length ≤ 1000000000000) : Pu rp 9 [.agg [.bool s, .sl (lm l)], .agg [.bool s, .sl (lm l)]] (.p (.bool true)) := by
  refine pu_of rp47 ?_
  simp only [f9, args0, SA, setCells, Int.reduceLE, Int.reduceLT, ↓reduceIte, reduceCtorEq, Nat.reduceLT, Nat.reduceEqDiff, Nat.reduceAdd, Nat.reduceMul, Nat.reduceLeDiff, Nat.reduceBEq, lm_len, bne_self_eq_false, Bool.not_true]
  refine loop_rule (β := Nat) (fun t => ([(2, .ptr 0 0 0), (3, .ptr 1 0 0), (5, i64 t)], [.kblk 2 [.p (.bool s), .p (.sl (lm l))], .kblk 2 [.p (.bool s), .p (.sl (lm l))]])) (fun t => t ≤ l.length) (fun t => l.length - t) 0 rfl rfl (Nat.zero_le _) ?_
  intro i hi ih
  by_cases hin : (i : Int) < l.length
  · have hin' : i < l.length := by omega
    have w1 : IntKind.i64.wrap ((i : Int) + 1) = ((i + 1 : Nat) : Int) := by rw [IntWalk.i64_in _ (by omega)]; omega
    simp only [SA, setCells, Int.reduceLE, Int.reduceLT, ↓reduceIte, reduceCtorEq, Nat.reduceLT, Nat.reduceEqDiff, Nat.reduceAdd, Nat.reduceMul, Nat.reduceLeDiff, Nat.reduceBEq, lm_len, hin, lm_get hin', Int.natCast_nonneg, Int.toNat_natCast, bne_self_eq_false, w1]
    exact ih (i + 1) _ (by omega) (by omega) rfl
  · simp only [SA, setCells, Int.reduceLE, Int.reduceLT, ↓reduceIte, reduceCtorEq, Nat.reduceLT, Nat.reduceEqDiff, Nat.reduceAdd, Nat.reduceMul, Nat.reduceLeDiff, Nat.reduceBEq, lm_len, hin]
    rfl
theorem p47z {x : Int} (h : Sz x) : Pu rp 9 [zi x, zi x] (.p (.bool true)) := by
  have hdl : (dgl x.natAbs).length ≤ 1000000000000 := by
    have := dgl_len (show x.natAbs < LB ^ CapN from h)
    rw [CapN_eq] at this
    omega
  exact p47 (s := decide (x < 0) && decide (x.natAbs ≠ 0)) hdl
theorem p101 {r : List Int} (hr : r.length ≤ 2000000) (hs : SzL r) : Pu rp 35 [.sl (zr r), .sl (zr r)] (.p (.bool true)) := by
  refine pu_of rp101 ?_
  simp only [f35, args0, SA, setCells, Int.reduceLE, Int.reduceLT, ↓reduceIte, reduceCtorEq, Nat.reduceLT, Nat.reduceEqDiff, Nat.reduceAdd, Nat.reduceMul, Nat.reduceLeDiff, Nat.reduceBEq, bne_self_eq_false, zr_len]
  refine loop_rule (β := Nat) (fun t => ([(0, .p (.sl (zr r))), (1, .p (.sl (zr r))), (5, i64 t)], [])) (fun t => t ≤ r.length) (fun t => r.length - t) 0 rfl rfl (Nat.zero_le _) ?_
  intro i hi ih
  by_cases hin : (i : Int) < r.length
  · have hin' : i < r.length := by omega
    have w1 : IntKind.i64.wrap ((i : Int) + 1) = ((i + 1 : Nat) : Int) := by rw [IntWalk.i64_in _ (by omega)]; omega
    have hri : r[i]? = some r[i] := by simp
    have hg := zr_get hri
    have hz : Sz r[i] := hs i _ hri
    have k68 := (VBn.p68' (Nu.zi hz)).lift base_le
    have k47 := p47z hz
    simp only [SA, setCells, Int.reduceLE, Int.reduceLT, ↓reduceIte, reduceCtorEq, Nat.reduceLT, Nat.reduceEqDiff, Nat.reduceAdd, Nat.reduceMul, Nat.reduceLeDiff, Nat.reduceBEq, zr_len, hin, hg, Int.natCast_nonneg, Int.toNat_natCast, subPV_zi, kp1 k68, kp2 k47, Bool.not_true, w1]
    exact ih (i + 1) _ (by omega) (by omega) rfl
  · simp only [SA, setCells, Int.reduceLE, Int.reduceLT, ↓reduceIte, reduceCtorEq, Nat.reduceLT, Nat.reduceEqDiff, Nat.reduceAdd, Nat.reduceMul, Nat.reduceLeDiff, Nat.reduceBEq, zr_len, hin]
    rfl
theorem p46 {M : List (List Int)} (hM : M.length ≤ 2000000) (h : ∀ (i : Nat) (r : List Int), M[i]? = some r → r.length ≤ 2000000 ∧ SzL r) : Pu rp 13 [.sl (zm M), .sl (zm M)] (.p (.bool true)) := by
  refine pu_of rp46 ?_
  simp only [f13, args0, SA, setCells, Int.reduceLE, Int.reduceLT, ↓reduceIte, reduceCtorEq, Nat.reduceLT, Nat.reduceEqDiff, Nat.reduceAdd, Nat.reduceMul, Nat.reduceLeDiff, Nat.reduceBEq, bne_self_eq_false, zm_len]
  refine loop_rule (β := Nat) (fun t => ([(0, .p (.sl (zm M))), (1, .p (.sl (zm M))), (5, i64 t)], [])) (fun t => t ≤ M.length) (fun t => M.length - t) 0 rfl rfl (Nat.zero_le _) ?_
  intro i hi ih
  by_cases hin : (i : Int) < M.length
  · have hin' : i < M.length := by omega
    have w1 : IntKind.i64.wrap ((i : Int) + 1) = ((i + 1 : Nat) : Int) := by rw [IntWalk.i64_in _ (by omega)]; omega
    have hri : M[i]? = some M[i] := by simp
    have hg := zm_get hri
    have k101 := p101 (h i _ hri).1 (h i _ hri).2
    simp only [SA, setCells, Int.reduceLE, Int.reduceLT, ↓reduceIte, reduceCtorEq, Nat.reduceLT, Nat.reduceEqDiff, Nat.reduceAdd, Nat.reduceMul, Nat.reduceLeDiff, Nat.reduceBEq, zm_len, hin, hg, Int.natCast_nonneg, Int.toNat_natCast, kp2 k101, Bool.not_true, w1]
    exact ih (i + 1) _ (by omega) (by omega) rfl
  · simp only [SA, setCells, Int.reduceLE, Int.reduceLT, ↓reduceIte, reduceCtorEq, Nat.reduceLT, Nat.reduceEqDiff, Nat.reduceAdd, Nat.reduceMul, Nat.reduceLeDiff, Nat.reduceBEq, zm_len, hin]
    rfl
def isTrue : Option (CV × Store) → Bool
  | some (.p (.bool b), _) => b
  | _ => false
theorem runs48 : isTrue (runF rp 3000 10 [] []) = true := by kernel_rfl
theorem isTrue_eq {x : Option (CV × Store)} (h : isTrue x = true) : ∃ ρ, x = some (.p (.bool true), ρ) := by
  unfold isTrue at h
  split at h
  · subst h; exact ⟨_, rfl⟩
  · cases h
theorem p48 : Pu rp 10 [] (.p (.bool true)) := by
  obtain ⟨ρ, h⟩ := isTrue_eq runs48
  exact ⟨3000, _, h, rfl⟩
end Go.Proofs.YtdieenbfdeaffaaGreat.VDd

namespace Go.Proofs.YtdieenbfdeaffaaGreat.VDd
open Go Vpi
open VBn hiding rp tab rp_ok all_ok mixed sim Big
set_option maxRecDepth 100000
set_option linter.unusedSimpArgs false
set_option linter.unusedVariables false
open Gs (V Dv Pos dI sk cI sumI)
section
variable {b : List PV} {nn : Nat → Nat} {X : Nat → Nat → Int} {N n : Nat}
theorem dotI_sum {x y : Nat → Int} : ∀ {k : Nat}, dotI x y k = sumI (fun t => x t * y t) k
  | 0 => rfl
  | k + 1 => by rw [dotI, sumI, dotI_sum]
theorem gr_sk (h : Bs b N X) (hn : b.length = n + 1) : ∀ i j, i < n + 1 → j < n + 1 → Sk 17 (gr N X i j) := fun i j hi hj => dot_sk (fun t ht => ⟨h.sz i t (by omega) ht, h.sz j t (by omega) ht⟩) h.n
theorem cI_sk (h : Bs b N X) (hn : b.length = n + 1) : ∀ i k, i < n + 1 → k < n + 1 → Sk 217 (cI n (gr N X) i k) := fun i k hi hk => by
  have hm := h.m
  have h1 := (dI_sk (n := n) (W := fun p q => gr N X (sk i p) (sk k q)) (by omega) fun a c ha hc => gr_sk h hn _ _ (Gs.sk_lt hi ha) (Gs.sk_lt hk hc)).mono (m := 217) (by omega)
  unfold cI
  split
  · rw [Int.neg_one_mul]; exact h1.neg
  · rw [Int.one_mul]; exact h1
theorem dm_sk (h : Bs b N X) (hn : b.length = n + 1) {i c : Nat} (hi : i < n + 1) (hc : c < N) : Sk 226 (dmM (n + 1) N X i c) := by
  have hm := h.m
  exact sumI_sk (e := 225) (by omega) fun t ht => (cI_sk h hn t i ht hi).mul (h.sz t c (by omega) hc)
end
end Go.Proofs.YtdieenbfdeaffaaGreat.VDd

namespace Go.Proofs.YtdieenbfdeaffaaGreat.VBn
open Go Vpi
open Gs (V Dv Pos U Dk rg sumR)
set_option linter.unusedVariables false
set_option linter.unusedSimpArgs false
def alF (mu : Nat → Nat → Rat) (tt : Nat → Rat) : Nat → Nat → Rat
  | 0 => fun _ => 0
  | i + 1 => fun a => if a = i then tt i - sumR (fun j => mu i j * alF mu tt i j) i else alF mu tt i a
def al (mu : Nat → Nat → Rat) (tt : Nat → Rat) (a : Nat) : Rat := alF mu tt (a + 1) a
theorem alF_eq {mu : Nat → Nat → Rat} {tt : Nat → Rat} {a : Nat} : ∀ {i : Nat}, a < i → alF mu tt i a = al mu tt a
  | 0, h => by omega
  | i + 1, h => by
    by_cases h1 : a = i
    · subst h1; rfl
    · rw [alF]
      simp only [if_neg h1]
      exact alF_eq (by omega)
theorem al_eq {mu : Nat → Nat → Rat} {tt : Nat → Rat} {i : Nat} : al mu tt i = tt i - sumR (fun j => mu i j * al mu tt j) i := by
  unfold al
  rw [alF]
  simp only [if_true]
  rw [Gs.sumR_congr (g := fun j => mu i j * alF mu tt (j + 1) j) fun j hj => by rw [alF_eq hj]; rfl]
theorem al_sum {mu : Nat → Nat → Rat} {tt : Nat → Rat} {i : Nat} : sumR (fun j => mu i j * al mu tt j) i + al mu tt i = tt i := by
  rw [al_eq]; grind
def cF (mu : Nat → Nat → Rat) (q : Nat → Rat) (n : Nat) : Nat → Nat → Rat
  | 0 => fun _ => 0
  | s + 1 => fun a => if a = n - 1 - s then q a - sumR (fun u => mu (a + 1 + u) a * cF mu q n s (a + 1 + u)) s else cF mu q n s a
def co (mu : Nat → Nat → Rat) (q : Nat → Rat) (n a : Nat) : Rat := cF mu q n n a
theorem cF_eq {mu : Nat → Nat → Rat} {q : Nat → Rat} {n a : Nat} (ha : a < n) : ∀ {s t : Nat}, n - s ≤ a → s ≤ n → t ≤ n → s ≤ t → cF mu q n t a = cF mu q n s a := by
  intro s t h1 h2 h3 h4
  obtain ⟨d, rfl⟩ : ∃ d, t = s + d := ⟨t - s, by omega⟩
  clear h4
  induction d with
  | zero => rfl
  | succ d ih =>
    rw [← Nat.add_assoc, cF]
    simp only []
    rw [if_neg (by omega)]
    exact ih (by omega)
theorem co_step {mu : Nat → Nat → Rat} {q : Nat → Rat} {n s : Nat} (hs : s < n) : co mu q n (n - 1 - s) = q (n - 1 - s) - sumR (fun u => mu (n - 1 - s + 1 + u) (n - 1 - s) * co mu q n (n - 1 - s + 1 + u)) s := by
  unfold co
  rw [cF_eq (s := s + 1) (t := n) (by omega) (by omega) (by omega) (Nat.le_refl _) (by omega), cF]
  simp only [if_true]
  rw [Gs.sumR_congr (f := fun u => mu (n - 1 - s + 1 + u) (n - 1 - s) * cF mu q n s (n - 1 - s + 1 + u)) (g := fun u => mu (n - 1 - s + 1 + u) (n - 1 - s) * cF mu q n n (n - 1 - s + 1 + u)) fun u hu => by
    rw [cF_eq (s := s) (t := n) (by omega) (by omega) (by omega) (Nat.le_refl _) (by omega)]]
theorem co_sum {mu : Nat → Nat → Rat} {q : Nat → Rat} {n k : Nat} (hk : k < n) : sumR (fun j => Gs.one1 mu j k * co mu q n j) n = q k := by
  rw [Gs.one1_col hk]
  have h := co_step (mu := mu) (q := q) (n := n) (s := n - (k + 1)) (by omega)
  rw [show n - 1 - (n - (k + 1)) = k by omega] at h
  rw [h]; grind
theorem gram_mu {g : Nat → Nat → Int} (hs : ∀ i j, g i j = g j i) {n : Nat} (hp : Pos g n) {i l : Nat} (hl : l ≤ i) (hi : i < n) : rg g i l = sumR (fun k => mu g i k * mu g l k * star g k) l + Gs.one1 (mu g) i l * star g l := by
  have key : ∀ m, m ≤ l → rg g i l = sumR (fun k => mu g i k * mu g l k * star g k) m + U (rg g) m i l := by
    intro m
    induction m with
    | zero => intro _; simp only [sumR, U]; grind
    | succ m ih =>
      intro hm
      have h1 := U_step hs (hp.mono (m := m + 1) (by omega)) (i := i) (j := l)
      rw [ih (by omega), sumR, ← h1]
      grind
  rw [key l (Nat.le_refl _)]
  congr 1
  have hst := star_pos hs (hp.mono (m := l + 1) (by omega))
  unfold Gs.one1
  by_cases h : l < i
  · rw [if_pos h]
    unfold mu star at *
    have : U (rg g) l l l ≠ 0 := by grind
    grind
  · obtain rfl : l = i := by omega
    rw [if_neg (by omega), if_pos rfl]
    unfold star
    grind
theorem co_solve {g : Nat → Nat → Int} (hs : ∀ i j, g i j = g j i) {n : Nat} (hp : Pos g n) {tt : Nat → Rat} :
    ∀ i, i < n → sumR (fun l => rg g i l * co (mu g) (fun a => al (mu g) tt a / star g a) n l) n = tt i :=
  Gs.coords (G := rg g) (mu := mu g) (star := star g) (al := al (mu g) tt) (fun i l => by unfold rg; rw [hs]) (fun i l hl hi => gram_mu hs hp hl hi) (fun k hk => by have := star_pos hs (hp.mono (m := k + 1) (by omega)); grind)
    (fun i _ => al_sum) fun k hk => co_sum hk
theorem co_det {g : Nat → Nat → Int} (hs : ∀ i j, g i j = g j i) {n : Nat} (hp : Pos g (n + 1)) {tt : Nat → Int} {k : Nat} (hk : k < n + 1) :
    co (mu g) (fun a => al (mu g) (fun i => (tt i : Rat)) a / star g a) (n + 1) k * ((Gs.dI (n + 1) g : Int) : Rat) = ((Gs.sumI (fun i => tt i * Gs.cI n g i k) (n + 1) : Int) : Rat) := by
  have h := Gs.cramer (A := rg g) hk (co_solve hs hp (tt := fun i => (tt i : Rat)))
  rw [Gs.sumI_cast, Rat.mul_comm, Gs.dI_eq, h]
  refine Gs.sumR_congr fun i _ => ?_
  rw [Rat.intCast_mul, Gs.cI_eq]
/-! ### sizes of rationals -/
theorem RSn.sub {n m : Nat} {x y : Rat} (h : RSn n x) (h' : RSn m y) : RSn (n + m + 1) (x - y) := by
  have hd : (0 : Int) < (x.den : Int) * (y.den : Int) := Int.mul_pos (Int.natCast_pos.2 x.den_pos) (Int.natCast_pos.2 y.den_pos)
  have e : x - y = Rat.divInt (x.num * y.den - y.num * x.den) ((x.den : Int) * y.den) := by
    have hx := Rat.num_divInt_den x
    have hy := Rat.num_divInt_den y
    conv => lhs; rw [← hx, ← hy]
    rw [Rat.divInt_sub_divInt _ _ (by have := x.den_nz; omega) (by have := y.den_nz; omega)]
  rw [e]
  exact rsn_divInt hd (((h.1.mul h'.2).sub ((h'.1.mul h.2).mono (by omega)))) ((h.2.mul h'.2).mono (by omega))
theorem RSn.mono {n m : Nat} {x : Rat} (h : RSn n x) (hn : n ≤ m) : RSn m x := ⟨h.1.mono hn, h.2.mono hn⟩
theorem RSn.add {n m : Nat} {x y : Rat} (h : RSn n x) (h' : RSn m y) : RSn (n + m + 1) (x + y) := by
  have hn : RSn m (-y) := ⟨by rw [Rat.neg_num]; exact h'.1.neg, h'.2⟩
  have := h.sub hn
  rwa [show x - -y = x + y by grind] at this
theorem RSn.inv {n : Nat} {x : Rat} (h : RSn n x) (h0 : x ≠ 0) : RSn n x⁻¹ := by
  have hx0 : x.num ≠ 0 := fun h => h0 (Rat.num_eq_zero.1 h)
  have e : x⁻¹ = Rat.divInt x.den x.num := by
    conv => lhs; rw [← Rat.num_divInt_den x]
    rw [Rat.inv_divInt]
  rw [e]
  rcases Int.lt_or_gt_of_ne hx0 with hlt | hgt
  · rw [← Rat.neg_divInt_neg]
    exact rsn_divInt (by omega) h.2.neg h.1.neg
  · exact rsn_divInt hgt h.2 h.1
theorem RSn.div {n m : Nat} {x y : Rat} (h : RSn n x) (h' : RSn m y) (h0 : y ≠ 0) : RSn (n + m) (x / y) := by
  rw [Rat.div_def]
  exact h.mul (h'.inv h0)
theorem RSn.int {n : Nat} {x : Int} (h : Sk n x) (hn : 1 ≤ n) : RSn n (x : Rat) := by
  refine ⟨h, ?_⟩
  unfold Sk
  exact Nat.one_lt_pow (by omega) (by decide)
/-! ### sizes -/
def zA : Nat → Nat
  | 0 => 8
  | i + 1 => 2 * zA i + 218
theorem zA_eq : ∀ {i : Nat}, zA i + 218 = 226 * 2 ^ i
  | 0 => rfl
  | i + 1 => by rw [zA, Nat.pow_succ, ← Nat.mul_assoc, ← zA_eq]; omega
theorem zA_le {i : Nat} (hi : i ≤ 12) : zA i ≤ 925478 := by
  have h := zA_eq (i := i)
  have h1 : 2 ^ i ≤ 2 ^ 12 := Nat.pow_le_pow_right (by decide) hi
  omega
def zC : Nat → Nat
  | 0 => 925695
  | s + 1 => 2 * zC s + 218
theorem zC_eq : ∀ {s : Nat}, zC s + 218 = 925913 * 2 ^ s
  | 0 => rfl
  | s + 1 => by rw [zC, Nat.pow_succ, ← Nat.mul_assoc, ← zC_eq]; omega
theorem zC_le {s : Nat} (hs : s ≤ 12) : zC s ≤ 3800000000 := by
  have h := zC_eq (s := s)
  have h1 : 2 ^ s ≤ 2 ^ 12 := Nat.pow_le_pow_right (by decide) hs
  omega
theorem zC_mono : ∀ {j i : Nat}, j ≤ i → zC j ≤ zC i
  | j, 0, h => by
    obtain rfl : j = 0 := by omega
    exact Nat.le_refl _
  | j, i + 1, h => by
    by_cases h1 : j = i + 1
    · rw [h1]; exact Nat.le_refl _
    · have := zC_mono (j := j) (i := i) (by omega)
      rw [zC]; omega
section
variable {m : Nat} {mu : Nat → Nat → Rat} {tt q : Nat → Rat}
theorem al_part (hmu : ∀ i j, j < i → i < m → RSn 217 (mu i j)) (htt : ∀ i, i < m → RSn 8 (tt i)) : ∀ {i : Nat}, i < m → ∀ {j : Nat}, j ≤ i → RSn (zA j) (tt i - sumR (fun u => mu i u * al mu tt u) j) := by
  intro i
  induction i using Nat.strongRecOn with
  | ind i ih =>
    intro hi j
    induction j with
    | zero =>
      intro _
      have e : tt i - sumR (fun u => mu i u * al mu tt u) 0 = tt i := by simp only [sumR]; grind
      rw [e]
      exact htt i hi
    | succ j ihj =>
      intro hj
      have h1 := ihj (by omega)
      have h2 := ih j (by omega) (by omega) (Nat.le_refl j)
      rw [← al_eq] at h2
      have h3 := h1.sub ((hmu i j (by omega) hi).mul h2)
      have e : tt i - sumR (fun u => mu i u * al mu tt u) (j + 1) = tt i - sumR (fun u => mu i u * al mu tt u) j - mu i j * al mu tt j := by rw [sumR]; grind
      rw [e]
      exact h3.mono (by rw [zA]; omega)
theorem al_sz (hmu : ∀ i j, j < i → i < m → RSn 217 (mu i j)) (htt : ∀ i, i < m → RSn 8 (tt i)) {i : Nat} (hi : i < m) : RSn (zA i) (al mu tt i) := by
  rw [al_eq]
  exact al_part hmu htt hi (Nat.le_refl i)
theorem co_part (hmu : ∀ i j, j < i → i < m → RSn 217 (mu i j)) (hq : ∀ i, i < m → RSn 925695 (q i)) : ∀ {s : Nat}, s < m → ∀ {u : Nat}, u ≤ s → ∃ z, z + zC (s - u) ≤ zC s + 925695 ∧ RSn z (q (m - 1 - s) - sumR (fun v => mu (m - 1 - s + 1 + v) (m - 1 - s) * co mu q m (m - 1 - s + 1 + v)) u) := by
  intro s
  induction s using Nat.strongRecOn with
  | ind s ih =>
    intro hs u
    induction u with
    | zero =>
      intro _
      refine ⟨925695, by rw [Nat.sub_zero]; omega, ?_⟩
      have e : q (m - 1 - s) - sumR (fun v => mu (m - 1 - s + 1 + v) (m - 1 - s) * co mu q m (m - 1 - s + 1 + v)) 0 = q (m - 1 - s) := by simp only [sumR]; grind
      rw [e]
      exact hq _ (by omega)
    | succ u ihu =>
      intro hu
      obtain ⟨z, hz, h1⟩ := ihu (by omega)
      obtain ⟨z2, hz2, h2⟩ := ih (s - 1 - u) (by omega) (by omega) (Nat.le_refl _)
      rw [← co_step (by omega), show m - 1 - (s - 1 - u) = m - 1 - s + 1 + u by omega] at h2
      rw [Nat.sub_self] at hz2
      have h0 : zC 0 = 925695 := rfl
      have h3 := h1.sub ((hmu (m - 1 - s + 1 + u) (m - 1 - s) (by omega) (by omega)).mul h2)
      refine ⟨z + (217 + z2) + 1, ?_, ?_⟩
      · have h4 : zC (s - u) = 2 * zC (s - 1 - u) + 218 := by
          rw [show s - u = (s - 1 - u) + 1 by omega, zC]
        rw [show s - (u + 1) = s - 1 - u by omega]
        omega
      · rw [show q (m - 1 - s) - sumR (fun v => mu (m - 1 - s + 1 + v) (m - 1 - s) * co mu q m (m - 1 - s + 1 + v)) (u + 1) = q (m - 1 - s) - sumR (fun v => mu (m - 1 - s + 1 + v) (m - 1 - s) * co mu q m (m - 1 - s + 1 + v)) u - mu (m - 1 - s + 1 + u) (m - 1 - s) * co mu q m (m - 1 - s + 1 + u) by rw [sumR]; grind]
        exact h3
theorem co_sz (hmu : ∀ i j, j < i → i < m → RSn 217 (mu i j)) (hq : ∀ i, i < m → RSn 925695 (q i)) (hm : m ≤ 12) {s u : Nat} (hs : s < m) (hu : u ≤ s) : RSn 3800000000 (q (m - 1 - s) - sumR (fun v => mu (m - 1 - s + 1 + v) (m - 1 - s) * co mu q m (m - 1 - s + 1 + v)) u) := by
  obtain ⟨z, h1, h2⟩ := co_part hmu hq hs hu
  have h3 := zC_le (s := s) (by omega)
  have h4 : zC 0 ≤ zC (s - u) := zC_mono (Nat.zero_le _)
  have h5 : zC 0 = 925695 := rfl
  exact h2.mono (by omega)
end
end Go.Proofs.YtdieenbfdeaffaaGreat.VBn

namespace Go.Proofs.YtdieenbfdeaffaaGreat.VDd
open Go Vpi
open VBn hiding rp tab rp_ok all_ok mixed sim Big
set_option maxRecDepth 100000
set_option linter.unusedSimpArgs false
set_option linter.unusedVariables false
open Gs (V Dv Pos dI sk cI sumI U rg)
theorem rp31 : rp 31 = some f31 := rfl
theorem rp107 : rp 107 = some f107 := rfl
theorem rp65 : rp 65 = some f65 := rfl
theorem rp66 : rp 66 = some f66 := rfl
theorem rp30 : rp 30 = some f30 := rfl
theorem p31 {x : Rat} (h : RS x) : Pu rp 31 [rq x] (.p (zi (x.num / (x.den : Int)))) := by
  have hd : (0 : Int) < (x.den : Int) := Int.natCast_pos.2 x.den_pos
  have hn := nuNum (h.1.sz (by rw [RL_eq]; omega))
  have hdn := nuDen (h.2.sz (by rw [RL_eq]; omega))
  obtain ⟨q, r, h1, h2⟩ := fl100 hn hdn (by omega)
  have hq : q = x.num / (x.den : Int) := by
    have h3 := h1.flq (by omega)
    rw [h3]; unfold flq; rw [if_pos hd]
  rw [hq] at h2
  refine pu_of rp31 ?_
  simp only [f31, args0, SA, setCells, Int.reduceLE, Int.reduceLT, ↓reduceIte, reduceCtorEq, Nat.reduceLT, Nat.reduceEqDiff, Nat.reduceAdd, Nat.reduceMul, Nat.reduceLeDiff, Nat.reduceBEq, rq_raw, kp2 h2]
  rfl
def qF (n : Nat) (f : Nat → Rat) : List PV := (List.range n).map fun j => rq (f j)
theorem qF_len {n : Nat} {f : Nat → Rat} : (qF n f).length = n := by simp [qF]
theorem qF_get {n j : Nat} {f : Nat → Rat} (h : j < n) : (qF n f)[j]? = some (rq (f j)) := by simp [qF, h]
theorem qF_suc {n : Nat} {f : Nat → Rat} : qF n f ++ [rq (f n)] = qF (n + 1) f := by simp [qF, List.range_succ]
theorem p107 {x : Rat} {p : PV} {y : Int} (h : RS x) (hp : Nu p y) (hy : RS (y : Rat)) : Pu rp 107 [rq x, p] (.p (rq (x * (y : Rat)))) := by
  have k27 := (VBn.p27 hp).lift base_le
  have k173 := (VBn.p173 h hy).lift base_le
  obtain ⟨s1, l1, rfl⟩ := Nu.agg hp
  refine pu_of rp107 ?_
  rw [rq_raw (x := x)] at k173
  simp only [f107, args0, SA, setCells, Int.reduceLE, Int.reduceLT, ↓reduceIte, reduceCtorEq, Nat.reduceLT, Nat.reduceEqDiff, Nat.reduceAdd, Nat.reduceMul, Nat.reduceLeDiff, Nat.reduceBEq, rq_raw (x := x), kz1 k27, kp1 k27, kp2 k173, kz2 k173, rq_cells]
  rfl
theorem p65 {x : Rat} (h : RS x) : Pu rp 65 [rq x] (.p (.bool true)) := by
  have hdn := nuDen (h.2.sz (by rw [RL_eq]; omega))
  have k79 := (VBn.p79 hdn).lift base_le
  rw [Int.sign_eq_one_of_pos (Int.natCast_pos.2 x.den_pos)] at k79
  refine pu_of rp65 ?_
  have e1 : (1 : Int) > 0 := by decide
  simp only [f65, args0, SA, setCells, Int.reduceLE, Int.reduceLT, ↓reduceIte, reduceCtorEq, Nat.reduceLT, Nat.reduceEqDiff, Nat.reduceAdd, Nat.reduceMul, Nat.reduceLeDiff, Nat.reduceBEq, rq_raw, kp1 k79, e1]
  rfl
theorem p66 {n : Nat} {t : Nat → Rat} {r : List PV} {x : Nat → Int} (hr : NuR r x) (hl : r.length = n) (hn : n ≤ 12) (h1 : ∀ j, j < n → RS (t j) ∧ RS (x j : Rat) ∧ RS (t j * (x j : Rat))) (h2 : ∀ j, j ≤ n → RS (Gs.sumR (fun u => t u * (x u : Rat)) j)) :
    Pu rp 66 [.sl (qF n t), .sl r] (.p (rq (Gs.sumR (fun u => t u * (x u : Rat)) n))) := by
  have k27 := (VBn.p27 nu0).lift base_le
  refine pu_of rp66 ?_
  simp only [f66, args0, SA, setCells, Int.reduceLE, Int.reduceLT, ↓reduceIte, reduceCtorEq, Nat.reduceLT, Nat.reduceEqDiff, Nat.reduceAdd, Nat.reduceMul, Nat.reduceLeDiff, Nat.reduceBEq, kc_pu k27 (show toPs [CV.agg [CV.p (.bool false), .nils]] = some [.agg [.bool false, .sl []]] from rfl), rq_cells]
  refine loop_rule (β := Nat) (fun j => ([(0, .p (.sl (qF n t))), (1, .p (.sl r)), (4, .ptr 0 0 0), (5, .ptr 1 0 0), (6, i64 j)], [.kblk 4 [.p (.bool false), .nils, .p (.bool false), .nils], .kblk 4 (cr (Gs.sumR (fun u => t u * (x u : Rat)) j))])) (fun j => j ≤ n) (fun j => n - j) 0 rfl rfl (Nat.zero_le _) ?_
  intro j hj ih
  simp only [] at hj ih ⊢
  by_cases hjn : (j : Int) < n
  · have hj' : j < n := by omega
    obtain ⟨p, hp, hpx⟩ := hr j (by omega)
    obtain ⟨a1, a2, a3⟩ := h1 j hj'
    have k107 := p107 a1 hpx a2
    have k198 := (VBn.p198 (h2 j (by omega)) a3).lift base_le
    rw [rq_raw (x := Gs.sumR (fun u => t u * (x u : Rat)) j)] at k198
    have w1 : IntKind.i64.wrap ((j : Int) + 1) = ((j + 1 : Nat) : Int) := by rw [IntWalk.i64_in _ (by omega)]; omega
    obtain ⟨s1, l1, rfl⟩ := Nu.agg hpx
    simp only [SA, setCells, Int.reduceLE, Int.reduceLT, ↓reduceIte, reduceCtorEq, Nat.reduceLT, Nat.reduceEqDiff, Nat.reduceAdd, Nat.reduceMul, Nat.reduceLeDiff, Nat.reduceBEq, qF_len, hjn, qF_get hj', hp, subPV_rq, rq_cells, cr, kp2 k107, kp2 k198, Int.natCast_nonneg, Int.toNat_natCast, w1]
    exact ih (j + 1) _ (by omega) (by omega) rfl
  · obtain rfl : j = n := by omega
    simp only [SA, setCells, Int.reduceLE, Int.reduceLT, ↓reduceIte, reduceCtorEq, Nat.reduceLT, Nat.reduceEqDiff, Nat.reduceAdd, Nat.reduceMul, Nat.reduceLeDiff, Nat.reduceBEq, qF_len, hjn, cr]
    rfl
end Go.Proofs.YtdieenbfdeaffaaGreat.VDd

namespace Go.Proofs.YtdieenbfdeaffaaGreat.VDd
open Go Vpi
open VBn hiding rp tab rp_ok all_ok mixed sim Big
set_option maxRecDepth 100000
set_option linter.unusedSimpArgs false
set_option linter.unusedVariables false
open Gs (V Dv Pos dI sk cI sumI U rg)
theorem rp64 : rp 64 = some f64 := rfl
section
variable {rp : RProg} {rs : List RRes} {d : Option Nat} {l : List LOp} {e : Env} {ρ : Store} {Q : CV → Store → Prop} {c : CV} {sz : Nat} {es xs : List PV}
theorem r_app_h2 {s x : Opd} {bytes : Nat} {dr : Dr} {ks : List KI} (h : GL ρ sz c es) (hc : (es.length + xs.length) * bytes ≤ 140737488355328) (hs : vl e s = c) (hx : vl e x = .own ρ.length 0 xs.length) (hz : allSz sz xs = true) :
    ExR rp rs ρ.length (⟨d, none, some 1, .append sz bytes s x⟩ :: l) dr ks e (ρ ++ [.prow sz xs, .hole]) Q = ExR rp rs ρ.length l dr ks (sto d (.own (ρ.length + 1) 0 (es.length + xs.length)) e) (nd ρ c ++ [.prow sz xs, .prow sz (es ++ xs)]) Q := by
  rw [r_append]
  have h1 : content (ρ ++ [.prow sz xs, .hole]) (vl e s) = some es := by rw [hs]; exact h.left.content
  have h2 : content (ρ ++ [.prow sz xs, .hole]) (vl e x) = some xs := by rw [hx]; exact cont_own (s := sz) (by rw [get_app0]; rfl) rfl
  have hlt := h.lt.2
  simp only [ev, h1, h2, hc, hz, and_self, if_true]
  rcases h with ⟨rfl, rfl⟩ | ⟨b, rfl, hb⟩
  · rw [hs]
    simp only [push_sl, get_app, List.getElem?_cons_succ, List.getElem?_cons_zero, set_app, List.set_cons_succ, List.set_cons_zero, Option.map_some, ke_some]
    rfl
  · rw [hs]
    have hbl := hlt b 0 _ rfl
    have h3 : (ρ ++ [.prow sz xs, .hole])[b]? = some (.prow sz es) := by rw [get_left hbl]; exact hb
    have h4 : (ρ ++ [Blk.prow sz xs, .hole]).set b .dead = ρ.set b .dead ++ [.prow sz xs, .hole] := set_left hbl
    have h5 : (ρ.set b .dead ++ [Blk.prow sz xs, .hole])[ρ.length + 1]? = some .hole := by rw [show ρ.length = (ρ.set b .dead).length by rw [List.length_set], get_app]; rfl
    have h6 : ∀ x : Blk, (ρ.set b .dead ++ [Blk.prow sz xs, .hole]).set (ρ.length + 1) x = ρ.set b .dead ++ [.prow sz xs, x] := fun x => by rw [show ρ.length = (ρ.set b .dead).length by rw [List.length_set], set_app]; rfl
    simp only [h3, if_true, h4, push_sl, h5, h6, Option.map_some, ke_some]
    rfl
end
theorem r_app_2l {rp : RProg} {rs : List RRes} {base : Nat} {d : Option Nat} {l : List LOp} {dr : Dr} {ks : List KI} {ε : Env} {σ : Store} {Q : CV → Store → Prop} {c : CV} {sz m : Nat} {es xs : List PV} {s x : Opd} {bytes : Nat} {a a' : Blk} (hm : σ.length = m) (h : GL σ sz c es) (hc : (es.length + xs.length) * bytes ≤ 140737488355328) (hs : vl ε s = c) (hx : vl ε x = .own (m + 2) 0 xs.length) (hz : allSz sz xs = true) :
    ExR rp rs base (⟨d, none, none, .append sz bytes s x⟩ :: l) dr ks ε (σ ++ [a, a', .prow sz xs]) Q = ExR rp rs base l dr ks (sto d (.own (m + 3) 0 (es.length + xs.length)) ε) (nd σ c ++ [a, a', .prow sz xs, .prow sz (es ++ xs)]) Q := by
  subst hm
  exact r_app_2 h hc hs hx hz
theorem GL.at {σ : Store} {sz k n : Nat} {es : List PV} (hn : es.length = n) (h : σ[k]? = some (.prow sz es)) : GL σ sz (.own k 0 n) es := by
  subst hn
  exact .own h rfl
theorem get_at {σ l : Store} {m k : Nat} (h : σ.length = m) : (σ ++ l)[m + k]? = l[k]? := by subst h; exact get_app
def lf (x : Rat) : Int := x.num / (x.den : Int)
theorem lf_int {x : Int} : lf (x : Rat) = x := by
  unfold lf
  show x / ((1 : Nat) : Int) = x
  exact Int.ediv_one x
def el (g : Nat → Nat → Int) (i j : Nat) : Int := lf (mu g i j * ((Dv g (j + 1) : Int) : Rat))
def eL (g : Nat → Nat → Int) (i : Nat) : List PV := (List.range i).map fun a => .sl (zF a (el g a))
theorem eL_len {g : Nat → Nat → Int} {i : Nat} : (eL g i).length = i := by simp [eL]
theorem eL_suc {g : Nat → Nat → Int} {i : Nat} : eL g i ++ [.sl (zF i (el g i))] = eL g (i + 1) := by simp [eL, List.range_succ]
structure Kd (g : Nat → Nat → Int) (m : Nat) (τ : Store) (cD cL : CV) (i : Nat) : Prop where
  h0 : τ[0]? = some (.kblk 2 [.p (.sl (Ml g m)), .p (.sl (Sl g m))])
  h1 : τ[1]? = some (.kblk 2 [.nils, .nils])
  h2 : τ[2]? = some (.kblk 2 [cD, cL])
  h3 : τ[3]? = some (.kblk 2 (cz (Dv g i)))
  gD : GL τ 2 cD (zF (i + 1) (Dv g))
  gL : GL τ 1 cL (eL g i)
theorem Kd.push {g : Nat → Nat → Int} {m : Nat} {τ : Store} {cD cL : CV} {i : Nat} (h : Kd g m τ cD cL i) {l : Store} : Kd g m (τ ++ l) cD cL i := by
  obtain ⟨a0, a1, a2, a3, a4, a5⟩ := h
  exact ⟨by rw [get_left (List.getElem?_eq_some_iff.1 a0).1]; exact a0, by rw [get_left (List.getElem?_eq_some_iff.1 a1).1]; exact a1, by rw [get_left (List.getElem?_eq_some_iff.1 a2).1]; exact a2, by rw [get_left (List.getElem?_eq_some_iff.1 a3).1]; exact a3, a4.left, a5.left⟩
theorem Kd.nd {g : Nat → Nat → Int} {m : Nat} {τ : Store} {cD cL c : CV} {i : Nat} {es : List PV} (h : Kd g m τ cD cL i) (hc : GL τ 2 c es) (ha : Apart cD c) {l : Store} : Kd g m (nd τ c ++ l) cD cL i :=
  ⟨GL.kb hc h.h0, GL.kb hc h.h1, GL.kb hc h.h2, GL.kb hc h.h3, (VBn.GL.nd h.gD ha).left, (VBn.GL.nd h.gL (VBn.GL.ne_sz h.gL hc (by decide))).left⟩
section
variable {b : List PV} {N : Nat} {X : Nat → Nat → Int}
set_option maxHeartbeats 1000000 in
theorem p64 (h : Vb b N X) : Pu rp 64 [.agg [.sl (Ml (gr N X) b.length), .sl (Sl (gr N X) b.length)]] (.p (.agg [.sl (zF (b.length + 1) (Dv (gr N X))), .sl (eL (gr N X) b.length)])) := by
  have k66 := (VBn.p66 (x := 1) (by decide) (by decide)).lift base_le
  have hbm := h.bs.m
  refine pu_of rp64 ?_
  have hraw1 : PV.agg [.bool (false && decide (Int.natAbs 1 ≠ 0)), .sl (lm (dgl (Int.natAbs 1)))] = zi 1 := rfl
  simp only [f64, args0, SA, setCells, Int.reduceLE, Int.reduceLT, ↓reduceIte, reduceCtorEq, Nat.reduceLT, Nat.reduceEqDiff, Nat.reduceAdd, Nat.reduceMul, Nat.reduceLeDiff, Nat.reduceBEq, kp1 k66, r_append, content, hraw1]
  refine loop_rule (β := Nat × Store × Nat × CV) (fun t => ([(1, .ptr 0 0 0), (2, .ptr 1 0 0), (3, .ptr 2 0 0), (4, .ptr 3 0 0), (5, i64 t.1)], t.2.1)) (fun t => t.1 ≤ b.length ∧ Kd (gr N X) b.length t.2.1 (.own t.2.2.1 0 (t.1 + 1)) t.2.2.2 t.1) (fun t => b.length - t.1)
    ((0, [.kblk 2 [.p (.sl (Ml (gr N X) b.length)), .p (.sl (Sl (gr N X) b.length))], .kblk 2 [.nils, .nils], .kblk 2 [.own 5 0 1, .nils], .kblk 2 (cz 1), .prow 2 [zi 1], .prow 2 [zi 1]], 5, .nils) : Nat × Store × Nat × CV) rfl rfl ⟨Nat.zero_le _, rfl, rfl, rfl, rfl, .own rfl rfl, .nil⟩ ?_
  rintro ⟨i, τ, bD, cL⟩ ⟨hi, hK⟩ ih
  simp only [] at hi hK ih ⊢
  by_cases hin : (i : Int) < b.length
  · have hi' : i < b.length := by omega
    have hpi := h.pos.mono (m := i + 1) (by omega)
    have w1 : IntKind.i64.wrap ((i : Int) + 1) = ((i + 1 : Nat) : Int) := by rw [IntWalk.i64_in _ (by omega)]; omega
    simp only [SA, setCells, Int.reduceLE, Int.reduceLT, ↓reduceIte, reduceCtorEq, Nat.reduceLT, Nat.reduceEqDiff, Nat.reduceAdd, Nat.reduceMul, Nat.reduceLeDiff, Nat.reduceBEq, hK.h0, Sl_len, hin]
    refine loop_rule (β := Nat × Store × CV) (fun t => ([(1, .ptr 0 0 0), (2, .ptr 1 0 0), (3, .ptr 2 0 0), (4, .ptr 3 0 0), (5, i64 i), (6, t.2.2), (7, i64 t.1)], t.2.1)) (fun t => t.1 ≤ i ∧ Kd (gr N X) b.length t.2.1 (.own bD 0 (i + 1)) cL i ∧ GL t.2.1 2 t.2.2 (zF t.1 (el (gr N X) i)) ∧ Apart (.own bD 0 (i + 1)) t.2.2) (fun t => i - t.1) ((0, τ, .nils) : Nat × Store × CV) rfl rfl ⟨Nat.zero_le _, hK, .nil, by rintro b o n b' o' n' _ h; cases h⟩ ?_
    clear hK
    rintro ⟨j, τ, c⟩ ⟨hj, hK, hg, hap⟩ ih2
    simp only [] at hj hK hg hap ih2 ⊢
    have hbD : bD < τ.length := hK.gD.lt.2 _ _ _ rfl
    have gD : τ[bD]? = some (.prow 2 (zF (i + 1) (Dv (gr N X)))) := by
      obtain ⟨k', e', g', l'⟩ := VBn.GL.own_of hK.gD zF_len (Nat.succ_pos i)
      cases e'
      exact g'
    by_cases hji : (j : Int) < i
    · have hj' : j < i := by omega
      have w2 : IntKind.i64.wrap ((j : Int) + 1) = ((j + 1 : Nat) : Int) := by rw [IntWalk.i64_in _ (by omega)]; omega
      have s1 := (mu_rs h.bs (h.pos.mono (m := j + 1) (by omega)) (show j ≤ i by omega) hi')
      have s2 := Dv_sk h.bs (h.pos.mono (m := j + 1) (by omega)) (k := j + 1) (by omega)
      have s3 := RSn.int s2 (by decide)
      have k107 := p107 (s1.rs (by omega)) (Nu.zi (s2.sz (by omega))) (s3.rs (by omega))
      have k31 := p31 ((s1.mul s3).rs (by omega))
      have e0 : ∀ l, (τ ++ l)[0]? = some (.kblk 2 [.p (.sl (Ml (gr N X) b.length)), .p (.sl (Sl (gr N X) b.length))]) := fun l => hK.push.h0
      have e2 : ∀ l, (τ ++ l)[2]? = some (.kblk 2 [.own bD 0 (i + 1), cL]) := fun l => hK.push.h2
      have eD : ∀ l, (τ ++ l)[bD]? = some (.prow 2 (zF (i + 1) (Dv (gr N X)))) := fun l => by rw [get_left hbD]; exact gD
      have hj1 : j + 1 < i + 1 := by omega
      have hzD := zF_get (f := Dv (gr N X)) hj1
      have hc : ((zF j (el (gr N X) i)).length + [zi (el (gr N X) i j)].length) * 32 ≤ 140737488355328 := by rw [zF_len]; simp; omega
      have hsuc := zF_suc (n := j) (f := el (gr N X) i)
      have k31' : Pu rp 31 [rq (mu (gr N X) i j * ((Dv (gr N X) (j + 1) : Int) : Rat))] (.p (zi (el (gr N X) i j))) := k31
      simp only [SA, setCells, Int.reduceLE, Int.reduceLT, ↓reduceIte, reduceCtorEq, Nat.reduceLT, Nat.reduceEqDiff, Nat.reduceAdd, Nat.reduceMul, Nat.reduceLeDiff, Nat.reduceBEq, hji, e0, e2, eD, Ml_get hi', Ul_get hj', subPV_rq, hj1, hzD, subPV_zi, rq_cells, kz2 k107, kp1 k31', push_sl, r_app_h2 hg hc, hsuc, zF_len, Int.natCast_nonneg, Int.toNat_natCast, w2]
      refine ih2 (j + 1, nd τ c ++ [.prow 2 [zi (el (gr N X) i j)], .prow 2 (zF (j + 1) (el (gr N X) i))], .own (τ.length + 1) 0 (j + 1)) _ ⟨by simp only []; omega, hK.nd hg hap, GL.new2 zF_len.symm rfl, ?_⟩ (by simp only []; omega) ?_
      · rintro b1 o1 n1 b2 o2 n2 h1 h2
        cases h1
        cases h2
        omega
      · rfl
    · obtain rfl : j = i := by omega
      have hc2 : ((zF (j + 1) (Dv (gr N X))).length + [zi (Dv (gr N X) (j + 1))].length) * 32 ≤ 140737488355328 := by
        rw [show (zF (j + 1) (Dv (gr N X))).length = j + 1 from zF_len, show [zi (Dv (gr N X) (j + 1))].length = 1 from rfl]
        exact Nat.le_trans (Nat.mul_le_mul_right 32 (show j + 1 + 1 ≤ 14 by omega)) (by decide)
      have hK1 : Kd (gr N X) b.length (nd τ c) (.own bD 0 (j + 1)) cL j := by
        have := hK.nd hg hap (l := [])
        rwa [List.append_nil] at this
      have hf : frzs τ [c] = some [.sl (zF j (el (gr N X) j))] := by simp only [frzs, hg.frz, Option.map_some]
      have hkl : kills τ [c] = nd τ c := hg.kill
      have hnl : (nd τ c).length = τ.length := nd_len
      have hc1 : ((eL (gr N X) j).length + [PV.sl (zF j (el (gr N X) j))].length) * 24 ≤ 140737488355328 := by rw [eL_len]; simp; omega
      have hR1 := fun {rp rs base d l dr ks ε Q s x} => r_app_l (rp := rp) (rs := rs) (base := base) (d := d) (l := l) (dr := dr) (ks := ks) (ε := ε) (Q := Q) (s := s) (x := x) hnl hK1.gL hc1
      have hz1 : allSz 1 [PV.sl (zF j (el (gr N X) j))] = true := rfl
      obtain ⟨σ0, hσ0⟩ : ∃ σ0, σ0 = nd (nd τ c) cL := ⟨_, rfl⟩
      have hl0 : σ0.length = τ.length := by rw [hσ0, nd_len, nd_len]
      have k0 : ∀ (t : Nat) (xs : List CV), (nd τ c)[t]? = some (Blk.kblk 2 xs) → ∀ l, (σ0 ++ l)[t]? = some (Blk.kblk 2 xs) := fun t xs hx l => by rw [hσ0]; exact GL.kb hK1.gL hx
      have b2 := k0 _ _ hK1.h2
      have l2 : 2 < σ0.length := by have := (List.getElem?_eq_some_iff.1 hK.h2).1; omega
      have l3 : 3 < σ0.length := by have := (List.getElem?_eq_some_iff.1 hK.h3).1; omega
      have t2 : ∀ l x, (σ0 ++ l).set 2 x = σ0.set 2 x ++ l := fun l x => set_left l2
      have t0 : ∀ l x, (σ0.set 2 x ++ l)[0]? = some (.kblk 2 [.p (.sl (Ml (gr N X) b.length)), .p (.sl (Sl (gr N X) b.length))]) := fun l x => by rw [← t2, get_ne (by decide)]; exact k0 _ _ hK1.h0 l
      have t3 : ∀ l x, (σ0.set 2 x ++ l)[3]? = some (.kblk 2 (cz (Dv (gr N X) j))) := fun l x => by rw [← t2, get_ne (by decide)]; exact k0 _ _ hK1.h3 l
      have u3 : ∀ l x y, (σ0.set 2 x ++ l).set 3 y = (σ0.set 2 x).set 3 y ++ l := fun l x y => set_left (by rw [List.length_set]; exact l3)
      have v2 : ∀ l x y, ((σ0.set 2 x).set 3 y ++ l)[2]? = some x := fun l x y => by rw [get_left (by rw [List.length_set, List.length_set]; exact l2), get_ne (by decide), get_self l2]
      have v3 : ∀ l x y, ((σ0.set 2 x).set 3 y ++ l)[3]? = some y := fun l x y => by rw [get_left (by rw [List.length_set, List.length_set]; exact l3), get_self (by rw [List.length_set]; exact l3)]
      have hst := U_rs h.bs (h.pos.mono (m := j) (by omega)) (Nat.le_refl j) (Nat.le_refl j) hi' hi'
      have hDj := Dv_sk h.bs (h.pos.mono (m := j) (by omega)) (k := j) (by omega)
      have hDj1 := Dv_sk h.bs (h.pos.mono (m := j + 1) (by omega)) (k := j + 1) (by omega)
      have hstar : star (gr N X) j * ((Dv (gr N X) j : Int) : Rat) = ((Dv (gr N X) (j + 1) : Int) : Rat) := by
        have h1 := U_div (g := gr N X) gr_symm (h.pos.mono (m := j) (by omega)) (Nat.le_refl j) (Nat.le_refl j)
        have h2 : (0 : Rat) < ((Dv (gr N X) j : Int) : Rat) := Rat.intCast_pos.2 (Gs.good gr_symm (M := 0) (h.pos.mono (m := j) (by omega))).dp
        unfold star
        rw [h1, Rat.divInt_eq_div]
        show _ = ((V (gr N X) j j j : Int) : Rat)
        grind
      have k107 := p107 (hst.rs (by omega)) (Nu.zi (hDj.sz (by omega))) ((RSn.int hDj (by decide)).rs (by omega))
      rw [show U (rg (gr N X)) j j j = star (gr N X) j from rfl, hstar, zi_raw (x := Dv (gr N X) j)] at k107
      have k31 : Pu rp 31 [rq ((Dv (gr N X) (j + 1) : Int) : Rat)] (.p (zi (Dv (gr N X) (j + 1)))) := by
        have := p31 ((RSn.int hDj1 (by decide)).rs (by omega))
        rwa [show ((Dv (gr N X) (j + 1) : Int) : Rat).num / ((((Dv (gr N X) (j + 1) : Int) : Rat).den : Nat) : Int) = Dv (gr N X) (j + 1) from lf_int] at this
      have gD2 : ∀ x y, GL ((σ0.set 2 x).set 3 y) 2 (.own bD 0 (j + 1)) (zF (j + 1) (Dv (gr N X))) := fun x y => by
        have g1 : GL σ0 2 (.own bD 0 (j + 1)) (zF (j + 1) (Dv (gr N X))) := by rw [hσ0]; exact VBn.GL.nd hK1.gD ((VBn.GL.ne_sz hK1.gL hK1.gD (by decide)).symm)
        have a2 := k0 _ _ hK1.h2 []
        have a3 := k0 _ _ hK1.h3 []
        rw [List.append_nil] at a2 a3
        exact (g1.set a2).set (by rw [get_ne (by decide)]; exact a3)
      have hR2 := fun {rp rs base d l dr ks ε Q a a' s x y z} => r_app_2l (rp := rp) (rs := rs) (base := base) (d := d) (l := l) (dr := dr) (ks := ks) (ε := ε) (Q := Q) (a := a) (a' := a') (s := s) (x := x) (m := τ.length) (σ := (σ0.set 2 y).set 3 z) (by rw [List.length_set, List.length_set]; exact hl0) (gD2 y z) hc2
      have hraw := (zi_raw (x := Dv (gr N X) (j + 1))).symm
      have hsuc2 := zF_suc (n := j + 1) (f := Dv (gr N X))
      have hfp : ∀ (σ : Store) (v : PV), frzs σ [.p v] = some [v] := fun _ _ => rfl
      have hkp : ∀ (σ : Store) (v : PV), kills σ [.p v] = σ := fun _ _ => rfl
      have z0 : ∀ (t : Nat) (xs : List CV), t ≠ 2 → t ≠ 3 → (nd τ c)[t]? = some (Blk.kblk 2 xs) → ∀ x y l, (nd ((σ0.set 2 x).set 3 y) (.own bD 0 (j + 1)) ++ l)[t]? = some (Blk.kblk 2 xs) := fun t xs h2 h3 hx x y l => by
        refine GL.kb (gD2 x y) ?_
        rw [get_ne (Ne.symm h3), get_ne (Ne.symm h2)]
        have := k0 t xs hx []
        rwa [List.append_nil] at this
      have z2 : ∀ xs y l, (nd ((σ0.set 2 (.kblk 2 xs)).set 3 y) (.own bD 0 (j + 1)) ++ l)[2]? = some (Blk.kblk 2 xs) := fun xs y l => by
        refine GL.kb (gD2 _ y) ?_
        rw [get_ne (by decide), get_self l2]
      have z3 : ∀ x ys l, (nd ((σ0.set 2 x).set 3 (.kblk 2 ys)) (.own bD 0 (j + 1)) ++ l)[3]? = some (Blk.kblk 2 ys) := fun x ys l => by
        refine GL.kb (gD2 x _) ?_
        rw [get_self (by rw [List.length_set]; exact l3)]
      have y2 : ∀ x y l w, (nd ((σ0.set 2 x).set 3 y) (.own bD 0 (j + 1)) ++ l).set 2 w = (nd ((σ0.set 2 x).set 3 y) (.own bD 0 (j + 1))).set 2 w ++ l := fun x y l w => set_left (by rw [nd_len, List.length_set, List.length_set]; exact l2)
      have hl4 : ∀ x y w, ((nd ((σ0.set 2 x).set 3 y) (.own bD 0 (j + 1))).set 2 w).length = τ.length := fun x y w => by rw [List.length_set, nd_len, List.length_set, List.length_set]; exact hl0
      have hKn : ∀ y, Kd (gr N X) b.length ((nd ((σ0.set 2 y).set 3 (.kblk 2 (cz (Dv (gr N X) (j + 1))))) (.own bD 0 (j + 1))).set 2 (.kblk 2 [.own (τ.length + 3) 0 (j + 1 + 1), .own (τ.length + 1) 0 (j + 1)]) ++ [.prow 1 [.sl (zF j (el (gr N X) j))], .prow 1 (eL (gr N X) (j + 1)), .prow 2 [zi (Dv (gr N X) (j + 1))], .prow 2 (zF (j + 1 + 1) (Dv (gr N X)))]) (.own (τ.length + 3) 0 (j + 1 + 1)) (.own (τ.length + 1) 0 (j + 1)) (j + 1) := fun y => by
        refine ⟨?_, ?_, ?_, ?_, ?_, ?_⟩
        · rw [← y2, get_ne (by decide)]; exact z0 _ _ (by decide) (by decide) hK1.h0 _ _ _
        · rw [← y2, get_ne (by decide)]; exact z0 _ _ (by decide) (by decide) hK1.h1 _ _ _
        · rw [get_left (by rw [hl4]; omega), get_self (by rw [nd_len, List.length_set, List.length_set]; exact l2)]
        · rw [← y2, get_ne (by decide)]; exact z3 _ _ _
        · refine GL.at zF_len ((get_at (hl4 _ _ _)).trans rfl)
        · refine GL.at eL_len ((get_at (hl4 _ _ _)).trans rfl)
      rw [hσ0] at b2 t2 t0 t3 u3 v2 v3 hR2 hl0 z2 y2 hKn
      simp only [S1, S2, S3, S4, S5, r_idx, r_mks, S6, setCells, Int.reduceLE, Int.reduceLT, ↓reduceIte, reduceCtorEq, Nat.reduceLT, Nat.reduceEqDiff, Nat.reduceAdd, Nat.reduceMul, Nat.reduceLeDiff, Nat.reduceBEq, hji, hK.h2, hK1.h2, hf, hkl, hnl, hz1, hR1, eL_suc, eL_len, b2, t2, t0, t3, Sl_len, Sl_get hi', hi', subPV_rq, rq_cells, cz, kz2 k107, kp1 k31, u3, v2, v3, hraw, hfp, hkp, hR2, hsuc2, zF_len, Int.natCast_nonneg, Int.toNat_natCast, w1, z2, y2, hl0]
      refine ih (j + 1, _, τ.length + 3, .own (τ.length + 1) 0 (j + 1)) _ ⟨by simp only []; omega, hKn _⟩ (by simp only []; omega) ?_
      rfl
  · obtain rfl : i = b.length := by omega
    have l1 := (List.getElem?_eq_some_iff.1 hK.h1).1
    have e1 : ∀ x, (τ.set 1 x)[1]? = some x := fun x => get_self l1
    have gD := hK.gD.set hK.h1 (x := .kblk 2 [.own bD 0 (b.length + 1), cL])
    have gL := hK.gL.set hK.h1 (x := .kblk 2 [.own bD 0 (b.length + 1), cL])
    simp only [SA, setCells, Int.reduceLE, Int.reduceLT, ↓reduceIte, reduceCtorEq, Nat.reduceLT, Nat.reduceEqDiff, Nat.reduceAdd, Nat.reduceMul, Nat.reduceLeDiff, Nat.reduceBEq, hK.h0, Sl_len, hin, hK.h2, hK.h1, e1]
    have hfD := gD.frz1
    have hfL := gL.frz1
    rcases gL with ⟨rfl, e⟩ | ⟨k', rfl, e⟩ <;> simp [back, back1, frz, frzL, hfD, hfL]
end
end Go.Proofs.YtdieenbfdeaffaaGreat.VDd

namespace Go.Proofs.YtdieenbfdeaffaaGreat.VDd
open Go Vpi
open VBn hiding rp tab rp_ok all_ok mixed sim Big
set_option maxRecDepth 100000
set_option linter.unusedSimpArgs false
set_option linter.unusedVariables false
open Gs (V Dv Pos dI sk cI sumI sumR U rg)
theorem rp29 : rp 29 = some f29 := rfl
def lC (M : Nat) (c : Nat → Rat) (s : Nat) : List PV := (List.range M).map fun a => if M - s ≤ a then rq (c a) else .agg [.bool false, .sl [], .bool false, .sl []]
theorem lC_len {M s : Nat} {c : Nat → Rat} : (lC M c s).length = M := by simp [lC]
theorem lC_get {M s a : Nat} {c : Nat → Rat} (ha : a < M) (h : M - s ≤ a) : (lC M c s)[a]? = some (rq (c a)) := by
  simp only [lC, List.getElem?_map, List.getElem?_range ha, Option.map_some, if_pos h]
theorem lC_zero {M : Nat} {c : Nat → Rat} : lC M c 0 = List.replicate M (.agg [.bool false, .sl [], .bool false, .sl []]) := by
  apply List.ext_getElem?
  intro j
  by_cases hj : j < M
  · simp [lC, hj]; omega
  · rw [List.getElem?_eq_none (by rw [lC_len]; omega), List.getElem?_eq_none (by rw [List.length_replicate]; omega)]
theorem lC_set {M s : Nat} {c : Nat → Rat} (hs : s < M) : (lC M c s).set (M - 1 - s) (rq (c (M - 1 - s))) = lC M c (s + 1) := by
  apply List.ext_getElem?
  intro j
  by_cases hj : j < M
  · by_cases h : M - 1 - s = j
    · subst h
      rw [List.getElem?_set_self (by rw [lC_len]; exact hj), lC_get hj (by omega)]
    · rw [List.getElem?_set_ne h]
      simp only [lC, List.getElem?_map, List.getElem?_range hj, Option.map_some]
      by_cases h2 : M - s ≤ j
      · rw [if_pos h2, if_pos (by omega)]
      · rw [if_neg h2, if_neg (by omega)]
  · rw [List.getElem?_eq_none (by rw [List.length_set, lC_len]; omega), List.getElem?_eq_none (by rw [lC_len]; omega)]
theorem lC_all {M : Nat} {c : Nat → Rat} : lC M c M = qF M c := by
  unfold lC qF
  refine List.map_congr_left fun a ha => ?_
  rw [if_pos (by omega)]
theorem lC_any {M s a : Nat} {c : Nat → Rat} (ha : a < M) : ∃ x1 x2 x3 x4, (lC M c s)[a]? = some (.agg [x1, x2, x3, x4]) := by
  by_cases h : M - s ≤ a
  · exact ⟨_, _, _, _, by rw [lC_get ha h, rq_raw]⟩
  · exact ⟨_, _, _, _, by simp [lC, ha]; rw [if_neg (by omega)]⟩
def dF (D : Nat → Rat) (q st : Nat → Rat) (M N : Nat) : Nat → Rat
  | 0 => sumR D N
  | s + 1 => dF D q st M N s - q (M - 1 - s) * q (M - 1 - s) * st (M - 1 - s)
theorem updPV_rq {x1 x2 x3 x4 : PV} {x : Rat} : updPV (.agg [x1, x2, x3, x4]) 0 4 (rq x) = some (rq x) := by
  simp [updPV, rq, PV.cells, setCells]
theorem co_all {mu : Nat → Nat → Rat} {q : Nat → Rat} {m i : Nat} (hmu : ∀ i j, j < i → i < m → RSn 217 (mu i j)) (hq : ∀ i, i < m → RSn 925695 (q i)) (hm : m ≤ 12) (hi : i < m) : RSn 3800000000 (co mu q m i) := by
  have := co_sz hmu hq hm (s := m - 1 - i) (by omega) (Nat.le_refl _)
  rw [← co_step (by omega), show m - 1 - (m - 1 - i) = i by omega] at this
  exact this
section
variable {b : List PV} {N : Nat} {X : Nat → Nat → Int} {t tt : Nat → Rat}
theorem p29 {nn : Nat → Nat} (hb : MR b nn X) (hlb : b.length ≤ 2000000) (hv : vE nn X b.length = 0) (hN : nn 0 = N)
    (ht : ∀ j, j < N → RS (t j) ∧ RS (t j * t j)) (htq : ∀ j, j ≤ N → RSn 1000 (sumR (fun u => t u * t u) j)) (htt : ∀ i, i < b.length → RSn 8 (tt i))
    (h66 : ∀ i, i < b.length → ∃ r, b[i]? = some (.sl r) ∧ Pu rp 66 [.sl (qF N t), .sl r] (.p (rq (tt i)))) :
    ∃ dist : Rat, Pu rp 29 [.sl b, .sl (qF N t)] (.tup [.p (.sl (qF b.length (co (mu (gr N X)) (fun a => al (mu (gr N X)) tt a / star (gr N X) a) b.length))), .p (rq dist), .p (.int .i64 0)]) := by
  subst hN
  have hV := vb_of hb hv
  have hbm := hV.bs.m
  have hbn := hV.bs.n
  have k110 := (VBn.p110ok hb hlb hv).lift base_le
  have hmu : ∀ i j, j < i → i < b.length → RSn 217 (mu (gr (nn 0) X) i j) := fun i j hj hi => mu_rs hV.bs (hV.pos.mono (by omega)) (by omega) hi
  have hst : ∀ k, k < b.length → RSn 217 (star (gr (nn 0) X) k) ∧ star (gr (nn 0) X) k ≠ 0 := fun k hk => ⟨U_rs hV.bs (hV.pos.mono (by omega)) (Nat.le_refl k) (Nat.le_refl k) hk hk, by have := star_pos gr_symm (hV.pos.mono (m := k + 1) (by omega)); grind⟩
  have hal : ∀ i, i < b.length → RSn 925478 (al (mu (gr (nn 0) X)) tt i) := fun i hi => (al_sz hmu htt hi).mono (zA_le (by omega))
  have hq : ∀ i, i < b.length → RSn 925695 (al (mu (gr (nn 0) X)) tt i / star (gr (nn 0) X) i) := fun i hi => ((hal i hi).div (hst i hi).1 (hst i hi).2).mono (by decide)
  have hdF : ∀ s, s ≤ b.length → RSn (1000 + s * 1852000) (dF (fun u => t u * t u) (fun a => al (mu (gr (nn 0) X)) tt a / star (gr (nn 0) X) a) (star (gr (nn 0) X)) b.length (nn 0) s) := by
    intro s
    induction s with
    | zero => exact fun _ => htq (nn 0) (Nat.le_refl _)
    | succ s ih =>
      intro hs
      have h1 := hq (b.length - 1 - s) (by omega)
      have h2 := (hst (b.length - 1 - s) (by omega)).1
      have := (ih (by omega)).sub ((h1.mul h1).mul h2)
      rw [dF]
      exact this.mono (by omega)
  have hq' : ∀ i, i < b.length → RSn 925695 ((fun a => al (mu (gr (nn 0) X)) tt a / star (gr (nn 0) X) a) i) := hq
  have hco : ∀ i, i < b.length → RSn 3800000000 (co (mu (gr (nn 0) X)) (fun a => al (mu (gr (nn 0) X)) tt a / star (gr (nn 0) X) a) b.length i) := fun i hi => co_all hmu hq' hbm hi
  refine ⟨dF (fun u => t u * t u) (fun a => al (mu (gr (nn 0) X)) tt a / star (gr (nn 0) X) a) (star (gr (nn 0) X)) b.length (nn 0) b.length, ?_⟩
  obtain ⟨r0, g1, g2, g3⟩ := hV.bs.row 0 (by have := hV.ne; omega)
  have i0 : Int.toNat 0 = 0 := rfl
  have e0 : ((0 : Int) != 0) = false := rfl
  have e1 : (((nn 0 : Nat) : Int) != (r0.length : Int)) = false := by rw [g2]; simp
  refine pu_of rp29 ?_
  simp only [f29, args0, SA, setCells, Int.reduceLE, Int.reduceLT, ↓reduceIte, reduceCtorEq, Nat.reduceLT, Nat.reduceEqDiff, Nat.reduceAdd, Nat.reduceMul, Nat.reduceLeDiff, Nat.reduceBEq, kp2 k110, e0, qF_len, g1, i0, Int.le_refl, e1]
  have k27 := (VBn.p27 nu0).lift base_le
  generalize hMU : mu (gr (nn 0) X) = MU at *
  generalize hST : star (gr (nn 0) X) = ST at *
  generalize hAL : al MU tt = AL at *
  generalize hQQ : (fun a => AL a / ST a) = QQ at *
  have hQa : ∀ a, AL a / ST a = QQ a := fun a => by rw [← hQQ]
  have hMl : ∀ i, i < b.length → (Ml (gr (nn 0) X) b.length)[i]? = some (.sl (Ul (gr (nn 0) X) i i)) := fun i hi => Ml_get hi
  have hSl : ∀ i, i < b.length → (Sl (gr (nn 0) X) b.length)[i]? = some (rq (ST i)) := fun i hi => by rw [Sl_get hi, hST]
  have hUl : ∀ i j, j < i → (Ul (gr (nn 0) X) i i)[j]? = some (rq (MU i j)) := fun i j hj => by rw [Ul_get hj, hMU]
  refine loop_rule (β := Nat) (fun j => ([(0, .p (.sl b)), (1, .p (.sl (qF (nn 0) t))), (5, .ptr 0 0 0), (7, .ptr 1 0 0), (9, i64 j)], [.kblk 4 [.p (.bool false), .nils, .p (.bool false), .nils], .kblk 2 [.p (.sl (Ml (gr (nn 0) X) b.length)), .p (.sl (Sl (gr (nn 0) X) b.length))]])) (fun j => j ≤ nn 0) (fun j => nn 0 - j) 0 rfl rfl (Nat.zero_le _) ?_
  intro j hj ih
  simp only [] at hj ih ⊢
  by_cases hjn : (j : Int) < (nn 0 : Nat)
  · have hj' : j < nn 0 := by omega
    have k65 := p65 (ht j hj').1
    have w1 : IntKind.i64.wrap ((j : Int) + 1) = ((j + 1 : Nat) : Int) := by rw [IntWalk.i64_in _ (by omega)]; omega
    simp only [SA, setCells, Int.reduceLE, Int.reduceLT, ↓reduceIte, reduceCtorEq, Nat.reduceLT, Nat.reduceEqDiff, Nat.reduceAdd, Nat.reduceMul, Nat.reduceLeDiff, Nat.reduceBEq, qF_len, hjn, qF_get hj', subPV_rq, rq_cells, List.length_cons, List.length_nil, kp1 k65, Bool.not_true, Int.natCast_nonneg, Int.toNat_natCast, w1]
    refine ih (j + 1) _ (by omega) (by omega) ?_
    rfl
  clear ih
  simp only [SA, setCells, Int.reduceLE, Int.reduceLT, ↓reduceIte, reduceCtorEq, Nat.reduceLT, Nat.reduceEqDiff, Nat.reduceAdd, Nat.reduceMul, Nat.reduceLeDiff, Nat.reduceBEq, qF_len, hjn]
  refine loop_rule (β := Nat × Store × CV) (fun u => ([(0, .p (.sl b)), (1, .p (.sl (qF (nn 0) t))), (5, .ptr 0 0 0), (7, .ptr 1 0 0), (10, i64 b.length), (11, u.2.2), (12, i64 u.1)], u.2.1))
    (fun u => u.1 ≤ b.length ∧ u.2.1[0]? = some (.kblk 4 [.p (.bool false), .nils, .p (.bool false), .nils]) ∧ u.2.1[1]? = some (.kblk 2 [.p (.sl (Ml (gr (nn 0) X) b.length)), .p (.sl (Sl (gr (nn 0) X) b.length))]) ∧ GL u.2.1 4 u.2.2 (qF u.1 AL)) (fun u => b.length - u.1)
    ((0, [.kblk 4 [.p (.bool false), .nils, .p (.bool false), .nils], .kblk 2 [.p (.sl (Ml (gr (nn 0) X) b.length)), .p (.sl (Sl (gr (nn 0) X) b.length))]], .nils) : Nat × Store × CV) rfl rfl ⟨Nat.zero_le _, rfl, rfl, .nil⟩ ?_
  rintro ⟨i, τ, c⟩ ⟨hi, h0, h1, hg⟩ ih
  simp only [] at hi h0 h1 hg ih ⊢
  by_cases hin : (i : Int) < b.length
  · have hi' : i < b.length := by omega
    obtain ⟨r, r1, r2⟩ := h66 i hi'
    have w1 : IntKind.i64.wrap ((i : Int) + 1) = ((i + 1 : Nat) : Int) := by rw [IntWalk.i64_in _ (by omega)]; omega
    have l1 := (List.getElem?_eq_some_iff.1 h1).1
    have e1 : ∀ l, (τ ++ l)[1]? = some (.kblk 2 [.p (.sl (Ml (gr (nn 0) X) b.length)), .p (.sl (Sl (gr (nn 0) X) b.length))]) := fun l => by rw [get_left l1]; exact h1
    have hz0 : tt i - sumR (fun u => MU i u * AL u) 0 = tt i := by simp only [sumR]; grind
    simp only [SA, setCells, Int.reduceLE, Int.reduceLT, ↓reduceIte, reduceCtorEq, Nat.reduceLT, Nat.reduceEqDiff, Nat.reduceAdd, Nat.reduceMul, Nat.reduceLeDiff, Nat.reduceBEq, hin, r1, Int.natCast_nonneg, Int.toNat_natCast, kp2 r2, rq_cells]
    refine loop_rule (β := Nat) (fun j => ([(0, .p (.sl b)), (1, .p (.sl (qF (nn 0) t))), (5, .ptr 0 0 0), (7, .ptr 1 0 0), (10, i64 b.length), (11, c), (12, i64 i), (13, .ptr τ.length 0 0), (14, i64 j)], τ ++ [.kblk 4 (cr (tt i - sumR (fun u => MU i u * AL u) j))])) (fun j => j ≤ i) (fun j => i - j) 0 rfl (by simp only []; rw [hz0]; rfl) (Nat.zero_le _) ?_
    intro j hj ih2
    simp only [] at hj ih2 ⊢
    have hpart := al_part hmu htt hi' hj
    rw [hAL] at hpart
    have hps := (hpart.mono (zA_le (by omega : j ≤ 12))).rs (by omega)
    by_cases hji : (j : Int) < i
    · have hj' : j < i := by omega
      obtain ⟨bc, rfl, gc, lc⟩ := VBn.GL.own_of hg qF_len (by omega)
      have ec : ∀ l, (τ ++ l)[bc]? = some (.prow 4 (qF i AL)) := fun l => by rw [get_left lc]; exact gc
      have s1 := hmu i j hj' hi'
      have s2 := hal j (by omega)
      have q1 := (VBn.p173 (s1.rs (by omega)) (s2.rs (by omega))).lift base_le
      have q2 := (VBn.p172 hps ((s1.mul s2).rs (by omega))).lift base_le
      rw [show tt i - sumR (fun u => MU i u * AL u) j - MU i j * AL j = tt i - sumR (fun u => MU i u * AL u) (j + 1) by rw [sumR]; grind, rq_raw (x := tt i - sumR (fun u => MU i u * AL u) j)] at q2
      have w2 : IntKind.i64.wrap ((j : Int) + 1) = ((j + 1 : Nat) : Int) := by rw [IntWalk.i64_in _ (by omega)]; omega
      simp only [SA, setCells, Int.reduceLE, Int.reduceLT, ↓reduceIte, reduceCtorEq, Nat.reduceLT, Nat.reduceEqDiff, Nat.reduceAdd, Nat.reduceMul, Nat.reduceLeDiff, Nat.reduceBEq, hji, hj', e1, ec, hMl i hi', hUl i j hj', qF_get hj', subPV_rq, rq_cells, cr, kp2 q1, kp2 q2, Int.natCast_nonneg, Int.toNat_natCast, w2]
      refine ih2 (j + 1) _ (by omega) (by omega) ?_
      rfl
    · obtain rfl : j = i := by omega
      have hraw : PV.agg [.bool (decide ((AL j).num < 0) && decide ((AL j).num.natAbs ≠ 0)), .sl (lm (dgl (AL j).num.natAbs)), .bool false, .sl (lm (dgl (AL j).den))] = rq (AL j) := rfl
      have hal' : tt j - sumR (fun u => MU j u * AL u) j = AL j := by rw [← hAL]; exact al_eq.symm
      have hc : ((qF j AL).length + [rq (AL j)].length) * 64 ≤ 140737488355328 := by rw [qF_len]; simp; omega
      have hsuc := qF_suc (n := j) (f := AL)
      rw [hal']
      simp only [SA, setCells, Int.reduceLE, Int.reduceLT, ↓reduceIte, reduceCtorEq, Nat.reduceLT, Nat.reduceEqDiff, Nat.reduceAdd, Nat.reduceMul, Nat.reduceLeDiff, Nat.reduceBEq, hji, cr, hraw, r_app_1 hg hc, rq_cells, hsuc, qF_len, w1]
      refine ih (j + 1, nd τ c ++ [.kblk 4 (cr (AL j)), .prow 4 [rq (AL j)], .prow 4 (qF (j + 1) AL)], .own (τ.length + 2) 0 (j + 1)) _ ⟨by simp only []; omega, GL.kb hg h0, GL.kb hg h1, GL.at qF_len ((get_at nd_len).trans rfl)⟩ (by simp only []; omega) ?_
      rfl
  · obtain rfl : i = b.length := by omega
    clear ih
    obtain ⟨bc, rfl, gc, lc⟩ := VBn.GL.own_of hg qF_len (by have := hV.ne; omega)
    have m3 : ((64 : Nat) : Int) * (b.length : Int) ≤ 281474976710656 := by omega
    have m4 : (b.length : Int) ≤ 9223372036854775807 := by omega
    simp only [SA, setCells, Int.reduceLE, Int.reduceLT, ↓reduceIte, reduceCtorEq, Nat.reduceLT, Nat.reduceEqDiff, Nat.reduceAdd, Nat.reduceMul, Nat.reduceLeDiff, Nat.reduceBEq, hin, Int.natCast_nonneg, m3, m4, Int.le_refl, Int.toNat_natCast, kc_pu k27 (show toPs [CV.agg [CV.p (.bool false), .nils]] = some [.agg [.bool false, .sl []]] from rfl), rq_cells]
    refine loop_rule (β := Nat) (fun j => ([(1, .p (.sl (qF (nn 0) t))), (5, .ptr 0 0 0), (7, .ptr 1 0 0), (10, i64 b.length), (11, .own bc 0 b.length), (15, .own τ.length 0 b.length), (16, .ptr (τ.length + 1) 0 0), (17, i64 j)], τ ++ [.prow 4 (List.replicate b.length (.agg [.bool false, .sl [], .bool false, .sl []])), .kblk 4 (cr (sumR (fun u => t u * t u) j))])) (fun j => j ≤ nn 0) (fun j => nn 0 - j) 0 rfl rfl (Nat.zero_le _) ?_
    intro j hj ih
    simp only [] at hj ih ⊢
    by_cases hjn2 : (j : Int) < (nn 0 : Nat)
    · have hj' : j < nn 0 := by omega
      have k175 := (VBn.p175 (ht j hj').1).lift base_le
      have k198 := (VBn.p198 ((htq j hj).rs (by omega)) (ht j hj').2).lift base_le
      rw [rq_raw (x := sumR (fun u => t u * t u) j)] at k198
      have w1 : IntKind.i64.wrap ((j : Int) + 1) = ((j + 1 : Nat) : Int) := by rw [IntWalk.i64_in _ (by omega)]; omega
      simp only [SA, setCells, Int.reduceLE, Int.reduceLT, ↓reduceIte, reduceCtorEq, Nat.reduceLT, Nat.reduceEqDiff, Nat.reduceAdd, Nat.reduceMul, Nat.reduceLeDiff, Nat.reduceBEq, qF_len, hjn2, qF_get hj', subPV_rq, rq_cells, cr, kp1 k175, kp2 k198, Int.natCast_nonneg, Int.toNat_natCast, w1]
      refine ih (j + 1) _ (by omega) (by omega) ?_
      rfl
    obtain rfl : j = nn 0 := by omega
    clear ih
    have w0 : IntKind.i64.wrap ((b.length : Int) - 1) = (b.length : Int) - 1 := IntWalk.i64_in _ (by omega)
    simp only [SA, setCells, Int.reduceLE, Int.reduceLT, ↓reduceIte, reduceCtorEq, Nat.reduceLT, Nat.reduceEqDiff, Nat.reduceAdd, Nat.reduceMul, Nat.reduceLeDiff, Nat.reduceBEq, qF_len, hjn2, w0]
    rw [← lC_zero (c := co MU QQ b.length)]
    refine loop_rule (β := Nat × Store) (fun u => ([(5, .ptr 0 0 0), (7, .ptr 1 0 0), (10, i64 b.length), (11, .own bc 0 b.length), (15, .own τ.length 0 b.length), (16, .ptr (τ.length + 1) 0 0), (18, i64 ((b.length : Int) - 1 - u.1))], u.2))
      (fun u => u.1 ≤ b.length ∧ u.2[0]? = some (.kblk 4 [.p (.bool false), .nils, .p (.bool false), .nils]) ∧ u.2[1]? = some (.kblk 2 [.p (.sl (Ml (gr (nn 0) X) b.length)), .p (.sl (Sl (gr (nn 0) X) b.length))]) ∧ u.2[bc]? = some (.prow 4 (qF b.length AL)) ∧ u.2[τ.length]? = some (.prow 4 (lC b.length (co MU QQ b.length) u.1)) ∧ u.2[τ.length + 1]? = some (.kblk 4 (cr (dF (fun u => t u * t u) QQ ST b.length (nn 0) u.1)))) (fun u => b.length - u.1)
      ((0, τ ++ [.prow 4 (lC b.length (co MU QQ b.length) 0), .kblk 4 (cr (sumR (fun u => t u * t u) (nn 0)))]) : Nat × Store) (by simp only [Int.natCast_zero, Int.sub_zero]; rfl) rfl ⟨Nat.zero_le _, by simp only []; rw [get_left (List.getElem?_eq_some_iff.1 h0).1]; exact h0, by simp only []; rw [get_left (List.getElem?_eq_some_iff.1 h1).1]; exact h1, by simp only []; rw [get_left lc]; exact gc, by simp only []; rw [get_app0]; rfl, by simp only []; rw [get_app]; rfl⟩ ?_
    have hbq : bc < τ.length := lc
    generalize τ.length = q at *
    clear h0 h1 hg gc lc
    rintro ⟨s, τ⟩ ⟨hs, h0, h1, hc, h15, h16⟩ ih
    simp only [] at hs h0 h1 hc h15 h16 ih ⊢
    by_cases hsn : (b.length : Int) - 1 - s ≥ 0
    · have hs' : s < b.length := by omega
      obtain ⟨a, ha⟩ : ∃ a, a = b.length - 1 - s := ⟨_, rfl⟩
      have hab : a < b.length := by omega
      have hI : (b.length : Int) - 1 - s = (a : Int) := by omega
      rw [hI] at hsn ⊢
      have k174 := (VBn.p174 ((hal a hab).rs (by omega)) ((hst a hab).1.rs (by omega)) (hst a hab).2).lift base_le
      rw [hQa a] at k174
      have k175 := (VBn.p175 ((hq a hab).rs (by omega))).lift base_le
      have l0 := (List.getElem?_eq_some_iff.1 h0).1
      have l1 := (List.getElem?_eq_some_iff.1 h1).1
      have lq := (List.getElem?_eq_some_iff.1 h15).1
      have lq1 := (List.getElem?_eq_some_iff.1 h16).1
      have lc : bc < τ.length := by omega
      have e1 : ∀ l, (τ ++ l)[1]? = some (.kblk 2 [.p (.sl (Ml (gr (nn 0) X) b.length)), .p (.sl (Sl (gr (nn 0) X) b.length))]) := fun l => by rw [get_left l1]; exact h1
      have ec : ∀ l, (τ ++ l)[bc]? = some (.prow 4 (qF b.length AL)) := fun l => by rw [get_left lc]; exact hc
      have e16 : ∀ l, (τ ++ l)[q + 1]? = some (.kblk 4 (cr (dF (fun u => t u * t u) QQ ST b.length (nn 0) s))) := fun l => by rw [get_left lq1]; exact h16
      have f16 : ∀ l x, (τ ++ l).set (q + 1) x = τ.set (q + 1) x ++ l := fun l x => set_left lq1
      have hqa : RSn 925695 (QQ a) := by have := hq a hab; rwa [hQa a] at this
      have hsa := (hst a hab).1
      have hd := hdF s (by omega)
      rw [hQa a] at k175
      have q1 := (VBn.p173 ((hqa.mul hqa).rs (by omega)) (hsa.rs (by omega))).lift base_le
      have q2 := (VBn.p172 (hd.rs (by omega)) (((hqa.mul hqa).mul hsa).rs (by omega))).lift base_le
      have hds : dF (fun u => t u * t u) QQ ST b.length (nn 0) s - QQ a * QQ a * ST a = dF (fun u => t u * t u) QQ ST b.length (nn 0) (s + 1) := by rw [dF, ← ha]
      rw [hds, rq_raw (x := dF (fun u => t u * t u) QQ ST b.length (nn 0) s)] at q2
      rw [rq_raw (x := QQ a)] at k175
      have w1 : IntKind.i64.wrap ((a : Int) + 1) = ((a + 1 : Nat) : Int) := by rw [IntWalk.i64_in _ (by omega)]; omega
      have hq0 : q ≠ 0 := by rintro rfl; rw [h0] at h15; cases h15
      have hq1 : q ≠ 1 := by rintro rfl; rw [h1] at h15; cases h15
      simp only [SA, setCells, Int.reduceLE, Int.reduceLT, ↓reduceIte, reduceCtorEq, Nat.reduceLT, Nat.reduceEqDiff, Nat.reduceAdd, Nat.reduceMul, Nat.reduceLeDiff, Nat.reduceBEq, hsn, hab, ec, e1, e16, qF_get hab, hSl a hab, subPV_rq, rq_cells, Int.natCast_nonneg, Int.toNat_natCast, kp2 k174, push_sl, cr, kp1 k175, kp2 q1, kp2 q2, f16, w1]
      have hz0 : QQ a - sumR (fun v => MU (a + 1 + v) a * co MU QQ b.length (a + 1 + v)) 0 = QQ a := by simp only [sumR]; grind
      refine loop_rule (β := Nat) (fun u => ([(5, .ptr 0 0 0), (7, .ptr 1 0 0), (10, i64 b.length), (11, .own bc 0 b.length), (15, .own q 0 b.length), (16, .ptr (q + 1) 0 0), (18, i64 a), (19, .ptr (τ.set (q + 1) (.kblk 4 (cr (dF (fun u => t u * t u) QQ ST b.length (nn 0) (s + 1))))).length 0 0), (20, i64 ((a + 1 + u : Nat) : Int))], τ.set (q + 1) (.kblk 4 (cr (dF (fun u => t u * t u) QQ ST b.length (nn 0) (s + 1)))) ++ [.kblk 4 (cr (QQ a - sumR (fun v => MU (a + 1 + v) a * co MU QQ b.length (a + 1 + v)) u))])) (fun u => u ≤ s) (fun u => s - u) 0 (by simp only [List.length_set]; rfl) (by simp only []; rw [hz0]; rfl) (Nat.zero_le _) ?_
      have g0 : (τ.set (q + 1) (.kblk 4 (cr (dF (fun u => t u * t u) QQ ST b.length (nn 0) (s + 1)))))[0]? = _ := (get_ne (by omega)).trans h0
      have g1 : (τ.set (q + 1) (.kblk 4 (cr (dF (fun u => t u * t u) QQ ST b.length (nn 0) (s + 1)))))[1]? = _ := (get_ne (by omega)).trans h1
      have gc : (τ.set (q + 1) (.kblk 4 (cr (dF (fun u => t u * t u) QQ ST b.length (nn 0) (s + 1)))))[bc]? = _ := (get_ne (by omega)).trans hc
      have gq : (τ.set (q + 1) (.kblk 4 (cr (dF (fun u => t u * t u) QQ ST b.length (nn 0) (s + 1)))))[q]? = _ := (get_ne (by omega)).trans h15
      have gq1 : (τ.set (q + 1) (.kblk 4 (cr (dF (fun u => t u * t u) QQ ST b.length (nn 0) (s + 1)))))[q + 1]? = _ := get_self lq1
      generalize τ.set (q + 1) (.kblk 4 (cr (dF (fun u => t u * t u) QQ ST b.length (nn 0) (s + 1)))) = σ at *
      clear h0 h1 hc h15 h16 l0 l1 lq lq1 lc e1 ec e16 f16
      have lq := (List.getElem?_eq_some_iff.1 gq).1
      have l1 := (List.getElem?_eq_some_iff.1 g1).1
      have e1 : ∀ l, (σ ++ l)[1]? = some (.kblk 2 [.p (.sl (Ml (gr (nn 0) X) b.length)), .p (.sl (Sl (gr (nn 0) X) b.length))]) := fun l => by rw [get_left l1]; exact g1
      have eq : ∀ l, (σ ++ l)[q]? = some (.prow 4 (lC b.length (co MU QQ b.length) s)) := fun l => by rw [get_left lq]; exact gq
      have sq : ∀ l x, (σ ++ l).set q x = σ.set q x ++ l := fun l x => set_left lq
      intro u hu ih2
      simp only [] at hu ih2 ⊢
      have hps := co_sz hmu hq' hbm hs' hu
      rw [← ha] at hps
      by_cases hun : ((a + 1 + u : Nat) : Int) < b.length
      · have hu' : a + 1 + u < b.length := by omega
        have s1 := hmu (a + 1 + u) a (by omega) hu'
        have s2 := hco (a + 1 + u) hu'
        have q1 := (VBn.p173 (s1.rs (by omega)) (s2.rs (by omega))).lift base_le
        have q2 := (VBn.p172 (hps.rs (by omega)) ((s1.mul s2).rs (by omega))).lift base_le
        rw [show QQ a - sumR (fun v => MU (a + 1 + v) a * co MU QQ b.length (a + 1 + v)) u - MU (a + 1 + u) a * co MU QQ b.length (a + 1 + u) = QQ a - sumR (fun v => MU (a + 1 + v) a * co MU QQ b.length (a + 1 + v)) (u + 1) by rw [sumR]; grind, rq_raw (x := QQ a - sumR (fun v => MU (a + 1 + v) a * co MU QQ b.length (a + 1 + v)) u)] at q2
        have w2 : IntKind.i64.wrap (((a + 1 + u : Nat) : Int) + 1) = ((a + 1 + (u + 1) : Nat) : Int) := by rw [IntWalk.i64_in _ (by omega)]; omega
        simp only [SA, setCells, Int.reduceLE, Int.reduceLT, ↓reduceIte, reduceCtorEq, Nat.reduceLT, Nat.reduceEqDiff, Nat.reduceAdd, Nat.reduceMul, Nat.reduceLeDiff, Nat.reduceBEq, hun, hu', e1, eq, hMl _ hu', hUl _ a (show a < a + 1 + u by omega), lC_get hu' (show b.length - s ≤ a + 1 + u by omega), subPV_rq, rq_cells, cr, kp2 q1, kp2 q2, Int.natCast_nonneg, Int.toNat_natCast, w2]
        refine ih2 (u + 1) _ (by omega) (by omega) ?_
        rfl
      · obtain rfl : u = s := by omega
        clear ih2
        have hcs : QQ a - sumR (fun v => MU (a + 1 + v) a * co MU QQ b.length (a + 1 + v)) u = co MU QQ b.length a := by rw [ha]; exact (co_step hs').symm
        have hraw : PV.agg [.bool (decide ((co MU QQ b.length a).num < 0) && decide ((co MU QQ b.length a).num.natAbs ≠ 0)), .sl (lm (dgl (co MU QQ b.length a).num.natAbs)), .bool false, .sl (lm (dgl (co MU QQ b.length a).den))] = rq (co MU QQ b.length a) := rfl
        obtain ⟨x1, x2, x3, x4, hx⟩ := lC_any (M := b.length) (s := u) (a := a) (c := co MU QQ b.length) hab
        have hset := lC_set (c := co MU QQ b.length) hs'
        rw [← ha] at hset
        have w3 : IntKind.i64.wrap ((a : Int) - 1) = (b.length : Int) - 1 - ((u + 1 : Nat) : Int) := by rw [IntWalk.i64_in _ (by omega)]; omega
        rw [hcs]
        simp only [SA, setCells, Int.reduceLE, Int.reduceLT, ↓reduceIte, reduceCtorEq, Nat.reduceLT, Nat.reduceEqDiff, Nat.reduceAdd, Nat.reduceMul, Nat.reduceLeDiff, Nat.reduceBEq, hun, hab, eq, cr, hraw, rq_cells, hx, updPV_rq, sq, hset, lC_len, Int.natCast_nonneg, Int.toNat_natCast, w3]
        have m0 : ∀ (k : Nat) (x y : Blk) (l : Store), k ≠ q → σ[k]? = some x → (σ.set q y ++ l)[k]? = some x := fun k x y l hk h => by
          rw [get_left (by rw [List.length_set]; exact (List.getElem?_eq_some_iff.1 h).1), get_ne (Ne.symm hk)]
          exact h
        refine ih (u + 1, σ.set q (.prow 4 (lC b.length (co MU QQ b.length) (u + 1))) ++ [.kblk 4 (cr (co MU QQ b.length a))]) _ ⟨by simp only []; omega, m0 _ _ _ _ (by omega) g0, m0 _ _ _ _ (by omega) g1, m0 _ _ _ _ (by omega) gc, ?_, m0 _ _ _ _ (by omega) gq1⟩ (by simp only []; omega) ?_
        · simp only []
          rw [get_left (by rw [List.length_set]; exact lq), get_self lq]
        · rfl
    · obtain rfl : s = b.length := by omega
      have l0 := (List.getElem?_eq_some_iff.1 h0).1
      have e0' : ∀ x, (τ.set 0 x)[0]? = some x := fun x => get_self l0
      have hqq0 : q ≠ 0 := by rintro rfl; rw [h0] at h15; cases h15
      have hraw : PV.agg [.bool (decide ((dF (fun u => t u * t u) QQ ST b.length (nn 0) b.length).num < 0) && decide ((dF (fun u => t u * t u) QQ ST b.length (nn 0) b.length).num.natAbs ≠ 0)), .sl (lm (dgl (dF (fun u => t u * t u) QQ ST b.length (nn 0) b.length).num.natAbs)), .bool false, .sl (lm (dgl (dF (fun u => t u * t u) QQ ST b.length (nn 0) b.length).den))] = rq (dF (fun u => t u * t u) QQ ST b.length (nn 0) b.length) := rfl
      have gq : ∀ x, GL (τ.set 0 x) 4 (.own q 0 b.length) (qF b.length (co MU QQ b.length)) := fun x => GL.at qF_len (by rw [get_ne (Ne.symm hqq0), h15, lC_all])
      simp only [SA, setCells, Int.reduceLE, Int.reduceLT, ↓reduceIte, reduceCtorEq, Nat.reduceLT, Nat.reduceEqDiff, Nat.reduceAdd, Nat.reduceMul, Nat.reduceLeDiff, Nat.reduceBEq, hsn, h16, cr, h0, e0', hraw, rq_cells]
      have hfq := fun x => (gq x).frz1
      refine back_t3 ?_ back1_p back1_p
      have hf1 := hfq
      simp only [frz1] at hf1
      simp only [back1, frz, frzL, hfq]
      try simp [hf1]
end
end Go.Proofs.YtdieenbfdeaffaaGreat.VDd

namespace Go.Proofs.YtdieenbfdeaffaaGreat.VDd
open Go Vpi
open VBn hiding rp tab rp_ok all_ok mixed sim Big
set_option maxRecDepth 100000
set_option linter.unusedSimpArgs false
set_option linter.unusedVariables false
open Gs (V Dv Pos dI sk cI sumI sumR U rg)
theorem rp28 : rp 28 = some f28 := rfl
theorem rp11 : rp 11 = some f11 := rfl
section
variable {b : List PV} {nn : Nat → Nat} {N : Nat} {X : Nat → Nat → Int}
theorem p28 (hb : MR b nn X) (hlb : b.length ≤ 2000000) (hv : vE nn X b.length = 0) : Pu rp 28 [.sl b] (.tup [.p (.agg [.sl (zF (b.length + 1) (Dv (gr (nn 0) X))), .sl (eL (gr (nn 0) X) b.length)]), .p (.int .i64 0)]) := by
  have k110 := (VBn.p110ok hb hlb hv).lift base_le
  have k64 := p64 (vb_of hb hv)
  refine pu_of rp28 ?_
  simp only [f28, args0, SA, setCells, Int.reduceLE, Int.reduceLT, ↓reduceIte, reduceCtorEq, Nat.reduceLT, Nat.reduceEqDiff, Nat.reduceAdd, Nat.reduceMul, Nat.reduceLeDiff, Nat.reduceBEq, kp2 k110, bne_self_eq_false, kp1 k64]
  exact back_t2 back1_p back1_p
def un1 (k j : Nat) : Rat := if j = k then 1 else 0
theorem un1_sum {k : Nat} {x : Nat → Int} : ∀ {j : Nat}, sumR (fun u => un1 k u * (x u : Rat)) j = ((if k < j then x k else 0 : Int) : Rat)
  | 0 => rfl
  | j + 1 => by
    rw [sumR, un1_sum]
    unfold un1
    rcases Nat.lt_trichotomy j k with h | h | h
    · rw [if_neg (by omega), if_neg (by omega), if_neg (by omega)]
      show (0 : Rat) + 0 * _ = 0
      grind
    · subst h
      rw [if_neg (by omega), if_pos rfl, if_pos (by omega)]
      show (0 : Rat) + 1 * _ = _
      grind
    · rw [if_pos h, if_neg (by omega), if_pos (by omega)]
      grind
theorem un1_sq {k : Nat} : ∀ {j : Nat}, sumR (fun u => un1 k u * un1 k u) j = ((if k < j then 1 else 0 : Int) : Rat) := by
  intro j
  have h := un1_sum (k := k) (x := fun _ => 1) (j := j)
  rw [← h]
  refine Gs.sumR_congr fun u _ => ?_
  unfold un1
  split
  · show (1 : Rat) * 1 = 1 * 1; rfl
  · show (0 : Rat) * 0 = 0 * _; grind
theorem un1_sz {k j : Nat} : RSn 1 (un1 k j) := by
  unfold un1
  split
  · exact RSn.int (x := 1) (by unfold Sk; decide) (Nat.le_refl 1)
  · exact RSn.int (x := 0) (by unfold Sk; decide) (Nat.le_refl 1)
theorem p30 {n k : Nat} (hn : n ≤ 12) : Pu rp 30 [.int .i64 n, .int .i64 k] (.p (.sl (qF n (un1 k)))) := by
  have k66 := (VBn.p66 (x := 1) (by decide) (by decide)).lift base_le
  have k27 := (VBn.p27 (Nu.zi (x := 1) (Sz.small (by decide)))).lift base_le
  have k27z := (VBn.p27 nu0).lift base_le
  rw [show ((1 : Int) : Rat) = 1 from rfl] at k27
  rw [show ((0 : Int) : Rat) = 0 from rfl] at k27z
  refine pu_of rp30 ?_
  simp only [f30, args0, SA, setCells, Int.reduceLE, Int.reduceLT, ↓reduceIte, reduceCtorEq, Nat.reduceLT, Nat.reduceEqDiff, Nat.reduceAdd, Nat.reduceMul, Nat.reduceLeDiff, Nat.reduceBEq]
  refine loop_rule (β := Nat × Store × CV) (fun t => ([(0, i64 n), (1, i64 k), (5, t.2.2), (6, i64 t.1)], t.2.1)) (fun t => t.1 ≤ n ∧ GL t.2.1 4 t.2.2 (qF t.1 (un1 k))) (fun t => n - t.1) ((0, [], .nils) : Nat × Store × CV) rfl rfl ⟨Nat.zero_le _, .nil⟩ ?_
  rintro ⟨j, τ, c⟩ ⟨hj, hg⟩ ih
  simp only [] at hj hg ih ⊢
  by_cases hjn : (j : Int) < n
  · have w1 : IntKind.i64.wrap ((j : Int) + 1) = ((j + 1 : Nat) : Int) := by rw [IntWalk.i64_in _ (by omega)]; omega
    have hsuc := qF_suc (n := j) (f := un1 k)
    by_cases hjk : j = k
    · subst hjk
      have hu : un1 j j = 1 := by unfold un1; rw [if_pos rfl]
      have hc : ((qF j (un1 j)).length + [rq 1].length) * 64 ≤ 140737488355328 := by rw [qF_len]; simp; omega
      rw [hu] at hsuc
      simp only [SA, setCells, Int.reduceLE, Int.reduceLT, ↓reduceIte, reduceCtorEq, Nat.reduceLT, Nat.reduceEqDiff, Nat.reduceAdd, Nat.reduceMul, Nat.reduceLeDiff, Nat.reduceBEq, hjn, beq_self_eq_true, kp1 k66, kp1 k27, r_app hg hc, hsuc, qF_len, rq_cells, w1]
      refine ih (j + 1, nd τ c ++ [.prow 4 [rq 1], .prow 4 (qF (j + 1) (un1 j))], .own (τ.length + 1) 0 (j + 1)) _ ⟨by simp only []; omega, GL.at qF_len ((get_at nd_len).trans rfl)⟩ (by simp only []; omega) ?_
      rfl
    · have hu : un1 k j = 0 := by unfold un1; rw [if_neg hjk]
      have e2 : ((j : Int) == (k : Int)) = false := by rw [beq_eq_false_iff_ne]; omega
      have hc : ((qF j (un1 k)).length + [rq 0].length) * 64 ≤ 140737488355328 := by rw [qF_len]; simp; omega
      rw [hu] at hsuc
      simp only [SA, setCells, Int.reduceLE, Int.reduceLT, ↓reduceIte, reduceCtorEq, Nat.reduceLT, Nat.reduceEqDiff, Nat.reduceAdd, Nat.reduceMul, Nat.reduceLeDiff, Nat.reduceBEq, hjn, e2, kc_pu k27z (show toPs [CV.agg [CV.p (.bool false), .nils]] = some [.agg [.bool false, .sl []]] from rfl), r_app hg hc, hsuc, qF_len, rq_cells, w1]
      refine ih (j + 1, nd τ c ++ [.prow 4 [rq 0], .prow 4 (qF (j + 1) (un1 k))], .own (τ.length + 1) 0 (j + 1)) _ ⟨by simp only []; omega, GL.at qF_len ((get_at nd_len).trans rfl)⟩ (by simp only []; omega) ?_
      rfl
  · obtain rfl : j = n := by omega
    simp only [SA, setCells, Int.reduceLE, Int.reduceLT, ↓reduceIte, reduceCtorEq, Nat.reduceLT, Nat.reduceEqDiff, Nat.reduceAdd, Nat.reduceMul, Nat.reduceLeDiff, Nat.reduceBEq, hjn]
    exact hg.back
end
end Go.Proofs.YtdieenbfdeaffaaGreat.VDd

namespace Go.Proofs.YtdieenbfdeaffaaGreat.VDd
open Go Vpi
open VBn hiding rp tab rp_ok all_ok mixed sim Big
set_option maxRecDepth 100000
set_option linter.unusedSimpArgs false
set_option linter.unusedVariables false
open Gs (V Dv Pos dI sk cI sumI sumR U rg)
structure Fs (B : Nat) (D : Int) (τ : Store) (cs : List CV) (R : Nat → List PV) : Prop where
  h0 : τ[0]? = some (.kblk 2 [.p (.bool false), .nils])
  h2 : τ[2]? = some (.kblk 2 (cz D))
  h3 : τ[3]? = some (.kblk 1 cs)
  ro : RowsL τ cs B R
theorem Fs.push {B : Nat} {D : Int} {τ : Store} {cs : List CV} {R : Nat → List PV} (h : Fs B D τ cs R) {l : Store} : Fs B D (τ ++ l) cs R := by
  obtain ⟨a0, a2, a3, r⟩ := h
  exact ⟨by rw [get_left (List.getElem?_eq_some_iff.1 a0).1]; exact a0, by rw [get_left (List.getElem?_eq_some_iff.1 a2).1]; exact a2, by rw [get_left (List.getElem?_eq_some_iff.1 a3).1]; exact a3, r.app⟩
theorem Fs.congr {B : Nat} {D : Int} {τ : Store} {cs : List CV} {R R' : Nat → List PV} (h : Fs B D τ cs R) (hr : ∀ a, a < B → R a = R' a) : Fs B D τ cs R' :=
  ⟨h.h0, h.h2, h.h3, ⟨h.ro.len, fun a ha => by obtain ⟨c, h1, h2⟩ := h.ro.row a ha; exact ⟨c, h1, hr a ha ▸ h2⟩, h.ro.ne⟩⟩
theorem Fs.grow {B i : Nat} {D : Int} {τ : Store} {cs : List CV} {R : Nat → List PV} {c : CV} {es es' : List PV} (h : Fs B D τ cs R) (hi : i < B) (hc : cs[i]? = some c) (hg : GL τ 2 c es) {l : Store} {t k : Nat} (hl : l[t]? = some (.prow 2 es')) (hk : k = es'.length) :
    Fs B D ((nd τ c).set 3 (.kblk 1 (cs.set i (.own (τ.length + t) 0 k))) ++ l) (cs.set i (.own (τ.length + t) 0 k)) (fun a => if a = i then es' else R a) := by
  obtain ⟨a0, a2, a3, r⟩ := h
  have l3 : 3 < (nd τ c).length := by rw [nd_len]; exact (List.getElem?_eq_some_iff.1 a3).1
  have g3 : (nd τ c ++ l)[3]? = some (.kblk 1 cs) := GL.kb hg a3
  have hr := (r.grow hi hc hg hl hk).setk g3 (x := .kblk 1 (cs.set i (.own (τ.length + t) 0 k)))
  rw [set_left l3] at hr
  have e : ∀ s j xs, j ≠ 3 → τ[j]? = some (.kblk s xs) → ((nd τ c).set 3 (.kblk 1 (cs.set i (.own (τ.length + t) 0 k))) ++ l)[j]? = some (.kblk s xs) := fun s j xs hj hx => by
    rw [← set_left l3, get_ne (Ne.symm hj)]
    exact GL.kb hg hx
  exact ⟨e _ _ _ (by decide) a0, e _ _ _ (by decide) a2, by rw [get_left (by rw [List.length_set]; exact l3), get_self l3], hr⟩
section
variable {b m : List PV} {nn : Nat → Nat} {N L : Nat} {X Y : Nat → Nat → Int}
theorem dual_co (h : Vb b N X) {j k : Nat} (hj : j < b.length) :
    co (mu (gr N X)) (fun a => al (mu (gr N X)) (fun i => ((X i k : Int) : Rat)) a / star (gr N X) a) b.length j * ((dI b.length (gr N X) : Int) : Rat) = ((dmM b.length N X j k : Int) : Rat) := by
  obtain ⟨n, hn⟩ : ∃ n, b.length = n + 1 := ⟨b.length - 1, by have := h.ne; omega⟩
  have hp := h.pos
  rw [hn] at hp hj ⊢
  rw [co_det gr_symm hp hj]
  congr 1
  unfold dmM
  exact Gs.sumI_congr fun t _ => Int.mul_comm _ _
theorem co_sz29 (h : Vb b N X) {tt : Nat → Rat} (htt : ∀ i, i < b.length → RSn 8 (tt i)) {j : Nat} (hj : j < b.length) : RSn 3800000000 (co (mu (gr N X)) (fun a => al (mu (gr N X)) tt a / star (gr N X) a) b.length j) := by
  have hbm := h.bs.m
  have hmu : ∀ i j, j < i → i < b.length → RSn 217 (mu (gr N X) i j) := fun i j hj hi => mu_rs h.bs (h.pos.mono (by omega)) (by omega) hi
  have hst : ∀ k, k < b.length → RSn 217 (star (gr N X) k) ∧ star (gr N X) k ≠ 0 := fun k hk => ⟨U_rs h.bs (h.pos.mono (by omega)) (Nat.le_refl k) (Nat.le_refl k) hk hk, by have := star_pos gr_symm (h.pos.mono (m := k + 1) (by omega)); grind⟩
  have hal : ∀ i, i < b.length → RSn 925478 (al (mu (gr N X)) tt i) := fun i hi => (al_sz hmu htt hi).mono (zA_le (by omega))
  exact co_all (q := fun a => al (mu (gr N X)) tt a / star (gr N X) a) hmu (fun i hi => ((hal i hi).div (hst i hi).1 (hst i hi).2).mono (by decide)) hbm hj
theorem f11p (hb : MR b nn X) (hlb : b.length ≤ 2000000) (hv : vE nn X b.length = 0) (hN : nn 0 = N) : Pu rp 11 [.sl b] (.tup [.p (.sl (zM b.length N (dmM b.length N X))), .p (zi (dI b.length (gr N X)))]) := by
  subst hN
  have hV := vb_of hb hv
  have k28 := p28 hb hlb hv
  have hbm := hV.bs.m
  have hbn := hV.bs.n
  have hb0 := hV.ne
  obtain ⟨n, hn⟩ : ∃ n, b.length = n + 1 := ⟨b.length - 1, by omega⟩
  have hDI : Dv (gr (nn 0) X) b.length = dI b.length (gr (nn 0) X) := (Gs.dI_Dv gr_symm hV.pos).symm
  have hDs := dI_sk (by omega) (gr_sk hV.bs hn)
  rw [← hn] at hDs
  obtain ⟨r0, g1, g2, g3⟩ := hV.bs.row 0 (by omega)
  have i0 : Int.toNat 0 = 0 := rfl
  have hzD := zF_get (n := b.length + 1) (f := Dv (gr (nn 0) X)) (show b.length < b.length + 1 by omega)
  rw [hDI] at hzD
  have w0 : IntKind.i64.wrap (((b.length + 1 : Nat) : Int) - 1) = (b.length : Int) := by rw [IntWalk.i64_in _ (by omega)]; omega
  have m1 : ((24 : Nat) : Int) * (b.length : Int) ≤ 281474976710656 := by omega
  have m2 : (b.length : Int) ≤ 9223372036854775807 := by omega
  have hb1 : b.length < b.length + 1 := by omega
  refine pu_of rp11 ?_
  simp only [f11, args0, SA, setCells, Int.reduceLE, Int.reduceLT, ↓reduceIte, reduceCtorEq, Nat.reduceLT, Nat.reduceEqDiff, Nat.reduceAdd, Nat.reduceMul, Nat.reduceLeDiff, Nat.reduceBEq, kp1 k28, zF_len, w0, hzD, hb1, subPV_zi, Int.natCast_nonneg, Int.toNat_natCast, m1, m2, Int.le_refl]
  have hPs : ∀ j c, j < b.length → c < nn 0 → Sk 226 (dmM b.length (nn 0) X j c) := fun j c hj hc => by
    rw [hn] at hj ⊢
    exact dm_sk hV.bs hn hj hc
  generalize hDD : dI b.length (gr (nn 0) X) = D at *
  generalize hP : dmM b.length (nn 0) X = P at *
  refine loop_rule (β := Nat × Store) (fun u => ([(0, .p (.sl b)), (3, .ptr 0 0 0), (6, .ptr 2 0 0), (7, .own 3 0 b.length), (8, i64 u.1)], u.2)) (fun u => u.1 ≤ nn 0 ∧ ∃ cs, Fs b.length D u.2 cs (fun a => zF u.1 (P a))) (fun u => nn 0 - u.1)
    ((0, [.kblk 2 [.p (.bool false), .nils], .kblk 2 [.p (.sl (zF (b.length + 1) (Dv (gr (nn 0) X)))), .p (.sl (eL (gr (nn 0) X) b.length))], .kblk 2 (cz D), .kblk 1 (List.replicate b.length .nils)]) : Nat × Store) rfl rfl ⟨Nat.zero_le _, List.replicate b.length .nils, rfl, rfl, rfl, ⟨List.length_replicate, fun a ha => ⟨.nils, by simp [ha], .nil⟩, fun a a' q q' o o' k k' _ h1 => ?_⟩⟩ ?_
  · rw [List.getElem?_replicate] at h1
    split at h1 <;> cases h1
  rintro ⟨k, τ⟩ ⟨hk, cs, hF⟩ ih
  simp only [] at hk hF ih ⊢
  by_cases hkn : (k : Int) < (r0.length : Int)
  · rw [g2] at hkn
    have hk' : k < nn 0 := by omega
    have k30 := p30 (n := nn 0) (k := k) hbn
    obtain ⟨dist, k29⟩ := p29 (tt := fun i => ((X i k : Int) : Rat)) (t := un1 k) hb hlb hv rfl
      (fun j _ => ⟨un1_sz.rs (by omega), (un1_sz.mul un1_sz).rs (by omega)⟩)
      (fun j _ => by rw [un1_sq]; exact (RSn.int (n := 1) (by unfold Sk; split <;> decide) (by decide)).mono (by decide))
      (fun i hi => RSn.int (hV.bs.sz i k hi hk') (by decide))
      (fun i hi => by
        obtain ⟨r, h1, h2, h3⟩ := hV.bs.row i hi
        refine ⟨r, h1, ?_⟩
        have := p66 (n := nn 0) (t := un1 k) h3 h2 hbn (fun j hj => ⟨un1_sz.rs (by omega), (RSn.int (hV.bs.sz i j hi hj) (by decide)).rs (by omega), (un1_sz.mul (RSn.int (hV.bs.sz i j hi hj) (by decide))).rs (by omega)⟩) (fun j hj => by
          rw [un1_sum]
          refine (RSn.int (n := 8) ?_ (by decide)).rs (by omega)
          split
          · exact hV.bs.sz i k hi hk'
          · unfold Sk; decide)
        rw [un1_sum, if_pos hk'] at this
        exact this)
    have w1 : IntKind.i64.wrap ((k : Int) + 1) = ((k + 1 : Nat) : Int) := by rw [IntWalk.i64_in _ (by omega)]; omega
    have hdco : ∀ j, j < b.length → co (mu (gr (nn 0) X)) (fun a => al (mu (gr (nn 0) X)) (fun i => ((X i k : Int) : Rat)) a / star (gr (nn 0) X) a) b.length j * ((D : Int) : Rat) = ((P j k : Int) : Rat) := fun j hj => by
      rw [← hDD, ← hP]; exact dual_co hV hj
    have hcs : ∀ j, j < b.length → RSn 3800000000 (co (mu (gr (nn 0) X)) (fun a => al (mu (gr (nn 0) X)) (fun i => ((X i k : Int) : Rat)) a / star (gr (nn 0) X) a) b.length j) := fun j hj => co_sz29 hV (fun i hi => RSn.int (hV.bs.sz i k hi hk') (by decide)) hj
    generalize co (mu (gr (nn 0) X)) (fun a => al (mu (gr (nn 0) X)) (fun i => ((X i k : Int) : Rat)) a / star (gr (nn 0) X) a) b.length = C at *
    simp only [SA, setCells, Int.reduceLE, Int.reduceLT, ↓reduceIte, reduceCtorEq, Nat.reduceLT, Nat.reduceEqDiff, Nat.reduceAdd, Nat.reduceMul, Nat.reduceLeDiff, Nat.reduceBEq, g1, i0, g2, hkn, kp2 k30, kp2 k29, rq_cells, Int.natCast_nonneg, Int.toNat_natCast]
    refine loop_rule (β := Nat × Store) (fun u => ([(0, .p (.sl b)), (3, .ptr 0 0 0), (6, .ptr 2 0 0), (7, .own 3 0 b.length), (8, i64 k), (9, .p (.sl (qF b.length C))), (12, i64 u.1)], u.2)) (fun u => u.1 ≤ b.length ∧ ∃ cs, Fs b.length D u.2 cs (fun a => if a < u.1 then zF (k + 1) (P a) else zF k (P a))) (fun u => b.length - u.1)
      ((0, τ ++ [.kblk 4 (cr dist)]) : Nat × Store) rfl rfl ⟨Nat.zero_le _, cs, (hF.congr fun a _ => by rw [if_neg (Nat.not_lt_zero a)]).push⟩ ?_
    clear hF
    rintro ⟨j, τ⟩ ⟨hj, cs, hF⟩ ih2
    simp only [] at hj hF ih2 ⊢
    by_cases hjn : (j : Int) < (b.length : Int)
    · have hj' : j < b.length := by omega
      have w2 : IntKind.i64.wrap ((j : Int) + 1) = ((j + 1 : Nat) : Int) := by rw [IntWalk.i64_in _ (by omega)]; omega
      obtain ⟨c, c1, c2⟩ := hF.ro.row j hj'
      rw [if_neg (Nat.lt_irrefl j)] at c2
      have hcl := hF.ro.len
      have k27 := (VBn.p27 (Nu.zi (hDs.sz (by omega)))).lift base_le
      rw [zi_raw (x := D)] at k27
      have k173 := (VBn.p173 ((hcs j hj').rs (by omega)) ((RSn.int hDs (by omega)).rs (by omega))).lift base_le
      rw [hdco j hj'] at k173
      have k31 : Pu rp 31 [rq ((P j k : Int) : Rat)] (.p (zi (P j k))) := by
        have := p31 ((RSn.int (hPs j k hj' hk') (by decide)).rs (by omega))
        rwa [show ((P j k : Int) : Rat).num / ((((P j k : Int) : Rat).den : Nat) : Int) = P j k from lf_int] at this
      have hc : ((zF k (P j)).length + [zi (P j k)].length) * 32 ≤ 140737488355328 := by
        rw [show (zF k (P j)).length = k from zF_len, show [zi (P j k)].length = 1 from rfl]
        exact Nat.le_trans (Nat.mul_le_mul_right 32 (show k + 1 ≤ 14 by omega)) (by decide)
      have hsuc := zF_suc (n := k) (f := P j)
      have a2 : ∀ l, (τ ++ l)[2]? = some (.kblk 2 (cz D)) := fun l => hF.push.h2
      have a3 : ∀ l, (τ ++ l)[3]? = some (.kblk 1 cs) := fun l => hF.push.h3
      have b3 : ∀ l, (nd τ c ++ l)[3]? = some (.kblk 1 cs) := fun l => GL.kb c2 hF.h3
      have l3 : 3 < (nd τ c).length := by rw [nd_len]; exact (List.getElem?_eq_some_iff.1 hF.h3).1
      have s3 : ∀ l x, (nd τ c ++ l).set 3 x = (nd τ c).set 3 x ++ l := fun l x => set_left l3
      have c1' : cs[j * 1]? = some c := by rw [Nat.mul_one]; exact c1
      have hs1 : setCells cs (j * 1) [.own (τ.length + 1) 0 (k + 1)] = cs.set j (.own (τ.length + 1) 0 (k + 1)) := setC1 (by omega)
      have l1 : j * 1 + 1 ≤ cs.length := by omega
      simp only [SA, Int.reduceLE, Int.reduceLT, ↓reduceIte, reduceCtorEq, Nat.reduceLT, Nat.reduceEqDiff, Nat.reduceAdd, Nat.reduceMul, Nat.reduceLeDiff, Nat.reduceBEq, hjn, a2, a3, c1', hj', qF_get hj', subPV_rq, rq_cells, List.length_cons, List.length_nil, cz, kz1 k27, kz2 k173, kp1 k31, Int.natCast_nonneg, Int.toNat_natCast, push_sl, r_app_h2 c2 hc, hsuc, zF_len, b3, s3, hs1, l1, w2]
      have el3 := GL.elem c2 hF.h3
      have el2 := GL.elem c2 hF.h2
      have em3 : ¬ 3 ∈ ownsOf c := fun h => by rw [List.elem_iff.2 h] at el3; cases el3
      have em2 : ¬ 2 ∈ ownsOf c := fun h => by rw [List.elem_iff.2 h] at el2; cases el2
      have oo : ∀ b o n, ownsOf (.own b o n) = [b] := fun _ _ _ => rfl
      have op : ∀ v, ownsOf (.p v) = [] := fun _ => rfl
      have ot : ∀ b i o, ownsOf (.ptr b i o) = [] := fun _ _ _ => rfl
      rw [r_nilx]
      refine ⟨by simp [apartAt, apartB, foot, addrs, oo, op, ot, vl, gt, em3, em2], ?_⟩
      have hg := hF.grow hj' c1 c2 (l := [.prow 2 [zi (P j k)], .prow 2 (zF (k + 1) (P j))]) (t := 1) (k := k + 1) rfl zF_len.symm
      simp only [SA, setCells, Int.reduceLE, Int.reduceLT, ↓reduceIte, reduceCtorEq, Nat.reduceLT, Nat.reduceEqDiff, Nat.reduceAdd, Nat.reduceMul, Nat.reduceLeDiff, Nat.reduceBEq, w2]
      refine ih2 (j + 1, _) _ ⟨by simp only []; omega, _, hg.congr fun a ha => ?_⟩ (by simp only []; omega) ?_
      · by_cases h : a = j
        · subst h
          rw [if_pos rfl, if_pos (Nat.lt_succ_self a)]
        · rw [if_neg h]
          by_cases h' : a < j
          · rw [if_pos h', if_pos (by omega)]
          · rw [if_neg h', if_neg (by omega)]
      · rfl
    · obtain rfl : j = b.length := by omega
      simp only [SA, setCells, Int.reduceLE, Int.reduceLT, ↓reduceIte, reduceCtorEq, Nat.reduceLT, Nat.reduceEqDiff, Nat.reduceAdd, Nat.reduceMul, Nat.reduceLeDiff, Nat.reduceBEq, hjn, w1]
      refine ih (k + 1, τ) _ ⟨by simp only []; omega, cs, hF.congr fun a ha => if_pos ha⟩ (by simp only []; omega) ?_
      rfl
  · obtain rfl : k = nn 0 := by omega
    clear ih
    rw [g2] at hkn
    have l0 := (List.getElem?_eq_some_iff.1 hF.h0).1
    have e0 : ∀ x, (τ.set 0 x)[0]? = some x := fun x => get_self l0
    simp only [SA, setCells, Int.reduceLE, Int.reduceLT, ↓reduceIte, reduceCtorEq, Nat.reduceLT, Nat.reduceEqDiff, Nat.reduceAdd, Nat.reduceMul, Nat.reduceLeDiff, Nat.reduceBEq, g1, i0, g2, hkn, hF.h2, hF.h0, cz, e0]
    have r1 := hF.ro.setk hF.h0 (x := .kblk 2 (cz D))
    have hk3 : (τ.set 0 (.kblk 2 (cz D)))[3]? = some (.kblk 1 cs) := by rw [get_ne (by decide)]; exact hF.h3
    have hk0 : (τ.set 0 (.kblk 2 (cz D)))[0]? = some (.kblk 2 (cz D)) := get_self l0
    generalize hτ1 : τ.set 0 (.kblk 2 (cz D)) = τ1 at *
    have hfr : frzL τ1 cs = some (zM b.length (nn 0) P) := by
      rw [RowsL.frzL r1.len r1.row]
      rfl
    simp only [cz] at hτ1
    rw [hτ1]
    rw [ex_frzk (b := 3) (o := 0) (n := b.length) rfl hk3 hfr zM_isSl (r1.notin hk3)]
    have g0' : ((killL τ1 cs).set 3 (.prow 1 (zM b.length (nn 0) P)))[0]? = some (.kblk 2 (cz D)) := by rw [get_ne (by decide), killL_get (r1.killL hk0)]; exact hk0
    have g3' : ((killL τ1 cs).set 3 (.prow 1 (zM b.length (nn 0) P)))[3]? = some (.prow 1 (zM b.length (nn 0) P)) := get_self (by rw [killL_len]; exact (List.getElem?_eq_some_iff.1 hk3).1)
    generalize (killL τ1 cs).set 3 (.prow 1 (zM b.length (nn 0) P)) = τ2 at *
    have hraw := (zi_raw (x := D)).symm
    simp only [SA, setCells, Int.reduceLE, Int.reduceLT, ↓reduceIte, reduceCtorEq, Nat.reduceLT, Nat.reduceEqDiff, Nat.reduceAdd, Nat.reduceMul, Nat.reduceLeDiff, Nat.reduceBEq, g0', cz, hraw]
    exact back_t2 (GL.own g3' zM_len.symm).back1 back1_p
end
end Go.Proofs.YtdieenbfdeaffaaGreat.VDd

namespace Go.Proofs.YtdieenbfdeaffaaGreat.VDd
open Go Vpi
open VBn hiding rp tab rp_ok all_ok mixed sim Big
set_option maxRecDepth 100000
set_option linter.unusedSimpArgs false
set_option linter.unusedVariables false
open Gs (V Dv Pos dI sk cI sumI)
theorem rp12 : rp 12 = some f12 := rfl
section
variable {b m : List PV} {nn : Nat → Nat} {X Y : Nat → Nat → Int} {L N : Nat}
theorem p12 (hV : Vb b N X) (hmL : m.length = L) (hL : L ≤ 2000000) (hm : ∀ j, j < L → ∃ s, m[j]? = some (.sl s) ∧ s.length = N ∧ NuR s (Y j))
    (hz : ∀ i j k, i < b.length → j < L → k ≤ N → Sz (dotI (X i) (Y j) k)) (hz2 : ∀ i j k, i < b.length → j < L → k < N → Sz (X i k * Y j k)) :
    Pu rp 12 [.sl b, .sl m] (.tup [.p (.sl (zM b.length L fun i j => dotI (X i) (Y j) N)), .p (.int .i64 0)]) := by
  have hbm := hV.bs.m
  have hbn := hV.bs.n
  have hb0 := hV.ne
  obtain ⟨r0, g1, g2, g3⟩ := hV.bs.row 0 (by omega)
  have i0 : Int.toNat 0 = 0 := rfl
  refine pu_of rp12 ?_
  simp only [f12, args0, SA, setCells, Int.reduceLE, Int.reduceLT, ↓reduceIte, reduceCtorEq, Nat.reduceLT, Nat.reduceEqDiff, Nat.reduceAdd, Nat.reduceMul, Nat.reduceLeDiff, Nat.reduceBEq]
  refine loop_rule (β := Nat) (fun j => ([(0, .p (.sl b)), (1, .p (.sl m)), (6, i64 j)], [])) (fun j => j ≤ L) (fun j => L - j) 0 rfl rfl (Nat.zero_le _) ?_
  intro j hj ih
  simp only [] at hj ih ⊢
  by_cases hjn : (j : Int) < (m.length : Int)
  · have hj' : j < L := by omega
    obtain ⟨s, h1, h2, h3⟩ := hm j hj'
    have e1 : ((s.length : Int) != (r0.length : Int)) = false := by rw [h2, g2]; simp
    have w1 : IntKind.i64.wrap ((j : Int) + 1) = ((j + 1 : Nat) : Int) := by rw [IntWalk.i64_in _ (by omega)]; omega
    simp only [SA, setCells, Int.reduceLE, Int.reduceLT, ↓reduceIte, reduceCtorEq, Nat.reduceLT, Nat.reduceEqDiff, Nat.reduceAdd, Nat.reduceMul, Nat.reduceLeDiff, Nat.reduceBEq, hjn, h1, g1, i0, e1, Int.le_refl, Int.natCast_nonneg, Int.toNat_natCast, w1]
    refine ih (j + 1) _ (by omega) (by omega) ?_
    rfl
  clear ih
  simp only [SA, setCells, Int.reduceLE, Int.reduceLT, ↓reduceIte, reduceCtorEq, Nat.reduceLT, Nat.reduceEqDiff, Nat.reduceAdd, Nat.reduceMul, Nat.reduceLeDiff, Nat.reduceBEq, hjn]
  generalize hP : (fun (i j : Nat) => dotI (X i) (Y j) N) = P
  refine loop_rule (β := Nat × Store × CV) (fun t => ([(0, .p (.sl b)), (1, .p (.sl m)), (7, t.2.2), (8, i64 t.1)], t.2.1)) (fun t => t.1 ≤ b.length ∧ GL t.2.1 1 t.2.2 (zM t.1 L P)) (fun t => b.length - t.1) ((0, [], .nils) : Nat × Store × CV) rfl rfl ⟨Nat.zero_le _, .nil⟩ ?_
  rintro ⟨i, τ, cL⟩ ⟨hi, hg⟩ ih
  simp only [] at hi hg ih ⊢
  by_cases hin : (i : Int) < b.length
  · have hi' : i < b.length := by omega
    obtain ⟨r, h1, h2, h3⟩ := hV.bs.row i hi'
    have w1 : IntKind.i64.wrap ((i : Int) + 1) = ((i + 1 : Nat) : Int) := by rw [IntWalk.i64_in _ (by omega)]; omega
    simp only [SA, setCells, Int.reduceLE, Int.reduceLT, ↓reduceIte, reduceCtorEq, Nat.reduceLT, Nat.reduceEqDiff, Nat.reduceAdd, Nat.reduceMul, Nat.reduceLeDiff, Nat.reduceBEq, hin]
    refine loop_rule (β := Nat × Store × CV) (fun t => ([(0, .p (.sl b)), (1, .p (.sl m)), (7, cL), (8, i64 i), (9, t.2.2), (10, i64 t.1)], t.2.1)) (fun t => t.1 ≤ L ∧ GL t.2.1 1 cL (zM i L P) ∧ GL t.2.1 2 t.2.2 (zF t.1 (P i))) (fun t => L - t.1) ((0, τ, .nils) : Nat × Store × CV) rfl rfl ⟨Nat.zero_le _, hg, .nil⟩ ?_
    clear hg
    rintro ⟨j, τ, c⟩ ⟨hj, hg, hc⟩ ih2
    simp only [] at hj hg hc ih2 ⊢
    by_cases hjn2 : (j : Int) < (m.length : Int)
    · have hj' : j < L := by omega
      obtain ⟨s, k1, k2, k3⟩ := hm j hj'
      have w2 : IntKind.i64.wrap ((j : Int) + 1) = ((j + 1 : Nat) : Int) := by rw [IntWalk.i64_in _ (by omega)]; omega
      have k171 := (VBn.p171g h3 k3 (by rw [h2, k2]) (by omega) (fun k hk => hz i j k hi' hj' (by omega)) fun k hk => hz2 i j k hi' hj' (by omega)).lift base_le
      rw [h2, show dotI (X i) (Y j) N = P i j by rw [← hP]] at k171
      have hcc : ((zF j (P i)).length + [zi (P i j)].length) * 32 ≤ 140737488355328 := by
        rw [show (zF j (P i)).length = j from zF_len, show [zi (P i j)].length = 1 from rfl]
        exact Nat.le_trans (Nat.mul_le_mul_right 32 (show j + 1 ≤ 2000001 by omega)) (by decide)
      have hsuc := zF_suc (n := j) (f := P i)
      simp only [SA, setCells, Int.reduceLE, Int.reduceLT, ↓reduceIte, reduceCtorEq, Nat.reduceLT, Nat.reduceEqDiff, Nat.reduceAdd, Nat.reduceMul, Nat.reduceLeDiff, Nat.reduceBEq, hjn2, h1, k1, kp2 k171, Int.natCast_nonneg, Int.toNat_natCast, push_sl, r_app_h2 hc hcc, hsuc, zF_len, w2]
      refine ih2 (j + 1, nd τ c ++ [.prow 2 [zi (P i j)], .prow 2 (zF (j + 1) (P i))], .own (τ.length + 1) 0 (j + 1)) _ ⟨by simp only []; omega, (VBn.GL.nd hg (VBn.GL.ne_sz hg hc (by decide))).left, GL.at zF_len ((get_at nd_len).trans rfl)⟩ (by simp only []; omega) ?_
      rfl
    · obtain rfl : j = L := by omega
      clear ih2
      have hf : frzs τ [c] = some [.sl (zF j (P i))] := by simp only [frzs, hc.frz, Option.map_some]
      have hkl : kills τ [c] = nd τ c := hc.kill
      have hnl : (nd τ c).length = τ.length := nd_len
      have hg2 := VBn.GL.nd hg (VBn.GL.ne_sz hg hc (by decide))
      have hc1 : ((zM i j P).length + [PV.sl (zF j (P i))].length) * 24 ≤ 140737488355328 := by
        rw [show (zM i j P).length = i from zM_len, show [PV.sl (zF j (P i))].length = 1 from rfl]
        exact Nat.le_trans (Nat.mul_le_mul_right 24 (show i + 1 ≤ 14 by omega)) (by decide)
      have hR1 := fun {rp rs base d l dr ks ε Q s x} => r_app_l (rp := rp) (rs := rs) (base := base) (d := d) (l := l) (dr := dr) (ks := ks) (ε := ε) (Q := Q) (s := s) (x := x) hnl hg2 hc1
      have hz1 : allSz 1 [PV.sl (zF j (P i))] = true := rfl
      have hsuc := zM_suc (m := i) (n := j) (W := P)
      simp only [S1, S2, S3, S4, S5, r_idx, r_mks, S6, setCells, Int.reduceLE, Int.reduceLT, ↓reduceIte, reduceCtorEq, Nat.reduceLT, Nat.reduceEqDiff, Nat.reduceAdd, Nat.reduceMul, Nat.reduceLeDiff, Nat.reduceBEq, hjn2, hf, hkl, hnl, hz1, hR1, hsuc, zM_len, Int.natCast_nonneg, Int.toNat_natCast, w1]
      refine ih (i + 1, nd (nd τ c) cL ++ [.prow 1 [.sl (zF j (P i))], .prow 1 (zM (i + 1) j P)], .own (τ.length + 1) 0 (i + 1)) _ ⟨by simp only []; omega, GL.at zM_len ((get_at (by rw [nd_len, nd_len])).trans rfl)⟩ (by simp only []; omega) ?_
      rfl
  · obtain rfl : i = b.length := by omega
    simp only [SA, setCells, Int.reduceLE, Int.reduceLT, ↓reduceIte, reduceCtorEq, Nat.reduceLT, Nat.reduceEqDiff, Nat.reduceAdd, Nat.reduceMul, Nat.reduceLeDiff, Nat.reduceBEq, hin]
    exact back_t2 hg.back1 back1_p
theorem e12 (hV : Vb b N X) (hmL : m.length = L) (hL : L ≤ 2000000) {j0 : Nat} (hj0 : j0 < L) (hm : ∀ j, j < j0 → ∃ s, m[j]? = some (.sl s) ∧ s.length = N) (hm0 : ∃ s, m[j0]? = some (.sl s) ∧ s.length ≠ N) :
    Pu rp 12 [.sl b, .sl m] (.tup [.p (.sl []), .p (.int .i64 8)]) := by
  have hb0 := hV.ne
  obtain ⟨r0, g1, g2, g3⟩ := hV.bs.row 0 (by omega)
  have i0 : Int.toNat 0 = 0 := rfl
  refine pu_of rp12 ?_
  simp only [f12, args0, SA, setCells, Int.reduceLE, Int.reduceLT, ↓reduceIte, reduceCtorEq, Nat.reduceLT, Nat.reduceEqDiff, Nat.reduceAdd, Nat.reduceMul, Nat.reduceLeDiff, Nat.reduceBEq]
  refine loop_rule (β := Nat) (fun j => ([(0, .p (.sl b)), (1, .p (.sl m)), (6, i64 j)], [])) (fun j => j ≤ j0) (fun j => j0 - j) 0 rfl rfl (Nat.zero_le _) ?_
  intro j hj ih
  simp only [] at hj ih ⊢
  have hjn : (j : Int) < (m.length : Int) := by omega
  by_cases hjj : j < j0
  · obtain ⟨s, h1, h2⟩ := hm j hjj
    have e1 : ((s.length : Int) != (r0.length : Int)) = false := by rw [h2, g2]; simp
    have w1 : IntKind.i64.wrap ((j : Int) + 1) = ((j + 1 : Nat) : Int) := by rw [IntWalk.i64_in _ (by omega)]; omega
    simp only [SA, setCells, Int.reduceLE, Int.reduceLT, ↓reduceIte, reduceCtorEq, Nat.reduceLT, Nat.reduceEqDiff, Nat.reduceAdd, Nat.reduceMul, Nat.reduceLeDiff, Nat.reduceBEq, hjn, h1, g1, i0, e1, Int.le_refl, Int.natCast_nonneg, Int.toNat_natCast, w1]
    refine ih (j + 1) _ (by omega) (by omega) ?_
    rfl
  · obtain rfl : j = j0 := by omega
    obtain ⟨s, h1, h2⟩ := hm0
    have e1 : ((s.length : Int) != (r0.length : Int)) = true := by rw [g2, bne_iff_ne]; omega
    simp only [SA, setCells, Int.reduceLE, Int.reduceLT, ↓reduceIte, reduceCtorEq, Nat.reduceLT, Nat.reduceEqDiff, Nat.reduceAdd, Nat.reduceMul, Nat.reduceLeDiff, Nat.reduceBEq, hjn, h1, g1, i0, e1, Int.le_refl, Int.natCast_nonneg, Int.toNat_natCast]
    rfl
theorem w7 (hb : MR b nn X) (hlb : b.length ≤ 2000000) (hv : vE nn X b.length = 0) (hN : nn 0 = N) (hmL : m.length = L) (hL : L ≤ 2000000) {j0 : Nat} (hj0 : j0 < L) (hm : ∀ j, j < j0 → ∃ s, m[j]? = some (.sl s) ∧ s.length = N) (hm0 : ∃ s, m[j0]? = some (.sl s) ∧ s.length ≠ N) :
    Pu rp 7 [.sl b, .sl m] (.tup [.p (.sl []), .p (.int .i64 8)]) := by
  subst hN
  have hV := vb_of hb hv
  have k59 := (VBn.p59 hb hlb).lift base_le
  rw [hv] at k59
  have hb0 := hV.ne
  obtain ⟨r0, g1, g2, g3⟩ := hV.bs.row 0 (by omega)
  have i0 : Int.toNat 0 = 0 := rfl
  refine pu_of rp7 ?_
  simp only [f7, args0, SA, setCells, Int.reduceLE, Int.reduceLT, ↓reduceIte, reduceCtorEq, Nat.reduceLT, Nat.reduceEqDiff, Nat.reduceAdd, Nat.reduceMul, Nat.reduceLeDiff, Nat.reduceBEq, kz1 k59, bne_self_eq_false]
  refine kc_keep' (n95 ?_ (.inl ⟨_, rfl⟩))
  simp only [SA, setCells, Int.reduceLE, Int.reduceLT, ↓reduceIte, reduceCtorEq, Nat.reduceLT, Nat.reduceEqDiff, Nat.reduceAdd, Nat.reduceMul, Nat.reduceLeDiff, Nat.reduceBEq]
  refine x_each (c := .p (.sl m)) (n := L) (bx := 4) (gf := 60) rfl rfl rfl (by rw [← hmL]; rfl) (by omega) rfl rfl (fun i τ => i ≤ j0 ∧ τ = [.kblk 1 [.p (.sl b)], .kblk 1 [.p (.sl m)], .kblk 1 [.nils], .kblk 1 [i64 0], .kblk 1 [.p (.sl m)]]) (fun τ => τ = [.kblk 1 [.p (.sl b)], .kblk 1 [.p (.sl m)], .kblk 1 [.nils], .kblk 1 [i64 8], .kblk 1 [.p (.sl m)]]) ⟨Nat.zero_le _, rfl⟩ ?_ ?_ ?_
  · rintro i τ hi ⟨hij, rfl⟩
    by_cases hjj : i < j0
    · obtain ⟨s, h1, h2⟩ := hm i hjj
      refine ⟨.p (.sl s), by simp [elC, h1, PV.cells, subPV], ?_⟩
      have e1 : ((s.length : Int) != (r0.length : Int)) = false := by rw [h2, g2]; simp
      simp only [stL, SA, setCells, Int.reduceLE, Int.reduceLT, ↓reduceIte, reduceCtorEq, Nat.reduceLT, Nat.reduceEqDiff, Nat.reduceAdd, Nat.reduceMul, Nat.reduceLeDiff, Nat.reduceBEq, g1, i0, Int.le_refl, e1, ex_fin]
      exact .inl hjj
    · obtain rfl : i = j0 := by omega
      obtain ⟨s, h1, h2⟩ := hm0
      refine ⟨.p (.sl s), by simp [elC, h1, PV.cells, subPV], ?_⟩
      have e1 : ((s.length : Int) != (r0.length : Int)) = true := by rw [g2, bne_iff_ne]; omega
      simp only [stL, SA, setCells, Int.reduceLE, Int.reduceLT, ↓reduceIte, reduceCtorEq, Nat.reduceLT, Nat.reduceEqDiff, Nat.reduceAdd, Nat.reduceMul, Nat.reduceLeDiff, Nat.reduceBEq, g1, i0, Int.le_refl, e1, ex_fin]
      rw [ex_bret]
      exact .inr ⟨rfl, rfl⟩
  · rintro τ ⟨h, _⟩
    omega
  · rintro τ rfl
    simp only [SA, setCells, Int.reduceLE, Int.reduceLT, ↓reduceIte, reduceCtorEq, Nat.reduceLT, Nat.reduceEqDiff, Nat.reduceAdd, Nat.reduceMul, Nat.reduceLeDiff, Nat.reduceBEq]
    rfl
end
end Go.Proofs.YtdieenbfdeaffaaGreat.VDd

namespace Go.Proofs.YtdieenbfdeaffaaGreat.VDd
open Go Vpi
open VBn hiding rp tab rp_ok all_ok mixed sim Big
set_option maxRecDepth 100000
set_option linter.unusedSimpArgs false
set_option linter.unusedVariables false
def RowN (r : List PV) : Prop := r.length ≤ 2000000 ∧ ∀ j, j < r.length → ∃ p x, r[j]? = some p ∧ Nu p x
def MatN (b : List PV) : Prop := b.length ≤ 2000000 ∧ ∀ i, i < b.length → ∃ r, b[i]? = some (.sl r) ∧ RowN r
theorem MatN.index {b : List PV} (h : MatN b) : ∃ nn X, MR b nn X := by
  have hx : ∀ i j : Nat, ∃ x : Int, ∀ r p, b[i]? = some (.sl r) → r[j]? = some p → Nu p x := by
    intro i j
    by_cases hi : i < b.length
    · obtain ⟨r, h1, h2⟩ := h.2 i hi
      by_cases hj : j < r.length
      · obtain ⟨p, x, h3, h4⟩ := h2.2 j hj
        refine ⟨x, fun r' p' g1 g2 => ?_⟩
        rw [h1] at g1
        cases g1
        rw [h3] at g2
        cases g2
        exact h4
      · refine ⟨0, fun r' p' g1 g2 => ?_⟩
        rw [h1] at g1
        cases g1
        rw [List.getElem?_eq_none (by omega)] at g2
        cases g2
    · refine ⟨0, fun r' p' g1 g2 => ?_⟩
      rw [List.getElem?_eq_none (by omega)] at g1
      cases g1
  have hn : ∀ i : Nat, ∃ k : Nat, ∀ r, b[i]? = some (.sl r) → r.length = k := by
    intro i
    by_cases hi : i < b.length
    · obtain ⟨r, h1, h2⟩ := h.2 i hi
      exact ⟨r.length, fun r' g => by rw [h1] at g; cases g; rfl⟩
    · exact ⟨0, fun r' g => by rw [List.getElem?_eq_none (by omega)] at g; cases g⟩
  refine ⟨fun i => Classical.choose (hn i), fun i j => Classical.choose (hx i j), fun i hi => ?_⟩
  obtain ⟨r, h1, h2⟩ := h.2 i hi
  have hl := Classical.choose_spec (hn i) r h1
  refine ⟨r, h1, hl, ?_, fun j hj => ?_⟩
  · simp only []
    rw [← hl]; exact h2.1
  · obtain ⟨p, x, h3, h4⟩ := h2.2 j hj
    exact ⟨p, h3, Classical.choose_spec (hx i j) r p h1 h3⟩
theorem num_of {L n : Nat} {qs : List PV} (hL : L ≤ 1048576) (h : shpB Tryz.prog L (n + 3) 25 qs) : ∃ x c, Nu (.agg qs) x ∧ c + 8 ≤ CapN ∧ x.natAbs < LB ^ c := by
  obtain ⟨a, r, rfl, ha, c, r, rfl, hc, rfl⟩ := shpB_struct Tryz.underlying25 h
  obtain ⟨s, rfl⟩ := shpB_bool Tryz.underlying4 ha
  obtain ⟨us, rfl, hl, hu⟩ := shpB_slice Tryz.underlying23 hc
  have hlm : ∃ l : List Nat, us = lm l ∧ Lim l := by
    clear hl ha hc h
    induction us with
    | nil => exact ⟨[], rfl, fun x hx => by cases hx⟩
    | cons u us ih =>
      obtain ⟨l, rfl, h2⟩ := ih fun y hy => hu y (List.mem_cons_of_mem _ hy)
      obtain ⟨q, rfl, hq⟩ := hu u (List.mem_cons_self ..)
      obtain ⟨i, rfl, hw⟩ := shpB_int Tryz.underlying63 hq
      have hw2 : (0 : Int) ≤ i ∧ i ≤ 4294967295 := by
        simp only [Lit.wf, Bool.and_eq_true, decide_eq_true_eq] at hw
        exact hw
      refine ⟨i.toNat :: l, ?_, ?_⟩
      · have : ofCells (isSt Tryz.prog 63) [PV.int .u32 i] = .int .u32 i := by
          have e : isSt Tryz.prog 63 = false := by unfold isSt; rw [Tryz.underlying63]
          rw [e]; rfl
        rw [this, lm_cons, Int.toNat_of_nonneg hw2.1]
      · intro x hx
        rcases List.mem_cons.1 hx with rfl | hx
        · unfold LB; omega
        · exact h2 x hx
  obtain ⟨l, rfl, hlim⟩ := hlm
  rw [lm_len] at hl
  refine ⟨iv s l, l.length, ⟨s, l, ?_, hlim, ?_, rfl⟩, ?_, ?_⟩
  · simp
  · rw [CapN_eq]; omega
  · rw [CapN_eq]; omega
  · rw [iv_abs]
    exact val_lt hlim
theorem mat_of {L n : Nat} {q : PV} (hL : L ≤ 1048576) (h : shpB Tryz.prog L (n + 5) 22 [q]) : ∃ b, q = .sl b ∧ MatN b := by
  obtain ⟨b, hq, hl, hb⟩ := shpB_slice Tryz.underlying22 h
  cases hq
  refine ⟨b, rfl, by omega, fun i hi => ?_⟩
  obtain ⟨qs, h1, h2⟩ := hb b[i] (List.getElem_mem _)
  obtain ⟨r, rfl, hrl, hr⟩ := shpB_slice Tryz.underlying40 h2
  have e1 : ofCells (isSt Tryz.prog 40) [PV.sl r] = .sl r := by
    have e : isSt Tryz.prog 40 = false := by unfold isSt; rw [Tryz.underlying40]
    rw [e]; rfl
  rw [e1] at h1
  refine ⟨r, by rw [← h1]; simp, by omega, fun j hj => ?_⟩
  obtain ⟨qs, k1, k2⟩ := hr r[j] (List.getElem_mem _)
  obtain ⟨x, _, hx, _⟩ := num_of hL k2
  have e2 : ofCells (isSt Tryz.prog 25) qs = .agg qs := by
    have e : isSt Tryz.prog 25 = true := by unfold isSt; rw [Tryz.underlying25]
    rw [e]; rfl
  rw [e2] at k1
  exact ⟨.agg qs, x, by rw [← k1]; simp, hx⟩
end Go.Proofs.YtdieenbfdeaffaaGreat.VDd

namespace Go.Proofs.YtdieenbfdeaffaaGreat.VDd
open Go Vpi
open VBn hiding rp tab rp_ok all_ok mixed sim Big
set_option maxRecDepth 100000
set_option linter.unusedSimpArgs false
set_option linter.unusedVariables false
open Gs (V Dv Pos dI sk cI sumI)
theorem rp3 : rp 3 = some f3 := rfl
theorem num_sk {L n : Nat} {qs : List PV} {x : Int} (h : shpB Tryz.prog L (n + 3) 25 qs) (hx : Nu (.agg qs) x) : Sk L x := by
  obtain ⟨a, r, rfl, ha, c, r, rfl, hc, rfl⟩ := shpB_struct Tryz.underlying25 h
  obtain ⟨s, rfl⟩ := shpB_bool Tryz.underlying4 ha
  obtain ⟨us, rfl, hl, hu⟩ := shpB_slice Tryz.underlying23 hc
  obtain ⟨neg, l, hp, hlim, _, rfl⟩ := hx
  have hus : us = lm l := by simp at hp; exact hp.2
  subst hus
  rw [lm_len] at hl
  unfold Sk
  rw [iv_abs]
  exact Nat.lt_of_lt_of_le (val_lt hlim) (Nat.pow_le_pow_right LB_pos hl)
theorem mat_sk {L n : Nat} {b : List PV} (h : shpB Tryz.prog L (n + 5) 22 [.sl b]) : ∀ (i j : Nat) (r : List PV) (p : PV) (x : Int), b[i]? = some (.sl r) → r[j]? = some p → Nu p x → Sk L x := by
  obtain ⟨b', hq, hl, hb⟩ := shpB_slice Tryz.underlying22 h
  cases hq
  intro i j r p x hi hj hx
  obtain ⟨qs, h1, h2⟩ := hb _ (List.mem_of_getElem? hi)
  obtain ⟨r', rfl, hrl, hr⟩ := shpB_slice Tryz.underlying40 h2
  have e1 : ofCells (isSt Tryz.prog 40) [PV.sl r'] = .sl r' := by
    have e : isSt Tryz.prog 40 = false := by unfold isSt; rw [Tryz.underlying40]
    rw [e]; rfl
  rw [e1] at h1
  cases h1
  obtain ⟨qs, k1, k2⟩ := hr _ (List.mem_of_getElem? hj)
  have e2 : ofCells (isSt Tryz.prog 25) qs = .agg qs := by
    have e : isSt Tryz.prog 25 = true := by unfold isSt; rw [Tryz.underlying25]
    rw [e]; rfl
  rw [e2] at k1
  subst k1
  exact num_sk k2 hx
section
variable {b m : List PV} {nn mm : Nat → Nat} {X Y : Nat → Nat → Int}
theorem whole_zM {n k : Nat} {W : Nat → Nat → Int} (hn : n ≤ 2000000) (hk : k ≤ 2000000) (h : ∀ i j, i < n → j < k → Sz (W i j)) : Pu rp 13 [.sl (zM n k W), .sl (zM n k W)] (.p (.bool true)) := by
  have e : zM n k W = zm ((List.range n).map fun i => (List.range k).map (W i)) := by
    unfold zM zm
    rw [List.map_map]
    refine List.map_congr_left fun i _ => ?_
    rw [zF_zr]; rfl
  rw [e]
  refine p46 (by simp; exact hn) fun i r hr => ?_
  have hi : i < n := by have := (List.getElem?_eq_some_iff.1 hr).1; simpa using this
  simp [hi] at hr
  subst hr
  refine ⟨by simp; exact hk, fun j x hx => ?_⟩
  have hj : j < k := by have := (List.getElem?_eq_some_iff.1 hx).1; simpa using this
  simp [hj] at hx
  subst hx
  exact h i j hi hj
theorem p3 (hb : MR b nn X) (hlb : b.length ≤ 2000000) (hm : MR m mm Y) (hlm : m.length ≤ 2000000) (hY : ∀ i j, i < m.length → j < mm i → Sk 1048576 (Y i j)) : Pu rp 3 [.sl b, .sl m] (.p (.bool true)) := by
  have k61 := (VBn.p61 hb hlb).lift base_le
  refine pu_of rp3 ?_
  by_cases hv : vE nn X b.length = 0
  · have hV := vb_of hb hv
    have hbm := hV.bs.m
    have hbn := hV.bs.n
    obtain ⟨n, hn⟩ : ∃ n, b.length = n + 1 := ⟨b.length - 1, by have := hV.ne; omega⟩
    have k102 := p102 hb hlb hv
    have k11 := f11p hb hlb hv rfl
    have hDs : Sz (dI b.length (gr (nn 0) X)) := by rw [hn]; exact (dI_sk (by omega) (gr_sk hV.bs hn)).sz (by omega)
    have hdm : ∀ j c, j < b.length → c < nn 0 → Sk 226 (dmM b.length (nn 0) X j c) := fun j c hj hc => by
      rw [hn] at hj ⊢
      exact dm_sk hV.bs hn hj hc
    rw [hv] at k61
    have kw1 : Pu rp 13 [.sl (zM b.length (nn 0) (dmM b.length (nn 0) X)), .sl (zM b.length (nn 0) (dmM b.length (nn 0) X))] (.p (.bool true)) := whole_zM hlb (by omega) fun i j hi hj => (hdm i j hi hj).sz (by omega)
    generalize hD : dI b.length (gr (nn 0) X) = D at *
    have k9 : Pu rp 9 [.agg [.bool (decide (D < 0) && decide (D.natAbs ≠ 0)), .sl (lm (dgl D.natAbs))], .agg [.bool (decide (D < 0) && decide (D.natAbs ≠ 0)), .sl (lm (dgl D.natAbs))]] (.p (.bool true)) := p47z hDs
    have e0 : ((0 : Int) != 0) = false := rfl
    by_cases hall : ∀ j, j < m.length → mm j = nn 0
    · have hr : ∀ j, j < m.length → ∃ s, m[j]? = some (.sl s) ∧ s.length = nn 0 ∧ NuR s (Y j) := fun j hj => by
        obtain ⟨s, h1, h2, _, h3⟩ := hm j hj
        exact ⟨s, h1, by rw [h2, hall j hj], fun i hi => h3 i (by omega)⟩
      have hs2 : ∀ i j k, i < b.length → j < m.length → k < nn 0 → Sk 1048584 (X i k * Y j k) := fun i j k hi hj hk => ((hV.bs.sz i k hi hk).mul (hY j k hj (by rw [hall j hj]; exact hk))).mono (by decide)
      have hz : ∀ i j k, i < b.length → j < m.length → k ≤ nn 0 → Sz (dotI (X i) (Y j) k) := fun i j k hi hj hk => by
        rw [dotI_sum]
        exact (sumI_sk (e := 1048584) (by omega) fun t ht => hs2 i j t hi hj (by omega)).sz (by omega)
      have hz2 : ∀ i j k, i < b.length → j < m.length → k < nn 0 → Sz (X i k * Y j k) := fun i j k hi hj hk => (hs2 i j k hi hj hk).sz (by omega)
      have k7 := p7 (m := m) (Y := Y) (L := m.length) hb hlb hv rfl rfl hlm hr hz hz2
      have k12 := p12 (m := m) (Y := Y) (L := m.length) hV rfl hlm hr hz hz2
      have kw2 : Pu rp 13 [.sl (zM b.length m.length fun i j => dotI (X i) (Y j) (nn 0)), .sl (zM b.length m.length fun i j => dotI (X i) (Y j) (nn 0))] (.p (.bool true)) := whole_zM hlb hlm fun i j hi hj => hz i j (nn 0) hi hj (Nat.le_refl _)
      simp only [f3, args0, SA, setCells, Int.reduceLE, Int.reduceLT, ↓reduceIte, reduceCtorEq, Nat.reduceLT, Nat.reduceEqDiff, Nat.reduceAdd, Nat.reduceMul, Nat.reduceLeDiff, Nat.reduceBEq, kp0 p48, kp1 k102, kp2 k7, zi_raw (x := D), kp1 k61, e0, kp1 k11, kp2 k12, kp2 kw1, kp2 k9, kp2 kw2]
      rfl
    · obtain ⟨j0, hj0, hne, hlt⟩ : ∃ j0, j0 < m.length ∧ mm j0 ≠ nn 0 ∧ ∀ j, j < j0 → mm j = nn 0 := by
        refine Classical.byContradiction fun hcon => ?_
        refine hall fun j => ?_
        induction j using Nat.strongRecOn with
        | ind j ih =>
          intro hj
          refine Classical.byContradiction fun hne => ?_
          exact hcon ⟨j, hj, hne, fun i hi => ih i hi (by omega)⟩
      have hr : ∀ j, j < j0 → ∃ s, m[j]? = some (.sl s) ∧ s.length = nn 0 := fun j hj => by
        obtain ⟨s, h1, h2, _⟩ := hm j (by omega)
        exact ⟨s, h1, by rw [h2, hlt j hj]⟩
      have hr0 : ∃ s, m[j0]? = some (.sl s) ∧ s.length ≠ nn 0 := by
        obtain ⟨s, h1, h2, _⟩ := hm j0 hj0
        exact ⟨s, h1, by rw [h2]; exact hne⟩
      have k7 := w7 (m := m) (L := m.length) hb hlb hv rfl rfl hlm hj0 hr hr0
      have k12 := e12 (m := m) (L := m.length) hV rfl hlm hj0 hr hr0
      have kw2 : Pu rp 13 [.sl [], .sl []] (.p (.bool true)) := whole_zM (n := 0) (k := 0) (W := fun _ _ => 0) (by omega) (by omega) fun i j hi => by omega
      simp only [f3, args0, SA, setCells, Int.reduceLE, Int.reduceLT, ↓reduceIte, reduceCtorEq, Nat.reduceLT, Nat.reduceEqDiff, Nat.reduceAdd, Nat.reduceMul, Nat.reduceLeDiff, Nat.reduceBEq, kp0 p48, kp1 k102, kp2 k7, zi_raw (x := D), kp1 k61, e0, kp1 k11, kp2 k12, kp2 kw1, kp2 k9, kp2 kw2]
      rfl
  · have k102 := e102 hb hlb hv
    have k7 := e7 (m := m) hb hlb hv
    have e0 : (vE nn X b.length != 0) = true := by simp [hv]
    have l0 : (((0 : Nat) : Int) == 0) = true := rfl
    have k9 : Pu rp 9 [.agg [.bool false, .sl []], .agg [.bool false, .sl []]] (.p (.bool true)) := by
      have h := p47z (Sz.small (x := 0) (by decide))
      rw [zi_zero] at h
      exact h
    simp only [f3, args0, SA, setCells, Int.reduceLE, Int.reduceLT, ↓reduceIte, reduceCtorEq, Nat.reduceLT, Nat.reduceEqDiff, Nat.reduceAdd, Nat.reduceMul, Nat.reduceLeDiff, Nat.reduceBEq, kp0 p48, kp1 k102, kp2 k7, kp1 k61, e0, l0, kc_pu k9 (show toPs [CV.p (.agg [.bool false, .sl []]), CV.agg [CV.p (.bool false), CV.nils]] = some [.agg [.bool false, .sl []], .agg [.bool false, .sl []]] from rfl)]
    rfl
end
theorem row3 (q : PV) (w : shpB Tryz.prog 1048576 8 22 [q]) (q2 : PV) (w2 : shpB Tryz.prog 1048576 8 22 [q2]) : Pu rp 3 [q, q2] (.p (.bool true)) := by
  obtain ⟨b, rfl, hb⟩ := mat_of (Nat.le_refl _) w
  obtain ⟨m, rfl, hm⟩ := mat_of (Nat.le_refl _) w2
  obtain ⟨nn, X, hX⟩ := hb.index
  obtain ⟨mm, Y, hY⟩ := hm.index
  refine p3 hX hb.1 hY hm.1 fun i j hi hj => ?_
  obtain ⟨r, h1, h2, _, h3⟩ := hY i hi
  obtain ⟨p, h4, h5⟩ := h3 j (by omega)
  exact mat_sk (n := 3) w2 i j r p _ h1 h4 h5
end Go.Proofs.YtdieenbfdeaffaaGreat.VDd

namespace Go.Proofs.YtdieenbfdeaffaaGreat.Rbulk
open Go
set_option linter.unusedVariables false
theorem one_le {H : Type} (d : DataW H) : 1 ≤ Rows.uptoBulk d := by
  cases d with
  | lit l => cases l <;> simp [Rows.uptoBulk]
  | _ => simp [Rows.uptoBulk]
theorem part_le {H : Type} {d : DataW H} {l : List (DataW H)} (h : d ∈ l) : Rows.uptoBulk d ≤ Rows.uptoBulkAll l := by
  induction l with
  | nil => cases h
  | cons x r ih =>
    simp only [Rows.uptoBulkAll]
    rcases List.mem_cons.1 h with rfl | h
    · omega
    · have := ih h; omega
theorem length_le {H : Type} (l : List (DataW H)) : l.length ≤ Rows.uptoBulkAll l := by
  induction l with
  | nil => simp [Rows.uptoBulkAll]
  | cons x r ih => have := one_le x; simp only [Rows.uptoBulkAll, List.length_cons]; omega
theorem mus {H : Type} (es sp : List (DataW H)) : es.length ≤ Rows.uptoBulk (.slice es sp) ∧ ∀ d ∈ es, Rows.uptoBulk d ≤ Rows.uptoBulk (.slice es sp) := by
  have h1 := length_le es
  simp only [Rows.uptoBulk]
  refine ⟨by omega, fun d hd => ?_⟩
  have := part_le hd
  omega
theorem mua {H : Type} (ps : List (DataW H)) : ∀ d ∈ ps, Rows.uptoBulk d ≤ Rows.uptoBulk (.agg ps) := by
  intro d hd
  have := part_le hd
  simp only [Rows.uptoBulk]
  omega
theorem each {H : Type} {l : List (DataW H)} (hk : Rows.uptoSmall H l = true) {d : DataW H} (h : d ∈ l) : Rows.uptoBulk d ≤ 1048576 :=
  Nat.le_trans (part_le h) (of_decide_eq_true hk)
end Go.Proofs.YtdieenbfdeaffaaGreat.Rbulk
