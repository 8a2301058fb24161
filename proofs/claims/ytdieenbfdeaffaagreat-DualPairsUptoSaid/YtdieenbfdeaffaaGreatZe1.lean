/- mat.Combine, mat.Product, mat.Times; mat.Product, dual.scaled, dual.Scaled; dual.Scaled: its answers; dual.Pairs; Comparison of numbers and lists, awake; The law DualPairs; Matrices as arguments; The law DualPairs: its argument; What the bound on all arguments gives for their parts. No condition. -/
import Derived.Test.YtdieenbfdeaffaaGreatZd1
import Derived.Test.YtdieenbfdeaffaaGreatZc1
import Derived.Test.YtdieenbfdeaffaaGreatChecked
import Derived.Test.YtdieenbfdeaffaaGreatRows

namespace Go.Proofs.YtdieenbfdeaffaaGreat.VDd
open Go Vpi
open VBn hiding rp tab rp_ok all_ok mixed sim Big
set_option maxRecDepth 100000
set_option linter.unusedSimpArgs false
set_option linter.unusedVariables false

open Gs (Pv dI swp sk cI sumI)

theorem rp78 : rp 59 = some f59 := rfl
theorem rp120 : rp 103 = some f103 := rfl
theorem rp197 : rp 101 = some f101 := rfl
theorem rp196 : rp 100 = some f100 := rfl
theorem rp168 : rp 58 = some f58 := rfl

theorem n120 {a : Bool} {b : List PV} {p : PV} {k x : Int} (hk : Nu (.agg [.bool a, .sl b]) k) (hx : Nu p x) : Rn rp 103 [.p p, .ptr 0 0 0] [.kblk 2 [.p (.bool a), .p (.sl b)]] fun v τ => v = .p (zi (k * x)) ∧ τ[0]? = some (.kblk 2 [.p (.bool a), .p (.sl b)]) := by
  have k63 := (p63' hk hx).lift base_le
  obtain ⟨n1, l1, rfl, -⟩ := hx
  rw [rn_of rp120]
  simp only [f103, args0, SA, setCells, Int.reduceLE, Int.reduceLT, ↓reduceIte, reduceCtorEq, Nat.reduceLT, Nat.reduceEqDiff, Nat.reduceAdd, Nat.reduceMul, Nat.reduceLeDiff, Nat.reduceBEq, kp2 k63]
  rfl

theorem p78 {kp : PV} {k : Int} {r : List PV} {xs : List Int} (hk : Nu kp k) (h : NL r xs) (hm : r.length ≤ 2000000) : Pu rp 59 [kp, .sl r] (.p (.sl (zr (xs.map (k * ·))))) := by
  obtain ⟨a, b, rfl⟩ := Nu.agg hk
  refine pu_of rp78 ?_
  simp only [f59, args0, SA, setCells, Int.reduceLE, Int.reduceLT, ↓reduceIte, reduceCtorEq, Nat.reduceLT, Nat.reduceEqDiff, Nat.reduceAdd, Nat.reduceMul, Nat.reduceLeDiff, Nat.reduceBEq]
  refine kc_full' (n116 (σ := [.kblk 2 [.p (.bool a), .p (.sl b)]]) (ys := xs.map (k * ·)) (Wf.nil.push (x := .kblk 2 [.p (.bool a), .p (.sl b)]) rfl) (by rw [List.length_map]; exact h.1) hm (fun i hi => ?_) fun ρ c hp hwf hb hg => ?_)
  · obtain ⟨p, x, h1, h2, h3⟩ := h.ix hi
    refine ⟨p, k * x, h1, by simp [h2], Nu.agg h3, ?_⟩
    intro ρ hpre rs base d l dr ks e Q
    have h0 : ρ[0]? = some (.kblk 2 [.p (.bool a), .p (.sl b)]) := hpre.get 0 (Nat.lt_succ_self _)
    rw [kc_cell (b := 0) (al := [.p p, .ptr 0 0 0]) rfl h0 rfl rfl (n120 hk h3) rfl, set_same h0]
  · rw [hp.take]
    refine ⟨rfl, _, back_ge hg zr_len.symm hb, ?_⟩
    simp only [SA, setCells, Int.reduceLE, Int.reduceLT, ↓reduceIte, reduceCtorEq, Nat.reduceLT, Nat.reduceEqDiff, Nat.reduceAdd, Nat.reduceMul, Nat.reduceLeDiff, Nat.reduceBEq]
    rfl


theorem p78F {k : Int} {N : Nat} {f : Nat → Int} {kp : PV} (hk : Nu kp k) (hN : N ≤ 2000000) (hf : ∀ j, j < N → Sz (f j)) : Pu rp 59 [kp, .sl (zF N f)] (.p (.sl (zF N fun j => k * f j))) := by
  have h := p78 hk (r := zr ((List.range N).map f)) (xs := (List.range N).map f) (NL.zr fun i x hx => by
    have hi := (List.getElem?_eq_some_iff.1 hx).1
    simp at hi
    simp [hi] at hx
    subst hx
    exact hf i hi) (by rw [zr_len]; simpa using hN)
  rw [← zF_zr, List.map_map] at h
  rw [zF_zr (f := fun j => k * f j)]
  exact h

theorem sumI_le {f : Nat → Int} {M : Nat} : ∀ {n : Nat}, (∀ t, t < n → (f t).natAbs ≤ M) → (sumI f n).natAbs ≤ n * M
  | 0, _ => by simp [sumI]
  | n + 1, h => by
    have h1 := sumI_le (n := n) fun t ht => h t (by omega)
    have h2 := h n (by omega)
    have h3 := Int.natAbs_add_le (sumI f n) (f n)
    rw [sumI, Nat.succ_mul]
    omega

theorem sumI_sk {f : Nat → Int} {e n : Nat} (hn : n ≤ 12) (h : ∀ t, t < n → Sk e (f t)) : Sk (e + 1) (sumI f n) := by
  have h1 := sumI_le (M := LB ^ e) fun t ht => Nat.le_of_lt (h t ht)
  unfold Sk
  rw [Nat.pow_succ]
  have h2 : n * LB ^ e ≤ 12 * LB ^ e := Nat.mul_le_mul_right _ hn
  have h3 : LB ^ e * 13 ≤ LB ^ e * LB := Nat.mul_le_mul_left _ (by decide)
  have h4 : 0 < LB ^ e := Nat.pow_pos LB_pos
  omega

section
variable {b : List PV} {N e : Nat} {X : Nat → Nat → Int} {a : Nat → Int}

theorem p197 (h : Bs b N X) (h0 : b.length ≠ 0) (he : e ≤ 1000) (ha : ∀ t, t < b.length → Sk e (a t)) : Pu rp 101 [.sl (zF b.length a), .sl b] (.p (.sl (zF N fun c => sumI (fun t => a t * X t c) b.length))) := by
  refine pu_of rp197 ?_
  have hm := h.m
  have hN := h.n
  obtain ⟨r0, f1, f2, f3⟩ := h.row 0 (by omega)
  have e0 : ((b.length : Int) == 0) = false := by rw [beq_eq_false_iff_ne]; omega
  have i0 : Int.toNat 0 = 0 := rfl
  have m3 : ((32 : Nat) : Int) * (N : Int) ≤ 281474976710656 := by omega
  have m4 : (N : Int) ≤ 9223372036854775807 := by omega
  simp only [f101, args0, SA, setCells, Int.reduceLE, Int.reduceLT, ↓reduceIte, reduceCtorEq, Nat.reduceLT, Nat.reduceEqDiff, Nat.reduceAdd, Nat.reduceMul, Nat.reduceLeDiff, Nat.reduceBEq, e0, f1, i0, f2, Int.natCast_nonneg, m3, m4, Int.le_refl, Int.toNat_natCast]
  have hz0 : List.replicate N (PV.agg [.bool false, .sl []]) = zF N fun c => sumI (fun t => a t * X t c) 0 := by
    simp only [sumI]
    rw [← zi_zero]
    unfold zF
    rw [List.map_const', List.length_range]
  refine loop_rule (β := Nat × Store) (fun t => ([(0, .p (.sl (zF b.length a))), (5, .own 0 0 N), (18, .p (.sl b)), (19, i64 b.length), (20, i64 t.1)], t.2))
    (fun t => t.1 ≤ b.length ∧ t.2[0]? = some (.prow 2 (zF N fun c => sumI (fun u => a u * X u c) t.1))) (fun t => b.length - t.1) ((0, [.prow 2 (List.replicate N (PV.agg [.bool false, .sl []]))]) : Nat × Store) rfl rfl ⟨Nat.zero_le _, by rw [hz0]; rfl⟩ ?_
  rintro ⟨i, τ⟩ ⟨hi, hg⟩ ih
  simp only [] at hi hg ih ⊢
  by_cases hin : (i : Int) < b.length
  · have hi' : i < b.length := by omega
    obtain ⟨r, g1, g2, g3⟩ := h.row i hi'
    have w1 : IntKind.i64.wrap ((i : Int) + 1) = ((i + 1 : Nat) : Int) := by rw [IntWalk.i64_in _ (by omega)]; omega
    simp only [SA, setCells, Int.reduceLE, Int.reduceLT, ↓reduceIte, reduceCtorEq, Nat.reduceLT, Nat.reduceEqDiff, Nat.reduceAdd, Nat.reduceMul, Nat.reduceLeDiff, Nat.reduceBEq, hin, g1, Int.natCast_nonneg, Int.toNat_natCast]
    refine loop_rule (β := Nat × Store) (fun t => ([(0, .p (.sl (zF b.length a))), (5, .own 0 0 N), (6, i64 i), (18, .p (.sl b)), (19, i64 b.length), (20, i64 i), (25, .p (.sl r)), (26, i64 r.length), (27, i64 t.1)], t.2))
      (fun t => t.1 ≤ N ∧ t.2[0]? = some (.prow 2 (zF N fun c => if c < t.1 then sumI (fun u => a u * X u c) (i + 1) else sumI (fun u => a u * X u c) i))) (fun t => N - t.1) ((0, τ) : Nat × Store) rfl rfl ⟨Nat.zero_le _, by simp only []; rw [hg]; congr 2⟩ ?_
    clear hg
    rintro ⟨k, τ⟩ ⟨hk, hg⟩ ih2
    simp only [] at hk hg ih2 ⊢
    by_cases hkn : (k : Int) < r.length
    · have hk' : k < N := by omega
      obtain ⟨p, k1, k2⟩ := g3 k (by omega)
      have w2 : IntKind.i64.wrap ((k : Int) + 1) = ((k + 1 : Nat) : Int) := by rw [IntWalk.i64_in _ (by omega)]; omega
      have s1 : ∀ u, u < b.length → Sk (e + 8) (a u * X u k) := fun u hu => (ha u hu).mul (h.sz u k hu hk')
      have s2 : Sk (e + 8 + 1) (sumI (fun u => a u * X u k) i) := sumI_sk (by omega) fun u hu => s1 u (by omega)
      have k63 := (VBn.p63' (Nu.zi ((ha i hi').sz (by omega))) k2).lift base_le
      have k145 := (VBn.p145 (Nu.zi (s2.sz (by omega))) (Nu.zi ((s1 i hi').sz (by omega)))).lift base_le
      rw [show sumI (fun u => a u * X u k) i + a i * X i k = sumI (fun u => a u * X u k) (i + 1) from rfl] at k145
      obtain ⟨sb, lb, rfl⟩ := Nu.agg k2
      have l0 := (List.getElem?_eq_some_iff.1 hg).1
      have e1 : ∀ l, (τ ++ l)[0]? = some (.prow 2 (zF N fun c => if c < k then sumI (fun u => a u * X u c) (i + 1) else sumI (fun u => a u * X u c) i)) := fun l => by rw [get_left l0]; exact hg
      have e2 : ∀ l x, (τ ++ l).set 0 x = τ.set 0 x ++ l := fun l x => set_left l0
      have b1 := zF_get (f := fun c => if c < k then sumI (fun u => a u * X u c) (i + 1) else sumI (fun u => a u * X u c) i) hk'
      simp only [Nat.lt_irrefl, if_false] at b1
      simp only [SA, setCells, Int.reduceLE, Int.reduceLT, ↓reduceIte, reduceCtorEq, Nat.reduceLT, Nat.reduceEqDiff, Nat.reduceAdd, Nat.reduceMul, Nat.reduceLeDiff, Nat.reduceBEq, hkn, k1, hk', Int.natCast_nonneg, Int.toNat_natCast, e1, b1, subPV_zi, zF_get hi', kp2 k63, kp2 k145, updPV_zz, zF_set, e2, w2]
      refine ih2 (k + 1, τ.set 0 (.prow 2 (zF N fun c => if c = k then sumI (fun u => a u * X u k) (i + 1) else if c < k then sumI (fun u => a u * X u c) (i + 1) else sumI (fun u => a u * X u c) i)) ++ [.kblk 2 [.p (.bool sb), .p (.sl lb)]]) _ ⟨by simp only []; omega, ?_⟩ (by simp only []; omega) ?_
      · simp only []
        rw [get_left (by rw [List.length_set]; exact l0), get_self l0]
        congr 2
        refine zF_congr fun c hc => ?_
        show (if c = k then _ else _) = _
        by_cases hck : c = k
        · subst hck
          rw [if_pos rfl, if_pos (by omega)]
        · rw [if_neg hck]
          by_cases h3 : c < k
          · rw [if_pos h3, if_pos (by omega)]
          · rw [if_neg h3, if_neg (by omega)]
      · rfl
    · obtain rfl : k = N := by omega
      simp only [SA, setCells, Int.reduceLE, Int.reduceLT, ↓reduceIte, reduceCtorEq, Nat.reduceLT, Nat.reduceEqDiff, Nat.reduceAdd, Nat.reduceMul, Nat.reduceLeDiff, Nat.reduceBEq, hkn, w1]
      refine ih (i + 1, τ) _ ⟨by simp only []; omega, ?_⟩ (by simp only []; omega) ?_
      · simp only []
        rw [hg]
        congr 2
        refine zF_congr fun c hc => ?_
        rw [if_pos hc]
      · rfl
  · obtain rfl : i = b.length := by omega
    simp only [SA, setCells, Int.reduceLE, Int.reduceLT, ↓reduceIte, reduceCtorEq, Nat.reduceLT, Nat.reduceEqDiff, Nat.reduceAdd, Nat.reduceMul, Nat.reduceLeDiff, Nat.reduceBEq, hin]
    exact (GL.own hg zF_len.symm).back
end
end Go.Proofs.YtdieenbfdeaffaaGreat.VDd

namespace Go.Proofs.YtdieenbfdeaffaaGreat.VDd
open Go Vpi
open VBn hiding rp tab rp_ok all_ok mixed sim Big
set_option maxRecDepth 100000
set_option linter.unusedSimpArgs false
set_option linter.unusedVariables false

open Gs (Pv dI swp sk cI sumI)

theorem rp136 : rp 23 = some f23 := rfl
theorem rp102 : rp 6 = some f6 := rfl

section
variable {b : List PV} {N e m : Nat} {X A : Nat → Nat → Int}

theorem zM_set {m n i : Nat} {W : Nat → Nat → Int} {f : Nat → Int} : (zM m n W).set i (.sl (zF n f)) = zM m n fun a => if a = i then f else W a := by
  apply List.ext_getElem?
  intro k
  by_cases hk : k < m
  · rw [zM_get hk]
    by_cases h : i = k
    · subst h
      rw [List.getElem?_set_self (by rw [zM_len]; exact hk), if_pos rfl]
    · rw [List.getElem?_set_ne h, zM_get hk, if_neg (Ne.symm h)]
  · rw [List.getElem?_eq_none (by rw [List.length_set, zM_len]; omega), List.getElem?_eq_none (by rw [zM_len]; omega)]

def prM (m : Nat) (A X : Nat → Nat → Int) (i c : Nat) : Int := sumI (fun t => A i t * X t c) m

theorem n168 (h : Bs b N X) {B : Nat} (hB : b.length = B) (h0 : b.length ≠ 0) (he : e ≤ 1000) (hm0 : 0 < m) (hm : m ≤ 64) (hA : ∀ i t, i < m → t < B → Sk e (A i t)) {σ : Store} (hw : Wf σ) {Q : CV → Store → Prop}
    (hQ : ∀ ρ k, Pre σ ρ → Wf ρ → σ.length ≤ k → ρ[k]? = some (.prow 1 (zM m N (prM B A X))) → Q (.tup [.own k 0 m, .p (.int .i64 0)]) ρ) : Rn rp 58 [.p (.sl (zM m B A)), .p (.sl b)] σ Q := by
  subst hB
  have hbm := h.m
  have k93 := Bs.b93 h h0
  have k93' := z93 (m := m) (n := b.length) (W := A) hm0 (by omega) (by omega) fun i t hi ht => (hA i t hi ht).sz (by omega)
  rw [rn_of rp168]
  have e1 : (m : Int) > 0 := by omega
  simp only [f58, args0, SA, setCells, Int.reduceLE, Int.reduceLT, ↓reduceIte, reduceCtorEq, Nat.reduceLT, Nat.reduceEqDiff, Nat.reduceAdd, Nat.reduceMul, Nat.reduceLeDiff, Nat.reduceBEq, kp1 k93', get_app0, kp1 k93, bne_self_eq_false, e1]
  refine kc_keep' (n114p (σ := σ ++ [.kblk 1 [.p (.sl b)]]) (m := m) (n := N) (W := prM b.length A X) (hw.push rfl) zM_len (by omega) (fun i hi => ?_) fun ρ k hp hwf hk hgk => ?_)
  · refine ⟨_, zM_get hi, fun ρ hpre hwf K hK => ?_⟩
    have hb0 : ρ[σ.length]? = some (.kblk 1 [.p (.sl b)]) := by rw [hpre.get _ (by simp)]; exact get_app0
    have k197 := p197 h h0 he (a := A i) fun t ht => hA i t hi ht
    rw [rn_of rp196]
    simp only [f100, args0, SA, setCells, Int.reduceLE, Int.reduceLT, ↓reduceIte, reduceCtorEq, Nat.reduceLT, Nat.reduceEqDiff, Nat.reduceAdd, Nat.reduceMul, Nat.reduceLeDiff, Nat.reduceBEq, hb0, kp2 k197]
    exact hK ρ Pre.refl hwf
  · have hlk := (List.getElem?_eq_some_iff.1 hgk).1
    simp only [SA, setCells, Int.reduceLE, Int.reduceLT, ↓reduceIte, reduceCtorEq, Nat.reduceLT, Nat.reduceEqDiff, Nat.reduceAdd, Nat.reduceMul, Nat.reduceLeDiff, Nat.reduceBEq]
    rw [ex_frzk (b := k) (o := 0) (n := m) rfl hgk frzL_p zM_isSl (by rw [own0_p]; rfl), killL_p]
    have hk2 : σ.length ≤ k := by simp at hk; omega
    have hpp : Pre σ (ρ.set k (.prow 1 (zM m N (prM b.length A X)))) := (Pre.trans (Pre.refl.push) hp).set hk2
    have hww : Wf (ρ.set k (.prow 1 (zM m N (prM b.length A X)))) := hwf.set rfl
    simp only [SA, setCells, Int.reduceLE, Int.reduceLT, ↓reduceIte, reduceCtorEq, Nat.reduceLT, Nat.reduceEqDiff, Nat.reduceAdd, Nat.reduceMul, Nat.reduceLeDiff, Nat.reduceBEq]
    exact hQ _ k hpp hww hk2 (get_self hlk)

def dmM (m : Nat) (N : Nat) (X : Nat → Nat → Int) (i c : Nat) : Int := sumI (fun t => cI (m - 1) (gr N X) t i * X t c) m

theorem p136 (h : Bs b N X) (h0 : b.length ≠ 0) (hd : 0 < dI b.length (gr N X)) : Pu rp 23 [.sl b] (.tup [.p (.sl (zM b.length N (dmM b.length N X))), .p (zi (dI b.length (gr N X)))]) := by
  have hbm := h.m
  have hN := h.n
  obtain ⟨n, hn⟩ : ∃ n, b.length = n + 1 := ⟨b.length - 1, by omega⟩
  have hW : ∀ i j, i < n + 1 → j < n + 1 → Sk 17 (gr N X i j) := fun i j hi hj => dot_sk (fun t ht => ⟨h.sz i t (by omega) ht, h.sz j t (by omega) ht⟩) hN
  have k165 := p165 h h0
  rw [hn] at k165 hd ⊢
  have k166 := z166 (by omega) (by omega) (by decide) (by decide) hW
  have k167 := z167 (by omega) (by decide) (by decide) hW hd
  have hdk := dI_sk (by omega) hW
  have hck : ∀ i k, i < n + 1 → k < n + 1 → Sk 217 (cI n (gr N X) i k) := fun i k hi hk => by
    have h1 := (dI_sk (n := n) (W := fun p q => gr N X (sk i p) (sk k q)) (by omega) fun a c ha hc => hW _ _ (Gs.sk_lt hi ha) (Gs.sk_lt hk hc)).mono (m := 217) (by omega)
    unfold cI
    split
    · rw [Int.neg_one_mul]; exact h1.neg
    · rw [Int.one_mul]; exact h1
  obtain ⟨v1, v2⟩ := gF_dvd (g := (dI (n + 1) (gr N X)).natAbs) (f := flC n (gr N X)) (n := (n + 1) * (n + 1))
  generalize hD : dI (n + 1) (gr N X) = D at *
  generalize hG : gF D.natAbs (flC n (gr N X)) ((n + 1) * (n + 1)) = G at *
  have hGp : 0 < G := Nat.pos_of_dvd_of_pos v1 (by omega)
  have hGD : (G : Int) ∣ D := Int.ofNat_dvd_left.2 v1
  have hdiv : ∀ i k, i < n + 1 → k < n + 1 → (G : Int) ∣ cI n (gr N X) k i := fun i k hi hk => by
    have hb : (i + 1) * (n + 1) ≤ (n + 1) * (n + 1) := Nat.mul_le_mul_right _ (by omega)
    have hb2 : (i + 1) * (n + 1) = i * (n + 1) + (n + 1) := Nat.succ_mul ..
    have := v2 (i * (n + 1) + k) (by omega)
    unfold flC at this
    rw [Nat.mul_comm i, Nat.mul_add_mod, Nat.mod_eq_of_lt hk, Nat.mul_add_div (by omega), Nat.div_eq_of_lt hk, Nat.add_zero] at this
    exact Int.ofNat_dvd_left.2 this
  have hDs : Sz D := hdk.sz (by omega)
  have hDG : Sz (D / (G : Int)) := hDs.le (Int.natAbs_ediv_le_natAbs ..)
  have hDGp : 0 < D / (G : Int) := Int.ediv_pos_of_pos_of_dvd hd (by omega) hGD
  have k97 := p97 (Nu.zi hDs) (Nu.zi hDG) hDGp ⟨(G : Int), by rw [Int.ediv_mul_cancel hGD]⟩
  have hq : D / (D / (G : Int)) = G := by
    obtain ⟨q, hq⟩ := hGD
    rw [hq, Int.mul_ediv_cancel_left _ (by omega), Int.mul_ediv_cancel _ (by
      rintro rfl
      rw [Int.mul_zero] at hq; omega)]
  rw [hq] at k97
  have hA : ∀ i t, i < n + 1 → t < b.length → Sk 217 (cI n (gr N X) t i / (G : Int)) := fun i t hi ht => (hck t i (by omega) hi).le (Int.natAbs_ediv_le_natAbs ..)
  have hGs : Sz (G : Int) := hDs.le (by
    have := Nat.le_of_dvd (by omega) v1
    omega)
  have hsum : ∀ i c, i < n + 1 → c < N → Sk 226 (prM (n + 1) (fun i k => cI n (gr N X) k i / (G : Int)) X i c) := fun i c hi hc => sumI_sk (e := 225) (by omega) fun t ht => (hA i t hi (by omega)).mul (h.sz t c (by omega) hc)
  have hmul : ∀ i c, i < n + 1 → (G : Int) * prM (n + 1) (fun i k => cI n (gr N X) k i / (G : Int)) X i c = dmM (n + 1) N X i c := fun i c hi => by
    unfold prM dmM
    have key : ∀ m', m' ≤ n + 1 → (G : Int) * sumI (fun t => cI n (gr N X) t i / (G : Int) * X t c) m' = sumI (fun t => cI n (gr N X) t i * X t c) m' := by
      intro m'
      induction m' with
      | zero => intro _; simp [sumI]
      | succ m' ih =>
        intro hm'
        rw [sumI, sumI, Int.mul_add, ih (by omega), ← Int.mul_assoc, Int.mul_ediv_cancel' (hdiv i m' hi (by omega))]
    exact key _ (Nat.le_refl _)
  refine pu_of rp136 ?_
  rw [zi_raw (x := D), zi_raw (x := D / (G : Int))] at k97
  simp only [f23, args0, SA, setCells, Int.reduceLE, Int.reduceLT, ↓reduceIte, reduceCtorEq, Nat.reduceLT, Nat.reduceEqDiff, Nat.reduceAdd, Nat.reduceMul, Nat.reduceLeDiff, Nat.reduceBEq, kp1 k165, kp1 k166, zi_raw (x := D), kp1 k167, zi_raw (x := D / (G : Int)), kp2 k97]
  have hwf : Wf [Blk.kblk 2 [.p (.bool false), .nils], .kblk 2 (cz D), .kblk 2 (cz (D / (G : Int))), .kblk 2 (cz G)] := (((Wf.nil.push (x := .kblk 2 [.p (.bool false), .nils]) rfl).push (x := .kblk 2 (cz D)) rfl).push (x := .kblk 2 (cz (D / (G : Int)))) rfl).push (x := .kblk 2 (cz G)) rfl
  refine kc_keep' (n168 h hn h0 (e := 217) (m := n + 1) (by decide) (by omega) (by omega) (fun i t hi ht => hA i t hi (by omega)) hwf fun ρ k hp hwf2 hk hgk => ?_)
  have r0 : ρ[0]? = some (.kblk 2 [.p (.bool false), .nils]) := hp.get 0 (by simp)
  have r1 : ρ[1]? = some (.kblk 2 (cz D)) := hp.get 1 (by simp)
  have r3 : ρ[3]? = some (.kblk 2 (cz G)) := hp.get 3 (by simp)
  have hGn : Nu (.agg [.bool (decide ((G : Int) < 0) && decide (((G : Nat) : Int).natAbs ≠ 0)), .sl (lm (dgl ((G : Nat) : Int).natAbs))]) (G : Int) := Nu.zi hGs
  simp only [SA, setCells, Int.reduceLE, Int.reduceLT, ↓reduceIte, reduceCtorEq, Nat.reduceLT, Nat.reduceEqDiff, Nat.reduceAdd, Nat.reduceMul, Nat.reduceLeDiff, Nat.reduceBEq]
  refine loop_rule (β := Nat × Store) (fun t => ([(3, .ptr 0 0 0), (6, .ptr 1 0 0), (11, .ptr 3 0 0), (13, .own k 0 (n + 1)), (45, i64 (n + 1 : Nat)), (46, i64 t.1)], t.2))
    (fun t => t.1 ≤ n + 1 ∧ t.2[0]? = some (.kblk 2 [.p (.bool false), .nils]) ∧ t.2[1]? = some (.kblk 2 (cz D)) ∧ t.2[3]? = some (.kblk 2 (cz G)) ∧ t.2[k]? = some (.prow 1 (zM (n + 1) N fun a c => if a < t.1 then dmM (n + 1) N X a c else prM (n + 1) (fun i k => cI n (gr N X) k i / (G : Int)) X a c))) (fun t => n + 1 - t.1) ((0, ρ) : Nat × Store) rfl rfl ⟨Nat.zero_le _, r0, r1, r3, by simp only []; rw [hgk]; congr 2⟩ ?_
  clear hgk hk hp hwf2 hwf r0 r1 r3
  rintro ⟨i, τ⟩ ⟨hi, r0, r1, r3, hgk⟩ ih
  simp only [] at hi r0 r1 r3 hgk ih ⊢
  have lk := (List.getElem?_eq_some_iff.1 hgk).1
  by_cases hin : (i : Int) < (n + 1 : Nat)
  · have hi' : i < n + 1 := by omega
    have w1 : IntKind.i64.wrap ((i : Int) + 1) = ((i + 1 : Nat) : Int) := by rw [IntWalk.i64_in _ (by omega)]; omega
    have hrow := zM_get (m := n + 1) (n := N) (W := fun a c => if a < i then dmM (n + 1) N X a c else prM (n + 1) (fun i k => cI n (gr N X) k i / (G : Int)) X a c) hi'
    simp only [Nat.lt_irrefl, if_false] at hrow
    have k78 := p78F hGn (N := N) (f := fun c => prM (n + 1) (fun i k => cI n (gr N X) k i / (G : Int)) X i c) (by omega) fun c hc => (hsum i c hi' hc).sz (by omega)
    have k78' : Pu rp 59 [.agg [.bool (decide ((G : Int) < 0) && decide (((G : Nat) : Int).natAbs ≠ 0)), .sl (lm (dgl ((G : Nat) : Int).natAbs))], .sl (zF N (prM (n + 1) (fun i k => cI n (gr N X) k i / (G : Int)) X i))] (.p (.sl (zF N (dmM (n + 1) N X i)))) := by
      rw [show zF N (dmM (n + 1) N X i) = zF N (fun c => (G : Int) * prM (n + 1) (fun i k => cI n (gr N X) k i / (G : Int)) X i c) from zF_congr fun c _ => (hmul i c hi').symm]
      exact k78
    have hset : (zM (n + 1) N fun a c => if a < i then dmM (n + 1) N X a c else prM (n + 1) (fun i k => cI n (gr N X) k i / (G : Int)) X a c).set i (.sl (zF N (dmM (n + 1) N X i))) = zM (n + 1) N fun a c => if a < i + 1 then dmM (n + 1) N X a c else prM (n + 1) (fun i k => cI n (gr N X) k i / (G : Int)) X a c := by
      rw [zM_set]
      refine zM_congr fun a c ha hc => ?_
      show (if a = i then dmM (n + 1) N X i else fun c => _) c = _
      by_cases h1 : a = i
      · subst h1
        rw [if_pos rfl, if_pos (Nat.lt_succ_self a)]
      · rw [if_neg h1]
        by_cases h2 : a < i
        · rw [if_pos h2, if_pos (by omega)]
        · rw [if_neg h2, if_neg (by omega)]
    have k0 : k ≠ 0 := by rintro rfl; rw [r0] at hgk; cases hgk
    have k1 : k ≠ 1 := by rintro rfl; rw [r1] at hgk; cases hgk
    have k3 : k ≠ 3 := by rintro rfl; rw [r3] at hgk; cases hgk
    simp only [SA, setCells, Int.reduceLE, Int.reduceLT, ↓reduceIte, reduceCtorEq, Nat.reduceLT, Nat.reduceEqDiff, Nat.reduceAdd, Nat.reduceMul, Nat.reduceLeDiff, Nat.reduceBEq, hin, hi', Int.natCast_nonneg, Int.toNat_natCast, hgk, hrow, r3, cz, kz2 k78', hset, w1]
    refine ih (i + 1, τ.set k (.prow 1 (zM (n + 1) N fun a c => if a < i + 1 then dmM (n + 1) N X a c else prM (n + 1) (fun i k => cI n (gr N X) k i / (G : Int)) X a c))) _ ⟨by simp only []; omega, by simp only []; rw [get_ne k0]; exact r0, by simp only []; rw [get_ne k1]; exact r1, by simp only []; rw [get_ne k3]; exact r3, get_self lk⟩ (by simp only []; omega) ?_
    rfl
  · obtain rfl : i = n + 1 := by omega
    have l0 := (List.getElem?_eq_some_iff.1 r0).1
    have k0 : (0 : Nat) ≠ k := by rintro rfl; rw [r0] at hgk; cases hgk
    have e1 : ∀ x, (τ.set 0 x)[0]? = some x := fun x => get_self l0
    simp only [SA, setCells, Int.reduceLE, Int.reduceLT, ↓reduceIte, reduceCtorEq, Nat.reduceLT, Nat.reduceEqDiff, Nat.reduceAdd, Nat.reduceMul, Nat.reduceLeDiff, Nat.reduceBEq, hin, r0, r1, cz, e1]
    have hgk2 : ∀ x : Blk, (τ.set 0 x)[k]? = some (.prow 1 (zM (n + 1) N (dmM (n + 1) N X))) := fun x => by
      rw [get_ne k0, hgk]
      congr 2
      refine zM_congr fun a c ha hc => ?_
      rw [if_pos ha]
    exact back_t2 (GL.own (hgk2 _) zM_len.symm).back1 back1_p
end
end Go.Proofs.YtdieenbfdeaffaaGreat.VDd

namespace Go.Proofs.YtdieenbfdeaffaaGreat.VDd
open Go Vpi
open VBn hiding rp tab rp_ok all_ok mixed sim Big
set_option maxRecDepth 100000
set_option linter.unusedSimpArgs false
set_option linter.unusedVariables false

open Gs (V Dv Pos dI sk cI sumI)

section
variable {b : List PV} {nn : Nat → Nat} {X : Nat → Nat → Int}

theorem vE_zero {m : Nat} (h : vE nn X m = 0) : shE nn X m = 0 ∧ Pos (gr (nn 0) X) m := by
  unfold vE at h
  by_cases hs : shE nn X m = 0
  · refine ⟨hs, ?_⟩
    rw [if_neg (by simp [hs])] at h
    by_cases hp : Pos (gr (nn 0) X) m
    · exact hp
    · rw [if_neg hp] at h; cases h
  · rw [if_pos hs] at h
    exact absurd h hs

structure Vb (b : List PV) (N : Nat) (X : Nat → Nat → Int) : Prop where
  bs : Bs b N X
  ne : b.length ≠ 0
  pos : Pos (gr N X) b.length

theorem vb_of (hb : MR b nn X) (h : vE nn X b.length = 0) : Vb b (nn 0) X := by
  obtain ⟨h1, h2⟩ := vE_zero h
  exact ⟨MR.bs hb h1, (shE_zero h1).2.1, h2⟩

theorem Vb.dI {N : Nat} (h : Vb b N X) : 0 < dI b.length (gr N X) := by
  rw [Gs.dI_Dv gr_symm h.pos]
  have h0 := h.ne
  obtain ⟨n, hn⟩ : ∃ n, b.length = n + 1 := ⟨b.length - 1, by omega⟩
  have := h.pos n (by omega)
  rw [hn]
  exact this

theorem p102 (hb : MR b nn X) (hlb : b.length ≤ 2000000) (hv : vE nn X b.length = 0) : Pu rp 6 [.sl b] (.tup [.p (.sl (zM b.length (nn 0) (dmM b.length (nn 0) X))), .p (zi (Gs.dI b.length (gr (nn 0) X))), .p (.int .i64 0)]) := by
  have h := vb_of hb hv
  have k59 := (VBn.p59 hb hlb).lift base_le
  rw [hv] at k59
  have k136 := p136 h.bs h.ne h.dI
  refine pu_of rp102 ?_
  rw [zi_raw (x := Gs.dI b.length (gr (nn 0) X))] at k136 ⊢
  simp only [f6, args0, SA, setCells, Int.reduceLE, Int.reduceLT, ↓reduceIte, reduceCtorEq, Nat.reduceLT, Nat.reduceEqDiff, Nat.reduceAdd, Nat.reduceMul, Nat.reduceLeDiff, Nat.reduceBEq, kp1 k59, bne_self_eq_false, kp1 k136]
  exact back_t3 back1_p back1_p back1_p

theorem e102 (hb : MR b nn X) (hlb : b.length ≤ 2000000) (hv : vE nn X b.length ≠ 0) : Pu rp 6 [.sl b] (.tup [.p (.sl []), .p (.agg [.bool false, .sl []]), .p (.int .i64 (vE nn X b.length))]) := by
  have k59 := (VBn.p59 hb hlb).lift base_le
  have e0 : (vE nn X b.length != 0) = true := by simp [hv]
  refine pu_of rp102 ?_
  simp only [f6, args0, SA, setCells, Int.reduceLE, Int.reduceLT, ↓reduceIte, reduceCtorEq, Nat.reduceLT, Nat.reduceEqDiff, Nat.reduceAdd, Nat.reduceMul, Nat.reduceLeDiff, Nat.reduceBEq, kp1 k59, e0]
  rfl

/-! ### the dual rows meet their own rows alone -/

theorem sumI_add {f g : Nat → Int} : ∀ {n : Nat}, sumI (fun t => f t + g t) n = sumI f n + sumI g n
  | 0 => rfl
  | n + 1 => by
    simp only [sumI]
    rw [sumI_add]
    omega

theorem sumI_mul {c : Int} {f : Nat → Int} : ∀ {n : Nat}, sumI (fun t => c * f t) n = c * sumI f n
  | 0 => by simp [sumI]
  | n + 1 => by
    simp only [sumI]
    rw [sumI_mul, Int.mul_add]

theorem dot_sum {x : Nat → Int} {C : Nat → Int} {Y : Nat → Nat → Int} {m : Nat} : ∀ {N : Nat}, dotI x (fun c => sumI (fun t => C t * Y t c) m) N = sumI (fun t => C t * dotI x (Y t) N) m
  | 0 => by
    simp only [dotI]
    rw [Gs.sumI_congr (g := fun _ => 0) fun t _ => Int.mul_zero _]
    have : ∀ m, sumI (fun _ => 0) m = 0 := fun m => by
      induction m with
      | zero => rfl
      | succ m ih => rw [sumI, ih]; rfl
    exact (this m).symm
  | N + 1 => by
    simp only [dotI]
    rw [dot_sum, ← sumI_mul, ← sumI_add]
    refine Gs.sumI_congr fun t _ => ?_
    rw [Int.mul_add, Int.mul_left_comm]

theorem pairs_eq {N n : Nat} {X : Nat → Nat → Int} {i k : Nat} (hi : i < n + 1) (hk : k < n + 1) : dotI (X i) (dmM (n + 1) N X k) N = if i = k then Gs.dI (n + 1) (gr N X) else 0 := by
  show dotI (X i) (fun c => sumI (fun t => cI n (gr N X) t k * X t c) (n + 1)) N = _
  rw [dot_sum, ← Gs.adjI_col (g := gr N X) hk hi]
  refine Gs.sumI_congr fun t _ => ?_
  rw [Int.mul_comm, gr_symm t i]
  rfl
end
end Go.Proofs.YtdieenbfdeaffaaGreat.VDd

namespace Go.Proofs.YtdieenbfdeaffaaGreat.VDd
open Go Vpi
open VBn hiding rp tab rp_ok all_ok mixed sim Big
set_option maxRecDepth 100000
set_option linter.unusedSimpArgs false
set_option linter.unusedVariables false

open Gs (V Dv Pos dI sk cI sumI)

theorem rp7 : rp 7 = some f7 := rfl

theorem ex_frzk_no {rp : RProg} {rs : List RRes} {ks : List KI} {e : Env} {σ : Store} {Q : CV → Store → Prop} {t : Nat} {c : RCode} (h : ∀ b o n, gt e t = .own b o n → False) :
    Ex rp rs (.frzk t c) ks e σ Q = Ex rp rs c ks e σ Q := ex_step fun n => by
  cases hg : gt e t with
  | own b o n => exact absurd hg (fun h' => h _ _ _ h')
  | _ => simp only [runK, hg]

section
variable {b m : List PV} {nn : Nat → Nat} {X Y : Nat → Nat → Int} {L N : Nat}

theorem e7 (hb : MR b nn X) (hlb : b.length ≤ 2000000) (hv : vE nn X b.length ≠ 0) : Pu rp 7 [.sl b, .sl m] (.tup [.p (.sl []), .p (.int .i64 (vE nn X b.length))]) := by
  have k59 := (VBn.p59 hb hlb).lift base_le
  have e0 : (vE nn X b.length != 0) = true := by simp [hv]
  refine pu_of rp7 ?_
  simp only [f7, args0, SA, setCells, Int.reduceLE, Int.reduceLT, ↓reduceIte, reduceCtorEq, Nat.reduceLT, Nat.reduceEqDiff, Nat.reduceAdd, Nat.reduceMul, Nat.reduceLeDiff, Nat.reduceBEq, kz1 k59, e0]
  rw [ex_frzk_no (by intro b o n h; cases h)]
  simp only [SA, setCells, Int.reduceLE, Int.reduceLT, ↓reduceIte, reduceCtorEq, Nat.reduceLT, Nat.reduceEqDiff, Nat.reduceAdd, Nat.reduceMul, Nat.reduceLeDiff, Nat.reduceBEq]
  rfl

section
variable {rp : RProg} {rs : List RRes} {d : Option Nat} {l : List LOp} {e : Env} {ρ : Store} {Q : CV → Store → Prop} {c : CV} {sz : Nat} {es xs : List PV}
theorem r_app_h3 {a : Blk} {s x : Opd} {bytes : Nat} {dr : Dr} {ks : List KI} (h : GL ρ sz c es) (hc : (es.length + xs.length) * bytes ≤ 140737488355328) (hs : vl e s = c) (hx : vl e x = .own (ρ.length + 1) 0 xs.length) (hz : allSz sz xs = true) :
    ExR rp rs (ρ.length + 1) (⟨d, none, some 1, .append sz bytes s x⟩ :: l) dr ks e (ρ ++ [a, .prow sz xs, .hole]) Q = ExR rp rs (ρ.length + 1) l dr ks (sto d (.own (ρ.length + 2) 0 (es.length + xs.length)) e) (nd ρ c ++ [a, .prow sz xs, .prow sz (es ++ xs)]) Q := by
  rw [r_append]
  have h1 : content (ρ ++ [a, .prow sz xs, .hole]) (vl e s) = some es := by rw [hs]; exact h.left.content
  have h2 : content (ρ ++ [a, .prow sz xs, .hole]) (vl e x) = some xs := by rw [hx]; exact cont_own (s := sz) (by rw [get_app]; rfl) rfl
  have hlt := h.lt.2
  simp only [ev, h1, h2, hc, hz, and_self, if_true]
  rcases h with ⟨rfl, rfl⟩ | ⟨b, rfl, hb⟩
  · rw [hs]
    simp only [push_sl, Nat.add_assoc, Nat.reduceAdd, get_app, List.getElem?_cons_succ, List.getElem?_cons_zero, set_app, List.set_cons_succ, List.set_cons_zero, Option.map_some, ke_some]
    rfl
  · rw [hs]
    have hbl := hlt b 0 _ rfl
    have h3 : (ρ ++ [a, .prow sz xs, .hole])[b]? = some (.prow sz es) := by rw [get_left hbl]; exact hb
    have h4 : (ρ ++ [a, Blk.prow sz xs, .hole]).set b .dead = ρ.set b .dead ++ [a, .prow sz xs, .hole] := set_left hbl
    have h5 : (ρ.set b .dead ++ [a, Blk.prow sz xs, .hole])[ρ.length + 2]? = some .hole := by rw [show ρ.length = (ρ.set b .dead).length by rw [List.length_set], get_app]; rfl
    have h6 : ∀ x : Blk, (ρ.set b .dead ++ [a, Blk.prow sz xs, .hole]).set (ρ.length + 2) x = ρ.set b .dead ++ [a, .prow sz xs, x] := fun x => by rw [show ρ.length = (ρ.set b .dead).length by rw [List.length_set], set_app]; rfl
    simp only [h3, if_true, h4, push_sl, Nat.add_assoc, Nat.reduceAdd, h5, h6, Option.map_some, ke_some]
    rfl
end

structure RowsL (τ : Store) (cs : List CV) (n : Nat) (R : Nat → List PV) : Prop where
  len : cs.length = n
  row : ∀ a, a < n → ∃ c, cs[a]? = some c ∧ GL τ 2 c (R a)
  ne : ∀ a a' b b' o o' k k' : Nat, a ≠ a' → cs[a]? = some (.own b o k) → cs[a']? = some (.own b' o' k') → b ≠ b'

theorem RowsL.app {τ : Store} {cs : List CV} {n : Nat} {R : Nat → List PV} (h : RowsL τ cs n R) {l : Store} : RowsL (τ ++ l) cs n R :=
  ⟨h.len, fun a ha => by obtain ⟨c, h1, h2⟩ := h.row a ha; exact ⟨c, h1, h2.left⟩, h.ne⟩

theorem RowsL.grow {τ : Store} {cs : List CV} {n i : Nat} {R : Nat → List PV} {c : CV} {es es' : List PV} (h : RowsL τ cs n R) (hi : i < n) (hc : cs[i]? = some c) (hg : GL τ 2 c es) {l : Store} {t k : Nat} (hl : l[t]? = some (.prow 2 es')) (hk : k = es'.length) :
    RowsL (nd τ c ++ l) (cs.set i (.own (τ.length + t) 0 k)) n (fun a => if a = i then es' else R a) := by
  have hlen : (nd τ c).length = τ.length := nd_len
  have hnew : (nd τ c ++ l)[τ.length + t]? = some (.prow 2 es') := by rw [← hlen, get_app]; exact hl
  have hap : ∀ a c', a ≠ i → cs[a]? = some c' → ∀ b o k b' o' k', c' = .own b o k → c = .own b' o' k' → b ≠ b' := fun a c' hai hc' b o k b' o' k' e1 e2 => h.ne a i b b' o o' k k' hai (by rw [hc', e1]) (by rw [hc, e2])
  have hlt : ∀ a b o k, a < n → cs[a]? = some (.own b o k) → b < τ.length := fun a b o k ha hb => by
    obtain ⟨c', h1, h2⟩ := h.row a ha
    rw [hb] at h1
    cases h1
    exact h2.lt.2 _ _ _ rfl
  refine ⟨by rw [List.length_set]; exact h.len, fun a ha => ?_, fun a a' b b' o o' k1 k2 hne h1 h2 => ?_⟩
  · by_cases hai : a = i
    · subst hai
      refine ⟨_, List.getElem?_set_self (by rw [h.len]; exact hi), ?_⟩
      rw [if_pos rfl]
      exact .own hnew hk
    · obtain ⟨c', h1, h2⟩ := h.row a ha
      refine ⟨c', by rw [List.getElem?_set_ne (Ne.symm hai)]; exact h1, ?_⟩
      rw [if_neg hai]
      exact (VBn.GL.nd h2 fun b o k b' o' k' e1 e2 => hap a c' hai h1 b o k b' o' k' e1 e2).left
  · have hlt2 : ∀ {a x}, (cs.set i (.own (τ.length + t) 0 k))[a]? = some x → a < n := fun {a x} hx => by
      have := (List.getElem?_eq_some_iff.1 hx).1
      rw [List.length_set, h.len] at this
      exact this
    have ha := hlt2 h1
    have ha' := hlt2 h2
    by_cases hai : a = i
    · subst hai
      rw [List.getElem?_set_self (by rw [h.len]; exact ha)] at h1
      cases h1
      rw [List.getElem?_set_ne hne] at h2
      have := hlt a' b' o' k2 ha' h2
      omega
    · rw [List.getElem?_set_ne (Ne.symm hai)] at h1
      by_cases hai' : a' = i
      · subst hai'
        rw [List.getElem?_set_self (by rw [h.len]; exact ha')] at h2
        cases h2
        have := hlt a b o k1 ha h1
        omega
      · rw [List.getElem?_set_ne (Ne.symm hai')] at h2
        exact h.ne a a' b b' o o' k1 k2 hne h1 h2

theorem RowsL.frzL {τ : Store} : ∀ {n : Nat} {cs : List CV} {R : Nat → List PV}, cs.length = n → (∀ a, a < n → ∃ c, cs[a]? = some c ∧ GL τ 2 c (R a)) → frzL τ cs = some ((List.range n).map fun a => .sl (R a))
  | 0, [], R, _, _ => rfl
  | 0, _ :: _, R, h, _ => by simp at h
  | n + 1, [], R, h, _ => by simp at h
  | n + 1, c :: cs, R, h, hr => by
    obtain ⟨c0, h1, h2⟩ := hr 0 (by omega)
    simp at h1
    subst h1
    have ih := RowsL.frzL (n := n) (cs := cs) (R := fun a => R (a + 1)) (by simpa using h) fun a ha => hr (a + 1) (by omega)
    simp only [Vpi.frzL, h2.frz1, ih, Option.map_some]
    rw [List.range_succ_eq_map]
    simp

theorem RowsL.killL {τ : Store} {cs : List CV} {n j s : Nat} {R : Nat → List PV} {xs : List CV} (h : RowsL τ cs n R) (hj : τ[j]? = some (.kblk s xs)) : (∀ c, c ∈ cs → ∀ b o k, c = .own b o k → b ≠ j) := by
  rintro c hc b o k rfl
  obtain ⟨a, ha⟩ := List.getElem?_of_mem hc
  have hal : a < n := by rw [← h.len]; exact (List.getElem?_eq_some_iff.1 ha).1
  obtain ⟨c', h1, h2⟩ := h.row a hal
  rw [ha] at h1
  cases h1
  exact VBn.GL.nek h2 hj _ _ _ rfl

theorem RowsL.notin {τ : Store} {cs : List CV} {n j s : Nat} {R : Nat → List PV} {xs : List CV} (h : RowsL τ cs n R) (hj : τ[j]? = some (.kblk s xs)) : (cs.flatMap own0).elem j = false := by
  rw [Bool.eq_false_iff]
  intro he
  have hm := List.elem_iff.1 he
  obtain ⟨c, hc, hb⟩ := List.mem_flatMap.1 hm
  cases c <;> simp [own0] at hb
  exact h.killL hj _ hc _ _ _ rfl hb.symm

theorem GL.elem {τ : Store} {c : CV} {es : List PV} {j s : Nat} {xs : List CV} (h : GL τ 2 c es) (hj : τ[j]? = some (.kblk s xs)) : List.elem j (ownsOf c) = false := by
  have := VBn.GL.nek h hj
  rcases h with ⟨rfl, _⟩ | ⟨b, rfl, _⟩
  · rfl
  · have h2 := this _ _ _ rfl
    simp [ownsOf, own0, Ne.symm h2]

structure Fp (b m : List PV) (B : Nat) (τ : Store) (cs : List CV) (R : Nat → List PV) : Prop where
  h0 : τ[0]? = some (.kblk 1 [.p (.sl b)])
  h1 : τ[1]? = some (.kblk 1 [.p (.sl m)])
  h2 : τ[2]? = some (.kblk 1 [.nils])
  h3 : τ[3]? = some (.kblk 1 [.p (.int .i64 0)])
  h5 : τ[5]? = some (.kblk 1 cs)
  h6 : τ[6]? = some (.kblk 1 [.own 5 0 B])
  ro : RowsL τ cs B R

theorem Fp.push {B : Nat} {τ : Store} {cs : List CV} {R : Nat → List PV} (h : Fp b m B τ cs R) {l : Store} : Fp b m B (τ ++ l) cs R := by
  obtain ⟨a0, a1, a2, a3, a5, a6, r⟩ := h
  exact ⟨by rw [get_left (List.getElem?_eq_some_iff.1 a0).1]; exact a0, by rw [get_left (List.getElem?_eq_some_iff.1 a1).1]; exact a1, by rw [get_left (List.getElem?_eq_some_iff.1 a2).1]; exact a2, by rw [get_left (List.getElem?_eq_some_iff.1 a3).1]; exact a3, by rw [get_left (List.getElem?_eq_some_iff.1 a5).1]; exact a5, by rw [get_left (List.getElem?_eq_some_iff.1 a6).1]; exact a6, r.app⟩

theorem Fp.congr {B : Nat} {τ : Store} {cs : List CV} {R R' : Nat → List PV} (h : Fp b m B τ cs R) (hr : ∀ a, a < B → R a = R' a) : Fp b m B τ cs R' :=
  ⟨h.h0, h.h1, h.h2, h.h3, h.h5, h.h6, ⟨h.ro.len, fun a ha => by obtain ⟨c, h1, h2⟩ := h.ro.row a ha; exact ⟨c, h1, hr a ha ▸ h2⟩, h.ro.ne⟩⟩

theorem RowsL.setk {τ : Store} {cs : List CV} {n j s : Nat} {R : Nat → List PV} {xs : List CV} (h : RowsL τ cs n R) (hj : τ[j]? = some (.kblk s xs)) {x : Blk} : RowsL (τ.set j x) cs n R :=
  ⟨h.len, fun a ha => by obtain ⟨c, h1, h2⟩ := h.row a ha; exact ⟨c, h1, h2.set hj⟩, h.ne⟩

theorem Fp.grow {B i : Nat} {τ : Store} {cs : List CV} {R : Nat → List PV} {c : CV} {es es' : List PV} (h : Fp b m B τ cs R) (hi : i < B) (hc : cs[i]? = some c) (hg : GL τ 2 c es) {l : Store} {t k : Nat} (hl : l[t]? = some (.prow 2 es')) (hk : k = es'.length) :
    Fp b m B ((nd τ c).set 5 (.kblk 1 (cs.set i (.own (τ.length + t) 0 k))) ++ l) (cs.set i (.own (τ.length + t) 0 k)) (fun a => if a = i then es' else R a) := by
  obtain ⟨a0, a1, a2, a3, a5, a6, r⟩ := h
  have l5 : 5 < (nd τ c).length := by rw [nd_len]; exact (List.getElem?_eq_some_iff.1 a5).1
  have g5 : (nd τ c ++ l)[5]? = some (.kblk 1 cs) := GL.kb hg a5
  have hr := (r.grow hi hc hg hl hk).setk g5 (x := .kblk 1 (cs.set i (.own (τ.length + t) 0 k)))
  rw [set_left l5] at hr
  have e : ∀ j xs, j ≠ 5 → τ[j]? = some (.kblk 1 xs) → ((nd τ c).set 5 (.kblk 1 (cs.set i (.own (τ.length + t) 0 k))) ++ l)[j]? = some (.kblk 1 xs) := fun j xs hj hx => by
    rw [← set_left l5, get_ne (Ne.symm hj)]
    exact GL.kb hg hx
  exact ⟨e _ _ (by decide) a0, e _ _ (by decide) a1, e _ _ (by decide) a2, e _ _ (by decide) a3, by rw [get_left (by rw [List.length_set]; exact l5), get_self l5], e _ _ (by decide) a6, hr⟩

theorem p7 (hb : MR b nn X) (hlb : b.length ≤ 2000000) (hv : vE nn X b.length = 0) (hN : nn 0 = N) (hmL : m.length = L) (hL : L ≤ 2000000) (hm : ∀ j, j < L → ∃ s, m[j]? = some (.sl s) ∧ s.length = N ∧ NuR s (Y j))
    (hz : ∀ i j k, i < b.length → j < L → k ≤ N → Sz (dotI (X i) (Y j) k)) (hz2 : ∀ i j k, i < b.length → j < L → k < N → Sz (X i k * Y j k)) :
    Pu rp 7 [.sl b, .sl m] (.tup [.p (.sl (zM b.length L fun i j => dotI (X i) (Y j) N)), .p (.int .i64 0)]) := by
  subst hN
  have hV := vb_of hb hv
  have k59 := (VBn.p59 hb hlb).lift base_le
  rw [hv] at k59
  have hbm := hV.bs.m
  have hbn := hV.bs.n
  have hb0 := hV.ne
  obtain ⟨r0, g1, g2, g3⟩ := hV.bs.row 0 (by omega)
  have i0 : Int.toNat 0 = 0 := rfl
  refine pu_of rp7 ?_
  simp only [f7, args0, SA, setCells, Int.reduceLE, Int.reduceLT, ↓reduceIte, reduceCtorEq, Nat.reduceLT, Nat.reduceEqDiff, Nat.reduceAdd, Nat.reduceMul, Nat.reduceLeDiff, Nat.reduceBEq, kz1 k59, bne_self_eq_false]
  refine kc_keep' (n95 ?_ (.inl ⟨_, rfl⟩))
  simp only [SA, setCells, Int.reduceLE, Int.reduceLT, ↓reduceIte, reduceCtorEq, Nat.reduceLT, Nat.reduceEqDiff, Nat.reduceAdd, Nat.reduceMul, Nat.reduceLeDiff, Nat.reduceBEq]
  refine x_each (c := .p (.sl m)) (n := L) (bx := 4) (gf := 60) rfl rfl rfl (by rw [← hmL]; rfl) (by omega) rfl rfl (fun i τ => τ = [.kblk 1 [.p (.sl b)], .kblk 1 [.p (.sl m)], .kblk 1 [.nils], .kblk 1 [i64 0], .kblk 1 [.p (.sl m)]]) (fun _ => False) rfl ?_ ?_ ?_
  · rintro i τ hi rfl
    obtain ⟨s, h1, h2, h3⟩ := hm i hi
    refine ⟨.p (.sl s), by simp [elC, h1, PV.cells, subPV], ?_⟩
    have e1 : ((s.length : Int) != (r0.length : Int)) = false := by rw [h2, g2]; simp
    simp only [stL, SA, setCells, Int.reduceLE, Int.reduceLT, ↓reduceIte, reduceCtorEq, Nat.reduceLT, Nat.reduceEqDiff, Nat.reduceAdd, Nat.reduceMul, Nat.reduceLeDiff, Nat.reduceBEq, g1, i0, Int.le_refl, e1, ex_fin]
    exact .inl trivial
  · rintro τ rfl
    have m1 : ((24 : Nat) : Int) * (b.length : Int) ≤ 281474976710656 := by omega
    have m2 : (b.length : Int) ≤ 9223372036854775807 := by omega
    simp only [SA, setCells, Int.reduceLE, Int.reduceLT, ↓reduceIte, reduceCtorEq, Nat.reduceLT, Nat.reduceEqDiff, Nat.reduceAdd, Nat.reduceMul, Nat.reduceLeDiff, Nat.reduceBEq, Int.natCast_nonneg, m1, m2, Int.le_refl, Int.toNat_natCast]
    refine kc_keep' (n95 ?_ (.inl ⟨_, rfl⟩))
    simp only [SA, setCells, Int.reduceLE, Int.reduceLT, ↓reduceIte, reduceCtorEq, Nat.reduceLT, Nat.reduceEqDiff, Nat.reduceAdd, Nat.reduceMul, Nat.reduceLeDiff, Nat.reduceBEq]
    generalize hP : (fun (i j : Nat) => dotI (X i) (Y j) (nn 0)) = P
    refine x_each (c := .p (.sl b)) (n := b.length) (bx := 7) (gf := 60) rfl rfl rfl rfl (by omega) rfl rfl (fun i τ => ∃ cs, Fp b m b.length τ cs (fun a => if a < i then zF L (P a) else [])) (fun _ => False) ?_ ?_ ?_ ?_
    · refine ⟨List.replicate b.length .nils, rfl, rfl, rfl, rfl, rfl, rfl, ⟨List.length_replicate, fun a ha => ⟨.nils, by simp [ha], by rw [if_neg (by omega)]; exact .nil⟩, fun a a' q q' o o' k k' _ h1 => ?_⟩⟩
      rw [List.getElem?_replicate] at h1
      split at h1 <;> cases h1
    · rintro i τ hi ⟨cs, hF⟩
      obtain ⟨r, h1, h2, h3⟩ := hV.bs.row i hi
      refine ⟨.p (.sl r), by simp [elC, h1, PV.cells, subPV], ?_⟩
      have e1 : ∀ l, (τ ++ l)[1]? = some (.kblk 1 [.p (.sl m)]) := fun l => hF.push.h1
      simp only [stL, SA, setCells, Int.reduceLE, Int.reduceLT, ↓reduceIte, reduceCtorEq, Nat.reduceLT, Nat.reduceEqDiff, Nat.reduceAdd, Nat.reduceMul, Nat.reduceLeDiff, Nat.reduceBEq, e1]
      refine kc_keep' (n95 ?_ (.inl ⟨_, rfl⟩))
      simp only [SA, setCells, Int.reduceLE, Int.reduceLT, ↓reduceIte, reduceCtorEq, Nat.reduceLT, Nat.reduceEqDiff, Nat.reduceAdd, Nat.reduceMul, Nat.reduceLeDiff, Nat.reduceBEq]
      refine x_each (c := .p (.sl m)) (n := L) (bx := τ.length + 2) (gf := 60) rfl rfl (by rw [get_app]; rfl) (by rw [← hmL]; rfl) (by omega) rfl rfl (fun j τ' => τ'[τ.length]? = some (.kblk 1 [.p (.int .i64 i)]) ∧ τ'[τ.length + 1]? = some (.kblk 1 [.p (.sl r)]) ∧ ∃ cs, Fp b m b.length τ' cs (fun a => if a = i then zF j (P i) else if a < i then zF L (P a) else [])) (fun _ => False) ?_ ?_ ?_ ?_
      · refine ⟨get_app0, by rw [get_app]; rfl, cs, (hF.congr fun a ha => ?_).push⟩
        by_cases h : a = i
        · subst h
          rw [if_neg (Nat.lt_irrefl a), if_pos rfl]; rfl
        · rw [if_neg h]
      · have hq5 : 5 < τ.length := Nat.lt_of_succ_lt (List.getElem?_eq_some_iff.1 hF.h6).1
        generalize τ.length = q at *
        clear hF e1
        rintro j τ' hj ⟨hq0, hq1, cs, hF⟩
        obtain ⟨s, k1, k2, k3⟩ := hm j hj
        refine ⟨.p (.sl s), by simp [elC, k1, PV.cells, subPV], ?_⟩
        have k169 := (VBn.p169g h3 k3 (by rw [h2, k2]) (by omega) (fun k hk => hz i j k hi hj (by omega)) fun k hk => hz2 i j k hi hj (by omega)).lift base_le
        rw [h2, show dotI (X i) (Y j) (nn 0) = P i j by rw [← hP]] at k169
        obtain ⟨c, c1, c2⟩ := hF.ro.row i hi
        rw [if_pos rfl] at c2
        have hcl := hF.ro.len
        have hc : ((zF j (P i)).length + [zi (P i j)].length) * 32 ≤ 140737488355328 := by rw [zF_len]; simp; omega
        have hsuc := zF_suc (n := j) (f := P i)
        have hraw := (zi_raw (x := P i j)).symm
        have a6 : ∀ l, (τ' ++ l)[6]? = some (.kblk 1 [.own 5 0 b.length]) := fun l => hF.push.h6
        have a5 : ∀ l, (τ' ++ l)[5]? = some (.kblk 1 cs) := fun l => hF.push.h5
        have aq : ∀ l, (τ' ++ l)[q]? = some (.kblk 1 [.p (.int .i64 i)]) := fun l => by rw [get_left (List.getElem?_eq_some_iff.1 hq0).1]; exact hq0
        have b5 : ∀ l, (nd τ' c ++ l)[5]? = some (.kblk 1 cs) := fun l => GL.kb c2 hF.h5
        have l5 : 5 < (nd τ' c).length := by rw [nd_len]; exact (List.getElem?_eq_some_iff.1 hF.h5).1
        have s5 : ∀ l x, (nd τ' c ++ l).set 5 x = (nd τ' c).set 5 x ++ l := fun l x => set_left l5
        have c1' : cs[i * 1]? = some c := by rw [Nat.mul_one]; exact c1
        have hs1 : setCells cs (i * 1) [.own (τ'.length + 2) 0 (j + 1)] = cs.set i (.own (τ'.length + 2) 0 (j + 1)) := setC1 (by omega)
        have l1 : i * 1 + 1 ≤ cs.length := by omega
        have sc0 : ∀ x y : CV, setCells [CV.p (.bool false), .nils] 0 [x, y] = [x, y] := fun _ _ => rfl
        simp only [stL, SA, Int.reduceLE, Int.reduceLT, ↓reduceIte, reduceCtorEq, Nat.reduceLT, Nat.reduceEqDiff, Nat.reduceAdd, Nat.reduceMul, Nat.reduceLeDiff, Nat.reduceBEq, hq1, kz2 k169, sc0, hraw, a6, aq, a5, c1', hi, Int.natCast_nonneg, Int.toNat_natCast, push_sl, r_app_h3 c2 hc, hsuc, zF_len, b5, s5, hs1, l1]
        have el6 := GL.elem c2 hF.h6
        have elq := GL.elem c2 hq0
        have em6 : ¬ 6 ∈ ownsOf c := fun h => by rw [List.elem_iff.2 h] at el6; cases el6
        have emq : ¬ q ∈ ownsOf c := fun h => by rw [List.elem_iff.2 h] at elq; cases elq
        have oo : ∀ b o n, ownsOf (.own b o n) = [b] := fun _ _ _ => rfl
        have op : ∀ v, ownsOf (.p v) = [] := fun _ => rfl
        have ot : ∀ b i o, ownsOf (.ptr b i o) = [] := fun _ _ _ => rfl
        rw [r_nilx]
        refine ⟨by simp [apartAt, apartB, foot, addrs, oo, op, ot, vl, gt, em6, emq], ?_⟩
        have hg := hF.grow hi c1 c2 (l := [.kblk 2 (cz (P i j)), .prow 2 [zi (P i j)], .prow 2 (zF (j + 1) (P i))]) (t := 2) (k := j + 1) rfl zF_len.symm
        have kq : ∀ t xs, 5 < t → τ'[t]? = some (.kblk 1 xs) → ∀ x l, ((nd τ' c).set 5 x ++ l)[t]? = some (.kblk 1 xs) := fun t xs ht hx x l => by
          rw [← s5, get_ne (by omega)]
          exact GL.kb c2 hx
        simp only [SA, setCells, Int.reduceLE, Int.reduceLT, ↓reduceIte, reduceCtorEq, Nat.reduceLT, Nat.reduceEqDiff, Nat.reduceAdd, Nat.reduceMul, Nat.reduceLeDiff, Nat.reduceBEq, ex_fin]
        refine .inl ⟨kq _ _ hq5 hq0 _ _, kq _ _ (by omega) hq1 _ _, _, hg.congr fun a ha => ?_⟩
        by_cases h : a = i
        · subst h
          rw [if_pos rfl, if_pos rfl]
        · rw [if_neg h, if_neg h, if_neg h]
      · rintro τ' ⟨hq0, hq1, cs, hF⟩
        simp only [SA, setCells, Int.reduceLE, Int.reduceLT, ↓reduceIte, reduceCtorEq, Nat.reduceLT, Nat.reduceEqDiff, Nat.reduceAdd, Nat.reduceMul, Nat.reduceLeDiff, Nat.reduceBEq, ex_fin]
        refine .inl ⟨cs, hF.congr fun a ha => ?_⟩
        by_cases h : a = i
        · subst h
          rw [if_pos rfl, if_pos (Nat.lt_succ_self a)]
        · rw [if_neg h]
          by_cases h' : a < i
          · rw [if_pos h', if_pos (by omega)]
          · rw [if_neg h', if_neg (by omega)]
      · intro τ h; cases h
    · rintro τ ⟨cs, hF⟩
      have e2 : ∀ x, (τ.set 2 x)[3]? = some (.kblk 1 [.p (.int .i64 0)]) := fun x => by rw [get_ne (by decide)]; exact hF.h3
      simp only [SA, setCells, Int.reduceLE, Int.reduceLT, ↓reduceIte, reduceCtorEq, Nat.reduceLT, Nat.reduceEqDiff, Nat.reduceAdd, Nat.reduceMul, Nat.reduceLeDiff, Nat.reduceBEq, hF.h6, hF.h2, e2]
      have l2 := (List.getElem?_eq_some_iff.1 hF.h2).1
      have l3 := (List.getElem?_eq_some_iff.1 hF.h3).1
      have r1 := (hF.ro.setk hF.h2 (x := .kblk 1 [.own 5 0 b.length])).setk (e2 _) (x := .kblk 1 [.p (.int .i64 0)])
      have hk5 : ((τ.set 2 (.kblk 1 [.own 5 0 b.length])).set 3 (.kblk 1 [.p (.int .i64 0)]))[5]? = some (.kblk 1 cs) := by rw [get_ne (by decide), get_ne (by decide)]; exact hF.h5
      have hk2 : ((τ.set 2 (.kblk 1 [.own 5 0 b.length])).set 3 (.kblk 1 [.p (.int .i64 0)]))[2]? = some (.kblk 1 [.own 5 0 b.length]) := by rw [get_ne (by decide), get_self l2]
      have hk3 : ((τ.set 2 (.kblk 1 [.own 5 0 b.length])).set 3 (.kblk 1 [.p (.int .i64 0)]))[3]? = some (.kblk 1 [.p (.int .i64 0)]) := get_self (by rw [List.length_set]; exact l3)
      generalize (τ.set 2 (.kblk 1 [.own 5 0 b.length])).set 3 (.kblk 1 [.p (.int .i64 0)]) = τ1 at *
      have hfr : frzL τ1 cs = some (zM b.length L P) := by
        rw [RowsL.frzL r1.len r1.row]
        congr 1
        unfold zM
        refine List.map_congr_left fun a ha => ?_
        rw [if_pos (List.mem_range.1 ha)]
      rw [ex_frzk (b := 5) (o := 0) (n := b.length) rfl hk5 hfr zM_isSl (r1.notin hk5)]
      have g2' : ((killL τ1 cs).set 5 (.prow 1 (zM b.length L P)))[2]? = some (.kblk 1 [.own 5 0 b.length]) := by rw [get_ne (by decide), killL_get (r1.killL hk2)]; exact hk2
      have g3' : ((killL τ1 cs).set 5 (.prow 1 (zM b.length L P)))[3]? = some (.kblk 1 [.p (.int .i64 0)]) := by rw [get_ne (by decide), killL_get (r1.killL hk3)]; exact hk3
      have g5' : ((killL τ1 cs).set 5 (.prow 1 (zM b.length L P)))[5]? = some (.prow 1 (zM b.length L P)) := get_self (by rw [killL_len]; exact (List.getElem?_eq_some_iff.1 hk5).1)
      generalize (killL τ1 cs).set 5 (.prow 1 (zM b.length L P)) = τ2 at *
      simp only [SA, setCells, Int.reduceLE, Int.reduceLT, ↓reduceIte, reduceCtorEq, Nat.reduceLT, Nat.reduceEqDiff, Nat.reduceAdd, Nat.reduceMul, Nat.reduceLeDiff, Nat.reduceBEq, g2', g3']
      exact back_t2 (GL.own g5' zM_len.symm).back1 back1_p
    · intro τ h; cases h
  · intro τ h; cases h
end
end Go.Proofs.YtdieenbfdeaffaaGreat.VDd

namespace Go.Proofs.YtdieenbfdeaffaaGreat.VDd
open Go Vpi
open VBn hiding rp tab rp_ok all_ok mixed sim Big
set_option maxRecDepth 100000
set_option linter.unusedSimpArgs false
set_option linter.unusedVariables false

/-! ### comparison, awake -/

theorem rp47 : rp 9 = some f9 := rfl
theorem p47 {s : Bool} {l : List Nat} (hl : l.length ≤ 1000000000000) : Pu rp 9 [.agg [.bool s, .sl (lm l)], .agg [.bool s, .sl (lm l)]] (.p (.bool true)) := by
  refine pu_of rp47 ?_
  simp only [f9, args0, SA, setCells, Int.reduceLE, Int.reduceLT, ↓reduceIte, reduceCtorEq, Nat.reduceLT, Nat.reduceEqDiff, Nat.reduceAdd, Nat.reduceMul, Nat.reduceLeDiff, Nat.reduceBEq, lm_len, bne_self_eq_false, Bool.not_true]
  refine loop_rule (β := Nat) (fun t => ([(2, .ptr 0 0 0), (3, .ptr 1 0 0), (5, i64 t)], [.kblk 2 [.p (.bool s), .p (.sl (lm l))], .kblk 2 [.p (.bool s), .p (.sl (lm l))]])) (fun t => t ≤ l.length) (fun t => l.length - t) 0 rfl rfl (Nat.zero_le _) ?_
  intro i hi ih
  by_cases hin : (i : Int) < l.length
  · have hin' : i < l.length := by omega
    have w1 : IntKind.i64.wrap ((i : Int) + 1) = ((i + 1 : Nat) : Int) := by rw [IntWalk.i64_in _ (by omega)]; omega
    simp only [SA, setCells, Int.reduceLE, Int.reduceLT, ↓reduceIte, reduceCtorEq, Nat.reduceLT, Nat.reduceEqDiff, Nat.reduceAdd, Nat.reduceMul, Nat.reduceLeDiff, Nat.reduceBEq, lm_len, hin, lm_get hin', Int.natCast_nonneg, Int.toNat_natCast, bne_self_eq_false, w1]
    exact ih (i + 1) _ (by omega) (by omega) rfl
  · simp only [SA, setCells, Int.reduceLE, Int.reduceLT, ↓reduceIte, reduceCtorEq, Nat.reduceLT, Nat.reduceEqDiff, Nat.reduceAdd, Nat.reduceMul, Nat.reduceLeDiff, Nat.reduceBEq, lm_len, hin]
    rfl

theorem p47z {x : Int} (h : Sz x) : Pu rp 9 [zi x, zi x] (.p (.bool true)) := by
  have hdl : (dgl x.natAbs).length ≤ 1000000000000 := by
    have := dgl_len (show x.natAbs < LB ^ CapN from h)
    rw [CapN_eq] at this
    omega
  exact p47 (s := decide (x < 0) && decide (x.natAbs ≠ 0)) hdl

def isTrue : Option (CV × Store) → Bool
  | some (.p (.bool b), _) => b
  | _ => false

theorem runs48 : isTrue (runF rp 3000 10 [] []) = true := by kernel_rfl

theorem isTrue_eq {x : Option (CV × Store)} (h : isTrue x = true) : ∃ ρ, x = some (.p (.bool true), ρ) := by
  unfold isTrue at h
  split at h
  · subst h; exact ⟨_, rfl⟩
  · cases h

theorem p48 : Pu rp 10 [] (.p (.bool true)) := by
  obtain ⟨ρ, h⟩ := isTrue_eq runs48
  exact ⟨3000, _, h, rfl⟩
end Go.Proofs.YtdieenbfdeaffaaGreat.VDd

namespace Go.Proofs.YtdieenbfdeaffaaGreat.VDd
open Go Vpi
open VBn hiding rp tab rp_ok all_ok mixed sim Big
set_option maxRecDepth 100000
set_option linter.unusedSimpArgs false
set_option linter.unusedVariables false

open Gs (V Dv Pos dI sk cI sumI)

theorem rp4 : rp 4 = some f4 := rfl

section
variable {b : List PV} {nn : Nat → Nat} {X : Nat → Nat → Int} {N n : Nat}

theorem dotI_sum {x y : Nat → Int} : ∀ {k : Nat}, dotI x y k = sumI (fun t => x t * y t) k
  | 0 => rfl
  | k + 1 => by rw [dotI, sumI, dotI_sum]

theorem gr_sk (h : Bs b N X) (hn : b.length = n + 1) : ∀ i j, i < n + 1 → j < n + 1 → Sk 17 (gr N X i j) := fun i j hi hj => dot_sk (fun t ht => ⟨h.sz i t (by omega) ht, h.sz j t (by omega) ht⟩) h.n

theorem cI_sk (h : Bs b N X) (hn : b.length = n + 1) : ∀ i k, i < n + 1 → k < n + 1 → Sk 217 (cI n (gr N X) i k) := fun i k hi hk => by
  have hm := h.m
  have h1 := (dI_sk (n := n) (W := fun p q => gr N X (sk i p) (sk k q)) (by omega) fun a c ha hc => gr_sk h hn _ _ (Gs.sk_lt hi ha) (Gs.sk_lt hk hc)).mono (m := 217) (by omega)
  unfold cI
  split
  · rw [Int.neg_one_mul]; exact h1.neg
  · rw [Int.one_mul]; exact h1

theorem dm_sk (h : Bs b N X) (hn : b.length = n + 1) {i c : Nat} (hi : i < n + 1) (hc : c < N) : Sk 226 (dmM (n + 1) N X i c) := by
  have hm := h.m
  exact sumI_sk (e := 225) (by omega) fun t ht => (cI_sk h hn t i ht hi).mul (h.sz t c (by omega) hc)

theorem p4 (hb : MR b nn X) (hlb : b.length ≤ 2000000) : Pu rp 4 [.sl b] (.p (.bool true)) := by
  have k61 := (VBn.p61 hb hlb).lift base_le
  refine pu_of rp4 ?_
  by_cases hv : vE nn X b.length = 0
  · have hV := vb_of hb hv
    have hbm := hV.bs.m
    have hbn := hV.bs.n
    obtain ⟨n, hn⟩ : ∃ n, b.length = n + 1 := ⟨b.length - 1, by have := hV.ne; omega⟩
    have k102 := p102 hb hlb hv
    have hd := hV.dI
    have hDs : Sz (dI b.length (gr (nn 0) X)) := by rw [hn]; exact (dI_sk (by omega) (gr_sk hV.bs hn)).sz (by omega)
    have hdm : ∀ j c, j < b.length → c < nn 0 → Sk 226 (dmM b.length (nn 0) X j c) := fun j c hj hc => by
      rw [hn] at hj ⊢
      exact dm_sk hV.bs hn hj hc
    have k7 := p7 (m := zM b.length (nn 0) (dmM b.length (nn 0) X)) (Y := dmM b.length (nn 0) X) (L := b.length) hb hlb hv rfl zM_len (by omega)
      (fun j hj => ⟨_, zM_get hj, zF_len, fun k hk => by rw [zF_len] at hk; exact ⟨_, zF_get hk, Nu.zi ((hdm j k hj hk).sz (by omega))⟩⟩)
      (fun i j k hi hj hk => by
        rw [dotI_sum]
        exact (sumI_sk (e := 234) (by omega) fun t ht => (hV.bs.sz i t hi (by omega)).mul (hdm j t hj (by omega))).sz (by omega))
      (fun i j k hi hj hk => ((hV.bs.sz i k hi hk).mul (hdm j k hj hk)).sz (by omega))
    rw [zM_congr (W := fun i j => dotI (X i) (dmM b.length (nn 0) X j) (nn 0)) (V := fun i j => if i = j then dI b.length (gr (nn 0) X) else 0) fun i j hi hj => by
      have := pairs_eq (N := nn 0) (X := X) (n := n) (i := i) (k := j) (by omega) (by omega)
      rw [← hn] at this
      exact this] at k7
    rw [hv] at k61
    generalize hD : dI b.length (gr (nn 0) X) = D at *
    have k77 : Pu rp 14 [.agg [.bool (decide (D < 0) && decide (D.natAbs ≠ 0)), .sl (lm (dgl D.natAbs))]] (.p (.int .i64 D.sign)) := (VBn.p79 (Nu.zi hDs)).lift base_le
    rw [Int.sign_eq_one_of_pos hd] at k77
    have k47d : Pu rp 9 [zi D, .agg [.bool (decide (D < 0) && decide (D.natAbs ≠ 0)), .sl (lm (dgl D.natAbs))]] (.p (.bool true)) := p47z hDs
    have k47z : Pu rp 9 [zi 0, .agg [.bool false, .sl []]] (.p (.bool true)) := by
      have h := p47z (Sz.small (x := 0) (by decide))
      rw [zi_zero] at h ⊢
      exact h
    have e0 : ((0 : Int) != 0) = false := rfl
    have e1 : ¬ (1 : Int) ≤ 0 := by decide
    simp only [f4, args0, SA, setCells, Int.reduceLE, Int.reduceLT, ↓reduceIte, reduceCtorEq, Nat.reduceLT, Nat.reduceEqDiff, Nat.reduceAdd, Nat.reduceMul, Nat.reduceLeDiff, Nat.reduceBEq, kp0 p48, Bool.not_true, kp1 k102, zi_raw (x := D), kp1 k61, e0, kp2 k7, zM_len, bne_self_eq_false, kp1 k77, e1]
    refine loop_rule (β := Nat) (fun t => ([(0, .p (.sl b)), (4, .ptr 0 0 0), (6, .p (.sl (zM b.length b.length fun i j => if i = j then D else 0))), (8, i64 t)], [.kblk 2 (cz D)])) (fun t => t ≤ b.length) (fun t => b.length - t) 0 rfl rfl (Nat.zero_le _) ?_
    intro i hi ih
    simp only [] at hi ih ⊢
    by_cases hin : (i : Int) < b.length
    · have hi' : i < b.length := by omega
      have w1 : IntKind.i64.wrap ((i : Int) + 1) = ((i + 1 : Nat) : Int) := by rw [IntWalk.i64_in _ (by omega)]; omega
      have hrow := zM_get (n := b.length) (W := fun i j => if i = j then D else 0) hi'
      simp only [SA, setCells, Int.reduceLE, Int.reduceLT, ↓reduceIte, reduceCtorEq, Nat.reduceLT, Nat.reduceEqDiff, Nat.reduceAdd, Nat.reduceMul, Nat.reduceLeDiff, Nat.reduceBEq, zM_len, hin, hrow, zF_len, Int.natCast_nonneg, Int.toNat_natCast, bne_self_eq_false]
      refine loop_rule (β := Nat) (fun t => ([(0, .p (.sl b)), (4, .ptr 0 0 0), (6, .p (.sl (zM b.length b.length fun i j => if i = j then D else 0))), (8, i64 i), (9, i64 t)], [.kblk 2 (cz D)])) (fun t => t ≤ b.length) (fun t => b.length - t) 0 rfl rfl (Nat.zero_le _) ?_
      intro k hk ih2
      simp only [] at hk ih2 ⊢
      by_cases hkn : (k : Int) < b.length
      · have hk' : k < b.length := by omega
        have w2 : IntKind.i64.wrap ((k : Int) + 1) = ((k + 1 : Nat) : Int) := by rw [IntWalk.i64_in _ (by omega)]; omega
        have hz := zF_get (f := fun j => if i = j then D else 0) hk'
        by_cases hik : i = k
        · subst hik
          simp only [if_true] at hz
          simp only [SA, setCells, Int.reduceLE, Int.reduceLT, ↓reduceIte, reduceCtorEq, Nat.reduceLT, Nat.reduceEqDiff, Nat.reduceAdd, Nat.reduceMul, Nat.reduceLeDiff, Nat.reduceBEq, zM_len, hkn, hrow, zF_len, Int.natCast_nonneg, Int.toNat_natCast, bne_self_eq_false, hz, subPV_zi, cz, kp2 k47d, Bool.not_true, w2]
          exact ih2 (i + 1) _ (by omega) (by omega) rfl
        · rw [if_neg hik] at hz
          have e2 : ((i : Int) == (k : Int)) = false := by rw [beq_eq_false_iff_ne]; omega
          have e3 : ((i : Int) != (k : Int)) = true := by rw [bne_iff_ne]; omega
          simp only [SA, setCells, Int.reduceLE, Int.reduceLT, ↓reduceIte, reduceCtorEq, Nat.reduceLT, Nat.reduceEqDiff, Nat.reduceAdd, Nat.reduceMul, Nat.reduceLeDiff, Nat.reduceBEq, zM_len, hkn, hrow, zF_len, Int.natCast_nonneg, Int.toNat_natCast, e2, e3, hz, subPV_zi, cz, kc_pu k47z (show toPs [CV.p (zi 0), CV.agg [CV.p (.bool false), .nils]] = some [zi 0, .agg [.bool false, .sl []]] from rfl), Bool.not_true, w2]
          refine ih2 (k + 1) _ (by omega) (by omega) ?_
          rfl
      · simp only [SA, setCells, Int.reduceLE, Int.reduceLT, ↓reduceIte, reduceCtorEq, Nat.reduceLT, Nat.reduceEqDiff, Nat.reduceAdd, Nat.reduceMul, Nat.reduceLeDiff, Nat.reduceBEq, zM_len, hkn, hrow, zF_len, Int.natCast_nonneg, Int.toNat_natCast, w1]
        exact ih (i + 1) _ (by omega) (by omega) rfl
    · simp only [SA, setCells, Int.reduceLE, Int.reduceLT, ↓reduceIte, reduceCtorEq, Nat.reduceLT, Nat.reduceEqDiff, Nat.reduceAdd, Nat.reduceMul, Nat.reduceLeDiff, Nat.reduceBEq, zM_len, hin]
      rfl
  · have k102 := e102 hb hlb hv
    have e0 : (vE nn X b.length != 0) = true := by simp [hv]
    have l0 : (((0 : Nat) : Int) == 0) = true := rfl
    simp only [f4, args0, SA, setCells, Int.reduceLE, Int.reduceLT, ↓reduceIte, reduceCtorEq, Nat.reduceLT, Nat.reduceEqDiff, Nat.reduceAdd, Nat.reduceMul, Nat.reduceLeDiff, Nat.reduceBEq, kp0 p48, Bool.not_true, kp1 k102, kp1 k61, e0, l0]
    rfl
end
end Go.Proofs.YtdieenbfdeaffaaGreat.VDd

namespace Go.Proofs.YtdieenbfdeaffaaGreat.VDd
open Go Vpi
open VBn hiding rp tab rp_ok all_ok mixed sim Big
set_option maxRecDepth 100000
set_option linter.unusedSimpArgs false
set_option linter.unusedVariables false

def RowN (r : List PV) : Prop := r.length ≤ 2000000 ∧ ∀ j, j < r.length → ∃ p x, r[j]? = some p ∧ Nu p x
def MatN (b : List PV) : Prop := b.length ≤ 2000000 ∧ ∀ i, i < b.length → ∃ r, b[i]? = some (.sl r) ∧ RowN r

theorem RowN.list {r : List PV} (h : RowN r) : ∃ xs, NL r xs := by
  have key : ∀ j : Nat, ∃ x : Int, ∀ p, r[j]? = some p → Nu p x := fun j => by
    by_cases hj : j < r.length
    · obtain ⟨p, x, h1, h2⟩ := h.2 j hj
      exact ⟨x, fun p' hp => by rw [h1] at hp; cases hp; exact h2⟩
    · exact ⟨0, fun p' hp => absurd (List.getElem?_eq_some_iff.1 hp).1 hj⟩
  obtain ⟨f, hf⟩ : ∃ f : Nat → Int, ∀ j p, r[j]? = some p → Nu p (f j) := ⟨fun j => Classical.choose (key j), fun j => Classical.choose_spec (key j)⟩
  refine ⟨(List.range r.length).map f, by simp, fun i p x hp hx => ?_⟩
  have hi := (List.getElem?_eq_some_iff.1 hp).1
  have h2 := hf i p hp
  simp [hi] at hx
  subst hx
  exact h2

theorem MatN.index {b : List PV} (h : MatN b) : ∃ nn X, MR b nn X := by
  have hx : ∀ i j : Nat, ∃ x : Int, ∀ r p, b[i]? = some (.sl r) → r[j]? = some p → Nu p x := by
    intro i j
    by_cases hi : i < b.length
    · obtain ⟨r, h1, h2⟩ := h.2 i hi
      by_cases hj : j < r.length
      · obtain ⟨p, x, h3, h4⟩ := h2.2 j hj
        refine ⟨x, fun r' p' g1 g2 => ?_⟩
        rw [h1] at g1
        cases g1
        rw [h3] at g2
        cases g2
        exact h4
      · refine ⟨0, fun r' p' g1 g2 => ?_⟩
        rw [h1] at g1
        cases g1
        rw [List.getElem?_eq_none (by omega)] at g2
        cases g2
    · refine ⟨0, fun r' p' g1 g2 => ?_⟩
      rw [List.getElem?_eq_none (by omega)] at g1
      cases g1
  have hn : ∀ i : Nat, ∃ k : Nat, ∀ r, b[i]? = some (.sl r) → r.length = k := by
    intro i
    by_cases hi : i < b.length
    · obtain ⟨r, h1, h2⟩ := h.2 i hi
      exact ⟨r.length, fun r' g => by rw [h1] at g; cases g; rfl⟩
    · exact ⟨0, fun r' g => by rw [List.getElem?_eq_none (by omega)] at g; cases g⟩
  refine ⟨fun i => Classical.choose (hn i), fun i j => Classical.choose (hx i j), fun i hi => ?_⟩
  obtain ⟨r, h1, h2⟩ := h.2 i hi
  have hl := Classical.choose_spec (hn i) r h1
  refine ⟨r, h1, hl, ?_, fun j hj => ?_⟩
  · simp only []
    rw [← hl]; exact h2.1
  · obtain ⟨p, x, h3, h4⟩ := h2.2 j hj
    exact ⟨p, h3, Classical.choose_spec (hx i j) r p h1 h3⟩

theorem num_of {L n : Nat} {qs : List PV} (hL : L ≤ 1048576) (h : shpB Tryz.prog L (n + 3) 25 qs) : ∃ x c, Nu (.agg qs) x ∧ c + 8 ≤ CapN ∧ x.natAbs < LB ^ c := by
  obtain ⟨a, r, rfl, ha, c, r, rfl, hc, rfl⟩ := shpB_struct Tryz.underlying25 h
  obtain ⟨s, rfl⟩ := shpB_bool Tryz.underlying4 ha
  obtain ⟨us, rfl, hl, hu⟩ := shpB_slice Tryz.underlying23 hc
  have hlm : ∃ l : List Nat, us = lm l ∧ Lim l := by
    clear hl ha hc h
    induction us with
    | nil => exact ⟨[], rfl, fun x hx => by cases hx⟩
    | cons u us ih =>
      obtain ⟨l, rfl, h2⟩ := ih fun y hy => hu y (List.mem_cons_of_mem _ hy)
      obtain ⟨q, rfl, hq⟩ := hu u (List.mem_cons_self ..)
      obtain ⟨i, rfl, hw⟩ := shpB_int Tryz.underlying63 hq
      have hw2 : (0 : Int) ≤ i ∧ i ≤ 4294967295 := by
        simp only [Lit.wf, Bool.and_eq_true, decide_eq_true_eq] at hw
        exact hw
      refine ⟨i.toNat :: l, ?_, ?_⟩
      · have : ofCells (isSt Tryz.prog 63) [PV.int .u32 i] = .int .u32 i := by
          have e : isSt Tryz.prog 63 = false := by unfold isSt; rw [Tryz.underlying63]
          rw [e]; rfl
        rw [this, lm_cons, Int.toNat_of_nonneg hw2.1]
      · intro x hx
        rcases List.mem_cons.1 hx with rfl | hx
        · unfold LB; omega
        · exact h2 x hx
  obtain ⟨l, rfl, hlim⟩ := hlm
  rw [lm_len] at hl
  refine ⟨iv s l, l.length, ⟨s, l, ?_, hlim, ?_, rfl⟩, ?_, ?_⟩
  · simp
  · rw [CapN_eq]; omega
  · rw [CapN_eq]; omega
  · rw [iv_abs]
    exact val_lt hlim

theorem mat_of {L n : Nat} {q : PV} (hL : L ≤ 1048576) (h : shpB Tryz.prog L (n + 5) 22 [q]) : ∃ b, q = .sl b ∧ MatN b := by
  obtain ⟨b, hq, hl, hb⟩ := shpB_slice Tryz.underlying22 h
  cases hq
  refine ⟨b, rfl, by omega, fun i hi => ?_⟩
  obtain ⟨qs, h1, h2⟩ := hb b[i] (List.getElem_mem _)
  obtain ⟨r, rfl, hrl, hr⟩ := shpB_slice Tryz.underlying40 h2
  have e1 : ofCells (isSt Tryz.prog 40) [PV.sl r] = .sl r := by
    have e : isSt Tryz.prog 40 = false := by unfold isSt; rw [Tryz.underlying40]
    rw [e]; rfl
  rw [e1] at h1
  refine ⟨r, by rw [← h1]; simp, by omega, fun j hj => ?_⟩
  obtain ⟨qs, k1, k2⟩ := hr r[j] (List.getElem_mem _)
  obtain ⟨x, _, hx, _⟩ := num_of hL k2
  have e2 : ofCells (isSt Tryz.prog 25) qs = .agg qs := by
    have e : isSt Tryz.prog 25 = true := by unfold isSt; rw [Tryz.underlying25]
    rw [e]; rfl
  rw [e2] at k1
  exact ⟨.agg qs, x, by rw [← k1]; simp, hx⟩
end Go.Proofs.YtdieenbfdeaffaaGreat.VDd

namespace Go.Proofs.YtdieenbfdeaffaaGreat.VDd
open Go Vpi
open VBn hiding rp tab rp_ok all_ok mixed sim Big

set_option maxRecDepth 100000

theorem row4 (q : PV) (w : shpB Tryz.prog 1048576 8 22 [q]) : Pu rp 4 [q] (.p (.bool true)) := by
  obtain ⟨b, rfl, hb⟩ := mat_of (Nat.le_refl _) w
  obtain ⟨nn, X, hM⟩ := hb.index
  exact p4 hM hb.1
end Go.Proofs.YtdieenbfdeaffaaGreat.VDd

namespace Go.Proofs.YtdieenbfdeaffaaGreat.Rbulk
open Go
set_option linter.unusedVariables false

theorem one_le {H : Type} (d : DataW H) : 1 ≤ Rows.uptoBulk d := by
  cases d with
  | lit l => cases l <;> simp [Rows.uptoBulk]
  | _ => simp [Rows.uptoBulk]

theorem part_le {H : Type} {d : DataW H} {l : List (DataW H)} (h : d ∈ l) : Rows.uptoBulk d ≤ Rows.uptoBulkAll l := by
  induction l with
  | nil => cases h
  | cons x r ih =>
    simp only [Rows.uptoBulkAll]
    rcases List.mem_cons.1 h with rfl | h
    · omega
    · have := ih h; omega

theorem length_le {H : Type} (l : List (DataW H)) : l.length ≤ Rows.uptoBulkAll l := by
  induction l with
  | nil => simp [Rows.uptoBulkAll]
  | cons x r ih => have := one_le x; simp only [Rows.uptoBulkAll, List.length_cons]; omega

theorem mus {H : Type} (es sp : List (DataW H)) : es.length ≤ Rows.uptoBulk (.slice es sp) ∧ ∀ d ∈ es, Rows.uptoBulk d ≤ Rows.uptoBulk (.slice es sp) := by
  have h1 := length_le es
  simp only [Rows.uptoBulk]
  refine ⟨by omega, fun d hd => ?_⟩
  have := part_le hd
  omega

theorem mua {H : Type} (ps : List (DataW H)) : ∀ d ∈ ps, Rows.uptoBulk d ≤ Rows.uptoBulk (.agg ps) := by
  intro d hd
  have := part_le hd
  simp only [Rows.uptoBulk]
  omega

theorem each {H : Type} {l : List (DataW H)} (hk : Rows.uptoSmall H l = true) {d : DataW H} (h : d ∈ l) : Rows.uptoBulk d ≤ 1048576 :=
  Nat.le_trans (part_le h) (of_decide_eq_true hk)
end Go.Proofs.YtdieenbfdeaffaaGreat.Rbulk
