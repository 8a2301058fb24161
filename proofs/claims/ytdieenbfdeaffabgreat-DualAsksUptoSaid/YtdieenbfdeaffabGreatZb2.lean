/- The reference's naturals: less, Sub, Mul; The reference's naturals: Bits, Two, Shr, small; The reference's Div; The reference's whole numbers with a sign; The reference's rationals; Elimination in whole numbers: plain facts about determinants, no program in sight; Elimination without fractions stays whole: plain facts, no program in sight; Dot products; Shapes; gso.built; gso.Valid; The reference's frame. No condition. -/
import Derived.Test.YtdieenbfdeaffabGreatZb1
import Derived.Test.YtdieenbfdeaffabGreatZa1
set_option linter.unusedSimpArgs false
set_option linter.unusedVariables false
open Bool renaming false_eq_true → aR
open Classical renaming byContradiction → cq
open Int renaming reduceLT → aj, reduceLE → ak, sign_eq_one_of_pos → bo, sign_eq_neg_one_of_neg → bY, le_refl → dN, toNat → gG
open List renaming getElem?_eq_some_iff → aq, replicate → aw, length_set → ay, getElem?_append_left → aB, getElem?_append_right → aC, append_assoc → aP, length_take → aS, getElem?_eq_getElem → bG, length_append → bX, take_of_length_le → b6, range → ca, append_nil → c8, drop_eq_getElem_cons → di, mem_singleton → dM, length_cons → dZ, length_replicate → eK, cons_append → fk, getElem?_cons_zero → gO
open Nat renaming reduceLeDiff → aa, reduceEqDiff → ab, reduceMul → ae, reduceBEq → af, reduceAdd → ah, reduceLT → ai, le_refl → av, lt_or_ge → ax, mul_le_mul_right → az, zero_le → aD, mod_eq_of_lt → a6, mul_comm → a7, add_mul → a8, le_trans → a9, add_zero → bw, mul_le_mul_left → bH, pow_succ → bJ, lt_succ_self → bO, lt_of_lt_of_le → bP, lt_of_le_of_lt → bQ, mul_assoc → bW, gcd → bZ, mul_add → ck, pow_pos → dg, add_assoc → dh, mul_one → dq, pos_of_ne_zero → dU, zero_add → d8, mod_lt → ep, eq_zero_or_pos → eu, sub_self → eI, mul_zero → fj, add_sub_cancel_left → gE
open Option renaming map_some → aH
open Rat renaming intCast_mul → dA, num_divInt_den → dP, intCast_inj → eT, divInt → eZ, div_def → gg
namespace Go.Proofs.YtdieenbfdeaffabGreat.VBn
open Go Vpi
set_option maxRecDepth 100000
theorem Bv {x y : Nat} (h : y ≤ x) (hx : x < 18446744073709551616) : IntKind.u64.wrap ((x : Int) - (y : Int)) = ((x - y : Nat) : Int) := by
 rw [IntKind.wrap_u64]; omega
theorem p163 {a b : List Nat} (ha : Lim a) (hb : Lim b) (hab : val b ≤ val a) (hna : a.length ≤ 1099511627775) (hnb : val b < LB ^ a.length) :
 Pu rp 107 [.sl (lm a), .sl (lm b)] (.p (.sl (lm (dgl (val a - val b))))) := by
 refine aY rp163 ?_
 simp only [f107, aJ, SB, ak, aj, ↓reduceIte, reduceCtorEq, ai, ab, ah, ae, aa, af, aT]
 refine aM (β := Nat × List Nat × Nat × ar × CV) (fun t => ([(0, .p (.sl (lm a))), (1, .p (.sl (lm b))), (5, t.2.2.2.2), (6, .p (.int .u64 (t.2.2.1 : Int))), (7, i64 t.1)], t.2.2.2.1))
  (fun t => t.1 ≤ a.length ∧ t.2.1.length = t.1 ∧ Lim t.2.1 ∧ val t.2.1 + val (b.take t.1) = val (a.take t.1) + LB ^ t.1 * t.2.2.1 ∧ t.2.2.1 ≤ 1 ∧ GL t.2.2.2.1 1 t.2.2.2.2 (lm t.2.1)) (fun t => a.length - t.1) ((0, [], 0, [], .nils) : Nat × List Nat × Nat × ar × CV) rfl rfl ⟨aD _, rfl, (fun _ hx => nomatch hx), rfl, aD _, .nil⟩ ?_
 rintro ⟨i, o, w, σ, g⟩ ⟨hi, ho, hlo, hv, hw, hgl⟩ ih
 simp only [] at hi ho hlo hv hw hgl ih ⊢
 by_cases hin : (i : Int) < a.length
 ·have hx := jA ha (i := i)
  have hy := jA hb (i := i)
  have k1 : lg b i + w < 18446744073709551616 := by unfold LB at hy; omega
  have hnext : ∀ r w', r + lg b i + w = lg a i + w' * LB → val (o ++ [r]) + val (b.take (i + 1)) = val (a.take (i + 1)) + LB ^ (i + 1) * w' := by
   intro r w' hr
   rw [dy, dy]
   exact qy ho hv hr
  have hapc : ∀ r : Nat, ((lm o).length + [PV.int .u32 (r : Int)].length) * 4 ≤ 140737488355328 := by intro r; rw [aT, ho]; simp; omega
  have hap : ∀ r : Nat, lm o ++ [PV.int .u32 (r : Int)] = lm (o ++ [r]) := fun r => by rw [← iY]; rfl
  have k0 : ((0 : Int)) = ((0 : Nat) : Int) := rfl
  by_cases hlt : (lg a i : Int) < ((lg b i + w : Nat) : Int)
  ·have k2 : lg a i + LB < 18446744073709551616 := by unfold LB at hx ⊢; omega
   have k2' : IntKind.u64.wrap ((lg a i : Int) + 4294967296) = ((lg a i + LB : Nat) : Int) := je k2
   have hr : lg a i + LB - (lg b i + w) < LB := by omega
   have hrel : lg a i + LB - (lg b i + w) + lg b i + w = lg a i + 1 * LB := by omega
   have k3 := Bv (x := lg a i + LB) (y := lg b i + w) (by omega) k2
   have hmm : (lg a i + LB - (lg b i + w)) % LB = lg a i + LB - (lg b i + w) := a6 hr
   simp only [SB, ak, aj, ↓reduceIte, reduceCtorEq, ai, ab, ah, ae, aa, af, aT, hin, kp2 (p162 ha (i := i)), kp2 (p162 hb (i := i)), je k1, hlt, k2', k3, w32, hmm, ia hgl (hapc _), IntWalk.i64_in ((i : Int) + 1) (by omega)]
   rw [hap, ho]
   refine ih (i + 1, o ++ [lg a i + LB - (lg b i + w)], 1, nd σ g ++ [.prow 1 [PV.int .u32 ((lg a i + LB - (lg b i + w) : Nat) : Int)], .prow 1 (lm (o ++ [lg a i + LB - (lg b i + w)]))], .own (σ.length + 1) 0 (i + 1)) _
    ⟨by omega, by simp [ho], hlo.append (.one hr), hnext _ 1 hrel, av _, GL.nb (by rw [aT]; simp [ho]) rfl⟩ (by simp; omega) ?_
   rfl
  ·have hr : lg a i - (lg b i + w) < LB := by omega
   have hrel : lg a i - (lg b i + w) + lg b i + w = lg a i + 0 * LB := by omega
   have k3 := Bv (x := lg a i) (y := lg b i + w) (by omega) (by unfold LB at hx; omega)
   have hmm : (lg a i - (lg b i + w)) % LB = lg a i - (lg b i + w) := a6 hr
   simp only [SB, ak, aj, ↓reduceIte, reduceCtorEq, ai, ab, ah, ae, aa, af, aT, hin, kp2 (p162 ha (i := i)), kp2 (p162 hb (i := i)), je k1, hlt, k3, w32, hmm, ia hgl (hapc _), IntWalk.i64_in ((i : Int) + 1) (by omega)]
   rw [hap, ho]
   refine ih (i + 1, o ++ [lg a i - (lg b i + w)], 0, nd σ g ++ [.prow 1 [PV.int .u32 ((lg a i - (lg b i + w) : Nat) : Int)], .prow 1 (lm (o ++ [lg a i - (lg b i + w)]))], .own (σ.length + 1) 0 (i + 1)) _
    ⟨by omega, by simp [ho], hlo.append (.one hr), hnext _ 0 hrel, aD _, GL.nb (by rw [aT]; simp [ho]) rfl⟩ (by simp; omega) ?_
   rfl
 ·have hia : i = a.length := by omega
  subst hia
  have hbv : val (b.take a.length) = val b := by
   have h1 := gQ (l := b) (i := a.length)
   rcases ax b.length a.length with h2 | h2
   ·rw [b6 (by omega)]
   ·have h1 := gQ (l := b) (i := a.length) h2
    rcases eu (val (b.drop a.length)) with h3 | h3
    ·rw [h3, fj, bw] at h1; exact h1.symm
    ·have := Nat.le_mul_of_pos_right (LB ^ a.length) h3
     omega
  have hval : val o = val a - val b := by
   rw [List.take_length, hbv] at hv
   have h1 := bR hlo
   rw [ho] at h1
   rcases ax w 1 with h2 | h2
   ·obtain rfl : w = 0 := by omega
    rw [fj] at hv
    omega
   ·obtain rfl : w = 1 := by omega
    rw [dq] at hv
    omega
  have htr := p98 hlo (by omega)
  rw [hval] at htr
  simp only [SB, ak, aj, ↓reduceIte, reduceCtorEq, ai, ab, ah, ae, aa, af, aT, hin, yo htr hgl]
  rfl
theorem p141 {a b : List Nat} (ha : Lim a) (hb : Lim b) (hna : a.length ≤ 1099511627775) (hnb : b.length ≤ 1099511627775) (hab : val b ≤ val a) :
 Pu rp 112 [.sl (lm a), .sl (lm b)] (.tup [.p (.sl (lm (dgl (val a - val b)))), .p (.int .i64 0)]) := by
 refine aY rp141 ?_
 have hc : ¬ eV (val a) (val b) < 0 := by rw [fF]; omega
 simp only [f112, aJ, SB, ak, aj, ↓reduceIte, reduceCtorEq, ai, ab, ah, ae, aa, af, kp2 (p140 ha hb hna hnb), hc, kp2 (p163 ha hb hab hna (bQ hab (bR ha)))]
 exact dz aQ aQ
theorem p147 {a b : List Nat} (ha : Lim a) (hb : Lim b) (hna : a.length ≤ 500000000000) (hnb : b.length ≤ 500000000000) : Pu rp 81 [.sl (lm a), .sl (lm b)] (.p (.sl (lm (dgl (val a * val b))))) := by
 refine aY rp147 ?_
 have w1 : IntKind.i64.wrap ((a.length : Int) + b.length) = ((a.length + b.length : Nat) : Int) := by rw [IntWalk.i64_in _ (by omega)]; omega
 have m1 : ((4 : Nat) : Int) * ((a.length + b.length : Nat) : Int) ≤ 281474976710656 := by omega
 have m2 : ((a.length + b.length : Nat) : Int) ≤ 9223372036854775807 := by omega
 simp only [f81, aJ, SB, ak, aj, ↓reduceIte, reduceCtorEq, ai, ab, ah, ae, aa, af, aT, w1, m1, m2, SN, dN, i9]
 refine aM (β := Nat × List Nat) (fun t => ([(0, .p (.sl (lm a))), (1, .p (.sl (lm b))), (5, .own 0 0 (a.length + b.length)), (6, i64 t.1)], [.prow 1 (lm t.2)]))
  (fun t => t.1 ≤ a.length ∧ uI a b t.1 t.2) (fun t => a.length - t.1) ((0, aw (a.length + b.length) 0) : Nat × List Nat) rfl rfl ⟨aD _, .start⟩ ?_
 rintro ⟨i, O⟩ ⟨hi, hM⟩ ih
 simp only [] at hi hM ih ⊢
 by_cases hin : (i : Int) < a.length
 ·have hix : i < a.length := by omega
  simp only [SB, ak, aj, ↓reduceIte, reduceCtorEq, ai, ab, ah, ae, aa, af, hin, aT]
  refine aM (β := Nat × List Nat × Nat) (fun t => ([(0, .p (.sl (lm a))), (1, .p (.sl (lm b))), (5, .own 0 0 (a.length + b.length)), (6, i64 i), (7, .p (.int .u64 (t.2.2 : Int))), (8, i64 t.1)], [.prow 1 (lm t.2.1)]))
   (fun t => t.1 ≤ b.length ∧ tP a b i t.1 t.2.1 t.2.2) (fun t => b.length - t.1) ((0, O, 0) : Nat × List Nat × Nat) rfl rfl ⟨aD _, hM.row⟩ ?_
  rintro ⟨j, P, c⟩ ⟨hj, hJ⟩ ih2
  simp only [] at hj hJ ih2 ⊢
  by_cases hjn : (j : Int) < b.length
  ·have hjy : j < b.length := by omega
   have hkl : i + j < a.length + b.length := by omega
   have hk : i + j < P.length := by rw [hJ.len]; exact hkl
   obtain ⟨b1, b2, b3, b4⟩ := mG hJ.cl (ha.get hix) (hb.get hjy) (hJ.lim.get hk)
   have hJ' := hJ.step ha hb hix hjy hk
   rw [show c + (a[i] * b[j] + P[i + j]) = c + P[i + j] + a[i] * b[j] by omega] at b3 hJ'
   have b5 : c + P[i + j] < 18446744073709551616 := by omega
   have w2 : IntKind.i64.wrap ((i : Int) + j) = ((i + j : Nat) : Int) := by rw [IntWalk.i64_in _ (by omega)]; omega
   have hmm : (c + P[i + j] + a[i] * b[j]) % LB % LB = (c + P[i + j] + a[i] * b[j]) % LB := Nat.mod_mod _ _
   simp only [SB, ak, aj, ↓reduceIte, reduceCtorEq, ai, ab, ah, ae, aa, af, aT, hjn, cO hix, cO hjy, cO hk, fM (ha.get hix), fM (hb.get hjy), fM (hJ.lim.get hk), vT b2, je b5, je b3, w2, fB nLB, xF, w32, hmm, fC nLB, AZ b3, SN, hkl, eB, IntWalk.i64_in ((j : Int) + 1) (by omega)]
   refine ih2 (j + 1, P.set (i + j) ((c + P[i + j] + a[i] * b[j]) % LB), (c + P[i + j] + a[i] * b[j]) / LB) _ ⟨by omega, hJ'⟩ (by simp; omega) ?_
   rfl
  ·obtain rfl : j = b.length := by omega
   have hkl : i + b.length < a.length + b.length := by omega
   have hk : i + b.length < P.length := by rw [hJ.len]; exact hkl
   have w2 : IntKind.i64.wrap ((i : Int) + b.length) = ((i + b.length : Nat) : Int) := by rw [IntWalk.i64_in _ (by omega)]; omega
   have hcl : c % LB = c := a6 hJ.cl
   simp only [SB, ak, aj, ↓reduceIte, reduceCtorEq, ai, ab, ah, ae, aa, af, aT, hjn, w2, w32, hcl, cO hk, SN, hkl, eB, IntWalk.i64_in ((i : Int) + 1) (by omega)]
   refine ih (i + 1, P.set (i + b.length) c) _ ⟨by omega, hJ.done hix⟩ (by simp; omega) ?_
   rfl
 ·obtain rfl : i = a.length := by omega
  have htr := p98 hM.lim (by rw [hM.len]; omega)
  rw [hM.v, List.take_length] at htr
  simp only [SB, ak, aj, ↓reduceIte, reduceCtorEq, ai, ab, ah, ae, aa, af, aT, hin]
  rw [g8 htr rfl (by rw [aT, hM.len])]
  simp only [SB, ak, aj, ↓reduceIte, reduceCtorEq, ai, ab, ah, ae, aa, af]
  rfl
theorem rp82 : rp 100 = some f100 := rfl
theorem rp161 : rp 104 = some f104 := rfl
theorem rp164 : rp 108 = some f108 := rfl
theorem rp160 : rp 103 = some f103 := rfl
theorem Au {w : Nat} (h : w ≠ 0) : bl w = 1 + bl (w / 2) := by
 by_cases h1 : w / 2 = 0
 ·obtain rfl : w = 1 := by omega
  decide
 ·have := mT (x := w) (k := 1) (by simpa using h1)
  simpa using this
theorem yY {l : List Nat} {m : Nat} (hl : Lim l) (hm : m < l.length) (h0 : l[m] ≠ 0) (hz : val (l.drop (m + 1)) = 0) : bl (val l) = 32 * m + bl l[m] := by
 have s := gQ (l := l) (i := m) (by omega)
 rw [di hm, val, hz, fj, bw] at s
 have hlow := bR (hl.take (n := m))
 rw [aS, Nat.min_eq_left (by omega)] at hlow
 have hLB : LB ^ m = 2 ^ (32 * m) := by rw [Nat.pow_mul]; rfl
 rw [hLB] at s hlow
 obtain ⟨b1, b2, b3⟩ := jl h0
 have hp : 0 < 2 ^ (32 * m) * l[m] := Nat.mul_pos (dg (by decide)) (dU h0)
 refine vJ (by omega) ?_ ?_
 ·rw [show 32 * m + bl l[m] - 1 = 32 * m + (bl l[m] - 1) by omega, Nat.pow_add]
  exact a9 (bH _ b1) (a9 (Nat.le_add_left _ _) (Nat.le_of_eq s.symm))
 ·rw [Nat.pow_add]
  calc val l = _ := s
   _ < 2 ^ (32 * m) * (l[m] + 1) := by rw [ck, dq]; omega
   _ ≤ _ := bH _ b2
theorem Cc {x : Nat} (h : x < LB) : IntKind.u32.wrap ((x : Int).tdiv 2) = ((x / 2 : Nat) : Int) := by
 have : (x : Int).tdiv 2 = ((x / 2 : Nat) : Int) := rfl
 rw [this, w32, a6 (bQ (Nat.div_le_self _ _) h)]
theorem p82 {l : List Nat} (hl : Lim l) (hn : l.length ≤ 1099511627775) : Pu rp 100 [.sl (lm l)] (.p (.int .i64 (bl (val l) : Nat))) := by
 refine aY rp82 ?_
 have w1 : IntKind.i64.wrap ((l.length : Int) - 1) = (l.length : Int) - 1 := IntWalk.i64_in _ (by omega)
 simp only [f100, aJ, SB, ak, aj, ↓reduceIte, reduceCtorEq, ai, ab, ah, ae, aa, af, aT, w1]
 refine aM (β := Nat) (fun n => ([(0, .p (.sl (lm l))), (3, i64 ((n : Int) - 1))], []))
  (fun n => n ≤ l.length ∧ val (l.drop n) = 0) (fun n => n) l.length rfl rfl ⟨av _, by rw [List.drop_length]; rfl⟩ ?_
 rintro n ⟨hnl, hd⟩ ih
 by_cases h0 : ((n : Int) - 1) ≥ 0
 ·obtain ⟨m, rfl⟩ : ∃ m, n = m + 1 := ⟨n - 1, by omega⟩
  have hm : m < l.length := hnl
  have hi : ((m + 1 : Nat) : Int) - 1 = (m : Int) := by omega
  rw [hi] at h0
  have hw : IntKind.i64.wrap ((m : Int) - 1) = (m : Int) - 1 := IntWalk.i64_in _ (by omega)
  by_cases hx : l[m] = 0
  ·have e : (((l[m] : Nat) : Int) != 0) = false := by simp [hx]
   simp only [SB, ak, aj, ↓reduceIte, reduceCtorEq, ai, ab, ah, ae, aa, af, hi, h0, SN, cO hm, e, hw]
   refine ih m _ ⟨by omega, ?_⟩ (by omega) ?_
   ·rw [di hm, val, hd, hx, fj]
   ·rfl
  ·have e : (((l[m] : Nat) : Int) != 0) = true := by simp [hx]
   have w2 : IntKind.i64.wrap (32 * (m : Int)) = ((32 * m : Nat) : Int) := by rw [IntWalk.i64_in _ (by omega)]; omega
   have hbl := yY hl hm hx hd
   have hb32 := tr (hl.get hm)
   have hgm := cO hm
   have hlB := hl.get hm
   simp only [SB, ak, aj, ↓reduceIte, reduceCtorEq, ai, ab, ah, ae, aa, af, hi, h0, SN, hgm, e, w2]
   rw [hbl]
   generalize l[m] = w0 at *
   refine aM (β := Nat × Nat) (fun t => ([(4, i64 t.1), (5, .p (.int .u32 (t.2 : Int)))], []))
    (fun t => t.1 + bl t.2 = 32 * m + bl w0 ∧ t.2 < LB) (fun t => t.2) ((32 * m, w0) : Nat × Nat) rfl rfl ⟨rfl, hlB⟩ ?_
   rintro ⟨c, w⟩ ⟨hc, hw⟩ ih2
   simp only [] at hc hw ih2 ⊢
   by_cases hw0 : (w : Int) > 0
   ·have hh := Au (w := w) (by omega)
    have w3 := wr1 (i := c) (by omega)
    simp only [SB, ak, aj, ↓reduceIte, reduceCtorEq, ai, ab, ah, ae, aa, af, hw0, w3, fC (b := 2) (by decide), Cc hw]
    refine ih2 (c + 1, w / 2) _ ⟨by simp only []; omega, by simp only []; omega⟩ (by simp; omega) ?_
    rfl
   ·obtain rfl : w = 0 := by omega
    rw [mS, bw] at hc
    simp only [SB, ak, aj, ↓reduceIte, reduceCtorEq, ai, ab, ah, ae, aa, af, hw0, ← hc]
    rfl
 ·obtain rfl : n = 0 := by omega
  have h0' : ¬ (((0 : Nat) : Int) - 1 ≥ 0) := by omega
  simp only [SB, ak, aj, ↓reduceIte, reduceCtorEq, ai, ab, ah, ae, aa, af, h0']
  rw [List.drop_zero] at hd
  rw [hd, mS]
  rfl
theorem p161 {n : Nat} (hn : n < 32) : Pu rp 104 [.int .i64 (n : Int)] (.p (.sl (lm [2 ^ n]))) := by
 refine aY rp161 ?_
 have e1 : IntKind.i64.wrap ((n : Int).tdiv 32) = 0 := by
  have : (n : Int).tdiv 32 = 0 := by rw [Int.tdiv_eq_ediv_of_nonneg (by omega)]; omega
  rw [this]; decide
 have e2 : (n : Int).tmod 32 = (n : Int) := by rw [Int.tmod_eq_emod_of_nonneg (by omega)]; omega
 have e3 : IntKind.u64.wrap (n : Int) = (n : Int) := w64 (by omega)
 have e4 : ¬ ((0 : Int) < 0) := by omega
 have hsh : IntKind.u32.wrap (1 * 2 ^ min n IntKind.u32.bits) = ((2 ^ n : Nat) : Int) := by
  have h1 : min n IntKind.u32.bits = n := by show min n 32 = n; omega
  rw [h1, Int.one_mul, show (2 : Int) ^ n = ((2 ^ n : Nat) : Int) by push_cast; rfl, w32, a6]
  have := Nat.pow_lt_pow_right (a := 2) (by decide) hn
  unfold LB; omega
 have hapc : (([] : List PV).length + [PV.int .u32 ((2 ^ n : Nat) : Int)].length) * 4 ≤ 140737488355328 := by simp
 simp only [f104, aJ, SB, ak, aj, ↓reduceIte, reduceCtorEq, ai, ab, ah, ae, aa, af, aT]
 refine aM (β := Unit) (fun t => ([(0, .p (.int .i64 (n : Int))), (3, .nils), (4, i64 0)], [])) (fun _ => True) (fun _ => 0) () rfl rfl trivial ?_
 rintro ⟨⟩ - -
 simp only [SB, ak, aj, ↓reduceIte, reduceCtorEq, ai, ab, ah, ae, aa, af, fC (b := 32) (by decide), fB (b := 32) (by decide), e1, e2, e3, e4, SN, hsh, fN, content, np, aa]
 rfl
theorem p164 {a : List Nat} {n : Nat} (ha : Lim a) (hna : a.length ≤ 500000000000) (hn : n < 32) : Pu rp 108 [.sl (lm a), .int .i64 (n : Int)] (.tup [.p (.sl (lm (dgl (val a / 2 ^ n)))), .p (.int .i64 0)]) := by
 refine aY rp164 ?_
 have e0 : ¬ ((n : Int) < 0) := by omega
 by_cases hbb : (n : Int) ≥ (bl (val a) : Nat)
 ·have hz : val a / 2 ^ n = 0 := by
   refine Nat.div_eq_of_lt ?_
   by_cases h : val a = 0
   ·rw [h]; exact dg (by decide)
   ·exact bP (jl h).2.1 (Nat.pow_le_pow_right (by decide) (by omega))
  simp only [f108, aJ, SB, ak, aj, ↓reduceIte, reduceCtorEq, ai, ab, ah, ae, aa, af, e0, kp1 (p82 ha (by omega)), hbb]
  rw [hz, cJ]
  exact dz pj aQ
 have e1 : IntKind.i64.wrap ((n : Int).tdiv 32) = 0 := by
  have : (n : Int).tdiv 32 = 0 := by rw [Int.tdiv_eq_ediv_of_nonneg (by omega)]; omega
  rw [this]; decide
 have e2 : (n : Int).tmod 32 = (n : Int) := by rw [Int.tmod_eq_emod_of_nonneg (by omega)]; omega
 have e3 : IntKind.u64.wrap (n : Int) = (n : Int) := w64 (by omega)
 simp only [f108, aJ, SB, ak, aj, ↓reduceIte, reduceCtorEq, ai, ab, ah, ae, aa, af, e0, kp1 (p82 ha (by omega)), hbb, fC (b := 32) (by decide), e1]
 refine aM (β := Nat × List Nat × ar × CV) (fun t => ([(0, .p (.sl (lm a))), (1, .p (.int .i64 (n : Int))), (6, t.2.2.2), (7, i64 t.1)], t.2.2.1))
  (fun t => t.1 ≤ a.length ∧ t.2.1.length = t.1 ∧ Lim t.2.1 ∧ val t.2.1 + LB ^ t.1 * (val (a.drop t.1) / 2 ^ n) = val a / 2 ^ n ∧ GL t.2.2.1 1 t.2.2.2 (lm t.2.1)) (fun t => a.length - t.1) ((0, [], [], .nils) : Nat × List Nat × ar × CV) rfl rfl ⟨aD _, rfl, (fun _ hx => nomatch hx), by simp [val], .nil⟩ ?_
 rintro ⟨i, o, σ, g⟩ ⟨hi, ho, hlo, hv, hgl⟩ ih
 simp only [] at hi ho hlo hv hgl ih ⊢
 by_cases hin : (i : Int) < a.length
 ·have hix : i < a.length := by omega
  obtain ⟨d, hd1, hd2, hd3⟩ := rX (W := val (a.drop (i + 1))) (jA ha (i := i)) (show n ≤ 32 by omega)
  rw [ta ha] at hd1
  have hx := jA ha (i := i)
  have hy := jA ha (i := i + 1)
  have hmul : lg a (i + 1) * LB < 18446744073709551616 ∧ lg a i + lg a (i + 1) * LB < 18446744073709551616 := by
   have := az LB (show lg a (i + 1) ≤ LB - 1 by omega)
   rw [show (LB - 1) * LB = 18446744069414584320 by decide] at this
   unfold LB at *
   omega
  have w5 : IntKind.u64.wrap ((lg a (i + 1) : Int) * 4294967296) = ((lg a (i + 1) * LB : Nat) : Int) := vT (y := LB) hmul.1
  have w6 := je (x := lg a i) (y := lg a (i + 1) * LB) hmul.2
  have w7 := wr1 (i := i) (by omega)
  have hmm : (lg a i + lg a (i + 1) * LB) / 2 ^ n % LB = d := by rw [a7]; exact hd1
  have hdd : d % LB = d := a6 hd2
  have hapc : ((lm o).length + [PV.int .u32 (d : Int)].length) * 4 ≤ 140737488355328 := by rw [aT, ho]; simp; omega
  have hap : lm o ++ [PV.int .u32 (d : Int)] = lm (o ++ [d]) := by rw [← iY]; rfl
  simp only [SB, ak, aj, ↓reduceIte, reduceCtorEq, ai, ab, ah, ae, aa, af, aT, hin, kp2 (p162 ha (i := i)), w7, kp2 (p162 ha (i := i + 1)), w5, w6, fB (b := 32) (by decide), e2, e3, SN, BM hn, fB nLB, xF, hmm, w32, hdd, ia hgl hapc, hap, ho]
  refine ih (i + 1, o ++ [d], nd σ g ++ [.prow 1 [PV.int .u32 (d : Int)], .prow 1 (lm (o ++ [d]))], .own (σ.length + 1) 0 (i + 1)) _
   ⟨by omega, by simp [ho], hlo.append (.one hd2), ?_, GL.nb (by rw [aT]; simp [ho]) rfl⟩ (by simp; omega) ?_
  ·rw [c9, val_one, ho, ← hv, mN (i := i), hd3, bJ, ck, bW, dh]
  ·rfl
 ·obtain rfl : i = a.length := by omega
  rw [List.drop_length, val, Nat.zero_div, fj, bw] at hv
  have htr := p98 hlo (by omega)
  rw [hv] at htr
  simp only [SB, ak, aj, ↓reduceIte, reduceCtorEq, ai, ab, ah, ae, aa, af, aT, hin, yo htr hgl]
  exact dz aQ aQ
theorem p160 {a : List Nat} {q : Nat} (ha : Lim a) (hq : 0 < q) (hq' : q < LB) (hna : a.length ≤ 1099511627775) :
 Pu rp 103 [.sl (lm a), .int .u64 (q : Int)] (.tup [.p (.sl (lm (dgl (val a / q)))), .p (.int .u64 ((val a % q : Nat) : Int))]) := by
 refine aY rp160 ?_
 have m1 : ((4 : Nat) : Int) * (a.length : Int) ≤ 281474976710656 := by omega
 have m2 : (a.length : Int) ≤ 9223372036854775807 := by omega
 have w1 : IntKind.i64.wrap ((a.length : Int) - 1) = (a.length : Int) - 1 := IntWalk.i64_in _ (by omega)
 have hq0 : (q : Int) ≠ 0 := by omega
 simp only [f103, aJ, SB, ak, aj, ↓reduceIte, reduceCtorEq, ai, ab, ah, ae, aa, af, aT, m1, m2, w1, SN, dN, i9]
 refine aM (β := Nat × List Nat × Nat) (fun t => ([(0, .p (.sl (lm a))), (1, .p (.int .u64 (q : Int))), (6, .own 0 0 a.length), (7, .p (.int .u64 (t.2.2 : Int))), (8, i64 ((t.1 : Int) - 1))], [.prow 1 (lm (aw t.1 0 ++ t.2.1))]))
  (fun t => t.1 ≤ a.length ∧ t.2.1.length = a.length - t.1 ∧ Lim t.2.1 ∧ t.2.2 < q ∧ val (a.drop t.1) = val t.2.1 * q + t.2.2) (fun t => t.1) ((a.length, [], 0) : Nat × List Nat × Nat) rfl (by simp) ⟨av _, by simp, (fun _ hx => nomatch hx), hq, by simp [val]⟩ ?_
 rintro ⟨n, o, r⟩ ⟨hn, ho, hlo, hr, hv⟩ ih
 simp only [] at hn ho hlo hr hv ih ⊢
 by_cases h0 : ((n : Int) - 1) ≥ 0
 ·obtain ⟨m, rfl⟩ : ∃ m, n = m + 1 := ⟨n - 1, by omega⟩
  have hm : m < a.length := hn
  have hi : ((m + 1 : Nat) : Int) - 1 = (m : Int) := by omega
  rw [hi] at h0
  have hw : IntKind.i64.wrap ((m : Int) - 1) = (m : Int) - 1 := IntWalk.i64_in _ (by omega)
  have hrl : r < LB := Nat.lt_trans hr hq'
  have hs : r * LB + a[m] < 18446744073709551616 := by
   have := az LB (show r ≤ LB - 1 by omega)
   have h1 := ha.get hm
   rw [show (LB - 1) * LB = 18446744069414584320 by decide] at this
   unfold LB at *
   omega
  have hsm : IntKind.u64.wrap ((r : Int) * 4294967296) = ((r * LB : Nat) : Int) := vT (y := LB) (by omega)
  have hdl : (r * LB + a[m]) / q < LB := by
   rw [Nat.div_lt_iff_lt_mul hq]
   have h1 := ha.get hm
   have h2 := az LB (show r + 1 ≤ q from hr)
   rw [a8, Nat.one_mul] at h2
   rw [a7 LB q]
   omega
  have hrep : 0 :: (aw m 0 ++ o) = aw (m + 1) 0 ++ o := rfl
  have hget : (lm (0 :: (aw m 0 ++ o)))[m]? = some (.int .u32 0) := by
   have : (0 :: (aw m 0 ++ o))[m]? = some 0 := by rw [hrep, aB (by simp)]; simp
   exact fI this
  have hset : ∀ v, (0 :: (aw m 0 ++ o)).set m v = aw m 0 ++ (v :: o) := by
   intro v
   rw [hrep, List.replicate_succ', aP, List.set_append_right _ _ (by simp)]
   simp
  have hmod := a6 hdl
  simp only [SB, ak, aj, ↓reduceIte, reduceCtorEq, ai, ab, ah, ae, aa, af, aT, hi, h0, hsm, cO hm, fM (ha.get hm), je hs, so hs, AT, w32, hmod, fC hq0, fB hq0, SN, hm, hget, eB, hset, hw]
  refine ih (m, (r * LB + a[m]) / q :: o, (r * LB + a[m]) % q) _ ⟨by omega, by simp [ho]; omega, ?_, ep _ hq, ?_⟩ (by simp) ?_
  ·intro y hy
   rcases List.mem_cons.1 hy with rfl | hy
   ·exact hdl
   ·exact hlo y hy
  ·rw [di hm, val, val, hv]
   have h1 := Nat.div_add_mod (r * LB + a[m]) q
   have g1 : LB * (val o * q + r) = LB * (val o * q) + LB * r := ck ..
   have g2 : ((r * LB + a[m]) / q + LB * val o) * q = (r * LB + a[m]) / q * q + LB * val o * q := a8 ..
   have g3 : LB * val o * q = LB * (val o * q) := bW ..
   have g4 : (r * LB + a[m]) / q * q = q * ((r * LB + a[m]) / q) := a7 ..
   have g5 : r * LB = LB * r := a7 ..
   rw [g1, g2, g3, g4]
   show a[m] + (LB * (val o * q) + LB * r) = q * ((r * LB + a[m]) / q) + LB * (val o * q) + (r * LB + a[m]) % q
   omega
  ·rfl
 ·obtain rfl : n = 0 := by omega
  rw [List.drop_zero] at hv
  have hvq : val o = val a / q := by
   rw [hv, a7, Nat.mul_add_div hq, Nat.div_eq_of_lt hr]; omega
  have hvr : r = val a % q := by
   rw [hv, a7, Nat.mul_add_mod, a6 hr]
  have htr := p98 hlo (by omega)
  rw [hvq] at htr
  have h0' : ¬ (((0 : Nat) : Int) - 1 ≥ 0) := by omega
  rw [List.replicate_zero, List.nil_append]
  simp only [SB, ak, aj, ↓reduceIte, reduceCtorEq, ai, ab, ah, ae, aa, af, aT, h0']
  rw [g8 htr rfl (show a.length = (lm o).length by rw [aT, ho]; omega)]
  simp only [SB, ak, aj, ↓reduceIte, reduceCtorEq, ai, ab, ah, ae, aa, af]
  rw [← hvr]
  exact dz aQ aQ
theorem rp135 : rp 71 = some f71 := rfl
theorem rp99 : rp 30 = some f30 := rfl
theorem BU {rp : cg} {rs : List dH} {base : Nat} {d : Option Nat} {l : List LOp} {dr : Dr} {ks : List KI} {e : Env} {σ : ar} {Q : CV → ar → Prop} {sz bytes : Nat} {s x : Opd} {xs ys : List PV} {g : CV}
 (hg : g = .nils ∧ ys = [] ∨ g = .p (.sl ys)) (hc : (xs.length + ys.length) * bytes ≤ 140737488355328) (hz : dE sz ys = true) (hs : vl e s = .own σ.length 0 xs.length) (hx : vl e x = g) :
 ExR rp rs base (⟨d, none, none, .append sz bytes s x⟩ :: l) dr ks e (σ ++ [.prow sz xs]) Q = ExR rp rs base l dr ks (sto d (.own (σ.length + 1) 0 (xs.length + ys.length)) e) (σ ++ [.dead, .prow sz (xs ++ ys)]) Q := by
 rw [fN]
 have h1 : content (σ ++ [.prow sz xs]) (.own σ.length 0 xs.length) = some xs := jb (s := sz) (by simp) rfl
 have h2 : content (σ ++ [.prow sz xs]) (vl e x) = some ys := by
  rw [hx]
  rcases hg with ⟨rfl, rfl⟩ | rfl
  ·rfl
  ·rfl
 simp only [ev, hs, h1, h2, hc, hz, and_self, if_true, cP, gO, jz, List.set_cons_zero, gU, aH, eY, bX, dZ, List.length_nil, aP, fk, List.nil_append, d8]
theorem uq {x : Nat} : ∀ {j : Nat}, lg (dgl x) j = x / LB ^ j % LB := by
 intro j
 induction j generalizing x with
 | zero =>
   by_cases h : x = 0
   ·subst h; rw [cJ]; simp [lg]
   ·rw [iF h]; simp [lg]
 | succ j ih =>
   by_cases h : x = 0
   ·subst h; rw [cJ]; simp [lg]
   ·rw [iF h, bJ, a7, ← Nat.div_div_eq_div_mul, ← ih]; simp [lg]
theorem nA {n : Nat} {q : List Nat} : 0 :: (aw n 0 ++ q) = aw (n + 1) 0 ++ q := rfl
theorem yq {R V k : Nat} (hk : 1 ≤ k) (hV : V < LB ^ k) (hV2 : LB ^ (k - 1) ≤ V) (hR : R < V * LB) :
 R / V ≤ R / LB ^ (k - 1) / (V / LB ^ (k - 1)) ∧ R / V < LB := by
 have hP : 0 < LB ^ (k - 1) := dg cQ
 have hV0 : 0 < V := bP hP hV2
 refine ⟨?_, (Nat.div_lt_iff_lt_mul hV0).2 (by rw [a7]; exact hR)⟩
 rw [Nat.div_div_eq_div_mul]
 refine Nat.div_le_div_left ?_ ?_
 ·exact Nat.mul_div_le V _
 ·exact Nat.mul_pos hP (Nat.div_pos hV2 hP)
theorem C2 {a b : List Nat} (ha : Lim a) (hb : Lim b) (hna : a.length ≤ 400000000000) (hnb : b.length ≤ 400000000000) (h1 : (dgl (val b)).length = 1) :
 Pu rp 71 [.sl (lm a), .sl (lm b)] (.tup [.p (.sl (lm (dgl (val a / val b)))), .p (.sl (lm (dgl (val a % val b)))), .p (.int .i64 0)]) := by
 refine aY rp135 ?_
 have hne : val b ≠ 0 := by intro h; rw [h, cJ] at h1; cases h1
 obtain ⟨q, hq⟩ := List.length_eq_one_iff.1 h1
 have hvq : val b = q := by rw [← aZ (val b), hq, val_one]
 have hqB : q < LB := (aW (val b)) q (by rw [hq]; exact dM.2 rfl)
 have e : (((1 : Nat) : Int) == 0) = false := rfl
 have e' : (((1 : Nat) : Int) == 1) = true := rfl
 have k2 := p98 hb (by omega)
 have hs := p160 ha (show 0 < q by omega) hqB (by omega)
 rw [hq] at k2
 have hrl : val a % q < LB := Nat.lt_trans (ep _ (by omega)) hqB
 have htr := p98 (l := [val a % q]) (.one hrl) (by simp)
 rw [val_one] at htr
 have g0 : (lm [q])[(0 : Nat)]? = some (.int .u32 (q : Int)) := rfl
 have i0 : gG 0 = 0 := rfl
 have hmm : val a % q % LB = val a % q := a6 hrl
 simp only [f71, aJ, SB, ak, aj, ↓reduceIte, reduceCtorEq, ai, ab, ah, ae, aa, af, kp1 k2, aT, e, e', kp2 hs, i0, g0, fM hqB, w32, hmm]
 rw [g8 (n := 1) htr rfl rfl]
 simp only [SB, ak, aj, ↓reduceIte, reduceCtorEq, ai, ab, ah, ae, aa, af]
 rw [hvq]
 exact dT aQ aQ aQ
theorem C3 {a b : List Nat} (ha : Lim a) (hb : Lim b) (hna : a.length ≤ 400000000000) (hnb : b.length ≤ 400000000000) (h1 : 2 ≤ (dgl (val b)).length) :
 Pu rp 71 [.sl (lm a), .sl (lm b)] (.tup [.p (.sl (lm (dgl (val a / val b)))), .p (.sl (lm (dgl (val a % val b)))), .p (.int .i64 0)]) := by
 refine aY rp135 ?_
 have hdb : (dgl (val b)).length ≤ b.length := bE (bR hb)
 have hne : val b ≠ 0 := by intro h; rw [h, cJ] at h1; simp at h1
 have k2 := p98 hb (by omega)
 obtain ⟨t, ht⟩ : ∃ t, (dgl (val b))[(dgl (val b)).length - 1]? = some t := ⟨_, bG (by omega)⟩
 obtain ⟨n, hn⟩ : ∃ n, n = 32 - bl t := ⟨_, rfl⟩
 obtain ⟨hvl, hn32, ht0⟩ := mE hne ht hn
 have hm : (dgl (val b)).length - 1 < (dgl (val b)).length := by omega
 rw [bG hm, Option.some.injEq] at ht
 have hbits := yY (aW (val b)) hm (by rw [ht]; exact ht0) (by rw [show (dgl (val b)).length - 1 + 1 = (dgl (val b)).length by omega, List.drop_length]; rfl)
 have htB : t < LB := by rw [← ht]; exact (aW (val b)).get hm
 have hb32 := tr htB
 rw [ht] at hbits
 have h82 := p82 (aW (val b)) (by omega)
 have hbn : val b * 2 ^ n ≠ 0 := Nat.mul_ne_zero hne (Nat.ne_of_gt (dg (by decide)))
 have h2l : Lim [2 ^ n] := .one (by have := Nat.pow_lt_pow_right (a := 2) (by decide) hn32; unfold LB; omega)
 have hu := p147 ha h2l (by omega) (by simp)
 have hv := p147 (aW (val b)) h2l (by omega) (by simp)
 rw [aZ] at hv
 rw [val_one] at hu hv
 have hul : (dgl (val a * 2 ^ n)).length ≤ a.length + 1 := bE (by
  rw [bJ]
  exact Nat.mul_lt_mul'' (bR ha) (h2l _ (dM.2 rfl)))
 have hV2 : LB ^ ((dgl (val b)).length - 1) ≤ val b * 2 ^ n := by
  rcases ax (val b * 2 ^ n) (LB ^ ((dgl (val b)).length - 1)) with h | h
  ·have := bE h; omega
  ·exact h
 have hVlt : val b * 2 ^ n < LB ^ (dgl (val b)).length := by
  have := bR (aW (val b * 2 ^ n)); rwa [aZ, hvl] at this
 have hVL := aW (val b * 2 ^ n)
 have hvV := aZ (val b * 2 ^ n)
 have h82e : bl (val (dgl (val b))) = 32 * ((dgl (val b)).length - 1) + bl t := hbits
 rw [hbits] at h82
 have hkl : (dgl (val b)).length ≤ 400000000000 := by omega
 have h164 := fun (r : List Nat) (hr : Lim r) (hrl : r.length ≤ 500000000000) => p164 hr hrl hn32
 clear hbits h82e
 generalize hd : dgl (val b) = d at *
 generalize hvd : dgl (val b * 2 ^ n) = v at *
 generalize hud : dgl (val a * 2 ^ n) = u at *
 have huL : Lim u := by rw [← hud]; exact aW _
 have huv : val u = val a * 2 ^ n := by rw [← hud, aZ]
 have e0 : ((d.length : Int) == 0) = false := by rw [beq_eq_false_iff_ne]; omega
 have e1 : ((d.length : Int) == 1) = false := by rw [beq_eq_false_iff_ne]; omega
 have w1 : IntKind.i64.wrap (32 * (d.length : Int)) = ((32 * d.length : Nat) : Int) := by rw [IntWalk.i64_in _ (by omega)]; omega
 have w2 : IntKind.i64.wrap (((32 * d.length : Nat) : Int) - ((32 * (d.length - 1) + bl t : Nat) : Int)) = (n : Int) := by rw [IntWalk.i64_in _ (by omega)]; omega
 have w3 : IntKind.i64.wrap ((u.length : Int) - 1) = (u.length : Int) - 1 := IntWalk.i64_in _ (by omega)
 have m1 : ((4 : Nat) : Int) * (u.length : Int) ≤ 281474976710656 := by omega
 have m2 : (u.length : Int) ≤ 9223372036854775807 := by omega
 simp only [f71, aJ, SB, ak, aj, ↓reduceIte, reduceCtorEq, ai, ab, ah, ae, aa, af, kp1 k2, aT, e0, e1, kp1 h82, w1, w2, kp1 (p161 hn32), kp2 hu, kp2 hv, w3, m1, m2, SN, dN, i9]
 have hV0 : 0 < val v := by rw [hvV]; exact dU hbn
 have h2p : 0 < 2 ^ n := dg (by decide)
 refine aM (β := Nat × List Nat × Nat × ar × CV) (fun t => ([(7, .p (.sl (lm d))), (11, .p (.sl (lm u))), (12, .p (.sl (lm v))), (13, .own 0 0 u.length), (14, t.2.2.2.2), (15, i64 ((t.1 : Int) - 1))], t.2.2.2.1))
  (fun t => t.1 ≤ u.length ∧ t.2.1.length = u.length - t.1 ∧ Lim t.2.1 ∧ t.2.2.1 < val v ∧ val t.2.1 * val v + t.2.2.1 = val (u.drop t.1) ∧ t.2.2.2.1[0]? = some (.prow 1 (lm (aw t.1 0 ++ t.2.1))) ∧ (t.2.2.2.2 = .nils ∧ lm (dgl t.2.2.1) = [] ∨ t.2.2.2.2 = .p (.sl (lm (dgl t.2.2.1))))) (fun t => t.1) ((u.length, [], 0, [.prow 1 (lm (aw u.length 0))], .nils) : Nat × List Nat × Nat × ar × CV) rfl rfl
  ⟨av _, by simp, (fun _ hx => nomatch hx), hV0, by simp [val], by simp, .inl ⟨rfl, by rw [cJ]; rfl⟩⟩ ?_
 rintro ⟨i, qs, R, σ, g⟩ ⟨hi, hql, hqL, hR, hq, hσ, hg⟩ ih
 simp only [] at hi hql hqL hR hq hσ hg ih ⊢
 cases i with
 | zero =>
   have hneg : ¬ (((0 : Nat) : Int) - 1 ≥ 0) := by omega
   rw [List.drop_zero, huv, hvV] at hq
   rw [hvV] at hR
   have hp := dU hbn
   have q1 : val qs = val a / val b := by
    rw [← Nat.mul_div_mul_right (val a) (val b) h2p, ← hq, Nat.add_comm, Nat.add_mul_div_right _ _ hp, Nat.div_eq_of_lt hR, d8]
   have q2 : R / 2 ^ n = val a % val b := by
    have : val a * 2 ^ n % (val b * 2 ^ n) = R := by rw [← hq, Nat.add_comm, Nat.add_mul_mod_self_right, a6 hR]
    rw [← this, Nat.mul_mod_mul_right, Nat.mul_div_cancel _ h2p]
   have htq := p98 hqL (by omega)
   rw [q1] at htq
   have hrl : (dgl R).length ≤ d.length := bE (Nat.lt_trans hR hVlt)
   have hr := h164 (dgl R) (aW R) (by omega)
   rw [aZ, q2] at hr
   have hσ' : σ[0]? = some (.prow 1 (lm qs)) := hσ
   rcases hg with ⟨rfl, hg0⟩ | rfl
   ·rw [hg0] at hr
    simp only [SB, ak, aj, ↓reduceIte, reduceCtorEq, ai, ab, ah, ae, aa, af, hneg, aT, w1, kp1 h82, w2]
    rw [j1 hr rfl]
    simp only [SB, ak, aj, ↓reduceIte, reduceCtorEq, ai, ab, ah, ae, aa, af]
    rw [g8 htq hσ' (by rw [aT, hql]; omega)]
    simp only [SB, ak, aj, ↓reduceIte, reduceCtorEq, ai, ab, ah, ae, aa, af]
    exact dT aQ aQ aQ
   ·simp only [SB, ak, aj, ↓reduceIte, reduceCtorEq, ai, ab, ah, ae, aa, af, hneg, aT, w1, kp1 h82, w2, kp2 hr]
    rw [g8 htq hσ' (by rw [aT, hql]; omega)]
    simp only [SB, ak, aj, ↓reduceIte, reduceCtorEq, ai, ab, ah, ae, aa, af]
    exact dT aQ aQ aQ
 | succ m =>
   have hm : m < u.length := hi
   have hge0 : ((m + 1 : Nat) : Int) - 1 ≥ 0 := by omega
   have hje : ((m + 1 : Nat) : Int) - 1 = (m : Int) := by omega
   have hm0 : (m : Int) ≥ 0 := by omega
   have w4 : IntKind.i64.wrap ((m : Int) - 1) = (m : Int) - 1 := IntWalk.i64_in _ (by omega)
   have hux := huL.get hm
   have hRl : (dgl R).length ≤ d.length := bE (Nat.lt_trans (by rw [hvV] at hR; exact hR) hVlt)
   have hapc : ([PV.int .u32 (u[m] : Nat)].length + (lm (dgl R)).length) * 4 ≤ 140737488355328 := by rw [aT]; simp; omega
   obtain ⟨R', hR'⟩ : ∃ R', R' = u[m] + LB * R := ⟨_, rfl⟩
   have hLR : Lim (u[m] :: dgl R) := by
    intro y hy
    rcases List.mem_cons.1 hy with rfl | hy
    ·exact hux
    ·exact aW R y hy
   have k98 := p98 hLR (by simp; omega)
   rw [val, aZ, ← hR'] at k98
   have hR'V : R' < val v * LB := by
    have := bH LB (show R + 1 ≤ val v from hR)
    rw [ck, dq] at this
    rw [a7]; omega
   have hR'l : (dgl R').length ≤ d.length + 1 := bE (by rw [bJ]; exact bP hR'V (az _ (by rw [hvV]; omega)))
   have hcmp := p140 (aW R') hVL (by omega) (by omega)
   rw [aZ] at hcmp
   have hqd : val (u.drop m) = u[m] + LB * val (u.drop (m + 1)) := by rw [di hm, val]
   have hb1 : σ ++ [Blk.prow 1 [PV.int .u32 (u[m] : Nat)]] = σ ++ [Blk.prow 1 [PV.int .u32 (u[m] : Nat)]] := rfl
   have hg2 : (σ ++ [Blk.dead, Blk.prow 1 (PV.int .u32 (u[m] : Nat) :: lm (dgl R))])[σ.length + 1]? = some (Blk.prow 1 (PV.int .u32 (u[m] : Nat) :: lm (dgl R))) := by rw [cY]; rfl
   have hl2 : 1 + (dgl R).length = (PV.int .u32 (u[m] : Nat) :: lm (dgl R)).length := by simp [aT]; omega
   have hs0 : 0 < σ.length := (aq.1 hσ).1
   simp only [SB, ak, aj, ↓reduceIte, reduceCtorEq, ai, ab, ah, ae, aa, af, hje, hm0, cO hm, SN, BU hg hapc oG, aT]
   rw [g8 (es := PV.int .u32 (u[m] : Nat) :: lm (dgl R)) k98 hg2 hl2]
   by_cases hlt : R' < val v
   ·have hci : eV R' (val v) < 0 := fF.2 hlt
    simp only [SB, ak, aj, ↓reduceIte, reduceCtorEq, ai, ab, ah, ae, aa, af, kp2 hcmp, hci, w4]
    refine ih (m, 0 :: qs, R', σ ++ [.dead, .dead], .p (.sl (lm (dgl R')))) _ ⟨by simp only []; omega, by simp [hql]; omega, ?_, hlt, ?_, ?_, .inr rfl⟩ (bO _) ?_
    ·intro y hy
     rcases List.mem_cons.1 hy with rfl | hy
     ·exact cQ
     ·exact hqL y hy
    ·simp only [val]
     rw [hqd, ← hq, hR', d8, ck, bW]; omega
    ·simp only []
     rw [aL hs0, hσ, List.replicate_succ', aP]; rfl
    ·rfl
   ·have hci : ¬ eV R' (val v) < 0 := by rw [fF]; exact hlt
    have hk1 : 1 ≤ d.length := by omega
    have hvlt : val v < LB ^ d.length := by rw [hvV]; exact hVlt
    have hvge : LB ^ (d.length - 1) ≤ val v := by rw [hvV]; exact hV2
    obtain ⟨gg1, gg2⟩ := yq hk1 hvlt hvge hR'V
    have hR'k : R' / LB ^ d.length < LB := by
     rw [Nat.div_lt_iff_lt_mul (dg cQ), a7]
     exact bP hR'V (az _ (Nat.le_of_lt hvlt))
    have t1 : lg (dgl R') d.length = R' / LB ^ d.length := by rw [uq, a6 hR'k]
    have t2 : lg (dgl R') (d.length - 1) = R' / LB ^ (d.length - 1) % LB := uq
    have t3 : lg v (d.length - 1) = val v / LB ^ (d.length - 1) := by
     rw [← hvd, uq, aZ, a6]
     rw [Nat.div_lt_iff_lt_mul (dg cQ), a7 LB, ← bJ, show (d.length - 1).succ = d.length by omega]
     exact hVlt
    have t4 : lg (dgl R') d.length * LB + lg (dgl R') (d.length - 1) = R' / LB ^ (d.length - 1) := by
     rw [t1, t2]
     have := Nat.mod_add_div (R' / LB ^ (d.length - 1)) LB
     rw [Nat.div_div_eq_div_mul, ← bJ, show (d.length - 1).succ = d.length by omega, a7] at this
     omega
    have hT0 : 0 < val v / LB ^ (d.length - 1) := Nat.div_pos hvge (dg cQ)
    have b1 : lg (dgl R') d.length < LB := jA (aW R')
    have b2 : lg (dgl R') (d.length - 1) < LB := jA (aW R')
    have b3 : lg (dgl R') d.length * LB < 18446744073709551616 ∧ lg (dgl R') d.length * LB + lg (dgl R') (d.length - 1) < 18446744073709551616 := by
     have := az LB (show lg (dgl R') d.length ≤ LB - 1 by omega)
     rw [show (LB - 1) * LB = 18446744069414584320 by decide] at this
     unfold LB at *
     omega
    have x1 : IntKind.u64.wrap ((lg (dgl R') d.length : Int) * 4294967296) = ((lg (dgl R') d.length * LB : Nat) : Int) := vT (y := LB) b3.1
    have x2 := je b3.2
    have x3 : IntKind.i64.wrap ((d.length : Int) - 1) = ((d.length - 1 : Nat) : Int) := by rw [IntWalk.i64_in _ (by omega)]; omega
    have x4 : ((lg v (d.length - 1) : Nat) : Int) ≠ 0 := by rw [t3]; omega
    have x5 := so (y := lg v (d.length - 1)) b3.2
    have hgv : (lg (dgl R') d.length * LB + lg (dgl R') (d.length - 1)) / lg v (d.length - 1) = R' / LB ^ (d.length - 1) / (val v / LB ^ (d.length - 1)) := by rw [t4, t3]
    rw [← hgv] at gg1
    generalize hG : (lg (dgl R') d.length * LB + lg (dgl R') (d.length - 1)) / lg v (d.length - 1) = G at *
    have k162a := p162 (aW R') (i := d.length)
    have k162b := p162 (aW R') (i := d.length - 1)
    have k162c := p162 hVL (i := d.length - 1)
    have hrd : R' % val v + val v * (R' / val v) = R' := Nat.mod_add_div _ _
    have hmd := ep R' hV0
    have hσm : ∀ l, (σ ++ l)[0]? = some (.prow 1 (lm (0 :: (aw m 0 ++ qs)))) := fun l => by rw [aL hs0]; exact hσ
    have hσs : ∀ l x, (σ ++ l).set 0 x = σ.set 0 x ++ l := fun l x => cv hs0
    have hlm : m < u.length := hm
    have hgm : (lm (0 :: (aw m 0 ++ qs)))[m]? = some (.int .u32 ((0 : Nat) : Int)) := fI (by
     rw [nA, aB (by rw [eK]; omega), List.getElem?_replicate, if_pos (bO _)])
    have hsm : ∀ c, (0 :: (aw m 0 ++ qs)).set m c = aw m 0 ++ (c :: qs) := by
     intro c
     rw [nA, List.replicate_succ', aP, List.set_append_right _ _ (by rw [eK]; omega), eK, eI]
     rfl
    have hcap : ∃ G' : Nat, R' / val v ≤ G' ∧ G' < LB ∧ ((G : Int) ≥ 4294967296 ∧ G' = 4294967295 ∧ IntKind.u32.wrap 4294967295 = (G' : Int) ∨ ¬ (G : Int) ≥ 4294967296 ∧ G' = G ∧ IntKind.u32.wrap (G : Int) = (G' : Int)) := by
     by_cases h : (G : Int) ≥ 4294967296
     ·exact ⟨4294967295, by unfold LB at gg2; omega, by decide, .inl ⟨h, rfl, by decide⟩⟩
     ·exact ⟨G, gg1, by unfold LB; omega, .inr ⟨h, rfl, by rw [w32, a6 (by unfold LB; omega)]⟩⟩
    obtain ⟨G', hG1, hG2, hG3⟩ := hcap
    have hGm : G' % LB = G' := a6 hG2
    have k147 := p147 hVL (.one hG2) (by omega) (by simp)
    rw [val_one] at k147
    have hg3 : (σ ++ [Blk.dead, Blk.dead, Blk.prow 1 [PV.int .u32 (G' : Int)]])[σ.length + 2]? = some (.prow 1 (lm [G'])) := by rw [cY]; rfl
    have hpl : ∀ c, c ≤ G' → (dgl (val v * c)).length ≤ d.length + 1 := fun c hc => bE (by
     rw [bJ]
     exact Nat.mul_lt_mul'' hvlt (bQ hc hG2))
    rcases hG3 with ⟨hG3, hG4, hw⟩ | ⟨hG3, hG4, hw⟩
    all_goals
     simp only [SB, ak, aj, ↓reduceIte, reduceCtorEq, ai, ab, ah, ae, aa, af, kp2 hcmp, hci, aT, hvl, kp2 k162a, x1, x3, kp2 k162b, x2, kp2 k162c, fC x4, x5, hG3]
     simp only [SB, ak, aj, ↓reduceIte, reduceCtorEq, ai, ab, ah, ae, aa, af, hw, jC (n := 1) k147 hg3 rfl]
     refine aM (β := Nat) (fun c => ([(7, .p (.sl (lm d))), (11, .p (.sl (lm u))), (12, .p (.sl (lm v))), (13, .own 0 0 u.length), (14, .p (.sl (lm (dgl R')))), (15, i64 (m : Int)), (16, .p (.int .u64 (c : Int))), (17, .p (.sl (lm (dgl (val v * c)))))], σ ++ [.dead, .dead, .dead]))
      (fun c => R' / val v ≤ c ∧ c ≤ G') (fun c => c) G' (by subst hG4; rfl) rfl ⟨hG1, av _⟩ ?_
     rintro c ⟨hc1, hc2⟩ ih2
     simp only [] at ih2 ⊢
     have hpc := hpl c hc2
     have hcmp2 := p140 (aW (val v * c)) (aW R') (by omega) (by omega)
     rw [aZ, aZ] at hcmp2
     by_cases hgt2 : R' < val v * c
     ·have hc0 : 0 < c := by rcases eu c with h | h; rw [h, fj] at hgt2; omega; exact h
      have hcs : val v * c = val v * (c - 1) + val v := by rw [← Nat.mul_succ]; congr 1; omega
      have hci2 : eV (val v * c) R' > 0 := by unfold eV; rw [if_neg (by omega), if_neg (by omega)]; decide
      have hlow : R' / val v ≤ c - 1 := by
       have : R' / val v < c := (Nat.div_lt_iff_lt_mul hV0).2 (by rw [a7]; exact hgt2)
       omega
      have y1 : IntKind.u64.wrap ((c : Int) - 1) = ((c - 1 : Nat) : Int) := Bv (y := 1) hc0 (by unfold LB at hG2; omega)
      have k163 := p163 (aW (val v * c)) hVL (by rw [aZ]; omega) (by omega) (by have := bR (aW (val v * c)); rw [aZ] at this; omega)
      rw [aZ, show val v * c - val v = val v * (c - 1) by omega] at k163
      simp only [SB, ak, aj, ↓reduceIte, reduceCtorEq, ai, ab, ah, ae, aa, af, kp2 hcmp2, hci2, y1, kp2 k163]
      refine ih2 (c - 1) _ ⟨hlow, by omega⟩ (by omega) ?_
      rfl
     ·have hci2 : ¬ eV (val v * c) R' > 0 := by unfold eV; split; decide; rw [if_pos (by omega)]; decide
      have hce : c = R' / val v := by
       have : c ≤ R' / val v := (Nat.le_div_iff_mul_le hV0).2 (by rw [a7]; omega)
       omega
      have k163 := p163 (aW R') (aW (val v * c)) (by rw [aZ, aZ]; omega) (by omega) (by have := bR (aW R'); rw [aZ] at this ⊢; omega)
      rw [aZ, aZ] at k163
      have hcm : c % LB = c := a6 (by omega)
      simp only [SB, ak, aj, ↓reduceIte, reduceCtorEq, ai, ab, ah, ae, aa, af, kp2 hcmp2, hci2, w32, hcm, SN, hlm, hσm, hgm, eB, hsm, hσs, kp2 k163, w4, ge_iff_le]
      have hfin : R' - val v * c = R' % val v := by rw [hce]; omega
      refine ih (m, c :: qs, R' - val v * c, σ.set 0 (.prow 1 (lm (aw m 0 ++ (c :: qs)))) ++ [.dead, .dead, .dead], .p (.sl (lm (dgl (R' - val v * c))))) _ ⟨by simp only []; omega, by simp [hql]; omega, ?_, by simp only []; rw [hfin]; exact hmd, ?_, ?_, .inr rfl⟩ (bO _) ?_
      ·intro y hy
       rcases List.mem_cons.1 hy with rfl | hy
       ·omega
       ·exact hqL y hy
      ·simp only [val]
       rw [hqd, ← hq, ck, ← bW, a8, a7 c]; omega
      ·simp only []
       rw [aL (by rw [ay]; exact hs0), bt hs0]
      ·rfl
theorem p135 {a b : List Nat} (ha : Lim a) (hb : Lim b) (hna : a.length ≤ 400000000000) (hnb : b.length ≤ 400000000000) (h0 : val b ≠ 0) :
 Pu rp 71 [.sl (lm a), .sl (lm b)] (.tup [.p (.sl (lm (dgl (val a / val b)))), .p (.sl (lm (dgl (val a % val b)))), .p (.int .i64 0)]) := by
 have hl := List.length_pos_iff.2 (jt h0)
 rcases (show (dgl (val b)).length = 1 ∨ 2 ≤ (dgl (val b)).length by omega) with h1 | h1
 ·exact C2 ha hb hna hnb h1
 ·exact C3 ha hb hna hnb h1
theorem p99 {a b : List Nat} (ha : Lim a) (hb : Lim b) (hna : a.length ≤ 400000000000) (hnb : b.length ≤ 400000000000) :
 Pu rp 30 [.sl (lm a), .sl (lm b)] (.p (.sl (lm (dgl (bZ (val a) (val b)))))) := by
 refine aY rp99 ?_
 have hda : (dgl (val a)).length ≤ a.length := bE (bR ha)
 have hdb : (dgl (val b)).length ≤ b.length := bE (bR hb)
 simp only [f30, aJ, SB, ak, aj, ↓reduceIte, reduceCtorEq, ai, ab, ah, ae, aa, af, kp1 (p98 ha (by omega)), kp1 (p98 hb (by omega))]
 refine qe (β := Nat × Nat) (γ := Unit) (fun t => ([(5, .p (.sl (lm (dgl t.1)))), (6, .p (.sl (lm (dgl t.2))))], [])) (fun t => bZ t.1 t.2 = bZ (val a) (val b) ∧ (dgl t.1).length ≤ 400000000000 ∧ (dgl t.2).length ≤ 400000000000) (fun t => t.2)
  (fun _ => ([(5, .p (.sl (lm (dgl (bZ (val a) (val b))))))], [])) (fun _ => True) ((val a, val b) : Nat × Nat) rfl rfl ⟨rfl, by simp only []; omega, by simp only []; omega⟩ ?_ ?_
 ·rintro ks' ⟨x, y⟩ ⟨hg, hx, hy⟩ ih hexit
  simp only [] at hg hx hy ih hexit ⊢
  by_cases h0 : y = 0
  ·subst h0
   have hn : ¬ (((([] : List Nat).length : Nat) : Int) > 0) := by simp
   rw [Nat.gcd_zero_right] at hg
   simp only [SB, ak, aj, ↓reduceIte, reduceCtorEq, ai, ab, ah, ae, aa, af, cJ, aT, hn]
   refine hexit () _ trivial ?_
   rw [← hg]; rfl
  ·have hlen := List.length_pos_iff.2 (jt h0)
   have hp : ((dgl y).length : Int) > 0 := by omega
   have hk := p135 (aW x) (aW y) hx hy (by rw [aZ]; exact h0)
   rw [aZ, aZ] at hk
   have hr : (dgl (x % y)).length ≤ (dgl y).length := fv (Nat.le_of_lt (ep _ (dU h0)))
   simp only [SB, ak, aj, ↓reduceIte, reduceCtorEq, ai, ab, ah, ae, aa, af, aT, hp, kp2 hk]
   refine ih (y, x % y) _ ⟨?_, hy, by simp only []; omega⟩ (ep _ (dU h0)) ?_
   ·rw [← hg]; simp only []; rw [Nat.gcd_comm, ← Nat.gcd_rec, Nat.gcd_comm]
   ·rfl
 ·rintro ⟨⟩ -
  simp only [SB, ak, aj, ↓reduceIte, reduceCtorEq, ai, ab, ah, ae, aa, af]
  rfl
theorem rp79 : rp 69 = some f69 := rfl
theorem rp109 : rp 80 = some f80 := rfl
theorem rp60 : rp 79 = some f79 := rfl
theorem rp117 : rp 32 = some f32 := rfl
theorem BX {p : PV} {x : Int} (h : Nu p x) : Pu rp 68 [p] (.p (zi x)) := by
 obtain ⟨neg, l, rfl, hl, hn, rfl⟩ := h
 rw [← mk_val]
 exact p68 hl (by rw [cH] at hn; omega)
theorem zX {p : PV} {x : Int} (h : Nu p x) : Pu rp 70 [p] (.p (zi (-x))) := by
 obtain ⟨neg, l, rfl, hl, hn, rfl⟩ := h
 refine aY rp58 ?_
 rw [cH] at hn
 have e : -iv neg l = iv (!neg) l := by unfold iv; cases neg <;> simp
 rw [e, ← mk_val]
 simp only [f70, aJ, SB, ak, aj, ↓reduceIte, reduceCtorEq, ai, ab, ah, ae, aa, af, unV, kp2 (p107 hl (by omega))]
 rfl
theorem p79 {p : PV} {x : Int} (h : Nu p x) : Pu rp 69 [p] (.p (.int .i64 x.sign)) := by
 obtain ⟨neg, l, rfl, hl, hn, rfl⟩ := h
 refine aY rp79 ?_
 rw [cH] at hn
 have k := p98 hl (by omega)
 by_cases h0 : val l = 0
 ·rw [h0, cJ] at k
  have e : (((([] : List Nat).length : Nat) : Int) == 0) = true := rfl
  simp only [f69, aJ, SB, ak, aj, ↓reduceIte, reduceCtorEq, ai, ab, ah, ae, aa, af, kp1 k, aT, e]
  have : iv neg l = 0 := by unfold iv; rw [h0]; cases neg <;> rfl
  rw [this]; rfl
 ·have hpos := List.length_pos_iff.2 (jt h0)
  have e : (((dgl (val l)).length : Int) == 0) = false := by rw [beq_eq_false_iff_ne]; omega
  cases neg
  ·simp only [f69, aJ, SB, ak, aj, ↓reduceIte, reduceCtorEq, ai, ab, ah, ae, aa, af, kp1 k, aT, e]
   have : (iv false l).sign = 1 := bo (by unfold iv; simp; omega)
   rw [this]; rfl
  ·simp only [f69, aJ, SB, ak, aj, ↓reduceIte, reduceCtorEq, ai, ab, ah, ae, aa, af, kp1 k, aT, e]
   have : (iv true l).sign = -1 := bY (by unfold iv; simp; omega)
   rw [this]; rfl
theorem p117 {p q : PV} {x y : Int} (h : Nu p x) (h' : Nu q y) : Pu rp 32 [p, q] (.p (zi (x * y))) := by
 obtain ⟨n1, a, rfl, ha, hna, rfl⟩ := h
 obtain ⟨n2, b, rfl, hb, hnb, rfl⟩ := h'
 refine aY rp117 ?_
 rw [cH] at hna hnb
 have hd : (dgl (val a * val b)).length ≤ a.length + b.length := bE (by rw [Nat.pow_add]; exact Nat.mul_lt_mul'' (bR ha) (bR hb))
 have k1 := p147 ha hb (by omega) (by omega)
 have k2 := fun neg => p107 (neg := neg) (aW (val a * val b)) (by omega)
 simp only [aZ] at k2
 have e : zi (iv n1 a * iv n2 b) = mk (n1 != n2) (val a * val b) := by
  rw [iR]; unfold iv; congr 1; cases n1 <;> cases n2 <;> simp [Int.natCast_mul, Int.neg_mul, Int.mul_neg]
 rw [e]
 cases n1 <;> cases n2 <;> simp only [f32, aJ, SB, ak, aj, ↓reduceIte, reduceCtorEq, ai, ab, ah, ae, aa, af, kp2 k1, kp2 (k2 _)] <;> rfl
theorem p109 {p q : PV} {x y : Int} (h : Nu p x) (h' : Nu q y) : Pu rp 80 [p, q] (.p (zi (x + y))) := by
 obtain ⟨n1, a, rfl, ha, hna, rfl⟩ := h
 obtain ⟨n2, b, rfl, hb, hnb, rfl⟩ := h'
 refine aY rp109 ?_
 rw [cH] at hna hnb
 have hcmp := p140 ha hb (by omega) (by omega)
 by_cases hs : n1 = n2
 ·subst hs
  have hd : (dgl (val a + val b)).length ≤ a.length + b.length + 1 := bE (by
   have h1 := bP (bR ha) (Nat.pow_le_pow_right cQ (show a.length ≤ a.length + b.length by omega))
   have h2 := bP (bR hb) (Nat.pow_le_pow_right cQ (show b.length ≤ a.length + b.length by omega))
   rw [bJ]
   have h3 : LB ^ (a.length + b.length) * 2 ≤ LB ^ (a.length + b.length) * LB := bH _ (by decide)
   omega)
  have k1 := p139 ha hb (by omega) (by omega)
  have k2 := p107 (neg := n1) (aW (val a + val b)) (by omega)
  rw [aZ] at k2
  have e : zi (iv n1 a + iv n1 b) = mk n1 (val a + val b) := by
   rw [iR]; unfold iv; congr 1; cases n1 <;> simp; omega
  rw [e]
  cases n1 <;> simp only [f80, aJ, SB, ak, aj, ↓reduceIte, reduceCtorEq, ai, ab, ah, ae, aa, af, kp2 k1, kp2 k2] <;> rfl
 ·by_cases hlt : val a < val b
  ·have hci : ¬ eV (val a) (val b) ≥ 0 := by have := fF.2 hlt; omega
   have k1 := p141 hb ha (by omega) (by omega) (Nat.le_of_lt hlt)
   have hd : (dgl (val b - val a)).length ≤ b.length := bE (bQ (Nat.sub_le _ _) (bR hb))
   have k2 := p107 (neg := n2) (aW (val b - val a)) (by omega)
   rw [aZ] at k2
   have e : zi (iv n1 a + iv n2 b) = mk n2 (val b - val a) := by
    rw [iR]; unfold iv; congr 1; cases n1 <;> cases n2 <;> simp at hs ⊢ <;> omega
   rw [e]
   cases n1 <;> cases n2 <;> simp at hs <;> simp only [f80, aJ, SB, ak, aj, ↓reduceIte, reduceCtorEq, ai, ab, ah, ae, aa, af, kp2 hcmp, hci, kp2 k1, kp2 k2, bq1, bq2] <;> rfl
  ·have hci : eV (val a) (val b) ≥ 0 := by have := mt fF.1 hlt; omega
   have k1 := p141 ha hb (by omega) (by omega) (Nat.le_of_not_lt hlt)
   have hd : (dgl (val a - val b)).length ≤ a.length := bE (bQ (Nat.sub_le _ _) (bR ha))
   have k2 := p107 (neg := n1) (aW (val a - val b)) (by omega)
   rw [aZ] at k2
   have e : zi (iv n1 a + iv n2 b) = mk n1 (val a - val b) := by
    rw [iR]; unfold iv; congr 1; cases n1 <;> cases n2 <;> simp at hs ⊢ <;> omega
   rw [e]
   cases n1 <;> cases n2 <;> simp at hs <;> simp only [f80, aJ, SB, ak, aj, ↓reduceIte, reduceCtorEq, ai, ab, ah, ae, aa, af, kp2 hcmp, hci, kp2 k1, kp2 k2, bq1, bq2] <;> rfl
theorem p60 {p q : PV} {x y : Int} (h : Nu p x) (h' : Nu q y) : Pu rp 79 [p, q] (.p (zi (x - y))) := by
 have k2 := p109 h (Nu.zi h'.sz.neg)
 have k1 := zX h'
 obtain ⟨n1, a, rfl, ha, hna, rfl⟩ := h
 obtain ⟨n2, b, rfl, hb, hnb, rfl⟩ := h'
 refine aY rp60 ?_
 rw [Int.sub_eq_add_neg]
 simp only [f79, aJ, SB, ak, aj, ↓reduceIte, reduceCtorEq, ai, ab, ah, ae, aa, af, kp1 k1, kp2 k2]
 rfl
theorem rp27 : rp 66 = some f66 := rfl
theorem rp69 : rp 102 = some f102 := rfl
theorem rp198 : rp 75 = some f75 := rfl
theorem rp199 : rp 110 = some f110 := rfl
theorem rp200 : rp 28 = some f28 := rfl
theorem rp172 : rp 74 = some f74 := rfl
theorem rp173 : rp 65 = some f65 := rfl
theorem rp174 : rp 77 = some f77 := rfl
def Sk (n : Nat) (x : Int) : Prop := x.natAbs < LB ^ n
theorem Sk.sz {n : Nat} {x : Int} (h : Sk n x) (hn : n ≤ 100000000000) : Sz x := bP h (Nat.pow_le_pow_right cQ (by rw [cH]; exact hn))
theorem Sk.mono {n m : Nat} {x : Int} (h : Sk n x) (hn : n ≤ m) : Sk m x := bP h (Nat.pow_le_pow_right cQ hn)
theorem Sk.mul {n m : Nat} {x y : Int} (h : Sk n x) (h' : Sk m y) : Sk (n + m) (x * y) := by
 unfold Sk at *
 rw [Int.natAbs_mul, Nat.pow_add]
 exact Nat.mul_lt_mul'' h h'
theorem Sk.neg {n : Nat} {x : Int} (h : Sk n x) : Sk n (-x) := by unfold Sk at *; rwa [Int.natAbs_neg]
theorem Sk.add {n : Nat} {x y : Int} (h : Sk n x) (h' : Sk n y) : Sk (n + 1) (x + y) := by
 unfold Sk at *
 have h1 := Int.natAbs_add_le x y
 have h3 : LB ^ n * 2 ≤ LB ^ n * LB := bH _ (by decide)
 rw [bJ]
 omega
theorem Sk.sub {n : Nat} {x y : Int} (h : Sk n x) (h' : Sk n y) : Sk (n + 1) (x - y) := by
 rw [Int.sub_eq_add_neg]; exact h.add h'.neg
theorem Sk.le {n : Nat} {x y : Int} (h : Sk n x) (hy : y.natAbs ≤ x.natAbs) : Sk n y := bQ hy h
def rq (x : Rat) : PV := .agg [.bool (decide (x.num < 0) && decide (x.num.natAbs ≠ 0)), .sl (lm (dgl x.num.natAbs)), .bool false, .sl (lm (dgl x.den))]
theorem cN {x : Rat} : (rq x).cells = [.bool (decide (x.num < 0) && decide (x.num.natAbs ≠ 0)), .sl (lm (dgl x.num.natAbs)), .bool false, .sl (lm (dgl x.den))] := rfl
def RL : Nat := 10000000000
theorem eQ : RL = 10000000000 := by unfold RL; rfl
attribute [irreducible] RL
def RS (x : Rat) : Prop := Sk RL x.num ∧ Sk RL (x.den : Int)
theorem mC {x : Rat} (h : Sz x.num) : Nu (.agg [.bool (decide (x.num < 0) && decide (x.num.natAbs ≠ 0)), .sl (lm (dgl x.num.natAbs))]) x.num := Nu.zi h
theorem mD {x : Rat} (h : Sz (x.den : Int)) : Nu (.agg [.bool false, .sl (lm (dgl x.den))]) (x.den : Int) := ⟨false, _, rfl, aW _, bE h, by unfold iv; rw [aZ]; rfl⟩
theorem p69 : Pu rp 102 [] (.p (zi 1)) := by
 refine aY rp69 ?_
 simp only [f102, aJ, SB, ak, aj, ↓reduceIte, reduceCtorEq, ai, ab, ah, ae, aa, af, kp1 (p66 (x := 1) (by decide) (by decide))]
 rfl
theorem p27 {p : PV} {x : Int} (h : Nu p x) : Pu rp 66 [p] (.p (rq (x : Rat))) := by
 have k := BX h
 obtain ⟨neg, l, rfl, hl, hn, rfl⟩ := h
 refine aY rp27 ?_
 simp only [f66, aJ, SB, ak, aj, ↓reduceIte, reduceCtorEq, ai, ab, ah, ae, aa, af, kp1 k, kp0 p69, fp]
 rfl
theorem lO {a b : Int} (hb : 0 < b) : (eZ a b).num = a / (Int.gcd a b : Nat) ∧ (eZ a b).den = b.natAbs / Int.gcd a b := by
 obtain ⟨n, rfl⟩ := Int.eq_ofNat_of_zero_le (Int.le_of_lt hb)
 have hn : n ≠ 0 := by omega
 have e : eZ a (n : Int) = mkRat a n := rfl
 rw [e, Rat.mkRat_def, dif_neg hn, Rat.normalize_eq hn]
 exact ⟨rfl, rfl⟩
theorem x9 {a b : Int} (hb : 0 < b) : zi (eZ a b).num = mk (decide (a < 0) && decide (a.natAbs ≠ 0)) (a.natAbs / bZ a.natAbs b.natAbs) := by
 rw [(lO hb).1]
 have hg : 0 < bZ a.natAbs b.natAbs := Nat.gcd_pos_of_pos_right _ (by omega)
 have hd : bZ a.natAbs b.natAbs ∣ a.natAbs := Nat.gcd_dvd_left _ _
 obtain ⟨c, hc⟩ := hd
 show zi (a / ((bZ a.natAbs b.natAbs : Nat) : Int)) = _
 generalize bZ a.natAbs b.natAbs = g at *
 rw [hc, Nat.mul_div_cancel_left _ hg, iR]
 congr 1
 by_cases h : a < 0
 ·have h0 : ¬ (a.natAbs = 0) := by omega
  have : a = -(c : Int) * (g : Int) := by rw [Int.neg_mul, ← Int.natCast_mul, a7, ← hc]; omega
  have hgc : ¬ (g * c = 0) := by omega
  simp only [h, decide_true, Bool.true_and, ne_eq, hgc, not_false_eq_true, if_true]
  rw [this, Int.mul_ediv_cancel _ (by omega)]
 ·have : a = (c : Int) * (g : Int) := by rw [← Int.natCast_mul, a7, ← hc]; omega
  simp only [h, decide_false, Bool.false_and, aR, if_false]
  rw [this, Int.mul_ediv_cancel _ (by omega)]
theorem u7 {a b : Int} (hb : 0 < b) : rq (eZ a b) = .agg [.bool ((decide (a < 0) && decide (a.natAbs ≠ 0)) && decide (a.natAbs / bZ a.natAbs b.natAbs ≠ 0)), .sl (lm (dgl (a.natAbs / bZ a.natAbs b.natAbs))), .bool false, .sl (lm (dgl (b.natAbs / bZ a.natAbs b.natAbs)))] := by
 have h := x9 (a := a) hb
 unfold zi mk at h
 injection h with h
 injection h with h1 h
 injection h with h2 h
 unfold rq
 rw [h1, h2, (lO hb).2]
 rfl
theorem p200 {p q : PV} {a b : Int} (h : Nu p a) (h' : Nu q b) (hb : b ≠ 0) : Pu rp 28 [p, q] (.p (rq (eZ a b))) := by
 have ha := h.sz
 have hbs := h'.sz
 have k1 := BX h
 have k2 := BX h'
 have k79 := p79 (Nu.zi hbs)
 have k58a := zX (Nu.zi ha)
 have k58b := zX (Nu.zi hbs)
 have key : ∀ a' b' : Int, 0 < b' → Sz a' → Sz b' →
  Pu rp 30 [.sl (lm (dgl a'.natAbs)), .sl (lm (dgl b'.natAbs))] (.p (.sl (lm (dgl (bZ a'.natAbs b'.natAbs))))) ∧
  Pu rp 71 [.sl (lm (dgl a'.natAbs)), .sl (lm (dgl (bZ a'.natAbs b'.natAbs)))] (.tup [.p (.sl (lm (dgl (a'.natAbs / bZ a'.natAbs b'.natAbs)))), .p (.sl (lm (dgl (a'.natAbs % bZ a'.natAbs b'.natAbs)))), .p (.int .i64 0)]) ∧
  Pu rp 71 [.sl (lm (dgl b'.natAbs)), .sl (lm (dgl (bZ a'.natAbs b'.natAbs)))] (.tup [.p (.sl (lm (dgl (b'.natAbs / bZ a'.natAbs b'.natAbs)))), .p (.sl (lm (dgl (b'.natAbs % bZ a'.natAbs b'.natAbs)))), .p (.int .i64 0)]) ∧
  ∀ neg, Pu rp 68 [.agg [.bool neg, .sl (lm (dgl (a'.natAbs / bZ a'.natAbs b'.natAbs)))]] (.p (mk neg (a'.natAbs / bZ a'.natAbs b'.natAbs))) := by
  intro a' b' hb' ha' hbs'
  have hla : (dgl a'.natAbs).length ≤ 100000000000 := by have := bE ha'; rwa [cH] at this
  have hlb : (dgl b'.natAbs).length ≤ 100000000000 := by have := bE hbs'; rwa [cH] at this
  have hg : 0 < bZ a'.natAbs b'.natAbs := Nat.gcd_pos_of_pos_right _ (by omega)
  have hlg : (dgl (bZ a'.natAbs b'.natAbs)).length ≤ 100000000000 := a9 (fv (Nat.gcd_le_right _ (by omega))) hlb
  have hlq : (dgl (a'.natAbs / bZ a'.natAbs b'.natAbs)).length ≤ 100000000000 := a9 (fv (Nat.div_le_self _ _)) hla
  have r1 := p99 (aW a'.natAbs) (aW b'.natAbs) (by omega) (by omega)
  have r2 := p135 (aW a'.natAbs) (aW (bZ a'.natAbs b'.natAbs)) (by omega) (by omega) (by rw [aZ]; omega)
  have r3 := p135 (aW b'.natAbs) (aW (bZ a'.natAbs b'.natAbs)) (by omega) (by omega) (by rw [aZ]; omega)
  have r4 := fun neg => p68 (neg := neg) (aW (a'.natAbs / bZ a'.natAbs b'.natAbs)) (by omega)
  simp only [aZ] at r1 r2 r3 r4
  exact ⟨r1, r2, r3, r4⟩
 obtain ⟨n1, la, rfl, hla, hna, ea⟩ := h
 obtain ⟨n2, lb, rfl, hlb, hnb, eb⟩ := h'
 refine aY rp200 ?_
 rw [bg] at k79 k58a k58b
 by_cases hneg : b < 0
 ·obtain ⟨r1, r2, r3, r4⟩ := key (-a) (-b) (by omega) ha.neg hbs.neg
  have hs : b.sign < 0 := by rw [bY hneg]; decide
  have e : eZ a b = eZ (-a) (-b) := (Rat.neg_divInt_neg a b).symm
  rw [e, u7 (by omega)]
  simp only [f28, aJ, SB, ak, aj, ↓reduceIte, reduceCtorEq, ai, ab, ah, ae, aa, af, kp1 k1, kp1 k2, kp1 k79, hs, kp1 k58a, kp1 k58b, kp2 r1, kp2 r2, kp2 r3, kp1 (r4 _), fp]
  rfl
 ·obtain ⟨r1, r2, r3, r4⟩ := key a b (by omega) ha hbs
  have hs : ¬ b.sign < 0 := by rw [bo (by omega)]; decide
  rw [u7 (by omega)]
  simp only [f28, aJ, SB, ak, aj, ↓reduceIte, reduceCtorEq, ai, ab, ah, ae, aa, af, kp1 k1, kp1 k2, kp1 k79, hs, kp2 r1, kp2 r2, kp2 r3, kp1 (r4 _), fp]
  rfl
theorem p198 {x y : Rat} (h : RS x) (h' : RS y) : Pu rp 75 [rq x, rq y] (.p (rq (x + y))) := by
 refine aY rp198 ?_
 have xn := mC (h.1.sz (by rw [eQ]; omega))
 have xd := mD (h.2.sz (by rw [eQ]; omega))
 have yn := mC (h'.1.sz (by rw [eQ]; omega))
 have yd := mD (h'.2.sz (by rw [eQ]; omega))
 have s1 : Sk (RL + RL) (x.num * y.den) := h.1.mul h'.2
 have s2 : Sk (RL + RL) (y.num * x.den) := h'.1.mul h.2
 have s3 : Sk (RL + RL) ((x.den : Int) * y.den) := h.2.mul h'.2
 have k1 := p117 xn yd
 have k2 := p117 yn xd
 have k3 := p117 xd yd
 have k4 := p109 (Nu.zi (s1.sz (by rw [eQ]; omega))) (Nu.zi (s2.sz (by rw [eQ]; omega)))
 have hd : (x.den : Int) * y.den ≠ 0 := by
  have := x.den_nz; have := y.den_nz
  exact Int.mul_ne_zero (by omega) (by omega)
 have k5 := p200 (Nu.zi ((s1.add s2).sz (by rw [eQ]; omega))) (Nu.zi (s3.sz (by rw [eQ]; omega))) hd
 have e : x + y = eZ (x.num * y.den + y.num * x.den) ((x.den : Int) * y.den) := by
  have := Rat.divInt_add_divInt x.num y.num (d₁ := x.den) (d₂ := y.den) (by have := x.den_nz; omega) (by have := y.den_nz; omega)
  rwa [dP, dP] at this
 rw [e]
 rw [bg (x := x.num * y.den), bg (x := y.num * x.den)] at k4
 simp only [f75, aJ, SB, ak, aj, ↓reduceIte, reduceCtorEq, ai, ab, ah, ae, aa, af, rq, kp2 k1, kp2 k2, kp2 k3, kp2 k4, kp2 k5]
 rfl
theorem p199 {x : Rat} (h : RS x) : Pu rp 110 [rq x] (.p (rq (-x))) := by
 refine aY rp199 ?_
 have xn := mC (h.1.sz (by rw [eQ]; omega))
 have xd := mD (h.2.sz (by rw [eQ]; omega))
 have k1 := zX xn
 have k5 := p200 (Nu.zi ((h.1.neg).sz (by rw [eQ]; omega))) xd (by have := x.den_nz; omega)
 have e : -x = eZ (-x.num) x.den := by
  rw [← Rat.neg_divInt, dP]
 rw [e]
 simp only [f110, aJ, SB, ak, aj, ↓reduceIte, reduceCtorEq, ai, ab, ah, ae, aa, af, rq, kp1 k1, kp2 k5]
 rfl
theorem Rat.Cv {x : Rat} (h : RS x) : RS (-x) := by
 unfold RS at *
 rw [Rat.neg_num, Rat.neg_den]
 exact ⟨h.1.neg, h.2⟩
theorem p172 {x y : Rat} (h : RS x) (h' : RS y) : Pu rp 74 [rq x, rq y] (.p (rq (x - y))) := by
 refine aY rp172 ?_
 have k1 := p199 h'
 have k2 := p198 h (Rat.Cv h')
 rw [Rat.sub_eq_add_neg]
 unfold rq at k1 k2 ⊢
 simp only [f74, aJ, SB, ak, aj, ↓reduceIte, reduceCtorEq, ai, ab, ah, ae, aa, af, kp1 k1, kp2 k2]
 rfl
theorem p173 {x y : Rat} (h : RS x) (h' : RS y) : Pu rp 65 [rq x, rq y] (.p (rq (x * y))) := by
 refine aY rp173 ?_
 have xn := mC (h.1.sz (by rw [eQ]; omega))
 have xd := mD (h.2.sz (by rw [eQ]; omega))
 have yn := mC (h'.1.sz (by rw [eQ]; omega))
 have yd := mD (h'.2.sz (by rw [eQ]; omega))
 have s1 : Sk (RL + RL) (x.num * y.num) := h.1.mul h'.1
 have s3 : Sk (RL + RL) ((x.den : Int) * y.den) := h.2.mul h'.2
 have k1 := p117 xn yn
 have k3 := p117 xd yd
 have hd : (x.den : Int) * y.den ≠ 0 := by
  have := x.den_nz; have := y.den_nz
  exact Int.mul_ne_zero (by omega) (by omega)
 have k5 := p200 (Nu.zi (s1.sz (by rw [eQ]; omega))) (Nu.zi (s3.sz (by rw [eQ]; omega))) hd
 have e : x * y = eZ (x.num * y.num) ((x.den : Int) * y.den) := by
  have := Rat.divInt_mul_divInt x.num y.num (d₁ := x.den) (d₂ := y.den)
  rwa [dP, dP] at this
 rw [e]
 simp only [f65, aJ, SB, ak, aj, ↓reduceIte, reduceCtorEq, ai, ab, ah, ae, aa, af, rq, kp2 k1, kp2 k3, kp2 k5]
 rfl
theorem p174 {x y : Rat} (h : RS x) (h' : RS y) (hy : y ≠ 0) : Pu rp 77 [rq x, rq y] (.p (rq (x / y))) := by
 refine aY rp174 ?_
 have xn := mC (h.1.sz (by rw [eQ]; omega))
 have xd := mD (h.2.sz (by rw [eQ]; omega))
 have yn := mC (h'.1.sz (by rw [eQ]; omega))
 have yd := mD (h'.2.sz (by rw [eQ]; omega))
 have s1 : Sk (RL + RL) (x.num * y.den) := h.1.mul h'.2
 have s3 : Sk (RL + RL) ((x.den : Int) * y.num) := h.2.mul h'.1
 have k1 := p117 xn yd
 have k3 := p117 xd yn
 have hyn : y.num ≠ 0 := fun h0 => hy (Rat.num_eq_zero.1 h0)
 have hd : (x.den : Int) * y.num ≠ 0 := by
  have := x.den_nz
  exact Int.mul_ne_zero (by omega) hyn
 have k5 := p200 (Nu.zi (s1.sz (by rw [eQ]; omega))) (Nu.zi (s3.sz (by rw [eQ]; omega))) hd
 have e : x / y = eZ (x.num * y.den) ((x.den : Int) * y.num) := by
  have h1 : y⁻¹ = eZ y.den y.num := Rat.inv_def y
  have := Rat.divInt_mul_divInt x.num y.den (d₁ := x.den) (d₂ := y.num)
  rwa [dP, ← h1, ← gg] at this
 rw [e]
 simp only [f77, aJ, SB, ak, aj, ↓reduceIte, reduceCtorEq, ai, ab, ah, ae, aa, af, rq, kp2 k1, kp2 k3, kp2 k5]
 rfl
end Go.Proofs.YtdieenbfdeaffabGreat.VBn
namespace Go.Proofs.YtdieenbfdeaffabGreat.Gs
def bz (f : Nat → Rat) : Nat → Rat
 | 0 => 0
 | n + 1 => bz f n + f n
def sg : Nat → Rat
 | 0 => 1
 | n + 1 => - sg n
def sk (r p : Nat) : Nat := if p < r then p else p + 1
def det : Nat → (Nat → Nat → Rat) → Rat
 | 0, _ => 1
 | n + 1, A => bz (fun r => sg r * A r 0 * det n fun p q => A (sk r p) (q + 1)) (n + 1)
theorem cG {f g : Nat → Rat} : ∀ {n : Nat}, (∀ r, r < n → f r = g r) → bz f n = bz g n
 | 0, _ => rfl
 | n + 1, h => by
   simp only [bz]
   rw [cG fun r hr => h r (Nat.lt_succ_of_lt hr), h n (bO n)]
theorem im {f : Nat → Rat} : ∀ {n : Nat}, (∀ r, r < n → f r = 0) → bz f n = 0
 | 0, _ => rfl
 | n + 1, h => by
   simp only [bz]
   rw [im fun r hr => h r (Nat.lt_succ_of_lt hr), h n (bO n)]
   grind
theorem rR {f g : Nat → Rat} {c : Rat} : ∀ {n : Nat}, bz (fun r => f r + c * g r) n = bz f n + c * bz g n
 | 0 => by simp only [bz]; grind
 | n + 1 => by
   simp only [bz]
   rw [rR]
   grind
theorem rO {f : Nat → Rat} {p : Nat} (hs : f p + f (p + 1) = 0) : ∀ {n : Nat}, p + 1 < n → (∀ r, r < n → r ≠ p → r ≠ p + 1 → f r = 0) → bz f n = 0
 | 0, h, _ => by omega
 | n + 1, h, hz => by
   simp only [bz]
   by_cases hn : n = p + 1
   ·subst hn
    simp only [bz]
    rw [im fun r hr => hz r (by omega) (by omega) (by omega)]
    grind
   ·rw [rO hs (n := n) (by omega) fun r hr => hz r (by omega), hz n (by omega) (by omega) (by omega)]
    grind
theorem rP {f : Nat → Rat} : ∀ {n : Nat}, (∀ r, 0 < r → r < n + 1 → f r = 0) → bz f (n + 1) = f 0
 | 0, _ => by simp only [bz]; grind
 | n + 1, h => by
   rw [bz, rP fun r h0 hr => h r h0 (by omega), h (n + 1) (by omega) (by omega)]
   grind
theorem jY {r p n : Nat} (hr : r < n + 1) (hp : p < n) : sk r p < n + 1 := by unfold sk; split <;> omega
theorem wZ {r p : Nat} : sk r p ≠ r := by unfold sk; split <;> omega
theorem fb : ∀ {n : Nat} {A B : Nat → Nat → Rat}, (∀ p q, p < n → q < n → A p q = B p q) → det n A = det n B
 | 0, _, _, _ => rfl
 | n + 1, A, B, h => by
   simp only [det]
   refine cG fun r hr => ?_
   rw [h r 0 hr (by omega), fb (n := n) (A := fun p q => A (sk r p) (q + 1)) (B := fun p q => B (sk r p) (q + 1)) fun p q hp hq => h _ _ (jY hr hp) (by omega)]
def sp (r p : Nat) : Nat := if p < r then p else p - 1
theorem wY {r p : Nat} (h : p ≠ r) : sk r (sp r p) = p := by
 unfold sk sp
 by_cases h1 : p < r
 ·rw [if_pos h1, if_pos h1]
 ·rw [if_neg h1, if_neg (by omega)]; omega
theorem BH {r p p' : Nat} (h : sk r p = sk r p') : p = p' := by unfold sk at h; split at h <;> split at h <;> omega
theorem CJ {r p n : Nat} (hr : r < n + 1) (hp : p < n + 1) (h : p ≠ r) : sp r p < n := by unfold sp; split <;> omega
theorem kZ : ∀ {n : Nat} {A B C : Nat → Nat → Rat} {c : Rat} {p : Nat}, p < n → (∀ q, C p q = A p q + c * B p q) → (∀ r q, r ≠ p → C r q = A r q ∧ C r q = B r q) → det n C = det n A + c * det n B
 | 0, _, _, _, _, _, hp, _, _ => by omega
 | n + 1, A, B, C, c, p, hp, h1, h2 => by
   simp only [det]
   rw [← rR]
   refine cG fun r hr => ?_
   by_cases hrp : r = p
   ·subst hrp
    have e1 : (det n fun p q => C (sk r p) (q + 1)) = det n fun p q => A (sk r p) (q + 1) := fb fun p q _ _ => (h2 _ _ wZ).1
    have e2 : (det n fun p q => C (sk r p) (q + 1)) = det n fun p q => B (sk r p) (q + 1) := fb fun p q _ _ => (h2 _ _ wZ).2
    rw [← e2, ← e1, h1]
    grind
   ·have e := kZ (n := n) (A := fun p q => A (sk r p) (q + 1)) (B := fun p q => B (sk r p) (q + 1)) (C := fun p q => C (sk r p) (q + 1)) (c := c) (p := sp r p) (CJ hr hp (Ne.symm hrp))
     (fun q => by simp only [wY (Ne.symm hrp)]; exact h1 _) (fun r' q hr' => h2 _ _ fun h => hr' (by
      rw [← wY (Ne.symm hrp)] at h; exact BH h))
    rw [e, ← (h2 r 0 hrp).1, (h2 r 0 hrp).2]
    grind
theorem mP : ∀ {n : Nat} {A : Nat → Nat → Rat} {p : Nat}, p + 1 < n → (∀ q, A p q = A (p + 1) q) → det n A = 0
 | 0, _, _, hp, _ => by omega
 | n + 1, A, p, hp, h => by
   simp only [det]
   refine rO (p := p) ?_ hp ?_
   ·have e : (det n fun p' q => A (sk p p') (q + 1)) = det n fun p' q => A (sk (p + 1) p') (q + 1) := fb fun p' q _ _ => by
     by_cases hpp : p' = p
     ·subst hpp
      have a1 : sk p' p' = p' + 1 := by unfold sk; rw [if_neg (by omega)]
      have a2 : sk (p' + 1) p' = p' := by unfold sk; rw [if_pos (by omega)]
      rw [a1, a2, h]
     ·have : sk p p' = sk (p + 1) p' := by unfold sk; split <;> split <;> omega
      rw [this]
    rw [e, h 0, sg]
    grind
   ·intro r hr h1 h2
    have hp1 : sk r (sp r p) = p := wY (Ne.symm h1)
    have hp2 : sk r (sp r p + 1) = p + 1 := by unfold sk sp; split <;> split <;> omega
    rw [mP (n := n) (p := sp r p) (by unfold sp; split <;> omega) (fun q => by simp only [hp1, hp2]; exact h _)]
    grind
def put (A : Nat → Nat → Rat) (p : Nat) (v : Nat → Rat) : Nat → Nat → Rat := fun r q => if r = p then v q else A r q
theorem dc {A : Nat → Nat → Rat} {p : Nat} {v : Nat → Rat} {q : Nat} : put A p v p q = v q := by unfold put; rw [if_pos rfl]
theorem cy {A : Nat → Nat → Rat} {p r : Nat} {v : Nat → Rat} {q : Nat} (h : r ≠ p) : put A p v r q = A r q := by unfold put; rw [if_neg h]
theorem o4 {n : Nat} {A : Nat → Nat → Rat} {p : Nat} (hp : p + 1 < n) : det n (put (put A p (A (p + 1))) (p + 1) (A p)) = - det n A := by
 have key : ∀ x y : Nat → Rat, det n (put (put A p fun q => x q + y q) (p + 1) fun q => x q + y q) = 0 := fun x y =>
  mP (p := p) hp fun q => by rw [cy (by omega), dc, dc]
 have same : ∀ x : Nat → Rat, det n (put (put A p x) (p + 1) x) = 0 := fun x => mP (p := p) hp fun q => by rw [cy (by omega), dc, dc]
 have l1 : ∀ x y z : Nat → Rat, det n (put (put A p fun q => x q + y q) (p + 1) z) = det n (put (put A p x) (p + 1) z) + 1 * det n (put (put A p y) (p + 1) z) := fun x y z =>
  kZ (p := p) (by omega) (fun q => by
   have e : p ≠ p + 1 := by omega
   simp only [put, if_neg e, if_true]
   grind) (fun r q hr => by
   by_cases h : r = p + 1
   ·subst h; rw [dc, dc, dc]; exact ⟨rfl, rfl⟩
   ·rw [cy h, cy h, cy h, cy hr, cy hr, cy hr]; exact ⟨rfl, rfl⟩)
 have l2 : ∀ x y z : Nat → Rat, det n (put (put A p z) (p + 1) fun q => x q + y q) = det n (put (put A p z) (p + 1) x) + 1 * det n (put (put A p z) (p + 1) y) := fun x y z =>
  kZ (p := p + 1) (by omega) (fun q => by rw [dc, dc, dc]; grind) (fun r q hr => by rw [cy hr, cy hr, cy hr]; exact ⟨rfl, rfl⟩)
 have k := key (A p) (A (p + 1))
 rw [l1, l2, l2, same, same] at k
 have e : det n (put (put A p (A p)) (p + 1) (A (p + 1))) = det n A := fb fun r q _ _ => by
  by_cases h : r = p + 1
  ·subst h; rw [dc]
  ·rw [cy h]
   by_cases h' : r = p
   ·subst h'; rw [dc]
   ·rw [cy h']
 rw [e] at k
 grind
theorem pZ {n : Nat} : ∀ {p : Nat} {A : Nat → Nat → Rat}, p + 1 < n → (∀ q, A (p + 1) q = A 0 q) → det n A = 0
 | 0, A, hp, h => mP (p := 0) hp fun q => (h q).symm
 | p + 1, A, hp, h => by
   have h1 := o4 (A := A) (p := p + 1) hp
   rw [pZ (p := p) (A := put (put A (p + 1) (A (p + 1 + 1))) (p + 1 + 1) (A (p + 1))) (by omega) (fun q => by
    rw [cy (by omega), dc, cy (by omega), cy (by omega)]; exact h q)] at h1
   grind
theorem uD {n : Nat} {A : Nat → Nat → Rat} {p : Nat} {c : Rat} (hp : p + 1 < n) : det n (put A (p + 1) fun q => A (p + 1) q + c * A 0 q) = det n A := by
 have h := kZ (n := n) (A := A) (B := put A (p + 1) (A 0)) (C := put A (p + 1) fun q => A (p + 1) q + c * A 0 q) (c := c) (p := p + 1) hp
  (fun q => by rw [dc, dc]) (fun r q hr => by rw [cy hr, cy hr]; exact ⟨rfl, rfl⟩)
 rw [h, pZ (p := p) hp (A := put A (p + 1) (A 0)) (fun q => by rw [dc, cy (by omega)])]
 grind
theorem td {n : Nat} {A : Nat → Nat → Rat} (c : Nat → Rat) : ∀ {m : Nat}, m < n → det n (fun r q => if 0 < r ∧ r ≤ m then A r q + c r * A 0 q else A r q) = det n A
 | 0, _ => fb fun r q _ _ => by rw [if_neg (by omega)]
 | m + 1, hm => by
   refine Eq.trans ?_ (td c (m := m) (by omega))
   rw [← uD (A := fun r q => if 0 < r ∧ r ≤ m then A r q + c r * A 0 q else A r q) (p := m) (c := c (m + 1)) hm]
   refine fb fun r q _ _ => ?_
   by_cases h : r = m + 1
   ·subst h
    rw [dc, if_pos (by omega), if_neg (by omega), if_neg (by omega)]
   ·rw [cy h]
    by_cases h2 : 0 < r ∧ r ≤ m
    ·rw [if_pos (by omega), if_pos h2]
    ·rw [if_neg (by omega), if_neg h2]
theorem te {n : Nat} {A : Nat → Nat → Rat} (h0 : A 0 0 ≠ 0) : det (n + 1) A = A 0 0 * det n fun p q => A (p + 1) (q + 1) - A (p + 1) 0 * A 0 (q + 1) / A 0 0 := by
 rw [← td (fun r => - A r 0 / A 0 0) (m := n) (bO n)]
 rw [det, rP]
 ·have e : (det n fun p q => if 0 < sk 0 p ∧ sk 0 p ≤ n then A (sk 0 p) (q + 1) + (- A (sk 0 p) 0 / A 0 0) * A 0 (q + 1) else A (sk 0 p) (q + 1)) = det n fun p q => A (p + 1) (q + 1) - A (p + 1) 0 * A 0 (q + 1) / A 0 0 := fb fun p q hp hq => by
   have : sk 0 p = p + 1 := by unfold sk; rw [if_neg (by omega)]
   rw [this, if_pos (by omega)]
   grind
  rw [e, if_neg (by omega), sg]
  grind
 ·intro r hr hr2
  rw [if_pos (by omega)]
  have : A r 0 + - A r 0 / A 0 0 * A 0 0 = 0 := by grind
  rw [this]
  grind
def U (g : Nat → Nat → Rat) : Nat → Nat → Nat → Rat
 | 0, i, j => g i j
 | k + 1, i, j => U g k i j - U g k i k * U g k k j / U g k k k
def Dk (g : Nat → Nat → Rat) : Nat → Rat
 | 0 => 1
 | k + 1 => Dk g k * U g k k k
def nx (g : Nat → Nat → Rat) : Nat → Nat → Rat := fun i j => U g 1 (i + 1) (j + 1)
theorem rz {g : Nat → Nat → Rat} : ∀ {k i j : Nat}, U g (k + 1) (i + 1) (j + 1) = U (nx g) k i j
 | 0, _, _ => rfl
 | k + 1, i, j => by
   rw [U, rz, rz, rz, rz, U]
theorem zh {g : Nat → Nat → Rat} : ∀ {k : Nat}, Dk g (k + 1) = g 0 0 * Dk (nx g) k
 | 0 => by simp only [Dk, U]; grind
 | k + 1 => by
   rw [Dk, zh, rz, Dk]
   grind
def ro (k i p : Nat) : Nat := if p < k then p else i
theorem yQ : ∀ {k : Nat} {g : Nat → Nat → Rat} {i j : Nat}, k ≤ i → k ≤ j → (∀ t, t < k → U g t t t ≠ 0) → det (k + 1) (fun p q => g (ro k i p) (ro k j q)) = Dk g k * U g k i j
 | 0, g, i, j, _, _, _ => by
   simp only [det, bz, sg, Dk, U, ro]
   simp only [Nat.not_lt_zero, if_false]
   grind
 | k + 1, g, i, j, hi, hj, hp => by
   obtain ⟨i, rfl⟩ : ∃ i', i = i' + 1 := ⟨i - 1, by omega⟩
   obtain ⟨j, rfl⟩ : ∃ j', j = j' + 1 := ⟨j - 1, by omega⟩
   have r0 : ∀ i, ro (k + 1) i 0 = 0 := fun i => by unfold ro; rw [if_pos (by omega)]
   have rs : ∀ i p, ro (k + 1) (i + 1) (p + 1) = ro k i p + 1 := fun i p => by
    unfold ro
    by_cases h : p < k
    ·rw [if_pos h, if_pos (by omega)]
    ·rw [if_neg h, if_neg (by omega)]
   have h0 : g 0 0 ≠ 0 := hp 0 (by omega)
   rw [te (by simp only [r0]; exact h0)]
   have e : (fun p q => g (ro (k + 1) (i + 1) (p + 1)) (ro (k + 1) (j + 1) (q + 1)) - g (ro (k + 1) (i + 1) (p + 1)) (ro (k + 1) (j + 1) 0) * g (ro (k + 1) (i + 1) 0) (ro (k + 1) (j + 1) (q + 1)) / g (ro (k + 1) (i + 1) 0) (ro (k + 1) (j + 1) 0)) = fun p q => nx g (ro k i p) (ro k j q) := by
    funext p q
    rw [rs, rs, r0, r0]
    rfl
   rw [e, yQ (g := nx g) (by omega) (by omega) (fun t ht => by rw [← rz]; exact hp (t + 1) (by omega)), r0, r0, zh, rz]
   grind
def In (M : Nat) (x : Rat) : Prop := ∃ v : Int, x = (v : Rat) ∧ v.natAbs ≤ M
theorem In.mul {M N : Nat} {x y : Rat} (h : In M x) (h' : In N y) : In (M * N) (x * y) := by
 obtain ⟨v, rfl, hv⟩ := h
 obtain ⟨w, rfl, hw⟩ := h'
 exact ⟨v * w, by rw [dA], by rw [Int.natAbs_mul]; exact Nat.mul_le_mul hv hw⟩
theorem In.add {M N : Nat} {x y : Rat} (h : In M x) (h' : In N y) : In (M + N) (x + y) := by
 obtain ⟨v, rfl, hv⟩ := h
 obtain ⟨w, rfl, hw⟩ := h'
 exact ⟨v + w, by rw [Rat.intCast_add], by have := Int.natAbs_add_le v w; omega⟩
theorem In.neg {M : Nat} {x : Rat} (h : In M x) : In M (-x) := by
 obtain ⟨v, rfl, hv⟩ := h
 exact ⟨-v, by rw [Rat.intCast_neg], by rwa [Int.natAbs_neg]⟩
theorem In.sg : ∀ {n : Nat}, In 1 (sg n)
 | 0 => ⟨1, rfl, by decide⟩
 | n + 1 => In.neg In.sg
theorem In.sum {M : Nat} {f : Nat → Rat} : ∀ {n : Nat}, (∀ r, r < n → In M (f r)) → In (n * M) (bz f n)
 | 0, _ => ⟨0, rfl, by simp⟩
 | n + 1, h => by
   rw [a8, Nat.one_mul]
   exact In.add (In.sum fun r hr => h r (by omega)) (h n (by omega))
def bd (M : Nat) : Nat → Nat
 | 0 => 1
 | n + 1 => (n + 1) * (M * bd M n)
theorem In.det {M : Nat} : ∀ {n : Nat} {A : Nat → Nat → Rat}, (∀ p q, p < n → q < n → In M (A p q)) → In (bd M n) (det n A)
 | 0, _, _ => ⟨1, rfl, av 1⟩
 | n + 1, A, h => by
   rw [Gs.det, bd]
   apply In.sum
   intro r hr
   have := (In.mul (In.sg (n := r)) (h r 0 hr (by omega))).mul (In.det (n := n) (A := fun p q => A (sk r p) (q + 1)) fun p q hp hq => h _ _ (jY hr hp) (by omega))
   rw [Nat.one_mul] at this
   exact this
def V (g : Nat → Nat → Int) : Nat → Nat → Nat → Int
 | 0, i, j => g i j
 | 1, i, j => (V g 0 0 0 * V g 0 i j - V g 0 i 0 * V g 0 j 0) / 1
 | k + 2, i, j => (V g (k + 1) (k + 1) (k + 1) * V g (k + 1) i j - V g (k + 1) i (k + 1) * V g (k + 1) j (k + 1)) / V g k k k
def Dv (g : Nat → Nat → Int) : Nat → Int
 | 0 => 1
 | k + 1 => V g k k k
theorem rn {g : Nat → Nat → Int} {k i j : Nat} : V g (k + 1) i j = (Dv g (k + 1) * V g k i j - V g k i k * V g k j k) / Dv g k := by
 cases k <;> rfl
theorem y9 {g : Nat → Nat → Int} (hs : ∀ i j, g i j = g j i) : ∀ {k i j : Nat}, V g k i j = V g k j i
 | 0, i, j => hs i j
 | k + 1, i, j => by rw [rn, rn, y9 hs (i := i) (j := j), Int.mul_comm (V g k i k)]
def rg (g : Nat → Nat → Int) : Nat → Nat → Rat := fun i j => ((g i j : Int) : Rat)
def Pos (g : Nat → Nat → Int) (k : Nat) : Prop := ∀ t, t < k → 0 < V g t t t
theorem Pos.pred {g : Nat → Nat → Int} {k : Nat} (h : Pos g (k + 1)) : Pos g k := fun t ht => h t (by omega)
theorem Pos.mono {g : Nat → Nat → Int} {k m : Nat} (h : Pos g k) (hm : m ≤ k) : Pos g m := fun t ht => h t (by omega)
structure Good (g : Nat → Nat → Int) (M k : Nat) : Prop where
 d : (Dv g k : Rat) = Dk (rg g) k
 dp : 0 < Dv g k
 piv : ∀ t, t < k → 0 < U (rg g) t t t
 v : ∀ i j, k ≤ i → k ≤ j → (V g k i j : Rat) = Dk (rg g) k * U (rg g) k i j
 sz : ∀ i j, k ≤ i → k ≤ j → (∀ p q, (p < k ∨ p = i) → (q < k ∨ q = j) → (g p q).natAbs ≤ M) → (V g k i j).natAbs ≤ bd M (k + 1)
def mx2 (f : Nat → Nat → Nat) (n : Nat) : Nat → Nat
 | 0 => 0
 | p + 1 => mx2 f n p + mx1 (f p) n
where mx1 (f : Nat → Nat) : Nat → Nat
 | 0 => 0
 | q + 1 => mx1 f q + f q
theorem yk {f : Nat → Nat} : ∀ {n q : Nat}, q < n → f q ≤ mx2.mx1 f n
 | 0, _, h => by omega
 | n + 1, q, h => by
   simp only [mx2.mx1]
   rcases ax q n with h1 | h1
   ·have := yk (f := f) h1; omega
   ·obtain rfl : q = n := by omega
    omega
theorem qT {f : Nat → Nat → Nat} {n : Nat} : ∀ {m p q : Nat}, p < m → q < n → f p q ≤ mx2 f n m
 | 0, _, _, h, _ => by omega
 | m + 1, p, q, h, hq => by
   simp only [mx2]
   rcases ax p m with h1 | h1
   ·have := qT (f := f) h1 hq; omega
   ·obtain rfl : p = m := by omega
    have := yk (f := f p) hq
    omega
theorem AQ {k i p : Nat} : ro k i p < k ∨ ro k i p = i := by unfold ro; split <;> omega
theorem j4 {g : Nat → Nat → Int} (hs : ∀ i j, g i j = g j i) {M : Nat} : ∀ {k : Nat}, Pos g k → Good g M k
 | 0, _ => by
   refine ⟨rfl, Int.one_pos, fun t ht => by omega, fun i j _ _ => by simp only [V, Dk, U, rg]; grind, fun i j _ _ h => ?_⟩
   have := h i j (.inr rfl) (.inr rfl)
   simp only [V, bd]
   omega
 | k + 1, h => by
   have G := j4 hs (M := M) h.pred
   have hk := h k (by omega)
   have hV := G.v k k (av _) (av _)
   have hdp : (0 : Rat) < Dk (rg g) k := by rw [← G.d]; exact Rat.intCast_pos.2 G.dp
   have hUp : 0 < U (rg g) k k k := by
    have h1 : (0 : Rat) < (V g k k k : Rat) := Rat.intCast_pos.2 hk
    rw [hV] at h1
    rcases (show U (rg g) k k k < 0 ∨ U (rg g) k k k = 0 ∨ 0 < U (rg g) k k k by grind) with h2 | h2 | h2
    ·exfalso
     have := Rat.mul_pos hdp (show 0 < - U (rg g) k k k by grind)
     grind
    ·rw [h2] at h1; grind
    ·exact h2
   have hpiv : ∀ t, t < k + 1 → 0 < U (rg g) t t t := fun t ht => by
    rcases ax t k with h1 | h1
    ·exact G.piv t h1
    ·obtain rfl : t = k := by omega
     exact hUp
   have hd : (Dv g (k + 1) : Rat) = Dk (rg g) (k + 1) := by rw [Dv, hV, Dk]
   have hint : ∀ i j, k + 1 ≤ i → k + 1 ≤ j → ∃ x : Int, (x : Rat) = Dk (rg g) (k + 1) * U (rg g) (k + 1) i j ∧ ((∀ p q, (p < k + 1 ∨ p = i) → (q < k + 1 ∨ q = j) → (g p q).natAbs ≤ M) → x.natAbs ≤ bd M (k + 1 + 1)) := by
    intro i j hi hj
    have e := yQ (g := rg g) hi hj (fun t ht => by have := hpiv t ht; grind)
    obtain ⟨x0, hx0, -⟩ := In.det (n := k + 1 + 1) (A := fun p q => rg g (ro (k + 1) i p) (ro (k + 1) j q)) (M := mx2 (fun p q => (g (ro (k + 1) i p) (ro (k + 1) j q)).natAbs) (k + 1 + 1) (k + 1 + 1)) fun p q hp hq => ⟨_, rfl, qT (f := fun p q => (g (ro (k + 1) i p) (ro (k + 1) j q)).natAbs) hp hq⟩
    refine ⟨x0, by rw [← hx0, e], fun hM => ?_⟩
    obtain ⟨x, hx, hb⟩ := In.det (n := k + 1 + 1) (A := fun p q => rg g (ro (k + 1) i p) (ro (k + 1) j q)) (M := M) fun p q hp hq => ⟨_, rfl, hM _ _ AQ AQ⟩
    have : x0 = x := by rw [hx0] at hx; exact eT.1 hx
    rw [this]; exact hb
   have key : ∀ i j x, k + 1 ≤ i → k + 1 ≤ j → ((x : Int) : Rat) = Dk (rg g) (k + 1) * U (rg g) (k + 1) i j → V g (k + 1) i j = x := by
    intro i j x hi hj hx
    rw [rn]
    have e1 := G.v i j (by omega) (by omega)
    have e2 := G.v i k (by omega) (by omega)
    have e3 := G.v j k (by omega) (by omega)
    have e3' := G.v k j (by omega) (by omega)
    rw [y9 hs (i := k) (j := j)] at e3'
    have hnum : Dv g (k + 1) * V g k i j - V g k i k * V g k j k = Dv g k * x := by
     apply eT.1
     rw [Rat.intCast_sub, dA, dA, dA, hx, hd, G.d, e1, e2, e3', Dk, U]
     have : U (rg g) k k k ≠ 0 := by grind
     grind
    rw [hnum]
    exact Int.mul_ediv_cancel_left _ (by have := G.dp; omega)
   refine ⟨hd, hk, hpiv, fun i j hi hj => ?_, fun i j hi hj hM => ?_⟩
   ·obtain ⟨x, hx, -⟩ := hint i j hi hj
    rw [key i j x hi hj hx, hx]
   ·obtain ⟨x, hx, hb⟩ := hint i j hi hj
    rw [key i j x hi hj hx]
    exact hb hM
end Go.Proofs.YtdieenbfdeaffabGreat.Gs
namespace Go.Proofs.YtdieenbfdeaffabGreat.VBn
open Go Vpi
set_option maxRecDepth 100000
theorem rp112 : rp 41 = some f41 := rfl
theorem rp169 : rp 114 = some f114 := rfl
theorem rp171 : rp 34 = some f34 := rfl
def NuR (r : List PV) (x : Nat → Int) : Prop := ∀ i, i < r.length → ∃ p, r[i]? = some p ∧ Nu p (x i)
def eh (x y : Nat → Int) : Nat → Int
 | 0 => 0
 | n + 1 => eh x y n + x n * y n
theorem yO {x y : Nat → Int} : ∀ {n : Nat}, (∀ i, i < n → Sk 8 (x i) ∧ Sk 8 (y i)) → (eh x y n).natAbs ≤ n * LB ^ 16
 | 0, _ => by simp [eh]
 | n + 1, h => by
   have h1 := yO (n := n) fun i hi => h i (by omega)
   have h2 : (x n * y n).natAbs < LB ^ 16 := (h n (by omega)).1.mul (h n (by omega)).2
   have h3 := Int.natAbs_add_le (eh x y n) (x n * y n)
   simp only [eh]
   rw [a8, Nat.one_mul]
   omega
theorem js {x y : Nat → Int} {n : Nat} (h : ∀ i, i < n → Sk 8 (x i) ∧ Sk 8 (y i)) (hn : n ≤ 12) : Sk 17 (eh x y n) := by
 have h1 := yO h
 unfold Sk
 have h2 : n * LB ^ 16 ≤ 12 * LB ^ 16 := az _ hn
 have h3 : 12 * LB ^ 16 < LB * LB ^ 16 := Nat.mul_lt_mul_of_pos_right (by decide) (dg cQ)
 rw [show (17 : Nat) = 16 + 1 from rfl, bJ, a7 (LB ^ 16)]
 omega
theorem pY {x y : Nat → Int} : ∀ {n : Nat}, eh x y n = eh y x n
 | 0 => rfl
 | n + 1 => by simp only [eh]; rw [pY, Int.mul_comm]
def pA (x : Int) : Nat → List CV
 | 0 => [.p (.bool false), .nils]
 | _ + 1 => [.p (.bool (decide (x < 0) && decide (x.natAbs ≠ 0))), .p (.sl (lm (dgl x.natAbs)))]
theorem lV : zi 0 = .agg [.bool false, .sl []] := by
 rw [bg, Int.natAbs_zero, cJ]; rfl
theorem nu0 : Nu (.agg [.bool false, .sl []]) 0 := ⟨false, [], rfl, (fun _ h => by cases h), aD _, rfl⟩
section
variable {r s : List PV} {x y : Nat → Int}
theorem A2 (hr : NuR r x) (hs : NuR s y) (hl : r.length = s.length) (hn : r.length ≤ 2000000) (hz : ∀ k, k ≤ r.length → Sz (eh x y k)) (hm : ∀ k, k < r.length → Sz (x k * y k)) : Pu rp 41 [.sl r, .sl s] (.p (zi (eh x y r.length))) := by
 refine aY rp112 ?_
 simp only [f41, aJ, SB, ak, aj, ↓reduceIte, reduceCtorEq, ai, ab, ah, ae, aa, af]
 refine aM (β := Nat) (fun k => ([(0, .p (.sl r)), (1, .p (.sl s)), (4, .ptr 0 0 0), (5, .ptr 1 0 0), (8, i64 r.length), (9, i64 k)], [.kblk 2 [.p (.bool false), .nils], .kblk 2 (pA (eh x y k) k)]))
  (fun k => k ≤ r.length) (fun k => r.length - k) 0 rfl rfl (aD _) ?_
 rintro k hk ih
 simp only [] at hk ih ⊢
 by_cases hin : (k : Int) < r.length
 ·have hkr : k < r.length := by omega
  obtain ⟨p, hp, hpx⟩ := hr k hkr
  obtain ⟨q, hq, hqx⟩ := hs k (by omega)
  have k63 := sC hpx hqx
  have hsk := hz k (by omega)
  have hm := hm k hkr
  obtain ⟨n1, l1, rfl, -⟩ := hpx
  obtain ⟨n2, l2, rfl, -⟩ := hqx
  cases k with
  | zero =>
    have k145 := p145 nu0 (Nu.zi hm)
    simp only [SB, ak, aj, ↓reduceIte, reduceCtorEq, ai, ab, ah, ae, aa, af, hin, hp, hq, kp2 k63, SN, pA]
    rw [j1 k145 rfl]
    simp only [SB, ak, aj, ↓reduceIte, reduceCtorEq, ai, ab, ah, ae, aa, af, IntWalk.i64_in (((0 : Nat) : Int) + 1) (by omega)]
    refine ih 1 _ (by omega) (by omega) ?_
    rfl
  | succ k =>
    have k145 := p145 (Nu.zi hsk) (Nu.zi hm)
    rw [bg (x := eh x y (k + 1))] at k145
    simp only [SB, ak, aj, ↓reduceIte, reduceCtorEq, ai, ab, ah, ae, aa, af, hin, hp, hq, kp2 k63, SN, pA, kp2 k145, IntWalk.i64_in (((k + 1 : Nat) : Int) + 1) (by omega)]
    refine ih (k + 2) _ (by omega) (by omega) ?_
    rfl
 ·obtain rfl : k = r.length := by omega
  simp only [SB, ak, aj, ↓reduceIte, reduceCtorEq, ai, ab, ah, ae, aa, af, hin]
  cases h0 : r.length with
  | zero =>
    simp only [SB, ak, aj, ↓reduceIte, reduceCtorEq, ai, ab, ah, ae, aa, af, pA]
    rw [show zi (eh x y 0) = .agg [.bool false, .sl []] from lV]
    rfl
  | succ k =>
    simp only [SB, ak, aj, ↓reduceIte, reduceCtorEq, ai, ab, ah, ae, aa, af, pA]
    rfl
theorem CY (hr : NuR r x) (hs : NuR s y) (hl : r.length = s.length) (hn : r.length ≤ 2000000) (hz : ∀ k, k ≤ r.length → Sz (eh x y k)) (hm : ∀ k, k < r.length → Sz (x k * y k)) : Pu rp 114 [.sl r, .sl s] (.tup [.p (zi (eh x y r.length)), .p (.int .i64 0)]) := by
 refine aY rp169 ?_
 have e : ((r.length : Int) != (s.length : Int)) = false := by rw [hl]; simp
 simp only [f114, aJ, SB, ak, aj, ↓reduceIte, reduceCtorEq, ai, ab, ah, ae, aa, af, e, kp2 (A2 hr hs hl hn hz hm)]
 exact dz aQ aQ
theorem CX (hr : NuR r x) (hs : NuR s y) (hl : r.length = s.length) (hn : r.length ≤ 2000000) (hz : ∀ k, k ≤ r.length → Sz (eh x y k)) (hm : ∀ k, k < r.length → Sz (x k * y k)) : Pu rp 34 [.sl r, .sl s] (.p (zi (eh x y r.length))) := by
 refine aY rp171 ?_
 simp only [f34, aJ, SB, ak, aj, ↓reduceIte, reduceCtorEq, ai, ab, ah, ae, aa, af]
 refine aM (β := Nat) (fun k => ([(0, .p (.sl r)), (1, .p (.sl s)), (4, .ptr 0 0 0), (5, .ptr 1 0 0), (6, i64 k)], [.kblk 2 [.p (.bool false), .nils], .kblk 2 (pA (eh x y k) k)]))
  (fun k => k ≤ r.length) (fun k => r.length - k) 0 rfl rfl (aD _) ?_
 rintro k hk ih
 simp only [] at hk ih ⊢
 by_cases hin : (k : Int) < r.length
 ·have hkr : k < r.length := by omega
  have hin2 : (k : Int) < s.length := by omega
  obtain ⟨p, hp, hpx⟩ := hr k hkr
  obtain ⟨q, hq, hqx⟩ := hs k (by omega)
  have k63 := p117 hpx hqx
  have hsk := hz k (by omega)
  have hm := hm k hkr
  obtain ⟨n1, l1, rfl, -⟩ := hpx
  obtain ⟨n2, l2, rfl, -⟩ := hqx
  cases k with
  | zero =>
    have k145 := p109 nu0 (Nu.zi hm)
    simp only [SB, ak, aj, ↓reduceIte, reduceCtorEq, ai, ab, ah, ae, aa, af, hin, hin2, hp, hq, kp2 k63, SN, pA]
    rw [j1 k145 rfl]
    simp only [SB, ak, aj, ↓reduceIte, reduceCtorEq, ai, ab, ah, ae, aa, af, IntWalk.i64_in (((0 : Nat) : Int) + 1) (by omega)]
    refine ih 1 _ (by omega) (by omega) ?_
    rfl
  | succ k =>
    have k145 := p109 (Nu.zi hsk) (Nu.zi hm)
    rw [bg (x := eh x y (k + 1))] at k145
    simp only [SB, ak, aj, ↓reduceIte, reduceCtorEq, ai, ab, ah, ae, aa, af, hin, hin2, hp, hq, kp2 k63, SN, pA, kp2 k145, IntWalk.i64_in (((k + 1 : Nat) : Int) + 1) (by omega)]
    refine ih (k + 2) _ (by omega) (by omega) ?_
    rfl
 ·obtain rfl : k = r.length := by omega
  have hin2 : ¬ ((r.length : Int) < s.length) := by omega
  simp only [SB, ak, aj, ↓reduceIte, reduceCtorEq, ai, ab, ah, ae, aa, af, hin]
  cases h0 : r.length with
  | zero =>
    simp only [SB, ak, aj, ↓reduceIte, reduceCtorEq, ai, ab, ah, ae, aa, af, pA]
    rw [show zi (eh x y 0) = .agg [.bool false, .sl []] from lV]
    rfl
  | succ k =>
    simp only [SB, ak, aj, ↓reduceIte, reduceCtorEq, ai, ab, ah, ae, aa, af, pA]
    rfl
theorem p112 (hr : NuR r x) (hs : NuR s y) (hl : r.length = s.length) (hn : r.length ≤ 12) (hx : ∀ i, i < r.length → Sk 8 (x i) ∧ Sk 8 (y i)) : Pu rp 41 [.sl r, .sl s] (.p (zi (eh x y r.length))) :=
 A2 hr hs hl (by omega) (fun k hk => (js (n := k) (fun i hi => hx i (by omega)) (by omega)).sz (by omega)) fun k hk => ((hx k hk).1.mul (hx k hk).2).sz (by omega)
theorem p169 (hr : NuR r x) (hs : NuR s y) (hl : r.length = s.length) (hn : r.length ≤ 12) (hx : ∀ i, i < r.length → Sk 8 (x i) ∧ Sk 8 (y i)) : Pu rp 114 [.sl r, .sl s] (.tup [.p (zi (eh x y r.length)), .p (.int .i64 0)]) :=
 CY hr hs hl (by omega) (fun k hk => (js (n := k) (fun i hi => hx i (by omega)) (by omega)).sz (by omega)) fun k hk => ((hx k hk).1.mul (hx k hk).2).sz (by omega)
theorem p171 (hr : NuR r x) (hs : NuR s y) (hl : r.length = s.length) (hn : r.length ≤ 12) (hx : ∀ i, i < r.length → Sk 8 (x i) ∧ Sk 8 (y i)) : Pu rp 34 [.sl r, .sl s] (.p (zi (eh x y r.length))) :=
 CX hr hs hl (by omega) (fun k hk => (js (n := k) (fun i hi => hx i (by omega)) (by omega)).sz (by omega)) fun k hk => ((hx k hk).1.mul (hx k hk).2).sz (by omega)
end
theorem rp80 : rp 113 = some f113 := rfl
theorem rp93 : rp 36 = some f36 := rfl
theorem rp137 : rp 82 = some f82 := rfl
theorem rp142 : rp 59 = some f59 := rfl
def MR (b : List PV) (n : Nat → Nat) (X : Nat → Nat → Int) : Prop := ∀ i, i < b.length → ∃ r, b[i]? = some (.sl r) ∧ r.length = n i ∧ n i ≤ 2000000 ∧ NuR r (X i)
def mxR (f : Nat → Nat) : Nat → Nat
 | 0 => 0
 | n + 1 => max (mxR f n) (f n)
theorem ku {f : Nat → Nat} {K : Nat} : ∀ {n : Nat}, mxR f n ≤ K ↔ ∀ i, i < n → f i ≤ K
 | 0 => by simp [mxR]
 | n + 1 => by
   rw [mxR, Nat.max_le, ku]
   constructor
   ·rintro ⟨h1, h2⟩ i hi
    rcases ax i n with h | h
    ·exact h1 i h
    ·obtain rfl : i = n := by omega
     exact h2
   ·intro h
    exact ⟨fun i hi => h i (by omega), h n (by omega)⟩
theorem n5 {n : Nat} : LB ^ n = 2 ^ (32 * n) := by rw [Nat.pow_mul]; rfl
theorem pf {p : PV} {x : Int} (h : Nu p x) : bl x.natAbs ≤ 3200000000000 := by
 have hs := h.sz
 unfold Sz at hs
 by_cases h0 : x.natAbs = 0
 ·rw [h0, mS]; omega
 ·have h1 := (jl h0).1
  rw [n5] at hs
  have h2 := (Nat.pow_lt_pow_iff_right (a := 2) (by decide)).1 (bQ h1 hs)
  have := cH
  omega
def bm (n : Nat → Nat) (X : Nat → Nat → Int) : Nat → Nat := mxR fun i => mxR (fun j => bl (X i j).natAbs) (n i)
section
variable {b : List PV} {n : Nat → Nat} {X : Nat → Nat → Int}
theorem Aa {a c : Nat} : (if (c : Int) > (a : Int) then (c : Int) else (a : Int)) = ((max a c : Nat) : Int) := by
 split <;> omega
theorem p80 (hb : MR b n X) (hlb : b.length ≤ 2000000) : Pu rp 113 [.sl b] (.p (.int .i64 (bm n X b.length : Nat))) := by
 refine aY rp80 ?_
 have hbm : ∀ i, i ≤ b.length → bm n X i ≤ 3200000000000 := fun i hi => ku.2 fun k hk => ku.2 fun j hj => by
  obtain ⟨r, -, hl, -, hr⟩ := hb k (by omega)
  obtain ⟨p, -, hp⟩ := hr j (by omega)
  exact pf hp
 simp only [f113, aJ, SB, ak, aj, ↓reduceIte, reduceCtorEq, ai, ab, ah, ae, aa, af]
 refine aM (β := Nat × ar) (fun t => ([(3, i64 (bm n X t.1 : Nat)), (8, .p (.sl b)), (9, i64 b.length), (10, i64 t.1)], t.2))
  (fun t => t.1 ≤ b.length) (fun t => b.length - t.1) ((0, []) : Nat × ar) rfl rfl (aD _) ?_
 rintro ⟨i, σ⟩ hi ih
 simp only [] at hi ih ⊢
 by_cases hin : (i : Int) < b.length
 ·have hib : i < b.length := by omega
  obtain ⟨r, hr, hrl, hrn, hrx⟩ := hb i hib
  simp only [SB, ak, aj, ↓reduceIte, reduceCtorEq, ai, ab, ah, ae, aa, af, hin, hr, SN]
  refine aM (β := Nat × ar) (fun t => ([(3, i64 ((max (bm n X i) (mxR (fun j => bl (X i j).natAbs) t.1) : Nat) : Int)), (8, .p (.sl b)), (9, i64 b.length), (10, i64 i), (14, .p (.sl r)), (15, i64 r.length), (16, i64 t.1)], t.2))
   (fun t => t.1 ≤ r.length) (fun t => r.length - t.1) ((0, σ) : Nat × ar) (by simp only [mxR, Nat.max_zero]; rfl) rfl (aD _) ?_
  rintro ⟨j, τ⟩ hj ih2
  simp only [] at hj ih2 ⊢
  by_cases hjn : (j : Int) < r.length
  ·obtain ⟨p, hp, hpx⟩ := hrx j (by omega)
   have k121 := p121 hpx
   obtain ⟨n1, l1, rfl, -⟩ := hpx
   have hw := wr1 (i := j) (by omega)
   simp only [SB, ak, aj, ↓reduceIte, reduceCtorEq, ai, ab, ah, ae, aa, af, hjn, hp, SN, kp1 k121, Aa, hw, Nat.max_assoc]
   refine ih2 (j + 1, τ ++ [.kblk 2 [.p (.bool n1), .p (.sl (lm l1))]]) _ (by simp only []; omega) (by simp only []; omega) ?_
   rfl
  ·obtain rfl : j = r.length := by omega
   have hw := wr1 (i := i) (by omega)
   simp only [SB, ak, aj, ↓reduceIte, reduceCtorEq, ai, ab, ah, ae, aa, af, hjn, hw]
   refine ih (i + 1, τ) _ (by simp only []; omega) (by simp only []; omega) ?_
   rw [show bm n X (i + 1) = max (bm n X i) (mxR (fun j => bl (X i j).natAbs) r.length) by rw [hrl]; rfl]
   rfl
 ·obtain rfl : i = b.length := by omega
  simp only [SB, ak, aj, ↓reduceIte, reduceCtorEq, ai, ab, ah, ae, aa, af, hin]
  rfl
def jX (n : Nat → Nat) (m : Nat) : Prop := ∃ i, i < m ∧ n i ≠ n 0
theorem p93 (hb : MR b n X) (h0 : b.length ≠ 0) (hlb : b.length ≤ 2000000) :
 (jX n b.length → Pu rp 36 [.sl b] (.tup [.p (.int .i64 0), .p (.int .i64 0), .p (.int .i64 8)])) ∧
 (¬ jX n b.length → Pu rp 36 [.sl b] (.tup [.p (.int .i64 b.length), .p (.int .i64 (n 0 : Nat)), .p (.int .i64 0)])) := by
 have e : ((b.length : Int) == 0) = false := by rw [beq_eq_false_iff_ne]; omega
 obtain ⟨r0, hr0, hl0, hn0, -⟩ := hb 0 (by omega)
 have key : ∀ R : CV, (jX n b.length → R = .tup [.p (.int .i64 0), .p (.int .i64 0), .p (.int .i64 8)]) → (¬ jX n b.length → R = .tup [.p (.int .i64 b.length), .p (.int .i64 (n 0 : Nat)), .p (.int .i64 0)]) → Pu rp 36 [.sl b] R := by
  intro R h1 h2
  refine aY rp93 ?_
  simp only [f36, aJ, SB, ak, aj, ↓reduceIte, reduceCtorEq, ai, ab, ah, ae, aa, af, e]
  refine aM (β := Nat) (fun t => ([(0, .p (.sl b)), (10, .p (.sl b)), (11, i64 b.length), (12, i64 t)], []))
   (fun t => t ≤ b.length ∧ ∀ k, k < t → n k = n 0) (fun t => b.length - t) 0 rfl rfl ⟨aD _, fun k hk => by omega⟩ ?_
  rintro i ⟨hi, hev⟩ ih
  simp only [] at hi hev ih ⊢
  by_cases hin : (i : Int) < b.length
  ·obtain ⟨r, hr, hrl, hrn, -⟩ := hb i (by omega)
   have i0 : gG 0 = 0 := rfl
   by_cases hne : n i = n 0
   ·have e1 : ((r.length : Int) != (r0.length : Int)) = false := by rw [hrl, hl0, hne]; simp
    have hw := wr1 (i := i) (by omega)
    simp only [SB, ak, aj, ↓reduceIte, reduceCtorEq, ai, ab, ah, ae, aa, af, hin, hr, i0, hr0, SN, e1, hw]
    refine ih (i + 1) _ ⟨by omega, fun k hk => ?_⟩ (by omega) ?_
    ·rcases ax k i with h | h
     ·exact hev k h
     ·obtain rfl : k = i := by omega
      exact hne
    ·rfl
   ·have e1 : ((r.length : Int) != (r0.length : Int)) = true := by rw [hrl, hl0]; simp; omega
    simp only [SB, ak, aj, ↓reduceIte, reduceCtorEq, ai, ab, ah, ae, aa, af, hin, hr, i0, hr0, SN, e1]
    rw [h1 ⟨i, by omega, hne⟩]
    exact dT aQ aQ aQ
  ·obtain rfl : i = b.length := by omega
   have i0 : gG 0 = 0 := rfl
   simp only [SB, ak, aj, ↓reduceIte, reduceCtorEq, ai, ab, ah, ae, aa, af, hin, hr0, i0]
   rw [h2 (fun ⟨k, hk, hk2⟩ => hk2 (hev k hk)), hl0]
   exact dT aQ aQ aQ
 exact ⟨fun h => key _ (fun _ => rfl) (fun h2 => absurd h h2), fun h => key _ (fun h2 => absurd h2 h) (fun _ => rfl)⟩
def Big (n : Nat → Nat) (X : Nat → Nat → Int) (m : Nat) : Prop := 12 < m ∨ (∃ i, i < m ∧ 12 < n i) ∨ ∃ i j, i < m ∧ j < n i ∧ 256 < bl (X i j).natAbs
open Classical in
noncomputable def shE (n : Nat → Nat) (X : Nat → Nat → Int) (m : Nat) : Int := if Big n X m then 40 else if m = 0 then 41 else if jX n m then 8 else 0
theorem Dn {m : Nat} : 256 < bm n X m ↔ ∃ i j, i < m ∧ j < n i ∧ 256 < bl (X i j).natAbs := by
 rw [← Nat.not_le]
 unfold bm
 rw [ku]
 constructor
 ·intro h
  refine cq fun hc => h fun i hi => ku.2 fun j hj => ?_
  exact Nat.not_lt.1 fun hlt => hc ⟨i, j, hi, hj, hlt⟩
 ·rintro ⟨i, j, hi, hj, hlt⟩ h
  have := ku.1 (h i hi) j hj
  omega
theorem p137 (hb : MR b n X) (hlb : b.length ≤ 2000000) : Pu rp 82 [.sl b, .bool true] (.p (.int .i64 (shE n X b.length))) := by
 refine aY rp137 ?_
 have w80 := p80 hb hlb
 have hbn : bm n X b.length ≤ 3200000000000 := ku.2 fun k hk => ku.2 fun j hj => by
  obtain ⟨r, -, hl, -, hr⟩ := hb k (by omega)
  obtain ⟨p, -, hp⟩ := hr j (by omega)
  exact pf hp
 have tail : ∀ (B : Bool), (B = true ↔ 12 < b.length ∨ 256 < bm n X b.length) → ∀ (e : Env) (σ : ar), fgt [0, 5, 22, 23, 24] e = [(0, .p (.sl b)), (5, .p (.bool B)), (22, .p (.sl b)), (23, i64 b.length), (24, i64 0)] → True := fun _ _ _ _ _ => trivial
 have fin : ∀ (c1 : Bool), (c1 = true ↔ Big n X b.length) → (c1 = true → shE n X b.length = 40) ∧ (c1 = false → b.length = 0 → shE n X b.length = 41) ∧ (c1 = false → b.length ≠ 0 → jX n b.length → shE n X b.length = 8) ∧ (c1 = false → b.length ≠ 0 → ¬ jX n b.length → shE n X b.length = 0) := by
  intro c1 h1
  unfold shE
  refine ⟨fun h => if_pos (h1.1 h), fun h h0 => ?_, fun h h0 hu => ?_, fun h h0 hu => ?_⟩
  all_goals
   rw [if_neg (fun hB => by rw [h1.2 hB] at h; cases h)]
  ·rw [if_pos h0]
  ·rw [if_neg h0, if_pos hu]
  ·rw [if_neg h0, if_neg hu]
 have hstart : ∃ B : Bool, (B = true ↔ 12 < b.length ∨ 256 < bm n X b.length) ∧ ((b.length : Int) > 12 ∧ B = true ∨ ¬ (b.length : Int) > 12 ∧ B = decide (((bm n X b.length : Nat) : Int) > 256)) := by
  by_cases h : (b.length : Int) > 12
  ·exact ⟨true, by simp; omega, .inl ⟨h, rfl⟩⟩
  ·refine ⟨decide (((bm n X b.length : Nat) : Int) > 256), ?_, .inr ⟨h, rfl⟩⟩
   rw [decide_eq_true_eq]; omega
 obtain ⟨B, hB, hB2⟩ := hstart
 rcases hB2 with ⟨hgt, hBe⟩ | ⟨hgt, hBe⟩
 all_goals
  simp only [f82, aJ, SB, ak, aj, ↓reduceIte, reduceCtorEq, ai, ab, ah, ae, aa, af, hgt, kp1 w80]
  refine aM (β := Nat × Bool) (fun t => ([(0, .p (.sl b)), (5, .p (.bool t.2)), (22, .p (.sl b)), (23, i64 b.length), (24, i64 t.1)], []))
   (fun t => t.1 ≤ b.length ∧ (t.2 = true ↔ B = true ∨ ∃ k, k < t.1 ∧ 12 < n k)) (fun t => b.length - t.1)
   ((0, B) : Nat × Bool) (by simp only [hBe]; rfl) rfl ⟨aD _, by simp⟩ ?_
  rintro ⟨i, C⟩ ⟨hi, hC⟩ ih
  simp only [] at hi hC ih ⊢
  by_cases hin : (i : Int) < b.length
  ·obtain ⟨r, hr, hrl, hrn, -⟩ := hb i (by omega)
   have hw := wr1 (i := i) (by omega)
   cases C with
   | true =>
     simp only [SB, ak, aj, ↓reduceIte, reduceCtorEq, ai, ab, ah, ae, aa, af, hin, hr, SN, hw]
     refine ih (i + 1, true) _ ⟨by simp only []; omega, ?_⟩ (by simp only []; omega) ?_
     ·simp only [true_iff]
      rcases hC.1 rfl with h | ⟨k, h1, h2⟩
      ·exact .inl h
      ·exact .inr ⟨k, by omega, h2⟩
     ·rfl
   | false =>
     simp only [SB, ak, aj, ↓reduceIte, reduceCtorEq, ai, ab, ah, ae, aa, af, hin, hr, SN, hw]
     refine ih (i + 1, decide ((r.length : Int) > 12)) _ ⟨by simp only []; omega, ?_⟩ (by simp only []; omega) ?_
     ·simp only [decide_eq_true_eq, hrl]
      constructor
      ·intro h; exact .inr ⟨i, by omega, by omega⟩
      ·rintro (h | ⟨k, h1, h2⟩)
       ·exact absurd (hC.2 (.inl h)) (by simp)
       ·rcases ax k i with h3 | h3
        ·exact absurd (hC.2 (.inr ⟨k, h3, h2⟩)) (by simp)
        ·obtain rfl : k = i := by omega
         omega
     ·rfl
  ·obtain rfl : i = b.length := by omega
   have hCB : C = true ↔ Big n X b.length := by
    rw [hC, hB, Dn]
    unfold Big
    constructor
    ·rintro ((h | h) | h)
     ·exact .inl h
     ·exact .inr (.inr h)
     ·exact .inr (.inl h)
    ·rintro (h | h | h)
     ·exact .inl (.inl h)
     ·exact .inr h
     ·exact .inl (.inr h)
   obtain ⟨f1, f2, f3, f4⟩ := fin C hCB
   cases C with
   | true =>
     simp only [SB, ak, aj, ↓reduceIte, reduceCtorEq, ai, ab, ah, ae, aa, af, hin]
     rw [f1 rfl]; rfl
   | false =>
     by_cases h0 : b.length = 0
     ·have e0 : ((b.length : Int) == 0) = true := by rw [h0]; rfl
      simp only [SB, ak, aj, ↓reduceIte, reduceCtorEq, ai, ab, ah, ae, aa, af, hin, e0]
      rw [f2 rfl h0]; rfl
     ·have e0 : ((b.length : Int) == 0) = false := by rw [beq_eq_false_iff_ne]; omega
      obtain ⟨s1, s2⟩ := p93 hb h0 hlb
      by_cases hu : jX n b.length
      ·simp only [SB, ak, aj, ↓reduceIte, reduceCtorEq, ai, ab, ah, ae, aa, af, hin, e0, kp1 (s1 hu)]
       rw [f3 rfl h0 hu]; rfl
      ·simp only [SB, ak, aj, ↓reduceIte, reduceCtorEq, ai, ab, ah, ae, aa, af, hin, e0, kp1 (s2 hu)]
       rw [f4 rfl h0 hu]; rfl
theorem p142 (hb : MR b n X) (hlb : b.length ≤ 2000000) : Pu rp 59 [.sl b, .bool true] (.p (.int .i64 (shE n X b.length))) := by
 refine aY rp142 ?_
 by_cases hgt : (b.length : Int) > 12
 ·simp only [f59, aJ, SB, ak, aj, ↓reduceIte, reduceCtorEq, ai, ab, ah, ae, aa, af, hgt]
  rw [shE, if_pos (.inl (by omega))]; rfl
 simp only [f59, aJ, SB, ak, aj, ↓reduceIte, reduceCtorEq, ai, ab, ah, ae, aa, af, hgt]
 refine aM (β := Nat) (fun t => ([(0, .p (.sl b)), (1, .p (.bool true)), (5, i64 t)], []))
  (fun t => t ≤ b.length ∧ ∀ k, k < t → n k ≤ 12 ∧ ∀ j, j < n k → bl (X k j).natAbs ≤ 256) (fun t => b.length - t) 0 rfl rfl ⟨aD _, fun k hk => by omega⟩ ?_
 rintro i ⟨hi, hok⟩ ih
 simp only [] at hi hok ih ⊢
 by_cases hin : (i : Int) < b.length
 ·obtain ⟨r, hr, hrl, hrn, hrx⟩ := hb i (by omega)
  have hw := wr1 (i := i) (by omega)
  by_cases h12 : (r.length : Int) > 12
  ·simp only [SB, ak, aj, ↓reduceIte, reduceCtorEq, ai, ab, ah, ae, aa, af, hin, hr, SN, h12]
   rw [shE, if_pos (.inr (.inl ⟨i, by omega, by omega⟩))]; rfl
  ·simp only [SB, ak, aj, ↓reduceIte, reduceCtorEq, ai, ab, ah, ae, aa, af, hin, hr, SN, h12]
   refine aM (β := Nat) (fun t => ([(0, .p (.sl b)), (1, .p (.bool true)), (5, i64 i), (6, i64 t)], []))
    (fun t => t ≤ r.length ∧ ∀ j, j < t → bl (X i j).natAbs ≤ 256) (fun t => r.length - t) 0 rfl rfl ⟨aD _, fun k hk => by omega⟩ ?_
   rintro j ⟨hj, hok2⟩ ih2
   simp only [] at hj hok2 ih2 ⊢
   by_cases hjn : (j : Int) < r.length
   ·obtain ⟨p, hp, hpx⟩ := hrx j (by omega)
    have hpb := pf hpx
    obtain ⟨n1, l1, rfl, hl1, hn1, hx1⟩ := hpx
    have k82 := p82 hl1 (by rw [cH] at hn1; omega)
    have hba : bl (X i j).natAbs = bl (val l1) := by rw [hx1, iM]
    by_cases h256 : ((bl (val l1) : Nat) : Int) > 256
    ·simp only [SB, ak, aj, ↓reduceIte, reduceCtorEq, ai, ab, ah, ae, aa, af, hjn, hr, hp, SN, kp1 k82, h256]
     rw [shE, if_pos (.inr (.inr ⟨i, j, by omega, by omega, by omega⟩))]; rfl
    ·have hw2 := wr1 (i := j) (by omega)
     simp only [SB, ak, aj, ↓reduceIte, reduceCtorEq, ai, ab, ah, ae, aa, af, hjn, hr, hp, SN, kp1 k82, h256, hw2]
     refine ih2 (j + 1) _ ⟨by omega, fun k hk => ?_⟩ (by omega) ?_
     ·rcases ax k j with h | h
      ·exact hok2 k h
      ·obtain rfl : k = j := by omega
       omega
     ·rfl
   ·obtain rfl : j = r.length := by omega
    simp only [SB, ak, aj, ↓reduceIte, reduceCtorEq, ai, ab, ah, ae, aa, af, hjn, hr, SN, hw]
    refine ih (i + 1) _ ⟨by omega, fun k hk => ?_⟩ (by omega) ?_
    ·rcases ax k i with h | h
     ·exact hok k h
     ·obtain rfl : k = i := by omega
      exact ⟨by omega, fun j hj => hok2 j (by omega)⟩
    ·rfl
 ·obtain rfl : i = b.length := by omega
  have hnb : ¬ Big n X b.length := by
   rintro (h | ⟨i, h1, h2⟩ | ⟨i, j, h1, h2, h3⟩)
   ·omega
   ·have := (hok i h1).1; omega
   ·have := (hok i h1).2 j h2; omega
  by_cases h0 : b.length = 0
  ·have e0 : ((b.length : Int) == 0) = true := by rw [h0]; rfl
   simp only [SB, ak, aj, ↓reduceIte, reduceCtorEq, ai, ab, ah, ae, aa, af, hin, e0]
   rw [shE, if_neg hnb, if_pos h0]; rfl
  ·have e0 : ((b.length : Int) == 0) = false := by rw [beq_eq_false_iff_ne]; omega
   obtain ⟨r0, hr0, hl0, hn0, -⟩ := hb 0 (by omega)
   simp only [SB, ak, aj, ↓reduceIte, reduceCtorEq, ai, ab, ah, ae, aa, af, hin, e0]
   refine aM (β := Nat) (fun t => ([(0, .p (.sl b)), (7, i64 t)], []))
    (fun t => t ≤ b.length ∧ ∀ k, k < t → n k = n 0) (fun t => b.length - t) 0 rfl rfl ⟨aD _, fun k hk => by omega⟩ ?_
   rintro i ⟨hi, hev⟩ ih
   simp only [] at hi hev ih ⊢
   by_cases hin : (i : Int) < b.length
   ·obtain ⟨r, hr, hrl, hrn, -⟩ := hb i (by omega)
    have i0 : gG 0 = 0 := rfl
    by_cases hne : n i = n 0
    ·have e1 : ((r.length : Int) != (r0.length : Int)) = false := by rw [hrl, hl0, hne]; simp
     have hw := wr1 (i := i) (by omega)
     simp only [SB, ak, aj, ↓reduceIte, reduceCtorEq, ai, ab, ah, ae, aa, af, hin, hr, i0, hr0, SN, e1, hw]
     refine ih (i + 1) _ ⟨by omega, fun k hk => ?_⟩ (by omega) ?_
     ·rcases ax k i with h | h
      ·exact hev k h
      ·obtain rfl : k = i := by omega
       exact hne
     ·rfl
    ·have e1 : ((r.length : Int) != (r0.length : Int)) = true := by rw [hrl, hl0]; simp; omega
     simp only [SB, ak, aj, ↓reduceIte, reduceCtorEq, ai, ab, ah, ae, aa, af, hin, hr, i0, hr0, SN, e1]
     rw [shE, if_neg hnb, if_neg h0, if_pos ⟨i, by omega, hne⟩]; rfl
   ·obtain rfl : i = b.length := by omega
    simp only [SB, ak, aj, ↓reduceIte, reduceCtorEq, ai, ab, ah, ae, aa, af, hin]
    rw [shE, if_neg hnb, if_neg h0, if_neg (fun ⟨k, hk, hk2⟩ => hk2 (hev k hk))]; rfl
end
end Go.Proofs.YtdieenbfdeaffabGreat.VBn
namespace Go.Proofs.YtdieenbfdeaffabGreat.VBn
open Go Vpi
open Gs (V Dv Pos Good)
set_option maxRecDepth 100000
section
variable {rp : cg} {rs : List dH} {base : Nat} {d : Option Nat} {l : List LOp} {dr : Dr} {ks : List KI} {e : Env} {σ : ar} {Q : CV → ar → Prop}
theorem kz1 {f : Nat} {a0 : PV} {r : CV} (h : Pu rp f [a0] r) : KC rp rs base .fz f [.p a0] d l dr ks e σ Q = ExR rp rs base l dr ks (sto d r e) σ Q := kx h rfl
theorem kz2 {f : Nat} {a0 a1 : PV} {r : CV} (h : Pu rp f [a0, a1] r) : KC rp rs base .fz f [.p a0, .p a1] d l dr ks e σ Q = ExR rp rs base l dr ks (sto d r e) σ Q := kx h rfl
end
section
variable {rp : cg} {rs : List dH} {base : Nat} {d : Option Nat} {l : List LOp} {dr : Dr} {ks : List KI} {e : Env} {σ : ar} {Q : CV → ar → Prop} {sz : Nat} {c : CV} {es xs : List PV}
theorem mo {s x : Opd} {bytes : Nat} (hb : base = σ.length) (h : GL σ sz c es) (hc : (es.length + xs.length) * bytes ≤ 140737488355328) (hs : vl e s = c) (hx : vl e x = .own base 0 xs.length) (hz : dE sz xs = true) :
 ExR rp rs base (⟨d, none, some 1, .append sz bytes s x⟩ :: l) dr ks e (σ ++ [.prow sz xs, .hole]) Q = ExR rp rs base l dr ks (sto d (.own (base + 1) 0 (es.length + xs.length)) e) (nd σ c ++ [.prow sz xs, .prow sz (es ++ xs)]) Q := by
 subst hb
 rw [fN]
 have h1 : content (σ ++ [.prow sz xs, .hole]) c = some es := h.left.content
 have h2 : content (σ ++ [.prow sz xs, .hole]) (.own σ.length 0 xs.length) = some xs := jb (s := sz) (by rw [cP]; rfl) rfl
 have hlt := h.lt.2
 simp only [ev, hs, hx, h1, h2, hc, hz, and_self, if_true]
 rcases h with ⟨rfl, rfl⟩ | ⟨b, rfl, hb⟩
 ·simp only [bV, cY, iB, List.getElem?_cons_succ, gO, List.set_cons_succ, List.set_cons_zero, aH, eY, nd, List.nil_append]
 ·have hlb := hlt _ _ _ rfl
  have hb' : (σ ++ [.prow sz xs, .hole])[b]? = some (.prow sz es) := by rw [aB hlb]; exact hb
  have e1 : ∀ l : ar, (σ.set b .dead ++ l)[σ.length + 1]? = l[1]? := fun l => by rw [show σ.length + 1 = (σ.set b Blk.dead).length + 1 by rw [ay], cY]
  have e2 : ∀ (l : ar) (x : Blk), (σ.set b .dead ++ l).set (σ.length + 1) x = σ.set b .dead ++ l.set 1 x := fun l x => by rw [show σ.length + 1 = (σ.set b Blk.dead).length + 1 by rw [ay], iB]
  simp only [hb', if_true, bV, cv hlb, e1, e2, List.getElem?_cons_succ, gO, List.set_cons_succ, List.set_cons_zero, aH, eY, nd]
theorem zT {x : Opd} {b s n : Nat} (hb : σ[b]? = some (.prow s es)) (hn : n ≤ es.length) (hx : vl e x = .own b 0 n) :
 ExR rp rs σ.length (⟨d, none, some 0, .bslice 1 [x]⟩ :: l) dr ks e (σ ++ [.hole, .hole]) Q = ExR rp rs σ.length l dr ks (sto d (.own σ.length 0 1) e) (σ.set b .dead ++ [.prow 1 [.sl (es.take n)], .hole]) Q := by
 rw [ml]
 have hlb := (aq.1 hb).1
 have hf : frz (σ ++ [.hole, .hole]) (.own b 0 n) = some (.sl (es.take n)) := by
  simp only [frz, dD, aB hlb, hb, d8, hn, if_true, List.drop_zero]
 have e1 : ∀ l : ar, (σ.set b .dead ++ l)[σ.length]? = l[0]? := fun l => by rw [show σ.length = (σ.set b Blk.dead).length by rw [ay], cP]
 have e2 : ∀ (l : ar) (x : Blk), (σ.set b .dead ++ l).set σ.length x = σ.set b .dead ++ l.set 0 x := fun l x => by rw [show σ.length = (σ.set b Blk.dead).length by rw [ay], jz]
 simp only [ev, List.map_cons, List.map_nil, hx, eG, hf, aH, lU, nr, PV.cells, dZ, List.length_nil, d8, beq_self_eq_true, Bool.and_self, if_true, eC, List.foldl_cons, List.foldl_nil, kill, gi, cv hlb, bV, e1, e2, gO, List.set_cons_zero, eY, bw]
end
theorem rp138 : rp 83 = some f83 := rfl
theorem cf {x : Int} : fp true 2 (zi x) 0 = some (zi x) := og
structure Bs (b : List PV) (N : Nat) (X : Nat → Nat → Int) : Prop where
 m : b.length ≤ 12
 n : N ≤ 12
 row : ∀ i, i < b.length → ∃ r, b[i]? = some (.sl r) ∧ r.length = N ∧ NuR r (X i)
 sz : ∀ i j, i < b.length → j < N → Sk 8 (X i j)
def gr (N : Nat) (X : Nat → Nat → Int) : Nat → Nat → Int := fun i j => eh (X i) (X j) N
theorem dY {N : Nat} {X : Nat → Nat → Int} : ∀ i j, gr N X i j = gr N X j i := fun i j => pY
theorem y7 {M : Nat} : ∀ {n : Nat}, n ≤ 12 → Gs.bd M n ≤ (LB * M) ^ n
 | 0, _ => by simp [Gs.bd]
 | n + 1, h => by
   have ih := y7 (M := M) (n := n) (by omega)
   rw [Gs.bd, bJ, a7 ((LB * M) ^ n), bW]
   exact Nat.mul_le_mul (by unfold LB; omega) (bH _ ih)
section
variable {b : List PV} {N : Nat} {X : Nat → Nat → Int}
theorem ru (hb : Bs b N X) {k i j : Nat} (hp : Pos (gr N X) k) (hi : k ≤ i) (hj : k ≤ j) (hi' : i < b.length) (hj' : j < b.length) : Sk 217 (V (gr N X) k i j) := by
 have hm := hb.m
 have h1 := (Gs.j4 dY (M := LB ^ 17) hp).sz i j hi hj fun p q hp hq => Nat.le_of_lt (js (fun t ht => ⟨hb.sz p t (by omega) ht, hb.sz q t (by omega) ht⟩) hb.n)
 have h2 := y7 (M := LB ^ 17) (n := k + 1) (by omega)
 have h3 : LB * LB ^ 17 = LB ^ 18 := by rw [a7, ← bJ]
 rw [h3, ← Nat.pow_mul] at h2
 have h4 : LB ^ (18 * (k + 1)) ≤ LB ^ 216 := Nat.pow_le_pow_right cQ (by omega)
 have h5 : LB ^ 216 < LB ^ 217 := by
  exact (Nat.pow_lt_pow_iff_right (a := LB) (by decide)).2 (by omega)
 unfold Sk
 omega
theorem qh (hb : Bs b N X) {k : Nat} (hp : Pos (gr N X) k) (hk : k ≤ b.length) : Sk 217 (Dv (gr N X) k) := by
 cases k with
 | zero =>
   show (1 : Nat) < LB ^ 217
   exact Nat.one_lt_pow (by omega) (by decide)
 | succ k => exact ru hb hp.pred (av _) (av _) (by omega) (by omega)
def Dl (g : Nat → Nat → Int) (i : Nat) : List PV := (ca i).map fun k => zi (Dv g k)
def Ll (g : Nat → Nat → Int) (i j : Nat) : List PV := (ca j).map fun k => zi (V g k i k)
def Rl (g : Nat → Nat → Int) (i : Nat) : List PV := (ca i).map fun t => .sl (Ll g t t)
theorem zg {g : Nat → Nat → Int} {i k : Nat} (h : k < i) : (Dl g i)[k]? = some (zi (Dv g k)) := by simp [Dl, h]
theorem uK {g : Nat → Nat → Int} {i j k : Nat} (h : k < j) : (Ll g i j)[k]? = some (zi (V g k i k)) := by simp [Ll, h]
theorem Cu {g : Nat → Nat → Int} {i k : Nat} (h : k < i) : (Rl g i)[k]? = some (.sl (Ll g k k)) := by simp [Rl, h]
theorem rD {g : Nat → Nat → Int} {i : Nat} : (Dl g i).length = i := by simp [Dl]
theorem nu {g : Nat → Nat → Int} {i j : Nat} : (Ll g i j).length = j := by simp [Ll]
theorem pt {g : Nat → Nat → Int} {i : Nat} : (Rl g i).length = i := by simp [Rl]
theorem AD {g : Nat → Nat → Int} {i : Nat} : Dl g (i + 1) = Dl g i ++ [zi (Dv g i)] := by simp [Dl, List.range_succ]
theorem vR {g : Nat → Nat → Int} {i j : Nat} : Ll g i (j + 1) = Ll g i j ++ [zi (V g j i j)] := by simp [Ll, List.range_succ]
theorem Az {g : Nat → Nat → Int} {i : Nat} : Rl g (i + 1) = Rl g i ++ [.sl (Ll g i i)] := by simp [Rl, List.range_succ]
theorem AB {g : Nat → Nat → Int} {i : Nat} : (Ll g i (i + 1)).take i = Ll g i i := by
 rw [vR, List.take_append, nu, eI, List.take_zero, c8, b6 (by rw [nu]; omega)]
def cz (x : Int) : List CV := [.p (.bool (decide (x < 0) && decide (x.natAbs ≠ 0))), .p (.sl (lm (dgl x.natAbs)))]
structure JI (g : Nat → Nat → Int) (τ : ar) (bd : Nat) (cL : CV) (i j bl : Nat) : Prop where
 g0 : τ[0]? = some (.kblk 2 [.nils, .nils])
 g2 : τ[2]? = some (.kblk 2 [.own bd 0 (i + 1), cL])
 gd : τ[bd]? = some (.prow 2 (Dl g (i + 1)))
 gL : GL τ 1 cL (Rl g i)
 gl : τ[bl]? = some (.prow 2 (Ll g i j))
 ne : bl ≠ bd
theorem JI.bl0 {g : Nat → Nat → Int} {τ : ar} {bd : Nat} {cL : CV} {i j bl : Nat} (h : JI g τ bd cL i j bl) : bl ≠ 0 ∧ bl ≠ 2 ∧ bd ≠ 0 ∧ bd ≠ 2 ∧ bl < τ.length ∧ bd < τ.length ∧ 2 < τ.length ∧ 0 < τ.length := by
 refine ⟨?_, ?_, ?_, ?_, (aq.1 h.gl).1, (aq.1 h.gd).1, (aq.1 h.g2).1, (aq.1 h.g0).1⟩
 ·rintro rfl; have := h.gl; rw [h.g0] at this; cases this
 ·rintro rfl; have := h.gl; rw [h.g2] at this; cases this
 ·rintro rfl; have := h.gd; rw [h.g0] at this; cases this
 ·rintro rfl; have := h.gd; rw [h.g2] at this; cases this
theorem GL.ne2 {σ : ar} {c : CV} {es xs : List PV} {k : Nat} (h : GL σ 1 c es) (hk : σ[k]? = some (.prow 2 xs)) : ∀ b o n, c = .own b o n → b ≠ k := by
 rintro b o n rfl rfl
 rcases h with ⟨h, _⟩ | ⟨b', h, hb⟩
 ·cases h
 ·cases h; rw [hb] at hk; cases hk
theorem p138 (hb : Bs b N X) :
 (Pos (gr N X) b.length → Pu rp 83 [.sl b] (.tup [.p (.agg [.sl (Dl (gr N X) (b.length + 1)), .sl (Rl (gr N X) b.length)]), .p (.bool true)])) ∧
 (¬ Pos (gr N X) b.length → Pu rp 83 [.sl b] (.tup [.p (.agg [.sl [], .sl []]), .p (.bool false)])) := by
 have key : ∀ R : CV, (Pos (gr N X) b.length → R = .tup [.p (.agg [.sl (Dl (gr N X) (b.length + 1)), .sl (Rl (gr N X) b.length)]), .p (.bool true)]) → (¬ Pos (gr N X) b.length → R = .tup [.p (.agg [.sl [], .sl []]), .p (.bool false)]) → Pu rp 83 [.sl b] R := by
  intro R hR1 hR2
  refine aY rp138 ?_
  have hm := hb.m
  have hN := hb.n
  have k54 := p54 (x := 1) (by decide) (by decide)
  have hz1 : (zi 1).cells.length = 2 := rfl
  simp only [f83, aJ, SB, ak, aj, ↓reduceIte, reduceCtorEq, ai, ab, ah, ae, aa, af, kp1 k54]
  refine aM (β := Nat × ar × Nat × CV) (fun t => ([(0, .p (.sl b)), (2, .ptr 0 0 0), (4, .ptr 2 0 0), (16, i64 b.length), (17, i64 t.1)], t.2.1))
   (fun t => t.1 ≤ b.length ∧ Pos (gr N X) t.1 ∧ t.2.1[0]? = some (.kblk 2 [.nils, .nils]) ∧ t.2.1[2]? = some (.kblk 2 [.own t.2.2.1 0 (t.1 + 1), t.2.2.2]) ∧ t.2.1[t.2.2.1]? = some (.prow 2 (Dl (gr N X) (t.1 + 1))) ∧ GL t.2.1 1 t.2.2.2 (Rl (gr N X) t.1)) (fun t => b.length - t.1)
   ((0, [.kblk 2 [.nils, .nils], .prow 2 [zi 1], .kblk 2 [.own 1 0 1, .nils]], 1, .nils) : Nat × ar × Nat × CV) rfl rfl ⟨aD _, fun t ht => by omega, rfl, rfl, rfl, .nil⟩ ?_
  rintro ⟨i, σ, bd, cL⟩ ⟨hi, hpos, h0, h2, hd, hL⟩ ih
  simp only [] at hi hpos h0 h2 hd hL ih ⊢
  by_cases hin : (i : Int) < b.length
  ·have hib : i < b.length := by omega
   have w1 := wr1 (i := i) (by omega)
   have m1 : ((32 : Nat) : Int) * ((i + 1 : Nat) : Int) ≤ 281474976710656 := by omega
   have m2 : ((i + 1 : Nat) : Int) ≤ 9223372036854775807 := by omega
   have m3 : (0 : Int) ≤ ((i + 1 : Nat) : Int) := by omega
   have i0 : gG 0 = 0 := rfl
   simp only [SB, ak, aj, ↓reduceIte, reduceCtorEq, ai, ab, ah, ae, aa, af, hin, w1, m1, m2, m3, i0, dN]
   obtain ⟨ri, hri, hril, hrix⟩ := hb.row i hib
   have hs2 : 2 < σ.length := (aq.1 h2).1
   have hs0 : 0 < σ.length := (aq.1 h0).1
   have hsd : bd < σ.length := (aq.1 hd).1
   have hJ0 : JI (gr N X) (σ ++ [.prow 2 []]) bd cL i 0 σ.length :=
    ⟨by rw [aL hs0, h0], by rw [aL hs2, h2], by rw [aL hsd, hd], hL.left, by rw [cP]; rfl, by omega⟩
   refine aM (β := Nat × ar × Nat) (fun t => ([(0, .p (.sl b)), (2, .ptr 0 0 0), (4, .ptr 2 0 0), (5, i64 i), (6, .own t.2.2 0 t.1), (7, i64 t.1), (16, i64 b.length), (17, i64 i)], t.2.1))
    (fun t => t.1 ≤ i + 1 ∧ JI (gr N X) t.2.1 bd cL i t.1 t.2.2) (fun t => i + 1 - t.1) ((0, σ ++ [.prow 2 []], σ.length) : Nat × ar × Nat) rfl rfl ⟨aD _, hJ0⟩ ?_
   rintro ⟨j, τ, bl⟩ ⟨hj, hJ⟩ ih2
   simp only [] at hj hJ ih2 ⊢
   obtain ⟨n1, n2, n3, n4, lbl, lbd, l2, l0⟩ := hJ.bl0
   have e0 : ∀ l, (τ ++ l)[0]? = some (.kblk 2 [.nils, .nils]) := fun l => by rw [aL l0, hJ.g0]
   have e2 : ∀ l, (τ ++ l)[2]? = some (.kblk 2 [.own bd 0 (i + 1), cL]) := fun l => by rw [aL l2, hJ.g2]
   have ed : ∀ l, (τ ++ l)[bd]? = some (.prow 2 (Dl (gr N X) (i + 1))) := fun l => by rw [aL lbd, hJ.gd]
   have el : ∀ l, (τ ++ l)[bl]? = some (.prow 2 (Ll (gr N X) i j)) := fun l => by rw [aL lbl, hJ.gl]
   by_cases hji : (j : Int) ≤ i
   ·have hjb : j < b.length := by omega
    obtain ⟨rj, hrj, hrjl, hrjx⟩ := hb.row j hjb
    have k169 := p169 hrix hrjx (by rw [hril, hrjl]) (by omega) (fun t ht => ⟨hb.sz i t hib (by omega), hb.sz j t hjb (by omega)⟩)
    rw [hril] at k169
    simp only [SB, ak, aj, ↓reduceIte, reduceCtorEq, ai, ab, ah, ae, aa, af, hji, hri, hrj, SN, kz2 k169, bV]
    refine aM (β := Nat) (fun k => ([(0, .p (.sl b)), (2, .ptr 0 0 0), (4, .ptr 2 0 0), (5, i64 i), (6, .own bl 0 j), (7, i64 j), (8, .ptr τ.length 0 0), (10, i64 k), (16, i64 b.length), (17, i64 i)], τ ++ [.kblk 2 (cz (V (gr N X) k i j))]))
     (fun k => k ≤ j) (fun k => j - k) 0 rfl rfl (aD _) ?_
    rintro k hk ih3
    simp only [] at hk ih3 ⊢
    have sV : Sz (V (gr N X) k i j) := (ru hb (hpos.mono (by omega)) (by omega) hk hib hjb).sz (by omega)
    by_cases hkj : (k : Int) < j
    ·have hkj' : k < j := by omega
     have hpk : Pos (gr N X) (k + 1) := hpos.mono (by omega)
     have s1 := qh hb hpk (by omega)
     have s2 := ru hb hpk.pred (show k ≤ i by omega) hk hib hjb
     have s3 := ru hb hpk.pred (show k ≤ i by omega) (av k) hib (by omega)
     have s4 := ru hb hpk.pred hk (av k) hjb (by omega)
     have s5 := qh hb hpk.pred (by omega)
     have q1 := sC (Nu.zi (s1.sz (by omega))) (Nu.zi (s2.sz (by omega)))
     have q2 := sC (Nu.zi (s3.sz (by omega))) (Nu.zi (s4.sz (by omega)))
     have q3 := p157 (Nu.zi ((s1.mul s2).sz (by omega))) (Nu.zi ((s3.mul s4).sz (by omega)))
     have q4 := p134 (Nu.zi (((s1.mul s2).sub (s3.mul s4)).sz (by omega))) (Nu.zi (s5.sz (by omega))) (Gs.j4 dY (M := 0) hpk.pred).dp
     rw [← Gs.rn] at q4
     rw [bg (x := V (gr N X) k i j)] at q1
     rw [bg (x := Dv (gr N X) (k + 1) * V (gr N X) k i j - V (gr N X) k i k * V (gr N X) k j k)] at q4
     have w2 := wr1 (i := k) (by omega)
     have d1 := zg (g := gr N X) (i := i + 1) (k := k + 1) (by omega)
     have d2 := zg (g := gr N X) (i := i + 1) (k := k) (by omega)
     have d3 := uK (g := gr N X) (i := i) hkj'
     have f1 : k + 1 < i + 1 := by omega
     have f2 : k < i + 1 := by omega
     by_cases hjlt : (j : Int) < i
     ·have hjlt' : j < i := by omega
      have d4 := uK (g := gr N X) (i := j) hkj'
      have d5 := Cu (g := gr N X) hjlt'
      obtain ⟨bL, hbL, hbLg⟩ : ∃ bL, cL = .own bL 0 i ∧ τ[bL]? = some (.prow 1 (Rl (gr N X) i)) := by
       rcases hJ.gL with ⟨h, h'⟩ | ⟨bL, h, h'⟩
       ·have := congrArg List.length h'; rw [pt] at this; simp at this; omega
       ·rw [pt] at h; exact ⟨bL, h, h'⟩
      subst hbL
      have lbL : bL < τ.length := (aq.1 hbLg).1
      have eL : ∀ l, (τ ++ l)[bL]? = some (.prow 1 (Rl (gr N X) i)) := fun l => by rw [aL lbL, hbLg]
      simp only [SB, ak, aj, ↓reduceIte, reduceCtorEq, ai, ab, ah, ae, aa, af, hkj, hjlt, w2, e2, ed, el, eL, bsz, cz, f1, f2, hkj', hjlt', d1, d2, d3, d4, d5, cf, kz2 q1, kz2 q2, kp2 q3, SN]
      rw [ez]
      refine ⟨by rfl, ?_⟩
      simp only [SB, ak, aj, ↓reduceIte, reduceCtorEq, ai, ab, ah, ae, aa, af, e2, ed, el, bsz, f2, d2, cf, kz2 q4, w2, SN]
      refine ih3 (k + 1) _ (by omega) (by omega) ?_
      rfl
     ·obtain rfl : j = i := by omega
      simp only [SB, ak, aj, ↓reduceIte, reduceCtorEq, ai, ab, ah, ae, aa, af, hkj, hjlt, w2, e2, ed, el, bsz, cz, f1, f2, hkj', d1, d2, d3, cf, kz2 q1, kz2 q2, kp2 q3, SN]
      rw [ez]
      refine ⟨by rfl, ?_⟩
      simp only [SB, ak, aj, ↓reduceIte, reduceCtorEq, ai, ab, ah, ae, aa, af, e2, ed, el, bsz, f2, d2, cf, kz2 q4, w2, SN]
      refine ih3 (k + 1) _ (by omega) (by omega) ?_
      rfl
    ·obtain rfl : k = j := by omega
     have w3 := wr1 (i := k) (by omega)
     have c1 : content (τ ++ [.kblk 2 (cz (V (gr N X) k i k)), .prow 2 [zi (V (gr N X) k i k)]]) (.own bl 0 k) = some (Ll (gr N X) i k) := by
      simp only [content, el, nu, d8, av, if_true, List.drop_zero]
      rw [b6 (by rw [nu]; omega)]
     have c2 : content (τ ++ [.kblk 2 (cz (V (gr N X) k i k)), .prow 2 [zi (V (gr N X) k i k)]]) (.own (τ.length + 1) 0 1) = some [zi (V (gr N X) k i k)] := by
      simp only [content, cY]; rfl
     have m4 : (k + 1) * 32 ≤ 140737488355328 := by omega
     simp only [cz, bg] at c1 c2
     have sl : ∀ l x, (τ ++ l).set bl x = τ.set bl x ++ l := fun l x => cv lbl
     simp only [SB, ak, aj, ↓reduceIte, reduceCtorEq, ai, ab, ah, ae, aa, af, hkj, cz, fN, c1, c2, el, nu, m4, sl, w3]
     rw [← bg (x := V (gr N X) k i k), ← vR]
     refine ih2 (k + 1, τ.set bl .dead ++ [.kblk 2 (cz (V (gr N X) k i k)), .prow 2 [zi (V (gr N X) k i k)], .prow 2 (Ll (gr N X) i (k + 1))], τ.length + 2) _ ⟨by simp only []; omega, ?_⟩ (by simp only []; omega) ?_
     ·have lt : ∀ x, x ≠ bl → x < τ.length → ∀ l, (τ.set bl .dead ++ l)[x]? = τ[x]? := fun x hx hl l => by
       rw [aL (by rw [ay]; exact hl), bC (Ne.symm hx)]
      refine ⟨by rw [lt 0 n1.symm l0, hJ.g0], by rw [lt 2 n2.symm l2, hJ.g2], by rw [lt bd hJ.ne.symm lbd, hJ.gd], ?_, ?_, by simp only []; omega⟩
      ·exact (hJ.gL.iq (GL.ne2 hJ.gL hJ.gl)).left
      ·rw [show τ.length + 2 = (τ.set bl Blk.dead).length + 2 by rw [ay], cY]; rfl
     ·rfl
   ·obtain rfl : j = i + 1 := by omega
    have hji' : ¬ ((i + 1 : Nat) : Int) ≤ i := by omega
    have hVz : Nu (zi (V (gr N X) i i i)) (V (gr N X) i i i) := Nu.zi ((ru hb hpos (av _) (av _) hib hib).sz (by omega))
    have k77 := p77 hVz
    have d1 := uK (g := gr N X) (i := i) (bO i)
    have f1 : i < i + 1 := bO i
    by_cases hs : (V (gr N X) i i i).sign ≤ 0
    ·have hVn : V (gr N X) i i i ≤ 0 := Int.sign_nonpos_iff.1 hs
     have s0 : ∀ x, (τ.set 0 x)[0]? = some x := fun x => bt l0
     simp only [SB, ak, aj, ↓reduceIte, reduceCtorEq, ai, ab, ah, ae, aa, af, hji', hJ.gl, hJ.g0, bsz, f1, d1, cf, kz1 k77, hs, SN, s0]
     rw [hR2 (fun hp => by have := hp i hib; omega)]
     rfl
    ·have hVp : 0 < V (gr N X) i i i := by
      rcases Int.lt_or_le 0 (V (gr N X) i i i) with h | h
      ·exact h
      ·exact absurd (Int.sign_nonpos_iff.2 h) hs
     have gD : GL τ 2 (.own bd 0 (i + 1)) (Dl (gr N X) (i + 1)) := GL.own hJ.gd rD.symm
     have m5 : ((Dl (gr N X) (i + 1)).length + [zi (V (gr N X) i i i)].length) * 32 ≤ 140737488355328 := by rw [rD]; simp; omega
     have hDs : Dl (gr N X) (i + 1) ++ [zi (V (gr N X) i i i)] = Dl (gr N X) (i + 2) := by rw [AD (i := i + 1)]; rfl
     have sd : ∀ l x, (τ.set bd .dead ++ l).set 2 x = (τ.set bd .dead).set 2 x ++ l := fun l x => cv (by rw [ay]; exact l2)
     have gd2 : ∀ l, (τ.set bd .dead ++ l)[2]? = some (.kblk 2 [.own bd 0 (i + 1), cL]) := fun l => by rw [aL (by rw [ay]; exact l2), bC n4, hJ.g2]
     simp only [SB, ak, aj, ↓reduceIte, reduceCtorEq, ai, ab, ah, ae, aa, af, hji', hJ.gl, hJ.g0, hJ.g2, hJ.gd, bsz, f1, d1, cf, kz1 k77, hs, SN, e2, el, bV, mo rfl gD m5, nd, rD, hDs, sd, gd2]
     rw [ez]
     refine ⟨by rfl, ?_⟩
     obtain ⟨ρ, hρ⟩ : ∃ ρ, ρ = (τ.set bd .dead).set 2 (.kblk 2 [.own (τ.length + 1) 0 (i + 2), cL]) ++ [.prow 2 [zi (V (gr N X) i i i)], .prow 2 (Dl (gr N X) (i + 2))] := ⟨_, rfl⟩
     have hl : ((τ.set bd Blk.dead).set 2 (.kblk 2 [.own (τ.length + 1) 0 (i + 2), cL])).length = τ.length := by rw [ay, ay]
     have r0 : ρ[0]? = some (.kblk 2 [.nils, .nils]) := by rw [hρ, aL (by rw [hl]; exact l0), bC (by omega), bC n3, hJ.g0]
     have r2 : ρ[2]? = some (.kblk 2 [.own (τ.length + 1) 0 (i + 2), cL]) := by rw [hρ, aL (by rw [hl]; exact l2), bt (by rw [ay]; exact l2)]
     have rd : ρ[τ.length + 1]? = some (.prow 2 (Dl (gr N X) (i + 2))) := by rw [hρ, aC (by rw [hl]; omega), hl, gE]; rfl
     have rl : ρ[bl]? = some (.prow 2 (Ll (gr N X) i (i + 1))) := by rw [hρ, aL (by rw [hl]; exact lbl), bC (Ne.symm n2), bC (Ne.symm hJ.ne), hJ.gl]
     have rL : GL ρ 1 cL (Rl (gr N X) i) := by
      rw [hρ]
      refine (GL.iq (hJ.gL.iq (GL.ne2 hJ.gL hJ.gd)) ?_).left
      rintro b' o n rfl rfl
      rcases hJ.gL with ⟨h, _⟩ | ⟨b2, h, hb2⟩
      ·cases h
      ·cases h; rw [hJ.g2] at hb2; cases hb2
     rw [← hρ]
     have lr2 : 2 < ρ.length := (aq.1 r2).1
     have lr0 : 0 < ρ.length := (aq.1 r0).1
     have lrl : bl < ρ.length := (aq.1 rl).1
     have q2 : ∀ l, (ρ ++ l)[2]? = some (.kblk 2 [.own (τ.length + 1) 0 (i + 2), cL]) := fun l => by rw [aL lr2, r2]
     have ql : ∀ l, (ρ ++ l)[bl]? = some (.prow 2 (Ll (gr N X) i (i + 1))) := fun l => by rw [aL lrl, rl]
     have hii : i ≤ i + 1 := by omega
     have hf := fun {rp rs d l dr ks e Q x} => zT (rp := rp) (rs := rs) (d := d) (l := l) (dr := dr) (ks := ks) (e := e) (Q := Q) (x := x) rl (show i ≤ (Ll (gr N X) i (i + 1)).length by rw [nu]; omega)
     have gL' : GL (ρ.set bl .dead) 1 cL (Rl (gr N X) i) := rL.iq (GL.ne2 rL rl)
     have m6 : ((Rl (gr N X) i).length + [PV.sl (Ll (gr N X) i i)].length) * 24 ≤ 140737488355328 := by rw [pt]; simp; omega
     have hRs : Rl (gr N X) i ++ [PV.sl (Ll (gr N X) i i)] = Rl (gr N X) (i + 1) := Az.symm
     have lset : (ρ.set bl Blk.dead).length = ρ.length := ay
     have lnd : (nd (ρ.set bl .dead) cL).length = ρ.length := by rw [c7, lset]
     have h2s : (ρ.set bl .dead)[2]? = some (.kblk 2 [.own (τ.length + 1) 0 (i + 2), cL]) := by rw [bC n2, r2]
     have h0s : (ρ.set bl .dead)[0]? = some (.kblk 2 [.nils, .nils]) := by rw [bC n1, r0]
     have v2 : ∀ l, (nd (ρ.set bl .dead) cL ++ l)[2]? = some (.kblk 2 [.own (τ.length + 1) 0 (i + 2), cL]) := fun l => fO gL' h2s
     have v2s : ∀ l x, (nd (ρ.set bl .dead) cL ++ l).set 2 x = (nd (ρ.set bl .dead) cL).set 2 x ++ l := fun l x => cv (by rw [lnd]; exact lr2)
     have hA := fun {rp rs d l dr ks e Q s x} => mo (rp := rp) (rs := rs) (d := d) (l := l) (dr := dr) (ks := ks) (e := e) (Q := Q) (s := s) (x := x) lset.symm gL' m6
     simp only [SB, ak, aj, ↓reduceIte, reduceCtorEq, ai, ab, ah, ae, aa, af, q2, ql, bsz, dw, hii, hf, AB, Nat.sub_zero, aD, SN, hA, pt, hRs, v2, v2s]
     rw [ez]
     refine ⟨by simp [fZ, lR, cR, fq, aV, eA, vl, gt, n2, Ne.symm n2, List.elem], ?_⟩
     simp only [SB, ak, aj, ↓reduceIte, reduceCtorEq, ai, ab, ah, ae, aa, af, w1]
     have hbd : bl ≠ τ.length + 1 := by omega
     have hdn : (nd (ρ.set bl .dead) cL)[τ.length + 1]? = some (.prow 2 (Dl (gr N X) (i + 2))) := by
      have h1 : (ρ.set bl .dead)[τ.length + 1]? = some (.prow 2 (Dl (gr N X) (i + 2))) := by rw [bC hbd, rd]
      have hne := GL.ne2 gL' h1
      cases cL with
      | own b' o n => simp only [nd]; rw [bC (hne b' o n rfl), h1]
      | _ => exact h1
     have h0n : (nd (ρ.set bl .dead) cL)[0]? = some (.kblk 2 [.nils, .nils]) := by have := fO gL' h0s (τ := []); rwa [c8] at this
     have hll : ((nd (ρ.set bl .dead) cL).set 2 (.kblk 2 [.own (τ.length + 1) 0 (i + 2), .own (ρ.length + 1) 0 (i + 1)])).length = ρ.length := by rw [ay, lnd]
     have ltd : τ.length + 1 < ρ.length := (aq.1 rd).1
     refine ih (i + 1, (nd (ρ.set bl .dead) cL).set 2 (.kblk 2 [.own (τ.length + 1) 0 (i + 2), .own (ρ.length + 1) 0 (i + 1)]) ++ [.prow 1 [.sl (Ll (gr N X) i i)], .prow 1 (Rl (gr N X) (i + 1))], τ.length + 1, .own (ρ.length + 1) 0 (i + 1)) _
      ⟨by simp only []; omega, ?_, ?_, ?_, ?_, ?_⟩ (by simp only []; omega) ?_
     ·intro t ht
      rcases ax t i with h | h
      ·exact hpos t h
      ·obtain rfl : t = i := by simp only [] at ht; omega
       exact hVp
     ·simp only []
      rw [aL (by rw [hll]; exact lr0), bC (by omega), h0n]
     ·simp only []
      rw [aL (by rw [hll]; exact lr2), bt (by rw [lnd]; exact lr2)]
     ·simp only []
      rw [aL (by rw [hll]; exact ltd), bC (by omega), hdn]
     ·simp only []
      refine .own ?_ pt.symm
      rw [aC (by rw [hll]; omega), hll, gE]; rfl
     ·rfl
  ·obtain rfl : i = b.length := by omega
   have s0 : ∀ x, (σ.set 0 x)[0]? = some x := fun x => bt (aq.1 h0).1
   have nd0 : bd ≠ 0 := by rintro rfl; rw [h0] at hd; cases hd
   have hfd : dD (σ.set 0 (.kblk 2 [.own bd 0 (b.length + 1), cL])) (.own bd 0 (b.length + 1)) = some (.sl (Dl (gr N X) (b.length + 1))) := e9 (s := 2) (by rw [bC nd0.symm, hd]) rD.symm
   have hfl : dD (σ.set 0 (.kblk 2 [.own bd 0 (b.length + 1), cL])) cL = some (.sl (Rl (gr N X) b.length)) := GL.dD (sz := 1) (hL.iq (by
    rintro b' o n rfl rfl
    rcases hL with ⟨h, _⟩ | ⟨b2, h, hb2⟩
    ·cases h
    ·cases h; rw [h0] at hb2; cases hb2))
   simp only [SB, ak, aj, ↓reduceIte, reduceCtorEq, ai, ab, ah, ae, aa, af, hin, h2, h0, s0]
   rw [hR1 hpos]
   rcases hL with ⟨h, _⟩ | ⟨bL, h, _⟩ <;> subst h <;> simp [back, j2, dL, frz, eU, hfd, hfl, oS]
 exact ⟨fun h => key _ (fun _ => rfl) (fun h2 => absurd h h2), fun h => key _ (fun h2 => absurd h2 h) (fun _ => rfl)⟩
end
theorem rp108 : rp 35 = some f35 := rfl
theorem rp59 : rp 13 = some f13 := rfl
open Classical in
noncomputable def vE (n : Nat → Nat) (X : Nat → Nat → Int) (m : Nat) : Int := if shE n X m ≠ 0 then shE n X m else if Pos (gr (n 0) X) m then 0 else 50
section
variable {b : List PV} {n : Nat → Nat} {X : Nat → Nat → Int}
theorem mb {m : Nat} (h : shE n X m = 0) : ¬ Big n X m ∧ m ≠ 0 ∧ ¬ jX n m := by
 unfold shE at h
 refine ⟨fun hb => ?_, fun h0 => ?_, fun hu => ?_⟩
 ·rw [if_pos hb] at h; cases h
 ·by_cases hb : Big n X m
  ·rw [if_pos hb] at h; cases h
  ·rw [if_neg hb, if_pos h0] at h; cases h
 ·by_cases hb : Big n X m
  ·rw [if_pos hb] at h; cases h
  ·by_cases h0 : m = 0
   ·rw [if_neg hb, if_pos h0] at h; cases h
   ·rw [if_neg hb, if_neg h0, if_pos hu] at h; cases h
theorem vV {x : Int} (h : bl x.natAbs ≤ 256) : Sk 8 x := by
 unfold Sk
 by_cases h0 : x.natAbs = 0
 ·rw [h0]; exact dg cQ
 ·have h1 := (jl h0).2.1
  have h2 : 2 ^ bl x.natAbs ≤ 2 ^ 256 := Nat.pow_le_pow_right (by decide) h
  have h3 : LB ^ 8 = 2 ^ 256 := by
   show (2 ^ 32) ^ 8 = _
   rw [← Nat.pow_mul]
  rw [h3]; omega
theorem MR.bs (hb : MR b n X) (h : shE n X b.length = 0) : Bs b (n 0) X := by
 obtain ⟨h1, h2, h3⟩ := mb h
 have hm : b.length ≤ 12 := Nat.not_lt.1 fun hh => h1 (.inl hh)
 have hn : ∀ i, i < b.length → n i = n 0 := fun i hi => cq fun hne => h3 ⟨i, hi, hne⟩
 refine ⟨hm, Nat.not_lt.1 fun hh => h1 (.inr (.inl ⟨0, by omega, hh⟩)), fun i hi => ?_, fun i j hi hj => ?_⟩
 ·obtain ⟨r, hr, hl, _, hx⟩ := hb i hi
  exact ⟨r, hr, by rw [hl, hn i hi], hx⟩
 ·exact vV (Nat.not_lt.1 fun hh => h1 (.inr (.inr ⟨i, j, hi, by rw [hn i hi]; exact hj, hh⟩)))
theorem p59 (hb : MR b n X) (hlb : b.length ≤ 2000000) : Pu rp 13 [.sl b] (.p (.int .i64 (vE n X b.length))) := by
 have k137 := p137 hb hlb
 have key : ∃ g, Pu rp 35 [.sl b, .bool true] (.tup [.p (.agg g), .p (.int .i64 (vE n X b.length))]) ∧ g.length = 2 := by
  by_cases he : shE n X b.length = 0
  ·have hbs := hb.bs he
   obtain ⟨h1, h2⟩ := p138 hbs
   have e0 : (shE n X b.length != 0) = false := by rw [he]; rfl
   by_cases hp : Pos (gr (n 0) X) b.length
   ·refine ⟨[.sl (Dl (gr (n 0) X) (b.length + 1)), .sl (Rl (gr (n 0) X) b.length)], aY rp108 ?_, rfl⟩
    rw [vE, if_neg (by simp [he]), if_pos hp]
    simp only [f35, aJ, SB, ak, aj, ↓reduceIte, reduceCtorEq, ai, ab, ah, ae, aa, af, kp2 k137, e0, kp1 (h1 hp), unV, Bool.not_true]
    rfl
   ·refine ⟨[.sl [], .sl []], aY rp108 ?_, rfl⟩
    rw [vE, if_neg (by simp [he]), if_neg hp]
    simp only [f35, aJ, SB, ak, aj, ↓reduceIte, reduceCtorEq, ai, ab, ah, ae, aa, af, kp2 k137, e0, kp1 (h2 hp), unV, Bool.not_false]
    rfl
  ·have e0 : (shE n X b.length != 0) = true := by simp [he]
   refine ⟨[.sl [], .sl []], aY rp108 ?_, rfl⟩
   rw [vE, if_pos he]
   simp only [f35, aJ, SB, ak, aj, ↓reduceIte, reduceCtorEq, ai, ab, ah, ae, aa, af, kp2 k137, e0]
   rfl
 obtain ⟨g, k108, hg⟩ := key
 obtain ⟨g1, g2, rfl⟩ : ∃ g1 g2, g = [g1, g2] := by
  match g, hg with
  | [a, c], _ => exact ⟨a, c, rfl⟩
 refine aY rp59 ?_
 simp only [f13, aJ, SB, ak, aj, ↓reduceIte, reduceCtorEq, ai, ab, ah, ae, aa, af, kp2 k108]
 rfl
end
end Go.Proofs.YtdieenbfdeaffabGreat.VBn
namespace Go.Proofs.YtdieenbfdeaffabGreat.VBn
open Go Vpi
open Gs (V Dv Pos Good U Dk rg)
set_option maxRecDepth 100000
theorem rp143 : rp 60 = some f60 := rfl
theorem rp175 : rp 76 = some f76 := rfl
def RSn (n : Nat) (x : Rat) : Prop := Sk n x.num ∧ Sk n (x.den : Int)
theorem RSn.rs {n : Nat} {x : Rat} (h : RSn n x) (hn : n ≤ 10000000000) : RS x := ⟨h.1.mono (by rw [eQ]; exact hn), h.2.mono (by rw [eQ]; exact hn)⟩
theorem iu {n : Nat} {a b : Int} (hb : 0 < b) (ha : Sk n a) (hb' : Sk n b) : RSn n (eZ a b) := by
 obtain ⟨h1, h2⟩ := lO (a := a) hb
 refine ⟨?_, ?_⟩
 ·rw [h1]
  exact ha.le (Int.natAbs_ediv_le_natAbs _ _)
 ·rw [h2]
  exact hb'.le (Nat.div_le_self _ _)
theorem RSn.mul {n m : Nat} {x y : Rat} (h : RSn n x) (h' : RSn m y) : RSn (n + m) (x * y) := by
 have e : x * y = eZ (x.num * y.num) ((x.den : Int) * y.den) := by
  have := Rat.divInt_mul_divInt x.num y.num (d₁ := x.den) (d₂ := y.den)
  rwa [dP, dP] at this
 rw [e]
 have := x.den_nz
 have := y.den_nz
 exact iu (Int.mul_pos (by omega) (by omega)) (h.1.mul h'.1) (h.2.mul h'.2)
theorem ry {g : Nat → Nat → Int} (hs : ∀ i j, g i j = g j i) : ∀ {k i j : Nat}, U (rg g) k i j = U (rg g) k j i
 | 0, i, j => by simp only [U, rg]; rw [hs]
 | k + 1, i, j => by
   rw [U, U, ry hs (i := i) (j := j), ry hs (i := i) (j := k), ry hs (i := k) (j := j)]
   rw [Rat.mul_comm]
section
variable {b : List PV} {N : Nat} {X : Nat → Nat → Int}
def star (g : Nat → Nat → Int) (k : Nat) : Rat := U (rg g) k k k
def mu (g : Nat → Nat → Int) (i k : Nat) : Rat := U (rg g) k i k / U (rg g) k k k
theorem Bl {g : Nat → Nat → Int} (hs : ∀ i j, g i j = g j i) {k i j : Nat} (hp : Pos g k) (hi : k ≤ i) (hj : k ≤ j) : U (rg g) k i j = eZ (V g k i j) (Dv g k) := by
 have G := Gs.j4 hs (M := 0) hp
 have h1 := G.v i j hi hj
 have h2 := G.d
 have h3 : (0 : Rat) < Dv g k := Rat.intCast_pos.2 G.dp
 rw [← h2] at h1
 rw [Rat.divInt_eq_div, h1]
 grind
theorem B2 {g : Nat → Nat → Int} (hs : ∀ i j, g i j = g j i) {k i : Nat} (hp : Pos g (k + 1)) (hi : k ≤ i) : mu g i k = eZ (V g k i k) (V g k k k) := by
 have G := Gs.j4 hs (M := 0) hp.pred
 have h1 := G.v i k hi (av _)
 have h2 := G.v k k (av _) (av _)
 have h3 : (0 : Rat) < Dk (rg g) k := by rw [← G.d]; exact Rat.intCast_pos.2 G.dp
 have h4 : (0 : Rat) < V g k k k := Rat.intCast_pos.2 (hp k (by omega))
 unfold mu
 rw [Rat.divInt_eq_div, h1, h2]
 rw [h2] at h4
 generalize Dk (rg g) k = D at *
 generalize U (rg g) k k k = u at *
 have h5 : u ≠ 0 := by rintro rfl; grind
 have h6 : D ≠ 0 := by grind
 grind
theorem tO (hb : Bs b N X) {k i j : Nat} (hp : Pos (gr N X) k) (hi : k ≤ i) (hj : k ≤ j) (hi' : i < b.length) (hj' : j < b.length) : RSn 217 (U (rg (gr N X)) k i j) := by
 rw [Bl dY hp hi hj]
 exact iu (Gs.j4 dY (M := 0) hp).dp (ru hb hp hi hj hi' hj') (qh hb hp (by omega))
theorem pO (hb : Bs b N X) {k i : Nat} (hp : Pos (gr N X) (k + 1)) (hi : k ≤ i) (hi' : i < b.length) : RSn 217 (mu (gr N X) i k) := by
 rw [B2 dY hp hi]
 exact iu (hp k (by omega)) (ru hb hp.pred hi (av _) hi' (by omega)) (ru hb hp.pred (av _) (av _) (by omega) (by omega))
theorem jx {g : Nat → Nat → Int} (hs : ∀ i j, g i j = g j i) {k : Nat} (hp : Pos g (k + 1)) : 0 < star g k := (Gs.j4 hs (M := 0) hp).piv k (by omega)
theorem uH {g : Nat → Nat → Int} (hs : ∀ i j, g i j = g j i) {k i j : Nat} (hp : Pos g (k + 1)) : U (rg g) k i j - mu g j k * mu g i k * star g k = U (rg g) (k + 1) i j := by
 have h := jx hs hp
 unfold star at h
 rw [U, ry hs (i := k) (j := j)]
 unfold mu star
 have : U (rg g) k k k ≠ 0 := by grind
 grind
theorem za {g : Nat → Nat → Int} (hs : ∀ i j, g i j = g j i) {k : Nat} (hp : Pos g k) : (U (rg g) k k k).num.sign ≤ 0 ↔ V g k k k ≤ 0 := by
 have G := Gs.j4 hs (M := 0) hp
 have h1 := G.v k k (av _) (av _)
 have h3 : (0 : Rat) < Dk (rg g) k := by rw [← G.d]; exact Rat.intCast_pos.2 G.dp
 rw [Int.sign_nonpos_iff]
 have e1 : (U (rg g) k k k).num ≤ 0 ↔ U (rg g) k k k ≤ 0 := by
  have h := Rat.num_nonneg (q := - U (rg g) k k k)
  rw [Rat.neg_num] at h
  constructor
  ·intro h1; have := h.1 (by omega); grind
  ·intro h1; have := h.2 (by grind); omega
 have e2 : V g k k k ≤ 0 ↔ (V g k k k : Rat) ≤ 0 := by
  rw [← Int.not_lt, ← Rat.not_lt, Rat.intCast_pos]
 rw [e1, e2, h1]
 constructor
 ·intro h
  have := Rat.mul_nonneg (Rat.le_of_lt h3) (show 0 ≤ - U (rg g) k k k by grind)
  grind
 ·intro h
  refine Rat.not_lt.1 fun h4 => ?_
  have := Rat.mul_pos h3 h4
  grind
theorem fy {x : Rat} : fp true 4 (rq x) 0 = some (rq x) := by simp [fp, rq]
theorem gH {x : Rat} : rq x = .agg [.bool (decide (x.num < 0) && decide (x.num.natAbs ≠ 0)), .sl (lm (dgl x.num.natAbs)), .bool false, .sl (lm (dgl x.den))] := rfl
theorem p175 {x : Rat} (h : RS x) : Pu rp 76 [rq x] (.p (rq (x * x))) := by
 refine aY rp175 ?_
 have k := p173 h h
 unfold rq at k ⊢
 simp only [f76, aJ, SB, ak, aj, ↓reduceIte, reduceCtorEq, ai, ab, ah, ae, aa, af, kp2 k]
 rfl
def Sl (g : Nat → Nat → Int) (i : Nat) : List PV := (ca i).map fun k => rq (star g k)
def Ul (g : Nat → Nat → Int) (i j : Nat) : List PV := (ca j).map fun k => rq (mu g i k)
def Ml (g : Nat → Nat → Int) (i : Nat) : List PV := (ca i).map fun t => .sl (Ul g t t)
theorem pr {g : Nat → Nat → Int} {i k : Nat} (h : k < i) : (Sl g i)[k]? = some (rq (star g k)) := by simp [Sl, h]
theorem po {g : Nat → Nat → Int} {i j k : Nat} (h : k < j) : (Ul g i j)[k]? = some (rq (mu g i k)) := by simp [Ul, h]
theorem uJ {g : Nat → Nat → Int} {i k : Nat} (h : k < i) : (Ml g i)[k]? = some (.sl (Ul g k k)) := by simp [Ml, h]
theorem kK {g : Nat → Nat → Int} {i : Nat} : (Sl g i).length = i := by simp [Sl]
theorem pn {g : Nat → Nat → Int} {i j : Nat} : (Ul g i j).length = j := by simp [Ul]
theorem rB {g : Nat → Nat → Int} {i : Nat} : (Ml g i).length = i := by simp [Ml]
theorem Ax {g : Nat → Nat → Int} {i : Nat} : Sl g (i + 1) = Sl g i ++ [rq (star g i)] := by simp [Sl, List.range_succ]
theorem Av {g : Nat → Nat → Int} {i j : Nat} : Ul g i (j + 1) = Ul g i j ++ [rq (mu g i j)] := by simp [Ul, List.range_succ]
theorem AA {g : Nat → Nat → Int} {i : Nat} : Ml g (i + 1) = Ml g i ++ [.sl (Ul g i i)] := by simp [Ml, List.range_succ]
def cr (x : Rat) : List CV := [.p (.bool (decide (x.num < 0) && decide (x.num.natAbs ≠ 0))), .p (.sl (lm (dgl x.num.natAbs))), .p (.bool false), .p (.sl (lm (dgl x.den)))]
def hZ (c c' : CV) : Prop := ∀ b o n b' o' n', c = .own b o n → c' = .own b' o' n' → b ≠ b'
structure KI2 (g : Nat → Nat → Int) (τ : ar) (cM cS : CV) (i j : Nat) (c : CV) : Prop where
 g0 : τ[0]? = some (.kblk 2 [.nils, .nils])
 g1 : τ[1]? = some (.kblk 2 [cM, cS])
 gM : GL τ 1 cM (Ml g i)
 gS : GL τ 4 cS (Sl g i)
 gc : GL τ 4 c (Ul g i j)
 ap : hZ c cS
theorem GL.jr {σ : ar} {sz : Nat} {c : CV} {es : List PV} {n : Nat} (h : GL σ sz c es) (hn : es.length = n) (h0 : 0 < n) : ∃ k, c = .own k 0 n ∧ σ[k]? = some (.prow sz es) ∧ k < σ.length := by
 rcases h with ⟨rfl, rfl⟩ | ⟨k, rfl, hk⟩
 ·simp at hn; omega
 ·exact ⟨k, by rw [hn], hk, (aq.1 hk).1⟩
theorem GL.pN {σ : ar} {s s' : Nat} {c c' : CV} {es es' : List PV} (h : GL σ s c es) (h' : GL σ s' c' es') (hs : s ≠ s') : hZ c c' := by
 rintro b o n b' o' n' rfl rfl rfl
 rcases h with ⟨h, _⟩ | ⟨k, h, hk⟩
 ·cases h
 rcases h' with ⟨h', _⟩ | ⟨k', h', hk'⟩
 ·cases h'
 cases h; cases h'
 rw [hk] at hk'
 cases hk'
 exact hs rfl
theorem hZ.symm {c c' : CV} (h : hZ c c') : hZ c' c := fun b o n b' o' n' h1 h2 => (h b' o' n' b o n h2 h1).symm
theorem GL.nd {σ : ar} {sz : Nat} {c c' : CV} {es : List PV} (h : GL σ sz c es) (ha : hZ c c') : GL (nd σ c') sz c es := by
 cases c' with
 | own b o n => exact h.iq fun b' o' n' hc => ha b' o' n' b o n hc rfl
 | _ => exact h
theorem GL.nek {σ : ar} {sz s : Nat} {c : CV} {es : List PV} {k : Nat} {cs : List CV} (h : GL σ sz c es) (hk : σ[k]? = some (.kblk s cs)) : ∀ b o n, c = .own b o n → b ≠ k := by
 rintro b o n rfl rfl
 rcases h with ⟨h, _⟩ | ⟨b', h, hb⟩
 ·cases h
 ·cases h; rw [hb] at hk; cases hk
theorem A1 (hb : Bs b N X) (hlen : b.length ≠ 0) : ∀ R : CV, (Pos (gr N X) b.length → R = .tup [.p (.agg [.sl (Ml (gr N X) b.length), .sl (Sl (gr N X) b.length)]), .p (.bool true)]) → (∀ i, i < b.length → Pos (gr N X) i → V (gr N X) i i i ≤ 0 → R = .tup [.p (.agg [.sl (Ml (gr N X) i), .sl (Sl (gr N X) i)]), .p (.bool false)]) → Pu rp 60 [.sl b] R := by
 intro R hR1 hR2
 refine aY rp143 ?_
 have hm := hb.m
 have hN := hb.n
 simp only [f60, aJ, SB, ak, aj, ↓reduceIte, reduceCtorEq, ai, ab, ah, ae, aa, af]
 refine aM (β := Nat × ar × CV × CV) (fun t => ([(0, .p (.sl b)), (2, .ptr 0 0 0), (4, .ptr 1 0 0), (5, i64 t.1)], t.2.1))
  (fun t => t.1 ≤ b.length ∧ Pos (gr N X) t.1 ∧ t.2.1[0]? = some (.kblk 2 [.nils, .nils]) ∧ t.2.1[1]? = some (.kblk 2 [t.2.2.1, t.2.2.2]) ∧ GL t.2.1 1 t.2.2.1 (Ml (gr N X) t.1) ∧ GL t.2.1 4 t.2.2.2 (Sl (gr N X) t.1)) (fun t => b.length - t.1)
  ((0, [.kblk 2 [.nils, .nils], .kblk 2 [.nils, .nils]], .nils, .nils) : Nat × ar × CV × CV) rfl rfl ⟨aD _, fun t ht => by omega, rfl, rfl, .nil, .nil⟩ ?_
 rintro ⟨i, σ, cM, cS⟩ ⟨hi, hpos, h0, h1, hM, hS⟩ ih
 simp only [] at hi hpos h0 h1 hM hS ih ⊢
 by_cases hin : (i : Int) < b.length
 ·have hib : i < b.length := by omega
  obtain ⟨ri, hri, hril, hrix⟩ := hb.row i hib
  simp only [SB, ak, aj, ↓reduceIte, reduceCtorEq, ai, ab, ah, ae, aa, af, hin]
  refine aM (β := Nat × ar × CV) (fun t => ([(0, .p (.sl b)), (2, .ptr 0 0 0), (4, .ptr 1 0 0), (5, i64 i), (6, t.2.2), (7, i64 t.1)], t.2.1))
   (fun t => t.1 ≤ i ∧ KI2 (gr N X) t.2.1 cM cS i t.1 t.2.2) (fun t => i - t.1) ((0, σ, .nils) : Nat × ar × CV) rfl rfl ⟨aD _, h0, h1, hM, hS, .nil, by rintro b o n b' o' n' h; cases h⟩ ?_
  rintro ⟨j, τ, c⟩ ⟨hj, hK⟩ ih2
  simp only [] at hj hK ih2 ⊢
  have l1 : 1 < τ.length := (aq.1 hK.g1).1
  have l0 : 0 < τ.length := (aq.1 hK.g0).1
  have e0 : ∀ l, (τ ++ l)[0]? = some (.kblk 2 [.nils, .nils]) := fun l => by rw [aL l0, hK.g0]
  have e1 : ∀ l, (τ ++ l)[1]? = some (.kblk 2 [cM, cS]) := fun l => by rw [aL l1, hK.g1]
  by_cases hji : (j : Int) < i
  ·have hji' : j < i := by omega
   have hjb : j < b.length := by omega
   obtain ⟨rj, hrj, hrjl, hrjx⟩ := hb.row j hjb
   have k171 := p171 hrix hrjx (by rw [hril, hrjl]) (by omega) (fun t ht => ⟨hb.sz i t hib (by omega), hb.sz j t hjb (by omega)⟩)
   rw [hril] at k171
   have k27 := p27 (Nu.zi ((js (x := X i) (y := X j) (n := N) (fun t ht => ⟨hb.sz i t hib (by omega), hb.sz j t hjb (by omega)⟩) hN).sz (by omega)))
   obtain ⟨bM, rfl, gM, lM⟩ := GL.jr hK.gM rB (by omega)
   obtain ⟨bS, rfl, gS, lS⟩ := GL.jr hK.gS kK (by omega)
   have eM : ∀ l, (τ ++ l)[bM]? = some (.prow 1 (Ml (gr N X) i)) := fun l => by rw [aL lM, gM]
   have eS : ∀ l, (τ ++ l)[bS]? = some (.prow 4 (Sl (gr N X) i)) := fun l => by rw [aL lS, gS]
   simp only [SB, ak, aj, ↓reduceIte, reduceCtorEq, ai, ab, ah, ae, aa, af, hji, hri, hrj, SN, kz2 k171, kp1 k27, bV, cN]
   refine aM (β := Nat) (fun k => ([(0, .p (.sl b)), (2, .ptr 0 0 0), (4, .ptr 1 0 0), (5, i64 i), (6, c), (7, i64 j), (8, .ptr τ.length 0 0), (9, i64 k)], τ ++ [.kblk 4 (cr (U (rg (gr N X)) k i j))]))
    (fun k => k ≤ j) (fun k => j - k) 0 rfl rfl (aD _) ?_
   rintro k hk ih3
   simp only [] at hk ih3 ⊢
   have hUr : RS (U (rg (gr N X)) k i j) := (tO hb (hpos.mono (by omega)) (by omega) hk hib hjb).rs (by omega)
   have hjM := uJ (g := gr N X) hji'
   have hjS := pr (g := gr N X) hji'
   by_cases hkj : (k : Int) < j
   ·have hkj' : k < j := by omega
    have hki' : k < i := by omega
    have hpk : Pos (gr N X) (k + 1) := hpos.mono (by omega)
    obtain ⟨bc, rfl, gc, lc⟩ := GL.jr hK.gc pn (by omega)
    have ec : ∀ l, (τ ++ l)[bc]? = some (.prow 4 (Ul (gr N X) i j)) := fun l => by rw [aL lc, gc]
    have s1 := pO hb hpk (show k ≤ j by omega) hjb
    have s2 := pO hb hpk (show k ≤ i by omega) hib
    have s3 := tO hb hpk.pred (av k) (av k) (show k < b.length by omega) (by omega)
    have q1 := p173 (s1.rs (by omega)) (s2.rs (by omega))
    have q2 := p173 ((s1.mul s2).rs (by omega)) (s3.rs (by omega))
    have q3 := p172 hUr (((s1.mul s2).mul s3).rs (by omega))
    rw [show U (rg (gr N X)) k k k = star (gr N X) k from rfl] at q2 q3
    rw [uH dY hpk, gH (x := U (rg (gr N X)) k i j)] at q3
    have d1 := po (g := gr N X) (i := j) hkj'
    have d2 := po (g := gr N X) (i := i) hkj'
    have d3 := pr (g := gr N X) hki'
    have w2 := wr1 (i := k) (by omega)
    simp only [SB, ak, aj, ↓reduceIte, reduceCtorEq, ai, ab, ah, ae, aa, af, hkj, e1, eM, eS, ec, bsz, cr, hkj', hki', hji', hjM, d1, d2, d3, fy, cN, kz2 q1, kz2 q2, kz2 q3, SN]
    rw [ez]
    refine ⟨by rfl, ?_⟩
    simp only [SB, ak, aj, ↓reduceIte, reduceCtorEq, ai, ab, ah, ae, aa, af, w2]
    refine ih3 (k + 1) _ (by omega) (by omega) ?_
    rfl
   ·obtain rfl : k = j := by omega
    have hpk : Pos (gr N X) (k + 1) := hpos.mono (by omega)
    have hst := jx dY hpk
    have s3 := tO hb hpk.pred (av k) (av k) (show k < b.length by omega) (by omega)
    have q4 := p174 hUr (s3.rs (by omega)) (by rw [show U (rg (gr N X)) k k k = star (gr N X) k from rfl]; grind)
    rw [show U (rg (gr N X)) k i k / U (rg (gr N X)) k k k = mu (gr N X) i k from rfl, show U (rg (gr N X)) k k k = star (gr N X) k from rfl, gH (x := U (rg (gr N X)) k i k)] at q4
    have w3 := wr1 (i := k) (by omega)
    have m5 : ((Ul (gr N X) i k).length + [rq (mu (gr N X) i k)].length) * 64 ≤ 140737488355328 := by rw [pn]; simp; omega
    have hUs : Ul (gr N X) i k ++ [rq (mu (gr N X) i k)] = Ul (gr N X) i (k + 1) := Av.symm
    obtain ⟨ρ, hρ⟩ : ∃ ρ, ρ = τ ++ [.kblk 4 (cr (U (rg (gr N X)) k i k))] := ⟨_, rfl⟩
    have hlρ : ρ.length = τ.length + 1 := by rw [hρ, bX]; rfl
    have hgc : GL ρ 4 c (Ul (gr N X) i k) := by rw [hρ]; exact hK.gc.left
    have r0 : ρ[0]? = some (.kblk 2 [.nils, .nils]) := by rw [hρ, e0]
    have r1 : ρ[1]? = some (.kblk 2 [.own bM 0 i, .own bS 0 i]) := by rw [hρ, e1]
    have q8 : ∀ l, (ρ ++ l)[τ.length]? = some (.kblk 4 (cr (U (rg (gr N X)) k i k))) := fun l => by rw [hρ, aP, cP]; rfl
    have q1 : ∀ l, (ρ ++ l)[1]? = some (.kblk 2 [.own bM 0 i, .own bS 0 i]) := fun l => by rw [aL (by omega), r1]
    have qS : ∀ l, (ρ ++ l)[bS]? = some (.prow 4 (Sl (gr N X) i)) := fun l => by rw [aL (by omega), hρ, eS]
    rw [← hρ]
    simp only [SB, ak, aj, ↓reduceIte, reduceCtorEq, ai, ab, ah, ae, aa, af, hkj, cr, q1, q8, qS, bsz, hji', hjS, fy, cN, kz2 q4, SN, bV, mo rfl hgc m5, pn, hUs, w3]
    refine ih2 (k + 1, nd ρ c ++ [.prow 4 [rq (mu (gr N X) i k)], .prow 4 (Ul (gr N X) i (k + 1))], .own (ρ.length + 1) 0 (k + 1)) _ ⟨by simp only []; omega, ?_⟩ (by simp only []; omega) ?_
    ·refine ⟨fO hgc r0, fO hgc r1, ?_, ?_, ?_, ?_⟩
     ·have h : GL ρ 1 (.own bM 0 i) (Ml (gr N X) i) := by rw [hρ]; exact hK.gM.left
      exact (GL.nd h (GL.pN h hgc (by decide))).left
     ·have h : GL ρ 4 (.own bS 0 i) (Sl (gr N X) i) := by rw [hρ]; exact hK.gS.left
      exact (GL.nd h (hZ.symm hK.ap)).left
     ·exact GL.nb pn.symm rfl
     ·rintro b1 o1 n1 b2 o2 n2 h1 h2
      cases h1; cases h2
      omega
    ·rfl
  ·obtain rfl : j = i := by omega
   have k171 := p171 hrix hrix rfl (by omega) (fun t ht => ⟨hb.sz j t hib (by omega), hb.sz j t hib (by omega)⟩)
   rw [hril] at k171
   have k27 := p27 (Nu.zi ((js (x := X j) (y := X j) (n := N) (fun t ht => ⟨hb.sz j t hib (by omega), hb.sz j t hib (by omega)⟩) hN).sz (by omega)))
   simp only [SB, ak, aj, ↓reduceIte, reduceCtorEq, ai, ab, ah, ae, aa, af, hji, hri, SN, kz2 k171, kp1 k27, bV, cN]
   refine aM (β := Nat) (fun k => ([(0, .p (.sl b)), (2, .ptr 0 0 0), (4, .ptr 1 0 0), (5, i64 j), (6, c), (10, .ptr τ.length 0 0), (11, i64 k)], τ ++ [.kblk 4 (cr (U (rg (gr N X)) k j j))]))
    (fun k => k ≤ j) (fun k => j - k) 0 rfl rfl (aD _) ?_
   rintro k hk ih3
   simp only [] at hk ih3 ⊢
   have hUr : RS (U (rg (gr N X)) k j j) := (tO hb (hpos.mono (by omega)) hk hk hib hib).rs (by omega)
   by_cases hkj : (k : Int) < j
   ·have hkj' : k < j := by omega
    have hpk : Pos (gr N X) (k + 1) := hpos.mono (by omega)
    obtain ⟨bc, rfl, gc, lc⟩ := GL.jr hK.gc pn (by omega)
    have ec : ∀ l, (τ ++ l)[bc]? = some (.prow 4 (Ul (gr N X) j j)) := fun l => by rw [aL lc, gc]
    obtain ⟨bS, rfl, gS, lS⟩ := GL.jr hK.gS kK (by omega)
    have eS : ∀ l, (τ ++ l)[bS]? = some (.prow 4 (Sl (gr N X) j)) := fun l => by rw [aL lS, gS]
    have s1 := pO hb hpk (show k ≤ j by omega) hib
    have s3 := tO hb hpk.pred (av k) (av k) (show k < b.length by omega) (by omega)
    have q1 := p175 (s1.rs (by omega))
    have q2 := p173 ((s1.mul s1).rs (by omega)) (s3.rs (by omega))
    have q3 := p172 hUr (((s1.mul s1).mul s3).rs (by omega))
    rw [show U (rg (gr N X)) k k k = star (gr N X) k from rfl] at q2 q3
    rw [uH dY hpk, gH (x := U (rg (gr N X)) k j j)] at q3
    have d1 := po (g := gr N X) (i := j) hkj'
    have d3 := pr (g := gr N X) hkj'
    have w2 := wr1 (i := k) (by omega)
    simp only [SB, ak, aj, ↓reduceIte, reduceCtorEq, ai, ab, ah, ae, aa, af, hkj, e1, eS, ec, bsz, cr, hkj', d1, d3, fy, cN, kz1 q1, kz2 q2, kz2 q3, SN]
    rw [ez]
    refine ⟨by rfl, ?_⟩
    simp only [SB, ak, aj, ↓reduceIte, reduceCtorEq, ai, ab, ah, ae, aa, af, w2]
    refine ih3 (k + 1) _ (by omega) (by omega) ?_
    rfl
   ·obtain rfl : k = j := by omega
    obtain ⟨ρ, hρ⟩ : ∃ ρ, ρ = τ ++ [.kblk 4 (cr (U (rg (gr N X)) k k k))] := ⟨_, rfl⟩
    have hlρ : ρ.length = τ.length + 1 := by rw [hρ, bX]; rfl
    have hgc : GL ρ 4 c (Ul (gr N X) k k) := by rw [hρ]; exact hK.gc.left
    have hgM : GL ρ 1 cM (Ml (gr N X) k) := by rw [hρ]; exact hK.gM.left
    have hgS : GL ρ 4 cS (Sl (gr N X) k) := by rw [hρ]; exact hK.gS.left
    have r0 : ρ[0]? = some (.kblk 2 [.nils, .nils]) := by rw [hρ, e0]
    have r1 : ρ[1]? = some (.kblk 2 [cM, cS]) := by rw [hρ, e1]
    have r8 : ρ[τ.length]? = some (.kblk 4 (cr (U (rg (gr N X)) k k k))) := by rw [hρ, cP]; rfl
    rw [← hρ]
    have k79 := p79 (mC (x := U (rg (gr N X)) k k k) (hUr.1.sz (by rw [eQ]; omega)))
    by_cases hs : (U (rg (gr N X)) k k k).num.sign ≤ 0
    ·have hVn := (za dY hpos).1 hs
     have s0 : ∀ x, (ρ.set 0 x)[0]? = some x := fun x => bt (by omega)
     have hfM : dD (ρ.set 0 (.kblk 2 [cM, cS])) cM = some (.sl (Ml (gr N X) k)) := GL.dD (hgM.iq (GL.nek hgM r0))
     have hfS : dD (ρ.set 0 (.kblk 2 [cM, cS])) cS = some (.sl (Sl (gr N X) k)) := GL.dD (hgS.iq (GL.nek hgS r0))
     have hR := hR2 k hib hpos hVn
     rcases hgM with ⟨h, hM0⟩ | ⟨bM, h, hbM⟩ <;> subst h <;> rcases hgS with ⟨h, hS0⟩ | ⟨bS, h, hbS⟩ <;> subst h
     all_goals
      simp only [SB, ak, aj, ↓reduceIte, reduceCtorEq, ai, ab, ah, ae, aa, af, hkj, cr, r0, r1, r8, kz1 k79, hs, s0]
      rw [hR]
      simp [back, j2, dL, frz, eU, hfM, hfS, oS] <;> simp only [hM0, hS0]
    ·have hVp : 0 < V (gr N X) k k k := by
      rcases Int.lt_or_le 0 (V (gr N X) k k k) with h | h
      ·exact h
      ·exact absurd ((za dY hpos).2 h) hs
     have hz1 : dE 1 [PV.sl (Ul (gr N X) k k)] = true := rfl
     have frl : eG ρ [c] = some [.sl (Ul (gr N X) k k)] := by simp only [eG, hgc.frz, aH]
     have kil : eC ρ [c] = nd ρ c := by simp only [eC, List.foldl_cons, List.foldl_nil, hgc.kill]
     have aMc : hZ cM c := GL.pN hgM hgc (by decide)
     have aSc : hZ cS c := hZ.symm hK.ap
     have hM2 : GL (nd ρ c) 1 cM (Ml (gr N X) k) := GL.nd hgM aMc
     have hS2 : GL (nd ρ c) 4 cS (Sl (gr N X) k) := GL.nd hgS aSc
     have m6 : ((Ml (gr N X) k).length + [PV.sl (Ul (gr N X) k k)].length) * 24 ≤ 140737488355328 := by rw [rB]; simp; omega
     have hMs : Ml (gr N X) k ++ [PV.sl (Ul (gr N X) k k)] = Ml (gr N X) (k + 1) := AA.symm
     have l2 : (nd ρ c).length = ρ.length := c7
     have l3 : (nd (nd ρ c) cM).length = ρ.length := by rw [c7, c7]
     have z1 : (nd ρ c)[1]? = some (.kblk 2 [cM, cS]) := by have := fO hgc r1 (τ := []); rwa [c8] at this
     have z0 : (nd ρ c)[0]? = some (.kblk 2 [.nils, .nils]) := by have := fO hgc r0 (τ := []); rwa [c8] at this
     have z8 : (nd ρ c)[τ.length]? = some (.kblk 4 (cr (U (rg (gr N X)) k k k))) := by have := fO hgc r8 (τ := []); rwa [c8] at this
     have y1 : ∀ l, (nd (nd ρ c) cM ++ l)[1]? = some (.kblk 2 [cM, cS]) := fun l => fO hM2 z1
     have y1s : ∀ l x, (nd (nd ρ c) cM ++ l).set 1 x = (nd (nd ρ c) cM).set 1 x ++ l := fun l x => cv (by rw [l3]; omega)
     simp only [S1, S2, S3, S4, S5, iK, gT, S6, S7, setCells, ak, aj, ↓reduceIte, reduceCtorEq, ai, ab, ah, ae, aa, af, hkj, cr, r0, r1, r8, kz1 k79, hs, frl, kil, hz1, ia hM2 m6, rB, hMs, y1, y1s, l2]
     obtain ⟨μ, hμ⟩ : ∃ μ, μ = (nd (nd ρ c) cM).set 1 (.kblk 2 [.own (ρ.length + 1) 0 (k + 1), cS]) ++ [.prow 1 [.sl (Ul (gr N X) k k)], .prow 1 (Ml (gr N X) (k + 1))] := ⟨_, rfl⟩
     have hl : ((nd (nd ρ c) cM).set 1 (.kblk 2 [.own (ρ.length + 1) 0 (k + 1), cS])).length = ρ.length := by rw [ay, l3]
     have x0 : (nd (nd ρ c) cM)[0]? = some (.kblk 2 [.nils, .nils]) := by have := fO hM2 z0 (τ := []); rwa [c8] at this
     have x8 : (nd (nd ρ c) cM)[τ.length]? = some (.kblk 4 (cr (U (rg (gr N X)) k k k))) := by have := fO hM2 z8 (τ := []); rwa [c8] at this
     have hS3 : GL (nd (nd ρ c) cM) 4 cS (Sl (gr N X) k) := GL.nd hS2 (GL.pN hS2 hM2 (by decide))
     have x1 : (nd (nd ρ c) cM)[1]? = some (.kblk 2 [cM, cS]) := by have := y1 []; rwa [c8] at this
     have u0 : μ[0]? = some (.kblk 2 [.nils, .nils]) := by rw [hμ, aL (by rw [hl]; omega), bC (by omega), x0]
     have u1 : μ[1]? = some (.kblk 2 [.own (ρ.length + 1) 0 (k + 1), cS]) := by rw [hμ, aL (by rw [hl]; omega), bt (by rw [l3]; omega)]
     have u8 : μ[τ.length]? = some (.kblk 4 (cr (U (rg (gr N X)) k k k))) := by rw [hμ, aL (by rw [hl]; omega), bC (by omega), x8]
     have uM : GL μ 1 (.own (ρ.length + 1) 0 (k + 1)) (Ml (gr N X) (k + 1)) := by
      refine .own ?_ rB.symm
      rw [hμ, aC (by rw [hl]; omega), hl, gE]; rfl
     have uS : GL μ 4 cS (Sl (gr N X) k) := by rw [hμ]; exact (hS3.iq (GL.nek hS3 x1)).left
     rw [← hμ]
     have lμ : 1 < μ.length := (aq.1 u1).1
     have m7 : ((Sl (gr N X) k).length + [rq (star (gr N X) k)].length) * 64 ≤ 140737488355328 := by rw [kK]; simp; omega
     have hSs : Sl (gr N X) k ++ [rq (star (gr N X) k)] = Sl (gr N X) (k + 1) := Ax.symm
     have hA := fun {rp rs base d l dr ks e Q s x} => ia (rp := rp) (rs := rs) (base := base) (d := d) (l := l) (dr := dr) (ks := ks) (e := e) (Q := Q) (s := s) (x := x) uS m7
     simp only [star, gH (x := U (rg (gr N X)) k k k)] at hA hSs
     have v1 : ∀ l, (nd μ cS ++ l)[1]? = some (.kblk 2 [.own (ρ.length + 1) 0 (k + 1), cS]) := fun l => fO uS u1
     have v1s : ∀ l x, (nd μ cS ++ l).set 1 x = (nd μ cS).set 1 x ++ l := fun l x => cv (by rw [c7]; omega)
     have w1 := wr1 (i := k) (by omega)
     simp only [SB, ak, aj, ↓reduceIte, reduceCtorEq, ai, ab, ah, ae, aa, af, u1, u8, cr, hA, hSs, kK, v1, v1s, w1]
     refine ih (k + 1, (nd μ cS).set 1 (.kblk 2 [.own (ρ.length + 1) 0 (k + 1), .own (μ.length + 1) 0 (k + 1)]) ++ [.prow 4 [rq (star (gr N X) k)], .prow 4 (Sl (gr N X) (k + 1))], .own (ρ.length + 1) 0 (k + 1), .own (μ.length + 1) 0 (k + 1)) _
      ⟨by simp only []; omega, ?_, ?_, ?_, ?_, ?_⟩ (by simp only []; omega) ?_
     ·intro t ht
      rcases ax t k with h | h
      ·exact hpos t h
      ·obtain rfl : t = k := by simp only [] at ht; omega
       exact hVp
     ·simp only []
      have := fO uS u0 (τ := [])
      rw [c8] at this
      rw [aL (by rw [ay, c7]; omega), bC (by omega), this]
     ·simp only []
      rw [aL (by rw [ay, c7]; omega), bt (by rw [c7]; omega)]
     ·simp only []
      have h := GL.nd uM (GL.pN uM uS (by decide))
      have h1' : (nd μ cS)[1]? = some (.kblk 2 [.own (ρ.length + 1) 0 (k + 1), cS]) := by have := v1 []; rwa [c8] at this
      exact (h.iq (GL.nek h h1')).left
     ·simp only []
      refine .own ?_ kK.symm
      rw [aC (by rw [ay, c7]; omega), ay, c7, gE]; rfl
     ·rfl
 ·obtain rfl : i = b.length := by omega
  have s0 : ∀ x, (σ.set 0 x)[0]? = some x := fun x => bt (aq.1 h0).1
  have hfM : dD (σ.set 0 (.kblk 2 [cM, cS])) cM = some (.sl (Ml (gr N X) b.length)) := GL.dD (hM.iq (GL.nek hM h0))
  have hfS : dD (σ.set 0 (.kblk 2 [cM, cS])) cS = some (.sl (Sl (gr N X) b.length)) := GL.dD (hS.iq (GL.nek hS h0))
  have hR := hR1 hpos
  rcases hM with ⟨h, hM0⟩ | ⟨bM, h, hbM⟩ <;> subst h <;> rcases hS with ⟨h, hS0⟩ | ⟨bS, h, hbS⟩ <;> subst h
  all_goals
   simp only [SB, ak, aj, ↓reduceIte, reduceCtorEq, ai, ab, ah, ae, aa, af, hin, h0, h1, s0]
   rw [hR]
   simp [back, j2, dL, frz, eU, hfM, hfS, oS] <;> simp only [hM0, hS0]
theorem BY (hb : Bs b N X) (hlen : b.length ≠ 0) (hp : Pos (gr N X) b.length) : Pu rp 60 [.sl b] (.tup [.p (.agg [.sl (Ml (gr N X) b.length), .sl (Sl (gr N X) b.length)]), .p (.bool true)]) :=
 A1 hb hlen _ (fun _ => rfl) fun i hi _ hV => absurd (hp i hi) (by omega)
theorem p143 (hb : Bs b N X) (hlen : b.length ≠ 0) : ∃ (G1 G2 : List PV) (ok : Bool), (ok = true ↔ Pos (gr N X) b.length) ∧ Pu rp 60 [.sl b] (.tup [.p (.agg [.sl G1, .sl G2]), .p (.bool ok)]) := by
 have key := A1 hb hlen
 by_cases hp : Pos (gr N X) b.length
 ·exact ⟨_, _, true, ⟨fun _ => hp, fun _ => rfl⟩, key _ (fun _ => rfl) fun i hi _ hV => absurd (hp i hi) (by omega)⟩
 ·-- the first pivot that is not above nought
  have hex : ∃ i, i < b.length ∧ Pos (gr N X) i ∧ V (gr N X) i i i ≤ 0 := by
   refine cq fun hno => hp ?_
   have all : ∀ i, i ≤ b.length → Pos (gr N X) i := by
    intro i
    induction i with
    | zero => intro _ t ht; omega
    | succ i ih =>
      intro hi t ht
      rcases ax t i with h | h
      ·exact ih (by omega) t h
      ·obtain rfl : t = i := by omega
       exact Int.not_le.1 fun hle => hno ⟨t, by omega, ih (by omega), hle⟩
   exact all _ (av _)
  obtain ⟨i0, h1, h2, h3⟩ := hex
  refine ⟨Ml (gr N X) i0, Sl (gr N X) i0, false, ⟨(fun h => absurd h (by decide)), fun h => absurd h hp⟩, key _ (fun h => absurd h hp) fun i hi hpi hV => ?_⟩
  have : i = i0 := by
   rcases Nat.lt_trichotomy i i0 with h | h | h
   ·have := h2 i h; omega
   ·exact h
   ·have := hpi i0 h; omega
  rw [this]
theorem rp110 : rp 22 = some f22 := rfl
theorem rp61 : rp 7 = some f7 := rfl
theorem xT {n : Nat → Nat} (hb : MR b n X) (hlb : b.length ≤ 2000000) (hv : vE n X b.length = 0) : Pu rp 22 [.sl b, .bool true] (.tup [.p (.agg [.sl (Ml (gr (n 0) X) b.length), .sl (Sl (gr (n 0) X) b.length)]), .p (.int .i64 0)]) := by
 have k142 := p142 hb hlb
 have he : shE n X b.length = 0 := by
  refine cq fun h => ?_
  rw [vE, if_pos h] at hv
  exact h hv
 have hp : Pos (gr (n 0) X) b.length := by
  refine cq fun h => ?_
  rw [vE, if_neg (by simp [he]), if_neg h] at hv
  cases hv
 obtain ⟨-, h0, -⟩ := mb he
 have k143 := BY (hb.bs he) h0 hp
 have e0 : (shE n X b.length != 0) = false := by rw [he]; rfl
 refine aY rp110 ?_
 simp only [f22, aJ, SB, ak, aj, ↓reduceIte, reduceCtorEq, ai, ab, ah, ae, aa, af, kp2 k142, e0, kp1 k143, unV, Bool.not_true]
 rfl
theorem p61 {n : Nat → Nat} (hb : MR b n X) (hlb : b.length ≤ 2000000) : Pu rp 7 [.sl b] (.p (.int .i64 (vE n X b.length))) := by
 have k142 := p142 hb hlb
 have key : ∃ g1 g2, Pu rp 22 [.sl b, .bool true] (.tup [.p (.agg [g1, g2]), .p (.int .i64 (vE n X b.length))]) := by
  by_cases he : shE n X b.length = 0
  ·have hbs := hb.bs he
   obtain ⟨-, h0, -⟩ := mb he
   obtain ⟨G1, G2, ok, hok, k143⟩ := p143 hbs h0
   have e0 : (shE n X b.length != 0) = false := by rw [he]; rfl
   cases ok with
   | true =>
     refine ⟨.sl G1, .sl G2, aY rp110 ?_⟩
     rw [vE, if_neg (by simp [he]), if_pos (hok.1 rfl)]
     simp only [f22, aJ, SB, ak, aj, ↓reduceIte, reduceCtorEq, ai, ab, ah, ae, aa, af, kp2 k142, e0, kp1 k143, unV, Bool.not_true]
     rfl
   | false =>
     refine ⟨.sl [], .sl [], aY rp110 ?_⟩
     rw [vE, if_neg (by simp [he]), if_neg (fun h => by have := hok.2 h; cases this)]
     simp only [f22, aJ, SB, ak, aj, ↓reduceIte, reduceCtorEq, ai, ab, ah, ae, aa, af, kp2 k142, e0, kp1 k143, unV, Bool.not_false]
     rfl
  ·have e0 : (shE n X b.length != 0) = true := by simp [he]
   refine ⟨.sl [], .sl [], aY rp110 ?_⟩
   rw [vE, if_pos he]
   simp only [f22, aJ, SB, ak, aj, ↓reduceIte, reduceCtorEq, ai, ab, ah, ae, aa, af, kp2 k142, e0]
   rfl
 obtain ⟨g1, g2, k110⟩ := key
 refine aY rp61 ?_
 simp only [f7, aJ, SB, ak, aj, ↓reduceIte, reduceCtorEq, ai, ab, ah, ae, aa, af, kp2 k110]
 rfl
end
end Go.Proofs.YtdieenbfdeaffabGreat.VBn

