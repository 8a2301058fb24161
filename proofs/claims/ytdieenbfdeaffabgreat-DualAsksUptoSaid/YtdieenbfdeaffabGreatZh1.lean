/- Hermite's form of a lattice is one: plain facts, no program in sight; Rows of whole numbers: what steps on rows do to a lattice, and what a form that grows column by column keeps. Plain facts, no program in sight; A column made nought by its least entry: what stays, and how great the entries grow. Plain facts, no program in sight. No condition. -/
import Derived.Test.YtdieenbfdeaffabGreatZa1
set_option linter.unusedSimpArgs false
set_option linter.unusedVariables false
open Int renaming mul_le_mul_of_nonneg_right → dt, le_refl → dN
open List renaming getElem?_eq_some_iff → aq, getElem?_set_ne → aE, mem_append → aF, getElem?_eq_none → aG, getD_eq_getElem?_getD → aK, getElem?_take → aN, getElem?_set_self → aO, length_take → aS, mem_of_getElem? → bf, getElem?_map → cd, mem_cons_self → dj, mem_cons_of_mem → dK, zipWith → ek, cons_append → fk
open Nat renaming le_refl → av, lt_or_ge → ax, mul_le_mul_right → az, zero_le → aD, mul_comm → a7, add_mul → a8, le_trans → a9, mul_le_mul_left → bH, pow_succ → bJ, lt_succ_self → bO, mul_assoc → bW, mul_add → ck
open Option renaming map_eq_some_iff → au
namespace Go.Proofs.YtdieenbfdeaffabGreat.Hn
abbrev Vec := Nat → Int
inductive Sp (M : List Vec) : Vec → Prop
 | zero : Sp M fun _ => 0
 | add {v r : Vec} (c : Int) (hr : r ∈ M) (h : Sp M v) : Sp M fun j => v j + c * r j
theorem Sp.cast {M : List Vec} {v w : Vec} (h : Sp M v) (e : ∀ j, v j = w j) : Sp M w := by
 have : v = w := funext e
 rw [← this]; exact h
theorem Sp.sum {M : List Vec} {v w : Vec} (hv : Sp M v) (hw : Sp M w) : Sp M fun j => v j + w j := by
 induction hw with
 | zero => exact hv.cast fun j => by dsimp only; omega
 | add c hr _ ih => exact (Sp.add c hr ih).cast fun j => by dsimp only; omega
theorem Sp.smul {M : List Vec} {v : Vec} (k : Int) (hv : Sp M v) : Sp M fun j => k * v j := by
 induction hv with
 | zero => exact Sp.zero.cast fun j => by simp
 | @add v r c hr _ ih => exact (Sp.add (k * c) hr ih).cast fun j => by dsimp only; rw [Int.mul_add, Int.mul_assoc]
theorem Sp.row {M : List Vec} {r : Vec} (h : r ∈ M) : Sp M r := (Sp.add 1 h Sp.zero).cast fun j => by omega
theorem Sp.mono {M N : List Vec} (h : ∀ r ∈ M, Sp N r) {v : Vec} (hv : Sp M v) : Sp N v := by
 induction hv with
 | zero => exact .zero
 | add c hr _ ih => exact ih.sum ((h _ hr).smul c)
theorem Sp.cons {r : Vec} {M : List Vec} {v : Vec} (h : Sp (r :: M) v) : ∃ c w, Sp M w ∧ ∀ j, v j = c * r j + w j := by
 induction h with
 | zero => exact ⟨0, _, .zero, fun j => by simp⟩
 | @add v s k hs _ ih =>
   obtain ⟨c, w, hw, he⟩ := ih
   rcases List.mem_cons.1 hs with rfl | hs
   ·exact ⟨c + k, w, hw, fun j => by dsimp only; rw [he, Int.add_mul]; omega⟩
   ·exact ⟨c, _, .add k hs hw, fun j => by dsimp only; rw [he]; omega⟩
theorem Sp.zeroAt {M : List Vec} {j : Nat} (h : ∀ r ∈ M, r j = 0) {v : Vec} (hv : Sp M v) : v j = 0 := by
 induction hv with
 | zero => rfl
 | add c hr _ ih => simp only [ih, h _ hr]; omega
def Ech : Nat → List Vec → Prop
 | _, [] => True
 | c, r :: M => ∃ p, c ≤ p ∧ 0 < r p ∧ (∀ j, j < p → r j = 0) ∧ Ech (p + 1) M
theorem Ech.low : ∀ {M : List Vec} {c j : Nat}, Ech c M → j < c → ∀ r ∈ M, r j = 0
 | [], _, _, _, _, r, hr => by cases hr
 | s :: M, c, j, h, hj, r, hr => by
   obtain ⟨p, h1, h2, h3, h4⟩ := h
   rcases List.mem_cons.1 hr with rfl | hr
   ·exact h3 j (by omega)
   ·exact Ech.low h4 (by omega) r hr
def Red (r : Vec) : List Vec → Prop
 | [] => True
 | s :: M => (∀ p, 0 < s p → (∀ j, j < p → s j = 0) → 0 ≤ r p ∧ r p < s p) ∧ Red r M
def Hnf : Nat → List Vec → Prop
 | _, [] => True
 | c, r :: M => (∃ p, c ≤ p ∧ 0 < r p ∧ (∀ j, j < p → r j = 0) ∧ Hnf (p + 1) M) ∧ Red r M
theorem Hnf.ech : ∀ {M : List Vec} {c : Nat}, Hnf c M → Ech c M
 | [], _, _ => trivial
 | r :: M, c, ⟨⟨p, h1, h2, h3, h4⟩, _⟩ => ⟨p, h1, h2, h3, h4.ech⟩
theorem oh : ∀ {M : List Vec} {c : Nat} {v : Vec}, Ech c M → Sp M v →
 (∀ s ∈ M, ∀ p, 0 < s p → (∀ j, j < p → s j = 0) → -s p < v p ∧ v p < s p) → ∀ j, v j = 0
 | [], c, v, _, hv, _, j => Sp.zeroAt (fun r hr => by cases hr) hv
 | r :: M, c, v, h, hv, hs, j => by
   obtain ⟨p, h1, h2, h3, h4⟩ := h
   obtain ⟨k, w, hw, he⟩ := hv.cons
   have hwp : w p = 0 := Sp.zeroAt (fun s hs => h4.low (bO p) s hs) hw
   have hb := hs r (dj ..) p h2 h3
   have hk : k = 0 := by
    have e := he p
    rw [hwp, Int.add_zero] at e
    rw [e] at hb
    rcases Int.lt_trichotomy k 0 with hk | hk | hk
    ·exfalso
     have : k * r p ≤ -1 * r p := dt (by omega) (by omega)
     omega
    ·exact hk
    ·exfalso
     have : 1 * r p ≤ k * r p := dt (by omega) (by omega)
     omega
   have hvw : ∀ j, v j = w j := fun j => by rw [he, hk]; omega
   rw [hvw]
   exact oh h4 hw (fun s hs' q hq hq' => by rw [← hvw]; exact hs s (dK _ hs') q hq hq') j
theorem Red.at : ∀ {M : List Vec} {r : Vec}, Red r M → ∀ s ∈ M, ∀ p, 0 < s p → (∀ j, j < p → s j = 0) → 0 ≤ r p ∧ r p < s p
 | [], _, _, s, hs => by cases hs
 | t :: M, r, h, s, hs => by
   rcases List.mem_cons.1 hs with rfl | hs
   ·exact h.1
   ·exact Red.at h.2 s hs
theorem unique : ∀ {M N : List Vec} {c d : Nat}, Hnf c M → Hnf d N → (∀ v, Sp M v ↔ Sp N v) → M = N
 | [], [], _, _, _, _, _ => rfl
 | [], s :: N, c, d, _, hN, h => by
   obtain ⟨⟨p, h1, h2, h3, h4⟩, h5⟩ := hN
   have := Sp.zeroAt (j := p) (M := []) (fun r hr => by cases hr) ((h s).2 (.row (dj ..)))
   omega
 | r :: M, [], c, d, hM, _, h => by
   obtain ⟨⟨p, h1, h2, h3, h4⟩, h5⟩ := hM
   have := Sp.zeroAt (j := p) (M := []) (fun r hr => by cases hr) ((h r).1 (.row (dj ..)))
   omega
 | r :: M, s :: N, c, d, hM, hN, h => by
   obtain ⟨⟨p, h1, h2, h3, h4⟩, h5⟩ := hM
   obtain ⟨⟨q, g1, g2, g3, g4⟩, g5⟩ := hN
   have e1 := h4.ech
   have e2 := g4.ech
   obtain ⟨k, w, hw, he⟩ := ((h r).1 (.row (dj ..))).cons
   obtain ⟨l, u, hu, hf⟩ := ((h s).2 (.row (dj ..))).cons
   have hpq : p = q := by
    rcases Nat.lt_trichotomy p q with hlt | heq | hlt
    ·exfalso
     have a := he p
     rw [g3 p hlt, Sp.zeroAt (fun t ht => e2.low (by omega) t ht) hw] at a
     omega
    ·exact heq
    ·exfalso
     have a := hf q
     rw [h3 q hlt, Sp.zeroAt (fun t ht => e1.low (by omega) t ht) hu] at a
     omega
   subst hpq
   have wp : w p = 0 := Sp.zeroAt (fun t ht => e2.low (bO p) t ht) hw
   have up : u p = 0 := Sp.zeroAt (fun t ht => e1.low (bO p) t ht) hu
   have hk : k = 1 := by
    have a := he p
    have b := hf p
    rw [wp, Int.add_zero] at a
    rw [up, Int.add_zero] at b
    have hk0 : 0 < k := by
     rcases Int.lt_or_le 0 k with h0 | h0
     ·exact h0
     ·exfalso
      have : k * s p ≤ 0 := Int.mul_nonpos_of_nonpos_of_nonneg h0 (by omega)
      omega
    have hl0 : 0 < l := by
     rcases Int.lt_or_le 0 l with h0 | h0
     ·exact h0
     ·exfalso
      have : l * r p ≤ 0 := Int.mul_nonpos_of_nonpos_of_nonneg h0 (by omega)
      omega
    have c1 : s p ≤ r p := by
     rw [a]
     have : 1 * s p ≤ k * s p := dt (by omega) (by omega)
     omega
    have c2 : r p ≤ s p := by
     rw [b]
     have : 1 * r p ≤ l * r p := dt (by omega) (by omega)
     omega
    rcases Int.lt_trichotomy k 1 with h1' | h1' | h1'
    ·omega
    ·exact h1'
    ·exfalso
     have : 2 * s p ≤ k * s p := dt (by omega) (by omega)
     omega
   have tail : ∀ v, Sp M v ↔ Sp N v := by
    intro v
    constructor
    ·intro hv
     obtain ⟨m, x, hx, hxe⟩ := ((h v).1 (hv.mono fun t ht => .row (dK _ ht))).cons
     have vp : v p = 0 := Sp.zeroAt (fun t ht => e1.low (bO p) t ht) hv
     have xp : x p = 0 := Sp.zeroAt (fun t ht => e2.low (bO p) t ht) hx
     have a := hxe p
     rw [vp, xp, Int.add_zero] at a
     have hm : m = 0 := by
      rcases Int.mul_eq_zero.1 a.symm with h0 | h0
      ·exact h0
      ·omega
     exact hx.cast fun j => by rw [hxe, hm]; omega
    ·intro hv
     obtain ⟨m, x, hx, hxe⟩ := ((h v).2 (hv.mono fun t ht => .row (dK _ ht))).cons
     have vp : v p = 0 := Sp.zeroAt (fun t ht => e2.low (bO p) t ht) hv
     have xp : x p = 0 := Sp.zeroAt (fun t ht => e1.low (bO p) t ht) hx
     have a := hxe p
     rw [vp, xp, Int.add_zero] at a
     have hm : m = 0 := by
      rcases Int.mul_eq_zero.1 a.symm with h0 | h0
      ·exact h0
      ·omega
     exact hx.cast fun j => by rw [hxe, hm]; omega
   have hMN : M = N := unique h4 g4 tail
   subst hMN
   have hrs : r = s := by
    funext j
    have z := oh (v := fun j => r j - s j) e1 (hw.cast fun j => by rw [he, hk]; omega) (fun t ht q hq hq' => by
     have a := Red.at h5 t ht q hq hq'
     have b := Red.at g5 t ht q hq hq'
     omega) j
    omega
   rw [hrs]
def vec (r : List Int) : Vec := fun j => r.getD j 0
def vm (M : List (List Int)) : List Vec := M.map vec
def Wd (w : Nat) (M : List (List Int)) : Prop := ∀ (i : Nat) (r : List Int), M[i]? = some r → r.length = w
def SpE (M N : List (List Int)) : Prop := ∀ v, Sp (vm M) v ↔ Sp (vm N) v
theorem SpE.refl {M : List (List Int)} : SpE M M := fun _ => Iff.rfl
theorem SpE.trans {M N L : List (List Int)} (h : SpE M N) (k : SpE N L) : SpE M L := fun v => (h v).trans (k v)
theorem SpE.symm {M N : List (List Int)} (h : SpE M N) : SpE N M := fun v => (h v).symm
theorem Bw {r s : List Int} (hl : r.length = s.length) (h : vec r = vec s) : r = s := by
 apply List.ext_getElem hl
 intro i h1 h2
 have := congrFun h i
 simpa [vec, aK, h1, h2] using this
theorem AK : ∀ {w : Nat} {M N : List (List Int)}, Wd w M → Wd w N → vm M = vm N → M = N
 | w, [], [], _, _, _ => rfl
 | w, [], s :: N, _, _, h => by simp [vm] at h
 | w, r :: M, [], _, _, h => by simp [vm] at h
 | w, r :: M, s :: N, hM, hN, h => by
   simp only [vm, List.map_cons, List.cons.injEq] at h
   have h1 : r = s := Bw ((hM 0 r rfl).trans (hN 0 s rfl).symm) h.1
   have h2 : M = N := AK (w := w) (fun i x hx => hM (i + 1) x hx) (fun i x hx => hN (i + 1) x hx) h.2
   rw [h1, h2]
theorem fG {M : List (List Int)} {v : Vec} : v ∈ vm M ↔ ∃ (j : Nat) (r : List Int), M[j]? = some r ∧ v = vec r := by
 unfold vm
 rw [List.mem_map]
 constructor
 ·rintro ⟨r, hr, rfl⟩
  obtain ⟨j, hj⟩ := List.getElem?_of_mem hr
  exact ⟨j, r, hj, rfl⟩
 ·rintro ⟨j, r, hj, rfl⟩
  exact ⟨r, bf hj, rfl⟩
theorem e8 {M : List (List Int)} {j : Nat} {r : List Int} (h : M[j]? = some r) : Sp (vm M) (vec r) := .row (fG.2 ⟨j, r, h, rfl⟩)
theorem cZ {M : List (List Int)} {i : Nat} (h : i < M.length) : M[i]? = some (M.getD i []) := by simp [aK, h]
def fm (M : List (List Int)) (i k : Nat) (q : Int) : List (List Int) := M.set i (ek (·+ ·) (M.getD i []) ((M.getD k []).map (q * ·)))
def swR (M : List (List Int)) (i k : Nat) : List (List Int) := (M.set i (M.getD k [])).set k (M.getD i [])
def tuR (M : List (List Int)) (i : Nat) : List (List Int) := M.set i ((M.getD i []).map (-1 * ·))
theorem uR {a b : List Int} {q : Int} (h : a.length = b.length) : vec (ek (·+ ·) a (b.map (q * ·))) = fun j => vec a j + q * vec b j := by
 funext j
 simp only [vec, aK, List.getElem?_zipWith, cd]
 rcases ax j a.length with hj | hj
 ·have hb : j < b.length := by omega
  simp [hj, hb]
 ·have hb : b.length ≤ j := by omega
  simp [hj, hb]
theorem uQ {a : List Int} : vec (a.map (-1 * ·)) = fun j => -1 * vec a j := by
 funext j
 simp only [vec, aK, cd]
 rcases ax j a.length with hj | hj <;> simp [hj]
theorem kJ {M : List (List Int)} {i k : Nat} {q : Int} : (fm M i k q).length = M.length := by simp [fm]
theorem qx {M : List (List Int)} {i k : Nat} : (swR M i k).length = M.length := by simp [swR]
theorem qt {M : List (List Int)} {i : Nat} : (tuR M i).length = M.length := by simp [tuR]
theorem n0 {M : List (List Int)} {i k : Nat} {q : Int} (hi : i < M.length) : (fm M i k q)[i]? = some (ek (·+ ·) (M.getD i []) ((M.getD k []).map (q * ·))) := by
 unfold fm; rw [aO hi]
theorem iV {M : List (List Int)} {i k j : Nat} {q : Int} (h : j ≠ i) : (fm M i k q)[j]? = M[j]? := by
 unfold fm; rw [aE (Ne.symm h)]
theorem qu {M : List (List Int)} {i : Nat} (hi : i < M.length) : (tuR M i)[i]? = some ((M.getD i []).map (-1 * ·)) := by
 unfold tuR; rw [aO hi]
theorem oc {M : List (List Int)} {i j : Nat} (h : j ≠ i) : (tuR M i)[j]? = M[j]? := by
 unfold tuR; rw [aE (Ne.symm h)]
theorem l7 {M : List (List Int)} {i k : Nat} (hi : i < M.length) (hk : k < M.length) : (swR M i k)[k]? = M[i]? := by
 unfold swR; rw [aO (by simpa using hk), cZ hi]
theorem nM {M : List (List Int)} {i k : Nat} (hi : i < M.length) (hk : k < M.length) : (swR M i k)[i]? = M[k]? := by
 by_cases h : k = i
 ·subst h; exact l7 hi hi
 ·unfold swR; rw [aE h, aO hi, cZ hk]
theorem od {M : List (List Int)} {i k j : Nat} (h1 : j ≠ i) (h2 : j ≠ k) : (swR M i k)[j]? = M[j]? := by
 unfold swR; rw [aE (Ne.symm h2), aE (Ne.symm h1)]
theorem vP {w : Nat} {M : List (List Int)} {i k : Nat} {q : Int} (h : Wd w M) (hi : i < M.length) (hk : k < M.length) : Wd w (fm M i k q) := by
 intro j r hr
 by_cases hj : j = i
 ·subst hj
  rw [n0 hi] at hr
  cases hr
  rw [List.length_zipWith, List.length_map, h _ _ (cZ hi), h _ _ (cZ hk), Nat.min_self]
 ·rw [iV hj] at hr; exact h j r hr
theorem BA {w : Nat} {M : List (List Int)} {i : Nat} (h : Wd w M) (hi : i < M.length) : Wd w (tuR M i) := by
 intro j r hr
 by_cases hj : j = i
 ·subst hj
  rw [qu hi] at hr
  cases hr
  rw [List.length_map, h _ _ (cZ hi)]
 ·rw [oc hj] at hr; exact h j r hr
theorem BF {w : Nat} {M : List (List Int)} {i k : Nat} (h : Wd w M) (hi : i < M.length) (hk : k < M.length) : Wd w (swR M i k) := by
 intro j r hr
 by_cases hj : j = k
 ·subst hj; rw [l7 hi hk] at hr; exact h i r hr
 ·by_cases hj2 : j = i
  ·subst hj2; rw [nM hi hk] at hr; exact h k r hr
  ·rw [od hj2 hj] at hr; exact h j r hr
theorem vQ {w : Nat} {M : List (List Int)} {i k : Nat} {q : Int} (h : Wd w M) (hi : i < M.length) (hk : k < M.length) (hne : i ≠ k) : SpE M (fm M i k q) := by
 have hl : (M.getD i []).length = (M.getD k []).length := by rw [h _ _ (cZ hi), h _ _ (cZ hk)]
 have hv := uR (q := q) hl
 intro v
 constructor
 ·refine Sp.mono fun r hr => ?_
  obtain ⟨j, s, hj, rfl⟩ := fG.1 hr
  by_cases hji : j = i
  ·subst hji
   have e : M.getD j [] = s := by rw [cZ hi] at hj; exact Option.some.inj hj
   have h1 := e8 (n0 (k := k) (q := q) hi)
   have h2 := e8 (M := fm M j k q) (j := k) ((iV (Ne.symm hne)).trans (cZ hk))
   rw [hv, e] at h1
   exact (h1.sum (h2.smul (-q))).cast fun x => by rw [Int.neg_mul]; omega
  ·exact e8 ((iV hji).trans hj)
 ·refine Sp.mono fun r hr => ?_
  obtain ⟨j, s, hj, rfl⟩ := fG.1 hr
  by_cases hji : j = i
  ·subst hji
   rw [n0 hi] at hj
   cases hj
   rw [hv]
   exact (e8 (cZ hi)).sum ((e8 (cZ hk)).smul q)
  ·rw [iV hji] at hj
   exact e8 hj
theorem BB {w : Nat} {M : List (List Int)} {i : Nat} (h : Wd w M) (hi : i < M.length) : SpE M (tuR M i) := by
 have hv := uQ (a := M.getD i [])
 intro v
 constructor
 ·refine Sp.mono fun r hr => ?_
  obtain ⟨j, s, hj, rfl⟩ := fG.1 hr
  by_cases hji : j = i
  ·subst hji
   have e : M.getD j [] = s := by rw [cZ hi] at hj; exact Option.some.inj hj
   have h1 := e8 (qu hi)
   rw [hv, e] at h1
   exact (h1.smul (-1)).cast fun x => by omega
  ·exact e8 ((oc hji).trans hj)
 ·refine Sp.mono fun r hr => ?_
  obtain ⟨j, s, hj, rfl⟩ := fG.1 hr
  by_cases hji : j = i
  ·subst hji
   rw [qu hi] at hj
   cases hj
   rw [hv]
   exact (e8 (cZ hi)).smul (-1)
  ·rw [oc hji] at hj
   exact e8 hj
theorem BG {M : List (List Int)} {i k : Nat} (hi : i < M.length) (hk : k < M.length) : SpE M (swR M i k) := by
 intro v
 constructor
 ·refine Sp.mono fun r hr => ?_
  obtain ⟨j, s, hj, rfl⟩ := fG.1 hr
  by_cases h1 : j = i
  ·subst h1; exact e8 ((l7 hi hk).trans hj)
  ·by_cases h2 : j = k
   ·subst h2; exact e8 ((nM hi hk).trans hj)
   ·exact e8 ((od h1 h2).trans hj)
 ·refine Sp.mono fun r hr => ?_
  obtain ⟨j, s, hj, rfl⟩ := fG.1 hr
  by_cases h2 : j = k
  ·subst h2; rw [l7 hi hk] at hj; exact e8 hj
  ·by_cases h1 : j = i
   ·subst h1; rw [nM hi hk] at hj; exact e8 hj
   ·rw [od h1 h2] at hj; exact e8 hj
theorem behind : ∀ {A D : List Vec} {m c : Nat} {v : Vec}, Ech c A → (∀ a ∈ A, ∀ p, 0 < a p → (∀ j, j < p → a j = 0) → p < m) → (∀ d ∈ D, ∀ j, j < m → d j = 0) → (∀ j, j < m → v j = 0) → Sp (A ++ D) v → Sp D v
 | [], D, m, c, v, _, _, _, _, hv => by simpa using hv
 | a :: A, D, m, c, v, hE, hH, hD, h0, hv => by
   obtain ⟨p, h1, h2, h3, h4⟩ := hE
   have hp := hH a (dj ..) p h2 h3
   rw [fk] at hv
   obtain ⟨k, w, hw, he⟩ := hv.cons
   have hwp : w p = 0 := Sp.zeroAt (fun s hs => by
    rcases aF.1 hs with hs | hs
    ·exact h4.low (bO p) s hs
    ·exact hD s hs p hp) hw
   have hk : k = 0 := by
    have e := he p
    rw [h0 p hp, hwp, Int.add_zero] at e
    rcases Int.mul_eq_zero.1 e.symm with h | h
    ·exact h
    ·omega
   have hvw : ∀ j, w j = v j := fun j => by rw [he, hk]; omega
   exact (behind h4 (fun a ha => hH a (dK _ ha)) hD (fun j hj => by rw [hvw]; exact h0 j hj) hw).cast hvw
def shR (m : Nat) (v : Vec) : Vec := fun j => if j < m then 0 else v (j - m)
theorem oy {r : Vec} : ∀ {A B : List Vec}, Red r (A ++ B) ↔ Red r A ∧ Red r B
 | [], B => by simp [Red]
 | a :: A, B => by simp only [fk, Red, oy (A := A)]; exact and_assoc.symm
theorem Hnf.snoc : ∀ {A : List Vec} {c d : Nat} {s : Vec}, Hnf c A → c ≤ d → (∀ a ∈ A, ∀ p, 0 < a p → (∀ j, j < p → a j = 0) → p < d) → 0 < s d → (∀ j, j < d → s j = 0) → (∀ a ∈ A, 0 ≤ a d ∧ a d < s d) → Hnf c (A ++ [s])
 | [], c, d, s, _, hcd, _, h1, h2, _ => ⟨⟨d, hcd, h1, h2, trivial⟩, trivial⟩
 | a :: A, c, d, s, ⟨⟨p, g1, g2, g3, g4⟩, g5⟩, hcd, hp, h1, h2, h3 => by
   have hpd := hp a (dj ..) p g2 g3
   refine ⟨⟨p, g1, g2, g3, Hnf.snoc g4 (by omega) (fun b hb => hp b (dK _ hb)) h1 h2 fun b hb => h3 b (dK _ hb)⟩, ?_⟩
   refine (oy (A := A) (B := [s])).2 ⟨g5, fun q hq hq' => ?_, trivial⟩
   have hqd : q = d := by
    rcases Nat.lt_trichotomy q d with h | h | h
    ·have := h2 q h; omega
    ·exact h
    ·have := hq' d h; omega
   subst hqd
   exact h3 a (dj ..)
theorem Red.congr {d : Nat} : ∀ {A B : List Vec} {r r' : Vec}, A.length = B.length → (∀ (i : Nat) a b, A[i]? = some a → B[i]? = some b → ∀ j, j < d → a j = b j) → (∀ j, j < d → r j = r' j) → (∀ b ∈ B, ∃ p, p < d ∧ 0 < b p ∧ ∀ j, j < p → b j = 0) → Red r A → Red r' B
 | [], [], _, _, _, _, _, _, _ => trivial
 | a :: A, b :: B, r, r', hl, hab, hr, hB, ⟨h1, h2⟩ => by
   refine ⟨fun p hp hp' => ?_, Red.congr (by simpa using hl) (fun i x y hx hy => hab (i + 1) x y hx hy) hr (fun x hx => hB x (dK _ hx)) h2⟩
   obtain ⟨q, hq, hq1, hq2⟩ := hB b (dj ..)
   have hpq : p = q := by
    rcases Nat.lt_trichotomy p q with h | h | h
    ·have := hq2 p h; omega
    ·exact h
    ·have := hp' q h; omega
   subst hpq
   have e := hab 0 a b rfl rfl
   rw [← hr p hq, ← e p hq]
   exact h1 p (by rw [e p hq]; exact hp) fun j hj => by rw [e j (by omega)]; exact hp' j hj
 | [], b :: B, _, _, hl, _, _, _, _ => by simp at hl
 | a :: A, [], _, _, hl, _, _, _, _ => by simp at hl
theorem Hnf.congr {d : Nat} : ∀ {A B : List Vec} {c : Nat}, A.length = B.length → (∀ (i : Nat) a b, A[i]? = some a → B[i]? = some b → ∀ j, j < d → a j = b j) → (∀ b ∈ B, ∃ p, p < d ∧ 0 < b p ∧ ∀ j, j < p → b j = 0) → Hnf c A → Hnf c B
 | [], [], _, _, _, _, _ => trivial
 | a :: A, b :: B, c, hl, hab, hB, ⟨⟨p, g1, g2, g3, g4⟩, g5⟩ => by
   have e := hab 0 a b rfl rfl
   have hl' : A.length = B.length := by simpa using hl
   have hab' : ∀ (i : Nat) x y, A[i]? = some x → B[i]? = some y → ∀ j, j < d → x j = y j := fun i x y hx hy => hab (i + 1) x y hx hy
   have hB' : ∀ x ∈ B, ∃ p, p < d ∧ 0 < x p ∧ ∀ j, j < p → x j = 0 := fun x hx => hB x (dK _ hx)
   obtain ⟨q, hq, hq1, hq2⟩ := hB b (dj ..)
   have hpq : p = q := by
    rcases Nat.lt_trichotomy p q with h | h | h
    ·have := hq2 p h
     rw [← e p (by omega)] at this; omega
    ·exact h
    ·have := g3 q h
     rw [e q hq] at this; omega
   subst hpq
   exact ⟨⟨p, g1, hq1, hq2, Hnf.congr hl' hab' hB' g4⟩, Red.congr hl' hab' e hB' g5⟩
 | [], b :: B, _, hl, _, _, _ => by simp at hl
 | a :: A, [], _, hl, _, _, _ => by simp at hl
structure Frm (M : List (List Int)) (c r : Nat) : Prop where
 le : r ≤ M.length
 hnf : Hnf 0 (vm (M.take r))
 head : ∀ (i : Nat) (s : List Int), i < r → M[i]? = some s → ∃ p, p < c ∧ 0 < vec s p ∧ ∀ j, j < p → vec s j = 0
 low : ∀ (i : Nat) (s : List Int), r ≤ i → M[i]? = some s → ∀ j, j < c → vec s j = 0
theorem Frm.zero {M : List (List Int)} : Frm M 0 0 := ⟨aD _, by simp [vm, Hnf], fun i s h => by omega, fun i s _ _ j hj => by omega⟩
theorem Frm.skip {M : List (List Int)} {c r : Nat} (h : Frm M c r) (h0 : ∀ (i : Nat) (s : List Int), r ≤ i → M[i]? = some s → vec s c = 0) : Frm M (c + 1) r :=
 ⟨h.le, h.hnf, fun i s hi hs => by obtain ⟨p, h1, h2⟩ := h.head i s hi hs; exact ⟨p, by omega, h2⟩, fun i s hi hs j hj => by
  rcases ax j c with hc | hc
  ·exact h.low i s hi hs j hc
  ·obtain rfl : j = c := by omega
   exact h0 i s hi hs⟩
theorem lZ {M : List (List Int)} {r i : Nat} (h : i < r) : (M.take r)[i]? = M[i]? := by rw [aN, if_pos h]
theorem Frm.step {M N : List (List Int)} {c r : Nat} (h : Frm M c r) (hl : N.length = M.length) (hr : r < M.length)
 (hup : ∀ (i : Nat) (s t : List Int), i < r → M[i]? = some s → N[i]? = some t → ∀ j, j < c → vec s j = vec t j)
 (hlow : ∀ (i : Nat) (s : List Int), r ≤ i → N[i]? = some s → ∀ j, j < c → vec s j = 0)
 {t : List Int} (ht : N[r]? = some t) (h0 : 0 < vec t c) (hz : ∀ (i : Nat) (s : List Int), r < i → N[i]? = some s → vec s c = 0)
 (hred : ∀ (i : Nat) (s : List Int), i < r → N[i]? = some s → 0 ≤ vec s c ∧ vec s c < vec t c) : Frm N (c + 1) (r + 1) := by
 have hget : ∀ i, i < r → ∃ s u, M[i]? = some s ∧ N[i]? = some u := fun i hi => ⟨M[i], N[i], by simp, by simp⟩
 have hhead : ∀ (i : Nat) (u : List Int), i < r → N[i]? = some u → ∃ p, p < c ∧ 0 < vec u p ∧ ∀ j, j < p → vec u j = 0 := by
  intro i u hi hu
  obtain ⟨s, u', h1, h2⟩ := hget i hi
  rw [hu] at h2
  cases h2
  obtain ⟨p, hp, hp1, hp2⟩ := h.head i s hi h1
  have e := hup i s u hi h1 hu
  exact ⟨p, hp, by rw [← e p hp]; exact hp1, fun j hj => by rw [← e j (by omega)]; exact hp2 j hj⟩
 have hmem : ∀ x ∈ vm (N.take r), ∃ (i : Nat) (u : List Int), i < r ∧ N[i]? = some u ∧ x = vec u := by
  intro x hx
  obtain ⟨i, u, hi, rfl⟩ := fG.1 hx
  have := (aq.1 hi).1
  rw [aS] at this
  have hir : i < r := by omega
  rw [lZ hir] at hi
  exact ⟨i, u, hir, hi, rfl⟩
 have hA : Hnf 0 (vm (N.take r)) := by
  refine Hnf.congr (d := c) (by simp [vm, hl]) ?_ ?_ h.hnf
  ·intro i a b ha hb j hj
   simp only [vm, cd, au] at ha hb
   obtain ⟨s, hs, rfl⟩ := ha
   obtain ⟨u, hu, rfl⟩ := hb
   have := (aq.1 hs).1
   rw [aS] at this
   have hir : i < r := by omega
   rw [lZ hir] at hs hu
   exact hup i s u hir hs hu j hj
  ·intro b hb
   obtain ⟨i, u, hi, hu, rfl⟩ := hmem b hb
   exact hhead i u hi hu
 have htake : vm (N.take (r + 1)) = vm (N.take r) ++ [vec t] := by
  unfold vm
  rw [List.take_add_one, ht, List.map_append]; rfl
 refine ⟨by omega, ?_, ?_, ?_⟩
 ·rw [htake]
  refine hA.snoc (aD c) ?_ h0 (hlow r t (av _) ht) ?_
  ·intro a ha p hp hp'
   obtain ⟨i, u, hi, hu, rfl⟩ := hmem a ha
   obtain ⟨q, hq, hq1, hq2⟩ := hhead i u hi hu
   rcases ax p c with hpc | hpc
   ·exact hpc
   ·have := hp' q (by omega); omega
  ·intro a ha
   obtain ⟨i, u, hi, hu, rfl⟩ := hmem a ha
   exact hred i u hi hu
 ·intro i s hi hs
  rcases ax i r with hir | hir
  ·obtain ⟨p, hp, hp2⟩ := hhead i s hir hs
   exact ⟨p, by omega, hp2⟩
  ·obtain rfl : i = r := by omega
   rw [ht] at hs
   cases hs
   exact ⟨c, by omega, h0, hlow i t (av _) ht⟩
 ·intro i s hi hs j hj
  rcases ax j c with hjc | hjc
  ·exact hlow i s (by omega) hs j hjc
  ·obtain rfl : j = c := by omega
   exact hz i s (by omega) hs
theorem Frm.sp {M : List (List Int)} {w r : Nat} (hw : Wd w M) (h : Frm M w r) : SpE M (M.take r) := by
 intro v
 constructor
 ·refine Sp.mono fun x hx => ?_
  obtain ⟨i, s, hi, rfl⟩ := fG.1 hx
  rcases ax i r with hir | hir
  ·exact e8 ((lZ hir).trans hi)
  ·refine Sp.zero.cast fun j => ?_
   rcases ax j w with hj | hj
   ·exact (h.low i s hir hi j hj).symm
   ·have hl := hw i s hi
    simp [vec, aK, aG (l := s) (by omega : s.length ≤ j)]
 ·refine Sp.mono fun x hx => ?_
  obtain ⟨i, s, hi, rfl⟩ := fG.1 hx
  have := (aq.1 hi).1
  rw [aS] at this
  rw [lZ (by omega)] at hi
  exact e8 hi
theorem Frm.one {M N : List (List Int)} {w r s : Nat} (hM : Wd w M) (hN : Wd w N) (h : Frm M w r) (k : Frm N w s) (he : SpE M N) : M.take r = N.take s := by
 have e : vm (M.take r) = vm (N.take s) := unique h.hnf k.hnf (((h.sp hM).symm.trans he).trans (k.sp hN))
 refine AK (w := w) ?_ ?_ e
 ·intro i x hx
  exact hM i x (by rw [aN] at hx; split at hx; exact hx; cases hx)
 ·intro i x hx
  exact hN i x (by rw [aN] at hx; split at hx; exact hx; cases hx)
def en (L : List (List Int)) (i j : Nat) : Int := (L.getD i []).getD j 0
theorem fH {M : List (List Int)} {i : Nat} {s : List Int} (h : M[i]? = some s) (j : Nat) : en M i j = vec s j := by
 unfold en vec; rw [aK (l := M), h]; rfl
theorem cE {M N : List (List Int)} {i : Nat} (h : M[i]? = N[i]?) (j : Nat) : en M i j = en N i j := by
 unfold en; rw [aK (l := M), aK (l := N), h]
theorem yI {M N : List (List Int)} {i k : Nat} (h : M[i]? = N[k]?) (j : Nat) : en M i j = en N k j := by
 unfold en; rw [aK (l := M), aK (l := N), h]
theorem kA {M : List (List Int)} {i j : Nat} (h : M.length ≤ i) : en M i j = 0 := by
 unfold en; rw [aK (l := M), aG h]; rfl
theorem yG {M : List (List Int)} {i j : Nat} (h : en M i j ≠ 0) : i < M.length := Nat.not_le.1 fun hh => h (kA hh)
theorem mV {w : Nat} {M : List (List Int)} {i k : Nat} {q : Int} (hw : Wd w M) (hi : i < M.length) (hk : k < M.length) (j : Nat) : en (fm M i k q) i j = en M i j + q * en M k j := by
 have hl : (M.getD i []).length = (M.getD k []).length := by rw [hw _ _ (cZ hi), hw _ _ (cZ hk)]
 rw [fH (n0 hi), uR hl, fH (cZ hi), fH (cZ hk)]
theorem gN {M : List (List Int)} {i k i' : Nat} {q : Int} (h : i' ≠ i) (j : Nat) : en (fm M i k q) i' j = en M i' j := cE (iV h) j
theorem il {M : List (List Int)} {i k : Nat} (hi : i < M.length) (hk : k < M.length) (j : Nat) : en (swR M i k) i j = en M k j := yI (nM hi hk) j
theorem iZ {M : List (List Int)} {i k : Nat} (hi : i < M.length) (hk : k < M.length) (j : Nat) : en (swR M i k) k j = en M i j := yI (l7 hi hk) j
theorem kP {M : List (List Int)} {i k i' : Nat} (h1 : i' ≠ i) (h2 : i' ≠ k) (j : Nat) : en (swR M i k) i' j = en M i' j := cE (od h1 h2) j
theorem tV {M : List (List Int)} {i : Nat} (hi : i < M.length) (j : Nat) : en (tuR M i) i j = -1 * en M i j := by
 rw [fH (qu hi), uQ, fH (cZ hi)]
theorem mX {M : List (List Int)} {i i' : Nat} (h : i' ≠ i) (j : Nat) : en (tuR M i) i' j = en M i' j := cE (oc h) j
structure Fl (x y q r : Int) : Prop where
 eq : x = q * y + r
 rest : (0 ≤ r ∧ r < y) ∨ (y < r ∧ r ≤ 0)
 le : q.natAbs ≤ x.natAbs + 1
 rle : r.natAbs < y.natAbs
theorem Fl.Dt {x y q r : Int} (h : Fl x y q r) : q.natAbs * y.natAbs ≤ x.natAbs + y.natAbs := by
 rw [← Int.natAbs_mul]
 have h1 := h.eq
 have h2 := h.rle
 have : q * y = x - r := by omega
 rw [this]; omega
theorem Fl.same {x y q r : Int} (h : Fl x y q r) : 0 ≤ r * y := by
 rcases h.rest with ⟨h1, h2⟩ | ⟨h1, h2⟩
 ·exact Int.mul_nonneg h1 (by omega)
 ·exact Int.mul_nonneg_of_nonpos_of_nonpos h2 (by omega)
theorem Fl.fits {x y q r : Int} {p' : Nat} (h : Fl x y q r) (hs : 0 ≤ y * x) (hlt : y.natAbs < x.natAbs) (hp : p' ≤ y.natAbs) (hr : r ≠ 0 → p' ≤ r.natAbs) : y.natAbs + p' ≤ x.natAbs := by
 have key : ∀ {x y q r : Int}, x = q * y + r → 0 ≤ r → r < y → 0 < y → 0 ≤ y * x → y.natAbs < x.natAbs → p' ≤ y.natAbs → (r ≠ 0 → p' ≤ r.natAbs) → y.natAbs + p' ≤ x.natAbs := by
  intro x y q r he h0 hry hy hs hlt hp hr
  have hx : 0 ≤ x := by
   rcases Int.lt_or_le x 0 with hx | hx
   ·have := Int.mul_neg_of_pos_of_neg hy hx; omega
   ·exact hx
  have hq1 : 1 ≤ q := by
   rcases Int.lt_or_le q 1 with hq | hq
   ·have : q * y ≤ 0 := Int.mul_nonpos_of_nonpos_of_nonneg (by omega) (by omega)
    omega
   ·exact hq
  by_cases hr0 : r = 0
  ·have hq2 : 2 ≤ q := by
    rcases Int.lt_or_le q 2 with hq | hq
    ·have : q = 1 := by omega
     subst this
     omega
    ·exact hq
   have : 2 * y ≤ q * y := dt hq2 (by omega)
   omega
  ·have := hr hr0
   have : 1 * y ≤ q * y := dt hq1 (by omega)
   omega
 rcases h.rest with ⟨h1, h2⟩ | ⟨h1, h2⟩
 ·exact key h.eq h1 h2 (by omega) hs hlt hp hr
 ·have := key (x := -x) (y := -y) (q := q) (r := -r) (by rw [Int.mul_neg]; have := h.eq; omega) (by omega) (by omega) (by omega) (by rw [Int.neg_mul_neg]; exact hs) (by omega) (by omega) (fun hh => by have := hr (by omega); omega)
  omega
structure Col (W0 W : List (List Int)) (w r c : Nat) : Prop where
 len : W.length = W0.length
 wd : Wd w W
 sp : SpE W0 W
 up : ∀ i, i < r → W[i]? = W0[i]?
 low : ∀ i, r ≤ i → ∀ j, j < c → en W i j = 0
theorem Col.start {W : List (List Int)} {w r c : Nat} (hw : Wd w W) (hl : ∀ i, r ≤ i → ∀ j, j < c → en W i j = 0) : Col W W w r c := ⟨rfl, hw, .refl, fun _ _ => rfl, hl⟩
theorem Col.add {W0 W : List (List Int)} {w r c i k : Nat} {q : Int} (h : Col W0 W w r c) (hri : r ≤ i) (hrk : r ≤ k) (hi : i < W.length) (hk : k < W.length) (hne : i ≠ k) : Col W0 (fm W i k q) w r c where
 len := kJ.trans h.len
 wd := vP h.wd hi hk
 sp := h.sp.trans (vQ h.wd hi hk hne)
 up := fun j hj => (iV (by omega)).trans (h.up j hj)
 low := fun j hj x hx => by
  by_cases hji : j = i
  ·subst hji; rw [mV h.wd hi hk, h.low j hj x hx, h.low k hrk x hx, Int.mul_zero]; rfl
  ·rw [gN hji]; exact h.low j hj x hx
theorem Col.sw {W0 W : List (List Int)} {w r c i k : Nat} (h : Col W0 W w r c) (hri : r ≤ i) (hrk : r ≤ k) (hi : i < W.length) (hk : k < W.length) : Col W0 (swR W i k) w r c where
 len := qx.trans h.len
 wd := BF h.wd hi hk
 sp := h.sp.trans (BG hi hk)
 up := fun j hj => (od (by omega) (by omega)).trans (h.up j hj)
 low := fun j hj x hx => by
  by_cases hji : j = i
  ·subst hji; rw [il hi hk]; exact h.low k hrk x hx
  ·by_cases hjk : j = k
   ·subst hjk; rw [iZ hi hk]; exact h.low i hri x hx
   ·rw [kP hji hjk]; exact h.low j hj x hx
def Bd (B : Nat) (W : List (List Int)) (lo : Nat) : Prop := ∀ i j, lo ≤ i → (en W i j).natAbs ≤ B
theorem Bd.sw {B : Nat} {W : List (List Int)} {r i k : Nat} (h : Bd B W r) (hri : r ≤ i) (hrk : r ≤ k) (hi : i < W.length) (hk : k < W.length) : Bd B (swR W i k) r := by
 intro j x hj
 by_cases hji : j = i
 ·subst hji; rw [il hi hk]; exact h k x hrk
 ·by_cases hjk : j = k
  ·subst hjk; rw [iZ hi hk]; exact h i x hri
  ·rw [kP hji hjk]; exact h j x hj
structure Inn (W1 W : List (List Int)) (w r c i : Nat) : Prop where
 col : Col W1 W w r c
 top : W[r]? = W1[r]?
 rest : ∀ k, i ≤ k → W[k]? = W1[k]?
 did : ∀ k, r < k → k < i → ∃ q ρ, Fl (en W1 k c) (en W1 r c) q ρ ∧ ∀ j, en W k j = en W1 k j - q * en W1 r j
theorem Inn.start {W : List (List Int)} {w r c : Nat} (hw : Wd w W) (hl : ∀ i, r ≤ i → ∀ j, j < c → en W i j = 0) : Inn W W w r c (r + 1) :=
 ⟨.start hw hl, rfl, fun _ _ => rfl, fun k h1 h2 => by omega⟩
theorem Inn.none {W1 W : List (List Int)} {w r c i : Nat} {ρ : Int} (h : Inn W1 W w r c i) (hf : Fl (en W1 i c) (en W1 r c) 0 ρ) : Inn W1 W w r c (i + 1) :=
 ⟨h.col, h.top, fun k hk => h.rest k (by omega), fun k h1 h2 => by
  rcases ax k i with hki | hki
  ·exact h.did k h1 hki
  ·obtain rfl : k = i := by omega
   exact ⟨0, ρ, hf, fun j => by rw [cE (h.rest k (av _)), Int.zero_mul, Int.sub_zero]⟩⟩
theorem Inn.step {W1 W : List (List Int)} {w r c i : Nat} {q ρ : Int} (h : Inn W1 W w r c i) (hri : r < i) (hi : i < W.length) (hf : Fl (en W1 i c) (en W1 r c) q ρ) : Inn W1 (fm W i r (-q)) w r c (i + 1) :=
 ⟨h.col.add (by omega) (av _) hi (by omega) (by omega), (iV (by omega)).trans h.top, fun k hk => (iV (by omega)).trans (h.rest k (by omega)), fun k h1 h2 => by
  rcases ax k i with hki | hki
  ·obtain ⟨q', ρ', g1, g2⟩ := h.did k h1 hki
   exact ⟨q', ρ', g1, fun j => by rw [gN (by omega)]; exact g2 j⟩
  ·obtain rfl : k = i := by omega
   exact ⟨q, ρ, hf, fun j => by rw [mV h.col.wd hi (by omega), cE (h.rest k (av _)), cE h.top, Int.neg_mul]; omega⟩⟩
theorem Inn.got {W1 W : List (List Int)} {w r c i k : Nat} (h : Inn W1 W w r c i) (h1 : r < k) (h2 : k < i) : ∃ q, Fl (en W1 k c) (en W1 r c) q (en W k c) := by
 obtain ⟨q, ρ, g1, g2⟩ := h.did k h1 h2
 have : en W k c = ρ := by rw [g2 c]; have := g1.eq; omega
 rw [this]; exact ⟨q, g1⟩
theorem vh {x y q r : Int} {A X p : Nat} {a b : Int} (h : Fl x y q r) (hx : x.natAbs ≤ X) (hp : p = y.natAbs) (hpX : p ≤ X) (ha : a.natAbs ≤ A) (hb : b.natAbs ≤ A) : (a - q * b).natAbs * p ≤ 3 * X * A ∧ (-q * b).natAbs * p ≤ 3 * X * A := by
 have h1 := h.Dt
 rw [← hp] at h1
 have h2 : (q * b).natAbs ≤ q.natAbs * A := by rw [Int.natAbs_mul]; exact bH _ hb
 have h3 : q.natAbs * p ≤ 2 * X := by omega
 have h4 : q.natAbs * A * p ≤ 2 * X * A := by
  rw [Nat.mul_right_comm]; exact az _ h3
 have h5 : A * p ≤ X * A := by rw [a7]; exact az _ hpX
 have e : 3 * X * A = 2 * X * A + X * A := by rw [← a8]; congr 1; omega
 constructor
 ·have : (a - q * b).natAbs ≤ A + q.natAbs * A := by omega
  refine a9 (az _ this) ?_
  rw [a8, e]; omega
 ·have : (-q * b).natAbs ≤ q.natAbs * A := by rw [Int.neg_mul, Int.natAbs_neg]; exact h2
  refine a9 (az _ this) ?_
  rw [e]; omega
theorem Inn.bd {W1 W : List (List Int)} {w r c i A X : Nat} (h : Inn W1 W w r c i) (hA : Bd A W1 r) (hX : ∀ k, r ≤ k → (en W1 k c).natAbs ≤ X) : ∀ k j, r ≤ k → (en W k j).natAbs * (en W1 r c).natAbs ≤ 3 * X * A := by
 intro k j hk
 have hpX := hX r (av _)
 have hsmall : ∀ a : Int, a.natAbs ≤ A → a.natAbs * (en W1 r c).natAbs ≤ 3 * X * A := by
  intro a ha
  have : A * (en W1 r c).natAbs ≤ X * A := by rw [a7]; exact az _ hpX
  have e : 3 * X * A = 2 * X * A + X * A := by rw [← a8]; congr 1; omega
  have := az (en W1 r c).natAbs ha
  omega
 rcases ax k i with hki | hki
 ·rcases ax r k with hrk | hrk
  ·obtain ⟨q, ρ, g1, g2⟩ := h.did k hrk hki
   rw [g2 j]
   exact (vh g1 (hX k hk) rfl hpX (hA k j hk) (hA r j (av _))).1
  ·obtain rfl : k = r := by omega
   rw [cE h.top]
   exact hsmall _ (hA k j hk)
 ·rw [cE (h.rest k hki)]
  exact hsmall _ (hA k j hk)
structure Ph (W : List (List Int)) (r c E X : Nat) : Prop where
 piv : (en W r c).natAbs = X
 pos : 0 < X
 le : X ≤ E
 oth : ∀ i, r < i → (en W i c).natAbs < X ∧ 0 ≤ en W i c * en W r c
 more : ∃ i, r < i ∧ en W i c ≠ 0
 bd : ∃ A, Bd A W r ∧ ∀ i, r ≤ i → en W i c ≠ 0 → (∀ k, r ≤ k → en W k c ≠ 0 → (en W i c).natAbs ≤ (en W k c).natAbs) → A * X ^ 3 * (en W i c).natAbs ≤ 3 * E ^ 5
def kL (W : List (List Int)) (r c a : Nat) : Prop := r ≤ a ∧ en W a c ≠ 0 ∧ ∀ k, r ≤ k → en W k c ≠ 0 → (en W a c).natAbs ≤ (en W k c).natAbs
theorem Bd.mono {A B : Nat} {W : List (List Int)} {r : Nat} (h : Bd A W r) (hAB : A ≤ B) : Bd B W r := fun i j hi => a9 (h i j hi) hAB
theorem BV {E : Nat} : 3 * E ^ 5 = 3 * E * E * (E * E * E) := by
 simp only [bJ, Nat.pow_zero, Nat.one_mul, bW]
theorem A3 {W1 W : List (List Int)} {w r c E : Nat} (hE : Bd E W1 r) (h : Inn W1 W w r c W.length) (hy : en W1 r c ≠ 0) (hm : ∃ i, r < i ∧ en W i c ≠ 0) : Ph W r c E (en W1 r c).natAbs := by
 have hp1 : 0 < (en W1 r c).natAbs := Int.natAbs_pos.2 hy
 have hpE : (en W1 r c).natAbs ≤ E := hE r c (av _)
 have htop := cE h.top c
 refine ⟨by rw [htop], hp1, hpE, fun i hi => ?_, hm, 3 * E * E / (en W1 r c).natAbs, fun k j hk => ?_, fun i hi h0 hl => ?_⟩
 ·rcases ax i W.length with hil | hil
  ·obtain ⟨q, hq⟩ := h.got hi hil
   rw [htop]
   exact ⟨hq.rle, hq.same⟩
  ·rw [kA hil, Int.zero_mul]
   exact ⟨hp1, dN _⟩
 ·rw [Nat.le_div_iff_mul_le hp1]
  exact h.bd hE (fun k hk => hE k c hk) k j hk
 ·have hpi : (en W i c).natAbs ≤ E := by
   have := hl r (av _) (by rw [htop]; exact hy)
   rw [htop] at this; omega
  generalize (en W1 r c).natAbs = p at *
  generalize (en W i c).natAbs = p' at *
  have h1 : 3 * E * E / p * p ≤ 3 * E * E := Nat.div_mul_le_self _ _
  rw [BV]
  have e : 3 * E * E / p * p ^ 3 * p' = (3 * E * E / p * p) * (p * p * p') := by
   simp only [bJ, Nat.pow_zero, Nat.one_mul, bW]
  rw [e]
  exact Nat.mul_le_mul h1 (Nat.mul_le_mul (Nat.mul_le_mul hpE hpE) hpi)
theorem CI {p p' X : Nat} (h : p + p' ≤ X) : 3 * (p * p') ≤ X * X := by
 have h1 : (p + p') * (p + p') ≤ X * X := Nat.mul_le_mul h h
 have h2 : (p + p') * (p + p') = p * p + p * p' + (p * p' + p' * p') := by rw [a8, ck, ck, a7 p' p]
 rcases Nat.le_total p p' with hp | hp
 ·have : p * p' ≤ p' * p' := az _ hp
  omega
 ·have : p * p' ≤ p * p := bH _ hp
  omega
theorem C5 {W W2 : List (List Int)} {w r c a E X : Nat} (hph : Ph W r c E X) (ha : kL W r c a) (hr : r < W.length) (hw : Wd w W) (h : Inn (swR W r a) W2 w r c W2.length) (hlen : W2.length = W.length) (hm : ∃ i, r < i ∧ en W2 i c ≠ 0) :
 Ph W2 r c E (en W a c).natAbs ∧ (en W a c).natAbs < X := by
 obtain ⟨A, hA, hG⟩ := hph.bd
 obtain ⟨ha1, ha2, ha3⟩ := ha
 have hal : a < W.length := yG ha2
 have hy : en (swR W r a) r c = en W a c := il hr hal c
 have hp1 : 0 < (en W a c).natAbs := Int.natAbs_pos.2 ha2
 have hra : r < a := by
  rcases ax r a with hh | hh
  ·exact hh
  ·obtain rfl : a = r := by omega
   obtain ⟨i, hi, hi0⟩ := hph.more
   have h1 := ha3 i (by omega) hi0
   have h2 := (hph.oth i hi).1
   have h3 := hph.piv
   omega
 have hpX : (en W a c).natAbs < X := (hph.oth a hra).1
 have hX : ∀ k, r ≤ k → (en W k c).natAbs ≤ X := by
  intro k hk
  rcases ax r k with hh | hh
  ·exact Nat.le_of_lt (hph.oth k hh).1
  ·obtain rfl : k = r := by omega
   rw [hph.piv]; exact av _
 have hX1 : ∀ k, r ≤ k → (en (swR W r a) k c).natAbs ≤ X := by
  intro k hk
  by_cases h1 : k = r
  ·subst h1; rw [hy]; omega
  ·by_cases h2 : k = a
   ·subst h2; rw [iZ hr hal]; exact hX r (av _)
   ·rw [kP h1 h2]; exact hX k hk
 have htop : en W2 r c = en W a c := by rw [cE h.top, hy]
 have hbd := h.bd (hA.sw (av _) ha1 hr hal) hX1
 rw [hy] at hbd
 obtain ⟨q, hq⟩ := h.got hra (by rw [hlen]; exact hal)
 rw [hy, iZ hr hal] at hq
 refine ⟨⟨by rw [htop], hp1, a9 (Nat.le_of_lt hpX) hph.le, fun i hi => ?_, hm, 3 * X * A / (en W a c).natAbs, fun k j hk => ?_, fun i hi h0 hl => ?_⟩, hpX⟩
 ·rcases ax i W2.length with hil | hil
  ·obtain ⟨q, hq⟩ := h.got hi hil
   rw [hy] at hq
   rw [htop]
   exact ⟨hq.rle, hq.same⟩
  ·rw [kA hil, Int.zero_mul]
   exact ⟨hp1, dN _⟩
 ·rw [Nat.le_div_iff_mul_le hp1]
  exact hbd k j hk
 ·have hpi : (en W2 i c).natAbs ≤ (en W a c).natAbs := by
   have := hl r (av _) (by rw [htop]; exact ha2)
   rwa [htop] at this
  have hfit := hq.fits (p' := (en W2 i c).natAbs) (hph.oth a hra).2 (by rw [hph.piv]; exact hpX) hpi (fun hr0 => hl a ha1 hr0)
  rw [hph.piv] at hfit
  have hg := hG a ha1 ha2 ha3
  generalize (en W a c).natAbs = p at *
  generalize (en W2 i c).natAbs = p' at *
  have h1 : 3 * X * A / p * p ≤ 3 * X * A := Nat.div_mul_le_self _ _
  have h2 := CI hfit
  refine a9 ?_ hg
  have e : 3 * X * A / p * p ^ 3 * p' = (3 * X * A / p * p) * (p * p * p') := by
   simp only [bJ, Nat.pow_zero, Nat.one_mul, bW]
  rw [e]
  refine a9 (az _ h1) ?_
  have e2 : 3 * X * A * (p * p * p') = X * A * p * (3 * (p * p')) := by ac_rfl
  have e3 : A * X ^ 3 * p = X * A * p * (X * X) := by
   simp only [bJ, Nat.pow_zero, Nat.one_mul]
   ac_rfl
  rw [e2, e3]
  exact bH _ h2
theorem Ph.cap {W : List (List Int)} {r c a E X : Nat} (hph : Ph W r c E X) (ha : kL W r c a) : ∃ A, Bd A W r ∧ 3 * X * A ≤ 3 * E ^ 5 := by
 obtain ⟨A, hA, hG⟩ := hph.bd
 obtain ⟨ha1, ha2, ha3⟩ := ha
 refine ⟨A, hA, a9 ?_ (hG a ha1 ha2 ha3)⟩
 have hp1 : 0 < (en W a c).natAbs := Int.natAbs_pos.2 ha2
 have hX2 : 2 ≤ X := by
  obtain ⟨i, hi, hi0⟩ := hph.more
  have h1 := (hph.oth i hi).1
  have h2 := Int.natAbs_pos.2 hi0
  omega
 have h3 : 3 * X ≤ X ^ 3 := by
  have : X * 4 ≤ X * (X * X) := bH _ (Nat.mul_le_mul hX2 hX2)
  have e : X ^ 3 = X * (X * X) := by simp only [bJ, Nat.pow_zero, Nat.one_mul, bW]
  rw [e]; omega
 calc 3 * X * A = A * (3 * X) := a7 _ _
  _ ≤ A * X ^ 3 := bH _ h3
  _ ≤ A * X ^ 3 * (en W a c).natAbs := Nat.le_mul_of_pos_right _ hp1
theorem yj {W : List (List Int)} {r c i : Nat} (hi : r ≤ i) (h0 : en W i c ≠ 0) : ∃ a, kL W r c a := by
 have key : ∀ (n i : Nat), (en W i c).natAbs ≤ n → r ≤ i → en W i c ≠ 0 → ∃ a, kL W r c a := by
  intro n
  induction n with
  | zero => intro i h1 _ h2; exact absurd (Int.natAbs_eq_zero.1 (Nat.le_zero.1 h1)) h2
  | succ n ih =>
    intro i h1 h2 h3
    by_cases hh : ∃ k, r ≤ k ∧ en W k c ≠ 0 ∧ (en W k c).natAbs < (en W i c).natAbs
    ·obtain ⟨k, k1, k2, k3⟩ := hh
     exact ih k (by omega) k1 k2
    ·exact ⟨i, h2, h3, fun k k1 k2 => Nat.not_lt.1 fun k3 => hh ⟨k, k1, k2, k3⟩⟩
 exact key _ i (av _) hi h0
theorem Ph.lt {W : List (List Int)} {r c a E X : Nat} (hph : Ph W r c E X) (ha : kL W r c a) : r < a := by
 obtain ⟨ha1, ha2, ha3⟩ := ha
 rcases ax r a with hh | hh
 ·exact hh
 ·obtain rfl : a = r := by omega
  obtain ⟨i, hi, hi0⟩ := hph.more
  have h1 := ha3 i (by omega) hi0
  have h2 := (hph.oth i hi).1
  have h3 := hph.piv
  omega
end Go.Proofs.YtdieenbfdeaffabGreat.Hn

