/- The verified interpreter, part 28: what a row reads of an argument, with the lengths that a bound leaves. No condition. -/
import Derived.Test.YtdieenbfdeaffabGreatZa3
set_option linter.unusedSimpArgs false
set_option linter.unusedVariables false
open Bool renaming and_eq_true → aA
open List renaming getElem?_eq_none → aG, length_take → aS, range → ca, getElem?_map → cd, mem_cons_self → dj, mem_cons_of_mem → dK, getElem?_range → gn
open Nat renaming lt_or_ge → ax, zero_le → aD, le_trans → a9, add_assoc → dh, succ_mul → dX, eq_zero_or_pos → eu
open Option renaming map_eq_some_iff → au
namespace Go.Proofs.YtdieenbfdeaffabGreat.Vpi
open Go Go.Deep
def jy (P : Program) (L : Nat) : Nat → TypeId → List PV → Prop
 | 0, _, _ => False
 | n + 1, t, ps =>
   match P.underlying t with
   | some .bool => ∃ b, ps = [.bool b]
   | some (.int k) => ∃ i, ps = [.int k i] ∧ (Lit.int k i).wf = true
   | some (.slice e) => ∃ es, ps = [.sl es] ∧ es.length ≤ L ∧ ∀ y ∈ es, ∃ qs, y = fX (jT P e) qs ∧ jy P L n e qs
   | some (.struct fs) => zJ (jy P L n) fs.toList ps
   | _ => False
section
variable {H : Type} {enc : TypeId × Value → H} {P : Program} {w : World} {G : Nat → Prop} {spare : Nat → Bool}
theorem mB {μ : DataW H → Nat} {L : Nat} {q : TypeId → List PV → Prop} {sq : TypeId → Bool} {cs : List Value} (ih : ∀ t fuel cs x, sq t = true → DataW.trod enc P w 0 spare true fuel t cs = some x → μ x.1 ≤ L → ∃ ps, q t ps ∧ j6 w G ps cs ∧ cs.length = P.cellsOf t)
 {fuel : Nat} : ∀ (fs : List Field) (off : Nat), oI P sq cs.length off fs = true → off ≤ cs.length →
  (∀ f ∈ fs, ∃ x, DataW.trod enc P w 0 spare true fuel f.type ((cs.drop f.offset).take (P.cellsOf f.type)) = some x ∧ μ x.1 ≤ L) → ∃ ps, zJ q fs ps ∧ j6 w G ps (cs.drop off)
 | [], off, hl, hle, _ => by
   simp only [oI, beq_iff_eq] at hl
   subst hl
   exact ⟨[], rfl, by simp [j6]⟩
 | f :: fs, off, hl, hle, hx => by
   simp only [oI, aA, beq_iff_eq] at hl
   obtain ⟨⟨rfl, hs⟩, hl⟩ := hl
   obtain ⟨x, hx1, hx2⟩ := hx f (dj ..)
   obtain ⟨a, ha, hra, hlen⟩ := ih _ _ _ _ hs hx1 hx2
   have hle2 : f.offset + P.cellsOf f.type ≤ cs.length := by
    rw [aS, List.length_drop] at hlen
    omega
   obtain ⟨b, hb, hrb⟩ := mB ih fs (f.offset + P.cellsOf f.type) hl hle2 fun g hg => hx g (dK _ hg)
   refine ⟨a ++ b, ⟨a, b, rfl, ha, hb⟩, ?_⟩
   have := hra.append hrb
   rwa [← List.drop_drop, List.take_append_drop] at this
theorem oB {μ : DataW H → Nat} {L : Nat} (hμs : ∀ (es sp : List (DataW H)), es.length ≤ μ (.slice es sp) ∧ ∀ d ∈ es, μ d ≤ μ (.slice es sp)) (hμa : ∀ (ps : List (DataW H)), ∀ d ∈ ps, μ d ≤ μ (.agg ps)) (hG : ∀ k arr el fr, w.heap[k]? = some (.cells arr el fr) → G k) : ∀ (n : Nat) (t : TypeId) (fuel : Nat) (cs : List Value) (x : DataW H × List MemPlace), sup P n t = true → DataW.trod enc P w 0 spare true fuel t cs = some x → μ x.1 ≤ L →
 ∃ ps, jy P L n t ps ∧ j6 w G ps cs ∧ cs.length = P.cellsOf t
 | 0, t, fuel, cs, x, hs, h, _ => by simp [sup] at hs
 | n + 1, t, 0, cs, x, hs, h, _ => by simp [DataW.trod] at h
 | n + 1, t, fuel + 1, cs, x, hs, h, hL => by
   simp only [sup] at hs
   simp only [jy]
   split at hs
   ·rename_i ht
    simp only [ht]
    obtain ⟨b, rfl, _⟩ := DataW.trod_bool ht h
    exact ⟨[.bool b], ⟨_, rfl⟩, j6.one (.bool _) rfl, (beq_iff_eq.1 hs).symm⟩
   ·rename_i k ht
    simp only [ht]
    obtain ⟨i, rfl, _, hw⟩ := DataW.trod_int ht h
    exact ⟨[.int k i], ⟨_, rfl, hw⟩, j6.one (.int _ _) rfl, (beq_iff_eq.1 hs).symm⟩
   ·rename_i e ht
    simp only [ht]
    simp only [aA, decide_eq_true_eq, beq_iff_eq, Bool.or_eq_true] at hs
    obtain ⟨⟨⟨hse, hpos⟩, hag⟩, ht1⟩ := hs
    rcases open_slice ht h with ⟨rfl, _⟩ | ⟨a, len, cap, m, n', D, Pl, rfl, _, hlc, hcm, hm, hxe, hel⟩
    ·exact ⟨[.sl []], ⟨[], rfl, by simp, by simp⟩, j6.one (.nil _ _) rfl, ht1.symm⟩
    ·have hlm : len ≤ m := by rw [hm]; split <;> omega
     rw [hxe] at hL
     have hbs := hμs ((ca len).map D) ((ca (m - len)).map fun j => D (len + j))
     have hlen : len ≤ L := by have := hbs.1; simp only [List.length_map, List.length_range] at this; exact a9 this hL
     have hD : ∀ i, i < len → μ (D i) ≤ L := fun i hi => a9 (hbs.2 (D i) (List.mem_map.2 ⟨i, List.mem_range.2 hi, rfl⟩)) hL
     have hq : ∀ i, i < len → ∃ qs : List PV, jy P L n e qs ∧ ∃ cs', w.cells? 0 (a.add (i * P.cellsOf e)) (P.cellsOf e) = some cs' ∧ j6 w G qs cs' ∧ cs'.length = P.cellsOf e := by
      intro i hi
      obtain ⟨cs', h1, h2⟩ := hel i (by omega)
      obtain ⟨qs, h3, h4, h5⟩ := oB hμs hμa hG n e _ _ _ hse h2 (hD i hi)
      exact ⟨qs, h3, cs', h1, h4, h5⟩
     obtain ⟨f, hf⟩ := choose_lt hq
     rcases eu len with rfl | hlp
     ·exact ⟨[.sl []], ⟨[], rfl, by simp, by simp⟩, j6.one (.nil _ _) rfl, ht1.symm⟩
     have hcell : ∀ i, i < len → ∀ k, k < P.cellsOf e → w.cell? ((a.add (i * P.cellsOf e)).add k) = (w.cell? ((a.add (i * P.cellsOf e)).add k)) ∧ ∃ u, w.cell? ((a.add (i * P.cellsOf e)).add k) = some u := by
      intro i hi k hk
      obtain ⟨_, cs', h1, _, h5⟩ := hf i hi
      obtain ⟨_, _, h6⟩ := World.cells?_some h1
      refine ⟨rfl, ?_⟩
      rw [h6 k hk]
      exact ⟨cs'[k], by simp [h5, hk]⟩
     have hsp : a.spot = none ∧ ∃ arr el fr, w.heap[a.block]? = some (.cells arr el fr) := by
      obtain ⟨_, u, hu⟩ := hcell 0 hlp 0 hpos
      simp only [Nat.zero_mul, Addr.add, if_true, World.cell?] at hu
      split at hu
      ·rename_i arr el fr hb
       split at hu
       ·cases hu
       ·rename_i hsp
        exact ⟨by simpa using hsp, arr, el, fr, hb⟩
      ·cases hu
     obtain ⟨hspot, arr, el, fr, hb⟩ := hsp
     have hget : ∀ i, w.cell? ((a.add i)) = arr[a.off + i]? := by
      intro i
      unfold Addr.add
      by_cases hi : i = 0
      ·subst hi; simp [World.cell?, hb, hspot]
      ·rw [if_neg hi]; simp [World.cell?, hb]
     have hget2 : ∀ i k, w.cell? ((a.add i).add k) = arr[a.off + i + k]? := by
      intro i k
      rw [Deep.add_add, hget, dh]
     have hagc : ∀ i, i < len → (fX (jT P e) (f i)).cells = f i := by
      intro i hi
      obtain ⟨_, cs', _, h4, h5⟩ := hf i hi
      rcases qN (agg := jT P e) h4 (by rw [h5]; exact hag) with h6 | ⟨h6, c, h7⟩
      ·exact h6
      ·have h9 : cs'.length = 1 := by
        rw [h5]
        rcases hag with h8 | h8
        ·rw [h6] at h8; cases h8
        ·exact h8
       exact (uh h4 h9 h7).elim
     refine ⟨[.sl ((ca len).map fun i => fX (jT P e) (f i))], ⟨_, rfl, by simp; omega, ?_⟩, j6.one ?_ rfl, ht1.symm⟩
     ·intro y hy
      obtain ⟨i, hi, rfl⟩ := List.mem_map.1 hy
      exact ⟨f i, rfl, (hf i (List.mem_range.1 hi)).1⟩
     ·obtain ⟨blk, off, spot⟩ := a
      simp only at hspot hb hget hget2
      subst hspot
      have hl : ((ca len).map fun i => fX (jT P e) (f i)).length = len := by simp
      have hidx : ∀ (i : Nat) y, ((ca len).map fun i => fX (jT P e) (f i))[i]? = some y → i < len ∧ y = fX (jT P e) (f i) := by
       intro i y hy
       rw [cd, au] at hy
       obtain ⟨j, hj, rfl⟩ := hy
       have hi : i < len := by
        rcases ax i len with h1 | h1
        ·exact h1
        ·rw [aG (by simpa using h1)] at hj; cases hj
       rw [gn hi] at hj
       cases hj
       exact ⟨hi, rfl⟩
      have hsl : ∀ i, i < len → ∀ k, k < P.cellsOf e → off + i * P.cellsOf e + k < arr.size := by
       intro i hi k hk
       obtain ⟨_, u, hu⟩ := hcell i hi k hk
       rw [hget2] at hu
       rcases ax (off + i * P.cellsOf e + k) arr.size with h1 | h1
       ·exact h1
       ·rw [Array.getElem?_eq_none (by omega)] at hu; cases hu
      have hfin := dG.sl (w := w) (G := G) ((ca len).map fun i => fX (jT P e) (f i)) blk off arr el fr cap (P.cellsOf e) (hG _ _ _ _ hb) hb (by rw [hl]; exact hlc)
      rw [hl] at hfin
      refine hfin ?_ ?_ ?_ ?_
      ·have := hsl (len - 1) (by omega) (P.cellsOf e - 1) (by omega)
       have h2 : (len - 1) * P.cellsOf e + P.cellsOf e = len * P.cellsOf e := by
        rw [← dX]; congr 1; omega
       omega
      ·intro i y hy
       obtain ⟨hi, rfl⟩ := hidx i y hy
       rw [hagc i hi]
       obtain ⟨_, cs', _, h4, h5⟩ := hf i hi
       rw [h4.1, h5]
      ·intro i y k c u hy hc hu
       obtain ⟨hi, rfl⟩ := hidx i y hy
       rw [hagc i hi] at hc
       obtain ⟨_, cs', h1, h4, h5⟩ := hf i hi
       have hk : k < P.cellsOf e := by
        rw [← h5, ← h4.1]
        rcases ax k (f i).length with h7 | h7
        ·exact h7
        ·rw [aG h7] at hc; cases hc
       obtain ⟨_, _, h6⟩ := World.cells?_some h1
       have h7 := h6 k hk
       rw [hget2] at h7
       rw [h7] at hu
       exact (h4.2 k c u hc hu).1
      ·intro i y k u hy hk hu
       obtain ⟨hi, rfl⟩ := hidx i y hy
       obtain ⟨_, cs', h1, h4, h5⟩ := hf i hi
       obtain ⟨_, _, h6⟩ := World.cells?_some h1
       have h7 := h6 k hk
       rw [hget2] at h7
       rw [h7] at hu
       have hk2 : k < (f i).length := by rw [h4.1, h5]; exact hk
       exact (h4.2 k (f i)[k] u (by simp) hu).2
   ·rename_i fs ht
    simp only [ht]
    obtain ⟨xs, n', _, hxe, hlen, hxl, hf⟩ := DataW.trod_struct ht h
    rw [hxe] at hL
    obtain ⟨ps, h3, h4⟩ := mB (q := jy P L n) (sq := sup P n) (cs := cs) (fuel := n') (oB hμs hμa hG n) fs.toList 0 (by rw [hlen]; exact hs) (aD _) (fun f hfm => by
     obtain ⟨i, hi, rfl⟩ := List.getElem_of_mem hfm
     have hi2 : i < xs.length := by rw [hxl]; simpa using hi
     refine ⟨xs[i], ?_, a9 (hμa (xs.map (·.1)) xs[i].1 (List.mem_map.2 ⟨xs[i], List.getElem_mem _, rfl⟩)) hL⟩
     rw [hf i _ (by simp)]
     simp)
    exact ⟨ps, h3, by simpa using h4, hlen⟩
   ·cases hs
theorem open_oneB {μ : DataW H → Nat} {L : Nat} (hμs : ∀ (es sp : List (DataW H)), es.length ≤ μ (.slice es sp) ∧ ∀ d ∈ es, μ d ≤ μ (.slice es sp)) (hμa : ∀ (ps : List (DataW H)), ∀ d ∈ ps, μ d ≤ μ (.agg ps))
 (hG : ∀ k arr el fr, w.heap[k]? = some (.cells arr el fr) → G k) {n : Nat} {t : TypeId} {v : Value} {d : DataW H} {p : List MemPlace} (hs : sup P n t = true) (hc : v.cells.toList = [v])
 (h : DataW.Trod enc P w 0 spare true t v d p) (hL : μ d ≤ L) : ∃ x, jy P L n t [x] ∧ dG w G x v := by
 obtain ⟨fuel, hf⟩ := h
 rw [hc] at hf
 obtain ⟨ps, h1, h2, h3⟩ := oB hμs hμa hG n t fuel _ _ hs hf hL
 obtain ⟨x, rfl⟩ := List.length_eq_one_iff.1 h2.1
 exact ⟨x, h1, (h2.2 0 x v rfl rfl).1⟩
end
section
variable {P : Program} {L n : Nat} {t : TypeId} {ps : List PV}
theorem v7 (ht : P.underlying t = some .bool) (h : jy P L (n + 1) t ps) : ∃ b, ps = [.bool b] := by
 rw [jy, ht] at h
 exact h
theorem xu {k : IntKind} (ht : P.underlying t = some (.int k)) (h : jy P L (n + 1) t ps) : ∃ i, ps = [.int k i] ∧ (Lit.int k i).wf = true := by
 rw [jy, ht] at h
 exact h
theorem lE {e : TypeId} (ht : P.underlying t = some (.slice e)) (h : jy P L (n + 1) t ps) : ∃ es, ps = [.sl es] ∧ es.length ≤ L ∧ ∀ y ∈ es, ∃ qs, y = fX (jT P e) qs ∧ jy P L n e qs := by
 rw [jy, ht] at h
 exact h
theorem rY {fs : Array Field} (ht : P.underlying t = some (.struct fs)) (h : jy P L (n + 1) t ps) : zJ (jy P L n) fs.toList ps := by
 rw [jy, ht] at h
 exact h
end
end Go.Proofs.YtdieenbfdeaffabGreat.Vpi

