/- The verified interpreter, part 13: calls; The verified interpreter, part 14: one operation with its guard, and regions in the order of the text; The verified interpreter, part 15: what an operation reads and writes, and that it depends on nothing else; The verified interpreter, part 16: two operations that change places; The verified interpreter, part 17: regions whose order is drawn; The verified interpreter, part 18: regions whose order is drawn, run in any order; The verified interpreter, part 19: a drawn region answers as the order of the text does; The verified interpreter, part 19b: records of ranges over functions, beside the state; The verified interpreter, part 20: whole functions; The verified interpreter, part 21: runs with some fuel, and rules to go through them with open values; The verified interpreter, part 22: each operation's rule as an equation, for rewriting; what comes behind is kept as data. No condition. -/
import Derived.Test.YtdieenbfdeaffabGreatZa1
import Derived.Tactics
import Derived.OrdersIn
import Derived.RangeFuncNested
import Derived.Scope
import Derived.IntWalk
set_option linter.unusedSimpArgs false
set_option linter.unusedVariables false
open Array renaming replicate → ee, getD_eq_getD_getElem? → eJ, length_toList → fK
open Bool renaming and_eq_true → aA, false_eq_true → aR
open List renaming replicate → aw, length_set → ay, getElem?_append_left → aB, getElem?_append_right → aC, getElem?_set_ne → aE, mem_append → aF, getElem?_eq_none → aG, getD_eq_getElem?_getD → aK, getElem?_take → aN, getElem?_set_self → aO, append_assoc → aP, all_eq_true → aU, mem_of_getElem? → bf, getElem?_drop → bF, getElem?_eq_getElem → bG, length_append → bX, range → ca, getElem?_map → cd, flatMap_cons → cu, not_mem_nil → cU, mem_cons_self → dj, ext_getElem? → dv, mem_cons_of_mem → dK, mem_singleton → dM, length_cons → dZ, cons_append → fk, getElem?_range → gn
open Nat renaming le_refl → av, lt_or_ge → ax, zero_le → aD, le_trans → a9, add_zero → bw, lt_of_lt_of_le → bP, add_assoc → dh, mul_one → dq, sub_self → eI, add_sub_cancel_left → gE
open Option renaming map_eq_some_iff → au, map_some → aH, isSome_iff_exists → cw, map_map → df, bind_eq_some_iff → fo
namespace Go.Proofs.YtdieenbfdeaffabGreat.Vpi
open Go
def eF (P : Program) (run : dx) : Prop :=
 ∀ (f : Nat) (args : List CV) (σ : ar) (r : CV × ar), run f args σ = some r → ∀ (w : World) (G : Nat → Prop) (ρ : List Loc), St w G ρ σ → ∀ vs : List Value, args.length = vs.length →
  (∀ (k : Nat) c v, args[k]? = some c → vs[k]? = some v → bT w G ρ c v) →
  nJ P f = true ∧ Calls P f vs.toArray w fun en w' => ∃ v G' ρ', en = .returned v ∧ St w' G' ρ' r.2 ∧ Ext w G ρ w' G' ρ' ∧ bT w' G' ρ' r.1 v
section
variable {P : Program} {w : World} {G : Nat → Prop} {ρ : List Loc} {σ : ar} {run : dx}
theorem oA {w' : World} {G' : Nat → Prop} {ρc : List Loc} (hs : St w G ρ σ) (he : Ext w G [] w' G' ρc) (hg : ∀ k, G' k → k < w'.heap.size) : St w' G' ρ σ ∧ Ext w G ρ w' G' ρ := by
 have nolive : ∀ k, ¬ Live [] k := by rintro k ⟨i, o, t, s, h⟩; simp at h
 have hold : ∀ k, k < w.heap.size → w'.heap[k]? = w.heap[k]? := fun k hk => he.below k hk (nolive k)
 have hGsame : ∀ k, G k → w'.heap[k]? = w.heap[k]? := fun k hk => hold k (hs.g k hk)
 constructor
 ·refine ⟨hg, hs.len, hs.inj, ?_⟩
  intro i l b hi hb
  refine (hs.ok i l b hi hb).mono hGsame he.grow (cx.refl _) ?_
  rintro k o t s rfl
  have hlt := hs.ji ⟨i, o, t, s, hi⟩
  refine ⟨hold k hlt, ?_⟩
  intro hn hg'
  rcases he.only k hg' with h | h | h
  ·exact hn h
  ·omega
  ·exact nolive k h
 ·refine ⟨he.wld, cx.refl _, he.heap, he.grow, ?_, ?_, fun _ h => .inl h⟩
  ·intro k hk
   rcases he.only k hk with h | h | h
   ·exact .inl h
   ·exact .inr (.inl h)
   ·exact (nolive k h).elim
  ·exact fun k hk _ => hold k hk
theorem St.empty (hs : St w G ρ σ) : St w G [] [] := ⟨hs.g, rfl, by simp, by simp⟩
theorem nD {c : CV} {x : PV} {v : Value} (h : eP c = some x) (hr : bT w G ρ c v) : dG w G x v := by
 unfold eP at h
 split at h
 ·cases h; exact gX hr
 ·cases h; rw [gw hr]; exact .nil _ _
 ·cases h
theorem pM : ∀ {cs : List CV} {xs : List PV} {vs : List Value}, iP cs = some xs → cs.length = vs.length → (∀ (k : Nat) c v, cs[k]? = some c → vs[k]? = some v → bT w G ρ c v) →
 xs.length = vs.length ∧ ∀ (k : Nat) x v, xs[k]? = some x → vs[k]? = some v → dG w G x v
 | [], xs, vs, h, hl, _ => by simp [iP] at h; subst h; exact ⟨hl, by simp⟩
 | c :: cs, xs, [], _, hl, _ => by simp at hl
 | c :: cs, xs, v :: vs, h, hl, hk => by
   simp only [iP] at h
   split at h
   ·rename_i x hx
    simp only [au] at h
    obtain ⟨ys, hys, rfl⟩ := h
    obtain ⟨h1, h2⟩ := pM hys (by simpa using hl) (fun k c v hc hv => hk (k + 1) c v (by simpa using hc) (by simpa using hv))
    refine ⟨by simp [h1], ?_⟩
    intro k y u hy hu
    cases k with
    | zero => simp at hy hu; subst hy hu; exact nD hx (hk 0 c _ rfl rfl)
    | succ k => exact h2 k y u (by simpa using hy) (by simpa using hu)
   ·cases h
theorem zq {c : CV} {x : PV} {v : Value} (h : toP c = some x) (hr : bT w G ρ c v) : dG w G x v := by
 cases c with
 | agg cs =>
   simp only [toP, au] at h
   obtain ⟨xs, hxs, rfl⟩ := h
   obtain ⟨vs, rfl, hl, hk, h1⟩ := nO hr
   obtain ⟨h2, h3⟩ := pM hxs hl hk
   exact .agg xs vs h2 h3 h1
 | _ => simp only [toP] at h; exact nD h hr
theorem lY : ∀ {cs : List CV} {xs : List PV} {vs : List Value}, ig cs = some xs → cs.length = vs.length → (∀ (k : Nat) c v, cs[k]? = some c → vs[k]? = some v → bT w G ρ c v) →
 xs.length = vs.length ∧ ∀ (k : Nat) x v, xs[k]? = some x → vs[k]? = some v → dG w G x v
 | [], xs, vs, h, hl, _ => by simp [ig] at h; subst h; exact ⟨hl, by simp⟩
 | c :: cs, xs, [], _, hl, _ => by simp at hl
 | c :: cs, xs, v :: vs, h, hl, hk => by
   simp only [ig] at h
   split at h
   ·rename_i x hx
    simp only [au] at h
    obtain ⟨ys, hys, rfl⟩ := h
    obtain ⟨h1, h2⟩ := lY hys (by simpa using hl) (fun k c v hc hv => hk (k + 1) c v (by simpa using hc) (by simpa using hv))
    refine ⟨by simp [h1], ?_⟩
    intro k y u hy hu
    cases k with
    | zero => simp at hy hu; subst hy hu; exact zq hx (hk 0 c _ rfl rfl)
    | succ k => exact h2 k y u (by simpa using hy) (by simpa using hu)
   ·cases h
theorem g9 {α : Type} {l : List α} {n i : Nat} : (l.take n)[i]? = if i < n then l[i]? else none := aN
theorem nq {c : CV} {v : Value} {n : Nat} (h : gK n c = true) (hr : bT w G ρ c v) : bT w G (ρ.take n) c v := by
 cases hr with
 | any v => exact .any v
 | p x v h => exact .p x v h
 | nils => exact .nils
 | own b off m a cap hc ho =>
   simp only [gK, decide_eq_true_eq] at h
   refine .own b off m a cap hc ?_
   simp only [dJ, g9, if_pos h] at ho ⊢
   exact ho
 | ptr b i off a ho =>
   simp only [gK, decide_eq_true_eq] at h
   refine .ptr b i off a ?_
   simp only [ie, g9, if_pos h] at ho ⊢
   exact ho
 | rp => cases h
 | agg => cases h
 | tup => cases h
 | fn f cap vs hl hk =>
   refine .fn f cap vs hl ?_
   intro k c v hc hv
   have h1 := hk k c v hc hv
   simp only [gK, aU] at h
   have h2 := h c (bf hc)
   cases h1 with
   | any v => exact .any v
   | p x v h => exact .p x v h
   | nils => exact .nils
   | own b off m a cap hcap ho =>
     simp only [decide_eq_true_eq] at h2
     refine .own b off m a cap hcap ?_
     simp only [dJ, g9, if_pos h2] at ho ⊢
     exact ho
   | ptr b i off a ho =>
     simp only [decide_eq_true_eq] at h2
     refine .ptr b i off a ?_
     simp only [ie, g9, if_pos h2] at ho ⊢
     exact ho
   | rp => cases h2
   | agg => cases h2
   | tup => cases h2
   | fn => cases h2
theorem St.CF {n : Nat} (hs : St w G ρ σ) (h : (σ.take n).all (dO n) = true) : St w G (ρ.take n) (σ.take n) := by
 refine ⟨hs.g, by simp [hs.len], ?_, ?_⟩
 ·intro i j k o t s o' t' s' hi hj
  rw [g9] at hi hj
  split at hi
  ·split at hj
   ·exact hs.inj i j k o t s o' t' s' hi hj
   ·cases hj
  ·cases hi
 ·intro i l b hi hb
  have hb0 := hb
  rw [g9] at hi hb
  by_cases hin : i < n
  ·rw [if_pos hin] at hi hb
   have hok := hs.ok i l b hi hb
   unfold ej at hok ⊢
   split at hok
   ·trivial
   ·trivial
   ·exact hok
   ·exact hok
   ·obtain ⟨h1, h2, arr, el, h3, h4, h5, h6⟩ := hok
    refine ⟨h1, h2, arr, el, h3, h4, h5, ?_⟩
    intro k c u hc hu
    have hbb := aU.1 h _ (bf hb0)
    simp only [dO, aU] at hbb
    exact ⟨nq (hbb c (bf hc)) (h6 k c u hc hu).1, (h6 k c u hc hu).2⟩
   ·exact hok.elim
  ·rw [if_neg hin] at hi; cases hi
theorem qf {c d : CV} {v : Value} {n : Nat} {G' : Nat → Prop} (hs : St w G ρ σ) (h : dL n σ c = some d) (hr : bT w G ρ c v) (hG : ∀ k, G k → G' k) (hO : ∀ b ∈ aV c, n ≤ b → ∀ (blk o t s : Nat), ρ[b]? = some (.lv blk o t s) → G' blk) : bT w G' (ρ.take n) d v := by
 have pure : ∀ {x : PV}, dG w G' x v → bT w G' (ρ.take n) (.p x) v := fun h => .p _ _ h
 unfold dL at h
 split at h
 ·cases h; exact .any _
 ·rename_i b off m
  split at h
  ·rename_i hlt
   cases h
   exact (nq (n := n) (by simpa [gK] using hlt) hr).mono (fun _ _ => rfl) hG (cx.refl _)
  ·rename_i hge
   simp only [au] at h
   obtain ⟨x, hx, rfl⟩ := h
   refine pure (oR hs hx hr hG ?_)
   intro b' hb' blk o t s hl
   simp only [eA, dM] at hb'
   subst hb'
   exact hO b' (by simp [aV, eA]) (by omega) blk o t s hl
 ·rename_i b i off
  split at h
  ·rename_i hlt
   cases h
   exact (nq (n := n) (by simpa [gK] using hlt) hr).mono (fun _ _ => rfl) hG (cx.refl _)
  ·cases h
 ·rename_i cs
  split at h
  ·rename_i hall
   simp only [au] at h
   obtain ⟨x, hx, rfl⟩ := h
   refine pure (nT hs hx hr hG ?_)
   intro b hb blk o t s hl
   refine hO b hb ?_ blk o t s hl
   simp only [aV, List.mem_flatMap] at hb
   obtain ⟨c, hc, hbc⟩ := hb
   have := aU.1 hall c hc
   cases c with
   | own b' off m =>
     simp only [eA, dM] at hbc
     subst hbc
     simpa using this
   | _ => simp [eA] at hbc
  ·cases h
 ·rename_i h1 h2 h3 h4
  simp only [au] at h
  obtain ⟨x, hx, rfl⟩ := h
  refine pure (nT hs hx hr hG ?_)
  intro b hb blk o t s hl
  cases c with
  | agg cs => exact (h4 cs rfl).elim
  | own b' off m => exact (h2 b' off m rfl).elim
  | _ => simp [aV, eA] at hb
def kW : CV → List Nat
 | .tup vs => vs.flatMap aV
 | c => aV c
theorem tK {c d : CV} {n : Nat} (hs : St w G ρ σ) {v : Value} (hr : bT w G ρ c v) (h : dL n σ c = some d) : ∀ b ∈ aV c, b < σ.length := by
 cases c with
 | own b off m =>
   intro b' hb'
   simp only [aV, eA, dM] at hb'
   subst hb'
   obtain ⟨ad, cap, _, _, hok⟩ := fV hr
   rw [← hs.len]
   unfold dJ at hok
   split at hok
   ·rename_i hl; exact ba hl
   ·rename_i hl; exact ba hl
   ·rename_i hl; exact ba hl
   ·exact hok.elim
 | agg cs =>
   simp only [dL] at h
   split at h
   ·simp only [au] at h
    obtain ⟨x, hx, rfl⟩ := h
    exact ux hx
   ·cases h
 | _ => intro b hb; simp [aV, eA] at hb
theorem ph {n : Nat} {G' : Nat → Prop} (hs : St w G ρ σ) (hG : ∀ k, G k → G' k) : ∀ {cs ds : List CV} {vs : List Value}, j2 n σ cs = some ds → cs.length = vs.length → (∀ (k : Nat) c v, cs[k]? = some c → vs[k]? = some v → bT w G ρ c v) →
 (∀ b ∈ cs.flatMap aV, n ≤ b → ∀ (blk o t s : Nat), ρ[b]? = some (.lv blk o t s) → G' blk) →
 ds.length = vs.length ∧ ∀ (k : Nat) d v, ds[k]? = some d → vs[k]? = some v → bT w G' (ρ.take n) d v
 | [], ds, vs, h, hl, _, _ => by simp [j2] at h; subst h; exact ⟨hl, by simp⟩
 | c :: cs, ds, [], _, hl, _, _ => by simp at hl
 | c :: cs, ds, v :: vs, h, hl, hk, hO => by
   simp only [j2] at h
   split at h
   ·rename_i x hx
    simp only [au] at h
    obtain ⟨ys, hys, rfl⟩ := h
    obtain ⟨h1, h2⟩ := ph hs hG hys (by simpa using hl) (fun k c v hc hv => hk (k + 1) c v (by simpa using hc) (by simpa using hv)) (fun b hb => hO b (by simp only [cu, aF]; exact .inr hb))
    refine ⟨by simp [h1], ?_⟩
    intro k y u hy hu
    cases k with
    | zero =>
      simp at hy hu; subst hy hu
      exact qf hs hx (hk 0 c _ rfl rfl) hG (fun b hb => hO b (by simp only [cu, aF]; exact .inl hb))
    | succ k => exact h2 k y u (by simpa using hy) (by simpa using hu)
   ·cases h
theorem tJ {n : Nat} (hs : St w G ρ σ) : ∀ {cs ds : List CV} {vs : List Value}, j2 n σ cs = some ds → cs.length = vs.length → (∀ (k : Nat) c v, cs[k]? = some c → vs[k]? = some v → bT w G ρ c v) → ∀ b ∈ cs.flatMap aV, b < σ.length
 | [], _, _, _, _, _ => by simp
 | c :: cs, ds, [], _, hl, _ => by simp at hl
 | c :: cs, ds, v :: vs, h, hl, hk => by
   simp only [j2] at h
   split at h
   ·rename_i x hx
    simp only [au] at h
    obtain ⟨ys, hys, rfl⟩ := h
    intro b hb
    simp only [cu, aF] at hb
    rcases hb with hb | hb
    ·exact tK hs (hk 0 c _ rfl rfl) hx b hb
    ·exact tJ hs hys (by simpa using hl) (fun k c v hc hv => hk (k + 1) c v (by simpa using hc) (by simpa using hv)) b hb
   ·cases h
theorem fP : ∀ (bs : List Nat) (σ : ar) (i : Nat), i ∉ bs → (fa σ bs)[i]? = σ[i]?
 | [], σ, i, _ => rfl
 | b :: bs, σ, i, h => by
   show (fa (σ.set b .dead) bs)[i]? = _
   rw [fP bs _ i (fun x => h (by simp [x])), aE (fun x => h (by simp [x]))]
theorem tc (bs : List Nat) (σ : ar) (n : Nat) (h : ∀ b ∈ bs, n ≤ b) : (fa σ bs).take n = σ.take n := by
 apply dv
 intro i
 rw [g9, g9]
 split
 ·rename_i hi
  exact fP bs σ i fun hm => by have := h i hm; omega
 ·rfl
theorem pg {c d : CV} {v : Value} {n : Nat} (hs : St w G ρ σ) (h : back n σ c = some d) (hr : bT w G ρ c v) (hb : (σ.take n).all (dO n) = true) :
 ∃ G' ρ', St w G' ρ' (σ.take n) ∧ bT w G' ρ' d v ∧ (∀ k, G k → G' k) ∧ (∀ k, G' k → G k ∨ Live ρ k) ∧ (∀ (i : Nat) l, i < n → ρ[i]? = some l → ρ'[i]? = some l ∨ ρ'[i]? = some .dead ∨ l = .hole) ∧ (∀ k, Live ρ' k → Live ρ k) := by
 have hlt : ∀ b ∈ kW c, b < σ.length := by
  cases c with
  | tup cs =>
    simp only [back, au] at h
    obtain ⟨ds, hds, rfl⟩ := h
    obtain ⟨vs, rfl, hl, hk⟩ := qH hr
    exact tJ hs hds hl hk
  | _ => simp only [back] at h; simp only [kW]; exact tK hs hr h
 obtain ⟨G', ρ1, s1, e1, t1, d1⟩ := jE ((kW c).filter (n ≤ ·)) G ρ σ hs (fun b hb => hlt b (List.mem_filter.1 hb).1)
 have htake : (fa σ ((kW c).filter (n ≤ ·))).take n = σ.take n := tc _ _ _ fun b hb => by simpa using (List.mem_filter.1 hb).2
 have s2 := s1.CF (n := n) (by rw [htake]; exact hb)
 rw [htake] at s2
 have hO : ∀ b ∈ kW c, n ≤ b → ∀ (blk o t s : Nat), ρ[b]? = some (.lv blk o t s) → G' blk := by
  intro b hb hnb blk o t s hl
  rcases t1 b blk o t s hl with h1 | h1
  ·rw [d1 b (List.mem_filter.2 ⟨hb, by simpa using hnb⟩)] at h1; cases h1
  ·exact h1
 have hrep : bT w G' (ρ.take n) d v := by
  cases c with
  | tup cs =>
    simp only [back, au] at h
    obtain ⟨ds, hds, rfl⟩ := h
    obtain ⟨vs, rfl, hl, hk⟩ := qH hr
    obtain ⟨h1, h2⟩ := ph hs e1.grow hds hl hk hO
    exact .tup ds vs h1 h2
  | _ => simp only [back] at h; simp only [kW] at hO; exact qf hs h hr e1.grow hO
 have hloc : ∀ (i : Nat) l, i < n → ρ[i]? = some l → (ρ1.take n)[i]? = some l ∨ (ρ1.take n)[i]? = some .dead ∨ l = .hole := by
  intro i l hi hl
  rw [g9, if_pos hi]
  exact e1.loc i l hl
 refine ⟨G', ρ1.take n, s2, ?_, e1.grow, ?_, hloc, ?_⟩
 ·refine hrep.mono (fun _ _ => rfl) (fun _ x => x) ?_
  intro i l hl
  rw [g9] at hl
  split at hl
  ·rename_i hi; exact hloc i l hi hl
  ·cases hl
 ·intro k hk
  rcases e1.only k hk with h1 | h1 | h1
  ·exact .inl h1
  ·exact absurd (s1.g k hk) (by omega)
  ·exact .inr h1
 ·rintro k ⟨i, o, t, s, hi⟩
  rw [g9] at hi
  split at hi
  ·rcases e1.lives k ⟨i, o, t, s, hi⟩ with h1 | h1
   ·exact h1
   ·have := s1.ji ⟨i, o, t, s, hi⟩; omega
  ·cases hi
theorem pk : ∀ {cs : List CV} {ps : List PV}, fe cs = some ps → ∀ (k : Nat) c, cs[k]? = some c → ∃ p, c = .p p
 | [], ps, h, k, c, hc => by simp at hc
 | .p x :: cs, ps, h, k, c, hc => by
   simp only [fe, au] at h
   obtain ⟨qs, hq, rfl⟩ := h
   cases k with
   | zero => simp at hc; exact ⟨x, hc.symm⟩
   | succ k => exact pk hq k c (by simpa using hc)
 | .any :: cs, ps, h, k, c, hc => by simp [fe] at h
 | .nils :: cs, ps, h, k, c, hc => by simp [fe] at h
 | .own .. :: cs, ps, h, k, c, hc => by simp [fe] at h
 | .ptr .. :: cs, ps, h, k, c, hc => by simp [fe] at h
 | .rp .. :: cs, ps, h, k, c, hc => by simp [fe] at h
 | .agg .. :: cs, ps, h, k, c, hc => by simp [fe] at h
 | .tup .. :: cs, ps, h, k, c, hc => by simp [fe] at h
 | .fn .. :: cs, ps, h, k, c, hc => by simp [fe] at h
theorem mR {b : Nat} {l : Loc} (hl : ρ[b]? = some l) : ∀ {args as : List CV} {vs : List Value}, jc b args = some as → args.length = vs.length →
 (∀ (k : Nat) c v, args[k]? = some c → vs[k]? = some v → bT w G ρ c v) → as.length = vs.length ∧ ∀ (k : Nat) c v, as[k]? = some c → vs[k]? = some v → bT w G [l] c v
 | [], as, vs, h, hlen, _ => by simp [jc] at h; subst h; exact ⟨hlen, by simp⟩
 | c :: cs, as, [], _, hlen, _ => by simp at hlen
 | c :: cs, as, v :: vs, h, hlen, hk => by
   simp only [jc] at h
   split at h
   ·rename_i x hx
    simp only [au] at h
    obtain ⟨ys, hys, rfl⟩ := h
    obtain ⟨h1, h2⟩ := mR hl hys (by simpa using hlen) (fun k c v a b => hk (k + 1) c v (by simpa using a) (by simpa using b))
    refine ⟨by simp [h1], fun k d u hd hu => ?_⟩
    cases k with
    | succ k => exact h2 k d u (by simpa using hd) (by simpa using hu)
    | zero =>
      simp at hd hu
      subst hd hu
      have hr := hk 0 c _ rfl rfl
      unfold cellArg at hx
      split at hx
      ·cases hx
       exact .p _ _ (gX hr)
      ·rename_i b' i o
       split at hx
       ·rename_i hb
        cases hx
        subst hb
        cases hr with
        | ptr _ _ _ a ha =>
          refine .ptr _ _ _ _ ?_
          unfold ie at ha ⊢
          rw [hl] at ha
          exact ha
       ·cases hx
      ·cases hx
   ·cases h
theorem ug {w' : World} {G' : Nat → Prop} {ρc : List Loc} {τ : ar} {b s : Nat} {l : Loc} {cs' : List CV} {ps : List PV} (hs : St w G ρ σ) (hl : ρ[b]? = some l) (hlv : ∃ k o t s, l = .lv k o t s) (he : Ext w G [l] w' G' ρc) (hc : St w' G' ρc τ)
 (hτ : τ[0]? = some (.kblk s cs')) (hp : fe cs' = some ps) : St w' G' ρ (σ.set b (.kblk s cs')) ∧ Ext w G ρ w' G' ρ := by
 obtain ⟨k0, o0, t0, s0, rfl⟩ := hlv
 have live : ∀ k, Live [Loc.lv k0 o0 t0 s0] k → k = k0 := by
  rintro k ⟨i, o, t, s, h⟩
  cases i with
  | zero => simp at h; exact h.1.symm
  | succ i => simp at h
 have hb0 : Live ρ k0 := ⟨b, o0, t0, s0, hl⟩
 have hbl : b < σ.length := by rw [← hs.len]; exact ba hl
 have hρ0 : ρc[0]? = some (.lv k0 o0 t0 s0) := by
  have hlen : 0 < ρc.length := by rw [hc.len]; exact ba hτ
  rcases he.loc 0 _ rfl with h | h | h
  ·exact h
  ·have := hc.ok 0 _ _ h hτ
   exact this.elim
  ·cases h
 have hok := hc.ok 0 _ _ hρ0 hτ
 have hold : ∀ k, k < w.heap.size → k ≠ k0 → w'.heap[k]? = w.heap[k]? := fun k hk hne => he.below k hk fun h => hne (live k h)
 have hGsame : ∀ k, G k → w'.heap[k]? = w.heap[k]? := fun k hk => hold k (hs.g k hk) fun h => hs.z7 hb0 (h ▸ hk)
 constructor
 ·refine ⟨hc.g, by simp [hs.len], hs.inj, ?_⟩
  intro i l x hi hx
  by_cases hib : b = i
  ·subst hib
   rw [hl] at hi
   cases hi
   rw [aO hbl] at hx
   cases hx
   obtain ⟨h1, h2, arr, el, h3, h4, h5, h6⟩ := hok
   refine ⟨h1, h2, arr, el, h3, h4, h5, fun k c u hk hu => ?_⟩
   obtain ⟨p, rfl⟩ := pk hp k c hk
   obtain ⟨h7, h8⟩ := h6 k _ u hk hu
   exact ⟨.p _ _ (gX h7), h8⟩
  ·rw [aE hib] at hx
   refine (hs.ok i l x hi hx).mono hGsame he.grow (cx.refl _) ?_
   rintro k o t s rfl
   have hlt := hs.ji ⟨i, o, t, s, hi⟩
   have hne : k ≠ k0 := fun h => hib (hs.inj b i k0 o0 t0 s0 o t s hl (h ▸ hi))
   refine ⟨hold k hlt hne, ?_⟩
   intro hn hg'
   rcases he.only k hg' with h | h | h
   ·exact hn h
   ·omega
   ·exact hne (live k h)
 ·refine ⟨he.wld, cx.refl _, he.heap, he.grow, ?_, ?_, fun _ h => .inl h⟩
  ·intro k hk
   rcases he.only k hk with h | h | h
   ·exact .inl h
   ·exact .inr (.inl h)
   ·exact .inr (.inr (live k h ▸ hb0))
  ·intro k hk hn
   exact hold k hk fun h => hn (h ▸ hb0)
theorem xz {w2 : World} {G2 : Nat → Prop} {ρ2 : List Loc} {o : Option CV} {u : CV} {d : CV} {v : Value} (h : BN o = some u) (ho : o = some d) (hr : bT w G ρ d v) : bT w2 G2 ρ2 u v := by
 subst ho
 unfold BN at h
 split at h
 ·rename_i k n hd
  cases h
  cases hd
  have hv : v = .int k n := by cases hr with | p x v h => cases h; rfl
  subst hv
  exact .p _ _ (.int _ _)
 ·rename_i b hd
  cases h
  cases hd
  have := iJ hr
  subst this
  exact .p _ _ (.bool _)
 ·cases h
theorem xj {k : CK} {f : Nat} {args : List CV} {r : CV × ar} (hc : eF P run) (h : de run k f args σ = some r) (hs : St w G ρ σ) {vs : List Value} (hl : args.length = vs.length)
 (hk : ∀ (k : Nat) c v, args[k]? = some c → vs[k]? = some v → bT w G ρ c v) :
 nJ P f = true ∧ Calls P f vs.toArray w fun en w' => ∃ v G' ρ', en = .returned v ∧ St w' G' ρ' r.2 ∧ Ext w G ρ w' G' ρ' ∧ bT w' G' ρ' r.1 v := by
 have pureCall : ∀ {ps : List PV} {G1 : Nat → Prop} {ρ1 : List Loc} {σ1 τ : ar} {c d : CV}, St w G1 ρ1 σ1 → Ext w G ρ w G1 ρ1 → (ps.length = vs.length) → (∀ (k : Nat) x v, ps[k]? = some x → vs[k]? = some v → dG w G1 x v) → run f (ps.map .p) [] = some (c, τ) → back 0 τ c = some d → r = (d, σ1) →
  nJ P f = true ∧ Calls P f vs.toArray w fun en w' => ∃ v G' ρ', en = .returned v ∧ St w' G' ρ' r.2 ∧ Ext w G ρ w' G' ρ' ∧ bT w' G' ρ' r.1 v := by
  intro ps G1 ρ1 σ1 τ c d s1 e1 hpl hpr hrun hback hr
  subst hr
  obtain ⟨h1, h2⟩ := hc f (ps.map .p) [] _ hrun w G1 [] s1.empty vs (by simp [hpl]) (by
   intro k c v hc hv
   simp only [cd, au] at hc
   obtain ⟨x, hx, rfl⟩ := hc
   exact .p _ _ (hpr k x v hx hv))
  refine ⟨h1, h2.mono ?_⟩
  rintro en w' ⟨v, G', ρ', rfl, s2, e2, rep⟩
  obtain ⟨G2, ρ2, s3, rep3, g1, g2, g3, g4⟩ := pg (n := 0) s2 hback rep (by simp)
  have nolive : ∀ k, ¬ Live [] k := by rintro k ⟨i, o, t, s, h⟩; simp at h
  have e3 : Ext w G1 [] w' G2 [] := by
   refine ⟨e2.wld, cx.refl _, e2.heap, fun k hk => g1 k (e2.grow k hk), ?_, fun k hk _ => e2.below k hk (nolive k), fun k hk => .inl hk⟩
   intro k hk
   rcases g2 k hk with h | h
   ·rcases e2.only k h with h | h | h
    ·exact .inl h
    ·exact .inr (.inl h)
    ·exact (nolive k h).elim
   ·rcases e2.lives k h with h | h
    ·exact (nolive k h).elim
    ·exact .inr (.inl h)
  obtain ⟨s4, e4⟩ := oA s1 e3 s3.g
  refine ⟨v, G2, ρ1, rfl, s4, e1.trans e4, ?_⟩
  have hρ2 : ρ2 = [] := by have := s3.len; simpa using this
  subst hρ2
  exact rep3.mono (fun _ _ => rfl) (fun _ x => x) (fun i l h => by simp at h)
 unfold de at h
 split at h
 ·split at h
  ·rename_i ps hps
   split at h
   ·rename_i c τ hrun
    simp only [au] at h
    obtain ⟨d, hd, rfl⟩ := h
    obtain ⟨h1, h2⟩ := lY hps hl hk
    exact pureCall hs Ext.refl h1 h2 hrun hd rfl
   ·cases h
  ·cases h
 ·split at h
  ·rename_i ps hps
   split at h
   ·rename_i c τ hrun
    simp only [au] at h
    obtain ⟨d, hd, rfl⟩ := h
    obtain ⟨G1, ρ1, s1, e1, h1, h2⟩ := oN hs hps hl hk
    exact pureCall s1 e1 h1 h2 hrun hd rfl
   ·cases h
  ·cases h
 ·split at h
  ·rename_i c τ hrun
   split at h
   ·rename_i hbelow
    simp only [au] at h
    obtain ⟨d, hd, rfl⟩ := h
    obtain ⟨h1, h2⟩ := hc f args σ _ hrun w G ρ hs vs hl hk
    refine ⟨h1, h2.mono ?_⟩
    rintro en w' ⟨v, G', ρ', rfl, s2, e2, rep⟩
    obtain ⟨G2, ρ2, s3, rep3, g1, g2, g3, g4⟩ := pg (n := σ.length) s2 hd rep hbelow
    refine ⟨v, G2, ρ2, rfl, s3, ?_, rep3⟩
    refine ⟨e2.wld, ?_, e2.heap, fun k hk => g1 k (e2.grow k hk), ?_, e2.below, fun k hk => e2.lives k (g4 k hk)⟩
    ·intro i l hi
     have hin : i < σ.length := by rw [← hs.len]; exact ba hi
     rcases e2.loc i l hi with h | h | h
     ·exact g3 i l hin h
     ·rcases g3 i _ hin h with h | h | h
      ·exact .inr (.inl h)
      ·exact .inr (.inl h)
      ·cases h
     ·exact .inr (.inr h)
    ·intro k hk
     rcases g2 k hk with h | h
     ·exact e2.only k h
     ·rcases e2.lives k h with h | h
      ·exact .inr (.inr h)
      ·exact .inr (.inl h)
   ·cases h
  ·cases h
 ·exact hc f args σ r h w G ρ hs vs hl hk
 ·split at h
  ·rename_i ps hps
   split at h
   ·rename_i c τ hrun
    simp only [au] at h
    obtain ⟨u, hu, rfl⟩ := h
    obtain ⟨G1, ρ1, s1, e1, a1, a2⟩ := oN hs hps hl hk
    obtain ⟨h1, h2⟩ := hc f (ps.map .p) [] _ hrun w G1 [] s1.empty vs (by simp [a1]) (by
     intro k c v hc hv
     simp only [cd, au] at hc
     obtain ⟨x, hx, rfl⟩ := hc
     exact .p _ _ (a2 k x v hx hv))
    refine ⟨h1, h2.mono ?_⟩
    rintro en w' ⟨v, G', ρ', rfl, s2, e2, rep⟩
    obtain ⟨d, hd⟩ : ∃ d, back 0 τ c = some d := by
     cases hb : back 0 τ c with
     | none => rw [hb] at hu; cases hu
     | some d => exact ⟨d, rfl⟩
    obtain ⟨G2, ρ2, s3, rep3, g1, g2, g3, g4⟩ := pg (n := 0) s2 hd rep (by simp)
    have nolive : ∀ k, ¬ Live [] k := by rintro k ⟨i, o, t, s, h⟩; simp at h
    have hold : ∀ k, k < w.heap.size → w'.heap[k]? = w.heap[k]? := fun k hk => e2.below k hk (nolive k)
    refine ⟨v, G, ρ, rfl, ⟨fun k hk => bP (hs.g k hk) e2.heap, hs.len, hs.inj, ?_⟩, ⟨e2.wld, cx.refl _, e2.heap, fun _ x => x, fun _ x => .inl x, fun k hk _ => hold k hk, fun _ x => .inl x⟩, xz hu hd rep3⟩
    intro i l b hi hb
    refine (hs.ok i l b hi hb).mono (fun k hk => hold k (hs.g k hk)) (fun _ x => x) (cx.refl _) ?_
    rintro k o t s rfl
    exact ⟨hold k (hs.ji ⟨i, o, t, s, hi⟩), id⟩
   ·cases h
  ·cases h
 ·split at h
  ·split at h
   ·rename_i ps hps
    split at h
    ·rename_i c τ hrun
     simp only [au] at h
     obtain ⟨d, hd, rfl⟩ := h
     obtain ⟨h1, h2⟩ := lY hps hl hk
     exact pureCall hs Ext.refl h1 h2 hrun hd rfl
    ·cases h
   ·cases h
  ·rename_i b hb
   split at h
   ·rename_i s cs hσ
    split at h
    ·rename_i as q has hcs
     split at h
     ·rename_i v' τ hrun
      split at h
      ·rename_i s' cs' hτ
       split at h
       ·rename_i hcond
        cases h
        have hbl : b < ρ.length := by rw [hs.len]; exact ba hσ
        have hl0 : ρ[b]? = some ρ[b] := bG hbl
        have hok := hs.ok b _ _ hl0 hσ
        have hlv : ∃ k o t s, ρ[b] = .lv k o t s := by
         generalize ρ[b] = l at hok
         cases l with
         | lv k o t s => exact ⟨k, o, t, s, rfl⟩
         | _ => exact hok.elim
        obtain ⟨a1, a2⟩ := mR hl0 has hl hk
        have hsub : St w G [ρ[b]] [.kblk s cs] := by
         refine ⟨hs.g, rfl, ?_, ?_⟩
         ·intro i j k o t s o' t' s' h1 h2
          have e1 := ba h1
          have e2 := ba h2
          simp at e1 e2
          omega
         ·intro i l x h1 h2
          have e1 := ba h1
          simp at e1
          subst e1
          simp at h1 h2
          subst h1 h2
          generalize ρ[b] = l at hok
          cases l with
          | lv k o t s =>
            obtain ⟨h1, h2, arr, el, h3, h4, h5, h6⟩ := hok
            refine ⟨h1, h2, arr, el, h3, h4, h5, fun k c u hk hu => ?_⟩
            obtain ⟨p, rfl⟩ := pk hcs k c hk
            obtain ⟨h7, h8⟩ := h6 k _ u hk hu
            exact ⟨.p _ _ (gX h7), h8⟩
          | _ => exact hok.elim
        obtain ⟨h1, h2⟩ := hc f as _ _ hrun w G _ hsub vs a1 a2
        refine ⟨h1, h2.mono ?_⟩
        rintro en w' ⟨v, G', ρ', rfl, s2, e2, rep⟩
        obtain ⟨ps, hps⟩ := cw.1 hcond.2
        obtain ⟨s3, e3⟩ := ug hs hl0 hlv e2 s2 hτ hps
        exact ⟨v, G', ρ, rfl, s3, e3, .p _ _ (gX rep)⟩
       ·cases h
      ·cases h
     ·cases h
    ·cases h
   ·cases h
  ·cases h
theorem St.Dq {w' : World} {G' : Nat → Prop} {σ' : ar} {base : Nat} {sl : Option Nat} {b : Blk} {k : Nat} {l : Loc} (h : St w' G' ρ σ) (he : Ext w G ρ w' G' ρ) (hp : Vpi.push base sl σ b = some (k, σ'))
 (hb : ∀ ρ' : List Loc, ej w' G' ρ' l b) (hnew : ∀ (blk o t s : Nat), l = .lv blk o t s → w.heap.size ≤ blk ∧ ¬ Live ρ blk) : ∃ ρ', St w' G' ρ' σ' ∧ Ext w G ρ w' G' ρ' ∧ ρ'[k]? = some l := by
 have fin : ∀ ρ2 : List Loc, cx ρ ρ2 → ρ2.length = σ'.length → (∀ (i : Nat) l', ρ2[i]? = some l' → (i ≠ k ∧ ρ[i]? = some l' ∧ σ'[i]? = σ[i]?) ∨ (i = k ∧ l' = l)) → σ'[k]? = some b → ρ2[k]? = some l → ∃ ρ', St w' G' ρ' σ' ∧ Ext w G ρ w' G' ρ' ∧ ρ'[k]? = some l := by
  intro ρ2 hloc hlen hcase hk hl
  refine ⟨ρ2, ⟨h.g, hlen, ?_, ?_⟩, ⟨he.wld, hloc, he.heap, he.grow, he.only, he.below, ?_⟩, hl⟩
  ·intro i j kk o t s o' t' s' hi hj
   rcases hcase i _ hi with ⟨_, h1, _⟩ | ⟨h1, h2⟩ <;> rcases hcase j _ hj with ⟨_, h3, _⟩ | ⟨h3, h4⟩
   ·exact h.inj i j kk o t s o' t' s' h1 h3
   ·exact ((hnew _ _ _ _ h4.symm).2 ⟨i, o, t, s, h1⟩).elim
   ·exact ((hnew _ _ _ _ h2.symm).2 ⟨j, o', t', s', h3⟩).elim
   ·omega
  ·intro i l' x hi hx
   rcases hcase i _ hi with ⟨_, h1, h5⟩ | ⟨h1, h2⟩
   ·rw [h5] at hx
    exact (h.ok i l' x h1 hx).mono (fun _ _ => rfl) (fun _ y => y) hloc (fun _ _ _ _ _ => ⟨rfl, id⟩)
   ·subst h1 h2
    rw [hk] at hx
    cases hx
    exact hb _
  ·rintro kk ⟨i, o, t, s, hi⟩
   rcases hcase i _ hi with ⟨_, h1, _⟩ | ⟨_, h2⟩
   ·exact .inl ⟨i, o, t, s, h1⟩
   ·exact .inr (hnew _ _ _ _ h2.symm).1
 rcases m8 hp with ⟨rfl, rfl⟩ | ⟨hk, rfl⟩
 ·refine fin (ρ ++ [l]) ?_ (by simp [h.len]) ?_ (by simp) (by rw [← h.len]; simp)
  ·intro i l' hi
   exact .inl (by rw [aB (ba hi)]; exact hi)
  ·intro i l' hi
   rcases ax i ρ.length with h1 | h1
   ·rw [aB h1] at hi
    exact .inl ⟨by rw [← h.len]; omega, hi, by rw [aB (by rw [← h.len]; exact h1)]⟩
   ·rw [aC h1] at hi
    have h2 := ba hi
    simp at h2
    have h3 : i - ρ.length = 0 := by omega
    rw [h3] at hi
    cases hi
    exact .inr ⟨by rw [← h.len]; omega, rfl⟩
 ·have hklt : k < ρ.length := by rw [h.len]; exact ba hk
  have hρk : ρ[k]? = some .hole := by
   have := h.ok k ρ[k] .hole (by simp [hklt]) hk
   unfold ej at this
   split at this <;> simp_all
  refine fin (ρ.set k l) ?_ (by simp [h.len]) ?_ (by rw [aO (ba hk)]) (by rw [aO hklt])
  ·intro i l' hi
   by_cases hik : k = i
   ·subst hik; rw [hρk] at hi; cases hi; exact .inr (.inr rfl)
   ·exact .inl (by rw [aE hik]; exact hi)
  ·intro i l' hi
   by_cases hik : k = i
   ·subst hik; rw [aO hklt] at hi; exact .inr ⟨rfl, by cases hi; rfl⟩
   ·rw [aE hik] at hi; exact .inl ⟨fun x => hik x.symm, hi, by rw [aE hik]⟩
theorem xe {f : Nat} {args : List CV} {x : Nat × List PV} {base : Nat} {sl : Option Nat} {k : Nat} {σ' : ar} (hc : eF P run) (h : mH run f args = some x) (hp : push base sl σ (.prow x.1 x.2) = some (k, σ')) (hs : St w G ρ σ) {vs : List Value} (hl : args.length = vs.length)
 (hk : ∀ (k : Nat) c v, args[k]? = some c → vs[k]? = some v → bT w G ρ c v) :
 nJ P f = true ∧ Calls P f vs.toArray w fun en w' => ∃ v G' ρ', en = .returned v ∧ St w' G' ρ' σ' ∧ Ext w G ρ w' G' ρ' ∧ bT w' G' ρ' (.own k 0 x.2.length) v := by
 unfold mH at h
 split at h
 ·rename_i ps hps
  obtain ⟨a1, a2⟩ := lY hps hl hk
  split at h
  ·rename_i b n τ hrun
   obtain ⟨h1, h2⟩ := hc f (ps.map .p) [] _ hrun w G [] hs.empty vs (by simp [a1]) (by
    intro k c v hc hv
    simp only [cd, au] at hc
    obtain ⟨x, hx, rfl⟩ := hc
    exact .p _ _ (a2 k x v hx hv))
   split at h
   ·rename_i s es hτ
    split at h
    ·rename_i hn
     cases h
     refine ⟨h1, h2.mono ?_⟩
     rintro en w' ⟨v, G', ρ', rfl, s2, e2, rep⟩
     obtain ⟨ad, cap, hv, hcap, hok⟩ := fV rep
     obtain ⟨s3, e3⟩ := oA hs e2 s2.g
     have hbl : b < ρ'.length := by rw [s2.len]; exact ba hτ
     have hl0 : ρ'[b]? = some ρ'[b] := bG hbl
     have hblk := s2.ok b _ _ hl0 hτ
     have stay : ∀ (ρ3 : List Loc) (l : Loc), ej w' G' ρ' l (.prow s es) → ej w' G' ρ3 l (.prow s es) := by intro ρ3 l h; cases l <;> exact h
     have nolive : ∀ k, ¬ Live [] k := by rintro k ⟨i, o, t, s, h⟩; simp at h
     obtain ⟨ρ2, s4, e4, hk2⟩ := s3.Dq (l := ρ'[b]) e3 hp (fun ρ3 => stay ρ3 _ hblk) (fun blk o t s hlv => by
      rw [hlv] at hl0
      rcases e2.lives blk ⟨b, o, t, s, hl0⟩ with hh | hh
      ·exact (nolive _ hh).elim
      ·exact ⟨hh, fun hh2 => by have := hs.ji hh2; omega⟩)
     refine ⟨v, G', ρ2, rfl, s4, e4, ?_⟩
     rw [hv]
     subst hn
     refine .own k 0 _ ad cap hcap ?_
     unfold dJ at hok ⊢
     rw [hl0] at hok
     rw [hk2]
     exact hok
    ·cases h
   ·cases h
  ·cases h
 ·cases h
end
end Go.Proofs.YtdieenbfdeaffabGreat.Vpi
namespace Go.Proofs.YtdieenbfdeaffabGreat.Vpi
open Go
set_option maxRecDepth 4000
def Fr (rd : Option Nat) : Fence := { Fence.wide with round := rd }
theorem jD {rd : Option Nat} {P : Program} {m m' : Machine} : StepsIn (Machine.fenced P (Fr rd)) P m m' ↔ Steps P m m' := by
 show StepsIn (Machine.fenced P Fence.wide) P m m' ↔ _
 exact stepsIn_wide
theorem sU {rd : Option Nat} {n : Nat} {P : Program} {f : FuncId} {args : Array Value} {w : World} {R : Ending → World → Prop} : CallsIn (Fr rd) n P f args w R ↔ Calls P f args w R := by
 show CallsIn Fence.wide n P f args w R ↔ _
 exact callsIn_wide
def j3 (D : Nat → Prop) (w : World) (G : Nat → Prop) (ρ : List Loc) (a : Act) (e' : Env) (σ' : ar) (K : Act → World → Prop) : Prop :=
 ∀ a' w' G' ρ', St w' G' ρ' σ' → Ext w G ρ w' G' ρ' → cX w' G' ρ' e' a'.tmps → a'.defers = a.defers → a'.tmps.size = a.tmps.size → (∀ t, D t → a'.tmps[t]? = a.tmps[t]?) → K a' w'
theorem qK {a : Act} {d : Option Nat} {u : Value} {t : Nat} (h : d ≠ some t) : (a.put d u).tmps[t]? = a.tmps[t]? := by
 cases d with
 | none => rfl
 | some d =>
   simp only [Act.put]
   exact Array.getElem?_setIfInBounds_ne fun x => h (by rw [x])
theorem zZ {P : Program} {op : Op} {l : ROp} (h : oC P op l = true) : ∀ c, op ≠ .defer c := by
 rintro c rfl
 cases l <;> simp [oC] at h
section
variable {P : Program} {ops : Array Oper} {Q : Exit → Act → World → Prop} {w : World} {G : Nat → Prop} {ρ : List Loc} {σ : ar} {e : Env} {a : Act} {base : Nat} {run : dx} {n : Nat} {D : Nat → Prop} {rd : Option Nat} {mm : Nat}
theorem wo {P : Program} {op : Op} {k : CK} {f : Nat} {args : List Opd} (h : oC P op (.call k f args) = true) : ∃ c, op = .call c ∧ c.callee = .value (.func f) ∧ gI c.args.toList args = true := by
 cases op <;> simp only [oC, aR] at h
 rename_i c
 simp only [oF] at h
 split at h
 ·rename_i g hg
  simp only [aA, beq_iff_eq] at h
  exact ⟨c, rfl, by rw [hg, h.1], h.2⟩
 ·cases h
theorem ui {P : Program} {op : Op} {f : Nat} {args : List Opd} (h : oC P op (.madec f args) = true) : ∃ c, op = .call c ∧ c.callee = .value (.func f) ∧ gI c.args.toList args = true := by
 cases op <;> simp only [oC, aR] at h
 rename_i c
 simp only [oF] at h
 split at h
 ·rename_i g hg
  simp only [aA, beq_iff_eq] at h
  exact ⟨c, rfl, by rw [hg, h.1], h.2⟩
 ·cases h
theorem uj {P : Program} {op : Op} {k : CK} {x : Opd} {args : List Opd} (h : oC P op (.callv k x args) = true) : ∃ c y, op = .call c ∧ c.callee = .value y ∧ bN y x = true ∧ gI c.args.toList args = true := by
 cases op <;> simp only [oC, aR] at h
 rename_i c
 simp only [oF] at h
 split at h
 ·rename_i y hy
  simp only [aA] at h
  exact ⟨c, y, rfl, hy, h.1, h.2⟩
 ·cases h
theorem ou {o : Oper} {c : Call} {f : Nat} {fi cap : List Value} {y : Operand} (ho : o.op = .call c) (hc : c.callee = .value y) (hy : a.eval y = .func (.func f) fi.toArray cap.toArray) (hok : nJ P f = true) :
 (execOp a.eval o).run P w = .ok (.enter f (fi ++ c.args.toList.map a.eval ++ cap).toArray) w := by
 unfold nJ at hok
 split at hok
 ·rename_i fn hfn
  simp only [aA, bne_iff_ne, ne_eq] at hok
  have hb : fn.body.isNone = false := by
   cases hbb : fn.body with
   | none => rw [hbb] at hok; simp at hok
   | some _ => rfl
  have hb2 : ¬ fn.body = none := by intro h; rw [h] at hb; cases hb
  have hname : (fn.name == "runtime.NumGoroutine") = false := by simpa using hok.1
  have hname2 : ¬ fn.name = "runtime.NumGoroutine" := hok.1
  have hargs : (fi.toArray ++ (c.args.map a.eval ++ cap.toArray)) = (fi ++ (c.args.toList.map a.eval ++ cap)).toArray := by
   apply Array.ext'; simp
  simp [execOp, ho, resolve, hc, hy, Deferred.ofValue, invoke, callFunc, hfn, hname, hb, hb2, hname2, hargs]
 ·cases hok
theorem gW {o : Oper} {l : LOp} {v : Value} {c : CV} {σ' : ar} {w' : World} {G' : Nat → Prop} {ρ' : List Loc} {K : Act → World → Prop} (hs : St w G ρ σ) (he : cX w G ρ e a.tmps) (hd : o.dst = l.d) (hdn : ∀ t, o.dst = some t → t < a.tmps.size)
 (hD : ∀ t, D t → l.d ≠ some t) (s1 : St w' G' ρ' σ') (e1 : Ext w G ρ w' G' ρ') (r1 : bT w' G' ρ' c v) (hK : j3 D w G ρ a (sto l.d c e) σ' K) : K (a.put o.dst v) w' := by
 refine hK _ w' G' ρ' s1 e1 ?_ (put_defers _ _ _) (i6 _ _ _) fun t ht => qK (by rw [hd]; exact hD t ht)
 have := (he.ext e1 hs).sto o.dst hdn r1
 rw [← hd]; exact this
theorem u4 {o : Oper} {l : LOp} {i : Nat} {e' : Env} {σ' : ar} {K : Act → World → Prop} (hc : eF P run) (hs : St w G ρ σ) (he : cX w G ρ e a.tmps) (hn : n ≤ a.tmps.size) (hi : ops[i]? = some o) (hok : sE P ops n o l = true)
 (hD : ∀ t, D t → l.d ≠ some t) (h : evL run base l e σ = some (e', σ')) (hK : j3 D w G ρ a e' σ' K) : wpOpIn (Fr rd) mm P ops Q i K a w := by
 simp only [sE, aA] at hok
 obtain ⟨⟨h1, h2⟩, h3⟩ := hok
 have hd : o.dst = l.d ∧ (∀ t, o.dst = some t → t < a.tmps.size) ∧ (vu o.op = true → o.dst = none) := by
  split at h2
  ·rename_i x y; exact ⟨by rw [x, y], by simp [x], fun _ => x⟩
  ·rename_i x y
   simp only [aA, beq_iff_eq, decide_eq_true_eq, Bool.not_eq_true'] at h2
   obtain ⟨⟨rfl, h4⟩, h5⟩ := h2
   exact ⟨by rw [x, y], by intro t ht; rw [x] at ht; cases ht; exact bP h4 hn, by intro hst; rw [h5] at hst; cases hst⟩
  ·cases h2
 obtain ⟨hd1, hd2, hd3⟩ := hd
 have step : ∀ {v : CV} {σ2 : ar}, ev1 run base l.sl l.op e σ = some (v, σ2) → j3 D w G ρ a (sto l.d v e) σ2 K → o.wpIn (Fr rd) mm P a w K Q := by
  intro v σ2 hev hKv
  unfold Oper.wpIn
  refine ⟨fun _ _ => trivial, ?_⟩
  rw [Oper.semAt_eq _ _ _ (zZ h1)]
  have plain : ∀ {res : CV × ar}, b9 P o a w G ρ res.1 res.2 → res = (v, σ2) → o.uponIn (Fr rd) mm P a K Q ((execOp a.eval o).run P w) := by
   rintro res ⟨nx, u, w', G', ρ', hrun, hnx, s1, e1, r1⟩ rfl
   rw [hrun]
   rcases hnx with rfl | ⟨rfl, rfl⟩
   ·exact gW hs he hd1 hd2 hD s1 e1 r1 hKv
   ·exact gW hs he hd1 hd2 hD s1 e1 r1 hKv
  have called : ∀ {k : CK} {f : Nat} {args : List CV} {vs : List Value}, de run k f args σ = some (v, σ2) → args.length = vs.length → (∀ (k : Nat) c v, args[k]? = some c → vs[k]? = some v → bT w G ρ c v) →
   (nJ P f = true → (execOp a.eval o).run P w = .ok (.enter f vs.toArray) w) → o.uponIn (Fr rd) mm P a K Q ((execOp a.eval o).run P w) := by
   intro k f args vs hdo hl hk hrun
   obtain ⟨hf, hcalls⟩ := xj hc hdo hs hl hk
   rw [hrun hf, Oper.uponIn_enter]
   refine ⟨(fun h => by cases h), sU.2 (hcalls.mono ?_)⟩
   rintro en w' ⟨u, G', ρ', rfl, s1, e1, r1⟩
   exact gW hs he hd1 hd2 hD s1 e1 r1 hKv
  cases hop : l.op with
  | call k f args =>
    rw [hop] at hev h1
    simp only [ev1] at hev
    obtain ⟨c, hoo, hcal, hargs⟩ := wo h1
    obtain ⟨a1, a2⟩ := iw hargs he
    refine called hev (vs := c.args.toList.map a.eval) (by simp [a1]) a2 fun hf => ?_
    have := ou (P := P) (w := w) (a := a) (fi := []) (cap := []) hoo hcal rfl hf
    simpa using this
  | madec f args =>
    rw [hop] at hev h1
    simp only [ev1] at hev
    obtain ⟨c, hoo, hcal, hargs⟩ := ui h1
    obtain ⟨a1, a2⟩ := iw hargs he
    split at hev
    ·rename_i x hx
     rw [au] at hev
     obtain ⟨⟨k, τ⟩, hp, heq⟩ := hev
     simp only [Prod.mk.injEq] at heq
     obtain ⟨rfl, rfl⟩ := heq
     obtain ⟨hf, hcalls⟩ := xe hc hx hp hs (vs := c.args.toList.map a.eval) (by simp [a1]) a2
     have hrun := ou (P := P) (w := w) (a := a) (fi := []) (cap := []) hoo hcal rfl hf
     rw [show (execOp a.eval o).run P w = .ok (.enter f (c.args.toList.map a.eval).toArray) w by simpa using hrun, Oper.uponIn_enter]
     refine ⟨(fun h => by cases h), sU.2 (hcalls.mono ?_)⟩
     rintro en w' ⟨u, G', ρ', rfl, s1, e1, r1⟩
     exact gW hs he hd1 hd2 hD s1 e1 r1 hKv
    ·cases hev
  | callv k x args =>
    rw [hop] at hev h1
    simp only [ev1] at hev
    split at hev
    ·rename_i f cap hx
     obtain ⟨c, y, hoo, hcal, hy, hargs⟩ := uj h1
     have r1 := bk hy he
     rw [hx] at r1
     obtain ⟨cs, hcs, hcl, hck⟩ := qJ r1
     obtain ⟨a1, a2⟩ := iw hargs he
     refine called hev (vs := c.args.toList.map a.eval ++ cs) (by simp [a1, hcl]) ?_ fun hf => ?_
     ·intro j u v hu hv
      rcases ax j args.length with hj | hj
      ·rw [aB (by simpa using hj)] at hu
       rw [aB (by simp [← a1]; simpa using hj)] at hv
       exact a2 j u v hu hv
      ·rw [aC (by simpa using hj)] at hu
       rw [aC (by simp; rw [← fK, ← a1]; exact hj)] at hv
       have : j - (c.args.toList.map a.eval).length = j - (args.map (vl e)).length := by simp; rw [← fK, ← a1]
       rw [this] at hv
       exact hck _ u v hu hv
     ·have := ou (P := P) (w := w) (a := a) (fi := []) (cap := cs) hoo hcal (by simpa using hcs) hf
      simpa using this
    ·cases hev
  | _ =>
    rw [hop] at hev h1
    simp only [ev1] at hev
    exact plain (BL hs he h1 hev) rfl
 unfold wpOpIn
 simp only [hi]
 unfold evL at h
 split at h
 ·rename_i hg
  rw [hg] at h3
  have hog : o.guard = none := by
   cases hog : o.guard with
   | none => rfl
   | some x => rw [hog] at h3; cases h3
  have hw : Region.wanted o (yielded ops a.tmps) = true := by simp [Region.wanted, hog]
  rw [if_pos hw]
  simp only [au] at h
  obtain ⟨⟨v, σ2⟩, hev, heq⟩ := h
  cases heq
  exact step hev hK
 ·rename_i t want hg
  rw [hg] at h3
  cases hog : o.guard with
  | none => rw [hog] at h3; cases h3
  | some x =>
    obtain ⟨j, w0⟩ := x
    rw [hog] at h3
    simp only [aA, beq_iff_eq] at h3
    obtain ⟨rfl, h4⟩ := h3
    split at h
    ·rename_i b hb
     have r1 := he t
     rw [hb] at r1
     have r2 := iJ r1
     have hyield : yielded ops a.tmps j = some b := by
      unfold yielded
      rw [h4]
      simp only [Option.bind_some]
      have : a.tmps[t]? = some (.bool b) := by
       rw [eJ] at r2
       cases hq : a.tmps[t]? with
       | none => rw [hq] at r2; simp [undef] at r2
       | some q => rw [hq] at r2; simp at r2; rw [r2]
      rw [this]
     split at h
     ·rename_i hbw
      have hw : Region.wanted o (yielded ops a.tmps) = true := by simp [Region.wanted, hog, hyield, hbw]
      rw [if_pos hw]
      simp only [au] at h
      obtain ⟨⟨v, σ2⟩, hev, heq⟩ := h
      cases heq
      exact step hev hK
     ·rename_i hbw
      have hw : ¬ Region.wanted o (yielded ops a.tmps) = true := by simp [Region.wanted, hog, hyield, hbw]
      rw [if_neg hw]
      cases h
      refine ⟨fun _ _ => trivial, ?_⟩
      exact gW hs he hd1 hd2 hD hs Ext.refl (.tup [] [] rfl (by simp)) hK
    ·rename_i hb
     have r1 := he t
     rw [hb] at r1
     have hyield : yielded ops a.tmps j = none := by
      unfold yielded
      rw [h4]
      simp only [Option.bind_some]
      cases hq : a.tmps[t]? with
      | none => rfl
      | some q =>
        rw [eJ, hq] at r1
        simp only [Option.getD_some] at r1
        cases r1
        rfl
     have hw : ¬ Region.wanted o (yielded ops a.tmps) = true := by simp [Region.wanted, hog, hyield]
     rw [if_neg hw]
     cases h
     refine ⟨fun _ _ => trivial, ?_⟩
     exact gW hs he hd1 hd2 hD hs Ext.refl (.tup [] [] rfl (by simp)) hK
    ·cases h
theorem j3.trans {w1 : World} {G1 : Nat → Prop} {ρ1 : List Loc} {a1 : Act} {e' : Env} {σ' : ar} {K : Act → World → Prop} (hK : j3 D w G ρ a e' σ' K) (e1 : Ext w G ρ w1 G1 ρ1) (hd : a1.defers = a.defers) (hz : a1.tmps.size = a.tmps.size) (ht : ∀ t, D t → a1.tmps[t]? = a.tmps[t]?) : j3 D w1 G1 ρ1 a1 e' σ' K :=
 fun a' w' G' ρ' s2 e2 r2 d2 z2 t2 => hK a' w' G' ρ' s2 (e1.trans e2) r2 (d2.trans hd) (z2.trans hz) fun t h => (t2 t h).trans (ht t h)
theorem kX : ∀ {os : List Oper} {ls : List LOp}, okL P ops n os ls = true → os.length = ls.length ∧ ∀ (i : Nat) o l, os[i]? = some o → ls[i]? = some l → sE P ops n o l = true
 | [], [], _ => ⟨rfl, by simp⟩
 | o :: os, l :: ls, h => by
   simp only [okL, aA] at h
   obtain ⟨h1, h2⟩ := kX h.2
   refine ⟨by simp [h1], ?_⟩
   intro i x y hx hy
   cases i with
   | zero => simp at hx hy; subst hx hy; exact h.1
   | succ i => exact h2 i x y (by simpa using hx) (by simpa using hy)
 | [], _ :: _, h => by simp [okL] at h
 | _ :: _, [], h => by simp [okL] at h
theorem ma (hc : eF P run) {e' : Env} {σ' : ar} {m : Nat} :
 ∀ (ls : List LOp) (k : Nat) (w : World) (G : Nat → Prop) (ρ : List Loc) (σ : ar) (e : Env) (a : Act), k + ls.length ≤ ops.size → (∀ (i : Nat) o l, ops[k + i]? = some o → ls[i]? = some l → sE P ops n o l = true) → (∀ l ∈ ls, ∀ t, D t → l.d ≠ some t) →
  St w G ρ σ → cX w G ρ e a.tmps → n ≤ a.tmps.size → du run base ls e σ = some (e', σ') → j3 D w G ρ a e' σ' (fun a w => wpOpsIn (Fr rd) mm P ops Q (List.range' (k + ls.length) m) a w) →
  wpOpsIn (Fr rd) mm P ops Q (List.range' k (ls.length + m)) a w
 | [], k, w, G, ρ, σ, e, a, hk, hok, hD, hs, he, hn, h, hK => by
   simp only [du] at h
   cases h
   have := hK a w G ρ hs Ext.refl he rfl rfl fun _ _ => rfl
   simpa using this
 | l :: ls, k, w, G, ρ, σ, e, a, hk, hok, hD, hs, he, hn, h, hK => by
   simp only [dZ] at hk
   simp only [du] at h
   split at h
   ·rename_i e1 σ1 hev
    rw [dZ, show ls.length + 1 + m = (ls.length + m) + 1 by omega, List.range'_succ, wpOpsIn_cons]
    have hlt : k < ops.size := by omega
    refine u4 hc hs he hn (o := ops[k]) (by simp) (hok 0 _ l (by simp) rfl) (hD l (dj ..)) hev ?_
    intro a' w' G' ρ' s1 x1 r1 d1 z1 t1
    refine ma hc ls (k + 1) w' G' ρ' σ1 e1 a' (by omega) (fun i o l' ho hl => hok (i + 1) o l' (by rw [← ho]; congr 1; omega) (by simpa using hl)) (fun l' hl' => hD l' (dK _ hl')) s1 r1 (by omega) h ?_
    have := hK.trans x1 d1 z1 t1
    rwa [dZ, show k + (ls.length + 1) = k + 1 + ls.length by omega] at this
   ·cases h
theorem oj {lops : List LOp} (hc : eF P run) (hok : okL P ops n ops.toList lops = true) (hD : ∀ l ∈ lops, ∀ t, D t → l.d ≠ some t) {e' : Env} {σ' : ar} {w : World} {G : Nat → Prop} {ρ : List Loc} {σ : ar} {e : Env} {a : Act} (hs : St w G ρ σ) (he : cX w G ρ e a.tmps) (hn : n ≤ a.tmps.size)
 (h : du run base lops e σ = some (e', σ')) (hK : j3 D w G ρ a e' σ' (fun a w => Q .normal a w)) : wpOpsIn (Fr rd) mm P ops Q (ca ops.size) a w := by
 obtain ⟨hlen, hget⟩ := kX hok
 simp only [fK] at hlen
 have := ma (rd := rd) (mm := mm) (Q := Q) (m := 0) hc lops 0 w G ρ σ e a (by omega) (fun i o l ho hl => hget i o l (by simpa using ho) hl) hD hs he hn h hK
 rw [List.range_eq_range', hlen]
 exact this
end
end Go.Proofs.YtdieenbfdeaffabGreat.Vpi
namespace Go.Proofs.YtdieenbfdeaffabGreat.Vpi
open Go
def cls : ROp → Nat
 | .alloc .. | .box .. | .mks .. | .bslk .. | .madec .. => 1
 | .load .. | .slice .. | .indexA .. => 2
 | .store .. | .bslice .. | .append .. | .appk .. | .appz .. | .copy .. => 3
 | .call .fz _ _ | .callv .fz _ _ => 3
 | .call .cell _ _ => 3
 | .call .peek _ _ => 2
 | .call .pu _ _ | .callv .pu _ _ => 0
 | .call .. | .callv .. => 4
 | _ => 0
def i7 : ROp → Bool
 | .alloc .. | .box .. | .mks .. | .bslice .. | .append .. | .bslk .. | .appk .. | .appz .. | .madec .. => true
 | _ => false
def oi (base : Nat) (sl : Option Nat) (op : ROp) : Option Nat := if i7 op = true then sl.map (base + ·) else none
def Local (f : ar → Option (CV × ar)) (F : lh) (s : Option Nat) : Prop :=
 ∀ (σ : ar) (v : CV) (σ1 : ar), f σ = some (v, σ1) →
  σ1.length = σ.length ∧
  (∀ b : Nat, b ∉ F.wr → s ≠ some b → σ1[b]? = σ[b]?) ∧
  (∀ b : Nat, σ1[b]? = some Blk.hole → σ[b]? = some Blk.hole) ∧
  (∀ b : Nat, b ∉ F.kl → s ≠ some b → bsz σ1 b = bsz σ b) ∧
  (∀ b : Nat, s = some b → σ[b]? = some Blk.hole ∧ σ1[b]? ≠ some Blk.hole) ∧
  ∀ σ' : ar, σ'.length = σ.length → (∀ b : Nat, s = some b → σ'[b]? = some Blk.hole) → (∀ b ∈ F.rd, σ[b]? = some Blk.hole ∨ σ'[b]? = σ[b]?) → (∀ b ∈ F.sz, σ[b]? = some Blk.hole ∨ bsz σ' b = bsz σ b) →
   ∃ σ1' : ar, f σ' = some (v, σ1') ∧ σ1'.length = σ'.length ∧ ∀ b : Nat, σ1'[b]? = σ1[b]? ∨ (σ1[b]? = σ[b]? ∧ σ1'[b]? = σ'[b]?)
def wrs (ws : List (Nat × Blk)) (σ : ar) : ar := ws.foldl (fun σ w => σ.set w.1 w.2) σ
theorem lA : ∀ (ws : List (Nat × Blk)) (σ : ar), (wrs ws σ).length = σ.length
 | [], _ => rfl
 | w :: ws, σ => by
   show (wrs ws (σ.set w.1 w.2)).length = _
   rw [lA ws]; simp
theorem jJ (a b : List (Nat × Blk)) (σ : ar) : wrs (a ++ b) σ = wrs b (wrs a σ) := by simp [wrs, List.foldl_append]
theorem jI : ∀ (bs : List Nat) (σ : ar), fa σ bs = wrs (bs.map fun b => (b, Blk.dead)) σ
 | [], _ => rfl
 | b :: bs, σ => by
   show fa (σ.set b .dead) bs = wrs (bs.map fun b => (b, Blk.dead)) (σ.set b .dead)
   exact jI bs _
theorem kC : ∀ (bs : List Nat) (σ : ar) (i : Nat), i ∈ bs → (fa σ bs)[i]? = if i < σ.length then some .dead else none
 | b :: bs, σ, i, h => by
   show (fa (σ.set b .dead) bs)[i]? = _
   by_cases hi : i ∈ bs
   ·rw [kC bs _ i hi]; simp
   ·rw [fP bs _ i hi]
    have : i = b := by simpa [hi] using h
    subst this
    rw [List.getElem?_set_self']
    by_cases hl : i < σ.length
    ·simp [hl]
    ·simp [hl]
theorem kN : ∀ (ws : List (Nat × Blk)) (b : Nat), (∀ σ : ar, (wrs ws σ)[b]? = σ[b]?) ∧ (∀ x, (b, x) ∉ ws) ∨ ∃ x, (b, x) ∈ ws ∧ ∀ σ : ar, (wrs ws σ)[b]? = if b < σ.length then some x else none
 | [], b => .inl ⟨fun _ => rfl, by simp⟩
 | (k, y) :: ws, b => by
   rcases kN ws b with ⟨h1, h2⟩ | ⟨x, h1, h2⟩
   ·by_cases hkb : k = b
    ·subst hkb
     refine .inr ⟨y, by simp, fun σ => ?_⟩
     show (wrs ws (σ.set k y))[k]? = _
     rw [h1, List.getElem?_set_self']
     by_cases hl : k < σ.length
     ·simp [hl]
     ·simp [hl]
    ·refine .inl ⟨fun σ => ?_, fun x hx => ?_⟩
     ·show (wrs ws (σ.set k y))[b]? = _
      rw [h1, aE hkb]
     ·rcases List.mem_cons.1 hx with hx | hx
      ·cases hx; exact hkb rfl
      ·exact h2 x hx
   ·refine .inr ⟨x, by simp [h1], fun σ => ?_⟩
    show (wrs ws (σ.set k y))[b]? = _
    rw [h2]; simp
def Bi : Blk → Option Nat
 | .prow s _ => some s
 | .kblk s _ => some s
 | _ => none
theorem jW (σ : ar) (b : Nat) : bsz σ b = (σ[b]?).bind Bi := by
 unfold bsz
 cases σ[b]? with
 | none => rfl
 | some x => cases x <;> rfl
theorem wC {σ σ' : ar} {b : Nat} (h : σ'[b]? = σ[b]?) : bsz σ' b = bsz σ b := by rw [jW, jW, h]
theorem Local.gen {f : ar → Option (CV × ar)} {F : lh} {s : Option Nat}
 (h : ∀ (σ : ar) (v : CV) (σ1 : ar), f σ = some (v, σ1) → ∃ ws : List (Nat × Blk), σ1 = wrs ws σ ∧
   (∀ b x, (b, x) ∈ ws → x ≠ Blk.hole ∧ (b ∈ F.kl ∧ b ∈ F.wr ∨ s = some b ∨ b ∈ F.wr ∧ Bi x = bsz σ b)) ∧
   (∀ b : Nat, s = some b → σ[b]? = some Blk.hole ∧ ∃ x, (b, x) ∈ ws) ∧
   ∀ σ' : ar, σ'.length = σ.length → (∀ b : Nat, s = some b → σ'[b]? = some Blk.hole) → (∀ b ∈ F.rd, σ[b]? = some Blk.hole ∨ σ'[b]? = σ[b]?) → (∀ b ∈ F.sz, σ[b]? = some Blk.hole ∨ bsz σ' b = bsz σ b) →
    f σ' = some (v, wrs ws σ')) : Local f F s := by
 intro σ v σ1 hf
 obtain ⟨ws, rfl, h1, h2, h3⟩ := h σ v σ1 hf
 refine ⟨lA _ _, ?_, ?_, ?_, ?_, ?_⟩
 ·intro b hb hs
  rcases kN ws b with ⟨g1, _⟩ | ⟨x, g1, _⟩
  ·exact g1 σ
  ·rcases (h1 b x g1).2 with h | h | h
   ·exact absurd h.2 hb
   ·exact absurd h hs
   ·exact absurd h.1 hb
 ·intro b hb
  rcases kN ws b with ⟨g1, _⟩ | ⟨x, g1, g2⟩
  ·rw [g1] at hb; exact hb
  ·rw [g2] at hb
   split at hb
   ·cases hb; exact absurd rfl (h1 b _ g1).1
   ·cases hb
 ·intro b hb hs
  rcases kN ws b with ⟨g1, _⟩ | ⟨x, g1, g2⟩
  ·exact wC (g1 σ)
  ·rcases (h1 b x g1).2 with h | h | h
   ·exact absurd h.1 hb
   ·exact absurd h hs
   ·rw [jW, g2, ← h.2]
    split
    ·rfl
    ·rename_i hl
     rw [h.2, jW, aG (by omega)]
 ·intro b hs
  obtain ⟨g1, x, g2⟩ := h2 b hs
  refine ⟨g1, ?_⟩
  rcases kN ws b with ⟨_, g3⟩ | ⟨y, g3, g4⟩
  ·exact absurd g2 (g3 x)
  ·rw [g4]
   split
   ·intro hh; cases hh; exact (h1 b _ g3).1 rfl
   ·intro hh; cases hh
 ·intro σ' hl hs hr hz
  refine ⟨_, h3 σ' hl hs hr hz, lA _ _, ?_⟩
  intro b
  rcases kN ws b with ⟨g1, _⟩ | ⟨x, g1, g2⟩
  ·exact .inr ⟨g1 σ, g1 σ'⟩
  ·exact .inl (by rw [g2, g2, hl])
theorem Local.pure {f : ar → Option (CV × ar)} {F : lh} {c : Option CV} (h : ∀ σ, f σ = c.map fun v => (v, σ)) : Local f F none := by
 refine Local.gen fun σ v σ1 hf => ?_
 rw [h, au] at hf
 obtain ⟨u, hu, he⟩ := hf
 cases he
 exact ⟨[], rfl, by simp, by simp, fun σ' _ _ _ _ => by rw [h, hu]; rfl⟩
theorem Local.pure' {f : ar → Option (CV × ar)} {F : lh} (h : ∀ (σ : ar) (v : CV) (σ1 : ar), f σ = some (v, σ1) → σ1 = σ ∧ ∀ σ', f σ' = some (v, σ')) : Local f F none := by
 refine Local.gen fun σ v σ1 hf => ?_
 obtain ⟨rfl, h2⟩ := h σ v σ1 hf
 exact ⟨[], rfl, by simp, by simp, fun σ' _ _ _ _ => h2 σ'⟩
theorem Local.read {f : ar → Option (CV × ar)} {F : lh} {g : ar → Option CV} (h : ∀ σ, f σ = (g σ).map fun v => (v, σ))
 (hg : ∀ (σ : ar) v, g σ = some v → ∀ σ' : ar, (∀ b ∈ F.rd, σ[b]? = some Blk.hole ∨ σ'[b]? = σ[b]?) → (∀ b ∈ F.sz, σ[b]? = some Blk.hole ∨ bsz σ' b = bsz σ b) → g σ' = some v) : Local f F none := by
 refine Local.gen fun σ v σ1 hf => ?_
 rw [h, au] at hf
 obtain ⟨u, hu, he⟩ := hf
 cases he
 exact ⟨[], rfl, by simp, by simp, fun σ' _ _ hr hz => by rw [h, hg _ _ hu σ' hr hz]; rfl⟩
theorem oT {σ σ' : ar} {c : CV} {x : PV} (h : dD σ c = some x) (hr : ∀ b ∈ eA c, σ[b]? = some Blk.hole ∨ σ'[b]? = σ[b]?) : dD σ' c = some x := by
 cases c with
 | own b off n =>
   simp only [dD] at h ⊢
   rcases hr b (by simp [eA]) with h1 | h1
   ·rw [h1] at h; cases h
   ·rw [h1]; exact h
 | _ => exact h
theorem oQ {σ σ' : ar} : ∀ {l : List CV} {xs : List PV}, eU σ l = some xs → (∀ b ∈ l.flatMap eA, σ[b]? = some Blk.hole ∨ σ'[b]? = σ[b]?) → eU σ' l = some xs
 | [], _, h, _ => h
 | v :: l, xs, h, hr => by
   simp only [eU] at h ⊢
   split at h
   ·rename_i x hx
    rw [au] at h
    obtain ⟨ys, hy, rfl⟩ := h
    rw [oT hx (fun b hb => hr b (by rw [cu]; exact aF.2 (.inl hb)))]
    simp only []
    rw [oQ hy (fun b hb => hr b (by rw [cu]; exact aF.2 (.inr hb)))]
    rfl
   ·cases h
theorem pT {σ σ' : ar} {c : CV} {x : PV} (h : frz σ c = some x) (hr : ∀ b ∈ aV c, σ[b]? = some Blk.hole ∨ σ'[b]? = σ[b]?) : frz σ' c = some x := by
 cases c with
 | agg cs =>
   simp only [frz] at h ⊢
   rw [au] at h
   obtain ⟨ys, hy, rfl⟩ := h
   rw [oQ hy hr]; rfl
 | _ => simp only [frz] at h ⊢; exact oT h (by simpa only [aV] using hr)
theorem jU {σ σ' : ar} : ∀ {l : List CV} {xs : List PV}, eG σ l = some xs → (∀ b ∈ l.flatMap aV, σ[b]? = some Blk.hole ∨ σ'[b]? = σ[b]?) → eG σ' l = some xs
 | [], _, h, _ => h
 | v :: l, xs, h, hr => by
   simp only [eG] at h ⊢
   split at h
   ·rename_i x hx
    rw [au] at h
    obtain ⟨ys, hy, rfl⟩ := h
    rw [pT hx (fun b hb => hr b (by rw [cu]; exact aF.2 (.inl hb)))]
    simp only []
    rw [jU hy (fun b hb => hr b (by rw [cu]; exact aF.2 (.inr hb)))]
    rfl
   ·cases h
theorem gy {σ σ' : ar} {c : CV} {x : List PV} (h : content σ c = some x) (hr : ∀ b ∈ aV c, σ[b]? = some Blk.hole ∨ σ'[b]? = σ[b]?) : content σ' c = some x := by
 cases c with
 | own b off n =>
   simp only [content] at h ⊢
   rcases hr b (by simp [aV, eA]) with h1 | h1
   ·rw [h1] at h; cases h
   ·rw [h1]; exact h
 | p v => cases v <;> exact h
 | _ => exact h
theorem tn {σ : ar} {b : Nat} (h : σ[b]? = some Blk.hole) : bsz σ b = none := by rw [jW, h]; rfl
theorem kE {σ σ' : ar} {c : CV} {x : List CV} (h : fc σ c = some x) (hr : ∀ b ∈ aV c, σ[b]? = some Blk.hole ∨ σ'[b]? = σ[b]?) : fc σ' c = some x := by
 unfold fc at h ⊢
 split at h
 ·exact h
 ·rename_i b off n
  rcases hr b (by simp [aV, eA]) with h1 | h1
  ·rw [h1] at h; cases h
  ·simp only [h1]; exact h
 ·cases h
theorem l9 {σ σ' : ar} {sz : Nat} {x : CV} {l h : Nat} {v : CV} (hv : dw σ sz x l h = some v) (hz : ∀ b ∈ aV x, σ[b]? = some Blk.hole ∨ bsz σ' b = bsz σ b) : dw σ' sz x l h = some v := by
 cases x with
 | own b off n =>
   simp only [dw] at hv ⊢
   rcases hz b (by simp [aV, eA]) with h1 | h1
   ·rw [tn h1] at hv; simp at hv
   ·rw [h1]; exact hv
 | p v => cases v <;> exact hv
 | _ => exact hv
section
variable {run : dx} {base : Nat} {sl : Option Nat} {e : Env}
theorem wh {j k : Nat} {σ σ' : ar} {b : Blk} (h : push base (some j) σ b = some (k, σ')) : k = base + j ∧ σ[base + j]? = some Blk.hole ∧ σ' = σ.set (base + j) b := by
 unfold push at h
 simp only [] at h
 split at h
 ·rename_i hh; simp only [Option.some.injEq, Prod.mk.injEq] at h; exact ⟨h.1.symm, hh, h.2.symm⟩
 ·cases h
theorem wj {j : Nat} {σ : ar} {b : Blk} (h : σ[base + j]? = some Blk.hole) : push base (some j) σ b = some (base + j, σ.set (base + j) b) := by
 unfold push; simp only [h]
theorem Local.push {F : lh} {j : Nat} {f : ar → Option (CV × ar)} {bs : List Nat}
 (h : ∀ (σ : ar) (v : CV) (σ1 : ar), f σ = some (v, σ1) → ∃ (x : Blk) (c : Nat → CV), x ≠ Blk.hole ∧ (Vpi.push base (some j) (fa σ bs) x).map (fun (k, σ) => (c k, σ)) = some (v, σ1) ∧
   ∀ σ' : ar, (∀ b ∈ F.rd, σ[b]? = some Blk.hole ∨ σ'[b]? = σ[b]?) → f σ' = (Vpi.push base (some j) (fa σ' bs) x).map (fun (k, σ) => (c k, σ)))
 (hb : ∀ b ∈ bs, b ∈ F.kl ∧ b ∈ F.wr) : Local f F (some (base + j)) := by
 refine Local.gen fun σ v σ1 hf => ?_
 obtain ⟨x, c, hx, hp, hc⟩ := h σ v σ1 hf
 rw [au] at hp
 obtain ⟨⟨k, τ⟩, hp, he⟩ := hp
 cases he
 obtain ⟨rfl, hh, rfl⟩ := wh hp
 have hnb : base + j ∉ bs := by
  intro hm
  rw [kC _ _ _ hm] at hh
  split at hh <;> cases hh
 refine ⟨bs.map (fun b => (b, Blk.dead)) ++ [(base + j, x)], by rw [jJ, ← jI]; rfl, ?_, ?_, ?_⟩
 ·intro b y hm
  rcases aF.1 hm with hm | hm
  ·obtain ⟨b', hb', he⟩ := List.mem_map.1 hm
   cases he
   exact ⟨by simp, .inl (hb _ hb')⟩
  ·have := dM.1 hm
   cases this
   exact ⟨hx, .inr (.inl rfl)⟩
 ·intro b he
  cases he
  exact ⟨by rw [← fP bs σ _ hnb]; exact hh, x, by simp⟩
 ·intro σ' hl hs hr _
  rw [hc σ' hr, wj (by rw [fP _ _ _ hnb]; exact hs _ rfl), jJ, ← jI]
  rfl
theorem Local.ll {F : lh} {j : Nat} {f : ar → Option (CV × ar)} (x : Option Blk) (c : Nat → CV) (hx : ∀ y, x = some y → y ≠ Blk.hole)
 (h : ∀ σ : ar, f σ = x.bind fun x => (Vpi.push base (some j) σ x).map (fun (k, σ) => (c k, σ))) : Local f F (some (base + j)) := by
 refine Local.push (bs := []) (fun σ v σ1 hf => ?_) (by simp)
 rw [h] at hf
 cases hxx : x with
 | none => rw [hxx] at hf; cases hf
 | some y =>
   rw [hxx] at hf
   refine ⟨y, c, hx y hxx, hf, fun σ' _ => ?_⟩
   rw [h, hxx]; rfl
theorem sK {F : lh} {f : Nat} {args : List CV} : Local (fun σ => de run .pu f args σ) F none := by
 refine Local.pure (c := match ig args with | some ps => (match run f (ps.map .p) [] with | some (r, τ) => back 0 τ r | none => none) | none => none) fun σ => ?_
 simp only [de]
 cases ig args with
 | none => rfl
 | some ps =>
   simp only []
   cases run f (ps.map .p) [] with
   | none => rfl
   | some q =>
     obtain ⟨r, τ⟩ := q
     simp only []
theorem sO {F : lh} {f : Nat} {args : List CV} (h1 : F.rd = args.flatMap aV) (h2 : F.wr = args.flatMap aV) (h3 : F.kl = args.flatMap aV) : Local (fun σ => de run .fz f args σ) F none := by
 refine Local.gen fun σ v σ1 hf => ?_
 simp only [de] at hf
 split at hf
 ·rename_i ps hps
  split at hf
  ·rename_i r τ hrun
   rw [au] at hf
   obtain ⟨u, hu, he⟩ := hf
   cases he
   refine ⟨(args.flatMap aV).map (fun b => (b, Blk.dead)), by rw [← jI, jB], ?_, (by intro b hb; cases hb), ?_⟩
   ·intro b y hm
    obtain ⟨b', hb', he⟩ := List.mem_map.1 hm
    cases he
    exact ⟨by simp, .inl ⟨by rw [h3]; exact hb', by rw [h2]; exact hb'⟩⟩
   ·intro σ' _ _ hr _
    rw [h1] at hr
    simp only [de, jU hps hr, hrun, hu]
    rw [← jI, jB]
    first | done | rfl
  ·cases hf
 ·cases hf
theorem uo {F : lh} {f : Nat} {args : List CV} (h1 : F.rd = args.flatMap fq) (h2 : F.wr = args.flatMap fq) : Local (fun σ => de run .cell f args σ) F none := by
 refine Local.gen fun σ v σ1 hf => ?_
 simp only [de] at hf
 split at hf
 ·rename_i hn
  split at hf
  ·rename_i ps hps
   split at hf
   ·rename_i r τ hrun
    rw [au] at hf
    obtain ⟨u, hu, he⟩ := hf
    cases he
    refine ⟨[], rfl, (by intro b y hm; cases hm), (by intro b hb; cases hb), ?_⟩
    intro σ' _ _ hr _
    simp only [de, hn, hps, hrun, hu]
    rfl
   ·cases hf
  ·cases hf
 ·rename_i b hb
  split at hf
  ·rename_i s cs hσ
   split at hf
   ·rename_i as q has hcs
    split at hf
    ·rename_i v' τ hrun
     split at hf
     ·rename_i s' cs' hτ
      split at hf
      ·rename_i hcond
       cases hf
       refine ⟨[(b, .kblk s' cs')], rfl, ?_, (by intro b hb; cases hb), ?_⟩
       ·intro b' y hm
        have := dM.1 hm
        cases this
        refine ⟨by simp, .inr (.inr ⟨by rw [h2, hb]; simp, ?_⟩)⟩
        rw [jW, hσ, hcond.1]; rfl
       ·intro σ' hl _ hr _
        have hr1 : σ'[b]? = σ[b]? := by
         rcases hr b (by rw [h1, hb]; simp) with h | h
         ·rw [h] at hσ; cases hσ
         ·exact h
        simp only [de, hb, hr1, hσ, has, hcs, hrun, hτ]
        rw [if_pos hcond]
        rfl
      ·cases hf
     ·cases hf
    ·cases hf
   ·cases hf
  ·cases hf
 ·cases hf
theorem um {F : lh} {f : Nat} {args : List CV} (h1 : F.rd = args.flatMap aV) : Local (fun σ => de run .peek f args σ) F none := by
 refine Local.gen fun σ v σ1 hf => ?_
 simp only [de] at hf
 split at hf
 ·rename_i ps hps
  split at hf
  ·rename_i r τ hrun
   rw [au] at hf
   obtain ⟨u, hu, he⟩ := hf
   cases he
   refine ⟨[], rfl, (by intro b y hm; cases hm), (by intro b hb; cases hb), ?_⟩
   intro σ' _ _ hr _
   rw [h1] at hr
   simp only [de, jU hps hr, hrun, hu]
   rfl
  ·cases hf
 ·cases hf
theorem pQ {op : ROp} (hc : cls op ≠ 4) (hp : i7 op = true → sl.isSome = true) : Local (fun σ => ev1 run base sl op e σ) (cR e op) (oi base sl op) := by
 have slot : ∀ {j : Nat}, i7 op = true → sl = some j → oi base sl op = some (base + j) := by
  intro j h1 h2; simp [oi, h1, h2]
 have noslot : i7 op = false → oi base sl op = none := by intro h1; simp [oi, h1]
 cases op with
 | mv x => rw [noslot rfl]; exact Local.pure (c := some (vl e x)) fun σ => rfl
 | pick c a b =>
   rw [noslot rfl]
   refine Local.pure (c := match vl e c with | .p (.bool t) => some (if t = true then vl e a else vl e b) | _ => none) fun σ => ?_
   simp only [ev1, ev]
   repeat' split
   all_goals first | rfl | simp_all [df, Function.comp_def]
 | alloc zs =>
   obtain ⟨j, hj⟩ := cw.1 (hp rfl)
   rw [slot rfl hj, hj]
   exact Local.ll (some (.kblk zs.length zs)) (fun b => .ptr b 0 0) (by rintro _ ⟨⟩ ⟨⟩) fun σ => by simp only [ev1, ev]; rfl
 | box x =>
   obtain ⟨j, hj⟩ := cw.1 (hp rfl)
   rw [slot rfl hj, hj]
   refine Local.ll ((vl e x).cells.map fun cs => .kblk cs.length cs) (fun b => .ptr b 0 0) ?_ fun σ => ?_
   ·intro y hy
    rw [au] at hy
    obtain ⟨cs, _, rfl⟩ := hy
    rintro ⟨⟩
   ·simp only [ev1, ev]
    repeat' split
    all_goals first | rfl | simp_all [df, Function.comp_def]
 | build zs parts =>
   rw [noslot rfl]
   refine Local.pure (c := (fill zs e parts).map iS) fun σ => ?_
   simp only [ev1, ev]
   repeat' split
   all_goals first | rfl | simp_all [df, Function.comp_def]
 | bslice sz xs =>
   obtain ⟨j, hj⟩ := cw.1 (hp rfl)
   rw [slot rfl hj, hj]
   refine Local.push (bs := (xs.map (vl e)).flatMap aV) (fun σ v σ1 hf => ?_) (fun b hb => ⟨hb, hb⟩)
   simp only [ev1, ev] at hf
   split at hf
   ·rename_i ps hps
    split at hf
    ·rename_i hz
     refine ⟨.prow sz ps, fun b => .own b 0 ps.length, by rintro ⟨⟩, by rw [← jB]; exact hf, fun σ' hr => ?_⟩
     simp only [ev1, ev, jU hps hr, hz, if_true, jB]
    ·cases hf
   ·cases hf
 | bslk xs =>
   obtain ⟨j, hj⟩ := cw.1 (hp rfl)
   rw [slot rfl hj, hj]
   refine Local.ll ((ly (xs.map (vl e))).map fun cs => .kblk 1 cs) (fun b => .own b 0 (((ly (xs.map (vl e))).getD []).length)) (by intro y hy; rw [au] at hy; obtain ⟨cs, _, rfl⟩ := hy; rintro ⟨⟩) fun σ => ?_
   simp only [ev1, ev]
   cases ly (xs.map (vl e)) <;> rfl
 | load agg sz a =>
   rw [noslot rfl]
   refine Local.read (g := fun σ => match vl e a with
    | .ptr b i off =>
      match σ[b]? with
      | some (.prow _ es) => (match es[i]? with | some x => (fp agg sz x off).map .p | none => none)
      | some (.kblk s cs) => gR agg sz cs (i * s + off)
      | _ => none
    | .rp x off => (fp agg sz x off).map .p
    | _ => none) (fun σ => ?_) ?_
   ·simp only [ev1, ev]
    repeat' split
    all_goals first | rfl | simp_all [df, Function.comp_def]
   ·intro σ v h σ' hr _
    simp only [cR] at hr
    split at h
    ·rename_i b i off hv
     rw [hv] at hr
     rcases hr b (by simp [fq]) with h1 | h1
     ·rw [h1] at h; cases h
     ·rw [h1]; exact h
    ·rename_i x off hv
     exact h
    ·cases h
 | store sz a x =>
   rw [noslot rfl]
   refine Local.gen fun σ v σ1 hf => ?_
   simp only [ev1, ev] at hf
   split at hf
   ·rename_i b i off hv
    split at hf
    ·rename_i s0 es0 hb
     split at hf
     ·rename_i u hu
      split at hf
      ·rename_i s es hk
       split at hf
       ·rename_i y hy
        rw [au] at hf
        obtain ⟨z, hz, he⟩ := hf
        cases he
        have hnb : b ∉ aV (vl e x) := by
         intro hm
         rw [jS, kC _ _ _ hm] at hk
         split at hk <;> cases hk
        have hkb := hk
        rw [jS, fP _ _ _ hnb] at hkb
        rw [jS]
        refine ⟨(aV (vl e x)).map (fun b => (b, Blk.dead)) ++ [(b, .prow s (es.set i z))], by rw [jJ, ← jI]; rfl, ?_, (by intro b hb; cases hb), ?_⟩
        ·intro b' q hm
         rcases aF.1 hm with hm | hm
         ·obtain ⟨b'', hb', he⟩ := List.mem_map.1 hm
          cases he
          exact ⟨by simp, .inl ⟨hb', aF.2 (.inr hb')⟩⟩
         ·have := dM.1 hm
          cases this
          refine ⟨by simp, .inr (.inr ⟨by simp [cR, hv, fq], ?_⟩)⟩
          rw [jW, hkb]; rfl
        ·intro σ' hl _ hr _
         simp only [cR] at hr
         have hr1 : σ'[b]? = σ[b]? := by
          rcases hr b (by simp [hv, fq]) with h1 | h1
          ·rw [h1] at hb; cases hb
          ·exact h1
         have hr2 := pT hu (fun b hb => hr b (aF.2 (.inr hb)))
         have hkb' : (kill σ' (vl e x))[b]? = some (.prow s es) := by rw [jS, fP _ _ _ hnb, hr1]; exact hkb
         simp only [ev1, ev, hv, hr1, hb, hr2, hkb', hy, hz]
         simp only [aH, jJ, ← jI, jS]
         rfl
       ·cases hf
      ·cases hf
     ·cases hf
    ·rename_i s cs hb
     split at hf
     ·rename_i xs hx
      split at hf
      ·rename_i hcond
       cases hf
       refine ⟨[(b, .kblk s (setCells cs (i * s + off) xs))], rfl, ?_, (by intro b hb; cases hb), ?_⟩
       ·intro b' q hm
        have := dM.1 hm
        cases this
        refine ⟨by simp, .inr (.inr ⟨by simp [cR, hv, fq], ?_⟩)⟩
        rw [jW, hb]; rfl
       ·intro σ' hl _ hr _
        have hr1 : σ'[b]? = σ[b]? := by
         rcases hr b (by simp [cR, hv, fq]) with h1 | h1
         ·rw [h1] at hb; cases hb
         ·exact h1
        simp only [ev1, ev, hv, hr1, hb, hx]
        rw [if_pos hcond]
        rfl
      ·cases hf
     ·cases hf
    ·cases hf
   ·cases hf
 | nilc x =>
   rw [noslot rfl]
   refine Local.pure (c := match vl e x with | .fn f cap => some (.fn f cap) | .ptr b i off => some (.ptr b i off) | .rp v off => some (.rp v off) | _ => none) fun σ => ?_
   simp only [ev1, ev]
   repeat' split
   all_goals first | rfl | simp_all [df, Function.comp_def]
 | bin o x y =>
   rw [noslot rfl]
   refine Local.pure (c := match vl e x, vl e y with | .p a, .p b => (fw o a b).map .p | _, _ => none) fun σ => ?_
   simp only [ev1, ev]
   repeat' split
   all_goals first | rfl | simp_all [df, Function.comp_def]
 | beq ne x y =>
   rw [noslot rfl]
   refine Local.pure (c := match vl e x, vl e y with | .p (.bool a), .p (.bool b) => some (.p (.bool (if ne = true then !(a == b) else a == b))) | _, _ => none) fun σ => ?_
   simp only [ev1, ev]
   repeat' split
   all_goals first | rfl | simp_all [df, Function.comp_def]
 | un o x =>
   rw [noslot rfl]
   refine Local.pure (c := match vl e x with | .p a => (unV o a).map .p | _ => none) fun σ => ?_
   simp only [ev1, ev]
   repeat' split
   all_goals first | rfl | simp_all [df, Function.comp_def]
 | conv k x =>
   rw [noslot rfl]
   refine Local.pure (c := match (vl e x).num with | some n => some (.p (.int k (k.wrap n))) | none => none) fun σ => ?_
   simp only [ev1, ev]
   repeat' split
   all_goals first | rfl | simp_all [df, Function.comp_def]
 | mkfn f cap => rw [noslot rfl]; exact Local.pure (c := some (.fn f (cap.map (vl e)))) fun σ => rfl
 | mks deep sz bytes z l c =>
   obtain ⟨j, hj⟩ := cw.1 (hp rfl)
   rw [slot rfl hj, hj]
   cases hl : (vl e l).num with
   | none => exact Local.ll none (fun _ => .any) (by intro y hy; cases hy) fun σ => by simp only [ev1, ev, hl]; rfl
   | some l' =>
     cases hcn : (vl e c).num with
     | none => exact Local.ll none (fun _ => .any) (by intro y hy; cases hy) fun σ => by simp only [ev1, ev, hl, hcn]; rfl
     | some c' =>
       by_cases hcond : 0 ≤ l' ∧ l' ≤ c' ∧ (bytes : Int) * c' ≤ 281474976710656 ∧ c' ≤ 9223372036854775807 ∧ z.cells.length = sz
       ·cases deep with
        | false =>
          refine Local.ll (some (.prow sz (aw l'.toNat z))) (fun b => .own b 0 l'.toNat) (by rintro _ ⟨⟩ ⟨⟩) fun σ => ?_
          simp only [ev1, ev, hl, hcn]
          rw [if_pos hcond]
          rfl
        | true =>
          by_cases h1 : sz = 1
          ·refine Local.ll (some (.kblk sz (aw l'.toNat .nils))) (fun b => .own b 0 l'.toNat) (by rintro _ ⟨⟩ ⟨⟩) fun σ => ?_
           simp only [ev1, ev, hl, hcn]
           rw [if_pos hcond, if_pos h1]
           rfl
          ·refine Local.ll none (fun _ => .any) (by intro y hy; cases hy) fun σ => ?_
           simp only [ev1, ev, hl, hcn]
           rw [if_pos hcond, if_neg h1]
           rfl
       ·refine Local.ll none (fun _ => .any) (by intro y hy; cases hy) fun σ => ?_
        simp only [ev1, ev, hl, hcn]
        rw [if_neg hcond]
        rfl
 | slice sz x lo hi mx =>
   rw [noslot rfl]
   clear hc hp slot noslot
   refine Local.read (g := fun σ => match jR (vl e x) with
    | some n =>
      match bnd e lo 0, bnd e hi n with
      | some l, some h =>
        match mx with
        | none => dw σ sz (vl e x) l h
        | some m =>
          match (vl e m).num with
          | some m => if 0 ≤ m ∧ h ≤ m.toNat ∧ m.toNat ≤ n then dw σ sz (vl e x) l h else none
          | none => none
      | _, _ => none
    | none => none) (fun σ => ?_) ?_
   ·simp only [ev1, ev]
    cases jR (vl e x) with
    | none => rfl
    | some n =>
      show _ = Option.map _ (match bnd e lo 0, bnd e hi n with
      | some l, some h =>
        match mx with
        | none => dw σ sz (vl e x) l h
        | some m =>
          match (vl e m).num with
          | some m => if 0 ≤ m ∧ h ≤ m.toNat ∧ m.toNat ≤ n then dw σ sz (vl e x) l h else none
          | none => none
      | _, _ => none)
      dsimp only
      cases bnd e lo 0 with
      | none => rfl
      | some l =>
        cases bnd e hi n with
        | none => rfl
        | some h =>
          cases mx with
          | none => rfl
          | some m =>
            dsimp only
            cases (vl e m).num with
            | none => rfl
            | some m =>
              dsimp only
              by_cases hcond : 0 ≤ m ∧ h ≤ m.toNat ∧ m.toNat ≤ n
              ·rw [if_pos hcond, if_pos hcond]
              ·rw [if_neg hcond, if_neg hcond]; rfl
   ·intro σ v h σ' _ hz
    simp only [cR] at hz
    split at h
    ·split at h
     ·split at h
      ·exact l9 h hz
      ·split at h
       ·split at h
        ·rename_i hcond; rw [if_pos hcond]; exact l9 h hz
        ·cases h
       ·cases h
     ·cases h
    ·cases h
 | fieldA off x =>
   rw [noslot rfl]
   refine Local.pure (c := match vl e x with | .ptr b i o => some (.ptr b i (o + off)) | .rp v o => some (.rp v (o + off)) | _ => none) fun σ => ?_
   simp only [ev1, ev]
   repeat' split
   all_goals first | rfl | simp_all [df, Function.comp_def]
 | field agg off sz x =>
   rw [noslot rfl]
   refine Local.pure (c := match vl e x with | .p (.agg cs) => (fp agg sz (.agg cs) off).map .p | .agg cs => gR agg sz cs off | _ => none) fun σ => ?_
   simp only [ev1, ev]
   repeat' split
   all_goals first | rfl | simp_all [df, Function.comp_def]
 | indexA sz x i =>
   rw [noslot rfl]
   refine Local.read (g := fun σ => match (vl e i).num with
    | some i =>
      if 0 ≤ i then
       match vl e x with
       | .p (.sl es) => (match es[i.toNat]? with | some v => if v.cells.length = sz then some (.rp v 0) else none | none => none)
       | .own b off n => if i.toNat < n ∧ bsz σ b = some sz then some (.ptr b (off + i.toNat) 0) else none
       | _ => none
      else none
    | none => none) (fun σ => ?_) ?_
   ·simp only [ev1, ev]
    cases (vl e i).num with
    | none => rfl
    | some i =>
      simp only []
      by_cases h0 : 0 ≤ i
      ·rw [if_pos h0, if_pos h0]
       cases vl e x with
       | p v =>
         cases v with
         | sl es =>
           simp only []
           cases es[i.toNat]? with
           | none => rfl
           | some v =>
             simp only []
             by_cases h1 : v.cells.length = sz
             ·rw [if_pos h1, if_pos h1]; rfl
             ·rw [if_neg h1, if_neg h1]; rfl
         | _ => rfl
       | own b off n =>
         simp only []
         by_cases h1 : i.toNat < n ∧ bsz σ b = some sz
         ·rw [if_pos h1, if_pos h1]; rfl
         ·rw [if_neg h1, if_neg h1]; rfl
       | _ => rfl
      ·rw [if_neg h0, if_neg h0]; rfl
   ·intro σ v h σ' _ hz
    simp only [cR] at hz
    split at h
    ·split at h
     ·rename_i h0
      rw [if_pos h0]
      split at h
      ·exact h
      ·rename_i b off n hv
       rw [hv] at hz
       split at h
       ·rename_i hcond
        rcases hz b (by simp [aV, eA]) with h1 | h1
        ·rw [tn h1] at hcond; exact absurd hcond.2 (by simp)
        ·rw [h1, if_pos hcond]; exact h
       ·cases h
      ·cases h
     ·cases h
    ·cases h
 | idx tab x =>
   rw [noslot rfl]
   refine Local.pure' fun σ v σ1 hf => ?_
   simp only [ev1, ev] at hf ⊢
   split at hf
   ·split at hf
    ·split at hf
     ·cases hf; exact ⟨rfl, fun σ' => by simp [*]⟩
     ·cases hf
    ·cases hf
   ·cases hf
 | extract x i =>
   rw [noslot rfl]
   refine Local.pure (c := match vl e x with | .tup vs => vs[i]? | _ => none) fun σ => ?_
   simp only [ev1, ev]
   repeat' split
   all_goals first | rfl | simp_all [df, Function.comp_def]
 | len x =>
   rw [noslot rfl]
   refine Local.pure (c := (jR (vl e x)).map fun (n : Nat) => i64 (n : Int)) fun σ => ?_
   simp only [ev1, ev]
   repeat' split
   all_goals first | rfl | simp_all [df, Function.comp_def]
 | append sz bytes s x =>
   obtain ⟨j, hj⟩ := cw.1 (hp rfl)
   rw [slot rfl hj, hj]
   refine Local.push (bs := aV (vl e s)) (fun σ v σ1 hf => ?_) (fun b hb => ⟨hb, hb⟩)
   simp only [ev1, ev] at hf
   split at hf
   ·rename_i a b ha hb
    split at hf
    ·rename_i hcond
     refine ⟨.prow sz (a ++ b), fun k => .own k 0 (a.length + b.length), by rintro ⟨⟩, ?_, fun σ' hr => ?_⟩
     ·split at hf
      ·rename_i hv; rw [hv]; exact hf
      ·rename_i k' o n hv
       rw [hv]
       split at hf
       ·split at hf
        ·exact hf
        ·cases hf
       ·cases hf
      ·cases hf
     ·simp only [cR] at hr
      simp only [ev1, ev, gy ha (fun b hb => hr b (aF.2 (.inl hb))), gy hb (fun b hb => hr b (aF.2 (.inr hb)))]
      rw [if_pos hcond]
      split at hf
      ·rename_i hv; rw [hv]; rfl
      ·rename_i k' o n hv
       rw [hv] at hr
       split at hf
       ·rename_i sz' q hq
        rcases hr k' (by simp [aV, eA]) with h1 | h1
        ·rw [h1] at hq; cases hq
        ·rw [h1, hq]
         split at hf
         ·rename_i hsz; rw [hv]; simp only []; rw [if_pos hsz]; rfl
         ·cases hf
       ·cases hf
      ·cases hf
    ·cases hf
   ·cases hf
 | appk bytes s x =>
   obtain ⟨j, hj⟩ := cw.1 (hp rfl)
   rw [slot rfl hj, hj]
   refine Local.push (bs := aV (vl e s)) (fun σ v σ1 hf => ?_) (fun b hb => ⟨hb, hb⟩)
   simp only [ev1, ev] at hf
   split at hf
   ·rename_i a b ha hb
    split at hf
    ·rename_i hcond
     refine ⟨.kblk 1 (a ++ b), fun k => .own k 0 (a.length + b.length), by rintro ⟨⟩, ?_, fun σ' hr => ?_⟩
     ·split at hf
      ·rename_i hv; rw [hv]; exact hf
      ·rename_i k' o n hv
       rw [hv]
       exact hf
      ·cases hf
     ·simp only [cR] at hr
      simp only [ev1, ev, kE ha (fun b hb => hr b (aF.2 (.inl hb))), kE hb (fun b hb => hr b (aF.2 (.inr hb)))]
      rw [if_pos hcond]
      split at hf
      ·rename_i hv; rw [hv]; rfl
      ·rename_i k' o n hv
       rw [hv]; rfl
      ·cases hf
    ·cases hf
   ·cases hf
 | appz sz bytes z s x =>
   obtain ⟨j, hj⟩ := cw.1 (hp rfl)
   rw [slot rfl hj, hj]
   refine Local.push (bs := aV (vl e s)) (fun σ v σ1 hf => ?_) (fun b hb => ⟨hb, hb⟩)
   simp only [ev1, ev] at hf
   split at hf
   ·rename_i a m ha hm
    split at hf
    ·rename_i hcond
     refine ⟨.prow sz (a ++ aw m.toNat z), fun k => .own k 0 (a.length + m.toNat), by rintro ⟨⟩, ?_, fun σ' hr => ?_⟩
     ·split at hf
      ·rename_i hv; rw [hv]; exact hf
      ·rename_i k' o n hv
       rw [hv]
       split at hf
       ·split at hf
        ·exact hf
        ·cases hf
       ·cases hf
      ·cases hf
     ·simp only [cR] at hr
      simp only [ev1, ev, gy ha hr, hm]
      rw [if_pos hcond]
      split at hf
      ·rename_i hv; rw [hv]; rfl
      ·rename_i k' o n hv
       rw [hv] at hr
       split at hf
       ·rename_i sz' q hq
        rcases hr k' (by simp [aV, eA]) with h1 | h1
        ·rw [h1] at hq; cases hq
        ·rw [h1, hq]
         split at hf
         ·rename_i hsz; rw [hv]; simp only []; rw [if_pos hsz]; rfl
         ·cases hf
       ·cases hf
      ·cases hf
    ·cases hf
   ·cases hf
 | copy sz d s =>
   rw [noslot rfl]
   refine Local.gen fun σ v σ1 hf => ?_
   simp only [ev1, ev] at hf
   split at hf
   ·rename_i b off n xs hd hs
    split at hf
    ·rename_i q es hb
     split at hf
     ·rename_i hcond
      cases hf
      refine ⟨[(b, .prow q (setCells es off (xs.take n)))], rfl, ?_, (by intro b hb; cases hb), ?_⟩
      ·intro b' y hm
       have := dM.1 hm
       cases this
       refine ⟨by simp, .inr (.inr ⟨by simp [cR, hd, aV, eA], ?_⟩)⟩
       rw [jW, hb]; rfl
      ·intro σ' hl _ hr _
       simp only [cR] at hr
       have hr1 : σ'[b]? = σ[b]? := by
        rcases hr b (by simp [hd, aV, eA]) with h1 | h1
        ·rw [h1] at hb; cases hb
        ·exact h1
       have hr2 := gy hs (fun b hb => hr b (aF.2 (.inr hb)))
       simp only [ev1, ev, hd, hr2, hr1, hb]
       rw [if_pos hcond]
       rfl
     ·cases hf
    ·cases hf
   ·rename_i xs hd hs
    cases hf
    refine ⟨[], rfl, by simp, by simp, ?_⟩
    intro σ' hl _ hr _
    simp only [cR] at hr
    have hr2 := gy hs (fun b hb => hr b (aF.2 (.inr hb)))
    simp only [ev1, ev, hd, hr2]
    rfl
   ·cases hf
 | mx x y =>
   rw [noslot rfl]
   refine Local.pure' fun σ v σ1 hf => ?_
   simp only [ev1, ev] at hf ⊢
   split at hf
   ·rename_i h1 h2; cases hf; exact ⟨rfl, fun σ' => rfl⟩
   ·cases hf
 | mn x y =>
   rw [noslot rfl]
   refine Local.pure' fun σ v σ1 hf => ?_
   simp only [ev1, ev] at hf ⊢
   split at hf
   ·rename_i h1 h2; cases hf; exact ⟨rfl, fun σ' => rfl⟩
   ·cases hf
 | call k f args =>
   rw [noslot rfl]
   simp only [ev1]
   cases k with
   | pu => exact sK
   | fz => exact sO rfl rfl rfl
   | full => exact absurd rfl hc
   | ct => exact absurd rfl hc
   | cell => exact uo rfl rfl
   | peek => exact um rfl
 | madec f args =>
   obtain ⟨j, hj⟩ := cw.1 (hp rfl)
   rw [slot rfl hj, hj]
   refine Local.ll ((mH run f (args.map (vl e))).map fun x => .prow x.1 x.2) (fun b => .own b 0 (((mH run f (args.map (vl e))).getD (0, [])).2.length)) (by intro y hy; rw [au] at hy; obtain ⟨cs, _, rfl⟩ := hy; rintro ⟨⟩) fun σ => ?_
   simp only [ev1]
   cases mH run f (args.map (vl e)) <;> rfl
 | callv k x args =>
   rw [noslot rfl]
   simp only [ev1]
   cases hx : vl e x with
   | fn f cap =>
     simp only []
     cases k with
     | pu => exact sK
     | fz => exact sO (by simp only [cR, hx, kG]) (by simp only [cR, hx, kG]) (by simp only [cR, hx, kG])
     | full => exact absurd rfl hc
     | ct => exact absurd rfl hc
     | cell => exact absurd rfl hc
     | peek => exact absurd rfl hc
   | _ => exact Local.pure (c := none) fun σ => rfl
end
def dW : Opd → List Nat
 | .t n => [n]
 | .c _ => []
def zY : Option Opd → List Nat
 | some x => dW x
 | none => []
def i5 : ROp → List Nat
 | .mv x => dW x
 | .pick c a b => dW c ++ dW a ++ dW b
 | .alloc _ => []
 | .box x => dW x
 | .build _ parts => parts.flatMap fun p => dW p.2.2
 | .bslice _ xs => xs.flatMap dW
 | .bslk xs => xs.flatMap dW
 | .load _ _ a => dW a
 | .store _ a x => dW a ++ dW x
 | .nilc x => dW x
 | .bin _ x y => dW x ++ dW y
 | .beq _ x y => dW x ++ dW y
 | .un _ x => dW x
 | .conv _ x => dW x
 | .mkfn _ cap => cap.flatMap dW
 | .mks _ _ _ _ l c => dW l ++ dW c
 | .slice _ x lo hi mx => dW x ++ zY lo ++ zY hi ++ zY mx
 | .fieldA _ x => dW x
 | .field _ _ _ x => dW x
 | .indexA _ x i => dW x ++ dW i
 | .extract x _ => dW x
 | .idx _ x => dW x
 | .len x => dW x
 | .append _ _ s x => dW s ++ dW x
 | .appk _ s x => dW s ++ dW x
 | .appz _ _ _ s x => dW s ++ dW x
 | .copy _ d s => dW d ++ dW s
 | .mx x y => dW x ++ dW y
 | .mn x y => dW x ++ dW y
 | .call _ _ args => args.flatMap dW
 | .callv _ x args => dW x ++ args.flatMap dW
 | .madec _ args => args.flatMap dW
def sJ (o : LOp) : List Nat := i5 o.op ++ (match o.g with | some (t, _) => [t] | none => [])
section
variable {run : dx} {base : Nat} {sl : Option Nat} {e e' : Env} {σ : ar}
def eR (l : List Nat) (e e' : Env) : Prop := ∀ t ∈ l, gt e t = gt e' t
theorem eR.left {a b : List Nat} (h : eR (a ++ b) e e') : eR a e e' := fun t ht => h t (aF.2 (.inl ht))
theorem eR.right {a b : List Nat} (h : eR (a ++ b) e e') : eR b e e' := fun t ht => h t (aF.2 (.inr ht))
theorem bj {x : Opd} (h : eR (dW x) e e') : vl e x = vl e' x := by
 cases x with
 | t n => exact h n (by simp [dW])
 | c v => rfl
theorem fE : ∀ {xs : List Opd}, eR (xs.flatMap dW) e e' → xs.map (vl e) = xs.map (vl e')
 | [], _ => rfl
 | x :: xs, h => by
   rw [cu] at h
   rw [List.map_cons, List.map_cons, bj h.left, fE h.right]
theorem qd {x : Option Opd} (h : eR (zY x) e e') (d : Nat) : bnd e x d = bnd e' x d := by
 cases x with
 | none => rfl
 | some x => simp only [bnd]; rw [bj (x := x) h]
theorem oU : ∀ {ps : List (Nat × Nat × Opd)} {zs : List CV}, eR (ps.flatMap fun p => dW p.2.2) e e' → fill zs e ps = fill zs e' ps
 | [], _, _ => rfl
 | (off, sz, x) :: ps, zs, h => by
   rw [cu] at h
   simp only [fill]
   have h1 : vl e x = vl e' x := bj h.left
   rw [h1]
   cases (vl e' x).cells with
   | none => rfl
   | some cs =>
     simp only []
     rw [oU h.right]
theorem pV {op : ROp} (h : eR (i5 op) e e') : ev1 run base sl op e σ = ev1 run base sl op e' σ := by
 cases op with
 | mv x => simp only [ev1, ev]; rw [bj (x := x) h]
 | pick c a b => simp only [ev1, ev]; rw [bj (x := c) h.left.left, bj (x := a) h.left.right, bj (x := b) h.right]
 | alloc _ => rfl
 | box x => simp only [ev1, ev]; rw [bj (x := x) h]
 | build zs parts => simp only [ev1, ev]; rw [oU h]
 | bslice sz xs => simp only [ev1, ev]; rw [fE h]
 | bslk xs => simp only [ev1, ev]; rw [fE h]
 | load agg sz a => simp only [ev1, ev]; rw [bj (x := a) h]
 | store sz a x => simp only [ev1, ev]; rw [bj (x := a) h.left, bj (x := x) h.right]
 | nilc x => simp only [ev1, ev]; rw [bj (x := x) h]
 | bin op x y => simp only [ev1, ev]; rw [bj (x := x) h.left, bj (x := y) h.right]
 | beq op x y => simp only [ev1, ev]; rw [bj (x := x) h.left, bj (x := y) h.right]
 | un op x => simp only [ev1, ev]; rw [bj (x := x) h]
 | conv k x => simp only [ev1, ev]; rw [bj (x := x) h]
 | mkfn f cap => simp only [ev1, ev]; rw [fE h]
 | mks deep sz bytes z l c => simp only [ev1, ev]; rw [bj (x := l) h.left, bj (x := c) h.right]
 | slice sz x lo hi mx =>
   simp only [ev1, ev]
   rw [bj (x := x) h.left.left.left, qd (x := lo) h.left.left.right]
   have h1 := fun d => qd (x := hi) h.left.right d
   simp only [h1]
   cases mx with
   | none => rfl
   | some m => simp only [bj (x := m) h.right]
 | fieldA off x => simp only [ev1, ev]; rw [bj (x := x) h]
 | field agg off sz x => simp only [ev1, ev]; rw [bj (x := x) h]
 | indexA sz x i => simp only [ev1, ev]; rw [bj (x := x) h.left, bj (x := i) h.right]
 | extract x i => simp only [ev1, ev]; rw [bj (x := x) h]
 | idx tab x => simp only [ev1, ev]; rw [bj (x := x) h]
 | len x => simp only [ev1, ev]; rw [bj (x := x) h]
 | append sz bytes s x => simp only [ev1, ev]; rw [bj (x := s) h.left, bj (x := x) h.right]
 | appz sz bytes z s x => simp only [ev1, ev]; rw [bj (x := s) h.left, bj (x := x) h.right]
 | appk bytes s x => simp only [ev1, ev]; rw [bj (x := s) h.left, bj (x := x) h.right]
 | copy sz d s => simp only [ev1, ev]; rw [bj (x := d) h.left, bj (x := s) h.right]
 | mx x y => simp only [ev1, ev]; rw [bj (x := x) h.left, bj (x := y) h.right]
 | mn x y => simp only [ev1, ev]; rw [bj (x := x) h.left, bj (x := y) h.right]
 | call k f args => simp only [ev1]; rw [fE h]
 | callv k x args => simp only [ev1]; rw [bj (x := x) h.left, fE h.right]
 | madec f args => simp only [ev1]; rw [fE h]
theorem lN {op : ROp} (h : eR (i5 op) e e') : cR e op = cR e' op := by
 cases op with
 | load agg sz a => simp only [cR]; rw [bj (x := a) h]
 | store sz a x => simp only [cR]; rw [bj (x := a) h.left, bj (x := x) h.right]
 | bslice sz xs => simp only [cR]; rw [fE h]
 | append sz bytes s x => simp only [cR]; rw [bj (x := s) h.left, bj (x := x) h.right]
 | appz sz bytes z s x => simp only [cR]; rw [bj (x := s) h.left]
 | appk bytes s x => simp only [cR]; rw [bj (x := s) h.left, bj (x := x) h.right]
 | copy sz d s => simp only [cR]; rw [bj (x := d) h.left, bj (x := s) h.right]
 | slice sz x lo hi mx => simp only [cR]; rw [bj (x := x) h.left.left.left]
 | indexA sz x i => simp only [cR]; rw [bj (x := x) h.left]
 | call k f args => cases k <;> first | rfl | (simp only [cR]; rw [fE h])
 | callv k x args => cases k <;> first | rfl | (simp only [cR]; rw [bj (x := x) h.left, fE h.right])
 | _ => rfl
def evV (run : dx) (base : Nat) (o : LOp) (e : Env) (σ : ar) : Option (CV × ar) :=
 match o.g with
 | none => ev1 run base o.sl o.op e σ
 | some (t, want) =>
   match gt e t with
   | .p (.bool b) => if b = want then ev1 run base o.sl o.op e σ else some (.tup [], σ)
   | .tup [] => some (.tup [], σ)
   | _ => none
theorem oX (o : LOp) : evL run base o e σ = (evV run base o e σ).map fun (v, σ) => (sto o.d v e, σ) := by
 unfold evL evV
 cases o.g with
 | none => rfl
 | some x =>
   obtain ⟨t, want⟩ := x
   simp only []
   cases gt e t with
   | p v =>
     cases v with
     | bool b =>
       simp only []
       by_cases hb : b = want
       ·rw [if_pos hb, if_pos hb]
       ·rw [if_neg hb, if_neg hb]; rfl
     | _ => rfl
   | tup cs => cases cs <;> rfl
   | _ => rfl
theorem nm {o : LOp} (h : eR (sJ o) e e') : evV run base o e σ = evV run base o e' σ := by
 unfold evV
 unfold sJ at h
 split
 ·exact pV h.left
 ·rename_i t want hg
  rw [hg] at h
  rw [pV h.left, h.right t (by simp)]
def jF (f : ar → Option (CV × ar)) : Prop := ∀ (σ : ar) (v : CV) (σ1 : ar), f σ = some (v, σ1) → σ1 = σ ∧ ∀ σ', f σ' = some (v, σ')
theorem jF.of {f : ar → Option (CV × ar)} {c : Option CV} (h : ∀ σ, f σ = c.map fun v => (v, σ)) : jF f := by
 intro σ v σ1 hf
 rw [h, au] at hf
 obtain ⟨u, hu, he⟩ := hf
 cases he
 exact ⟨rfl, fun σ' => by rw [h, hu]; rfl⟩
theorem sr {f : Nat} {args : List CV} : jF (fun σ => de run .pu f args σ) := by
 intro σ v σ1 h
 simp only [de] at h ⊢
 split at h
 ·split at h
  ·rw [au] at h
   obtain ⟨u, hu, he⟩ := h
   cases he
   exact ⟨rfl, fun σ' => by rw [hu]; rfl⟩
  ·cases h
 ·cases h
theorem pL {op : ROp} (hc : cls op = 0) : jF (fun σ => ev1 run base sl op e σ) := by
 cases op with
 | alloc _ => simp [cls] at hc
 | box _ => simp [cls] at hc
 | mks _ _ _ _ _ _ => simp [cls] at hc
 | load _ _ _ => simp [cls] at hc
 | slice _ _ _ _ _ => simp [cls] at hc
 | indexA _ _ _ => simp [cls] at hc
 | store _ _ _ => simp [cls] at hc
 | bslice _ _ => simp [cls] at hc
 | append _ _ _ _ => simp [cls] at hc
 | bslk _ => simp [cls] at hc
 | madec _ _ => simp [cls] at hc
 | appk _ _ _ => simp [cls] at hc
 | appz _ _ _ _ _ => simp [cls] at hc
 | copy _ _ _ => simp [cls] at hc
 | mv x => exact jF.of (c := some (vl e x)) fun σ => rfl
 | mkfn f cap => exact jF.of (c := some (.fn f (cap.map (vl e)))) fun σ => rfl
 | build zs parts =>
   refine jF.of (c := (fill zs e parts).map iS) fun σ => ?_
   simp only [ev1, ev]
   cases fill zs e parts <;> rfl
 | len x =>
   refine jF.of (c := (jR (vl e x)).map fun (n : Nat) => i64 (n : Int)) fun σ => ?_
   simp only [ev1, ev]
   cases jR (vl e x) <;> rfl
 | call k f args =>
   cases k with
   | pu => exact sr
   | fz => simp [cls] at hc
   | full => simp [cls] at hc
   | ct => simp [cls] at hc
   | cell => simp [cls] at hc
   | peek => simp [cls] at hc
 | callv k x args =>
   cases k with
   | pu =>
     simp only [ev1]
     cases hx : vl e x with
     | fn f cap => exact sr
     | _ => exact jF.of (c := none) fun σ => rfl
   | fz => simp [cls] at hc
   | full => simp [cls] at hc
   | ct => simp [cls] at hc
   | cell => simp [cls] at hc
   | peek => simp [cls] at hc
 | _ =>
   intro σ v σ1 h
   simp only [ev1, ev] at h ⊢
   repeat' split at h
   all_goals first
    | (cases h; done)
    | (cases h; exact ⟨rfl, fun _ => rfl⟩)
    | (rw [au] at h
       obtain ⟨u, hu, he⟩ := h
       cases he
       refine ⟨rfl, fun _ => ?_⟩; simp only [*]; rfl)
    | (cases h; refine ⟨rfl, fun _ => ?_⟩; simp [*]; done)
    | (simp_all; done)
theorem mZ {o : LOp} (hc : cls o.op = 0) : jF (fun σ => evV run base o e σ) := by
 unfold evV
 cases hg : o.g with
 | none => exact pL hc
 | some x =>
   obtain ⟨t, want⟩ := x
   simp only []
   split
   ·split
    ·exact pL hc
    ·exact jF.of (c := some (.tup [])) fun σ => rfl
   ·exact jF.of (c := some (.tup [])) fun σ => rfl
   ·exact jF.of (c := none) fun σ => rfl
theorem nf {o : LOp} (hc : cls o.op ≠ 4) (hp : i7 o.op = true → o.sl.isSome = true) : ∃ s, Local (fun σ => evV run base o e σ) (cR e o.op) s := by
 unfold evV
 cases hg : o.g with
 | none => exact ⟨_, pQ hc hp⟩
 | some x =>
   obtain ⟨t, want⟩ := x
   simp only []
   split
   ·split
    ·exact ⟨_, pQ hc hp⟩
    ·exact ⟨none, Local.pure (c := some (.tup [])) fun σ => rfl⟩
   ·exact ⟨none, Local.pure (c := some (.tup [])) fun σ => rfl⟩
   ·exact ⟨none, Local.pure (c := none) fun σ => rfl⟩
def hZ (F H : lh) : Prop :=
 (∀ b ∈ F.rd, b ∉ H.wr) ∧ (∀ b ∈ F.sz, b ∉ H.kl) ∧ (∀ b ∈ H.rd, b ∉ F.wr) ∧ (∀ b ∈ H.sz, b ∉ F.kl) ∧ (∀ b ∈ F.wr, b ∉ H.wr)
theorem CG {f g : ar → Option (CV × ar)} {F H : lh} {s t : Option Nat} (hf : Local f F s) (hg : Local g H t) (hap : hZ F H) {σ σ1 σ2 : ar} {v u : CV} (h1 : f σ = some (v, σ1)) (h2 : g σ1 = some (u, σ2))
 (hn : ∀ b, b ∈ H.rd ∨ b ∈ H.sz ∨ b ∈ H.wr → σ[b]? ≠ some Blk.hole) : ∃ σ1', g σ = some (u, σ1') ∧ f σ1' = some (v, σ2) := by
 obtain ⟨a1, a2, a3, a4, a5⟩ := hap
 obtain ⟨f1, f2, f3, f4, f5, f6⟩ := hf σ v σ1 h1
 obtain ⟨g1, g2, g3, g4, g5, g6⟩ := hg σ1 u σ2 h2
 have hsn : ∀ b, b ∈ H.rd ∨ b ∈ H.sz ∨ b ∈ H.wr → s ≠ some b := fun b hb hs => hn b hb (f5 b hs).1
 obtain ⟨τ, t1, t2, t3⟩ := g6 σ (by rw [f1]) (fun b hb => f3 b (g5 b hb).1)
  (fun b hb => .inr (f2 b (fun x => a3 b hb x) (hsn b (.inl hb))).symm)
  (fun b hb => .inr (f4 b (fun x => a4 b hb x) (hsn b (.inr (.inl hb)))).symm)
 obtain ⟨y1, y2, y3, y4, y5, y6⟩ := hg σ u τ t1
 obtain ⟨q, q1, q2, q3⟩ := f6 τ t2 (fun b hb => by
  rw [y2 b (fun hw => hsn b (.inr (.inr hw)) hb) (fun ht => (f5 b hb).2 (g5 b ht).1)]
  exact (f5 b hb).1)
  (fun b hb => by
    by_cases ht : t = some b
    ·exact .inl (f3 b (g5 b ht).1)
    ·exact .inr (y2 b (a1 b hb) ht))
  (fun b hb => by
    by_cases ht : t = some b
    ·exact .inl (f3 b (g5 b ht).1)
    ·exact .inr (y4 b (a2 b hb) ht))
 refine ⟨τ, t1, ?_⟩
 suffices q = σ2 by rw [q1, this]
 apply dv
 intro b
 rcases t3 b with k1 | ⟨k1, k2⟩ <;> rcases q3 b with m1 | ⟨m1, m2⟩
 ·by_cases hw : b ∈ H.wr
  ·have e1 : σ1[b]? = σ[b]? := f2 b (fun x => a5 b x hw) (hsn b (.inr (.inr hw)))
   obtain ⟨z1, z2, _⟩ := hf τ v q q1
   rw [z2 b (fun x => a5 b x hw) (hsn b (.inr (.inr hw))), k1]
  ·by_cases ht : t = some b
   ·have h0 := (g5 b ht).1
    rw [h0] at m1
    obtain ⟨_, _, z3, _⟩ := hf τ v q q1
    exact absurd (z3 b m1) (y5 b ht).2
   ·rw [m1, g2 b hw ht]
 ·rw [m2, k1]
 ·rw [m1, k1]
 ·rw [m2, k2, k1, m1]
end
def vA (op : ROp) : Bool := (cR [] op).rd.isEmpty && (cR [] op).sz.isEmpty && (cR [] op).wr.isEmpty
def refs (c : CV) : List Nat := aV c ++ (fq c ++ (kG c).flatMap aV)
theorem jh (q : CV → List Nat) {e : Env} {x : Opd} {b : Nat} (h : b ∈ q (vl e x)) : b ∈ q (vl [] x) ∨ ∃ t ∈ dW x, b ∈ q (gt e t) := by
 cases x with
 | t n => exact .inr ⟨n, by simp [dW], h⟩
 | c v => exact .inl h
theorem m9 (q : CV → List Nat) {e : Env} {b : Nat} : ∀ {xs : List Opd}, b ∈ (xs.map (vl e)).flatMap q → b ∈ (xs.map (vl [])).flatMap q ∨ ∃ t ∈ xs.flatMap dW, b ∈ q (gt e t)
 | [], h => by simp at h
 | x :: xs, h => by
   rw [List.map_cons, cu] at h ⊢
   rw [cu]
   rcases aF.1 h with h | h
   ·rcases jh q h with h | ⟨t, h1, h2⟩
    ·exact .inl (aF.2 (.inl h))
    ·exact .inr ⟨t, aF.2 (.inl h1), h2⟩
   ·rcases m9 q h with h | ⟨t, h1, h2⟩
    ·exact .inl (aF.2 (.inr h))
    ·exact .inr ⟨t, aF.2 (.inr h1), h2⟩
theorem eO {c : CV} {b : Nat} (h : b ∈ aV c) : b ∈ refs c := aF.2 (.inl h)
theorem nt {c : CV} {b : Nat} (h : b ∈ fq c) : b ∈ refs c := aF.2 (.inr (aF.2 (.inl h)))
theorem yW {c : CV} {b : Nat} (h : b ∈ (kG c).flatMap aV) : b ∈ refs c := aF.2 (.inr (aF.2 (.inr h)))
theorem wt {op : ROp} {e : Env} {b : Nat} (h0 : vA op = true) (h : b ∈ (cR e op).rd ∨ b ∈ (cR e op).sz ∨ b ∈ (cR e op).wr) : ∃ t ∈ i5 op, b ∈ refs (gt e t) := by
 simp only [vA, aA, List.isEmpty_iff] at h0
 obtain ⟨⟨z1, z2⟩, z3⟩ := h0
 have no1 : ∀ {p : Prop}, b ∈ (cR [] op).rd → p := fun h => by rw [z1] at h; cases h
 have no2 : ∀ {p : Prop}, b ∈ (cR [] op).sz → p := fun h => by rw [z2] at h; cases h
 have no3 : ∀ {p : Prop}, b ∈ (cR [] op).wr → p := fun h => by rw [z3] at h; cases h
 have L : ∀ {x y : List Nat}, b ∈ x → b ∈ x ++ y := fun h => aF.2 (.inl h)
 have R : ∀ {x y : List Nat}, b ∈ y → b ∈ x ++ y := fun h => aF.2 (.inr h)
 cases op with
 | load agg sz a =>
   simp only [cR, i5, cU, or_false] at h no1 no2 no3 ⊢
   rcases jh fq h with h | ⟨t, h1, h2⟩
   ·exact no1 h
   ·exact ⟨t, h1, nt h2⟩
 | store sz a x =>
   simp only [cR, i5, cU, false_or, or_self] at h no1 no2 no3 ⊢
   rcases aF.1 h with h | h
   ·rcases jh fq h with h | ⟨t, h1, h2⟩
    ·exact no1 (L h)
    ·exact ⟨t, aF.2 (.inl h1), nt h2⟩
   ·rcases jh aV h with h | ⟨t, h1, h2⟩
    ·exact no1 (R h)
    ·exact ⟨t, aF.2 (.inr h1), eO h2⟩
 | bslice sz xs =>
   simp only [cR, i5, cU, false_or, or_self] at h no1 no2 no3 ⊢
   rcases m9 aV h with h | ⟨t, h1, h2⟩
   ·exact no1 h
   ·exact ⟨t, h1, eO h2⟩
 | append sz bytes s x =>
   simp only [cR, i5, cU, false_or] at h no1 no2 no3 ⊢
   have h : b ∈ aV (vl e s) ++ aV (vl e x) := h.elim id L
   rcases aF.1 h with h | h
   ·rcases jh aV h with h | ⟨t, h1, h2⟩
    ·exact no1 (L h)
    ·exact ⟨t, aF.2 (.inl h1), eO h2⟩
   ·rcases jh aV h with h | ⟨t, h1, h2⟩
    ·exact no1 (R h)
    ·exact ⟨t, aF.2 (.inr h1), eO h2⟩
 | appz sz bytes z s x =>
   simp only [cR, i5, cU, false_or, or_self] at h no1 no2 no3 ⊢
   rcases jh aV h with h | ⟨t, h1, h2⟩
   ·exact no1 h
   ·exact ⟨t, aF.2 (.inl h1), eO h2⟩
 | appk bytes s x =>
   simp only [cR, i5, cU, false_or] at h no1 no2 no3 ⊢
   have h : b ∈ aV (vl e s) ++ aV (vl e x) := h.elim id L
   rcases aF.1 h with h | h
   ·rcases jh aV h with h | ⟨t, h1, h2⟩
    ·exact no1 (L h)
    ·exact ⟨t, aF.2 (.inl h1), eO h2⟩
   ·rcases jh aV h with h | ⟨t, h1, h2⟩
    ·exact no1 (R h)
    ·exact ⟨t, aF.2 (.inr h1), eO h2⟩
 | copy sz d s =>
   simp only [cR, i5, cU, false_or] at h no1 no2 no3 ⊢
   have h : b ∈ aV (vl e d) ++ aV (vl e s) := h.elim id L
   rcases aF.1 h with h | h
   ·rcases jh aV h with h | ⟨t, h1, h2⟩
    ·exact no1 (L h)
    ·exact ⟨t, aF.2 (.inl h1), eO h2⟩
   ·rcases jh aV h with h | ⟨t, h1, h2⟩
    ·exact no1 (R h)
    ·exact ⟨t, aF.2 (.inr h1), eO h2⟩
 | slice sz x lo hi mx =>
   simp only [cR, i5, cU, false_or, or_false] at h no1 no2 no3 ⊢
   rcases jh aV h with h | ⟨t, h1, h2⟩
   ·exact no2 h
   ·exact ⟨t, aF.2 (.inl (aF.2 (.inl (aF.2 (.inl h1))))), eO h2⟩
 | indexA sz x i =>
   simp only [cR, i5, cU, false_or, or_false] at h no1 no2 no3 ⊢
   rcases jh aV h with h | ⟨t, h1, h2⟩
   ·exact no2 h
   ·exact ⟨t, aF.2 (.inl h1), eO h2⟩
 | call k f args =>
   cases k with
   | fz =>
     simp only [cR, i5, cU, false_or, or_self] at h no1 no2 no3 ⊢
     rcases m9 aV h with h | ⟨t, h1, h2⟩
     ·exact no1 h
     ·exact ⟨t, h1, eO h2⟩
   | peek =>
     simp only [cR, i5, cU, false_or, or_false] at h no1 no2 no3 ⊢
     rcases m9 aV h with h | ⟨t, h1, h2⟩
     ·exact no1 h
     ·exact ⟨t, h1, eO h2⟩
   | cell =>
     simp only [cR, i5, cU, false_or, or_self] at h no1 no2 no3 ⊢
     rcases m9 fq h with h | ⟨t, h1, h2⟩
     ·exact no1 h
     ·exact ⟨t, h1, nt h2⟩
   | _ => simp [cR] at h
 | callv k x args =>
   cases k with
   | fz =>
     simp only [cR, i5, cU, false_or, or_self, List.flatMap_append] at h no1 no2 no3 ⊢
     rcases aF.1 h with h | h
     ·rcases m9 aV h with h | ⟨t, h1, h2⟩
      ·exact no1 (L h)
      ·exact ⟨t, aF.2 (.inr h1), eO h2⟩
     ·rcases jh (fun c => (kG c).flatMap aV) h with h | ⟨t, h1, h2⟩
      ·exact no1 (R h)
      ·exact ⟨t, aF.2 (.inl h1), yW h2⟩
   | _ => simp [cR] at h
 | _ => simp [cR] at h
section
variable {w : World} {G : Nat → Prop} {ρ : List Loc} {σ : ar}
theorem St.xZ {b : Nat} {l : Loc} (hs : St w G ρ σ) (h : ρ[b]? = some l) (hl : l ≠ .hole) : σ[b]? ≠ some Blk.hole := by
 intro h1
 have := hs.ok b l .hole h h1
 cases l <;> first | exact this | exact hl rfl
theorem oz {c : CV} {v : Value} {b : Nat} (hs : St w G ρ σ) (hr : bT w G ρ c v) (hb : b ∈ eA c) : σ[b]? ≠ some Blk.hole := by
 cases c with
 | own b' off n =>
   simp only [eA, dM] at hb
   subst hb
   obtain ⟨ad, cap, _, _, ho⟩ := fV hr
   unfold dJ at ho
   cases hl : ρ[b]? with
   | none => rw [hl] at ho; exact ho.elim
   | some l => exact hs.xZ hl (by rintro rfl; rw [hl] at ho; exact ho)
 | _ => simp [eA] at hb
theorem nC {c : CV} {v : Value} {b : Nat} (hs : St w G ρ σ) (hr : bT w G ρ c v) (hb : b ∈ aV c) : σ[b]? ≠ some Blk.hole := by
 cases c with
 | agg cs =>
   obtain ⟨vs, _, hl, hk, _⟩ := nO hr
   simp only [aV, List.mem_flatMap] at hb
   obtain ⟨c, hc, hb⟩ := hb
   obtain ⟨k, hk1⟩ := List.mem_iff_getElem?.1 hc
   have hkl : k < vs.length := by rw [← hl]; exact ba hk1
   exact oz hs (hk k c vs[k] hk1 (by simp)) hb
 | _ => exact oz hs hr hb
theorem r9 {c : CV} {v : Value} {b : Nat} (hs : St w G ρ σ) (hr : bT w G ρ c v) (hb : b ∈ refs c) : σ[b]? ≠ some Blk.hole := by
 rcases aF.1 hb with hb | hb
 ·exact nC hs hr hb
 ·rcases aF.1 hb with hb | hb
  ·cases c with
   | ptr b' i off =>
     simp only [fq, dM] at hb
     subst hb
     obtain ⟨ad, _, ho⟩ := kU hr
     unfold ie at ho
     cases hl : ρ[b]? with
     | none => rw [hl] at ho; exact ho.elim
     | some l => exact hs.xZ hl (by rintro rfl; rw [hl] at ho; exact ho)
   | _ => simp [fq] at hb
  ·cases c with
   | fn f cap =>
     obtain ⟨vs, _, hl, hk⟩ := qJ hr
     simp only [kG, List.mem_flatMap] at hb
     obtain ⟨c, hc, hb⟩ := hb
     obtain ⟨k, hk1⟩ := List.mem_iff_getElem?.1 hc
     have hkl : k < vs.length := by rw [← hl]; exact ba hk1
     exact nC hs (hk k c vs[k] hk1 (by simp)) hb
   | _ => simp [kG] at hb
theorem St.Dc (hs : St w G ρ σ) (h : Nat) : St w G (ρ ++ aw h .hole) (σ ++ aw h .hole) := by
 have key : ∀ (i : Nat) l, (ρ ++ aw h Loc.hole)[i]? = some l → (ρ[i]? = some l) ∨ (ρ.length ≤ i ∧ l = .hole) := by
  intro i l hi
  rcases ax i ρ.length with h1 | h1
  ·rw [aB h1] at hi; exact .inl hi
  ·rw [aC h1, List.getElem?_replicate] at hi
   split at hi
   ·cases hi; exact .inr ⟨h1, rfl⟩
   ·cases hi
 have loc : cx ρ (ρ ++ aw h .hole) := fun i l hl => .inl (by rw [aB (ba hl)]; exact hl)
 refine ⟨hs.g, by simp [hs.len], ?_, ?_⟩
 ·intro i j k o t s o' t' s' hi hj
  rcases key i _ hi with hi | ⟨_, hi⟩
  ·rcases key j _ hj with hj | ⟨_, hj⟩
   ·exact hs.inj i j k o t s o' t' s' hi hj
   ·cases hj
  ·cases hi
 ·intro i l b hi hb
  rcases key i _ hi with hi' | ⟨h1, rfl⟩
  ·rw [aB (by rw [← hs.len]; exact ba hi')] at hb
   exact ej.mono (fun _ _ => rfl) (fun _ x => x) loc (fun _ _ _ _ _ => ⟨rfl, id⟩) (hs.ok i l b hi' hb)
  ·rw [aC (by rw [← hs.len]; exact h1), List.getElem?_replicate] at hb
   split at hb
   ·cases hb; trivial
   ·cases hb
end
def indep (x y : LOp) : Bool :=
 (match x.d with | some d => !(sJ y).elem d && (match y.d with | some d' => d != d' | none => true) | none => true) &&
 (match y.d with | some d => !(sJ x).elem d | none => true)
def sy (x y : ROp) : Bool :=
 cls x == 0 || cls y == 0 || (decide (cls x ≤ 2) && decide (cls y ≤ 2)) || (cls x == 1 && cls y != 4) || (cls y == 1 && cls x != 4)
instance : Inhabited LOp := ⟨⟨none, none, none, .alloc []⟩⟩
def at' (L : List LOp) (i : Nat) : LOp := L.getD i default
def jH (e e' : Env) : Prop := ∀ n, gt e n = gt e' n
theorem jH.Dp {e e' : Env} (h : jH e e') (l : List Nat) : eR l e e' := fun t _ => h t
theorem lL (d : Option Nat) (v : CV) (e : Env) (n : Nat) : gt (sto d v e) n = if d = some n then v else gt e n := by
 cases d with
 | none => simp [sto]
 | some d =>
   simp only [sto]
   rw [gj]
   by_cases h : n = d
   ·subst h; simp
   ·rw [if_neg h, if_neg (by rintro ⟨⟩; exact h rfl)]
theorem jH.sto {e e' : Env} (h : jH e e') (d : Option Nat) (v : CV) : jH (sto d v e) (sto d v e') := by
 intro n; rw [lL, lL, h n]
section
variable {run : dx} {base : Nat} {e e' : Env} {σ : ar}
theorem Ak {o : LOp} (h : jH e e') {e1 : Env} {σ1 : ar} (hr : evL run base o e σ = some (e1, σ1)) : ∃ e1', evL run base o e' σ = some (e1', σ1) ∧ jH e1 e1' := by
 rw [oX, au] at hr
 obtain ⟨⟨v, τ⟩, hv, he⟩ := hr
 cases he
 rw [nm (h.Dp _)] at hv
 exact ⟨sto o.d v e', by rw [oX, hv]; rfl, h.sto _ _⟩
theorem r5 : ∀ {l : List LOp} {e e' : Env} {σ : ar} {e1 : Env} {σ1 : ar}, jH e e' → du run base l e σ = some (e1, σ1) → ∃ e1', du run base l e' σ = some (e1', σ1) ∧ jH e1 e1'
 | [], e, e', σ, e1, σ1, h, hr => by
   simp only [du] at hr
   cases hr
   exact ⟨e', rfl, h⟩
 | o :: l, e, e', σ, e1, σ1, h, hr => by
   simp only [du] at hr
   split at hr
   ·rename_i e2 σ2 hev
    obtain ⟨e2', h1, h2⟩ := Ak h hev
    obtain ⟨e1', h3, h4⟩ := r5 h2 hr
    exact ⟨e1', by simp only [du, h1]; exact h3, h4⟩
   ·cases hr
theorem nV {o : LOp} {e1 : Env} {σ1 : ar} (hr : evL run base o e σ = some (e1, σ1)) : ∃ v, evV run base o e σ = some (v, σ1) ∧ e1 = sto o.d v e := by
 rw [oX, au] at hr
 obtain ⟨⟨v, τ⟩, hv, he⟩ := hr
 cases he
 exact ⟨v, hv, rfl⟩
theorem u6 : ∀ {l : List LOp} {e : Env} {σ : ar} {e1 : Env} {σ1 : ar} {n : Nat}, du run base l e σ = some (e1, σ1) → (∀ o ∈ l, o.d ≠ some n) → gt e1 n = gt e n
 | [], e, σ, e1, σ1, n, hr, _ => by simp only [du] at hr; cases hr; rfl
 | o :: l, e, σ, e1, σ1, n, hr, h => by
   simp only [du] at hr
   split at hr
   ·rename_i e2 σ2 hev
    obtain ⟨v, _, rfl⟩ := nV hev
    rw [u6 hr (fun o ho => h o (by simp [ho])), lL, if_neg (h o (by simp))]
   ·cases hr
def Compat (x y : LOp) (e : Env) : Prop :=
 cls x.op = 0 ∨ cls y.op = 0 ∨ (cls x.op ≠ 4 ∧ cls y.op ≠ 4 ∧ hZ (cR e x.op) (cR e y.op))
theorem sW {op : ROp} (h : cls op ≤ 2) : (cR e op).wr = [] ∧ (cR e op).kl = [] := by
 cases op with
 | call k f args => cases k <;> first | exact ⟨rfl, rfl⟩ | (simp [cls] at h)
 | callv k x args => cases k <;> first | exact ⟨rfl, rfl⟩ | (simp [cls] at h)
 | store _ _ _ => simp [cls] at h
 | bslice _ _ => simp [cls] at h
 | append _ _ _ _ => simp [cls] at h
 | appk _ _ _ => simp [cls] at h
 | appz _ _ _ _ _ => simp [cls] at h
 | copy _ _ _ => simp [cls] at h
 | _ => exact ⟨rfl, rfl⟩
theorem ni {op : ROp} (h : cls op ≤ 1) : cR e op = ⟨[], [], [], []⟩ := by
 cases op with
 | call k f args => cases k <;> first | rfl | (simp [cls] at h)
 | callv k x args => cases k <;> first | rfl | (simp [cls] at h)
 | store _ _ _ => simp [cls] at h
 | bslice _ _ => simp [cls] at h
 | append _ _ _ _ => simp [cls] at h
 | appk _ _ _ => simp [cls] at h
 | appz _ _ _ _ _ => simp [cls] at h
 | copy _ _ _ => simp [cls] at h
 | load _ _ _ => simp [cls] at h
 | slice _ _ _ _ _ => simp [cls] at h
 | indexA _ _ _ => simp [cls] at h
 | _ => rfl
theorem Compat.ofS {x y : LOp} (h : sy x.op y.op = true) : Compat x y e := by
 simp only [sy, Bool.or_eq_true, aA, beq_iff_eq, decide_eq_true_eq, bne_iff_ne, ne_eq] at h
 rcases h with (((h | h) | ⟨h1, h2⟩) | ⟨h1, h2⟩) | ⟨h1, h2⟩
 ·exact .inl h
 ·exact .inr (.inl h)
 ·obtain ⟨x1, x2⟩ := sW (e := e) h1
  obtain ⟨y1, y2⟩ := sW (e := e) h2
  exact .inr (.inr ⟨by omega, by omega, by simp [y1], by simp [y2], by simp [x1], by simp [x2], by simp [x1]⟩)
 ·have := ni (e := e) (op := x.op) (by omega)
  exact .inr (.inr ⟨by omega, h2, by simp [hZ, this]⟩)
 ·have := ni (e := e) (op := y.op) (by omega)
  exact .inr (.inr ⟨h2, by omega, by simp [hZ, this]⟩)
theorem tM {F H : lh} (h : lR F H = true) : hZ F H := by
 simp only [lR, aA, aU, Bool.not_eq_true'] at h
 obtain ⟨⟨⟨⟨h1, h2⟩, h3⟩, h4⟩, h5⟩ := h
 have k : ∀ {l : List Nat} {b : Nat}, l.elem b = false → b ∉ l := by intro l b h hm; rw [List.elem_eq_contains, ← Bool.not_eq_true, List.contains_iff_mem] at h; exact h hm
 exact ⟨fun b hb => k (h1 b hb), fun b hb => k (h2 b hb), fun b hb => k (h3 b hb), fun b hb => k (h4 b hb), fun b hb => k (h5 b hb)⟩
theorem oM {x y : LOp} (h : indep x y = true) : (∀ d, x.d = some d → d ∉ sJ y) ∧ (∀ d, y.d = some d → d ∉ sJ x) ∧ (∀ d, x.d = some d → y.d ≠ some d) := by
 simp only [indep, aA] at h
 have k : ∀ {l : List Nat} {b : Nat}, l.elem b = false → b ∉ l := by intro l b h hm; rw [List.elem_eq_contains, ← Bool.not_eq_true, List.contains_iff_mem] at h; exact h hm
 obtain ⟨h1, h2⟩ := h
 refine ⟨?_, ?_, ?_⟩
 ·intro d hd
  rw [hd] at h1
  simp only [aA, Bool.not_eq_true'] at h1
  exact k h1.1
 ·intro d hd
  rw [hd] at h2
  simp only [Bool.not_eq_true'] at h2
  exact k h2
 ·intro d hd hy
  rw [hd, hy] at h1
  simp at h1
theorem CH {x y : LOp} {e1 e2 : Env} {σ1 σ2 : ar} (hx : evL run base x e σ = some (e1, σ1)) (hy : evL run base y e1 σ1 = some (e2, σ2)) (hi : indep x y = true) (hc : Compat x y e)
 (px : i7 x.op = true → x.sl.isSome = true) (py : i7 y.op = true → y.sl.isSome = true)
 (hn : ∀ b, b ∈ (cR e y.op).rd ∨ b ∈ (cR e y.op).sz ∨ b ∈ (cR e y.op).wr → σ[b]? ≠ some Blk.hole) :
 ∃ e1' σ1' e2', evL run base y e σ = some (e1', σ1') ∧ evL run base x e1' σ1' = some (e2', σ2) ∧ jH e2' e2 := by
 obtain ⟨i1, i2, i3⟩ := oM hi
 obtain ⟨v, hv, rfl⟩ := nV hx
 obtain ⟨u, hu, rfl⟩ := nV hy
 have ey : eR (sJ y) (sto x.d v e) e := by
  intro t ht
  rw [lL, if_neg]
  intro h; exact i1 t h ht
 have ex : eR (sJ x) (sto y.d u e) e := by
  intro t ht
  rw [lL, if_neg]
  intro h; exact i2 t h ht
 rw [nm ey] at hu
 have key : ∃ τ, evV run base y e σ = some (u, τ) ∧ evV run base x e τ = some (v, σ2) := by
  rcases hc with h | h | ⟨h1, h2, h3⟩
  ·obtain ⟨rfl, q⟩ := mZ (run := run) (base := base) (e := e) h σ v σ1 hv
   exact ⟨σ2, hu, q σ2⟩
  ·obtain ⟨rfl, q⟩ := mZ (run := run) (base := base) (e := e) h σ1 u σ2 hu
   exact ⟨σ, q σ, hv⟩
  ·obtain ⟨s, hs⟩ := nf (run := run) (base := base) (e := e) h1 px
   obtain ⟨t, ht⟩ := nf (run := run) (base := base) (e := e) h2 py
   exact CG hs ht h3 hv hu hn
 obtain ⟨τ, k1, k2⟩ := key
 refine ⟨sto y.d u e, τ, sto x.d v (sto y.d u e), by rw [oX, k1]; rfl, by rw [oX, nm ex, k2]; rfl, ?_⟩
 intro n
 simp only [lL]
 by_cases hd : x.d = some n
 ·rw [if_pos hd, if_neg (i3 n hd), if_pos hd]
 ·rw [if_neg hd, if_neg hd]
theorem pF {L : List LOp} {i : Nat} {post : List Nat} {ef : Env} {σf : ar} (pi : i7 (at' L i).op = true → (at' L i).sl.isSome = true) :
 ∀ (pre : List Nat) (e : Env) (σ : ar) (eg : Env), du run base ((pre ++ i :: post).map (at' L)) e σ = some (eg, σf) → jH eg ef →
  (∀ j ∈ pre, indep (at' L j) (at' L i) = true ∧ (i7 (at' L j).op = true → (at' L j).sl.isSome = true)) →
  (∀ pre1 j pre2, pre = pre1 ++ j :: pre2 → sy (at' L j).op (at' L i).op = true ∨
    (cls (at' L j).op ≠ 4 ∧ cls (at' L i).op ≠ 4 ∧ hZ (cR ef (at' L j).op) (cR ef (at' L i).op) ∧ ∀ k ∈ j :: pre2 ++ i :: post, ∀ d, (at' L k).d = some d → d ∉ i5 (at' L j).op ∧ d ∉ i5 (at' L i).op)) →
  (∀ b, b ∈ (cR e (at' L i).op).rd ∨ b ∈ (cR e (at' L i).op).sz ∨ b ∈ (cR e (at' L i).op).wr → σ[b]? ≠ some Blk.hole) →
  ∃ eg', du run base ((i :: pre ++ post).map (at' L)) e σ = some (eg', σf) ∧ jH eg' ef
 | [], e, σ, eg, hr, he, _, _, _ => ⟨eg, hr, he⟩
 | j :: pre, e, σ, eg, hr, he, hind, hcomp, hn => by
   have hr0 := hr
   rw [fk, List.map_cons] at hr
   simp only [du] at hr
   split at hr
   ·rename_i e1 σ1 hev
    obtain ⟨hij, hpj⟩ := hind j (by simp)
    obtain ⟨v, hv, he1⟩ := nV hev
    have hcj : Compat (at' L j) (at' L i) e := by
     rcases hcomp [] j pre rfl with h | ⟨h1, h2, h3, h4⟩
     ·exact Compat.ofS h
     ·have ag : ∀ (o : ROp), (∀ k ∈ j :: pre ++ i :: post, ∀ d, (at' L k).d = some d → d ∉ i5 o) → eR (i5 o) e ef := by
       intro o ho t ht
       rw [← he t]
       symm
       refine u6 hr0 ?_
       intro x hx hd
       obtain ⟨k, hk, rfl⟩ := List.mem_map.1 hx
       exact ho k hk t hd ht
      rw [← lN (ag _ fun k hk d hd => (h4 k hk d hd).1), ← lN (ag _ fun k hk d hd => (h4 k hk d hd).2)] at h3
      exact .inr (.inr ⟨h1, h2, h3⟩)
    have hfe : cR e1 (at' L i).op = cR e (at' L i).op := by
     refine lN fun t ht => ?_
     rw [he1, lL, if_neg]
     intro hd
     exact (oM hij).1 t hd (aF.2 (.inl ht))
    have hn1 : ∀ b, b ∈ (cR e1 (at' L i).op).rd ∨ b ∈ (cR e1 (at' L i).op).sz ∨ b ∈ (cR e1 (at' L i).op).wr → σ1[b]? ≠ some Blk.hole := by
     rw [hfe]
     intro b hb
     rcases hcj with h | h | ⟨h, _, _⟩
     ·obtain ⟨rfl, _⟩ := mZ (run := run) (base := base) (e := e) h σ v σ1 hv
      exact hn b hb
     ·rw [ni (by omega)] at hb
      simp at hb
     ·obtain ⟨s, hs⟩ := nf (run := run) (base := base) (e := e) h hpj
      intro hh
      exact hn b hb ((hs σ v σ1 hv).2.2.1 b hh)
    obtain ⟨eg1, hr1, he2⟩ := pF pi pre e1 σ1 eg hr he (fun k hk => hind k (by simp [hk])) (fun p1 k p2 hp => hcomp (j :: p1) k p2 (by rw [hp]; rfl)) hn1
    rw [fk, List.map_cons] at hr1
    simp only [du] at hr1
    split at hr1
    ·rename_i e2 σ2 hev2
     obtain ⟨e1', σ1', e2', k1, k2, k3⟩ := CH hev hev2 hij hcj hpj pi hn
     obtain ⟨eg2, k4, k5⟩ := r5 (fun n => (k3 n).symm) hr1
     refine ⟨eg2, ?_, fun n => (k5 n).symm.trans (he2 n)⟩
     rw [fk, List.map_cons, fk, List.map_cons]
     simp only [du, k1, k2]
     exact k4
    ·cases hr1
   ·cases hr
end
def lQ (o : Oper) : List Nat := (o.after.toList.filter fun e => Region.binds .any e).map (·.on)
def rm : List Nat → List Nat → List Nat
 | [], acc => acc
 | x :: l, acc => if acc.elem x then rm l acc else rm l (x :: acc)
def Bg : List (List Nat) → List (List Nat) → List (List Nat)
 | acc, [] => acc
 | acc, ds :: rest => Bg (acc ++ [ds.foldl (fun a k => rm (acc.getD k []) (rm [k] a)) []]) rest
def Bf (deps tab : List (List Nat)) : Bool :=
 (ca deps.length).all fun i => (deps.getD i []).all (fun j => decide (j < i)) &&
  (tab.getD i []).all fun j => (deps.getD i []).elem j || (deps.getD i []).any fun k => (tab.getD k []).elem j
def tX (L : List LOp) (ci : List Nat) (j i : Nat) : Bool :=
 (ca L.length).all fun k => decide (k < j) || (match (at' L k).d with | some d => !(i5 (at' L j).op).elem d && (ci.elem k || !(i5 (at' L i).op).elem d) | none => true)
def xS (L : List LOp) (xp : List (Nat × Nat)) (ci : List Nat) (j i : Nat) : Bool :=
 ci.elem j || (indep (at' L j) (at' L i) && (sy (at' L j).op (at' L i).op || (cls (at' L j).op != 4 && cls (at' L i).op != 4 && xp.any (fun p => p.1 == j && p.2 == i) && tX L ci j i)))
def yN (L : List LOp) (xp : List (Nat × Nat)) (deps tab : List (List Nat)) : Bool :=
 deps.length == L.length && Bf deps tab && L.all (fun o => (!i7 o.op || o.sl.isSome) && vA o.op) &&
 (ca L.length).all fun i => (ca i).all fun j => xS L xp (tab.getD i []) j i
def yM (ops : Array Oper) (L : List LOp) (xp : List (Nat × Nat)) : Bool := yN L xp (ops.toList.map lQ) (Bg [] (ops.toList.map lQ))
section
variable {P : Program} {ops : Array Oper} {Q : Exit → Act → World → Prop} {run : dx} {base n : Nat} {rd : Option Nat} {mm : Nat} {L : List LOp} {xp : List (Nat × Nat)} {tab : List (List Nat)}
theorem kB {l : List Nat} {b : Nat} : l.elem b = true ↔ b ∈ l := by rw [List.elem_eq_contains, List.contains_iff_mem]
theorem yJ {l : List Nat} {b : Nat} : (!l.elem b) = true ↔ b ∉ l := by rw [Bool.not_eq_true', ← Bool.not_eq_true, kB]
theorem vS {ef : Env} {σf : ar} (hc : eF P run) (hok : okL P ops n ops.toList L = true) (hd : yN L xp (ops.toList.map lQ) tab = true) (hxp : xp.all (fZ ef L) = true) :
 ∀ (fuel : Nat) (listed : Array Bool) (rest : List Nat) (e : Env) (σ : ar) (w : World) (G : Nat → Prop) (ρ : List Loc) (a : Act) (eg : Env),
  listed.size = ops.size → rest = (ca ops.size).filter (fun i => !listed.getD i true) → rest.length ≤ fuel →
  (∀ k, k < ops.size → listed.getD k false = true → ∀ j ∈ tab.getD k [], listed.getD j false = true) →
  St w G ρ σ → cX w G ρ e a.tmps → n ≤ a.tmps.size → du run base (rest.map (at' L)) e σ = some (eg, σf) → jH eg ef → j3 (fun _ => False) w G ρ a ef σf (fun a w => Q .normal a w) →
  wpAnyIn (Fr rd) mm P .any ops Q fuel listed a w := by
 obtain ⟨hlen, hget⟩ := kX hok
 simp only [fK] at hlen
 simp only [yN, aA, aU, List.mem_range, Bf, Bool.or_eq_true, Bool.not_eq_true', beq_iff_eq, decide_eq_true_eq, List.any_eq_true, kB] at hd
 obtain ⟨⟨⟨_, hclo⟩, hslot⟩, hpair⟩ := hd
 have hatL : ∀ i, i < ops.size → L[i]? = some (at' L i) := by
  intro i hi
  rw [hlen] at hi
  simp [at', aK, hi]
 have hdeps : ∀ i o, ops[i]? = some o → (ops.toList.map lQ).getD i [] = lQ o := by
  intro i o ho
  simp [aK, ho]
 intro fuel
 induction fuel with
 | zero =>
   intro listed rest e σ w G ρ a eg hsz hrest hfuel hdown hs he hn hr hee hK
   have hnil : rest = [] := List.length_eq_zero_iff.1 (by omega)
   rw [hnil] at hr
   simp only [List.map_nil, du] at hr
   cases hr
   refine ⟨?_, hK a w G ρ hs Ext.refl (fun k => by rw [← hee k]; exact he k) rfl rfl (fun _ (h : False) => h.elim)⟩
   rw [List.eq_nil_iff_forall_not_mem]
   intro i hi
   obtain ⟨h0, o, ho, _⟩ := mem_ready.1 hi
   have : i ∈ rest := by rw [hrest, List.mem_filter, List.mem_range]; exact ⟨c6 ho, by rw [h0]; rfl⟩
   rw [hnil] at this
   cases this
 | succ fuel ih =>
   intro listed rest e σ w G ρ a eg hsz hrest hfuel hdown hs he hn hr hee hK
   have gd : ∀ k, k < ops.size → listed.getD k true = listed.getD k false := by
    intro k hk
    have : k < listed.size := by omega
    simp [this]
   have hmem : ∀ k, k ∈ rest ↔ k < ops.size ∧ listed.getD k false = false := by
    intro k
    rw [hrest, List.mem_filter, List.mem_range]
    constructor
    ·rintro ⟨h1, h2⟩; rw [gd k h1] at h2; exact ⟨h1, by simpa using h2⟩
    ·rintro ⟨h1, h2⟩; rw [gd k h1, h2]; exact ⟨h1, rfl⟩
   refine ⟨?_, ?_⟩
   ·intro hready
    have hnil : rest = [] := by
     rw [List.eq_nil_iff_forall_not_mem]
     intro i
     induction i using Nat.strongRecOn with
     | ind i ihi =>
       intro hi
       obtain ⟨h1, h2⟩ := (hmem i).1 hi
       have : i ∈ Region.ready .any ops listed := by
        refine mem_ready.2 ⟨by rw [gd i h1]; exact h2, ops[i], by simp, ?_⟩
        intro ed hed hb
        have hin : ed.on ∈ lQ ops[i] := List.mem_map.2 ⟨ed, List.mem_filter.2 ⟨by simpa using hed, hb⟩, rfl⟩
        have hlt := (hclo i (by simpa using h1)).1 ed.on (by rw [hdeps i ops[i] (by simp)]; exact hin)
        have hno := ihi ed.on hlt
        cases hv : listed.getD ed.on false with
        | true => rfl
        | false => exact absurd ((hmem ed.on).2 ⟨by omega, hv⟩) hno
       rw [hready] at this
       cases this
    rw [hnil] at hr
    simp only [List.map_nil, du] at hr
    cases hr
    exact hK a w G ρ hs Ext.refl (fun k => by rw [← hee k]; exact he k) rfl rfl (fun _ (h : False) => h.elim)
   ·intro i hi
    obtain ⟨h0, o, ho, hafter⟩ := mem_ready.1 hi
    have hilt := c6 ho
    have himem : i ∈ rest := (hmem i).2 ⟨hilt, by rw [← gd i hilt]; exact h0⟩
    have hclosed : ∀ j ∈ tab.getD i [], listed.getD j false = true := by
     intro j hj
     have hdep : ∀ k ∈ lQ o, listed.getD k false = true := by
      intro k hk
      obtain ⟨ed, hed, rfl⟩ := List.mem_map.1 hk
      obtain ⟨q1, q2⟩ := List.mem_filter.1 hed
      exact hafter ed (by simpa using q1) q2
     rcases (hclo i (by simpa using hilt)).2 j hj with h | ⟨k, h1, h2⟩
     ·rw [hdeps i o ho] at h; exact hdep j h
     ·have hk2 := (hclo i (by simpa using hilt)).1 k h1
      rw [hdeps i o ho] at h1
      exact hdown k (by omega) (hdep k h1) j h2
    obtain ⟨pre, post, hsplit⟩ := List.append_of_mem himem
    have hsorted : rest.Pairwise (·< ·) := by rw [hrest]; exact List.Pairwise.filter _ List.pairwise_lt_range
    rw [hsplit] at hsorted
    have hpre : ∀ j ∈ pre, j < i := fun j hj => (List.pairwise_append.1 hsorted).2.2 j hj i (by simp)
    have hpost : ∀ j ∈ post, i < j := fun j hj => (List.pairwise_cons.1 (List.pairwise_append.1 hsorted).2.1).1 j hj
    have hunl : ∀ j ∈ rest, j ∉ tab.getD i [] := by
     intro j hj hm
     have := ((hmem j).1 hj).2
     rw [hclosed j hm] at this
     cases this
    have hpk : ∀ j ∈ pre, indep (at' L j) (at' L i) = true ∧ (sy (at' L j).op (at' L i).op = true ∨ (cls (at' L j).op ≠ 4 ∧ cls (at' L i).op ≠ 4 ∧ (∃ p ∈ xp, p.1 = j ∧ p.2 = i) ∧ tX L (tab.getD i []) j i = true)) := by
     intro j hj
     have h1 := hpair i (by omega) j (hpre j hj)
     simp only [xS, Bool.or_eq_true, aA, kB, bne_iff_ne, ne_eq, List.any_eq_true, beq_iff_eq] at h1
     rcases h1 with h1 | ⟨h1, h2⟩
     ·exact absurd h1 (hunl j (by rw [hsplit]; simp [hj]))
     ·refine ⟨h1, h2.imp id ?_⟩
      rintro ⟨⟨⟨a1, a2⟩, a3⟩, a4⟩
      exact ⟨a1, a2, a3, a4⟩
    have hslots : ∀ j, j < ops.size → (i7 (at' L j).op = true → (at' L j).sl.isSome = true) ∧ vA (at' L j).op = true := by
     intro j hj
     have := hslot (at' L j) (bf (hatL j hj))
     refine ⟨fun hp => ?_, this.2⟩
     rcases this.1 with h | h
     ·rw [hp] at h; cases h
     ·exact h
    have hjlt : ∀ j ∈ rest, j < ops.size := fun j hj => ((hmem j).1 hj).1
    rw [hsplit] at hr
    obtain ⟨eg', hr', hee'⟩ := pF (hslots i hilt).1 pre e σ eg hr hee
     (fun j hj => ⟨(hpk j hj).1, (hslots j (hjlt j (by rw [hsplit]; simp [hj]))).1⟩)
     (by
       intro pre1 j pre2 hp
       have hjp : j ∈ pre := by rw [hp]; simp
       rcases (hpk j hjp).2 with h | ⟨a1, a2, ⟨p, hpm, hp1, hp2⟩, a4⟩
       ·exact .inl h
       ·refine .inr ⟨a1, a2, ?_, ?_⟩
        ·have := aU.1 hxp p hpm
         unfold fZ at this
         rw [hp1, hp2, hatL j (hjlt j (by rw [hsplit]; simp [hjp])), hatL i hilt] at this
         exact tM this
        ·intro k hk d hdk
         have hkr : k ∈ rest := by
          rw [hsplit, hp]
          rcases aF.1 hk with h | h
          ·exact aF.2 (.inl (aF.2 (.inr h)))
          ·exact aF.2 (.inr h)
         have hjk : j ≤ k := by
          have hs2 : (j :: pre2 ++ i :: post).Pairwise (·< ·) := by
           rw [hp, aP] at hsorted
           exact (List.pairwise_append.1 hsorted).2.1
          rw [fk] at hs2 hk
          rcases List.mem_cons.1 hk with rfl | hk
          ·exact av _
          ·exact Nat.le_of_lt ((List.pairwise_cons.1 hs2).1 k hk)
         simp only [tX, aU, List.mem_range, Bool.or_eq_true, decide_eq_true_eq] at a4
         have hk4 := a4 k (by rw [← hlen]; exact hjlt k hkr)
         rcases hk4 with h | h
         ·omega
         ·rw [hdk] at h
          simp only [aA, Bool.or_eq_true, yJ, kB] at h
          exact ⟨h.1, h.2.resolve_left (hunl k hkr)⟩)
     (by
       intro b hb
       obtain ⟨t, _, ht⟩ := wt (hslots i hilt).2 hb
       exact r9 hs (he t) ht)
    rw [fk, List.map_cons] at hr'
    simp only [du] at hr'
    split at hr'
    ·rename_i e1 σ1 hev
     refine u4 hc hs he hn ho (hget i o _ (by simpa using ho) (hatL i hilt)) (fun _ (h : False) => h.elim) hev ?_
     intro a' w' G' ρ' s1 x1 r1 d1 z1 t1
     have gset : ∀ k, k < ops.size → (listed.setIfInBounds i true).getD k false = if k = i then true else listed.getD k false := by
      intro k hk
      by_cases hki : k = i
      ·subst hki; rw [if_pos rfl]; simp [hsz, hk]
      ·rw [if_neg hki, getD_set_ne false (fun x => hki x.symm)]
     refine ih (listed.setIfInBounds i true) (pre ++ post) e1 σ1 w' G' ρ' a' eg' (by simp [hsz]) ?_ ?_ ?_ s1 r1 (by omega) hr' hee' (hK.trans x1 d1 z1 t1)
     ·have h1 : (ca ops.size).filter (fun k => !(listed.setIfInBounds i true).getD k true) = rest.filter (fun k => decide (k ≠ i)) := by
       rw [hrest, List.filter_filter]
       apply List.filter_congr
       intro k hk
       rw [List.mem_range] at hk
       by_cases hki : k = i
       ·subst hki; simp [hsz, hk]
       ·rw [getD_set_ne true (fun x => hki x.symm)]; simp [hki]
      rw [h1, hsplit, List.filter_append, List.filter_cons]
      have e1 : pre.filter (fun k => decide (k ≠ i)) = pre := List.filter_eq_self.2 fun k hk => by have := hpre k hk; simp; omega
      have e2 : post.filter (fun k => decide (k ≠ i)) = post := List.filter_eq_self.2 fun k hk => by have := hpost k hk; simp; omega
      rw [e1, e2]; simp
     ·have := congrArg List.length hsplit
      simp at this ⊢
      omega
     ·intro k hk hkl j hj
      have hset : ∀ j, listed.getD j false = true → (listed.setIfInBounds i true).getD j false = true := fun j h => getD_set_true h
      rw [gset k hk] at hkl
      by_cases hki : k = i
      ·subst hki; exact hset j (hclosed j hj)
      ·rw [if_neg hki] at hkl; exact hset j (hdown k hk hkl j hj)
    ·cases hr'
theorem xg {w : World} {G : Nat → Prop} {ρ : List Loc} {σ : ar} {e e' : Env} {σ' : ar} {a : Act} (hc : eF P run) (hok : okL P ops n ops.toList L = true) (hd : yM ops L xp = true) (hxp : xp.all (fZ e' L) = true)
 (hs : St w G ρ σ) (he : cX w G ρ e a.tmps) (hn : n ≤ a.tmps.size) (hr : du run base L e σ = some (e', σ')) (hK : j3 (fun _ => False) w G ρ a e' σ' (fun a w => Q .normal a w)) :
 wpAnyIn (Fr rd) mm P .any ops Q ops.size (ee ops.size false) a w := by
 have hlen := (kX hok).1
 simp only [fK] at hlen
 refine vS (base := base) hc hok hd hxp ops.size (ee ops.size false) (ca ops.size) e σ w G ρ a e' (by simp) ?_ (by simp) ?_ hs he hn ?_ (fun _ => rfl) hK
 ·symm
  rw [List.filter_eq_self]
  intro k hk
  simp at hk
  simp [hk]
 ·intro k hk h
  simp [hk] at h
 ·have : (ca ops.size).map (at' L) = L := by
   apply dv
   intro i
   rw [cd]
   rcases ax i ops.size with h | h
   ·rw [gn h]
    have h' : i < L.length := by omega
    simp [at', aK, h']
   ·rw [aG (by simpa using h), aG (by omega)]; rfl
  rw [this]; exact hr
end
section
variable {w w' w1 w2 : World} {G G' G1 G2 : Nat → Prop} {ρ ρ' ρ1 ρ2 : List Loc} {σ : ar} {l : Nat}
theorem St.frame (h : St w G ρ σ) (hG : ∀ k, G k → w'.heap[k]? = w.heap[k]?) (hL : ∀ k, Live ρ k → w'.heap[k]? = w.heap[k]?) (hz : w.heap.size ≤ w'.heap.size) : St w' G ρ σ :=
 ⟨fun k hk => bP (h.g k hk) hz, h.len, h.inj, fun i l b h1 h2 => (h.ok i l b h1 h2).mono hG (fun _ x => x) (cx.refl _) fun k o t s e => ⟨hL k ⟨i, o, t, s, e ▸ h1⟩, id⟩⟩
theorem St.oH (h : St w G ρ σ) {k : Nat} (hk : Live ρ k) : ∃ arr el, w.heap[k]? = some (.cells arr el (0, 0)) := by
 obtain ⟨i, o, t, s, hi⟩ := hk
 have hlt := ba hi
 have hs : σ[i]? = some σ[i]! := by
  have : i < σ.length := h.len ▸ hlt
  simp [this]
 have := h.ok i _ _ hi hs
 unfold ej at this
 split at this
 ·simp_all
 ·simp_all
 ·rename_i heq; cases heq; obtain ⟨_, _, arr, el, hh, _⟩ := this; exact ⟨arr, el, hh⟩
 ·simp_all
 ·rename_i heq; cases heq; obtain ⟨_, _, arr, el, hh, _⟩ := this; exact ⟨arr, el, hh⟩
 ·exact this.elim
theorem St.qO (h : St w G ρ σ) {k : Nat} {o : Obj} (ho : w.heap[k]? = some o) (hc : ∀ arr el fr, o ≠ .cells arr el fr) : ¬ Live ρ k := fun hl => by
 obtain ⟨arr, el, h1⟩ := h.oH hl
 rw [ho] at h1
 cases h1
 exact hc _ _ _ rfl
structure f0 (l : Nat) (w : World) (G : Nat → Prop) (ρ : List Loc) (w' : World) (G' : Nat → Prop) (ρ' : List Loc) : Prop where
 wld : ld w w'
 loc : cx ρ ρ'
 heap : w.heap.size ≤ w'.heap.size
 grow : ∀ k, G k → G' k
 only : ∀ k, G' k → G k ∨ w.heap.size ≤ k ∨ Live ρ k
 below : ∀ k, k < w.heap.size → k ≠ l → ¬ Live ρ k → w'.heap[k]? = w.heap[k]?
 lives : ∀ k, Live ρ' k → Live ρ k ∨ w.heap.size ≤ k
theorem Ext.toL (h : Ext w G ρ w' G' ρ') : f0 l w G ρ w' G' ρ' := ⟨h.wld, h.loc, h.heap, h.grow, h.only, fun k hk _ hn => h.below k hk hn, h.lives⟩
theorem f0.trans (h : f0 l w G ρ w1 G1 ρ1) (h' : f0 l w1 G1 ρ1 w2 G2 ρ2) : f0 l w G ρ w2 G2 ρ2 where
 wld := h.wld.trans h'.wld
 loc := h.loc.trans h'.loc
 heap := a9 h.heap h'.heap
 grow := fun k hk => h'.grow k (h.grow k hk)
 only := by
  intro k hk
  rcases h'.only k hk with h1 | h1 | h1
  ·exact h.only k h1
  ·exact .inr (.inl (a9 h.heap h1))
  ·rcases h.lives k h1 with h2 | h2
   ·exact .inr (.inr h2)
   ·exact .inr (.inl h2)
 below := by
  intro k hk hl hn
  rw [h'.below k (bP hk h.heap) hl fun hlv => ?_, h.below k hk hl hn]
  rcases h.lives k hlv with h2 | h2
  ·exact hn h2
  ·omega
 lives := by
  intro k hk
  rcases h'.lives k hk with h1 | h1
  ·exact h.lives k h1
  ·exact .inr (a9 h.heap h1)
theorem nB {o : Obj} : ld w (w.putObj l o) := ⟨rfl, rfl, rfl⟩
theorem f0.put {o : Obj} : f0 l w G ρ (w.putObj l o) G ρ :=
 ⟨nB, cx.refl _, by rw [World.putObj_size]; exact av _, fun _ h => h, fun _ h => .inl h, fun k _ hl _ => World.putObj_heap_other hl, fun _ h => .inl h⟩
theorem f0.ext (h : f0 l w1 G1 ρ1 w2 G2 ρ2) (hx : Ext w G ρ w1 G1 ρ1) (hl : w.heap.size ≤ l) : Ext w G ρ w2 G2 ρ2 :=
 have h2 := hx.toL (l := l) |>.trans h
 ⟨h2.wld, h2.loc, h2.heap, h2.grow, h2.only, fun k hk hn => h2.below k hk (by omega) hn, h2.lives⟩
theorem f0.noG (h : f0 l w G ρ w' G' ρ') {D : Nat} (hD : D < w.heap.size) (hn : ¬ Live ρ D) (hg : ¬ G D) : ¬ G' D := fun hh => by
 rcases h.only D hh with h1 | h1 | h1
 ·exact hg h1
 ·omega
 ·exact hn h1
theorem f0.same (h : f0 l w G ρ w' G' ρ') (hs : St w G ρ σ) (hg : ¬ G l) : ∀ k, G k → w'.heap[k]? = w.heap[k]? :=
 fun k hk => h.below k (hs.g k hk) (fun e => hg (e ▸ hk)) fun hl => hs.z7 hl hk
theorem bT.uz (h : f0 l w G ρ w' G' ρ') (hs : St w G ρ σ) (hg : ¬ G l) {x : CV} {v : Value} (hr : bT w G ρ x v) : bT w' G' ρ' x v :=
 hr.mono (h.same hs hg) h.grow h.loc
theorem cX.uz (h : f0 l w G ρ w' G' ρ') (hs : St w G ρ σ) (hg : ¬ G l) {e : Env} {ts : Array Value} (hr : cX w G ρ e ts) : cX w' G' ρ' e ts :=
 fun k => (hr k).uz h hs hg
theorem St.put {o : Obj} (hs : St w G ρ σ) (hg : ¬ G l) (hn : ¬ Live ρ l) : St (w.putObj l o) G ρ σ :=
 hs.frame (fun k hk => World.putObj_heap_other fun e => hg (e ▸ hk)) (fun k hk => World.putObj_heap_other fun e => hn (e ▸ hk)) (by rw [World.putObj_size]; exact av _)
theorem St.BT {b : Nat} {l : Loc} {x : Blk} (hs : St w G ρ σ) (hb : ρ[b]? = some l) (hx : ej w G ρ l x) : St w G ρ (σ.set b x) := by
 refine ⟨hs.g, by rw [ay]; exact hs.len, hs.inj, fun i l' y h1 h2 => ?_⟩
 by_cases hi : b = i
 ·subst hi
  rw [aO (by rw [← hs.len]; exact ba hb)] at h2
  rw [hb] at h1
  cases h1
  cases h2
  exact hx
 ·rw [aE hi] at h2
  exact hs.ok i l' y h1 h2
theorem St.jV {b : Nat} {cs : List CV} {qs : List PV} (hs : St w G ρ σ) (hb : σ[b]? = some (.kblk 1 cs)) (hf : eU σ cs = some qs) (hq : qs.all uv = true) (hself : b ∉ cs.flatMap eA) :
 ∃ G' ρ', St w G' ρ' ((eE σ cs).set b (.prow 1 qs)) ∧ Ext w G ρ w G' ρ' := by
 obtain ⟨G', ρ', s1, e1, t1, d1⟩ := jE (cs.flatMap eA) G ρ σ hs (qX hf)
 have hk : eE σ cs = fa σ (cs.flatMap eA) := oK cs σ
 rw [← hk] at s1
 have hget : (eE σ cs)[b]? = some (.kblk 1 cs) := by
  rw [hk, fP _ _ _ hself]; exact hb
 have hlt : b < ρ.length := by rw [hs.len]; exact ba hb
 have hlt' : b < ρ'.length := by rw [s1.len]; exact ba hget
 have o1 := s1.ok b ρ'[b] _ (by simp) hget
 have o0 := hs.ok b ρ[b] _ (by simp) hb
 cases hl : ρ[b] with
 | det => rw [hl] at o0; exact o0.elim
 | dead => rw [hl] at o0; exact o0.elim
 | hole => rw [hl] at o0; exact o0.elim
 | lv blk o tot sz =>
   rw [hl] at o0
   have hl' : ρ'[b] = .lv blk o tot sz := by
    have h0 : ρ[b]? = some (.lv blk o tot sz) := by rw [← hl]; simp
    rcases e1.loc b _ h0 with h | h | h
    ·rw [bG hlt'] at h; exact Option.some.inj h
    ·rw [bG hlt'] at h
     rw [Option.some.inj h] at o1; exact o1.elim
    ·cases h
   rw [hl'] at o1
   obtain ⟨rfl, ng, arr, el, hh, hz, hfit, hc⟩ := o1
   obtain ⟨_, _, arr0, el0, hh0, _, _, hc0⟩ := o0
   rw [hh] at hh0
   cases hh0
   refine ⟨G', ρ', s1.BT (l := .lv blk o tot 1) (by rw [← hl']; simp) ?_, e1⟩
   have hget2 : ∀ k, k < cs.length → ∃ u, arr[o + k]? = some u := fun k hk => ⟨arr[o + k]'(by omega), by simp⟩
   obtain ⟨h1, h2⟩ := oP hs e1.grow (vs := (ca cs.length).map fun k => arr.getD (o + k) undef) hf (by simp) (fun k c v hkc hkv => by
    have hkl := ba hkc
    rw [cd, gn hkl, aH] at hkv
    cases hkv
    obtain ⟨u, hu⟩ := hget2 k hkl
    have : arr.getD (o + k) undef = u := by rw [eJ, hu]; rfl
    rw [this]
    exact (hc0 k c u hkc hu).1) (by
    intro b' hb' blk' o' t' s' hloc
    rcases t1 b' blk' o' t' s' hloc with h | h
    ·rw [d1 b' hb'] at h; cases h
    ·exact h)
   have hlen : qs.length = cs.length := by rw [h1]; simp
   have hsl : ∀ (i : Nat) e, qs[i]? = some e → e.cells = [e] := fun i e he => by
    have := aU.1 hq e (bf he)
    cases e <;> first | rfl | (simp [uv] at this)
   refine ⟨rfl, ng, arr, el, hh, hz, by omega, fun i e he => by rw [hsl i e he]; rfl, fun i e k c u he hk hu => ?_⟩
   rw [hsl i e he] at hk
   cases k with
   | succ k => simp at hk
   | zero =>
     simp at hk
     subst hk
     have hil := ba he
     rw [dq, bw] at hu
     refine ⟨h2 i e u he ?_, (hc i cs[i] u (by simp) hu).2⟩
     rw [cd, gn (by omega), aH]
     rw [eJ, hu]; rfl
def Marks (lo : Nat) (w : World) (G : Nat → Prop) : Nat → List Deferred → Prop
 | _, [] => True
 | B, d :: ds => ∃ D, d.target = .collected D ∧ lo ≤ D ∧ D < B ∧ ¬ G D ∧ w.heap[D]? = some (.deferred (some [])) ∧ Marks lo w G D ds
theorem Marks.mono {lo B B' : Nat} {ds : List Deferred} (h : Marks lo w G B ds) (hB : B ≤ B') : Marks lo w G B' ds := by
 cases ds with
 | nil => trivial
 | cons d ds =>
   obtain ⟨D, h1, h2, h3, h4⟩ := h
   exact ⟨D, h1, h2, bP h3 hB, h4⟩
theorem Marks.ct {lo : Nat} : ∀ {ds : List Deferred} {B : Nat}, Marks lo w G B ds → (∀ D, D < B → ¬ G D → w.heap[D]? = some (.deferred (some [])) → w'.heap[D]? = w.heap[D]? ∧ ¬ G' D) → Marks lo w' G' B ds
 | [], _, _, _ => trivial
 | d :: ds, B, ⟨D, h1, h2, h3, h4, h5, h6⟩, hk => by
   obtain ⟨a1, a2⟩ := hk D h3 h4 h5
   exact ⟨D, h1, h2, h3, a2, a1.trans h5, h6.ct fun E hE => hk E (by omega)⟩
theorem Marks.uz {lo B : Nat} {ds : List Deferred} (h : Marks lo w G B ds) (hx : f0 l w G ρ w' G' ρ') (hs : St w G ρ σ) (hl : w.heap[l]? ≠ some (.deferred (some []))) : Marks lo w' G' B ds :=
 h.ct fun D _ hg ho => by
  have hlt := c6 ho
  have hn := hs.qO ho (by intro _ _ _ e; cases e)
  exact ⟨hx.below D hlt (fun e => hl (e ▸ ho)) hn, hx.noG hlt hn hg⟩
theorem Marks.ext {lo B : Nat} {ds : List Deferred} (h : Marks lo w G B ds) (hx : Ext w G ρ w' G' ρ') (hs : St w G ρ σ) : Marks lo w' G' B ds :=
 h.ct fun D _ hg ho => by
  have hlt := c6 ho
  have hn := hs.qO ho (by intro _ _ _ e; cases e)
  exact ⟨hx.below D hlt hn, (hx.toL (l := w.heap.size)).noG hlt hn hg⟩
theorem unwind {P : Program} {b : Frame} {a : Act} {k : List Item} {cs : List Frame} {lo : Nat} : ∀ {ds : List Deferred} {w : World} {B : Nat}, Marks lo w G B ds →
 ∃ w', Steps P (lone { b.atR { a with defers := ds } k with mode := .returning } cs w) (lone { b.atR { a with defers := [] } k with mode := .returning } cs w') ∧ ld w w' ∧ w'.heap.size = w.heap.size ∧
  ∀ j, (j < lo ∨ G j ∨ ∃ arr el fr, w.heap[j]? = some (.cells arr el fr)) → w'.heap[j]? = w.heap[j]?
 | [], w, B, _ => ⟨w, .refl _ _, ⟨rfl, rfl, rfl⟩, rfl, fun _ _ => rfl⟩
 | d :: ds, w, B, ⟨D, h1, h2, h3, h4, h5, h6⟩ => by
   have hlt := c6 h5
   have hstep := step_collected (P := P) (fr := { b.atR { a with defers := d :: ds } k with mode := .returning }) (cs := cs) (by simp) rfl h1 (run_takeDeferred (P := P) h5)
   have hm : Marks lo (w.putObj D (.deferred none)) G D ds := h6.ct fun E hE hg ho => ⟨World.putObj_heap_other (by omega), hg⟩
   obtain ⟨w', q1, q2, q3, q4⟩ := unwind (b := b) (a := a) (k := k) (cs := cs) hm
   refine ⟨w', .head hstep q1, nB.trans q2, by rw [q3, World.putObj_size], fun j hj => ?_⟩
   have hjD : j ≠ D := by
    rintro rfl
    rcases hj with h | h | ⟨_, _, _, h⟩
    ·omega
    ·exact h4 h
    ·rw [h5] at h; cases h
   rw [q4 j (by rw [World.putObj_heap_other hjD]; exact hj), World.putObj_heap_other hjD]
theorem uA {P : Program} {rd : Option Nat} (hrd : ∀ l0, rd = some l0 → ∃ r, w.heap[l0]? = some (.loop r)) (fn : FuncId) (tmps : Array Value) (ps : Array Tmp) (assign body : Code) :
 ∃ l mark W1 dd, (Instr.enterLoop fn tmps ps assign body rd).run P w = .ok (l, mark) W1 ∧ w.heap.size ≤ l ∧ W1.heap[l]? = some (.loop { state := .ready, pending := none, fn, tmps, params := ps, assign, body, defers := dd }) ∧
  (∀ k, k < w.heap.size → W1.heap[k]? = w.heap[k]?) ∧ w.heap.size ≤ W1.heap.size ∧ ld w W1 ∧ (rd.isSome = true → mark = []) ∧
  ∀ (G : Nat → Prop) (lo : Nat) (ds : List Deferred), (∀ k, G k → k < w.heap.size) → lo ≤ w.heap.size → Marks lo w G w.heap.size ds → Marks lo W1 G l (mark ++ ds) := by
 cases rd with
 | none =>
   have hk : ∀ k, k < w.heap.size → ((w.alloc (.deferred (some []))).alloc (.loop { state := .ready, pending := none, fn, tmps, params := ps, assign, body, defers := w.heap.size })).heap[k]? = w.heap[k]? := fun k hk => by
    rw [RowKit.Below.heap_alloc _ _ _ (by simp; omega), RowKit.Below.heap_alloc _ _ _ hk]
   refine ⟨_, _, _, w.heap.size, run_enterLoop_outer fn tmps ps assign body, by omega, ?_, hk, by simp; omega, ⟨rfl, rfl, rfl⟩, (fun h => by cases h), fun G lo ds hG hlo hm => ?_⟩
   ·have := World.alloc_heap_new (w.alloc (.deferred (some []))) (.loop { state := .ready, pending := none, fn, tmps, params := ps, assign, body, defers := w.heap.size })
    rwa [World.size_alloc] at this
   ·refine ⟨w.heap.size, rfl, hlo, by omega, fun h => Nat.lt_irrefl _ (hG _ h), ?_, hm.ct fun D hD hg ho => ⟨hk D hD, hg⟩⟩
    rw [RowKit.Below.heap_alloc _ _ _ (by simp), World.alloc_heap_new]
 | some l0 =>
   obtain ⟨r, hr⟩ := hrd l0 rfl
   have hk : ∀ k, k < w.heap.size → (w.alloc (.loop { state := .ready, pending := none, fn, tmps, params := ps, assign, body, defers := r.defers })).heap[k]? = w.heap[k]? := fun k hk => RowKit.Below.heap_alloc _ _ _ hk
   exact ⟨_, _, _, r.defers, run_enterLoop_inner hr fn tmps ps assign body, av _, World.alloc_heap_new _ _, hk, by simp, ⟨rfl, rfl, rfl⟩, fun _ => rfl, fun G lo ds hG hlo hm => hm.ct fun D hD hg ho => ⟨hk D hD, hg⟩⟩
end
def iU (P : Program) (n : Nat) : RCode → Code → Bool
 | .skip, .skip => true
 | .reg L none, .region _ ops false => okL P ops n ops.toList L
 | .seq x y, .seq a b => iU P n x a && iU P n y b
 | _, _ => false
def no0 (L : List LOp) : Bool := L.all fun l => l.d != some 0
def okY (P : Program) (ops : Array Oper) (n y : Nat) (pre : List LOp) (d : Nat) (args : List Opd) (post : List LOp) : Bool :=
 ops.size == pre.length + (1 + post.length) + 1 && decide (y < n) && decide (d < n) && y != 0 && d != 0 &&
 (match ops[0]? with | some o => (match o.op with | .move (.tmp 0) => true | _ => false) && o.dst == some y && o.guard.isNone | none => false) &&
 (match ops[1 + pre.length]? with | some o => (match o.op with | .call c => (match c.callee with | .value (.tmp t) => t == y | _ => false) && gI c.args.toList args | _ => false) && o.dst == some d && o.guard.isNone | none => false) &&
 okL P ops n ((ops.toList.drop 1).take pre.length) pre && okL P ops n (ops.toList.drop (1 + pre.length + 1)) post && pre.all (fun l => l.d != some 0 && l.d != some y) && no0 post
def gJ (P : Program) (n : Nat) : RCode → Code → Bool
 | .fg _ c, code => gJ P n c code
 | .skip, .skip => true
 | .skip, .label _ => true
 | .reg L none, .region _ ops false => okL P ops n ops.toList L && no0 L
 | .yld y pre d args post, .region _ ops false => okY P ops n y pre d args post
 | .seq x y, .seq a b => gJ P n x a && gJ P n y b
 | .cond c x y, .cond d a b => bN d c && gJ P n x a && gJ P n y b
 | .block i x, .block j a => i == j && gJ P n x a
 | .scope x, .scope a => gJ P n x a
 | .loop x, .loop a => gJ P n x a
 | .exit i, .exit j => i == j
 | .ret, .ret => true
 | _, _ => false
def fA (P : Program) (n : Nat) (b : Bool) : RCode → Code → Bool
 | .fg _ c, code => fA P n b c code
 | .skip, .skip => true
 | .skip, .label _ => true
 | .reg L none, .region _ ops false => okL P ops n ops.toList L
 | .reg L (some (_, xp)), .region _ ops true => okL P ops n ops.toList L && yM ops L xp
 | .seq x y, .seq u v => fA P n b x u && fA P n b y v
 | .cond c x y, .cond d u v => bN d c && fA P n b x u && fA P n b y v
 | .block i x, .block j u => i == j && fA P n b x u
 | .scope x, .scope u => fA P n b x u
 | .loop x, .loop u => fA P n b x u
 | .exit i, .exit j => i == j
 | .ret, .ret => !b
 | .bret, .ret => b
 | .bexit i, .exit j => b && i == j
 | .rng b' ps x asg body, .rangeFunc g params assign code => b' == b && params.toList == ps && ps.all (fun p => decide (p < n)) && bN g x && iU P n asg assign && fA P n true body code
 | .iter c, code => !b && gJ P n c code
 | .jV _ c, code => fA P n b c code
 | _, _ => false
def ti (P : Program) : List dH → List ResultVar → Bool
 | [], [] => true
 | .t n :: rs, .tmp m :: vs => n == m && ti P rs vs
 | .cell n agg sz :: rs, .cell m t :: vs => n == m && ns P t == some agg && szP P t == some sz && ti P rs vs
 | _, _ => false
def j5 (P : Program) (f : Nat) (rf : RFun) : Bool :=
 nJ P f && (match P.funcs[f]? with
  | some fn => ti P rf.res fn.results.toList && (match fn.body with | some c => fA P fn.ntmps false rf.code c | none => false)
  | none => false)
section
variable {P : Program} {n : Nat}
inductive j7 (P : Program) (n : Nat) (k0 : Option (List Item)) : List KI → List Item → Prop
 | nil (h : k0 = none) : j7 P n k0 [] []
 | fin (k : List Item) (h : k0 = some k) : j7 P n k0 [.fin] k
 | code {c : RCode} {d : Code} {ks : List KI} {k : List Item} (h : fA P n k0.isSome c d = true) (hk : j7 P n k0 ks k) : j7 P n k0 (.code c :: ks) (.code d :: k)
 | blk {id : Nat} {ks : List KI} {k : List Item} (hk : j7 P n k0 ks k) : j7 P n k0 (.blk id :: ks) (.inBlock id :: k)
 | sc {c : Code} {ks : List KI} {k : List Item} (hk : j7 P n k0 ks k) : j7 P n k0 (.sc :: ks) (.inScope c :: k)
 | lp {c : RCode} {d : Code} {ks : List KI} {k : List Item} (h : fA P n k0.isSome c d = true) (hk : j7 P n k0 ks k) : j7 P n k0 (.lp c :: ks) (.inLoop d :: k)
theorem j7.exit {k0 : Option (List Item)} {ks : List KI} {k : List Item} (h : j7 P n k0 ks k) {id : Nat} {ks' : List KI} (he : gx id ks = some ks') : ∃ k', exitTo id k = some k' ∧ j7 P n k0 ks' k' := by
 induction h with
 | nil => cases he
 | fin => cases he
 | code _ _ ih => exact ih he
 | lp _ _ ih => exact ih he
 | sc _ ih => exact ih he
 | @blk id' ks k hk ih =>
   simp only [gx] at he
   simp only [exitTo]
   by_cases hid : id' = id
   ·subst hid
    rw [if_pos rfl] at he
    cases he
    exact ⟨k, by simp, hk⟩
   ·rw [if_neg hid] at he
    obtain ⟨k', h1, h2⟩ := ih he
    exact ⟨k', by simp [hid, h1], h2⟩
theorem j7.B0 {kb : List Item} {ks : List KI} {k : List Item} {k0 : Option (List Item)} (h : j7 P n k0 ks k) (h0 : k0 = some kb) {id : Nat} (he : gx id ks = none) : exitTo id k = exitTo id kb := by
 induction h with
 | nil h => rw [h] at h0; cases h0
 | fin k h => rw [h] at h0; cases h0; rfl
 | code _ _ ih => exact ih he
 | lp _ _ ih => exact ih he
 | sc _ ih => exact ih he
 | @blk id' ks k hk ih =>
   simp only [gx] at he
   simp only [exitTo]
   by_cases hid : id' = id
   ·subst hid
    rw [if_pos rfl] at he
    cases he
   ·rw [if_neg hid] at he
    simpa [hid] using ih he
inductive jd (P : Program) (n : Nat) : List KI → List Item → Prop
 | nil : jd P n [] []
 | code {c : RCode} {d : Code} {ks : List KI} {k : List Item} (h : gJ P n c d = true) (hk : jd P n ks k) : jd P n (.code c :: ks) (.code d :: k)
 | blk {id : Nat} {ks : List KI} {k : List Item} (hk : jd P n ks k) : jd P n (.blk id :: ks) (.inBlock id :: k)
 | sc {c : Code} {ks : List KI} {k : List Item} (hk : jd P n ks k) : jd P n (.sc :: ks) (.inScope c :: k)
 | lp {c : RCode} {d : Code} {ks : List KI} {k : List Item} (h : gJ P n c d = true) (hk : jd P n ks k) : jd P n (.lp c :: ks) (.inLoop d :: k)
theorem jd.exit {ks : List KI} {k : List Item} (h : jd P n ks k) {id : Nat} {ks' : List KI} (he : gx id ks = some ks') : ∃ k', exitTo id k = some k' ∧ jd P n ks' k' := by
 induction h with
 | nil => cases he
 | code _ _ ih => exact ih he
 | lp _ _ ih => exact ih he
 | sc _ ih => exact ih he
 | @blk id' ks k hk ih =>
   simp only [gx] at he
   simp only [exitTo]
   by_cases hid : id' = id
   ·subst hid
    rw [if_pos rfl] at he
    cases he
    exact ⟨k, by simp, hk⟩
   ·rw [if_neg hid] at he
    obtain ⟨k', h1, h2⟩ := ih he
    exact ⟨k', by simp [hid, h1], h2⟩
def Ct (P : Program) (n : Nat) (k0 : Option (List Item)) (c : RCode) (ks : List KI) (todo : List Item) : Prop :=
 (∃ d k, todo = .code d :: k ∧ fA P n k0.isSome c d = true ∧ j7 P n k0 ks k) ∨ (c = .skip ∧ j7 P n k0 ks todo)
def Bn (P : Program) (n : Nat) (c : RCode) (ks : List KI) (todo : List Item) : Prop :=
 (∃ d k, todo = .code d :: k ∧ gJ P n c d = true ∧ jd P n ks k) ∨ (c = .skip ∧ jd P n ks todo)
variable {w : World} {G : Nat → Prop} {ρ : List Loc} {σ : ar} {e : Env} {a : Act}
theorem zP {agg : Bool} {sz m : Nat} {t : TypeId} {c : CV} (hs : St w G ρ σ) (he : cX w G ρ e a.tmps) (ha : ns P t = some agg) (hz : szP P t = some sz) (h : lH e σ (.cell m agg sz) = some c) :
 ∃ v, (do loadVar t (← asAddr (a.tmps.getD m undef))).run P w = .ok v w ∧ bT w G ρ c v := by
 simp only [lH] at h
 split at h
 ·rename_i b i off hv
  have h1 := he m
  rw [hv] at h1
  obtain ⟨ad, hue, hp⟩ := kU h1
  split at h
  ·rename_i s cs hb
   obtain ⟨l, hl, hok⟩ := hs.get hb
   cases l with
   | lv blk o' tot s' =>
     obtain ⟨rfl, _, arr, el, hh, rfl, hfit, hk⟩ := hok
     simp only [ie, hl] at hp
     subst hp
     have := pR (P := P) (w := w) (G := G) (ρ := ρ) ha hz hh (B := o') hfit hk h
     rw [← dh] at this
     obtain ⟨v, h2, h3⟩ := this
     refine ⟨v, ?_, h3⟩
     rw [hue]
     simpa [asAddr] using h2
   | det => exact hok.elim
   | dead => exact hok.elim
   | hole => exact hok.elim
  ·cases h
 ·cases h
theorem mi (hs : St w G ρ σ) (he : cX w G ρ e a.tmps) :
 ∀ {rs : List dH} {vs : List ResultVar} {cs : List CV}, ti P rs vs = true → kj e σ rs = some cs →
  ∃ us : List Value, (∀ f : ResultVar → Sem Value, (∀ u, f (.tmp u) = pure (a.tmps.getD u undef)) → (∀ x t, f (.cell x t) = (do loadVar t (← asAddr (a.tmps.getD x undef)))) → (vs.mapM f).run P w = .ok us w) ∧
   cs.length = us.length ∧ ∀ (k : Nat) c v, cs[k]? = some c → us[k]? = some v → bT w G ρ c v
 | [], [], cs, _, h => by
   simp only [kj] at h
   cases h
   exact ⟨[], by simp, rfl, by simp⟩
 | .t m :: rs, .tmp m' :: vs, cs, hc, h => by
   simp only [ti, aA, beq_iff_eq] at hc
   obtain ⟨rfl, hc⟩ := hc
   simp only [kj, lH, au] at h
   obtain ⟨ds, hds, rfl⟩ := h
   obtain ⟨us, h1, h2, h3⟩ := mi hs he hc hds
   refine ⟨a.tmps.getD m undef :: us, fun f hft hfc => by simp [List.mapM_cons, hft, h1 f hft hfc], by simp [h2], ?_⟩
   intro k c v hk hv
   cases k with
   | zero => simp at hk hv; subst hk; subst hv; have := he m; rwa [eJ] at this
   | succ k => exact h3 k c v (by simpa using hk) (by simpa using hv)
 | .cell m agg sz :: rs, .cell m' t :: vs, cs, hc, h => by
   simp only [ti, aA, beq_iff_eq] at hc
   obtain ⟨⟨⟨rfl, ha⟩, hz⟩, hc⟩ := hc
   simp only [kj] at h
   split at h
   ·rename_i c0 hc0
    simp only [au] at h
    obtain ⟨ds, hds, rfl⟩ := h
    obtain ⟨us, h1, h2, h3⟩ := mi hs he hc hds
    obtain ⟨v0, q1, q2⟩ := zP hs he ha hz hc0
    refine ⟨v0 :: us, fun f hft hfc => ?_, by simp [h2], ?_⟩
    ·rw [List.mapM_cons, hfc, Sem.run_bind, q1]
     simp [h1 f hft hfc]
    ·intro k c v hk hv
     cases k with
     | zero => simp at hk hv; subst hk; subst hv; exact q2
     | succ k => exact h3 k c v (by simpa using hk) (by simpa using hv)
   ·cases h
theorem nz {fn : Func} {rs : List dH} {c : CV} (hs : St w G ρ σ) (he : cX w G ρ e a.tmps) (hc : ti P rs fn.results.toList = true) (h : cW rs e σ = some c) :
 ∃ v, (results fn a.tmps).run P w = .ok v w ∧ bT w G ρ c v := by
 have hr : fn.results = fn.results.toList.toArray := by simp
 unfold results
 rw [hr, List.mapM_toArray]
 simp only [Sem.run_bind, Sem.run_map]
 unfold cW at h
 split at h
 ·rename_i c' hcs
  cases h
  obtain ⟨us, h1, h2, h3⟩ := mi hs he hc hcs
  rw [h1 _ (fun _ => rfl) (fun _ _ => rfl)]
  match us, h2 with
  | [u], _ => exact ⟨u, by simp, h3 0 _ u rfl rfl⟩
 ·rename_i cs hne hcs
  cases h
  obtain ⟨us, h1, h2, h3⟩ := mi hs he hc hcs
  rw [h1 _ (fun _ => rfl) (fun _ _ => rfl)]
  have hl : us.length ≠ 1 := by
   intro hl
   rw [← h2] at hl
   obtain ⟨x, hx⟩ := List.length_eq_one_iff.1 hl
   exact hne x hx
  exact ⟨.tuple us.toArray, by simp [hl], .tup cs us h2 h3⟩
 ·cases h
theorem tL : ∀ (l : List CV) (k n : Nat), gt (aJ k l) n = if k ≤ n then l.getD (n - k) .any else .any
 | [], k, n => by simp [aJ, gt]
 | v :: l, k, n => by
   simp only [aJ, gt]
   by_cases h : k = n
   ·subst h; simp
   ·rw [if_neg h, tL l (k + 1) n]
    by_cases h1 : k ≤ n
    ·rw [if_pos (by omega), if_pos h1, show n - k = (n - (k + 1)) + 1 by omega]; simp
    ·rw [if_neg (by omega), if_neg h1]
theorem nw {b : Frame} {a : Act} {k : List Item} {cs : List Frame} {w : World} {c : Code} : step P (lone (b.atR a (.code (.scope c) :: k)) cs w) = .next (lone (b.atR a (.code c :: .inScope c :: k)) cs w) :=
 step_lone_go (by simp [stepG, stepG.exec, Frame.atR])
theorem iA {b : Frame} {a : Act} {k : List Item} {cs : List Frame} {w : World} {c : Code} : step P (lone (b.atR a (.inScope c :: k)) cs w) = .next (lone (b.atR a k) cs w) :=
 step_lone_go (by simp [stepG, stepG.exec, Frame.atR])
theorem vz {rd : Option Nat} {k : Nat} : (Fr rd).room k := fun _ h => by cases h
theorem rk {f : FuncId} {args : Array Value} (hok : nJ P f = true) : (callFunc f args).run P w = .ok (.enter f args) w := by
 unfold nJ at hok
 split at hok
 ·rename_i fn hfn
  simp only [aA, bne_iff_ne, ne_eq] at hok
  have hb : fn.body.isNone = false := by
   cases hbb : fn.body with
   | none => rw [hbb] at hok; simp at hok
   | some _ => rfl
  have hb2 : ¬ fn.body = none := by intro h; rw [h] at hb; cases hb
  have hname : (fn.name == "runtime.NumGoroutine") = false := by simpa using hok.1
  have hname2 : ¬ fn.name = "runtime.NumGoroutine" := hok.1
  simp [callFunc, hfn, hname, hb, hb2, hname2]
 ·cases hok
theorem xr {call : dx} (hc : eF P call) {rd : Option Nat} {mm : Nat} : ∀ {x : RCode} {d : Code} {e e' : Env} {σ σ' : ar} {w : World} {G : Nat → Prop} {ρ : List Loc} {a : Act} {K : Act → World → Prop}, iU P n x d = true → gv call x e σ = some (e', σ') →
 St w G ρ σ → cX w G ρ e a.tmps → n ≤ a.tmps.size → j3 (fun _ => False) w G ρ a e' σ' K → d.wpIn (Fr rd) mm P (Exit.then K fun _ _ _ => False) a w
 | .skip, d, e, e', σ, σ', w, G, ρ, a, K, hch, h, hs, he, hn, hK => by
   cases d <;> simp only [iU, aR] at hch
   simp only [gv] at h
   cases h
   exact wpIn_skip (hK a w G ρ hs Ext.refl he rfl rfl fun _ _ => rfl)
 | .reg L none, d, e, e', σ, σ', w, G, ρ, a, K, hch, h, hs, he, hn, hK => by
   cases d <;> try (simp only [iU, aR] at hch; done)
   rename_i id ops draw
   cases draw <;> simp only [iU, aR] at hch
   simp only [gv] at h
   exact wpIn_region (oj hc hch (fun _ _ _ h => h.elim) hs he hn h hK)
 | .seq x y, d, e, e', σ, σ', w, G, ρ, a, K, hch, h, hs, he, hn, hK => by
   cases d <;> simp only [iU, aR, aA] at hch
   rename_i u v
   simp only [gv] at h
   split at h
   ·rename_i e1 σ1 h1
    refine wpIn_seq ?_
    refine wpIn_mono (xr (K := fun a w => v.wpIn (Fr rd) mm P (Exit.then K fun _ _ _ => False) a w) hc hch.1 h1 hs he hn ?_) ?_
    ·intro a1 w1 G1 ρ1 s1 x1 r1 d1 z1 t1
     exact xr hc hch.2 h s1 r1 (by omega) (hK.trans x1 d1 z1 fun _ h => h.elim)
    ·intro ex a w h
     cases ex <;> first | exact h | exact h.elim
   ·cases h
 | .reg L (some _), d, _, _, _, _, _, _, _, _, _, hch, _, _, _, _, _ => by cases d <;> simp [iU] at hch
 | .cond _ _ _, d, _, _, _, _, _, _, _, _, _, hch, _, _, _, _, _ => by cases d <;> simp [iU] at hch
 | .block _ _, d, _, _, _, _, _, _, _, _, _, hch, _, _, _, _, _ => by cases d <;> simp [iU] at hch
 | .scope _, d, _, _, _, _, _, _, _, _, _, hch, _, _, _, _, _ => by cases d <;> simp [iU] at hch
 | .loop _, d, _, _, _, _, _, _, _, _, _, hch, _, _, _, _, _ => by cases d <;> simp [iU] at hch
 | .exit _, d, _, _, _, _, _, _, _, _, _, hch, _, _, _, _, _ => by cases d <;> simp [iU] at hch
 | .ret, d, _, _, _, _, _, _, _, _, _, hch, _, _, _, _, _ => by cases d <;> simp [iU] at hch
 | .fg _ _, d, _, _, _, _, _, _, _, _, _, hch, _, _, _, _, _ => by cases d <;> simp [iU] at hch
 | .rng _ _ _ _ _, d, _, _, _, _, _, _, _, _, _, hch, _, _, _, _, _ => by cases d <;> simp [iU] at hch
 | .iter _, d, _, _, _, _, _, _, _, _, _, hch, _, _, _, _, _ => by cases d <;> simp [iU] at hch
 | .yld _ _ _ _ _, d, _, _, _, _, _, _, _, _, _, hch, _, _, _, _, _ => by cases d <;> simp [iU] at hch
 | .bret, d, _, _, _, _, _, _, _, _, _, hch, _, _, _, _, _ => by cases d <;> simp [iU] at hch
 | .bexit _, d, _, _, _, _, _, _, _, _, _, hch, _, _, _, _, _ => by cases d <;> simp [iU] at hch
 | .jV _ _, d, _, _, _, _, _, _, _, _, _, hch, _, _, _, _, _ => by cases d <;> simp [iU] at hch
def YOk (P : Program) (Y : List CV → ar → Option (CV × ar)) (l : Nat) (R : Option CV → Loop) (W1 : World) (G1 : Nat → Prop) (ρ1 : List Loc) : Prop :=
 ∀ args σ out σ', Y args σ = some (out, σ') → ∀ (w : World) (G : Nat → Prop) (ρ : List Loc) (vs : List Value), St w G ρ σ → f0 l W1 G1 ρ1 w G ρ → ¬ G l → w.heap[l]? = some (.loop (R none)) → args.length = vs.length → (∀ (k : Nat) c v, args[k]? = some c → vs[k]? = some v → bT w G ρ c v) →
  ∃ fn tmps assign body, (Instr.yield l vs.toArray).run P w = .ok (.round l fn tmps assign body) w ∧
   ∀ mm, RoundIn (Fr none) mm P l fn tmps assign body w fun en w' => ∃ G' ρ', en = .returned (.bool (isT out)) ∧ St w' G' ρ' σ' ∧ f0 l w G ρ w' G' ρ' ∧ ¬ G' l ∧ w'.heap[l]? = some (.loop (R (if isT out = true then none else some out)))
theorem dS {l : Nat} {lp : Loop} (hs : St w G ρ σ) (hl : w.heap[l]? = some (.loop lp)) : ¬ Live ρ l := hs.qO hl (by intro _ _ _ h; cases h)
theorem vw {ts : Array Value} {t : Nat} {v : Value} (h : ts[t]? = some v) : ts.getD t undef = v := by
 rw [eJ, h]; rfl
theorem CL {call : dx} {Y : List CV → ar → Option (CV × ar)} {l : Nat} {R : Option CV → Loop} {W1 : World} {G1 : Nat → Prop} {ρ1 : List Loc} {ops : Array Oper} {y d : Nat} {pre post : List LOp} {args : List Opd} {e1 e3 : Env} {σ1 σ2 σ3 : ar} {out : CV} {base1 base2 mm : Nat} {Q : Exit → Act → World → Prop}
 (hc : eF P call) (hY : YOk P Y l R W1 G1 ρ1) (hok : okY P ops n y pre d args post = true) (hs : St w G ρ σ) (he : cX w G ρ e a.tmps) (hn : n ≤ a.tmps.size) (h0 : a.tmps[0]? = some (.func (.yield l) #[] #[])) (hx : f0 l W1 G1 ρ1 w G ρ) (hg : ¬ G l) (hl : w.heap[l]? = some (.loop (R none)))
 (r1 : du call base1 pre (st y .any e) σ = some (e1, σ1)) (r2 : Y (args.map (vl e1)) σ1 = some (out, σ2)) (r3 : du call base2 post (st d (.p (.bool (isT out))) e1) σ2 = some (e3, σ3))
 (hK : ∀ a' w' G' ρ', St w' G' ρ' σ3 → f0 l w G ρ w' G' ρ' → cX w' G' ρ' e3 a'.tmps → a'.defers = a.defers → a'.tmps.size = a.tmps.size → a'.tmps[0]? = a.tmps[0]? → ¬ G' l → w'.heap[l]? = some (.loop (R (if isT out = true then none else some out))) → Q .normal a' w') :
 wpOpsIn (Fr none) mm P ops Q (ca ops.size) a w := by
 simp only [okY, aA, beq_iff_eq, decide_eq_true_eq, bne_iff_ne, ne_eq] at hok
 obtain ⟨⟨⟨⟨⟨⟨⟨⟨⟨⟨hsz, hy⟩, hd⟩, hy0⟩, hd0⟩, hop0⟩, hop1⟩, hpre⟩, hpost⟩, hpd⟩, hpo⟩ := hok
 split at hop0
 ·rename_i o ho
  simp only [aA, beq_iff_eq] at hop0
  obtain ⟨⟨hm0, hdst⟩, hgn⟩ := hop0
  have hmv : o.op = .move (.tmp 0) := by
   split at hm0
   ·rename_i h; exact h
   ·cases hm0
  have hgd : o.guard = none := by simpa using hgn
  split at hop1
  ·rename_i o1 ho1
   simp only [aA, beq_iff_eq] at hop1
   obtain ⟨⟨hm1, hdst1⟩, hgn1⟩ := hop1
   have hgd1 : o1.guard = none := by simpa using hgn1
   obtain ⟨c, hcop, hcal, hcargs⟩ : ∃ c, o1.op = .call c ∧ c.callee = .value (.tmp y) ∧ gI c.args.toList args = true := by
    split at hm1
    ·rename_i c hc1
     simp only [aA] at hm1
     refine ⟨c, hc1, ?_, hm1.2⟩
     have := hm1.1
     split at this
     ·rename_i t ht
      rw [ht]
      rw [beq_iff_eq] at this
      rw [this]
     ·cases this
    ·cases hm1
   have hge : a.eval (.tmp 0) = .func (.yield l) #[] #[] := vw h0
   have hrun0 : (execOp a.eval o).run P w = .ok (.value (.func (.yield l) #[] #[])) w := by
    simp [execOp, hmv, hge]
   rw [List.range_eq_range', hsz, List.range'_succ, wpOpsIn_cons]
   unfold wpOpIn
   simp only [ho]
   rw [if_pos (by simp [Region.wanted, hgd])]
   unfold Oper.wpIn
   refine ⟨fun _ _ => trivial, ?_⟩
   rw [show (Fr none).round = none from rfl, Oper.semAt_none, hrun0, Oper.uponIn_value, hdst]
   have hysz : y < a.tmps.size := by omega
   have hys : (a.put (some y) (.func (.yield l) #[] #[])).tmps[y]? = some (.func (.yield l) #[] #[]) := by simp [Act.put, hysz]
   have hyz : (a.put (some y) (.func (.yield l) #[] #[])).tmps[0]? = a.tmps[0]? := qK (by simp; omega)
   refine ma (rd := none) (D := fun t => t = 0 ∨ t = y) hc pre 1 w G ρ σ (st y .any e) _ (by omega) (fun i o' l' ho' hl' => ?_) (fun l' hl' t ht => ?_) hs (he.sto (some y) (fun t ht => by cases ht; exact hysz) (.any _)) (by rw [i6]; exact hn) r1 ?_
   ·have hi := ba hl'
    refine (kX hpre).2 i o' l' ?_ hl'
    rw [aN, if_pos hi, bF]
    simpa using ho'
   ·have := aU.1 hpd l' hl'
    simp only [aA, bne_iff_ne, ne_eq] at this
    rcases ht with rfl | rfl
    ·exact this.1
    ·exact this.2
   ·intro a2 w2 G2 ρ2 s2 x2 e2 d2 z2 t2
    have hnl := dS hs hl
    have hlt := c6 hl
    have hl2 : w2.heap[l]? = some (.loop (R none)) := (x2.below l hlt hnl).trans hl
    have hg2 : ¬ G2 l := (x2.toL (l := 0)).noG hlt hnl hg
    have hy2 : a2.tmps[y]? = some (.func (.yield l) #[] #[]) := (t2 y (.inr rfl)).trans hys
    have he2 : a2.eval (.tmp y) = .func (.yield l) #[] #[] := vw hy2
    obtain ⟨b1, b2⟩ := iw hcargs e2
    obtain ⟨fn, tmps, assign, body, hrun, hround⟩ := hY _ _ _ _ r2 w2 G2 ρ2 (c.args.toList.map a2.eval) s2 (hx.trans x2.toL) hg2 hl2 (by simpa using b1) b2
    have hrun1 : (execOp a2.eval o1).run P w2 = .ok (.round l fn tmps assign body) w2 := by
     rw [← hrun]
     have hargs : c.args.map a2.eval = (c.args.toList.map a2.eval).toArray := by apply Array.ext'; simp
     simp [execOp, hcop, resolve, hcal, he2, Deferred.ofValue, invoke, hargs]
    rw [show 1 + post.length = post.length + 1 by omega, List.range'_succ, wpOpsIn_cons]
    unfold wpOpIn
    simp only [ho1]
    rw [if_pos (by simp [Region.wanted, hgd1])]
    unfold Oper.wpIn
    refine ⟨fun _ _ => trivial, ?_⟩
    rw [show (Fr none).round = none from rfl, Oper.semAt_none, hrun1, Oper.uponIn_round]
    refine ⟨(fun h => by cases h), (hround _).mono ?_⟩
    rintro en w3 ⟨G3, ρ3, rfl, s3, x3, g3, l3⟩
    simp only [hdst1]
    have hdsz : d < a2.tmps.size := by rw [z2, i6]; omega
    have e3' := (e2.uz x3 s2 hg2).sto (a := a2) (some d) (fun t ht => by cases ht; exact hdsz) (bT.p (.bool (isT out)) _ (.bool _))
    have q := ma (rd := none) (mm := mm) (Q := Q) (m := 0) (D := fun t => t = 0) hc post (1 + pre.length + 1) w3 G3 ρ3 σ2 _ _ (by omega) (fun i o' l' ho' hl' => (kX hpost).2 i o' l' (by rw [bF]; simpa using ho') hl') (fun l' hl' t ht => by
     have := aU.1 hpo l' hl'
     subst ht
     simpa using this) s3 e3' (by rw [i6, z2, i6]; exact hn) r3 (by
     intro a4 w4 G4 ρ4 s4 x4 e4 d4 z4 t4
     have hnl3 := dS s3 l3
     have hlt3 := c6 l3
     refine hK a4 w4 G4 ρ4 s4 ((x2.toL.trans x3).trans x4.toL) e4 ?_ ?_ ?_ ((x4.toL (l := 0)).noG hlt3 hnl3 g3) ((x4.below l hlt3 hnl3).trans l3)
     ·rw [d4, put_defers, d2, put_defers]
     ·rw [z4, i6, z2, i6]
     ·rw [t4 0 rfl, qK (by simp; omega), t2 0 (.inl rfl), hyz])
    exact q
  ·cases hop1
 ·cases hop0
theorem CN {call : dx} {Y : List CV → ar → Option (CV × ar)} {l : Nat} {R : Option CV → Loop} {W1 : World} {G1 : Nat → Prop} {ρ1 : List Loc} (hc : eF P call) (hY : YOk P Y l R W1 G1 ρ1) :
 ∀ (m : Nat) (pd : Option CV) (c : RCode) (ks : List KI) (e : Env) (σ : ar) (r : Option CV × ar), b8 call Y m pd c ks e σ = some r →
 ∀ (todo : List Item) (w : World) (G : Nat → Prop) (ρ : List Loc) (a : Act) (b : Frame) (cs : List Frame), b.roundOf = none → Bn P n c ks todo → St w G ρ σ → cX w G ρ e a.tmps → n ≤ a.tmps.size → a.tmps[0]? = some (.func (.yield l) #[] #[]) →
  f0 l W1 G1 ρ1 w G ρ → ¬ G l → w.heap[l]? = some (.loop (R pd)) →
  ∃ a' k' w' G' ρ', Steps P (lone (b.atR a todo) cs w) (lone { b.atR a' k' with mode := .returning } cs w') ∧ a'.defers = a.defers ∧ St w' G' ρ' r.2 ∧ f0 l W1 G1 ρ1 w' G' ρ' ∧ ¬ G' l ∧ w'.heap[l]? = some (.loop (R r.1)) := by
 intro m
 induction m with
 | zero => intro pd c ks e σ r h; simp [b8] at h
 | succ m ih =>
   intro pd c ks e σ r h todo w G ρ a b cs hro htodo hs he hn h0 hx hg hl
   have one : ∀ {c' : RCode} {ks' : List KI} {e' : Env} {todo' : List Item}, b8 call Y m pd c' ks' e' σ = some r → Bn P n c' ks' todo' → cX w G ρ e' a.tmps → Steps P (lone (b.atR a todo) cs w) (lone (b.atR a todo') cs w) →
    ∃ a' k' w' G' ρ', Steps P (lone (b.atR a todo) cs w) (lone { b.atR a' k' with mode := .returning } cs w') ∧ a'.defers = a.defers ∧ St w' G' ρ' r.2 ∧ f0 l W1 G1 ρ1 w' G' ρ' ∧ ¬ G' l ∧ w'.heap[l]? = some (.loop (R r.1)) := by
    intro c' ks' e' todo' h1 h2 h3 h4
    obtain ⟨a', k', w', G', ρ', q1, q2⟩ := ih pd c' ks' e' σ r h1 todo' w G ρ a b cs hro h2 hs h3 hn h0 hx hg hl
    exact ⟨a', k', w', G', ρ', h4.trans q1, q2⟩
   have leave : ∀ {k : List Item}, r = (pd, σ) → Steps P (lone (b.atR a todo) cs w) (lone { b.atR a k with mode := .returning } cs w) →
    ∃ a' k' w' G' ρ', Steps P (lone (b.atR a todo) cs w) (lone { b.atR a' k' with mode := .returning } cs w') ∧ a'.defers = a.defers ∧ St w' G' ρ' r.2 ∧ f0 l W1 G1 ρ1 w' G' ρ' ∧ ¬ G' l ∧ w'.heap[l]? = some (.loop (R r.1)) := by
    rintro k rfl hst
    exact ⟨a, k, w, G, ρ, hst, rfl, hs, hx, hg, hl⟩
   have region : ∀ {pd' : Option CV} {e1 : Env} {σ1 : ar} {code : Code} {k : List Item}, todo = .code code :: k → jd P n ks k → b8 call Y m pd' .skip ks e1 σ1 = some r →
    (∀ K : Exit → Act → World → Prop, (∀ a' w' G' ρ', St w' G' ρ' σ1 → f0 l w G ρ w' G' ρ' → cX w' G' ρ' e1 a'.tmps → a'.defers = a.defers → a'.tmps.size = a.tmps.size → a'.tmps[0]? = a.tmps[0]? → ¬ G' l → w'.heap[l]? = some (.loop (R pd')) → K .normal a' w') → code.wpIn (Fr none) 0 P K a w) →
    ∃ a' k' w' G' ρ', Steps P (lone (b.atR a todo) cs w) (lone { b.atR a' k' with mode := .returning } cs w') ∧ a'.defers = a.defers ∧ St w' G' ρ' r.2 ∧ f0 l W1 G1 ρ1 w' G' ρ' ∧ ¬ G' l ∧ w'.heap[l]? = some (.loop (R r.1)) := by
    rintro pd' e1 σ1 code k rfl hk h1 hwp
    have := hwp (fun ex a' w' => ex = .normal ∧ ∃ G' ρ', St w' G' ρ' σ1 ∧ f0 l w G ρ w' G' ρ' ∧ cX w' G' ρ' e1 a'.tmps ∧ a'.defers = a.defers ∧ a'.tmps.size = a.tmps.size ∧ a'.tmps[0]? = a.tmps[0]? ∧ ¬ G' l ∧ w'.heap[l]? = some (.loop (R pd'))) (by
     intro a' w' G' ρ' s1 x1 r1 d1 z1 t1 g1 l1
     exact ⟨rfl, G', ρ', s1, x1, r1, d1, z1, t1, g1, l1⟩) b k cs hro trivial vz
    obtain ⟨ex, a', w', ⟨rfl, G', ρ', s1, x1, r1, d1, z1, t1, g1, l1⟩, harr⟩ := this
    obtain ⟨a2, k2, w2, G2, ρ2, q1, q2, q3⟩ := ih pd' .skip ks e1 σ1 r h1 k w' G' ρ' a' b cs hro (.inr ⟨rfl, hk⟩) s1 r1 (by omega) (t1.trans h0) (hx.trans x1) g1 l1
    exact ⟨a2, k2, w2, G2, ρ2, Steps.trans (jD.1 harr) q1, q2.trans d1, q3⟩
   rcases htodo with ⟨d, k, rfl, hch, hk⟩ | ⟨rfl, hk⟩
   ·cases c with
    | fg ct c =>
      simp only [b8] at h
      simp only [gJ] at hch
      exact one h (.inl ⟨d, k, rfl, hch, hk⟩) (he.fgt ct) (.refl _ _)
    | skip =>
      have hs1 : ∀ k, step P (lone (b.atR a (.code d :: k)) cs w) = .next (lone (b.atR a k) cs w) := by
       cases d <;> simp only [gJ, aR] at hch
       ·exact fun k => stepR_skip
       ·exact fun k => stepR_label
      simp only [b8] at h
      cases hk with
      | nil =>
        simp only [Option.some.injEq] at h
        exact leave h.symm (.head (hs1 _) (.one (stepR_end hro)))
      | code h1 hk => exact one h (.inl ⟨_, _, rfl, h1, hk⟩) he (.one (hs1 _))
      | blk hk => exact one h (.inr ⟨rfl, hk⟩) he (.head (hs1 _) (.one stepR_inBlock))
      | sc hk => exact one h (.inr ⟨rfl, hk⟩) he (.head (hs1 _) (.one iA))
      | lp h1 hk => exact one h (.inl ⟨_, _, rfl, h1, .lp h1 hk⟩) he (.head (hs1 _) (.one stepR_inLoop))
    | reg L dr =>
      cases dr with
      | none =>
        cases d <;> try (simp only [gJ, aR] at hch; done)
        rename_i id ops draw
        cases draw <;> simp only [gJ, aR, aA] at hch
        simp only [b8] at h
        split at h
        ·rename_i e1 σ1 hro1
         refine region rfl hk h fun K hK => ?_
         refine wpIn_region (oj (D := fun t => t = 0) hc hch.1 (fun l' hl' t ht => ?_) hs he hn hro1 ?_)
         ·have := aU.1 hch.2 l' hl'
          subst ht
          simpa using this
         ·intro a' w' G' ρ' s1 x1 r1 d1 z1 t1
          have hnl := dS hs hl
          have hlt := c6 hl
          exact hK a' w' G' ρ' s1 x1.toL r1 d1 z1 (t1 0 rfl) ((x1.toL (l := 0)).noG hlt hnl hg) ((x1.below l hlt hnl).trans hl)
        ·cases h
      | some hxp => cases d <;> simp [gJ] at hch
    | yld y pre d' args post =>
      cases d <;> try (simp only [gJ, aR] at hch; done)
      rename_i id ops draw
      cases draw <;> simp only [gJ, aR] at hch
      simp only [b8] at h
      split at h
      ·cases h
      ·split at h
       ·cases h
       ·rename_i e1 σ1 hr1
        split at h
        ·cases h
        ·rename_i out σ2 hr2
         split at h
         ·cases h
         ·rename_i e3 σ3 hr3
          refine region rfl hk h fun K hK => ?_
          exact wpIn_region (CL hc hY hch hs he hn h0 hx hg hl hr1 hr2 hr3 hK)
    | seq x y =>
      cases d <;> simp only [gJ, aR, aA] at hch
      simp only [b8] at h
      exact one h (.inl ⟨_, _, rfl, hch.1, .code hch.2 hk⟩) he (.one stepR_seq)
    | cond q x y =>
      cases d <;> simp only [gJ, aR, aA] at hch
      obtain ⟨⟨h1, h2⟩, h3⟩ := hch
      simp only [b8] at h
      split at h
      ·rename_i t ht
       have hq := bk h1 he
       rw [ht] at hq
       have hb := iJ hq
       cases t with
       | true => exact one h (.inl ⟨_, _, rfl, h2, hk⟩) he (.one (stepR_cond hb))
       | false => exact one (by simpa using h) (.inl ⟨_, _, rfl, h3, hk⟩) he (.one (stepR_cond hb))
      ·cases h
    | block id x =>
      cases d <;> simp only [gJ, aR, aA, beq_iff_eq] at hch
      obtain ⟨rfl, h1⟩ := hch
      simp only [b8] at h
      exact one h (.inl ⟨_, _, rfl, h1, .blk hk⟩) he (.one stepR_block)
    | scope x =>
      cases d <;> simp only [gJ, aR] at hch
      simp only [b8] at h
      exact one h (.inl ⟨_, _, rfl, hch, .sc hk⟩) he (.one nw)
    | loop x =>
      cases d <;> simp only [gJ, aR] at hch
      simp only [b8] at h
      exact one h (.inl ⟨_, _, rfl, hch, .lp hch hk⟩) he (.one stepR_loop)
    | exit id =>
      cases d <;> simp only [gJ, aR, beq_iff_eq] at hch
      subst hch
      simp only [b8] at h
      split at h
      ·rename_i ks' hks
       obtain ⟨k', h1, h2⟩ := hk.exit hks
       exact one h (.inr ⟨rfl, h2⟩) he (.one (stepR_exit h1))
      ·cases h
    | ret =>
      cases d <;> simp only [gJ, aR] at hch
      simp only [b8, Option.some.injEq] at h
      exact leave h.symm (.one (stepR_ret hro))
    | rng _ _ _ _ _ => cases d <;> simp [gJ] at hch
    | iter _ => cases d <;> simp [gJ] at hch
    | bret => cases d <;> simp [gJ] at hch
    | bexit _ => cases d <;> simp [gJ] at hch
    | jV _ _ => cases d <;> simp [gJ] at hch
   ·simp only [b8] at h
    cases hk with
    | nil =>
      simp only [Option.some.injEq] at h
      exact leave h.symm (.one (stepR_end hro))
    | code h1 hk => exact one h (.inl ⟨_, _, rfl, h1, hk⟩) he (.refl _ _)
    | blk hk => exact one h (.inr ⟨rfl, hk⟩) he (.one stepR_inBlock)
    | sc hk => exact one h (.inr ⟨rfl, hk⟩) he (.one iA)
    | lp h1 hk => exact one h (.inl ⟨_, _, rfl, h1, .lp h1 hk⟩) he (.one stepR_inLoop)
def pB (P : Program) (rs : List dH) (b : Frame) (cs : List Frame) (M : Machine) : Option (List Item) → CV × ar → Act → World → (Nat → Prop) → List Loc → Prop
 | none, r, a', w', G', ρ' => ∃ k' e', Steps P M (lone { b.atR a' k' with mode := .returning } cs w') ∧ cW rs e' r.2 = some r.1 ∧ cX w' G' ρ' e' a'.tmps
 | some k, r, a', w', _, _ => (r.1 = .p (.bool true) ∧ Steps P M (lone (b.atR a' k) cs w')) ∨ (r.1 = .p (.bool false) ∧ ∃ k₁, Steps P M (lone (b.atR a' (.code .ret :: k₁)) cs w')) ∨
  (∃ id : Nat, r.1 = .p (.int .i64 id) ∧ ∃ k₁, exitTo id k₁ = exitTo id k ∧ Steps P M (lone (b.atR a' (.code (.exit id) :: k₁)) cs w'))
theorem pB.pre {rs : List dH} {b : Frame} {cs : List Frame} {M M' : Machine} {k0 : Option (List Item)} {r : CV × ar} {a' : Act} {w' : World} {G' : Nat → Prop} {ρ' : List Loc} (h : pB P rs b cs M' k0 r a' w' G' ρ') (hs : Steps P M M') : pB P rs b cs M k0 r a' w' G' ρ' := by
 cases k0 with
 | none => obtain ⟨k', e', h1, h2⟩ := h; exact ⟨k', e', hs.trans h1, h2⟩
 | some k =>
   rcases h with ⟨h1, h2⟩ | ⟨h1, k₁, h2⟩ | ⟨id, h1, k₁, h2, h3⟩
   ·exact .inl ⟨h1, hs.trans h2⟩
   ·exact .inr (.inl ⟨h1, k₁, hs.trans h2⟩)
   ·exact .inr (.inr ⟨id, h1, k₁, h2, hs.trans h3⟩)
def Ay (P : Program) (rp : cg) (m : Nat) : Prop :=
 ∀ (rs : List dH) (c : RCode) (ks : List KI) (e : Env) (σ : ar) (r : CV × ar), runK rp m rs c ks e σ = some r →
  ∀ (n : Nat) (rd : Option Nat) (k0 : Option (List Item)) (todo : List Item) (w : World) (G : Nat → Prop) (ρ : List Loc) (a : Act) (b : Frame) (cs : List Frame) (lo : Nat), b.roundOf = rd → rd.isSome = k0.isSome → Ct P n k0 c ks todo →
   St w G ρ σ → cX w G ρ e a.tmps → n ≤ a.tmps.size → (∀ l0, rd = some l0 → ∃ lp, w.heap[l0]? = some (.loop lp)) → lo ≤ w.heap.size → Marks lo w G w.heap.size a.defers → (rd.isSome = true → a.defers = []) →
   ∃ a' w' G' ρ', St w' G' ρ' r.2 ∧ Ext w G ρ w' G' ρ' ∧ Marks lo w' G' w'.heap.size a'.defers ∧ pB P rs b cs (lone (b.atR a todo) cs w) k0 r a' w' G' ρ'
theorem pJ {args : List CV} {vs : List Value} {q : Nat} (hl : args.length = vs.length) (hk : ∀ (k : Nat) c v, args[k]? = some c → vs[k]? = some v → bT w G ρ c v) : cX w G ρ (aJ 0 args) (vs.toArray ++ ee q undef) := by
 intro k
 rw [tL]
 simp only [aD, if_true, Nat.sub_zero]
 rcases ax k args.length with h1 | h1
 ·have h2 : k < vs.length := by omega
  have h3 : k < (vs.toArray ++ ee q undef).size := by simp; omega
  have := hk k args[k] vs[k] (by simp) (by simp)
  rw [show args.getD k .any = args[k] by simp [h1]]
  rw [show (vs.toArray ++ ee q undef).getD k undef = vs[k] by
   simp only [eJ]
   rw [Array.getElem?_append_left (by simpa using h2)]
   simp [h2]]
  exact this
 ·rw [show args.getD k .any = .any by simp [h1]]
  exact .any _
theorem p8 {f : Nat} {rf : RFun} (h : j5 P f rf = true) : nJ P f = true ∧ ∃ fn code, P.funcs[f]? = some fn ∧ fn.body = some code ∧ ti P rf.res fn.results.toList = true ∧ fA P fn.ntmps false rf.code code = true := by
 simp only [j5, aA] at h
 obtain ⟨hok, hck⟩ := h
 refine ⟨hok, ?_⟩
 split at hck
 ·rename_i fn hfn
  simp only [aA] at hck
  obtain ⟨hr, hcc⟩ := hck
  split at hcc
  ·rename_i code hbody
   exact ⟨fn, code, hfn, hbody, hr, hcc⟩
  ·cases hcc
 ·cases hck
theorem pe {rp : cg} {m : Nat} (hrp : ∀ f rf, rp f = some rf → j5 P f rf = true) (hU : Ay P rp m) : eF P (fun f args σ => match rp f with | some rf => runK rp m rf.res rf.code [] (aJ 0 args) σ | none => none) := by
 intro f args σ r h w G ρ hs vs hl hk
 simp only [] at h
 split at h
 ·rename_i rf hrf
  obtain ⟨hok, fn, code, hfn, hbody, hr, hcc⟩ := p8 (hrp f rf hrf)
  refine ⟨hok, fun cs => ?_⟩
  let b : Frame := { (default : Frame) with fn := f, kind := .normal, roundOf := none }
  have henter : Frame.enter P f vs.toArray .normal = b.atR { tmps := vs.toArray ++ ee (fn.ntmps - vs.toArray.size) undef, defers := [] } [.code code] := by
   simp [Frame.enter, Frame.atR, hfn, hbody, b]
  obtain ⟨a', w', G', ρ', s1, x1, m1, k', e', st1, res1, rep1⟩ := hU rf.res rf.code [] (aJ 0 args) σ r h fn.ntmps none none [.code code] w G ρ { tmps := vs.toArray ++ ee (fn.ntmps - vs.toArray.size) undef, defers := [] } b cs w.heap.size rfl rfl
   (.inl ⟨code, [], rfl, hcc, .nil rfl⟩) hs (pJ hl hk) (by simp; omega) (fun _ h => by cases h) (av _) trivial (fun _ => rfl)
  obtain ⟨w2, q1, q2, q3, q4⟩ := unwind (P := P) (b := b) (a := a') (k := k') (cs := cs) m1
  have s2 : St w2 G' ρ' r.2 := s1.frame (fun k hk => q4 k (.inr (.inl hk))) (fun k hk => q4 k (.inr (.inr (by obtain ⟨arr, el, h⟩ := s1.oH hk; exact ⟨arr, el, _, h⟩)))) (by omega)
  have x2 : Ext w G ρ w2 G' ρ' := ⟨x1.wld.trans q2, x1.loc, by have := x1.heap; omega, x1.grow, x1.only, fun k hk hn => (q4 k (.inl hk)).trans (x1.below k hk hn), x1.lives⟩
  have rep2 : cX w2 G' ρ' e' a'.tmps := fun k => (rep1 k).mono (fun k hk => q4 k (.inr (.inl hk))) (fun _ h => h) (cx.refl _)
  obtain ⟨v, hv, rv⟩ := nz (a := a') s2 rep2 hr res1
  rw [← henter] at st1
  exact ⟨.returned v, w2, { b.atR { a' with defers := [] } k' with mode := .returning }, ⟨v, G', ρ', rfl, s2, x2, rv⟩, Steps.trans st1 q1, rfl, rfl, rfl, rfl, fn, hfn, hv⟩
 ·cases h
def oL : CV → Option Code
 | .p (.bool _) => some .ret
 | .p (.int _ z) => some (.exit z.toNat)
 | _ => none
def se (lp : Loop) : Option CV → Loop
 | none => lp
 | some out => { lp with state := .done, pending := oL out }
theorem r7 : ∀ {ps : List Nat} {args : List CV} {vs : List Value} {e : Env} {ts : Array Value}, args.length = ps.length → args.length = vs.length → (∀ p ∈ ps, p < ts.size) → cX w G ρ e ts → (∀ (k : Nat) c v, args[k]? = some c → vs[k]? = some v → bT w G ρ c v) →
 cX w G ρ (stL ps args e) ((ps.zip vs).foldl (fun t (p : Nat × Value) => t.setIfInBounds p.1 p.2) ts) ∧ ((ps.zip vs).foldl (fun t (p : Nat × Value) => t.setIfInBounds p.1 p.2) ts).size = ts.size
 | [], _, _, e, ts, _, _, _, he, _ => by simp only [stL, List.zip_nil_left, List.foldl_nil]; exact ⟨he, trivial⟩
 | p :: ps, [], _, _, _, h, _, _, _, _ => by simp at h
 | p :: ps, c :: args, [], _, _, _, h, _, _, _ => by simp at h
 | p :: ps, c :: args, v :: vs, e, ts, h1, h2, hp, he, hk => by
   simp only [stL, List.zip_cons_cons, List.foldl_cons]
   have e1 : cX w G ρ (st p c e) (ts.setIfInBounds p v) := by
    have := cX.sto (a := { tmps := ts, defers := [] }) he (some p) (fun t ht => by cases ht; exact hp p (dj ..)) (hk 0 c v rfl rfl)
    exact this
   obtain ⟨q1, q2⟩ := r7 (ps := ps) (args := args) (vs := vs) (by simpa using h1) (by simpa using h2) (fun q hq => by rw [Array.size_setIfInBounds]; exact hp q (dK _ hq)) e1 (fun k c v a b => hk (k + 1) c v (by simpa using a) (by simpa using b))
   exact ⟨q1, by rw [q2, Array.size_setIfInBounds]⟩
theorem xB {rp : cg} {m : Nat} (hcall : eF P (fun f args σ => match rp f with | some rf => runK rp m rf.res rf.code [] (aJ 0 args) σ | none => none)) (hU : Ay P rp m) {params : Array Tmp} {ps : List Nat} {asg body : RCode} {assign code : Code} {l fn dd : Nat} {W1 : World} {G : Nat → Prop} {ρ : List Loc} {σ0 : ar} {e : Env} {a : Act}
 (hps : params.toList = ps) (hpn : ∀ p ∈ ps, p < n) (hasg : iU P n asg assign = true) (hbody : fA P n true body code = true) (hs1 : St W1 G ρ σ0) (he1 : cX W1 G ρ e a.tmps) (hn : n ≤ a.tmps.size) (hg1 : ¬ G l) :
 YOk P (fun args σ => if args.length = ps.length then (match gv (fun f args σ => match rp f with | some rf => runK rp m rf.res rf.code [] (aJ 0 args) σ | none => none) asg (stL ps args e) σ with | some (e, σ) => runK rp m [] body [.fin] e σ | none => none) else none)
  l (se { state := .ready, pending := none, fn, tmps := a.tmps, params, assign, body := code, defers := dd }) W1 G ρ := by
 intro args σ out σ' hy w2 G2 ρ2 vs s2 x2 g2 l2 hlen hreps
 simp only [] at hy
 split at hy
 ·rename_i hlp
  split at hy
  ·rename_i e1 σ1 hA
   have hsize : vs.toArray.size = params.size := by
    rw [List.size_toArray, ← hlen, hlp, ← hps]; simp
   have rE2 : cX w2 G2 ρ2 e a.tmps := he1.uz x2 hs1 hg1
   obtain ⟨rE3, rZ3⟩ := r7 (ps := ps) hlp hlen (fun p hp => bP (hpn p hp) hn) rE2 hreps
   have hfold : (params.zip vs.toArray).foldl (fun tmps (x : Tmp × Value) => tmps.setIfInBounds x.1 x.2) a.tmps = (ps.zip vs).foldl (fun t (p : Nat × Value) => t.setIfInBounds p.1 p.2) a.tmps := by
    rw [← Array.foldl_toList, Array.toList_zip, hps]
   refine ⟨_, _, _, _, run_yield (P := P) (args := vs.toArray) l2 hsize, fun mm => roundIn_of_wpIn trivial ?_⟩
   show assign.wpIn (Fr (some l)) mm P _ { tmps := (params.zip vs.toArray).foldl (fun tmps (x : Tmp × Value) => tmps.setIfInBounds x.1 x.2) a.tmps, defers := [] } w2
   rw [hfold]
   refine xr hcall (rd := some l) (mm := mm) (a := { tmps := (ps.zip vs).foldl (fun t (p : Nat × Value) => t.setIfInBounds p.1 p.2) a.tmps, defers := [] }) hasg hA s2 rE3 (by simp only []; omega) ?_
   intro a3 w3 G3 ρ3 s3 x3 r3 d3 z3 t3
   simp only [] at z3
   have hnl2 := dS s2 l2
   have hlt2 := c6 l2
   have l3 := (x3.below l hlt2 hnl2).trans l2
   have g3 : ¬ G3 l := (x3.toL (l := 0)).noG hlt2 hnl2 g2
   have hnl3 := dS s3 l3
   have hlt3 := c6 l3
   refine ⟨_, run_beginRound l3 rfl, ?_⟩
   show code.wpIn (Fr (some l)) mm P _ a3 _
   intro b k cs hro _ _
   have l4 := World.putObj_heap_same (w := w3) (o := .loop { se { state := .ready, pending := none, fn, tmps := a.tmps, params, assign, body := code, defers := dd } none with state := .busy }) hlt3
   generalize hw4 : w3.putObj l (.loop { se { state := .ready, pending := none, fn, tmps := a.tmps, params, assign, body := code, defers := dd } none with state := .busy }) = w4 at l4
   have s4 : St w4 G3 ρ3 σ1 := by rw [← hw4]; exact s3.put g3 hnl3
   have x4 : f0 l w3 G3 ρ3 w4 G3 ρ3 := by rw [← hw4]; exact f0.put
   have r4 := r3.uz x4 s3 g3
   obtain ⟨a5, w5, G5, ρ5, s5, x5, _, hout⟩ := hU [] body [.fin] e1 σ1 (out, σ') hy n (some l) (some k) (.code code :: k) w4 G3 ρ3 a3 b cs w4.heap.size hro rfl (.inl ⟨code, k, rfl, hbody, .fin k rfl⟩) s4 r4 (by rw [z3, rZ3]; exact hn)
    (fun l0 h0 => by injection h0 with h0; subst h0; exact ⟨_, l4⟩) (av _) (by rw [d3]; trivial) (fun _ => d3)
   have hnl4 := dS s4 l4
   have hlt4 := c6 l4
   have l5 := (x5.below l hlt4 hnl4).trans l4
   have g5 : ¬ G5 l := (x5.toL (l := 0)).noG hlt4 hnl4 g3
   have hnl5 := dS s5 l5
   have hlt5 := c6 l5
   have hx6 : ∀ o, f0 l w2 G2 ρ2 (w5.putObj l o) G5 ρ5 := fun o => ((x3.toL.trans x4).trans x5.toL).trans f0.put
   rcases hout with ⟨ho, hst⟩ | ⟨ho, k₁, hst⟩ | ⟨id, ho, k₁, hex, hst⟩
   ·simp only [] at ho
    refine ⟨.normal, a5, w5, ⟨_, _, run_endRound none l5, G5, ρ5, by rw [ho]; rfl, s5.put g5 hnl5, hx6 _, g5, ?_⟩, jD.2 hst⟩
    rw [World.putObj_heap_same hlt5, ho]
    rfl
   ·simp only [] at ho
    refine ⟨.ret, a5, w5, ⟨_, _, run_endRound (some .ret) l5, G5, ρ5, by rw [ho]; rfl, s5.put g5 hnl5, hx6 _, g5, ?_⟩, ⟨(fun hn => by rw [hro] at hn; cases hn), fun _ => ⟨k₁, jD.2 hst⟩⟩⟩
    rw [World.putObj_heap_same hlt5, ho]
    rfl
   ·simp only [] at ho
    refine ⟨.exit id, a5, w5, ⟨_, _, run_endRound (some (.exit id)) l5, G5, ρ5, by rw [ho]; rfl, s5.put g5 hnl5, hx6 _, g5, ?_⟩, ⟨fun k' hk => ?_, fun _ hk => ⟨k₁, hex.trans hk, jD.2 hst⟩⟩⟩
    ·rw [World.putObj_heap_same hlt5, ho]
     rfl
    ·exact jD.2 (hst.trans (.one (stepR_exit (hex.trans hk))))
  ·cases hy
 ·cases hy
theorem wb {g : Operand} {gf l : Nat} {vs : List Value} {w : World} (hg : a.eval g = .func (.func gf) #[] vs.toArray) (hok : nJ P gf = true) :
 (resolve a.eval (rangeCall g l) 0).run P w = .ok { target := .fn (.func gf) vs.toArray, args := #[.func (.yield l) #[] #[]] } w ∧
 (invoke (.fn (.func gf) vs.toArray) #[.func (.yield l) #[] #[]]).run P w = .ok (.enter gf ((.func (.yield l) #[] #[]) :: vs).toArray) w := by
 constructor
 ·have hc : a.eval (.const (.func (.yield l) #[] #[])) = .func (.yield l) #[] #[] := rfl
  simp [resolve, rangeCall, hg, Deferred.ofValue, hc]
 ·have := rk (P := P) (w := w) (args := ((.func (.yield l) #[] #[]) :: vs).toArray) hok
  simpa [invoke] using this
theorem zz {rp : cg} {m : Nat} (hrp : ∀ f rf, rp f = some rf → j5 P f rf = true) (hU : Ay P rp m) {rd : Option Nat} {lo : Nat} {k : List Item} {cs : List Frame} {b : Frame} {g : Operand} {params : Array Tmp} {assign code : Code} {ps : List Nat} {xo : Opd} {asg body ic : RCode} {gf : Nat} {cap : List CV} {pd : Option CV} {σ' : ar}
 (hro : b.roundOf = rd) (hs : St w G ρ σ) (he : cX w G ρ e a.tmps) (hn : n ≤ a.tmps.size) (hlp : ∀ l0, rd = some l0 → ∃ lp, w.heap[l0]? = some (.loop lp)) (hlo : lo ≤ w.heap.size) (hmk : Marks lo w G w.heap.size a.defers) (hdf : rd.isSome = true → a.defers = [])
 (hps : params.toList = ps) (hpn : ∀ p ∈ ps, p < n) (hox : bN g xo = true) (hasg : iU P n asg assign = true) (hbody : fA P n true body code = true) (hx : vl e xo = .fn gf cap) (hrf : rp gf = some ⟨.iter ic, []⟩)
 (hI : b8 (fun f args σ => match rp f with | some rf => runK rp m rf.res rf.code [] (aJ 0 args) σ | none => none) (fun args σ => if args.length = ps.length then (match gv (fun f args σ => match rp f with | some rf => runK rp m rf.res rf.code [] (aJ 0 args) σ | none => none) asg (stL ps args e) σ with | some (e, σ) => runK rp m [] body [.fin] e σ | none => none) else none) m none ic [] (aJ 0 (.any :: cap)) σ = some (pd, σ')) :
 ∃ a1 w1 G1 ρ1, Steps P (lone (b.atR a (.code (.rangeFunc g params assign code) :: k)) cs w) (lone (b.atR a1 (((pd.bind oL).map Item.code).toList ++ k)) cs w1) ∧ a1.tmps = a.tmps ∧ St w1 G1 ρ1 σ' ∧ Ext w G ρ w1 G1 ρ1 ∧ Marks lo w1 G1 w1.heap.size a1.defers ∧ (rd.isSome = true → a1.defers = []) := by
 have hcall := pe hrp hU
 have hrep := bk hox he
 rw [hx] at hrep
 obtain ⟨vs, hgv, hvl, hvk⟩ := qJ hrep
 obtain ⟨hok, fn', icode, hfn', hbod', hr', hcc'⟩ := p8 (hrp gf _ hrf)
 simp only [fA, Bool.not_false, Bool.true_and] at hcc'
 obtain ⟨l, mark, W1, dd, hent, hwl, hl1, hkeep, hsz, hsame, hmk0, hmarks⟩ := uA (P := P) hlp b.fn a.tmps params assign code
 have hGl : ¬ G l := fun h => by have := hs.g l h; omega
 have hs1 : St W1 G ρ σ := hs.frame (fun k hk => hkeep k (hs.g k hk)) (fun k hk => hkeep k (hs.ji hk)) hsz
 have hx1 : Ext w G ρ W1 G ρ := ⟨hsame, cx.refl _, hsz, fun _ h => h, fun _ h => .inl h, fun k hk _ => hkeep k hk, fun _ h => .inl h⟩
 have he1 := he.ext hx1 hs
 have hY := xB (l := l) (fn := b.fn) (dd := dd) hcall hU hps hpn hasg hbody hs1 he1 hn hGl
 let bI : Frame := { (default : Frame) with fn := gf, kind := .normal, roundOf := none }
 have henter : Frame.enter P gf ((.func (.yield l) #[] #[]) :: vs).toArray .normal = bI.atR { tmps := ((.func (.yield l) #[] #[]) :: vs).toArray ++ ee (fn'.ntmps - ((.func (.yield l) #[] #[]) :: vs).toArray.size) undef, defers := [] } [.code icode] := by
  simp [Frame.enter, Frame.atR, hfn', hbod', bI]
 have hrepI : cX W1 G ρ (aJ 0 (.any :: cap)) (((.func (.yield l) #[] #[]) :: vs).toArray ++ ee (fn'.ntmps - ((.func (.yield l) #[] #[]) :: vs).toArray.size) undef) := by
  refine pJ (by simp [hvl]) fun j c v h1 h2 => ?_
  cases j with
  | zero => simp at h1; subst h1; exact .any _
  | succ j => exact (hvk j c v (by simpa using h1) (by simpa using h2)).ext hx1 hs
 obtain ⟨aI, kI, w2, G2, ρ2, st2, d2, s2, x2, g2, l2⟩ := CN hcall hY m none ic [] _ σ (pd, σ') hI [.code icode] W1 G ρ { tmps := ((.func (.yield l) #[] #[]) :: vs).toArray ++ ee (fn'.ntmps - ((.func (.yield l) #[] #[]) :: vs).toArray.size) undef, defers := [] } bI (b.atR { a with defers := mark ++ a.defers } (.inRangeFunc l :: k) :: cs) rfl (.inl ⟨icode, [], rfl, hcc', .nil⟩) hs1 hrepI
  (by simp; omega) (by rw [Array.getElem?_append_left (by simp)]; simp) (Ext.refl.toL) hGl hl1
 rw [← henter] at st2
 obtain ⟨v, hv, _⟩ := nz (fn := fn') (rs := []) (e := []) (a := aI) (c := .tup []) s2 (fun _ => .any _) hr' rfl
 have hleave : ({ bI.atR aI kI with mode := .returning } : Frame).leaving P w2 (.returned v) := ⟨rfl, d2, rfl, fn', hfn', hv⟩
 have hnl2 := dS s2 l2
 have hlt2 := c6 l2
 have hpend : (se { state := .ready, pending := none, fn := b.fn, tmps := a.tmps, params, assign, body := code, defers := dd } pd).pending = pd.bind oL := by cases pd <;> rfl
 obtain ⟨o3, hend⟩ : ∃ o, (Instr.endLoop l).run P w2 = .ok (pd.bind oL) (w2.putObj l o) := ⟨_, by rw [← hpend]; exact run_endLoop (P := P) l2 (by cases pd <;> simp [se])⟩
 obtain ⟨hres, hinv⟩ := wb (P := P) (l := l) (w := W1) hgv hok
 rw [← hro] at hent
 have hst := stepR_rangeFunc (P := P) (b := b) (a := a) (k := k) (cs := cs) (w := w) hent hres hinv
 have x3 : ∀ o, f0 l W1 G ρ (w2.putObj l o) G2 ρ2 := fun o => f0.trans x2 f0.put
 refine ⟨{ a with defers := mark ++ a.defers }, w2.putObj l o3, G2, ρ2, ?_, rfl, s2.put g2 hnl2, (x3 _).ext hx1 hwl, ?_, fun h => by rw [hmk0 h, hdf h]; rfl⟩
 ·refine .head hst (Steps.trans st2 (.head (step_leave_returned hleave) ?_))
  rw [finish_atR_inRangeFunc]
  exact .one (stepR_endRangeFunc hend)
 ·exact ((hmarks G lo a.defers hs.g hlo hmk).uz (x3 _) hs1 (by rw [hl1]; intro h; cases h)).mono (by rw [World.putObj_size]; omega)
theorem CM {rp : cg} (hm : P.follows .mixedOrders = true) (hrp : ∀ f rf, rp f = some rf → j5 P f rf = true) : ∀ m, Ay P rp m := by
 intro m
 induction m with
 | zero => intro rs c ks e σ r h; simp [runK] at h
 | succ m ih =>
   have hcall := pe hrp ih
   intro rs c ks e σ r h n rd k0 todo w G ρ a b cs lo hro hrk htodo hs he hn hlp hlo hmk hdf
   have one : ∀ {c' : RCode} {ks' : List KI} {e' : Env} {todo' : List Item}, runK rp m rs c' ks' e' σ = some r → Ct P n k0 c' ks' todo' → cX w G ρ e' a.tmps → Steps P (lone (b.atR a todo) cs w) (lone (b.atR a todo') cs w) →
    ∃ a' w' G' ρ', St w' G' ρ' r.2 ∧ Ext w G ρ w' G' ρ' ∧ Marks lo w' G' w'.heap.size a'.defers ∧ pB P rs b cs (lone (b.atR a todo) cs w) k0 r a' w' G' ρ' := by
    intro c' ks' e' todo' h1 h2 h3 h4
    obtain ⟨a', w', G', ρ', q1, q2, q3, q4⟩ := ih rs c' ks' e' σ r h1 n rd k0 todo' w G ρ a b cs lo hro hrk h2 hs h3 hn hlp hlo hmk hdf
    exact ⟨a', w', G', ρ', q1, q2, q3, q4.pre h4⟩
   have leave : ∀ {k : List Item} {u : CV}, k0 = none → cW rs e σ = some u → r = (u, σ) → Steps P (lone (b.atR a todo) cs w) (lone { b.atR a k with mode := .returning } cs w) →
    ∃ a' w' G' ρ', St w' G' ρ' r.2 ∧ Ext w G ρ w' G' ρ' ∧ Marks lo w' G' w'.heap.size a'.defers ∧ pB P rs b cs (lone (b.atR a todo) cs w) k0 r a' w' G' ρ' := by
    rintro k u rfl hu rfl hst
    exact ⟨a, w, G, ρ, hs, Ext.refl, hmk, k, e, hst, hu, he⟩
   have ends : ∀ {k : List Item}, k0 = some k → r = (.p (.bool true), σ) → Steps P (lone (b.atR a todo) cs w) (lone (b.atR a k) cs w) →
    ∃ a' w' G' ρ', St w' G' ρ' r.2 ∧ Ext w G ρ w' G' ρ' ∧ Marks lo w' G' w'.heap.size a'.defers ∧ pB P rs b cs (lone (b.atR a todo) cs w) k0 r a' w' G' ρ' := by
    rintro k rfl rfl hst
    exact ⟨a, w, G, ρ, hs, Ext.refl, hmk, .inl ⟨rfl, hst⟩⟩
   have region : ∀ {L : List LOp} {e1 : Env} {σ1 : ar} {ρ0 : List Loc} {code : Code} {k : List Item}, todo = .code code :: k → j7 P n k0 ks k → runK rp m rs .skip ks e1 σ1 = some r → Ext w G ρ w G ρ0 →
    (∀ K : Exit → Act → World → Prop, (j3 (fun _ => False) w G ρ0 a e1 σ1 fun a w => K .normal a w) → code.wpIn (Fr rd) 0 P K a w) →
    ∃ a' w' G' ρ', St w' G' ρ' r.2 ∧ Ext w G ρ w' G' ρ' ∧ Marks lo w' G' w'.heap.size a'.defers ∧ pB P rs b cs (lone (b.atR a todo) cs w) k0 r a' w' G' ρ' := by
    rintro L e1 σ1 ρ0 code k rfl hk h1 hx hwp
    have := hwp (fun ex a' w' => ex = .normal ∧ ∃ G' ρ', St w' G' ρ' σ1 ∧ Ext w G ρ0 w' G' ρ' ∧ cX w' G' ρ' e1 a'.tmps ∧ a'.defers = a.defers ∧ a'.tmps.size = a.tmps.size) (by
     intro a' w' G' ρ' s1 x1 r1 d1 z1 _
     exact ⟨rfl, G', ρ', s1, x1, r1, d1, z1⟩) b k cs hro trivial vz
    obtain ⟨ex, a', w', ⟨rfl, G', ρ', s1, x1, r1, d1, z1⟩, harr⟩ := this
    have x2 := hx.trans x1
    obtain ⟨a2, w2, G2, ρ2, q1, q2, q3, q4⟩ := ih rs .skip ks e1 σ1 r h1 n rd k0 k w' G' ρ' a' b cs lo hro hrk (.inr ⟨rfl, hk⟩) s1 r1 (by omega)
     (fun l0 h0 => by
       obtain ⟨lp, hl⟩ := hlp l0 h0
       exact ⟨lp, (x2.below l0 (c6 hl) (dS hs hl)).trans hl⟩) (a9 hlo x2.heap) (by rw [d1]; exact (hmk.ext x2 hs).mono x2.heap) (fun hh => by rw [d1]; exact hdf hh)
    exact ⟨a2, w2, G2, ρ2, q1, x2.trans q2, q3, q4.pre (jD.1 harr)⟩
   rcases htodo with ⟨d, k, rfl, hch, hk⟩ | ⟨rfl, hk⟩
   ·cases c with
    | fg ct c =>
      simp only [runK] at h
      simp only [fA] at hch
      exact one h (.inl ⟨d, k, rfl, hch, hk⟩) (he.fgt ct) (.refl _ _)
    | skip =>
      have hs1 : ∀ k, step P (lone (b.atR a (.code d :: k)) cs w) = .next (lone (b.atR a k) cs w) := by
       cases d <;> simp only [fA, aR] at hch
       ·exact fun k => stepR_skip
       ·exact fun k => stepR_label
      simp only [runK] at h
      cases hk with
      | nil h0 =>
        have hr0 : b.roundOf = none := by rw [h0] at hrk; rw [hro]; simpa using hrk
        simp only [au] at h
        obtain ⟨u, hu, rfl⟩ := h
        exact leave h0 hu rfl (.head (hs1 _) (.one (stepR_end hr0)))
      | fin k h0 =>
        simp only [Option.some.injEq] at h
        exact ends h0 h.symm (.one (hs1 _))
      | code h1 hk => exact one h (.inl ⟨_, _, rfl, h1, hk⟩) he (.one (hs1 _))
      | blk hk => exact one h (.inr ⟨rfl, hk⟩) he (.head (hs1 _) (.one stepR_inBlock))
      | sc hk => exact one h (.inr ⟨rfl, hk⟩) he (.head (hs1 _) (.one iA))
      | lp h1 hk => exact one h (.inl ⟨_, _, rfl, h1, .lp h1 hk⟩) he (.head (hs1 _) (.one stepR_inLoop))
    | reg L dr =>
      cases dr with
      | none =>
        cases d <;> try (simp only [fA, aR] at hch; done)
        rename_i id ops draw
        cases draw <;> simp only [fA, aR] at hch
        simp only [runK] at h
        split at h
        ·rename_i e1 σ1 hro1
         refine region (L := L) rfl hk h Ext.refl fun K hK => ?_
         exact wpIn_region (oj hcall hch (fun _ _ _ (h : False) => h.elim) hs he hn hro1 hK)
        ·cases h
      | some hxp =>
        obtain ⟨hh, xp⟩ := hxp
        cases d <;> try (simp only [fA, aR] at hch; done)
        rename_i id ops draw
        cases draw <;> simp only [fA, aR, aA] at hch
        simp only [runK] at h
        split at h
        ·rename_i e1 σ1 hro1
         split at h
         ·rename_i hx
          have hloc : cx ρ (ρ ++ aw hh .hole) := fun i l hl => .inl (by rw [aB (ba hl)]; exact hl)
          have hlive : ∀ k, Live (ρ ++ aw hh .hole) k → Live ρ k := by
           rintro k ⟨i, o, t, s, hi⟩
           rcases ax i ρ.length with h1 | h1
           ·rw [aB h1] at hi; exact ⟨i, o, t, s, hi⟩
           ·rw [aC h1, List.getElem?_replicate] at hi
            split at hi <;> cases hi
          have hx0 : Ext w G ρ w G (ρ ++ aw hh .hole) := ⟨⟨rfl, rfl, rfl⟩, hloc, av _, fun _ x => x, fun _ x => .inl x, fun _ _ _ => rfl, fun k hk => .inl (hlive k hk)⟩
          refine region (L := L) rfl hk h hx0 fun K hK => ?_
          refine wpIn_region_any hm ?_
          have hwe : Ext w G (ρ ++ aw hh .hole) { w with drawn := w.drawn + 1 } G (ρ ++ aw hh .hole) := Ext.oq rfl
          have hsh := hs.Dc hh
          refine xg (base := σ.length) hcall hch.1 hch.2 hx (hsh.oq rfl) ((he.ext hx0 hs).ext hwe hsh) hn hro1 ?_
          intro a' w' G' ρ' s1 x1 r1 d1 z1 t1
          exact hK a' w' G' ρ' s1 (hwe.trans x1) r1 d1 z1 t1
         ·cases h
        ·cases h
    | seq x y =>
      cases d <;> simp only [fA, aR, aA] at hch
      simp only [runK] at h
      exact one h (.inl ⟨_, _, rfl, hch.1, .code hch.2 hk⟩) he (.one stepR_seq)
    | cond q x y =>
      cases d <;> simp only [fA, aR, aA] at hch
      obtain ⟨⟨h1, h2⟩, h3⟩ := hch
      simp only [runK] at h
      split at h
      ·rename_i t ht
       have hq := bk h1 he
       rw [ht] at hq
       have hb := iJ hq
       cases t with
       | true => exact one h (.inl ⟨_, _, rfl, h2, hk⟩) he (.one (stepR_cond hb))
       | false => exact one (by simpa using h) (.inl ⟨_, _, rfl, h3, hk⟩) he (.one (stepR_cond hb))
      ·cases h
    | block id x =>
      cases d <;> simp only [fA, aR, aA, beq_iff_eq] at hch
      obtain ⟨rfl, h1⟩ := hch
      simp only [runK] at h
      exact one h (.inl ⟨_, _, rfl, h1, .blk hk⟩) he (.one stepR_block)
    | scope x =>
      cases d <;> simp only [fA, aR] at hch
      simp only [runK] at h
      exact one h (.inl ⟨_, _, rfl, hch, .sc hk⟩) he (.one nw)
    | loop x =>
      cases d <;> simp only [fA, aR] at hch
      simp only [runK] at h
      exact one h (.inl ⟨_, _, rfl, hch, .lp hch hk⟩) he (.one stepR_loop)
    | exit id =>
      cases d <;> simp only [fA, aR, beq_iff_eq] at hch
      subst hch
      simp only [runK] at h
      split at h
      ·rename_i ks' hks
       obtain ⟨k', h1, h2⟩ := hk.exit hks
       exact one h (.inr ⟨rfl, h2⟩) he (.one (stepR_exit h1))
      ·cases h
    | ret =>
      cases d <;> simp only [fA, aR] at hch
      simp only [runK, au] at h
      obtain ⟨u, hu, rfl⟩ := h
      have h0 : k0 = none := by cases k0 <;> simp at hch; rfl
      have hr0 : b.roundOf = none := by rw [h0] at hrk; rw [hro]; simpa using hrk
      exact leave h0 hu rfl (.one (stepR_ret hr0))
    | bret =>
      cases d <;> simp only [fA, aR] at hch
      simp only [runK, Option.some.injEq] at h
      obtain ⟨kb, rfl⟩ := cw.1 hch
      subst h
      exact ⟨a, w, G, ρ, hs, Ext.refl, hmk, .inr (.inl ⟨rfl, k, .refl _ _⟩)⟩
    | bexit id =>
      cases d <;> simp only [fA, aR, aA, beq_iff_eq] at hch
      obtain ⟨hb, rfl⟩ := hch
      obtain ⟨kb, rfl⟩ := cw.1 hb
      simp only [runK] at h
      split at h
      ·cases h
      ·rename_i hks
       simp only [Option.some.injEq] at h
       subst h
       exact ⟨a, w, G, ρ, hs, Ext.refl, hmk, .inr (.inr ⟨id, rfl, k, hk.B0 rfl hks, .refl _ _⟩)⟩
    | iter _ => simp [runK] at h
    | yld _ _ _ _ _ => simp [runK] at h
    | jV t c =>
      simp only [fA] at hch
      simp only [runK] at h
      have plain : runK rp m rs c ks e σ = some r → ∃ a' w' G' ρ', St w' G' ρ' r.2 ∧ Ext w G ρ w' G' ρ' ∧ Marks lo w' G' w'.heap.size a'.defers ∧ pB P rs b cs (lone (b.atR a (.code d :: k)) cs w) k0 r a' w' G' ρ' :=
       fun h => one h (.inl ⟨d, k, rfl, hch, hk⟩) he (.refl _ _)
      split at h
      ·rename_i bb _ _ _
       split at h
       ·rename_i s2 cs2 hb2
        split at h
        ·rename_i ps2 hf2
         split at h
         ·rename_i hcond
          obtain ⟨rfl, hq, hself⟩ := hcond
          obtain ⟨G1, ρ1, s1, x1⟩ := hs.jV hb2 hf2 hq (fun hm => by
           have : (cs2.flatMap eA).elem bb = true := kB.2 hm
           rw [hself] at this; cases this)
          obtain ⟨a2, w2, G2, ρ2, q1, q2, q3, q4⟩ := ih rs c ks e _ r h n rd k0 (.code d :: k) w G1 ρ1 a b cs lo hro hrk (.inl ⟨d, k, rfl, hch, hk⟩) s1 (he.ext x1 hs) hn hlp hlo (hmk.ext x1 hs) hdf
          exact ⟨a2, w2, G2, ρ2, q1, x1.trans q2, q3, q4⟩
         ·cases h
        ·cases h
       ·exact plain h
      ·exact plain h
    | rng b' ps x asg body =>
      cases d <;> simp only [fA, aR, aA, beq_iff_eq, aU, decide_eq_true_eq] at hch
      rename_i g params assign code
      obtain ⟨⟨⟨⟨⟨hb', hps⟩, hpn⟩, hox⟩, hasg⟩, hbody⟩ := hch
      have go : ∀ {pd : Option CV} {σ' : ar} {c' : RCode} {d' : Option Code} {gf : Nat} {cap : List CV} {ic : RCode}, vl e x = .fn gf cap → rp gf = some ⟨.iter ic, []⟩ →
       b8 (fun f args σ => match rp f with | some rf => runK rp m rf.res rf.code [] (aJ 0 args) σ | none => none) (fun args σ => if args.length = ps.length then (match gv (fun f args σ => match rp f with | some rf => runK rp m rf.res rf.code [] (aJ 0 args) σ | none => none) asg (stL ps args e) σ with | some (e, σ) => runK rp m [] body [.fin] e σ | none => none) else none) m none ic [] (aJ 0 (.any :: cap)) σ = some (pd, σ') →
       runK rp m rs c' ks e σ' = some r → pd.bind oL = d' → (∀ c1, d' = some c1 → fA P n k0.isSome c' c1 = true) → (d' = none → c' = .skip) →
       ∃ a' w' G' ρ', St w' G' ρ' r.2 ∧ Ext w G ρ w' G' ρ' ∧ Marks lo w' G' w'.heap.size a'.defers ∧ pB P rs b cs (lone (b.atR a (.code (.rangeFunc g params assign code) :: k)) cs w) k0 r a' w' G' ρ' := by
       intro pd σ' c' d' gf cap ic h1 h2 h3 h4 h5 h6 h7
       obtain ⟨a1, w1, G1, ρ1, st1, t1, s1, x1, m1, df1⟩ := zz hrp ih (k := k) (cs := cs) hro hs he hn hlp hlo hmk hdf hps hpn hox hasg hbody h1 h2 h3
       rw [h5] at st1
       have htd : Ct P n k0 c' ks ((d'.map Item.code).toList ++ k) := by
        cases d' with
        | none => exact .inr ⟨h7 rfl, hk⟩
        | some c1 => exact .inl ⟨c1, k, rfl, h6 c1 rfl, hk⟩
       obtain ⟨a2, w2, G2, ρ2, q1, q2, q3, q4⟩ := ih rs c' ks e σ' r h4 n rd k0 _ w1 G1 ρ1 a1 b cs lo hro hrk htd s1 (by rw [t1]; exact he.ext x1 hs) (by rw [t1]; exact hn)
        (fun l0 h0 => by
          obtain ⟨lp, hl⟩ := hlp l0 h0
          exact ⟨lp, (x1.below l0 (c6 hl) (dS hs hl)).trans hl⟩) (a9 hlo x1.heap) m1 df1
       exact ⟨a2, w2, G2, ρ2, q1, x1.trans q2, q3, q4.pre st1⟩
      simp only [runK] at h
      split at h
      ·rename_i gf cap hx
       split at h
       ·rename_i ic hrf
        split at h
        ·rename_i σ' hI
         exact go hx hrf hI h rfl (fun c1 h => by cases h) fun _ => rfl
        ·rename_i bb σ' hI
         refine go hx hrf hI h rfl (fun c1 h => ?_) fun h => by cases h
         cases h
         subst hb'
         cases k0 <;> rfl
        ·rename_i kk z σ' hI
         split at h
         ·exact go hx hrf hI h rfl (fun c1 h => by cases h; simp [fA]) fun h => by cases h
         ·split at h
          ·rename_i hbt
           refine go hx hrf hI h rfl (fun c1 h => ?_) fun h => by cases h
           cases h
           subst hb'
           simp [fA, hbt]
          ·cases h
        ·cases h
       ·cases h
      ·cases h
   ·simp only [runK] at h
    cases hk with
    | nil h0 =>
      have hr0 : b.roundOf = none := by rw [h0] at hrk; rw [hro]; simpa using hrk
      simp only [au] at h
      obtain ⟨u, hu, rfl⟩ := h
      exact leave h0 hu rfl (.one (stepR_end hr0))
    | fin k h0 =>
      simp only [Option.some.injEq] at h
      exact ends h0 h.symm (.refl _ _)
    | code h1 hk => exact one h (.inl ⟨_, _, rfl, h1, hk⟩) he (.refl _ _)
    | blk hk => exact one h (.inr ⟨rfl, hk⟩) he (.one stepR_inBlock)
    | sc hk => exact one h (.inr ⟨rfl, hk⟩) he (.one iA)
    | lp h1 hk => exact one h (.inl ⟨_, _, rfl, h1, .lp h1 hk⟩) he (.one stepR_inLoop)
theorem nY {rp : cg} (hm : P.follows .mixedOrders = true) (hrp : ∀ f rf, rp f = some rf → j5 P f rf = true) (m : Nat) : eF P (fJ rp m) :=
 pe hrp (CM hm hrp m)
end
def fS (r r' : dx) : Prop := ∀ f args σ x, r f args σ = some x → r' f args σ = some x
theorem nH {r r' : dx} (h : fS r r') {k : CK} {f : Nat} {args : List CV} {σ : ar} {x : CV × ar} (hx : de r k f args σ = some x) : de r' k f args σ = some x := by
 cases k with
 | pu =>
   simp only [de] at hx ⊢
   split at hx
   ·split at hx
    ·rename_i hr
     simp only [h _ _ _ _ hr]
     exact hx
    ·cases hx
   ·cases hx
 | fz =>
   simp only [de] at hx ⊢
   split at hx
   ·split at hx
    ·rename_i hr
     simp only [h _ _ _ _ hr]
     exact hx
    ·cases hx
   ·cases hx
 | full =>
   simp only [de] at hx ⊢
   split at hx
   ·rename_i hr
    simp only [h _ _ _ _ hr]
    exact hx
   ·cases hx
 | ct => exact h _ _ _ _ hx
 | peek =>
   simp only [de] at hx ⊢
   split at hx
   ·split at hx
    ·rename_i hr
     simp only [h _ _ _ _ hr]
     exact hx
    ·cases hx
   ·cases hx
 | cell =>
   simp only [de] at hx ⊢
   split at hx
   ·split at hx
    ·split at hx
     ·rename_i hr
      simp only [h _ _ _ _ hr]
      exact hx
     ·cases hx
    ·cases hx
   ·split at hx
    ·split at hx
     ·split at hx
      ·rename_i hr
       simp only [h _ _ _ _ hr]
       exact hx
      ·cases hx
     ·cases hx
    ·cases hx
   ·cases hx
theorem uk {r r' : dx} (h : fS r r') {f : Nat} {args : List CV} {x : Nat × List PV} (hx : mH r f args = some x) : mH r' f args = some x := by
 unfold mH at hx ⊢
 split at hx
 ·split at hx
  ·rename_i hr
   simp only [h _ _ _ _ hr]
   exact hx
  ·cases hx
 ·cases hx
theorem oY {r r' : dx} (h : fS r r') {base : Nat} {sl : Option Nat} {op : ROp} {e : Env} {σ : ar} {x : CV × ar} (hx : ev1 r base sl op e σ = some x) : ev1 r' base sl op e σ = some x := by
 cases op <;> try exact hx
 ·exact nH h hx
 ·simp only [ev1] at hx ⊢
  split at hx
  ·exact nH h hx
  ·cases hx
 ·simp only [ev1] at hx ⊢
  split at hx
  ·rename_i hm
   rw [uk h hm]
   exact hx
  ·cases hx
theorem yF {r r' : dx} (h : fS r r') {base : Nat} {o : LOp} {e : Env} {σ : ar} {x : Env × ar} (hx : evL r base o e σ = some x) : evL r' base o e σ = some x := by
 unfold evL at hx ⊢
 split at hx
 ·simp only [au] at hx ⊢
  obtain ⟨a, ha, rfl⟩ := hx
  exact ⟨a, oY h ha, rfl⟩
 ·split at hx
  ·split at hx
   ·rename_i hb
    simp only [au] at hx
    obtain ⟨a, ha, rfl⟩ := hx
    simp only [hb, if_true, oY h ha]
    rfl
   ·rename_i hb
    simp only [hb, if_false]
    exact hx
  ·exact hx
  ·cases hx
theorem eo {r r' : dx} (h : fS r r') {base : Nat} : ∀ {l : List LOp} {e : Env} {σ : ar} {x : Env × ar}, du r base l e σ = some x → du r' base l e σ = some x
 | [], _, _, _, hx => hx
 | o :: l, e, σ, x, hx => by
   simp only [du] at hx ⊢
   split at hx
   ·rename_i ho
    simp only [yF h ho]
    exact eo h hx
   ·cases hx
theorem i4 {rp : cg} {n : Nat} {rs : List dH} {ops : List LOp} {ks : List KI} {e : Env} {σ : ar} : runK rp (n + 1) rs (.reg ops none) ks e σ = (du (fJ rp n) σ.length ops e σ).bind fun p => runK rp n rs .skip ks p.1 p.2 := by
 rw [runK]
 show (match du (fJ rp n) σ.length ops e σ with | some (e, σ) => runK rp n rs .skip ks e σ | none => none) = _
 cases du (fJ rp n) σ.length ops e σ <;> rfl
theorem iX {rp : cg} {n : Nat} {rs : List dH} {ops : List LOp} {h : Nat} {xp : List (Nat × Nat)} {ks : List KI} {e : Env} {σ : ar} : runK rp (n + 1) rs (.reg ops (some (h, xp))) ks e σ =
 (du (fJ rp n) σ.length ops e (σ ++ aw h .hole)).bind fun p => if xp.all (fZ p.1 ops) then runK rp n rs .skip ks p.1 p.2 else none := by
 rw [runK]
 show (match du (fJ rp n) σ.length ops e (σ ++ aw h .hole) with | some (e, σ) => if xp.all (fZ e ops) then runK rp n rs .skip ks e σ else none | none => none) = _
 cases du (fJ rp n) σ.length ops e (σ ++ aw h .hole) <;> rfl
theorem ir {r r' : dx} (h : fS r r') : ∀ {c : RCode} {e : Env} {σ : ar} {x : Env × ar}, gv r c e σ = some x → gv r' c e σ = some x
 | .skip, _, _, _, hx => hx
 | .reg _ none, _, _, _, hx => by simp only [gv] at hx ⊢; exact eo h hx
 | .seq a b, _, _, _, hx => by
   simp only [gv] at hx ⊢
   split at hx
   ·rename_i h1
    simp only [ir h h1]
    exact ir h hx
   ·cases hx
 | .reg _ (some _), _, _, _, hx => by simp [gv] at hx
 | .cond _ _ _, _, _, _, hx => by simp [gv] at hx
 | .block _ _, _, _, _, hx => by simp [gv] at hx
 | .scope _, _, _, _, hx => by simp [gv] at hx
 | .loop _, _, _, _, hx => by simp [gv] at hx
 | .exit _, _, _, _, hx => by simp [gv] at hx
 | .ret, _, _, _, hx => by simp [gv] at hx
 | .fg _ _, _, _, _, hx => by simp [gv] at hx
 | .rng _ _ _ _ _, _, _, _, hx => by simp [gv] at hx
 | .iter _, _, _, _, hx => by simp [gv] at hx
 | .yld _ _ _ _ _, _, _, _, hx => by simp [gv] at hx
 | .bret, _, _, _, hx => by simp [gv] at hx
 | .bexit _, _, _, _, hx => by simp [gv] at hx
 | .jV _ _, _, _, _, hx => by simp [gv] at hx
def YLe (Y Y' : List CV → ar → Option (CV × ar)) : Prop := ∀ args σ x, Y args σ = some x → Y' args σ = some x
theorem cK {r r' : dx} (h : fS r r') {Y Y' : List CV → ar → Option (CV × ar)} (hY : YLe Y Y') : ∀ {n m : Nat} {pd : Option CV} {c : RCode} {ks : List KI} {e : Env} {σ : ar} {x : Option CV × ar}, n ≤ m → b8 r Y n pd c ks e σ = some x → b8 r' Y' m pd c ks e σ = some x
 | 0, _, _, _, _, _, _, _, _, hx => by simp [b8] at hx
 | n + 1, 0, _, _, _, _, _, _, hm, _ => by omega
 | n + 1, m + 1, pd, c, ks, e, σ, x, hm, hx => by
   have hm' : n ≤ m := by omega
   cases c with
   | skip =>
     cases ks with
     | nil => simpa only [b8] using hx
     | cons k ks =>
       cases k with
       | fin => simp [b8] at hx
       | code c => simp only [b8] at hx ⊢; exact cK h hY hm' hx
       | blk i => simp only [b8] at hx ⊢; exact cK h hY hm' hx
       | sc => simp only [b8] at hx ⊢; exact cK h hY hm' hx
       | lp c => simp only [b8] at hx ⊢; exact cK h hY hm' hx
   | reg ops dr =>
     cases dr with
     | none =>
       simp only [b8] at hx ⊢
       split at hx
       ·rename_i h1
        simp only [eo h h1]
        exact cK h hY hm' hx
       ·cases hx
     | some d => simp [b8] at hx
   | yld y pre d args post =>
     simp only [b8] at hx ⊢
     split at hx
     ·cases hx
     ·split at hx
      ·cases hx
      ·rename_i h1
       simp only [eo h h1]
       split at hx
       ·cases hx
       ·rename_i h2
        simp only [hY _ _ _ h2]
        split at hx
        ·cases hx
        ·rename_i h3
         simp only [eo h h3]
         exact cK h hY hm' hx
   | seq a b => simp only [b8] at hx ⊢; exact cK h hY hm' hx
   | cond q a b =>
     simp only [b8] at hx ⊢
     split at hx
     ·split at hx
      ·rename_i hb; rw [if_pos hb]; exact cK h hY hm' hx
      ·rename_i hb; rw [if_neg hb]; exact cK h hY hm' hx
     ·cases hx
   | block id c => simp only [b8] at hx ⊢; exact cK h hY hm' hx
   | scope c => simp only [b8] at hx ⊢; exact cK h hY hm' hx
   | loop c => simp only [b8] at hx ⊢; exact cK h hY hm' hx
   | exit id =>
     simp only [b8] at hx ⊢
     split at hx
     ·exact cK h hY hm' hx
     ·cases hx
   | ret => simpa only [b8] using hx
   | fg ct c => simp only [b8] at hx ⊢; exact cK h hY hm' hx
   | rng _ _ _ _ _ => simp [b8] at hx
   | iter _ => simp [b8] at hx
   | bret => simp [b8] at hx
   | bexit _ => simp [b8] at hx
   | jV _ _ => simp [b8] at hx
def lG (rp : cg) (n : Nat) (ps : List Nat) (asg body : RCode) (e : Env) : List CV → ar → Option (CV × ar) := fun args σ =>
 if args.length = ps.length then (match gv (fJ rp n) asg (stL ps args e) σ with | some (e, σ) => runK rp n [] body [.fin] e σ | none => none) else none
theorem mh {rp : cg} {n : Nat} {rs : List dH} {b : Bool} {ps : List Nat} {x : Opd} {asg body : RCode} {ks : List KI} {e : Env} {σ : ar} : runK rp (n + 1) rs (.rng b ps x asg body) ks e σ =
 match vl e x with
 | .fn f cap =>
   match rp f with
   | some ⟨.iter c, []⟩ =>
     match b8 (fJ rp n) (lG rp n ps asg body e) n none c [] (aJ 0 (.any :: cap)) σ with
     | some (none, σ) => runK rp n rs .skip ks e σ
     | some (some (.p (.bool _)), σ) => runK rp n rs (if b = true then .bret else .ret) ks e σ
     | some (some (.p (.int _ z)), σ) =>
       match gx z.toNat ks with
       | some _ => runK rp n rs (.exit z.toNat) ks e σ
       | none => if b = true then runK rp n rs (.bexit z.toNat) ks e σ else none
     | _ => none
   | _ => none
 | _ => none := by
 rw [runK]
 rfl
theorem we {rp : cg} {n : Nat} (ih : ∀ (rs : List dH) (c : RCode) (ks : List KI) (e : Env) (σ : ar) (x : CV × ar), runK rp n rs c ks e σ = some x → runK rp (n + 1) rs c ks e σ = some x) : fS (fJ rp n) (fJ rp (n + 1)) := by
 intro f args σ x hx
 unfold fJ at hx ⊢
 split at hx
 ·exact ih _ _ _ _ _ _ hx
 ·cases hx
theorem wc {rp : cg} : ∀ (n : Nat) (rs : List dH) (c : RCode) (ks : List KI) (e : Env) (σ : ar) (x : CV × ar), runK rp n rs c ks e σ = some x → runK rp (n + 1) rs c ks e σ = some x := by
 intro n
 induction n with
 | zero => intro rs c ks e σ x h; simp [runK] at h
 | succ n ih =>
   intro rs c ks e σ x h
   have hle := we (rp := rp) ih
   cases c with
   | skip =>
     cases ks with
     | nil => simpa only [runK] using h
     | cons k ks =>
       cases k with
       | fin => simpa only [runK] using h
       | code c => simp only [runK] at h ⊢; exact ih _ _ _ _ _ _ h
       | blk i => simp only [runK] at h ⊢; exact ih _ _ _ _ _ _ h
       | sc => simp only [runK] at h ⊢; exact ih _ _ _ _ _ _ h
       | lp c => simp only [runK] at h ⊢; exact ih _ _ _ _ _ _ h
   | reg ops dr =>
     cases dr with
     | none =>
       rw [i4, fo] at h
       obtain ⟨p, ho, h⟩ := h
       rw [i4, eo hle ho]
       exact ih _ _ _ _ _ _ h
     | some hx =>
       obtain ⟨hh, xp⟩ := hx
       rw [iX, fo] at h
       obtain ⟨p, ho, h⟩ := h
       rw [iX, eo hle ho]
       simp only [Option.bind_some]
       split at h
       ·rename_i hp
        rw [if_pos hp]
        exact ih _ _ _ _ _ _ h
       ·cases h
   | seq a b => simp only [runK] at h ⊢; exact ih _ _ _ _ _ _ h
   | cond c a b =>
     simp only [runK] at h ⊢
     split at h
     ·split at h
      ·rename_i hb; rw [if_pos hb]; exact ih _ _ _ _ _ _ h
      ·rename_i hb; rw [if_neg hb]; exact ih _ _ _ _ _ _ h
     ·cases h
   | block id c => simp only [runK] at h ⊢; exact ih _ _ _ _ _ _ h
   | scope c => simp only [runK] at h ⊢; exact ih _ _ _ _ _ _ h
   | loop c => simp only [runK] at h ⊢; exact ih _ _ _ _ _ _ h
   | exit id =>
     simp only [runK] at h ⊢
     split at h
     ·exact ih _ _ _ _ _ _ h
     ·cases h
   | ret => simpa only [runK] using h
   | fg ct c => simp only [runK] at h ⊢; exact ih _ _ _ _ _ _ h
   | bret => simpa only [runK] using h
   | bexit id => simpa only [runK] using h
   | iter c => simp [runK] at h
   | yld _ _ _ _ _ => simp [runK] at h
   | jV t c =>
     simp only [runK] at h ⊢
     split at h
     ·split at h
      ·split at h
       ·split at h
        ·rename_i hcond
         try rw [if_pos hcond]
         exact ih _ _ _ _ _ _ h
        ·cases h
       ·cases h
      ·exact ih _ _ _ _ _ _ h
     ·exact ih _ _ _ _ _ _ h
   | rng b ps x asg body =>
     have hYle : YLe (lG rp n ps asg body e) (lG rp (n + 1) ps asg body e) := by
      intro args τ y hy
      unfold lG at hy ⊢
      split at hy
      ·rename_i hl
       rw [if_pos hl]
       split at hy
       ·rename_i h1
        simp only [ir hle h1]
        exact ih _ _ _ _ _ _ hy
       ·cases hy
      ·cases hy
     rw [mh] at h ⊢
     split at h
     ·rename_i f cap hx
      try simp only [hx]
      split at h
      ·rename_i c hrf
       try simp only [hrf]
       split at h
       ·rename_i hI
        simp only [cK hle hYle (Nat.le_succ n) hI]
        exact ih _ _ _ _ _ _ h
       ·rename_i hI
        simp only [cK hle hYle (Nat.le_succ n) hI]
        exact ih _ _ _ _ _ _ h
       ·rename_i hI
        simp only [cK hle hYle (Nat.le_succ n) hI]
        split at h
        ·rename_i he
         try simp only [he]
         exact ih _ _ _ _ _ _ h
        ·rename_i he
         try simp only [he]
         split at h
         ·rename_i hb
          try rw [if_pos hb]
          exact ih _ _ _ _ _ _ h
         ·cases h
       ·cases h
      ·cases h
     ·cases h
theorem jf {rp : cg} {n m : Nat} (h : n ≤ m) {rs : List dH} {c : RCode} {ks : List KI} {e : Env} {σ : ar} {x : CV × ar} (hx : runK rp n rs c ks e σ = some x) : runK rp m rs c ks e σ = some x := by
 induction h with
 | refl => exact hx
 | step _ ih => exact wc _ _ _ _ _ _ _ ih
theorem gB {rp : cg} {n m : Nat} (h : n ≤ m) : fS (fJ rp n) (fJ rp m) := by
 intro f args σ x hx
 unfold fJ at hx ⊢
 split at hx
 ·exact jf h hx
 ·cases hx
def Ex (rp : cg) (rs : List dH) (c : RCode) (ks : List KI) (e : Env) (σ : ar) (Q : CV → ar → Prop) : Prop :=
 ∃ n v, runK rp n rs c ks e σ = some v ∧ Q v.1 v.2
def ExO (rp : cg) (base : Nat) (ops : List LOp) (e : Env) (σ : ar) (K : Env → ar → Prop) : Prop :=
 ∃ n e' σ', du (fJ rp n) base ops e σ = some (e', σ') ∧ K e' σ'
def Ev (rp : cg) (base : Nat) (sl : Option Nat) (op : ROp) (e : Env) (σ : ar) (K : CV → ar → Prop) : Prop :=
 ∃ n v σ', ev1 (fJ rp n) base sl op e σ = some (v, σ') ∧ K v σ'
def Cl (rp : cg) (k : CK) (f : Nat) (args : List CV) (σ : ar) (K : CV → ar → Prop) : Prop :=
 ∃ n v σ', de (fJ rp n) k f args σ = some (v, σ') ∧ K v σ'
def Rn (rp : cg) (f : Nat) (args : List CV) (σ : ar) (Q : CV → ar → Prop) : Prop :=
 ∃ n v, fJ rp n f args σ = some v ∧ Q v.1 v.2
def Pu (rp : cg) (f : Nat) (ps : List PV) (r : CV) : Prop := Rn rp f (ps.map .p) [] fun v τ => back 0 τ v = some r
section
variable {rp : cg} {rs : List dH} {ks : List KI} {e : Env} {σ : ar} {Q : CV → ar → Prop}
theorem fY {c c' : RCode} {ks' : List KI} {e' : Env} {σ' : ar} (h : ∀ n, runK rp (n + 1) rs c ks e σ = runK rp n rs c' ks' e' σ') : Ex rp rs c ks e σ Q = Ex rp rs c' ks' e' σ' Q := by
 refine propext ⟨?_, ?_⟩
 ·rintro ⟨n, v, h1, h2⟩
  cases n with
  | zero => simp [runK] at h1
  | succ n => exact ⟨n, v, by rw [← h]; exact h1, h2⟩
 ·rintro ⟨n, v, h1, h2⟩
  exact ⟨n + 1, v, by rw [h]; exact h1, h2⟩
theorem q5 {c : RCode} {o : Option (CV × ar)} (h : ∀ n, runK rp (n + 1) rs c ks e σ = o) : Ex rp rs c ks e σ Q = (∃ v, o = some v ∧ Q v.1 v.2) := by
 refine propext ⟨?_, ?_⟩
 ·rintro ⟨n, v, h1, h2⟩
  cases n with
  | zero => simp [runK] at h1
  | succ n => exact ⟨v, by rw [← h n]; exact h1, h2⟩
 ·rintro ⟨v, h1, h2⟩
  exact ⟨1, v, by rw [h 0]; exact h1, h2⟩
theorem yy {a b : RCode} : Ex rp rs (.seq a b) ks e σ Q = Ex rp rs a (.code b :: ks) e σ Q := fY fun n => by simp only [runK]
theorem q6 {c : RCode} : Ex rp rs .skip (.code c :: ks) e σ Q = Ex rp rs c ks e σ Q := fY fun n => by simp only [runK]
theorem yA {i : Nat} : Ex rp rs .skip (.blk i :: ks) e σ Q = Ex rp rs .skip ks e σ Q := fY fun n => by simp only [runK]
theorem Ba : Ex rp rs .skip (.sc :: ks) e σ Q = Ex rp rs .skip ks e σ Q := fY fun n => by simp only [runK]
theorem s6 {c : RCode} : Ex rp rs (.scope c) ks e σ Q = Ex rp rs c (.sc :: ks) e σ Q := fY fun n => by simp only [runK]
theorem Dd {c : RCode} : Ex rp rs .skip (.lp c :: ks) e σ Q = Ex rp rs c (.lp c :: ks) e σ Q := fY fun n => by simp only [runK]
theorem s9 {i : Nat} {c : RCode} : Ex rp rs (.block i c) ks e σ Q = Ex rp rs c (.blk i :: ks) e σ Q := fY fun n => by simp only [runK]
theorem qZ {c : RCode} : Ex rp rs (.loop c) ks e σ Q = Ex rp rs c (.lp c :: ks) e σ Q := fY fun n => by simp only [runK]
theorem s7 {ct : List Nat} {c : RCode} : Ex rp rs (.fg ct c) ks e σ Q = Ex rp rs c ks (fgt ct e) σ Q := fY fun n => by simp only [runK]
theorem Ai {c : Opd} {a b : RCode} {t : Bool} (h : vl e c = .p (.bool t)) : Ex rp rs (.cond c a b) ks e σ Q = if t = true then Ex rp rs a ks e σ Q else Ex rp rs b ks e σ Q := by
 cases t
 ·simp only [aR, if_false]; exact fY fun n => by simp [runK, h]
 ·simp only [if_true]; exact fY fun n => by simp [runK, h]
theorem Ag {i : Nat} {ks' : List KI} (h : gx i ks = some ks') : Ex rp rs (.exit i) ks e σ Q = Ex rp rs .skip ks' e σ Q := fY fun n => by simp only [runK, h]
theorem nF {i j : Nat} : Ex rp rs (.exit i) (.blk j :: ks) e σ Q = if j = i then Ex rp rs .skip ks e σ Q else Ex rp rs (.exit i) ks e σ Q := by
 by_cases h : j = i
 ·rw [if_pos h]; exact Ag (by simp [gx, h])
 ·rw [if_neg h]
  refine propext ⟨?_, ?_⟩
  all_goals
   rintro ⟨n, v, h1, h2⟩
   cases n with
   | zero => simp [runK] at h1
   | succ n => exact ⟨n + 1, v, by simpa [runK, gx, h] using h1, h2⟩
theorem mM {i : Nat} {c : RCode} : Ex rp rs (.exit i) (.code c :: ks) e σ Q = Ex rp rs (.exit i) ks e σ Q := by
 refine propext ⟨?_, ?_⟩
 all_goals
  rintro ⟨n, v, h1, h2⟩
  cases n with
  | zero => simp [runK] at h1
  | succ n => exact ⟨n + 1, v, by simpa [runK, gx] using h1, h2⟩
theorem oV {i : Nat} : Ex rp rs (.exit i) (.sc :: ks) e σ Q = Ex rp rs (.exit i) ks e σ Q := by
 refine propext ⟨?_, ?_⟩
 all_goals
  rintro ⟨n, v, h1, h2⟩
  cases n with
  | zero => simp [runK] at h1
  | succ n => exact ⟨n + 1, v, by simpa [runK, gx] using h1, h2⟩
theorem oW {i : Nat} {c : RCode} : Ex rp rs (.exit i) (.lp c :: ks) e σ Q = Ex rp rs (.exit i) ks e σ Q := by
 refine propext ⟨?_, ?_⟩
 all_goals
  rintro ⟨n, v, h1, h2⟩
  cases n with
  | zero => simp [runK] at h1
  | succ n => exact ⟨n + 1, v, by simpa [runK, gx] using h1, h2⟩
theorem Cf : Ex rp rs .ret ks e σ Q = ∃ v, cW rs e σ = some v ∧ Q v σ := by
 rw [q5 (o := (cW rs e σ).map fun v => (v, σ)) fun n => by simp only [runK]]
 refine propext ⟨?_, ?_⟩
 ·rintro ⟨v, h1, h2⟩
  obtain ⟨u, hu, rfl⟩ := au.1 h1
  exact ⟨u, hu, h2⟩
 ·rintro ⟨v, h1, h2⟩
  exact ⟨(v, σ), by rw [h1]; rfl, h2⟩
theorem Ch : Ex rp rs .skip [] e σ Q = ∃ v, cW rs e σ = some v ∧ Q v σ := by
 rw [q5 (o := (cW rs e σ).map fun v => (v, σ)) fun n => by simp only [runK]]
 refine propext ⟨?_, ?_⟩
 ·rintro ⟨v, h1, h2⟩
  obtain ⟨u, hu, rfl⟩ := au.1 h1
  exact ⟨u, hu, h2⟩
 ·rintro ⟨v, h1, h2⟩
  exact ⟨(v, σ), by rw [h1]; rfl, h2⟩
theorem Cg {ops : List LOp} : Ex rp rs (.reg ops none) ks e σ Q = ExO rp σ.length ops e σ (fun e σ => Ex rp rs .skip ks e σ Q) := by
 refine propext ⟨?_, ?_⟩
 ·rintro ⟨n, v, h1, h2⟩
  cases n with
  | zero => simp [runK] at h1
  | succ n =>
    rw [i4, fo] at h1
    obtain ⟨p, ho, h1⟩ := h1
    exact ⟨n, p.1, p.2, ho, n, v, h1, h2⟩
 ·rintro ⟨n, e', σ', ho, m, v, h1, h2⟩
  refine ⟨max n m + 1, v, ?_, h2⟩
  rw [i4, eo (gB (rp := rp) (Nat.le_max_left n m)) ho]
  exact jf (Nat.le_max_right _ _) h1
theorem Ah {ops : List LOp} {h : Nat} {xp : List (Nat × Nat)} : Ex rp rs (.reg ops (some (h, xp))) ks e σ Q = ExO rp σ.length ops e (σ ++ aw h .hole) (fun e σ => (xp.all (fZ e ops)) = true ∧ Ex rp rs .skip ks e σ Q) := by
 refine propext ⟨?_, ?_⟩
 ·rintro ⟨n, v, h1, h2⟩
  cases n with
  | zero => simp [runK] at h1
  | succ n =>
    rw [iX, fo] at h1
    obtain ⟨p, ho, h1⟩ := h1
    split at h1
    ·rename_i hx
     exact ⟨n, p.1, p.2, ho, hx, n, v, h1, h2⟩
    ·cases h1
 ·rintro ⟨n, e', σ', ho, hx, m, v, h1, h2⟩
  refine ⟨max n m + 1, v, ?_, h2⟩
  rw [iX, eo (gB (rp := rp) (Nat.le_max_left n m)) ho]
  simp only [Option.bind_some, hx, if_true]
  exact jf (Nat.le_max_right _ _) h1
theorem q7 {base : Nat} {K : Env → ar → Prop} : ExO rp base [] e σ K = K e σ := by
 refine propext ⟨?_, fun h => ⟨0, e, σ, rfl, h⟩⟩
 rintro ⟨n, e', σ', h, hk⟩
 simp only [du, Option.some.injEq, Prod.mk.injEq] at h
 obtain ⟨rfl, rfl⟩ := h
 exact hk
theorem kz {base : Nat} {K : Env → ar → Prop} {d : Option Nat} {sl : Option Nat} {op : ROp} {l : List LOp} :
 ExO rp base (⟨d, none, sl, op⟩ :: l) e σ K = Ev rp base sl op e σ (fun v σ => ExO rp base l (sto d v e) σ K) := by
 refine propext ⟨?_, ?_⟩
 ·rintro ⟨n, e', σ', h, hk⟩
  simp only [du] at h
  split at h
  ·rename_i e1 σ1 h1
   simp only [evL, au, Prod.mk.injEq] at h1
   obtain ⟨⟨v, σ2⟩, h1, rfl, rfl⟩ := h1
   exact ⟨n, v, σ2, h1, n, e', σ', h, hk⟩
  ·cases h
 ·rintro ⟨n, v, σ1, h1, m, e', σ', h, hk⟩
  refine ⟨max n m, e', σ', ?_, hk⟩
  simp only [du, evL, oY (gB (rp := rp) (Nat.le_max_left n m)) h1, aH]
  exact eo (gB (rp := rp) (Nat.le_max_right n m)) h
theorem wx {base : Nat} {K : Env → ar → Prop} {d : Option Nat} {t : Nat} {w b : Bool} {sl : Option Nat} {op : ROp} {l : List LOp} (hg : gt e t = .p (.bool b)) :
 ExO rp base (⟨d, some (t, w), sl, op⟩ :: l) e σ K = if b = w then Ev rp base sl op e σ (fun v σ => ExO rp base l (sto d v e) σ K) else ExO rp base l (sto d (.tup []) e) σ K := by
 by_cases hb : b = w
 ·rw [if_pos hb, ← kz]
  unfold ExO
  simp only [du, evL, hg, hb, if_true]
 ·rw [if_neg hb]
  unfold ExO
  simp only [du, evL, hg, hb, if_false]
theorem yB {base : Nat} {K : Env → ar → Prop} {d : Option Nat} {t : Nat} {w : Bool} {sl : Option Nat} {op : ROp} {l : List LOp} (hg : gt e t = .tup []) :
 ExO rp base (⟨d, some (t, w), sl, op⟩ :: l) e σ K = ExO rp base l (sto d (.tup []) e) σ K := by
 unfold ExO
 simp only [du, evL, hg]
theorem yD {base : Nat} {sl : Option Nat} {op : ROp} {K : CV → ar → Prop} (h : ∀ r : dx, ev1 r base sl op e σ = ev base sl op e σ) : Ev rp base sl op e σ K = ∃ v σ', ev base sl op e σ = some (v, σ') ∧ K v σ' := by
 unfold Ev
 simp only [h]
 refine propext ⟨?_, ?_⟩
 ·rintro ⟨n, v, σ', h1, h2⟩; exact ⟨v, σ', h1, h2⟩
 ·rintro ⟨v, σ', h1, h2⟩; exact ⟨0, v, σ', h1, h2⟩
theorem Aj {base : Nat} {sl : Option Nat} {k : CK} {f : Nat} {args : List Opd} {K : CV → ar → Prop} : Ev rp base sl (.call k f args) e σ K = Cl rp k f (args.map (vl e)) σ K := rfl
theorem yE {base : Nat} {sl : Option Nat} {k : CK} {x : Opd} {f : Nat} {cap : List CV} {args : List Opd} {K : CV → ar → Prop} (h : vl e x = .fn f cap) : Ev rp base sl (.callv k x args) e σ K = Cl rp k f (args.map (vl e) ++ cap) σ K := by
 unfold Ev Cl
 simp only [ev1, h]
theorem Df {f : Nat} {args : List CV} {ps : List PV} {r : CV} {K : CV → ar → Prop} (ha : ig args = some ps) (h : Pu rp f ps r) (hk : K r σ) : Cl rp .pu f args σ K := by
 obtain ⟨n, v, h1, h2⟩ := h
 refine ⟨n, r, σ, ?_, hk⟩
 simp only [de, ha, h1, h2, aH]
theorem Dg {f : Nat} {args : List CV} {ps : List PV} {r : CV} {K : CV → ar → Prop} (ha : eG σ args = some ps) (h : Pu rp f ps r) (hk : K r (eC σ args)) : Cl rp .fz f args σ K := by
 obtain ⟨n, v, h1, h2⟩ := h
 refine ⟨n, r, eC σ args, ?_, hk⟩
 simp only [de, ha, h1, h2, aH]
theorem At {f : Nat} {args : List CV} {K : CV → ar → Prop} (h : Rn rp f args σ K) : Cl rp .ct f args σ K := by
 obtain ⟨n, v, h1, h2⟩ := h
 exact ⟨n, v.1, v.2, h1, h2⟩
theorem re {f : Nat} {args : List CV} {K : CV → ar → Prop} (h : Rn rp f args σ fun v τ => ((τ.take σ.length).all (dO σ.length)) = true ∧ ∃ r, back σ.length τ v = some r ∧ K r (τ.take σ.length)) : Cl rp .full f args σ K := by
 obtain ⟨n, v, h1, h2, r, h3, h4⟩ := h
 refine ⟨n, r, v.2.take σ.length, ?_, h4⟩
 simp only [de, h1, h2, h3, if_true, aH]
theorem ew {f : Nat} {rf : RFun} {args : List CV} (hf : rp f = some rf) : Rn rp f args σ Q = Ex rp rf.res rf.code [] (aJ 0 args) σ Q := by
 unfold Rn Ex fJ
 simp only [hf]
theorem aY {f : Nat} {rf : RFun} {ps : List PV} {r : CV} (hf : rp f = some rf) (h : Ex rp rf.res rf.code [] (aJ 0 (ps.map .p)) [] fun v τ => back 0 τ v = some r) : Pu rp f ps r := by
 unfold Pu
 rw [ew hf]
 exact h
end
theorem tI {k : IntKind} {a b : Int} : fw .add (.int k a) (.int k b) = some (.int k (k.wrap (a + b))) := by simp [fw]
theorem tw {k : IntKind} {a b : Int} : fw .sub (.int k a) (.int k b) = some (.int k (k.wrap (a - b))) := by simp [fw]
theorem tB {k : IntKind} {a b : Int} : fw .mul (.int k a) (.int k b) = some (.int k (k.wrap (a * b))) := by simp [fw]
theorem fC {k : IntKind} {a b : Int} (h : b ≠ 0) : fw .quo (.int k a) (.int k b) = some (.int k (k.wrap (a.tdiv b))) := by simp [fw, h]
theorem fB {k : IntKind} {a b : Int} (h : b ≠ 0) : fw .rem (.int k a) (.int k b) = some (.int k (a.tmod b)) := by simp [fw, h]
theorem tH {k : IntKind} {a b : Int} : fw .and (.int k a) (.int k b) = some (.int k (k.wrap (BitVec.ofInt k.bits a &&& BitVec.ofInt k.bits b).toNat)) := by simp [fw]
theorem vK {k : IntKind} {a b : Int} : fw .or (.int k a) (.int k b) = some (.int k (k.wrap (BitVec.ofInt k.bits a ||| BitVec.ofInt k.bits b).toNat)) := by simp [fw]
theorem tu {k : IntKind} {a b : Int} : fw .xor (.int k a) (.int k b) = some (.int k (k.wrap (BitVec.ofInt k.bits a ^^^ BitVec.ofInt k.bits b).toNat)) := by simp [fw]
theorem tG {k : IntKind} {a b : Int} : fw .eql (.int k a) (.int k b) = some (.bool (a == b)) := by simp [fw]
theorem tA {k : IntKind} {a b : Int} : fw .neq (.int k a) (.int k b) = some (.bool (a != b)) := by simp [fw]
theorem tC {k : IntKind} {a b : Int} : fw .lss (.int k a) (.int k b) = some (.bool (decide (a < b))) := by simp [fw]
theorem tD {k : IntKind} {a b : Int} : fw .leq (.int k a) (.int k b) = some (.bool (decide (a ≤ b))) := by simp [fw]
theorem tE {k : IntKind} {a b : Int} : fw .gtr (.int k a) (.int k b) = some (.bool (decide (a > b))) := by simp [fw]
theorem tF {k : IntKind} {a b : Int} : fw .geq (.int k a) (.int k b) = some (.bool (decide (a ≥ b))) := by simp [fw]
theorem tz {k k' : IntKind} {a b : Int} (h : 0 ≤ b) : fw .shl (.int k a) (.int k' b) = some (.int k (k.wrap (a * 2 ^ min b.toNat k.bits))) := by
 simp only [fw]; rw [if_neg (by omega)]
theorem tx {k k' : IntKind} {a b : Int} (h : 0 ≤ b) : fw .shr (.int k a) (.int k' b) = some (.int k (a.fdiv (2 ^ min b.toNat k.bits))) := by
 simp only [fw]; rw [if_neg (by omega)]
theorem Af {α β : Type} {a : α} {b : β} {K : α → β → Prop} : (∃ v s, some (a, b) = some (v, s) ∧ K v s) = K a b := by
 refine propext ⟨?_, fun h => ⟨a, b, rfl, h⟩⟩
 rintro ⟨v, s, h, hk⟩
 cases h
 exact hk
abbrev Dr := Option (List (Nat × Nat) × List LOp)
def ExR (rp : cg) (rs : List dH) (base : Nat) (l : List LOp) (dr : Dr) (ks : List KI) (e : Env) (σ : ar) (Q : CV → ar → Prop) : Prop :=
 ExO rp base l e σ fun e σ => (match dr with | none => True | some (xp, ops) => xp.all (fZ e ops) = true) ∧ Ex rp rs .skip ks e σ Q
def KE (rp : cg) (rs : List dH) (base : Nat) (d : Option Nat) (l : List LOp) (dr : Dr) (ks : List KI) (Q : CV → ar → Prop) (o : Option (CV × ar)) (e : Env) : Prop :=
 match o with
 | some (v, σ) => ExR rp rs base l dr ks (sto d v e) σ Q
 | none => False
def KC (rp : cg) (rs : List dH) (base : Nat) (k : CK) (f : Nat) (args : List CV) (d : Option Nat) (l : List LOp) (dr : Dr) (ks : List KI) (e : Env) (σ : ar) (Q : CV → ar → Prop) : Prop :=
 Cl rp k f args σ fun v σ => ExR rp rs base l dr ks (sto d v e) σ Q
def KV (rp : cg) (rs : List dH) (base : Nat) (k : CK) (x : CV) (args : List CV) (d : Option Nat) (l : List LOp) (dr : Dr) (ks : List KI) (e : Env) (σ : ar) (Q : CV → ar → Prop) : Prop :=
 match x with
 | .fn f cap => KC rp rs base k f (args ++ cap) d l dr ks e σ Q
 | _ => False
def KG (rp : cg) (rs : List dH) (base : Nat) (c : CV) (w : Bool) (o : LOp) (l : List LOp) (dr : Dr) (ks : List KI) (e : Env) (σ : ar) (Q : CV → ar → Prop) : Prop :=
 match c with
 | .p (.bool b) => if b = w then ExR rp rs base (⟨o.d, none, o.sl, o.op⟩ :: l) dr ks e σ Q else ExR rp rs base l dr ks (sto o.d (.tup []) e) σ Q
 | .tup [] => ExR rp rs base l dr ks (sto o.d (.tup []) e) σ Q
 | _ => False
def KI' (rp : cg) (rs : List dH) (c : CV) (a b : RCode) (ks : List KI) (e : Env) (σ : ar) (Q : CV → ar → Prop) : Prop :=
 match c with
 | .p (.bool t) => if t = true then Ex rp rs a ks e σ Q else Ex rp rs b ks e σ Q
 | _ => False
def KR (o : Option CV) (σ : ar) (Q : CV → ar → Prop) : Prop :=
 match o with
 | some v => Q v σ
 | none => False
section
variable {rp : cg} {rs : List dH} {ks : List KI} {base : Nat} {sl : Option Nat} {e : Env} {σ : ar} {Q : CV → ar → Prop} {d : Option Nat} {l : List LOp} {dr : Dr}
theorem CA {c : Opd} {a b : RCode} : Ex rp rs (.cond c a b) ks e σ Q = KI' rp rs (vl e c) a b ks e σ Q := by
 unfold KI'
 split
 ·rename_i t h; exact Ai h
 ·rename_i h
  refine propext ⟨?_, fun h => h.elim⟩
  rintro ⟨n, v, h1, _⟩
  cases n with
  | zero => simp [runK] at h1
  | succ n =>
    rw [runK] at h1
    split at h1
    ·rename_i t ht; exact (h t ht).elim
    ·cases h1
theorem wN {t : Bool} {a b : RCode} : KI' rp rs (.p (.bool t)) a b ks e σ Q = if t = true then Ex rp rs a ks e σ Q else Ex rp rs b ks e σ Q := rfl
theorem AI {ops : List LOp} : Ex rp rs (.reg ops none) ks e σ Q = ExR rp rs σ.length ops none ks e σ Q := by
 rw [Cg]; unfold ExR; simp only [true_and]
theorem wP {ops : List LOp} {h : Nat} {xp : List (Nat × Nat)} : Ex rp rs (.reg ops (some (h, xp))) ks e σ Q = ExR rp rs σ.length ops (some (xp, ops)) ks e (σ ++ aw h .hole) Q := by
 rw [Ah]; rfl
theorem AU : ExR rp rs base [] none ks e σ Q = Ex rp rs .skip ks e σ Q := by
 unfold ExR; rw [q7]; simp only [true_and]
theorem xH {ops : List LOp} : ExR rp rs base [] (some ([], ops)) ks e σ Q = Ex rp rs .skip ks e σ Q := by
 unfold ExR; rw [q7]; simp only [List.all_nil, true_and]
theorem ez {ops : List LOp} {x : Nat × Nat} {xp : List (Nat × Nat)} : ExR rp rs base [] (some (x :: xp, ops)) ks e σ Q = ((x :: xp).all (fZ e ops) = true ∧ Ex rp rs .skip ks e σ Q) := by
 unfold ExR; rw [q7]
theorem gY {op : ROp} (h : ∀ r : dx, ev1 r base sl op e σ = ev base sl op e σ) : ExR rp rs base (⟨d, none, sl, op⟩ :: l) dr ks e σ Q = KE rp rs base d l dr ks Q (ev base sl op e σ) e := by
 unfold ExR KE
 rw [kz, yD h]
 generalize ev base sl op e σ = o
 cases o with
 | some vs => exact Af
 | none =>
   refine propext ⟨?_, fun h => h.elim⟩
   rintro ⟨_, _, h, _⟩
   cases h
theorem eY {v : CV} {σ : ar} : KE rp rs base d l dr ks Q (some (v, σ)) e = ExR rp rs base l dr ks (sto d v e) σ Q := rfl
theorem A9 {c : Prop} [Decidable c] {o : Option (CV × ar)} : KE rp rs base d l dr ks Q (if c then o else none) e = (c ∧ KE rp rs base d l dr ks Q o e) := by
 by_cases h : c
 ·rw [if_pos h]; simp only [h, true_and]
 ·rw [if_neg h]; exact propext ⟨fun h => h.elim, fun h' => (h h'.1).elim⟩
theorem CT {x : Opd} : ExR rp rs base (⟨d, none, sl, .mv x⟩ :: l) dr ks e σ Q = ExR rp rs base l dr ks (sto d (vl e x) e) σ Q := by rw [gY fun _ => rfl]; rfl
theorem xJ {f : Nat} {cap : List Opd} : ExR rp rs base (⟨d, none, sl, .mkfn f cap⟩ :: l) dr ks e σ Q = ExR rp rs base l dr ks (sto d (.fn f (cap.map (vl e))) e) σ Q := by rw [gY fun _ => rfl]; rfl
theorem xG {a b c : Opd} : ExR rp rs base (⟨d, none, sl, .pick a b c⟩ :: l) dr ks e σ Q = KE rp rs base d l dr ks Q (ev base sl (.pick a b c) e σ) e := gY fun _ => rfl
theorem vg {a : List CV} : ExR rp rs base (⟨d, none, sl, .alloc a⟩ :: l) dr ks e σ Q = KE rp rs base d l dr ks Q (ev base sl (.alloc a) e σ) e := gY fun _ => rfl
theorem AW {a : Opd} : ExR rp rs base (⟨d, none, sl, .box a⟩ :: l) dr ks e σ Q = KE rp rs base d l dr ks Q (ev base sl (.box a) e σ) e := gY fun _ => rfl
theorem ve {a : List CV} {b : List (Nat × Nat × Opd)} : ExR rp rs base (⟨d, none, sl, .build a b⟩ :: l) dr ks e σ Q = KE rp rs base d l dr ks Q (ev base sl (.build a b) e σ) e := gY fun _ => rfl
theorem ml {a : Nat} {b : List Opd} : ExR rp rs base (⟨d, none, sl, .bslice a b⟩ :: l) dr ks e σ Q = KE rp rs base d l dr ks Q (ev base sl (.bslice a b) e σ) e := gY fun _ => rfl
theorem o8 {b o n : Nat} : ly [.own b o n] = some [.own b o n] := rfl
theorem xO {b : List Opd} : ExR rp rs base (⟨d, none, sl, .bslk b⟩ :: l) dr ks e σ Q = KE rp rs base d l dr ks Q (ev base sl (.bslk b) e σ) e := gY fun _ => rfl
theorem ud {a : Nat} {x y : Opd} : ExR rp rs base (⟨d, none, sl, .appk a x y⟩ :: l) dr ks e σ Q = KE rp rs base d l dr ks Q (ev base sl (.appk a x y) e σ) e := gY fun _ => rfl
theorem xP {a b : Nat} {z : PV} {x y : Opd} : ExR rp rs base (⟨d, none, sl, .appz a b z x y⟩ :: l) dr ks e σ Q = KE rp rs base d l dr ks Q (ev base sl (.appz a b z x y) e σ) e := gY fun _ => rfl
theorem xK {a : Bool} {b : Nat} {c : Opd} : ExR rp rs base (⟨d, none, sl, .load a b c⟩ :: l) dr ks e σ Q = KE rp rs base d l dr ks Q (ev base sl (.load a b c) e σ) e := gY fun _ => rfl
theorem va {a : Nat} {b c : Opd} : ExR rp rs base (⟨d, none, sl, .store a b c⟩ :: l) dr ks e σ Q = KE rp rs base d l dr ks Q (ev base sl (.store a b c) e σ) e := gY fun _ => rfl
theorem xI {a : Opd} : ExR rp rs base (⟨d, none, sl, .nilc a⟩ :: l) dr ks e σ Q = KE rp rs base d l dr ks Q (ev base sl (.nilc a) e σ) e := gY fun _ => rfl
theorem AX {a : BinOp} {b c : Opd} : ExR rp rs base (⟨d, none, sl, .bin a b c⟩ :: l) dr ks e σ Q = KE rp rs base d l dr ks Q (ev base sl (.bin a b c) e σ) e := gY fun _ => rfl
theorem AY {a : Bool} {b c : Opd} : ExR rp rs base (⟨d, none, sl, .beq a b c⟩ :: l) dr ks e σ Q = KE rp rs base d l dr ks Q (ev base sl (.beq a b c) e σ) e := gY fun _ => rfl
theorem CR {a : UnOp} {b : Opd} : ExR rp rs base (⟨d, none, sl, .un a b⟩ :: l) dr ks e σ Q = KE rp rs base d l dr ks Q (ev base sl (.un a b) e σ) e := gY fun _ => rfl
theorem xM {a : IntKind} {b : Opd} : ExR rp rs base (⟨d, none, sl, .conv a b⟩ :: l) dr ks e σ Q = KE rp rs base d l dr ks Q (ev base sl (.conv a b) e σ) e := gY fun _ => rfl
theorem gT {a : Bool} {b c : Nat} {z : PV} {x y : Opd} : ExR rp rs base (⟨d, none, sl, .mks a b c z x y⟩ :: l) dr ks e σ Q = KE rp rs base d l dr ks Q (ev base sl (.mks a b c z x y) e σ) e := gY fun _ => rfl
theorem vb {a : Nat} {b : Opd} {x y z : Option Opd} : ExR rp rs base (⟨d, none, sl, .slice a b x y z⟩ :: l) dr ks e σ Q = KE rp rs base d l dr ks Q (ev base sl (.slice a b x y z) e σ) e := gY fun _ => rfl
theorem sh {a : Nat} {b : Opd} : ExR rp rs base (⟨d, none, sl, .fieldA a b⟩ :: l) dr ks e σ Q = KE rp rs base d l dr ks Q (ev base sl (.fieldA a b) e σ) e := gY fun _ => rfl
theorem vc {x : Bool} {a b : Nat} {c : Opd} : ExR rp rs base (⟨d, none, sl, .field x a b c⟩ :: l) dr ks e σ Q = KE rp rs base d l dr ks Q (ev base sl (.field x a b c) e σ) e := gY fun _ => rfl
theorem sf {a : Nat} {b c : Opd} : ExR rp rs base (⟨d, none, sl, .indexA a b c⟩ :: l) dr ks e σ Q = KE rp rs base d l dr ks Q (ev base sl (.indexA a b c) e σ) e := gY fun _ => rfl
theorem pK {a : Opd} {b : Nat} : ExR rp rs base (⟨d, none, sl, .extract a b⟩ :: l) dr ks e σ Q = KE rp rs base d l dr ks Q (ev base sl (.extract a b) e σ) e := gY fun _ => rfl
theorem iK {a : List Nat} {b : Opd} : ExR rp rs base (⟨d, none, sl, .idx a b⟩ :: l) dr ks e σ Q = KE rp rs base d l dr ks Q (ev base sl (.idx a b) e σ) e := gY fun _ => rfl
theorem AV {a : Opd} : ExR rp rs base (⟨d, none, sl, .len a⟩ :: l) dr ks e σ Q = KE rp rs base d l dr ks Q (ev base sl (.len a) e σ) e := gY fun _ => rfl
theorem fN {a b : Nat} {x y : Opd} : ExR rp rs base (⟨d, none, sl, .append a b x y⟩ :: l) dr ks e σ Q = KE rp rs base d l dr ks Q (ev base sl (.append a b x y) e σ) e := gY fun _ => rfl
theorem xL {a : Nat} {x y : Opd} : ExR rp rs base (⟨d, none, sl, .copy a x y⟩ :: l) dr ks e σ Q = KE rp rs base d l dr ks Q (ev base sl (.copy a x y) e σ) e := gY fun _ => rfl
theorem CS {x y : Opd} : ExR rp rs base (⟨d, none, sl, .mx x y⟩ :: l) dr ks e σ Q = KE rp rs base d l dr ks Q (ev base sl (.mx x y) e σ) e := gY fun _ => rfl
theorem CU {x y : Opd} : ExR rp rs base (⟨d, none, sl, .mn x y⟩ :: l) dr ks e σ Q = KE rp rs base d l dr ks Q (ev base sl (.mn x y) e σ) e := gY fun _ => rfl
theorem xN {k : CK} {f : Nat} {args : List Opd} : ExR rp rs base (⟨d, none, sl, .call k f args⟩ :: l) dr ks e σ Q = KC rp rs base k f (args.map (vl e)) d l dr ks e σ Q := by
 unfold ExR KC; rw [kz, Aj]; rfl
theorem vd {k : CK} {x : Opd} {args : List Opd} : ExR rp rs base (⟨d, none, sl, .callv k x args⟩ :: l) dr ks e σ Q = KV rp rs base k (vl e x) (args.map (vl e)) d l dr ks e σ Q := by
 unfold ExR KV
 rw [kz]
 generalize hx : vl e x = y
 cases y with
 | fn f cap => rw [yE hx]; rfl
 | _ =>
   refine propext ⟨?_, fun h => h.elim⟩
   rintro ⟨n, v, σ', h1, _⟩
   rw [ev1, hx] at h1
   cases h1
theorem ym {k : CK} {f : Nat} {cap args : List CV} : KV rp rs base k (.fn f cap) args d l dr ks e σ Q = KC rp rs base k f (args ++ cap) d l dr ks e σ Q := rfl
theorem r_g {t : Nat} {w : Bool} {op : ROp} : ExR rp rs base (⟨d, some (t, w), sl, op⟩ :: l) dr ks e σ Q = KG rp rs base (gt e t) w ⟨d, none, sl, op⟩ l dr ks e σ Q := by
 unfold KG
 generalize hx : gt e t = x
 have no : (∀ b, x ≠ .p (.bool b)) → x ≠ .tup [] → ExR rp rs base (⟨d, some (t, w), sl, op⟩ :: l) dr ks e σ Q = False := by
  intro h h'
  refine propext ⟨?_, fun h => h.elim⟩
  rintro ⟨n, e', σ', h1, _⟩
  rw [du] at h1
  split at h1
  ·rename_i h2
   rw [evL] at h2
   simp only [hx] at h2
   cases x with
   | p v =>
     cases v with
     | bool b => exact h b rfl
     | _ => cases h2
   | tup cs =>
     cases cs with
     | nil => exact h' rfl
     | cons => cases h2
   | _ => cases h2
  ·cases h1
 cases x with
 | p v =>
   cases v with
   | bool b => unfold ExR; rw [wx hx, kz]
   | _ => exact no (by simp) (by simp)
 | tup cs =>
   cases cs with
   | nil => unfold ExR; rw [yB hx]
   | cons => exact no (by simp) (by simp)
 | _ => exact no (by simp) (by simp)
theorem Db {b w : Bool} {op : ROp} {g : Option (Nat × Bool)} : KG rp rs base (.p (.bool b)) w ⟨d, g, sl, op⟩ l dr ks e σ Q = if b = w then ExR rp rs base (⟨d, none, sl, op⟩ :: l) dr ks e σ Q else ExR rp rs base l dr ks (sto d (.tup []) e) σ Q := rfl
theorem Da {w : Bool} {op : ROp} {g : Option (Nat × Bool)} : KG rp rs base (.tup []) w ⟨d, g, sl, op⟩ l dr ks e σ Q = ExR rp rs base l dr ks (sto d (.tup []) e) σ Q := rfl
theorem gU {b : Blk} : push base none σ b = some (σ.length, σ ++ [b]) := rfl
theorem A8 {o : Option CV} : (∃ v, o = some v ∧ Q v σ) = KR o σ Q := by
 cases o with
 | none =>
   refine propext ⟨?_, fun h => h.elim⟩
   rintro ⟨_, h, _⟩
   cases h
 | some v => exact propext ⟨fun ⟨_, h, hk⟩ => by cases h; exact hk, fun h => ⟨v, rfl, h⟩⟩
theorem AH : Ex rp rs .ret ks e σ Q = KR (cW rs e σ) σ Q := by rw [Cf, A8]
theorem AJ : Ex rp rs .skip [] e σ Q = KR (cW rs e σ) σ Q := by rw [Ch, A8]
theorem vr {v : CV} : KR (some v) σ Q = Q v σ := rfl
theorem ow {n m f : Nat} {args : List CV} {x y : CV × ar} (hx : fJ rp n f args σ = some x) (hy : fJ rp m f args σ = some y) : x = y := by
 have h1 := gB (rp := rp) (Nat.le_max_left n m) _ _ _ _ hx
 have h2 := gB (rp := rp) (Nat.le_max_right n m) _ _ _ _ hy
 rw [h1] at h2
 cases h2
 rfl
theorem j1 {f : Nat} {args : List CV} {ps : List PV} {r : CV} (h : Pu rp f ps r) (ha : ig args = some ps) : KC rp rs base .pu f args d l dr ks e σ Q = ExR rp rs base l dr ks (sto d r e) σ Q := by
 unfold KC
 refine propext ⟨?_, fun hk => Df ha h hk⟩
 rintro ⟨n, v, σ', h1, hk⟩
 obtain ⟨m, u, h2, h3⟩ := h
 simp only [de, ha] at h1
 split at h1
 ·rename_i r' τ hr
  have := ow hr h2
  subst this
  simp only [h3, aH, Option.some.injEq, Prod.mk.injEq] at h1
  obtain ⟨rfl, rfl⟩ := h1
  exact hk
 ·cases h1
theorem kp0 {f : Nat} {r : CV} (h : Pu rp f [] r) : KC rp rs base .pu f [] d l dr ks e σ Q = ExR rp rs base l dr ks (sto d r e) σ Q := j1 h rfl
theorem kp1 {f : Nat} {a0 : PV} {r : CV} (h : Pu rp f [a0] r) : KC rp rs base .pu f [.p a0] d l dr ks e σ Q = ExR rp rs base l dr ks (sto d r e) σ Q := j1 h rfl
theorem kp2 {f : Nat} {a0 a1 : PV} {r : CV} (h : Pu rp f [a0, a1] r) : KC rp rs base .pu f [.p a0, .p a1] d l dr ks e σ Q = ExR rp rs base l dr ks (sto d r e) σ Q := j1 h rfl
theorem kp3 {f : Nat} {a0 a1 a2 : PV} {r : CV} (h : Pu rp f [a0, a1, a2] r) : KC rp rs base .pu f [.p a0, .p a1, .p a2] d l dr ks e σ Q = ExR rp rs base l dr ks (sto d r e) σ Q := j1 h rfl
theorem kx {f : Nat} {args : List CV} {ps : List PV} {r : CV} (h : Pu rp f ps r) (ha : eG σ args = some ps) : KC rp rs base .fz f args d l dr ks e σ Q = ExR rp rs base l dr ks (sto d r e) (eC σ args) Q := by
 unfold KC
 refine propext ⟨?_, fun hk => Dg ha h hk⟩
 rintro ⟨n, v, σ', h1, hk⟩
 obtain ⟨m, u, h2, h3⟩ := h
 simp only [de, ha] at h1
 split at h1
 ·rename_i r' τ hr
  have := ow hr h2
  subst this
  simp only [h3, aH, Option.some.injEq, Prod.mk.injEq] at h1
  obtain ⟨rfl, rfl⟩ := h1
  exact hk
 ·cases h1
end
section
variable {e : Env} {σ : ar}
theorem AR {n : Nat} : cW [.t n] e σ = some (gt e n) := rfl
theorem xC {n m : Nat} : cW [.t n, .t m] e σ = some (.tup [gt e n, gt e m]) := rfl
theorem u9 {n m k : Nat} : cW [.t n, .t m, .t k] e σ = some (.tup [gt e n, gt e m, gt e k]) := rfl
theorem AS : cW [] e σ = some (.tup []) := rfl
theorem p9 {k : IntKind} {n : Int} : PV.cells (.int k n) = [.int k n] := rfl
theorem o7 {b : Bool} : PV.cells (.bool b) = [.bool b] := rfl
theorem tj {es : List PV} : PV.cells (.sl es) = [.sl es] := rfl
theorem qa {cs : List PV} : PV.cells (.agg cs) = cs := rfl
theorem tk {v : PV} : CV.cells (.p v) = some (v.cells.map .p) := rfl
theorem pc {cs : List CV} : CV.cells (.agg cs) = some cs := rfl
theorem nI : CV.cells .nils = some [.nils] := rfl
theorem pa {b o n : Nat} : CV.cells (.own b o n) = some [.own b o n] := rfl
theorem o9 {b o n : Nat} : CV.cells (.ptr b o n) = some [.ptr b o n] := rfl
theorem qc {f : Nat} {c : List CV} : CV.cells (.fn f c) = some [.fn f c] := rfl
theorem uY {sz off : Nat} {x : PV} : fp false sz x off = x.cells[off]? := rfl
theorem pG {sz off : Nat} {cs : List PV} : fp true sz (.agg cs) off = if off + sz ≤ cs.length then some (.agg ((cs.drop off).take sz)) else none := rfl
theorem oS {v : PV} : dD σ (.p v) = some v := rfl
theorem nr {n : Nat} : dE n [] = true := rfl
theorem lU {n : Nat} {x : PV} {l : List PV} : dE n (x :: l) = (x.cells.length == n && dE n l) := rfl
theorem nP {k : IntKind} {n : Int} : CV.num (.p (.int k n)) = some n := rfl
theorem A7 {es : List PV} : jR (.p (.sl es)) = some es.length := rfl
theorem vq {b o n : Nat} : jR (.own b o n) = some n := rfl
theorem sQ : jR .nils = some 0 := rfl
theorem yR {es : List PV} : content σ (.p (.sl es)) = some es := rfl
theorem np : content σ .nils = some [] := rfl
theorem jb {b n s : Nat} {es : List PV} (h : σ[b]? = some (.prow s es)) (hn : n = es.length) : content σ (.own b 0 n) = some es := by
 subst hn
 simp [content, h]
theorem cP {l : ar} : (σ ++ l)[σ.length]? = l[0]? := by rw [aC (av _), eI]
theorem cY {l : ar} {k : Nat} : (σ ++ l)[σ.length + k]? = l[k]? := by rw [aC (Nat.le_add_right _ _), gE]
theorem aL {l : ar} {b : Nat} (h : b < σ.length) : (σ ++ l)[b]? = σ[b]? := aB h
theorem jz {l : ar} {x : Blk} : (σ ++ l).set σ.length x = σ ++ l.set 0 x := by rw [List.set_append_right _ _ (av _), eI]
theorem iB {l : ar} {k : Nat} {x : Blk} : (σ ++ l).set (σ.length + k) x = σ ++ l.set k x := by rw [List.set_append_right _ _ (Nat.le_add_right _ _), gE]
theorem cv {l : ar} {b : Nat} {x : Blk} (h : b < σ.length) : (σ ++ l).set b x = σ.set b x ++ l := List.set_append_left _ _ h
theorem bt {b : Nat} {x : Blk} (h : b < σ.length) : (σ.set b x)[b]? = some x := by rw [aO h]
theorem bC {b c : Nat} {x : Blk} (h : b ≠ c) : (σ.set b x)[c]? = σ[c]? := aE h
def Wf (σ : ar) : Prop := ∀ x ∈ σ, dO σ.length x = true
theorem wE {n m : Nat} (h : n ≤ m) {c : CV} (hc : gK n c = true) : gK m c = true := by
 cases c <;> simp only [gK, decide_eq_true_eq, aR] at hc ⊢ <;> try omega
 rename_i f cap
 rw [aU] at hc ⊢
 intro x hx
 have := hc x hx
 cases x <;> simp_all <;> omega
theorem tq {n m : Nat} (h : n ≤ m) {b : Blk} (hb : dO n b = true) : dO m b = true := by
 cases b <;> simp only [dO] at hb ⊢
 rw [aU] at hb ⊢
 exact fun x hx => wE h (hb x hx)
theorem Wf.nil : Wf [] := by intro x hx; cases hx
theorem Wf.push (h : Wf σ) {x : Blk} (hx : dO (σ.length + 1) x = true) : Wf (σ ++ [x]) := by
 intro y hy
 rw [bX]
 rcases aF.1 hy with hy | hy
 ·exact tq (Nat.le_add_right _ _) (h y hy)
 ·simp at hy; subst hy; exact hx
theorem Wf.set (h : Wf σ) {b : Nat} {x : Blk} (hx : dO σ.length x = true) : Wf (σ.set b x) := by
 intro y hy
 rw [ay]
 rcases List.mem_or_eq_of_mem_set hy with hy | rfl
 ·exact h y hy
 ·exact hx
theorem Wf.all (h : Wf σ) : σ.all (dO σ.length) = true := aU.2 h
theorem e9 {b n s : Nat} {es : List PV} (h : σ[b]? = some (.prow s es)) (hn : n = es.length) : dD σ (.own b 0 n) = some (.sl es) := by
 subst hn
 simp [dD, h]
end
end Go.Proofs.YtdieenbfdeaffabGreat.Vpi

