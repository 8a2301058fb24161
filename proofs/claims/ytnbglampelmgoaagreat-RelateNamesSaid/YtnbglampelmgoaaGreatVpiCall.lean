/- The verified interpreter, part 13: calls. -/
import Derived.Test.YtnbglampelmgoaaGreatVpiEv
namespace Go.Proofs.YtnbglampelmgoaaGreat.Vpi
open Go
set_option linter.unusedVariables false
set_option linter.unusedSimpArgs false

/-- what a function's body does, for the model -/
def CallSim (P : Program) (run : Caller) : Prop :=
  ∀ (f : Nat) (args : List CV) (σ : Store) (r : CV × Store), run f args σ = some r → ∀ (w : World) (G : Nat → Prop) (ρ : List Loc), St w G ρ σ → ∀ vs : List Value, args.length = vs.length →
    (∀ (k : Nat) c v, args[k]? = some c → vs[k]? = some v → RepC w G ρ c v) →
    okFn P f = true ∧ Calls P f vs.toArray w fun en w' => ∃ v G' ρ', en = .returned v ∧ St w' G' ρ' r.2 ∧ Ext w G ρ w' G' ρ' ∧ RepC w' G' ρ' r.1 v

section
variable {P : Program} {w : World} {G : Nat → Prop} {ρ : List Loc} {σ : Store} {run : Caller}

/-- a callee that got no reference leaves the caller's store alone -/
theorem outer_keep {w' : World} {G' : Nat → Prop} {ρc : List Loc} (hs : St w G ρ σ) (he : Ext w G [] w' G' ρc) (hg : ∀ k, G' k → k < w'.heap.size) : St w' G' ρ σ ∧ Ext w G ρ w' G' ρ := by
  have nolive : ∀ k, ¬ Live [] k := by rintro k ⟨i, o, t, s, h⟩; simp at h
  have hold : ∀ k, k < w.heap.size → w'.heap[k]? = w.heap[k]? := fun k hk => he.below k hk (nolive k)
  have hGsame : ∀ k, G k → w'.heap[k]? = w.heap[k]? := fun k hk => hold k (hs.g k hk)
  constructor
  · refine ⟨hg, hs.len, hs.inj, ?_⟩
    intro i l b hi hb
    refine (hs.ok i l b hi hb).mono hGsame he.grow (LocExt.refl _) ?_
    rintro k o t s rfl
    have hlt := hs.live_lt ⟨i, o, t, s, hi⟩
    refine ⟨hold k hlt, ?_⟩
    intro hn hg'
    rcases he.only k hg' with h | h | h
    · exact hn h
    · omega
    · exact nolive k h
  · refine ⟨he.wld, LocExt.refl _, he.heap, he.grow, ?_, ?_, fun _ h => .inl h⟩
    · intro k hk
      rcases he.only k hk with h | h | h
      · exact .inl h
      · exact .inr (.inl h)
      · exact (nolive k h).elim
    · exact fun k hk _ => hold k hk

theorem St.empty (hs : St w G ρ σ) : St w G [] [] := ⟨hs.g, rfl, by simp, by simp⟩

theorem isPure1_rep {c : CV} {x : PV} {v : Value} (h : isPure1 c = some x) (hr : RepC w G ρ c v) : RepP w G x v := by
  unfold isPure1 at h
  split at h
  · cases h; exact rep_p hr
  · cases h; rw [rep_nils hr]; exact .nil _ _
  · cases h

theorem pureL_rep : ∀ {cs : List CV} {xs : List PV} {vs : List Value}, pureL cs = some xs → cs.length = vs.length → (∀ (k : Nat) c v, cs[k]? = some c → vs[k]? = some v → RepC w G ρ c v) →
    xs.length = vs.length ∧ ∀ (k : Nat) x v, xs[k]? = some x → vs[k]? = some v → RepP w G x v
  | [], xs, vs, h, hl, _ => by simp [pureL] at h; subst h; exact ⟨hl, by simp⟩
  | c :: cs, xs, [], _, hl, _ => by simp at hl
  | c :: cs, xs, v :: vs, h, hl, hk => by
    simp only [pureL] at h
    split at h
    · rename_i x hx
      simp only [Option.map_eq_some_iff] at h
      obtain ⟨ys, hys, rfl⟩ := h
      obtain ⟨h1, h2⟩ := pureL_rep hys (by simpa using hl) (fun k c v hc hv => hk (k + 1) c v (by simpa using hc) (by simpa using hv))
      refine ⟨by simp [h1], ?_⟩
      intro k y u hy hu
      cases k with
      | zero => simp at hy hu; subst hy hu; exact isPure1_rep hx (hk 0 c _ rfl rfl)
      | succ k => exact h2 k y u (by simpa using hy) (by simpa using hu)
    · cases h

theorem toP_rep {c : CV} {x : PV} {v : Value} (h : toP c = some x) (hr : RepC w G ρ c v) : RepP w G x v := by
  cases c with
  | agg cs =>
    simp only [toP, Option.map_eq_some_iff] at h
    obtain ⟨xs, hxs, rfl⟩ := h
    obtain ⟨vs, rfl, hl, hk, h1⟩ := rep_agg hr
    obtain ⟨h2, h3⟩ := pureL_rep hxs hl hk
    exact .agg xs vs h2 h3 h1
  | _ => simp only [toP] at h; exact isPure1_rep h hr

theorem toPs_rep : ∀ {cs : List CV} {xs : List PV} {vs : List Value}, toPs cs = some xs → cs.length = vs.length → (∀ (k : Nat) c v, cs[k]? = some c → vs[k]? = some v → RepC w G ρ c v) →
    xs.length = vs.length ∧ ∀ (k : Nat) x v, xs[k]? = some x → vs[k]? = some v → RepP w G x v
  | [], xs, vs, h, hl, _ => by simp [toPs] at h; subst h; exact ⟨hl, by simp⟩
  | c :: cs, xs, [], _, hl, _ => by simp at hl
  | c :: cs, xs, v :: vs, h, hl, hk => by
    simp only [toPs] at h
    split at h
    · rename_i x hx
      simp only [Option.map_eq_some_iff] at h
      obtain ⟨ys, hys, rfl⟩ := h
      obtain ⟨h1, h2⟩ := toPs_rep hys (by simpa using hl) (fun k c v hc hv => hk (k + 1) c v (by simpa using hc) (by simpa using hv))
      refine ⟨by simp [h1], ?_⟩
      intro k y u hy hu
      cases k with
      | zero => simp at hy hu; subst hy hu; exact toP_rep hx (hk 0 c _ rfl rfl)
      | succ k => exact h2 k y u (by simpa using hy) (by simpa using hu)
    · cases h

theorem getTake {α : Type} {l : List α} {n i : Nat} : (l.take n)[i]? = if i < n then l[i]? else none := List.getElem?_take

/-- the store cut back to its first blocks -/
theorem below_rep {c : CV} {v : Value} {n : Nat} (h : below1 n c = true) (hr : RepC w G ρ c v) : RepC w G (ρ.take n) c v := by
  cases hr with
  | any v => exact .any v
  | p x v h => exact .p x v h
  | nils => exact .nils
  | own b off m a cap hc ho =>
    simp only [below1, decide_eq_true_eq] at h
    refine .own b off m a cap hc ?_
    simp only [OwnOk, getTake, if_pos h] at ho ⊢
    exact ho
  | ptr b i off a ho =>
    simp only [below1, decide_eq_true_eq] at h
    refine .ptr b i off a ?_
    simp only [PtrOk, getTake, if_pos h] at ho ⊢
    exact ho
  | rp => cases h
  | agg => cases h
  | tup => cases h
  | fn f cap vs hl hk =>
    refine .fn f cap vs hl ?_
    intro k c v hc hv
    have h1 := hk k c v hc hv
    simp only [below1, List.all_eq_true] at h
    have h2 := h c (List.mem_of_getElem? hc)
    cases h1 with
    | any v => exact .any v
    | p x v h => exact .p x v h
    | nils => exact .nils
    | own b off m a cap hcap ho =>
      simp only [decide_eq_true_eq] at h2
      refine .own b off m a cap hcap ?_
      simp only [OwnOk, getTake, if_pos h2] at ho ⊢
      exact ho
    | ptr b i off a ho =>
      simp only [decide_eq_true_eq] at h2
      refine .ptr b i off a ?_
      simp only [PtrOk, getTake, if_pos h2] at ho ⊢
      exact ho
    | rp => cases h2
    | agg => cases h2
    | tup => cases h2
    | fn => cases h2

theorem St.trunc {n : Nat} (hs : St w G ρ σ) (h : (σ.take n).all (blkBelow n) = true) : St w G (ρ.take n) (σ.take n) := by
  refine ⟨hs.g, by simp [hs.len], ?_, ?_⟩
  · intro i j k o t s o' t' s' hi hj
    rw [getTake] at hi hj
    split at hi
    · split at hj
      · exact hs.inj i j k o t s o' t' s' hi hj
      · cases hj
    · cases hi
  · intro i l b hi hb
    have hb0 := hb
    rw [getTake] at hi hb
    by_cases hin : i < n
    · rw [if_pos hin] at hi hb
      have hok := hs.ok i l b hi hb
      unfold BlkOk at hok ⊢
      split at hok
      · trivial
      · trivial
      · exact hok
      · exact hok
      · obtain ⟨h1, h2, arr, el, h3, h4, h5, h6⟩ := hok
        refine ⟨h1, h2, arr, el, h3, h4, h5, ?_⟩
        intro k c u hc hu
        have hbb := List.all_eq_true.1 h _ (List.mem_of_getElem? hb0)
        simp only [blkBelow, List.all_eq_true] at hbb
        exact ⟨below_rep (hbb c (List.mem_of_getElem? hc)) (h6 k c u hc hu).1, (h6 k c u hc hu).2⟩
      · exact hok.elim
    · rw [if_neg hin] at hi; cases hi

/-- what is handed back, one value: blocks from n on are read off (they are among those that may be read) -/
theorem back1_rep {c d : CV} {v : Value} {n : Nat} {G' : Nat → Prop} (hs : St w G ρ σ) (h : back1 n σ c = some d) (hr : RepC w G ρ c v) (hG : ∀ k, G k → G' k) (hO : ∀ b ∈ ownsOf c, n ≤ b → ∀ (blk o t s : Nat), ρ[b]? = some (.lv blk o t s) → G' blk) : RepC w G' (ρ.take n) d v := by
  have pure : ∀ {x : PV}, RepP w G' x v → RepC w G' (ρ.take n) (.p x) v := fun h => .p _ _ h
  unfold back1 at h
  split at h
  · cases h; exact .any _
  · rename_i b off m
    split at h
    · rename_i hlt
      cases h
      exact (below_rep (n := n) (by simpa [below1] using hlt) hr).mono (fun _ _ => rfl) hG (LocExt.refl _)
    · rename_i hge
      simp only [Option.map_eq_some_iff] at h
      obtain ⟨x, hx, rfl⟩ := h
      refine pure (frz1_rep hs hx hr hG ?_)
      intro b' hb' blk o t s hl
      simp only [own0, List.mem_singleton] at hb'
      subst hb'
      exact hO b' (by simp [ownsOf, own0]) (by omega) blk o t s hl
  · rename_i b i off
    split at h
    · rename_i hlt
      cases h
      exact (below_rep (n := n) (by simpa [below1] using hlt) hr).mono (fun _ _ => rfl) hG (LocExt.refl _)
    · cases h
  · rename_i cs
    split at h
    · rename_i hall
      simp only [Option.map_eq_some_iff] at h
      obtain ⟨x, hx, rfl⟩ := h
      refine pure (frz_rep hs hx hr hG ?_)
      intro b hb blk o t s hl
      refine hO b hb ?_ blk o t s hl
      simp only [ownsOf, List.mem_flatMap] at hb
      obtain ⟨c, hc, hbc⟩ := hb
      have := List.all_eq_true.1 hall c hc
      cases c with
      | own b' off m =>
        simp only [own0, List.mem_singleton] at hbc
        subst hbc
        simpa using this
      | _ => simp [own0] at hbc
    · cases h
  · rename_i h1 h2 h3 h4
    simp only [Option.map_eq_some_iff] at h
    obtain ⟨x, hx, rfl⟩ := h
    refine pure (frz_rep hs hx hr hG ?_)
    intro b hb blk o t s hl
    cases c with
    | agg cs => exact (h4 cs rfl).elim
    | own b' off m => exact (h2 b' off m rfl).elim
    | _ => simp [ownsOf, own0] at hb

def ownsAll : CV → List Nat
  | .tup vs => vs.flatMap ownsOf
  | c => ownsOf c

theorem back1_lt {c d : CV} {n : Nat} (hs : St w G ρ σ) {v : Value} (hr : RepC w G ρ c v) (h : back1 n σ c = some d) : ∀ b ∈ ownsOf c, b < σ.length := by
  cases c with
  | own b off m =>
    intro b' hb'
    simp only [ownsOf, own0, List.mem_singleton] at hb'
    subst hb'
    obtain ⟨ad, cap, _, _, hok⟩ := rep_own hr
    rw [← hs.len]
    unfold OwnOk at hok
    split at hok
    · rename_i hl; exact get_lt hl
    · rename_i hl; exact get_lt hl
    · rename_i hl; exact get_lt hl
    · exact hok.elim
  | agg cs =>
    simp only [back1] at h
    split at h
    · simp only [Option.map_eq_some_iff] at h
      obtain ⟨x, hx, rfl⟩ := h
      exact frz_lt hx
    · cases h
  | _ => intro b hb; simp [ownsOf, own0] at hb

theorem backL_spec {n : Nat} {G' : Nat → Prop} (hs : St w G ρ σ) (hG : ∀ k, G k → G' k) : ∀ {cs ds : List CV} {vs : List Value}, backL n σ cs = some ds → cs.length = vs.length → (∀ (k : Nat) c v, cs[k]? = some c → vs[k]? = some v → RepC w G ρ c v) →
    (∀ b ∈ cs.flatMap ownsOf, n ≤ b → ∀ (blk o t s : Nat), ρ[b]? = some (.lv blk o t s) → G' blk) →
    ds.length = vs.length ∧ ∀ (k : Nat) d v, ds[k]? = some d → vs[k]? = some v → RepC w G' (ρ.take n) d v
  | [], ds, vs, h, hl, _, _ => by simp [backL] at h; subst h; exact ⟨hl, by simp⟩
  | c :: cs, ds, [], _, hl, _, _ => by simp at hl
  | c :: cs, ds, v :: vs, h, hl, hk, hO => by
    simp only [backL] at h
    split at h
    · rename_i x hx
      simp only [Option.map_eq_some_iff] at h
      obtain ⟨ys, hys, rfl⟩ := h
      obtain ⟨h1, h2⟩ := backL_spec hs hG hys (by simpa using hl) (fun k c v hc hv => hk (k + 1) c v (by simpa using hc) (by simpa using hv)) (fun b hb => hO b (by simp only [List.flatMap_cons, List.mem_append]; exact .inr hb))
      refine ⟨by simp [h1], ?_⟩
      intro k y u hy hu
      cases k with
      | zero =>
        simp at hy hu; subst hy hu
        exact back1_rep hs hx (hk 0 c _ rfl rfl) hG (fun b hb => hO b (by simp only [List.flatMap_cons, List.mem_append]; exact .inl hb))
      | succ k => exact h2 k y u (by simpa using hy) (by simpa using hu)
    · cases h

theorem backL_lt {n : Nat} (hs : St w G ρ σ) : ∀ {cs ds : List CV} {vs : List Value}, backL n σ cs = some ds → cs.length = vs.length → (∀ (k : Nat) c v, cs[k]? = some c → vs[k]? = some v → RepC w G ρ c v) → ∀ b ∈ cs.flatMap ownsOf, b < σ.length
  | [], _, _, _, _, _ => by simp
  | c :: cs, ds, [], _, hl, _ => by simp at hl
  | c :: cs, ds, v :: vs, h, hl, hk => by
    simp only [backL] at h
    split at h
    · rename_i x hx
      simp only [Option.map_eq_some_iff] at h
      obtain ⟨ys, hys, rfl⟩ := h
      intro b hb
      simp only [List.flatMap_cons, List.mem_append] at hb
      rcases hb with hb | hb
      · exact back1_lt hs (hk 0 c _ rfl rfl) hx b hb
      · exact backL_lt hs hys (by simpa using hl) (fun k c v hc hv => hk (k + 1) c v (by simpa using hc) (by simpa using hv)) b hb
    · cases h

theorem dieAll_get : ∀ (bs : List Nat) (σ : Store) (i : Nat), i ∉ bs → (dieAll σ bs)[i]? = σ[i]?
  | [], σ, i, _ => rfl
  | b :: bs, σ, i, h => by
    show (dieAll (σ.set b .dead) bs)[i]? = _
    rw [dieAll_get bs _ i (fun x => h (by simp [x])), List.getElem?_set_ne (fun x => h (by simp [x]))]

theorem dieAll_take (bs : List Nat) (σ : Store) (n : Nat) (h : ∀ b ∈ bs, n ≤ b) : (dieAll σ bs).take n = σ.take n := by
  apply List.ext_getElem?
  intro i
  rw [getTake, getTake]
  split
  · rename_i hi
    exact dieAll_get bs σ i fun hm => by have := h i hm; omega
  · rfl

/-- a result handed back: the blocks from n on are given up -/
theorem back_sim {c d : CV} {v : Value} {n : Nat} (hs : St w G ρ σ) (h : back n σ c = some d) (hr : RepC w G ρ c v) (hb : (σ.take n).all (blkBelow n) = true) :
    ∃ G' ρ', St w G' ρ' (σ.take n) ∧ RepC w G' ρ' d v ∧ (∀ k, G k → G' k) ∧ (∀ k, G' k → G k ∨ Live ρ k) ∧ (∀ (i : Nat) l, i < n → ρ[i]? = some l → ρ'[i]? = some l ∨ ρ'[i]? = some .dead ∨ l = .hole) ∧ (∀ k, Live ρ' k → Live ρ k) := by
  have hlt : ∀ b ∈ ownsAll c, b < σ.length := by
    cases c with
    | tup cs =>
      simp only [back, Option.map_eq_some_iff] at h
      obtain ⟨ds, hds, rfl⟩ := h
      obtain ⟨vs, rfl, hl, hk⟩ := rep_tup hr
      exact backL_lt hs hds hl hk
    | _ => simp only [back] at h; simp only [ownsAll]; exact back1_lt hs hr h
  obtain ⟨G', ρ1, s1, e1, t1, d1⟩ := dieAll_st ((ownsAll c).filter (n ≤ ·)) G ρ σ hs (fun b hb => hlt b (List.mem_filter.1 hb).1)
  have htake : (dieAll σ ((ownsAll c).filter (n ≤ ·))).take n = σ.take n := dieAll_take _ _ _ fun b hb => by simpa using (List.mem_filter.1 hb).2
  have s2 := s1.trunc (n := n) (by rw [htake]; exact hb)
  rw [htake] at s2
  have hO : ∀ b ∈ ownsAll c, n ≤ b → ∀ (blk o t s : Nat), ρ[b]? = some (.lv blk o t s) → G' blk := by
    intro b hb hnb blk o t s hl
    rcases t1 b blk o t s hl with h1 | h1
    · rw [d1 b (List.mem_filter.2 ⟨hb, by simpa using hnb⟩)] at h1; cases h1
    · exact h1
  have hrep : RepC w G' (ρ.take n) d v := by
    cases c with
    | tup cs =>
      simp only [back, Option.map_eq_some_iff] at h
      obtain ⟨ds, hds, rfl⟩ := h
      obtain ⟨vs, rfl, hl, hk⟩ := rep_tup hr
      obtain ⟨h1, h2⟩ := backL_spec hs e1.grow hds hl hk hO
      exact .tup ds vs h1 h2
    | _ => simp only [back] at h; simp only [ownsAll] at hO; exact back1_rep hs h hr e1.grow hO
  have hloc : ∀ (i : Nat) l, i < n → ρ[i]? = some l → (ρ1.take n)[i]? = some l ∨ (ρ1.take n)[i]? = some .dead ∨ l = .hole := by
    intro i l hi hl
    rw [getTake, if_pos hi]
    exact e1.loc i l hl
  refine ⟨G', ρ1.take n, s2, ?_, e1.grow, ?_, hloc, ?_⟩
  · refine hrep.mono (fun _ _ => rfl) (fun _ x => x) ?_
    intro i l hl
    rw [getTake] at hl
    split at hl
    · rename_i hi; exact hloc i l hi hl
    · cases hl
  · intro k hk
    rcases e1.only k hk with h1 | h1 | h1
    · exact .inl h1
    · exact absurd (s1.g k hk) (by omega)
    · exact .inr h1
  · rintro k ⟨i, o, t, s, hi⟩
    rw [getTake] at hi
    split at hi
    · rcases e1.lives k ⟨i, o, t, s, hi⟩ with h1 | h1
      · exact h1
      · have := s1.live_lt ⟨i, o, t, s, hi⟩; omega
    · cases hi

theorem allP_rep : ∀ {cs : List CV} {ps : List PV}, allP cs = some ps → ∀ (k : Nat) c, cs[k]? = some c → ∃ p, c = .p p
  | [], ps, h, k, c, hc => by simp at hc
  | .p x :: cs, ps, h, k, c, hc => by
    simp only [allP, Option.map_eq_some_iff] at h
    obtain ⟨qs, hq, rfl⟩ := h
    cases k with
    | zero => simp at hc; exact ⟨x, hc.symm⟩
    | succ k => exact allP_rep hq k c (by simpa using hc)
  | .any :: cs, ps, h, k, c, hc => by simp [allP] at h
  | .nils :: cs, ps, h, k, c, hc => by simp [allP] at h
  | .own .. :: cs, ps, h, k, c, hc => by simp [allP] at h
  | .ptr .. :: cs, ps, h, k, c, hc => by simp [allP] at h
  | .rp .. :: cs, ps, h, k, c, hc => by simp [allP] at h
  | .agg .. :: cs, ps, h, k, c, hc => by simp [allP] at h
  | .tup .. :: cs, ps, h, k, c, hc => by simp [allP] at h
  | .fn .. :: cs, ps, h, k, c, hc => by simp [allP] at h

theorem cellArgs_rep {b : Nat} {l : Loc} (hl : ρ[b]? = some l) : ∀ {args as : List CV} {vs : List Value}, cellArgs b args = some as → args.length = vs.length →
    (∀ (k : Nat) c v, args[k]? = some c → vs[k]? = some v → RepC w G ρ c v) → as.length = vs.length ∧ ∀ (k : Nat) c v, as[k]? = some c → vs[k]? = some v → RepC w G [l] c v
  | [], as, vs, h, hlen, _ => by simp [cellArgs] at h; subst h; exact ⟨hlen, by simp⟩
  | c :: cs, as, [], _, hlen, _ => by simp at hlen
  | c :: cs, as, v :: vs, h, hlen, hk => by
    simp only [cellArgs] at h
    split at h
    · rename_i x hx
      simp only [Option.map_eq_some_iff] at h
      obtain ⟨ys, hys, rfl⟩ := h
      obtain ⟨h1, h2⟩ := cellArgs_rep hl hys (by simpa using hlen) (fun k c v a b => hk (k + 1) c v (by simpa using a) (by simpa using b))
      refine ⟨by simp [h1], fun k d u hd hu => ?_⟩
      cases k with
      | succ k => exact h2 k d u (by simpa using hd) (by simpa using hu)
      | zero =>
        simp at hd hu
        subst hd hu
        have hr := hk 0 c _ rfl rfl
        unfold cellArg at hx
        split at hx
        · cases hx
          exact .p _ _ (rep_p hr)
        · rename_i b' i o
          split at hx
          · rename_i hb
            cases hx
            subst hb
            cases hr with
            | ptr _ _ _ a ha =>
              refine .ptr _ _ _ _ ?_
              unfold PtrOk at ha ⊢
              rw [hl] at ha
              exact ha
          · cases hx
        · cases hx
    · cases h

/-- a callee that got one block of cells -/
theorem outer_cell {w' : World} {G' : Nat → Prop} {ρc : List Loc} {τ : Store} {b s : Nat} {l : Loc} {cs' : List CV} {ps : List PV} (hs : St w G ρ σ) (hl : ρ[b]? = some l) (hlv : ∃ k o t s, l = .lv k o t s) (he : Ext w G [l] w' G' ρc) (hc : St w' G' ρc τ)
    (hτ : τ[0]? = some (.kblk s cs')) (hp : allP cs' = some ps) : St w' G' ρ (σ.set b (.kblk s cs')) ∧ Ext w G ρ w' G' ρ := by
  obtain ⟨k0, o0, t0, s0, rfl⟩ := hlv
  have live : ∀ k, Live [Loc.lv k0 o0 t0 s0] k → k = k0 := by
    rintro k ⟨i, o, t, s, h⟩
    cases i with
    | zero => simp at h; exact h.1.symm
    | succ i => simp at h
  have hb0 : Live ρ k0 := ⟨b, o0, t0, s0, hl⟩
  have hbl : b < σ.length := by rw [← hs.len]; exact get_lt hl
  have hρ0 : ρc[0]? = some (.lv k0 o0 t0 s0) := by
    have hlen : 0 < ρc.length := by rw [hc.len]; exact get_lt hτ
    rcases he.loc 0 _ rfl with h | h | h
    · exact h
    · have := hc.ok 0 _ _ h hτ
      exact this.elim
    · cases h
  have hok := hc.ok 0 _ _ hρ0 hτ
  have hold : ∀ k, k < w.heap.size → k ≠ k0 → w'.heap[k]? = w.heap[k]? := fun k hk hne => he.below k hk fun h => hne (live k h)
  have hGsame : ∀ k, G k → w'.heap[k]? = w.heap[k]? := fun k hk => hold k (hs.g k hk) fun h => hs.notG hb0 (h ▸ hk)
  constructor
  · refine ⟨hc.g, by simp [hs.len], hs.inj, ?_⟩
    intro i l x hi hx
    by_cases hib : b = i
    · subst hib
      rw [hl] at hi
      cases hi
      rw [List.getElem?_set_self hbl] at hx
      cases hx
      obtain ⟨h1, h2, arr, el, h3, h4, h5, h6⟩ := hok
      refine ⟨h1, h2, arr, el, h3, h4, h5, fun k c u hk hu => ?_⟩
      obtain ⟨p, rfl⟩ := allP_rep hp k c hk
      obtain ⟨h7, h8⟩ := h6 k _ u hk hu
      exact ⟨.p _ _ (rep_p h7), h8⟩
    · rw [List.getElem?_set_ne hib] at hx
      refine (hs.ok i l x hi hx).mono hGsame he.grow (LocExt.refl _) ?_
      rintro k o t s rfl
      have hlt := hs.live_lt ⟨i, o, t, s, hi⟩
      have hne : k ≠ k0 := fun h => hib (hs.inj b i k0 o0 t0 s0 o t s hl (h ▸ hi))
      refine ⟨hold k hlt hne, ?_⟩
      intro hn hg'
      rcases he.only k hg' with h | h | h
      · exact hn h
      · omega
      · exact hne (live k h)
  · refine ⟨he.wld, LocExt.refl _, he.heap, he.grow, ?_, ?_, fun _ h => .inl h⟩
    · intro k hk
      rcases he.only k hk with h | h | h
      · exact .inl h
      · exact .inr (.inl h)
      · exact .inr (.inr (live k h ▸ hb0))
    · intro k hk hn
      exact hold k hk fun h => hn (h ▸ hb0)

theorem scal_rep {w2 : World} {G2 : Nat → Prop} {ρ2 : List Loc} {o : Option CV} {u : CV} {d : CV} {v : Value} (h : scal o = some u) (ho : o = some d) (hr : RepC w G ρ d v) : RepC w2 G2 ρ2 u v := by
  subst ho
  unfold scal at h
  split at h
  · rename_i k n hd
    cases h
    cases hd
    have hv : v = .int k n := by cases hr with | p x v h => cases h; rfl
    subst hv
    exact .p _ _ (.int _ _)
  · rename_i b hd
    cases h
    cases hd
    have := rep_bool hr
    subst this
    exact .p _ _ (.bool _)
  · cases h

/-- what a call does, for the model: by its kind -/
theorem sim_call {k : CK} {f : Nat} {args : List CV} {r : CV × Store} (hc : CallSim P run) (h : doCall run k f args σ = some r) (hs : St w G ρ σ) {vs : List Value} (hl : args.length = vs.length)
    (hk : ∀ (k : Nat) c v, args[k]? = some c → vs[k]? = some v → RepC w G ρ c v) :
    okFn P f = true ∧ Calls P f vs.toArray w fun en w' => ∃ v G' ρ', en = .returned v ∧ St w' G' ρ' r.2 ∧ Ext w G ρ w' G' ρ' ∧ RepC w' G' ρ' r.1 v := by
  -- a callee with pure arguments
  have pureCall : ∀ {ps : List PV} {G1 : Nat → Prop} {ρ1 : List Loc} {σ1 τ : Store} {c d : CV}, St w G1 ρ1 σ1 → Ext w G ρ w G1 ρ1 → (ps.length = vs.length) → (∀ (k : Nat) x v, ps[k]? = some x → vs[k]? = some v → RepP w G1 x v) → run f (ps.map .p) [] = some (c, τ) → back 0 τ c = some d → r = (d, σ1) →
      okFn P f = true ∧ Calls P f vs.toArray w fun en w' => ∃ v G' ρ', en = .returned v ∧ St w' G' ρ' r.2 ∧ Ext w G ρ w' G' ρ' ∧ RepC w' G' ρ' r.1 v := by
    intro ps G1 ρ1 σ1 τ c d s1 e1 hpl hpr hrun hback hr
    subst hr
    obtain ⟨h1, h2⟩ := hc f (ps.map .p) [] _ hrun w G1 [] s1.empty vs (by simp [hpl]) (by
      intro k c v hc hv
      simp only [List.getElem?_map, Option.map_eq_some_iff] at hc
      obtain ⟨x, hx, rfl⟩ := hc
      exact .p _ _ (hpr k x v hx hv))
    refine ⟨h1, h2.mono ?_⟩
    rintro en w' ⟨v, G', ρ', rfl, s2, e2, rep⟩
    obtain ⟨G2, ρ2, s3, rep3, g1, g2, g3, g4⟩ := back_sim (n := 0) s2 hback rep (by simp)
    have nolive : ∀ k, ¬ Live [] k := by rintro k ⟨i, o, t, s, h⟩; simp at h
    have e3 : Ext w G1 [] w' G2 [] := by
      refine ⟨e2.wld, LocExt.refl _, e2.heap, fun k hk => g1 k (e2.grow k hk), ?_, fun k hk _ => e2.below k hk (nolive k), fun k hk => .inl hk⟩
      intro k hk
      rcases g2 k hk with h | h
      · rcases e2.only k h with h | h | h
        · exact .inl h
        · exact .inr (.inl h)
        · exact (nolive k h).elim
      · rcases e2.lives k h with h | h
        · exact (nolive k h).elim
        · exact .inr (.inl h)
    obtain ⟨s4, e4⟩ := outer_keep s1 e3 s3.g
    refine ⟨v, G2, ρ1, rfl, s4, e1.trans e4, ?_⟩
    have hρ2 : ρ2 = [] := by have := s3.len; simpa using this
    subst hρ2
    exact rep3.mono (fun _ _ => rfl) (fun _ x => x) (fun i l h => by simp at h)
  unfold doCall at h
  split at h
  · split at h
    · rename_i ps hps
      split at h
      · rename_i c τ hrun
        simp only [Option.map_eq_some_iff] at h
        obtain ⟨d, hd, rfl⟩ := h
        obtain ⟨h1, h2⟩ := toPs_rep hps hl hk
        exact pureCall hs Ext.refl h1 h2 hrun hd rfl
      · cases h
    · cases h
  · split at h
    · rename_i ps hps
      split at h
      · rename_i c τ hrun
        simp only [Option.map_eq_some_iff] at h
        obtain ⟨d, hd, rfl⟩ := h
        obtain ⟨G1, ρ1, s1, e1, h1, h2⟩ := give_all hs hps hl hk
        exact pureCall s1 e1 h1 h2 hrun hd rfl
      · cases h
    · cases h
  · split at h
    · rename_i c τ hrun
      split at h
      · rename_i hbelow
        simp only [Option.map_eq_some_iff] at h
        obtain ⟨d, hd, rfl⟩ := h
        obtain ⟨h1, h2⟩ := hc f args σ _ hrun w G ρ hs vs hl hk
        refine ⟨h1, h2.mono ?_⟩
        rintro en w' ⟨v, G', ρ', rfl, s2, e2, rep⟩
        obtain ⟨G2, ρ2, s3, rep3, g1, g2, g3, g4⟩ := back_sim (n := σ.length) s2 hd rep hbelow
        refine ⟨v, G2, ρ2, rfl, s3, ?_, rep3⟩
        refine ⟨e2.wld, ?_, e2.heap, fun k hk => g1 k (e2.grow k hk), ?_, e2.below, fun k hk => e2.lives k (g4 k hk)⟩
        · intro i l hi
          have hin : i < σ.length := by rw [← hs.len]; exact get_lt hi
          rcases e2.loc i l hi with h | h | h
          · exact g3 i l hin h
          · rcases g3 i _ hin h with h | h | h
            · exact .inr (.inl h)
            · exact .inr (.inl h)
            · cases h
          · exact .inr (.inr h)
        · intro k hk
          rcases g2 k hk with h | h
          · exact e2.only k h
          · rcases e2.lives k h with h | h
            · exact .inr (.inr h)
            · exact .inr (.inl h)
      · cases h
    · cases h
  · exact hc f args σ r h w G ρ hs vs hl hk
  · split at h
    · rename_i ps hps
      split at h
      · rename_i c τ hrun
        simp only [Option.map_eq_some_iff] at h
        obtain ⟨u, hu, rfl⟩ := h
        obtain ⟨G1, ρ1, s1, e1, a1, a2⟩ := give_all hs hps hl hk
        obtain ⟨h1, h2⟩ := hc f (ps.map .p) [] _ hrun w G1 [] s1.empty vs (by simp [a1]) (by
          intro k c v hc hv
          simp only [List.getElem?_map, Option.map_eq_some_iff] at hc
          obtain ⟨x, hx, rfl⟩ := hc
          exact .p _ _ (a2 k x v hx hv))
        refine ⟨h1, h2.mono ?_⟩
        rintro en w' ⟨v, G', ρ', rfl, s2, e2, rep⟩
        obtain ⟨d, hd⟩ : ∃ d, back 0 τ c = some d := by
          cases hb : back 0 τ c with
          | none => rw [hb] at hu; cases hu
          | some d => exact ⟨d, rfl⟩
        obtain ⟨G2, ρ2, s3, rep3, g1, g2, g3, g4⟩ := back_sim (n := 0) s2 hd rep (by simp)
        have nolive : ∀ k, ¬ Live [] k := by rintro k ⟨i, o, t, s, h⟩; simp at h
        have hold : ∀ k, k < w.heap.size → w'.heap[k]? = w.heap[k]? := fun k hk => e2.below k hk (nolive k)
        refine ⟨v, G, ρ, rfl, ⟨fun k hk => Nat.lt_of_lt_of_le (hs.g k hk) e2.heap, hs.len, hs.inj, ?_⟩, ⟨e2.wld, LocExt.refl _, e2.heap, fun _ x => x, fun _ x => .inl x, fun k hk _ => hold k hk, fun _ x => .inl x⟩, scal_rep hu hd rep3⟩
        intro i l b hi hb
        refine (hs.ok i l b hi hb).mono (fun k hk => hold k (hs.g k hk)) (fun _ x => x) (LocExt.refl _) ?_
        rintro k o t s rfl
        exact ⟨hold k (hs.live_lt ⟨i, o, t, s, hi⟩), id⟩
      · cases h
    · cases h
  · split at h
    · split at h
      · rename_i ps hps
        split at h
        · rename_i c τ hrun
          simp only [Option.map_eq_some_iff] at h
          obtain ⟨d, hd, rfl⟩ := h
          obtain ⟨h1, h2⟩ := toPs_rep hps hl hk
          exact pureCall hs Ext.refl h1 h2 hrun hd rfl
        · cases h
      · cases h
    · rename_i b hb
      split at h
      · rename_i s cs hσ
        split at h
        · rename_i as q has hcs
          split at h
          · rename_i v' τ hrun
            split at h
            · rename_i s' cs' hτ
              split at h
              · rename_i hcond
                cases h
                have hbl : b < ρ.length := by rw [hs.len]; exact get_lt hσ
                have hl0 : ρ[b]? = some ρ[b] := List.getElem?_eq_getElem hbl
                have hok := hs.ok b _ _ hl0 hσ
                have hlv : ∃ k o t s, ρ[b] = .lv k o t s := by
                  generalize ρ[b] = l at hok
                  cases l with
                  | lv k o t s => exact ⟨k, o, t, s, rfl⟩
                  | _ => exact hok.elim
                obtain ⟨a1, a2⟩ := cellArgs_rep hl0 has hl hk
                have hsub : St w G [ρ[b]] [.kblk s cs] := by
                  refine ⟨hs.g, rfl, ?_, ?_⟩
                  · intro i j k o t s o' t' s' h1 h2
                    have e1 := get_lt h1
                    have e2 := get_lt h2
                    simp at e1 e2
                    omega
                  · intro i l x h1 h2
                    have e1 := get_lt h1
                    simp at e1
                    subst e1
                    simp at h1 h2
                    subst h1 h2
                    generalize ρ[b] = l at hok
                    cases l with
                    | lv k o t s =>
                      obtain ⟨h1, h2, arr, el, h3, h4, h5, h6⟩ := hok
                      refine ⟨h1, h2, arr, el, h3, h4, h5, fun k c u hk hu => ?_⟩
                      obtain ⟨p, rfl⟩ := allP_rep hcs k c hk
                      obtain ⟨h7, h8⟩ := h6 k _ u hk hu
                      exact ⟨.p _ _ (rep_p h7), h8⟩
                    | _ => exact hok.elim
                obtain ⟨h1, h2⟩ := hc f as _ _ hrun w G _ hsub vs a1 a2
                refine ⟨h1, h2.mono ?_⟩
                rintro en w' ⟨v, G', ρ', rfl, s2, e2, rep⟩
                obtain ⟨ps, hps⟩ := Option.isSome_iff_exists.1 hcond.2
                obtain ⟨s3, e3⟩ := outer_cell hs hl0 hlv e2 s2 hτ hps
                exact ⟨v, G', ρ, rfl, s3, e3, .p _ _ (rep_p rep)⟩
              · cases h
            · cases h
          · cases h
        · cases h
      · cases h
    · cases h

end
end Go.Proofs.YtnbglampelmgoaaGreat.Vpi
