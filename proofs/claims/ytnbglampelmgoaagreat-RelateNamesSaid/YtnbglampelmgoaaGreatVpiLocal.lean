/- The verified interpreter, part 15: what an operation reads and writes, and that it depends on nothing else. -/
import Derived.Test.YtnbglampelmgoaaGreatVpiReg
namespace Go.Proofs.YtnbglampelmgoaaGreat.Vpi
open Go
set_option linter.unusedVariables false
set_option linter.unusedSimpArgs false

/-- 0: nothing of the store; 1: a new block only; 2: reads; 3: writes; 4: all -/
def cls : ROp → Nat
  | .alloc .. | .box .. | .mks .. => 1
  | .load .. | .slice .. | .indexA .. => 2
  | .store .. | .bslice .. | .append .. | .copy .. => 3
  | .call .fz _ _ | .callv .fz _ _ => 3
  | .call .cell _ _ => 3
  | .call .peek _ _ => 2
  | .call .pu _ _ | .callv .pu _ _ => 0
  | .call .. | .callv .. => 4
  | _ => 0

def pushes : ROp → Bool
  | .alloc .. | .box .. | .mks .. | .bslice .. | .append .. => true
  | _ => false

/-- the place of a new block -/
def slotAt (base : Nat) (sl : Option Nat) (op : ROp) : Option Nat := if pushes op = true then sl.map (base + ·) else none

def Local (f : Store → Option (CV × Store)) (F : Foot) (s : Option Nat) : Prop :=
  ∀ (σ : Store) (v : CV) (σ1 : Store), f σ = some (v, σ1) →
    σ1.length = σ.length ∧
    (∀ b : Nat, b ∉ F.wr → s ≠ some b → σ1[b]? = σ[b]?) ∧
    (∀ b : Nat, σ1[b]? = some Blk.hole → σ[b]? = some Blk.hole) ∧
    (∀ b : Nat, b ∉ F.kl → s ≠ some b → bsz σ1 b = bsz σ b) ∧
    (∀ b : Nat, s = some b → σ[b]? = some Blk.hole ∧ σ1[b]? ≠ some Blk.hole) ∧
    ∀ σ' : Store, σ'.length = σ.length → (∀ b : Nat, s = some b → σ'[b]? = some Blk.hole) → (∀ b ∈ F.rd, σ[b]? = some Blk.hole ∨ σ'[b]? = σ[b]?) → (∀ b ∈ F.sz, σ[b]? = some Blk.hole ∨ bsz σ' b = bsz σ b) →
      ∃ σ1' : Store, f σ' = some (v, σ1') ∧ σ1'.length = σ'.length ∧ ∀ b : Nat, σ1'[b]? = σ1[b]? ∨ (σ1[b]? = σ[b]? ∧ σ1'[b]? = σ'[b]?)

def wrs (ws : List (Nat × Blk)) (σ : Store) : Store := ws.foldl (fun σ w => σ.set w.1 w.2) σ

theorem wrs_length : ∀ (ws : List (Nat × Blk)) (σ : Store), (wrs ws σ).length = σ.length
  | [], _ => rfl
  | w :: ws, σ => by
    show (wrs ws (σ.set w.1 w.2)).length = _
    rw [wrs_length ws]; simp

theorem wrs_append (a b : List (Nat × Blk)) (σ : Store) : wrs (a ++ b) σ = wrs b (wrs a σ) := by simp [wrs, List.foldl_append]

theorem wrs_die : ∀ (bs : List Nat) (σ : Store), dieAll σ bs = wrs (bs.map fun b => (b, Blk.dead)) σ
  | [], _ => rfl
  | b :: bs, σ => by
    show dieAll (σ.set b .dead) bs = wrs (bs.map fun b => (b, Blk.dead)) (σ.set b .dead)
    exact wrs_die bs _

theorem dieAll_get' : ∀ (bs : List Nat) (σ : Store) (i : Nat), i ∈ bs → (dieAll σ bs)[i]? = if i < σ.length then some .dead else none
  | b :: bs, σ, i, h => by
    show (dieAll (σ.set b .dead) bs)[i]? = _
    by_cases hi : i ∈ bs
    · rw [dieAll_get' bs _ i hi]; simp
    · rw [dieAll_get bs _ i hi]
      have : i = b := by simpa [hi] using h
      subst this
      rw [List.getElem?_set_self']
      by_cases hl : i < σ.length
      · simp [hl]
      · simp [hl]

theorem wrs_get : ∀ (ws : List (Nat × Blk)) (b : Nat), (∀ σ : Store, (wrs ws σ)[b]? = σ[b]?) ∧ (∀ x, (b, x) ∉ ws) ∨ ∃ x, (b, x) ∈ ws ∧ ∀ σ : Store, (wrs ws σ)[b]? = if b < σ.length then some x else none
  | [], b => .inl ⟨fun _ => rfl, by simp⟩
  | (k, y) :: ws, b => by
    rcases wrs_get ws b with ⟨h1, h2⟩ | ⟨x, h1, h2⟩
    · by_cases hkb : k = b
      · subst hkb
        refine .inr ⟨y, by simp, fun σ => ?_⟩
        show (wrs ws (σ.set k y))[k]? = _
        rw [h1, List.getElem?_set_self']
        by_cases hl : k < σ.length
        · simp [hl]
        · simp [hl]
      · refine .inl ⟨fun σ => ?_, fun x hx => ?_⟩
        · show (wrs ws (σ.set k y))[b]? = _
          rw [h1, List.getElem?_set_ne hkb]
        · rcases List.mem_cons.1 hx with hx | hx
          · cases hx; exact hkb rfl
          · exact h2 x hx
    · refine .inr ⟨x, by simp [h1], fun σ => ?_⟩
      show (wrs ws (σ.set k y))[b]? = _
      rw [h2]; simp

def blkSz : Blk → Option Nat
  | .prow s _ => some s
  | .kblk s _ => some s
  | _ => none

theorem bsz_eq (σ : Store) (b : Nat) : bsz σ b = (σ[b]?).bind blkSz := by
  unfold bsz
  cases σ[b]? with
  | none => rfl
  | some x => cases x <;> rfl

theorem bsz_congr {σ σ' : Store} {b : Nat} (h : σ'[b]? = σ[b]?) : bsz σ' b = bsz σ b := by rw [bsz_eq, bsz_eq, h]

/-- an operation given by what it writes -/
theorem Local.gen {f : Store → Option (CV × Store)} {F : Foot} {s : Option Nat}
    (h : ∀ (σ : Store) (v : CV) (σ1 : Store), f σ = some (v, σ1) → ∃ ws : List (Nat × Blk), σ1 = wrs ws σ ∧
      (∀ b x, (b, x) ∈ ws → x ≠ Blk.hole ∧ (b ∈ F.kl ∧ b ∈ F.wr ∨ s = some b ∨ b ∈ F.wr ∧ blkSz x = bsz σ b)) ∧
      (∀ b : Nat, s = some b → σ[b]? = some Blk.hole ∧ ∃ x, (b, x) ∈ ws) ∧
      ∀ σ' : Store, σ'.length = σ.length → (∀ b : Nat, s = some b → σ'[b]? = some Blk.hole) → (∀ b ∈ F.rd, σ[b]? = some Blk.hole ∨ σ'[b]? = σ[b]?) → (∀ b ∈ F.sz, σ[b]? = some Blk.hole ∨ bsz σ' b = bsz σ b) →
        f σ' = some (v, wrs ws σ')) : Local f F s := by
  intro σ v σ1 hf
  obtain ⟨ws, rfl, h1, h2, h3⟩ := h σ v σ1 hf
  refine ⟨wrs_length _ _, ?_, ?_, ?_, ?_, ?_⟩
  · intro b hb hs
    rcases wrs_get ws b with ⟨g1, _⟩ | ⟨x, g1, _⟩
    · exact g1 σ
    · rcases (h1 b x g1).2 with h | h | h
      · exact absurd h.2 hb
      · exact absurd h hs
      · exact absurd h.1 hb
  · intro b hb
    rcases wrs_get ws b with ⟨g1, _⟩ | ⟨x, g1, g2⟩
    · rw [g1] at hb; exact hb
    · rw [g2] at hb
      split at hb
      · cases hb; exact absurd rfl (h1 b _ g1).1
      · cases hb
  · intro b hb hs
    rcases wrs_get ws b with ⟨g1, _⟩ | ⟨x, g1, g2⟩
    · exact bsz_congr (g1 σ)
    · rcases (h1 b x g1).2 with h | h | h
      · exact absurd h.1 hb
      · exact absurd h hs
      · rw [bsz_eq, g2, ← h.2]
        split
        · rfl
        · rename_i hl
          rw [h.2, bsz_eq, List.getElem?_eq_none (by omega)]
  · intro b hs
    obtain ⟨g1, x, g2⟩ := h2 b hs
    refine ⟨g1, ?_⟩
    rcases wrs_get ws b with ⟨_, g3⟩ | ⟨y, g3, g4⟩
    · exact absurd g2 (g3 x)
    · rw [g4]
      split
      · intro hh; cases hh; exact (h1 b _ g3).1 rfl
      · intro hh; cases hh
  · intro σ' hl hs hr hz
    refine ⟨_, h3 σ' hl hs hr hz, wrs_length _ _, ?_⟩
    intro b
    rcases wrs_get ws b with ⟨g1, _⟩ | ⟨x, g1, g2⟩
    · exact .inr ⟨g1 σ, g1 σ'⟩
    · exact .inl (by rw [g2, g2, hl])

theorem Local.pure {f : Store → Option (CV × Store)} {F : Foot} {c : Option CV} (h : ∀ σ, f σ = c.map fun v => (v, σ)) : Local f F none := by
  refine Local.gen fun σ v σ1 hf => ?_
  rw [h, Option.map_eq_some_iff] at hf
  obtain ⟨u, hu, he⟩ := hf
  cases he
  exact ⟨[], rfl, by simp, by simp, fun σ' _ _ _ _ => by rw [h, hu]; rfl⟩

theorem Local.pure' {f : Store → Option (CV × Store)} {F : Foot} (h : ∀ (σ : Store) (v : CV) (σ1 : Store), f σ = some (v, σ1) → σ1 = σ ∧ ∀ σ', f σ' = some (v, σ')) : Local f F none := by
  refine Local.gen fun σ v σ1 hf => ?_
  obtain ⟨rfl, h2⟩ := h σ v σ1 hf
  exact ⟨[], rfl, by simp, by simp, fun σ' _ _ _ _ => h2 σ'⟩

/-- reads only -/
theorem Local.read {f : Store → Option (CV × Store)} {F : Foot} {g : Store → Option CV} (h : ∀ σ, f σ = (g σ).map fun v => (v, σ))
    (hg : ∀ (σ : Store) v, g σ = some v → ∀ σ' : Store, (∀ b ∈ F.rd, σ[b]? = some Blk.hole ∨ σ'[b]? = σ[b]?) → (∀ b ∈ F.sz, σ[b]? = some Blk.hole ∨ bsz σ' b = bsz σ b) → g σ' = some v) : Local f F none := by
  refine Local.gen fun σ v σ1 hf => ?_
  rw [h, Option.map_eq_some_iff] at hf
  obtain ⟨u, hu, he⟩ := hf
  cases he
  exact ⟨[], rfl, by simp, by simp, fun σ' _ _ hr hz => by rw [h, hg _ _ hu σ' hr hz]; rfl⟩

/-! ### what is read -/

theorem frz1_congr {σ σ' : Store} {c : CV} {x : PV} (h : frz1 σ c = some x) (hr : ∀ b ∈ own0 c, σ[b]? = some Blk.hole ∨ σ'[b]? = σ[b]?) : frz1 σ' c = some x := by
  cases c with
  | own b off n =>
    simp only [frz1] at h ⊢
    rcases hr b (by simp [own0]) with h1 | h1
    · rw [h1] at h; cases h
    · rw [h1]; exact h
  | _ => exact h

theorem frzL_congr {σ σ' : Store} : ∀ {l : List CV} {xs : List PV}, frzL σ l = some xs → (∀ b ∈ l.flatMap own0, σ[b]? = some Blk.hole ∨ σ'[b]? = σ[b]?) → frzL σ' l = some xs
  | [], _, h, _ => h
  | v :: l, xs, h, hr => by
    simp only [frzL] at h ⊢
    split at h
    · rename_i x hx
      rw [Option.map_eq_some_iff] at h
      obtain ⟨ys, hy, rfl⟩ := h
      rw [frz1_congr hx (fun b hb => hr b (by rw [List.flatMap_cons]; exact List.mem_append.2 (.inl hb)))]
      simp only []
      rw [frzL_congr hy (fun b hb => hr b (by rw [List.flatMap_cons]; exact List.mem_append.2 (.inr hb)))]
      rfl
    · cases h

theorem frz_congr {σ σ' : Store} {c : CV} {x : PV} (h : frz σ c = some x) (hr : ∀ b ∈ ownsOf c, σ[b]? = some Blk.hole ∨ σ'[b]? = σ[b]?) : frz σ' c = some x := by
  cases c with
  | agg cs =>
    simp only [frz] at h ⊢
    rw [Option.map_eq_some_iff] at h
    obtain ⟨ys, hy, rfl⟩ := h
    rw [frzL_congr hy hr]; rfl
  | _ => simp only [frz] at h ⊢; exact frz1_congr h (by simpa only [ownsOf] using hr)

theorem frzs_congr {σ σ' : Store} : ∀ {l : List CV} {xs : List PV}, frzs σ l = some xs → (∀ b ∈ l.flatMap ownsOf, σ[b]? = some Blk.hole ∨ σ'[b]? = σ[b]?) → frzs σ' l = some xs
  | [], _, h, _ => h
  | v :: l, xs, h, hr => by
    simp only [frzs] at h ⊢
    split at h
    · rename_i x hx
      rw [Option.map_eq_some_iff] at h
      obtain ⟨ys, hy, rfl⟩ := h
      rw [frz_congr hx (fun b hb => hr b (by rw [List.flatMap_cons]; exact List.mem_append.2 (.inl hb)))]
      simp only []
      rw [frzs_congr hy (fun b hb => hr b (by rw [List.flatMap_cons]; exact List.mem_append.2 (.inr hb)))]
      rfl
    · cases h

theorem content_congr {σ σ' : Store} {c : CV} {x : List PV} (h : content σ c = some x) (hr : ∀ b ∈ ownsOf c, σ[b]? = some Blk.hole ∨ σ'[b]? = σ[b]?) : content σ' c = some x := by
  cases c with
  | own b off n =>
    simp only [content] at h ⊢
    rcases hr b (by simp [ownsOf, own0]) with h1 | h1
    · rw [h1] at h; cases h
    · rw [h1]; exact h
  | p v => cases v <;> exact h
  | _ => exact h

theorem bsz_hole {σ : Store} {b : Nat} (h : σ[b]? = some Blk.hole) : bsz σ b = none := by rw [bsz_eq, h]; rfl

theorem sliceV_congr {σ σ' : Store} {sz : Nat} {x : CV} {l h : Nat} {v : CV} (hv : sliceV σ sz x l h = some v) (hz : ∀ b ∈ ownsOf x, σ[b]? = some Blk.hole ∨ bsz σ' b = bsz σ b) : sliceV σ' sz x l h = some v := by
  cases x with
  | own b off n =>
    simp only [sliceV] at hv ⊢
    rcases hz b (by simp [ownsOf, own0]) with h1 | h1
    · rw [bsz_hole h1] at hv; simp at hv
    · rw [h1]; exact hv
  | p v => cases v <;> exact hv
  | _ => exact hv

/-! ### the operations -/

section
variable {run : Caller} {base : Nat} {sl : Option Nat} {e : Env}

theorem push_some {j k : Nat} {σ σ' : Store} {b : Blk} (h : push base (some j) σ b = some (k, σ')) : k = base + j ∧ σ[base + j]? = some Blk.hole ∧ σ' = σ.set (base + j) b := by
  unfold push at h
  simp only [] at h
  split at h
  · rename_i hh; simp only [Option.some.injEq, Prod.mk.injEq] at h; exact ⟨h.1.symm, hh, h.2.symm⟩
  · cases h

theorem push_hole {j : Nat} {σ : Store} {b : Blk} (h : σ[base + j]? = some Blk.hole) : push base (some j) σ b = some (base + j, σ.set (base + j) b) := by
  unfold push; simp only [h]

/-- a new block, after some have died -/
theorem Local.push {F : Foot} {j : Nat} {f : Store → Option (CV × Store)} {bs : List Nat}
    (h : ∀ (σ : Store) (v : CV) (σ1 : Store), f σ = some (v, σ1) → ∃ (x : Blk) (c : Nat → CV), x ≠ Blk.hole ∧ (Vpi.push base (some j) (dieAll σ bs) x).map (fun (k, σ) => (c k, σ)) = some (v, σ1) ∧
      ∀ σ' : Store, (∀ b ∈ F.rd, σ[b]? = some Blk.hole ∨ σ'[b]? = σ[b]?) → f σ' = (Vpi.push base (some j) (dieAll σ' bs) x).map (fun (k, σ) => (c k, σ)))
    (hb : ∀ b ∈ bs, b ∈ F.kl ∧ b ∈ F.wr) : Local f F (some (base + j)) := by
  refine Local.gen fun σ v σ1 hf => ?_
  obtain ⟨x, c, hx, hp, hc⟩ := h σ v σ1 hf
  rw [Option.map_eq_some_iff] at hp
  obtain ⟨⟨k, τ⟩, hp, he⟩ := hp
  cases he
  obtain ⟨rfl, hh, rfl⟩ := push_some hp
  have hnb : base + j ∉ bs := by
    intro hm
    rw [dieAll_get' _ _ _ hm] at hh
    split at hh <;> cases hh
  refine ⟨bs.map (fun b => (b, Blk.dead)) ++ [(base + j, x)], by rw [wrs_append, ← wrs_die]; rfl, ?_, ?_, ?_⟩
  · intro b y hm
    rcases List.mem_append.1 hm with hm | hm
    · obtain ⟨b', hb', he⟩ := List.mem_map.1 hm
      cases he
      exact ⟨by simp, .inl (hb _ hb')⟩
    · have := List.mem_singleton.1 hm
      cases this
      exact ⟨hx, .inr (.inl rfl)⟩
  · intro b he
    cases he
    exact ⟨by rw [← dieAll_get bs σ _ hnb]; exact hh, x, by simp⟩
  · intro σ' hl hs hr _
    rw [hc σ' hr, push_hole (by rw [dieAll_get _ _ _ hnb]; exact hs _ rfl), wrs_append, ← wrs_die]
    rfl

theorem Local.push0 {F : Foot} {j : Nat} {f : Store → Option (CV × Store)} (x : Option Blk) (c : Nat → CV) (hx : ∀ y, x = some y → y ≠ Blk.hole)
    (h : ∀ σ : Store, f σ = x.bind fun x => (Vpi.push base (some j) σ x).map (fun (k, σ) => (c k, σ))) : Local f F (some (base + j)) := by
  refine Local.push (bs := []) (fun σ v σ1 hf => ?_) (by simp)
  rw [h] at hf
  cases hxx : x with
  | none => rw [hxx] at hf; cases hf
  | some y =>
    rw [hxx] at hf
    refine ⟨y, c, hx y hxx, hf, fun σ' _ => ?_⟩
    rw [h, hxx]; rfl

theorem local_pu {F : Foot} {f : Nat} {args : List CV} : Local (fun σ => doCall run .pu f args σ) F none := by
  refine Local.pure (c := match toPs args with | some ps => (match run f (ps.map .p) [] with | some (r, τ) => back 0 τ r | none => none) | none => none) fun σ => ?_
  simp only [doCall]
  cases toPs args with
  | none => rfl
  | some ps =>
    simp only []
    cases run f (ps.map .p) [] with
    | none => rfl
    | some q =>
      obtain ⟨r, τ⟩ := q
      simp only []

theorem local_fz {F : Foot} {f : Nat} {args : List CV} (h1 : F.rd = args.flatMap ownsOf) (h2 : F.wr = args.flatMap ownsOf) (h3 : F.kl = args.flatMap ownsOf) : Local (fun σ => doCall run .fz f args σ) F none := by
  refine Local.gen fun σ v σ1 hf => ?_
  simp only [doCall] at hf
  split at hf
  · rename_i ps hps
    split at hf
    · rename_i r τ hrun
      rw [Option.map_eq_some_iff] at hf
      obtain ⟨u, hu, he⟩ := hf
      cases he
      refine ⟨(args.flatMap ownsOf).map (fun b => (b, Blk.dead)), by rw [← wrs_die, kills_eq], ?_, (by intro b hb; cases hb), ?_⟩
      · intro b y hm
        obtain ⟨b', hb', he⟩ := List.mem_map.1 hm
        cases he
        exact ⟨by simp, .inl ⟨by rw [h3]; exact hb', by rw [h2]; exact hb'⟩⟩
      · intro σ' _ _ hr _
        rw [h1] at hr
        simp only [doCall, frzs_congr hps hr, hrun, hu]
        rw [← wrs_die, kills_eq]
        first | done | rfl
    · cases hf
  · cases hf

theorem local_cell {F : Foot} {f : Nat} {args : List CV} (h1 : F.rd = args.flatMap addrs) (h2 : F.wr = args.flatMap addrs) : Local (fun σ => doCall run .cell f args σ) F none := by
  refine Local.gen fun σ v σ1 hf => ?_
  simp only [doCall] at hf
  split at hf
  · rename_i hn
    split at hf
    · rename_i ps hps
      split at hf
      · rename_i r τ hrun
        rw [Option.map_eq_some_iff] at hf
        obtain ⟨u, hu, he⟩ := hf
        cases he
        refine ⟨[], rfl, (by intro b y hm; cases hm), (by intro b hb; cases hb), ?_⟩
        intro σ' _ _ hr _
        simp only [doCall, hn, hps, hrun, hu]
        rfl
      · cases hf
    · cases hf
  · rename_i b hb
    split at hf
    · rename_i s cs hσ
      split at hf
      · rename_i as q has hcs
        split at hf
        · rename_i v' τ hrun
          split at hf
          · rename_i s' cs' hτ
            split at hf
            · rename_i hcond
              cases hf
              refine ⟨[(b, .kblk s' cs')], rfl, ?_, (by intro b hb; cases hb), ?_⟩
              · intro b' y hm
                have := List.mem_singleton.1 hm
                cases this
                refine ⟨by simp, .inr (.inr ⟨by rw [h2, hb]; simp, ?_⟩)⟩
                rw [bsz_eq, hσ, hcond.1]; rfl
              · intro σ' hl _ hr _
                have hr1 : σ'[b]? = σ[b]? := by
                  rcases hr b (by rw [h1, hb]; simp) with h | h
                  · rw [h] at hσ; cases hσ
                  · exact h
                simp only [doCall, hb, hr1, hσ, has, hcs, hrun, hτ]
                rw [if_pos hcond]
                rfl
            · cases hf
          · cases hf
        · cases hf
      · cases hf
    · cases hf
  · cases hf

theorem local_peek {F : Foot} {f : Nat} {args : List CV} (h1 : F.rd = args.flatMap ownsOf) : Local (fun σ => doCall run .peek f args σ) F none := by
  refine Local.gen fun σ v σ1 hf => ?_
  simp only [doCall] at hf
  split at hf
  · rename_i ps hps
    split at hf
    · rename_i r τ hrun
      rw [Option.map_eq_some_iff] at hf
      obtain ⟨u, hu, he⟩ := hf
      cases he
      refine ⟨[], rfl, (by intro b y hm; cases hm), (by intro b hb; cases hb), ?_⟩
      intro σ' _ _ hr _
      rw [h1] at hr
      simp only [doCall, frzs_congr hps hr, hrun, hu]
      rfl
    · cases hf
  · cases hf

theorem local_ev1 {op : ROp} (hc : cls op ≠ 4) (hp : pushes op = true → sl.isSome = true) : Local (fun σ => ev1 run base sl op e σ) (foot e op) (slotAt base sl op) := by
  have slot : ∀ {j : Nat}, pushes op = true → sl = some j → slotAt base sl op = some (base + j) := by
    intro j h1 h2; simp [slotAt, h1, h2]
  have noslot : pushes op = false → slotAt base sl op = none := by intro h1; simp [slotAt, h1]
  cases op with
  | mv x => rw [noslot rfl]; exact Local.pure (c := some (vl e x)) fun σ => rfl
  | pick c a b =>
    rw [noslot rfl]
    refine Local.pure (c := match vl e c with | .p (.bool t) => some (if t = true then vl e a else vl e b) | _ => none) fun σ => ?_
    simp only [ev1, ev]
    repeat' split
    all_goals first | rfl | simp_all [Option.map_map, Function.comp_def]
  | alloc zs =>
    obtain ⟨j, hj⟩ := Option.isSome_iff_exists.1 (hp rfl)
    rw [slot rfl hj, hj]
    exact Local.push0 (some (.kblk zs.length zs)) (fun b => .ptr b 0 0) (by rintro _ ⟨⟩ ⟨⟩) fun σ => by simp only [ev1, ev]; rfl
  | box x =>
    obtain ⟨j, hj⟩ := Option.isSome_iff_exists.1 (hp rfl)
    rw [slot rfl hj, hj]
    refine Local.push0 ((vl e x).cells.map fun cs => .kblk cs.length cs) (fun b => .ptr b 0 0) ?_ fun σ => ?_
    · intro y hy
      rw [Option.map_eq_some_iff] at hy
      obtain ⟨cs, _, rfl⟩ := hy
      rintro ⟨⟩
    · simp only [ev1, ev]
      repeat' split
      all_goals first | rfl | simp_all [Option.map_map, Function.comp_def]
  | build zs parts =>
    rw [noslot rfl]
    refine Local.pure (c := (fill zs e parts).map mkAgg) fun σ => ?_
    simp only [ev1, ev]
    repeat' split
    all_goals first | rfl | simp_all [Option.map_map, Function.comp_def]
  | bslice sz xs =>
    obtain ⟨j, hj⟩ := Option.isSome_iff_exists.1 (hp rfl)
    rw [slot rfl hj, hj]
    refine Local.push (bs := (xs.map (vl e)).flatMap ownsOf) (fun σ v σ1 hf => ?_) (fun b hb => ⟨hb, hb⟩)
    simp only [ev1, ev] at hf
    split at hf
    · rename_i ps hps
      split at hf
      · rename_i hz
        refine ⟨.prow sz ps, fun b => .own b 0 ps.length, by rintro ⟨⟩, by rw [← kills_eq]; exact hf, fun σ' hr => ?_⟩
        simp only [ev1, ev, frzs_congr hps hr, hz, if_true, kills_eq]
      · cases hf
    · cases hf
  | load agg sz a =>
    rw [noslot rfl]
    refine Local.read (g := fun σ => match vl e a with
      | .ptr b i off =>
        match σ[b]? with
        | some (.prow _ es) => (match es[i]? with | some x => (subPV agg sz x off).map .p | none => none)
        | some (.kblk s cs) => subCV agg sz cs (i * s + off)
        | _ => none
      | .rp x off => (subPV agg sz x off).map .p
      | _ => none) (fun σ => ?_) ?_
    · simp only [ev1, ev]
      repeat' split
      all_goals first | rfl | simp_all [Option.map_map, Function.comp_def]
    · intro σ v h σ' hr _
      simp only [foot] at hr
      split at h
      · rename_i b i off hv
        rw [hv] at hr
        rcases hr b (by simp [addrs]) with h1 | h1
        · rw [h1] at h; cases h
        · rw [h1]; exact h
      · rename_i x off hv
        exact h
      · cases h
  | store sz a x =>
    rw [noslot rfl]
    refine Local.gen fun σ v σ1 hf => ?_
    simp only [ev1, ev] at hf
    split at hf
    · rename_i b i off hv
      split at hf
      · rename_i s0 es0 hb
        split at hf
        · rename_i u hu
          split at hf
          · rename_i s es hk
            split at hf
            · rename_i y hy
              rw [Option.map_eq_some_iff] at hf
              obtain ⟨z, hz, he⟩ := hf
              cases he
              have hnb : b ∉ ownsOf (vl e x) := by
                intro hm
                rw [kill_eq, dieAll_get' _ _ _ hm] at hk
                split at hk <;> cases hk
              have hkb := hk
              rw [kill_eq, dieAll_get _ _ _ hnb] at hkb
              rw [kill_eq]
              refine ⟨(ownsOf (vl e x)).map (fun b => (b, Blk.dead)) ++ [(b, .prow s (es.set i z))], by rw [wrs_append, ← wrs_die]; rfl, ?_, (by intro b hb; cases hb), ?_⟩
              · intro b' q hm
                rcases List.mem_append.1 hm with hm | hm
                · obtain ⟨b'', hb', he⟩ := List.mem_map.1 hm
                  cases he
                  exact ⟨by simp, .inl ⟨hb', List.mem_append.2 (.inr hb')⟩⟩
                · have := List.mem_singleton.1 hm
                  cases this
                  refine ⟨by simp, .inr (.inr ⟨by simp [foot, hv, addrs], ?_⟩)⟩
                  rw [bsz_eq, hkb]; rfl
              · intro σ' hl _ hr _
                simp only [foot] at hr
                have hr1 : σ'[b]? = σ[b]? := by
                  rcases hr b (by simp [hv, addrs]) with h1 | h1
                  · rw [h1] at hb; cases hb
                  · exact h1
                have hr2 := frz_congr hu (fun b hb => hr b (List.mem_append.2 (.inr hb)))
                have hkb' : (kill σ' (vl e x))[b]? = some (.prow s es) := by rw [kill_eq, dieAll_get _ _ _ hnb, hr1]; exact hkb
                simp only [ev1, ev, hv, hr1, hb, hr2, hkb', hy, hz]
                simp only [Option.map_some, wrs_append, ← wrs_die, kill_eq]
                rfl
            · cases hf
          · cases hf
        · cases hf
      · rename_i s cs hb
        split at hf
        · rename_i xs hx
          split at hf
          · rename_i hcond
            cases hf
            refine ⟨[(b, .kblk s (setCells cs (i * s + off) xs))], rfl, ?_, (by intro b hb; cases hb), ?_⟩
            · intro b' q hm
              have := List.mem_singleton.1 hm
              cases this
              refine ⟨by simp, .inr (.inr ⟨by simp [foot, hv, addrs], ?_⟩)⟩
              rw [bsz_eq, hb]; rfl
            · intro σ' hl _ hr _
              have hr1 : σ'[b]? = σ[b]? := by
                rcases hr b (by simp [foot, hv, addrs]) with h1 | h1
                · rw [h1] at hb; cases hb
                · exact h1
              simp only [ev1, ev, hv, hr1, hb, hx]
              rw [if_pos hcond]
              rfl
          · cases hf
        · cases hf
      · cases hf
    · cases hf
  | nilc x =>
    rw [noslot rfl]
    refine Local.pure (c := match vl e x with | .fn f cap => some (.fn f cap) | .ptr b i off => some (.ptr b i off) | .rp v off => some (.rp v off) | _ => none) fun σ => ?_
    simp only [ev1, ev]
    repeat' split
    all_goals first | rfl | simp_all [Option.map_map, Function.comp_def]
  | bin o x y =>
    rw [noslot rfl]
    refine Local.pure (c := match vl e x, vl e y with | .p a, .p b => (binV o a b).map .p | _, _ => none) fun σ => ?_
    simp only [ev1, ev]
    repeat' split
    all_goals first | rfl | simp_all [Option.map_map, Function.comp_def]
  | beq ne x y =>
    rw [noslot rfl]
    refine Local.pure (c := match vl e x, vl e y with | .p (.bool a), .p (.bool b) => some (.p (.bool (if ne = true then !(a == b) else a == b))) | _, _ => none) fun σ => ?_
    simp only [ev1, ev]
    repeat' split
    all_goals first | rfl | simp_all [Option.map_map, Function.comp_def]
  | un o x =>
    rw [noslot rfl]
    refine Local.pure (c := match vl e x with | .p a => (unV o a).map .p | _ => none) fun σ => ?_
    simp only [ev1, ev]
    repeat' split
    all_goals first | rfl | simp_all [Option.map_map, Function.comp_def]
  | conv k x =>
    rw [noslot rfl]
    refine Local.pure (c := match (vl e x).num with | some n => some (.p (.int k (k.wrap n))) | none => none) fun σ => ?_
    simp only [ev1, ev]
    repeat' split
    all_goals first | rfl | simp_all [Option.map_map, Function.comp_def]
  | mkfn f cap => rw [noslot rfl]; exact Local.pure (c := some (.fn f (cap.map (vl e)))) fun σ => rfl
  | mks deep sz bytes z l c =>
    obtain ⟨j, hj⟩ := Option.isSome_iff_exists.1 (hp rfl)
    rw [slot rfl hj, hj]
    cases hl : (vl e l).num with
    | none => exact Local.push0 none (fun _ => .any) (by intro y hy; cases hy) fun σ => by simp only [ev1, ev, hl]; rfl
    | some l' =>
      cases hcn : (vl e c).num with
      | none => exact Local.push0 none (fun _ => .any) (by intro y hy; cases hy) fun σ => by simp only [ev1, ev, hl, hcn]; rfl
      | some c' =>
        by_cases hcond : 0 ≤ l' ∧ l' ≤ c' ∧ (bytes : Int) * c' ≤ 281474976710656 ∧ c' ≤ 9223372036854775807 ∧ z.cells.length = sz
        · cases deep with
          | false =>
            refine Local.push0 (some (.prow sz (List.replicate l'.toNat z))) (fun b => .own b 0 l'.toNat) (by rintro _ ⟨⟩ ⟨⟩) fun σ => ?_
            simp only [ev1, ev, hl, hcn]
            rw [if_pos hcond]
            rfl
          | true =>
            by_cases h1 : sz = 1
            · refine Local.push0 (some (.kblk sz (List.replicate l'.toNat .nils))) (fun b => .own b 0 l'.toNat) (by rintro _ ⟨⟩ ⟨⟩) fun σ => ?_
              simp only [ev1, ev, hl, hcn]
              rw [if_pos hcond, if_pos h1]
              rfl
            · refine Local.push0 none (fun _ => .any) (by intro y hy; cases hy) fun σ => ?_
              simp only [ev1, ev, hl, hcn]
              rw [if_pos hcond, if_neg h1]
              rfl
        · refine Local.push0 none (fun _ => .any) (by intro y hy; cases hy) fun σ => ?_
          simp only [ev1, ev, hl, hcn]
          rw [if_neg hcond]
          rfl
  | slice sz x lo hi mx =>
    rw [noslot rfl]
    clear hc hp slot noslot
    refine Local.read (g := fun σ => match lenV (vl e x) with
      | some n =>
        match bnd e lo 0, bnd e hi n with
        | some l, some h =>
          match mx with
          | none => sliceV σ sz (vl e x) l h
          | some m =>
            match (vl e m).num with
            | some m => if 0 ≤ m ∧ h ≤ m.toNat ∧ m.toNat ≤ n then sliceV σ sz (vl e x) l h else none
            | none => none
        | _, _ => none
      | none => none) (fun σ => ?_) ?_
    · simp only [ev1, ev]
      cases lenV (vl e x) with
      | none => rfl
      | some n =>
        show _ = Option.map _ (match bnd e lo 0, bnd e hi n with
        | some l, some h =>
          match mx with
          | none => sliceV σ sz (vl e x) l h
          | some m =>
            match (vl e m).num with
            | some m => if 0 ≤ m ∧ h ≤ m.toNat ∧ m.toNat ≤ n then sliceV σ sz (vl e x) l h else none
            | none => none
        | _, _ => none)
        dsimp only
        cases bnd e lo 0 with
        | none => rfl
        | some l =>
          cases bnd e hi n with
          | none => rfl
          | some h =>
            cases mx with
            | none => rfl
            | some m =>
              dsimp only
              cases (vl e m).num with
              | none => rfl
              | some m =>
                dsimp only
                by_cases hcond : 0 ≤ m ∧ h ≤ m.toNat ∧ m.toNat ≤ n
                · rw [if_pos hcond, if_pos hcond]
                · rw [if_neg hcond, if_neg hcond]; rfl
    · intro σ v h σ' _ hz
      simp only [foot] at hz
      split at h
      · split at h
        · split at h
          · exact sliceV_congr h hz
          · split at h
            · split at h
              · rename_i hcond; rw [if_pos hcond]; exact sliceV_congr h hz
              · cases h
            · cases h
        · cases h
      · cases h
  | fieldA off x =>
    rw [noslot rfl]
    refine Local.pure (c := match vl e x with | .ptr b i o => some (.ptr b i (o + off)) | .rp v o => some (.rp v (o + off)) | _ => none) fun σ => ?_
    simp only [ev1, ev]
    repeat' split
    all_goals first | rfl | simp_all [Option.map_map, Function.comp_def]
  | field agg off sz x =>
    rw [noslot rfl]
    refine Local.pure (c := match vl e x with | .p (.agg cs) => (subPV agg sz (.agg cs) off).map .p | .agg cs => subCV agg sz cs off | _ => none) fun σ => ?_
    simp only [ev1, ev]
    repeat' split
    all_goals first | rfl | simp_all [Option.map_map, Function.comp_def]
  | indexA sz x i =>
    rw [noslot rfl]
    refine Local.read (g := fun σ => match (vl e i).num with
      | some i =>
        if 0 ≤ i then
          match vl e x with
          | .p (.sl es) => (match es[i.toNat]? with | some v => if v.cells.length = sz then some (.rp v 0) else none | none => none)
          | .own b off n => if i.toNat < n ∧ bsz σ b = some sz then some (.ptr b (off + i.toNat) 0) else none
          | _ => none
        else none
      | none => none) (fun σ => ?_) ?_
    · simp only [ev1, ev]
      cases (vl e i).num with
      | none => rfl
      | some i =>
        simp only []
        by_cases h0 : 0 ≤ i
        · rw [if_pos h0, if_pos h0]
          cases vl e x with
          | p v =>
            cases v with
            | sl es =>
              simp only []
              cases es[i.toNat]? with
              | none => rfl
              | some v =>
                simp only []
                by_cases h1 : v.cells.length = sz
                · rw [if_pos h1, if_pos h1]; rfl
                · rw [if_neg h1, if_neg h1]; rfl
            | _ => rfl
          | own b off n =>
            simp only []
            by_cases h1 : i.toNat < n ∧ bsz σ b = some sz
            · rw [if_pos h1, if_pos h1]; rfl
            · rw [if_neg h1, if_neg h1]; rfl
          | _ => rfl
        · rw [if_neg h0, if_neg h0]; rfl
    · intro σ v h σ' _ hz
      simp only [foot] at hz
      split at h
      · split at h
        · rename_i h0
          rw [if_pos h0]
          split at h
          · exact h
          · rename_i b off n hv
            rw [hv] at hz
            split at h
            · rename_i hcond
              rcases hz b (by simp [ownsOf, own0]) with h1 | h1
              · rw [bsz_hole h1] at hcond; exact absurd hcond.2 (by simp)
              · rw [h1, if_pos hcond]; exact h
            · cases h
          · cases h
        · cases h
      · cases h
  | idx tab x =>
    rw [noslot rfl]
    refine Local.pure' fun σ v σ1 hf => ?_
    simp only [ev1, ev] at hf ⊢
    split at hf
    · split at hf
      · split at hf
        · cases hf; exact ⟨rfl, fun σ' => by simp [*]⟩
        · cases hf
      · cases hf
    · cases hf
  | extract x i =>
    rw [noslot rfl]
    refine Local.pure (c := match vl e x with | .tup vs => vs[i]? | _ => none) fun σ => ?_
    simp only [ev1, ev]
    repeat' split
    all_goals first | rfl | simp_all [Option.map_map, Function.comp_def]
  | len x =>
    rw [noslot rfl]
    refine Local.pure (c := (lenV (vl e x)).map fun (n : Nat) => i64 (n : Int)) fun σ => ?_
    simp only [ev1, ev]
    repeat' split
    all_goals first | rfl | simp_all [Option.map_map, Function.comp_def]
  | append sz bytes s x =>
    obtain ⟨j, hj⟩ := Option.isSome_iff_exists.1 (hp rfl)
    rw [slot rfl hj, hj]
    refine Local.push (bs := ownsOf (vl e s)) (fun σ v σ1 hf => ?_) (fun b hb => ⟨hb, hb⟩)
    simp only [ev1, ev] at hf
    split at hf
    · rename_i a b ha hb
      split at hf
      · rename_i hcond
        refine ⟨.prow sz (a ++ b), fun k => .own k 0 (a.length + b.length), by rintro ⟨⟩, ?_, fun σ' hr => ?_⟩
        · split at hf
          · rename_i hv; rw [hv]; exact hf
          · rename_i k' o n hv
            rw [hv]
            split at hf
            · split at hf
              · exact hf
              · cases hf
            · cases hf
          · cases hf
        · simp only [foot] at hr
          simp only [ev1, ev, content_congr ha (fun b hb => hr b (List.mem_append.2 (.inl hb))), content_congr hb (fun b hb => hr b (List.mem_append.2 (.inr hb)))]
          rw [if_pos hcond]
          split at hf
          · rename_i hv; rw [hv]; rfl
          · rename_i k' o n hv
            rw [hv] at hr
            split at hf
            · rename_i sz' q hq
              rcases hr k' (by simp [ownsOf, own0]) with h1 | h1
              · rw [h1] at hq; cases hq
              · rw [h1, hq]
                split at hf
                · rename_i hsz; rw [hv]; simp only []; rw [if_pos hsz]; rfl
                · cases hf
            · cases hf
          · cases hf
      · cases hf
    · cases hf
  | copy sz d s =>
    rw [noslot rfl]
    refine Local.gen fun σ v σ1 hf => ?_
    simp only [ev1, ev] at hf
    split at hf
    · rename_i b off n xs hd hs
      split at hf
      · rename_i q es hb
        split at hf
        · rename_i hcond
          cases hf
          refine ⟨[(b, .prow q (setCells es off (xs.take n)))], rfl, ?_, (by intro b hb; cases hb), ?_⟩
          · intro b' y hm
            have := List.mem_singleton.1 hm
            cases this
            refine ⟨by simp, .inr (.inr ⟨by simp [foot, hd, ownsOf, own0], ?_⟩)⟩
            rw [bsz_eq, hb]; rfl
          · intro σ' hl _ hr _
            simp only [foot] at hr
            have hr1 : σ'[b]? = σ[b]? := by
              rcases hr b (by simp [hd, ownsOf, own0]) with h1 | h1
              · rw [h1] at hb; cases hb
              · exact h1
            have hr2 := content_congr hs (fun b hb => hr b (List.mem_append.2 (.inr hb)))
            simp only [ev1, ev, hd, hr2, hr1, hb]
            rw [if_pos hcond]
            rfl
        · cases hf
      · cases hf
    · rename_i xs hd hs
      cases hf
      refine ⟨[], rfl, by simp, by simp, ?_⟩
      intro σ' hl _ hr _
      simp only [foot] at hr
      have hr2 := content_congr hs (fun b hb => hr b (List.mem_append.2 (.inr hb)))
      simp only [ev1, ev, hd, hr2]
      rfl
    · cases hf
  | mx x y =>
    rw [noslot rfl]
    refine Local.pure' fun σ v σ1 hf => ?_
    simp only [ev1, ev] at hf ⊢
    split at hf
    · rename_i h1 h2; cases hf; exact ⟨rfl, fun σ' => rfl⟩
    · cases hf
  | mn x y =>
    rw [noslot rfl]
    refine Local.pure' fun σ v σ1 hf => ?_
    simp only [ev1, ev] at hf ⊢
    split at hf
    · rename_i h1 h2; cases hf; exact ⟨rfl, fun σ' => rfl⟩
    · cases hf
  | call k f args =>
    rw [noslot rfl]
    simp only [ev1]
    cases k with
    | pu => exact local_pu
    | fz => exact local_fz rfl rfl rfl
    | full => exact absurd rfl hc
    | keep => exact absurd rfl hc
    | cell => exact local_cell rfl rfl
    | peek => exact local_peek rfl
  | callv k x args =>
    rw [noslot rfl]
    simp only [ev1]
    cases hx : vl e x with
    | fn f cap =>
      simp only []
      cases k with
      | pu => exact local_pu
      | fz => exact local_fz (by simp only [foot, hx, capOf]) (by simp only [foot, hx, capOf]) (by simp only [foot, hx, capOf])
      | full => exact absurd rfl hc
      | keep => exact absurd rfl hc
      | cell => exact absurd rfl hc
      | peek => exact absurd rfl hc
    | _ => exact Local.pure (c := none) fun σ => rfl

end
end Go.Proofs.YtnbglampelmgoaaGreat.Vpi
