/- The verified interpreter, part 9: blocks given up, stores, copies, appends. -/
import Derived.Test.YtnbglampelmgoaaGreatVpiMake
namespace Go.Proofs.YtnbglampelmgoaaGreat.Vpi
open Go
set_option linter.unusedVariables false
set_option linter.unusedSimpArgs false
section
variable {P : Program} {o : Oper} {w : World} {G : Nat → Prop} {ρ : List Loc} {σ : Store} {e : Env} {a : Act} {base : Nat} {sl : Option Nat}

def dieAll (σ : Store) (bs : List Nat) : Store := bs.foldl (fun σ b => σ.set b .dead) σ

theorem kill1_eq (σ : Store) (c : CV) : kill1 σ c = dieAll σ (own0 c) := by
  cases c <;> rfl

theorem dieAll_append (σ : Store) (x y : List Nat) : dieAll σ (x ++ y) = dieAll (dieAll σ x) y := by
  simp [dieAll, List.foldl_append]

theorem killL_eq : ∀ (l : List CV) (σ : Store), killL σ l = dieAll σ (l.flatMap own0)
  | [], _ => rfl
  | c :: l, σ => by
    rw [List.flatMap_cons, dieAll_append, ← kill1_eq, ← killL_eq l]
    rfl

theorem kill_eq (σ : Store) (c : CV) : kill σ c = dieAll σ (ownsOf c) := by
  cases c <;> simp only [kill, ownsOf] <;> first | exact killL_eq _ _ | exact kill1_eq _ _

theorem kills_eq : ∀ (l : List CV) (σ : Store), kills σ l = dieAll σ (l.flatMap ownsOf)
  | [], _ => rfl
  | c :: l, σ => by
    rw [List.flatMap_cons, dieAll_append, ← kill_eq, ← kills_eq l]
    rfl

theorem dieAll_length : ∀ (bs : List Nat) (σ : Store), (dieAll σ bs).length = σ.length
  | [], _ => rfl
  | b :: bs, σ => by
    show (dieAll (σ.set b .dead) bs).length = _
    rw [dieAll_length bs]; simp

/-- a live block's place is kept, or its memory may be read as a pure value's -/
def Track (ρ : List Loc) (G' : Nat → Prop) (ρ' : List Loc) : Prop := ∀ (i blk o t s : Nat), ρ[i]? = some (.lv blk o t s) → ρ'[i]? = some (.lv blk o t s) ∨ G' blk

theorem dieAll_st : ∀ (bs : List Nat) (G : Nat → Prop) (ρ : List Loc) (σ : Store), St w G ρ σ → (∀ b ∈ bs, b < σ.length) →
    ∃ G' ρ', St w G' ρ' (dieAll σ bs) ∧ Ext w G ρ w G' ρ' ∧ Track ρ G' ρ' ∧ ∀ b ∈ bs, ρ'[b]? = some .dead
  | [], G, ρ, σ, hs, _ => ⟨G, ρ, hs, Ext.refl, fun _ _ _ _ _ h => .inl h, by simp⟩
  | b :: bs, G, ρ, σ, hs, hb => by
    have hlt : b < ρ.length := by rw [hs.len]; exact hb b (by simp)
    have hl : ρ[b]? = some ρ[b] := by simp
    have one : ∃ G1, St w G1 (ρ.set b .dead) (σ.set b .dead) ∧ Ext w G ρ w G1 (ρ.set b .dead) ∧ Track ρ G1 (ρ.set b .dead) := by
      cases hc : ρ[b] with
      | lv blk o t s =>
        rw [hc] at hl
        obtain ⟨h1, h2⟩ := hs.give hl
        refine ⟨_, h1, h2, ?_⟩
        intro i blk' o' t' s' hi
        by_cases hbi : b = i
        · subst hbi; rw [hl] at hi; cases hi; exact .inr (.inr rfl)
        · exact .inl (by rw [List.getElem?_set_ne hbi]; exact hi)
      | det =>
        rw [hc] at hl
        obtain ⟨h1, h2⟩ := hs.giveDet hl (by rintro ⟨k, o, t, s, h⟩; cases h)
        refine ⟨G, h1, h2, ?_⟩
        intro i blk' o' t' s' hi
        by_cases hbi : b = i
        · subst hbi; rw [hl] at hi; cases hi
        · exact .inl (by rw [List.getElem?_set_ne hbi]; exact hi)
      | dead =>
        rw [hc] at hl
        obtain ⟨h1, h2⟩ := hs.giveDet hl (by rintro ⟨k, o, t, s, h⟩; cases h)
        refine ⟨G, h1, h2, ?_⟩
        intro i blk' o' t' s' hi
        by_cases hbi : b = i
        · subst hbi; rw [hl] at hi; cases hi
        · exact .inl (by rw [List.getElem?_set_ne hbi]; exact hi)
      | hole =>
        rw [hc] at hl
        obtain ⟨h1, h2⟩ := hs.giveDet hl (by rintro ⟨k, o, t, s, h⟩; cases h)
        refine ⟨G, h1, h2, ?_⟩
        intro i blk' o' t' s' hi
        by_cases hbi : b = i
        · subst hbi; rw [hl] at hi; cases hi
        · exact .inl (by rw [List.getElem?_set_ne hbi]; exact hi)
    obtain ⟨G1, s1, e1, t1⟩ := one
    obtain ⟨G2, ρ2, s2, e2, t2, d2⟩ := dieAll_st bs G1 _ _ s1 (fun c hc => by simpa using hb c (by simp [hc]))
    refine ⟨G2, ρ2, s2, e1.trans e2, ?_, ?_⟩
    · intro i blk o t s hi
      rcases t1 i blk o t s hi with h | h
      · exact t2 i blk o t s h
      · exact .inr (e2.grow _ h)
    · intro c hc
      by_cases hm : c ∈ bs
      · exact d2 c hm
      · have : c = b := by simpa [hm] using hc
        subst this
        have h0 : (ρ.set c Loc.dead)[c]? = some .dead := by rw [List.getElem?_set_self hlt]
        rcases e2.loc c _ h0 with h | h | h
        · exact h
        · exact h
        · cases h

/-- a value read off the store, when its blocks are among those that may be read -/
theorem frz1_rep {c : CV} {x : PV} {v : Value} {G' : Nat → Prop} (hs : St w G ρ σ) (h : frz1 σ c = some x) (hr : RepC w G ρ c v) (hG : ∀ k, G k → G' k) (hO : ∀ b ∈ own0 c, ∀ (blk o t s : Nat), ρ[b]? = some (.lv blk o t s) → G' blk) :
    RepP w G' x v := by
  unfold frz1 at h
  split at h
  · cases h; exact (rep_p hr).mono (fun _ _ => rfl) hG
  · cases h; rw [rep_nils hr]; exact .nil _ _
  · rename_i b off n
    split at h
    · rename_i s es hb
      split at h
      · rename_i hle
        cases h
        obtain ⟨ad, cap, rfl, hcap, hok⟩ := rep_own hr
        obtain ⟨l, hl, hblk⟩ := hs.get hb
        have hlen : ((es.drop off).take n).length = n := by simp; omega
        by_cases hn : n = 0
        · subst hn
          simp only [List.take_zero]
          exact .nil _ _
        · simp only [OwnOk, hl] at hok
          cases l with
          | lv blk o t s' =>
            obtain ⟨rfl, hng, arr, el, hh, rfl, hfit, hcl, hk⟩ := hblk
            simp only at hok
            rcases hok with rfl | ⟨rfl, hf2⟩
            · omega
            · have hg' := hO b (by simp [own0]) _ _ _ _ hl
              have hmul : (off + n) * s ≤ es.length * s := Nat.mul_le_mul_right _ hle
              rw [Nat.add_mul] at hmul
              have := RepP.sl (w := w) (G := G') ((es.drop off).take n) blk (o + off * s) arr el (0, 0) cap s hg' hh (by rw [hlen]; exact hcap) (by rw [hlen]; omega)
                (by
                  intro i e he
                  rw [List.getElem?_take] at he
                  split at he
                  · rw [List.getElem?_drop] at he; exact hcl _ _ he
                  · cases he)
                (by
                  intro i e k c u he hc hu
                  rw [List.getElem?_take] at he
                  split at he
                  · rw [List.getElem?_drop] at he
                    exact (hk (off + i) e k c u he hc (by rw [Nat.add_mul]; rw [show o + (off * s + i * s) + k = o + off * s + i * s + k by omega]; exact hu)).1.mono (fun _ _ => rfl) hG
                  · cases he)
                (by
                  intro i e k u he hks hu
                  rw [List.getElem?_take] at he
                  split at he
                  · rw [List.getElem?_drop] at he
                    have hcl' := hcl _ _ he
                    exact (hk (off + i) e k (e.cells[k]'(by omega)) u he (by simp) (by rw [Nat.add_mul]; rw [show o + (off * s + i * s) + k = o + off * s + i * s + k by omega]; exact hu)).2
                  · cases he)
              rw [hlen] at this
              exact this
          | det => simp only at hok; omega
          | dead => exact hblk.elim
          | hole => exact hblk.elim
      · cases h
    · cases h
  · cases h

theorem frzL_rep {G' : Nat → Prop} (hs : St w G ρ σ) (hG : ∀ k, G k → G' k) : ∀ {cs : List CV} {xs : List PV} {vs : List Value}, frzL σ cs = some xs → cs.length = vs.length → (∀ (k : Nat) c v, cs[k]? = some c → vs[k]? = some v → RepC w G ρ c v) →
    (∀ b ∈ cs.flatMap own0, ∀ (blk o t s : Nat), ρ[b]? = some (.lv blk o t s) → G' blk) → xs.length = vs.length ∧ ∀ (k : Nat) x v, xs[k]? = some x → vs[k]? = some v → RepP w G' x v
  | [], xs, vs, h, hl, _, _ => by simp [frzL] at h; subst h; exact ⟨hl, by simp⟩
  | c :: cs, xs, [], _, hl, _, _ => by simp at hl
  | c :: cs, xs, v :: vs, h, hl, hk, hO => by
    simp only [frzL] at h
    split at h
    · rename_i x hx
      simp only [Option.map_eq_some_iff] at h
      obtain ⟨ys, hys, rfl⟩ := h
      obtain ⟨h1, h2⟩ := frzL_rep hs hG hys (by simpa using hl) (fun k c v hc hv => hk (k + 1) c v (by simpa using hc) (by simpa using hv)) (fun b hb => hO b (by simp only [List.flatMap_cons, List.mem_append]; exact .inr hb))
      refine ⟨by simp [h1], ?_⟩
      intro k y u hy hu
      cases k with
      | zero =>
        simp at hy hu; subst hy hu
        exact frz1_rep hs hx (hk 0 c _ rfl rfl) hG fun b hb => hO b (by simp only [List.flatMap_cons, List.mem_append]; exact .inl hb)
      | succ k => exact h2 k y u (by simpa using hy) (by simpa using hu)
    · cases h

theorem frz_rep {c : CV} {x : PV} {v : Value} {G' : Nat → Prop} (hs : St w G ρ σ) (h : frz σ c = some x) (hr : RepC w G ρ c v) (hG : ∀ k, G k → G' k) (hO : ∀ b ∈ ownsOf c, ∀ (blk o t s : Nat), ρ[b]? = some (.lv blk o t s) → G' blk) :
    RepP w G' x v := by
  cases c with
  | agg cs =>
    simp only [frz, Option.map_eq_some_iff] at h
    obtain ⟨xs, hxs, rfl⟩ := h
    obtain ⟨vs, rfl, hl, hk, h1⟩ := rep_agg hr
    obtain ⟨h2, h3⟩ := frzL_rep hs hG hxs hl hk hO
    exact .agg xs vs h2 h3 h1
  | _ => simp only [frz] at h; simp only [ownsOf] at hO; exact frz1_rep hs h hr hG hO

theorem frz1_lt {c : CV} {x : PV} (h : frz1 σ c = some x) : ∀ b ∈ own0 c, b < σ.length := by
  cases c with
  | own b off n =>
    simp only [frz1] at h
    split at h
    · rename_i hb
      intro b' hb'
      simp [own0] at hb'
      subst hb'
      exact get_lt hb
    · cases h
  | _ => intro b hb; simp [own0] at hb

theorem frzL_lt : ∀ {cs : List CV} {xs : List PV}, frzL σ cs = some xs → ∀ b ∈ cs.flatMap own0, b < σ.length
  | [], _, _ => by simp
  | c :: cs, xs, h => by
    simp only [frzL] at h
    split at h
    · rename_i x hx
      simp only [Option.map_eq_some_iff] at h
      obtain ⟨ys, hys, rfl⟩ := h
      intro b hb
      simp only [List.flatMap_cons, List.mem_append] at hb
      rcases hb with hb | hb
      · exact frz1_lt hx b hb
      · exact frzL_lt hys b hb
    · cases h

theorem frz_lt {c : CV} {x : PV} (h : frz σ c = some x) : ∀ b ∈ ownsOf c, b < σ.length := by
  cases c with
  | agg cs =>
    simp only [frz, Option.map_eq_some_iff] at h
    obtain ⟨xs, hxs, rfl⟩ := h
    exact frzL_lt hxs
  | _ => simp only [frz] at h; simp only [ownsOf]; exact frz1_lt h

theorem frzs_lt : ∀ {cs : List CV} {xs : List PV}, frzs σ cs = some xs → ∀ b ∈ cs.flatMap ownsOf, b < σ.length
  | [], _, _ => by simp
  | c :: cs, xs, h => by
    simp only [frzs] at h
    split at h
    · rename_i x hx
      simp only [Option.map_eq_some_iff] at h
      obtain ⟨ys, hys, rfl⟩ := h
      intro b hb
      simp only [List.flatMap_cons, List.mem_append] at hb
      rcases hb with hb | hb
      · exact frz_lt hx b hb
      · exact frzs_lt hys b hb
    · cases h

theorem frzs_rep {G' : Nat → Prop} (hs : St w G ρ σ) (hG : ∀ k, G k → G' k) : ∀ {cs : List CV} {xs : List PV} {vs : List Value}, frzs σ cs = some xs → cs.length = vs.length → (∀ (k : Nat) c v, cs[k]? = some c → vs[k]? = some v → RepC w G ρ c v) →
    (∀ b ∈ cs.flatMap ownsOf, ∀ (blk o t s : Nat), ρ[b]? = some (.lv blk o t s) → G' blk) → xs.length = vs.length ∧ ∀ (k : Nat) x v, xs[k]? = some x → vs[k]? = some v → RepP w G' x v
  | [], xs, vs, h, hl, _, _ => by simp [frzs] at h; subst h; exact ⟨hl, by simp⟩
  | c :: cs, xs, [], _, hl, _, _ => by simp at hl
  | c :: cs, xs, v :: vs, h, hl, hk, hO => by
    simp only [frzs] at h
    split at h
    · rename_i x hx
      simp only [Option.map_eq_some_iff] at h
      obtain ⟨ys, hys, rfl⟩ := h
      obtain ⟨h1, h2⟩ := frzs_rep hs hG hys (by simpa using hl) (fun k c v hc hv => hk (k + 1) c v (by simpa using hc) (by simpa using hv)) (fun b hb => hO b (by simp only [List.flatMap_cons, List.mem_append]; exact .inr hb))
      refine ⟨by simp [h1], ?_⟩
      intro k y u hy hu
      cases k with
      | zero =>
        simp at hy hu; subst hy hu
        exact frz_rep hs hx (hk 0 c _ rfl rfl) hG fun b hb => hO b (by simp only [List.flatMap_cons, List.mem_append]; exact .inl hb)
      | succ k => exact h2 k y u (by simpa using hy) (by simpa using hu)
    · cases h

/-- all at once: values read off, their blocks given up -/
theorem give_all {cs : List CV} {xs : List PV} {vs : List Value} (hs : St w G ρ σ) (h : frzs σ cs = some xs) (hl : cs.length = vs.length) (hk : ∀ (k : Nat) c v, cs[k]? = some c → vs[k]? = some v → RepC w G ρ c v) :
    ∃ G' ρ', St w G' ρ' (kills σ cs) ∧ Ext w G ρ w G' ρ' ∧ xs.length = vs.length ∧ ∀ (k : Nat) x v, xs[k]? = some x → vs[k]? = some v → RepP w G' x v := by
  obtain ⟨G', ρ', s1, e1, t1, d1⟩ := dieAll_st (cs.flatMap ownsOf) G ρ σ hs (frzs_lt h)
  rw [← kills_eq] at s1
  obtain ⟨h1, h2⟩ := frzs_rep hs e1.grow h hl hk (by
    intro b hb blk o t s hloc
    rcases t1 b blk o t s hloc with h | h
    · rw [d1 b hb] at h; cases h
    · exact h)
  exact ⟨G', ρ', s1, e1, h1, h2⟩

theorem give_one {c : CV} {x : PV} {v : Value} (hs : St w G ρ σ) (h : frz σ c = some x) (hr : RepC w G ρ c v) :
    ∃ G' ρ', St w G' ρ' (kill σ c) ∧ Ext w G ρ w G' ρ' ∧ RepP w G' x v := by
  obtain ⟨G', ρ', s1, e1, t1, d1⟩ := dieAll_st (ownsOf c) G ρ σ hs (frz_lt h)
  rw [← kill_eq] at s1
  refine ⟨G', ρ', s1, e1, frz_rep hs h hr e1.grow ?_⟩
  intro b hb blk o t s hloc
  rcases t1 b blk o t s hloc with h | h
  · rw [d1 b hb] at h; cases h
  · exact h

end
end Go.Proofs.YtnbglampelmgoaaGreat.Vpi
