/- The verified interpreter, part 3: what a new block, a store, and a block that is given up do to the relation. -/
import Derived.Test.YtnbglampelmgoaaGreatVpiRel
import Derived.Laws.AppendOwn
import Derived.Laws.CopyRow
namespace Go.Proofs.YtnbglampelmgoaaGreat.Vpi
open Go
set_option linter.unusedVariables false
set_option linter.unusedSimpArgs false

theorem BlkOk.mono {w w' : World} {G G' : Nat → Prop} {ρ ρ' : List Loc} {l : Loc} {b : Blk} (hw : ∀ k, G k → w'.heap[k]? = w.heap[k]?) (hG : ∀ k, G k → G' k) (hρ : LocExt ρ ρ')
    (hl : ∀ (k o t s : Nat), l = .lv k o t s → w'.heap[k]? = w.heap[k]? ∧ (¬ G k → ¬ G' k)) (h : BlkOk w G ρ l b) : BlkOk w' G' ρ' l b := by
  unfold BlkOk at *
  split at h
  · trivial
  · trivial
  · obtain ⟨h1, h2, arr, el, h3, h4, h5, h6, h7⟩ := h
    obtain ⟨a1, a2⟩ := hl _ _ _ _ rfl
    exact ⟨h1, a2 h2, arr, el, a1.trans h3, h4, h5, h6, fun i e k c u x y z => ⟨(h7 i e k c u x y z).1.mono hw hG, (h7 i e k c u x y z).2⟩⟩
  · exact h
  · obtain ⟨h1, h2, arr, el, h3, h4, h5, h6⟩ := h
    obtain ⟨a1, a2⟩ := hl _ _ _ _ rfl
    exact ⟨h1, a2 h2, arr, el, a1.trans h3, h4, h5, fun k c u x y => ⟨(h6 k c u x y).1.mono hw hG hρ, (h6 k c u x y).2⟩⟩
  · exact h.elim

/-- a world whose memory is the same -/
theorem St.sameHeap {w w' : World} {G : Nat → Prop} {ρ : List Loc} {σ : Store} (h : St w G ρ σ) (hw : w'.heap = w.heap) : St w' G ρ σ where
  g := by rw [hw]; exact h.g
  len := h.len
  inj := h.inj
  ok := fun i l b h1 h2 => (h.ok i l b h1 h2).mono (fun k _ => by rw [hw]) (fun _ x => x) (LocExt.refl _) fun k o t s _ => ⟨by rw [hw], id⟩

theorem Ext.sameHeap {w w' : World} {G : Nat → Prop} {ρ : List Loc} (hw : w'.heap = w.heap) (hsame : Same w w' := by first | assumption | exact ⟨rfl, rfl, rfl⟩) : Ext w G ρ w' G ρ :=
  ⟨hsame, LocExt.refl _, by rw [hw]; exact Nat.le_refl _, fun _ h => h, fun _ h => .inl h, fun _ _ _ => by rw [hw], fun _ h => .inl h⟩

theorem push_spec {base : Nat} {sl : Option Nat} {σ σ' : Store} {b : Blk} {k : Nat} (h : push base sl σ b = some (k, σ')) :
    (k = σ.length ∧ σ' = σ ++ [b]) ∨ (σ[k]? = some .hole ∧ σ' = σ.set k b) := by
  unfold push at h
  split at h
  · simp only [Option.some.injEq, Prod.mk.injEq] at h
    exact .inl ⟨h.1.symm, h.2.symm⟩
  · split at h
    · rename_i hh
      simp only [Option.some.injEq, Prod.mk.injEq] at h
      obtain ⟨rfl, rfl⟩ := h
      exact .inr ⟨hh, rfl⟩
    · cases h

theorem get_lt {α : Type} {l : List α} {i : Nat} {x : α} (h : l[i]? = some x) : i < l.length := by
  rcases Nat.lt_or_ge i l.length with h1 | h1
  · exact h1
  · simp [List.getElem?_eq_none h1] at h

theorem aget_lt {α : Type} {l : Array α} {i : Nat} {x : α} (h : l[i]? = some x) : i < l.size := by
  rcases Nat.lt_or_ge i l.size with h1 | h1
  · exact h1
  · simp [Array.getElem?_eq_none h1] at h

/-- A NEW BLOCK: the loc list gets a place, the rest is as it was. `hb`: the new block is well, over the new state. -/
theorem St.push {w w' : World} {G : Nat → Prop} {ρ : List Loc} {σ σ' : Store} {base : Nat} {sl : Option Nat} {b : Blk} {k : Nat} (h : St w G ρ σ) (hp : push base sl σ b = some (k, σ'))
    (arr : Array Value) (el : TypeId) (sz : Nat) (hw : w'.heap = w.heap.push (.cells arr el (0, 0)))
    (hb : ∀ ρ', LocExt ρ ρ' → BlkOk w' G ρ' (.lv w.heap.size 0 arr.size sz) b) (hsame : Same w w' := by first | assumption | exact ⟨rfl, rfl, rfl⟩) :
    ∃ ρ', St w' G ρ' σ' ∧ Ext w G ρ w' G ρ' ∧ ρ'[k]? = some (.lv w.heap.size 0 arr.size sz) := by
  have hold : ∀ j, j < w.heap.size → w'.heap[j]? = w.heap[j]? := by
    intro j hj
    rw [hw, Array.getElem?_push]
    simp [Nat.ne_of_lt hj]
  have hsz : w'.heap.size = w.heap.size + 1 := by rw [hw]; simp
  have hlive : ∀ j, Live ρ j → j < w.heap.size := fun j hj => h.live_lt hj
  have hGl : ∀ j, G j → w'.heap[j]? = w.heap[j]? := fun j hj => hold j (h.g j hj)
  rcases push_spec hp with ⟨rfl, rfl⟩ | ⟨hk, rfl⟩
  · have hloc : LocExt ρ (ρ ++ [.lv w.heap.size 0 arr.size sz]) := by
      intro i l hi
      exact .inl (by rw [List.getElem?_append_left (get_lt hi)]; exact hi)
    have hnew : (ρ ++ [Loc.lv w.heap.size 0 arr.size sz])[σ.length]? = some (.lv w.heap.size 0 arr.size sz) := by
      rw [← h.len]; simp
    have hcase : ∀ (i : Nat) l, (ρ ++ [Loc.lv w.heap.size 0 arr.size sz])[i]? = some l → ρ[i]? = some l ∨ (i = ρ.length ∧ l = .lv w.heap.size 0 arr.size sz) := by
      intro i l hi
      rcases Nat.lt_or_ge i ρ.length with h1 | h1
      · rw [List.getElem?_append_left h1] at hi; exact .inl hi
      · rw [List.getElem?_append_right h1] at hi
        have : i - ρ.length = 0 := by
          have := get_lt hi
          simp at this
          omega
        rw [this] at hi
        simp at hi
        exact .inr ⟨by omega, hi.symm⟩
    refine ⟨ρ ++ [.lv w.heap.size 0 arr.size sz], ?_, ?_, hnew⟩
    · constructor
      · intro j hj; rw [hsz]; exact Nat.lt_succ_of_lt (h.g j hj)
      · simp [h.len]
      · intro i j k o t s o' t' s' hi hj
        rcases hcase i _ hi with h1 | ⟨h1, h2⟩ <;> rcases hcase j _ hj with h3 | ⟨h3, h4⟩
        · exact h.inj i j k o t s o' t' s' h1 h3
        · cases h4
          have := hlive _ ⟨i, o, t, s, h1⟩
          omega
        · cases h2
          have := hlive _ ⟨j, o', t', s', h3⟩
          omega
        · omega
      · intro i l x hi hx
        rcases hcase i _ hi with h1 | ⟨h1, h2⟩
        · rw [List.getElem?_append_left (by rw [← h.len]; exact get_lt h1)] at hx
          refine (h.ok i l x h1 hx).mono hGl (fun _ y => y) hloc ?_
          rintro j o t s rfl
          exact ⟨hold j (hlive j ⟨i, o, t, s, h1⟩), id⟩
        · subst h1 h2
          rw [List.getElem?_append_right (by rw [h.len]; exact Nat.le_refl _), h.len] at hx
          simp at hx
          subst hx
          exact hb _ hloc
    · constructor
      · exact hsame
      · exact hloc
      · omega
      · exact fun _ x => x
      · exact fun _ x => .inl x
      · exact fun j hj _ => hold j hj
      · rintro j ⟨i, o, t, s, hi⟩
        rcases hcase i _ hi with h1 | ⟨_, h2⟩
        · exact .inl ⟨i, o, t, s, h1⟩
        · cases h2; exact .inr (Nat.le_refl _)
  · have hklt : k < ρ.length := by rw [h.len]; exact get_lt hk
    have hρk : ρ[k]? = some .hole := by
      have := h.ok k ρ[k] .hole (by simp [hklt]) hk
      unfold BlkOk at this
      split at this <;> simp_all
    have hloc : LocExt ρ (ρ.set k (.lv w.heap.size 0 arr.size sz)) := by
      intro i l hi
      by_cases hik : k = i
      · subst hik; rw [hρk] at hi; cases hi; exact .inr (.inr rfl)
      · exact .inl (by rw [List.getElem?_set_ne hik]; exact hi)
    have hcase : ∀ (i : Nat) l, (ρ.set k (Loc.lv w.heap.size 0 arr.size sz))[i]? = some l → (i ≠ k ∧ ρ[i]? = some l) ∨ (i = k ∧ l = .lv w.heap.size 0 arr.size sz) := by
      intro i l hi
      by_cases hik : k = i
      · subst hik; rw [List.getElem?_set_self hklt] at hi; exact .inr ⟨rfl, by cases hi; rfl⟩
      · rw [List.getElem?_set_ne hik] at hi; exact .inl ⟨fun x => hik x.symm, hi⟩
    refine ⟨ρ.set k (.lv w.heap.size 0 arr.size sz), ?_, ?_, by rw [List.getElem?_set_self hklt]⟩
    · constructor
      · intro j hj; rw [hsz]; exact Nat.lt_succ_of_lt (h.g j hj)
      · simp [h.len]
      · intro i j k o t s o' t' s' hi hj
        rcases hcase i _ hi with ⟨_, h1⟩ | ⟨h1, h2⟩ <;> rcases hcase j _ hj with ⟨_, h3⟩ | ⟨h3, h4⟩
        · exact h.inj i j k o t s o' t' s' h1 h3
        · cases h4
          have := hlive _ ⟨i, o, t, s, h1⟩
          omega
        · cases h2
          have := hlive _ ⟨j, o', t', s', h3⟩
          omega
        · omega
      · intro i l x hi hx
        rcases hcase i _ hi with ⟨h0, h1⟩ | ⟨h1, h2⟩
        · rw [List.getElem?_set_ne (fun y => h0 y.symm)] at hx
          refine (h.ok i l x h1 hx).mono hGl (fun _ y => y) hloc ?_
          rintro j o t s rfl
          exact ⟨hold j (hlive j ⟨i, o, t, s, h1⟩), id⟩
        · subst h1 h2
          rw [List.getElem?_set_self (by rw [← h.len]; exact hklt)] at hx
          cases hx
          exact hb _ hloc
    · constructor
      · exact hsame
      · exact hloc
      · omega
      · exact fun _ x => x
      · exact fun _ x => .inl x
      · exact fun j hj _ => hold j hj
      · rintro j ⟨i, o, t, s, hi⟩
        rcases hcase i _ hi with ⟨_, h1⟩ | ⟨_, h2⟩
        · exact .inl ⟨i, o, t, s, h1⟩
        · cases h2; exact .inr (Nat.le_refl _)

/-- A LIVE BLOCK WRITTEN: block k's object is another one. -/
theorem St.write {w w' : World} {G : Nat → Prop} {ρ : List Loc} {σ : Store} {i k o t s : Nat} {b : Blk} {x : Obj} (h : St w G ρ σ) (hi : ρ[i]? = some (.lv k o t s)) (hlt : k < w.heap.size)
    (hw : w'.heap = w.heap.setIfInBounds k x) (hb : BlkOk w' G ρ (.lv k o t s) b) (hsame : Same w w' := by first | assumption | exact ⟨rfl, rfl, rfl⟩) : St w' G ρ (σ.set i b) ∧ Ext w G ρ w' G ρ := by
  have hother : ∀ j, j ≠ k → w'.heap[j]? = w.heap[j]? := by
    intro j hj
    rw [hw, Array.getElem?_setIfInBounds_ne (fun y => hj y.symm)]
  have hGl : ∀ j, G j → w'.heap[j]? = w.heap[j]? := fun j hj => hother j (fun y => h.notG ⟨i, o, t, s, hi⟩ (y ▸ hj))
  have hsz : w'.heap.size = w.heap.size := by rw [hw]; simp
  constructor
  · constructor
    · intro j hj; rw [hsz]; exact h.g j hj
    · simp [h.len]
    · exact h.inj
    · intro j l y hj hy
      by_cases hji : i = j
      · subst hji
        rw [hi] at hj
        cases hj
        rw [List.getElem?_set_self (by rw [← h.len]; exact get_lt hi)] at hy
        cases hy
        exact hb
      · rw [List.getElem?_set_ne hji] at hy
        refine (h.ok j l y hj hy).mono hGl (fun _ z => z) (LocExt.refl _) ?_
        rintro j' o' t' s' rfl
        refine ⟨hother j' ?_, id⟩
        rintro rfl
        exact hji (h.inj i j j' o t s o' t' s' hi hj)
  · exact ⟨hsame, LocExt.refl _, by omega, fun _ y => y, fun _ y => .inl y, fun j hj hn => hother j (fun y => hn (y ▸ ⟨i, o, t, s, hi⟩)), fun _ y => .inl y⟩

/-- A BLOCK GIVEN UP; its memory may from now on be read as a pure value's. -/
theorem St.give {w : World} {G : Nat → Prop} {ρ : List Loc} {σ : Store} {i k o t s : Nat} (h : St w G ρ σ) (hi : ρ[i]? = some (.lv k o t s)) :
    St w (fun j => G j ∨ j = k) (ρ.set i .dead) (σ.set i .dead) ∧ Ext w G ρ w (fun j => G j ∨ j = k) (ρ.set i .dead) := by
  have hloc : LocExt ρ (ρ.set i .dead) := by
    intro j l hj
    by_cases hji : i = j
    · subst hji; exact .inr (.inl (by rw [List.getElem?_set_self (get_lt hi)]))
    · exact .inl (by rw [List.getElem?_set_ne hji]; exact hj)
  have hcase : ∀ (j : Nat) l, (ρ.set i Loc.dead)[j]? = some l → (j ≠ i ∧ ρ[j]? = some l) ∨ (j = i ∧ l = .dead) := by
    intro j l hj
    by_cases hji : i = j
    · subst hji; rw [List.getElem?_set_self (get_lt hi)] at hj; exact .inr ⟨rfl, by cases hj; rfl⟩
    · rw [List.getElem?_set_ne hji] at hj; exact .inl ⟨fun x => hji x.symm, hj⟩
  constructor
  · constructor
    · rintro j (hj | rfl)
      · exact h.g j hj
      · exact h.live_lt ⟨i, o, t, s, hi⟩
    · simp [h.len]
    · intro a b k' o1 t1 s1 o2 t2 s2 h1 h2
      rcases hcase a _ h1 with ⟨_, h1⟩ | ⟨_, h1⟩
      · rcases hcase b _ h2 with ⟨_, h2⟩ | ⟨_, h2⟩
        · exact h.inj a b k' o1 t1 s1 o2 t2 s2 h1 h2
        · cases h2
      · cases h1
    · intro j l y hj hy
      rcases hcase j _ hj with ⟨h0, h1⟩ | ⟨h0, h1⟩
      · rw [List.getElem?_set_ne (fun y => h0 y.symm)] at hy
        refine (h.ok j l y h1 hy).mono (fun _ _ => rfl) (fun _ z => .inl z) hloc ?_
        rintro j' o' t' s' rfl
        refine ⟨rfl, ?_⟩
        rintro hn (hx | rfl)
        · exact hn hx
        · exact h0 (h.inj j i j' o' t' s' o t s h1 hi)
      · subst h0 h1
        rw [List.getElem?_set_self (by rw [← h.len]; exact get_lt hi)] at hy
        cases hy
        trivial
  · constructor
    · exact ⟨rfl, rfl, rfl⟩
    · exact hloc
    · exact Nat.le_refl _
    · exact fun _ x => .inl x
    · rintro j (hj | rfl)
      · exact .inl hj
      · exact .inr (.inr ⟨i, o, t, s, hi⟩)
    · exact fun _ _ _ => rfl
    · rintro j ⟨a, o', t', s', ha⟩
      rcases hcase a _ ha with ⟨_, h1⟩ | ⟨_, h1⟩
      · exact .inl ⟨a, o', t', s', h1⟩
      · cases h1

/-- a block without memory, or a dead one, given up -/
theorem St.giveDet {w : World} {G : Nat → Prop} {ρ : List Loc} {σ : Store} {i : Nat} {l : Loc} (h : St w G ρ σ) (hi : ρ[i]? = some l) :
    (¬ ∃ k o t s, l = .lv k o t s) → St w G (ρ.set i .dead) (σ.set i .dead) ∧ Ext w G ρ w G (ρ.set i .dead) := by
  intro hn
  have hloc : LocExt ρ (ρ.set i .dead) := by
    intro j l hj
    by_cases hji : i = j
    · subst hji; exact .inr (.inl (by rw [List.getElem?_set_self (get_lt hi)]))
    · exact .inl (by rw [List.getElem?_set_ne hji]; exact hj)
  have hcase : ∀ (j : Nat) l, (ρ.set i Loc.dead)[j]? = some l → (j ≠ i ∧ ρ[j]? = some l) ∨ (j = i ∧ l = .dead) := by
    intro j l hj
    by_cases hji : i = j
    · subst hji; rw [List.getElem?_set_self (get_lt hi)] at hj; exact .inr ⟨rfl, by cases hj; rfl⟩
    · rw [List.getElem?_set_ne hji] at hj; exact .inl ⟨fun x => hji x.symm, hj⟩
  constructor
  · constructor
    · exact h.g
    · simp [h.len]
    · intro a b k' o1 t1 s1 o2 t2 s2 h1 h2
      rcases hcase a _ h1 with ⟨_, h1⟩ | ⟨_, h1⟩
      · rcases hcase b _ h2 with ⟨_, h2⟩ | ⟨_, h2⟩
        · exact h.inj a b k' o1 t1 s1 o2 t2 s2 h1 h2
        · cases h2
      · cases h1
    · intro j l y hj hy
      rcases hcase j _ hj with ⟨h0, h1⟩ | ⟨h0, h1⟩
      · rw [List.getElem?_set_ne (fun y => h0 y.symm)] at hy
        exact (h.ok j l y h1 hy).mono (fun _ _ => rfl) (fun _ z => z) hloc fun _ _ _ _ _ => ⟨rfl, id⟩
      · subst h0 h1
        rw [List.getElem?_set_self (by rw [← h.len]; exact get_lt hi)] at hy
        cases hy
        trivial
  · constructor
    · exact ⟨rfl, rfl, rfl⟩
    · exact hloc
    · exact Nat.le_refl _
    · exact fun _ x => x
    · exact fun _ x => .inl x
    · exact fun _ _ _ => rfl
    · rintro j ⟨a, o', t', s', ha⟩
      rcases hcase a _ ha with ⟨_, h1⟩ | ⟨_, h1⟩
      · exact .inl ⟨a, o', t', s', h1⟩
      · cases h1

end Go.Proofs.YtnbglampelmgoaaGreat.Vpi
