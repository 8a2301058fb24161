/- The verified interpreter, part 17: regions whose order is drawn. -/
import Derived.Test.YtnbglampelmgoaaGreatVpiSwap
namespace Go.Proofs.YtnbglampelmgoaaGreat.Vpi
open Go
set_option linter.unusedVariables false
set_option linter.unusedSimpArgs false

/-- constants hold no references -/
def foot0 (op : ROp) : Bool := (foot [] op).rd.isEmpty && (foot [] op).sz.isEmpty && (foot [] op).wr.isEmpty

def refs (c : CV) : List Nat := ownsOf c ++ (addrs c ++ (capOf c).flatMap ownsOf)

theorem opd_q (q : CV → List Nat) {e : Env} {x : Opd} {b : Nat} (h : b ∈ q (vl e x)) : b ∈ q (vl [] x) ∨ ∃ t ∈ opdT x, b ∈ q (gt e t) := by
  cases x with
  | t n => exact .inr ⟨n, by simp [opdT], h⟩
  | c v => exact .inl h

theorem opds_q (q : CV → List Nat) {e : Env} {b : Nat} : ∀ {xs : List Opd}, b ∈ (xs.map (vl e)).flatMap q → b ∈ (xs.map (vl [])).flatMap q ∨ ∃ t ∈ xs.flatMap opdT, b ∈ q (gt e t)
  | [], h => by simp at h
  | x :: xs, h => by
    rw [List.map_cons, List.flatMap_cons] at h ⊢
    rw [List.flatMap_cons]
    rcases List.mem_append.1 h with h | h
    · rcases opd_q q h with h | ⟨t, h1, h2⟩
      · exact .inl (List.mem_append.2 (.inl h))
      · exact .inr ⟨t, List.mem_append.2 (.inl h1), h2⟩
    · rcases opds_q q h with h | ⟨t, h1, h2⟩
      · exact .inl (List.mem_append.2 (.inr h))
      · exact .inr ⟨t, List.mem_append.2 (.inr h1), h2⟩

theorem own_refs {c : CV} {b : Nat} (h : b ∈ ownsOf c) : b ∈ refs c := List.mem_append.2 (.inl h)
theorem addr_refs {c : CV} {b : Nat} (h : b ∈ addrs c) : b ∈ refs c := List.mem_append.2 (.inr (List.mem_append.2 (.inl h)))
theorem cap_refs {c : CV} {b : Nat} (h : b ∈ (capOf c).flatMap ownsOf) : b ∈ refs c := List.mem_append.2 (.inr (List.mem_append.2 (.inr h)))

/-- what an operation touches comes from its operands -/
theorem foot_refs {op : ROp} {e : Env} {b : Nat} (h0 : foot0 op = true) (h : b ∈ (foot e op).rd ∨ b ∈ (foot e op).sz ∨ b ∈ (foot e op).wr) : ∃ t ∈ ropT op, b ∈ refs (gt e t) := by
  simp only [foot0, Bool.and_eq_true, List.isEmpty_iff] at h0
  obtain ⟨⟨z1, z2⟩, z3⟩ := h0
  have no1 : ∀ {p : Prop}, b ∈ (foot [] op).rd → p := fun h => by rw [z1] at h; cases h
  have no2 : ∀ {p : Prop}, b ∈ (foot [] op).sz → p := fun h => by rw [z2] at h; cases h
  have no3 : ∀ {p : Prop}, b ∈ (foot [] op).wr → p := fun h => by rw [z3] at h; cases h
  have L : ∀ {x y : List Nat}, b ∈ x → b ∈ x ++ y := fun h => List.mem_append.2 (.inl h)
  have R : ∀ {x y : List Nat}, b ∈ y → b ∈ x ++ y := fun h => List.mem_append.2 (.inr h)
  cases op with
  | load agg sz a =>
    simp only [foot, ropT, List.not_mem_nil, or_false] at h no1 no2 no3 ⊢
    rcases opd_q addrs h with h | ⟨t, h1, h2⟩
    · exact no1 h
    · exact ⟨t, h1, addr_refs h2⟩
  | store sz a x =>
    simp only [foot, ropT, List.not_mem_nil, false_or, or_self] at h no1 no2 no3 ⊢
    rcases List.mem_append.1 h with h | h
    · rcases opd_q addrs h with h | ⟨t, h1, h2⟩
      · exact no1 (L h)
      · exact ⟨t, List.mem_append.2 (.inl h1), addr_refs h2⟩
    · rcases opd_q ownsOf h with h | ⟨t, h1, h2⟩
      · exact no1 (R h)
      · exact ⟨t, List.mem_append.2 (.inr h1), own_refs h2⟩
  | bslice sz xs =>
    simp only [foot, ropT, List.not_mem_nil, false_or, or_self] at h no1 no2 no3 ⊢
    rcases opds_q ownsOf h with h | ⟨t, h1, h2⟩
    · exact no1 h
    · exact ⟨t, h1, own_refs h2⟩
  | append sz bytes s x =>
    simp only [foot, ropT, List.not_mem_nil, false_or] at h no1 no2 no3 ⊢
    have h : b ∈ ownsOf (vl e s) ++ ownsOf (vl e x) := h.elim id L
    rcases List.mem_append.1 h with h | h
    · rcases opd_q ownsOf h with h | ⟨t, h1, h2⟩
      · exact no1 (L h)
      · exact ⟨t, List.mem_append.2 (.inl h1), own_refs h2⟩
    · rcases opd_q ownsOf h with h | ⟨t, h1, h2⟩
      · exact no1 (R h)
      · exact ⟨t, List.mem_append.2 (.inr h1), own_refs h2⟩
  | copy sz d s =>
    simp only [foot, ropT, List.not_mem_nil, false_or] at h no1 no2 no3 ⊢
    have h : b ∈ ownsOf (vl e d) ++ ownsOf (vl e s) := h.elim id L
    rcases List.mem_append.1 h with h | h
    · rcases opd_q ownsOf h with h | ⟨t, h1, h2⟩
      · exact no1 (L h)
      · exact ⟨t, List.mem_append.2 (.inl h1), own_refs h2⟩
    · rcases opd_q ownsOf h with h | ⟨t, h1, h2⟩
      · exact no1 (R h)
      · exact ⟨t, List.mem_append.2 (.inr h1), own_refs h2⟩
  | slice sz x lo hi mx =>
    simp only [foot, ropT, List.not_mem_nil, false_or, or_false] at h no1 no2 no3 ⊢
    rcases opd_q ownsOf h with h | ⟨t, h1, h2⟩
    · exact no2 h
    · exact ⟨t, List.mem_append.2 (.inl (List.mem_append.2 (.inl (List.mem_append.2 (.inl h1))))), own_refs h2⟩
  | indexA sz x i =>
    simp only [foot, ropT, List.not_mem_nil, false_or, or_false] at h no1 no2 no3 ⊢
    rcases opd_q ownsOf h with h | ⟨t, h1, h2⟩
    · exact no2 h
    · exact ⟨t, List.mem_append.2 (.inl h1), own_refs h2⟩
  | call k f args =>
    cases k with
    | fz =>
      simp only [foot, ropT, List.not_mem_nil, false_or, or_self] at h no1 no2 no3 ⊢
      rcases opds_q ownsOf h with h | ⟨t, h1, h2⟩
      · exact no1 h
      · exact ⟨t, h1, own_refs h2⟩
    | peek =>
      simp only [foot, ropT, List.not_mem_nil, false_or, or_false] at h no1 no2 no3 ⊢
      rcases opds_q ownsOf h with h | ⟨t, h1, h2⟩
      · exact no1 h
      · exact ⟨t, h1, own_refs h2⟩
    | cell =>
      simp only [foot, ropT, List.not_mem_nil, false_or, or_self] at h no1 no2 no3 ⊢
      rcases opds_q addrs h with h | ⟨t, h1, h2⟩
      · exact no1 h
      · exact ⟨t, h1, addr_refs h2⟩
    | _ => simp [foot] at h
  | callv k x args =>
    cases k with
    | fz =>
      simp only [foot, ropT, List.not_mem_nil, false_or, or_self, List.flatMap_append] at h no1 no2 no3 ⊢
      rcases List.mem_append.1 h with h | h
      · rcases opds_q ownsOf h with h | ⟨t, h1, h2⟩
        · exact no1 (L h)
        · exact ⟨t, List.mem_append.2 (.inr h1), own_refs h2⟩
      · rcases opd_q (fun c => (capOf c).flatMap ownsOf) h with h | ⟨t, h1, h2⟩
        · exact no1 (R h)
        · exact ⟨t, List.mem_append.2 (.inl h1), cap_refs h2⟩
    | _ => simp [foot] at h
  | _ => simp [foot] at h

section
variable {w : World} {G : Nat → Prop} {ρ : List Loc} {σ : Store}

theorem St.noHole {b : Nat} {l : Loc} (hs : St w G ρ σ) (h : ρ[b]? = some l) (hl : l ≠ .hole) : σ[b]? ≠ some Blk.hole := by
  intro h1
  have := hs.ok b l .hole h h1
  cases l <;> first | exact this | exact hl rfl

theorem own_noHole {c : CV} {v : Value} {b : Nat} (hs : St w G ρ σ) (hr : RepC w G ρ c v) (hb : b ∈ own0 c) : σ[b]? ≠ some Blk.hole := by
  cases c with
  | own b' off n =>
    simp only [own0, List.mem_singleton] at hb
    subst hb
    obtain ⟨ad, cap, _, _, ho⟩ := rep_own hr
    unfold OwnOk at ho
    cases hl : ρ[b]? with
    | none => rw [hl] at ho; exact ho.elim
    | some l => exact hs.noHole hl (by rintro rfl; rw [hl] at ho; exact ho)
  | _ => simp [own0] at hb

theorem owns_noHole {c : CV} {v : Value} {b : Nat} (hs : St w G ρ σ) (hr : RepC w G ρ c v) (hb : b ∈ ownsOf c) : σ[b]? ≠ some Blk.hole := by
  cases c with
  | agg cs =>
    obtain ⟨vs, _, hl, hk, _⟩ := rep_agg hr
    simp only [ownsOf, List.mem_flatMap] at hb
    obtain ⟨c, hc, hb⟩ := hb
    obtain ⟨k, hk1⟩ := List.mem_iff_getElem?.1 hc
    have hkl : k < vs.length := by rw [← hl]; exact get_lt hk1
    exact own_noHole hs (hk k c vs[k] hk1 (by simp)) hb
  | _ => exact own_noHole hs hr hb

theorem refs_noHole {c : CV} {v : Value} {b : Nat} (hs : St w G ρ σ) (hr : RepC w G ρ c v) (hb : b ∈ refs c) : σ[b]? ≠ some Blk.hole := by
  rcases List.mem_append.1 hb with hb | hb
  · exact owns_noHole hs hr hb
  · rcases List.mem_append.1 hb with hb | hb
    · cases c with
      | ptr b' i off =>
        simp only [addrs, List.mem_singleton] at hb
        subst hb
        obtain ⟨ad, _, ho⟩ := rep_ptr hr
        unfold PtrOk at ho
        cases hl : ρ[b]? with
        | none => rw [hl] at ho; exact ho.elim
        | some l => exact hs.noHole hl (by rintro rfl; rw [hl] at ho; exact ho)
      | _ => simp [addrs] at hb
    · cases c with
      | fn f cap =>
        obtain ⟨vs, _, hl, hk⟩ := rep_fn hr
        simp only [capOf, List.mem_flatMap] at hb
        obtain ⟨c, hc, hb⟩ := hb
        obtain ⟨k, hk1⟩ := List.mem_iff_getElem?.1 hc
        have hkl : k < vs.length := by rw [← hl]; exact get_lt hk1
        exact owns_noHole hs (hk k c vs[k] hk1 (by simp)) hb
      | _ => simp [capOf] at hb

/-- places kept for blocks to come -/
theorem St.holes (hs : St w G ρ σ) (h : Nat) : St w G (ρ ++ List.replicate h .hole) (σ ++ List.replicate h .hole) := by
  have key : ∀ (i : Nat) l, (ρ ++ List.replicate h Loc.hole)[i]? = some l → (ρ[i]? = some l) ∨ (ρ.length ≤ i ∧ l = .hole) := by
    intro i l hi
    rcases Nat.lt_or_ge i ρ.length with h1 | h1
    · rw [List.getElem?_append_left h1] at hi; exact .inl hi
    · rw [List.getElem?_append_right h1, List.getElem?_replicate] at hi
      split at hi
      · cases hi; exact .inr ⟨h1, rfl⟩
      · cases hi
  have loc : LocExt ρ (ρ ++ List.replicate h .hole) := fun i l hl => .inl (by rw [List.getElem?_append_left (get_lt hl)]; exact hl)
  refine ⟨hs.g, by simp [hs.len], ?_, ?_⟩
  · intro i j k o t s o' t' s' hi hj
    rcases key i _ hi with hi | ⟨_, hi⟩
    · rcases key j _ hj with hj | ⟨_, hj⟩
      · exact hs.inj i j k o t s o' t' s' hi hj
      · cases hj
    · cases hi
  · intro i l b hi hb
    rcases key i _ hi with hi' | ⟨h1, rfl⟩
    · rw [List.getElem?_append_left (by rw [← hs.len]; exact get_lt hi')] at hb
      exact BlkOk.mono (fun _ _ => rfl) (fun _ x => x) loc (fun _ _ _ _ _ => ⟨rfl, id⟩) (hs.ok i l b hi' hb)
    · rw [List.getElem?_append_right (by rw [← hs.len]; exact h1), List.getElem?_replicate] at hb
      split at hb
      · cases hb; trivial
      · cases hb

end
end Go.Proofs.YtnbglampelmgoaaGreat.Vpi
