/- The verified interpreter, part 12: every operation that is no call. -/
import Derived.Test.YtnbglampelmgoaaGreatVpiApp
namespace Go.Proofs.YtnbglampelmgoaaGreat.Vpi
open Go
set_option linter.unusedVariables false
set_option linter.unusedSimpArgs false
set_option maxRecDepth 4000
section
variable {P : Program} {o : Oper} {w : World} {G : Nat → Prop} {ρ : List Loc} {σ : Store} {e : Env} {a : Act} {base : Nat} {sl : Option Nat}

theorem toList1 {α : Type} {x : Array α} {a : α} (h : x.toList = [a]) : x = #[a] := by
  apply Array.ext'; simpa using h

theorem toList2 {α : Type} {x : Array α} {a b : α} (h : x.toList = [a, b]) : x = #[a, b] := by
  apply Array.ext'; simpa using h

theorem elem_spec {t : TypeId} {q : TypeId → Bool} (h : (match sliceElem P t with | some e => q e | none => false) = true) : ∃ el, P.underlying t = some (.slice el) ∧ q el = true := sliceElem_spec h

set_option maxHeartbeats 1000000 in
theorem sim_ev {r : ROp} {res : CV × Store} (hs : St w G ρ σ) (he : RepE w G ρ e a.tmps) (hok : okOp P o.op r = true) (h : ev base sl r e σ = some res) : SimOp P o a w G ρ res.1 res.2 := by
  generalize ho : o.op = op at hok
  unfold okOp at hok
  split at hok
  · simp only [ev] at h; cases h; exact sim_mv hs he (.inl ho) hok
  · simp only [ev] at h; cases h; exact sim_mv hs he (.inr ho) hok
  · simp only [Bool.and_eq_true] at hok
    simp only [ev] at h
    split at h
    · rename_i hb; cases h; exact sim_pick hs he ho hok.1.1 hok.1.2 hok.2 hb
    · cases h
  · exact sim_alloc hs ho hok h
  · exact sim_box hs he ho hok h
  · simp only [Bool.and_eq_true] at hok
    obtain ⟨h1, h2⟩ := hok
    split at h2
    · rename_i fs hfs
      simp only [Bool.and_eq_true] at h2
      exact sim_build hs he ho h1 hfs h2.1 h2.2 h
    · cases h2
  · obtain ⟨el, hel, hq⟩ := sliceElem_spec (P := P) hok
    simp only [Bool.and_eq_true, beq_iff_eq, decide_eq_true_eq] at hq
    obtain ⟨⟨⟨⟨h1, h2⟩, h3⟩, h4⟩, h5⟩ := hq
    cases hi : P.info? el with
    | none => rw [hi] at h5; cases h5
    | some i =>
      rw [hi] at h5
      simp only [Option.bind_some] at h5
      cases hz : i.zero with
      | none => rw [hz] at h5; cases h5
      | some zv =>
        rw [hz] at h5
        simp only [szP, hi, Option.map_some, Option.some.injEq] at h1
        exact sim_bslice hs he ho hel hi h1 hz (by simpa using h5) h2 h3 h4 h
  · simp only [Bool.and_eq_true, beq_iff_eq] at hok
    exact sim_load hs he ho hok.2 hok.1.1 hok.1.2 h
  · simp only [Bool.and_eq_true, beq_iff_eq] at hok
    exact sim_store hs he ho hok.1.2 hok.2 hok.1.1 h
  · exact sim_nilc hs he ho hok h
  · simp only [Bool.and_eq_true, beq_iff_eq] at hok
    obtain ⟨⟨⟨rfl, h1⟩, h2⟩, h3⟩ := hok
    exact sim_bin hs he ho h1 h2 h
  · simp only [Bool.and_eq_true] at hok
    exact sim_beq hs he ho hok.1.1.1 hok.1.1.2 hok.1.2 hok.2 h
  · simp only [Bool.and_eq_true, beq_iff_eq] at hok
    obtain ⟨rfl, h1⟩ := hok
    exact sim_un hs he ho h1 h
  · simp only [Bool.and_eq_true] at hok
    exact sim_conv hs he ho hok.2 hok.1.1 hok.1.2 h
  · simp only [Bool.and_eq_true, beq_iff_eq] at hok
    obtain ⟨⟨rfl, h1⟩, h2⟩ := hok
    exact sim_mkfn hs he ho h1 h2 h
  · simp only [Bool.and_eq_true] at hok
    obtain ⟨⟨h1, h2⟩, h3⟩ := hok
    obtain ⟨el, hel, hq⟩ := sliceElem_spec (P := P) h3
    cases hi : P.info? el with
    | none => rw [hi] at hq; cases hq
    | some i =>
      rw [hi] at hq
      simp only [Bool.and_eq_true, beq_iff_eq] at hq
      obtain ⟨⟨h4, h5⟩, h6⟩ := hq
      cases hz : i.zero with
      | none => rw [hz] at h6; cases h6
      | some zv =>
        rw [hz] at h6
        exact sim_mks hs he ho h1 h2 hel hi h4 h5 hz h6 h
  · simp only [Bool.and_eq_true] at hok
    obtain ⟨⟨⟨⟨⟨h1, h2⟩, h3⟩, h4⟩, h5⟩, h6⟩ := hok
    obtain ⟨el, hel, hq⟩ := sliceElem_spec (P := P) h1
    exact sim_slice hs he ho h2 h3 h4 h5 h6 hel (by simpa using hq) h
  · simp only [Bool.and_eq_true] at hok
    obtain ⟨h1, h2⟩ := hok
    split at h1
    · rename_i fs hfs
      split at h1
      · rename_i fd hfd
        simp only [Bool.and_eq_true, beq_iff_eq] at h1
        obtain ⟨h3, h4⟩ := h1
        split at h4
        · rename_i n hn
          exact sim_fieldA hs he ho h2 hfs hfd h3 hn (by simpa using h4) h
        · cases h4
      · cases h1
    · cases h1
  · simp only [Bool.and_eq_true] at hok
    obtain ⟨h1, h2⟩ := hok
    split at h1
    · rename_i fs hfs
      split at h1
      · rename_i fd hfd
        simp only [Bool.and_eq_true, beq_iff_eq] at h1
        exact sim_field hs he ho h2 hfs hfd h1.1.1 h1.1.2 h1.2 h
      · cases h1
    · cases h1
  · simp only [Bool.and_eq_true] at hok
    obtain ⟨⟨h1, h2⟩, h3⟩ := hok
    obtain ⟨el, hel, hq⟩ := sliceElem_spec (P := P) h1
    exact sim_indexA hs he ho h2 h3 hel (by simpa using hq) h
  · simp only [Bool.and_eq_true, beq_iff_eq] at hok
    obtain ⟨rfl, h1⟩ := hok
    exact sim_extract hs he ho h1 h
  · simp only [Bool.and_eq_true, beq_iff_eq] at hok
    obtain ⟨⟨h1, h2⟩, h3⟩ := hok
    unfold strTab at h3
    split at h3
    · exact sim_idx hs he ho h1 h2 (by simpa using h3) h
    · cases h3
  · unfold okCall at hok
    split at hok
    · split at hok
      · rename_i h1 h2 h3
        simp only [Bool.and_eq_true] at hok
        exact sim_len hs he ⟨_, ho, h1, toList1 h2, toList1 h3⟩ hok.2 hok.1 h
      · cases hok
    · split at hok
      · rename_i h1 h2 h3
        simp only [Bool.and_eq_true, beq_iff_eq] at hok
        obtain ⟨⟨⟨rfl, h4⟩, h5⟩, h6⟩ := hok
        obtain ⟨el, hel, hq⟩ := sliceElem_spec (P := P) h6
        cases hi : P.info? el with
        | none => rw [hi] at hq; cases hq
        | some i =>
          rw [hi] at hq
          simp only [Bool.and_eq_true, beq_iff_eq, bne_iff_ne] at hq
          obtain ⟨⟨⟨⟨h7, h8⟩, h9⟩, h10⟩, h11⟩ := hq
          cases hz : i.zero with
          | none => rw [hz] at h11; cases h11
          | some zv =>
            rw [hz] at h11
            exact sim_append hs he ⟨_, ho, h1, toList2 h2, toList2 h3⟩ h4 h5 hel hi h7 h8 hz (by simpa using h11) h9 h10 h
      · cases hok
    · split at hok
      · rename_i h1 h2 h3
        simp only [Bool.and_eq_true] at hok
        obtain ⟨⟨h4, h5⟩, h6⟩ := hok
        obtain ⟨el, hel, hq⟩ := sliceElem_spec (P := P) h6
        exact sim_copy hs he ⟨_, ho, h1, toList2 h2, toList2 h3⟩ h4 h5 hel (by simpa using hq) h
      · cases hok
    · split at hok
      · rename_i h1 h2
        simp only [Bool.and_eq_true] at hok
        exact sim_mx hs he ⟨_, ho, h1, toList2 h2⟩ hok.1 hok.2 h
      · cases hok
    · split at hok
      · rename_i h1 h2
        simp only [Bool.and_eq_true] at hok
        exact sim_mn hs he ⟨_, ho, h1, toList2 h2⟩ hok.1 hok.2 h
      · cases hok
    · simp [ev] at h
    · simp [ev] at h
    · cases hok
  · cases hok

end
end Go.Proofs.YtnbglampelmgoaaGreat.Vpi
