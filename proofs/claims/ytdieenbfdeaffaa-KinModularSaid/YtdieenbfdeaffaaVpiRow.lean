/- The verified interpreter, part 24: from a run of the interpreter to what a row asks. -/
import Derived.Test.YtdieenbfdeaffaaVpiOpen
import Derived.Test.YtdieenbfdeaffaaVpiGl
import Derived.Below
namespace Go.Proofs.Ytdieenbfdeaffaa.Vpi
open Go Go.RowKit
set_option linter.unusedVariables false
set_option linter.unusedSimpArgs false

theorem back_bool {τ : Store} {v : CV} {b : Bool} (h : back 0 τ v = some (.p (.bool b))) : v = .p (.bool b) := by
  cases v with
  | p x => rw [back_p] at h; cases h; rfl
  | tup vs => simp only [back, Option.map_eq_some_iff] at h; obtain ⟨_, _, h⟩ := h; cases h
  | own b' o n =>
    simp only [back, back1, frz1] at h
    split at h
    · cases h
    · simp only [Option.map_eq_some_iff] at h
      obtain ⟨x, hx, h⟩ := h
      cases h
      split at hx
      · split at hx <;> cases hx
      · cases hx
  | agg cs =>
    simp only [back, back1] at h
    split at h
    · simp only [frz, Option.map_eq_some_iff] at h
      obtain ⟨x, ⟨y, _, rfl⟩, h⟩ := h
      cases h
    · cases h
  | ptr b' i o => simp [back, back1] at h
  | _ => simp [back, back1, frz, frz1] at h

theorem walk_pu {P : Program} {rp : RProg} (sim : ∀ m, CallSim P (runF rp m)) {W : World} {f : Nat} {ps : List PV} {vs : List Value} (h : Pu rp f ps (.p (.bool true))) (hl : ps.length = vs.length)
    (hr : ∀ (k : Nat) p v, ps[k]? = some p → vs[k]? = some v → RepP W (· < W.heap.size) p v) : Calls P f vs.toArray W fun e w' => e = .returned (.bool true) ∧ Below W.heap.size W w' := by
  obtain ⟨m, r, hrun, hb⟩ := h
  have hv := back_bool hb
  have hst : St W (· < W.heap.size) [] [] := ⟨fun k h => h, rfl, by simp, by simp⟩
  obtain ⟨_, hc⟩ := sim m f _ [] r hrun W _ [] hst vs (by simpa using hl) (by
    intro k c v hk hv
    rw [List.getElem?_map, Option.map_eq_some_iff] at hk
    obtain ⟨p, hp, rfl⟩ := hk
    exact .p _ _ (hr k p v hp hv))
  refine hc.mono ?_
  rintro e w' ⟨v, G', ρ', rfl, s1, x1, r1⟩
  rw [hv] at r1
  have hv := rep_bool r1
  refine ⟨by rw [hv], x1.wld.1, x1.wld.2.1, x1.wld.2.2, x1.heap, fun k hk => x1.below k hk ?_⟩
  rintro ⟨i, o, t, s, h⟩
  simp at h

theorem heap_lt {W : World} : ∀ k arr el fr, W.heap[k]? = some (.cells arr el fr) → k < W.heap.size := by
  intro k arr el fr h
  rcases Nat.lt_or_ge k W.heap.size with h1 | h1
  · exact h1
  · rw [Array.getElem?_eq_none h1] at h; cases h
end Go.Proofs.Ytdieenbfdeaffaa.Vpi
