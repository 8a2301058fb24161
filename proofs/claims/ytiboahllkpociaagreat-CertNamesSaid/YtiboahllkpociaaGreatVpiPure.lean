/- The verified interpreter, part 22b: a function on values without references, as a contract in the model. -/
import Derived.Test.YtiboahllkpociaaGreatVpiEx
import Derived.Below
namespace Go.Proofs.YtiboahllkpociaaGreat.Vpi
open Go Go.RowKit
set_option linter.unusedVariables false
set_option linter.unusedSimpArgs false

theorem pu_closed {rp : RProg} {n f : Nat} {ps : List PV} {r : CV} (h : (runF rp n f (ps.map .p) []).bind (fun x => back 0 x.2 x.1) = some r) : Pu rp f ps r := by
  obtain ⟨x, h1, h2⟩ := Option.bind_eq_some_iff.1 h
  exact ⟨n, x, h1, h2⟩

/-- what a pure call does in the model -/
theorem call_pu {P : Program} {rp : RProg} (sim : ∀ m, CallSim P (runF rp m)) {w : World} {G : Nat → Prop} (hg : ∀ k, G k → k < w.heap.size) {f : Nat} {ps : List PV} {vs : List Value} {r : CV} (h : Pu rp f ps r) (hl : ps.length = vs.length)
    (hr : ∀ (k : Nat) p v, ps[k]? = some p → vs[k]? = some v → RepP w G p v) :
    Calls P f vs.toArray w fun e w' => ∃ v G', e = .returned v ∧ (∀ k, G' k → k < w'.heap.size) ∧ (∀ k, G k → G' k) ∧ RepC w' G' [] r v ∧ Below w.heap.size w w' := by
  obtain ⟨m, x, hrun, hb⟩ := h
  have hst : St w G [] [] := ⟨hg, rfl, by simp, by simp⟩
  have hd : doCall (runF rp m) .pu f (ps.map .p) [] = some (r, []) := by
    have ht : ∀ l : List PV, toPs (l.map .p) = some l := by
      intro l
      induction l with
      | nil => rfl
      | cons a l ih => simp only [List.map_cons, toPs, toP, isPure1, ih, Option.map_some]
    simp only [doCall, ht, hrun, hb, Option.map_some]
  have hc := sim_call (sim m) hd hst (vs := vs) (by simpa using hl) (by
    intro k c v hk hv
    rw [List.getElem?_map, Option.map_eq_some_iff] at hk
    obtain ⟨p, hp, rfl⟩ := hk
    exact .p _ _ (hr k p v hp hv))
  refine hc.2.mono ?_
  rintro e w' ⟨v, G', ρ', rfl, s1, x1, r1⟩
  have hρ : ρ' = [] := List.eq_nil_of_length_eq_zero s1.len
  subst hρ
  refine ⟨v, G', rfl, s1.g, x1.grow, r1, x1.wld.1, x1.wld.2.1, x1.wld.2.2, x1.heap, fun k hk => x1.below k hk ?_⟩
  rintro ⟨i, o, t, s, h⟩
  simp at h

theorem repC_p {w : World} {G : Nat → Prop} {ρ : List Loc} {x : PV} {v : Value} (h : RepC w G ρ (.p x) v) : RepP w G x v := by cases h; assumption
theorem repP_sl {w : World} {G : Nat → Prop} {es : List PV} {v : Value} (h : RepP w G (.sl es) v) : ∃ a cap, v = .slice a es.length cap := by
  cases h with
  | nil a cap => exact ⟨a, cap, rfl⟩
  | sl => exact ⟨_, _, rfl⟩
theorem repP_int {w : World} {G : Nat → Prop} {k : IntKind} {n : Int} {v : Value} (h : RepP w G (.int k n) v) : v = .int k n := by cases h; rfl
end Go.Proofs.YtiboahllkpociaaGreat.Vpi
