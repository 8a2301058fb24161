/- CertNames: the calls without panics, run by the interpreter in the kernel, and as contracts. -/
import Derived.Test.YtiboahllkpociaaGreatVCn
import Derived.Test.YtiboahllkpociaaGreatVpiPure
namespace Go.Proofs.YtiboahllkpociaaGreat.VCn
open Go Vpi Go.RowKit
set_option maxRecDepth 100000

def one : PV := .agg [.bool false, .sl [.int .u32 1]]
def nought : PV := .agg [.bool false, .sl []]
/-- the plain lattice -/
def plainP : PV := .sl [.sl [one, nought], .sl [nought, one]]

theorem run5 : Pu rp 5 [] (.p plainP) := pu_closed (n := 1000) (by kernel_rfl)
theorem run6 : Pu rp 6 [plainP] (.p (.int .i64 0)) := pu_closed (n := 1000) (by kernel_rfl)
theorem run13 : Pu rp 13 [.sl []] (.tup [.p (.int .i64 0), .p (.int .i64 0), .p (.int .i64 0)]) := pu_closed (n := 1000) (by kernel_rfl)

/-- plain() -/
theorem plain (w : World) : Calls Tryz.prog 5 #[] w fun e w' => ∃ a cap G', e = .returned (.slice a 2 cap) ∧ (∀ k, G' k → k < w'.heap.size) ∧ RepP w' G' plainP (.slice a 2 cap) ∧ Below w.heap.size w w' := by
  refine (call_pu sim (w := w) (G := fun _ => False) (fun _ h => h.elim) run5 (vs := []) rfl (by simp)).mono ?_
  rintro e w' ⟨v, G', rfl, hg, _, hr, hb⟩
  obtain ⟨a, cap, rfl⟩ := repP_sl (repC_p hr)
  exact ⟨a, cap, G', rfl, hg, repC_p hr, hb⟩

/-- gso.Valid of the plain lattice -/
theorem valid (w : World) {G : Nat → Prop} {v : Value} (hg : ∀ k, G k → k < w.heap.size) (hv : RepP w G plainP v) : Calls Tryz.prog 6 #[v] w fun e w' => e = .returned (.int .i64 0) ∧ Below w.heap.size w w' := by
  refine (call_pu sim (w := w) (G := G) hg run6 (vs := [v]) rfl ?_).mono ?_
  · intro k p u hk hu
    rcases k with _ | k
    · simp only [List.getElem?_cons_zero, Option.some.injEq] at hk hu; subst hk; subst hu; exact hv
    · simp at hk
  rintro e w' ⟨v, G', rfl, _, _, hr, hb⟩
  exact ⟨by rw [repP_int (repC_p hr)], hb⟩

/-- mat.Shape of nothing -/
theorem shape (w : World) : Calls Tryz.prog 13 #[.slice none 0 0] w fun e w' => e = .returned (.tuple #[.int .i64 0, .int .i64 0, .int .i64 0]) ∧ Below w.heap.size w w' := by
  refine (call_pu sim (w := w) (G := fun _ => False) (fun _ h => h.elim) run13 (vs := [.slice none 0 0]) rfl ?_).mono ?_
  · intro k p u hk hu
    rcases k with _ | k
    · simp only [List.getElem?_cons_zero, Option.some.injEq] at hk hu; subst hk; subst hu; exact .nil _ _
    · simp at hk
  rintro e w' ⟨v, G', rfl, _, _, hr, hb⟩
  refine ⟨?_, hb⟩
  cases hr with
  | tup cs vs hl hk =>
    match vs, hl, hk with
    | [x, y, z], _, hk =>
      rw [repP_int (repC_p (hk 0 _ x rfl rfl)), repP_int (repC_p (hk 1 _ y rfl rfl)), repP_int (repC_p (hk 2 _ z rfl rfl))]
end Go.Proofs.YtiboahllkpociaaGreat.VCn
