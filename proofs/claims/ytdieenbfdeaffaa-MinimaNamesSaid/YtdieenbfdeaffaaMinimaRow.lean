/- The row of MinimaNames: the program answers true. -/
import Derived.Test.YtdieenbfdeaffaaRows
import Derived.Test.YtdieenbfdeaffaaVMnE
import Derived.WalkKit
import Derived.ProofKit
import Derived.OpenShut
import Derived.ShutString
import Derived.ChangeOld
import Derived.Below
import Derived.SizedLaws
namespace Go.Proofs.Ytdieenbfdeaffaa.minimaNamesRow
open Go.ChangeShapes Go.WideShapes Go.ChangeAt Go.RowKit
set_option linter.unusedVariables false
theorem own : ownKnob Try.prog.godebug = none := by kernel_rfl
theorem laidOut : laidOutB Try.prog = true := by kernel_rfl

theorem walk (w : World) : Calls Try.prog 7 #[] w fun e w' => e = .returned (.bool true) ∧ Below w.heap.size w w' := by
  have hr := VMn.runs
  unfold VMn.isTrue at hr
  split at hr
  · rename_i b σ hrun
    subst hr
    have hst : Vpi.St w (fun _ => False) [] [] := ⟨fun k h => h.elim, rfl, by simp, by simp⟩
    obtain ⟨_, hc⟩ := VMn.sim 1000 7 [] [] _ hrun w (fun _ => False) [] hst [] rfl (by simp)
    refine hc.mono ?_
    rintro e w' ⟨v, G', ρ', rfl, s1, x1, r1⟩
    have hv := Vpi.rep_bool r1
    refine ⟨by rw [hv], x1.wld.1, x1.wld.2.1, x1.wld.2.2, x1.heap, fun k hk => x1.below k hk ?_⟩
    rintro ⟨i, o, t, s, h⟩
    simp at h
  · cases hr

set_option maxRecDepth 100000 in
theorem lifted (os : Os) (started : os.Started) (H : Type) (enc : TypeId × Value → H) :
    ReturnsInHanded {} Try.checked os 7 .any (Rows.minimaNamesSpec.pre6 enc Try.prog Try.f7 Rows.minimaNamesRow.domain false) (Rows.minimaNamesSpec.post enc Try.prog Try.f7 false true false false) := by
  refine returnsInHanded_of_change_sized (C := Try.checked) own started (by kernel_rfl) Try.func7
    (ChangeSpec.witness6 (enc := enc) (C := Try.checked) false ⟨#[], #[], []⟩ 8 (by kernel_rfl) (by kernel_rfl) (by kernel_rfl) (by kernel_rfl)) ?_
  intro W base args ds gs before hval0 hW hcnd hsz0 _
  have hW' := hW
  obtain ⟨p, q, hA0, hV, rfl, hfz, hnd⟩ := hW
  have hA : DataW.TrodAll enc Try.prog W 0 (fun _ => true) true Try.f7.params.toList args.toList ds p := hA0
  rw [Try.params7] at hA
  obtain ⟨hz, rfl, rfl⟩ := trodAll_nil hA
  obtain rfl : args = #[] := by cases args; simp_all
  obtain ⟨rfl, rfl⟩ := trodVars_none hV
  refine (walk W).mono fun e W' ⟨he, bel⟩ => ?_
  subst he
  exact ⟨_, rfl, _, _, _, [], _, [], hW', trodAll_mk1 (shut_bool Try.underlying4 _), trodAll_mk0, rfl, bel.frame _, fun h => by cases h⟩
theorem over : Rows.minimaNamesRow.holds Try.pinned (OpenSpec.ofChange Rows.minimaNamesSpec) :=
  OpenClaim.holds_of_wide 7 Try.f7 rfl rfl rfl rfl rfl rfl rfl ⟨rfl, rfl, rfl, rfl, rfl⟩ rfl rfl rfl rfl rfl (by kernel_rfl) Try.func7 (by kernel_rfl)
    (of_decide_eq_true (by kernel_rfl)) (by unfold Func.isWrapper; first | (rw [if_pos (by decide +kernel)]; kernel_rfl) | (rw [if_neg (by decide +kernel)]; exact ⟨rfl, rfl⟩))
    (fun os started H enc _ => lifted os started H enc)
theorem proved : Rows.MinimaNamesSaid := over
#print axioms proved
end Go.Proofs.Ytdieenbfdeaffaa.minimaNamesRow
namespace Go.Proofs.Ytdieenbfdeaffaa
/-- The row, under a short name, for the claim. -/
theorem minimaNames_holds : Rows.MinimaNamesSaid := minimaNamesRow.proved
end Go.Proofs.Ytdieenbfdeaffaa
