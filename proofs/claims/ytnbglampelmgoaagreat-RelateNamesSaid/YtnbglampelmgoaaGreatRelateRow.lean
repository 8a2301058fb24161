/- The row of RelateNames: the program answers true. -/
import Derived.Test.YtnbglampelmgoaaGreatRows
import Derived.Test.YtnbglampelmgoaaGreatVRnE
import Derived.WalkKit
import Derived.ProofKit
import Derived.OpenShut
import Derived.ShutString
import Derived.ChangeOld
import Derived.Below
import Derived.SizedLaws
import Derived.Leaving
import Derived.Conc.HoldsTime
namespace Go.Proofs.YtnbglampelmgoaaGreat.relateNamesRow
open Go.ChangeShapes Go.WideShapes Go.ChangeAt Go.RowKit
set_option linter.unusedVariables false
theorem own : ownKnob Tryz.prog.godebug = none := by kernel_rfl
theorem laidOut : laidOutB Tryz.prog = true := by kernel_rfl

theorem walk (w : World) : Calls Tryz.prog 3 #[] w fun e w' => e = .returned (.bool true) ∧ Below w.heap.size w w' := by
  have hr := VRn.runs
  unfold VRn.isTrue at hr
  split at hr
  · rename_i b σ hrun
    subst hr
    have hst : Vpi.St w (fun _ => False) [] [] := ⟨fun k h => h.elim, rfl, by simp, by simp⟩
    obtain ⟨_, hc⟩ := VRn.sim 1000 3 [] [] _ hrun w (fun _ => False) [] hst [] rfl (by simp)
    refine hc.mono ?_
    rintro e w' ⟨v, G', ρ', rfl, s1, x1, r1⟩
    have hv := Vpi.rep_bool r1
    refine ⟨by rw [hv], x1.wld.1, x1.wld.2.1, x1.wld.2.2, x1.heap, fun k hk => x1.below k hk ?_⟩
    rintro ⟨i, o, t, s, h⟩
    simp at h
  · cases hr

/-- A call of one goroutine, as a call that may start goroutines and come to the clock. -/
theorem leaving_time {H : Type} {enc : TypeId × Value → H} {a : Assume} {C : Checked} {os : Os} {f : FuncId} {fn : Func} {s : ChangeSpec} {F : Stop.Interp} {conds : List PathCond} {apart fresh handsOn : Bool}
    (h : ReturnsInHanded a C os f .any (s.pre6 enc C.prog fn conds apart) (s.post enc C.prog fn apart fresh handsOn false)) :
    ReturnsInLeavingWide a C os f .any (s.pre6 enc C.prog fn conds apart) ((OpenSpec.ofChange s).postWith enc C.prog fn F (outsideKept [.timePasses]) apart fresh handsOn) := fun enter => by
  obtain ⟨g0, g1, g2, g3, all⟩ := h enter
  refine ⟨g0, g1, g2, g3, fun w tape i hf => ?_⟩
  obtain ⟨n, v, w', hn, hc, hr, hp, ⟨j, last, hj, hs, hq, hh, he⟩, ha⟩ := all w tape i hf
  have hk : w'.blind.os = (Machine.entering C.prog w tape f i).world.blind.os := by
    obtain ⟨_, _, _, _, _, _, _, _, _, _, h5, _⟩ := hp
    exact h5.1
  have hp' : s.post enc C.prog fn apart fresh handsOn false (Machine.entering C.prog w tape f i).world.blind i.args v { w'.blind with os := (Machine.entering C.prog w tape f i).world.blind.os } := by
    rw [← hk]; exact hp
  exact ⟨n, v, w', hn, hc, hr, postWith_of_post hp' (hk ▸ ConcM.OsLater.refl _), ⟨j, last, hj, hs, hh, onlyLeaving_of_quiet hq, he⟩, ha⟩

set_option maxRecDepth 100000 in
theorem lifted (os : Os) (started : os.Started) (H : Type) (enc : TypeId × Value → H) :
    ReturnsInHanded { calm := true } Tryz.checked os 3 .any (Rows.relateNamesSpec.pre6 enc Tryz.prog Tryz.f3 Rows.relateNamesRow.domain false) (Rows.relateNamesSpec.post enc Tryz.prog Tryz.f3 false true false false) := by
  refine returnsInHanded_of_change_sized (C := Tryz.checked) own started (by kernel_rfl) Tryz.func3
    (ChangeSpec.witness6c (enc := enc) (C := Tryz.checked) ⟨#[], #[], []⟩ 8 (by kernel_rfl) (by kernel_rfl) (by kernel_rfl) (by kernel_rfl)) ?_
  intro W base args ds gs before hval0 hW hcnd hsz0 _
  have hW' := hW
  obtain ⟨p, q, hA0, hV, rfl, hfz, hnd⟩ := hW
  have hA : DataW.TrodAll enc Tryz.prog W 0 (fun _ => true) true Tryz.f3.params.toList args.toList ds p := hA0
  rw [Tryz.params3] at hA
  obtain ⟨hz, rfl, rfl⟩ := trodAll_nil hA
  obtain rfl : args = #[] := by cases args; simp_all
  obtain ⟨rfl, rfl⟩ := trodVars_none hV
  refine (walk W).mono fun e W' ⟨he, bel⟩ => ?_
  subst he
  exact ⟨_, rfl, _, _, _, [], _, [], hW', trodAll_mk1 (shut_bool Tryz.underlying4 _), trodAll_mk0, rfl, bel.frame _, fun h => by cases h⟩
theorem over : Rows.relateNamesRow.holds Tryz.pinned (OpenSpec.ofChange Rows.relateNamesSpec) :=
  OpenClaim.holds_of_wide_leaving_time 3 Tryz.f3 rfl rfl rfl rfl rfl rfl rfl ⟨rfl, rfl, rfl, rfl, rfl⟩ rfl rfl rfl rfl rfl (by kernel_rfl) Tryz.func3 (by kernel_rfl)
    (of_decide_eq_true (by kernel_rfl)) (by unfold Func.isWrapper; first | (rw [if_pos (by decide +kernel)]; kernel_rfl) | (rw [if_neg (by decide +kernel)]; exact ⟨rfl, rfl⟩))
    (fun os started H enc _ F => leaving_time (F := F) (lifted os started H enc))
theorem proved : Rows.RelateNamesSaid := over
#print axioms proved
end Go.Proofs.YtnbglampelmgoaaGreat.relateNamesRow
namespace Go.Proofs.YtnbglampelmgoaaGreat
/-- The row, under a short name, for the claim. -/
theorem relateNames_holds : Rows.RelateNamesSaid := relateNamesRow.proved
end Go.Proofs.YtnbglampelmgoaaGreat
