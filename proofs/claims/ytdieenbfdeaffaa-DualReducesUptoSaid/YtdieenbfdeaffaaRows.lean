/-
  No cell of these rows narrows 'for every input' (looked for: loops, veiled, ifaces, maps, wideKeys, modest, calm, conditions, laid).
  DERIVED. THE GIVEN ROWS OF THIS SEAT. 9 by the template 'for every input the law returns true; each argument reads behind the call as it read before'; 0 by the template 'total and deterministic' (their statements: YtdieenbfdeaffaaTotals.lean).
  GIVEN WITH THE SEED: the statements are not yours to turn. If you find one false, say at which input.
  Laid BY PROGRAM, IN A SANDBOX (cutbox-rows.mjs): the forced cells as the released guide's own fill.sh prints them over the translation eb84a418f3b4a8dd… (all of the seat's roots in one cut). By AI agents, Wed Nov 11 2026. No macro, syntax, notation, axiom, sorry.
-/
import Derived.Test.YtdieenbfdeaffaaChecked
import GoSem.Claim
import GoSem.ClaimJoined
import GoSem.ClaimMapViews
import Derived.JoinedTies
import Derived.KernelRfl
namespace Go.Proofs.Ytdieenbfdeaffaa
/- THE CELL 'sum', in the pinned program and in every row, IS THE sha256 OF THE DUMP (.gsa) THAT YtdieenbfdeaffaaProg.lean LOADS. Nothing in Lean hashes anything: it is a label: what it is worth is what the hold of that sum in a sandbox is worth. -/
noncomputable def Try.pinned : Pinned := { name := "ytdieenbfdeaffaa", sum := "eb84a418f3b4a8dd6a32800ebbf32027f4fafa46db827d9e1a777a5bf7ca0fb1", checked := Try.checked }
namespace Rows
def none {H : Type} : Left H := { results := [], args := [] }

/-- 'trammellaw26.KinDraws': WHATEVER THE INPUT: true; the input reads as it did. -/
def kinDrawsSpec : ChangeSpec := { name := "kinDraws", fn := fun _ => fun
  | [d1, d2, d3] => { results := [.lit (.bool true)], args := [d1, d2, d3] }
  | _ => none }
def kinDrawsRow : OpenClaim := { program := "ytdieenbfdeaffaa", sum := "eb84a418f3b4a8dd6a32800ebbf32027f4fafa46db827d9e1a777a5bf7ca0fb1", func := "trammel/trammellaw26.KinDraws", spec := "kinDraws", unfollowed := true, recurses := true, apart := false }
def KinDrawsSaid : Prop := kinDrawsRow.holds Try.pinned (OpenSpec.ofChange kinDrawsSpec)

/-- ITS FALSE NEIGHBOUR: 'it returns false'. Refute it at one input. -/
def kinDrawsWrong : ChangeSpec := { name := "kinDraws", fn := fun _ => fun
  | [d1, d2, d3] => { results := [.lit (.bool false)], args := [d1, d2, d3] }
  | _ => none }
def KinDrawsWrongFalsely : Prop := kinDrawsRow.holds Try.pinned (OpenSpec.ofChange kinDrawsWrong)

/-- 'trammellaw20.ThetaProducts': WHATEVER THE INPUT: true; the input reads as it did. -/
def thetaProductsSpec : ChangeSpec := { name := "thetaProducts", fn := fun _ => fun
  | [d1, d2, d3] => { results := [.lit (.bool true)], args := [d1, d2, d3] }
  | _ => none }
def thetaProductsRow : OpenClaim := { program := "ytdieenbfdeaffaa", sum := "eb84a418f3b4a8dd6a32800ebbf32027f4fafa46db827d9e1a777a5bf7ca0fb1", func := "trammel/trammellaw20.ThetaProducts", spec := "thetaProducts", apart := false }
def ThetaProductsSaid : Prop := thetaProductsRow.holds Try.pinned (OpenSpec.ofChange thetaProductsSpec)

/-- ITS FALSE NEIGHBOUR: 'it returns false'. Refute it at one input. -/
def thetaProductsWrong : ChangeSpec := { name := "thetaProducts", fn := fun _ => fun
  | [d1, d2, d3] => { results := [.lit (.bool false)], args := [d1, d2, d3] }
  | _ => none }
def ThetaProductsWrongFalsely : Prop := thetaProductsRow.holds Try.pinned (OpenSpec.ofChange thetaProductsWrong)

/-- 'trammellaw26.KinModular': WHATEVER THE INPUT: true; the input reads as it did. -/
def kinModularSpec : ChangeSpec := { name := "kinModular", fn := fun _ => fun
  | [d] => { results := [.lit (.bool true)], args := [d] }
  | _ => none }
def kinModularRow : OpenClaim := { program := "ytdieenbfdeaffaa", sum := "eb84a418f3b4a8dd6a32800ebbf32027f4fafa46db827d9e1a777a5bf7ca0fb1", func := "trammel/trammellaw26.KinModular", spec := "kinModular", unfollowed := true, recurses := true, apart := false }
def KinModularSaid : Prop := kinModularRow.holds Try.pinned (OpenSpec.ofChange kinModularSpec)

/-- ITS FALSE NEIGHBOUR: 'it returns false'. Refute it at one input. -/
def kinModularWrong : ChangeSpec := { name := "kinModular", fn := fun _ => fun
  | [d] => { results := [.lit (.bool false)], args := [d] }
  | _ => none }
def KinModularWrongFalsely : Prop := kinModularRow.holds Try.pinned (OpenSpec.ofChange kinModularWrong)

/-- 'trammellaw26.KinSpreads': WHATEVER THE INPUT: true; the input reads as it did. -/
def kinSpreadsSpec : ChangeSpec := { name := "kinSpreads", fn := fun _ => fun
  | [d1, d2, d3] => { results := [.lit (.bool true)], args := [d1, d2, d3] }
  | _ => none }
def kinSpreadsRow : OpenClaim := { program := "ytdieenbfdeaffaa", sum := "eb84a418f3b4a8dd6a32800ebbf32027f4fafa46db827d9e1a777a5bf7ca0fb1", func := "trammel/trammellaw26.KinSpreads", spec := "kinSpreads", unfollowed := true, recurses := true, apart := false }
def KinSpreadsSaid : Prop := kinSpreadsRow.holds Try.pinned (OpenSpec.ofChange kinSpreadsSpec)

/-- ITS FALSE NEIGHBOUR: 'it returns false'. Refute it at one input. -/
def kinSpreadsWrong : ChangeSpec := { name := "kinSpreads", fn := fun _ => fun
  | [d1, d2, d3] => { results := [.lit (.bool false)], args := [d1, d2, d3] }
  | _ => none }
def KinSpreadsWrongFalsely : Prop := kinSpreadsRow.holds Try.pinned (OpenSpec.ofChange kinSpreadsWrong)

/-- 'trammellaw19.MinimaNames': WHATEVER THE INPUT: true; the input reads as it did. -/
def minimaNamesSpec : ChangeSpec := { name := "minimaNames", fn := fun _ => fun
  | [] => { results := [.lit (.bool true)], args := [] }
  | _ => none }
def minimaNamesRow : OpenClaim := { program := "ytdieenbfdeaffaa", sum := "eb84a418f3b4a8dd6a32800ebbf32027f4fafa46db827d9e1a777a5bf7ca0fb1", func := "trammel/trammellaw19.MinimaNames", spec := "minimaNames", apart := false }
def MinimaNamesSaid : Prop := minimaNamesRow.holds Try.pinned (OpenSpec.ofChange minimaNamesSpec)

/-- ITS FALSE NEIGHBOUR: 'it returns false'. Refute it at one input. -/
def minimaNamesWrong : ChangeSpec := { name := "minimaNames", fn := fun _ => fun
  | [] => { results := [.lit (.bool false)], args := [] }
  | _ => none }
def MinimaNamesWrongFalsely : Prop := minimaNamesRow.holds Try.pinned (OpenSpec.ofChange minimaNamesWrong)

/-- 'trammellaw20.ThetaMakes': WHATEVER THE INPUT: true; the input reads as it did. -/
def thetaMakesSpec : ChangeSpec := { name := "thetaMakes", fn := fun _ => fun
  | [d1, d2, d3] => { results := [.lit (.bool true)], args := [d1, d2, d3] }
  | _ => none }
def thetaMakesRow : OpenClaim := { program := "ytdieenbfdeaffaa", sum := "eb84a418f3b4a8dd6a32800ebbf32027f4fafa46db827d9e1a777a5bf7ca0fb1", func := "trammel/trammellaw20.ThetaMakes", spec := "thetaMakes", unfollowed := true, recurses := true, apart := false }
def ThetaMakesSaid : Prop := thetaMakesRow.holds Try.pinned (OpenSpec.ofChange thetaMakesSpec)

/-- ITS FALSE NEIGHBOUR: 'it returns false'. Refute it at one input. -/
def thetaMakesWrong : ChangeSpec := { name := "thetaMakes", fn := fun _ => fun
  | [d1, d2, d3] => { results := [.lit (.bool false)], args := [d1, d2, d3] }
  | _ => none }
def ThetaMakesWrongFalsely : Prop := thetaMakesRow.holds Try.pinned (OpenSpec.ofChange thetaMakesWrong)

/-- 'trammellaw23.RelateSpace': WHATEVER THE INPUT: true; the input reads as it did. -/
def relateSpaceSpec : ChangeSpec := { name := "relateSpace", fn := fun _ => fun
  | [d] => { results := [.lit (.bool true)], args := [d] }
  | _ => none }
def relateSpaceRow : OpenClaim := { program := "ytdieenbfdeaffaa", sum := "eb84a418f3b4a8dd6a32800ebbf32027f4fafa46db827d9e1a777a5bf7ca0fb1", func := "trammel/trammellaw23.RelateSpace", spec := "relateSpace", unfollowed := true, recurses := true, apart := false }
def RelateSpaceSaid : Prop := relateSpaceRow.holds Try.pinned (OpenSpec.ofChange relateSpaceSpec)

/-- ITS FALSE NEIGHBOUR: 'it returns false'. Refute it at one input. -/
def relateSpaceWrong : ChangeSpec := { name := "relateSpace", fn := fun _ => fun
  | [d] => { results := [.lit (.bool false)], args := [d] }
  | _ => none }
def RelateSpaceWrongFalsely : Prop := relateSpaceRow.holds Try.pinned (OpenSpec.ofChange relateSpaceWrong)

/-- 'trammellaw26.KinTwists': WHATEVER THE INPUT: true; the input reads as it did. -/
def kinTwistsSpec : ChangeSpec := { name := "kinTwists", fn := fun _ => fun
  | [d1, d2, d3] => { results := [.lit (.bool true)], args := [d1, d2, d3] }
  | _ => none }
def kinTwistsRow : OpenClaim := { program := "ytdieenbfdeaffaa", sum := "eb84a418f3b4a8dd6a32800ebbf32027f4fafa46db827d9e1a777a5bf7ca0fb1", func := "trammel/trammellaw26.KinTwists", spec := "kinTwists", unfollowed := true, recurses := true, apart := false }
def KinTwistsSaid : Prop := kinTwistsRow.holds Try.pinned (OpenSpec.ofChange kinTwistsSpec)

/-- ITS FALSE NEIGHBOUR: 'it returns false'. Refute it at one input. -/
def kinTwistsWrong : ChangeSpec := { name := "kinTwists", fn := fun _ => fun
  | [d1, d2, d3] => { results := [.lit (.bool false)], args := [d1, d2, d3] }
  | _ => none }
def KinTwistsWrongFalsely : Prop := kinTwistsRow.holds Try.pinned (OpenSpec.ofChange kinTwistsWrong)

/-- 'trammellaw21.DualReduces': WHATEVER THE INPUT: true; the input reads as it did. -/
def dualReducesSpec : ChangeSpec := { name := "dualReduces", fn := fun _ => fun
  | [d1, d2] => { results := [.lit (.bool true)], args := [d1, d2] }
  | _ => none }
def dualReducesRow : OpenClaim := { program := "ytdieenbfdeaffaa", sum := "eb84a418f3b4a8dd6a32800ebbf32027f4fafa46db827d9e1a777a5bf7ca0fb1", func := "trammel/trammellaw21.DualReduces", spec := "dualReduces", unfollowed := true, recurses := true, apart := false }
def DualReducesSaid : Prop := dualReducesRow.holds Try.pinned (OpenSpec.ofChange dualReducesSpec)

/-- ITS FALSE NEIGHBOUR: 'it returns false'. Refute it at one input. -/
def dualReducesWrong : ChangeSpec := { name := "dualReduces", fn := fun _ => fun
  | [d1, d2] => { results := [.lit (.bool false)], args := [d1, d2] }
  | _ => none }
def DualReducesWrongFalsely : Prop := dualReducesRow.holds Try.pinned (OpenSpec.ofChange dualReducesWrong)

/- THE SECOND FORM. 'bulk': how many values and letters a reading holds, each counted each time it is reached (what is shared counts as often as it is met; a slice's spare places count too). A statement '..UptoSaid' is the law's where the arguments, and the package variables that the reading takes, are together of bulk at most 1048576: NARROWER than '..Said'. Prove '..Said' where nothing that the law and all that it calls make is longer than what came in: it says more and counts as full. Else prove '..UptoSaid'. A law counts once. -/
mutual
def uptoBulk {H : Type} : DataW H → Nat
  | .lit (.string bytes) => bytes.length + 1
  | .lit _ => 1
  | .nil => 1
  | .ptr d => uptoBulk d + 1
  | .slice elems spare => uptoBulkAll elems + uptoBulkAll spare + 1
  | .agg parts => uptoBulkAll parts + 1
  | .iface _ d => uptoBulk d + 1
  | .map entries => uptoBulkEntries entries + 1
  | .held _ => 1
def uptoBulkAll {H : Type} : List (DataW H) → Nat
  | [] => 0
  | d :: r => uptoBulk d + uptoBulkAll r
def uptoBulkEntries {H : Type} : List (Lit × DataW H) → Nat
  | [] => 0
  | x :: r => uptoBulkEntry x + uptoBulkEntries r
def uptoBulkEntry {H : Type} : Lit × DataW H → Nat
  | (.string bytes, d) => bytes.length + uptoBulk d + 1
  | (_, d) => uptoBulk d + 1
 end
def uptoSmall : (H : Type) → List (DataW H) → Bool := fun _ ds => decide (uptoBulkAll ds ≤ 1048576)
def OpenSpec.upto (s : _root_.Go.ChangeSpec) : _root_.Go.OpenSpec := { _root_.Go.OpenSpec.ofChange s with cond := some uptoSmall }

/-- 'trammellaw26.KinDraws', WHERE WHAT IT READS IS OF BULK AT MOST 1048576: true; the input reads as it did. -/
def kinDrawsUptoRow : OpenClaim := { program := "ytdieenbfdeaffaa", sum := "eb84a418f3b4a8dd6a32800ebbf32027f4fafa46db827d9e1a777a5bf7ca0fb1", func := "trammel/trammellaw26.KinDraws", spec := "kinDraws", unfollowed := true, recurses := true, apart := false, narrowed := true }
def KinDrawsUptoSaid : Prop := kinDrawsUptoRow.holds Try.pinned (OpenSpec.upto kinDrawsSpec)

/-- 'trammellaw20.ThetaProducts', WHERE WHAT IT READS IS OF BULK AT MOST 1048576: true; the input reads as it did. -/
def thetaProductsUptoRow : OpenClaim := { program := "ytdieenbfdeaffaa", sum := "eb84a418f3b4a8dd6a32800ebbf32027f4fafa46db827d9e1a777a5bf7ca0fb1", func := "trammel/trammellaw20.ThetaProducts", spec := "thetaProducts", apart := false, narrowed := true }
def ThetaProductsUptoSaid : Prop := thetaProductsUptoRow.holds Try.pinned (OpenSpec.upto thetaProductsSpec)

/-- 'trammellaw26.KinModular', WHERE WHAT IT READS IS OF BULK AT MOST 1048576: true; the input reads as it did. -/
def kinModularUptoRow : OpenClaim := { program := "ytdieenbfdeaffaa", sum := "eb84a418f3b4a8dd6a32800ebbf32027f4fafa46db827d9e1a777a5bf7ca0fb1", func := "trammel/trammellaw26.KinModular", spec := "kinModular", unfollowed := true, recurses := true, apart := false, narrowed := true }
def KinModularUptoSaid : Prop := kinModularUptoRow.holds Try.pinned (OpenSpec.upto kinModularSpec)

/-- 'trammellaw26.KinSpreads', WHERE WHAT IT READS IS OF BULK AT MOST 1048576: true; the input reads as it did. -/
def kinSpreadsUptoRow : OpenClaim := { program := "ytdieenbfdeaffaa", sum := "eb84a418f3b4a8dd6a32800ebbf32027f4fafa46db827d9e1a777a5bf7ca0fb1", func := "trammel/trammellaw26.KinSpreads", spec := "kinSpreads", unfollowed := true, recurses := true, apart := false, narrowed := true }
def KinSpreadsUptoSaid : Prop := kinSpreadsUptoRow.holds Try.pinned (OpenSpec.upto kinSpreadsSpec)

/-- 'trammellaw19.MinimaNames', WHERE WHAT IT READS IS OF BULK AT MOST 1048576: true; the input reads as it did. -/
def minimaNamesUptoRow : OpenClaim := { program := "ytdieenbfdeaffaa", sum := "eb84a418f3b4a8dd6a32800ebbf32027f4fafa46db827d9e1a777a5bf7ca0fb1", func := "trammel/trammellaw19.MinimaNames", spec := "minimaNames", apart := false, narrowed := true }
def MinimaNamesUptoSaid : Prop := minimaNamesUptoRow.holds Try.pinned (OpenSpec.upto minimaNamesSpec)

/-- 'trammellaw20.ThetaMakes', WHERE WHAT IT READS IS OF BULK AT MOST 1048576: true; the input reads as it did. -/
def thetaMakesUptoRow : OpenClaim := { program := "ytdieenbfdeaffaa", sum := "eb84a418f3b4a8dd6a32800ebbf32027f4fafa46db827d9e1a777a5bf7ca0fb1", func := "trammel/trammellaw20.ThetaMakes", spec := "thetaMakes", unfollowed := true, recurses := true, apart := false, narrowed := true }
def ThetaMakesUptoSaid : Prop := thetaMakesUptoRow.holds Try.pinned (OpenSpec.upto thetaMakesSpec)

/-- 'trammellaw23.RelateSpace', WHERE WHAT IT READS IS OF BULK AT MOST 1048576: true; the input reads as it did. -/
def relateSpaceUptoRow : OpenClaim := { program := "ytdieenbfdeaffaa", sum := "eb84a418f3b4a8dd6a32800ebbf32027f4fafa46db827d9e1a777a5bf7ca0fb1", func := "trammel/trammellaw23.RelateSpace", spec := "relateSpace", unfollowed := true, recurses := true, apart := false, narrowed := true }
def RelateSpaceUptoSaid : Prop := relateSpaceUptoRow.holds Try.pinned (OpenSpec.upto relateSpaceSpec)

/-- 'trammellaw26.KinTwists', WHERE WHAT IT READS IS OF BULK AT MOST 1048576: true; the input reads as it did. -/
def kinTwistsUptoRow : OpenClaim := { program := "ytdieenbfdeaffaa", sum := "eb84a418f3b4a8dd6a32800ebbf32027f4fafa46db827d9e1a777a5bf7ca0fb1", func := "trammel/trammellaw26.KinTwists", spec := "kinTwists", unfollowed := true, recurses := true, apart := false, narrowed := true }
def KinTwistsUptoSaid : Prop := kinTwistsUptoRow.holds Try.pinned (OpenSpec.upto kinTwistsSpec)

/-- 'trammellaw21.DualReduces', WHERE WHAT IT READS IS OF BULK AT MOST 1048576: true; the input reads as it did. -/
def dualReducesUptoRow : OpenClaim := { program := "ytdieenbfdeaffaa", sum := "eb84a418f3b4a8dd6a32800ebbf32027f4fafa46db827d9e1a777a5bf7ca0fb1", func := "trammel/trammellaw21.DualReduces", spec := "dualReduces", unfollowed := true, recurses := true, apart := false, narrowed := true }
def DualReducesUptoSaid : Prop := dualReducesUptoRow.holds Try.pinned (OpenSpec.upto dualReducesSpec)

end Rows
end Go.Proofs.Ytdieenbfdeaffaa
