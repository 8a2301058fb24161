/-
  No cell of these rows narrows 'for every input' (looked for: loops, veiled, ifaces, maps, wideKeys, modest, calm, conditions, laid).
  DERIVED. THE GIVEN ROWS OF THIS SEAT. 3 by the template 'for every input the law returns true; each argument reads behind the call as it read before'; 0 by the template 'total and deterministic' (their statements: YtdieenbfdeaffaaGreatTotals.lean).
  GIVEN WITH THE SEED: the statements are not yours to turn. If you find one false, say at which input.
  Laid BY PROGRAM, IN A SANDBOX (cutbox-rows.mjs): the forced cells as the released guide's own fill.sh prints them over the translation 0d1af5c245abfb37… (all of the seat's roots in one cut). By AI agents, Wed Nov 11 2026. No macro, syntax, notation, axiom, sorry.
-/
import Derived.Test.YtdieenbfdeaffaaGreatChecked
import GoSem.Claim
import GoSem.ClaimJoined
import GoSem.ClaimMapViews
import Derived.JoinedTies
import Derived.KernelRfl
namespace Go.Proofs.YtdieenbfdeaffaaGreat
/- THE CELL 'sum', in the pinned program and in every row, IS THE sha256 OF THE DUMP (.gsa) THAT YtdieenbfdeaffaaGreatProg.lean LOADS. Nothing in Lean hashes anything: it is a label: what it is worth is what the hold of that sum in a sandbox is worth. -/
noncomputable def Tryz.pinned : Pinned := { name := "ytdieenbfdeaffaagreat", sum := "0d1af5c245abfb37db92f8f7a5a12b2c8cbd1c090cd76dc95744b5b2c8f56792", checked := Tryz.checked }
namespace Rows
def none {H : Type} : Left H := { results := [], args := [] }

/-- 'trammellaw21.DualScaled': WHATEVER THE INPUT: true; the input reads as it did. -/
def dualScaledSpec : ChangeSpec := { name := "dualScaled", fn := fun _ => fun
  | [d1, d2] => { results := [.lit (.bool true)], args := [d1, d2] }
  | _ => none }
def dualScaledRow : OpenClaim := { program := "ytdieenbfdeaffaagreat", sum := "0d1af5c245abfb37db92f8f7a5a12b2c8cbd1c090cd76dc95744b5b2c8f56792", func := "trammel/trammellaw21.DualScaled", spec := "dualScaled", unfollowed := true, recurses := true, apart := false }
def DualScaledSaid : Prop := dualScaledRow.holds Tryz.pinned (OpenSpec.ofChange dualScaledSpec)

/-- ITS FALSE NEIGHBOUR: 'it returns false'. Refute it at one input. -/
def dualScaledWrong : ChangeSpec := { name := "dualScaled", fn := fun _ => fun
  | [d1, d2] => { results := [.lit (.bool false)], args := [d1, d2] }
  | _ => none }
def DualScaledWrongFalsely : Prop := dualScaledRow.holds Tryz.pinned (OpenSpec.ofChange dualScaledWrong)

/-- 'trammellaw21.DualPairs': WHATEVER THE INPUT: true; the input reads as it did. -/
def dualPairsSpec : ChangeSpec := { name := "dualPairs", fn := fun _ => fun
  | [d] => { results := [.lit (.bool true)], args := [d] }
  | _ => none }
def dualPairsRow : OpenClaim := { program := "ytdieenbfdeaffaagreat", sum := "0d1af5c245abfb37db92f8f7a5a12b2c8cbd1c090cd76dc95744b5b2c8f56792", func := "trammel/trammellaw21.DualPairs", spec := "dualPairs", unfollowed := true, recurses := true, apart := false }
def DualPairsSaid : Prop := dualPairsRow.holds Tryz.pinned (OpenSpec.ofChange dualPairsSpec)

/-- ITS FALSE NEIGHBOUR: 'it returns false'. Refute it at one input. -/
def dualPairsWrong : ChangeSpec := { name := "dualPairs", fn := fun _ => fun
  | [d] => { results := [.lit (.bool false)], args := [d] }
  | _ => none }
def DualPairsWrongFalsely : Prop := dualPairsRow.holds Tryz.pinned (OpenSpec.ofChange dualPairsWrong)

/-- 'trammellaw26.KinBases': WHATEVER THE INPUT: true; the input reads as it did. -/
def kinBasesSpec : ChangeSpec := { name := "kinBases", fn := fun _ => fun
  | [d1, d2] => { results := [.lit (.bool true)], args := [d1, d2] }
  | _ => none }
def kinBasesRow : OpenClaim := { program := "ytdieenbfdeaffaagreat", sum := "0d1af5c245abfb37db92f8f7a5a12b2c8cbd1c090cd76dc95744b5b2c8f56792", func := "trammel/trammellaw26.KinBases", spec := "kinBases", unfollowed := true, recurses := true, apart := false }
def KinBasesSaid : Prop := kinBasesRow.holds Tryz.pinned (OpenSpec.ofChange kinBasesSpec)

/-- ITS FALSE NEIGHBOUR: 'it returns false'. Refute it at one input. -/
def kinBasesWrong : ChangeSpec := { name := "kinBases", fn := fun _ => fun
  | [d1, d2] => { results := [.lit (.bool false)], args := [d1, d2] }
  | _ => none }
def KinBasesWrongFalsely : Prop := kinBasesRow.holds Tryz.pinned (OpenSpec.ofChange kinBasesWrong)

/- THE SECOND FORM. 'bulk': how many values and letters a reading holds, each counted each time it is reached (what is shared counts as often as it is met; a slice's spare places count too). A statement '..UptoSaid' is the law's where the arguments, and the package variables that the reading takes, are together of bulk at most 1048576: NARROWER than '..Said'. Prove '..Said' where nothing that the law and all that it calls make is longer than what came in: it says more and counts as full. Else prove '..UptoSaid'. A law counts once. -/
mutual
def uptoBulk {H : Type} : DataW H → Nat
  | .lit (.string bytes) => bytes.length + 1
  | .lit _ => 1
  | .nil => 1
  | .ptr d => uptoBulk d + 1
  | .slice elems spare => uptoBulkAll elems + uptoBulkAll spare + 1
  | .agg parts => uptoBulkAll parts + 1
  | .iface _ d => uptoBulk d + 1
  | .map entries => uptoBulkEntries entries + 1
  | .held _ => 1
def uptoBulkAll {H : Type} : List (DataW H) → Nat
  | [] => 0
  | d :: r => uptoBulk d + uptoBulkAll r
def uptoBulkEntries {H : Type} : List (Lit × DataW H) → Nat
  | [] => 0
  | x :: r => uptoBulkEntry x + uptoBulkEntries r
def uptoBulkEntry {H : Type} : Lit × DataW H → Nat
  | (.string bytes, d) => bytes.length + uptoBulk d + 1
  | (_, d) => uptoBulk d + 1
 end
def uptoSmall : (H : Type) → List (DataW H) → Bool := fun _ ds => decide (uptoBulkAll ds ≤ 1048576)
def OpenSpec.upto (s : _root_.Go.ChangeSpec) : _root_.Go.OpenSpec := { _root_.Go.OpenSpec.ofChange s with cond := some uptoSmall }

/-- 'trammellaw21.DualScaled', WHERE WHAT IT READS IS OF BULK AT MOST 1048576: true; the input reads as it did. -/
def dualScaledUptoRow : OpenClaim := { program := "ytdieenbfdeaffaagreat", sum := "0d1af5c245abfb37db92f8f7a5a12b2c8cbd1c090cd76dc95744b5b2c8f56792", func := "trammel/trammellaw21.DualScaled", spec := "dualScaled", unfollowed := true, recurses := true, apart := false, narrowed := true }
def DualScaledUptoSaid : Prop := dualScaledUptoRow.holds Tryz.pinned (OpenSpec.upto dualScaledSpec)

/-- 'trammellaw21.DualPairs', WHERE WHAT IT READS IS OF BULK AT MOST 1048576: true; the input reads as it did. -/
def dualPairsUptoRow : OpenClaim := { program := "ytdieenbfdeaffaagreat", sum := "0d1af5c245abfb37db92f8f7a5a12b2c8cbd1c090cd76dc95744b5b2c8f56792", func := "trammel/trammellaw21.DualPairs", spec := "dualPairs", unfollowed := true, recurses := true, apart := false, narrowed := true }
def DualPairsUptoSaid : Prop := dualPairsUptoRow.holds Tryz.pinned (OpenSpec.upto dualPairsSpec)

/-- 'trammellaw26.KinBases', WHERE WHAT IT READS IS OF BULK AT MOST 1048576: true; the input reads as it did. -/
def kinBasesUptoRow : OpenClaim := { program := "ytdieenbfdeaffaagreat", sum := "0d1af5c245abfb37db92f8f7a5a12b2c8cbd1c090cd76dc95744b5b2c8f56792", func := "trammel/trammellaw26.KinBases", spec := "kinBases", unfollowed := true, recurses := true, apart := false, narrowed := true }
def KinBasesUptoSaid : Prop := kinBasesUptoRow.holds Tryz.pinned (OpenSpec.upto kinBasesSpec)

end Rows
end Go.Proofs.YtdieenbfdeaffaaGreat
