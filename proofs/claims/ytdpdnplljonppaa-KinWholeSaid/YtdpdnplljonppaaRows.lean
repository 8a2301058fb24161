/-
  No cell of these rows narrows 'for every input' (looked for: loops, veiled, ifaces, maps, wideKeys, modest, calm, conditions, laid).
  DERIVED. THE GIVEN ROWS OF THIS SEAT. 5 by the template 'for every input the law returns true; each argument reads behind the call as it read before'; 0 by the template 'total and deterministic' (their statements: YtdpdnplljonppaaTotals.lean).
  GIVEN WITH THE SEED: the statements are not yours to turn. If you find one false, say at which input.
  Laid BY PROGRAM, IN A SANDBOX (cutbox-rows.mjs): the forced cells as the released guide's own fill.sh prints them over the translation 72623e5874ca86e9… (all of the seat's roots in one cut). By AI agents, Wed Nov 11 2026. No macro, syntax, notation, axiom, sorry.
-/
import Derived.Test.YtdpdnplljonppaaChecked
import GoSem.Claim
import GoSem.ClaimJoined
import GoSem.ClaimMapViews
import Derived.JoinedTies
import Derived.KernelRfl
namespace Go.Proofs.Ytdpdnplljonppaa
/- THE CELL 'sum', in the pinned program and in every row, IS THE sha256 OF THE DUMP (.gsa) THAT YtdpdnplljonppaaProg.lean LOADS. Nothing in Lean hashes anything: it is a label: what it is worth is what the hold of that sum in a sandbox is worth. -/
noncomputable def Try.pinned : Pinned := { name := "ytdpdnplljonppaa", sum := "72623e5874ca86e9d7581f95b6bfd9c123bbcab952c249986c66292da35e543e", checked := Try.checked }
namespace Rows
def none {H : Type} : Left H := { results := [], args := [] }

/-- 'trammellaw26.KinTwists': WHATEVER THE INPUT: true; the input reads as it did. -/
def kinTwistsSpec : ChangeSpec := { name := "kinTwists", fn := fun _ => fun
  | [d1, d2, d3] => { results := [.lit (.bool true)], args := [d1, d2, d3] }
  | _ => none }
def kinTwistsRow : OpenClaim := { program := "ytdpdnplljonppaa", sum := "72623e5874ca86e9d7581f95b6bfd9c123bbcab952c249986c66292da35e543e", func := "trammel/trammellaw26.KinTwists", spec := "kinTwists", unfollowed := true, recurses := true, apart := false }
def KinTwistsSaid : Prop := kinTwistsRow.holds Try.pinned (OpenSpec.ofChange kinTwistsSpec)

/-- ITS FALSE NEIGHBOUR: 'it returns false'. Refute it at one input. -/
def kinTwistsWrong : ChangeSpec := { name := "kinTwists", fn := fun _ => fun
  | [d1, d2, d3] => { results := [.lit (.bool false)], args := [d1, d2, d3] }
  | _ => none }
def KinTwistsWrongFalsely : Prop := kinTwistsRow.holds Try.pinned (OpenSpec.ofChange kinTwistsWrong)

/-- 'trammellaw23.RelateSpace': WHATEVER THE INPUT: true; the input reads as it did. -/
def relateSpaceSpec : ChangeSpec := { name := "relateSpace", fn := fun _ => fun
  | [d] => { results := [.lit (.bool true)], args := [d] }
  | _ => none }
def relateSpaceRow : OpenClaim := { program := "ytdpdnplljonppaa", sum := "72623e5874ca86e9d7581f95b6bfd9c123bbcab952c249986c66292da35e543e", func := "trammel/trammellaw23.RelateSpace", spec := "relateSpace", unfollowed := true, recurses := true, apart := false }
def RelateSpaceSaid : Prop := relateSpaceRow.holds Try.pinned (OpenSpec.ofChange relateSpaceSpec)

/-- ITS FALSE NEIGHBOUR: 'it returns false'. Refute it at one input. -/
def relateSpaceWrong : ChangeSpec := { name := "relateSpace", fn := fun _ => fun
  | [d] => { results := [.lit (.bool false)], args := [d] }
  | _ => none }
def RelateSpaceWrongFalsely : Prop := relateSpaceRow.holds Try.pinned (OpenSpec.ofChange relateSpaceWrong)

/-- 'trammellaw21.DualReduces': WHATEVER THE INPUT: true; the input reads as it did. -/
def dualReducesSpec : ChangeSpec := { name := "dualReduces", fn := fun _ => fun
  | [d1, d2] => { results := [.lit (.bool true)], args := [d1, d2] }
  | _ => none }
def dualReducesRow : OpenClaim := { program := "ytdpdnplljonppaa", sum := "72623e5874ca86e9d7581f95b6bfd9c123bbcab952c249986c66292da35e543e", func := "trammel/trammellaw21.DualReduces", spec := "dualReduces", unfollowed := true, recurses := true, apart := false }
def DualReducesSaid : Prop := dualReducesRow.holds Try.pinned (OpenSpec.ofChange dualReducesSpec)

/-- ITS FALSE NEIGHBOUR: 'it returns false'. Refute it at one input. -/
def dualReducesWrong : ChangeSpec := { name := "dualReduces", fn := fun _ => fun
  | [d1, d2] => { results := [.lit (.bool false)], args := [d1, d2] }
  | _ => none }
def DualReducesWrongFalsely : Prop := dualReducesRow.holds Try.pinned (OpenSpec.ofChange dualReducesWrong)

/-- 'trammellaw26.KinWhole': WHATEVER THE INPUT: true; the input reads as it did. -/
def kinWholeSpec : ChangeSpec := { name := "kinWhole", fn := fun _ => fun
  | [d1, d2] => { results := [.lit (.bool true)], args := [d1, d2] }
  | _ => none }
def kinWholeRow : OpenClaim := { program := "ytdpdnplljonppaa", sum := "72623e5874ca86e9d7581f95b6bfd9c123bbcab952c249986c66292da35e543e", func := "trammel/trammellaw26.KinWhole", spec := "kinWhole", inPlace := ["internal/abi.NoEscape", "internal/bytealg.MakeNoZero"], unfollowed := true, recurses := true, apart := false }
def KinWholeSaid : Prop := kinWholeRow.holds Try.pinned (OpenSpec.ofChange kinWholeSpec)

/-- ITS FALSE NEIGHBOUR: 'it returns false'. Refute it at one input. -/
def kinWholeWrong : ChangeSpec := { name := "kinWhole", fn := fun _ => fun
  | [d1, d2] => { results := [.lit (.bool false)], args := [d1, d2] }
  | _ => none }
def KinWholeWrongFalsely : Prop := kinWholeRow.holds Try.pinned (OpenSpec.ofChange kinWholeWrong)

/-- 'trammellaw26.KinSame': WHATEVER THE INPUT: true; the input reads as it did. -/
def kinSameSpec : ChangeSpec := { name := "kinSame", fn := fun _ => fun
  | [d1, d2, d3] => { results := [.lit (.bool true)], args := [d1, d2, d3] }
  | _ => none }
def kinSameRow : OpenClaim := { program := "ytdpdnplljonppaa", sum := "72623e5874ca86e9d7581f95b6bfd9c123bbcab952c249986c66292da35e543e", func := "trammel/trammellaw26.KinSame", spec := "kinSame", inPlace := ["internal/abi.NoEscape", "internal/bytealg.MakeNoZero"], unfollowed := true, recurses := true, apart := false }
def KinSameSaid : Prop := kinSameRow.holds Try.pinned (OpenSpec.ofChange kinSameSpec)

/-- ITS FALSE NEIGHBOUR: 'it returns false'. Refute it at one input. -/
def kinSameWrong : ChangeSpec := { name := "kinSame", fn := fun _ => fun
  | [d1, d2, d3] => { results := [.lit (.bool false)], args := [d1, d2, d3] }
  | _ => none }
def KinSameWrongFalsely : Prop := kinSameRow.holds Try.pinned (OpenSpec.ofChange kinSameWrong)

/- THE SECOND FORM. 'bulk': how many values and letters a reading holds, each counted each time it is reached (what is shared counts as often as it is met; a slice's spare places count too). A statement '..UptoSaid' is the law's where the arguments, and the package variables that the reading takes, are together of bulk at most 1048576: NARROWER than '..Said'. Prove '..Said' where nothing that the law and all that it calls make is longer than what came in: it says more and counts as full. Else prove '..UptoSaid'. A law counts once. -/
mutual
def uptoBulk {H : Type} : DataW H → Nat
  | .lit (.string bytes) => bytes.length + 1
  | .lit _ => 1
  | .nil => 1
  | .ptr d => uptoBulk d + 1
  | .slice elems spare => uptoBulkAll elems + uptoBulkAll spare + 1
  | .agg parts => uptoBulkAll parts + 1
  | .iface _ d => uptoBulk d + 1
  | .map entries => uptoBulkEntries entries + 1
  | .held _ => 1
def uptoBulkAll {H : Type} : List (DataW H) → Nat
  | [] => 0
  | d :: r => uptoBulk d + uptoBulkAll r
def uptoBulkEntries {H : Type} : List (Lit × DataW H) → Nat
  | [] => 0
  | x :: r => uptoBulkEntry x + uptoBulkEntries r
def uptoBulkEntry {H : Type} : Lit × DataW H → Nat
  | (.string bytes, d) => bytes.length + uptoBulk d + 1
  | (_, d) => uptoBulk d + 1
 end
def uptoSmall : (H : Type) → List (DataW H) → Bool := fun _ ds => decide (uptoBulkAll ds ≤ 1048576)
def OpenSpec.upto (s : _root_.Go.ChangeSpec) : _root_.Go.OpenSpec := { _root_.Go.OpenSpec.ofChange s with cond := some uptoSmall }

/-- 'trammellaw26.KinTwists', WHERE WHAT IT READS IS OF BULK AT MOST 1048576: true; the input reads as it did. -/
def kinTwistsUptoRow : OpenClaim := { program := "ytdpdnplljonppaa", sum := "72623e5874ca86e9d7581f95b6bfd9c123bbcab952c249986c66292da35e543e", func := "trammel/trammellaw26.KinTwists", spec := "kinTwists", unfollowed := true, recurses := true, apart := false, narrowed := true }
def KinTwistsUptoSaid : Prop := kinTwistsUptoRow.holds Try.pinned (OpenSpec.upto kinTwistsSpec)

/-- 'trammellaw23.RelateSpace', WHERE WHAT IT READS IS OF BULK AT MOST 1048576: true; the input reads as it did. -/
def relateSpaceUptoRow : OpenClaim := { program := "ytdpdnplljonppaa", sum := "72623e5874ca86e9d7581f95b6bfd9c123bbcab952c249986c66292da35e543e", func := "trammel/trammellaw23.RelateSpace", spec := "relateSpace", unfollowed := true, recurses := true, apart := false, narrowed := true }
def RelateSpaceUptoSaid : Prop := relateSpaceUptoRow.holds Try.pinned (OpenSpec.upto relateSpaceSpec)

/-- 'trammellaw21.DualReduces', WHERE WHAT IT READS IS OF BULK AT MOST 1048576: true; the input reads as it did. -/
def dualReducesUptoRow : OpenClaim := { program := "ytdpdnplljonppaa", sum := "72623e5874ca86e9d7581f95b6bfd9c123bbcab952c249986c66292da35e543e", func := "trammel/trammellaw21.DualReduces", spec := "dualReduces", unfollowed := true, recurses := true, apart := false, narrowed := true }
def DualReducesUptoSaid : Prop := dualReducesUptoRow.holds Try.pinned (OpenSpec.upto dualReducesSpec)

/-- 'trammellaw26.KinWhole', WHERE WHAT IT READS IS OF BULK AT MOST 1048576: true; the input reads as it did. -/
def kinWholeUptoRow : OpenClaim := { program := "ytdpdnplljonppaa", sum := "72623e5874ca86e9d7581f95b6bfd9c123bbcab952c249986c66292da35e543e", func := "trammel/trammellaw26.KinWhole", spec := "kinWhole", inPlace := ["internal/abi.NoEscape", "internal/bytealg.MakeNoZero"], unfollowed := true, recurses := true, apart := false, narrowed := true }
def KinWholeUptoSaid : Prop := kinWholeUptoRow.holds Try.pinned (OpenSpec.upto kinWholeSpec)

/-- 'trammellaw26.KinSame', WHERE WHAT IT READS IS OF BULK AT MOST 1048576: true; the input reads as it did. -/
def kinSameUptoRow : OpenClaim := { program := "ytdpdnplljonppaa", sum := "72623e5874ca86e9d7581f95b6bfd9c123bbcab952c249986c66292da35e543e", func := "trammel/trammellaw26.KinSame", spec := "kinSame", inPlace := ["internal/abi.NoEscape", "internal/bytealg.MakeNoZero"], unfollowed := true, recurses := true, apart := false, narrowed := true }
def KinSameUptoSaid : Prop := kinSameUptoRow.holds Try.pinned (OpenSpec.upto kinSameSpec)

end Rows
end Go.Proofs.Ytdpdnplljonppaa
