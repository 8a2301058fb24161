/- Resolved code of functions, printed by a program of ours (genfun.py); each is held against the model by chkF; The functions together; The reference's frame; Numbers out of a seed; equal matrices; Rows and matrices of numbers: mat.Form, mat.Times, mat.Plus, mat.Minus, mat.Unit and the reference's; mat.Unit and the reference's rows and matrices; Steps of a twist: kin.move and the reference's turn; Bits, Unit; kin.move; kin.Twist and the reference's; The reference's Twist; The law KinTwists. No condition. -/
import Derived.Test.YtdpdnplljonppaaZa3
import Derived.Test.YtdpdnplljonppaaProg
import Derived.KernelRfl
import Derived.Test.YtdpdnplljonppaaZb1
import Derived.Test.YtdpdnplljonppaaZb2
import Derived.Test.YtdpdnplljonppaaZc1
import Derived.Test.YtdpdnplljonppaaChecked

namespace Go.Proofs.Ytdpdnplljonppaa.VKs
open Go Vpi
set_option maxRecDepth 100000
def f9 : RFun := ⟨(.seq (.reg [lq 6 (.mv (.c (.nils))), lq 7 (.mv (.c (.nils))), lq 8 (.mv (ki 0))] none)
 (.seq (.seq (.reg [mq 15 0, lq 16 (.call .pu 38 [.t 15]), mq 9 16] none)
 (.seq (.reg [mq 17 9, lq 18 (.bin .neq (.t 17) (ki 0))] none)
 (.fg [0, 1, 2, 9, 18] (.cond (.t 18)
 (.seq (.reg [mq 19 9, lq 6 (.mv (.c (.nils))), lq 7 (.mv (.c (.nils))), mq 8 19] none)
 .ret)
 .skip))))
 (.seq (.seq (.reg [mq 20 2, lq 21 (.bin .lss (.t 20) (ki 0)), mq 22 21, ⟨(some 23), (some (22, false)), none, .mv (.t 2)⟩, ⟨(some 24), (some (22, false)), none, .bin .gtr (.t 23) (ki 256)⟩, lq 25 (.pick (.t 22) (.c (.p (.bool true))) (.t 24))] none)
 (.fg [0, 1, 2, 25] (.cond (.t 25)
 (.seq (.reg [lq 6 (.mv (.c (.nils))), lq 7 (.mv (.c (.nils))), lq 8 (.mv (ki 1))] none)
 .ret)
 .skip)))
 (.seq (.reg [mq 26 0, lq 27 (.call .keep 39 [.t 26]), mq 10 27] none)
 (.seq (.reg [mq 29 0, lq 30 (.len (.t 29)), lq 31 (.call .keep 23 [.t 30]), mq 28 31, lq 32 (.extract (.t 28) 0), lq 33 (.extract (.t 28) 1), mq 11 32, mq 12 33] none)
 (.seq (.reg [mq 34 1, lq 35 (.call .keep 40 [.t 34]), mq 36 1, lq 37 (.call .keep 40 [.t 36]), mq 13 35, mq 14 37] none)
 (.seq (.seq (.reg [mq 38 2, lq 39 (.mv (ki 0))] none)
 (.fg [10, 11, 13, 14, 38, 39] (.block 0
 (.loop (.fg [10, 11, 13, 14, 38, 39]
 (.seq (.reg [bq 40 .lss 39 38] none)
 (.seq (.cond (.t 40)
 .skip
 (.exit 0))
 (.fg [10, 11, 13, 14, 38, 39] (.seq (.block 1
 (.seq (.reg [mq 41 10, mq 42 13, lq 43 (.call .full 41 [.t 41, .t 42])] none)
 (.seq (.reg [mq 44 11, mq 45 14, lq 46 (.call .full 41 [.t 44, .t 45])] none)
 (.seq (.reg [mq 47 10, lq 48 (.call .peek 42 [.t 47]), lq 49 (.bin .gtr (.t 48) (ki 256))] none)
 (.fg [10, 11, 13, 14, 38, 39, 49] (.cond (.t 49)
 (.seq (.reg [lq 6 (.mv (.c (.nils))), lq 7 (.mv (.c (.nils))), lq 8 (.mv (ki 40))] none)
 .ret)
 .skip))))))
 (.fg [10, 11, 13, 14, 38, 39] (.reg [lq 50 (.bin .add (.t 39) (ki 1)), mq 39 50] none)))))))))))
 (.seq (.reg [mq 51 10, mq 52 11, mq 6 51, mq 7 52, lq 8 (.mv (ki 0))] none)
 .ret)))))))), [.t 6, .t 7, .t 8]⟩
theorem c9 : chkF Try.prog 9 f9 = true := by kernel_rfl
def f23 : RFun := ⟨(.seq (.reg [lq 2 (.mv (.c (.nils))), lq 3 (.mv (ki 0))] none)
 (.seq (.block 0
 (.seq (.reg [mq 8 0, lq 9 (.bin .lss (.t 8) (ki 0)), mq 7 9] none)
 (.fg [0, 7] (.cond (.t 7)
 (.seq (.reg [lq 2 (.mv (.c (.nils))), lq 3 (.mv (ki 1))] none)
 .ret)
 (.seq (.reg [mq 11 0, lq 12 (.bin .gtr (.t 11) (ki 64)), mq 10 12] none)
 (.fg [0, 10] (.cond (.t 10)
 (.seq (.reg [lq 2 (.mv (.c (.nils))), lq 3 (.mv (ki 2))] none)
 .ret)
 .skip)))))))
 (.fg [0] (.seq (.reg [lq 4 (.mv (.c (.nils)))] none)
 (.seq (.seq (.reg [mq 13 0, lq 14 (.mv (ki 0))] none)
 (.fg [0, 4, 13, 14] (.block 1
 (.loop (.fg [0, 4, 13, 14]
 (.seq (.reg [bq 15 .lss 14 13] none)
 (.seq (.cond (.t 15)
 .skip
 (.exit 1))
 (.fg [0, 4, 13, 14] (.seq (.block 2
 (.seq (.reg [mq 16 14, mq 5 16] none)
 (.seq (.reg [mq 17 0, lq 18 (.mks false 2 32 (.agg [.bool false, .sl []]) (.t 17) (.t 17)), mq 6 18] none)
 (.seq (.reg [mq 19 6, mq 20 5, lq 21 (.call .pu 25 [.c (.p (.int .i64 1))]), xq 22 2 19 20, sq 2 22 21] none)
 (.reg [mq 23 4, mq 24 6, lq 25 (.bslice 1 [.t 24]), lq 26 (.append 1 24 (.t 23) (.t 25)), mq 4 26] none)))))
 (.fg [0, 4, 13, 14] (.reg [lq 27 (.bin .add (.t 14) (ki 1)), mq 14 27] none)))))))))))
 (.seq (.reg [mq 28 4, mq 2 28, lq 3 (.mv (ki 0))] none)
 .ret)))))), [.t 2, .t 3]⟩
theorem c23 : chkF Try.prog 23 f23 = true := by kernel_rfl
def f31 : RFun := ⟨(.seq (.reg [lq 2 (.box (.t 0)), lq 4 (.mv (.c (.nils)))] none)
 (.seq (.reg [mq 5 1, lq 6 (.mkfn 84 [.t 2]), lq 7 (.call .full 83 [.t 5, .t 6]), mq 4 7] none)
 .ret)), [.t 4]⟩
theorem c31 : chkF Try.prog 31 f31 = true := by kernel_rfl
def f39 : RFun := ⟨(.seq (.reg [lq 2 (.mv (.c (.nils)))] none)
 (.seq (.reg [mq 3 0, lq 4 (.call .keep 85 [.t 3, .c (.fn 94 [])]), mq 2 4] none)
 .ret)), [.t 2]⟩
theorem c39 : chkF Try.prog 39 f39 = true := by kernel_rfl
def f40 : RFun := ⟨(.seq (.reg [lq 2 (.mv (.c (.any)))] none)
 (.seq (.reg [mq 4 0, lq 3 (.alloc [.p (.int .u64 0)]), sq 1 3 4] none)
 (.seq (.reg [lq 5 (.mkfn 95 [.t 3]), mq 2 5] none)
 .ret))), [.t 2]⟩
theorem c40 : chkF Try.prog 40 f40 = true := by kernel_rfl
def f41 : RFun := ⟨(.seq (.reg [mq 7 0, lq 8 (.len (.t 7)), lq 9 (.conv .u64 (.t 8)), mq 4 9] none)
 (.seq (.seq (.reg [mq 10 4, lq 11 (.bin .eql (.t 10) (.c (.p (.int .u64 1))))] none)
 (.fg [0, 1, 4, 11] (.cond (.t 11)
 (.seq (.seq (.reg [mq 12 1, lq 13 (.callv .full (.t 12) [.c (.p (.int .u64 4))]), lq 14 (.bin .eql (.t 13) (.c (.p (.int .u64 3))))] none)
 (.fg [0, 14] (.cond (.t 14)
 (.reg [mq 15 0, lq 16 (.call .pu 25 [.c (.p (.int .i64 (-1)))]), mq 17 0, lq 18 (.indexA 1 (.t 17) (ki 0)), lF 19 1 18, lq 20 (.call .pu 31 [.t 16, .t 19]), lq 21 (.indexA 1 (.t 15) (ki 0)), sq 1 21 20] (some (0, [])))
 .skip)))
 .ret)
 .skip)))
 (.seq (.reg [mq 22 1, mq 23 4, lq 24 (.callv .full (.t 22) [.t 23]), mq 5 24] none)
 (.seq (.reg [mq 25 1, mq 26 4, lq 27 (.bin .sub (.t 26) (.c (.p (.int .u64 1)))), lq 28 (.callv .full (.t 25) [.t 27]), mq 6 28] none)
 (.seq (.seq (.reg [mq 29 6, mq 30 5, bq 31 .geq 29 30] none)
 (.fg [0, 1, 5, 6, 31] (.cond (.t 31)
 (.reg [mq 32 6, lq 33 (.bin .add (.t 32) (.c (.p (.int .u64 1)))), mq 6 33] none)
 .skip)))
 (.seq (.reg [mq 34 1, lq 35 (.callv .full (.t 34) [.c (.p (.int .u64 4))])] none)
 (.fg [0, 5, 6, 35] (.block 0
 (.seq (.reg [lq 37 (.bin .eql (.t 35) (.c (.p (.int .u64 0)))), mq 36 37] none)
 (.fg [0, 5, 6, 35, 36] (.cond (.t 36)
 (.reg [mq 39 0, mq 40 5, mq 41 0, mq 42 5, xq 43 1 41 42, lF 44 1 43, mq 45 0, mq 46 6, xq 47 1 45 46, lF 48 1 47, lq 49 (.call .pu 96 [.t 44, .t 48]), mq 38 49, lq 50 (.extract (.t 38) 0), lq 51 (.extract (.t 38) 1), xq 52 1 39 40, sq 1 52 50] (some (0, [])))
 (.seq (.reg [lq 54 (.bin .eql (.t 35) (.c (.p (.int .u64 1)))), mq 53 54] none)
 (.fg [0, 5, 6, 35, 53] (.cond (.t 53)
 (.reg [mq 56 0, mq 57 5, mq 58 0, mq 59 5, xq 60 1 58 59, lF 61 1 60, mq 62 0, mq 63 6, xq 64 1 62 63, lF 65 1 64, lq 66 (.call .pu 97 [.t 61, .t 65]), mq 55 66, lq 67 (.extract (.t 55) 0), lq 68 (.extract (.t 55) 1), xq 69 1 56 57, sq 1 69 67] (some (0, [])))
 (.seq (.reg [lq 71 (.bin .eql (.t 35) (.c (.p (.int .u64 2)))), mq 70 71] none)
 (.fg [0, 5, 6, 35, 70] (.cond (.t 70)
 (.reg [mq 72 0, mq 73 5, mq 74 0, mq 75 6, mq 76 0, mq 77 6, xq 78 1 76 77, lF 79 1 78, mq 80 0, mq 81 5, xq 82 1 80 81, lF 83 1 82, xq 84 1 72 73, sq 1 84 79, xq 85 1 74 75, sq 1 85 83] (some (0, [])))
 (.seq (.reg [lq 87 (.bin .eql (.t 35) (.c (.p (.int .u64 3)))), mq 86 87] none)
 (.fg [0, 5, 86] (.cond (.t 86)
 (.reg [mq 88 0, mq 89 5, lq 90 (.call .pu 25 [.c (.p (.int .i64 (-1)))]), mq 91 0, mq 92 5, xq 93 1 91 92, lF 94 1 93, lq 95 (.call .pu 31 [.t 90, .t 94]), xq 96 1 88 89, sq 1 96 95] (some (0, [])))
 .skip)))))))))))))))))))), []⟩
theorem c41 : chkF Try.prog 41 f41 = true := by kernel_rfl
def f57 : RFun := ⟨(.seq (.reg [lq 1 (.box (.t 0)), lq 2 (.alloc [.p (.bool false), .nils])] none)
 (.seq (.reg [lq 3 (.fieldA 0 (.t 1)), lF 4 1 3, lq 5 (.fieldA 1 (.t 1)), lF 6 1 5, lq 7 (.call .pu 71 [.t 4, .t 6]), sq 2 2 7] none)
 .ret)), [.cell 2 true 2]⟩
theorem c57 : chkF Try.prog 57 f57 = true := by kernel_rfl
def f83 : RFun := ⟨(.seq (.reg [lq 4 (.mv (.c (.nils)))] none)
 (.seq (.reg [mq 8 0, lq 9 (.len (.t 8)), lq 10 (.mks false 2 32 (.agg [.bool false, .sl []]) (ki 0) (.t 9)), mq 5 10] none)
 (.seq (.seq (.reg [mq 11 0, lq 12 (.len (.t 11)), lq 13 (.mv (ki 0))] none)
 (.fg [1, 5, 11, 12, 13] (.block 0
 (.loop (.fg [1, 5, 11, 12, 13]
 (.seq (.reg [bq 14 .lss 13 12] none)
 (.seq (.cond (.t 14)
 .skip
 (.exit 0))
 (.fg [1, 5, 11, 12, 13] (.seq (.block 1
 (.seq (.reg [xq 15 2 11 13, lT 16 2 15, lq 7 (.alloc [.p (.bool false), .nils]), sq 2 7 16] none)
 (.reg [mq 17 5, mq 18 1, lT 19 2 7, lq 20 (.callv .cell (.t 18) [.t 19]), lq 21 (.bslice 2 [.t 20]), lq 22 (.append 2 32 (.t 17) (.t 21)), mq 5 22] none)))
 (.fg [1, 5, 11, 12, 13] (.reg [lq 23 (.bin .add (.t 13) (ki 1)), mq 13 23] none)))))))))))
 (.seq (.reg [mq 24 5, mq 4 24] none)
 .ret)))), [.t 4]⟩
theorem c83 : chkF Try.prog 83 f83 = true := by kernel_rfl
def f84 : RFun := ⟨(.seq (.reg [lq 2 (.box (.t 0)), lq 3 (.alloc [.p (.bool false), .nils])] none)
 (.seq (.reg [lT 4 2 1, lT 5 2 2, lq 6 (.call .pu 24 [.t 4, .t 5]), sq 2 3 6] none)
 .ret)), [.cell 3 true 2]⟩
theorem c84 : chkF Try.prog 84 f84 = true := by kernel_rfl
def f85 : RFun := ⟨(.seq (.reg [lq 4 (.mv (.c (.nils)))] none)
 (.seq (.reg [mq 8 0, lq 9 (.len (.t 8)), lq 10 (.mks false 1 24 (.sl []) (ki 0) (.t 9)), mq 5 10] none)
 (.seq (.seq (.reg [mq 11 0, lq 12 (.len (.t 11)), lq 13 (.mv (ki 0))] none)
 (.fg [1, 5, 11, 12, 13] (.block 0
 (.loop (.fg [1, 5, 11, 12, 13]
 (.seq (.reg [bq 14 .lss 13 12] none)
 (.seq (.cond (.t 14)
 .skip
 (.exit 0))
 (.fg [1, 5, 11, 12, 13] (.seq (.block 1
 (.seq (.reg [xq 15 1 11 13, lF 16 1 15, mq 7 16] none)
 (.reg [mq 17 5, mq 18 1, mq 19 7, lq 20 (.callv .pu (.t 18) [.t 19]), lq 21 (.bslice 1 [.t 20]), lq 22 (.append 1 24 (.t 17) (.t 21)), mq 5 22] none)))
 (.fg [1, 5, 11, 12, 13] (.reg [lq 23 (.bin .add (.t 13) (ki 1)), mq 13 23] none)))))))))))
 (.seq (.reg [mq 24 5, mq 4 24] none)
 .ret)))), [.t 4]⟩
theorem c85 : chkF Try.prog 85 f85 = true := by kernel_rfl
def f94 : RFun := ⟨(.seq (.reg [lq 2 (.mv (.c (.nils)))] none)
 (.seq (.reg [mq 3 0, lq 4 (.call .full 83 [.t 3, .c (.fn 57 [])]), mq 2 4] none)
 .ret)), [.t 2]⟩
theorem c94 : chkF Try.prog 94 f94 = true := by kernel_rfl
def f95 : RFun := ⟨(.seq (.reg [lq 3 (.mv (.c (.p (.int .u64 0))))] none)
 (.seq (.reg [lF 5 1 1, lq 6 (.bin .add (.t 5) (.c (.p (.int .u64 11400714819323198485)))), sq 1 1 6] none)
 (.seq (.reg [lF 7 1 1, mq 4 7] none)
 (.seq (.reg [mq 8 4, mq 9 4, lq 10 (.bin .shr (.t 9) (.c (.p (.int .u64 30)))), bq 11 .xor 8 10, lq 12 (.bin .mul (.t 11) (.c (.p (.int .u64 13787848793156543929)))), mq 4 12] none)
 (.seq (.reg [mq 13 4, mq 14 4, lq 15 (.bin .shr (.t 14) (.c (.p (.int .u64 27)))), bq 16 .xor 13 15, lq 17 (.bin .mul (.t 16) (.c (.p (.int .u64 10723151780598845931)))), mq 4 17] none)
 (.seq (.reg [mq 18 4, mq 19 4, lq 20 (.bin .shr (.t 19) (.c (.p (.int .u64 31)))), bq 21 .xor 18 20, mq 22 0, bq 23 .rem 21 22, mq 3 23] none)
 .ret)))))), [.t 3]⟩
theorem c95 : chkF Try.prog 95 f95 = true := by kernel_rfl
def f96 : RFun := ⟨(.seq (.reg [lq 4 (.mv (.c (.nils))), lq 5 (.mv (ki 0))] none)
 (.seq (.reg [mq 6 0, mq 7 1, lq 8 (.call .full 136 [.t 6, .t 7, .c (.fn 26 [])]), lq 9 (.extract (.t 8) 0), lq 10 (.extract (.t 8) 1), mq 4 9, mq 5 10] none)
 .ret)), [.t 4, .t 5]⟩
theorem c96 : chkF Try.prog 96 f96 = true := by kernel_rfl
def f97 : RFun := ⟨(.seq (.reg [lq 4 (.mv (.c (.nils))), lq 5 (.mv (ki 0))] none)
 (.seq (.reg [mq 6 0, mq 7 1, lq 8 (.call .full 136 [.t 6, .t 7, .c (.fn 137 [])]), lq 9 (.extract (.t 8) 0), lq 10 (.extract (.t 8) 1), mq 4 9, mq 5 10] none)
 .ret)), [.t 4, .t 5]⟩
theorem c97 : chkF Try.prog 97 f97 = true := by kernel_rfl
def f136 : RFun := ⟨(.seq (.reg [lq 6 (.mv (.c (.nils))), lq 7 (.mv (ki 0))] none)
 (.seq (.seq (.reg [mq 10 0, lq 11 (.len (.t 10)), mq 12 1, lq 13 (.len (.t 12)), bq 14 .neq 11 13] none)
 (.fg [0, 1, 2, 14] (.cond (.t 14)
 (.seq (.reg [lq 6 (.mv (.c (.nils))), lq 7 (.mv (ki 8))] none)
 .ret)
 .skip)))
 (.seq (.reg [lq 8 (.mv (.c (.nils)))] none)
 (.seq (.seq (.reg [mq 15 0, lq 16 (.len (.t 15)), lq 17 (.mv (ki 0))] none)
 (.fg [0, 1, 2, 8, 16, 17] (.block 0
 (.loop (.fg [0, 1, 2, 8, 16, 17]
 (.seq (.reg [bq 18 .lss 17 16] none)
 (.seq (.cond (.t 18)
 .skip
 (.exit 0))
 (.fg [0, 1, 2, 8, 16, 17] (.seq (.block 1
 (.seq (.reg [mq 19 17, mq 9 19] none)
 (.reg [mq 20 8, mq 21 2, mq 22 0, mq 23 9, xq 24 2 22 23, lT 25 2 24, mq 26 1, mq 27 9, xq 28 2 26 27, lT 29 2 28, lq 30 (.callv .pu (.t 21) [.t 25, .t 29]), ⟨(some 31), none, (some 0), .bslice 2 [.t 30]⟩, ⟨(some 32), none, (some 1), .append 2 32 (.t 20) (.t 31)⟩, mq 8 32] (some (2, [])))))
 (.fg [0, 1, 2, 8, 16, 17] (.reg [lq 33 (.bin .add (.t 17) (ki 1)), mq 17 33] none)))))))))))
 (.seq (.reg [mq 34 8, mq 6 34, lq 7 (.mv (ki 0))] none)
 .ret))))), [.t 6, .t 7]⟩
theorem c136 : chkF Try.prog 136 f136 = true := by kernel_rfl
end Go.Proofs.Ytdpdnplljonppaa.VKs

namespace Go.Proofs.Ytdpdnplljonppaa.VKs
open Go Vpi
set_option maxRecDepth 100000
def tab : List (Nat × RFun) := [(9, f9), (23, f23), (31, f31), (39, f39), (40, f40), (41, f41), (57, f57), (83, f83), (84, f84), (85, f85), (94, f94), (95, f95), (96, f96), (97, f97), (136, f136)]
def rp : RProg := fun f => match VBn.rp f with | some rf => some rf | none => (tab.find? fun x => x.1 == f).map (·.2)
theorem all_ok : (tab.all fun x => chkF Try.prog x.1 x.2) = true := by
  simp only [tab, List.all_cons, List.all_nil, c9, c23, c31, c39, c40, c41, c57, c83, c84, c85, c94, c95, c96, c97, c136, Bool.and_self]
theorem base_le : TabLe VBn.rp rp := by
  intro f rf h
  simp only [rp, h]
theorem rp_ok : ∀ f rf, rp f = some rf → chkF Try.prog f rf = true := by
  intro f rf h
  unfold rp at h
  split at h
  · rename_i h1
    cases h
    exact VBn.rp_ok _ _ h1
  · rw [Option.map_eq_some_iff] at h
    obtain ⟨x, hx, rfl⟩ := h
    have h1 := List.find?_some hx
    have h2 := List.mem_of_find?_eq_some hx
    have h3 := List.all_eq_true.1 all_ok x h2
    have h4 : x.1 = f := by simpa using h1
    rw [← h4]; exact h3
theorem mixed : Try.prog.follows .mixedOrders = true := VBn.mixed
theorem sim (m : Nat) : CallSim Try.prog (runF rp m) := callSim mixed rp_ok m
end Go.Proofs.Ytdpdnplljonppaa.VKs

namespace Go.Proofs.Ytdpdnplljonppaa.VBn
open Go Vpi
open Gs (V Dv Pos Good U Dk rg)
set_option maxRecDepth 100000
set_option linter.unusedSimpArgs false
set_option linter.unusedVariables false
section
variable {b : List PV} {N : Nat} {X : Nat → Nat → Int}
def star (g : Nat → Nat → Int) (k : Nat) : Rat := U (rg g) k k k
def mu (g : Nat → Nat → Int) (i k : Nat) : Rat := U (rg g) k i k / U (rg g) k k k
def Sl (g : Nat → Nat → Int) (i : Nat) : List PV := (List.range i).map fun k => rq (star g k)
def Ul (g : Nat → Nat → Int) (i j : Nat) : List PV := (List.range j).map fun k => rq (mu g i k)
def Ml (g : Nat → Nat → Int) (i : Nat) : List PV := (List.range i).map fun t => .sl (Ul g t t)
def cr (x : Rat) : List CV := [.p (.bool (decide (x.num < 0) && decide (x.num.natAbs ≠ 0))), .p (.sl (lm (dgl x.num.natAbs))), .p (.bool false), .p (.sl (lm (dgl x.den)))]
def Apart (c c' : CV) : Prop := ∀ b o n b' o' n', c = .own b o n → c' = .own b' o' n' → b ≠ b'
structure KI2 (g : Nat → Nat → Int) (τ : Store) (cM cS : CV) (i j : Nat) (c : CV) : Prop where
  g0 : τ[0]? = some (.kblk 2 [.nils, .nils])
  g1 : τ[1]? = some (.kblk 2 [cM, cS])
  gM : GL τ 1 cM (Ml g i)
  gS : GL τ 4 cS (Sl g i)
  gc : GL τ 4 c (Ul g i j)
  ap : Apart c cS
theorem GL.own_of {σ : Store} {sz : Nat} {c : CV} {es : List PV} {n : Nat} (h : GL σ sz c es) (hn : es.length = n) (h0 : 0 < n) : ∃ k, c = .own k 0 n ∧ σ[k]? = some (.prow sz es) ∧ k < σ.length := by
  rcases h with ⟨rfl, rfl⟩ | ⟨k, rfl, hk⟩
  · simp at hn; omega
  · exact ⟨k, by rw [hn], hk, (List.getElem?_eq_some_iff.1 hk).1⟩
theorem GL.nek {σ : Store} {sz s : Nat} {c : CV} {es : List PV} {k : Nat} {cs : List CV} (h : GL σ sz c es) (hk : σ[k]? = some (.kblk s cs)) : ∀ b o n, c = .own b o n → b ≠ k := by
  rintro b o n rfl rfl
  rcases h with ⟨h, _⟩ | ⟨b', h, hb⟩
  · cases h
  · cases h; rw [hb] at hk; cases hk
end
end Go.Proofs.Ytdpdnplljonppaa.VBn

namespace Go.Proofs.Ytdpdnplljonppaa.VKs
open Go Vpi
open VBn hiding rp tab rp_ok all_ok mixed sim Big
set_option maxRecDepth 100000
set_option linter.unusedSimpArgs false
set_option linter.unusedVariables false
theorem rp49 : rp 40 = some f40 := rfl
theorem rp104 : rp 95 = some f95 := rfl
/-! ### equal in one form -/
def RowN (r : List PV) : Prop := r.length ≤ 2000000 ∧ ∀ i, i < r.length → ∃ p x, r[i]? = some p ∧ Nu p x
def MatN (b : List PV) : Prop := b.length ≤ 2000000 ∧ ∀ i, i < b.length → ∃ r, b[i]? = some (.sl r) ∧ RowN r
/-! ### a seed -/
def nz (z : Int) : Int := IntKind.u64.wrap (z + 11400714819323198485)
def xs (x : Int) (k : Int) : Int := IntKind.u64.wrap (BitVec.ofInt IntKind.u64.bits x ^^^ BitVec.ofInt IntKind.u64.bits (x.fdiv (2 ^ min k.toNat IntKind.u64.bits))).toNat
def m1 (x : Int) : Int := IntKind.u64.wrap (xs x 30 * 13787848793156543929)
def m2 (x : Int) : Int := IntKind.u64.wrap (xs x 27 * 10723151780598845931)
def ot (z below : Int) : Int := (xs (m2 (m1 (nz z))) 31).tmod below
theorem fn104 {z below : Int} (hb : below ≠ 0) {b : Nat} {σ : Store} (hσ : σ[b]? = some (.kblk 1 [.p (.int .u64 z)])) {Q : CV → Store → Prop}
    (hq : Q (.p (.int .u64 (ot z below))) (σ.set b (.kblk 1 [.p (.int .u64 (nz z))]))) : Rn rp 95 [.p (.int .u64 below), .ptr b 0 0] σ Q := by
  rw [rn_of rp104]
  have hlt : b < σ.length := (List.getElem?_eq_some_iff.1 hσ).1
  simp only [f95, args0, SA, setCells, Int.reduceLE, Int.reduceLT, ↓reduceIte, reduceCtorEq, Nat.reduceLT, Nat.reduceEqDiff, Nat.reduceAdd, Nat.reduceMul, Nat.reduceLeDiff, Nat.reduceBEq, hσ, binV_rem hb, List.getElem?_set_self, hlt]
  exact hq
theorem fn49 {z : Int} {σ : Store} {Q : CV → Store → Prop} (hq : Q (.fn 95 [.ptr σ.length 0 0]) (σ ++ [.kblk 1 [.p (.int .u64 z)]])) : Rn rp 40 [.p (.int .u64 z)] σ Q := by
  rw [rn_of rp49]
  simp only [f40, args0, SA, setCells, Int.reduceLE, Int.reduceLT, ↓reduceIte, reduceCtorEq, Nat.reduceLT, Nat.reduceEqDiff, Nat.reduceAdd, Nat.reduceMul, Nat.reduceLeDiff, Nat.reduceBEq]
  exact hq
section
variable {rs : List RRes} {base : Nat} {d : Option Nat} {l : List LOp} {dr : Dr} {ks : List KI} {e : Env} {σ : Store} {Q : CV → Store → Prop} {z below : Int} {b : Nat}
theorem k49 : KC rp rs base .keep 40 [.p (.int .u64 z)] d l dr ks e σ Q = ExR rp rs base l dr ks (sto d (.fn 95 [.ptr σ.length 0 0]) e) (σ ++ [.kblk 1 [.p (.int .u64 z)]]) Q := kc_keep (fn49 ⟨rfl, rfl⟩)
theorem k104 (hσ : σ[b]? = some (.kblk 1 [.p (.int .u64 z)])) (hb : below ≠ 0) (hw : Wf σ) : KC rp rs base .full 95 [.p (.int .u64 below), .ptr b 0 0] d l dr ks e σ Q =
    ExR rp rs base l dr ks (sto d (.p (.int .u64 (ot z below))) e) (σ.set b (.kblk 1 [.p (.int .u64 (nz z))])) Q :=
  kc_full (fn104 hb hσ ⟨by rw [List.take_of_length_le (by simp)], by have := (hw.set (b := b) (x := .kblk 1 [.p (.int .u64 (nz z))]) rfl).all; rwa [List.length_set] at this, rfl⟩)
end
def otn (z : Int) (q : Nat) : Nat := (ot z q).toNat
theorem ot_nonneg {z below : Int} : 0 ≤ ot z below := by
  unfold ot xs
  refine Int.tmod_nonneg _ ?_
  rw [IntKind.wrap_u64]
  omega
theorem ot_eq {z : Int} {q : Nat} : ot z q = ((otn z q : Nat) : Int) := (Int.toNat_of_nonneg ot_nonneg).symm
theorem otn_lt {z : Int} {q : Nat} (h : 0 < q) : otn z q < q := by
  have h1 : ot z q < q := by unfold ot; exact Int.tmod_lt_of_pos _ (by omega)
  have := ot_eq (z := z) (q := q)
  omega
section
variable {rs : List RRes} {base : Nat} {d : Option Nat} {l : List LOp} {dr : Dr} {ks : List KI} {e : Env} {σ : Store} {Q : CV → Store → Prop} {z : Int} {q b : Nat}
theorem k104' (hσ : σ[b]? = some (.kblk 1 [.p (.int .u64 z)])) (hb : 0 < q) (hw : Wf σ) : KC rp rs base .full 95 [.p (.int .u64 q), .ptr b 0 0] d l dr ks e σ Q =
    ExR rp rs base l dr ks (sto d (.p (.int .u64 (otn z q : Nat))) e) (σ.set b (.kblk 1 [.p (.int .u64 (nz z))])) Q := by rw [k104 hσ (by omega) hw, ot_eq]
end
section
variable {rp : RProg} {rs : List RRes} {base : Nat} {d : Option Nat} {l : List LOp} {dr : Dr} {ks : List KI} {e : Env} {σ : Store} {Q : CV → Store → Prop} {sz : Nat} {c : CV} {es : List PV}
theorem kpk_gl {f : Nat} {r u : CV} (h : Pu rp f [.sl es] r) (hg : GL σ sz c es) (hu : scal (some r) = some u) : KC rp rs base .peek f [c] d l dr ks e σ Q = ExR rp rs base l dr ks (sto d u e) σ Q :=
  kc_peek h (by simp only [frzs, hg.frz, Option.map_some]) hu
end
end Go.Proofs.Ytdpdnplljonppaa.VKs

namespace Go.Proofs.Ytdpdnplljonppaa.VKs
open Go Vpi
open VBn hiding rp tab rp_ok all_ok mixed sim Big
set_option maxRecDepth 100000
set_option linter.unusedSimpArgs false
set_option linter.unusedVariables false
theorem rp116 : rp 83 = some f83 := rfl
theorem rp114 : rp 85 = some f85 := rfl
theorem rp115 : rp 94 = some f94 := rfl
theorem rp94 : rp 57 = some f57 := rfl
theorem rp70 : rp 39 = some f39 := rfl
theorem rp78 : rp 31 = some f31 := rfl
theorem rp120 : rp 84 = some f84 := rfl
theorem rp127 : rp 96 = some f96 := rfl
theorem rp128 : rp 97 = some f97 := rfl
theorem rp156 : rp 136 = some f136 := rfl
theorem rp87 : rp 23 = some f23 := rfl
/-! ### stores that grow -/
structure Pre (σ ρ : Store) : Prop where
  len : σ.length ≤ ρ.length
  get : ∀ j, j < σ.length → ρ[j]? = σ[j]?
section
variable {σ ρ : Store} {c : CV} {sz : Nat} {es : List PV}
theorem Pre.refl : Pre σ σ := ⟨Nat.le_refl _, fun _ _ => rfl⟩
theorem Pre.push (h : Pre σ ρ) {l : Store} : Pre σ (ρ ++ l) := ⟨by rw [List.length_append]; exact Nat.le_trans h.len (Nat.le_add_right _ _), fun j hj => by rw [get_left (Nat.lt_of_lt_of_le hj h.len), h.get j hj]⟩
theorem Pre.set (h : Pre σ ρ) {b : Nat} {x : Blk} (hb : σ.length ≤ b) : Pre σ (ρ.set b x) := ⟨by rw [List.length_set]; exact h.len, fun j hj => by rw [get_ne (by omega), h.get j hj]⟩
theorem Pre.nd (h : Pre σ ρ) (hc : ∀ b o n, c = .own b o n → σ.length ≤ b) : Pre σ (nd ρ c) := by
  cases c <;> try exact h
  exact h.set (hc _ _ _ rfl)
theorem Pre.take (h : Pre σ ρ) : ρ.take σ.length = σ := by
  apply List.ext_getElem?
  intro j
  rw [List.getElem?_take]
  split
  · exact h.get j (by assumption)
  · rw [List.getElem?_eq_none (by omega)]
theorem nd_left {l : Store} (h : GL ρ sz c es) : nd (ρ ++ l) c = nd ρ c ++ l := by
  have hlt := h.lt.2
  cases c <;> try rfl
  exact set_left (hlt _ _ _ rfl)
theorem back_ge {b : Nat} {n base : Nat} (hb : ρ[b]? = some (.prow sz es)) (hn : n = es.length) (h : base ≤ b) : back base ρ (.own b 0 n) = some (.p (.sl es)) := by
  have h1 : ¬ b < base := by omega
  simp only [back, back1, h1, if_false, frz1_own hb hn, Option.map_some]
section
variable {rp : RProg} {rs : List RRes} {base : Nat} {d : Option Nat} {l : List LOp} {dr : Dr} {ks : List KI} {e : Env} {Q : CV → Store → Prop} {xs : List PV}
theorem r_app_1 {a : Blk} {s x : Opd} {bytes : Nat} (h : GL ρ sz c es) (hc : (es.length + xs.length) * bytes ≤ 140737488355328) (hs : vl e s = c) (hx : vl e x = .own (ρ.length + 1) 0 xs.length) (hz : allSz sz xs = true) :
    ExR rp rs base (⟨d, none, none, .append sz bytes s x⟩ :: l) dr ks e (ρ ++ [a, .prow sz xs]) Q = ExR rp rs base l dr ks (sto d (.own (ρ.length + 2) 0 (es.length + xs.length)) e) (nd ρ c ++ [a, .prow sz xs, .prow sz (es ++ xs)]) Q := by
  have hl : (ρ ++ [a]).length = ρ.length + 1 := by simp
  have := r_app (rp := rp) (rs := rs) (base := base) (d := d) (l := l) (dr := dr) (ks := ks) (e := e) (Q := Q) (s := s) (x := x) (h.left (τ := [a])) hc hs (by rw [hl]; exact hx) hz
  rw [hl, nd_left h, List.append_assoc, List.append_assoc] at this
  exact this
theorem kc_full' {f : Nat} {args : List CV} (h : Rn rp f args σ fun v τ => ((τ.take σ.length).all (blkBelow σ.length)) = true ∧ ∃ r, back σ.length τ v = some r ∧ ExR rp rs base l dr ks (sto d r e) (τ.take σ.length) Q) :
    KC rp rs base .full f args d l dr ks e σ Q := cl_full h
end
end
/-! ### lists of numbers -/
def zr (r : List Int) : List PV := r.map zi
def zm (M : List (List Int)) : List PV := M.map fun r => .sl (zr r)
theorem zr_len {r : List Int} : (zr r).length = r.length := by simp [zr]
theorem zm_len {M : List (List Int)} : (zm M).length = M.length := by simp [zm]
theorem zr_get {r : List Int} {i : Nat} {x : Int} (h : r[i]? = some x) : (zr r)[i]? = some (zi x) := by simp [zr, h]
theorem zm_get {M : List (List Int)} {i : Nat} {r : List Int} (h : M[i]? = some r) : (zm M)[i]? = some (.sl (zr r)) := by simp [zm, h]
theorem zr_app {r s : List Int} : zr (r ++ s) = zr r ++ zr s := by simp [zr]
theorem zm_app {r s : List (List Int)} : zm (r ++ s) = zm r ++ zm s := by simp [zm]
theorem zm_set {M : List (List Int)} {i : Nat} {r : List Int} : (zm M).set i (.sl (zr r)) = zm (M.set i r) := by simp [zm, List.map_set]
theorem take_suc {α : Type} {l : List α} {i : Nat} {x : α} (h : l[i]? = some x) : l.take (i + 1) = l.take i ++ [x] := by
  obtain ⟨h1, h2⟩ := List.getElem?_eq_some_iff.1 h
  rw [List.take_add_one, h]; rfl
theorem zr_suc {r : List Int} {i : Nat} {x : Int} (h : r[i]? = some x) : zr (r.take (i + 1)) = zr (r.take i) ++ [zi x] := by rw [take_suc h, zr_app]; rfl
theorem zm_suc {M : List (List Int)} {i : Nat} {r : List Int} (h : M[i]? = some r) : zm (M.take (i + 1)) = zm (M.take i) ++ [.sl (zr r)] := by rw [take_suc h, zm_app]; rfl
def NL (r : List PV) (xs : List Int) : Prop := r.length = xs.length ∧ ∀ (i : Nat) (p : PV) (x : Int), r[i]? = some p → xs[i]? = some x → Nu p x
def ML (b : List PV) (M : List (List Int)) : Prop := b.length = M.length ∧ ∀ (i : Nat) (p : PV) (r : List Int), b[i]? = some p → M[i]? = some r → ∃ q, p = .sl q ∧ NL q r ∧ q.length ≤ 2000000
theorem NL.ix {r : List PV} {xs : List Int} (h : NL r xs) {i : Nat} (hi : i < r.length) : ∃ p x, r[i]? = some p ∧ xs[i]? = some x ∧ Nu p x := by
  have h2 : i < xs.length := by rw [← h.1]; exact hi
  exact ⟨r[i], xs[i], by simp, by simp, h.2 i _ _ (by simp) (by simp)⟩
theorem ML.ix {b : List PV} {M : List (List Int)} (h : ML b M) {i : Nat} (hi : i < b.length) : ∃ q r, b[i]? = some (.sl q) ∧ M[i]? = some r ∧ NL q r ∧ q.length ≤ 2000000 := by
  have h2 : i < M.length := by rw [← h.1]; exact hi
  obtain ⟨q, h3, h4, h5⟩ := h.2 i b[i] M[i] (by simp) (by simp)
  exact ⟨q, M[i], by rw [← h3]; simp, by simp, h4, h5⟩
def SzL (r : List Int) : Prop := ∀ (i : Nat) (x : Int), r[i]? = some x → Sz x
theorem NL.zr {r : List Int} (h : SzL r) : NL (zr r) r := by
  refine ⟨zr_len, fun i p x hp hx => ?_⟩
  rw [zr_get hx] at hp
  cases hp
  exact Nu.zi (h i x hx)
theorem ML.zm {M : List (List Int)} (h : ∀ (i : Nat) (r : List Int), M[i]? = some r → SzL r ∧ r.length ≤ 2000000) : ML (zm M) M := by
  refine ⟨zm_len, fun i p r hp hr => ?_⟩
  rw [zm_get hr] at hp
  cases hp
  exact ⟨_, rfl, .zr (h i r hr).1, by rw [zr_len]; exact (h i r hr).2⟩
/-! ### each -/
def Does (σ : Store) (g : Nat) (cap : List CV) (p : PV) (y : Int) : Prop :=
  ∀ (ρ : Store), Pre σ ρ → ∀ {rs : List RRes} {base : Nat} {d : Option Nat} {l : List LOp} {dr : Dr} {ks : List KI} {e : Env} {Q : CV → Store → Prop},
    KC rp rs base .cell g (.p p :: cap) d l dr ks e ρ Q = ExR rp rs base l dr ks (sto d (.p (zi y)) e) ρ Q
theorem n116 {σ : Store} {g : Nat} {cap : List CV} {r : List PV} {ys : List Int} (hw : Wf σ) (hl : r.length = ys.length) (hm : r.length ≤ 2000000)
    (hg : ∀ i, i < r.length → ∃ p y, r[i]? = some p ∧ ys[i]? = some y ∧ (∃ a b, p = .agg [.bool a, .sl b]) ∧ Does σ g cap p y) {Q : CV → Store → Prop}
    (hQ : ∀ ρ b, Pre σ ρ → Wf ρ → σ.length ≤ b → ρ[b]? = some (.prow 2 (zr ys)) → Q (.own b 0 ys.length) ρ) : Rn rp 83 [.p (.sl r), .fn g cap] σ Q := by
  rw [rn_of rp116]
  have m1 : ((32 : Nat) : Int) * (r.length : Int) ≤ 281474976710656 := by omega
  have m2 : (r.length : Int) ≤ 9223372036854775807 := by omega
  have i0 : Int.toNat 0 = 0 := rfl
  simp only [f83, args0, SA, setCells, Int.reduceLE, Int.reduceLT, ↓reduceIte, reduceCtorEq, Nat.reduceLT, Nat.reduceEqDiff, Nat.reduceAdd, Nat.reduceMul, Nat.reduceLeDiff, Nat.reduceBEq, Int.natCast_nonneg, m1, m2, i0, Int.le_refl]
  refine loop_rule (β := Nat × Store × Nat) (fun t => ([(1, .fn g cap), (5, .own t.2.2 0 t.1), (11, .p (.sl r)), (12, i64 r.length), (13, i64 t.1)], t.2.1))
    (fun t => t.1 ≤ r.length ∧ Pre σ t.2.1 ∧ Wf t.2.1 ∧ σ.length ≤ t.2.2 ∧ t.2.1[t.2.2]? = some (.prow 2 (zr (ys.take t.1)))) (fun t => r.length - t.1) ((0, σ ++ [.prow 2 []], σ.length) : Nat × Store × Nat) rfl rfl
    ⟨Nat.zero_le _, Pre.refl.push, hw.push rfl, Nat.le_refl _, by rw [get_app0]; rfl⟩ ?_
  rintro ⟨i, ρ, b⟩ ⟨hi, hp, hwf, hb, hgl⟩ ih
  simp only [] at hi hp hwf hb hgl ih ⊢
  by_cases hin : (i : Int) < r.length
  · obtain ⟨p, y, hpi, hyi, ⟨a1, a2, rfl⟩, hd⟩ := hg i (by omega)
    have w1 : IntKind.i64.wrap ((i : Int) + 1) = ((i + 1 : Nat) : Int) := by rw [IntWalk.i64_in _ (by omega)]; omega
    have htl : (zr (ys.take i)).length = i := by rw [zr_len, List.length_take]; omega
    have hG : GL ρ 2 (.own b 0 i) (zr (ys.take i)) := .own hgl htl.symm
    have hc : ((zr (ys.take i)).length + [zi y].length) * 32 ≤ 140737488355328 := by rw [htl]; simp; omega
    have hd' := fun {rs base d l dr ks e Q} => hd (ρ ++ [.kblk 2 [.p (.bool a1), .p (.sl a2)]]) hp.push (rs := rs) (base := base) (d := d) (l := l) (dr := dr) (ks := ks) (e := e) (Q := Q)
    have hA := fun {rp rs base d l dr ks e Q s x} => r_app_1 (rp := rp) (rs := rs) (base := base) (d := d) (l := l) (dr := dr) (ks := ks) (e := e) (Q := Q) (s := s) (x := x) (a := .kblk 2 [.p (.bool a1), .p (.sl a2)]) hG hc
    simp only [SA, setCells, Int.reduceLE, Int.reduceLT, ↓reduceIte, reduceCtorEq, Nat.reduceLT, Nat.reduceEqDiff, Nat.reduceAdd, Nat.reduceMul, Nat.reduceLeDiff, Nat.reduceBEq, hin, hpi, Int.natCast_nonneg, Int.toNat_natCast, hd', hA, ← zr_suc hyi, htl, w1, nd]
    refine ih (i + 1, ρ.set b .dead ++ [.kblk 2 [.p (.bool a1), .p (.sl a2)], .prow 2 [zi y], .prow 2 (zr (ys.take (i + 1)))], ρ.length + 2) _ ⟨by simp only []; omega, (hp.set hb).push, ?_, ?_, ?_⟩ (by simp only []; omega) ?_
    · have h1 := (((hwf.set (b := b) (x := .dead) rfl).push (x := .kblk 2 [.p (.bool a1), .p (.sl a2)]) rfl).push (x := .prow 2 [zi y]) rfl).push (x := .prow 2 (zr (ys.take (i + 1)))) rfl
      simpa [List.append_assoc] using h1
    · simp only []; exact Nat.le_trans hp.len (Nat.le_add_right _ _)
    · simp only []
      rw [show ρ.length + 2 = (ρ.set b Blk.dead).length + 2 by rw [List.length_set], get_app]; rfl
    · rfl
  · obtain rfl : i = r.length := by omega
    simp only [SA, setCells, Int.reduceLE, Int.reduceLT, ↓reduceIte, reduceCtorEq, Nat.reduceLT, Nat.reduceEqDiff, Nat.reduceAdd, Nat.reduceMul, Nat.reduceLeDiff, Nat.reduceBEq, hin]
    rw [List.take_of_length_le (by omega)] at hgl
    rw [hl]
    exact hQ ρ b hp hwf hb hgl
theorem does0 {σ : Store} {g : Nat} {p : PV} {y : Int} (h : Pu rp g [p] (.p (zi y))) : Does σ g [] p y := by
  intro ρ _ rs base d l dr ks e Q
  exact kc_cell0 h rfl rfl
theorem p94 {p : PV} {x : Int} (h : Nu p x) : Pu rp 57 [p] (.p (zi x)) := by
  obtain ⟨n1, a, rfl, ha, hna, rfl⟩ := h
  refine pu_of rp94 ?_
  rw [CapN_eq] at hna
  have k := (p105 (neg := n1) ha (by omega)).lift base_le
  rw [mk_val] at k
  simp only [f57, args0, SA, setCells, Int.reduceLE, Int.reduceLT, ↓reduceIte, reduceCtorEq, Nat.reduceLT, Nat.reduceEqDiff, Nat.reduceAdd, Nat.reduceMul, Nat.reduceLeDiff, Nat.reduceBEq, kp2 k]
  rfl
theorem Nu.agg {p : PV} {x : Int} (h : Nu p x) : ∃ a b, p = .agg [.bool a, .sl b] := by
  obtain ⟨n1, a, rfl, -⟩ := h
  exact ⟨_, _, rfl⟩
theorem p115 {r : List PV} {xs : List Int} (h : NL r xs) (hm : r.length ≤ 2000000) : Pu rp 94 [.sl r] (.p (.sl (zr xs))) := by
  refine pu_of rp115 ?_
  simp only [f94, args0, SA, setCells, Int.reduceLE, Int.reduceLT, ↓reduceIte, reduceCtorEq, Nat.reduceLT, Nat.reduceEqDiff, Nat.reduceAdd, Nat.reduceMul, Nat.reduceLeDiff, Nat.reduceBEq]
  refine kc_full' (n116 Wf.nil h.1 hm (fun i hi => ?_) fun ρ b hp hwf hb hg => ?_)
  · obtain ⟨p, x, h1, h2, h3⟩ := h.ix hi
    exact ⟨p, x, h1, h2, Nu.agg h3, does0 (p94 h3)⟩
  · refine ⟨rfl, _, back_ge hg zr_len.symm (Nat.zero_le _), ?_⟩
    simp only [SA, setCells, Int.reduceLE, Int.reduceLT, ↓reduceIte, reduceCtorEq, Nat.reduceLT, Nat.reduceEqDiff, Nat.reduceAdd, Nat.reduceMul, Nat.reduceLeDiff, Nat.reduceBEq]
    rfl
theorem n70 {b : List PV} {M : List (List Int)} {σ : Store} (hw : Wf σ) (h : ML b M) (hm : b.length ≤ 2000000) {Q : CV → Store → Prop}
    (hQ : ∀ ρ k, Pre σ ρ → Wf ρ → σ.length ≤ k → ρ[k]? = some (.prow 1 (zm M)) → Q (.own k 0 M.length) ρ) : Rn rp 39 [.p (.sl b)] σ Q := by
  rw [rn_of rp70]
  simp only [f39, args0, SA, setCells, Int.reduceLE, Int.reduceLT, ↓reduceIte, reduceCtorEq, Nat.reduceLT, Nat.reduceEqDiff, Nat.reduceAdd, Nat.reduceMul, Nat.reduceLeDiff, Nat.reduceBEq]
  refine kc_keep' ?_
  rw [rn_of rp114]
  have m1 : ((24 : Nat) : Int) * (b.length : Int) ≤ 281474976710656 := by omega
  have m2 : (b.length : Int) ≤ 9223372036854775807 := by omega
  have i0 : Int.toNat 0 = 0 := rfl
  simp only [f85, args0, SA, setCells, Int.reduceLE, Int.reduceLT, ↓reduceIte, reduceCtorEq, Nat.reduceLT, Nat.reduceEqDiff, Nat.reduceAdd, Nat.reduceMul, Nat.reduceLeDiff, Nat.reduceBEq, Int.natCast_nonneg, m1, m2, i0, Int.le_refl]
  refine loop_rule (β := Nat × Store × Nat) (fun t => ([(1, .fn 94 []), (5, .own t.2.2 0 t.1), (11, .p (.sl b)), (12, i64 b.length), (13, i64 t.1)], t.2.1))
    (fun t => t.1 ≤ b.length ∧ Pre σ t.2.1 ∧ Wf t.2.1 ∧ σ.length ≤ t.2.2 ∧ t.2.1[t.2.2]? = some (.prow 1 (zm (M.take t.1)))) (fun t => b.length - t.1) ((0, σ ++ [.prow 1 []], σ.length) : Nat × Store × Nat) rfl rfl
    ⟨Nat.zero_le _, Pre.refl.push, hw.push rfl, Nat.le_refl _, by rw [get_app0]; rfl⟩ ?_
  rintro ⟨i, ρ, k⟩ ⟨hi, hp, hwf, hb, hgl⟩ ih
  simp only [] at hi hp hwf hb hgl ih ⊢
  by_cases hin : (i : Int) < b.length
  · obtain ⟨q, r, h1, h2, h3, h4⟩ := h.ix (i := i) (by omega)
    have k115 := p115 h3 h4
    have w1 : IntKind.i64.wrap ((i : Int) + 1) = ((i + 1 : Nat) : Int) := by rw [IntWalk.i64_in _ (by omega)]; omega
    have hl := h.1
    have htl : (zm (M.take i)).length = i := by rw [zm_len, List.length_take]; omega
    have hG : GL ρ 1 (.own k 0 i) (zm (M.take i)) := .own hgl htl.symm
    have hc : ((zm (M.take i)).length + [PV.sl (zr r)].length) * 24 ≤ 140737488355328 := by rw [htl]; simp; omega
    simp only [SA, setCells, Int.reduceLE, Int.reduceLT, ↓reduceIte, reduceCtorEq, Nat.reduceLT, Nat.reduceEqDiff, Nat.reduceAdd, Nat.reduceMul, Nat.reduceLeDiff, Nat.reduceBEq, hin, h1, Int.natCast_nonneg, Int.toNat_natCast, kp1 k115, r_app hG hc, ← zm_suc h2, htl, w1, nd]
    refine ih (i + 1, ρ.set k .dead ++ [.prow 1 [.sl (zr r)], .prow 1 (zm (M.take (i + 1)))], ρ.length + 1) _ ⟨by simp only []; omega, (hp.set hb).push, ?_, ?_, ?_⟩ (by simp only []; omega) ?_
    · have h1 := ((hwf.set (b := k) (x := .dead) rfl).push (x := .prow 1 [.sl (zr r)]) rfl).push (x := .prow 1 (zm (M.take (i + 1)))) rfl
      simpa [List.append_assoc] using h1
    · simp only []; exact Nat.le_trans hp.len (Nat.le_add_right _ _)
    · simp only []
      rw [show ρ.length + 1 = (ρ.set k Blk.dead).length + 1 by rw [List.length_set], get_app]; rfl
    · rfl
  · obtain rfl : i = b.length := by omega
    have hl := h.1
    simp only [SA, setCells, Int.reduceLE, Int.reduceLT, ↓reduceIte, reduceCtorEq, Nat.reduceLT, Nat.reduceEqDiff, Nat.reduceAdd, Nat.reduceMul, Nat.reduceLeDiff, Nat.reduceBEq, hin]
    rw [List.take_of_length_le (by omega)] at hgl
    rw [hl]
    exact hQ ρ k hp hwf hb hgl
/-! ### Times -/
theorem n120 {a : Bool} {b : List PV} {p : PV} {k x : Int} (hk : Nu (.agg [.bool a, .sl b]) k) (hx : Nu p x) : Rn rp 84 [.p p, .ptr 0 0 0] [.kblk 2 [.p (.bool a), .p (.sl b)]] fun v τ => v = .p (zi (k * x)) ∧ τ[0]? = some (.kblk 2 [.p (.bool a), .p (.sl b)]) := by
  have k63 := (p63' hk hx).lift base_le
  obtain ⟨n1, l1, rfl, -⟩ := hx
  rw [rn_of rp120]
  simp only [f84, args0, SA, setCells, Int.reduceLE, Int.reduceLT, ↓reduceIte, reduceCtorEq, Nat.reduceLT, Nat.reduceEqDiff, Nat.reduceAdd, Nat.reduceMul, Nat.reduceLeDiff, Nat.reduceBEq, kp2 k63]
  rfl
theorem set_same {α : Type} {l : List α} {i : Nat} {x : α} (h : l[i]? = some x) : l.set i x = l := by
  apply List.ext_getElem?
  intro j
  by_cases hj : i = j
  · subst hj; rw [List.getElem?_set_self (List.getElem?_eq_some_iff.1 h).1, h]
  · rw [List.getElem?_set_ne hj]
theorem p78 {kp : PV} {k : Int} {r : List PV} {xs : List Int} (hk : Nu kp k) (h : NL r xs) (hm : r.length ≤ 2000000) : Pu rp 31 [kp, .sl r] (.p (.sl (zr (xs.map (k * ·))))) := by
  obtain ⟨a, b, rfl⟩ := Nu.agg hk
  refine pu_of rp78 ?_
  simp only [f31, args0, SA, setCells, Int.reduceLE, Int.reduceLT, ↓reduceIte, reduceCtorEq, Nat.reduceLT, Nat.reduceEqDiff, Nat.reduceAdd, Nat.reduceMul, Nat.reduceLeDiff, Nat.reduceBEq]
  refine kc_full' (n116 (σ := [.kblk 2 [.p (.bool a), .p (.sl b)]]) (ys := xs.map (k * ·)) (Wf.nil.push (x := .kblk 2 [.p (.bool a), .p (.sl b)]) rfl) (by rw [List.length_map]; exact h.1) hm (fun i hi => ?_) fun ρ c hp hwf hb hg => ?_)
  · obtain ⟨p, x, h1, h2, h3⟩ := h.ix hi
    refine ⟨p, k * x, h1, by simp [h2], Nu.agg h3, ?_⟩
    intro ρ hpre rs base d l dr ks e Q
    have h0 : ρ[0]? = some (.kblk 2 [.p (.bool a), .p (.sl b)]) := hpre.get 0 (Nat.lt_succ_self _)
    rw [kc_cell (b := 0) (al := [.p p, .ptr 0 0 0]) rfl h0 rfl rfl (n120 hk h3) rfl, set_same h0]
  · rw [hp.take]
    refine ⟨rfl, _, back_ge hg zr_len.symm hb, ?_⟩
    simp only [SA, setCells, Int.reduceLE, Int.reduceLT, ↓reduceIte, reduceCtorEq, Nat.reduceLT, Nat.reduceEqDiff, Nat.reduceAdd, Nat.reduceMul, Nat.reduceLeDiff, Nat.reduceBEq]
    rfl
/-! ### Plus, Minus -/
theorem n156 {g : Nat} {F : Int → Int → Int} (hF : ∀ p q x y, Nu p x → Nu q y → Pu rp g [p, q] (.p (zi (F x y)))) {a b : List PV} {xs ys : List Int} (ha : NL a xs) (hb : NL b ys) (hl : a.length = b.length) (hm : a.length ≤ 2000000) (h0 : 0 < a.length) {Q : CV → Store → Prop}
    (hQ : ∀ ρ k, ρ[k]? = some (.prow 2 (zr (List.zipWith F xs ys))) → Q (.tup [.own k 0 a.length, .p (.int .i64 0)]) ρ) : Rn rp 136 [.p (.sl a), .p (.sl b), .fn g []] [] Q := by
  rw [rn_of rp156]
  have e1 : ((a.length : Int) != (b.length : Int)) = false := by rw [hl]; simp
  simp only [f136, args0, SA, setCells, Int.reduceLE, Int.reduceLT, ↓reduceIte, reduceCtorEq, Nat.reduceLT, Nat.reduceEqDiff, Nat.reduceAdd, Nat.reduceMul, Nat.reduceLeDiff, Nat.reduceBEq, e1]
  have hzl : (List.zipWith F xs ys).length = a.length := by rw [List.length_zipWith, ← ha.1, ← hb.1, hl, Nat.min_self]
  refine loop_rule (β := Nat × Store × CV) (fun t => ([(0, .p (.sl a)), (1, .p (.sl b)), (2, .fn g []), (8, t.2.2), (16, i64 a.length), (17, i64 t.1)], t.2.1))
    (fun t => t.1 ≤ a.length ∧ GL t.2.1 2 t.2.2 (zr ((List.zipWith F xs ys).take t.1))) (fun t => a.length - t.1) ((0, [], .nils) : Nat × Store × CV) rfl rfl ⟨Nat.zero_le _, .nil⟩ ?_
  rintro ⟨i, ρ, c⟩ ⟨hi, hG⟩ ih
  simp only [] at hi hG ih ⊢
  by_cases hin : (i : Int) < a.length
  · obtain ⟨p, x, p1, p2, p3⟩ := ha.ix (i := i) (by omega)
    obtain ⟨q, y, q1, q2, q3⟩ := hb.ix (i := i) (by omega)
    have kF := hF p q x y p3 q3
    obtain ⟨_, _, rfl⟩ := Nu.agg p3
    obtain ⟨_, _, rfl⟩ := Nu.agg q3
    have hz : (List.zipWith F xs ys)[i]? = some (F x y) := by rw [List.getElem?_zipWith, p2, q2]
    have w1 : IntKind.i64.wrap ((i : Int) + 1) = ((i + 1 : Nat) : Int) := by rw [IntWalk.i64_in _ (by omega)]; omega
    have htl : (zr ((List.zipWith F xs ys).take i)).length = i := by rw [zr_len, List.length_take]; omega
    have hc : ((zr ((List.zipWith F xs ys).take i)).length + [zi (F x y)].length) * 32 ≤ 140737488355328 := by rw [htl]; simp; omega
    have hA := fun {rp rs base d l dr ks e Q s x} hb => r_app_sl (rp := rp) (rs := rs) (base := base) (d := d) (l := l) (dr := dr) (ks := ks) (e := e) (Q := Q) (s := s) (x := x) hb hG hc
    simp only [SA, setCells, Int.reduceLE, Int.reduceLT, ↓reduceIte, reduceCtorEq, Nat.reduceLT, Nat.reduceEqDiff, Nat.reduceAdd, Nat.reduceMul, Nat.reduceLeDiff, Nat.reduceBEq, hin, p1, q1, Int.natCast_nonneg, Int.toNat_natCast, kp2 kF, push_sl, hA rfl, ← zr_suc hz, htl, w1]
    refine ih (i + 1, nd ρ c ++ [.prow 2 [zi (F x y)], .prow 2 (zr ((List.zipWith F xs ys).take (i + 1)))], .own (ρ.length + 1) 0 (i + 1)) _ ⟨by simp only []; omega, ?_⟩ (by simp only []; omega) ?_
    · exact GL.new2 (by rw [zr_len, List.length_take]; omega) rfl
    · rfl
  · obtain rfl : i = a.length := by omega
    rw [List.take_of_length_le (by omega)] at hG
    rcases hG with ⟨rfl, h⟩ | ⟨k, rfl, hk⟩
    · have := congrArg List.length h
      rw [zr_len, hzl, List.length_nil] at this
      omega
    · simp only [SA, setCells, Int.reduceLE, Int.reduceLT, ↓reduceIte, reduceCtorEq, Nat.reduceLT, Nat.reduceEqDiff, Nat.reduceAdd, Nat.reduceMul, Nat.reduceLeDiff, Nat.reduceBEq, hin]
      rw [zr_len, hzl]
      exact hQ _ _ hk
theorem p127 {a b : List PV} {xs ys : List Int} (ha : NL a xs) (hb : NL b ys) (hl : a.length = b.length) (hm : a.length ≤ 2000000) (h0 : 0 < a.length) :
    Pu rp 96 [.sl a, .sl b] (.tup [.p (.sl (zr (List.zipWith (· + ·) xs ys))), .p (.int .i64 0)]) := by
  refine pu_of rp127 ?_
  simp only [f96, args0, SA, setCells, Int.reduceLE, Int.reduceLT, ↓reduceIte, reduceCtorEq, Nat.reduceLT, Nat.reduceEqDiff, Nat.reduceAdd, Nat.reduceMul, Nat.reduceLeDiff, Nat.reduceBEq]
  refine kc_full' (n156 (F := (· + ·)) (fun p q x y h1 h2 => (p145 h1 h2).lift base_le) ha hb hl hm h0 fun ρ k hk => ?_)
  have hn : a.length = (zr (List.zipWith (· + ·) xs ys)).length := by rw [zr_len, List.length_zipWith, ← ha.1, ← hb.1, hl, Nat.min_self]
  refine ⟨rfl, .tup [.p (.sl (zr (List.zipWith (· + ·) xs ys))), .p (.int .i64 0)], ?_, ?_⟩
  · have := back_ge (base := 0) hk hn (Nat.zero_le _)
    exact back_t2 this back1_p
  · simp only [SA, setCells, Int.reduceLE, Int.reduceLT, ↓reduceIte, reduceCtorEq, Nat.reduceLT, Nat.reduceEqDiff, Nat.reduceAdd, Nat.reduceMul, Nat.reduceLeDiff, Nat.reduceBEq]
    rfl
theorem p128 {a b : List PV} {xs ys : List Int} (ha : NL a xs) (hb : NL b ys) (hl : a.length = b.length) (hm : a.length ≤ 2000000) (h0 : 0 < a.length) :
    Pu rp 97 [.sl a, .sl b] (.tup [.p (.sl (zr (List.zipWith (· - ·) xs ys))), .p (.int .i64 0)]) := by
  refine pu_of rp128 ?_
  simp only [f97, args0, SA, setCells, Int.reduceLE, Int.reduceLT, ↓reduceIte, reduceCtorEq, Nat.reduceLT, Nat.reduceEqDiff, Nat.reduceAdd, Nat.reduceMul, Nat.reduceLeDiff, Nat.reduceBEq]
  refine kc_full' (n156 (F := (· - ·)) (fun p q x y h1 h2 => (p157 h1 h2).lift base_le) ha hb hl hm h0 fun ρ k hk => ?_)
  have hn : a.length = (zr (List.zipWith (· - ·) xs ys)).length := by rw [zr_len, List.length_zipWith, ← ha.1, ← hb.1, hl, Nat.min_self]
  refine ⟨rfl, .tup [.p (.sl (zr (List.zipWith (· - ·) xs ys))), .p (.int .i64 0)], ?_, ?_⟩
  · have := back_ge (base := 0) hk hn (Nat.zero_le _)
    exact back_t2 this back1_p
  · simp only [SA, setCells, Int.reduceLE, Int.reduceLT, ↓reduceIte, reduceCtorEq, Nat.reduceLT, Nat.reduceEqDiff, Nat.reduceAdd, Nat.reduceMul, Nat.reduceLeDiff, Nat.reduceBEq]
    rfl
end Go.Proofs.Ytdpdnplljonppaa.VKs

namespace Go.Proofs.Ytdpdnplljonppaa.VKs
open Go Vpi
open VBn hiding rp tab rp_ok all_ok mixed sim Big
set_option maxRecDepth 100000
set_option linter.unusedSimpArgs false
set_option linter.unusedVariables false
def urow (n i : Nat) : List Int := (List.range n).map fun k => if k = i then 1 else 0
def un (n : Nat) : List (List Int) := (List.range n).map fun i => urow n i
theorem urow_len {n i : Nat} : (urow n i).length = n := by simp [urow]
theorem un_len {n : Nat} : (un n).length = n := by simp [un]
theorem un_get {n i : Nat} (h : i < n) : (un n)[i]? = some (urow n i) := by simp [un, h]
theorem urow_get {n i k : Nat} (h : k < n) : (urow n i)[k]? = some (if k = i then 1 else 0) := by simp [urow, h]
theorem urow_set {n i : Nat} (h : i < n) : (List.replicate n (PV.agg [.bool false, .sl []])).set i (zi 1) = zr (urow n i) := by
  rw [← mk_zero (s := false)]
  apply List.ext_getElem?
  intro k
  rcases Nat.lt_or_ge k n with hk | hk
  · rw [zr_get (urow_get hk)]
    by_cases hki : i = k
    · subst hki
      rw [List.getElem?_set_self (by simpa using h), if_pos rfl]
    · rw [List.getElem?_set_ne hki, if_neg (fun h => hki h.symm)]
      simp [hk]
      exact mk_iv
  · rw [List.getElem?_eq_none (by simpa using hk), List.getElem?_eq_none (by rw [zr_len, urow_len]; exact hk)]
theorem updPV_zi {x : Int} : updPV (.agg [.bool false, .sl []]) 0 2 (zi x) = some (zi x) := by rw [← mk_zero (s := false)]; exact updPV_mk
theorem n87 {n : Nat} {σ : Store} (hw : Wf σ) (h0 : 0 < n) (hm : n ≤ 64) {Q : CV → Store → Prop}
    (hQ : ∀ ρ k, Pre σ ρ → Wf ρ → σ.length ≤ k → ρ[k]? = some (.prow 1 (zm (un n))) → Q (.tup [.own k 0 n, .p (.int .i64 0)]) ρ) : Rn rp 23 [.p (.int .i64 n)] σ Q := by
  rw [rn_of rp87]
  have e1 : ¬ (n : Int) < 0 := by omega
  have e2 : ¬ (n : Int) > 64 := by omega
  have m1 : ((32 : Nat) : Int) * (n : Int) ≤ 281474976710656 := by omega
  have m2 : (n : Int) ≤ 9223372036854775807 := by omega
  have k54 := (p54 (x := 1) (by decide) (by decide)).lift base_le
  simp only [f23, args0, SA, setCells, Int.reduceLE, Int.reduceLT, ↓reduceIte, reduceCtorEq, Nat.reduceLT, Nat.reduceEqDiff, Nat.reduceAdd, Nat.reduceMul, Nat.reduceLeDiff, Nat.reduceBEq, e1, e2]
  refine loop_rule (β := Nat × Store × CV) (fun t => ([(0, .p (.int .i64 n)), (4, t.2.2), (13, .p (.int .i64 n)), (14, i64 t.1)], t.2.1))
    (fun t => t.1 ≤ n ∧ Pre σ t.2.1 ∧ Wf t.2.1 ∧ (∀ b o m, t.2.2 = .own b o m → σ.length ≤ b) ∧ GL t.2.1 1 t.2.2 (zm ((un n).take t.1))) (fun t => n - t.1) ((0, σ, .nils) : Nat × Store × CV) rfl rfl
    ⟨Nat.zero_le _, Pre.refl, hw, (fun _ _ _ h => by cases h), .nil⟩ ?_
  rintro ⟨i, ρ, c⟩ ⟨hi, hp, hwf, hb, hG⟩ ih
  simp only [] at hi hp hwf hb hG ih ⊢
  by_cases hin : (i : Int) < n
  · have hi' : i < n := by omega
    have w1 : IntKind.i64.wrap ((i : Int) + 1) = ((i + 1 : Nat) : Int) := by rw [IntWalk.i64_in _ (by omega)]; omega
    have hg0 : (List.replicate n (PV.agg [.bool false, .sl []]))[i]? = some (.agg [.bool false, .sl []]) := by simp [hi']
    have htl : (zm ((un n).take i)).length = i := by rw [zm_len, List.length_take, un_len]; omega
    have hc : ((zm ((un n).take i)).length + [PV.sl (zr (urow n i))].length) * 24 ≤ 140737488355328 := by rw [htl]; simp; omega
    have hA := fun {rp rs base d l dr ks e Q s x} => r_app_1 (rp := rp) (rs := rs) (base := base) (d := d) (l := l) (dr := dr) (ks := ks) (e := e) (Q := Q) (s := s) (x := x) (a := .dead) hG hc
    have htk : (zr (urow n i)).take n = zr (urow n i) := List.take_of_length_le (by rw [zr_len, urow_len]; exact Nat.le_refl _)
    simp only [SA, setCells, Int.reduceLE, Int.reduceLT, ↓reduceIte, reduceCtorEq, Nat.reduceLT, Nat.reduceEqDiff, Nat.reduceAdd, Nat.reduceMul, Nat.reduceLeDiff, Nat.reduceBEq, hin, Int.natCast_nonneg, Int.toNat_natCast, m1, m2, Int.le_refl, kp1 k54, hi', hg0, updPV_zi, urow_set hi', zr_len, urow_len, htk, hA, ← zm_suc (un_get hi'), htl, w1]
    refine ih (i + 1, nd ρ c ++ [.dead, .prow 1 [.sl (zr (urow n i))], .prow 1 (zm ((un n).take (i + 1)))], .own (ρ.length + 2) 0 (i + 1)) _ ⟨by simp only []; omega, (hp.nd hb).push, ?_, ?_, ?_⟩ (by simp only []; omega) ?_
    · have h1 := (((nd_wf (c := c) hwf).push (x := .dead) rfl).push (x := .prow 1 [.sl (zr (urow n i))]) rfl).push (x := .prow 1 (zm ((un n).take (i + 1)))) rfl
      simpa [List.append_assoc] using h1
    · rintro b o m h; cases h; have := hp.len; omega
    · refine .own ?_ (by rw [zm_len, List.length_take, un_len]; omega)
      simp only []
      rw [show ρ.length + 2 = (nd ρ c).length + 2 by rw [nd_len], get_app]; rfl
    · rfl
  · obtain rfl : i = n := by omega
    rw [List.take_of_length_le (by rw [un_len]; omega)] at hG
    simp only [SA, setCells, Int.reduceLE, Int.reduceLT, ↓reduceIte, reduceCtorEq, Nat.reduceLT, Nat.reduceEqDiff, Nat.reduceAdd, Nat.reduceMul, Nat.reduceLeDiff, Nat.reduceBEq, hin]
    rcases hG with ⟨rfl, h⟩ | ⟨k, rfl, hk⟩
    · have := congrArg List.length h
      rw [zm_len, un_len] at this
      simp at this
      omega
    · rw [zm_len, un_len]
      exact hQ ρ k hp hwf (hb _ _ _ rfl) hk
/-! ### the reference's rows -/
theorem zip_neg {xs ys : List Int} : List.zipWith (· + ·) xs (ys.map (-1 * ·)) = List.zipWith (· - ·) xs ys := by
  rw [List.zipWith_map_right]
  congr 1
  funext x y
  omega
end Go.Proofs.Ytdpdnplljonppaa.VKs

namespace Go.Proofs.Ytdpdnplljonppaa.VKs
open Go Vpi
open VBn hiding rp tab rp_ok all_ok mixed sim Big
set_option maxRecDepth 100000
set_option linter.unusedSimpArgs false
set_option linter.unusedVariables false
theorem rp88 : rp 41 = some f41 := rfl
/-! ### a step -/
def tws (w i j : Nat) (M : List (List Int)) : List (List Int) :=
  if w = 0 then M.set i (List.zipWith (· + ·) (M.getD i []) (M.getD j []))
  else if w = 1 then M.set i (List.zipWith (· - ·) (M.getD i []) (M.getD j []))
  else if w = 2 then (M.set i (M.getD j [])).set j (M.getD i [])
  else M.set i ((M.getD i []).map (-1 * ·))
def RM (M : List (List Int)) (N : Nat) : Prop := N ≤ 2000000 ∧ 0 < N ∧ ∀ (i : Nat) (r : List Int), M[i]? = some r → SzL r ∧ r.length = N
theorem RM.ix {M : List (List Int)} {N : Nat} (h : RM M N) {i : Nat} (hi : i < M.length) : M[i]? = some (M.getD i []) ∧ SzL (M.getD i []) ∧ (M.getD i []).length = N := by
  have h1 : M[i]? = some (M.getD i []) := by simp [List.getD, hi]
  exact ⟨h1, h.2.2 i _ h1⟩
section
variable {M : List (List Int)} {N i j : Nat}
theorem q127 (h : RM M N) (hi : i < M.length) (hj : j < M.length) : Pu rp 96 [.sl (zr (M.getD i [])), .sl (zr (M.getD j []))] (.tup [.p (.sl (zr (List.zipWith (· + ·) (M.getD i []) (M.getD j [])))), .p (.int .i64 0)]) := by
  obtain ⟨-, a1, a2⟩ := h.ix hi
  obtain ⟨-, b1, b2⟩ := h.ix hj
  exact p127 (NL.zr a1) (NL.zr b1) (by rw [zr_len, zr_len, a2, b2]) (by rw [zr_len, a2]; exact h.1) (by rw [zr_len, a2]; exact h.2.1)
theorem q128 (h : RM M N) (hi : i < M.length) (hj : j < M.length) : Pu rp 97 [.sl (zr (M.getD i [])), .sl (zr (M.getD j []))] (.tup [.p (.sl (zr (List.zipWith (· - ·) (M.getD i []) (M.getD j [])))), .p (.int .i64 0)]) := by
  obtain ⟨-, a1, a2⟩ := h.ix hi
  obtain ⟨-, b1, b2⟩ := h.ix hj
  exact p128 (NL.zr a1) (NL.zr b1) (by rw [zr_len, zr_len, a2, b2]) (by rw [zr_len, a2]; exact h.1) (by rw [zr_len, a2]; exact h.2.1)
theorem q78 (h : RM M N) (hi : i < M.length) : Pu rp 31 [zi (-1), .sl (zr (M.getD i []))] (.p (.sl (zr ((M.getD i []).map (-1 * ·))))) := by
  obtain ⟨-, a1, a2⟩ := h.ix hi
  exact p78 (Nu.zi (Sz.small (by decide))) (NL.zr a1) (by rw [zr_len, a2]; exact h.1)
end
end Go.Proofs.Ytdpdnplljonppaa.VKs

namespace Go.Proofs.Ytdpdnplljonppaa.VKs
open Go Vpi
open VBn hiding rp tab rp_ok all_ok mixed sim Big
set_option maxRecDepth 100000
set_option linter.unusedSimpArgs false
set_option linter.unusedVariables false
def twi (n : Nat) (z : Int) : Nat := otn z n
def twj (n : Nat) (z : Int) : Nat := if otn z n ≤ otn (nz z) (n - 1) then otn (nz z) (n - 1) + 1 else otn (nz z) (n - 1)
def tww (z : Int) : Nat := otn (nz (nz z)) 4
def twz (n : Nat) (z : Int) : Int := if n = 1 then nz z else nz (nz (nz z))
def twm (n : Nat) (z : Int) (M : List (List Int)) : List (List Int) :=
  if n = 1 then (if otn z 4 = 3 then tws 3 0 0 M else M) else tws (tww z) (twi n z) (twj n z) M
theorem twi_lt {n : Nat} {z : Int} (h : 0 < n) : twi n z < n := otn_lt h
theorem twj_lt {n : Nat} {z : Int} (h : 1 < n) : twj n z < n := by
  have := otn_lt (z := nz z) (q := n - 1) (by omega)
  unfold twj
  generalize otn (nz z) (n - 1) = a at *
  generalize otn z n = b at *
  split <;> omega
theorem tww_lt {z : Int} : tww z < 4 := otn_lt (by decide)
theorem tws_0 {i j : Nat} {M : List (List Int)} : tws 0 i j M = M.set i (List.zipWith (· + ·) (M.getD i []) (M.getD j [])) := by unfold tws; rw [if_pos rfl]
theorem tws_1 {i j : Nat} {M : List (List Int)} : tws 1 i j M = M.set i (List.zipWith (· - ·) (M.getD i []) (M.getD j [])) := by unfold tws; rw [if_neg (by decide), if_pos rfl]
theorem tws_2 {i j : Nat} {M : List (List Int)} : tws 2 i j M = (M.set i (M.getD j [])).set j (M.getD i []) := by unfold tws; rw [if_neg (by decide), if_neg (by decide), if_pos rfl]
theorem tws_3 {i j : Nat} {M : List (List Int)} : tws 3 i j M = M.set i ((M.getD i []).map (-1 * ·)) := by unfold tws; rw [if_neg (by decide), if_neg (by decide), if_neg (by decide)]
structure Stp (σ ρ : Store) (b p n : Nat) (z : Int) (M : List (List Int)) : Prop where
  len : ρ.length = σ.length
  rest : ∀ j, j ≠ p → j ≠ b → ρ[j]? = σ[j]?
  cell : ρ[p]? = some (.kblk 1 [.p (.int .u64 z)])
  mat : ρ[b]? = some (.prow 1 (zm M))
  wf : Wf ρ
section
variable {M : List (List Int)} {N : Nat}
theorem n88 {σ : Store} {b p n : Nat} {z : Int} (h : RM M N) (hn : M.length = n) (h0 : 0 < n) (h12 : n ≤ 12) (hb : σ[b]? = some (.prow 1 (zm M))) (hp : σ[p]? = some (.kblk 1 [.p (.int .u64 z)])) (hw : Wf σ) {Q : CV → Store → Prop}
    (hQ : ∀ ρ, Stp σ ρ b p n (twz n z) (twm n z M) → Q (.tup []) ρ) : Rn rp 41 [.own b 0 n, .fn 95 [.ptr p 0 0]] σ Q := by
  rw [rn_of rp88]
  have hbl := (List.getElem?_eq_some_iff.1 hb).1
  have hpl := (List.getElem?_eq_some_iff.1 hp).1
  have hbp : b ≠ p := by rintro rfl; rw [hb] at hp; cases hp
  have u0 : IntKind.u64.wrap (n : Int) = (n : Int) := by rw [IntKind.wrap_u64]; omega
  have k54 := (p54 (x := -1) (by decide) (by decide)).lift base_le
  have four : ((4 : Nat) : Int) = 4 := rfl
  have i0 : Int.toNat 0 = 0 := rfl
  by_cases hn1 : n = 1
  · subst hn1
    have e1 : (((1 : Nat) : Int) == 1) = true := rfl
    have k := fun {rs base d l dr ks e Q} => k104' (rs := rs) (base := base) (d := d) (l := l) (dr := dr) (ks := ks) (e := e) (Q := Q) (σ := σ) (q := 4) hp (by decide) hw
    rw [four] at k
    have hb2 : ∀ x, (σ.set p x)[b]? = some (.prow 1 (zm M)) := fun x => by rw [get_ne hbp.symm, hb]
    have hM0 : 0 < M.length := by omega
    have g0 := zm_get (h.ix hM0).1
    by_cases h3 : otn z 4 = 3
    · have e3 : (((otn z 4 : Nat) : Int) == 3) = true := by rw [h3]; rfl
      have l0 : 0 < 1 := by decide
      simp only [f41, args0, SA, setCells, Int.reduceLE, Int.reduceLT, ↓reduceIte, reduceCtorEq, Nat.reduceLT, Nat.reduceEqDiff, Nat.reduceAdd, Nat.reduceMul, Nat.reduceLeDiff, Nat.reduceBEq, u0, e1, k, e3, kp1 k54, hb2, bsz, i0, l0, g0, kp2 (q78 h hM0), zm_set]
      refine hQ _ ⟨by rw [List.length_set, List.length_set], fun j h1 h2 => by rw [get_ne (Ne.symm h2), get_ne (Ne.symm h1)], ?_, ?_, (hw.set rfl).set rfl⟩
      · rw [get_ne hbp, get_self hpl]; rfl
      · rw [get_self (by rw [List.length_set]; exact hbl)]
        unfold twm tws
        rw [if_pos rfl, if_pos h3, if_neg (by decide), if_neg (by decide), if_neg (by decide)]
    · have e3 : (((otn z 4 : Nat) : Int) == 3) = false := by rw [beq_eq_false_iff_ne]; omega
      simp only [f41, args0, SA, setCells, Int.reduceLE, Int.reduceLT, ↓reduceIte, reduceCtorEq, Nat.reduceLT, Nat.reduceEqDiff, Nat.reduceAdd, Nat.reduceMul, Nat.reduceLeDiff, Nat.reduceBEq, u0, e1, k, e3]
      refine hQ _ ⟨by rw [List.length_set], fun j h1 h2 => by rw [get_ne (Ne.symm h1)], ?_, ?_, hw.set rfl⟩
      · rw [get_self hpl]; rfl
      · rw [hb2]
        unfold twm
        rw [if_pos rfl, if_neg h3]
  · have e1 : ((n : Int) == 1) = false := by rw [beq_eq_false_iff_ne]; omega
    have u1 : IntKind.u64.wrap ((n : Int) - 1) = ((n - 1 : Nat) : Int) := by rw [IntKind.wrap_u64]; omega
    have hb2 : ∀ x, (σ.set p x)[b]? = some (.prow 1 (zm M)) := fun x => by rw [get_ne hbp.symm, hb]
    have hp2 : ∀ x, (σ.set p x)[p]? = some x := fun x => get_self hpl
    have k1 := fun {rs base d l dr ks e Q} => k104' (rs := rs) (base := base) (d := d) (l := l) (dr := dr) (ks := ks) (e := e) (Q := Q) (σ := σ) (q := n) hp h0 hw
    have k2 := fun {rs base d l dr ks e Q} => k104' (rs := rs) (base := base) (d := d) (l := l) (dr := dr) (ks := ks) (e := e) (Q := Q) (σ := σ.set p (.kblk 1 [.p (.int .u64 (nz z))])) (q := n - 1) (hp2 _) (by omega) (hw.set rfl)
    have k3 := fun {rs base d l dr ks e Q} => k104' (rs := rs) (base := base) (d := d) (l := l) (dr := dr) (ks := ks) (e := e) (Q := Q) (σ := σ.set p (.kblk 1 [.p (.int .u64 (nz (nz z)))])) (q := 4) (hp2 _) (by decide) (hw.set rfl)
    rw [four] at k3
    simp only [List.set_set] at k2 k3
    have hi : twi n z < M.length := by rw [hn]; exact twi_lt h0
    have hj : twj n z < M.length := by rw [hn]; exact twj_lt (by omega)
    have hi' : twi n z < n := by omega
    have hj' : twj n z < n := by omega
    have hw4 := tww_lt (z := z)
    have gi := zm_get (h.ix hi).1
    have gj := zm_get (h.ix hj).1
    have go : otn z n = twi n z := rfl
    have gw : otn (nz (nz z)) 4 = tww z := rfl
    have hs : ∀ x, ((σ.set p (.kblk 1 [.p (.int .u64 (nz (nz (nz z))))])).set b x)[b]? = some x := fun x => get_self (by rw [List.length_set]; exact hbl)
    have fin : ∀ M', M' = tws (tww z) (twi n z) (twj n z) M → Q (.tup []) ((σ.set p (.kblk 1 [.p (.int .u64 (nz (nz (nz z))))])).set b (.prow 1 (zm M'))) := by
      rintro M' rfl
      refine hQ _ ⟨by rw [List.length_set, List.length_set], fun j h1 h2 => by rw [get_ne (Ne.symm h2), get_ne (Ne.symm h1)], ?_, ?_, (hw.set rfl).set rfl⟩
      · rw [get_ne hbp, get_self hpl]; unfold twz; rw [if_neg hn1]
      · rw [get_self (by rw [List.length_set]; exact hbl)]; unfold twm; rw [if_neg hn1]
    have gj2 : ∃ u, (zm (M.set (twi n z) (M.getD (twj n z) [])))[twj n z]? = some (.sl u) := by
      by_cases hij : twi n z = twj n z
      · rw [← hij]; exact ⟨zr (M.getD (twi n z) []), zm_get (by rw [List.getElem?_set_self hi])⟩
      · exact ⟨zr (M.getD (twj n z) []), zm_get (by rw [List.getElem?_set_ne hij]; exact (h.ix hj).1)⟩
    obtain ⟨u, gj2⟩ := gj2
    have u2 : IntKind.u64.wrap (((otn (nz z) (n - 1) : Nat) : Int) + 1) = ((otn (nz z) (n - 1) + 1 : Nat) : Int) := by
      have := otn_lt (z := nz z) (q := n - 1) (by omega)
      generalize otn (nz z) (n - 1) = o at *
      rw [IntKind.wrap_u64]; omega
    have hjc : ((((otn (nz z) (n - 1) : Nat) : Int) ≥ ((twi n z : Nat) : Int)) ∧ otn (nz z) (n - 1) + 1 = twj n z) ∨ (¬ (((otn (nz z) (n - 1) : Nat) : Int) ≥ ((twi n z : Nat) : Int)) ∧ otn (nz z) (n - 1) = twj n z) := by
      rcases Nat.lt_or_ge (otn (nz z) (n - 1)) (otn z n) with hlt | hge
      · right
        refine ⟨by rw [← go]; exact Int.not_le.2 (Int.ofNat_lt.2 hlt), by unfold twj; rw [if_neg (Nat.not_le.2 hlt)]⟩
      · left
        refine ⟨by rw [← go]; exact Int.ofNat_le.2 hge, by unfold twj; rw [if_pos hge]⟩
    have hwc : tww z = 0 ∨ tww z = 1 ∨ tww z = 2 ∨ tww z = 3 := by omega
    have d1 : ((1 : Int) == 0) = false := rfl
    have d2 : ((2 : Int) == 0) = false := rfl
    have d3 : ((2 : Int) == 1) = false := rfl
    have d4 : ((3 : Int) == 0) = false := rfl
    have d5 : ((3 : Int) == 1) = false := rfl
    have d6 : ((3 : Int) == 2) = false := rfl
    have c0 : ((0 : Nat) : Int) = 0 := rfl
    have c1 : ((1 : Nat) : Int) = 1 := rfl
    have c2 : ((2 : Nat) : Int) = 2 := rfl
    have c3 : ((3 : Nat) : Int) = 3 := rfl
    have hjc2 : ((((otn (nz z) (n - 1) : Nat) : Int) ≥ ((twi n z : Nat) : Int)) ∧ otn (nz z) (n - 1) + 1 = twj n z) ∨ (¬ (((twj n z : Nat) : Int) ≥ ((twi n z : Nat) : Int)) ∧ otn (nz z) (n - 1) = twj n z) := by
      rcases hjc with h | ⟨h1, h2⟩
      · exact .inl h
      · exact .inr ⟨by rw [← h2]; exact h1, h2⟩
    clear hjc
    generalize twi n z = i at *
    generalize twj n z = j at *
    generalize tww z = w at *
    generalize nz (nz (nz z)) = z3 at *
    have ti : Int.toNat (i : Int) = i := Int.toNat_natCast i
    have tj : Int.toNat (j : Int) = j := Int.toNat_natCast j
    rcases hjc2 with ⟨hge, hje⟩ | ⟨hge, hje⟩
    all_goals
      simp only [f41, args0, SA, setCells, Int.reduceLE, Int.reduceLT, ↓reduceIte, reduceCtorEq, Nat.reduceLT, Nat.reduceEqDiff, Nat.reduceAdd, Nat.reduceMul, Nat.reduceLeDiff, Nat.reduceBEq, u0, u1, e1, k1, k2, k3, go, hge, u2, hje, gw]
      rcases hwc with hw0 | hw0 | hw0 | hw0
      · have := fin _ rfl
        rw [hw0, tws_0] at this
        rw [hw0]
        simp only [c0, SA, setCells, Int.reduceLE, Int.reduceLT, ↓reduceIte, reduceCtorEq, Nat.reduceLT, Nat.reduceEqDiff, Nat.reduceAdd, Nat.reduceMul, Nat.reduceLeDiff, Nat.reduceBEq, hb2, bsz, hi', hj', gi, gj, Nat.zero_add, Int.natCast_nonneg, ti, tj, kp2 (q127 h hi hj), zm_set]
        exact this
      · have := fin _ rfl
        rw [hw0, tws_1] at this
        rw [hw0]
        simp only [c1, SA, setCells, Int.reduceLE, Int.reduceLT, ↓reduceIte, reduceCtorEq, Nat.reduceLT, Nat.reduceEqDiff, Nat.reduceAdd, Nat.reduceMul, Nat.reduceLeDiff, Nat.reduceBEq, d1, hb2, bsz, hi', hj', gi, gj, Nat.zero_add, Int.natCast_nonneg, ti, tj, kp2 (q128 h hi hj), zm_set]
        exact this
      · have := fin _ rfl
        rw [hw0, tws_2] at this
        rw [hw0]
        simp only [c2, SA, setCells, Int.reduceLE, Int.reduceLT, ↓reduceIte, reduceCtorEq, Nat.reduceLT, Nat.reduceEqDiff, Nat.reduceAdd, Nat.reduceMul, Nat.reduceLeDiff, Nat.reduceBEq, d2, d3, hb2, bsz, hi', hj', gi, gj, Nat.zero_add, Int.natCast_nonneg, ti, tj, zm_set, hs, gj2, List.set_set]
        exact this
      · have := fin _ rfl
        rw [hw0, tws_3] at this
        rw [hw0]
        simp only [c3, SA, setCells, Int.reduceLE, Int.reduceLT, ↓reduceIte, reduceCtorEq, Nat.reduceLT, Nat.reduceEqDiff, Nat.reduceAdd, Nat.reduceMul, Nat.reduceLeDiff, Nat.reduceBEq, d4, d5, d6, hb2, bsz, hi', hj', gi, gj, Nat.zero_add, Int.natCast_nonneg, ti, tj, kp1 k54, kp2 (q78 h hi), zm_set]
        exact this
end
end Go.Proofs.Ytdpdnplljonppaa.VKs

namespace Go.Proofs.Ytdpdnplljonppaa.VKs
open Go Vpi
open VBn hiding rp tab rp_ok all_ok mixed sim Big
set_option maxRecDepth 100000
set_option linter.unusedSimpArgs false
set_option linter.unusedVariables false
theorem rp42 : rp 9 = some f9 := rfl
/-! ### plain: what steps keep -/
def RL (M : List (List Int)) (N : Nat) : Prop := ∀ (i : Nat) (r : List Int), M[i]? = some r → r.length = N
def BM (M : List (List Int)) (B : Nat) : Prop := ∀ (i : Nat) (r : List Int), M[i]? = some r → ∀ (j : Nat) (x : Int), r[j]? = some x → x.natAbs ≤ B
theorem tws_len {w i j : Nat} {M : List (List Int)} : (tws w i j M).length = M.length := by
  unfold tws
  split
  · simp
  · split
    · simp
    · split
      · simp
      · simp
theorem getD_row {M : List (List Int)} {i : Nat} (hi : i < M.length) : M[i]? = some (M.getD i []) := by simp [List.getD, hi]
theorem set_row {α : Type} {M : List α} {i k : Nat} {a r : α} (h : (M.set i a)[k]? = some r) : r = a ∨ M[k]? = some r := by
  by_cases hik : i = k
  · subst hik
    by_cases hl : i < M.length
    · rw [List.getElem?_set_self hl] at h; cases h; exact .inl rfl
    · rw [List.getElem?_eq_none (by rw [List.length_set]; omega)] at h; cases h
  · rw [List.getElem?_set_ne hik] at h; exact .inr h
theorem tws_row {P : List Int → Prop} {Q : List Int → Prop} {w i j : Nat} {M : List (List Int)} (hi : i < M.length) (hj : j < M.length) (hP : ∀ (k : Nat) (r : List Int), M[k]? = some r → P r) (hPQ : ∀ r, P r → Q r)
    (h1 : ∀ a b, P a → P b → Q (List.zipWith (· + ·) a b)) (h2 : ∀ a b, P a → P b → Q (List.zipWith (· - ·) a b)) (h3 : ∀ a, P a → Q (a.map (-1 * ·))) :
    ∀ (k : Nat) (r : List Int), (tws w i j M)[k]? = some r → Q r := by
  have pi := hP i _ (getD_row hi)
  have pj := hP j _ (getD_row hj)
  intro k r h
  unfold tws at h
  split at h
  · rcases set_row h with rfl | h
    · exact h1 _ _ pi pj
    · exact hPQ _ (hP k r h)
  · split at h
    · rcases set_row h with rfl | h
      · exact h2 _ _ pi pj
      · exact hPQ _ (hP k r h)
    · split at h
      · rcases set_row h with rfl | h
        · exact hPQ _ pi
        · rcases set_row h with rfl | h
          · exact hPQ _ pj
          · exact hPQ _ (hP k r h)
      · rcases set_row h with rfl | h
        · exact h3 _ pi
        · exact hPQ _ (hP k r h)
theorem tws_RL {w i j N : Nat} {M : List (List Int)} (hi : i < M.length) (hj : j < M.length) (h : RL M N) : RL (tws w i j M) N := by
  refine tws_row (P := fun r => r.length = N) (Q := fun r => r.length = N) hi hj h (fun _ h => h) ?_ ?_ ?_
  · intro a b ha hb; simp [ha, hb]
  · intro a b ha hb; simp [ha, hb]
  · intro a ha; simp [ha]
theorem tws_BM {w i j B : Nat} {M : List (List Int)} (hi : i < M.length) (hj : j < M.length) (h : BM M B) : BM (tws w i j M) (2 * B) := by
  refine tws_row (P := fun r => ∀ (j : Nat) (x : Int), r[j]? = some x → x.natAbs ≤ B) (Q := fun r => ∀ (j : Nat) (x : Int), r[j]? = some x → x.natAbs ≤ 2 * B) hi hj h ?_ ?_ ?_ ?_
  · intro r hr j x hx; have := hr j x hx; omega
  · intro a b ha hb j x hx
    rw [List.getElem?_zipWith] at hx
    split at hx
    · rename_i p q h1 h2
      cases hx
      have := ha _ _ h1
      have := hb _ _ h2
      omega
    · cases hx
  · intro a b ha hb j x hx
    rw [List.getElem?_zipWith] at hx
    split at hx
    · rename_i p q h1 h2
      cases hx
      have := ha _ _ h1
      have := hb _ _ h2
      omega
    · cases hx
  · intro a ha j x hx
    rw [List.getElem?_map, Option.map_eq_some_iff] at hx
    obtain ⟨y, hy, rfl⟩ := hx
    have := ha _ _ hy
    omega
section
variable {n N B : Nat} {z : Int} {M : List (List Int)}
theorem twm_len : (twm n z M).length = M.length := by
  unfold twm
  split
  · split
    · exact tws_len
    · rfl
  · exact tws_len
theorem twm_RL (hn : M.length = n) (h0 : 0 < n) (h : RL M N) : RL (twm n z M) N := by
  unfold twm
  split
  · split
    · exact tws_RL (by omega) (by omega) h
    · exact h
  · exact tws_RL (by rw [hn]; exact twi_lt h0) (by rw [hn]; exact twj_lt (by omega)) h
theorem twm_BM (hn : M.length = n) (h0 : 0 < n) (h : BM M B) : BM (twm n z M) (2 * B) := by
  unfold twm
  split
  · split
    · exact tws_BM (by omega) (by omega) h
    · intro i r hr j x hx; have := h i r hr j x hx; omega
  · exact tws_BM (by rw [hn]; exact twi_lt h0) (by rw [hn]; exact twj_lt (by omega)) h
def tz (n : Nat) (z : Int) : Nat → Int
  | 0 => z
  | s + 1 => twz n (tz n z s)
def tM (n : Nat) (z : Int) (M : List (List Int)) : Nat → List (List Int)
  | 0 => M
  | s + 1 => twm n (tz n z s) (tM n z M s)
theorem tM_len {s : Nat} : (tM n z M s).length = M.length := by
  induction s with
  | zero => rfl
  | succ s ih => rw [tM, twm_len, ih]
theorem tM_RL (hn : M.length = n) (h0 : 0 < n) (h : RL M N) {s : Nat} : RL (tM n z M s) N := by
  induction s with
  | zero => exact h
  | succ s ih => exact twm_RL (by rw [tM_len, hn]) h0 ih
theorem tM_BM (hn : M.length = n) (h0 : 0 < n) (h : BM M B) {s : Nat} : BM (tM n z M s) (2 ^ s * B) := by
  induction s with
  | zero => rw [Nat.pow_zero, Nat.one_mul]; exact h
  | succ s ih =>
    have := twm_BM (z := tz n z s) (by rw [tM_len, hn]) h0 ih
    rw [Nat.pow_succ, Nat.mul_comm (2 ^ s) 2, Nat.mul_assoc]
    exact this
end
theorem sz_of {x : Int} {B : Nat} (h : x.natAbs ≤ B) (hB : B < LB ^ 20) : Sz x := by
  refine Sk.sz (n := 20) ?_ (by decide)
  unfold Sk
  exact Nat.lt_of_le_of_lt h hB
theorem RM.of {M : List (List Int)} {N B : Nat} (hN : N ≤ 12) (h0 : 0 < N) (h1 : RL M N) (h2 : BM M B) (hB : B < LB ^ 20) : RM M N :=
  ⟨by omega, h0, fun i r hr => ⟨fun j x hx => sz_of (h2 i r hr j x hx) hB, h1 i r hr⟩⟩
def en (M : List (List Int)) (i j : Nat) : Int := (M.getD i []).getD j 0
theorem RM.mr {M : List (List Int)} {N : Nat} (h : RM M N) : MR (zm M) (fun _ => N) (en M) := by
  intro i hi
  rw [zm_len] at hi
  obtain ⟨h1, h2, h3⟩ := h.ix hi
  refine ⟨_, zm_get h1, by rw [zr_len, h3], h.1, fun j hj => ?_⟩
  rw [zr_len] at hj
  have hx : (M.getD i [])[j]? = some (en M i j) := by
    unfold en
    rw [List.getD_eq_getElem?_getD (l := M.getD i []), List.getElem?_eq_getElem hj]; rfl
  exact ⟨_, zr_get hx, Nu.zi (h2 j _ hx)⟩
def bitsM (M : List (List Int)) (N : Nat) : Nat := bm (fun _ => N) (en M) M.length
theorem BM_of_bits {M : List (List Int)} {N : Nat} (hR : RL M N) (h : bitsM M N ≤ 256) : BM M (2 ^ 256) := by
  intro i r hr j x hx
  have hi := (List.getElem?_eq_some_iff.1 hr).1
  have hj := (List.getElem?_eq_some_iff.1 hx).1
  have hrN := hR i r hr
  have h1 : en M i j = x := by
    have : M.getD i [] = r := by rw [List.getD_eq_getElem?_getD, hr]; rfl
    unfold en
    rw [this, List.getD_eq_getElem?_getD, hx]
    rfl
  have h2 : ¬ 256 < bitsM M N := by omega
  unfold bitsM at h2
  rw [bm_gt] at h2
  have h3 : bl x.natAbs ≤ 256 := Nat.not_lt.1 fun hlt => h2 ⟨i, j, hi, by omega, by rw [h1]; exact hlt⟩
  by_cases h0 : x.natAbs = 0
  · rw [h0]; exact Nat.zero_le _
  · exact Nat.le_of_lt (Nat.lt_of_lt_of_le (bl_spec h0).2.1 (Nat.pow_le_pow_right (by decide) h3))
theorem un_RL {n : Nat} : RL (un n) n := by
  intro i r hr
  have hi := (List.getElem?_eq_some_iff.1 hr).1
  rw [un_len] at hi
  rw [un_get hi] at hr
  cases hr
  exact urow_len
theorem un_BM {n : Nat} : BM (un n) 1 := by
  intro i r hr j x hx
  have hi := (List.getElem?_eq_some_iff.1 hr).1
  rw [un_len] at hi
  rw [un_get hi] at hr
  cases hr
  have hj := (List.getElem?_eq_some_iff.1 hx).1
  rw [urow_len] at hj
  rw [urow_get hj] at hx
  cases hx
  split <;> decide
theorem pw640 : 2 ^ 256 * 1 < LB ^ 20 ∧ 2 * 2 ^ 256 < LB ^ 20 ∧ 2 ^ 256 < LB ^ 20 := by decide
theorem pw_mono {s : Nat} (h : s ≤ 256) : 2 ^ s * 1 < LB ^ 20 := Nat.lt_of_le_of_lt (Nat.mul_le_mul_right _ (Nat.pow_le_pow_right (by decide) h)) pw640.1
section
variable {rs : List RRes} {base : Nat} {d : Option Nat} {l : List LOp} {dr : Dr} {ks : List KI} {e : Env} {σ : Store} {Q : CV → Store → Prop} {es : List PV}
theorem kpk_own {f b n sz : Nat} {r u : CV} (h : Pu rp f [.sl es] r) (hb : σ[b]? = some (.prow sz es)) (hn : n = es.length) (hu : scal (some r) = some u) : KC rp rs base .peek f [.own b 0 n] d l dr ks e σ Q = ExR rp rs base l dr ks (sto d u e) σ Q :=
  kpk_gl h (GL.own hb hn) hu
end
def TwR (n N : Nat) (z : Int) (M : List (List Int)) (t : Nat) (R : CV) : Prop :=
  ((∃ s, 1 ≤ s ∧ s ≤ t ∧ 256 < bitsM (tM n z M s) N) → R = .tup [.p (.sl []), .p (.sl []), .p (.int .i64 40)]) ∧
  ((∀ s, 1 ≤ s → s ≤ t → bitsM (tM n z M s) N ≤ 256) → R = .tup [.p (.sl (zm (tM n z M t))), .p (.sl (zm (tM n z (un n) t))), .p (.int .i64 0)])
section
variable {b : List PV} {M : List (List Int)} {n N t : Nat} {z : Int} {R : CV}
theorem p42 (h59 : Pu rp 38 [.sl b] (.p (.int .i64 0))) (hML : ML b M) (hn : M.length = n) (h0 : 0 < n) (h12 : n ≤ 12) (hN : N ≤ 12) (hN0 : 0 < N) (hRL : RL M N) (hbits : bitsM M N ≤ 256) (ht : t ≤ 256) (hR : TwR n N z M t R) :
    Pu rp 9 [.sl b, .int .u64 z, .int .i64 t] R := by
  refine pu_of rp42 ?_
  have e0 : ((0 : Int) != 0) = false := rfl
  have e1 : ¬ (t : Int) < 0 := by omega
  have e2 : ¬ (t : Int) > 256 := by omega
  have hbn : b.length = n := by rw [hML.1, hn]
  simp only [f9, args0, SA, setCells, Int.reduceLE, Int.reduceLT, ↓reduceIte, reduceCtorEq, Nat.reduceLT, Nat.reduceEqDiff, Nat.reduceAdd, Nat.reduceMul, Nat.reduceLeDiff, Nat.reduceBEq, kp1 h59, e0, e1, e2]
  refine kc_keep' (n70 Wf.nil hML (by omega) fun ρ1 k1 hp1 hw1 hk1 hc1 => ?_)
  simp only [SA, setCells, Int.reduceLE, Int.reduceLT, ↓reduceIte, reduceCtorEq, Nat.reduceLT, Nat.reduceEqDiff, Nat.reduceAdd, Nat.reduceMul, Nat.reduceLeDiff, Nat.reduceBEq, hbn, hn]
  refine kc_keep' (n87 hw1 h0 (by omega) fun ρ2 k2 hp2 hw2 hk2 hc2 => ?_)
  have hk1l := (List.getElem?_eq_some_iff.1 hc1).1
  have hk2l := (List.getElem?_eq_some_iff.1 hc2).1
  have hc1' : ρ2[k1]? = some (.prow 1 (zm M)) := by rw [hp2.get k1 hk1l, hc1]
  simp only [SA, setCells, Int.reduceLE, Int.reduceLT, ↓reduceIte, reduceCtorEq, Nat.reduceLT, Nat.reduceEqDiff, Nat.reduceAdd, Nat.reduceMul, Nat.reduceLeDiff, Nat.reduceBEq, k49]
  refine loop_rule (β := Nat × Store) (fun q => ([(10, .own k1 0 n), (11, .own k2 0 n), (13, .fn 95 [.ptr ρ2.length 0 0]), (14, .fn 95 [.ptr (ρ2.length + 1) 0 0]), (38, .p (.int .i64 t)), (39, i64 q.1)], q.2))
    (fun q => q.1 ≤ t ∧ (∀ s, 1 ≤ s → s ≤ q.1 → bitsM (tM n z M s) N ≤ 256) ∧ Wf q.2 ∧ q.2[k1]? = some (.prow 1 (zm (tM n z M q.1))) ∧ q.2[k2]? = some (.prow 1 (zm (tM n z (un n) q.1))) ∧ q.2[ρ2.length]? = some (.kblk 1 [.p (.int .u64 (tz n z q.1))]) ∧ q.2[ρ2.length + 1]? = some (.kblk 1 [.p (.int .u64 (tz n z q.1))]))
    (fun q => t - q.1) ((0, ρ2 ++ [.kblk 1 [.p (.int .u64 z)], .kblk 1 [.p (.int .u64 z)]]) : Nat × Store) rfl rfl
    ⟨Nat.zero_le _, (fun s h1 h2 => by omega), ?_, by rw [get_left (Nat.lt_of_lt_of_le hk1l hp2.len), hc1']; rfl, by rw [get_left hk2l, hc2]; rfl, by rw [get_app0]; rfl, by rw [get_app]; rfl⟩ ?_
  · have := (hw2.push (x := .kblk 1 [.p (.int .u64 z)]) rfl).push (x := .kblk 1 [.p (.int .u64 z)]) rfl
    simpa [List.append_assoc] using this
  rintro ⟨s, τ⟩ ⟨hs, hgood, hw, g1, g2, c1, c2⟩ ih
  simp only [] at hs hgood hw g1 g2 c1 c2 ih ⊢
  have hlen1 : (tM n z M s).length = n := by rw [tM_len, hn]
  have hlen2 : (tM n z (un n) s).length = n := by rw [tM_len, un_len]
  have hB1 : BM (tM n z M s) (2 ^ 256) := by
    refine BM_of_bits (tM_RL hn h0 hRL) ?_
    rcases Nat.eq_zero_or_pos s with rfl | hpos
    · exact hbits
    · exact hgood s hpos (Nat.le_refl _)
  have hR1 : RM (tM n z M s) N := RM.of hN hN0 (tM_RL hn h0 hRL) hB1 pw640.2.2
  have hR2 : RM (tM n z (un n) s) n := RM.of h12 h0 (tM_RL un_len h0 un_RL) (tM_BM un_len h0 un_BM) (pw_mono (by omega))
  by_cases hst : (s : Int) < t
  · have hne1 : k1 ≠ k2 := by omega
    simp only [SA, setCells, Int.reduceLE, Int.reduceLT, ↓reduceIte, reduceCtorEq, Nat.reduceLT, Nat.reduceEqDiff, Nat.reduceAdd, Nat.reduceMul, Nat.reduceLeDiff, Nat.reduceBEq, hst]
    refine kc_full' (n88 hR1 hlen1 h0 h12 g1 c1 hw fun ρ hS => ?_)
    have tk : ρ.take τ.length = ρ := by rw [← hS.len, List.take_length]
    rw [tk]
    refine ⟨by rw [← hS.len]; exact hS.wf.all, .tup [], rfl, ?_⟩
    have g2' : ρ[k2]? = some (.prow 1 (zm (tM n z (un n) s))) := by rw [hS.rest k2 (by omega) (by omega), g2]
    have c2' : ρ[ρ2.length + 1]? = some (.kblk 1 [.p (.int .u64 (tz n z s))]) := by rw [hS.rest _ (by omega) (by have := hp2.len; omega), c2]
    simp only [SA, setCells, Int.reduceLE, Int.reduceLT, ↓reduceIte, reduceCtorEq, Nat.reduceLT, Nat.reduceEqDiff, Nat.reduceAdd, Nat.reduceMul, Nat.reduceLeDiff, Nat.reduceBEq]
    refine kc_full' (n88 hR2 hlen2 h0 h12 g2' c2' hS.wf fun ω hT => ?_)
    have tk2 : ω.take ρ.length = ω := by rw [← hT.len, List.take_length]
    rw [tk2]
    refine ⟨by rw [← hT.len]; exact hT.wf.all, .tup [], rfl, ?_⟩
    have g1' : ω[k1]? = some (.prow 1 (zm (tM n z M (s + 1)))) := by rw [hT.rest k1 (by have := hp2.len; omega) (by omega), hS.mat]; rfl
    have c1' : ω[ρ2.length]? = some (.kblk 1 [.p (.int .u64 (tz n z (s + 1)))]) := by rw [hT.rest _ (by omega) (by omega), hS.cell]; rfl
    have hlen3 : (tM n z M (s + 1)).length = n := by rw [tM_len, hn]
    have hR3 : RM (tM n z M (s + 1)) N := RM.of hN hN0 (tM_RL hn h0 hRL) (twm_BM hlen1 h0 hB1) pw640.2.1
    have k80 := (p80 hR3.mr (by rw [zm_len]; omega)).lift base_le
    rw [zm_len] at k80
    have hkp := fun {rs base d l dr ks e Q} => kpk_own (rs := rs) (base := base) (d := d) (l := l) (dr := dr) (ks := ks) (e := e) (Q := Q) (n := n) k80 g1' (by rw [zm_len, hlen3]) rfl
    have hbm : bm (fun _ => N) (en (tM n z M (s + 1))) (tM n z M (s + 1)).length = bitsM (tM n z M (s + 1)) N := rfl
    rw [hbm] at hkp
    have w1 : IntKind.i64.wrap ((s : Int) + 1) = ((s + 1 : Nat) : Int) := by rw [IntWalk.i64_in _ (by omega)]; omega
    by_cases hbad : 256 < bitsM (tM n z M (s + 1)) N
    · have e3 : ((bitsM (tM n z M (s + 1)) N : Nat) : Int) > 256 := by omega
      simp only [SA, setCells, Int.reduceLE, Int.reduceLT, ↓reduceIte, reduceCtorEq, Nat.reduceLT, Nat.reduceEqDiff, Nat.reduceAdd, Nat.reduceMul, Nat.reduceLeDiff, Nat.reduceBEq, hkp, e3]
      rw [hR.1 ⟨s + 1, by omega, by omega, hbad⟩]
      rfl
    · have e3 : ¬ ((bitsM (tM n z M (s + 1)) N : Nat) : Int) > 256 := by omega
      simp only [SA, setCells, Int.reduceLE, Int.reduceLT, ↓reduceIte, reduceCtorEq, Nat.reduceLT, Nat.reduceEqDiff, Nat.reduceAdd, Nat.reduceMul, Nat.reduceLeDiff, Nat.reduceBEq, hkp, e3, w1]
      refine ih (s + 1, ω) _ ⟨by simp only []; omega, fun q h1 h2 => ?_, hT.wf, g1', hT.mat, c1', hT.cell⟩ (by simp only []; omega) ?_
      · rcases Nat.lt_or_ge q (s + 1) with h | h
        · exact hgood q h1 (by omega)
        · obtain rfl : q = s + 1 := by simp only [] at h2; omega
          omega
      · rfl
  · obtain rfl : s = t := by omega
    simp only [SA, setCells, Int.reduceLE, Int.reduceLT, ↓reduceIte, reduceCtorEq, Nat.reduceLT, Nat.reduceEqDiff, Nat.reduceAdd, Nat.reduceMul, Nat.reduceLeDiff, Nat.reduceBEq, hst]
    rw [hR.2 hgood]
    have b1 := back_ge (base := 0) (n := n) g1 (by rw [zm_len, hlen1]) (Nat.zero_le _)
    have b2 := back_ge (base := 0) (n := n) g2 (by rw [zm_len, hlen2]) (Nat.zero_le _)
    exact back_t3 b1 b2 back1_p
end
end Go.Proofs.Ytdpdnplljonppaa.VKs

namespace Go.Proofs.Ytdpdnplljonppaa.VKs
open Go Vpi
open VBn hiding rp tab rp_ok all_ok mixed sim Big
set_option maxRecDepth 100000
set_option linter.unusedSimpArgs false
set_option linter.unusedVariables false
section
variable {b : List PV} {M : List (List Int)} {n N t : Nat} {z : Int} {R : CV}
end
end Go.Proofs.Ytdpdnplljonppaa.VKs

namespace Go.Proofs.Ytdpdnplljonppaa.VKs
open Go Vpi
open VBn hiding rp tab rp_ok all_ok mixed sim Big
open Gs (V Dv Pos)
set_option maxRecDepth 100000
set_option linter.unusedSimpArgs false
set_option linter.unusedVariables false
/-! ### copies -/
/-! ### a matrix's numbers -/
theorem MatN.index {b : List PV} (h : MatN b) : ∃ nn X, MR b nn X := by
  have hx : ∀ i j : Nat, ∃ x : Int, ∀ r p, b[i]? = some (.sl r) → r[j]? = some p → Nu p x := by
    intro i j
    by_cases hi : i < b.length
    · obtain ⟨r, h1, h2⟩ := h.2 i hi
      by_cases hj : j < r.length
      · obtain ⟨p, x, h3, h4⟩ := h2.2 j hj
        refine ⟨x, fun r' p' g1 g2 => ?_⟩
        rw [h1] at g1
        cases g1
        rw [h3] at g2
        cases g2
        exact h4
      · refine ⟨0, fun r' p' g1 g2 => ?_⟩
        rw [h1] at g1
        cases g1
        rw [List.getElem?_eq_none (by omega)] at g2
        cases g2
    · refine ⟨0, fun r' p' g1 g2 => ?_⟩
      rw [List.getElem?_eq_none (by omega)] at g1
      cases g1
  have hn : ∀ i : Nat, ∃ k : Nat, ∀ r, b[i]? = some (.sl r) → r.length = k := by
    intro i
    by_cases hi : i < b.length
    · obtain ⟨r, h1, h2⟩ := h.2 i hi
      exact ⟨r.length, fun r' g => by rw [h1] at g; cases g; rfl⟩
    · exact ⟨0, fun r' g => by rw [List.getElem?_eq_none (by omega)] at g; cases g⟩
  refine ⟨fun i => Classical.choose (hn i), fun i j => Classical.choose (hx i j), fun i hi => ?_⟩
  obtain ⟨r, h1, h2⟩ := h.2 i hi
  have hl := Classical.choose_spec (hn i) r h1
  refine ⟨r, h1, hl, ?_, fun j hj => ?_⟩
  · simp only []
    rw [← hl]; exact h2.1
  · obtain ⟨p, x, h3, h4⟩ := h2.2 j hj
    exact ⟨p, h3, Classical.choose_spec (hx i j) r p h1 h3⟩
def lsM (m N : Nat) (X : Nat → Nat → Int) : List (List Int) := (List.range m).map fun i => (List.range N).map fun j => X i j
theorem lsM_len {m N : Nat} {X : Nat → Nat → Int} : (lsM m N X).length = m := by simp [lsM]
theorem lsM_get {m N i : Nat} {X : Nat → Nat → Int} (h : i < m) : (lsM m N X)[i]? = some ((List.range N).map fun j => X i j) := by simp [lsM, h]
theorem lsM_en {m N i j : Nat} {X : Nat → Nat → Int} (h : i < m) (hj : j < N) : en (lsM m N X) i j = X i j := by
  have e1 : (lsM m N X).getD i [] = (List.range N).map fun j => X i j := by rw [List.getD_eq_getElem?_getD, lsM_get h]; rfl
  unfold en
  rw [e1, List.getD_eq_getElem?_getD]
  simp [hj]
theorem MR.lists {b : List PV} {nn : Nat → Nat} {X : Nat → Nat → Int} (hb : MR b nn X) (hs : shE nn X b.length = 0) :
    ML b (lsM b.length (nn 0) X) ∧ RL (lsM b.length (nn 0) X) (nn 0) ∧ bitsM (lsM b.length (nn 0) X) (nn 0) ≤ 256 ∧ 0 < b.length ∧ b.length ≤ 12 ∧ nn 0 ≤ 12 := by
  obtain ⟨h1, h2, h3⟩ := shE_zero hs
  have hm : b.length ≤ 12 := Nat.not_lt.1 fun hh => h1 (.inl hh)
  have hn : ∀ i, i < b.length → nn i = nn 0 := fun i hi => Classical.byContradiction fun hne => h3 ⟨i, hi, hne⟩
  have hN : nn 0 ≤ 12 := Nat.not_lt.1 fun hh => h1 (.inr (.inl ⟨0, by omega, hh⟩))
  refine ⟨⟨lsM_len.symm, fun i p r hp hr => ?_⟩, fun i r hr => ?_, ?_, by omega, hm, hN⟩
  · have hi := (List.getElem?_eq_some_iff.1 hp).1
    obtain ⟨q, g1, g2, g3, g4⟩ := hb i hi
    rw [hp] at g1
    cases g1
    rw [lsM_get hi] at hr
    cases hr
    refine ⟨q, rfl, ⟨by simp [g2, hn i hi], fun j p x hp hx => ?_⟩, by omega⟩
    have hj := (List.getElem?_eq_some_iff.1 hp).1
    obtain ⟨p', k1, k2⟩ := g4 j hj
    rw [hp] at k1
    cases k1
    rw [g2, hn i hi] at hj
    simp [hj] at hx
    subst hx
    exact k2
  · have hi := (List.getElem?_eq_some_iff.1 hr).1
    rw [lsM_len] at hi
    rw [lsM_get hi] at hr
    cases hr
    simp
  · refine Nat.not_lt.1 fun hlt => ?_
    unfold bitsM at hlt
    rw [bm_gt, lsM_len] at hlt
    obtain ⟨i, j, hi, hj, hbl⟩ := hlt
    rw [lsM_en hi hj] at hbl
    exact h1 (.inr (.inr ⟨i, j, hi, by rw [hn i hi]; exact hj, hbl⟩))
theorem vE_pos {nn : Nat → Nat} {X : Nat → Nat → Int} {m : Nat} (h : vE nn X m = 0) (hm : 0 < m) : shE nn X m = 0 ∧ 0 < nn 0 := by
  unfold vE at h
  by_cases hs : shE nn X m = 0
  · refine ⟨hs, ?_⟩
    rw [if_neg (by simp [hs])] at h
    by_cases hp : Pos (gr (nn 0) X) m
    · have h0 := hp 0 hm
      rcases Nat.eq_zero_or_pos (nn 0) with hz | hz
      · have : V (gr (nn 0) X) 0 0 0 = 0 := by
          show gr (nn 0) X 0 0 = 0
          unfold gr
          rw [hz]; rfl
        omega
      · exact hz
    · rw [if_neg hp] at h; cases h
  · rw [if_pos hs] at h
    exact absurd h hs
theorem e42 {b : List PV} {z t e : Int} (h : Pu rp 38 [.sl b] (.p (.int .i64 e))) (he : e ≠ 0) : Pu rp 9 [.sl b, .int .u64 z, .int .i64 t] (.tup [.p (.sl []), .p (.sl []), .p (.int .i64 e)]) := by
  refine pu_of rp42 ?_
  have e1 : (e != 0) = true := by simp [he]
  simp only [f9, args0, SA, setCells, Int.reduceLE, Int.reduceLT, ↓reduceIte, reduceCtorEq, Nat.reduceLT, Nat.reduceEqDiff, Nat.reduceAdd, Nat.reduceMul, Nat.reduceLeDiff, Nat.reduceBEq, kp1 h, e1]
  rfl
theorem a42 {b : List PV} {z t : Int} (h : Pu rp 38 [.sl b] (.p (.int .i64 0))) (ht : t < 0 ∨ 256 < t) : Pu rp 9 [.sl b, .int .u64 z, .int .i64 t] (.tup [.p (.sl []), .p (.sl []), .p (.int .i64 1)]) := by
  refine pu_of rp42 ?_
  have e1 : ((0 : Int) != 0) = false := rfl
  by_cases h0 : t < 0
  · simp only [f9, args0, SA, setCells, Int.reduceLE, Int.reduceLT, ↓reduceIte, reduceCtorEq, Nat.reduceLT, Nat.reduceEqDiff, Nat.reduceAdd, Nat.reduceMul, Nat.reduceLeDiff, Nat.reduceBEq, kp1 h, e1, h0]; rfl
  · have h1 : t > 256 := by omega
    simp only [f9, args0, SA, setCells, Int.reduceLE, Int.reduceLT, ↓reduceIte, reduceCtorEq, Nat.reduceLT, Nat.reduceEqDiff, Nat.reduceAdd, Nat.reduceMul, Nat.reduceLeDiff, Nat.reduceBEq, kp1 h, e1, h0, h1]; rfl
/-! ### arguments -/
theorem num_of {L n : Nat} {qs : List PV} (hL : L ≤ 1048576) (h : shpB Try.prog L (n + 3) 41 qs) : ∃ x, Nu (.agg qs) x := by
  obtain ⟨a, r, rfl, ha, c, r, rfl, hc, rfl⟩ := shpB_struct Try.underlying41 h
  obtain ⟨s, rfl⟩ := shpB_bool Try.underlying4 ha
  obtain ⟨us, rfl, hl, hu⟩ := shpB_slice Try.underlying39 hc
  have hlm : ∃ l : List Nat, us = lm l ∧ Lim l := by
    clear hl ha hc h
    induction us with
    | nil => exact ⟨[], rfl, fun x hx => by cases hx⟩
    | cons u us ih =>
      obtain ⟨l, rfl, h2⟩ := ih fun y hy => hu y (List.mem_cons_of_mem _ hy)
      obtain ⟨q, rfl, hq⟩ := hu u (List.mem_cons_self ..)
      obtain ⟨i, rfl, hw⟩ := shpB_int Try.underlying92 hq
      have hw2 : (0 : Int) ≤ i ∧ i ≤ 4294967295 := by
        simp only [Lit.wf, Bool.and_eq_true, decide_eq_true_eq] at hw
        exact hw
      refine ⟨i.toNat :: l, ?_, ?_⟩
      · have : ofCells (isSt Try.prog 92) [PV.int .u32 i] = .int .u32 i := by
          have e : isSt Try.prog 92 = false := by unfold isSt; rw [Try.underlying92]
          rw [e]; rfl
        rw [this, lm_cons, Int.toNat_of_nonneg hw2.1]
      · intro x hx
        rcases List.mem_cons.1 hx with rfl | hx
        · unfold LB; omega
        · exact h2 x hx
  obtain ⟨l, rfl, hlim⟩ := hlm
  refine ⟨iv s l, s, l, ?_, hlim, ?_, rfl⟩
  · simp
  · rw [lm_len] at hl; rw [CapN_eq]; omega
theorem mat_of {L n : Nat} {q : PV} (hL : L ≤ 1048576) (h : shpB Try.prog L (n + 5) 22 [q]) : ∃ b, q = .sl b ∧ MatN b := by
  obtain ⟨b, hq, hl, hb⟩ := shpB_slice Try.underlying22 h
  cases hq
  refine ⟨b, rfl, by omega, fun i hi => ?_⟩
  obtain ⟨qs, h1, h2⟩ := hb b[i] (List.getElem_mem _)
  obtain ⟨r, rfl, hrl, hr⟩ := shpB_slice Try.underlying32 h2
  have e1 : ofCells (isSt Try.prog 32) [PV.sl r] = .sl r := by
    have e : isSt Try.prog 32 = false := by unfold isSt; rw [Try.underlying32]
    rw [e]; rfl
  rw [e1] at h1
  refine ⟨r, by rw [← h1]; simp, by omega, fun j hj => ?_⟩
  obtain ⟨qs, k1, k2⟩ := hr r[j] (List.getElem_mem _)
  obtain ⟨x, hx⟩ := num_of hL k2
  have e2 : ofCells (isSt Try.prog 41) qs = .agg qs := by
    have e : isSt Try.prog 41 = true := by unfold isSt; rw [Try.underlying41]
    rw [e]; rfl
  rw [e2] at k1
  exact ⟨.agg qs, x, by rw [← k1]; simp, hx⟩
end Go.Proofs.Ytdpdnplljonppaa.VKs
