/- Resolved code of functions, printed by a program of ours (genfun.py); each is held against the model by chkF; The functions together; Rows and matrices of numbers: mat.Form, mat.Times, mat.Plus, mat.Minus, mat.Unit and the reference's; The reference's rows; herm: a matrix on its way, and the transform beside it: swap, add, turn; Floor for every divisor; Abs, Compare; the least of a column; The least entry of a column; A column made nought; herm.form: the unit beside a matrix; columns one by one; herm.form; herm.basis, herm.Kernel, relate.Space; mat.Same of equal matrices; herm.Same. No condition. -/
import Derived.Test.YtdpdnplljonppaaZa3
import Derived.Test.YtdpdnplljonppaaProg
import Derived.KernelRfl
import Derived.Test.YtdpdnplljonppaaZb1
import Derived.Test.YtdpdnplljonppaaZh1

namespace Go.Proofs.Ytdpdnplljonppaa.VRs
open Go Vpi
set_option maxRecDepth 100000
def f31 : RFun := ⟨(.seq (.reg [lq 2 (.box (.t 0)), lq 4 (.mv (.c (.nils)))] none)
 (.seq (.reg [mq 5 1, lq 6 (.mkfn 84 [.t 2]), lq 7 (.call .full 83 [.t 5, .t 6]), mq 4 7] none)
 .ret)), [.t 4]⟩
theorem c31 : chkF Try.prog 31 f31 = true := by kernel_rfl
def f39 : RFun := ⟨(.seq (.reg [lq 2 (.mv (.c (.nils)))] none)
 (.seq (.reg [mq 3 0, lq 4 (.call .keep 85 [.t 3, .c (.fn 94 [])]), mq 2 4] none)
 .ret)), [.t 2]⟩
theorem c39 : chkF Try.prog 39 f39 = true := by kernel_rfl
def f57 : RFun := ⟨(.seq (.reg [lq 1 (.box (.t 0)), lq 2 (.alloc [.p (.bool false), .nils])] none)
 (.seq (.reg [lq 3 (.fieldA 0 (.t 1)), lF 4 1 3, lq 5 (.fieldA 1 (.t 1)), lF 6 1 5, lq 7 (.call .pu 71 [.t 4, .t 6]), sq 2 2 7] none)
 .ret)), [.cell 2 true 2]⟩
theorem c57 : chkF Try.prog 57 f57 = true := by kernel_rfl
def f82 : RFun := ⟨(.seq (.reg [lq 4 (.mv (.c (.nils)))] none)
 (.seq (.reg [mq 8 0, mq 9 1, lq 10 (.call .keep 133 [.t 8, .t 9]), mq 7 10, lq 11 (.extract (.t 7) 0), lq 12 (.extract (.t 7) 1), mq 5 11, mq 6 12] none)
 (.seq (.reg [mq 13 5, lq 14 (.nilc (.t 13)), lq 15 (.fieldA 0 (.t 14)), lq 16 (.fieldA 0 (.t 15)), lF 17 1 16, mq 18 6, mq 19 6, lq 20 (.slice 1 (.t 17) none (some (.t 18)) (some (.t 19))), mq 4 20] none)
 .ret))), [.t 4]⟩
theorem c82 : chkF Try.prog 82 f82 = true := by kernel_rfl
def f83 : RFun := ⟨(.seq (.reg [lq 4 (.mv (.c (.nils)))] none)
 (.seq (.reg [mq 8 0, lq 9 (.len (.t 8)), lq 10 (.mks false 2 32 (.agg [.bool false, .sl []]) (ki 0) (.t 9)), mq 5 10] none)
 (.seq (.seq (.reg [mq 11 0, lq 12 (.len (.t 11)), lq 13 (.mv (ki 0))] none)
 (.fg [1, 5, 11, 12, 13] (.block 0
 (.loop (.fg [1, 5, 11, 12, 13]
 (.seq (.reg [bq 14 .lss 13 12] none)
 (.seq (.cond (.t 14)
 .skip
 (.exit 0))
 (.fg [1, 5, 11, 12, 13] (.seq (.block 1
 (.seq (.reg [xq 15 2 11 13, lT 16 2 15, lq 7 (.alloc [.p (.bool false), .nils]), sq 2 7 16] none)
 (.reg [mq 17 5, mq 18 1, lT 19 2 7, lq 20 (.callv .cell (.t 18) [.t 19]), lq 21 (.bslice 2 [.t 20]), lq 22 (.append 2 32 (.t 17) (.t 21)), mq 5 22] none)))
 (.fg [1, 5, 11, 12, 13] (.reg [lq 23 (.bin .add (.t 13) (ki 1)), mq 13 23] none)))))))))))
 (.seq (.reg [mq 24 5, mq 4 24] none)
 .ret)))), [.t 4]⟩
theorem c83 : chkF Try.prog 83 f83 = true := by kernel_rfl
def f84 : RFun := ⟨(.seq (.reg [lq 2 (.box (.t 0)), lq 3 (.alloc [.p (.bool false), .nils])] none)
 (.seq (.reg [lT 4 2 1, lT 5 2 2, lq 6 (.call .pu 24 [.t 4, .t 5]), sq 2 3 6] none)
 .ret)), [.cell 3 true 2]⟩
theorem c84 : chkF Try.prog 84 f84 = true := by kernel_rfl
def f85 : RFun := ⟨(.seq (.reg [lq 4 (.mv (.c (.nils)))] none)
 (.seq (.reg [mq 8 0, lq 9 (.len (.t 8)), lq 10 (.mks false 1 24 (.sl []) (ki 0) (.t 9)), mq 5 10] none)
 (.seq (.seq (.reg [mq 11 0, lq 12 (.len (.t 11)), lq 13 (.mv (ki 0))] none)
 (.fg [1, 5, 11, 12, 13] (.block 0
 (.loop (.fg [1, 5, 11, 12, 13]
 (.seq (.reg [bq 14 .lss 13 12] none)
 (.seq (.cond (.t 14)
 .skip
 (.exit 0))
 (.fg [1, 5, 11, 12, 13] (.seq (.block 1
 (.seq (.reg [xq 15 1 11 13, lF 16 1 15, mq 7 16] none)
 (.reg [mq 17 5, mq 18 1, mq 19 7, lq 20 (.callv .pu (.t 18) [.t 19]), lq 21 (.bslice 1 [.t 20]), lq 22 (.append 1 24 (.t 17) (.t 21)), mq 5 22] none)))
 (.fg [1, 5, 11, 12, 13] (.reg [lq 23 (.bin .add (.t 13) (ki 1)), mq 13 23] none)))))))))))
 (.seq (.reg [mq 24 5, mq 4 24] none)
 .ret)))), [.t 4]⟩
theorem c85 : chkF Try.prog 85 f85 = true := by kernel_rfl
def f89 : RFun := ⟨(.seq (.reg [lq 2 (.box (.t 0)), lq 3 (.box (.t 1)), lq 4 (.mv (ki 0))] none)
 (.seq (.reg [lT 7 2 2, lq 8 (.call .pu 55 [.t 7]), lT 9 2 3, lq 10 (.call .pu 55 [.t 9]), mq 5 8, mq 6 10] (some (0, [])))
 (.seq (.block 0
 (.seq (.reg [mq 12 5, mq 13 6, bq 14 .lss 12 13, mq 11 14] none)
 (.fg [2, 3, 5, 6, 11] (.cond (.t 11)
 (.seq (.reg [lq 4 (.mv (.c (.p (.int .i64 (-1)))))] none)
 .ret)
 (.seq (.reg [mq 16 5, mq 17 6, bq 18 .gtr 16 17, mq 15 18] none)
 (.fg [2, 3, 5, 15] (.cond (.t 15)
 (.seq (.reg [lq 4 (.mv (ki 1))] none)
 .ret)
 .skip)))))))
 (.fg [2, 3, 5] (.seq (.reg [mq 19 5, lq 20 (.fieldA 1 (.t 2)), lF 21 1 20, lq 22 (.fieldA 1 (.t 3)), lF 23 1 22, lq 24 (.call .pu 74 [.t 21, .t 23]), bq 25 .mul 19 24, mq 4 25] none)
 .ret))))), [.t 4]⟩
theorem c89 : chkF Try.prog 89 f89 = true := by kernel_rfl
def f90 : RFun := ⟨(.seq (.reg [lq 1 (.box (.t 0)), lq 2 (.alloc [.p (.bool false), .nils])] none)
 (.seq (.reg [lq 3 (.fieldA 1 (.t 1)), lF 4 1 3, lq 5 (.call .pu 71 [.c (.p (.bool false)), .t 4]), sq 2 2 5] none)
 .ret)), [.cell 2 true 2]⟩
theorem c90 : chkF Try.prog 90 f90 = true := by kernel_rfl
def f94 : RFun := ⟨(.seq (.reg [lq 2 (.mv (.c (.nils)))] none)
 (.seq (.reg [mq 3 0, lq 4 (.call .full 83 [.t 3, .c (.fn 57 [])]), mq 2 4] none)
 .ret)), [.t 2]⟩
theorem c94 : chkF Try.prog 94 f94 = true := by kernel_rfl
def f96 : RFun := ⟨(.seq (.reg [lq 4 (.mv (.c (.nils))), lq 5 (.mv (ki 0))] none)
 (.seq (.reg [mq 6 0, mq 7 1, lq 8 (.call .full 136 [.t 6, .t 7, .c (.fn 26 [])]), lq 9 (.extract (.t 8) 0), lq 10 (.extract (.t 8) 1), mq 4 9, mq 5 10] none)
 .ret)), [.t 4, .t 5]⟩
theorem c96 : chkF Try.prog 96 f96 = true := by kernel_rfl
def f104 : RFun := ⟨(.seq (.reg [lq 2 (.mv (ki 0)), lq 3 (.mv (ki 0)), lq 4 (.mv (ki 0))] none)
 (.seq (.reg [mq 9 0, lq 10 (.call .pu 56 [.t 9]), mq 8 10, lq 11 (.extract (.t 8) 0), lq 12 (.extract (.t 8) 1), lq 13 (.extract (.t 8) 2), mq 5 11, mq 6 12, mq 7 13] none)
 (.seq (.seq (.reg [mq 14 7, lq 15 (.bin .neq (.t 14) (ki 0))] none)
 (.fg [5, 6, 7, 15] (.cond (.t 15)
 (.seq (.reg [mq 16 7, lq 2 (.mv (ki 0)), lq 3 (.mv (ki 0)), mq 4 16] none)
 .ret)
 .skip)))
 (.seq (.seq (.reg [mq 17 5, lq 18 (.bin .gtr (.t 17) (ki 64)), mq 19 18, ⟨(some 20), (some (19, false)), none, .mv (.t 6)⟩, ⟨(some 21), (some (19, false)), none, .bin .gtr (.t 20) (ki 64)⟩, lq 22 (.pick (.t 19) (.c (.p (.bool true))) (.t 21))] none)
 (.fg [5, 6, 22] (.cond (.t 22)
 (.seq (.reg [lq 2 (.mv (ki 0)), lq 3 (.mv (ki 0)), lq 4 (.mv (ki 60))] none)
 .ret)
 .skip)))
 (.seq (.reg [mq 23 5, mq 24 6, mq 2 23, mq 3 24, lq 4 (.mv (ki 0))] none)
 .ret))))), [.t 2, .t 3, .t 4]⟩
theorem c104 : chkF Try.prog 104 f104 = true := by kernel_rfl
def f133 : RFun := ⟨(.seq (.reg [lq 4 (.mv (.c (.any))), lq 5 (.mv (ki 0))] none)
 (.seq (.reg [mq 15 0, lq 16 (.call .keep 39 [.t 15]), lq 17 (.build [.nils] [(0, 1, .t 16)]), lq 18 (.build [.nils, .nils] [(0, 1, .t 17)]), lq 19 (.box (.t 18)), mq 6 19] none)
 (.seq (.seq (.reg [mq 20 0, lq 21 (.len (.t 20)), lq 22 (.mv (ki 0))] none)
 (.fg [0, 1, 6, 21, 22] (.block 0
 (.loop (.fg [0, 1, 6, 21, 22]
 (.seq (.reg [bq 23 .lss 22 21] none)
 (.seq (.cond (.t 23)
 .skip
 (.exit 0))
 (.fg [0, 1, 6, 21, 22] (.seq (.block 1
 (.seq (.reg [mq 24 22, mq 7 24] none)
 (.seq (.reg [mq 25 0, lq 26 (.len (.t 25)), lq 27 (.mks false 2 32 (.agg [.bool false, .sl []]) (.t 26) (.t 26)), mq 8 27] none)
 (.seq (.reg [mq 28 8, mq 29 7, lq 30 (.call .pu 25 [.c (.p (.int .i64 1))]), xq 31 2 28 29, sq 2 31 30] none)
 (.reg [mq 32 6, mq 33 6, lq 34 (.nilc (.t 33)), lq 35 (.fieldA 1 (.t 34)), lq 36 (.fieldA 0 (.t 35)), lF 37 1 36, mq 38 8, lq 39 (.bslice 1 [.t 38]), lq 40 (.append 1 24 (.t 37) (.t 39)), lq 41 (.nilc (.t 32)), lq 42 (.fieldA 1 (.t 41)), lq 43 (.fieldA 0 (.t 42)), sq 1 43 40] none)))))
 (.fg [0, 1, 6, 21, 22] (.reg [lq 44 (.bin .add (.t 22) (ki 1)), mq 22 44] none)))))))))))
 (.seq (.reg [lq 9 (.mv (ki 0))] none)
 (.seq (.seq (.reg [lq 10 (.mv (ki 0))] none)
 (.fg [0, 1, 6, 9, 10] (.block 2
 (.loop (.fg [0, 1, 6, 9, 10]
 (.seq (.seq (.reg [mq 45 10, mq 46 1, bq 47 .lss 45 46, mq 48 47, ⟨(some 49), (some (48, true)), none, .mv (.t 9)⟩, ⟨(some 50), (some (48, true)), none, .mv (.t 0)⟩, ⟨(some 51), (some (48, true)), none, .len (.t 50)⟩, ⟨(some 52), (some (48, true)), none, .bin .lss (.t 49) (.t 51)⟩, lq 53 (.pick (.t 48) (.t 52) (.c (.p (.bool false))))] none)
 (.fg [0, 1, 6, 9, 10, 53] (.cond (.t 53)
 .skip
 (.exit 2))))
 (.seq (.block 3
 (.seq (.seq (.reg [mq 56 6, mq 57 9, mq 58 10, lq 59 (.call .keep 170 [.t 56, .t 57, .t 58]), lq 60 (.un .not (.t 59))] none)
 (.fg [0, 1, 6, 9, 10, 60] (.cond (.t 60)
 (.exit 3)
 .skip)))
 (.seq (.seq (.reg [mq 61 6, lq 62 (.nilc (.t 61)), lq 63 (.fieldA 0 (.t 62)), lq 64 (.fieldA 0 (.t 63)), lF 65 1 64, mq 66 9, xq 67 1 65 66, lF 68 1 67, mq 69 10, xq 70 2 68 69, lT 71 2 70, lq 72 (.call .fz 55 [.t 71]), lq 73 (.bin .lss (.t 72) (ki 0))] none)
 (.fg [0, 1, 6, 9, 10, 73] (.cond (.t 73)
 (.reg [mq 74 6, mq 75 9, lq 76 (.call .keep 171 [.t 74, .t 75])] none)
 .skip)))
 (.seq (.seq (.reg [mq 77 9, lq 78 (.mv (ki 0))] none)
 (.fg [0, 1, 6, 9, 10, 77, 78] (.block 4
 (.loop (.fg [0, 1, 6, 9, 10, 77, 78]
 (.seq (.reg [bq 79 .lss 78 77] none)
 (.seq (.cond (.t 79)
 .skip
 (.exit 4))
 (.fg [0, 1, 6, 9, 10, 77, 78] (.seq (.block 5
 (.seq (.reg [mq 80 78, mq 11 80] none)
 (.seq (.reg [mq 82 6, lq 83 (.nilc (.t 82)), lq 84 (.fieldA 0 (.t 83)), lq 85 (.fieldA 0 (.t 84)), lF 86 1 85, mq 87 11, xq 88 1 86 87, lF 89 1 88, mq 90 10, xq 91 2 89 90, lT 92 2 91, mq 93 6, lq 94 (.nilc (.t 93)), lq 95 (.fieldA 0 (.t 94)), lq 96 (.fieldA 0 (.t 95)), lF 97 1 96, mq 98 9, xq 99 1 97 98, lF 100 1 99, mq 101 10, xq 102 2 100 101, lT 103 2 102, lq 104 (.call .fz 112 [.t 92, .t 103]), mq 81 104, lq 105 (.extract (.t 81) 0), lq 106 (.extract (.t 81) 1), lq 107 (.extract (.t 81) 2), ⟨(some 12), none, (some 0), .alloc [.p (.bool false), .nils]⟩, ⟨(some 13), none, (some 1), .alloc [.p (.bool false), .nils]⟩, sq 2 12 105, sq 2 13 106, mq 14 107] (some (2, [])))
 (.seq (.reg [lT 108 2 12, lq 109 (.call .fz 55 [.t 108]), lq 110 (.bin .neq (.t 109) (ki 0))] none)
 (.fg [0, 1, 6, 9, 10, 11, 12, 77, 78, 110] (.cond (.t 110)
 (.reg [mq 111 6, mq 112 11, mq 113 9, lT 114 2 12, lq 115 (.call .fz 131 [.t 114]), lq 116 (.call .keep 172 [.t 111, .t 112, .t 113, .t 115])] none)
 .skip))))))
 (.fg [0, 1, 6, 9, 10, 77, 78] (.reg [lq 117 (.bin .add (.t 78) (ki 1)), mq 78 117] none)))))))))))
 (.reg [mq 118 9, lq 119 (.bin .add (.t 118) (ki 1)), mq 9 119] none)))))
 (.fg [0, 1, 6, 9, 10] (.reg [mq 54 10, lq 55 (.bin .add (.t 54) (ki 1)), mq 10 55] none)))))))))
 (.seq (.reg [mq 120 6, mq 121 9, mq 4 120, mq 5 121] none)
 .ret)))))), [.t 4, .t 5]⟩
theorem c133 : chkF Try.prog 133 f133 = true := by kernel_rfl
def f136 : RFun := ⟨(.seq (.reg [lq 6 (.mv (.c (.nils))), lq 7 (.mv (ki 0))] none)
 (.seq (.seq (.reg [mq 10 0, lq 11 (.len (.t 10)), mq 12 1, lq 13 (.len (.t 12)), bq 14 .neq 11 13] none)
 (.fg [0, 1, 2, 14] (.cond (.t 14)
 (.seq (.reg [lq 6 (.mv (.c (.nils))), lq 7 (.mv (ki 8))] none)
 .ret)
 .skip)))
 (.seq (.reg [lq 8 (.mv (.c (.nils)))] none)
 (.seq (.seq (.reg [mq 15 0, lq 16 (.len (.t 15)), lq 17 (.mv (ki 0))] none)
 (.fg [0, 1, 2, 8, 16, 17] (.block 0
 (.loop (.fg [0, 1, 2, 8, 16, 17]
 (.seq (.reg [bq 18 .lss 17 16] none)
 (.seq (.cond (.t 18)
 .skip
 (.exit 0))
 (.fg [0, 1, 2, 8, 16, 17] (.seq (.block 1
 (.seq (.reg [mq 19 17, mq 9 19] none)
 (.reg [mq 20 8, mq 21 2, mq 22 0, mq 23 9, xq 24 2 22 23, lT 25 2 24, mq 26 1, mq 27 9, xq 28 2 26 27, lT 29 2 28, lq 30 (.callv .pu (.t 21) [.t 25, .t 29]), ⟨(some 31), none, (some 0), .bslice 2 [.t 30]⟩, ⟨(some 32), none, (some 1), .append 2 32 (.t 20) (.t 31)⟩, mq 8 32] (some (2, [])))))
 (.fg [0, 1, 2, 8, 16, 17] (.reg [lq 33 (.bin .add (.t 17) (ki 1)), mq 17 33] none)))))))))))
 (.seq (.reg [mq 34 8, mq 6 34, lq 7 (.mv (ki 0))] none)
 .ret))))), [.t 6, .t 7]⟩
theorem c136 : chkF Try.prog 136 f136 = true := by kernel_rfl
def f170 : RFun := ⟨(.seq (.reg [lq 3 (.box (.t 0)), lq 4 (.box (.t 1)), lq 5 (.box (.t 2)), lq 6 (.mv (.c (.p (.bool false))))] none)
 (.seq (.reg [lq 14 (.mkfn 196 [.t 4, .t 3, .t 5]), mq 7 14] none)
 (.fg [3, 4, 5, 7] (.block 0
 (.loop (.fg [3, 4, 5, 7]
 (.block 1
 (.seq (.reg [mq 15 7, lq 16 (.callv .keep (.t 15) []), mq 8 16] none)
 (.seq (.seq (.reg [mq 17 8, lq 18 (.bin .lss (.t 17) (ki 0))] none)
 (.fg [3, 4, 5, 7, 8, 18] (.cond (.t 18)
 (.seq (.reg [lq 6 (.mv (.c (.p (.bool false))))] none)
 .ret)
 .skip)))
 (.seq (.seq (.reg [mq 19 8, lF 20 1 4, bq 21 .neq 19 20] none)
 (.fg [3, 4, 5, 7, 8, 21] (.cond (.t 21)
 (.reg [lF 22 1 3, lF 23 1 4, mq 24 8, lq 25 (.call .keep 197 [.t 22, .t 23, .t 24])] none)
 .skip)))
 (.seq (.reg [lq 9 (.mv (.c (.p (.bool true))))] none)
 (.seq (.seq (.reg [lF 26 1 4, lq 27 (.bin .add (.t 26) (ki 1)), mq 10 27] none)
 (.fg [3, 4, 5, 7, 9, 10] (.block 2
 (.loop (.fg [3, 4, 5, 7, 9, 10]
 (.seq (.seq (.reg [mq 28 10, lF 29 1 3, lq 30 (.nilc (.t 29)), lq 31 (.fieldA 0 (.t 30)), lq 32 (.fieldA 0 (.t 31)), lF 33 1 32, lq 34 (.len (.t 33)), bq 35 .lss 28 34] none)
 (.fg [3, 4, 5, 7, 9, 10, 35] (.cond (.t 35)
 .skip
 (.exit 2))))
 (.seq (.block 3
 (.seq (.reg [lF 39 1 3, lq 40 (.nilc (.t 39)), lq 41 (.fieldA 0 (.t 40)), lq 42 (.fieldA 0 (.t 41)), lF 43 1 42, mq 44 10, xq 45 1 43 44, lF 46 1 45, lF 47 1 5, xq 48 2 46 47, lT 49 2 48, lF 50 1 3, lq 51 (.nilc (.t 50)), lq 52 (.fieldA 0 (.t 51)), lq 53 (.fieldA 0 (.t 52)), lF 54 1 53, lF 55 1 4, xq 56 1 54 55, lF 57 1 56, lF 58 1 5, xq 59 2 57 58, lT 60 2 59, lq 61 (.call .pu 112 [.t 49, .t 60]), mq 38 61, lq 62 (.extract (.t 38) 0), lq 63 (.extract (.t 38) 1), lq 64 (.extract (.t 38) 2), ⟨(some 11), none, (some 0), .alloc [.p (.bool false), .nils]⟩, ⟨(some 12), none, (some 1), .alloc [.p (.bool false), .nils]⟩, sq 2 11 62, sq 2 12 63, mq 13 64] (some (2, [])))
 (.seq (.seq (.reg [lT 65 2 11, lq 66 (.call .pu 55 [.t 65]), lq 67 (.bin .neq (.t 66) (ki 0))] none)
 (.fg [3, 4, 5, 7, 9, 10, 11, 67] (.cond (.t 67)
 (.reg [lF 68 1 3, mq 69 10, lF 70 1 4, lT 71 2 11, lq 72 (.call .pu 131 [.t 71]), lq 73 (.call .keep 172 [.t 68, .t 69, .t 70, .t 72])] (some (0, [])))
 .skip)))
 (.reg [mq 74 9, mq 75 74, ⟨(some 76), (some (75, true)), none, .load false 1 (.t 3)⟩, ⟨(some 77), (some (75, true)), none, .nilc (.t 76)⟩, ⟨(some 78), (some (75, true)), none, .fieldA 0 (.t 77)⟩, ⟨(some 79), (some (75, true)), none, .fieldA 0 (.t 78)⟩, ⟨(some 80), (some (75, true)), none, .load false 1 (.t 79)⟩, ⟨(some 81), (some (75, true)), none, .mv (.t 10)⟩, ⟨(some 82), (some (75, true)), none, .indexA 1 (.t 80) (.t 81)⟩, ⟨(some 83), (some (75, true)), none, .load false 1 (.t 82)⟩, ⟨(some 84), (some (75, true)), none, .load false 1 (.t 5)⟩, ⟨(some 85), (some (75, true)), none, .indexA 2 (.t 83) (.t 84)⟩, ⟨(some 86), (some (75, true)), none, .load true 2 (.t 85)⟩, ⟨(some 87), (some (75, true)), none, .call .pu 55 [.t 86]⟩, ⟨(some 88), (some (75, true)), none, .bin .eql (.t 87) (ki 0)⟩, lq 89 (.pick (.t 75) (.t 88) (.c (.p (.bool false)))), mq 9 89] (some (0, []))))))
 (.fg [3, 4, 5, 7, 9, 10] (.reg [mq 36 10, lq 37 (.bin .add (.t 36) (ki 1)), mq 10 37] none)))))))))
 (.seq (.reg [mq 90 9] none)
 (.fg [3, 4, 5, 7, 90] (.cond (.t 90)
 (.seq (.reg [lq 6 (.mv (.c (.p (.bool true))))] none)
 .ret)
 .skip))))))))))))))), [.t 6]⟩
theorem c170 : chkF Try.prog 170 f170 = true := by kernel_rfl
def f171 : RFun := ⟨(.seq (.reg [mq 4 0, lq 5 (.nilc (.t 4)), lq 6 (.fieldA 0 (.t 5)), mq 7 1, lq 8 (.call .keep 198 [.t 6, .t 7])] none)
 (.reg [mq 9 0, lq 10 (.nilc (.t 9)), lq 11 (.fieldA 1 (.t 10)), mq 12 1, lq 13 (.call .keep 198 [.t 11, .t 12])] none)), []⟩
theorem c171 : chkF Try.prog 171 f171 = true := by kernel_rfl
def f172 : RFun := ⟨(.seq (.reg [lq 7 (.box (.t 3))] none)
 (.seq (.reg [mq 8 0, lq 9 (.nilc (.t 8)), lq 10 (.fieldA 0 (.t 9)), mq 11 1, mq 12 2, lT 13 2 7, lq 14 (.call .keep 199 [.t 10, .t 11, .t 12, .t 13])] (some (0, [])))
 (.reg [mq 15 0, lq 16 (.nilc (.t 15)), lq 17 (.fieldA 1 (.t 16)), mq 18 1, mq 19 2, lT 20 2 7, lq 21 (.call .keep 199 [.t 17, .t 18, .t 19, .t 20])] (some (0, []))))), []⟩
theorem c172 : chkF Try.prog 172 f172 = true := by kernel_rfl
def f196 : RFun := ⟨(.seq (.reg [lq 3 (.mv (ki 0))] none)
 (.seq (.reg [lq 4 (.mv (.c (.p (.int .i64 (-1)))))] none)
 (.seq (.seq (.reg [lF 7 1 0, mq 5 7] none)
 (.fg [1, 2, 4, 5] (.block 0
 (.loop (.fg [1, 2, 4, 5]
 (.seq (.seq (.reg [mq 8 5, lF 9 1 1, lq 10 (.nilc (.t 9)), lq 11 (.fieldA 0 (.t 10)), lq 12 (.fieldA 0 (.t 11)), lF 13 1 12, lq 14 (.len (.t 13)), bq 15 .lss 8 14] none)
 (.fg [1, 2, 4, 5, 15] (.cond (.t 15)
 .skip
 (.exit 0))))
 (.seq (.block 1
 (.seq (.reg [lF 18 1 1, lq 19 (.nilc (.t 18)), lq 20 (.fieldA 0 (.t 19)), lq 21 (.fieldA 0 (.t 20)), lF 22 1 21, mq 23 5, xq 24 1 22 23, lF 25 1 24, lF 26 1 2, xq 27 2 25 26, lT 28 2 27, ⟨(some 6), none, (some 0), .alloc [.p (.bool false), .nils]⟩, sq 2 6 28] (some (1, [])))
 (.seq (.reg [lT 29 2 6, lq 30 (.call .pu 55 [.t 29]), lq 31 (.bin .neq (.t 30) (ki 0)), mq 32 31, ⟨(some 33), (some (32, true)), none, .mv (.t 4)⟩, ⟨(some 34), (some (32, true)), none, .bin .lss (.t 33) (ki 0)⟩, ⟨(some 35), (some (32, true)), none, .mv (.t 34)⟩, ⟨(some 36), (some (35, false)), none, .load true 2 (.t 6)⟩, ⟨(some 37), (some (35, false)), none, .call .pu 90 [.t 36]⟩, ⟨(some 38), (some (35, false)), none, .load false 1 (.t 1)⟩, ⟨(some 39), (some (35, false)), none, .nilc (.t 38)⟩, ⟨(some 40), (some (35, false)), none, .fieldA 0 (.t 39)⟩, ⟨(some 41), (some (35, false)), none, .fieldA 0 (.t 40)⟩, ⟨(some 42), (some (35, false)), none, .load false 1 (.t 41)⟩, ⟨(some 43), (some (35, false)), none, .mv (.t 4)⟩, ⟨(some 44), (some (35, false)), none, .indexA 1 (.t 42) (.t 43)⟩, ⟨(some 45), (some (35, false)), none, .load false 1 (.t 44)⟩, ⟨(some 46), (some (35, false)), none, .load false 1 (.t 2)⟩, ⟨(some 47), (some (35, false)), none, .indexA 2 (.t 45) (.t 46)⟩, ⟨(some 48), (some (35, false)), none, .load true 2 (.t 47)⟩, ⟨(some 49), (some (35, false)), none, .call .pu 90 [.t 48]⟩, ⟨(some 50), (some (35, false)), none, .call .pu 89 [.t 37, .t 49]⟩, ⟨(some 51), (some (35, false)), none, .bin .lss (.t 50) (ki 0)⟩, ⟨(some 52), (some (32, true)), none, .pick (.t 35) (.c (.p (.bool true))) (.t 51)⟩, lq 53 (.pick (.t 32) (.t 52) (.c (.p (.bool false))))] (some (0, [])))
 (.fg [1, 2, 4, 5, 53] (.cond (.t 53)
 (.reg [mq 54 5, mq 4 54] none)
 .skip)))))
 (.fg [1, 2, 4, 5] (.reg [mq 16 5, lq 17 (.bin .add (.t 16) (ki 1)), mq 5 17] none)))))))))
 (.seq (.reg [mq 55 4, mq 3 55] none)
 .ret)))), [.t 3]⟩
theorem c196 : chkF Try.prog 196 f196 = true := by kernel_rfl
def f197 : RFun := ⟨(.seq (.reg [mq 6 0, lq 7 (.nilc (.t 6)), lq 8 (.fieldA 0 (.t 7)), mq 9 1, mq 10 2, lq 11 (.call .keep 206 [.t 8, .t 9, .t 10])] none)
 (.reg [mq 12 0, lq 13 (.nilc (.t 12)), lq 14 (.fieldA 1 (.t 13)), mq 15 1, mq 16 2, lq 17 (.call .keep 206 [.t 14, .t 15, .t 16])] none)), []⟩
theorem c197 : chkF Try.prog 197 f197 = true := by kernel_rfl
def f198 : RFun := ⟨(.reg [mq 4 0, lq 5 (.nilc (.t 4)), lq 6 (.fieldA 0 (.t 5)), lF 7 1 6, mq 8 1, lq 9 (.call .pu 25 [.c (.p (.int .i64 (-1)))]), mq 10 0, lq 11 (.nilc (.t 10)), lq 12 (.fieldA 0 (.t 11)), lF 13 1 12, mq 14 1, xq 15 1 13 14, lF 16 1 15, lq 17 (.call .pu 31 [.t 9, .t 16]), xq 18 1 7 8, sq 1 18 17] (some (0, []))), []⟩
theorem c198 : chkF Try.prog 198 f198 = true := by kernel_rfl
def f199 : RFun := ⟨(.seq (.reg [lq 7 (.box (.t 3))] none)
 (.seq (.reg [mq 11 0, lq 12 (.nilc (.t 11)), lq 13 (.fieldA 0 (.t 12)), lF 14 1 13, mq 15 1, xq 16 1 14 15, lF 17 1 16, lT 18 2 7, mq 19 0, lq 20 (.nilc (.t 19)), lq 21 (.fieldA 0 (.t 20)), lF 22 1 21, mq 23 2, xq 24 1 22 23, lF 25 1 24, lq 26 (.call .pu 31 [.t 18, .t 25]), lq 27 (.call .pu 96 [.t 17, .t 26]), mq 10 27, lq 28 (.extract (.t 10) 0), lq 29 (.extract (.t 10) 1), mq 8 28, mq 9 29] (some (0, [])))
 (.reg [mq 30 0, lq 31 (.nilc (.t 30)), lq 32 (.fieldA 0 (.t 31)), lF 33 1 32, mq 34 1, mq 35 8, xq 36 1 33 34, sq 1 36 35] none))), []⟩
theorem c199 : chkF Try.prog 199 f199 = true := by kernel_rfl
def f206 : RFun := ⟨(.reg [mq 6 0, lq 7 (.nilc (.t 6)), lq 8 (.fieldA 0 (.t 7)), lF 9 1 8, mq 10 1, mq 11 0, lq 12 (.nilc (.t 11)), lq 13 (.fieldA 0 (.t 12)), lF 14 1 13, mq 15 2, mq 16 0, lq 17 (.nilc (.t 16)), lq 18 (.fieldA 0 (.t 17)), lF 19 1 18, mq 20 2, xq 21 1 19 20, lF 22 1 21, mq 23 0, lq 24 (.nilc (.t 23)), lq 25 (.fieldA 0 (.t 24)), lF 26 1 25, mq 27 1, xq 28 1 26 27, lF 29 1 28, xq 30 1 9 10, sq 1 30 22, xq 31 1 14 15, sq 1 31 29] (some (0, []))), []⟩
theorem c206 : chkF Try.prog 206 f206 = true := by kernel_rfl
end Go.Proofs.Ytdpdnplljonppaa.VRs

namespace Go.Proofs.Ytdpdnplljonppaa.VRs
open Go Vpi
set_option maxRecDepth 100000
def tab : List (Nat × RFun) := [(31, f31), (39, f39), (57, f57), (82, f82), (83, f83), (84, f84), (85, f85), (89, f89), (90, f90), (94, f94), (96, f96), (104, f104), (133, f133), (136, f136), (170, f170), (171, f171), (172, f172), (196, f196), (197, f197), (198, f198), (199, f199), (206, f206)]
def rp : RProg := fun f => match VBn.rp f with | some rf => some rf | none => (tab.find? fun x => x.1 == f).map (·.2)
theorem all_ok : (tab.all fun x => chkF Try.prog x.1 x.2) = true := by
  simp only [tab, List.all_cons, List.all_nil, c31, c39, c57, c82, c83, c84, c85, c89, c90, c94, c96, c104, c133, c136, c170, c171, c172, c196, c197, c198, c199, c206, Bool.and_self]
theorem base_le : TabLe VBn.rp rp := by
  intro f rf h
  simp only [rp, h]
theorem rp_ok : ∀ f rf, rp f = some rf → chkF Try.prog f rf = true := by
  intro f rf h
  unfold rp at h
  split at h
  · rename_i h1
    cases h
    exact VBn.rp_ok _ _ h1
  · rw [Option.map_eq_some_iff] at h
    obtain ⟨x, hx, rfl⟩ := h
    have h1 := List.find?_some hx
    have h2 := List.mem_of_find?_eq_some hx
    have h3 := List.all_eq_true.1 all_ok x h2
    have h4 : x.1 = f := by simpa using h1
    rw [← h4]; exact h3
theorem mixed : Try.prog.follows .mixedOrders = true := VBn.mixed
theorem sim (m : Nat) : CallSim Try.prog (runF rp m) := callSim mixed rp_ok m
end Go.Proofs.Ytdpdnplljonppaa.VRs

namespace Go.Proofs.Ytdpdnplljonppaa.VRs
open Go Vpi
open VBn hiding rp tab rp_ok all_ok mixed sim Big
set_option maxRecDepth 100000
set_option linter.unusedSimpArgs false
set_option linter.unusedVariables false
theorem rp116 : rp 83 = some f83 := rfl
theorem rp114 : rp 85 = some f85 := rfl
theorem rp115 : rp 94 = some f94 := rfl
theorem rp94 : rp 57 = some f57 := rfl
theorem rp70 : rp 39 = some f39 := rfl
theorem rp78 : rp 31 = some f31 := rfl
theorem rp120 : rp 84 = some f84 := rfl
theorem rp127 : rp 96 = some f96 := rfl
theorem rp156 : rp 136 = some f136 := rfl
/-! ### stores that grow -/
structure Pre (σ ρ : Store) : Prop where
  len : σ.length ≤ ρ.length
  get : ∀ j, j < σ.length → ρ[j]? = σ[j]?
section
variable {σ ρ : Store} {c : CV} {sz : Nat} {es : List PV}
theorem Pre.refl : Pre σ σ := ⟨Nat.le_refl _, fun _ _ => rfl⟩
theorem Pre.push (h : Pre σ ρ) {l : Store} : Pre σ (ρ ++ l) := ⟨by rw [List.length_append]; exact Nat.le_trans h.len (Nat.le_add_right _ _), fun j hj => by rw [get_left (Nat.lt_of_lt_of_le hj h.len), h.get j hj]⟩
theorem Pre.set (h : Pre σ ρ) {b : Nat} {x : Blk} (hb : σ.length ≤ b) : Pre σ (ρ.set b x) := ⟨by rw [List.length_set]; exact h.len, fun j hj => by rw [get_ne (by omega), h.get j hj]⟩
theorem Pre.take (h : Pre σ ρ) : ρ.take σ.length = σ := by
  apply List.ext_getElem?
  intro j
  rw [List.getElem?_take]
  split
  · exact h.get j (by assumption)
  · rw [List.getElem?_eq_none (by omega)]
theorem nd_left {l : Store} (h : GL ρ sz c es) : nd (ρ ++ l) c = nd ρ c ++ l := by
  have hlt := h.lt.2
  cases c <;> try rfl
  exact set_left (hlt _ _ _ rfl)
theorem back_ge {b : Nat} {n base : Nat} (hb : ρ[b]? = some (.prow sz es)) (hn : n = es.length) (h : base ≤ b) : back base ρ (.own b 0 n) = some (.p (.sl es)) := by
  have h1 : ¬ b < base := by omega
  simp only [back, back1, h1, if_false, frz1_own hb hn, Option.map_some]
section
variable {rp : RProg} {rs : List RRes} {base : Nat} {d : Option Nat} {l : List LOp} {dr : Dr} {ks : List KI} {e : Env} {Q : CV → Store → Prop} {xs : List PV}
theorem r_app_1 {a : Blk} {s x : Opd} {bytes : Nat} (h : GL ρ sz c es) (hc : (es.length + xs.length) * bytes ≤ 140737488355328) (hs : vl e s = c) (hx : vl e x = .own (ρ.length + 1) 0 xs.length) (hz : allSz sz xs = true) :
    ExR rp rs base (⟨d, none, none, .append sz bytes s x⟩ :: l) dr ks e (ρ ++ [a, .prow sz xs]) Q = ExR rp rs base l dr ks (sto d (.own (ρ.length + 2) 0 (es.length + xs.length)) e) (nd ρ c ++ [a, .prow sz xs, .prow sz (es ++ xs)]) Q := by
  have hl : (ρ ++ [a]).length = ρ.length + 1 := by simp
  have := r_app (rp := rp) (rs := rs) (base := base) (d := d) (l := l) (dr := dr) (ks := ks) (e := e) (Q := Q) (s := s) (x := x) (h.left (τ := [a])) hc hs (by rw [hl]; exact hx) hz
  rw [hl, nd_left h, List.append_assoc, List.append_assoc] at this
  exact this
theorem kc_full' {f : Nat} {args : List CV} (h : Rn rp f args σ fun v τ => ((τ.take σ.length).all (blkBelow σ.length)) = true ∧ ∃ r, back σ.length τ v = some r ∧ ExR rp rs base l dr ks (sto d r e) (τ.take σ.length) Q) :
    KC rp rs base .full f args d l dr ks e σ Q := cl_full h
end
end
/-! ### lists of numbers -/
def zr (r : List Int) : List PV := r.map zi
def zm (M : List (List Int)) : List PV := M.map fun r => .sl (zr r)
theorem zr_len {r : List Int} : (zr r).length = r.length := by simp [zr]
theorem zm_len {M : List (List Int)} : (zm M).length = M.length := by simp [zm]
theorem zr_get {r : List Int} {i : Nat} {x : Int} (h : r[i]? = some x) : (zr r)[i]? = some (zi x) := by simp [zr, h]
theorem zm_get {M : List (List Int)} {i : Nat} {r : List Int} (h : M[i]? = some r) : (zm M)[i]? = some (.sl (zr r)) := by simp [zm, h]
theorem zr_app {r s : List Int} : zr (r ++ s) = zr r ++ zr s := by simp [zr]
theorem zm_app {r s : List (List Int)} : zm (r ++ s) = zm r ++ zm s := by simp [zm]
theorem zm_set {M : List (List Int)} {i : Nat} {r : List Int} : (zm M).set i (.sl (zr r)) = zm (M.set i r) := by simp [zm, List.map_set]
theorem take_suc {α : Type} {l : List α} {i : Nat} {x : α} (h : l[i]? = some x) : l.take (i + 1) = l.take i ++ [x] := by
  obtain ⟨h1, h2⟩ := List.getElem?_eq_some_iff.1 h
  rw [List.take_add_one, h]; rfl
theorem zr_suc {r : List Int} {i : Nat} {x : Int} (h : r[i]? = some x) : zr (r.take (i + 1)) = zr (r.take i) ++ [zi x] := by rw [take_suc h, zr_app]; rfl
theorem zm_suc {M : List (List Int)} {i : Nat} {r : List Int} (h : M[i]? = some r) : zm (M.take (i + 1)) = zm (M.take i) ++ [.sl (zr r)] := by rw [take_suc h, zm_app]; rfl
def NL (r : List PV) (xs : List Int) : Prop := r.length = xs.length ∧ ∀ (i : Nat) (p : PV) (x : Int), r[i]? = some p → xs[i]? = some x → Nu p x
def ML (b : List PV) (M : List (List Int)) : Prop := b.length = M.length ∧ ∀ (i : Nat) (p : PV) (r : List Int), b[i]? = some p → M[i]? = some r → ∃ q, p = .sl q ∧ NL q r ∧ q.length ≤ 2000000
theorem NL.ix {r : List PV} {xs : List Int} (h : NL r xs) {i : Nat} (hi : i < r.length) : ∃ p x, r[i]? = some p ∧ xs[i]? = some x ∧ Nu p x := by
  have h2 : i < xs.length := by rw [← h.1]; exact hi
  exact ⟨r[i], xs[i], by simp, by simp, h.2 i _ _ (by simp) (by simp)⟩
theorem ML.ix {b : List PV} {M : List (List Int)} (h : ML b M) {i : Nat} (hi : i < b.length) : ∃ q r, b[i]? = some (.sl q) ∧ M[i]? = some r ∧ NL q r ∧ q.length ≤ 2000000 := by
  have h2 : i < M.length := by rw [← h.1]; exact hi
  obtain ⟨q, h3, h4, h5⟩ := h.2 i b[i] M[i] (by simp) (by simp)
  exact ⟨q, M[i], by rw [← h3]; simp, by simp, h4, h5⟩
def SzL (r : List Int) : Prop := ∀ (i : Nat) (x : Int), r[i]? = some x → Sz x
theorem NL.zr {r : List Int} (h : SzL r) : NL (zr r) r := by
  refine ⟨zr_len, fun i p x hp hx => ?_⟩
  rw [zr_get hx] at hp
  cases hp
  exact Nu.zi (h i x hx)
theorem ML.zm {M : List (List Int)} (h : ∀ (i : Nat) (r : List Int), M[i]? = some r → SzL r ∧ r.length ≤ 2000000) : ML (zm M) M := by
  refine ⟨zm_len, fun i p r hp hr => ?_⟩
  rw [zm_get hr] at hp
  cases hp
  exact ⟨_, rfl, .zr (h i r hr).1, by rw [zr_len]; exact (h i r hr).2⟩
/-! ### each -/
def Does (σ : Store) (g : Nat) (cap : List CV) (p : PV) (y : Int) : Prop :=
  ∀ (ρ : Store), Pre σ ρ → ∀ {rs : List RRes} {base : Nat} {d : Option Nat} {l : List LOp} {dr : Dr} {ks : List KI} {e : Env} {Q : CV → Store → Prop},
    KC rp rs base .cell g (.p p :: cap) d l dr ks e ρ Q = ExR rp rs base l dr ks (sto d (.p (zi y)) e) ρ Q
theorem n116 {σ : Store} {g : Nat} {cap : List CV} {r : List PV} {ys : List Int} (hw : Wf σ) (hl : r.length = ys.length) (hm : r.length ≤ 2000000)
    (hg : ∀ i, i < r.length → ∃ p y, r[i]? = some p ∧ ys[i]? = some y ∧ (∃ a b, p = .agg [.bool a, .sl b]) ∧ Does σ g cap p y) {Q : CV → Store → Prop}
    (hQ : ∀ ρ b, Pre σ ρ → Wf ρ → σ.length ≤ b → ρ[b]? = some (.prow 2 (zr ys)) → Q (.own b 0 ys.length) ρ) : Rn rp 83 [.p (.sl r), .fn g cap] σ Q := by
  rw [rn_of rp116]
  have m1 : ((32 : Nat) : Int) * (r.length : Int) ≤ 281474976710656 := by omega
  have m2 : (r.length : Int) ≤ 9223372036854775807 := by omega
  have i0 : Int.toNat 0 = 0 := rfl
  simp only [f83, args0, SA, setCells, Int.reduceLE, Int.reduceLT, ↓reduceIte, reduceCtorEq, Nat.reduceLT, Nat.reduceEqDiff, Nat.reduceAdd, Nat.reduceMul, Nat.reduceLeDiff, Nat.reduceBEq, Int.natCast_nonneg, m1, m2, i0, Int.le_refl]
  refine loop_rule (β := Nat × Store × Nat) (fun t => ([(1, .fn g cap), (5, .own t.2.2 0 t.1), (11, .p (.sl r)), (12, i64 r.length), (13, i64 t.1)], t.2.1))
    (fun t => t.1 ≤ r.length ∧ Pre σ t.2.1 ∧ Wf t.2.1 ∧ σ.length ≤ t.2.2 ∧ t.2.1[t.2.2]? = some (.prow 2 (zr (ys.take t.1)))) (fun t => r.length - t.1) ((0, σ ++ [.prow 2 []], σ.length) : Nat × Store × Nat) rfl rfl
    ⟨Nat.zero_le _, Pre.refl.push, hw.push rfl, Nat.le_refl _, by rw [get_app0]; rfl⟩ ?_
  rintro ⟨i, ρ, b⟩ ⟨hi, hp, hwf, hb, hgl⟩ ih
  simp only [] at hi hp hwf hb hgl ih ⊢
  by_cases hin : (i : Int) < r.length
  · obtain ⟨p, y, hpi, hyi, ⟨a1, a2, rfl⟩, hd⟩ := hg i (by omega)
    have w1 : IntKind.i64.wrap ((i : Int) + 1) = ((i + 1 : Nat) : Int) := by rw [IntWalk.i64_in _ (by omega)]; omega
    have htl : (zr (ys.take i)).length = i := by rw [zr_len, List.length_take]; omega
    have hG : GL ρ 2 (.own b 0 i) (zr (ys.take i)) := .own hgl htl.symm
    have hc : ((zr (ys.take i)).length + [zi y].length) * 32 ≤ 140737488355328 := by rw [htl]; simp; omega
    have hd' := fun {rs base d l dr ks e Q} => hd (ρ ++ [.kblk 2 [.p (.bool a1), .p (.sl a2)]]) hp.push (rs := rs) (base := base) (d := d) (l := l) (dr := dr) (ks := ks) (e := e) (Q := Q)
    have hA := fun {rp rs base d l dr ks e Q s x} => r_app_1 (rp := rp) (rs := rs) (base := base) (d := d) (l := l) (dr := dr) (ks := ks) (e := e) (Q := Q) (s := s) (x := x) (a := .kblk 2 [.p (.bool a1), .p (.sl a2)]) hG hc
    simp only [SA, setCells, Int.reduceLE, Int.reduceLT, ↓reduceIte, reduceCtorEq, Nat.reduceLT, Nat.reduceEqDiff, Nat.reduceAdd, Nat.reduceMul, Nat.reduceLeDiff, Nat.reduceBEq, hin, hpi, Int.natCast_nonneg, Int.toNat_natCast, hd', hA, ← zr_suc hyi, htl, w1, nd]
    refine ih (i + 1, ρ.set b .dead ++ [.kblk 2 [.p (.bool a1), .p (.sl a2)], .prow 2 [zi y], .prow 2 (zr (ys.take (i + 1)))], ρ.length + 2) _ ⟨by simp only []; omega, (hp.set hb).push, ?_, ?_, ?_⟩ (by simp only []; omega) ?_
    · have h1 := (((hwf.set (b := b) (x := .dead) rfl).push (x := .kblk 2 [.p (.bool a1), .p (.sl a2)]) rfl).push (x := .prow 2 [zi y]) rfl).push (x := .prow 2 (zr (ys.take (i + 1)))) rfl
      simpa [List.append_assoc] using h1
    · simp only []; exact Nat.le_trans hp.len (Nat.le_add_right _ _)
    · simp only []
      rw [show ρ.length + 2 = (ρ.set b Blk.dead).length + 2 by rw [List.length_set], get_app]; rfl
    · rfl
  · obtain rfl : i = r.length := by omega
    simp only [SA, setCells, Int.reduceLE, Int.reduceLT, ↓reduceIte, reduceCtorEq, Nat.reduceLT, Nat.reduceEqDiff, Nat.reduceAdd, Nat.reduceMul, Nat.reduceLeDiff, Nat.reduceBEq, hin]
    rw [List.take_of_length_le (by omega)] at hgl
    rw [hl]
    exact hQ ρ b hp hwf hb hgl
theorem does0 {σ : Store} {g : Nat} {p : PV} {y : Int} (h : Pu rp g [p] (.p (zi y))) : Does σ g [] p y := by
  intro ρ _ rs base d l dr ks e Q
  exact kc_cell0 h rfl rfl
theorem p94 {p : PV} {x : Int} (h : Nu p x) : Pu rp 57 [p] (.p (zi x)) := by
  obtain ⟨n1, a, rfl, ha, hna, rfl⟩ := h
  refine pu_of rp94 ?_
  rw [CapN_eq] at hna
  have k := (p105 (neg := n1) ha (by omega)).lift base_le
  rw [mk_val] at k
  simp only [f57, args0, SA, setCells, Int.reduceLE, Int.reduceLT, ↓reduceIte, reduceCtorEq, Nat.reduceLT, Nat.reduceEqDiff, Nat.reduceAdd, Nat.reduceMul, Nat.reduceLeDiff, Nat.reduceBEq, kp2 k]
  rfl
theorem Nu.agg {p : PV} {x : Int} (h : Nu p x) : ∃ a b, p = .agg [.bool a, .sl b] := by
  obtain ⟨n1, a, rfl, -⟩ := h
  exact ⟨_, _, rfl⟩
theorem p115 {r : List PV} {xs : List Int} (h : NL r xs) (hm : r.length ≤ 2000000) : Pu rp 94 [.sl r] (.p (.sl (zr xs))) := by
  refine pu_of rp115 ?_
  simp only [f94, args0, SA, setCells, Int.reduceLE, Int.reduceLT, ↓reduceIte, reduceCtorEq, Nat.reduceLT, Nat.reduceEqDiff, Nat.reduceAdd, Nat.reduceMul, Nat.reduceLeDiff, Nat.reduceBEq]
  refine kc_full' (n116 Wf.nil h.1 hm (fun i hi => ?_) fun ρ b hp hwf hb hg => ?_)
  · obtain ⟨p, x, h1, h2, h3⟩ := h.ix hi
    exact ⟨p, x, h1, h2, Nu.agg h3, does0 (p94 h3)⟩
  · refine ⟨rfl, _, back_ge hg zr_len.symm (Nat.zero_le _), ?_⟩
    simp only [SA, setCells, Int.reduceLE, Int.reduceLT, ↓reduceIte, reduceCtorEq, Nat.reduceLT, Nat.reduceEqDiff, Nat.reduceAdd, Nat.reduceMul, Nat.reduceLeDiff, Nat.reduceBEq]
    rfl
theorem n70 {b : List PV} {M : List (List Int)} {σ : Store} (hw : Wf σ) (h : ML b M) (hm : b.length ≤ 2000000) {Q : CV → Store → Prop}
    (hQ : ∀ ρ k, Pre σ ρ → Wf ρ → σ.length ≤ k → ρ[k]? = some (.prow 1 (zm M)) → Q (.own k 0 M.length) ρ) : Rn rp 39 [.p (.sl b)] σ Q := by
  rw [rn_of rp70]
  simp only [f39, args0, SA, setCells, Int.reduceLE, Int.reduceLT, ↓reduceIte, reduceCtorEq, Nat.reduceLT, Nat.reduceEqDiff, Nat.reduceAdd, Nat.reduceMul, Nat.reduceLeDiff, Nat.reduceBEq]
  refine kc_keep' ?_
  rw [rn_of rp114]
  have m1 : ((24 : Nat) : Int) * (b.length : Int) ≤ 281474976710656 := by omega
  have m2 : (b.length : Int) ≤ 9223372036854775807 := by omega
  have i0 : Int.toNat 0 = 0 := rfl
  simp only [f85, args0, SA, setCells, Int.reduceLE, Int.reduceLT, ↓reduceIte, reduceCtorEq, Nat.reduceLT, Nat.reduceEqDiff, Nat.reduceAdd, Nat.reduceMul, Nat.reduceLeDiff, Nat.reduceBEq, Int.natCast_nonneg, m1, m2, i0, Int.le_refl]
  refine loop_rule (β := Nat × Store × Nat) (fun t => ([(1, .fn 94 []), (5, .own t.2.2 0 t.1), (11, .p (.sl b)), (12, i64 b.length), (13, i64 t.1)], t.2.1))
    (fun t => t.1 ≤ b.length ∧ Pre σ t.2.1 ∧ Wf t.2.1 ∧ σ.length ≤ t.2.2 ∧ t.2.1[t.2.2]? = some (.prow 1 (zm (M.take t.1)))) (fun t => b.length - t.1) ((0, σ ++ [.prow 1 []], σ.length) : Nat × Store × Nat) rfl rfl
    ⟨Nat.zero_le _, Pre.refl.push, hw.push rfl, Nat.le_refl _, by rw [get_app0]; rfl⟩ ?_
  rintro ⟨i, ρ, k⟩ ⟨hi, hp, hwf, hb, hgl⟩ ih
  simp only [] at hi hp hwf hb hgl ih ⊢
  by_cases hin : (i : Int) < b.length
  · obtain ⟨q, r, h1, h2, h3, h4⟩ := h.ix (i := i) (by omega)
    have k115 := p115 h3 h4
    have w1 : IntKind.i64.wrap ((i : Int) + 1) = ((i + 1 : Nat) : Int) := by rw [IntWalk.i64_in _ (by omega)]; omega
    have hl := h.1
    have htl : (zm (M.take i)).length = i := by rw [zm_len, List.length_take]; omega
    have hG : GL ρ 1 (.own k 0 i) (zm (M.take i)) := .own hgl htl.symm
    have hc : ((zm (M.take i)).length + [PV.sl (zr r)].length) * 24 ≤ 140737488355328 := by rw [htl]; simp; omega
    simp only [SA, setCells, Int.reduceLE, Int.reduceLT, ↓reduceIte, reduceCtorEq, Nat.reduceLT, Nat.reduceEqDiff, Nat.reduceAdd, Nat.reduceMul, Nat.reduceLeDiff, Nat.reduceBEq, hin, h1, Int.natCast_nonneg, Int.toNat_natCast, kp1 k115, r_app hG hc, ← zm_suc h2, htl, w1, nd]
    refine ih (i + 1, ρ.set k .dead ++ [.prow 1 [.sl (zr r)], .prow 1 (zm (M.take (i + 1)))], ρ.length + 1) _ ⟨by simp only []; omega, (hp.set hb).push, ?_, ?_, ?_⟩ (by simp only []; omega) ?_
    · have h1 := ((hwf.set (b := k) (x := .dead) rfl).push (x := .prow 1 [.sl (zr r)]) rfl).push (x := .prow 1 (zm (M.take (i + 1)))) rfl
      simpa [List.append_assoc] using h1
    · simp only []; exact Nat.le_trans hp.len (Nat.le_add_right _ _)
    · simp only []
      rw [show ρ.length + 1 = (ρ.set k Blk.dead).length + 1 by rw [List.length_set], get_app]; rfl
    · rfl
  · obtain rfl : i = b.length := by omega
    have hl := h.1
    simp only [SA, setCells, Int.reduceLE, Int.reduceLT, ↓reduceIte, reduceCtorEq, Nat.reduceLT, Nat.reduceEqDiff, Nat.reduceAdd, Nat.reduceMul, Nat.reduceLeDiff, Nat.reduceBEq, hin]
    rw [List.take_of_length_le (by omega)] at hgl
    rw [hl]
    exact hQ ρ k hp hwf hb hgl
/-! ### Times -/
theorem n120 {a : Bool} {b : List PV} {p : PV} {k x : Int} (hk : Nu (.agg [.bool a, .sl b]) k) (hx : Nu p x) : Rn rp 84 [.p p, .ptr 0 0 0] [.kblk 2 [.p (.bool a), .p (.sl b)]] fun v τ => v = .p (zi (k * x)) ∧ τ[0]? = some (.kblk 2 [.p (.bool a), .p (.sl b)]) := by
  have k63 := (p63' hk hx).lift base_le
  obtain ⟨n1, l1, rfl, -⟩ := hx
  rw [rn_of rp120]
  simp only [f84, args0, SA, setCells, Int.reduceLE, Int.reduceLT, ↓reduceIte, reduceCtorEq, Nat.reduceLT, Nat.reduceEqDiff, Nat.reduceAdd, Nat.reduceMul, Nat.reduceLeDiff, Nat.reduceBEq, kp2 k63]
  rfl
theorem set_same {α : Type} {l : List α} {i : Nat} {x : α} (h : l[i]? = some x) : l.set i x = l := by
  apply List.ext_getElem?
  intro j
  by_cases hj : i = j
  · subst hj; rw [List.getElem?_set_self (List.getElem?_eq_some_iff.1 h).1, h]
  · rw [List.getElem?_set_ne hj]
theorem p78 {kp : PV} {k : Int} {r : List PV} {xs : List Int} (hk : Nu kp k) (h : NL r xs) (hm : r.length ≤ 2000000) : Pu rp 31 [kp, .sl r] (.p (.sl (zr (xs.map (k * ·))))) := by
  obtain ⟨a, b, rfl⟩ := Nu.agg hk
  refine pu_of rp78 ?_
  simp only [f31, args0, SA, setCells, Int.reduceLE, Int.reduceLT, ↓reduceIte, reduceCtorEq, Nat.reduceLT, Nat.reduceEqDiff, Nat.reduceAdd, Nat.reduceMul, Nat.reduceLeDiff, Nat.reduceBEq]
  refine kc_full' (n116 (σ := [.kblk 2 [.p (.bool a), .p (.sl b)]]) (ys := xs.map (k * ·)) (Wf.nil.push (x := .kblk 2 [.p (.bool a), .p (.sl b)]) rfl) (by rw [List.length_map]; exact h.1) hm (fun i hi => ?_) fun ρ c hp hwf hb hg => ?_)
  · obtain ⟨p, x, h1, h2, h3⟩ := h.ix hi
    refine ⟨p, k * x, h1, by simp [h2], Nu.agg h3, ?_⟩
    intro ρ hpre rs base d l dr ks e Q
    have h0 : ρ[0]? = some (.kblk 2 [.p (.bool a), .p (.sl b)]) := hpre.get 0 (Nat.lt_succ_self _)
    rw [kc_cell (b := 0) (al := [.p p, .ptr 0 0 0]) rfl h0 rfl rfl (n120 hk h3) rfl, set_same h0]
  · rw [hp.take]
    refine ⟨rfl, _, back_ge hg zr_len.symm hb, ?_⟩
    simp only [SA, setCells, Int.reduceLE, Int.reduceLT, ↓reduceIte, reduceCtorEq, Nat.reduceLT, Nat.reduceEqDiff, Nat.reduceAdd, Nat.reduceMul, Nat.reduceLeDiff, Nat.reduceBEq]
    rfl
/-! ### Plus, Minus -/
theorem n156 {g : Nat} {F : Int → Int → Int} (hF : ∀ p q x y, Nu p x → Nu q y → Pu rp g [p, q] (.p (zi (F x y)))) {a b : List PV} {xs ys : List Int} (ha : NL a xs) (hb : NL b ys) (hl : a.length = b.length) (hm : a.length ≤ 2000000) (h0 : 0 < a.length) {Q : CV → Store → Prop}
    (hQ : ∀ ρ k, ρ[k]? = some (.prow 2 (zr (List.zipWith F xs ys))) → Q (.tup [.own k 0 a.length, .p (.int .i64 0)]) ρ) : Rn rp 136 [.p (.sl a), .p (.sl b), .fn g []] [] Q := by
  rw [rn_of rp156]
  have e1 : ((a.length : Int) != (b.length : Int)) = false := by rw [hl]; simp
  simp only [f136, args0, SA, setCells, Int.reduceLE, Int.reduceLT, ↓reduceIte, reduceCtorEq, Nat.reduceLT, Nat.reduceEqDiff, Nat.reduceAdd, Nat.reduceMul, Nat.reduceLeDiff, Nat.reduceBEq, e1]
  have hzl : (List.zipWith F xs ys).length = a.length := by rw [List.length_zipWith, ← ha.1, ← hb.1, hl, Nat.min_self]
  refine loop_rule (β := Nat × Store × CV) (fun t => ([(0, .p (.sl a)), (1, .p (.sl b)), (2, .fn g []), (8, t.2.2), (16, i64 a.length), (17, i64 t.1)], t.2.1))
    (fun t => t.1 ≤ a.length ∧ GL t.2.1 2 t.2.2 (zr ((List.zipWith F xs ys).take t.1))) (fun t => a.length - t.1) ((0, [], .nils) : Nat × Store × CV) rfl rfl ⟨Nat.zero_le _, .nil⟩ ?_
  rintro ⟨i, ρ, c⟩ ⟨hi, hG⟩ ih
  simp only [] at hi hG ih ⊢
  by_cases hin : (i : Int) < a.length
  · obtain ⟨p, x, p1, p2, p3⟩ := ha.ix (i := i) (by omega)
    obtain ⟨q, y, q1, q2, q3⟩ := hb.ix (i := i) (by omega)
    have kF := hF p q x y p3 q3
    obtain ⟨_, _, rfl⟩ := Nu.agg p3
    obtain ⟨_, _, rfl⟩ := Nu.agg q3
    have hz : (List.zipWith F xs ys)[i]? = some (F x y) := by rw [List.getElem?_zipWith, p2, q2]
    have w1 : IntKind.i64.wrap ((i : Int) + 1) = ((i + 1 : Nat) : Int) := by rw [IntWalk.i64_in _ (by omega)]; omega
    have htl : (zr ((List.zipWith F xs ys).take i)).length = i := by rw [zr_len, List.length_take]; omega
    have hc : ((zr ((List.zipWith F xs ys).take i)).length + [zi (F x y)].length) * 32 ≤ 140737488355328 := by rw [htl]; simp; omega
    have hA := fun {rp rs base d l dr ks e Q s x} hb => r_app_sl (rp := rp) (rs := rs) (base := base) (d := d) (l := l) (dr := dr) (ks := ks) (e := e) (Q := Q) (s := s) (x := x) hb hG hc
    simp only [SA, setCells, Int.reduceLE, Int.reduceLT, ↓reduceIte, reduceCtorEq, Nat.reduceLT, Nat.reduceEqDiff, Nat.reduceAdd, Nat.reduceMul, Nat.reduceLeDiff, Nat.reduceBEq, hin, p1, q1, Int.natCast_nonneg, Int.toNat_natCast, kp2 kF, push_sl, hA rfl, ← zr_suc hz, htl, w1]
    refine ih (i + 1, nd ρ c ++ [.prow 2 [zi (F x y)], .prow 2 (zr ((List.zipWith F xs ys).take (i + 1)))], .own (ρ.length + 1) 0 (i + 1)) _ ⟨by simp only []; omega, ?_⟩ (by simp only []; omega) ?_
    · exact GL.new2 (by rw [zr_len, List.length_take]; omega) rfl
    · rfl
  · obtain rfl : i = a.length := by omega
    rw [List.take_of_length_le (by omega)] at hG
    rcases hG with ⟨rfl, h⟩ | ⟨k, rfl, hk⟩
    · have := congrArg List.length h
      rw [zr_len, hzl, List.length_nil] at this
      omega
    · simp only [SA, setCells, Int.reduceLE, Int.reduceLT, ↓reduceIte, reduceCtorEq, Nat.reduceLT, Nat.reduceEqDiff, Nat.reduceAdd, Nat.reduceMul, Nat.reduceLeDiff, Nat.reduceBEq, hin]
      rw [zr_len, hzl]
      exact hQ _ _ hk
theorem p127 {a b : List PV} {xs ys : List Int} (ha : NL a xs) (hb : NL b ys) (hl : a.length = b.length) (hm : a.length ≤ 2000000) (h0 : 0 < a.length) :
    Pu rp 96 [.sl a, .sl b] (.tup [.p (.sl (zr (List.zipWith (· + ·) xs ys))), .p (.int .i64 0)]) := by
  refine pu_of rp127 ?_
  simp only [f96, args0, SA, setCells, Int.reduceLE, Int.reduceLT, ↓reduceIte, reduceCtorEq, Nat.reduceLT, Nat.reduceEqDiff, Nat.reduceAdd, Nat.reduceMul, Nat.reduceLeDiff, Nat.reduceBEq]
  refine kc_full' (n156 (F := (· + ·)) (fun p q x y h1 h2 => (p145 h1 h2).lift base_le) ha hb hl hm h0 fun ρ k hk => ?_)
  have hn : a.length = (zr (List.zipWith (· + ·) xs ys)).length := by rw [zr_len, List.length_zipWith, ← ha.1, ← hb.1, hl, Nat.min_self]
  refine ⟨rfl, .tup [.p (.sl (zr (List.zipWith (· + ·) xs ys))), .p (.int .i64 0)], ?_, ?_⟩
  · have := back_ge (base := 0) hk hn (Nat.zero_le _)
    exact back_t2 this back1_p
  · simp only [SA, setCells, Int.reduceLE, Int.reduceLT, ↓reduceIte, reduceCtorEq, Nat.reduceLT, Nat.reduceEqDiff, Nat.reduceAdd, Nat.reduceMul, Nat.reduceLeDiff, Nat.reduceBEq]
    rfl
section
variable {rp : RProg} {rs : List RRes} {base : Nat} {d : Option Nat} {l : List LOp} {dr : Dr} {ks : List KI} {e : Env} {σ : Store} {Q : CV → Store → Prop} {sz : Nat} {c : CV} {es : List PV}
end
end Go.Proofs.Ytdpdnplljonppaa.VRs

namespace Go.Proofs.Ytdpdnplljonppaa.VRs
open Go Vpi
open VBn hiding rp tab rp_ok all_ok mixed sim Big
set_option maxRecDepth 100000
set_option linter.unusedSimpArgs false
set_option linter.unusedVariables false
end Go.Proofs.Ytdpdnplljonppaa.VRs

namespace Go.Proofs.Ytdpdnplljonppaa.VRs
open Go Vpi
open VBn hiding rp tab rp_ok all_ok mixed sim Big
open Hn (addR swR tuR)
set_option maxRecDepth 100000
set_option linter.unusedSimpArgs false
set_option linter.unusedVariables false
theorem rp210 : rp 206 = some f206 := rfl
theorem rp207 : rp 199 = some f199 := rfl
theorem rp206 : rp 198 = some f198 := rfl
theorem rp205 : rp 197 = some f197 := rfl
theorem rp181 : rp 172 = some f172 := rfl
theorem rp180 : rp 171 = some f171 := rfl
structure Upd (bl bu : Nat) (σ τ : Store) : Prop where
  len : σ.length ≤ τ.length
  get : ∀ j, j < σ.length → j ≠ bl → j ≠ bu → τ[j]? = σ[j]?
theorem Upd.refl {bl bu : Nat} {σ : Store} : Upd bl bu σ σ := ⟨Nat.le_refl _, fun _ _ _ _ => rfl⟩
theorem Upd.trans {bl bu : Nat} {σ τ ρ : Store} (h : Upd bl bu σ τ) (k : Upd bl bu τ ρ) : Upd bl bu σ ρ :=
  ⟨Nat.le_trans h.len k.len, fun j hj h1 h2 => by rw [k.get j (Nat.lt_of_lt_of_le hj h.len) h1 h2, h.get j hj h1 h2]⟩
theorem Upd.push {bl bu : Nat} {σ τ : Store} (h : Upd bl bu σ τ) {l : Store} : Upd bl bu σ (τ ++ l) :=
  ⟨by rw [List.length_append]; exact Nat.le_trans h.len (Nat.le_add_right _ _), fun j hj h1 h2 => by rw [get_left (Nat.lt_of_lt_of_le hj h.len), h.get j hj h1 h2]⟩
theorem Upd.setl {bl bu : Nat} {σ τ : Store} (h : Upd bl bu σ τ) {x : Blk} : Upd bl bu σ (τ.set bl x) :=
  ⟨by rw [List.length_set]; exact h.len, fun j hj h1 h2 => by rw [get_ne (Ne.symm h1), h.get j hj h1 h2]⟩
theorem Upd.setu {bl bu : Nat} {σ τ : Store} (h : Upd bl bu σ τ) {x : Blk} : Upd bl bu σ (τ.set bu x) :=
  ⟨by rw [List.length_set]; exact h.len, fun j hj h1 h2 => by rw [get_ne (Ne.symm h2), h.get j hj h1 h2]⟩
structure PS (σ : Store) (P bl bu : Nat) (L U : List (List Int)) : Prop where
  pair : σ[P]? = some (.kblk 2 [.own bl 0 L.length, .own bu 0 U.length])
  l : σ[bl]? = some (.prow 1 (zm L))
  u : σ[bu]? = some (.prow 1 (zm U))
  ne : bl ≠ bu
section
variable {σ τ : Store} {P bl bu : Nat} {L U : List (List Int)}
theorem PS.lt (h : PS σ P bl bu L U) : P < σ.length ∧ bl < σ.length ∧ bu < σ.length ∧ P ≠ bl ∧ P ≠ bu := by
  have h1 := h.pair
  have h2 := h.l
  have h3 := h.u
  refine ⟨(List.getElem?_eq_some_iff.1 h1).1, (List.getElem?_eq_some_iff.1 h2).1, (List.getElem?_eq_some_iff.1 h3).1, ?_, ?_⟩
  · rintro rfl; rw [h1] at h2; cases h2
  · rintro rfl; rw [h1] at h3; cases h3
theorem PS.push (h : PS σ P bl bu L U) {l : Store} : PS (σ ++ l) P bl bu L U := by
  obtain ⟨a, b, c, _, _⟩ := h.lt
  exact ⟨by rw [get_left a]; exact h.pair, by rw [get_left b]; exact h.l, by rw [get_left c]; exact h.u, h.ne⟩
theorem PS.setl (h : PS σ P bl bu L U) {M : List (List Int)} (hl : M.length = L.length) : PS (σ.set bl (.prow 1 (zm M))) P bl bu M U := by
  obtain ⟨a, b, c, d, e⟩ := h.lt
  exact ⟨by rw [get_ne (Ne.symm d), hl]; exact h.pair, get_self b, by rw [get_ne h.ne]; exact h.u, h.ne⟩
theorem PS.setu (h : PS σ P bl bu L U) {M : List (List Int)} (hl : M.length = U.length) : PS (σ.set bu (.prow 1 (zm M))) P bl bu L M := by
  obtain ⟨a, b, c, d, e⟩ := h.lt
  exact ⟨by rw [get_ne (Ne.symm e), hl]; exact h.pair, by rw [get_ne (Ne.symm h.ne)]; exact h.l, get_self c, h.ne⟩
end
theorem zm_getD {M : List (List Int)} {i : Nat} (h : i < M.length) : (zm M)[i]? = some (.sl (zr (M.getD i []))) := zm_get (Hn.getD_get h)
/-! ### one matrix -/
theorem n210 {σ : Store} {P o b i k : Nat} {cs : List CV} {M : List (List Int)} (hP : σ[P]? = some (.kblk 2 cs)) (ho : cs[o]? = some (.own b 0 M.length)) (hb : σ[b]? = some (.prow 1 (zm M))) (hi : i < M.length) (hk : k < M.length) {Q : CV → Store → Prop}
    (hQ : Q (.tup []) (σ.set b (.prow 1 (zm (swR M i k))))) : Rn rp 206 [.ptr P 0 o, i64 i, i64 k] σ Q := by
  rw [rn_of rp210]
  have hlt := (List.getElem?_eq_some_iff.1 hb).1
  have h1 := zm_getD hi
  have h2 := zm_getD hk
  have h3 : ((zm M).set i (.sl (zr (M.getD k []))))[k]? = some (.sl (zr (M.getD k []))) := by
    by_cases h : i = k
    · subst h; rw [List.getElem?_set_self (by rw [zm_len]; exact hi)]
    · rw [List.getElem?_set_ne h, h2]
  have hs : ∀ X, (σ.set b X)[b]? = some X := fun X => get_self hlt
  have he : ((zm M).set i (.sl (zr (M.getD k [])))).set k (.sl (zr (M.getD i []))) = zm (swR M i k) := by rw [zm_set, zm_set]; rfl
  simp only [f206, args0, SA, setCells, Int.reduceLE, Int.reduceLT, ↓reduceIte, reduceCtorEq, Nat.reduceLT, Nat.reduceEqDiff, Nat.reduceAdd, Nat.reduceMul, Nat.reduceLeDiff, Nat.reduceBEq, hP, ho, hb, hi, hk, h1, h2, h3, hs, he, Int.natCast_nonneg, Int.toNat_natCast, List.set_set]
  exact hQ
theorem n207 {σ : Store} {P o b i k w : Nat} {cs : List CV} {M : List (List Int)} {kp : PV} {q : Int} (hq : Nu kp q) (hP : σ[P]? = some (.kblk 2 cs)) (ho : cs[o]? = some (.own b 0 M.length)) (hb : σ[b]? = some (.prow 1 (zm M))) (hi : i < M.length) (hk : k < M.length)
    (hw : ∀ j, j < M.length → (M.getD j []).length = w ∧ SzL (M.getD j [])) (hw0 : 0 < w) (hw2 : w ≤ 2000000) (hsz : SzL ((M.getD k []).map (q * ·))) {Q : CV → Store → Prop}
    (hQ : ∀ g, Q (.tup []) (σ.set b (.prow 1 (zm (addR M i k q))) ++ [g])) : Rn rp 199 [.ptr P 0 o, i64 i, i64 k, .p kp] σ Q := by
  obtain ⟨wi, si⟩ := hw i hi
  obtain ⟨wk, sk⟩ := hw k hk
  have k78 := p78 hq (NL.zr sk) (by rw [zr_len, wk]; exact hw2)
  have k127 := p127 (NL.zr si) (NL.zr hsz) (by rw [zr_len, zr_len, List.length_map, wi, wk]) (by rw [zr_len, wi]; exact hw2) (by rw [zr_len, wi]; exact hw0)
  obtain ⟨a1, a2, rfl⟩ := Nu.agg hq
  rw [rn_of rp207]
  have hlt := (List.getElem?_eq_some_iff.1 hb).1
  have hltP := (List.getElem?_eq_some_iff.1 hP).1
  have hP' : ∀ l, (σ ++ l)[P]? = some (.kblk 2 cs) := fun l => by rw [get_left hltP]; exact hP
  have hb' : ∀ l, (σ ++ l)[b]? = some (.prow 1 (zm M)) := fun l => by rw [get_left hlt]; exact hb
  have h1 := zm_getD hi
  have h2 := zm_getD hk
  have he : (zm M).set i (.sl (zr (List.zipWith (· + ·) (M.getD i []) ((M.getD k []).map (q * ·))))) = zm (addR M i k q) := by rw [zm_set]; rfl
  simp only [f199, args0, SA, setCells, Int.reduceLE, Int.reduceLT, ↓reduceIte, reduceCtorEq, Nat.reduceLT, Nat.reduceEqDiff, Nat.reduceAdd, Nat.reduceMul, Nat.reduceLeDiff, Nat.reduceBEq, hP', ho, hb', hi, hk, h1, h2, kp2 k78, kp2 k127, he, Int.natCast_nonneg, Int.toNat_natCast, set_left hlt]
  exact hQ _
theorem n206 {σ : Store} {P o b i w : Nat} {cs : List CV} {M : List (List Int)} (hP : σ[P]? = some (.kblk 2 cs)) (ho : cs[o]? = some (.own b 0 M.length)) (hb : σ[b]? = some (.prow 1 (zm M))) (hi : i < M.length)
    (hw : ∀ j, j < M.length → (M.getD j []).length = w ∧ SzL (M.getD j [])) (hw2 : w ≤ 2000000) {Q : CV → Store → Prop}
    (hQ : Q (.tup []) (σ.set b (.prow 1 (zm (tuR M i))))) : Rn rp 198 [.ptr P 0 o, i64 i] σ Q := by
  obtain ⟨wi, si⟩ := hw i hi
  have k54 := (VBn.p54 (x := -1) (by decide) (by decide)).lift base_le
  have k78 := p78 (Nu.zi (Sz.small (by decide) : Sz (-1))) (NL.zr si) (by rw [zr_len, wi]; exact hw2)
  rw [rn_of rp206]
  have h1 := zm_getD hi
  have he : (zm M).set i (.sl (zr ((M.getD i []).map (-1 * ·)))) = zm (tuR M i) := by rw [zm_set]; rfl
  simp only [f198, args0, SA, setCells, Int.reduceLE, Int.reduceLT, ↓reduceIte, reduceCtorEq, Nat.reduceLT, Nat.reduceEqDiff, Nat.reduceAdd, Nat.reduceMul, Nat.reduceLeDiff, Nat.reduceBEq, hP, ho, hb, hi, h1, kp1 k54, kp2 k78, he, Int.natCast_nonneg, Int.toNat_natCast]
  exact hQ
/-! ### both -/
section
variable {σ : Store} {P bl bu : Nat} {L U : List (List Int)}
theorem n205 {i k : Nat} (h : PS σ P bl bu L U) (hLU : L.length = U.length) (hi : i < L.length) (hk : k < L.length) {Q : CV → Store → Prop}
    (hQ : ∀ τ, Upd bl bu σ τ → PS τ P bl bu (swR L i k) (swR U i k) → Q (.tup []) τ) : Rn rp 197 [.ptr P 0 0, i64 i, i64 k] σ Q := by
  rw [rn_of rp205]
  have g1 := h.setl (M := swR L i k) Hn.swR_len
  simp only [f197, args0, SA, setCells, Int.reduceLE, Int.reduceLT, ↓reduceIte, reduceCtorEq, Nat.reduceLT, Nat.reduceEqDiff, Nat.reduceAdd, Nat.reduceMul, Nat.reduceLeDiff, Nat.reduceBEq]
  refine kc_keep' (n210 h.pair rfl h.l hi hk ?_)
  simp only [SA, setCells, Int.reduceLE, Int.reduceLT, ↓reduceIte, reduceCtorEq, Nat.reduceLT, Nat.reduceEqDiff, Nat.reduceAdd, Nat.reduceMul, Nat.reduceLeDiff, Nat.reduceBEq]
  refine kc_keep' (n210 g1.pair rfl g1.u (by rw [← hLU]; exact hi) (by rw [← hLU]; exact hk) ?_)
  simp only [SA, setCells, Int.reduceLE, Int.reduceLT, ↓reduceIte, reduceCtorEq, Nat.reduceLT, Nat.reduceEqDiff, Nat.reduceAdd, Nat.reduceMul, Nat.reduceLeDiff, Nat.reduceBEq]
  exact hQ _ (Upd.refl.setl.setu) (g1.setu Hn.swR_len)
theorem n180 {i w v : Nat} (h : PS σ P bl bu L U) (hLU : L.length = U.length) (hi : i < L.length)
    (hwl : ∀ j, j < L.length → (L.getD j []).length = w ∧ SzL (L.getD j [])) (hwu : ∀ j, j < U.length → (U.getD j []).length = v ∧ SzL (U.getD j [])) (hw2 : w ≤ 2000000) (hv2 : v ≤ 2000000) {Q : CV → Store → Prop}
    (hQ : ∀ τ, Upd bl bu σ τ → PS τ P bl bu (tuR L i) (tuR U i) → Q (.tup []) τ) : Rn rp 171 [.ptr P 0 0, i64 i] σ Q := by
  rw [rn_of rp180]
  have g1 := h.setl (M := tuR L i) Hn.tuR_len
  simp only [f171, args0, SA, setCells, Int.reduceLE, Int.reduceLT, ↓reduceIte, reduceCtorEq, Nat.reduceLT, Nat.reduceEqDiff, Nat.reduceAdd, Nat.reduceMul, Nat.reduceLeDiff, Nat.reduceBEq]
  refine kc_keep' (n206 h.pair rfl h.l hi hwl hw2 ?_)
  simp only [SA, setCells, Int.reduceLE, Int.reduceLT, ↓reduceIte, reduceCtorEq, Nat.reduceLT, Nat.reduceEqDiff, Nat.reduceAdd, Nat.reduceMul, Nat.reduceLeDiff, Nat.reduceBEq]
  refine kc_keep' (n206 g1.pair rfl g1.u (by rw [← hLU]; exact hi) hwu hv2 ?_)
  simp only [SA, setCells, Int.reduceLE, Int.reduceLT, ↓reduceIte, reduceCtorEq, Nat.reduceLT, Nat.reduceEqDiff, Nat.reduceAdd, Nat.reduceMul, Nat.reduceLeDiff, Nat.reduceBEq]
  exact hQ _ (Upd.refl.setl.setu) (g1.setu Hn.tuR_len)
theorem n181 {i k w v : Nat} {kp : PV} {q : Int} (hq : Nu kp q) (h : PS σ P bl bu L U) (hLU : L.length = U.length) (hi : i < L.length) (hk : k < L.length)
    (hwl : ∀ j, j < L.length → (L.getD j []).length = w ∧ SzL (L.getD j [])) (hwu : ∀ j, j < U.length → (U.getD j []).length = v ∧ SzL (U.getD j [])) (hw0 : 0 < w) (hv0 : 0 < v) (hw2 : w ≤ 2000000) (hv2 : v ≤ 2000000)
    (hsl : SzL ((L.getD k []).map (q * ·))) (hsu : SzL ((U.getD k []).map (q * ·))) {Q : CV → Store → Prop}
    (hQ : ∀ τ, Upd bl bu σ τ → PS τ P bl bu (addR L i k q) (addR U i k q) → Q (.tup []) τ) : Rn rp 172 [.ptr P 0 0, i64 i, i64 k, .p kp] σ Q := by
  have hq0 := hq
  obtain ⟨a1, a2, rfl⟩ := Nu.agg hq
  rw [rn_of rp181]
  have h0 := h.push (l := [.kblk 2 [.p (.bool a1), .p (.sl a2)]])
  simp only [f172, args0, SA, setCells, Int.reduceLE, Int.reduceLT, ↓reduceIte, reduceCtorEq, Nat.reduceLT, Nat.reduceEqDiff, Nat.reduceAdd, Nat.reduceMul, Nat.reduceLeDiff, Nat.reduceBEq]
  refine kc_keep' (n207 hq0 h0.pair rfl h0.l hi hk hwl hw0 hw2 hsl fun g => ?_)
  have g1 := (h0.setl (M := addR L i k q) Hn.addR_len).push (l := [g])
  have hg : ∀ l, (((σ ++ [Blk.kblk 2 [.p (.bool a1), .p (.sl a2)]]).set bl (.prow 1 (zm (addR L i k q))) ++ [g]) ++ l)[σ.length]? = some (.kblk 2 [.p (.bool a1), .p (.sl a2)]) := fun l => by
    obtain ⟨_, b, _, _, _⟩ := h.lt
    rw [set_left b, List.append_assoc, List.append_assoc, show σ.length = (σ.set bl (Blk.prow 1 (zm (addR L i k q)))).length by rw [List.length_set], get_app0]
    rfl
  have hg0 := hg []
  rw [List.append_nil] at hg0
  generalize hρ : (σ ++ [Blk.kblk 2 [CV.p (PV.bool a1), CV.p (PV.sl a2)]]).set bl (Blk.prow 1 (zm (addR L i k q))) ++ [g] = ρ at g1 hg0
  have hup : Upd bl bu σ ρ := by rw [← hρ]; exact ((Upd.refl.push).setl).push
  simp only [SA, setCells, Int.reduceLE, Int.reduceLT, ↓reduceIte, reduceCtorEq, Nat.reduceLT, Nat.reduceEqDiff, Nat.reduceAdd, Nat.reduceMul, Nat.reduceLeDiff, Nat.reduceBEq, hg0]
  refine kc_keep' (n207 hq0 g1.pair rfl g1.u (by rw [← hLU]; exact hi) (by rw [← hLU]; exact hk) hwu hv0 hv2 hsu fun g' => ?_)
  simp only [SA, setCells, Int.reduceLE, Int.reduceLT, ↓reduceIte, reduceCtorEq, Nat.reduceLT, Nat.reduceEqDiff, Nat.reduceAdd, Nat.reduceMul, Nat.reduceLeDiff, Nat.reduceBEq]
  exact hQ _ (hup.setu.push) ((g1.setu Hn.addR_len).push)
end
end Go.Proofs.Ytdpdnplljonppaa.VRs

namespace Go.Proofs.Ytdpdnplljonppaa.VRs
open Go Vpi
open VBn hiding rp tab rp_ok all_ok mixed sim Big
open Hn (addR swR tuR Fl)
set_option maxRecDepth 100000
set_option linter.unusedSimpArgs false
set_option linter.unusedVariables false
theorem rp204 : rp 90 = some f90 := rfl
theorem rp203 : rp 89 = some f89 := rfl
theorem rp202 : rp 196 = some f196 := rfl
theorem fl_of {n1 n2 : Bool} {A B : Nat} {x y : Int} (hx : x = if n1 = true then -(A : Int) else A) (hy : y = if n2 = true then -(B : Int) else B) (hB : B ≠ 0) :
    ∃ q0 r0 : Int, q0 = (if (!(n1 == n2)) = true then -((A / B : Nat) : Int) else ((A / B : Nat) : Int)) ∧ r0 = (if n1 = true then -((A % B : Nat) : Int) else ((A % B : Nat) : Int)) ∧ x = q0 * y + r0 ∧ q0.natAbs ≤ x.natAbs ∧ r0.natAbs ≤ x.natAbs ∧ r0.natAbs < y.natAbs ∧
      (r0.sign = 0 → Fl x y q0 r0) ∧ (r0.sign ≠ 0 → r0.sign = y.sign → Fl x y q0 r0) ∧ (r0.sign ≠ 0 → r0.sign ≠ y.sign → Fl x y (q0 - 1) (r0 + y)) := by
  have hd : (A : Int) = ((A / B : Nat) : Int) * (B : Int) + ((A % B : Nat) : Int) := by
    have := Nat.div_add_mod A B
    have h2 : (A : Int) = ((B * (A / B) + A % B : Nat) : Int) := by rw [this]
    rw [h2, Int.natCast_add, Int.natCast_mul, Int.mul_comm]
  have hm : A % B < B := Nat.mod_lt _ (Nat.pos_of_ne_zero hB)
  have hqle : A / B ≤ A := Nat.div_le_self _ _
  have hrle : A % B ≤ A := Nat.mod_le _ _
  generalize A / B = D at *
  generalize A % B = R at *
  have key : x = (if (!(n1 == n2)) = true then -(D : Int) else (D : Int)) * y + (if n1 = true then -(R : Int) else (R : Int)) := by
    rw [hx, hy]
    cases n1 <;> cases n2
    · show (A : Int) = (D : Int) * (B : Int) + (R : Int)
      exact hd
    · show (A : Int) = -(D : Int) * -(B : Int) + (R : Int)
      rw [Int.neg_mul_neg]; exact hd
    · show -(A : Int) = -(D : Int) * (B : Int) + -(R : Int)
      rw [Int.neg_mul]; omega
    · show -(A : Int) = (D : Int) * -(B : Int) + -(R : Int)
      rw [Int.mul_neg]; omega
  refine ⟨_, _, rfl, rfl, key, ?_, ?_, ?_, ?_, ?_, ?_⟩
  · rw [hx]; cases n1 <;> cases n2 <;> simp <;> omega
  · rw [hx]; cases n1 <;> simp <;> omega
  · rw [hy]; cases n1 <;> cases n2 <;> simp <;> omega
  · intro h0
    have h1 := Int.sign_eq_zero_iff_zero.1 h0
    refine ⟨key, ?_, ?_, ?_⟩
    · rw [h1]
      rw [hy]; cases n2 <;> simp <;> omega
    · rw [hx]; cases n1 <;> cases n2 <;> simp <;> omega
    · rw [h1, hy]; cases n2 <;> simp <;> omega
  · intro h0 h1
    have hR : R ≠ 0 := by rintro rfl; apply h0; cases n1 <;> rfl
    refine ⟨key, ?_, ?_, ?_⟩
    · rw [hy] at h1 ⊢
      cases n1 <;> cases n2
      · left; simp; omega
      · exfalso
        rw [Int.sign_eq_one_of_pos (by simp; omega : (0 : Int) < if false = true then -(R : Int) else R), Int.sign_eq_neg_one_of_neg (by simp; omega : (if true = true then -(B : Int) else (B : Int)) < 0)] at h1
        cases h1
      · exfalso
        rw [Int.sign_eq_neg_one_of_neg (by simp; omega : (if true = true then -(R : Int) else (R : Int)) < 0), Int.sign_eq_one_of_pos (by simp; omega : (0 : Int) < if false = true then -(B : Int) else B)] at h1
        cases h1
      · right; simp; omega
    · rw [hx]; cases n1 <;> cases n2 <;> simp <;> omega
    · rw [hy]; cases n1 <;> cases n2 <;> simp <;> omega
  · intro h0 h1
    have hR : R ≠ 0 := by rintro rfl; apply h0; cases n1 <;> rfl
    refine ⟨by rw [Int.sub_mul]; omega, ?_, ?_, ?_⟩
    · rw [hy] at h1 ⊢
      cases n1 <;> cases n2
      · exfalso
        apply h1
        rw [Int.sign_eq_one_of_pos (by simp; omega : (0 : Int) < if false = true then -(R : Int) else R), Int.sign_eq_one_of_pos (by simp; omega : (0 : Int) < if false = true then -(B : Int) else B)]
      · right; simp; omega
      · left; simp; omega
      · exfalso
        apply h1
        rw [Int.sign_eq_neg_one_of_neg (by simp; omega : (if true = true then -(R : Int) else (R : Int)) < 0), Int.sign_eq_neg_one_of_neg (by simp; omega : (if true = true then -(B : Int) else (B : Int)) < 0)]
    · rw [hx]; cases n1 <;> cases n2 <;> simp <;> omega
    · rw [hy] at h1 ⊢
      cases n1 <;> cases n2
      · exfalso
        apply h1
        rw [Int.sign_eq_one_of_pos (by simp; omega : (0 : Int) < if false = true then -(R : Int) else R), Int.sign_eq_one_of_pos (by simp; omega : (0 : Int) < if false = true then -(B : Int) else B)]
      · simp; omega
      · simp; omega
      · exfalso
        apply h1
        rw [Int.sign_eq_neg_one_of_neg (by simp; omega : (if true = true then -(R : Int) else (R : Int)) < 0), Int.sign_eq_neg_one_of_neg (by simp; omega : (if true = true then -(B : Int) else (B : Int)) < 0)]
theorem fl134 {p p' : PV} {x y : Int} (h : Nu p x) (h' : Nu p' y) (hy : y ≠ 0) : ∃ q r, Fl x y q r ∧ Pu VBn.rp 112 [p, p'] (.tup [.p (zi q), .p (zi r), .p (.int .i64 0)]) := by
  have hx := h.sz
  have hys := h'.sz
  have k77y := VBn.p77 h'
  obtain ⟨n1, a, rfl, ha, hna, rfl⟩ := h
  have h'' := h'
  obtain ⟨n2, b, rfl, hb, hnb, rfl⟩ := h'
  have hb0 : val b ≠ 0 := by intro h0; apply hy; unfold iv; rw [h0]; cases n2 <;> rfl
  obtain ⟨q0, r0, eq0, er0, key, qle, rle, rlt, f1, f2, f3⟩ := fl_of (n1 := n1) (n2 := n2) (A := val a) (B := val b) (x := iv n1 a) (y := iv n2 b) rfl rfl hb0
  rw [CapN_eq] at hna hnb
  have k1 := VBn.p159 ha hb (by omega) (by omega) hb0
  have hdq : (dgl (val a / val b)).length ≤ a.length := dgl_len (Nat.lt_of_le_of_lt (Nat.div_le_self _ _) (val_lt ha))
  have hdr : (dgl (val a % val b)).length ≤ a.length := dgl_len (Nat.lt_of_le_of_lt (Nat.mod_le _ _) (val_lt ha))
  have kq := VBn.p105 (neg := !(n1 == n2)) (dgl_lim (val a / val b)) (by omega)
  have kr := VBn.p105 (neg := n1) (dgl_lim (val a % val b)) (by omega)
  simp only [val_dgl, mk_iv] at kq kr
  rw [← eq0] at kq
  rw [← er0] at kr
  have hqz : Sz q0 := hx.le qle
  have hrz : Sz r0 := hx.le rle
  have k77 := VBn.p77 (Nu.zi hrz)
  have ks := VBn.p157 (Nu.zi hqz) (Nu.zi (x := 1) (Sz.small (by decide)))
  have ka := VBn.p145 (Nu.zi hrz) h''
  have k54 := VBn.p54 (x := 1) (by decide) (by decide)
  rw [zi_raw] at k77 ka
  rw [zi_raw (x := q0)] at ks
  have e0 : ((0 : Int) != 0) = false := rfl
  by_cases h0 : r0.sign = 0
  · refine ⟨q0, r0, f1 h0, ?_⟩
    refine pu_of VBn.rp134 ?_
    have e1 : (r0.sign != 0) = false := by rw [h0]; rfl
    simp only [VBn.f112, args0, SA, setCells, Int.reduceLE, Int.reduceLT, ↓reduceIte, reduceCtorEq, Nat.reduceLT, Nat.reduceEqDiff, Nat.reduceAdd, Nat.reduceMul, Nat.reduceLeDiff, Nat.reduceBEq, kp2 k1, push_sl, e0, kp2 kq, kp2 kr, kp1 k77, e1]
    rw [r_nilx]
    refine ⟨by rfl, ?_⟩
    simp only [SA, setCells, Int.reduceLE, Int.reduceLT, ↓reduceIte, reduceCtorEq, Nat.reduceLT, Nat.reduceEqDiff, Nat.reduceAdd, Nat.reduceMul, Nat.reduceLeDiff, Nat.reduceBEq]
    exact back_t3 back1_p back1_p back1_p
  · have e1 : (r0.sign != 0) = true := by simp [h0]
    by_cases h1 : r0.sign = (iv n2 b).sign
    · refine ⟨q0, r0, f2 h0 h1, ?_⟩
      refine pu_of VBn.rp134 ?_
      rw [← h1] at k77y
      simp only [VBn.f112, args0, SA, setCells, Int.reduceLE, Int.reduceLT, ↓reduceIte, reduceCtorEq, Nat.reduceLT, Nat.reduceEqDiff, Nat.reduceAdd, Nat.reduceMul, Nat.reduceLeDiff, Nat.reduceBEq, kp2 k1, push_sl, e0, kp2 kq, kp2 kr, kp1 k77, e1, kp1 k77y, bne_self_eq_false]
      rw [r_nilx]
      refine ⟨by rfl, ?_⟩
      simp only [SA, setCells, Int.reduceLE, Int.reduceLT, ↓reduceIte, reduceCtorEq, Nat.reduceLT, Nat.reduceEqDiff, Nat.reduceAdd, Nat.reduceMul, Nat.reduceLeDiff, Nat.reduceBEq]
      exact back_t3 back1_p back1_p back1_p
    · refine ⟨q0 - 1, r0 + iv n2 b, f3 h0 h1, ?_⟩
      refine pu_of VBn.rp134 ?_
      have e2 : (r0.sign != (iv n2 b).sign) = true := by simp [h1]
      simp only [VBn.f112, args0, SA, setCells, Int.reduceLE, Int.reduceLT, ↓reduceIte, reduceCtorEq, Nat.reduceLT, Nat.reduceEqDiff, Nat.reduceAdd, Nat.reduceMul, Nat.reduceLeDiff, Nat.reduceBEq, kp2 k1, push_sl, e0, kp2 kq, kp2 kr, kp1 k77, e1, kp1 k77y, e2, kp1 k54, kp2 ks, kp2 ka]
      rw [r_nilx]
      refine ⟨by rfl, ?_⟩
      simp only [SA, setCells, Int.reduceLE, Int.reduceLT, ↓reduceIte, reduceCtorEq, Nat.reduceLT, Nat.reduceEqDiff, Nat.reduceAdd, Nat.reduceMul, Nat.reduceLeDiff, Nat.reduceBEq]
      exact back_t3 back1_p back1_p back1_p
theorem p204 {p : PV} {x : Int} (h : Nu p x) : Pu rp 90 [p] (.p (zi (x.natAbs : Int))) := by
  obtain ⟨n1, a, rfl, ha, hna, rfl⟩ := h
  rw [CapN_eq] at hna
  have k := (VBn.p105 (neg := false) ha (by omega)).lift base_le
  rw [mk_val, show iv false a = ((iv n1 a).natAbs : Int) by rw [iv_abs]; rfl] at k
  refine pu_of rp204 ?_
  simp only [f90, args0, SA, setCells, Int.reduceLE, Int.reduceLT, ↓reduceIte, reduceCtorEq, Nat.reduceLT, Nat.reduceEqDiff, Nat.reduceAdd, Nat.reduceMul, Nat.reduceLeDiff, Nat.reduceBEq, kp2 k]
  rfl
theorem p203 {m n : Nat} (hm : Sz (m : Int)) (hn : Sz (n : Int)) : ∃ c : Int, Pu rp 89 [zi (m : Int), zi (n : Int)] (.p (.int .i64 c)) ∧ (c < 0 ↔ m < n) := by
  have km := (VBn.p77 (Nu.zi hm)).lift base_le
  have kn := (VBn.p77 (Nu.zi hn)).lift base_le
  rw [zi_raw] at km kn
  have dm : (dgl m).length ≤ 1099511627776 := by
    have := dgl_len (k := CapN) (show m < LB ^ CapN from hm)
    rw [CapN_eq] at this; omega
  have dn : (dgl n).length ≤ 1099511627776 := by
    have := dgl_len (k := CapN) (show n < LB ^ CapN from hn)
    rw [CapN_eq] at this; omega
  have kc := (VBn.p177 (dgl_lim m) (dgl_lim n) dm dn).lift base_le
  simp only [val_dgl] at kc
  have am : ((m : Int).natAbs) = m := rfl
  have an : ((n : Int).natAbs) = n := rfl
  rw [am] at km
  rw [an] at kn
  rcases Nat.eq_zero_or_pos m with rfl | hm0
  · rcases Nat.eq_zero_or_pos n with rfl | hn0
    · refine ⟨0, ?_, by simp⟩
      refine pu_of rp203 ?_
      have c0 : cmpI 0 0 = 0 := rfl
      rw [c0] at kc
      have sm : ((0 : Nat) : Int).sign = 0 := rfl
      rw [sm] at km kn
      have t1 : ¬ ((0 : Int) < 0) := by decide
      have t2 : ¬ ((0 : Int) > 0) := by decide
      rw [zi_raw]
      simp only [f89, args0, SA, setCells, Int.reduceLE, Int.reduceLT, ↓reduceIte, reduceCtorEq, Nat.reduceLT, Nat.reduceEqDiff, Nat.reduceAdd, Nat.reduceMul, Nat.reduceLeDiff, Nat.reduceBEq, am, kp1 km, kp1 kn, t1, t2, kp2 kc]
      rfl
    · refine ⟨-1, ?_, by simp [hn0]⟩
      refine pu_of rp203 ?_
      have sm : ((0 : Nat) : Int).sign = 0 := rfl
      have sn : (n : Int).sign = 1 := Int.sign_eq_one_of_pos (by omega)
      rw [sm] at km
      rw [sn] at kn
      have t1 : ((0 : Int) < 1) := by decide
      rw [zi_raw, zi_raw]
      simp only [f89, args0, SA, setCells, Int.reduceLE, Int.reduceLT, ↓reduceIte, reduceCtorEq, Nat.reduceLT, Nat.reduceEqDiff, Nat.reduceAdd, Nat.reduceMul, Nat.reduceLeDiff, Nat.reduceBEq, am, an, kp1 km, kp1 kn, t1]
      rfl
  · rcases Nat.eq_zero_or_pos n with rfl | hn0
    · refine ⟨1, ?_, by simp⟩
      refine pu_of rp203 ?_
      have sm : (m : Int).sign = 1 := Int.sign_eq_one_of_pos (by omega)
      have sn : ((0 : Nat) : Int).sign = 0 := rfl
      rw [sm] at km
      rw [sn] at kn
      have t1 : ¬ ((1 : Int) < 0) := by decide
      have t2 : ((1 : Int) > 0) := by decide
      rw [zi_raw, zi_raw]
      simp only [f89, args0, SA, setCells, Int.reduceLE, Int.reduceLT, ↓reduceIte, reduceCtorEq, Nat.reduceLT, Nat.reduceEqDiff, Nat.reduceAdd, Nat.reduceMul, Nat.reduceLeDiff, Nat.reduceBEq, am, an, kp1 km, kp1 kn, t1, t2]
      rfl
    · refine ⟨cmpI m n, ?_, ?_⟩
      · refine pu_of rp203 ?_
        have sm : (m : Int).sign = 1 := Int.sign_eq_one_of_pos (by omega)
        have sn : (n : Int).sign = 1 := Int.sign_eq_one_of_pos (by omega)
        rw [sm] at km
        rw [sn] at kn
        have t1 : ¬ ((1 : Int) < 1) := by decide
        have t2 : ¬ ((1 : Int) > 1) := by decide
        have t3 : IntKind.i64.wrap (1 * cmpI m n) = cmpI m n := by
          rw [Int.one_mul, IntWalk.i64_in _ ?_]
          unfold cmpI
          split
          · decide
          · split <;> decide
        rw [zi_raw, zi_raw]
        simp only [f89, args0, SA, setCells, Int.reduceLE, Int.reduceLT, ↓reduceIte, reduceCtorEq, Nat.reduceLT, Nat.reduceEqDiff, Nat.reduceAdd, Nat.reduceMul, Nat.reduceLeDiff, Nat.reduceBEq, am, an, kp1 km, kp1 kn, t1, t2, kp2 kc, t3]
        rfl
      · unfold cmpI
        split
        · simp; assumption
        · split
          · simp; omega
          · simp; omega
end Go.Proofs.Ytdpdnplljonppaa.VRs

namespace Go.Proofs.Ytdpdnplljonppaa.VRs
open Go Vpi
open VBn hiding rp tab rp_ok all_ok mixed sim Big
open Hn (addR swR tuR Fl en)
set_option maxRecDepth 100000
set_option linter.unusedSimpArgs false
set_option linter.unusedVariables false
theorem zr_en {L : List (List Int)} {i j : Nat} (h : j < (L.getD i []).length) : (zr (L.getD i []))[j]? = some (zi (en L i j)) := by
  refine zr_get ?_
  unfold en
  generalize L.getD i [] = r at *
  simp [List.getD_eq_getElem?_getD, h]
theorem sz_en {L : List (List Int)} {i j : Nat} (hs : SzL (L.getD i [])) (h : j < (L.getD i []).length) : Sz (en L i j) := by
  refine hs j _ ?_
  unfold en
  generalize L.getD i [] = r at *
  simp [List.getD_eq_getElem?_getD, h]
def Lst (L : List (List Int)) (r c i : Nat) (t : Int) : Prop :=
  (t = -1 ∧ ∀ k, r ≤ k → k < i → en L k c = 0) ∨ ∃ a : Nat, t = a ∧ r ≤ a ∧ a < i ∧ en L a c ≠ 0 ∧ ∀ k, r ≤ k → k < i → en L k c ≠ 0 → (en L a c).natAbs ≤ (en L k c).natAbs
theorem Lst.zero {L : List (List Int)} {r c i : Nat} {t : Int} (h : Lst L r c i t) (h0 : en L i c = 0) : Lst L r c (i + 1) t := by
  rcases h with ⟨h1, h2⟩ | ⟨a, h1, h2, h3, h4, h5⟩
  · refine .inl ⟨h1, fun k hk hki => ?_⟩
    rcases Nat.lt_or_ge k i with h | h
    · exact h2 k hk h
    · obtain rfl : k = i := by omega
      exact h0
  · refine .inr ⟨a, h1, h2, by omega, h4, fun k hk hki hz => ?_⟩
    rcases Nat.lt_or_ge k i with h | h
    · exact h5 k hk h hz
    · obtain rfl : k = i := by omega
      exact absurd h0 hz
theorem Lst.first {L : List (List Int)} {r c i : Nat} (h : ∀ k, r ≤ k → k < i → en L k c = 0) (hr : r ≤ i) (h0 : en L i c ≠ 0) : Lst L r c (i + 1) i := by
  refine .inr ⟨i, rfl, hr, by omega, h0, fun k hk hki hz => ?_⟩
  rcases Nat.lt_or_ge k i with h' | h'
  · exact absurd (h k hk h') hz
  · obtain rfl : k = i := by omega
    exact Nat.le_refl _
theorem Lst.keep {L : List (List Int)} {r c i a : Nat} (h2 : r ≤ a) (h3 : a < i) (h4 : en L a c ≠ 0) (h5 : ∀ k, r ≤ k → k < i → en L k c ≠ 0 → (en L a c).natAbs ≤ (en L k c).natAbs) (h : ¬ (en L i c).natAbs < (en L a c).natAbs) : Lst L r c (i + 1) a := by
  refine .inr ⟨a, rfl, h2, by omega, h4, fun k hk hki hz => ?_⟩
  rcases Nat.lt_or_ge k i with h' | h'
  · exact h5 k hk h' hz
  · obtain rfl : k = i := by omega
    omega
theorem Lst.less {L : List (List Int)} {r c i a : Nat} (h2 : r ≤ a) (h3 : a < i) (h0 : en L i c ≠ 0) (h5 : ∀ k, r ≤ k → k < i → en L k c ≠ 0 → (en L a c).natAbs ≤ (en L k c).natAbs) (h : (en L i c).natAbs < (en L a c).natAbs) : Lst L r c (i + 1) i := by
  refine .inr ⟨i, rfl, by omega, by omega, h0, fun k hk hki hz => ?_⟩
  rcases Nat.lt_or_ge k i with h' | h'
  · have := h5 k hk h' hz; omega
  · obtain rfl : k = i := by omega
    exact Nat.le_refl _
theorem n202 {σ : Store} {P bl bu rb pb cb r c w : Nat} {L U : List (List Int)} (h : PS σ P bl bu L U) (hrb : σ[rb]? = some (.kblk 1 [i64 r])) (hpb : σ[pb]? = some (.kblk 1 [.ptr P 0 0])) (hcb : σ[cb]? = some (.kblk 1 [i64 c]))
    (hwl : ∀ j, j < L.length → (L.getD j []).length = w ∧ SzL (L.getD j [])) (hc : c < w) (hr : r ≤ L.length) (hm : L.length ≤ 2000000) {Q : CV → Store → Prop}
    (hQ : ∀ t τ, Pre σ τ → PS τ P bl bu L U → Lst L r c L.length t → Q (.p (.int .i64 t)) τ) : Rn rp 196 [.ptr rb 0 0, .ptr pb 0 0, .ptr cb 0 0] σ Q := by
  rw [rn_of rp202]
  simp only [f196, args0, SA, setCells, Int.reduceLE, Int.reduceLT, ↓reduceIte, reduceCtorEq, Nat.reduceLT, Nat.reduceEqDiff, Nat.reduceAdd, Nat.reduceMul, Nat.reduceLeDiff, Nat.reduceBEq, hrb]
  refine loop_rule (β := Nat × Int × Store) (fun t => ([(1, .ptr pb 0 0), (2, .ptr cb 0 0), (4, .p (.int .i64 t.2.1)), (5, i64 t.1)], t.2.2))
    (fun t => t.1 ≤ L.length ∧ r ≤ t.1 ∧ Pre σ t.2.2 ∧ PS t.2.2 P bl bu L U ∧ Lst L r c t.1 t.2.1) (fun t => L.length - t.1) ((r, -1, σ) : Nat × Int × Store) rfl rfl
    ⟨hr, Nat.le_refl _, Pre.refl, h, .inl ⟨rfl, fun k hk hk2 => by omega⟩⟩ ?_
  rintro ⟨i, t, ρ⟩ ⟨hi, hri, hp, hps, hl⟩ ih
  simp only [] at hi hri hp hps hl ih ⊢
  have gp : ∀ l, (ρ ++ l)[pb]? = some (.kblk 1 [.ptr P 0 0]) := fun l => by rw [get_left (Nat.lt_of_lt_of_le (List.getElem?_eq_some_iff.1 hpb).1 hp.len), hp.get _ (List.getElem?_eq_some_iff.1 hpb).1, hpb]
  have gc : ∀ l, (ρ ++ l)[cb]? = some (.kblk 1 [i64 c]) := fun l => by rw [get_left (Nat.lt_of_lt_of_le (List.getElem?_eq_some_iff.1 hcb).1 hp.len), hp.get _ (List.getElem?_eq_some_iff.1 hcb).1, hcb]
  have gp0 := gp []
  rw [List.append_nil] at gp0
  have gP := hps.pair
  by_cases hin : (i : Int) < L.length
  · have hin' : i < L.length := by omega
    obtain ⟨wi, si⟩ := hwl i hin'
    have hrow := zm_getD hin'
    have hci : c < (L.getD i []).length := by rw [wi]; exact hc
    have hx := zr_en hci
    have zx := sz_en si hci
    have k77 := (VBn.p77 (Nu.zi zx)).lift base_le
    have k204 := p204 (Nu.zi zx)
    rw [zi_raw (x := en L i c)] at k77 k204
    have w1 : IntKind.i64.wrap ((i : Int) + 1) = ((i + 1 : Nat) : Int) := by rw [IntWalk.i64_in _ (by omega)]; omega
    have gP' : ∀ l, (ρ ++ l)[P]? = some (.kblk 2 [.own bl 0 L.length, .own bu 0 U.length]) := fun l => (hps.push).pair
    have gl' : ∀ l, (ρ ++ l)[bl]? = some (.prow 1 (zm L)) := fun l => (hps.push).l
    have fin := fun (t' : Int) (g : Store) (e : Env) (hL' : Lst L r c (i + 1) t') he => ih (i + 1, t', ρ ++ g) e ⟨by simp only []; omega, by simp only []; omega, hp.push, hps.push, hL'⟩ (by simp only []; omega) he
    by_cases h0 : en L i c = 0
    · have s0 : ((en L i c).sign != 0) = false := by rw [h0]; rfl
      simp only [SA, setCells, Int.reduceLE, Int.reduceLT, ↓reduceIte, reduceCtorEq, Nat.reduceLT, Nat.reduceEqDiff, Nat.reduceAdd, Nat.reduceMul, Nat.reduceLeDiff, Nat.reduceBEq, gp0, gP, hin, hin', gp, gc, gP', gl', hrow, hx, subPV_zi, push_sl, Int.natCast_nonneg, Int.toNat_natCast, kp1 k77, s0, w1]
      exact fin t _ _ (hl.zero h0) rfl
    · have s0 : ((en L i c).sign != 0) = true := by
        rw [bne_iff_ne]; exact fun hh => h0 (Int.sign_eq_zero_iff_zero.1 hh)
      rcases hl with ⟨rfl, hz⟩ | ⟨a, rfl, h2, h3, h4, h5⟩
      · have t1 : ((-1 : Int) < 0) := by decide
        simp only [SA, setCells, Int.reduceLE, Int.reduceLT, ↓reduceIte, reduceCtorEq, Nat.reduceLT, Nat.reduceEqDiff, Nat.reduceAdd, Nat.reduceMul, Nat.reduceLeDiff, Nat.reduceBEq, gp0, gP, hin, hin', gp, gc, gP', gl', hrow, hx, subPV_zi, push_sl, Int.natCast_nonneg, Int.toNat_natCast, kp1 k77, s0, t1, w1]
        exact fin i _ _ (.first hz hri h0) rfl
      · have t1 : ¬ ((a : Int) < 0) := by omega
        have ha' : a < L.length := by omega
        obtain ⟨wa, sa⟩ := hwl a ha'
        have hrowa := zm_getD ha'
        have hca : c < (L.getD a []).length := by rw [wa]; exact hc
        have hy := zr_en hca
        have zy := sz_en sa hca
        have k204y := p204 (Nu.zi zy)
        obtain ⟨cm, kc, hcm⟩ := p203 (m := (en L i c).natAbs) (n := (en L a c).natAbs) (by unfold Sz at zx ⊢; simpa using zx) (by unfold Sz at zy ⊢; simpa using zy)
        by_cases hlt : (en L i c).natAbs < (en L a c).natAbs
        · have hc0 : cm < 0 := hcm.2 hlt
          simp only [SA, setCells, Int.reduceLE, Int.reduceLT, ↓reduceIte, reduceCtorEq, Nat.reduceLT, Nat.reduceEqDiff, Nat.reduceAdd, Nat.reduceMul, Nat.reduceLeDiff, Nat.reduceBEq, gp0, gP, hin, hin', ha', gp, gc, gP', gl', hrow, hrowa, hx, hy, subPV_zi, push_sl, Int.natCast_nonneg, Int.toNat_natCast, kp1 k77, kp1 k204, kp1 k204y, kp2 kc, hc0, s0, t1, w1]
          exact fin i _ _ (.less h2 h3 h0 h5 hlt) rfl
        · have hc0 : ¬ cm < 0 := fun hh => hlt (hcm.1 hh)
          simp only [SA, setCells, Int.reduceLE, Int.reduceLT, ↓reduceIte, reduceCtorEq, Nat.reduceLT, Nat.reduceEqDiff, Nat.reduceAdd, Nat.reduceMul, Nat.reduceLeDiff, Nat.reduceBEq, gp0, gP, hin, hin', ha', gp, gc, gP', gl', hrow, hrowa, hx, hy, subPV_zi, push_sl, Int.natCast_nonneg, Int.toNat_natCast, kp1 k77, kp1 k204, kp1 k204y, kp2 kc, hc0, s0, t1, w1]
          exact fin a _ _ (.keep h2 h3 h4 h5 hlt) rfl
  · obtain rfl : i = L.length := by omega
    simp only [SA, setCells, Int.reduceLE, Int.reduceLT, ↓reduceIte, reduceCtorEq, Nat.reduceLT, Nat.reduceEqDiff, Nat.reduceAdd, Nat.reduceMul, Nat.reduceLeDiff, Nat.reduceBEq, gp0, gP, hin]
    exact hQ t ρ hp hps hl
end Go.Proofs.Ytdpdnplljonppaa.VRs

namespace Go.Proofs.Ytdpdnplljonppaa.VRs
open Go Vpi
open VBn hiding rp tab rp_ok all_ok mixed sim Big
open Hn (addR swR tuR Fl en Wd Bd Col Inn Ph Least)
set_option maxRecDepth 100000
set_option linter.unusedSimpArgs false
set_option linter.unusedVariables false
theorem rp179 : rp 170 = some f170 := rfl
/-! ### two matrices side by side -/
def lw (m : Nat) (W : List (List Int)) : List (List Int) := W.map (List.take m)
def uw (m : Nat) (W : List (List Int)) : List (List Int) := W.map (List.drop m)
theorem lw_len {m : Nat} {W : List (List Int)} : (lw m W).length = W.length := by simp [lw]
theorem uw_len {m : Nat} {W : List (List Int)} : (uw m W).length = W.length := by simp [uw]
theorem map_getD {f : List Int → List Int} (hf : f [] = []) {W : List (List Int)} {i : Nat} : (W.map f).getD i [] = f (W.getD i []) := by
  rw [List.getD_eq_getElem?_getD, List.getD_eq_getElem?_getD, List.getElem?_map]
  cases W[i]? with
  | none => simp [hf]
  | some x => rfl
theorem lw_getD {m i : Nat} {W : List (List Int)} : (lw m W).getD i [] = (W.getD i []).take m := map_getD List.take_nil
theorem uw_getD {m i : Nat} {W : List (List Int)} : (uw m W).getD i [] = (W.getD i []).drop m := map_getD List.drop_nil
theorem lw_add {m i k : Nat} {q : Int} {W : List (List Int)} : addR (lw m W) i k q = lw m (addR W i k q) := by
  unfold addR
  rw [lw_getD, lw_getD]
  unfold lw
  rw [List.map_set, List.take_zipWith, List.map_take]
theorem uw_add {m i k : Nat} {q : Int} {W : List (List Int)} : addR (uw m W) i k q = uw m (addR W i k q) := by
  unfold addR
  rw [uw_getD, uw_getD]
  unfold uw
  rw [List.map_set, List.drop_zipWith, List.map_drop]
theorem lw_sw {m i k : Nat} {W : List (List Int)} : swR (lw m W) i k = lw m (swR W i k) := by
  unfold swR
  rw [lw_getD, lw_getD]
  unfold lw
  rw [List.map_set, List.map_set]
theorem uw_sw {m i k : Nat} {W : List (List Int)} : swR (uw m W) i k = uw m (swR W i k) := by
  unfold swR
  rw [uw_getD, uw_getD]
  unfold uw
  rw [List.map_set, List.map_set]
theorem lw_tu {m i : Nat} {W : List (List Int)} : tuR (lw m W) i = lw m (tuR W i) := by
  unfold tuR
  rw [lw_getD]
  unfold lw
  rw [List.map_set, List.map_take]
theorem uw_tu {m i : Nat} {W : List (List Int)} : tuR (uw m W) i = uw m (tuR W i) := by
  unfold tuR
  rw [uw_getD]
  unfold uw
  rw [List.map_set, List.map_drop]
theorem lw_en {m i j : Nat} {W : List (List Int)} (h : j < m) : en (lw m W) i j = en W i j := by
  unfold en
  rw [lw_getD]
  generalize W.getD i [] = s
  rw [List.getD_eq_getElem?_getD, List.getD_eq_getElem?_getD, List.getElem?_take, if_pos h]
theorem uw_en {m i j : Nat} {W : List (List Int)} : en (uw m W) i j = en W i (m + j) := by
  unfold en
  rw [uw_getD]
  generalize W.getD i [] = s
  rw [List.getD_eq_getElem?_getD, List.getD_eq_getElem?_getD, List.getElem?_drop]
def SzA (W : List (List Int)) : Prop := ∀ i j, Sz (en W i j)
theorem szl_of {r : List Int} (h : ∀ j, Sz (r.getD j 0)) : SzL r := by
  intro j x hx
  have := h j
  rw [List.getD_eq_getElem?_getD, hx] at this
  exact this
theorem lw_rows {m n : Nat} {W : List (List Int)} (hw : Wd (m + n) W) (hs : SzA W) : ∀ j, j < (lw m W).length → ((lw m W).getD j []).length = m ∧ SzL ((lw m W).getD j []) := by
  intro j hj
  rw [lw_len] at hj
  refine ⟨by rw [lw_getD, List.length_take, hw _ _ (Hn.getD_get hj)]; omega, szl_of fun k => ?_⟩
  rcases Nat.lt_or_ge k m with hk | hk
  · have := hs j k
    rw [← lw_en hk] at this
    exact this
  · rw [List.getD_eq_getElem?_getD, List.getElem?_eq_none (by rw [lw_getD, List.length_take]; omega)]
    exact Sz.small (by decide)
theorem uw_rows {m n : Nat} {W : List (List Int)} (hw : Wd (m + n) W) (hs : SzA W) : ∀ j, j < (uw m W).length → ((uw m W).getD j []).length = n ∧ SzL ((uw m W).getD j []) := by
  intro j hj
  rw [uw_len] at hj
  refine ⟨by rw [uw_getD, List.length_drop, hw _ _ (Hn.getD_get hj)]; omega, szl_of fun k => ?_⟩
  have := hs j (m + k)
  rw [← uw_en] at this
  exact this
theorem map_sz {r : List Int} {q : Int} (h : ∀ j, Sz (q * r.getD j 0)) : SzL (r.map (q * ·)) := by
  refine szl_of fun j => ?_
  have := h j
  rw [List.getD_eq_getElem?_getD] at this ⊢
  rw [List.getElem?_map]
  cases hx : r[j]? with
  | none => exact (Sz.small (by decide) : Sz 0)
  | some x => rw [hx] at this; exact this
theorem lw_map_sz {m i : Nat} {q : Int} {W : List (List Int)} (h : ∀ j, Sz (q * en W i j)) : SzL (((lw m W).getD i []).map (q * ·)) := by
  refine map_sz fun j => ?_
  rcases Nat.lt_or_ge j m with hj | hj
  · have := h j
    rw [← lw_en hj] at this
    exact this
  · rw [List.getD_eq_getElem?_getD, List.getElem?_eq_none (by rw [lw_getD, List.length_take]; omega)]
    rw [Option.getD_none, Int.mul_zero]
    exact Sz.small (by decide)
theorem uw_map_sz {m i : Nat} {q : Int} {W : List (List Int)} (h : ∀ j, Sz (q * en W i j)) : SzL (((uw m W).getD i []).map (q * ·)) := by
  refine map_sz fun j => ?_
  have := h (m + j)
  rw [← uw_en] at this
  exact this
theorem Col_trans {W0 W1 W : List (List Int)} {w r c : Nat} (h : Col W0 W1 w r c) (k : Col W1 W w r c) : Col W0 W w r c :=
  ⟨k.len.trans h.len, k.wd, h.sp.trans k.sp, fun i hi => (k.up i hi).trans (h.up i hi), k.low⟩
theorem sz_of_le {x : Int} {B : Nat} (h : x.natAbs ≤ B) (hB : B < LB ^ CapN) : Sz x := Nat.lt_of_le_of_lt h hB
theorem join2 {rs : List RRes} {c : RCode} {ks : List KI} {Q : CV → Store → Prop} {G : Prop} {R : Env → Store → Prop} (hmain : (∀ e ρ, R e ρ → Ex rp rs (.loop c) ks e ρ Q) → G) (hrest : ∀ e ρ, R e ρ → Ex rp rs (.loop c) ks e ρ Q) : G := hmain hrest
theorem n179 {σ : Store} {P bl bu m n r c E : Nat} {W : List (List Int)} (h : PS σ P bl bu (lw m W) (uw m W)) (hw : Wd (m + n) W) (hc : c < m) (hn0 : 0 < n) (hm2 : m ≤ 2000000) (hn2 : n ≤ 2000000) (hW : W.length ≤ 2000000) (hr : r < W.length)
    (hlow : ∀ i, r ≤ i → ∀ j, j < c → en W i j = 0) (hE : Bd E W r) (hup : ∀ i, i < r → ∀ j, Sz (en W i j)) (hcap : 3 * E ^ 5 + 1 < LB ^ CapN) {Q : CV → Store → Prop}
    (hQ : ∀ (ok : Bool) W' τ, Upd bl bu σ τ → PS τ P bl bu (lw m W') (uw m W') → Col W W' (m + n) r c → Bd (3 * E ^ 5) W' r → (ok = false → Bd E W' r ∧ ∀ i, r ≤ i → en W' i c = 0) → (ok = true → en W' r c ≠ 0 ∧ ∀ i, r < i → en W' i c = 0) → Q (.p (.bool ok)) τ) :
    Rn rp 170 [.ptr P 0 0, i64 r, i64 c] σ Q := by
  rw [rn_of rp179]
  have up0 : Upd bl bu σ (σ ++ [Blk.kblk 1 [.ptr P 0 0], .kblk 1 [i64 r], .kblk 1 [i64 c]]) := Upd.refl.push
  have b0 : (σ ++ [Blk.kblk 1 [.ptr P 0 0], .kblk 1 [i64 r], .kblk 1 [i64 c]])[σ.length]? = some (.kblk 1 [.ptr P 0 0]) := by rw [get_app0]; rfl
  have b1 : (σ ++ [Blk.kblk 1 [.ptr P 0 0], .kblk 1 [i64 r], .kblk 1 [i64 c]])[σ.length + 1]? = some (.kblk 1 [i64 r]) := by rw [get_app]; rfl
  have b2 : (σ ++ [Blk.kblk 1 [.ptr P 0 0], .kblk 1 [i64 r], .kblk 1 [i64 c]])[σ.length + 2]? = some (.kblk 1 [i64 c]) := by rw [get_app]; rfl
  have hps0 := h.push (l := [Blk.kblk 1 [.ptr P 0 0], .kblk 1 [i64 r], .kblk 1 [i64 c]])
  have hbl := h.lt
  have hl0 : (σ ++ [Blk.kblk 1 [.ptr P 0 0], .kblk 1 [i64 r], .kblk 1 [i64 c]]).length = σ.length + 3 := by simp
  simp only [f170, args0, SA, setCells, Int.reduceLE, Int.reduceLT, ↓reduceIte, reduceCtorEq, Nat.reduceLT, Nat.reduceEqDiff, Nat.reduceAdd, Nat.reduceMul, Nat.reduceLeDiff, Nat.reduceBEq]
  generalize hσ0 : σ ++ [Blk.kblk 1 [.ptr P 0 0], .kblk 1 [.p (.int .i64 r)], .kblk 1 [.p (.int .i64 c)]] = σ0 at *
  have e0 : σ ++ [Blk.kblk 1 [.ptr P 0 0], .kblk 1 [i64 r], .kblk 1 [i64 c]] = σ0 := hσ0
  simp only [e0] at up0 b0 b1 b2 hps0 hl0
  refine loop_rule (β := List (List Int) × Nat × Store) (fun t => ([(3, .ptr σ.length 0 0), (4, .ptr (σ.length + 1) 0 0), (5, .ptr (σ.length + 2) 0 0), (7, .fn 196 [.ptr (σ.length + 1) 0 0, .ptr σ.length 0 0, .ptr (σ.length + 2) 0 0])], t.2.2))
    (fun t => PS t.2.2 P bl bu (lw m t.1) (uw m t.1) ∧ Upd bl bu σ0 t.2.2 ∧ Col W t.1 (m + n) r c ∧ ((t.2.1 = E + 1 ∧ Bd E t.1 r) ∨ Ph t.1 r c E t.2.1)) (fun t => t.2.1) ((W, E + 1, σ0) : List (List Int) × Nat × Store) rfl rfl
    ⟨hps0, Upd.refl, .start hw hlow, .inl ⟨rfl, hE⟩⟩ ?_
  rintro ⟨V, X, ρ⟩ ⟨hps, hupd, hcol, hph⟩ ih
  simp only [] at hps hupd hcol hph ih ⊢
  have box : ∀ {ρ : Store} (hu : Upd bl bu σ0 ρ) {k : Nat} {x : Blk}, σ0[k]? = some x → σ.length ≤ k → ∀ l, (ρ ++ l)[k]? = some x := fun {ρ} hu {k} {x} hk hk2 l => by
    have hlt := (List.getElem?_eq_some_iff.1 hk).1
    rw [get_left (Nat.lt_of_lt_of_le hlt hu.len), hu.get k hlt (by omega) (by omega), hk]
  have box0 : ∀ {ρ : Store} (hu : Upd bl bu σ0 ρ) {k : Nat} {x : Blk}, σ0[k]? = some x → σ.length ≤ k → ρ[k]? = some x := fun {ρ} hu {k} {x} hk hk2 => by
    have := box hu hk hk2 []
    rwa [List.append_nil] at this
  have hVlen := hcol.len
  have hEcap : E < LB ^ CapN := by
    rcases Nat.eq_zero_or_pos E with h0 | h0
    · rw [h0]; exact Nat.pow_pos (by decide)
    · have : E * 1 ≤ E * E ^ 4 := Nat.mul_le_mul_left _ (Nat.pow_pos h0)
      have e : E ^ 5 = E * E ^ 4 := by rw [Nat.pow_succ, Nat.mul_comm]
      omega
  have hE5 : E ≤ 3 * E ^ 5 := by
    rcases Nat.eq_zero_or_pos E with h0 | h0
    · omega
    · have : E * 1 ≤ E * E ^ 4 := Nat.mul_le_mul_left _ (Nat.pow_pos h0)
      have e : E ^ 5 = E * E ^ 4 := by rw [Nat.pow_succ, Nat.mul_comm]
      omega
  have hVup : ∀ {V : List (List Int)}, Col W V (m + n) r c → ∀ i, i < r → ∀ j, Sz (en V i j) := fun {V} hV i hi j => by rw [Hn.en_congr (hV.up i hi)]; exact hup i hi j
  have hVsz : SzA V := by
    intro i j
    rcases Nat.lt_or_ge i r with hi | hi
    · exact hVup hcol i hi j
    · rcases hph with ⟨_, hB⟩ | hP
      · exact sz_of_le (hB i j hi) hEcap
      · obtain ⟨i0, hi0, hz0⟩ := hP.more
        by_cases hle : ∃ a, Least V r c a
        · obtain ⟨a, ha⟩ := hle
          obtain ⟨A, hA, hcA⟩ := hP.cap ha
          have h1 := hA i j hi
          have h2 : 1 * A ≤ 3 * X * A := Nat.mul_le_mul_right _ (by have := hP.pos; omega)
          exact sz_of_le (Nat.le_trans h1 (by omega : A ≤ 3 * E ^ 5)) (by omega)
        · exfalso
          exact hle (Hn.least_ex (Nat.le_of_lt hi0) hz0)
  simp only [SA, setCells, Int.reduceLE, Int.reduceLT, ↓reduceIte, reduceCtorEq, Nat.reduceLT, Nat.reduceEqDiff, Nat.reduceAdd, Nat.reduceMul, Nat.reduceLeDiff, Nat.reduceBEq, kv_fn]
  refine kc_keep' (n202 hps (box0 hupd b1 (by omega)) (box0 hupd b0 (by omega)) (box0 hupd b2 (by omega)) (lw_rows hcol.wd hVsz) hc (by rw [lw_len, hVlen]; omega) (by rw [lw_len, hVlen]; exact hW) fun t τ hpre hps2 hl => ?_)
  rw [lw_len] at hl
  have hupd2 : Upd bl bu σ0 τ := hupd.trans ⟨hpre.len, fun j hj _ _ => hpre.get j hj⟩
  have hVr : r < V.length := by rw [hVlen]; exact hr
  rcases hl with ⟨rfl, hz⟩ | ⟨a, rfl, ha1, ha2, ha3, ha4⟩
  · have hz' : ∀ i, r ≤ i → en V i c = 0 := fun i hi => by
      rcases Nat.lt_or_ge i V.length with hil | hil
      · have := hz i hi hil
        rwa [lw_en hc] at this
      · exact Hn.en_out hil
    have t1 : ((-1 : Int) < 0) := by decide
    simp only [SA, setCells, Int.reduceLE, Int.reduceLT, ↓reduceIte, reduceCtorEq, Nat.reduceLT, Nat.reduceEqDiff, Nat.reduceAdd, Nat.reduceMul, Nat.reduceLeDiff, Nat.reduceBEq, t1]
    have hB : Bd E V r := by
      rcases hph with ⟨_, hB⟩ | hP
      · exact hB
      · obtain ⟨i0, hi0, hz0⟩ := hP.more
        exact absurd (hz' i0 (Nat.le_of_lt hi0)) hz0
    exact hQ false V τ (up0.trans hupd2) hps2 hcol (hB.mono hE5) (fun _ => ⟨hB, hz'⟩) (fun hh => by cases hh)
  · have hLeast : Least V r c a := by
      refine ⟨ha1, by rw [← lw_en hc]; exact ha3, fun k hk hk0 => ?_⟩
      have hkl := Hn.en_lt hk0
      have := ha4 k hk hkl (by rw [lw_en hc]; exact hk0)
      rwa [lw_en hc, lw_en hc] at this
    have t1 : ¬ ((a : Int) < 0) := by omega
    have ha0 : en V a c ≠ 0 := hLeast.2.1
    have hy0 : 0 < (en V a c).natAbs := Int.natAbs_pos.2 ha0
    have hXX : ∀ V1 : List (List Int), en V1 r c = en V a c → True := fun _ _ => trivial
    refine @join2 ?rs ?cc ?kk Q _ (fun e τ => ∃ V1, fgt [3, 4, 5, 7, 9, 10] e = [(3, .ptr σ.length 0 0), (4, .ptr (σ.length + 1) 0 0), (5, .ptr (σ.length + 2) 0 0), (7, .fn 196 [.ptr (σ.length + 1) 0 0, .ptr σ.length 0 0, .ptr (σ.length + 2) 0 0]), (9, .p (.bool true)), (10, i64 (r + 1 : Nat))] ∧
      Upd bl bu σ0 τ ∧ PS τ P bl bu (lw m V1) (uw m V1) ∧ Col W V1 (m + n) r c ∧ en V1 r c = en V a c ∧ (∃ A Xb, Bd A V1 r ∧ (∀ k, r ≤ k → (en V1 k c).natAbs ≤ Xb) ∧ 3 * Xb * A ≤ 3 * E ^ 5) ∧
      (∀ V2, Inn V1 V2 (m + n) r c V2.length → V2.length = V.length → (∃ i, r < i ∧ en V2 i c ≠ 0) → Ph V2 r c E (en V a c).natAbs ∧ (en V a c).natAbs < X)) (fun rest => ?main) ?tail
    case main =>
      have w1 : IntKind.i64.wrap ((r : Int) + 1) = ((r + 1 : Nat) : Int) := by rw [IntWalk.i64_in _ (by omega)]; omega
      have haV : a < V.length := Hn.en_lt ha0
      by_cases har : a = r
      · subst har
        have q1 := box0 hupd2 b1 (by omega)
        simp only [SA, setCells, Int.reduceLE, Int.reduceLT, ↓reduceIte, reduceCtorEq, Nat.reduceLT, Nat.reduceEqDiff, Nat.reduceAdd, Nat.reduceMul, Nat.reduceLeDiff, Nat.reduceBEq, t1, q1, bne_self_eq_false, w1]
        refine rest _ _ ?_
        refine ⟨V, rfl, hupd2, hps2, hcol, rfl, ?_, ?_⟩
        · rcases hph with ⟨_, hB⟩ | hP
          · refine ⟨E, E, hB, fun k hk => hB k c hk, ?_⟩
            rcases Nat.eq_zero_or_pos E with h0 | h0
            · subst h0; simp
            · rw [Hn.pow5]; exact Nat.le_mul_of_pos_right _ (Nat.mul_pos (Nat.mul_pos h0 h0) h0)
          · exact absurd (hP.lt hLeast) (Nat.lt_irrefl _)
        · intro V2 hI hl2 hm2
          rcases hph with ⟨rfl, hB⟩ | hP
          · exact ⟨Hn.next0 hB hI ha0 hm2, Nat.lt_succ_of_le (hB a c (Nat.le_refl _))⟩
          · exact absurd (hP.lt hLeast) (Nat.lt_irrefl _)
      · have t2 : ((a : Int) != (r : Int)) = true := by rw [bne_iff_ne]; omega
        have q1 := box0 hupd2 b1 (by omega)
        have q0 := box0 hupd2 b0 (by omega)
        simp only [SA, setCells, Int.reduceLE, Int.reduceLT, ↓reduceIte, reduceCtorEq, Nat.reduceLT, Nat.reduceEqDiff, Nat.reduceAdd, Nat.reduceMul, Nat.reduceLeDiff, Nat.reduceBEq, t1, q1, q0, t2]
        refine kc_keep' (n205 hps2 (by rw [lw_len, uw_len]) (by rw [lw_len]; exact hVr) (by rw [lw_len]; exact haV) fun τ' hu' hps3 => ?_)
        rw [lw_sw, uw_sw] at hps3
        have hupd3 := hupd2.trans hu'
        have q1' := box0 hupd3 b1 (by omega)
        simp only [SA, setCells, Int.reduceLE, Int.reduceLT, ↓reduceIte, reduceCtorEq, Nat.reduceLT, Nat.reduceEqDiff, Nat.reduceAdd, Nat.reduceMul, Nat.reduceLeDiff, Nat.reduceBEq, q1', w1]
        refine rest _ _ ?_
        refine ⟨swR V r a, rfl, hupd3, hps3, hcol.sw (Nat.le_refl _) ha1 hVr haV, Hn.swR_en_fst hVr haV c, ?_, ?_⟩
        · rcases hph with ⟨_, hB⟩ | hP
          · have hB' := hB.sw (Nat.le_refl _) ha1 hVr haV
            refine ⟨E, E, hB', fun k hk => hB' k c hk, ?_⟩
            rcases Nat.eq_zero_or_pos E with h0 | h0
            · subst h0; simp
            · rw [Hn.pow5]; exact Nat.le_mul_of_pos_right _ (Nat.mul_pos (Nat.mul_pos h0 h0) h0)
          · obtain ⟨A, hA, hcA⟩ := hP.cap hLeast
            refine ⟨A, X, hA.sw (Nat.le_refl _) ha1 hVr haV, fun k hk => ?_, hcA⟩
            have hX : ∀ k, r ≤ k → (en V k c).natAbs ≤ X := by
              intro k hk
              rcases Nat.lt_or_ge r k with hh | hh
              · exact Nat.le_of_lt (hP.oth k hh).1
              · obtain rfl : k = r := by omega
                rw [hP.piv]; exact Nat.le_refl _
            by_cases h1 : k = r
            · subst h1; rw [Hn.swR_en_fst hVr haV]; exact hX a ha1
            · by_cases h2 : k = a
              · subst h2; rw [Hn.swR_en_snd hVr haV]; exact hX r (Nat.le_refl _)
              · rw [Hn.swR_en_ne h1 h2]; exact hX k hk
        · intro V2 hI hl2 hm2
          rcases hph with ⟨rfl, hB⟩ | hP
          · have hB' := hB.sw (Nat.le_refl _) ha1 hVr haV
            have e1 := Hn.swR_en_fst hVr haV c
            have := Hn.next0 hB' hI (by rw [e1]; exact ha0) hm2
            rw [e1] at this
            exact ⟨this, Nat.lt_succ_of_le (hB a c ha1)⟩
          · exact Hn.next1 hP hLeast hVr hcol.wd hI hl2 hm2
    case tail =>
      rintro e τ ⟨V1, he, hupd2, hps2, hcol1, hy, ⟨A, Xb, hA, hXb, hcA⟩, hnext⟩
      have hy1 : 0 < (en V1 r c).natAbs := by rw [hy]; exact hy0
      have hy2 : en V1 r c ≠ 0 := by rw [hy]; exact ha0
      have hN : V1.length = V.length := hcol1.len.trans hVlen.symm
      have hbdI : ∀ {V2 : List (List Int)} {i : Nat}, Inn V1 V2 (m + n) r c i → Bd (3 * E ^ 5) V2 r := fun {V2 i} hI k j hk => by
        have h1 := hI.bd hA hXb k j hk
        have h2 : (en V2 k j).natAbs * 1 ≤ (en V2 k j).natAbs * (en V1 r c).natAbs := Nat.mul_le_mul_left _ hy1
        omega
      have hszI : ∀ {V2 : List (List Int)} {i : Nat}, Inn V1 V2 (m + n) r c i → SzA V2 := fun {V2 i} hI k j => by
        rcases Nat.lt_or_ge k r with hk | hk
        · exact hVup (Col_trans hcol1 hI.col) k hk j
        · exact sz_of_le (hbdI hI k j hk) (by omega)
      refine loop_rule (β := List (List Int) × Nat × Bool × Store) (fun t => ([(3, .ptr σ.length 0 0), (4, .ptr (σ.length + 1) 0 0), (5, .ptr (σ.length + 2) 0 0), (7, .fn 196 [.ptr (σ.length + 1) 0 0, .ptr σ.length 0 0, .ptr (σ.length + 2) 0 0]), (9, .p (.bool t.2.2.1)), (10, i64 t.2.1)], t.2.2.2))
        (fun t => r < t.2.1 ∧ t.2.1 ≤ V.length ∧ Inn V1 t.1 (m + n) r c t.2.1 ∧ PS t.2.2.2 P bl bu (lw m t.1) (uw m t.1) ∧ Upd bl bu σ0 t.2.2.2 ∧ (t.2.2.1 = true ↔ ∀ k, r < k → k < t.2.1 → en t.1 k c = 0)) (fun t => V.length - t.2.1) ((V1, r + 1, true, τ) : List (List Int) × Nat × Bool × Store) he rfl
        ⟨Nat.lt_succ_self _, hVr, .start hcol1.wd hcol1.low, hps2, hupd2, ⟨fun _ k h1 h2 => absurd h2 (Nat.not_lt.2 (Nat.succ_le_of_lt h1)), fun _ => rfl⟩⟩ ?_
      rintro ⟨V2, i, dn, ρ'⟩ ⟨hri, hiN, hI, hps3, hupd3, hdn⟩ ih2
      simp only [] at hri hiN hI hps3 hupd3 hdn ih2 ⊢
      have gp := box hupd3 b0 (by omega)
      have gr := box hupd3 b1 (by omega)
      have gc := box hupd3 b2 (by omega)
      have gp0 := box0 hupd3 b0 (by omega)
      have gr0 := box0 hupd3 b1 (by omega)
      have gc0 := box0 hupd3 b2 (by omega)
      have gP := hps3.pair
      have gP' : ∀ l, (ρ' ++ l)[P]? = some (.kblk 2 [.own bl 0 (lw m V2).length, .own bu 0 (uw m V2).length]) := fun l => (hps3.push).pair
      have gl' : ∀ l, (ρ' ++ l)[bl]? = some (.prow 1 (zm (lw m V2))) := fun l => (hps3.push).l
      have hV2len : V2.length = V.length := hI.col.len.trans hN
      have hlen : (lw m V2).length = V.length := by rw [lw_len, hV2len]
      have hulen : (uw m V2).length = V.length := by rw [uw_len, hV2len]
      rw [hlen] at gP
      simp only [hlen, hulen] at gP'
      by_cases hin : (i : Int) < V.length
      · have hin' : i < V.length := by omega
        have hrV : r < V.length := by omega
        have hsz := hszI hI
        have w1 : IntKind.i64.wrap ((i : Int) + 1) = ((i + 1 : Nat) : Int) := by rw [IntWalk.i64_in _ (by omega)]; omega
        have hrow := zm_getD (M := lw m V2) (i := i) (by rw [hlen]; exact hin')
        have hrowr := zm_getD (M := lw m V2) (i := r) (by rw [hlen]; exact hrV)
        have hxi := zr_en (L := lw m V2) (i := i) (j := c) (by rw [(lw_rows (Col_trans hcol1 hI.col).wd hsz i (by rw [hlen]; exact hin')).1]; exact hc)
        have hxr := zr_en (L := lw m V2) (i := r) (j := c) (by rw [(lw_rows (Col_trans hcol1 hI.col).wd hsz r (by rw [hlen]; exact hrV)).1]; exact hc)
        rw [lw_en hc] at hxi hxr
        have er : en V2 r c = en V1 r c := Hn.en_congr hI.top c
        have ei : en V2 i c = en V1 i c := Hn.en_congr (hI.rest i (Nat.le_refl _)) c
        obtain ⟨q, ρr, hF, kF⟩ := fl134 (Nu.zi (hsz i c)) (Nu.zi (hsz r c)) (by rw [er]; exact hy2)
        have k134 := kF.lift base_le
        have hF1 : Fl (en V1 i c) (en V1 r c) q ρr := by rw [← er, ← ei]; exact hF
        have hxle : (en V1 i c).natAbs ≤ 3 * E ^ 5 := by rw [← ei]; exact hbdI hI i c (by omega)
        have hqz : Sz q := Nat.lt_of_le_of_lt hF1.le (by omega)
        have k77 := (VBn.p77 (Nu.zi hqz)).lift base_le
        have k146 := (VBn.p146 (Nu.zi hqz)).lift base_le
        rw [zi_raw (x := q)] at k77 k146
        -- behind the step
        have fin : ∀ (V3 : List (List Int)) (ρ3 : Store), Inn V1 V3 (m + n) r c (i + 1) → PS ρ3 P bl bu (lw m V3) (uw m V3) → Upd bl bu σ0 ρ3 → (∀ k, k < i → r < k → en V3 k c = en V2 k c) →
            ∀ e3, fgt [3, 4, 5, 7, 9, 10] e3 = [(3, .ptr σ.length 0 0), (4, .ptr (σ.length + 1) 0 0), (5, .ptr (σ.length + 2) 0 0), (7, .fn 196 [.ptr (σ.length + 1) 0 0, .ptr σ.length 0 0, .ptr (σ.length + 2) 0 0]), (9, .p (.bool (dn && ((en V3 i c).sign == 0)))), (10, i64 (i + 1 : Nat))] → _ :=
          fun V3 ρ3 hI3 hps4 hupd4 hsame e3 he3 => ih2 (V3, i + 1, dn && ((en V3 i c).sign == 0), ρ3) e3 ⟨by simp only []; omega, by simp only []; omega, hI3, hps4, hupd4, by
            simp only [Bool.and_eq_true, beq_iff_eq, Int.sign_eq_zero_iff_zero]
            rw [hdn]
            constructor
            · rintro ⟨h1, h2⟩ k k1 k2
              rcases Nat.lt_or_ge k i with hki | hki
              · rw [hsame k hki k1]; exact h1 k k1 hki
              · obtain rfl : k = i := by omega
                exact h2
            · intro h1
              exact ⟨fun k k1 k2 => by rw [← hsame k k2 k1]; exact h1 k k1 (by omega), h1 i hri (Nat.lt_succ_self _)⟩⟩ (by simp only []; omega) he3
        by_cases hq0 : q = 0
        · have s0 : (q.sign != 0) = false := by rw [hq0]; rfl
          have hI3 : Inn V1 V2 (m + n) r c (i + 1) := Inn.none hI (by rw [← hq0]; exact hF1)
          have k77x := (VBn.p77 (Nu.zi (hsz i c))).lift base_le
          cases dn with
          | true =>
            simp only [SA, setCells, Int.reduceLE, Int.reduceLT, ↓reduceIte, reduceCtorEq, Nat.reduceLT, Nat.reduceEqDiff, Nat.reduceAdd, Nat.reduceMul, Nat.reduceLeDiff, Nat.reduceBEq, gp, gr, gc, gp0, gr0, gc0, gP, gP', gl', hlen, hin, hin', hrV, hrow, hrowr, hxi, hxr, subPV_zi, push_sl, Int.natCast_nonneg, Int.toNat_natCast, kp2 k134, kp1 k77, s0, kp1 k77x, w1]
            exact fin V2 _ hI3 hps3.push hupd3.push (fun _ _ _ => rfl) _ rfl
          | false =>
            simp only [SA, setCells, Int.reduceLE, Int.reduceLT, ↓reduceIte, reduceCtorEq, Nat.reduceLT, Nat.reduceEqDiff, Nat.reduceAdd, Nat.reduceMul, Nat.reduceLeDiff, Nat.reduceBEq, gp, gr, gc, gp0, gr0, gc0, gP, gP', gl', hlen, hin, hin', hrV, hrow, hrowr, hxi, hxr, subPV_zi, push_sl, Int.natCast_nonneg, Int.toNat_natCast, kp2 k134, kp1 k77, s0, kp1 k77x, w1]
            exact fin V2 _ hI3 hps3.push hupd3.push (fun _ _ _ => rfl) _ rfl
        · have s0 : (q.sign != 0) = true := by
            rw [bne_iff_ne]; exact fun hh => hq0 (Int.sign_eq_zero_iff_zero.1 hh)
          have hI3 : Inn V1 (addR V2 i r (-q)) (m + n) r c (i + 1) := Inn.step hI hri (by rw [hV2len]; exact hin') hF1
          have hsz3 := hszI hI3
          have hqr : ∀ j, Sz (-q * en V2 r j) := fun j => by
            rw [Hn.en_congr hI.top j]
            have h1 := (Hn.q_bound hF1 (hXb i (by omega)) rfl (hXb r (Nat.le_refl _)) (hA i j (by omega)) (hA r j (Nat.le_refl _))).2
            have h2 : (-q * en V1 r j).natAbs * 1 ≤ (-q * en V1 r j).natAbs * (en V1 r c).natAbs := Nat.mul_le_mul_left _ hy1
            exact sz_of_le (B := 3 * E ^ 5) (by omega) (by omega)
          have hwd2 := (Col_trans hcol1 hI.col).wd
          simp only [SA, setCells, Int.reduceLE, Int.reduceLT, ↓reduceIte, reduceCtorEq, Nat.reduceLT, Nat.reduceEqDiff, Nat.reduceAdd, Nat.reduceMul, Nat.reduceLeDiff, Nat.reduceBEq, gp, gr, gc, gp0, gr0, gc0, gP, gP', gl', hlen, hin, hin', hrV, hrow, hrowr, hxi, hxr, subPV_zi, push_sl, Int.natCast_nonneg, Int.toNat_natCast, kp2 k134, kp1 k77, s0, kp1 k146]
          refine kc_keep' (n181 (Nu.zi hqz.neg) hps3.push (by rw [hlen, hulen]) (by rw [hlen]; exact hin') (by rw [hlen]; exact hrV) (lw_rows hwd2 hsz) (uw_rows hwd2 hsz) (by omega) hn0 hm2 hn2 (lw_map_sz hqr) (uw_map_sz hqr) fun ρ4 hu4 hps4 => ?_)
          rw [lw_add, uw_add] at hps4
          have hupd4 : Upd bl bu σ0 ρ4 := (hupd3.push).trans hu4
          have gp4 := box0 hupd4 b0 (by omega)
          have gc4 := box0 hupd4 b2 (by omega)
          have gP4 := hps4.pair
          have gl4 := hps4.l
          have hlen4 : (lw m (addR V2 i r (-q))).length = V.length := by rw [lw_len, Hn.addR_len, hV2len]
          rw [hlen4] at gP4
          have hrow4 := zm_getD (M := lw m (addR V2 i r (-q))) (i := i) (by rw [hlen4]; exact hin')
          have hx4 := zr_en (L := lw m (addR V2 i r (-q))) (i := i) (j := c) (by rw [(lw_rows (Col_trans hcol1 hI3.col).wd hsz3 i (by rw [hlen4]; exact hin')).1]; exact hc)
          rw [lw_en hc] at hx4
          have k77x := (VBn.p77 (Nu.zi (hsz3 i c))).lift base_le
          cases dn with
          | true =>
            simp only [SA, setCells, Int.reduceLE, Int.reduceLT, ↓reduceIte, reduceCtorEq, Nat.reduceLT, Nat.reduceEqDiff, Nat.reduceAdd, Nat.reduceMul, Nat.reduceLeDiff, Nat.reduceBEq, gp4, gc4, gP4, gl4, hin', hrow4, hx4, subPV_zi, Int.natCast_nonneg, Int.toNat_natCast, kp1 k77x, w1]
            exact fin _ _ hI3 hps4 hupd4 (fun k hk _ => Hn.addR_en_ne (by omega) c) _ rfl
          | false =>
            simp only [SA, setCells, Int.reduceLE, Int.reduceLT, ↓reduceIte, reduceCtorEq, Nat.reduceLT, Nat.reduceEqDiff, Nat.reduceAdd, Nat.reduceMul, Nat.reduceLeDiff, Nat.reduceBEq, gp4, gc4, gP4, gl4, hin', hrow4, hx4, subPV_zi, Int.natCast_nonneg, Int.toNat_natCast, kp1 k77x, w1]
            exact fin _ _ hI3 hps4 hupd4 (fun k hk _ => Hn.addR_en_ne (by omega) c) _ rfl
      · obtain rfl : i = V.length := by omega
        have hI' : Inn V1 V2 (m + n) r c V2.length := by rw [hV2len]; exact hI
        cases dn with
        | true =>
          have hz2 := hdn.1 rfl
          simp only [SA, setCells, Int.reduceLE, Int.reduceLT, ↓reduceIte, reduceCtorEq, Nat.reduceLT, Nat.reduceEqDiff, Nat.reduceAdd, Nat.reduceMul, Nat.reduceLeDiff, Nat.reduceBEq, gp0, gP, hin]
          refine hQ true V2 ρ' (up0.trans hupd3) hps3 (Col_trans hcol1 hI.col) (hbdI hI) (fun hh => by cases hh) fun _ => ⟨by rw [Hn.en_congr hI.top]; exact hy2, fun k hk => ?_⟩
          rcases Nat.lt_or_ge k V2.length with hkl | hkl
          · exact hz2 k hk (by rw [← hV2len]; exact hkl)
          · exact Hn.en_out hkl
        | false =>
          have hmore : ∃ i, r < i ∧ en V2 i c ≠ 0 := by
            refine Classical.byContradiction fun hh => ?_
            have : false = true := hdn.2 fun k k1 k2 => Classical.byContradiction fun h0 => hh ⟨k, k1, h0⟩
            cases this
          obtain ⟨hP2, hlt⟩ := hnext V2 hI' hV2len hmore
          simp only [SA, setCells, Int.reduceLE, Int.reduceLT, ↓reduceIte, reduceCtorEq, Nat.reduceLT, Nat.reduceEqDiff, Nat.reduceAdd, Nat.reduceMul, Nat.reduceLeDiff, Nat.reduceBEq, gp0, gP, hin]
          exact ih (V2, (en V a c).natAbs, ρ') _ ⟨hps3, hupd3, Col_trans hcol1 hI.col, .inr hP2⟩ hlt rfl
end Go.Proofs.Ytdpdnplljonppaa.VRs

namespace Go.Proofs.Ytdpdnplljonppaa.VRs
open Go Vpi
open VBn hiding rp tab rp_ok all_ok mixed sim Big
open Hn (addR swR tuR Fl en Wd Bd Col Inn Ph Least SpE Frm vec)
set_option maxRecDepth 100000
set_option linter.unusedSimpArgs false
set_option linter.unusedVariables false
theorem rp149 : rp 133 = some f133 := rfl
def urow (n i : Nat) : List Int := (List.range n).map fun k => if k = i then 1 else 0
def un (n : Nat) : List (List Int) := (List.range n).map fun i => urow n i
theorem urow_len {n i : Nat} : (urow n i).length = n := by simp [urow]
theorem un_len {n : Nat} : (un n).length = n := by simp [un]
theorem un_get {n i : Nat} (h : i < n) : (un n)[i]? = some (urow n i) := by simp [un, h]
theorem urow_get {n i k : Nat} (h : k < n) : (urow n i)[k]? = some (if k = i then 1 else 0) := by simp [urow, h]
theorem urow_set {n i : Nat} (h : i < n) : (List.replicate n (PV.agg [.bool false, .sl []])).set i (zi 1) = zr (urow n i) := by
  rw [← mk_zero (s := false)]
  apply List.ext_getElem?
  intro k
  rcases Nat.lt_or_ge k n with hk | hk
  · rw [zr_get (urow_get hk)]
    by_cases hki : i = k
    · subst hki
      rw [List.getElem?_set_self (by simpa using h), if_pos rfl]
    · rw [List.getElem?_set_ne hki, if_neg (fun h => hki h.symm)]
      simp [hk]
      exact mk_iv
  · rw [List.getElem?_eq_none (by simpa using hk), List.getElem?_eq_none (by rw [zr_len, urow_len]; exact hk)]
theorem updPV_zi {x : Int} : updPV (.agg [.bool false, .sl []]) 0 2 (zi x) = some (zi x) := by rw [← mk_zero (s := false)]; exact updPV_mk
section
variable {rp : RProg} {rs : List RRes} {base : Nat} {d : Option Nat} {l : List LOp} {dr : Dr} {ks : List KI} {e : Env} {ρ : Store} {Q : CV → Store → Prop}
theorem r_bsl_own {ws : List PV} {x : Opd} {s : Nat} (hx : vl e x = .own ρ.length 0 ws.length) :
    ExR rp rs base (⟨d, none, none, .bslice 1 [x]⟩ :: l) dr ks e (ρ ++ [.prow s ws]) Q = ExR rp rs base l dr ks (sto d (.own (ρ.length + 1) 0 1) e) (ρ ++ [.dead, .prow 1 [.sl ws]]) Q := by
  rw [r_bslice]
  have h1 : frzs (ρ ++ [.prow s ws]) [.own ρ.length 0 ws.length] = some [.sl ws] := by
    simp only [frzs, frz, frz1_own (show (ρ ++ [Blk.prow s ws])[ρ.length]? = some (.prow s ws) by rw [get_app0]; rfl) rfl, Option.map_some]
  have h2 : kills (ρ ++ [.prow s ws]) [.own ρ.length 0 ws.length] = ρ ++ [.dead] := by
    simp only [kills, List.foldl_cons, List.foldl_nil, kill, kill1, set_app0, List.set_cons_zero]
  simp only [ev, List.map_cons, List.map_nil, hx, h1, h2]
  rw [if_pos (show allSz 1 [PV.sl ws] = true from rfl)]
  simp only [push_none, Option.map_some, ke_some, List.length_append, List.length_cons, List.length_nil, List.append_assoc, List.cons_append, List.nil_append]
theorem r_mks_n {n : Nat} {z : PV} {x y : Opd} (hz : z.cells.length = 2) (hn : n ≤ 2000000) (hx : vl e x = .p (.int .i64 (n : Int))) (hy : vl e y = .p (.int .i64 (n : Int))) :
    ExR rp rs base (⟨d, none, none, .mks false 2 32 z x y⟩ :: l) dr ks e ρ Q = ExR rp rs base l dr ks (sto d (.own ρ.length 0 n) e) (ρ ++ [.prow 2 (List.replicate n z)]) Q := by
  rw [r_mks]
  have h1 : 0 ≤ (n : Int) ∧ (n : Int) ≤ n ∧ ((32 : Nat) : Int) * n ≤ 281474976710656 ∧ (n : Int) ≤ 9223372036854775807 ∧ z.cells.length = 2 := ⟨by omega, by omega, by omega, by omega, hz⟩
  simp only [ev, hx, hy, num_int]
  rw [if_pos h1]
  simp only [push_none, Option.map_some, ke_some, Int.toNat_natCast]
end
/-! ### bounds -/
def loB (E : Nat) : Nat → Nat
  | 0 => E
  | r + 1 => 3 * loB E r ^ 5
def upB (E : Nat) : Nat → Nat
  | 0 => 0
  | r + 1 => upB E r + (upB E r + 1) * loB E (r + 1)
def sd (M N : List (List Int)) : List (List Int) := List.zipWith (· ++ ·) M N
theorem sd_len {M N : List (List Int)} (h : M.length = N.length) : (sd M N).length = M.length := by simp [sd, h]
theorem sd_get {M N : List (List Int)} {i : Nat} {r s : List Int} (h : M[i]? = some r) (h' : N[i]? = some s) : (sd M N)[i]? = some (r ++ s) := by simp [sd, List.getElem?_zipWith, h, h']
theorem sd_wd {M N : List (List Int)} {m n : Nat} (hM : Wd m M) (hN : Wd n N) : Wd (m + n) (sd M N) := by
  intro i r hr
  unfold sd at hr
  rw [List.getElem?_zipWith] at hr
  split at hr
  · rename_i a b ha hb
    cases hr
    rw [List.length_append, hM i a ha, hN i b hb]
  · cases hr
theorem lw_sd {M N : List (List Int)} {m : Nat} (hM : Wd m M) (h : M.length = N.length) : lw m (sd M N) = M := by
  apply List.ext_getElem?
  intro i
  unfold lw
  rw [List.getElem?_map]
  rcases Nat.lt_or_ge i M.length with hi | hi
  · have h1 : M[i]? = some M[i] := by simp
    have h2 : N[i]? = some (N[i]'(by omega)) := by simp
    rw [sd_get h1 h2, h1, Option.map_some, ← hM i _ h1, List.take_left]
  · rw [List.getElem?_eq_none (by rw [sd_len h]; exact hi), List.getElem?_eq_none hi]; rfl
theorem uw_sd {M N : List (List Int)} {m : Nat} (hM : Wd m M) (h : M.length = N.length) : uw m (sd M N) = N := by
  apply List.ext_getElem?
  intro i
  unfold uw
  rw [List.getElem?_map]
  rcases Nat.lt_or_ge i M.length with hi | hi
  · have h1 : M[i]? = some M[i] := by simp
    have h2 : N[i]? = some (N[i]'(by omega)) := by simp
    rw [sd_get h1 h2, h2, Option.map_some, ← hM i _ h1, List.drop_left]
  · rw [List.getElem?_eq_none (by rw [sd_len h]; exact hi), List.getElem?_eq_none (by omega)]; rfl
theorem un_wd {n : Nat} : Wd n (un n) := by
  intro i r hr
  have hi := (List.getElem?_eq_some_iff.1 hr).1
  rw [un_len] at hi
  rw [un_get hi] at hr
  cases hr
  exact urow_len
structure Rd (W2 V : List (List Int)) (w r c i B B' : Nat) : Prop where
  len : V.length = W2.length
  wd : Wd w V
  sp : SpE W2 V
  rest : ∀ k, i ≤ k → V[k]? = W2[k]?
  same : ∀ k j, j < c → en V k j = en W2 k j
  red : ∀ k, k < i → 0 ≤ en V k c ∧ en V k c < en W2 r c
  bd : ∀ k j, k < i → (en V k j).natAbs ≤ B'
theorem Rd.start {W : List (List Int)} {w r c B B' : Nat} (hw : Wd w W) : Rd W W w r c 0 B B' := ⟨rfl, hw, .refl, fun _ _ => rfl, fun _ _ _ => rfl, fun k hk => by omega, fun k j hk => by omega⟩
theorem Rd.step {W2 V : List (List Int)} {w r c i B C : Nat} {q ρ : Int} (h : Rd W2 V w r c i B (B + (B + 1) * C)) (hi : i < r) (hr : r < W2.length) (hz : ∀ j, j < c → en W2 r j = 0) (hy : 0 < en W2 r c) (hB : ∀ k j, k < r → (en W2 k j).natAbs ≤ B) (hC : ∀ j, (en W2 r j).natAbs ≤ C) (hF : Fl (en V i c) (en V r c) q ρ) :
    (q = 0 → Rd W2 V w r c (i + 1) B (B + (B + 1) * C)) ∧ Rd W2 (addR V i r (-q)) w r c (i + 1) B (B + (B + 1) * C) ∧ ∀ j, (-q * en V r j).natAbs ≤ (B + 1) * C := by
  have eri := fun j => Hn.en_congr (h.rest r (by omega)) j
  have eii := fun j => Hn.en_congr (h.rest i (Nat.le_refl _)) j
  have hq : q.natAbs ≤ B + 1 := by
    have h1 := hF.le
    rw [eii c] at h1
    have h2 := hB i c hi
    omega
  have hrest : 0 ≤ ρ ∧ ρ < en W2 r c := by
    have h1 := hF.rest
    rw [eri c] at h1
    rcases h1 with h1 | h1
    · exact h1
    · omega
  have hx : en V i c = q * en V r c + ρ := hF.eq
  have hqs : ∀ j, (-q * en V r j).natAbs ≤ (B + 1) * C := fun j => by
    rw [Int.neg_mul, Int.natAbs_neg, Int.natAbs_mul, eri j]
    exact Nat.mul_le_mul hq (hC j)
  have hil : i < V.length := by rw [h.len]; omega
  have hrl : r < V.length := by rw [h.len]; exact hr
  refine ⟨fun hq0 => ⟨h.len, h.wd, h.sp, fun k hk => h.rest k (by omega), h.same, fun k hk => ?_, fun k j hk => ?_⟩, ⟨Hn.addR_len.trans h.len, Hn.addR_wd h.wd hil hrl, h.sp.trans (Hn.addR_sp h.wd hil hrl (by omega)), fun k hk => (Hn.addR_ne (by omega)).trans (h.rest k (by omega)), fun k j hj => ?_, fun k hk => ?_, fun k j hk => ?_⟩, hqs⟩
  · rcases Nat.lt_or_ge k i with hki | hki
    · exact h.red k hki
    · obtain rfl : k = i := by omega
      rw [hx, hq0, Int.zero_mul, Int.zero_add]; exact hrest
  · rcases Nat.lt_or_ge k i with hki | hki
    · exact h.bd k j hki
    · obtain rfl : k = i := by omega
      rw [eii j]
      have := hB k j hi
      omega
  · by_cases hki : k = i
    · subst hki
      rw [Hn.addR_en h.wd hil hrl, eri j, hz j hj, Int.mul_zero, Int.add_zero]; exact h.same k j hj
    · rw [Hn.addR_en_ne hki]; exact h.same k j hj
  · rcases Nat.lt_or_ge k i with hki | hki
    · rw [Hn.addR_en_ne (by omega)]; exact h.red k hki
    · obtain rfl : k = i := by omega
      rw [Hn.addR_en h.wd hil hrl, hx, Int.neg_mul]
      have : q * en V r c + ρ + -(q * en V r c) = ρ := by omega
      rw [this]; exact hrest
  · rcases Nat.lt_or_ge k i with hki | hki
    · rw [Hn.addR_en_ne (by omega)]; exact h.bd k j hki
    · obtain rfl : k = i := by omega
      rw [Hn.addR_en h.wd hil hrl]
      have h1 := hqs j
      have h2 := hB k j hi
      rw [← eii j] at h2
      omega
structure FI (W0 W : List (List Int)) (w c r E : Nat) : Prop where
  len : W.length = W0.length
  wd : Wd w W
  sp : SpE W0 W
  frm : Frm W c r
  lo : Bd (loB E r) W r
  up : ∀ i j, i < r → (en W i j).natAbs ≤ upB E r
theorem FI.low {W0 W : List (List Int)} {w c r E : Nat} (h : FI W0 W w c r E) : ∀ i, r ≤ i → ∀ j, j < c → en W i j = 0 := by
  intro i hi j hj
  rcases Nat.lt_or_ge i W.length with hil | hil
  · rw [Hn.en_vec (Hn.getD_get hil)]
    exact h.frm.low i _ hi (Hn.getD_get hil) j hj
  · exact Hn.en_out hil
theorem FI.skip {W0 W W' : List (List Int)} {w c r E : Nat} (h : FI W0 W w c r E) (hc : Col W W' w r c) (hB : Bd (loB E r) W' r) (h0 : ∀ i, r ≤ i → en W' i c = 0) : FI W0 W' w (c + 1) r E := by
  have hsame : ∀ i, i < r → W'[i]? = W[i]? := hc.up
  refine ⟨hc.len.trans h.len, hc.wd, h.sp.trans hc.sp, ?_, hB, fun i j hi => by rw [Hn.en_congr (hsame i hi)]; exact h.up i j hi⟩
  have e : W'.take r = W.take r := by
    apply List.ext_getElem?
    intro i
    rw [List.getElem?_take, List.getElem?_take]
    split
    · rename_i hi; exact hsame i hi
    · rfl
  have hf : Frm W' c r := ⟨by rw [hc.len]; exact h.frm.le, by rw [e]; exact h.frm.hnf, fun i s hi hs => h.frm.head i s hi (by rw [← hsame i hi]; exact hs), fun i s hi hs j hj => by rw [← Hn.en_vec hs]; exact hc.low i hi j hj⟩
  exact hf.skip fun i s hi hs => by rw [← Hn.en_vec hs]; exact h0 i hi
theorem FI.next {W0 W W2 V : List (List Int)} {w c r E : Nat} (h : FI W0 W w c r E) (hr : r < W.length) (hl2 : W2.length = W.length) (hsp2 : SpE W W2) (hup2 : ∀ i, i < r → W2[i]? = W[i]?) (hlow2 : ∀ i, r ≤ i → ∀ j, j < c → en W2 i j = 0)
    (hy : 0 < en W2 r c) (hz : ∀ i, r < i → en W2 i c = 0) (hB2 : Bd (loB E (r + 1)) W2 r) (hV : Rd W2 V w r c r (upB E r) (upB E r + (upB E r + 1) * loB E (r + 1))) : FI W0 V w (c + 1) (r + 1) E := by
  have erest : ∀ i, r ≤ i → V[i]? = W2[i]? := hV.rest
  refine ⟨hV.len.trans (hl2.trans h.len), hV.wd, (h.sp.trans hsp2).trans hV.sp, ?_, fun i j hi => by rw [Hn.en_congr (erest i (by omega))]; exact hB2 i j (by omega), fun i j hi => ?_⟩
  · have hrV : r < V.length := by rw [hV.len, hl2]; exact hr
    have ht := Hn.getD_get hrV
    have et : ∀ j, vec (V.getD r []) j = en W2 r j := fun j => by rw [← Hn.en_vec ht, Hn.en_congr (erest r (Nat.le_refl _))]
    refine h.frm.step (hV.len.trans hl2) hr (fun i s t hi hs ht j hj => ?_) (fun i s hi hs j hj => ?_) ht ?_ (fun i s hi hs => ?_) (fun i s hi hs => ?_)
    · rw [← Hn.en_vec hs, ← Hn.en_vec ht, hV.same i j hj, Hn.en_congr (hup2 i hi)]
    · rw [← Hn.en_vec hs, Hn.en_congr (erest i hi)]; exact hlow2 i hi j hj
    · rw [et]; exact hy
    · rw [← Hn.en_vec hs, Hn.en_congr (erest i (by omega))]; exact hz i hi
    · rw [← Hn.en_vec hs, et]; exact hV.red i hi
  · rcases Nat.lt_or_ge i r with hir | hir
    · exact hV.bd i j hir
    · obtain rfl : i = r := by omega
      rw [Hn.en_congr (erest i (Nat.le_refl _))]
      have h1 := hB2 i j (Nat.le_refl _)
      show _ ≤ upB E i + (upB E i + 1) * loB E (i + 1)
      have h2 : 1 * loB E (i + 1) ≤ (upB E i + 1) * loB E (i + 1) := Nat.mul_le_mul_right _ (by omega)
      omega
end Go.Proofs.Ytdpdnplljonppaa.VRs

namespace Go.Proofs.Ytdpdnplljonppaa.VRs
open Go Vpi
open VBn hiding rp tab rp_ok all_ok mixed sim Big
open Hn (addR swR tuR Fl en Wd Bd Col Inn Ph Least SpE Frm vec)
set_option maxRecDepth 100000
set_option linter.unusedSimpArgs false
set_option linter.unusedVariables false
theorem FI.full {W0 W : List (List Int)} {w c m r E : Nat} (h : FI W0 W w c r E) (hr : r = W.length) (hc : c ≤ m) : FI W0 W w m r E :=
  ⟨h.len, h.wd, h.sp, ⟨h.frm.le, h.frm.hnf, fun i s hi hs => by obtain ⟨p, h1, h2⟩ := h.frm.head i s hi hs; exact ⟨p, by omega, h2⟩, fun i s hi hs => by
    have := (List.getElem?_eq_some_iff.1 hs).1
    omega⟩, h.lo, h.up⟩
theorem FI.sz {W0 W : List (List Int)} {w c r E : Nat} (h : FI W0 W w c r E) (h1 : loB E r < LB ^ CapN) (h2 : upB E r < LB ^ CapN) : SzA W := fun i j => by
  rcases Nat.lt_or_ge i r with hi | hi
  · exact sz_of_le (h.up i j hi) h2
  · exact sz_of_le (h.lo i j hi) h1
theorem n149 {b : List PV} {M : List (List Int)} {m E : Nat} (hML : ML b M) (hN0 : 0 < M.length) (hNm : M.length ≤ 2000000) (hw : Wd m M) (hm0 : 0 < m) (hm2 : m ≤ 2000000) (hE : Bd E (sd M (un M.length)) 0)
    (hC : ∀ k, k ≤ M.length → loB E k + 1 < LB ^ CapN ∧ upB E k + 1 < LB ^ CapN) {Q : CV → Store → Prop}
    (hQ : ∀ W r ρ P bl bu, PS ρ P bl bu (lw m W) (uw m W) → FI (sd M (un M.length)) W (m + M.length) m r E → Q (.tup [.ptr P 0 0, i64 r]) ρ) : Rn rp 133 [.p (.sl b), i64 m] [] Q := by
  rw [rn_of rp149]
  have hbN : b.length = M.length := hML.1
  simp only [f133, args0, SA, setCells, Int.reduceLE, Int.reduceLT, ↓reduceIte, reduceCtorEq, Nat.reduceLT, Nat.reduceEqDiff, Nat.reduceAdd, Nat.reduceMul, Nat.reduceLeDiff, Nat.reduceBEq]
  refine kc_keep' (n70 Wf.nil hML (by omega) fun ρ0 bl _ hwf0 _ hbl0 => ?_)
  simp only [SA, setCells, Int.reduceLE, Int.reduceLT, ↓reduceIte, reduceCtorEq, Nat.reduceLT, Nat.reduceEqDiff, Nat.reduceAdd, Nat.reduceMul, Nat.reduceLeDiff, Nat.reduceBEq, hbN]
  have hPl : ρ0.length = ρ0.length := rfl
  have hbll : bl < ρ0.length := (List.getElem?_eq_some_iff.1 hbl0).1
  generalize hPP : ρ0.length = P at *
  refine loop_rule (β := Nat × Store × CV) (fun t => ([(0, .p (.sl b)), (1, i64 m), (6, .ptr P 0 0), (21, i64 M.length), (22, i64 t.1)], t.2.1))
    (fun t => t.1 ≤ M.length ∧ P < t.2.1.length ∧ t.2.1[P]? = some (.kblk 2 [.own bl 0 M.length, t.2.2]) ∧ t.2.1[bl]? = some (.prow 1 (zm M)) ∧ GL t.2.1 1 t.2.2 (zm ((un M.length).take t.1)) ∧ (∀ b o n, t.2.2 = .own b o n → b ≠ bl)) (fun t => M.length - t.1) ((0, ρ0 ++ [.kblk 2 [.own bl 0 M.length, .nils]], .nils) : Nat × Store × CV) rfl rfl
    ⟨Nat.zero_le _, by simp [hPP], by rw [← hPP, get_app0]; rfl, by rw [get_left (by omega)]; exact hbl0, .nil, fun b o n h => by cases h⟩ ?_
  rintro ⟨i, τ, c⟩ ⟨hi, hPlt, hP, hbl, hG, hne⟩ ih
  simp only [] at hi hPlt hP hbl hG hne ih ⊢
  have hPb : P ≠ bl := by rintro rfl; rw [hP] at hbl; cases hbl
  by_cases hin : (i : Int) < M.length
  · have hin' : i < M.length := by omega
    have w1 : IntKind.i64.wrap ((i : Int) + 1) = ((i + 1 : Nat) : Int) := by rw [IntWalk.i64_in _ (by omega)]; omega
    have k54 := (VBn.p54 (x := 1) (by decide) (by decide)).lift base_le
    have hz : (PV.agg [.bool false, .sl []]).cells.length = 2 := rfl
    have hz1 : (List.replicate M.length (PV.agg [.bool false, .sl []]))[i]? = some (.agg [.bool false, .sl []]) := by simp [hin']
    have hP' : ∀ l, (τ ++ l)[P]? = some (.kblk 2 [.own bl 0 M.length, c]) := fun l => by rw [get_left hPlt]; exact hP
    have hPn : ∀ l, (nd τ c ++ l)[P]? = some (.kblk 2 [.own bl 0 M.length, c]) := fun l => nd_get hG hP
    have htl : (zm ((un M.length).take i)).length = i := by rw [zm_len, List.length_take, un_len]; omega
    have hc4 : ((zm ((un M.length).take i)).length + [PV.sl (zr (urow M.length i))].length) * 24 ≤ 140737488355328 := by rw [htl]; simp; omega
    have rA := fun {rp rs base d l dr ks e Q x y} => r_mks_n (rp := rp) (rs := rs) (base := base) (d := d) (l := l) (dr := dr) (ks := ks) (e := e) (ρ := τ) (Q := Q) (x := x) (y := y) (n := M.length) hz hNm
    have rC := fun {rp rs base d l dr ks e Q s x} => r_app_1 (rp := rp) (rs := rs) (base := base) (d := d) (l := l) (dr := dr) (ks := ks) (e := e) (Q := Q) (s := s) (x := x) (a := .dead) hG hc4
    have hs1 : zm ((un M.length).take i) ++ [PV.sl (zr (urow M.length i))] = zm ((un M.length).take (i + 1)) := by rw [zm_suc (un_get hin')]
    simp only [S1, S2, S3, S4, S5, r_idx, S6, S7, S8, setCells, Int.reduceLE, Int.reduceLT, ↓reduceIte, reduceCtorEq, Nat.reduceLT, Nat.reduceEqDiff, Nat.reduceAdd, Nat.reduceMul, Nat.reduceLeDiff, Nat.reduceBEq, hbN, hin, hin', rA, kp1 k54, hz1, updPV_zi, urow_set hin', hP', ↓r_bsl_own, zr_len, urow_len, rC, hs1, hPn, htl, Int.natCast_nonneg, Int.toNat_natCast, w1]
    have hlt2 : P < (nd τ c ++ [Blk.dead, .prow 1 [.sl (zr (urow M.length i))], .prow 1 (zm ((un M.length).take (i + 1)))]).length := by rw [List.length_append, nd_len]; omega
    refine ih (i + 1, (nd τ c ++ [Blk.dead, Blk.prow 1 [.sl (zr (urow M.length i))], Blk.prow 1 (zm ((un M.length).take (i + 1)))]).set P (.kblk 2 [.own bl 0 M.length, .own (τ.length + 2) 0 (i + 1)]), .own (τ.length + 2) 0 (i + 1)) _ ⟨by simp only []; omega, by simp only [List.length_set]; exact hlt2, get_self hlt2, ?_, ?_, ?_⟩ (by simp only []; omega) ?_
    · simp only []
      rw [get_ne hPb, List.getElem?_append_left (by rw [nd_len]; exact (List.getElem?_eq_some_iff.1 hbl).1)]
      cases c <;> try exact hbl
      exact (get_ne (hne _ _ _ rfl)).trans hbl
    · refine .own ?_ (by rw [zm_len, List.length_take, un_len]; omega)
      simp only []
      rw [get_ne (by omega), show τ.length + 2 = (nd τ c).length + 2 by rw [nd_len], get_app]
      rfl
    · intro b o n h
      cases h
      have := (List.getElem?_eq_some_iff.1 hbl).1
      omega
    · rfl
  · obtain rfl : i = M.length := by omega
    rw [List.take_of_length_le (by rw [un_len]; exact Nat.le_refl _)] at hG
    obtain ⟨bu, rfl, hbu, _⟩ := GL.own_of hG (n := M.length) (by rw [zm_len, un_len]) hN0
    have hWl : (sd M (un M.length)).length = M.length := sd_len un_len.symm
    have hps0 : PS τ P bl bu (lw m (sd M (un M.length))) (uw m (sd M (un M.length))) := by
      rw [lw_sd hw un_len.symm, uw_sd hw un_len.symm]
      exact ⟨by rw [un_len]; exact hP, hbl, hbu, Ne.symm (hne _ _ _ rfl)⟩
    simp only [SA, setCells, Int.reduceLE, Int.reduceLT, ↓reduceIte, reduceCtorEq, Nat.reduceLT, Nat.reduceEqDiff, Nat.reduceAdd, Nat.reduceMul, Nat.reduceLeDiff, Nat.reduceBEq, hin]
    refine loop_rule (β := List (List Int) × Nat × Nat × Store) (fun t => ([(0, .p (.sl b)), (1, i64 m), (6, .ptr P 0 0), (9, i64 t.2.1), (10, i64 t.2.2.1)], t.2.2.2))
      (fun t => t.2.2.1 ≤ m ∧ FI (sd M (un M.length)) t.1 (m + M.length) t.2.2.1 t.2.1 E ∧ PS t.2.2.2 P bl bu (lw m t.1) (uw m t.1)) (fun t => m - t.2.2.1) ((sd M (un M.length), 0, 0, τ) : List (List Int) × Nat × Nat × Store) rfl rfl
      ⟨Nat.zero_le _, ⟨rfl, sd_wd hw un_wd, .refl, .zero, hE, fun i j hi => absurd hi (Nat.not_lt_zero _)⟩, hps0⟩ ?_
    clear ih hps0 hG hbl hP hPlt hPb hne hin hbu
    rintro ⟨W, r, c, ρ⟩ ⟨hc, hFI, hps⟩ ih
    simp only [] at hc hFI hps ih ⊢
    have hWN : W.length = M.length := hFI.len.trans hWl
    have hrN : r ≤ M.length := by have := hFI.frm.le; omega
    have hszW : SzA W := hFI.sz (by have := (hC r hrN).1; omega) (by have := (hC r hrN).2; omega)
    by_cases hcm : (c : Int) < m
    · have hcm' : c < m := by omega
      by_cases hrm : (r : Int) < M.length
      · have hrm' : r < M.length := by omega
        have hCr := hC (r + 1) hrm'
        have w1 : IntKind.i64.wrap ((c : Int) + 1) = ((c + 1 : Nat) : Int) := by rw [IntWalk.i64_in _ (by omega)]; omega
        have w2 : IntKind.i64.wrap ((r : Int) + 1) = ((r + 1 : Nat) : Int) := by rw [IntWalk.i64_in _ (by omega)]; omega
        simp only [SA, setCells, Int.reduceLE, Int.reduceLT, ↓reduceIte, reduceCtorEq, Nat.reduceLT, Nat.reduceEqDiff, Nat.reduceAdd, Nat.reduceMul, Nat.reduceLeDiff, Nat.reduceBEq, hbN, hcm, hrm]
        refine kc_keep' (n179 hps hFI.wd hcm' hN0 hm2 hNm (by omega) (by omega) hFI.low hFI.lo (fun i hi j => hszW i j) hCr.1 fun ok W' τ' hu hps' hcol hB hno hyes => ?_)
        cases ok with
        | false =>
          obtain ⟨hB0, hz⟩ := hno rfl
          simp only [SA, setCells, Int.reduceLE, Int.reduceLT, ↓reduceIte, reduceCtorEq, Nat.reduceLT, Nat.reduceEqDiff, Nat.reduceAdd, Nat.reduceMul, Nat.reduceLeDiff, Nat.reduceBEq, Bool.not_false, w1]
          exact ih (W', r, c + 1, τ') _ ⟨hcm', hFI.skip hcol hB0 hz, hps'⟩ (by simp only []; omega) rfl
        | true =>
          obtain ⟨hy, hz⟩ := hyes rfl
          have hW'N : W'.length = M.length := hcol.len.trans hWN
          have hszW' : SzA W' := fun i j => by
            rcases Nat.lt_or_ge i r with hi | hi
            · rw [Hn.en_congr (hcol.up i hi)]; exact hszW i j
            · exact sz_of_le (hB i j hi) (Nat.lt_of_succ_lt hCr.1)
          have gP := hps'.pair
          have gl := hps'.l
          have hl1 : (lw m W').length = M.length := by rw [lw_len, hW'N]
          have hl2 : (uw m W').length = M.length := by rw [uw_len, hW'N]
          rw [hl1, hl2] at gP
          have hrow := zm_getD (M := lw m W') (i := r) (by rw [hl1]; exact hrm')
          have hx := zr_en (L := lw m W') (i := r) (j := c) (by rw [(lw_rows hcol.wd hszW' r (by rw [hl1]; exact hrm')).1]; exact hcm')
          rw [lw_en hcm'] at hx
          have k77 := (VBn.p77 (Nu.zi (hszW' r c))).lift base_le
          refine @join2 ?rs ?cc ?kk Q _ (fun e ρ => ∃ W2, fgt [0, 1, 6, 9, 10, 77, 78] e = [(0, .p (.sl b)), (1, i64 m), (6, .ptr P 0 0), (9, i64 r), (10, i64 c), (77, i64 r), (78, i64 (0 : Nat))] ∧ PS ρ P bl bu (lw m W2) (uw m W2) ∧
            W2.length = W.length ∧ SpE W W2 ∧ Wd (m + M.length) W2 ∧ (∀ i, i < r → W2[i]? = W[i]?) ∧ (∀ i, r ≤ i → ∀ j, j < c → en W2 i j = 0) ∧ 0 < en W2 r c ∧ (∀ i, r < i → en W2 i c = 0) ∧ Bd (loB E (r + 1)) W2 r) (fun rest => ?main) ?tail
          case main =>
            by_cases hs : (en W' r c).sign < 0
            · simp only [SA, setCells, Int.reduceLE, Int.reduceLT, ↓reduceIte, reduceCtorEq, Nat.reduceLT, Nat.reduceEqDiff, Nat.reduceAdd, Nat.reduceMul, Nat.reduceLeDiff, Nat.reduceBEq, Bool.not_true, gP, gl, hrm', hrow, hx, subPV_zi, Int.natCast_nonneg, Int.toNat_natCast, kz1 k77, hs]
              refine kc_keep' (n180 hps' (by rw [hl1, hl2]) (by rw [hl1]; exact hrm') (lw_rows hcol.wd hszW') (uw_rows hcol.wd hszW') hm2 hNm fun ρ2 hu2 hps2 => ?_)
              rw [lw_tu, uw_tu] at hps2
              simp only [SA, setCells, Int.reduceLE, Int.reduceLT, ↓reduceIte, reduceCtorEq, Nat.reduceLT, Nat.reduceEqDiff, Nat.reduceAdd, Nat.reduceMul, Nat.reduceLeDiff, Nat.reduceBEq]
              refine rest _ _ ?_
              have hrW' : r < W'.length := by omega
              have hneg : en W' r c < 0 := by
                rcases Int.lt_trichotomy (en W' r c) 0 with h | h | h
                · exact h
                · rw [h] at hs; exact absurd hs (by decide)
                · rw [Int.sign_eq_one_of_pos h] at hs; exact absurd hs (by decide)
              refine ⟨tuR W' r, rfl, hps2, Hn.tuR_len.trans hcol.len, hcol.sp.trans (Hn.tuR_sp hcol.wd hrW'), Hn.tuR_wd hcol.wd hrW', fun i hi => (Hn.tuR_ne (by omega)).trans (hcol.up i hi), fun i hi j hj => ?_, ?_, fun i hi => ?_, fun i j hi => ?_⟩
              · by_cases h : i = r
                · subst h; rw [Hn.tuR_en hrW', hcol.low i hi j hj, Int.mul_zero]
                · rw [Hn.tuR_en_ne h]; exact hcol.low i hi j hj
              · rw [Hn.tuR_en hrW']; omega
              · rw [Hn.tuR_en_ne (by omega)]; exact hz i hi
              · by_cases h : i = r
                · subst h; rw [Hn.tuR_en hrW', Int.neg_mul, Int.one_mul, Int.natAbs_neg]; exact hB i j hi
                · rw [Hn.tuR_en_ne h]; exact hB i j hi
            · simp only [SA, setCells, Int.reduceLE, Int.reduceLT, ↓reduceIte, reduceCtorEq, Nat.reduceLT, Nat.reduceEqDiff, Nat.reduceAdd, Nat.reduceMul, Nat.reduceLeDiff, Nat.reduceBEq, Bool.not_true, gP, gl, hrm', hrow, hx, subPV_zi, Int.natCast_nonneg, Int.toNat_natCast, kz1 k77, hs]
              refine rest _ _ ?_
              have hpos : 0 < en W' r c := by
                rcases Int.lt_trichotomy (en W' r c) 0 with h | h | h
                · rw [Int.sign_eq_neg_one_of_neg h] at hs; exact absurd (by decide) hs
                · exact absurd h hy
                · exact h
              exact ⟨W', rfl, hps', hcol.len, hcol.sp, hcol.wd, hcol.up, hcol.low, hpos, hz, hB⟩
          case tail =>
            rintro e ρ2 ⟨W2, he, hps2, hl2', hsp2, hwd2, hup2, hlow2, hy2, hz2, hB2⟩
            have hW2N : W2.length = M.length := hl2'.trans hWN
            have hupb : ∀ k j, k < r → (en W2 k j).natAbs ≤ upB E r := fun k j hk => by rw [Hn.en_congr (hup2 k hk)]; exact hFI.up k j hk
            have hlob : ∀ j, (en W2 r j).natAbs ≤ loB E (r + 1) := fun j => hB2 r j (Nat.le_refl _)
            refine loop_rule (β := List (List Int) × Nat × Store) (fun t => ([(0, .p (.sl b)), (1, i64 m), (6, .ptr P 0 0), (9, i64 r), (10, i64 c), (77, i64 r), (78, i64 t.2.1)], t.2.2))
              (fun t => t.2.1 ≤ r ∧ Rd W2 t.1 (m + M.length) r c t.2.1 (upB E r) (upB E r + (upB E r + 1) * loB E (r + 1)) ∧ PS t.2.2 P bl bu (lw m t.1) (uw m t.1)) (fun t => r - t.2.1) ((W2, 0, ρ2) : List (List Int) × Nat × Store) he rfl
              ⟨Nat.zero_le _, .start hwd2, hps2⟩ ?_
            rintro ⟨V, i, ρ3⟩ ⟨hir, hRd, hps3⟩ ih2
            simp only [] at hir hRd hps3 ih2 ⊢
            have hszV : SzA V := fun k j => by
              rcases Nat.lt_or_ge k i with hk | hk
              · exact sz_of_le (hRd.bd k j hk) (by have := hCr.2; show upB E r + (upB E r + 1) * loB E (r + 1) < _; exact Nat.lt_of_succ_lt this)
              · rw [Hn.en_congr (hRd.rest k hk)]
                rcases Nat.lt_or_ge k r with hk2 | hk2
                · exact sz_of_le (hupb k j hk2) (by have := (hC r hrN).2; omega)
                · exact sz_of_le (hB2 k j hk2) (by have := hCr.1; omega)
            have hVN : V.length = M.length := hRd.len.trans hW2N
            by_cases hin : (i : Int) < r
            · have hin' : i < r := by omega
              have hiN : i < M.length := by omega
              have w3 : IntKind.i64.wrap ((i : Int) + 1) = ((i + 1 : Nat) : Int) := by rw [IntWalk.i64_in _ (by omega)]; omega
              have gP := hps3.pair
              have gl := hps3.l
              have hl1 : (lw m V).length = M.length := by rw [lw_len, hVN]
              have hl2 : (uw m V).length = M.length := by rw [uw_len, hVN]
              rw [hl1, hl2] at gP
              have gP' : ∀ l, (ρ3 ++ l)[P]? = some (.kblk 2 [.own bl 0 M.length, .own bu 0 M.length]) := fun l => by rw [get_left hps3.lt.1]; exact gP
              have gl' : ∀ l, (ρ3 ++ l)[bl]? = some (.prow 1 (zm (lw m V))) := fun l => (hps3.push).l
              have hrow := zm_getD (M := lw m V) (i := i) (by rw [hl1]; exact hiN)
              have hrowr := zm_getD (M := lw m V) (i := r) (by rw [hl1]; exact hrm')
              have hxi := zr_en (L := lw m V) (i := i) (j := c) (by rw [(lw_rows hRd.wd hszV i (by rw [hl1]; exact hiN)).1]; exact hcm')
              have hxr := zr_en (L := lw m V) (i := r) (j := c) (by rw [(lw_rows hRd.wd hszV r (by rw [hl1]; exact hrm')).1]; exact hcm')
              rw [lw_en hcm'] at hxi hxr
              have er : en V r c = en W2 r c := Hn.en_congr (hRd.rest r (by omega)) c
              obtain ⟨q, ρr, hF, kF⟩ := fl134 (Nu.zi (hszV i c)) (Nu.zi (hszV r c)) (by rw [er]; omega)
              have k134 := kF.lift base_le
              obtain ⟨st0, st1, hqs⟩ := hRd.step hin' (by omega) (hlow2 r (Nat.le_refl _)) hy2 hupb hlob hF
              have hqz : Sz q := by
                have h1 := hF.le
                have h2 : (en V i c).natAbs ≤ upB E r := by rw [Hn.en_congr (hRd.rest i (Nat.le_refl _))]; exact hupb i c hin'
                have h3 := (hC r hrN).2
                exact sz_of_le (B := upB E r + 1) (by omega) h3
              have k77q := (VBn.p77 (Nu.zi hqz)).lift base_le
              have k146 := (VBn.p146 (Nu.zi hqz)).lift base_le
              rw [zi_raw (x := q)] at k77q k146
              by_cases hq0 : q = 0
              · have s0 : (q.sign != 0) = false := by rw [hq0]; rfl
                simp only [SA, setCells, Int.reduceLE, Int.reduceLT, ↓reduceIte, reduceCtorEq, Nat.reduceLT, Nat.reduceEqDiff, Nat.reduceAdd, Nat.reduceMul, Nat.reduceLeDiff, Nat.reduceBEq, hin, hrm', hiN, gP, gl, gP', gl', hrow, hrowr, hxi, hxr, subPV_zi, push_sl, Int.natCast_nonneg, Int.toNat_natCast, kz2 k134, kz1 k77q, s0, w3]
                exact ih2 (V, i + 1, ρ3 ++ _) _ ⟨by simp only []; omega, st0 hq0, hps3.push⟩ (by simp only []; omega) rfl
              · have s0 : (q.sign != 0) = true := by
                  rw [bne_iff_ne]; exact fun hh => hq0 (Int.sign_eq_zero_iff_zero.1 hh)
                have hqr : ∀ j, Sz (-q * en V r j) := fun j => sz_of_le (hqs j) (by
                  have h1 := hCr.2
                  have h2 : upB E (r + 1) = upB E r + (upB E r + 1) * loB E (r + 1) := rfl
                  omega)
                simp only [SA, setCells, Int.reduceLE, Int.reduceLT, ↓reduceIte, reduceCtorEq, Nat.reduceLT, Nat.reduceEqDiff, Nat.reduceAdd, Nat.reduceMul, Nat.reduceLeDiff, Nat.reduceBEq, hin, hrm', hiN, gP, gl, gP', gl', hrow, hrowr, hxi, hxr, subPV_zi, push_sl, Int.natCast_nonneg, Int.toNat_natCast, kz2 k134, kz1 k77q, s0, kz1 k146]
                refine kc_keep' (n181 (Nu.zi hqz.neg) hps3.push (by rw [hl1, hl2]) (by rw [hl1]; exact hiN) (by rw [hl1]; exact hrm') (lw_rows hRd.wd hszV) (uw_rows hRd.wd hszV) hm0 hN0 hm2 hNm (lw_map_sz hqr) (uw_map_sz hqr) fun ρ4 hu4 hps4 => ?_)
                rw [lw_add, uw_add] at hps4
                simp only [SA, setCells, Int.reduceLE, Int.reduceLT, ↓reduceIte, reduceCtorEq, Nat.reduceLT, Nat.reduceEqDiff, Nat.reduceAdd, Nat.reduceMul, Nat.reduceLeDiff, Nat.reduceBEq, w3]
                exact ih2 (addR V i r (-q), i + 1, ρ4) _ ⟨by simp only []; omega, st1, hps4⟩ (by simp only []; omega) rfl
            · obtain rfl : i = r := by omega
              simp only [SA, setCells, Int.reduceLE, Int.reduceLT, ↓reduceIte, reduceCtorEq, Nat.reduceLT, Nat.reduceEqDiff, Nat.reduceAdd, Nat.reduceMul, Nat.reduceLeDiff, Nat.reduceBEq, hin, w1, w2]
              exact ih (V, i + 1, c + 1, ρ3) _ ⟨hcm', hFI.next (by omega) hl2' hsp2 hup2 hlow2 hy2 hz2 hB2 hRd, hps3⟩ (by simp only []; omega) rfl
      · obtain rfl : r = M.length := by omega
        simp only [SA, setCells, Int.reduceLE, Int.reduceLT, ↓reduceIte, reduceCtorEq, Nat.reduceLT, Nat.reduceEqDiff, Nat.reduceAdd, Nat.reduceMul, Nat.reduceLeDiff, Nat.reduceBEq, hbN, hcm, hrm]
        exact hQ W _ ρ P bl bu hps (hFI.full hWN.symm hc)
    · obtain rfl : c = m := by omega
      simp only [SA, setCells, Int.reduceLE, Int.reduceLT, ↓reduceIte, reduceCtorEq, Nat.reduceLT, Nat.reduceEqDiff, Nat.reduceAdd, Nat.reduceMul, Nat.reduceLeDiff, Nat.reduceBEq, hbN, hcm]
      exact hQ W r ρ P bl bu hps hFI
end Go.Proofs.Ytdpdnplljonppaa.VRs

namespace Go.Proofs.Ytdpdnplljonppaa.VRs
open Go Vpi
open VBn hiding rp tab rp_ok all_ok mixed sim Big
open Hn (addR swR tuR Fl en Wd Bd Col Inn Ph Least SpE Frm vec vm Sp shR)
set_option maxRecDepth 100000
set_option linter.unusedSimpArgs false
set_option linter.unusedVariables false
theorem rp150 : rp 82 = some f82 := rfl
/-! ### the left side alone -/
theorem vec_take {m j : Nat} {s : List Int} (h : j < m) : vec (s.take m) j = vec s j := by
  unfold vec
  rw [List.getD_eq_getElem?_getD, List.getD_eq_getElem?_getD, List.getElem?_take, if_pos h]
theorem Frm_left {W : List (List Int)} {m r : Nat} (h : Frm W m r) : Frm (lw m W) m r := by
  have hget : ∀ (i : Nat) (s : List Int), (lw m W)[i]? = some s → ∃ t, W[i]? = some t ∧ s = t.take m := fun i s hs => by
    unfold lw at hs
    rw [List.getElem?_map, Option.map_eq_some_iff] at hs
    obtain ⟨t, ht, rfl⟩ := hs
    exact ⟨t, ht, rfl⟩
  have hhead : ∀ (i : Nat) (s : List Int), i < r → (lw m W)[i]? = some s → ∃ p, p < m ∧ 0 < vec s p ∧ ∀ j, j < p → vec s j = 0 := by
    intro i s hi hs
    obtain ⟨t, ht, rfl⟩ := hget i s hs
    obtain ⟨p, hp, h1, h2⟩ := h.head i t hi ht
    exact ⟨p, hp, by rw [vec_take hp]; exact h1, fun j hj => by rw [vec_take (by omega)]; exact h2 j hj⟩
  refine ⟨by rw [lw_len]; exact h.le, ?_, hhead, fun i s hi hs j hj => ?_⟩
  · refine Hn.Hnf.congr (d := m) (by simp [vm, lw]) (fun i a b ha hb j hj => ?_) (fun b hb => ?_) h.hnf
    · simp only [vm, List.getElem?_map, Option.map_eq_some_iff] at ha hb
      obtain ⟨s, hs, rfl⟩ := ha
      obtain ⟨u, hu, rfl⟩ := hb
      rw [List.getElem?_take] at hs hu
      split at hs
      · rename_i hir
        rw [if_pos hir] at hu
        obtain ⟨t, ht, rfl⟩ := hget i u hu
        rw [hs] at ht
        cases ht
        exact (vec_take hj).symm
      · cases hs
    · obtain ⟨i, u, hi, rfl⟩ := Hn.mem_vm.1 hb
      rw [List.getElem?_take] at hi
      split at hi
      · rename_i hir
        exact hhead i u hir hi
      · cases hi
  · obtain ⟨t, ht, rfl⟩ := hget i s hs
    rw [vec_take hj]
    exact h.low i t hi ht j hj
theorem Sp_take {M : List (List Int)} {m : Nat} {v : Hn.Vec} (h : Sp (vm M) v) : Sp (vm (lw m M)) fun j => if j < m then v j else 0 := by
  induction h with
  | zero => exact Sp.zero.cast fun j => by split <;> rfl
  | @add v r c hr _ ih =>
    obtain ⟨j, s, hj, rfl⟩ := Hn.mem_vm.1 hr
    refine (Sp.add c (r := vec (s.take m)) (Hn.mem_vm.2 ⟨j, s.take m, by simp [lw, hj], rfl⟩) ih).cast fun x => ?_
    by_cases hx : x < m
    · simp only [hx, if_true, vec_take hx]
    · have : vec (s.take m) x = 0 := by
        unfold vec
        rw [List.getD_eq_getElem?_getD, List.getElem?_eq_none (by rw [List.length_take]; omega)]; rfl
      simp only [hx, if_false, this, Int.mul_zero, Int.add_zero]
theorem SpE_left {A B : List (List Int)} {m : Nat} (h : SpE A B) : SpE (lw m A) (lw m B) := by
  have key : ∀ {A B : List (List Int)}, SpE A B → ∀ v, Sp (vm (lw m A)) v → Sp (vm (lw m B)) v := by
    intro A B h v
    refine Sp.mono fun r hr => ?_
    obtain ⟨j, s, hj, rfl⟩ := Hn.mem_vm.1 hr
    unfold lw at hj
    rw [List.getElem?_map, Option.map_eq_some_iff] at hj
    obtain ⟨t, ht, rfl⟩ := hj
    refine (Sp_take (m := m) ((h _).1 (Hn.vm_row ht))).cast fun x => ?_
    by_cases hx : x < m
    · simp only [hx, if_true, vec_take hx]
    · have : vec (t.take m) x = 0 := by
        unfold vec
        rw [List.getD_eq_getElem?_getD, List.getElem?_eq_none (by rw [List.length_take]; omega)]; rfl
      simp only [hx, if_false, this]
  exact fun v => ⟨key h v, key h.symm v⟩
theorem lw_wd {m n : Nat} {W : List (List Int)} (h : Wd (m + n) W) : Wd m (lw m W) := by
  intro i s hs
  unfold lw at hs
  rw [List.getElem?_map, Option.map_eq_some_iff] at hs
  obtain ⟨t, ht, rfl⟩ := hs
  rw [List.length_take, h i t ht]; omega
theorem zm_take {M : List (List Int)} {r : Nat} : (zm M).take r = zm (M.take r) := by unfold zm; rw [List.map_take]
def CapOk (E N : Nat) : Prop := ∀ k, k ≤ N → loB E k + 1 < LB ^ CapN ∧ upB E k + 1 < LB ^ CapN
/-! ### the kernel -/
end Go.Proofs.Ytdpdnplljonppaa.VRs

namespace Go.Proofs.Ytdpdnplljonppaa.VRs
open Go Vpi
open VBn hiding rp tab rp_ok all_ok mixed sim Big
open Hn (en Wd SpE Bd Frm)
set_option maxRecDepth 100000
set_option linter.unusedSimpArgs false
set_option linter.unusedVariables false
/-! ### one lattice -/
def lbS (e : Nat) : Nat → Nat
  | 0 => e
  | k + 1 => 5 * lbS e k + 2
def ubS (e : Nat) : Nat → Nat
  | 0 => 0
  | k + 1 => ubS e k + lbS e (k + 1) + 1
theorem loB_leS {E e : Nat} (h : E ≤ 2 ^ e) : ∀ k, loB E k ≤ 2 ^ lbS e k
  | 0 => h
  | k + 1 => by
    have ih := loB_leS h k
    show 3 * loB E k ^ 5 ≤ 2 ^ (5 * lbS e k + 2)
    have h1 : loB E k ^ 5 ≤ (2 ^ lbS e k) ^ 5 := Nat.pow_le_pow_left ih 5
    rw [← Nat.pow_mul, Nat.mul_comm] at h1
    rw [Nat.pow_add]
    have : (2 : Nat) ^ 2 = 4 := rfl
    rw [this]
    generalize (2 : Nat) ^ (5 * lbS e k) = y at *
    generalize loB E k ^ 5 = x at *
    omega
theorem upB_leS {E e : Nat} (h : E ≤ 2 ^ e) : ∀ k, upB E k + 1 ≤ 2 ^ ubS e k
  | 0 => Nat.le_refl _
  | k + 1 => by
    have ih := upB_leS h k
    have h1 := loB_leS h (k + 1)
    have h2 : loB E (k + 1) + 1 ≤ 2 ^ (lbS e (k + 1) + 1) := by
      rw [Nat.pow_succ]
      have : 0 < 2 ^ lbS e (k + 1) := Nat.pow_pos (by decide)
      omega
    have e1 : upB E (k + 1) + 1 = (upB E k + 1) * (loB E (k + 1) + 1) := by
      show upB E k + (upB E k + 1) * loB E (k + 1) + 1 = _
      rw [Nat.mul_add, Nat.mul_one]; omega
    rw [e1]
    show _ ≤ 2 ^ (ubS e k + lbS e (k + 1) + 1)
    rw [Nat.add_assoc, Nat.pow_add]
    exact Nat.mul_le_mul ih h2
theorem capOkS {E e N : Nat} (h : E ≤ 2 ^ e) (hN : ∀ k, k ≤ N → lbS e k + 1 < 3200000000000 ∧ ubS e k + 1 < 3200000000000) : CapOk E N := by
  intro k hk
  obtain ⟨h1, h2⟩ := hN k hk
  have c1 : 3200000000000 ≤ 32 * CapN := by rw [CapN_eq]; omega
  constructor
  · have h3 := loB_leS h k
    rw [LB_pow2]
    have h4 : 2 ^ (lbS e k + 1) < 2 ^ (32 * CapN) := Nat.pow_lt_pow_right (by decide) (by omega)
    rw [Nat.pow_succ] at h4
    have : 0 < 2 ^ lbS e k := Nat.pow_pos (by decide)
    generalize 2 ^ (32 * CapN) = Z at *
    omega
  · have h3 := upB_leS h k
    rw [LB_pow2]
    exact Nat.lt_of_le_of_lt h3 (Nat.pow_lt_pow_right (by decide) (by omega))
theorem capsS : ∀ k, k ≤ 12 → lbS 256 k + 1 < 3200000000000 ∧ ubS 256 k + 1 < 3200000000000 := by decide
theorem mat_bd {A : List (List Int)} {N : Nat} (hw : Wd N A) (h : ∀ i j, (en A i j).natAbs ≤ 2 ^ 256) : Bd (2 ^ 256) (sd A (un A.length)) 0 := by
  intro i j _
  have p1 : 1 ≤ 2 ^ 256 := Nat.pow_pos (by decide)
  rcases Nat.lt_or_ge i A.length with hi | hi
  · have h1 : A[i]? = some A[i] := by simp
    have h2 := un_get hi
    have hl := hw i _ h1
    rw [Hn.en_vec (sd_get h1 h2)]
    unfold Hn.vec
    rw [List.getD_eq_getElem?_getD]
    rcases Nat.lt_or_ge j N with hj | hj
    · rw [List.getElem?_append_left (by omega), ← List.getD_eq_getElem?_getD]
      have := h i j
      rw [Hn.en_vec h1] at this
      exact this
    · rw [List.getElem?_append_right (by omega)]
      rcases Nat.lt_or_ge (j - A[i].length) A.length with hk | hk
      · rw [urow_get hk, Option.getD_some]
        split
        · exact p1
        · exact Nat.zero_le _
      · rw [List.getElem?_eq_none (by rw [urow_len]; exact hk)]; exact Nat.zero_le _
  · rw [Hn.en_out (by rw [sd_len un_len.symm]; exact hi)]; exact Nat.zero_le _
end Go.Proofs.Ytdpdnplljonppaa.VRs
