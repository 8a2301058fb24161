/- Resolved code of functions, printed by a program of ours (genfun.py); each is held against the model by chkF; The functions together; Numbers made: zint.made, zint.Of and the reference's; nat: trim, Norm, Cmp, Add; nat: Add, less, Sub; nat: less, Sub; nat.Mul; Bits of a limb, division by one limb, shifts by less than a limb; Division by one limb; shifts by less than a limb; Shifts by less than a limb; The next digit of a quotient; nat.Div: the simple cases; nat.Div, the general case; Whole numbers with a sign: zint; The reference's naturals: limb, most, Cmp, Add, less, Sub, Mul; The reference's naturals: less, Sub, Mul; The reference's naturals: Bits, Two, Shr, small; The reference's Div; The reference's whole numbers with a sign; The reference's rationals; Elimination in whole numbers: plain facts about determinants, no program in sight; Elimination without fractions stays whole: plain facts, no program in sight; Dot products; Shapes; gso.built; gso.Valid; The reference's frame. No condition. -/
import Derived.Test.YtdpdnplljonppaaZa3
import Derived.Test.YtdpdnplljonppaaProg
import Derived.KernelRfl
import Derived.Laws.Bits64
import Derived.Test.YtdpdnplljonppaaZa1

namespace Go.Proofs.Ytdpdnplljonppaa
open Go
namespace Vpi
abbrev mq (d s : Nat) : LOp := lq d (.mv (.t s))
abbrev lT (d n s : Nat) : LOp := lq d (.load true n (.t s))
abbrev lF (d n s : Nat) : LOp := lq d (.load false n (.t s))
abbrev sq (n a x : Nat) : LOp := ⟨none, none, none, .store n (.t a) (.t x)⟩
abbrev ki (z : Int) : Opd := .c (.p (.int .i64 z))
abbrev bq (d : Nat) (o : BinOp) (a b : Nat) : LOp := lq d (.bin o (.t a) (.t b))
abbrev xq (d n a b : Nat) : LOp := lq d (.indexA n (.t a) (.t b))
end Vpi
end Go.Proofs.Ytdpdnplljonppaa
namespace Go.Proofs.Ytdpdnplljonppaa.VBn
open Go Vpi
set_option maxRecDepth 100000
def f24 : RFun := ⟨(.seq (.reg [lq 2 (.box (.t 0)), lq 3 (.box (.t 1)), lq 4 (.alloc [.p (.bool false), .nils])] none)
 (.seq (.reg [lq 5 (.fieldA 0 (.t 2)), lF 6 1 5, lq 7 (.fieldA 0 (.t 3)), lF 8 1 7, lq 9 (.beq true (.t 6) (.t 8)), lq 10 (.fieldA 1 (.t 2)), lF 11 1 10, lq 12 (.fieldA 1 (.t 3)), lF 13 1 12, lq 14 (.call .pu 72 [.t 11, .t 13]), lq 15 (.call .pu 71 [.t 9, .t 14]), sq 2 4 15] (some (0, [])))
 .ret)), [.cell 4 true 2]⟩
theorem c24 : chkF Try.prog 24 f24 = true := by kernel_rfl
def f25 : RFun := ⟨(.seq (.reg [lq 2 (.alloc [.p (.bool false), .nils])] none)
 (.seq (.reg [mq 4 0, lq 5 (.conv .u64 (.t 4)), mq 3 5] none)
 (.seq (.seq (.reg [mq 6 0, lq 7 (.bin .lss (.t 6) (ki 0))] none)
 (.fg [0, 2, 3, 7] (.cond (.t 7)
 (.reg [mq 8 3, lq 9 (.un .neg (.t 8)), mq 3 9] none)
 .skip)))
 (.seq (.reg [mq 10 0, lq 11 (.bin .lss (.t 10) (ki 0)), mq 12 3, lq 13 (.conv .u32 (.t 12)), mq 14 3, lq 15 (.bin .shr (.t 14) (.c (.p (.int .u64 32)))), lq 16 (.conv .u32 (.t 15)), lq 17 (.bslice 1 [.t 13, .t 16]), lq 18 (.call .fz 71 [.t 11, .t 17]), sq 2 2 18] none)
 .ret)))), [.cell 2 true 2]⟩
theorem c25 : chkF Try.prog 25 f25 = true := by kernel_rfl
def f26 : RFun := ⟨(.seq (.reg [lq 2 (.box (.t 0)), lq 3 (.box (.t 1)), lq 4 (.alloc [.p (.bool false), .nils])] none)
 (.seq (.seq (.reg [lq 7 (.fieldA 0 (.t 2)), lF 8 1 7, lq 9 (.fieldA 0 (.t 3)), lF 10 1 9, lq 11 (.beq false (.t 8) (.t 10))] none)
 (.fg [2, 3, 4, 11] (.cond (.t 11)
 (.seq (.reg [lq 12 (.fieldA 0 (.t 2)), lF 13 1 12, lq 14 (.fieldA 1 (.t 2)), lF 15 1 14, lq 16 (.fieldA 1 (.t 3)), lF 17 1 16, lq 18 (.call .pu 73 [.t 15, .t 17]), lq 19 (.call .pu 71 [.t 13, .t 18]), sq 2 4 19] (some (0, [])))
 .ret)
 .skip)))
 (.seq (.seq (.reg [lq 20 (.fieldA 1 (.t 2)), lF 21 1 20, lq 22 (.fieldA 1 (.t 3)), lF 23 1 22, lq 24 (.call .pu 74 [.t 21, .t 23]), lq 25 (.bin .lss (.t 24) (ki 0))] none)
 (.fg [2, 3, 4, 25] (.cond (.t 25)
 (.reg [lT 26 2 3, lT 27 2 2, sq 2 2 26, sq 2 3 27] none)
 .skip)))
 (.seq (.reg [lq 29 (.fieldA 1 (.t 2)), lF 30 1 29, lq 31 (.fieldA 1 (.t 3)), lF 32 1 31, lq 33 (.call .pu 75 [.t 30, .t 32]), mq 28 33, lq 34 (.extract (.t 28) 0), lq 35 (.extract (.t 28) 1), mq 5 34, mq 6 35] none)
 (.seq (.reg [lq 36 (.fieldA 0 (.t 2)), lF 37 1 36, mq 38 5, lq 39 (.call .pu 71 [.t 37, .t 38]), sq 2 4 39] none)
 .ret))))), [.cell 4 true 2]⟩
theorem c26 : chkF Try.prog 26 f26 = true := by kernel_rfl
def f42 : RFun := ⟨(.seq (.reg [lq 2 (.mv (ki 0))] none)
 (.seq (.reg [lq 3 (.mv (ki 0))] none)
 (.seq (.seq (.reg [mq 8 0, lq 9 (.len (.t 8)), lq 10 (.mv (ki 0))] none)
 (.fg [3, 8, 9, 10] (.block 0
 (.loop (.fg [3, 8, 9, 10]
 (.seq (.reg [bq 11 .lss 10 9] none)
 (.seq (.cond (.t 11)
 .skip
 (.exit 0))
 (.fg [3, 8, 9, 10] (.seq (.block 1
 (.seq (.reg [xq 12 1 8 10, lF 13 1 12, mq 5 13] none)
 (.seq (.reg [mq 14 5, lq 15 (.len (.t 14)), lq 16 (.mv (ki 0))] none)
 (.fg [3, 8, 9, 10, 14, 15, 16] (.block 2
 (.loop (.fg [3, 8, 9, 10, 14, 15, 16]
 (.seq (.reg [bq 17 .lss 16 15] none)
 (.seq (.cond (.t 17)
 .skip
 (.exit 2))
 (.fg [3, 8, 9, 10, 14, 15, 16] (.seq (.block 3
 (.seq (.reg [xq 18 2 14 16, lT 19 2 18, lq 7 (.alloc [.p (.bool false), .nils]), sq 2 7 19] none)
 (.reg [mq 20 3, lT 21 2 7, lq 22 (.call .pu 78 [.t 21]), lq 23 (.mx (.t 20) (.t 22)), mq 3 23] none)))
 (.fg [3, 8, 9, 10, 14, 15, 16] (.reg [lq 24 (.bin .add (.t 16) (ki 1)), mq 16 24] none)))))))))))))
 (.fg [3, 8, 9, 10] (.reg [lq 25 (.bin .add (.t 10) (ki 1)), mq 10 25] none)))))))))))
 (.seq (.reg [mq 26 3, mq 2 26] none)
 .ret)))), [.t 2]⟩
theorem c42 : chkF Try.prog 42 f42 = true := by kernel_rfl
def f55 : RFun := ⟨(.seq (.reg [lq 1 (.box (.t 0)), lq 2 (.mv (ki 0))] none)
 (.seq (.block 0
 (.seq (.reg [lq 4 (.fieldA 1 (.t 1)), lF 5 1 4, lq 6 (.call .pu 109 [.t 5]), lq 7 (.bin .eql (.t 6) (ki 0)), mq 3 7] none)
 (.fg [1, 3] (.cond (.t 3)
 (.seq (.reg [lq 2 (.mv (ki 0))] none)
 .ret)
 (.seq (.reg [lq 9 (.fieldA 0 (.t 1)), lF 10 1 9, mq 8 10] none)
 (.fg [8] (.cond (.t 8)
 (.seq (.reg [lq 2 (.mv (.c (.p (.int .i64 (-1)))))] none)
 .ret)
 .skip)))))))
 (.fg [] (.seq (.reg [lq 2 (.mv (ki 1))] none)
 .ret)))), [.t 2]⟩
theorem c55 : chkF Try.prog 55 f55 = true := by kernel_rfl
def f56 : RFun := ⟨(.seq (.reg [lq 2 (.mv (ki 0)), lq 3 (.mv (ki 0)), lq 4 (.mv (ki 0))] none)
 (.seq (.seq (.reg [mq 7 0, lq 8 (.len (.t 7)), lq 9 (.bin .eql (.t 8) (ki 0))] none)
 (.fg [0, 9] (.cond (.t 9)
 (.seq (.reg [lq 2 (.mv (ki 0)), lq 3 (.mv (ki 0)), lq 4 (.mv (ki 0))] none)
 .ret)
 .skip)))
 (.seq (.seq (.reg [mq 10 0, lq 11 (.len (.t 10)), lq 12 (.mv (ki 0))] none)
 (.fg [0, 10, 11, 12] (.block 0
 (.loop (.fg [0, 10, 11, 12]
 (.seq (.reg [bq 13 .lss 12 11] none)
 (.seq (.cond (.t 13)
 .skip
 (.exit 0))
 (.fg [0, 10, 11, 12] (.seq (.block 1
 (.seq (.reg [xq 14 1 10 12, lF 15 1 14, mq 6 15] none)
 (.seq (.reg [mq 16 6, lq 17 (.len (.t 16)), mq 18 0, lq 19 (.indexA 1 (.t 18) (ki 0)), lF 20 1 19, lq 21 (.len (.t 20)), bq 22 .neq 17 21] none)
 (.fg [0, 10, 11, 12, 22] (.cond (.t 22)
 (.seq (.reg [lq 2 (.mv (ki 0)), lq 3 (.mv (ki 0)), lq 4 (.mv (ki 8))] none)
 .ret)
 .skip)))))
 (.fg [0, 10, 11, 12] (.reg [lq 23 (.bin .add (.t 12) (ki 1)), mq 12 23] none)))))))))))
 (.seq (.reg [mq 24 0, lq 25 (.len (.t 24)), mq 26 0, lq 27 (.indexA 1 (.t 26) (ki 0)), lF 28 1 27, lq 29 (.len (.t 28)), mq 2 25, mq 3 29, lq 4 (.mv (ki 0))] (some (0, [])))
 .ret)))), [.t 2, .t 3, .t 4]⟩
theorem c56 : chkF Try.prog 56 f56 = true := by kernel_rfl
def f71 : RFun := ⟨(.seq (.reg [lq 4 (.alloc [.p (.bool false), .nils])] none)
 (.seq (.reg [mq 7 1, lq 8 (.len (.t 7)), mq 5 8] none)
 (.seq (.block 0
 (.loop (.fg [0, 1, 4, 5]
 (.seq (.seq (.reg [mq 9 5, lq 10 (.bin .gtr (.t 9) (ki 0)), mq 11 10, ⟨(some 12), (some (11, true)), none, .mv (.t 1)⟩, ⟨(some 13), (some (11, true)), none, .mv (.t 5)⟩, ⟨(some 14), (some (11, true)), none, .bin .sub (.t 13) (ki 1)⟩, ⟨(some 15), (some (11, true)), none, .indexA 1 (.t 12) (.t 14)⟩, ⟨(some 16), (some (11, true)), none, .load false 1 (.t 15)⟩, ⟨(some 17), (some (11, true)), none, .bin .eql (.t 16) (.c (.p (.int .u32 0)))⟩, lq 18 (.pick (.t 11) (.t 17) (.c (.p (.bool false))))] none)
 (.fg [0, 1, 4, 5, 18] (.cond (.t 18)
 .skip
 (.exit 0))))
 (.fg [0, 1, 4, 5] (.block 1
 (.reg [mq 19 5, lq 20 (.bin .sub (.t 19) (ki 1)), mq 5 20] none)))))))
 (.fg [0, 1, 4, 5] (.seq (.seq (.reg [mq 21 5, lq 22 (.bin .eql (.t 21) (ki 0))] none)
 (.fg [0, 1, 4, 5, 22] (.cond (.t 22)
 (.seq (.reg [lq 23 (.build [.p (.bool false), .nils] []), sq 2 4 23] none)
 .ret)
 .skip)))
 (.seq (.reg [mq 24 5, lq 25 (.mks false 1 4 (.int .u32 0) (.t 24) (.t 24)), mq 6 25] none)
 (.seq (.reg [mq 26 6, mq 27 1, lq 28 (.copy 1 (.t 26) (.t 27))] none)
 (.seq (.reg [mq 29 0, mq 30 6, lq 31 (.build [.p (.bool false), .nils] [(0, 1, .t 29), (1, 1, .t 30)]), sq 2 4 31] none)
 .ret)))))))), [.cell 4 true 2]⟩
theorem c71 : chkF Try.prog 71 f71 = true := by kernel_rfl
def f72 : RFun := ⟨(.seq (.reg [lq 4 (.mv (.c (.nils)))] none)
 (.seq (.reg [mq 9 0, lq 10 (.call .pu 127 [.t 9]), mq 11 1, lq 12 (.call .pu 127 [.t 11]), mq 0 10, mq 1 12] none)
 (.seq (.reg [mq 13 0, lq 14 (.len (.t 13)), mq 15 1, lq 16 (.len (.t 15)), bq 17 .add 14 16, lq 18 (.mks false 1 4 (.int .u32 0) (.t 17) (.t 17)), mq 5 18] none)
 (.seq (.seq (.reg [mq 19 0, lq 20 (.len (.t 19)), lq 21 (.mv (ki 0))] none)
 (.fg [0, 1, 5, 20, 21] (.block 0
 (.loop (.fg [0, 1, 5, 20, 21]
 (.seq (.reg [bq 22 .lss 21 20] none)
 (.seq (.cond (.t 22)
 .skip
 (.exit 0))
 (.fg [0, 1, 5, 20, 21] (.seq (.block 1
 (.seq (.reg [mq 23 21, mq 6 23] none)
 (.seq (.reg [lq 7 (.mv (.c (.p (.int .u64 0))))] none)
 (.seq (.seq (.reg [mq 24 1, lq 25 (.len (.t 24)), lq 26 (.mv (ki 0))] none)
 (.fg [0, 1, 5, 6, 7, 20, 21, 25, 26] (.block 2
 (.loop (.fg [0, 1, 5, 6, 7, 20, 21, 25, 26]
 (.seq (.reg [bq 27 .lss 26 25] none)
 (.seq (.cond (.t 27)
 .skip
 (.exit 2))
 (.fg [0, 1, 5, 6, 7, 20, 21, 25, 26] (.seq (.block 3
 (.seq (.reg [mq 28 26, mq 8 28] none)
 (.seq (.reg [mq 29 7, mq 30 0, mq 31 6, xq 32 1 30 31, lF 33 1 32, lq 34 (.conv .u64 (.t 33)), mq 35 1, mq 36 8, xq 37 1 35 36, lF 38 1 37, lq 39 (.conv .u64 (.t 38)), bq 40 .mul 34 39, mq 41 5, mq 42 6, mq 43 8, bq 44 .add 42 43, xq 45 1 41 44, lF 46 1 45, lq 47 (.conv .u64 (.t 46)), bq 48 .add 40 47, bq 49 .add 29 48, mq 7 49] (some (0, [])))
 (.seq (.reg [mq 50 5, mq 51 6, mq 52 8, bq 53 .add 51 52, mq 54 7, lq 55 (.conv .u32 (.t 54)), xq 56 1 50 53, sq 1 56 55] none)
 (.reg [mq 57 7, lq 58 (.bin .shr (.t 57) (.c (.p (.int .u64 32)))), mq 7 58] none)))))
 (.fg [0, 1, 5, 6, 7, 20, 21, 25, 26] (.reg [lq 59 (.bin .add (.t 26) (ki 1)), mq 26 59] none)))))))))))
 (.reg [mq 60 5, mq 61 6, mq 62 1, lq 63 (.len (.t 62)), bq 64 .add 61 63, mq 65 7, lq 66 (.conv .u32 (.t 65)), xq 67 1 60 64, sq 1 67 66] none)))))
 (.fg [0, 1, 5, 20, 21] (.reg [lq 68 (.bin .add (.t 21) (ki 1)), mq 21 68] none)))))))))))
 (.seq (.reg [mq 69 5, lq 70 (.call .fz 127 [.t 69]), mq 4 70] none)
 .ret))))), [.t 4]⟩
theorem c72 : chkF Try.prog 72 f72 = true := by kernel_rfl
def f73 : RFun := ⟨(.seq (.reg [lq 4 (.mv (.c (.nils)))] none)
 (.seq (.seq (.reg [mq 8 0, lq 9 (.len (.t 8)), mq 10 1, lq 11 (.len (.t 10)), bq 12 .lss 9 11] none)
 (.fg [0, 1, 12] (.cond (.t 12)
 (.reg [mq 13 1, mq 14 0, mq 0 13, mq 1 14] none)
 .skip)))
 (.seq (.reg [mq 15 0, lq 16 (.len (.t 15)), lq 17 (.bin .add (.t 16) (ki 1)), lq 18 (.mks false 1 4 (.int .u32 0) (.t 17) (.t 17)), mq 5 18] none)
 (.seq (.reg [lq 6 (.mv (.c (.p (.int .u64 0))))] none)
 (.seq (.seq (.reg [mq 19 0, lq 20 (.len (.t 19)), lq 21 (.mv (ki 0))] none)
 (.fg [0, 1, 5, 6, 20, 21] (.block 0
 (.loop (.fg [0, 1, 5, 6, 20, 21]
 (.seq (.reg [bq 22 .lss 21 20] none)
 (.seq (.cond (.t 22)
 .skip
 (.exit 0))
 (.fg [0, 1, 5, 6, 20, 21] (.seq (.block 1
 (.seq (.reg [mq 23 21, mq 7 23] none)
 (.seq (.reg [mq 24 6, mq 25 0, mq 26 7, xq 27 1 25 26, lF 28 1 27, lq 29 (.conv .u64 (.t 28)), bq 30 .add 24 29, mq 6 30] none)
 (.seq (.seq (.reg [mq 31 7, mq 32 1, lq 33 (.len (.t 32)), bq 34 .lss 31 33] none)
 (.fg [0, 1, 5, 6, 7, 20, 21, 34] (.cond (.t 34)
 (.reg [mq 35 6, mq 36 1, mq 37 7, xq 38 1 36 37, lF 39 1 38, lq 40 (.conv .u64 (.t 39)), bq 41 .add 35 40, mq 6 41] none)
 .skip)))
 (.seq (.reg [mq 42 5, mq 43 7, mq 44 6, lq 45 (.conv .u32 (.t 44)), xq 46 1 42 43, sq 1 46 45] none)
 (.reg [mq 47 6, lq 48 (.bin .shr (.t 47) (.c (.p (.int .u64 32)))), mq 6 48] none))))))
 (.fg [0, 1, 5, 6, 20, 21] (.reg [lq 49 (.bin .add (.t 21) (ki 1)), mq 21 49] none)))))))))))
 (.seq (.reg [mq 50 5, mq 51 0, lq 52 (.len (.t 51)), mq 53 6, lq 54 (.conv .u32 (.t 53)), xq 55 1 50 52, sq 1 55 54] none)
 (.seq (.reg [mq 56 5, lq 57 (.call .fz 127 [.t 56]), mq 4 57] none)
 .ret))))))), [.t 4]⟩
theorem c73 : chkF Try.prog 73 f73 = true := by kernel_rfl
def f74 : RFun := ⟨(.seq (.reg [lq 4 (.mv (ki 0))] none)
 (.seq (.reg [mq 6 0, lq 7 (.call .pu 127 [.t 6]), mq 8 1, lq 9 (.call .pu 127 [.t 8]), mq 0 7, mq 1 9] none)
 (.seq (.seq (.reg [mq 10 0, lq 11 (.len (.t 10)), mq 12 1, lq 13 (.len (.t 12)), bq 14 .neq 11 13] none)
 (.fg [0, 1, 14] (.cond (.t 14)
 (.seq (.seq (.reg [mq 15 0, lq 16 (.len (.t 15)), mq 17 1, lq 18 (.len (.t 17)), bq 19 .lss 16 18] none)
 (.fg [19] (.cond (.t 19)
 (.seq (.reg [lq 4 (.mv (.c (.p (.int .i64 (-1)))))] none)
 .ret)
 .skip)))
 (.seq (.reg [lq 4 (.mv (ki 1))] none)
 .ret))
 .skip)))
 (.seq (.seq (.reg [mq 20 0, lq 21 (.len (.t 20)), lq 22 (.bin .sub (.t 21) (ki 1)), mq 5 22] none)
 (.fg [0, 1, 5] (.block 0
 (.loop (.fg [0, 1, 5]
 (.seq (.seq (.reg [mq 23 5, lq 24 (.bin .geq (.t 23) (ki 0))] none)
 (.fg [0, 1, 5, 24] (.cond (.t 24)
 .skip
 (.exit 0))))
 (.seq (.block 1
 (.seq (.reg [mq 27 0, mq 28 5, xq 29 1 27 28, lF 30 1 29, mq 31 1, mq 32 5, xq 33 1 31 32, lF 34 1 33, bq 35 .neq 30 34] (some (0, [])))
 (.fg [0, 1, 5, 35] (.cond (.t 35)
 (.seq (.seq (.reg [mq 36 0, mq 37 5, xq 38 1 36 37, lF 39 1 38, mq 40 1, mq 41 5, xq 42 1 40 41, lF 43 1 42, bq 44 .lss 39 43] (some (0, [])))
 (.fg [44] (.cond (.t 44)
 (.seq (.reg [lq 4 (.mv (.c (.p (.int .i64 (-1)))))] none)
 .ret)
 .skip)))
 (.seq (.reg [lq 4 (.mv (ki 1))] none)
 .ret))
 .skip))))
 (.fg [0, 1, 5] (.reg [mq 25 5, lq 26 (.bin .sub (.t 25) (ki 1)), mq 5 26] none)))))))))
 (.seq (.reg [lq 4 (.mv (ki 0))] none)
 .ret))))), [.t 4]⟩
theorem c74 : chkF Try.prog 74 f74 = true := by kernel_rfl
def f75 : RFun := ⟨(.seq (.reg [lq 4 (.mv (.c (.nils))), lq 5 (.mv (ki 0))] none)
 (.seq (.seq (.reg [mq 6 0, mq 7 1, lq 8 (.call .pu 74 [.t 6, .t 7]), lq 9 (.bin .lss (.t 8) (ki 0))] none)
 (.fg [0, 1, 9] (.cond (.t 9)
 (.seq (.reg [lq 4 (.mv (.c (.nils))), lq 5 (.mv (ki 10))] none)
 .ret)
 .skip)))
 (.seq (.reg [mq 10 0, lq 11 (.call .pu 127 [.t 10]), mq 12 1, lq 13 (.call .pu 127 [.t 12]), lq 14 (.call .pu 128 [.t 11, .t 13]), mq 4 14, lq 5 (.mv (ki 0))] none)
 .ret))), [.t 4, .t 5]⟩
theorem c75 : chkF Try.prog 75 f75 = true := by kernel_rfl
def f78 : RFun := ⟨(.seq (.reg [lq 1 (.box (.t 0)), lq 2 (.mv (ki 0))] none)
 (.seq (.reg [lq 3 (.fieldA 1 (.t 1)), lF 4 1 3, lq 5 (.call .pu 109 [.t 4]), mq 2 5] none)
 .ret)), [.t 2]⟩
theorem c78 : chkF Try.prog 78 f78 = true := by kernel_rfl
def f109 : RFun := ⟨(.seq (.reg [lq 2 (.mv (ki 0))] none)
 (.seq (.reg [mq 3 0, lq 4 (.call .pu 127 [.t 3]), mq 0 4] none)
 (.seq (.seq (.reg [mq 5 0, lq 6 (.len (.t 5)), lq 7 (.bin .eql (.t 6) (ki 0))] none)
 (.fg [0, 7] (.cond (.t 7)
 (.seq (.reg [lq 2 (.mv (ki 0))] none)
 .ret)
 .skip)))
 (.seq (.reg [mq 8 0, lq 9 (.len (.t 8)), lq 10 (.bin .sub (.t 9) (ki 1)), lq 11 (.bin .mul (ki 32) (.t 10)), mq 12 0, mq 13 0, lq 14 (.len (.t 13)), lq 15 (.bin .sub (.t 14) (ki 1)), xq 16 1 12 15, lF 17 1 16, lq 18 (.call .pu 145 [.t 17]), bq 19 .add 11 18, mq 2 19] none)
 .ret)))), [.t 2]⟩
theorem c109 : chkF Try.prog 109 f109 = true := by kernel_rfl
def f112 : RFun := ⟨(.seq (.reg [lq 2 (.box (.t 0)), lq 3 (.box (.t 1)), lq 4 (.alloc [.p (.bool false), .nils]), lq 5 (.alloc [.p (.bool false), .nils]), lq 6 (.mv (ki 0))] none)
 (.seq (.reg [lq 13 (.fieldA 1 (.t 2)), lF 14 1 13, lq 15 (.fieldA 1 (.t 3)), lF 16 1 15, lq 17 (.call .pu 147 [.t 14, .t 16]), mq 12 17, lq 18 (.extract (.t 12) 0), lq 19 (.extract (.t 12) 1), lq 20 (.extract (.t 12) 2), mq 7 18, mq 8 19, mq 9 20] none)
 (.seq (.seq (.reg [mq 21 9, lq 22 (.bin .neq (.t 21) (ki 0))] none)
 (.fg [2, 3, 4, 5, 7, 8, 22] (.cond (.t 22)
 (.seq (.reg [lq 23 (.build [.p (.bool false), .nils] []), lq 24 (.build [.p (.bool false), .nils] []), sq 2 4 23, sq 2 5 24, lq 6 (.mv (ki 11))] none)
 .ret)
 .skip)))
 (.seq (.reg [lq 25 (.fieldA 0 (.t 2)), lF 26 1 25, lq 27 (.fieldA 0 (.t 3)), lF 28 1 27, lq 29 (.beq true (.t 26) (.t 28)), mq 30 7, lq 31 (.call .pu 71 [.t 29, .t 30]), lq 32 (.fieldA 0 (.t 2)), lF 33 1 32, mq 34 8, lq 35 (.call .pu 71 [.t 33, .t 34]), ⟨(some 10), none, (some 0), .alloc [.p (.bool false), .nils]⟩, ⟨(some 11), none, (some 1), .alloc [.p (.bool false), .nils]⟩, sq 2 10 31, sq 2 11 35] (some (2, [])))
 (.seq (.seq (.reg [lT 36 2 11, lq 37 (.call .pu 55 [.t 36]), lq 38 (.bin .neq (.t 37) (ki 0)), mq 39 38, ⟨(some 40), (some (39, true)), none, .load true 2 (.t 11)⟩, ⟨(some 41), (some (39, true)), none, .call .pu 55 [.t 40]⟩, ⟨(some 42), (some (39, true)), none, .load true 2 (.t 3)⟩, ⟨(some 43), (some (39, true)), none, .call .pu 55 [.t 42]⟩, ⟨(some 44), (some (39, true)), none, .bin .neq (.t 41) (.t 43)⟩, lq 45 (.pick (.t 39) (.t 44) (.c (.p (.bool false))))] (some (0, [])))
 (.fg [3, 4, 5, 10, 11, 45] (.cond (.t 45)
 (.reg [lT 46 2 10, lq 47 (.call .pu 25 [.c (.p (.int .i64 1))]), lq 48 (.call .pu 137 [.t 46, .t 47]), lT 49 2 11, lT 50 2 3, lq 51 (.call .pu 26 [.t 49, .t 50]), sq 2 10 48, sq 2 11 51] (some (0, [])))
 .skip)))
 (.seq (.reg [lT 52 2 10, lT 53 2 11, sq 2 4 52, sq 2 5 53, lq 6 (.mv (ki 0))] (some (0, [(1, 2)])))
 .ret)))))), [.cell 4 true 2, .cell 5 true 2, .t 6]⟩
theorem c112 : chkF Try.prog 112 f112 = true := by kernel_rfl
def f127 : RFun := ⟨(.seq (.reg [lq 2 (.mv (.c (.nils)))] none)
 (.seq (.block 0
 (.loop (.fg [0]
 (.seq (.seq (.reg [mq 3 0, lq 4 (.len (.t 3)), lq 5 (.bin .gtr (.t 4) (ki 0)), mq 6 5, ⟨(some 7), (some (6, true)), none, .mv (.t 0)⟩, ⟨(some 8), (some (6, true)), none, .mv (.t 0)⟩, ⟨(some 9), (some (6, true)), none, .len (.t 8)⟩, ⟨(some 10), (some (6, true)), none, .bin .sub (.t 9) (ki 1)⟩, ⟨(some 11), (some (6, true)), none, .indexA 1 (.t 7) (.t 10)⟩, ⟨(some 12), (some (6, true)), none, .load false 1 (.t 11)⟩, ⟨(some 13), (some (6, true)), none, .bin .eql (.t 12) (.c (.p (.int .u32 0)))⟩, lq 14 (.pick (.t 6) (.t 13) (.c (.p (.bool false))))] none)
 (.fg [0, 14] (.cond (.t 14)
 .skip
 (.exit 0))))
 (.fg [0] (.block 1
 (.reg [mq 15 0, mq 16 0, lq 17 (.len (.t 16)), lq 18 (.bin .sub (.t 17) (ki 1)), lq 19 (.slice 1 (.t 15) none (some (.t 18)) none), mq 0 19] none)))))))
 (.fg [0] (.seq (.reg [mq 20 0, mq 2 20] none)
 .ret)))), [.t 2]⟩
theorem c127 : chkF Try.prog 127 f127 = true := by kernel_rfl
def f128 : RFun := ⟨(.seq (.reg [lq 4 (.mv (.c (.nils)))] none)
 (.seq (.reg [mq 9 0, lq 10 (.len (.t 9)), lq 11 (.mks false 1 4 (.int .u32 0) (.t 10) (.t 10)), mq 5 11] none)
 (.seq (.reg [lq 6 (.mv (.c (.p (.int .u64 0))))] none)
 (.seq (.seq (.reg [mq 12 0, lq 13 (.len (.t 12)), lq 14 (.mv (ki 0))] none)
 (.fg [0, 1, 5, 6, 13, 14] (.block 0
 (.loop (.fg [0, 1, 5, 6, 13, 14]
 (.seq (.reg [bq 15 .lss 14 13] none)
 (.seq (.cond (.t 15)
 .skip
 (.exit 0))
 (.fg [0, 1, 5, 6, 13, 14] (.seq (.block 1
 (.seq (.reg [mq 16 14, mq 7 16] none)
 (.seq (.reg [mq 17 0, mq 18 7, xq 19 1 17 18, lF 20 1 19, lq 21 (.conv .u64 (.t 20)), mq 22 6, bq 23 .sub 21 22, mq 8 23] none)
 (.seq (.seq (.reg [mq 24 7, mq 25 1, lq 26 (.len (.t 25)), bq 27 .lss 24 26] none)
 (.fg [0, 1, 5, 7, 8, 13, 14, 27] (.cond (.t 27)
 (.reg [mq 28 8, mq 29 1, mq 30 7, xq 31 1 29 30, lF 32 1 31, lq 33 (.conv .u64 (.t 32)), bq 34 .sub 28 33, mq 8 34] none)
 .skip)))
 (.seq (.reg [mq 35 5, mq 36 7, mq 37 8, lq 38 (.conv .u32 (.t 37)), xq 39 1 35 36, sq 1 39 38] none)
 (.reg [mq 40 8, lq 41 (.bin .shr (.t 40) (.c (.p (.int .u64 63)))), mq 6 41] none))))))
 (.fg [0, 1, 5, 6, 13, 14] (.reg [lq 42 (.bin .add (.t 14) (ki 1)), mq 14 42] none)))))))))))
 (.seq (.reg [mq 43 5, lq 44 (.call .fz 127 [.t 43]), mq 4 44] none)
 .ret))))), [.t 4]⟩
theorem c128 : chkF Try.prog 128 f128 = true := by kernel_rfl
def f131 : RFun := ⟨(.seq (.reg [lq 1 (.box (.t 0)), lq 2 (.alloc [.p (.bool false), .nils])] none)
 (.seq (.reg [lq 3 (.fieldA 0 (.t 1)), lF 4 1 3, lq 5 (.un .not (.t 4)), lq 6 (.fieldA 1 (.t 1)), lF 7 1 6, lq 8 (.call .pu 71 [.t 5, .t 7]), sq 2 2 8] none)
 .ret)), [.cell 2 true 2]⟩
theorem c131 : chkF Try.prog 131 f131 = true := by kernel_rfl
def f134 : RFun := ⟨(.seq (.reg [lq 4 (.mv (ki 0))] none)
 (.seq (.reg [mq 11 0, lq 12 (.len (.t 11)), lq 13 (.bin .gtr (.t 12) (ki 12)), mq 14 13, ⟨(some 15), (some (14, false)), none, .mv (.t 1)⟩, ⟨(some 16), (some (14, false)), none, .mv (.t 15)⟩, ⟨(some 17), (some (16, true)), none, .mv (.t 0)⟩, ⟨(some 18), (some (16, true)), none, .call .pu 42 [.t 17]⟩, ⟨(some 19), (some (16, true)), none, .bin .gtr (.t 18) (ki 256)⟩, ⟨(some 20), (some (14, false)), none, .pick (.t 16) (.t 19) (.c (.p (.bool false)))⟩, lq 21 (.pick (.t 14) (.c (.p (.bool true))) (.t 20)), mq 5 21] none)
 (.seq (.seq (.reg [mq 22 0, lq 23 (.len (.t 22)), lq 24 (.mv (ki 0))] none)
 (.fg [0, 5, 22, 23, 24] (.block 0
 (.loop (.fg [0, 5, 22, 23, 24]
 (.seq (.reg [bq 25 .lss 24 23] none)
 (.seq (.cond (.t 25)
 .skip
 (.exit 0))
 (.fg [0, 5, 22, 23, 24] (.seq (.block 1
 (.seq (.reg [xq 26 1 22 24, lF 27 1 26, mq 7 27] none)
 (.reg [mq 28 5, mq 29 28, ⟨(some 30), (some (29, false)), none, .mv (.t 7)⟩, ⟨(some 31), (some (29, false)), none, .len (.t 30)⟩, ⟨(some 32), (some (29, false)), none, .bin .gtr (.t 31) (ki 12)⟩, lq 33 (.pick (.t 29) (.c (.p (.bool true))) (.t 32)), mq 5 33] none)))
 (.fg [0, 5, 22, 23, 24] (.reg [lq 34 (.bin .add (.t 24) (ki 1)), mq 24 34] none)))))))))))
 (.seq (.seq (.reg [mq 35 5] none)
 (.fg [0, 35] (.cond (.t 35)
 (.seq (.reg [lq 4 (.mv (ki 40))] none)
 .ret)
 .skip)))
 (.seq (.seq (.reg [mq 36 0, lq 37 (.len (.t 36)), lq 38 (.bin .eql (.t 37) (ki 0))] none)
 (.fg [0, 38] (.cond (.t 38)
 (.seq (.reg [lq 4 (.mv (ki 41))] none)
 .ret)
 .skip)))
 (.seq (.reg [mq 40 0, lq 41 (.call .pu 56 [.t 40]), mq 39 41, lq 42 (.extract (.t 39) 0), lq 43 (.extract (.t 39) 1), lq 44 (.extract (.t 39) 2), mq 8 42, mq 9 43, mq 10 44] none)
 (.seq (.reg [mq 45 10, mq 4 45] none)
 .ret))))))), [.t 4]⟩
theorem c134 : chkF Try.prog 134 f134 = true := by kernel_rfl
def f137 : RFun := ⟨(.seq (.reg [lq 2 (.box (.t 0)), lq 3 (.box (.t 1)), lq 4 (.alloc [.p (.bool false), .nils])] none)
 (.seq (.reg [lT 5 2 2, lT 6 2 3, lq 7 (.call .pu 131 [.t 6]), lq 8 (.call .pu 26 [.t 5, .t 7]), sq 2 4 8] (some (0, [])))
 .ret)), [.cell 4 true 2]⟩
theorem c137 : chkF Try.prog 137 f137 = true := by kernel_rfl
def f145 : RFun := ⟨(.seq (.reg [lq 2 (.mv (ki 0))] none)
 (.seq (.seq (.reg [mq 3 0, lq 4 (.bin .geq (.t 3) (.c (.p (.int .u32 65536))))] none)
 (.fg [0, 2, 4] (.cond (.t 4)
 (.seq (.reg [mq 5 0, lq 6 (.bin .shr (.t 5) (.c (.p (.int .u64 16)))), mq 0 6] none)
 (.reg [lq 2 (.mv (ki 16))] none))
 .skip)))
 (.seq (.seq (.reg [mq 7 0, lq 8 (.bin .geq (.t 7) (.c (.p (.int .u32 256))))] none)
 (.fg [0, 2, 8] (.cond (.t 8)
 (.seq (.reg [mq 9 0, lq 10 (.bin .shr (.t 9) (.c (.p (.int .u64 8)))), mq 0 10] none)
 (.reg [mq 11 2, lq 12 (.bin .add (.t 11) (ki 8)), mq 2 12] none))
 .skip)))
 (.seq (.reg [mq 13 2, mq 14 0, lq 15 (.conv .u8 (.t 14)), lq 16 (.idx [0, 1, 2, 2, 3, 3, 3, 3, 4, 4, 4, 4, 4, 4, 4, 4, 5, 5, 5, 5, 5, 5, 5, 5, 5, 5, 5, 5, 5, 5, 5, 5, 6, 6, 6, 6, 6, 6, 6, 6, 6, 6, 6, 6, 6, 6, 6, 6, 6, 6, 6, 6, 6, 6, 6, 6, 6, 6, 6, 6, 6, 6, 6, 6, 7, 7, 7, 7, 7, 7, 7, 7, 7, 7, 7, 7, 7, 7, 7, 7, 7, 7, 7, 7, 7, 7, 7, 7, 7, 7, 7, 7, 7, 7, 7, 7, 7, 7, 7, 7, 7, 7, 7, 7, 7, 7, 7, 7, 7, 7, 7, 7, 7, 7, 7, 7, 7, 7, 7, 7, 7, 7, 7, 7, 7, 7, 7, 7, 8, 8, 8, 8, 8, 8, 8, 8, 8, 8, 8, 8, 8, 8, 8, 8, 8, 8, 8, 8, 8, 8, 8, 8, 8, 8, 8, 8, 8, 8, 8, 8, 8, 8, 8, 8, 8, 8, 8, 8, 8, 8, 8, 8, 8, 8, 8, 8, 8, 8, 8, 8, 8, 8, 8, 8, 8, 8, 8, 8, 8, 8, 8, 8, 8, 8, 8, 8, 8, 8, 8, 8, 8, 8, 8, 8, 8, 8, 8, 8, 8, 8, 8, 8, 8, 8, 8, 8, 8, 8, 8, 8, 8, 8, 8, 8, 8, 8, 8, 8, 8, 8, 8, 8, 8, 8, 8, 8, 8, 8, 8, 8, 8, 8, 8, 8, 8, 8, 8, 8, 8, 8, 8, 8, 8, 8, 8, 8] (.t 15)), lq 17 (.conv .i64 (.t 16)), bq 18 .add 13 17, mq 2 18] none)
 .ret)))), [.t 2]⟩
theorem c145 : chkF Try.prog 145 f145 = true := by kernel_rfl
def f146 : RFun := ⟨(.seq (.reg [lq 2 (.mv (.c (.nils)))] none)
 (.seq (.reg [mq 3 0, lq 4 (.call .pu 127 [.t 3]), lq 5 (.append 1 4 (.c (.nils)) (.t 4)), mq 2 5] none)
 .ret)), [.t 2]⟩
theorem c146 : chkF Try.prog 146 f146 = true := by kernel_rfl
def f147 : RFun := ⟨(.seq (.reg [lq 4 (.mv (.c (.nils))), lq 5 (.mv (.c (.nils))), lq 6 (.mv (ki 0))] none)
 (.seq (.reg [mq 14 0, lq 15 (.call .pu 127 [.t 14]), mq 16 1, lq 17 (.call .pu 127 [.t 16]), mq 0 15, mq 1 17] none)
 (.seq (.block 0
 (.seq (.reg [mq 19 1, lq 20 (.len (.t 19)), lq 21 (.bin .eql (.t 20) (ki 0)), mq 18 21] none)
 (.fg [0, 1, 18] (.cond (.t 18)
 (.seq (.reg [lq 4 (.mv (.c (.nils))), lq 5 (.mv (.c (.nils))), lq 6 (.mv (ki 11))] none)
 .ret)
 (.seq (.reg [mq 23 0, mq 24 1, lq 25 (.call .pu 74 [.t 23, .t 24]), lq 26 (.bin .lss (.t 25) (ki 0)), mq 22 26] none)
 (.fg [0, 1, 22] (.cond (.t 22)
 (.seq (.reg [mq 27 0, lq 28 (.call .pu 146 [.t 27]), lq 4 (.mv (.c (.nils))), mq 5 28, lq 6 (.mv (ki 0))] none)
 .ret)
 (.seq (.reg [mq 30 1, lq 31 (.len (.t 30)), lq 32 (.bin .eql (.t 31) (ki 1)), mq 29 32] none)
 (.fg [0, 1, 29] (.cond (.t 29)
 (.seq (.reg [mq 34 0, mq 35 1, lq 36 (.indexA 1 (.t 35) (ki 0)), lF 37 1 36, lq 38 (.call .pu 181 [.t 34, .t 37]), mq 33 38, lq 39 (.extract (.t 33) 0), lq 40 (.extract (.t 33) 1), mq 7 39, mq 8 40] none)
 (.seq (.reg [mq 41 7, mq 42 8, lq 43 (.bslice 1 [.t 42]), lq 44 (.call .fz 127 [.t 43]), mq 4 41, mq 5 44, lq 6 (.mv (ki 0))] none)
 .ret))
 .skip))))))))))
 (.fg [0, 1] (.seq (.reg [mq 45 1, mq 46 1, lq 47 (.len (.t 46)), lq 48 (.bin .sub (.t 47) (ki 1)), xq 49 1 45 48, lF 50 1 49, lq 51 (.call .pu 182 [.t 50]), mq 9 51] none)
 (.seq (.reg [mq 52 1, mq 53 9, lq 54 (.call .pu 183 [.t 52, .t 53]), mq 10 54] none)
 (.seq (.reg [mq 55 0, mq 56 9, lq 57 (.call .keep 183 [.t 55, .t 56]), lq 58 (.bslice 1 [.c (.p (.int .u32 0)), .c (.p (.int .u32 0))]), lq 59 (.append 1 4 (.t 57) (.t 58)), mq 60 0, lq 61 (.len (.t 60)), lq 62 (.bin .add (.t 61) (ki 1)), lq 63 (.slice 1 (.t 59) none (some (.t 62)) none), mq 11 63] none)
 (.seq (.reg [mq 64 0, lq 65 (.len (.t 64)), mq 66 1, lq 67 (.len (.t 66)), bq 68 .sub 65 67, lq 69 (.bin .add (.t 68) (ki 1)), lq 70 (.mks false 1 4 (.int .u32 0) (.t 69) (.t 69)), mq 12 70] none)
 (.seq (.seq (.reg [mq 71 0, lq 72 (.len (.t 71)), mq 73 1, lq 74 (.len (.t 73)), bq 75 .sub 72 74, mq 13 75] none)
 (.fg [9, 10, 11, 12, 13] (.block 1
 (.loop (.fg [9, 10, 11, 12, 13]
 (.seq (.seq (.reg [mq 76 13, lq 77 (.bin .geq (.t 76) (ki 0))] none)
 (.fg [9, 10, 11, 12, 13, 77] (.cond (.t 77)
 .skip
 (.exit 1))))
 (.seq (.block 2
 (.reg [mq 80 12, mq 81 13, mq 82 11, mq 83 13, mq 84 13, mq 85 10, lq 86 (.len (.t 85)), bq 87 .add 84 86, lq 88 (.bin .add (.t 87) (ki 1)), lq 89 (.slice 1 (.t 82) (some (.t 83)) (some (.t 88)) none), mq 90 10, lq 91 (.call .full 184 [.t 89, .t 90]), xq 92 1 80 81, sq 1 92 91] none))
 (.fg [9, 10, 11, 12, 13] (.reg [mq 78 13, lq 79 (.bin .sub (.t 78) (ki 1)), mq 13 79] none)))))))))
 (.seq (.reg [mq 93 12, lq 94 (.call .fz 127 [.t 93]), mq 95 11, lq 96 (.call .fz 127 [.t 95]), mq 97 9, lq 98 (.call .pu 185 [.t 96, .t 97]), mq 4 94, mq 5 98, lq 6 (.mv (ki 0))] none)
 .ret)))))))))), [.t 4, .t 5, .t 6]⟩
theorem c147 : chkF Try.prog 147 f147 = true := by kernel_rfl
def f181 : RFun := ⟨(.seq (.reg [lq 4 (.mv (.c (.nils))), lq 5 (.mv (.c (.p (.int .u32 0))))] none)
 (.seq (.reg [mq 9 0, lq 10 (.len (.t 9)), lq 11 (.mks false 1 4 (.int .u32 0) (.t 10) (.t 10)), mq 6 11] none)
 (.seq (.reg [lq 7 (.mv (.c (.p (.int .u64 0))))] none)
 (.seq (.seq (.reg [mq 12 0, lq 13 (.len (.t 12)), lq 14 (.bin .sub (.t 13) (ki 1)), mq 8 14] none)
 (.fg [0, 1, 6, 7, 8] (.block 0
 (.loop (.fg [0, 1, 6, 7, 8]
 (.seq (.seq (.reg [mq 15 8, lq 16 (.bin .geq (.t 15) (ki 0))] none)
 (.fg [0, 1, 6, 7, 8, 16] (.cond (.t 16)
 .skip
 (.exit 0))))
 (.seq (.block 1
 (.seq (.reg [mq 19 7, lq 20 (.bin .shl (.t 19) (.c (.p (.int .u64 32)))), mq 21 0, mq 22 8, xq 23 1 21 22, lF 24 1 23, lq 25 (.conv .u64 (.t 24)), bq 26 .or 20 25, mq 7 26] none)
 (.seq (.reg [mq 27 6, mq 28 8, mq 29 7, mq 30 1, lq 31 (.conv .u64 (.t 30)), bq 32 .quo 29 31, lq 33 (.conv .u32 (.t 32)), xq 34 1 27 28, sq 1 34 33] none)
 (.reg [mq 35 7, mq 36 1, lq 37 (.conv .u64 (.t 36)), bq 38 .rem 35 37, mq 7 38] none))))
 (.fg [0, 1, 6, 7, 8] (.reg [mq 17 8, lq 18 (.bin .sub (.t 17) (ki 1)), mq 8 18] none)))))))))
 (.seq (.reg [mq 39 6, lq 40 (.call .fz 127 [.t 39]), mq 41 7, lq 42 (.conv .u32 (.t 41)), mq 4 40, mq 5 42] none)
 .ret))))), [.t 4, .t 5]⟩
theorem c181 : chkF Try.prog 181 f181 = true := by kernel_rfl
def f182 : RFun := ⟨(.seq (.reg [lq 2 (.mv (ki 0))] none)
 (.seq (.reg [mq 3 0, lq 4 (.call .pu 145 [.t 3]), lq 5 (.bin .sub (ki 32) (.t 4)), mq 2 5] none)
 .ret)), [.t 2]⟩
theorem c182 : chkF Try.prog 182 f182 = true := by kernel_rfl
def f183 : RFun := ⟨(.seq (.reg [lq 4 (.mv (.c (.nils)))] none)
 (.seq (.reg [mq 10 0, lq 11 (.call .pu 127 [.t 10]), mq 0 11] none)
 (.seq (.seq (.reg [mq 12 0, lq 13 (.len (.t 12)), lq 14 (.bin .eql (.t 13) (ki 0))] none)
 (.fg [0, 1, 14] (.cond (.t 14)
 (.seq (.reg [lq 4 (.mv (.c (.nils)))] none)
 .ret)
 .skip)))
 (.seq (.reg [mq 15 1, lq 16 (.bin .quo (.t 15) (ki 32)), mq 17 1, lq 18 (.bin .rem (.t 17) (ki 32)), lq 19 (.conv .u64 (.t 18)), mq 5 16, mq 6 19] none)
 (.seq (.reg [mq 20 0, lq 21 (.len (.t 20)), mq 22 5, bq 23 .add 21 22, lq 24 (.bin .add (.t 23) (ki 1)), lq 25 (.mks false 1 4 (.int .u32 0) (.t 24) (.t 24)), mq 7 25] none)
 (.seq (.seq (.reg [mq 26 0, lq 27 (.len (.t 26)), lq 28 (.mv (ki 0))] none)
 (.fg [0, 5, 6, 7, 27, 28] (.block 0
 (.loop (.fg [0, 5, 6, 7, 27, 28]
 (.seq (.reg [bq 29 .lss 28 27] none)
 (.seq (.cond (.t 29)
 .skip
 (.exit 0))
 (.fg [0, 5, 6, 7, 27, 28] (.seq (.block 1
 (.seq (.reg [mq 30 28, mq 8 30] none)
 (.seq (.reg [mq 31 0, mq 32 8, xq 33 1 31 32, lF 34 1 33, lq 35 (.conv .u64 (.t 34)), mq 36 6, bq 37 .shl 35 36, mq 9 37] none)
 (.seq (.reg [mq 38 7, mq 39 8, mq 40 5, bq 41 .add 39 40, xq 42 1 38 41, lF 43 1 42, mq 44 9, lq 45 (.conv .u32 (.t 44)), bq 46 .or 43 45, xq 47 1 38 41, sq 1 47 46] none)
 (.reg [mq 48 7, mq 49 8, mq 50 5, bq 51 .add 49 50, lq 52 (.bin .add (.t 51) (ki 1)), mq 53 9, lq 54 (.bin .shr (.t 53) (.c (.p (.int .u64 32)))), lq 55 (.conv .u32 (.t 54)), xq 56 1 48 52, sq 1 56 55] none)))))
 (.fg [0, 5, 6, 7, 27, 28] (.reg [lq 57 (.bin .add (.t 28) (ki 1)), mq 28 57] none)))))))))))
 (.seq (.reg [mq 58 7, lq 59 (.call .keep 127 [.t 58]), mq 4 59] none)
 .ret))))))), [.t 4]⟩
theorem c183 : chkF Try.prog 183 f183 = true := by kernel_rfl
def f184 : RFun := ⟨(.seq (.reg [lq 4 (.mv (.c (.p (.int .u32 0))))] none)
 (.seq (.reg [mq 15 1, lq 16 (.len (.t 15)), mq 5 16] none)
 (.seq (.reg [mq 17 0, mq 18 5, xq 19 1 17 18, lF 20 1 19, lq 21 (.conv .u64 (.t 20)), lq 22 (.bin .shl (.t 21) (.c (.p (.int .u64 32)))), mq 23 0, mq 24 5, lq 25 (.bin .sub (.t 24) (ki 1)), xq 26 1 23 25, lF 27 1 26, lq 28 (.conv .u64 (.t 27)), bq 29 .or 22 28, mq 6 29] (some (0, [])))
 (.seq (.reg [mq 30 6, mq 31 1, mq 32 5, lq 33 (.bin .sub (.t 32) (ki 1)), xq 34 1 31 33, lF 35 1 34, lq 36 (.conv .u64 (.t 35)), bq 37 .quo 30 36, lq 38 (.mn (.t 37) (.c (.p (.int .u64 4294967295)))), mq 7 38] none)
 (.seq (.reg [lq 8 (.mv (.c (.p (.int .u64 0)))), lq 9 (.mv (.c (.p (.int .u64 0))))] none)
 (.seq (.seq (.reg [mq 39 5, lq 40 (.bin .add (.t 39) (ki 1)), lq 41 (.mv (ki 0))] none)
 (.fg [0, 1, 5, 7, 8, 9, 40, 41] (.block 0
 (.loop (.fg [0, 1, 5, 7, 8, 9, 40, 41]
 (.seq (.reg [bq 42 .lss 41 40] none)
 (.seq (.cond (.t 42)
 .skip
 (.exit 0))
 (.fg [0, 1, 5, 7, 8, 9, 40, 41] (.seq (.block 1
 (.seq (.reg [mq 43 41, mq 10 43] none)
 (.seq (.reg [mq 44 8, mq 11 44] none)
 (.seq (.seq (.reg [mq 45 10, mq 46 5, bq 47 .lss 45 46] none)
 (.fg [0, 1, 5, 7, 9, 10, 11, 40, 41, 47] (.cond (.t 47)
 (.reg [mq 48 11, mq 49 7, mq 50 1, mq 51 10, xq 52 1 50 51, lF 53 1 52, lq 54 (.conv .u64 (.t 53)), bq 55 .mul 49 54, bq 56 .add 48 55, mq 11 56] none)
 .skip)))
 (.seq (.reg [mq 57 11, lq 58 (.bin .shr (.t 57) (.c (.p (.int .u64 32)))), mq 8 58] none)
 (.seq (.reg [mq 59 0, mq 60 10, xq 61 1 59 60, lF 62 1 61, lq 63 (.conv .u64 (.t 62)), mq 64 11, lq 65 (.conv .u32 (.t 64)), lq 66 (.conv .u64 (.t 65)), bq 67 .sub 63 66, mq 68 9, bq 69 .sub 67 68, mq 12 69] none)
 (.seq (.reg [mq 70 0, mq 71 10, mq 72 12, lq 73 (.conv .u32 (.t 72)), xq 74 1 70 71, sq 1 74 73] none)
 (.reg [mq 75 12, lq 76 (.bin .shr (.t 75) (.c (.p (.int .u64 63)))), mq 9 76] none))))))))
 (.fg [0, 1, 5, 7, 8, 9, 40, 41] (.reg [lq 77 (.bin .add (.t 41) (ki 1)), mq 41 77] none)))))))))))
 (.seq (.block 2
 (.loop (.fg [0, 1, 5, 7, 9]
 (.seq (.seq (.reg [mq 78 9, lq 79 (.bin .gtr (.t 78) (.c (.p (.int .u64 0))))] none)
 (.fg [0, 1, 5, 7, 9, 79] (.cond (.t 79)
 .skip
 (.exit 2))))
 (.fg [0, 1, 5, 7, 9] (.block 3
 (.seq (.reg [mq 80 7, lq 81 (.bin .sub (.t 80) (.c (.p (.int .u64 1)))), mq 7 81] none)
 (.seq (.reg [lq 13 (.mv (.c (.p (.int .u64 0))))] none)
 (.seq (.seq (.reg [mq 82 5, lq 83 (.bin .add (.t 82) (ki 1)), lq 84 (.mv (ki 0))] none)
 (.fg [0, 1, 5, 7, 9, 13, 83, 84] (.block 4
 (.loop (.fg [0, 1, 5, 7, 9, 13, 83, 84]
 (.seq (.reg [bq 85 .lss 84 83] none)
 (.seq (.cond (.t 85)
 .skip
 (.exit 4))
 (.fg [0, 1, 5, 7, 9, 13, 83, 84] (.seq (.block 5
 (.seq (.reg [mq 86 84, mq 14 86] none)
 (.seq (.reg [mq 87 13, mq 88 0, mq 89 14, xq 90 1 88 89, lF 91 1 90, lq 92 (.conv .u64 (.t 91)), bq 93 .add 87 92, mq 13 93] none)
 (.seq (.seq (.reg [mq 94 14, mq 95 5, bq 96 .lss 94 95] none)
 (.fg [0, 1, 5, 7, 9, 13, 14, 83, 84, 96] (.cond (.t 96)
 (.reg [mq 97 13, mq 98 1, mq 99 14, xq 100 1 98 99, lF 101 1 100, lq 102 (.conv .u64 (.t 101)), bq 103 .add 97 102, mq 13 103] none)
 .skip)))
 (.seq (.reg [mq 104 0, mq 105 14, mq 106 13, lq 107 (.conv .u32 (.t 106)), xq 108 1 104 105, sq 1 108 107] none)
 (.reg [mq 109 13, lq 110 (.bin .shr (.t 109) (.c (.p (.int .u64 32)))), mq 13 110] none))))))
 (.fg [0, 1, 5, 7, 9, 13, 83, 84] (.reg [lq 111 (.bin .add (.t 84) (ki 1)), mq 84 111] none)))))))))))
 (.reg [mq 112 9, mq 113 13, bq 114 .sub 112 113, mq 9 114] none))))))))))
 (.fg [7] (.seq (.reg [mq 115 7, lq 116 (.conv .u32 (.t 115)), mq 4 116] none)
 .ret))))))))), [.t 4]⟩
theorem c184 : chkF Try.prog 184 f184 = true := by kernel_rfl
def f185 : RFun := ⟨(.seq (.reg [lq 4 (.mv (.c (.nils)))] none)
 (.seq (.reg [mq 10 0, lq 11 (.call .pu 127 [.t 10]), mq 0 11] none)
 (.seq (.reg [mq 12 1, lq 13 (.bin .quo (.t 12) (ki 32)), mq 14 1, lq 15 (.bin .rem (.t 14) (ki 32)), lq 16 (.conv .u64 (.t 15)), mq 5 13, mq 6 16] none)
 (.seq (.seq (.reg [mq 17 5, mq 18 0, lq 19 (.len (.t 18)), bq 20 .geq 17 19] none)
 (.fg [0, 5, 6, 20] (.cond (.t 20)
 (.seq (.reg [lq 4 (.mv (.c (.nils)))] none)
 .ret)
 .skip)))
 (.seq (.reg [mq 21 0, lq 22 (.len (.t 21)), mq 23 5, bq 24 .sub 22 23, lq 25 (.mks false 1 4 (.int .u32 0) (.t 24) (.t 24)), mq 7 25] none)
 (.seq (.seq (.reg [mq 26 7, lq 27 (.len (.t 26)), lq 28 (.mv (ki 0))] none)
 (.fg [0, 5, 6, 7, 27, 28] (.block 0
 (.loop (.fg [0, 5, 6, 7, 27, 28]
 (.seq (.reg [bq 29 .lss 28 27] none)
 (.seq (.cond (.t 29)
 .skip
 (.exit 0))
 (.fg [0, 5, 6, 7, 27, 28] (.seq (.block 1
 (.seq (.reg [mq 30 28, mq 8 30] none)
 (.seq (.reg [mq 31 0, mq 32 8, mq 33 5, bq 34 .add 32 33, xq 35 1 31 34, lF 36 1 35, lq 37 (.conv .u64 (.t 36)), mq 9 37] none)
 (.seq (.seq (.reg [mq 38 8, mq 39 5, bq 40 .add 38 39, lq 41 (.bin .add (.t 40) (ki 1)), mq 42 0, lq 43 (.len (.t 42)), bq 44 .lss 41 43] none)
 (.fg [0, 5, 6, 7, 8, 9, 27, 28, 44] (.cond (.t 44)
 (.reg [mq 45 9, mq 46 0, mq 47 8, mq 48 5, bq 49 .add 47 48, lq 50 (.bin .add (.t 49) (ki 1)), xq 51 1 46 50, lF 52 1 51, lq 53 (.conv .u64 (.t 52)), lq 54 (.bin .shl (.t 53) (.c (.p (.int .u64 32)))), bq 55 .or 45 54, mq 9 55] none)
 .skip)))
 (.reg [mq 56 7, mq 57 8, mq 58 9, mq 59 6, bq 60 .shr 58 59, lq 61 (.conv .u32 (.t 60)), xq 62 1 56 57, sq 1 62 61] none)))))
 (.fg [0, 5, 6, 7, 27, 28] (.reg [lq 63 (.bin .add (.t 28) (ki 1)), mq 28 63] none)))))))))))
 (.seq (.reg [mq 64 7, lq 65 (.call .fz 127 [.t 64]), mq 4 65] none)
 .ret))))))), [.t 4]⟩
theorem c185 : chkF Try.prog 185 f185 = true := by kernel_rfl
end Go.Proofs.Ytdpdnplljonppaa.VBn

namespace Go.Proofs.Ytdpdnplljonppaa.VBn
open Go Vpi
set_option maxRecDepth 100000
def tab : List (Nat × RFun) := [(24, f24), (25, f25), (26, f26), (42, f42), (55, f55), (56, f56), (71, f71), (72, f72), (73, f73), (74, f74), (75, f75), (78, f78), (109, f109), (112, f112), (127, f127), (128, f128), (131, f131), (134, f134), (137, f137), (145, f145), (146, f146), (147, f147), (181, f181), (182, f182), (183, f183), (184, f184), (185, f185)]
def rp : RProg := fun f => (tab.find? fun x => x.1 == f).map (·.2)
theorem all_ok : (tab.all fun x => chkF Try.prog x.1 x.2) = true := by
  simp only [tab, List.all_cons, List.all_nil, c24, c25, c26, c42, c55, c56, c71, c72, c73, c74, c75, c78, c109, c112, c127, c128, c131, c134, c137, c145, c146, c147, c181, c182, c183, c184, c185, Bool.and_self]
theorem rp_ok : ∀ f rf, rp f = some rf → chkF Try.prog f rf = true := by
  intro f rf h
  unfold rp at h
  rw [Option.map_eq_some_iff] at h
  obtain ⟨x, hx, rfl⟩ := h
  have h1 := List.find?_some hx
  have h2 := List.mem_of_find?_eq_some hx
  have h3 := List.all_eq_true.1 all_ok x h2
  have h4 : x.1 = f := by simpa using h1
  rw [← h4]; exact h3
theorem mixed : Try.prog.follows .mixedOrders = true := by kernel_rfl
theorem sim (m : Nat) : CallSim Try.prog (runF rp m) := callSim mixed rp_ok m
end Go.Proofs.Ytdpdnplljonppaa.VBn

namespace Go.Proofs.Ytdpdnplljonppaa.VBn
open Go Vpi
set_option maxRecDepth 100000
set_option linter.unusedSimpArgs false
set_option linter.unusedVariables false
theorem rp105 : rp 71 = some f71 := rfl
theorem rp54 : rp 25 = some f25 := rfl
theorem p105 {neg : Bool} {l : List Nat} (hl : Lim l) (hn : l.length ≤ 1099511627776) : Pu rp 71 [.bool neg, .sl (lm l)] (.p (mk neg (val l))) := by
  refine pu_of rp105 ?_
  simp only [f71, args0, SA, setCells, Int.reduceLE, Int.reduceLT, ↓reduceIte, reduceCtorEq, Nat.reduceLT, Nat.reduceEqDiff, Nat.reduceAdd, Nat.reduceMul, Nat.reduceLeDiff, Nat.reduceBEq, lm_len]
  refine bloop (β := Nat) (γ := Nat) (fun n => ([(0, .p (.bool neg)), (1, .p (.sl (lm l))), (4, .ptr 0 0 0), (5, i64 n)], [.kblk 2 [.p (.bool false), .nils]])) (fun n => n ≤ l.length ∧ ∀ i, n ≤ i → ∀ x, l[i]? = some x → x = 0) (fun n => n)
    (fun n => ([(0, .p (.bool neg)), (1, .p (.sl (lm l))), (4, .ptr 0 0 0), (5, i64 n)], [.kblk 2 [.p (.bool false), .nils]])) (fun n => n ≤ l.length ∧ trimL l = l.take n) l.length rfl rfl ⟨Nat.le_refl _, fun i hi x hx => ?_⟩ ?_ ?_
  · rw [List.getElem?_eq_none hi] at hx; cases hx
  · rintro ks' n ⟨hnl, hz⟩ ih hx
    by_cases h0 : (n : Int) > 0
    · obtain ⟨m, rfl⟩ : ∃ m, n = m + 1 := ⟨n - 1, by omega⟩
      have hm : m < l.length := hnl
      have hi : IntKind.i64.wrap (((m + 1 : Nat) : Int) - 1) = (m : Int) := by rw [IntWalk.i64_in _ (by omega)]; omega
      have hg := lm_get hm
      by_cases hx0 : l[m] = 0
      · have e1 : (((l[m] : Nat) : Int) == 0) = true := by simp [hx0]
        simp only [SA, setCells, Int.reduceLE, Int.reduceLT, ↓reduceIte, reduceCtorEq, Nat.reduceLT, Nat.reduceEqDiff, Nat.reduceAdd, Nat.reduceMul, Nat.reduceLeDiff, Nat.reduceBEq, h0, hi, Int.natCast_nonneg, Int.toNat_natCast, hg, e1]
        refine ih m _ ⟨by omega, fun i hi x hx => ?_⟩ (by omega) ?_
        · rcases Nat.lt_or_ge m i with h1 | h1
          · exact hz i h1 x hx
          · obtain rfl : i = m := by omega
            rw [List.getElem?_eq_getElem hm] at hx
            cases hx
            exact hx0
        · rfl
      · have e1 : (((l[m] : Nat) : Int) == 0) = false := by simp [hx0]
        simp only [SA, setCells, Int.reduceLE, Int.reduceLT, ↓reduceIte, reduceCtorEq, Nat.reduceLT, Nat.reduceEqDiff, Nat.reduceAdd, Nat.reduceMul, Nat.reduceLeDiff, Nat.reduceBEq, h0, hi, Int.natCast_nonneg, Int.toNat_natCast, hg, e1]
        refine hx (m + 1) _ ⟨hnl, trimL_take hz (.inr ⟨l[m], by simp, hx0⟩)⟩ ?_
        rfl
    · simp only [SA, setCells, Int.reduceLE, Int.reduceLT, ↓reduceIte, reduceCtorEq, Nat.reduceLT, Nat.reduceEqDiff, Nat.reduceAdd, Nat.reduceMul, Nat.reduceLeDiff, Nat.reduceBEq, h0]
      obtain rfl : n = 0 := by omega
      refine hx 0 _ ⟨Nat.zero_le _, trimL_take hz (.inl rfl)⟩ ?_
      rfl
  · rintro n ⟨hnl, ht⟩
    have hd : dgl (val l) = l.take n := by rw [← trimL_dgl hl, ht]
    by_cases h0 : n = 0
    · subst h0
      have hv : val l = 0 := by rw [← val_dgl (val l), hd]; rfl
      simp only [SA, setCells, Int.reduceLE, Int.reduceLT, ↓reduceIte, reduceCtorEq, Nat.reduceLT, Nat.reduceEqDiff, Nat.reduceAdd, Nat.reduceMul, Nat.reduceLeDiff, Nat.reduceBEq]
      rw [mk, hv, dgl_zero]
      simp
      rfl
    · have e1 : ((n : Int) == 0) = false := by simp; omega
      have e2 : ((4 : Nat) : Int) * (n : Int) ≤ 281474976710656 := by omega
      have e3 : (n : Int) ≤ 9223372036854775807 := by omega
      have hv : val l ≠ 0 := by intro h; rw [h, dgl_zero] at hd; have := congrArg List.length hd; rw [List.length_take] at this; simp at this; omega
      simp only [SA, setCells, Int.reduceLE, Int.reduceLT, ↓reduceIte, reduceCtorEq, Nat.reduceLT, Nat.reduceEqDiff, Nat.reduceAdd, Nat.reduceMul, Nat.reduceLeDiff, Nat.reduceBEq, e1, e2, e3, Int.natCast_nonneg, Int.toNat_natCast, Int.le_refl, lm_sz, List.length_replicate]
      have hln : (dgl (val l)).length = n := by rw [hd, List.length_take]; omega
      have hl1 : (List.take n (lm l)).length = n := by rw [List.length_take, lm_len]; omega
      rw [hl1, List.drop_of_length_le (by simp), List.append_nil, lm_take, ← hd]
      have hf : frz1 [.kblk 2 [.p (.bool neg), .own 1 0 n], .prow 1 (lm (dgl (val l)))] (.own 1 0 n) = some (.sl (lm (dgl (val l)))) := frz1_own (s := 1) rfl (by rw [lm_len, hln])
      simp only [back, back1, frz, frzL, hf, Option.map_some, frz1_p]
      simp [mk, hv]
theorem two_lm {v : Nat} : [PV.int .u32 ((v % LB : Nat) : Int), PV.int .u32 ((v / LB : Nat) : Int)] = lm [v % LB, v / LB] := rfl
theorem zi_nonneg {x : Int} (h : 0 ≤ x) : zi x = mk false x.toNat := by
  obtain ⟨n, rfl⟩ := Int.eq_ofNat_of_zero_le h
  simp [zi, mk]
  omega
theorem zi_neg {x : Int} (h : x < 0) : zi x = mk true x.natAbs := by
  simp [zi, mk, h]
theorem two_words {v : Nat} (h : v < LB * LB) : IntKind.u32.wrap (v : Int) = ((v % LB : Nat) : Int) ∧ IntKind.u32.wrap ((v : Int).fdiv (2 ^ min (Int.toNat 32) IntKind.u64.bits)) = ((v / LB : Nat) : Int) := by
  have h1 : ((2 : Int) ^ min (Int.toNat 32) IntKind.u64.bits) = 4294967296 := by decide
  rw [h1, IntKind.wrap_u32, IntKind.wrap_u32, Int.fdiv_eq_ediv_of_nonneg _ (by decide)]
  unfold LB at h ⊢
  omega
theorem p54 {x : Int} (h : -9223372036854775808 ≤ x) (h' : x ≤ 9223372036854775807) : Pu rp 25 [.int .i64 x] (.p (zi x)) := by
  refine pu_of rp54 ?_
  by_cases h0 : x < 0
  · have e1 : IntKind.u64.wrap (0 - IntKind.u64.wrap x) = ((x.natAbs : Nat) : Int) := by rw [IntKind.wrap_u64, IntKind.wrap_u64]; omega
    have hlt : x.natAbs < LB * LB := by unfold LB; omega
    have hw := two_words hlt
    have hp := p105 (neg := true) (lim_two hlt) (by simp)
    rw [val_two hlt] at hp
    simp only [f25, args0, SA, setCells, Int.reduceLE, Int.reduceLT, ↓reduceIte, reduceCtorEq, Nat.reduceLT, Nat.reduceEqDiff, Nat.reduceAdd, Nat.reduceMul, Nat.reduceLeDiff, Nat.reduceBEq, h0, e1, hw.1, hw.2, two_lm, lm_sz, kf_p_own hp]
    rw [zi_neg h0]
    rfl
  · have e1 : IntKind.u64.wrap x = ((x.toNat : Nat) : Int) := by rw [IntKind.wrap_u64]; omega
    have hlt : x.toNat < LB * LB := by unfold LB; omega
    have hw := two_words hlt
    have hp := p105 (neg := false) (lim_two hlt) (by simp)
    rw [val_two hlt] at hp
    simp only [f25, args0, SA, setCells, Int.reduceLE, Int.reduceLT, ↓reduceIte, reduceCtorEq, Nat.reduceLT, Nat.reduceEqDiff, Nat.reduceAdd, Nat.reduceMul, Nat.reduceLeDiff, Nat.reduceBEq, h0, e1, hw.1, hw.2, two_lm, lm_sz, kf_p_own hp]
    rw [zi_nonneg (by omega)]
    rfl
end Go.Proofs.Ytdpdnplljonppaa.VBn

namespace Go.Proofs.Ytdpdnplljonppaa.VBn
open Go Vpi
set_option maxRecDepth 100000
set_option linter.unusedSimpArgs false
set_option linter.unusedVariables false
theorem rp144 : rp 127 = some f127 := rfl
theorem rp158 : rp 146 = some f146 := rfl
theorem rp177 : rp 74 = some f74 := rfl
theorem rp176 : rp 73 = some f73 := rfl
theorem sliceV_take {σ : Store} {sz h : Nat} {es : List PV} (hh : h ≤ es.length) : sliceV σ sz (.p (.sl es)) 0 h = some (.p (.sl (es.take h))) := by
  simp [sliceV, hh]
theorem p144 {l : List Nat} (hl : Lim l) (hn : l.length ≤ 1099511627776) : Pu rp 127 [.sl (lm l)] (.p (.sl (lm (dgl (val l))))) := by
  refine pu_of rp144 ?_
  simp only [f127, args0, SA, setCells, Int.reduceLE, Int.reduceLT, ↓reduceIte, reduceCtorEq, Nat.reduceLT, Nat.reduceEqDiff, Nat.reduceAdd, Nat.reduceMul, Nat.reduceLeDiff, Nat.reduceBEq]
  refine bloop (β := Nat) (γ := Nat) (fun n => ([(0, .p (.sl (lm (l.take n))))], [])) (fun n => n ≤ l.length ∧ ∀ i, n ≤ i → ∀ x, l[i]? = some x → x = 0) (fun n => n)
    (fun n => ([(0, .p (.sl (lm (l.take n))))], [])) (fun n => n ≤ l.length ∧ trimL l = l.take n) l.length (by rw [List.take_length]; rfl) rfl ⟨Nat.le_refl _, fun i hi x hx => ?_⟩ ?_ ?_
  · rw [List.getElem?_eq_none hi] at hx; cases hx
  · rintro ks' n ⟨hnl, hz⟩ ih hx
    have hlen : (lm (l.take n)).length = n := by rw [lm_len, List.length_take]; omega
    by_cases h0 : (n : Int) > 0
    · obtain ⟨m, rfl⟩ : ∃ m, n = m + 1 := ⟨n - 1, by omega⟩
      have hm : m < l.length := hnl
      have hi : IntKind.i64.wrap (((m + 1 : Nat) : Int) - 1) = (m : Int) := by rw [IntWalk.i64_in _ (by omega)]; omega
      have hg : (lm (l.take (m + 1)))[m]? = some (.int .u32 (l[m] : Nat)) := lm_get? (by rw [List.getElem?_take_of_lt (by omega)]; simp)
      by_cases hx0 : l[m] = 0
      · have e1 : (((l[m] : Nat) : Int) == 0) = true := by simp [hx0]
        have hs : sliceV [] 1 (.p (.sl (lm (l.take (m + 1))))) 0 m = some (.p (.sl (lm (l.take m)))) := by
          rw [sliceV_take (by rw [hlen]; omega), lm_take, List.take_take, Nat.min_eq_left (by omega)]
        simp only [SA, setCells, Int.reduceLE, Int.reduceLT, ↓reduceIte, reduceCtorEq, Nat.reduceLT, Nat.reduceEqDiff, Nat.reduceAdd, Nat.reduceMul, Nat.reduceLeDiff, Nat.reduceBEq, hlen, h0, hi, Int.natCast_nonneg, Int.toNat_natCast, hg, e1, hs]
        refine ih m _ ⟨by omega, fun i hi x hx => ?_⟩ (by omega) ?_
        · rcases Nat.lt_or_ge m i with h1 | h1
          · exact hz i h1 x hx
          · obtain rfl : i = m := by omega
            rw [List.getElem?_eq_getElem hm] at hx
            cases hx
            exact hx0
        · rfl
      · have e1 : (((l[m] : Nat) : Int) == 0) = false := by simp [hx0]
        simp only [SA, setCells, Int.reduceLE, Int.reduceLT, ↓reduceIte, reduceCtorEq, Nat.reduceLT, Nat.reduceEqDiff, Nat.reduceAdd, Nat.reduceMul, Nat.reduceLeDiff, Nat.reduceBEq, hlen, h0, hi, Int.natCast_nonneg, Int.toNat_natCast, hg, e1]
        refine hx (m + 1) _ ⟨hnl, trimL_take hz (.inr ⟨l[m], by simp, hx0⟩)⟩ ?_
        rfl
    · simp only [SA, setCells, Int.reduceLE, Int.reduceLT, ↓reduceIte, reduceCtorEq, Nat.reduceLT, Nat.reduceEqDiff, Nat.reduceAdd, Nat.reduceMul, Nat.reduceLeDiff, Nat.reduceBEq, hlen, h0]
      obtain rfl : n = 0 := by omega
      refine hx 0 _ ⟨Nat.zero_le _, trimL_take hz (.inl rfl)⟩ ?_
      rfl
  · rintro n ⟨hnl, ht⟩
    simp only [SA, setCells, Int.reduceLE, Int.reduceLT, ↓reduceIte, reduceCtorEq, Nat.reduceLT, Nat.reduceEqDiff, Nat.reduceAdd, Nat.reduceMul, Nat.reduceLeDiff, Nat.reduceBEq]
    rw [← trimL_dgl hl, ht]
    rfl
theorem p158 {l : List Nat} (hl : Lim l) (hn : l.length ≤ 1099511627776) : Pu rp 146 [.sl (lm l)] (.p (.sl (lm (dgl (val l))))) := by
  refine pu_of rp158 ?_
  have hd : (dgl (val l)).length ≤ l.length := dgl_len (val_lt hl)
  have hc : (dgl (val l)).length * 4 ≤ 140737488355328 := by omega
  simp only [f146, args0, SA, setCells, Int.reduceLE, Int.reduceLT, ↓reduceIte, reduceCtorEq, Nat.reduceLT, Nat.reduceEqDiff, Nat.reduceAdd, Nat.reduceMul, Nat.reduceLeDiff, Nat.reduceBEq, kp1 (p144 hl hn), r_append, lm_len, hc, lm_sz]
  have hf : frz1 [.prow 1 (lm (dgl (val l)))] (.own 0 0 (dgl (val l)).length) = some (.sl (lm (dgl (val l)))) := frz1_own (s := 1) rfl (by rw [lm_len])
  simp only [back, back1, Nat.not_lt_zero, if_false, hf, Option.map_some]
def cmpI (x y : Nat) : Int := if x < y then -1 else if x = y then 0 else 1
theorem p177 {a b : List Nat} (ha : Lim a) (hb : Lim b) (hna : a.length ≤ 1099511627776) (hnb : b.length ≤ 1099511627776) : Pu rp 74 [.sl (lm a), .sl (lm b)] (.p (.int .i64 (cmpI (val a) (val b)))) := by
  refine pu_of rp177 ?_
  have hda : (dgl (val a)).length ≤ a.length := dgl_len (val_lt ha)
  have hdb : (dgl (val b)).length ≤ b.length := dgl_len (val_lt hb)
  by_cases h1 : (dgl (val a)).length = (dgl (val b)).length
  · have e1 : (((dgl (val a)).length : Int) != ((dgl (val b)).length : Int)) = false := by simp [h1]
    have w1 : IntKind.i64.wrap (((dgl (val a)).length : Int) - 1) = ((dgl (val a)).length : Int) - 1 := IntWalk.i64_in _ (by omega)
    simp only [f74, args0, SA, setCells, Int.reduceLE, Int.reduceLT, ↓reduceIte, reduceCtorEq, Nat.reduceLT, Nat.reduceEqDiff, Nat.reduceAdd, Nat.reduceMul, Nat.reduceLeDiff, Nat.reduceBEq, kp1 (p144 ha hna), kp1 (p144 hb hnb), lm_len, e1, w1]
    refine loop_rule (β := Nat) (fun n => ([(0, .p (.sl (lm (dgl (val a))))), (1, .p (.sl (lm (dgl (val b))))), (5, i64 ((n : Int) - 1))], []))
      (fun n => n ≤ (dgl (val a)).length ∧ val ((dgl (val a)).drop n) = val ((dgl (val b)).drop n)) (fun n => n) (dgl (val a)).length rfl rfl ⟨Nat.le_refl _, by rw [List.drop_length, h1, List.drop_length]⟩ ?_
    rintro n ⟨hn, hd⟩ ih
    by_cases h0 : ((n : Int) - 1) ≥ 0
    · obtain ⟨m, rfl⟩ : ∃ m, n = m + 1 := ⟨n - 1, by omega⟩
      have hm : m < (dgl (val a)).length := hn
      have hm' : m < (dgl (val b)).length := by omega
      have hi : ((m + 1 : Nat) : Int) - 1 = (m : Int) := by omega
      rw [hi] at h0
      have hw : IntKind.i64.wrap ((m : Int) - 1) = (m : Int) - 1 := IntWalk.i64_in _ (by omega)
      by_cases heq : (dgl (val a))[m] = (dgl (val b))[m]
      · have e2 : ((((dgl (val a))[m] : Nat) : Int) != (((dgl (val b))[m] : Nat) : Int)) = false := by simp [heq]
        simp only [SA, setCells, Int.reduceLE, Int.reduceLT, ↓reduceIte, reduceCtorEq, Nat.reduceLT, Nat.reduceEqDiff, Nat.reduceAdd, Nat.reduceMul, Nat.reduceLeDiff, Nat.reduceBEq, hi, h0, Int.natCast_nonneg, Int.toNat_natCast, lm_get hm, lm_get hm', e2, hw]
        refine ih m _ ⟨by omega, ?_⟩ (by omega) ?_
        · rw [List.drop_eq_getElem_cons hm, List.drop_eq_getElem_cons hm', val, val, heq, hd]
        · rfl
      · have e2 : ((((dgl (val a))[m] : Nat) : Int) != (((dgl (val b))[m] : Nat) : Int)) = true := by simp; omega
        by_cases hlt : (dgl (val a))[m] < (dgl (val b))[m]
        · have e3 : (((dgl (val a))[m] : Nat) : Int) < (((dgl (val b))[m] : Nat) : Int) := by omega
          simp only [SA, setCells, Int.reduceLE, Int.reduceLT, ↓reduceIte, reduceCtorEq, Nat.reduceLT, Nat.reduceEqDiff, Nat.reduceAdd, Nat.reduceMul, Nat.reduceLeDiff, Nat.reduceBEq, hi, h0, Int.natCast_nonneg, Int.toNat_natCast, lm_get hm, lm_get hm', e2, e3]
          have := val_lt_top (dgl_lim (val a)) hm hm' hd hlt
          rw [val_dgl, val_dgl] at this
          rw [cmpI, if_pos this]
          rfl
        · have e3 : ¬ (((dgl (val a))[m] : Nat) : Int) < (((dgl (val b))[m] : Nat) : Int) := by omega
          simp only [SA, setCells, Int.reduceLE, Int.reduceLT, ↓reduceIte, reduceCtorEq, Nat.reduceLT, Nat.reduceEqDiff, Nat.reduceAdd, Nat.reduceMul, Nat.reduceLeDiff, Nat.reduceBEq, hi, h0, Int.natCast_nonneg, Int.toNat_natCast, lm_get hm, lm_get hm', e2, e3]
          have := val_lt_top (dgl_lim (val b)) hm' hm hd.symm (by omega)
          rw [val_dgl, val_dgl] at this
          rw [cmpI, if_neg (by omega), if_neg (by omega)]
          rfl
    · obtain rfl : n = 0 := by omega
      have h0' : ¬ (((0 : Nat) : Int) - 1 ≥ 0) := by omega
      simp only [SA, setCells, Int.reduceLE, Int.reduceLT, ↓reduceIte, reduceCtorEq, Nat.reduceLT, Nat.reduceEqDiff, Nat.reduceAdd, Nat.reduceMul, Nat.reduceLeDiff, Nat.reduceBEq, h0']
      simp only [List.drop_zero, val_dgl] at hd
      rw [cmpI, if_neg (by omega), if_pos hd]
      rfl
  · have e1 : (((dgl (val a)).length : Int) != ((dgl (val b)).length : Int)) = true := by simp; omega
    by_cases h2 : (dgl (val a)).length < (dgl (val b)).length
    · have e2 : ((dgl (val a)).length : Int) < ((dgl (val b)).length : Int) := by omega
      simp only [f74, args0, SA, setCells, Int.reduceLE, Int.reduceLT, ↓reduceIte, reduceCtorEq, Nat.reduceLT, Nat.reduceEqDiff, Nat.reduceAdd, Nat.reduceMul, Nat.reduceLeDiff, Nat.reduceBEq, kp1 (p144 ha hna), kp1 (p144 hb hnb), lm_len, e1, e2]
      rw [cmpI, if_pos (dgl_lt_len h2)]
      rfl
    · have e2 : ¬ ((dgl (val a)).length : Int) < ((dgl (val b)).length : Int) := by omega
      simp only [f74, args0, SA, setCells, Int.reduceLE, Int.reduceLT, ↓reduceIte, reduceCtorEq, Nat.reduceLT, Nat.reduceEqDiff, Nat.reduceAdd, Nat.reduceMul, Nat.reduceLeDiff, Nat.reduceBEq, kp1 (p144 ha hna), kp1 (p144 hb hnb), lm_len, e1, e2]
      have := dgl_lt_len (x := val b) (y := val a) (by omega)
      rw [cmpI, if_neg (by omega), if_neg (by omega)]
      rfl
end Go.Proofs.Ytdpdnplljonppaa.VBn

namespace Go.Proofs.Ytdpdnplljonppaa.VBn
open Go Vpi
set_option maxRecDepth 100000
set_option linter.unusedSimpArgs false
set_option linter.unusedVariables false
theorem rp201 : rp 128 = some f128 := rfl
theorem rp178 : rp 75 = some f75 := rfl
def lg (l : List Nat) (i : Nat) : Nat := l[i]?.getD 0
theorem lg_lt {l : List Nat} (h : Lim l) {i : Nat} : lg l i < LB := by
  unfold lg
  rcases Nat.lt_or_ge i l.length with h1 | h1
  · rw [List.getElem?_eq_getElem h1]; exact h.get h1
  · rw [List.getElem?_eq_none h1]; exact LB_pos
theorem lg_in {l : List Nat} {i : Nat} (h : i < l.length) : lg l i = l[i] := by unfold lg; rw [List.getElem?_eq_getElem h]; rfl
theorem lg_out {l : List Nat} {i : Nat} (h : l.length ≤ i) : lg l i = 0 := by unfold lg; rw [List.getElem?_eq_none h]; rfl
theorem val_take_lg {l : List Nat} {i : Nat} : val (l.take (i + 1)) = val (l.take i) + LB ^ i * lg l i := by
  rcases Nat.lt_or_ge i l.length with h1 | h1
  · rw [val_take_succ h1, lg_in h1]
  · rw [lg_out h1, List.take_of_length_le (by omega), List.take_of_length_le h1]; omega
theorem addStep {o : List Nat} {A B c x y i : Nat} (ho : o.length = i) (h : val o + LB ^ i * c = A + B) : val (o ++ [(c + x + y) % LB]) + LB ^ (i + 1) * ((c + x + y) / LB) = A + LB ^ i * x + (B + LB ^ i * y) := by
  rw [val_append, ho, val_one, Nat.pow_succ]
  have h1 := Nat.mod_add_div (c + x + y) LB
  have h2 : LB ^ i * ((c + x + y) % LB) + LB ^ i * LB * ((c + x + y) / LB) = LB ^ i * (c + x + y) := by
    rw [Nat.mul_assoc, ← Nat.mul_add, h1]
  rw [Nat.mul_add, Nat.mul_add] at h2
  omega
theorem carry1 {c x y : Nat} (hc : c ≤ 1) (hx : x < LB) (hy : y < LB) : (c + x + y) / LB ≤ 1 ∧ c + x + y < 18446744073709551616 ∧ c + x < 18446744073709551616 := by
  unfold LB at *
  omega
theorem p176a {a b : List Nat} (ha : Lim a) (hb : Lim b) (hle : b.length ≤ a.length) (hna : a.length ≤ 1099511627775) {x y : List Nat} (hxy : (x = a ∧ y = b) ∨ (x = b ∧ y = a ∧ b.length < a.length)) :
    Pu rp 73 [.sl (lm x), .sl (lm y)] (.p (.sl (lm (dgl (val a + val b))))) := by
  refine pu_of rp176 ?_
  have w1 : IntKind.i64.wrap ((a.length : Int) + 1) = ((a.length + 1 : Nat) : Int) := by rw [IntWalk.i64_in _ (by omega)]; omega
  have m1 : ((4 : Nat) : Int) * ((a.length + 1 : Nat) : Int) ≤ 281474976710656 := by omega
  have m2 : ((a.length + 1 : Nat) : Int) ≤ 9223372036854775807 := by omega
  rcases hxy with ⟨hx, hy⟩ | ⟨hx, hy, hlt⟩ <;> rw [hx, hy]
  · have e1 : ¬ (a.length : Int) < b.length := by omega
    simp only [f73, args0, SA, setCells, Int.reduceLE, Int.reduceLT, ↓reduceIte, reduceCtorEq, Nat.reduceLT, Nat.reduceEqDiff, Nat.reduceAdd, Nat.reduceMul, Nat.reduceLeDiff, Nat.reduceBEq, lm_len, e1, w1, m1, m2, Int.natCast_nonneg, Int.toNat_natCast, Int.le_refl, lm_rep]
    refine loop_rule (β := Nat × List Nat × Nat) (fun t => ([(0, .p (.sl (lm a))), (1, .p (.sl (lm b))), (5, .own 0 0 (a.length + 1)), (6, .p (.int .u64 (t.2.2 : Int))), (20, i64 a.length), (21, i64 t.1)], [.prow 1 (lm (t.2.1 ++ List.replicate (a.length + 1 - t.1) 0))]))
      (fun t => t.1 ≤ a.length ∧ t.2.1.length = t.1 ∧ Lim t.2.1 ∧ val t.2.1 + LB ^ t.1 * t.2.2 = val (a.take t.1) + val (b.take t.1) ∧ t.2.2 ≤ 1) (fun t => a.length - t.1) ((0, [], 0) : Nat × List Nat × Nat) rfl rfl ⟨Nat.zero_le _, rfl, (fun _ hx => nomatch hx), rfl, Nat.zero_le _⟩ ?_
    rintro ⟨i, o, c⟩ ⟨hi, ho, hlo, hv, hc⟩ ih
    simp only [] at hi ho hlo hv hc ih ⊢
    have hget : (lm (o ++ List.replicate (a.length + 1 - i) 0))[i]? = some (.int .u32 0) := by
      have : (o ++ List.replicate (a.length + 1 - i) 0)[i]? = some 0 := by rw [show a.length + 1 - i = (a.length - i) + 1 by omega, List.getElem?_append_right (by omega), ho, Nat.sub_self]; rfl
      exact lm_get? this
    have hset : ∀ v, (o ++ List.replicate (a.length + 1 - i) 0).set i v = o ++ v :: List.replicate (a.length - i) 0 := by
      intro v
      rw [show a.length + 1 - i = (a.length - i) + 1 by omega, ← ho, set_next, List.append_assoc]
      rfl
    have hfold : ∀ v, o ++ v :: List.replicate (a.length - i) 0 = (o ++ [v]) ++ List.replicate (a.length + 1 - (i + 1)) 0 := by
      intro v
      rw [List.append_assoc, Nat.add_sub_add_right]
      rfl
    by_cases hin : (i : Int) < a.length
    · have hia : i < a.length := by omega
      have hil : i < a.length + 1 := by omega
      obtain ⟨k1, k2, k3⟩ := carry1 hc (ha.get hia) (lg_lt hb (i := i))
      have hst := addStep (x := a[i]) (y := lg b i) ho hv
      have hta := val_take_lg (l := a) (i := i)
      have htb := val_take_lg (l := b) (i := i)
      rw [lg_in hia] at hta
      rw [← hta, ← htb] at hst
      have hlen : (o ++ [(c + a[i] + lg b i) % LB]).length = i + 1 := by simp [ho]
      have hlim : Lim (o ++ [(c + a[i] + lg b i) % LB]) := hlo.append (.one (Nat.mod_lt _ LB_pos))
      by_cases hib : (i : Int) < b.length
      · have hib' : i < b.length := by omega
        rw [lg_in hib'] at hst k1 k2 hlen hlim
        simp only [SA, setCells, Int.reduceLE, Int.reduceLT, ↓reduceIte, reduceCtorEq, Nat.reduceLT, Nat.reduceEqDiff, Nat.reduceAdd, Nat.reduceMul, Nat.reduceLeDiff, Nat.reduceBEq, lm_len, hin, hib, lm_get hia, lm_get hib', w64l (ha.get hia), w64l (hb.get hib'), w64s k3, w64s k2, w32, sh32, Int.natCast_nonneg, Int.toNat_natCast, hil, hget, lm_set, hset, IntWalk.i64_in ((i : Int) + 1) (by omega)]
        rw [hfold]
        refine ih (i + 1, o ++ [(c + a[i] + b[i]) % LB], (c + a[i] + b[i]) / LB) _ ⟨by omega, hlen, hlim, hst, k1⟩ (by simp; omega) ?_
        rfl
      · rw [lg_out (by omega), Nat.add_zero] at hst k1 k2 hlen hlim
        simp only [SA, setCells, Int.reduceLE, Int.reduceLT, ↓reduceIte, reduceCtorEq, Nat.reduceLT, Nat.reduceEqDiff, Nat.reduceAdd, Nat.reduceMul, Nat.reduceLeDiff, Nat.reduceBEq, lm_len, hin, hib, lm_get hia, w64l (ha.get hia), w64s k3, w32, sh32, Int.natCast_nonneg, Int.toNat_natCast, hil, hget, lm_set, hset, IntWalk.i64_in ((i : Int) + 1) (by omega)]
        rw [hfold]
        refine ih (i + 1, o ++ [(c + a[i]) % LB], (c + a[i]) / LB) _ ⟨by omega, hlen, hlim, hst, k1⟩ (by simp; omega) ?_
        rfl
    · have hia : i = a.length := by omega
      have hil : a.length < a.length + 1 := Nat.lt_succ_self _
      subst hia
      have hcl : c % LB = c := Nat.mod_eq_of_lt (by unfold LB; omega)
      have hfin : o ++ c :: List.replicate (a.length - a.length) 0 = o ++ [c] := by simp
      have hval : val (o ++ [c]) = val a + val b := by
        rw [val_append, val_one, ho, hv, List.take_length, List.take_of_length_le hle]
      have hlim : Lim (o ++ [c]) := hlo.append (.one (by unfold LB; omega))
      have htr := p144 hlim (by simp; omega)
      rw [hval] at htr
      simp only [SA, setCells, Int.reduceLE, Int.reduceLT, ↓reduceIte, reduceCtorEq, Nat.reduceLT, Nat.reduceEqDiff, Nat.reduceAdd, Nat.reduceMul, Nat.reduceLeDiff, Nat.reduceBEq, lm_len, hin, w32, hcl, Int.natCast_nonneg, Int.toNat_natCast, hil, hget, lm_set, hset]
      rw [hfin, kf_own htr rfl (by rw [lm_len]; simp; omega)]
      simp only [SA, setCells, Int.reduceLE, Int.reduceLT, ↓reduceIte, reduceCtorEq, Nat.reduceLT, Nat.reduceEqDiff, Nat.reduceAdd, Nat.reduceMul, Nat.reduceLeDiff, Nat.reduceBEq]
      rfl
  · have e1 : (b.length : Int) < a.length := by omega
    simp only [f73, args0, SA, setCells, Int.reduceLE, Int.reduceLT, ↓reduceIte, reduceCtorEq, Nat.reduceLT, Nat.reduceEqDiff, Nat.reduceAdd, Nat.reduceMul, Nat.reduceLeDiff, Nat.reduceBEq, lm_len, e1, w1, m1, m2, Int.natCast_nonneg, Int.toNat_natCast, Int.le_refl, lm_rep]
    refine loop_rule (β := Nat × List Nat × Nat) (fun t => ([(0, .p (.sl (lm a))), (1, .p (.sl (lm b))), (5, .own 0 0 (a.length + 1)), (6, .p (.int .u64 (t.2.2 : Int))), (20, i64 a.length), (21, i64 t.1)], [.prow 1 (lm (t.2.1 ++ List.replicate (a.length + 1 - t.1) 0))]))
      (fun t => t.1 ≤ a.length ∧ t.2.1.length = t.1 ∧ Lim t.2.1 ∧ val t.2.1 + LB ^ t.1 * t.2.2 = val (a.take t.1) + val (b.take t.1) ∧ t.2.2 ≤ 1) (fun t => a.length - t.1) ((0, [], 0) : Nat × List Nat × Nat) rfl rfl ⟨Nat.zero_le _, rfl, (fun _ hx => nomatch hx), rfl, Nat.zero_le _⟩ ?_
    rintro ⟨i, o, c⟩ ⟨hi, ho, hlo, hv, hc⟩ ih
    simp only [] at hi ho hlo hv hc ih ⊢
    have hget : (lm (o ++ List.replicate (a.length + 1 - i) 0))[i]? = some (.int .u32 0) := by
      have : (o ++ List.replicate (a.length + 1 - i) 0)[i]? = some 0 := by rw [show a.length + 1 - i = (a.length - i) + 1 by omega, List.getElem?_append_right (by omega), ho, Nat.sub_self]; rfl
      exact lm_get? this
    have hset : ∀ v, (o ++ List.replicate (a.length + 1 - i) 0).set i v = o ++ v :: List.replicate (a.length - i) 0 := by
      intro v
      rw [show a.length + 1 - i = (a.length - i) + 1 by omega, ← ho, set_next, List.append_assoc]
      rfl
    have hfold : ∀ v, o ++ v :: List.replicate (a.length - i) 0 = (o ++ [v]) ++ List.replicate (a.length + 1 - (i + 1)) 0 := by
      intro v
      rw [List.append_assoc, Nat.add_sub_add_right]
      rfl
    by_cases hin : (i : Int) < a.length
    · have hia : i < a.length := by omega
      have hil : i < a.length + 1 := by omega
      obtain ⟨k1, k2, k3⟩ := carry1 hc (ha.get hia) (lg_lt hb (i := i))
      have hst := addStep (x := a[i]) (y := lg b i) ho hv
      have hta := val_take_lg (l := a) (i := i)
      have htb := val_take_lg (l := b) (i := i)
      rw [lg_in hia] at hta
      rw [← hta, ← htb] at hst
      have hlen : (o ++ [(c + a[i] + lg b i) % LB]).length = i + 1 := by simp [ho]
      have hlim : Lim (o ++ [(c + a[i] + lg b i) % LB]) := hlo.append (.one (Nat.mod_lt _ LB_pos))
      by_cases hib : (i : Int) < b.length
      · have hib' : i < b.length := by omega
        rw [lg_in hib'] at hst k1 k2 hlen hlim
        simp only [SA, setCells, Int.reduceLE, Int.reduceLT, ↓reduceIte, reduceCtorEq, Nat.reduceLT, Nat.reduceEqDiff, Nat.reduceAdd, Nat.reduceMul, Nat.reduceLeDiff, Nat.reduceBEq, lm_len, hin, hib, lm_get hia, lm_get hib', w64l (ha.get hia), w64l (hb.get hib'), w64s k3, w64s k2, w32, sh32, Int.natCast_nonneg, Int.toNat_natCast, hil, hget, lm_set, hset, IntWalk.i64_in ((i : Int) + 1) (by omega)]
        rw [hfold]
        refine ih (i + 1, o ++ [(c + a[i] + b[i]) % LB], (c + a[i] + b[i]) / LB) _ ⟨by omega, hlen, hlim, hst, k1⟩ (by simp; omega) ?_
        rfl
      · rw [lg_out (by omega), Nat.add_zero] at hst k1 k2 hlen hlim
        simp only [SA, setCells, Int.reduceLE, Int.reduceLT, ↓reduceIte, reduceCtorEq, Nat.reduceLT, Nat.reduceEqDiff, Nat.reduceAdd, Nat.reduceMul, Nat.reduceLeDiff, Nat.reduceBEq, lm_len, hin, hib, lm_get hia, w64l (ha.get hia), w64s k3, w32, sh32, Int.natCast_nonneg, Int.toNat_natCast, hil, hget, lm_set, hset, IntWalk.i64_in ((i : Int) + 1) (by omega)]
        rw [hfold]
        refine ih (i + 1, o ++ [(c + a[i]) % LB], (c + a[i]) / LB) _ ⟨by omega, hlen, hlim, hst, k1⟩ (by simp; omega) ?_
        rfl
    · have hia : i = a.length := by omega
      have hil : a.length < a.length + 1 := Nat.lt_succ_self _
      subst hia
      have hcl : c % LB = c := Nat.mod_eq_of_lt (by unfold LB; omega)
      have hfin : o ++ c :: List.replicate (a.length - a.length) 0 = o ++ [c] := by simp
      have hval : val (o ++ [c]) = val a + val b := by
        rw [val_append, val_one, ho, hv, List.take_length, List.take_of_length_le hle]
      have hlim : Lim (o ++ [c]) := hlo.append (.one (by unfold LB; omega))
      have htr := p144 hlim (by simp; omega)
      rw [hval] at htr
      simp only [SA, setCells, Int.reduceLE, Int.reduceLT, ↓reduceIte, reduceCtorEq, Nat.reduceLT, Nat.reduceEqDiff, Nat.reduceAdd, Nat.reduceMul, Nat.reduceLeDiff, Nat.reduceBEq, lm_len, hin, w32, hcl, Int.natCast_nonneg, Int.toNat_natCast, hil, hget, lm_set, hset]
      rw [hfin, kf_own htr rfl (by rw [lm_len]; simp; omega)]
      simp only [SA, setCells, Int.reduceLE, Int.reduceLT, ↓reduceIte, reduceCtorEq, Nat.reduceLT, Nat.reduceEqDiff, Nat.reduceAdd, Nat.reduceMul, Nat.reduceLeDiff, Nat.reduceBEq]
      rfl
theorem p176 {a b : List Nat} (ha : Lim a) (hb : Lim b) (hna : a.length ≤ 1099511627775) (hnb : b.length ≤ 1099511627775) : Pu rp 73 [.sl (lm a), .sl (lm b)] (.p (.sl (lm (dgl (val a + val b))))) := by
  rcases Nat.lt_or_ge a.length b.length with h | h
  · rw [Nat.add_comm]; exact p176a hb ha (Nat.le_of_lt h) hnb (.inr ⟨rfl, rfl, h⟩)
  · exact p176a ha hb h hna (.inl ⟨rfl, rfl⟩)
end Go.Proofs.Ytdpdnplljonppaa.VBn

namespace Go.Proofs.Ytdpdnplljonppaa.VBn
open Go Vpi
set_option maxRecDepth 100000
set_option linter.unusedSimpArgs false
set_option linter.unusedVariables false
theorem p63 : ((2 : Int) ^ min (Int.toNat 63) IntKind.u64.bits) = 9223372036854775808 := by decide
theorem subStep {x y w : Nat} (hx : x < LB) (hy : y < LB) (hw : w ≤ 1) : ∃ r w' : Nat, r < LB ∧ w' ≤ 1 ∧ r + y + w = x + w' * LB ∧
    IntKind.u32.wrap (IntKind.u64.wrap (IntKind.u64.wrap ((x : Int) - (w : Int)) - (y : Int))) = (r : Int) ∧ (IntKind.u64.wrap (IntKind.u64.wrap ((x : Int) - (w : Int)) - (y : Int))).fdiv (2 ^ min (Int.toNat 63) IntKind.u64.bits) = (w' : Int) := by
  rw [p63, IntKind.wrap_u64, IntKind.wrap_u64, IntKind.wrap_u32, Int.fdiv_eq_ediv_of_nonneg _ (by decide)]
  unfold LB at *
  by_cases h : w + y ≤ x
  · exact ⟨x - w - y, 0, by omega, by omega, by omega, by omega, by omega⟩
  · exact ⟨x + 4294967296 - w - y, 1, by omega, by omega, by omega, by omega, by omega⟩
theorem subStep0 {x w : Nat} (hx : x < LB) (hw : w ≤ 1) : ∃ r w' : Nat, r < LB ∧ w' ≤ 1 ∧ r + 0 + w = x + w' * LB ∧
    IntKind.u32.wrap (IntKind.u64.wrap ((x : Int) - (w : Int))) = (r : Int) ∧ (IntKind.u64.wrap ((x : Int) - (w : Int))).fdiv (2 ^ min (Int.toNat 63) IntKind.u64.bits) = (w' : Int) := by
  rw [p63, IntKind.wrap_u64, IntKind.wrap_u32, Int.fdiv_eq_ediv_of_nonneg _ (by decide)]
  unfold LB at *
  by_cases h : w ≤ x
  · exact ⟨x - w, 0, by omega, by omega, by omega, by omega, by omega⟩
  · exact ⟨x + 4294967296 - w, 1, by omega, by omega, by omega, by omega, by omega⟩
theorem subNext {o : List Nat} {A B w w' r x y i : Nat} (ho : o.length = i) (h : val o + B = A + LB ^ i * w) (hr : r + y + w = x + w' * LB) : val (o ++ [r]) + (B + LB ^ i * y) = A + LB ^ i * x + LB ^ (i + 1) * w' := by
  rw [val_append, ho, val_one, Nat.pow_succ]
  have h2 : LB ^ i * (r + y + w) = LB ^ i * (x + w' * LB) := by rw [hr]
  simp only [Nat.mul_add] at h2
  rw [Nat.mul_comm w' LB, ← Nat.mul_assoc] at h2
  omega
theorem p201 {a b : List Nat} (ha : Lim a) (hb : Lim b) (hle : b.length ≤ a.length) (hab : val b ≤ val a) (hna : a.length ≤ 1099511627775) :
    Pu rp 128 [.sl (lm a), .sl (lm b)] (.p (.sl (lm (dgl (val a - val b))))) := by
  refine pu_of rp201 ?_
  have m1 : ((4 : Nat) : Int) * (a.length : Int) ≤ 281474976710656 := by omega
  have m2 : (a.length : Int) ≤ 9223372036854775807 := by omega
  simp only [f128, args0, SA, setCells, Int.reduceLE, Int.reduceLT, ↓reduceIte, reduceCtorEq, Nat.reduceLT, Nat.reduceEqDiff, Nat.reduceAdd, Nat.reduceMul, Nat.reduceLeDiff, Nat.reduceBEq, lm_len, m1, m2, Int.natCast_nonneg, Int.toNat_natCast, Int.le_refl, lm_rep]
  refine loop_rule (β := Nat × List Nat × Nat) (fun t => ([(0, .p (.sl (lm a))), (1, .p (.sl (lm b))), (5, .own 0 0 a.length), (6, .p (.int .u64 (t.2.2 : Int))), (13, i64 a.length), (14, i64 t.1)], [.prow 1 (lm (t.2.1 ++ List.replicate (a.length - t.1) 0))]))
    (fun t => t.1 ≤ a.length ∧ t.2.1.length = t.1 ∧ Lim t.2.1 ∧ val t.2.1 + val (b.take t.1) = val (a.take t.1) + LB ^ t.1 * t.2.2 ∧ t.2.2 ≤ 1) (fun t => a.length - t.1) ((0, [], 0) : Nat × List Nat × Nat) rfl rfl ⟨Nat.zero_le _, rfl, (fun _ hx => nomatch hx), rfl, Nat.zero_le _⟩ ?_
  rintro ⟨i, o, w⟩ ⟨hi, ho, hlo, hv, hw⟩ ih
  simp only [] at hi ho hlo hv hw ih ⊢
  by_cases hin : (i : Int) < a.length
  · have hia : i < a.length := by omega
    have hget : (lm (o ++ List.replicate (a.length - i) 0))[i]? = some (.int .u32 0) := by
      have : (o ++ List.replicate (a.length - i) 0)[i]? = some 0 := by rw [show a.length - i = (a.length - i - 1) + 1 by omega, List.getElem?_append_right (by omega), ho, Nat.sub_self]; rfl
      exact lm_get? this
    have hset : ∀ v, (o ++ List.replicate (a.length - i) 0).set i v = o ++ v :: List.replicate (a.length - (i + 1)) 0 := by
      intro v
      rw [show a.length - i = (a.length - (i + 1)) + 1 by omega, ← ho, set_next, List.append_assoc]
      rfl
    have hfold : ∀ v, o ++ v :: List.replicate (a.length - (i + 1)) 0 = (o ++ [v]) ++ List.replicate (a.length - (i + 1)) 0 := by
      intro v
      rw [List.append_assoc]
      rfl
    have hta := val_take_lg (l := a) (i := i)
    have htb := val_take_lg (l := b) (i := i)
    rw [lg_in hia] at hta
    by_cases hib : (i : Int) < b.length
    · have hib' : i < b.length := by omega
      rw [lg_in hib'] at htb
      obtain ⟨r, w', hr, hw', hrel, e32, e63⟩ := subStep (ha.get hia) (hb.get hib') hw
      have hst := subNext ho hv hrel
      rw [← hta, ← htb] at hst
      simp only [SA, setCells, Int.reduceLE, Int.reduceLT, ↓reduceIte, reduceCtorEq, Nat.reduceLT, Nat.reduceEqDiff, Nat.reduceAdd, Nat.reduceMul, Nat.reduceLeDiff, Nat.reduceBEq, lm_len, hin, hib, lm_get hia, lm_get hib', w64l (ha.get hia), w64l (hb.get hib'), e32, e63, Int.natCast_nonneg, Int.toNat_natCast, hia, hget, lm_set, hset, IntWalk.i64_in ((i : Int) + 1) (by omega)]
      rw [hfold]
      refine ih (i + 1, o ++ [r], w') _ ⟨by omega, by simp [ho], hlo.append (.one hr), hst, hw'⟩ (by simp; omega) ?_
      rfl
    · rw [lg_out (by omega)] at htb
      obtain ⟨r, w', hr, hw', hrel, e32, e63⟩ := subStep0 (ha.get hia) hw
      have hst := subNext ho hv hrel
      rw [← hta, ← htb] at hst
      simp only [SA, setCells, Int.reduceLE, Int.reduceLT, ↓reduceIte, reduceCtorEq, Nat.reduceLT, Nat.reduceEqDiff, Nat.reduceAdd, Nat.reduceMul, Nat.reduceLeDiff, Nat.reduceBEq, lm_len, hin, hib, lm_get hia, w64l (ha.get hia), e32, e63, Int.natCast_nonneg, Int.toNat_natCast, hia, hget, lm_set, hset, IntWalk.i64_in ((i : Int) + 1) (by omega)]
      rw [hfold]
      refine ih (i + 1, o ++ [r], w') _ ⟨by omega, by simp [ho], hlo.append (.one hr), hst, hw'⟩ (by simp; omega) ?_
      rfl
  · have hia : i = a.length := by omega
    subst hia
    have hval : val o = val a - val b := by
      rw [List.take_length, List.take_of_length_le hle] at hv
      have h1 := val_lt hlo
      rw [ho] at h1
      rcases Nat.lt_or_ge w 1 with h2 | h2
      · obtain rfl : w = 0 := by omega
        rw [Nat.mul_zero] at hv
        omega
      · obtain rfl : w = 1 := by omega
        rw [Nat.mul_one] at hv
        omega
    have htr := p144 hlo (by omega)
    rw [hval] at htr
    have hfin : o ++ List.replicate (a.length - a.length) 0 = o := by simp
    rw [hfin]
    simp only [SA, setCells, Int.reduceLE, Int.reduceLT, ↓reduceIte, reduceCtorEq, Nat.reduceLT, Nat.reduceEqDiff, Nat.reduceAdd, Nat.reduceMul, Nat.reduceLeDiff, Nat.reduceBEq, lm_len, hin]
    rw [kf_own htr rfl (by rw [lm_len, ho])]
    simp only [SA, setCells, Int.reduceLE, Int.reduceLT, ↓reduceIte, reduceCtorEq, Nat.reduceLT, Nat.reduceEqDiff, Nat.reduceAdd, Nat.reduceMul, Nat.reduceLeDiff, Nat.reduceBEq]
    rfl
theorem p178 {a b : List Nat} (ha : Lim a) (hb : Lim b) (hna : a.length ≤ 1099511627775) (hnb : b.length ≤ 1099511627775) (hab : val b ≤ val a) :
    Pu rp 75 [.sl (lm a), .sl (lm b)] (.tup [.p (.sl (lm (dgl (val a - val b)))), .p (.int .i64 0)]) := by
  refine pu_of rp178 ?_
  have hc : ¬ cmpI (val a) (val b) < 0 := by unfold cmpI; rw [if_neg (by omega)]; split <;> decide
  have hl : (dgl (val b)).length ≤ (dgl (val a)).length := by
    rcases Nat.lt_or_ge (dgl (val a)).length (dgl (val b)).length with h | h
    · have := dgl_lt_len h; omega
    · exact h
  have hda : (dgl (val a)).length ≤ a.length := dgl_len (val_lt ha)
  have h201 := p201 (dgl_lim (val a)) (dgl_lim (val b)) hl (by rw [val_dgl, val_dgl]; exact hab) (by omega)
  rw [val_dgl, val_dgl] at h201
  simp only [f75, args0, SA, setCells, Int.reduceLE, Int.reduceLT, ↓reduceIte, reduceCtorEq, Nat.reduceLT, Nat.reduceEqDiff, Nat.reduceAdd, Nat.reduceMul, Nat.reduceLeDiff, Nat.reduceBEq, kp2 (p177 ha hb (by omega) (by omega)), hc, kp1 (p144 ha (by omega)), kp1 (p144 hb (by omega)), kp2 h201]
  exact back_t2 back1_p back1_p
end Go.Proofs.Ytdpdnplljonppaa.VBn

namespace Go.Proofs.Ytdpdnplljonppaa.VBn
open Go Vpi
set_option maxRecDepth 100000
set_option linter.unusedSimpArgs false
set_option linter.unusedVariables false
theorem rp111 : rp 72 = some f72 := rfl
theorem val_set : ∀ {O : List Nat} {k x : Nat} (h : k < O.length), val (O.set k x) + LB ^ k * O[k] = val O + LB ^ k * x
  | [], k, x, h => by cases h
  | y :: O, 0, x, h => by simp [val]; omega
  | y :: O, k + 1, x, h => by
    have hk : k < O.length := by simpa using h
    have ih := val_set (O := O) (k := k) (x := x) hk
    simp only [List.set_cons_succ, val, List.getElem_cons_succ, Nat.pow_succ]
    have h2 : LB * (val (O.set k x) + LB ^ k * O[k]) = LB * (val O + LB ^ k * x) := by rw [ih]
    simp only [Nat.mul_add, ← Nat.mul_assoc] at h2
    rw [Nat.mul_comm LB (LB ^ k)] at h2
    omega
theorem lim_set {O : List Nat} (h : Lim O) {k x : Nat} (hx : x < LB) : Lim (O.set k x) := fun y hy => by
  rcases List.mem_or_eq_of_mem_set hy with h1 | rfl
  · exact h y h1
  · exact hx
theorem mulStep {O : List Nat} {X Y i j c x y : Nat} (hk : i + j < O.length) (h : val O + LB ^ (i + j) * c = X + LB ^ i * (x * Y)) :
    val (O.set (i + j) ((c + (x * y + O[i + j])) % LB)) + LB ^ (i + j + 1) * ((c + (x * y + O[i + j])) / LB) = X + LB ^ i * (x * (Y + LB ^ j * y)) := by
  have h1 := val_set (x := (c + (x * y + O[i + j])) % LB) hk
  have h2 := Nat.mod_add_div (c + (x * y + O[i + j])) LB
  have h3 : LB ^ (i + j) * ((c + (x * y + O[i + j])) % LB) + LB ^ (i + j + 1) * ((c + (x * y + O[i + j])) / LB) = LB ^ (i + j) * c + LB ^ (i + j) * (x * y) + LB ^ (i + j) * O[i + j] := by
    rw [Nat.pow_succ, Nat.mul_assoc (LB ^ (i + j)) LB, ← Nat.mul_add, h2, Nat.mul_add, Nat.mul_add, Nat.add_assoc]
  have h4 : LB ^ i * (x * (Y + LB ^ j * y)) = LB ^ i * (x * Y) + LB ^ (i + j) * (x * y) := by
    rw [Nat.mul_add, Nat.mul_add, Nat.pow_add, Nat.mul_left_comm x, Nat.mul_assoc]
  rw [h4]
  omega
theorem mulBound {c x y o : Nat} (hc : c < LB) (hx : x < LB) (hy : y < LB) (ho : o < LB) : x * y + o < 18446744073709551616 ∧ x * y < 18446744073709551616 ∧ c + (x * y + o) < 18446744073709551616 ∧ (c + (x * y + o)) / LB < LB := by
  have h : x * y ≤ (LB - 1) * (LB - 1) := Nat.mul_le_mul (by omega) (by omega)
  have h2 : (LB - 1) * (LB - 1) = 18446744065119617025 := by decide
  rw [h2] at h
  have h3 : c + (x * y + o) < 18446744073709551616 := by unfold LB at *; omega
  refine ⟨by unfold LB at *; omega, by omega, h3, ?_⟩
  unfold LB at *
  omega
structure MulI (x y : List Nat) (i : Nat) (O : List Nat) : Prop where
  len : O.length = x.length + y.length
  lim : Lim O
  v : val O = val (x.take i) * val y
  tail : ∀ k, i + y.length ≤ k → k < O.length → O[k]? = some 0
structure MulJ (x y : List Nat) (i j : Nat) (O : List Nat) (c : Nat) : Prop where
  len : O.length = x.length + y.length
  lim : Lim O
  cl : c < LB
  v : val O + LB ^ (i + j) * c = val (x.take i) * val y + LB ^ i * (lg x i * val (y.take j))
  tail : ∀ k, i + y.length ≤ k → k < O.length → O[k]? = some 0
theorem MulI.start {x y : List Nat} : MulI x y 0 (List.replicate (x.length + y.length) 0) where
  len := by simp
  lim := .rep
  v := by rw [val_rep, List.take_zero]; simp [val]
  tail := fun k _ h => by rw [List.length_replicate] at h; simp [h]
theorem MulI.row {x y O : List Nat} {i : Nat} (h : MulI x y i O) : MulJ x y i 0 O 0 where
  len := h.len
  lim := h.lim
  cl := LB_pos
  v := by rw [h.v, List.take_zero]; simp [val]
  tail := h.tail
theorem MulJ.step {x y O : List Nat} {i j c : Nat} (hx : Lim x) (hy : Lim y) (h : MulJ x y i j O c) (hi : i < x.length) (hj : j < y.length) (hk : i + j < O.length) :
    MulJ x y i (j + 1) (O.set (i + j) ((c + (x[i] * y[j] + O[i + j])) % LB)) ((c + (x[i] * y[j] + O[i + j])) / LB) where
  len := by rw [List.length_set]; exact h.len
  lim := lim_set h.lim (Nat.mod_lt _ LB_pos)
  cl := (mulBound h.cl (hx.get hi) (hy.get hj) (h.lim.get hk)).2.2.2
  v := by
    have hv := h.v
    rw [lg_in hi] at hv ⊢
    rw [val_take_succ hj]
    exact mulStep hk hv
  tail := fun k h1 h2 => by
    rw [List.length_set] at h2
    rw [List.getElem?_set_ne (by omega)]
    exact h.tail k h1 h2
theorem MulJ.done {x y O : List Nat} {i c : Nat} (h : MulJ x y i y.length O c) (hi : i < x.length) : MulI x y (i + 1) (O.set (i + y.length) c) where
  len := by rw [List.length_set]; exact h.len
  lim := lim_set h.lim h.cl
  v := by
    have hk : i + y.length < O.length := by rw [h.len]; omega
    have h0 := h.tail (i + y.length) (Nat.le_refl _) hk
    rw [List.getElem?_eq_getElem hk, Option.some.injEq] at h0
    have h1 := val_set (x := c) hk
    rw [h0, Nat.mul_zero, Nat.add_zero, h.v, List.take_length] at h1
    rw [h1, val_take_lg, Nat.add_mul, Nat.mul_assoc]
  tail := fun k h1 h2 => by
    rw [List.length_set] at h2
    rw [List.getElem?_set_ne (by omega)]
    exact h.tail k (by omega) h2
theorem p111 {a b : List Nat} (ha : Lim a) (hb : Lim b) (hna : a.length ≤ 500000000000) (hnb : b.length ≤ 500000000000) : Pu rp 72 [.sl (lm a), .sl (lm b)] (.p (.sl (lm (dgl (val a * val b))))) := by
  refine pu_of rp111 ?_
  obtain ⟨x, hxd⟩ : ∃ x, x = dgl (val a) := ⟨_, rfl⟩
  obtain ⟨y, hyd⟩ : ∃ y, y = dgl (val b) := ⟨_, rfl⟩
  have k1 : Pu rp 127 [.sl (lm a)] (.p (.sl (lm x))) := by rw [hxd]; exact p144 ha (by omega)
  have k2 : Pu rp 127 [.sl (lm b)] (.p (.sl (lm y))) := by rw [hyd]; exact p144 hb (by omega)
  have hx : Lim x := by rw [hxd]; exact dgl_lim _
  have hy : Lim y := by rw [hyd]; exact dgl_lim _
  have hlx : x.length ≤ 500000000000 := by rw [hxd]; exact Nat.le_trans (dgl_len (val_lt ha)) hna
  have hly : y.length ≤ 500000000000 := by rw [hyd]; exact Nat.le_trans (dgl_len (val_lt hb)) hnb
  have hva : val a = val x := by rw [hxd, val_dgl]
  have hvb : val b = val y := by rw [hyd, val_dgl]
  rw [hva, hvb]
  clear hxd hyd hva hvb
  have w1 : IntKind.i64.wrap ((x.length : Int) + y.length) = ((x.length + y.length : Nat) : Int) := by rw [IntWalk.i64_in _ (by omega)]; omega
  have m1 : ((4 : Nat) : Int) * ((x.length + y.length : Nat) : Int) ≤ 281474976710656 := by omega
  have m2 : ((x.length + y.length : Nat) : Int) ≤ 9223372036854775807 := by omega
  simp only [f72, args0, SA, setCells, Int.reduceLE, Int.reduceLT, ↓reduceIte, reduceCtorEq, Nat.reduceLT, Nat.reduceEqDiff, Nat.reduceAdd, Nat.reduceMul, Nat.reduceLeDiff, Nat.reduceBEq, kp1 k1, kp1 k2, lm_len, w1, m1, m2, Int.natCast_nonneg, Int.toNat_natCast, Int.le_refl, lm_rep]
  refine loop_rule (β := Nat × List Nat) (fun t => ([(0, .p (.sl (lm x))), (1, .p (.sl (lm y))), (5, .own 0 0 (x.length + y.length)), (20, i64 x.length), (21, i64 t.1)], [.prow 1 (lm t.2)]))
    (fun t => t.1 ≤ x.length ∧ MulI x y t.1 t.2) (fun t => x.length - t.1) ((0, List.replicate (x.length + y.length) 0) : Nat × List Nat) rfl rfl ⟨Nat.zero_le _, .start⟩ ?_
  rintro ⟨i, O⟩ ⟨hi, hM⟩ ih
  simp only [] at hi hM ih ⊢
  by_cases hin : (i : Int) < x.length
  · have hix : i < x.length := by omega
    simp only [SA, setCells, Int.reduceLE, Int.reduceLT, ↓reduceIte, reduceCtorEq, Nat.reduceLT, Nat.reduceEqDiff, Nat.reduceAdd, Nat.reduceMul, Nat.reduceLeDiff, Nat.reduceBEq, hin, lm_len]
    refine loop_rule (β := Nat × List Nat × Nat) (fun t => ([(0, .p (.sl (lm x))), (1, .p (.sl (lm y))), (5, .own 0 0 (x.length + y.length)), (6, i64 i), (7, .p (.int .u64 (t.2.2 : Int))), (20, i64 x.length), (21, i64 i), (25, i64 y.length), (26, i64 t.1)], [.prow 1 (lm t.2.1)]))
      (fun t => t.1 ≤ y.length ∧ MulJ x y i t.1 t.2.1 t.2.2) (fun t => y.length - t.1) ((0, O, 0) : Nat × List Nat × Nat) rfl rfl ⟨Nat.zero_le _, hM.row⟩ ?_
    rintro ⟨j, P, c⟩ ⟨hj, hJ⟩ ih2
    simp only [] at hj hJ ih2 ⊢
    by_cases hjn : (j : Int) < y.length
    · have hjy : j < y.length := by omega
      have hkl : i + j < x.length + y.length := by omega
      have hk : i + j < P.length := by rw [hJ.len]; exact hkl
      obtain ⟨b1, b2, b3, b4⟩ := mulBound hJ.cl (hx.get hix) (hy.get hjy) (hJ.lim.get hk)
      have hJ' := hJ.step hx hy hix hjy hk
      have w2 : IntKind.i64.wrap ((i : Int) + j) = ((i + j : Nat) : Int) := by rw [IntWalk.i64_in _ (by omega)]; omega
      simp only [SA, setCells, Int.reduceLE, Int.reduceLT, ↓reduceIte, reduceCtorEq, Nat.reduceLT, Nat.reduceEqDiff, Nat.reduceAdd, Nat.reduceMul, Nat.reduceLeDiff, Nat.reduceBEq, lm_len, hjn, lm_get hix, lm_get hjy, lm_get hk, w64l (hx.get hix), w64l (hy.get hjy), w64l (hJ.lim.get hk), w64m b2, w64s b1, w64s b3, w2, w32, sh32, Int.natCast_nonneg, Int.toNat_natCast, hkl, lm_set, IntWalk.i64_in ((j : Int) + 1) (by omega)]
      refine ih2 (j + 1, P.set (i + j) ((c + (x[i] * y[j] + P[i + j])) % LB), (c + (x[i] * y[j] + P[i + j])) / LB) _ ⟨by omega, hJ'⟩ (by simp; omega) ?_
      rfl
    · obtain rfl : j = y.length := by omega
      have hkl : i + y.length < x.length + y.length := by omega
      have hk : i + y.length < P.length := by rw [hJ.len]; exact hkl
      have w2 : IntKind.i64.wrap ((i : Int) + y.length) = ((i + y.length : Nat) : Int) := by rw [IntWalk.i64_in _ (by omega)]; omega
      have hcl : c % LB = c := Nat.mod_eq_of_lt hJ.cl
      simp only [SA, setCells, Int.reduceLE, Int.reduceLT, ↓reduceIte, reduceCtorEq, Nat.reduceLT, Nat.reduceEqDiff, Nat.reduceAdd, Nat.reduceMul, Nat.reduceLeDiff, Nat.reduceBEq, lm_len, hjn, w2, w32, hcl, lm_get hk, Int.natCast_nonneg, Int.toNat_natCast, hkl, lm_set, IntWalk.i64_in ((i : Int) + 1) (by omega)]
      refine ih (i + 1, P.set (i + y.length) c) _ ⟨by omega, hJ.done hix⟩ (by simp; omega) ?_
      rfl
  · obtain rfl : i = x.length := by omega
    have htr := p144 hM.lim (by rw [hM.len]; omega)
    rw [hM.v, List.take_length] at htr
    simp only [SA, setCells, Int.reduceLE, Int.reduceLT, ↓reduceIte, reduceCtorEq, Nat.reduceLT, Nat.reduceEqDiff, Nat.reduceAdd, Nat.reduceMul, Nat.reduceLeDiff, Nat.reduceBEq, lm_len, hin]
    rw [kf_own htr rfl (by rw [lm_len, hM.len])]
    simp only [SA, setCells, Int.reduceLE, Int.reduceLT, ↓reduceIte, reduceCtorEq, Nat.reduceLT, Nat.reduceEqDiff, Nat.reduceAdd, Nat.reduceMul, Nat.reduceLeDiff, Nat.reduceBEq]
    rfl
end Go.Proofs.Ytdpdnplljonppaa.VBn

namespace Go.Proofs.Ytdpdnplljonppaa.VBn
open Go Vpi
set_option maxRecDepth 100000
set_option linter.unusedSimpArgs false
set_option linter.unusedVariables false
theorem rp148 : rp 145 = some f145 := rfl
theorem rp185 : rp 182 = some f182 := rfl
theorem rp184 : rp 181 = some f181 := rfl
theorem rp186 : rp 183 = some f183 := rfl
theorem rp188 : rp 185 = some f185 := rfl
theorem rp119 : rp 109 = some f109 := rfl
def bl (x : Nat) : Nat := if x = 0 then 0 else Nat.log2 x + 1
theorem bl_zero : bl 0 = 0 := rfl
theorem bl_eq {x L : Nat} (h0 : x ≠ 0) (h1 : 2 ^ (L - 1) ≤ x) (h2 : x < 2 ^ L) : bl x = L := by
  unfold bl
  rw [if_neg h0]
  have a := (Nat.log2_lt h0).2 h2
  have b := (Nat.le_log2 h0).2 h1
  omega
theorem bl_spec {x : Nat} (h0 : x ≠ 0) : 2 ^ (bl x - 1) ≤ x ∧ x < 2 ^ bl x ∧ 1 ≤ bl x := by
  unfold bl
  rw [if_neg h0]
  exact ⟨(Nat.le_log2 h0).1 (Nat.le_refl _), (Nat.log2_lt h0).1 (Nat.lt_succ_self _), by omega⟩
def btab : List Nat := [0, 1, 2, 2, 3, 3, 3, 3, 4, 4, 4, 4, 4, 4, 4, 4, 5, 5, 5, 5, 5, 5, 5, 5, 5, 5, 5, 5, 5, 5, 5, 5, 6, 6, 6, 6, 6, 6, 6, 6, 6, 6, 6, 6, 6, 6, 6, 6, 6, 6, 6, 6, 6, 6, 6, 6, 6, 6, 6, 6, 6, 6, 6, 6, 7, 7, 7, 7, 7, 7, 7, 7, 7, 7, 7, 7, 7, 7, 7, 7, 7, 7, 7, 7, 7, 7, 7, 7, 7, 7, 7, 7, 7, 7, 7, 7, 7, 7, 7, 7, 7, 7, 7, 7, 7, 7, 7, 7, 7, 7, 7, 7, 7, 7, 7, 7, 7, 7, 7, 7, 7, 7, 7, 7, 7, 7, 7, 7, 8, 8, 8, 8, 8, 8, 8, 8, 8, 8, 8, 8, 8, 8, 8, 8, 8, 8, 8, 8, 8, 8, 8, 8, 8, 8, 8, 8, 8, 8, 8, 8, 8, 8, 8, 8, 8, 8, 8, 8, 8, 8, 8, 8, 8, 8, 8, 8, 8, 8, 8, 8, 8, 8, 8, 8, 8, 8, 8, 8, 8, 8, 8, 8, 8, 8, 8, 8, 8, 8, 8, 8, 8, 8, 8, 8, 8, 8, 8, 8, 8, 8, 8, 8, 8, 8, 8, 8, 8, 8, 8, 8, 8, 8, 8, 8, 8, 8, 8, 8, 8, 8, 8, 8, 8, 8, 8, 8, 8, 8, 8, 8, 8, 8, 8, 8, 8, 8, 8, 8, 8, 8, 8, 8, 8, 8, 8, 8]
theorem tab_all : ((List.range 256).all fun x => match btab[x]? with | some t => decide (x < 2 ^ t) && (x == 0 || (decide (2 ^ (t - 1) ≤ x) && decide (1 ≤ t))) && decide (t ≤ 8) && (x != 0 || t == 0) | none => false) = true := by decide +kernel
theorem tab_get {x : Nat} (h : x < 256) : btab[x]? = some (bl x) ∧ bl x ≤ 8 := by
  have h1 := List.all_eq_true.1 tab_all x (List.mem_range.2 h)
  split at h1
  · rename_i t ht
    simp only [Bool.and_eq_true, decide_eq_true_eq, Bool.or_eq_true, beq_iff_eq, bne_iff_ne] at h1
    obtain ⟨⟨⟨h2, h3⟩, h4⟩, h5⟩ := h1
    have : bl x = t := by
      by_cases hx : x = 0
      · subst hx
        rcases h5 with h5 | h5
        · exact absurd rfl h5
        · rw [bl_zero, h5]
      · rcases h3 with h3 | h3
        · exact absurd h3 hx
        · exact bl_eq hx h3.1 h2
    rw [this]
    exact ⟨ht, h4⟩
  · cases h1
theorem r_idx_of {rs : List RRes} {base : Nat} {sl d : Option Nat} {l : List LOp} {dr : Dr} {ks : List KI} {e : Env} {σ : Store} {Q : CV → Store → Prop} {tb : List Nat} {x : Opd} {i t : Nat} (hi : vl e x = .p (.int .u8 (i : Int))) (ht : tb[i]? = some t) :
    ExR rp rs base (⟨d, none, sl, .idx tb x⟩ :: l) dr ks e σ Q = ExR rp rs base l dr ks (sto d (.p (.int .u8 (t : Int))) e) σ Q := by
  rw [r_idx]
  simp only [ev, hi, num_int, Int.natCast_nonneg, if_true, Int.toNat_natCast, ht, ke_some]
theorem bl_shift {x k : Nat} (h : x / 2 ^ k ≠ 0) : bl x = k + bl (x / 2 ^ k) := by
  obtain ⟨h1, h2, h3⟩ := bl_spec h
  have hx : x ≠ 0 := by rintro rfl; simp at h
  have hp := Nat.pow_pos (n := k) (show 0 < 2 by decide)
  refine bl_eq hx ?_ ?_
  · rw [show k + bl (x / 2 ^ k) - 1 = (bl (x / 2 ^ k) - 1) + k by omega, Nat.pow_add]
    exact Nat.le_trans (Nat.mul_le_mul_right _ h1) (Nat.div_mul_le_self _ _)
  · rw [Nat.add_comm, Nat.pow_add]
    exact (Nat.div_lt_iff_lt_mul hp).1 h2
theorem p148 {x : Nat} (h : x < LB) : Pu rp 145 [.int .u32 (x : Int)] (.p (.int .i64 (bl x : Nat))) := by
  refine pu_of rp148 ?_
  have q16 : ((2 : Int) ^ min (Int.toNat 16) IntKind.u32.bits) = 65536 := by decide
  have q8 : ((2 : Int) ^ min (Int.toNat 8) IntKind.u32.bits) = 256 := by decide
  have s16 : ((x : Int).fdiv 65536) = ((x / 65536 : Nat) : Int) := by rw [Int.fdiv_eq_ediv_of_nonneg _ (by decide)]; rfl
  have fin : ∀ {y k : Nat}, y < 256 → k ≤ 24 → IntKind.u8.wrap (y : Int) = (y : Int) ∧ IntKind.i64.wrap ((bl y : Nat) : Int) = ((bl y : Nat) : Int) ∧ IntKind.i64.wrap ((k : Int) + ((bl y : Nat) : Int)) = ((k + bl y : Nat) : Int) := by
    intro y k hy hk
    have := (tab_get hy).2
    exact ⟨IntWalk.u8_in _ (by omega), IntWalk.i64_in _ (by omega), by rw [IntWalk.i64_in _ (by omega)]; omega⟩
  unfold LB at h
  by_cases h1 : (x : Int) ≥ 65536
  · have s8 : (((x / 65536 : Nat) : Int).fdiv 256) = ((x / 65536 / 256 : Nat) : Int) := by rw [Int.fdiv_eq_ediv_of_nonneg _ (by decide)]; rfl
    by_cases h2 : ((x / 65536 : Nat) : Int) ≥ 256
    · have hy : x / 65536 / 256 < 256 := by omega
      obtain ⟨f1, f2, f3⟩ := fin (k := 24) hy (by decide)
      have w8 : IntKind.i64.wrap (16 + 8) = ((24 : Nat) : Int) := by decide
      simp only [f145, args0, S1, S2, S3, S4, S5, r_mks, S6, S7, S8, setCells, Int.reduceLE, Int.reduceLT, ↓reduceIte, reduceCtorEq, Nat.reduceLT, Nat.reduceEqDiff, Nat.reduceAdd, Nat.reduceMul, Nat.reduceLeDiff, Nat.reduceBEq, h1, q16, s16, h2, q8, s8, w8, f1, Int.natCast_nonneg, Int.toNat_natCast]
      refine Eq.mpr (r_idx_of rfl (tab_get hy).1) ?_
      simp only [SA, setCells, Int.reduceLE, Int.reduceLT, ↓reduceIte, reduceCtorEq, Nat.reduceLT, Nat.reduceEqDiff, Nat.reduceAdd, Nat.reduceMul, Nat.reduceLeDiff, Nat.reduceBEq, f2, f3]
      have e : bl x = 24 + bl (x / 65536 / 256) := by
        have := bl_shift (x := x) (k := 24) (by rw [show (2 : Nat) ^ 24 = 65536 * 256 by decide, ← Nat.div_div_eq_div_mul]; omega)
        rwa [show (2 : Nat) ^ 24 = 65536 * 256 by decide, ← Nat.div_div_eq_div_mul] at this
      rw [e]
      rfl
    · have hy : x / 65536 < 256 := by omega
      obtain ⟨f1, f2, f3⟩ := fin (k := 16) hy (by decide)
      have f3' : IntKind.i64.wrap (16 + ((bl (x / 65536) : Nat) : Int)) = ((16 + bl (x / 65536) : Nat) : Int) := f3
      simp only [f145, args0, S1, S2, S3, S4, S5, r_mks, S6, S7, S8, setCells, Int.reduceLE, Int.reduceLT, ↓reduceIte, reduceCtorEq, Nat.reduceLT, Nat.reduceEqDiff, Nat.reduceAdd, Nat.reduceMul, Nat.reduceLeDiff, Nat.reduceBEq, h1, q16, s16, h2, f1, Int.natCast_nonneg, Int.toNat_natCast]
      refine Eq.mpr (r_idx_of rfl (tab_get hy).1) ?_
      simp only [SA, setCells, Int.reduceLE, Int.reduceLT, ↓reduceIte, reduceCtorEq, Nat.reduceLT, Nat.reduceEqDiff, Nat.reduceAdd, Nat.reduceMul, Nat.reduceLeDiff, Nat.reduceBEq, f2, f3']
      have e : bl x = 16 + bl (x / 65536) := bl_shift (x := x) (k := 16) (by rw [show (2 : Nat) ^ 16 = 65536 by decide]; omega)
      rw [e]
      rfl
  · have s8 : (((x : Nat) : Int).fdiv 256) = ((x / 256 : Nat) : Int) := by rw [Int.fdiv_eq_ediv_of_nonneg _ (by decide)]; rfl
    by_cases h2 : (x : Int) ≥ 256
    · have hy : x / 256 < 256 := by omega
      obtain ⟨f1, f2, f3⟩ := fin (k := 8) hy (by decide)
      have w8 : IntKind.i64.wrap (0 + 8) = ((8 : Nat) : Int) := by decide
      simp only [f145, args0, S1, S2, S3, S4, S5, r_mks, S6, S7, S8, setCells, Int.reduceLE, Int.reduceLT, ↓reduceIte, reduceCtorEq, Nat.reduceLT, Nat.reduceEqDiff, Nat.reduceAdd, Nat.reduceMul, Nat.reduceLeDiff, Nat.reduceBEq, h1, h2, q8, s8, w8, f1, Int.natCast_nonneg, Int.toNat_natCast]
      refine Eq.mpr (r_idx_of rfl (tab_get hy).1) ?_
      simp only [SA, setCells, Int.reduceLE, Int.reduceLT, ↓reduceIte, reduceCtorEq, Nat.reduceLT, Nat.reduceEqDiff, Nat.reduceAdd, Nat.reduceMul, Nat.reduceLeDiff, Nat.reduceBEq, f2, f3]
      have e : bl x = 8 + bl (x / 256) := bl_shift (x := x) (k := 8) (by rw [show (2 : Nat) ^ 8 = 256 by decide]; omega)
      rw [e]
      rfl
    · have hy : x < 256 := by omega
      obtain ⟨f1, f2, f3⟩ := fin (k := 0) hy (by decide)
      have f3' : IntKind.i64.wrap (0 + ((bl x : Nat) : Int)) = ((0 + bl x : Nat) : Int) := f3
      simp only [f145, args0, S1, S2, S3, S4, S5, r_mks, S6, S7, S8, setCells, Int.reduceLE, Int.reduceLT, ↓reduceIte, reduceCtorEq, Nat.reduceLT, Nat.reduceEqDiff, Nat.reduceAdd, Nat.reduceMul, Nat.reduceLeDiff, Nat.reduceBEq, h1, h2, f1, Int.natCast_nonneg, Int.toNat_natCast]
      refine Eq.mpr (r_idx_of rfl (tab_get hy).1) ?_
      simp only [SA, setCells, Int.reduceLE, Int.reduceLT, ↓reduceIte, reduceCtorEq, Nat.reduceLT, Nat.reduceEqDiff, Nat.reduceAdd, Nat.reduceMul, Nat.reduceLeDiff, Nat.reduceBEq, f2, f3']
      exact back_p
theorem bl_le {x : Nat} (h : x < LB) : bl x ≤ 32 := by
  by_cases h0 : x = 0
  · subst h0; decide
  · obtain ⟨h1, _, _⟩ := bl_spec h0
    rcases Nat.lt_or_ge 32 (bl x) with h2 | h2
    · have : 2 ^ 32 ≤ 2 ^ (bl x - 1) := Nat.pow_le_pow_right (by decide) (by omega)
      unfold LB at h
      omega
    · exact h2
theorem p185 {x : Nat} (h : x < LB) : Pu rp 182 [.int .u32 (x : Int)] (.p (.int .i64 ((32 - bl x : Nat) : Int))) := by
  refine pu_of rp185 ?_
  have hb := bl_le h
  have w : IntKind.i64.wrap (32 - ((bl x : Nat) : Int)) = ((32 - bl x : Nat) : Int) := by rw [IntWalk.i64_in _ (by omega)]; omega
  simp only [f182, args0, SA, setCells, Int.reduceLE, Int.reduceLT, ↓reduceIte, reduceCtorEq, Nat.reduceLT, Nat.reduceEqDiff, Nat.reduceAdd, Nat.reduceMul, Nat.reduceLeDiff, Nat.reduceBEq, kp1 (p148 h), w]
  rfl
end Go.Proofs.Ytdpdnplljonppaa.VBn

namespace Go.Proofs.Ytdpdnplljonppaa.VBn
open Go Vpi
set_option maxRecDepth 100000
set_option linter.unusedSimpArgs false
set_option linter.unusedVariables false
theorem or_add {a b : Nat} {i : Nat} (h : b < 2 ^ i) : a * 2 ^ i ||| b = a * 2 ^ i + b := by
  rw [← Nat.shiftLeft_eq, Nat.shiftLeft_add_eq_or_of_lt h]
theorem or64 {x y : Nat} (hy : y < LB) (h : x * LB + y < 18446744073709551616) : IntKind.u64.wrap ((BitVec.ofInt IntKind.u64.bits ((x * LB : Nat) : Int) ||| BitVec.ofInt IntKind.u64.bits ((y : Nat) : Int)).toNat : Int) = ((x * LB + y : Nat) : Int) := by
  have h1 : (BitVec.ofInt IntKind.u64.bits ((x * LB : Nat) : Int) ||| BitVec.ofInt IntKind.u64.bits ((y : Nat) : Int)).toNat = x * LB + y := by
    rw [BitVec.toNat_or, BitVec.ofInt_natCast, BitVec.ofInt_natCast, BitVec.toNat_ofNat, BitVec.toNat_ofNat]
    have hb : IntKind.u64.bits = 64 := rfl
    rw [hb, Nat.mod_eq_of_lt (by omega), Nat.mod_eq_of_lt (by omega)]
    have : LB = 2 ^ 32 := by decide
    rw [this] at hy ⊢
    exact or_add hy
  rw [h1, w64 h]
theorem shl32 {x : Nat} (h : x < LB) : IntKind.u64.wrap ((x : Int) * 2 ^ min (Int.toNat 32) IntKind.u64.bits) = ((x * LB : Nat) : Int) := by
  have h1 : ((2 : Int) ^ min (Int.toNat 32) IntKind.u64.bits) = 4294967296 := by decide
  rw [h1]
  have : (x : Int) * 4294967296 = ((x * LB : Nat) : Int) := by unfold LB; omega
  rw [this, w64 (by unfold LB at *; omega)]
theorem quo64 {x y : Nat} (hx : x < 18446744073709551616) : IntKind.u64.wrap ((x : Int).tdiv (y : Int)) = ((x / y : Nat) : Int) := by
  rw [show (x : Int).tdiv (y : Int) = ((x / y : Nat) : Int) from rfl]
  exact w64 (Nat.lt_of_le_of_lt (Nat.div_le_self _ _) hx)
theorem rem64 {x y : Nat} : (x : Int).tmod (y : Int) = ((x % y : Nat) : Int) := rfl
theorem p184 {a : List Nat} {q : Nat} (ha : Lim a) (hq : 0 < q) (hq' : q < LB) (hna : a.length ≤ 1099511627775) :
    Pu rp 181 [.sl (lm a), .int .u32 (q : Int)] (.tup [.p (.sl (lm (dgl (val a / q)))), .p (.int .u32 ((val a % q : Nat) : Int))]) := by
  refine pu_of rp184 ?_
  have m1 : ((4 : Nat) : Int) * (a.length : Int) ≤ 281474976710656 := by omega
  have m2 : (a.length : Int) ≤ 9223372036854775807 := by omega
  have w1 : IntKind.i64.wrap ((a.length : Int) - 1) = (a.length : Int) - 1 := IntWalk.i64_in _ (by omega)
  have hq0 : (q : Int) ≠ 0 := by omega
  simp only [f181, args0, SA, setCells, Int.reduceLE, Int.reduceLT, ↓reduceIte, reduceCtorEq, Nat.reduceLT, Nat.reduceEqDiff, Nat.reduceAdd, Nat.reduceMul, Nat.reduceLeDiff, Nat.reduceBEq, lm_len, m1, m2, w1, Int.natCast_nonneg, Int.toNat_natCast, Int.le_refl, lm_rep]
  refine loop_rule (β := Nat × List Nat × Nat) (fun t => ([(0, .p (.sl (lm a))), (1, .p (.int .u32 (q : Int))), (6, .own 0 0 a.length), (7, .p (.int .u64 (t.2.2 : Int))), (8, i64 ((t.1 : Int) - 1))], [.prow 1 (lm (List.replicate t.1 0 ++ t.2.1))]))
    (fun t => t.1 ≤ a.length ∧ t.2.1.length = a.length - t.1 ∧ Lim t.2.1 ∧ t.2.2 < q ∧ val (a.drop t.1) = val t.2.1 * q + t.2.2) (fun t => t.1) ((a.length, [], 0) : Nat × List Nat × Nat) rfl (by simp) ⟨Nat.le_refl _, by simp, (fun _ hx => nomatch hx), hq, by simp [val]⟩ ?_
  rintro ⟨n, o, r⟩ ⟨hn, ho, hlo, hr, hv⟩ ih
  simp only [] at hn ho hlo hr hv ih ⊢
  by_cases h0 : ((n : Int) - 1) ≥ 0
  · obtain ⟨m, rfl⟩ : ∃ m, n = m + 1 := ⟨n - 1, by omega⟩
    have hm : m < a.length := hn
    have hi : ((m + 1 : Nat) : Int) - 1 = (m : Int) := by omega
    rw [hi] at h0
    have hw : IntKind.i64.wrap ((m : Int) - 1) = (m : Int) - 1 := IntWalk.i64_in _ (by omega)
    have hrl : r < LB := Nat.lt_trans hr hq'
    have hs : r * LB + a[m] < 18446744073709551616 := by
      have := Nat.mul_le_mul_right LB (show r ≤ LB - 1 by omega)
      have h1 := ha.get hm
      rw [show (LB - 1) * LB = 18446744069414584320 by decide] at this
      unfold LB at *
      omega
    have hdl : (r * LB + a[m]) / q < LB := by
      rw [Nat.div_lt_iff_lt_mul hq]
      have h1 := ha.get hm
      have h2 := Nat.mul_le_mul_right LB (show r + 1 ≤ q from hr)
      rw [Nat.add_mul, Nat.one_mul] at h2
      rw [Nat.mul_comm LB q]
      omega
    have hrep : 0 :: (List.replicate m 0 ++ o) = List.replicate (m + 1) 0 ++ o := rfl
    have hget : (lm (0 :: (List.replicate m 0 ++ o)))[m]? = some (.int .u32 0) := by
      have : (0 :: (List.replicate m 0 ++ o))[m]? = some 0 := by rw [hrep, List.getElem?_append_left (by simp)]; simp
      exact lm_get? this
    have hset : ∀ v, (0 :: (List.replicate m 0 ++ o)).set m v = List.replicate m 0 ++ (v :: o) := by
      intro v
      rw [hrep, List.replicate_succ', List.append_assoc, List.set_append_right _ _ (by simp)]
      simp
    have hmod := Nat.mod_eq_of_lt hdl
    simp only [SA, setCells, Int.reduceLE, Int.reduceLT, ↓reduceIte, reduceCtorEq, Nat.reduceLT, Nat.reduceEqDiff, Nat.reduceAdd, Nat.reduceMul, Nat.reduceLeDiff, Nat.reduceBEq, lm_len, hi, h0, shl32 hrl, lm_get hm, w64l (ha.get hm), or64 (ha.get hm) hs, quo64 hs, rem64, w64l hq', w32, hmod, binV_quo hq0, binV_rem hq0, Int.natCast_nonneg, Int.toNat_natCast, hm, hget, lm_set, hset, hw]
    refine ih (m, (r * LB + a[m]) / q :: o, (r * LB + a[m]) % q) _ ⟨by omega, by simp [ho]; omega, ?_, Nat.mod_lt _ hq, ?_⟩ (by simp) ?_
    · intro y hy
      rcases List.mem_cons.1 hy with rfl | hy
      · exact hdl
      · exact hlo y hy
    · rw [List.drop_eq_getElem_cons hm, val, val, hv]
      have h1 := Nat.div_add_mod (r * LB + a[m]) q
      have g1 : LB * (val o * q + r) = LB * (val o * q) + LB * r := Nat.mul_add ..
      have g2 : ((r * LB + a[m]) / q + LB * val o) * q = (r * LB + a[m]) / q * q + LB * val o * q := Nat.add_mul ..
      have g3 : LB * val o * q = LB * (val o * q) := Nat.mul_assoc ..
      have g4 : (r * LB + a[m]) / q * q = q * ((r * LB + a[m]) / q) := Nat.mul_comm ..
      have g5 : r * LB = LB * r := Nat.mul_comm ..
      rw [g1, g2, g3, g4]
      show a[m] + (LB * (val o * q) + LB * r) = q * ((r * LB + a[m]) / q) + LB * (val o * q) + (r * LB + a[m]) % q
      omega
    · rfl
  · obtain rfl : n = 0 := by omega
    rw [List.drop_zero] at hv
    have hvq : val o = val a / q := by
      rw [hv, Nat.mul_comm, Nat.mul_add_div hq, Nat.div_eq_of_lt hr]; omega
    have hvr : r = val a % q := by
      rw [hv, Nat.mul_comm, Nat.mul_add_mod, Nat.mod_eq_of_lt hr]
    have htr := p144 hlo (by omega)
    rw [hvq] at htr
    have h0' : ¬ (((0 : Nat) : Int) - 1 ≥ 0) := by omega
    have hrl : r % LB = r := Nat.mod_eq_of_lt (Nat.lt_trans hr hq')
    rw [List.replicate_zero, List.nil_append]
    simp only [SA, setCells, Int.reduceLE, Int.reduceLT, ↓reduceIte, reduceCtorEq, Nat.reduceLT, Nat.reduceEqDiff, Nat.reduceAdd, Nat.reduceMul, Nat.reduceLeDiff, Nat.reduceBEq, lm_len, h0']
    rw [kf_own htr rfl (show a.length = (lm o).length by rw [lm_len, ho]; omega)]
    simp only [SA, setCells, Int.reduceLE, Int.reduceLT, ↓reduceIte, reduceCtorEq, Nat.reduceLT, Nat.reduceEqDiff, Nat.reduceAdd, Nat.reduceMul, Nat.reduceLeDiff, Nat.reduceBEq, w32, hrl]
    rw [← hvr]
    exact back_t2 back1_p back1_p
end Go.Proofs.Ytdpdnplljonppaa.VBn

namespace Go.Proofs.Ytdpdnplljonppaa.VBn
open Go Vpi
set_option maxRecDepth 100000
set_option linter.unusedSimpArgs false
set_option linter.unusedVariables false
theorem LB_split {n : Nat} (h : n ≤ 32) : LB = 2 ^ (32 - n) * 2 ^ n := by
  rw [← Nat.pow_add, show 32 - n + n = 32 by omega]
  decide
theorem shlv {x n : Nat} (hx : x < LB) (hn : n < 32) : IntKind.u64.wrap ((x : Int) * 2 ^ min n IntKind.u64.bits) = ((x * 2 ^ n : Nat) : Int) ∧ x * 2 ^ n < 18446744073709551616 := by
  have h1 : min n IntKind.u64.bits = n := by show min n 64 = n; omega
  have h2 : x * 2 ^ n < 18446744073709551616 := by
    have h3 : 2 ^ n ≤ 2 ^ 31 := Nat.pow_le_pow_right (by decide) (by omega)
    have h4 := Nat.mul_le_mul (show x ≤ LB - 1 by omega) h3
    have h5 : (LB - 1) * 2 ^ 31 < 18446744073709551616 := by decide
    omega
  rw [h1, show (x : Int) * 2 ^ n = ((x * 2 ^ n : Nat) : Int) by push_cast; rfl]
  exact ⟨w64 h2, h2⟩
theorem or32 {h k n : Nat} (hh : h < 2 ^ n) (hs : h + k * 2 ^ n < LB) : IntKind.u32.wrap ((BitVec.ofInt IntKind.u32.bits ((h : Nat) : Int) ||| BitVec.ofInt IntKind.u32.bits ((k * 2 ^ n : Nat) : Int)).toNat : Int) = ((h + k * 2 ^ n : Nat) : Int) := by
  have h1 : (BitVec.ofInt IntKind.u32.bits ((h : Nat) : Int) ||| BitVec.ofInt IntKind.u32.bits ((k * 2 ^ n : Nat) : Int)).toNat = h + k * 2 ^ n := by
    rw [BitVec.toNat_or, BitVec.ofInt_natCast, BitVec.ofInt_natCast, BitVec.toNat_ofNat, BitVec.toNat_ofNat]
    have hb : 2 ^ IntKind.u32.bits = LB := by decide
    rw [hb, Nat.mod_eq_of_lt (by omega), Nat.mod_eq_of_lt (by omega), Nat.or_comm, or_add hh, Nat.add_comm]
  rw [h1, w32, Nat.mod_eq_of_lt hs]
theorem shl_parts {x n : Nat} (hx : x < LB) (hn : n < 32) : ∃ k, x * 2 ^ n % LB = k * 2 ^ n ∧ k < 2 ^ (32 - n) ∧ x * 2 ^ n / LB < 2 ^ n := by
  have hs := LB_split (n := n) (by omega)
  refine ⟨x % 2 ^ (32 - n), ?_, Nat.mod_lt _ (Nat.pow_pos (by decide)), ?_⟩
  · rw [hs, Nat.mul_mod_mul_right]
  · rw [Nat.div_lt_iff_lt_mul LB_pos, Nat.mul_comm]
    exact Nat.mul_lt_mul_of_pos_left hx (Nat.pow_pos (by decide))
theorem n144 {σ : Store} {b : Nat} {l : List Nat} (hb : σ[b]? = some (.prow 1 (lm l))) (hl : Lim l) (hn : l.length ≤ 1099511627776) {Q : CV → Store → Prop}
    (hq : ∀ k, k ≤ l.length → l.take k = dgl (val l) → Q (.own b 0 k) σ) : Rn rp 127 [.own b 0 l.length] σ Q := by
  rw [rn_of rp144]
  simp only [f127, args0, SA, setCells, Int.reduceLE, Int.reduceLT, ↓reduceIte, reduceCtorEq, Nat.reduceLT, Nat.reduceEqDiff, Nat.reduceAdd, Nat.reduceMul, Nat.reduceLeDiff, Nat.reduceBEq]
  refine bloop (β := Nat) (γ := Nat) (fun n => ([(0, .own b 0 n)], σ)) (fun n => n ≤ l.length ∧ ∀ i, n ≤ i → ∀ x, l[i]? = some x → x = 0) (fun n => n)
    (fun n => ([(0, .own b 0 n)], σ)) (fun n => n ≤ l.length ∧ trimL l = l.take n) l.length rfl rfl ⟨Nat.le_refl _, fun i hi x hx => ?_⟩ ?_ ?_
  · rw [List.getElem?_eq_none hi] at hx; cases hx
  · rintro ks' n ⟨hnl, hz⟩ ih hx
    by_cases h0 : (n : Int) > 0
    · obtain ⟨m, rfl⟩ : ∃ m, n = m + 1 := ⟨n - 1, by omega⟩
      have hm : m < l.length := hnl
      have hmm : m < m + 1 := Nat.lt_succ_self _
      have hi : IntKind.i64.wrap (((m + 1 : Nat) : Int) - 1) = (m : Int) := by rw [IntWalk.i64_in _ (by omega)]; omega
      have hg := lm_get hm
      have hs : sliceV σ 1 (.own b 0 (m + 1)) 0 m = some (.own b 0 m) := by
        simp [sliceV, bsz, hb]
      by_cases hx0 : l[m] = 0
      · have e1 : (((l[m] : Nat) : Int) == 0) = true := by simp [hx0]
        simp only [SA, setCells, Int.reduceLE, Int.reduceLT, ↓reduceIte, reduceCtorEq, Nat.reduceLT, Nat.reduceEqDiff, Nat.reduceAdd, Nat.reduceMul, Nat.reduceLeDiff, Nat.reduceBEq, h0, hi, Int.natCast_nonneg, Int.toNat_natCast, hmm, hb, hg, e1, hs]
        refine ih m _ ⟨by omega, fun i hi x hx => ?_⟩ (by omega) ?_
        · rcases Nat.lt_or_ge m i with h1 | h1
          · exact hz i h1 x hx
          · obtain rfl : i = m := by omega
            rw [List.getElem?_eq_getElem hm] at hx
            cases hx
            exact hx0
        · rfl
      · have e1 : (((l[m] : Nat) : Int) == 0) = false := by simp [hx0]
        simp only [SA, setCells, Int.reduceLE, Int.reduceLT, ↓reduceIte, reduceCtorEq, Nat.reduceLT, Nat.reduceEqDiff, Nat.reduceAdd, Nat.reduceMul, Nat.reduceLeDiff, Nat.reduceBEq, h0, hi, Int.natCast_nonneg, Int.toNat_natCast, hmm, hb, hg, e1]
        refine hx (m + 1) _ ⟨hnl, trimL_take hz (.inr ⟨l[m], by simp, hx0⟩)⟩ ?_
        rfl
    · simp only [SA, setCells, Int.reduceLE, Int.reduceLT, ↓reduceIte, reduceCtorEq, Nat.reduceLT, Nat.reduceEqDiff, Nat.reduceAdd, Nat.reduceMul, Nat.reduceLeDiff, Nat.reduceBEq, h0]
      obtain rfl : n = 0 := by omega
      refine hx 0 _ ⟨Nat.zero_le _, trimL_take hz (.inl rfl)⟩ ?_
      rfl
  · rintro n ⟨hnl, ht⟩
    simp only [SA, setCells, Int.reduceLE, Int.reduceLT, ↓reduceIte, reduceCtorEq, Nat.reduceLT, Nat.reduceEqDiff, Nat.reduceAdd, Nat.reduceMul, Nat.reduceLeDiff, Nat.reduceBEq]
    exact hq n hnl (by rw [← trimL_dgl hl, ht])
theorem n186 {a : List Nat} {n : Nat} (ha : Lim a) (hna : a.length ≤ 500000000000) (hn : n < 32) (hz : val a ≠ 0) {σ : Store} (hwf : Wf σ) {Q : CV → Store → Prop}
    (hq : ∀ L k, Lim L → k ≤ L.length → L.length ≤ 500000000001 → L.take k = dgl (val a * 2 ^ n) → Wf (σ ++ [.prow 1 (lm L)]) → Q (.own σ.length 0 k) (σ ++ [.prow 1 (lm L)])) : Rn rp 183 [.p (.sl (lm a)), .p (.int .i64 (n : Int))] σ Q := by
  rw [rn_of rp186]
  obtain ⟨x, hxd⟩ : ∃ x, x = dgl (val a) := ⟨_, rfl⟩
  have k1 : Pu rp 127 [.sl (lm a)] (.p (.sl (lm x))) := by rw [hxd]; exact p144 ha (by omega)
  have hx : Lim x := by rw [hxd]; exact dgl_lim _
  have hlx : x.length ≤ 500000000000 := by rw [hxd]; exact Nat.le_trans (dgl_len (val_lt ha)) hna
  have hva : val a = val x := by rw [hxd, val_dgl]
  rw [hva] at hq hz
  clear hxd hva
  have h0 : x.length ≠ 0 := by
    intro h
    rw [List.eq_nil_of_length_eq_zero h] at hz
    exact hz rfl
  have e0 : ((x.length : Int) == 0) = false := by rw [beq_eq_false_iff_ne]; omega
  have e1 : IntKind.i64.wrap ((n : Int).tdiv 32) = 0 := by
    have : (n : Int).tdiv 32 = 0 := by rw [Int.tdiv_eq_ediv_of_nonneg (by omega)]; omega
    rw [this]; decide
  have e2 : (n : Int).tmod 32 = (n : Int) := by rw [Int.tmod_eq_emod_of_nonneg (by omega)]; omega
  have e3 : IntKind.u64.wrap (n : Int) = (n : Int) := w64 (by omega)
  have e4 : IntKind.i64.wrap ((x.length : Int) + 0) = (x.length : Int) := by rw [IntWalk.i64_in _ (by omega)]; omega
  have e5 : IntKind.i64.wrap ((x.length : Int) + 1) = ((x.length + 1 : Nat) : Int) := by rw [IntWalk.i64_in _ (by omega)]; omega
  have m1 : ((4 : Nat) : Int) * ((x.length + 1 : Nat) : Int) ≤ 281474976710656 := by omega
  have m2 : ((x.length + 1 : Nat) : Int) ≤ 9223372036854775807 := by omega
  simp only [f183, args0, SA, setCells, Int.reduceLE, Int.reduceLT, ↓reduceIte, reduceCtorEq, Nat.reduceLT, Nat.reduceEqDiff, Nat.reduceAdd, Nat.reduceMul, Nat.reduceLeDiff, Nat.reduceBEq, kp1 k1, lm_len, e0, e1, e2, e3, e4, e5, m1, m2, binV_quo (b := 32) (by decide), binV_rem (b := 32) (by decide), Int.natCast_nonneg, Int.toNat_natCast, Int.le_refl, lm_rep]
  refine loop_rule (β := Nat × List Nat × Nat) (fun t => ([(0, .p (.sl (lm x))), (5, .p (.int .i64 0)), (6, .p (.int .u64 (n : Int))), (7, .own σ.length 0 (x.length + 1)), (27, i64 x.length), (28, i64 t.1)], σ ++ [.prow 1 (lm (t.2.1 ++ t.2.2 :: List.replicate (x.length - t.1) 0))]))
    (fun t => t.1 ≤ x.length ∧ t.2.1.length = t.1 ∧ Lim t.2.1 ∧ t.2.2 < 2 ^ n ∧ val t.2.1 + LB ^ t.1 * t.2.2 = val (x.take t.1) * 2 ^ n) (fun t => x.length - t.1) ((0, [], 0) : Nat × List Nat × Nat) rfl rfl ⟨Nat.zero_le _, rfl, (fun _ hx => nomatch hx), Nat.pow_pos (by decide), by simp [val]⟩ ?_
  rintro ⟨i, o, h⟩ ⟨hi, ho, hlo, hh, hv⟩ ih
  simp only [] at hi ho hlo hh hv ih ⊢
  by_cases hin : (i : Int) < x.length
  · have hix : i < x.length := by omega
    have hil : i < x.length + 1 := by omega
    have hil2 : i + 1 < x.length + 1 := by omega
    obtain ⟨sv, sb⟩ := shlv (hx.get hix) hn
    obtain ⟨k, hk1, hk2, hk3⟩ := shl_parts (hx.get hix) hn
    have hPL : 2 ^ n ≤ LB := by rw [LB_split (n := n) (by omega)]; exact Nat.le_mul_of_pos_left _ (Nat.pow_pos (by decide))
    have hsum : h + k * 2 ^ n < LB := by
      have h6 : (k + 1) * 2 ^ n ≤ 2 ^ (32 - n) * 2 ^ n := Nat.mul_le_mul_right _ hk2
      rw [← LB_split (n := n) (by omega), Nat.add_mul, Nat.one_mul] at h6
      omega
    have hor := or32 hh hsum
    have hdm : x[i] * 2 ^ n / LB % LB = x[i] * 2 ^ n / LB := Nat.mod_eq_of_lt (by omega)
    have hg1 : (lm (o ++ h :: List.replicate (x.length - i) 0))[i]? = some (.int .u32 (h : Nat)) := by
      have : (o ++ h :: List.replicate (x.length - i) 0)[i]? = some h := by rw [List.getElem?_append_right (by omega), ho, Nat.sub_self]; rfl
      exact lm_get? this
    have hs1 : ∀ v, (o ++ h :: List.replicate (x.length - i) 0).set i v = o ++ v :: List.replicate (x.length - i) 0 := by
      intro v
      rw [List.set_append_right _ _ (by omega), ho, Nat.sub_self]
      rfl
    have hrp : List.replicate (x.length - i) 0 = 0 :: List.replicate (x.length - (i + 1)) 0 := by
      rw [show x.length - i = (x.length - (i + 1)) + 1 by omega]; rfl
    have hg2 : ∀ v, (lm (o ++ v :: List.replicate (x.length - i) 0))[i + 1]? = some (.int .u32 0) := by
      intro v
      have : (o ++ v :: List.replicate (x.length - i) 0)[i + 1]? = some 0 := by rw [List.getElem?_append_right (by omega), ho, hrp, show i + 1 - i = 1 by omega]; rfl
      exact lm_get? this
    have hs2 : ∀ v u, (o ++ v :: List.replicate (x.length - i) 0).set (i + 1) u = (o ++ [v]) ++ u :: List.replicate (x.length - (i + 1)) 0 := by
      intro v u
      rw [List.set_append_right _ _ (by omega), ho, hrp, show i + 1 - i = 1 by omega, List.append_assoc]
      rfl
    have e6 : IntKind.i64.wrap ((i : Int) + 0) = (i : Int) := by rw [IntWalk.i64_in _ (by omega)]; omega
    have e7 : IntKind.i64.wrap ((i : Int) + 1) = ((i + 1 : Nat) : Int) := by rw [IntWalk.i64_in _ (by omega)]; omega
    simp only [SA, setCells, Int.reduceLE, Int.reduceLT, ↓reduceIte, reduceCtorEq, Nat.reduceLT, Nat.reduceEqDiff, Nat.reduceAdd, Nat.reduceMul, Nat.reduceLeDiff, Nat.reduceBEq, lm_len, hin, lm_get hix, w64l (hx.get hix), sv, w32, hk1, hor, sh32, hdm, e6, e7, Int.natCast_nonneg, Int.toNat_natCast, hil, hil2, hg1, hg2, lm_set, hs1]
    have hs2' := hs2 (h + k * 2 ^ n) (x[i] * 2 ^ n / LB)
    rw [hs2']
    refine ih (i + 1, o ++ [h + k * 2 ^ n], x[i] * 2 ^ n / LB) _ ⟨by omega, by simp [ho], hlo.append (.one hsum), hk3, ?_⟩ (by simp; omega) ?_
    · rw [val_append, ho, val_one, val_take_succ hix, Nat.add_mul, ← hv]
      have h7 := Nat.mod_add_div (x[i] * 2 ^ n) LB
      rw [hk1] at h7
      have h8 : LB ^ i * (k * 2 ^ n) + LB ^ (i + 1) * (x[i] * 2 ^ n / LB) = LB ^ i * x[i] * 2 ^ n := by
        rw [Nat.pow_succ, Nat.mul_assoc (LB ^ i) LB, ← Nat.mul_add, h7, Nat.mul_assoc]
      rw [Nat.mul_add]
      show val o + (LB ^ i * h + LB ^ i * (k * 2 ^ n)) + LB ^ (i + 1) * (x[i] * 2 ^ n / LB) = _
      omega
    · rfl
  · obtain rfl : i = x.length := by omega
    have hPL : 2 ^ n ≤ LB := by rw [LB_split (n := n) (by omega)]; exact Nat.le_mul_of_pos_left _ (Nat.pow_pos (by decide))
    have hfin : o ++ h :: List.replicate (x.length - x.length) 0 = o ++ [h] := by simp
    have hval : val (o ++ [h]) = val x * 2 ^ n := by rw [val_append, val_one, ho, hv, List.take_length]
    have hL : Lim (o ++ [h]) := hlo.append (.one (show h < LB by omega))
    rw [hfin]
    simp only [SA, setCells, Int.reduceLE, Int.reduceLT, ↓reduceIte, reduceCtorEq, Nat.reduceLT, Nat.reduceEqDiff, Nat.reduceAdd, Nat.reduceMul, Nat.reduceLeDiff, Nat.reduceBEq, lm_len, hin]
    have hlen : (o ++ [h]).length = x.length + 1 := by simp [ho]
    refine kc_keep' ?_
    rw [← hlen]
    refine n144 (by rw [get_app0]; rfl) hL (by omega) fun k hk ht => ?_
    simp only [SA, setCells, Int.reduceLE, Int.reduceLT, ↓reduceIte, reduceCtorEq, Nat.reduceLT, Nat.reduceEqDiff, Nat.reduceAdd, Nat.reduceMul, Nat.reduceLeDiff, Nat.reduceBEq]
    exact hq _ k hL hk (by omega) (by rw [ht, hval]) (hwf.push rfl)
theorem p186 {a : List Nat} {n : Nat} (ha : Lim a) (hna : a.length ≤ 500000000000) (hn : n < 32) (hz : val a ≠ 0) : Pu rp 183 [.sl (lm a), .int .i64 (n : Int)] (.p (.sl (lm (dgl (val a * 2 ^ n))))) := by
  unfold Pu
  refine n186 ha hna hn hz Wf.nil fun L k hL hk hl ht hw => ?_
  have hf : frz1 [.prow 1 (lm L)] (.own 0 0 k) = some (.sl (lm (dgl (val a * 2 ^ n)))) := by
    simp [frz1, lm_len, hk, lm_take, ht]
  simp only [List.nil_append, List.length_nil, back, back1, Nat.not_lt_zero, if_false, hf, Option.map_some]
theorem shr_next {x0 W n : Nat} (hx : x0 < LB) (hn : n ≤ 32) : ∃ d, (x0 + LB * (W % LB)) / 2 ^ n % LB = d ∧ d < LB ∧ (x0 + LB * W) / 2 ^ n = d + LB * (W / 2 ^ n) := by
  have hs := LB_split hn
  have hP : 0 < 2 ^ n := Nat.pow_pos (by decide)
  generalize 2 ^ (32 - n) = M at hs
  generalize 2 ^ n = P at hs hP ⊢
  have hM : 0 < M := by
    rcases Nat.eq_zero_or_pos M with h | h
    · rw [h, Nat.zero_mul] at hs; have := LB_pos; omega
    · exact h
  have hx0 : x0 / P < M := by rw [Nat.div_lt_iff_lt_mul hP, ← hs]; exact hx
  -- the quotient of x0 + LB * V
  have hq : ∀ V, (x0 + LB * V) / P = x0 / P + M * V := by
    intro V
    rw [hs, show M * P * V = P * (M * V) by rw [Nat.mul_comm M P, Nat.mul_assoc], Nat.add_mul_div_left _ _ hP]
  have hWm : W % LB % P = W % P := by rw [hs]; exact Nat.mod_mul_left_mod W M P
  refine ⟨x0 / P + M * (W % P), ?_, ?_, ?_⟩
  · rw [hq]
    have h1 : M * (W % LB) = M * (W % P) + LB * (W % LB / P) := by
      have := Nat.mod_add_div (W % LB) P
      rw [hWm] at this
      calc M * (W % LB) = M * (W % P + P * (W % LB / P)) := by rw [this]
        _ = M * (W % P) + LB * (W % LB / P) := by rw [Nat.mul_add, hs, Nat.mul_assoc]
    rw [h1, ← Nat.add_assoc, Nat.add_mul_mod_self_left]
    refine Nat.mod_eq_of_lt ?_
    have h2 : W % P + 1 ≤ P := Nat.mod_lt _ hP
    have h3 := Nat.mul_le_mul_left M h2
    rw [Nat.mul_add, Nat.mul_one, ← hs] at h3
    omega
  · have h2 : W % P + 1 ≤ P := Nat.mod_lt _ hP
    have h3 := Nat.mul_le_mul_left M h2
    rw [Nat.mul_add, Nat.mul_one, ← hs] at h3
    omega
  · rw [hq]
    have := Nat.mod_add_div W P
    calc x0 / P + M * W = x0 / P + M * (W % P + P * (W / P)) := by rw [this]
      _ = x0 / P + M * (W % P) + LB * (W / P) := by rw [Nat.mul_add, hs, Nat.mul_assoc, Nat.add_assoc]
theorem shrv {v n : Nat} (hn : n < 32) : ((v : Int).fdiv (2 ^ min n IntKind.u64.bits)) = ((v / 2 ^ n : Nat) : Int) := by
  have h1 : min n IntKind.u64.bits = n := by show min n 64 = n; omega
  rw [h1, Int.fdiv_eq_ediv_of_nonneg _ (Int.le_of_lt (Int.pow_pos (by decide))), show (2 : Int) ^ n = ((2 ^ n : Nat) : Int) by push_cast; rfl]
  rfl
theorem or64' {x y : Nat} (hy : y < LB) (hx : x < LB) : IntKind.u64.wrap ((BitVec.ofInt IntKind.u64.bits ((y : Nat) : Int) ||| BitVec.ofInt IntKind.u64.bits ((x * LB : Nat) : Int)).toNat : Int) = ((y + LB * x : Nat) : Int) := by
  have h := or64 (x := x) hy (by
    have := Nat.mul_le_mul_right LB (show x ≤ LB - 1 by omega)
    rw [show (LB - 1) * LB = 18446744069414584320 by decide] at this
    unfold LB at *
    omega)
  rw [BitVec.or_comm, h, Nat.mul_comm, Nat.add_comm]
theorem drop_mod {x : List Nat} (hx : Lim x) {i : Nat} : val (x.drop i) % LB = lg x i := by
  rcases Nat.lt_or_ge i x.length with h | h
  · rw [List.drop_eq_getElem_cons h, val, lg_in h, Nat.add_mul_mod_self_left, Nat.mod_eq_of_lt (hx.get h)]
  · rw [List.drop_of_length_le h, lg_out h]; rfl
theorem p188 {a : List Nat} {n : Nat} (ha : Lim a) (hna : a.length ≤ 500000000000) (hn : n < 32) : Pu rp 185 [.sl (lm a), .int .i64 (n : Int)] (.p (.sl (lm (dgl (val a / 2 ^ n))))) := by
  refine pu_of rp188 ?_
  obtain ⟨x, hxd⟩ : ∃ x, x = dgl (val a) := ⟨_, rfl⟩
  have k1 : Pu rp 127 [.sl (lm a)] (.p (.sl (lm x))) := by rw [hxd]; exact p144 ha (by omega)
  have hx : Lim x := by rw [hxd]; exact dgl_lim _
  have hlx : x.length ≤ 500000000000 := by rw [hxd]; exact Nat.le_trans (dgl_len (val_lt ha)) hna
  have hva : val a = val x := by rw [hxd, val_dgl]
  rw [hva]
  clear hxd hva
  have e1 : IntKind.i64.wrap ((n : Int).tdiv 32) = 0 := by
    have : (n : Int).tdiv 32 = 0 := by rw [Int.tdiv_eq_ediv_of_nonneg (by omega)]; omega
    rw [this]; decide
  have e2 : (n : Int).tmod 32 = (n : Int) := by rw [Int.tmod_eq_emod_of_nonneg (by omega)]; omega
  have e3 : IntKind.u64.wrap (n : Int) = (n : Int) := w64 (by omega)
  by_cases h0 : (0 : Int) ≥ x.length
  · have h00 : x = [] := List.eq_nil_of_length_eq_zero (by omega)
    subst h00
    simp only [f185, args0, SA, setCells, Int.reduceLE, Int.reduceLT, ↓reduceIte, reduceCtorEq, Nat.reduceLT, Nat.reduceEqDiff, Nat.reduceAdd, Nat.reduceMul, Nat.reduceLeDiff, Nat.reduceBEq, kp1 k1, lm_len, e1, e2, e3, binV_quo (b := 32) (by decide), binV_rem (b := 32) (by decide), h0]
    rw [val, Nat.zero_div, dgl_zero]
    rfl
  have e4 : IntKind.i64.wrap ((x.length : Int) - 0) = (x.length : Int) := by rw [IntWalk.i64_in _ (by omega)]; omega
  have m1 : ((4 : Nat) : Int) * (x.length : Int) ≤ 281474976710656 := by omega
  have m2 : (x.length : Int) ≤ 9223372036854775807 := by omega
  simp only [f185, args0, SA, setCells, Int.reduceLE, Int.reduceLT, ↓reduceIte, reduceCtorEq, Nat.reduceLT, Nat.reduceEqDiff, Nat.reduceAdd, Nat.reduceMul, Nat.reduceLeDiff, Nat.reduceBEq, kp1 k1, lm_len, h0, e1, e2, e3, e4, m1, m2, binV_quo (b := 32) (by decide), binV_rem (b := 32) (by decide), Int.natCast_nonneg, Int.toNat_natCast, Int.le_refl, lm_rep]
  refine loop_rule (β := Nat × List Nat) (fun t => ([(0, .p (.sl (lm x))), (5, .p (.int .i64 0)), (6, .p (.int .u64 (n : Int))), (7, .own 0 0 x.length), (27, i64 x.length), (28, i64 t.1)], [.prow 1 (lm (t.2 ++ List.replicate (x.length - t.1) 0))]))
    (fun t => t.1 ≤ x.length ∧ t.2.length = t.1 ∧ Lim t.2 ∧ val t.2 + LB ^ t.1 * (val (x.drop t.1) / 2 ^ n) = val x / 2 ^ n) (fun t => x.length - t.1) ((0, []) : Nat × List Nat) rfl rfl ⟨Nat.zero_le _, rfl, (fun _ hx => nomatch hx), by simp [val]⟩ ?_
  rintro ⟨i, o⟩ ⟨hi, ho, hlo, hv⟩ ih
  simp only [] at hi ho hlo hv ih ⊢
  by_cases hin : (i : Int) < x.length
  · have hix : i < x.length := by omega
    obtain ⟨d, hd1, hd2, hd3⟩ := shr_next (W := val (x.drop (i + 1))) (hx.get hix) (show n ≤ 32 by omega)
    rw [drop_mod hx] at hd1
    have hget : (lm (o ++ List.replicate (x.length - i) 0))[i]? = some (.int .u32 0) := by
      have : (o ++ List.replicate (x.length - i) 0)[i]? = some 0 := by rw [show x.length - i = (x.length - i - 1) + 1 by omega, List.getElem?_append_right (by omega), ho, Nat.sub_self]; rfl
      exact lm_get? this
    have hset : ∀ v, (o ++ List.replicate (x.length - i) 0).set i v = o ++ v :: List.replicate (x.length - (i + 1)) 0 := by
      intro v
      rw [show x.length - i = (x.length - (i + 1)) + 1 by omega, ← ho, set_next, List.append_assoc]
      rfl
    have hfold : ∀ v, o ++ v :: List.replicate (x.length - (i + 1)) 0 = (o ++ [v]) ++ List.replicate (x.length - (i + 1)) 0 := by
      intro v
      rw [List.append_assoc]
      rfl
    have hnew : val (o ++ [d]) + LB ^ (i + 1) * (val (x.drop (i + 1)) / 2 ^ n) = val x / 2 ^ n := by
      rw [List.drop_eq_getElem_cons hix, val, hd3] at hv
      rw [val_append, ho, val_one, ← hv, Nat.pow_succ, Nat.mul_add, Nat.mul_assoc]
      omega
    have e6 : IntKind.i64.wrap ((i : Int) + 0) = (i : Int) := by rw [IntWalk.i64_in _ (by omega)]; omega
    have e7 : IntKind.i64.wrap ((i : Int) + 1) = ((i + 1 : Nat) : Int) := by rw [IntWalk.i64_in _ (by omega)]; omega
    by_cases hi1 : ((i + 1 : Nat) : Int) < x.length
    · have hix1 : i + 1 < x.length := by omega
      rw [lg_in hix1] at hd1
      simp only [SA, setCells, Int.reduceLE, Int.reduceLT, ↓reduceIte, reduceCtorEq, Nat.reduceLT, Nat.reduceEqDiff, Nat.reduceAdd, Nat.reduceMul, Nat.reduceLeDiff, Nat.reduceBEq, lm_len, hin, lm_get hix, lm_get hix1, w64l (hx.get hix), w64l (hx.get hix1), e6, e7, hi1, shl32 (hx.get hix1), or64' (hx.get hix) (hx.get hix1), shrv hn, w32, hd1, Int.natCast_nonneg, Int.toNat_natCast, hix, hget, lm_set, hset]
      rw [hfold]
      refine ih (i + 1, o ++ [d]) _ ⟨by omega, by simp [ho], hlo.append (.one hd2), hnew⟩ (by simp; omega) ?_
      rfl
    · rw [lg_out (by omega), Nat.mul_zero, Nat.add_zero] at hd1
      simp only [SA, setCells, Int.reduceLE, Int.reduceLT, ↓reduceIte, reduceCtorEq, Nat.reduceLT, Nat.reduceEqDiff, Nat.reduceAdd, Nat.reduceMul, Nat.reduceLeDiff, Nat.reduceBEq, lm_len, hin, lm_get hix, w64l (hx.get hix), e6, e7, hi1, shrv hn, w32, hd1, Int.natCast_nonneg, Int.toNat_natCast, hix, hget, lm_set, hset]
      rw [hfold]
      refine ih (i + 1, o ++ [d]) _ ⟨by omega, by simp [ho], hlo.append (.one hd2), hnew⟩ (by simp; omega) ?_
      rfl
  · obtain rfl : i = x.length := by omega
    have hval : val o = val x / 2 ^ n := by
      rw [List.drop_length, val, Nat.zero_div, Nat.mul_zero, Nat.add_zero] at hv
      exact hv
    have htr := p144 hlo (by omega)
    rw [hval] at htr
    have hfin : o ++ List.replicate (x.length - x.length) 0 = o := by simp
    rw [hfin]
    simp only [SA, setCells, Int.reduceLE, Int.reduceLT, ↓reduceIte, reduceCtorEq, Nat.reduceLT, Nat.reduceEqDiff, Nat.reduceAdd, Nat.reduceMul, Nat.reduceLeDiff, Nat.reduceBEq, lm_len, hin]
    rw [kf_own htr rfl (by rw [lm_len, ho])]
    simp only [SA, setCells, Int.reduceLE, Int.reduceLT, ↓reduceIte, reduceCtorEq, Nat.reduceLT, Nat.reduceEqDiff, Nat.reduceAdd, Nat.reduceMul, Nat.reduceLeDiff, Nat.reduceBEq]
    rfl
end Go.Proofs.Ytdpdnplljonppaa.VBn

namespace Go.Proofs.Ytdpdnplljonppaa.VBn
open Go Vpi
set_option maxRecDepth 100000
set_option linter.unusedSimpArgs false
set_option linter.unusedVariables false
theorem rp187 : rp 184 = some f184 := rfl
theorem subStep' {x y w : Nat} (hx : x < LB) (hy : y < LB) (hw : w ≤ 1) : ∃ r w' : Nat, r < LB ∧ w' ≤ 1 ∧ r + y + w = x + w' * LB ∧
    IntKind.u32.wrap (IntKind.u64.wrap (IntKind.u64.wrap ((x : Int) - (y : Int)) - (w : Int))) = (r : Int) ∧ (IntKind.u64.wrap (IntKind.u64.wrap ((x : Int) - (y : Int)) - (w : Int))).fdiv (2 ^ min (Int.toNat 63) IntKind.u64.bits) = (w' : Int) := by
  rw [p63, IntKind.wrap_u64, IntKind.wrap_u64, IntKind.wrap_u32, Int.fdiv_eq_ediv_of_nonneg _ (by decide)]
  unfold LB at *
  by_cases h : w + y ≤ x
  · exact ⟨x - w - y, 0, by omega, by omega, by omega, by omega, by omega⟩
  · exact ⟨x + 4294967296 - w - y, 1, by omega, by omega, by omega, by omega, by omega⟩
theorem digNext {R : List Nat} {A B br c m x r br' i : Nat} (hR : R.length = i) (h : val R + A = B + LB ^ i * (br + c)) (hr : r + (c + m) % LB + br = x + br' * LB) :
    val (R ++ [r]) + (A + LB ^ i * m) = B + LB ^ i * x + LB ^ (i + 1) * (br' + (c + m) / LB) := by
  rw [val_append, hR, val_one, Nat.pow_succ]
  have h1 := Nat.mod_add_div (c + m) LB
  have h2 : LB ^ i * (r + (c + m) % LB + br) = LB ^ i * (x + br' * LB) := by rw [hr]
  have h3 : LB ^ i * ((c + m) % LB + LB * ((c + m) / LB)) = LB ^ i * (c + m) := by rw [h1]
  simp only [Nat.mul_add] at *
  rw [Nat.mul_comm br' LB, ← Nat.mul_assoc] at h2
  rw [← Nat.mul_assoc] at h3
  omega
theorem win_get {P W T : List Nat} {off i : Nat} (hP : P.length = off) (hi : i < W.length) : (lm (P ++ (W ++ T)))[off + i]? = some (.int .u32 (W[i] : Nat)) := by
  refine lm_get? ?_
  rw [List.getElem?_append_right (by omega), hP, Nat.add_sub_cancel_left, List.getElem?_append_left hi]
  simp
theorem win_set {P W T : List Nat} {off i v : Nat} (hP : P.length = off) (hi : i < W.length) : (P ++ (W ++ T)).set (off + i) v = P ++ (W.set i v ++ T) := by
  rw [List.set_append_right _ _ (by omega), hP, Nat.add_sub_cancel_left, List.set_append_left _ _ hi]
theorem new_get {R W : List Nat} {i : Nat} (hR : R.length = i) (hi : i < W.length) : (R ++ W.drop i)[i]? = some W[i] := by
  rw [List.getElem?_append_right (by omega), hR, Nat.sub_self, List.getElem?_drop, Nat.add_zero]
  simp
theorem new_set {R W : List Nat} {i v : Nat} (hR : R.length = i) (hi : i < W.length) : (R ++ W.drop i).set i v = (R ++ [v]) ++ W.drop (i + 1) := by
  rw [List.set_append_right _ _ (by omega), hR, Nat.sub_self, List.drop_eq_getElem_cons hi, List.set_cons_zero, List.append_assoc]
  rfl
section
variable {σ : Store} {b off : Nat} {P T v : List Nat}
theorem n187 {W0 : List Nat} (hb : b < σ.length) (hP : P.length = off) (hv : Lim v) (hn : 0 < v.length) (hnl : v.length ≤ 500000000000) (hW : Lim W0) (hWl : W0.length = v.length + 1)
    (htop : v[v.length - 1]'(by omega) ≠ 0) (hlt : val W0 < LB * val v) {Q : CV → Store → Prop}
    (hq : ∀ W : List Nat, W.length = v.length + 1 → Lim W → val W = val W0 % val v → Q (.p (.int .u32 ((val W0 / val v : Nat) : Int))) (σ.set b (.prow 1 (lm (P ++ (W ++ T)))))) :
    Rn rp 184 [.own b off (v.length + 1), .p (.sl (lm v))] (σ.set b (.prow 1 (lm (P ++ (W0 ++ T))))) Q := by
  rw [rn_of rp187]
  have hV : 0 < val v := by
    rcases Nat.eq_zero_or_pos (val v) with h | h
    · rw [h, Nat.mul_zero] at hlt; omega
    · exact h
  have hi1 : v.length - 1 < v.length := by omega
  have hw0 : v.length - 1 < W0.length := by omega
  have hw1 : v.length < W0.length := by omega
  have i1 : v.length - 1 < v.length + 1 := by omega
  have i2 : v.length < v.length + 1 := by omega
  have e1 : IntKind.i64.wrap ((v.length : Int) - 1) = ((v.length - 1 : Nat) : Int) := by rw [IntWalk.i64_in _ (by omega)]; omega
  have e2 : IntKind.i64.wrap ((v.length : Int) + 1) = ((v.length + 1 : Nat) : Int) := by rw [IntWalk.i64_in _ (by omega)]; omega
  have htl : W0[v.length] * LB + W0[v.length - 1] < 18446744073709551616 := by
    have h1 := hW.get hw1
    have h2 := hW.get hw0
    have := Nat.mul_le_mul_right LB (show W0[v.length] ≤ LB - 1 by omega)
    rw [show (LB - 1) * LB = 18446744069414584320 by decide] at this
    unfold LB at *
    omega
  have hd0 : ((v[v.length - 1] : Nat) : Int) ≠ 0 := by omega
  -- the guess
  obtain ⟨q, hqd, hq1, hq2⟩ : ∃ q : Nat, (if (4294967295 : Int) < (((W0[v.length] * LB + W0[v.length - 1]) / v[v.length - 1] : Nat) : Int) then (4294967295 : Int) else (((W0[v.length] * LB + W0[v.length - 1]) / v[v.length - 1] : Nat) : Int)) = (q : Int) ∧ q < LB ∧ val W0 < (q + 1) * val v := by
    by_cases h : (4294967295 : Int) < (((W0[v.length] * LB + W0[v.length - 1]) / v[v.length - 1] : Nat) : Int)
    · exact ⟨4294967295, by rw [if_pos h]; rfl, by decide, hlt⟩
    · refine ⟨(W0[v.length] * LB + W0[v.length - 1]) / v[v.length - 1], by rw [if_neg h], by unfold LB at *; omega, ?_⟩
      have hd := Nat.lt_mul_div_succ (W0[v.length] * LB + W0[v.length - 1]) (show 0 < v[v.length - 1] by omega)
      generalize (W0[v.length] * LB + W0[v.length - 1]) / v[v.length - 1] = g at hd ⊢
      -- the numbers by their tops
      have s1 := val_split (l := W0) (i := v.length - 1) (by omega)
      have s2 := val_split (l := v) (i := v.length - 1) (by omega)
      have t1 := val_lt (hW.take (n := v.length - 1))
      rw [List.length_take, Nat.min_eq_left (by omega)] at t1
      have s3 : val (W0.drop (v.length - 1)) = W0[v.length - 1] + LB * W0[v.length] := by
        rw [List.drop_eq_getElem_cons hw0, val]
        simp only [show v.length - 1 + 1 = v.length by omega]
        rw [List.drop_eq_getElem_cons hw1, val, List.drop_of_length_le (by omega), val, Nat.mul_zero, Nat.add_zero]
      have s4 : val (v.drop (v.length - 1)) = v[v.length - 1] := by
        rw [List.drop_eq_getElem_cons hi1, val]
        simp only [show v.length - 1 + 1 = v.length by omega]
        rw [List.drop_length, val, Nat.mul_zero, Nat.add_zero]
      rw [s3] at s1
      rw [s4] at s2
      have h5 : W0[v.length - 1] + LB * W0[v.length] + 1 ≤ v[v.length - 1] * (g + 1) := by rw [Nat.mul_comm LB]; omega
      have h6 := Nat.mul_le_mul_left (LB ^ (v.length - 1)) h5
      have h7 : LB ^ (v.length - 1) * v[v.length - 1] * (g + 1) ≤ val v * (g + 1) := Nat.mul_le_mul_right _ (by rw [s2]; exact Nat.le_add_left _ _)
      rw [Nat.mul_comm (g + 1)]
      calc val W0 = val (W0.take (v.length - 1)) + LB ^ (v.length - 1) * (W0[v.length - 1] + LB * W0[v.length]) := s1
        _ < LB ^ (v.length - 1) + LB ^ (v.length - 1) * (W0[v.length - 1] + LB * W0[v.length]) := Nat.add_lt_add_right t1 _
        _ = LB ^ (v.length - 1) * (W0[v.length - 1] + LB * W0[v.length] + 1) := by rw [Nat.mul_add _ _ 1, Nat.mul_one, Nat.add_comm]
        _ ≤ LB ^ (v.length - 1) * (v[v.length - 1] * (g + 1)) := h6
        _ = LB ^ (v.length - 1) * v[v.length - 1] * (g + 1) := (Nat.mul_assoc ..).symm
        _ ≤ val v * (g + 1) := h7
  simp only [f184, args0, SA, setCells, Int.reduceLE, Int.reduceLT, ↓reduceIte, reduceCtorEq, Nat.reduceLT, Nat.reduceEqDiff, Nat.reduceAdd, Nat.reduceMul, Nat.reduceLeDiff, Nat.reduceBEq, lm_len, e1, e2, win_get hP hw0, win_get hP hw1, get_self hb, lm_get hi1, w64l (hW.get hw0), w64l (hW.get hw1), w64l (hv.get hi1), shl32 (hW.get hw1), or64 (hW.get hw0) htl, quo64 htl, binV_quo hd0, hqd, Int.natCast_nonneg, Int.toNat_natCast, i1, i2]
  refine loop_rule (β := Nat × List Nat × Nat × Nat) (fun t => ([(0, .own b off (v.length + 1)), (1, .p (.sl (lm v))), (5, i64 v.length), (7, .p (.int .u64 (q : Int))), (8, .p (.int .u64 (t.2.2.1 : Int))), (9, .p (.int .u64 (t.2.2.2 : Int))), (40, .p (.int .i64 ((v.length + 1 : Nat) : Int))), (41, i64 t.1)], σ.set b (.prow 1 (lm (P ++ (t.2.1 ++ (W0.drop t.1 ++ T)))))))
    (fun t => t.1 ≤ v.length + 1 ∧ t.2.1.length = t.1 ∧ Lim t.2.1 ∧ t.2.2.1 < LB ∧ t.2.2.2 ≤ 1 ∧ (t.1 = v.length + 1 → t.2.2.1 = 0) ∧ val t.2.1 + q * val (v.take t.1) = val (W0.take t.1) + LB ^ t.1 * (t.2.2.2 + t.2.2.1)) (fun t => v.length + 1 - t.1) ((0, [], 0, 0) : Nat × List Nat × Nat × Nat) rfl rfl
    ⟨Nat.zero_le _, rfl, (fun _ hx => nomatch hx), LB_pos, Nat.zero_le _, (fun h => rfl), by simp [val]⟩ ?_
  rintro ⟨i, R, c, br⟩ ⟨hi, hR, hlR, hc, hbr, hc0, hval⟩ ih
  simp only [] at hi hR hlR hc hbr hc0 hval ih ⊢
  by_cases hin : (i : Int) < ((v.length + 1 : Nat) : Int)
  · have hiw : i < W0.length := by omega
    have hil : i < v.length + 1 := by omega
    have hRd : i < (R ++ W0.drop i).length := by rw [List.length_append, List.length_drop]; omega
    have hg := win_get (T := T) hP hRd
    have hgv : (R ++ W0.drop i)[i] = W0[i] := by
      have := new_get hR hiw
      rw [List.getElem?_eq_getElem hRd] at this
      exact Option.some.inj this
    rw [hgv] at hg
    have hst : ∀ u, (P ++ ((R ++ W0.drop i) ++ T)).set (off + i) u = P ++ (((R ++ [u]) ++ W0.drop (i + 1)) ++ T) := by
      intro u
      rw [win_set hP hRd, new_set hR hiw]
    simp only [List.append_assoc, List.cons_append, List.nil_append] at hg hst
    have hfold : ∀ u, R ++ u :: (W0.drop (i + 1) ++ T) = (R ++ [u]) ++ (W0.drop (i + 1) ++ T) := by intro u; simp
    by_cases hiv : (i : Int) < v.length
    · have hiv' : i < v.length := by omega
      obtain ⟨b1, b2, b3, b4⟩ := mulBound hc hq1 (hv.get hiv') LB_pos
      simp only [Nat.add_zero] at b1 b3 b4
      obtain ⟨r, br', hr, hbr', hrel, e32, e63⟩ := subStep' (hW.get hiw) (Nat.mod_lt (c + q * v[i]) LB_pos) hbr
      have hnx := digNext hR hval hrel
      simp only [SA, setCells, Int.reduceLE, Int.reduceLT, ↓reduceIte, reduceCtorEq, Nat.reduceLT, Nat.reduceEqDiff, Nat.reduceAdd, Nat.reduceMul, Nat.reduceLeDiff, Nat.reduceBEq, lm_len, hin, hiv, w64m b2, w64s b3, lm_get hiv', w64l (hv.get hiv'), w64l (hW.get hiw), sh32, w32, w64l (Nat.mod_lt (c + q * v[i]) LB_pos), e32, e63, get_self hb, hg, hst, hil, lm_set, Int.natCast_nonneg, Int.toNat_natCast, List.set_set, IntWalk.i64_in ((i : Int) + 1) (by omega)]
      rw [hfold]
      refine ih (i + 1, R ++ [r], (c + q * v[i]) / LB, br') _ ⟨by omega, by simp [hR], hlR.append (.one hr), b4, hbr', (fun h => absurd h (by simp; omega)), ?_⟩ (by simp; omega) ?_
      · show val (R ++ [r]) + q * val (v.take (i + 1)) = val (W0.take (i + 1)) + LB ^ (i + 1) * (br' + (c + q * v[i]) / LB)
        rw [val_take_succ hiv', val_take_succ hiw, Nat.mul_add, ← hnx, Nat.mul_left_comm q]
      · rfl
    · obtain rfl : i = v.length := by omega
      obtain ⟨r, br', hr, hbr', hrel, e32, e63⟩ := subStep' (hW.get hiw) hc hbr
      have hcm : (c + 0) % LB = c := by rw [Nat.add_zero]; exact Nat.mod_eq_of_lt hc
      have hcd : (c + 0) / LB = 0 := by rw [Nat.add_zero]; exact Nat.div_eq_of_lt hc
      have hcd' : c / LB = 0 := Nat.div_eq_of_lt hc
      have hcm' : c % LB = c := Nat.mod_eq_of_lt hc
      have hnx := digNext (m := 0) hR hval (by rw [hcm]; exact hrel)
      rw [hcd, Nat.mul_zero, Nat.add_zero] at hnx
      simp only [SA, setCells, Int.reduceLE, Int.reduceLT, ↓reduceIte, reduceCtorEq, Nat.reduceLT, Nat.reduceEqDiff, Nat.reduceAdd, Nat.reduceMul, Nat.reduceLeDiff, Nat.reduceBEq, lm_len, hin, hiv, hW.get hiw, w64l (hW.get hiw), sh32, w32, hcm', hcd', w64l hc, e32, e63, get_self hb, hg, hst, hil, lm_set, Int.natCast_nonneg, Int.toNat_natCast, List.set_set, IntWalk.i64_in ((v.length : Int) + 1) (by omega)]
      rw [hfold]
      refine ih (v.length + 1, R ++ [r], 0, br') _ ⟨by omega, by simp [hR], hlR.append (.one hr), LB_pos, hbr', (fun _ => rfl), ?_⟩ (by simp) ?_
      · show val (R ++ [r]) + q * val (v.take (v.length + 1)) = val (W0.take (v.length + 1)) + LB ^ (v.length + 1) * (br' + 0)
        rw [List.take_of_length_le (Nat.le_succ _), val_take_succ hiw, Nat.add_zero, ← hnx, List.take_length]
      · rfl
  · obtain rfl : i = v.length + 1 := by omega
    obtain rfl := hc0 rfl
    rw [List.take_of_length_le (Nat.le_succ _), List.take_of_length_le (by omega), Nat.add_zero] at hval
    have hdn : W0.drop (v.length + 1) = [] := List.drop_of_length_le (by omega)
    rw [hdn]
    simp only [SA, setCells, Int.reduceLE, Int.reduceLT, ↓reduceIte, reduceCtorEq, Nat.reduceLT, Nat.reduceEqDiff, Nat.reduceAdd, Nat.reduceMul, Nat.reduceLeDiff, Nat.reduceBEq, hin]
    have hRl : R.length = v.length + 1 := hR
    refine loop_rule (β := List Nat × Nat × Nat) (fun t => ([(0, .own b off (v.length + 1)), (1, .p (.sl (lm v))), (5, i64 v.length), (7, .p (.int .u64 (t.2.1 : Int))), (9, .p (.int .u64 (t.2.2 : Int)))], σ.set b (.prow 1 (lm (P ++ (t.1 ++ T))))))
      (fun t => t.1.length = v.length + 1 ∧ Lim t.1 ∧ t.2.1 < LB ∧ t.2.2 ≤ 1 ∧ val t.1 + t.2.1 * val v = val W0 + LB ^ (v.length + 1) * t.2.2 ∧ val W0 < (t.2.1 + 1) * val v) (fun t => t.2.1) ((R, q, br) : List Nat × Nat × Nat) rfl rfl ⟨hRl, hlR, hq1, hbr, hval, hq2⟩ ?_
    rintro ⟨W, g, br⟩ ⟨hWl', hWL, hg, hbr, hv1, hv2⟩ ih2
    simp only [] at hWl' hWL hg hbr hv1 hv2 ih2 ⊢
    by_cases hb0 : (br : Int) > 0
    · obtain rfl : br = 1 := by omega
      have hWlt := val_lt hWL
      rw [hWl'] at hWlt
      rw [Nat.mul_one] at hv1
      obtain ⟨g', rfl⟩ : ∃ g', g = g' + 1 := by
        rcases Nat.eq_zero_or_pos g with h | h
        · rw [h, Nat.zero_mul] at hv1; omega
        · exact ⟨g - 1, by omega⟩
      have hgw : IntKind.u64.wrap (((g' + 1 : Nat) : Int) - 1) = (g' : Int) := by
        rw [show ((g' + 1 : Nat) : Int) - 1 = (g' : Int) by omega]
        exact w64 (by unfold LB at hg; omega)
      rw [Nat.add_mul, Nat.one_mul] at hv1
      simp only [SA, setCells, Int.reduceLE, Int.reduceLT, ↓reduceIte, reduceCtorEq, Nat.reduceLT, Nat.reduceEqDiff, Nat.reduceAdd, Nat.reduceMul, Nat.reduceLeDiff, Nat.reduceBEq, hb0, hgw, e2]
      refine loop_rule (β := Nat × List Nat × Nat) (fun t => ([(0, .own b off (v.length + 1)), (1, .p (.sl (lm v))), (5, i64 v.length), (7, .p (.int .u64 (g' : Int))), (9, .p (.int .u64 ((1 : Nat) : Int))), (13, .p (.int .u64 (t.2.2 : Int))), (83, .p (.int .i64 ((v.length + 1 : Nat) : Int))), (84, i64 t.1)], σ.set b (.prow 1 (lm (P ++ (t.2.1 ++ (W.drop t.1 ++ T)))))))
        (fun t => t.1 ≤ v.length + 1 ∧ t.2.1.length = t.1 ∧ Lim t.2.1 ∧ t.2.2 ≤ 1 ∧ val t.2.1 + LB ^ t.1 * t.2.2 = val (W.take t.1) + val (v.take t.1)) (fun t => v.length + 1 - t.1) ((0, [], 0) : Nat × List Nat × Nat) rfl rfl
        ⟨Nat.zero_le _, rfl, (fun _ hx => nomatch hx), Nat.zero_le _, by simp [val]⟩ ?_
      rintro ⟨i, R, c⟩ ⟨hi, hR, hlR, hc, hval⟩ ih3
      simp only [] at hi hR hlR hc hval ih3 ⊢
      by_cases hin3 : (i : Int) < ((v.length + 1 : Nat) : Int)
      · have hiw : i < W.length := by omega
        have hil : i < v.length + 1 := by omega
        have hRd : i < (R ++ W.drop i).length := by rw [List.length_append, List.length_drop]; omega
        have hgt := win_get (T := T) hP hRd
        have hgv : (R ++ W.drop i)[i] = W[i] := by
          have := new_get hR hiw
          rw [List.getElem?_eq_getElem hRd] at this
          exact Option.some.inj this
        rw [hgv] at hgt
        have hst : ∀ u, (P ++ ((R ++ W.drop i) ++ T)).set (off + i) u = P ++ (((R ++ [u]) ++ W.drop (i + 1)) ++ T) := by
          intro u
          rw [win_set hP hRd, new_set hR hiw]
        simp only [List.append_assoc, List.cons_append, List.nil_append] at hgt hst
        have hfold : ∀ u, R ++ u :: (W.drop (i + 1) ++ T) = (R ++ [u]) ++ (W.drop (i + 1) ++ T) := by intro u; simp
        obtain ⟨k1, k2, k3⟩ := carry1 hc (hWL.get hiw) (lg_lt hv (i := i))
        have hstp := addStep (x := W[i]) (y := lg v i) hR hval
        have hta := val_take_lg (l := W) (i := i)
        have htb := val_take_lg (l := v) (i := i)
        rw [lg_in hiw] at hta
        rw [← hta, ← htb] at hstp
        by_cases hiv : (i : Int) < v.length
        · have hiv' : i < v.length := by omega
          rw [lg_in hiv'] at hstp k1 k2
          simp only [SA, setCells, Int.reduceLE, Int.reduceLT, ↓reduceIte, reduceCtorEq, Nat.reduceLT, Nat.reduceEqDiff, Nat.reduceAdd, Nat.reduceMul, Nat.reduceLeDiff, Nat.reduceBEq, lm_len, hin3, hiv, lm_get hiv', w64l (hv.get hiv'), w64l (hWL.get hiw), w64s k3, w64s k2, sh32, w32, get_self hb, hgt, hst, hil, lm_set, Int.natCast_nonneg, Int.toNat_natCast, List.set_set, IntWalk.i64_in ((i : Int) + 1) (by omega)]
          rw [hfold]
          refine ih3 (i + 1, R ++ [(c + W[i] + v[i]) % LB], (c + W[i] + v[i]) / LB) _ ⟨by omega, by simp [hR], hlR.append (.one (Nat.mod_lt _ LB_pos)), k1, hstp⟩ (by simp; omega) ?_
          rfl
        · rw [lg_out (by omega), Nat.add_zero] at hstp k1 k2
          simp only [SA, setCells, Int.reduceLE, Int.reduceLT, ↓reduceIte, reduceCtorEq, Nat.reduceLT, Nat.reduceEqDiff, Nat.reduceAdd, Nat.reduceMul, Nat.reduceLeDiff, Nat.reduceBEq, lm_len, hin3, hiv, w64l (hWL.get hiw), w64s k3, sh32, w32, get_self hb, hgt, hst, hil, lm_set, Int.natCast_nonneg, Int.toNat_natCast, List.set_set, IntWalk.i64_in ((i : Int) + 1) (by omega)]
          rw [hfold]
          refine ih3 (i + 1, R ++ [(c + W[i]) % LB], (c + W[i]) / LB) _ ⟨by omega, by simp [hR], hlR.append (.one (Nat.mod_lt _ LB_pos)), k1, hstp⟩ (by simp; omega) ?_
          rfl
      · obtain rfl : i = v.length + 1 := by omega
        rw [List.take_of_length_le (Nat.le_of_eq hWl'), List.take_of_length_le (Nat.le_succ _)] at hval
        have hdn : W.drop (v.length + 1) = [] := List.drop_of_length_le (by omega)
        have hcw : IntKind.u64.wrap (((1 : Nat) : Int) - (c : Int)) = ((1 - c : Nat) : Int) := by
          rw [show ((1 : Nat) : Int) - (c : Int) = ((1 - c : Nat) : Int) by omega]
          exact w64 (by omega)
        rw [hdn]
        simp only [SA, setCells, Int.reduceLE, Int.reduceLT, ↓reduceIte, reduceCtorEq, Nat.reduceLT, Nat.reduceEqDiff, Nat.reduceAdd, Nat.reduceMul, Nat.reduceLeDiff, Nat.reduceBEq, hin3, hcw]
        refine ih2 (R, g', 1 - c) _ ⟨hR, hlR, (show g' < LB by omega), (show 1 - c ≤ 1 by omega), ?_, ?_⟩ (Nat.lt_succ_self _) ?_
        · show val R + g' * val v = val W0 + LB ^ (v.length + 1) * (1 - c)
          rcases Nat.lt_or_ge c 1 with h | h
          · obtain rfl : c = 0 := by omega
            rw [Nat.mul_zero] at hval
            rw [Nat.sub_zero, Nat.mul_one]
            omega
          · obtain rfl : c = 1 := by omega
            rw [Nat.mul_one] at hval
            rw [Nat.sub_self, Nat.mul_zero]
            omega
        · show val W0 < (g' + 1) * val v
          rw [Nat.add_mul, Nat.one_mul]
          omega
        · rfl
    · obtain rfl : br = 0 := by omega
      rw [Nat.mul_zero, Nat.add_zero] at hv1
      rw [Nat.add_mul, Nat.one_mul] at hv2
      have hlt' : val W < val v := by omega
      have hgq : val W0 / val v = g := by rw [← hv1, Nat.add_mul_div_right _ _ hV, Nat.div_eq_of_lt hlt', Nat.zero_add]
      have hgr : val W0 % val v = val W := by rw [← hv1, Nat.add_mul_mod_self_right, Nat.mod_eq_of_lt hlt']
      have hgl : g % LB = g := Nat.mod_eq_of_lt hg
      have hfin := hq W hWl' hWL hgr.symm
      rw [hgq] at hfin
      simp only [SA, setCells, Int.reduceLE, Int.reduceLT, ↓reduceIte, reduceCtorEq, Nat.reduceLT, Nat.reduceEqDiff, Nat.reduceAdd, Nat.reduceMul, Nat.reduceLeDiff, Nat.reduceBEq, hb0, w32, hgl]
      exact hfin
theorem k187 {W0 : List Nat} {rs : List RRes} {base : Nat} {d : Option Nat} {l : List LOp} {dr : Dr} {ks : List KI} {e : Env} {Q : CV → Store → Prop} (hb : b < σ.length) (hwf : Wf σ) (hP : P.length = off) (hv : Lim v) (hn : 0 < v.length) (hnl : v.length ≤ 500000000000) (hW : Lim W0) (hWl : W0.length = v.length + 1)
    (htop : v[v.length - 1]'(by omega) ≠ 0) (hlt : val W0 < LB * val v)
    (h : ∀ W : List Nat, W.length = v.length + 1 → Lim W → val W = val W0 % val v → ExR rp rs base l dr ks (sto d (.p (.int .u32 ((val W0 / val v : Nat) : Int))) e) (σ.set b (.prow 1 (lm (P ++ (W ++ T))))) Q) :
    KC rp rs base .full 184 [.own b off (v.length + 1), .p (.sl (lm v))] d l dr ks e (σ.set b (.prow 1 (lm (P ++ (W0 ++ T))))) Q := by
  unfold KC
  refine cl_full (n187 hb hP hv hn hnl hW hWl htop hlt fun W h1 h2 h3 => ?_)
  have hl : (σ.set b (.prow 1 (lm (P ++ (W0 ++ T))))).length = (σ.set b (.prow 1 (lm (P ++ (W ++ T))))).length := by rw [List.length_set, List.length_set]
  rw [hl, List.take_length]
  exact ⟨(hwf.set rfl).all, _, back_p, h W h1 h2 h3⟩
end
end Go.Proofs.Ytdpdnplljonppaa.VBn

namespace Go.Proofs.Ytdpdnplljonppaa.VBn
open Go Vpi
set_option maxRecDepth 100000
set_option linter.unusedSimpArgs false
set_option linter.unusedVariables false
theorem rp159 : rp 147 = some f147 := rfl
theorem dgl_len_mono {m n : Nat} (h : m ≤ n) : (dgl m).length ≤ (dgl n).length := by
  refine dgl_len (Nat.lt_of_le_of_lt h ?_)
  have := val_lt (dgl_lim n)
  rwa [val_dgl] at this
theorem norm_len {v t n : Nat} (h : v ≠ 0) (ht : (dgl v)[(dgl v).length - 1]? = some t) (hn : n = 32 - bl t) : (dgl (v * 2 ^ n)).length = (dgl v).length ∧ n < 32 ∧ t ≠ 0 := by
  have hpos := List.length_pos_iff.2 (dgl_ne h)
  have hlt : (dgl v).length - 1 < (dgl v).length := by omega
  rw [List.getElem?_eq_getElem hlt, Option.some.injEq] at ht
  have hs := val_take_succ hlt
  rw [ht, show (dgl v).length - 1 + 1 = (dgl v).length by omega, List.take_length, val_dgl] at hs
  have hlow := val_lt ((dgl_lim v).take (n := (dgl v).length - 1))
  rw [List.length_take, Nat.min_eq_left (by omega)] at hlow
  have ht0 : t ≠ 0 := by
    intro h0
    rw [h0, Nat.mul_zero, Nat.add_zero] at hs
    have := dgl_len (show v < LB ^ ((dgl v).length - 1) by omega)
    omega
  have htB : t < LB := by
    have := (dgl_lim v).get hlt
    omega
  obtain ⟨b1, b2, b3⟩ := bl_spec ht0
  have b4 := bl_le htB
  refine ⟨Nat.le_antisymm (dgl_len ?_) (dgl_len_mono (Nat.le_mul_of_pos_right _ (Nat.pow_pos (by decide)))), by omega, ht0⟩
  have e1 : LB ^ (dgl v).length = LB ^ ((dgl v).length - 1) * 2 ^ bl t * 2 ^ n := by
    rw [Nat.mul_assoc, ← Nat.pow_add, hn, show bl t + (32 - bl t) = 32 by omega]
    rw [show (2 : Nat) ^ 32 = LB from rfl, ← Nat.pow_succ]
    congr 1
    omega
  rw [e1]
  refine Nat.mul_lt_mul_of_pos_right ?_ (Nat.pow_pos (by decide))
  calc v = _ := hs
    _ < LB ^ ((dgl v).length - 1) * (t + 1) := by rw [Nat.mul_add, Nat.mul_one]; omega
    _ ≤ _ := Nat.mul_le_mul_left _ b2
theorem lt_of_cmp {x y : Nat} : cmpI x y < 0 ↔ x < y := by
  unfold cmpI
  split
  · simp; assumption
  · split
    · simp; omega
    · simp; omega
theorem p159l {a b : List Nat} (ha : Lim a) (hb : Lim b) (hna : a.length ≤ 400000000000) (hnb : b.length ≤ 400000000000) (h : val a < val b) :
    Pu rp 147 [.sl (lm a), .sl (lm b)] (.tup [.p (.sl (lm (dgl (val a / val b)))), .p (.sl (lm (dgl (val a % val b)))), .p (.int .i64 0)]) := by
  refine pu_of rp159 ?_
  have hda : (dgl (val a)).length ≤ a.length := dgl_len (val_lt ha)
  have hdb : (dgl (val b)).length ≤ b.length := dgl_len (val_lt hb)
  have k1 := p144 ha (by omega)
  have k2 := p144 hb (by omega)
  have hc := p177 (dgl_lim (val a)) (dgl_lim (val b)) (by omega) (by omega)
  have kn := p158 (dgl_lim (val a)) (by omega)
  rw [val_dgl] at kn
  rw [val_dgl, val_dgl] at hc
  have hci : cmpI (val a) (val b) < 0 := lt_of_cmp.2 h
  have hpos := List.length_pos_iff.2 (dgl_ne (show val b ≠ 0 by omega))
  have e0 : (((dgl (val b)).length : Int) == 0) = false := by rw [beq_eq_false_iff_ne]; omega
  rw [Nat.div_eq_of_lt h, Nat.mod_eq_of_lt h, dgl_zero]
  simp only [f147, args0, SA, setCells, Int.reduceLE, Int.reduceLT, ↓reduceIte, reduceCtorEq, Nat.reduceLT, Nat.reduceEqDiff, Nat.reduceAdd, Nat.reduceMul, Nat.reduceLeDiff, Nat.reduceBEq, kp1 k1, kp1 k2, lm_len, e0, kp2 hc, hci, kp1 kn]
  exact back_t3 back1_nils back1_p back1_p
theorem p159s {a b : List Nat} (ha : Lim a) (hb : Lim b) (hna : a.length ≤ 400000000000) (hnb : b.length ≤ 400000000000) (h : val b ≤ val a) (h1 : (dgl (val b)).length = 1) :
    Pu rp 147 [.sl (lm a), .sl (lm b)] (.tup [.p (.sl (lm (dgl (val a / val b)))), .p (.sl (lm (dgl (val a % val b)))), .p (.int .i64 0)]) := by
  refine pu_of rp159 ?_
  have hda : (dgl (val a)).length ≤ a.length := dgl_len (val_lt ha)
  have hdb : (dgl (val b)).length ≤ b.length := dgl_len (val_lt hb)
  have k1 := p144 ha (by omega)
  have k2 := p144 hb (by omega)
  have hc := p177 (dgl_lim (val a)) (dgl_lim (val b)) (by omega) (by omega)
  rw [val_dgl, val_dgl] at hc
  have hci : ¬ cmpI (val a) (val b) < 0 := by rw [lt_of_cmp]; omega
  obtain ⟨q, hq⟩ := List.length_eq_one_iff.1 h1
  have hqv : val b = q := by have := val_dgl (val b); rw [hq, val_one] at this; exact this.symm
  have hqB : q < LB := dgl_lim (val b) q (by rw [hq]; simp)
  have hq0 : q ≠ 0 := by
    intro h0
    rw [hqv, h0, dgl_zero] at hq
    cases hq
  have ks := p184 (dgl_lim (val a)) (Nat.pos_of_ne_zero hq0) hqB (by omega)
  rw [val_dgl] at ks
  have hr : val a % q < LB := Nat.lt_trans (Nat.mod_lt _ (Nat.pos_of_ne_zero hq0)) hqB
  have kr := p144 (Lim.one hr) (by simp)
  rw [val_one] at kr
  have e0 : (((1 : Nat) : Int) == 0) = false := rfl
  have e1 : (((1 : Nat) : Int) == 1) = true := rfl
  have i0 : Int.toNat 0 = 0 := rfl
  rw [hq] at k2 hc
  rw [hqv] at hc hci ⊢
  simp only [lm_cons, lm_nil] at k2 hc
  simp only [f147, args0, SA, setCells, Int.reduceLE, Int.reduceLT, ↓reduceIte, reduceCtorEq, Nat.reduceLT, Nat.reduceEqDiff, Nat.reduceAdd, Nat.reduceMul, Nat.reduceLeDiff, Nat.reduceBEq, kp1 k1, kp1 k2, lm_len, e0, e1, kp2 hc, hci, lm_cons, lm_nil, i0, kp2 ks]
  rw [kf_own (n := 1) kr rfl rfl]
  simp only [SA, setCells, Int.reduceLE, Int.reduceLT, ↓reduceIte, reduceCtorEq, Nat.reduceLT, Nat.reduceEqDiff, Nat.reduceAdd, Nat.reduceMul, Nat.reduceLeDiff, Nat.reduceBEq]
  exact back_t3 back1_p back1_p back1_p
end Go.Proofs.Ytdpdnplljonppaa.VBn

namespace Go.Proofs.Ytdpdnplljonppaa.VBn
open Go Vpi
set_option maxRecDepth 100000
set_option linter.unusedSimpArgs false
set_option linter.unusedVariables false
theorem kf_win {rs : List RRes} {base : Nat} {d : Option Nat} {l : List LOp} {dr : Dr} {ks : List KI} {e : Env} {σ : Store} {Q : CV → Store → Prop} {f b n : Nat} {es : List PV} {r : CV} (h : Pu rp f [.sl es] r) (hf : frz1 σ (.own b 0 n) = some (.sl es)) :
    KC rp rs base .fz f [.own b 0 n] d l dr ks e σ Q = ExR rp rs base l dr ks (sto d r e) (σ.set b .dead) Q :=
  kc_fz h (by simp only [frzs, frz, hf, Option.map_some])
structure DivI (A V m k : Nat) (i : Nat) (F q : List Nat) : Prop where
  hi : i ≤ m - k + 1
  ql : q.length = m - k + 1 - i
  qL : Lim q
  fl : m + 1 ≤ F.length
  fL : Lim F
  eq : val (F.take (m + 1)) + LB ^ i * (val q * V) = A
  lt : val (F.take (m + 1)) < V * LB ^ i
theorem DivI.split {A V m k j : Nat} {F q : List Nat} (h : DivI A V m k (j + 1) F q) (hk : k ≤ m) (hV : V < LB ^ k) :
    val (F.take (m + 1)) = val (F.take j) + LB ^ j * val ((F.drop j).take (k + 1)) ∧ val ((F.drop j).take (k + 1)) < LB * V ∧ val ((F.drop (j + (k + 1))).take (m + 1 - (j + (k + 1)))) = 0 := by
  have hj : j + (k + 1) ≤ m + 1 := by have := h.hi; omega
  have e1 : F.take (m + 1) = F.take j ++ ((F.drop j).take (k + 1) ++ (F.drop (j + (k + 1))).take (m + 1 - (j + (k + 1)))) := by
    rw [← List.drop_drop, ← List.take_add, ← List.take_add]
    congr 1
    omega
  have hfl := h.fl
  have l1 : (F.take j).length = j := by rw [List.length_take]; omega
  have l2 : ((F.drop j).take (k + 1)).length = k + 1 := by rw [List.length_take, List.length_drop]; omega
  have hv : val (F.take (m + 1)) = val (F.take j) + LB ^ j * (val ((F.drop j).take (k + 1)) + LB ^ (k + 1) * val ((F.drop (j + (k + 1))).take (m + 1 - (j + (k + 1))))) := by
    rw [e1, val_append, val_append, l1, l2]
  have hlt := h.lt
  have hz : val ((F.drop (j + (k + 1))).take (m + 1 - (j + (k + 1)))) = 0 := by
    rcases Nat.eq_zero_or_pos (val ((F.drop (j + (k + 1))).take (m + 1 - (j + (k + 1))))) with h0 | h0
    · exact h0
    · exfalso
      have h1 : LB ^ (k + 1) ≤ LB ^ (k + 1) * val ((F.drop (j + (k + 1))).take (m + 1 - (j + (k + 1)))) := Nat.le_mul_of_pos_right _ h0
      have h2 : LB ^ j * LB ^ (k + 1) ≤ val (F.take (m + 1)) := by
        rw [hv]
        exact Nat.le_trans (Nat.mul_le_mul_left _ (Nat.le_trans h1 (Nat.le_add_left _ _))) (Nat.le_add_left _ _)
      have h3 : V * LB ^ (j + 1) ≤ LB ^ k * LB ^ (j + 1) := Nat.mul_le_mul_right _ (Nat.le_of_lt hV)
      rw [← Nat.pow_add] at h2 h3
      rw [show k + (j + 1) = j + (k + 1) by omega] at h3
      exact absurd (Nat.lt_of_lt_of_le (Nat.lt_of_le_of_lt h2 hlt) h3) (Nat.lt_irrefl _)
  rw [hz, Nat.mul_zero, Nat.add_zero] at hv
  refine ⟨hv, ?_, hz⟩
  have h4 : LB ^ j * val ((F.drop j).take (k + 1)) < LB ^ j * (LB * V) := by
    have : V * LB ^ (j + 1) = LB ^ j * (LB * V) := by rw [Nat.pow_succ, Nat.mul_comm, Nat.mul_assoc]
    rw [← this]
    exact Nat.lt_of_le_of_lt (by rw [hv]; exact Nat.le_add_left _ _) hlt
  exact Nat.lt_of_mul_lt_mul_left h4
theorem DivI.step {A V m k j : Nat} {F q W : List Nat} (h : DivI A V m k (j + 1) F q) (hk : k ≤ m) (hV : V < LB ^ k) (hV0 : 0 < V) (hVB : val ((F.drop j).take (k + 1)) / V < LB)
    (hWl : W.length = k + 1) (hWL : Lim W) (hWv : val W = val ((F.drop j).take (k + 1)) % V) :
    DivI A V m k j (F.take j ++ (W ++ F.drop (j + (k + 1)))) (val ((F.drop j).take (k + 1)) / V :: q) := by
  obtain ⟨hv, hlt, hz⟩ := h.split hk hV
  have hi := h.hi
  have hfl := h.fl
  have l1 : (F.take j).length = j := by rw [List.length_take]; omega
  have hval : val ((F.take j ++ (W ++ F.drop (j + (k + 1)))).take (m + 1)) = val (F.take j) + LB ^ j * val W := by
    rw [List.take_append, List.take_append, l1, hWl, List.take_of_length_le (l := F.take j) (by omega), List.take_of_length_le (l := W) (by omega), val_append, val_append, l1, hWl, show m + 1 - j - (k + 1) = m + 1 - (j + (k + 1)) by omega, hz, Nat.mul_zero, Nat.add_zero]
  have hdm := Nat.mod_add_div (val ((F.drop j).take (k + 1))) V
  have hP := val_lt (h.fL.take (n := j))
  rw [l1] at hP
  refine ⟨by omega, by rw [List.length_cons, h.ql]; omega, ?_, by rw [List.length_append, List.length_append, l1, hWl, List.length_drop]; omega, (h.fL.take).append (hWL.append h.fL.drop), ?_, ?_⟩
  · intro y hy
    rcases List.mem_cons.1 hy with rfl | hy
    · exact hVB
    · exact h.qL y hy
  · rw [hval, hWv, val, ← h.eq, hv]
    generalize val ((F.drop j).take (k + 1)) = w at *
    have g1 : LB ^ j * w = LB ^ j * (w % V) + LB ^ j * (V * (w / V)) := by rw [← Nat.mul_add, hdm]
    have g2 : (w / V + LB * val q) * V = V * (w / V) + LB * (val q * V) := by rw [Nat.add_mul, Nat.mul_comm (w / V), Nat.mul_assoc]
    have g3 : LB ^ (j + 1) * (val q * V) = LB ^ j * (LB * (val q * V)) := by rw [Nat.pow_succ, Nat.mul_assoc]
    rw [g1, g2, g3, Nat.mul_add]
    omega
  · rw [hval, hWv, Nat.mul_comm V]
    have h1 := Nat.mod_lt (val ((F.drop j).take (k + 1))) hV0
    have h2 : LB ^ j * (val ((F.drop j).take (k + 1)) % V + 1) ≤ LB ^ j * V := Nat.mul_le_mul_left _ h1
    rw [Nat.mul_add, Nat.mul_one] at h2
    omega
theorem p159g {a b : List Nat} (ha : Lim a) (hb : Lim b) (hna : a.length ≤ 400000000000) (hnb : b.length ≤ 400000000000) (hge : val b ≤ val a) (h1 : 2 ≤ (dgl (val b)).length) :
    Pu rp 147 [.sl (lm a), .sl (lm b)] (.tup [.p (.sl (lm (dgl (val a / val b)))), .p (.sl (lm (dgl (val a % val b)))), .p (.int .i64 0)]) := by
  refine pu_of rp159 ?_
  have hda : (dgl (val a)).length ≤ a.length := dgl_len (val_lt ha)
  have hdb : (dgl (val b)).length ≤ b.length := dgl_len (val_lt hb)
  have hne : val b ≠ 0 := by intro h; rw [h, dgl_zero] at h1; simp at h1
  have hnea : val a ≠ 0 := by omega
  have k1 := p144 ha (by omega)
  have k2 := p144 hb (by omega)
  have hc := p177 (dgl_lim (val a)) (dgl_lim (val b)) (by omega) (by omega)
  rw [val_dgl, val_dgl] at hc
  have hkm : (dgl (val b)).length ≤ (dgl (val a)).length := dgl_len_mono hge
  obtain ⟨t, ht⟩ : ∃ t, (dgl (val b))[(dgl (val b)).length - 1]? = some t := ⟨_, List.getElem?_eq_getElem (by omega)⟩
  obtain ⟨n, hn⟩ : ∃ n, n = 32 - bl t := ⟨_, rfl⟩
  obtain ⟨hvl, hn32, ht0⟩ := norm_len hne ht hn
  have htB : t < LB := by
    have := (dgl_lim (val b)).get (show (dgl (val b)).length - 1 < (dgl (val b)).length by omega)
    rw [List.getElem?_eq_getElem (by omega), Option.some.injEq] at ht
    omega
  have h185 := p185 htB
  rw [← hn] at h185
  have s1 := p186 (n := n) (dgl_lim (val b)) (by omega) hn32 (by rw [val_dgl]; exact hne)
  rw [val_dgl] at s1
  have s2 := fun {Q} => n186 (n := n) (dgl_lim (val a)) (by omega) hn32 (by rw [val_dgl]; exact hnea) Wf.nil (Q := Q)
  simp only [val_dgl] at s2
  have hlx : (dgl (val a)).length ≤ 400000000000 := by omega
  have hly : (dgl (val b)).length ≤ 400000000000 := by omega
  -- the lists
  generalize hx : dgl (val a) = x at *
  generalize hy : dgl (val b) = y at *
  have e0 : ((y.length : Int) == 0) = false := by rw [beq_eq_false_iff_ne]; omega
  have e1 : ((y.length : Int) == 1) = false := by rw [beq_eq_false_iff_ne]; omega
  have hci : ¬ cmpI (val a) (val b) < 0 := by rw [lt_of_cmp]; omega
  have w1 : IntKind.i64.wrap ((y.length : Int) - 1) = ((y.length - 1 : Nat) : Int) := by rw [IntWalk.i64_in _ (by omega)]; omega
  have gt0 := lm_get? ht
  simp only [f147, args0, S1, S2, S3, S4, S5, r_idx, r_mks, ev, resultsV, resL, resV, vl, gt, st, sto, fgt, i64, subCV, fill, mkAgg, allP, bnd, unV, bsz, toPs, toP, isPure1, pureL, List.elem, List.replicate, frz, frz1, frzL, frzs, kill, kill1, killL, kills, setCells, Int.reduceLE, Int.reduceLT, ↓reduceIte, reduceCtorEq, Nat.reduceLT, Nat.reduceEqDiff, Nat.reduceAdd, Nat.reduceMul, Nat.reduceLeDiff, Nat.reduceBEq, kp1 k1, kp1 k2, lm_len, e0, e1, kp2 hc, hci, w1, gt0, kp1 h185, kp2 s1, Int.natCast_nonneg, Int.toNat_natCast]
  refine kc_keep' (s2 fun L kk hL hkk hLl htk hwf => ?_)
  generalize hD : dgl (val a * 2 ^ n) = D at htk
  have hDl : D.length = kk := by rw [← htk, List.length_take]; omega
  have hlen : (x.length ≤ D.length ∧ D.length ≤ x.length + 1) := by
    constructor
    · rw [← hx, ← hD]; exact dgl_len_mono (Nat.le_mul_of_pos_right _ (Nat.pow_pos (by decide)))
    · rw [← hD]
      refine dgl_len ?_
      have h1 := val_lt (dgl_lim (val a))
      rw [val_dgl, hx] at h1
      have h2 : 2 ^ n ≤ LB := by rw [LB_split (n := n) (by omega)]; exact Nat.le_mul_of_pos_left _ (Nat.pow_pos (by decide))
      rw [Nat.pow_succ]
      exact Nat.mul_lt_mul_of_lt_of_le h1 h2 LB_pos
  have hDL : Lim D := by rw [← hD]; exact dgl_lim _
  have c1 : content [Blk.prow 1 (lm L), Blk.prow 1 [.int .u32 0, .int .u32 0]] (.own 0 0 kk) = some (lm D) := by
    simp only [content, List.getElem?_cons_zero, Nat.zero_add, lm_len, hkk, if_true, List.drop_zero, lm_take, htk]
  have c2 : content [Blk.prow 1 (lm L), Blk.prow 1 [.int .u32 0, .int .u32 0]] (.own 1 0 2) = some [.int .u32 0, .int .u32 0] := rfl
  have m1 : (D.length + 2) * 4 ≤ 140737488355328 := by omega
  have w2 : IntKind.i64.wrap ((x.length : Int) + 1) = ((x.length + 1 : Nat) : Int) := by rw [IntWalk.i64_in _ (by omega)]; omega
  have w3 : IntKind.i64.wrap ((x.length : Int) - y.length) = ((x.length - y.length : Nat) : Int) := by rw [IntWalk.i64_in _ (by omega)]; omega
  have w4 : IntKind.i64.wrap (((x.length - y.length : Nat) : Int) + 1) = ((x.length - y.length + 1 : Nat) : Int) := by rw [IntWalk.i64_in _ (by omega)]; omega
  have m2 : x.length + 1 ≤ D.length + 2 := by omega
  have m3 : ((4 : Nat) : Int) * ((x.length - y.length + 1 : Nat) : Int) ≤ 281474976710656 := by omega
  have m4 : ((x.length - y.length + 1 : Nat) : Int) ≤ 9223372036854775807 := by omega
  have a1 : lm D ++ [PV.int .u32 0, .int .u32 0] = lm (D ++ [0, 0]) := by rw [← lm_append]; rfl
  simp only [S1, S2, S3, S4, S5, r_idx, r_mks, ev, resultsV, resL, resV, vl, gt, st, sto, fgt, i64, subCV, fill, mkAgg, allP, bnd, unV, bsz, toPs, toP, isPure1, pureL, List.elem, List.replicate, frz, frz1, frzL, frzs, kill, kill1, killL, kills, setCells, Int.reduceLE, Int.reduceLT, ↓reduceIte, reduceCtorEq, Nat.reduceLT, Nat.reduceEqDiff, Nat.reduceAdd, Nat.reduceMul, Nat.reduceLeDiff, Nat.reduceBEq, r_append, c1, c2, m1, lm_len, a1, w2, w3, w4, Int.natCast_nonneg, Int.toNat_natCast, sliceV, Nat.zero_le, m2, bsz, Nat.sub_zero, m3, m4, Int.le_refl, lm_rep]
  have hj0 : ((x.length - y.length + 1 : Nat) : Int) - 1 = ((x.length - y.length : Nat) : Int) := by omega
  have hbn : val b * 2 ^ n ≠ 0 := Nat.mul_ne_zero hne (Nat.ne_of_gt (Nat.pow_pos (by decide)))
  generalize hv : dgl (val b * 2 ^ n) = v at *
  have hvL : Lim v := by rw [← hv]; exact dgl_lim _
  have hV : val v = val b * 2 ^ n := by rw [← hv, val_dgl]
  have hVlt : val v < LB ^ y.length := by rw [← hvl]; exact val_lt hvL
  have htop : v[v.length - 1]'(by omega) ≠ 0 := by
    simp only [← hv]
    exact (norm_len hbn (List.getElem?_eq_getElem (by have := List.length_pos_iff.2 (dgl_ne hbn); omega)) rfl).2.2
  have hDv : val D = val a * 2 ^ n := by rw [← hD, val_dgl]
  have hI0 : DivI (val a * 2 ^ n) (val v) x.length y.length (x.length - y.length + 1) (D ++ [0, 0]) [] := by
    have t1 : (D ++ [0, 0]).take (x.length + 1) = D ++ List.replicate (x.length + 1 - D.length) 0 := by
      rw [List.take_append, List.take_of_length_le (by omega)]
      congr 1
      rcases (show x.length + 1 - D.length = 0 ∨ x.length + 1 - D.length = 1 by omega) with h | h <;> rw [h] <;> rfl
    have t2 : val ((D ++ [0, 0]).take (x.length + 1)) = val a * 2 ^ n := by
      rw [t1, val_append, val_rep, Nat.mul_zero, Nat.add_zero, hDv]
    have g1 : LB ^ (y.length - 1) ≤ val b := by
      rcases Nat.lt_or_ge (val b) (LB ^ (y.length - 1)) with h | h
      · have := dgl_len h; rw [hy] at this; omega
      · exact h
    have g2 : val a < LB ^ x.length := by have := val_lt (dgl_lim (val a)); rwa [val_dgl, hx] at this
    have g3 : LB ^ x.length = LB ^ (y.length - 1) * LB ^ (x.length - y.length + 1) := by rw [← Nat.pow_add]; congr 1; omega
    have g4 : val a < val b * LB ^ (x.length - y.length + 1) := Nat.lt_of_lt_of_le g2 (by rw [g3]; exact Nat.mul_le_mul_right _ g1)
    have hll : (D ++ [0, 0]).length = D.length + 2 := by rw [List.length_append]; rfl
    have hL2 : Lim (D ++ [0, 0]) := hDL.append (by intro y hy; simp at hy; rw [hy]; exact LB_pos)
    refine ⟨Nat.le_refl _, by rw [Nat.sub_self]; rfl, (fun _ h => by cases h), by rw [hll]; omega, hL2, by rw [t2]; simp [val], ?_⟩
    rw [t2, hV, Nat.mul_right_comm]
    exact Nat.mul_lt_mul_of_pos_right g4 (Nat.pow_pos (by decide))
  refine loop_rule (β := Nat × List Nat × List Nat) (fun t => ([(9, .p (.int .i64 (n : Int))), (10, .p (.sl (lm v))), (11, .own 2 0 (x.length + 1)), (12, .own 3 0 (x.length - y.length + 1)), (13, i64 ((t.1 : Int) - 1))],
      [.dead, .prow 1 [.int .u32 0, .int .u32 0], .prow 1 (lm t.2.1), .prow 1 (lm (List.replicate t.1 0 ++ t.2.2))]))
    (fun t => DivI (val a * 2 ^ n) (val v) x.length y.length t.1 t.2.1 t.2.2) (fun t => t.1) ((x.length - y.length + 1, D ++ [0, 0], []) : Nat × List Nat × List Nat) (by dsimp only; rw [hj0]; rfl) (by simp [List.replicate_succ]) hI0 ?_
  rintro ⟨i, F, q⟩ hI ih
  simp only [] at hI ih ⊢
  cases i with
  | zero =>
    have hneg : ¬ (((0 : Nat) : Int) - 1 ≥ 0) := by omega
    have htq := p144 hI.qL (by have := hI.ql; omega)
    have hFl := hI.fl
    have hFtl : (F.take (x.length + 1)).length = x.length + 1 := by rw [List.length_take]; omega
    have htf := p144 (l := F.take (x.length + 1)) hI.fL.take (by omega)
    have hval := hI.eq
    have hlt := hI.lt
    rw [Nat.pow_zero, Nat.one_mul, hV] at hval
    rw [Nat.pow_zero, Nat.mul_one, hV] at hlt
    have hp : 0 < val b * 2 ^ n := Nat.pos_of_ne_zero hbn
    have h2p : 0 < 2 ^ n := Nat.pow_pos (by decide)
    have q1 : val q = val a / val b := by
      rw [← Nat.mul_div_mul_right (val a) (val b) h2p, ← hval, Nat.add_mul_div_right _ _ hp, Nat.div_eq_of_lt hlt, Nat.zero_add]
    have q2 : val (F.take (x.length + 1)) / 2 ^ n = val a % val b := by
      have : val a * 2 ^ n % (val b * 2 ^ n) = val (F.take (x.length + 1)) := by rw [← hval, Nat.add_mul_mod_self_right, Nat.mod_eq_of_lt hlt]
      rw [← this, Nat.mul_mod_mul_right, Nat.mul_div_cancel _ h2p]
    have h188 := p188 (n := n) (dgl_lim (val (F.take (x.length + 1)))) (by have := dgl_len (val_lt (hI.fL.take (n := x.length + 1))); omega) hn32
    rw [val_dgl, q2] at h188
    rw [q1] at htq
    have hfz : frz1 [Blk.dead, Blk.prow 1 [.int .u32 0, .int .u32 0], Blk.prow 1 (lm F), Blk.dead] (.own 2 0 (x.length + 1)) = some (.sl (lm (F.take (x.length + 1)))) := by
      simp only [frz1, List.getElem?_cons_succ, List.getElem?_cons_zero, Nat.zero_add, lm_len, hFl, if_true, List.drop_zero, lm_take]
    have hqe : x.length - y.length + 1 = (lm q).length := by rw [lm_len, hI.ql]; omega
    have hq0 : List.replicate 0 0 ++ q = q := rfl
    simp only [S1, S2, S3, S4, S5, r_idx, r_mks, ev, resultsV, resL, resV, vl, gt, st, sto, fgt, i64, subCV, fill, mkAgg, allP, bnd, unV, bsz, toPs, toP, isPure1, pureL, List.elem, List.replicate, frz, frz1, frzL, frzs, kill, kill1, killL, kills, setCells, Int.reduceLE, Int.reduceLT, ↓reduceIte, reduceCtorEq, Nat.reduceLT, Nat.reduceEqDiff, Nat.reduceAdd, Nat.reduceMul, Nat.reduceLeDiff, Nat.reduceBEq, hneg, hq0]
    rw [kf_own htq rfl hqe]
    simp only [S1, S2, S3, S4, S5, r_idx, r_mks, ev, resultsV, resL, resV, vl, gt, st, sto, fgt, i64, subCV, fill, mkAgg, allP, bnd, unV, bsz, toPs, toP, isPure1, pureL, List.elem, List.replicate, frz, frz1, frzL, frzs, kill, kill1, killL, kills, setCells, Int.reduceLE, Int.reduceLT, ↓reduceIte, reduceCtorEq, Nat.reduceLT, Nat.reduceEqDiff, Nat.reduceAdd, Nat.reduceMul, Nat.reduceLeDiff, Nat.reduceBEq]
    rw [kf_win htf hfz]
    simp only [S1, S2, S3, S4, S5, r_idx, r_mks, ev, resultsV, resL, resV, vl, gt, st, sto, fgt, i64, subCV, fill, mkAgg, allP, bnd, unV, bsz, toPs, toP, isPure1, pureL, List.elem, List.replicate, frz, frz1, frzL, frzs, kill, kill1, killL, kills, setCells, Int.reduceLE, Int.reduceLT, ↓reduceIte, reduceCtorEq, Nat.reduceLT, Nat.reduceEqDiff, Nat.reduceAdd, Nat.reduceMul, Nat.reduceLeDiff, Nat.reduceBEq, kp2 h188]
    exact back_t3 back1_p back1_p back1_p
  | succ j =>
    have hge0 : ((j + 1 : Nat) : Int) - 1 ≥ 0 := by omega
    have hje : ((j + 1 : Nat) : Int) - 1 = (j : Int) := by omega
    have hi := hI.hi
    obtain ⟨hsp, hW0, hz⟩ := hI.split hkm hVlt
    have hFl := hI.fl
    have hVp : 0 < val v := by rw [hV]; exact Nat.pos_of_ne_zero hbn
    have hWq : val ((F.drop j).take (y.length + 1)) / val v < LB := (Nat.div_lt_iff_lt_mul hVp).2 hW0
    have hstep := fun W h1 h2 h3 => hI.step (W := W) hkm hVlt hVp hWq h1 h2 h3
    obtain ⟨P, hP⟩ : ∃ P, P = F.take j := ⟨_, rfl⟩
    obtain ⟨W0, hW⟩ : ∃ W0, W0 = (F.drop j).take (y.length + 1) := ⟨_, rfl⟩
    obtain ⟨T, hT⟩ : ∃ T, T = F.drop (j + (y.length + 1)) := ⟨_, rfl⟩
    rw [← hP, ← hW, ← hT] at hstep
    rw [← hW] at hW0 hWq
    have hFe : F = P ++ (W0 ++ T) := by rw [hP, hW, hT, ← List.drop_drop, List.take_append_drop, List.take_append_drop]
    have hPl : P.length = j := by rw [hP, List.length_take]; omega
    have hW0l : W0.length = v.length + 1 := by rw [hW, List.length_take, List.length_drop]; omega
    have hW0L : Lim W0 := by rw [hW]; exact hI.fL.drop.take
    have hwf0 : Wf [Blk.dead, Blk.prow 1 [PV.int .u32 0, PV.int .u32 0], Blk.dead, Blk.prow 1 (lm (List.replicate (j + 1) 0 ++ q))] := by
      intro x hx
      simp only [List.mem_cons, List.not_mem_nil, or_false] at hx
      rcases hx with rfl | rfl | rfl | rfl <;> rfl
    have k187' := fun {rs base d l dr ks e Q} h => k187 (P := P) (T := T) (off := j) (b := 2) (W0 := W0) (v := v) (σ := [Blk.dead, Blk.prow 1 [PV.int .u32 0, PV.int .u32 0], Blk.dead, Blk.prow 1 (lm (List.replicate (j + 1) 0 ++ q))]) (rs := rs) (base := base) (d := d) (l := l) (dr := dr) (ks := ks) (e := e) (Q := Q) (by simp) hwf0 hPl hvL (by omega) (by omega) hW0L hW0l htop hW0 h
    rw [hvl] at k187'
    have hje2 : ((x.length - y.length + 1 : Nat) : Int) = (x.length - y.length : Nat) + 1 := by omega
    have w5 : IntKind.i64.wrap ((j : Int) + y.length) = ((j + y.length : Nat) : Int) := by rw [IntWalk.i64_in _ (by omega)]; omega
    have w6 : IntKind.i64.wrap (((j + y.length : Nat) : Int) + 1) = ((j + y.length + 1 : Nat) : Int) := by rw [IntWalk.i64_in _ (by omega)]; omega
    have e3 : j + y.length + 1 - j = y.length + 1 := by omega
    have e4 : j ≤ j + y.length + 1 := by omega
    have e5 : j + y.length + 1 ≤ x.length + 1 := by omega
    have hjm : j < x.length - y.length + 1 := by omega
    have hset : (0 :: (List.replicate j 0 ++ q)).set j (val W0 / val v) = List.replicate j 0 ++ (val W0 / val v :: q) := by
      rw [← List.cons_append, ← List.replicate_succ, List.replicate_succ', List.append_assoc]
      rw [List.set_append_right _ _ (by rw [List.length_replicate]; omega), List.length_replicate, Nat.sub_self]
      rfl
    simp only [S1, S2, S3, S4, S5, r_idx, r_mks, ev, resultsV, resL, resV, vl, gt, st, sto, fgt, i64, subCV, fill, mkAgg, allP, bnd, unV, bsz, toPs, toP, isPure1, pureL, List.elem, List.replicate, frz, frz1, frzL, frzs, kill, kill1, killL, kills, setCells, Int.reduceLE, Int.reduceLT, ↓reduceIte, reduceCtorEq, Nat.reduceLT, Nat.reduceEqDiff, Nat.reduceAdd, Nat.reduceMul, Nat.reduceLeDiff, Nat.reduceBEq, hge0, hje, lm_len, hvl, w5, w6, sliceV, e4, e5, e3, bsz, Int.natCast_nonneg, Int.toNat_natCast]
    rw [hFe]
    refine k187' fun W h1 h2 h3 => ?_
    have hql : 0 < (lm (0 :: (List.replicate j 0 ++ q))).length := by simp [lm]
    have w7 : IntKind.i64.wrap ((j : Int) - 1) = (j : Int) - 1 := IntWalk.i64_in _ (by omega)
    have hJ := hstep W (by rw [h1]) h2 h3
    have hget : (lm (0 :: (List.replicate j 0 ++ q)))[j]? = some (.int .u32 ((0 : Nat) : Int)) := lm_get? (by
      rw [← List.cons_append, ← List.replicate_succ, List.getElem?_append_left (by rw [List.length_replicate]; omega), List.getElem?_replicate, if_pos (Nat.lt_succ_self _)])
    simp only [S1, S2, S3, S4, S5, r_idx, r_mks, ev, resultsV, resL, resV, vl, gt, st, sto, fgt, i64, subCV, fill, mkAgg, allP, bnd, unV, bsz, toPs, toP, isPure1, pureL, List.elem, List.replicate, frz, frz1, frzL, frzs, kill, kill1, killL, kills, setCells, Int.reduceLE, Int.reduceLT, ↓reduceIte, reduceCtorEq, Nat.reduceLT, Nat.reduceEqDiff, Nat.reduceAdd, Nat.reduceMul, Nat.reduceLeDiff, Nat.reduceBEq, hjm, hget, lm_set, hset, w7, Int.natCast_nonneg, Int.toNat_natCast]
    refine ih (j, P ++ (W ++ T), val W0 / val v :: q) _ hJ (Nat.lt_succ_self _) ?_
    rfl
theorem p159 {a b : List Nat} (ha : Lim a) (hb : Lim b) (hna : a.length ≤ 400000000000) (hnb : b.length ≤ 400000000000) (h0 : val b ≠ 0) :
    Pu rp 147 [.sl (lm a), .sl (lm b)] (.tup [.p (.sl (lm (dgl (val a / val b)))), .p (.sl (lm (dgl (val a % val b)))), .p (.int .i64 0)]) := by
  rcases Nat.lt_or_ge (val a) (val b) with h | h
  · exact p159l ha hb hna hnb h
  · have hl := List.length_pos_iff.2 (dgl_ne h0)
    rcases (show (dgl (val b)).length = 1 ∨ 2 ≤ (dgl (val b)).length by omega) with h1 | h1
    · exact p159s ha hb hna hnb h h1
    · exact p159g ha hb hna hnb h h1
end Go.Proofs.Ytdpdnplljonppaa.VBn

namespace Go.Proofs.Ytdpdnplljonppaa.VBn
open Go Vpi
set_option maxRecDepth 100000
set_option linter.unusedSimpArgs false
set_option linter.unusedVariables false
theorem rp77 : rp 55 = some f55 := rfl
theorem rp121 : rp 78 = some f78 := rfl
theorem rp146 : rp 131 = some f131 := rfl
theorem rp145 : rp 26 = some f26 := rfl
theorem rp157 : rp 137 = some f137 := rfl
theorem rp63 : rp 24 = some f24 := rfl
theorem rp134 : rp 112 = some f112 := rfl
def CapN : Nat := 100000000000
theorem CapN_eq : CapN = 100000000000 := by unfold CapN; rfl
attribute [irreducible] CapN
def iv (neg : Bool) (l : List Nat) : Int := if neg then -(val l : Int) else val l
def Nu (p : PV) (x : Int) : Prop := ∃ neg l, p = .agg [.bool neg, .sl (lm l)] ∧ Lim l ∧ l.length ≤ CapN ∧ x = iv neg l
def Sz (x : Int) : Prop := x.natAbs < LB ^ CapN
theorem iv_abs {neg : Bool} {l : List Nat} : (iv neg l).natAbs = val l := by
  unfold iv
  cases neg <;> simp
theorem mk_iv {neg : Bool} {v : Nat} : mk neg v = zi (if neg then -(v : Int) else v) := by
  unfold zi mk
  cases neg
  · simp; omega
  · by_cases h : v = 0
    · subst h; simp
    · simp [h]; omega
theorem mk_val {neg : Bool} {l : List Nat} : mk neg (val l) = zi (iv neg l) := mk_iv
theorem zi_raw {x : Int} : zi x = .agg [.bool (decide (x < 0) && decide (x.natAbs ≠ 0)), .sl (lm (dgl x.natAbs))] := rfl
theorem iv_dgl {x : Int} : iv (decide (x < 0) && decide (x.natAbs ≠ 0)) (dgl x.natAbs) = x := by
  unfold iv
  rw [val_dgl]
  by_cases h : x < 0
  · have : x.natAbs ≠ 0 := by omega
    simp [h, this]; omega
  · simp [h]; omega
theorem Nu.zi {x : Int} (h : Sz x) : Nu (zi x) x := ⟨_, _, zi_raw, dgl_lim _, dgl_len h, iv_dgl.symm⟩
theorem Nu.sz {p : PV} {x : Int} (h : Nu p x) : Sz x := by
  obtain ⟨neg, l, rfl, hl, hn, rfl⟩ := h
  unfold Sz
  rw [iv_abs]
  exact Nat.lt_of_lt_of_le (val_lt hl) (Nat.pow_le_pow_right LB_pos hn)
theorem Sz.neg {x : Int} (h : Sz x) : Sz (-x) := by unfold Sz at *; rwa [Int.natAbs_neg]
theorem p119 {l : List Nat} (hl : Lim l) (hn : l.length ≤ CapN) : Pu rp 109 [.sl (lm l)] (.p (.int .i64 (bl (val l) : Nat))) := by
  refine pu_of rp119 ?_
  rw [CapN_eq] at hn
  have k1 := p144 hl (by omega)
  have hd : (dgl (val l)).length ≤ l.length := dgl_len (val_lt hl)
  by_cases h0 : val l = 0
  · rw [h0, dgl_zero] at k1
    have e : (((([] : List Nat).length : Nat) : Int) == 0) = true := rfl
    simp only [f109, args0, SA, setCells, Int.reduceLE, Int.reduceLT, ↓reduceIte, reduceCtorEq, Nat.reduceLT, Nat.reduceEqDiff, Nat.reduceAdd, Nat.reduceMul, Nat.reduceLeDiff, Nat.reduceBEq, kp1 k1, lm_len, e]
    rw [h0, bl_zero]; rfl
  · have hpos := List.length_pos_iff.2 (dgl_ne h0)
    have e : (((dgl (val l)).length : Int) == 0) = false := by rw [beq_eq_false_iff_ne]; omega
    obtain ⟨t, ht⟩ : ∃ t, (dgl (val l))[(dgl (val l)).length - 1]? = some t := ⟨_, List.getElem?_eq_getElem (by omega)⟩
    obtain ⟨-, -, ht0⟩ := norm_len h0 ht rfl
    have htB : t < LB := by
      have := (dgl_lim (val l)).get (show (dgl (val l)).length - 1 < (dgl (val l)).length by omega)
      rw [List.getElem?_eq_getElem (by omega), Option.some.injEq] at ht
      omega
    have hb := bl_le htB
    have w1 : IntKind.i64.wrap (((dgl (val l)).length : Int) - 1) = (((dgl (val l)).length - 1 : Nat) : Int) := by rw [IntWalk.i64_in _ (by omega)]; omega
    have w2 : IntKind.i64.wrap (32 * (((dgl (val l)).length - 1 : Nat) : Int)) = ((32 * ((dgl (val l)).length - 1) : Nat) : Int) := by rw [IntWalk.i64_in _ (by omega)]; omega
    have w3 : IntKind.i64.wrap (((32 * ((dgl (val l)).length - 1) : Nat) : Int) + (bl t : Nat)) = ((32 * ((dgl (val l)).length - 1) + bl t : Nat) : Int) := by rw [IntWalk.i64_in _ (by omega)]; omega
    simp only [f109, args0, SA, setCells, Int.reduceLE, Int.reduceLT, ↓reduceIte, reduceCtorEq, Nat.reduceLT, Nat.reduceEqDiff, Nat.reduceAdd, Nat.reduceMul, Nat.reduceLeDiff, Nat.reduceBEq, kp1 k1, lm_len, e, w1, w2, Int.natCast_nonneg, Int.toNat_natCast, lm_get? ht, kp1 (p148 htB), w3]
    have hbl : bl (val l) = 32 * ((dgl (val l)).length - 1) + bl t := by
      have hlt : (dgl (val l)).length - 1 < (dgl (val l)).length := by omega
      have s := val_split (l := dgl (val l)) (i := (dgl (val l)).length - 1) (by omega)
      rw [List.getElem?_eq_getElem hlt, Option.some.injEq] at ht
      rw [List.drop_eq_getElem_cons hlt, val, ht, show (dgl (val l)).length - 1 + 1 = (dgl (val l)).length by omega, List.drop_length, val, Nat.mul_zero, Nat.add_zero, val_dgl] at s
      have hlow := val_lt ((dgl_lim (val l)).take (n := (dgl (val l)).length - 1))
      rw [List.length_take, Nat.min_eq_left (by omega)] at hlow
      have hLB : LB ^ ((dgl (val l)).length - 1) = 2 ^ (32 * ((dgl (val l)).length - 1)) := by rw [Nat.pow_mul]; rfl
      rw [hLB] at s hlow
      obtain ⟨b1, b2, b3⟩ := bl_spec ht0
      refine bl_eq h0 ?_ ?_
      · rw [show 32 * ((dgl (val l)).length - 1) + bl t - 1 = 32 * ((dgl (val l)).length - 1) + (bl t - 1) by omega, Nat.pow_add]
        exact Nat.le_trans (Nat.mul_le_mul_left _ b1) (Nat.le_trans (Nat.le_add_left _ _) (Nat.le_of_eq s.symm))
      · rw [Nat.pow_add]
        calc val l = _ := s
          _ < 2 ^ (32 * ((dgl (val l)).length - 1)) * (t + 1) := by rw [Nat.mul_add, Nat.mul_one]; omega
          _ ≤ _ := Nat.mul_le_mul_left _ b2
    rw [hbl]; rfl
theorem bl_eq0 {v : Nat} : bl v = 0 ↔ v = 0 := by
  unfold bl; split <;> simp [*]
theorem p121 {p : PV} {x : Int} (h : Nu p x) : Pu rp 78 [p] (.p (.int .i64 (bl x.natAbs : Nat))) := by
  obtain ⟨neg, l, rfl, hl, hn, rfl⟩ := h
  refine pu_of rp121 ?_
  rw [iv_abs]
  simp only [f78, args0, SA, setCells, Int.reduceLE, Int.reduceLT, ↓reduceIte, reduceCtorEq, Nat.reduceLT, Nat.reduceEqDiff, Nat.reduceAdd, Nat.reduceMul, Nat.reduceLeDiff, Nat.reduceBEq, kp1 (p119 hl hn)]
  rfl
theorem p77 {p : PV} {x : Int} (h : Nu p x) : Pu rp 55 [p] (.p (.int .i64 x.sign)) := by
  obtain ⟨neg, l, rfl, hl, hn, rfl⟩ := h
  refine pu_of rp77 ?_
  by_cases h0 : val l = 0
  · have e : ((bl (val l) : Int) == 0) = true := by rw [bl_eq0.2 h0]; rfl
    simp only [f55, args0, SA, setCells, Int.reduceLE, Int.reduceLT, ↓reduceIte, reduceCtorEq, Nat.reduceLT, Nat.reduceEqDiff, Nat.reduceAdd, Nat.reduceMul, Nat.reduceLeDiff, Nat.reduceBEq, kp1 (p119 hl hn), e]
    have : iv neg l = 0 := by unfold iv; rw [h0]; cases neg <;> rfl
    rw [this]; rfl
  · have e : ((bl (val l) : Int) == 0) = false := by rw [beq_eq_false_iff_ne]; have := mt bl_eq0.1 h0; omega
    cases neg
    · simp only [f55, args0, SA, setCells, Int.reduceLE, Int.reduceLT, ↓reduceIte, reduceCtorEq, Nat.reduceLT, Nat.reduceEqDiff, Nat.reduceAdd, Nat.reduceMul, Nat.reduceLeDiff, Nat.reduceBEq, kp1 (p119 hl hn), e]
      have : (iv false l).sign = 1 := Int.sign_eq_one_of_pos (by unfold iv; simp; omega)
      rw [this]; rfl
    · simp only [f55, args0, SA, setCells, Int.reduceLE, Int.reduceLT, ↓reduceIte, reduceCtorEq, Nat.reduceLT, Nat.reduceEqDiff, Nat.reduceAdd, Nat.reduceMul, Nat.reduceLeDiff, Nat.reduceBEq, kp1 (p119 hl hn), e]
      have : (iv true l).sign = -1 := Int.sign_eq_neg_one_of_neg (by unfold iv; simp; omega)
      rw [this]; rfl
theorem p146 {p : PV} {x : Int} (h : Nu p x) : Pu rp 131 [p] (.p (zi (-x))) := by
  obtain ⟨neg, l, rfl, hl, hn, rfl⟩ := h
  refine pu_of rp146 ?_
  rw [CapN_eq] at hn
  have e : -iv neg l = iv (!neg) l := by unfold iv; cases neg <;> simp
  rw [e, ← mk_val]
  simp only [f131, args0, SA, setCells, Int.reduceLE, Int.reduceLT, ↓reduceIte, reduceCtorEq, Nat.reduceLT, Nat.reduceEqDiff, Nat.reduceAdd, Nat.reduceMul, Nat.reduceLeDiff, Nat.reduceBEq, unV, kp2 (p105 hl (by omega))]
  rfl
theorem p63' {p q : PV} {x y : Int} (h : Nu p x) (h' : Nu q y) : Pu rp 24 [p, q] (.p (zi (x * y))) := by
  obtain ⟨n1, a, rfl, ha, hna, rfl⟩ := h
  obtain ⟨n2, b, rfl, hb, hnb, rfl⟩ := h'
  refine pu_of rp63 ?_
  rw [CapN_eq] at hna hnb
  have hd : (dgl (val a * val b)).length ≤ a.length + b.length := dgl_len (by rw [Nat.pow_add]; exact Nat.mul_lt_mul'' (val_lt ha) (val_lt hb))
  have k1 := p111 ha hb (by omega) (by omega)
  have k2 := fun neg => p105 (neg := neg) (dgl_lim (val a * val b)) (by omega)
  simp only [val_dgl] at k2
  have e : zi (iv n1 a * iv n2 b) = mk (n1 != n2) (val a * val b) := by
    rw [mk_iv]; unfold iv; congr 1; cases n1 <;> cases n2 <;> simp [Int.natCast_mul, Int.neg_mul, Int.mul_neg]
  rw [e]
  cases n1 <;> cases n2 <;> simp only [f24, args0, SA, setCells, Int.reduceLE, Int.reduceLT, ↓reduceIte, reduceCtorEq, Nat.reduceLT, Nat.reduceEqDiff, Nat.reduceAdd, Nat.reduceMul, Nat.reduceLeDiff, Nat.reduceBEq, kp2 k1, kp2 (k2 _)] <;> rfl
theorem bq1 : (true == false) = false := rfl
theorem bq2 : (false == true) = false := rfl
theorem p145 {p q : PV} {x y : Int} (h : Nu p x) (h' : Nu q y) : Pu rp 26 [p, q] (.p (zi (x + y))) := by
  obtain ⟨n1, a, rfl, ha, hna, rfl⟩ := h
  obtain ⟨n2, b, rfl, hb, hnb, rfl⟩ := h'
  refine pu_of rp145 ?_
  rw [CapN_eq] at hna hnb
  have hcmp := p177 ha hb (by omega) (by omega)
  by_cases hs : n1 = n2
  · subst hs
    have hd : (dgl (val a + val b)).length ≤ a.length + b.length + 1 := dgl_len (by
      have h1 := Nat.lt_of_lt_of_le (val_lt ha) (Nat.pow_le_pow_right LB_pos (show a.length ≤ a.length + b.length by omega))
      have h2 := Nat.lt_of_lt_of_le (val_lt hb) (Nat.pow_le_pow_right LB_pos (show b.length ≤ a.length + b.length by omega))
      rw [Nat.pow_succ]
      have h3 : LB ^ (a.length + b.length) * 2 ≤ LB ^ (a.length + b.length) * LB := Nat.mul_le_mul_left _ (by decide)
      omega)
    have k1 := p176 ha hb (by omega) (by omega)
    have k2 := p105 (neg := n1) (dgl_lim (val a + val b)) (by omega)
    rw [val_dgl] at k2
    have e : zi (iv n1 a + iv n1 b) = mk n1 (val a + val b) := by
      rw [mk_iv]; unfold iv; congr 1; cases n1 <;> simp; omega
    rw [e]
    cases n1 <;> simp only [f26, args0, SA, setCells, Int.reduceLE, Int.reduceLT, ↓reduceIte, reduceCtorEq, Nat.reduceLT, Nat.reduceEqDiff, Nat.reduceAdd, Nat.reduceMul, Nat.reduceLeDiff, Nat.reduceBEq, kp2 k1, kp2 k2] <;> rfl
  · by_cases hlt : val a < val b
    · have hci : cmpI (val a) (val b) < 0 := lt_of_cmp.2 hlt
      have k1 := p178 hb ha (by omega) (by omega) (Nat.le_of_lt hlt)
      have hd : (dgl (val b - val a)).length ≤ b.length := dgl_len (Nat.lt_of_le_of_lt (Nat.sub_le _ _) (val_lt hb))
      have k2 := p105 (neg := n2) (dgl_lim (val b - val a)) (by omega)
      rw [val_dgl] at k2
      have e : zi (iv n1 a + iv n2 b) = mk n2 (val b - val a) := by
        rw [mk_iv]; unfold iv; congr 1; cases n1 <;> cases n2 <;> simp at hs ⊢ <;> omega
      rw [e]
      cases n1 <;> cases n2 <;> simp at hs <;> simp only [f26, args0, SA, setCells, Int.reduceLE, Int.reduceLT, ↓reduceIte, reduceCtorEq, Nat.reduceLT, Nat.reduceEqDiff, Nat.reduceAdd, Nat.reduceMul, Nat.reduceLeDiff, Nat.reduceBEq, kp2 hcmp, hci, kp2 k1, kp2 k2, bq1, bq2] <;> rfl
    · have hci : ¬ cmpI (val a) (val b) < 0 := by rw [lt_of_cmp]; exact hlt
      have k1 := p178 ha hb (by omega) (by omega) (Nat.le_of_not_lt hlt)
      have hd : (dgl (val a - val b)).length ≤ a.length := dgl_len (Nat.lt_of_le_of_lt (Nat.sub_le _ _) (val_lt ha))
      have k2 := p105 (neg := n1) (dgl_lim (val a - val b)) (by omega)
      rw [val_dgl] at k2
      have e : zi (iv n1 a + iv n2 b) = mk n1 (val a - val b) := by
        rw [mk_iv]; unfold iv; congr 1; cases n1 <;> cases n2 <;> simp at hs ⊢ <;> omega
      rw [e]
      cases n1 <;> cases n2 <;> simp at hs <;> simp only [f26, args0, SA, setCells, Int.reduceLE, Int.reduceLT, ↓reduceIte, reduceCtorEq, Nat.reduceLT, Nat.reduceEqDiff, Nat.reduceAdd, Nat.reduceMul, Nat.reduceLeDiff, Nat.reduceBEq, kp2 hcmp, hci, kp2 k1, kp2 k2, bq1, bq2] <;> rfl
theorem p157 {p q : PV} {x y : Int} (h : Nu p x) (h' : Nu q y) : Pu rp 137 [p, q] (.p (zi (x - y))) := by
  have k2 := p145 h (Nu.zi h'.sz.neg)
  have k1 := p146 h'
  obtain ⟨n1, a, rfl, ha, hna, rfl⟩ := h
  obtain ⟨n2, b, rfl, hb, hnb, rfl⟩ := h'
  refine pu_of rp157 ?_
  rw [Int.sub_eq_add_neg]
  simp only [f137, args0, SA, setCells, Int.reduceLE, Int.reduceLT, ↓reduceIte, reduceCtorEq, Nat.reduceLT, Nat.reduceEqDiff, Nat.reduceAdd, Nat.reduceMul, Nat.reduceLeDiff, Nat.reduceBEq, kp1 k1, kp2 k2]
  rfl
theorem Sz.le {x y : Int} (h : Sz x) (hy : y.natAbs ≤ x.natAbs) : Sz y := Nat.lt_of_le_of_lt hy h
theorem Sz.small {x : Int} (h : x.natAbs < LB) : Sz x := by
  unfold Sz
  obtain ⟨k, hk⟩ : ∃ k, CapN = k + 1 := ⟨CapN - 1, by rw [CapN_eq]⟩
  rw [hk, Nat.pow_succ]
  exact Nat.lt_of_lt_of_le h (Nat.le_mul_of_pos_left _ (Nat.pow_pos LB_pos))
theorem push_sl {base j : Nat} {σ : Store} {b : Blk} : push base (some j) σ b = (match σ[base + j]? with | some .hole => some (base + j, σ.set (base + j) b) | _ => none) := rfl
theorem p134 {p q : PV} {x y : Int} (h : Nu p x) (h' : Nu q y) (hy : 0 < y) : Pu rp 112 [p, q] (.tup [.p (zi (x / y)), .p (zi (x % y)), .p (.int .i64 0)]) := by
  have hx := h.sz
  have hys := h'.sz
  have k77y := p77 h'
  obtain ⟨n1, a, rfl, ha, hna, rfl⟩ := h
  obtain ⟨n2, b, rfl, hb, hnb, rfl⟩ := h'
  obtain rfl : n2 = false := by cases n2; rfl; unfold iv at hy; simp at hy; omega
  have hvb : iv false b = val b := rfl
  have hb0 : val b ≠ 0 := by rw [hvb] at hy; omega
  refine pu_of rp134 ?_
  rw [CapN_eq] at hna hnb
  have k1 := p159 ha hb (by omega) (by omega) hb0
  have hdq : (dgl (val a / val b)).length ≤ a.length := dgl_len (Nat.lt_of_le_of_lt (Nat.div_le_self _ _) (val_lt ha))
  have hdr : (dgl (val a % val b)).length ≤ a.length := dgl_len (Nat.lt_of_le_of_lt (Nat.mod_le _ _) (val_lt ha))
  have kq := fun neg => p105 (neg := neg) (dgl_lim (val a / val b)) (by omega)
  have kr := fun neg => p105 (neg := neg) (dgl_lim (val a % val b)) (by omega)
  simp only [val_dgl, mk_iv] at kq kr
  have bn1 : (true != false) = true := rfl
  have bn2 : (false != false) = false := rfl
  have e0 : ((0 : Int) != 0) = false := rfl
  cases n1 with
  | false =>
    have kr0 := kr false
    have kq0 := kq false
    simp only [Bool.false_eq_true, if_false] at kr0 kq0
    have hz : Nu (zi ((val a % val b : Nat) : Int)) ((val a % val b : Nat) : Int) := Nu.zi (hx.le (by rw [iv_abs]; exact Nat.mod_le _ _))
    have k77 := p77 hz
    rw [zi_raw] at k77
    have hsy : (iv false b).sign = 1 := Int.sign_eq_one_of_pos hy
    rw [hsy] at k77y
    have hq : iv false a / iv false b = ((val a / val b : Nat) : Int) := rfl
    have hr : iv false a % iv false b = ((val a % val b : Nat) : Int) := rfl
    rw [hq, hr]
    by_cases h0 : val a % val b = 0
    · have hs : (((val a % val b : Nat) : Int).sign != 0) = false := by rw [h0]; rfl
      simp only [f112, args0, SA, setCells, Int.reduceLE, Int.reduceLT, ↓reduceIte, reduceCtorEq, Nat.reduceLT, Nat.reduceEqDiff, Nat.reduceAdd, Nat.reduceMul, Nat.reduceLeDiff, Nat.reduceBEq, kp2 k1, bq1, bq2, Bool.not_true, Bool.not_false, push_sl, bn1, bn2, e0, kp2 kq0, kp2 kr0, kp1 k77, hs]
      rw [r_nilx]
      refine ⟨by rfl, ?_⟩
      simp only [SA, setCells, Int.reduceLE, Int.reduceLT, ↓reduceIte, reduceCtorEq, Nat.reduceLT, Nat.reduceEqDiff, Nat.reduceAdd, Nat.reduceMul, Nat.reduceLeDiff, Nat.reduceBEq]
      exact back_t3 back1_p back1_p back1_p
    · have hs1 : ((val a % val b : Nat) : Int).sign = 1 := Int.sign_eq_one_of_pos (by omega)
      have hs : ((1 : Int) != 0) = true := rfl
      have hs2 : ((1 : Int) != 1) = false := rfl
      rw [hs1] at k77
      simp only [f112, args0, SA, setCells, Int.reduceLE, Int.reduceLT, ↓reduceIte, reduceCtorEq, Nat.reduceLT, Nat.reduceEqDiff, Nat.reduceAdd, Nat.reduceMul, Nat.reduceLeDiff, Nat.reduceBEq, kp2 k1, bq1, bq2, Bool.not_true, Bool.not_false, push_sl, bn1, bn2, e0, kp2 kq0, kp2 kr0, kp1 k77, hs, kp1 k77y, hs2]
      rw [r_nilx]
      refine ⟨by rfl, ?_⟩
      simp only [SA, setCells, Int.reduceLE, Int.reduceLT, ↓reduceIte, reduceCtorEq, Nat.reduceLT, Nat.reduceEqDiff, Nat.reduceAdd, Nat.reduceMul, Nat.reduceLeDiff, Nat.reduceBEq]
      exact back_t3 back1_p back1_p back1_p
  | true =>
    have kr0 := kr true
    have kq0 := kq true
    simp only [if_true] at kr0 kq0
    have hrz : Sz (-((val a % val b : Nat) : Int)) := hx.le (by rw [iv_abs, Int.natAbs_neg]; exact Nat.mod_le _ _)
    have hz : Nu (zi (-((val a % val b : Nat) : Int))) (-((val a % val b : Nat) : Int)) := Nu.zi hrz
    have hqz : Sz (-((val a / val b : Nat) : Int)) := hx.le (by rw [iv_abs, Int.natAbs_neg]; exact Nat.div_le_self _ _)
    have k77 := p77 hz
    have ks := p157 (Nu.zi hqz) (Nu.zi (x := 1) (Sz.small (by decide)))
    have ka := p145 hz ⟨false, b, rfl, hb, by rw [CapN_eq]; exact hnb, rfl⟩
    rw [zi_raw] at k77 ka
    rw [zi_raw (x := -((val a / val b : Nat) : Int))] at ks
    have hsy : (iv false b).sign = 1 := Int.sign_eq_one_of_pos hy
    rw [hsy] at k77y
    have hdm := Nat.mod_add_div (val a) (val b)
    have hml := Nat.mod_lt (val a) (Nat.pos_of_ne_zero hb0)
    have hxa : iv true a = -(val a : Int) := rfl
    by_cases h0 : val a % val b = 0
    · have hs : ((-((val a % val b : Nat) : Int)).sign != 0) = false := by rw [h0]; rfl
      have hq : iv true a / iv false b = -((val a / val b : Nat) : Int) := by
        rw [hxa, hvb, Int.neg_ediv_of_dvd (Int.natCast_dvd_natCast.2 (Nat.dvd_of_mod_eq_zero h0))]; rfl
      have hr : iv true a % iv false b = -((val a % val b : Nat) : Int) := by
        rw [hxa, hvb, h0]; exact Int.emod_eq_zero_of_dvd ((Int.dvd_neg).2 (Int.natCast_dvd_natCast.2 (Nat.dvd_of_mod_eq_zero h0)))
      rw [hq, hr]
      simp only [f112, args0, SA, setCells, Int.reduceLE, Int.reduceLT, ↓reduceIte, reduceCtorEq, Nat.reduceLT, Nat.reduceEqDiff, Nat.reduceAdd, Nat.reduceMul, Nat.reduceLeDiff, Nat.reduceBEq, kp2 k1, bq1, bq2, Bool.not_true, Bool.not_false, push_sl, bn1, bn2, e0, kp2 kq0, kp2 kr0, kp1 k77, hs]
      rw [r_nilx]
      refine ⟨by rfl, ?_⟩
      simp only [SA, setCells, Int.reduceLE, Int.reduceLT, ↓reduceIte, reduceCtorEq, Nat.reduceLT, Nat.reduceEqDiff, Nat.reduceAdd, Nat.reduceMul, Nat.reduceLeDiff, Nat.reduceBEq]
      exact back_t3 back1_p back1_p back1_p
    · have hs1 : (-((val a % val b : Nat) : Int)).sign = -1 := Int.sign_eq_neg_one_of_neg (by omega)
      have hs : ((-1 : Int) != 0) = true := rfl
      have hs2 : ((-1 : Int) != 1) = true := rfl
      rw [hs1] at k77
      have hu := (Int.ediv_emod_unique (a := iv true a) (b := iv false b) (r := -((val a % val b : Nat) : Int) + iv false b) (q := -((val a / val b : Nat) : Int) - 1) hy).2
        ⟨by rw [hxa, hvb, Int.mul_sub, Int.mul_neg, Int.mul_one, ← Int.natCast_mul]; omega, by rw [hvb]; omega, by rw [hvb]; omega⟩
      rw [hu.1, hu.2]
      simp only [f112, args0, SA, setCells, Int.reduceLE, Int.reduceLT, ↓reduceIte, reduceCtorEq, Nat.reduceLT, Nat.reduceEqDiff, Nat.reduceAdd, Nat.reduceMul, Nat.reduceLeDiff, Nat.reduceBEq, kp2 k1, bq1, bq2, Bool.not_true, Bool.not_false, push_sl, bn1, bn2, e0, kp2 kq0, kp2 kr0, kp1 k77, hs, kp1 k77y, hs2, kp1 (p54 (x := 1) (by decide) (by decide)), kp2 ks, kp2 ka]
      rw [r_nilx]
      refine ⟨by rfl, ?_⟩
      simp only [SA, setCells, Int.reduceLE, Int.reduceLT, ↓reduceIte, reduceCtorEq, Nat.reduceLT, Nat.reduceEqDiff, Nat.reduceAdd, Nat.reduceMul, Nat.reduceLeDiff, Nat.reduceBEq]
      exact back_t3 back1_p back1_p back1_p
end Go.Proofs.Ytdpdnplljonppaa.VBn

namespace Go.Proofs.Ytdpdnplljonppaa.VBn
open Go Vpi
set_option maxRecDepth 100000
set_option linter.unusedSimpArgs false
set_option linter.unusedVariables false
end Go.Proofs.Ytdpdnplljonppaa.VBn

namespace Go.Proofs.Ytdpdnplljonppaa.VBn
open Go Vpi
set_option maxRecDepth 100000
set_option linter.unusedSimpArgs false
set_option linter.unusedVariables false
end Go.Proofs.Ytdpdnplljonppaa.VBn

namespace Go.Proofs.Ytdpdnplljonppaa.VBn
open Go Vpi
set_option maxRecDepth 100000
set_option linter.unusedSimpArgs false
set_option linter.unusedVariables false
end Go.Proofs.Ytdpdnplljonppaa.VBn

namespace Go.Proofs.Ytdpdnplljonppaa.VBn
open Go Vpi
set_option maxRecDepth 100000
set_option linter.unusedSimpArgs false
set_option linter.unusedVariables false
end Go.Proofs.Ytdpdnplljonppaa.VBn

namespace Go.Proofs.Ytdpdnplljonppaa.VBn
open Go Vpi
set_option maxRecDepth 100000
set_option linter.unusedSimpArgs false
set_option linter.unusedVariables false
end Go.Proofs.Ytdpdnplljonppaa.VBn

namespace Go.Proofs.Ytdpdnplljonppaa.VBn
open Go Vpi
set_option maxRecDepth 100000
set_option linter.unusedSimpArgs false
set_option linter.unusedVariables false
def Sk (n : Nat) (x : Int) : Prop := x.natAbs < LB ^ n
theorem Sk.sz {n : Nat} {x : Int} (h : Sk n x) (hn : n ≤ 100000000000) : Sz x := Nat.lt_of_lt_of_le h (Nat.pow_le_pow_right LB_pos (by rw [CapN_eq]; exact hn))
theorem Sk.mono {n m : Nat} {x : Int} (h : Sk n x) (hn : n ≤ m) : Sk m x := Nat.lt_of_lt_of_le h (Nat.pow_le_pow_right LB_pos hn)
theorem Sk.mul {n m : Nat} {x y : Int} (h : Sk n x) (h' : Sk m y) : Sk (n + m) (x * y) := by
  unfold Sk at *
  rw [Int.natAbs_mul, Nat.pow_add]
  exact Nat.mul_lt_mul'' h h'
def rq (x : Rat) : PV := .agg [.bool (decide (x.num < 0) && decide (x.num.natAbs ≠ 0)), .sl (lm (dgl x.num.natAbs)), .bool false, .sl (lm (dgl x.den))]
def RL : Nat := 10000000000
attribute [irreducible] RL
end Go.Proofs.Ytdpdnplljonppaa.VBn

namespace Go.Proofs.Ytdpdnplljonppaa.Gs
set_option linter.unusedVariables false
def sumR (f : Nat → Rat) : Nat → Rat
  | 0 => 0
  | n + 1 => sumR f n + f n
def sg : Nat → Rat
  | 0 => 1
  | n + 1 => - sg n
def sk (r p : Nat) : Nat := if p < r then p else p + 1
def det : Nat → (Nat → Nat → Rat) → Rat
  | 0, _ => 1
  | n + 1, A => sumR (fun r => sg r * A r 0 * det n fun p q => A (sk r p) (q + 1)) (n + 1)
theorem sumR_congr {f g : Nat → Rat} : ∀ {n : Nat}, (∀ r, r < n → f r = g r) → sumR f n = sumR g n
  | 0, _ => rfl
  | n + 1, h => by
    simp only [sumR]
    rw [sumR_congr fun r hr => h r (Nat.lt_succ_of_lt hr), h n (Nat.lt_succ_self n)]
theorem sumR_zero {f : Nat → Rat} : ∀ {n : Nat}, (∀ r, r < n → f r = 0) → sumR f n = 0
  | 0, _ => rfl
  | n + 1, h => by
    simp only [sumR]
    rw [sumR_zero fun r hr => h r (Nat.lt_succ_of_lt hr), h n (Nat.lt_succ_self n)]
    grind
theorem sumR_lin {f g : Nat → Rat} {c : Rat} : ∀ {n : Nat}, sumR (fun r => f r + c * g r) n = sumR f n + c * sumR g n
  | 0 => by simp only [sumR]; grind
  | n + 1 => by
    simp only [sumR]
    rw [sumR_lin]
    grind
theorem sumR_two {f : Nat → Rat} {p : Nat} (hs : f p + f (p + 1) = 0) : ∀ {n : Nat}, p + 1 < n → (∀ r, r < n → r ≠ p → r ≠ p + 1 → f r = 0) → sumR f n = 0
  | 0, h, _ => by omega
  | n + 1, h, hz => by
    simp only [sumR]
    by_cases hn : n = p + 1
    · subst hn
      simp only [sumR]
      rw [sumR_zero fun r hr => hz r (by omega) (by omega) (by omega)]
      grind
    · rw [sumR_two hs (n := n) (by omega) fun r hr => hz r (by omega), hz n (by omega) (by omega) (by omega)]
      grind
theorem sumR_one {f : Nat → Rat} : ∀ {n : Nat}, (∀ r, 0 < r → r < n + 1 → f r = 0) → sumR f (n + 1) = f 0
  | 0, _ => by simp only [sumR]; grind
  | n + 1, h => by
    rw [sumR, sumR_one fun r h0 hr => h r h0 (by omega), h (n + 1) (by omega) (by omega)]
    grind
theorem sk_lt {r p n : Nat} (hr : r < n + 1) (hp : p < n) : sk r p < n + 1 := by unfold sk; split <;> omega
theorem sk_ne {r p : Nat} : sk r p ≠ r := by unfold sk; split <;> omega
theorem det_congr : ∀ {n : Nat} {A B : Nat → Nat → Rat}, (∀ p q, p < n → q < n → A p q = B p q) → det n A = det n B
  | 0, _, _, _ => rfl
  | n + 1, A, B, h => by
    simp only [det]
    refine sumR_congr fun r hr => ?_
    rw [h r 0 hr (by omega), det_congr (n := n) (A := fun p q => A (sk r p) (q + 1)) (B := fun p q => B (sk r p) (q + 1)) fun p q hp hq => h _ _ (sk_lt hr hp) (by omega)]
def sp (r p : Nat) : Nat := if p < r then p else p - 1
theorem sk_sp {r p : Nat} (h : p ≠ r) : sk r (sp r p) = p := by
  unfold sk sp
  by_cases h1 : p < r
  · rw [if_pos h1, if_pos h1]
  · rw [if_neg h1, if_neg (by omega)]; omega
theorem sk_inj {r p p' : Nat} (h : sk r p = sk r p') : p = p' := by unfold sk at h; split at h <;> split at h <;> omega
theorem sp_lt {r p n : Nat} (hr : r < n + 1) (hp : p < n + 1) (h : p ≠ r) : sp r p < n := by unfold sp; split <;> omega
theorem det_lin : ∀ {n : Nat} {A B C : Nat → Nat → Rat} {c : Rat} {p : Nat}, p < n → (∀ q, C p q = A p q + c * B p q) → (∀ r q, r ≠ p → C r q = A r q ∧ C r q = B r q) → det n C = det n A + c * det n B
  | 0, _, _, _, _, _, hp, _, _ => by omega
  | n + 1, A, B, C, c, p, hp, h1, h2 => by
    simp only [det]
    rw [← sumR_lin]
    refine sumR_congr fun r hr => ?_
    by_cases hrp : r = p
    · subst hrp
      have e1 : (det n fun p q => C (sk r p) (q + 1)) = det n fun p q => A (sk r p) (q + 1) := det_congr fun p q _ _ => (h2 _ _ sk_ne).1
      have e2 : (det n fun p q => C (sk r p) (q + 1)) = det n fun p q => B (sk r p) (q + 1) := det_congr fun p q _ _ => (h2 _ _ sk_ne).2
      rw [← e2, ← e1, h1]
      grind
    · have e := det_lin (n := n) (A := fun p q => A (sk r p) (q + 1)) (B := fun p q => B (sk r p) (q + 1)) (C := fun p q => C (sk r p) (q + 1)) (c := c) (p := sp r p) (sp_lt hr hp (Ne.symm hrp))
        (fun q => by simp only [sk_sp (Ne.symm hrp)]; exact h1 _) (fun r' q hr' => h2 _ _ fun h => hr' (by
          rw [← sk_sp (Ne.symm hrp)] at h; exact sk_inj h))
      rw [e, ← (h2 r 0 hrp).1, (h2 r 0 hrp).2]
      grind
theorem det_adj : ∀ {n : Nat} {A : Nat → Nat → Rat} {p : Nat}, p + 1 < n → (∀ q, A p q = A (p + 1) q) → det n A = 0
  | 0, _, _, hp, _ => by omega
  | n + 1, A, p, hp, h => by
    simp only [det]
    refine sumR_two (p := p) ?_ hp ?_
    · have e : (det n fun p' q => A (sk p p') (q + 1)) = det n fun p' q => A (sk (p + 1) p') (q + 1) := det_congr fun p' q _ _ => by
        by_cases hpp : p' = p
        · subst hpp
          have a1 : sk p' p' = p' + 1 := by unfold sk; rw [if_neg (by omega)]
          have a2 : sk (p' + 1) p' = p' := by unfold sk; rw [if_pos (by omega)]
          rw [a1, a2, h]
        · have : sk p p' = sk (p + 1) p' := by unfold sk; split <;> split <;> omega
          rw [this]
      rw [e, h 0, sg]
      grind
    · intro r hr h1 h2
      have hp1 : sk r (sp r p) = p := sk_sp (Ne.symm h1)
      have hp2 : sk r (sp r p + 1) = p + 1 := by unfold sk sp; split <;> split <;> omega
      rw [det_adj (n := n) (p := sp r p) (by unfold sp; split <;> omega) (fun q => by simp only [hp1, hp2]; exact h _)]
      grind
def put (A : Nat → Nat → Rat) (p : Nat) (v : Nat → Rat) : Nat → Nat → Rat := fun r q => if r = p then v q else A r q
theorem put_at {A : Nat → Nat → Rat} {p : Nat} {v : Nat → Rat} {q : Nat} : put A p v p q = v q := by unfold put; rw [if_pos rfl]
theorem put_ne {A : Nat → Nat → Rat} {p r : Nat} {v : Nat → Rat} {q : Nat} (h : r ≠ p) : put A p v r q = A r q := by unfold put; rw [if_neg h]
theorem det_swap {n : Nat} {A : Nat → Nat → Rat} {p : Nat} (hp : p + 1 < n) : det n (put (put A p (A (p + 1))) (p + 1) (A p)) = - det n A := by
  -- u, v: the two rows
  have key : ∀ x y : Nat → Rat, det n (put (put A p fun q => x q + y q) (p + 1) fun q => x q + y q) = 0 := fun x y =>
    det_adj (p := p) hp fun q => by rw [put_ne (by omega), put_at, put_at]
  have same : ∀ x : Nat → Rat, det n (put (put A p x) (p + 1) x) = 0 := fun x => det_adj (p := p) hp fun q => by rw [put_ne (by omega), put_at, put_at]
  have l1 : ∀ x y z : Nat → Rat, det n (put (put A p fun q => x q + y q) (p + 1) z) = det n (put (put A p x) (p + 1) z) + 1 * det n (put (put A p y) (p + 1) z) := fun x y z =>
    det_lin (p := p) (by omega) (fun q => by
      have e : p ≠ p + 1 := by omega
      simp only [put, if_neg e, if_true]
      grind) (fun r q hr => by
      by_cases h : r = p + 1
      · subst h; rw [put_at, put_at, put_at]; exact ⟨rfl, rfl⟩
      · rw [put_ne h, put_ne h, put_ne h, put_ne hr, put_ne hr, put_ne hr]; exact ⟨rfl, rfl⟩)
  have l2 : ∀ x y z : Nat → Rat, det n (put (put A p z) (p + 1) fun q => x q + y q) = det n (put (put A p z) (p + 1) x) + 1 * det n (put (put A p z) (p + 1) y) := fun x y z =>
    det_lin (p := p + 1) (by omega) (fun q => by rw [put_at, put_at, put_at]; grind) (fun r q hr => by rw [put_ne hr, put_ne hr, put_ne hr]; exact ⟨rfl, rfl⟩)
  have k := key (A p) (A (p + 1))
  rw [l1, l2, l2, same, same] at k
  have e : det n (put (put A p (A p)) (p + 1) (A (p + 1))) = det n A := det_congr fun r q _ _ => by
    by_cases h : r = p + 1
    · subst h; rw [put_at]
    · rw [put_ne h]
      by_cases h' : r = p
      · subst h'; rw [put_at]
      · rw [put_ne h']
  rw [e] at k
  grind
theorem det_same0 {n : Nat} : ∀ {p : Nat} {A : Nat → Nat → Rat}, p + 1 < n → (∀ q, A (p + 1) q = A 0 q) → det n A = 0
  | 0, A, hp, h => det_adj (p := 0) hp fun q => (h q).symm
  | p + 1, A, hp, h => by
    have h1 := det_swap (A := A) (p := p + 1) hp
    rw [det_same0 (p := p) (A := put (put A (p + 1) (A (p + 1 + 1))) (p + 1 + 1) (A (p + 1))) (by omega) (fun q => by
      rw [put_ne (by omega), put_at, put_ne (by omega), put_ne (by omega)]; exact h q)] at h1
    grind
theorem det_addrow {n : Nat} {A : Nat → Nat → Rat} {p : Nat} {c : Rat} (hp : p + 1 < n) : det n (put A (p + 1) fun q => A (p + 1) q + c * A 0 q) = det n A := by
  have h := det_lin (n := n) (A := A) (B := put A (p + 1) (A 0)) (C := put A (p + 1) fun q => A (p + 1) q + c * A 0 q) (c := c) (p := p + 1) hp
    (fun q => by rw [put_at, put_at]) (fun r q hr => by rw [put_ne hr, put_ne hr]; exact ⟨rfl, rfl⟩)
  rw [h, det_same0 (p := p) hp (A := put A (p + 1) (A 0)) (fun q => by rw [put_at, put_ne (by omega)])]
  grind
theorem det_rows {n : Nat} {A : Nat → Nat → Rat} (c : Nat → Rat) : ∀ {m : Nat}, m < n → det n (fun r q => if 0 < r ∧ r ≤ m then A r q + c r * A 0 q else A r q) = det n A
  | 0, _ => det_congr fun r q _ _ => by rw [if_neg (by omega)]
  | m + 1, hm => by
    refine Eq.trans ?_ (det_rows c (m := m) (by omega))
    rw [← det_addrow (A := fun r q => if 0 < r ∧ r ≤ m then A r q + c r * A 0 q else A r q) (p := m) (c := c (m + 1)) hm]
    refine det_congr fun r q _ _ => ?_
    by_cases h : r = m + 1
    · subst h
      rw [put_at, if_pos (by omega), if_neg (by omega), if_neg (by omega)]
    · rw [put_ne h]
      by_cases h2 : 0 < r ∧ r ≤ m
      · rw [if_pos (by omega), if_pos h2]
      · rw [if_neg (by omega), if_neg h2]
theorem det_elim {n : Nat} {A : Nat → Nat → Rat} (h0 : A 0 0 ≠ 0) : det (n + 1) A = A 0 0 * det n fun p q => A (p + 1) (q + 1) - A (p + 1) 0 * A 0 (q + 1) / A 0 0 := by
  rw [← det_rows (fun r => - A r 0 / A 0 0) (m := n) (Nat.lt_succ_self n)]
  rw [det, sumR_one]
  · have e : (det n fun p q => if 0 < sk 0 p ∧ sk 0 p ≤ n then A (sk 0 p) (q + 1) + (- A (sk 0 p) 0 / A 0 0) * A 0 (q + 1) else A (sk 0 p) (q + 1)) = det n fun p q => A (p + 1) (q + 1) - A (p + 1) 0 * A 0 (q + 1) / A 0 0 := det_congr fun p q hp hq => by
      have : sk 0 p = p + 1 := by unfold sk; rw [if_neg (by omega)]
      rw [this, if_pos (by omega)]
      grind
    rw [e, if_neg (by omega), sg]
    grind
  · intro r hr hr2
    rw [if_pos (by omega)]
    have : A r 0 + - A r 0 / A 0 0 * A 0 0 = 0 := by grind
    rw [this]
    grind
end Go.Proofs.Ytdpdnplljonppaa.Gs

namespace Go.Proofs.Ytdpdnplljonppaa.Gs
set_option linter.unusedVariables false
def U (g : Nat → Nat → Rat) : Nat → Nat → Nat → Rat
  | 0, i, j => g i j
  | k + 1, i, j => U g k i j - U g k i k * U g k k j / U g k k k
def Dk (g : Nat → Nat → Rat) : Nat → Rat
  | 0 => 1
  | k + 1 => Dk g k * U g k k k
def nx (g : Nat → Nat → Rat) : Nat → Nat → Rat := fun i j => U g 1 (i + 1) (j + 1)
theorem U_nx {g : Nat → Nat → Rat} : ∀ {k i j : Nat}, U g (k + 1) (i + 1) (j + 1) = U (nx g) k i j
  | 0, _, _ => rfl
  | k + 1, i, j => by
    rw [U, U_nx, U_nx, U_nx, U_nx, U]
theorem Dk_nx {g : Nat → Nat → Rat} : ∀ {k : Nat}, Dk g (k + 1) = g 0 0 * Dk (nx g) k
  | 0 => by simp only [Dk, U]; grind
  | k + 1 => by
    rw [Dk, Dk_nx, U_nx, Dk]
    grind
def ro (k i p : Nat) : Nat := if p < k then p else i
theorem det_U : ∀ {k : Nat} {g : Nat → Nat → Rat} {i j : Nat}, k ≤ i → k ≤ j → (∀ t, t < k → U g t t t ≠ 0) → det (k + 1) (fun p q => g (ro k i p) (ro k j q)) = Dk g k * U g k i j
  | 0, g, i, j, _, _, _ => by
    simp only [det, sumR, sg, Dk, U, ro]
    simp only [Nat.not_lt_zero, if_false]
    grind
  | k + 1, g, i, j, hi, hj, hp => by
    obtain ⟨i, rfl⟩ : ∃ i', i = i' + 1 := ⟨i - 1, by omega⟩
    obtain ⟨j, rfl⟩ : ∃ j', j = j' + 1 := ⟨j - 1, by omega⟩
    have r0 : ∀ i, ro (k + 1) i 0 = 0 := fun i => by unfold ro; rw [if_pos (by omega)]
    have rs : ∀ i p, ro (k + 1) (i + 1) (p + 1) = ro k i p + 1 := fun i p => by
      unfold ro
      by_cases h : p < k
      · rw [if_pos h, if_pos (by omega)]
      · rw [if_neg h, if_neg (by omega)]
    have h0 : g 0 0 ≠ 0 := hp 0 (by omega)
    rw [det_elim (by simp only [r0]; exact h0)]
    have e : (fun p q => g (ro (k + 1) (i + 1) (p + 1)) (ro (k + 1) (j + 1) (q + 1)) - g (ro (k + 1) (i + 1) (p + 1)) (ro (k + 1) (j + 1) 0) * g (ro (k + 1) (i + 1) 0) (ro (k + 1) (j + 1) (q + 1)) / g (ro (k + 1) (i + 1) 0) (ro (k + 1) (j + 1) 0)) = fun p q => nx g (ro k i p) (ro k j q) := by
      funext p q
      rw [rs, rs, r0, r0]
      rfl
    rw [e, det_U (g := nx g) (by omega) (by omega) (fun t ht => by rw [← U_nx]; exact hp (t + 1) (by omega)), r0, r0, Dk_nx, U_nx]
    grind
def In (M : Nat) (x : Rat) : Prop := ∃ v : Int, x = (v : Rat) ∧ v.natAbs ≤ M
theorem In.mul {M N : Nat} {x y : Rat} (h : In M x) (h' : In N y) : In (M * N) (x * y) := by
  obtain ⟨v, rfl, hv⟩ := h
  obtain ⟨w, rfl, hw⟩ := h'
  exact ⟨v * w, by rw [Rat.intCast_mul], by rw [Int.natAbs_mul]; exact Nat.mul_le_mul hv hw⟩
theorem In.add {M N : Nat} {x y : Rat} (h : In M x) (h' : In N y) : In (M + N) (x + y) := by
  obtain ⟨v, rfl, hv⟩ := h
  obtain ⟨w, rfl, hw⟩ := h'
  exact ⟨v + w, by rw [Rat.intCast_add], by have := Int.natAbs_add_le v w; omega⟩
theorem In.neg {M : Nat} {x : Rat} (h : In M x) : In M (-x) := by
  obtain ⟨v, rfl, hv⟩ := h
  exact ⟨-v, by rw [Rat.intCast_neg], by rwa [Int.natAbs_neg]⟩
theorem In.sg : ∀ {n : Nat}, In 1 (sg n)
  | 0 => ⟨1, rfl, by decide⟩
  | n + 1 => In.neg In.sg
theorem In.sum {M : Nat} {f : Nat → Rat} : ∀ {n : Nat}, (∀ r, r < n → In M (f r)) → In (n * M) (sumR f n)
  | 0, _ => ⟨0, rfl, by simp⟩
  | n + 1, h => by
    rw [Nat.add_mul, Nat.one_mul]
    exact In.add (In.sum fun r hr => h r (by omega)) (h n (by omega))
def bd (M : Nat) : Nat → Nat
  | 0 => 1
  | n + 1 => (n + 1) * (M * bd M n)
theorem In.det {M : Nat} : ∀ {n : Nat} {A : Nat → Nat → Rat}, (∀ p q, p < n → q < n → In M (A p q)) → In (bd M n) (det n A)
  | 0, _, _ => ⟨1, rfl, Nat.le_refl 1⟩
  | n + 1, A, h => by
    rw [Gs.det, bd]
    apply In.sum
    intro r hr
    have := (In.mul (In.sg (n := r)) (h r 0 hr (by omega))).mul (In.det (n := n) (A := fun p q => A (sk r p) (q + 1)) fun p q hp hq => h _ _ (sk_lt hr hp) (by omega))
    rw [Nat.one_mul] at this
    exact this
def V (g : Nat → Nat → Int) : Nat → Nat → Nat → Int
  | 0, i, j => g i j
  | 1, i, j => (V g 0 0 0 * V g 0 i j - V g 0 i 0 * V g 0 j 0) / 1
  | k + 2, i, j => (V g (k + 1) (k + 1) (k + 1) * V g (k + 1) i j - V g (k + 1) i (k + 1) * V g (k + 1) j (k + 1)) / V g k k k
def Dv (g : Nat → Nat → Int) : Nat → Int
  | 0 => 1
  | k + 1 => V g k k k
def rg (g : Nat → Nat → Int) : Nat → Nat → Rat := fun i j => ((g i j : Int) : Rat)
def Pos (g : Nat → Nat → Int) (k : Nat) : Prop := ∀ t, t < k → 0 < V g t t t
structure Good (g : Nat → Nat → Int) (M k : Nat) : Prop where
  d : (Dv g k : Rat) = Dk (rg g) k
  dp : 0 < Dv g k
  piv : ∀ t, t < k → 0 < U (rg g) t t t
  v : ∀ i j, k ≤ i → k ≤ j → (V g k i j : Rat) = Dk (rg g) k * U (rg g) k i j
  sz : ∀ i j, k ≤ i → k ≤ j → (∀ p q, (p < k ∨ p = i) → (q < k ∨ q = j) → (g p q).natAbs ≤ M) → (V g k i j).natAbs ≤ bd M (k + 1)
def mx2 (f : Nat → Nat → Nat) (n : Nat) : Nat → Nat
  | 0 => 0
  | p + 1 => mx2 f n p + mx1 (f p) n
where mx1 (f : Nat → Nat) : Nat → Nat
  | 0 => 0
  | q + 1 => mx1 f q + f q
theorem le_mx1 {f : Nat → Nat} : ∀ {n q : Nat}, q < n → f q ≤ mx2.mx1 f n
  | 0, _, h => by omega
  | n + 1, q, h => by
    simp only [mx2.mx1]
    rcases Nat.lt_or_ge q n with h1 | h1
    · have := le_mx1 (f := f) h1; omega
    · obtain rfl : q = n := by omega
      omega
theorem le_mx2 {f : Nat → Nat → Nat} {n : Nat} : ∀ {m p q : Nat}, p < m → q < n → f p q ≤ mx2 f n m
  | 0, _, _, h, _ => by omega
  | m + 1, p, q, h, hq => by
    simp only [mx2]
    rcases Nat.lt_or_ge p m with h1 | h1
    · have := le_mx2 (f := f) h1 hq; omega
    · obtain rfl : p = m := by omega
      have := le_mx1 (f := f p) hq
      omega
end Go.Proofs.Ytdpdnplljonppaa.Gs

namespace Go.Proofs.Ytdpdnplljonppaa.VBn
open Go Vpi
set_option maxRecDepth 100000
set_option linter.unusedSimpArgs false
set_option linter.unusedVariables false
def NuR (r : List PV) (x : Nat → Int) : Prop := ∀ i, i < r.length → ∃ p, r[i]? = some p ∧ Nu p (x i)
def dotI (x y : Nat → Int) : Nat → Int
  | 0 => 0
  | n + 1 => dotI x y n + x n * y n
theorem zi_zero : zi 0 = .agg [.bool false, .sl []] := by
  rw [zi_raw, Int.natAbs_zero, dgl_zero]; rfl
section
variable {r s : List PV} {x y : Nat → Int}
end
end Go.Proofs.Ytdpdnplljonppaa.VBn

namespace Go.Proofs.Ytdpdnplljonppaa.VBn
open Go Vpi
set_option maxRecDepth 100000
set_option linter.unusedSimpArgs false
set_option linter.unusedVariables false
theorem rp93 : rp 56 = some f56 := rfl
def MR (b : List PV) (n : Nat → Nat) (X : Nat → Nat → Int) : Prop := ∀ i, i < b.length → ∃ r, b[i]? = some (.sl r) ∧ r.length = n i ∧ n i ≤ 2000000 ∧ NuR r (X i)
theorem LB_pow2 {n : Nat} : LB ^ n = 2 ^ (32 * n) := by rw [Nat.pow_mul]; rfl
section
variable {b : List PV} {n : Nat → Nat} {X : Nat → Nat → Int}
def Uneven (n : Nat → Nat) (m : Nat) : Prop := ∃ i, i < m ∧ n i ≠ n 0
theorem p93 (hb : MR b n X) (h0 : b.length ≠ 0) (hlb : b.length ≤ 2000000) :
    (Uneven n b.length → Pu rp 56 [.sl b] (.tup [.p (.int .i64 0), .p (.int .i64 0), .p (.int .i64 8)])) ∧
    (¬ Uneven n b.length → Pu rp 56 [.sl b] (.tup [.p (.int .i64 b.length), .p (.int .i64 (n 0 : Nat)), .p (.int .i64 0)])) := by
  have e : ((b.length : Int) == 0) = false := by rw [beq_eq_false_iff_ne]; omega
  obtain ⟨r0, hr0, hl0, hn0, -⟩ := hb 0 (by omega)
  have key : ∀ R : CV, (Uneven n b.length → R = .tup [.p (.int .i64 0), .p (.int .i64 0), .p (.int .i64 8)]) → (¬ Uneven n b.length → R = .tup [.p (.int .i64 b.length), .p (.int .i64 (n 0 : Nat)), .p (.int .i64 0)]) → Pu rp 56 [.sl b] R := by
    intro R h1 h2
    refine pu_of rp93 ?_
    simp only [f56, args0, SA, setCells, Int.reduceLE, Int.reduceLT, ↓reduceIte, reduceCtorEq, Nat.reduceLT, Nat.reduceEqDiff, Nat.reduceAdd, Nat.reduceMul, Nat.reduceLeDiff, Nat.reduceBEq, e]
    refine loop_rule (β := Nat) (fun t => ([(0, .p (.sl b)), (10, .p (.sl b)), (11, i64 b.length), (12, i64 t)], []))
      (fun t => t ≤ b.length ∧ ∀ k, k < t → n k = n 0) (fun t => b.length - t) 0 rfl rfl ⟨Nat.zero_le _, fun k hk => by omega⟩ ?_
    rintro i ⟨hi, hev⟩ ih
    simp only [] at hi hev ih ⊢
    by_cases hin : (i : Int) < b.length
    · obtain ⟨r, hr, hrl, hrn, -⟩ := hb i (by omega)
      have i0 : Int.toNat 0 = 0 := rfl
      by_cases hne : n i = n 0
      · have e1 : ((r.length : Int) != (r0.length : Int)) = false := by rw [hrl, hl0, hne]; simp
        have hw : IntKind.i64.wrap ((i : Int) + 1) = ((i + 1 : Nat) : Int) := by rw [IntWalk.i64_in _ (by omega)]; omega
        simp only [SA, setCells, Int.reduceLE, Int.reduceLT, ↓reduceIte, reduceCtorEq, Nat.reduceLT, Nat.reduceEqDiff, Nat.reduceAdd, Nat.reduceMul, Nat.reduceLeDiff, Nat.reduceBEq, hin, hr, i0, hr0, Int.natCast_nonneg, Int.toNat_natCast, e1, hw]
        refine ih (i + 1) _ ⟨by omega, fun k hk => ?_⟩ (by omega) ?_
        · rcases Nat.lt_or_ge k i with h | h
          · exact hev k h
          · obtain rfl : k = i := by omega
            exact hne
        · rfl
      · have e1 : ((r.length : Int) != (r0.length : Int)) = true := by rw [hrl, hl0]; simp; omega
        simp only [SA, setCells, Int.reduceLE, Int.reduceLT, ↓reduceIte, reduceCtorEq, Nat.reduceLT, Nat.reduceEqDiff, Nat.reduceAdd, Nat.reduceMul, Nat.reduceLeDiff, Nat.reduceBEq, hin, hr, i0, hr0, Int.natCast_nonneg, Int.toNat_natCast, e1]
        rw [h1 ⟨i, by omega, hne⟩]
        exact back_t3 back1_p back1_p back1_p
    · obtain rfl : i = b.length := by omega
      have i0 : Int.toNat 0 = 0 := rfl
      simp only [SA, setCells, Int.reduceLE, Int.reduceLT, ↓reduceIte, reduceCtorEq, Nat.reduceLT, Nat.reduceEqDiff, Nat.reduceAdd, Nat.reduceMul, Nat.reduceLeDiff, Nat.reduceBEq, hin, hr0, i0]
      rw [h2 (fun ⟨k, hk, hk2⟩ => hk2 (hev k hk)), hl0]
      exact back_t3 back1_p back1_p back1_p
  exact ⟨fun h => key _ (fun _ => rfl) (fun h2 => absurd h h2), fun h => key _ (fun h2 => absurd h2 h) (fun _ => rfl)⟩
def Big (n : Nat → Nat) (X : Nat → Nat → Int) (m : Nat) : Prop := 12 < m ∨ (∃ i, i < m ∧ 12 < n i) ∨ ∃ i j, i < m ∧ j < n i ∧ 256 < bl (X i j).natAbs
end
end Go.Proofs.Ytdpdnplljonppaa.VBn

namespace Go.Proofs.Ytdpdnplljonppaa.VBn
open Go Vpi
open Gs (V Dv Pos Good)
set_option maxRecDepth 100000
set_option linter.unusedSimpArgs false
set_option linter.unusedVariables false
section
variable {rp : RProg} {rs : List RRes} {base : Nat} {d : Option Nat} {l : List LOp} {dr : Dr} {ks : List KI} {e : Env} {σ : Store} {Q : CV → Store → Prop}
theorem kz1 {f : Nat} {a0 : PV} {r : CV} (h : Pu rp f [a0] r) : KC rp rs base .fz f [.p a0] d l dr ks e σ Q = ExR rp rs base l dr ks (sto d r e) σ Q := kc_fz h rfl
theorem kz2 {f : Nat} {a0 a1 : PV} {r : CV} (h : Pu rp f [a0, a1] r) : KC rp rs base .fz f [.p a0, .p a1] d l dr ks e σ Q = ExR rp rs base l dr ks (sto d r e) σ Q := kc_fz h rfl
end
section
variable {rp : RProg} {rs : List RRes} {base : Nat} {d : Option Nat} {l : List LOp} {dr : Dr} {ks : List KI} {e : Env} {σ : Store} {Q : CV → Store → Prop} {sz : Nat} {c : CV} {es xs : List PV}
theorem r_app_sl {s x : Opd} {bytes : Nat} (hb : base = σ.length) (h : GL σ sz c es) (hc : (es.length + xs.length) * bytes ≤ 140737488355328) (hs : vl e s = c) (hx : vl e x = .own base 0 xs.length) (hz : allSz sz xs = true) :
    ExR rp rs base (⟨d, none, some 1, .append sz bytes s x⟩ :: l) dr ks e (σ ++ [.prow sz xs, .hole]) Q = ExR rp rs base l dr ks (sto d (.own (base + 1) 0 (es.length + xs.length)) e) (nd σ c ++ [.prow sz xs, .prow sz (es ++ xs)]) Q := by
  subst hb
  rw [r_append]
  have h1 : content (σ ++ [.prow sz xs, .hole]) c = some es := h.left.content
  have h2 : content (σ ++ [.prow sz xs, .hole]) (.own σ.length 0 xs.length) = some xs := cont_own (s := sz) (by rw [get_app0]; rfl) rfl
  have hlt := h.lt.2
  simp only [ev, hs, hx, h1, h2, hc, hz, and_self, if_true]
  rcases h with ⟨rfl, rfl⟩ | ⟨b, rfl, hb⟩
  · simp only [push_sl, get_app, set_app, List.getElem?_cons_succ, List.getElem?_cons_zero, List.set_cons_succ, List.set_cons_zero, Option.map_some, ke_some, nd, List.nil_append]
  · have hlb := hlt _ _ _ rfl
    have hb' : (σ ++ [.prow sz xs, .hole])[b]? = some (.prow sz es) := by rw [List.getElem?_append_left hlb]; exact hb
    have e1 : ∀ l : Store, (σ.set b .dead ++ l)[σ.length + 1]? = l[1]? := fun l => by rw [show σ.length + 1 = (σ.set b Blk.dead).length + 1 by rw [List.length_set], get_app]
    have e2 : ∀ (l : Store) (x : Blk), (σ.set b .dead ++ l).set (σ.length + 1) x = σ.set b .dead ++ l.set 1 x := fun l x => by rw [show σ.length + 1 = (σ.set b Blk.dead).length + 1 by rw [List.length_set], set_app]
    simp only [hb', if_true, push_sl, set_left hlb, e1, e2, List.getElem?_cons_succ, List.getElem?_cons_zero, List.set_cons_succ, List.set_cons_zero, Option.map_some, ke_some, nd]
end
theorem subPV_zi {x : Int} : subPV true 2 (zi x) 0 = some (zi x) := subPV_mk
structure Bs (b : List PV) (N : Nat) (X : Nat → Nat → Int) : Prop where
  m : b.length ≤ 12
  n : N ≤ 12
  row : ∀ i, i < b.length → ∃ r, b[i]? = some (.sl r) ∧ r.length = N ∧ NuR r (X i)
  sz : ∀ i j, i < b.length → j < N → Sk 8 (X i j)
def gr (N : Nat) (X : Nat → Nat → Int) : Nat → Nat → Int := fun i j => dotI (X i) (X j) N
section
variable {b : List PV} {N : Nat} {X : Nat → Nat → Int}
def Dl (g : Nat → Nat → Int) (i : Nat) : List PV := (List.range i).map fun k => zi (Dv g k)
def Ll (g : Nat → Nat → Int) (i j : Nat) : List PV := (List.range j).map fun k => zi (V g k i k)
def Rl (g : Nat → Nat → Int) (i : Nat) : List PV := (List.range i).map fun t => .sl (Ll g t t)
def cz (x : Int) : List CV := [.p (.bool (decide (x < 0) && decide (x.natAbs ≠ 0))), .p (.sl (lm (dgl x.natAbs)))]
structure JI (g : Nat → Nat → Int) (τ : Store) (bd : Nat) (cL : CV) (i j bl : Nat) : Prop where
  g0 : τ[0]? = some (.kblk 2 [.nils, .nils])
  g2 : τ[2]? = some (.kblk 2 [.own bd 0 (i + 1), cL])
  gd : τ[bd]? = some (.prow 2 (Dl g (i + 1)))
  gL : GL τ 1 cL (Rl g i)
  gl : τ[bl]? = some (.prow 2 (Ll g i j))
  ne : bl ≠ bd
end
end Go.Proofs.Ytdpdnplljonppaa.VBn

namespace Go.Proofs.Ytdpdnplljonppaa.VBn
open Go Vpi
open Gs (V Dv Pos Good)
set_option maxRecDepth 100000
set_option linter.unusedSimpArgs false
set_option linter.unusedVariables false
section
variable {b : List PV} {n : Nat → Nat} {X : Nat → Nat → Int}
end
end Go.Proofs.Ytdpdnplljonppaa.VBn

namespace Go.Proofs.Ytdpdnplljonppaa.VBn
open Go Vpi
open Gs (V Dv Pos Good U Dk rg)
set_option maxRecDepth 100000
set_option linter.unusedSimpArgs false
set_option linter.unusedVariables false
section
variable {b : List PV} {N : Nat} {X : Nat → Nat → Int}
def star (g : Nat → Nat → Int) (k : Nat) : Rat := U (rg g) k k k
def mu (g : Nat → Nat → Int) (i k : Nat) : Rat := U (rg g) k i k / U (rg g) k k k
def Sl (g : Nat → Nat → Int) (i : Nat) : List PV := (List.range i).map fun k => rq (star g k)
def Ul (g : Nat → Nat → Int) (i j : Nat) : List PV := (List.range j).map fun k => rq (mu g i k)
def Ml (g : Nat → Nat → Int) (i : Nat) : List PV := (List.range i).map fun t => .sl (Ul g t t)
def cr (x : Rat) : List CV := [.p (.bool (decide (x.num < 0) && decide (x.num.natAbs ≠ 0))), .p (.sl (lm (dgl x.num.natAbs))), .p (.bool false), .p (.sl (lm (dgl x.den)))]
def Apart (c c' : CV) : Prop := ∀ b o n b' o' n', c = .own b o n → c' = .own b' o' n' → b ≠ b'
structure KI2 (g : Nat → Nat → Int) (τ : Store) (cM cS : CV) (i j : Nat) (c : CV) : Prop where
  g0 : τ[0]? = some (.kblk 2 [.nils, .nils])
  g1 : τ[1]? = some (.kblk 2 [cM, cS])
  gM : GL τ 1 cM (Ml g i)
  gS : GL τ 4 cS (Sl g i)
  gc : GL τ 4 c (Ul g i j)
  ap : Apart c cS
theorem GL.own_of {σ : Store} {sz : Nat} {c : CV} {es : List PV} {n : Nat} (h : GL σ sz c es) (hn : es.length = n) (h0 : 0 < n) : ∃ k, c = .own k 0 n ∧ σ[k]? = some (.prow sz es) ∧ k < σ.length := by
  rcases h with ⟨rfl, rfl⟩ | ⟨k, rfl, hk⟩
  · simp at hn; omega
  · exact ⟨k, by rw [hn], hk, (List.getElem?_eq_some_iff.1 hk).1⟩
theorem GL.nek {σ : Store} {sz s : Nat} {c : CV} {es : List PV} {k : Nat} {cs : List CV} (h : GL σ sz c es) (hk : σ[k]? = some (.kblk s cs)) : ∀ b o n, c = .own b o n → b ≠ k := by
  rintro b o n rfl rfl
  rcases h with ⟨h, _⟩ | ⟨b', h, hb⟩
  · cases h
  · cases h; rw [hb] at hk; cases hk
end
end Go.Proofs.Ytdpdnplljonppaa.VBn
