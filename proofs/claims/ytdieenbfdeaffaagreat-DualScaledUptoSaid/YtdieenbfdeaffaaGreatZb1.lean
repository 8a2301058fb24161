/- Resolved code of functions, printed by a program of ours (genfun.py); each is held against the model by chkF; The functions together; Numbers made: zint.made, zint.Of and the reference's; nat: trim, Norm, Cmp, Add; nat: Add, less, Sub; nat: less, Sub; nat.Mul; Bits of a limb, division by one limb, shifts by less than a limb; Division by one limb; shifts by less than a limb; Shifts by less than a limb; The next digit of a quotient; nat.Div: the simple cases. No condition. -/
import Derived.Test.YtdieenbfdeaffaaGreatZa3
import Derived.Test.YtdieenbfdeaffaaGreatProg
import Derived.KernelRfl
import Derived.Laws.Bits64

namespace Go.Proofs.YtdieenbfdeaffaaGreat
open Go
namespace Vpi
abbrev mq (d s : Nat) : LOp := lq d (.mv (.t s))
abbrev lT (d n s : Nat) : LOp := lq d (.load true n (.t s))
abbrev lF (d n s : Nat) : LOp := lq d (.load false n (.t s))
abbrev sq (n a x : Nat) : LOp := ⟨none, none, none, .store n (.t a) (.t x)⟩
abbrev ki (z : Int) : Opd := .c (.p (.int .i64 z))
abbrev bq (d : Nat) (o : BinOp) (a b : Nat) : LOp := lq d (.bin o (.t a) (.t b))
abbrev xq (d n a b : Nat) : LOp := lq d (.indexA n (.t a) (.t b))
end Vpi
end Go.Proofs.YtdieenbfdeaffaaGreat
namespace Go.Proofs.YtdieenbfdeaffaaGreat.VBn
open Go Vpi
set_option maxRecDepth 100000
def f8 : RFun := ⟨(.seq (.reg [lq 2 (.mv (ki 0))] none)
 (.seq (.reg [mq 6 0, lq 7 (.call .pu 26 [.t 6, .c (.p (.bool true))]), mq 5 7, lq 8 (.extract (.t 5) 0), lq 9 (.extract (.t 5) 1), lq 3 (.alloc [.nils, .nils]), sq 2 3 8, mq 4 9] none)
 (.seq (.reg [mq 10 4, mq 2 10] none)
 .ret))), [.t 2]⟩
theorem c8 : chkF Tryz.prog 8 f8 = true := by kernel_rfl
def f14 : RFun := ⟨(.seq (.reg [lq 1 (.box (.t 0)), lq 2 (.mv (ki 0))] none)
 (.seq (.reg [lq 4 (.fieldA 1 (.t 1)), lF 5 1 4, lq 6 (.call .pu 36 [.t 5]), mq 3 6] none)
 (.seq (.block 0
 (.seq (.reg [mq 8 3, lq 9 (.len (.t 8)), lq 10 (.bin .eql (.t 9) (ki 0)), mq 7 10] none)
 (.fg [1, 7] (.cond (.t 7)
 (.seq (.reg [lq 2 (.mv (ki 0))] none)
 .ret)
 (.seq (.reg [lq 12 (.fieldA 0 (.t 1)), lF 13 1 12, mq 11 13] none)
 (.fg [11] (.cond (.t 11)
 (.seq (.reg [lq 2 (.mv (.c (.p (.int .i64 (-1)))))] none)
 .ret)
 .skip)))))))
 (.fg [] (.seq (.reg [lq 2 (.mv (ki 1))] none)
 .ret))))), [.t 2]⟩
theorem c14 : chkF Tryz.prog 14 f14 = true := by kernel_rfl
def f22 : RFun := ⟨(.seq (.reg [lq 2 (.mv (ki 0))] none)
 (.seq (.reg [mq 6 0, lq 7 (.call .pu 53 [.t 6, .c (.p (.bool true))]), mq 5 7, lq 8 (.extract (.t 5) 0), lq 9 (.extract (.t 5) 1), lq 3 (.alloc [.nils, .nils]), sq 2 3 8, mq 4 9] none)
 (.seq (.reg [mq 10 4, mq 2 10] none)
 .ret))), [.t 2]⟩
theorem c22 : chkF Tryz.prog 22 f22 = true := by kernel_rfl
def f25 : RFun := ⟨(.seq (.reg [lq 4 (.alloc [.p (.bool false), .nils]), lq 5 (.mv (ki 0))] none)
 (.seq (.seq (.reg [mq 6 0, lq 7 (.len (.t 6)), mq 8 1, lq 9 (.len (.t 8)), bq 10 .neq 7 9] none)
 (.fg [0, 1, 4, 10] (.cond (.t 10)
 (.seq (.reg [lq 11 (.build [.p (.bool false), .nils] []), sq 2 4 11, lq 5 (.mv (ki 8))] none)
 .ret)
 .skip)))
 (.seq (.reg [mq 12 0, mq 13 1, lq 14 (.call .pu 61 [.t 12, .t 13]), sq 2 4 14, lq 5 (.mv (ki 0))] none)
 .ret))), [.cell 4 true 2, .t 5]⟩
theorem c25 : chkF Tryz.prog 25 f25 = true := by kernel_rfl
def f26 : RFun := ⟨(.seq (.reg [lq 4 (.alloc [.nils, .nils]), lq 5 (.mv (ki 0))] none)
 (.seq (.reg [mq 9 0, mq 10 1, lq 11 (.call .pu 62 [.t 9, .t 10]), mq 6 11] none)
 (.seq (.seq (.reg [mq 12 6, lq 13 (.bin .neq (.t 12) (ki 0))] none)
 (.fg [0, 4, 6, 13] (.cond (.t 13)
 (.seq (.reg [lq 14 (.build [.nils, .nils] []), mq 15 6, sq 2 4 14, mq 5 15] none)
 .ret)
 .skip)))
 (.seq (.reg [mq 17 0, lq 18 (.call .pu 63 [.t 17]), mq 16 18, lq 19 (.extract (.t 16) 0), lq 20 (.extract (.t 16) 1), lq 7 (.alloc [.nils, .nils]), sq 2 7 19, mq 8 20] none)
 (.seq (.seq (.reg [mq 21 8, lq 22 (.un .not (.t 21))] none)
 (.fg [4, 7, 22] (.cond (.t 22)
 (.seq (.reg [lq 23 (.build [.nils, .nils] []), sq 2 4 23, lq 5 (.mv (ki 50))] none)
 .ret)
 .skip)))
 (.seq (.reg [lT 24 2 7, sq 2 4 24, lq 5 (.mv (ki 0))] none)
 .ret)))))), [.cell 4 true 2, .t 5]⟩
theorem c26 : chkF Tryz.prog 26 f26 = true := by kernel_rfl
def f32 : RFun := ⟨(.seq (.reg [lq 2 (.box (.t 0)), lq 3 (.box (.t 1)), lq 4 (.alloc [.p (.bool false), .nils, .p (.bool false), .nils])] none)
 (.seq (.reg [lq 5 (.fieldA 0 (.t 2)), lT 6 2 5, lq 7 (.fieldA 0 (.t 3)), lT 8 2 7, lq 9 (.call .pu 73 [.t 6, .t 8]), lq 10 (.fieldA 2 (.t 2)), lT 11 2 10, lq 12 (.fieldA 2 (.t 3)), lT 13 2 12, lq 14 (.call .pu 73 [.t 11, .t 13]), lq 15 (.call .pu 72 [.t 9, .t 14]), sq 4 4 15] (some (0, [])))
 .ret)), [.cell 4 true 4]⟩
theorem c32 : chkF Tryz.prog 32 f32 = true := by kernel_rfl
def f33 : RFun := ⟨(.seq (.reg [lq 1 (.box (.t 0)), lq 2 (.alloc [.p (.bool false), .nils, .p (.bool false), .nils])] none)
 (.seq (.reg [lT 3 2 1, lq 4 (.call .pu 74 [.t 3]), lq 5 (.call .pu 75 []), lq 6 (.build [.p (.bool false), .nils, .p (.bool false), .nils] [(0, 2, .t 4), (2, 2, .t 5)]), sq 4 2 6] none)
 .ret)), [.cell 2 true 4]⟩
theorem c33 : chkF Tryz.prog 33 f33 = true := by kernel_rfl
def f34 : RFun := ⟨(.seq (.reg [lq 4 (.alloc [.p (.bool false), .nils])] none)
 (.seq (.reg [lq 5 (.alloc [.p (.bool false), .nils])] none)
 (.seq (.seq (.reg [lq 6 (.mv (ki 0))] none)
 (.fg [0, 1, 4, 5, 6] (.block 0
 (.loop (.fg [0, 1, 4, 5, 6]
 (.seq (.seq (.reg [mq 7 6, mq 8 0, lq 9 (.len (.t 8)), bq 10 .lss 7 9, mq 11 10, ⟨(some 12), (some (11, true)), none, .mv (.t 6)⟩, ⟨(some 13), (some (11, true)), none, .mv (.t 1)⟩, ⟨(some 14), (some (11, true)), none, .len (.t 13)⟩, ⟨(some 15), (some (11, true)), none, .bin .lss (.t 12) (.t 14)⟩, lq 16 (.pick (.t 11) (.t 15) (.c (.p (.bool false))))] none)
 (.fg [0, 1, 4, 5, 6, 16] (.cond (.t 16)
 .skip
 (.exit 0))))
 (.seq (.block 1
 (.reg [lT 19 2 5, mq 20 0, mq 21 6, xq 22 2 20 21, lT 23 2 22, mq 24 1, mq 25 6, xq 26 2 24 25, lT 27 2 26, lq 28 (.call .pu 73 [.t 23, .t 27]), lq 29 (.call .pu 76 [.t 19, .t 28]), sq 2 5 29] (some (0, []))))
 (.fg [0, 1, 4, 5, 6] (.reg [mq 17 6, lq 18 (.bin .add (.t 17) (ki 1)), mq 6 18] none)))))))))
 (.seq (.reg [lT 30 2 5, sq 2 4 30] none)
 .ret)))), [.cell 4 true 2]⟩
theorem c34 : chkF Tryz.prog 34 f34 = true := by kernel_rfl
def f36 : RFun := ⟨(.seq (.reg [lq 2 (.mv (.c (.nils)))] none)
 (.seq (.reg [mq 6 0, lq 7 (.len (.t 6)), mq 3 7] none)
 (.seq (.block 0
 (.loop (.fg [0, 3]
 (.seq (.seq (.reg [mq 8 3, lq 9 (.bin .gtr (.t 8) (ki 0)), mq 10 9, ⟨(some 11), (some (10, true)), none, .mv (.t 0)⟩, ⟨(some 12), (some (10, true)), none, .mv (.t 3)⟩, ⟨(some 13), (some (10, true)), none, .bin .sub (.t 12) (ki 1)⟩, ⟨(some 14), (some (10, true)), none, .indexA 1 (.t 11) (.t 13)⟩, ⟨(some 15), (some (10, true)), none, .load false 1 (.t 14)⟩, ⟨(some 16), (some (10, true)), none, .bin .eql (.t 15) (.c (.p (.int .u32 0)))⟩, lq 17 (.pick (.t 10) (.t 16) (.c (.p (.bool false))))] none)
 (.fg [0, 3, 17] (.cond (.t 17)
 .skip
 (.exit 0))))
 (.fg [0, 3] (.block 1
 (.reg [mq 18 3, lq 19 (.bin .sub (.t 18) (ki 1)), mq 3 19] none)))))))
 (.fg [0, 3] (.seq (.reg [lq 4 (.mv (.c (.nils)))] none)
 (.seq (.seq (.reg [lq 5 (.mv (ki 0))] none)
 (.fg [0, 3, 4, 5] (.block 2
 (.loop (.fg [0, 3, 4, 5]
 (.seq (.seq (.reg [mq 20 5, mq 21 3, bq 22 .lss 20 21] none)
 (.fg [0, 3, 4, 5, 22] (.cond (.t 22)
 .skip
 (.exit 2))))
 (.seq (.block 3
 (.reg [mq 25 4, mq 26 0, mq 27 5, xq 28 1 26 27, lF 29 1 28, lq 30 (.bslice 1 [.t 29]), lq 31 (.append 1 4 (.t 25) (.t 30)), mq 4 31] none))
 (.fg [0, 3, 4, 5] (.reg [mq 23 5, lq 24 (.bin .add (.t 23) (ki 1)), mq 5 24] none)))))))))
 (.seq (.reg [mq 32 4, mq 2 32] none)
 .ret))))))), [.t 2]⟩
theorem c36 : chkF Tryz.prog 36 f36 = true := by kernel_rfl
def f47 : RFun := ⟨(.seq (.reg [lq 2 (.alloc [.p (.bool false), .nils])] none)
 (.seq (.reg [mq 4 0, lq 5 (.conv .u64 (.t 4)), mq 3 5] none)
 (.seq (.seq (.reg [mq 6 0, lq 7 (.bin .lss (.t 6) (ki 0))] none)
 (.fg [0, 2, 3, 7] (.cond (.t 7)
 (.reg [mq 8 3, lq 9 (.un .neg (.t 8)), mq 3 9] none)
 .skip)))
 (.seq (.reg [mq 10 0, lq 11 (.bin .lss (.t 10) (ki 0)), mq 12 3, lq 13 (.conv .u32 (.t 12)), mq 14 3, lq 15 (.bin .shr (.t 14) (.c (.p (.int .u64 32)))), lq 16 (.conv .u32 (.t 15)), lq 17 (.bslice 1 [.t 13, .t 16]), lq 18 (.call .fz 80 [.t 11, .t 17]), sq 2 2 18] none)
 .ret)))), [.cell 2 true 2]⟩
theorem c47 : chkF Tryz.prog 47 f47 = true := by kernel_rfl
def f50 : RFun := ⟨(.seq (.reg [lq 2 (.alloc [.p (.bool false), .nils])] none)
 (.seq (.reg [mq 4 0, lq 5 (.conv .u64 (.t 4)), mq 3 5] none)
 (.seq (.seq (.reg [mq 6 0, lq 7 (.bin .lss (.t 6) (ki 0))] none)
 (.fg [0, 2, 3, 7] (.cond (.t 7)
 (.reg [mq 8 3, lq 9 (.un .neg (.t 8)), mq 3 9] none)
 .skip)))
 (.seq (.reg [mq 10 0, lq 11 (.bin .lss (.t 10) (ki 0)), mq 12 3, lq 13 (.conv .u32 (.t 12)), mq 14 3, lq 15 (.bin .shr (.t 14) (.c (.p (.int .u64 32)))), lq 16 (.conv .u32 (.t 15)), lq 17 (.bslice 1 [.t 13, .t 16]), lq 18 (.call .fz 85 [.t 11, .t 17]), sq 2 2 18] none)
 .ret)))), [.cell 2 true 2]⟩
theorem c50 : chkF Tryz.prog 50 f50 = true := by kernel_rfl
def f53 : RFun := ⟨(.seq (.reg [lq 4 (.alloc [.nils, .nils]), lq 5 (.mv (ki 0))] none)
 (.seq (.seq (.reg [mq 9 0, mq 10 1, lq 11 (.call .pu 87 [.t 9, .t 10]), mq 6 11] none)
 (.seq (.reg [mq 12 6, lq 13 (.bin .neq (.t 12) (ki 0))] none)
 (.fg [0, 4, 6, 13] (.cond (.t 13)
 (.seq (.reg [lq 14 (.build [.nils, .nils] []), mq 15 6, sq 2 4 14, mq 5 15] none)
 .ret)
 .skip))))
 (.seq (.reg [mq 17 0, lq 18 (.call .pu 88 [.t 17]), mq 16 18, lq 19 (.extract (.t 16) 0), lq 20 (.extract (.t 16) 1), lq 7 (.alloc [.nils, .nils]), sq 2 7 19, mq 8 20] none)
 (.seq (.seq (.reg [mq 21 8, lq 22 (.un .not (.t 21))] none)
 (.fg [4, 7, 22] (.cond (.t 22)
 (.seq (.reg [lq 23 (.build [.nils, .nils] []), sq 2 4 23, lq 5 (.mv (ki 50))] none)
 .ret)
 .skip)))
 (.seq (.reg [lT 24 2 7, sq 2 4 24, lq 5 (.mv (ki 0))] none)
 .ret))))), [.cell 4 true 2, .t 5]⟩
theorem c53 : chkF Tryz.prog 53 f53 = true := by kernel_rfl
def f61 : RFun := ⟨(.seq (.reg [lq 4 (.alloc [.p (.bool false), .nils])] none)
 (.seq (.reg [lq 5 (.alloc [.p (.bool false), .nils])] none)
 (.seq (.seq (.reg [mq 7 0, lq 8 (.len (.t 7)), lq 9 (.mv (ki 0))] none)
 (.fg [0, 1, 4, 5, 8, 9] (.block 0
 (.loop (.fg [0, 1, 4, 5, 8, 9]
 (.seq (.reg [bq 10 .lss 9 8] none)
 (.seq (.cond (.t 10)
 .skip
 (.exit 0))
 (.fg [0, 1, 4, 5, 8, 9] (.seq (.block 1
 (.seq (.reg [mq 11 9, mq 6 11] none)
 (.reg [lT 12 2 5, mq 13 0, mq 14 6, xq 15 2 13 14, lT 16 2 15, mq 17 1, mq 18 6, xq 19 2 17 18, lT 20 2 19, lq 21 (.call .pu 104 [.t 16, .t 20]), lq 22 (.call .pu 105 [.t 12, .t 21]), sq 2 5 22] (some (0, [])))))
 (.fg [0, 1, 4, 5, 8, 9] (.reg [lq 23 (.bin .add (.t 9) (ki 1)), mq 9 23] none)))))))))))
 (.seq (.reg [lT 24 2 5, sq 2 4 24] none)
 .ret)))), [.cell 4 true 2]⟩
theorem c61 : chkF Tryz.prog 61 f61 = true := by kernel_rfl
def f62 : RFun := ⟨(.seq (.reg [lq 4 (.mv (ki 0))] none)
 (.seq (.seq (.reg [mq 8 0, lq 9 (.len (.t 8)), lq 10 (.bin .gtr (.t 9) (ki 12))] none)
 (.fg [0, 1, 10] (.cond (.t 10)
 (.seq (.reg [lq 4 (.mv (ki 40))] none)
 .ret)
 .skip)))
 (.seq (.seq (.reg [lq 5 (.mv (ki 0))] none)
 (.fg [0, 1, 5] (.block 0
 (.loop (.fg [0, 1, 5]
 (.seq (.seq (.reg [mq 11 5, mq 12 0, lq 13 (.len (.t 12)), bq 14 .lss 11 13] none)
 (.fg [0, 1, 5, 14] (.cond (.t 14)
 .skip
 (.exit 0))))
 (.seq (.block 1
 (.seq (.seq (.reg [mq 17 0, mq 18 5, xq 19 1 17 18, lF 20 1 19, lq 21 (.len (.t 20)), lq 22 (.bin .gtr (.t 21) (ki 12))] none)
 (.fg [0, 1, 5, 22] (.cond (.t 22)
 (.seq (.reg [lq 4 (.mv (ki 40))] none)
 .ret)
 .skip)))
 (.seq (.reg [lq 6 (.mv (ki 0))] none)
 (.fg [0, 1, 5, 6] (.block 2
 (.loop (.fg [0, 1, 5, 6]
 (.seq (.seq (.reg [mq 23 6, mq 24 0, mq 25 5, xq 26 1 24 25, lF 27 1 26, lq 28 (.len (.t 27)), bq 29 .lss 23 28] none)
 (.fg [0, 1, 5, 6, 29] (.cond (.t 29)
 .skip
 (.exit 2))))
 (.seq (.block 3
 (.seq (.reg [mq 32 1, mq 33 32, ⟨(some 34), (some (33, true)), none, .mv (.t 0)⟩, ⟨(some 35), (some (33, true)), none, .mv (.t 5)⟩, ⟨(some 36), (some (33, true)), none, .indexA 1 (.t 34) (.t 35)⟩, ⟨(some 37), (some (33, true)), none, .load false 1 (.t 36)⟩, ⟨(some 38), (some (33, true)), none, .mv (.t 6)⟩, ⟨(some 39), (some (33, true)), none, .indexA 2 (.t 37) (.t 38)⟩, ⟨(some 40), (some (33, true)), none, .fieldA 1 (.t 39)⟩, ⟨(some 41), (some (33, true)), none, .load false 1 (.t 40)⟩, ⟨(some 42), (some (33, true)), none, .call .pu 106 [.t 41]⟩, ⟨(some 43), (some (33, true)), none, .bin .gtr (.t 42) (ki 256)⟩, lq 44 (.pick (.t 33) (.t 43) (.c (.p (.bool false))))] none)
 (.fg [0, 1, 5, 6, 44] (.cond (.t 44)
 (.seq (.reg [lq 4 (.mv (ki 40))] none)
 .ret)
 .skip))))
 (.fg [0, 1, 5, 6] (.reg [mq 30 6, lq 31 (.bin .add (.t 30) (ki 1)), mq 6 31] none)))))))))))
 (.fg [0, 1, 5] (.reg [mq 15 5, lq 16 (.bin .add (.t 15) (ki 1)), mq 5 16] none)))))))))
 (.seq (.seq (.reg [mq 45 0, lq 46 (.len (.t 45)), lq 47 (.bin .eql (.t 46) (ki 0))] none)
 (.fg [0, 47] (.cond (.t 47)
 (.seq (.reg [lq 4 (.mv (ki 41))] none)
 .ret)
 .skip)))
 (.seq (.seq (.reg [lq 7 (.mv (ki 0))] none)
 (.fg [0, 7] (.block 4
 (.loop (.fg [0, 7]
 (.seq (.seq (.reg [mq 48 7, mq 49 0, lq 50 (.len (.t 49)), bq 51 .lss 48 50] none)
 (.fg [0, 7, 51] (.cond (.t 51)
 .skip
 (.exit 4))))
 (.seq (.block 5
 (.seq (.reg [mq 54 0, mq 55 7, xq 56 1 54 55, lF 57 1 56, lq 58 (.len (.t 57)), mq 59 0, lq 60 (.indexA 1 (.t 59) (ki 0)), lF 61 1 60, lq 62 (.len (.t 61)), bq 63 .neq 58 62] (some (0, [])))
 (.fg [0, 7, 63] (.cond (.t 63)
 (.seq (.reg [lq 4 (.mv (ki 8))] none)
 .ret)
 .skip))))
 (.fg [0, 7] (.reg [mq 52 7, lq 53 (.bin .add (.t 52) (ki 1)), mq 7 53] none)))))))))
 (.seq (.reg [lq 4 (.mv (ki 0))] none)
 .ret)))))), [.t 4]⟩
theorem c62 : chkF Tryz.prog 62 f62 = true := by kernel_rfl
def f63 : RFun := ⟨(.seq (.reg [lq 2 (.alloc [.nils, .nils]), lq 3 (.mv (.c (.p (.bool false))))] none)
 (.seq (.reg [lq 4 (.alloc [.nils, .nils])] none)
 (.seq (.seq (.reg [lq 5 (.mv (ki 0))] none)
 (.fg [0, 2, 4, 5] (.block 0
 (.loop (.fg [0, 2, 4, 5]
 (.seq (.seq (.reg [mq 12 5, mq 13 0, lq 14 (.len (.t 13)), bq 15 .lss 12 14] none)
 (.fg [0, 2, 4, 5, 15] (.cond (.t 15)
 .skip
 (.exit 0))))
 (.seq (.block 1
 (.seq (.reg [lq 6 (.mv (.c (.nils)))] none)
 (.seq (.seq (.reg [lq 7 (.mv (ki 0))] none)
 (.fg [0, 2, 4, 5, 6, 7] (.block 2
 (.loop (.fg [0, 2, 4, 5, 6, 7]
 (.seq (.seq (.reg [mq 18 7, mq 19 5, bq 20 .lss 18 19] none)
 (.fg [0, 2, 4, 5, 6, 7, 20] (.cond (.t 20)
 .skip
 (.exit 2))))
 (.seq (.block 3
 (.seq (.reg [mq 23 0, mq 24 5, xq 25 1 23 24, lF 26 1 25, mq 27 0, mq 28 7, xq 29 1 27 28, lF 30 1 29, lq 31 (.call .fz 34 [.t 26, .t 30]), lq 32 (.call .pu 33 [.t 31]), ⟨(some 8), none, (some 0), .alloc [.p (.bool false), .nils, .p (.bool false), .nils]⟩, sq 4 8 32] (some (1, [])))
 (.seq (.seq (.reg [lq 9 (.mv (ki 0))] none)
 (.fg [0, 2, 4, 5, 6, 7, 8, 9] (.block 4
 (.loop (.fg [0, 2, 4, 5, 6, 7, 8, 9]
 (.seq (.seq (.reg [mq 33 9, mq 34 7, bq 35 .lss 33 34] none)
 (.fg [0, 2, 4, 5, 6, 7, 8, 9, 35] (.cond (.t 35)
 .skip
 (.exit 4))))
 (.seq (.block 5
 (.reg [lT 38 4 8, lq 39 (.fieldA 0 (.t 4)), lF 40 1 39, mq 41 7, xq 42 1 40 41, lF 43 1 42, mq 44 9, xq 45 4 43 44, lT 46 4 45, mq 47 6, mq 48 9, xq 49 4 47 48, lT 50 4 49, lq 51 (.call .fz 32 [.t 46, .t 50]), lq 52 (.fieldA 1 (.t 4)), lF 53 1 52, mq 54 9, xq 55 4 53 54, lT 56 4 55, lq 57 (.call .fz 32 [.t 51, .t 56]), lq 58 (.call .fz 67 [.t 38, .t 57]), sq 4 8 58] (some (0, [(0, 13), (13, 15), (13, 17), (13, 18), (0, 19)]))))
 (.fg [0, 2, 4, 5, 6, 7, 8, 9] (.reg [mq 36 9, lq 37 (.bin .add (.t 36) (ki 1)), mq 9 37] none)))))))))
 (.reg [mq 59 6, lT 60 4 8, lq 61 (.fieldA 1 (.t 4)), lF 62 1 61, mq 63 7, xq 64 4 62 63, lT 65 4 64, lq 66 (.call .fz 70 [.t 60, .t 65]), ⟨(some 67), none, (some 0), .bslice 4 [.t 66]⟩, ⟨(some 68), none, (some 1), .append 4 64 (.t 59) (.t 67)⟩, mq 6 68] (some (2, []))))))
 (.fg [0, 2, 4, 5, 6, 7] (.reg [mq 21 7, lq 22 (.bin .add (.t 21) (ki 1)), mq 7 22] none)))))))))
 (.seq (.reg [mq 69 0, mq 70 5, xq 71 1 69 70, lF 72 1 71, mq 73 0, mq 74 5, xq 75 1 73 74, lF 76 1 75, lq 77 (.call .fz 34 [.t 72, .t 76]), lq 78 (.call .pu 33 [.t 77]), ⟨(some 10), none, (some 0), .alloc [.p (.bool false), .nils, .p (.bool false), .nils]⟩, sq 4 10 78] (some (1, [])))
 (.seq (.seq (.reg [lq 11 (.mv (ki 0))] none)
 (.fg [0, 2, 4, 5, 6, 10, 11] (.block 6
 (.loop (.fg [0, 2, 4, 5, 6, 10, 11]
 (.seq (.seq (.reg [mq 79 11, mq 80 5, bq 81 .lss 79 80] none)
 (.fg [0, 2, 4, 5, 6, 10, 11, 81] (.cond (.t 81)
 .skip
 (.exit 6))))
 (.seq (.block 7
 (.reg [lT 84 4 10, mq 85 6, mq 86 11, xq 87 4 85 86, lT 88 4 87, lq 89 (.call .fz 69 [.t 88]), lq 90 (.fieldA 1 (.t 4)), lF 91 1 90, mq 92 11, xq 93 4 91 92, lT 94 4 93, lq 95 (.call .fz 32 [.t 89, .t 94]), lq 96 (.call .fz 67 [.t 84, .t 95]), sq 4 10 96] (some (0, [(0, 5), (5, 7), (5, 9), (5, 10), (0, 11)]))))
 (.fg [0, 2, 4, 5, 6, 10, 11] (.reg [mq 82 11, lq 83 (.bin .add (.t 82) (ki 1)), mq 11 83] none)))))))))
 (.seq (.seq (.reg [lq 97 (.fieldA 0 (.t 10)), lT 98 2 97, lq 99 (.call .fz 14 [.t 98]), lq 100 (.bin .leq (.t 99) (ki 0))] none)
 (.fg [0, 2, 4, 5, 6, 10, 100] (.cond (.t 100)
 (.seq (.reg [lT 101 2 4, sq 2 2 101, lq 3 (.mv (.c (.p (.bool false))))] none)
 .ret)
 .skip)))
 (.seq (.reg [lq 102 (.fieldA 0 (.t 4)), lF 103 1 102, mq 104 6, lq 105 (.bslice 1 [.t 104]), lq 106 (.append 1 24 (.t 103) (.t 105)), lq 107 (.fieldA 0 (.t 4)), sq 1 107 106] none)
 (.reg [lq 108 (.fieldA 1 (.t 4)), lF 109 1 108, lT 110 4 10, lq 111 (.bslice 4 [.t 110]), lq 112 (.append 4 64 (.t 109) (.t 111)), lq 113 (.fieldA 1 (.t 4)), sq 1 113 112] none))))))))
 (.fg [0, 2, 4, 5] (.reg [mq 16 5, lq 17 (.bin .add (.t 16) (ki 1)), mq 5 17] none)))))))))
 (.seq (.reg [lT 114 2 4, sq 2 2 114, lq 3 (.mv (.c (.p (.bool true))))] none)
 .ret)))), [.cell 2 true 2, .t 3]⟩
theorem c63 : chkF Tryz.prog 63 f63 = true := by kernel_rfl
def f67 : RFun := ⟨(.seq (.reg [lq 2 (.box (.t 0)), lq 3 (.box (.t 1)), lq 4 (.alloc [.p (.bool false), .nils, .p (.bool false), .nils])] none)
 (.seq (.reg [lT 5 4 2, lT 6 4 3, lq 7 (.call .pu 108 [.t 6]), lq 8 (.call .pu 68 [.t 5, .t 7]), sq 4 4 8] (some (0, [])))
 .ret)), [.cell 4 true 4]⟩
theorem c67 : chkF Tryz.prog 67 f67 = true := by kernel_rfl
def f68 : RFun := ⟨(.seq (.reg [lq 2 (.box (.t 0)), lq 3 (.box (.t 1)), lq 4 (.alloc [.p (.bool false), .nils, .p (.bool false), .nils])] none)
 (.seq (.reg [lq 7 (.fieldA 0 (.t 2)), lT 8 2 7, lq 9 (.fieldA 2 (.t 3)), lT 10 2 9, lq 11 (.call .pu 73 [.t 8, .t 10]), lq 5 (.alloc [.p (.bool false), .nils]), sq 2 5 11] none)
 (.seq (.reg [lq 12 (.fieldA 0 (.t 3)), lT 13 2 12, lq 14 (.fieldA 2 (.t 2)), lT 15 2 14, lq 16 (.call .pu 73 [.t 13, .t 15]), lq 6 (.alloc [.p (.bool false), .nils]), sq 2 6 16] none)
 (.seq (.reg [lT 17 2 5, lT 18 2 6, lq 19 (.call .pu 76 [.t 17, .t 18]), lq 20 (.fieldA 2 (.t 2)), lT 21 2 20, lq 22 (.fieldA 2 (.t 3)), lT 23 2 22, lq 24 (.call .pu 73 [.t 21, .t 23]), lq 25 (.call .pu 72 [.t 19, .t 24]), sq 4 4 25] (some (0, [])))
 .ret)))), [.cell 4 true 4]⟩
theorem c68 : chkF Tryz.prog 68 f68 = true := by kernel_rfl
def f69 : RFun := ⟨(.seq (.reg [lq 1 (.box (.t 0)), lq 2 (.alloc [.p (.bool false), .nils, .p (.bool false), .nils])] none)
 (.seq (.reg [lT 3 4 1, lT 4 4 1, lq 5 (.call .pu 32 [.t 3, .t 4]), sq 4 2 5] none)
 .ret)), [.cell 2 true 4]⟩
theorem c69 : chkF Tryz.prog 69 f69 = true := by kernel_rfl
def f70 : RFun := ⟨(.seq (.reg [lq 2 (.box (.t 0)), lq 3 (.box (.t 1)), lq 4 (.alloc [.p (.bool false), .nils, .p (.bool false), .nils])] none)
 (.seq (.reg [lq 5 (.fieldA 0 (.t 2)), lT 6 2 5, lq 7 (.fieldA 2 (.t 3)), lT 8 2 7, lq 9 (.call .pu 73 [.t 6, .t 8]), lq 10 (.fieldA 2 (.t 2)), lT 11 2 10, lq 12 (.fieldA 0 (.t 3)), lT 13 2 12, lq 14 (.call .pu 73 [.t 11, .t 13]), lq 15 (.call .pu 72 [.t 9, .t 14]), sq 4 4 15] (some (0, [])))
 .ret)), [.cell 4 true 4]⟩
theorem c70 : chkF Tryz.prog 70 f70 = true := by kernel_rfl
def f72 : RFun := ⟨(.seq (.reg [lq 2 (.box (.t 0)), lq 3 (.box (.t 1)), lq 4 (.alloc [.p (.bool false), .nils, .p (.bool false), .nils])] none)
 (.seq (.reg [lT 14 2 2, lq 15 (.call .pu 74 [.t 14]), lq 5 (.alloc [.p (.bool false), .nils]), sq 2 5 15] none)
 (.seq (.reg [lT 16 2 3, lq 17 (.call .pu 74 [.t 16]), lq 6 (.alloc [.p (.bool false), .nils]), sq 2 6 17] none)
 (.seq (.seq (.reg [lT 18 2 6, lq 19 (.call .pu 14 [.t 18]), lq 20 (.bin .lss (.t 19) (ki 0))] none)
 (.fg [4, 5, 6, 20] (.cond (.t 20)
 (.seq (.reg [lT 21 2 5, lq 22 (.call .pu 111 [.t 21]), sq 2 5 22] none)
 (.reg [lT 23 2 6, lq 24 (.call .pu 111 [.t 23]), sq 2 6 24] none))
 .skip)))
 (.seq (.reg [lq 25 (.fieldA 1 (.t 5)), lF 26 1 25, lq 27 (.fieldA 1 (.t 6)), lF 28 1 27, lq 29 (.call .pu 112 [.t 26, .t 28]), mq 7 29] none)
 (.seq (.reg [lq 31 (.fieldA 1 (.t 5)), lF 32 1 31, mq 33 7, lq 34 (.call .pu 109 [.t 32, .t 33]), mq 30 34, lq 35 (.extract (.t 30) 0), lq 36 (.extract (.t 30) 1), lq 37 (.extract (.t 30) 2), mq 8 35, mq 9 36, mq 10 37] none)
 (.seq (.reg [lq 39 (.fieldA 1 (.t 6)), lF 40 1 39, mq 41 7, lq 42 (.call .pu 109 [.t 40, .t 41]), mq 38 42, lq 43 (.extract (.t 38) 0), lq 44 (.extract (.t 38) 1), lq 45 (.extract (.t 38) 2), mq 11 43, mq 12 44, mq 13 45] none)
 (.seq (.reg [lq 46 (.fieldA 0 (.t 5)), lF 47 1 46, mq 48 8, lq 49 (.build [.p (.bool false), .nils] [(0, 1, .t 47), (1, 1, .t 48)]), lq 50 (.call .pu 74 [.t 49]), mq 51 11, lq 52 (.build [.p (.bool false), .nils] [(1, 1, .t 51)]), lq 53 (.build [.p (.bool false), .nils, .p (.bool false), .nils] [(0, 2, .t 50), (2, 2, .t 52)]), sq 4 4 53] none)
 .ret)))))))), [.cell 4 true 4]⟩
theorem c72 : chkF Tryz.prog 72 f72 = true := by kernel_rfl
def f73 : RFun := ⟨(.seq (.reg [lq 2 (.box (.t 0)), lq 3 (.box (.t 1)), lq 4 (.alloc [.p (.bool false), .nils])] none)
 (.seq (.reg [lq 5 (.fieldA 0 (.t 2)), lF 6 1 5, lq 7 (.fieldA 0 (.t 3)), lF 8 1 7, lq 9 (.beq true (.t 6) (.t 8)), lq 10 (.fieldA 1 (.t 2)), lF 11 1 10, lq 12 (.fieldA 1 (.t 3)), lF 13 1 12, lq 14 (.call .pu 113 [.t 11, .t 13]), lq 15 (.call .pu 80 [.t 9, .t 14]), sq 2 4 15] (some (0, [])))
 .ret)), [.cell 4 true 2]⟩
theorem c73 : chkF Tryz.prog 73 f73 = true := by kernel_rfl
def f74 : RFun := ⟨(.seq (.reg [lq 1 (.box (.t 0)), lq 2 (.alloc [.p (.bool false), .nils])] none)
 (.seq (.reg [lq 3 (.fieldA 0 (.t 1)), lF 4 1 3, lq 5 (.fieldA 1 (.t 1)), lF 6 1 5, lq 7 (.call .pu 80 [.t 4, .t 6]), sq 2 2 7] none)
 .ret)), [.cell 2 true 2]⟩
theorem c74 : chkF Tryz.prog 74 f74 = true := by kernel_rfl
def f75 : RFun := ⟨(.seq (.reg [lq 0 (.alloc [.p (.bool false), .nils])] none)
 (.seq (.reg [lq 1 (.call .pu 47 [.c (.p (.int .i64 1))]), sq 2 0 1] none)
 .ret)), [.cell 0 true 2]⟩
theorem c75 : chkF Tryz.prog 75 f75 = true := by kernel_rfl
def f76 : RFun := ⟨(.seq (.reg [lq 2 (.box (.t 0)), lq 3 (.box (.t 1)), lq 4 (.alloc [.p (.bool false), .nils])] none)
 (.seq (.seq (.reg [lq 9 (.fieldA 0 (.t 2)), lF 10 1 9, lq 11 (.fieldA 0 (.t 3)), lF 12 1 11, lq 13 (.beq false (.t 10) (.t 12))] none)
 (.fg [2, 3, 4, 13] (.cond (.t 13)
 (.seq (.reg [lq 14 (.fieldA 0 (.t 2)), lF 15 1 14, lq 16 (.fieldA 1 (.t 2)), lF 17 1 16, lq 18 (.fieldA 1 (.t 3)), lF 19 1 18, lq 20 (.call .pu 114 [.t 17, .t 19]), lq 21 (.call .pu 80 [.t 15, .t 20]), sq 2 4 21] (some (0, [])))
 .ret)
 .skip)))
 (.seq (.seq (.reg [lq 22 (.fieldA 1 (.t 2)), lF 23 1 22, lq 24 (.fieldA 1 (.t 3)), lF 25 1 24, lq 26 (.call .pu 115 [.t 23, .t 25]), lq 27 (.bin .geq (.t 26) (ki 0))] none)
 (.fg [2, 3, 4, 27] (.cond (.t 27)
 (.seq (.reg [lq 29 (.fieldA 1 (.t 2)), lF 30 1 29, lq 31 (.fieldA 1 (.t 3)), lF 32 1 31, lq 33 (.call .pu 116 [.t 30, .t 32]), mq 28 33, lq 34 (.extract (.t 28) 0), lq 35 (.extract (.t 28) 1), mq 5 34, mq 6 35] none)
 (.seq (.reg [lq 36 (.fieldA 0 (.t 2)), lF 37 1 36, mq 38 5, lq 39 (.call .pu 80 [.t 37, .t 38]), sq 2 4 39] none)
 .ret))
 .skip)))
 (.seq (.reg [lq 41 (.fieldA 1 (.t 3)), lF 42 1 41, lq 43 (.fieldA 1 (.t 2)), lF 44 1 43, lq 45 (.call .pu 116 [.t 42, .t 44]), mq 40 45, lq 46 (.extract (.t 40) 0), lq 47 (.extract (.t 40) 1), mq 7 46, mq 8 47] none)
 (.seq (.reg [lq 48 (.fieldA 0 (.t 3)), lF 49 1 48, mq 50 7, lq 51 (.call .pu 80 [.t 49, .t 50]), sq 2 4 51] none)
 .ret))))), [.cell 4 true 2]⟩
theorem c76 : chkF Tryz.prog 76 f76 = true := by kernel_rfl
def f80 : RFun := ⟨(.seq (.reg [lq 4 (.alloc [.p (.bool false), .nils])] none)
 (.seq (.reg [mq 6 1, lq 7 (.call .pu 36 [.t 6]), mq 5 7] none)
 (.seq (.reg [mq 8 0, mq 9 8, ⟨(some 10), (some (9, true)), none, .mv (.t 5)⟩, ⟨(some 11), (some (9, true)), none, .len (.t 10)⟩, ⟨(some 12), (some (9, true)), none, .bin .gtr (.t 11) (ki 0)⟩, lq 13 (.pick (.t 9) (.t 12) (.c (.p (.bool false)))), mq 14 5, lq 15 (.build [.p (.bool false), .nils] [(0, 1, .t 13), (1, 1, .t 14)]), sq 2 4 15] none)
 .ret))), [.cell 4 true 2]⟩
theorem c80 : chkF Tryz.prog 80 f80 = true := by kernel_rfl
def f85 : RFun := ⟨(.seq (.reg [lq 4 (.alloc [.p (.bool false), .nils])] none)
 (.seq (.reg [mq 7 1, lq 8 (.len (.t 7)), mq 5 8] none)
 (.seq (.block 0
 (.loop (.fg [0, 1, 4, 5]
 (.seq (.seq (.reg [mq 9 5, lq 10 (.bin .gtr (.t 9) (ki 0)), mq 11 10, ⟨(some 12), (some (11, true)), none, .mv (.t 1)⟩, ⟨(some 13), (some (11, true)), none, .mv (.t 5)⟩, ⟨(some 14), (some (11, true)), none, .bin .sub (.t 13) (ki 1)⟩, ⟨(some 15), (some (11, true)), none, .indexA 1 (.t 12) (.t 14)⟩, ⟨(some 16), (some (11, true)), none, .load false 1 (.t 15)⟩, ⟨(some 17), (some (11, true)), none, .bin .eql (.t 16) (.c (.p (.int .u32 0)))⟩, lq 18 (.pick (.t 11) (.t 17) (.c (.p (.bool false))))] none)
 (.fg [0, 1, 4, 5, 18] (.cond (.t 18)
 .skip
 (.exit 0))))
 (.fg [0, 1, 4, 5] (.block 1
 (.reg [mq 19 5, lq 20 (.bin .sub (.t 19) (ki 1)), mq 5 20] none)))))))
 (.fg [0, 1, 4, 5] (.seq (.seq (.reg [mq 21 5, lq 22 (.bin .eql (.t 21) (ki 0))] none)
 (.fg [0, 1, 4, 5, 22] (.cond (.t 22)
 (.seq (.reg [lq 23 (.build [.p (.bool false), .nils] []), sq 2 4 23] none)
 .ret)
 .skip)))
 (.seq (.reg [mq 24 5, lq 25 (.mks false 1 4 (.int .u32 0) (.t 24) (.t 24)), mq 6 25] none)
 (.seq (.reg [mq 26 6, mq 27 1, lq 28 (.copy 1 (.t 26) (.t 27))] none)
 (.seq (.reg [mq 29 0, mq 30 6, lq 31 (.build [.p (.bool false), .nils] [(0, 1, .t 29), (1, 1, .t 30)]), sq 2 4 31] none)
 .ret)))))))), [.cell 4 true 2]⟩
theorem c85 : chkF Tryz.prog 85 f85 = true := by kernel_rfl
def f87 : RFun := ⟨(.seq (.reg [lq 4 (.mv (ki 0))] none)
 (.seq (.reg [mq 11 0, lq 12 (.len (.t 11)), lq 13 (.bin .gtr (.t 12) (ki 12)), mq 14 13, ⟨(some 15), (some (14, false)), none, .mv (.t 1)⟩, ⟨(some 16), (some (14, false)), none, .mv (.t 15)⟩, ⟨(some 17), (some (16, true)), none, .mv (.t 0)⟩, ⟨(some 18), (some (16, true)), none, .call .pu 125 [.t 17]⟩, ⟨(some 19), (some (16, true)), none, .bin .gtr (.t 18) (ki 256)⟩, ⟨(some 20), (some (14, false)), none, .pick (.t 16) (.t 19) (.c (.p (.bool false)))⟩, lq 21 (.pick (.t 14) (.c (.p (.bool true))) (.t 20)), mq 5 21] none)
 (.seq (.seq (.reg [mq 22 0, lq 23 (.len (.t 22)), lq 24 (.mv (ki 0))] none)
 (.fg [0, 5, 22, 23, 24] (.block 0
 (.loop (.fg [0, 5, 22, 23, 24]
 (.seq (.reg [bq 25 .lss 24 23] none)
 (.seq (.cond (.t 25)
 .skip
 (.exit 0))
 (.fg [0, 5, 22, 23, 24] (.seq (.block 1
 (.seq (.reg [xq 26 1 22 24, lF 27 1 26, mq 7 27] none)
 (.reg [mq 28 5, mq 29 28, ⟨(some 30), (some (29, false)), none, .mv (.t 7)⟩, ⟨(some 31), (some (29, false)), none, .len (.t 30)⟩, ⟨(some 32), (some (29, false)), none, .bin .gtr (.t 31) (ki 12)⟩, lq 33 (.pick (.t 29) (.c (.p (.bool true))) (.t 32)), mq 5 33] none)))
 (.fg [0, 5, 22, 23, 24] (.reg [lq 34 (.bin .add (.t 24) (ki 1)), mq 24 34] none)))))))))))
 (.seq (.seq (.reg [mq 35 5] none)
 (.fg [0, 35] (.cond (.t 35)
 (.seq (.reg [lq 4 (.mv (ki 40))] none)
 .ret)
 .skip)))
 (.seq (.seq (.reg [mq 36 0, lq 37 (.len (.t 36)), lq 38 (.bin .eql (.t 37) (ki 0))] none)
 (.fg [0, 38] (.cond (.t 38)
 (.seq (.reg [lq 4 (.mv (ki 41))] none)
 .ret)
 .skip)))
 (.seq (.reg [mq 40 0, lq 41 (.call .pu 89 [.t 40]), mq 39 41, lq 42 (.extract (.t 39) 0), lq 43 (.extract (.t 39) 1), lq 44 (.extract (.t 39) 2), mq 8 42, mq 9 43, mq 10 44] none)
 (.seq (.reg [mq 45 10, mq 4 45] none)
 .ret))))))), [.t 4]⟩
theorem c87 : chkF Tryz.prog 87 f87 = true := by kernel_rfl
def f88 : RFun := ⟨(.seq (.reg [lq 2 (.alloc [.nils, .nils]), lq 3 (.mv (.c (.p (.bool false))))] none)
 (.seq (.reg [lq 12 (.call .pu 50 [.c (.p (.int .i64 1))]), lq 13 (.bslice 2 [.t 12]), lq 14 (.build [.nils, .nils] [(0, 1, .t 13)]), lq 4 (.alloc [.nils, .nils]), sq 2 4 14] none)
 (.seq (.seq (.reg [mq 15 0, lq 16 (.len (.t 15)), lq 17 (.mv (ki 0))] none)
 (.fg [0, 2, 4, 16, 17] (.block 0
 (.loop (.fg [0, 2, 4, 16, 17]
 (.seq (.reg [bq 18 .lss 17 16] none)
 (.seq (.cond (.t 18)
 .skip
 (.exit 0))
 (.fg [0, 2, 4, 16, 17] (.seq (.block 1
 (.seq (.reg [mq 19 17, mq 5 19] none)
 (.seq (.reg [mq 20 5, lq 21 (.bin .add (.t 20) (ki 1)), lq 22 (.mks false 2 32 (.agg [.bool false, .sl []]) (ki 0) (.t 21)), mq 6 22] none)
 (.seq (.seq (.reg [lq 7 (.mv (ki 0))] none)
 (.fg [0, 2, 4, 5, 6, 7, 16, 17] (.block 2
 (.loop (.fg [0, 2, 4, 5, 6, 7, 16, 17]
 (.seq (.seq (.reg [mq 23 7, mq 24 5, bq 25 .leq 23 24] none)
 (.fg [0, 2, 4, 5, 6, 7, 16, 17, 25] (.cond (.t 25)
 .skip
 (.exit 2))))
 (.seq (.block 3
 (.seq (.reg [mq 29 0, mq 30 5, xq 31 1 29 30, lF 32 1 31, mq 33 0, mq 34 7, xq 35 1 33 34, lF 36 1 35, lq 37 (.call .fz 25 [.t 32, .t 36]), mq 28 37, lq 38 (.extract (.t 28) 0), lq 39 (.extract (.t 28) 1), ⟨(some 8), none, (some 0), .alloc [.p (.bool false), .nils]⟩, sq 2 8 38, mq 9 39] (some (1, [])))
 (.seq (.seq (.reg [lq 10 (.mv (ki 0))] none)
 (.fg [0, 2, 4, 5, 6, 7, 8, 10, 16, 17] (.block 4
 (.loop (.fg [0, 2, 4, 5, 6, 7, 8, 10, 16, 17]
 (.seq (.seq (.reg [mq 40 10, mq 41 7, bq 42 .lss 40 41] none)
 (.fg [0, 2, 4, 5, 6, 7, 8, 10, 16, 17, 42] (.cond (.t 42)
 .skip
 (.exit 4))))
 (.seq (.block 5
 (.seq (.reg [mq 45 6, mq 11 45] none)
 (.seq (.seq (.reg [mq 46 7, mq 47 5, bq 48 .lss 46 47] none)
 (.fg [0, 2, 4, 5, 6, 7, 8, 10, 11, 16, 17, 48] (.cond (.t 48)
 (.reg [lq 49 (.fieldA 1 (.t 4)), lF 50 1 49, mq 51 7, xq 52 1 50 51, lF 53 1 52, mq 11 53] none)
 .skip)))
 (.seq (.reg [lq 54 (.fieldA 0 (.t 4)), lF 55 1 54, mq 56 10, lq 57 (.bin .add (.t 56) (ki 1)), xq 58 2 55 57, lT 59 2 58, lT 60 2 8, lq 61 (.call .fz 104 [.t 59, .t 60]), mq 62 6, mq 63 10, xq 64 2 62 63, lT 65 2 64, mq 66 11, mq 67 10, xq 68 2 66 67, lT 69 2 68, lq 70 (.call .fz 104 [.t 65, .t 69]), lq 71 (.call .pu 126 [.t 61, .t 70]), sq 2 8 71] (some (0, [(7, 10), (7, 11), (7, 14), (7, 15)])))
 (.reg [lT 73 2 8, lq 74 (.fieldA 0 (.t 4)), lF 75 1 74, mq 76 10, xq 77 2 75 76, lT 78 2 77, lq 79 (.call .fz 99 [.t 73, .t 78]), mq 72 79, lq 80 (.extract (.t 72) 0), lq 81 (.extract (.t 72) 1), lq 82 (.extract (.t 72) 2), sq 2 8 80] (some (0, [])))))))
 (.fg [0, 2, 4, 5, 6, 7, 8, 10, 16, 17] (.reg [mq 43 10, lq 44 (.bin .add (.t 43) (ki 1)), mq 10 44] none)))))))))
 (.reg [mq 83 6, lT 84 2 8, lq 85 (.bslice 2 [.t 84]), lq 86 (.append 2 32 (.t 83) (.t 85)), mq 6 86] none))))
 (.fg [0, 2, 4, 5, 6, 7, 16, 17] (.reg [mq 26 7, lq 27 (.bin .add (.t 26) (ki 1)), mq 7 27] none)))))))))
 (.seq (.seq (.reg [mq 87 6, mq 88 5, xq 89 2 87 88, lT 90 2 89, lq 91 (.call .fz 96 [.t 90]), lq 92 (.bin .leq (.t 91) (ki 0))] none)
 (.fg [0, 2, 4, 5, 6, 16, 17, 92] (.cond (.t 92)
 (.seq (.reg [lq 93 (.build [.nils, .nils] []), sq 2 2 93, lq 3 (.mv (.c (.p (.bool false))))] none)
 .ret)
 .skip)))
 (.seq (.reg [lq 94 (.fieldA 0 (.t 4)), lF 95 1 94, mq 96 6, mq 97 5, xq 98 2 96 97, lT 99 2 98, ⟨(some 100), none, (some 0), .bslice 2 [.t 99]⟩, ⟨(some 101), none, (some 1), .append 2 32 (.t 95) (.t 100)⟩, lq 102 (.fieldA 0 (.t 4)), sq 1 102 101] (some (2, [(1, 6)])))
 (.reg [lq 103 (.fieldA 1 (.t 4)), lF 104 1 103, mq 105 6, mq 106 5, mq 107 5, lq 108 (.slice 2 (.t 105) none (some (.t 106)) (some (.t 107))), ⟨(some 109), none, (some 0), .bslice 1 [.t 108]⟩, ⟨(some 110), none, (some 1), .append 1 24 (.t 104) (.t 109)⟩, lq 111 (.fieldA 1 (.t 4)), sq 1 111 110] (some (2, [(1, 6)])))))))))
 (.fg [0, 2, 4, 16, 17] (.reg [lq 112 (.bin .add (.t 17) (ki 1)), mq 17 112] none)))))))))))
 (.seq (.reg [lT 113 2 4, sq 2 2 113, lq 3 (.mv (.c (.p (.bool true))))] none)
 .ret)))), [.cell 2 true 2, .t 3]⟩
theorem c88 : chkF Tryz.prog 88 f88 = true := by kernel_rfl
def f89 : RFun := ⟨(.seq (.reg [lq 2 (.mv (ki 0)), lq 3 (.mv (ki 0)), lq 4 (.mv (ki 0))] none)
 (.seq (.seq (.reg [mq 7 0, lq 8 (.len (.t 7)), lq 9 (.bin .eql (.t 8) (ki 0))] none)
 (.fg [0, 9] (.cond (.t 9)
 (.seq (.reg [lq 2 (.mv (ki 0)), lq 3 (.mv (ki 0)), lq 4 (.mv (ki 0))] none)
 .ret)
 .skip)))
 (.seq (.seq (.reg [mq 10 0, lq 11 (.len (.t 10)), lq 12 (.mv (ki 0))] none)
 (.fg [0, 10, 11, 12] (.block 0
 (.loop (.fg [0, 10, 11, 12]
 (.seq (.reg [bq 13 .lss 12 11] none)
 (.seq (.cond (.t 13)
 .skip
 (.exit 0))
 (.fg [0, 10, 11, 12] (.seq (.block 1
 (.seq (.reg [xq 14 1 10 12, lF 15 1 14, mq 6 15] none)
 (.seq (.reg [mq 16 6, lq 17 (.len (.t 16)), mq 18 0, lq 19 (.indexA 1 (.t 18) (ki 0)), lF 20 1 19, lq 21 (.len (.t 20)), bq 22 .neq 17 21] none)
 (.fg [0, 10, 11, 12, 22] (.cond (.t 22)
 (.seq (.reg [lq 2 (.mv (ki 0)), lq 3 (.mv (ki 0)), lq 4 (.mv (ki 8))] none)
 .ret)
 .skip)))))
 (.fg [0, 10, 11, 12] (.reg [lq 23 (.bin .add (.t 12) (ki 1)), mq 12 23] none)))))))))))
 (.seq (.reg [mq 24 0, lq 25 (.len (.t 24)), mq 26 0, lq 27 (.indexA 1 (.t 26) (ki 0)), lF 28 1 27, lq 29 (.len (.t 28)), mq 2 25, mq 3 29, lq 4 (.mv (ki 0))] (some (0, [])))
 .ret)))), [.t 2, .t 3, .t 4]⟩
theorem c89 : chkF Tryz.prog 89 f89 = true := by kernel_rfl
def f96 : RFun := ⟨(.seq (.reg [lq 1 (.box (.t 0)), lq 2 (.mv (ki 0))] none)
 (.seq (.block 0
 (.seq (.reg [lq 4 (.fieldA 1 (.t 1)), lF 5 1 4, lq 6 (.call .pu 131 [.t 5]), lq 7 (.bin .eql (.t 6) (ki 0)), mq 3 7] none)
 (.fg [1, 3] (.cond (.t 3)
 (.seq (.reg [lq 2 (.mv (ki 0))] none)
 .ret)
 (.seq (.reg [lq 9 (.fieldA 0 (.t 1)), lF 10 1 9, mq 8 10] none)
 (.fg [8] (.cond (.t 8)
 (.seq (.reg [lq 2 (.mv (.c (.p (.int .i64 (-1)))))] none)
 .ret)
 .skip)))))))
 (.fg [] (.seq (.reg [lq 2 (.mv (ki 1))] none)
 .ret)))), [.t 2]⟩
theorem c96 : chkF Tryz.prog 96 f96 = true := by kernel_rfl
def f99 : RFun := ⟨(.seq (.reg [lq 2 (.box (.t 0)), lq 3 (.box (.t 1)), lq 4 (.alloc [.p (.bool false), .nils]), lq 5 (.alloc [.p (.bool false), .nils]), lq 6 (.mv (ki 0))] none)
 (.seq (.reg [lq 13 (.fieldA 1 (.t 2)), lF 14 1 13, lq 15 (.fieldA 1 (.t 3)), lF 16 1 15, lq 17 (.call .pu 134 [.t 14, .t 16]), mq 12 17, lq 18 (.extract (.t 12) 0), lq 19 (.extract (.t 12) 1), lq 20 (.extract (.t 12) 2), mq 7 18, mq 8 19, mq 9 20] none)
 (.seq (.seq (.reg [mq 21 9, lq 22 (.bin .neq (.t 21) (ki 0))] none)
 (.fg [2, 3, 4, 5, 7, 8, 22] (.cond (.t 22)
 (.seq (.reg [lq 23 (.build [.p (.bool false), .nils] []), lq 24 (.build [.p (.bool false), .nils] []), sq 2 4 23, sq 2 5 24, lq 6 (.mv (ki 11))] none)
 .ret)
 .skip)))
 (.seq (.reg [lq 25 (.fieldA 0 (.t 2)), lF 26 1 25, lq 27 (.fieldA 0 (.t 3)), lF 28 1 27, lq 29 (.beq true (.t 26) (.t 28)), mq 30 7, lq 31 (.call .pu 85 [.t 29, .t 30]), lq 32 (.fieldA 0 (.t 2)), lF 33 1 32, mq 34 8, lq 35 (.call .pu 85 [.t 33, .t 34]), ⟨(some 10), none, (some 0), .alloc [.p (.bool false), .nils]⟩, ⟨(some 11), none, (some 1), .alloc [.p (.bool false), .nils]⟩, sq 2 10 31, sq 2 11 35] (some (2, [])))
 (.seq (.seq (.reg [lT 36 2 11, lq 37 (.call .pu 96 [.t 36]), lq 38 (.bin .neq (.t 37) (ki 0)), mq 39 38, ⟨(some 40), (some (39, true)), none, .load true 2 (.t 11)⟩, ⟨(some 41), (some (39, true)), none, .call .pu 96 [.t 40]⟩, ⟨(some 42), (some (39, true)), none, .load true 2 (.t 3)⟩, ⟨(some 43), (some (39, true)), none, .call .pu 96 [.t 42]⟩, ⟨(some 44), (some (39, true)), none, .bin .neq (.t 41) (.t 43)⟩, lq 45 (.pick (.t 39) (.t 44) (.c (.p (.bool false))))] (some (0, [])))
 (.fg [3, 4, 5, 10, 11, 45] (.cond (.t 45)
 (.reg [lT 46 2 10, lq 47 (.call .pu 50 [.c (.p (.int .i64 1))]), lq 48 (.call .pu 126 [.t 46, .t 47]), lT 49 2 11, lT 50 2 3, lq 51 (.call .pu 105 [.t 49, .t 50]), sq 2 10 48, sq 2 11 51] (some (0, [])))
 .skip)))
 (.seq (.reg [lT 52 2 10, lT 53 2 11, sq 2 4 52, sq 2 5 53, lq 6 (.mv (ki 0))] (some (0, [(1, 2)])))
 .ret)))))), [.cell 4 true 2, .cell 5 true 2, .t 6]⟩
theorem c99 : chkF Tryz.prog 99 f99 = true := by kernel_rfl
def f104 : RFun := ⟨(.seq (.reg [lq 2 (.box (.t 0)), lq 3 (.box (.t 1)), lq 4 (.alloc [.p (.bool false), .nils])] none)
 (.seq (.reg [lq 5 (.fieldA 0 (.t 2)), lF 6 1 5, lq 7 (.fieldA 0 (.t 3)), lF 8 1 7, lq 9 (.beq true (.t 6) (.t 8)), lq 10 (.fieldA 1 (.t 2)), lF 11 1 10, lq 12 (.fieldA 1 (.t 3)), lF 13 1 12, lq 14 (.call .pu 135 [.t 11, .t 13]), lq 15 (.call .pu 85 [.t 9, .t 14]), sq 2 4 15] (some (0, [])))
 .ret)), [.cell 4 true 2]⟩
theorem c104 : chkF Tryz.prog 104 f104 = true := by kernel_rfl
def f105 : RFun := ⟨(.seq (.reg [lq 2 (.box (.t 0)), lq 3 (.box (.t 1)), lq 4 (.alloc [.p (.bool false), .nils])] none)
 (.seq (.seq (.reg [lq 7 (.fieldA 0 (.t 2)), lF 8 1 7, lq 9 (.fieldA 0 (.t 3)), lF 10 1 9, lq 11 (.beq false (.t 8) (.t 10))] none)
 (.fg [2, 3, 4, 11] (.cond (.t 11)
 (.seq (.reg [lq 12 (.fieldA 0 (.t 2)), lF 13 1 12, lq 14 (.fieldA 1 (.t 2)), lF 15 1 14, lq 16 (.fieldA 1 (.t 3)), lF 17 1 16, lq 18 (.call .pu 136 [.t 15, .t 17]), lq 19 (.call .pu 85 [.t 13, .t 18]), sq 2 4 19] (some (0, [])))
 .ret)
 .skip)))
 (.seq (.seq (.reg [lq 20 (.fieldA 1 (.t 2)), lF 21 1 20, lq 22 (.fieldA 1 (.t 3)), lF 23 1 22, lq 24 (.call .pu 137 [.t 21, .t 23]), lq 25 (.bin .lss (.t 24) (ki 0))] none)
 (.fg [2, 3, 4, 25] (.cond (.t 25)
 (.reg [lT 26 2 3, lT 27 2 2, sq 2 2 26, sq 2 3 27] none)
 .skip)))
 (.seq (.reg [lq 29 (.fieldA 1 (.t 2)), lF 30 1 29, lq 31 (.fieldA 1 (.t 3)), lF 32 1 31, lq 33 (.call .pu 138 [.t 30, .t 32]), mq 28 33, lq 34 (.extract (.t 28) 0), lq 35 (.extract (.t 28) 1), mq 5 34, mq 6 35] none)
 (.seq (.reg [lq 36 (.fieldA 0 (.t 2)), lF 37 1 36, mq 38 5, lq 39 (.call .pu 85 [.t 37, .t 38]), sq 2 4 39] none)
 .ret))))), [.cell 4 true 2]⟩
theorem c105 : chkF Tryz.prog 105 f105 = true := by kernel_rfl
def f106 : RFun := ⟨(.seq (.reg [lq 2 (.mv (ki 0))] none)
 (.seq (.seq (.reg [mq 6 0, lq 7 (.len (.t 6)), lq 8 (.bin .sub (.t 7) (ki 1)), mq 3 8] none)
 (.fg [0, 3] (.block 0
 (.loop (.fg [0, 3]
 (.seq (.seq (.reg [mq 9 3, lq 10 (.bin .geq (.t 9) (ki 0))] none)
 (.fg [0, 3, 10] (.cond (.t 10)
 .skip
 (.exit 0))))
 (.seq (.block 1
 (.seq (.reg [mq 13 0, mq 14 3, xq 15 1 13 14, lF 16 1 15, lq 17 (.bin .neq (.t 16) (.c (.p (.int .u32 0))))] none)
 (.fg [0, 3, 17] (.cond (.t 17)
 (.seq (.reg [mq 18 3, lq 19 (.bin .mul (ki 32) (.t 18)), mq 4 19] none)
 (.seq (.seq (.reg [mq 20 0, mq 21 3, xq 22 1 20 21, lF 23 1 22, mq 5 23] none)
 (.fg [4, 5] (.block 2
 (.loop (.fg [4, 5]
 (.seq (.seq (.reg [mq 24 5, lq 25 (.bin .gtr (.t 24) (.c (.p (.int .u32 0))))] none)
 (.fg [4, 5, 25] (.cond (.t 25)
 .skip
 (.exit 2))))
 (.seq (.block 3
 (.reg [mq 28 4, lq 29 (.bin .add (.t 28) (ki 1)), mq 4 29] none))
 (.fg [4, 5] (.reg [mq 26 5, lq 27 (.bin .quo (.t 26) (.c (.p (.int .u32 2)))), mq 5 27] none)))))))))
 (.seq (.reg [mq 30 4, mq 2 30] none)
 .ret)))
 .skip))))
 (.fg [0, 3] (.reg [mq 11 3, lq 12 (.bin .sub (.t 11) (ki 1)), mq 3 12] none)))))))))
 (.seq (.reg [lq 2 (.mv (ki 0))] none)
 .ret))), [.t 2]⟩
theorem c106 : chkF Tryz.prog 106 f106 = true := by kernel_rfl
def f108 : RFun := ⟨(.seq (.reg [lq 1 (.box (.t 0)), lq 2 (.alloc [.p (.bool false), .nils, .p (.bool false), .nils])] none)
 (.seq (.reg [lq 3 (.fieldA 0 (.t 1)), lT 4 2 3, lq 5 (.call .pu 111 [.t 4]), lq 6 (.fieldA 2 (.t 1)), lT 7 2 6, lq 8 (.call .pu 72 [.t 5, .t 7]), sq 4 2 8] (some (0, [])))
 .ret)), [.cell 2 true 4]⟩
theorem c108 : chkF Tryz.prog 108 f108 = true := by kernel_rfl
def f109 : RFun := ⟨(.seq (.reg [lq 4 (.mv (.c (.nils))), lq 5 (.mv (.c (.nils))), lq 6 (.mv (ki 0))] none)
 (.seq (.reg [mq 20 1, lq 21 (.call .pu 36 [.t 20]), mq 7 21] none)
 (.seq (.seq (.reg [mq 22 7, lq 23 (.len (.t 22)), lq 24 (.bin .eql (.t 23) (ki 0))] none)
 (.fg [0, 7, 24] (.cond (.t 24)
 (.seq (.reg [lq 4 (.mv (.c (.nils))), lq 5 (.mv (.c (.nils))), lq 6 (.mv (ki 11))] none)
 .ret)
 .skip)))
 (.seq (.seq (.reg [mq 25 7, lq 26 (.len (.t 25)), lq 27 (.bin .eql (.t 26) (ki 1))] none)
 (.fg [0, 7, 27] (.cond (.t 27)
 (.seq (.reg [mq 29 0, mq 30 7, lq 31 (.indexA 1 (.t 30) (ki 0)), lF 32 1 31, lq 33 (.conv .u64 (.t 32)), lq 34 (.call .pu 139 [.t 29, .t 33]), mq 28 34, lq 35 (.extract (.t 28) 0), lq 36 (.extract (.t 28) 1), mq 8 35, mq 9 36] none)
 (.seq (.reg [mq 37 8, mq 38 9, lq 39 (.conv .u32 (.t 38)), lq 40 (.bslice 1 [.t 39]), lq 41 (.call .fz 36 [.t 40]), mq 4 37, mq 5 41, lq 6 (.mv (ki 0))] none)
 .ret))
 .skip)))
 (.seq (.reg [mq 42 7, lq 43 (.len (.t 42)), lq 44 (.bin .mul (ki 32) (.t 43)), mq 45 7, lq 46 (.call .pu 106 [.t 45]), bq 47 .sub 44 46, lq 48 (.call .pu 140 [.t 47]), mq 10 48] none)
 (.seq (.reg [mq 49 0, mq 50 10, lq 51 (.call .pu 113 [.t 49, .t 50]), mq 11 51] none)
 (.seq (.reg [mq 52 7, mq 53 10, lq 54 (.call .pu 113 [.t 52, .t 53]), mq 12 54] none)
 (.seq (.reg [mq 55 11, lq 56 (.len (.t 55)), lq 57 (.mks false 1 4 (.int .u32 0) (.t 56) (.t 56)), mq 13 57] none)
 (.seq (.reg [lq 14 (.mv (.c (.nils)))] none)
 (.seq (.seq (.reg [mq 58 11, lq 59 (.len (.t 58)), lq 60 (.bin .sub (.t 59) (ki 1)), mq 15 60] none)
 (.fg [7, 11, 12, 13, 14, 15] (.block 0
 (.loop (.fg [7, 11, 12, 13, 14, 15]
 (.seq (.seq (.reg [mq 61 15, lq 62 (.bin .geq (.t 61) (ki 0))] none)
 (.fg [7, 11, 12, 13, 14, 15, 62] (.cond (.t 62)
 .skip
 (.exit 0))))
 (.seq (.block 1
 (.seq (.reg [mq 65 11, mq 66 15, xq 67 1 65 66, lF 68 1 67, lq 69 (.bslice 1 [.t 68]), mq 70 14, lq 71 (.append 1 4 (.t 69) (.t 70)), lq 72 (.call .fz 36 [.t 71]), mq 14 72] none)
 (.seq (.seq (.reg [mq 73 14, mq 74 12, lq 75 (.call .pu 115 [.t 73, .t 74]), lq 76 (.bin .lss (.t 75) (ki 0))] none)
 (.fg [7, 11, 12, 13, 14, 15, 76] (.cond (.t 76)
 (.exit 1)
 .skip)))
 (.seq (.reg [mq 77 14, mq 78 12, lq 79 (.len (.t 78)), lq 80 (.call .pu 141 [.t 77, .t 79]), lq 81 (.bin .mul (.t 80) (.c (.p (.int .u64 4294967296)))), mq 82 14, mq 83 12, lq 84 (.len (.t 83)), lq 85 (.bin .sub (.t 84) (ki 1)), lq 86 (.call .pu 141 [.t 82, .t 85]), bq 87 .add 81 86, mq 88 12, mq 89 12, lq 90 (.len (.t 89)), lq 91 (.bin .sub (.t 90) (ki 1)), lq 92 (.call .pu 141 [.t 88, .t 91]), bq 93 .quo 87 92, mq 16 93] none)
 (.seq (.seq (.reg [mq 94 16, lq 95 (.bin .geq (.t 94) (.c (.p (.int .u64 4294967296))))] none)
 (.fg [7, 11, 12, 13, 14, 15, 16, 95] (.cond (.t 95)
 (.reg [lq 16 (.mv (.c (.p (.int .u64 4294967295))))] none)
 .skip)))
 (.seq (.reg [mq 96 12, mq 97 16, lq 98 (.conv .u32 (.t 97)), lq 99 (.bslice 1 [.t 98]), lq 100 (.call .fz 113 [.t 96, .t 99]), mq 17 100] none)
 (.seq (.block 2
 (.loop (.fg [7, 11, 12, 13, 14, 15, 16, 17]
 (.seq (.seq (.reg [mq 101 17, mq 102 14, lq 103 (.call .pu 115 [.t 101, .t 102]), lq 104 (.bin .gtr (.t 103) (ki 0))] none)
 (.fg [7, 11, 12, 13, 14, 15, 16, 17, 104] (.cond (.t 104)
 .skip
 (.exit 2))))
 (.fg [7, 11, 12, 13, 14, 15, 16, 17] (.block 3
 (.seq (.reg [mq 105 16, lq 106 (.bin .sub (.t 105) (.c (.p (.int .u64 1)))), mq 16 106] none)
 (.reg [mq 107 17, mq 108 12, lq 109 (.call .pu 142 [.t 107, .t 108]), mq 17 109] none))))))))
 (.fg [7, 11, 12, 13, 14, 15, 16, 17] (.seq (.reg [mq 110 13, mq 111 15, mq 112 16, lq 113 (.conv .u32 (.t 112)), xq 114 1 110 111, sq 1 114 113] none)
 (.reg [mq 115 14, mq 116 17, lq 117 (.call .pu 142 [.t 115, .t 116]), mq 14 117] none))))))))))
 (.fg [7, 11, 12, 13, 14, 15] (.reg [mq 63 15, lq 64 (.bin .sub (.t 63) (ki 1)), mq 15 64] none)))))))))
 (.seq (.reg [mq 119 14, mq 120 7, lq 121 (.len (.t 120)), lq 122 (.bin .mul (ki 32) (.t 121)), mq 123 7, lq 124 (.call .pu 106 [.t 123]), bq 125 .sub 122 124, lq 126 (.call .pu 143 [.t 119, .t 125]), mq 118 126, lq 127 (.extract (.t 118) 0), lq 128 (.extract (.t 118) 1), mq 18 127, mq 19 128] none)
 (.seq (.reg [mq 129 13, lq 130 (.call .fz 36 [.t 129]), mq 131 18, mq 4 130, mq 5 131, lq 6 (.mv (ki 0))] none)
 .ret)))))))))))), [.t 4, .t 5, .t 6]⟩
theorem c109 : chkF Tryz.prog 109 f109 = true := by kernel_rfl
def f110 : RFun := ⟨(.seq (.reg [lq 2 (.box (.t 0)), lq 3 (.box (.t 1)), lq 4 (.alloc [.p (.bool false), .nils])] none)
 (.seq (.reg [lT 5 2 2, lT 6 2 3, lq 7 (.call .pu 111 [.t 6]), lq 8 (.call .pu 76 [.t 5, .t 7]), sq 2 4 8] (some (0, [])))
 .ret)), [.cell 4 true 2]⟩
theorem c110 : chkF Tryz.prog 110 f110 = true := by kernel_rfl
def f111 : RFun := ⟨(.seq (.reg [lq 1 (.box (.t 0)), lq 2 (.alloc [.p (.bool false), .nils])] none)
 (.seq (.reg [lq 3 (.fieldA 0 (.t 1)), lF 4 1 3, lq 5 (.un .not (.t 4)), lq 6 (.fieldA 1 (.t 1)), lF 7 1 6, lq 8 (.call .pu 80 [.t 5, .t 7]), sq 2 2 8] none)
 .ret)), [.cell 2 true 2]⟩
theorem c111 : chkF Tryz.prog 111 f111 = true := by kernel_rfl
def f112 : RFun := ⟨(.seq (.reg [lq 4 (.mv (.c (.nils)))] none)
 (.seq (.reg [mq 10 0, lq 11 (.call .pu 36 [.t 10]), mq 5 11] none)
 (.seq (.reg [mq 12 1, lq 13 (.call .pu 36 [.t 12]), mq 6 13] none)
 (.seq (.block 0
 (.loop (.fg [5, 6]
 (.seq (.seq (.reg [mq 14 6, lq 15 (.len (.t 14)), lq 16 (.bin .gtr (.t 15) (ki 0))] none)
 (.fg [5, 6, 16] (.cond (.t 16)
 .skip
 (.exit 0))))
 (.fg [5, 6] (.block 1
 (.seq (.reg [mq 18 5, mq 19 6, lq 20 (.call .pu 109 [.t 18, .t 19]), mq 17 20, lq 21 (.extract (.t 17) 0), lq 22 (.extract (.t 17) 1), lq 23 (.extract (.t 17) 2), mq 7 21, mq 8 22, mq 9 23] none)
 (.seq (.reg [mq 24 6, mq 5 24] none)
 (.reg [mq 25 8, mq 6 25] none)))))))))
 (.fg [5] (.seq (.reg [mq 26 5, mq 4 26] none)
 .ret)))))), [.t 4]⟩
theorem c112 : chkF Tryz.prog 112 f112 = true := by kernel_rfl
def f113 : RFun := ⟨(.seq (.reg [lq 4 (.mv (.c (.nils)))] none)
 (.seq (.reg [mq 9 0, lq 10 (.len (.t 9)), mq 11 1, lq 12 (.len (.t 11)), bq 13 .add 10 12, lq 14 (.mks false 1 4 (.int .u32 0) (.t 13) (.t 13)), mq 5 14] none)
 (.seq (.seq (.reg [lq 6 (.mv (ki 0))] none)
 (.fg [0, 1, 5, 6] (.block 0
 (.loop (.fg [0, 1, 5, 6]
 (.seq (.seq (.reg [mq 15 6, mq 16 0, lq 17 (.len (.t 16)), bq 18 .lss 15 17] none)
 (.fg [0, 1, 5, 6, 18] (.cond (.t 18)
 .skip
 (.exit 0))))
 (.seq (.block 1
 (.seq (.reg [lq 7 (.mv (.c (.p (.int .u64 0))))] none)
 (.seq (.seq (.reg [lq 8 (.mv (ki 0))] none)
 (.fg [0, 1, 5, 6, 7, 8] (.block 2
 (.loop (.fg [0, 1, 5, 6, 7, 8]
 (.seq (.seq (.reg [mq 21 8, mq 22 1, lq 23 (.len (.t 22)), bq 24 .lss 21 23] none)
 (.fg [0, 1, 5, 6, 7, 8, 24] (.cond (.t 24)
 .skip
 (.exit 2))))
 (.seq (.block 3
 (.seq (.reg [mq 27 7, mq 28 5, mq 29 6, mq 30 8, bq 31 .add 29 30, xq 32 1 28 31, lF 33 1 32, lq 34 (.conv .u64 (.t 33)), bq 35 .add 27 34, mq 36 0, mq 37 6, xq 38 1 36 37, lF 39 1 38, lq 40 (.conv .u64 (.t 39)), mq 41 1, mq 42 8, xq 43 1 41 42, lF 44 1 43, lq 45 (.conv .u64 (.t 44)), bq 46 .mul 40 45, bq 47 .add 35 46, mq 7 47] (some (0, [])))
 (.seq (.reg [mq 48 5, mq 49 6, mq 50 8, bq 51 .add 49 50, mq 52 7, lq 53 (.bin .rem (.t 52) (.c (.p (.int .u64 4294967296)))), lq 54 (.conv .u32 (.t 53)), xq 55 1 48 51, sq 1 55 54] none)
 (.reg [mq 56 7, lq 57 (.bin .quo (.t 56) (.c (.p (.int .u64 4294967296)))), mq 7 57] none))))
 (.fg [0, 1, 5, 6, 7, 8] (.reg [mq 25 8, lq 26 (.bin .add (.t 25) (ki 1)), mq 8 26] none)))))))))
 (.reg [mq 58 5, mq 59 6, mq 60 1, lq 61 (.len (.t 60)), bq 62 .add 59 61, mq 63 7, lq 64 (.conv .u32 (.t 63)), xq 65 1 58 62, sq 1 65 64] none))))
 (.fg [0, 1, 5, 6] (.reg [mq 19 6, lq 20 (.bin .add (.t 19) (ki 1)), mq 6 20] none)))))))))
 (.seq (.reg [mq 66 5, lq 67 (.call .fz 36 [.t 66]), mq 4 67] none)
 .ret)))), [.t 4]⟩
theorem c113 : chkF Tryz.prog 113 f113 = true := by kernel_rfl
def f114 : RFun := ⟨(.seq (.reg [lq 4 (.mv (.c (.nils)))] none)
 (.seq (.reg [lq 5 (.mv (.c (.nils)))] none)
 (.seq (.reg [lq 6 (.mv (.c (.p (.int .u64 0))))] none)
 (.seq (.seq (.reg [lq 7 (.mv (ki 0))] none)
 (.fg [0, 1, 5, 6, 7] (.block 0
 (.loop (.fg [0, 1, 5, 6, 7]
 (.seq (.seq (.reg [mq 8 7, mq 9 0, lq 10 (.len (.t 9)), mq 11 1, lq 12 (.len (.t 11)), lq 13 (.call .pu 144 [.t 10, .t 12]), bq 14 .lss 8 13] none)
 (.fg [0, 1, 5, 6, 7, 14] (.cond (.t 14)
 .skip
 (.exit 0))))
 (.seq (.block 1
 (.seq (.reg [mq 17 6, mq 18 0, mq 19 7, lq 20 (.call .pu 141 [.t 18, .t 19]), bq 21 .add 17 20, mq 22 1, mq 23 7, lq 24 (.call .pu 141 [.t 22, .t 23]), bq 25 .add 21 24, mq 6 25] none)
 (.seq (.reg [mq 26 5, mq 27 6, lq 28 (.bin .rem (.t 27) (.c (.p (.int .u64 4294967296)))), lq 29 (.conv .u32 (.t 28)), lq 30 (.bslice 1 [.t 29]), lq 31 (.append 1 4 (.t 26) (.t 30)), mq 5 31] none)
 (.reg [mq 32 6, lq 33 (.bin .quo (.t 32) (.c (.p (.int .u64 4294967296)))), mq 6 33] none))))
 (.fg [0, 1, 5, 6, 7] (.reg [mq 15 7, lq 16 (.bin .add (.t 15) (ki 1)), mq 7 16] none)))))))))
 (.seq (.reg [mq 34 5, mq 35 6, lq 36 (.conv .u32 (.t 35)), lq 37 (.bslice 1 [.t 36]), lq 38 (.append 1 4 (.t 34) (.t 37)), mq 5 38] none)
 (.seq (.reg [mq 39 5, lq 40 (.call .fz 36 [.t 39]), mq 4 40] none)
 .ret)))))), [.t 4]⟩
theorem c114 : chkF Tryz.prog 114 f114 = true := by kernel_rfl
def f115 : RFun := ⟨(.seq (.reg [lq 4 (.mv (ki 0))] none)
 (.seq (.seq (.reg [mq 8 0, lq 9 (.len (.t 8)), mq 10 1, lq 11 (.len (.t 10)), lq 12 (.call .pu 144 [.t 9, .t 11]), lq 13 (.bin .sub (.t 12) (ki 1)), mq 5 13] none)
 (.fg [0, 1, 5] (.block 0
 (.loop (.fg [0, 1, 5]
 (.seq (.seq (.reg [mq 14 5, lq 15 (.bin .geq (.t 14) (ki 0))] none)
 (.fg [0, 1, 5, 15] (.cond (.t 15)
 .skip
 (.exit 0))))
 (.seq (.block 1
 (.seq (.reg [mq 18 0, mq 19 5, lq 20 (.call .pu 141 [.t 18, .t 19]), mq 6 20] none)
 (.seq (.reg [mq 21 1, mq 22 5, lq 23 (.call .pu 141 [.t 21, .t 22]), mq 7 23] none)
 (.seq (.seq (.reg [mq 24 6, mq 25 7, bq 26 .lss 24 25] none)
 (.fg [0, 1, 5, 6, 7, 26] (.cond (.t 26)
 (.seq (.reg [lq 4 (.mv (.c (.p (.int .i64 (-1)))))] none)
 .ret)
 .skip)))
 (.seq (.reg [mq 27 6, mq 28 7, bq 29 .gtr 27 28] none)
 (.fg [0, 1, 5, 29] (.cond (.t 29)
 (.seq (.reg [lq 4 (.mv (ki 1))] none)
 .ret)
 .skip)))))))
 (.fg [0, 1, 5] (.reg [mq 16 5, lq 17 (.bin .sub (.t 16) (ki 1)), mq 5 17] none)))))))))
 (.seq (.reg [lq 4 (.mv (ki 0))] none)
 .ret))), [.t 4]⟩
theorem c115 : chkF Tryz.prog 115 f115 = true := by kernel_rfl
def f116 : RFun := ⟨(.seq (.reg [lq 4 (.mv (.c (.nils))), lq 5 (.mv (ki 0))] none)
 (.seq (.seq (.reg [mq 6 0, mq 7 1, lq 8 (.call .pu 115 [.t 6, .t 7]), lq 9 (.bin .lss (.t 8) (ki 0))] none)
 (.fg [0, 1, 9] (.cond (.t 9)
 (.seq (.reg [lq 4 (.mv (.c (.nils))), lq 5 (.mv (ki 10))] none)
 .ret)
 .skip)))
 (.seq (.reg [mq 10 0, mq 11 1, lq 12 (.call .pu 142 [.t 10, .t 11]), mq 4 12, lq 5 (.mv (ki 0))] none)
 .ret))), [.t 4, .t 5]⟩
theorem c116 : chkF Tryz.prog 116 f116 = true := by kernel_rfl
def f125 : RFun := ⟨(.seq (.reg [lq 2 (.mv (ki 0))] none)
 (.seq (.reg [lq 3 (.mv (ki 0))] none)
 (.seq (.seq (.reg [mq 8 0, lq 9 (.len (.t 8)), lq 10 (.mv (ki 0))] none)
 (.fg [3, 8, 9, 10] (.block 0
 (.loop (.fg [3, 8, 9, 10]
 (.seq (.reg [bq 11 .lss 10 9] none)
 (.seq (.cond (.t 11)
 .skip
 (.exit 0))
 (.fg [3, 8, 9, 10] (.seq (.block 1
 (.seq (.reg [xq 12 1 8 10, lF 13 1 12, mq 5 13] none)
 (.seq (.reg [mq 14 5, lq 15 (.len (.t 14)), lq 16 (.mv (ki 0))] none)
 (.fg [3, 8, 9, 10, 14, 15, 16] (.block 2
 (.loop (.fg [3, 8, 9, 10, 14, 15, 16]
 (.seq (.reg [bq 17 .lss 16 15] none)
 (.seq (.cond (.t 17)
 .skip
 (.exit 2))
 (.fg [3, 8, 9, 10, 14, 15, 16] (.seq (.block 3
 (.seq (.reg [xq 18 2 14 16, lT 19 2 18, lq 7 (.alloc [.p (.bool false), .nils]), sq 2 7 19] none)
 (.reg [mq 20 3, lT 21 2 7, lq 22 (.call .pu 150 [.t 21]), lq 23 (.mx (.t 20) (.t 22)), mq 3 23] none)))
 (.fg [3, 8, 9, 10, 14, 15, 16] (.reg [lq 24 (.bin .add (.t 16) (ki 1)), mq 16 24] none)))))))))))))
 (.fg [3, 8, 9, 10] (.reg [lq 25 (.bin .add (.t 10) (ki 1)), mq 10 25] none)))))))))))
 (.seq (.reg [mq 26 3, mq 2 26] none)
 .ret)))), [.t 2]⟩
theorem c125 : chkF Tryz.prog 125 f125 = true := by kernel_rfl
def f126 : RFun := ⟨(.seq (.reg [lq 2 (.box (.t 0)), lq 3 (.box (.t 1)), lq 4 (.alloc [.p (.bool false), .nils])] none)
 (.seq (.reg [lT 5 2 2, lT 6 2 3, lq 7 (.call .pu 129 [.t 6]), lq 8 (.call .pu 105 [.t 5, .t 7]), sq 2 4 8] (some (0, [])))
 .ret)), [.cell 4 true 2]⟩
theorem c126 : chkF Tryz.prog 126 f126 = true := by kernel_rfl
def f129 : RFun := ⟨(.seq (.reg [lq 1 (.box (.t 0)), lq 2 (.alloc [.p (.bool false), .nils])] none)
 (.seq (.reg [lq 3 (.fieldA 0 (.t 1)), lF 4 1 3, lq 5 (.un .not (.t 4)), lq 6 (.fieldA 1 (.t 1)), lF 7 1 6, lq 8 (.call .pu 85 [.t 5, .t 7]), sq 2 2 8] none)
 .ret)), [.cell 2 true 2]⟩
theorem c129 : chkF Tryz.prog 129 f129 = true := by kernel_rfl
def f131 : RFun := ⟨(.seq (.reg [lq 2 (.mv (ki 0))] none)
 (.seq (.reg [mq 3 0, lq 4 (.call .pu 152 [.t 3]), mq 0 4] none)
 (.seq (.seq (.reg [mq 5 0, lq 6 (.len (.t 5)), lq 7 (.bin .eql (.t 6) (ki 0))] none)
 (.fg [0, 7] (.cond (.t 7)
 (.seq (.reg [lq 2 (.mv (ki 0))] none)
 .ret)
 .skip)))
 (.seq (.reg [mq 8 0, lq 9 (.len (.t 8)), lq 10 (.bin .sub (.t 9) (ki 1)), lq 11 (.bin .mul (ki 32) (.t 10)), mq 12 0, mq 13 0, lq 14 (.len (.t 13)), lq 15 (.bin .sub (.t 14) (ki 1)), xq 16 1 12 15, lF 17 1 16, lq 18 (.call .pu 153 [.t 17]), bq 19 .add 11 18, mq 2 19] none)
 .ret)))), [.t 2]⟩
theorem c131 : chkF Tryz.prog 131 f131 = true := by kernel_rfl
def f134 : RFun := ⟨(.seq (.reg [lq 4 (.mv (.c (.nils))), lq 5 (.mv (.c (.nils))), lq 6 (.mv (ki 0))] none)
 (.seq (.reg [mq 14 0, lq 15 (.call .pu 152 [.t 14]), mq 16 1, lq 17 (.call .pu 152 [.t 16]), mq 0 15, mq 1 17] none)
 (.seq (.block 0
 (.seq (.reg [mq 19 1, lq 20 (.len (.t 19)), lq 21 (.bin .eql (.t 20) (ki 0)), mq 18 21] none)
 (.fg [0, 1, 18] (.cond (.t 18)
 (.seq (.reg [lq 4 (.mv (.c (.nils))), lq 5 (.mv (.c (.nils))), lq 6 (.mv (ki 11))] none)
 .ret)
 (.seq (.reg [mq 23 0, mq 24 1, lq 25 (.call .pu 137 [.t 23, .t 24]), lq 26 (.bin .lss (.t 25) (ki 0)), mq 22 26] none)
 (.fg [0, 1, 22] (.cond (.t 22)
 (.seq (.reg [mq 27 0, lq 28 (.call .pu 155 [.t 27]), lq 4 (.mv (.c (.nils))), mq 5 28, lq 6 (.mv (ki 0))] none)
 .ret)
 (.seq (.reg [mq 30 1, lq 31 (.len (.t 30)), lq 32 (.bin .eql (.t 31) (ki 1)), mq 29 32] none)
 (.fg [0, 1, 29] (.cond (.t 29)
 (.seq (.reg [mq 34 0, mq 35 1, lq 36 (.indexA 1 (.t 35) (ki 0)), lF 37 1 36, lq 38 (.call .pu 156 [.t 34, .t 37]), mq 33 38, lq 39 (.extract (.t 33) 0), lq 40 (.extract (.t 33) 1), mq 7 39, mq 8 40] none)
 (.seq (.reg [mq 41 7, mq 42 8, lq 43 (.bslice 1 [.t 42]), lq 44 (.call .fz 152 [.t 43]), mq 4 41, mq 5 44, lq 6 (.mv (ki 0))] none)
 .ret))
 .skip))))))))))
 (.fg [0, 1] (.seq (.reg [mq 45 1, mq 46 1, lq 47 (.len (.t 46)), lq 48 (.bin .sub (.t 47) (ki 1)), xq 49 1 45 48, lF 50 1 49, lq 51 (.call .pu 157 [.t 50]), mq 9 51] none)
 (.seq (.reg [mq 52 1, mq 53 9, lq 54 (.call .pu 158 [.t 52, .t 53]), mq 10 54] none)
 (.seq (.reg [mq 55 0, mq 56 9, lq 57 (.call .keep 158 [.t 55, .t 56]), lq 58 (.bslice 1 [.c (.p (.int .u32 0)), .c (.p (.int .u32 0))]), lq 59 (.append 1 4 (.t 57) (.t 58)), mq 60 0, lq 61 (.len (.t 60)), lq 62 (.bin .add (.t 61) (ki 1)), lq 63 (.slice 1 (.t 59) none (some (.t 62)) none), mq 11 63] none)
 (.seq (.reg [mq 64 0, lq 65 (.len (.t 64)), mq 66 1, lq 67 (.len (.t 66)), bq 68 .sub 65 67, lq 69 (.bin .add (.t 68) (ki 1)), lq 70 (.mks false 1 4 (.int .u32 0) (.t 69) (.t 69)), mq 12 70] none)
 (.seq (.seq (.reg [mq 71 0, lq 72 (.len (.t 71)), mq 73 1, lq 74 (.len (.t 73)), bq 75 .sub 72 74, mq 13 75] none)
 (.fg [9, 10, 11, 12, 13] (.block 1
 (.loop (.fg [9, 10, 11, 12, 13]
 (.seq (.seq (.reg [mq 76 13, lq 77 (.bin .geq (.t 76) (ki 0))] none)
 (.fg [9, 10, 11, 12, 13, 77] (.cond (.t 77)
 .skip
 (.exit 1))))
 (.seq (.block 2
 (.reg [mq 80 12, mq 81 13, mq 82 11, mq 83 13, mq 84 13, mq 85 10, lq 86 (.len (.t 85)), bq 87 .add 84 86, lq 88 (.bin .add (.t 87) (ki 1)), lq 89 (.slice 1 (.t 82) (some (.t 83)) (some (.t 88)) none), mq 90 10, lq 91 (.call .full 159 [.t 89, .t 90]), xq 92 1 80 81, sq 1 92 91] none))
 (.fg [9, 10, 11, 12, 13] (.reg [mq 78 13, lq 79 (.bin .sub (.t 78) (ki 1)), mq 13 79] none)))))))))
 (.seq (.reg [mq 93 12, lq 94 (.call .fz 152 [.t 93]), mq 95 11, lq 96 (.call .fz 152 [.t 95]), mq 97 9, lq 98 (.call .pu 160 [.t 96, .t 97]), mq 4 94, mq 5 98, lq 6 (.mv (ki 0))] none)
 .ret)))))))))), [.t 4, .t 5, .t 6]⟩
theorem c134 : chkF Tryz.prog 134 f134 = true := by kernel_rfl
def f135 : RFun := ⟨(.seq (.reg [lq 4 (.mv (.c (.nils)))] none)
 (.seq (.reg [mq 9 0, lq 10 (.call .pu 152 [.t 9]), mq 11 1, lq 12 (.call .pu 152 [.t 11]), mq 0 10, mq 1 12] none)
 (.seq (.reg [mq 13 0, lq 14 (.len (.t 13)), mq 15 1, lq 16 (.len (.t 15)), bq 17 .add 14 16, lq 18 (.mks false 1 4 (.int .u32 0) (.t 17) (.t 17)), mq 5 18] none)
 (.seq (.seq (.reg [mq 19 0, lq 20 (.len (.t 19)), lq 21 (.mv (ki 0))] none)
 (.fg [0, 1, 5, 20, 21] (.block 0
 (.loop (.fg [0, 1, 5, 20, 21]
 (.seq (.reg [bq 22 .lss 21 20] none)
 (.seq (.cond (.t 22)
 .skip
 (.exit 0))
 (.fg [0, 1, 5, 20, 21] (.seq (.block 1
 (.seq (.reg [mq 23 21, mq 6 23] none)
 (.seq (.reg [lq 7 (.mv (.c (.p (.int .u64 0))))] none)
 (.seq (.seq (.reg [mq 24 1, lq 25 (.len (.t 24)), lq 26 (.mv (ki 0))] none)
 (.fg [0, 1, 5, 6, 7, 20, 21, 25, 26] (.block 2
 (.loop (.fg [0, 1, 5, 6, 7, 20, 21, 25, 26]
 (.seq (.reg [bq 27 .lss 26 25] none)
 (.seq (.cond (.t 27)
 .skip
 (.exit 2))
 (.fg [0, 1, 5, 6, 7, 20, 21, 25, 26] (.seq (.block 3
 (.seq (.reg [mq 28 26, mq 8 28] none)
 (.seq (.reg [mq 29 7, mq 30 0, mq 31 6, xq 32 1 30 31, lF 33 1 32, lq 34 (.conv .u64 (.t 33)), mq 35 1, mq 36 8, xq 37 1 35 36, lF 38 1 37, lq 39 (.conv .u64 (.t 38)), bq 40 .mul 34 39, mq 41 5, mq 42 6, mq 43 8, bq 44 .add 42 43, xq 45 1 41 44, lF 46 1 45, lq 47 (.conv .u64 (.t 46)), bq 48 .add 40 47, bq 49 .add 29 48, mq 7 49] (some (0, [])))
 (.seq (.reg [mq 50 5, mq 51 6, mq 52 8, bq 53 .add 51 52, mq 54 7, lq 55 (.conv .u32 (.t 54)), xq 56 1 50 53, sq 1 56 55] none)
 (.reg [mq 57 7, lq 58 (.bin .shr (.t 57) (.c (.p (.int .u64 32)))), mq 7 58] none)))))
 (.fg [0, 1, 5, 6, 7, 20, 21, 25, 26] (.reg [lq 59 (.bin .add (.t 26) (ki 1)), mq 26 59] none)))))))))))
 (.reg [mq 60 5, mq 61 6, mq 62 1, lq 63 (.len (.t 62)), bq 64 .add 61 63, mq 65 7, lq 66 (.conv .u32 (.t 65)), xq 67 1 60 64, sq 1 67 66] none)))))
 (.fg [0, 1, 5, 20, 21] (.reg [lq 68 (.bin .add (.t 21) (ki 1)), mq 21 68] none)))))))))))
 (.seq (.reg [mq 69 5, lq 70 (.call .fz 152 [.t 69]), mq 4 70] none)
 .ret))))), [.t 4]⟩
theorem c135 : chkF Tryz.prog 135 f135 = true := by kernel_rfl
def f136 : RFun := ⟨(.seq (.reg [lq 4 (.mv (.c (.nils)))] none)
 (.seq (.seq (.reg [mq 8 0, lq 9 (.len (.t 8)), mq 10 1, lq 11 (.len (.t 10)), bq 12 .lss 9 11] none)
 (.fg [0, 1, 12] (.cond (.t 12)
 (.reg [mq 13 1, mq 14 0, mq 0 13, mq 1 14] none)
 .skip)))
 (.seq (.reg [mq 15 0, lq 16 (.len (.t 15)), lq 17 (.bin .add (.t 16) (ki 1)), lq 18 (.mks false 1 4 (.int .u32 0) (.t 17) (.t 17)), mq 5 18] none)
 (.seq (.reg [lq 6 (.mv (.c (.p (.int .u64 0))))] none)
 (.seq (.seq (.reg [mq 19 0, lq 20 (.len (.t 19)), lq 21 (.mv (ki 0))] none)
 (.fg [0, 1, 5, 6, 20, 21] (.block 0
 (.loop (.fg [0, 1, 5, 6, 20, 21]
 (.seq (.reg [bq 22 .lss 21 20] none)
 (.seq (.cond (.t 22)
 .skip
 (.exit 0))
 (.fg [0, 1, 5, 6, 20, 21] (.seq (.block 1
 (.seq (.reg [mq 23 21, mq 7 23] none)
 (.seq (.reg [mq 24 6, mq 25 0, mq 26 7, xq 27 1 25 26, lF 28 1 27, lq 29 (.conv .u64 (.t 28)), bq 30 .add 24 29, mq 6 30] none)
 (.seq (.seq (.reg [mq 31 7, mq 32 1, lq 33 (.len (.t 32)), bq 34 .lss 31 33] none)
 (.fg [0, 1, 5, 6, 7, 20, 21, 34] (.cond (.t 34)
 (.reg [mq 35 6, mq 36 1, mq 37 7, xq 38 1 36 37, lF 39 1 38, lq 40 (.conv .u64 (.t 39)), bq 41 .add 35 40, mq 6 41] none)
 .skip)))
 (.seq (.reg [mq 42 5, mq 43 7, mq 44 6, lq 45 (.conv .u32 (.t 44)), xq 46 1 42 43, sq 1 46 45] none)
 (.reg [mq 47 6, lq 48 (.bin .shr (.t 47) (.c (.p (.int .u64 32)))), mq 6 48] none))))))
 (.fg [0, 1, 5, 6, 20, 21] (.reg [lq 49 (.bin .add (.t 21) (ki 1)), mq 21 49] none)))))))))))
 (.seq (.reg [mq 50 5, mq 51 0, lq 52 (.len (.t 51)), mq 53 6, lq 54 (.conv .u32 (.t 53)), xq 55 1 50 52, sq 1 55 54] none)
 (.seq (.reg [mq 56 5, lq 57 (.call .fz 152 [.t 56]), mq 4 57] none)
 .ret))))))), [.t 4]⟩
theorem c136 : chkF Tryz.prog 136 f136 = true := by kernel_rfl
def f137 : RFun := ⟨(.seq (.reg [lq 4 (.mv (ki 0))] none)
 (.seq (.reg [mq 6 0, lq 7 (.call .pu 152 [.t 6]), mq 8 1, lq 9 (.call .pu 152 [.t 8]), mq 0 7, mq 1 9] none)
 (.seq (.seq (.reg [mq 10 0, lq 11 (.len (.t 10)), mq 12 1, lq 13 (.len (.t 12)), bq 14 .neq 11 13] none)
 (.fg [0, 1, 14] (.cond (.t 14)
 (.seq (.seq (.reg [mq 15 0, lq 16 (.len (.t 15)), mq 17 1, lq 18 (.len (.t 17)), bq 19 .lss 16 18] none)
 (.fg [19] (.cond (.t 19)
 (.seq (.reg [lq 4 (.mv (.c (.p (.int .i64 (-1)))))] none)
 .ret)
 .skip)))
 (.seq (.reg [lq 4 (.mv (ki 1))] none)
 .ret))
 .skip)))
 (.seq (.seq (.reg [mq 20 0, lq 21 (.len (.t 20)), lq 22 (.bin .sub (.t 21) (ki 1)), mq 5 22] none)
 (.fg [0, 1, 5] (.block 0
 (.loop (.fg [0, 1, 5]
 (.seq (.seq (.reg [mq 23 5, lq 24 (.bin .geq (.t 23) (ki 0))] none)
 (.fg [0, 1, 5, 24] (.cond (.t 24)
 .skip
 (.exit 0))))
 (.seq (.block 1
 (.seq (.reg [mq 27 0, mq 28 5, xq 29 1 27 28, lF 30 1 29, mq 31 1, mq 32 5, xq 33 1 31 32, lF 34 1 33, bq 35 .neq 30 34] (some (0, [])))
 (.fg [0, 1, 5, 35] (.cond (.t 35)
 (.seq (.seq (.reg [mq 36 0, mq 37 5, xq 38 1 36 37, lF 39 1 38, mq 40 1, mq 41 5, xq 42 1 40 41, lF 43 1 42, bq 44 .lss 39 43] (some (0, [])))
 (.fg [44] (.cond (.t 44)
 (.seq (.reg [lq 4 (.mv (.c (.p (.int .i64 (-1)))))] none)
 .ret)
 .skip)))
 (.seq (.reg [lq 4 (.mv (ki 1))] none)
 .ret))
 .skip))))
 (.fg [0, 1, 5] (.reg [mq 25 5, lq 26 (.bin .sub (.t 25) (ki 1)), mq 5 26] none)))))))))
 (.seq (.reg [lq 4 (.mv (ki 0))] none)
 .ret))))), [.t 4]⟩
theorem c137 : chkF Tryz.prog 137 f137 = true := by kernel_rfl
def f138 : RFun := ⟨(.seq (.reg [lq 4 (.mv (.c (.nils))), lq 5 (.mv (ki 0))] none)
 (.seq (.seq (.reg [mq 6 0, mq 7 1, lq 8 (.call .pu 137 [.t 6, .t 7]), lq 9 (.bin .lss (.t 8) (ki 0))] none)
 (.fg [0, 1, 9] (.cond (.t 9)
 (.seq (.reg [lq 4 (.mv (.c (.nils))), lq 5 (.mv (ki 10))] none)
 .ret)
 .skip)))
 (.seq (.reg [mq 10 0, lq 11 (.call .pu 152 [.t 10]), mq 12 1, lq 13 (.call .pu 152 [.t 12]), lq 14 (.call .pu 161 [.t 11, .t 13]), mq 4 14, lq 5 (.mv (ki 0))] none)
 .ret))), [.t 4, .t 5]⟩
theorem c138 : chkF Tryz.prog 138 f138 = true := by kernel_rfl
def f139 : RFun := ⟨(.seq (.reg [lq 4 (.mv (.c (.nils))), lq 5 (.mv (.c (.p (.int .u64 0))))] none)
 (.seq (.reg [mq 9 0, lq 10 (.len (.t 9)), lq 11 (.mks false 1 4 (.int .u32 0) (.t 10) (.t 10)), mq 6 11] none)
 (.seq (.reg [lq 7 (.mv (.c (.p (.int .u64 0))))] none)
 (.seq (.seq (.reg [mq 12 0, lq 13 (.len (.t 12)), lq 14 (.bin .sub (.t 13) (ki 1)), mq 8 14] none)
 (.fg [0, 1, 6, 7, 8] (.block 0
 (.loop (.fg [0, 1, 6, 7, 8]
 (.seq (.seq (.reg [mq 15 8, lq 16 (.bin .geq (.t 15) (ki 0))] none)
 (.fg [0, 1, 6, 7, 8, 16] (.cond (.t 16)
 .skip
 (.exit 0))))
 (.seq (.block 1
 (.seq (.reg [mq 19 7, lq 20 (.bin .mul (.t 19) (.c (.p (.int .u64 4294967296)))), mq 21 0, mq 22 8, xq 23 1 21 22, lF 24 1 23, lq 25 (.conv .u64 (.t 24)), bq 26 .add 20 25, mq 7 26] none)
 (.seq (.reg [mq 27 6, mq 28 8, mq 29 7, mq 30 1, bq 31 .quo 29 30, lq 32 (.conv .u32 (.t 31)), xq 33 1 27 28, sq 1 33 32] none)
 (.reg [mq 34 7, mq 35 1, bq 36 .rem 34 35, mq 7 36] none))))
 (.fg [0, 1, 6, 7, 8] (.reg [mq 17 8, lq 18 (.bin .sub (.t 17) (ki 1)), mq 8 18] none)))))))))
 (.seq (.reg [mq 37 6, lq 38 (.call .fz 36 [.t 37]), mq 39 7, mq 4 38, mq 5 39] none)
 .ret))))), [.t 4, .t 5]⟩
theorem c139 : chkF Tryz.prog 139 f139 = true := by kernel_rfl
def f140 : RFun := ⟨(.seq (.reg [lq 2 (.mv (.c (.nils)))] none)
 (.seq (.reg [lq 3 (.mv (.c (.nils)))] none)
 (.seq (.seq (.reg [lq 4 (.mv (ki 0))] none)
 (.fg [0, 3, 4] (.block 0
 (.loop (.fg [0, 3, 4]
 (.seq (.seq (.reg [mq 5 4, mq 6 0, lq 7 (.bin .quo (.t 6) (ki 32)), bq 8 .lss 5 7] none)
 (.fg [0, 3, 4, 8] (.cond (.t 8)
 .skip
 (.exit 0))))
 (.seq (.block 1
 (.reg [mq 11 3, lq 12 (.bslice 1 [.c (.p (.int .u32 0))]), lq 13 (.append 1 4 (.t 11) (.t 12)), mq 3 13] none))
 (.fg [0, 3, 4] (.reg [mq 9 4, lq 10 (.bin .add (.t 9) (ki 1)), mq 4 10] none)))))))))
 (.seq (.reg [mq 14 3, mq 15 0, lq 16 (.bin .rem (.t 15) (ki 32)), lq 17 (.conv .u64 (.t 16)), lq 18 (.bin .shl (.c (.p (.int .u32 1))) (.t 17)), lq 19 (.bslice 1 [.t 18]), lq 20 (.append 1 4 (.t 14) (.t 19)), mq 2 20] none)
 .ret)))), [.t 2]⟩
theorem c140 : chkF Tryz.prog 140 f140 = true := by kernel_rfl
def f141 : RFun := ⟨(.seq (.reg [lq 4 (.mv (.c (.p (.int .u64 0))))] none)
 (.seq (.seq (.reg [mq 5 1, mq 6 0, lq 7 (.len (.t 6)), bq 8 .lss 5 7] none)
 (.fg [0, 1, 8] (.cond (.t 8)
 (.seq (.reg [mq 9 0, mq 10 1, xq 11 1 9 10, lF 12 1 11, lq 13 (.conv .u64 (.t 12)), mq 4 13] none)
 .ret)
 .skip)))
 (.seq (.reg [lq 4 (.mv (.c (.p (.int .u64 0))))] none)
 .ret))), [.t 4]⟩
theorem c141 : chkF Tryz.prog 141 f141 = true := by kernel_rfl
def f142 : RFun := ⟨(.seq (.reg [lq 4 (.mv (.c (.nils)))] none)
 (.seq (.reg [lq 5 (.mv (.c (.nils)))] none)
 (.seq (.reg [lq 6 (.mv (.c (.p (.int .u64 0))))] none)
 (.seq (.seq (.reg [lq 7 (.mv (ki 0))] none)
 (.fg [0, 1, 5, 6, 7] (.block 0
 (.loop (.fg [0, 1, 5, 6, 7]
 (.seq (.seq (.reg [mq 10 7, mq 11 0, lq 12 (.len (.t 11)), bq 13 .lss 10 12] none)
 (.fg [0, 1, 5, 6, 7, 13] (.cond (.t 13)
 .skip
 (.exit 0))))
 (.seq (.block 1
 (.seq (.reg [mq 16 0, mq 17 7, lq 18 (.call .pu 141 [.t 16, .t 17]), mq 8 18] none)
 (.seq (.reg [mq 19 1, mq 20 7, lq 21 (.call .pu 141 [.t 19, .t 20]), mq 22 6, bq 23 .add 21 22, mq 9 23] none)
 (.seq (.reg [lq 6 (.mv (.c (.p (.int .u64 0))))] none)
 (.seq (.seq (.reg [mq 24 8, mq 25 9, bq 26 .lss 24 25] none)
 (.fg [0, 1, 5, 6, 7, 8, 9, 26] (.cond (.t 26)
 (.seq (.reg [mq 27 8, lq 28 (.bin .add (.t 27) (.c (.p (.int .u64 4294967296)))), mq 8 28] none)
 (.reg [lq 6 (.mv (.c (.p (.int .u64 1))))] none))
 .skip)))
 (.reg [mq 29 5, mq 30 8, mq 31 9, bq 32 .sub 30 31, lq 33 (.conv .u32 (.t 32)), lq 34 (.bslice 1 [.t 33]), lq 35 (.append 1 4 (.t 29) (.t 34)), mq 5 35] none))))))
 (.fg [0, 1, 5, 6, 7] (.reg [mq 14 7, lq 15 (.bin .add (.t 14) (ki 1)), mq 7 15] none)))))))))
 (.seq (.reg [mq 36 5, lq 37 (.call .fz 36 [.t 36]), mq 4 37] none)
 .ret))))), [.t 4]⟩
theorem c142 : chkF Tryz.prog 142 f142 = true := by kernel_rfl
def f143 : RFun := ⟨(.seq (.reg [lq 4 (.mv (.c (.nils))), lq 5 (.mv (ki 0))] none)
 (.seq (.seq (.reg [mq 9 1, lq 10 (.bin .lss (.t 9) (ki 0))] none)
 (.fg [0, 1, 10] (.cond (.t 10)
 (.seq (.reg [lq 4 (.mv (.c (.nils))), lq 5 (.mv (ki 1))] none)
 .ret)
 .skip)))
 (.seq (.seq (.reg [mq 11 1, mq 12 0, lq 13 (.call .pu 106 [.t 12]), bq 14 .geq 11 13] none)
 (.fg [0, 1, 14] (.cond (.t 14)
 (.seq (.reg [lq 4 (.mv (.c (.nils))), lq 5 (.mv (ki 0))] none)
 .ret)
 .skip)))
 (.seq (.reg [lq 6 (.mv (.c (.nils)))] none)
 (.seq (.seq (.reg [mq 15 1, lq 16 (.bin .quo (.t 15) (ki 32)), mq 7 16] none)
 (.fg [0, 1, 6, 7] (.block 0
 (.loop (.fg [0, 1, 6, 7]
 (.seq (.seq (.reg [mq 17 7, mq 18 0, lq 19 (.len (.t 18)), bq 20 .lss 17 19] none)
 (.fg [0, 1, 6, 7, 20] (.cond (.t 20)
 .skip
 (.exit 0))))
 (.seq (.block 1
 (.seq (.reg [mq 23 0, mq 24 7, lq 25 (.call .pu 141 [.t 23, .t 24]), mq 26 0, mq 27 7, lq 28 (.bin .add (.t 27) (ki 1)), lq 29 (.call .pu 141 [.t 26, .t 28]), lq 30 (.bin .mul (.t 29) (.c (.p (.int .u64 4294967296)))), bq 31 .add 25 30, mq 8 31] none)
 (.reg [mq 32 6, mq 33 8, mq 34 1, lq 35 (.bin .rem (.t 34) (ki 32)), lq 36 (.conv .u64 (.t 35)), bq 37 .shr 33 36, lq 38 (.bin .rem (.t 37) (.c (.p (.int .u64 4294967296)))), lq 39 (.conv .u32 (.t 38)), lq 40 (.bslice 1 [.t 39]), lq 41 (.append 1 4 (.t 32) (.t 40)), mq 6 41] none)))
 (.fg [0, 1, 6, 7] (.reg [mq 21 7, lq 22 (.bin .add (.t 21) (ki 1)), mq 7 22] none)))))))))
 (.seq (.reg [mq 42 6, lq 43 (.call .fz 36 [.t 42]), mq 4 43, lq 5 (.mv (ki 0))] none)
 .ret)))))), [.t 4, .t 5]⟩
theorem c143 : chkF Tryz.prog 143 f143 = true := by kernel_rfl
def f144 : RFun := ⟨(.seq (.reg [lq 4 (.mv (ki 0))] none)
 (.seq (.seq (.reg [mq 5 0, mq 6 1, bq 7 .gtr 5 6] none)
 (.fg [0, 1, 7] (.cond (.t 7)
 (.seq (.reg [mq 8 0, mq 4 8] none)
 .ret)
 .skip)))
 (.seq (.reg [mq 9 1, mq 4 9] none)
 .ret))), [.t 4]⟩
theorem c144 : chkF Tryz.prog 144 f144 = true := by kernel_rfl
def f150 : RFun := ⟨(.seq (.reg [lq 1 (.box (.t 0)), lq 2 (.mv (ki 0))] none)
 (.seq (.reg [lq 3 (.fieldA 1 (.t 1)), lF 4 1 3, lq 5 (.call .pu 131 [.t 4]), mq 2 5] none)
 .ret)), [.t 2]⟩
theorem c150 : chkF Tryz.prog 150 f150 = true := by kernel_rfl
def f152 : RFun := ⟨(.seq (.reg [lq 2 (.mv (.c (.nils)))] none)
 (.seq (.block 0
 (.loop (.fg [0]
 (.seq (.seq (.reg [mq 3 0, lq 4 (.len (.t 3)), lq 5 (.bin .gtr (.t 4) (ki 0)), mq 6 5, ⟨(some 7), (some (6, true)), none, .mv (.t 0)⟩, ⟨(some 8), (some (6, true)), none, .mv (.t 0)⟩, ⟨(some 9), (some (6, true)), none, .len (.t 8)⟩, ⟨(some 10), (some (6, true)), none, .bin .sub (.t 9) (ki 1)⟩, ⟨(some 11), (some (6, true)), none, .indexA 1 (.t 7) (.t 10)⟩, ⟨(some 12), (some (6, true)), none, .load false 1 (.t 11)⟩, ⟨(some 13), (some (6, true)), none, .bin .eql (.t 12) (.c (.p (.int .u32 0)))⟩, lq 14 (.pick (.t 6) (.t 13) (.c (.p (.bool false))))] none)
 (.fg [0, 14] (.cond (.t 14)
 .skip
 (.exit 0))))
 (.fg [0] (.block 1
 (.reg [mq 15 0, mq 16 0, lq 17 (.len (.t 16)), lq 18 (.bin .sub (.t 17) (ki 1)), lq 19 (.slice 1 (.t 15) none (some (.t 18)) none), mq 0 19] none)))))))
 (.fg [0] (.seq (.reg [mq 20 0, mq 2 20] none)
 .ret)))), [.t 2]⟩
theorem c152 : chkF Tryz.prog 152 f152 = true := by kernel_rfl
def f153 : RFun := ⟨(.seq (.reg [lq 2 (.mv (ki 0))] none)
 (.seq (.seq (.reg [mq 3 0, lq 4 (.bin .geq (.t 3) (.c (.p (.int .u32 65536))))] none)
 (.fg [0, 2, 4] (.cond (.t 4)
 (.seq (.reg [mq 5 0, lq 6 (.bin .shr (.t 5) (.c (.p (.int .u64 16)))), mq 0 6] none)
 (.reg [lq 2 (.mv (ki 16))] none))
 .skip)))
 (.seq (.seq (.reg [mq 7 0, lq 8 (.bin .geq (.t 7) (.c (.p (.int .u32 256))))] none)
 (.fg [0, 2, 8] (.cond (.t 8)
 (.seq (.reg [mq 9 0, lq 10 (.bin .shr (.t 9) (.c (.p (.int .u64 8)))), mq 0 10] none)
 (.reg [mq 11 2, lq 12 (.bin .add (.t 11) (ki 8)), mq 2 12] none))
 .skip)))
 (.seq (.reg [mq 13 2, mq 14 0, lq 15 (.conv .u8 (.t 14)), lq 16 (.idx [0, 1, 2, 2, 3, 3, 3, 3, 4, 4, 4, 4, 4, 4, 4, 4, 5, 5, 5, 5, 5, 5, 5, 5, 5, 5, 5, 5, 5, 5, 5, 5, 6, 6, 6, 6, 6, 6, 6, 6, 6, 6, 6, 6, 6, 6, 6, 6, 6, 6, 6, 6, 6, 6, 6, 6, 6, 6, 6, 6, 6, 6, 6, 6, 7, 7, 7, 7, 7, 7, 7, 7, 7, 7, 7, 7, 7, 7, 7, 7, 7, 7, 7, 7, 7, 7, 7, 7, 7, 7, 7, 7, 7, 7, 7, 7, 7, 7, 7, 7, 7, 7, 7, 7, 7, 7, 7, 7, 7, 7, 7, 7, 7, 7, 7, 7, 7, 7, 7, 7, 7, 7, 7, 7, 7, 7, 7, 7, 8, 8, 8, 8, 8, 8, 8, 8, 8, 8, 8, 8, 8, 8, 8, 8, 8, 8, 8, 8, 8, 8, 8, 8, 8, 8, 8, 8, 8, 8, 8, 8, 8, 8, 8, 8, 8, 8, 8, 8, 8, 8, 8, 8, 8, 8, 8, 8, 8, 8, 8, 8, 8, 8, 8, 8, 8, 8, 8, 8, 8, 8, 8, 8, 8, 8, 8, 8, 8, 8, 8, 8, 8, 8, 8, 8, 8, 8, 8, 8, 8, 8, 8, 8, 8, 8, 8, 8, 8, 8, 8, 8, 8, 8, 8, 8, 8, 8, 8, 8, 8, 8, 8, 8, 8, 8, 8, 8, 8, 8, 8, 8, 8, 8, 8, 8, 8, 8, 8, 8, 8, 8, 8, 8, 8, 8, 8, 8] (.t 15)), lq 17 (.conv .i64 (.t 16)), bq 18 .add 13 17, mq 2 18] none)
 .ret)))), [.t 2]⟩
theorem c153 : chkF Tryz.prog 153 f153 = true := by kernel_rfl
def f155 : RFun := ⟨(.seq (.reg [lq 2 (.mv (.c (.nils)))] none)
 (.seq (.reg [mq 3 0, lq 4 (.call .pu 152 [.t 3]), lq 5 (.append 1 4 (.c (.nils)) (.t 4)), mq 2 5] none)
 .ret)), [.t 2]⟩
theorem c155 : chkF Tryz.prog 155 f155 = true := by kernel_rfl
def f156 : RFun := ⟨(.seq (.reg [lq 4 (.mv (.c (.nils))), lq 5 (.mv (.c (.p (.int .u32 0))))] none)
 (.seq (.reg [mq 9 0, lq 10 (.len (.t 9)), lq 11 (.mks false 1 4 (.int .u32 0) (.t 10) (.t 10)), mq 6 11] none)
 (.seq (.reg [lq 7 (.mv (.c (.p (.int .u64 0))))] none)
 (.seq (.seq (.reg [mq 12 0, lq 13 (.len (.t 12)), lq 14 (.bin .sub (.t 13) (ki 1)), mq 8 14] none)
 (.fg [0, 1, 6, 7, 8] (.block 0
 (.loop (.fg [0, 1, 6, 7, 8]
 (.seq (.seq (.reg [mq 15 8, lq 16 (.bin .geq (.t 15) (ki 0))] none)
 (.fg [0, 1, 6, 7, 8, 16] (.cond (.t 16)
 .skip
 (.exit 0))))
 (.seq (.block 1
 (.seq (.reg [mq 19 7, lq 20 (.bin .shl (.t 19) (.c (.p (.int .u64 32)))), mq 21 0, mq 22 8, xq 23 1 21 22, lF 24 1 23, lq 25 (.conv .u64 (.t 24)), bq 26 .or 20 25, mq 7 26] none)
 (.seq (.reg [mq 27 6, mq 28 8, mq 29 7, mq 30 1, lq 31 (.conv .u64 (.t 30)), bq 32 .quo 29 31, lq 33 (.conv .u32 (.t 32)), xq 34 1 27 28, sq 1 34 33] none)
 (.reg [mq 35 7, mq 36 1, lq 37 (.conv .u64 (.t 36)), bq 38 .rem 35 37, mq 7 38] none))))
 (.fg [0, 1, 6, 7, 8] (.reg [mq 17 8, lq 18 (.bin .sub (.t 17) (ki 1)), mq 8 18] none)))))))))
 (.seq (.reg [mq 39 6, lq 40 (.call .fz 152 [.t 39]), mq 41 7, lq 42 (.conv .u32 (.t 41)), mq 4 40, mq 5 42] none)
 .ret))))), [.t 4, .t 5]⟩
theorem c156 : chkF Tryz.prog 156 f156 = true := by kernel_rfl
def f157 : RFun := ⟨(.seq (.reg [lq 2 (.mv (ki 0))] none)
 (.seq (.reg [mq 3 0, lq 4 (.call .pu 153 [.t 3]), lq 5 (.bin .sub (ki 32) (.t 4)), mq 2 5] none)
 .ret)), [.t 2]⟩
theorem c157 : chkF Tryz.prog 157 f157 = true := by kernel_rfl
def f158 : RFun := ⟨(.seq (.reg [lq 4 (.mv (.c (.nils)))] none)
 (.seq (.reg [mq 10 0, lq 11 (.call .pu 152 [.t 10]), mq 0 11] none)
 (.seq (.seq (.reg [mq 12 0, lq 13 (.len (.t 12)), lq 14 (.bin .eql (.t 13) (ki 0))] none)
 (.fg [0, 1, 14] (.cond (.t 14)
 (.seq (.reg [lq 4 (.mv (.c (.nils)))] none)
 .ret)
 .skip)))
 (.seq (.reg [mq 15 1, lq 16 (.bin .quo (.t 15) (ki 32)), mq 17 1, lq 18 (.bin .rem (.t 17) (ki 32)), lq 19 (.conv .u64 (.t 18)), mq 5 16, mq 6 19] none)
 (.seq (.reg [mq 20 0, lq 21 (.len (.t 20)), mq 22 5, bq 23 .add 21 22, lq 24 (.bin .add (.t 23) (ki 1)), lq 25 (.mks false 1 4 (.int .u32 0) (.t 24) (.t 24)), mq 7 25] none)
 (.seq (.seq (.reg [mq 26 0, lq 27 (.len (.t 26)), lq 28 (.mv (ki 0))] none)
 (.fg [0, 5, 6, 7, 27, 28] (.block 0
 (.loop (.fg [0, 5, 6, 7, 27, 28]
 (.seq (.reg [bq 29 .lss 28 27] none)
 (.seq (.cond (.t 29)
 .skip
 (.exit 0))
 (.fg [0, 5, 6, 7, 27, 28] (.seq (.block 1
 (.seq (.reg [mq 30 28, mq 8 30] none)
 (.seq (.reg [mq 31 0, mq 32 8, xq 33 1 31 32, lF 34 1 33, lq 35 (.conv .u64 (.t 34)), mq 36 6, bq 37 .shl 35 36, mq 9 37] none)
 (.seq (.reg [mq 38 7, mq 39 8, mq 40 5, bq 41 .add 39 40, xq 42 1 38 41, lF 43 1 42, mq 44 9, lq 45 (.conv .u32 (.t 44)), bq 46 .or 43 45, xq 47 1 38 41, sq 1 47 46] none)
 (.reg [mq 48 7, mq 49 8, mq 50 5, bq 51 .add 49 50, lq 52 (.bin .add (.t 51) (ki 1)), mq 53 9, lq 54 (.bin .shr (.t 53) (.c (.p (.int .u64 32)))), lq 55 (.conv .u32 (.t 54)), xq 56 1 48 52, sq 1 56 55] none)))))
 (.fg [0, 5, 6, 7, 27, 28] (.reg [lq 57 (.bin .add (.t 28) (ki 1)), mq 28 57] none)))))))))))
 (.seq (.reg [mq 58 7, lq 59 (.call .keep 152 [.t 58]), mq 4 59] none)
 .ret))))))), [.t 4]⟩
theorem c158 : chkF Tryz.prog 158 f158 = true := by kernel_rfl
def f159 : RFun := ⟨(.seq (.reg [lq 4 (.mv (.c (.p (.int .u32 0))))] none)
 (.seq (.reg [mq 15 1, lq 16 (.len (.t 15)), mq 5 16] none)
 (.seq (.reg [mq 17 0, mq 18 5, xq 19 1 17 18, lF 20 1 19, lq 21 (.conv .u64 (.t 20)), lq 22 (.bin .shl (.t 21) (.c (.p (.int .u64 32)))), mq 23 0, mq 24 5, lq 25 (.bin .sub (.t 24) (ki 1)), xq 26 1 23 25, lF 27 1 26, lq 28 (.conv .u64 (.t 27)), bq 29 .or 22 28, mq 6 29] (some (0, [])))
 (.seq (.reg [mq 30 6, mq 31 1, mq 32 5, lq 33 (.bin .sub (.t 32) (ki 1)), xq 34 1 31 33, lF 35 1 34, lq 36 (.conv .u64 (.t 35)), bq 37 .quo 30 36, lq 38 (.mn (.t 37) (.c (.p (.int .u64 4294967295)))), mq 7 38] none)
 (.seq (.reg [lq 8 (.mv (.c (.p (.int .u64 0)))), lq 9 (.mv (.c (.p (.int .u64 0))))] none)
 (.seq (.seq (.reg [mq 39 5, lq 40 (.bin .add (.t 39) (ki 1)), lq 41 (.mv (ki 0))] none)
 (.fg [0, 1, 5, 7, 8, 9, 40, 41] (.block 0
 (.loop (.fg [0, 1, 5, 7, 8, 9, 40, 41]
 (.seq (.reg [bq 42 .lss 41 40] none)
 (.seq (.cond (.t 42)
 .skip
 (.exit 0))
 (.fg [0, 1, 5, 7, 8, 9, 40, 41] (.seq (.block 1
 (.seq (.reg [mq 43 41, mq 10 43] none)
 (.seq (.reg [mq 44 8, mq 11 44] none)
 (.seq (.seq (.reg [mq 45 10, mq 46 5, bq 47 .lss 45 46] none)
 (.fg [0, 1, 5, 7, 9, 10, 11, 40, 41, 47] (.cond (.t 47)
 (.reg [mq 48 11, mq 49 7, mq 50 1, mq 51 10, xq 52 1 50 51, lF 53 1 52, lq 54 (.conv .u64 (.t 53)), bq 55 .mul 49 54, bq 56 .add 48 55, mq 11 56] none)
 .skip)))
 (.seq (.reg [mq 57 11, lq 58 (.bin .shr (.t 57) (.c (.p (.int .u64 32)))), mq 8 58] none)
 (.seq (.reg [mq 59 0, mq 60 10, xq 61 1 59 60, lF 62 1 61, lq 63 (.conv .u64 (.t 62)), mq 64 11, lq 65 (.conv .u32 (.t 64)), lq 66 (.conv .u64 (.t 65)), bq 67 .sub 63 66, mq 68 9, bq 69 .sub 67 68, mq 12 69] none)
 (.seq (.reg [mq 70 0, mq 71 10, mq 72 12, lq 73 (.conv .u32 (.t 72)), xq 74 1 70 71, sq 1 74 73] none)
 (.reg [mq 75 12, lq 76 (.bin .shr (.t 75) (.c (.p (.int .u64 63)))), mq 9 76] none))))))))
 (.fg [0, 1, 5, 7, 8, 9, 40, 41] (.reg [lq 77 (.bin .add (.t 41) (ki 1)), mq 41 77] none)))))))))))
 (.seq (.block 2
 (.loop (.fg [0, 1, 5, 7, 9]
 (.seq (.seq (.reg [mq 78 9, lq 79 (.bin .gtr (.t 78) (.c (.p (.int .u64 0))))] none)
 (.fg [0, 1, 5, 7, 9, 79] (.cond (.t 79)
 .skip
 (.exit 2))))
 (.fg [0, 1, 5, 7, 9] (.block 3
 (.seq (.reg [mq 80 7, lq 81 (.bin .sub (.t 80) (.c (.p (.int .u64 1)))), mq 7 81] none)
 (.seq (.reg [lq 13 (.mv (.c (.p (.int .u64 0))))] none)
 (.seq (.seq (.reg [mq 82 5, lq 83 (.bin .add (.t 82) (ki 1)), lq 84 (.mv (ki 0))] none)
 (.fg [0, 1, 5, 7, 9, 13, 83, 84] (.block 4
 (.loop (.fg [0, 1, 5, 7, 9, 13, 83, 84]
 (.seq (.reg [bq 85 .lss 84 83] none)
 (.seq (.cond (.t 85)
 .skip
 (.exit 4))
 (.fg [0, 1, 5, 7, 9, 13, 83, 84] (.seq (.block 5
 (.seq (.reg [mq 86 84, mq 14 86] none)
 (.seq (.reg [mq 87 13, mq 88 0, mq 89 14, xq 90 1 88 89, lF 91 1 90, lq 92 (.conv .u64 (.t 91)), bq 93 .add 87 92, mq 13 93] none)
 (.seq (.seq (.reg [mq 94 14, mq 95 5, bq 96 .lss 94 95] none)
 (.fg [0, 1, 5, 7, 9, 13, 14, 83, 84, 96] (.cond (.t 96)
 (.reg [mq 97 13, mq 98 1, mq 99 14, xq 100 1 98 99, lF 101 1 100, lq 102 (.conv .u64 (.t 101)), bq 103 .add 97 102, mq 13 103] none)
 .skip)))
 (.seq (.reg [mq 104 0, mq 105 14, mq 106 13, lq 107 (.conv .u32 (.t 106)), xq 108 1 104 105, sq 1 108 107] none)
 (.reg [mq 109 13, lq 110 (.bin .shr (.t 109) (.c (.p (.int .u64 32)))), mq 13 110] none))))))
 (.fg [0, 1, 5, 7, 9, 13, 83, 84] (.reg [lq 111 (.bin .add (.t 84) (ki 1)), mq 84 111] none)))))))))))
 (.reg [mq 112 9, mq 113 13, bq 114 .sub 112 113, mq 9 114] none))))))))))
 (.fg [7] (.seq (.reg [mq 115 7, lq 116 (.conv .u32 (.t 115)), mq 4 116] none)
 .ret))))))))), [.t 4]⟩
theorem c159 : chkF Tryz.prog 159 f159 = true := by kernel_rfl
def f160 : RFun := ⟨(.seq (.reg [lq 4 (.mv (.c (.nils)))] none)
 (.seq (.reg [mq 10 0, lq 11 (.call .pu 152 [.t 10]), mq 0 11] none)
 (.seq (.reg [mq 12 1, lq 13 (.bin .quo (.t 12) (ki 32)), mq 14 1, lq 15 (.bin .rem (.t 14) (ki 32)), lq 16 (.conv .u64 (.t 15)), mq 5 13, mq 6 16] none)
 (.seq (.seq (.reg [mq 17 5, mq 18 0, lq 19 (.len (.t 18)), bq 20 .geq 17 19] none)
 (.fg [0, 5, 6, 20] (.cond (.t 20)
 (.seq (.reg [lq 4 (.mv (.c (.nils)))] none)
 .ret)
 .skip)))
 (.seq (.reg [mq 21 0, lq 22 (.len (.t 21)), mq 23 5, bq 24 .sub 22 23, lq 25 (.mks false 1 4 (.int .u32 0) (.t 24) (.t 24)), mq 7 25] none)
 (.seq (.seq (.reg [mq 26 7, lq 27 (.len (.t 26)), lq 28 (.mv (ki 0))] none)
 (.fg [0, 5, 6, 7, 27, 28] (.block 0
 (.loop (.fg [0, 5, 6, 7, 27, 28]
 (.seq (.reg [bq 29 .lss 28 27] none)
 (.seq (.cond (.t 29)
 .skip
 (.exit 0))
 (.fg [0, 5, 6, 7, 27, 28] (.seq (.block 1
 (.seq (.reg [mq 30 28, mq 8 30] none)
 (.seq (.reg [mq 31 0, mq 32 8, mq 33 5, bq 34 .add 32 33, xq 35 1 31 34, lF 36 1 35, lq 37 (.conv .u64 (.t 36)), mq 9 37] none)
 (.seq (.seq (.reg [mq 38 8, mq 39 5, bq 40 .add 38 39, lq 41 (.bin .add (.t 40) (ki 1)), mq 42 0, lq 43 (.len (.t 42)), bq 44 .lss 41 43] none)
 (.fg [0, 5, 6, 7, 8, 9, 27, 28, 44] (.cond (.t 44)
 (.reg [mq 45 9, mq 46 0, mq 47 8, mq 48 5, bq 49 .add 47 48, lq 50 (.bin .add (.t 49) (ki 1)), xq 51 1 46 50, lF 52 1 51, lq 53 (.conv .u64 (.t 52)), lq 54 (.bin .shl (.t 53) (.c (.p (.int .u64 32)))), bq 55 .or 45 54, mq 9 55] none)
 .skip)))
 (.reg [mq 56 7, mq 57 8, mq 58 9, mq 59 6, bq 60 .shr 58 59, lq 61 (.conv .u32 (.t 60)), xq 62 1 56 57, sq 1 62 61] none)))))
 (.fg [0, 5, 6, 7, 27, 28] (.reg [lq 63 (.bin .add (.t 28) (ki 1)), mq 28 63] none)))))))))))
 (.seq (.reg [mq 64 7, lq 65 (.call .fz 152 [.t 64]), mq 4 65] none)
 .ret))))))), [.t 4]⟩
theorem c160 : chkF Tryz.prog 160 f160 = true := by kernel_rfl
def f161 : RFun := ⟨(.seq (.reg [lq 4 (.mv (.c (.nils)))] none)
 (.seq (.reg [mq 9 0, lq 10 (.len (.t 9)), lq 11 (.mks false 1 4 (.int .u32 0) (.t 10) (.t 10)), mq 5 11] none)
 (.seq (.reg [lq 6 (.mv (.c (.p (.int .u64 0))))] none)
 (.seq (.seq (.reg [mq 12 0, lq 13 (.len (.t 12)), lq 14 (.mv (ki 0))] none)
 (.fg [0, 1, 5, 6, 13, 14] (.block 0
 (.loop (.fg [0, 1, 5, 6, 13, 14]
 (.seq (.reg [bq 15 .lss 14 13] none)
 (.seq (.cond (.t 15)
 .skip
 (.exit 0))
 (.fg [0, 1, 5, 6, 13, 14] (.seq (.block 1
 (.seq (.reg [mq 16 14, mq 7 16] none)
 (.seq (.reg [mq 17 0, mq 18 7, xq 19 1 17 18, lF 20 1 19, lq 21 (.conv .u64 (.t 20)), mq 22 6, bq 23 .sub 21 22, mq 8 23] none)
 (.seq (.seq (.reg [mq 24 7, mq 25 1, lq 26 (.len (.t 25)), bq 27 .lss 24 26] none)
 (.fg [0, 1, 5, 7, 8, 13, 14, 27] (.cond (.t 27)
 (.reg [mq 28 8, mq 29 1, mq 30 7, xq 31 1 29 30, lF 32 1 31, lq 33 (.conv .u64 (.t 32)), bq 34 .sub 28 33, mq 8 34] none)
 .skip)))
 (.seq (.reg [mq 35 5, mq 36 7, mq 37 8, lq 38 (.conv .u32 (.t 37)), xq 39 1 35 36, sq 1 39 38] none)
 (.reg [mq 40 8, lq 41 (.bin .shr (.t 40) (.c (.p (.int .u64 63)))), mq 6 41] none))))))
 (.fg [0, 1, 5, 6, 13, 14] (.reg [lq 42 (.bin .add (.t 14) (ki 1)), mq 14 42] none)))))))))))
 (.seq (.reg [mq 43 5, lq 44 (.call .fz 152 [.t 43]), mq 4 44] none)
 .ret))))), [.t 4]⟩
theorem c161 : chkF Tryz.prog 161 f161 = true := by kernel_rfl
end Go.Proofs.YtdieenbfdeaffaaGreat.VBn

namespace Go.Proofs.YtdieenbfdeaffaaGreat.VBn
open Go Vpi
set_option maxRecDepth 100000
def tab : List (Nat × RFun) := [(8, f8), (14, f14), (22, f22), (25, f25), (26, f26), (32, f32), (33, f33), (34, f34), (36, f36), (47, f47), (50, f50), (53, f53), (61, f61), (62, f62), (63, f63), (67, f67), (68, f68), (69, f69), (70, f70), (72, f72), (73, f73), (74, f74), (75, f75), (76, f76), (80, f80), (85, f85), (87, f87), (88, f88), (89, f89), (96, f96), (99, f99), (104, f104), (105, f105), (106, f106), (108, f108), (109, f109), (110, f110), (111, f111), (112, f112), (113, f113), (114, f114), (115, f115), (116, f116), (125, f125), (126, f126), (129, f129), (131, f131), (134, f134), (135, f135), (136, f136), (137, f137), (138, f138), (139, f139), (140, f140), (141, f141), (142, f142), (143, f143), (144, f144), (150, f150), (152, f152), (153, f153), (155, f155), (156, f156), (157, f157), (158, f158), (159, f159), (160, f160), (161, f161)]
def rp : RProg := fun f => (tab.find? fun x => x.1 == f).map (·.2)
theorem all_ok : (tab.all fun x => chkF Tryz.prog x.1 x.2) = true := by
  simp only [tab, List.all_cons, List.all_nil, c8, c14, c22, c25, c26, c32, c33, c34, c36, c47, c50, c53, c61, c62, c63, c67, c68, c69, c70, c72, c73, c74, c75, c76, c80, c85, c87, c88, c89, c96, c99, c104, c105, c106, c108, c109, c110, c111, c112, c113, c114, c115, c116, c125, c126, c129, c131, c134, c135, c136, c137, c138, c139, c140, c141, c142, c143, c144, c150, c152, c153, c155, c156, c157, c158, c159, c160, c161, Bool.and_self]
theorem rp_ok : ∀ f rf, rp f = some rf → chkF Tryz.prog f rf = true := by
  intro f rf h
  unfold rp at h
  rw [Option.map_eq_some_iff] at h
  obtain ⟨x, hx, rfl⟩ := h
  have h1 := List.find?_some hx
  have h2 := List.mem_of_find?_eq_some hx
  have h3 := List.all_eq_true.1 all_ok x h2
  have h4 : x.1 = f := by simpa using h1
  rw [← h4]; exact h3
theorem mixed : Tryz.prog.follows .mixedOrders = true := by kernel_rfl
theorem sim (m : Nat) : CallSim Tryz.prog (runF rp m) := callSim mixed rp_ok m
end Go.Proofs.YtdieenbfdeaffaaGreat.VBn

namespace Go.Proofs.YtdieenbfdeaffaaGreat.VBn
open Go Vpi
set_option maxRecDepth 100000
set_option linter.unusedSimpArgs false
set_option linter.unusedVariables false
theorem rp98 : rp 36 = some f36 := rfl
theorem rp105 : rp 85 = some f85 := rfl
theorem rp107 : rp 80 = some f80 := rfl
theorem rp54 : rp 50 = some f50 := rfl
theorem rp66 : rp 47 = some f47 := rfl
theorem rp68 : rp 74 = some f74 := rfl
theorem rp58 : rp 111 = some f111 := rfl
theorem p98 {l : List Nat} (hl : Lim l) (hn : l.length ≤ 1099511627776) : Pu rp 36 [.sl (lm l)] (.p (.sl (lm (dgl (val l))))) := by
  refine pu_of rp98 ?_
  simp only [f36, args0, SA, setCells, Int.reduceLE, Int.reduceLT, ↓reduceIte, reduceCtorEq, Nat.reduceLT, Nat.reduceEqDiff, Nat.reduceAdd, Nat.reduceMul, Nat.reduceLeDiff, Nat.reduceBEq, lm_len]
  refine bloop (β := Nat) (γ := Nat) (fun n => ([(0, .p (.sl (lm l))), (3, i64 n)], [])) (fun n => n ≤ l.length ∧ ∀ i, n ≤ i → ∀ x, l[i]? = some x → x = 0) (fun n => n)
    (fun n => ([(0, .p (.sl (lm l))), (3, i64 n)], [])) (fun n => n ≤ l.length ∧ trimL l = l.take n) l.length rfl rfl ⟨Nat.le_refl _, fun i hi x hx => ?_⟩ ?_ ?_
  · rw [List.getElem?_eq_none hi] at hx; cases hx
  · rintro ks' n ⟨hnl, hz⟩ ih hx
    by_cases h0 : (n : Int) > 0
    · obtain ⟨m, rfl⟩ : ∃ m, n = m + 1 := ⟨n - 1, by omega⟩
      have hm : m < l.length := hnl
      have hi : IntKind.i64.wrap (((m + 1 : Nat) : Int) - 1) = (m : Int) := by rw [IntWalk.i64_in _ (by omega)]; omega
      have hg := lm_get hm
      by_cases hx0 : l[m] = 0
      · have e1 : (((l[m] : Nat) : Int) == 0) = true := by simp [hx0]
        simp only [SA, setCells, Int.reduceLE, Int.reduceLT, ↓reduceIte, reduceCtorEq, Nat.reduceLT, Nat.reduceEqDiff, Nat.reduceAdd, Nat.reduceMul, Nat.reduceLeDiff, Nat.reduceBEq, h0, hi, Int.natCast_nonneg, Int.toNat_natCast, hg, e1]
        refine ih m _ ⟨by omega, fun i hi x hx => ?_⟩ (by omega) ?_
        · rcases Nat.lt_or_ge m i with h1 | h1
          · exact hz i h1 x hx
          · obtain rfl : i = m := by omega
            rw [List.getElem?_eq_getElem hm] at hx
            cases hx
            exact hx0
        · rfl
      · have e1 : (((l[m] : Nat) : Int) == 0) = false := by simp [hx0]
        simp only [SA, setCells, Int.reduceLE, Int.reduceLT, ↓reduceIte, reduceCtorEq, Nat.reduceLT, Nat.reduceEqDiff, Nat.reduceAdd, Nat.reduceMul, Nat.reduceLeDiff, Nat.reduceBEq, h0, hi, Int.natCast_nonneg, Int.toNat_natCast, hg, e1]
        refine hx (m + 1) _ ⟨hnl, trimL_take hz (.inr ⟨l[m], by simp, hx0⟩)⟩ ?_
        rfl
    · simp only [SA, setCells, Int.reduceLE, Int.reduceLT, ↓reduceIte, reduceCtorEq, Nat.reduceLT, Nat.reduceEqDiff, Nat.reduceAdd, Nat.reduceMul, Nat.reduceLeDiff, Nat.reduceBEq, h0]
      obtain rfl : n = 0 := by omega
      refine hx 0 _ ⟨Nat.zero_le _, trimL_take hz (.inl rfl)⟩ ?_
      rfl
  · rintro n ⟨hnl, ht⟩
    simp only [SA, setCells, Int.reduceLE, Int.reduceLT, ↓reduceIte, reduceCtorEq, Nat.reduceLT, Nat.reduceEqDiff, Nat.reduceAdd, Nat.reduceMul, Nat.reduceLeDiff, Nat.reduceBEq]
    refine loop_rule (β := Nat × Store × CV) (fun b => ([(0, .p (.sl (lm l))), (3, i64 n), (4, b.2.2), (5, i64 b.1)], b.2.1)) (fun b => b.1 ≤ n ∧ GL b.2.1 1 b.2.2 (lm (l.take b.1))) (fun b => n - b.1) (0, [], .nils) rfl rfl ⟨Nat.zero_le _, .nil⟩ ?_
    rintro ⟨i, σ, c⟩ ⟨hi, hgl⟩ ih
    simp only [] at hi hgl ih ⊢
    by_cases hin : (i : Int) < n
    · have hi2 : i < l.length := by omega
      have hg := lm_get hi2
      have hc : ((lm (l.take i)).length + [PV.int .u32 (l[i] : Nat)].length) * 4 ≤ 140737488355328 := by rw [lm_len, List.length_take]; simp; omega
      simp only [SA, setCells, Int.reduceLE, Int.reduceLT, ↓reduceIte, reduceCtorEq, Nat.reduceLT, Nat.reduceEqDiff, Nat.reduceAdd, Nat.reduceMul, Nat.reduceLeDiff, Nat.reduceBEq, hin, hg, Int.natCast_nonneg, Int.toNat_natCast, r_app hgl hc, IntWalk.i64_in ((i : Int) + 1) (by omega)]
      have hnew : lm (l.take i) ++ [PV.int .u32 (l[i] : Nat)] = lm (l.take (i + 1)) := by rw [List.take_add_one, List.getElem?_eq_getElem hi2, ← lm_append]; rfl
      have hlen : (lm (l.take i)).length = i := by rw [lm_len, List.length_take]; omega
      rw [hnew, hlen]
      refine ih (i + 1, nd σ c ++ [.prow 1 [.int .u32 (l[i] : Nat)], .prow 1 (lm (l.take (i + 1)))], .own (σ.length + 1) 0 (i + 1)) _ ⟨by omega, GL.new2 (by rw [lm_len, List.length_take]; omega) rfl⟩ (by simp; omega) ?_
      rfl
    · simp only [SA, setCells, Int.reduceLE, Int.reduceLT, ↓reduceIte, reduceCtorEq, Nat.reduceLT, Nat.reduceEqDiff, Nat.reduceAdd, Nat.reduceMul, Nat.reduceLeDiff, Nat.reduceBEq, hin]
      obtain rfl : i = n := by omega
      rw [← trimL_dgl hl, ht]
      exact hgl.back
theorem p105 {neg : Bool} {l : List Nat} (hl : Lim l) (hn : l.length ≤ 1099511627776) : Pu rp 85 [.bool neg, .sl (lm l)] (.p (mk neg (val l))) := by
  refine pu_of rp105 ?_
  simp only [f85, args0, SA, setCells, Int.reduceLE, Int.reduceLT, ↓reduceIte, reduceCtorEq, Nat.reduceLT, Nat.reduceEqDiff, Nat.reduceAdd, Nat.reduceMul, Nat.reduceLeDiff, Nat.reduceBEq, lm_len]
  refine bloop (β := Nat) (γ := Nat) (fun n => ([(0, .p (.bool neg)), (1, .p (.sl (lm l))), (4, .ptr 0 0 0), (5, i64 n)], [.kblk 2 [.p (.bool false), .nils]])) (fun n => n ≤ l.length ∧ ∀ i, n ≤ i → ∀ x, l[i]? = some x → x = 0) (fun n => n)
    (fun n => ([(0, .p (.bool neg)), (1, .p (.sl (lm l))), (4, .ptr 0 0 0), (5, i64 n)], [.kblk 2 [.p (.bool false), .nils]])) (fun n => n ≤ l.length ∧ trimL l = l.take n) l.length rfl rfl ⟨Nat.le_refl _, fun i hi x hx => ?_⟩ ?_ ?_
  · rw [List.getElem?_eq_none hi] at hx; cases hx
  · rintro ks' n ⟨hnl, hz⟩ ih hx
    by_cases h0 : (n : Int) > 0
    · obtain ⟨m, rfl⟩ : ∃ m, n = m + 1 := ⟨n - 1, by omega⟩
      have hm : m < l.length := hnl
      have hi : IntKind.i64.wrap (((m + 1 : Nat) : Int) - 1) = (m : Int) := by rw [IntWalk.i64_in _ (by omega)]; omega
      have hg := lm_get hm
      by_cases hx0 : l[m] = 0
      · have e1 : (((l[m] : Nat) : Int) == 0) = true := by simp [hx0]
        simp only [SA, setCells, Int.reduceLE, Int.reduceLT, ↓reduceIte, reduceCtorEq, Nat.reduceLT, Nat.reduceEqDiff, Nat.reduceAdd, Nat.reduceMul, Nat.reduceLeDiff, Nat.reduceBEq, h0, hi, Int.natCast_nonneg, Int.toNat_natCast, hg, e1]
        refine ih m _ ⟨by omega, fun i hi x hx => ?_⟩ (by omega) ?_
        · rcases Nat.lt_or_ge m i with h1 | h1
          · exact hz i h1 x hx
          · obtain rfl : i = m := by omega
            rw [List.getElem?_eq_getElem hm] at hx
            cases hx
            exact hx0
        · rfl
      · have e1 : (((l[m] : Nat) : Int) == 0) = false := by simp [hx0]
        simp only [SA, setCells, Int.reduceLE, Int.reduceLT, ↓reduceIte, reduceCtorEq, Nat.reduceLT, Nat.reduceEqDiff, Nat.reduceAdd, Nat.reduceMul, Nat.reduceLeDiff, Nat.reduceBEq, h0, hi, Int.natCast_nonneg, Int.toNat_natCast, hg, e1]
        refine hx (m + 1) _ ⟨hnl, trimL_take hz (.inr ⟨l[m], by simp, hx0⟩)⟩ ?_
        rfl
    · simp only [SA, setCells, Int.reduceLE, Int.reduceLT, ↓reduceIte, reduceCtorEq, Nat.reduceLT, Nat.reduceEqDiff, Nat.reduceAdd, Nat.reduceMul, Nat.reduceLeDiff, Nat.reduceBEq, h0]
      obtain rfl : n = 0 := by omega
      refine hx 0 _ ⟨Nat.zero_le _, trimL_take hz (.inl rfl)⟩ ?_
      rfl
  · rintro n ⟨hnl, ht⟩
    have hd : dgl (val l) = l.take n := by rw [← trimL_dgl hl, ht]
    by_cases h0 : n = 0
    · subst h0
      have hv : val l = 0 := by rw [← val_dgl (val l), hd]; rfl
      simp only [SA, setCells, Int.reduceLE, Int.reduceLT, ↓reduceIte, reduceCtorEq, Nat.reduceLT, Nat.reduceEqDiff, Nat.reduceAdd, Nat.reduceMul, Nat.reduceLeDiff, Nat.reduceBEq]
      rw [mk, hv, dgl_zero]
      simp
      rfl
    · have e1 : ((n : Int) == 0) = false := by simp; omega
      have e2 : ((4 : Nat) : Int) * (n : Int) ≤ 281474976710656 := by omega
      have e3 : (n : Int) ≤ 9223372036854775807 := by omega
      have hv : val l ≠ 0 := by intro h; rw [h, dgl_zero] at hd; have := congrArg List.length hd; rw [List.length_take] at this; simp at this; omega
      simp only [SA, setCells, Int.reduceLE, Int.reduceLT, ↓reduceIte, reduceCtorEq, Nat.reduceLT, Nat.reduceEqDiff, Nat.reduceAdd, Nat.reduceMul, Nat.reduceLeDiff, Nat.reduceBEq, e1, e2, e3, Int.natCast_nonneg, Int.toNat_natCast, Int.le_refl, lm_sz, List.length_replicate]
      have hln : (dgl (val l)).length = n := by rw [hd, List.length_take]; omega
      have hl1 : (List.take n (lm l)).length = n := by rw [List.length_take, lm_len]; omega
      rw [hl1, List.drop_of_length_le (by simp), List.append_nil, lm_take, ← hd]
      have hf : frz1 [.kblk 2 [.p (.bool neg), .own 1 0 n], .prow 1 (lm (dgl (val l)))] (.own 1 0 n) = some (.sl (lm (dgl (val l)))) := frz1_own (s := 1) rfl (by rw [lm_len, hln])
      simp only [back, back1, frz, frzL, hf, Option.map_some, frz1_p]
      simp [mk, hv]
theorem p107 {neg : Bool} {l : List Nat} (hl : Lim l) (hn : l.length ≤ 1099511627776) : Pu rp 80 [.bool neg, .sl (lm l)] (.p (mk neg (val l))) := by
  refine pu_of rp107 ?_
  have e1 : (((dgl (val l)).length : Int) > 0) = (val l ≠ 0) := by
    by_cases h : val l = 0
    · simp [h, dgl_zero]
    · have := List.length_pos_iff.2 (dgl_ne h)
      simp only [ne_eq, h, not_false_eq_true, eq_iff_iff, iff_true]
      omega
  cases neg
  · simp only [f80, args0, SA, setCells, Int.reduceLE, Int.reduceLT, ↓reduceIte, reduceCtorEq, Nat.reduceLT, Nat.reduceEqDiff, Nat.reduceAdd, Nat.reduceMul, Nat.reduceLeDiff, Nat.reduceBEq, kp1 (p98 hl hn), lm_len]
    rfl
  · simp only [f80, args0, SA, setCells, Int.reduceLE, Int.reduceLT, ↓reduceIte, reduceCtorEq, Nat.reduceLT, Nat.reduceEqDiff, Nat.reduceAdd, Nat.reduceMul, Nat.reduceLeDiff, Nat.reduceBEq, kp1 (p98 hl hn), lm_len, e1]
    rfl
theorem two_lm {v : Nat} : [PV.int .u32 ((v % LB : Nat) : Int), PV.int .u32 ((v / LB : Nat) : Int)] = lm [v % LB, v / LB] := rfl
theorem p68 {neg : Bool} {l : List Nat} (hl : Lim l) (hn : l.length ≤ 1099511627776) : Pu rp 74 [.agg [.bool neg, .sl (lm l)]] (.p (mk neg (val l))) := by
  refine pu_of rp68 ?_
  simp only [f74, args0, SA, setCells, Int.reduceLE, Int.reduceLT, ↓reduceIte, reduceCtorEq, Nat.reduceLT, Nat.reduceEqDiff, Nat.reduceAdd, Nat.reduceMul, Nat.reduceLeDiff, Nat.reduceBEq, kp2 (p107 hl hn)]
  rfl
theorem zi_nonneg {x : Int} (h : 0 ≤ x) : zi x = mk false x.toNat := by
  obtain ⟨n, rfl⟩ := Int.eq_ofNat_of_zero_le h
  simp [zi, mk]
  omega
theorem zi_neg {x : Int} (h : x < 0) : zi x = mk true x.natAbs := by
  simp [zi, mk, h]
theorem two_words {v : Nat} (h : v < LB * LB) : IntKind.u32.wrap (v : Int) = ((v % LB : Nat) : Int) ∧ IntKind.u32.wrap ((v : Int).fdiv (2 ^ min (Int.toNat 32) IntKind.u64.bits)) = ((v / LB : Nat) : Int) := by
  have h1 : ((2 : Int) ^ min (Int.toNat 32) IntKind.u64.bits) = 4294967296 := by decide
  rw [h1, IntKind.wrap_u32, IntKind.wrap_u32, Int.fdiv_eq_ediv_of_nonneg _ (by decide)]
  unfold LB at h ⊢
  omega
theorem p54 {x : Int} (h : -9223372036854775808 ≤ x) (h' : x ≤ 9223372036854775807) : Pu rp 50 [.int .i64 x] (.p (zi x)) := by
  refine pu_of rp54 ?_
  by_cases h0 : x < 0
  · have e1 : IntKind.u64.wrap (0 - IntKind.u64.wrap x) = ((x.natAbs : Nat) : Int) := by rw [IntKind.wrap_u64, IntKind.wrap_u64]; omega
    have hlt : x.natAbs < LB * LB := by unfold LB; omega
    have hw := two_words hlt
    have hp := p105 (neg := true) (lim_two hlt) (by simp)
    rw [val_two hlt] at hp
    simp only [f50, args0, SA, setCells, Int.reduceLE, Int.reduceLT, ↓reduceIte, reduceCtorEq, Nat.reduceLT, Nat.reduceEqDiff, Nat.reduceAdd, Nat.reduceMul, Nat.reduceLeDiff, Nat.reduceBEq, h0, e1, hw.1, hw.2, two_lm, lm_sz, kf_p_own hp]
    rw [zi_neg h0]
    rfl
  · have e1 : IntKind.u64.wrap x = ((x.toNat : Nat) : Int) := by rw [IntKind.wrap_u64]; omega
    have hlt : x.toNat < LB * LB := by unfold LB; omega
    have hw := two_words hlt
    have hp := p105 (neg := false) (lim_two hlt) (by simp)
    rw [val_two hlt] at hp
    simp only [f50, args0, SA, setCells, Int.reduceLE, Int.reduceLT, ↓reduceIte, reduceCtorEq, Nat.reduceLT, Nat.reduceEqDiff, Nat.reduceAdd, Nat.reduceMul, Nat.reduceLeDiff, Nat.reduceBEq, h0, e1, hw.1, hw.2, two_lm, lm_sz, kf_p_own hp]
    rw [zi_nonneg (by omega)]
    rfl
theorem p66 {x : Int} (h : -9223372036854775808 ≤ x) (h' : x ≤ 9223372036854775807) : Pu rp 47 [.int .i64 x] (.p (zi x)) := by
  refine pu_of rp66 ?_
  by_cases h0 : x < 0
  · have e1 : IntKind.u64.wrap (0 - IntKind.u64.wrap x) = ((x.natAbs : Nat) : Int) := by rw [IntKind.wrap_u64, IntKind.wrap_u64]; omega
    have hlt : x.natAbs < LB * LB := by unfold LB; omega
    have hw := two_words hlt
    have hp := p107 (neg := true) (lim_two hlt) (by simp)
    rw [val_two hlt] at hp
    simp only [f47, args0, SA, setCells, Int.reduceLE, Int.reduceLT, ↓reduceIte, reduceCtorEq, Nat.reduceLT, Nat.reduceEqDiff, Nat.reduceAdd, Nat.reduceMul, Nat.reduceLeDiff, Nat.reduceBEq, h0, e1, hw.1, hw.2, two_lm, lm_sz, kf_p_own hp]
    rw [zi_neg h0]
    rfl
  · have e1 : IntKind.u64.wrap x = ((x.toNat : Nat) : Int) := by rw [IntKind.wrap_u64]; omega
    have hlt : x.toNat < LB * LB := by unfold LB; omega
    have hw := two_words hlt
    have hp := p107 (neg := false) (lim_two hlt) (by simp)
    rw [val_two hlt] at hp
    simp only [f47, args0, SA, setCells, Int.reduceLE, Int.reduceLT, ↓reduceIte, reduceCtorEq, Nat.reduceLT, Nat.reduceEqDiff, Nat.reduceAdd, Nat.reduceMul, Nat.reduceLeDiff, Nat.reduceBEq, h0, e1, hw.1, hw.2, two_lm, lm_sz, kf_p_own hp]
    rw [zi_nonneg (by omega)]
    rfl
end Go.Proofs.YtdieenbfdeaffaaGreat.VBn

namespace Go.Proofs.YtdieenbfdeaffaaGreat.VBn
open Go Vpi
set_option maxRecDepth 100000
set_option linter.unusedSimpArgs false
set_option linter.unusedVariables false
theorem rp144 : rp 152 = some f152 := rfl
theorem rp158 : rp 155 = some f155 := rfl
theorem rp177 : rp 137 = some f137 := rfl
theorem rp176 : rp 136 = some f136 := rfl
theorem sliceV_take {σ : Store} {sz h : Nat} {es : List PV} (hh : h ≤ es.length) : sliceV σ sz (.p (.sl es)) 0 h = some (.p (.sl (es.take h))) := by
  simp [sliceV, hh]
theorem p144 {l : List Nat} (hl : Lim l) (hn : l.length ≤ 1099511627776) : Pu rp 152 [.sl (lm l)] (.p (.sl (lm (dgl (val l))))) := by
  refine pu_of rp144 ?_
  simp only [f152, args0, SA, setCells, Int.reduceLE, Int.reduceLT, ↓reduceIte, reduceCtorEq, Nat.reduceLT, Nat.reduceEqDiff, Nat.reduceAdd, Nat.reduceMul, Nat.reduceLeDiff, Nat.reduceBEq]
  refine bloop (β := Nat) (γ := Nat) (fun n => ([(0, .p (.sl (lm (l.take n))))], [])) (fun n => n ≤ l.length ∧ ∀ i, n ≤ i → ∀ x, l[i]? = some x → x = 0) (fun n => n)
    (fun n => ([(0, .p (.sl (lm (l.take n))))], [])) (fun n => n ≤ l.length ∧ trimL l = l.take n) l.length (by rw [List.take_length]; rfl) rfl ⟨Nat.le_refl _, fun i hi x hx => ?_⟩ ?_ ?_
  · rw [List.getElem?_eq_none hi] at hx; cases hx
  · rintro ks' n ⟨hnl, hz⟩ ih hx
    have hlen : (lm (l.take n)).length = n := by rw [lm_len, List.length_take]; omega
    by_cases h0 : (n : Int) > 0
    · obtain ⟨m, rfl⟩ : ∃ m, n = m + 1 := ⟨n - 1, by omega⟩
      have hm : m < l.length := hnl
      have hi : IntKind.i64.wrap (((m + 1 : Nat) : Int) - 1) = (m : Int) := by rw [IntWalk.i64_in _ (by omega)]; omega
      have hg : (lm (l.take (m + 1)))[m]? = some (.int .u32 (l[m] : Nat)) := lm_get? (by rw [List.getElem?_take_of_lt (by omega)]; simp)
      by_cases hx0 : l[m] = 0
      · have e1 : (((l[m] : Nat) : Int) == 0) = true := by simp [hx0]
        have hs : sliceV [] 1 (.p (.sl (lm (l.take (m + 1))))) 0 m = some (.p (.sl (lm (l.take m)))) := by
          rw [sliceV_take (by rw [hlen]; omega), lm_take, List.take_take, Nat.min_eq_left (by omega)]
        simp only [SA, setCells, Int.reduceLE, Int.reduceLT, ↓reduceIte, reduceCtorEq, Nat.reduceLT, Nat.reduceEqDiff, Nat.reduceAdd, Nat.reduceMul, Nat.reduceLeDiff, Nat.reduceBEq, hlen, h0, hi, Int.natCast_nonneg, Int.toNat_natCast, hg, e1, hs]
        refine ih m _ ⟨by omega, fun i hi x hx => ?_⟩ (by omega) ?_
        · rcases Nat.lt_or_ge m i with h1 | h1
          · exact hz i h1 x hx
          · obtain rfl : i = m := by omega
            rw [List.getElem?_eq_getElem hm] at hx
            cases hx
            exact hx0
        · rfl
      · have e1 : (((l[m] : Nat) : Int) == 0) = false := by simp [hx0]
        simp only [SA, setCells, Int.reduceLE, Int.reduceLT, ↓reduceIte, reduceCtorEq, Nat.reduceLT, Nat.reduceEqDiff, Nat.reduceAdd, Nat.reduceMul, Nat.reduceLeDiff, Nat.reduceBEq, hlen, h0, hi, Int.natCast_nonneg, Int.toNat_natCast, hg, e1]
        refine hx (m + 1) _ ⟨hnl, trimL_take hz (.inr ⟨l[m], by simp, hx0⟩)⟩ ?_
        rfl
    · simp only [SA, setCells, Int.reduceLE, Int.reduceLT, ↓reduceIte, reduceCtorEq, Nat.reduceLT, Nat.reduceEqDiff, Nat.reduceAdd, Nat.reduceMul, Nat.reduceLeDiff, Nat.reduceBEq, hlen, h0]
      obtain rfl : n = 0 := by omega
      refine hx 0 _ ⟨Nat.zero_le _, trimL_take hz (.inl rfl)⟩ ?_
      rfl
  · rintro n ⟨hnl, ht⟩
    simp only [SA, setCells, Int.reduceLE, Int.reduceLT, ↓reduceIte, reduceCtorEq, Nat.reduceLT, Nat.reduceEqDiff, Nat.reduceAdd, Nat.reduceMul, Nat.reduceLeDiff, Nat.reduceBEq]
    rw [← trimL_dgl hl, ht]
    rfl
theorem p158 {l : List Nat} (hl : Lim l) (hn : l.length ≤ 1099511627776) : Pu rp 155 [.sl (lm l)] (.p (.sl (lm (dgl (val l))))) := by
  refine pu_of rp158 ?_
  have hd : (dgl (val l)).length ≤ l.length := dgl_len (val_lt hl)
  have hc : (dgl (val l)).length * 4 ≤ 140737488355328 := by omega
  simp only [f155, args0, SA, setCells, Int.reduceLE, Int.reduceLT, ↓reduceIte, reduceCtorEq, Nat.reduceLT, Nat.reduceEqDiff, Nat.reduceAdd, Nat.reduceMul, Nat.reduceLeDiff, Nat.reduceBEq, kp1 (p144 hl hn), r_append, lm_len, hc, lm_sz]
  have hf : frz1 [.prow 1 (lm (dgl (val l)))] (.own 0 0 (dgl (val l)).length) = some (.sl (lm (dgl (val l)))) := frz1_own (s := 1) rfl (by rw [lm_len])
  simp only [back, back1, Nat.not_lt_zero, if_false, hf, Option.map_some]
def cmpI (x y : Nat) : Int := if x < y then -1 else if x = y then 0 else 1
theorem p177 {a b : List Nat} (ha : Lim a) (hb : Lim b) (hna : a.length ≤ 1099511627776) (hnb : b.length ≤ 1099511627776) : Pu rp 137 [.sl (lm a), .sl (lm b)] (.p (.int .i64 (cmpI (val a) (val b)))) := by
  refine pu_of rp177 ?_
  have hda : (dgl (val a)).length ≤ a.length := dgl_len (val_lt ha)
  have hdb : (dgl (val b)).length ≤ b.length := dgl_len (val_lt hb)
  by_cases h1 : (dgl (val a)).length = (dgl (val b)).length
  · have e1 : (((dgl (val a)).length : Int) != ((dgl (val b)).length : Int)) = false := by simp [h1]
    have w1 : IntKind.i64.wrap (((dgl (val a)).length : Int) - 1) = ((dgl (val a)).length : Int) - 1 := IntWalk.i64_in _ (by omega)
    simp only [f137, args0, SA, setCells, Int.reduceLE, Int.reduceLT, ↓reduceIte, reduceCtorEq, Nat.reduceLT, Nat.reduceEqDiff, Nat.reduceAdd, Nat.reduceMul, Nat.reduceLeDiff, Nat.reduceBEq, kp1 (p144 ha hna), kp1 (p144 hb hnb), lm_len, e1, w1]
    refine loop_rule (β := Nat) (fun n => ([(0, .p (.sl (lm (dgl (val a))))), (1, .p (.sl (lm (dgl (val b))))), (5, i64 ((n : Int) - 1))], []))
      (fun n => n ≤ (dgl (val a)).length ∧ val ((dgl (val a)).drop n) = val ((dgl (val b)).drop n)) (fun n => n) (dgl (val a)).length rfl rfl ⟨Nat.le_refl _, by rw [List.drop_length, h1, List.drop_length]⟩ ?_
    rintro n ⟨hn, hd⟩ ih
    by_cases h0 : ((n : Int) - 1) ≥ 0
    · obtain ⟨m, rfl⟩ : ∃ m, n = m + 1 := ⟨n - 1, by omega⟩
      have hm : m < (dgl (val a)).length := hn
      have hm' : m < (dgl (val b)).length := by omega
      have hi : ((m + 1 : Nat) : Int) - 1 = (m : Int) := by omega
      rw [hi] at h0
      have hw : IntKind.i64.wrap ((m : Int) - 1) = (m : Int) - 1 := IntWalk.i64_in _ (by omega)
      by_cases heq : (dgl (val a))[m] = (dgl (val b))[m]
      · have e2 : ((((dgl (val a))[m] : Nat) : Int) != (((dgl (val b))[m] : Nat) : Int)) = false := by simp [heq]
        simp only [SA, setCells, Int.reduceLE, Int.reduceLT, ↓reduceIte, reduceCtorEq, Nat.reduceLT, Nat.reduceEqDiff, Nat.reduceAdd, Nat.reduceMul, Nat.reduceLeDiff, Nat.reduceBEq, hi, h0, Int.natCast_nonneg, Int.toNat_natCast, lm_get hm, lm_get hm', e2, hw]
        refine ih m _ ⟨by omega, ?_⟩ (by omega) ?_
        · rw [List.drop_eq_getElem_cons hm, List.drop_eq_getElem_cons hm', val, val, heq, hd]
        · rfl
      · have e2 : ((((dgl (val a))[m] : Nat) : Int) != (((dgl (val b))[m] : Nat) : Int)) = true := by simp; omega
        by_cases hlt : (dgl (val a))[m] < (dgl (val b))[m]
        · have e3 : (((dgl (val a))[m] : Nat) : Int) < (((dgl (val b))[m] : Nat) : Int) := by omega
          simp only [SA, setCells, Int.reduceLE, Int.reduceLT, ↓reduceIte, reduceCtorEq, Nat.reduceLT, Nat.reduceEqDiff, Nat.reduceAdd, Nat.reduceMul, Nat.reduceLeDiff, Nat.reduceBEq, hi, h0, Int.natCast_nonneg, Int.toNat_natCast, lm_get hm, lm_get hm', e2, e3]
          have := val_lt_top (dgl_lim (val a)) hm hm' hd hlt
          rw [val_dgl, val_dgl] at this
          rw [cmpI, if_pos this]
          rfl
        · have e3 : ¬ (((dgl (val a))[m] : Nat) : Int) < (((dgl (val b))[m] : Nat) : Int) := by omega
          simp only [SA, setCells, Int.reduceLE, Int.reduceLT, ↓reduceIte, reduceCtorEq, Nat.reduceLT, Nat.reduceEqDiff, Nat.reduceAdd, Nat.reduceMul, Nat.reduceLeDiff, Nat.reduceBEq, hi, h0, Int.natCast_nonneg, Int.toNat_natCast, lm_get hm, lm_get hm', e2, e3]
          have := val_lt_top (dgl_lim (val b)) hm' hm hd.symm (by omega)
          rw [val_dgl, val_dgl] at this
          rw [cmpI, if_neg (by omega), if_neg (by omega)]
          rfl
    · obtain rfl : n = 0 := by omega
      have h0' : ¬ (((0 : Nat) : Int) - 1 ≥ 0) := by omega
      simp only [SA, setCells, Int.reduceLE, Int.reduceLT, ↓reduceIte, reduceCtorEq, Nat.reduceLT, Nat.reduceEqDiff, Nat.reduceAdd, Nat.reduceMul, Nat.reduceLeDiff, Nat.reduceBEq, h0']
      simp only [List.drop_zero, val_dgl] at hd
      rw [cmpI, if_neg (by omega), if_pos hd]
      rfl
  · have e1 : (((dgl (val a)).length : Int) != ((dgl (val b)).length : Int)) = true := by simp; omega
    by_cases h2 : (dgl (val a)).length < (dgl (val b)).length
    · have e2 : ((dgl (val a)).length : Int) < ((dgl (val b)).length : Int) := by omega
      simp only [f137, args0, SA, setCells, Int.reduceLE, Int.reduceLT, ↓reduceIte, reduceCtorEq, Nat.reduceLT, Nat.reduceEqDiff, Nat.reduceAdd, Nat.reduceMul, Nat.reduceLeDiff, Nat.reduceBEq, kp1 (p144 ha hna), kp1 (p144 hb hnb), lm_len, e1, e2]
      rw [cmpI, if_pos (dgl_lt_len h2)]
      rfl
    · have e2 : ¬ ((dgl (val a)).length : Int) < ((dgl (val b)).length : Int) := by omega
      simp only [f137, args0, SA, setCells, Int.reduceLE, Int.reduceLT, ↓reduceIte, reduceCtorEq, Nat.reduceLT, Nat.reduceEqDiff, Nat.reduceAdd, Nat.reduceMul, Nat.reduceLeDiff, Nat.reduceBEq, kp1 (p144 ha hna), kp1 (p144 hb hnb), lm_len, e1, e2]
      have := dgl_lt_len (x := val b) (y := val a) (by omega)
      rw [cmpI, if_neg (by omega), if_neg (by omega)]
      rfl
end Go.Proofs.YtdieenbfdeaffaaGreat.VBn

namespace Go.Proofs.YtdieenbfdeaffaaGreat.VBn
open Go Vpi
set_option maxRecDepth 100000
set_option linter.unusedSimpArgs false
set_option linter.unusedVariables false
theorem rp201 : rp 161 = some f161 := rfl
theorem rp178 : rp 138 = some f138 := rfl
def lg (l : List Nat) (i : Nat) : Nat := l[i]?.getD 0
theorem lg_lt {l : List Nat} (h : Lim l) {i : Nat} : lg l i < LB := by
  unfold lg
  rcases Nat.lt_or_ge i l.length with h1 | h1
  · rw [List.getElem?_eq_getElem h1]; exact h.get h1
  · rw [List.getElem?_eq_none h1]; exact LB_pos
theorem lg_in {l : List Nat} {i : Nat} (h : i < l.length) : lg l i = l[i] := by unfold lg; rw [List.getElem?_eq_getElem h]; rfl
theorem lg_out {l : List Nat} {i : Nat} (h : l.length ≤ i) : lg l i = 0 := by unfold lg; rw [List.getElem?_eq_none h]; rfl
theorem val_take_lg {l : List Nat} {i : Nat} : val (l.take (i + 1)) = val (l.take i) + LB ^ i * lg l i := by
  rcases Nat.lt_or_ge i l.length with h1 | h1
  · rw [val_take_succ h1, lg_in h1]
  · rw [lg_out h1, List.take_of_length_le (by omega), List.take_of_length_le h1]; omega
theorem addStep {o : List Nat} {A B c x y i : Nat} (ho : o.length = i) (h : val o + LB ^ i * c = A + B) : val (o ++ [(c + x + y) % LB]) + LB ^ (i + 1) * ((c + x + y) / LB) = A + LB ^ i * x + (B + LB ^ i * y) := by
  rw [val_append, ho, val_one, Nat.pow_succ]
  have h1 := Nat.mod_add_div (c + x + y) LB
  have h2 : LB ^ i * ((c + x + y) % LB) + LB ^ i * LB * ((c + x + y) / LB) = LB ^ i * (c + x + y) := by
    rw [Nat.mul_assoc, ← Nat.mul_add, h1]
  rw [Nat.mul_add, Nat.mul_add] at h2
  omega
theorem carry1 {c x y : Nat} (hc : c ≤ 1) (hx : x < LB) (hy : y < LB) : (c + x + y) / LB ≤ 1 ∧ c + x + y < 18446744073709551616 ∧ c + x < 18446744073709551616 := by
  unfold LB at *
  omega
theorem p176a {a b : List Nat} (ha : Lim a) (hb : Lim b) (hle : b.length ≤ a.length) (hna : a.length ≤ 1099511627775) {x y : List Nat} (hxy : (x = a ∧ y = b) ∨ (x = b ∧ y = a ∧ b.length < a.length)) :
    Pu rp 136 [.sl (lm x), .sl (lm y)] (.p (.sl (lm (dgl (val a + val b))))) := by
  refine pu_of rp176 ?_
  have w1 : IntKind.i64.wrap ((a.length : Int) + 1) = ((a.length + 1 : Nat) : Int) := by rw [IntWalk.i64_in _ (by omega)]; omega
  have m1 : ((4 : Nat) : Int) * ((a.length + 1 : Nat) : Int) ≤ 281474976710656 := by omega
  have m2 : ((a.length + 1 : Nat) : Int) ≤ 9223372036854775807 := by omega
  rcases hxy with ⟨hx, hy⟩ | ⟨hx, hy, hlt⟩ <;> rw [hx, hy]
  · have e1 : ¬ (a.length : Int) < b.length := by omega
    simp only [f136, args0, SA, setCells, Int.reduceLE, Int.reduceLT, ↓reduceIte, reduceCtorEq, Nat.reduceLT, Nat.reduceEqDiff, Nat.reduceAdd, Nat.reduceMul, Nat.reduceLeDiff, Nat.reduceBEq, lm_len, e1, w1, m1, m2, Int.natCast_nonneg, Int.toNat_natCast, Int.le_refl, lm_rep]
    refine loop_rule (β := Nat × List Nat × Nat) (fun t => ([(0, .p (.sl (lm a))), (1, .p (.sl (lm b))), (5, .own 0 0 (a.length + 1)), (6, .p (.int .u64 (t.2.2 : Int))), (20, i64 a.length), (21, i64 t.1)], [.prow 1 (lm (t.2.1 ++ List.replicate (a.length + 1 - t.1) 0))]))
      (fun t => t.1 ≤ a.length ∧ t.2.1.length = t.1 ∧ Lim t.2.1 ∧ val t.2.1 + LB ^ t.1 * t.2.2 = val (a.take t.1) + val (b.take t.1) ∧ t.2.2 ≤ 1) (fun t => a.length - t.1) ((0, [], 0) : Nat × List Nat × Nat) rfl rfl ⟨Nat.zero_le _, rfl, (fun _ hx => nomatch hx), rfl, Nat.zero_le _⟩ ?_
    rintro ⟨i, o, c⟩ ⟨hi, ho, hlo, hv, hc⟩ ih
    simp only [] at hi ho hlo hv hc ih ⊢
    have hget : (lm (o ++ List.replicate (a.length + 1 - i) 0))[i]? = some (.int .u32 0) := by
      have : (o ++ List.replicate (a.length + 1 - i) 0)[i]? = some 0 := by rw [show a.length + 1 - i = (a.length - i) + 1 by omega, List.getElem?_append_right (by omega), ho, Nat.sub_self]; rfl
      exact lm_get? this
    have hset : ∀ v, (o ++ List.replicate (a.length + 1 - i) 0).set i v = o ++ v :: List.replicate (a.length - i) 0 := by
      intro v
      rw [show a.length + 1 - i = (a.length - i) + 1 by omega, ← ho, set_next, List.append_assoc]
      rfl
    have hfold : ∀ v, o ++ v :: List.replicate (a.length - i) 0 = (o ++ [v]) ++ List.replicate (a.length + 1 - (i + 1)) 0 := by
      intro v
      rw [List.append_assoc, Nat.add_sub_add_right]
      rfl
    by_cases hin : (i : Int) < a.length
    · have hia : i < a.length := by omega
      have hil : i < a.length + 1 := by omega
      obtain ⟨k1, k2, k3⟩ := carry1 hc (ha.get hia) (lg_lt hb (i := i))
      have hst := addStep (x := a[i]) (y := lg b i) ho hv
      have hta := val_take_lg (l := a) (i := i)
      have htb := val_take_lg (l := b) (i := i)
      rw [lg_in hia] at hta
      rw [← hta, ← htb] at hst
      have hlen : (o ++ [(c + a[i] + lg b i) % LB]).length = i + 1 := by simp [ho]
      have hlim : Lim (o ++ [(c + a[i] + lg b i) % LB]) := hlo.append (.one (Nat.mod_lt _ LB_pos))
      by_cases hib : (i : Int) < b.length
      · have hib' : i < b.length := by omega
        rw [lg_in hib'] at hst k1 k2 hlen hlim
        simp only [SA, setCells, Int.reduceLE, Int.reduceLT, ↓reduceIte, reduceCtorEq, Nat.reduceLT, Nat.reduceEqDiff, Nat.reduceAdd, Nat.reduceMul, Nat.reduceLeDiff, Nat.reduceBEq, lm_len, hin, hib, lm_get hia, lm_get hib', w64l (ha.get hia), w64l (hb.get hib'), w64s k3, w64s k2, w32, sh32, Int.natCast_nonneg, Int.toNat_natCast, hil, hget, lm_set, hset, IntWalk.i64_in ((i : Int) + 1) (by omega)]
        rw [hfold]
        refine ih (i + 1, o ++ [(c + a[i] + b[i]) % LB], (c + a[i] + b[i]) / LB) _ ⟨by omega, hlen, hlim, hst, k1⟩ (by simp; omega) ?_
        rfl
      · rw [lg_out (by omega), Nat.add_zero] at hst k1 k2 hlen hlim
        simp only [SA, setCells, Int.reduceLE, Int.reduceLT, ↓reduceIte, reduceCtorEq, Nat.reduceLT, Nat.reduceEqDiff, Nat.reduceAdd, Nat.reduceMul, Nat.reduceLeDiff, Nat.reduceBEq, lm_len, hin, hib, lm_get hia, w64l (ha.get hia), w64s k3, w32, sh32, Int.natCast_nonneg, Int.toNat_natCast, hil, hget, lm_set, hset, IntWalk.i64_in ((i : Int) + 1) (by omega)]
        rw [hfold]
        refine ih (i + 1, o ++ [(c + a[i]) % LB], (c + a[i]) / LB) _ ⟨by omega, hlen, hlim, hst, k1⟩ (by simp; omega) ?_
        rfl
    · have hia : i = a.length := by omega
      have hil : a.length < a.length + 1 := Nat.lt_succ_self _
      subst hia
      have hcl : c % LB = c := Nat.mod_eq_of_lt (by unfold LB; omega)
      have hfin : o ++ c :: List.replicate (a.length - a.length) 0 = o ++ [c] := by simp
      have hval : val (o ++ [c]) = val a + val b := by
        rw [val_append, val_one, ho, hv, List.take_length, List.take_of_length_le hle]
      have hlim : Lim (o ++ [c]) := hlo.append (.one (by unfold LB; omega))
      have htr := p144 hlim (by simp; omega)
      rw [hval] at htr
      simp only [SA, setCells, Int.reduceLE, Int.reduceLT, ↓reduceIte, reduceCtorEq, Nat.reduceLT, Nat.reduceEqDiff, Nat.reduceAdd, Nat.reduceMul, Nat.reduceLeDiff, Nat.reduceBEq, lm_len, hin, w32, hcl, Int.natCast_nonneg, Int.toNat_natCast, hil, hget, lm_set, hset]
      rw [hfin, kf_own htr rfl (by rw [lm_len]; simp; omega)]
      simp only [SA, setCells, Int.reduceLE, Int.reduceLT, ↓reduceIte, reduceCtorEq, Nat.reduceLT, Nat.reduceEqDiff, Nat.reduceAdd, Nat.reduceMul, Nat.reduceLeDiff, Nat.reduceBEq]
      rfl
  · have e1 : (b.length : Int) < a.length := by omega
    simp only [f136, args0, SA, setCells, Int.reduceLE, Int.reduceLT, ↓reduceIte, reduceCtorEq, Nat.reduceLT, Nat.reduceEqDiff, Nat.reduceAdd, Nat.reduceMul, Nat.reduceLeDiff, Nat.reduceBEq, lm_len, e1, w1, m1, m2, Int.natCast_nonneg, Int.toNat_natCast, Int.le_refl, lm_rep]
    refine loop_rule (β := Nat × List Nat × Nat) (fun t => ([(0, .p (.sl (lm a))), (1, .p (.sl (lm b))), (5, .own 0 0 (a.length + 1)), (6, .p (.int .u64 (t.2.2 : Int))), (20, i64 a.length), (21, i64 t.1)], [.prow 1 (lm (t.2.1 ++ List.replicate (a.length + 1 - t.1) 0))]))
      (fun t => t.1 ≤ a.length ∧ t.2.1.length = t.1 ∧ Lim t.2.1 ∧ val t.2.1 + LB ^ t.1 * t.2.2 = val (a.take t.1) + val (b.take t.1) ∧ t.2.2 ≤ 1) (fun t => a.length - t.1) ((0, [], 0) : Nat × List Nat × Nat) rfl rfl ⟨Nat.zero_le _, rfl, (fun _ hx => nomatch hx), rfl, Nat.zero_le _⟩ ?_
    rintro ⟨i, o, c⟩ ⟨hi, ho, hlo, hv, hc⟩ ih
    simp only [] at hi ho hlo hv hc ih ⊢
    have hget : (lm (o ++ List.replicate (a.length + 1 - i) 0))[i]? = some (.int .u32 0) := by
      have : (o ++ List.replicate (a.length + 1 - i) 0)[i]? = some 0 := by rw [show a.length + 1 - i = (a.length - i) + 1 by omega, List.getElem?_append_right (by omega), ho, Nat.sub_self]; rfl
      exact lm_get? this
    have hset : ∀ v, (o ++ List.replicate (a.length + 1 - i) 0).set i v = o ++ v :: List.replicate (a.length - i) 0 := by
      intro v
      rw [show a.length + 1 - i = (a.length - i) + 1 by omega, ← ho, set_next, List.append_assoc]
      rfl
    have hfold : ∀ v, o ++ v :: List.replicate (a.length - i) 0 = (o ++ [v]) ++ List.replicate (a.length + 1 - (i + 1)) 0 := by
      intro v
      rw [List.append_assoc, Nat.add_sub_add_right]
      rfl
    by_cases hin : (i : Int) < a.length
    · have hia : i < a.length := by omega
      have hil : i < a.length + 1 := by omega
      obtain ⟨k1, k2, k3⟩ := carry1 hc (ha.get hia) (lg_lt hb (i := i))
      have hst := addStep (x := a[i]) (y := lg b i) ho hv
      have hta := val_take_lg (l := a) (i := i)
      have htb := val_take_lg (l := b) (i := i)
      rw [lg_in hia] at hta
      rw [← hta, ← htb] at hst
      have hlen : (o ++ [(c + a[i] + lg b i) % LB]).length = i + 1 := by simp [ho]
      have hlim : Lim (o ++ [(c + a[i] + lg b i) % LB]) := hlo.append (.one (Nat.mod_lt _ LB_pos))
      by_cases hib : (i : Int) < b.length
      · have hib' : i < b.length := by omega
        rw [lg_in hib'] at hst k1 k2 hlen hlim
        simp only [SA, setCells, Int.reduceLE, Int.reduceLT, ↓reduceIte, reduceCtorEq, Nat.reduceLT, Nat.reduceEqDiff, Nat.reduceAdd, Nat.reduceMul, Nat.reduceLeDiff, Nat.reduceBEq, lm_len, hin, hib, lm_get hia, lm_get hib', w64l (ha.get hia), w64l (hb.get hib'), w64s k3, w64s k2, w32, sh32, Int.natCast_nonneg, Int.toNat_natCast, hil, hget, lm_set, hset, IntWalk.i64_in ((i : Int) + 1) (by omega)]
        rw [hfold]
        refine ih (i + 1, o ++ [(c + a[i] + b[i]) % LB], (c + a[i] + b[i]) / LB) _ ⟨by omega, hlen, hlim, hst, k1⟩ (by simp; omega) ?_
        rfl
      · rw [lg_out (by omega), Nat.add_zero] at hst k1 k2 hlen hlim
        simp only [SA, setCells, Int.reduceLE, Int.reduceLT, ↓reduceIte, reduceCtorEq, Nat.reduceLT, Nat.reduceEqDiff, Nat.reduceAdd, Nat.reduceMul, Nat.reduceLeDiff, Nat.reduceBEq, lm_len, hin, hib, lm_get hia, w64l (ha.get hia), w64s k3, w32, sh32, Int.natCast_nonneg, Int.toNat_natCast, hil, hget, lm_set, hset, IntWalk.i64_in ((i : Int) + 1) (by omega)]
        rw [hfold]
        refine ih (i + 1, o ++ [(c + a[i]) % LB], (c + a[i]) / LB) _ ⟨by omega, hlen, hlim, hst, k1⟩ (by simp; omega) ?_
        rfl
    · have hia : i = a.length := by omega
      have hil : a.length < a.length + 1 := Nat.lt_succ_self _
      subst hia
      have hcl : c % LB = c := Nat.mod_eq_of_lt (by unfold LB; omega)
      have hfin : o ++ c :: List.replicate (a.length - a.length) 0 = o ++ [c] := by simp
      have hval : val (o ++ [c]) = val a + val b := by
        rw [val_append, val_one, ho, hv, List.take_length, List.take_of_length_le hle]
      have hlim : Lim (o ++ [c]) := hlo.append (.one (by unfold LB; omega))
      have htr := p144 hlim (by simp; omega)
      rw [hval] at htr
      simp only [SA, setCells, Int.reduceLE, Int.reduceLT, ↓reduceIte, reduceCtorEq, Nat.reduceLT, Nat.reduceEqDiff, Nat.reduceAdd, Nat.reduceMul, Nat.reduceLeDiff, Nat.reduceBEq, lm_len, hin, w32, hcl, Int.natCast_nonneg, Int.toNat_natCast, hil, hget, lm_set, hset]
      rw [hfin, kf_own htr rfl (by rw [lm_len]; simp; omega)]
      simp only [SA, setCells, Int.reduceLE, Int.reduceLT, ↓reduceIte, reduceCtorEq, Nat.reduceLT, Nat.reduceEqDiff, Nat.reduceAdd, Nat.reduceMul, Nat.reduceLeDiff, Nat.reduceBEq]
      rfl
theorem p176 {a b : List Nat} (ha : Lim a) (hb : Lim b) (hna : a.length ≤ 1099511627775) (hnb : b.length ≤ 1099511627775) : Pu rp 136 [.sl (lm a), .sl (lm b)] (.p (.sl (lm (dgl (val a + val b))))) := by
  rcases Nat.lt_or_ge a.length b.length with h | h
  · rw [Nat.add_comm]; exact p176a hb ha (Nat.le_of_lt h) hnb (.inr ⟨rfl, rfl, h⟩)
  · exact p176a ha hb h hna (.inl ⟨rfl, rfl⟩)
end Go.Proofs.YtdieenbfdeaffaaGreat.VBn

namespace Go.Proofs.YtdieenbfdeaffaaGreat.VBn
open Go Vpi
set_option maxRecDepth 100000
set_option linter.unusedSimpArgs false
set_option linter.unusedVariables false
theorem p63 : ((2 : Int) ^ min (Int.toNat 63) IntKind.u64.bits) = 9223372036854775808 := by decide
theorem subStep {x y w : Nat} (hx : x < LB) (hy : y < LB) (hw : w ≤ 1) : ∃ r w' : Nat, r < LB ∧ w' ≤ 1 ∧ r + y + w = x + w' * LB ∧
    IntKind.u32.wrap (IntKind.u64.wrap (IntKind.u64.wrap ((x : Int) - (w : Int)) - (y : Int))) = (r : Int) ∧ (IntKind.u64.wrap (IntKind.u64.wrap ((x : Int) - (w : Int)) - (y : Int))).fdiv (2 ^ min (Int.toNat 63) IntKind.u64.bits) = (w' : Int) := by
  rw [p63, IntKind.wrap_u64, IntKind.wrap_u64, IntKind.wrap_u32, Int.fdiv_eq_ediv_of_nonneg _ (by decide)]
  unfold LB at *
  by_cases h : w + y ≤ x
  · exact ⟨x - w - y, 0, by omega, by omega, by omega, by omega, by omega⟩
  · exact ⟨x + 4294967296 - w - y, 1, by omega, by omega, by omega, by omega, by omega⟩
theorem subStep0 {x w : Nat} (hx : x < LB) (hw : w ≤ 1) : ∃ r w' : Nat, r < LB ∧ w' ≤ 1 ∧ r + 0 + w = x + w' * LB ∧
    IntKind.u32.wrap (IntKind.u64.wrap ((x : Int) - (w : Int))) = (r : Int) ∧ (IntKind.u64.wrap ((x : Int) - (w : Int))).fdiv (2 ^ min (Int.toNat 63) IntKind.u64.bits) = (w' : Int) := by
  rw [p63, IntKind.wrap_u64, IntKind.wrap_u32, Int.fdiv_eq_ediv_of_nonneg _ (by decide)]
  unfold LB at *
  by_cases h : w ≤ x
  · exact ⟨x - w, 0, by omega, by omega, by omega, by omega, by omega⟩
  · exact ⟨x + 4294967296 - w, 1, by omega, by omega, by omega, by omega, by omega⟩
theorem subNext {o : List Nat} {A B w w' r x y i : Nat} (ho : o.length = i) (h : val o + B = A + LB ^ i * w) (hr : r + y + w = x + w' * LB) : val (o ++ [r]) + (B + LB ^ i * y) = A + LB ^ i * x + LB ^ (i + 1) * w' := by
  rw [val_append, ho, val_one, Nat.pow_succ]
  have h2 : LB ^ i * (r + y + w) = LB ^ i * (x + w' * LB) := by rw [hr]
  simp only [Nat.mul_add] at h2
  rw [Nat.mul_comm w' LB, ← Nat.mul_assoc] at h2
  omega
theorem p201 {a b : List Nat} (ha : Lim a) (hb : Lim b) (hle : b.length ≤ a.length) (hab : val b ≤ val a) (hna : a.length ≤ 1099511627775) :
    Pu rp 161 [.sl (lm a), .sl (lm b)] (.p (.sl (lm (dgl (val a - val b))))) := by
  refine pu_of rp201 ?_
  have m1 : ((4 : Nat) : Int) * (a.length : Int) ≤ 281474976710656 := by omega
  have m2 : (a.length : Int) ≤ 9223372036854775807 := by omega
  simp only [f161, args0, SA, setCells, Int.reduceLE, Int.reduceLT, ↓reduceIte, reduceCtorEq, Nat.reduceLT, Nat.reduceEqDiff, Nat.reduceAdd, Nat.reduceMul, Nat.reduceLeDiff, Nat.reduceBEq, lm_len, m1, m2, Int.natCast_nonneg, Int.toNat_natCast, Int.le_refl, lm_rep]
  refine loop_rule (β := Nat × List Nat × Nat) (fun t => ([(0, .p (.sl (lm a))), (1, .p (.sl (lm b))), (5, .own 0 0 a.length), (6, .p (.int .u64 (t.2.2 : Int))), (13, i64 a.length), (14, i64 t.1)], [.prow 1 (lm (t.2.1 ++ List.replicate (a.length - t.1) 0))]))
    (fun t => t.1 ≤ a.length ∧ t.2.1.length = t.1 ∧ Lim t.2.1 ∧ val t.2.1 + val (b.take t.1) = val (a.take t.1) + LB ^ t.1 * t.2.2 ∧ t.2.2 ≤ 1) (fun t => a.length - t.1) ((0, [], 0) : Nat × List Nat × Nat) rfl rfl ⟨Nat.zero_le _, rfl, (fun _ hx => nomatch hx), rfl, Nat.zero_le _⟩ ?_
  rintro ⟨i, o, w⟩ ⟨hi, ho, hlo, hv, hw⟩ ih
  simp only [] at hi ho hlo hv hw ih ⊢
  by_cases hin : (i : Int) < a.length
  · have hia : i < a.length := by omega
    have hget : (lm (o ++ List.replicate (a.length - i) 0))[i]? = some (.int .u32 0) := by
      have : (o ++ List.replicate (a.length - i) 0)[i]? = some 0 := by rw [show a.length - i = (a.length - i - 1) + 1 by omega, List.getElem?_append_right (by omega), ho, Nat.sub_self]; rfl
      exact lm_get? this
    have hset : ∀ v, (o ++ List.replicate (a.length - i) 0).set i v = o ++ v :: List.replicate (a.length - (i + 1)) 0 := by
      intro v
      rw [show a.length - i = (a.length - (i + 1)) + 1 by omega, ← ho, set_next, List.append_assoc]
      rfl
    have hfold : ∀ v, o ++ v :: List.replicate (a.length - (i + 1)) 0 = (o ++ [v]) ++ List.replicate (a.length - (i + 1)) 0 := by
      intro v
      rw [List.append_assoc]
      rfl
    have hta := val_take_lg (l := a) (i := i)
    have htb := val_take_lg (l := b) (i := i)
    rw [lg_in hia] at hta
    by_cases hib : (i : Int) < b.length
    · have hib' : i < b.length := by omega
      rw [lg_in hib'] at htb
      obtain ⟨r, w', hr, hw', hrel, e32, e63⟩ := subStep (ha.get hia) (hb.get hib') hw
      have hst := subNext ho hv hrel
      rw [← hta, ← htb] at hst
      simp only [SA, setCells, Int.reduceLE, Int.reduceLT, ↓reduceIte, reduceCtorEq, Nat.reduceLT, Nat.reduceEqDiff, Nat.reduceAdd, Nat.reduceMul, Nat.reduceLeDiff, Nat.reduceBEq, lm_len, hin, hib, lm_get hia, lm_get hib', w64l (ha.get hia), w64l (hb.get hib'), e32, e63, Int.natCast_nonneg, Int.toNat_natCast, hia, hget, lm_set, hset, IntWalk.i64_in ((i : Int) + 1) (by omega)]
      rw [hfold]
      refine ih (i + 1, o ++ [r], w') _ ⟨by omega, by simp [ho], hlo.append (.one hr), hst, hw'⟩ (by simp; omega) ?_
      rfl
    · rw [lg_out (by omega)] at htb
      obtain ⟨r, w', hr, hw', hrel, e32, e63⟩ := subStep0 (ha.get hia) hw
      have hst := subNext ho hv hrel
      rw [← hta, ← htb] at hst
      simp only [SA, setCells, Int.reduceLE, Int.reduceLT, ↓reduceIte, reduceCtorEq, Nat.reduceLT, Nat.reduceEqDiff, Nat.reduceAdd, Nat.reduceMul, Nat.reduceLeDiff, Nat.reduceBEq, lm_len, hin, hib, lm_get hia, w64l (ha.get hia), e32, e63, Int.natCast_nonneg, Int.toNat_natCast, hia, hget, lm_set, hset, IntWalk.i64_in ((i : Int) + 1) (by omega)]
      rw [hfold]
      refine ih (i + 1, o ++ [r], w') _ ⟨by omega, by simp [ho], hlo.append (.one hr), hst, hw'⟩ (by simp; omega) ?_
      rfl
  · have hia : i = a.length := by omega
    subst hia
    have hval : val o = val a - val b := by
      rw [List.take_length, List.take_of_length_le hle] at hv
      have h1 := val_lt hlo
      rw [ho] at h1
      rcases Nat.lt_or_ge w 1 with h2 | h2
      · obtain rfl : w = 0 := by omega
        rw [Nat.mul_zero] at hv
        omega
      · obtain rfl : w = 1 := by omega
        rw [Nat.mul_one] at hv
        omega
    have htr := p144 hlo (by omega)
    rw [hval] at htr
    have hfin : o ++ List.replicate (a.length - a.length) 0 = o := by simp
    rw [hfin]
    simp only [SA, setCells, Int.reduceLE, Int.reduceLT, ↓reduceIte, reduceCtorEq, Nat.reduceLT, Nat.reduceEqDiff, Nat.reduceAdd, Nat.reduceMul, Nat.reduceLeDiff, Nat.reduceBEq, lm_len, hin]
    rw [kf_own htr rfl (by rw [lm_len, ho])]
    simp only [SA, setCells, Int.reduceLE, Int.reduceLT, ↓reduceIte, reduceCtorEq, Nat.reduceLT, Nat.reduceEqDiff, Nat.reduceAdd, Nat.reduceMul, Nat.reduceLeDiff, Nat.reduceBEq]
    rfl
theorem p178 {a b : List Nat} (ha : Lim a) (hb : Lim b) (hna : a.length ≤ 1099511627775) (hnb : b.length ≤ 1099511627775) (hab : val b ≤ val a) :
    Pu rp 138 [.sl (lm a), .sl (lm b)] (.tup [.p (.sl (lm (dgl (val a - val b)))), .p (.int .i64 0)]) := by
  refine pu_of rp178 ?_
  have hc : ¬ cmpI (val a) (val b) < 0 := by unfold cmpI; rw [if_neg (by omega)]; split <;> decide
  have hl : (dgl (val b)).length ≤ (dgl (val a)).length := by
    rcases Nat.lt_or_ge (dgl (val a)).length (dgl (val b)).length with h | h
    · have := dgl_lt_len h; omega
    · exact h
  have hda : (dgl (val a)).length ≤ a.length := dgl_len (val_lt ha)
  have h201 := p201 (dgl_lim (val a)) (dgl_lim (val b)) hl (by rw [val_dgl, val_dgl]; exact hab) (by omega)
  rw [val_dgl, val_dgl] at h201
  simp only [f138, args0, SA, setCells, Int.reduceLE, Int.reduceLT, ↓reduceIte, reduceCtorEq, Nat.reduceLT, Nat.reduceEqDiff, Nat.reduceAdd, Nat.reduceMul, Nat.reduceLeDiff, Nat.reduceBEq, kp2 (p177 ha hb (by omega) (by omega)), hc, kp1 (p144 ha (by omega)), kp1 (p144 hb (by omega)), kp2 h201]
  exact back_t2 back1_p back1_p
end Go.Proofs.YtdieenbfdeaffaaGreat.VBn

namespace Go.Proofs.YtdieenbfdeaffaaGreat.VBn
open Go Vpi
set_option maxRecDepth 100000
set_option linter.unusedSimpArgs false
set_option linter.unusedVariables false
theorem rp111 : rp 135 = some f135 := rfl
theorem rp147 : rp 113 = some f113 := rfl
theorem val_set : ∀ {O : List Nat} {k x : Nat} (h : k < O.length), val (O.set k x) + LB ^ k * O[k] = val O + LB ^ k * x
  | [], k, x, h => by cases h
  | y :: O, 0, x, h => by simp [val]; omega
  | y :: O, k + 1, x, h => by
    have hk : k < O.length := by simpa using h
    have ih := val_set (O := O) (k := k) (x := x) hk
    simp only [List.set_cons_succ, val, List.getElem_cons_succ, Nat.pow_succ]
    have h2 : LB * (val (O.set k x) + LB ^ k * O[k]) = LB * (val O + LB ^ k * x) := by rw [ih]
    simp only [Nat.mul_add, ← Nat.mul_assoc] at h2
    rw [Nat.mul_comm LB (LB ^ k)] at h2
    omega
theorem lim_set {O : List Nat} (h : Lim O) {k x : Nat} (hx : x < LB) : Lim (O.set k x) := fun y hy => by
  rcases List.mem_or_eq_of_mem_set hy with h1 | rfl
  · exact h y h1
  · exact hx
theorem mulStep {O : List Nat} {X Y i j c x y : Nat} (hk : i + j < O.length) (h : val O + LB ^ (i + j) * c = X + LB ^ i * (x * Y)) :
    val (O.set (i + j) ((c + (x * y + O[i + j])) % LB)) + LB ^ (i + j + 1) * ((c + (x * y + O[i + j])) / LB) = X + LB ^ i * (x * (Y + LB ^ j * y)) := by
  have h1 := val_set (x := (c + (x * y + O[i + j])) % LB) hk
  have h2 := Nat.mod_add_div (c + (x * y + O[i + j])) LB
  have h3 : LB ^ (i + j) * ((c + (x * y + O[i + j])) % LB) + LB ^ (i + j + 1) * ((c + (x * y + O[i + j])) / LB) = LB ^ (i + j) * c + LB ^ (i + j) * (x * y) + LB ^ (i + j) * O[i + j] := by
    rw [Nat.pow_succ, Nat.mul_assoc (LB ^ (i + j)) LB, ← Nat.mul_add, h2, Nat.mul_add, Nat.mul_add, Nat.add_assoc]
  have h4 : LB ^ i * (x * (Y + LB ^ j * y)) = LB ^ i * (x * Y) + LB ^ (i + j) * (x * y) := by
    rw [Nat.mul_add, Nat.mul_add, Nat.pow_add, Nat.mul_left_comm x, Nat.mul_assoc]
  rw [h4]
  omega
theorem mulBound {c x y o : Nat} (hc : c < LB) (hx : x < LB) (hy : y < LB) (ho : o < LB) : x * y + o < 18446744073709551616 ∧ x * y < 18446744073709551616 ∧ c + (x * y + o) < 18446744073709551616 ∧ (c + (x * y + o)) / LB < LB := by
  have h : x * y ≤ (LB - 1) * (LB - 1) := Nat.mul_le_mul (by omega) (by omega)
  have h2 : (LB - 1) * (LB - 1) = 18446744065119617025 := by decide
  rw [h2] at h
  have h3 : c + (x * y + o) < 18446744073709551616 := by unfold LB at *; omega
  refine ⟨by unfold LB at *; omega, by omega, h3, ?_⟩
  unfold LB at *
  omega
structure MulI (x y : List Nat) (i : Nat) (O : List Nat) : Prop where
  len : O.length = x.length + y.length
  lim : Lim O
  v : val O = val (x.take i) * val y
  tail : ∀ k, i + y.length ≤ k → k < O.length → O[k]? = some 0
structure MulJ (x y : List Nat) (i j : Nat) (O : List Nat) (c : Nat) : Prop where
  len : O.length = x.length + y.length
  lim : Lim O
  cl : c < LB
  v : val O + LB ^ (i + j) * c = val (x.take i) * val y + LB ^ i * (lg x i * val (y.take j))
  tail : ∀ k, i + y.length ≤ k → k < O.length → O[k]? = some 0
theorem MulI.start {x y : List Nat} : MulI x y 0 (List.replicate (x.length + y.length) 0) where
  len := by simp
  lim := .rep
  v := by rw [val_rep, List.take_zero]; simp [val]
  tail := fun k _ h => by rw [List.length_replicate] at h; simp [h]
theorem MulI.row {x y O : List Nat} {i : Nat} (h : MulI x y i O) : MulJ x y i 0 O 0 where
  len := h.len
  lim := h.lim
  cl := LB_pos
  v := by rw [h.v, List.take_zero]; simp [val]
  tail := h.tail
theorem MulJ.step {x y O : List Nat} {i j c : Nat} (hx : Lim x) (hy : Lim y) (h : MulJ x y i j O c) (hi : i < x.length) (hj : j < y.length) (hk : i + j < O.length) :
    MulJ x y i (j + 1) (O.set (i + j) ((c + (x[i] * y[j] + O[i + j])) % LB)) ((c + (x[i] * y[j] + O[i + j])) / LB) where
  len := by rw [List.length_set]; exact h.len
  lim := lim_set h.lim (Nat.mod_lt _ LB_pos)
  cl := (mulBound h.cl (hx.get hi) (hy.get hj) (h.lim.get hk)).2.2.2
  v := by
    have hv := h.v
    rw [lg_in hi] at hv ⊢
    rw [val_take_succ hj]
    exact mulStep hk hv
  tail := fun k h1 h2 => by
    rw [List.length_set] at h2
    rw [List.getElem?_set_ne (by omega)]
    exact h.tail k h1 h2
theorem MulJ.done {x y O : List Nat} {i c : Nat} (h : MulJ x y i y.length O c) (hi : i < x.length) : MulI x y (i + 1) (O.set (i + y.length) c) where
  len := by rw [List.length_set]; exact h.len
  lim := lim_set h.lim h.cl
  v := by
    have hk : i + y.length < O.length := by rw [h.len]; omega
    have h0 := h.tail (i + y.length) (Nat.le_refl _) hk
    rw [List.getElem?_eq_getElem hk, Option.some.injEq] at h0
    have h1 := val_set (x := c) hk
    rw [h0, Nat.mul_zero, Nat.add_zero, h.v, List.take_length] at h1
    rw [h1, val_take_lg, Nat.add_mul, Nat.mul_assoc]
  tail := fun k h1 h2 => by
    rw [List.length_set] at h2
    rw [List.getElem?_set_ne (by omega)]
    exact h.tail k (by omega) h2
theorem p111 {a b : List Nat} (ha : Lim a) (hb : Lim b) (hna : a.length ≤ 500000000000) (hnb : b.length ≤ 500000000000) : Pu rp 135 [.sl (lm a), .sl (lm b)] (.p (.sl (lm (dgl (val a * val b))))) := by
  refine pu_of rp111 ?_
  obtain ⟨x, hxd⟩ : ∃ x, x = dgl (val a) := ⟨_, rfl⟩
  obtain ⟨y, hyd⟩ : ∃ y, y = dgl (val b) := ⟨_, rfl⟩
  have k1 : Pu rp 152 [.sl (lm a)] (.p (.sl (lm x))) := by rw [hxd]; exact p144 ha (by omega)
  have k2 : Pu rp 152 [.sl (lm b)] (.p (.sl (lm y))) := by rw [hyd]; exact p144 hb (by omega)
  have hx : Lim x := by rw [hxd]; exact dgl_lim _
  have hy : Lim y := by rw [hyd]; exact dgl_lim _
  have hlx : x.length ≤ 500000000000 := by rw [hxd]; exact Nat.le_trans (dgl_len (val_lt ha)) hna
  have hly : y.length ≤ 500000000000 := by rw [hyd]; exact Nat.le_trans (dgl_len (val_lt hb)) hnb
  have hva : val a = val x := by rw [hxd, val_dgl]
  have hvb : val b = val y := by rw [hyd, val_dgl]
  rw [hva, hvb]
  clear hxd hyd hva hvb
  have w1 : IntKind.i64.wrap ((x.length : Int) + y.length) = ((x.length + y.length : Nat) : Int) := by rw [IntWalk.i64_in _ (by omega)]; omega
  have m1 : ((4 : Nat) : Int) * ((x.length + y.length : Nat) : Int) ≤ 281474976710656 := by omega
  have m2 : ((x.length + y.length : Nat) : Int) ≤ 9223372036854775807 := by omega
  simp only [f135, args0, SA, setCells, Int.reduceLE, Int.reduceLT, ↓reduceIte, reduceCtorEq, Nat.reduceLT, Nat.reduceEqDiff, Nat.reduceAdd, Nat.reduceMul, Nat.reduceLeDiff, Nat.reduceBEq, kp1 k1, kp1 k2, lm_len, w1, m1, m2, Int.natCast_nonneg, Int.toNat_natCast, Int.le_refl, lm_rep]
  refine loop_rule (β := Nat × List Nat) (fun t => ([(0, .p (.sl (lm x))), (1, .p (.sl (lm y))), (5, .own 0 0 (x.length + y.length)), (20, i64 x.length), (21, i64 t.1)], [.prow 1 (lm t.2)]))
    (fun t => t.1 ≤ x.length ∧ MulI x y t.1 t.2) (fun t => x.length - t.1) ((0, List.replicate (x.length + y.length) 0) : Nat × List Nat) rfl rfl ⟨Nat.zero_le _, .start⟩ ?_
  rintro ⟨i, O⟩ ⟨hi, hM⟩ ih
  simp only [] at hi hM ih ⊢
  by_cases hin : (i : Int) < x.length
  · have hix : i < x.length := by omega
    simp only [SA, setCells, Int.reduceLE, Int.reduceLT, ↓reduceIte, reduceCtorEq, Nat.reduceLT, Nat.reduceEqDiff, Nat.reduceAdd, Nat.reduceMul, Nat.reduceLeDiff, Nat.reduceBEq, hin, lm_len]
    refine loop_rule (β := Nat × List Nat × Nat) (fun t => ([(0, .p (.sl (lm x))), (1, .p (.sl (lm y))), (5, .own 0 0 (x.length + y.length)), (6, i64 i), (7, .p (.int .u64 (t.2.2 : Int))), (20, i64 x.length), (21, i64 i), (25, i64 y.length), (26, i64 t.1)], [.prow 1 (lm t.2.1)]))
      (fun t => t.1 ≤ y.length ∧ MulJ x y i t.1 t.2.1 t.2.2) (fun t => y.length - t.1) ((0, O, 0) : Nat × List Nat × Nat) rfl rfl ⟨Nat.zero_le _, hM.row⟩ ?_
    rintro ⟨j, P, c⟩ ⟨hj, hJ⟩ ih2
    simp only [] at hj hJ ih2 ⊢
    by_cases hjn : (j : Int) < y.length
    · have hjy : j < y.length := by omega
      have hkl : i + j < x.length + y.length := by omega
      have hk : i + j < P.length := by rw [hJ.len]; exact hkl
      obtain ⟨b1, b2, b3, b4⟩ := mulBound hJ.cl (hx.get hix) (hy.get hjy) (hJ.lim.get hk)
      have hJ' := hJ.step hx hy hix hjy hk
      have w2 : IntKind.i64.wrap ((i : Int) + j) = ((i + j : Nat) : Int) := by rw [IntWalk.i64_in _ (by omega)]; omega
      simp only [SA, setCells, Int.reduceLE, Int.reduceLT, ↓reduceIte, reduceCtorEq, Nat.reduceLT, Nat.reduceEqDiff, Nat.reduceAdd, Nat.reduceMul, Nat.reduceLeDiff, Nat.reduceBEq, lm_len, hjn, lm_get hix, lm_get hjy, lm_get hk, w64l (hx.get hix), w64l (hy.get hjy), w64l (hJ.lim.get hk), w64m b2, w64s b1, w64s b3, w2, w32, sh32, Int.natCast_nonneg, Int.toNat_natCast, hkl, lm_set, IntWalk.i64_in ((j : Int) + 1) (by omega)]
      refine ih2 (j + 1, P.set (i + j) ((c + (x[i] * y[j] + P[i + j])) % LB), (c + (x[i] * y[j] + P[i + j])) / LB) _ ⟨by omega, hJ'⟩ (by simp; omega) ?_
      rfl
    · obtain rfl : j = y.length := by omega
      have hkl : i + y.length < x.length + y.length := by omega
      have hk : i + y.length < P.length := by rw [hJ.len]; exact hkl
      have w2 : IntKind.i64.wrap ((i : Int) + y.length) = ((i + y.length : Nat) : Int) := by rw [IntWalk.i64_in _ (by omega)]; omega
      have hcl : c % LB = c := Nat.mod_eq_of_lt hJ.cl
      simp only [SA, setCells, Int.reduceLE, Int.reduceLT, ↓reduceIte, reduceCtorEq, Nat.reduceLT, Nat.reduceEqDiff, Nat.reduceAdd, Nat.reduceMul, Nat.reduceLeDiff, Nat.reduceBEq, lm_len, hjn, w2, w32, hcl, lm_get hk, Int.natCast_nonneg, Int.toNat_natCast, hkl, lm_set, IntWalk.i64_in ((i : Int) + 1) (by omega)]
      refine ih (i + 1, P.set (i + y.length) c) _ ⟨by omega, hJ.done hix⟩ (by simp; omega) ?_
      rfl
  · obtain rfl : i = x.length := by omega
    have htr := p144 hM.lim (by rw [hM.len]; omega)
    rw [hM.v, List.take_length] at htr
    simp only [SA, setCells, Int.reduceLE, Int.reduceLT, ↓reduceIte, reduceCtorEq, Nat.reduceLT, Nat.reduceEqDiff, Nat.reduceAdd, Nat.reduceMul, Nat.reduceLeDiff, Nat.reduceBEq, lm_len, hin]
    rw [kf_own htr rfl (by rw [lm_len, hM.len])]
    simp only [SA, setCells, Int.reduceLE, Int.reduceLT, ↓reduceIte, reduceCtorEq, Nat.reduceLT, Nat.reduceEqDiff, Nat.reduceAdd, Nat.reduceMul, Nat.reduceLeDiff, Nat.reduceBEq]
    rfl
end Go.Proofs.YtdieenbfdeaffaaGreat.VBn

namespace Go.Proofs.YtdieenbfdeaffaaGreat.VBn
open Go Vpi
set_option maxRecDepth 100000
set_option linter.unusedSimpArgs false
set_option linter.unusedVariables false
theorem rp148 : rp 153 = some f153 := rfl
theorem rp185 : rp 157 = some f157 := rfl
theorem rp184 : rp 156 = some f156 := rfl
theorem rp186 : rp 158 = some f158 := rfl
theorem rp188 : rp 160 = some f160 := rfl
theorem rp119 : rp 131 = some f131 := rfl
def bl (x : Nat) : Nat := if x = 0 then 0 else Nat.log2 x + 1
theorem bl_zero : bl 0 = 0 := rfl
theorem bl_eq {x L : Nat} (h0 : x ≠ 0) (h1 : 2 ^ (L - 1) ≤ x) (h2 : x < 2 ^ L) : bl x = L := by
  unfold bl
  rw [if_neg h0]
  have a := (Nat.log2_lt h0).2 h2
  have b := (Nat.le_log2 h0).2 h1
  omega
theorem bl_spec {x : Nat} (h0 : x ≠ 0) : 2 ^ (bl x - 1) ≤ x ∧ x < 2 ^ bl x ∧ 1 ≤ bl x := by
  unfold bl
  rw [if_neg h0]
  exact ⟨(Nat.le_log2 h0).1 (Nat.le_refl _), (Nat.log2_lt h0).1 (Nat.lt_succ_self _), by omega⟩
def btab : List Nat := [0, 1, 2, 2, 3, 3, 3, 3, 4, 4, 4, 4, 4, 4, 4, 4, 5, 5, 5, 5, 5, 5, 5, 5, 5, 5, 5, 5, 5, 5, 5, 5, 6, 6, 6, 6, 6, 6, 6, 6, 6, 6, 6, 6, 6, 6, 6, 6, 6, 6, 6, 6, 6, 6, 6, 6, 6, 6, 6, 6, 6, 6, 6, 6, 7, 7, 7, 7, 7, 7, 7, 7, 7, 7, 7, 7, 7, 7, 7, 7, 7, 7, 7, 7, 7, 7, 7, 7, 7, 7, 7, 7, 7, 7, 7, 7, 7, 7, 7, 7, 7, 7, 7, 7, 7, 7, 7, 7, 7, 7, 7, 7, 7, 7, 7, 7, 7, 7, 7, 7, 7, 7, 7, 7, 7, 7, 7, 7, 8, 8, 8, 8, 8, 8, 8, 8, 8, 8, 8, 8, 8, 8, 8, 8, 8, 8, 8, 8, 8, 8, 8, 8, 8, 8, 8, 8, 8, 8, 8, 8, 8, 8, 8, 8, 8, 8, 8, 8, 8, 8, 8, 8, 8, 8, 8, 8, 8, 8, 8, 8, 8, 8, 8, 8, 8, 8, 8, 8, 8, 8, 8, 8, 8, 8, 8, 8, 8, 8, 8, 8, 8, 8, 8, 8, 8, 8, 8, 8, 8, 8, 8, 8, 8, 8, 8, 8, 8, 8, 8, 8, 8, 8, 8, 8, 8, 8, 8, 8, 8, 8, 8, 8, 8, 8, 8, 8, 8, 8, 8, 8, 8, 8, 8, 8, 8, 8, 8, 8, 8, 8, 8, 8, 8, 8, 8, 8]
theorem tab_all : ((List.range 256).all fun x => match btab[x]? with | some t => decide (x < 2 ^ t) && (x == 0 || (decide (2 ^ (t - 1) ≤ x) && decide (1 ≤ t))) && decide (t ≤ 8) && (x != 0 || t == 0) | none => false) = true := by decide +kernel
theorem tab_get {x : Nat} (h : x < 256) : btab[x]? = some (bl x) ∧ bl x ≤ 8 := by
  have h1 := List.all_eq_true.1 tab_all x (List.mem_range.2 h)
  split at h1
  · rename_i t ht
    simp only [Bool.and_eq_true, decide_eq_true_eq, Bool.or_eq_true, beq_iff_eq, bne_iff_ne] at h1
    obtain ⟨⟨⟨h2, h3⟩, h4⟩, h5⟩ := h1
    have : bl x = t := by
      by_cases hx : x = 0
      · subst hx
        rcases h5 with h5 | h5
        · exact absurd rfl h5
        · rw [bl_zero, h5]
      · rcases h3 with h3 | h3
        · exact absurd h3 hx
        · exact bl_eq hx h3.1 h2
    rw [this]
    exact ⟨ht, h4⟩
  · cases h1
theorem r_idx_of {rs : List RRes} {base : Nat} {sl d : Option Nat} {l : List LOp} {dr : Dr} {ks : List KI} {e : Env} {σ : Store} {Q : CV → Store → Prop} {tb : List Nat} {x : Opd} {i t : Nat} (hi : vl e x = .p (.int .u8 (i : Int))) (ht : tb[i]? = some t) :
    ExR rp rs base (⟨d, none, sl, .idx tb x⟩ :: l) dr ks e σ Q = ExR rp rs base l dr ks (sto d (.p (.int .u8 (t : Int))) e) σ Q := by
  rw [r_idx]
  simp only [ev, hi, num_int, Int.natCast_nonneg, if_true, Int.toNat_natCast, ht, ke_some]
theorem bl_shift {x k : Nat} (h : x / 2 ^ k ≠ 0) : bl x = k + bl (x / 2 ^ k) := by
  obtain ⟨h1, h2, h3⟩ := bl_spec h
  have hx : x ≠ 0 := by rintro rfl; simp at h
  have hp := Nat.pow_pos (n := k) (show 0 < 2 by decide)
  refine bl_eq hx ?_ ?_
  · rw [show k + bl (x / 2 ^ k) - 1 = (bl (x / 2 ^ k) - 1) + k by omega, Nat.pow_add]
    exact Nat.le_trans (Nat.mul_le_mul_right _ h1) (Nat.div_mul_le_self _ _)
  · rw [Nat.add_comm, Nat.pow_add]
    exact (Nat.div_lt_iff_lt_mul hp).1 h2
theorem p148 {x : Nat} (h : x < LB) : Pu rp 153 [.int .u32 (x : Int)] (.p (.int .i64 (bl x : Nat))) := by
  refine pu_of rp148 ?_
  have q16 : ((2 : Int) ^ min (Int.toNat 16) IntKind.u32.bits) = 65536 := by decide
  have q8 : ((2 : Int) ^ min (Int.toNat 8) IntKind.u32.bits) = 256 := by decide
  have s16 : ((x : Int).fdiv 65536) = ((x / 65536 : Nat) : Int) := by rw [Int.fdiv_eq_ediv_of_nonneg _ (by decide)]; rfl
  have fin : ∀ {y k : Nat}, y < 256 → k ≤ 24 → IntKind.u8.wrap (y : Int) = (y : Int) ∧ IntKind.i64.wrap ((bl y : Nat) : Int) = ((bl y : Nat) : Int) ∧ IntKind.i64.wrap ((k : Int) + ((bl y : Nat) : Int)) = ((k + bl y : Nat) : Int) := by
    intro y k hy hk
    have := (tab_get hy).2
    exact ⟨IntWalk.u8_in _ (by omega), IntWalk.i64_in _ (by omega), by rw [IntWalk.i64_in _ (by omega)]; omega⟩
  unfold LB at h
  by_cases h1 : (x : Int) ≥ 65536
  · have s8 : (((x / 65536 : Nat) : Int).fdiv 256) = ((x / 65536 / 256 : Nat) : Int) := by rw [Int.fdiv_eq_ediv_of_nonneg _ (by decide)]; rfl
    by_cases h2 : ((x / 65536 : Nat) : Int) ≥ 256
    · have hy : x / 65536 / 256 < 256 := by omega
      obtain ⟨f1, f2, f3⟩ := fin (k := 24) hy (by decide)
      have w8 : IntKind.i64.wrap (16 + 8) = ((24 : Nat) : Int) := by decide
      simp only [f153, args0, S1, S2, S3, S4, S5, r_mks, S6, S7, S8, setCells, Int.reduceLE, Int.reduceLT, ↓reduceIte, reduceCtorEq, Nat.reduceLT, Nat.reduceEqDiff, Nat.reduceAdd, Nat.reduceMul, Nat.reduceLeDiff, Nat.reduceBEq, h1, q16, s16, h2, q8, s8, w8, f1, Int.natCast_nonneg, Int.toNat_natCast]
      refine Eq.mpr (r_idx_of rfl (tab_get hy).1) ?_
      simp only [SA, setCells, Int.reduceLE, Int.reduceLT, ↓reduceIte, reduceCtorEq, Nat.reduceLT, Nat.reduceEqDiff, Nat.reduceAdd, Nat.reduceMul, Nat.reduceLeDiff, Nat.reduceBEq, f2, f3]
      have e : bl x = 24 + bl (x / 65536 / 256) := by
        have := bl_shift (x := x) (k := 24) (by rw [show (2 : Nat) ^ 24 = 65536 * 256 by decide, ← Nat.div_div_eq_div_mul]; omega)
        rwa [show (2 : Nat) ^ 24 = 65536 * 256 by decide, ← Nat.div_div_eq_div_mul] at this
      rw [e]
      rfl
    · have hy : x / 65536 < 256 := by omega
      obtain ⟨f1, f2, f3⟩ := fin (k := 16) hy (by decide)
      have f3' : IntKind.i64.wrap (16 + ((bl (x / 65536) : Nat) : Int)) = ((16 + bl (x / 65536) : Nat) : Int) := f3
      simp only [f153, args0, S1, S2, S3, S4, S5, r_mks, S6, S7, S8, setCells, Int.reduceLE, Int.reduceLT, ↓reduceIte, reduceCtorEq, Nat.reduceLT, Nat.reduceEqDiff, Nat.reduceAdd, Nat.reduceMul, Nat.reduceLeDiff, Nat.reduceBEq, h1, q16, s16, h2, f1, Int.natCast_nonneg, Int.toNat_natCast]
      refine Eq.mpr (r_idx_of rfl (tab_get hy).1) ?_
      simp only [SA, setCells, Int.reduceLE, Int.reduceLT, ↓reduceIte, reduceCtorEq, Nat.reduceLT, Nat.reduceEqDiff, Nat.reduceAdd, Nat.reduceMul, Nat.reduceLeDiff, Nat.reduceBEq, f2, f3']
      have e : bl x = 16 + bl (x / 65536) := bl_shift (x := x) (k := 16) (by rw [show (2 : Nat) ^ 16 = 65536 by decide]; omega)
      rw [e]
      rfl
  · have s8 : (((x : Nat) : Int).fdiv 256) = ((x / 256 : Nat) : Int) := by rw [Int.fdiv_eq_ediv_of_nonneg _ (by decide)]; rfl
    by_cases h2 : (x : Int) ≥ 256
    · have hy : x / 256 < 256 := by omega
      obtain ⟨f1, f2, f3⟩ := fin (k := 8) hy (by decide)
      have w8 : IntKind.i64.wrap (0 + 8) = ((8 : Nat) : Int) := by decide
      simp only [f153, args0, S1, S2, S3, S4, S5, r_mks, S6, S7, S8, setCells, Int.reduceLE, Int.reduceLT, ↓reduceIte, reduceCtorEq, Nat.reduceLT, Nat.reduceEqDiff, Nat.reduceAdd, Nat.reduceMul, Nat.reduceLeDiff, Nat.reduceBEq, h1, h2, q8, s8, w8, f1, Int.natCast_nonneg, Int.toNat_natCast]
      refine Eq.mpr (r_idx_of rfl (tab_get hy).1) ?_
      simp only [SA, setCells, Int.reduceLE, Int.reduceLT, ↓reduceIte, reduceCtorEq, Nat.reduceLT, Nat.reduceEqDiff, Nat.reduceAdd, Nat.reduceMul, Nat.reduceLeDiff, Nat.reduceBEq, f2, f3]
      have e : bl x = 8 + bl (x / 256) := bl_shift (x := x) (k := 8) (by rw [show (2 : Nat) ^ 8 = 256 by decide]; omega)
      rw [e]
      rfl
    · have hy : x < 256 := by omega
      obtain ⟨f1, f2, f3⟩ := fin (k := 0) hy (by decide)
      have f3' : IntKind.i64.wrap (0 + ((bl x : Nat) : Int)) = ((0 + bl x : Nat) : Int) := f3
      simp only [f153, args0, S1, S2, S3, S4, S5, r_mks, S6, S7, S8, setCells, Int.reduceLE, Int.reduceLT, ↓reduceIte, reduceCtorEq, Nat.reduceLT, Nat.reduceEqDiff, Nat.reduceAdd, Nat.reduceMul, Nat.reduceLeDiff, Nat.reduceBEq, h1, h2, f1, Int.natCast_nonneg, Int.toNat_natCast]
      refine Eq.mpr (r_idx_of rfl (tab_get hy).1) ?_
      simp only [SA, setCells, Int.reduceLE, Int.reduceLT, ↓reduceIte, reduceCtorEq, Nat.reduceLT, Nat.reduceEqDiff, Nat.reduceAdd, Nat.reduceMul, Nat.reduceLeDiff, Nat.reduceBEq, f2, f3']
      exact back_p
theorem bl_le {x : Nat} (h : x < LB) : bl x ≤ 32 := by
  by_cases h0 : x = 0
  · subst h0; decide
  · obtain ⟨h1, _, _⟩ := bl_spec h0
    rcases Nat.lt_or_ge 32 (bl x) with h2 | h2
    · have : 2 ^ 32 ≤ 2 ^ (bl x - 1) := Nat.pow_le_pow_right (by decide) (by omega)
      unfold LB at h
      omega
    · exact h2
theorem p185 {x : Nat} (h : x < LB) : Pu rp 157 [.int .u32 (x : Int)] (.p (.int .i64 ((32 - bl x : Nat) : Int))) := by
  refine pu_of rp185 ?_
  have hb := bl_le h
  have w : IntKind.i64.wrap (32 - ((bl x : Nat) : Int)) = ((32 - bl x : Nat) : Int) := by rw [IntWalk.i64_in _ (by omega)]; omega
  simp only [f157, args0, SA, setCells, Int.reduceLE, Int.reduceLT, ↓reduceIte, reduceCtorEq, Nat.reduceLT, Nat.reduceEqDiff, Nat.reduceAdd, Nat.reduceMul, Nat.reduceLeDiff, Nat.reduceBEq, kp1 (p148 h), w]
  rfl
end Go.Proofs.YtdieenbfdeaffaaGreat.VBn

namespace Go.Proofs.YtdieenbfdeaffaaGreat.VBn
open Go Vpi
set_option maxRecDepth 100000
set_option linter.unusedSimpArgs false
set_option linter.unusedVariables false
theorem or_add {a b : Nat} {i : Nat} (h : b < 2 ^ i) : a * 2 ^ i ||| b = a * 2 ^ i + b := by
  rw [← Nat.shiftLeft_eq, Nat.shiftLeft_add_eq_or_of_lt h]
theorem or64 {x y : Nat} (hy : y < LB) (h : x * LB + y < 18446744073709551616) : IntKind.u64.wrap ((BitVec.ofInt IntKind.u64.bits ((x * LB : Nat) : Int) ||| BitVec.ofInt IntKind.u64.bits ((y : Nat) : Int)).toNat : Int) = ((x * LB + y : Nat) : Int) := by
  have h1 : (BitVec.ofInt IntKind.u64.bits ((x * LB : Nat) : Int) ||| BitVec.ofInt IntKind.u64.bits ((y : Nat) : Int)).toNat = x * LB + y := by
    rw [BitVec.toNat_or, BitVec.ofInt_natCast, BitVec.ofInt_natCast, BitVec.toNat_ofNat, BitVec.toNat_ofNat]
    have hb : IntKind.u64.bits = 64 := rfl
    rw [hb, Nat.mod_eq_of_lt (by omega), Nat.mod_eq_of_lt (by omega)]
    have : LB = 2 ^ 32 := by decide
    rw [this] at hy ⊢
    exact or_add hy
  rw [h1, w64 h]
theorem shl32 {x : Nat} (h : x < LB) : IntKind.u64.wrap ((x : Int) * 2 ^ min (Int.toNat 32) IntKind.u64.bits) = ((x * LB : Nat) : Int) := by
  have h1 : ((2 : Int) ^ min (Int.toNat 32) IntKind.u64.bits) = 4294967296 := by decide
  rw [h1]
  have : (x : Int) * 4294967296 = ((x * LB : Nat) : Int) := by unfold LB; omega
  rw [this, w64 (by unfold LB at *; omega)]
theorem quo64 {x y : Nat} (hx : x < 18446744073709551616) : IntKind.u64.wrap ((x : Int).tdiv (y : Int)) = ((x / y : Nat) : Int) := by
  rw [show (x : Int).tdiv (y : Int) = ((x / y : Nat) : Int) from rfl]
  exact w64 (Nat.lt_of_le_of_lt (Nat.div_le_self _ _) hx)
theorem rem64 {x y : Nat} : (x : Int).tmod (y : Int) = ((x % y : Nat) : Int) := rfl
theorem p184 {a : List Nat} {q : Nat} (ha : Lim a) (hq : 0 < q) (hq' : q < LB) (hna : a.length ≤ 1099511627775) :
    Pu rp 156 [.sl (lm a), .int .u32 (q : Int)] (.tup [.p (.sl (lm (dgl (val a / q)))), .p (.int .u32 ((val a % q : Nat) : Int))]) := by
  refine pu_of rp184 ?_
  have m1 : ((4 : Nat) : Int) * (a.length : Int) ≤ 281474976710656 := by omega
  have m2 : (a.length : Int) ≤ 9223372036854775807 := by omega
  have w1 : IntKind.i64.wrap ((a.length : Int) - 1) = (a.length : Int) - 1 := IntWalk.i64_in _ (by omega)
  have hq0 : (q : Int) ≠ 0 := by omega
  simp only [f156, args0, SA, setCells, Int.reduceLE, Int.reduceLT, ↓reduceIte, reduceCtorEq, Nat.reduceLT, Nat.reduceEqDiff, Nat.reduceAdd, Nat.reduceMul, Nat.reduceLeDiff, Nat.reduceBEq, lm_len, m1, m2, w1, Int.natCast_nonneg, Int.toNat_natCast, Int.le_refl, lm_rep]
  refine loop_rule (β := Nat × List Nat × Nat) (fun t => ([(0, .p (.sl (lm a))), (1, .p (.int .u32 (q : Int))), (6, .own 0 0 a.length), (7, .p (.int .u64 (t.2.2 : Int))), (8, i64 ((t.1 : Int) - 1))], [.prow 1 (lm (List.replicate t.1 0 ++ t.2.1))]))
    (fun t => t.1 ≤ a.length ∧ t.2.1.length = a.length - t.1 ∧ Lim t.2.1 ∧ t.2.2 < q ∧ val (a.drop t.1) = val t.2.1 * q + t.2.2) (fun t => t.1) ((a.length, [], 0) : Nat × List Nat × Nat) rfl (by simp) ⟨Nat.le_refl _, by simp, (fun _ hx => nomatch hx), hq, by simp [val]⟩ ?_
  rintro ⟨n, o, r⟩ ⟨hn, ho, hlo, hr, hv⟩ ih
  simp only [] at hn ho hlo hr hv ih ⊢
  by_cases h0 : ((n : Int) - 1) ≥ 0
  · obtain ⟨m, rfl⟩ : ∃ m, n = m + 1 := ⟨n - 1, by omega⟩
    have hm : m < a.length := hn
    have hi : ((m + 1 : Nat) : Int) - 1 = (m : Int) := by omega
    rw [hi] at h0
    have hw : IntKind.i64.wrap ((m : Int) - 1) = (m : Int) - 1 := IntWalk.i64_in _ (by omega)
    have hrl : r < LB := Nat.lt_trans hr hq'
    have hs : r * LB + a[m] < 18446744073709551616 := by
      have := Nat.mul_le_mul_right LB (show r ≤ LB - 1 by omega)
      have h1 := ha.get hm
      rw [show (LB - 1) * LB = 18446744069414584320 by decide] at this
      unfold LB at *
      omega
    have hdl : (r * LB + a[m]) / q < LB := by
      rw [Nat.div_lt_iff_lt_mul hq]
      have h1 := ha.get hm
      have h2 := Nat.mul_le_mul_right LB (show r + 1 ≤ q from hr)
      rw [Nat.add_mul, Nat.one_mul] at h2
      rw [Nat.mul_comm LB q]
      omega
    have hrep : 0 :: (List.replicate m 0 ++ o) = List.replicate (m + 1) 0 ++ o := rfl
    have hget : (lm (0 :: (List.replicate m 0 ++ o)))[m]? = some (.int .u32 0) := by
      have : (0 :: (List.replicate m 0 ++ o))[m]? = some 0 := by rw [hrep, List.getElem?_append_left (by simp)]; simp
      exact lm_get? this
    have hset : ∀ v, (0 :: (List.replicate m 0 ++ o)).set m v = List.replicate m 0 ++ (v :: o) := by
      intro v
      rw [hrep, List.replicate_succ', List.append_assoc, List.set_append_right _ _ (by simp)]
      simp
    have hmod := Nat.mod_eq_of_lt hdl
    simp only [SA, setCells, Int.reduceLE, Int.reduceLT, ↓reduceIte, reduceCtorEq, Nat.reduceLT, Nat.reduceEqDiff, Nat.reduceAdd, Nat.reduceMul, Nat.reduceLeDiff, Nat.reduceBEq, lm_len, hi, h0, shl32 hrl, lm_get hm, w64l (ha.get hm), or64 (ha.get hm) hs, quo64 hs, rem64, w64l hq', w32, hmod, binV_quo hq0, binV_rem hq0, Int.natCast_nonneg, Int.toNat_natCast, hm, hget, lm_set, hset, hw]
    refine ih (m, (r * LB + a[m]) / q :: o, (r * LB + a[m]) % q) _ ⟨by omega, by simp [ho]; omega, ?_, Nat.mod_lt _ hq, ?_⟩ (by simp) ?_
    · intro y hy
      rcases List.mem_cons.1 hy with rfl | hy
      · exact hdl
      · exact hlo y hy
    · rw [List.drop_eq_getElem_cons hm, val, val, hv]
      have h1 := Nat.div_add_mod (r * LB + a[m]) q
      have g1 : LB * (val o * q + r) = LB * (val o * q) + LB * r := Nat.mul_add ..
      have g2 : ((r * LB + a[m]) / q + LB * val o) * q = (r * LB + a[m]) / q * q + LB * val o * q := Nat.add_mul ..
      have g3 : LB * val o * q = LB * (val o * q) := Nat.mul_assoc ..
      have g4 : (r * LB + a[m]) / q * q = q * ((r * LB + a[m]) / q) := Nat.mul_comm ..
      have g5 : r * LB = LB * r := Nat.mul_comm ..
      rw [g1, g2, g3, g4]
      show a[m] + (LB * (val o * q) + LB * r) = q * ((r * LB + a[m]) / q) + LB * (val o * q) + (r * LB + a[m]) % q
      omega
    · rfl
  · obtain rfl : n = 0 := by omega
    rw [List.drop_zero] at hv
    have hvq : val o = val a / q := by
      rw [hv, Nat.mul_comm, Nat.mul_add_div hq, Nat.div_eq_of_lt hr]; omega
    have hvr : r = val a % q := by
      rw [hv, Nat.mul_comm, Nat.mul_add_mod, Nat.mod_eq_of_lt hr]
    have htr := p144 hlo (by omega)
    rw [hvq] at htr
    have h0' : ¬ (((0 : Nat) : Int) - 1 ≥ 0) := by omega
    have hrl : r % LB = r := Nat.mod_eq_of_lt (Nat.lt_trans hr hq')
    rw [List.replicate_zero, List.nil_append]
    simp only [SA, setCells, Int.reduceLE, Int.reduceLT, ↓reduceIte, reduceCtorEq, Nat.reduceLT, Nat.reduceEqDiff, Nat.reduceAdd, Nat.reduceMul, Nat.reduceLeDiff, Nat.reduceBEq, lm_len, h0']
    rw [kf_own htr rfl (show a.length = (lm o).length by rw [lm_len, ho]; omega)]
    simp only [SA, setCells, Int.reduceLE, Int.reduceLT, ↓reduceIte, reduceCtorEq, Nat.reduceLT, Nat.reduceEqDiff, Nat.reduceAdd, Nat.reduceMul, Nat.reduceLeDiff, Nat.reduceBEq, w32, hrl]
    rw [← hvr]
    exact back_t2 back1_p back1_p
end Go.Proofs.YtdieenbfdeaffaaGreat.VBn

namespace Go.Proofs.YtdieenbfdeaffaaGreat.VBn
open Go Vpi
set_option maxRecDepth 100000
set_option linter.unusedSimpArgs false
set_option linter.unusedVariables false
theorem LB_split {n : Nat} (h : n ≤ 32) : LB = 2 ^ (32 - n) * 2 ^ n := by
  rw [← Nat.pow_add, show 32 - n + n = 32 by omega]
  decide
theorem shlv {x n : Nat} (hx : x < LB) (hn : n < 32) : IntKind.u64.wrap ((x : Int) * 2 ^ min n IntKind.u64.bits) = ((x * 2 ^ n : Nat) : Int) ∧ x * 2 ^ n < 18446744073709551616 := by
  have h1 : min n IntKind.u64.bits = n := by show min n 64 = n; omega
  have h2 : x * 2 ^ n < 18446744073709551616 := by
    have h3 : 2 ^ n ≤ 2 ^ 31 := Nat.pow_le_pow_right (by decide) (by omega)
    have h4 := Nat.mul_le_mul (show x ≤ LB - 1 by omega) h3
    have h5 : (LB - 1) * 2 ^ 31 < 18446744073709551616 := by decide
    omega
  rw [h1, show (x : Int) * 2 ^ n = ((x * 2 ^ n : Nat) : Int) by push_cast; rfl]
  exact ⟨w64 h2, h2⟩
theorem or32 {h k n : Nat} (hh : h < 2 ^ n) (hs : h + k * 2 ^ n < LB) : IntKind.u32.wrap ((BitVec.ofInt IntKind.u32.bits ((h : Nat) : Int) ||| BitVec.ofInt IntKind.u32.bits ((k * 2 ^ n : Nat) : Int)).toNat : Int) = ((h + k * 2 ^ n : Nat) : Int) := by
  have h1 : (BitVec.ofInt IntKind.u32.bits ((h : Nat) : Int) ||| BitVec.ofInt IntKind.u32.bits ((k * 2 ^ n : Nat) : Int)).toNat = h + k * 2 ^ n := by
    rw [BitVec.toNat_or, BitVec.ofInt_natCast, BitVec.ofInt_natCast, BitVec.toNat_ofNat, BitVec.toNat_ofNat]
    have hb : 2 ^ IntKind.u32.bits = LB := by decide
    rw [hb, Nat.mod_eq_of_lt (by omega), Nat.mod_eq_of_lt (by omega), Nat.or_comm, or_add hh, Nat.add_comm]
  rw [h1, w32, Nat.mod_eq_of_lt hs]
theorem shl_parts {x n : Nat} (hx : x < LB) (hn : n < 32) : ∃ k, x * 2 ^ n % LB = k * 2 ^ n ∧ k < 2 ^ (32 - n) ∧ x * 2 ^ n / LB < 2 ^ n := by
  have hs := LB_split (n := n) (by omega)
  refine ⟨x % 2 ^ (32 - n), ?_, Nat.mod_lt _ (Nat.pow_pos (by decide)), ?_⟩
  · rw [hs, Nat.mul_mod_mul_right]
  · rw [Nat.div_lt_iff_lt_mul LB_pos, Nat.mul_comm]
    exact Nat.mul_lt_mul_of_pos_left hx (Nat.pow_pos (by decide))
theorem n144 {σ : Store} {b : Nat} {l : List Nat} (hb : σ[b]? = some (.prow 1 (lm l))) (hl : Lim l) (hn : l.length ≤ 1099511627776) {Q : CV → Store → Prop}
    (hq : ∀ k, k ≤ l.length → l.take k = dgl (val l) → Q (.own b 0 k) σ) : Rn rp 152 [.own b 0 l.length] σ Q := by
  rw [rn_of rp144]
  simp only [f152, args0, SA, setCells, Int.reduceLE, Int.reduceLT, ↓reduceIte, reduceCtorEq, Nat.reduceLT, Nat.reduceEqDiff, Nat.reduceAdd, Nat.reduceMul, Nat.reduceLeDiff, Nat.reduceBEq]
  refine bloop (β := Nat) (γ := Nat) (fun n => ([(0, .own b 0 n)], σ)) (fun n => n ≤ l.length ∧ ∀ i, n ≤ i → ∀ x, l[i]? = some x → x = 0) (fun n => n)
    (fun n => ([(0, .own b 0 n)], σ)) (fun n => n ≤ l.length ∧ trimL l = l.take n) l.length rfl rfl ⟨Nat.le_refl _, fun i hi x hx => ?_⟩ ?_ ?_
  · rw [List.getElem?_eq_none hi] at hx; cases hx
  · rintro ks' n ⟨hnl, hz⟩ ih hx
    by_cases h0 : (n : Int) > 0
    · obtain ⟨m, rfl⟩ : ∃ m, n = m + 1 := ⟨n - 1, by omega⟩
      have hm : m < l.length := hnl
      have hmm : m < m + 1 := Nat.lt_succ_self _
      have hi : IntKind.i64.wrap (((m + 1 : Nat) : Int) - 1) = (m : Int) := by rw [IntWalk.i64_in _ (by omega)]; omega
      have hg := lm_get hm
      have hs : sliceV σ 1 (.own b 0 (m + 1)) 0 m = some (.own b 0 m) := by
        simp [sliceV, bsz, hb]
      by_cases hx0 : l[m] = 0
      · have e1 : (((l[m] : Nat) : Int) == 0) = true := by simp [hx0]
        simp only [SA, setCells, Int.reduceLE, Int.reduceLT, ↓reduceIte, reduceCtorEq, Nat.reduceLT, Nat.reduceEqDiff, Nat.reduceAdd, Nat.reduceMul, Nat.reduceLeDiff, Nat.reduceBEq, h0, hi, Int.natCast_nonneg, Int.toNat_natCast, hmm, hb, hg, e1, hs]
        refine ih m _ ⟨by omega, fun i hi x hx => ?_⟩ (by omega) ?_
        · rcases Nat.lt_or_ge m i with h1 | h1
          · exact hz i h1 x hx
          · obtain rfl : i = m := by omega
            rw [List.getElem?_eq_getElem hm] at hx
            cases hx
            exact hx0
        · rfl
      · have e1 : (((l[m] : Nat) : Int) == 0) = false := by simp [hx0]
        simp only [SA, setCells, Int.reduceLE, Int.reduceLT, ↓reduceIte, reduceCtorEq, Nat.reduceLT, Nat.reduceEqDiff, Nat.reduceAdd, Nat.reduceMul, Nat.reduceLeDiff, Nat.reduceBEq, h0, hi, Int.natCast_nonneg, Int.toNat_natCast, hmm, hb, hg, e1]
        refine hx (m + 1) _ ⟨hnl, trimL_take hz (.inr ⟨l[m], by simp, hx0⟩)⟩ ?_
        rfl
    · simp only [SA, setCells, Int.reduceLE, Int.reduceLT, ↓reduceIte, reduceCtorEq, Nat.reduceLT, Nat.reduceEqDiff, Nat.reduceAdd, Nat.reduceMul, Nat.reduceLeDiff, Nat.reduceBEq, h0]
      obtain rfl : n = 0 := by omega
      refine hx 0 _ ⟨Nat.zero_le _, trimL_take hz (.inl rfl)⟩ ?_
      rfl
  · rintro n ⟨hnl, ht⟩
    simp only [SA, setCells, Int.reduceLE, Int.reduceLT, ↓reduceIte, reduceCtorEq, Nat.reduceLT, Nat.reduceEqDiff, Nat.reduceAdd, Nat.reduceMul, Nat.reduceLeDiff, Nat.reduceBEq]
    exact hq n hnl (by rw [← trimL_dgl hl, ht])
theorem n186 {a : List Nat} {n : Nat} (ha : Lim a) (hna : a.length ≤ 500000000000) (hn : n < 32) (hz : val a ≠ 0) {σ : Store} (hwf : Wf σ) {Q : CV → Store → Prop}
    (hq : ∀ L k, Lim L → k ≤ L.length → L.length ≤ 500000000001 → L.take k = dgl (val a * 2 ^ n) → Wf (σ ++ [.prow 1 (lm L)]) → Q (.own σ.length 0 k) (σ ++ [.prow 1 (lm L)])) : Rn rp 158 [.p (.sl (lm a)), .p (.int .i64 (n : Int))] σ Q := by
  rw [rn_of rp186]
  obtain ⟨x, hxd⟩ : ∃ x, x = dgl (val a) := ⟨_, rfl⟩
  have k1 : Pu rp 152 [.sl (lm a)] (.p (.sl (lm x))) := by rw [hxd]; exact p144 ha (by omega)
  have hx : Lim x := by rw [hxd]; exact dgl_lim _
  have hlx : x.length ≤ 500000000000 := by rw [hxd]; exact Nat.le_trans (dgl_len (val_lt ha)) hna
  have hva : val a = val x := by rw [hxd, val_dgl]
  rw [hva] at hq hz
  clear hxd hva
  have h0 : x.length ≠ 0 := by
    intro h
    rw [List.eq_nil_of_length_eq_zero h] at hz
    exact hz rfl
  have e0 : ((x.length : Int) == 0) = false := by rw [beq_eq_false_iff_ne]; omega
  have e1 : IntKind.i64.wrap ((n : Int).tdiv 32) = 0 := by
    have : (n : Int).tdiv 32 = 0 := by rw [Int.tdiv_eq_ediv_of_nonneg (by omega)]; omega
    rw [this]; decide
  have e2 : (n : Int).tmod 32 = (n : Int) := by rw [Int.tmod_eq_emod_of_nonneg (by omega)]; omega
  have e3 : IntKind.u64.wrap (n : Int) = (n : Int) := w64 (by omega)
  have e4 : IntKind.i64.wrap ((x.length : Int) + 0) = (x.length : Int) := by rw [IntWalk.i64_in _ (by omega)]; omega
  have e5 : IntKind.i64.wrap ((x.length : Int) + 1) = ((x.length + 1 : Nat) : Int) := by rw [IntWalk.i64_in _ (by omega)]; omega
  have m1 : ((4 : Nat) : Int) * ((x.length + 1 : Nat) : Int) ≤ 281474976710656 := by omega
  have m2 : ((x.length + 1 : Nat) : Int) ≤ 9223372036854775807 := by omega
  simp only [f158, args0, SA, setCells, Int.reduceLE, Int.reduceLT, ↓reduceIte, reduceCtorEq, Nat.reduceLT, Nat.reduceEqDiff, Nat.reduceAdd, Nat.reduceMul, Nat.reduceLeDiff, Nat.reduceBEq, kp1 k1, lm_len, e0, e1, e2, e3, e4, e5, m1, m2, binV_quo (b := 32) (by decide), binV_rem (b := 32) (by decide), Int.natCast_nonneg, Int.toNat_natCast, Int.le_refl, lm_rep]
  refine loop_rule (β := Nat × List Nat × Nat) (fun t => ([(0, .p (.sl (lm x))), (5, .p (.int .i64 0)), (6, .p (.int .u64 (n : Int))), (7, .own σ.length 0 (x.length + 1)), (27, i64 x.length), (28, i64 t.1)], σ ++ [.prow 1 (lm (t.2.1 ++ t.2.2 :: List.replicate (x.length - t.1) 0))]))
    (fun t => t.1 ≤ x.length ∧ t.2.1.length = t.1 ∧ Lim t.2.1 ∧ t.2.2 < 2 ^ n ∧ val t.2.1 + LB ^ t.1 * t.2.2 = val (x.take t.1) * 2 ^ n) (fun t => x.length - t.1) ((0, [], 0) : Nat × List Nat × Nat) rfl rfl ⟨Nat.zero_le _, rfl, (fun _ hx => nomatch hx), Nat.pow_pos (by decide), by simp [val]⟩ ?_
  rintro ⟨i, o, h⟩ ⟨hi, ho, hlo, hh, hv⟩ ih
  simp only [] at hi ho hlo hh hv ih ⊢
  by_cases hin : (i : Int) < x.length
  · have hix : i < x.length := by omega
    have hil : i < x.length + 1 := by omega
    have hil2 : i + 1 < x.length + 1 := by omega
    obtain ⟨sv, sb⟩ := shlv (hx.get hix) hn
    obtain ⟨k, hk1, hk2, hk3⟩ := shl_parts (hx.get hix) hn
    have hPL : 2 ^ n ≤ LB := by rw [LB_split (n := n) (by omega)]; exact Nat.le_mul_of_pos_left _ (Nat.pow_pos (by decide))
    have hsum : h + k * 2 ^ n < LB := by
      have h6 : (k + 1) * 2 ^ n ≤ 2 ^ (32 - n) * 2 ^ n := Nat.mul_le_mul_right _ hk2
      rw [← LB_split (n := n) (by omega), Nat.add_mul, Nat.one_mul] at h6
      omega
    have hor := or32 hh hsum
    have hdm : x[i] * 2 ^ n / LB % LB = x[i] * 2 ^ n / LB := Nat.mod_eq_of_lt (by omega)
    have hg1 : (lm (o ++ h :: List.replicate (x.length - i) 0))[i]? = some (.int .u32 (h : Nat)) := by
      have : (o ++ h :: List.replicate (x.length - i) 0)[i]? = some h := by rw [List.getElem?_append_right (by omega), ho, Nat.sub_self]; rfl
      exact lm_get? this
    have hs1 : ∀ v, (o ++ h :: List.replicate (x.length - i) 0).set i v = o ++ v :: List.replicate (x.length - i) 0 := by
      intro v
      rw [List.set_append_right _ _ (by omega), ho, Nat.sub_self]
      rfl
    have hrp : List.replicate (x.length - i) 0 = 0 :: List.replicate (x.length - (i + 1)) 0 := by
      rw [show x.length - i = (x.length - (i + 1)) + 1 by omega]; rfl
    have hg2 : ∀ v, (lm (o ++ v :: List.replicate (x.length - i) 0))[i + 1]? = some (.int .u32 0) := by
      intro v
      have : (o ++ v :: List.replicate (x.length - i) 0)[i + 1]? = some 0 := by rw [List.getElem?_append_right (by omega), ho, hrp, show i + 1 - i = 1 by omega]; rfl
      exact lm_get? this
    have hs2 : ∀ v u, (o ++ v :: List.replicate (x.length - i) 0).set (i + 1) u = (o ++ [v]) ++ u :: List.replicate (x.length - (i + 1)) 0 := by
      intro v u
      rw [List.set_append_right _ _ (by omega), ho, hrp, show i + 1 - i = 1 by omega, List.append_assoc]
      rfl
    have e6 : IntKind.i64.wrap ((i : Int) + 0) = (i : Int) := by rw [IntWalk.i64_in _ (by omega)]; omega
    have e7 : IntKind.i64.wrap ((i : Int) + 1) = ((i + 1 : Nat) : Int) := by rw [IntWalk.i64_in _ (by omega)]; omega
    simp only [SA, setCells, Int.reduceLE, Int.reduceLT, ↓reduceIte, reduceCtorEq, Nat.reduceLT, Nat.reduceEqDiff, Nat.reduceAdd, Nat.reduceMul, Nat.reduceLeDiff, Nat.reduceBEq, lm_len, hin, lm_get hix, w64l (hx.get hix), sv, w32, hk1, hor, sh32, hdm, e6, e7, Int.natCast_nonneg, Int.toNat_natCast, hil, hil2, hg1, hg2, lm_set, hs1]
    have hs2' := hs2 (h + k * 2 ^ n) (x[i] * 2 ^ n / LB)
    rw [hs2']
    refine ih (i + 1, o ++ [h + k * 2 ^ n], x[i] * 2 ^ n / LB) _ ⟨by omega, by simp [ho], hlo.append (.one hsum), hk3, ?_⟩ (by simp; omega) ?_
    · rw [val_append, ho, val_one, val_take_succ hix, Nat.add_mul, ← hv]
      have h7 := Nat.mod_add_div (x[i] * 2 ^ n) LB
      rw [hk1] at h7
      have h8 : LB ^ i * (k * 2 ^ n) + LB ^ (i + 1) * (x[i] * 2 ^ n / LB) = LB ^ i * x[i] * 2 ^ n := by
        rw [Nat.pow_succ, Nat.mul_assoc (LB ^ i) LB, ← Nat.mul_add, h7, Nat.mul_assoc]
      rw [Nat.mul_add]
      show val o + (LB ^ i * h + LB ^ i * (k * 2 ^ n)) + LB ^ (i + 1) * (x[i] * 2 ^ n / LB) = _
      omega
    · rfl
  · obtain rfl : i = x.length := by omega
    have hPL : 2 ^ n ≤ LB := by rw [LB_split (n := n) (by omega)]; exact Nat.le_mul_of_pos_left _ (Nat.pow_pos (by decide))
    have hfin : o ++ h :: List.replicate (x.length - x.length) 0 = o ++ [h] := by simp
    have hval : val (o ++ [h]) = val x * 2 ^ n := by rw [val_append, val_one, ho, hv, List.take_length]
    have hL : Lim (o ++ [h]) := hlo.append (.one (show h < LB by omega))
    rw [hfin]
    simp only [SA, setCells, Int.reduceLE, Int.reduceLT, ↓reduceIte, reduceCtorEq, Nat.reduceLT, Nat.reduceEqDiff, Nat.reduceAdd, Nat.reduceMul, Nat.reduceLeDiff, Nat.reduceBEq, lm_len, hin]
    have hlen : (o ++ [h]).length = x.length + 1 := by simp [ho]
    refine kc_keep' ?_
    rw [← hlen]
    refine n144 (by rw [get_app0]; rfl) hL (by omega) fun k hk ht => ?_
    simp only [SA, setCells, Int.reduceLE, Int.reduceLT, ↓reduceIte, reduceCtorEq, Nat.reduceLT, Nat.reduceEqDiff, Nat.reduceAdd, Nat.reduceMul, Nat.reduceLeDiff, Nat.reduceBEq]
    exact hq _ k hL hk (by omega) (by rw [ht, hval]) (hwf.push rfl)
theorem p186 {a : List Nat} {n : Nat} (ha : Lim a) (hna : a.length ≤ 500000000000) (hn : n < 32) (hz : val a ≠ 0) : Pu rp 158 [.sl (lm a), .int .i64 (n : Int)] (.p (.sl (lm (dgl (val a * 2 ^ n))))) := by
  unfold Pu
  refine n186 ha hna hn hz Wf.nil fun L k hL hk hl ht hw => ?_
  have hf : frz1 [.prow 1 (lm L)] (.own 0 0 k) = some (.sl (lm (dgl (val a * 2 ^ n)))) := by
    simp [frz1, lm_len, hk, lm_take, ht]
  simp only [List.nil_append, List.length_nil, back, back1, Nat.not_lt_zero, if_false, hf, Option.map_some]
theorem shr_next {x0 W n : Nat} (hx : x0 < LB) (hn : n ≤ 32) : ∃ d, (x0 + LB * (W % LB)) / 2 ^ n % LB = d ∧ d < LB ∧ (x0 + LB * W) / 2 ^ n = d + LB * (W / 2 ^ n) := by
  have hs := LB_split hn
  have hP : 0 < 2 ^ n := Nat.pow_pos (by decide)
  generalize 2 ^ (32 - n) = M at hs
  generalize 2 ^ n = P at hs hP ⊢
  have hM : 0 < M := by
    rcases Nat.eq_zero_or_pos M with h | h
    · rw [h, Nat.zero_mul] at hs; have := LB_pos; omega
    · exact h
  have hx0 : x0 / P < M := by rw [Nat.div_lt_iff_lt_mul hP, ← hs]; exact hx
  -- the quotient of x0 + LB * V
  have hq : ∀ V, (x0 + LB * V) / P = x0 / P + M * V := by
    intro V
    rw [hs, show M * P * V = P * (M * V) by rw [Nat.mul_comm M P, Nat.mul_assoc], Nat.add_mul_div_left _ _ hP]
  have hWm : W % LB % P = W % P := by rw [hs]; exact Nat.mod_mul_left_mod W M P
  refine ⟨x0 / P + M * (W % P), ?_, ?_, ?_⟩
  · rw [hq]
    have h1 : M * (W % LB) = M * (W % P) + LB * (W % LB / P) := by
      have := Nat.mod_add_div (W % LB) P
      rw [hWm] at this
      calc M * (W % LB) = M * (W % P + P * (W % LB / P)) := by rw [this]
        _ = M * (W % P) + LB * (W % LB / P) := by rw [Nat.mul_add, hs, Nat.mul_assoc]
    rw [h1, ← Nat.add_assoc, Nat.add_mul_mod_self_left]
    refine Nat.mod_eq_of_lt ?_
    have h2 : W % P + 1 ≤ P := Nat.mod_lt _ hP
    have h3 := Nat.mul_le_mul_left M h2
    rw [Nat.mul_add, Nat.mul_one, ← hs] at h3
    omega
  · have h2 : W % P + 1 ≤ P := Nat.mod_lt _ hP
    have h3 := Nat.mul_le_mul_left M h2
    rw [Nat.mul_add, Nat.mul_one, ← hs] at h3
    omega
  · rw [hq]
    have := Nat.mod_add_div W P
    calc x0 / P + M * W = x0 / P + M * (W % P + P * (W / P)) := by rw [this]
      _ = x0 / P + M * (W % P) + LB * (W / P) := by rw [Nat.mul_add, hs, Nat.mul_assoc, Nat.add_assoc]
theorem shrv {v n : Nat} (hn : n < 32) : ((v : Int).fdiv (2 ^ min n IntKind.u64.bits)) = ((v / 2 ^ n : Nat) : Int) := by
  have h1 : min n IntKind.u64.bits = n := by show min n 64 = n; omega
  rw [h1, Int.fdiv_eq_ediv_of_nonneg _ (Int.le_of_lt (Int.pow_pos (by decide))), show (2 : Int) ^ n = ((2 ^ n : Nat) : Int) by push_cast; rfl]
  rfl
theorem or64' {x y : Nat} (hy : y < LB) (hx : x < LB) : IntKind.u64.wrap ((BitVec.ofInt IntKind.u64.bits ((y : Nat) : Int) ||| BitVec.ofInt IntKind.u64.bits ((x * LB : Nat) : Int)).toNat : Int) = ((y + LB * x : Nat) : Int) := by
  have h := or64 (x := x) hy (by
    have := Nat.mul_le_mul_right LB (show x ≤ LB - 1 by omega)
    rw [show (LB - 1) * LB = 18446744069414584320 by decide] at this
    unfold LB at *
    omega)
  rw [BitVec.or_comm, h, Nat.mul_comm, Nat.add_comm]
theorem drop_mod {x : List Nat} (hx : Lim x) {i : Nat} : val (x.drop i) % LB = lg x i := by
  rcases Nat.lt_or_ge i x.length with h | h
  · rw [List.drop_eq_getElem_cons h, val, lg_in h, Nat.add_mul_mod_self_left, Nat.mod_eq_of_lt (hx.get h)]
  · rw [List.drop_of_length_le h, lg_out h]; rfl
theorem p188 {a : List Nat} {n : Nat} (ha : Lim a) (hna : a.length ≤ 500000000000) (hn : n < 32) : Pu rp 160 [.sl (lm a), .int .i64 (n : Int)] (.p (.sl (lm (dgl (val a / 2 ^ n))))) := by
  refine pu_of rp188 ?_
  obtain ⟨x, hxd⟩ : ∃ x, x = dgl (val a) := ⟨_, rfl⟩
  have k1 : Pu rp 152 [.sl (lm a)] (.p (.sl (lm x))) := by rw [hxd]; exact p144 ha (by omega)
  have hx : Lim x := by rw [hxd]; exact dgl_lim _
  have hlx : x.length ≤ 500000000000 := by rw [hxd]; exact Nat.le_trans (dgl_len (val_lt ha)) hna
  have hva : val a = val x := by rw [hxd, val_dgl]
  rw [hva]
  clear hxd hva
  have e1 : IntKind.i64.wrap ((n : Int).tdiv 32) = 0 := by
    have : (n : Int).tdiv 32 = 0 := by rw [Int.tdiv_eq_ediv_of_nonneg (by omega)]; omega
    rw [this]; decide
  have e2 : (n : Int).tmod 32 = (n : Int) := by rw [Int.tmod_eq_emod_of_nonneg (by omega)]; omega
  have e3 : IntKind.u64.wrap (n : Int) = (n : Int) := w64 (by omega)
  by_cases h0 : (0 : Int) ≥ x.length
  · have h00 : x = [] := List.eq_nil_of_length_eq_zero (by omega)
    subst h00
    simp only [f160, args0, SA, setCells, Int.reduceLE, Int.reduceLT, ↓reduceIte, reduceCtorEq, Nat.reduceLT, Nat.reduceEqDiff, Nat.reduceAdd, Nat.reduceMul, Nat.reduceLeDiff, Nat.reduceBEq, kp1 k1, lm_len, e1, e2, e3, binV_quo (b := 32) (by decide), binV_rem (b := 32) (by decide), h0]
    rw [val, Nat.zero_div, dgl_zero]
    rfl
  have e4 : IntKind.i64.wrap ((x.length : Int) - 0) = (x.length : Int) := by rw [IntWalk.i64_in _ (by omega)]; omega
  have m1 : ((4 : Nat) : Int) * (x.length : Int) ≤ 281474976710656 := by omega
  have m2 : (x.length : Int) ≤ 9223372036854775807 := by omega
  simp only [f160, args0, SA, setCells, Int.reduceLE, Int.reduceLT, ↓reduceIte, reduceCtorEq, Nat.reduceLT, Nat.reduceEqDiff, Nat.reduceAdd, Nat.reduceMul, Nat.reduceLeDiff, Nat.reduceBEq, kp1 k1, lm_len, h0, e1, e2, e3, e4, m1, m2, binV_quo (b := 32) (by decide), binV_rem (b := 32) (by decide), Int.natCast_nonneg, Int.toNat_natCast, Int.le_refl, lm_rep]
  refine loop_rule (β := Nat × List Nat) (fun t => ([(0, .p (.sl (lm x))), (5, .p (.int .i64 0)), (6, .p (.int .u64 (n : Int))), (7, .own 0 0 x.length), (27, i64 x.length), (28, i64 t.1)], [.prow 1 (lm (t.2 ++ List.replicate (x.length - t.1) 0))]))
    (fun t => t.1 ≤ x.length ∧ t.2.length = t.1 ∧ Lim t.2 ∧ val t.2 + LB ^ t.1 * (val (x.drop t.1) / 2 ^ n) = val x / 2 ^ n) (fun t => x.length - t.1) ((0, []) : Nat × List Nat) rfl rfl ⟨Nat.zero_le _, rfl, (fun _ hx => nomatch hx), by simp [val]⟩ ?_
  rintro ⟨i, o⟩ ⟨hi, ho, hlo, hv⟩ ih
  simp only [] at hi ho hlo hv ih ⊢
  by_cases hin : (i : Int) < x.length
  · have hix : i < x.length := by omega
    obtain ⟨d, hd1, hd2, hd3⟩ := shr_next (W := val (x.drop (i + 1))) (hx.get hix) (show n ≤ 32 by omega)
    rw [drop_mod hx] at hd1
    have hget : (lm (o ++ List.replicate (x.length - i) 0))[i]? = some (.int .u32 0) := by
      have : (o ++ List.replicate (x.length - i) 0)[i]? = some 0 := by rw [show x.length - i = (x.length - i - 1) + 1 by omega, List.getElem?_append_right (by omega), ho, Nat.sub_self]; rfl
      exact lm_get? this
    have hset : ∀ v, (o ++ List.replicate (x.length - i) 0).set i v = o ++ v :: List.replicate (x.length - (i + 1)) 0 := by
      intro v
      rw [show x.length - i = (x.length - (i + 1)) + 1 by omega, ← ho, set_next, List.append_assoc]
      rfl
    have hfold : ∀ v, o ++ v :: List.replicate (x.length - (i + 1)) 0 = (o ++ [v]) ++ List.replicate (x.length - (i + 1)) 0 := by
      intro v
      rw [List.append_assoc]
      rfl
    have hnew : val (o ++ [d]) + LB ^ (i + 1) * (val (x.drop (i + 1)) / 2 ^ n) = val x / 2 ^ n := by
      rw [List.drop_eq_getElem_cons hix, val, hd3] at hv
      rw [val_append, ho, val_one, ← hv, Nat.pow_succ, Nat.mul_add, Nat.mul_assoc]
      omega
    have e6 : IntKind.i64.wrap ((i : Int) + 0) = (i : Int) := by rw [IntWalk.i64_in _ (by omega)]; omega
    have e7 : IntKind.i64.wrap ((i : Int) + 1) = ((i + 1 : Nat) : Int) := by rw [IntWalk.i64_in _ (by omega)]; omega
    by_cases hi1 : ((i + 1 : Nat) : Int) < x.length
    · have hix1 : i + 1 < x.length := by omega
      rw [lg_in hix1] at hd1
      simp only [SA, setCells, Int.reduceLE, Int.reduceLT, ↓reduceIte, reduceCtorEq, Nat.reduceLT, Nat.reduceEqDiff, Nat.reduceAdd, Nat.reduceMul, Nat.reduceLeDiff, Nat.reduceBEq, lm_len, hin, lm_get hix, lm_get hix1, w64l (hx.get hix), w64l (hx.get hix1), e6, e7, hi1, shl32 (hx.get hix1), or64' (hx.get hix) (hx.get hix1), shrv hn, w32, hd1, Int.natCast_nonneg, Int.toNat_natCast, hix, hget, lm_set, hset]
      rw [hfold]
      refine ih (i + 1, o ++ [d]) _ ⟨by omega, by simp [ho], hlo.append (.one hd2), hnew⟩ (by simp; omega) ?_
      rfl
    · rw [lg_out (by omega), Nat.mul_zero, Nat.add_zero] at hd1
      simp only [SA, setCells, Int.reduceLE, Int.reduceLT, ↓reduceIte, reduceCtorEq, Nat.reduceLT, Nat.reduceEqDiff, Nat.reduceAdd, Nat.reduceMul, Nat.reduceLeDiff, Nat.reduceBEq, lm_len, hin, lm_get hix, w64l (hx.get hix), e6, e7, hi1, shrv hn, w32, hd1, Int.natCast_nonneg, Int.toNat_natCast, hix, hget, lm_set, hset]
      rw [hfold]
      refine ih (i + 1, o ++ [d]) _ ⟨by omega, by simp [ho], hlo.append (.one hd2), hnew⟩ (by simp; omega) ?_
      rfl
  · obtain rfl : i = x.length := by omega
    have hval : val o = val x / 2 ^ n := by
      rw [List.drop_length, val, Nat.zero_div, Nat.mul_zero, Nat.add_zero] at hv
      exact hv
    have htr := p144 hlo (by omega)
    rw [hval] at htr
    have hfin : o ++ List.replicate (x.length - x.length) 0 = o := by simp
    rw [hfin]
    simp only [SA, setCells, Int.reduceLE, Int.reduceLT, ↓reduceIte, reduceCtorEq, Nat.reduceLT, Nat.reduceEqDiff, Nat.reduceAdd, Nat.reduceMul, Nat.reduceLeDiff, Nat.reduceBEq, lm_len, hin]
    rw [kf_own htr rfl (by rw [lm_len, ho])]
    simp only [SA, setCells, Int.reduceLE, Int.reduceLT, ↓reduceIte, reduceCtorEq, Nat.reduceLT, Nat.reduceEqDiff, Nat.reduceAdd, Nat.reduceMul, Nat.reduceLeDiff, Nat.reduceBEq]
    rfl
end Go.Proofs.YtdieenbfdeaffaaGreat.VBn

namespace Go.Proofs.YtdieenbfdeaffaaGreat.VBn
open Go Vpi
set_option maxRecDepth 100000
set_option linter.unusedSimpArgs false
set_option linter.unusedVariables false
theorem rp187 : rp 159 = some f159 := rfl
theorem subStep' {x y w : Nat} (hx : x < LB) (hy : y < LB) (hw : w ≤ 1) : ∃ r w' : Nat, r < LB ∧ w' ≤ 1 ∧ r + y + w = x + w' * LB ∧
    IntKind.u32.wrap (IntKind.u64.wrap (IntKind.u64.wrap ((x : Int) - (y : Int)) - (w : Int))) = (r : Int) ∧ (IntKind.u64.wrap (IntKind.u64.wrap ((x : Int) - (y : Int)) - (w : Int))).fdiv (2 ^ min (Int.toNat 63) IntKind.u64.bits) = (w' : Int) := by
  rw [p63, IntKind.wrap_u64, IntKind.wrap_u64, IntKind.wrap_u32, Int.fdiv_eq_ediv_of_nonneg _ (by decide)]
  unfold LB at *
  by_cases h : w + y ≤ x
  · exact ⟨x - w - y, 0, by omega, by omega, by omega, by omega, by omega⟩
  · exact ⟨x + 4294967296 - w - y, 1, by omega, by omega, by omega, by omega, by omega⟩
theorem digNext {R : List Nat} {A B br c m x r br' i : Nat} (hR : R.length = i) (h : val R + A = B + LB ^ i * (br + c)) (hr : r + (c + m) % LB + br = x + br' * LB) :
    val (R ++ [r]) + (A + LB ^ i * m) = B + LB ^ i * x + LB ^ (i + 1) * (br' + (c + m) / LB) := by
  rw [val_append, hR, val_one, Nat.pow_succ]
  have h1 := Nat.mod_add_div (c + m) LB
  have h2 : LB ^ i * (r + (c + m) % LB + br) = LB ^ i * (x + br' * LB) := by rw [hr]
  have h3 : LB ^ i * ((c + m) % LB + LB * ((c + m) / LB)) = LB ^ i * (c + m) := by rw [h1]
  simp only [Nat.mul_add] at *
  rw [Nat.mul_comm br' LB, ← Nat.mul_assoc] at h2
  rw [← Nat.mul_assoc] at h3
  omega
theorem win_get {P W T : List Nat} {off i : Nat} (hP : P.length = off) (hi : i < W.length) : (lm (P ++ (W ++ T)))[off + i]? = some (.int .u32 (W[i] : Nat)) := by
  refine lm_get? ?_
  rw [List.getElem?_append_right (by omega), hP, Nat.add_sub_cancel_left, List.getElem?_append_left hi]
  simp
theorem win_set {P W T : List Nat} {off i v : Nat} (hP : P.length = off) (hi : i < W.length) : (P ++ (W ++ T)).set (off + i) v = P ++ (W.set i v ++ T) := by
  rw [List.set_append_right _ _ (by omega), hP, Nat.add_sub_cancel_left, List.set_append_left _ _ hi]
theorem new_get {R W : List Nat} {i : Nat} (hR : R.length = i) (hi : i < W.length) : (R ++ W.drop i)[i]? = some W[i] := by
  rw [List.getElem?_append_right (by omega), hR, Nat.sub_self, List.getElem?_drop, Nat.add_zero]
  simp
theorem new_set {R W : List Nat} {i v : Nat} (hR : R.length = i) (hi : i < W.length) : (R ++ W.drop i).set i v = (R ++ [v]) ++ W.drop (i + 1) := by
  rw [List.set_append_right _ _ (by omega), hR, Nat.sub_self, List.drop_eq_getElem_cons hi, List.set_cons_zero, List.append_assoc]
  rfl
section
variable {σ : Store} {b off : Nat} {P T v : List Nat}
theorem n187 {W0 : List Nat} (hb : b < σ.length) (hP : P.length = off) (hv : Lim v) (hn : 0 < v.length) (hnl : v.length ≤ 500000000000) (hW : Lim W0) (hWl : W0.length = v.length + 1)
    (htop : v[v.length - 1]'(by omega) ≠ 0) (hlt : val W0 < LB * val v) {Q : CV → Store → Prop}
    (hq : ∀ W : List Nat, W.length = v.length + 1 → Lim W → val W = val W0 % val v → Q (.p (.int .u32 ((val W0 / val v : Nat) : Int))) (σ.set b (.prow 1 (lm (P ++ (W ++ T)))))) :
    Rn rp 159 [.own b off (v.length + 1), .p (.sl (lm v))] (σ.set b (.prow 1 (lm (P ++ (W0 ++ T))))) Q := by
  rw [rn_of rp187]
  have hV : 0 < val v := by
    rcases Nat.eq_zero_or_pos (val v) with h | h
    · rw [h, Nat.mul_zero] at hlt; omega
    · exact h
  have hi1 : v.length - 1 < v.length := by omega
  have hw0 : v.length - 1 < W0.length := by omega
  have hw1 : v.length < W0.length := by omega
  have i1 : v.length - 1 < v.length + 1 := by omega
  have i2 : v.length < v.length + 1 := by omega
  have e1 : IntKind.i64.wrap ((v.length : Int) - 1) = ((v.length - 1 : Nat) : Int) := by rw [IntWalk.i64_in _ (by omega)]; omega
  have e2 : IntKind.i64.wrap ((v.length : Int) + 1) = ((v.length + 1 : Nat) : Int) := by rw [IntWalk.i64_in _ (by omega)]; omega
  have htl : W0[v.length] * LB + W0[v.length - 1] < 18446744073709551616 := by
    have h1 := hW.get hw1
    have h2 := hW.get hw0
    have := Nat.mul_le_mul_right LB (show W0[v.length] ≤ LB - 1 by omega)
    rw [show (LB - 1) * LB = 18446744069414584320 by decide] at this
    unfold LB at *
    omega
  have hd0 : ((v[v.length - 1] : Nat) : Int) ≠ 0 := by omega
  -- the guess
  obtain ⟨q, hqd, hq1, hq2⟩ : ∃ q : Nat, (if (4294967295 : Int) < (((W0[v.length] * LB + W0[v.length - 1]) / v[v.length - 1] : Nat) : Int) then (4294967295 : Int) else (((W0[v.length] * LB + W0[v.length - 1]) / v[v.length - 1] : Nat) : Int)) = (q : Int) ∧ q < LB ∧ val W0 < (q + 1) * val v := by
    by_cases h : (4294967295 : Int) < (((W0[v.length] * LB + W0[v.length - 1]) / v[v.length - 1] : Nat) : Int)
    · exact ⟨4294967295, by rw [if_pos h]; rfl, by decide, hlt⟩
    · refine ⟨(W0[v.length] * LB + W0[v.length - 1]) / v[v.length - 1], by rw [if_neg h], by unfold LB at *; omega, ?_⟩
      have hd := Nat.lt_mul_div_succ (W0[v.length] * LB + W0[v.length - 1]) (show 0 < v[v.length - 1] by omega)
      generalize (W0[v.length] * LB + W0[v.length - 1]) / v[v.length - 1] = g at hd ⊢
      -- the numbers by their tops
      have s1 := val_split (l := W0) (i := v.length - 1) (by omega)
      have s2 := val_split (l := v) (i := v.length - 1) (by omega)
      have t1 := val_lt (hW.take (n := v.length - 1))
      rw [List.length_take, Nat.min_eq_left (by omega)] at t1
      have s3 : val (W0.drop (v.length - 1)) = W0[v.length - 1] + LB * W0[v.length] := by
        rw [List.drop_eq_getElem_cons hw0, val]
        simp only [show v.length - 1 + 1 = v.length by omega]
        rw [List.drop_eq_getElem_cons hw1, val, List.drop_of_length_le (by omega), val, Nat.mul_zero, Nat.add_zero]
      have s4 : val (v.drop (v.length - 1)) = v[v.length - 1] := by
        rw [List.drop_eq_getElem_cons hi1, val]
        simp only [show v.length - 1 + 1 = v.length by omega]
        rw [List.drop_length, val, Nat.mul_zero, Nat.add_zero]
      rw [s3] at s1
      rw [s4] at s2
      have h5 : W0[v.length - 1] + LB * W0[v.length] + 1 ≤ v[v.length - 1] * (g + 1) := by rw [Nat.mul_comm LB]; omega
      have h6 := Nat.mul_le_mul_left (LB ^ (v.length - 1)) h5
      have h7 : LB ^ (v.length - 1) * v[v.length - 1] * (g + 1) ≤ val v * (g + 1) := Nat.mul_le_mul_right _ (by rw [s2]; exact Nat.le_add_left _ _)
      rw [Nat.mul_comm (g + 1)]
      calc val W0 = val (W0.take (v.length - 1)) + LB ^ (v.length - 1) * (W0[v.length - 1] + LB * W0[v.length]) := s1
        _ < LB ^ (v.length - 1) + LB ^ (v.length - 1) * (W0[v.length - 1] + LB * W0[v.length]) := Nat.add_lt_add_right t1 _
        _ = LB ^ (v.length - 1) * (W0[v.length - 1] + LB * W0[v.length] + 1) := by rw [Nat.mul_add _ _ 1, Nat.mul_one, Nat.add_comm]
        _ ≤ LB ^ (v.length - 1) * (v[v.length - 1] * (g + 1)) := h6
        _ = LB ^ (v.length - 1) * v[v.length - 1] * (g + 1) := (Nat.mul_assoc ..).symm
        _ ≤ val v * (g + 1) := h7
  simp only [f159, args0, SA, setCells, Int.reduceLE, Int.reduceLT, ↓reduceIte, reduceCtorEq, Nat.reduceLT, Nat.reduceEqDiff, Nat.reduceAdd, Nat.reduceMul, Nat.reduceLeDiff, Nat.reduceBEq, lm_len, e1, e2, win_get hP hw0, win_get hP hw1, get_self hb, lm_get hi1, w64l (hW.get hw0), w64l (hW.get hw1), w64l (hv.get hi1), shl32 (hW.get hw1), or64 (hW.get hw0) htl, quo64 htl, binV_quo hd0, hqd, Int.natCast_nonneg, Int.toNat_natCast, i1, i2]
  refine loop_rule (β := Nat × List Nat × Nat × Nat) (fun t => ([(0, .own b off (v.length + 1)), (1, .p (.sl (lm v))), (5, i64 v.length), (7, .p (.int .u64 (q : Int))), (8, .p (.int .u64 (t.2.2.1 : Int))), (9, .p (.int .u64 (t.2.2.2 : Int))), (40, .p (.int .i64 ((v.length + 1 : Nat) : Int))), (41, i64 t.1)], σ.set b (.prow 1 (lm (P ++ (t.2.1 ++ (W0.drop t.1 ++ T)))))))
    (fun t => t.1 ≤ v.length + 1 ∧ t.2.1.length = t.1 ∧ Lim t.2.1 ∧ t.2.2.1 < LB ∧ t.2.2.2 ≤ 1 ∧ (t.1 = v.length + 1 → t.2.2.1 = 0) ∧ val t.2.1 + q * val (v.take t.1) = val (W0.take t.1) + LB ^ t.1 * (t.2.2.2 + t.2.2.1)) (fun t => v.length + 1 - t.1) ((0, [], 0, 0) : Nat × List Nat × Nat × Nat) rfl rfl
    ⟨Nat.zero_le _, rfl, (fun _ hx => nomatch hx), LB_pos, Nat.zero_le _, (fun h => rfl), by simp [val]⟩ ?_
  rintro ⟨i, R, c, br⟩ ⟨hi, hR, hlR, hc, hbr, hc0, hval⟩ ih
  simp only [] at hi hR hlR hc hbr hc0 hval ih ⊢
  by_cases hin : (i : Int) < ((v.length + 1 : Nat) : Int)
  · have hiw : i < W0.length := by omega
    have hil : i < v.length + 1 := by omega
    have hRd : i < (R ++ W0.drop i).length := by rw [List.length_append, List.length_drop]; omega
    have hg := win_get (T := T) hP hRd
    have hgv : (R ++ W0.drop i)[i] = W0[i] := by
      have := new_get hR hiw
      rw [List.getElem?_eq_getElem hRd] at this
      exact Option.some.inj this
    rw [hgv] at hg
    have hst : ∀ u, (P ++ ((R ++ W0.drop i) ++ T)).set (off + i) u = P ++ (((R ++ [u]) ++ W0.drop (i + 1)) ++ T) := by
      intro u
      rw [win_set hP hRd, new_set hR hiw]
    simp only [List.append_assoc, List.cons_append, List.nil_append] at hg hst
    have hfold : ∀ u, R ++ u :: (W0.drop (i + 1) ++ T) = (R ++ [u]) ++ (W0.drop (i + 1) ++ T) := by intro u; simp
    by_cases hiv : (i : Int) < v.length
    · have hiv' : i < v.length := by omega
      obtain ⟨b1, b2, b3, b4⟩ := mulBound hc hq1 (hv.get hiv') LB_pos
      simp only [Nat.add_zero] at b1 b3 b4
      obtain ⟨r, br', hr, hbr', hrel, e32, e63⟩ := subStep' (hW.get hiw) (Nat.mod_lt (c + q * v[i]) LB_pos) hbr
      have hnx := digNext hR hval hrel
      simp only [SA, setCells, Int.reduceLE, Int.reduceLT, ↓reduceIte, reduceCtorEq, Nat.reduceLT, Nat.reduceEqDiff, Nat.reduceAdd, Nat.reduceMul, Nat.reduceLeDiff, Nat.reduceBEq, lm_len, hin, hiv, w64m b2, w64s b3, lm_get hiv', w64l (hv.get hiv'), w64l (hW.get hiw), sh32, w32, w64l (Nat.mod_lt (c + q * v[i]) LB_pos), e32, e63, get_self hb, hg, hst, hil, lm_set, Int.natCast_nonneg, Int.toNat_natCast, List.set_set, IntWalk.i64_in ((i : Int) + 1) (by omega)]
      rw [hfold]
      refine ih (i + 1, R ++ [r], (c + q * v[i]) / LB, br') _ ⟨by omega, by simp [hR], hlR.append (.one hr), b4, hbr', (fun h => absurd h (by simp; omega)), ?_⟩ (by simp; omega) ?_
      · show val (R ++ [r]) + q * val (v.take (i + 1)) = val (W0.take (i + 1)) + LB ^ (i + 1) * (br' + (c + q * v[i]) / LB)
        rw [val_take_succ hiv', val_take_succ hiw, Nat.mul_add, ← hnx, Nat.mul_left_comm q]
      · rfl
    · obtain rfl : i = v.length := by omega
      obtain ⟨r, br', hr, hbr', hrel, e32, e63⟩ := subStep' (hW.get hiw) hc hbr
      have hcm : (c + 0) % LB = c := by rw [Nat.add_zero]; exact Nat.mod_eq_of_lt hc
      have hcd : (c + 0) / LB = 0 := by rw [Nat.add_zero]; exact Nat.div_eq_of_lt hc
      have hcd' : c / LB = 0 := Nat.div_eq_of_lt hc
      have hcm' : c % LB = c := Nat.mod_eq_of_lt hc
      have hnx := digNext (m := 0) hR hval (by rw [hcm]; exact hrel)
      rw [hcd, Nat.mul_zero, Nat.add_zero] at hnx
      simp only [SA, setCells, Int.reduceLE, Int.reduceLT, ↓reduceIte, reduceCtorEq, Nat.reduceLT, Nat.reduceEqDiff, Nat.reduceAdd, Nat.reduceMul, Nat.reduceLeDiff, Nat.reduceBEq, lm_len, hin, hiv, hW.get hiw, w64l (hW.get hiw), sh32, w32, hcm', hcd', w64l hc, e32, e63, get_self hb, hg, hst, hil, lm_set, Int.natCast_nonneg, Int.toNat_natCast, List.set_set, IntWalk.i64_in ((v.length : Int) + 1) (by omega)]
      rw [hfold]
      refine ih (v.length + 1, R ++ [r], 0, br') _ ⟨by omega, by simp [hR], hlR.append (.one hr), LB_pos, hbr', (fun _ => rfl), ?_⟩ (by simp) ?_
      · show val (R ++ [r]) + q * val (v.take (v.length + 1)) = val (W0.take (v.length + 1)) + LB ^ (v.length + 1) * (br' + 0)
        rw [List.take_of_length_le (Nat.le_succ _), val_take_succ hiw, Nat.add_zero, ← hnx, List.take_length]
      · rfl
  · obtain rfl : i = v.length + 1 := by omega
    obtain rfl := hc0 rfl
    rw [List.take_of_length_le (Nat.le_succ _), List.take_of_length_le (by omega), Nat.add_zero] at hval
    have hdn : W0.drop (v.length + 1) = [] := List.drop_of_length_le (by omega)
    rw [hdn]
    simp only [SA, setCells, Int.reduceLE, Int.reduceLT, ↓reduceIte, reduceCtorEq, Nat.reduceLT, Nat.reduceEqDiff, Nat.reduceAdd, Nat.reduceMul, Nat.reduceLeDiff, Nat.reduceBEq, hin]
    have hRl : R.length = v.length + 1 := hR
    refine loop_rule (β := List Nat × Nat × Nat) (fun t => ([(0, .own b off (v.length + 1)), (1, .p (.sl (lm v))), (5, i64 v.length), (7, .p (.int .u64 (t.2.1 : Int))), (9, .p (.int .u64 (t.2.2 : Int)))], σ.set b (.prow 1 (lm (P ++ (t.1 ++ T))))))
      (fun t => t.1.length = v.length + 1 ∧ Lim t.1 ∧ t.2.1 < LB ∧ t.2.2 ≤ 1 ∧ val t.1 + t.2.1 * val v = val W0 + LB ^ (v.length + 1) * t.2.2 ∧ val W0 < (t.2.1 + 1) * val v) (fun t => t.2.1) ((R, q, br) : List Nat × Nat × Nat) rfl rfl ⟨hRl, hlR, hq1, hbr, hval, hq2⟩ ?_
    rintro ⟨W, g, br⟩ ⟨hWl', hWL, hg, hbr, hv1, hv2⟩ ih2
    simp only [] at hWl' hWL hg hbr hv1 hv2 ih2 ⊢
    by_cases hb0 : (br : Int) > 0
    · obtain rfl : br = 1 := by omega
      have hWlt := val_lt hWL
      rw [hWl'] at hWlt
      rw [Nat.mul_one] at hv1
      obtain ⟨g', rfl⟩ : ∃ g', g = g' + 1 := by
        rcases Nat.eq_zero_or_pos g with h | h
        · rw [h, Nat.zero_mul] at hv1; omega
        · exact ⟨g - 1, by omega⟩
      have hgw : IntKind.u64.wrap (((g' + 1 : Nat) : Int) - 1) = (g' : Int) := by
        rw [show ((g' + 1 : Nat) : Int) - 1 = (g' : Int) by omega]
        exact w64 (by unfold LB at hg; omega)
      rw [Nat.add_mul, Nat.one_mul] at hv1
      simp only [SA, setCells, Int.reduceLE, Int.reduceLT, ↓reduceIte, reduceCtorEq, Nat.reduceLT, Nat.reduceEqDiff, Nat.reduceAdd, Nat.reduceMul, Nat.reduceLeDiff, Nat.reduceBEq, hb0, hgw, e2]
      refine loop_rule (β := Nat × List Nat × Nat) (fun t => ([(0, .own b off (v.length + 1)), (1, .p (.sl (lm v))), (5, i64 v.length), (7, .p (.int .u64 (g' : Int))), (9, .p (.int .u64 ((1 : Nat) : Int))), (13, .p (.int .u64 (t.2.2 : Int))), (83, .p (.int .i64 ((v.length + 1 : Nat) : Int))), (84, i64 t.1)], σ.set b (.prow 1 (lm (P ++ (t.2.1 ++ (W.drop t.1 ++ T)))))))
        (fun t => t.1 ≤ v.length + 1 ∧ t.2.1.length = t.1 ∧ Lim t.2.1 ∧ t.2.2 ≤ 1 ∧ val t.2.1 + LB ^ t.1 * t.2.2 = val (W.take t.1) + val (v.take t.1)) (fun t => v.length + 1 - t.1) ((0, [], 0) : Nat × List Nat × Nat) rfl rfl
        ⟨Nat.zero_le _, rfl, (fun _ hx => nomatch hx), Nat.zero_le _, by simp [val]⟩ ?_
      rintro ⟨i, R, c⟩ ⟨hi, hR, hlR, hc, hval⟩ ih3
      simp only [] at hi hR hlR hc hval ih3 ⊢
      by_cases hin3 : (i : Int) < ((v.length + 1 : Nat) : Int)
      · have hiw : i < W.length := by omega
        have hil : i < v.length + 1 := by omega
        have hRd : i < (R ++ W.drop i).length := by rw [List.length_append, List.length_drop]; omega
        have hgt := win_get (T := T) hP hRd
        have hgv : (R ++ W.drop i)[i] = W[i] := by
          have := new_get hR hiw
          rw [List.getElem?_eq_getElem hRd] at this
          exact Option.some.inj this
        rw [hgv] at hgt
        have hst : ∀ u, (P ++ ((R ++ W.drop i) ++ T)).set (off + i) u = P ++ (((R ++ [u]) ++ W.drop (i + 1)) ++ T) := by
          intro u
          rw [win_set hP hRd, new_set hR hiw]
        simp only [List.append_assoc, List.cons_append, List.nil_append] at hgt hst
        have hfold : ∀ u, R ++ u :: (W.drop (i + 1) ++ T) = (R ++ [u]) ++ (W.drop (i + 1) ++ T) := by intro u; simp
        obtain ⟨k1, k2, k3⟩ := carry1 hc (hWL.get hiw) (lg_lt hv (i := i))
        have hstp := addStep (x := W[i]) (y := lg v i) hR hval
        have hta := val_take_lg (l := W) (i := i)
        have htb := val_take_lg (l := v) (i := i)
        rw [lg_in hiw] at hta
        rw [← hta, ← htb] at hstp
        by_cases hiv : (i : Int) < v.length
        · have hiv' : i < v.length := by omega
          rw [lg_in hiv'] at hstp k1 k2
          simp only [SA, setCells, Int.reduceLE, Int.reduceLT, ↓reduceIte, reduceCtorEq, Nat.reduceLT, Nat.reduceEqDiff, Nat.reduceAdd, Nat.reduceMul, Nat.reduceLeDiff, Nat.reduceBEq, lm_len, hin3, hiv, lm_get hiv', w64l (hv.get hiv'), w64l (hWL.get hiw), w64s k3, w64s k2, sh32, w32, get_self hb, hgt, hst, hil, lm_set, Int.natCast_nonneg, Int.toNat_natCast, List.set_set, IntWalk.i64_in ((i : Int) + 1) (by omega)]
          rw [hfold]
          refine ih3 (i + 1, R ++ [(c + W[i] + v[i]) % LB], (c + W[i] + v[i]) / LB) _ ⟨by omega, by simp [hR], hlR.append (.one (Nat.mod_lt _ LB_pos)), k1, hstp⟩ (by simp; omega) ?_
          rfl
        · rw [lg_out (by omega), Nat.add_zero] at hstp k1 k2
          simp only [SA, setCells, Int.reduceLE, Int.reduceLT, ↓reduceIte, reduceCtorEq, Nat.reduceLT, Nat.reduceEqDiff, Nat.reduceAdd, Nat.reduceMul, Nat.reduceLeDiff, Nat.reduceBEq, lm_len, hin3, hiv, w64l (hWL.get hiw), w64s k3, sh32, w32, get_self hb, hgt, hst, hil, lm_set, Int.natCast_nonneg, Int.toNat_natCast, List.set_set, IntWalk.i64_in ((i : Int) + 1) (by omega)]
          rw [hfold]
          refine ih3 (i + 1, R ++ [(c + W[i]) % LB], (c + W[i]) / LB) _ ⟨by omega, by simp [hR], hlR.append (.one (Nat.mod_lt _ LB_pos)), k1, hstp⟩ (by simp; omega) ?_
          rfl
      · obtain rfl : i = v.length + 1 := by omega
        rw [List.take_of_length_le (Nat.le_of_eq hWl'), List.take_of_length_le (Nat.le_succ _)] at hval
        have hdn : W.drop (v.length + 1) = [] := List.drop_of_length_le (by omega)
        have hcw : IntKind.u64.wrap (((1 : Nat) : Int) - (c : Int)) = ((1 - c : Nat) : Int) := by
          rw [show ((1 : Nat) : Int) - (c : Int) = ((1 - c : Nat) : Int) by omega]
          exact w64 (by omega)
        rw [hdn]
        simp only [SA, setCells, Int.reduceLE, Int.reduceLT, ↓reduceIte, reduceCtorEq, Nat.reduceLT, Nat.reduceEqDiff, Nat.reduceAdd, Nat.reduceMul, Nat.reduceLeDiff, Nat.reduceBEq, hin3, hcw]
        refine ih2 (R, g', 1 - c) _ ⟨hR, hlR, (show g' < LB by omega), (show 1 - c ≤ 1 by omega), ?_, ?_⟩ (Nat.lt_succ_self _) ?_
        · show val R + g' * val v = val W0 + LB ^ (v.length + 1) * (1 - c)
          rcases Nat.lt_or_ge c 1 with h | h
          · obtain rfl : c = 0 := by omega
            rw [Nat.mul_zero] at hval
            rw [Nat.sub_zero, Nat.mul_one]
            omega
          · obtain rfl : c = 1 := by omega
            rw [Nat.mul_one] at hval
            rw [Nat.sub_self, Nat.mul_zero]
            omega
        · show val W0 < (g' + 1) * val v
          rw [Nat.add_mul, Nat.one_mul]
          omega
        · rfl
    · obtain rfl : br = 0 := by omega
      rw [Nat.mul_zero, Nat.add_zero] at hv1
      rw [Nat.add_mul, Nat.one_mul] at hv2
      have hlt' : val W < val v := by omega
      have hgq : val W0 / val v = g := by rw [← hv1, Nat.add_mul_div_right _ _ hV, Nat.div_eq_of_lt hlt', Nat.zero_add]
      have hgr : val W0 % val v = val W := by rw [← hv1, Nat.add_mul_mod_self_right, Nat.mod_eq_of_lt hlt']
      have hgl : g % LB = g := Nat.mod_eq_of_lt hg
      have hfin := hq W hWl' hWL hgr.symm
      rw [hgq] at hfin
      simp only [SA, setCells, Int.reduceLE, Int.reduceLT, ↓reduceIte, reduceCtorEq, Nat.reduceLT, Nat.reduceEqDiff, Nat.reduceAdd, Nat.reduceMul, Nat.reduceLeDiff, Nat.reduceBEq, hb0, w32, hgl]
      exact hfin
theorem k187 {W0 : List Nat} {rs : List RRes} {base : Nat} {d : Option Nat} {l : List LOp} {dr : Dr} {ks : List KI} {e : Env} {Q : CV → Store → Prop} (hb : b < σ.length) (hwf : Wf σ) (hP : P.length = off) (hv : Lim v) (hn : 0 < v.length) (hnl : v.length ≤ 500000000000) (hW : Lim W0) (hWl : W0.length = v.length + 1)
    (htop : v[v.length - 1]'(by omega) ≠ 0) (hlt : val W0 < LB * val v)
    (h : ∀ W : List Nat, W.length = v.length + 1 → Lim W → val W = val W0 % val v → ExR rp rs base l dr ks (sto d (.p (.int .u32 ((val W0 / val v : Nat) : Int))) e) (σ.set b (.prow 1 (lm (P ++ (W ++ T))))) Q) :
    KC rp rs base .full 159 [.own b off (v.length + 1), .p (.sl (lm v))] d l dr ks e (σ.set b (.prow 1 (lm (P ++ (W0 ++ T))))) Q := by
  unfold KC
  refine cl_full (n187 hb hP hv hn hnl hW hWl htop hlt fun W h1 h2 h3 => ?_)
  have hl : (σ.set b (.prow 1 (lm (P ++ (W0 ++ T))))).length = (σ.set b (.prow 1 (lm (P ++ (W ++ T))))).length := by rw [List.length_set, List.length_set]
  rw [hl, List.take_length]
  exact ⟨(hwf.set rfl).all, _, back_p, h W h1 h2 h3⟩
end
end Go.Proofs.YtdieenbfdeaffaaGreat.VBn

namespace Go.Proofs.YtdieenbfdeaffaaGreat.VBn
open Go Vpi
set_option maxRecDepth 100000
set_option linter.unusedSimpArgs false
set_option linter.unusedVariables false
theorem rp159 : rp 134 = some f134 := rfl
theorem dgl_len_mono {m n : Nat} (h : m ≤ n) : (dgl m).length ≤ (dgl n).length := by
  refine dgl_len (Nat.lt_of_le_of_lt h ?_)
  have := val_lt (dgl_lim n)
  rwa [val_dgl] at this
theorem norm_len {v t n : Nat} (h : v ≠ 0) (ht : (dgl v)[(dgl v).length - 1]? = some t) (hn : n = 32 - bl t) : (dgl (v * 2 ^ n)).length = (dgl v).length ∧ n < 32 ∧ t ≠ 0 := by
  have hpos := List.length_pos_iff.2 (dgl_ne h)
  have hlt : (dgl v).length - 1 < (dgl v).length := by omega
  rw [List.getElem?_eq_getElem hlt, Option.some.injEq] at ht
  have hs := val_take_succ hlt
  rw [ht, show (dgl v).length - 1 + 1 = (dgl v).length by omega, List.take_length, val_dgl] at hs
  have hlow := val_lt ((dgl_lim v).take (n := (dgl v).length - 1))
  rw [List.length_take, Nat.min_eq_left (by omega)] at hlow
  have ht0 : t ≠ 0 := by
    intro h0
    rw [h0, Nat.mul_zero, Nat.add_zero] at hs
    have := dgl_len (show v < LB ^ ((dgl v).length - 1) by omega)
    omega
  have htB : t < LB := by
    have := (dgl_lim v).get hlt
    omega
  obtain ⟨b1, b2, b3⟩ := bl_spec ht0
  have b4 := bl_le htB
  refine ⟨Nat.le_antisymm (dgl_len ?_) (dgl_len_mono (Nat.le_mul_of_pos_right _ (Nat.pow_pos (by decide)))), by omega, ht0⟩
  have e1 : LB ^ (dgl v).length = LB ^ ((dgl v).length - 1) * 2 ^ bl t * 2 ^ n := by
    rw [Nat.mul_assoc, ← Nat.pow_add, hn, show bl t + (32 - bl t) = 32 by omega]
    rw [show (2 : Nat) ^ 32 = LB from rfl, ← Nat.pow_succ]
    congr 1
    omega
  rw [e1]
  refine Nat.mul_lt_mul_of_pos_right ?_ (Nat.pow_pos (by decide))
  calc v = _ := hs
    _ < LB ^ ((dgl v).length - 1) * (t + 1) := by rw [Nat.mul_add, Nat.mul_one]; omega
    _ ≤ _ := Nat.mul_le_mul_left _ b2
theorem lt_of_cmp {x y : Nat} : cmpI x y < 0 ↔ x < y := by
  unfold cmpI
  split
  · simp; assumption
  · split
    · simp; omega
    · simp; omega
theorem p159l {a b : List Nat} (ha : Lim a) (hb : Lim b) (hna : a.length ≤ 400000000000) (hnb : b.length ≤ 400000000000) (h : val a < val b) :
    Pu rp 134 [.sl (lm a), .sl (lm b)] (.tup [.p (.sl (lm (dgl (val a / val b)))), .p (.sl (lm (dgl (val a % val b)))), .p (.int .i64 0)]) := by
  refine pu_of rp159 ?_
  have hda : (dgl (val a)).length ≤ a.length := dgl_len (val_lt ha)
  have hdb : (dgl (val b)).length ≤ b.length := dgl_len (val_lt hb)
  have k1 := p144 ha (by omega)
  have k2 := p144 hb (by omega)
  have hc := p177 (dgl_lim (val a)) (dgl_lim (val b)) (by omega) (by omega)
  have kn := p158 (dgl_lim (val a)) (by omega)
  rw [val_dgl] at kn
  rw [val_dgl, val_dgl] at hc
  have hci : cmpI (val a) (val b) < 0 := lt_of_cmp.2 h
  have hpos := List.length_pos_iff.2 (dgl_ne (show val b ≠ 0 by omega))
  have e0 : (((dgl (val b)).length : Int) == 0) = false := by rw [beq_eq_false_iff_ne]; omega
  rw [Nat.div_eq_of_lt h, Nat.mod_eq_of_lt h, dgl_zero]
  simp only [f134, args0, SA, setCells, Int.reduceLE, Int.reduceLT, ↓reduceIte, reduceCtorEq, Nat.reduceLT, Nat.reduceEqDiff, Nat.reduceAdd, Nat.reduceMul, Nat.reduceLeDiff, Nat.reduceBEq, kp1 k1, kp1 k2, lm_len, e0, kp2 hc, hci, kp1 kn]
  exact back_t3 back1_nils back1_p back1_p
theorem p159s {a b : List Nat} (ha : Lim a) (hb : Lim b) (hna : a.length ≤ 400000000000) (hnb : b.length ≤ 400000000000) (h : val b ≤ val a) (h1 : (dgl (val b)).length = 1) :
    Pu rp 134 [.sl (lm a), .sl (lm b)] (.tup [.p (.sl (lm (dgl (val a / val b)))), .p (.sl (lm (dgl (val a % val b)))), .p (.int .i64 0)]) := by
  refine pu_of rp159 ?_
  have hda : (dgl (val a)).length ≤ a.length := dgl_len (val_lt ha)
  have hdb : (dgl (val b)).length ≤ b.length := dgl_len (val_lt hb)
  have k1 := p144 ha (by omega)
  have k2 := p144 hb (by omega)
  have hc := p177 (dgl_lim (val a)) (dgl_lim (val b)) (by omega) (by omega)
  rw [val_dgl, val_dgl] at hc
  have hci : ¬ cmpI (val a) (val b) < 0 := by rw [lt_of_cmp]; omega
  obtain ⟨q, hq⟩ := List.length_eq_one_iff.1 h1
  have hqv : val b = q := by have := val_dgl (val b); rw [hq, val_one] at this; exact this.symm
  have hqB : q < LB := dgl_lim (val b) q (by rw [hq]; simp)
  have hq0 : q ≠ 0 := by
    intro h0
    rw [hqv, h0, dgl_zero] at hq
    cases hq
  have ks := p184 (dgl_lim (val a)) (Nat.pos_of_ne_zero hq0) hqB (by omega)
  rw [val_dgl] at ks
  have hr : val a % q < LB := Nat.lt_trans (Nat.mod_lt _ (Nat.pos_of_ne_zero hq0)) hqB
  have kr := p144 (Lim.one hr) (by simp)
  rw [val_one] at kr
  have e0 : (((1 : Nat) : Int) == 0) = false := rfl
  have e1 : (((1 : Nat) : Int) == 1) = true := rfl
  have i0 : Int.toNat 0 = 0 := rfl
  rw [hq] at k2 hc
  rw [hqv] at hc hci ⊢
  simp only [lm_cons, lm_nil] at k2 hc
  simp only [f134, args0, SA, setCells, Int.reduceLE, Int.reduceLT, ↓reduceIte, reduceCtorEq, Nat.reduceLT, Nat.reduceEqDiff, Nat.reduceAdd, Nat.reduceMul, Nat.reduceLeDiff, Nat.reduceBEq, kp1 k1, kp1 k2, lm_len, e0, e1, kp2 hc, hci, lm_cons, lm_nil, i0, kp2 ks]
  rw [kf_own (n := 1) kr rfl rfl]
  simp only [SA, setCells, Int.reduceLE, Int.reduceLT, ↓reduceIte, reduceCtorEq, Nat.reduceLT, Nat.reduceEqDiff, Nat.reduceAdd, Nat.reduceMul, Nat.reduceLeDiff, Nat.reduceBEq]
  exact back_t3 back1_p back1_p back1_p
end Go.Proofs.YtdieenbfdeaffaaGreat.VBn
