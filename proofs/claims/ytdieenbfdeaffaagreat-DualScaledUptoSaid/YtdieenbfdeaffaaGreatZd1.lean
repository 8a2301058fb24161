/- Resolved code of functions, printed by a program of ours (genfun.py); each is held against the model by chkF; The functions together; Rows and matrices of numbers: mat.Form (n70), each, the reference's Floor; Common divisors, quotients without a rest, the closure of a range: zint.Gcd, zint.Exact, dual.each; Stores and rows: general facts; what divides all; Determinants: expansion along a row, cofactors, rows exchanged, elimination with pivots, Cramer, coefficients along rows: plain facts, no program in sight; A matrix copied (elim.copied); Floor for every divisor, Abs; elim.bareiss: the plain part; elim.bareiss and elim.det; elim.square, elim.cofactor; elim.terms, elim.Det, elim.Inverse. No condition. -/
import Derived.Test.YtdieenbfdeaffaaGreatZa3
import Derived.Test.YtdieenbfdeaffaaGreatProg
import Derived.KernelRfl
import Derived.Test.YtdieenbfdeaffaaGreatZb1
import Derived.Test.YtdieenbfdeaffaaGreatZb2

namespace Go.Proofs.YtdieenbfdeaffaaGreat.VDd
open Go Vpi
set_option maxRecDepth 100000
def f3 : RFun := ⟨(.seq (.reg [lq 4 (.mv (.c (.p (.bool false))))] none)
 (.seq (.reg [mq 16 0, lq 17 (.call .pu 6 [.t 16]), mq 15 17, lq 18 (.extract (.t 15) 0), lq 19 (.extract (.t 15) 1), lq 20 (.extract (.t 15) 2), lq 6 (.alloc [.p (.bool false), .nils]), mq 5 18, sq 2 6 19, mq 7 20] none)
 (.seq (.reg [mq 22 0, mq 23 1, lq 24 (.call .pu 7 [.t 22, .t 23]), mq 21 24, lq 25 (.extract (.t 21) 0), lq 26 (.extract (.t 21) 1), mq 8 25, mq 9 26] none)
 (.seq (.seq (.reg [mq 27 0, lq 28 (.call .pu 8 [.t 27]), mq 10 28] none)
 (.seq (.reg [mq 29 10, lq 30 (.bin .neq (.t 29) (ki 0))] none)
 (.fg [0, 1, 5, 6, 7, 8, 9, 10, 30] (.cond (.t 30)
 (.seq (.reg [mq 31 7, mq 32 10, bq 33 .eql 31 32, mq 34 33, ⟨(some 35), (some (34, true)), none, .mv (.t 9)⟩, ⟨(some 36), (some (34, true)), none, .mv (.t 10)⟩, ⟨(some 37), (some (34, true)), none, .bin .eql (.t 35) (.t 36)⟩, lq 38 (.pick (.t 34) (.t 37) (.c (.p (.bool false)))), mq 39 38, ⟨(some 40), (some (39, true)), none, .mv (.t 5)⟩, ⟨(some 41), (some (39, true)), none, .len (.t 40)⟩, ⟨(some 42), (some (39, true)), none, .bin .eql (.t 41) (ki 0)⟩, lq 43 (.pick (.t 39) (.t 42) (.c (.p (.bool false)))), mq 44 43, ⟨(some 45), (some (44, true)), none, .mv (.t 8)⟩, ⟨(some 46), (some (44, true)), none, .len (.t 45)⟩, ⟨(some 47), (some (44, true)), none, .bin .eql (.t 46) (ki 0)⟩, lq 48 (.pick (.t 44) (.t 47) (.c (.p (.bool false)))), mq 49 48, ⟨(some 50), (some (49, true)), none, .load true 2 (.t 6)⟩, ⟨(some 51), (some (49, true)), none, .build [.p (.bool false), .nils] []⟩, ⟨(some 52), (some (49, true)), none, .call .pu 9 [.t 50, .t 51]⟩, lq 53 (.pick (.t 49) (.t 52) (.c (.p (.bool false)))), mq 54 53, ⟨(some 55), (some (54, true)), none, .call .pu 10 []⟩, lq 56 (.pick (.t 54) (.t 55) (.c (.p (.bool false)))), mq 4 56] none)
 .ret)
 .skip))))
 (.seq (.reg [mq 58 0, lq 59 (.call .pu 11 [.t 58]), mq 57 59, lq 60 (.extract (.t 57) 0), lq 61 (.extract (.t 57) 1), lq 12 (.alloc [.p (.bool false), .nils]), mq 11 60, sq 2 12 61] none)
 (.seq (.reg [mq 63 0, mq 64 1, lq 65 (.call .pu 12 [.t 63, .t 64]), mq 62 65, lq 66 (.extract (.t 62) 0), lq 67 (.extract (.t 62) 1), mq 13 66, mq 14 67] none)
 (.seq (.reg [mq 68 7, lq 69 (.bin .eql (.t 68) (ki 0)), mq 70 69, ⟨(some 71), (some (70, true)), none, .mv (.t 5)⟩, ⟨(some 72), (some (70, true)), none, .mv (.t 11)⟩, ⟨(some 73), (some (70, true)), none, .call .pu 13 [.t 71, .t 72]⟩, lq 74 (.pick (.t 70) (.t 73) (.c (.p (.bool false)))), mq 75 74, ⟨(some 76), (some (75, true)), none, .load true 2 (.t 6)⟩, ⟨(some 77), (some (75, true)), none, .load true 2 (.t 12)⟩, ⟨(some 78), (some (75, true)), none, .call .pu 9 [.t 76, .t 77]⟩, lq 79 (.pick (.t 75) (.t 78) (.c (.p (.bool false)))), mq 80 79, ⟨(some 81), (some (80, true)), none, .mv (.t 9)⟩, ⟨(some 82), (some (80, true)), none, .mv (.t 14)⟩, ⟨(some 83), (some (80, true)), none, .bin .eql (.t 81) (.t 82)⟩, lq 84 (.pick (.t 80) (.t 83) (.c (.p (.bool false)))), mq 85 84, ⟨(some 86), (some (85, true)), none, .mv (.t 8)⟩, ⟨(some 87), (some (85, true)), none, .mv (.t 13)⟩, ⟨(some 88), (some (85, true)), none, .call .pu 13 [.t 86, .t 87]⟩, lq 89 (.pick (.t 85) (.t 88) (.c (.p (.bool false)))), mq 90 89, ⟨(some 91), (some (90, true)), none, .call .pu 10 []⟩, lq 92 (.pick (.t 90) (.t 91) (.c (.p (.bool false)))), mq 4 92] none)
 .ret))))))), [.t 4]⟩
theorem c3 : chkF Tryz.prog 3 f3 = true := by kernel_rfl
def f4 : RFun := ⟨(.seq (.reg [lq 2 (.mv (.c (.p (.bool false))))] none)
 (.seq (.seq (.reg [lq 10 (.call .pu 10 []), lq 11 (.un .not (.t 10))] none)
 (.fg [0, 11] (.cond (.t 11)
 (.seq (.reg [lq 2 (.mv (.c (.p (.bool false))))] none)
 .ret)
 .skip)))
 (.seq (.reg [mq 13 0, lq 14 (.call .pu 6 [.t 13]), mq 12 14, lq 15 (.extract (.t 12) 0), lq 16 (.extract (.t 12) 1), lq 17 (.extract (.t 12) 2), lq 4 (.alloc [.p (.bool false), .nils]), mq 3 15, sq 2 4 16, mq 5 17] none)
 (.seq (.seq (.reg [mq 18 0, lq 19 (.call .pu 8 [.t 18]), lq 20 (.bin .neq (.t 19) (ki 0))] none)
 (.fg [0, 3, 4, 5, 20] (.cond (.t 20)
 (.seq (.reg [mq 21 5, lq 22 (.bin .neq (.t 21) (ki 0)), mq 23 22, ⟨(some 24), (some (23, true)), none, .mv (.t 3)⟩, ⟨(some 25), (some (23, true)), none, .len (.t 24)⟩, ⟨(some 26), (some (23, true)), none, .bin .eql (.t 25) (ki 0)⟩, lq 27 (.pick (.t 23) (.t 26) (.c (.p (.bool false)))), mq 2 27] none)
 .ret)
 .skip)))
 (.seq (.reg [mq 29 0, mq 30 3, lq 31 (.call .pu 7 [.t 29, .t 30]), mq 28 31, lq 32 (.extract (.t 28) 0), lq 33 (.extract (.t 28) 1), mq 6 32, mq 7 33] none)
 (.seq (.seq (.reg [mq 34 5, lq 35 (.bin .neq (.t 34) (ki 0)), mq 36 35, ⟨(some 37), (some (36, false)), none, .mv (.t 7)⟩, ⟨(some 38), (some (36, false)), none, .bin .neq (.t 37) (ki 0)⟩, lq 39 (.pick (.t 36) (.c (.p (.bool true))) (.t 38)), mq 40 39, ⟨(some 41), (some (40, false)), none, .mv (.t 6)⟩, ⟨(some 42), (some (40, false)), none, .len (.t 41)⟩, ⟨(some 43), (some (40, false)), none, .mv (.t 0)⟩, ⟨(some 44), (some (40, false)), none, .len (.t 43)⟩, ⟨(some 45), (some (40, false)), none, .bin .neq (.t 42) (.t 44)⟩, lq 46 (.pick (.t 40) (.c (.p (.bool true))) (.t 45)), mq 47 46, ⟨(some 48), (some (47, false)), none, .load true 2 (.t 4)⟩, ⟨(some 49), (some (47, false)), none, .call .pu 14 [.t 48]⟩, ⟨(some 50), (some (47, false)), none, .bin .leq (.t 49) (ki 0)⟩, lq 51 (.pick (.t 47) (.c (.p (.bool true))) (.t 50))] none)
 (.fg [0, 4, 6, 51] (.cond (.t 51)
 (.seq (.reg [lq 2 (.mv (.c (.p (.bool false))))] none)
 .ret)
 .skip)))
 (.seq (.seq (.reg [lq 8 (.mv (ki 0))] none)
 (.fg [0, 4, 6, 8] (.block 0
 (.loop (.fg [0, 4, 6, 8]
 (.seq (.seq (.reg [mq 52 8, mq 53 6, lq 54 (.len (.t 53)), bq 55 .lss 52 54] none)
 (.fg [0, 4, 6, 8, 55] (.cond (.t 55)
 .skip
 (.exit 0))))
 (.seq (.block 1
 (.seq (.seq (.reg [mq 58 6, mq 59 8, xq 60 1 58 59, lF 61 1 60, lq 62 (.len (.t 61)), mq 63 0, lq 64 (.len (.t 63)), bq 65 .neq 62 64] none)
 (.fg [0, 4, 6, 8, 65] (.cond (.t 65)
 (.seq (.reg [lq 2 (.mv (.c (.p (.bool false))))] none)
 .ret)
 .skip)))
 (.seq (.reg [lq 9 (.mv (ki 0))] none)
 (.fg [0, 4, 6, 8, 9] (.block 2
 (.loop (.fg [0, 4, 6, 8, 9]
 (.seq (.seq (.reg [mq 66 9, mq 67 6, mq 68 8, xq 69 1 67 68, lF 70 1 69, lq 71 (.len (.t 70)), bq 72 .lss 66 71] none)
 (.fg [0, 4, 6, 8, 9, 72] (.cond (.t 72)
 .skip
 (.exit 2))))
 (.seq (.block 3
 (.seq (.reg [mq 75 8, mq 76 9, bq 77 .eql 75 76, mq 78 77, ⟨(some 79), (some (78, true)), none, .mv (.t 6)⟩, ⟨(some 80), (some (78, true)), none, .mv (.t 8)⟩, ⟨(some 81), (some (78, true)), none, .indexA 1 (.t 79) (.t 80)⟩, ⟨(some 82), (some (78, true)), none, .load false 1 (.t 81)⟩, ⟨(some 83), (some (78, true)), none, .mv (.t 9)⟩, ⟨(some 84), (some (78, true)), none, .indexA 2 (.t 82) (.t 83)⟩, ⟨(some 85), (some (78, true)), none, .load true 2 (.t 84)⟩, ⟨(some 86), (some (78, true)), none, .load true 2 (.t 4)⟩, ⟨(some 87), (some (78, true)), none, .call .pu 9 [.t 85, .t 86]⟩, ⟨(some 88), (some (78, true)), none, .un .not (.t 87)⟩, lq 89 (.pick (.t 78) (.t 88) (.c (.p (.bool false)))), mq 90 89, ⟨(some 91), (some (90, false)), none, .mv (.t 8)⟩, ⟨(some 92), (some (90, false)), none, .mv (.t 9)⟩, ⟨(some 93), (some (90, false)), none, .bin .neq (.t 91) (.t 92)⟩, ⟨(some 94), (some (90, false)), none, .mv (.t 93)⟩, ⟨(some 95), (some (94, true)), none, .mv (.t 6)⟩, ⟨(some 96), (some (94, true)), none, .mv (.t 8)⟩, ⟨(some 97), (some (94, true)), none, .indexA 1 (.t 95) (.t 96)⟩, ⟨(some 98), (some (94, true)), none, .load false 1 (.t 97)⟩, ⟨(some 99), (some (94, true)), none, .mv (.t 9)⟩, ⟨(some 100), (some (94, true)), none, .indexA 2 (.t 98) (.t 99)⟩, ⟨(some 101), (some (94, true)), none, .load true 2 (.t 100)⟩, ⟨(some 102), (some (94, true)), none, .build [.p (.bool false), .nils] []⟩, ⟨(some 103), (some (94, true)), none, .call .pu 9 [.t 101, .t 102]⟩, ⟨(some 104), (some (94, true)), none, .un .not (.t 103)⟩, ⟨(some 105), (some (90, false)), none, .pick (.t 94) (.t 104) (.c (.p (.bool false)))⟩, lq 106 (.pick (.t 90) (.c (.p (.bool true))) (.t 105))] (some (0, [])))
 (.fg [0, 4, 6, 8, 9, 106] (.cond (.t 106)
 (.seq (.reg [lq 2 (.mv (.c (.p (.bool false))))] none)
 .ret)
 .skip))))
 (.fg [0, 4, 6, 8, 9] (.reg [mq 73 9, lq 74 (.bin .add (.t 73) (ki 1)), mq 9 74] none)))))))))))
 (.fg [0, 4, 6, 8] (.reg [mq 56 8, lq 57 (.bin .add (.t 56) (ki 1)), mq 8 57] none)))))))))
 (.seq (.reg [lq 2 (.mv (.c (.p (.bool true))))] none)
 .ret)))))))), [.t 2]⟩
theorem c4 : chkF Tryz.prog 4 f4 = true := by kernel_rfl
def f6 : RFun := ⟨(.seq (.reg [lq 2 (.mv (.c (.nils))), lq 3 (.alloc [.p (.bool false), .nils]), lq 4 (.mv (ki 0))] none)
 (.seq (.seq (.reg [mq 8 0, lq 9 (.call .pu 22 [.t 8]), mq 5 9] none)
 (.seq (.reg [mq 10 5, lq 11 (.bin .neq (.t 10) (ki 0))] none)
 (.fg [0, 3, 5, 11] (.cond (.t 11)
 (.seq (.reg [lq 12 (.build [.p (.bool false), .nils] []), mq 13 5, lq 2 (.mv (.c (.nils))), sq 2 3 12, mq 4 13] none)
 .ret)
 .skip))))
 (.seq (.reg [mq 15 0, lq 16 (.call .pu 23 [.t 15]), mq 14 16, lq 17 (.extract (.t 14) 0), lq 18 (.extract (.t 14) 1), lq 7 (.alloc [.p (.bool false), .nils]), mq 6 17, sq 2 7 18] none)
 (.seq (.reg [mq 19 6, lT 20 2 7, mq 2 19, sq 2 3 20, lq 4 (.mv (ki 0))] (some (0, [])))
 .ret)))), [.t 2, .cell 3 true 2, .t 4]⟩
theorem c6 : chkF Tryz.prog 6 f6 = true := by kernel_rfl
def f7 : RFun := ⟨(.seq (.reg [lq 2 (.box (.t 0)), lq 3 (.box (.t 1)), lq 4 (.alloc [.nils]), lq 5 (.alloc [.p (.int .i64 0)])] none)
 (.seq (.seq (.reg [lF 16 1 2, lq 17 (.call .fz 22 [.t 16]), mq 6 17] none)
 (.seq (.reg [mq 18 6, lq 19 (.bin .neq (.t 18) (ki 0))] none)
 (.fg [2, 3, 4, 5, 6, 19] (.cond (.t 19)
 (.seq (.reg [mq 20 6, ⟨none, none, none, .store 1 (.t 4) (.c (.nils))⟩, sq 1 5 20] none)
 (.frzk 59 .ret))
 .skip))))
 (.seq (.seq (.reg [lF 21 1 3, lq 22 (.call .keep 24 [.t 21])] none)
 (.fg [2, 3, 4, 5, 22] (.block 0
 (.rng false [23, 24] (.t 22)
 (.reg [mq 8 24] none)
 (.fg [2, 4, 5, 8] (.block 1
 (.seq (.reg [mq 25 8, lq 26 (.len (.t 25)), lF 27 1 2, lq 28 (.indexA 1 (.t 27) (ki 0)), lF 29 1 28, lq 30 (.len (.t 29)), bq 31 .neq 26 30] none)
 (.fg [4, 5, 31] (.cond (.t 31)
 (.seq (.reg [⟨none, none, none, .store 1 (.t 4) (.c (.nils))⟩, ⟨none, none, none, .store 1 (.t 5) (ki 8)⟩] none)
 .bret)
 .skip)))))))))
 (.seq (.reg [lF 32 1 2, lq 33 (.len (.t 32)), lq 34 (.mks true 1 24 (.sl []) (.t 33) (.t 33)), lq 9 (.alloc [.nils]), sq 1 9 34] none)
 (.seq (.seq (.reg [lF 35 1 2, lq 36 (.call .keep 24 [.t 35])] none)
 (.fg [3, 4, 5, 9, 36] (.block 2
 (.rng false [37, 38] (.t 36)
 (.seq (.reg [lq 10 (.alloc [.p (.int .i64 0)]), sq 1 10 37] none)
 (.reg [lq 11 (.alloc [.nils]), sq 1 11 38] none))
 (.fg [3, 9, 10, 11] (.block 3
 (.seq (.reg [lF 39 1 3, lq 40 (.call .keep 24 [.t 39])] none)
 (.fg [9, 10, 11, 40] (.block 4
 (.rng true [41, 42] (.t 40)
 (.reg [mq 13 42] none)
 (.fg [9, 10, 11, 13] (.block 5
 (.seq (.reg [lF 44 1 11, mq 45 13, lq 46 (.call .fz 25 [.t 44, .t 45]), mq 43 46, lq 47 (.extract (.t 43) 0), lq 48 (.extract (.t 43) 1), lq 14 (.alloc [.p (.bool false), .nils]), sq 2 14 47, mq 15 48] none)
 (.reg [lF 49 1 9, lF 50 1 10, lF 51 1 9, lF 52 1 10, xq 53 1 51 52, lF 54 1 53, lT 55 2 14, ⟨(some 56), none, (some 0), .bslice 2 [.t 55]⟩, ⟨(some 57), none, (some 1), .append 2 32 (.t 54) (.t 56)⟩, xq 58 1 49 50, sq 1 58 57] (some (2, [(0, 7), (1, 7), (2, 7), (3, 7), (4, 7), (5, 7), (0, 8), (1, 8)]))))))))))))))))
 (.seq (.reg [lF 59 1 9, sq 1 4 59, ⟨none, none, none, .store 1 (.t 5) (ki 0)⟩] none)
 (.frzk 59 .ret))))))), [.cell 4 false 1, .cell 5 false 1]⟩
theorem c7 : chkF Tryz.prog 7 f7 = true := by kernel_rfl
def f9 : RFun := ⟨(.seq (.reg [lq 2 (.box (.t 0)), lq 3 (.box (.t 1)), lq 4 (.mv (.c (.p (.bool false))))] none)
 (.seq (.seq (.reg [lq 6 (.fieldA 0 (.t 2)), lF 7 1 6, lq 8 (.fieldA 0 (.t 3)), lF 9 1 8, lq 10 (.beq true (.t 7) (.t 9)), mq 11 10, ⟨(some 12), (some (11, false)), none, .fieldA 1 (.t 2)⟩, ⟨(some 13), (some (11, false)), none, .load false 1 (.t 12)⟩, ⟨(some 14), (some (11, false)), none, .len (.t 13)⟩, ⟨(some 15), (some (11, false)), none, .fieldA 1 (.t 3)⟩, ⟨(some 16), (some (11, false)), none, .load false 1 (.t 15)⟩, ⟨(some 17), (some (11, false)), none, .len (.t 16)⟩, ⟨(some 18), (some (11, false)), none, .bin .neq (.t 14) (.t 17)⟩, lq 19 (.pick (.t 11) (.c (.p (.bool true))) (.t 18))] none)
 (.fg [2, 3, 19] (.cond (.t 19)
 (.seq (.reg [lq 4 (.mv (.c (.p (.bool false))))] none)
 .ret)
 .skip)))
 (.seq (.seq (.reg [lq 5 (.mv (ki 0))] none)
 (.fg [2, 3, 5] (.block 0
 (.loop (.fg [2, 3, 5]
 (.seq (.seq (.reg [mq 20 5, lq 21 (.fieldA 1 (.t 2)), lF 22 1 21, lq 23 (.len (.t 22)), bq 24 .lss 20 23] none)
 (.fg [2, 3, 5, 24] (.cond (.t 24)
 .skip
 (.exit 0))))
 (.seq (.block 1
 (.seq (.reg [lq 27 (.fieldA 1 (.t 2)), lF 28 1 27, mq 29 5, xq 30 1 28 29, lF 31 1 30, lq 32 (.fieldA 1 (.t 3)), lF 33 1 32, mq 34 5, xq 35 1 33 34, lF 36 1 35, bq 37 .neq 31 36] (some (0, [])))
 (.fg [2, 3, 5, 37] (.cond (.t 37)
 (.seq (.reg [lq 4 (.mv (.c (.p (.bool false))))] none)
 .ret)
 .skip))))
 (.fg [2, 3, 5] (.reg [mq 25 5, lq 26 (.bin .add (.t 25) (ki 1)), mq 5 26] none)))))))))
 (.seq (.reg [lq 4 (.mv (.c (.p (.bool true))))] none)
 .ret)))), [.t 4]⟩
theorem c9 : chkF Tryz.prog 9 f9 = true := by kernel_rfl
def f10 : RFun := ⟨(.seq (.reg [lq 0 (.mv (.c (.p (.bool false))))] none)
 (.seq (.reg [lq 5 (.call .pu 27 [.c (.p (.int .i64 1))]), lq 6 (.call .pu 27 [.c (.p (.int .i64 0))]), lq 7 (.bslice 2 [.t 5, .t 6]), lq 8 (.call .pu 27 [.c (.p (.int .i64 0))]), lq 9 (.call .pu 27 [.c (.p (.int .i64 2))]), lq 10 (.bslice 2 [.t 8, .t 9]), lq 11 (.bslice 1 [.t 7, .t 10]), lq 12 (.call .fz 6 [.t 11]), mq 4 12, lq 13 (.extract (.t 4) 0), lq 14 (.extract (.t 4) 1), lq 15 (.extract (.t 4) 2), lq 2 (.alloc [.p (.bool false), .nils]), mq 1 13, sq 2 2 14, mq 3 15] none)
 (.seq (.reg [mq 16 3, lq 17 (.bin .eql (.t 16) (ki 0)), mq 18 17, ⟨(some 19), (some (18, true)), none, .load true 2 (.t 2)⟩, ⟨(some 20), (some (18, true)), none, .call .pu 27 [.c (.p (.int .i64 4))]⟩, ⟨(some 21), (some (18, true)), none, .call .pu 9 [.t 19, .t 20]⟩, lq 22 (.pick (.t 18) (.t 21) (.c (.p (.bool false)))), mq 23 22, ⟨(some 24), (some (23, true)), none, .mv (.t 1)⟩, ⟨(some 25), (some (23, true)), none, .call .pu 27 [.c (.p (.int .i64 4))]⟩, ⟨(some 26), (some (23, true)), none, .call .pu 27 [.c (.p (.int .i64 0))]⟩, ⟨(some 27), (some (23, true)), (some 0), .bslice 2 [.t 25, .t 26]⟩, ⟨(some 28), (some (23, true)), none, .call .pu 27 [.c (.p (.int .i64 0))]⟩, ⟨(some 29), (some (23, true)), none, .call .pu 27 [.c (.p (.int .i64 2))]⟩, ⟨(some 30), (some (23, true)), (some 1), .bslice 2 [.t 28, .t 29]⟩, ⟨(some 31), (some (23, true)), (some 2), .bslice 1 [.t 27, .t 30]⟩, ⟨(some 32), (some (23, true)), none, .call .fz 13 [.t 24, .t 31]⟩, lq 33 (.pick (.t 23) (.t 32) (.c (.p (.bool false)))), mq 0 33] (some (3, [(11, 14)])))
 .ret))), [.t 0]⟩
theorem c10 : chkF Tryz.prog 10 f10 = true := by kernel_rfl
def f11 : RFun := ⟨(.seq (.reg [lq 2 (.mv (.c (.nils))), lq 3 (.alloc [.p (.bool false), .nils])] none)
 (.seq (.reg [mq 14 0, lq 15 (.call .pu 28 [.t 14]), mq 13 15, lq 16 (.extract (.t 13) 0), lq 17 (.extract (.t 13) 1), lq 4 (.alloc [.nils, .nils]), sq 2 4 16, mq 5 17] none)
 (.seq (.reg [lq 18 (.fieldA 0 (.t 4)), lF 19 1 18, lq 20 (.fieldA 0 (.t 4)), lF 21 1 20, lq 22 (.len (.t 21)), lq 23 (.bin .sub (.t 22) (ki 1)), xq 24 2 19 23, lT 25 2 24, lq 6 (.alloc [.p (.bool false), .nils]), sq 2 6 25] none)
 (.seq (.reg [mq 26 0, lq 27 (.len (.t 26)), lq 28 (.mks true 1 24 (.sl []) (.t 27) (.t 27)), mq 7 28] none)
 (.seq (.seq (.reg [lq 8 (.mv (ki 0))] none)
 (.fg [0, 3, 6, 7, 8] (.block 0
 (.loop (.fg [0, 3, 6, 7, 8]
 (.seq (.seq (.reg [mq 29 8, mq 30 0, lq 31 (.indexA 1 (.t 30) (ki 0)), lF 32 1 31, lq 33 (.len (.t 32)), bq 34 .lss 29 33] none)
 (.fg [0, 3, 6, 7, 8, 34] (.cond (.t 34)
 .skip
 (.exit 0))))
 (.seq (.block 1
 (.seq (.reg [mq 38 0, mq 39 0, lq 40 (.indexA 1 (.t 39) (ki 0)), lF 41 1 40, lq 42 (.len (.t 41)), mq 43 8, lq 44 (.call .pu 30 [.t 42, .t 43]), lq 45 (.call .pu 29 [.t 38, .t 44]), mq 37 45, lq 46 (.extract (.t 37) 0), lq 47 (.extract (.t 37) 1), lq 48 (.extract (.t 37) 2), lq 10 (.alloc [.p (.bool false), .nils, .p (.bool false), .nils]), mq 9 46, sq 4 10 47, mq 11 48] none)
 (.seq (.reg [lq 12 (.mv (ki 0))] none)
 (.fg [0, 3, 6, 7, 8, 9, 12] (.block 2
 (.loop (.fg [0, 3, 6, 7, 8, 9, 12]
 (.seq (.seq (.reg [mq 49 12, mq 50 0, lq 51 (.len (.t 50)), bq 52 .lss 49 51] none)
 (.fg [0, 3, 6, 7, 8, 9, 12, 52] (.cond (.t 52)
 .skip
 (.exit 2))))
 (.seq (.block 3
 (.reg [mq 55 7, mq 56 12, mq 57 7, mq 58 12, xq 59 1 57 58, lF 60 1 59, mq 61 9, mq 62 12, xq 63 4 61 62, lT 64 4 63, lT 65 2 6, lq 66 (.call .fz 33 [.t 65]), lq 67 (.call .fz 32 [.t 64, .t 66]), lq 68 (.call .pu 31 [.t 67]), ⟨(some 69), none, (some 0), .bslice 2 [.t 68]⟩, ⟨(some 70), none, (some 1), .append 2 32 (.t 60) (.t 69)⟩, xq 71 1 55 56, sq 1 71 70] (some (2, [(4, 11), (5, 11), (8, 11), (9, 11), (4, 12), (5, 12), (4, 14), (5, 14)]))))
 (.fg [0, 3, 6, 7, 8, 9, 12] (.reg [mq 53 12, lq 54 (.bin .add (.t 53) (ki 1)), mq 12 54] none)))))))))))
 (.fg [0, 3, 6, 7, 8] (.reg [mq 35 8, lq 36 (.bin .add (.t 35) (ki 1)), mq 8 36] none)))))))))
 (.seq (.reg [mq 72 7, lT 73 2 6, mq 2 72, sq 2 3 73] (some (0, [])))
 (.frzk 2 .ret))))))), [.t 2, .cell 3 true 2]⟩
theorem c11 : chkF Tryz.prog 11 f11 = true := by kernel_rfl
def f12 : RFun := ⟨(.seq (.reg [lq 4 (.mv (.c (.nils))), lq 5 (.mv (ki 0))] none)
 (.seq (.seq (.reg [lq 6 (.mv (ki 0))] none)
 (.fg [0, 1, 6] (.block 0
 (.loop (.fg [0, 1, 6]
 (.seq (.seq (.reg [mq 11 6, mq 12 1, lq 13 (.len (.t 12)), bq 14 .lss 11 13] none)
 (.fg [0, 1, 6, 14] (.cond (.t 14)
 .skip
 (.exit 0))))
 (.seq (.block 1
 (.seq (.reg [mq 17 1, mq 18 6, xq 19 1 17 18, lF 20 1 19, lq 21 (.len (.t 20)), mq 22 0, lq 23 (.indexA 1 (.t 22) (ki 0)), lF 24 1 23, lq 25 (.len (.t 24)), bq 26 .neq 21 25] (some (0, [])))
 (.fg [0, 1, 6, 26] (.cond (.t 26)
 (.seq (.reg [lq 4 (.mv (.c (.nils))), lq 5 (.mv (ki 8))] none)
 .ret)
 .skip))))
 (.fg [0, 1, 6] (.reg [mq 15 6, lq 16 (.bin .add (.t 15) (ki 1)), mq 6 16] none)))))))))
 (.seq (.reg [lq 7 (.mv (.c (.nils)))] none)
 (.seq (.seq (.reg [lq 8 (.mv (ki 0))] none)
 (.fg [0, 1, 7, 8] (.block 2
 (.loop (.fg [0, 1, 7, 8]
 (.seq (.seq (.reg [mq 27 8, mq 28 0, lq 29 (.len (.t 28)), bq 30 .lss 27 29] none)
 (.fg [0, 1, 7, 8, 30] (.cond (.t 30)
 .skip
 (.exit 2))))
 (.seq (.block 3
 (.seq (.reg [lq 9 (.mv (.c (.nils)))] none)
 (.seq (.seq (.reg [lq 10 (.mv (ki 0))] none)
 (.fg [0, 1, 7, 8, 9, 10] (.block 4
 (.loop (.fg [0, 1, 7, 8, 9, 10]
 (.seq (.seq (.reg [mq 33 10, mq 34 1, lq 35 (.len (.t 34)), bq 36 .lss 33 35] none)
 (.fg [0, 1, 7, 8, 9, 10, 36] (.cond (.t 36)
 .skip
 (.exit 4))))
 (.seq (.block 5
 (.reg [mq 39 9, mq 40 0, mq 41 8, xq 42 1 40 41, lF 43 1 42, mq 44 1, mq 45 10, xq 46 1 44 45, lF 47 1 46, lq 48 (.call .pu 34 [.t 43, .t 47]), ⟨(some 49), none, (some 0), .bslice 2 [.t 48]⟩, ⟨(some 50), none, (some 1), .append 2 32 (.t 39) (.t 49)⟩, mq 9 50] (some (2, []))))
 (.fg [0, 1, 7, 8, 9, 10] (.reg [mq 37 10, lq 38 (.bin .add (.t 37) (ki 1)), mq 10 38] none)))))))))
 (.reg [mq 51 7, mq 52 9, lq 53 (.bslice 1 [.t 52]), lq 54 (.append 1 24 (.t 51) (.t 53)), mq 7 54] none))))
 (.fg [0, 1, 7, 8] (.reg [mq 31 8, lq 32 (.bin .add (.t 31) (ki 1)), mq 8 32] none)))))))))
 (.seq (.reg [mq 55 7, mq 4 55, lq 5 (.mv (ki 0))] none)
 .ret))))), [.t 4, .t 5]⟩
theorem c12 : chkF Tryz.prog 12 f12 = true := by kernel_rfl
def f13 : RFun := ⟨(.seq (.reg [lq 4 (.mv (.c (.p (.bool false))))] none)
 (.seq (.seq (.reg [mq 6 0, lq 7 (.len (.t 6)), mq 8 1, lq 9 (.len (.t 8)), bq 10 .neq 7 9] none)
 (.fg [0, 1, 10] (.cond (.t 10)
 (.seq (.reg [lq 4 (.mv (.c (.p (.bool false))))] none)
 .ret)
 .skip)))
 (.seq (.seq (.reg [lq 5 (.mv (ki 0))] none)
 (.fg [0, 1, 5] (.block 0
 (.loop (.fg [0, 1, 5]
 (.seq (.seq (.reg [mq 11 5, mq 12 0, lq 13 (.len (.t 12)), bq 14 .lss 11 13] none)
 (.fg [0, 1, 5, 14] (.cond (.t 14)
 .skip
 (.exit 0))))
 (.seq (.block 1
 (.seq (.reg [mq 17 0, mq 18 5, xq 19 1 17 18, lF 20 1 19, mq 21 1, mq 22 5, xq 23 1 21 22, lF 24 1 23, lq 25 (.call .pu 35 [.t 20, .t 24]), lq 26 (.un .not (.t 25))] (some (0, [])))
 (.fg [0, 1, 5, 26] (.cond (.t 26)
 (.seq (.reg [lq 4 (.mv (.c (.p (.bool false))))] none)
 .ret)
 .skip))))
 (.fg [0, 1, 5] (.reg [mq 15 5, lq 16 (.bin .add (.t 15) (ki 1)), mq 5 16] none)))))))))
 (.seq (.reg [lq 4 (.mv (.c (.p (.bool true))))] none)
 .ret)))), [.t 4]⟩
theorem c13 : chkF Tryz.prog 13 f13 = true := by kernel_rfl
def f23 : RFun := ⟨(.seq (.reg [lq 2 (.mv (.c (.nils))), lq 3 (.alloc [.p (.bool false), .nils])] none)
 (.seq (.reg [mq 17 0, lq 18 (.call .pu 54 [.t 17]), mq 16 18, lq 19 (.extract (.t 16) 0), lq 20 (.extract (.t 16) 1), mq 4 19, mq 5 20] none)
 (.seq (.reg [mq 22 4, lq 23 (.call .pu 55 [.t 22]), mq 21 23, lq 24 (.extract (.t 21) 0), lq 25 (.extract (.t 21) 1), lq 6 (.alloc [.p (.bool false), .nils]), sq 2 6 24, mq 7 25] none)
 (.seq (.reg [mq 27 4, lq 28 (.call .pu 56 [.t 27]), mq 26 28, lq 29 (.extract (.t 26) 0), lq 30 (.extract (.t 26) 1), lq 31 (.extract (.t 26) 2), lq 9 (.alloc [.p (.bool false), .nils]), mq 8 29, sq 2 9 30, mq 10 31] none)
 (.seq (.reg [lT 33 2 6, lT 34 2 9, lq 35 (.call .pu 57 [.t 33, .t 34]), mq 32 35, lq 36 (.extract (.t 32) 0), lq 37 (.extract (.t 32) 1), lq 11 (.alloc [.p (.bool false), .nils]), sq 2 11 36, mq 12 37] none)
 (.seq (.reg [mq 39 8, mq 40 0, lq 41 (.call .keep 58 [.t 39, .t 40]), mq 38 41, lq 42 (.extract (.t 38) 0), lq 43 (.extract (.t 38) 1), mq 13 42, mq 14 43] none)
 (.seq (.seq (.reg [mq 44 13, lq 45 (.len (.t 44)), lq 46 (.mv (ki 0))] none)
 (.fg [3, 6, 11, 13, 45, 46] (.block 0
 (.loop (.fg [3, 6, 11, 13, 45, 46]
 (.seq (.reg [bq 47 .lss 46 45] none)
 (.seq (.cond (.t 47)
 .skip
 (.exit 0))
 (.fg [3, 6, 11, 13, 45, 46] (.seq (.block 1
 (.seq (.reg [mq 48 46, mq 15 48] none)
 (.reg [mq 49 13, mq 50 15, lT 51 2 11, mq 52 13, mq 53 15, xq 54 1 52 53, lF 55 1 54, lq 56 (.call .fz 59 [.t 51, .t 55]), xq 57 1 49 50, sq 1 57 56] (some (0, [])))))
 (.fg [3, 6, 11, 13, 45, 46] (.reg [lq 58 (.bin .add (.t 46) (ki 1)), mq 46 58] none)))))))))))
 (.seq (.reg [mq 59 13, lT 60 2 6, mq 2 59, sq 2 3 60] (some (0, [])))
 .ret)))))))), [.t 2, .cell 3 true 2]⟩
theorem c23 : chkF Tryz.prog 23 f23 = true := by kernel_rfl
def f24 : RFun := ⟨(.seq (.reg [lq 1 (.box (.t 0)), lq 2 (.mv (.c (.any)))] none)
 (.seq (.reg [lq 3 (.mkfn 60 [.t 1]), mq 2 3] none)
 .ret)), [.t 2]⟩
theorem c24 : chkF Tryz.prog 24 f24 = true := by kernel_rfl
def f27 : RFun := ⟨(.seq (.reg [lq 2 (.alloc [.p (.bool false), .nils])] none)
 (.seq (.reg [mq 3 0, lq 4 (.call .pu 47 [.t 3]), sq 2 2 4] none)
 .ret)), [.cell 2 true 2]⟩
theorem c27 : chkF Tryz.prog 27 f27 = true := by kernel_rfl
def f28 : RFun := ⟨(.seq (.reg [lq 2 (.alloc [.nils, .nils]), lq 3 (.mv (ki 0))] none)
 (.seq (.reg [mq 7 0, lq 8 (.call .pu 26 [.t 7, .c (.p (.bool true))]), mq 6 8, lq 9 (.extract (.t 6) 0), lq 10 (.extract (.t 6) 1), lq 4 (.alloc [.nils, .nils]), sq 2 4 9, mq 5 10] none)
 (.seq (.seq (.reg [mq 11 5, lq 12 (.bin .neq (.t 11) (ki 0))] none)
 (.fg [2, 4, 5, 12] (.cond (.t 12)
 (.seq (.reg [lq 13 (.build [.nils, .nils] []), mq 14 5, sq 2 2 13, mq 3 14] none)
 .ret)
 .skip)))
 (.seq (.reg [lT 15 2 4, lq 16 (.call .pu 64 [.t 15]), sq 2 2 16, lq 3 (.mv (ki 0))] none)
 .ret)))), [.cell 2 true 2, .t 3]⟩
theorem c28 : chkF Tryz.prog 28 f28 = true := by kernel_rfl
def f29 : RFun := ⟨(.seq (.reg [lq 4 (.mv (.c (.nils))), lq 5 (.alloc [.p (.bool false), .nils, .p (.bool false), .nils]), lq 6 (.mv (ki 0))] none)
 (.seq (.reg [mq 22 0, lq 23 (.call .pu 26 [.t 22, .c (.p (.bool true))]), mq 21 23, lq 24 (.extract (.t 21) 0), lq 25 (.extract (.t 21) 1), lq 7 (.alloc [.nils, .nils]), sq 2 7 24, mq 8 25] none)
 (.seq (.seq (.reg [mq 26 8, lq 27 (.bin .neq (.t 26) (ki 0))] none)
 (.fg [0, 1, 5, 7, 8, 27] (.cond (.t 27)
 (.seq (.reg [lq 28 (.build [.p (.bool false), .nils, .p (.bool false), .nils] []), mq 29 8, lq 4 (.mv (.c (.nils))), sq 4 5 28, mq 6 29] none)
 .ret)
 .skip)))
 (.seq (.seq (.reg [mq 30 1, lq 31 (.len (.t 30)), mq 32 0, lq 33 (.indexA 1 (.t 32) (ki 0)), lF 34 1 33, lq 35 (.len (.t 34)), bq 36 .neq 31 35] none)
 (.fg [0, 1, 5, 7, 36] (.cond (.t 36)
 (.seq (.reg [lq 37 (.build [.p (.bool false), .nils, .p (.bool false), .nils] []), lq 4 (.mv (.c (.nils))), sq 4 5 37, lq 6 (.mv (ki 8))] none)
 .ret)
 .skip)))
 (.seq (.seq (.reg [lq 9 (.mv (ki 0))] none)
 (.fg [0, 1, 5, 7, 9] (.block 0
 (.loop (.fg [0, 1, 5, 7, 9]
 (.seq (.seq (.reg [mq 38 9, mq 39 1, lq 40 (.len (.t 39)), bq 41 .lss 38 40] none)
 (.fg [0, 1, 5, 7, 9, 41] (.cond (.t 41)
 .skip
 (.exit 0))))
 (.seq (.block 1
 (.seq (.reg [mq 44 1, mq 45 9, xq 46 4 44 45, lT 47 4 46, lq 48 (.call .pu 65 [.t 47]), lq 49 (.un .not (.t 48))] none)
 (.fg [0, 1, 5, 7, 9, 49] (.cond (.t 49)
 (.seq (.reg [lq 50 (.build [.p (.bool false), .nils, .p (.bool false), .nils] []), lq 4 (.mv (.c (.nils))), sq 4 5 50, lq 6 (.mv (ki 30))] none)
 .ret)
 .skip))))
 (.fg [0, 1, 5, 7, 9] (.reg [mq 42 9, lq 43 (.bin .add (.t 42) (ki 1)), mq 9 43] none)))))))))
 (.seq (.reg [mq 51 0, lq 52 (.len (.t 51)), mq 10 52] none)
 (.seq (.reg [lq 11 (.mv (.c (.nils)))] none)
 (.seq (.seq (.reg [lq 12 (.mv (ki 0))] none)
 (.fg [0, 1, 5, 7, 10, 11, 12] (.block 2
 (.loop (.fg [0, 1, 5, 7, 10, 11, 12]
 (.seq (.seq (.reg [mq 53 12, mq 54 10, bq 55 .lss 53 54] none)
 (.fg [0, 1, 5, 7, 10, 11, 12, 55] (.cond (.t 55)
 .skip
 (.exit 2))))
 (.seq (.block 3
 (.seq (.reg [mq 58 1, mq 59 0, mq 60 12, xq 61 1 59 60, lF 62 1 61, lq 63 (.call .pu 66 [.t 58, .t 62]), lq 13 (.alloc [.p (.bool false), .nils, .p (.bool false), .nils]), sq 4 13 63] none)
 (.seq (.seq (.reg [lq 14 (.mv (ki 0))] none)
 (.fg [0, 1, 5, 7, 10, 11, 12, 13, 14] (.block 4
 (.loop (.fg [0, 1, 5, 7, 10, 11, 12, 13, 14]
 (.seq (.seq (.reg [mq 64 14, mq 65 12, bq 66 .lss 64 65] none)
 (.fg [0, 1, 5, 7, 10, 11, 12, 13, 14, 66] (.cond (.t 66)
 .skip
 (.exit 4))))
 (.seq (.block 5
 (.reg [lT 69 4 13, lq 70 (.fieldA 0 (.t 7)), lF 71 1 70, mq 72 12, xq 73 1 71 72, lF 74 1 73, mq 75 14, xq 76 4 74 75, lT 77 4 76, mq 78 11, mq 79 14, xq 80 4 78 79, lT 81 4 80, lq 82 (.call .pu 32 [.t 77, .t 81]), lq 83 (.call .pu 67 [.t 69, .t 82]), sq 4 13 83] (some (0, []))))
 (.fg [0, 1, 5, 7, 10, 11, 12, 13, 14] (.reg [mq 67 14, lq 68 (.bin .add (.t 67) (ki 1)), mq 14 68] none)))))))))
 (.reg [mq 84 11, lT 85 4 13, lq 86 (.bslice 4 [.t 85]), lq 87 (.append 4 64 (.t 84) (.t 86)), mq 11 87] none))))
 (.fg [0, 1, 5, 7, 10, 11, 12] (.reg [mq 56 12, lq 57 (.bin .add (.t 56) (ki 1)), mq 12 57] none)))))))))
 (.seq (.reg [mq 88 10, lq 89 (.mks false 4 64 (.agg [.bool false, .sl [], .bool false, .sl []]) (.t 88) (.t 88)), mq 15 89] none)
 (.seq (.reg [lq 90 (.build [.p (.bool false), .nils] []), lq 91 (.call .pu 33 [.t 90]), lq 16 (.alloc [.p (.bool false), .nils, .p (.bool false), .nils]), sq 4 16 91] none)
 (.seq (.seq (.reg [lq 17 (.mv (ki 0))] none)
 (.fg [1, 5, 7, 10, 11, 15, 16, 17] (.block 6
 (.loop (.fg [1, 5, 7, 10, 11, 15, 16, 17]
 (.seq (.seq (.reg [mq 92 17, mq 93 1, lq 94 (.len (.t 93)), bq 95 .lss 92 94] none)
 (.fg [1, 5, 7, 10, 11, 15, 16, 17, 95] (.cond (.t 95)
 .skip
 (.exit 6))))
 (.seq (.block 7
 (.reg [lT 98 4 16, mq 99 1, mq 100 17, xq 101 4 99 100, lT 102 4 101, lq 103 (.call .pu 69 [.t 102]), lq 104 (.call .pu 68 [.t 98, .t 103]), sq 4 16 104] (some (0, []))))
 (.fg [1, 5, 7, 10, 11, 15, 16, 17] (.reg [mq 96 17, lq 97 (.bin .add (.t 96) (ki 1)), mq 17 97] none)))))))))
 (.seq (.seq (.reg [mq 105 10, lq 106 (.bin .sub (.t 105) (ki 1)), mq 18 106] none)
 (.fg [5, 7, 10, 11, 15, 16, 18] (.block 8
 (.loop (.fg [5, 7, 10, 11, 15, 16, 18]
 (.seq (.seq (.reg [mq 107 18, lq 108 (.bin .geq (.t 107) (ki 0))] none)
 (.fg [5, 7, 10, 11, 15, 16, 18, 108] (.cond (.t 108)
 .skip
 (.exit 8))))
 (.seq (.block 9
 (.seq (.reg [mq 111 11, mq 112 18, xq 113 4 111 112, lT 114 4 113, lq 115 (.fieldA 1 (.t 7)), lF 116 1 115, mq 117 18, xq 118 4 116 117, lT 119 4 118, lq 120 (.call .pu 70 [.t 114, .t 119]), ⟨(some 19), none, (some 0), .alloc [.p (.bool false), .nils, .p (.bool false), .nils]⟩, sq 4 19 120] (some (1, [])))
 (.seq (.reg [lT 121 4 16, lT 122 4 19, lq 123 (.call .pu 69 [.t 122]), lq 124 (.fieldA 1 (.t 7)), lF 125 1 124, mq 126 18, xq 127 4 125 126, lT 128 4 127, lq 129 (.call .pu 32 [.t 123, .t 128]), lq 130 (.call .pu 67 [.t 121, .t 129]), sq 4 16 130] (some (0, [])))
 (.seq (.seq (.reg [mq 131 18, lq 132 (.bin .add (.t 131) (ki 1)), mq 20 132] none)
 (.fg [5, 7, 10, 11, 15, 16, 18, 19, 20] (.block 10
 (.loop (.fg [5, 7, 10, 11, 15, 16, 18, 19, 20]
 (.seq (.seq (.reg [mq 133 20, mq 134 10, bq 135 .lss 133 134] none)
 (.fg [5, 7, 10, 11, 15, 16, 18, 19, 20, 135] (.cond (.t 135)
 .skip
 (.exit 10))))
 (.seq (.block 11
 (.reg [lT 138 4 19, lq 139 (.fieldA 0 (.t 7)), lF 140 1 139, mq 141 20, xq 142 1 140 141, lF 143 1 142, mq 144 18, xq 145 4 143 144, lT 146 4 145, mq 147 15, mq 148 20, xq 149 4 147 148, lT 150 4 149, lq 151 (.call .pu 32 [.t 146, .t 150]), lq 152 (.call .pu 67 [.t 138, .t 151]), sq 4 19 152] (some (0, []))))
 (.fg [5, 7, 10, 11, 15, 16, 18, 19, 20] (.reg [mq 136 20, lq 137 (.bin .add (.t 136) (ki 1)), mq 20 137] none)))))))))
 (.reg [mq 153 15, mq 154 18, lT 155 4 19, xq 156 4 153 154, sq 4 156 155] none)))))
 (.fg [5, 7, 10, 11, 15, 16, 18] (.reg [mq 109 18, lq 110 (.bin .sub (.t 109) (ki 1)), mq 18 110] none)))))))))
 (.seq (.reg [mq 157 15, lT 158 4 16, mq 4 157, sq 4 5 158, lq 6 (.mv (ki 0))] (some (0, [])))
 .ret))))))))))))), [.t 4, .cell 5 true 4, .t 6]⟩
theorem c29 : chkF Tryz.prog 29 f29 = true := by kernel_rfl
def f30 : RFun := ⟨(.seq (.reg [lq 4 (.mv (.c (.nils)))] none)
 (.seq (.reg [lq 5 (.mv (.c (.nils)))] none)
 (.seq (.seq (.reg [lq 6 (.mv (ki 0))] none)
 (.fg [0, 1, 5, 6] (.block 0
 (.loop (.fg [0, 1, 5, 6]
 (.seq (.seq (.reg [mq 7 6, mq 8 0, bq 9 .lss 7 8] none)
 (.fg [0, 1, 5, 6, 9] (.cond (.t 9)
 .skip
 (.exit 0))))
 (.seq (.block 1
 (.seq (.reg [mq 12 6, mq 13 1, bq 14 .eql 12 13] none)
 (.fg [0, 1, 5, 6, 14] (.cond (.t 14)
 (.reg [mq 15 5, lq 16 (.call .pu 47 [.c (.p (.int .i64 1))]), lq 17 (.call .pu 33 [.t 16]), lq 18 (.bslice 4 [.t 17]), lq 19 (.append 4 64 (.t 15) (.t 18)), mq 5 19] none)
 (.reg [mq 20 5, lq 21 (.build [.p (.bool false), .nils] []), lq 22 (.call .pu 33 [.t 21]), lq 23 (.bslice 4 [.t 22]), lq 24 (.append 4 64 (.t 20) (.t 23)), mq 5 24] none)))))
 (.fg [0, 1, 5, 6] (.reg [mq 10 6, lq 11 (.bin .add (.t 10) (ki 1)), mq 6 11] none)))))))))
 (.seq (.reg [mq 25 5, mq 4 25] none)
 .ret)))), [.t 4]⟩
theorem c30 : chkF Tryz.prog 30 f30 = true := by kernel_rfl
def f31 : RFun := ⟨(.seq (.reg [lq 1 (.box (.t 0)), lq 2 (.alloc [.p (.bool false), .nils])] none)
 (.seq (.reg [lq 6 (.fieldA 0 (.t 1)), lT 7 2 6, lq 8 (.fieldA 2 (.t 1)), lT 9 2 8, lq 10 (.call .pu 71 [.t 7, .t 9]), mq 5 10, lq 11 (.extract (.t 5) 0), lq 12 (.extract (.t 5) 1), lq 3 (.alloc [.p (.bool false), .nils]), lq 4 (.alloc [.p (.bool false), .nils]), sq 2 3 11, sq 2 4 12] none)
 (.seq (.reg [lT 13 2 3, sq 2 2 13] none)
 .ret))), [.cell 2 true 2]⟩
theorem c31 : chkF Tryz.prog 31 f31 = true := by kernel_rfl
def f35 : RFun := ⟨(.seq (.reg [lq 4 (.mv (.c (.p (.bool false))))] none)
 (.seq (.seq (.reg [mq 6 0, lq 7 (.len (.t 6)), mq 8 1, lq 9 (.len (.t 8)), bq 10 .neq 7 9] none)
 (.fg [0, 1, 10] (.cond (.t 10)
 (.seq (.reg [lq 4 (.mv (.c (.p (.bool false))))] none)
 .ret)
 .skip)))
 (.seq (.seq (.reg [lq 5 (.mv (ki 0))] none)
 (.fg [0, 1, 5] (.block 0
 (.loop (.fg [0, 1, 5]
 (.seq (.seq (.reg [mq 11 5, mq 12 0, lq 13 (.len (.t 12)), bq 14 .lss 11 13] none)
 (.fg [0, 1, 5, 14] (.cond (.t 14)
 .skip
 (.exit 0))))
 (.seq (.block 1
 (.seq (.reg [mq 17 0, mq 18 5, xq 19 2 17 18, lT 20 2 19, mq 21 1, mq 22 5, xq 23 2 21 22, lT 24 2 23, lq 25 (.call .pu 74 [.t 24]), lq 26 (.call .pu 9 [.t 20, .t 25]), lq 27 (.un .not (.t 26))] (some (0, [])))
 (.fg [0, 1, 5, 27] (.cond (.t 27)
 (.seq (.reg [lq 4 (.mv (.c (.p (.bool false))))] none)
 .ret)
 .skip))))
 (.fg [0, 1, 5] (.reg [mq 15 5, lq 16 (.bin .add (.t 15) (ki 1)), mq 5 16] none)))))))))
 (.seq (.reg [lq 4 (.mv (.c (.p (.bool true))))] none)
 .ret)))), [.t 4]⟩
theorem c35 : chkF Tryz.prog 35 f35 = true := by kernel_rfl
def f54 : RFun := ⟨(.seq (.reg [lq 1 (.box (.t 0)), lq 2 (.mv (.c (.nils))), lq 3 (.mv (ki 0))] none)
 (.seq (.seq (.reg [lF 8 1 1, lq 9 (.call .pu 89 [.t 8]), mq 7 9, lq 10 (.extract (.t 7) 0), lq 11 (.extract (.t 7) 1), lq 12 (.extract (.t 7) 2), mq 4 10, mq 5 11, mq 6 12] none)
 (.seq (.reg [mq 13 6, lq 14 (.bin .neq (.t 13) (ki 0))] none)
 (.fg [1, 6, 14] (.cond (.t 14)
 (.seq (.reg [mq 15 6, lq 2 (.mv (.c (.nils))), mq 3 15] none)
 (.frzk 2 .ret))
 .skip))))
 (.seq (.reg [lF 16 1 1, lq 17 (.mkfn 91 [.t 1]), lq 18 (.call .keep 90 [.t 16, .t 17]), mq 2 18, lq 3 (.mv (ki 0))] none)
 (.frzk 2 .ret)))), [.t 2, .t 3]⟩
theorem c54 : chkF Tryz.prog 54 f54 = true := by kernel_rfl
def f55 : RFun := ⟨(.seq (.reg [lq 2 (.alloc [.p (.bool false), .nils]), lq 3 (.mv (ki 0))] none)
 (.seq (.seq (.reg [mq 7 0, lq 8 (.call .pu 94 [.t 7]), mq 6 8, lq 9 (.extract (.t 6) 0), lq 10 (.extract (.t 6) 1), mq 4 9, mq 5 10] none)
 (.seq (.reg [mq 11 5, lq 12 (.bin .neq (.t 11) (ki 0))] none)
 (.fg [0, 2, 5, 12] (.cond (.t 12)
 (.seq (.reg [lq 13 (.build [.p (.bool false), .nils] []), mq 14 5, sq 2 2 13, mq 3 14] none)
 .ret)
 .skip))))
 (.seq (.reg [mq 15 0, lq 16 (.call .pu 95 [.t 15]), sq 2 2 16, lq 3 (.mv (ki 0))] none)
 .ret))), [.cell 2 true 2, .t 3]⟩
theorem c55 : chkF Tryz.prog 55 f55 = true := by kernel_rfl
def f56 : RFun := ⟨(.seq (.reg [lq 2 (.mv (.c (.nils))), lq 3 (.alloc [.p (.bool false), .nils]), lq 4 (.mv (ki 0))] none)
 (.seq (.reg [mq 14 0, lq 15 (.call .pu 94 [.t 14]), mq 13 15, lq 16 (.extract (.t 13) 0), lq 17 (.extract (.t 13) 1), mq 5 16, mq 6 17] none)
 (.seq (.seq (.reg [mq 18 6, lq 19 (.bin .neq (.t 18) (ki 0))] none)
 (.fg [0, 3, 5, 6, 19] (.cond (.t 19)
 (.seq (.reg [lq 20 (.build [.p (.bool false), .nils] []), mq 21 6, lq 2 (.mv (.c (.nils))), sq 2 3 20, mq 4 21] none)
 .ret)
 .skip)))
 (.seq (.reg [mq 22 0, lq 23 (.call .pu 95 [.t 22]), lq 7 (.alloc [.p (.bool false), .nils]), sq 2 7 23] none)
 (.seq (.seq (.reg [lT 24 2 7, lq 25 (.call .pu 96 [.t 24]), lq 26 (.bin .eql (.t 25) (ki 0))] none)
 (.fg [0, 3, 5, 7, 26] (.cond (.t 26)
 (.seq (.reg [lq 27 (.build [.p (.bool false), .nils] []), lq 2 (.mv (.c (.nils))), sq 2 3 27, lq 4 (.mv (ki 50))] none)
 .ret)
 .skip)))
 (.seq (.reg [lq 8 (.mv (.c (.nils)))] none)
 (.seq (.seq (.reg [mq 28 5, lq 29 (.mv (ki 0))] none)
 (.fg [0, 3, 5, 7, 8, 28, 29] (.block 0
 (.loop (.fg [0, 3, 5, 7, 8, 28, 29]
 (.seq (.reg [bq 30 .lss 29 28] none)
 (.seq (.cond (.t 30)
 .skip
 (.exit 0))
 (.fg [0, 3, 5, 7, 8, 28, 29] (.seq (.block 1
 (.seq (.reg [mq 31 29, mq 9 31] none)
 (.seq (.reg [mq 32 5, lq 33 (.mv (ki 0))] none)
 (.fg [0, 3, 5, 7, 8, 9, 28, 29, 32, 33] (.block 2
 (.loop (.fg [0, 3, 5, 7, 8, 9, 28, 29, 32, 33]
 (.seq (.reg [bq 34 .lss 33 32] none)
 (.seq (.cond (.t 34)
 .skip
 (.exit 2))
 (.fg [0, 3, 5, 7, 8, 9, 28, 29, 32, 33] (.seq (.block 3
 (.seq (.reg [mq 35 33, mq 10 35] none)
 (.reg [mq 36 8, mq 37 0, mq 38 10, mq 39 9, lq 40 (.call .pu 97 [.t 37, .t 38, .t 39]), lq 41 (.bslice 2 [.t 40]), lq 42 (.append 2 32 (.t 36) (.t 41)), mq 8 42] none)))
 (.fg [0, 3, 5, 7, 8, 9, 28, 29, 32, 33] (.reg [lq 43 (.bin .add (.t 33) (ki 1)), mq 33 43] none)))))))))))))
 (.fg [0, 3, 5, 7, 8, 28, 29] (.reg [lq 44 (.bin .add (.t 29) (ki 1)), mq 29 44] none)))))))))))
 (.seq (.reg [mq 46 8, lT 47 2 7, lq 48 (.call .fz 98 [.t 46, .t 47]), mq 45 48, lq 49 (.extract (.t 45) 0), lq 50 (.extract (.t 45) 1), mq 8 49, sq 2 7 50] none)
 (.seq (.reg [lq 11 (.mv (.c (.nils)))] none)
 (.seq (.seq (.reg [mq 51 5, lq 52 (.mv (ki 0))] none)
 (.fg [3, 5, 7, 8, 11, 51, 52] (.block 4
 (.loop (.fg [3, 5, 7, 8, 11, 51, 52]
 (.seq (.reg [bq 53 .lss 52 51] none)
 (.seq (.cond (.t 53)
 .skip
 (.exit 4))
 (.fg [3, 5, 7, 8, 11, 51, 52] (.seq (.block 5
 (.seq (.reg [mq 54 52, mq 12 54] none)
 (.reg [mq 55 11, mq 56 8, mq 57 12, mq 58 5, bq 59 .mul 57 58, mq 60 12, lq 61 (.bin .add (.t 60) (ki 1)), mq 62 5, bq 63 .mul 61 62, mq 64 12, lq 65 (.bin .add (.t 64) (ki 1)), mq 66 5, bq 67 .mul 65 66, lq 68 (.slice 2 (.t 56) (some (.t 59)) (some (.t 63)) (some (.t 67))), lq 69 (.bslice 1 [.t 68]), lq 70 (.append 1 24 (.t 55) (.t 69)), mq 11 70] none)))
 (.fg [3, 5, 7, 8, 11, 51, 52] (.reg [lq 71 (.bin .add (.t 52) (ki 1)), mq 52 71] none)))))))))))
 (.seq (.reg [mq 72 11, lT 73 2 7, mq 2 72, sq 2 3 73, lq 4 (.mv (ki 0))] (some (0, [])))
 .ret))))))))))), [.t 2, .cell 3 true 2, .t 4]⟩
theorem c56 : chkF Tryz.prog 56 f56 = true := by kernel_rfl
def f57 : RFun := ⟨(.seq (.reg [lq 2 (.box (.t 0)), lq 3 (.box (.t 1)), lq 4 (.alloc [.p (.bool false), .nils]), lq 5 (.mv (ki 0))] none)
 (.seq (.reg [lT 10 2 2, lT 11 2 3, lq 12 (.call .pu 99 [.t 10, .t 11]), mq 9 12, lq 13 (.extract (.t 9) 0), lq 14 (.extract (.t 9) 1), lq 15 (.extract (.t 9) 2), lq 6 (.alloc [.p (.bool false), .nils]), lq 7 (.alloc [.p (.bool false), .nils]), sq 2 6 13, sq 2 7 14, mq 8 15] none)
 (.seq (.block 0
 (.seq (.reg [mq 17 8, lq 18 (.bin .neq (.t 17) (ki 0)), mq 16 18] none)
 (.fg [4, 6, 7, 8, 16] (.cond (.t 16)
 (.seq (.reg [lq 19 (.build [.p (.bool false), .nils] []), mq 20 8, sq 2 4 19, mq 5 20] none)
 .ret)
 (.seq (.reg [lT 22 2 7, lq 23 (.call .pu 96 [.t 22]), lq 24 (.bin .neq (.t 23) (ki 0)), mq 21 24] none)
 (.fg [4, 6, 21] (.cond (.t 21)
 (.seq (.reg [lq 25 (.build [.p (.bool false), .nils] []), sq 2 4 25, lq 5 (.mv (ki 20))] none)
 .ret)
 .skip)))))))
 (.fg [4, 6] (.seq (.reg [lT 26 2 6, sq 2 4 26, lq 5 (.mv (ki 0))] none)
 .ret))))), [.cell 4 true 2, .t 5]⟩
theorem c57 : chkF Tryz.prog 57 f57 = true := by kernel_rfl
def f58 : RFun := ⟨(.seq (.reg [lq 3 (.box (.t 1)), lq 4 (.mv (.c (.nils))), lq 5 (.mv (ki 0))] none)
 (.seq (.reg [mq 13 0, lq 14 (.call .pu 89 [.t 13]), mq 12 14, lq 15 (.extract (.t 12) 0), lq 16 (.extract (.t 12) 1), lq 17 (.extract (.t 12) 2), mq 6 15, mq 7 16, mq 8 17] none)
 (.seq (.reg [lF 19 1 3, lq 20 (.call .pu 89 [.t 19]), mq 18 20, lq 21 (.extract (.t 18) 0), lq 22 (.extract (.t 18) 1), lq 23 (.extract (.t 18) 2), mq 9 21, mq 10 22, mq 11 23] none)
 (.seq (.seq (.reg [mq 24 8, lq 25 (.bin .neq (.t 24) (ki 0)), mq 26 25, ⟨(some 27), (some (26, false)), none, .mv (.t 11)⟩, ⟨(some 28), (some (26, false)), none, .bin .neq (.t 27) (ki 0)⟩, lq 29 (.pick (.t 26) (.c (.p (.bool true))) (.t 28)), mq 30 29, ⟨(some 31), (some (30, false)), none, .mv (.t 6)⟩, ⟨(some 32), (some (30, false)), none, .bin .gtr (.t 31) (ki 0)⟩, ⟨(some 33), (some (30, false)), none, .mv (.t 32)⟩, ⟨(some 34), (some (33, true)), none, .mv (.t 7)⟩, ⟨(some 35), (some (33, true)), none, .mv (.t 9)⟩, ⟨(some 36), (some (33, true)), none, .bin .neq (.t 34) (.t 35)⟩, ⟨(some 37), (some (30, false)), none, .pick (.t 33) (.t 36) (.c (.p (.bool false)))⟩, lq 38 (.pick (.t 30) (.c (.p (.bool true))) (.t 37))] none)
 (.fg [0, 3, 38] (.cond (.t 38)
 (.seq (.reg [lq 4 (.mv (.c (.nils))), lq 5 (.mv (ki 8))] none)
 (.frzk 4 .ret))
 .skip)))
 (.seq (.reg [mq 39 0, lq 40 (.mkfn 100 [.t 3]), lq 41 (.call .keep 90 [.t 39, .t 40]), mq 4 41, lq 5 (.mv (ki 0))] none)
 (.frzk 4 .ret)))))), [.t 4, .t 5]⟩
theorem c58 : chkF Tryz.prog 58 f58 = true := by kernel_rfl
def f59 : RFun := ⟨(.seq (.reg [lq 2 (.box (.t 0)), lq 4 (.mv (.c (.nils)))] none)
 (.seq (.reg [mq 5 1, lq 6 (.mkfn 103 [.t 2]), lq 7 (.call .full 102 [.t 5, .t 6]), mq 4 7] none)
 .ret)), [.t 4]⟩
theorem c59 : chkF Tryz.prog 59 f59 = true := by kernel_rfl
def f60 : RFun := ⟨(.iter (.seq (.reg [lF 5 1 1, lq 6 (.len (.t 5)), lq 7 (.mv (ki 0))] none)
 (.fg [0, 5, 6, 7] (.block 0
 (.loop (.fg [0, 5, 6, 7]
 (.seq (.reg [bq 8 .lss 7 6] none)
 (.seq (.cond (.t 8)
 .skip
 (.exit 0))
 (.fg [0, 5, 6, 7] (.seq (.block 1
 (.seq (.reg [mq 9 7, xq 10 1 5 7, lF 11 1 10, mq 3 9, mq 4 11] none)
 (.seq (.yld 12 [⟨(some 13), none, none, .mv (.t 3)⟩, ⟨(some 14), none, none, .mv (.t 4)⟩] 15 [.t 13, .t 14] [⟨(some 16), none, none, .un .not (.t 15)⟩])
 (.fg [0, 5, 6, 7, 16] (.cond (.t 16)
 .ret
 .skip)))))
 (.fg [0, 5, 6, 7] (.reg [lq 17 (.bin .add (.t 7) (ki 1)), mq 7 17] none)))))))))))), []⟩
theorem c60 : chkF Tryz.prog 60 f60 = true := by kernel_rfl
def f64 : RFun := ⟨(.seq (.reg [lq 1 (.box (.t 0)), lq 2 (.alloc [.nils, .nils])] none)
 (.seq (.reg [lq 3 (.alloc [.nils, .nils])] none)
 (.seq (.reg [lq 8 (.call .pu 47 [.c (.p (.int .i64 1))]), lq 4 (.alloc [.p (.bool false), .nils]), sq 2 4 8] none)
 (.seq (.reg [lq 9 (.fieldA 0 (.t 3)), lF 10 1 9, lT 11 2 4, lq 12 (.bslice 2 [.t 11]), lq 13 (.append 2 32 (.t 10) (.t 12)), lq 14 (.fieldA 0 (.t 3)), sq 1 14 13] none)
 (.seq (.seq (.reg [lq 5 (.mv (ki 0))] none)
 (.fg [1, 2, 3, 4, 5] (.block 0
 (.loop (.fg [1, 2, 3, 4, 5]
 (.seq (.seq (.reg [mq 15 5, lq 16 (.fieldA 1 (.t 1)), lF 17 1 16, lq 18 (.len (.t 17)), bq 19 .lss 15 18] none)
 (.fg [1, 2, 3, 4, 5, 19] (.cond (.t 19)
 .skip
 (.exit 0))))
 (.seq (.block 1
 (.seq (.reg [lq 6 (.mv (.c (.nils)))] none)
 (.seq (.seq (.reg [lq 7 (.mv (ki 0))] none)
 (.fg [1, 2, 3, 4, 5, 6, 7] (.block 2
 (.loop (.fg [1, 2, 3, 4, 5, 6, 7]
 (.seq (.seq (.reg [mq 22 7, mq 23 5, bq 24 .lss 22 23] none)
 (.fg [1, 2, 3, 4, 5, 6, 7, 24] (.cond (.t 24)
 .skip
 (.exit 2))))
 (.seq (.block 3
 (.reg [mq 27 6, lq 28 (.fieldA 0 (.t 1)), lF 29 1 28, mq 30 5, xq 31 1 29 30, lF 32 1 31, mq 33 7, xq 34 4 32 33, lT 35 4 34, lq 36 (.fieldA 0 (.t 3)), lF 37 1 36, mq 38 7, lq 39 (.bin .add (.t 38) (ki 1)), xq 40 2 37 39, lT 41 2 40, lq 42 (.call .fz 107 [.t 35, .t 41]), lq 43 (.call .pu 31 [.t 42]), ⟨(some 44), none, (some 0), .bslice 2 [.t 43]⟩, ⟨(some 45), none, (some 1), .append 2 32 (.t 27) (.t 44)⟩, mq 6 45] (some (2, []))))
 (.fg [1, 2, 3, 4, 5, 6, 7] (.reg [mq 25 7, lq 26 (.bin .add (.t 25) (ki 1)), mq 7 26] none)))))))))
 (.seq (.reg [lq 46 (.fieldA 1 (.t 3)), lF 47 1 46, mq 48 6, lq 49 (.bslice 1 [.t 48]), lq 50 (.append 1 24 (.t 47) (.t 49)), lq 51 (.fieldA 1 (.t 3)), sq 1 51 50] none)
 (.seq (.reg [lq 52 (.fieldA 1 (.t 1)), lF 53 1 52, mq 54 5, xq 55 4 53 54, lT 56 4 55, lT 57 2 4, lq 58 (.call .fz 107 [.t 56, .t 57]), lq 59 (.call .pu 31 [.t 58]), sq 2 4 59] (some (0, [])))
 (.reg [lq 60 (.fieldA 0 (.t 3)), lF 61 1 60, lT 62 2 4, lq 63 (.bslice 2 [.t 62]), lq 64 (.append 2 32 (.t 61) (.t 63)), lq 65 (.fieldA 0 (.t 3)), sq 1 65 64] none))))))
 (.fg [1, 2, 3, 4, 5] (.reg [mq 20 5, lq 21 (.bin .add (.t 20) (ki 1)), mq 5 21] none)))))))))
 (.seq (.reg [lT 66 2 3, sq 2 2 66] none)
 .ret)))))), [.cell 2 true 2]⟩
theorem c64 : chkF Tryz.prog 64 f64 = true := by kernel_rfl
def f65 : RFun := ⟨(.seq (.reg [lq 1 (.box (.t 0)), lq 2 (.mv (.c (.p (.bool false))))] none)
 (.seq (.reg [lq 3 (.fieldA 2 (.t 1)), lT 4 2 3, lq 5 (.call .pu 14 [.t 4]), lq 6 (.bin .gtr (.t 5) (ki 0)), mq 2 6] none)
 .ret)), [.t 2]⟩
theorem c65 : chkF Tryz.prog 65 f65 = true := by kernel_rfl
def f66 : RFun := ⟨(.seq (.reg [lq 4 (.alloc [.p (.bool false), .nils, .p (.bool false), .nils])] none)
 (.seq (.reg [lq 7 (.build [.p (.bool false), .nils] []), lq 8 (.call .pu 33 [.t 7]), lq 5 (.alloc [.p (.bool false), .nils, .p (.bool false), .nils]), sq 4 5 8] none)
 (.seq (.seq (.reg [lq 6 (.mv (ki 0))] none)
 (.fg [0, 1, 4, 5, 6] (.block 0
 (.loop (.fg [0, 1, 4, 5, 6]
 (.seq (.seq (.reg [mq 9 6, mq 10 0, lq 11 (.len (.t 10)), bq 12 .lss 9 11] none)
 (.fg [0, 1, 4, 5, 6, 12] (.cond (.t 12)
 .skip
 (.exit 0))))
 (.seq (.block 1
 (.reg [lT 15 4 5, mq 16 0, mq 17 6, xq 18 4 16 17, lT 19 4 18, mq 20 1, mq 21 6, xq 22 2 20 21, lT 23 2 22, lq 24 (.call .pu 107 [.t 19, .t 23]), lq 25 (.call .pu 68 [.t 15, .t 24]), sq 4 5 25] (some (0, []))))
 (.fg [0, 1, 4, 5, 6] (.reg [mq 13 6, lq 14 (.bin .add (.t 13) (ki 1)), mq 6 14] none)))))))))
 (.seq (.reg [lT 26 4 5, sq 4 4 26] none)
 .ret)))), [.cell 4 true 4]⟩
theorem c66 : chkF Tryz.prog 66 f66 = true := by kernel_rfl
def f71 : RFun := ⟨(.seq (.reg [lq 2 (.box (.t 0)), lq 3 (.box (.t 1)), lq 4 (.alloc [.p (.bool false), .nils]), lq 5 (.alloc [.p (.bool false), .nils])] none)
 (.seq (.reg [lq 12 (.fieldA 1 (.t 2)), lF 13 1 12, lq 14 (.fieldA 1 (.t 3)), lF 15 1 14, lq 16 (.call .pu 109 [.t 13, .t 15]), mq 11 16, lq 17 (.extract (.t 11) 0), lq 18 (.extract (.t 11) 1), lq 19 (.extract (.t 11) 2), mq 6 17, mq 7 18, mq 8 19] none)
 (.seq (.reg [lq 20 (.fieldA 0 (.t 2)), lF 21 1 20, lq 22 (.fieldA 0 (.t 3)), lF 23 1 22, lq 24 (.beq true (.t 21) (.t 23)), mq 25 6, lq 26 (.call .pu 80 [.t 24, .t 25]), lq 9 (.alloc [.p (.bool false), .nils]), sq 2 9 26] none)
 (.seq (.reg [lT 27 2 2, lT 28 2 9, lT 29 2 3, lq 30 (.call .pu 73 [.t 28, .t 29]), lq 31 (.call .pu 110 [.t 27, .t 30]), ⟨(some 10), none, (some 0), .alloc [.p (.bool false), .nils]⟩, sq 2 10 31] (some (1, [])))
 (.seq (.seq (.reg [lT 32 2 10, lq 33 (.call .pu 14 [.t 32]), lq 34 (.bin .neq (.t 33) (ki 0)), mq 35 34, ⟨(some 36), (some (35, true)), none, .load true 2 (.t 10)⟩, ⟨(some 37), (some (35, true)), none, .call .pu 14 [.t 36]⟩, ⟨(some 38), (some (35, true)), none, .load true 2 (.t 3)⟩, ⟨(some 39), (some (35, true)), none, .call .pu 14 [.t 38]⟩, ⟨(some 40), (some (35, true)), none, .bin .neq (.t 37) (.t 39)⟩, lq 41 (.pick (.t 35) (.t 40) (.c (.p (.bool false))))] (some (0, [])))
 (.fg [3, 4, 5, 9, 10, 41] (.cond (.t 41)
 (.seq (.reg [lT 42 2 9, lq 43 (.call .pu 47 [.c (.p (.int .i64 1))]), lq 44 (.call .pu 110 [.t 42, .t 43]), sq 2 9 44] (some (0, [])))
 (.reg [lT 45 2 10, lT 46 2 3, lq 47 (.call .pu 76 [.t 45, .t 46]), sq 2 10 47] none))
 .skip)))
 (.seq (.reg [lT 48 2 9, lT 49 2 10, sq 2 4 48, sq 2 5 49] (some (0, [(1, 2)])))
 .ret)))))), [.cell 4 true 2, .cell 5 true 2]⟩
theorem c71 : chkF Tryz.prog 71 f71 = true := by kernel_rfl
def f90 : RFun := ⟨(.seq (.reg [lq 4 (.mv (.c (.nils)))] none)
 (.seq (.reg [mq 8 0, lq 9 (.len (.t 8)), lq 10 (.mks true 1 24 (.sl []) (ki 0) (.t 9)), mq 5 10] none)
 (.seq (.seq (.reg [mq 11 0, lq 12 (.len (.t 11)), lq 13 (.mv (ki 0))] none)
 (.fg [1, 5, 11, 12, 13] (.block 0
 (.loop (.fg [1, 5, 11, 12, 13]
 (.seq (.reg [bq 14 .lss 13 12] none)
 (.seq (.cond (.t 14)
 .skip
 (.exit 0))
 (.fg [1, 5, 11, 12, 13] (.seq (.block 1
 (.seq (.reg [xq 15 1 11 13, lF 16 1 15, mq 7 16] none)
 (.reg [mq 17 5, mq 18 1, mq 19 7, lq 20 (.callv .keep (.t 18) [.t 19]), lq 21 (.bslk [.t 20]), lq 22 (.appk 24 (.t 17) (.t 21)), mq 5 22] none)))
 (.fg [1, 5, 11, 12, 13] (.reg [lq 23 (.bin .add (.t 13) (ki 1)), mq 13 23] none)))))))))))
 (.seq (.reg [mq 24 5, mq 4 24] none)
 .ret)))), [.t 4]⟩
theorem c90 : chkF Tryz.prog 90 f90 = true := by kernel_rfl
def f91 : RFun := ⟨(.seq (.reg [lq 2 (.box (.t 0)), lq 3 (.mv (.c (.nils)))] none)
 (.seq (.reg [lF 4 1 1, lq 5 (.mkfn 93 [.t 2]), lq 6 (.call .full 92 [.t 4, .t 5]), mq 3 6] none)
 .ret)), [.t 3]⟩
theorem c91 : chkF Tryz.prog 91 f91 = true := by kernel_rfl
def f92 : RFun := ⟨(.seq (.reg [lq 4 (.mv (.c (.nils)))] none)
 (.seq (.reg [mq 8 0, lq 9 (.len (.t 8)), lq 10 (.mks false 2 32 (.agg [.bool false, .sl []]) (ki 0) (.t 9)), mq 5 10] none)
 (.seq (.seq (.reg [mq 11 0, lq 12 (.len (.t 11)), lq 13 (.mv (ki 0))] none)
 (.fg [1, 5, 11, 12, 13] (.block 0
 (.loop (.fg [1, 5, 11, 12, 13]
 (.seq (.reg [bq 14 .lss 13 12] none)
 (.seq (.cond (.t 14)
 .skip
 (.exit 0))
 (.fg [1, 5, 11, 12, 13] (.seq (.block 1
 (.seq (.reg [xq 15 1 11 13, lF 16 1 15, mq 7 16] none)
 (.reg [mq 17 5, mq 18 1, mq 19 7, lq 20 (.callv .cell (.t 18) [.t 19]), lq 21 (.bslice 2 [.t 20]), lq 22 (.append 2 32 (.t 17) (.t 21)), mq 5 22] none)))
 (.fg [1, 5, 11, 12, 13] (.reg [lq 23 (.bin .add (.t 13) (ki 1)), mq 13 23] none)))))))))))
 (.seq (.reg [mq 24 5, mq 4 24] none)
 .ret)))), [.t 4]⟩
theorem c92 : chkF Tryz.prog 92 f92 = true := by kernel_rfl
def f93 : RFun := ⟨(.seq (.reg [lq 3 (.alloc [.p (.bool false), .nils])] none)
 (.seq (.reg [lF 4 1 1, mq 5 0, lq 6 (.call .pu 61 [.t 4, .t 5]), sq 2 3 6] none)
 .ret)), [.cell 3 true 2]⟩
theorem c93 : chkF Tryz.prog 93 f93 = true := by kernel_rfl
def f94 : RFun := ⟨(.seq (.reg [lq 2 (.mv (ki 0)), lq 3 (.mv (ki 0))] none)
 (.seq (.reg [mq 8 0, lq 9 (.call .pu 127 [.t 8]), mq 7 9, lq 10 (.extract (.t 7) 0), lq 11 (.extract (.t 7) 1), lq 12 (.extract (.t 7) 2), mq 4 10, mq 5 11, mq 6 12] none)
 (.seq (.seq (.reg [mq 13 6, lq 14 (.bin .eql (.t 13) (ki 0)), mq 15 14, ⟨(some 16), (some (15, true)), none, .mv (.t 4)⟩, ⟨(some 17), (some (15, true)), none, .mv (.t 5)⟩, ⟨(some 18), (some (15, true)), none, .bin .neq (.t 16) (.t 17)⟩, lq 19 (.pick (.t 15) (.t 18) (.c (.p (.bool false))))] none)
 (.fg [4, 6, 19] (.cond (.t 19)
 (.reg [lq 6 (.mv (ki 8))] none)
 .skip)))
 (.seq (.reg [mq 20 4, mq 21 6, mq 2 20, mq 3 21] none)
 .ret)))), [.t 2, .t 3]⟩
theorem c94 : chkF Tryz.prog 94 f94 = true := by kernel_rfl
def f95 : RFun := ⟨(.seq (.reg [lq 2 (.alloc [.p (.bool false), .nils])] none)
 (.seq (.reg [mq 8 0, lq 9 (.len (.t 8)), mq 3 9] none)
 (.seq (.reg [mq 11 0, mq 12 3, lq 13 (.call .keep 128 [.t 11, .t 12]), mq 10 13, lq 14 (.extract (.t 10) 0), lq 15 (.extract (.t 10) 1), lq 16 (.extract (.t 10) 2), lq 17 (.extract (.t 10) 3), lq 6 (.alloc [.p (.bool false), .nils]), mq 4 14, mq 5 15, sq 2 6 16, mq 7 17] none)
 (.seq (.block 0
 (.seq (.reg [mq 19 5, lq 20 (.len (.t 19)), mq 21 3, bq 22 .lss 20 21, mq 18 22] none)
 (.fg [2, 6, 7, 18] (.cond (.t 18)
 (.seq (.reg [lq 23 (.build [.p (.bool false), .nils] []), sq 2 2 23] none)
 .ret)
 (.seq (.reg [mq 25 7, mq 24 25] none)
 (.fg [2, 6, 24] (.cond (.t 24)
 (.seq (.reg [lT 26 2 6, lq 27 (.call .fz 129 [.t 26]), sq 2 2 27] none)
 .ret)
 .skip)))))))
 (.fg [2, 6] (.seq (.reg [lT 28 2 6, lq 29 (.call .fz 130 [.t 28]), sq 2 2 29] none)
 .ret)))))), [.cell 2 true 2]⟩
theorem c95 : chkF Tryz.prog 95 f95 = true := by kernel_rfl
def f97 : RFun := ⟨(.seq (.reg [lq 6 (.alloc [.p (.bool false), .nils])] none)
 (.seq (.reg [lq 7 (.mv (.c (.nils)))] none)
 (.seq (.seq (.reg [mq 10 0, lq 11 (.len (.t 10)), lq 12 (.mv (ki 0))] none)
 (.fg [0, 1, 2, 6, 7, 11, 12] (.block 0
 (.loop (.fg [0, 1, 2, 6, 7, 11, 12]
 (.seq (.reg [bq 13 .lss 12 11] none)
 (.seq (.cond (.t 13)
 .skip
 (.exit 0))
 (.fg [0, 1, 2, 6, 7, 11, 12] (.seq (.block 1
 (.seq (.reg [mq 14 12, mq 8 14] none)
 (.seq (.reg [mq 15 8, mq 16 1, bq 17 .neq 15 16] none)
 (.fg [0, 1, 2, 6, 7, 8, 11, 12, 17] (.cond (.t 17)
 (.reg [mq 18 7, mq 19 0, mq 20 8, xq 21 1 19 20, lF 22 1 21, mq 23 2, lq 24 (.slice 2 (.t 22) none (some (.t 23)) none), ⟨(some 25), none, (some 0), .append 2 32 (.c (.nils)) (.t 24)⟩, mq 26 0, mq 27 8, xq 28 1 26 27, lF 29 1 28, mq 30 2, lq 31 (.bin .add (.t 30) (ki 1)), lq 32 (.slice 2 (.t 29) (some (.t 31)) none none), ⟨(some 33), none, (some 1), .append 2 32 (.t 25) (.t 32)⟩, ⟨(some 34), none, (some 2), .bslice 1 [.t 33]⟩, ⟨(some 35), none, (some 3), .append 1 24 (.t 18) (.t 34)⟩, mq 7 35] (some (4, [(7, 10), (7, 11), (7, 14)])))
 .skip)))))
 (.fg [0, 1, 2, 6, 7, 11, 12] (.reg [lq 36 (.bin .add (.t 12) (ki 1)), mq 12 36] none)))))))))))
 (.seq (.reg [mq 37 7, lq 38 (.call .fz 95 [.t 37]), lq 9 (.alloc [.p (.bool false), .nils]), sq 2 9 38] none)
 (.seq (.seq (.reg [mq 39 1, mq 40 2, bq 41 .add 39 40, lq 42 (.bin .rem (.t 41) (ki 2)), lq 43 (.bin .eql (.t 42) (ki 1))] none)
 (.fg [6, 9, 43] (.cond (.t 43)
 (.seq (.reg [lT 44 2 9, lq 45 (.call .pu 129 [.t 44]), sq 2 6 45] none)
 .ret)
 .skip)))
 (.seq (.reg [lT 46 2 9, sq 2 6 46] none)
 .ret)))))), [.cell 6 true 2]⟩
theorem c97 : chkF Tryz.prog 97 f97 = true := by kernel_rfl
def f98 : RFun := ⟨(.seq (.reg [lq 3 (.box (.t 1)), lq 4 (.mv (.c (.nils))), lq 5 (.alloc [.p (.bool false), .nils])] none)
 (.seq (.reg [lT 18 2 3, lq 19 (.call .pu 132 [.t 18]), lq 6 (.alloc [.p (.bool false), .nils]), sq 2 6 19] none)
 (.seq (.seq (.reg [mq 20 0, lq 21 (.len (.t 20)), lq 22 (.mv (ki 0))] none)
 (.fg [0, 3, 5, 6, 20, 21, 22] (.block 0
 (.loop (.fg [0, 3, 5, 6, 20, 21, 22]
 (.seq (.reg [bq 23 .lss 22 21] none)
 (.seq (.cond (.t 23)
 .skip
 (.exit 0))
 (.fg [0, 3, 5, 6, 20, 21, 22] (.seq (.block 1
 (.seq (.reg [xq 24 2 20 22, lT 25 2 24, lq 8 (.alloc [.p (.bool false), .nils]), sq 2 8 25] none)
 (.reg [lT 26 2 6, lT 27 2 8, lq 28 (.call .pu 133 [.t 26, .t 27]), sq 2 6 28] none)))
 (.fg [0, 3, 5, 6, 20, 21, 22] (.reg [lq 29 (.bin .add (.t 22) (ki 1)), mq 22 29] none)))))))))))
 (.seq (.seq (.reg [lT 30 2 3, lq 31 (.call .pu 96 [.t 30]), lq 32 (.bin .lss (.t 31) (ki 0))] none)
 (.fg [0, 3, 5, 6, 32] (.cond (.t 32)
 (.reg [lT 33 2 6, lq 34 (.call .pu 129 [.t 33]), sq 2 6 34] none)
 .skip)))
 (.seq (.reg [lq 9 (.mv (.c (.nils)))] none)
 (.seq (.seq (.reg [mq 35 0, lq 36 (.len (.t 35)), lq 37 (.mv (ki 0))] none)
 (.fg [3, 5, 6, 9, 35, 36, 37] (.block 2
 (.loop (.fg [3, 5, 6, 9, 35, 36, 37]
 (.seq (.reg [bq 38 .lss 37 36] none)
 (.seq (.cond (.t 38)
 .skip
 (.exit 2))
 (.fg [3, 5, 6, 9, 35, 36, 37] (.seq (.block 3
 (.seq (.reg [xq 39 2 35 37, lT 40 2 39, lq 11 (.alloc [.p (.bool false), .nils]), sq 2 11 40] none)
 (.seq (.reg [lT 42 2 11, lT 43 2 6, lq 44 (.call .pu 99 [.t 42, .t 43]), mq 41 44, lq 45 (.extract (.t 41) 0), lq 46 (.extract (.t 41) 1), lq 47 (.extract (.t 41) 2), lq 12 (.alloc [.p (.bool false), .nils]), lq 13 (.alloc [.p (.bool false), .nils]), sq 2 12 45, sq 2 13 46, mq 14 47] none)
 (.reg [mq 48 9, lT 49 2 12, lq 50 (.bslice 2 [.t 49]), lq 51 (.append 2 32 (.t 48) (.t 50)), mq 9 51] none))))
 (.fg [3, 5, 6, 9, 35, 36, 37] (.reg [lq 52 (.bin .add (.t 37) (ki 1)), mq 37 52] none)))))))))))
 (.seq (.reg [lT 54 2 3, lT 55 2 6, lq 56 (.call .pu 99 [.t 54, .t 55]), mq 53 56, lq 57 (.extract (.t 53) 0), lq 58 (.extract (.t 53) 1), lq 59 (.extract (.t 53) 2), lq 15 (.alloc [.p (.bool false), .nils]), lq 16 (.alloc [.p (.bool false), .nils]), sq 2 15 57, sq 2 16 58, mq 17 59] none)
 (.seq (.reg [mq 60 9, lT 61 2 15, mq 4 60, sq 2 5 61] (some (0, [])))
 .ret)))))))), [.t 4, .cell 5 true 2]⟩
theorem c98 : chkF Tryz.prog 98 f98 = true := by kernel_rfl
def f100 : RFun := ⟨(.seq (.reg [lq 3 (.mv (.c (.nils)))] none)
 (.seq (.reg [mq 4 0, lF 5 1 1, lq 6 (.call .pu 101 [.t 4, .t 5]), mq 3 6] none)
 .ret)), [.t 3]⟩
theorem c100 : chkF Tryz.prog 100 f100 = true := by kernel_rfl
def f101 : RFun := ⟨(.seq (.reg [lq 4 (.mv (.c (.nils)))] none)
 (.seq (.seq (.reg [mq 10 1, lq 11 (.len (.t 10)), lq 12 (.bin .eql (.t 11) (ki 0))] none)
 (.fg [0, 1, 12] (.cond (.t 12)
 (.seq (.reg [lq 4 (.mv (.c (.nils)))] none)
 .ret)
 .skip)))
 (.seq (.reg [mq 13 1, lq 14 (.indexA 1 (.t 13) (ki 0)), lF 15 1 14, lq 16 (.len (.t 15)), lq 17 (.mks false 2 32 (.agg [.bool false, .sl []]) (.t 16) (.t 16)), mq 5 17] none)
 (.seq (.seq (.reg [mq 18 1, lq 19 (.len (.t 18)), lq 20 (.mv (ki 0))] none)
 (.fg [0, 5, 18, 19, 20] (.block 0
 (.loop (.fg [0, 5, 18, 19, 20]
 (.seq (.reg [bq 21 .lss 20 19] none)
 (.seq (.cond (.t 21)
 .skip
 (.exit 0))
 (.fg [0, 5, 18, 19, 20] (.seq (.block 1
 (.seq (.reg [mq 22 20, xq 23 1 18 20, lF 24 1 23, mq 6 22, mq 7 24] none)
 (.seq (.reg [mq 25 7, lq 26 (.len (.t 25)), lq 27 (.mv (ki 0))] none)
 (.fg [0, 5, 6, 18, 19, 20, 25, 26, 27] (.block 2
 (.loop (.fg [0, 5, 6, 18, 19, 20, 25, 26, 27]
 (.seq (.reg [bq 28 .lss 27 26] none)
 (.seq (.cond (.t 28)
 .skip
 (.exit 2))
 (.fg [0, 5, 6, 18, 19, 20, 25, 26, 27] (.seq (.block 3
 (.seq (.reg [mq 29 27, xq 30 2 25 27, lT 31 2 30, lq 9 (.alloc [.p (.bool false), .nils]), mq 8 29, sq 2 9 31] none)
 (.reg [mq 32 5, mq 33 8, mq 34 5, mq 35 8, xq 36 2 34 35, lT 37 2 36, mq 38 0, mq 39 6, xq 40 2 38 39, lT 41 2 40, lT 42 2 9, lq 43 (.call .pu 104 [.t 41, .t 42]), lq 44 (.call .pu 105 [.t 37, .t 43]), xq 45 2 32 33, sq 2 45 44] (some (0, [])))))
 (.fg [0, 5, 6, 18, 19, 20, 25, 26, 27] (.reg [lq 46 (.bin .add (.t 27) (ki 1)), mq 27 46] none)))))))))))))
 (.fg [0, 5, 18, 19, 20] (.reg [lq 47 (.bin .add (.t 20) (ki 1)), mq 20 47] none)))))))))))
 (.seq (.reg [mq 48 5, mq 4 48] none)
 .ret))))), [.t 4]⟩
theorem c101 : chkF Tryz.prog 101 f101 = true := by kernel_rfl
def f102 : RFun := ⟨(.seq (.reg [lq 4 (.mv (.c (.nils)))] none)
 (.seq (.reg [mq 8 0, lq 9 (.len (.t 8)), lq 10 (.mks false 2 32 (.agg [.bool false, .sl []]) (ki 0) (.t 9)), mq 5 10] none)
 (.seq (.seq (.reg [mq 11 0, lq 12 (.len (.t 11)), lq 13 (.mv (ki 0))] none)
 (.fg [1, 5, 11, 12, 13] (.block 0
 (.loop (.fg [1, 5, 11, 12, 13]
 (.seq (.reg [bq 14 .lss 13 12] none)
 (.seq (.cond (.t 14)
 .skip
 (.exit 0))
 (.fg [1, 5, 11, 12, 13] (.seq (.block 1
 (.seq (.reg [xq 15 2 11 13, lT 16 2 15, lq 7 (.alloc [.p (.bool false), .nils]), sq 2 7 16] none)
 (.reg [mq 17 5, mq 18 1, lT 19 2 7, lq 20 (.callv .cell (.t 18) [.t 19]), lq 21 (.bslice 2 [.t 20]), lq 22 (.append 2 32 (.t 17) (.t 21)), mq 5 22] none)))
 (.fg [1, 5, 11, 12, 13] (.reg [lq 23 (.bin .add (.t 13) (ki 1)), mq 13 23] none)))))))))))
 (.seq (.reg [mq 24 5, mq 4 24] none)
 .ret)))), [.t 4]⟩
theorem c102 : chkF Tryz.prog 102 f102 = true := by kernel_rfl
def f103 : RFun := ⟨(.seq (.reg [lq 2 (.box (.t 0)), lq 3 (.alloc [.p (.bool false), .nils])] none)
 (.seq (.reg [lT 4 2 1, lT 5 2 2, lq 6 (.call .pu 104 [.t 4, .t 5]), sq 2 3 6] none)
 .ret)), [.cell 3 true 2]⟩
theorem c103 : chkF Tryz.prog 103 f103 = true := by kernel_rfl
def f107 : RFun := ⟨(.seq (.reg [lq 2 (.box (.t 0)), lq 3 (.box (.t 1)), lq 4 (.alloc [.p (.bool false), .nils, .p (.bool false), .nils])] none)
 (.seq (.reg [lT 5 4 2, lT 6 2 3, lq 7 (.call .pu 33 [.t 6]), lq 8 (.call .pu 32 [.t 5, .t 7]), sq 4 4 8] (some (0, [])))
 .ret)), [.cell 4 true 4]⟩
theorem c107 : chkF Tryz.prog 107 f107 = true := by kernel_rfl
def f127 : RFun := ⟨(.seq (.reg [lq 2 (.mv (ki 0)), lq 3 (.mv (ki 0)), lq 4 (.mv (ki 0))] none)
 (.seq (.reg [mq 9 0, lq 10 (.call .pu 89 [.t 9]), mq 8 10, lq 11 (.extract (.t 8) 0), lq 12 (.extract (.t 8) 1), lq 13 (.extract (.t 8) 2), mq 5 11, mq 6 12, mq 7 13] none)
 (.seq (.seq (.reg [mq 14 7, lq 15 (.bin .neq (.t 14) (ki 0))] none)
 (.fg [5, 6, 7, 15] (.cond (.t 15)
 (.seq (.reg [mq 16 7, lq 2 (.mv (ki 0)), lq 3 (.mv (ki 0)), mq 4 16] none)
 .ret)
 .skip)))
 (.seq (.seq (.reg [mq 17 5, lq 18 (.bin .gtr (.t 17) (ki 64)), mq 19 18, ⟨(some 20), (some (19, false)), none, .mv (.t 6)⟩, ⟨(some 21), (some (19, false)), none, .bin .gtr (.t 20) (ki 64)⟩, lq 22 (.pick (.t 19) (.c (.p (.bool true))) (.t 21))] none)
 (.fg [5, 6, 22] (.cond (.t 22)
 (.seq (.reg [lq 2 (.mv (ki 0)), lq 3 (.mv (ki 0)), lq 4 (.mv (ki 60))] none)
 .ret)
 .skip)))
 (.seq (.reg [mq 23 5, mq 24 6, mq 2 23, mq 3 24, lq 4 (.mv (ki 0))] none)
 .ret))))), [.t 2, .t 3, .t 4]⟩
theorem c127 : chkF Tryz.prog 127 f127 = true := by kernel_rfl
def f128 : RFun := ⟨(.seq (.reg [lq 4 (.mv (.c (.nils))), lq 5 (.mv (.c (.nils))), lq 6 (.alloc [.p (.bool false), .nils]), lq 7 (.mv (.c (.p (.bool false))))] none)
 (.scope
 (.seq (.reg [mq 18 0, lq 19 (.call .keep 151 [.t 18]), mq 8 19] none)
 (.seq (.reg [lq 9 (.mv (.c (.nils)))] none)
 (.seq (.reg [lq 20 (.call .pu 50 [.c (.p (.int .i64 1))]), lq 10 (.alloc [.p (.bool false), .nils]), sq 2 10 20, lq 11 (.mv (.c (.p (.bool false))))] none)
 (.seq .skip
 (.seq (.seq (.reg [mq 21 1, lq 22 (.mv (ki 0))] none)
 (.fg [6, 8, 9, 10, 11, 21, 22] (.block 0
 (.loop (.fg [6, 8, 9, 10, 11, 21, 22]
 (.seq (.reg [bq 23 .lss 22 21] none)
 (.seq (.cond (.t 23)
 .skip
 (.exit 0))
 (.fg [6, 8, 9, 10, 11, 21, 22] (.seq (.block 1
 (.seq (.reg [mq 24 22, mq 12 24] none)
 (.seq (.reg [mq 25 9, lq 26 (.len (.t 25)), mq 13 26] none)
 (.seq (.reg [mq 27 13, mq 14 27] none)
 (.seq (.block 2
 (.loop (.fg [6, 8, 9, 10, 11, 12, 13, 14, 21, 22]
 (.seq (.seq (.reg [mq 28 14, mq 29 8, lq 30 (.len (.t 29)), bq 31 .lss 28 30, mq 32 31, ⟨(some 33), (some (32, true)), none, .mv (.t 8)⟩, ⟨(some 34), (some (32, true)), none, .mv (.t 14)⟩, ⟨(some 35), (some (32, true)), none, .indexA 1 (.t 33) (.t 34)⟩, ⟨(some 36), (some (32, true)), none, .load false 1 (.t 35)⟩, ⟨(some 37), (some (32, true)), none, .mv (.t 12)⟩, ⟨(some 38), (some (32, true)), none, .indexA 2 (.t 36) (.t 37)⟩, ⟨(some 39), (some (32, true)), none, .load true 2 (.t 38)⟩, ⟨(some 40), (some (32, true)), none, .call .pu 96 [.t 39]⟩, ⟨(some 41), (some (32, true)), none, .bin .eql (.t 40) (ki 0)⟩, lq 42 (.pick (.t 32) (.t 41) (.c (.p (.bool false))))] none)
 (.fg [6, 8, 9, 10, 11, 12, 13, 14, 21, 22, 42] (.cond (.t 42)
 .skip
 (.exit 2))))
 (.fg [6, 8, 9, 10, 11, 12, 13, 14, 21, 22] (.block 3
 (.reg [mq 43 14, lq 44 (.bin .add (.t 43) (ki 1)), mq 14 44] none)))))))
 (.fg [6, 8, 9, 10, 11, 12, 13, 14, 21, 22] (.seq (.seq (.reg [mq 45 14, mq 46 8, lq 47 (.len (.t 46)), bq 48 .eql 45 47] none)
 (.fg [6, 8, 9, 10, 11, 12, 13, 14, 21, 22, 48] (.cond (.t 48)
 (.exit 1)
 .skip)))
 (.seq (.seq (.reg [mq 49 14, mq 50 13, bq 51 .neq 49 50] none)
 (.fg [6, 8, 9, 10, 11, 12, 13, 14, 21, 22, 51] (.cond (.t 51)
 (.seq (.reg [mq 52 8, mq 53 14, mq 54 8, mq 55 13, mq 56 8, mq 57 13, xq 58 1 56 57, lF 59 1 58, mq 60 8, mq 61 14, xq 62 1 60 61, lF 63 1 62, xq 64 1 52 53, sq 1 64 59, xq 65 1 54 55, sq 1 65 63] (some (0, [])))
 (.reg [mq 66 11, lq 67 (.un .not (.t 66)), mq 11 67] none))
 .skip)))
 (.seq (.seq (.reg [mq 68 13, lq 69 (.bin .add (.t 68) (ki 1)), mq 15 69] none)
 (.fg [6, 8, 9, 10, 11, 12, 13, 15, 21, 22] (.block 4
 (.loop (.fg [6, 8, 9, 10, 11, 12, 13, 15, 21, 22]
 (.seq (.seq (.reg [mq 70 15, mq 71 8, lq 72 (.len (.t 71)), bq 73 .lss 70 72] none)
 (.fg [6, 8, 9, 10, 11, 12, 13, 15, 21, 22, 73] (.cond (.t 73)
 .skip
 (.exit 4))))
 (.seq (.block 5
 (.seq (.reg [mq 76 8, mq 77 15, xq 78 1 76 77, lF 79 1 78, lq 80 (.len (.t 79)), lq 81 (.bin .sub (.t 80) (ki 1)), mq 16 81] none)
 (.fg [6, 8, 9, 10, 11, 12, 13, 15, 16, 21, 22] (.block 6
 (.loop (.fg [6, 8, 9, 10, 11, 12, 13, 15, 16, 21, 22]
 (.seq (.seq (.reg [mq 82 16, mq 83 12, bq 84 .geq 82 83] none)
 (.fg [6, 8, 9, 10, 11, 12, 13, 15, 16, 21, 22, 84] (.cond (.t 84)
 .skip
 (.exit 6))))
 (.seq (.block 7
 (.seq (.reg [mq 87 8, mq 88 13, xq 89 1 87 88, lF 90 1 89, mq 91 12, xq 92 2 90 91, lT 93 2 92, mq 94 8, mq 95 15, xq 96 1 94 95, lF 97 1 96, mq 98 16, xq 99 2 97 98, lT 100 2 99, lq 101 (.call .pu 104 [.t 93, .t 100]), mq 102 8, mq 103 15, xq 104 1 102 103, lF 105 1 104, mq 106 12, xq 107 2 105 106, lT 108 2 107, mq 109 8, mq 110 13, xq 111 1 109 110, lF 112 1 111, mq 113 16, xq 114 2 112 113, lT 115 2 114, lq 116 (.call .pu 104 [.t 108, .t 115]), lq 117 (.call .pu 126 [.t 101, .t 116]), ⟨(some 17), none, (some 0), .alloc [.p (.bool false), .nils]⟩, sq 2 17 117] (some (1, [])))
 (.reg [mq 119 8, mq 120 15, xq 121 1 119 120, lF 122 1 121, mq 123 16, lT 124 2 17, lT 125 2 10, lq 126 (.call .pu 99 [.t 124, .t 125]), mq 118 126, lq 127 (.extract (.t 118) 0), lq 128 (.extract (.t 118) 1), lq 129 (.extract (.t 118) 2), xq 130 2 122 123, sq 2 130 127] (some (0, [])))))
 (.fg [6, 8, 9, 10, 11, 12, 13, 15, 16, 21, 22] (.reg [mq 85 16, lq 86 (.bin .sub (.t 85) (ki 1)), mq 16 86] none))))))))))
 (.fg [6, 8, 9, 10, 11, 12, 13, 15, 21, 22] (.reg [mq 74 15, lq 75 (.bin .add (.t 74) (ki 1)), mq 15 75] none)))))))))
 (.seq (.reg [mq 131 8, mq 132 13, xq 133 1 131 132, lF 134 1 133, mq 135 12, xq 136 2 134 135, lT 137 2 136, sq 2 10 137] none)
 (.reg [mq 138 9, mq 139 12, lq 140 (.bslice 1 [.t 139]), lq 141 (.append 1 8 (.t 138) (.t 140)), mq 9 141] none)))))))))))
 (.fg [6, 8, 9, 10, 11, 21, 22] (.reg [lq 142 (.bin .add (.t 22) (ki 1)), mq 22 142] none)))))))))))
 (.seq (.reg [mq 143 8, mq 144 9, lT 145 2 10, mq 146 11, mq 4 143, mq 5 144, sq 2 6 145, mq 7 146] (some (0, [])))
 .ret)))))))), [.t 4, .t 5, .cell 6 true 2, .t 7]⟩
theorem c128 : chkF Tryz.prog 128 f128 = true := by kernel_rfl
def f130 : RFun := ⟨(.seq (.reg [lq 1 (.box (.t 0)), lq 2 (.alloc [.p (.bool false), .nils])] none)
 (.seq (.reg [lq 3 (.fieldA 0 (.t 1)), lF 4 1 3, lq 5 (.fieldA 1 (.t 1)), lF 6 1 5, lq 7 (.call .pu 85 [.t 4, .t 6]), sq 2 2 7] none)
 .ret)), [.cell 2 true 2]⟩
theorem c130 : chkF Tryz.prog 130 f130 = true := by kernel_rfl
def f132 : RFun := ⟨(.seq (.reg [lq 1 (.box (.t 0)), lq 2 (.alloc [.p (.bool false), .nils])] none)
 (.seq (.reg [lq 3 (.fieldA 1 (.t 1)), lF 4 1 3, lq 5 (.call .pu 85 [.c (.p (.bool false)), .t 4]), sq 2 2 5] none)
 .ret)), [.cell 2 true 2]⟩
theorem c132 : chkF Tryz.prog 132 f132 = true := by kernel_rfl
def f133 : RFun := ⟨(.seq (.reg [lq 2 (.box (.t 0)), lq 3 (.box (.t 1)), lq 4 (.alloc [.p (.bool false), .nils])] none)
 (.seq (.reg [lq 5 (.fieldA 1 (.t 2)), lF 6 1 5, lq 7 (.fieldA 1 (.t 3)), lF 8 1 7, lq 9 (.call .pu 154 [.t 6, .t 8]), lq 10 (.call .pu 85 [.c (.p (.bool false)), .t 9]), sq 2 4 10] none)
 .ret)), [.cell 4 true 2]⟩
theorem c133 : chkF Tryz.prog 133 f133 = true := by kernel_rfl
def f151 : RFun := ⟨(.seq (.reg [lq 2 (.mv (.c (.nils)))] none)
 (.seq (.reg [mq 6 0, lq 7 (.len (.t 6)), lq 8 (.mks true 1 24 (.sl []) (.t 7) (.t 7)), mq 3 8] none)
 (.seq (.seq (.reg [mq 9 0, lq 10 (.len (.t 9)), lq 11 (.mv (ki 0))] none)
 (.fg [3, 9, 10, 11] (.block 0
 (.loop (.fg [3, 9, 10, 11]
 (.seq (.reg [bq 12 .lss 11 10] none)
 (.seq (.cond (.t 12)
 .skip
 (.exit 0))
 (.fg [3, 9, 10, 11] (.seq (.block 1
 (.seq (.reg [mq 13 11, xq 14 1 9 11, lF 15 1 14, mq 4 13, mq 5 15] none)
 (.seq (.reg [mq 16 3, mq 17 4, mq 18 5, lq 19 (.len (.t 18)), lq 20 (.mks false 2 32 (.agg [.bool false, .sl []]) (.t 19) (.t 19)), xq 21 1 16 17, sq 1 21 20] none)
 (.reg [mq 22 3, mq 23 4, xq 24 1 22 23, lF 25 1 24, mq 26 5, lq 27 (.copy 2 (.t 25) (.t 26))] none))))
 (.fg [3, 9, 10, 11] (.reg [lq 28 (.bin .add (.t 11) (ki 1)), mq 11 28] none)))))))))))
 (.seq (.reg [mq 29 3, mq 2 29] none)
 .ret)))), [.t 2]⟩
theorem c151 : chkF Tryz.prog 151 f151 = true := by kernel_rfl
def f154 : RFun := ⟨(.seq (.reg [lq 4 (.mv (.c (.nils)))] none)
 (.seq (.reg [mq 10 0, lq 11 (.call .pu 155 [.t 10]), mq 12 1, lq 13 (.call .pu 155 [.t 12]), mq 5 11, mq 6 13] none)
 (.seq (.block 0
 (.loop (.fg [5, 6]
 (.seq (.seq (.reg [mq 14 6, lq 15 (.len (.t 14)), lq 16 (.bin .gtr (.t 15) (ki 0))] none)
 (.fg [5, 6, 16] (.cond (.t 16)
 .skip
 (.exit 0))))
 (.fg [5, 6] (.block 1
 (.seq (.reg [mq 18 5, mq 19 6, lq 20 (.call .pu 134 [.t 18, .t 19]), mq 17 20, lq 21 (.extract (.t 17) 0), lq 22 (.extract (.t 17) 1), lq 23 (.extract (.t 17) 2), mq 7 21, mq 8 22, mq 9 23] none)
 (.reg [mq 24 6, mq 25 8, mq 5 24, mq 6 25] none))))))))
 (.fg [5] (.seq (.reg [mq 26 5, mq 4 26] none)
 .ret))))), [.t 4]⟩
theorem c154 : chkF Tryz.prog 154 f154 = true := by kernel_rfl
def f162 : RFun := ⟨(.seq (.reg [lq 2 (.mv (.c (.nils)))] none)
 (.seq (.reg [mq 3 0, lq 4 (.call .keep 90 [.t 3, .c (.fn 169 [])]), mq 2 4] none)
 .ret)), [.t 2]⟩
theorem c162 : chkF Tryz.prog 162 f162 = true := by kernel_rfl
def f169 : RFun := ⟨(.seq (.reg [lq 2 (.mv (.c (.nils)))] none)
 (.seq (.reg [mq 3 0, lq 4 (.call .keep 102 [.t 3, .c (.fn 130 [])]), mq 2 4] none)
 .ret)), [.t 2]⟩
theorem c169 : chkF Tryz.prog 169 f169 = true := by kernel_rfl
end Go.Proofs.YtdieenbfdeaffaaGreat.VDd

namespace Go.Proofs.YtdieenbfdeaffaaGreat.VDd
open Go Vpi
set_option maxRecDepth 100000
def tab : List (Nat × RFun) := [(3, f3), (4, f4), (6, f6), (7, f7), (9, f9), (10, f10), (11, f11), (12, f12), (13, f13), (23, f23), (24, f24), (27, f27), (28, f28), (29, f29), (30, f30), (31, f31), (35, f35), (54, f54), (55, f55), (56, f56), (57, f57), (58, f58), (59, f59), (60, f60), (64, f64), (65, f65), (66, f66), (71, f71), (90, f90), (91, f91), (92, f92), (93, f93), (94, f94), (95, f95), (97, f97), (98, f98), (100, f100), (101, f101), (102, f102), (103, f103), (107, f107), (127, f127), (128, f128), (130, f130), (132, f132), (133, f133), (151, f151), (154, f154), (162, f162), (169, f169)]
def rp : RProg := fun f => match VBn.rp f with | some rf => some rf | none => (tab.find? fun x => x.1 == f).map (·.2)
theorem all_ok : (tab.all fun x => chkF Tryz.prog x.1 x.2) = true := by
  simp only [tab, List.all_cons, List.all_nil, c3, c4, c6, c7, c9, c10, c11, c12, c13, c23, c24, c27, c28, c29, c30, c31, c35, c54, c55, c56, c57, c58, c59, c60, c64, c65, c66, c71, c90, c91, c92, c93, c94, c95, c97, c98, c100, c101, c102, c103, c107, c127, c128, c130, c132, c133, c151, c154, c162, c169, Bool.and_self]
theorem base_le : TabLe VBn.rp rp := by
  intro f rf h
  simp only [rp, h]
theorem rp_ok : ∀ f rf, rp f = some rf → chkF Tryz.prog f rf = true := by
  intro f rf h
  unfold rp at h
  split at h
  · rename_i h1
    cases h
    exact VBn.rp_ok _ _ h1
  · rw [Option.map_eq_some_iff] at h
    obtain ⟨x, hx, rfl⟩ := h
    have h1 := List.find?_some hx
    have h2 := List.mem_of_find?_eq_some hx
    have h3 := List.all_eq_true.1 all_ok x h2
    have h4 : x.1 = f := by simpa using h1
    rw [← h4]; exact h3
theorem mixed : Tryz.prog.follows .mixedOrders = true := VBn.mixed
theorem sim (m : Nat) : CallSim Tryz.prog (runF rp m) := callSim mixed rp_ok m
end Go.Proofs.YtdieenbfdeaffaaGreat.VDd

namespace Go.Proofs.YtdieenbfdeaffaaGreat.VDd
open Go Vpi
open VBn hiding rp tab rp_ok all_ok mixed sim Big
set_option maxRecDepth 100000
set_option linter.unusedSimpArgs false
set_option linter.unusedVariables false
theorem rp116 : rp 102 = some f102 := rfl
theorem rp114 : rp 90 = some f90 := rfl
theorem rp94 : rp 130 = some f130 := rfl
theorem rp100 : rp 71 = some f71 := rfl
/-! ### stores that grow -/
structure Pre (σ ρ : Store) : Prop where
  len : σ.length ≤ ρ.length
  get : ∀ j, j < σ.length → ρ[j]? = σ[j]?
section
variable {σ ρ : Store} {c : CV} {sz : Nat} {es : List PV}
theorem Pre.refl : Pre σ σ := ⟨Nat.le_refl _, fun _ _ => rfl⟩
theorem Pre.push (h : Pre σ ρ) {l : Store} : Pre σ (ρ ++ l) := ⟨by rw [List.length_append]; exact Nat.le_trans h.len (Nat.le_add_right _ _), fun j hj => by rw [get_left (Nat.lt_of_lt_of_le hj h.len), h.get j hj]⟩
theorem Pre.set (h : Pre σ ρ) {b : Nat} {x : Blk} (hb : σ.length ≤ b) : Pre σ (ρ.set b x) := ⟨by rw [List.length_set]; exact h.len, fun j hj => by rw [get_ne (by omega), h.get j hj]⟩
theorem Pre.nd (h : Pre σ ρ) (hc : ∀ b o n, c = .own b o n → σ.length ≤ b) : Pre σ (nd ρ c) := by
  cases c <;> try exact h
  exact h.set (hc _ _ _ rfl)
theorem Pre.trans {τ : Store} (h : Pre σ ρ) (k : Pre ρ τ) : Pre σ τ := ⟨Nat.le_trans h.len k.len, fun j hj => by rw [k.get j (Nat.lt_of_lt_of_le hj h.len), h.get j hj]⟩
theorem Pre.take (h : Pre σ ρ) : ρ.take σ.length = σ := by
  apply List.ext_getElem?
  intro j
  rw [List.getElem?_take]
  split
  · exact h.get j (by assumption)
  · rw [List.getElem?_eq_none (by omega)]
theorem Pre.nil : Pre [] ρ := ⟨Nat.zero_le _, fun j hj => by simp at hj⟩
theorem nd_left {l : Store} (h : GL ρ sz c es) : nd (ρ ++ l) c = nd ρ c ++ l := by
  have hlt := h.lt.2
  cases c <;> try rfl
  exact set_left (hlt _ _ _ rfl)
theorem back_ge {b : Nat} {n base : Nat} (hb : ρ[b]? = some (.prow sz es)) (hn : n = es.length) (h : base ≤ b) : back base ρ (.own b 0 n) = some (.p (.sl es)) := by
  have h1 : ¬ b < base := by omega
  simp only [back, back1, h1, if_false, frz1_own hb hn, Option.map_some]
section
variable {rp : RProg} {rs : List RRes} {base : Nat} {d : Option Nat} {l : List LOp} {dr : Dr} {ks : List KI} {e : Env} {Q : CV → Store → Prop} {xs : List PV}
theorem r_app_1 {a : Blk} {s x : Opd} {bytes : Nat} (h : GL ρ sz c es) (hc : (es.length + xs.length) * bytes ≤ 140737488355328) (hs : vl e s = c) (hx : vl e x = .own (ρ.length + 1) 0 xs.length) (hz : allSz sz xs = true) :
    ExR rp rs base (⟨d, none, none, .append sz bytes s x⟩ :: l) dr ks e (ρ ++ [a, .prow sz xs]) Q = ExR rp rs base l dr ks (sto d (.own (ρ.length + 2) 0 (es.length + xs.length)) e) (nd ρ c ++ [a, .prow sz xs, .prow sz (es ++ xs)]) Q := by
  have hl : (ρ ++ [a]).length = ρ.length + 1 := by simp
  have := r_app (rp := rp) (rs := rs) (base := base) (d := d) (l := l) (dr := dr) (ks := ks) (e := e) (Q := Q) (s := s) (x := x) (h.left (τ := [a])) hc hs (by rw [hl]; exact hx) hz
  rw [hl, nd_left h, List.append_assoc, List.append_assoc] at this
  exact this
theorem kc_full' {f : Nat} {args : List CV} (h : Rn rp f args σ fun v τ => ((τ.take σ.length).all (blkBelow σ.length)) = true ∧ ∃ r, back σ.length τ v = some r ∧ ExR rp rs base l dr ks (sto d r e) (τ.take σ.length) Q) :
    KC rp rs base .full f args d l dr ks e σ Q := cl_full h
end
end
/-! ### lists of numbers -/
def zr (r : List Int) : List PV := r.map zi
def zm (M : List (List Int)) : List PV := M.map fun r => .sl (zr r)
theorem zr_len {r : List Int} : (zr r).length = r.length := by simp [zr]
theorem zm_len {M : List (List Int)} : (zm M).length = M.length := by simp [zm]
theorem zr_get {r : List Int} {i : Nat} {x : Int} (h : r[i]? = some x) : (zr r)[i]? = some (zi x) := by simp [zr, h]
theorem zm_get {M : List (List Int)} {i : Nat} {r : List Int} (h : M[i]? = some r) : (zm M)[i]? = some (.sl (zr r)) := by simp [zm, h]
theorem zr_app {r s : List Int} : zr (r ++ s) = zr r ++ zr s := by simp [zr]
theorem take_suc {α : Type} {l : List α} {i : Nat} {x : α} (h : l[i]? = some x) : l.take (i + 1) = l.take i ++ [x] := by
  obtain ⟨h1, h2⟩ := List.getElem?_eq_some_iff.1 h
  rw [List.take_add_one, h]; rfl
theorem zr_suc {r : List Int} {i : Nat} {x : Int} (h : r[i]? = some x) : zr (r.take (i + 1)) = zr (r.take i) ++ [zi x] := by rw [take_suc h, zr_app]; rfl
def NL (r : List PV) (xs : List Int) : Prop := r.length = xs.length ∧ ∀ (i : Nat) (p : PV) (x : Int), r[i]? = some p → xs[i]? = some x → Nu p x
theorem NL.ix {r : List PV} {xs : List Int} (h : NL r xs) {i : Nat} (hi : i < r.length) : ∃ p x, r[i]? = some p ∧ xs[i]? = some x ∧ Nu p x := by
  have h2 : i < xs.length := by rw [← h.1]; exact hi
  exact ⟨r[i], xs[i], by simp, by simp, h.2 i _ _ (by simp) (by simp)⟩
def SzL (r : List Int) : Prop := ∀ (i : Nat) (x : Int), r[i]? = some x → Sz x
theorem NL.zr {r : List Int} (h : SzL r) : NL (zr r) r := by
  refine ⟨zr_len, fun i p x hp hx => ?_⟩
  rw [zr_get hx] at hp
  cases hp
  exact Nu.zi (h i x hx)
/-! ### each -/
def Does (σ : Store) (g : Nat) (cap : List CV) (p : PV) (y : Int) : Prop :=
  ∀ (ρ : Store), Pre σ ρ → ∀ {rs : List RRes} {base : Nat} {d : Option Nat} {l : List LOp} {dr : Dr} {ks : List KI} {e : Env} {Q : CV → Store → Prop},
    KC rp rs base .cell g (.p p :: cap) d l dr ks e ρ Q = ExR rp rs base l dr ks (sto d (.p (zi y)) e) ρ Q
theorem n116 {σ : Store} {g : Nat} {cap : List CV} {r : List PV} {ys : List Int} (hw : Wf σ) (hl : r.length = ys.length) (hm : r.length ≤ 2000000)
    (hg : ∀ i, i < r.length → ∃ p y, r[i]? = some p ∧ ys[i]? = some y ∧ (∃ a b, p = .agg [.bool a, .sl b]) ∧ Does σ g cap p y) {Q : CV → Store → Prop}
    (hQ : ∀ ρ b, Pre σ ρ → Wf ρ → σ.length ≤ b → ρ[b]? = some (.prow 2 (zr ys)) → Q (.own b 0 ys.length) ρ) : Rn rp 102 [.p (.sl r), .fn g cap] σ Q := by
  rw [rn_of rp116]
  have m1 : ((32 : Nat) : Int) * (r.length : Int) ≤ 281474976710656 := by omega
  have m2 : (r.length : Int) ≤ 9223372036854775807 := by omega
  have i0 : Int.toNat 0 = 0 := rfl
  simp only [f102, args0, SA, setCells, Int.reduceLE, Int.reduceLT, ↓reduceIte, reduceCtorEq, Nat.reduceLT, Nat.reduceEqDiff, Nat.reduceAdd, Nat.reduceMul, Nat.reduceLeDiff, Nat.reduceBEq, Int.natCast_nonneg, m1, m2, i0, Int.le_refl]
  refine loop_rule (β := Nat × Store × Nat) (fun t => ([(1, .fn g cap), (5, .own t.2.2 0 t.1), (11, .p (.sl r)), (12, i64 r.length), (13, i64 t.1)], t.2.1))
    (fun t => t.1 ≤ r.length ∧ Pre σ t.2.1 ∧ Wf t.2.1 ∧ σ.length ≤ t.2.2 ∧ t.2.1[t.2.2]? = some (.prow 2 (zr (ys.take t.1)))) (fun t => r.length - t.1) ((0, σ ++ [.prow 2 []], σ.length) : Nat × Store × Nat) rfl rfl
    ⟨Nat.zero_le _, Pre.refl.push, hw.push rfl, Nat.le_refl _, by rw [get_app0]; rfl⟩ ?_
  rintro ⟨i, ρ, b⟩ ⟨hi, hp, hwf, hb, hgl⟩ ih
  simp only [] at hi hp hwf hb hgl ih ⊢
  by_cases hin : (i : Int) < r.length
  · obtain ⟨p, y, hpi, hyi, ⟨a1, a2, rfl⟩, hd⟩ := hg i (by omega)
    have w1 : IntKind.i64.wrap ((i : Int) + 1) = ((i + 1 : Nat) : Int) := by rw [IntWalk.i64_in _ (by omega)]; omega
    have htl : (zr (ys.take i)).length = i := by rw [zr_len, List.length_take]; omega
    have hG : GL ρ 2 (.own b 0 i) (zr (ys.take i)) := .own hgl htl.symm
    have hc : ((zr (ys.take i)).length + [zi y].length) * 32 ≤ 140737488355328 := by rw [htl]; simp; omega
    have hd' := fun {rs base d l dr ks e Q} => hd (ρ ++ [.kblk 2 [.p (.bool a1), .p (.sl a2)]]) hp.push (rs := rs) (base := base) (d := d) (l := l) (dr := dr) (ks := ks) (e := e) (Q := Q)
    have hA := fun {rp rs base d l dr ks e Q s x} => r_app_1 (rp := rp) (rs := rs) (base := base) (d := d) (l := l) (dr := dr) (ks := ks) (e := e) (Q := Q) (s := s) (x := x) (a := .kblk 2 [.p (.bool a1), .p (.sl a2)]) hG hc
    simp only [SA, setCells, Int.reduceLE, Int.reduceLT, ↓reduceIte, reduceCtorEq, Nat.reduceLT, Nat.reduceEqDiff, Nat.reduceAdd, Nat.reduceMul, Nat.reduceLeDiff, Nat.reduceBEq, hin, hpi, Int.natCast_nonneg, Int.toNat_natCast, hd', hA, ← zr_suc hyi, htl, w1, nd]
    refine ih (i + 1, ρ.set b .dead ++ [.kblk 2 [.p (.bool a1), .p (.sl a2)], .prow 2 [zi y], .prow 2 (zr (ys.take (i + 1)))], ρ.length + 2) _ ⟨by simp only []; omega, (hp.set hb).push, ?_, ?_, ?_⟩ (by simp only []; omega) ?_
    · have h1 := (((hwf.set (b := b) (x := .dead) rfl).push (x := .kblk 2 [.p (.bool a1), .p (.sl a2)]) rfl).push (x := .prow 2 [zi y]) rfl).push (x := .prow 2 (zr (ys.take (i + 1)))) rfl
      simpa [List.append_assoc] using h1
    · simp only []; exact Nat.le_trans hp.len (Nat.le_add_right _ _)
    · simp only []
      rw [show ρ.length + 2 = (ρ.set b Blk.dead).length + 2 by rw [List.length_set], get_app]; rfl
    · rfl
  · obtain rfl : i = r.length := by omega
    simp only [SA, setCells, Int.reduceLE, Int.reduceLT, ↓reduceIte, reduceCtorEq, Nat.reduceLT, Nat.reduceEqDiff, Nat.reduceAdd, Nat.reduceMul, Nat.reduceLeDiff, Nat.reduceBEq, hin]
    rw [List.take_of_length_le (by omega)] at hgl
    rw [hl]
    exact hQ ρ b hp hwf hb hgl
theorem p94 {p : PV} {x : Int} (h : Nu p x) : Pu rp 130 [p] (.p (zi x)) := by
  obtain ⟨n1, a, rfl, ha, hna, rfl⟩ := h
  refine pu_of rp94 ?_
  rw [CapN_eq] at hna
  have k := (p105 (neg := n1) ha (by omega)).lift base_le
  rw [mk_val] at k
  simp only [f130, args0, SA, setCells, Int.reduceLE, Int.reduceLT, ↓reduceIte, reduceCtorEq, Nat.reduceLT, Nat.reduceEqDiff, Nat.reduceAdd, Nat.reduceMul, Nat.reduceLeDiff, Nat.reduceBEq, kp2 k]
  rfl
theorem Nu.agg {p : PV} {x : Int} (h : Nu p x) : ∃ a b, p = .agg [.bool a, .sl b] := by
  obtain ⟨n1, a, rfl, -⟩ := h
  exact ⟨_, _, rfl⟩
/-! ### a list of blocks -/
structure RowsAt (ρ : Store) (lo : Nat) (cs : List CV) (M : List (List Int)) : Prop where
  len : cs.length = M.length
  own : ∀ (j : Nat) (r : List Int), M[j]? = some r → ∃ b, cs[j]? = some (.own b 0 r.length) ∧ lo ≤ b ∧ ρ[b]? = some (.prow 2 (zr r))
  ne : ∀ (j j' b b' n n' : Nat), j < j' → cs[j]? = some (.own b 0 n) → cs[j']? = some (.own b' 0 n') → b ≠ b'
section
variable {rp : RProg} {rs : List RRes} {base : Nat} {d : Option Nat} {l : List LOp} {dr : Dr} {ks : List KI} {e : Env} {σ ρ : Store} {Q : CV → Store → Prop}
theorem contK_own {b n : Nat} {cs : List CV} (h : σ[b]? = some (.kblk 1 cs)) (hn : n = cs.length) : contentK σ (.own b 0 n) = some cs := by
  subst hn
  simp [contentK, h]
theorem r_appk_1 {a k n : Nat} {cs xs : List CV} {s x : Opd} {bytes : Nat} (hk : ρ[k]? = some (.kblk 1 cs)) (hn : n = cs.length) (hx0 : 0 < xs.length) (hc : (cs.length + xs.length) * bytes ≤ 140737488355328) (hs : vl e s = .own k 0 n) (hx : vl e x = .own ρ.length 0 xs.length) :
    ExR rp rs base (⟨d, none, none, .appk bytes s x⟩ :: l) dr ks e (ρ ++ [.kblk 1 xs]) Q = ExR rp rs base l dr ks (sto d (.own (ρ.length + 1) 0 (cs.length + xs.length)) e) (ρ.set k .dead ++ [.kblk 1 xs, .kblk 1 (cs ++ xs)]) Q := by
  rw [r_appk]
  have hlt := (List.getElem?_eq_some_iff.1 hk).1
  have h1 : contentK (ρ ++ [.kblk 1 xs]) (vl e s) = some cs := by rw [hs]; exact contK_own (by rw [List.getElem?_append_left hlt]; exact hk) hn
  have h2 : contentK (ρ ++ [.kblk 1 xs]) (vl e x) = some xs := by rw [hx]; exact contK_own (by simp) rfl
  simp only [ev, h1, h2]
  rw [if_pos ⟨hc, hx0⟩, hs]
  simp only [push_none, Option.map_some, ke_some, List.length_append, List.length_set, List.length_cons, List.length_nil, Nat.zero_add]
  rw [List.set_append_left _ _ hlt, List.append_assoc]
  rfl
end
/-! ### Floor -/
structure Fl (x y q r : Int) : Prop where
  eq : x = q * y + r
  rest : (0 ≤ r ∧ r < y) ∨ (y < r ∧ r ≤ 0)
  le : q.natAbs ≤ x.natAbs + 1
  rle : r.natAbs < y.natAbs
theorem fl_of {n1 n2 : Bool} {A B : Nat} {x y : Int} (hx : x = if n1 = true then -(A : Int) else A) (hy : y = if n2 = true then -(B : Int) else B) (hB : B ≠ 0) :
    ∃ q0 r0 : Int, q0 = (if (!(n1 == n2)) = true then -((A / B : Nat) : Int) else ((A / B : Nat) : Int)) ∧ r0 = (if n1 = true then -((A % B : Nat) : Int) else ((A % B : Nat) : Int)) ∧ x = q0 * y + r0 ∧ q0.natAbs ≤ x.natAbs ∧ r0.natAbs ≤ x.natAbs ∧ r0.natAbs < y.natAbs ∧
      (r0.sign = 0 → Fl x y q0 r0) ∧ (r0.sign ≠ 0 → r0.sign = y.sign → Fl x y q0 r0) ∧ (r0.sign ≠ 0 → r0.sign ≠ y.sign → Fl x y (q0 - 1) (r0 + y)) := by
  have hd : (A : Int) = ((A / B : Nat) : Int) * (B : Int) + ((A % B : Nat) : Int) := by
    have := Nat.div_add_mod A B
    have h2 : (A : Int) = ((B * (A / B) + A % B : Nat) : Int) := by rw [this]
    rw [h2, Int.natCast_add, Int.natCast_mul, Int.mul_comm]
  have hm : A % B < B := Nat.mod_lt _ (Nat.pos_of_ne_zero hB)
  have hqle : A / B ≤ A := Nat.div_le_self _ _
  have hrle : A % B ≤ A := Nat.mod_le _ _
  generalize A / B = D at *
  generalize A % B = R at *
  have key : x = (if (!(n1 == n2)) = true then -(D : Int) else (D : Int)) * y + (if n1 = true then -(R : Int) else (R : Int)) := by
    rw [hx, hy]
    cases n1 <;> cases n2
    · show (A : Int) = (D : Int) * (B : Int) + (R : Int)
      exact hd
    · show (A : Int) = -(D : Int) * -(B : Int) + (R : Int)
      rw [Int.neg_mul_neg]; exact hd
    · show -(A : Int) = -(D : Int) * (B : Int) + -(R : Int)
      rw [Int.neg_mul]; omega
    · show -(A : Int) = (D : Int) * -(B : Int) + -(R : Int)
      rw [Int.mul_neg]; omega
  refine ⟨_, _, rfl, rfl, key, ?_, ?_, ?_, ?_, ?_, ?_⟩
  · rw [hx]; cases n1 <;> cases n2 <;> simp <;> omega
  · rw [hx]; cases n1 <;> simp <;> omega
  · rw [hy]; cases n1 <;> cases n2 <;> simp <;> omega
  · intro h0
    have h1 := Int.sign_eq_zero_iff_zero.1 h0
    refine ⟨key, ?_, ?_, ?_⟩
    · rw [h1]
      rw [hy]; cases n2 <;> simp <;> omega
    · rw [hx]; cases n1 <;> cases n2 <;> simp <;> omega
    · rw [h1, hy]; cases n2 <;> simp <;> omega
  · intro h0 h1
    have hR : R ≠ 0 := by rintro rfl; apply h0; cases n1 <;> rfl
    refine ⟨key, ?_, ?_, ?_⟩
    · rw [hy] at h1 ⊢
      cases n1 <;> cases n2
      · left; simp; omega
      · exfalso
        rw [Int.sign_eq_one_of_pos (by simp; omega : (0 : Int) < if false = true then -(R : Int) else R), Int.sign_eq_neg_one_of_neg (by simp; omega : (if true = true then -(B : Int) else (B : Int)) < 0)] at h1
        cases h1
      · exfalso
        rw [Int.sign_eq_neg_one_of_neg (by simp; omega : (if true = true then -(R : Int) else (R : Int)) < 0), Int.sign_eq_one_of_pos (by simp; omega : (0 : Int) < if false = true then -(B : Int) else B)] at h1
        cases h1
      · right; simp; omega
    · rw [hx]; cases n1 <;> cases n2 <;> simp <;> omega
    · rw [hy]; cases n1 <;> cases n2 <;> simp <;> omega
  · intro h0 h1
    have hR : R ≠ 0 := by rintro rfl; apply h0; cases n1 <;> rfl
    refine ⟨by rw [Int.sub_mul]; omega, ?_, ?_, ?_⟩
    · rw [hy] at h1 ⊢
      cases n1 <;> cases n2
      · exfalso
        apply h1
        rw [Int.sign_eq_one_of_pos (by simp; omega : (0 : Int) < if false = true then -(R : Int) else R), Int.sign_eq_one_of_pos (by simp; omega : (0 : Int) < if false = true then -(B : Int) else B)]
      · right; simp; omega
      · left; simp; omega
      · exfalso
        apply h1
        rw [Int.sign_eq_neg_one_of_neg (by simp; omega : (if true = true then -(R : Int) else (R : Int)) < 0), Int.sign_eq_neg_one_of_neg (by simp; omega : (if true = true then -(B : Int) else (B : Int)) < 0)]
    · rw [hx]; cases n1 <;> cases n2 <;> simp <;> omega
    · rw [hy] at h1 ⊢
      cases n1 <;> cases n2
      · exfalso
        apply h1
        rw [Int.sign_eq_one_of_pos (by simp; omega : (0 : Int) < if false = true then -(R : Int) else R), Int.sign_eq_one_of_pos (by simp; omega : (0 : Int) < if false = true then -(B : Int) else B)]
      · simp; omega
      · simp; omega
      · exfalso
        apply h1
        rw [Int.sign_eq_neg_one_of_neg (by simp; omega : (if true = true then -(R : Int) else (R : Int)) < 0), Int.sign_eq_neg_one_of_neg (by simp; omega : (if true = true then -(B : Int) else (B : Int)) < 0)]
theorem fl100 {p p' : PV} {x y : Int} (h : Nu p x) (h' : Nu p' y) (hy : y ≠ 0) : ∃ q r, Fl x y q r ∧ Pu rp 71 [p, p'] (.tup [.p (zi q), .p (zi r)]) := by
  have hx := h.sz
  have hys := h'.sz
  have k79y := (VBn.p79 h').lift base_le
  have h0' := h
  obtain ⟨n1, a, rfl, ha, hna, rfl⟩ := h
  have h'' := h'
  obtain ⟨n2, b, rfl, hb, hnb, rfl⟩ := h'
  have hb0 : val b ≠ 0 := by intro h0; apply hy; unfold iv; rw [h0]; cases n2 <;> rfl
  obtain ⟨q0, r0, eq0, er0, key, qle, rle, rlt, f1, f2, f3⟩ := fl_of (n1 := n1) (n2 := n2) (A := val a) (B := val b) (x := iv n1 a) (y := iv n2 b) rfl rfl hb0
  rw [CapN_eq] at hna hnb
  have k1 := (VBn.p135 ha hb (by omega) (by omega) hb0).lift base_le
  have hdq : (dgl (val a / val b)).length ≤ a.length := dgl_len (Nat.lt_of_le_of_lt (Nat.div_le_self _ _) (val_lt ha))
  have kq := (VBn.p107 (neg := !(n1 == n2)) (dgl_lim (val a / val b)) (by omega)).lift base_le
  simp only [val_dgl, mk_iv] at kq
  rw [← eq0] at kq
  have hqz : Sz q0 := hx.le qle
  have hrz : Sz r0 := hx.le rle
  have hmz : Sz (q0 * iv n2 b) := hx.le (by
    have e : q0 * iv n2 b = iv n1 a - r0 := by omega
    rw [e, er0]
    have hRA : val a % val b ≤ val a := Nat.mod_le _ _
    cases n1
    · show ((val a : Int) - ((val a % val b : Nat) : Int)).natAbs ≤ ((val a : Int)).natAbs
      omega
    · show (-(val a : Int) - -((val a % val b : Nat) : Int)).natAbs ≤ (-(val a : Int)).natAbs
      omega)
  have k117 := (VBn.p117 (Nu.zi hqz) h'').lift base_le
  have k60 := (VBn.p60 h0' (Nu.zi hmz)).lift base_le
  rw [show iv n1 a - q0 * iv n2 b = r0 by omega] at k60
  rw [zi_raw (x := q0)] at k117
  have k79 := (VBn.p79 (Nu.zi hrz)).lift base_le
  have ks := (VBn.p60 (Nu.zi hqz) (Nu.zi (x := 1) (Sz.small (by decide)))).lift base_le
  have ka := (VBn.p109 (Nu.zi hrz) h'').lift base_le
  have k66 := (VBn.p66 (x := 1) (by decide) (by decide)).lift base_le
  rw [zi_raw] at k79 ka
  rw [zi_raw (x := q0)] at ks
  have e0 : ((0 : Int) != 0) = false := rfl
  by_cases h0 : r0.sign = 0
  · refine ⟨q0, r0, f1 h0, ?_⟩
    refine pu_of rp100 ?_
    have e1 : (r0.sign != 0) = false := by rw [h0]; rfl
    simp only [f71, args0, SA, setCells, Int.reduceLE, Int.reduceLT, ↓reduceIte, reduceCtorEq, Nat.reduceLT, Nat.reduceEqDiff, Nat.reduceAdd, Nat.reduceMul, Nat.reduceLeDiff, Nat.reduceBEq, kp2 k1, push_sl, e0, kp2 kq, kp2 k117, kp2 k60, kp1 k79, e1]
    rw [r_nilx]
    refine ⟨by rfl, ?_⟩
    simp only [SA, setCells, Int.reduceLE, Int.reduceLT, ↓reduceIte, reduceCtorEq, Nat.reduceLT, Nat.reduceEqDiff, Nat.reduceAdd, Nat.reduceMul, Nat.reduceLeDiff, Nat.reduceBEq]
    exact back_t2 back1_p back1_p
  · have e1 : (r0.sign != 0) = true := by simp [h0]
    by_cases h1 : r0.sign = (iv n2 b).sign
    · refine ⟨q0, r0, f2 h0 h1, ?_⟩
      refine pu_of rp100 ?_
      rw [← h1] at k79y
      simp only [f71, args0, SA, setCells, Int.reduceLE, Int.reduceLT, ↓reduceIte, reduceCtorEq, Nat.reduceLT, Nat.reduceEqDiff, Nat.reduceAdd, Nat.reduceMul, Nat.reduceLeDiff, Nat.reduceBEq, kp2 k1, push_sl, e0, kp2 kq, kp2 k117, kp2 k60, kp1 k79, e1, kp1 k79y, bne_self_eq_false]
      rw [r_nilx]
      refine ⟨by rfl, ?_⟩
      simp only [SA, setCells, Int.reduceLE, Int.reduceLT, ↓reduceIte, reduceCtorEq, Nat.reduceLT, Nat.reduceEqDiff, Nat.reduceAdd, Nat.reduceMul, Nat.reduceLeDiff, Nat.reduceBEq]
      exact back_t2 back1_p back1_p
    · refine ⟨q0 - 1, r0 + iv n2 b, f3 h0 h1, ?_⟩
      refine pu_of rp100 ?_
      have e2 : (r0.sign != (iv n2 b).sign) = true := by simp [h1]
      simp only [f71, args0, SA, setCells, Int.reduceLE, Int.reduceLT, ↓reduceIte, reduceCtorEq, Nat.reduceLT, Nat.reduceEqDiff, Nat.reduceAdd, Nat.reduceMul, Nat.reduceLeDiff, Nat.reduceBEq, kp2 k1, push_sl, e0, kp2 kq, kp2 k117, kp2 k60, kp1 k79, e1, kp1 k79y, e2, kp1 k66, kp2 ks, kp2 ka]
      rw [r_nilx]
      refine ⟨by rfl, ?_⟩
      simp only [SA, setCells, Int.reduceLE, Int.reduceLT, ↓reduceIte, reduceCtorEq, Nat.reduceLT, Nat.reduceEqDiff, Nat.reduceAdd, Nat.reduceMul, Nat.reduceLeDiff, Nat.reduceBEq]
      exact back_t2 back1_p back1_p
end Go.Proofs.YtdieenbfdeaffaaGreat.VDd

namespace Go.Proofs.YtdieenbfdeaffaaGreat.VDd
open Go Vpi
open VBn hiding rp tab rp_ok all_ok mixed sim Big
set_option maxRecDepth 100000
set_option linter.unusedSimpArgs false
set_option linter.unusedVariables false
theorem rp133 : rp 154 = some f154 := rfl
theorem rp96 : rp 133 = some f133 := rfl
theorem rp97 : rp 57 = some f57 := rfl
theorem rp95 : rp 24 = some f24 := rfl
theorem p133 {a b : List Nat} (ha : Lim a) (hb : Lim b) (hna : a.length ≤ 400000000000) (hnb : b.length ≤ 400000000000) :
    Pu rp 154 [.sl (lm a), .sl (lm b)] (.p (.sl (lm (dgl (Nat.gcd (val a) (val b)))))) := by
  refine pu_of rp133 ?_
  have hda : (dgl (val a)).length ≤ a.length := dgl_len (val_lt ha)
  have hdb : (dgl (val b)).length ≤ b.length := dgl_len (val_lt hb)
  have ka := (VBn.p158 ha (by omega)).lift base_le
  have kb := (VBn.p158 hb (by omega)).lift base_le
  simp only [f154, args0, SA, setCells, Int.reduceLE, Int.reduceLT, ↓reduceIte, reduceCtorEq, Nat.reduceLT, Nat.reduceEqDiff, Nat.reduceAdd, Nat.reduceMul, Nat.reduceLeDiff, Nat.reduceBEq, kp1 ka, kp1 kb]
  refine bloop (β := Nat × Nat) (γ := Unit) (fun t => ([(5, .p (.sl (lm (dgl t.1)))), (6, .p (.sl (lm (dgl t.2))))], [])) (fun t => Nat.gcd t.1 t.2 = Nat.gcd (val a) (val b) ∧ (dgl t.1).length ≤ 400000000000 ∧ (dgl t.2).length ≤ 400000000000) (fun t => t.2)
    (fun _ => ([(5, .p (.sl (lm (dgl (Nat.gcd (val a) (val b))))))], [])) (fun _ => True) ((val a, val b) : Nat × Nat) rfl rfl ⟨rfl, by simp only []; omega, by simp only []; omega⟩ ?_ ?_
  · rintro ks' ⟨x, y⟩ ⟨hg, hx, hy⟩ ih hexit
    simp only [] at hg hx hy ih hexit ⊢
    by_cases h0 : y = 0
    · subst h0
      have hn : ¬ (((([] : List Nat).length : Nat) : Int) > 0) := by simp
      rw [Nat.gcd_zero_right] at hg
      simp only [SA, setCells, Int.reduceLE, Int.reduceLT, ↓reduceIte, reduceCtorEq, Nat.reduceLT, Nat.reduceEqDiff, Nat.reduceAdd, Nat.reduceMul, Nat.reduceLeDiff, Nat.reduceBEq, dgl_zero, lm_len, hn]
      refine hexit () _ trivial ?_
      rw [← hg]; rfl
    · have hlen := List.length_pos_iff.2 (dgl_ne h0)
      have hp : ((dgl y).length : Int) > 0 := by omega
      have hk := (VBn.p159 (dgl_lim x) (dgl_lim y) hx hy (by rw [val_dgl]; exact h0)).lift base_le
      rw [val_dgl, val_dgl] at hk
      have hr : (dgl (x % y)).length ≤ (dgl y).length := dgl_len_mono (Nat.le_of_lt (Nat.mod_lt _ (Nat.pos_of_ne_zero h0)))
      simp only [SA, setCells, Int.reduceLE, Int.reduceLT, ↓reduceIte, reduceCtorEq, Nat.reduceLT, Nat.reduceEqDiff, Nat.reduceAdd, Nat.reduceMul, Nat.reduceLeDiff, Nat.reduceBEq, lm_len, hp, kp2 hk]
      refine ih (y, x % y) _ ⟨?_, hy, by simp only []; omega⟩ (Nat.mod_lt _ (Nat.pos_of_ne_zero h0)) ?_
      · rw [← hg]; simp only []; rw [Nat.gcd_comm, ← Nat.gcd_rec, Nat.gcd_comm]
      · rfl
  · rintro ⟨⟩ -
    simp only [SA, setCells, Int.reduceLE, Int.reduceLT, ↓reduceIte, reduceCtorEq, Nat.reduceLT, Nat.reduceEqDiff, Nat.reduceAdd, Nat.reduceMul, Nat.reduceLeDiff, Nat.reduceBEq]
    rfl
theorem gcd_lt {a b M : Nat} (ha : a < M) (hb : b < M) : Nat.gcd a b < M := by
  rcases Nat.eq_zero_or_pos a with h | h
  · rw [h, Nat.gcd_zero_left]; exact hb
  · exact Nat.lt_of_le_of_lt (Nat.le_of_dvd h (Nat.gcd_dvd_left a b)) ha
theorem mk_nat {v : Nat} : mk false v = zi (v : Int) := by rw [mk_iv]; rfl
theorem p96 {p q : PV} {x y : Int} (h : Nu p x) (h' : Nu q y) : Pu rp 133 [p, q] (.p (zi ((Nat.gcd x.natAbs y.natAbs : Nat) : Int))) := by
  have hx := h.sz
  have hy := h'.sz
  obtain ⟨n1, a, rfl, ha, hna, rfl⟩ := h
  obtain ⟨n2, b, rfl, hb, hnb, rfl⟩ := h'
  refine pu_of rp96 ?_
  unfold Sz at hx hy
  rw [iv_abs] at hx hy
  rw [iv_abs, iv_abs]
  have hg : (dgl (Nat.gcd (val a) (val b))).length ≤ CapN := dgl_len (gcd_lt hx hy)
  rw [CapN_eq] at hna hnb hg
  have k1 := p133 ha hb (by omega) (by omega)
  have k2 := (VBn.p105 (neg := false) (dgl_lim (Nat.gcd (val a) (val b))) (by omega)).lift base_le
  rw [val_dgl, mk_nat] at k2
  simp only [f133, args0, SA, setCells, Int.reduceLE, Int.reduceLT, ↓reduceIte, reduceCtorEq, Nat.reduceLT, Nat.reduceEqDiff, Nat.reduceAdd, Nat.reduceMul, Nat.reduceLeDiff, Nat.reduceBEq, kp2 k1, kp2 k2]
  rfl
theorem p97 {p q : PV} {x y : Int} (h : Nu p x) (h' : Nu q y) (hy : 0 < y) (hd : y ∣ x) : Pu rp 57 [p, q] (.tup [.p (zi (x / y)), .p (.int .i64 0)]) := by
  refine pu_of rp97 ?_
  have k1 := (VBn.p134 h h' hy).lift base_le
  rw [Int.emod_eq_zero_of_dvd hd] at k1
  have k2 : Pu rp 96 [.agg [.bool (false && decide (Int.natAbs 0 ≠ 0)), .sl (lm (dgl (Int.natAbs 0)))]] (.p (.int .i64 0)) := (VBn.p77 (Nu.zi (x := 0) (Sz.small (by decide)))).lift base_le
  have e0 : ((0 : Int) != 0) = false := rfl
  obtain ⟨n1, a, rfl, ha, hna, rfl⟩ := h
  obtain ⟨n2, b, rfl, hb, hnb, rfl⟩ := h'
  simp only [f57, args0, SA, setCells, Int.reduceLE, Int.reduceLT, ↓reduceIte, reduceCtorEq, Nat.reduceLT, Nat.reduceEqDiff, Nat.reduceAdd, Nat.reduceMul, Nat.reduceLeDiff, Nat.reduceBEq, kp2 k1, e0, kp1 k2, Int.sign_zero]
  exact back_t2 back1_p back1_p
end Go.Proofs.YtdieenbfdeaffaaGreat.VDd

namespace Go.Proofs.YtdieenbfdeaffaaGreat.VDd
open Go Vpi
open VBn hiding rp tab rp_ok all_ok mixed sim Big
set_option maxRecDepth 100000
set_option linter.unusedSimpArgs false
set_option linter.unusedVariables false
/-! ### what divides all -/
def gR (g : Nat) (r : List Int) : Nat := r.foldl (fun g x => Nat.gcd g x.natAbs) g
def gM (g : Nat) (M : List (List Int)) : Nat := M.foldl gR g
theorem set_same {α : Type} {l : List α} {i : Nat} {x : α} (h : l[i]? = some x) : l.set i x = l := by
  apply List.ext_getElem?
  intro j
  by_cases hj : i = j
  · subst hj
    rw [List.getElem?_set_self (List.getElem?_eq_some_iff.1 h).1, h]
  · rw [List.getElem?_set_ne hj]
theorem updPV_zz {x y : Int} : updPV (zi x) 0 2 (zi y) = some (zi y) := updPV_mk
theorem killL_get {j : Nat} : ∀ {cs : List CV} {σ : Store}, (∀ c, c ∈ cs → ∀ b o n, c = .own b o n → b ≠ j) → (killL σ cs)[j]? = σ[j]?
  | [], σ, _ => rfl
  | c :: cs, σ, h => by
    show (killL (kill1 σ c) cs)[j]? = _
    rw [killL_get fun c' hc' => h c' (List.mem_cons_of_mem _ hc')]
    cases c <;> try rfl
    exact get_ne (h _ (List.mem_cons_self ..) _ _ _ rfl)
theorem killL_len : ∀ {cs : List CV} {σ : Store}, (killL σ cs).length = σ.length
  | [], σ => rfl
  | c :: cs, σ => by
    show (killL (kill1 σ c) cs).length = _
    rw [killL_len]
    cases c <;> try rfl
    exact List.length_set ..
section
variable {rp : RProg} {rs : List RRes} {base : Nat} {d : Option Nat} {l : List LOp} {dr : Dr} {ks : List KI} {e : Env} {ρ : Store} {Q : CV → Store → Prop} {c : CV} {sz : Nat} {es xs : List PV}
theorem r_app_2 {a a' : Blk} {s x : Opd} {bytes : Nat} (h : GL ρ sz c es) (hc : (es.length + xs.length) * bytes ≤ 140737488355328) (hs : vl e s = c) (hx : vl e x = .own (ρ.length + 2) 0 xs.length) (hz : allSz sz xs = true) :
    ExR rp rs base (⟨d, none, none, .append sz bytes s x⟩ :: l) dr ks e (ρ ++ [a, a', .prow sz xs]) Q = ExR rp rs base l dr ks (sto d (.own (ρ.length + 3) 0 (es.length + xs.length)) e) (nd ρ c ++ [a, a', .prow sz xs, .prow sz (es ++ xs)]) Q := by
  have hl : (ρ ++ [a, a']).length = ρ.length + 2 := by simp
  have := r_app (rp := rp) (rs := rs) (base := base) (d := d) (l := l) (dr := dr) (ks := ks) (e := e) (Q := Q) (s := s) (x := x) (h.left (τ := [a, a'])) hc hs (by rw [hl]; exact hx) hz
  rw [hl, nd_left h, List.append_assoc, List.append_assoc] at this
  exact this
theorem GL.kb {j s : Nat} {cs : List CV} (h : GL ρ sz c es) (hj : ρ[j]? = some (.kblk s cs)) {l : Store} : (nd ρ c ++ l)[j]? = some (.kblk s cs) := by
  have hl := (List.getElem?_eq_some_iff.1 hj).1
  rw [get_left (by rw [nd_len]; exact hl)]
  have hn := VBn.GL.nek h hj
  cases c <;> try exact hj
  exact (get_ne (hn _ _ _ rfl)).trans hj
end
/-! ### the rounds -/
structure Bx (A : List CV) (G : Int) (τ : Store) : Prop where
  h0 : τ[0]? = some (.kblk 2 A)
  h1 : τ[1]? = some (.kblk 2 [.p (.bool false), .nils])
  h2 : τ[2]? = some (.kblk 2 (cz G))
  wf : Wf τ
structure By (A : List CV) (G : Int) (k : Nat) (cs : List CV) (lo : Nat) (M : List (List Int)) (τ : Store) : Prop where
  h0 : τ[0]? = some (.kblk 2 A)
  h1 : τ[1]? = some (.kblk 2 [.p (.bool false), .nils])
  h2 : τ[2]? = some (.kblk 2 (cz G))
  hk : τ[k]? = some (.kblk 1 cs)
  rows : RowsAt τ lo cs M
theorem n95 {c : CV} {σ : Store} {Q : CV → Store → Prop} (h : Q (.fn 60 [.ptr σ.length 0 0]) (σ ++ [.kblk 1 [c]])) (hc : (∃ l, c = .p (.sl l)) ∨ ∃ b o n, c = .own b o n) : Rn rp 24 [c] σ Q := by
  rw [rn_of rp95]
  rcases hc with ⟨v, rfl⟩ | ⟨b, o, n, rfl⟩
  · simp only [f24, args0, SA, setCells, Int.reduceLE, Int.reduceLT, ↓reduceIte, reduceCtorEq, Nat.reduceLT, Nat.reduceEqDiff, Nat.reduceAdd, Nat.reduceMul, Nat.reduceLeDiff, Nat.reduceBEq]
    exact h
  · simp only [f24, args0, SA, setCells, Int.reduceLE, Int.reduceLT, ↓reduceIte, reduceCtorEq, Nat.reduceLT, Nat.reduceEqDiff, Nat.reduceAdd, Nat.reduceMul, Nat.reduceLeDiff, Nat.reduceBEq]
    exact h
end Go.Proofs.YtdieenbfdeaffaaGreat.VDd

namespace Go.Proofs.YtdieenbfdeaffaaGreat.Gs
set_option linter.unusedVariables false
theorem sumR_mul {c : Rat} {f : Nat → Rat} : ∀ {n : Nat}, sumR (fun r => c * f r) n = c * sumR f n
  | 0 => by simp only [sumR]; grind
  | n + 1 => by
    simp only [sumR]
    rw [sumR_mul]
    grind
theorem sumR_add {f g : Nat → Rat} : ∀ {n : Nat}, sumR (fun r => f r + g r) n = sumR f n + sumR g n
  | 0 => by simp only [sumR]; grind
  | n + 1 => by
    simp only [sumR]
    rw [sumR_add]
    grind
theorem sumR_first {f : Nat → Rat} : ∀ {n : Nat}, sumR f (n + 1) = f 0 + sumR (fun r => f (r + 1)) n
  | 0 => by simp only [sumR]; grind
  | n + 1 => by
    rw [sumR, sumR_first, sumR]
    grind
theorem sumR_comm {f : Nat → Nat → Rat} {m : Nat} : ∀ {n : Nat}, sumR (fun r => sumR (fun k => f r k) m) n = sumR (fun k => sumR (fun r => f r k) n) m
  | 0 => by
    simp only [sumR]
    rw [sumR_zero fun _ _ => rfl]
  | n + 1 => by
    simp only [sumR]
    rw [sumR_comm, ← sumR_add]
theorem sg_sq : ∀ {n : Nat}, sg n * sg n = 1
  | 0 => by simp only [sg]; grind
  | n + 1 => by
    have := sg_sq (n := n)
    simp only [sg]
    grind
def top (v : Nat → Rat) (B : Nat → Nat → Rat) : Nat → Nat → Rat
  | 0, q => v q
  | r + 1, q => B r q
theorem sk_zero {p : Nat} : sk 0 p = p + 1 := by unfold sk; rw [if_neg (by omega)]
theorem sk_succ0 {r : Nat} : sk (r + 1) 0 = 0 := by unfold sk; rw [if_pos (by omega)]
theorem sk_succ {r p : Nat} : sk (r + 1) (p + 1) = sk r p + 1 := by unfold sk; split <;> split <;> omega
theorem det_top : ∀ {n : Nat} {v : Nat → Rat} {B : Nat → Nat → Rat}, det (n + 1) (top v B) = sumR (fun k => sg k * v k * det n fun p q => B p (sk k q)) (n + 1)
  | 0, v, B => by simp only [det, sumR, top]
  | n + 1, v, B => by
    rw [det, sumR_first]
    conv => rhs; rw [sumR_first]
    have e0 : (fun p q => top v B (sk 0 p) (q + 1)) = fun p q => B p (sk 0 q) := by
      funext p q
      rw [sk_zero, sk_zero]; rfl
    have e1 : ∀ r, (fun p q => top v B (sk (r + 1) p) (q + 1)) = top (fun q => v (q + 1)) fun p q => B (sk r p) (q + 1) := by
      intro r
      funext p q
      cases p with
      | zero => rw [sk_succ0]; rfl
      | succ p => rw [sk_succ]; rfl
    rw [e0]
    show sg 0 * v 0 * _ + sumR (fun r => sg (r + 1) * B r 0 * det (n + 1) fun p q => top v B (sk (r + 1) p) (q + 1)) (n + 1) = _
    congr 1
    have l : (fun r => sg (r + 1) * B r 0 * det (n + 1) fun p q => top v B (sk (r + 1) p) (q + 1)) = fun r => sumR (fun k => sg (r + 1) * B r 0 * (sg k * v (k + 1) * det n fun p q => B (sk r p) (sk k q + 1))) (n + 1) := by
      funext r
      rw [e1, det_top, sumR_mul]
    have rr : (fun k => sg (k + 1) * v (k + 1) * det (n + 1) fun p q => B p (sk (k + 1) q)) = fun k => sumR (fun r => sg (r + 1) * B r 0 * (sg k * v (k + 1) * det n fun p q => B (sk r p) (sk k q + 1))) (n + 1) := by
      funext k
      rw [det, ← sumR_mul]
      refine sumR_congr fun r hr => ?_
      simp only [sk_succ0, sk_succ, sg]
      grind
    rw [l, rr, sumR_comm]
theorem det_mv {n : Nat} : ∀ {i : Nat} {A : Nat → Nat → Rat}, i < n + 1 → det (n + 1) (top (A i) fun p => A (sk i p)) = sg i * det (n + 1) A
  | 0, A, _ => by
    have e : (top (A 0) fun p => A (sk 0 p)) = A := by
      funext r q
      cases r with
      | zero => rfl
      | succ r => show A (sk 0 r) q = _; rw [sk_zero]
    rw [e, sg]; grind
  | i + 1, A, hi => by
    have h := det_mv (n := n) (i := i) (A := put (put A i (A (i + 1))) (i + 1) (A i)) (by omega)
    have e : (top (put (put A i (A (i + 1))) (i + 1) (A i) i) fun p => put (put A i (A (i + 1))) (i + 1) (A i) (sk i p)) = top (A (i + 1)) fun p => A (sk (i + 1) p) := by
      funext r q
      cases r with
      | zero => show put (put A i (A (i + 1))) (i + 1) (A i) i q = A (i + 1) q; rw [put_ne (by omega), put_at]
      | succ r =>
        show put (put A i (A (i + 1))) (i + 1) (A i) (sk i r) q = A (sk (i + 1) r) q
        unfold sk
        by_cases h1 : r < i
        · rw [if_pos h1, if_pos (by omega), put_ne (by omega), put_ne (by omega)]
        · rw [if_neg h1]
          by_cases h2 : r = i
          · subst h2
            rw [if_pos (by omega), put_at]
          · rw [if_neg (by omega), put_ne (by omega), put_ne (by omega)]
    rw [e, det_swap (by omega)] at h
    rw [h, sg]
    grind
def cof (n : Nat) (A : Nat → Nat → Rat) (i k : Nat) : Rat := sg i * sg k * det n fun p q => A (sk i p) (sk k q)
theorem lap {n i : Nat} {A : Nat → Nat → Rat} {v : Nat → Rat} (hi : i < n + 1) : det (n + 1) (put A i v) = sumR (fun k => v k * cof n A i k) (n + 1) := by
  have h := det_mv (A := put A i v) hi
  have e : (top (put A i v i) fun p => put A i v (sk i p)) = top v fun p => A (sk i p) := by
    funext r q
    cases r with
    | zero => show put A i v i q = v q; rw [put_at]
    | succ r => show put A i v (sk i r) q = A (sk i r) q; rw [put_ne sk_ne]
  rw [e, det_top] at h
  have h2 : det (n + 1) (put A i v) = sg i * (sg i * det (n + 1) (put A i v)) := by
    have := sg_sq (n := i)
    grind
  rw [h2, ← h, ← sumR_mul]
  refine sumR_congr fun k hk => ?_
  unfold cof
  grind
theorem det_same {n : Nat} : ∀ {d p : Nat} {A : Nat → Nat → Rat}, p + d + 1 < n → (∀ q, A p q = A (p + d + 1) q) → det n A = 0
  | 0, p, A, hp, h => det_adj (p := p) hp h
  | d + 1, p, A, hp, h => by
    have h1 := det_swap (A := A) (p := p) (n := n) (by omega)
    rw [det_same (d := d) (p := p + 1) (A := put (put A p (A (p + 1))) (p + 1) (A p)) (by omega) (fun q => by
      rw [put_at, put_ne (by omega), put_ne (by omega), show p + 1 + d + 1 = p + (d + 1) + 1 by omega]; exact h q)] at h1
    grind
theorem det_eqrows {n i j : Nat} {A : Nat → Nat → Rat} (hi : i < n) (hj : j < n) (hne : i ≠ j) (h : ∀ q, A i q = A j q) : det n A = 0 := by
  rcases Nat.lt_or_ge i j with h1 | h1
  · exact det_same (d := j - i - 1) (p := i) (by omega) fun q => by rw [show i + (j - i - 1) + 1 = j by omega]; exact h q
  · exact det_same (d := i - j - 1) (p := j) (by omega) fun q => by rw [show j + (i - j - 1) + 1 = i by omega]; exact (h q).symm
theorem adj_row {n i j : Nat} {A : Nat → Nat → Rat} (hi : i < n + 1) (hj : j < n + 1) : sumR (fun k => A j k * cof n A i k) (n + 1) = if i = j then det (n + 1) A else 0 := by
  rw [← lap hi]
  by_cases h : i = j
  · subst h
    rw [if_pos rfl]
    refine det_congr fun p q _ _ => ?_
    by_cases h : p = i
    · subst h; rw [put_at]
    · rw [put_ne h]
  · rw [if_neg h]
    exact det_eqrows (i := i) (j := j) hi hj h fun q => by rw [put_at, put_ne (Ne.symm h)]
theorem top_eq {A : Nat → Nat → Rat} : A = top (A 0) fun p => A (p + 1) := by
  funext r q
  cases r <;> rfl
theorem det_tr : ∀ {n : Nat} {A : Nat → Nat → Rat}, det n (fun p q => A q p) = det n A
  | 0, _ => rfl
  | n + 1, A => by
    conv => rhs; rw [top_eq (A := A), det_top]
    rw [det]
    refine sumR_congr fun r hr => ?_
    rw [show (fun p q => A (q + 1) (sk r p)) = fun p q => (fun q p => A (q + 1) (sk r p)) q p from rfl, det_tr (A := fun q p => A (q + 1) (sk r p))]
theorem cof_tr {n i k : Nat} {A : Nat → Nat → Rat} : cof n (fun p q => A q p) i k = cof n A k i := by
  unfold cof
  rw [show (fun p q => A (sk k q) (sk i p)) = fun p q => (fun p q => A (sk k p) (sk i q)) q p from rfl, det_tr (A := fun p q => A (sk k p) (sk i q))]
  grind
theorem adj_col {n k l : Nat} {A : Nat → Nat → Rat} (hk : k < n + 1) (hl : l < n + 1) : sumR (fun i => A i l * cof n A i k) (n + 1) = if l = k then det (n + 1) A else 0 := by
  have h := adj_row (A := fun p q => A q p) hk hl
  rw [det_tr] at h
  have e : (fun i => A i l * cof n A i k) = fun i => A i l * cof n (fun p q => A q p) k i := by
    funext i; rw [cof_tr]
  rw [e, h]
  by_cases h1 : l = k
  · rw [if_pos h1, if_pos h1.symm]
  · rw [if_neg h1, if_neg (Ne.symm h1)]
theorem cramer {n k : Nat} {A : Nat → Nat → Rat} {c t : Nat → Rat} (hk : k < n + 1) (h : ∀ i, i < n + 1 → sumR (fun l => A i l * c l) (n + 1) = t i) : det (n + 1) A * c k = sumR (fun i => t i * cof n A i k) (n + 1) := by
  have e : sumR (fun i => t i * cof n A i k) (n + 1) = sumR (fun i => sumR (fun l => A i l * c l * cof n A i k) (n + 1)) (n + 1) := sumR_congr fun i hi => by
    rw [← h i hi]
    have := sumR_mul (c := cof n A i k) (f := fun l => A i l * c l) (n := n + 1)
    rw [Rat.mul_comm, ← this]
    refine sumR_congr fun l _ => ?_
    grind
  rw [e, sumR_comm]
  have e2 : sumR (fun l => sumR (fun i => A i l * c l * cof n A i k) (n + 1)) (n + 1) = sumR (fun l => c l * if l = k then det (n + 1) A else 0) (n + 1) := sumR_congr fun l hl => by
    rw [← adj_col hk hl, ← sumR_mul]
    refine sumR_congr fun i _ => ?_
    grind
  rw [e2]
  have key : ∀ (m : Nat), k < m → sumR (fun l => c l * if l = k then det (n + 1) A else 0) m = det (n + 1) A * c k := by
    intro m
    induction m with
    | zero => intro h; omega
    | succ m ih =>
      intro h
      rw [sumR]
      by_cases h1 : m = k
      · subst h1
        rw [sumR_zero fun r hr => by rw [if_neg (by omega)]; grind, if_pos rfl]
        grind
      · rw [ih (by omega), if_neg h1]
        grind
  exact (key _ hk).symm
def swp (p r i : Nat) : Nat := if i = p then r else if i = r then p else i
theorem swp_lt {p r i n : Nat} (hp : p < n) (hr : r < n) (hi : i < n) : swp p r i < n := by unfold swp; split; omega; split <;> omega
theorem swp_ge {p r i k : Nat} (hp : k ≤ p) (hr : k ≤ r) (hi : k ≤ i) : k ≤ swp p r i := by unfold swp; split; omega; split <;> omega
theorem swp_low {p r i k : Nat} (hp : k ≤ p) (hr : k ≤ r) (hi : i < k) : swp p r i = i := by unfold swp; rw [if_neg (by omega), if_neg (by omega)]
theorem det_swp {n p r : Nat} {A : Nat → Nat → Rat} (hp : p < n) (hr : r < n) (hne : p ≠ r) : det n (fun i q => A (swp p r i) q) = - det n A := by
  have hz : ∀ x : Nat → Rat, det n (put (put A p x) r x) = 0 := fun x => det_eqrows (i := p) (j := r) hp hr hne fun q => by rw [put_ne hne, put_at, put_at]
  have l1 : ∀ x y z : Nat → Rat, det n (put (put A p fun q => x q + y q) r z) = det n (put (put A p x) r z) + 1 * det n (put (put A p y) r z) := fun x y z =>
    det_lin (p := p) hp (fun q => by
      simp only [put, if_neg hne, if_true]
      grind) (fun s q hs => by
      by_cases h : s = r
      · subst h; rw [put_at, put_at, put_at]; exact ⟨rfl, rfl⟩
      · rw [put_ne h, put_ne h, put_ne h, put_ne hs, put_ne hs, put_ne hs]; exact ⟨rfl, rfl⟩)
  have l2 : ∀ x y z : Nat → Rat, det n (put (put A p z) r fun q => x q + y q) = det n (put (put A p z) r x) + 1 * det n (put (put A p z) r y) := fun x y z =>
    det_lin (p := r) hr (fun q => by rw [put_at, put_at, put_at]; grind) (fun s q hs => by rw [put_ne hs, put_ne hs, put_ne hs]; exact ⟨rfl, rfl⟩)
  have k := hz fun q => A p q + A r q
  rw [l1, l2, l2, hz, hz] at k
  have e : det n (put (put A p (A p)) r (A r)) = det n A := det_congr fun s q _ _ => by
    by_cases h : s = r
    · subst h; rw [put_at]
    · rw [put_ne h]
      by_cases h' : s = p
      · subst h'; rw [put_at]
      · rw [put_ne h']
  have e2 : det n (put (put A p (A r)) r (A p)) = det n (fun i q => A (swp p r i) q) := det_congr fun s q _ _ => by
    unfold swp
    by_cases h : s = r
    · subst h; rw [put_at, if_neg (Ne.symm hne), if_pos rfl]
    · rw [put_ne h]
      by_cases h' : s = p
      · subst h'; rw [put_at, if_pos rfl]
      · rw [put_ne h', if_neg h', if_neg h]
  rw [e, e2] at k
  grind
theorem det_lead : ∀ {k n : Nat} {g : Nat → Nat → Rat}, k ≤ n → (∀ t, t < k → U g t t t ≠ 0) → det n g = Dk g k * det (n - k) fun p q => U g k (p + k) (q + k)
  | 0, n, g, _, _ => by simp only [Dk, U, Nat.add_zero, Nat.sub_zero]; grind
  | k + 1, 0, g, h, _ => by omega
  | k + 1, n + 1, g, h, hp => by
    have h0 : g 0 0 ≠ 0 := hp 0 (by omega)
    rw [det_elim h0, show (fun p q => g (p + 1) (q + 1) - g (p + 1) 0 * g 0 (q + 1) / g 0 0) = nx g from rfl,
      det_lead (k := k) (n := n) (g := nx g) (by omega) (fun t ht => by rw [← U_nx]; exact hp (t + 1) (by omega)), Dk_nx, show n + 1 - (k + 1) = n - k by omega]
    have e : (fun p q => U (nx g) k (p + k) (q + k)) = fun p q => U g (k + 1) (p + (k + 1)) (q + (k + 1)) := by
      funext p q
      rw [← U_nx]; rfl
    rw [e]
    grind
theorem U_swp {g : Nat → Nat → Rat} {p r k : Nat} (hp : k ≤ p) (hr : k ≤ r) : ∀ {m i j : Nat}, m ≤ k → U (fun i q => g (swp p r i) q) m i j = U g m (swp p r i) j
  | 0, _, _, _ => rfl
  | m + 1, i, j, h => by
    have e : swp p r m = m := swp_low hp hr (by omega)
    rw [U, U, U_swp hp hr (by omega), U_swp hp hr (by omega), U_swp hp hr (by omega), U_swp hp hr (by omega), e]
theorem Dk_swp {g : Nat → Nat → Rat} {p r k : Nat} (hp : k ≤ p) (hr : k ≤ r) : ∀ {m : Nat}, m ≤ k → Dk (fun i q => g (swp p r i) q) m = Dk g m
  | 0, _ => rfl
  | m + 1, h => by
    rw [Dk, Dk, Dk_swp hp hr (by omega), U_swp hp hr (by omega), swp_low hp hr (by omega)]
structure Pv (g : Nat → Nat → Int) (n r : Nat) (W : Nat → Nat → Int) (last : Int) : Prop where
  piv : ∀ t, t < r → U (rg g) t t t ≠ 0
  lst : (last : Rat) = Dk (rg g) r
  w : ∀ i j, r ≤ i → i < n → r ≤ j → j < n → (W i j : Rat) = Dk (rg g) r * U (rg g) r i j
theorem Dk_ne {g : Nat → Nat → Rat} : ∀ {r : Nat}, (∀ t, t < r → U g t t t ≠ 0) → Dk g r ≠ 0
  | 0, _ => by simp only [Dk]; grind
  | r + 1, h => by
    have h1 := Dk_ne (r := r) fun t ht => h t (by omega)
    have h2 := h r (by omega)
    simp only [Dk]
    grind
section
variable {g : Nat → Nat → Int} {n r : Nat} {W : Nat → Nat → Int} {last : Int}
theorem Pv.start : Pv g n 0 g 1 := ⟨fun t h => by omega, rfl, fun i j _ _ _ _ => by simp only [Dk, U, rg]; grind⟩
theorem Pv.ne (h : Pv g n r W last) : last ≠ 0 := fun h0 => Dk_ne h.piv (by rw [← h.lst, h0]; rfl)
theorem Pv.swap {p : Nat} (h : Pv g n r W last) (hp : r ≤ p) (hpn : p < n) : Pv (fun i q => g (swp p r i) q) n r (fun i q => W (swp p r i) q) last := by
  have e : rg (fun i q => g (swp p r i) q) = fun i q => rg g (swp p r i) q := rfl
  refine ⟨fun t ht => ?_, ?_, fun i j h1 h2 h3 h4 => ?_⟩
  · rw [e, U_swp hp (Nat.le_refl r) (by omega), swp_low hp (Nat.le_refl r) ht]
    exact h.piv t ht
  · rw [e, Dk_swp hp (Nat.le_refl r) (Nat.le_refl r)]
    exact h.lst
  · rw [e, Dk_swp hp (Nat.le_refl r) (Nat.le_refl r), U_swp hp (Nat.le_refl r) (Nat.le_refl r)]
    exact h.w _ _ (swp_ge hp (Nat.le_refl r) h1) (swp_lt hpn (by omega) h2) h3 h4
theorem Pv.piv1 (h : Pv g n r W last) (hr : r < n) (h0 : W r r ≠ 0) : ∀ t, t < r + 1 → U (rg g) t t t ≠ 0 := by
  intro t ht
  rcases Nat.lt_or_ge t r with h1 | h1
  · exact h.piv t h1
  · obtain rfl : t = r := by omega
    intro h2
    have := h.w t t (Nat.le_refl _) hr (Nat.le_refl _) hr
    rw [h2] at this
    apply h0
    have h3 : ((W t t : Int) : Rat) = ((0 : Int) : Rat) := by rw [this]; show _ = (0 : Rat); grind
    exact Rat.intCast_inj.1 h3
theorem Pv.whole (h : Pv g n r W last) (hr : r < n) (h0 : W r r ≠ 0) {i j : Nat} (hi : r < i) (hin : i < n) (hj : r < j) (hjn : j < n) :
    ∃ q : Int, W r r * W i j - W i r * W r j = q * last ∧ (q : Rat) = Dk (rg g) (r + 1) * U (rg g) (r + 1) i j := by
  have e := det_U (g := rg g) (k := r + 1) (i := i) (j := j) hi hj (h.piv1 hr h0)
  obtain ⟨x, hx, -⟩ := In.det (n := r + 1 + 1) (A := fun p q => rg g (ro (r + 1) i p) (ro (r + 1) j q)) (M := mx2 (fun p q => (g (ro (r + 1) i p) (ro (r + 1) j q)).natAbs) (r + 1 + 1) (r + 1 + 1)) fun p q hp hq => ⟨_, rfl, le_mx2 (f := fun p q => (g (ro (r + 1) i p) (ro (r + 1) j q)).natAbs) hp hq⟩
  refine ⟨x, ?_, by rw [← hx, e]⟩
  apply Rat.intCast_inj.1
  have h1 := h.w r r (Nat.le_refl _) hr (Nat.le_refl _) hr
  have h2 := h.w i j (by omega) hin (by omega) hjn
  have h3 := h.w i r (by omega) hin (Nat.le_refl _) hr
  have h4 := h.w r j (Nat.le_refl _) hr (by omega) hjn
  have h5 := h.piv1 hr h0 r (by omega)
  rw [Rat.intCast_sub, Rat.intCast_mul, Rat.intCast_mul, Rat.intCast_mul, ← hx, e, h.lst, h1, h2, h3, h4, Dk, U]
  grind
theorem Pv.next {W' : Nat → Nat → Int} (h : Pv g n r W last) (hr : r < n) (h0 : W r r ≠ 0) (hw : ∀ i j, r < i → i < n → r < j → j < n → W r r * W i j - W i r * W r j = W' i j * last) : Pv g n (r + 1) W' (W r r) := by
  refine ⟨h.piv1 hr h0, ?_, fun i j h1 h2 h3 h4 => ?_⟩
  · rw [Dk]; exact h.w r r (Nat.le_refl _) hr (Nat.le_refl _) hr
  · obtain ⟨q, e1, e2⟩ := h.whole hr h0 (by omega : r < i) h2 (by omega : r < j) h4
    rw [hw i j (by omega) h2 (by omega) h4] at e1
    rw [Int.eq_of_mul_eq_mul_right h.ne e1]
    exact e2
theorem Pv.stop (h : Pv g n r W last) (hr : r < n) (h0 : ∀ i, r ≤ i → i < n → W i r = 0) : det n (rg g) = 0 := by
  rw [det_lead (k := r) (by omega) h.piv]
  have e : det (n - r) (fun p q => U (rg g) r (p + r) (q + r)) = 0 := by
    obtain ⟨m, hm⟩ : ∃ m, n - r = m + 1 := ⟨n - r - 1, by omega⟩
    rw [hm, det]
    refine sumR_zero fun s hs => ?_
    have h1 := h.w (s + r) r (by omega) (by omega) (Nat.le_refl _) hr
    rw [h0 _ (by omega) (by omega)] at h1
    have h2 := Dk_ne h.piv
    have h3 : U (rg g) r (s + r) r = 0 := by
      have : (0 : Rat) = Dk (rg g) r * U (rg g) r (s + r) r := h1
      grind
    simp only [Nat.zero_add, h3]
    grind
  rw [e]; grind
theorem Pv.done (h : Pv g n n W last) : det n (rg g) = last := by
  rw [det_lead (k := n) (Nat.le_refl n) h.piv, Nat.sub_self, h.lst, det]
  grind
end
theorem det_int {n : Nat} {g : Nat → Nat → Int} : ∃ x : Int, det n (rg g) = x := by
  obtain ⟨x, hx, -⟩ := In.det (n := n) (A := rg g) (M := mx2 (fun p q => (g p q).natAbs) n n) fun p q hp hq => ⟨_, rfl, le_mx2 (f := fun p q => (g p q).natAbs) hp hq⟩
  exact ⟨x, hx⟩
def dI (n : Nat) (g : Nat → Nat → Int) : Int := (det n (rg g)).num
theorem dI_eq {n : Nat} {g : Nat → Nat → Int} : (dI n g : Rat) = det n (rg g) := by
  obtain ⟨x, hx⟩ := det_int (n := n) (g := g)
  unfold dI
  rw [hx]; rfl
theorem dI_of {n : Nat} {g : Nat → Nat → Int} {x : Int} (h : det n (rg g) = x) : dI n g = x := by
  unfold dI
  rw [h]; rfl
def cI (n : Nat) (g : Nat → Nat → Int) (i k : Nat) : Int := (if (i + k) % 2 = 1 then -1 else 1) * dI n fun p q => g (sk i p) (sk k q)
theorem sg_two : ∀ {n : Nat}, sg n = if n % 2 = 1 then -1 else 1
  | 0 => rfl
  | n + 1 => by
    rw [sg, sg_two]
    by_cases h : n % 2 = 1
    · rw [if_pos h, if_neg (by omega)]; grind
    · rw [if_neg h, if_pos (by omega)]
theorem sg_add {i : Nat} : ∀ {k : Nat}, sg i * sg k = sg (i + k)
  | 0 => by simp only [sg, Nat.add_zero]; grind
  | k + 1 => by
    rw [← Nat.add_assoc, sg, sg, ← sg_add]
    grind
theorem cI_eq {n i k : Nat} {g : Nat → Nat → Int} : (cI n g i k : Rat) = cof n (rg g) i k := by
  unfold cI cof
  rw [Rat.intCast_mul, dI_eq, sg_add, sg_two]
  by_cases h : (i + k) % 2 = 1
  · rw [if_pos h, if_pos h]; rfl
  · rw [if_neg h, if_neg h]; rfl
def sumI (f : Nat → Int) : Nat → Int
  | 0 => 0
  | n + 1 => sumI f n + f n
theorem sumI_cast {f : Nat → Int} : ∀ {n : Nat}, (sumI f n : Rat) = sumR (fun k => (f k : Rat)) n
  | 0 => rfl
  | n + 1 => by rw [sumI, sumR, Rat.intCast_add, sumI_cast]
theorem sumI_congr {f g : Nat → Int} : ∀ {n : Nat}, (∀ r, r < n → f r = g r) → sumI f n = sumI g n
  | 0, _ => rfl
  | n + 1, h => by
    simp only [sumI]
    rw [sumI_congr fun r hr => h r (Nat.lt_succ_of_lt hr), h n (Nat.lt_succ_self n)]
theorem dI_swp {n p r : Nat} {g : Nat → Nat → Int} (hp : p < n) (hr : r < n) (hne : p ≠ r) : dI n (fun i q => g (swp p r i) q) = - dI n g := by
  apply dI_of
  rw [show rg (fun i q => g (swp p r i) q) = fun i q => rg g (swp p r i) q from rfl, det_swp hp hr hne, Rat.intCast_neg, dI_eq]
theorem dI_Dv {n : Nat} {g : Nat → Nat → Int} (hs : ∀ i j, g i j = g j i) (hp : Pos g n) : dI n g = Dv g n := by
  have G := good hs (M := 0) hp
  apply dI_of
  rw [det_lead (k := n) (Nat.le_refl n) fun t ht => by have := G.piv t ht; grind, Nat.sub_self, det, G.d]
  grind
section
variable {n : Nat} {mu : Nat → Nat → Rat} {star : Nat → Rat} {G : Nat → Nat → Rat} {al c t : Nat → Rat}
def one1 (mu : Nat → Nat → Rat) (i k : Nat) : Rat := if k < i then mu i k else if k = i then 1 else 0
theorem sumR_low {f : Nat → Rat} {m : Nat} : ∀ {n : Nat}, m ≤ n → sumR (fun k => if k < m then f k else 0) n = sumR f m
  | 0, h => by
    obtain rfl : m = 0 := by omega
    rfl
  | n + 1, h => by
    by_cases h1 : m = n + 1
    · subst h1
      exact sumR_congr fun r hr => by rw [if_pos hr]
    · rw [sumR, sumR_low (n := n) (by omega), if_neg (by omega)]
      grind
theorem sumR_at {f : Nat → Rat} {m : Nat} : ∀ {n : Nat}, m < n → sumR (fun k => if k = m then f k else 0) n = f m
  | 0, h => by omega
  | n + 1, h => by
    rw [sumR]
    by_cases h1 : m = n
    · subst h1
      rw [sumR_zero fun r hr => by rw [if_neg (by omega)], if_pos rfl]
      grind
    · rw [sumR_at (n := n) (by omega), if_neg (by omega)]
      grind
theorem one1_sum {x : Nat → Rat} {i : Nat} (hi : i < n) : sumR (fun k => one1 mu i k * x k) n = sumR (fun k => mu i k * x k) i + x i := by
  have e : (fun k => one1 mu i k * x k) = fun k => (if k < i then mu i k * x k else 0) + (if k = i then x k else 0) := by
    funext k
    unfold one1
    by_cases h1 : k < i
    · rw [if_pos h1, if_pos h1, if_neg (by omega)]; grind
    · rw [if_neg h1, if_neg h1]
      by_cases h2 : k = i
      · rw [if_pos h2, if_pos h2]; grind
      · rw [if_neg h2, if_neg h2]; grind
  rw [e, sumR_add, sumR_low (by omega), sumR_at hi]
theorem gram_one (hs : ∀ i l, G i l = G l i) (hG : ∀ i l, l ≤ i → i < n → G i l = sumR (fun k => mu i k * mu l k * star k) l + one1 mu i l * star l) {i l : Nat} (hi : i < n) (hl : l < n) :
    G i l = sumR (fun k => one1 mu i k * (one1 mu l k * star k)) n := by
  have main : ∀ i l, l ≤ i → i < n → G i l = sumR (fun k => one1 mu i k * (one1 mu l k * star k)) n := by
    intro i l h hi
    have e : (fun k => one1 mu i k * (one1 mu l k * star k)) = fun k => one1 mu l k * (one1 mu i k * star k) := by
      funext k; grind
    rw [e, one1_sum (by omega), hG i l h hi]
    congr 1
    refine sumR_congr fun k hk => ?_
    unfold one1
    rw [if_pos (by omega)]
    grind
  rcases Nat.le_total l i with h | h
  · exact main i l h hi
  · rw [hs, main l i h hl]
    refine sumR_congr fun k _ => ?_
    grind
theorem coords (hs : ∀ i l, G i l = G l i) (hG : ∀ i l, l ≤ i → i < n → G i l = sumR (fun k => mu i k * mu l k * star k) l + one1 mu i l * star l) (hst : ∀ k, k < n → star k ≠ 0)
    (hal : ∀ i, i < n → sumR (fun j => mu i j * al j) i + al i = t i) (hc : ∀ k, k < n → sumR (fun j => one1 mu j k * c j) n = al k / star k) :
    ∀ i, i < n → sumR (fun l => G i l * c l) n = t i := by
  intro i hi
  have e1 : sumR (fun l => G i l * c l) n = sumR (fun l => sumR (fun k => one1 mu i k * (one1 mu l k * star k) * c l) n) n := sumR_congr fun l hl => by
    rw [gram_one hs hG hi hl, Rat.mul_comm, ← sumR_mul]
    refine sumR_congr fun k _ => ?_
    grind
  rw [e1, sumR_comm]
  have e2 : sumR (fun k => sumR (fun l => one1 mu i k * (one1 mu l k * star k) * c l) n) n = sumR (fun k => one1 mu i k * al k) n := sumR_congr fun k hk => by
    have h1 := hc k hk
    have h2 := hst k hk
    have h3 : star k * sumR (fun j => one1 mu j k * c j) n = al k := by rw [h1]; grind
    rw [← h3, ← Rat.mul_assoc, ← sumR_mul]
    refine sumR_congr fun l _ => ?_
    grind
  rw [e2, one1_sum hi]
  exact hal i hi
theorem one1_col {k : Nat} (hk : k < n) : sumR (fun j => one1 mu j k * c j) n = c k + sumR (fun j => mu (k + 1 + j) k * c (k + 1 + j)) (n - (k + 1)) := by
  have key : ∀ m, sumR (fun j => one1 mu j k * c j) (k + 1 + m) = c k + sumR (fun j => mu (k + 1 + j) k * c (k + 1 + j)) m := by
    intro m
    induction m with
    | zero =>
      have z : sumR (fun j => one1 mu j k * c j) k = 0 := sumR_zero fun r hr => by unfold one1; rw [if_neg (by omega), if_neg (by omega)]; grind
      have o : one1 mu k k = 1 := by unfold one1; rw [if_neg (by omega), if_pos rfl]
      show sumR (fun j => one1 mu j k * c j) k + one1 mu k k * c k = c k + 0
      rw [z, o]
      grind
    | succ m ih =>
      rw [← Nat.add_assoc, sumR, ih, sumR]
      have : one1 mu (k + 1 + m) k = mu (k + 1 + m) k := by unfold one1; rw [if_pos (by omega)]
      rw [this]
      grind
  have := key (n - (k + 1))
  rwa [show k + 1 + (n - (k + 1)) = n by omega] at this
end
end Go.Proofs.YtdieenbfdeaffaaGreat.Gs

namespace Go.Proofs.YtdieenbfdeaffaaGreat.VDd
open Go Vpi
open VBn hiding rp tab rp_ok all_ok mixed sim Big
set_option maxRecDepth 100000
set_option linter.unusedSimpArgs false
set_option linter.unusedVariables false
theorem rp204 : rp 132 = some f132 := rfl
theorem rp211 : rp 151 = some f151 := rfl
theorem fl134 {p p' : PV} {x y : Int} (h : Nu p x) (h' : Nu p' y) (hy : y ≠ 0) : ∃ q r, Fl x y q r ∧ Pu VBn.rp 99 [p, p'] (.tup [.p (zi q), .p (zi r), .p (.int .i64 0)]) := by
  have hx := h.sz
  have hys := h'.sz
  have k77y := VBn.p77 h'
  obtain ⟨n1, a, rfl, ha, hna, rfl⟩ := h
  have h'' := h'
  obtain ⟨n2, b, rfl, hb, hnb, rfl⟩ := h'
  have hb0 : val b ≠ 0 := by intro h0; apply hy; unfold iv; rw [h0]; cases n2 <;> rfl
  obtain ⟨q0, r0, eq0, er0, key, qle, rle, rlt, f1, f2, f3⟩ := fl_of (n1 := n1) (n2 := n2) (A := val a) (B := val b) (x := iv n1 a) (y := iv n2 b) rfl rfl hb0
  rw [CapN_eq] at hna hnb
  have k1 := VBn.p159 ha hb (by omega) (by omega) hb0
  have hdq : (dgl (val a / val b)).length ≤ a.length := dgl_len (Nat.lt_of_le_of_lt (Nat.div_le_self _ _) (val_lt ha))
  have hdr : (dgl (val a % val b)).length ≤ a.length := dgl_len (Nat.lt_of_le_of_lt (Nat.mod_le _ _) (val_lt ha))
  have kq := VBn.p105 (neg := !(n1 == n2)) (dgl_lim (val a / val b)) (by omega)
  have kr := VBn.p105 (neg := n1) (dgl_lim (val a % val b)) (by omega)
  simp only [val_dgl, mk_iv] at kq kr
  rw [← eq0] at kq
  rw [← er0] at kr
  have hqz : Sz q0 := hx.le qle
  have hrz : Sz r0 := hx.le rle
  have k77 := VBn.p77 (Nu.zi hrz)
  have ks := VBn.p157 (Nu.zi hqz) (Nu.zi (x := 1) (Sz.small (by decide)))
  have ka := VBn.p145 (Nu.zi hrz) h''
  have k54 := VBn.p54 (x := 1) (by decide) (by decide)
  rw [zi_raw] at k77 ka
  rw [zi_raw (x := q0)] at ks
  have e0 : ((0 : Int) != 0) = false := rfl
  by_cases h0 : r0.sign = 0
  · refine ⟨q0, r0, f1 h0, ?_⟩
    refine pu_of VBn.rp134 ?_
    have e1 : (r0.sign != 0) = false := by rw [h0]; rfl
    simp only [VBn.f99, args0, SA, setCells, Int.reduceLE, Int.reduceLT, ↓reduceIte, reduceCtorEq, Nat.reduceLT, Nat.reduceEqDiff, Nat.reduceAdd, Nat.reduceMul, Nat.reduceLeDiff, Nat.reduceBEq, kp2 k1, push_sl, e0, kp2 kq, kp2 kr, kp1 k77, e1]
    rw [r_nilx]
    refine ⟨by rfl, ?_⟩
    simp only [SA, setCells, Int.reduceLE, Int.reduceLT, ↓reduceIte, reduceCtorEq, Nat.reduceLT, Nat.reduceEqDiff, Nat.reduceAdd, Nat.reduceMul, Nat.reduceLeDiff, Nat.reduceBEq]
    exact back_t3 back1_p back1_p back1_p
  · have e1 : (r0.sign != 0) = true := by simp [h0]
    by_cases h1 : r0.sign = (iv n2 b).sign
    · refine ⟨q0, r0, f2 h0 h1, ?_⟩
      refine pu_of VBn.rp134 ?_
      rw [← h1] at k77y
      simp only [VBn.f99, args0, SA, setCells, Int.reduceLE, Int.reduceLT, ↓reduceIte, reduceCtorEq, Nat.reduceLT, Nat.reduceEqDiff, Nat.reduceAdd, Nat.reduceMul, Nat.reduceLeDiff, Nat.reduceBEq, kp2 k1, push_sl, e0, kp2 kq, kp2 kr, kp1 k77, e1, kp1 k77y, bne_self_eq_false]
      rw [r_nilx]
      refine ⟨by rfl, ?_⟩
      simp only [SA, setCells, Int.reduceLE, Int.reduceLT, ↓reduceIte, reduceCtorEq, Nat.reduceLT, Nat.reduceEqDiff, Nat.reduceAdd, Nat.reduceMul, Nat.reduceLeDiff, Nat.reduceBEq]
      exact back_t3 back1_p back1_p back1_p
    · refine ⟨q0 - 1, r0 + iv n2 b, f3 h0 h1, ?_⟩
      refine pu_of VBn.rp134 ?_
      have e2 : (r0.sign != (iv n2 b).sign) = true := by simp [h1]
      simp only [VBn.f99, args0, SA, setCells, Int.reduceLE, Int.reduceLT, ↓reduceIte, reduceCtorEq, Nat.reduceLT, Nat.reduceEqDiff, Nat.reduceAdd, Nat.reduceMul, Nat.reduceLeDiff, Nat.reduceBEq, kp2 k1, push_sl, e0, kp2 kq, kp2 kr, kp1 k77, e1, kp1 k77y, e2, kp1 k54, kp2 ks, kp2 ka]
      rw [r_nilx]
      refine ⟨by rfl, ?_⟩
      simp only [SA, setCells, Int.reduceLE, Int.reduceLT, ↓reduceIte, reduceCtorEq, Nat.reduceLT, Nat.reduceEqDiff, Nat.reduceAdd, Nat.reduceMul, Nat.reduceLeDiff, Nat.reduceBEq]
      exact back_t3 back1_p back1_p back1_p
theorem p204 {p : PV} {x : Int} (h : Nu p x) : Pu rp 132 [p] (.p (zi (x.natAbs : Int))) := by
  obtain ⟨n1, a, rfl, ha, hna, rfl⟩ := h
  rw [CapN_eq] at hna
  have k := (VBn.p105 (neg := false) ha (by omega)).lift base_le
  rw [mk_val, show iv false a = ((iv n1 a).natAbs : Int) by rw [iv_abs]; rfl] at k
  refine pu_of rp204 ?_
  simp only [f132, args0, SA, setCells, Int.reduceLE, Int.reduceLT, ↓reduceIte, reduceCtorEq, Nat.reduceLT, Nat.reduceEqDiff, Nat.reduceAdd, Nat.reduceMul, Nat.reduceLeDiff, Nat.reduceBEq, kp2 k]
  rfl
/-! ### matrices by their places -/
def zF (n : Nat) (f : Nat → Int) : List PV := (List.range n).map fun j => zi (f j)
def zM (m n : Nat) (W : Nat → Nat → Int) : List PV := (List.range m).map fun i => .sl (zF n (W i))
theorem zF_len {n : Nat} {f : Nat → Int} : (zF n f).length = n := by simp [zF]
theorem zM_len {m n : Nat} {W : Nat → Nat → Int} : (zM m n W).length = m := by simp [zM]
theorem zF_get {n j : Nat} {f : Nat → Int} (h : j < n) : (zF n f)[j]? = some (zi (f j)) := by simp [zF, h]
theorem zM_get {m n i : Nat} {W : Nat → Nat → Int} (h : i < m) : (zM m n W)[i]? = some (.sl (zF n (W i))) := by simp [zM, h]
theorem zF_congr {n : Nat} {f g : Nat → Int} (h : ∀ j, j < n → f j = g j) : zF n f = zF n g := by
  unfold zF
  refine List.map_congr_left fun j hj => ?_
  rw [h j (List.mem_range.1 hj)]
theorem zM_congr {m n : Nat} {W V : Nat → Nat → Int} (h : ∀ i j, i < m → j < n → W i j = V i j) : zM m n W = zM m n V := by
  unfold zM
  refine List.map_congr_left fun i hi => ?_
  rw [zF_congr fun j hj => h i j (List.mem_range.1 hi) hj]
theorem zF_set {n j : Nat} {f : Nat → Int} {x : Int} : (zF n f).set j (zi x) = zF n fun k => if k = j then x else f k := by
  apply List.ext_getElem?
  intro k
  by_cases hk : k < n
  · rw [zF_get hk]
    by_cases hjk : j = k
    · subst hjk
      rw [List.getElem?_set_self (by rw [zF_len]; exact hk), if_pos rfl]
    · rw [List.getElem?_set_ne hjk, zF_get hk, if_neg (Ne.symm hjk)]
  · rw [List.getElem?_eq_none (by rw [List.length_set, zF_len]; omega), List.getElem?_eq_none (by rw [zF_len]; omega)]
theorem zF_sz {n : Nat} {f : Nat → Int} : allSz 2 (zF n f) = true := by
  unfold allSz zF
  rw [List.all_eq_true]
  intro x hx
  obtain ⟨y, _, rfl⟩ := List.mem_map.1 hx
  rfl
theorem zF_zr {n : Nat} {f : Nat → Int} : zF n f = zr ((List.range n).map f) := by simp [zF, zr]
theorem zF_suc {n : Nat} {f : Nat → Int} : zF n f ++ [zi (f n)] = zF (n + 1) f := by simp [zF, List.range_succ]
theorem zM_suc {m n : Nat} {W : Nat → Nat → Int} : zM m n W ++ [.sl (zF n (W m))] = zM (m + 1) n W := by simp [zM, List.range_succ]
structure RowsF (ρ : Store) (cs : List CV) (m n : Nat) (W : Nat → Nat → Int) : Prop where
  len : cs.length = m
  own : ∀ i, i < m → ∃ b, cs[i]? = some (.own b 0 n) ∧ ρ[b]? = some (.prow 2 (zF n (W i)))
  ne : ∀ i j b b' : Nat, i ≠ j → cs[i]? = some (.own b 0 n) → cs[j]? = some (.own b' 0 n) → b ≠ b'
section
variable {ρ τ : Store} {cs : List CV} {m n : Nat} {W V : Nat → Nat → Int}
theorem RowsF.mono (h : RowsF ρ cs m n W) (hp : ∀ (b : Nat) es, ρ[b]? = some (.prow 2 es) → τ[b]? = some (.prow 2 es)) : RowsF τ cs m n W :=
  ⟨h.len, fun i hi => by obtain ⟨b, h1, h2⟩ := h.own i hi; exact ⟨b, h1, hp b _ h2⟩, h.ne⟩
theorem RowsF.app (h : RowsF ρ cs m n W) {l : Store} : RowsF (ρ ++ l) cs m n W := h.mono fun b es hb => by rw [get_left (List.getElem?_eq_some_iff.1 hb).1]; exact hb
theorem RowsF.setk (h : RowsF ρ cs m n W) {j s : Nat} {xs : List CV} {x : Blk} (hj : ρ[j]? = some (.kblk s xs)) : RowsF (ρ.set j x) cs m n W := h.mono fun b es hb => by
  rw [get_ne]
  · exact hb
  · rintro rfl; rw [hj] at hb; cases hb
theorem RowsF.congr (h : RowsF ρ cs m n W) (hv : ∀ i j, i < m → j < n → W i j = V i j) : RowsF ρ cs m n V :=
  ⟨h.len, fun i hi => by obtain ⟨b, h1, h2⟩ := h.own i hi; exact ⟨b, h1, by rw [← zF_congr fun j hj => hv i j hi hj]; exact h2⟩, h.ne⟩
theorem RowsF.set (h : RowsF ρ cs m n W) {i b : Nat} {f : Nat → Int} (hi : i < m) (hc : cs[i]? = some (.own b 0 n)) (hv1 : ∀ j, j < n → f j = V i j) (hv2 : ∀ a j, a < m → a ≠ i → j < n → W a j = V a j) : RowsF (ρ.set b (.prow 2 (zF n f))) cs m n V := by
  refine ⟨h.len, fun a ha => ?_, h.ne⟩
  obtain ⟨b0, g1, g2⟩ := h.own i hi
  rw [hc] at g1
  cases g1
  by_cases hai : a = i
  · subst hai
    exact ⟨b, hc, by rw [get_self (List.getElem?_eq_some_iff.1 g2).1, zF_congr hv1]⟩
  · obtain ⟨b1, k1, k2⟩ := h.own a ha
    exact ⟨b1, k1, by rw [get_ne (h.ne i a b b1 (Ne.symm hai) hc k1), ← zF_congr fun j hj => hv2 a j ha hai hj]; exact k2⟩
theorem RowsF.apart (h : RowsF ρ cs m n W) {j s : Nat} {xs : List CV} (hj : ρ[j]? = some (.kblk s xs)) {i b : Nat} (hi : i < m) (hc : cs[i]? = some (.own b 0 n)) : b ≠ j := by
  rintro rfl
  obtain ⟨b0, g1, g2⟩ := h.own i hi
  rw [hc] at g1
  cases g1
  rw [hj] at g2
  cases g2
theorem RowsF.nd (h : RowsF ρ cs m n W) {c : CV} {es : List PV} (hc : GL ρ 1 c es) : RowsF (nd ρ c) cs m n W := h.mono fun b es' hb => by
  rcases hc with ⟨rfl, rfl⟩ | ⟨b', rfl, hb'⟩
  · exact hb
  · show (ρ.set b' .dead)[b]? = _
    rw [get_ne]
    · exact hb
    · rintro rfl; rw [hb'] at hb; cases hb
theorem RowsF.snoc {b : Nat} (h : RowsF ρ cs m n W) (hb : ρ[b]? = some (.prow 2 (zF n (W m)))) (hne : ∀ j b', j < m → cs[j]? = some (.own b' 0 n) → b' ≠ b) : RowsF ρ (cs ++ [.own b 0 n]) (m + 1) n W := by
  have hl := h.len
  have gl : ∀ i, i < m → (cs ++ [CV.own b 0 n])[i]? = cs[i]? := fun i hi => List.getElem?_append_left (by omega)
  have gm : (cs ++ [CV.own b 0 n])[m]? = some (.own b 0 n) := by rw [List.getElem?_append_right (by omega), hl, Nat.sub_self]; rfl
  have hlt : ∀ {i x}, (cs ++ [CV.own b 0 n])[i]? = some x → i < m + 1 := fun {i x} hi => by
    have := (List.getElem?_eq_some_iff.1 hi).1
    simp at this; omega
  refine ⟨by simp [hl], fun i hi => ?_, fun i j b1 b2 hij h1 h2 => ?_⟩
  · rcases Nat.lt_or_ge i m with h1 | h1
    · obtain ⟨b', k1, k2⟩ := h.own i h1
      exact ⟨b', by rw [gl i h1]; exact k1, k2⟩
    · obtain rfl : i = m := by omega
      exact ⟨b, gm, hb⟩
  · have hi := hlt h1
    have hj := hlt h2
    rcases Nat.lt_or_ge i m with a1 | a1
    · rw [gl i a1] at h1
      rcases Nat.lt_or_ge j m with a2 | a2
      · rw [gl j a2] at h2
        exact h.ne i j b1 b2 hij h1 h2
      · obtain rfl : j = m := by omega
        rw [gm] at h2
        cases h2
        exact hne i b1 a1 h1
    · obtain rfl : i = m := by omega
      rw [gm] at h1
      cases h1
      rw [gl j (by omega)] at h2
      exact (hne j b2 (by omega) h2).symm
theorem RowsF.swap (h : RowsF ρ cs m n W) {p r : Nat} {cp cr : CV} (hp : p < m) (hr : r < m) (hcp : cs[p]? = some cp) (hcr : cs[r]? = some cr) : RowsF ρ ((cs.set p cr).set r cp) m n (fun i j => W (Gs.swp p r i) j) := by
  have key : ∀ i, i < m → ((cs.set p cr).set r cp)[i]? = cs[Gs.swp p r i]? := fun i hi => by
    unfold Gs.swp
    by_cases h1 : r = i
    · subst h1
      rw [List.getElem?_set_self (by rw [List.length_set, h.len]; exact hi)]
      by_cases h2 : r = p
      · rw [if_pos h2]
        subst h2
        rw [hcp]
      · rw [if_neg h2, if_pos rfl, hcp]
    · rw [List.getElem?_set_ne h1]
      by_cases h2 : p = i
      · subst h2
        rw [List.getElem?_set_self (by rw [h.len]; exact hi), if_pos rfl, hcr]
      · rw [List.getElem?_set_ne h2, if_neg (Ne.symm h2), if_neg (Ne.symm h1)]
  have hlt : ∀ {i b}, ((cs.set p cr).set r cp)[i]? = some (.own b 0 n) → i < m := fun {i b} hi => by
    have := (List.getElem?_eq_some_iff.1 hi).1
    rw [List.length_set, List.length_set, h.len] at this
    exact this
  have inj : ∀ i j, Gs.swp p r i = Gs.swp p r j → i = j := fun i j hij => by
    unfold Gs.swp at hij
    split at hij <;> split at hij <;> (try split at hij) <;> (try split at hij) <;> omega
  refine ⟨by rw [List.length_set, List.length_set]; exact h.len, fun i hi => ?_, fun i j b b' hij h1 h2 => ?_⟩
  · obtain ⟨b, g1, g2⟩ := h.own (Gs.swp p r i) (Gs.swp_lt hp hr hi)
    exact ⟨b, by rw [key i hi]; exact g1, g2⟩
  · rw [key i (hlt h1)] at h1
    rw [key j (hlt h2)] at h2
    exact h.ne _ _ _ _ (fun hh => hij (inj _ _ hh)) h1 h2
end
/-! ### copied -/
theorem n211 {m n : Nat} {W : Nat → Nat → Int} {σ : Store} (hm : m ≤ 64) (hn : n ≤ 64) {Q : CV → Store → Prop}
    (hQ : ∀ ρ k cs, Pre σ ρ → σ.length ≤ k → ρ[k]? = some (.kblk 1 cs) → RowsF ρ cs m n W → Q (.own k 0 m) ρ) : Rn rp 151 [.p (.sl (zM m n W))] σ Q := by
  rw [rn_of rp211]
  have m1 : ((24 : Nat) : Int) * (m : Int) ≤ 281474976710656 := by omega
  have m2 : (m : Int) ≤ 9223372036854775807 := by omega
  have m3 : ((32 : Nat) : Int) * (n : Int) ≤ 281474976710656 := by omega
  have m4 : (n : Int) ≤ 9223372036854775807 := by omega
  simp only [f151, args0, SA, setCells, Int.reduceLE, Int.reduceLT, ↓reduceIte, reduceCtorEq, Nat.reduceLT, Nat.reduceEqDiff, Nat.reduceAdd, Nat.reduceMul, Nat.reduceLeDiff, Nat.reduceBEq, zM_len, Int.natCast_nonneg, m1, m2, Int.le_refl, Int.toNat_natCast]
  refine loop_rule (β := Nat × Store × List CV) (fun t => ([(3, .own σ.length 0 m), (9, .p (.sl (zM m n W))), (10, i64 m), (11, i64 t.1)], t.2.1))
    (fun t => t.1 ≤ m ∧ Pre σ t.2.1 ∧ t.2.1[σ.length]? = some (.kblk 1 (t.2.2 ++ List.replicate (m - t.1) .nils)) ∧ RowsF t.2.1 t.2.2 t.1 n W) (fun t => m - t.1) ((0, σ ++ [.kblk 1 (List.replicate m .nils)], []) : Nat × Store × List CV) rfl rfl
    ⟨Nat.zero_le _, Pre.refl.push, by rw [get_app0]; rfl, ⟨rfl, fun i hi => by omega, fun i j b b' _ h => by simp at h⟩⟩ ?_
  rintro ⟨i, τ, cs⟩ ⟨hi, hp, hk, hro⟩ ih
  simp only [] at hi hp hk hro ih ⊢
  have hcl := hro.len
  have hlk := (List.getElem?_eq_some_iff.1 hk).1
  by_cases hin : (i : Int) < m
  · have hin' : i < m := by omega
    have w1 : IntKind.i64.wrap ((i : Int) + 1) = ((i + 1 : Nat) : Int) := by rw [IntWalk.i64_in _ (by omega)]; omega
    have hset : setCells (cs ++ List.replicate (m - i) CV.nils) (i * 1) [.own τ.length 0 n] = cs ++ [.own τ.length 0 n] ++ List.replicate (m - (i + 1)) CV.nils := by
      unfold setCells
      rw [Nat.mul_one, ← hcl, List.take_left, show m - cs.length = (m - (cs.length + 1)) + 1 by omega, List.replicate_succ, show cs.length + [CV.own τ.length 0 n].length = cs.length + 1 from rfl, ← List.drop_drop, List.drop_left]
      rfl
    have hLl : (cs ++ List.replicate (m - i) CV.nils).length = m := by rw [List.length_append, List.length_replicate]; omega
    have hLg : (cs ++ [CV.own τ.length 0 n] ++ List.replicate (m - (i + 1)) CV.nils)[i * 1]? = some (.own τ.length 0 n) := by
      rw [Nat.mul_one, ← hcl, List.append_assoc, List.getElem?_append_right (Nat.le_refl _), Nat.sub_self]; rfl
    generalize hLe : cs ++ List.replicate (m - i) CV.nils = L at hk hset hLl
    generalize hLe' : cs ++ [CV.own τ.length 0 n] ++ List.replicate (m - (i + 1)) CV.nils = L' at hset hLg
    have e2 : ∀ l, (τ ++ l)[σ.length]? = some (.kblk 1 L) := fun l => by rw [get_left hlk]; exact hk
    have e3 : ∀ l x, (τ ++ l).set σ.length x = τ.set σ.length x ++ l := fun l x => set_left hlk
    have e4 : ∀ l x, (τ.set σ.length x ++ l)[σ.length]? = some x := fun l x => by rw [get_left (by rw [List.length_set]; exact hlk), get_self hlk]
    have e5 : ∀ l x, (τ.set σ.length x ++ l)[τ.length]? = l[0]? := fun l x => by rw [show τ.length = (τ.set σ.length x).length by rw [List.length_set], get_app0]
    have e6 : ∀ l x y, (τ.set σ.length x ++ l).set τ.length y = τ.set σ.length x ++ l.set 0 y := fun l x y => by rw [show τ.length = (τ.set σ.length x).length by rw [List.length_set], set_app0]
    have hle : i * 1 + 1 ≤ m := by omega
    have hsz := zF_sz (n := n) (f := W i)
    have hcp : setCells (List.replicate n (PV.agg [.bool false, .sl []])) 0 ((zF n (W i)).take n) = zF n (W i) := by
      rw [show (zF n (W i)).take n = zF n (W i) from List.take_of_length_le (by rw [zF_len]; exact Nat.le_refl _)]
      unfold setCells
      rw [List.take_zero, List.nil_append, Nat.zero_add, zF_len, List.drop_of_length_le (by rw [List.length_replicate]; exact Nat.le_refl _), List.append_nil]
    simp only [SA, Int.reduceLE, Int.reduceLT, ↓reduceIte, reduceCtorEq, Nat.reduceLT, Nat.reduceEqDiff, Nat.reduceAdd, Nat.reduceMul, Nat.reduceLeDiff, Nat.reduceBEq, hin, hin', zM_get hin', zF_len, Int.natCast_nonneg, m3, m4, Int.le_refl, Int.toNat_natCast, e2, e3, e4, e5, e6, hset, hLl, hLg, hle, hsz, hcp, List.length_replicate, w1]
    refine ih (i + 1, τ.set σ.length (.kblk 1 L') ++ [.prow 2 (zF n (W i))], cs ++ [.own τ.length 0 n]) _ ⟨by simp only []; omega, (hp.set (Nat.le_refl _)).push, by simp only []; rw [e4, ← hLe'], ?_⟩ (by simp only []; omega) ?_
    rotate_left
    · rfl
    refine RowsF.snoc ((hro.setk hk).app) ?_ fun j b hj hb => ?_
    · rw [e5]; rfl
    · obtain ⟨b0, g1, g2⟩ := hro.own j hj
      rw [hb] at g1
      cases g1
      have := (List.getElem?_eq_some_iff.1 g2).1
      omega
  · obtain rfl : i = m := by omega
    rw [Nat.sub_self, List.replicate_zero, List.append_nil] at hk
    simp only [SA, setCells, Int.reduceLE, Int.reduceLT, ↓reduceIte, reduceCtorEq, Nat.reduceLT, Nat.reduceEqDiff, Nat.reduceAdd, Nat.reduceMul, Nat.reduceLeDiff, Nat.reduceBEq, hin]
    exact hQ τ _ cs hp (Nat.le_refl _) hk hro
end Go.Proofs.YtdieenbfdeaffaaGreat.VDd

namespace Go.Proofs.YtdieenbfdeaffaaGreat.VDd
open Go Vpi
open VBn hiding rp tab rp_ok all_ok mixed sim Big
set_option maxRecDepth 100000
set_option linter.unusedSimpArgs false
set_option linter.unusedVariables false
open Gs (Pv dI swp)
/-! ### floors -/
def flq (x y : Int) : Int := if 0 < y then x / y else (-x) / (-y)
theorem Fl.flq {x y q r : Int} (h : Fl x y q r) (hy : y ≠ 0) : q = flq x y := by
  have h1 := h.eq
  unfold VDd.flq
  by_cases h0 : 0 < y
  · rw [if_pos h0]
    rcases h.rest with ⟨a, b⟩ | ⟨a, b⟩
    · exact ((Int.ediv_emod_unique h0).2 ⟨by rw [Int.mul_comm]; omega, a, b⟩).1.symm
    · omega
  · rw [if_neg h0]
    rcases h.rest with ⟨a, b⟩ | ⟨a, b⟩
    · omega
    · exact ((Int.ediv_emod_unique (a := -x) (b := -y) (r := -r) (q := q) (by omega)).2 ⟨by rw [Int.neg_mul, Int.mul_comm]; omega, by omega, by omega⟩).1.symm
theorem flq_exact {x y q : Int} (hy : y ≠ 0) (h : x = q * y) : flq x y = q := by
  subst h
  unfold flq
  by_cases h0 : 0 < y
  · rw [if_pos h0, Int.mul_ediv_cancel _ hy]
  · rw [if_neg h0, ← Int.mul_neg, Int.mul_ediv_cancel _ (by omega)]
theorem flq_le {x y : Int} : (flq x y).natAbs ≤ x.natAbs := by
  unfold flq
  split
  · exact Int.natAbs_ediv_le_natAbs ..
  · have := Int.natAbs_ediv_le_natAbs (-x) (-y)
    rwa [Int.natAbs_neg] at this
/-! ### sizes -/
def Ex2 (e : Nat) : Nat → Nat
  | 0 => e
  | c + 1 => 2 * Ex2 e c + 1
theorem Ex2_eq {e : Nat} : ∀ {c : Nat}, Ex2 e c + 1 = 2 ^ c * (e + 1)
  | 0 => by simp [Ex2]
  | c + 1 => by
    rw [Ex2, Nat.pow_succ, Nat.mul_comm (2 ^ c) 2, Nat.mul_assoc, ← Ex2_eq]; omega
theorem Ex2_suc {e c : Nat} : Ex2 e c ≤ Ex2 e (c + 1) := by rw [Ex2]; omega
theorem Ex2_le {e c : Nat} (he : e ≤ 1000) (hc : c ≤ 12) : Ex2 e c ≤ 4100095 := by
  have h := Ex2_eq (e := e) (c := c)
  have h1 : 2 ^ c ≤ 2 ^ 12 := Nat.pow_le_pow_right (by decide) hc
  have h2 : 2 ^ c * (e + 1) ≤ 2 ^ 12 * (e + 1) := Nat.mul_le_mul_right _ h1
  omega
theorem sk_cross {E : Nat} {a b c d : Int} (ha : Sk E a) (hb : Sk E b) (hc : Sk E c) (hd : Sk E d) : Sk (2 * E + 1) (a * b - c * d) := by
  unfold Sk at *
  have h1 := Int.natAbs_sub_le (a * b) (c * d)
  rw [Int.natAbs_mul, Int.natAbs_mul] at h1
  have h2 : a.natAbs * b.natAbs < LB ^ E * LB ^ E := Nat.mul_lt_mul'' ha hb
  have h3 : c.natAbs * d.natAbs < LB ^ E * LB ^ E := Nat.mul_lt_mul'' hc hd
  have h4 : LB ^ (2 * E + 1) = LB ^ E * LB ^ E * LB := by rw [Nat.pow_succ, Nat.two_mul, Nat.pow_add]
  rw [h4]
  have h5 : LB ^ E * LB ^ E * 2 ≤ LB ^ E * LB ^ E * LB := Nat.mul_le_mul_left _ (by decide)
  omega
/-! ### the states -/
def El (W : Nat → Nat → Int) (r c : Nat) (last : Int) (i k : Nat) : Int := flq (W r c * W i k - W i c * W r k) last
def elm (W : Nat → Nat → Int) (r c : Nat) (last : Int) (i k : Nat) : Int := if r < i ∧ c ≤ k then El W r c last i k else W i k
structure Bst (W0 : Nat → Nat → Int) (n e c r : Nat) (W : Nat → Nat → Int) (last : Int) (odd : Bool) : Prop where
  rc : r ≤ c
  ne : last ≠ 0
  sl : Sk (Ex2 e c) last
  sw : ∀ i j, i < n → j < n → Sk (Ex2 e c) (W i j)
  good : (r = c ∧ ∃ g, Pv g n c W last ∧ dI n g = if odd = true then - dI n W0 else dI n W0) ∨ (r < c ∧ dI n W0 = 0)
section
variable {W0 W : Nat → Nat → Int} {n e c r : Nat} {last : Int} {odd : Bool}
theorem Bst.start (he : 1 ≤ e) (h : ∀ i j, i < n → j < n → Sk e (W0 i j)) : Bst W0 n e 0 0 W0 1 false := by
  refine ⟨Nat.le_refl _, by decide, ?_, h, .inl ⟨rfl, W0, Pv.start, by simp⟩⟩
  unfold Sk Ex2
  exact Nat.one_lt_pow (by omega) (by decide)
theorem Bst.skip (h : Bst W0 n e c r W last odd) (hc : c < n) (hz : ∀ i, r ≤ i → i < n → W i c = 0) : Bst W0 n e (c + 1) r W last odd := by
  refine ⟨Nat.le_succ_of_le h.rc, h.ne, h.sl.mono Ex2_suc, fun i j hi hj => (h.sw i j hi hj).mono Ex2_suc, .inr ⟨Nat.lt_succ_of_le h.rc, ?_⟩⟩
  rcases h.good with ⟨rfl, g, h1, h2⟩ | ⟨_, h1⟩
  · have h3 : dI n g = 0 := Gs.dI_of (h1.stop hc hz)
    rw [h3] at h2
    cases odd
    · simpa using h2.symm
    · simp at h2; omega
  · exact h1
theorem Bst.swap {p : Nat} (h : Bst W0 n e c r W last odd) (hc : c < n) (hp : r ≤ p) (hpn : p < n) (hne : p ≠ r) : Bst W0 n e c r (fun i j => W (swp p r i) j) last (!odd) := by
  have hrn : r < n := Nat.lt_of_le_of_lt h.rc hc
  refine ⟨h.rc, h.ne, h.sl, fun i j hi hj => h.sw _ j (Gs.swp_lt hpn hrn hi) hj, ?_⟩
  rcases h.good with ⟨rfl, g, h1, h2⟩ | h1
  · refine .inl ⟨rfl, _, h1.swap hp hpn, ?_⟩
    rw [Gs.dI_swp hpn hrn hne, h2]
    cases odd <;> simp
  · exact .inr h1
theorem Bst.step (h : Bst W0 n e c r W last odd) (hc : c < n) (hz : W r c ≠ 0) : Bst W0 n e (c + 1) (r + 1) (elm W r c last) (W r c) odd := by
  have hrn : r < n := Nat.lt_of_le_of_lt h.rc hc
  refine ⟨Nat.succ_le_succ h.rc, hz, (h.sw r c hrn hc).mono Ex2_suc, fun i j hi hj => ?_, ?_⟩
  · unfold elm
    split
    · have h1 := sk_cross (h.sw r c hrn hc) (h.sw i j hi hj) (h.sw i c hi hc) (h.sw r j hrn hj)
      exact Nat.lt_of_le_of_lt flq_le h1
    · exact (h.sw i j hi hj).mono Ex2_suc
  · rcases h.good with ⟨rfl, g, h1, h2⟩ | ⟨h1, h2⟩
    · refine .inl ⟨rfl, g, h1.next hrn hz fun i j a1 a2 a3 a4 => ?_, h2⟩
      obtain ⟨q, e1, _⟩ := h1.whole hrn hz a1 a2 a3 a4
      unfold elm El
      rw [if_pos ⟨a1, by omega⟩, flq_exact h.ne e1]
      exact e1
    · exact .inr ⟨Nat.succ_lt_succ h1, h2⟩
theorem Bst.done (h : Bst W0 n e n r W last odd) : (r = n → (if odd = true then -last else last) = dI n W0) ∧ (r ≠ n → dI n W0 = 0) := by
  rcases h.good with ⟨rfl, g, h1, h2⟩ | ⟨h1, h2⟩
  · refine ⟨fun _ => ?_, fun h => absurd rfl h⟩
    rw [Gs.dI_of h1.done] at h2
    rw [h2]
    cases odd <;> simp
  · exact ⟨fun h => by omega, fun _ => h2⟩
end
end Go.Proofs.YtdieenbfdeaffaaGreat.VDd

namespace Go.Proofs.YtdieenbfdeaffaaGreat.VDd
open Go Vpi
open VBn hiding rp tab rp_ok all_ok mixed sim Big
set_option maxRecDepth 100000
set_option linter.unusedSimpArgs false
set_option linter.unusedVariables false
open Gs (Pv dI swp)
theorem rp209 : rp 128 = some f128 := rfl
theorem rp193 : rp 95 = some f95 := rfl
theorem join2 {rs : List RRes} {c : RCode} {ks : List KI} {Q : CV → Store → Prop} {G : Prop} {R : Env → Store → Prop} (hmain : (∀ e ρ, R e ρ → Ex rp rs (.loop c) ks e ρ Q) → G) (hrest : ∀ e ρ, R e ρ → Ex rp rs (.loop c) ks e ρ Q) : G := hmain hrest
theorem setC1 {α : Type} {l : List α} {i : Nat} {x : α} (h : i < l.length) : setCells l (i * 1) [x] = l.set i x := by
  unfold setCells
  rw [Nat.mul_one]
  apply List.ext_getElem?
  intro j
  rcases Nat.lt_trichotomy j i with h1 | h1 | h1
  · rw [List.getElem?_set_ne (by omega), List.append_assoc, List.getElem?_append_left (by rw [List.length_take]; omega), List.getElem?_take, if_pos h1]
  · subst h1
    rw [List.getElem?_set_self h, List.append_assoc, List.getElem?_append_right (by rw [List.length_take]; omega), List.length_take, Nat.min_eq_left (by omega), Nat.sub_self]
    rfl
  · rw [List.getElem?_set_ne (by omega), List.getElem?_append_right (by simp; omega), List.getElem?_drop]
    congr 1
    simp
    omega
structure S9 where
  c : Nat
  r : Nat
  W : Nat → Nat → Int
  last : Int
  odd : Bool
  τ : Store
  cs : List CV
  ch : CV
  hs : List PV
structure F9 (k q n : Nat) (W : Nat → Nat → Int) (last : Int) (τ : Store) (cs : List CV) (ch : CV) (hs : List PV) : Prop where
  h0 : τ[0]? = some (.kblk 2 [.p (.bool false), .nils])
  h1 : τ[1]? = some (.kblk 2 [.p (.bool false), .nils])
  hq : τ[q]? = some (.kblk 2 (cz last))
  hk : τ[k]? = some (.kblk 1 cs)
  ro : RowsF τ cs n n W
  gh : GL τ 1 ch hs
structure B9 (k q : Nat) (W0 : Nat → Nat → Int) (n e : Nat) (s : S9) : Prop where
  cn : s.c ≤ n
  f : F9 k q n s.W s.last s.τ s.cs s.ch s.hs
  hl : s.hs.length = s.r
  b : Bst W0 n e s.c s.r s.W s.last s.odd
section
variable {k q n : Nat} {W V : Nat → Nat → Int} {last : Int} {τ : Store} {cs : List CV} {ch : CV} {hs : List PV}
theorem F9.push (h : F9 k q n W last τ cs ch hs) {l : Store} : F9 k q n W last (τ ++ l) cs ch hs := by
  obtain ⟨a0, a1, a2, a3, a4, a5⟩ := h
  exact ⟨by rw [get_left (List.getElem?_eq_some_iff.1 a0).1]; exact a0, by rw [get_left (List.getElem?_eq_some_iff.1 a1).1]; exact a1, by rw [get_left (List.getElem?_eq_some_iff.1 a2).1]; exact a2, by rw [get_left (List.getElem?_eq_some_iff.1 a3).1]; exact a3, a4.app, a5.left⟩
theorem F9.row (h : F9 k q n W last τ cs ch hs) {i b : Nat} {f : Nat → Int} (hi : i < n) (hc : cs[i]? = some (.own b 0 n)) (hv1 : ∀ j, j < n → f j = V i j) (hv2 : ∀ a j, a < n → a ≠ i → j < n → W a j = V a j) : F9 k q n V last (τ.set b (.prow 2 (zF n f))) cs ch hs := by
  obtain ⟨a0, a1, a2, a3, a4, a5⟩ := h
  obtain ⟨b0, g1, g2⟩ := a4.own i hi
  rw [hc] at g1
  cases g1
  refine ⟨by rw [get_ne (a4.apart a0 hi hc)]; exact a0, by rw [get_ne (a4.apart a1 hi hc)]; exact a1, by rw [get_ne (a4.apart a2 hi hc)]; exact a2, by rw [get_ne (a4.apart a3 hi hc)]; exact a3, a4.set hi hc hv1 hv2, ?_⟩
  refine a5.set_ne fun b' o m hb' => ?_
  rintro rfl
  rcases a5 with ⟨h, _⟩ | ⟨b'', h, h'⟩
  · rw [h] at hb'; cases hb'
  · rw [h] at hb'; cases hb'; rw [g2] at h'; cases h'
theorem F9.congr (h : F9 k q n W last τ cs ch hs) (hv : ∀ i j, i < n → j < n → W i j = V i j) : F9 k q n V last τ cs ch hs :=
  ⟨h.h0, h.h1, h.hq, h.hk, h.ro.congr hv, h.gh⟩
theorem F9.rowOf (h : F9 k q n W last τ cs ch hs) {i : Nat} {f : Nat → Int} (hi : i < n) (hf : ∀ j, j < n → W i j = f j) : ∃ b, cs[i * 1]? = some (.own b 0 n) ∧ τ[b]? = some (.prow 2 (zF n f)) := by
  obtain ⟨b, g1, g2⟩ := h.ro.own i hi
  exact ⟨b, by rw [Nat.mul_one]; exact g1, by rw [← zF_congr hf]; exact g2⟩
theorem F9.swap (h : F9 k q n W last τ cs ch hs) {p r : Nat} {cp cr : CV} (hp : p < n) (hr : r < n) (hcp : cs[p * 1]? = some cp) (hcr : cs[r * 1]? = some cr) : F9 k q n (fun i j => W (swp p r i) j) last (τ.set k (.kblk 1 ((cs.set p cr).set r cp))) ((cs.set p cr).set r cp) ch hs := by
  rw [Nat.mul_one] at hcp hcr
  obtain ⟨a0, a1, a2, a3, a4, a5⟩ := h
  have ne : ∀ {j xs}, τ[j]? = some (.kblk 2 xs) → k ≠ j := fun {j xs} hj => by
    rintro rfl
    rw [a3] at hj
    cases hj
  refine ⟨by rw [get_ne (ne a0)]; exact a0, by rw [get_ne (ne a1)]; exact a1, by rw [get_ne (ne a2)]; exact a2, get_self (List.getElem?_eq_some_iff.1 a3).1, (a4.setk a3).swap hp hr hcp hcr, a5.set a3⟩
end
section
variable {k q n : Nat} {W V : Nat → Nat → Int} {last : Int} {τ : Store} {cs : List CV} {ch : CV} {hs : List PV}
theorem F9.app (h : F9 k q n W last τ cs ch hs) {xs : List PV} {l : Nat} (hl : l = τ.length) {m : Nat} (hm : m = (hs ++ xs).length) : F9 k q n W last (nd τ ch ++ [.prow 1 xs, .prow 1 (hs ++ xs)]) cs (.own (l + 1) 0 m) (hs ++ xs) :=
  ⟨GL.kb h.gh h.h0, GL.kb h.gh h.h1, GL.kb h.gh h.hq, GL.kb h.gh h.hk, (h.ro.nd h.gh).app, GL.new2 hm hl⟩
theorem F9.setl (h : F9 k q n W last τ cs ch hs) {last' : Int} (h0q : q ≠ 0) (h1q : q ≠ 1) : F9 k q n W last' (τ.set q (.kblk 2 (cz last'))) cs ch hs := by
  obtain ⟨a0, a1, a2, a3, a4, a5⟩ := h
  refine ⟨by rw [get_ne h0q]; exact a0, by rw [get_ne h1q]; exact a1, get_self (List.getElem?_eq_some_iff.1 a2).1, ?_, a4.setk a2, a5.set a2⟩
  rw [get_ne]
  · exact a3
  · rintro rfl; rw [a2] at a3; cases a3
end
theorem r_app_l {rp : RProg} {rs : List RRes} {base : Nat} {d : Option Nat} {l : List LOp} {dr : Dr} {ks : List KI} {ε : Env} {σ : Store} {Q : CV → Store → Prop} {c : CV} {sz m : Nat} {es xs : List PV} {s x : Opd} {bytes : Nat} (hm : σ.length = m) (h : GL σ sz c es) (hc : (es.length + xs.length) * bytes ≤ 140737488355328) (hs : vl ε s = c) (hx : vl ε x = .own m 0 xs.length) (hz : allSz sz xs = true) :
    ExR rp rs base (⟨d, none, none, .append sz bytes s x⟩ :: l) dr ks ε (σ ++ [.prow sz xs]) Q = ExR rp rs base l dr ks (sto d (.own (m + 1) 0 (es.length + xs.length)) ε) (nd σ c ++ [.prow sz xs, .prow sz (es ++ xs)]) Q := by
  subst hm
  exact r_app h hc hs hx hz
theorem n209 {n e : Nat} {W0 : Nat → Nat → Int} (hn : n ≤ 12) (he1 : 1 ≤ e) (he : e ≤ 1000) (hW : ∀ i j, i < n → j < n → Sk e (W0 i j)) {Q : CV → Store → Prop}
    (hQ : ∀ ρ k ch last odd r hs W, ρ[0]? = some (.kblk 2 [.p (.bool false), .nils]) → GL ρ 1 ch hs → hs.length = r → r ≤ n → Bst W0 n e n r W last odd → Q (.tup [.own k 0 n, ch, .p (zi last), .p (.bool odd)]) ρ) :
    Rn rp 128 [.p (.sl (zM n n W0)), i64 n] [.kblk 2 [.p (.bool false), .nils]] Q := by
  rw [rn_of rp209]
  have k54 := (VBn.p54 (x := 1) (by decide) (by decide)).lift base_le
  simp only [f128, args0, SA, setCells, Int.reduceLE, Int.reduceLT, ↓reduceIte, reduceCtorEq, Nat.reduceLT, Nat.reduceEqDiff, Nat.reduceAdd, Nat.reduceMul, Nat.reduceLeDiff, Nat.reduceBEq]
  refine kc_keep' (n211 (by omega) (by omega) fun ρ k cs hp hkl hk hro => ?_)
  simp only [SA, setCells, Int.reduceLE, Int.reduceLT, ↓reduceIte, reduceCtorEq, Nat.reduceLT, Nat.reduceEqDiff, Nat.reduceAdd, Nat.reduceMul, Nat.reduceLeDiff, Nat.reduceBEq, kp1 k54]
  refine loop_rule (β := S9) (fun s => ([(6, .ptr 1 0 0), (8, .own k 0 n), (9, s.ch), (10, .ptr ρ.length 0 0), (11, .p (.bool s.odd)), (21, i64 n), (22, i64 s.c)], s.τ)) (B9 k ρ.length W0 n e) (fun s => n - s.c) (⟨0, 0, W0, 1, false, ρ ++ [.kblk 2 (cz 1)], cs, .nils, []⟩ : S9) rfl rfl
    ⟨Nat.zero_le _, ⟨by rw [get_left (Nat.lt_of_lt_of_le (by decide) hp.len), hp.get 0 (by decide)]; rfl, by rw [get_left (Nat.lt_of_lt_of_le (by decide) hp.len), hp.get 1 (by decide)]; rfl, by rw [get_app0]; rfl, by rw [get_left (List.getElem?_eq_some_iff.1 hk).1]; exact hk, hro.app, .nil⟩, rfl, Bst.start he1 hW⟩ ?_
  have hq0 : ρ.length ≠ 0 := by have := hp.len; simp at this; omega
  have hq1 : ρ.length ≠ 1 := by have := hp.len; simp at this; omega
  generalize ρ.length = q at *
  clear hp hkl hk hro
  rintro ⟨c, r, W, last, odd, τ, cs, ch, hs⟩ ⟨hcn, hF, hl, hb⟩ ih
  simp only [] at hcn hF hl hb ih ⊢
  have hlen : lenV ch = some r := by rw [hF.gh.len, hl]
  have hrn : r ≤ n := Nat.le_trans hb.rc hcn
  by_cases hin : (c : Int) < n
  · have hin' : c < n := by omega
    have w1 : IntKind.i64.wrap ((c : Int) + 1) = ((c + 1 : Nat) : Int) := by rw [IntWalk.i64_in _ (by omega)]; omega
    have hrc := hb.rc
    have hE := Ex2_le he (c := c) (by omega)
    simp only [SA, Int.reduceLE, Int.reduceLT, ↓reduceIte, reduceCtorEq, Nat.reduceLT, Nat.reduceEqDiff, Nat.reduceAdd, Nat.reduceMul, Nat.reduceLeDiff, Nat.reduceBEq, hin, hlen]
    refine loop_rule (β := Nat) (fun p => ([(6, .ptr 1 0 0), (8, .own k 0 n), (9, ch), (10, .ptr q 0 0), (11, .p (.bool odd)), (12, i64 c), (13, i64 r), (14, i64 p), (21, i64 n), (22, i64 c)], τ)) (fun p => r ≤ p ∧ p ≤ n ∧ ∀ i, r ≤ i → i < p → W i c = 0) (fun p => n - p) r rfl rfl ⟨Nat.le_refl _, hrn, fun i h1 h2 => by omega⟩ ?_
    rintro p ⟨hp1, hp2, hpz⟩ ih2
    simp only [] at hp1 hp2 hpz ih2 ⊢
    by_cases hpn : (p : Int) < n
    · have hpn' : p < n := by omega
      obtain ⟨bp, g1, g2⟩ := hF.rowOf hpn' (f := W p) (fun _ _ => rfl)
      have hk := hF.hk
      have k77 := (VBn.p77 (Nu.zi ((hb.sw p c hpn' hin').sz (by omega)))).lift base_le
      have w2 : IntKind.i64.wrap ((p : Int) + 1) = ((p + 1 : Nat) : Int) := by rw [IntWalk.i64_in _ (by omega)]; omega
      by_cases hz : W p c = 0
      · have e0 : (((W p c).sign : Int) == 0) = true := by rw [hz]; rfl
        simp only [SA, Int.reduceLE, Int.reduceLT, ↓reduceIte, reduceCtorEq, Nat.reduceLT, Nat.reduceEqDiff, Nat.reduceAdd, Nat.reduceMul, Nat.reduceLeDiff, Nat.reduceBEq, hpn, hpn', Int.natCast_nonneg, Int.toNat_natCast, hk, g1, g2, zF_get hin', hin', subPV_zi, kp1 k77, e0, w2]
        exact ih2 (p + 1) _ ⟨by omega, by omega, fun i h1 h2 => by
          rcases Nat.lt_or_ge i p with h | h
          · exact hpz i h1 h
          · obtain rfl : i = p := by omega
            exact hz⟩ (by omega) rfl
      · have e0 : (((W p c).sign : Int) == 0) = false := by
          rw [beq_eq_false_iff_ne]; intro h; exact hz (Int.sign_eq_zero_iff_zero.1 h)
        have e1 : ((p : Int) == (n : Int)) = false := by rw [beq_eq_false_iff_ne]; omega
        refine @join2 ?rs ?cc ?kk Q _ (fun ε τ' => ∃ cs' W' odd', fgt [6, 8, 9, 10, 11, 12, 13, 15, 21, 22] ε = [(6, .ptr 1 0 0), (8, .own k 0 n), (9, ch), (10, .ptr q 0 0), (11, .p (.bool odd')), (12, i64 c), (13, i64 r), (15, i64 (r + 1 : Nat)), (21, i64 n), (22, i64 c)] ∧ F9 k q n W' last τ' cs' ch hs ∧ Bst W0 n e c r W' last odd' ∧ W' r c ≠ 0) (fun rest => ?main) ?tail
        case main =>
          have hrn' : r < n := by omega
          have w3 : IntKind.i64.wrap ((r : Int) + 1) = ((r + 1 : Nat) : Int) := by rw [IntWalk.i64_in _ (by omega)]; omega
          have hkl := (List.getElem?_eq_some_iff.1 hk).1
          have hcl := hF.ro.len
          by_cases hpr : p = r
          · subst hpr
            simp only [SA, Int.reduceLE, Int.reduceLT, ↓reduceIte, reduceCtorEq, Nat.reduceLT, Nat.reduceEqDiff, Nat.reduceAdd, Nat.reduceMul, Nat.reduceLeDiff, Nat.reduceBEq, hpn, hpn', Int.natCast_nonneg, Int.toNat_natCast, hk, g1, g2, zF_get hin', hin', subPV_zi, kp1 k77, e0, e1, bne_self_eq_false, w3]
            refine rest _ _ ⟨cs, W, odd, ?_, hF, hb, hz⟩
            rfl
          · have e2 : ((p : Int) != (r : Int)) = true := by rw [bne_iff_ne]; omega
            obtain ⟨br, g3, g4⟩ := hF.rowOf hrn' (f := W r) (fun _ _ => rfl)
            have hs1 : setCells cs (p * 1) [.own br 0 n] = cs.set p (.own br 0 n) := setC1 (by omega)
            have hs2 : setCells (cs.set p (.own br 0 n)) (r * 1) [.own bp 0 n] = (cs.set p (.own br 0 n)).set r (.own bp 0 n) := setC1 (by rw [List.length_set]; omega)
            have e4 : ∀ x, (τ.set k x)[k]? = some x := fun x => get_self hkl
            have l1 : p * 1 + 1 ≤ cs.length := by omega
            have l2 : r * 1 + 1 ≤ cs.length := by omega
            simp only [SA, Int.reduceLE, Int.reduceLT, ↓reduceIte, reduceCtorEq, Nat.reduceLT, Nat.reduceEqDiff, Nat.reduceAdd, Nat.reduceMul, Nat.reduceLeDiff, Nat.reduceBEq, hpn, hpn', hrn', Int.natCast_nonneg, Int.toNat_natCast, hk, g1, g2, g3, zF_get hin', hin', subPV_zi, kp1 k77, e0, e1, e2, hs1, hs2, e4, l1, l2, List.set_set, w3]
            refine rest _ _ ⟨_, _, !odd, ?_, hF.swap hpn' hrn' g1 g3, hb.swap hin' hp1 hpn' hpr, ?_⟩
            · rfl
            simp only [swp]
            rw [if_neg (Ne.symm hpr)]
            simpa using hz
        case tail =>
          rintro ε τ' ⟨cs', W', odd', hε, hF', hb', hz'⟩
          clear ih2 g1 g2 hk hF hb k77 hpz
          have hrn' : r < n := by omega
          refine loop_rule (β := Nat × Store) (fun t => ([(6, .ptr 1 0 0), (8, .own k 0 n), (9, ch), (10, .ptr q 0 0), (11, .p (.bool odd')), (12, i64 c), (13, i64 r), (15, i64 t.1), (21, i64 n), (22, i64 c)], t.2)) (fun t => r < t.1 ∧ t.1 ≤ n ∧ F9 k q n (fun a b => if a < t.1 then elm W' r c last a b else W' a b) last t.2 cs' ch hs) (fun t => n - t.1) ((r + 1, τ') : Nat × Store) hε rfl ⟨Nat.lt_succ_self r, hrn', hF'.congr fun a b ha hbb => by
            by_cases h : a < r + 1
            · rw [if_pos h]; unfold elm; rw [if_neg (by omega)]
            · rw [if_neg h]⟩ ?_
          rintro ⟨i, σ1⟩ ⟨hi1, hi2, hF1⟩ ih3
          simp only [] at hi1 hi2 hF1 ih3 ⊢
          have hcl := hF1.ro.len
          by_cases hii : (i : Int) < n
          · have hii' : i < n := by omega
            have w3 : IntKind.i64.wrap ((i : Int) + 1) = ((i + 1 : Nat) : Int) := by rw [IntWalk.i64_in _ (by omega)]; omega
            have w4 : IntKind.i64.wrap ((n : Int) - 1) = (n : Int) - 1 := IntWalk.i64_in _ (by omega)
            obtain ⟨bi, g1, g2⟩ := hF1.rowOf hii' (f := W' i) (fun j _ => by rw [if_neg (Nat.lt_irrefl i)])
            have hk := hF1.hk
            simp only [SA, Int.reduceLE, Int.reduceLT, ↓reduceIte, reduceCtorEq, Nat.reduceLT, Nat.reduceEqDiff, Nat.reduceAdd, Nat.reduceMul, Nat.reduceLeDiff, Nat.reduceBEq, hii, hii', hcl, Int.natCast_nonneg, Int.toNat_natCast, hk, g1, w4]
            refine loop_rule (β := Nat × Store) (fun t => ([(6, .ptr 1 0 0), (8, .own k 0 n), (9, ch), (10, .ptr q 0 0), (11, .p (.bool odd')), (12, i64 c), (13, i64 r), (15, i64 i), (16, i64 ((t.1 : Int) - 1)), (21, i64 n), (22, i64 c)], t.2)) (fun t => c ≤ t.1 ∧ t.1 ≤ n ∧ F9 k q n (fun a b => if a < i ∨ (a = i ∧ t.1 ≤ b) then elm W' r c last a b else W' a b) last t.2 cs' ch hs) (fun t => t.1) ((n, σ1) : Nat × Store) rfl rfl ⟨hcn, Nat.le_refl n, hF1.congr fun a b ha hbb => by
              by_cases h : a < i
              · rw [if_pos h, if_pos (.inl h)]
              · rw [if_neg h, if_neg (by omega)]⟩ ?_
            clear hF1 g1 g2 hk
            rintro ⟨t, σ2⟩ ⟨ht1, ht2, hF2⟩ ih4
            simp only [] at ht1 ht2 hF2 ih4 ⊢
            by_cases htc : (t : Int) - 1 ≥ c
            · obtain ⟨t, rfl⟩ : ∃ t', t = t' + 1 := ⟨t - 1, by omega⟩
              have hE : (((t + 1 : Nat) : Int) - 1) = (t : Int) := by omega
              rw [hE] at htc ⊢
              have htn : t < n := by omega
              have hct : c ≤ t := by omega
              obtain ⟨br, g1, g2⟩ := hF2.rowOf hrn' (f := W' r) (fun j _ => by rw [if_pos (.inl hi1)]; unfold elm; rw [if_neg (by omega)])
              obtain ⟨bi, g3, g4⟩ := hF2.rowOf hii' (f := fun b => if t + 1 ≤ b then elm W' r c last i b else W' i b) (fun j _ => by simp)
              have e1 : (if t + 1 ≤ t then elm W' r c last i t else W' i t) = W' i t := by rw [if_neg (by omega)]
              have e2 : (if t + 1 ≤ c then elm W' r c last i c else W' i c) = W' i c := by rw [if_neg (by omega)]
              have hk := hF2.hk
              have hq := hF2.hq
              have z1 := hb'.sw r c hrn' hin'
              have z2 := hb'.sw i t hii' htn
              have z3 := hb'.sw i c hii' hin'
              have z4 := hb'.sw r t hrn' htn
              have k63a := (VBn.p63' (Nu.zi (z1.sz (by omega))) (Nu.zi (z2.sz (by omega)))).lift base_le
              have k63b := (VBn.p63' (Nu.zi (z3.sz (by omega))) (Nu.zi (z4.sz (by omega)))).lift base_le
              have k157 := (VBn.p157 (Nu.zi ((z1.mul z2).sz (by omega))) (Nu.zi ((z3.mul z4).sz (by omega)))).lift base_le
              obtain ⟨q1, r1, f1, f2⟩ := fl134 (Nu.zi ((sk_cross z1 z2 z3 z4).sz (by omega))) (Nu.zi (hb'.sl.sz (by omega))) hb'.ne
              have f3 := f2.lift base_le
              obtain rfl := f1.flq hb'.ne
              rw [zi_raw (x := W' r c * W' i t - W' i c * W' r t), zi_raw (x := last)] at f3
              have lk := (List.getElem?_eq_some_iff.1 hk).1
              have lq := (List.getElem?_eq_some_iff.1 hq).1
              have lr := (List.getElem?_eq_some_iff.1 g2).1
              have li := (List.getElem?_eq_some_iff.1 g4).1
              have a1 : ∀ l, (σ2 ++ l)[k]? = some (.kblk 1 cs') := fun l => by rw [get_left lk]; exact hk
              have a2 : ∀ l, (σ2 ++ l)[q]? = some (.kblk 2 (cz last)) := fun l => by rw [get_left lq]; exact hq
              have a3 : ∀ l, (σ2 ++ l)[br]? = some (.prow 2 (zF n (W' r))) := fun l => by rw [get_left lr]; exact g2
              have a4 : ∀ l, (σ2 ++ l)[bi]? = some (.prow 2 (zF n fun b => if t + 1 ≤ b then elm W' r c last i b else W' i b)) := fun l => by rw [get_left li]; exact g4
              have a5 : ∀ l x, (σ2 ++ l).set bi x = σ2.set bi x ++ l := fun l x => set_left li
              have b1 := zF_get (f := W' r) hin'
              have b2 := zF_get (f := W' r) htn
              have b3 := zF_get (f := fun b => if t + 1 ≤ b then elm W' r c last i b else W' i b) hin'
              have b4 := zF_get (f := fun b => if t + 1 ≤ b then elm W' r c last i b else W' i b) htn
              simp only [e2] at b3
              simp only [e1] at b4
              have w5 : IntKind.i64.wrap ((t : Int) - 1) = (t : Int) - 1 := IntWalk.i64_in _ (by omega)
              simp only [SA, setCells, Int.reduceLE, Int.reduceLT, ↓reduceIte, reduceCtorEq, Nat.reduceLT, Nat.reduceEqDiff, Nat.reduceAdd, Nat.reduceMul, Nat.reduceLeDiff, Nat.reduceBEq, htc, hii', hrn', htn, hin', Int.natCast_nonneg, Int.toNat_natCast, a1, g1, g3, a3, a4, b1, b2, b3, b4, subPV_zi, kp2 k63a, kp2 k63b, kp2 k157, push_sl, a2, cz, kp2 f3, updPV_zz, a5, zF_set, w5]
              rw [Nat.mul_one] at g3
              refine ih4 (t, σ2.set bi (.prow 2 (zF n fun b => if b = t then flq (W' r c * W' i t - W' i c * W' r t) last else if t + 1 ≤ b then elm W' r c last i b else W' i b)) ++ [.kblk 2 (cz (W' r c * W' i t - W' i c * W' r t))]) _ ⟨hct, by simp only []; omega, (hF2.row hii' g3 (fun j hj => ?_) fun a j ha hai hj => ?_).push⟩ (by simp only []; omega) ?_
              · show (if j = t then _ else _) = if i < i ∨ (i = i ∧ t ≤ j) then _ else _
                by_cases h : j = t
                · subst h
                  rw [if_pos rfl, if_pos (by omega)]
                  unfold elm El
                  rw [if_pos ⟨hi1, hct⟩]
                · rw [if_neg h]
                  by_cases h2 : t + 1 ≤ j
                  · rw [if_pos h2, if_pos (by omega)]
                  · rw [if_neg h2, if_neg (by omega)]
              · show (if a < i ∨ (a = i ∧ t + 1 ≤ j) then _ else _) = if a < i ∨ (a = i ∧ t ≤ j) then _ else _
                by_cases h : a < i
                · rw [if_pos (.inl h), if_pos (.inl h)]
                · rw [if_neg (by omega), if_neg (by omega)]
              · rfl
            · obtain rfl : t = c := by omega
              simp only [SA, Int.reduceLE, Int.reduceLT, ↓reduceIte, reduceCtorEq, Nat.reduceLT, Nat.reduceEqDiff, Nat.reduceAdd, Nat.reduceMul, Nat.reduceLeDiff, Nat.reduceBEq, htc, w3]
              refine ih3 (i + 1, σ2) _ ⟨by simp only []; omega, by simp only []; omega, hF2.congr fun a b ha hbb => ?_⟩ (by simp only []; omega) ?_
              · show (if a < i ∨ (a = i ∧ t ≤ b) then _ else _) = if a < i + 1 then _ else _
                by_cases h : a < i
                · rw [if_pos (.inl h), if_pos (by omega)]
                · by_cases h2 : a = i
                  · subst h2
                    rw [if_pos (Nat.lt_succ_self a)]
                    by_cases h3 : t ≤ b
                    · rw [if_pos (.inr ⟨rfl, h3⟩)]
                    · rw [if_neg (by omega)]
                      unfold elm
                      rw [if_neg (by omega)]
                  · rw [if_neg (by omega), if_neg (by omega)]
              · rfl
          · obtain rfl : i = n := by omega
            obtain ⟨br, g1, g2⟩ := hF1.rowOf hrn' (f := W' r) (fun j _ => by rw [if_pos hrn']; unfold elm; rw [if_neg (by omega)])
            have hk := hF1.hk
            have hq := hF1.hq
            have lq := (List.getElem?_eq_some_iff.1 hq).1
            have b1 := zF_get (f := W' r) hin'
            have hgl := hF1.gh.set hq (x := .kblk 2 (cz (W' r c)))
            have hc8 : (hs.length + [PV.int .i64 (c : Int)].length) * 8 ≤ 140737488355328 := by rw [hl]; simp; omega
            have hR := fun {rp rs base d l dr ks ε Q s x} => r_app_l (rp := rp) (rs := rs) (base := base) (d := d) (l := l) (dr := dr) (ks := ks) (ε := ε) (Q := Q) (s := s) (x := x) (show (σ1.set q (Blk.kblk 2 (cz (W' r c)))).length = σ1.length from List.length_set ..) hgl hc8
            simp only [cz] at hR
            simp only [SA, setCells, Int.reduceLE, Int.reduceLT, ↓reduceIte, reduceCtorEq, Nat.reduceLT, Nat.reduceEqDiff, Nat.reduceAdd, Nat.reduceMul, Nat.reduceLeDiff, Nat.reduceBEq, hii, hcl, hrn', hin', Int.natCast_nonneg, Int.toNat_natCast, hk, g1, g2, b1, subPV_zi, hq, cz, hR, hl, w1]
            refine ih ⟨c + 1, r + 1, elm W' r c last, W' r c, odd', nd (σ1.set q (.kblk 2 (cz (W' r c)))) ch ++ [.prow 1 [.int .i64 c], .prow 1 (hs ++ [.int .i64 c])], cs', .own (σ1.length + 1) 0 (r + 1), hs ++ [.int .i64 c]⟩ _ ⟨by simp only []; omega, ((hF1.congr fun a b ha hbb => by rw [if_pos ha]).setl hq0 hq1).app (by rw [List.length_set]) (by simp [hl]), by simp [hl], hb'.step hin' hz'⟩ (by simp only []; omega) ?_
            rfl
    · obtain rfl : p = n := by omega
      have hcl := hF.ro.len
      simp only [SA, Int.reduceLE, Int.reduceLT, ↓reduceIte, reduceCtorEq, Nat.reduceLT, Nat.reduceEqDiff, Nat.reduceAdd, Nat.reduceMul, Nat.reduceLeDiff, Nat.reduceBEq, hpn, beq_self_eq_true, w1]
      refine ih ⟨c + 1, r, W, last, odd, τ, cs, ch, hs⟩ _ ⟨by simp only []; omega, hF, hl, hb.skip hin' fun i h1 h2 => hpz i h1 h2⟩ (by simp only []; omega) ?_
      rfl
  · obtain rfl : c = n := by omega
    obtain ⟨a0, a1, a2, a3, a4, a5⟩ := hF
    have l1 := (List.getElem?_eq_some_iff.1 a1).1
    have e1 : ∀ x, (τ.set 1 x)[1]? = some x := fun x => get_self l1
    simp only [SA, setCells, Int.reduceLE, Int.reduceLT, ↓reduceIte, reduceCtorEq, Nat.reduceLT, Nat.reduceEqDiff, Nat.reduceAdd, Nat.reduceMul, Nat.reduceLeDiff, Nat.reduceBEq, hin, a2, cz, a1, e1]
    exact hQ _ k ch last odd r hs W (by rw [get_ne (by decide)]; exact a0) (a5.set a1) hl hb.rc hb
theorem p193 {n e : Nat} {W : Nat → Nat → Int} (hn : n ≤ 12) (he1 : 1 ≤ e) (he : e ≤ 1000) (hW : ∀ i j, i < n → j < n → Sk e (W i j)) : Pu rp 95 [.sl (zM n n W)] (.p (zi (dI n W))) := by
  refine pu_of rp193 ?_
  simp only [f95, args0, SA, setCells, Int.reduceLE, Int.reduceLT, ↓reduceIte, reduceCtorEq, Nat.reduceLT, Nat.reduceEqDiff, Nat.reduceAdd, Nat.reduceMul, Nat.reduceLeDiff, Nat.reduceBEq, zM_len]
  refine kc_keep' (n209 hn he1 he hW fun ρ k ch last odd r hs W' h0 hg hl hr hb => ?_)
  have hlen : lenV ch = some r := by rw [hg.len, hl]
  obtain ⟨d1, d2⟩ := hb.done
  have hsz := hb.sl.sz (Nat.le_trans (Ex2_le he hn) (by decide))
  have l0 := (List.getElem?_eq_some_iff.1 h0).1
  have e0 : ∀ l, (ρ ++ l)[0]? = some (.kblk 2 [.p (.bool false), .nils]) := fun l => by rw [get_left l0]; exact h0
  have e1 : ∀ l x, (ρ ++ l).set 0 x = ρ.set 0 x ++ l := fun l x => set_left l0
  have e2 : ∀ l x, (ρ.set 0 x ++ l)[0]? = some x := fun l x => by rw [get_left (by rw [List.length_set]; exact l0), get_self l0]
  by_cases hrn : (r : Int) < n
  · have hr' : r ≠ n := by omega
    rw [d2 hr']
    rw [zi_zero]
    simp only [SA, setCells, Int.reduceLE, Int.reduceLT, ↓reduceIte, reduceCtorEq, Nat.reduceLT, Nat.reduceEqDiff, Nat.reduceAdd, Nat.reduceMul, Nat.reduceLeDiff, Nat.reduceBEq, zi_raw (x := last), hlen, hrn, e0, e1, e2]
    rfl
  · obtain rfl : r = n := by omega
    have hd := d1 rfl
    cases odd
    · have k94 := p94 (Nu.zi hsz)
      rw [zi_raw (x := last)] at k94
      simp only [Bool.false_eq_true, if_false] at hd
      rw [← hd]
      have k94' : Pu rp 130 [.agg [.bool (decide (last < 0) && decide (last.natAbs ≠ 0)), .sl (lm (dgl last.natAbs))]] (.p (zi last)) := p94 (Nu.zi hsz)
      simp only [SA, setCells, Int.reduceLE, Int.reduceLT, ↓reduceIte, reduceCtorEq, Nat.reduceLT, Nat.reduceEqDiff, Nat.reduceAdd, Nat.reduceMul, Nat.reduceLeDiff, Nat.reduceBEq, zi_raw (x := last), hlen, hrn, e0, e1, e2, kz1 k94']
      rfl
    · simp only [if_true] at hd
      rw [← hd]
      have k146 : Pu rp 129 [.agg [.bool (decide (last < 0) && decide (last.natAbs ≠ 0)), .sl (lm (dgl last.natAbs))]] (.p (zi (-last))) := (VBn.p146 (Nu.zi hsz)).lift base_le
      simp only [SA, setCells, Int.reduceLE, Int.reduceLT, ↓reduceIte, reduceCtorEq, Nat.reduceLT, Nat.reduceEqDiff, Nat.reduceAdd, Nat.reduceMul, Nat.reduceLeDiff, Nat.reduceBEq, zi_raw (x := last), hlen, hrn, e0, e1, e2, kz1 k146]
      rfl
end Go.Proofs.YtdieenbfdeaffaaGreat.VDd

namespace Go.Proofs.YtdieenbfdeaffaaGreat.VDd
open Go Vpi
open VBn hiding rp tab rp_ok all_ok mixed sim Big
set_option maxRecDepth 100000
set_option linter.unusedSimpArgs false
set_option linter.unusedVariables false
open Gs (Pv dI swp sk cI)
theorem rp208 : rp 127 = some f127 := rfl
theorem rp192 : rp 94 = some f94 := rfl
theorem rp194 : rp 97 = some f97 := rfl
theorem zM_mr {m n : Nat} {W : Nat → Nat → Int} (hn : n ≤ 2000000) (h : ∀ i j, i < m → j < n → Sz (W i j)) : MR (zM m n W) (fun _ => n) W := by
  intro i hi
  rw [zM_len] at hi
  refine ⟨_, zM_get hi, zF_len, hn, fun j hj => ?_⟩
  rw [zF_len] at hj
  exact ⟨_, zF_get hj, Nu.zi (h i j hi hj)⟩
theorem z93 {m n : Nat} {W : Nat → Nat → Int} (hm0 : 0 < m) (hm : m ≤ 2000000) (hn : n ≤ 2000000) (h : ∀ i j, i < m → j < n → Sz (W i j)) : Pu rp 89 [.sl (zM m n W)] (.tup [.p (.int .i64 m), .p (.int .i64 n), .p (.int .i64 0)]) := by
  have k := ((VBn.p93 (zM_mr hn h) (by rw [zM_len]; omega) (by rw [zM_len]; exact hm)).2 (fun ⟨i, h1, h2⟩ => h2 rfl)).lift base_le
  rw [zM_len] at k
  exact k
theorem p208 {m n : Nat} {W : Nat → Nat → Int} (hm0 : 0 < m) (hm : m ≤ 64) (hn : n ≤ 64) (h : ∀ i j, i < m → j < n → Sz (W i j)) : Pu rp 127 [.sl (zM m n W)] (.tup [.p (.int .i64 m), .p (.int .i64 n), .p (.int .i64 0)]) := by
  have k93 := z93 hm0 (by omega) (by omega) h
  refine pu_of rp208 ?_
  have e0 : ((0 : Int) != 0) = false := rfl
  have e1 : ¬ (m : Int) > 64 := by omega
  have e2 : ¬ (n : Int) > 64 := by omega
  simp only [f127, args0, SA, setCells, Int.reduceLE, Int.reduceLT, ↓reduceIte, reduceCtorEq, Nat.reduceLT, Nat.reduceEqDiff, Nat.reduceAdd, Nat.reduceMul, Nat.reduceLeDiff, Nat.reduceBEq, kp1 k93, e0, e1, e2]
  exact back_t3 back1_p back1_p back1_p
theorem p192 {n : Nat} {W : Nat → Nat → Int} (hn0 : 0 < n) (hn : n ≤ 64) (h : ∀ i j, i < n → j < n → Sz (W i j)) : Pu rp 94 [.sl (zM n n W)] (.tup [.p (.int .i64 n), .p (.int .i64 0)]) := by
  have k208 := p208 hn0 hn hn h
  refine pu_of rp192 ?_
  simp only [f94, args0, SA, setCells, Int.reduceLE, Int.reduceLT, ↓reduceIte, reduceCtorEq, Nat.reduceLT, Nat.reduceEqDiff, Nat.reduceAdd, Nat.reduceMul, Nat.reduceLeDiff, Nat.reduceBEq, kp1 k208, bne_self_eq_false, beq_self_eq_true]
  exact back_t2 back1_p back1_p
theorem row_less {N k : Nat} {f : Nat → Int} (hk : k < N + 1) : (zF (N + 1) f).take k ++ (zF (N + 1) f).drop (k + 1) = zF N fun q => f (sk k q) := by
  apply List.ext_getElem?
  intro j
  rcases Nat.lt_or_ge j k with h | h
  · rw [List.getElem?_append_left (by rw [List.length_take, zF_len]; omega), List.getElem?_take, if_pos h, zF_get (by omega), zF_get (by omega)]
    unfold sk
    rw [if_pos h]
  · rw [List.getElem?_append_right (by rw [List.length_take, zF_len]; omega), List.length_take, zF_len, Nat.min_eq_left (by omega), List.getElem?_drop, show k + 1 + (j - k) = j + 1 by omega]
    by_cases hj : j < N
    · rw [zF_get (by omega), zF_get hj]
      unfold sk
      rw [if_neg (by omega)]
    · rw [List.getElem?_eq_none (by rw [zF_len]; omega), List.getElem?_eq_none (by rw [zF_len]; omega)]
section
variable {rp : RProg} {rs : List RRes} {d : Option Nat} {l : List LOp} {xp : List (Nat × Nat)} {ops : List LOp} {ks : List KI} {e : Env} {ρ : Store} {Q : CV → Store → Prop} {c : CV} {sz : Nat} {es xs : List PV}
theorem r_app_h {a a' : Blk} {s x : Opd} {bytes : Nat} {dr : Dr} (h : GL ρ sz c es) (hc : (es.length + xs.length) * bytes ≤ 140737488355328) (hs : vl e s = c) (hx : vl e x = .own (ρ.length + 2) 0 xs.length) (hz : allSz sz xs = true) :
    ExR rp rs ρ.length (⟨d, none, some 3, .append sz bytes s x⟩ :: l) dr ks e (ρ ++ [a, a', .prow sz xs, .hole]) Q = ExR rp rs ρ.length l dr ks (sto d (.own (ρ.length + 3) 0 (es.length + xs.length)) e) (nd ρ c ++ [a, a', .prow sz xs, .prow sz (es ++ xs)]) Q := by
  rw [r_append]
  have h1 : content (ρ ++ [a, a', .prow sz xs, .hole]) (vl e s) = some es := by rw [hs]; exact h.left.content
  have h2 : content (ρ ++ [a, a', .prow sz xs, .hole]) (vl e x) = some xs := by rw [hx]; exact cont_own (s := sz) (by rw [get_app]; rfl) rfl
  have hlt := h.lt.2
  simp only [ev, h1, h2, hc, hz, and_self, if_true]
  rcases h with ⟨rfl, rfl⟩ | ⟨b, rfl, hb⟩
  · rw [hs]
    simp only [push_sl, get_app, List.getElem?_cons_succ, List.getElem?_cons_zero, set_app, List.set_cons_succ, List.set_cons_zero, Option.map_some, ke_some]
    rfl
  · rw [hs]
    have hbl := hlt b 0 _ rfl
    have h3 : (ρ ++ [a, a', .prow sz xs, .hole])[b]? = some (.prow sz es) := by rw [get_left hbl]; exact hb
    have h4 : (ρ ++ [a, a', Blk.prow sz xs, .hole]).set b .dead = ρ.set b .dead ++ [a, a', .prow sz xs, .hole] := set_left hbl
    have h5 : (ρ.set b .dead ++ [a, a', Blk.prow sz xs, .hole])[ρ.length + 3]? = some .hole := by rw [show ρ.length = (ρ.set b .dead).length by rw [List.length_set], get_app]; rfl
    have h6 : ∀ x : Blk, (ρ.set b .dead ++ [a, a', Blk.prow sz xs, .hole]).set (ρ.length + 3) x = ρ.set b .dead ++ [a, a', .prow sz xs, x] := fun x => by rw [show ρ.length = (ρ.set b .dead).length by rw [List.length_set], set_app]; rfl
    simp only [h3, if_true, h4, push_sl, h5, h6, Option.map_some, ke_some]
    rfl
end
theorem dI_sk {e n : Nat} {W : Nat → Nat → Int} (hn : n ≤ 12) (h : ∀ i j, i < n → j < n → Sk e (W i j)) : Sk ((e + 1) * n + 1) (dI n W) := by
  obtain ⟨x, hx, hb⟩ := Gs.In.det (n := n) (A := Gs.rg W) (M := LB ^ e) fun p q hp hq => ⟨_, rfl, Nat.le_of_lt (h p q hp hq)⟩
  rw [Gs.dI_of hx]
  have h2 := VBn.bd_le (M := LB ^ e) hn
  unfold Sk
  rw [Nat.mul_comm LB, ← Nat.pow_succ, ← Nat.pow_mul] at h2
  refine Nat.lt_of_le_of_lt (Nat.le_trans hb h2) ?_
  rw [Nat.pow_succ]
  have : 0 < LB ^ ((e + 1) * n) := Nat.pow_pos LB_pos
  have h3 : LB ^ ((e + 1) * n) * 1 < LB ^ ((e + 1) * n) * LB := Nat.mul_lt_mul_of_pos_left (by decide) this
  rwa [Nat.mul_one] at h3
def cnt (i r : Nat) : Nat := if r ≤ i then r else r - 1
theorem p194 {N e i k : Nat} {W : Nat → Nat → Int} (hN : N + 1 ≤ 12) (he1 : 1 ≤ e) (he : e ≤ 1000) (hi : i < N + 1) (hk : k < N + 1) (hW : ∀ a b, a < N + 1 → b < N + 1 → Sk e (W a b)) :
    Pu rp 97 [.sl (zM (N + 1) (N + 1) W), .int .i64 i, .int .i64 k] (.p (zi (cI N W i k))) := by
  refine pu_of rp194 ?_
  simp only [f97, args0, SA, setCells, Int.reduceLE, Int.reduceLT, ↓reduceIte, reduceCtorEq, Nat.reduceLT, Nat.reduceEqDiff, Nat.reduceAdd, Nat.reduceMul, Nat.reduceLeDiff, Nat.reduceBEq, zM_len]
  refine loop_rule (β := Nat × Store × CV) (fun t => ([(0, .p (.sl (zM (N + 1) (N + 1) W))), (1, i64 i), (2, i64 k), (6, .ptr 0 0 0), (7, t.2.2), (11, i64 (N + 1 : Nat)), (12, i64 t.1)], t.2.1))
    (fun t => t.1 ≤ N + 1 ∧ t.2.1[0]? = some (.kblk 2 [.p (.bool false), .nils]) ∧ GL t.2.1 1 t.2.2 (zM (cnt i t.1) N fun p q => W (sk i p) (sk k q))) (fun t => N + 1 - t.1) ((0, [.kblk 2 [.p (.bool false), .nils]], .nils) : Nat × Store × CV) rfl rfl ⟨Nat.zero_le _, rfl, by unfold cnt; rw [if_pos (Nat.zero_le _)]; exact .nil⟩ ?_
  rintro ⟨r, τ, c⟩ ⟨hr, h0, hg⟩ ih
  simp only [] at hr h0 hg ih ⊢
  by_cases hin : (r : Int) < (N + 1 : Nat)
  · have hin' : r < N + 1 := by omega
    have w1 : IntKind.i64.wrap ((r : Int) + 1) = ((r + 1 : Nat) : Int) := by rw [IntWalk.i64_in _ (by omega)]; omega
    by_cases hri : r = i
    · subst hri
      simp only [SA, setCells, Int.reduceLE, Int.reduceLT, ↓reduceIte, reduceCtorEq, Nat.reduceLT, Nat.reduceEqDiff, Nat.reduceAdd, Nat.reduceMul, Nat.reduceLeDiff, Nat.reduceBEq, hin, bne_self_eq_false, w1]
      refine ih (r + 1, τ, c) _ ⟨by simp only []; omega, h0, ?_⟩ (by simp only []; omega) rfl
      have e : cnt r (r + 1) = cnt r r := by unfold cnt; rw [if_neg (by omega), if_pos (Nat.le_refl _)]; rfl
      simp only [e]
      exact hg
    · have e1 : ((r : Int) != (i : Int)) = true := by rw [bne_iff_ne]; omega
      have w2 : IntKind.i64.wrap ((k : Int) + 1) = ((k + 1 : Nat) : Int) := by rw [IntWalk.i64_in _ (by omega)]; omega
      have hk1 : k ≤ N + 1 := by omega
      have hk2 : k + 1 ≤ N + 1 := by omega
      have hc1 : cnt i (r + 1) = cnt i r + 1 := by unfold cnt; split <;> split <;> omega
      have hc2 : sk i (cnt i r) = r := by unfold cnt sk; split <;> split <;> omega
      have hrow := row_less (f := W r) hk
      have l0 := (List.getElem?_eq_some_iff.1 h0).1
      have sl1 : ∀ σ : Store, sliceV σ 2 (.p (.sl (zF (N + 1) (W r)))) 0 k = some (.p (.sl ((zF (N + 1) (W r)).take k))) := fun σ => by
        unfold sliceV
        rw [if_pos (Nat.zero_le _)]
        simp only []
        rw [if_pos ⟨by rw [zF_len]; omega, .inl trivial⟩]
        rfl
      have sl2 : ∀ σ : Store, sliceV σ 2 (.p (.sl (zF (N + 1) (W r)))) (k + 1) (N + 1) = some (.p (.sl ((zF (N + 1) (W r)).drop (k + 1)))) := fun σ => by
        unfold sliceV
        rw [if_pos hk2]
        simp only []
        rw [if_pos ⟨by rw [zF_len]; exact Nat.le_refl _, .inr zF_sz⟩, List.take_of_length_le (by rw [List.length_drop, zF_len]; exact Nat.le_refl _)]
      have hA : ((zF (N + 1) (W r)).take k).length = k := by rw [List.length_take, zF_len]; omega
      have hB : ((zF (N + 1) (W r)).drop (k + 1)).length = N - k := by rw [List.length_drop, zF_len]; omega
      have hza : allSz 2 ((zF (N + 1) (W r)).take k) = true := List.all_eq_true.2 fun x hx => List.all_eq_true.1 (zF_sz (n := N + 1) (f := W r)) x (List.mem_of_mem_take hx)
      have hzb : allSz 2 ((zF (N + 1) (W r)).drop (k + 1)) = true := List.all_eq_true.2 fun x hx => List.all_eq_true.1 (zF_sz (n := N + 1) (f := W r)) x (List.mem_of_mem_drop hx)
      generalize (zF (N + 1) (W r)).take k = A at *
      generalize (zF (N + 1) (W r)).drop (k + 1) = B at *
      have c1 : ∀ a1 a2 a3, content (τ ++ [.prow 2 A, a1, a2, a3]) (.own τ.length 0 A.length) = some A := fun _ _ _ => cont_own (by rw [get_app0]; rfl) rfl
      have q1 : A.length * 32 ≤ 140737488355328 := by omega
      have q2 : (A.length + B.length) * 32 ≤ 140737488355328 := by omega
      have hf : frzs (τ ++ [.dead, .prow 2 (A ++ B), .hole, .hole]) [.own (τ.length + 1) 0 (A.length + B.length)] = some [.sl (A ++ B)] := by
        simp only [frzs, frz, frz1_own (show (τ ++ [Blk.dead, .prow 2 (A ++ B), .hole, .hole])[τ.length + 1]? = some (.prow 2 (A ++ B)) by rw [get_app]; rfl) (show A.length + B.length = (A ++ B).length by rw [List.length_append]), Option.map_some]
      have hkl : kills (τ ++ [.dead, .prow 2 (A ++ B), .hole, .hole]) [.own (τ.length + 1) 0 (A.length + B.length)] = τ ++ [.dead, .dead, .hole, .hole] := by
        simp only [kills, List.foldl_cons, List.foldl_nil, kill, kill1, set_app]; rfl
      have hc24 : ((zM (cnt i r) N fun p q => W (sk i p) (sk k q)).length + [PV.sl (A ++ B)].length) * 24 ≤ 140737488355328 := by
        rw [zM_len]; unfold cnt; split <;> simp <;> omega
      have hR := fun {rp rs d l dr ks e Q a a' s x} => r_app_h (rp := rp) (rs := rs) (d := d) (l := l) (dr := dr) (ks := ks) (e := e) (Q := Q) (a := a) (a' := a') (s := s) (x := x) hg hc24
      simp only [S1, S2, S3, S4, S5, r_idx, r_mks, S6, setCells, Int.reduceLE, Int.reduceLT, ↓reduceIte, reduceCtorEq, Nat.reduceLT, Nat.reduceEqDiff, Nat.reduceAdd, Nat.reduceMul, Nat.reduceLeDiff, Nat.reduceBEq, hin, zM_get hin', zF_len, Int.natCast_nonneg, Int.toNat_natCast, e1, w1, w2, sl1, sl2, push_sl, r_append, c1, q1, q2, hza, hzb, hf, hkl, hR]
      rw [r_nilx]
      refine ⟨by simp [apartAt, apartB, foot, addrs, ownsOf, own0, vl, gt, List.elem], ?_⟩
      simp only [SA, setCells, Int.reduceLE, Int.reduceLT, ↓reduceIte, reduceCtorEq, Nat.reduceLT, Nat.reduceEqDiff, Nat.reduceAdd, Nat.reduceMul, Nat.reduceLeDiff, Nat.reduceBEq, w1]
      refine ih (r + 1, nd τ c ++ [.dead, .dead, .prow 1 [.sl (A ++ B)], .prow 1 ((zM (cnt i r) N fun p q => W (sk i p) (sk k q)) ++ [.sl (A ++ B)])], .own (τ.length + 3) 0 ((zM (cnt i r) N fun p q => W (sk i p) (sk k q)).length + 1)) _ ⟨by simp only []; omega, GL.kb hg h0, ?_⟩ (by simp only []; omega) ?_
      · refine .own ?_ ?_
        · simp only []
          rw [show τ.length + 3 = (nd τ c).length + 3 by rw [nd_len], get_app, hrow, hc1, ← zM_suc]
          simp only [hc2]
          rfl
        · rw [zM_len, zM_len, hc1]
      · rfl
  · obtain rfl : r = N + 1 := by omega
    have hcn : cnt i (N + 1) = N := by unfold cnt; rw [if_neg (by omega)]; rfl
    rw [hcn] at hg
    have k193 := p193 (n := N) (W := fun p q => W (sk i p) (sk k q)) (by omega) he1 he fun a b ha hb => hW _ _ (Gs.sk_lt hi ha) (Gs.sk_lt hk hb)
    have hsz : Sz (dI N fun p q => W (sk i p) (sk k q)) := (dI_sk (by omega) fun a b ha hb => hW _ _ (Gs.sk_lt hi ha) (Gs.sk_lt hk hb)).sz (by
      have : (e + 1) * N ≤ 1001 * 12 := Nat.mul_le_mul (by omega) (by omega)
      omega)
    have hf : frzs τ [c] = some [.sl (zM N N fun p q => W (sk i p) (sk k q))] := by simp only [frzs, hg.frz, Option.map_some]
    have hkl : kills τ [c] = nd τ c := hg.kill
    have e0 : ∀ l, (nd τ c ++ l)[0]? = some (.kblk 2 [.p (.bool false), .nils]) := fun l => GL.kb hg h0
    have l0 := (List.getElem?_eq_some_iff.1 h0).1
    have e1 : ∀ l x, (nd τ c ++ l).set 0 x = (nd τ c).set 0 x ++ l := fun l x => set_left (by rw [nd_len]; exact l0)
    have e2 : ∀ l x, ((nd τ c).set 0 x ++ l)[0]? = some x := fun l x => by rw [get_left (by rw [List.length_set, nd_len]; exact l0), get_self (by rw [nd_len]; exact l0)]
    have w2 : IntKind.i64.wrap ((i : Int) + (k : Int)) = ((i + k : Nat) : Int) := by rw [IntWalk.i64_in _ (by omega)]; omega
    have w3 : ((i + k : Nat) : Int).tmod 2 = (((i + k) % 2 : Nat) : Int) := rfl
    have b2 := binV_rem (k := .i64) (a := ((i + k : Nat) : Int)) (b := 2) (by decide)
    rw [w3] at b2
    unfold cI
    by_cases hp : (i + k) % 2 = 1
    · have e4 : ((((i + k) % 2 : Nat) : Int) == 1) = true := by rw [hp]; rfl
      have k146 : Pu rp 129 [.agg [.bool (decide ((dI N fun p q => W (sk i p) (sk k q)) < 0) && decide ((dI N fun p q => W (sk i p) (sk k q)).natAbs ≠ 0)), .sl (lm (dgl (dI N fun p q => W (sk i p) (sk k q)).natAbs))]] (.p (zi (-(dI N fun p q => W (sk i p) (sk k q))))) := (VBn.p146 (Nu.zi hsz)).lift base_le
      rw [if_pos hp, Int.neg_one_mul]
      generalize dI N (fun p q => W (sk i p) (sk k q)) = D at *
      simp only [S1, S2, S3, S4, S5, r_idx, r_mks, S6, setCells, Int.reduceLE, Int.reduceLT, ↓reduceIte, reduceCtorEq, Nat.reduceLT, Nat.reduceEqDiff, Nat.reduceAdd, Nat.reduceMul, Nat.reduceLeDiff, Nat.reduceBEq, hin, kc_fz k193 hf, hkl, zi_raw (x := D), e0, e1, e2, w2, b2, e4, kp1 k146]
      rfl
    · have e4 : ((((i + k) % 2 : Nat) : Int) == 1) = false := by rw [beq_eq_false_iff_ne]; omega
      rw [if_neg hp, Int.one_mul]
      generalize dI N (fun p q => W (sk i p) (sk k q)) = D at *
      simp only [S1, S2, S3, S4, S5, r_idx, r_mks, S6, setCells, Int.reduceLE, Int.reduceLT, ↓reduceIte, reduceCtorEq, Nat.reduceLT, Nat.reduceEqDiff, Nat.reduceAdd, Nat.reduceMul, Nat.reduceLeDiff, Nat.reduceBEq, hin, kc_fz k193 hf, hkl, zi_raw (x := D), e0, e1, e2, w2, b2, e4]
      rfl
end Go.Proofs.YtdieenbfdeaffaaGreat.VDd

namespace Go.Proofs.YtdieenbfdeaffaaGreat.VDd
open Go Vpi
open VBn hiding rp tab rp_ok all_ok mixed sim Big
set_option maxRecDepth 100000
set_option linter.unusedSimpArgs false
set_option linter.unusedVariables false
open Gs (Pv dI swp sk cI)
theorem rp195 : rp 98 = some f98 := rfl
theorem rp166 : rp 55 = some f55 := rfl
theorem rp167 : rp 56 = some f56 := rfl
def gF (g : Nat) (f : Nat → Int) : Nat → Nat
  | 0 => g
  | n + 1 => Nat.gcd (gF g f n) (f n).natAbs
theorem gF_dvd {g : Nat} {f : Nat → Int} : ∀ {n : Nat}, gF g f n ∣ g ∧ ∀ j, j < n → gF g f n ∣ (f j).natAbs
  | 0 => ⟨Nat.dvd_refl g, fun j h => by omega⟩
  | n + 1 => by
    obtain ⟨h1, h2⟩ := gF_dvd (g := g) (f := f) (n := n)
    refine ⟨Nat.dvd_trans (Nat.gcd_dvd_left _ _) h1, fun j hj => ?_⟩
    rcases Nat.lt_or_ge j n with h | h
    · exact Nat.dvd_trans (Nat.gcd_dvd_left _ _) (h2 j h)
    · obtain rfl : j = n := by omega
      exact Nat.gcd_dvd_right _ _
theorem gF_sz {g : Nat} {f : Nat → Int} (hg : Sz (g : Int)) : ∀ {n : Nat}, (∀ j, j < n → Sz (f j)) → Sz ((gF g f n : Nat) : Int)
  | 0, _ => hg
  | n + 1, h => gcd_lt (gF_sz hg fun j hj => h j (by omega)) (h n (by omega))
section
variable {rp : RProg} {rs : List RRes} {base : Nat} {d : Option Nat} {l : List LOp} {dr : Dr} {ks : List KI} {e : Env} {ρ : Store} {Q : CV → Store → Prop} {c : CV} {sz : Nat} {es xs : List PV}
theorem r_app_3 {a a' a'' : Blk} {s x : Opd} {bytes : Nat} (h : GL ρ sz c es) (hc : (es.length + xs.length) * bytes ≤ 140737488355328) (hs : vl e s = c) (hx : vl e x = .own (ρ.length + 3) 0 xs.length) (hz : allSz sz xs = true) :
    ExR rp rs base (⟨d, none, none, .append sz bytes s x⟩ :: l) dr ks e (ρ ++ [a, a', a'', .prow sz xs]) Q = ExR rp rs base l dr ks (sto d (.own (ρ.length + 4) 0 (es.length + xs.length)) e) (nd ρ c ++ [a, a', a'', .prow sz xs, .prow sz (es ++ xs)]) Q := by
  have hl : (ρ ++ [a, a', a'']).length = ρ.length + 3 := by simp
  have := r_app (rp := rp) (rs := rs) (base := base) (d := d) (l := l) (dr := dr) (ks := ks) (e := e) (Q := Q) (s := s) (x := x) (h.left (τ := [a, a', a''])) hc hs (by rw [hl]; exact hx) hz
  rw [hl, nd_left h, List.append_assoc, List.append_assoc] at this
  exact this
end
theorem p195 {L : Nat} {f : Nat → Int} {d : Int} (hL : L ≤ 2000000) (hf : ∀ j, j < L → Sz (f j)) (hd0 : 0 < d) (hd : Sz d) :
    Pu rp 98 [.sl (zF L f), zi d] (.tup [.p (.sl (zF L fun j => f j / (gF d.natAbs f L : Nat))), .p (zi (d / (gF d.natAbs f L : Nat)))]) := by
  refine pu_of rp195 ?_
  have hN : ((d.natAbs : Nat) : Int) = d := by omega
  have hdn : Nu (.agg [.bool (decide (d < 0) && decide (d.natAbs ≠ 0)), .sl (lm (dgl d.natAbs))]) d := Nu.zi hd
  have k204 := p204 hdn
  rw [hN] at k204
  have k77 := (VBn.p77 hdn).lift base_le
  rw [Int.sign_eq_one_of_pos hd0] at k77
  have hG0 := gF_sz (f := f) (g := d.natAbs) (by rw [hN]; exact hd) hf
  obtain ⟨hv1, hv2⟩ := gF_dvd (g := d.natAbs) (f := f) (n := L)
  have hGp : 0 < gF d.natAbs f L := Nat.pos_of_dvd_of_pos hv1 (by omega)
  simp only [f98, args0, SA, setCells, Int.reduceLE, Int.reduceLT, ↓reduceIte, reduceCtorEq, Nat.reduceLT, Nat.reduceEqDiff, Nat.reduceAdd, Nat.reduceMul, Nat.reduceLeDiff, Nat.reduceBEq, zi_raw (x := d), kp1 k204, zF_len]
  refine loop_rule (β := Nat × Store) (fun t => ([(0, .p (.sl (zF L f))), (3, .ptr 0 0 0), (5, .ptr 1 0 0), (6, .ptr 2 0 0), (20, .p (.sl (zF L f))), (21, i64 L), (22, i64 t.1)], t.2))
    (fun t => t.1 ≤ L ∧ t.2[0]? = some (.kblk 2 (cz d)) ∧ t.2[1]? = some (.kblk 2 [.p (.bool false), .nils]) ∧ t.2[2]? = some (.kblk 2 (cz (gF d.natAbs f t.1 : Nat)))) (fun t => L - t.1)
    ((0, [.kblk 2 (cz d), .kblk 2 [.p (.bool false), .nils], .kblk 2 (cz d)]) : Nat × Store) rfl rfl ⟨Nat.zero_le _, rfl, rfl, by show _ = some (Blk.kblk 2 (cz ((d.natAbs : Nat) : Int))); rw [hN]; rfl⟩ ?_
  · rintro ⟨j, τ⟩ ⟨hj, h0, h1, h2⟩ ih
    simp only [] at hj h0 h1 h2 ih ⊢
    by_cases hjn : (j : Int) < L
    · have hj' : j < L := by omega
      have w1 : IntKind.i64.wrap ((j : Int) + 1) = ((j + 1 : Nat) : Int) := by rw [IntWalk.i64_in _ (by omega)]; omega
      have k96 := p96 (Nu.zi (gF_sz (f := f) (g := d.natAbs) (by rw [hN]; exact hd) (n := j) fun j' h => hf j' (by omega))) (Nu.zi (hf j hj'))
      rw [Int.natAbs_natCast, zi_raw (x := ((gF d.natAbs f j : Nat) : Int)), zi_raw (x := f j)] at k96
      have l2 := (List.getElem?_eq_some_iff.1 h2).1
      have l1 := (List.getElem?_eq_some_iff.1 h1).1
      have l0 := (List.getElem?_eq_some_iff.1 h0).1
      have e2 : ∀ l, (τ ++ l)[2]? = some (.kblk 2 (cz (gF d.natAbs f j : Nat))) := fun l => by rw [get_left l2]; exact h2
      have e3 : ∀ l x, (τ ++ l).set 2 x = τ.set 2 x ++ l := fun l x => set_left l2
      simp only [SA, setCells, Int.reduceLE, Int.reduceLT, ↓reduceIte, reduceCtorEq, Nat.reduceLT, Nat.reduceEqDiff, Nat.reduceAdd, Nat.reduceMul, Nat.reduceLeDiff, Nat.reduceBEq, hjn, zF_get hj', subPV_zi, Int.natCast_nonneg, Int.toNat_natCast, zi_raw (x := f j), e2, cz, kp2 k96, e3, w1]
      refine ih (j + 1, τ.set 2 (.kblk 2 (cz (gF d.natAbs f (j + 1) : Nat))) ++ [.kblk 2 (cz (f j))]) _ ⟨by simp only []; omega, ?_, ?_, ?_⟩ (by simp only []; omega) ?_
      · simp only []; rw [get_left (by rw [List.length_set]; exact l0), get_ne (by decide)]; exact h0
      · simp only []; rw [get_left (by rw [List.length_set]; exact l1), get_ne (by decide)]; exact h1
      · simp only []; rw [get_left (by rw [List.length_set]; exact l2), get_self l2]
      · rfl
    · obtain rfl : L = j := by omega
      generalize gF d.natAbs f L = G at *
      have hGn : Nu (.agg [.bool (decide ((G : Int) < 0) && decide (((G : Nat) : Int).natAbs ≠ 0)), .sl (lm (dgl ((G : Nat) : Int).natAbs))]) (G : Int) := Nu.zi hG0
      have t1 : ¬ (1 : Int) < 0 := by decide
      clear ih
      simp only [SA, setCells, Int.reduceLE, Int.reduceLT, ↓reduceIte, reduceCtorEq, Nat.reduceLT, Nat.reduceEqDiff, Nat.reduceAdd, Nat.reduceMul, Nat.reduceLeDiff, Nat.reduceBEq, hjn, h0, h1, h2, cz, kp1 k77, t1, zF_len]
      refine loop_rule (β := Nat × Store × CV) (fun t => ([(3, .ptr 0 0 0), (5, .ptr 1 0 0), (6, .ptr 2 0 0), (9, t.2.2), (35, .p (.sl (zF L f))), (36, i64 L), (37, i64 t.1)], t.2.1))
        (fun t => t.1 ≤ L ∧ t.2.1[0]? = some (.kblk 2 (cz d)) ∧ t.2.1[1]? = some (.kblk 2 [.p (.bool false), .nils]) ∧ t.2.1[2]? = some (.kblk 2 (cz G)) ∧ GL t.2.1 2 t.2.2 (zF t.1 fun j => f j / (G : Int))) (fun t => L - t.1) ((0, τ, .nils) : Nat × Store × CV) rfl rfl ⟨Nat.zero_le _, h0, h1, h2, .nil⟩ ?_
      clear h0 h1 h2
      rintro ⟨j, ρ, c⟩ ⟨hj, h0, h1, h2, hg⟩ ih
      simp only [] at hj h0 h1 h2 hg ih ⊢
      by_cases hjn : (j : Int) < L
      · have hj' : j < L := by omega
        have w1 : IntKind.i64.wrap ((j : Int) + 1) = ((j + 1 : Nat) : Int) := by rw [IntWalk.i64_in _ (by omega)]; omega
        have hfn : Nu (.agg [.bool (decide (f j < 0) && decide ((f j).natAbs ≠ 0)), .sl (lm (dgl (f j).natAbs))]) (f j) := Nu.zi (hf j hj')
        have k134 := (VBn.p134 hfn hGn (by omega)).lift base_le
        have l2 := (List.getElem?_eq_some_iff.1 h2).1
        have e2 : ∀ l, (ρ ++ l)[2]? = some (.kblk 2 (cz G)) := fun l => by rw [get_left l2]; exact h2
        have hraw := (zi_raw (x := f j / (G : Int))).symm
        have hc : ((zF j fun j => f j / (G : Int)).length + [zi (f j / (G : Int))].length) * 32 ≤ 140737488355328 := by rw [zF_len]; simp; omega
        have hsuc := zF_suc (n := j) (f := fun j => f j / (G : Int))
        simp only [SA, setCells, Int.reduceLE, Int.reduceLT, ↓reduceIte, reduceCtorEq, Nat.reduceLT, Nat.reduceEqDiff, Nat.reduceAdd, Nat.reduceMul, Nat.reduceLeDiff, Nat.reduceBEq, hjn, zF_get hj', subPV_zi, Int.natCast_nonneg, Int.toNat_natCast, zi_raw (x := f j), e2, cz, kp2 k134, hraw, r_app_3 hg hc, hsuc, zF_len, w1]
        refine ih (j + 1, nd ρ c ++ [.kblk 2 (cz (f j)), .kblk 2 (cz (f j / (G : Int))), .kblk 2 (cz (f j % (G : Int))), .prow 2 [zi (f j / (G : Int))], .prow 2 (zF (j + 1) fun j => f j / (G : Int))], .own (ρ.length + 4) 0 (j + 1)) _ ⟨by simp only []; omega, GL.kb hg h0, GL.kb hg h1, GL.kb hg h2, ?_⟩ (by simp only []; omega) ?_
        · refine .own ?_ (by rw [zF_len])
          simp only []
          rw [show ρ.length + 4 = (nd ρ c).length + 4 by rw [nd_len], get_app]; rfl
        · rfl
      · obtain rfl : L = j := by omega
        have l1 := (List.getElem?_eq_some_iff.1 h1).1
        have k134 := (VBn.p134 hdn hGn (by omega)).lift base_le
        have e1 : ∀ l, (ρ ++ l)[1]? = some (.kblk 2 [.p (.bool false), .nils]) := fun l => by rw [get_left l1]; exact h1
        have e3 : ∀ l x, (ρ ++ l).set 1 x = ρ.set 1 x ++ l := fun l x => set_left l1
        have e4 : ∀ x l, (ρ.set 1 x ++ l)[1]? = some x := fun x l => by rw [get_left (by rw [List.length_set]; exact l1), get_self l1]
        simp only [SA, setCells, Int.reduceLE, Int.reduceLT, ↓reduceIte, reduceCtorEq, Nat.reduceLT, Nat.reduceEqDiff, Nat.reduceAdd, Nat.reduceMul, Nat.reduceLeDiff, Nat.reduceBEq, hjn, h0, h2, cz, kp2 k134, e1, e3, e4]
        exact back_t2 (GL.left (hg.set h1)).back1 back1_p
theorem z166 {n e : Nat} {W : Nat → Nat → Int} (hn0 : 0 < n) (hn : n ≤ 12) (he1 : 1 ≤ e) (he : e ≤ 1000) (hW : ∀ i j, i < n → j < n → Sk e (W i j)) : Pu rp 55 [.sl (zM n n W)] (.tup [.p (zi (dI n W)), .p (.int .i64 0)]) := by
  have k192 := p192 hn0 (by omega) fun i j hi hj => (hW i j hi hj).sz (by omega)
  have k193 := p193 hn he1 he hW
  refine pu_of rp166 ?_
  simp only [f55, args0, SA, setCells, Int.reduceLE, Int.reduceLT, ↓reduceIte, reduceCtorEq, Nat.reduceLT, Nat.reduceEqDiff, Nat.reduceAdd, Nat.reduceMul, Nat.reduceLeDiff, Nat.reduceBEq, kp1 k192, bne_self_eq_false, kp1 k193]
  exact back_t2 back1_p back1_p
def flC (N : Nat) (W : Nat → Nat → Int) (t : Nat) : Int := cI N W (t % (N + 1)) (t / (N + 1))
theorem z167 {N e : Nat} {W : Nat → Nat → Int} (hN : N + 1 ≤ 12) (he1 : 1 ≤ e) (he : e ≤ 100) (hW : ∀ i j, i < N + 1 → j < N + 1 → Sk e (W i j)) (hd : 0 < dI (N + 1) W) :
    Pu rp 56 [.sl (zM (N + 1) (N + 1) W)] (.tup [.p (.sl (zM (N + 1) (N + 1) fun i k => cI N W k i / (gF (dI (N + 1) W).natAbs (flC N W) ((N + 1) * (N + 1)) : Nat))), .p (zi (dI (N + 1) W / (gF (dI (N + 1) W).natAbs (flC N W) ((N + 1) * (N + 1)) : Nat))), .p (.int .i64 0)]) := by
  have k192 := p192 (n := N + 1) (W := W) (by omega) (by omega) fun i j hi hj => (hW i j hi hj).sz (by omega)
  have k193 := p193 hN he1 (by omega) hW
  have hds : Sz (dI (N + 1) W) := (dI_sk hN hW).sz (by
    have : (e + 1) * (N + 1) ≤ 101 * 12 := Nat.mul_le_mul (by omega) (by omega)
    omega)
  have k77 := (VBn.p77 (Nu.zi hds)).lift base_le
  rw [Int.sign_eq_one_of_pos hd] at k77
  have hcs : ∀ i k, i < N + 1 → k < N + 1 → Sz (cI N W i k) := fun i k hi hk => by
    have h1 := dI_sk (n := N) (W := fun p q => W (sk i p) (sk k q)) (by omega) fun a b ha hb => hW _ _ (Gs.sk_lt hi ha) (Gs.sk_lt hk hb)
    have h2 : (e + 1) * N ≤ 101 * 12 := Nat.mul_le_mul (by omega) (by omega)
    have h3 := h1.sz (by omega)
    unfold cI
    split
    · rw [Int.neg_one_mul]; exact h3.neg
    · rw [Int.one_mul]; exact h3
  have hn2 : (N + 1) * (N + 1) ≤ 144 := Nat.mul_le_mul hN hN
  have hfs : ∀ j, j < (N + 1) * (N + 1) → Sz (flC N W j) := fun j hj => hcs _ _ (Nat.mod_lt _ (by omega)) (Nat.div_lt_of_lt_mul hj)
  have k195 := p195 (L := (N + 1) * (N + 1)) (by omega) hfs hd hds
  refine pu_of rp167 ?_
  rw [zi_raw (x := dI (N + 1) W)] at k77 k195
  generalize hD : dI (N + 1) W = D at *
  have e0 : ((1 : Int) == 0) = false := rfl
  simp only [f56, args0, SA, setCells, Int.reduceLE, Int.reduceLT, ↓reduceIte, reduceCtorEq, Nat.reduceLT, Nat.reduceEqDiff, Nat.reduceAdd, Nat.reduceMul, Nat.reduceLeDiff, Nat.reduceBEq, kp1 k192, bne_self_eq_false, kp1 k193, zi_raw (x := D), kp1 k77, e0]
  refine loop_rule (β := Nat × Store × CV) (fun t => ([(0, .p (.sl (zM (N + 1) (N + 1) W))), (3, .ptr 0 0 0), (5, i64 (N + 1 : Nat)), (7, .ptr 1 0 0), (8, t.2.2), (28, i64 (N + 1 : Nat)), (29, i64 t.1)], t.2.1))
    (fun t => t.1 ≤ N + 1 ∧ t.2.1[0]? = some (.kblk 2 [.p (.bool false), .nils]) ∧ t.2.1[1]? = some (.kblk 2 (cz D)) ∧ GL t.2.1 2 t.2.2 (zF (t.1 * (N + 1)) (flC N W))) (fun t => N + 1 - t.1) ((0, [.kblk 2 [.p (.bool false), .nils], .kblk 2 (cz D)], .nils) : Nat × Store × CV) rfl rfl ⟨Nat.zero_le _, rfl, rfl, by rw [Nat.zero_mul]; exact .nil⟩ ?_
  rintro ⟨i, ρ, c⟩ ⟨hi, h0, h1, hg⟩ ih
  simp only [] at hi h0 h1 hg ih ⊢
  by_cases hin : (i : Int) < (N + 1 : Nat)
  · have hi' : i < N + 1 := by omega
    have w1 : IntKind.i64.wrap ((i : Int) + 1) = ((i + 1 : Nat) : Int) := by rw [IntWalk.i64_in _ (by omega)]; omega
    simp only [SA, setCells, Int.reduceLE, Int.reduceLT, ↓reduceIte, reduceCtorEq, Nat.reduceLT, Nat.reduceEqDiff, Nat.reduceAdd, Nat.reduceMul, Nat.reduceLeDiff, Nat.reduceBEq, hin]
    refine loop_rule (β := Nat × Store × CV) (fun t => ([(0, .p (.sl (zM (N + 1) (N + 1) W))), (3, .ptr 0 0 0), (5, i64 (N + 1 : Nat)), (7, .ptr 1 0 0), (8, t.2.2), (9, i64 i), (28, i64 (N + 1 : Nat)), (29, i64 i), (32, i64 (N + 1 : Nat)), (33, i64 t.1)], t.2.1))
      (fun t => t.1 ≤ N + 1 ∧ t.2.1[0]? = some (.kblk 2 [.p (.bool false), .nils]) ∧ t.2.1[1]? = some (.kblk 2 (cz D)) ∧ GL t.2.1 2 t.2.2 (zF (i * (N + 1) + t.1) (flC N W))) (fun t => N + 1 - t.1) ((0, ρ, c) : Nat × Store × CV) rfl rfl ⟨Nat.zero_le _, h0, h1, hg⟩ ?_
    clear h0 h1 hg
    rintro ⟨k, τ, c2⟩ ⟨hk, h0, h1, hg⟩ ih2
    simp only [] at hk h0 h1 hg ih2 ⊢
    by_cases hkn : (k : Int) < (N + 1 : Nat)
    · have hk' : k < N + 1 := by omega
      have w2 : IntKind.i64.wrap ((k : Int) + 1) = ((k + 1 : Nat) : Int) := by rw [IntWalk.i64_in _ (by omega)]; omega
      have k194 := p194 hN he1 (by omega) hk' hi' hW
      have hfl : flC N W (i * (N + 1) + k) = cI N W k i := by
        unfold flC
        rw [Nat.mul_comm, Nat.mul_add_mod, Nat.mod_eq_of_lt hk', Nat.mul_add_div (by omega), Nat.div_eq_of_lt hk', Nat.add_zero]
      have hb : i * (N + 1) + k < (N + 1) * (N + 1) := by
        have : (i + 1) * (N + 1) ≤ (N + 1) * (N + 1) := Nat.mul_le_mul_right _ (by omega)
        rw [Nat.add_mul] at this; omega
      have hc : ((zF (i * (N + 1) + k) (flC N W)).length + [zi (cI N W k i)].length) * 32 ≤ 140737488355328 := by rw [zF_len]; simp; omega
      have hsuc : zF (i * (N + 1) + k) (flC N W) ++ [zi (cI N W k i)] = zF (i * (N + 1) + k + 1) (flC N W) := by rw [← hfl]; exact zF_suc
      simp only [SA, setCells, Int.reduceLE, Int.reduceLT, ↓reduceIte, reduceCtorEq, Nat.reduceLT, Nat.reduceEqDiff, Nat.reduceAdd, Nat.reduceMul, Nat.reduceLeDiff, Nat.reduceBEq, hkn, kp3 k194, r_app hg hc, hsuc, zF_len, w2]
      refine ih2 (k + 1, nd τ c2 ++ [.prow 2 [zi (cI N W k i)], .prow 2 (zF (i * (N + 1) + k + 1) (flC N W))], .own (τ.length + 1) 0 (i * (N + 1) + k + 1)) _ ⟨by simp only []; omega, GL.kb hg h0, GL.kb hg h1, GL.new2 (by rw [zF_len]) rfl⟩ (by simp only []; omega) ?_
      rfl
    · obtain rfl : k = N + 1 := by omega
      simp only [SA, setCells, Int.reduceLE, Int.reduceLT, ↓reduceIte, reduceCtorEq, Nat.reduceLT, Nat.reduceEqDiff, Nat.reduceAdd, Nat.reduceMul, Nat.reduceLeDiff, Nat.reduceBEq, hkn, w1]
      refine ih (i + 1, τ, c2) _ ⟨by simp only []; omega, h0, h1, by simp only []; rw [Nat.succ_mul]; exact hg⟩ (by simp only []; omega) ?_
      rfl
  · obtain rfl : i = N + 1 := by omega
    have hpz : frz ρ (.p (.agg [.bool (decide (D < 0) && decide (D.natAbs ≠ 0)), .sl (lm (dgl D.natAbs))])) = some (.agg [.bool (decide (D < 0) && decide (D.natAbs ≠ 0)), .sl (lm (dgl D.natAbs))]) := rfl
    have hf : frzs ρ [c, .p (.agg [.bool (decide (D < 0) && decide (D.natAbs ≠ 0)), .sl (lm (dgl D.natAbs))])] = some [.sl (zF ((N + 1) * (N + 1)) (flC N W)), .agg [.bool (decide (D < 0) && decide (D.natAbs ≠ 0)), .sl (lm (dgl D.natAbs))]] := by simp only [frzs, hg.frz, hpz, Option.map_some]
    have hkl : kills ρ [c, .p (.agg [.bool (decide (D < 0) && decide (D.natAbs ≠ 0)), .sl (lm (dgl D.natAbs))])] = nd ρ c := by
      simp only [kills, List.foldl_cons, List.foldl_nil, hg.kill]
      rfl
    generalize (gF D.natAbs (flC N W) ((N + 1) * (N + 1)) : Nat) = G at *
    have g0 : (nd ρ c)[0]? = some (.kblk 2 [.p (.bool false), .nils]) := by have := GL.kb hg h0 (l := []); rwa [List.append_nil] at this
    have g1 : (nd ρ c)[1]? = some (.kblk 2 (cz D)) := by have := GL.kb hg h1 (l := []); rwa [List.append_nil] at this
    simp only [S1, S2, S3, S4, S5, r_idx, r_mks, S6, setCells, Int.reduceLE, Int.reduceLT, ↓reduceIte, reduceCtorEq, Nat.reduceLT, Nat.reduceEqDiff, Nat.reduceAdd, Nat.reduceMul, Nat.reduceLeDiff, Nat.reduceBEq, hin, h1, cz, kc_fz k195 hf, hkl, g1]
    clear ih hf hkl h0 h1 hg k195 k192 k193
    have l1 := (List.getElem?_eq_some_iff.1 g1).1
    refine loop_rule (β := Nat × Store × CV) (fun t => ([(3, .ptr 0 0 0), (5, i64 (N + 1 : Nat)), (7, .ptr 1 0 0), (8, .p (.sl (zF ((N + 1) * (N + 1)) fun j => flC N W j / (G : Int)))), (11, t.2.2), (51, i64 (N + 1 : Nat)), (52, i64 t.1)], t.2.1))
      (fun t => t.1 ≤ N + 1 ∧ t.2.1[0]? = some (.kblk 2 [.p (.bool false), .nils]) ∧ t.2.1[1]? = some (.kblk 2 (cz (D / (G : Int)))) ∧ GL t.2.1 1 t.2.2 (zM t.1 (N + 1) fun i k => cI N W k i / (G : Int))) (fun t => N + 1 - t.1) ((0, (nd ρ c).set 1 (.kblk 2 (cz (D / (G : Int)))), .nils) : Nat × Store × CV) rfl rfl ⟨Nat.zero_le _, by simp only []; rw [get_ne (by decide)]; exact g0, get_self l1, .nil⟩ ?_
    rintro ⟨i, τ, c2⟩ ⟨hi, h0, h1, hg⟩ ih
    simp only [] at hi h0 h1 hg ih ⊢
    by_cases hii : (i : Int) < (N + 1 : Nat)
    · have hi' : i < N + 1 := by omega
      have hb : (i + 1) * (N + 1) ≤ (N + 1) * (N + 1) := Nat.mul_le_mul_right _ (by omega)
      have hb2 : (i + 1) * (N + 1) = i * (N + 1) + (N + 1) := Nat.succ_mul ..
      have w1 : IntKind.i64.wrap ((i : Int) + 1) = ((i + 1 : Nat) : Int) := by rw [IntWalk.i64_in _ (by omega)]; omega
      have w2 : IntKind.i64.wrap ((i : Int) * ((N + 1 : Nat) : Int)) = ((i * (N + 1) : Nat) : Int) := by rw [← Int.natCast_mul, IntWalk.i64_in _ (by omega)]
      have w3 : IntKind.i64.wrap (((i + 1 : Nat) : Int) * ((N + 1 : Nat) : Int)) = (((i + 1) * (N + 1) : Nat) : Int) := by rw [← Int.natCast_mul, IntWalk.i64_in _ (by omega)]
      have hrow : ((zF ((N + 1) * (N + 1)) fun j => flC N W j / (G : Int)).drop (i * (N + 1))).take ((i + 1) * (N + 1) - i * (N + 1)) = zF (N + 1) fun k => cI N W k i / (G : Int) := by
        rw [hb2, Nat.add_sub_cancel_left]
        apply List.ext_getElem?
        intro k
        rw [List.getElem?_take]
        by_cases hk : k < N + 1
        · rw [if_pos hk, List.getElem?_drop, zF_get (by omega), zF_get hk]
          have hfl : flC N W (i * (N + 1) + k) = cI N W k i := by
            unfold flC
            rw [Nat.mul_comm, Nat.mul_add_mod, Nat.mod_eq_of_lt hk, Nat.mul_add_div (by omega), Nat.div_eq_of_lt hk, Nat.add_zero]
          rw [hfl]
        · rw [if_neg hk, List.getElem?_eq_none (by rw [zF_len]; omega)]
      have hsl : ∀ σ : Store, sliceV σ 2 (.p (.sl (zF ((N + 1) * (N + 1)) fun j => flC N W j / (G : Int)))) (i * (N + 1)) ((i + 1) * (N + 1)) = some (.p (.sl (zF (N + 1) fun k => cI N W k i / (G : Int)))) := fun σ => by
        unfold sliceV
        rw [if_pos (by omega)]
        simp only []
        rw [if_pos ⟨by rw [zF_len]; exact hb, .inr zF_sz⟩, hrow]
      have hc : ((zM i (N + 1) fun i k => cI N W k i / (G : Int)).length + [PV.sl (zF (N + 1) fun k => cI N W k i / (G : Int))].length) * 24 ≤ 140737488355328 := by rw [zM_len]; simp; omega
      have hsuc := zM_suc (m := i) (n := N + 1) (W := fun i k => cI N W k i / (G : Int))
      have hz1 : allSz 1 [PV.sl (zF (N + 1) fun k => cI N W k i / (G : Int))] = true := rfl
      simp only [SA, setCells, Int.reduceLE, Int.reduceLT, ↓reduceIte, reduceCtorEq, Nat.reduceLT, Nat.reduceEqDiff, Nat.reduceAdd, Nat.reduceMul, Nat.reduceLeDiff, Nat.reduceBEq, hii, zF_len, Int.natCast_nonneg, Int.toNat_natCast, w1, w2, w3, hsl, hb, hz1, r_app hg hc, hsuc, zM_len]
      refine ih (i + 1, nd τ c2 ++ [.prow 1 [.sl (zF (N + 1) fun k => cI N W k i / (G : Int))], .prow 1 (zM (i + 1) (N + 1) fun i k => cI N W k i / (G : Int))], .own (τ.length + 1) 0 (i + 1)) _ ⟨by simp only []; omega, GL.kb hg h0, GL.kb hg h1, GL.new2 (by rw [zM_len]) rfl⟩ (by simp only []; omega) ?_
      rfl
    · obtain rfl : i = N + 1 := by omega
      have l1 := (List.getElem?_eq_some_iff.1 h1).1
      have l0 := (List.getElem?_eq_some_iff.1 h0).1
      have e0 : ∀ x, (τ.set 0 x)[0]? = some x := fun x => get_self l0
      simp only [SA, setCells, Int.reduceLE, Int.reduceLT, ↓reduceIte, reduceCtorEq, Nat.reduceLT, Nat.reduceEqDiff, Nat.reduceAdd, Nat.reduceMul, Nat.reduceLeDiff, Nat.reduceBEq, hii, h1, h0, cz, e0]
      exact back_t3 (hg.set h0).back1 back1_p back1_p
end Go.Proofs.YtdieenbfdeaffaaGreat.VDd
