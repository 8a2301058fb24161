/- Resolved code of functions, printed by a program of ours (genfun.py); each is held against the model by chkF; The functions together; Rows and matrices of numbers: mat.Form, mat.Times, mat.Plus, mat.Minus, mat.Unit and the reference's; herm: a matrix on its way, and the transform beside it: swap, add, turn; Floor for every divisor; Abs, Compare; the least of a column; The least entry of a column; A column made nought; herm.form: the unit beside a matrix; columns one by one; mat.Form: the rows made, then frozen; herm.form; herm.basis, herm.Kernel, relate.Space. No condition. -/
import Derived.Test.YtdieenbfdeaffabGreatZa2
import Derived.Test.YtdieenbfdeaffabGreatProg
import Derived.KernelRfl
import Derived.Test.YtdieenbfdeaffabGreatZd1
import Derived.Test.YtdieenbfdeaffabGreatZa3
import Derived.Test.YtdieenbfdeaffabGreatZb2
import Derived.Test.YtdieenbfdeaffabGreatZh1
set_option linter.unusedSimpArgs false
set_option linter.unusedVariables false
open Bool renaming and_eq_true → aA
open Classical renaming byContradiction → cq
open Int renaming reduceLT → aj, reduceLE → ak, sign_eq_one_of_pos → bo, sign_eq_neg_one_of_neg → bY, le_refl → dN, toNat → gG
open List renaming getElem?_eq_some_iff → aq, replicate → aw, length_set → ay, getElem?_append_left → aB, getElem?_set_ne → aE, getElem?_eq_none → aG, getD_eq_getElem?_getD → aK, getElem?_take → aN, getElem?_set_self → aO, append_assoc → aP, length_take → aS, all_eq_true → aU, getElem?_drop → bF, length_append → bX, take_of_length_le → b6, range → ca, getElem?_map → cd, append_nil → c8, mem_cons_self → dj, ext_getElem? → dv, mem_cons_of_mem → dK, length_cons → dZ, zipWith → ek, cons_append → fk
open Nat renaming reduceLeDiff → aa, reduceEqDiff → ab, reduceMul → ae, reduceBEq → af, reduceAdd → ah, reduceLT → ai, le_refl → av, lt_or_ge → ax, mul_le_mul_right → az, zero_le → aD, mul_comm → a7, le_trans → a9, add_zero → bw, mul_le_mul_left → bH, pow_succ → bJ, lt_succ_self → bO, lt_of_lt_of_le → bP, lt_of_le_of_lt → bQ, pow_pos → dg, pos_of_ne_zero → dU, zero_add → d8, mod_lt → ep, eq_zero_or_pos → eu, sub_self → eI
open Option renaming map_eq_some_iff → au, map_some → aH
namespace Go.Proofs.YtdieenbfdeaffabGreat.VRs
open Go Vpi
set_option maxRecDepth 100000
def f19 : RFun := ⟨(qS [lq 4 (.mv (.c (.p (.bool false)))), iQ 5 0]
 (qS [mq 9 0, mq 10 1, cB 11 54 9 10, mq 8 11, eX 12 8 0, eX 13 8 1, mq 6 12, mq 7 13]
 (.seq (qS [mq 14 7, bK 15 .neq 14 0]
 (.fg [0, 1, 6, 7, 15] (.cond (.t 15)
 (qS [mq 16 7, lq 4 (.mv (.c (.p (.bool false)))), mq 5 16]
 .ret)
 .skip)))
 (qS [mq 17 0, mq 18 6, cB 19 56 17 18, mq 20 1, mq 21 6, cB 22 56 20 21, cB 23 55 19 22, mq 4 23, iQ 5 0]
 .ret)))), [.t 4, .t 5]⟩
def f54 : RFun := ⟨(qS [iQ 4 0, iQ 5 0]
 (qS [mq 13 0, cA 14 36 13, mq 12 14, eX 15 12 0, eX 16 12 1, eX 17 12 2, mq 6 15, mq 7 16, mq 8 17]
 (qS [mq 19 1, cA 20 36 19, mq 18 20, eX 21 18 0, eX 22 18 1, eX 23 18 2, mq 9 21, mq 10 22, mq 11 23]
 (.seq (.block 0
 (qS [mq 25 8, bK 26 .neq 25 0, mq 27 26, ⟨(some 28), (some (27, false)), none, .mv (.t 11)⟩, ⟨(some 29), (some (27, false)), none, .bin .neq (.t 28) (ki 0)⟩, lq 30 (.pick (.t 27) (.c (.p (.bool true))) (.t 29)), mq 24 30]
 (.fg [6, 7, 9, 10, 24] (.cond (.t 24)
 (qS [iQ 4 0, iQ 5 8]
 .ret)
 (qS [mq 32 6, bK 33 .gtr 32 64, mq 34 33, ⟨(some 35), (some (34, false)), none, .mv (.t 7)⟩, ⟨(some 36), (some (34, false)), none, .bin .gtr (.t 35) (ki 64)⟩, lq 37 (.pick (.t 34) (.c (.p (.bool true))) (.t 36)), mq 38 37, ⟨(some 39), (some (38, false)), none, .mv (.t 9)⟩, ⟨(some 40), (some (38, false)), none, .bin .gtr (.t 39) (ki 64)⟩, lq 41 (.pick (.t 38) (.c (.p (.bool true))) (.t 40)), mq 42 41, ⟨(some 43), (some (42, false)), none, .mv (.t 10)⟩, ⟨(some 44), (some (42, false)), none, .bin .gtr (.t 43) (ki 64)⟩, lq 45 (.pick (.t 42) (.c (.p (.bool true))) (.t 44)), mq 31 45]
 (.fg [6, 7, 9, 10, 31] (.cond (.t 31)
 (qS [iQ 4 0, iQ 5 60]
 .ret)
 (qS [mq 47 6, bK 48 .gtr 47 0, mq 49 48, ⟨(some 50), (some (49, true)), none, .mv (.t 9)⟩, ⟨(some 51), (some (49, true)), none, .bin .gtr (.t 50) (ki 0)⟩, lq 52 (.pick (.t 49) (.t 51) (.c (.p (.bool false)))), mq 53 52, ⟨(some 54), (some (53, true)), none, .mv (.t 7)⟩, ⟨(some 55), (some (53, true)), none, .mv (.t 10)⟩, ⟨(some 56), (some (53, true)), none, .bin .neq (.t 54) (.t 55)⟩, lq 57 (.pick (.t 53) (.t 56) (.c (.p (.bool false)))), mq 46 57]
 (.fg [7, 10, 46] (.cond (.t 46)
 (qS [iQ 4 0, iQ 5 8]
 .ret)
 .skip))))))))))
 (.fg [7, 10] (qS [mq 58 7, mq 59 10, lq 60 (.mx (.t 58) (.t 59)), mq 4 60, iQ 5 0]
 .ret)))))), [.t 4, .t 5]⟩
def f55 : RFun := ⟨(qS [lq 4 (.mv (.c (.p (.bool false))))]
 (.seq (qS [mq 6 0, nQ 7 6, mq 8 1, nQ 9 8, bq 10 .neq 7 9]
 (.fg [0, 1, 10] (.cond (.t 10)
 (qS [lq 4 (.mv (.c (.p (.bool false))))]
 .ret)
 .skip)))
 (.seq (qS [mq 11 0, nQ 12 11, iQ 13 0]
 (.fg [0, 1, 12, 13] (.block 0
 (.loop (.fg [0, 1, 12, 13]
 (qS [bq 14 .lss 13 12]
 (.seq (.cond (.t 14)
 .skip
 (.exit 0))
 (.fg [0, 1, 12, 13] (.seq (.block 1
 (qS [mq 15 13, mq 5 15]
 (.seq (.reg [mq 16 0, mq 17 5, xq 18 1 16 17, lF 19 1 18, nQ 20 19, mq 21 1, mq 22 5, xq 23 1 21 22, lF 24 1 23, nQ 25 24, bq 26 .neq 20 25, mq 27 26, ⟨(some 28), (some (27, false)), none, .mv (.t 0)⟩, ⟨(some 29), (some (27, false)), none, .mv (.t 5)⟩, ⟨(some 30), (some (27, false)), none, .indexA 1 (.t 28) (.t 29)⟩, ⟨(some 31), (some (27, false)), none, .load false 1 (.t 30)⟩, ⟨(some 32), (some (27, false)), none, .mv (.t 1)⟩, ⟨(some 33), (some (27, false)), none, .mv (.t 5)⟩, ⟨(some 34), (some (27, false)), none, .indexA 1 (.t 32) (.t 33)⟩, ⟨(some 35), (some (27, false)), none, .load false 1 (.t 34)⟩, ⟨(some 36), (some (27, false)), none, .call .pu 96 [.t 31, .t 35]⟩, ⟨(some 37), (some (27, false)), none, .bin .neq (.t 36) (ki 0)⟩, lq 38 (.pick (.t 27) (.c (.p (.bool true))) (.t 37))] (some (0, [])))
 (.fg [0, 1, 12, 13, 38] (.cond (.t 38)
 (qS [lq 4 (.mv (.c (.p (.bool false))))]
 .ret)
 .skip)))))
 (.fg [0, 1, 12, 13] (.reg [bK 39 .add 13 1, mq 13 39] none)))))))))))
 (qS [lq 4 (.mv (.c (.p (.bool true))))]
 .ret)))), [.t 4]⟩
def f56 : RFun := ⟨(qS [lq 4 (.mv (.c (.nils)))]
 (qS [mq 8 0, mq 9 1, lq 10 (.call .ct 97 [.t 8, .t 9]), mq 7 10, eX 11 7 0, eX 12 7 1, mq 5 11, mq 6 12]
 (qS [mq 13 5, lq 14 (.nilc (.t 13)), fQ 15 0 14, fQ 16 0 15, lF 17 1 16, mq 18 6, mq 19 6, lq 20 (.slice 1 (.t 17) none (some (.t 18)) (some (.t 19))), mq 4 20]
 .ret))), [.t 4]⟩
def f96 : RFun := ⟨(qS [iQ 4 0]
 (.seq (qS [mq 7 0, nQ 8 7, mq 9 1, nQ 10 9, lq 11 (.mn (.t 8) (.t 10)), iQ 12 0]
 (.fg [0, 1, 11, 12] (.block 0
 (.loop (.fg [0, 1, 11, 12]
 (qS [bq 13 .lss 12 11]
 (.seq (.cond (.t 13)
 .skip
 (.exit 0))
 (.fg [0, 1, 11, 12] (.seq (.block 1
 (qS [mq 14 12, mq 5 14]
 (.seq (.reg [mq 15 0, mq 16 5, xq 17 2 15 16, lT 18 2 17, mq 19 1, mq 20 5, xq 21 2 19 20, lT 22 2 21, cB 23 122 18 22, mq 6 23] (some (0, [])))
 (qS [mq 24 6, bK 25 .neq 24 0]
 (.fg [0, 1, 6, 11, 12, 25] (.cond (.t 25)
 (qS [mq 26 6, mq 4 26]
 .ret)
 .skip))))))
 (.fg [0, 1, 11, 12] (.reg [bK 27 .add 12 1, mq 12 27] none)))))))))))
 (.seq (.block 2
 (qS [mq 29 0, nQ 30 29, mq 31 1, nQ 32 31, bq 33 .lss 30 32, mq 28 33]
 (.fg [0, 1, 28] (.cond (.t 28)
 (qS [lq 4 (.mv (.c (.p (.int .i64 (-1)))))]
 .ret)
 (qS [mq 35 0, nQ 36 35, mq 37 1, nQ 38 37, bq 39 .gtr 36 38, mq 34 39]
 (.fg [34] (.cond (.t 34)
 (qS [iQ 4 1]
 .ret)
 .skip)))))))
 (.fg [] (qS [iQ 4 0]
 .ret))))), [.t 4]⟩
def f97 : RFun := ⟨(qS [lq 4 (.mv (.c (.any))), iQ 5 0]
 (qS [mq 15 0, lq 16 (.call .ct 123 [.t 15]), lq 17 (.build [.nils] [(0, 1, .t 16)]), lq 18 (.build [.nils, .nils] [(0, 1, .t 17)]), lq 19 (.box (.t 18)), mq 6 19]
 (.seq (qS [mq 20 0, nQ 21 20, iQ 22 0]
 (.fg [0, 1, 6, 21, 22] (.block 0
 (.loop (.fg [0, 1, 6, 21, 22]
 (qS [bq 23 .lss 22 21]
 (.seq (.cond (.t 23)
 .skip
 (.exit 0))
 (.fg [0, 1, 6, 21, 22] (.seq (.block 1
 (qS [mq 24 22, mq 7 24]
 (qS [mq 25 0, nQ 26 25, lq 27 (.mks false 2 32 (.agg [.bool false, .sl []]) (.t 26) (.t 26)), mq 8 27]
 (qS [mq 28 8, mq 29 7, lq 30 (.call .pu 58 [.c (.p (.int .i64 1))]), xq 31 2 28 29, sq 2 31 30]
 (.reg [mq 32 6, mq 33 6, lq 34 (.nilc (.t 33)), fQ 35 1 34, fQ 36 0 35, lF 37 1 36, mq 38 8, lq 39 (.bslice 1 [.t 38]), lq 40 (.append 1 24 (.t 37) (.t 39)), lq 41 (.nilc (.t 32)), fQ 42 1 41, fQ 43 0 42, sq 1 43 40] none)))))
 (.fg [0, 1, 6, 21, 22] (.reg [bK 44 .add 22 1, mq 22 44] none)))))))))))
 (qS [iQ 9 0]
 (.seq (qS [iQ 10 0]
 (.fg [0, 1, 6, 9, 10] (.block 2
 (.loop (.fg [0, 1, 6, 9, 10]
 (.seq (qS [mq 45 10, mq 46 1, bq 47 .lss 45 46, mq 48 47, ⟨(some 49), (some (48, true)), none, .mv (.t 9)⟩, ⟨(some 50), (some (48, true)), none, .mv (.t 0)⟩, ⟨(some 51), (some (48, true)), none, .len (.t 50)⟩, ⟨(some 52), (some (48, true)), none, .bin .lss (.t 49) (.t 51)⟩, lq 53 (.pick (.t 48) (.t 52) (.c (.p (.bool false))))]
 (.fg [0, 1, 6, 9, 10, 53] (.cond (.t 53)
 .skip
 (.exit 2))))
 (.seq (.block 3
 (.seq (qS [mq 56 6, mq 57 9, mq 58 10, lq 59 (.call .ct 124 [.t 56, .t 57, .t 58]), lq 60 (.un .not (.t 59))]
 (.fg [0, 1, 6, 9, 10, 60] (.cond (.t 60)
 (.exit 3)
 .skip)))
 (.seq (qS [mq 61 6, lq 62 (.nilc (.t 61)), fQ 63 0 62, fQ 64 0 63, lF 65 1 64, mq 66 9, xq 67 1 65 66, lF 68 1 67, mq 69 10, xq 70 2 68 69, lT 71 2 70, lq 72 (.call .fz 44 [.t 71]), bK 73 .lss 72 0]
 (.fg [0, 1, 6, 9, 10, 73] (.cond (.t 73)
 (.reg [mq 74 6, mq 75 9, lq 76 (.call .ct 125 [.t 74, .t 75])] none)
 .skip)))
 (.seq (qS [mq 77 9, iQ 78 0]
 (.fg [0, 1, 6, 9, 10, 77, 78] (.block 4
 (.loop (.fg [0, 1, 6, 9, 10, 77, 78]
 (qS [bq 79 .lss 78 77]
 (.seq (.cond (.t 79)
 .skip
 (.exit 4))
 (.fg [0, 1, 6, 9, 10, 77, 78] (.seq (.block 5
 (qS [mq 80 78, mq 11 80]
 (.seq (.reg [mq 82 6, lq 83 (.nilc (.t 82)), fQ 84 0 83, fQ 85 0 84, lF 86 1 85, mq 87 11, xq 88 1 86 87, lF 89 1 88, mq 90 10, xq 91 2 89 90, lT 92 2 91, mq 93 6, lq 94 (.nilc (.t 93)), fQ 95 0 94, fQ 96 0 95, lF 97 1 96, mq 98 9, xq 99 1 97 98, lF 100 1 99, mq 101 10, xq 102 2 100 101, lT 103 2 102, lq 104 (.call .fz 57 [.t 92, .t 103]), mq 81 104, eX 105 81 0, eX 106 81 1, eX 107 81 2, ⟨(some 12), none, (some 0), .alloc [.p (.bool false), .nils]⟩, ⟨(some 13), none, (some 1), .alloc [.p (.bool false), .nils]⟩, sq 2 12 105, sq 2 13 106, mq 14 107] (some (2, [])))
 (qS [lT 108 2 12, lq 109 (.call .fz 44 [.t 108]), bK 110 .neq 109 0]
 (.fg [0, 1, 6, 9, 10, 11, 12, 77, 78, 110] (.cond (.t 110)
 (.reg [mq 111 6, mq 112 11, mq 113 9, lT 114 2 12, lq 115 (.call .fz 87 [.t 114]), lq 116 (.call .ct 126 [.t 111, .t 112, .t 113, .t 115])] none)
 .skip))))))
 (.fg [0, 1, 6, 9, 10, 77, 78] (.reg [bK 117 .add 78 1, mq 78 117] none)))))))))))
 (.reg [mq 118 9, bK 119 .add 118 1, mq 9 119] none)))))
 (.fg [0, 1, 6, 9, 10] (.reg [mq 54 10, bK 55 .add 54 1, mq 10 55] none)))))))))
 (qS [mq 120 6, mq 121 9, mq 4 120, mq 5 121]
 .ret)))))), [.t 4, .t 5]⟩
def f122 : RFun := ⟨(qS [lq 2 (.box (.t 0)), lq 3 (.box (.t 1)), iQ 4 0]
 (.seq (.reg [lT 7 2 2, cA 8 44 7, lT 9 2 3, cA 10 44 9, mq 5 8, mq 6 10] (some (0, [])))
 (.seq (.block 0
 (qS [mq 12 5, mq 13 6, bq 14 .lss 12 13, mq 11 14]
 (.fg [2, 3, 5, 6, 11] (.cond (.t 11)
 (qS [lq 4 (.mv (.c (.p (.int .i64 (-1)))))]
 .ret)
 (qS [mq 16 5, mq 17 6, bq 18 .gtr 16 17, mq 15 18]
 (.fg [2, 3, 5, 15] (.cond (.t 15)
 (qS [iQ 4 1]
 .ret)
 .skip)))))))
 (.fg [2, 3, 5] (qS [mq 19 5, fQ 20 1 2, lF 21 1 20, fQ 22 1 3, lF 23 1 22, cB 24 116 21 23, bq 25 .mul 19 24, mq 4 25]
 .ret))))), [.t 4]⟩
def f124 : RFun := ⟨(qS [lq 3 (.box (.t 0)), lq 4 (.box (.t 1)), lq 5 (.box (.t 2)), lq 6 (.mv (.c (.p (.bool false))))]
 (qS [lq 14 (.mkfn 137 [.t 4, .t 3, .t 5]), mq 7 14]
 (.fg [3, 4, 5, 7] (.block 0
 (.loop (.fg [3, 4, 5, 7]
 (.block 1
 (qS [mq 15 7, lq 16 (.callv .ct (.t 15) []), mq 8 16]
 (.seq (qS [mq 17 8, bK 18 .lss 17 0]
 (.fg [3, 4, 5, 7, 8, 18] (.cond (.t 18)
 (qS [lq 6 (.mv (.c (.p (.bool false))))]
 .ret)
 .skip)))
 (.seq (qS [mq 19 8, lF 20 1 4, bq 21 .neq 19 20]
 (.fg [3, 4, 5, 7, 8, 21] (.cond (.t 21)
 (.reg [lF 22 1 3, lF 23 1 4, mq 24 8, lq 25 (.call .ct 138 [.t 22, .t 23, .t 24])] none)
 .skip)))
 (qS [lq 9 (.mv (.c (.p (.bool true))))]
 (.seq (qS [lF 26 1 4, bK 27 .add 26 1, mq 10 27]
 (.fg [3, 4, 5, 7, 9, 10] (.block 2
 (.loop (.fg [3, 4, 5, 7, 9, 10]
 (.seq (qS [mq 28 10, lF 29 1 3, lq 30 (.nilc (.t 29)), fQ 31 0 30, fQ 32 0 31, lF 33 1 32, nQ 34 33, bq 35 .lss 28 34]
 (.fg [3, 4, 5, 7, 9, 10, 35] (.cond (.t 35)
 .skip
 (.exit 2))))
 (.seq (.block 3
 (.seq (.reg [lF 39 1 3, lq 40 (.nilc (.t 39)), fQ 41 0 40, fQ 42 0 41, lF 43 1 42, mq 44 10, xq 45 1 43 44, lF 46 1 45, lF 47 1 5, xq 48 2 46 47, lT 49 2 48, lF 50 1 3, lq 51 (.nilc (.t 50)), fQ 52 0 51, fQ 53 0 52, lF 54 1 53, lF 55 1 4, xq 56 1 54 55, lF 57 1 56, lF 58 1 5, xq 59 2 57 58, lT 60 2 59, cB 61 57 49 60, mq 38 61, eX 62 38 0, eX 63 38 1, eX 64 38 2, ⟨(some 11), none, (some 0), .alloc [.p (.bool false), .nils]⟩, ⟨(some 12), none, (some 1), .alloc [.p (.bool false), .nils]⟩, sq 2 11 62, sq 2 12 63, mq 13 64] (some (2, [])))
 (.seq (qS [lT 65 2 11, cA 66 44 65, bK 67 .neq 66 0]
 (.fg [3, 4, 5, 7, 9, 10, 11, 67] (.cond (.t 67)
 (.reg [lF 68 1 3, mq 69 10, lF 70 1 4, lT 71 2 11, cA 72 87 71, lq 73 (.call .ct 126 [.t 68, .t 69, .t 70, .t 72])] (some (0, [])))
 .skip)))
 (.reg [mq 74 9, mq 75 74, ⟨(some 76), (some (75, true)), none, .load false 1 (.t 3)⟩, ⟨(some 77), (some (75, true)), none, .nilc (.t 76)⟩, ⟨(some 78), (some (75, true)), none, .fieldA 0 (.t 77)⟩, ⟨(some 79), (some (75, true)), none, .fieldA 0 (.t 78)⟩, ⟨(some 80), (some (75, true)), none, .load false 1 (.t 79)⟩, ⟨(some 81), (some (75, true)), none, .mv (.t 10)⟩, ⟨(some 82), (some (75, true)), none, .indexA 1 (.t 80) (.t 81)⟩, ⟨(some 83), (some (75, true)), none, .load false 1 (.t 82)⟩, ⟨(some 84), (some (75, true)), none, .load false 1 (.t 5)⟩, ⟨(some 85), (some (75, true)), none, .indexA 2 (.t 83) (.t 84)⟩, ⟨(some 86), (some (75, true)), none, .load true 2 (.t 85)⟩, ⟨(some 87), (some (75, true)), none, .call .pu 44 [.t 86]⟩, ⟨(some 88), (some (75, true)), none, .bin .eql (.t 87) (ki 0)⟩, lq 89 (.pick (.t 75) (.t 88) (.c (.p (.bool false)))), mq 9 89] (some (0, []))))))
 (.fg [3, 4, 5, 7, 9, 10] (.reg [mq 36 10, bK 37 .add 36 1, mq 10 37] none)))))))))
 (qS [mq 90 9]
 (.fg [3, 4, 5, 7, 90] (.cond (.t 90)
 (qS [lq 6 (.mv (.c (.p (.bool true))))]
 .ret)
 .skip))))))))))))))), [.t 6]⟩
def f125 : RFun := ⟨(qS [mq 4 0, lq 5 (.nilc (.t 4)), fQ 6 0 5, mq 7 1, lq 8 (.call .ct 139 [.t 6, .t 7])]
 (.reg [mq 9 0, lq 10 (.nilc (.t 9)), fQ 11 1 10, mq 12 1, lq 13 (.call .ct 139 [.t 11, .t 12])] none)), []⟩
def f126 : RFun := ⟨(qS [lq 7 (.box (.t 3))]
 (.seq (.reg [mq 8 0, lq 9 (.nilc (.t 8)), fQ 10 0 9, mq 11 1, mq 12 2, lT 13 2 7, lq 14 (.call .ct 140 [.t 10, .t 11, .t 12, .t 13])] (some (0, [])))
 (.reg [mq 15 0, lq 16 (.nilc (.t 15)), fQ 17 1 16, mq 18 1, mq 19 2, lT 20 2 7, lq 21 (.call .ct 140 [.t 17, .t 18, .t 19, .t 20])] (some (0, []))))), []⟩
def f137 : RFun := ⟨(qS [iQ 3 0]
 (qS [lq 4 (.mv (.c (.p (.int .i64 (-1)))))]
 (.seq (qS [lF 7 1 0, mq 5 7]
 (.fg [1, 2, 4, 5] (.block 0
 (.loop (.fg [1, 2, 4, 5]
 (.seq (qS [mq 8 5, lF 9 1 1, lq 10 (.nilc (.t 9)), fQ 11 0 10, fQ 12 0 11, lF 13 1 12, nQ 14 13, bq 15 .lss 8 14]
 (.fg [1, 2, 4, 5, 15] (.cond (.t 15)
 .skip
 (.exit 0))))
 (.seq (.block 1
 (.seq (.reg [lF 18 1 1, lq 19 (.nilc (.t 18)), fQ 20 0 19, fQ 21 0 20, lF 22 1 21, mq 23 5, xq 24 1 22 23, lF 25 1 24, lF 26 1 2, xq 27 2 25 26, lT 28 2 27, ⟨(some 6), none, (some 0), .alloc [.p (.bool false), .nils]⟩, sq 2 6 28] (some (1, [])))
 (.seq (.reg [lT 29 2 6, cA 30 44 29, bK 31 .neq 30 0, mq 32 31, ⟨(some 33), (some (32, true)), none, .mv (.t 4)⟩, ⟨(some 34), (some (32, true)), none, .bin .lss (.t 33) (ki 0)⟩, ⟨(some 35), (some (32, true)), none, .mv (.t 34)⟩, ⟨(some 36), (some (35, false)), none, .load true 2 (.t 6)⟩, ⟨(some 37), (some (35, false)), none, .call .pu 90 [.t 36]⟩, ⟨(some 38), (some (35, false)), none, .load false 1 (.t 1)⟩, ⟨(some 39), (some (35, false)), none, .nilc (.t 38)⟩, ⟨(some 40), (some (35, false)), none, .fieldA 0 (.t 39)⟩, ⟨(some 41), (some (35, false)), none, .fieldA 0 (.t 40)⟩, ⟨(some 42), (some (35, false)), none, .load false 1 (.t 41)⟩, ⟨(some 43), (some (35, false)), none, .mv (.t 4)⟩, ⟨(some 44), (some (35, false)), none, .indexA 1 (.t 42) (.t 43)⟩, ⟨(some 45), (some (35, false)), none, .load false 1 (.t 44)⟩, ⟨(some 46), (some (35, false)), none, .load false 1 (.t 2)⟩, ⟨(some 47), (some (35, false)), none, .indexA 2 (.t 45) (.t 46)⟩, ⟨(some 48), (some (35, false)), none, .load true 2 (.t 47)⟩, ⟨(some 49), (some (35, false)), none, .call .pu 90 [.t 48]⟩, ⟨(some 50), (some (35, false)), none, .call .pu 122 [.t 37, .t 49]⟩, ⟨(some 51), (some (35, false)), none, .bin .lss (.t 50) (ki 0)⟩, ⟨(some 52), (some (32, true)), none, .pick (.t 35) (.c (.p (.bool true))) (.t 51)⟩, lq 53 (.pick (.t 32) (.t 52) (.c (.p (.bool false))))] (some (0, [])))
 (.fg [1, 2, 4, 5, 53] (.cond (.t 53)
 (.reg [mq 54 5, mq 4 54] none)
 .skip)))))
 (.fg [1, 2, 4, 5] (.reg [mq 16 5, bK 17 .add 16 1, mq 5 17] none)))))))))
 (qS [mq 55 4, mq 3 55]
 .ret)))), [.t 3]⟩
def f138 : RFun := ⟨(qS [mq 6 0, lq 7 (.nilc (.t 6)), fQ 8 0 7, mq 9 1, mq 10 2, lq 11 (.call .ct 141 [.t 8, .t 9, .t 10])]
 (.reg [mq 12 0, lq 13 (.nilc (.t 12)), fQ 14 1 13, mq 15 1, mq 16 2, lq 17 (.call .ct 141 [.t 14, .t 15, .t 16])] none)), []⟩
def f139 : RFun := ⟨(.reg [mq 4 0, lq 5 (.nilc (.t 4)), fQ 6 0 5, lF 7 1 6, mq 8 1, lq 9 (.call .pu 58 [.c (.p (.int .i64 (-1)))]), mq 10 0, lq 11 (.nilc (.t 10)), fQ 12 0 11, lF 13 1 12, mq 14 1, xq 15 1 13 14, lF 16 1 15, cB 17 18 9 16, xq 18 1 7 8, sq 1 18 17] (some (0, []))), []⟩
def f140 : RFun := ⟨(qS [lq 7 (.box (.t 3))]
 (.seq (.reg [mq 11 0, lq 12 (.nilc (.t 11)), fQ 13 0 12, lF 14 1 13, mq 15 1, xq 16 1 14 15, lF 17 1 16, lT 18 2 7, mq 19 0, lq 20 (.nilc (.t 19)), fQ 21 0 20, lF 22 1 21, mq 23 2, xq 24 1 22 23, lF 25 1 24, cB 26 18 18 25, cB 27 142 17 26, mq 10 27, eX 28 10 0, eX 29 10 1, mq 8 28, mq 9 29] (some (0, [])))
 (.reg [mq 30 0, lq 31 (.nilc (.t 30)), fQ 32 0 31, lF 33 1 32, mq 34 1, mq 35 8, xq 36 1 33 34, sq 1 36 35] none))), []⟩
def f141 : RFun := ⟨(.reg [mq 6 0, lq 7 (.nilc (.t 6)), fQ 8 0 7, lF 9 1 8, mq 10 1, mq 11 0, lq 12 (.nilc (.t 11)), fQ 13 0 12, lF 14 1 13, mq 15 2, mq 16 0, lq 17 (.nilc (.t 16)), fQ 18 0 17, lF 19 1 18, mq 20 2, xq 21 1 19 20, lF 22 1 21, mq 23 0, lq 24 (.nilc (.t 23)), fQ 25 0 24, lF 26 1 25, mq 27 1, xq 28 1 26 27, lF 29 1 28, xq 30 1 9 10, sq 1 30 22, xq 31 1 14 15, sq 1 31 29] (some (0, []))), []⟩
def f142 : RFun := ⟨(qS [lq 4 (.mv (.c (.nils))), iQ 5 0]
 (qS [mq 6 0, mq 7 1, lq 8 (.call .full 143 [.t 6, .t 7, .c (.fn 84 [])]), eX 9 8 0, eX 10 8 1, mq 4 9, mq 5 10]
 .ret)), [.t 4, .t 5]⟩
def f143 : RFun := ⟨(qS [lq 6 (.mv (.c (.nils))), iQ 7 0]
 (.seq (qS [mq 10 0, nQ 11 10, mq 12 1, nQ 13 12, bq 14 .neq 11 13]
 (.fg [0, 1, 2, 14] (.cond (.t 14)
 (qS [lq 6 (.mv (.c (.nils))), iQ 7 8]
 .ret)
 .skip)))
 (qS [lq 8 (.mv (.c (.nils)))]
 (.seq (qS [mq 15 0, nQ 16 15, iQ 17 0]
 (.fg [0, 1, 2, 8, 16, 17] (.block 0
 (.loop (.fg [0, 1, 2, 8, 16, 17]
 (qS [bq 18 .lss 17 16]
 (.seq (.cond (.t 18)
 .skip
 (.exit 0))
 (.fg [0, 1, 2, 8, 16, 17] (.seq (.block 1
 (qS [mq 19 17, mq 9 19]
 (.reg [mq 20 8, mq 21 2, mq 22 0, mq 23 9, xq 24 2 22 23, lT 25 2 24, mq 26 1, mq 27 9, xq 28 2 26 27, lT 29 2 28, lq 30 (.callv .pu (.t 21) [.t 25, .t 29]), ⟨(some 31), none, (some 0), .bslice 2 [.t 30]⟩, ⟨(some 32), none, (some 1), .append 2 32 (.t 20) (.t 31)⟩, mq 8 32] (some (2, [])))))
 (.fg [0, 1, 2, 8, 16, 17] (.reg [bK 33 .add 17 1, mq 17 33] none)))))))))))
 (qS [mq 34 8, mq 6 34, iQ 7 0]
 .ret))))), [.t 6, .t 7]⟩
def tab : List (Nat × RFun) := [(19, f19), (54, f54), (55, f55), (56, f56), (96, f96), (97, f97), (122, f122), (124, f124), (125, f125), (126, f126), (137, f137), (138, f138), (139, f139), (140, f140), (141, f141), (142, f142), (143, f143)]
def rp : cg := fun f => match VDd.rp f with | some rf => some rf | none => (tab.find? fun x => x.1 == f).map (·.2)
theorem cj : (tab.all fun x => j5 Tryz.prog x.1 x.2) = true := by kernel_rfl
theorem aX : mW VDd.rp rp := by
 intro f rf h
 simp only [rp, h]
theorem cV : ∀ f rf, rp f = some rf → j5 Tryz.prog f rf = true := by
 intro f rf h
 unfold rp at h
 split at h
 ·rename_i h1
  cases h
  exact VDd.cV _ _ h1
 ·rw [au] at h
  obtain ⟨x, hx, rfl⟩ := h
  have h1 := List.find?_some hx
  have h2 := List.mem_of_find?_eq_some hx
  have h3 := aU.1 cj x h2
  have h4 : x.1 = f := by simpa using h1
  rw [← h4]; exact h3
theorem mixed : Tryz.prog.follows .mixedOrders = true := VDd.mixed
theorem sim (m : Nat) : eF Tryz.prog (fJ rp m) := nY mixed cV m
end Go.Proofs.YtdieenbfdeaffabGreat.VRs
namespace Go.Proofs.YtdieenbfdeaffabGreat.VRs
open Go Vpi
open VBn hiding rp tab cV cj mixed sim Big
open VDd (f18 f51 f52 f88)
set_option maxRecDepth 100000
theorem gz : mW VBn.rp rp := fun f rf h => aX f rf (VDd.aX f rf h)
theorem rp116 : rp 51 = some f51 := rfl
theorem rp78 : rp 18 = some f18 := rfl
theorem rp120 : rp 52 = some f52 := rfl
theorem rp127 : rp 142 = some f142 := rfl
theorem rp156 : rp 143 = some f143 := rfl
structure Pre (σ ρ : ar) : Prop where
 len : σ.length ≤ ρ.length
 get : ∀ j, j < σ.length → ρ[j]? = σ[j]?
section
variable {σ ρ : ar} {c : CV} {sz : Nat} {es : List PV}
theorem Pre.refl : Pre σ σ := ⟨av _, fun _ _ => rfl⟩
theorem Pre.push (h : Pre σ ρ) {l : ar} : Pre σ (ρ ++ l) := ⟨by rw [bX]; exact a9 h.len (Nat.le_add_right _ _), fun j hj => by rw [aL (bP hj h.len), h.get j hj]⟩
theorem Pre.set (h : Pre σ ρ) {b : Nat} {x : Blk} (hb : σ.length ≤ b) : Pre σ (ρ.set b x) := ⟨by rw [ay]; exact h.len, fun j hj => by rw [bC (by omega), h.get j hj]⟩
theorem Pre.take (h : Pre σ ρ) : ρ.take σ.length = σ := by
 apply dv
 intro j
 rw [aN]
 split
 ·exact h.get j (by assumption)
 ·rw [aG (by omega)]
theorem mF {l : ar} (h : GL ρ sz c es) : nd (ρ ++ l) c = nd ρ c ++ l := by
 have hlt := h.lt.2
 cases c <;> try rfl
 exact cv (hlt _ _ _ rfl)
theorem mU {b : Nat} {n base : Nat} (hb : ρ[b]? = some (.prow sz es)) (hn : n = es.length) (h : base ≤ b) : back base ρ (.own b 0 n) = some (.p (.sl es)) := by
 have h1 : ¬ b < base := by omega
 simp only [back, dL, h1, if_false, e9 hb hn, aH]
section
variable {rp : cg} {rs : List dH} {base : Nat} {d : Option Nat} {l : List LOp} {dr : Dr} {ks : List KI} {e : Env} {Q : CV → ar → Prop} {xs : List PV}
theorem my {a : Blk} {s x : Opd} {bytes : Nat} (h : GL ρ sz c es) (hc : (es.length + xs.length) * bytes ≤ 140737488355328) (hs : vl e s = c) (hx : vl e x = .own (ρ.length + 1) 0 xs.length) (hz : dE sz xs = true) :
 ExR rp rs base (⟨d, none, none, .append sz bytes s x⟩ :: l) dr ks e (ρ ++ [a, .prow sz xs]) Q = ExR rp rs base l dr ks (sto d (.own (ρ.length + 2) 0 (es.length + xs.length)) e) (nd ρ c ++ [a, .prow sz xs, .prow sz (es ++ xs)]) Q := by
 have hl : (ρ ++ [a]).length = ρ.length + 1 := by simp
 have := ia (rp := rp) (rs := rs) (base := base) (d := d) (l := l) (dr := dr) (ks := ks) (e := e) (Q := Q) (s := s) (x := x) (h.left (τ := [a])) hc hs (by rw [hl]; exact hx) hz
 rw [hl, mF h, aP, aP] at this
 exact this
theorem ky {f : Nat} {args : List CV} (h : Rn rp f args σ fun v τ => ((τ.take σ.length).all (dO σ.length)) = true ∧ ∃ r, back σ.length τ v = some r ∧ ExR rp rs base l dr ks (sto d r e) (τ.take σ.length) Q) :
 KC rp rs base .full f args d l dr ks e σ Q := re h
end
end
def zr (r : List Int) : List PV := r.map zi
def zm (M : List (List Int)) : List PV := M.map fun r => .sl (zr r)
theorem dB {r : List Int} : (zr r).length = r.length := by simp [zr]
theorem jn {M : List (List Int)} : (zm M).length = M.length := by simp [zm]
theorem jm {r : List Int} {i : Nat} {x : Int} (h : r[i]? = some x) : (zr r)[i]? = some (zi x) := by simp [zr, h]
theorem j8 {M : List (List Int)} {i : Nat} {r : List Int} (h : M[i]? = some r) : (zm M)[i]? = some (.sl (zr r)) := by simp [zm, h]
theorem tQ {r s : List Int} : zr (r ++ s) = zr r ++ zr s := by simp [zr]
theorem tR {r s : List (List Int)} : zm (r ++ s) = zm r ++ zm s := by simp [zm]
theorem n7 {M : List (List Int)} {i : Nat} {r : List Int} : (zm M).set i (.sl (zr r)) = zm (M.set i r) := by simp [zm, List.map_set]
theorem jw {α : Type} {l : List α} {i : Nat} {x : α} (h : l[i]? = some x) : l.take (i + 1) = l.take i ++ [x] := by
 obtain ⟨h1, h2⟩ := aq.1 h
 rw [List.take_add_one, h]; rfl
theorem qi {r : List Int} {i : Nat} {x : Int} (h : r[i]? = some x) : zr (r.take (i + 1)) = zr (r.take i) ++ [zi x] := by rw [jw h, tQ]; rfl
theorem wG {M : List (List Int)} {i : Nat} {r : List Int} (h : M[i]? = some r) : zm (M.take (i + 1)) = zm (M.take i) ++ [.sl (zr r)] := by rw [jw h, tR]; rfl
def NL (r : List PV) (xs : List Int) : Prop := r.length = xs.length ∧ ∀ (i : Nat) (p : PV) (x : Int), r[i]? = some p → xs[i]? = some x → Nu p x
def ML (b : List PV) (M : List (List Int)) : Prop := b.length = M.length ∧ ∀ (i : Nat) (p : PV) (r : List Int), b[i]? = some p → M[i]? = some r → ∃ q, p = .sl q ∧ NL q r ∧ q.length ≤ 2000000
theorem NL.ix {r : List PV} {xs : List Int} (h : NL r xs) {i : Nat} (hi : i < r.length) : ∃ p x, r[i]? = some p ∧ xs[i]? = some x ∧ Nu p x := by
 have h2 : i < xs.length := by rw [← h.1]; exact hi
 exact ⟨r[i], xs[i], by simp, by simp, h.2 i _ _ (by simp) (by simp)⟩
def SzL (r : List Int) : Prop := ∀ (i : Nat) (x : Int), r[i]? = some x → Sz x
theorem NL.zr {r : List Int} (h : SzL r) : NL (zr r) r := by
 refine ⟨dB, fun i p x hp hx => ?_⟩
 rw [jm hx] at hp
 cases hp
 exact Nu.zi (h i x hx)
theorem ML.zm {M : List (List Int)} (h : ∀ (i : Nat) (r : List Int), M[i]? = some r → SzL r ∧ r.length ≤ 2000000) : ML (zm M) M := by
 refine ⟨jn, fun i p r hp hr => ?_⟩
 rw [j8 hr] at hp
 cases hp
 exact ⟨_, rfl, .zr (h i r hr).1, by rw [dB]; exact (h i r hr).2⟩
def zf (σ : ar) (g : Nat) (cap : List CV) (p : PV) (y : Int) : Prop :=
 ∀ (ρ : ar), Pre σ ρ → ∀ {rs : List dH} {base : Nat} {d : Option Nat} {l : List LOp} {dr : Dr} {ks : List KI} {e : Env} {Q : CV → ar → Prop},
  KC rp rs base .cell g (.p p :: cap) d l dr ks e ρ Q = ExR rp rs base l dr ks (sto d (.p (zi y)) e) ρ Q
theorem n116 {σ : ar} {g : Nat} {cap : List CV} {r : List PV} {ys : List Int} (hw : Wf σ) (hl : r.length = ys.length) (hm : r.length ≤ 2000000)
 (hg : ∀ i, i < r.length → ∃ p y, r[i]? = some p ∧ ys[i]? = some y ∧ (∃ a b, p = .agg [.bool a, .sl b]) ∧ zf σ g cap p y) {Q : CV → ar → Prop}
 (hQ : ∀ ρ b, Pre σ ρ → Wf ρ → σ.length ≤ b → ρ[b]? = some (.prow 2 (zr ys)) → Q (.own b 0 ys.length) ρ) : Rn rp 51 [.p (.sl r), .fn g cap] σ Q := by
 rw [ew rp116]
 have m1 : ((32 : Nat) : Int) * (r.length : Int) ≤ 281474976710656 := by omega
 have m2 : (r.length : Int) ≤ 9223372036854775807 := by omega
 have i0 : gG 0 = 0 := rfl
 simp only [f51, aJ, SB, ak, aj, ↓reduceIte, reduceCtorEq, ai, ab, ah, ae, aa, af, Int.natCast_nonneg, m1, m2, i0, dN]
 refine aM (β := Nat × ar × Nat) (fun t => ([(1, .fn g cap), (5, .own t.2.2 0 t.1), (11, .p (.sl r)), (12, i64 r.length), (13, i64 t.1)], t.2.1))
  (fun t => t.1 ≤ r.length ∧ Pre σ t.2.1 ∧ Wf t.2.1 ∧ σ.length ≤ t.2.2 ∧ t.2.1[t.2.2]? = some (.prow 2 (zr (ys.take t.1)))) (fun t => r.length - t.1) ((0, σ ++ [.prow 2 []], σ.length) : Nat × ar × Nat) rfl rfl
  ⟨aD _, Pre.refl.push, hw.push rfl, av _, by rw [cP]; rfl⟩ ?_
 rintro ⟨i, ρ, b⟩ ⟨hi, hp, hwf, hb, hgl⟩ ih
 simp only [] at hi hp hwf hb hgl ih ⊢
 by_cases hin : (i : Int) < r.length
 ·obtain ⟨p, y, hpi, hyi, ⟨a1, a2, rfl⟩, hd⟩ := hg i (by omega)
  have w1 := wr1 (i := i) (by omega)
  have htl : (zr (ys.take i)).length = i := by rw [dB, aS]; omega
  have hG : GL ρ 2 (.own b 0 i) (zr (ys.take i)) := .own hgl htl.symm
  have hc : ((zr (ys.take i)).length + [zi y].length) * 32 ≤ 140737488355328 := by rw [htl]; simp; omega
  have hd' := fun {rs base d l dr ks e Q} => hd (ρ ++ [.kblk 2 [.p (.bool a1), .p (.sl a2)]]) hp.push (rs := rs) (base := base) (d := d) (l := l) (dr := dr) (ks := ks) (e := e) (Q := Q)
  have hA := fun {rp rs base d l dr ks e Q s x} => my (rp := rp) (rs := rs) (base := base) (d := d) (l := l) (dr := dr) (ks := ks) (e := e) (Q := Q) (s := s) (x := x) (a := .kblk 2 [.p (.bool a1), .p (.sl a2)]) hG hc
  simp only [SB, ak, aj, ↓reduceIte, reduceCtorEq, ai, ab, ah, ae, aa, af, hin, hpi, SN, hd', hA, ← qi hyi, htl, w1, nd]
  refine ih (i + 1, ρ.set b .dead ++ [.kblk 2 [.p (.bool a1), .p (.sl a2)], .prow 2 [zi y], .prow 2 (zr (ys.take (i + 1)))], ρ.length + 2) _ ⟨by simp only []; omega, (hp.set hb).push, ?_, ?_, ?_⟩ (by simp only []; omega) ?_
  ·have h1 := (((hwf.set (b := b) (x := .dead) rfl).push (x := .kblk 2 [.p (.bool a1), .p (.sl a2)]) rfl).push (x := .prow 2 [zi y]) rfl).push (x := .prow 2 (zr (ys.take (i + 1)))) rfl
   simpa [aP] using h1
  ·simp only []; exact a9 hp.len (Nat.le_add_right _ _)
  ·simp only []
   rw [show ρ.length + 2 = (ρ.set b Blk.dead).length + 2 by rw [ay], cY]; rfl
  ·rfl
 ·obtain rfl : i = r.length := by omega
  simp only [SB, ak, aj, ↓reduceIte, reduceCtorEq, ai, ab, ah, ae, aa, af, hin]
  rw [b6 (by omega)] at hgl
  rw [hl]
  exact hQ ρ b hp hwf hb hgl
theorem Nu.agg {p : PV} {x : Int} (h : Nu p x) : ∃ a b, p = .agg [.bool a, .sl b] := by
 obtain ⟨n1, a, rfl, -⟩ := h
 exact ⟨_, _, rfl⟩
theorem n120 {a : Bool} {b : List PV} {p : PV} {k x : Int} (hk : Nu (.agg [.bool a, .sl b]) k) (hx : Nu p x) : Rn rp 52 [.p p, .ptr 0 0 0] [.kblk 2 [.p (.bool a), .p (.sl b)]] fun v τ => v = .p (zi (k * x)) ∧ τ[0]? = some (.kblk 2 [.p (.bool a), .p (.sl b)]) := by
 have k63 := (sC hk hx).lift gz
 obtain ⟨n1, l1, rfl, -⟩ := hx
 rw [ew rp120]
 simp only [f52, aJ, SB, ak, aj, ↓reduceIte, reduceCtorEq, ai, ab, ah, ae, aa, af, kp2 k63]
 rfl
theorem mc {α : Type} {l : List α} {i : Nat} {x : α} (h : l[i]? = some x) : l.set i x = l := by
 apply dv
 intro j
 by_cases hj : i = j
 ·subst hj; rw [aO (aq.1 h).1, h]
 ·rw [aE hj]
theorem p78 {kp : PV} {k : Int} {r : List PV} {xs : List Int} (hk : Nu kp k) (h : NL r xs) (hm : r.length ≤ 2000000) : Pu rp 18 [kp, .sl r] (.p (.sl (zr (xs.map (k * ·))))) := by
 obtain ⟨a, b, rfl⟩ := Nu.agg hk
 refine aY rp78 ?_
 simp only [f18, aJ, SB, ak, aj, ↓reduceIte, reduceCtorEq, ai, ab, ah, ae, aa, af]
 refine ky (n116 (σ := [.kblk 2 [.p (.bool a), .p (.sl b)]]) (ys := xs.map (k * ·)) (Wf.nil.push (x := .kblk 2 [.p (.bool a), .p (.sl b)]) rfl) (by rw [List.length_map]; exact h.1) hm (fun i hi => ?_) fun ρ c hp hwf hb hg => ?_)
 ·obtain ⟨p, x, h1, h2, h3⟩ := h.ix hi
  refine ⟨p, k * x, h1, by simp [h2], Nu.agg h3, ?_⟩
  intro ρ hpre rs base d l dr ks e Q
  have h0 : ρ[0]? = some (.kblk 2 [.p (.bool a), .p (.sl b)]) := hpre.get 0 (bO _)
  rw [qV (b := 0) (al := [.p p, .ptr 0 0 0]) rfl h0 rfl rfl (n120 hk h3) rfl, mc h0]
 ·rw [hp.take]
  refine ⟨rfl, _, mU hg dB.symm hb, ?_⟩
  simp only [SB, ak, aj, ↓reduceIte, reduceCtorEq, ai, ab, ah, ae, aa, af]
  rfl
theorem n156 {g : Nat} {F : Int → Int → Int} (hF : ∀ p q x y, Nu p x → Nu q y → Pu rp g [p, q] (.p (zi (F x y)))) {a b : List PV} {xs ys : List Int} (ha : NL a xs) (hb : NL b ys) (hl : a.length = b.length) (hm : a.length ≤ 2000000) (h0 : 0 < a.length) {Q : CV → ar → Prop}
 (hQ : ∀ ρ k, ρ[k]? = some (.prow 2 (zr (ek F xs ys))) → Q (.tup [.own k 0 a.length, .p (.int .i64 0)]) ρ) : Rn rp 143 [.p (.sl a), .p (.sl b), .fn g []] [] Q := by
 rw [ew rp156]
 have e1 : ((a.length : Int) != (b.length : Int)) = false := by rw [hl]; simp
 simp only [f143, aJ, SB, ak, aj, ↓reduceIte, reduceCtorEq, ai, ab, ah, ae, aa, af, e1]
 have hzl : (ek F xs ys).length = a.length := by rw [List.length_zipWith, ← ha.1, ← hb.1, hl, Nat.min_self]
 refine aM (β := Nat × ar × CV) (fun t => ([(0, .p (.sl a)), (1, .p (.sl b)), (2, .fn g []), (8, t.2.2), (16, i64 a.length), (17, i64 t.1)], t.2.1))
  (fun t => t.1 ≤ a.length ∧ GL t.2.1 2 t.2.2 (zr ((ek F xs ys).take t.1))) (fun t => a.length - t.1) ((0, [], .nils) : Nat × ar × CV) rfl rfl ⟨aD _, .nil⟩ ?_
 rintro ⟨i, ρ, c⟩ ⟨hi, hG⟩ ih
 simp only [] at hi hG ih ⊢
 by_cases hin : (i : Int) < a.length
 ·obtain ⟨p, x, p1, p2, p3⟩ := ha.ix (i := i) (by omega)
  obtain ⟨q, y, q1, q2, q3⟩ := hb.ix (i := i) (by omega)
  have kF := hF p q x y p3 q3
  obtain ⟨_, _, rfl⟩ := Nu.agg p3
  obtain ⟨_, _, rfl⟩ := Nu.agg q3
  have hz : (ek F xs ys)[i]? = some (F x y) := by rw [List.getElem?_zipWith, p2, q2]
  have w1 := wr1 (i := i) (by omega)
  have htl : (zr ((ek F xs ys).take i)).length = i := by rw [dB, aS]; omega
  have hc : ((zr ((ek F xs ys).take i)).length + [zi (F x y)].length) * 32 ≤ 140737488355328 := by rw [htl]; simp; omega
  have hA := fun {rp rs base d l dr ks e Q s x} hb => mo (rp := rp) (rs := rs) (base := base) (d := d) (l := l) (dr := dr) (ks := ks) (e := e) (Q := Q) (s := s) (x := x) hb hG hc
  simp only [SB, ak, aj, ↓reduceIte, reduceCtorEq, ai, ab, ah, ae, aa, af, hin, p1, q1, SN, kp2 kF, bV, hA rfl, ← qi hz, htl, w1]
  refine ih (i + 1, nd ρ c ++ [.prow 2 [zi (F x y)], .prow 2 (zr ((ek F xs ys).take (i + 1)))], .own (ρ.length + 1) 0 (i + 1)) _ ⟨by simp only []; omega, ?_⟩ (by simp only []; omega) ?_
  ·exact GL.nb (by rw [dB, aS]; omega) rfl
  ·rfl
 ·obtain rfl : i = a.length := by omega
  rw [b6 (by omega)] at hG
  rcases hG with ⟨rfl, h⟩ | ⟨k, rfl, hk⟩
  ·have := congrArg List.length h
   rw [dB, hzl, List.length_nil] at this
   omega
  ·simp only [SB, ak, aj, ↓reduceIte, reduceCtorEq, ai, ab, ah, ae, aa, af, hin]
   rw [dB, hzl]
   exact hQ _ _ hk
theorem p127 {a b : List PV} {xs ys : List Int} (ha : NL a xs) (hb : NL b ys) (hl : a.length = b.length) (hm : a.length ≤ 2000000) (h0 : 0 < a.length) :
 Pu rp 142 [.sl a, .sl b] (.tup [.p (.sl (zr (ek (·+ ·) xs ys))), .p (.int .i64 0)]) := by
 refine aY rp127 ?_
 simp only [f142, aJ, SB, ak, aj, ↓reduceIte, reduceCtorEq, ai, ab, ah, ae, aa, af]
 refine ky (n156 (F := (·+ ·)) (fun p q x y h1 h2 => (p145 h1 h2).lift gz) ha hb hl hm h0 fun ρ k hk => ?_)
 have hn : a.length = (zr (ek (·+ ·) xs ys)).length := by rw [dB, List.length_zipWith, ← ha.1, ← hb.1, hl, Nat.min_self]
 refine ⟨rfl, .tup [.p (.sl (zr (ek (·+ ·) xs ys))), .p (.int .i64 0)], ?_, ?_⟩
 ·have := mU (base := 0) hk hn (aD _)
  exact dz this aQ
 ·simp only [SB, ak, aj, ↓reduceIte, reduceCtorEq, ai, ab, ah, ae, aa, af]
  rfl
section
variable {rp : cg} {rs : List dH} {base : Nat} {d : Option Nat} {l : List LOp} {dr : Dr} {ks : List KI} {e : Env} {σ : ar} {Q : CV → ar → Prop} {sz : Nat} {c : CV} {es : List PV}
end
end Go.Proofs.YtdieenbfdeaffabGreat.VRs
namespace Go.Proofs.YtdieenbfdeaffabGreat.VRs
open Go Vpi
open VBn hiding rp tab cV cj mixed sim Big
open Hn (fm swR tuR)
set_option maxRecDepth 100000
theorem rp210 : rp 141 = some f141 := rfl
theorem rp207 : rp 140 = some f140 := rfl
theorem rp206 : rp 139 = some f139 := rfl
theorem rp205 : rp 138 = some f138 := rfl
theorem rp181 : rp 126 = some f126 := rfl
theorem rp180 : rp 125 = some f125 := rfl
structure Upd (bl bu : Nat) (σ τ : ar) : Prop where
 len : σ.length ≤ τ.length
 get : ∀ j, j < σ.length → j ≠ bl → j ≠ bu → τ[j]? = σ[j]?
theorem Upd.refl {bl bu : Nat} {σ : ar} : Upd bl bu σ σ := ⟨av _, fun _ _ _ _ => rfl⟩
theorem Upd.trans {bl bu : Nat} {σ τ ρ : ar} (h : Upd bl bu σ τ) (k : Upd bl bu τ ρ) : Upd bl bu σ ρ :=
 ⟨a9 h.len k.len, fun j hj h1 h2 => by rw [k.get j (bP hj h.len) h1 h2, h.get j hj h1 h2]⟩
theorem Upd.push {bl bu : Nat} {σ τ : ar} (h : Upd bl bu σ τ) {l : ar} : Upd bl bu σ (τ ++ l) :=
 ⟨by rw [bX]; exact a9 h.len (Nat.le_add_right _ _), fun j hj h1 h2 => by rw [aL (bP hj h.len), h.get j hj h1 h2]⟩
theorem Upd.qC {bl bu : Nat} {σ τ : ar} (h : Upd bl bu σ τ) {x : Blk} : Upd bl bu σ (τ.set bl x) :=
 ⟨by rw [ay]; exact h.len, fun j hj h1 h2 => by rw [bC (Ne.symm h1), h.get j hj h1 h2]⟩
theorem Upd.t9 {bl bu : Nat} {σ τ : ar} (h : Upd bl bu σ τ) {x : Blk} : Upd bl bu σ (τ.set bu x) :=
 ⟨by rw [ay]; exact h.len, fun j hj h1 h2 => by rw [bC (Ne.symm h2), h.get j hj h1 h2]⟩
structure PS (σ : ar) (P bl bu : Nat) (L U : List (List Int)) : Prop where
 pair : σ[P]? = some (.kblk 2 [.own bl 0 L.length, .own bu 0 U.length])
 l : σ[bl]? = some (.prow 1 (zm L))
 u : σ[bu]? = some (.prow 1 (zm U))
 ne : bl ≠ bu
section
variable {σ τ : ar} {P bl bu : Nat} {L U : List (List Int)}
theorem PS.lt (h : PS σ P bl bu L U) : P < σ.length ∧ bl < σ.length ∧ bu < σ.length ∧ P ≠ bl ∧ P ≠ bu := by
 have h1 := h.pair
 have h2 := h.l
 have h3 := h.u
 refine ⟨(aq.1 h1).1, (aq.1 h2).1, (aq.1 h3).1, ?_, ?_⟩
 ·rintro rfl; rw [h1] at h2; cases h2
 ·rintro rfl; rw [h1] at h3; cases h3
theorem PS.push (h : PS σ P bl bu L U) {l : ar} : PS (σ ++ l) P bl bu L U := by
 obtain ⟨a, b, c, _, _⟩ := h.lt
 exact ⟨by rw [aL a]; exact h.pair, by rw [aL b]; exact h.l, by rw [aL c]; exact h.u, h.ne⟩
theorem PS.qC (h : PS σ P bl bu L U) {M : List (List Int)} (hl : M.length = L.length) : PS (σ.set bl (.prow 1 (zm M))) P bl bu M U := by
 obtain ⟨a, b, c, d, e⟩ := h.lt
 exact ⟨by rw [bC (Ne.symm d), hl]; exact h.pair, bt b, by rw [bC h.ne]; exact h.u, h.ne⟩
theorem PS.t9 (h : PS σ P bl bu L U) {M : List (List Int)} (hl : M.length = U.length) : PS (σ.set bu (.prow 1 (zm M))) P bl bu L M := by
 obtain ⟨a, b, c, d, e⟩ := h.lt
 exact ⟨by rw [bC (Ne.symm e), hl]; exact h.pair, by rw [bC (Ne.symm h.ne)]; exact h.l, bt c, h.ne⟩
end
theorem fT {M : List (List Int)} {i : Nat} (h : i < M.length) : (zm M)[i]? = some (.sl (zr (M.getD i []))) := j8 (Hn.cZ h)
theorem n210 {σ : ar} {P o b i k : Nat} {cs : List CV} {M : List (List Int)} (hP : σ[P]? = some (.kblk 2 cs)) (ho : cs[o]? = some (.own b 0 M.length)) (hb : σ[b]? = some (.prow 1 (zm M))) (hi : i < M.length) (hk : k < M.length) {Q : CV → ar → Prop}
 (hQ : Q (.tup []) (σ.set b (.prow 1 (zm (swR M i k))))) : Rn rp 141 [.ptr P 0 o, i64 i, i64 k] σ Q := by
 rw [ew rp210]
 have hlt := (aq.1 hb).1
 have h1 := fT hi
 have h2 := fT hk
 have h3 : ((zm M).set i (.sl (zr (M.getD k []))))[k]? = some (.sl (zr (M.getD k []))) := by
  by_cases h : i = k
  ·subst h; rw [aO (by rw [jn]; exact hi)]
  ·rw [aE h, h2]
 have hs : ∀ X, (σ.set b X)[b]? = some X := fun X => bt hlt
 have he : ((zm M).set i (.sl (zr (M.getD k [])))).set k (.sl (zr (M.getD i []))) = zm (swR M i k) := by rw [n7, n7]; rfl
 simp only [f141, aJ, SB, ak, aj, ↓reduceIte, reduceCtorEq, ai, ab, ah, ae, aa, af, hP, ho, hb, hi, hk, h1, h2, h3, hs, he, SN, List.set_set]
 exact hQ
theorem n207 {σ : ar} {P o b i k w : Nat} {cs : List CV} {M : List (List Int)} {kp : PV} {q : Int} (hq : Nu kp q) (hP : σ[P]? = some (.kblk 2 cs)) (ho : cs[o]? = some (.own b 0 M.length)) (hb : σ[b]? = some (.prow 1 (zm M))) (hi : i < M.length) (hk : k < M.length)
 (hw : ∀ j, j < M.length → (M.getD j []).length = w ∧ SzL (M.getD j [])) (hw0 : 0 < w) (hw2 : w ≤ 2000000) (hsz : SzL ((M.getD k []).map (q * ·))) {Q : CV → ar → Prop}
 (hQ : ∀ g, Q (.tup []) (σ.set b (.prow 1 (zm (fm M i k q))) ++ [g])) : Rn rp 140 [.ptr P 0 o, i64 i, i64 k, .p kp] σ Q := by
 obtain ⟨wi, si⟩ := hw i hi
 obtain ⟨wk, sk⟩ := hw k hk
 have k78 := p78 hq (NL.zr sk) (by rw [dB, wk]; exact hw2)
 have k127 := p127 (NL.zr si) (NL.zr hsz) (by rw [dB, dB, List.length_map, wi, wk]) (by rw [dB, wi]; exact hw2) (by rw [dB, wi]; exact hw0)
 obtain ⟨a1, a2, rfl⟩ := Nu.agg hq
 rw [ew rp207]
 have hlt := (aq.1 hb).1
 have hltP := (aq.1 hP).1
 have hP' : ∀ l, (σ ++ l)[P]? = some (.kblk 2 cs) := fun l => by rw [aL hltP]; exact hP
 have hb' : ∀ l, (σ ++ l)[b]? = some (.prow 1 (zm M)) := fun l => by rw [aL hlt]; exact hb
 have h1 := fT hi
 have h2 := fT hk
 have he : (zm M).set i (.sl (zr (ek (·+ ·) (M.getD i []) ((M.getD k []).map (q * ·))))) = zm (fm M i k q) := by rw [n7]; rfl
 simp only [f140, aJ, SB, ak, aj, ↓reduceIte, reduceCtorEq, ai, ab, ah, ae, aa, af, hP', ho, hb', hi, hk, h1, h2, kp2 k78, kp2 k127, he, SN, cv hlt]
 exact hQ _
theorem n206 {σ : ar} {P o b i w : Nat} {cs : List CV} {M : List (List Int)} (hP : σ[P]? = some (.kblk 2 cs)) (ho : cs[o]? = some (.own b 0 M.length)) (hb : σ[b]? = some (.prow 1 (zm M))) (hi : i < M.length)
 (hw : ∀ j, j < M.length → (M.getD j []).length = w ∧ SzL (M.getD j [])) (hw2 : w ≤ 2000000) {Q : CV → ar → Prop}
 (hQ : Q (.tup []) (σ.set b (.prow 1 (zm (tuR M i))))) : Rn rp 139 [.ptr P 0 o, i64 i] σ Q := by
 obtain ⟨wi, si⟩ := hw i hi
 have k54 := (VBn.p54 (x := -1) (by decide) (by decide)).lift gz
 have k78 := p78 (Nu.zi (Sz.small (by decide) : Sz (-1))) (NL.zr si) (by rw [dB, wi]; exact hw2)
 rw [ew rp206]
 have h1 := fT hi
 have he : (zm M).set i (.sl (zr ((M.getD i []).map (-1 * ·)))) = zm (tuR M i) := by rw [n7]; rfl
 simp only [f139, aJ, SB, ak, aj, ↓reduceIte, reduceCtorEq, ai, ab, ah, ae, aa, af, hP, ho, hb, hi, h1, kp1 k54, kp2 k78, he, SN]
 exact hQ
section
variable {σ : ar} {P bl bu : Nat} {L U : List (List Int)}
theorem n205 {i k : Nat} (h : PS σ P bl bu L U) (hLU : L.length = U.length) (hi : i < L.length) (hk : k < L.length) {Q : CV → ar → Prop}
 (hQ : ∀ τ, Upd bl bu σ τ → PS τ P bl bu (swR L i k) (swR U i k) → Q (.tup []) τ) : Rn rp 138 [.ptr P 0 0, i64 i, i64 k] σ Q := by
 rw [ew rp205]
 have g1 := h.qC (M := swR L i k) Hn.qx
 simp only [f138, aJ, SB, ak, aj, ↓reduceIte, reduceCtorEq, ai, ab, ah, ae, aa, af]
 refine cC (n210 h.pair rfl h.l hi hk ?_)
 simp only [SB, ak, aj, ↓reduceIte, reduceCtorEq, ai, ab, ah, ae, aa, af]
 refine cC (n210 g1.pair rfl g1.u (by rw [← hLU]; exact hi) (by rw [← hLU]; exact hk) ?_)
 simp only [SB, ak, aj, ↓reduceIte, reduceCtorEq, ai, ab, ah, ae, aa, af]
 exact hQ _ (Upd.refl.qC.t9) (g1.t9 Hn.qx)
theorem n180 {i w v : Nat} (h : PS σ P bl bu L U) (hLU : L.length = U.length) (hi : i < L.length)
 (hwl : ∀ j, j < L.length → (L.getD j []).length = w ∧ SzL (L.getD j [])) (hwu : ∀ j, j < U.length → (U.getD j []).length = v ∧ SzL (U.getD j [])) (hw2 : w ≤ 2000000) (hv2 : v ≤ 2000000) {Q : CV → ar → Prop}
 (hQ : ∀ τ, Upd bl bu σ τ → PS τ P bl bu (tuR L i) (tuR U i) → Q (.tup []) τ) : Rn rp 125 [.ptr P 0 0, i64 i] σ Q := by
 rw [ew rp180]
 have g1 := h.qC (M := tuR L i) Hn.qt
 simp only [f125, aJ, SB, ak, aj, ↓reduceIte, reduceCtorEq, ai, ab, ah, ae, aa, af]
 refine cC (n206 h.pair rfl h.l hi hwl hw2 ?_)
 simp only [SB, ak, aj, ↓reduceIte, reduceCtorEq, ai, ab, ah, ae, aa, af]
 refine cC (n206 g1.pair rfl g1.u (by rw [← hLU]; exact hi) hwu hv2 ?_)
 simp only [SB, ak, aj, ↓reduceIte, reduceCtorEq, ai, ab, ah, ae, aa, af]
 exact hQ _ (Upd.refl.qC.t9) (g1.t9 Hn.qt)
theorem n181 {i k w v : Nat} {kp : PV} {q : Int} (hq : Nu kp q) (h : PS σ P bl bu L U) (hLU : L.length = U.length) (hi : i < L.length) (hk : k < L.length)
 (hwl : ∀ j, j < L.length → (L.getD j []).length = w ∧ SzL (L.getD j [])) (hwu : ∀ j, j < U.length → (U.getD j []).length = v ∧ SzL (U.getD j [])) (hw0 : 0 < w) (hv0 : 0 < v) (hw2 : w ≤ 2000000) (hv2 : v ≤ 2000000)
 (hsl : SzL ((L.getD k []).map (q * ·))) (hsu : SzL ((U.getD k []).map (q * ·))) {Q : CV → ar → Prop}
 (hQ : ∀ τ, Upd bl bu σ τ → PS τ P bl bu (fm L i k q) (fm U i k q) → Q (.tup []) τ) : Rn rp 126 [.ptr P 0 0, i64 i, i64 k, .p kp] σ Q := by
 have hq0 := hq
 obtain ⟨a1, a2, rfl⟩ := Nu.agg hq
 rw [ew rp181]
 have h0 := h.push (l := [.kblk 2 [.p (.bool a1), .p (.sl a2)]])
 simp only [f126, aJ, SB, ak, aj, ↓reduceIte, reduceCtorEq, ai, ab, ah, ae, aa, af]
 refine cC (n207 hq0 h0.pair rfl h0.l hi hk hwl hw0 hw2 hsl fun g => ?_)
 have g1 := (h0.qC (M := fm L i k q) Hn.kJ).push (l := [g])
 have hg : ∀ l, (((σ ++ [Blk.kblk 2 [.p (.bool a1), .p (.sl a2)]]).set bl (.prow 1 (zm (fm L i k q))) ++ [g]) ++ l)[σ.length]? = some (.kblk 2 [.p (.bool a1), .p (.sl a2)]) := fun l => by
  obtain ⟨_, b, _, _, _⟩ := h.lt
  rw [cv b, aP, aP, show σ.length = (σ.set bl (Blk.prow 1 (zm (fm L i k q)))).length by rw [ay], cP]
  rfl
 have hg0 := hg []
 rw [c8] at hg0
 generalize hρ : (σ ++ [Blk.kblk 2 [CV.p (PV.bool a1), CV.p (PV.sl a2)]]).set bl (Blk.prow 1 (zm (fm L i k q))) ++ [g] = ρ at g1 hg0
 have hup : Upd bl bu σ ρ := by rw [← hρ]; exact ((Upd.refl.push).qC).push
 simp only [SB, ak, aj, ↓reduceIte, reduceCtorEq, ai, ab, ah, ae, aa, af, hg0]
 refine cC (n207 hq0 g1.pair rfl g1.u (by rw [← hLU]; exact hi) (by rw [← hLU]; exact hk) hwu hv0 hv2 hsu fun g' => ?_)
 simp only [SB, ak, aj, ↓reduceIte, reduceCtorEq, ai, ab, ah, ae, aa, af]
 exact hQ _ (hup.t9.push) ((g1.t9 Hn.kJ).push)
end
end Go.Proofs.YtdieenbfdeaffabGreat.VRs
namespace Go.Proofs.YtdieenbfdeaffabGreat.VRs
open Go Vpi
open VBn hiding rp tab cV cj mixed sim Big
open VDd (f31 f90)
open Hn (fm swR tuR Fl)
set_option maxRecDepth 100000
theorem rp204 : rp 90 = some f90 := rfl
theorem rp203 : rp 122 = some f122 := rfl
theorem rp202 : rp 137 = some f137 := rfl
theorem vB {n1 n2 : Bool} {A B : Nat} {x y : Int} (hx : x = if n1 = true then -(A : Int) else A) (hy : y = if n2 = true then -(B : Int) else B) (hB : B ≠ 0) :
 ∃ q0 r0 : Int, q0 = (if (!(n1 == n2)) = true then -((A / B : Nat) : Int) else ((A / B : Nat) : Int)) ∧ r0 = (if n1 = true then -((A % B : Nat) : Int) else ((A % B : Nat) : Int)) ∧ x = q0 * y + r0 ∧ q0.natAbs ≤ x.natAbs ∧ r0.natAbs ≤ x.natAbs ∧ r0.natAbs < y.natAbs ∧
  (r0.sign = 0 → Fl x y q0 r0) ∧ (r0.sign ≠ 0 → r0.sign = y.sign → Fl x y q0 r0) ∧ (r0.sign ≠ 0 → r0.sign ≠ y.sign → Fl x y (q0 - 1) (r0 + y)) := by
 have hd : (A : Int) = ((A / B : Nat) : Int) * (B : Int) + ((A % B : Nat) : Int) := by
  have := Nat.div_add_mod A B
  have h2 : (A : Int) = ((B * (A / B) + A % B : Nat) : Int) := by rw [this]
  rw [h2, Int.natCast_add, Int.natCast_mul, Int.mul_comm]
 have hm : A % B < B := ep _ (dU hB)
 have hqle : A / B ≤ A := Nat.div_le_self _ _
 have hrle : A % B ≤ A := Nat.mod_le _ _
 generalize A / B = D at *
 generalize A % B = R at *
 have key : x = (if (!(n1 == n2)) = true then -(D : Int) else (D : Int)) * y + (if n1 = true then -(R : Int) else (R : Int)) := by
  rw [hx, hy]
  cases n1 <;> cases n2
  ·show (A : Int) = (D : Int) * (B : Int) + (R : Int)
   exact hd
  ·show (A : Int) = -(D : Int) * -(B : Int) + (R : Int)
   rw [Int.neg_mul_neg]; exact hd
  ·show -(A : Int) = -(D : Int) * (B : Int) + -(R : Int)
   rw [Int.neg_mul]; omega
  ·show -(A : Int) = (D : Int) * -(B : Int) + -(R : Int)
   rw [Int.mul_neg]; omega
 refine ⟨_, _, rfl, rfl, key, ?_, ?_, ?_, ?_, ?_, ?_⟩
 ·rw [hx]; cases n1 <;> cases n2 <;> simp <;> omega
 ·rw [hx]; cases n1 <;> simp <;> omega
 ·rw [hy]; cases n1 <;> cases n2 <;> simp <;> omega
 ·intro h0
  have h1 := Int.sign_eq_zero_iff_zero.1 h0
  refine ⟨key, ?_, ?_, ?_⟩
  ·rw [h1]
   rw [hy]; cases n2 <;> simp <;> omega
  ·rw [hx]; cases n1 <;> cases n2 <;> simp <;> omega
  ·rw [h1, hy]; cases n2 <;> simp <;> omega
 ·intro h0 h1
  have hR : R ≠ 0 := by rintro rfl; apply h0; cases n1 <;> rfl
  refine ⟨key, ?_, ?_, ?_⟩
  ·rw [hy] at h1 ⊢
   cases n1 <;> cases n2
   ·left; simp; omega
   ·exfalso
    rw [bo (by simp; omega : (0 : Int) < if false = true then -(R : Int) else R), bY (by simp; omega : (if true = true then -(B : Int) else (B : Int)) < 0)] at h1
    cases h1
   ·exfalso
    rw [bY (by simp; omega : (if true = true then -(R : Int) else (R : Int)) < 0), bo (by simp; omega : (0 : Int) < if false = true then -(B : Int) else B)] at h1
    cases h1
   ·right; simp; omega
  ·rw [hx]; cases n1 <;> cases n2 <;> simp <;> omega
  ·rw [hy]; cases n1 <;> cases n2 <;> simp <;> omega
 ·intro h0 h1
  have hR : R ≠ 0 := by rintro rfl; apply h0; cases n1 <;> rfl
  refine ⟨by rw [Int.sub_mul]; omega, ?_, ?_, ?_⟩
  ·rw [hy] at h1 ⊢
   cases n1 <;> cases n2
   ·exfalso
    apply h1
    rw [bo (by simp; omega : (0 : Int) < if false = true then -(R : Int) else R), bo (by simp; omega : (0 : Int) < if false = true then -(B : Int) else B)]
   ·right; simp; omega
   ·left; simp; omega
   ·exfalso
    apply h1
    rw [bY (by simp; omega : (if true = true then -(R : Int) else (R : Int)) < 0), bY (by simp; omega : (if true = true then -(B : Int) else (B : Int)) < 0)]
  ·rw [hx]; cases n1 <;> cases n2 <;> simp <;> omega
  ·rw [hy] at h1 ⊢
   cases n1 <;> cases n2
   ·exfalso
    apply h1
    rw [bo (by simp; omega : (0 : Int) < if false = true then -(R : Int) else R), bo (by simp; omega : (0 : Int) < if false = true then -(B : Int) else B)]
   ·simp; omega
   ·simp; omega
   ·exfalso
    apply h1
    rw [bY (by simp; omega : (if true = true then -(R : Int) else (R : Int)) < 0), bY (by simp; omega : (if true = true then -(B : Int) else (B : Int)) < 0)]
theorem fl134 {p p' : PV} {x y : Int} (h : Nu p x) (h' : Nu p' y) (hy : y ≠ 0) : ∃ q r, Fl x y q r ∧ Pu VBn.rp 57 [p, p'] (.tup [.p (zi q), .p (zi r), .p (.int .i64 0)]) := by
 have hx := h.sz
 have hys := h'.sz
 have k77y := VBn.p77 h'
 obtain ⟨n1, a, rfl, ha, hna, rfl⟩ := h
 have h'' := h'
 obtain ⟨n2, b, rfl, hb, hnb, rfl⟩ := h'
 have hb0 : val b ≠ 0 := by intro h0; apply hy; unfold iv; rw [h0]; cases n2 <;> rfl
 obtain ⟨q0, r0, eq0, er0, key, qle, rle, rlt, f1, f2, f3⟩ := vB (n1 := n1) (n2 := n2) (A := val a) (B := val b) (x := iv n1 a) (y := iv n2 b) rfl rfl hb0
 rw [cH] at hna hnb
 have k1 := VBn.p159 ha hb (by omega) (by omega) hb0
 have hdq : (dgl (val a / val b)).length ≤ a.length := bE (bQ (Nat.div_le_self _ _) (bR ha))
 have hdr : (dgl (val a % val b)).length ≤ a.length := bE (bQ (Nat.mod_le _ _) (bR ha))
 have kq := VBn.p105 (neg := !(n1 == n2)) (aW (val a / val b)) (by omega)
 have kr := VBn.p105 (neg := n1) (aW (val a % val b)) (by omega)
 simp only [aZ, iR] at kq kr
 rw [← eq0] at kq
 rw [← er0] at kr
 have hqz : Sz q0 := hx.le qle
 have hrz : Sz r0 := hx.le rle
 have k77 := VBn.p77 (Nu.zi hrz)
 have ks := VBn.p157 (Nu.zi hqz) (Nu.zi (x := 1) (Sz.small (by decide)))
 have ka := VBn.p145 (Nu.zi hrz) h''
 have k54 := VBn.p54 (x := 1) (by decide) (by decide)
 rw [bg] at k77 ka
 rw [bg (x := q0)] at ks
 have e0 : ((0 : Int) != 0) = false := rfl
 by_cases h0 : r0.sign = 0
 ·refine ⟨q0, r0, f1 h0, ?_⟩
  refine aY VBn.rp134 ?_
  have e1 : (r0.sign != 0) = false := by rw [h0]; rfl
  simp only [VBn.f57, aJ, SB, ak, aj, ↓reduceIte, reduceCtorEq, ai, ab, ah, ae, aa, af, kp2 k1, bV, e0, kp2 kq, kp2 kr, kp1 k77, e1]
  rw [ez]
  refine ⟨by rfl, ?_⟩
  simp only [SB, ak, aj, ↓reduceIte, reduceCtorEq, ai, ab, ah, ae, aa, af]
  exact dT aQ aQ aQ
 ·have e1 : (r0.sign != 0) = true := by simp [h0]
  by_cases h1 : r0.sign = (iv n2 b).sign
  ·refine ⟨q0, r0, f2 h0 h1, ?_⟩
   refine aY VBn.rp134 ?_
   rw [← h1] at k77y
   simp only [VBn.f57, aJ, SB, ak, aj, ↓reduceIte, reduceCtorEq, ai, ab, ah, ae, aa, af, kp2 k1, bV, e0, kp2 kq, kp2 kr, kp1 k77, e1, kp1 k77y, bne_self_eq_false]
   rw [ez]
   refine ⟨by rfl, ?_⟩
   simp only [SB, ak, aj, ↓reduceIte, reduceCtorEq, ai, ab, ah, ae, aa, af]
   exact dT aQ aQ aQ
  ·refine ⟨q0 - 1, r0 + iv n2 b, f3 h0 h1, ?_⟩
   refine aY VBn.rp134 ?_
   have e2 : (r0.sign != (iv n2 b).sign) = true := by simp [h1]
   simp only [VBn.f57, aJ, SB, ak, aj, ↓reduceIte, reduceCtorEq, ai, ab, ah, ae, aa, af, kp2 k1, bV, e0, kp2 kq, kp2 kr, kp1 k77, e1, kp1 k77y, e2, kp1 k54, kp2 ks, kp2 ka]
   rw [ez]
   refine ⟨by rfl, ?_⟩
   simp only [SB, ak, aj, ↓reduceIte, reduceCtorEq, ai, ab, ah, ae, aa, af]
   exact dT aQ aQ aQ
theorem p204 {p : PV} {x : Int} (h : Nu p x) : Pu rp 90 [p] (.p (zi (x.natAbs : Int))) := by
 obtain ⟨n1, a, rfl, ha, hna, rfl⟩ := h
 rw [cH] at hna
 have k := (VBn.p105 (neg := false) ha (by omega)).lift gz
 rw [mk_val, show iv false a = ((iv n1 a).natAbs : Int) by rw [iM]; rfl] at k
 refine aY rp204 ?_
 simp only [f90, aJ, SB, ak, aj, ↓reduceIte, reduceCtorEq, ai, ab, ah, ae, aa, af, kp2 k]
 rfl
theorem p203 {m n : Nat} (hm : Sz (m : Int)) (hn : Sz (n : Int)) : ∃ c : Int, Pu rp 122 [zi (m : Int), zi (n : Int)] (.p (.int .i64 c)) ∧ (c < 0 ↔ m < n) := by
 have km := (VBn.p77 (Nu.zi hm)).lift gz
 have kn := (VBn.p77 (Nu.zi hn)).lift gz
 rw [bg] at km kn
 have dm : (dgl m).length ≤ 1099511627776 := by
  have := bE (k := fR) (show m < LB ^ fR from hm)
  rw [cH] at this; omega
 have dn : (dgl n).length ≤ 1099511627776 := by
  have := bE (k := fR) (show n < LB ^ fR from hn)
  rw [cH] at this; omega
 have kc := (VBn.p177 (aW m) (aW n) dm dn).lift gz
 simp only [aZ] at kc
 have am : ((m : Int).natAbs) = m := rfl
 have an : ((n : Int).natAbs) = n := rfl
 rw [am] at km
 rw [an] at kn
 rcases eu m with rfl | hm0
 ·rcases eu n with rfl | hn0
  ·refine ⟨0, ?_, by simp⟩
   refine aY rp203 ?_
   have c0 : eV 0 0 = 0 := rfl
   rw [c0] at kc
   have sm : ((0 : Nat) : Int).sign = 0 := rfl
   rw [sm] at km kn
   have t1 : ¬ ((0 : Int) < 0) := by decide
   have t2 : ¬ ((0 : Int) > 0) := by decide
   rw [bg]
   simp only [f122, aJ, SB, ak, aj, ↓reduceIte, reduceCtorEq, ai, ab, ah, ae, aa, af, am, kp1 km, kp1 kn, t1, t2, kp2 kc]
   rfl
  ·refine ⟨-1, ?_, by simp [hn0]⟩
   refine aY rp203 ?_
   have sm : ((0 : Nat) : Int).sign = 0 := rfl
   have sn : (n : Int).sign = 1 := bo (by omega)
   rw [sm] at km
   rw [sn] at kn
   have t1 : ((0 : Int) < 1) := by decide
   rw [bg, bg]
   simp only [f122, aJ, SB, ak, aj, ↓reduceIte, reduceCtorEq, ai, ab, ah, ae, aa, af, am, an, kp1 km, kp1 kn, t1]
   rfl
 ·rcases eu n with rfl | hn0
  ·refine ⟨1, ?_, by simp⟩
   refine aY rp203 ?_
   have sm : (m : Int).sign = 1 := bo (by omega)
   have sn : ((0 : Nat) : Int).sign = 0 := rfl
   rw [sm] at km
   rw [sn] at kn
   have t1 : ¬ ((1 : Int) < 0) := by decide
   have t2 : ((1 : Int) > 0) := by decide
   rw [bg, bg]
   simp only [f122, aJ, SB, ak, aj, ↓reduceIte, reduceCtorEq, ai, ab, ah, ae, aa, af, am, an, kp1 km, kp1 kn, t1, t2]
   rfl
  ·refine ⟨eV m n, ?_, ?_⟩
   ·refine aY rp203 ?_
    have sm : (m : Int).sign = 1 := bo (by omega)
    have sn : (n : Int).sign = 1 := bo (by omega)
    rw [sm] at km
    rw [sn] at kn
    have t1 : ¬ ((1 : Int) < 1) := by decide
    have t2 : ¬ ((1 : Int) > 1) := by decide
    have t3 : IntKind.i64.wrap (1 * eV m n) = eV m n := by
     rw [Int.one_mul, IntWalk.i64_in _ ?_]
     unfold eV
     split
     ·decide
     ·split <;> decide
    rw [bg, bg]
    simp only [f122, aJ, SB, ak, aj, ↓reduceIte, reduceCtorEq, ai, ab, ah, ae, aa, af, am, an, kp1 km, kp1 kn, t1, t2, kp2 kc, t3]
    rfl
   ·unfold eV
    split
    ·simp; assumption
    ·split
     ·simp; omega
     ·simp; omega
end Go.Proofs.YtdieenbfdeaffabGreat.VRs
namespace Go.Proofs.YtdieenbfdeaffabGreat.VRs
open Go Vpi
open VBn hiding rp tab cV cj mixed sim Big
open Hn (fm swR tuR Fl en)
set_option maxRecDepth 100000
theorem nv {L : List (List Int)} {i j : Nat} (h : j < (L.getD i []).length) : (zr (L.getD i []))[j]? = some (zi (en L i j)) := by
 refine jm ?_
 unfold en
 generalize L.getD i [] = r at *
 simp [aK, h]
theorem AO {L : List (List Int)} {i j : Nat} (hs : SzL (L.getD i [])) (h : j < (L.getD i []).length) : Sz (en L i j) := by
 refine hs j _ ?_
 unfold en
 generalize L.getD i [] = r at *
 simp [aK, h]
def Lst (L : List (List Int)) (r c i : Nat) (t : Int) : Prop :=
 (t = -1 ∧ ∀ k, r ≤ k → k < i → en L k c = 0) ∨ ∃ a : Nat, t = a ∧ r ≤ a ∧ a < i ∧ en L a c ≠ 0 ∧ ∀ k, r ≤ k → k < i → en L k c ≠ 0 → (en L a c).natAbs ≤ (en L k c).natAbs
theorem Lst.zero {L : List (List Int)} {r c i : Nat} {t : Int} (h : Lst L r c i t) (h0 : en L i c = 0) : Lst L r c (i + 1) t := by
 rcases h with ⟨h1, h2⟩ | ⟨a, h1, h2, h3, h4, h5⟩
 ·refine .inl ⟨h1, fun k hk hki => ?_⟩
  rcases ax k i with h | h
  ·exact h2 k hk h
  ·obtain rfl : k = i := by omega
   exact h0
 ·refine .inr ⟨a, h1, h2, by omega, h4, fun k hk hki hz => ?_⟩
  rcases ax k i with h | h
  ·exact h5 k hk h hz
  ·obtain rfl : k = i := by omega
   exact absurd h0 hz
theorem Lst.first {L : List (List Int)} {r c i : Nat} (h : ∀ k, r ≤ k → k < i → en L k c = 0) (hr : r ≤ i) (h0 : en L i c ≠ 0) : Lst L r c (i + 1) i := by
 refine .inr ⟨i, rfl, hr, by omega, h0, fun k hk hki hz => ?_⟩
 rcases ax k i with h' | h'
 ·exact absurd (h k hk h') hz
 ·obtain rfl : k = i := by omega
  exact av _
theorem Lst.ct {L : List (List Int)} {r c i a : Nat} (h2 : r ≤ a) (h3 : a < i) (h4 : en L a c ≠ 0) (h5 : ∀ k, r ≤ k → k < i → en L k c ≠ 0 → (en L a c).natAbs ≤ (en L k c).natAbs) (h : ¬ (en L i c).natAbs < (en L a c).natAbs) : Lst L r c (i + 1) a := by
 refine .inr ⟨a, rfl, h2, by omega, h4, fun k hk hki hz => ?_⟩
 rcases ax k i with h' | h'
 ·exact h5 k hk h' hz
 ·obtain rfl : k = i := by omega
  omega
theorem Lst.less {L : List (List Int)} {r c i a : Nat} (h2 : r ≤ a) (h3 : a < i) (h0 : en L i c ≠ 0) (h5 : ∀ k, r ≤ k → k < i → en L k c ≠ 0 → (en L a c).natAbs ≤ (en L k c).natAbs) (h : (en L i c).natAbs < (en L a c).natAbs) : Lst L r c (i + 1) i := by
 refine .inr ⟨i, rfl, by omega, by omega, h0, fun k hk hki hz => ?_⟩
 rcases ax k i with h' | h'
 ·have := h5 k hk h' hz; omega
 ·obtain rfl : k = i := by omega
  exact av _
theorem n202 {σ : ar} {P bl bu rb pb cb r c w : Nat} {L U : List (List Int)} (h : PS σ P bl bu L U) (hrb : σ[rb]? = some (.kblk 1 [i64 r])) (hpb : σ[pb]? = some (.kblk 1 [.ptr P 0 0])) (hcb : σ[cb]? = some (.kblk 1 [i64 c]))
 (hwl : ∀ j, j < L.length → (L.getD j []).length = w ∧ SzL (L.getD j [])) (hc : c < w) (hr : r ≤ L.length) (hm : L.length ≤ 2000000) {Q : CV → ar → Prop}
 (hQ : ∀ t τ, Pre σ τ → PS τ P bl bu L U → Lst L r c L.length t → Q (.p (.int .i64 t)) τ) : Rn rp 137 [.ptr rb 0 0, .ptr pb 0 0, .ptr cb 0 0] σ Q := by
 rw [ew rp202]
 simp only [f137, aJ, SB, ak, aj, ↓reduceIte, reduceCtorEq, ai, ab, ah, ae, aa, af, hrb]
 refine aM (β := Nat × Int × ar) (fun t => ([(1, .ptr pb 0 0), (2, .ptr cb 0 0), (4, .p (.int .i64 t.2.1)), (5, i64 t.1)], t.2.2))
  (fun t => t.1 ≤ L.length ∧ r ≤ t.1 ∧ Pre σ t.2.2 ∧ PS t.2.2 P bl bu L U ∧ Lst L r c t.1 t.2.1) (fun t => L.length - t.1) ((r, -1, σ) : Nat × Int × ar) rfl rfl
  ⟨hr, av _, Pre.refl, h, .inl ⟨rfl, fun k hk hk2 => by omega⟩⟩ ?_
 rintro ⟨i, t, ρ⟩ ⟨hi, hri, hp, hps, hl⟩ ih
 simp only [] at hi hri hp hps hl ih ⊢
 have gp : ∀ l, (ρ ++ l)[pb]? = some (.kblk 1 [.ptr P 0 0]) := fun l => by rw [aL (bP (aq.1 hpb).1 hp.len), hp.get _ (aq.1 hpb).1, hpb]
 have gc : ∀ l, (ρ ++ l)[cb]? = some (.kblk 1 [i64 c]) := fun l => by rw [aL (bP (aq.1 hcb).1 hp.len), hp.get _ (aq.1 hcb).1, hcb]
 have gp0 := gp []
 rw [c8] at gp0
 have gP := hps.pair
 by_cases hin : (i : Int) < L.length
 ·have hin' : i < L.length := by omega
  obtain ⟨wi, si⟩ := hwl i hin'
  have hrow := fT hin'
  have hci : c < (L.getD i []).length := by rw [wi]; exact hc
  have hx := nv hci
  have zx := AO si hci
  have k77 := (VBn.p77 (Nu.zi zx)).lift gz
  have k204 := p204 (Nu.zi zx)
  rw [bg (x := en L i c)] at k77 k204
  have w1 := wr1 (i := i) (by omega)
  have gP' : ∀ l, (ρ ++ l)[P]? = some (.kblk 2 [.own bl 0 L.length, .own bu 0 U.length]) := fun l => (hps.push).pair
  have gl' : ∀ l, (ρ ++ l)[bl]? = some (.prow 1 (zm L)) := fun l => (hps.push).l
  have fin := fun (t' : Int) (g : ar) (e : Env) (hL' : Lst L r c (i + 1) t') he => ih (i + 1, t', ρ ++ g) e ⟨by simp only []; omega, by simp only []; omega, hp.push, hps.push, hL'⟩ (by simp only []; omega) he
  by_cases h0 : en L i c = 0
  ·have s0 : ((en L i c).sign != 0) = false := by rw [h0]; rfl
   simp only [SB, ak, aj, ↓reduceIte, reduceCtorEq, ai, ab, ah, ae, aa, af, gp0, gP, hin, hin', gp, gc, gP', gl', hrow, hx, cf, bV, SN, kp1 k77, s0, w1]
   exact fin t _ _ (hl.zero h0) rfl
  ·have s0 : ((en L i c).sign != 0) = true := by
    rw [bne_iff_ne]; exact fun hh => h0 (Int.sign_eq_zero_iff_zero.1 hh)
   rcases hl with ⟨rfl, hz⟩ | ⟨a, rfl, h2, h3, h4, h5⟩
   ·have t1 : ((-1 : Int) < 0) := by decide
    simp only [SB, ak, aj, ↓reduceIte, reduceCtorEq, ai, ab, ah, ae, aa, af, gp0, gP, hin, hin', gp, gc, gP', gl', hrow, hx, cf, bV, SN, kp1 k77, s0, t1, w1]
    exact fin i _ _ (.first hz hri h0) rfl
   ·have t1 : ¬ ((a : Int) < 0) := by omega
    have ha' : a < L.length := by omega
    obtain ⟨wa, sa⟩ := hwl a ha'
    have hrowa := fT ha'
    have hca : c < (L.getD a []).length := by rw [wa]; exact hc
    have hy := nv hca
    have zy := AO sa hca
    have k204y := p204 (Nu.zi zy)
    obtain ⟨cm, kc, hcm⟩ := p203 (m := (en L i c).natAbs) (n := (en L a c).natAbs) (by unfold Sz at zx ⊢; simpa using zx) (by unfold Sz at zy ⊢; simpa using zy)
    by_cases hlt : (en L i c).natAbs < (en L a c).natAbs
    ·have hc0 : cm < 0 := hcm.2 hlt
     simp only [SB, ak, aj, ↓reduceIte, reduceCtorEq, ai, ab, ah, ae, aa, af, gp0, gP, hin, hin', ha', gp, gc, gP', gl', hrow, hrowa, hx, hy, cf, bV, SN, kp1 k77, kp1 k204, kp1 k204y, kp2 kc, hc0, s0, t1, w1]
     exact fin i _ _ (.less h2 h3 h0 h5 hlt) rfl
    ·have hc0 : ¬ cm < 0 := fun hh => hlt (hcm.1 hh)
     simp only [SB, ak, aj, ↓reduceIte, reduceCtorEq, ai, ab, ah, ae, aa, af, gp0, gP, hin, hin', ha', gp, gc, gP', gl', hrow, hrowa, hx, hy, cf, bV, SN, kp1 k77, kp1 k204, kp1 k204y, kp2 kc, hc0, s0, t1, w1]
     exact fin a _ _ (.ct h2 h3 h4 h5 hlt) rfl
 ·obtain rfl : i = L.length := by omega
  simp only [SB, ak, aj, ↓reduceIte, reduceCtorEq, ai, ab, ah, ae, aa, af, gp0, gP, hin]
  exact hQ t ρ hp hps hl
end Go.Proofs.YtdieenbfdeaffabGreat.VRs
namespace Go.Proofs.YtdieenbfdeaffabGreat.VRs
open Go Vpi
open VBn hiding rp tab cV cj mixed sim Big
open Hn (fm swR tuR Fl en Wd Bd Col Inn Ph kL)
set_option maxRecDepth 100000
theorem rp179 : rp 124 = some f124 := rfl
def lw (m : Nat) (W : List (List Int)) : List (List Int) := W.map (List.take m)
def uw (m : Nat) (W : List (List Int)) : List (List Int) := W.map (List.drop m)
theorem gZ {m : Nat} {W : List (List Int)} : (lw m W).length = W.length := by simp [lw]
theorem n9 {m : Nat} {W : List (List Int)} : (uw m W).length = W.length := by simp [uw]
theorem sI {f : List Int → List Int} (hf : f [] = []) {W : List (List Int)} {i : Nat} : (W.map f).getD i [] = f (W.getD i []) := by
 rw [aK, aK, cd]
 cases W[i]? with
 | none => simp [hf]
 | some x => rfl
theorem iE {m i : Nat} {W : List (List Int)} : (lw m W).getD i [] = (W.getD i []).take m := sI List.take_nil
theorem jK {m i : Nat} {W : List (List Int)} : (uw m W).getD i [] = (W.getD i []).drop m := sI List.drop_nil
theorem ya {m i k : Nat} {q : Int} {W : List (List Int)} : fm (lw m W) i k q = lw m (fm W i k q) := by
 unfold fm
 rw [iE, iE]
 unfold lw
 rw [List.map_set, List.take_zipWith, List.map_take]
theorem wQ {m i k : Nat} {q : Int} {W : List (List Int)} : fm (uw m W) i k q = uw m (fm W i k q) := by
 unfold fm
 rw [jK, jK]
 unfold uw
 rw [List.map_set, List.drop_zipWith, List.map_drop]
theorem C9 {m i k : Nat} {W : List (List Int)} : swR (lw m W) i k = lw m (swR W i k) := by
 unfold swR
 rw [iE, iE]
 unfold lw
 rw [List.map_set, List.map_set]
theorem CC {m i k : Nat} {W : List (List Int)} : swR (uw m W) i k = uw m (swR W i k) := by
 unfold swR
 rw [jK, jK]
 unfold uw
 rw [List.map_set, List.map_set]
theorem C8 {m i : Nat} {W : List (List Int)} : tuR (lw m W) i = lw m (tuR W i) := by
 unfold tuR
 rw [iE]
 unfold lw
 rw [List.map_set, List.map_take]
theorem CB {m i : Nat} {W : List (List Int)} : tuR (uw m W) i = uw m (tuR W i) := by
 unfold tuR
 rw [jK]
 unfold uw
 rw [List.map_set, List.map_drop]
theorem kv {m i j : Nat} {W : List (List Int)} (h : j < m) : en (lw m W) i j = en W i j := by
 unfold en
 rw [iE]
 generalize W.getD i [] = s
 rw [aK, aK, aN, if_pos h]
theorem AM {m i j : Nat} {W : List (List Int)} : en (uw m W) i j = en W i (m + j) := by
 unfold en
 rw [jK]
 generalize W.getD i [] = s
 rw [aK, aK, bF]
def SzA (W : List (List Int)) : Prop := ∀ i j, Sz (en W i j)
theorem qv {r : List Int} (h : ∀ j, Sz (r.getD j 0)) : SzL r := by
 intro j x hx
 have := h j
 rw [aK, hx] at this
 exact this
theorem iD {m n : Nat} {W : List (List Int)} (hw : Wd (m + n) W) (hs : SzA W) : ∀ j, j < (lw m W).length → ((lw m W).getD j []).length = m ∧ SzL ((lw m W).getD j []) := by
 intro j hj
 rw [gZ] at hj
 refine ⟨by rw [iE, aS, hw _ _ (Hn.cZ hj)]; omega, qv fun k => ?_⟩
 rcases ax k m with hk | hk
 ·have := hs j k
  rw [← kv hk] at this
  exact this
 ·rw [aK, aG (by rw [iE, aS]; omega)]
  exact Sz.small (by decide)
theorem qo {m n : Nat} {W : List (List Int)} (hw : Wd (m + n) W) (hs : SzA W) : ∀ j, j < (uw m W).length → ((uw m W).getD j []).length = n ∧ SzL ((uw m W).getD j []) := by
 intro j hj
 rw [n9] at hj
 refine ⟨by rw [jK, List.length_drop, hw _ _ (Hn.cZ hj)]; omega, qv fun k => ?_⟩
 have := hs j (m + k)
 rw [← AM] at this
 exact this
theorem x7 {r : List Int} {q : Int} (h : ∀ j, Sz (q * r.getD j 0)) : SzL (r.map (q * ·)) := by
 refine qv fun j => ?_
 have := h j
 rw [aK] at this ⊢
 rw [cd]
 cases hx : r[j]? with
 | none => exact (Sz.small (by decide) : Sz 0)
 | some x => rw [hx] at this; exact this
theorem pP {m i : Nat} {q : Int} {W : List (List Int)} (h : ∀ j, Sz (q * en W i j)) : SzL (((lw m W).getD i []).map (q * ·)) := by
 refine x7 fun j => ?_
 rcases ax j m with hj | hj
 ·have := h j
  rw [← kv hj] at this
  exact this
 ·rw [aK, aG (by rw [iE, aS]; omega)]
  rw [Option.getD_none, Int.mul_zero]
  exact Sz.small (by decide)
theorem pD {m i : Nat} {q : Int} {W : List (List Int)} (h : ∀ j, Sz (q * en W i j)) : SzL (((uw m W).getD i []).map (q * ·)) := by
 refine x7 fun j => ?_
 have := h (m + j)
 rw [← AM] at this
 exact this
theorem iy {W0 W1 W : List (List Int)} {w r c : Nat} (h : Col W0 W1 w r c) (k : Col W1 W w r c) : Col W0 W w r c :=
 ⟨k.len.trans h.len, k.wd, h.sp.trans k.sp, fun i hi => (k.up i hi).trans (h.up i hi), k.low⟩
theorem fx {x : Int} {B : Nat} (h : x.natAbs ≤ B) (hB : B < LB ^ fR) : Sz x := bQ h hB
theorem vt {rs : List dH} {c : RCode} {ks : List KI} {Q : CV → ar → Prop} {G : Prop} {R : Env → ar → Prop} (hmain : (∀ e ρ, R e ρ → Ex rp rs (.loop c) ks e ρ Q) → G) (hrest : ∀ e ρ, R e ρ → Ex rp rs (.loop c) ks e ρ Q) : G := hmain hrest
theorem n179 {σ : ar} {P bl bu m n r c E : Nat} {W : List (List Int)} (h : PS σ P bl bu (lw m W) (uw m W)) (hw : Wd (m + n) W) (hc : c < m) (hn0 : 0 < n) (hm2 : m ≤ 2000000) (hn2 : n ≤ 2000000) (hW : W.length ≤ 2000000) (hr : r < W.length)
 (hlow : ∀ i, r ≤ i → ∀ j, j < c → en W i j = 0) (hE : Bd E W r) (hup : ∀ i, i < r → ∀ j, Sz (en W i j)) (hcap : 3 * E ^ 5 + 1 < LB ^ fR) {Q : CV → ar → Prop}
 (hQ : ∀ (ok : Bool) W' τ, Upd bl bu σ τ → PS τ P bl bu (lw m W') (uw m W') → Col W W' (m + n) r c → Bd (3 * E ^ 5) W' r → (ok = false → Bd E W' r ∧ ∀ i, r ≤ i → en W' i c = 0) → (ok = true → en W' r c ≠ 0 ∧ ∀ i, r < i → en W' i c = 0) → Q (.p (.bool ok)) τ) :
 Rn rp 124 [.ptr P 0 0, i64 r, i64 c] σ Q := by
 rw [ew rp179]
 have up0 : Upd bl bu σ (σ ++ [Blk.kblk 1 [.ptr P 0 0], .kblk 1 [i64 r], .kblk 1 [i64 c]]) := Upd.refl.push
 have b0 : (σ ++ [Blk.kblk 1 [.ptr P 0 0], .kblk 1 [i64 r], .kblk 1 [i64 c]])[σ.length]? = some (.kblk 1 [.ptr P 0 0]) := by rw [cP]; rfl
 have b1 : (σ ++ [Blk.kblk 1 [.ptr P 0 0], .kblk 1 [i64 r], .kblk 1 [i64 c]])[σ.length + 1]? = some (.kblk 1 [i64 r]) := by rw [cY]; rfl
 have b2 : (σ ++ [Blk.kblk 1 [.ptr P 0 0], .kblk 1 [i64 r], .kblk 1 [i64 c]])[σ.length + 2]? = some (.kblk 1 [i64 c]) := by rw [cY]; rfl
 have hps0 := h.push (l := [Blk.kblk 1 [.ptr P 0 0], .kblk 1 [i64 r], .kblk 1 [i64 c]])
 have hbl := h.lt
 have hl0 : (σ ++ [Blk.kblk 1 [.ptr P 0 0], .kblk 1 [i64 r], .kblk 1 [i64 c]]).length = σ.length + 3 := by simp
 simp only [f124, aJ, SB, ak, aj, ↓reduceIte, reduceCtorEq, ai, ab, ah, ae, aa, af]
 generalize hσ0 : σ ++ [Blk.kblk 1 [.ptr P 0 0], .kblk 1 [.p (.int .i64 r)], .kblk 1 [.p (.int .i64 c)]] = σ0 at *
 have e0 : σ ++ [Blk.kblk 1 [.ptr P 0 0], .kblk 1 [i64 r], .kblk 1 [i64 c]] = σ0 := hσ0
 simp only [e0] at up0 b0 b1 b2 hps0 hl0
 refine aM (β := List (List Int) × Nat × ar) (fun t => ([(3, .ptr σ.length 0 0), (4, .ptr (σ.length + 1) 0 0), (5, .ptr (σ.length + 2) 0 0), (7, .fn 137 [.ptr (σ.length + 1) 0 0, .ptr σ.length 0 0, .ptr (σ.length + 2) 0 0])], t.2.2))
  (fun t => PS t.2.2 P bl bu (lw m t.1) (uw m t.1) ∧ Upd bl bu σ0 t.2.2 ∧ Col W t.1 (m + n) r c ∧ ((t.2.1 = E + 1 ∧ Bd E t.1 r) ∨ Ph t.1 r c E t.2.1)) (fun t => t.2.1) ((W, E + 1, σ0) : List (List Int) × Nat × ar) rfl rfl
  ⟨hps0, Upd.refl, .start hw hlow, .inl ⟨rfl, hE⟩⟩ ?_
 rintro ⟨V, X, ρ⟩ ⟨hps, hupd, hcol, hph⟩ ih
 simp only [] at hps hupd hcol hph ih ⊢
 have box : ∀ {ρ : ar} (hu : Upd bl bu σ0 ρ) {k : Nat} {x : Blk}, σ0[k]? = some x → σ.length ≤ k → ∀ l, (ρ ++ l)[k]? = some x := fun {ρ} hu {k} {x} hk hk2 l => by
  have hlt := (aq.1 hk).1
  rw [aL (bP hlt hu.len), hu.get k hlt (by omega) (by omega), hk]
 have box0 : ∀ {ρ : ar} (hu : Upd bl bu σ0 ρ) {k : Nat} {x : Blk}, σ0[k]? = some x → σ.length ≤ k → ρ[k]? = some x := fun {ρ} hu {k} {x} hk hk2 => by
  have := box hu hk hk2 []
  rwa [c8] at this
 have hVlen := hcol.len
 have hEcap : E < LB ^ fR := by
  rcases eu E with h0 | h0
  ·rw [h0]; exact dg (by decide)
  ·have : E * 1 ≤ E * E ^ 4 := bH _ (dg h0)
   have e : E ^ 5 = E * E ^ 4 := by rw [bJ, a7]
   omega
 have hE5 : E ≤ 3 * E ^ 5 := by
  rcases eu E with h0 | h0
  ·omega
  ·have : E * 1 ≤ E * E ^ 4 := bH _ (dg h0)
   have e : E ^ 5 = E * E ^ 4 := by rw [bJ, a7]
   omega
 have hVup : ∀ {V : List (List Int)}, Col W V (m + n) r c → ∀ i, i < r → ∀ j, Sz (en V i j) := fun {V} hV i hi j => by rw [Hn.cE (hV.up i hi)]; exact hup i hi j
 have hVsz : SzA V := by
  intro i j
  rcases ax i r with hi | hi
  ·exact hVup hcol i hi j
  ·rcases hph with ⟨_, hB⟩ | hP
   ·exact fx (hB i j hi) hEcap
   ·obtain ⟨i0, hi0, hz0⟩ := hP.more
    by_cases hle : ∃ a, kL V r c a
    ·obtain ⟨a, ha⟩ := hle
     obtain ⟨A, hA, hcA⟩ := hP.cap ha
     have h1 := hA i j hi
     have h2 : 1 * A ≤ 3 * X * A := az _ (by have := hP.pos; omega)
     exact fx (a9 h1 (by omega : A ≤ 3 * E ^ 5)) (by omega)
    ·exfalso
     exact hle (Hn.yj (Nat.le_of_lt hi0) hz0)
 simp only [SB, ak, aj, ↓reduceIte, reduceCtorEq, ai, ab, ah, ae, aa, af, ym]
 refine cC (n202 hps (box0 hupd b1 (by omega)) (box0 hupd b0 (by omega)) (box0 hupd b2 (by omega)) (iD hcol.wd hVsz) hc (by rw [gZ, hVlen]; omega) (by rw [gZ, hVlen]; exact hW) fun t τ hpre hps2 hl => ?_)
 rw [gZ] at hl
 have hupd2 : Upd bl bu σ0 τ := hupd.trans ⟨hpre.len, fun j hj _ _ => hpre.get j hj⟩
 have hVr : r < V.length := by rw [hVlen]; exact hr
 rcases hl with ⟨rfl, hz⟩ | ⟨a, rfl, ha1, ha2, ha3, ha4⟩
 ·have hz' : ∀ i, r ≤ i → en V i c = 0 := fun i hi => by
   rcases ax i V.length with hil | hil
   ·have := hz i hi hil
    rwa [kv hc] at this
   ·exact Hn.kA hil
  have t1 : ((-1 : Int) < 0) := by decide
  simp only [SB, ak, aj, ↓reduceIte, reduceCtorEq, ai, ab, ah, ae, aa, af, t1]
  have hB : Bd E V r := by
   rcases hph with ⟨_, hB⟩ | hP
   ·exact hB
   ·obtain ⟨i0, hi0, hz0⟩ := hP.more
    exact absurd (hz' i0 (Nat.le_of_lt hi0)) hz0
  exact hQ false V τ (up0.trans hupd2) hps2 hcol (hB.mono hE5) (fun _ => ⟨hB, hz'⟩) (fun hh => by cases hh)
 ·have hLeast : kL V r c a := by
   refine ⟨ha1, by rw [← kv hc]; exact ha3, fun k hk hk0 => ?_⟩
   have hkl := Hn.yG hk0
   have := ha4 k hk hkl (by rw [kv hc]; exact hk0)
   rwa [kv hc, kv hc] at this
  have t1 : ¬ ((a : Int) < 0) := by omega
  have ha0 : en V a c ≠ 0 := hLeast.2.1
  have hy0 : 0 < (en V a c).natAbs := Int.natAbs_pos.2 ha0
  have hXX : ∀ V1 : List (List Int), en V1 r c = en V a c → True := fun _ _ => trivial
  refine @vt ?rs ?cc ?kk Q _ (fun e τ => ∃ V1, fgt [3, 4, 5, 7, 9, 10] e = [(3, .ptr σ.length 0 0), (4, .ptr (σ.length + 1) 0 0), (5, .ptr (σ.length + 2) 0 0), (7, .fn 137 [.ptr (σ.length + 1) 0 0, .ptr σ.length 0 0, .ptr (σ.length + 2) 0 0]), (9, .p (.bool true)), (10, i64 (r + 1 : Nat))] ∧
   Upd bl bu σ0 τ ∧ PS τ P bl bu (lw m V1) (uw m V1) ∧ Col W V1 (m + n) r c ∧ en V1 r c = en V a c ∧ (∃ A Xb, Bd A V1 r ∧ (∀ k, r ≤ k → (en V1 k c).natAbs ≤ Xb) ∧ 3 * Xb * A ≤ 3 * E ^ 5) ∧
   (∀ V2, Inn V1 V2 (m + n) r c V2.length → V2.length = V.length → (∃ i, r < i ∧ en V2 i c ≠ 0) → Ph V2 r c E (en V a c).natAbs ∧ (en V a c).natAbs < X)) (fun rest => ?main) ?tail
  case main =>
   have w1 := wr1 (i := r) (by omega)
   have haV : a < V.length := Hn.yG ha0
   by_cases har : a = r
   ·subst har
    have q1 := box0 hupd2 b1 (by omega)
    simp only [SB, ak, aj, ↓reduceIte, reduceCtorEq, ai, ab, ah, ae, aa, af, t1, q1, bne_self_eq_false, w1]
    refine rest _ _ ?_
    refine ⟨V, rfl, hupd2, hps2, hcol, rfl, ?_, ?_⟩
    ·rcases hph with ⟨_, hB⟩ | hP
     ·refine ⟨E, E, hB, fun k hk => hB k c hk, ?_⟩
      rcases eu E with h0 | h0
      ·subst h0; simp
      ·rw [Hn.BV]; exact Nat.le_mul_of_pos_right _ (Nat.mul_pos (Nat.mul_pos h0 h0) h0)
     ·exact absurd (hP.lt hLeast) (Nat.lt_irrefl _)
    ·intro V2 hI hl2 hm2
     rcases hph with ⟨rfl, hB⟩ | hP
     ·exact ⟨Hn.A3 hB hI ha0 hm2, Nat.lt_succ_of_le (hB a c (av _))⟩
     ·exact absurd (hP.lt hLeast) (Nat.lt_irrefl _)
   ·have t2 : ((a : Int) != (r : Int)) = true := by rw [bne_iff_ne]; omega
    have q1 := box0 hupd2 b1 (by omega)
    have q0 := box0 hupd2 b0 (by omega)
    simp only [SB, ak, aj, ↓reduceIte, reduceCtorEq, ai, ab, ah, ae, aa, af, t1, q1, q0, t2]
    refine cC (n205 hps2 (by rw [gZ, n9]) (by rw [gZ]; exact hVr) (by rw [gZ]; exact haV) fun τ' hu' hps3 => ?_)
    rw [C9, CC] at hps3
    have hupd3 := hupd2.trans hu'
    have q1' := box0 hupd3 b1 (by omega)
    simp only [SB, ak, aj, ↓reduceIte, reduceCtorEq, ai, ab, ah, ae, aa, af, q1', w1]
    refine rest _ _ ?_
    refine ⟨swR V r a, rfl, hupd3, hps3, hcol.sw (av _) ha1 hVr haV, Hn.il hVr haV c, ?_, ?_⟩
    ·rcases hph with ⟨_, hB⟩ | hP
     ·have hB' := hB.sw (av _) ha1 hVr haV
      refine ⟨E, E, hB', fun k hk => hB' k c hk, ?_⟩
      rcases eu E with h0 | h0
      ·subst h0; simp
      ·rw [Hn.BV]; exact Nat.le_mul_of_pos_right _ (Nat.mul_pos (Nat.mul_pos h0 h0) h0)
     ·obtain ⟨A, hA, hcA⟩ := hP.cap hLeast
      refine ⟨A, X, hA.sw (av _) ha1 hVr haV, fun k hk => ?_, hcA⟩
      have hX : ∀ k, r ≤ k → (en V k c).natAbs ≤ X := by
       intro k hk
       rcases ax r k with hh | hh
       ·exact Nat.le_of_lt (hP.oth k hh).1
       ·obtain rfl : k = r := by omega
        rw [hP.piv]; exact av _
      by_cases h1 : k = r
      ·subst h1; rw [Hn.il hVr haV]; exact hX a ha1
      ·by_cases h2 : k = a
       ·subst h2; rw [Hn.iZ hVr haV]; exact hX r (av _)
       ·rw [Hn.kP h1 h2]; exact hX k hk
    ·intro V2 hI hl2 hm2
     rcases hph with ⟨rfl, hB⟩ | hP
     ·have hB' := hB.sw (av _) ha1 hVr haV
      have e1 := Hn.il hVr haV c
      have := Hn.A3 hB' hI (by rw [e1]; exact ha0) hm2
      rw [e1] at this
      exact ⟨this, Nat.lt_succ_of_le (hB a c ha1)⟩
     ·exact Hn.C5 hP hLeast hVr hcol.wd hI hl2 hm2
  case tail =>
   rintro e τ ⟨V1, he, hupd2, hps2, hcol1, hy, ⟨A, Xb, hA, hXb, hcA⟩, hnext⟩
   have hy1 : 0 < (en V1 r c).natAbs := by rw [hy]; exact hy0
   have hy2 : en V1 r c ≠ 0 := by rw [hy]; exact ha0
   have hN : V1.length = V.length := hcol1.len.trans hVlen.symm
   have hbdI : ∀ {V2 : List (List Int)} {i : Nat}, Inn V1 V2 (m + n) r c i → Bd (3 * E ^ 5) V2 r := fun {V2 i} hI k j hk => by
    have h1 := hI.bd hA hXb k j hk
    have h2 : (en V2 k j).natAbs * 1 ≤ (en V2 k j).natAbs * (en V1 r c).natAbs := bH _ hy1
    omega
   have hszI : ∀ {V2 : List (List Int)} {i : Nat}, Inn V1 V2 (m + n) r c i → SzA V2 := fun {V2 i} hI k j => by
    rcases ax k r with hk | hk
    ·exact hVup (iy hcol1 hI.col) k hk j
    ·exact fx (hbdI hI k j hk) (by omega)
   refine aM (β := List (List Int) × Nat × Bool × ar) (fun t => ([(3, .ptr σ.length 0 0), (4, .ptr (σ.length + 1) 0 0), (5, .ptr (σ.length + 2) 0 0), (7, .fn 137 [.ptr (σ.length + 1) 0 0, .ptr σ.length 0 0, .ptr (σ.length + 2) 0 0]), (9, .p (.bool t.2.2.1)), (10, i64 t.2.1)], t.2.2.2))
    (fun t => r < t.2.1 ∧ t.2.1 ≤ V.length ∧ Inn V1 t.1 (m + n) r c t.2.1 ∧ PS t.2.2.2 P bl bu (lw m t.1) (uw m t.1) ∧ Upd bl bu σ0 t.2.2.2 ∧ (t.2.2.1 = true ↔ ∀ k, r < k → k < t.2.1 → en t.1 k c = 0)) (fun t => V.length - t.2.1) ((V1, r + 1, true, τ) : List (List Int) × Nat × Bool × ar) he rfl
    ⟨bO _, hVr, .start hcol1.wd hcol1.low, hps2, hupd2, ⟨fun _ k h1 h2 => absurd h2 (Nat.not_lt.2 (Nat.succ_le_of_lt h1)), fun _ => rfl⟩⟩ ?_
   rintro ⟨V2, i, dn, ρ'⟩ ⟨hri, hiN, hI, hps3, hupd3, hdn⟩ ih2
   simp only [] at hri hiN hI hps3 hupd3 hdn ih2 ⊢
   have gp := box hupd3 b0 (by omega)
   have gr := box hupd3 b1 (by omega)
   have gc := box hupd3 b2 (by omega)
   have gp0 := box0 hupd3 b0 (by omega)
   have gr0 := box0 hupd3 b1 (by omega)
   have gc0 := box0 hupd3 b2 (by omega)
   have gP := hps3.pair
   have gP' : ∀ l, (ρ' ++ l)[P]? = some (.kblk 2 [.own bl 0 (lw m V2).length, .own bu 0 (uw m V2).length]) := fun l => (hps3.push).pair
   have gl' : ∀ l, (ρ' ++ l)[bl]? = some (.prow 1 (zm (lw m V2))) := fun l => (hps3.push).l
   have hV2len : V2.length = V.length := hI.col.len.trans hN
   have hlen : (lw m V2).length = V.length := by rw [gZ, hV2len]
   have hulen : (uw m V2).length = V.length := by rw [n9, hV2len]
   rw [hlen] at gP
   simp only [hlen, hulen] at gP'
   by_cases hin : (i : Int) < V.length
   ·have hin' : i < V.length := by omega
    have hrV : r < V.length := by omega
    have hsz := hszI hI
    have w1 := wr1 (i := i) (by omega)
    have hrow := fT (M := lw m V2) (i := i) (by rw [hlen]; exact hin')
    have hrowr := fT (M := lw m V2) (i := r) (by rw [hlen]; exact hrV)
    have hxi := nv (L := lw m V2) (i := i) (j := c) (by rw [(iD (iy hcol1 hI.col).wd hsz i (by rw [hlen]; exact hin')).1]; exact hc)
    have hxr := nv (L := lw m V2) (i := r) (j := c) (by rw [(iD (iy hcol1 hI.col).wd hsz r (by rw [hlen]; exact hrV)).1]; exact hc)
    rw [kv hc] at hxi hxr
    have er : en V2 r c = en V1 r c := Hn.cE hI.top c
    have ei : en V2 i c = en V1 i c := Hn.cE (hI.rest i (av _)) c
    obtain ⟨q, ρr, hF, kF⟩ := fl134 (Nu.zi (hsz i c)) (Nu.zi (hsz r c)) (by rw [er]; exact hy2)
    have k134 := kF.lift gz
    have hF1 : Fl (en V1 i c) (en V1 r c) q ρr := by rw [← er, ← ei]; exact hF
    have hxle : (en V1 i c).natAbs ≤ 3 * E ^ 5 := by rw [← ei]; exact hbdI hI i c (by omega)
    have hqz : Sz q := bQ hF1.le (by omega)
    have k77 := (VBn.p77 (Nu.zi hqz)).lift gz
    have k146 := (VBn.p146 (Nu.zi hqz)).lift gz
    rw [bg (x := q)] at k77 k146
    have fin : ∀ (V3 : List (List Int)) (ρ3 : ar), Inn V1 V3 (m + n) r c (i + 1) → PS ρ3 P bl bu (lw m V3) (uw m V3) → Upd bl bu σ0 ρ3 → (∀ k, k < i → r < k → en V3 k c = en V2 k c) →
     ∀ e3, fgt [3, 4, 5, 7, 9, 10] e3 = [(3, .ptr σ.length 0 0), (4, .ptr (σ.length + 1) 0 0), (5, .ptr (σ.length + 2) 0 0), (7, .fn 137 [.ptr (σ.length + 1) 0 0, .ptr σ.length 0 0, .ptr (σ.length + 2) 0 0]), (9, .p (.bool (dn && ((en V3 i c).sign == 0)))), (10, i64 (i + 1 : Nat))] → _ :=
     fun V3 ρ3 hI3 hps4 hupd4 hsame e3 he3 => ih2 (V3, i + 1, dn && ((en V3 i c).sign == 0), ρ3) e3 ⟨by simp only []; omega, by simp only []; omega, hI3, hps4, hupd4, by
      simp only [aA, beq_iff_eq, Int.sign_eq_zero_iff_zero]
      rw [hdn]
      constructor
      ·rintro ⟨h1, h2⟩ k k1 k2
       rcases ax k i with hki | hki
       ·rw [hsame k hki k1]; exact h1 k k1 hki
       ·obtain rfl : k = i := by omega
        exact h2
      ·intro h1
       exact ⟨fun k k1 k2 => by rw [← hsame k k2 k1]; exact h1 k k1 (by omega), h1 i hri (bO _)⟩⟩ (by simp only []; omega) he3
    by_cases hq0 : q = 0
    ·have s0 : (q.sign != 0) = false := by rw [hq0]; rfl
     have hI3 : Inn V1 V2 (m + n) r c (i + 1) := Inn.none hI (by rw [← hq0]; exact hF1)
     have k77x := (VBn.p77 (Nu.zi (hsz i c))).lift gz
     cases dn with
     | true =>
       simp only [SB, ak, aj, ↓reduceIte, reduceCtorEq, ai, ab, ah, ae, aa, af, gp, gr, gc, gp0, gr0, gc0, gP, gP', gl', hlen, hin, hin', hrV, hrow, hrowr, hxi, hxr, cf, bV, SN, kp2 k134, kp1 k77, s0, kp1 k77x, w1]
       exact fin V2 _ hI3 hps3.push hupd3.push (fun _ _ _ => rfl) _ rfl
     | false =>
       simp only [SB, ak, aj, ↓reduceIte, reduceCtorEq, ai, ab, ah, ae, aa, af, gp, gr, gc, gp0, gr0, gc0, gP, gP', gl', hlen, hin, hin', hrV, hrow, hrowr, hxi, hxr, cf, bV, SN, kp2 k134, kp1 k77, s0, kp1 k77x, w1]
       exact fin V2 _ hI3 hps3.push hupd3.push (fun _ _ _ => rfl) _ rfl
    ·have s0 : (q.sign != 0) = true := by
      rw [bne_iff_ne]; exact fun hh => hq0 (Int.sign_eq_zero_iff_zero.1 hh)
     have hI3 : Inn V1 (fm V2 i r (-q)) (m + n) r c (i + 1) := Inn.step hI hri (by rw [hV2len]; exact hin') hF1
     have hsz3 := hszI hI3
     have hqr : ∀ j, Sz (-q * en V2 r j) := fun j => by
      rw [Hn.cE hI.top j]
      have h1 := (Hn.vh hF1 (hXb i (by omega)) rfl (hXb r (av _)) (hA i j (by omega)) (hA r j (av _))).2
      have h2 : (-q * en V1 r j).natAbs * 1 ≤ (-q * en V1 r j).natAbs * (en V1 r c).natAbs := bH _ hy1
      exact fx (B := 3 * E ^ 5) (by omega) (by omega)
     have hwd2 := (iy hcol1 hI.col).wd
     simp only [SB, ak, aj, ↓reduceIte, reduceCtorEq, ai, ab, ah, ae, aa, af, gp, gr, gc, gp0, gr0, gc0, gP, gP', gl', hlen, hin, hin', hrV, hrow, hrowr, hxi, hxr, cf, bV, SN, kp2 k134, kp1 k77, s0, kp1 k146]
     refine cC (n181 (Nu.zi hqz.neg) hps3.push (by rw [hlen, hulen]) (by rw [hlen]; exact hin') (by rw [hlen]; exact hrV) (iD hwd2 hsz) (qo hwd2 hsz) (by omega) hn0 hm2 hn2 (pP hqr) (pD hqr) fun ρ4 hu4 hps4 => ?_)
     rw [ya, wQ] at hps4
     have hupd4 : Upd bl bu σ0 ρ4 := (hupd3.push).trans hu4
     have gp4 := box0 hupd4 b0 (by omega)
     have gc4 := box0 hupd4 b2 (by omega)
     have gP4 := hps4.pair
     have gl4 := hps4.l
     have hlen4 : (lw m (fm V2 i r (-q))).length = V.length := by rw [gZ, Hn.kJ, hV2len]
     rw [hlen4] at gP4
     have hrow4 := fT (M := lw m (fm V2 i r (-q))) (i := i) (by rw [hlen4]; exact hin')
     have hx4 := nv (L := lw m (fm V2 i r (-q))) (i := i) (j := c) (by rw [(iD (iy hcol1 hI3.col).wd hsz3 i (by rw [hlen4]; exact hin')).1]; exact hc)
     rw [kv hc] at hx4
     have k77x := (VBn.p77 (Nu.zi (hsz3 i c))).lift gz
     cases dn with
     | true =>
       simp only [SB, ak, aj, ↓reduceIte, reduceCtorEq, ai, ab, ah, ae, aa, af, gp4, gc4, gP4, gl4, hin', hrow4, hx4, cf, SN, kp1 k77x, w1]
       exact fin _ _ hI3 hps4 hupd4 (fun k hk _ => Hn.gN (by omega) c) _ rfl
     | false =>
       simp only [SB, ak, aj, ↓reduceIte, reduceCtorEq, ai, ab, ah, ae, aa, af, gp4, gc4, gP4, gl4, hin', hrow4, hx4, cf, SN, kp1 k77x, w1]
       exact fin _ _ hI3 hps4 hupd4 (fun k hk _ => Hn.gN (by omega) c) _ rfl
   ·obtain rfl : i = V.length := by omega
    have hI' : Inn V1 V2 (m + n) r c V2.length := by rw [hV2len]; exact hI
    cases dn with
    | true =>
      have hz2 := hdn.1 rfl
      simp only [SB, ak, aj, ↓reduceIte, reduceCtorEq, ai, ab, ah, ae, aa, af, gp0, gP, hin]
      refine hQ true V2 ρ' (up0.trans hupd3) hps3 (iy hcol1 hI.col) (hbdI hI) (fun hh => by cases hh) fun _ => ⟨by rw [Hn.cE hI.top]; exact hy2, fun k hk => ?_⟩
      rcases ax k V2.length with hkl | hkl
      ·exact hz2 k hk (by rw [← hV2len]; exact hkl)
      ·exact Hn.kA hkl
    | false =>
      have hmore : ∃ i, r < i ∧ en V2 i c ≠ 0 := by
       refine cq fun hh => ?_
       have : false = true := hdn.2 fun k k1 k2 => cq fun h0 => hh ⟨k, k1, h0⟩
       cases this
      obtain ⟨hP2, hlt⟩ := hnext V2 hI' hV2len hmore
      simp only [SB, ak, aj, ↓reduceIte, reduceCtorEq, ai, ab, ah, ae, aa, af, gp0, gP, hin]
      exact ih (V2, (en V a c).natAbs, ρ') _ ⟨hps3, hupd3, iy hcol1 hI.col, .inr hP2⟩ hlt rfl
end Go.Proofs.YtdieenbfdeaffabGreat.VRs
namespace Go.Proofs.YtdieenbfdeaffabGreat.VRs
open Go Vpi
open VBn hiding rp tab cV cj mixed sim Big
open Hn (fm swR tuR Fl en Wd Bd Col Inn Ph kL SpE Frm vec)
set_option maxRecDepth 100000
theorem rp149 : rp 97 = some f97 := rfl
def oa (n i : Nat) : List Int := (ca n).map fun k => if k = i then 1 else 0
def un (n : Nat) : List (List Int) := (ca n).map fun i => oa n i
theorem lW {n i : Nat} : (oa n i).length = n := by simp [oa]
theorem iL {n : Nat} : (un n).length = n := by simp [un]
theorem tT {n i : Nat} (h : i < n) : (un n)[i]? = some (oa n i) := by simp [un, h]
theorem rJ {n i k : Nat} (h : k < n) : (oa n i)[k]? = some (if k = i then 1 else 0) := by simp [oa, h]
theorem wR {n i : Nat} (h : i < n) : (aw n (PV.agg [.bool false, .sl []])).set i (zi 1) = zr (oa n i) := by
 rw [← mk_zero (s := false)]
 apply dv
 intro k
 rcases ax k n with hk | hk
 ·rw [jm (rJ hk)]
  by_cases hki : i = k
  ·subst hki
   rw [aO (by simpa using h), if_pos rfl]
  ·rw [aE hki, if_neg (fun h => hki h.symm)]
   simp [hk]
   exact iR
 ·rw [aG (by simpa using hk), aG (by rw [dB, lW]; exact hk)]
theorem wS {x : Int} : ke (.agg [.bool false, .sl []]) 0 2 (zi x) = some (zi x) := by rw [← mk_zero (s := false)]; exact lX
section
variable {rp : cg} {rs : List dH} {base : Nat} {d : Option Nat} {l : List LOp} {dr : Dr} {ks : List KI} {e : Env} {ρ : ar} {Q : CV → ar → Prop}
theorem wg {ws : List PV} {x : Opd} {s : Nat} (hx : vl e x = .own ρ.length 0 ws.length) :
 ExR rp rs base (⟨d, none, none, .bslice 1 [x]⟩ :: l) dr ks e (ρ ++ [.prow s ws]) Q = ExR rp rs base l dr ks (sto d (.own (ρ.length + 1) 0 1) e) (ρ ++ [.dead, .prow 1 [.sl ws]]) Q := by
 rw [ml]
 have h1 : eG (ρ ++ [.prow s ws]) [.own ρ.length 0 ws.length] = some [.sl ws] := by
  simp only [eG, frz, e9 (show (ρ ++ [Blk.prow s ws])[ρ.length]? = some (.prow s ws) by rw [cP]; rfl) rfl, aH]
 have h2 : eC (ρ ++ [.prow s ws]) [.own ρ.length 0 ws.length] = ρ ++ [.dead] := by
  simp only [eC, List.foldl_cons, List.foldl_nil, kill, gi, jz, List.set_cons_zero]
 simp only [ev, List.map_cons, List.map_nil, hx, h1, h2]
 rw [if_pos (show dE 1 [PV.sl ws] = true from rfl)]
 simp only [gU, aH, eY, bX, dZ, List.length_nil, aP, fk, List.nil_append]
theorem zS {n : Nat} {z : PV} {x y : Opd} (hz : z.cells.length = 2) (hn : n ≤ 2000000) (hx : vl e x = .p (.int .i64 (n : Int))) (hy : vl e y = .p (.int .i64 (n : Int))) :
 ExR rp rs base (⟨d, none, none, .mks false 2 32 z x y⟩ :: l) dr ks e ρ Q = ExR rp rs base l dr ks (sto d (.own ρ.length 0 n) e) (ρ ++ [.prow 2 (aw n z)]) Q := by
 rw [gT]
 have h1 : 0 ≤ (n : Int) ∧ (n : Int) ≤ n ∧ ((32 : Nat) : Int) * n ≤ 281474976710656 ∧ (n : Int) ≤ 9223372036854775807 ∧ z.cells.length = 2 := ⟨by omega, by omega, by omega, by omega, hz⟩
 simp only [ev, hx, hy, nP]
 rw [if_pos h1]
 simp only [gU, aH, eY, Int.toNat_natCast]
end
def loB (E : Nat) : Nat → Nat
 | 0 => E
 | r + 1 => 3 * loB E r ^ 5
def upB (E : Nat) : Nat → Nat
 | 0 => 0
 | r + 1 => upB E r + (upB E r + 1) * loB E (r + 1)
def sd (M N : List (List Int)) : List (List Int) := ek (·++ ·) M N
theorem om {M N : List (List Int)} (h : M.length = N.length) : (sd M N).length = M.length := by simp [sd, h]
theorem ua {M N : List (List Int)} {i : Nat} {r s : List Int} (h : M[i]? = some r) (h' : N[i]? = some s) : (sd M N)[i]? = some (r ++ s) := by simp [sd, List.getElem?_zipWith, h, h']
theorem CP {M N : List (List Int)} {m n : Nat} (hM : Wd m M) (hN : Wd n N) : Wd (m + n) (sd M N) := by
 intro i r hr
 unfold sd at hr
 rw [List.getElem?_zipWith] at hr
 split at hr
 ·rename_i a b ha hb
  cases hr
  rw [bX, hM i a ha, hN i b hb]
 ·cases hr
theorem A6 {M N : List (List Int)} {m : Nat} (hM : Wd m M) (h : M.length = N.length) : lw m (sd M N) = M := by
 apply dv
 intro i
 unfold lw
 rw [cd]
 rcases ax i M.length with hi | hi
 ·have h1 : M[i]? = some M[i] := by simp
  have h2 : N[i]? = some (N[i]'(by omega)) := by simp
  rw [ua h1 h2, h1, aH, ← hM i _ h1, List.take_left]
 ·rw [aG (by rw [om h]; exact hi), aG hi]; rfl
theorem CD {M N : List (List Int)} {m : Nat} (hM : Wd m M) (h : M.length = N.length) : uw m (sd M N) = N := by
 apply dv
 intro i
 unfold uw
 rw [cd]
 rcases ax i M.length with hi | hi
 ·have h1 : M[i]? = some M[i] := by simp
  have h2 : N[i]? = some (N[i]'(by omega)) := by simp
  rw [ua h1 h2, h2, aH, ← hM i _ h1, List.drop_left]
 ·rw [aG (by rw [om h]; exact hi), aG (by omega)]; rfl
theorem CE {n : Nat} : Wd n (un n) := by
 intro i r hr
 have hi := (aq.1 hr).1
 rw [iL] at hi
 rw [tT hi] at hr
 cases hr
 exact lW
structure Rd (W2 V : List (List Int)) (w r c i B B' : Nat) : Prop where
 len : V.length = W2.length
 wd : Wd w V
 sp : SpE W2 V
 rest : ∀ k, i ≤ k → V[k]? = W2[k]?
 same : ∀ k j, j < c → en V k j = en W2 k j
 red : ∀ k, k < i → 0 ≤ en V k c ∧ en V k c < en W2 r c
 bd : ∀ k j, k < i → (en V k j).natAbs ≤ B'
theorem Rd.start {W : List (List Int)} {w r c B B' : Nat} (hw : Wd w W) : Rd W W w r c 0 B B' := ⟨rfl, hw, .refl, fun _ _ => rfl, fun _ _ _ => rfl, fun k hk => by omega, fun k j hk => by omega⟩
theorem Rd.step {W2 V : List (List Int)} {w r c i B C : Nat} {q ρ : Int} (h : Rd W2 V w r c i B (B + (B + 1) * C)) (hi : i < r) (hr : r < W2.length) (hz : ∀ j, j < c → en W2 r j = 0) (hy : 0 < en W2 r c) (hB : ∀ k j, k < r → (en W2 k j).natAbs ≤ B) (hC : ∀ j, (en W2 r j).natAbs ≤ C) (hF : Fl (en V i c) (en V r c) q ρ) :
 (q = 0 → Rd W2 V w r c (i + 1) B (B + (B + 1) * C)) ∧ Rd W2 (fm V i r (-q)) w r c (i + 1) B (B + (B + 1) * C) ∧ ∀ j, (-q * en V r j).natAbs ≤ (B + 1) * C := by
 have eri := fun j => Hn.cE (h.rest r (by omega)) j
 have eii := fun j => Hn.cE (h.rest i (av _)) j
 have hq : q.natAbs ≤ B + 1 := by
  have h1 := hF.le
  rw [eii c] at h1
  have h2 := hB i c hi
  omega
 have hrest : 0 ≤ ρ ∧ ρ < en W2 r c := by
  have h1 := hF.rest
  rw [eri c] at h1
  rcases h1 with h1 | h1
  ·exact h1
  ·omega
 have hx : en V i c = q * en V r c + ρ := hF.eq
 have hqs : ∀ j, (-q * en V r j).natAbs ≤ (B + 1) * C := fun j => by
  rw [Int.neg_mul, Int.natAbs_neg, Int.natAbs_mul, eri j]
  exact Nat.mul_le_mul hq (hC j)
 have hil : i < V.length := by rw [h.len]; omega
 have hrl : r < V.length := by rw [h.len]; exact hr
 refine ⟨fun hq0 => ⟨h.len, h.wd, h.sp, fun k hk => h.rest k (by omega), h.same, fun k hk => ?_, fun k j hk => ?_⟩, ⟨Hn.kJ.trans h.len, Hn.vP h.wd hil hrl, h.sp.trans (Hn.vQ h.wd hil hrl (by omega)), fun k hk => (Hn.iV (by omega)).trans (h.rest k (by omega)), fun k j hj => ?_, fun k hk => ?_, fun k j hk => ?_⟩, hqs⟩
 ·rcases ax k i with hki | hki
  ·exact h.red k hki
  ·obtain rfl : k = i := by omega
   rw [hx, hq0, Int.zero_mul, Int.zero_add]; exact hrest
 ·rcases ax k i with hki | hki
  ·exact h.bd k j hki
  ·obtain rfl : k = i := by omega
   rw [eii j]
   have := hB k j hi
   omega
 ·by_cases hki : k = i
  ·subst hki
   rw [Hn.mV h.wd hil hrl, eri j, hz j hj, Int.mul_zero, Int.add_zero]; exact h.same k j hj
  ·rw [Hn.gN hki]; exact h.same k j hj
 ·rcases ax k i with hki | hki
  ·rw [Hn.gN (by omega)]; exact h.red k hki
  ·obtain rfl : k = i := by omega
   rw [Hn.mV h.wd hil hrl, hx, Int.neg_mul]
   have : q * en V r c + ρ + -(q * en V r c) = ρ := by omega
   rw [this]; exact hrest
 ·rcases ax k i with hki | hki
  ·rw [Hn.gN (by omega)]; exact h.bd k j hki
  ·obtain rfl : k = i := by omega
   rw [Hn.mV h.wd hil hrl]
   have h1 := hqs j
   have h2 := hB k j hi
   rw [← eii j] at h2
   omega
structure FI (W0 W : List (List Int)) (w c r E : Nat) : Prop where
 len : W.length = W0.length
 wd : Wd w W
 sp : SpE W0 W
 frm : Frm W c r
 lo : Bd (loB E r) W r
 up : ∀ i j, i < r → (en W i j).natAbs ≤ upB E r
theorem FI.low {W0 W : List (List Int)} {w c r E : Nat} (h : FI W0 W w c r E) : ∀ i, r ≤ i → ∀ j, j < c → en W i j = 0 := by
 intro i hi j hj
 rcases ax i W.length with hil | hil
 ·rw [Hn.fH (Hn.cZ hil)]
  exact h.frm.low i _ hi (Hn.cZ hil) j hj
 ·exact Hn.kA hil
theorem FI.skip {W0 W W' : List (List Int)} {w c r E : Nat} (h : FI W0 W w c r E) (hc : Col W W' w r c) (hB : Bd (loB E r) W' r) (h0 : ∀ i, r ≤ i → en W' i c = 0) : FI W0 W' w (c + 1) r E := by
 have hsame : ∀ i, i < r → W'[i]? = W[i]? := hc.up
 refine ⟨hc.len.trans h.len, hc.wd, h.sp.trans hc.sp, ?_, hB, fun i j hi => by rw [Hn.cE (hsame i hi)]; exact h.up i j hi⟩
 have e : W'.take r = W.take r := by
  apply dv
  intro i
  rw [aN, aN]
  split
  ·rename_i hi; exact hsame i hi
  ·rfl
 have hf : Frm W' c r := ⟨by rw [hc.len]; exact h.frm.le, by rw [e]; exact h.frm.hnf, fun i s hi hs => h.frm.head i s hi (by rw [← hsame i hi]; exact hs), fun i s hi hs j hj => by rw [← Hn.fH hs]; exact hc.low i hi j hj⟩
 exact hf.skip fun i s hi hs => by rw [← Hn.fH hs]; exact h0 i hi
theorem FI.next {W0 W W2 V : List (List Int)} {w c r E : Nat} (h : FI W0 W w c r E) (hr : r < W.length) (hl2 : W2.length = W.length) (hsp2 : SpE W W2) (hup2 : ∀ i, i < r → W2[i]? = W[i]?) (hlow2 : ∀ i, r ≤ i → ∀ j, j < c → en W2 i j = 0)
 (hy : 0 < en W2 r c) (hz : ∀ i, r < i → en W2 i c = 0) (hB2 : Bd (loB E (r + 1)) W2 r) (hV : Rd W2 V w r c r (upB E r) (upB E r + (upB E r + 1) * loB E (r + 1))) : FI W0 V w (c + 1) (r + 1) E := by
 have erest : ∀ i, r ≤ i → V[i]? = W2[i]? := hV.rest
 refine ⟨hV.len.trans (hl2.trans h.len), hV.wd, (h.sp.trans hsp2).trans hV.sp, ?_, fun i j hi => by rw [Hn.cE (erest i (by omega))]; exact hB2 i j (by omega), fun i j hi => ?_⟩
 ·have hrV : r < V.length := by rw [hV.len, hl2]; exact hr
  have ht := Hn.cZ hrV
  have et : ∀ j, vec (V.getD r []) j = en W2 r j := fun j => by rw [← Hn.fH ht, Hn.cE (erest r (av _))]
  refine h.frm.step (hV.len.trans hl2) hr (fun i s t hi hs ht j hj => ?_) (fun i s hi hs j hj => ?_) ht ?_ (fun i s hi hs => ?_) (fun i s hi hs => ?_)
  ·rw [← Hn.fH hs, ← Hn.fH ht, hV.same i j hj, Hn.cE (hup2 i hi)]
  ·rw [← Hn.fH hs, Hn.cE (erest i hi)]; exact hlow2 i hi j hj
  ·rw [et]; exact hy
  ·rw [← Hn.fH hs, Hn.cE (erest i (by omega))]; exact hz i hi
  ·rw [← Hn.fH hs, et]; exact hV.red i hi
 ·rcases ax i r with hir | hir
  ·exact hV.bd i j hir
  ·obtain rfl : i = r := by omega
   rw [Hn.cE (erest i (av _))]
   have h1 := hB2 i j (av _)
   show _ ≤ upB E i + (upB E i + 1) * loB E (i + 1)
   have h2 : 1 * loB E (i + 1) ≤ (upB E i + 1) * loB E (i + 1) := az _ (by omega)
   omega
end Go.Proofs.YtdieenbfdeaffabGreat.VRs
namespace Go.Proofs.YtdieenbfdeaffabGreat.VDd
open Go Vpi
open VBn hiding rp tab cV cj mixed sim Big
set_option maxRecDepth 100000
theorem rI : ∀ {cs : List CV} {σ : ar}, Wf σ → Wf (eE σ cs)
 | [], σ, h => h
 | c :: cs, σ, h => by
   show Wf (eE (gi σ c) cs)
   refine rI ?_
   cases c <;> try exact h
   exact h.set rfl
theorem Dx {b : List PV} {M : List (List Int)} {σ : ar} (hw : Wf σ) (h : ML b M) (hm : b.length ≤ 2000000) {Q : CV → ar → Prop}
 (hQ : ∀ ρ k, Pre σ ρ → Wf ρ → σ.length ≤ k → ρ[k]? = some (.prow 1 (zm M)) → Q (.own k 0 M.length) ρ) : Rn rp 123 [.p (.sl b)] σ Q := by
 rw [ew rp70]
 simp only [f123, aJ, SB, ak, aj, ↓reduceIte, reduceCtorEq, ai, ab, ah, ae, aa, af]
 refine cC ?_
 rw [ew rp114]
 have m1 : ((24 : Nat) : Int) * (b.length : Int) ≤ 281474976710656 := by omega
 have m2 : (b.length : Int) ≤ 9223372036854775807 := by omega
 have i0 : gG 0 = 0 := rfl
 simp only [f37, aJ, SB, ak, aj, ↓reduceIte, reduceCtorEq, ai, ab, ah, ae, aa, af, Int.natCast_nonneg, m1, m2, i0, dN]
 refine aM (β := Nat × ar × Nat × List CV) (fun t => ([(1, .fn 136 []), (5, .own t.2.2.1 0 t.1), (11, .p (.sl b)), (12, i64 b.length), (13, i64 t.1)], t.2.1))
  (fun t => t.1 ≤ b.length ∧ Pre σ t.2.1 ∧ Wf t.2.1 ∧ σ.length ≤ t.2.2.1 ∧ t.2.1[t.2.2.1]? = some (.kblk 1 t.2.2.2) ∧ ff t.2.1 σ.length t.2.2.2 (M.take t.1)) (fun t => b.length - t.1) ((0, σ ++ [.kblk 1 []], σ.length, []) : Nat × ar × Nat × List CV) rfl rfl
  ⟨aD _, Pre.refl.push, hw.push rfl, av _, by rw [cP]; rfl, .nil⟩ ?_
 rintro ⟨i, ρ, k, cs⟩ ⟨hi, hp, hwf, hb, hgl, hro⟩ ih
 simp only [] at hi hp hwf hb hgl hro ih ⊢
 have hl := h.1
 have hcl : cs.length = i := by rw [hro.len, aS]; omega
 by_cases hin : (i : Int) < b.length
 ·obtain ⟨q, r, h1, h2, h3, h4⟩ := h.ix (i := i) (by omega)
  have w1 := wr1 (i := i) (by omega)
  simp only [SB, ak, aj, ↓reduceIte, reduceCtorEq, ai, ab, ah, ae, aa, af, hin, h1, SN]
  refine cC (n115 hwf h3 h4 fun ρ1 b1 hp1 hw1 hb1 hg1 => ?_)
  have hk1 : ρ1[k]? = some (.kblk 1 cs) := by rw [hp1.get k (aq.1 hgl).1]; exact hgl
  have hc : (cs.length + [CV.own b1 0 r.length].length) * 24 ≤ 140737488355328 := by rw [hcl]; simp; omega
  have hA := fun {rp rs base d l dr ks e Q s x} => sj (rp := rp) (rs := rs) (base := base) (d := d) (l := l) (dr := dr) (ks := ks) (e := e) (Q := Q) (a := 0) (s := s) (x := x) (xs := [.own b1 0 r.length]) hk1 hcl.symm (Nat.succ_pos 0) hc
  have hro1 : ff ρ1 σ.length cs (M.take i) := hro.mono fun b es hb => by rw [hp1.get b (aq.1 hb).1]; exact hb
  have hsn : ff ρ1 σ.length (cs ++ [.own b1 0 r.length]) (M.take (i + 1)) := by
   rw [jw h2]
   refine hro1.snoc (a9 hp.len hb1) hg1 fun j b' n hj => ?_
   have hjl : j < (M.take i).length := by rw [← hro.len]; exact (aq.1 hj).1
   obtain ⟨b2, g1, _, g3⟩ := hro.own j (M.take i)[j] (by simp only [hjl, getElem?_pos])
   rw [hj] at g1
   cases g1
   have := (aq.1 g3).1
   omega
  simp only [SB, ak, aj, ↓reduceIte, reduceCtorEq, ai, ab, ah, ae, aa, af, hA, hcl, w1]
  refine ih (i + 1, ρ1.set k .dead ++ [.kblk 1 [.own b1 0 r.length], .kblk 1 (cs ++ [.own b1 0 r.length])], ρ1.length + 1, cs ++ [.own b1 0 r.length]) _ ⟨by simp only []; omega, ((hp.trans hp1).set hb).push, ?_, ?_, ?_, ?_⟩ (by simp only []; omega) ?_
  ·have hb1l := (aq.1 hg1).1
   have hz := (hw1.set (b := k) (x := .dead) rfl).push (x := .kblk 1 [.own b1 0 r.length]) (by simp [dO, gK]; omega)
   have hz2 := hz.push (x := .kblk 1 (cs ++ [.own b1 0 r.length])) (by simp only [dO]; exact uF hsn (by simp; omega))
   simpa [aP] using hz2
  ·simp only []; exact a9 (a9 hp.len hp1.len) (Nat.le_add_right _ _)
  ·simp only []
   rw [show ρ1.length + 1 = (ρ1.set k Blk.dead).length + 1 by rw [ay], cY]; rfl
  ·refine hsn.mono fun b es hb => ?_
   have hbl := (aq.1 hb).1
   rw [aB (by rw [ay]; exact hbl), aE]
   ·exact hb
   ·rintro rfl; rw [hk1] at hb; cases hb
  ·rfl
 ·obtain rfl : i = b.length := by omega
  simp only [SB, ak, aj, ↓reduceIte, reduceCtorEq, ai, ab, ah, ae, aa, af, hin]
  rw [b6 (by omega)] at hro
  have hf := ff.eU hro.len hro.own
  have hs : (zm M).all uv = true := by simp [zm, uv]
  have hlow : ∀ j, j < σ.length → ∀ c, c ∈ cs → ∀ b o n, c = .own b o n → b ≠ j := by
   rintro j hj c hc b1 o n rfl rfl
   obtain ⟨i, hi⟩ := List.getElem?_of_mem hc
   have hil : i < M.length := by rw [← hro.len]; exact (aq.1 hi).1
   obtain ⟨b', g1, g2, _⟩ := hro.own i M[i] (by simp [hil])
   rw [hi] at g1
   cases g1
   omega
  have hkl := (aq.1 hgl).1
  rw [nU (b := k) rfl hgl hf hs (hro.xY hgl)]
  obtain ⟨τ, hτ⟩ : ∃ τ, τ = (eE ρ cs).set k (.prow 1 (zm M)) := ⟨_, rfl⟩
  rw [← hτ]
  simp only [SB, ak, aj, ↓reduceIte, reduceCtorEq, ai, ab, ah, ae, aa, af]
  rw [hl, hτ]
  refine hQ _ k ⟨?_, fun j hj => ?_⟩ ((rI hwf).set rfl) hb (bt (by rw [kY]; exact hkl))
  ·rw [ay, kY]; exact hp.len
  ·rw [bC (by omega), nh (hlow j hj), hp.get j hj]
end Go.Proofs.YtdieenbfdeaffabGreat.VDd
namespace Go.Proofs.YtdieenbfdeaffabGreat.VRs
open Go Vpi
theorem n70 {b : List PV} {M : List (List Int)} {σ : ar} (hw : Wf σ) (h : ML b M) (hm : b.length ≤ 2000000) {Q : CV → ar → Prop}
 (hQ : ∀ ρ k, Pre σ ρ → Wf ρ → σ.length ≤ k → ρ[k]? = some (.prow 1 (zm M)) → Q (.own k 0 M.length) ρ) : Rn rp 123 [.p (.sl b)] σ Q :=
 (VDd.Dx (Q := Q) hw h hm fun ρ k hp hw hk hg => hQ ρ k ⟨hp.len, hp.get⟩ hw hk hg).lift aX
end Go.Proofs.YtdieenbfdeaffabGreat.VRs
namespace Go.Proofs.YtdieenbfdeaffabGreat.VRs
open Go Vpi
open VBn hiding rp tab cV cj mixed sim Big
open Hn (fm swR tuR Fl en Wd Bd Col Inn Ph kL SpE Frm vec)
set_option maxRecDepth 100000
theorem FI.full {W0 W : List (List Int)} {w c m r E : Nat} (h : FI W0 W w c r E) (hr : r = W.length) (hc : c ≤ m) : FI W0 W w m r E :=
 ⟨h.len, h.wd, h.sp, ⟨h.frm.le, h.frm.hnf, fun i s hi hs => by obtain ⟨p, h1, h2⟩ := h.frm.head i s hi hs; exact ⟨p, by omega, h2⟩, fun i s hi hs => by
  have := (aq.1 hs).1
  omega⟩, h.lo, h.up⟩
theorem FI.sz {W0 W : List (List Int)} {w c r E : Nat} (h : FI W0 W w c r E) (h1 : loB E r < LB ^ fR) (h2 : upB E r < LB ^ fR) : SzA W := fun i j => by
 rcases ax i r with hi | hi
 ·exact fx (h.up i j hi) h2
 ·exact fx (h.lo i j hi) h1
theorem n149 {b : List PV} {M : List (List Int)} {m E : Nat} (hML : ML b M) (hN0 : 0 < M.length) (hNm : M.length ≤ 2000000) (hw : Wd m M) (hm0 : 0 < m) (hm2 : m ≤ 2000000) (hE : Bd E (sd M (un M.length)) 0)
 (hC : ∀ k, k ≤ M.length → loB E k + 1 < LB ^ fR ∧ upB E k + 1 < LB ^ fR) {Q : CV → ar → Prop}
 (hQ : ∀ W r ρ P bl bu, PS ρ P bl bu (lw m W) (uw m W) → FI (sd M (un M.length)) W (m + M.length) m r E → Q (.tup [.ptr P 0 0, i64 r]) ρ) : Rn rp 97 [.p (.sl b), i64 m] [] Q := by
 rw [ew rp149]
 have hbN : b.length = M.length := hML.1
 simp only [f97, aJ, SB, ak, aj, ↓reduceIte, reduceCtorEq, ai, ab, ah, ae, aa, af]
 refine cC (n70 Wf.nil hML (by omega) fun ρ0 bl _ hwf0 _ hbl0 => ?_)
 simp only [SB, ak, aj, ↓reduceIte, reduceCtorEq, ai, ab, ah, ae, aa, af, hbN]
 have hPl : ρ0.length = ρ0.length := rfl
 have hbll : bl < ρ0.length := (aq.1 hbl0).1
 generalize hPP : ρ0.length = P at *
 refine aM (β := Nat × ar × CV) (fun t => ([(0, .p (.sl b)), (1, i64 m), (6, .ptr P 0 0), (21, i64 M.length), (22, i64 t.1)], t.2.1))
  (fun t => t.1 ≤ M.length ∧ P < t.2.1.length ∧ t.2.1[P]? = some (.kblk 2 [.own bl 0 M.length, t.2.2]) ∧ t.2.1[bl]? = some (.prow 1 (zm M)) ∧ GL t.2.1 1 t.2.2 (zm ((un M.length).take t.1)) ∧ (∀ b o n, t.2.2 = .own b o n → b ≠ bl)) (fun t => M.length - t.1) ((0, ρ0 ++ [.kblk 2 [.own bl 0 M.length, .nils]], .nils) : Nat × ar × CV) rfl rfl
  ⟨aD _, by simp [hPP], by rw [← hPP, cP]; rfl, by rw [aL (by omega)]; exact hbl0, .nil, fun b o n h => by cases h⟩ ?_
 rintro ⟨i, τ, c⟩ ⟨hi, hPlt, hP, hbl, hG, hne⟩ ih
 simp only [] at hi hPlt hP hbl hG hne ih ⊢
 have hPb : P ≠ bl := by rintro rfl; rw [hP] at hbl; cases hbl
 by_cases hin : (i : Int) < M.length
 ·have hin' : i < M.length := by omega
  have w1 := wr1 (i := i) (by omega)
  have k54 := (VBn.p54 (x := 1) (by decide) (by decide)).lift gz
  have hz : (PV.agg [.bool false, .sl []]).cells.length = 2 := rfl
  have hz1 : (aw M.length (PV.agg [.bool false, .sl []]))[i]? = some (.agg [.bool false, .sl []]) := by simp [hin']
  have hP' : ∀ l, (τ ++ l)[P]? = some (.kblk 2 [.own bl 0 M.length, c]) := fun l => by rw [aL hPlt]; exact hP
  have hPn : ∀ l, (nd τ c ++ l)[P]? = some (.kblk 2 [.own bl 0 M.length, c]) := fun l => fO hG hP
  have htl : (zm ((un M.length).take i)).length = i := by rw [jn, aS, iL]; omega
  have hc4 : ((zm ((un M.length).take i)).length + [PV.sl (zr (oa M.length i))].length) * 24 ≤ 140737488355328 := by rw [htl]; simp; omega
  have rA := fun {rp rs base d l dr ks e Q x y} => zS (rp := rp) (rs := rs) (base := base) (d := d) (l := l) (dr := dr) (ks := ks) (e := e) (ρ := τ) (Q := Q) (x := x) (y := y) (n := M.length) hz hNm
  have rC := fun {rp rs base d l dr ks e Q s x} => my (rp := rp) (rs := rs) (base := base) (d := d) (l := l) (dr := dr) (ks := ks) (e := e) (Q := Q) (s := s) (x := x) (a := .dead) hG hc4
  have hs1 : zm ((un M.length).take i) ++ [PV.sl (zr (oa M.length i))] = zm ((un M.length).take (i + 1)) := by rw [wG (tT hin')]
  simp only [S1, S2, S3, S4, S5, iK, S6, S7, S8, setCells, ak, aj, ↓reduceIte, reduceCtorEq, ai, ab, ah, ae, aa, af, hbN, hin, hin', rA, kp1 k54, hz1, wS, wR hin', hP', ↓wg, dB, lW, rC, hs1, hPn, htl, SN, w1]
  have hlt2 : P < (nd τ c ++ [Blk.dead, .prow 1 [.sl (zr (oa M.length i))], .prow 1 (zm ((un M.length).take (i + 1)))]).length := by rw [bX, c7]; omega
  refine ih (i + 1, (nd τ c ++ [Blk.dead, Blk.prow 1 [.sl (zr (oa M.length i))], Blk.prow 1 (zm ((un M.length).take (i + 1)))]).set P (.kblk 2 [.own bl 0 M.length, .own (τ.length + 2) 0 (i + 1)]), .own (τ.length + 2) 0 (i + 1)) _ ⟨by simp only []; omega, by simp only [ay]; exact hlt2, bt hlt2, ?_, ?_, ?_⟩ (by simp only []; omega) ?_
  ·simp only []
   rw [bC hPb, aB (by rw [c7]; exact (aq.1 hbl).1)]
   cases c <;> try exact hbl
   exact (bC (hne _ _ _ rfl)).trans hbl
  ·refine .own ?_ (by rw [jn, aS, iL]; omega)
   simp only []
   rw [bC (by omega), show τ.length + 2 = (nd τ c).length + 2 by rw [c7], cY]
   rfl
  ·intro b o n h
   cases h
   have := (aq.1 hbl).1
   omega
  ·rfl
 ·obtain rfl : i = M.length := by omega
  rw [b6 (by rw [iL]; exact av _)] at hG
  obtain ⟨bu, rfl, hbu, _⟩ := GL.jr hG (n := M.length) (by rw [jn, iL]) hN0
  have hWl : (sd M (un M.length)).length = M.length := om iL.symm
  have hps0 : PS τ P bl bu (lw m (sd M (un M.length))) (uw m (sd M (un M.length))) := by
   rw [A6 hw iL.symm, CD hw iL.symm]
   exact ⟨by rw [iL]; exact hP, hbl, hbu, Ne.symm (hne _ _ _ rfl)⟩
  simp only [SB, ak, aj, ↓reduceIte, reduceCtorEq, ai, ab, ah, ae, aa, af, hin]
  refine aM (β := List (List Int) × Nat × Nat × ar) (fun t => ([(0, .p (.sl b)), (1, i64 m), (6, .ptr P 0 0), (9, i64 t.2.1), (10, i64 t.2.2.1)], t.2.2.2))
   (fun t => t.2.2.1 ≤ m ∧ FI (sd M (un M.length)) t.1 (m + M.length) t.2.2.1 t.2.1 E ∧ PS t.2.2.2 P bl bu (lw m t.1) (uw m t.1)) (fun t => m - t.2.2.1) ((sd M (un M.length), 0, 0, τ) : List (List Int) × Nat × Nat × ar) rfl rfl
   ⟨aD _, ⟨rfl, CP hw CE, .refl, .zero, hE, fun i j hi => absurd hi (Nat.not_lt_zero _)⟩, hps0⟩ ?_
  clear ih hps0 hG hbl hP hPlt hPb hne hin hbu
  rintro ⟨W, r, c, ρ⟩ ⟨hc, hFI, hps⟩ ih
  simp only [] at hc hFI hps ih ⊢
  have hWN : W.length = M.length := hFI.len.trans hWl
  have hrN : r ≤ M.length := by have := hFI.frm.le; omega
  have hszW : SzA W := hFI.sz (by have := (hC r hrN).1; omega) (by have := (hC r hrN).2; omega)
  by_cases hcm : (c : Int) < m
  ·have hcm' : c < m := by omega
   by_cases hrm : (r : Int) < M.length
   ·have hrm' : r < M.length := by omega
    have hCr := hC (r + 1) hrm'
    have w1 := wr1 (i := c) (by omega)
    have w2 := wr1 (i := r) (by omega)
    simp only [SB, ak, aj, ↓reduceIte, reduceCtorEq, ai, ab, ah, ae, aa, af, hbN, hcm, hrm]
    refine cC (n179 hps hFI.wd hcm' hN0 hm2 hNm (by omega) (by omega) hFI.low hFI.lo (fun i hi j => hszW i j) hCr.1 fun ok W' τ' hu hps' hcol hB hno hyes => ?_)
    cases ok with
    | false =>
      obtain ⟨hB0, hz⟩ := hno rfl
      simp only [SB, ak, aj, ↓reduceIte, reduceCtorEq, ai, ab, ah, ae, aa, af, Bool.not_false, w1]
      exact ih (W', r, c + 1, τ') _ ⟨hcm', hFI.skip hcol hB0 hz, hps'⟩ (by simp only []; omega) rfl
    | true =>
      obtain ⟨hy, hz⟩ := hyes rfl
      have hW'N : W'.length = M.length := hcol.len.trans hWN
      have hszW' : SzA W' := fun i j => by
       rcases ax i r with hi | hi
       ·rw [Hn.cE (hcol.up i hi)]; exact hszW i j
       ·exact fx (hB i j hi) (Nat.lt_of_succ_lt hCr.1)
      have gP := hps'.pair
      have gl := hps'.l
      have hl1 : (lw m W').length = M.length := by rw [gZ, hW'N]
      have hl2 : (uw m W').length = M.length := by rw [n9, hW'N]
      rw [hl1, hl2] at gP
      have hrow := fT (M := lw m W') (i := r) (by rw [hl1]; exact hrm')
      have hx := nv (L := lw m W') (i := r) (j := c) (by rw [(iD hcol.wd hszW' r (by rw [hl1]; exact hrm')).1]; exact hcm')
      rw [kv hcm'] at hx
      have k77 := (VBn.p77 (Nu.zi (hszW' r c))).lift gz
      refine @vt ?rs ?cc ?kk Q _ (fun e ρ => ∃ W2, fgt [0, 1, 6, 9, 10, 77, 78] e = [(0, .p (.sl b)), (1, i64 m), (6, .ptr P 0 0), (9, i64 r), (10, i64 c), (77, i64 r), (78, i64 (0 : Nat))] ∧ PS ρ P bl bu (lw m W2) (uw m W2) ∧
       W2.length = W.length ∧ SpE W W2 ∧ Wd (m + M.length) W2 ∧ (∀ i, i < r → W2[i]? = W[i]?) ∧ (∀ i, r ≤ i → ∀ j, j < c → en W2 i j = 0) ∧ 0 < en W2 r c ∧ (∀ i, r < i → en W2 i c = 0) ∧ Bd (loB E (r + 1)) W2 r) (fun rest => ?main) ?tail
      case main =>
       by_cases hs : (en W' r c).sign < 0
       ·simp only [SB, ak, aj, ↓reduceIte, reduceCtorEq, ai, ab, ah, ae, aa, af, Bool.not_true, gP, gl, hrm', hrow, hx, cf, SN, kz1 k77, hs]
        refine cC (n180 hps' (by rw [hl1, hl2]) (by rw [hl1]; exact hrm') (iD hcol.wd hszW') (qo hcol.wd hszW') hm2 hNm fun ρ2 hu2 hps2 => ?_)
        rw [C8, CB] at hps2
        simp only [SB, ak, aj, ↓reduceIte, reduceCtorEq, ai, ab, ah, ae, aa, af]
        refine rest _ _ ?_
        have hrW' : r < W'.length := by omega
        have hneg : en W' r c < 0 := by
         rcases Int.lt_trichotomy (en W' r c) 0 with h | h | h
         ·exact h
         ·rw [h] at hs; exact absurd hs (by decide)
         ·rw [bo h] at hs; exact absurd hs (by decide)
        refine ⟨tuR W' r, rfl, hps2, Hn.qt.trans hcol.len, hcol.sp.trans (Hn.BB hcol.wd hrW'), Hn.BA hcol.wd hrW', fun i hi => (Hn.oc (by omega)).trans (hcol.up i hi), fun i hi j hj => ?_, ?_, fun i hi => ?_, fun i j hi => ?_⟩
        ·by_cases h : i = r
         ·subst h; rw [Hn.tV hrW', hcol.low i hi j hj, Int.mul_zero]
         ·rw [Hn.mX h]; exact hcol.low i hi j hj
        ·rw [Hn.tV hrW']; omega
        ·rw [Hn.mX (by omega)]; exact hz i hi
        ·by_cases h : i = r
         ·subst h; rw [Hn.tV hrW', Int.neg_mul, Int.one_mul, Int.natAbs_neg]; exact hB i j hi
         ·rw [Hn.mX h]; exact hB i j hi
       ·simp only [SB, ak, aj, ↓reduceIte, reduceCtorEq, ai, ab, ah, ae, aa, af, Bool.not_true, gP, gl, hrm', hrow, hx, cf, SN, kz1 k77, hs]
        refine rest _ _ ?_
        have hpos : 0 < en W' r c := by
         rcases Int.lt_trichotomy (en W' r c) 0 with h | h | h
         ·rw [bY h] at hs; exact absurd (by decide) hs
         ·exact absurd h hy
         ·exact h
        exact ⟨W', rfl, hps', hcol.len, hcol.sp, hcol.wd, hcol.up, hcol.low, hpos, hz, hB⟩
      case tail =>
       rintro e ρ2 ⟨W2, he, hps2, hl2', hsp2, hwd2, hup2, hlow2, hy2, hz2, hB2⟩
       have hW2N : W2.length = M.length := hl2'.trans hWN
       have hupb : ∀ k j, k < r → (en W2 k j).natAbs ≤ upB E r := fun k j hk => by rw [Hn.cE (hup2 k hk)]; exact hFI.up k j hk
       have hlob : ∀ j, (en W2 r j).natAbs ≤ loB E (r + 1) := fun j => hB2 r j (av _)
       refine aM (β := List (List Int) × Nat × ar) (fun t => ([(0, .p (.sl b)), (1, i64 m), (6, .ptr P 0 0), (9, i64 r), (10, i64 c), (77, i64 r), (78, i64 t.2.1)], t.2.2))
        (fun t => t.2.1 ≤ r ∧ Rd W2 t.1 (m + M.length) r c t.2.1 (upB E r) (upB E r + (upB E r + 1) * loB E (r + 1)) ∧ PS t.2.2 P bl bu (lw m t.1) (uw m t.1)) (fun t => r - t.2.1) ((W2, 0, ρ2) : List (List Int) × Nat × ar) he rfl
        ⟨aD _, .start hwd2, hps2⟩ ?_
       rintro ⟨V, i, ρ3⟩ ⟨hir, hRd, hps3⟩ ih2
       simp only [] at hir hRd hps3 ih2 ⊢
       have hszV : SzA V := fun k j => by
        rcases ax k i with hk | hk
        ·exact fx (hRd.bd k j hk) (by have := hCr.2; show upB E r + (upB E r + 1) * loB E (r + 1) < _; exact Nat.lt_of_succ_lt this)
        ·rw [Hn.cE (hRd.rest k hk)]
         rcases ax k r with hk2 | hk2
         ·exact fx (hupb k j hk2) (by have := (hC r hrN).2; omega)
         ·exact fx (hB2 k j hk2) (by have := hCr.1; omega)
       have hVN : V.length = M.length := hRd.len.trans hW2N
       by_cases hin : (i : Int) < r
       ·have hin' : i < r := by omega
        have hiN : i < M.length := by omega
        have w3 := wr1 (i := i) (by omega)
        have gP := hps3.pair
        have gl := hps3.l
        have hl1 : (lw m V).length = M.length := by rw [gZ, hVN]
        have hl2 : (uw m V).length = M.length := by rw [n9, hVN]
        rw [hl1, hl2] at gP
        have gP' : ∀ l, (ρ3 ++ l)[P]? = some (.kblk 2 [.own bl 0 M.length, .own bu 0 M.length]) := fun l => by rw [aL hps3.lt.1]; exact gP
        have gl' : ∀ l, (ρ3 ++ l)[bl]? = some (.prow 1 (zm (lw m V))) := fun l => (hps3.push).l
        have hrow := fT (M := lw m V) (i := i) (by rw [hl1]; exact hiN)
        have hrowr := fT (M := lw m V) (i := r) (by rw [hl1]; exact hrm')
        have hxi := nv (L := lw m V) (i := i) (j := c) (by rw [(iD hRd.wd hszV i (by rw [hl1]; exact hiN)).1]; exact hcm')
        have hxr := nv (L := lw m V) (i := r) (j := c) (by rw [(iD hRd.wd hszV r (by rw [hl1]; exact hrm')).1]; exact hcm')
        rw [kv hcm'] at hxi hxr
        have er : en V r c = en W2 r c := Hn.cE (hRd.rest r (by omega)) c
        obtain ⟨q, ρr, hF, kF⟩ := fl134 (Nu.zi (hszV i c)) (Nu.zi (hszV r c)) (by rw [er]; omega)
        have k134 := kF.lift gz
        obtain ⟨st0, st1, hqs⟩ := hRd.step hin' (by omega) (hlow2 r (av _)) hy2 hupb hlob hF
        have hqz : Sz q := by
         have h1 := hF.le
         have h2 : (en V i c).natAbs ≤ upB E r := by rw [Hn.cE (hRd.rest i (av _))]; exact hupb i c hin'
         have h3 := (hC r hrN).2
         exact fx (B := upB E r + 1) (by omega) h3
        have k77q := (VBn.p77 (Nu.zi hqz)).lift gz
        have k146 := (VBn.p146 (Nu.zi hqz)).lift gz
        rw [bg (x := q)] at k77q k146
        by_cases hq0 : q = 0
        ·have s0 : (q.sign != 0) = false := by rw [hq0]; rfl
         simp only [SB, ak, aj, ↓reduceIte, reduceCtorEq, ai, ab, ah, ae, aa, af, hin, hrm', hiN, gP, gl, gP', gl', hrow, hrowr, hxi, hxr, cf, bV, SN, kz2 k134, kz1 k77q, s0, w3]
         exact ih2 (V, i + 1, ρ3 ++ _) _ ⟨by simp only []; omega, st0 hq0, hps3.push⟩ (by simp only []; omega) rfl
        ·have s0 : (q.sign != 0) = true := by
          rw [bne_iff_ne]; exact fun hh => hq0 (Int.sign_eq_zero_iff_zero.1 hh)
         have hqr : ∀ j, Sz (-q * en V r j) := fun j => fx (hqs j) (by
          have h1 := hCr.2
          have h2 : upB E (r + 1) = upB E r + (upB E r + 1) * loB E (r + 1) := rfl
          omega)
         simp only [SB, ak, aj, ↓reduceIte, reduceCtorEq, ai, ab, ah, ae, aa, af, hin, hrm', hiN, gP, gl, gP', gl', hrow, hrowr, hxi, hxr, cf, bV, SN, kz2 k134, kz1 k77q, s0, kz1 k146]
         refine cC (n181 (Nu.zi hqz.neg) hps3.push (by rw [hl1, hl2]) (by rw [hl1]; exact hiN) (by rw [hl1]; exact hrm') (iD hRd.wd hszV) (qo hRd.wd hszV) hm0 hN0 hm2 hNm (pP hqr) (pD hqr) fun ρ4 hu4 hps4 => ?_)
         rw [ya, wQ] at hps4
         simp only [SB, ak, aj, ↓reduceIte, reduceCtorEq, ai, ab, ah, ae, aa, af, w3]
         exact ih2 (fm V i r (-q), i + 1, ρ4) _ ⟨by simp only []; omega, st1, hps4⟩ (by simp only []; omega) rfl
       ·obtain rfl : i = r := by omega
        simp only [SB, ak, aj, ↓reduceIte, reduceCtorEq, ai, ab, ah, ae, aa, af, hin, w1, w2]
        exact ih (V, i + 1, c + 1, ρ3) _ ⟨hcm', hFI.next (by omega) hl2' hsp2 hup2 hlow2 hy2 hz2 hB2 hRd, hps3⟩ (by simp only []; omega) rfl
   ·obtain rfl : r = M.length := by omega
    simp only [SB, ak, aj, ↓reduceIte, reduceCtorEq, ai, ab, ah, ae, aa, af, hbN, hcm, hrm]
    exact hQ W _ ρ P bl bu hps (hFI.full hWN.symm hc)
  ·obtain rfl : c = m := by omega
   simp only [SB, ak, aj, ↓reduceIte, reduceCtorEq, ai, ab, ah, ae, aa, af, hbN, hcm]
   exact hQ W r ρ P bl bu hps hFI
end Go.Proofs.YtdieenbfdeaffabGreat.VRs
namespace Go.Proofs.YtdieenbfdeaffabGreat.VRs
open Go Vpi
open VBn hiding rp tab cV cj mixed sim Big
open Hn (fm swR tuR Fl en Wd Bd Col Inn Ph kL SpE Frm vec vm Sp shR)
set_option maxRecDepth 100000
theorem rp150 : rp 56 = some f56 := rfl
theorem ju {m j : Nat} {s : List Int} (h : j < m) : vec (s.take m) j = vec s j := by
 unfold vec
 rw [aK, aK, aN, if_pos h]
theorem zc {W : List (List Int)} {m r : Nat} (h : Frm W m r) : Frm (lw m W) m r := by
 have hget : ∀ (i : Nat) (s : List Int), (lw m W)[i]? = some s → ∃ t, W[i]? = some t ∧ s = t.take m := fun i s hs => by
  unfold lw at hs
  rw [cd, au] at hs
  obtain ⟨t, ht, rfl⟩ := hs
  exact ⟨t, ht, rfl⟩
 have hhead : ∀ (i : Nat) (s : List Int), i < r → (lw m W)[i]? = some s → ∃ p, p < m ∧ 0 < vec s p ∧ ∀ j, j < p → vec s j = 0 := by
  intro i s hi hs
  obtain ⟨t, ht, rfl⟩ := hget i s hs
  obtain ⟨p, hp, h1, h2⟩ := h.head i t hi ht
  exact ⟨p, hp, by rw [ju hp]; exact h1, fun j hj => by rw [ju (by omega)]; exact h2 j hj⟩
 refine ⟨by rw [gZ]; exact h.le, ?_, hhead, fun i s hi hs j hj => ?_⟩
 ·refine Hn.Hnf.congr (d := m) (by simp [vm, lw]) (fun i a b ha hb j hj => ?_) (fun b hb => ?_) h.hnf
  ·simp only [vm, cd, au] at ha hb
   obtain ⟨s, hs, rfl⟩ := ha
   obtain ⟨u, hu, rfl⟩ := hb
   rw [aN] at hs hu
   split at hs
   ·rename_i hir
    rw [if_pos hir] at hu
    obtain ⟨t, ht, rfl⟩ := hget i u hu
    rw [hs] at ht
    cases ht
    exact (ju hj).symm
   ·cases hs
  ·obtain ⟨i, u, hi, rfl⟩ := Hn.fG.1 hb
   rw [aN] at hi
   split at hi
   ·rename_i hir
    exact hhead i u hir hi
   ·cases hi
 ·obtain ⟨t, ht, rfl⟩ := hget i s hs
  rw [ju hj]
  exact h.low i t hi ht j hj
theorem Aw {M : List (List Int)} {m : Nat} {v : Hn.Vec} (h : Sp (vm M) v) : Sp (vm (lw m M)) fun j => if j < m then v j else 0 := by
 induction h with
 | zero => exact Sp.zero.cast fun j => by split <;> rfl
 | @add v r c hr _ ih =>
   obtain ⟨j, s, hj, rfl⟩ := Hn.fG.1 hr
   refine (Sp.add c (r := vec (s.take m)) (Hn.fG.2 ⟨j, s.take m, by simp [lw, hj], rfl⟩) ih).cast fun x => ?_
   by_cases hx : x < m
   ·simp only [hx, if_true, ju hx]
   ·have : vec (s.take m) x = 0 := by
     unfold vec
     rw [aK, aG (by rw [aS]; omega)]; rfl
    simp only [hx, if_false, this, Int.mul_zero, Int.add_zero]
theorem zb {A B : List (List Int)} {m : Nat} (h : SpE A B) : SpE (lw m A) (lw m B) := by
 have key : ∀ {A B : List (List Int)}, SpE A B → ∀ v, Sp (vm (lw m A)) v → Sp (vm (lw m B)) v := by
  intro A B h v
  refine Sp.mono fun r hr => ?_
  obtain ⟨j, s, hj, rfl⟩ := Hn.fG.1 hr
  unfold lw at hj
  rw [cd, au] at hj
  obtain ⟨t, ht, rfl⟩ := hj
  refine (Aw (m := m) ((h _).1 (Hn.e8 ht))).cast fun x => ?_
  by_cases hx : x < m
  ·simp only [hx, if_true, ju hx]
  ·have : vec (t.take m) x = 0 := by
    unfold vec
    rw [aK, aG (by rw [aS]; omega)]; rfl
   simp only [hx, if_false, this]
 exact fun v => ⟨key h v, key h.symm v⟩
theorem C7 {m n : Nat} {W : List (List Int)} (h : Wd (m + n) W) : Wd m (lw m W) := by
 intro i s hs
 unfold lw at hs
 rw [cd, au] at hs
 obtain ⟨t, ht, rfl⟩ := hs
 rw [aS, h i t ht]; omega
theorem zk {M : List (List Int)} {r : Nat} : (zm M).take r = zm (M.take r) := by unfold zm; rw [List.map_take]
def IsB (m : Nat) (M H : List (List Int)) : Prop := ∃ L r, H = L.take r ∧ Wd m L ∧ Frm L m r ∧ SpE M L
theorem IsB.one {m : Nat} {M M' H H' : List (List Int)} (h : IsB m M H) (h' : IsB m M' H') (he : SpE M M') : H = H' := by
 obtain ⟨L, r, rfl, w1, f1, s1⟩ := h
 obtain ⟨L', r', rfl, w2, f2, s2⟩ := h'
 exact Hn.Frm.one w1 w2 f1 f2 ((s1.symm.trans he).trans s2)
def Bo (E N : Nat) : Prop := ∀ k, k ≤ N → loB E k + 1 < LB ^ fR ∧ upB E k + 1 < LB ^ fR
theorem zu : SzA [] := fun i j => by
 have h : en [] i j = 0 := by simp [en]
 rw [h]
 exact Sz.small (by decide)
theorem BD {W : List (List Int)} {m r : Nat} (h : SzA W) : SzA ((lw m W).take r) := fun i j => by
 have h0 : Sz 0 := Sz.small (by decide)
 unfold en
 rw [aK (l := (lw m W).take r), aN]
 split
 ·rw [← aK, iE, aK, aN]
  split
  ·rw [← aK]; exact h i j
  ·exact h0
 ·exact h0
theorem p150 {b : List PV} {M : List (List Int)} {m E : Nat} (hML : ML b M) (hNm : M.length ≤ 2000000) (hw : Wd m M) (hm0 : 0 < m) (hm2 : m ≤ 2000000) (hE : Bd E (sd M (un M.length)) 0) (hC : Bo E M.length) :
 ∃ H, Pu rp 56 [.sl b, .int .i64 m] (.p (.sl (zm H))) ∧ IsB m M H ∧ SzA H := by
 rcases eu M.length with h0 | h0
 ·obtain rfl : M = [] := List.length_eq_zero_iff.1 h0
  obtain rfl : b = [] := List.length_eq_zero_iff.1 hML.1
  refine ⟨[], ?_, ⟨[], 0, rfl, fun i r h => by simp at h, ⟨av _, trivial, fun i s h => by omega, fun i s _ h => by simp at h⟩, .refl⟩, zu⟩
  refine aY rp150 ?_
  have m0 : (0 : Int) < (m : Int) := by omega
  have z0 : ¬ ((0 : Int) < ((0 : Nat) : Int)) := by decide
  have i0 : gG 0 = 0 := rfl
  simp only [f56, aJ, SB, ak, aj, ↓reduceIte, reduceCtorEq, ai, ab, ah, ae, aa, af]
  refine cC ?_
  rw [ew rp149]
  simp only [f97, aJ, SB, ak, aj, ↓reduceIte, reduceCtorEq, ai, ab, ah, ae, aa, af]
  refine cC (n70 Wf.nil hML (by simp) fun ρ0 bl _ hwf0 _ hbl0 => ?_)
  have hbl : bl < ρ0.length := (aq.1 hbl0).1
  have hb' : ∀ l, (ρ0 ++ l)[bl]? = some (.prow 1 (zm [])) := fun l => by rw [aL hbl]; exact hbl0
  simp only [SB, ak, aj, ↓reduceIte, reduceCtorEq, ai, ab, ah, ae, aa, af, z0]
  rw [qZ]
  simp only [SB, ak, aj, ↓reduceIte, reduceCtorEq, ai, ab, ah, ae, aa, af, z0]
  rw [qZ]
  simp only [SB, ak, aj, ↓reduceIte, reduceCtorEq, ai, ab, ah, ae, aa, af, z0, m0, hb', i0, dN, dw, back, dL, eI]
  rw [if_neg (Nat.not_lt_zero _)]
  simp only [SB, ak, aj, ↓reduceIte, reduceCtorEq, ai, ab, ah, ae, aa, af, hb', aD]
  rfl
 ·obtain ⟨n, v, hrun, W, r, P, bl, bu, hv, hps, hFI⟩ := n149 hML h0 hNm hw hm0 hm2 hE hC (Q := fun v ρ => ∃ (W : List (List Int)) (r P bl bu : Nat), v = .tup [.ptr P 0 0, i64 r] ∧ PS ρ P bl bu (lw m W) (uw m W) ∧ FI (sd M (un M.length)) W (m + M.length) m r E)
   (fun W r ρ P bl bu h1 h2 => ⟨W, r, P, bl, bu, rfl, h1, h2⟩)
  obtain ⟨v1, ρ⟩ := v
  simp only [] at hv hps
  subst hv
  have hWN : W.length = M.length := hFI.len.trans (om iL.symm)
  have hrN : r ≤ W.length := hFI.frm.le
  have hCr := hC r (by omega)
  refine ⟨(lw m W).take r, ?_, ⟨lw m W, r, rfl, C7 hFI.wd, zc hFI.frm, ?_⟩, BD (hFI.sz (by omega) (by omega))⟩
  ·refine aY rp150 ?_
   simp only [f56, aJ, SB, ak, aj, ↓reduceIte, reduceCtorEq, ai, ab, ah, ae, aa, af]
   refine cC ⟨n, _, hrun, ?_⟩
   have gP := hps.pair
   have gl := hps.l
   have hrl : r ≤ (lw m W).length := by rw [gZ]; exact hrN
   have hrz : r ≤ (zm (lw m W)).length := by rw [jn, gZ]; exact hrN
   simp only [SB, ak, aj, ↓reduceIte, reduceCtorEq, ai, ab, ah, ae, aa, af, gP, gl, SN, hrl, dw, Nat.sub_zero, aD]
   simp only [back, dL, Nat.not_lt_zero, if_false, dD, gl, d8, hrz, if_true, List.drop_zero, aH, zk]
  ·have := zb (m := m) hFI.sp
   rwa [A6 hw iL.symm] at this
theorem vv : ∀ {A : List Hn.Vec} {c d : Nat}, Hn.Hnf c A → (∀ a ∈ A, ∃ p, p < d ∧ 0 < a p ∧ ∀ j, j < p → a j = 0) → c ≤ d → A.length + c ≤ d
 | [], c, d, _, _, h => by simpa using h
 | a :: A, c, d, ⟨⟨p, g1, g2, g3, g4⟩, g5⟩, hA, _ => by
   obtain ⟨q, hq, hq1, hq2⟩ := hA a (dj ..)
   have hpq : p = q := by
    rcases Nat.lt_trichotomy p q with h | h | h
    ·have := hq2 p h; omega
    ·exact h
    ·have := g3 q h; omega
   subst hpq
   have := vv g4 (fun x hx => hA x (dK _ hx)) (by omega)
   rw [dZ]; omega
theorem Cx {W : List (List Int)} {m r : Nat} (h : Frm W m r) : r ≤ m := by
 have h1 := vv (d := m) h.hnf (fun a ha => by
  obtain ⟨i, u, hi, rfl⟩ := Hn.fG.1 ha
  rw [aN] at hi
  split at hi
  ·rename_i hir; exact h.head i u hir hi
  ·cases hi) (aD _)
 have h2 := h.le
 simp only [vm, List.length_map, aS, bw] at h1
 omega
end Go.Proofs.YtdieenbfdeaffabGreat.VRs

