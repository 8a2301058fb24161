/- Resolved code of functions, printed by a program of ours (genfun.py); each is held against the model by chkF; The functions together; Rows and matrices of numbers: mat.Form (n70), each, the reference's Floor; Common divisors, quotients without a rest, the closure of a range: zint.Gcd, zint.Exact, dual.each; Stores and rows: general facts; what divides all; Determinants: expansion along a row, cofactors, rows exchanged, elimination with pivots, Cramer, coefficients along rows: plain facts, no program in sight; A matrix copied (elim.copied); Floor for every divisor, Abs; elim.bareiss: the plain part; elim.bareiss and elim.det; elim.square, elim.cofactor; elim.terms, elim.Det, elim.Inverse; mat.each with pure rows, mat.Gram; mat.Combine, mat.Product, mat.Times; mat.Product, dual.scaled, dual.Scaled; dual.Scaled: its answers. No condition. -/
import Derived.Test.YtdieenbfdeaffabGreatZa2
import Derived.Test.YtdieenbfdeaffabGreatProg
import Derived.KernelRfl
import Derived.Test.YtdieenbfdeaffabGreatZb1
import Derived.Test.YtdieenbfdeaffabGreatZa3
import Derived.Test.YtdieenbfdeaffabGreatZb2
set_option linter.unusedSimpArgs false
set_option linter.unusedVariables false
open Bool renaming false_eq_true → aR
open Int renaming reduceLT → aj, reduceLE → ak, sign_eq_one_of_pos → bo, sign_eq_neg_one_of_neg → bY, le_refl → dN, natAbs_natCast → d9, toNat → gG
open List renaming getElem?_eq_some_iff → aq, replicate → aw, length_set → ay, getElem?_append_left → aB, getElem?_append_right → aC, getElem?_set_ne → aE, getElem?_eq_none → aG, getElem?_take → aN, getElem?_set_self → aO, append_assoc → aP, length_take → aS, all_eq_true → aU, getElem?_drop → bF, length_append → bX, take_of_length_le → b6, range → ca, flatMap_cons → cu, append_nil → c8, mem_cons_self → dj, ext_getElem? → dv, mem_cons_of_mem → dK, length_cons → dZ, length_replicate → eK, drop_of_length_le → eW, getElem?_cons_zero → gO
open Nat renaming reduceLeDiff → aa, reduceEqDiff → ab, reduceMul → ae, reduceBEq → af, reduceAdd → ah, reduceLT → ai, le_refl → av, lt_or_ge → ax, mul_le_mul_right → az, zero_le → aD, mod_eq_of_lt → a6, mul_comm → a7, add_mul → a8, le_trans → a9, add_zero → bw, mul_le_mul_left → bH, pow_succ → bJ, lt_succ_self → bO, lt_of_lt_of_le → bP, lt_of_le_of_lt → bQ, mul_assoc → bW, gcd → bZ, pow_pos → dg, add_assoc → dh, mul_one → dq, pos_of_ne_zero → dU, succ_mul → dX, zero_add → d8, mod_lt → ep, eq_zero_or_pos → eu, sub_self → eI, add_sub_cancel_left → gE
open Option renaming map_eq_some_iff → au, map_some → aH
open Rat renaming intCast_mul → dA, intCast_inj → eT
namespace Go.Proofs.YtdieenbfdeaffabGreat.VDd
open Go Vpi
set_option maxRecDepth 100000
def f4 : RFun := ⟨(qS [zQ 2, iQ 3 0]
 (.seq (qS [mq 10 0, cA 11 13 10, mq 4 11]
 (qS [mq 12 4, bK 13 .neq 12 0]
 (.fg [0, 2, 4, 13] (.cond (.t 13)
 (qS [lq 14 (.build [.p (.bool false), .nils] []), mq 15 4, sq 2 2 14, mq 3 15]
 .ret)
 .skip))))
 (qS [mq 17 0, cA 18 14 17, mq 16 18, eX 19 16 0, eX 20 16 1, mq 5 19, mq 6 20]
 (qS [mq 22 5, cA 23 15 22, mq 21 23, eX 24 21 0, eX 25 21 1, eX 26 21 2, zQ 8, mq 7 24, sq 2 8 25, mq 9 26]
 (qS [lT 27 2 8, sq 2 2 27, iQ 3 0]
 .ret))))), [.cell 2 true 2, .t 3]⟩
def f6 : RFun := ⟨(qS [lq 2 (.mv (.c (.p (.bool false)))), iQ 3 0]
 (.seq (qS [mq 8 0, cA 9 13 8, mq 4 9]
 (qS [mq 10 4, bK 11 .neq 10 0]
 (.fg [0, 4, 11] (.cond (.t 11)
 (qS [mq 12 4, lq 2 (.mv (.c (.p (.bool false)))), mq 3 12]
 .ret)
 .skip))))
 (qS [lq 5 (.alloc [.nils])]
 (.seq (qS [mq 13 0, lq 14 (.call .ct 17 [.t 13])]
 (.fg [5, 14] (.block 0
 (.rng false [15, 16] (.t 14)
 (.reg [mq 7 16] none)
 (.fg [5, 7] (.block 1
 (.reg [lF 17 1 5, mq 18 7, cA 19 20 18, ⟨(some 20), none, (some 0), .bslice 2 [.t 19]⟩, ⟨(some 21), none, (some 1), .append 2 32 (.t 17) (.t 20)⟩, sq 1 5 21] (some (2, [(0, 3)])))))))))
 (qS [lF 22 1 5, lq 23 (.call .fz 21 [.t 22]), mq 2 23, iQ 3 0]
 .ret))))), [.t 2, .t 3]⟩
def f8 : RFun := ⟨(qS [lq 2 (.box (.t 0)), lq 3 (.box (.t 1)), lq 4 (.mv (.c (.p (.bool false))))]
 (.seq (qS [fQ 6 0 2, lF 7 1 6, fQ 8 0 3, lF 9 1 8, lq 10 (.beq true (.t 7) (.t 9)), mq 11 10, ⟨(some 12), (some (11, false)), none, .fieldA 1 (.t 2)⟩, ⟨(some 13), (some (11, false)), none, .load false 1 (.t 12)⟩, ⟨(some 14), (some (11, false)), none, .len (.t 13)⟩, ⟨(some 15), (some (11, false)), none, .fieldA 1 (.t 3)⟩, ⟨(some 16), (some (11, false)), none, .load false 1 (.t 15)⟩, ⟨(some 17), (some (11, false)), none, .len (.t 16)⟩, ⟨(some 18), (some (11, false)), none, .bin .neq (.t 14) (.t 17)⟩, lq 19 (.pick (.t 11) (.c (.p (.bool true))) (.t 18))]
 (.fg [2, 3, 19] (.cond (.t 19)
 (qS [lq 4 (.mv (.c (.p (.bool false))))]
 .ret)
 .skip)))
 (.seq (qS [iQ 5 0]
 (.fg [2, 3, 5] (.block 0
 (.loop (.fg [2, 3, 5]
 (.seq (qS [mq 20 5, fQ 21 1 2, lF 22 1 21, nQ 23 22, bq 24 .lss 20 23]
 (.fg [2, 3, 5, 24] (.cond (.t 24)
 .skip
 (.exit 0))))
 (.seq (.block 1
 (.seq (.reg [fQ 27 1 2, lF 28 1 27, mq 29 5, xq 30 1 28 29, lF 31 1 30, fQ 32 1 3, lF 33 1 32, mq 34 5, xq 35 1 33 34, lF 36 1 35, bq 37 .neq 31 36] (some (0, [])))
 (.fg [2, 3, 5, 37] (.cond (.t 37)
 (qS [lq 4 (.mv (.c (.p (.bool false))))]
 .ret)
 .skip))))
 (.fg [2, 3, 5] (.reg [mq 25 5, bK 26 .add 25 1, mq 5 26] none)))))))))
 (qS [lq 4 (.mv (.c (.p (.bool true))))]
 .ret)))), [.t 4]⟩
def f9 : RFun := ⟨(qS [lq 0 (.mv (.c (.p (.bool false))))]
 (qS [lq 5 (.call .pu 24 [.c (.p (.int .i64 1))]), lq 6 (.call .pu 24 [.c (.p (.int .i64 0))]), lq 7 (.bslice 2 [.t 5, .t 6]), lq 8 (.call .pu 24 [.c (.p (.int .i64 0))]), lq 9 (.call .pu 24 [.c (.p (.int .i64 2))]), lq 10 (.bslice 2 [.t 8, .t 9]), lq 11 (.bslice 1 [.t 7, .t 10]), lq 12 (.call .fz 23 [.t 11]), mq 4 12, eX 13 4 0, eX 14 4 1, eX 15 4 2, zQ 2, mq 1 13, sq 2 2 14, mq 3 15]
 (.seq (.reg [mq 16 3, bK 17 .eql 16 0, mq 18 17, ⟨(some 19), (some (18, true)), none, .load true 2 (.t 2)⟩, ⟨(some 20), (some (18, true)), none, .call .pu 24 [.c (.p (.int .i64 4))]⟩, ⟨(some 21), (some (18, true)), none, .call .pu 8 [.t 19, .t 20]⟩, lq 22 (.pick (.t 18) (.t 21) (.c (.p (.bool false)))), mq 23 22, ⟨(some 24), (some (23, true)), none, .mv (.t 1)⟩, ⟨(some 25), (some (23, true)), none, .call .pu 24 [.c (.p (.int .i64 4))]⟩, ⟨(some 26), (some (23, true)), none, .call .pu 24 [.c (.p (.int .i64 0))]⟩, ⟨(some 27), (some (23, true)), (some 0), .bslice 2 [.t 25, .t 26]⟩, ⟨(some 28), (some (23, true)), none, .call .pu 24 [.c (.p (.int .i64 0))]⟩, ⟨(some 29), (some (23, true)), none, .call .pu 24 [.c (.p (.int .i64 2))]⟩, ⟨(some 30), (some (23, true)), (some 1), .bslice 2 [.t 28, .t 29]⟩, ⟨(some 31), (some (23, true)), (some 2), .bslice 1 [.t 27, .t 30]⟩, ⟨(some 32), (some (23, true)), none, .call .fz 25 [.t 24, .t 31]⟩, lq 33 (.pick (.t 23) (.t 32) (.c (.p (.bool false)))), mq 0 33] (some (3, [(11, 14)])))
 .ret))), [.t 0]⟩
def f10 : RFun := ⟨(qS [zQ 2]
 (qS [mq 17 0, cA 18 26 17, mq 16 18, eX 19 16 0, eX 20 16 1, zQ 4, mq 3 19, sq 2 4 20]
 (qS [lq 21 (.call .pu 27 [.c (.p (.int .i64 1))]), zQ 5, sq 2 5 21]
 (.seq (qS [iQ 6 0]
 (.fg [0, 2, 3, 4, 5, 6] (.block 0
 (.loop (.fg [0, 2, 3, 4, 5, 6]
 (.seq (qS [mq 22 6, mq 23 3, nQ 24 23, bq 25 .lss 22 24]
 (.fg [0, 2, 3, 4, 5, 6, 25] (.cond (.t 25)
 .skip
 (.exit 0))))
 (.seq (.block 1
 (qS [lq 7 (.mv (.c (.nils)))]
 (.seq (qS [iQ 8 0]
 (.fg [0, 2, 3, 4, 5, 6, 7, 8] (.block 2
 (.loop (.fg [0, 2, 3, 4, 5, 6, 7, 8]
 (.seq (qS [mq 28 8, mq 29 3, mq 30 6, xq 31 1 29 30, lF 32 1 31, nQ 33 32, bq 34 .lss 28 33]
 (.fg [0, 2, 3, 4, 5, 6, 7, 8, 34] (.cond (.t 34)
 .skip
 (.exit 2))))
 (.seq (.block 3
 (.reg [mq 37 7, mq 38 3, mq 39 6, xq 40 1 38 39, lF 41 1 40, mq 42 8, xq 43 2 41 42, lT 44 2 43, lT 45 2 4, cB 46 28 44 45, ⟨(some 47), none, (some 0), .bslice 4 [.t 46]⟩, ⟨(some 48), none, (some 1), .append 4 64 (.t 37) (.t 47)⟩, mq 7 48] (some (2, []))))
 (.fg [0, 2, 3, 4, 5, 6, 7, 8] (.reg [mq 35 8, bK 36 .add 35 1, mq 8 36] none)))))))))
 (qS [mq 50 0, mq 51 7, lq 52 (.call .fz 29 [.t 50, .t 51]), mq 49 52, eX 53 49 0, eX 54 49 1, eX 55 49 2, lq 10 (.alloc [.p (.bool false), .nils, .p (.bool false), .nils]), mq 9 53, sq 4 10 54, mq 11 55]
 (qS [iQ 12 0]
 (.fg [0, 2, 3, 4, 5, 6, 9, 12] (.block 4
 (.loop (.fg [0, 2, 3, 4, 5, 6, 9, 12]
 (.seq (qS [mq 56 12, mq 57 9, nQ 58 57, bq 59 .lss 56 58]
 (.fg [0, 2, 3, 4, 5, 6, 9, 12, 59] (.cond (.t 59)
 .skip
 (.exit 4))))
 (.seq (.block 5
 (.seq (.reg [fQ 62 1 5, lF 63 1 62, mq 64 9, mq 65 12, xq 66 4 64 65, fQ 67 2 66, fQ 68 1 67, lF 69 1 68, cB 70 30 63 69, mq 13 70] (some (0, [])))
 (qS [mq 72 9, mq 73 12, xq 74 4 72 73, fQ 75 2 74, lT 76 2 75, mq 77 13, lq 78 (.build [.p (.bool false), .nils] [(1, 1, .t 77)]), cB 79 31 76 78, mq 71 79, eX 80 71 0, eX 81 71 1, zQ 14, zQ 15, sq 2 14 80, sq 2 15 81]
 (.reg [lT 82 2 5, lT 83 2 14, cB 84 32 82 83, sq 2 5 84] none))))
 (.fg [0, 2, 3, 4, 5, 6, 9, 12] (.reg [mq 60 12, bK 61 .add 60 1, mq 12 61] none)))))))))))))
 (.fg [0, 2, 3, 4, 5, 6] (.reg [mq 26 6, bK 27 .add 26 1, mq 6 27] none)))))))))
 (qS [lT 85 2 5, sq 2 2 85]
 .ret))))), [.cell 2 true 2]⟩
def f11 : RFun := ⟨(qS [lq 2 (.mv (.c (.p (.bool false))))]
 (qS [mq 3 0, cA 4 10 3, lq 5 (.call .pu 27 [.c (.p (.int .i64 1))]), cB 6 33 4 5, bK 7 .eql 6 0, mq 2 7]
 .ret)), [.t 2]⟩
def f12 : RFun := ⟨(qS [lq 2 (.mv (.c (.p (.bool false))))]
 (.seq (qS [iQ 3 0]
 (.fg [0, 3] (.block 0
 (.loop (.fg [0, 3]
 (.seq (qS [mq 5 3, mq 6 0, nQ 7 6, bq 8 .lss 5 7]
 (.fg [0, 3, 8] (.cond (.t 8)
 .skip
 (.exit 0))))
 (.seq (.block 1
 (.seq (.reg [mq 11 0, mq 12 3, xq 13 1 11 12, lF 14 1 13, mq 15 0, mq 16 3, xq 17 1 15 16, lF 18 1 17, cB 19 34 14 18, ⟨(some 4), none, (some 0), .alloc [.p (.bool false), .nils]⟩, sq 2 4 19] (some (1, [])))
 (qS [fQ 20 1 4, lF 21 1 20, nQ 22 21, bK 23 .gtr 22 0, mq 24 23, ⟨(some 25), (some (24, true)), none, .fieldA 1 (.t 4)⟩, ⟨(some 26), (some (24, true)), none, .load false 1 (.t 25)⟩, ⟨(some 27), (some (24, true)), none, .indexA 1 (.t 26) (ki 0)⟩, ⟨(some 28), (some (24, true)), none, .load false 1 (.t 27)⟩, ⟨(some 29), (some (24, true)), none, .bin .rem (.t 28) (.c (.p (.int .u32 2)))⟩, ⟨(some 30), (some (24, true)), none, .bin .eql (.t 29) (.c (.p (.int .u32 1)))⟩, lq 31 (.pick (.t 24) (.t 30) (.c (.p (.bool false))))]
 (.fg [0, 3, 31] (.cond (.t 31)
 (qS [lq 2 (.mv (.c (.p (.bool false))))]
 .ret)
 .skip)))))
 (.fg [0, 3] (.reg [mq 9 3, bK 10 .add 9 1, mq 3 10] none)))))))))
 (qS [lq 2 (.mv (.c (.p (.bool true))))]
 .ret))), [.t 2]⟩
def f14 : RFun := ⟨(qS [lq 1 (.box (.t 0)), lq 2 (.mv (.c (.nils))), iQ 3 0]
 (.seq (qS [lF 8 1 1, cA 9 36 8, mq 7 9, eX 10 7 0, eX 11 7 1, eX 12 7 2, mq 4 10, mq 5 11, mq 6 12]
 (qS [mq 13 6, bK 14 .neq 13 0]
 (.fg [1, 6, 14] (.cond (.t 14)
 (qS [mq 15 6, lq 2 (.mv (.c (.nils))), mq 3 15]
 (.jV 2 .ret))
 .skip))))
 (qS [lF 16 1 1, lq 17 (.mkfn 38 [.t 1]), lq 18 (.call .ct 37 [.t 16, .t 17]), mq 2 18, iQ 3 0]
 (.jV 2 .ret)))), [.t 2, .t 3]⟩
def f15 : RFun := ⟨(qS [lq 2 (.mv (.c (.nils))), zQ 3, iQ 4 0]
 (qS [mq 14 0, cA 15 42 14, mq 13 15, eX 16 13 0, eX 17 13 1, mq 5 16, mq 6 17]
 (.seq (qS [mq 18 6, bK 19 .neq 18 0]
 (.fg [0, 3, 5, 6, 19] (.cond (.t 19)
 (qS [lq 20 (.build [.p (.bool false), .nils] []), mq 21 6, lq 2 (.mv (.c (.nils))), sq 2 3 20, mq 4 21]
 .ret)
 .skip)))
 (qS [mq 22 0, cA 23 43 22, zQ 7, sq 2 7 23]
 (.seq (qS [lT 24 2 7, cA 25 44 24, bK 26 .eql 25 0]
 (.fg [0, 3, 5, 7, 26] (.cond (.t 26)
 (qS [lq 27 (.build [.p (.bool false), .nils] []), lq 2 (.mv (.c (.nils))), sq 2 3 27, iQ 4 50]
 .ret)
 .skip)))
 (qS [lq 8 (.mv (.c (.nils)))]
 (.seq (qS [mq 28 5, iQ 29 0]
 (.fg [0, 3, 5, 7, 8, 28, 29] (.block 0
 (.loop (.fg [0, 3, 5, 7, 8, 28, 29]
 (qS [bq 30 .lss 29 28]
 (.seq (.cond (.t 30)
 .skip
 (.exit 0))
 (.fg [0, 3, 5, 7, 8, 28, 29] (.seq (.block 1
 (qS [mq 31 29, mq 9 31]
 (qS [mq 32 5, iQ 33 0]
 (.fg [0, 3, 5, 7, 8, 9, 28, 29, 32, 33] (.block 2
 (.loop (.fg [0, 3, 5, 7, 8, 9, 28, 29, 32, 33]
 (qS [bq 34 .lss 33 32]
 (.seq (.cond (.t 34)
 .skip
 (.exit 2))
 (.fg [0, 3, 5, 7, 8, 9, 28, 29, 32, 33] (.seq (.block 3
 (qS [mq 35 33, mq 10 35]
 (.reg [mq 36 8, mq 37 0, mq 38 10, mq 39 9, lq 40 (.call .pu 45 [.t 37, .t 38, .t 39]), lq 41 (.bslice 2 [.t 40]), lq 42 (.append 2 32 (.t 36) (.t 41)), mq 8 42] none)))
 (.fg [0, 3, 5, 7, 8, 9, 28, 29, 32, 33] (.reg [bK 43 .add 33 1, mq 33 43] none)))))))))))))
 (.fg [0, 3, 5, 7, 8, 28, 29] (.reg [bK 44 .add 29 1, mq 29 44] none)))))))))))
 (qS [mq 46 8, lT 47 2 7, lq 48 (.call .fz 46 [.t 46, .t 47]), mq 45 48, eX 49 45 0, eX 50 45 1, mq 8 49, sq 2 7 50]
 (qS [lq 11 (.mv (.c (.nils)))]
 (.seq (qS [mq 51 5, iQ 52 0]
 (.fg [3, 5, 7, 8, 11, 51, 52] (.block 4
 (.loop (.fg [3, 5, 7, 8, 11, 51, 52]
 (qS [bq 53 .lss 52 51]
 (.seq (.cond (.t 53)
 .skip
 (.exit 4))
 (.fg [3, 5, 7, 8, 11, 51, 52] (.seq (.block 5
 (qS [mq 54 52, mq 12 54]
 (.reg [mq 55 11, mq 56 8, mq 57 12, mq 58 5, bq 59 .mul 57 58, mq 60 12, bK 61 .add 60 1, mq 62 5, bq 63 .mul 61 62, mq 64 12, bK 65 .add 64 1, mq 66 5, bq 67 .mul 65 66, lq 68 (.slice 2 (.t 56) (some (.t 59)) (some (.t 63)) (some (.t 67))), lq 69 (.bslice 1 [.t 68]), lq 70 (.append 1 24 (.t 55) (.t 69)), mq 11 70] none)))
 (.fg [3, 5, 7, 8, 11, 51, 52] (.reg [bK 71 .add 52 1, mq 52 71] none)))))))))))
 (.seq (.reg [mq 72 11, lT 73 2 7, mq 2 72, sq 2 3 73, iQ 4 0] (some (0, [])))
 .ret))))))))))), [.t 2, .cell 3 true 2, .t 4]⟩
def f16 : RFun := ⟨(qS [lq 2 (.mv (.c (.nils))), zQ 3]
 (qS [mq 17 0, cA 18 14 17, mq 16 18, eX 19 16 0, eX 20 16 1, mq 4 19, mq 5 20]
 (qS [mq 22 4, cA 23 47 22, mq 21 23, eX 24 21 0, eX 25 21 1, zQ 6, sq 2 6 24, mq 7 25]
 (qS [mq 27 4, cA 28 15 27, mq 26 28, eX 29 26 0, eX 30 26 1, eX 31 26 2, zQ 9, mq 8 29, sq 2 9 30, mq 10 31]
 (qS [lT 33 2 6, lT 34 2 9, cB 35 48 33 34, mq 32 35, eX 36 32 0, eX 37 32 1, zQ 11, sq 2 11 36, mq 12 37]
 (qS [mq 39 8, mq 40 0, lq 41 (.call .ct 49 [.t 39, .t 40]), mq 38 41, eX 42 38 0, eX 43 38 1, mq 13 42, mq 14 43]
 (.seq (qS [mq 44 13, nQ 45 44, iQ 46 0]
 (.fg [3, 6, 11, 13, 45, 46] (.block 0
 (.loop (.fg [3, 6, 11, 13, 45, 46]
 (qS [bq 47 .lss 46 45]
 (.seq (.cond (.t 47)
 .skip
 (.exit 0))
 (.fg [3, 6, 11, 13, 45, 46] (.seq (.block 1
 (qS [mq 48 46, mq 15 48]
 (.reg [mq 49 13, mq 50 15, lT 51 2 11, mq 52 13, mq 53 15, xq 54 1 52 53, lF 55 1 54, lq 56 (.call .fz 18 [.t 51, .t 55]), xq 57 1 49 50, sq 1 57 56] (some (0, [])))))
 (.fg [3, 6, 11, 13, 45, 46] (.reg [bK 58 .add 46 1, mq 46 58] none)))))))))))
 (.seq (.reg [mq 59 13, lT 60 2 6, mq 2 59, sq 2 3 60] (some (0, [])))
 .ret)))))))), [.t 2, .cell 3 true 2]⟩
def f17 : RFun := ⟨(qS [lq 1 (.box (.t 0)), lq 2 (.mv (.c (.any)))]
 (qS [lq 3 (.mkfn 50 [.t 1]), mq 2 3]
 .ret)), [.t 2]⟩
def f18 : RFun := ⟨(qS [lq 2 (.box (.t 0)), lq 4 (.mv (.c (.nils)))]
 (qS [mq 5 1, lq 6 (.mkfn 52 [.t 2]), lq 7 (.call .full 51 [.t 5, .t 6]), mq 4 7]
 .ret)), [.t 4]⟩
def f20 : RFun := ⟨(qS [zQ 2]
 (qS [mq 3 0, mq 4 0, cB 5 41 3 4, sq 2 2 5]
 .ret)), [.cell 2 true 2]⟩
def f21 : RFun := ⟨(qS [lq 2 (.mv (.c (.p (.bool false))))]
 (.seq (qS [mq 8 0, nQ 9 8, iQ 10 0]
 (.fg [8, 9, 10] (.block 0
 (.loop (.fg [8, 9, 10]
 (qS [bq 11 .lss 10 9]
 (.seq (.cond (.t 11)
 .skip
 (.exit 0))
 (.fg [8, 9, 10] (.seq (.block 1
 (qS [xq 12 2 8 10, lT 13 2 12, zQ 4, sq 2 4 13]
 (.seq (.reg [lT 15 2 4, lq 16 (.call .pu 58 [.c (.p (.int .i64 2))]), cB 17 57 15 16, mq 14 17, eX 18 14 0, eX 19 14 1, eX 20 14 2, ⟨(some 5), none, (some 0), .alloc [.p (.bool false), .nils]⟩, ⟨(some 6), none, (some 1), .alloc [.p (.bool false), .nils]⟩, sq 2 5 18, sq 2 6 19, mq 7 20] (some (2, [])))
 (qS [lT 21 2 6, cA 22 44 21, bK 23 .neq 22 0]
 (.fg [8, 9, 10, 23] (.cond (.t 23)
 (qS [lq 2 (.mv (.c (.p (.bool false))))]
 .ret)
 .skip))))))
 (.fg [8, 9, 10] (.reg [bK 24 .add 10 1, mq 10 24] none)))))))))))
 (qS [lq 2 (.mv (.c (.p (.bool true))))]
 .ret))), [.t 2]⟩
def f23 : RFun := ⟨(qS [lq 2 (.mv (.c (.nils))), zQ 3, iQ 4 0]
 (.seq (qS [mq 8 0, cA 9 13 8, mq 5 9]
 (qS [mq 10 5, bK 11 .neq 10 0]
 (.fg [0, 3, 5, 11] (.cond (.t 11)
 (qS [lq 12 (.build [.p (.bool false), .nils] []), mq 13 5, lq 2 (.mv (.c (.nils))), sq 2 3 12, mq 4 13]
 .ret)
 .skip))))
 (qS [mq 15 0, cA 16 16 15, mq 14 16, eX 17 14 0, eX 18 14 1, zQ 7, mq 6 17, sq 2 7 18]
 (.seq (.reg [mq 19 6, lT 20 2 7, mq 2 19, sq 2 3 20, iQ 4 0] (some (0, [])))
 .ret)))), [.t 2, .cell 3 true 2, .t 4]⟩
def f24 : RFun := ⟨(qS [zQ 2]
 (qS [mq 3 0, cA 4 27 3, sq 2 2 4]
 .ret)), [.cell 2 true 2]⟩
def f25 : RFun := ⟨(qS [lq 4 (.mv (.c (.p (.bool false))))]
 (.seq (qS [mq 6 0, nQ 7 6, mq 8 1, nQ 9 8, bq 10 .neq 7 9]
 (.fg [0, 1, 10] (.cond (.t 10)
 (qS [lq 4 (.mv (.c (.p (.bool false))))]
 .ret)
 .skip)))
 (.seq (qS [iQ 5 0]
 (.fg [0, 1, 5] (.block 0
 (.loop (.fg [0, 1, 5]
 (.seq (qS [mq 11 5, mq 12 0, nQ 13 12, bq 14 .lss 11 13]
 (.fg [0, 1, 5, 14] (.cond (.t 14)
 .skip
 (.exit 0))))
 (.seq (.block 1
 (.seq (.reg [mq 17 0, mq 18 5, xq 19 1 17 18, lF 20 1 19, mq 21 1, mq 22 5, xq 23 1 21 22, lF 24 1 23, cB 25 61 20 24, lq 26 (.un .not (.t 25))] (some (0, [])))
 (.fg [0, 1, 5, 26] (.cond (.t 26)
 (qS [lq 4 (.mv (.c (.p (.bool false))))]
 .ret)
 .skip))))
 (.fg [0, 1, 5] (.reg [mq 15 5, bK 16 .add 15 1, mq 5 16] none)))))))))
 (qS [lq 4 (.mv (.c (.p (.bool true))))]
 .ret)))), [.t 4]⟩
def f26 : RFun := ⟨(qS [lq 2 (.mv (.c (.nils))), zQ 3]
 (qS [mq 14 0, cA 15 62 14, mq 13 15, eX 16 13 0, eX 17 13 1, lq 4 (.alloc [.nils, .nils]), sq 2 4 16, mq 5 17]
 (qS [fQ 18 0 4, lF 19 1 18, fQ 20 0 4, lF 21 1 20, nQ 22 21, bK 23 .sub 22 1, xq 24 2 19 23, lT 25 2 24, zQ 6, sq 2 6 25]
 (qS [mq 26 0, nQ 27 26, lq 28 (.mks true 1 24 (.sl []) (.t 27) (.t 27)), mq 7 28]
 (.seq (qS [iQ 8 0]
 (.fg [0, 3, 6, 7, 8] (.block 0
 (.loop (.fg [0, 3, 6, 7, 8]
 (.seq (qS [mq 29 8, mq 30 0, lq 31 (.indexA 1 (.t 30) (ki 0)), lF 32 1 31, nQ 33 32, bq 34 .lss 29 33]
 (.fg [0, 3, 6, 7, 8, 34] (.cond (.t 34)
 .skip
 (.exit 0))))
 (.seq (.block 1
 (qS [mq 38 0, mq 39 0, lq 40 (.indexA 1 (.t 39) (ki 0)), lF 41 1 40, nQ 42 41, mq 43 8, cB 44 63 42 43, cB 45 29 38 44, mq 37 45, eX 46 37 0, eX 47 37 1, eX 48 37 2, lq 10 (.alloc [.p (.bool false), .nils, .p (.bool false), .nils]), mq 9 46, sq 4 10 47, mq 11 48]
 (qS [iQ 12 0]
 (.fg [0, 3, 6, 7, 8, 9, 12] (.block 2
 (.loop (.fg [0, 3, 6, 7, 8, 9, 12]
 (.seq (qS [mq 49 12, mq 50 0, nQ 51 50, bq 52 .lss 49 51]
 (.fg [0, 3, 6, 7, 8, 9, 12, 52] (.cond (.t 52)
 .skip
 (.exit 2))))
 (.seq (.block 3
 (.reg [mq 55 7, mq 56 12, mq 57 7, mq 58 12, xq 59 1 57 58, lF 60 1 59, mq 61 9, mq 62 12, xq 63 4 61 62, lT 64 4 63, lT 65 2 6, lq 66 (.call .fz 66 [.t 65]), lq 67 (.call .fz 65 [.t 64, .t 66]), cA 68 64 67, ⟨(some 69), none, (some 0), .bslice 2 [.t 68]⟩, ⟨(some 70), none, (some 1), .append 2 32 (.t 60) (.t 69)⟩, xq 71 1 55 56, sq 1 71 70] (some (2, [(4, 11), (5, 11), (8, 11), (9, 11), (4, 12), (5, 12), (4, 14), (5, 14)]))))
 (.fg [0, 3, 6, 7, 8, 9, 12] (.reg [mq 53 12, bK 54 .add 53 1, mq 12 54] none)))))))))))
 (.fg [0, 3, 6, 7, 8] (.reg [mq 35 8, bK 36 .add 35 1, mq 8 36] none)))))))))
 (.seq (.reg [mq 72 7, lT 73 2 6, mq 2 72, sq 2 3 73] (some (0, [])))
 (.jV 2 .ret))))))), [.t 2, .cell 3 true 2]⟩
def f29 : RFun := ⟨(qS [lq 4 (.mv (.c (.nils))), lq 5 (.alloc [.p (.bool false), .nils, .p (.bool false), .nils]), iQ 6 0]
 (qS [mq 22 0, lq 23 (.call .pu 22 [.t 22, .c (.p (.bool true))]), mq 21 23, eX 24 21 0, eX 25 21 1, lq 7 (.alloc [.nils, .nils]), sq 2 7 24, mq 8 25]
 (.seq (qS [mq 26 8, bK 27 .neq 26 0]
 (.fg [0, 1, 5, 7, 8, 27] (.cond (.t 27)
 (qS [lq 28 (.build [.p (.bool false), .nils, .p (.bool false), .nils] []), mq 29 8, lq 4 (.mv (.c (.nils))), sq 4 5 28, mq 6 29]
 .ret)
 .skip)))
 (.seq (qS [mq 30 1, nQ 31 30, mq 32 0, lq 33 (.indexA 1 (.t 32) (ki 0)), lF 34 1 33, nQ 35 34, bq 36 .neq 31 35]
 (.fg [0, 1, 5, 7, 36] (.cond (.t 36)
 (qS [lq 37 (.build [.p (.bool false), .nils, .p (.bool false), .nils] []), lq 4 (.mv (.c (.nils))), sq 4 5 37, iQ 6 8]
 .ret)
 .skip)))
 (.seq (qS [iQ 9 0]
 (.fg [0, 1, 5, 7, 9] (.block 0
 (.loop (.fg [0, 1, 5, 7, 9]
 (.seq (qS [mq 38 9, mq 39 1, nQ 40 39, bq 41 .lss 38 40]
 (.fg [0, 1, 5, 7, 9, 41] (.cond (.t 41)
 .skip
 (.exit 0))))
 (.seq (.block 1
 (qS [mq 44 1, mq 45 9, xq 46 4 44 45, lT 47 4 46, cA 48 72 47, lq 49 (.un .not (.t 48))]
 (.fg [0, 1, 5, 7, 9, 49] (.cond (.t 49)
 (qS [lq 50 (.build [.p (.bool false), .nils, .p (.bool false), .nils] []), lq 4 (.mv (.c (.nils))), sq 4 5 50, iQ 6 30]
 .ret)
 .skip))))
 (.fg [0, 1, 5, 7, 9] (.reg [mq 42 9, bK 43 .add 42 1, mq 9 43] none)))))))))
 (qS [mq 51 0, nQ 52 51, mq 10 52]
 (qS [lq 11 (.mv (.c (.nils)))]
 (.seq (qS [iQ 12 0]
 (.fg [0, 1, 5, 7, 10, 11, 12] (.block 2
 (.loop (.fg [0, 1, 5, 7, 10, 11, 12]
 (.seq (qS [mq 53 12, mq 54 10, bq 55 .lss 53 54]
 (.fg [0, 1, 5, 7, 10, 11, 12, 55] (.cond (.t 55)
 .skip
 (.exit 2))))
 (.seq (.block 3
 (qS [mq 58 1, mq 59 0, mq 60 12, xq 61 1 59 60, lF 62 1 61, cB 63 73 58 62, lq 13 (.alloc [.p (.bool false), .nils, .p (.bool false), .nils]), sq 4 13 63]
 (.seq (qS [iQ 14 0]
 (.fg [0, 1, 5, 7, 10, 11, 12, 13, 14] (.block 4
 (.loop (.fg [0, 1, 5, 7, 10, 11, 12, 13, 14]
 (.seq (qS [mq 64 14, mq 65 12, bq 66 .lss 64 65]
 (.fg [0, 1, 5, 7, 10, 11, 12, 13, 14, 66] (.cond (.t 66)
 .skip
 (.exit 4))))
 (.seq (.block 5
 (.reg [lT 69 4 13, fQ 70 0 7, lF 71 1 70, mq 72 12, xq 73 1 71 72, lF 74 1 73, mq 75 14, xq 76 4 74 75, lT 77 4 76, mq 78 11, mq 79 14, xq 80 4 78 79, lT 81 4 80, cB 82 65 77 81, cB 83 74 69 82, sq 4 13 83] (some (0, []))))
 (.fg [0, 1, 5, 7, 10, 11, 12, 13, 14] (.reg [mq 67 14, bK 68 .add 67 1, mq 14 68] none)))))))))
 (.reg [mq 84 11, lT 85 4 13, lq 86 (.bslice 4 [.t 85]), lq 87 (.append 4 64 (.t 84) (.t 86)), mq 11 87] none))))
 (.fg [0, 1, 5, 7, 10, 11, 12] (.reg [mq 56 12, bK 57 .add 56 1, mq 12 57] none)))))))))
 (qS [mq 88 10, lq 89 (.mks false 4 64 (.agg [.bool false, .sl [], .bool false, .sl []]) (.t 88) (.t 88)), mq 15 89]
 (qS [lq 90 (.build [.p (.bool false), .nils] []), cA 91 66 90, lq 16 (.alloc [.p (.bool false), .nils, .p (.bool false), .nils]), sq 4 16 91]
 (.seq (qS [iQ 17 0]
 (.fg [1, 5, 7, 10, 11, 15, 16, 17] (.block 6
 (.loop (.fg [1, 5, 7, 10, 11, 15, 16, 17]
 (.seq (qS [mq 92 17, mq 93 1, nQ 94 93, bq 95 .lss 92 94]
 (.fg [1, 5, 7, 10, 11, 15, 16, 17, 95] (.cond (.t 95)
 .skip
 (.exit 6))))
 (.seq (.block 7
 (.reg [lT 98 4 16, mq 99 1, mq 100 17, xq 101 4 99 100, lT 102 4 101, cA 103 76 102, cB 104 75 98 103, sq 4 16 104] (some (0, []))))
 (.fg [1, 5, 7, 10, 11, 15, 16, 17] (.reg [mq 96 17, bK 97 .add 96 1, mq 17 97] none)))))))))
 (.seq (qS [mq 105 10, bK 106 .sub 105 1, mq 18 106]
 (.fg [5, 7, 10, 11, 15, 16, 18] (.block 8
 (.loop (.fg [5, 7, 10, 11, 15, 16, 18]
 (.seq (qS [mq 107 18, bK 108 .geq 107 0]
 (.fg [5, 7, 10, 11, 15, 16, 18, 108] (.cond (.t 108)
 .skip
 (.exit 8))))
 (.seq (.block 9
 (.seq (.reg [mq 111 11, mq 112 18, xq 113 4 111 112, lT 114 4 113, fQ 115 1 7, lF 116 1 115, mq 117 18, xq 118 4 116 117, lT 119 4 118, cB 120 77 114 119, ⟨(some 19), none, (some 0), .alloc [.p (.bool false), .nils, .p (.bool false), .nils]⟩, sq 4 19 120] (some (1, [])))
 (.seq (.reg [lT 121 4 16, lT 122 4 19, cA 123 76 122, fQ 124 1 7, lF 125 1 124, mq 126 18, xq 127 4 125 126, lT 128 4 127, cB 129 65 123 128, cB 130 74 121 129, sq 4 16 130] (some (0, [])))
 (.seq (qS [mq 131 18, bK 132 .add 131 1, mq 20 132]
 (.fg [5, 7, 10, 11, 15, 16, 18, 19, 20] (.block 10
 (.loop (.fg [5, 7, 10, 11, 15, 16, 18, 19, 20]
 (.seq (qS [mq 133 20, mq 134 10, bq 135 .lss 133 134]
 (.fg [5, 7, 10, 11, 15, 16, 18, 19, 20, 135] (.cond (.t 135)
 .skip
 (.exit 10))))
 (.seq (.block 11
 (.reg [lT 138 4 19, fQ 139 0 7, lF 140 1 139, mq 141 20, xq 142 1 140 141, lF 143 1 142, mq 144 18, xq 145 4 143 144, lT 146 4 145, mq 147 15, mq 148 20, xq 149 4 147 148, lT 150 4 149, cB 151 65 146 150, cB 152 74 138 151, sq 4 19 152] (some (0, []))))
 (.fg [5, 7, 10, 11, 15, 16, 18, 19, 20] (.reg [mq 136 20, bK 137 .add 136 1, mq 20 137] none)))))))))
 (.reg [mq 153 15, mq 154 18, lT 155 4 19, xq 156 4 153 154, sq 4 156 155] none)))))
 (.fg [5, 7, 10, 11, 15, 16, 18] (.reg [mq 109 18, bK 110 .sub 109 1, mq 18 110] none)))))))))
 (.seq (.reg [mq 157 15, lT 158 4 16, mq 4 157, sq 4 5 158, iQ 6 0] (some (0, [])))
 .ret))))))))))))), [.t 4, .cell 5 true 4, .t 6]⟩
def f31 : RFun := ⟨(qS [lq 2 (.box (.t 0)), lq 3 (.box (.t 1)), zQ 4, zQ 5]
 (qS [fQ 12 1 2, lF 13 1 12, fQ 14 1 3, lF 15 1 14, cB 16 71 13 15, mq 11 16, eX 17 11 0, eX 18 11 1, eX 19 11 2, mq 6 17, mq 7 18, mq 8 19]
 (qS [fQ 20 0 2, lF 21 1 20, fQ 22 0 3, lF 23 1 22, lq 24 (.beq true (.t 21) (.t 23)), mq 25 6, cB 26 67 24 25, zQ 9, sq 2 9 26]
 (.seq (.reg [lT 27 2 2, lT 28 2 9, lT 29 2 3, cB 30 32 28 29, cB 31 79 27 30, ⟨(some 10), none, (some 0), .alloc [.p (.bool false), .nils]⟩, sq 2 10 31] (some (1, [])))
 (.seq (.seq (.reg [lT 32 2 10, cA 33 69 32, bK 34 .neq 33 0, mq 35 34, ⟨(some 36), (some (35, true)), none, .load true 2 (.t 10)⟩, ⟨(some 37), (some (35, true)), none, .call .pu 69 [.t 36]⟩, ⟨(some 38), (some (35, true)), none, .load true 2 (.t 3)⟩, ⟨(some 39), (some (35, true)), none, .call .pu 69 [.t 38]⟩, ⟨(some 40), (some (35, true)), none, .bin .neq (.t 37) (.t 39)⟩, lq 41 (.pick (.t 35) (.t 40) (.c (.p (.bool false))))] (some (0, [])))
 (.fg [3, 4, 5, 9, 10, 41] (.cond (.t 41)
 (.seq (.reg [lT 42 2 9, lq 43 (.call .pu 27 [.c (.p (.int .i64 1))]), cB 44 79 42 43, sq 2 9 44] (some (0, [])))
 (.reg [lT 45 2 10, lT 46 2 3, cB 47 80 45 46, sq 2 10 47] none))
 .skip)))
 (.seq (.reg [lT 48 2 9, lT 49 2 10, sq 2 4 48, sq 2 5 49] (some (0, [(1, 2)])))
 .ret)))))), [.cell 4 true 2, .cell 5 true 2]⟩
def f33 : RFun := ⟨(qS [lq 2 (.box (.t 0)), lq 3 (.box (.t 1)), iQ 4 0]
 (qS [lT 5 2 2, lT 6 2 3, cB 7 79 5 6, cA 8 69 7, mq 4 8]
 .ret)), [.t 4]⟩
def f37 : RFun := ⟨(qS [lq 4 (.mv (.c (.nils)))]
 (qS [mq 8 0, nQ 9 8, lq 10 (.mks true 1 24 (.sl []) (ki 0) (.t 9)), mq 5 10]
 (.seq (qS [mq 11 0, nQ 12 11, iQ 13 0]
 (.fg [1, 5, 11, 12, 13] (.block 0
 (.loop (.fg [1, 5, 11, 12, 13]
 (qS [bq 14 .lss 13 12]
 (.seq (.cond (.t 14)
 .skip
 (.exit 0))
 (.fg [1, 5, 11, 12, 13] (.seq (.block 1
 (qS [xq 15 1 11 13, lF 16 1 15, mq 7 16]
 (.reg [mq 17 5, mq 18 1, mq 19 7, lq 20 (.callv .ct (.t 18) [.t 19]), lq 21 (.bslk [.t 20]), lq 22 (.appk 24 (.t 17) (.t 21)), mq 5 22] none)))
 (.fg [1, 5, 11, 12, 13] (.reg [bK 23 .add 13 1, mq 13 23] none)))))))))))
 (qS [mq 24 5, mq 4 24]
 .ret)))), [.t 4]⟩
def f38 : RFun := ⟨(qS [lq 2 (.box (.t 0)), lq 3 (.mv (.c (.nils)))]
 (qS [lF 4 1 1, lq 5 (.mkfn 40 [.t 2]), lq 6 (.call .full 39 [.t 4, .t 5]), mq 3 6]
 .ret)), [.t 3]⟩
def f39 : RFun := ⟨(qS [lq 4 (.mv (.c (.nils)))]
 (qS [mq 8 0, nQ 9 8, lq 10 (.mks false 2 32 (.agg [.bool false, .sl []]) (ki 0) (.t 9)), mq 5 10]
 (.seq (qS [mq 11 0, nQ 12 11, iQ 13 0]
 (.fg [1, 5, 11, 12, 13] (.block 0
 (.loop (.fg [1, 5, 11, 12, 13]
 (qS [bq 14 .lss 13 12]
 (.seq (.cond (.t 14)
 .skip
 (.exit 0))
 (.fg [1, 5, 11, 12, 13] (.seq (.block 1
 (qS [xq 15 1 11 13, lF 16 1 15, mq 7 16]
 (.reg [mq 17 5, mq 18 1, mq 19 7, lq 20 (.callv .cell (.t 18) [.t 19]), lq 21 (.bslice 2 [.t 20]), lq 22 (.append 2 32 (.t 17) (.t 21)), mq 5 22] none)))
 (.fg [1, 5, 11, 12, 13] (.reg [bK 23 .add 13 1, mq 13 23] none)))))))))))
 (qS [mq 24 5, mq 4 24]
 .ret)))), [.t 4]⟩
def f40 : RFun := ⟨(qS [zQ 3]
 (qS [lF 4 1 1, mq 5 0, cB 6 41 4 5, sq 2 3 6]
 .ret)), [.cell 3 true 2]⟩
def f42 : RFun := ⟨(qS [iQ 2 0, iQ 3 0]
 (qS [mq 8 0, cA 9 85 8, mq 7 9, eX 10 7 0, eX 11 7 1, eX 12 7 2, mq 4 10, mq 5 11, mq 6 12]
 (.seq (qS [mq 13 6, bK 14 .eql 13 0, mq 15 14, ⟨(some 16), (some (15, true)), none, .mv (.t 4)⟩, ⟨(some 17), (some (15, true)), none, .mv (.t 5)⟩, ⟨(some 18), (some (15, true)), none, .bin .neq (.t 16) (.t 17)⟩, lq 19 (.pick (.t 15) (.t 18) (.c (.p (.bool false))))]
 (.fg [4, 6, 19] (.cond (.t 19)
 (.reg [iQ 6 8] none)
 .skip)))
 (qS [mq 20 4, mq 21 6, mq 2 20, mq 3 21]
 .ret)))), [.t 2, .t 3]⟩
def f43 : RFun := ⟨(qS [zQ 2]
 (qS [mq 8 0, nQ 9 8, mq 3 9]
 (qS [mq 11 0, mq 12 3, lq 13 (.call .ct 86 [.t 11, .t 12]), mq 10 13, eX 14 10 0, eX 15 10 1, eX 16 10 2, eX 17 10 3, zQ 6, mq 4 14, mq 5 15, sq 2 6 16, mq 7 17]
 (.seq (.block 0
 (qS [mq 19 5, nQ 20 19, mq 21 3, bq 22 .lss 20 21, mq 18 22]
 (.fg [2, 6, 7, 18] (.cond (.t 18)
 (qS [lq 23 (.build [.p (.bool false), .nils] []), sq 2 2 23]
 .ret)
 (qS [mq 25 7, mq 24 25]
 (.fg [2, 6, 24] (.cond (.t 24)
 (qS [lT 26 2 6, lq 27 (.call .fz 87 [.t 26]), sq 2 2 27]
 .ret)
 .skip)))))))
 (.fg [2, 6] (qS [lT 28 2 6, lq 29 (.call .fz 88 [.t 28]), sq 2 2 29]
 .ret)))))), [.cell 2 true 2]⟩
def f45 : RFun := ⟨(qS [zQ 6]
 (qS [lq 7 (.mv (.c (.nils)))]
 (.seq (qS [mq 10 0, nQ 11 10, iQ 12 0]
 (.fg [0, 1, 2, 6, 7, 11, 12] (.block 0
 (.loop (.fg [0, 1, 2, 6, 7, 11, 12]
 (qS [bq 13 .lss 12 11]
 (.seq (.cond (.t 13)
 .skip
 (.exit 0))
 (.fg [0, 1, 2, 6, 7, 11, 12] (.seq (.block 1
 (qS [mq 14 12, mq 8 14]
 (qS [mq 15 8, mq 16 1, bq 17 .neq 15 16]
 (.fg [0, 1, 2, 6, 7, 8, 11, 12, 17] (.cond (.t 17)
 (.reg [mq 18 7, mq 19 0, mq 20 8, xq 21 1 19 20, lF 22 1 21, mq 23 2, lq 24 (.slice 2 (.t 22) none (some (.t 23)) none), ⟨(some 25), none, (some 0), .append 2 32 (.c (.nils)) (.t 24)⟩, mq 26 0, mq 27 8, xq 28 1 26 27, lF 29 1 28, mq 30 2, bK 31 .add 30 1, lq 32 (.slice 2 (.t 29) (some (.t 31)) none none), ⟨(some 33), none, (some 1), .append 2 32 (.t 25) (.t 32)⟩, ⟨(some 34), none, (some 2), .bslice 1 [.t 33]⟩, ⟨(some 35), none, (some 3), .append 1 24 (.t 18) (.t 34)⟩, mq 7 35] (some (4, [(7, 10), (7, 11), (7, 14)])))
 .skip)))))
 (.fg [0, 1, 2, 6, 7, 11, 12] (.reg [bK 36 .add 12 1, mq 12 36] none)))))))))))
 (qS [mq 37 7, lq 38 (.call .fz 43 [.t 37]), zQ 9, sq 2 9 38]
 (.seq (qS [mq 39 1, mq 40 2, bq 41 .add 39 40, bK 42 .rem 41 2, bK 43 .eql 42 1]
 (.fg [6, 9, 43] (.cond (.t 43)
 (qS [lT 44 2 9, cA 45 87 44, sq 2 6 45]
 .ret)
 .skip)))
 (qS [lT 46 2 9, sq 2 6 46]
 .ret)))))), [.cell 6 true 2]⟩
def f46 : RFun := ⟨(qS [lq 3 (.box (.t 1)), lq 4 (.mv (.c (.nils))), zQ 5]
 (qS [lT 18 2 3, cA 19 90 18, zQ 6, sq 2 6 19]
 (.seq (qS [mq 20 0, nQ 21 20, iQ 22 0]
 (.fg [0, 3, 5, 6, 20, 21, 22] (.block 0
 (.loop (.fg [0, 3, 5, 6, 20, 21, 22]
 (qS [bq 23 .lss 22 21]
 (.seq (.cond (.t 23)
 .skip
 (.exit 0))
 (.fg [0, 3, 5, 6, 20, 21, 22] (.seq (.block 1
 (qS [xq 24 2 20 22, lT 25 2 24, zQ 8, sq 2 8 25]
 (.reg [lT 26 2 6, lT 27 2 8, cB 28 91 26 27, sq 2 6 28] none)))
 (.fg [0, 3, 5, 6, 20, 21, 22] (.reg [bK 29 .add 22 1, mq 22 29] none)))))))))))
 (.seq (qS [lT 30 2 3, cA 31 44 30, bK 32 .lss 31 0]
 (.fg [0, 3, 5, 6, 32] (.cond (.t 32)
 (.reg [lT 33 2 6, cA 34 87 33, sq 2 6 34] none)
 .skip)))
 (qS [lq 9 (.mv (.c (.nils)))]
 (.seq (qS [mq 35 0, nQ 36 35, iQ 37 0]
 (.fg [3, 5, 6, 9, 35, 36, 37] (.block 2
 (.loop (.fg [3, 5, 6, 9, 35, 36, 37]
 (qS [bq 38 .lss 37 36]
 (.seq (.cond (.t 38)
 .skip
 (.exit 2))
 (.fg [3, 5, 6, 9, 35, 36, 37] (.seq (.block 3
 (qS [xq 39 2 35 37, lT 40 2 39, zQ 11, sq 2 11 40]
 (qS [lT 42 2 11, lT 43 2 6, cB 44 57 42 43, mq 41 44, eX 45 41 0, eX 46 41 1, eX 47 41 2, zQ 12, zQ 13, sq 2 12 45, sq 2 13 46, mq 14 47]
 (.reg [mq 48 9, lT 49 2 12, lq 50 (.bslice 2 [.t 49]), lq 51 (.append 2 32 (.t 48) (.t 50)), mq 9 51] none))))
 (.fg [3, 5, 6, 9, 35, 36, 37] (.reg [bK 52 .add 37 1, mq 37 52] none)))))))))))
 (qS [lT 54 2 3, lT 55 2 6, cB 56 57 54 55, mq 53 56, eX 57 53 0, eX 58 53 1, eX 59 53 2, zQ 15, zQ 16, sq 2 15 57, sq 2 16 58, mq 17 59]
 (.seq (.reg [mq 60 9, lT 61 2 15, mq 4 60, sq 2 5 61] (some (0, [])))
 .ret)))))))), [.t 4, .cell 5 true 2]⟩
def f47 : RFun := ⟨(qS [zQ 2, iQ 3 0]
 (.seq (qS [mq 7 0, cA 8 42 7, mq 6 8, eX 9 6 0, eX 10 6 1, mq 4 9, mq 5 10]
 (qS [mq 11 5, bK 12 .neq 11 0]
 (.fg [0, 2, 5, 12] (.cond (.t 12)
 (qS [lq 13 (.build [.p (.bool false), .nils] []), mq 14 5, sq 2 2 13, mq 3 14]
 .ret)
 .skip))))
 (qS [mq 15 0, cA 16 43 15, sq 2 2 16, iQ 3 0]
 .ret))), [.cell 2 true 2, .t 3]⟩
def f48 : RFun := ⟨(qS [lq 2 (.box (.t 0)), lq 3 (.box (.t 1)), zQ 4, iQ 5 0]
 (qS [lT 10 2 2, lT 11 2 3, cB 12 57 10 11, mq 9 12, eX 13 9 0, eX 14 9 1, eX 15 9 2, zQ 6, zQ 7, sq 2 6 13, sq 2 7 14, mq 8 15]
 (.seq (.block 0
 (qS [mq 17 8, bK 18 .neq 17 0, mq 16 18]
 (.fg [4, 6, 7, 8, 16] (.cond (.t 16)
 (qS [lq 19 (.build [.p (.bool false), .nils] []), mq 20 8, sq 2 4 19, mq 5 20]
 .ret)
 (qS [lT 22 2 7, cA 23 44 22, bK 24 .neq 23 0, mq 21 24]
 (.fg [4, 6, 21] (.cond (.t 21)
 (qS [lq 25 (.build [.p (.bool false), .nils] []), sq 2 4 25, iQ 5 20]
 .ret)
 .skip)))))))
 (.fg [4, 6] (qS [lT 26 2 6, sq 2 4 26, iQ 5 0]
 .ret))))), [.cell 4 true 2, .t 5]⟩
def f49 : RFun := ⟨(qS [lq 3 (.box (.t 1)), lq 4 (.mv (.c (.nils))), iQ 5 0]
 (qS [mq 13 0, cA 14 36 13, mq 12 14, eX 15 12 0, eX 16 12 1, eX 17 12 2, mq 6 15, mq 7 16, mq 8 17]
 (qS [lF 19 1 3, cA 20 36 19, mq 18 20, eX 21 18 0, eX 22 18 1, eX 23 18 2, mq 9 21, mq 10 22, mq 11 23]
 (.seq (qS [mq 24 8, bK 25 .neq 24 0, mq 26 25, ⟨(some 27), (some (26, false)), none, .mv (.t 11)⟩, ⟨(some 28), (some (26, false)), none, .bin .neq (.t 27) (ki 0)⟩, lq 29 (.pick (.t 26) (.c (.p (.bool true))) (.t 28)), mq 30 29, ⟨(some 31), (some (30, false)), none, .mv (.t 6)⟩, ⟨(some 32), (some (30, false)), none, .bin .gtr (.t 31) (ki 0)⟩, ⟨(some 33), (some (30, false)), none, .mv (.t 32)⟩, ⟨(some 34), (some (33, true)), none, .mv (.t 7)⟩, ⟨(some 35), (some (33, true)), none, .mv (.t 9)⟩, ⟨(some 36), (some (33, true)), none, .bin .neq (.t 34) (.t 35)⟩, ⟨(some 37), (some (30, false)), none, .pick (.t 33) (.t 36) (.c (.p (.bool false)))⟩, lq 38 (.pick (.t 30) (.c (.p (.bool true))) (.t 37))]
 (.fg [0, 3, 38] (.cond (.t 38)
 (qS [lq 4 (.mv (.c (.nils))), iQ 5 8]
 (.jV 4 .ret))
 .skip)))
 (qS [mq 39 0, lq 40 (.mkfn 92 [.t 3]), lq 41 (.call .ct 37 [.t 39, .t 40]), mq 4 41, iQ 5 0]
 (.jV 4 .ret)))))), [.t 4, .t 5]⟩
def f50 : RFun := ⟨(.iter (qS [lF 5 1 1, nQ 6 5, iQ 7 0]
 (.fg [0, 5, 6, 7] (.block 0
 (.loop (.fg [0, 5, 6, 7]
 (qS [bq 8 .lss 7 6]
 (.seq (.cond (.t 8)
 .skip
 (.exit 0))
 (.fg [0, 5, 6, 7] (.seq (.block 1
 (qS [mq 9 7, xq 10 1 5 7, lF 11 1 10, mq 3 9, mq 4 11]
 (.seq (.yld 12 [⟨(some 13), none, none, .mv (.t 3)⟩, ⟨(some 14), none, none, .mv (.t 4)⟩] 15 [.t 13, .t 14] [⟨(some 16), none, none, .un .not (.t 15)⟩])
 (.fg [0, 5, 6, 7, 16] (.cond (.t 16)
 .ret
 .skip)))))
 (.fg [0, 5, 6, 7] (.reg [bK 17 .add 7 1, mq 7 17] none)))))))))))), []⟩
def f51 : RFun := ⟨(qS [lq 4 (.mv (.c (.nils)))]
 (qS [mq 8 0, nQ 9 8, lq 10 (.mks false 2 32 (.agg [.bool false, .sl []]) (ki 0) (.t 9)), mq 5 10]
 (.seq (qS [mq 11 0, nQ 12 11, iQ 13 0]
 (.fg [1, 5, 11, 12, 13] (.block 0
 (.loop (.fg [1, 5, 11, 12, 13]
 (qS [bq 14 .lss 13 12]
 (.seq (.cond (.t 14)
 .skip
 (.exit 0))
 (.fg [1, 5, 11, 12, 13] (.seq (.block 1
 (qS [xq 15 2 11 13, lT 16 2 15, zQ 7, sq 2 7 16]
 (.reg [mq 17 5, mq 18 1, lT 19 2 7, lq 20 (.callv .cell (.t 18) [.t 19]), lq 21 (.bslice 2 [.t 20]), lq 22 (.append 2 32 (.t 17) (.t 21)), mq 5 22] none)))
 (.fg [1, 5, 11, 12, 13] (.reg [bK 23 .add 13 1, mq 13 23] none)))))))))))
 (qS [mq 24 5, mq 4 24]
 .ret)))), [.t 4]⟩
def f52 : RFun := ⟨(qS [lq 2 (.box (.t 0)), zQ 3]
 (qS [lT 4 2 1, lT 5 2 2, cB 6 53 4 5, sq 2 3 6]
 .ret)), [.cell 3 true 2]⟩
def f61 : RFun := ⟨(qS [lq 4 (.mv (.c (.p (.bool false))))]
 (.seq (qS [mq 6 0, nQ 7 6, mq 8 1, nQ 9 8, bq 10 .neq 7 9]
 (.fg [0, 1, 10] (.cond (.t 10)
 (qS [lq 4 (.mv (.c (.p (.bool false))))]
 .ret)
 .skip)))
 (.seq (qS [iQ 5 0]
 (.fg [0, 1, 5] (.block 0
 (.loop (.fg [0, 1, 5]
 (.seq (qS [mq 11 5, mq 12 0, nQ 13 12, bq 14 .lss 11 13]
 (.fg [0, 1, 5, 14] (.cond (.t 14)
 .skip
 (.exit 0))))
 (.seq (.block 1
 (.seq (.reg [mq 17 0, mq 18 5, xq 19 2 17 18, lT 20 2 19, mq 21 1, mq 22 5, xq 23 2 21 22, lT 24 2 23, cA 25 68 24, cB 26 8 20 25, lq 27 (.un .not (.t 26))] (some (0, [])))
 (.fg [0, 1, 5, 27] (.cond (.t 27)
 (qS [lq 4 (.mv (.c (.p (.bool false))))]
 .ret)
 .skip))))
 (.fg [0, 1, 5] (.reg [mq 15 5, bK 16 .add 15 1, mq 5 16] none)))))))))
 (qS [lq 4 (.mv (.c (.p (.bool true))))]
 .ret)))), [.t 4]⟩
def f62 : RFun := ⟨(qS [lq 2 (.alloc [.nils, .nils]), iQ 3 0]
 (qS [mq 7 0, lq 8 (.call .pu 22 [.t 7, .c (.p (.bool true))]), mq 6 8, eX 9 6 0, eX 10 6 1, lq 4 (.alloc [.nils, .nils]), sq 2 4 9, mq 5 10]
 (.seq (qS [mq 11 5, bK 12 .neq 11 0]
 (.fg [2, 4, 5, 12] (.cond (.t 12)
 (qS [lq 13 (.build [.nils, .nils] []), mq 14 5, sq 2 2 13, mq 3 14]
 .ret)
 .skip)))
 (qS [lT 15 2 4, cA 16 101 15, sq 2 2 16, iQ 3 0]
 .ret)))), [.cell 2 true 2, .t 3]⟩
def f63 : RFun := ⟨(qS [lq 4 (.mv (.c (.nils)))]
 (qS [lq 5 (.mv (.c (.nils)))]
 (.seq (qS [iQ 6 0]
 (.fg [0, 1, 5, 6] (.block 0
 (.loop (.fg [0, 1, 5, 6]
 (.seq (qS [mq 7 6, mq 8 0, bq 9 .lss 7 8]
 (.fg [0, 1, 5, 6, 9] (.cond (.t 9)
 .skip
 (.exit 0))))
 (.seq (.block 1
 (qS [mq 12 6, mq 13 1, bq 14 .eql 12 13]
 (.fg [0, 1, 5, 6, 14] (.cond (.t 14)
 (.reg [mq 15 5, lq 16 (.call .pu 27 [.c (.p (.int .i64 1))]), cA 17 66 16, lq 18 (.bslice 4 [.t 17]), lq 19 (.append 4 64 (.t 15) (.t 18)), mq 5 19] none)
 (.reg [mq 20 5, lq 21 (.build [.p (.bool false), .nils] []), cA 22 66 21, lq 23 (.bslice 4 [.t 22]), lq 24 (.append 4 64 (.t 20) (.t 23)), mq 5 24] none)))))
 (.fg [0, 1, 5, 6] (.reg [mq 10 6, bK 11 .add 10 1, mq 6 11] none)))))))))
 (qS [mq 25 5, mq 4 25]
 .ret)))), [.t 4]⟩
def f64 : RFun := ⟨(qS [lq 1 (.box (.t 0)), zQ 2]
 (qS [fQ 6 0 1, lT 7 2 6, fQ 8 2 1, lT 9 2 8, cB 10 31 7 9, mq 5 10, eX 11 5 0, eX 12 5 1, zQ 3, zQ 4, sq 2 3 11, sq 2 4 12]
 (qS [lT 13 2 3, sq 2 2 13]
 .ret))), [.cell 2 true 2]⟩
def f72 : RFun := ⟨(qS [lq 1 (.box (.t 0)), lq 2 (.mv (.c (.p (.bool false))))]
 (qS [fQ 3 2 1, lT 4 2 3, cA 5 69 4, bK 6 .gtr 5 0, mq 2 6]
 .ret)), [.t 2]⟩
def f73 : RFun := ⟨(qS [lq 4 (.alloc [.p (.bool false), .nils, .p (.bool false), .nils])]
 (qS [lq 7 (.build [.p (.bool false), .nils] []), cA 8 66 7, lq 5 (.alloc [.p (.bool false), .nils, .p (.bool false), .nils]), sq 4 5 8]
 (.seq (qS [iQ 6 0]
 (.fg [0, 1, 4, 5, 6] (.block 0
 (.loop (.fg [0, 1, 4, 5, 6]
 (.seq (qS [mq 9 6, mq 10 0, nQ 11 10, bq 12 .lss 9 11]
 (.fg [0, 1, 4, 5, 6, 12] (.cond (.t 12)
 .skip
 (.exit 0))))
 (.seq (.block 1
 (.reg [lT 15 4 5, mq 16 0, mq 17 6, xq 18 4 16 17, lT 19 4 18, mq 20 1, mq 21 6, xq 22 2 20 21, lT 23 2 22, cB 24 109 19 23, cB 25 75 15 24, sq 4 5 25] (some (0, []))))
 (.fg [0, 1, 4, 5, 6] (.reg [mq 13 6, bK 14 .add 13 1, mq 6 14] none)))))))))
 (qS [lT 26 4 5, sq 4 4 26]
 .ret)))), [.cell 4 true 4]⟩
def f85 : RFun := ⟨(qS [iQ 2 0, iQ 3 0, iQ 4 0]
 (qS [mq 9 0, cA 10 36 9, mq 8 10, eX 11 8 0, eX 12 8 1, eX 13 8 2, mq 5 11, mq 6 12, mq 7 13]
 (.seq (qS [mq 14 7, bK 15 .neq 14 0]
 (.fg [5, 6, 7, 15] (.cond (.t 15)
 (qS [mq 16 7, iQ 2 0, iQ 3 0, mq 4 16]
 .ret)
 .skip)))
 (.seq (qS [mq 17 5, bK 18 .gtr 17 64, mq 19 18, ⟨(some 20), (some (19, false)), none, .mv (.t 6)⟩, ⟨(some 21), (some (19, false)), none, .bin .gtr (.t 20) (ki 64)⟩, lq 22 (.pick (.t 19) (.c (.p (.bool true))) (.t 21))]
 (.fg [5, 6, 22] (.cond (.t 22)
 (qS [iQ 2 0, iQ 3 0, iQ 4 60]
 .ret)
 .skip)))
 (qS [mq 23 5, mq 24 6, mq 2 23, mq 3 24, iQ 4 0]
 .ret))))), [.t 2, .t 3, .t 4]⟩
def f86 : RFun := ⟨(qS [lq 4 (.mv (.c (.nils))), lq 5 (.mv (.c (.nils))), zQ 6, lq 7 (.mv (.c (.p (.bool false))))]
 (.scope
 (qS [mq 18 0, lq 19 (.call .ct 118 [.t 18]), mq 8 19]
 (qS [lq 9 (.mv (.c (.nils)))]
 (qS [lq 20 (.call .pu 58 [.c (.p (.int .i64 1))]), zQ 10, sq 2 10 20, lq 11 (.mv (.c (.p (.bool false))))]
 (.seq .skip
 (.seq (qS [mq 21 1, iQ 22 0]
 (.fg [6, 8, 9, 10, 11, 21, 22] (.block 0
 (.loop (.fg [6, 8, 9, 10, 11, 21, 22]
 (qS [bq 23 .lss 22 21]
 (.seq (.cond (.t 23)
 .skip
 (.exit 0))
 (.fg [6, 8, 9, 10, 11, 21, 22] (.seq (.block 1
 (qS [mq 24 22, mq 12 24]
 (qS [mq 25 9, nQ 26 25, mq 13 26]
 (qS [mq 27 13, mq 14 27]
 (.seq (.block 2
 (.loop (.fg [6, 8, 9, 10, 11, 12, 13, 14, 21, 22]
 (.seq (qS [mq 28 14, mq 29 8, nQ 30 29, bq 31 .lss 28 30, mq 32 31, ⟨(some 33), (some (32, true)), none, .mv (.t 8)⟩, ⟨(some 34), (some (32, true)), none, .mv (.t 14)⟩, ⟨(some 35), (some (32, true)), none, .indexA 1 (.t 33) (.t 34)⟩, ⟨(some 36), (some (32, true)), none, .load false 1 (.t 35)⟩, ⟨(some 37), (some (32, true)), none, .mv (.t 12)⟩, ⟨(some 38), (some (32, true)), none, .indexA 2 (.t 36) (.t 37)⟩, ⟨(some 39), (some (32, true)), none, .load true 2 (.t 38)⟩, ⟨(some 40), (some (32, true)), none, .call .pu 44 [.t 39]⟩, ⟨(some 41), (some (32, true)), none, .bin .eql (.t 40) (ki 0)⟩, lq 42 (.pick (.t 32) (.t 41) (.c (.p (.bool false))))]
 (.fg [6, 8, 9, 10, 11, 12, 13, 14, 21, 22, 42] (.cond (.t 42)
 .skip
 (.exit 2))))
 (.fg [6, 8, 9, 10, 11, 12, 13, 14, 21, 22] (.block 3
 (.reg [mq 43 14, bK 44 .add 43 1, mq 14 44] none)))))))
 (.fg [6, 8, 9, 10, 11, 12, 13, 14, 21, 22] (.seq (qS [mq 45 14, mq 46 8, nQ 47 46, bq 48 .eql 45 47]
 (.fg [6, 8, 9, 10, 11, 12, 13, 14, 21, 22, 48] (.cond (.t 48)
 (.exit 1)
 .skip)))
 (.seq (qS [mq 49 14, mq 50 13, bq 51 .neq 49 50]
 (.fg [6, 8, 9, 10, 11, 12, 13, 14, 21, 22, 51] (.cond (.t 51)
 (.seq (.reg [mq 52 8, mq 53 14, mq 54 8, mq 55 13, mq 56 8, mq 57 13, xq 58 1 56 57, lF 59 1 58, mq 60 8, mq 61 14, xq 62 1 60 61, lF 63 1 62, xq 64 1 52 53, sq 1 64 59, xq 65 1 54 55, sq 1 65 63] (some (0, [])))
 (.reg [mq 66 11, lq 67 (.un .not (.t 66)), mq 11 67] none))
 .skip)))
 (.seq (qS [mq 68 13, bK 69 .add 68 1, mq 15 69]
 (.fg [6, 8, 9, 10, 11, 12, 13, 15, 21, 22] (.block 4
 (.loop (.fg [6, 8, 9, 10, 11, 12, 13, 15, 21, 22]
 (.seq (qS [mq 70 15, mq 71 8, nQ 72 71, bq 73 .lss 70 72]
 (.fg [6, 8, 9, 10, 11, 12, 13, 15, 21, 22, 73] (.cond (.t 73)
 .skip
 (.exit 4))))
 (.seq (.block 5
 (qS [mq 76 8, mq 77 15, xq 78 1 76 77, lF 79 1 78, nQ 80 79, bK 81 .sub 80 1, mq 16 81]
 (.fg [6, 8, 9, 10, 11, 12, 13, 15, 16, 21, 22] (.block 6
 (.loop (.fg [6, 8, 9, 10, 11, 12, 13, 15, 16, 21, 22]
 (.seq (qS [mq 82 16, mq 83 12, bq 84 .geq 82 83]
 (.fg [6, 8, 9, 10, 11, 12, 13, 15, 16, 21, 22, 84] (.cond (.t 84)
 .skip
 (.exit 6))))
 (.seq (.block 7
 (.seq (.reg [mq 87 8, mq 88 13, xq 89 1 87 88, lF 90 1 89, mq 91 12, xq 92 2 90 91, lT 93 2 92, mq 94 8, mq 95 15, xq 96 1 94 95, lF 97 1 96, mq 98 16, xq 99 2 97 98, lT 100 2 99, cB 101 53 93 100, mq 102 8, mq 103 15, xq 104 1 102 103, lF 105 1 104, mq 106 12, xq 107 2 105 106, lT 108 2 107, mq 109 8, mq 110 13, xq 111 1 109 110, lF 112 1 111, mq 113 16, xq 114 2 112 113, lT 115 2 114, cB 116 53 108 115, cB 117 99 101 116, ⟨(some 17), none, (some 0), .alloc [.p (.bool false), .nils]⟩, sq 2 17 117] (some (1, [])))
 (.reg [mq 119 8, mq 120 15, xq 121 1 119 120, lF 122 1 121, mq 123 16, lT 124 2 17, lT 125 2 10, cB 126 57 124 125, mq 118 126, eX 127 118 0, eX 128 118 1, eX 129 118 2, xq 130 2 122 123, sq 2 130 127] (some (0, [])))))
 (.fg [6, 8, 9, 10, 11, 12, 13, 15, 16, 21, 22] (.reg [mq 85 16, bK 86 .sub 85 1, mq 16 86] none))))))))))
 (.fg [6, 8, 9, 10, 11, 12, 13, 15, 21, 22] (.reg [mq 74 15, bK 75 .add 74 1, mq 15 75] none)))))))))
 (qS [mq 131 8, mq 132 13, xq 133 1 131 132, lF 134 1 133, mq 135 12, xq 136 2 134 135, lT 137 2 136, sq 2 10 137]
 (.reg [mq 138 9, mq 139 12, lq 140 (.bslice 1 [.t 139]), lq 141 (.append 1 8 (.t 138) (.t 140)), mq 9 141] none)))))))))))
 (.fg [6, 8, 9, 10, 11, 21, 22] (.reg [bK 142 .add 22 1, mq 22 142] none)))))))))))
 (.seq (.reg [mq 143 8, mq 144 9, lT 145 2 10, mq 146 11, mq 4 143, mq 5 144, sq 2 6 145, mq 7 146] (some (0, [])))
 .ret)))))))), [.t 4, .t 5, .cell 6 true 2, .t 7]⟩
def f88 : RFun := ⟨(qS [lq 1 (.box (.t 0)), zQ 2]
 (qS [fQ 3 0 1, lF 4 1 3, fQ 5 1 1, lF 6 1 5, cB 7 94 4 6, sq 2 2 7]
 .ret)), [.cell 2 true 2]⟩
def f90 : RFun := ⟨(qS [lq 1 (.box (.t 0)), zQ 2]
 (qS [fQ 3 1 1, lF 4 1 3, lq 5 (.call .pu 94 [.c (.p (.bool false)), .t 4]), sq 2 2 5]
 .ret)), [.cell 2 true 2]⟩
def f91 : RFun := ⟨(qS [lq 2 (.box (.t 0)), lq 3 (.box (.t 1)), zQ 4]
 (qS [fQ 5 1 2, lF 6 1 5, fQ 7 1 3, lF 8 1 7, cB 9 121 6 8, lq 10 (.call .pu 94 [.c (.p (.bool false)), .t 9]), sq 2 4 10]
 .ret)), [.cell 4 true 2]⟩
def f92 : RFun := ⟨(qS [lq 3 (.mv (.c (.nils)))]
 (qS [mq 4 0, lF 5 1 1, cB 6 93 4 5, mq 3 6]
 .ret)), [.t 3]⟩
def f93 : RFun := ⟨(qS [lq 4 (.mv (.c (.nils)))]
 (.seq (qS [mq 10 1, nQ 11 10, bK 12 .eql 11 0]
 (.fg [0, 1, 12] (.cond (.t 12)
 (qS [lq 4 (.mv (.c (.nils)))]
 .ret)
 .skip)))
 (qS [mq 13 1, lq 14 (.indexA 1 (.t 13) (ki 0)), lF 15 1 14, nQ 16 15, lq 17 (.mks false 2 32 (.agg [.bool false, .sl []]) (.t 16) (.t 16)), mq 5 17]
 (.seq (qS [mq 18 1, nQ 19 18, iQ 20 0]
 (.fg [0, 5, 18, 19, 20] (.block 0
 (.loop (.fg [0, 5, 18, 19, 20]
 (qS [bq 21 .lss 20 19]
 (.seq (.cond (.t 21)
 .skip
 (.exit 0))
 (.fg [0, 5, 18, 19, 20] (.seq (.block 1
 (qS [mq 22 20, xq 23 1 18 20, lF 24 1 23, mq 6 22, mq 7 24]
 (qS [mq 25 7, nQ 26 25, iQ 27 0]
 (.fg [0, 5, 6, 18, 19, 20, 25, 26, 27] (.block 2
 (.loop (.fg [0, 5, 6, 18, 19, 20, 25, 26, 27]
 (qS [bq 28 .lss 27 26]
 (.seq (.cond (.t 28)
 .skip
 (.exit 2))
 (.fg [0, 5, 6, 18, 19, 20, 25, 26, 27] (.seq (.block 3
 (qS [mq 29 27, xq 30 2 25 27, lT 31 2 30, zQ 9, mq 8 29, sq 2 9 31]
 (.reg [mq 32 5, mq 33 8, mq 34 5, mq 35 8, xq 36 2 34 35, lT 37 2 36, mq 38 0, mq 39 6, xq 40 2 38 39, lT 41 2 40, lT 42 2 9, cB 43 53 41 42, cB 44 84 37 43, xq 45 2 32 33, sq 2 45 44] (some (0, [])))))
 (.fg [0, 5, 6, 18, 19, 20, 25, 26, 27] (.reg [bK 46 .add 27 1, mq 27 46] none)))))))))))))
 (.fg [0, 5, 18, 19, 20] (.reg [bK 47 .add 20 1, mq 20 47] none)))))))))))
 (qS [mq 48 5, mq 4 48]
 .ret))))), [.t 4]⟩
def f101 : RFun := ⟨(qS [lq 1 (.box (.t 0)), lq 2 (.alloc [.nils, .nils])]
 (qS [lq 3 (.alloc [.nils, .nils])]
 (qS [lq 8 (.call .pu 27 [.c (.p (.int .i64 1))]), zQ 4, sq 2 4 8]
 (qS [fQ 9 0 3, lF 10 1 9, lT 11 2 4, lq 12 (.bslice 2 [.t 11]), lq 13 (.append 2 32 (.t 10) (.t 12)), fQ 14 0 3, sq 1 14 13]
 (.seq (qS [iQ 5 0]
 (.fg [1, 2, 3, 4, 5] (.block 0
 (.loop (.fg [1, 2, 3, 4, 5]
 (.seq (qS [mq 15 5, fQ 16 1 1, lF 17 1 16, nQ 18 17, bq 19 .lss 15 18]
 (.fg [1, 2, 3, 4, 5, 19] (.cond (.t 19)
 .skip
 (.exit 0))))
 (.seq (.block 1
 (qS [lq 6 (.mv (.c (.nils)))]
 (.seq (qS [iQ 7 0]
 (.fg [1, 2, 3, 4, 5, 6, 7] (.block 2
 (.loop (.fg [1, 2, 3, 4, 5, 6, 7]
 (.seq (qS [mq 22 7, mq 23 5, bq 24 .lss 22 23]
 (.fg [1, 2, 3, 4, 5, 6, 7, 24] (.cond (.t 24)
 .skip
 (.exit 2))))
 (.seq (.block 3
 (.reg [mq 27 6, fQ 28 0 1, lF 29 1 28, mq 30 5, xq 31 1 29 30, lF 32 1 31, mq 33 7, xq 34 4 32 33, lT 35 4 34, fQ 36 0 3, lF 37 1 36, mq 38 7, bK 39 .add 38 1, xq 40 2 37 39, lT 41 2 40, lq 42 (.call .fz 109 [.t 35, .t 41]), cA 43 64 42, ⟨(some 44), none, (some 0), .bslice 2 [.t 43]⟩, ⟨(some 45), none, (some 1), .append 2 32 (.t 27) (.t 44)⟩, mq 6 45] (some (2, []))))
 (.fg [1, 2, 3, 4, 5, 6, 7] (.reg [mq 25 7, bK 26 .add 25 1, mq 7 26] none)))))))))
 (qS [fQ 46 1 3, lF 47 1 46, mq 48 6, lq 49 (.bslice 1 [.t 48]), lq 50 (.append 1 24 (.t 47) (.t 49)), fQ 51 1 3, sq 1 51 50]
 (.seq (.reg [fQ 52 1 1, lF 53 1 52, mq 54 5, xq 55 4 53 54, lT 56 4 55, lT 57 2 4, lq 58 (.call .fz 109 [.t 56, .t 57]), cA 59 64 58, sq 2 4 59] (some (0, [])))
 (.reg [fQ 60 0 3, lF 61 1 60, lT 62 2 4, lq 63 (.bslice 2 [.t 62]), lq 64 (.append 2 32 (.t 61) (.t 63)), fQ 65 0 3, sq 1 65 64] none))))))
 (.fg [1, 2, 3, 4, 5] (.reg [mq 20 5, bK 21 .add 20 1, mq 5 21] none)))))))))
 (qS [lT 66 2 3, sq 2 2 66]
 .ret)))))), [.cell 2 true 2]⟩
def f109 : RFun := ⟨(qS [lq 2 (.box (.t 0)), lq 3 (.box (.t 1)), lq 4 (.alloc [.p (.bool false), .nils, .p (.bool false), .nils])]
 (.seq (.reg [lT 5 4 2, lT 6 2 3, cA 7 66 6, cB 8 65 5 7, sq 4 4 8] (some (0, [])))
 .ret)), [.cell 4 true 4]⟩
def f118 : RFun := ⟨(qS [lq 2 (.mv (.c (.nils)))]
 (qS [mq 6 0, nQ 7 6, lq 8 (.mks true 1 24 (.sl []) (.t 7) (.t 7)), mq 3 8]
 (.seq (qS [mq 9 0, nQ 10 9, iQ 11 0]
 (.fg [3, 9, 10, 11] (.block 0
 (.loop (.fg [3, 9, 10, 11]
 (qS [bq 12 .lss 11 10]
 (.seq (.cond (.t 12)
 .skip
 (.exit 0))
 (.fg [3, 9, 10, 11] (.seq (.block 1
 (qS [mq 13 11, xq 14 1 9 11, lF 15 1 14, mq 4 13, mq 5 15]
 (qS [mq 16 3, mq 17 4, mq 18 5, nQ 19 18, lq 20 (.mks false 2 32 (.agg [.bool false, .sl []]) (.t 19) (.t 19)), xq 21 1 16 17, sq 1 21 20]
 (.reg [mq 22 3, mq 23 4, xq 24 1 22 23, lF 25 1 24, mq 26 5, lq 27 (.copy 2 (.t 25) (.t 26))] none))))
 (.fg [3, 9, 10, 11] (.reg [bK 28 .add 11 1, mq 11 28] none)))))))))))
 (qS [mq 29 3, mq 2 29]
 .ret)))), [.t 2]⟩
def f121 : RFun := ⟨(qS [lq 4 (.mv (.c (.nils)))]
 (qS [mq 10 0, cA 11 127 10, mq 12 1, cA 13 127 12, mq 5 11, mq 6 13]
 (.seq (.block 0
 (.loop (.fg [5, 6]
 (.seq (qS [mq 14 6, nQ 15 14, bK 16 .gtr 15 0]
 (.fg [5, 6, 16] (.cond (.t 16)
 .skip
 (.exit 0))))
 (.fg [5, 6] (.block 1
 (qS [mq 18 5, mq 19 6, cB 20 98 18 19, mq 17 20, eX 21 17 0, eX 22 17 1, eX 23 17 2, mq 7 21, mq 8 22, mq 9 23]
 (.reg [mq 24 6, mq 25 8, mq 5 24, mq 6 25] none))))))))
 (.fg [5] (qS [mq 26 5, mq 4 26]
 .ret))))), [.t 4]⟩
def f123 : RFun := ⟨(qS [lq 2 (.mv (.c (.nils)))]
 (qS [mq 3 0, lq 4 (.call .ct 37 [.t 3, .c (.fn 136 [])]), mq 2 4]
 (.jV 2 .ret))), [.t 2]⟩
def f136 : RFun := ⟨(qS [lq 2 (.mv (.c (.nils)))]
 (qS [mq 3 0, lq 4 (.call .ct 51 [.t 3, .c (.fn 88 [])]), mq 2 4]
 .ret)), [.t 2]⟩
def tab : List (Nat × RFun) := [(4, f4), (6, f6), (8, f8), (9, f9), (10, f10), (11, f11), (12, f12), (14, f14), (15, f15), (16, f16), (17, f17), (18, f18), (20, f20), (21, f21), (23, f23), (24, f24), (25, f25), (26, f26), (29, f29), (31, f31), (33, f33), (37, f37), (38, f38), (39, f39), (40, f40), (42, f42), (43, f43), (45, f45), (46, f46), (47, f47), (48, f48), (49, f49), (50, f50), (51, f51), (52, f52), (61, f61), (62, f62), (63, f63), (64, f64), (72, f72), (73, f73), (85, f85), (86, f86), (88, f88), (90, f90), (91, f91), (92, f92), (93, f93), (101, f101), (109, f109), (118, f118), (121, f121), (123, f123), (136, f136)]
def rp : cg := fun f => match VBn.rp f with | some rf => some rf | none => (tab.find? fun x => x.1 == f).map (·.2)
theorem cj : (tab.all fun x => j5 Tryz.prog x.1 x.2) = true := by kernel_rfl
theorem aX : mW VBn.rp rp := by
 intro f rf h
 simp only [rp, h]
theorem cV : ∀ f rf, rp f = some rf → j5 Tryz.prog f rf = true := by
 intro f rf h
 unfold rp at h
 split at h
 ·rename_i h1
  cases h
  exact VBn.cV _ _ h1
 ·rw [au] at h
  obtain ⟨x, hx, rfl⟩ := h
  have h1 := List.find?_some hx
  have h2 := List.mem_of_find?_eq_some hx
  have h3 := aU.1 cj x h2
  have h4 : x.1 = f := by simpa using h1
  rw [← h4]; exact h3
theorem mixed : Tryz.prog.follows .mixedOrders = true := VBn.mixed
theorem sim (m : Nat) : eF Tryz.prog (fJ rp m) := nY mixed cV m
end Go.Proofs.YtdieenbfdeaffabGreat.VDd
namespace Go.Proofs.YtdieenbfdeaffabGreat.VDd
open Go Vpi
open VBn hiding rp tab cV cj mixed sim Big
set_option maxRecDepth 100000
theorem rp116 : rp 51 = some f51 := rfl
theorem rp114 : rp 37 = some f37 := rfl
theorem rp115 : rp 136 = some f136 := rfl
theorem rp94 : rp 88 = some f88 := rfl
theorem rp70 : rp 123 = some f123 := rfl
theorem rp100 : rp 31 = some f31 := rfl
structure Pre (σ ρ : ar) : Prop where
 len : σ.length ≤ ρ.length
 get : ∀ j, j < σ.length → ρ[j]? = σ[j]?
section
variable {σ ρ : ar} {c : CV} {sz : Nat} {es : List PV}
theorem Pre.refl : Pre σ σ := ⟨av _, fun _ _ => rfl⟩
theorem Pre.push (h : Pre σ ρ) {l : ar} : Pre σ (ρ ++ l) := ⟨by rw [bX]; exact a9 h.len (Nat.le_add_right _ _), fun j hj => by rw [aL (bP hj h.len), h.get j hj]⟩
theorem Pre.set (h : Pre σ ρ) {b : Nat} {x : Blk} (hb : σ.length ≤ b) : Pre σ (ρ.set b x) := ⟨by rw [ay]; exact h.len, fun j hj => by rw [bC (by omega), h.get j hj]⟩
theorem Pre.trans {τ : ar} (h : Pre σ ρ) (k : Pre ρ τ) : Pre σ τ := ⟨a9 h.len k.len, fun j hj => by rw [k.get j (bP hj h.len), h.get j hj]⟩
theorem Pre.take (h : Pre σ ρ) : ρ.take σ.length = σ := by
 apply dv
 intro j
 rw [aN]
 split
 ·exact h.get j (by assumption)
 ·rw [aG (by omega)]
theorem mF {l : ar} (h : GL ρ sz c es) : nd (ρ ++ l) c = nd ρ c ++ l := by
 have hlt := h.lt.2
 cases c <;> try rfl
 exact cv (hlt _ _ _ rfl)
theorem mU {b : Nat} {n base : Nat} (hb : ρ[b]? = some (.prow sz es)) (hn : n = es.length) (h : base ≤ b) : back base ρ (.own b 0 n) = some (.p (.sl es)) := by
 have h1 : ¬ b < base := by omega
 simp only [back, dL, h1, if_false, e9 hb hn, aH]
section
variable {rp : cg} {rs : List dH} {base : Nat} {d : Option Nat} {l : List LOp} {dr : Dr} {ks : List KI} {e : Env} {Q : CV → ar → Prop} {xs : List PV}
theorem my {a : Blk} {s x : Opd} {bytes : Nat} (h : GL ρ sz c es) (hc : (es.length + xs.length) * bytes ≤ 140737488355328) (hs : vl e s = c) (hx : vl e x = .own (ρ.length + 1) 0 xs.length) (hz : dE sz xs = true) :
 ExR rp rs base (⟨d, none, none, .append sz bytes s x⟩ :: l) dr ks e (ρ ++ [a, .prow sz xs]) Q = ExR rp rs base l dr ks (sto d (.own (ρ.length + 2) 0 (es.length + xs.length)) e) (nd ρ c ++ [a, .prow sz xs, .prow sz (es ++ xs)]) Q := by
 have hl : (ρ ++ [a]).length = ρ.length + 1 := by simp
 have := ia (rp := rp) (rs := rs) (base := base) (d := d) (l := l) (dr := dr) (ks := ks) (e := e) (Q := Q) (s := s) (x := x) (h.left (τ := [a])) hc hs (by rw [hl]; exact hx) hz
 rw [hl, mF h, aP, aP] at this
 exact this
theorem ky {f : Nat} {args : List CV} (h : Rn rp f args σ fun v τ => ((τ.take σ.length).all (dO σ.length)) = true ∧ ∃ r, back σ.length τ v = some r ∧ ExR rp rs base l dr ks (sto d r e) (τ.take σ.length) Q) :
 KC rp rs base .full f args d l dr ks e σ Q := re h
end
end
def zr (r : List Int) : List PV := r.map zi
def zm (M : List (List Int)) : List PV := M.map fun r => .sl (zr r)
theorem dB {r : List Int} : (zr r).length = r.length := by simp [zr]
theorem jn {M : List (List Int)} : (zm M).length = M.length := by simp [zm]
theorem jm {r : List Int} {i : Nat} {x : Int} (h : r[i]? = some x) : (zr r)[i]? = some (zi x) := by simp [zr, h]
theorem j8 {M : List (List Int)} {i : Nat} {r : List Int} (h : M[i]? = some r) : (zm M)[i]? = some (.sl (zr r)) := by simp [zm, h]
theorem tQ {r s : List Int} : zr (r ++ s) = zr r ++ zr s := by simp [zr]
theorem tR {r s : List (List Int)} : zm (r ++ s) = zm r ++ zm s := by simp [zm]
theorem n7 {M : List (List Int)} {i : Nat} {r : List Int} : (zm M).set i (.sl (zr r)) = zm (M.set i r) := by simp [zm, List.map_set]
theorem jw {α : Type} {l : List α} {i : Nat} {x : α} (h : l[i]? = some x) : l.take (i + 1) = l.take i ++ [x] := by
 obtain ⟨h1, h2⟩ := aq.1 h
 rw [List.take_add_one, h]; rfl
theorem qi {r : List Int} {i : Nat} {x : Int} (h : r[i]? = some x) : zr (r.take (i + 1)) = zr (r.take i) ++ [zi x] := by rw [jw h, tQ]; rfl
theorem wG {M : List (List Int)} {i : Nat} {r : List Int} (h : M[i]? = some r) : zm (M.take (i + 1)) = zm (M.take i) ++ [.sl (zr r)] := by rw [jw h, tR]; rfl
def NL (r : List PV) (xs : List Int) : Prop := r.length = xs.length ∧ ∀ (i : Nat) (p : PV) (x : Int), r[i]? = some p → xs[i]? = some x → Nu p x
def ML (b : List PV) (M : List (List Int)) : Prop := b.length = M.length ∧ ∀ (i : Nat) (p : PV) (r : List Int), b[i]? = some p → M[i]? = some r → ∃ q, p = .sl q ∧ NL q r ∧ q.length ≤ 2000000
theorem NL.ix {r : List PV} {xs : List Int} (h : NL r xs) {i : Nat} (hi : i < r.length) : ∃ p x, r[i]? = some p ∧ xs[i]? = some x ∧ Nu p x := by
 have h2 : i < xs.length := by rw [← h.1]; exact hi
 exact ⟨r[i], xs[i], by simp, by simp, h.2 i _ _ (by simp) (by simp)⟩
theorem ML.ix {b : List PV} {M : List (List Int)} (h : ML b M) {i : Nat} (hi : i < b.length) : ∃ q r, b[i]? = some (.sl q) ∧ M[i]? = some r ∧ NL q r ∧ q.length ≤ 2000000 := by
 have h2 : i < M.length := by rw [← h.1]; exact hi
 obtain ⟨q, h3, h4, h5⟩ := h.2 i b[i] M[i] (by simp) (by simp)
 exact ⟨q, M[i], by rw [← h3]; simp, by simp, h4, h5⟩
def SzL (r : List Int) : Prop := ∀ (i : Nat) (x : Int), r[i]? = some x → Sz x
theorem NL.zr {r : List Int} (h : SzL r) : NL (zr r) r := by
 refine ⟨dB, fun i p x hp hx => ?_⟩
 rw [jm hx] at hp
 cases hp
 exact Nu.zi (h i x hx)
def zf (σ : ar) (g : Nat) (cap : List CV) (p : PV) (y : Int) : Prop :=
 ∀ (ρ : ar), Pre σ ρ → ∀ {rs : List dH} {base : Nat} {d : Option Nat} {l : List LOp} {dr : Dr} {ks : List KI} {e : Env} {Q : CV → ar → Prop},
  KC rp rs base .cell g (.p p :: cap) d l dr ks e ρ Q = ExR rp rs base l dr ks (sto d (.p (zi y)) e) ρ Q
theorem n116 {σ : ar} {g : Nat} {cap : List CV} {r : List PV} {ys : List Int} (hw : Wf σ) (hl : r.length = ys.length) (hm : r.length ≤ 2000000)
 (hg : ∀ i, i < r.length → ∃ p y, r[i]? = some p ∧ ys[i]? = some y ∧ (∃ a b, p = .agg [.bool a, .sl b]) ∧ zf σ g cap p y) {Q : CV → ar → Prop}
 (hQ : ∀ ρ b, Pre σ ρ → Wf ρ → σ.length ≤ b → ρ[b]? = some (.prow 2 (zr ys)) → Q (.own b 0 ys.length) ρ) : Rn rp 51 [.p (.sl r), .fn g cap] σ Q := by
 rw [ew rp116]
 have m1 : ((32 : Nat) : Int) * (r.length : Int) ≤ 281474976710656 := by omega
 have m2 : (r.length : Int) ≤ 9223372036854775807 := by omega
 have i0 : gG 0 = 0 := rfl
 simp only [f51, aJ, SB, ak, aj, ↓reduceIte, reduceCtorEq, ai, ab, ah, ae, aa, af, Int.natCast_nonneg, m1, m2, i0, dN]
 refine aM (β := Nat × ar × Nat) (fun t => ([(1, .fn g cap), (5, .own t.2.2 0 t.1), (11, .p (.sl r)), (12, i64 r.length), (13, i64 t.1)], t.2.1))
  (fun t => t.1 ≤ r.length ∧ Pre σ t.2.1 ∧ Wf t.2.1 ∧ σ.length ≤ t.2.2 ∧ t.2.1[t.2.2]? = some (.prow 2 (zr (ys.take t.1)))) (fun t => r.length - t.1) ((0, σ ++ [.prow 2 []], σ.length) : Nat × ar × Nat) rfl rfl
  ⟨aD _, Pre.refl.push, hw.push rfl, av _, by rw [cP]; rfl⟩ ?_
 rintro ⟨i, ρ, b⟩ ⟨hi, hp, hwf, hb, hgl⟩ ih
 simp only [] at hi hp hwf hb hgl ih ⊢
 by_cases hin : (i : Int) < r.length
 ·obtain ⟨p, y, hpi, hyi, ⟨a1, a2, rfl⟩, hd⟩ := hg i (by omega)
  have w1 := wr1 (i := i) (by omega)
  have htl : (zr (ys.take i)).length = i := by rw [dB, aS]; omega
  have hG : GL ρ 2 (.own b 0 i) (zr (ys.take i)) := .own hgl htl.symm
  have hc : ((zr (ys.take i)).length + [zi y].length) * 32 ≤ 140737488355328 := by rw [htl]; simp; omega
  have hd' := fun {rs base d l dr ks e Q} => hd (ρ ++ [.kblk 2 [.p (.bool a1), .p (.sl a2)]]) hp.push (rs := rs) (base := base) (d := d) (l := l) (dr := dr) (ks := ks) (e := e) (Q := Q)
  have hA := fun {rp rs base d l dr ks e Q s x} => my (rp := rp) (rs := rs) (base := base) (d := d) (l := l) (dr := dr) (ks := ks) (e := e) (Q := Q) (s := s) (x := x) (a := .kblk 2 [.p (.bool a1), .p (.sl a2)]) hG hc
  simp only [SB, ak, aj, ↓reduceIte, reduceCtorEq, ai, ab, ah, ae, aa, af, hin, hpi, SN, hd', hA, ← qi hyi, htl, w1, nd]
  refine ih (i + 1, ρ.set b .dead ++ [.kblk 2 [.p (.bool a1), .p (.sl a2)], .prow 2 [zi y], .prow 2 (zr (ys.take (i + 1)))], ρ.length + 2) _ ⟨by simp only []; omega, (hp.set hb).push, ?_, ?_, ?_⟩ (by simp only []; omega) ?_
  ·have h1 := (((hwf.set (b := b) (x := .dead) rfl).push (x := .kblk 2 [.p (.bool a1), .p (.sl a2)]) rfl).push (x := .prow 2 [zi y]) rfl).push (x := .prow 2 (zr (ys.take (i + 1)))) rfl
   simpa [aP] using h1
  ·simp only []; exact a9 hp.len (Nat.le_add_right _ _)
  ·simp only []
   rw [show ρ.length + 2 = (ρ.set b Blk.dead).length + 2 by rw [ay], cY]; rfl
  ·rfl
 ·obtain rfl : i = r.length := by omega
  simp only [SB, ak, aj, ↓reduceIte, reduceCtorEq, ai, ab, ah, ae, aa, af, hin]
  rw [b6 (by omega)] at hgl
  rw [hl]
  exact hQ ρ b hp hwf hb hgl
theorem De {σ : ar} {g : Nat} {p : PV} {y : Int} (h : Pu rp g [p] (.p (zi y))) : zf σ g [] p y := by
 intro ρ _ rs base d l dr ks e Q
 exact yp h rfl rfl
theorem p94 {p : PV} {x : Int} (h : Nu p x) : Pu rp 88 [p] (.p (zi x)) := by
 obtain ⟨n1, a, rfl, ha, hna, rfl⟩ := h
 refine aY rp94 ?_
 rw [cH] at hna
 have k := (p105 (neg := n1) ha (by omega)).lift aX
 rw [mk_val] at k
 simp only [f88, aJ, SB, ak, aj, ↓reduceIte, reduceCtorEq, ai, ab, ah, ae, aa, af, kp2 k]
 rfl
theorem Nu.agg {p : PV} {x : Int} (h : Nu p x) : ∃ a b, p = .agg [.bool a, .sl b] := by
 obtain ⟨n1, a, rfl, -⟩ := h
 exact ⟨_, _, rfl⟩
theorem n115 {r : List PV} {xs : List Int} {σ : ar} (hw : Wf σ) (h : NL r xs) (hm : r.length ≤ 2000000) {Q : CV → ar → Prop}
 (hQ : ∀ ρ b, Pre σ ρ → Wf ρ → σ.length ≤ b → ρ[b]? = some (.prow 2 (zr xs)) → Q (.own b 0 xs.length) ρ) : Rn rp 136 [.p (.sl r)] σ Q := by
 rw [ew rp115]
 simp only [f136, aJ, SB, ak, aj, ↓reduceIte, reduceCtorEq, ai, ab, ah, ae, aa, af]
 refine cC (n116 hw h.1 hm (fun i hi => ?_) fun ρ b hp hwf hb hg => ?_)
 ·obtain ⟨p, x, h1, h2, h3⟩ := h.ix hi
  exact ⟨p, x, h1, h2, Nu.agg h3, De (p94 h3)⟩
 ·simp only [SB, ak, aj, ↓reduceIte, reduceCtorEq, ai, ab, ah, ae, aa, af]
  exact hQ ρ b hp hwf hb hg
structure ff (ρ : ar) (lo : Nat) (cs : List CV) (M : List (List Int)) : Prop where
 len : cs.length = M.length
 own : ∀ (j : Nat) (r : List Int), M[j]? = some r → ∃ b, cs[j]? = some (.own b 0 r.length) ∧ lo ≤ b ∧ ρ[b]? = some (.prow 2 (zr r))
 ne : ∀ (j j' b b' n n' : Nat), j < j' → cs[j]? = some (.own b 0 n) → cs[j']? = some (.own b' 0 n') → b ≠ b'
theorem ff.nil {ρ : ar} {lo : Nat} : ff ρ lo [] [] := ⟨rfl, by simp, by simp⟩
theorem ff.mono {ρ τ : ar} {lo : Nat} {cs : List CV} {M : List (List Int)} (h : ff ρ lo cs M) (hp : ∀ (b : Nat) es, ρ[b]? = some (.prow 2 es) → τ[b]? = some (.prow 2 es)) : ff τ lo cs M :=
 ⟨h.len, fun j r hr => by obtain ⟨b, h1, h2, h3⟩ := h.own j r hr; exact ⟨b, h1, h2, hp b _ h3⟩, h.ne⟩
theorem ff.snoc {ρ : ar} {lo b : Nat} {cs : List CV} {M : List (List Int)} {r : List Int} (h : ff ρ lo cs M) (hlo : lo ≤ b) (hb : ρ[b]? = some (.prow 2 (zr r))) (hne : ∀ (j b' n : Nat), cs[j]? = some (.own b' 0 n) → b' ≠ b) :
 ff ρ lo (cs ++ [.own b 0 r.length]) (M ++ [r]) := by
 refine ⟨by simp [h.len], fun j r' hr => ?_, fun j j' b1 b2 n n' hj h1 h2 => ?_⟩
 ·rcases ax j M.length with hjl | hjl
  ·rw [aB hjl] at hr
   obtain ⟨b', h1, h2, h3⟩ := h.own j r' hr
   exact ⟨b', by rw [aB (by rw [h.len]; exact hjl)]; exact h1, h2, h3⟩
  ·rw [aC hjl] at hr
   have h0 : j - M.length = 0 := by
    have := (aq.1 hr).1
    simp at this; omega
   rw [h0] at hr
   cases hr
   refine ⟨b, ?_, hlo, hb⟩
   rw [aC (by rw [h.len]; exact hjl), h.len, h0]; rfl
 ·have hj2 : j' < cs.length + 1 := by simpa using (aq.1 h2).1
  rw [aB (by omega)] at h1
  rcases ax j' cs.length with hjl | hjl
  ·rw [aB hjl] at h2
   exact h.ne j j' b1 b2 n n' hj h1 h2
  ·rw [aC hjl, show j' - cs.length = 0 by omega] at h2
   simp only [gO, Option.some.injEq, CV.own.injEq] at h2
   rw [← h2.1]
   exact hne j b1 n h1
section
variable {rp : cg} {rs : List dH} {base : Nat} {d : Option Nat} {l : List LOp} {dr : Dr} {ks : List KI} {e : Env} {σ ρ : ar} {Q : CV → ar → Prop}
theorem p7 {b n : Nat} {cs : List CV} (h : σ[b]? = some (.kblk 1 cs)) (hn : n = cs.length) : fc σ (.own b 0 n) = some cs := by
 subst hn
 simp [fc, h]
theorem sj {a k n : Nat} {cs xs : List CV} {s x : Opd} {bytes : Nat} (hk : ρ[k]? = some (.kblk 1 cs)) (hn : n = cs.length) (hx0 : 0 < xs.length) (hc : (cs.length + xs.length) * bytes ≤ 140737488355328) (hs : vl e s = .own k 0 n) (hx : vl e x = .own ρ.length 0 xs.length) :
 ExR rp rs base (⟨d, none, none, .appk bytes s x⟩ :: l) dr ks e (ρ ++ [.kblk 1 xs]) Q = ExR rp rs base l dr ks (sto d (.own (ρ.length + 1) 0 (cs.length + xs.length)) e) (ρ.set k .dead ++ [.kblk 1 xs, .kblk 1 (cs ++ xs)]) Q := by
 rw [ud]
 have hlt := (aq.1 hk).1
 have h1 : fc (ρ ++ [.kblk 1 xs]) (vl e s) = some cs := by rw [hs]; exact p7 (by rw [aB hlt]; exact hk) hn
 have h2 : fc (ρ ++ [.kblk 1 xs]) (vl e x) = some xs := by rw [hx]; exact p7 (by simp) rfl
 simp only [ev, h1, h2]
 rw [if_pos ⟨hc, hx0⟩, hs]
 simp only [gU, aH, eY, bX, ay, dZ, List.length_nil, d8]
 rw [List.set_append_left _ _ hlt, aP]
 rfl
end
theorem uF {ρ : ar} {lo m : Nat} {cs : List CV} {M : List (List Int)} (h : ff ρ lo cs M) (hm : ρ.length ≤ m) : (cs.all (gK m)) = true := by
 rw [aU]
 intro x hx
 obtain ⟨j, hj⟩ := List.getElem?_of_mem hx
 have hjl : j < M.length := by rw [← h.len]; exact (aq.1 hj).1
 obtain ⟨b, h1, _, h3⟩ := h.own j M[j] (by simp [hjl])
 rw [h1] at hj
 cases hj
 have := (aq.1 h3).1
 simp only [gK, decide_eq_true_eq]
 omega
structure Fl (x y q r : Int) : Prop where
 eq : x = q * y + r
 rest : (0 ≤ r ∧ r < y) ∨ (y < r ∧ r ≤ 0)
 le : q.natAbs ≤ x.natAbs + 1
 rle : r.natAbs < y.natAbs
theorem vB {n1 n2 : Bool} {A B : Nat} {x y : Int} (hx : x = if n1 = true then -(A : Int) else A) (hy : y = if n2 = true then -(B : Int) else B) (hB : B ≠ 0) :
 ∃ q0 r0 : Int, q0 = (if (!(n1 == n2)) = true then -((A / B : Nat) : Int) else ((A / B : Nat) : Int)) ∧ r0 = (if n1 = true then -((A % B : Nat) : Int) else ((A % B : Nat) : Int)) ∧ x = q0 * y + r0 ∧ q0.natAbs ≤ x.natAbs ∧ r0.natAbs ≤ x.natAbs ∧ r0.natAbs < y.natAbs ∧
  (r0.sign = 0 → Fl x y q0 r0) ∧ (r0.sign ≠ 0 → r0.sign = y.sign → Fl x y q0 r0) ∧ (r0.sign ≠ 0 → r0.sign ≠ y.sign → Fl x y (q0 - 1) (r0 + y)) := by
 have hd : (A : Int) = ((A / B : Nat) : Int) * (B : Int) + ((A % B : Nat) : Int) := by
  have := Nat.div_add_mod A B
  have h2 : (A : Int) = ((B * (A / B) + A % B : Nat) : Int) := by rw [this]
  rw [h2, Int.natCast_add, Int.natCast_mul, Int.mul_comm]
 have hm : A % B < B := ep _ (dU hB)
 have hqle : A / B ≤ A := Nat.div_le_self _ _
 have hrle : A % B ≤ A := Nat.mod_le _ _
 generalize A / B = D at *
 generalize A % B = R at *
 have key : x = (if (!(n1 == n2)) = true then -(D : Int) else (D : Int)) * y + (if n1 = true then -(R : Int) else (R : Int)) := by
  rw [hx, hy]
  cases n1 <;> cases n2
  ·show (A : Int) = (D : Int) * (B : Int) + (R : Int)
   exact hd
  ·show (A : Int) = -(D : Int) * -(B : Int) + (R : Int)
   rw [Int.neg_mul_neg]; exact hd
  ·show -(A : Int) = -(D : Int) * (B : Int) + -(R : Int)
   rw [Int.neg_mul]; omega
  ·show -(A : Int) = (D : Int) * -(B : Int) + -(R : Int)
   rw [Int.mul_neg]; omega
 refine ⟨_, _, rfl, rfl, key, ?_, ?_, ?_, ?_, ?_, ?_⟩
 ·rw [hx]; cases n1 <;> cases n2 <;> simp <;> omega
 ·rw [hx]; cases n1 <;> simp <;> omega
 ·rw [hy]; cases n1 <;> cases n2 <;> simp <;> omega
 ·intro h0
  have h1 := Int.sign_eq_zero_iff_zero.1 h0
  refine ⟨key, ?_, ?_, ?_⟩
  ·rw [h1]
   rw [hy]; cases n2 <;> simp <;> omega
  ·rw [hx]; cases n1 <;> cases n2 <;> simp <;> omega
  ·rw [h1, hy]; cases n2 <;> simp <;> omega
 ·intro h0 h1
  have hR : R ≠ 0 := by rintro rfl; apply h0; cases n1 <;> rfl
  refine ⟨key, ?_, ?_, ?_⟩
  ·rw [hy] at h1 ⊢
   cases n1 <;> cases n2
   ·left; simp; omega
   ·exfalso
    rw [bo (by simp; omega : (0 : Int) < if false = true then -(R : Int) else R), bY (by simp; omega : (if true = true then -(B : Int) else (B : Int)) < 0)] at h1
    cases h1
   ·exfalso
    rw [bY (by simp; omega : (if true = true then -(R : Int) else (R : Int)) < 0), bo (by simp; omega : (0 : Int) < if false = true then -(B : Int) else B)] at h1
    cases h1
   ·right; simp; omega
  ·rw [hx]; cases n1 <;> cases n2 <;> simp <;> omega
  ·rw [hy]; cases n1 <;> cases n2 <;> simp <;> omega
 ·intro h0 h1
  have hR : R ≠ 0 := by rintro rfl; apply h0; cases n1 <;> rfl
  refine ⟨by rw [Int.sub_mul]; omega, ?_, ?_, ?_⟩
  ·rw [hy] at h1 ⊢
   cases n1 <;> cases n2
   ·exfalso
    apply h1
    rw [bo (by simp; omega : (0 : Int) < if false = true then -(R : Int) else R), bo (by simp; omega : (0 : Int) < if false = true then -(B : Int) else B)]
   ·right; simp; omega
   ·left; simp; omega
   ·exfalso
    apply h1
    rw [bY (by simp; omega : (if true = true then -(R : Int) else (R : Int)) < 0), bY (by simp; omega : (if true = true then -(B : Int) else (B : Int)) < 0)]
  ·rw [hx]; cases n1 <;> cases n2 <;> simp <;> omega
  ·rw [hy] at h1 ⊢
   cases n1 <;> cases n2
   ·exfalso
    apply h1
    rw [bo (by simp; omega : (0 : Int) < if false = true then -(R : Int) else R), bo (by simp; omega : (0 : Int) < if false = true then -(B : Int) else B)]
   ·simp; omega
   ·simp; omega
   ·exfalso
    apply h1
    rw [bY (by simp; omega : (if true = true then -(R : Int) else (R : Int)) < 0), bY (by simp; omega : (if true = true then -(B : Int) else (B : Int)) < 0)]
theorem fl100 {p p' : PV} {x y : Int} (h : Nu p x) (h' : Nu p' y) (hy : y ≠ 0) : ∃ q r, Fl x y q r ∧ Pu rp 31 [p, p'] (.tup [.p (zi q), .p (zi r)]) := by
 have hx := h.sz
 have hys := h'.sz
 have k79y := (VBn.p79 h').lift aX
 have h0' := h
 obtain ⟨n1, a, rfl, ha, hna, rfl⟩ := h
 have h'' := h'
 obtain ⟨n2, b, rfl, hb, hnb, rfl⟩ := h'
 have hb0 : val b ≠ 0 := by intro h0; apply hy; unfold iv; rw [h0]; cases n2 <;> rfl
 obtain ⟨q0, r0, eq0, er0, key, qle, rle, rlt, f1, f2, f3⟩ := vB (n1 := n1) (n2 := n2) (A := val a) (B := val b) (x := iv n1 a) (y := iv n2 b) rfl rfl hb0
 rw [cH] at hna hnb
 have k1 := (VBn.p135 ha hb (by omega) (by omega) hb0).lift aX
 have hdq : (dgl (val a / val b)).length ≤ a.length := bE (bQ (Nat.div_le_self _ _) (bR ha))
 have kq := (VBn.p107 (neg := !(n1 == n2)) (aW (val a / val b)) (by omega)).lift aX
 simp only [aZ, iR] at kq
 rw [← eq0] at kq
 have hqz : Sz q0 := hx.le qle
 have hrz : Sz r0 := hx.le rle
 have hmz : Sz (q0 * iv n2 b) := hx.le (by
  have e : q0 * iv n2 b = iv n1 a - r0 := by omega
  rw [e, er0]
  have hRA : val a % val b ≤ val a := Nat.mod_le _ _
  cases n1
  ·show ((val a : Int) - ((val a % val b : Nat) : Int)).natAbs ≤ ((val a : Int)).natAbs
   omega
  ·show (-(val a : Int) - -((val a % val b : Nat) : Int)).natAbs ≤ (-(val a : Int)).natAbs
   omega)
 have k117 := (VBn.p117 (Nu.zi hqz) h'').lift aX
 have k60 := (VBn.p60 h0' (Nu.zi hmz)).lift aX
 rw [show iv n1 a - q0 * iv n2 b = r0 by omega] at k60
 rw [bg (x := q0)] at k117
 have k79 := (VBn.p79 (Nu.zi hrz)).lift aX
 have ks := (VBn.p60 (Nu.zi hqz) (Nu.zi (x := 1) (Sz.small (by decide)))).lift aX
 have ka := (VBn.p109 (Nu.zi hrz) h'').lift aX
 have k66 := (VBn.p66 (x := 1) (by decide) (by decide)).lift aX
 rw [bg] at k79 ka
 rw [bg (x := q0)] at ks
 have e0 : ((0 : Int) != 0) = false := rfl
 by_cases h0 : r0.sign = 0
 ·refine ⟨q0, r0, f1 h0, ?_⟩
  refine aY rp100 ?_
  have e1 : (r0.sign != 0) = false := by rw [h0]; rfl
  simp only [f31, aJ, SB, ak, aj, ↓reduceIte, reduceCtorEq, ai, ab, ah, ae, aa, af, kp2 k1, bV, e0, kp2 kq, kp2 k117, kp2 k60, kp1 k79, e1]
  rw [ez]
  refine ⟨by rfl, ?_⟩
  simp only [SB, ak, aj, ↓reduceIte, reduceCtorEq, ai, ab, ah, ae, aa, af]
  exact dz aQ aQ
 ·have e1 : (r0.sign != 0) = true := by simp [h0]
  by_cases h1 : r0.sign = (iv n2 b).sign
  ·refine ⟨q0, r0, f2 h0 h1, ?_⟩
   refine aY rp100 ?_
   rw [← h1] at k79y
   simp only [f31, aJ, SB, ak, aj, ↓reduceIte, reduceCtorEq, ai, ab, ah, ae, aa, af, kp2 k1, bV, e0, kp2 kq, kp2 k117, kp2 k60, kp1 k79, e1, kp1 k79y, bne_self_eq_false]
   rw [ez]
   refine ⟨by rfl, ?_⟩
   simp only [SB, ak, aj, ↓reduceIte, reduceCtorEq, ai, ab, ah, ae, aa, af]
   exact dz aQ aQ
  ·refine ⟨q0 - 1, r0 + iv n2 b, f3 h0 h1, ?_⟩
   refine aY rp100 ?_
   have e2 : (r0.sign != (iv n2 b).sign) = true := by simp [h1]
   simp only [f31, aJ, SB, ak, aj, ↓reduceIte, reduceCtorEq, ai, ab, ah, ae, aa, af, kp2 k1, bV, e0, kp2 kq, kp2 k117, kp2 k60, kp1 k79, e1, kp1 k79y, e2, kp1 k66, kp2 ks, kp2 ka]
   rw [ez]
   refine ⟨by rfl, ?_⟩
   simp only [SB, ak, aj, ↓reduceIte, reduceCtorEq, ai, ab, ah, ae, aa, af]
   exact dz aQ aQ
theorem rp133 : rp 121 = some f121 := rfl
theorem rp96 : rp 91 = some f91 := rfl
theorem rp97 : rp 48 = some f48 := rfl
theorem rp95 : rp 17 = some f17 := rfl
theorem p133 {a b : List Nat} (ha : Lim a) (hb : Lim b) (hna : a.length ≤ 400000000000) (hnb : b.length ≤ 400000000000) :
 Pu rp 121 [.sl (lm a), .sl (lm b)] (.p (.sl (lm (dgl (bZ (val a) (val b)))))) := by
 refine aY rp133 ?_
 have hda : (dgl (val a)).length ≤ a.length := bE (bR ha)
 have hdb : (dgl (val b)).length ≤ b.length := bE (bR hb)
 have ka := (VBn.p158 ha (by omega)).lift aX
 have kb := (VBn.p158 hb (by omega)).lift aX
 simp only [f121, aJ, SB, ak, aj, ↓reduceIte, reduceCtorEq, ai, ab, ah, ae, aa, af, kp1 ka, kp1 kb]
 refine qe (β := Nat × Nat) (γ := Unit) (fun t => ([(5, .p (.sl (lm (dgl t.1)))), (6, .p (.sl (lm (dgl t.2))))], [])) (fun t => bZ t.1 t.2 = bZ (val a) (val b) ∧ (dgl t.1).length ≤ 400000000000 ∧ (dgl t.2).length ≤ 400000000000) (fun t => t.2)
  (fun _ => ([(5, .p (.sl (lm (dgl (bZ (val a) (val b))))))], [])) (fun _ => True) ((val a, val b) : Nat × Nat) rfl rfl ⟨rfl, by simp only []; omega, by simp only []; omega⟩ ?_ ?_
 ·rintro ks' ⟨x, y⟩ ⟨hg, hx, hy⟩ ih hexit
  simp only [] at hg hx hy ih hexit ⊢
  by_cases h0 : y = 0
  ·subst h0
   have hn : ¬ (((([] : List Nat).length : Nat) : Int) > 0) := by simp
   rw [Nat.gcd_zero_right] at hg
   simp only [SB, ak, aj, ↓reduceIte, reduceCtorEq, ai, ab, ah, ae, aa, af, cJ, aT, hn]
   refine hexit () _ trivial ?_
   rw [← hg]; rfl
  ·have hlen := List.length_pos_iff.2 (jt h0)
   have hp : ((dgl y).length : Int) > 0 := by omega
   have hk := (VBn.p159 (aW x) (aW y) hx hy (by rw [aZ]; exact h0)).lift aX
   rw [aZ, aZ] at hk
   have hr : (dgl (x % y)).length ≤ (dgl y).length := fv (Nat.le_of_lt (ep _ (dU h0)))
   simp only [SB, ak, aj, ↓reduceIte, reduceCtorEq, ai, ab, ah, ae, aa, af, aT, hp, kp2 hk]
   refine ih (y, x % y) _ ⟨?_, hy, by simp only []; omega⟩ (ep _ (dU h0)) ?_
   ·rw [← hg]; simp only []; rw [Nat.gcd_comm, ← Nat.gcd_rec, Nat.gcd_comm]
   ·rfl
 ·rintro ⟨⟩ -
  simp only [SB, ak, aj, ↓reduceIte, reduceCtorEq, ai, ab, ah, ae, aa, af]
  rfl
theorem yu {a b M : Nat} (ha : a < M) (hb : b < M) : bZ a b < M := by
 rcases eu a with h | h
 ·rw [h, Nat.gcd_zero_left]; exact hb
 ·exact bQ (Nat.le_of_dvd h (Nat.gcd_dvd_left a b)) ha
theorem B3 {v : Nat} : mk false v = zi (v : Int) := by rw [iR]; rfl
theorem p96 {p q : PV} {x y : Int} (h : Nu p x) (h' : Nu q y) : Pu rp 91 [p, q] (.p (zi ((bZ x.natAbs y.natAbs : Nat) : Int))) := by
 have hx := h.sz
 have hy := h'.sz
 obtain ⟨n1, a, rfl, ha, hna, rfl⟩ := h
 obtain ⟨n2, b, rfl, hb, hnb, rfl⟩ := h'
 refine aY rp96 ?_
 unfold Sz at hx hy
 rw [iM] at hx hy
 rw [iM, iM]
 have hg : (dgl (bZ (val a) (val b))).length ≤ fR := bE (yu hx hy)
 rw [cH] at hna hnb hg
 have k1 := p133 ha hb (by omega) (by omega)
 have k2 := (VBn.p105 (neg := false) (aW (bZ (val a) (val b))) (by omega)).lift aX
 rw [aZ, B3] at k2
 simp only [f91, aJ, SB, ak, aj, ↓reduceIte, reduceCtorEq, ai, ab, ah, ae, aa, af, kp2 k1, kp2 k2]
 rfl
theorem p97 {p q : PV} {x y : Int} (h : Nu p x) (h' : Nu q y) (hy : 0 < y) (hd : y ∣ x) : Pu rp 48 [p, q] (.tup [.p (zi (x / y)), .p (.int .i64 0)]) := by
 refine aY rp97 ?_
 have k1 := (VBn.p134 h h' hy).lift aX
 rw [Int.emod_eq_zero_of_dvd hd] at k1
 have k2 : Pu rp 44 [.agg [.bool (false && decide (Int.natAbs 0 ≠ 0)), .sl (lm (dgl (Int.natAbs 0)))]] (.p (.int .i64 0)) := (VBn.p77 (Nu.zi (x := 0) (Sz.small (by decide)))).lift aX
 have e0 : ((0 : Int) != 0) = false := rfl
 obtain ⟨n1, a, rfl, ha, hna, rfl⟩ := h
 obtain ⟨n2, b, rfl, hb, hnb, rfl⟩ := h'
 simp only [f48, aJ, SB, ak, aj, ↓reduceIte, reduceCtorEq, ai, ab, ah, ae, aa, af, kp2 k1, e0, kp1 k2, Int.sign_zero]
 exact dz aQ aQ
theorem mc {α : Type} {l : List α} {i : Nat} {x : α} (h : l[i]? = some x) : l.set i x = l := by
 apply dv
 intro j
 by_cases hj : i = j
 ·subst hj
  rw [aO (aq.1 h).1, h]
 ·rw [aE hj]
theorem rK {x y : Int} : ke (zi x) 0 2 (zi y) = some (zi y) := lX
theorem ff.eU {ρ : ar} {lo : Nat} : ∀ {cs : List CV} {M : List (List Int)}, cs.length = M.length → (∀ (j : Nat) (r : List Int), M[j]? = some r → ∃ b, cs[j]? = some (.own b 0 r.length) ∧ lo ≤ b ∧ ρ[b]? = some (.prow 2 (zr r))) → eU ρ cs = some (zm M)
 | [], [], _, _ => rfl
 | [], _ :: _, h, _ => by simp at h
 | _ :: _, [], h, _ => by simp at h
 | c :: cs, r :: M, h, hr => by
   obtain ⟨b, h1, _, h3⟩ := hr 0 r rfl
   simp at h1
   subst h1
   have ih := ff.eU (ρ := ρ) (lo := lo) (cs := cs) (M := M) (by simpa using h) fun j s hs => hr (j + 1) s hs
   simp only [Vpi.eU, e9 h3 dB.symm, ih, aH]
   rfl
theorem nh {j : Nat} : ∀ {cs : List CV} {σ : ar}, (∀ c, c ∈ cs → ∀ b o n, c = .own b o n → b ≠ j) → (eE σ cs)[j]? = σ[j]?
 | [], σ, _ => rfl
 | c :: cs, σ, h => by
   show (eE (gi σ c) cs)[j]? = _
   rw [nh fun c' hc' => h c' (dK _ hc')]
   cases c <;> try rfl
   exact bC (h _ (dj ..) _ _ _ rfl)
theorem kY : ∀ {cs : List CV} {σ : ar}, (eE σ cs).length = σ.length
 | [], σ => rfl
 | c :: cs, σ => by
   show (eE (gi σ c) cs).length = _
   rw [kY]
   cases c <;> try rfl
   exact ay ..
theorem ff.apart {ρ : ar} {lo j s : Nat} {cs xs : List CV} {M : List (List Int)} (h : ff ρ lo cs M) (hj : ρ[j]? = some (.kblk s xs)) : ∀ c, c ∈ cs → ∀ b o n, c = .own b o n → b ≠ j := by
 rintro c hc b o n rfl rfl
 obtain ⟨i, hi⟩ := List.getElem?_of_mem hc
 have hil : i < M.length := by rw [← h.len]; exact (aq.1 hi).1
 obtain ⟨b', g1, _, g3⟩ := h.own i M[i] (by simp [hil])
 rw [hi] at g1
 cases g1
 rw [hj] at g3
 cases g3
theorem ff.xY {ρ : ar} {lo j s : Nat} {cs xs : List CV} {M : List (List Int)} (h : ff ρ lo cs M) (hj : ρ[j]? = some (.kblk s xs)) : (cs.flatMap eA).elem j = false := by
 rw [Bool.eq_false_iff]
 intro he
 have hm := List.elem_iff.1 he
 obtain ⟨c, hc, hb⟩ := List.mem_flatMap.1 hm
 cases c <;> simp [eA] at hb
 exact h.apart hj _ hc _ _ _ rfl hb.symm
section
variable {rp : cg} {rs : List dH} {base : Nat} {d : Option Nat} {l : List LOp} {dr : Dr} {ks : List KI} {e : Env} {ρ : ar} {Q : CV → ar → Prop} {c : CV} {sz : Nat} {es xs : List PV}
theorem zW {a a' : Blk} {s x : Opd} {bytes : Nat} (h : GL ρ sz c es) (hc : (es.length + xs.length) * bytes ≤ 140737488355328) (hs : vl e s = c) (hx : vl e x = .own (ρ.length + 2) 0 xs.length) (hz : dE sz xs = true) :
 ExR rp rs base (⟨d, none, none, .append sz bytes s x⟩ :: l) dr ks e (ρ ++ [a, a', .prow sz xs]) Q = ExR rp rs base l dr ks (sto d (.own (ρ.length + 3) 0 (es.length + xs.length)) e) (nd ρ c ++ [a, a', .prow sz xs, .prow sz (es ++ xs)]) Q := by
 have hl : (ρ ++ [a, a']).length = ρ.length + 2 := by simp
 have := ia (rp := rp) (rs := rs) (base := base) (d := d) (l := l) (dr := dr) (ks := ks) (e := e) (Q := Q) (s := s) (x := x) (h.left (τ := [a, a'])) hc hs (by rw [hl]; exact hx) hz
 rw [hl, mF h, aP, aP] at this
 exact this
theorem GL.kb {j s : Nat} {cs : List CV} (h : GL ρ sz c es) (hj : ρ[j]? = some (.kblk s cs)) {l : ar} : (nd ρ c ++ l)[j]? = some (.kblk s cs) := by
 have hl := (aq.1 hj).1
 rw [aL (by rw [c7]; exact hl)]
 have hn := VBn.GL.nek h hj
 cases c <;> try exact hj
 exact (bC (hn _ _ _ rfl)).trans hj
end
structure Bx (A : List CV) (G : Int) (τ : ar) : Prop where
 h0 : τ[0]? = some (.kblk 2 A)
 h1 : τ[1]? = some (.kblk 2 [.p (.bool false), .nils])
 h2 : τ[2]? = some (.kblk 2 (cz G))
 wf : Wf τ
structure By (A : List CV) (G : Int) (k : Nat) (cs : List CV) (lo : Nat) (M : List (List Int)) (τ : ar) : Prop where
 h0 : τ[0]? = some (.kblk 2 A)
 h1 : τ[1]? = some (.kblk 2 [.p (.bool false), .nils])
 h2 : τ[2]? = some (.kblk 2 (cz G))
 hk : τ[k]? = some (.kblk 1 cs)
 rows : ff τ lo cs M
theorem n95 {c : CV} {σ : ar} {Q : CV → ar → Prop} (h : Q (.fn 50 [.ptr σ.length 0 0]) (σ ++ [.kblk 1 [c]])) (hc : (∃ l, c = .p (.sl l)) ∨ ∃ b o n, c = .own b o n) : Rn rp 17 [c] σ Q := by
 rw [ew rp95]
 rcases hc with ⟨v, rfl⟩ | ⟨b, o, n, rfl⟩
 ·simp only [f17, aJ, SB, ak, aj, ↓reduceIte, reduceCtorEq, ai, ab, ah, ae, aa, af]
  exact h
 ·simp only [f17, aJ, SB, ak, aj, ↓reduceIte, reduceCtorEq, ai, ab, ah, ae, aa, af]
  exact h
end Go.Proofs.YtdieenbfdeaffabGreat.VDd
namespace Go.Proofs.YtdieenbfdeaffabGreat.Gs
theorem iH {c : Rat} {f : Nat → Rat} : ∀ {n : Nat}, bz (fun r => c * f r) n = c * bz f n
 | 0 => by simp only [bz]; grind
 | n + 1 => by
   simp only [bz]
   rw [iH]
   grind
theorem oe {f g : Nat → Rat} : ∀ {n : Nat}, bz (fun r => f r + g r) n = bz f n + bz g n
 | 0 => by simp only [bz]; grind
 | n + 1 => by
   simp only [bz]
   rw [oe]
   grind
theorem lB {f : Nat → Rat} : ∀ {n : Nat}, bz f (n + 1) = f 0 + bz (fun r => f (r + 1)) n
 | 0 => by simp only [bz]; grind
 | n + 1 => by
   rw [bz, lB, bz]
   grind
theorem kQ {f : Nat → Nat → Rat} {m : Nat} : ∀ {n : Nat}, bz (fun r => bz (fun k => f r k) m) n = bz (fun k => bz (fun r => f r k) n) m
 | 0 => by
   simp only [bz]
   rw [im fun _ _ => rfl]
 | n + 1 => by
   simp only [bz]
   rw [kQ, ← oe]
theorem AP : ∀ {n : Nat}, sg n * sg n = 1
 | 0 => by simp only [sg]; grind
 | n + 1 => by
   have := AP (n := n)
   simp only [sg]
   grind
def top (v : Nat → Rat) (B : Nat → Nat → Rat) : Nat → Nat → Rat
 | 0, q => v q
 | r + 1, q => B r q
theorem qA {p : Nat} : sk 0 p = p + 1 := by unfold sk; rw [if_neg (by omega)]
theorem rU {r : Nat} : sk (r + 1) 0 = 0 := by unfold sk; rw [if_pos (by omega)]
theorem uZ {r p : Nat} : sk (r + 1) (p + 1) = sk r p + 1 := by unfold sk; split <;> split <;> omega
theorem ra : ∀ {n : Nat} {v : Nat → Rat} {B : Nat → Nat → Rat}, det (n + 1) (top v B) = bz (fun k => sg k * v k * det n fun p q => B p (sk k q)) (n + 1)
 | 0, v, B => by simp only [det, bz, top]
 | n + 1, v, B => by
   rw [det, lB]
   conv => rhs; rw [lB]
   have e0 : (fun p q => top v B (sk 0 p) (q + 1)) = fun p q => B p (sk 0 q) := by
    funext p q
    rw [qA, qA]; rfl
   have e1 : ∀ r, (fun p q => top v B (sk (r + 1) p) (q + 1)) = top (fun q => v (q + 1)) fun p q => B (sk r p) (q + 1) := by
    intro r
    funext p q
    cases p with
    | zero => rw [rU]; rfl
    | succ p => rw [uZ]; rfl
   rw [e0]
   show sg 0 * v 0 * _ + bz (fun r => sg (r + 1) * B r 0 * det (n + 1) fun p q => top v B (sk (r + 1) p) (q + 1)) (n + 1) = _
   congr 1
   have l : (fun r => sg (r + 1) * B r 0 * det (n + 1) fun p q => top v B (sk (r + 1) p) (q + 1)) = fun r => bz (fun k => sg (r + 1) * B r 0 * (sg k * v (k + 1) * det n fun p q => B (sk r p) (sk k q + 1))) (n + 1) := by
    funext r
    rw [e1, ra, iH]
   have rr : (fun k => sg (k + 1) * v (k + 1) * det (n + 1) fun p q => B p (sk (k + 1) q)) = fun k => bz (fun r => sg (r + 1) * B r 0 * (sg k * v (k + 1) * det n fun p q => B (sk r p) (sk k q + 1))) (n + 1) := by
    funext k
    rw [det, ← iH]
    refine cG fun r hr => ?_
    simp only [rU, uZ, sg]
    grind
   rw [l, rr, kQ]
theorem yP {n : Nat} : ∀ {i : Nat} {A : Nat → Nat → Rat}, i < n + 1 → det (n + 1) (top (A i) fun p => A (sk i p)) = sg i * det (n + 1) A
 | 0, A, _ => by
   have e : (top (A 0) fun p => A (sk 0 p)) = A := by
    funext r q
    cases r with
    | zero => rfl
    | succ r => show A (sk 0 r) q = _; rw [qA]
   rw [e, sg]; grind
 | i + 1, A, hi => by
   have h := yP (n := n) (i := i) (A := put (put A i (A (i + 1))) (i + 1) (A i)) (by omega)
   have e : (top (put (put A i (A (i + 1))) (i + 1) (A i) i) fun p => put (put A i (A (i + 1))) (i + 1) (A i) (sk i p)) = top (A (i + 1)) fun p => A (sk (i + 1) p) := by
    funext r q
    cases r with
    | zero => show put (put A i (A (i + 1))) (i + 1) (A i) i q = A (i + 1) q; rw [cy (by omega), dc]
    | succ r =>
      show put (put A i (A (i + 1))) (i + 1) (A i) (sk i r) q = A (sk (i + 1) r) q
      unfold sk
      by_cases h1 : r < i
      ·rw [if_pos h1, if_pos (by omega), cy (by omega), cy (by omega)]
      ·rw [if_neg h1]
       by_cases h2 : r = i
       ·subst h2
        rw [if_pos (by omega), dc]
       ·rw [if_neg (by omega), cy (by omega), cy (by omega)]
   rw [e, o4 (by omega)] at h
   rw [h, sg]
   grind
def cof (n : Nat) (A : Nat → Nat → Rat) (i k : Nat) : Rat := sg i * sg k * det n fun p q => A (sk i p) (sk k q)
theorem lap {n i : Nat} {A : Nat → Nat → Rat} {v : Nat → Rat} (hi : i < n + 1) : det (n + 1) (put A i v) = bz (fun k => v k * cof n A i k) (n + 1) := by
 have h := yP (A := put A i v) hi
 have e : (top (put A i v i) fun p => put A i v (sk i p)) = top v fun p => A (sk i p) := by
  funext r q
  cases r with
  | zero => show put A i v i q = v q; rw [dc]
  | succ r => show put A i v (sk i r) q = A (sk i r) q; rw [cy wZ]
 rw [e, ra] at h
 have h2 : det (n + 1) (put A i v) = sg i * (sg i * det (n + 1) (put A i v)) := by
  have := AP (n := i)
  grind
 rw [h2, ← h, ← iH]
 refine cG fun k hk => ?_
 unfold cof
 grind
theorem o5 {n : Nat} : ∀ {d p : Nat} {A : Nat → Nat → Rat}, p + d + 1 < n → (∀ q, A p q = A (p + d + 1) q) → det n A = 0
 | 0, p, A, hp, h => mP (p := p) hp h
 | d + 1, p, A, hp, h => by
   have h1 := o4 (A := A) (p := p) (n := n) (by omega)
   rw [o5 (d := d) (p := p + 1) (A := put (put A p (A (p + 1))) (p + 1) (A p)) (by omega) (fun q => by
    rw [dc, cy (by omega), cy (by omega), show p + 1 + d + 1 = p + (d + 1) + 1 by omega]; exact h q)] at h1
   grind
theorem o6 {n i j : Nat} {A : Nat → Nat → Rat} (hi : i < n) (hj : j < n) (hne : i ≠ j) (h : ∀ q, A i q = A j q) : det n A = 0 := by
 rcases ax i j with h1 | h1
 ·exact o5 (d := j - i - 1) (p := i) (by omega) fun q => by rw [show i + (j - i - 1) + 1 = j by omega]; exact h q
 ·exact o5 (d := i - j - 1) (p := j) (by omega) fun q => by rw [show j + (i - j - 1) + 1 = i by omega]; exact (h q).symm
theorem vN {n i j : Nat} {A : Nat → Nat → Rat} (hi : i < n + 1) (hj : j < n + 1) : bz (fun k => A j k * cof n A i k) (n + 1) = if i = j then det (n + 1) A else 0 := by
 rw [← lap hi]
 by_cases h : i = j
 ·subst h
  rw [if_pos rfl]
  refine fb fun p q _ _ => ?_
  by_cases h : p = i
  ·subst h; rw [dc]
  ·rw [cy h]
 ·rw [if_neg h]
  exact o6 (i := i) (j := j) hi hj h fun q => by rw [dc, cy (Ne.symm h)]
theorem BC {A : Nat → Nat → Rat} : A = top (A 0) fun p => A (p + 1) := by
 funext r q
 cases r <;> rfl
theorem uC : ∀ {n : Nat} {A : Nat → Nat → Rat}, det n (fun p q => A q p) = det n A
 | 0, _ => rfl
 | n + 1, A => by
   conv => rhs; rw [BC (A := A), ra]
   rw [det]
   refine cG fun r hr => ?_
   rw [show (fun p q => A (q + 1) (sk r p)) = fun p q => (fun q p => A (q + 1) (sk r p)) q p from rfl, uC (A := fun q p => A (q + 1) (sk r p))]
theorem yS {n i k : Nat} {A : Nat → Nat → Rat} : cof n (fun p q => A q p) i k = cof n A k i := by
 unfold cof
 rw [show (fun p q => A (sk k q) (sk i p)) = fun p q => (fun p q => A (sk k p) (sk i q)) q p from rfl, uC (A := fun p q => A (sk k p) (sk i q))]
 grind
theorem vO {n k l : Nat} {A : Nat → Nat → Rat} (hk : k < n + 1) (hl : l < n + 1) : bz (fun i => A i l * cof n A i k) (n + 1) = if l = k then det (n + 1) A else 0 := by
 have h := vN (A := fun p q => A q p) hk hl
 rw [uC] at h
 have e : (fun i => A i l * cof n A i k) = fun i => A i l * cof n (fun p q => A q p) k i := by
  funext i; rw [yS]
 rw [e, h]
 by_cases h1 : l = k
 ·rw [if_pos h1, if_pos h1.symm]
 ·rw [if_neg h1, if_neg (Ne.symm h1)]
theorem Cn {n k : Nat} {A : Nat → Nat → Rat} {c t : Nat → Rat} (hk : k < n + 1) (h : ∀ i, i < n + 1 → bz (fun l => A i l * c l) (n + 1) = t i) : det (n + 1) A * c k = bz (fun i => t i * cof n A i k) (n + 1) := by
 have e : bz (fun i => t i * cof n A i k) (n + 1) = bz (fun i => bz (fun l => A i l * c l * cof n A i k) (n + 1)) (n + 1) := cG fun i hi => by
  rw [← h i hi]
  have := iH (c := cof n A i k) (f := fun l => A i l * c l) (n := n + 1)
  rw [Rat.mul_comm, ← this]
  refine cG fun l _ => ?_
  grind
 rw [e, kQ]
 have e2 : bz (fun l => bz (fun i => A i l * c l * cof n A i k) (n + 1)) (n + 1) = bz (fun l => c l * if l = k then det (n + 1) A else 0) (n + 1) := cG fun l hl => by
  rw [← vO hk hl, ← iH]
  refine cG fun i _ => ?_
  grind
 rw [e2]
 have key : ∀ (m : Nat), k < m → bz (fun l => c l * if l = k then det (n + 1) A else 0) m = det (n + 1) A * c k := by
  intro m
  induction m with
  | zero => intro h; omega
  | succ m ih =>
    intro h
    rw [bz]
    by_cases h1 : m = k
    ·subst h1
     rw [im fun r hr => by rw [if_neg (by omega)]; grind, if_pos rfl]
     grind
    ·rw [ih (by omega), if_neg h1]
     grind
 exact (key _ hk).symm
def swp (p r i : Nat) : Nat := if i = p then r else if i = r then p else i
theorem tW {p r i n : Nat} (hp : p < n) (hr : r < n) (hi : i < n) : swp p r i < n := by unfold swp; split; omega; split <;> omega
theorem BE {p r i k : Nat} (hp : k ≤ p) (hr : k ≤ r) (hi : k ≤ i) : k ≤ swp p r i := by unfold swp; split; omega; split <;> omega
theorem qw {p r i k : Nat} (hp : k ≤ p) (hr : k ≤ r) (hi : i < k) : swp p r i = i := by unfold swp; rw [if_neg (by omega), if_neg (by omega)]
theorem Ap {n p r : Nat} {A : Nat → Nat → Rat} (hp : p < n) (hr : r < n) (hne : p ≠ r) : det n (fun i q => A (swp p r i) q) = - det n A := by
 have hz : ∀ x : Nat → Rat, det n (put (put A p x) r x) = 0 := fun x => o6 (i := p) (j := r) hp hr hne fun q => by rw [cy hne, dc, dc]
 have l1 : ∀ x y z : Nat → Rat, det n (put (put A p fun q => x q + y q) r z) = det n (put (put A p x) r z) + 1 * det n (put (put A p y) r z) := fun x y z =>
  kZ (p := p) hp (fun q => by
   simp only [put, if_neg hne, if_true]
   grind) (fun s q hs => by
   by_cases h : s = r
   ·subst h; rw [dc, dc, dc]; exact ⟨rfl, rfl⟩
   ·rw [cy h, cy h, cy h, cy hs, cy hs, cy hs]; exact ⟨rfl, rfl⟩)
 have l2 : ∀ x y z : Nat → Rat, det n (put (put A p z) r fun q => x q + y q) = det n (put (put A p z) r x) + 1 * det n (put (put A p z) r y) := fun x y z =>
  kZ (p := r) hr (fun q => by rw [dc, dc, dc]; grind) (fun s q hs => by rw [cy hs, cy hs, cy hs]; exact ⟨rfl, rfl⟩)
 have k := hz fun q => A p q + A r q
 rw [l1, l2, l2, hz, hz] at k
 have e : det n (put (put A p (A p)) r (A r)) = det n A := fb fun s q _ _ => by
  by_cases h : s = r
  ·subst h; rw [dc]
  ·rw [cy h]
   by_cases h' : s = p
   ·subst h'; rw [dc]
   ·rw [cy h']
 have e2 : det n (put (put A p (A r)) r (A p)) = det n (fun i q => A (swp p r i) q) := fb fun s q _ _ => by
  unfold swp
  by_cases h : s = r
  ·subst h; rw [dc, if_neg (Ne.symm hne), if_pos rfl]
  ·rw [cy h]
   by_cases h' : s = p
   ·subst h'; rw [dc, if_pos rfl]
   ·rw [cy h', if_neg h', if_neg h]
 rw [e, e2] at k
 grind
theorem mO : ∀ {k n : Nat} {g : Nat → Nat → Rat}, k ≤ n → (∀ t, t < k → U g t t t ≠ 0) → det n g = Dk g k * det (n - k) fun p q => U g k (p + k) (q + k)
 | 0, n, g, _, _ => by simp only [Dk, U, bw, Nat.sub_zero]; grind
 | k + 1, 0, g, h, _ => by omega
 | k + 1, n + 1, g, h, hp => by
   have h0 : g 0 0 ≠ 0 := hp 0 (by omega)
   rw [te h0, show (fun p q => g (p + 1) (q + 1) - g (p + 1) 0 * g 0 (q + 1) / g 0 0) = nx g from rfl,
    mO (k := k) (n := n) (g := nx g) (by omega) (fun t ht => by rw [← rz]; exact hp (t + 1) (by omega)), zh, show n + 1 - (k + 1) = n - k by omega]
   have e : (fun p q => U (nx g) k (p + k) (q + k)) = fun p q => U g (k + 1) (p + (k + 1)) (q + (k + 1)) := by
    funext p q
    rw [← rz]; rfl
   rw [e]
   grind
theorem pq {g : Nat → Nat → Rat} {p r k : Nat} (hp : k ≤ p) (hr : k ≤ r) : ∀ {m i j : Nat}, m ≤ k → U (fun i q => g (swp p r i) q) m i j = U g m (swp p r i) j
 | 0, _, _, _ => rfl
 | m + 1, i, j, h => by
   have e : swp p r m = m := qw hp hr (by omega)
   rw [U, U, pq hp hr (by omega), pq hp hr (by omega), pq hp hr (by omega), pq hp hr (by omega), e]
theorem uL {g : Nat → Nat → Rat} {p r k : Nat} (hp : k ≤ p) (hr : k ≤ r) : ∀ {m : Nat}, m ≤ k → Dk (fun i q => g (swp p r i) q) m = Dk g m
 | 0, _ => rfl
 | m + 1, h => by
   rw [Dk, Dk, uL hp hr (by omega), pq hp hr (by omega), qw hp hr (by omega)]
structure Pv (g : Nat → Nat → Int) (n r : Nat) (W : Nat → Nat → Int) (last : Int) : Prop where
 piv : ∀ t, t < r → U (rg g) t t t ≠ 0
 lst : (last : Rat) = Dk (rg g) r
 w : ∀ i j, r ≤ i → i < n → r ≤ j → j < n → (W i j : Rat) = Dk (rg g) r * U (rg g) r i j
theorem zj {g : Nat → Nat → Rat} : ∀ {r : Nat}, (∀ t, t < r → U g t t t ≠ 0) → Dk g r ≠ 0
 | 0, _ => by simp only [Dk]; grind
 | r + 1, h => by
   have h1 := zj (r := r) fun t ht => h t (by omega)
   have h2 := h r (by omega)
   simp only [Dk]
   grind
section
variable {g : Nat → Nat → Int} {n r : Nat} {W : Nat → Nat → Int} {last : Int}
theorem Pv.start : Pv g n 0 g 1 := ⟨fun t h => by omega, rfl, fun i j _ _ _ _ => by simp only [Dk, U, rg]; grind⟩
theorem Pv.ne (h : Pv g n r W last) : last ≠ 0 := fun h0 => zj h.piv (by rw [← h.lst, h0]; rfl)
theorem Pv.swap {p : Nat} (h : Pv g n r W last) (hp : r ≤ p) (hpn : p < n) : Pv (fun i q => g (swp p r i) q) n r (fun i q => W (swp p r i) q) last := by
 have e : rg (fun i q => g (swp p r i) q) = fun i q => rg g (swp p r i) q := rfl
 refine ⟨fun t ht => ?_, ?_, fun i j h1 h2 h3 h4 => ?_⟩
 ·rw [e, pq hp (av r) (by omega), qw hp (av r) ht]
  exact h.piv t ht
 ·rw [e, uL hp (av r) (av r)]
  exact h.lst
 ·rw [e, uL hp (av r) (av r), pq hp (av r) (av r)]
  exact h.w _ _ (BE hp (av r) h1) (tW hpn (by omega) h2) h3 h4
theorem Pv.BW (h : Pv g n r W last) (hr : r < n) (h0 : W r r ≠ 0) : ∀ t, t < r + 1 → U (rg g) t t t ≠ 0 := by
 intro t ht
 rcases ax t r with h1 | h1
 ·exact h.piv t h1
 ·obtain rfl : t = r := by omega
  intro h2
  have := h.w t t (av _) hr (av _) hr
  rw [h2] at this
  apply h0
  have h3 : ((W t t : Int) : Rat) = ((0 : Int) : Rat) := by rw [this]; show _ = (0 : Rat); grind
  exact eT.1 h3
theorem Pv.whole (h : Pv g n r W last) (hr : r < n) (h0 : W r r ≠ 0) {i j : Nat} (hi : r < i) (hin : i < n) (hj : r < j) (hjn : j < n) :
 ∃ q : Int, W r r * W i j - W i r * W r j = q * last ∧ (q : Rat) = Dk (rg g) (r + 1) * U (rg g) (r + 1) i j := by
 have e := yQ (g := rg g) (k := r + 1) (i := i) (j := j) hi hj (h.BW hr h0)
 obtain ⟨x, hx, -⟩ := In.det (n := r + 1 + 1) (A := fun p q => rg g (ro (r + 1) i p) (ro (r + 1) j q)) (M := mx2 (fun p q => (g (ro (r + 1) i p) (ro (r + 1) j q)).natAbs) (r + 1 + 1) (r + 1 + 1)) fun p q hp hq => ⟨_, rfl, qT (f := fun p q => (g (ro (r + 1) i p) (ro (r + 1) j q)).natAbs) hp hq⟩
 refine ⟨x, ?_, by rw [← hx, e]⟩
 apply eT.1
 have h1 := h.w r r (av _) hr (av _) hr
 have h2 := h.w i j (by omega) hin (by omega) hjn
 have h3 := h.w i r (by omega) hin (av _) hr
 have h4 := h.w r j (av _) hr (by omega) hjn
 have h5 := h.BW hr h0 r (by omega)
 rw [Rat.intCast_sub, dA, dA, dA, ← hx, e, h.lst, h1, h2, h3, h4, Dk, U]
 grind
theorem Pv.next {W' : Nat → Nat → Int} (h : Pv g n r W last) (hr : r < n) (h0 : W r r ≠ 0) (hw : ∀ i j, r < i → i < n → r < j → j < n → W r r * W i j - W i r * W r j = W' i j * last) : Pv g n (r + 1) W' (W r r) := by
 refine ⟨h.BW hr h0, ?_, fun i j h1 h2 h3 h4 => ?_⟩
 ·rw [Dk]; exact h.w r r (av _) hr (av _) hr
 ·obtain ⟨q, e1, e2⟩ := h.whole hr h0 (by omega : r < i) h2 (by omega : r < j) h4
  rw [hw i j (by omega) h2 (by omega) h4] at e1
  rw [Int.eq_of_mul_eq_mul_right h.ne e1]
  exact e2
theorem Pv.stop (h : Pv g n r W last) (hr : r < n) (h0 : ∀ i, r ≤ i → i < n → W i r = 0) : det n (rg g) = 0 := by
 rw [mO (k := r) (by omega) h.piv]
 have e : det (n - r) (fun p q => U (rg g) r (p + r) (q + r)) = 0 := by
  obtain ⟨m, hm⟩ : ∃ m, n - r = m + 1 := ⟨n - r - 1, by omega⟩
  rw [hm, det]
  refine im fun s hs => ?_
  have h1 := h.w (s + r) r (by omega) (by omega) (av _) hr
  rw [h0 _ (by omega) (by omega)] at h1
  have h2 := zj h.piv
  have h3 : U (rg g) r (s + r) r = 0 := by
   have : (0 : Rat) = Dk (rg g) r * U (rg g) r (s + r) r := h1
   grind
  simp only [d8, h3]
  grind
 rw [e]; grind
theorem Pv.done (h : Pv g n n W last) : det n (rg g) = last := by
 rw [mO (k := n) (av n) h.piv, eI, h.lst, det]
 grind
end
theorem Aq {n : Nat} {g : Nat → Nat → Int} : ∃ x : Int, det n (rg g) = x := by
 obtain ⟨x, hx, -⟩ := In.det (n := n) (A := rg g) (M := mx2 (fun p q => (g p q).natAbs) n n) fun p q hp hq => ⟨_, rfl, qT (f := fun p q => (g p q).natAbs) hp hq⟩
 exact ⟨x, hx⟩
def dI (n : Nat) (g : Nat → Nat → Int) : Int := (det n (rg g)).num
theorem tg {n : Nat} {g : Nat → Nat → Int} : (dI n g : Rat) = det n (rg g) := by
 obtain ⟨x, hx⟩ := Aq (n := n) (g := g)
 unfold dI
 rw [hx]; rfl
theorem tf {n : Nat} {g : Nat → Nat → Int} {x : Int} (h : det n (rg g) = x) : dI n g = x := by
 unfold dI
 rw [h]; rfl
def cI (n : Nat) (g : Nat → Nat → Int) (i k : Nat) : Int := (if (i + k) % 2 = 1 then -1 else 1) * dI n fun p q => g (sk i p) (sk k q)
theorem xw : ∀ {n : Nat}, sg n = if n % 2 = 1 then -1 else 1
 | 0 => rfl
 | n + 1 => by
   rw [sg, xw]
   by_cases h : n % 2 = 1
   ·rw [if_pos h, if_neg (by omega)]; grind
   ·rw [if_neg h, if_pos (by omega)]
theorem xx {i : Nat} : ∀ {k : Nat}, sg i * sg k = sg (i + k)
 | 0 => by simp only [sg, bw]; grind
 | k + 1 => by
   rw [← dh, sg, sg, ← xx]
   grind
theorem tl {n i k : Nat} {g : Nat → Nat → Int} : (cI n g i k : Rat) = cof n (rg g) i k := by
 unfold cI cof
 rw [dA, tg, xx, xw]
 by_cases h : (i + k) % 2 = 1
 ·rw [if_pos h, if_pos h]; rfl
 ·rw [if_neg h, if_neg h]; rfl
def bU (f : Nat → Int) : Nat → Int
 | 0 => 0
 | n + 1 => bU f n + f n
theorem kS {f : Nat → Int} : ∀ {n : Nat}, (bU f n : Rat) = bz (fun k => (f k : Rat)) n
 | 0 => rfl
 | n + 1 => by rw [bU, bz, Rat.intCast_add, kS]
theorem cT {f g : Nat → Int} : ∀ {n : Nat}, (∀ r, r < n → f r = g r) → bU f n = bU g n
 | 0, _ => rfl
 | n + 1, h => by
   simp only [bU]
   rw [cT fun r hr => h r (Nat.lt_succ_of_lt hr), h n (bO n)]
theorem kH {n i j : Nat} {g : Nat → Nat → Int} (hi : i < n + 1) (hj : j < n + 1) : bU (fun k => g j k * cI n g i k) (n + 1) = if i = j then dI (n + 1) g else 0 := by
 apply eT.1
 rw [kS]
 have h := vN (A := rg g) hi hj
 have e : (fun k => ((g j k * cI n g i k : Int) : Rat)) = fun k => rg g j k * cof n (rg g) i k := by
  funext k
  rw [dA, tl]; rfl
 rw [e, h]
 by_cases h1 : i = j
 ·rw [if_pos h1, if_pos h1, tg]
 ·rw [if_neg h1, if_neg h1]; rfl
theorem tN {n k l : Nat} {g : Nat → Nat → Int} (hk : k < n + 1) (hl : l < n + 1) : bU (fun i => g i l * cI n g i k) (n + 1) = if l = k then dI (n + 1) g else 0 := by
 apply eT.1
 rw [kS]
 have h := vO (A := rg g) hk hl
 have e : (fun i => ((g i l * cI n g i k : Int) : Rat)) = fun i => rg g i l * cof n (rg g) i k := by
  funext i
  rw [dA, tl]; rfl
 rw [e, h]
 by_cases h1 : l = k
 ·rw [if_pos h1, if_pos h1, tg]
 ·rw [if_neg h1, if_neg h1]; rfl
theorem Cm {n p r : Nat} {g : Nat → Nat → Int} (hp : p < n) (hr : r < n) (hne : p ≠ r) : dI n (fun i q => g (swp p r i) q) = - dI n g := by
 apply tf
 rw [show rg (fun i q => g (swp p r i) q) = fun i q => rg g (swp p r i) q from rfl, Ap hp hr hne, Rat.intCast_neg, tg]
theorem Bc {n : Nat} {g : Nat → Nat → Int} (hs : ∀ i j, g i j = g j i) (hp : Pos g n) : dI n g = Dv g n := by
 have G := j4 hs (M := 0) hp
 apply tf
 rw [mO (k := n) (av n) fun t ht => by have := G.piv t ht; grind, eI, det, G.d]
 grind
section
variable {n : Nat} {mu : Nat → Nat → Rat} {star : Nat → Rat} {G : Nat → Nat → Rat} {al c t : Nat → Rat}
def fW (mu : Nat → Nat → Rat) (i k : Nat) : Rat := if k < i then mu i k else if k = i then 1 else 0
theorem rQ {f : Nat → Rat} {m : Nat} : ∀ {n : Nat}, m ≤ n → bz (fun k => if k < m then f k else 0) n = bz f m
 | 0, h => by
   obtain rfl : m = 0 := by omega
   rfl
 | n + 1, h => by
   by_cases h1 : m = n + 1
   ·subst h1
    exact cG fun r hr => by rw [if_pos hr]
   ·rw [bz, rQ (n := n) (by omega), if_neg (by omega)]
    grind
theorem uW {f : Nat → Rat} {m : Nat} : ∀ {n : Nat}, m < n → bz (fun k => if k = m then f k else 0) n = f m
 | 0, h => by omega
 | n + 1, h => by
   rw [bz]
   by_cases h1 : m = n
   ·subst h1
    rw [im fun r hr => by rw [if_neg (by omega)], if_pos rfl]
    grind
   ·rw [uW (n := n) (by omega), if_neg (by omega)]
    grind
theorem sD {x : Nat → Rat} {i : Nat} (hi : i < n) : bz (fun k => fW mu i k * x k) n = bz (fun k => mu i k * x k) i + x i := by
 have e : (fun k => fW mu i k * x k) = fun k => (if k < i then mu i k * x k else 0) + (if k = i then x k else 0) := by
  funext k
  unfold fW
  by_cases h1 : k < i
  ·rw [if_pos h1, if_pos h1, if_neg (by omega)]; grind
  ·rw [if_neg h1, if_neg h1]
   by_cases h2 : k = i
   ·rw [if_pos h2, if_pos h2]; grind
   ·rw [if_neg h2, if_neg h2]; grind
 rw [e, oe, rQ (by omega), uW hi]
theorem yr (hs : ∀ i l, G i l = G l i) (hG : ∀ i l, l ≤ i → i < n → G i l = bz (fun k => mu i k * mu l k * star k) l + fW mu i l * star l) {i l : Nat} (hi : i < n) (hl : l < n) :
 G i l = bz (fun k => fW mu i k * (fW mu l k * star k)) n := by
 have main : ∀ i l, l ≤ i → i < n → G i l = bz (fun k => fW mu i k * (fW mu l k * star k)) n := by
  intro i l h hi
  have e : (fun k => fW mu i k * (fW mu l k * star k)) = fun k => fW mu l k * (fW mu i k * star k) := by
   funext k; grind
  rw [e, sD (by omega), hG i l h hi]
  congr 1
  refine cG fun k hk => ?_
  unfold fW
  rw [if_pos (by omega)]
  grind
 rcases Nat.le_total l i with h | h
 ·exact main i l h hi
 ·rw [hs, main l i h hl]
  refine cG fun k _ => ?_
  grind
theorem Cq (hs : ∀ i l, G i l = G l i) (hG : ∀ i l, l ≤ i → i < n → G i l = bz (fun k => mu i k * mu l k * star k) l + fW mu i l * star l) (hst : ∀ k, k < n → star k ≠ 0)
 (hal : ∀ i, i < n → bz (fun j => mu i j * al j) i + al i = t i) (hc : ∀ k, k < n → bz (fun j => fW mu j k * c j) n = al k / star k) :
 ∀ i, i < n → bz (fun l => G i l * c l) n = t i := by
 intro i hi
 have e1 : bz (fun l => G i l * c l) n = bz (fun l => bz (fun k => fW mu i k * (fW mu l k * star k) * c l) n) n := cG fun l hl => by
  rw [yr hs hG hi hl, Rat.mul_comm, ← iH]
  refine cG fun k _ => ?_
  grind
 rw [e1, kQ]
 have e2 : bz (fun k => bz (fun l => fW mu i k * (fW mu l k * star k) * c l) n) n = bz (fun k => fW mu i k * al k) n := cG fun k hk => by
  have h1 := hc k hk
  have h2 := hst k hk
  have h3 : star k * bz (fun j => fW mu j k * c j) n = al k := by rw [h1]; grind
  rw [← h3, ← Rat.mul_assoc, ← iH]
  refine cG fun l _ => ?_
  grind
 rw [e2, sD hi]
 exact hal i hi
theorem xV {k : Nat} (hk : k < n) : bz (fun j => fW mu j k * c j) n = c k + bz (fun j => mu (k + 1 + j) k * c (k + 1 + j)) (n - (k + 1)) := by
 have key : ∀ m, bz (fun j => fW mu j k * c j) (k + 1 + m) = c k + bz (fun j => mu (k + 1 + j) k * c (k + 1 + j)) m := by
  intro m
  induction m with
  | zero =>
    have z : bz (fun j => fW mu j k * c j) k = 0 := im fun r hr => by unfold fW; rw [if_neg (by omega), if_neg (by omega)]; grind
    have o : fW mu k k = 1 := by unfold fW; rw [if_neg (by omega), if_pos rfl]
    show bz (fun j => fW mu j k * c j) k + fW mu k k * c k = c k + 0
    rw [z, o]
    grind
  | succ m ih =>
    rw [← dh, bz, ih, bz]
    have : fW mu (k + 1 + m) k = mu (k + 1 + m) k := by unfold fW; rw [if_pos (by omega)]
    rw [this]
    grind
 have := key (n - (k + 1))
 rwa [show k + 1 + (n - (k + 1)) = n by omega] at this
end
end Go.Proofs.YtdieenbfdeaffabGreat.Gs
namespace Go.Proofs.YtdieenbfdeaffabGreat.VDd
open Go Vpi
open VBn hiding rp tab cV cj mixed sim Big
set_option maxRecDepth 100000
theorem rp204 : rp 90 = some f90 := rfl
theorem rp211 : rp 118 = some f118 := rfl
theorem fl134 {p p' : PV} {x y : Int} (h : Nu p x) (h' : Nu p' y) (hy : y ≠ 0) : ∃ q r, Fl x y q r ∧ Pu VBn.rp 57 [p, p'] (.tup [.p (zi q), .p (zi r), .p (.int .i64 0)]) := by
 have hx := h.sz
 have hys := h'.sz
 have k77y := VBn.p77 h'
 obtain ⟨n1, a, rfl, ha, hna, rfl⟩ := h
 have h'' := h'
 obtain ⟨n2, b, rfl, hb, hnb, rfl⟩ := h'
 have hb0 : val b ≠ 0 := by intro h0; apply hy; unfold iv; rw [h0]; cases n2 <;> rfl
 obtain ⟨q0, r0, eq0, er0, key, qle, rle, rlt, f1, f2, f3⟩ := vB (n1 := n1) (n2 := n2) (A := val a) (B := val b) (x := iv n1 a) (y := iv n2 b) rfl rfl hb0
 rw [cH] at hna hnb
 have k1 := VBn.p159 ha hb (by omega) (by omega) hb0
 have hdq : (dgl (val a / val b)).length ≤ a.length := bE (bQ (Nat.div_le_self _ _) (bR ha))
 have hdr : (dgl (val a % val b)).length ≤ a.length := bE (bQ (Nat.mod_le _ _) (bR ha))
 have kq := VBn.p105 (neg := !(n1 == n2)) (aW (val a / val b)) (by omega)
 have kr := VBn.p105 (neg := n1) (aW (val a % val b)) (by omega)
 simp only [aZ, iR] at kq kr
 rw [← eq0] at kq
 rw [← er0] at kr
 have hqz : Sz q0 := hx.le qle
 have hrz : Sz r0 := hx.le rle
 have k77 := VBn.p77 (Nu.zi hrz)
 have ks := VBn.p157 (Nu.zi hqz) (Nu.zi (x := 1) (Sz.small (by decide)))
 have ka := VBn.p145 (Nu.zi hrz) h''
 have k54 := VBn.p54 (x := 1) (by decide) (by decide)
 rw [bg] at k77 ka
 rw [bg (x := q0)] at ks
 have e0 : ((0 : Int) != 0) = false := rfl
 by_cases h0 : r0.sign = 0
 ·refine ⟨q0, r0, f1 h0, ?_⟩
  refine aY VBn.rp134 ?_
  have e1 : (r0.sign != 0) = false := by rw [h0]; rfl
  simp only [VBn.f57, aJ, SB, ak, aj, ↓reduceIte, reduceCtorEq, ai, ab, ah, ae, aa, af, kp2 k1, bV, e0, kp2 kq, kp2 kr, kp1 k77, e1]
  rw [ez]
  refine ⟨by rfl, ?_⟩
  simp only [SB, ak, aj, ↓reduceIte, reduceCtorEq, ai, ab, ah, ae, aa, af]
  exact dT aQ aQ aQ
 ·have e1 : (r0.sign != 0) = true := by simp [h0]
  by_cases h1 : r0.sign = (iv n2 b).sign
  ·refine ⟨q0, r0, f2 h0 h1, ?_⟩
   refine aY VBn.rp134 ?_
   rw [← h1] at k77y
   simp only [VBn.f57, aJ, SB, ak, aj, ↓reduceIte, reduceCtorEq, ai, ab, ah, ae, aa, af, kp2 k1, bV, e0, kp2 kq, kp2 kr, kp1 k77, e1, kp1 k77y, bne_self_eq_false]
   rw [ez]
   refine ⟨by rfl, ?_⟩
   simp only [SB, ak, aj, ↓reduceIte, reduceCtorEq, ai, ab, ah, ae, aa, af]
   exact dT aQ aQ aQ
  ·refine ⟨q0 - 1, r0 + iv n2 b, f3 h0 h1, ?_⟩
   refine aY VBn.rp134 ?_
   have e2 : (r0.sign != (iv n2 b).sign) = true := by simp [h1]
   simp only [VBn.f57, aJ, SB, ak, aj, ↓reduceIte, reduceCtorEq, ai, ab, ah, ae, aa, af, kp2 k1, bV, e0, kp2 kq, kp2 kr, kp1 k77, e1, kp1 k77y, e2, kp1 k54, kp2 ks, kp2 ka]
   rw [ez]
   refine ⟨by rfl, ?_⟩
   simp only [SB, ak, aj, ↓reduceIte, reduceCtorEq, ai, ab, ah, ae, aa, af]
   exact dT aQ aQ aQ
theorem p204 {p : PV} {x : Int} (h : Nu p x) : Pu rp 90 [p] (.p (zi (x.natAbs : Int))) := by
 obtain ⟨n1, a, rfl, ha, hna, rfl⟩ := h
 rw [cH] at hna
 have k := (VBn.p105 (neg := false) ha (by omega)).lift aX
 rw [mk_val, show iv false a = ((iv n1 a).natAbs : Int) by rw [iM]; rfl] at k
 refine aY rp204 ?_
 simp only [f90, aJ, SB, ak, aj, ↓reduceIte, reduceCtorEq, ai, ab, ah, ae, aa, af, kp2 k]
 rfl
def zF (n : Nat) (f : Nat → Int) : List PV := (ca n).map fun j => zi (f j)
def zM (m n : Nat) (W : Nat → Nat → Int) : List PV := (ca m).map fun i => .sl (zF n (W i))
theorem b7 {n : Nat} {f : Nat → Int} : (zF n f).length = n := by simp [zF]
theorem d6 {m n : Nat} {W : Nat → Nat → Int} : (zM m n W).length = m := by simp [zM]
theorem dV {n j : Nat} {f : Nat → Int} (h : j < n) : (zF n f)[j]? = some (zi (f j)) := by simp [zF, h]
theorem jo {m n i : Nat} {W : Nat → Nat → Int} (h : i < m) : (zM m n W)[i]? = some (.sl (zF n (W i))) := by simp [zM, h]
theorem iG {n : Nat} {f g : Nat → Int} (h : ∀ j, j < n → f j = g j) : zF n f = zF n g := by
 unfold zF
 refine List.map_congr_left fun j hj => ?_
 rw [h j (List.mem_range.1 hj)]
theorem rG {m n : Nat} {W V : Nat → Nat → Int} (h : ∀ i j, i < m → j < n → W i j = V i j) : zM m n W = zM m n V := by
 unfold zM
 refine List.map_congr_left fun i hi => ?_
 rw [iG fun j hj => h i j (List.mem_range.1 hi) hj]
theorem wI {n j : Nat} {f : Nat → Int} {x : Int} : (zF n f).set j (zi x) = zF n fun k => if k = j then x else f k := by
 apply dv
 intro k
 by_cases hk : k < n
 ·rw [dV hk]
  by_cases hjk : j = k
  ·subst hjk
   rw [aO (by rw [b7]; exact hk), if_pos rfl]
  ·rw [aE hjk, dV hk, if_neg (Ne.symm hjk)]
 ·rw [aG (by rw [ay, b7]; omega), aG (by rw [b7]; omega)]
theorem rH {n : Nat} {f : Nat → Int} : dE 2 (zF n f) = true := by
 unfold dE zF
 rw [aU]
 intro x hx
 obtain ⟨y, _, rfl⟩ := List.mem_map.1 hx
 rfl
theorem AE {n : Nat} {f : Nat → Int} : zF n f = zr ((ca n).map f) := by simp [zF, zr]
theorem lz {n : Nat} {f : Nat → Int} : zF n f ++ [zi (f n)] = zF (n + 1) f := by simp [zF, List.range_succ]
theorem tS {m n : Nat} {W : Nat → Nat → Int} : zM m n W ++ [.sl (zF n (W m))] = zM (m + 1) n W := by simp [zM, List.range_succ]
structure eH (ρ : ar) (cs : List CV) (m n : Nat) (W : Nat → Nat → Int) : Prop where
 len : cs.length = m
 own : ∀ i, i < m → ∃ b, cs[i]? = some (.own b 0 n) ∧ ρ[b]? = some (.prow 2 (zF n (W i)))
 ne : ∀ i j b b' : Nat, i ≠ j → cs[i]? = some (.own b 0 n) → cs[j]? = some (.own b' 0 n) → b ≠ b'
section
variable {ρ τ : ar} {cs : List CV} {m n : Nat} {W V : Nat → Nat → Int}
theorem eH.mono (h : eH ρ cs m n W) (hp : ∀ (b : Nat) es, ρ[b]? = some (.prow 2 es) → τ[b]? = some (.prow 2 es)) : eH τ cs m n W :=
 ⟨h.len, fun i hi => by obtain ⟨b, h1, h2⟩ := h.own i hi; exact ⟨b, h1, hp b _ h2⟩, h.ne⟩
theorem eH.app (h : eH ρ cs m n W) {l : ar} : eH (ρ ++ l) cs m n W := h.mono fun b es hb => by rw [aL (aq.1 hb).1]; exact hb
theorem eH.v9 (h : eH ρ cs m n W) {j s : Nat} {xs : List CV} {x : Blk} (hj : ρ[j]? = some (.kblk s xs)) : eH (ρ.set j x) cs m n W := h.mono fun b es hb => by
 rw [bC]
 ·exact hb
 ·rintro rfl; rw [hj] at hb; cases hb
theorem eH.congr (h : eH ρ cs m n W) (hv : ∀ i j, i < m → j < n → W i j = V i j) : eH ρ cs m n V :=
 ⟨h.len, fun i hi => by obtain ⟨b, h1, h2⟩ := h.own i hi; exact ⟨b, h1, by rw [← iG fun j hj => hv i j hi hj]; exact h2⟩, h.ne⟩
theorem eH.set (h : eH ρ cs m n W) {i b : Nat} {f : Nat → Int} (hi : i < m) (hc : cs[i]? = some (.own b 0 n)) (hv1 : ∀ j, j < n → f j = V i j) (hv2 : ∀ a j, a < m → a ≠ i → j < n → W a j = V a j) : eH (ρ.set b (.prow 2 (zF n f))) cs m n V := by
 refine ⟨h.len, fun a ha => ?_, h.ne⟩
 obtain ⟨b0, g1, g2⟩ := h.own i hi
 rw [hc] at g1
 cases g1
 by_cases hai : a = i
 ·subst hai
  exact ⟨b, hc, by rw [bt (aq.1 g2).1, iG hv1]⟩
 ·obtain ⟨b1, k1, k2⟩ := h.own a ha
  exact ⟨b1, k1, by rw [bC (h.ne i a b b1 (Ne.symm hai) hc k1), ← iG fun j hj => hv2 a j ha hai hj]; exact k2⟩
theorem eH.apart (h : eH ρ cs m n W) {j s : Nat} {xs : List CV} (hj : ρ[j]? = some (.kblk s xs)) {i b : Nat} (hi : i < m) (hc : cs[i]? = some (.own b 0 n)) : b ≠ j := by
 rintro rfl
 obtain ⟨b0, g1, g2⟩ := h.own i hi
 rw [hc] at g1
 cases g1
 rw [hj] at g2
 cases g2
theorem eH.nd (h : eH ρ cs m n W) {c : CV} {es : List PV} (hc : GL ρ 1 c es) : eH (nd ρ c) cs m n W := h.mono fun b es' hb => by
 rcases hc with ⟨rfl, rfl⟩ | ⟨b', rfl, hb'⟩
 ·exact hb
 ·show (ρ.set b' .dead)[b]? = _
  rw [bC]
  ·exact hb
  ·rintro rfl; rw [hb'] at hb; cases hb
theorem eH.snoc {b : Nat} (h : eH ρ cs m n W) (hb : ρ[b]? = some (.prow 2 (zF n (W m)))) (hne : ∀ j b', j < m → cs[j]? = some (.own b' 0 n) → b' ≠ b) : eH ρ (cs ++ [.own b 0 n]) (m + 1) n W := by
 have hl := h.len
 have gl : ∀ i, i < m → (cs ++ [CV.own b 0 n])[i]? = cs[i]? := fun i hi => aB (by omega)
 have gm : (cs ++ [CV.own b 0 n])[m]? = some (.own b 0 n) := by rw [aC (by omega), hl, eI]; rfl
 have hlt : ∀ {i x}, (cs ++ [CV.own b 0 n])[i]? = some x → i < m + 1 := fun {i x} hi => by
  have := (aq.1 hi).1
  simp at this; omega
 refine ⟨by simp [hl], fun i hi => ?_, fun i j b1 b2 hij h1 h2 => ?_⟩
 ·rcases ax i m with h1 | h1
  ·obtain ⟨b', k1, k2⟩ := h.own i h1
   exact ⟨b', by rw [gl i h1]; exact k1, k2⟩
  ·obtain rfl : i = m := by omega
   exact ⟨b, gm, hb⟩
 ·have hi := hlt h1
  have hj := hlt h2
  rcases ax i m with a1 | a1
  ·rw [gl i a1] at h1
   rcases ax j m with a2 | a2
   ·rw [gl j a2] at h2
    exact h.ne i j b1 b2 hij h1 h2
   ·obtain rfl : j = m := by omega
    rw [gm] at h2
    cases h2
    exact hne i b1 a1 h1
  ·obtain rfl : i = m := by omega
   rw [gm] at h1
   cases h1
   rw [gl j (by omega)] at h2
   exact (hne j b2 (by omega) h2).symm
theorem eH.swap (h : eH ρ cs m n W) {p r : Nat} {cp cr : CV} (hp : p < m) (hr : r < m) (hcp : cs[p]? = some cp) (hcr : cs[r]? = some cr) : eH ρ ((cs.set p cr).set r cp) m n (fun i j => W (Gs.swp p r i) j) := by
 have key : ∀ i, i < m → ((cs.set p cr).set r cp)[i]? = cs[Gs.swp p r i]? := fun i hi => by
  unfold Gs.swp
  by_cases h1 : r = i
  ·subst h1
   rw [aO (by rw [ay, h.len]; exact hi)]
   by_cases h2 : r = p
   ·rw [if_pos h2]
    subst h2
    rw [hcp]
   ·rw [if_neg h2, if_pos rfl, hcp]
  ·rw [aE h1]
   by_cases h2 : p = i
   ·subst h2
    rw [aO (by rw [h.len]; exact hi), if_pos rfl, hcr]
   ·rw [aE h2, if_neg (Ne.symm h2), if_neg (Ne.symm h1)]
 have hlt : ∀ {i b}, ((cs.set p cr).set r cp)[i]? = some (.own b 0 n) → i < m := fun {i b} hi => by
  have := (aq.1 hi).1
  rw [ay, ay, h.len] at this
  exact this
 have inj : ∀ i j, Gs.swp p r i = Gs.swp p r j → i = j := fun i j hij => by
  unfold Gs.swp at hij
  split at hij <;> split at hij <;> (try split at hij) <;> (try split at hij) <;> omega
 refine ⟨by rw [ay, ay]; exact h.len, fun i hi => ?_, fun i j b b' hij h1 h2 => ?_⟩
 ·obtain ⟨b, g1, g2⟩ := h.own (Gs.swp p r i) (Gs.tW hp hr hi)
  exact ⟨b, by rw [key i hi]; exact g1, g2⟩
 ·rw [key i (hlt h1)] at h1
  rw [key j (hlt h2)] at h2
  exact h.ne _ _ _ _ (fun hh => hij (inj _ _ hh)) h1 h2
end
theorem n211 {m n : Nat} {W : Nat → Nat → Int} {σ : ar} (hm : m ≤ 64) (hn : n ≤ 64) {Q : CV → ar → Prop}
 (hQ : ∀ ρ k cs, Pre σ ρ → σ.length ≤ k → ρ[k]? = some (.kblk 1 cs) → eH ρ cs m n W → Q (.own k 0 m) ρ) : Rn rp 118 [.p (.sl (zM m n W))] σ Q := by
 rw [ew rp211]
 have m1 : ((24 : Nat) : Int) * (m : Int) ≤ 281474976710656 := by omega
 have m2 : (m : Int) ≤ 9223372036854775807 := by omega
 have m3 : ((32 : Nat) : Int) * (n : Int) ≤ 281474976710656 := by omega
 have m4 : (n : Int) ≤ 9223372036854775807 := by omega
 simp only [f118, aJ, SB, ak, aj, ↓reduceIte, reduceCtorEq, ai, ab, ah, ae, aa, af, d6, Int.natCast_nonneg, m1, m2, dN, Int.toNat_natCast]
 refine aM (β := Nat × ar × List CV) (fun t => ([(3, .own σ.length 0 m), (9, .p (.sl (zM m n W))), (10, i64 m), (11, i64 t.1)], t.2.1))
  (fun t => t.1 ≤ m ∧ Pre σ t.2.1 ∧ t.2.1[σ.length]? = some (.kblk 1 (t.2.2 ++ aw (m - t.1) .nils)) ∧ eH t.2.1 t.2.2 t.1 n W) (fun t => m - t.1) ((0, σ ++ [.kblk 1 (aw m .nils)], []) : Nat × ar × List CV) rfl rfl
  ⟨aD _, Pre.refl.push, by rw [cP]; rfl, ⟨rfl, fun i hi => by omega, fun i j b b' _ h => by simp at h⟩⟩ ?_
 rintro ⟨i, τ, cs⟩ ⟨hi, hp, hk, hro⟩ ih
 simp only [] at hi hp hk hro ih ⊢
 have hcl := hro.len
 have hlk := (aq.1 hk).1
 by_cases hin : (i : Int) < m
 ·have hin' : i < m := by omega
  have w1 := wr1 (i := i) (by omega)
  have hset : setCells (cs ++ aw (m - i) CV.nils) (i * 1) [.own τ.length 0 n] = cs ++ [.own τ.length 0 n] ++ aw (m - (i + 1)) CV.nils := by
   unfold setCells
   rw [dq, ← hcl, List.take_left, show m - cs.length = (m - (cs.length + 1)) + 1 by omega, List.replicate_succ, show cs.length + [CV.own τ.length 0 n].length = cs.length + 1 from rfl, ← List.drop_drop, List.drop_left]
   rfl
  have hLl : (cs ++ aw (m - i) CV.nils).length = m := by rw [bX, eK]; omega
  have hLg : (cs ++ [CV.own τ.length 0 n] ++ aw (m - (i + 1)) CV.nils)[i * 1]? = some (.own τ.length 0 n) := by
   rw [dq, ← hcl, aP, aC (av _), eI]; rfl
  generalize hLe : cs ++ aw (m - i) CV.nils = L at hk hset hLl
  generalize hLe' : cs ++ [CV.own τ.length 0 n] ++ aw (m - (i + 1)) CV.nils = L' at hset hLg
  have e2 : ∀ l, (τ ++ l)[σ.length]? = some (.kblk 1 L) := fun l => by rw [aL hlk]; exact hk
  have e3 : ∀ l x, (τ ++ l).set σ.length x = τ.set σ.length x ++ l := fun l x => cv hlk
  have e4 : ∀ l x, (τ.set σ.length x ++ l)[σ.length]? = some x := fun l x => by rw [aL (by rw [ay]; exact hlk), bt hlk]
  have e5 : ∀ l x, (τ.set σ.length x ++ l)[τ.length]? = l[0]? := fun l x => by rw [show τ.length = (τ.set σ.length x).length by rw [ay], cP]
  have e6 : ∀ l x y, (τ.set σ.length x ++ l).set τ.length y = τ.set σ.length x ++ l.set 0 y := fun l x y => by rw [show τ.length = (τ.set σ.length x).length by rw [ay], jz]
  have hle : i * 1 + 1 ≤ m := by omega
  have hsz := rH (n := n) (f := W i)
  have hcp : setCells (aw n (PV.agg [.bool false, .sl []])) 0 ((zF n (W i)).take n) = zF n (W i) := by
   rw [show (zF n (W i)).take n = zF n (W i) from b6 (by rw [b7]; exact av _)]
   unfold setCells
   rw [List.take_zero, List.nil_append, d8, b7, eW (by rw [eK]; exact av _), c8]
  simp only [SA, ak, aj, ↓reduceIte, reduceCtorEq, ai, ab, ah, ae, aa, af, hin, hin', jo hin', b7, Int.natCast_nonneg, m3, m4, dN, Int.toNat_natCast, e2, e3, e4, e5, e6, hset, hLl, hLg, hle, hsz, hcp, eK, w1]
  refine ih (i + 1, τ.set σ.length (.kblk 1 L') ++ [.prow 2 (zF n (W i))], cs ++ [.own τ.length 0 n]) _ ⟨by simp only []; omega, (hp.set (av _)).push, by simp only []; rw [e4, ← hLe'], ?_⟩ (by simp only []; omega) ?_
  rotate_left
  ·rfl
  refine eH.snoc ((hro.v9 hk).app) ?_ fun j b hj hb => ?_
  ·rw [e5]; rfl
  ·obtain ⟨b0, g1, g2⟩ := hro.own j hj
   rw [hb] at g1
   cases g1
   have := (aq.1 g2).1
   omega
 ·obtain rfl : i = m := by omega
  rw [eI, List.replicate_zero, c8] at hk
  simp only [SB, ak, aj, ↓reduceIte, reduceCtorEq, ai, ab, ah, ae, aa, af, hin]
  exact hQ τ _ cs hp (av _) hk hro
end Go.Proofs.YtdieenbfdeaffabGreat.VDd
namespace Go.Proofs.YtdieenbfdeaffabGreat.VDd
open Go Vpi
open VBn hiding rp tab cV cj mixed sim Big
set_option maxRecDepth 100000
open Gs (Pv dI swp)
def flq (x y : Int) : Int := if 0 < y then x / y else (-x) / (-y)
theorem Fl.flq {x y q r : Int} (h : Fl x y q r) (hy : y ≠ 0) : q = flq x y := by
 have h1 := h.eq
 unfold VDd.flq
 by_cases h0 : 0 < y
 ·rw [if_pos h0]
  rcases h.rest with ⟨a, b⟩ | ⟨a, b⟩
  ·exact ((Int.ediv_emod_unique h0).2 ⟨by rw [Int.mul_comm]; omega, a, b⟩).1.symm
  ·omega
 ·rw [if_neg h0]
  rcases h.rest with ⟨a, b⟩ | ⟨a, b⟩
  ·omega
  ·exact ((Int.ediv_emod_unique (a := -x) (b := -y) (r := -r) (q := q) (by omega)).2 ⟨by rw [Int.neg_mul, Int.mul_comm]; omega, by omega, by omega⟩).1.symm
theorem wu {x y q : Int} (hy : y ≠ 0) (h : x = q * y) : flq x y = q := by
 subst h
 unfold flq
 by_cases h0 : 0 < y
 ·rw [if_pos h0, Int.mul_ediv_cancel _ hy]
 ·rw [if_neg h0, ← Int.mul_neg, Int.mul_ediv_cancel _ (by omega)]
theorem Ce {x y : Int} : (flq x y).natAbs ≤ x.natAbs := by
 unfold flq
 split
 ·exact Int.natAbs_ediv_le_natAbs ..
 ·have := Int.natAbs_ediv_le_natAbs (-x) (-y)
  rwa [Int.natAbs_neg] at this
def Ex2 (e : Nat) : Nat → Nat
 | 0 => e
 | c + 1 => 2 * Ex2 e c + 1
theorem ze {e : Nat} : ∀ {c : Nat}, Ex2 e c + 1 = 2 ^ c * (e + 1)
 | 0 => by simp [Ex2]
 | c + 1 => by
   rw [Ex2, bJ, a7 (2 ^ c) 2, bW, ← ze]; omega
theorem n6 {e c : Nat} : Ex2 e c ≤ Ex2 e (c + 1) := by rw [Ex2]; omega
theorem zd {e c : Nat} (he : e ≤ 1000) (hc : c ≤ 12) : Ex2 e c ≤ 4100095 := by
 have h := ze (e := e) (c := c)
 have h1 : 2 ^ c ≤ 2 ^ 12 := Nat.pow_le_pow_right (by decide) hc
 have h2 : 2 ^ c * (e + 1) ≤ 2 ^ 12 * (e + 1) := az _ h1
 omega
theorem rV {E : Nat} {a b c d : Int} (ha : Sk E a) (hb : Sk E b) (hc : Sk E c) (hd : Sk E d) : Sk (2 * E + 1) (a * b - c * d) := by
 unfold Sk at *
 have h1 := Int.natAbs_sub_le (a * b) (c * d)
 rw [Int.natAbs_mul, Int.natAbs_mul] at h1
 have h2 : a.natAbs * b.natAbs < LB ^ E * LB ^ E := Nat.mul_lt_mul'' ha hb
 have h3 : c.natAbs * d.natAbs < LB ^ E * LB ^ E := Nat.mul_lt_mul'' hc hd
 have h4 : LB ^ (2 * E + 1) = LB ^ E * LB ^ E * LB := by rw [bJ, Nat.two_mul, Nat.pow_add]
 rw [h4]
 have h5 : LB ^ E * LB ^ E * 2 ≤ LB ^ E * LB ^ E * LB := bH _ (by decide)
 omega
def El (W : Nat → Nat → Int) (r c : Nat) (last : Int) (i k : Nat) : Int := flq (W r c * W i k - W i c * W r k) last
def elm (W : Nat → Nat → Int) (r c : Nat) (last : Int) (i k : Nat) : Int := if r < i ∧ c ≤ k then El W r c last i k else W i k
structure Bst (W0 : Nat → Nat → Int) (n e c r : Nat) (W : Nat → Nat → Int) (last : Int) (odd : Bool) : Prop where
 rc : r ≤ c
 ne : last ≠ 0
 sl : Sk (Ex2 e c) last
 sw : ∀ i j, i < n → j < n → Sk (Ex2 e c) (W i j)
 j4 : (r = c ∧ ∃ g, Pv g n c W last ∧ dI n g = if odd = true then - dI n W0 else dI n W0) ∨ (r < c ∧ dI n W0 = 0)
section
variable {W0 W : Nat → Nat → Int} {n e c r : Nat} {last : Int} {odd : Bool}
theorem Bst.start (he : 1 ≤ e) (h : ∀ i j, i < n → j < n → Sk e (W0 i j)) : Bst W0 n e 0 0 W0 1 false := by
 refine ⟨av _, by decide, ?_, h, .inl ⟨rfl, W0, Pv.start, by simp⟩⟩
 unfold Sk Ex2
 exact Nat.one_lt_pow (by omega) (by decide)
theorem Bst.skip (h : Bst W0 n e c r W last odd) (hc : c < n) (hz : ∀ i, r ≤ i → i < n → W i c = 0) : Bst W0 n e (c + 1) r W last odd := by
 refine ⟨Nat.le_succ_of_le h.rc, h.ne, h.sl.mono n6, fun i j hi hj => (h.sw i j hi hj).mono n6, .inr ⟨Nat.lt_succ_of_le h.rc, ?_⟩⟩
 rcases h.j4 with ⟨rfl, g, h1, h2⟩ | ⟨_, h1⟩
 ·have h3 : dI n g = 0 := Gs.tf (h1.stop hc hz)
  rw [h3] at h2
  cases odd
  ·simpa using h2.symm
  ·simp at h2; omega
 ·exact h1
theorem Bst.swap {p : Nat} (h : Bst W0 n e c r W last odd) (hc : c < n) (hp : r ≤ p) (hpn : p < n) (hne : p ≠ r) : Bst W0 n e c r (fun i j => W (swp p r i) j) last (!odd) := by
 have hrn : r < n := bQ h.rc hc
 refine ⟨h.rc, h.ne, h.sl, fun i j hi hj => h.sw _ j (Gs.tW hpn hrn hi) hj, ?_⟩
 rcases h.j4 with ⟨rfl, g, h1, h2⟩ | h1
 ·refine .inl ⟨rfl, _, h1.swap hp hpn, ?_⟩
  rw [Gs.Cm hpn hrn hne, h2]
  cases odd <;> simp
 ·exact .inr h1
theorem Bst.step (h : Bst W0 n e c r W last odd) (hc : c < n) (hz : W r c ≠ 0) : Bst W0 n e (c + 1) (r + 1) (elm W r c last) (W r c) odd := by
 have hrn : r < n := bQ h.rc hc
 refine ⟨Nat.succ_le_succ h.rc, hz, (h.sw r c hrn hc).mono n6, fun i j hi hj => ?_, ?_⟩
 ·unfold elm
  split
  ·have h1 := rV (h.sw r c hrn hc) (h.sw i j hi hj) (h.sw i c hi hc) (h.sw r j hrn hj)
   exact bQ Ce h1
  ·exact (h.sw i j hi hj).mono n6
 ·rcases h.j4 with ⟨rfl, g, h1, h2⟩ | ⟨h1, h2⟩
  ·refine .inl ⟨rfl, g, h1.next hrn hz fun i j a1 a2 a3 a4 => ?_, h2⟩
   obtain ⟨q, e1, _⟩ := h1.whole hrn hz a1 a2 a3 a4
   unfold elm El
   rw [if_pos ⟨a1, by omega⟩, wu h.ne e1]
   exact e1
  ·exact .inr ⟨Nat.succ_lt_succ h1, h2⟩
theorem Bst.done (h : Bst W0 n e n r W last odd) : (r = n → (if odd = true then -last else last) = dI n W0) ∧ (r ≠ n → dI n W0 = 0) := by
 rcases h.j4 with ⟨rfl, g, h1, h2⟩ | ⟨h1, h2⟩
 ·refine ⟨fun _ => ?_, fun h => absurd rfl h⟩
  rw [Gs.tf h1.done] at h2
  rw [h2]
  cases odd <;> simp
 ·exact ⟨fun h => by omega, fun _ => h2⟩
end
theorem rp209 : rp 86 = some f86 := rfl
theorem rp193 : rp 43 = some f43 := rfl
theorem vt {rs : List dH} {c : RCode} {ks : List KI} {Q : CV → ar → Prop} {G : Prop} {R : Env → ar → Prop} (hmain : (∀ e ρ, R e ρ → Ex rp rs (.loop c) ks e ρ Q) → G) (hrest : ∀ e ρ, R e ρ → Ex rp rs (.loop c) ks e ρ Q) : G := hmain hrest
theorem xy {α : Type} {l : List α} {i : Nat} {x : α} (h : i < l.length) : setCells l (i * 1) [x] = l.set i x := by
 unfold setCells
 rw [dq]
 apply dv
 intro j
 rcases Nat.lt_trichotomy j i with h1 | h1 | h1
 ·rw [aE (by omega), aP, aB (by rw [aS]; omega), aN, if_pos h1]
 ·subst h1
  rw [aO h, aP, aC (by rw [aS]; omega), aS, Nat.min_eq_left (by omega), eI]
  rfl
 ·rw [aE (by omega), aC (by simp; omega), bF]
  congr 1
  simp
  omega
structure S9 where
 c : Nat
 r : Nat
 W : Nat → Nat → Int
 last : Int
 odd : Bool
 τ : ar
 cs : List CV
 ch : CV
 hs : List PV
structure F9 (k q n : Nat) (W : Nat → Nat → Int) (last : Int) (τ : ar) (cs : List CV) (ch : CV) (hs : List PV) : Prop where
 h0 : τ[0]? = some (.kblk 2 [.p (.bool false), .nils])
 h1 : τ[1]? = some (.kblk 2 [.p (.bool false), .nils])
 hq : τ[q]? = some (.kblk 2 (cz last))
 hk : τ[k]? = some (.kblk 1 cs)
 ro : eH τ cs n n W
 gh : GL τ 1 ch hs
structure B9 (k q : Nat) (W0 : Nat → Nat → Int) (n e : Nat) (s : S9) : Prop where
 cn : s.c ≤ n
 f : F9 k q n s.W s.last s.τ s.cs s.ch s.hs
 hl : s.hs.length = s.r
 b : Bst W0 n e s.c s.r s.W s.last s.odd
section
variable {k q n : Nat} {W V : Nat → Nat → Int} {last : Int} {τ : ar} {cs : List CV} {ch : CV} {hs : List PV}
theorem F9.push (h : F9 k q n W last τ cs ch hs) {l : ar} : F9 k q n W last (τ ++ l) cs ch hs := by
 obtain ⟨a0, a1, a2, a3, a4, a5⟩ := h
 exact ⟨by rw [aL (aq.1 a0).1]; exact a0, by rw [aL (aq.1 a1).1]; exact a1, by rw [aL (aq.1 a2).1]; exact a2, by rw [aL (aq.1 a3).1]; exact a3, a4.app, a5.left⟩
theorem F9.row (h : F9 k q n W last τ cs ch hs) {i b : Nat} {f : Nat → Int} (hi : i < n) (hc : cs[i]? = some (.own b 0 n)) (hv1 : ∀ j, j < n → f j = V i j) (hv2 : ∀ a j, a < n → a ≠ i → j < n → W a j = V a j) : F9 k q n V last (τ.set b (.prow 2 (zF n f))) cs ch hs := by
 obtain ⟨a0, a1, a2, a3, a4, a5⟩ := h
 obtain ⟨b0, g1, g2⟩ := a4.own i hi
 rw [hc] at g1
 cases g1
 refine ⟨by rw [bC (a4.apart a0 hi hc)]; exact a0, by rw [bC (a4.apart a1 hi hc)]; exact a1, by rw [bC (a4.apart a2 hi hc)]; exact a2, by rw [bC (a4.apart a3 hi hc)]; exact a3, a4.set hi hc hv1 hv2, ?_⟩
 refine a5.iq fun b' o m hb' => ?_
 rintro rfl
 rcases a5 with ⟨h, _⟩ | ⟨b'', h, h'⟩
 ·rw [h] at hb'; cases hb'
 ·rw [h] at hb'; cases hb'; rw [g2] at h'; cases h'
theorem F9.congr (h : F9 k q n W last τ cs ch hs) (hv : ∀ i j, i < n → j < n → W i j = V i j) : F9 k q n V last τ cs ch hs :=
 ⟨h.h0, h.h1, h.hq, h.hk, h.ro.congr hv, h.gh⟩
theorem F9.rowOf (h : F9 k q n W last τ cs ch hs) {i : Nat} {f : Nat → Int} (hi : i < n) (hf : ∀ j, j < n → W i j = f j) : ∃ b, cs[i * 1]? = some (.own b 0 n) ∧ τ[b]? = some (.prow 2 (zF n f)) := by
 obtain ⟨b, g1, g2⟩ := h.ro.own i hi
 exact ⟨b, by rw [dq]; exact g1, by rw [← iG hf]; exact g2⟩
theorem F9.swap (h : F9 k q n W last τ cs ch hs) {p r : Nat} {cp cr : CV} (hp : p < n) (hr : r < n) (hcp : cs[p * 1]? = some cp) (hcr : cs[r * 1]? = some cr) : F9 k q n (fun i j => W (swp p r i) j) last (τ.set k (.kblk 1 ((cs.set p cr).set r cp))) ((cs.set p cr).set r cp) ch hs := by
 rw [dq] at hcp hcr
 obtain ⟨a0, a1, a2, a3, a4, a5⟩ := h
 have ne : ∀ {j xs}, τ[j]? = some (.kblk 2 xs) → k ≠ j := fun {j xs} hj => by
  rintro rfl
  rw [a3] at hj
  cases hj
 refine ⟨by rw [bC (ne a0)]; exact a0, by rw [bC (ne a1)]; exact a1, by rw [bC (ne a2)]; exact a2, bt (aq.1 a3).1, (a4.v9 a3).swap hp hr hcp hcr, a5.set a3⟩
end
section
variable {k q n : Nat} {W V : Nat → Nat → Int} {last : Int} {τ : ar} {cs : List CV} {ch : CV} {hs : List PV}
theorem F9.app (h : F9 k q n W last τ cs ch hs) {xs : List PV} {l : Nat} (hl : l = τ.length) {m : Nat} (hm : m = (hs ++ xs).length) : F9 k q n W last (nd τ ch ++ [.prow 1 xs, .prow 1 (hs ++ xs)]) cs (.own (l + 1) 0 m) (hs ++ xs) :=
 ⟨GL.kb h.gh h.h0, GL.kb h.gh h.h1, GL.kb h.gh h.hq, GL.kb h.gh h.hk, (h.ro.nd h.gh).app, GL.nb hm hl⟩
theorem F9.qC (h : F9 k q n W last τ cs ch hs) {last' : Int} (h0q : q ≠ 0) (h1q : q ≠ 1) : F9 k q n W last' (τ.set q (.kblk 2 (cz last'))) cs ch hs := by
 obtain ⟨a0, a1, a2, a3, a4, a5⟩ := h
 refine ⟨by rw [bC h0q]; exact a0, by rw [bC h1q]; exact a1, bt (aq.1 a2).1, ?_, a4.v9 a2, a5.set a2⟩
 rw [bC]
 ·exact a3
 ·rintro rfl; rw [a2] at a3; cases a3
end
theorem vf {rp : cg} {rs : List dH} {base : Nat} {d : Option Nat} {l : List LOp} {dr : Dr} {ks : List KI} {ε : Env} {σ : ar} {Q : CV → ar → Prop} {c : CV} {sz m : Nat} {es xs : List PV} {s x : Opd} {bytes : Nat} (hm : σ.length = m) (h : GL σ sz c es) (hc : (es.length + xs.length) * bytes ≤ 140737488355328) (hs : vl ε s = c) (hx : vl ε x = .own m 0 xs.length) (hz : dE sz xs = true) :
 ExR rp rs base (⟨d, none, none, .append sz bytes s x⟩ :: l) dr ks ε (σ ++ [.prow sz xs]) Q = ExR rp rs base l dr ks (sto d (.own (m + 1) 0 (es.length + xs.length)) ε) (nd σ c ++ [.prow sz xs, .prow sz (es ++ xs)]) Q := by
 subst hm
 exact ia h hc hs hx hz
theorem n209 {n e : Nat} {W0 : Nat → Nat → Int} (hn : n ≤ 12) (he1 : 1 ≤ e) (he : e ≤ 1000) (hW : ∀ i j, i < n → j < n → Sk e (W0 i j)) {Q : CV → ar → Prop}
 (hQ : ∀ ρ k ch last odd r hs W, ρ[0]? = some (.kblk 2 [.p (.bool false), .nils]) → GL ρ 1 ch hs → hs.length = r → r ≤ n → Bst W0 n e n r W last odd → Q (.tup [.own k 0 n, ch, .p (zi last), .p (.bool odd)]) ρ) :
 Rn rp 86 [.p (.sl (zM n n W0)), i64 n] [.kblk 2 [.p (.bool false), .nils]] Q := by
 rw [ew rp209]
 have k54 := (VBn.p54 (x := 1) (by decide) (by decide)).lift aX
 simp only [f86, aJ, SB, ak, aj, ↓reduceIte, reduceCtorEq, ai, ab, ah, ae, aa, af]
 refine cC (n211 (by omega) (by omega) fun ρ k cs hp hkl hk hro => ?_)
 simp only [SB, ak, aj, ↓reduceIte, reduceCtorEq, ai, ab, ah, ae, aa, af, kp1 k54]
 refine aM (β := S9) (fun s => ([(6, .ptr 1 0 0), (8, .own k 0 n), (9, s.ch), (10, .ptr ρ.length 0 0), (11, .p (.bool s.odd)), (21, i64 n), (22, i64 s.c)], s.τ)) (B9 k ρ.length W0 n e) (fun s => n - s.c) (⟨0, 0, W0, 1, false, ρ ++ [.kblk 2 (cz 1)], cs, .nils, []⟩ : S9) rfl rfl
  ⟨aD _, ⟨by rw [aL (bP (by decide) hp.len), hp.get 0 (by decide)]; rfl, by rw [aL (bP (by decide) hp.len), hp.get 1 (by decide)]; rfl, by rw [cP]; rfl, by rw [aL (aq.1 hk).1]; exact hk, hro.app, .nil⟩, rfl, Bst.start he1 hW⟩ ?_
 have hq0 : ρ.length ≠ 0 := by have := hp.len; simp at this; omega
 have hq1 : ρ.length ≠ 1 := by have := hp.len; simp at this; omega
 generalize ρ.length = q at *
 clear hp hkl hk hro
 rintro ⟨c, r, W, last, odd, τ, cs, ch, hs⟩ ⟨hcn, hF, hl, hb⟩ ih
 simp only [] at hcn hF hl hb ih ⊢
 have hlen : jR ch = some r := by rw [hF.gh.len, hl]
 have hrn : r ≤ n := a9 hb.rc hcn
 by_cases hin : (c : Int) < n
 ·have hin' : c < n := by omega
  have w1 := wr1 (i := c) (by omega)
  have hrc := hb.rc
  have hE := zd he (c := c) (by omega)
  simp only [SA, ak, aj, ↓reduceIte, reduceCtorEq, ai, ab, ah, ae, aa, af, hin, hlen]
  refine aM (β := Nat) (fun p => ([(6, .ptr 1 0 0), (8, .own k 0 n), (9, ch), (10, .ptr q 0 0), (11, .p (.bool odd)), (12, i64 c), (13, i64 r), (14, i64 p), (21, i64 n), (22, i64 c)], τ)) (fun p => r ≤ p ∧ p ≤ n ∧ ∀ i, r ≤ i → i < p → W i c = 0) (fun p => n - p) r rfl rfl ⟨av _, hrn, fun i h1 h2 => by omega⟩ ?_
  rintro p ⟨hp1, hp2, hpz⟩ ih2
  simp only [] at hp1 hp2 hpz ih2 ⊢
  by_cases hpn : (p : Int) < n
  ·have hpn' : p < n := by omega
   obtain ⟨bp, g1, g2⟩ := hF.rowOf hpn' (f := W p) (fun _ _ => rfl)
   have hk := hF.hk
   have k77 := (VBn.p77 (Nu.zi ((hb.sw p c hpn' hin').sz (by omega)))).lift aX
   have w2 := wr1 (i := p) (by omega)
   by_cases hz : W p c = 0
   ·have e0 : (((W p c).sign : Int) == 0) = true := by rw [hz]; rfl
    simp only [SA, ak, aj, ↓reduceIte, reduceCtorEq, ai, ab, ah, ae, aa, af, hpn, hpn', SN, hk, g1, g2, dV hin', hin', cf, kp1 k77, e0, w2]
    exact ih2 (p + 1) _ ⟨by omega, by omega, fun i h1 h2 => by
     rcases ax i p with h | h
     ·exact hpz i h1 h
     ·obtain rfl : i = p := by omega
      exact hz⟩ (by omega) rfl
   ·have e0 : (((W p c).sign : Int) == 0) = false := by
     rw [beq_eq_false_iff_ne]; intro h; exact hz (Int.sign_eq_zero_iff_zero.1 h)
    have e1 : ((p : Int) == (n : Int)) = false := by rw [beq_eq_false_iff_ne]; omega
    refine @vt ?rs ?cc ?kk Q _ (fun ε τ' => ∃ cs' W' odd', fgt [6, 8, 9, 10, 11, 12, 13, 15, 21, 22] ε = [(6, .ptr 1 0 0), (8, .own k 0 n), (9, ch), (10, .ptr q 0 0), (11, .p (.bool odd')), (12, i64 c), (13, i64 r), (15, i64 (r + 1 : Nat)), (21, i64 n), (22, i64 c)] ∧ F9 k q n W' last τ' cs' ch hs ∧ Bst W0 n e c r W' last odd' ∧ W' r c ≠ 0) (fun rest => ?main) ?tail
    case main =>
     have hrn' : r < n := by omega
     have w3 := wr1 (i := r) (by omega)
     have hkl := (aq.1 hk).1
     have hcl := hF.ro.len
     by_cases hpr : p = r
     ·subst hpr
      simp only [SA, ak, aj, ↓reduceIte, reduceCtorEq, ai, ab, ah, ae, aa, af, hpn, hpn', SN, hk, g1, g2, dV hin', hin', cf, kp1 k77, e0, e1, bne_self_eq_false, w3]
      refine rest _ _ ⟨cs, W, odd, ?_, hF, hb, hz⟩
      rfl
     ·have e2 : ((p : Int) != (r : Int)) = true := by rw [bne_iff_ne]; omega
      obtain ⟨br, g3, g4⟩ := hF.rowOf hrn' (f := W r) (fun _ _ => rfl)
      have hs1 : setCells cs (p * 1) [.own br 0 n] = cs.set p (.own br 0 n) := xy (by omega)
      have hs2 : setCells (cs.set p (.own br 0 n)) (r * 1) [.own bp 0 n] = (cs.set p (.own br 0 n)).set r (.own bp 0 n) := xy (by rw [ay]; omega)
      have e4 : ∀ x, (τ.set k x)[k]? = some x := fun x => bt hkl
      have l1 : p * 1 + 1 ≤ cs.length := by omega
      have l2 : r * 1 + 1 ≤ cs.length := by omega
      simp only [SA, ak, aj, ↓reduceIte, reduceCtorEq, ai, ab, ah, ae, aa, af, hpn, hpn', hrn', SN, hk, g1, g2, g3, dV hin', hin', cf, kp1 k77, e0, e1, e2, hs1, hs2, e4, l1, l2, List.set_set, w3]
      refine rest _ _ ⟨_, _, !odd, ?_, hF.swap hpn' hrn' g1 g3, hb.swap hin' hp1 hpn' hpr, ?_⟩
      ·rfl
      simp only [swp]
      rw [if_neg (Ne.symm hpr)]
      simpa using hz
    case tail =>
     rintro ε τ' ⟨cs', W', odd', hε, hF', hb', hz'⟩
     clear ih2 g1 g2 hk hF hb k77 hpz
     have hrn' : r < n := by omega
     refine aM (β := Nat × ar) (fun t => ([(6, .ptr 1 0 0), (8, .own k 0 n), (9, ch), (10, .ptr q 0 0), (11, .p (.bool odd')), (12, i64 c), (13, i64 r), (15, i64 t.1), (21, i64 n), (22, i64 c)], t.2)) (fun t => r < t.1 ∧ t.1 ≤ n ∧ F9 k q n (fun a b => if a < t.1 then elm W' r c last a b else W' a b) last t.2 cs' ch hs) (fun t => n - t.1) ((r + 1, τ') : Nat × ar) hε rfl ⟨bO r, hrn', hF'.congr fun a b ha hbb => by
      by_cases h : a < r + 1
      ·rw [if_pos h]; unfold elm; rw [if_neg (by omega)]
      ·rw [if_neg h]⟩ ?_
     rintro ⟨i, σ1⟩ ⟨hi1, hi2, hF1⟩ ih3
     simp only [] at hi1 hi2 hF1 ih3 ⊢
     have hcl := hF1.ro.len
     by_cases hii : (i : Int) < n
     ·have hii' : i < n := by omega
      have w3 := wr1 (i := i) (by omega)
      have w4 : IntKind.i64.wrap ((n : Int) - 1) = (n : Int) - 1 := IntWalk.i64_in _ (by omega)
      obtain ⟨bi, g1, g2⟩ := hF1.rowOf hii' (f := W' i) (fun j _ => by rw [if_neg (Nat.lt_irrefl i)])
      have hk := hF1.hk
      simp only [SA, ak, aj, ↓reduceIte, reduceCtorEq, ai, ab, ah, ae, aa, af, hii, hii', hcl, SN, hk, g1, w4]
      refine aM (β := Nat × ar) (fun t => ([(6, .ptr 1 0 0), (8, .own k 0 n), (9, ch), (10, .ptr q 0 0), (11, .p (.bool odd')), (12, i64 c), (13, i64 r), (15, i64 i), (16, i64 ((t.1 : Int) - 1)), (21, i64 n), (22, i64 c)], t.2)) (fun t => c ≤ t.1 ∧ t.1 ≤ n ∧ F9 k q n (fun a b => if a < i ∨ (a = i ∧ t.1 ≤ b) then elm W' r c last a b else W' a b) last t.2 cs' ch hs) (fun t => t.1) ((n, σ1) : Nat × ar) rfl rfl ⟨hcn, av n, hF1.congr fun a b ha hbb => by
       by_cases h : a < i
       ·rw [if_pos h, if_pos (.inl h)]
       ·rw [if_neg h, if_neg (by omega)]⟩ ?_
      clear hF1 g1 g2 hk
      rintro ⟨t, σ2⟩ ⟨ht1, ht2, hF2⟩ ih4
      simp only [] at ht1 ht2 hF2 ih4 ⊢
      by_cases htc : (t : Int) - 1 ≥ c
      ·obtain ⟨t, rfl⟩ : ∃ t', t = t' + 1 := ⟨t - 1, by omega⟩
       have hE : (((t + 1 : Nat) : Int) - 1) = (t : Int) := by omega
       rw [hE] at htc ⊢
       have htn : t < n := by omega
       have hct : c ≤ t := by omega
       obtain ⟨br, g1, g2⟩ := hF2.rowOf hrn' (f := W' r) (fun j _ => by rw [if_pos (.inl hi1)]; unfold elm; rw [if_neg (by omega)])
       obtain ⟨bi, g3, g4⟩ := hF2.rowOf hii' (f := fun b => if t + 1 ≤ b then elm W' r c last i b else W' i b) (fun j _ => by simp)
       have e1 : (if t + 1 ≤ t then elm W' r c last i t else W' i t) = W' i t := by rw [if_neg (by omega)]
       have e2 : (if t + 1 ≤ c then elm W' r c last i c else W' i c) = W' i c := by rw [if_neg (by omega)]
       have hk := hF2.hk
       have hq := hF2.hq
       have z1 := hb'.sw r c hrn' hin'
       have z2 := hb'.sw i t hii' htn
       have z3 := hb'.sw i c hii' hin'
       have z4 := hb'.sw r t hrn' htn
       have k63a := (VBn.sC (Nu.zi (z1.sz (by omega))) (Nu.zi (z2.sz (by omega)))).lift aX
       have k63b := (VBn.sC (Nu.zi (z3.sz (by omega))) (Nu.zi (z4.sz (by omega)))).lift aX
       have k157 := (VBn.p157 (Nu.zi ((z1.mul z2).sz (by omega))) (Nu.zi ((z3.mul z4).sz (by omega)))).lift aX
       obtain ⟨q1, r1, f1, f2⟩ := fl134 (Nu.zi ((rV z1 z2 z3 z4).sz (by omega))) (Nu.zi (hb'.sl.sz (by omega))) hb'.ne
       have f3 := f2.lift aX
       obtain rfl := f1.flq hb'.ne
       rw [bg (x := W' r c * W' i t - W' i c * W' r t), bg (x := last)] at f3
       have lk := (aq.1 hk).1
       have lq := (aq.1 hq).1
       have lr := (aq.1 g2).1
       have li := (aq.1 g4).1
       have a1 : ∀ l, (σ2 ++ l)[k]? = some (.kblk 1 cs') := fun l => by rw [aL lk]; exact hk
       have a2 : ∀ l, (σ2 ++ l)[q]? = some (.kblk 2 (cz last)) := fun l => by rw [aL lq]; exact hq
       have a3 : ∀ l, (σ2 ++ l)[br]? = some (.prow 2 (zF n (W' r))) := fun l => by rw [aL lr]; exact g2
       have a4 : ∀ l, (σ2 ++ l)[bi]? = some (.prow 2 (zF n fun b => if t + 1 ≤ b then elm W' r c last i b else W' i b)) := fun l => by rw [aL li]; exact g4
       have a5 : ∀ l x, (σ2 ++ l).set bi x = σ2.set bi x ++ l := fun l x => cv li
       have b1 := dV (f := W' r) hin'
       have b2 := dV (f := W' r) htn
       have b3 := dV (f := fun b => if t + 1 ≤ b then elm W' r c last i b else W' i b) hin'
       have b4 := dV (f := fun b => if t + 1 ≤ b then elm W' r c last i b else W' i b) htn
       simp only [e2] at b3
       simp only [e1] at b4
       have w5 : IntKind.i64.wrap ((t : Int) - 1) = (t : Int) - 1 := IntWalk.i64_in _ (by omega)
       simp only [SB, ak, aj, ↓reduceIte, reduceCtorEq, ai, ab, ah, ae, aa, af, htc, hii', hrn', htn, hin', SN, a1, g1, g3, a3, a4, b1, b2, b3, b4, cf, kp2 k63a, kp2 k63b, kp2 k157, bV, a2, cz, kp2 f3, rK, a5, wI, w5]
       rw [dq] at g3
       refine ih4 (t, σ2.set bi (.prow 2 (zF n fun b => if b = t then flq (W' r c * W' i t - W' i c * W' r t) last else if t + 1 ≤ b then elm W' r c last i b else W' i b)) ++ [.kblk 2 (cz (W' r c * W' i t - W' i c * W' r t))]) _ ⟨hct, by simp only []; omega, (hF2.row hii' g3 (fun j hj => ?_) fun a j ha hai hj => ?_).push⟩ (by simp only []; omega) ?_
       ·show (if j = t then _ else _) = if i < i ∨ (i = i ∧ t ≤ j) then _ else _
        by_cases h : j = t
        ·subst h
         rw [if_pos rfl, if_pos (by omega)]
         unfold elm El
         rw [if_pos ⟨hi1, hct⟩]
        ·rw [if_neg h]
         by_cases h2 : t + 1 ≤ j
         ·rw [if_pos h2, if_pos (by omega)]
         ·rw [if_neg h2, if_neg (by omega)]
       ·show (if a < i ∨ (a = i ∧ t + 1 ≤ j) then _ else _) = if a < i ∨ (a = i ∧ t ≤ j) then _ else _
        by_cases h : a < i
        ·rw [if_pos (.inl h), if_pos (.inl h)]
        ·rw [if_neg (by omega), if_neg (by omega)]
       ·rfl
      ·obtain rfl : t = c := by omega
       simp only [SA, ak, aj, ↓reduceIte, reduceCtorEq, ai, ab, ah, ae, aa, af, htc, w3]
       refine ih3 (i + 1, σ2) _ ⟨by simp only []; omega, by simp only []; omega, hF2.congr fun a b ha hbb => ?_⟩ (by simp only []; omega) ?_
       ·show (if a < i ∨ (a = i ∧ t ≤ b) then _ else _) = if a < i + 1 then _ else _
        by_cases h : a < i
        ·rw [if_pos (.inl h), if_pos (by omega)]
        ·by_cases h2 : a = i
         ·subst h2
          rw [if_pos (bO a)]
          by_cases h3 : t ≤ b
          ·rw [if_pos (.inr ⟨rfl, h3⟩)]
          ·rw [if_neg (by omega)]
           unfold elm
           rw [if_neg (by omega)]
         ·rw [if_neg (by omega), if_neg (by omega)]
       ·rfl
     ·obtain rfl : i = n := by omega
      obtain ⟨br, g1, g2⟩ := hF1.rowOf hrn' (f := W' r) (fun j _ => by rw [if_pos hrn']; unfold elm; rw [if_neg (by omega)])
      have hk := hF1.hk
      have hq := hF1.hq
      have lq := (aq.1 hq).1
      have b1 := dV (f := W' r) hin'
      have hgl := hF1.gh.set hq (x := .kblk 2 (cz (W' r c)))
      have hc8 : (hs.length + [PV.int .i64 (c : Int)].length) * 8 ≤ 140737488355328 := by rw [hl]; simp; omega
      have hR := fun {rp rs base d l dr ks ε Q s x} => vf (rp := rp) (rs := rs) (base := base) (d := d) (l := l) (dr := dr) (ks := ks) (ε := ε) (Q := Q) (s := s) (x := x) (show (σ1.set q (Blk.kblk 2 (cz (W' r c)))).length = σ1.length from ay ..) hgl hc8
      simp only [cz] at hR
      simp only [SB, ak, aj, ↓reduceIte, reduceCtorEq, ai, ab, ah, ae, aa, af, hii, hcl, hrn', hin', SN, hk, g1, g2, b1, cf, hq, cz, hR, hl, w1]
      refine ih ⟨c + 1, r + 1, elm W' r c last, W' r c, odd', nd (σ1.set q (.kblk 2 (cz (W' r c)))) ch ++ [.prow 1 [.int .i64 c], .prow 1 (hs ++ [.int .i64 c])], cs', .own (σ1.length + 1) 0 (r + 1), hs ++ [.int .i64 c]⟩ _ ⟨by simp only []; omega, ((hF1.congr fun a b ha hbb => by rw [if_pos ha]).qC hq0 hq1).app (by rw [ay]) (by simp [hl]), by simp [hl], hb'.step hin' hz'⟩ (by simp only []; omega) ?_
      rfl
  ·obtain rfl : p = n := by omega
   have hcl := hF.ro.len
   simp only [SA, ak, aj, ↓reduceIte, reduceCtorEq, ai, ab, ah, ae, aa, af, hpn, beq_self_eq_true, w1]
   refine ih ⟨c + 1, r, W, last, odd, τ, cs, ch, hs⟩ _ ⟨by simp only []; omega, hF, hl, hb.skip hin' fun i h1 h2 => hpz i h1 h2⟩ (by simp only []; omega) ?_
   rfl
 ·obtain rfl : c = n := by omega
  obtain ⟨a0, a1, a2, a3, a4, a5⟩ := hF
  have l1 := (aq.1 a1).1
  have e1 : ∀ x, (τ.set 1 x)[1]? = some x := fun x => bt l1
  simp only [SB, ak, aj, ↓reduceIte, reduceCtorEq, ai, ab, ah, ae, aa, af, hin, a2, cz, a1, e1]
  exact hQ _ k ch last odd r hs W (by rw [bC (by decide)]; exact a0) (a5.set a1) hl hb.rc hb
theorem p193 {n e : Nat} {W : Nat → Nat → Int} (hn : n ≤ 12) (he1 : 1 ≤ e) (he : e ≤ 1000) (hW : ∀ i j, i < n → j < n → Sk e (W i j)) : Pu rp 43 [.sl (zM n n W)] (.p (zi (dI n W))) := by
 refine aY rp193 ?_
 simp only [f43, aJ, SB, ak, aj, ↓reduceIte, reduceCtorEq, ai, ab, ah, ae, aa, af, d6]
 refine cC (n209 hn he1 he hW fun ρ k ch last odd r hs W' h0 hg hl hr hb => ?_)
 have hlen : jR ch = some r := by rw [hg.len, hl]
 obtain ⟨d1, d2⟩ := hb.done
 have hsz := hb.sl.sz (a9 (zd he hn) (by decide))
 have l0 := (aq.1 h0).1
 have e0 : ∀ l, (ρ ++ l)[0]? = some (.kblk 2 [.p (.bool false), .nils]) := fun l => by rw [aL l0]; exact h0
 have e1 : ∀ l x, (ρ ++ l).set 0 x = ρ.set 0 x ++ l := fun l x => cv l0
 have e2 : ∀ l x, (ρ.set 0 x ++ l)[0]? = some x := fun l x => by rw [aL (by rw [ay]; exact l0), bt l0]
 by_cases hrn : (r : Int) < n
 ·have hr' : r ≠ n := by omega
  rw [d2 hr']
  rw [lV]
  simp only [SB, ak, aj, ↓reduceIte, reduceCtorEq, ai, ab, ah, ae, aa, af, bg (x := last), hlen, hrn, e0, e1, e2]
  rfl
 ·obtain rfl : r = n := by omega
  have hd := d1 rfl
  cases odd
  ·have k94 := p94 (Nu.zi hsz)
   rw [bg (x := last)] at k94
   simp only [aR, if_false] at hd
   rw [← hd]
   have k94' : Pu rp 88 [.agg [.bool (decide (last < 0) && decide (last.natAbs ≠ 0)), .sl (lm (dgl last.natAbs))]] (.p (zi last)) := p94 (Nu.zi hsz)
   simp only [SB, ak, aj, ↓reduceIte, reduceCtorEq, ai, ab, ah, ae, aa, af, bg (x := last), hlen, hrn, e0, e1, e2, kz1 k94']
   rfl
  ·simp only [if_true] at hd
   rw [← hd]
   have k146 : Pu rp 87 [.agg [.bool (decide (last < 0) && decide (last.natAbs ≠ 0)), .sl (lm (dgl last.natAbs))]] (.p (zi (-last))) := (VBn.p146 (Nu.zi hsz)).lift aX
   simp only [SB, ak, aj, ↓reduceIte, reduceCtorEq, ai, ab, ah, ae, aa, af, bg (x := last), hlen, hrn, e0, e1, e2, kz1 k146]
   rfl
end Go.Proofs.YtdieenbfdeaffabGreat.VDd
namespace Go.Proofs.YtdieenbfdeaffabGreat.VDd
open Go Vpi
open VBn hiding rp tab cV cj mixed sim Big
set_option maxRecDepth 100000
open Gs (Pv dI swp sk cI)
theorem rp208 : rp 85 = some f85 := rfl
theorem rp192 : rp 42 = some f42 := rfl
theorem rp194 : rp 45 = some f45 := rfl
theorem Cy {m n : Nat} {W : Nat → Nat → Int} (hn : n ≤ 2000000) (h : ∀ i j, i < m → j < n → Sz (W i j)) : MR (zM m n W) (fun _ => n) W := by
 intro i hi
 rw [d6] at hi
 refine ⟨_, jo hi, b7, hn, fun j hj => ?_⟩
 rw [b7] at hj
 exact ⟨_, dV hj, Nu.zi (h i j hi hj)⟩
theorem z93 {m n : Nat} {W : Nat → Nat → Int} (hm0 : 0 < m) (hm : m ≤ 2000000) (hn : n ≤ 2000000) (h : ∀ i j, i < m → j < n → Sz (W i j)) : Pu rp 36 [.sl (zM m n W)] (.tup [.p (.int .i64 m), .p (.int .i64 n), .p (.int .i64 0)]) := by
 have k := ((VBn.p93 (Cy hn h) (by rw [d6]; omega) (by rw [d6]; exact hm)).2 (fun ⟨i, h1, h2⟩ => h2 rfl)).lift aX
 rw [d6] at k
 exact k
theorem p208 {m n : Nat} {W : Nat → Nat → Int} (hm0 : 0 < m) (hm : m ≤ 64) (hn : n ≤ 64) (h : ∀ i j, i < m → j < n → Sz (W i j)) : Pu rp 85 [.sl (zM m n W)] (.tup [.p (.int .i64 m), .p (.int .i64 n), .p (.int .i64 0)]) := by
 have k93 := z93 hm0 (by omega) (by omega) h
 refine aY rp208 ?_
 have e0 : ((0 : Int) != 0) = false := rfl
 have e1 : ¬ (m : Int) > 64 := by omega
 have e2 : ¬ (n : Int) > 64 := by omega
 simp only [f85, aJ, SB, ak, aj, ↓reduceIte, reduceCtorEq, ai, ab, ah, ae, aa, af, kp1 k93, e0, e1, e2]
 exact dT aQ aQ aQ
theorem p192 {n : Nat} {W : Nat → Nat → Int} (hn0 : 0 < n) (hn : n ≤ 64) (h : ∀ i j, i < n → j < n → Sz (W i j)) : Pu rp 42 [.sl (zM n n W)] (.tup [.p (.int .i64 n), .p (.int .i64 0)]) := by
 have k208 := p208 hn0 hn hn h
 refine aY rp192 ?_
 simp only [f42, aJ, SB, ak, aj, ↓reduceIte, reduceCtorEq, ai, ab, ah, ae, aa, af, kp1 k208, bne_self_eq_false, beq_self_eq_true]
 exact dz aQ aQ
theorem xA {N k : Nat} {f : Nat → Int} (hk : k < N + 1) : (zF (N + 1) f).take k ++ (zF (N + 1) f).drop (k + 1) = zF N fun q => f (sk k q) := by
 apply dv
 intro j
 rcases ax j k with h | h
 ·rw [aB (by rw [aS, b7]; omega), aN, if_pos h, dV (by omega), dV (by omega)]
  unfold sk
  rw [if_pos h]
 ·rw [aC (by rw [aS, b7]; omega), aS, b7, Nat.min_eq_left (by omega), bF, show k + 1 + (j - k) = j + 1 by omega]
  by_cases hj : j < N
  ·rw [dV (by omega), dV hj]
   unfold sk
   rw [if_neg (by omega)]
  ·rw [aG (by rw [b7]; omega), aG (by rw [b7]; omega)]
section
variable {rp : cg} {rs : List dH} {d : Option Nat} {l : List LOp} {xp : List (Nat × Nat)} {ops : List LOp} {ks : List KI} {e : Env} {ρ : ar} {Q : CV → ar → Prop} {c : CV} {sz : Nat} {es xs : List PV}
theorem zU {a a' : Blk} {s x : Opd} {bytes : Nat} {dr : Dr} (h : GL ρ sz c es) (hc : (es.length + xs.length) * bytes ≤ 140737488355328) (hs : vl e s = c) (hx : vl e x = .own (ρ.length + 2) 0 xs.length) (hz : dE sz xs = true) :
 ExR rp rs ρ.length (⟨d, none, some 3, .append sz bytes s x⟩ :: l) dr ks e (ρ ++ [a, a', .prow sz xs, .hole]) Q = ExR rp rs ρ.length l dr ks (sto d (.own (ρ.length + 3) 0 (es.length + xs.length)) e) (nd ρ c ++ [a, a', .prow sz xs, .prow sz (es ++ xs)]) Q := by
 rw [fN]
 have h1 : content (ρ ++ [a, a', .prow sz xs, .hole]) (vl e s) = some es := by rw [hs]; exact h.left.content
 have h2 : content (ρ ++ [a, a', .prow sz xs, .hole]) (vl e x) = some xs := by rw [hx]; exact jb (s := sz) (by rw [cY]; rfl) rfl
 have hlt := h.lt.2
 simp only [ev, h1, h2, hc, hz, and_self, if_true]
 rcases h with ⟨rfl, rfl⟩ | ⟨b, rfl, hb⟩
 ·rw [hs]
  simp only [bV, cY, List.getElem?_cons_succ, gO, iB, List.set_cons_succ, List.set_cons_zero, aH, eY]
  rfl
 ·rw [hs]
  have hbl := hlt b 0 _ rfl
  have h3 : (ρ ++ [a, a', .prow sz xs, .hole])[b]? = some (.prow sz es) := by rw [aL hbl]; exact hb
  have h4 : (ρ ++ [a, a', Blk.prow sz xs, .hole]).set b .dead = ρ.set b .dead ++ [a, a', .prow sz xs, .hole] := cv hbl
  have h5 : (ρ.set b .dead ++ [a, a', Blk.prow sz xs, .hole])[ρ.length + 3]? = some .hole := by rw [show ρ.length = (ρ.set b .dead).length by rw [ay], cY]; rfl
  have h6 : ∀ x : Blk, (ρ.set b .dead ++ [a, a', Blk.prow sz xs, .hole]).set (ρ.length + 3) x = ρ.set b .dead ++ [a, a', .prow sz xs, x] := fun x => by rw [show ρ.length = (ρ.set b .dead).length by rw [ay], iB]; rfl
  simp only [h3, if_true, h4, bV, h5, h6, aH, eY]
  rfl
end
theorem kD {e n : Nat} {W : Nat → Nat → Int} (hn : n ≤ 12) (h : ∀ i j, i < n → j < n → Sk e (W i j)) : Sk ((e + 1) * n + 1) (dI n W) := by
 obtain ⟨x, hx, hb⟩ := Gs.In.det (n := n) (A := Gs.rg W) (M := LB ^ e) fun p q hp hq => ⟨_, rfl, Nat.le_of_lt (h p q hp hq)⟩
 rw [Gs.tf hx]
 have h2 := VBn.y7 (M := LB ^ e) hn
 unfold Sk
 rw [a7 LB, ← bJ, ← Nat.pow_mul] at h2
 refine bQ (a9 hb h2) ?_
 rw [bJ]
 have : 0 < LB ^ ((e + 1) * n) := dg cQ
 have h3 : LB ^ ((e + 1) * n) * 1 < LB ^ ((e + 1) * n) * LB := Nat.mul_lt_mul_of_pos_left (by decide) this
 rwa [dq] at h3
def cnt (i r : Nat) : Nat := if r ≤ i then r else r - 1
theorem p194 {N e i k : Nat} {W : Nat → Nat → Int} (hN : N + 1 ≤ 12) (he1 : 1 ≤ e) (he : e ≤ 1000) (hi : i < N + 1) (hk : k < N + 1) (hW : ∀ a b, a < N + 1 → b < N + 1 → Sk e (W a b)) :
 Pu rp 45 [.sl (zM (N + 1) (N + 1) W), .int .i64 i, .int .i64 k] (.p (zi (cI N W i k))) := by
 refine aY rp194 ?_
 simp only [f45, aJ, SB, ak, aj, ↓reduceIte, reduceCtorEq, ai, ab, ah, ae, aa, af, d6]
 refine aM (β := Nat × ar × CV) (fun t => ([(0, .p (.sl (zM (N + 1) (N + 1) W))), (1, i64 i), (2, i64 k), (6, .ptr 0 0 0), (7, t.2.2), (11, i64 (N + 1 : Nat)), (12, i64 t.1)], t.2.1))
  (fun t => t.1 ≤ N + 1 ∧ t.2.1[0]? = some (.kblk 2 [.p (.bool false), .nils]) ∧ GL t.2.1 1 t.2.2 (zM (cnt i t.1) N fun p q => W (sk i p) (sk k q))) (fun t => N + 1 - t.1) ((0, [.kblk 2 [.p (.bool false), .nils]], .nils) : Nat × ar × CV) rfl rfl ⟨aD _, rfl, by unfold cnt; rw [if_pos (aD _)]; exact .nil⟩ ?_
 rintro ⟨r, τ, c⟩ ⟨hr, h0, hg⟩ ih
 simp only [] at hr h0 hg ih ⊢
 by_cases hin : (r : Int) < (N + 1 : Nat)
 ·have hin' : r < N + 1 := by omega
  have w1 := wr1 (i := r) (by omega)
  by_cases hri : r = i
  ·subst hri
   simp only [SB, ak, aj, ↓reduceIte, reduceCtorEq, ai, ab, ah, ae, aa, af, hin, bne_self_eq_false, w1]
   refine ih (r + 1, τ, c) _ ⟨by simp only []; omega, h0, ?_⟩ (by simp only []; omega) rfl
   have e : cnt r (r + 1) = cnt r r := by unfold cnt; rw [if_neg (by omega), if_pos (av _)]; rfl
   simp only [e]
   exact hg
  ·have e1 : ((r : Int) != (i : Int)) = true := by rw [bne_iff_ne]; omega
   have w2 := wr1 (i := k) (by omega)
   have hk1 : k ≤ N + 1 := by omega
   have hk2 : k + 1 ≤ N + 1 := by omega
   have hc1 : cnt i (r + 1) = cnt i r + 1 := by unfold cnt; split <;> split <;> omega
   have hc2 : sk i (cnt i r) = r := by unfold cnt sk; split <;> split <;> omega
   have hrow := xA (f := W r) hk
   have l0 := (aq.1 h0).1
   have sl1 : ∀ σ : ar, dw σ 2 (.p (.sl (zF (N + 1) (W r)))) 0 k = some (.p (.sl ((zF (N + 1) (W r)).take k))) := fun σ => by
    unfold dw
    rw [if_pos (aD _)]
    simp only []
    rw [if_pos ⟨by rw [b7]; omega, .inl trivial⟩]
    rfl
   have sl2 : ∀ σ : ar, dw σ 2 (.p (.sl (zF (N + 1) (W r)))) (k + 1) (N + 1) = some (.p (.sl ((zF (N + 1) (W r)).drop (k + 1)))) := fun σ => by
    unfold dw
    rw [if_pos hk2]
    simp only []
    rw [if_pos ⟨by rw [b7]; exact av _, .inr rH⟩, b6 (by rw [List.length_drop, b7]; exact av _)]
   have hA : ((zF (N + 1) (W r)).take k).length = k := by rw [aS, b7]; omega
   have hB : ((zF (N + 1) (W r)).drop (k + 1)).length = N - k := by rw [List.length_drop, b7]; omega
   have hza : dE 2 ((zF (N + 1) (W r)).take k) = true := aU.2 fun x hx => aU.1 (rH (n := N + 1) (f := W r)) x (List.mem_of_mem_take hx)
   have hzb : dE 2 ((zF (N + 1) (W r)).drop (k + 1)) = true := aU.2 fun x hx => aU.1 (rH (n := N + 1) (f := W r)) x (List.mem_of_mem_drop hx)
   generalize (zF (N + 1) (W r)).take k = A at *
   generalize (zF (N + 1) (W r)).drop (k + 1) = B at *
   have c1 : ∀ a1 a2 a3, content (τ ++ [.prow 2 A, a1, a2, a3]) (.own τ.length 0 A.length) = some A := fun _ _ _ => jb (by rw [cP]; rfl) rfl
   have q1 : A.length * 32 ≤ 140737488355328 := by omega
   have q2 : (A.length + B.length) * 32 ≤ 140737488355328 := by omega
   have hf : eG (τ ++ [.dead, .prow 2 (A ++ B), .hole, .hole]) [.own (τ.length + 1) 0 (A.length + B.length)] = some [.sl (A ++ B)] := by
    simp only [eG, frz, e9 (show (τ ++ [Blk.dead, .prow 2 (A ++ B), .hole, .hole])[τ.length + 1]? = some (.prow 2 (A ++ B)) by rw [cY]; rfl) (show A.length + B.length = (A ++ B).length by rw [bX]), aH]
   have hkl : eC (τ ++ [.dead, .prow 2 (A ++ B), .hole, .hole]) [.own (τ.length + 1) 0 (A.length + B.length)] = τ ++ [.dead, .dead, .hole, .hole] := by
    simp only [eC, List.foldl_cons, List.foldl_nil, kill, gi, iB]; rfl
   have hc24 : ((zM (cnt i r) N fun p q => W (sk i p) (sk k q)).length + [PV.sl (A ++ B)].length) * 24 ≤ 140737488355328 := by
    rw [d6]; unfold cnt; split <;> simp <;> omega
   have hR := fun {rp rs d l dr ks e Q a a' s x} => zU (rp := rp) (rs := rs) (d := d) (l := l) (dr := dr) (ks := ks) (e := e) (Q := Q) (a := a) (a' := a') (s := s) (x := x) hg hc24
   simp only [S1, S2, S3, S4, S5, iK, gT, S6, setCells, ak, aj, ↓reduceIte, reduceCtorEq, ai, ab, ah, ae, aa, af, hin, jo hin', b7, SN, e1, w1, w2, sl1, sl2, bV, fN, c1, q1, q2, hza, hzb, hf, hkl, hR]
   rw [ez]
   refine ⟨by simp [fZ, lR, cR, fq, aV, eA, vl, gt, List.elem], ?_⟩
   simp only [SB, ak, aj, ↓reduceIte, reduceCtorEq, ai, ab, ah, ae, aa, af, w1]
   refine ih (r + 1, nd τ c ++ [.dead, .dead, .prow 1 [.sl (A ++ B)], .prow 1 ((zM (cnt i r) N fun p q => W (sk i p) (sk k q)) ++ [.sl (A ++ B)])], .own (τ.length + 3) 0 ((zM (cnt i r) N fun p q => W (sk i p) (sk k q)).length + 1)) _ ⟨by simp only []; omega, GL.kb hg h0, ?_⟩ (by simp only []; omega) ?_
   ·refine .own ?_ ?_
    ·simp only []
     rw [show τ.length + 3 = (nd τ c).length + 3 by rw [c7], cY, hrow, hc1, ← tS]
     simp only [hc2]
     rfl
    ·rw [d6, d6, hc1]
   ·rfl
 ·obtain rfl : r = N + 1 := by omega
  have hcn : cnt i (N + 1) = N := by unfold cnt; rw [if_neg (by omega)]; rfl
  rw [hcn] at hg
  have k193 := p193 (n := N) (W := fun p q => W (sk i p) (sk k q)) (by omega) he1 he fun a b ha hb => hW _ _ (Gs.jY hi ha) (Gs.jY hk hb)
  have hsz : Sz (dI N fun p q => W (sk i p) (sk k q)) := (kD (by omega) fun a b ha hb => hW _ _ (Gs.jY hi ha) (Gs.jY hk hb)).sz (by
   have : (e + 1) * N ≤ 1001 * 12 := Nat.mul_le_mul (by omega) (by omega)
   omega)
  have hf : eG τ [c] = some [.sl (zM N N fun p q => W (sk i p) (sk k q))] := by simp only [eG, hg.frz, aH]
  have hkl : eC τ [c] = nd τ c := hg.kill
  have e0 : ∀ l, (nd τ c ++ l)[0]? = some (.kblk 2 [.p (.bool false), .nils]) := fun l => GL.kb hg h0
  have l0 := (aq.1 h0).1
  have e1 : ∀ l x, (nd τ c ++ l).set 0 x = (nd τ c).set 0 x ++ l := fun l x => cv (by rw [c7]; exact l0)
  have e2 : ∀ l x, ((nd τ c).set 0 x ++ l)[0]? = some x := fun l x => by rw [aL (by rw [ay, c7]; exact l0), bt (by rw [c7]; exact l0)]
  have w2 : IntKind.i64.wrap ((i : Int) + (k : Int)) = ((i + k : Nat) : Int) := by rw [IntWalk.i64_in _ (by omega)]; omega
  have w3 : ((i + k : Nat) : Int).tmod 2 = (((i + k) % 2 : Nat) : Int) := rfl
  have b2 := fB (k := .i64) (a := ((i + k : Nat) : Int)) (b := 2) (by decide)
  rw [w3] at b2
  unfold cI
  by_cases hp : (i + k) % 2 = 1
  ·have e4 : ((((i + k) % 2 : Nat) : Int) == 1) = true := by rw [hp]; rfl
   have k146 : Pu rp 87 [.agg [.bool (decide ((dI N fun p q => W (sk i p) (sk k q)) < 0) && decide ((dI N fun p q => W (sk i p) (sk k q)).natAbs ≠ 0)), .sl (lm (dgl (dI N fun p q => W (sk i p) (sk k q)).natAbs))]] (.p (zi (-(dI N fun p q => W (sk i p) (sk k q))))) := (VBn.p146 (Nu.zi hsz)).lift aX
   rw [if_pos hp, Int.neg_one_mul]
   generalize dI N (fun p q => W (sk i p) (sk k q)) = D at *
   simp only [S1, S2, S3, S4, S5, iK, gT, S6, setCells, ak, aj, ↓reduceIte, reduceCtorEq, ai, ab, ah, ae, aa, af, hin, kx k193 hf, hkl, bg (x := D), e0, e1, e2, w2, b2, e4, kp1 k146]
   rfl
  ·have e4 : ((((i + k) % 2 : Nat) : Int) == 1) = false := by rw [beq_eq_false_iff_ne]; omega
   rw [if_neg hp, Int.one_mul]
   generalize dI N (fun p q => W (sk i p) (sk k q)) = D at *
   simp only [S1, S2, S3, S4, S5, iK, gT, S6, setCells, ak, aj, ↓reduceIte, reduceCtorEq, ai, ab, ah, ae, aa, af, hin, kx k193 hf, hkl, bg (x := D), e0, e1, e2, w2, b2, e4]
   rfl
theorem rp195 : rp 46 = some f46 := rfl
theorem rp166 : rp 47 = some f47 := rfl
theorem rp167 : rp 15 = some f15 := rfl
def gF (g : Nat) (f : Nat → Int) : Nat → Nat
 | 0 => g
 | n + 1 => bZ (gF g f n) (f n).natAbs
theorem oO {g : Nat} {f : Nat → Int} : ∀ {n : Nat}, gF g f n ∣ g ∧ ∀ j, j < n → gF g f n ∣ (f j).natAbs
 | 0 => ⟨Nat.dvd_refl g, fun j h => by omega⟩
 | n + 1 => by
   obtain ⟨h1, h2⟩ := oO (g := g) (f := f) (n := n)
   refine ⟨Nat.dvd_trans (Nat.gcd_dvd_left _ _) h1, fun j hj => ?_⟩
   rcases ax j n with h | h
   ·exact Nat.dvd_trans (Nat.gcd_dvd_left _ _) (h2 j h)
   ·obtain rfl : j = n := by omega
    exact Nat.gcd_dvd_right _ _
theorem yv {g : Nat} {f : Nat → Int} (hg : Sz (g : Int)) : ∀ {n : Nat}, (∀ j, j < n → Sz (f j)) → Sz ((gF g f n : Nat) : Int)
 | 0, _ => hg
 | n + 1, h => yu (yv hg fun j hj => h j (by omega)) (h n (by omega))
section
variable {rp : cg} {rs : List dH} {base : Nat} {d : Option Nat} {l : List LOp} {dr : Dr} {ks : List KI} {e : Env} {ρ : ar} {Q : CV → ar → Prop} {c : CV} {sz : Nat} {es xs : List PV}
theorem zV {a a' a'' : Blk} {s x : Opd} {bytes : Nat} (h : GL ρ sz c es) (hc : (es.length + xs.length) * bytes ≤ 140737488355328) (hs : vl e s = c) (hx : vl e x = .own (ρ.length + 3) 0 xs.length) (hz : dE sz xs = true) :
 ExR rp rs base (⟨d, none, none, .append sz bytes s x⟩ :: l) dr ks e (ρ ++ [a, a', a'', .prow sz xs]) Q = ExR rp rs base l dr ks (sto d (.own (ρ.length + 4) 0 (es.length + xs.length)) e) (nd ρ c ++ [a, a', a'', .prow sz xs, .prow sz (es ++ xs)]) Q := by
 have hl : (ρ ++ [a, a', a'']).length = ρ.length + 3 := by simp
 have := ia (rp := rp) (rs := rs) (base := base) (d := d) (l := l) (dr := dr) (ks := ks) (e := e) (Q := Q) (s := s) (x := x) (h.left (τ := [a, a', a''])) hc hs (by rw [hl]; exact hx) hz
 rw [hl, mF h, aP, aP] at this
 exact this
end
theorem p195 {L : Nat} {f : Nat → Int} {d : Int} (hL : L ≤ 2000000) (hf : ∀ j, j < L → Sz (f j)) (hd0 : 0 < d) (hd : Sz d) :
 Pu rp 46 [.sl (zF L f), zi d] (.tup [.p (.sl (zF L fun j => f j / (gF d.natAbs f L : Nat))), .p (zi (d / (gF d.natAbs f L : Nat)))]) := by
 refine aY rp195 ?_
 have hN : ((d.natAbs : Nat) : Int) = d := by omega
 have hdn : Nu (.agg [.bool (decide (d < 0) && decide (d.natAbs ≠ 0)), .sl (lm (dgl d.natAbs))]) d := Nu.zi hd
 have k204 := p204 hdn
 rw [hN] at k204
 have k77 := (VBn.p77 hdn).lift aX
 rw [bo hd0] at k77
 have hG0 := yv (f := f) (g := d.natAbs) (by rw [hN]; exact hd) hf
 obtain ⟨hv1, hv2⟩ := oO (g := d.natAbs) (f := f) (n := L)
 have hGp : 0 < gF d.natAbs f L := Nat.pos_of_dvd_of_pos hv1 (by omega)
 simp only [f46, aJ, SB, ak, aj, ↓reduceIte, reduceCtorEq, ai, ab, ah, ae, aa, af, bg (x := d), kp1 k204, b7]
 refine aM (β := Nat × ar) (fun t => ([(0, .p (.sl (zF L f))), (3, .ptr 0 0 0), (5, .ptr 1 0 0), (6, .ptr 2 0 0), (20, .p (.sl (zF L f))), (21, i64 L), (22, i64 t.1)], t.2))
  (fun t => t.1 ≤ L ∧ t.2[0]? = some (.kblk 2 (cz d)) ∧ t.2[1]? = some (.kblk 2 [.p (.bool false), .nils]) ∧ t.2[2]? = some (.kblk 2 (cz (gF d.natAbs f t.1 : Nat)))) (fun t => L - t.1)
  ((0, [.kblk 2 (cz d), .kblk 2 [.p (.bool false), .nils], .kblk 2 (cz d)]) : Nat × ar) rfl rfl ⟨aD _, rfl, rfl, by show _ = some (Blk.kblk 2 (cz ((d.natAbs : Nat) : Int))); rw [hN]; rfl⟩ ?_
 ·rintro ⟨j, τ⟩ ⟨hj, h0, h1, h2⟩ ih
  simp only [] at hj h0 h1 h2 ih ⊢
  by_cases hjn : (j : Int) < L
  ·have hj' : j < L := by omega
   have w1 := wr1 (i := j) (by omega)
   have k96 := p96 (Nu.zi (yv (f := f) (g := d.natAbs) (by rw [hN]; exact hd) (n := j) fun j' h => hf j' (by omega))) (Nu.zi (hf j hj'))
   rw [d9, bg (x := ((gF d.natAbs f j : Nat) : Int)), bg (x := f j)] at k96
   have l2 := (aq.1 h2).1
   have l1 := (aq.1 h1).1
   have l0 := (aq.1 h0).1
   have e2 : ∀ l, (τ ++ l)[2]? = some (.kblk 2 (cz (gF d.natAbs f j : Nat))) := fun l => by rw [aL l2]; exact h2
   have e3 : ∀ l x, (τ ++ l).set 2 x = τ.set 2 x ++ l := fun l x => cv l2
   simp only [SB, ak, aj, ↓reduceIte, reduceCtorEq, ai, ab, ah, ae, aa, af, hjn, dV hj', cf, SN, bg (x := f j), e2, cz, kp2 k96, e3, w1]
   refine ih (j + 1, τ.set 2 (.kblk 2 (cz (gF d.natAbs f (j + 1) : Nat))) ++ [.kblk 2 (cz (f j))]) _ ⟨by simp only []; omega, ?_, ?_, ?_⟩ (by simp only []; omega) ?_
   ·simp only []; rw [aL (by rw [ay]; exact l0), bC (by decide)]; exact h0
   ·simp only []; rw [aL (by rw [ay]; exact l1), bC (by decide)]; exact h1
   ·simp only []; rw [aL (by rw [ay]; exact l2), bt l2]
   ·rfl
  ·obtain rfl : L = j := by omega
   generalize gF d.natAbs f L = G at *
   have hGn : Nu (.agg [.bool (decide ((G : Int) < 0) && decide (((G : Nat) : Int).natAbs ≠ 0)), .sl (lm (dgl ((G : Nat) : Int).natAbs))]) (G : Int) := Nu.zi hG0
   have t1 : ¬ (1 : Int) < 0 := by decide
   clear ih
   simp only [SB, ak, aj, ↓reduceIte, reduceCtorEq, ai, ab, ah, ae, aa, af, hjn, h0, h1, h2, cz, kp1 k77, t1, b7]
   refine aM (β := Nat × ar × CV) (fun t => ([(3, .ptr 0 0 0), (5, .ptr 1 0 0), (6, .ptr 2 0 0), (9, t.2.2), (35, .p (.sl (zF L f))), (36, i64 L), (37, i64 t.1)], t.2.1))
    (fun t => t.1 ≤ L ∧ t.2.1[0]? = some (.kblk 2 (cz d)) ∧ t.2.1[1]? = some (.kblk 2 [.p (.bool false), .nils]) ∧ t.2.1[2]? = some (.kblk 2 (cz G)) ∧ GL t.2.1 2 t.2.2 (zF t.1 fun j => f j / (G : Int))) (fun t => L - t.1) ((0, τ, .nils) : Nat × ar × CV) rfl rfl ⟨aD _, h0, h1, h2, .nil⟩ ?_
   clear h0 h1 h2
   rintro ⟨j, ρ, c⟩ ⟨hj, h0, h1, h2, hg⟩ ih
   simp only [] at hj h0 h1 h2 hg ih ⊢
   by_cases hjn : (j : Int) < L
   ·have hj' : j < L := by omega
    have w1 := wr1 (i := j) (by omega)
    have hfn : Nu (.agg [.bool (decide (f j < 0) && decide ((f j).natAbs ≠ 0)), .sl (lm (dgl (f j).natAbs))]) (f j) := Nu.zi (hf j hj')
    have k134 := (VBn.p134 hfn hGn (by omega)).lift aX
    have l2 := (aq.1 h2).1
    have e2 : ∀ l, (ρ ++ l)[2]? = some (.kblk 2 (cz G)) := fun l => by rw [aL l2]; exact h2
    have hraw := (bg (x := f j / (G : Int))).symm
    have hc : ((zF j fun j => f j / (G : Int)).length + [zi (f j / (G : Int))].length) * 32 ≤ 140737488355328 := by rw [b7]; simp; omega
    have hsuc := lz (n := j) (f := fun j => f j / (G : Int))
    simp only [SB, ak, aj, ↓reduceIte, reduceCtorEq, ai, ab, ah, ae, aa, af, hjn, dV hj', cf, SN, bg (x := f j), e2, cz, kp2 k134, hraw, zV hg hc, hsuc, b7, w1]
    refine ih (j + 1, nd ρ c ++ [.kblk 2 (cz (f j)), .kblk 2 (cz (f j / (G : Int))), .kblk 2 (cz (f j % (G : Int))), .prow 2 [zi (f j / (G : Int))], .prow 2 (zF (j + 1) fun j => f j / (G : Int))], .own (ρ.length + 4) 0 (j + 1)) _ ⟨by simp only []; omega, GL.kb hg h0, GL.kb hg h1, GL.kb hg h2, ?_⟩ (by simp only []; omega) ?_
    ·refine .own ?_ (by rw [b7])
     simp only []
     rw [show ρ.length + 4 = (nd ρ c).length + 4 by rw [c7], cY]; rfl
    ·rfl
   ·obtain rfl : L = j := by omega
    have l1 := (aq.1 h1).1
    have k134 := (VBn.p134 hdn hGn (by omega)).lift aX
    have e1 : ∀ l, (ρ ++ l)[1]? = some (.kblk 2 [.p (.bool false), .nils]) := fun l => by rw [aL l1]; exact h1
    have e3 : ∀ l x, (ρ ++ l).set 1 x = ρ.set 1 x ++ l := fun l x => cv l1
    have e4 : ∀ x l, (ρ.set 1 x ++ l)[1]? = some x := fun x l => by rw [aL (by rw [ay]; exact l1), bt l1]
    simp only [SB, ak, aj, ↓reduceIte, reduceCtorEq, ai, ab, ah, ae, aa, af, hjn, h0, h2, cz, kp2 k134, e1, e3, e4]
    exact dz (GL.left (hg.set h1)).dL aQ
theorem z166 {n e : Nat} {W : Nat → Nat → Int} (hn0 : 0 < n) (hn : n ≤ 12) (he1 : 1 ≤ e) (he : e ≤ 1000) (hW : ∀ i j, i < n → j < n → Sk e (W i j)) : Pu rp 47 [.sl (zM n n W)] (.tup [.p (zi (dI n W)), .p (.int .i64 0)]) := by
 have k192 := p192 hn0 (by omega) fun i j hi hj => (hW i j hi hj).sz (by omega)
 have k193 := p193 hn he1 he hW
 refine aY rp166 ?_
 simp only [f47, aJ, SB, ak, aj, ↓reduceIte, reduceCtorEq, ai, ab, ah, ae, aa, af, kp1 k192, bne_self_eq_false, kp1 k193]
 exact dz aQ aQ
def flC (N : Nat) (W : Nat → Nat → Int) (t : Nat) : Int := cI N W (t % (N + 1)) (t / (N + 1))
theorem z167 {N e : Nat} {W : Nat → Nat → Int} (hN : N + 1 ≤ 12) (he1 : 1 ≤ e) (he : e ≤ 100) (hW : ∀ i j, i < N + 1 → j < N + 1 → Sk e (W i j)) (hd : 0 < dI (N + 1) W) :
 Pu rp 15 [.sl (zM (N + 1) (N + 1) W)] (.tup [.p (.sl (zM (N + 1) (N + 1) fun i k => cI N W k i / (gF (dI (N + 1) W).natAbs (flC N W) ((N + 1) * (N + 1)) : Nat))), .p (zi (dI (N + 1) W / (gF (dI (N + 1) W).natAbs (flC N W) ((N + 1) * (N + 1)) : Nat))), .p (.int .i64 0)]) := by
 have k192 := p192 (n := N + 1) (W := W) (by omega) (by omega) fun i j hi hj => (hW i j hi hj).sz (by omega)
 have k193 := p193 hN he1 (by omega) hW
 have hds : Sz (dI (N + 1) W) := (kD hN hW).sz (by
  have : (e + 1) * (N + 1) ≤ 101 * 12 := Nat.mul_le_mul (by omega) (by omega)
  omega)
 have k77 := (VBn.p77 (Nu.zi hds)).lift aX
 rw [bo hd] at k77
 have hcs : ∀ i k, i < N + 1 → k < N + 1 → Sz (cI N W i k) := fun i k hi hk => by
  have h1 := kD (n := N) (W := fun p q => W (sk i p) (sk k q)) (by omega) fun a b ha hb => hW _ _ (Gs.jY hi ha) (Gs.jY hk hb)
  have h2 : (e + 1) * N ≤ 101 * 12 := Nat.mul_le_mul (by omega) (by omega)
  have h3 := h1.sz (by omega)
  unfold cI
  split
  ·rw [Int.neg_one_mul]; exact h3.neg
  ·rw [Int.one_mul]; exact h3
 have hn2 : (N + 1) * (N + 1) ≤ 144 := Nat.mul_le_mul hN hN
 have hfs : ∀ j, j < (N + 1) * (N + 1) → Sz (flC N W j) := fun j hj => hcs _ _ (ep _ (by omega)) (Nat.div_lt_of_lt_mul hj)
 have k195 := p195 (L := (N + 1) * (N + 1)) (by omega) hfs hd hds
 refine aY rp167 ?_
 rw [bg (x := dI (N + 1) W)] at k77 k195
 generalize hD : dI (N + 1) W = D at *
 have e0 : ((1 : Int) == 0) = false := rfl
 simp only [f15, aJ, SB, ak, aj, ↓reduceIte, reduceCtorEq, ai, ab, ah, ae, aa, af, kp1 k192, bne_self_eq_false, kp1 k193, bg (x := D), kp1 k77, e0]
 refine aM (β := Nat × ar × CV) (fun t => ([(0, .p (.sl (zM (N + 1) (N + 1) W))), (3, .ptr 0 0 0), (5, i64 (N + 1 : Nat)), (7, .ptr 1 0 0), (8, t.2.2), (28, i64 (N + 1 : Nat)), (29, i64 t.1)], t.2.1))
  (fun t => t.1 ≤ N + 1 ∧ t.2.1[0]? = some (.kblk 2 [.p (.bool false), .nils]) ∧ t.2.1[1]? = some (.kblk 2 (cz D)) ∧ GL t.2.1 2 t.2.2 (zF (t.1 * (N + 1)) (flC N W))) (fun t => N + 1 - t.1) ((0, [.kblk 2 [.p (.bool false), .nils], .kblk 2 (cz D)], .nils) : Nat × ar × CV) rfl rfl ⟨aD _, rfl, rfl, by rw [Nat.zero_mul]; exact .nil⟩ ?_
 rintro ⟨i, ρ, c⟩ ⟨hi, h0, h1, hg⟩ ih
 simp only [] at hi h0 h1 hg ih ⊢
 by_cases hin : (i : Int) < (N + 1 : Nat)
 ·have hi' : i < N + 1 := by omega
  have w1 := wr1 (i := i) (by omega)
  simp only [SB, ak, aj, ↓reduceIte, reduceCtorEq, ai, ab, ah, ae, aa, af, hin]
  refine aM (β := Nat × ar × CV) (fun t => ([(0, .p (.sl (zM (N + 1) (N + 1) W))), (3, .ptr 0 0 0), (5, i64 (N + 1 : Nat)), (7, .ptr 1 0 0), (8, t.2.2), (9, i64 i), (28, i64 (N + 1 : Nat)), (29, i64 i), (32, i64 (N + 1 : Nat)), (33, i64 t.1)], t.2.1))
   (fun t => t.1 ≤ N + 1 ∧ t.2.1[0]? = some (.kblk 2 [.p (.bool false), .nils]) ∧ t.2.1[1]? = some (.kblk 2 (cz D)) ∧ GL t.2.1 2 t.2.2 (zF (i * (N + 1) + t.1) (flC N W))) (fun t => N + 1 - t.1) ((0, ρ, c) : Nat × ar × CV) rfl rfl ⟨aD _, h0, h1, hg⟩ ?_
  clear h0 h1 hg
  rintro ⟨k, τ, c2⟩ ⟨hk, h0, h1, hg⟩ ih2
  simp only [] at hk h0 h1 hg ih2 ⊢
  by_cases hkn : (k : Int) < (N + 1 : Nat)
  ·have hk' : k < N + 1 := by omega
   have w2 := wr1 (i := k) (by omega)
   have k194 := p194 hN he1 (by omega) hk' hi' hW
   have hfl : flC N W (i * (N + 1) + k) = cI N W k i := by
    unfold flC
    rw [a7, Nat.mul_add_mod, a6 hk', Nat.mul_add_div (by omega), Nat.div_eq_of_lt hk', bw]
   have hb : i * (N + 1) + k < (N + 1) * (N + 1) := by
    have : (i + 1) * (N + 1) ≤ (N + 1) * (N + 1) := az _ (by omega)
    rw [a8] at this; omega
   have hc : ((zF (i * (N + 1) + k) (flC N W)).length + [zi (cI N W k i)].length) * 32 ≤ 140737488355328 := by rw [b7]; simp; omega
   have hsuc : zF (i * (N + 1) + k) (flC N W) ++ [zi (cI N W k i)] = zF (i * (N + 1) + k + 1) (flC N W) := by rw [← hfl]; exact lz
   simp only [SB, ak, aj, ↓reduceIte, reduceCtorEq, ai, ab, ah, ae, aa, af, hkn, kp3 k194, ia hg hc, hsuc, b7, w2]
   refine ih2 (k + 1, nd τ c2 ++ [.prow 2 [zi (cI N W k i)], .prow 2 (zF (i * (N + 1) + k + 1) (flC N W))], .own (τ.length + 1) 0 (i * (N + 1) + k + 1)) _ ⟨by simp only []; omega, GL.kb hg h0, GL.kb hg h1, GL.nb (by rw [b7]) rfl⟩ (by simp only []; omega) ?_
   rfl
  ·obtain rfl : k = N + 1 := by omega
   simp only [SB, ak, aj, ↓reduceIte, reduceCtorEq, ai, ab, ah, ae, aa, af, hkn, w1]
   refine ih (i + 1, τ, c2) _ ⟨by simp only []; omega, h0, h1, by simp only []; rw [dX]; exact hg⟩ (by simp only []; omega) ?_
   rfl
 ·obtain rfl : i = N + 1 := by omega
  have hpz : frz ρ (.p (.agg [.bool (decide (D < 0) && decide (D.natAbs ≠ 0)), .sl (lm (dgl D.natAbs))])) = some (.agg [.bool (decide (D < 0) && decide (D.natAbs ≠ 0)), .sl (lm (dgl D.natAbs))]) := rfl
  have hf : eG ρ [c, .p (.agg [.bool (decide (D < 0) && decide (D.natAbs ≠ 0)), .sl (lm (dgl D.natAbs))])] = some [.sl (zF ((N + 1) * (N + 1)) (flC N W)), .agg [.bool (decide (D < 0) && decide (D.natAbs ≠ 0)), .sl (lm (dgl D.natAbs))]] := by simp only [eG, hg.frz, hpz, aH]
  have hkl : eC ρ [c, .p (.agg [.bool (decide (D < 0) && decide (D.natAbs ≠ 0)), .sl (lm (dgl D.natAbs))])] = nd ρ c := by
   simp only [eC, List.foldl_cons, List.foldl_nil, hg.kill]
   rfl
  generalize (gF D.natAbs (flC N W) ((N + 1) * (N + 1)) : Nat) = G at *
  have g0 : (nd ρ c)[0]? = some (.kblk 2 [.p (.bool false), .nils]) := by have := GL.kb hg h0 (l := []); rwa [c8] at this
  have g1 : (nd ρ c)[1]? = some (.kblk 2 (cz D)) := by have := GL.kb hg h1 (l := []); rwa [c8] at this
  simp only [S1, S2, S3, S4, S5, iK, gT, S6, setCells, ak, aj, ↓reduceIte, reduceCtorEq, ai, ab, ah, ae, aa, af, hin, h1, cz, kx k195 hf, hkl, g1]
  clear ih hf hkl h0 h1 hg k195 k192 k193
  have l1 := (aq.1 g1).1
  refine aM (β := Nat × ar × CV) (fun t => ([(3, .ptr 0 0 0), (5, i64 (N + 1 : Nat)), (7, .ptr 1 0 0), (8, .p (.sl (zF ((N + 1) * (N + 1)) fun j => flC N W j / (G : Int)))), (11, t.2.2), (51, i64 (N + 1 : Nat)), (52, i64 t.1)], t.2.1))
   (fun t => t.1 ≤ N + 1 ∧ t.2.1[0]? = some (.kblk 2 [.p (.bool false), .nils]) ∧ t.2.1[1]? = some (.kblk 2 (cz (D / (G : Int)))) ∧ GL t.2.1 1 t.2.2 (zM t.1 (N + 1) fun i k => cI N W k i / (G : Int))) (fun t => N + 1 - t.1) ((0, (nd ρ c).set 1 (.kblk 2 (cz (D / (G : Int)))), .nils) : Nat × ar × CV) rfl rfl ⟨aD _, by simp only []; rw [bC (by decide)]; exact g0, bt l1, .nil⟩ ?_
  rintro ⟨i, τ, c2⟩ ⟨hi, h0, h1, hg⟩ ih
  simp only [] at hi h0 h1 hg ih ⊢
  by_cases hii : (i : Int) < (N + 1 : Nat)
  ·have hi' : i < N + 1 := by omega
   have hb : (i + 1) * (N + 1) ≤ (N + 1) * (N + 1) := az _ (by omega)
   have hb2 : (i + 1) * (N + 1) = i * (N + 1) + (N + 1) := dX ..
   have w1 := wr1 (i := i) (by omega)
   have w2 : IntKind.i64.wrap ((i : Int) * ((N + 1 : Nat) : Int)) = ((i * (N + 1) : Nat) : Int) := by rw [← Int.natCast_mul, IntWalk.i64_in _ (by omega)]
   have w3 : IntKind.i64.wrap (((i + 1 : Nat) : Int) * ((N + 1 : Nat) : Int)) = (((i + 1) * (N + 1) : Nat) : Int) := by rw [← Int.natCast_mul, IntWalk.i64_in _ (by omega)]
   have hrow : ((zF ((N + 1) * (N + 1)) fun j => flC N W j / (G : Int)).drop (i * (N + 1))).take ((i + 1) * (N + 1) - i * (N + 1)) = zF (N + 1) fun k => cI N W k i / (G : Int) := by
    rw [hb2, gE]
    apply dv
    intro k
    rw [aN]
    by_cases hk : k < N + 1
    ·rw [if_pos hk, bF, dV (by omega), dV hk]
     have hfl : flC N W (i * (N + 1) + k) = cI N W k i := by
      unfold flC
      rw [a7, Nat.mul_add_mod, a6 hk, Nat.mul_add_div (by omega), Nat.div_eq_of_lt hk, bw]
     rw [hfl]
    ·rw [if_neg hk, aG (by rw [b7]; omega)]
   have hsl : ∀ σ : ar, dw σ 2 (.p (.sl (zF ((N + 1) * (N + 1)) fun j => flC N W j / (G : Int)))) (i * (N + 1)) ((i + 1) * (N + 1)) = some (.p (.sl (zF (N + 1) fun k => cI N W k i / (G : Int)))) := fun σ => by
    unfold dw
    rw [if_pos (by omega)]
    simp only []
    rw [if_pos ⟨by rw [b7]; exact hb, .inr rH⟩, hrow]
   have hc : ((zM i (N + 1) fun i k => cI N W k i / (G : Int)).length + [PV.sl (zF (N + 1) fun k => cI N W k i / (G : Int))].length) * 24 ≤ 140737488355328 := by rw [d6]; simp; omega
   have hsuc := tS (m := i) (n := N + 1) (W := fun i k => cI N W k i / (G : Int))
   have hz1 : dE 1 [PV.sl (zF (N + 1) fun k => cI N W k i / (G : Int))] = true := rfl
   simp only [SB, ak, aj, ↓reduceIte, reduceCtorEq, ai, ab, ah, ae, aa, af, hii, b7, SN, w1, w2, w3, hsl, hb, hz1, ia hg hc, hsuc, d6]
   refine ih (i + 1, nd τ c2 ++ [.prow 1 [.sl (zF (N + 1) fun k => cI N W k i / (G : Int))], .prow 1 (zM (i + 1) (N + 1) fun i k => cI N W k i / (G : Int))], .own (τ.length + 1) 0 (i + 1)) _ ⟨by simp only []; omega, GL.kb hg h0, GL.kb hg h1, GL.nb (by rw [d6]) rfl⟩ (by simp only []; omega) ?_
   rfl
  ·obtain rfl : i = N + 1 := by omega
   have l1 := (aq.1 h1).1
   have l0 := (aq.1 h0).1
   have e0 : ∀ x, (τ.set 0 x)[0]? = some x := fun x => bt l0
   simp only [SB, ak, aj, ↓reduceIte, reduceCtorEq, ai, ab, ah, ae, aa, af, hii, h1, h0, cz, e0]
   exact dT (hg.set h0).dL aQ aQ
theorem rp190 : rp 39 = some f39 := rfl
theorem rp191 : rp 40 = some f40 := rfl
theorem rp189 : rp 38 = some f38 := rfl
theorem rp165 : rp 14 = some f14 := rfl
theorem zl {m n : Nat} {W : Nat → Nat → Int} : (zM m n W).map CV.p ++ [.p (.sl (zF n (W m)))] = (zM (m + 1) n W).map CV.p := by rw [← tS]; simp
theorem uy {σ : ar} : ∀ {l : List PV}, eU σ (l.map .p) = some l
 | [] => rfl
 | x :: l => by
   simp only [List.map_cons, eU, dD]
   rw [uy]; rfl
theorem qU {σ : ar} : ∀ {l : List PV}, eE σ (l.map .p) = σ
 | [] => rfl
 | x :: l => by
   show eE (gi σ (.p x)) (l.map .p) = _
   rw [show gi σ (.p x) = σ from rfl, qU]
theorem uf : ∀ {l : List PV}, (l.map CV.p).flatMap eA = []
 | [] => rfl
 | x :: l => by rw [List.map_cons, cu, uf]; rfl
theorem qj {m n : Nat} {W : Nat → Nat → Int} : (zM m n W).all uv = true := by
 rw [aU]
 intro x hx
 obtain ⟨i, _, rfl⟩ := List.mem_map.1 hx
 rfl
theorem y0 {l : List PV} {m : Nat} : ((l.map CV.p).all (gK m)) = true := by
 rw [aU]
 intro x hx
 obtain ⟨y, _, rfl⟩ := List.mem_map.1 hx
 rfl
theorem A4 {b : List PV} {g : Nat} {cap : List CV} {m n : Nat} {W : Nat → Nat → Int} {σ : ar} (hw : Wf σ) (hbl : b.length = m) (hm : m ≤ 2000000)
 (hg : ∀ i, i < m → ∃ q, b[i]? = some (.sl q) ∧ ∀ (ρ : ar), Pre σ ρ → Wf ρ → ∀ {K : CV → ar → Prop}, (∀ ρ', Pre ρ ρ' → Wf ρ' → K (.p (.sl (zF n (W i)))) ρ') → Rn rp g (.p (.sl q) :: cap) ρ K) {Q : CV → ar → Prop}
 (hQ : ∀ ρ k, Pre σ ρ → Wf ρ → σ.length ≤ k → ρ[k]? = some (.kblk 1 ((zM m n W).map .p)) → Q (.own k 0 m) ρ) : Rn rp 37 [.p (.sl b), .fn g cap] σ Q := by
 rw [ew rp114]
 have m1 : ((24 : Nat) : Int) * (b.length : Int) ≤ 281474976710656 := by omega
 have m2 : (b.length : Int) ≤ 9223372036854775807 := by omega
 have i0 : gG 0 = 0 := rfl
 simp only [f37, aJ, SB, ak, aj, ↓reduceIte, reduceCtorEq, ai, ab, ah, ae, aa, af, Int.natCast_nonneg, m1, m2, i0, dN]
 refine aM (β := Nat × ar × Nat) (fun t => ([(1, .fn g cap), (5, .own t.2.2 0 t.1), (11, .p (.sl b)), (12, i64 b.length), (13, i64 t.1)], t.2.1))
  (fun t => t.1 ≤ b.length ∧ Pre σ t.2.1 ∧ Wf t.2.1 ∧ σ.length ≤ t.2.2 ∧ t.2.1[t.2.2]? = some (.kblk 1 ((zM t.1 n W).map .p))) (fun t => b.length - t.1) ((0, σ ++ [.kblk 1 []], σ.length) : Nat × ar × Nat) rfl rfl
  ⟨aD _, Pre.refl.push, hw.push rfl, av _, by rw [cP]; rfl⟩ ?_
 rintro ⟨i, ρ, k⟩ ⟨hi, hp, hwf, hb, hgl⟩ ih
 simp only [] at hi hp hwf hb hgl ih ⊢
 have hcl : ((zM i n W).map CV.p).length = i := by rw [List.length_map, d6]
 by_cases hin : (i : Int) < b.length
 ·obtain ⟨q, h1, h2⟩ := hg i (by omega)
  have w1 := wr1 (i := i) (by omega)
  simp only [SB, ak, aj, ↓reduceIte, reduceCtorEq, ai, ab, ah, ae, aa, af, hin, h1, SN]
  refine cC (h2 ρ hp hwf fun ρ1 hp1 hw1 => ?_)
  have hk1 : ρ1[k]? = some (.kblk 1 ((zM i n W).map .p)) := by rw [hp1.get k (aq.1 hgl).1]; exact hgl
  have hc : (((zM i n W).map CV.p).length + [CV.p (.sl (zF n (W i)))].length) * 24 ≤ 140737488355328 := by rw [hcl]; simp; omega
  have hA := fun {rp rs base d l dr ks e Q s x} => sj (rp := rp) (rs := rs) (base := base) (d := d) (l := l) (dr := dr) (ks := ks) (e := e) (Q := Q) (a := 0) (s := s) (x := x) (xs := [.p (.sl (zF n (W i)))]) hk1 hcl.symm (Nat.succ_pos 0) hc
  have hcell : ly [CV.p (.sl (zF n (W i)))] = some [CV.p (.sl (zF n (W i)))] := rfl
  simp only [SB, ak, aj, ↓reduceIte, reduceCtorEq, ai, ab, ah, ae, aa, af, hcell, hA, zl, hcl, w1]
  refine ih (i + 1, ρ1.set k .dead ++ [.kblk 1 [.p (.sl (zF n (W i)))], .kblk 1 ((zM (i + 1) n W).map .p)], ρ1.length + 1) _ ⟨by simp only []; omega, ((hp.trans hp1).set hb).push, ?_, ?_, ?_⟩ (by simp only []; omega) ?_
  ·have hz := (hw1.set (b := k) (x := .dead) rfl).push (x := .kblk 1 [.p (.sl (zF n (W i)))]) rfl
   have hz2 := hz.push (x := .kblk 1 ((zM (i + 1) n W).map .p)) (by simp only [dO]; exact y0)
   simpa [aP] using hz2
  ·simp only []; exact a9 (a9 hp.len hp1.len) (Nat.le_add_right _ _)
  ·simp only []
   rw [show ρ1.length + 1 = (ρ1.set k Blk.dead).length + 1 by rw [ay], cY]; rfl
  ·rfl
 ·obtain rfl : i = b.length := by omega
  simp only [SB, ak, aj, ↓reduceIte, reduceCtorEq, ai, ab, ah, ae, aa, af, hin]
  subst hbl
  exact hQ ρ k hp hwf hb hgl
theorem n190 {b : List PV} {g : Nat} {cap : List CV} {m : Nat} {y : Nat → Int} {σ : ar} (hw : Wf σ) (hbl : b.length = m) (hm : m ≤ 2000000)
 (hg : ∀ i, i < m → ∃ q, b[i]? = some (.sl q) ∧ zf σ g cap (.sl q) (y i)) {Q : CV → ar → Prop}
 (hQ : ∀ ρ c, Pre σ ρ → Wf ρ → σ.length ≤ c → ρ[c]? = some (.prow 2 (zF m y)) → Q (.own c 0 m) ρ) : Rn rp 39 [.p (.sl b), .fn g cap] σ Q := by
 rw [ew rp190]
 have m1 : ((32 : Nat) : Int) * (b.length : Int) ≤ 281474976710656 := by omega
 have m2 : (b.length : Int) ≤ 9223372036854775807 := by omega
 have i0 : gG 0 = 0 := rfl
 simp only [f39, aJ, SB, ak, aj, ↓reduceIte, reduceCtorEq, ai, ab, ah, ae, aa, af, Int.natCast_nonneg, m1, m2, i0, dN]
 refine aM (β := Nat × ar × Nat) (fun t => ([(1, .fn g cap), (5, .own t.2.2 0 t.1), (11, .p (.sl b)), (12, i64 b.length), (13, i64 t.1)], t.2.1))
  (fun t => t.1 ≤ b.length ∧ Pre σ t.2.1 ∧ Wf t.2.1 ∧ σ.length ≤ t.2.2 ∧ t.2.1[t.2.2]? = some (.prow 2 (zF t.1 y))) (fun t => b.length - t.1) ((0, σ ++ [.prow 2 []], σ.length) : Nat × ar × Nat) rfl rfl
  ⟨aD _, Pre.refl.push, hw.push rfl, av _, by rw [cP]; rfl⟩ ?_
 rintro ⟨i, ρ, k⟩ ⟨hi, hp, hwf, hb, hgl⟩ ih
 simp only [] at hi hp hwf hb hgl ih ⊢
 by_cases hin : (i : Int) < b.length
 ·obtain ⟨q, h1, hd⟩ := hg i (by omega)
  have w1 := wr1 (i := i) (by omega)
  have hG : GL ρ 2 (.own k 0 i) (zF i y) := .own hgl b7.symm
  have hc : ((zF i y).length + [zi (y i)].length) * 32 ≤ 140737488355328 := by rw [b7]; simp; omega
  have hd' := fun {rs base d l dr ks e Q} => hd ρ hp (rs := rs) (base := base) (d := d) (l := l) (dr := dr) (ks := ks) (e := e) (Q := Q)
  simp only [SB, ak, aj, ↓reduceIte, reduceCtorEq, ai, ab, ah, ae, aa, af, hin, h1, SN, hd', ia hG hc, lz, b7, w1, nd]
  refine ih (i + 1, ρ.set k .dead ++ [.prow 2 [zi (y i)], .prow 2 (zF (i + 1) y)], ρ.length + 1) _ ⟨by simp only []; omega, (hp.set hb).push, ?_, ?_, ?_⟩ (by simp only []; omega) ?_
  ·have h1 := ((hwf.set (b := k) (x := .dead) rfl).push (x := .prow 2 [zi (y i)]) rfl).push (x := .prow 2 (zF (i + 1) y)) rfl
   simpa [aP] using h1
  ·simp only []; exact a9 hp.len (Nat.le_add_right _ _)
  ·simp only []
   rw [show ρ.length + 1 = (ρ.set k Blk.dead).length + 1 by rw [ay], cY]; rfl
  ·rfl
 ·obtain rfl : i = b.length := by omega
  simp only [SB, ak, aj, ↓reduceIte, reduceCtorEq, ai, ab, ah, ae, aa, af, hin]
  subst hbl
  exact hQ ρ k hp hwf hb hgl
theorem n191 {r s : List PV} {d : Int} (h : Pu rp 41 [.sl r, .sl s] (.p (zi d))) : Rn rp 40 [.p (.sl s), .ptr 0 0 0] [.kblk 1 [.p (.sl r)]] fun v τ => v = .p (zi d) ∧ τ[0]? = some (.kblk 1 [.p (.sl r)]) := by
 rw [ew rp191]
 simp only [f40, aJ, SB, ak, aj, ↓reduceIte, reduceCtorEq, ai, ab, ah, ae, aa, af, kp2 h]
 rfl
section
variable {b : List PV} {N : Nat} {X : Nat → Nat → Int}
theorem Bs.mr (h : Bs b N X) : MR b (fun _ => N) X := fun i hi => by
 obtain ⟨r, h1, h2, h3⟩ := h.row i hi
 have := h.n
 exact ⟨r, h1, h2, by show N ≤ 2000000; omega, h3⟩
theorem Bs.b93 (h : Bs b N X) (h0 : b.length ≠ 0) : Pu rp 36 [.sl b] (.tup [.p (.int .i64 b.length), .p (.int .i64 N), .p (.int .i64 0)]) :=
 ((VBn.p93 (Bs.mr h) h0 (by have := h.m; omega)).2 (fun ⟨i, h1, h2⟩ => h2 rfl)).lift aX
theorem p165 (h : Bs b N X) (h0 : b.length ≠ 0) : Pu rp 14 [.sl b] (.tup [.p (.sl (zM b.length b.length (gr N X))), .p (.int .i64 0)]) := by
 have k93 := Bs.b93 h h0
 have hm := h.m
 have hN := h.n
 refine aY rp165 ?_
 simp only [f14, aJ, SB, ak, aj, ↓reduceIte, reduceCtorEq, ai, ab, ah, ae, aa, af, kp1 k93, bne_self_eq_false]
 refine cC (A4 (σ := [.kblk 1 [.p (.sl b)]]) (m := b.length) (n := b.length) (W := gr N X) (Wf.nil.push (x := .kblk 1 [.p (.sl b)]) rfl) rfl (by omega) (fun i hi => ?_) fun ρ k hp hwf hk hgk => ?_)
 ·obtain ⟨r, h1, h2, h3⟩ := h.row i hi
  refine ⟨r, h1, fun ρ hpre hwf K hK => ?_⟩
  rw [ew rp189]
  have hb0 : ρ[0]? = some (.kblk 1 [.p (.sl b)]) := hpre.get 0 (bO _)
  have e0 : ∀ l, (ρ ++ l)[0]? = some (.kblk 1 [.p (.sl b)]) := fun l => by rw [aL (aq.1 hb0).1]; exact hb0
  simp only [f38, aJ, SB, ak, aj, ↓reduceIte, reduceCtorEq, ai, ab, ah, ae, aa, af, e0]
  refine ky (n190 (σ := ρ ++ [.kblk 1 [.p (.sl r)]]) (m := b.length) (y := gr N X i) (hwf.push rfl) rfl (by omega) (fun j hj => ?_) fun ρ2 c hp2 hw2 hc hgc => ?_)
  ·obtain ⟨s, g1, g2, g3⟩ := h.row j hj
   refine ⟨s, g1, fun ρ3 hp3 rs base d l dr ks e Q => ?_⟩
   have hb3 : ρ3[ρ.length]? = some (.kblk 1 [.p (.sl r)]) := by rw [hp3.get _ (by simp)]; exact cP
   have k112 := (VBn.p112 h3 g3 (by rw [h2, g2]) (by omega) fun t ht => ⟨h.sz i t hi (by omega), h.sz j t hj (by omega)⟩).lift aX
   rw [h2] at k112
   rw [qV (b := ρ.length) (al := [.p (.sl s), .ptr 0 0 0]) (by rfl) hb3 (by simp [jc, cellArg]) rfl (n191 k112) rfl, mc hb3]
   rfl
  ·rw [hp2.take]
   refine ⟨(hwf.push rfl).all, _, mU hgc b7.symm hc, ?_⟩
   simp only [SB, ak, aj, ↓reduceIte, reduceCtorEq, ai, ab, ah, ae, aa, af]
   exact hK _ Pre.refl.push (hwf.push rfl)
 ·have hlk := (aq.1 hgk).1
  simp only [SB, ak, aj, ↓reduceIte, reduceCtorEq, ai, ab, ah, ae, aa, af]
  rw [nU (b := k) (o := 0) (n := b.length) rfl hgk uy qj (by rw [uf]; rfl), qU]
  have hg2 : (ρ.set k (.prow 1 (zM b.length b.length (gr N X))))[k]? = some (.prow 1 (zM b.length b.length (gr N X))) := bt hlk
  simp only [SB, ak, aj, ↓reduceIte, reduceCtorEq, ai, ab, ah, ae, aa, af]
  exact dz (GL.own hg2 d6.symm).dL aQ
end
end Go.Proofs.YtdieenbfdeaffabGreat.VDd
namespace Go.Proofs.YtdieenbfdeaffabGreat.VDd
open Go Vpi
open VBn hiding rp tab cV cj mixed sim Big
set_option maxRecDepth 100000
open Gs (Pv dI swp sk cI bU)
theorem rp78 : rp 18 = some f18 := rfl
theorem rp120 : rp 52 = some f52 := rfl
theorem rp197 : rp 93 = some f93 := rfl
theorem rp196 : rp 92 = some f92 := rfl
theorem rp168 : rp 49 = some f49 := rfl
theorem n120 {a : Bool} {b : List PV} {p : PV} {k x : Int} (hk : Nu (.agg [.bool a, .sl b]) k) (hx : Nu p x) : Rn rp 52 [.p p, .ptr 0 0 0] [.kblk 2 [.p (.bool a), .p (.sl b)]] fun v τ => v = .p (zi (k * x)) ∧ τ[0]? = some (.kblk 2 [.p (.bool a), .p (.sl b)]) := by
 have k63 := (sC hk hx).lift aX
 obtain ⟨n1, l1, rfl, -⟩ := hx
 rw [ew rp120]
 simp only [f52, aJ, SB, ak, aj, ↓reduceIte, reduceCtorEq, ai, ab, ah, ae, aa, af, kp2 k63]
 rfl
theorem p78 {kp : PV} {k : Int} {r : List PV} {xs : List Int} (hk : Nu kp k) (h : NL r xs) (hm : r.length ≤ 2000000) : Pu rp 18 [kp, .sl r] (.p (.sl (zr (xs.map (k * ·))))) := by
 obtain ⟨a, b, rfl⟩ := Nu.agg hk
 refine aY rp78 ?_
 simp only [f18, aJ, SB, ak, aj, ↓reduceIte, reduceCtorEq, ai, ab, ah, ae, aa, af]
 refine ky (n116 (σ := [.kblk 2 [.p (.bool a), .p (.sl b)]]) (ys := xs.map (k * ·)) (Wf.nil.push (x := .kblk 2 [.p (.bool a), .p (.sl b)]) rfl) (by rw [List.length_map]; exact h.1) hm (fun i hi => ?_) fun ρ c hp hwf hb hg => ?_)
 ·obtain ⟨p, x, h1, h2, h3⟩ := h.ix hi
  refine ⟨p, k * x, h1, by simp [h2], Nu.agg h3, ?_⟩
  intro ρ hpre rs base d l dr ks e Q
  have h0 : ρ[0]? = some (.kblk 2 [.p (.bool a), .p (.sl b)]) := hpre.get 0 (bO _)
  rw [qV (b := 0) (al := [.p p, .ptr 0 0 0]) rfl h0 rfl rfl (n120 hk h3) rfl, mc h0]
 ·rw [hp.take]
  refine ⟨rfl, _, mU hg dB.symm hb, ?_⟩
  simp only [SB, ak, aj, ↓reduceIte, reduceCtorEq, ai, ab, ah, ae, aa, af]
  rfl
theorem Du {k : Int} {N : Nat} {f : Nat → Int} {kp : PV} (hk : Nu kp k) (hN : N ≤ 2000000) (hf : ∀ j, j < N → Sz (f j)) : Pu rp 18 [kp, .sl (zF N f)] (.p (.sl (zF N fun j => k * f j))) := by
 have h := p78 hk (r := zr ((ca N).map f)) (xs := (ca N).map f) (NL.zr fun i x hx => by
  have hi := (aq.1 hx).1
  simp at hi
  simp [hi] at hx
  subst hx
  exact hf i hi) (by rw [dB]; simpa using hN)
 rw [← AE, List.map_map] at h
 rw [AE (f := fun j => k * f j)]
 exact h
theorem uX {f : Nat → Int} {M : Nat} : ∀ {n : Nat}, (∀ t, t < n → (f t).natAbs ≤ M) → (bU f n).natAbs ≤ n * M
 | 0, _ => by simp [bU]
 | n + 1, h => by
   have h1 := uX (n := n) fun t ht => h t (by omega)
   have h2 := h n (by omega)
   have h3 := Int.natAbs_add_le (bU f n) (f n)
   rw [bU, dX]
   omega
theorem l8 {f : Nat → Int} {e n : Nat} (hn : n ≤ 12) (h : ∀ t, t < n → Sk e (f t)) : Sk (e + 1) (bU f n) := by
 have h1 := uX (M := LB ^ e) fun t ht => Nat.le_of_lt (h t ht)
 unfold Sk
 rw [bJ]
 have h2 : n * LB ^ e ≤ 12 * LB ^ e := az _ hn
 have h3 : LB ^ e * 13 ≤ LB ^ e * LB := bH _ (by decide)
 have h4 : 0 < LB ^ e := dg cQ
 omega
section
variable {b : List PV} {N e : Nat} {X : Nat → Nat → Int} {a : Nat → Int}
theorem p197 (h : Bs b N X) (h0 : b.length ≠ 0) (he : e ≤ 1000) (ha : ∀ t, t < b.length → Sk e (a t)) : Pu rp 93 [.sl (zF b.length a), .sl b] (.p (.sl (zF N fun c => bU (fun t => a t * X t c) b.length))) := by
 refine aY rp197 ?_
 have hm := h.m
 have hN := h.n
 obtain ⟨r0, f1, f2, f3⟩ := h.row 0 (by omega)
 have e0 : ((b.length : Int) == 0) = false := by rw [beq_eq_false_iff_ne]; omega
 have i0 : gG 0 = 0 := rfl
 have m3 : ((32 : Nat) : Int) * (N : Int) ≤ 281474976710656 := by omega
 have m4 : (N : Int) ≤ 9223372036854775807 := by omega
 simp only [f93, aJ, SB, ak, aj, ↓reduceIte, reduceCtorEq, ai, ab, ah, ae, aa, af, e0, f1, i0, f2, Int.natCast_nonneg, m3, m4, dN, Int.toNat_natCast]
 have hz0 : aw N (PV.agg [.bool false, .sl []]) = zF N fun c => bU (fun t => a t * X t c) 0 := by
  simp only [bU]
  rw [← lV]
  unfold zF
  rw [List.map_const', List.length_range]
 refine aM (β := Nat × ar) (fun t => ([(0, .p (.sl (zF b.length a))), (5, .own 0 0 N), (18, .p (.sl b)), (19, i64 b.length), (20, i64 t.1)], t.2))
  (fun t => t.1 ≤ b.length ∧ t.2[0]? = some (.prow 2 (zF N fun c => bU (fun u => a u * X u c) t.1))) (fun t => b.length - t.1) ((0, [.prow 2 (aw N (PV.agg [.bool false, .sl []]))]) : Nat × ar) rfl rfl ⟨aD _, by rw [hz0]; rfl⟩ ?_
 rintro ⟨i, τ⟩ ⟨hi, hg⟩ ih
 simp only [] at hi hg ih ⊢
 by_cases hin : (i : Int) < b.length
 ·have hi' : i < b.length := by omega
  obtain ⟨r, g1, g2, g3⟩ := h.row i hi'
  have w1 := wr1 (i := i) (by omega)
  simp only [SB, ak, aj, ↓reduceIte, reduceCtorEq, ai, ab, ah, ae, aa, af, hin, g1, SN]
  refine aM (β := Nat × ar) (fun t => ([(0, .p (.sl (zF b.length a))), (5, .own 0 0 N), (6, i64 i), (18, .p (.sl b)), (19, i64 b.length), (20, i64 i), (25, .p (.sl r)), (26, i64 r.length), (27, i64 t.1)], t.2))
   (fun t => t.1 ≤ N ∧ t.2[0]? = some (.prow 2 (zF N fun c => if c < t.1 then bU (fun u => a u * X u c) (i + 1) else bU (fun u => a u * X u c) i))) (fun t => N - t.1) ((0, τ) : Nat × ar) rfl rfl ⟨aD _, by simp only []; rw [hg]; congr 2⟩ ?_
  clear hg
  rintro ⟨k, τ⟩ ⟨hk, hg⟩ ih2
  simp only [] at hk hg ih2 ⊢
  by_cases hkn : (k : Int) < r.length
  ·have hk' : k < N := by omega
   obtain ⟨p, k1, k2⟩ := g3 k (by omega)
   have w2 := wr1 (i := k) (by omega)
   have s1 : ∀ u, u < b.length → Sk (e + 8) (a u * X u k) := fun u hu => (ha u hu).mul (h.sz u k hu hk')
   have s2 : Sk (e + 8 + 1) (bU (fun u => a u * X u k) i) := l8 (by omega) fun u hu => s1 u (by omega)
   have k63 := (VBn.sC (Nu.zi ((ha i hi').sz (by omega))) k2).lift aX
   have k145 := (VBn.p145 (Nu.zi (s2.sz (by omega))) (Nu.zi ((s1 i hi').sz (by omega)))).lift aX
   rw [show bU (fun u => a u * X u k) i + a i * X i k = bU (fun u => a u * X u k) (i + 1) from rfl] at k145
   obtain ⟨sb, lb, rfl⟩ := Nu.agg k2
   have l0 := (aq.1 hg).1
   have e1 : ∀ l, (τ ++ l)[0]? = some (.prow 2 (zF N fun c => if c < k then bU (fun u => a u * X u c) (i + 1) else bU (fun u => a u * X u c) i)) := fun l => by rw [aL l0]; exact hg
   have e2 : ∀ l x, (τ ++ l).set 0 x = τ.set 0 x ++ l := fun l x => cv l0
   have b1 := dV (f := fun c => if c < k then bU (fun u => a u * X u c) (i + 1) else bU (fun u => a u * X u c) i) hk'
   simp only [Nat.lt_irrefl, if_false] at b1
   simp only [SB, ak, aj, ↓reduceIte, reduceCtorEq, ai, ab, ah, ae, aa, af, hkn, k1, hk', SN, e1, b1, cf, dV hi', kp2 k63, kp2 k145, rK, wI, e2, w2]
   refine ih2 (k + 1, τ.set 0 (.prow 2 (zF N fun c => if c = k then bU (fun u => a u * X u k) (i + 1) else if c < k then bU (fun u => a u * X u c) (i + 1) else bU (fun u => a u * X u c) i)) ++ [.kblk 2 [.p (.bool sb), .p (.sl lb)]]) _ ⟨by simp only []; omega, ?_⟩ (by simp only []; omega) ?_
   ·simp only []
    rw [aL (by rw [ay]; exact l0), bt l0]
    congr 2
    refine iG fun c hc => ?_
    show (if c = k then _ else _) = _
    by_cases hck : c = k
    ·subst hck
     rw [if_pos rfl, if_pos (by omega)]
    ·rw [if_neg hck]
     by_cases h3 : c < k
     ·rw [if_pos h3, if_pos (by omega)]
     ·rw [if_neg h3, if_neg (by omega)]
   ·rfl
  ·obtain rfl : k = N := by omega
   simp only [SB, ak, aj, ↓reduceIte, reduceCtorEq, ai, ab, ah, ae, aa, af, hkn, w1]
   refine ih (i + 1, τ) _ ⟨by simp only []; omega, ?_⟩ (by simp only []; omega) ?_
   ·simp only []
    rw [hg]
    congr 2
    refine iG fun c hc => ?_
    rw [if_pos hc]
   ·rfl
 ·obtain rfl : i = b.length := by omega
  simp only [SB, ak, aj, ↓reduceIte, reduceCtorEq, ai, ab, ah, ae, aa, af, hin]
  exact (GL.own hg b7.symm).back
end
theorem rp136 : rp 16 = some f16 := rfl
section
variable {b : List PV} {N e m : Nat} {X A : Nat → Nat → Int}
theorem Br {m n i : Nat} {W : Nat → Nat → Int} {f : Nat → Int} : (zM m n W).set i (.sl (zF n f)) = zM m n fun a => if a = i then f else W a := by
 apply dv
 intro k
 by_cases hk : k < m
 ·rw [jo hk]
  by_cases h : i = k
  ·subst h
   rw [aO (by rw [d6]; exact hk), if_pos rfl]
  ·rw [aE h, jo hk, if_neg (Ne.symm h)]
 ·rw [aG (by rw [ay, d6]; omega), aG (by rw [d6]; omega)]
def prM (m : Nat) (A X : Nat → Nat → Int) (i c : Nat) : Int := bU (fun t => A i t * X t c) m
theorem n168 (h : Bs b N X) {B : Nat} (hB : b.length = B) (h0 : b.length ≠ 0) (he : e ≤ 1000) (hm0 : 0 < m) (hm : m ≤ 64) (hA : ∀ i t, i < m → t < B → Sk e (A i t)) {σ : ar} (hw : Wf σ) {Q : CV → ar → Prop}
 (hQ : ∀ ρ k, Pre σ ρ → Wf ρ → σ.length ≤ k → ρ[k]? = some (.prow 1 (zM m N (prM B A X))) → Q (.tup [.own k 0 m, .p (.int .i64 0)]) ρ) : Rn rp 49 [.p (.sl (zM m B A)), .p (.sl b)] σ Q := by
 subst hB
 have hbm := h.m
 have k93 := Bs.b93 h h0
 have k93' := z93 (m := m) (n := b.length) (W := A) hm0 (by omega) (by omega) fun i t hi ht => (hA i t hi ht).sz (by omega)
 rw [ew rp168]
 have e1 : (m : Int) > 0 := by omega
 simp only [f49, aJ, SB, ak, aj, ↓reduceIte, reduceCtorEq, ai, ab, ah, ae, aa, af, kp1 k93', cP, kp1 k93, bne_self_eq_false, e1]
 refine cC (A4 (σ := σ ++ [.kblk 1 [.p (.sl b)]]) (m := m) (n := N) (W := prM b.length A X) (hw.push rfl) d6 (by omega) (fun i hi => ?_) fun ρ k hp hwf hk hgk => ?_)
 ·refine ⟨_, jo hi, fun ρ hpre hwf K hK => ?_⟩
  have hb0 : ρ[σ.length]? = some (.kblk 1 [.p (.sl b)]) := by rw [hpre.get _ (by simp)]; exact cP
  have k197 := p197 h h0 he (a := A i) fun t ht => hA i t hi ht
  rw [ew rp196]
  simp only [f92, aJ, SB, ak, aj, ↓reduceIte, reduceCtorEq, ai, ab, ah, ae, aa, af, hb0, kp2 k197]
  exact hK ρ Pre.refl hwf
 ·have hlk := (aq.1 hgk).1
  simp only [SB, ak, aj, ↓reduceIte, reduceCtorEq, ai, ab, ah, ae, aa, af]
  rw [nU (b := k) (o := 0) (n := m) rfl hgk uy qj (by rw [uf]; rfl), qU]
  have hk2 : σ.length ≤ k := by simp at hk; omega
  have hpp : Pre σ (ρ.set k (.prow 1 (zM m N (prM b.length A X)))) := (Pre.trans (Pre.refl.push) hp).set hk2
  have hww : Wf (ρ.set k (.prow 1 (zM m N (prM b.length A X)))) := hwf.set rfl
  simp only [SB, ak, aj, ↓reduceIte, reduceCtorEq, ai, ab, ah, ae, aa, af]
  exact hQ _ k hpp hww hk2 (bt hlk)
def dmM (m : Nat) (N : Nat) (X : Nat → Nat → Int) (i c : Nat) : Int := bU (fun t => cI (m - 1) (gr N X) t i * X t c) m
theorem p136 (h : Bs b N X) (h0 : b.length ≠ 0) (hd : 0 < dI b.length (gr N X)) : Pu rp 16 [.sl b] (.tup [.p (.sl (zM b.length N (dmM b.length N X))), .p (zi (dI b.length (gr N X)))]) := by
 have hbm := h.m
 have hN := h.n
 obtain ⟨n, hn⟩ : ∃ n, b.length = n + 1 := ⟨b.length - 1, by omega⟩
 have hW : ∀ i j, i < n + 1 → j < n + 1 → Sk 17 (gr N X i j) := fun i j hi hj => js (fun t ht => ⟨h.sz i t (by omega) ht, h.sz j t (by omega) ht⟩) hN
 have k165 := p165 h h0
 rw [hn] at k165 hd ⊢
 have k166 := z166 (by omega) (by omega) (by decide) (by decide) hW
 have k167 := z167 (by omega) (by decide) (by decide) hW hd
 have hdk := kD (by omega) hW
 have hck : ∀ i k, i < n + 1 → k < n + 1 → Sk 217 (cI n (gr N X) i k) := fun i k hi hk => by
  have h1 := (kD (n := n) (W := fun p q => gr N X (sk i p) (sk k q)) (by omega) fun a c ha hc => hW _ _ (Gs.jY hi ha) (Gs.jY hk hc)).mono (m := 217) (by omega)
  unfold cI
  split
  ·rw [Int.neg_one_mul]; exact h1.neg
  ·rw [Int.one_mul]; exact h1
 obtain ⟨v1, v2⟩ := oO (g := (dI (n + 1) (gr N X)).natAbs) (f := flC n (gr N X)) (n := (n + 1) * (n + 1))
 generalize hD : dI (n + 1) (gr N X) = D at *
 generalize hG : gF D.natAbs (flC n (gr N X)) ((n + 1) * (n + 1)) = G at *
 have hGp : 0 < G := Nat.pos_of_dvd_of_pos v1 (by omega)
 have hGD : (G : Int) ∣ D := Int.ofNat_dvd_left.2 v1
 have hdiv : ∀ i k, i < n + 1 → k < n + 1 → (G : Int) ∣ cI n (gr N X) k i := fun i k hi hk => by
  have hb : (i + 1) * (n + 1) ≤ (n + 1) * (n + 1) := az _ (by omega)
  have hb2 : (i + 1) * (n + 1) = i * (n + 1) + (n + 1) := dX ..
  have := v2 (i * (n + 1) + k) (by omega)
  unfold flC at this
  rw [a7 i, Nat.mul_add_mod, a6 hk, Nat.mul_add_div (by omega), Nat.div_eq_of_lt hk, bw] at this
  exact Int.ofNat_dvd_left.2 this
 have hDs : Sz D := hdk.sz (by omega)
 have hDG : Sz (D / (G : Int)) := hDs.le (Int.natAbs_ediv_le_natAbs ..)
 have hDGp : 0 < D / (G : Int) := Int.ediv_pos_of_pos_of_dvd hd (by omega) hGD
 have k97 := p97 (Nu.zi hDs) (Nu.zi hDG) hDGp ⟨(G : Int), by rw [Int.ediv_mul_cancel hGD]⟩
 have hq : D / (D / (G : Int)) = G := by
  obtain ⟨q, hq⟩ := hGD
  rw [hq, Int.mul_ediv_cancel_left _ (by omega), Int.mul_ediv_cancel _ (by
   rintro rfl
   rw [Int.mul_zero] at hq; omega)]
 rw [hq] at k97
 have hA : ∀ i t, i < n + 1 → t < b.length → Sk 217 (cI n (gr N X) t i / (G : Int)) := fun i t hi ht => (hck t i (by omega) hi).le (Int.natAbs_ediv_le_natAbs ..)
 have hGs : Sz (G : Int) := hDs.le (by
  have := Nat.le_of_dvd (by omega) v1
  omega)
 have hsum : ∀ i c, i < n + 1 → c < N → Sk 226 (prM (n + 1) (fun i k => cI n (gr N X) k i / (G : Int)) X i c) := fun i c hi hc => l8 (e := 225) (by omega) fun t ht => (hA i t hi (by omega)).mul (h.sz t c (by omega) hc)
 have hmul : ∀ i c, i < n + 1 → (G : Int) * prM (n + 1) (fun i k => cI n (gr N X) k i / (G : Int)) X i c = dmM (n + 1) N X i c := fun i c hi => by
  unfold prM dmM
  have key : ∀ m', m' ≤ n + 1 → (G : Int) * bU (fun t => cI n (gr N X) t i / (G : Int) * X t c) m' = bU (fun t => cI n (gr N X) t i * X t c) m' := by
   intro m'
   induction m' with
   | zero => intro _; simp [bU]
   | succ m' ih =>
     intro hm'
     rw [bU, bU, Int.mul_add, ih (by omega), ← Int.mul_assoc, Int.mul_ediv_cancel' (hdiv i m' hi (by omega))]
  exact key _ (av _)
 refine aY rp136 ?_
 rw [bg (x := D), bg (x := D / (G : Int))] at k97
 simp only [f16, aJ, SB, ak, aj, ↓reduceIte, reduceCtorEq, ai, ab, ah, ae, aa, af, kp1 k165, kp1 k166, bg (x := D), kp1 k167, bg (x := D / (G : Int)), kp2 k97]
 have hwf : Wf [Blk.kblk 2 [.p (.bool false), .nils], .kblk 2 (cz D), .kblk 2 (cz (D / (G : Int))), .kblk 2 (cz G)] := (((Wf.nil.push (x := .kblk 2 [.p (.bool false), .nils]) rfl).push (x := .kblk 2 (cz D)) rfl).push (x := .kblk 2 (cz (D / (G : Int)))) rfl).push (x := .kblk 2 (cz G)) rfl
 refine cC (n168 h hn h0 (e := 217) (m := n + 1) (by decide) (by omega) (by omega) (fun i t hi ht => hA i t hi (by omega)) hwf fun ρ k hp hwf2 hk hgk => ?_)
 have r0 : ρ[0]? = some (.kblk 2 [.p (.bool false), .nils]) := hp.get 0 (by simp)
 have r1 : ρ[1]? = some (.kblk 2 (cz D)) := hp.get 1 (by simp)
 have r3 : ρ[3]? = some (.kblk 2 (cz G)) := hp.get 3 (by simp)
 have hGn : Nu (.agg [.bool (decide ((G : Int) < 0) && decide (((G : Nat) : Int).natAbs ≠ 0)), .sl (lm (dgl ((G : Nat) : Int).natAbs))]) (G : Int) := Nu.zi hGs
 simp only [SB, ak, aj, ↓reduceIte, reduceCtorEq, ai, ab, ah, ae, aa, af]
 refine aM (β := Nat × ar) (fun t => ([(3, .ptr 0 0 0), (6, .ptr 1 0 0), (11, .ptr 3 0 0), (13, .own k 0 (n + 1)), (45, i64 (n + 1 : Nat)), (46, i64 t.1)], t.2))
  (fun t => t.1 ≤ n + 1 ∧ t.2[0]? = some (.kblk 2 [.p (.bool false), .nils]) ∧ t.2[1]? = some (.kblk 2 (cz D)) ∧ t.2[3]? = some (.kblk 2 (cz G)) ∧ t.2[k]? = some (.prow 1 (zM (n + 1) N fun a c => if a < t.1 then dmM (n + 1) N X a c else prM (n + 1) (fun i k => cI n (gr N X) k i / (G : Int)) X a c))) (fun t => n + 1 - t.1) ((0, ρ) : Nat × ar) rfl rfl ⟨aD _, r0, r1, r3, by simp only []; rw [hgk]; congr 2⟩ ?_
 clear hgk hk hp hwf2 hwf r0 r1 r3
 rintro ⟨i, τ⟩ ⟨hi, r0, r1, r3, hgk⟩ ih
 simp only [] at hi r0 r1 r3 hgk ih ⊢
 have lk := (aq.1 hgk).1
 by_cases hin : (i : Int) < (n + 1 : Nat)
 ·have hi' : i < n + 1 := by omega
  have w1 := wr1 (i := i) (by omega)
  have hrow := jo (m := n + 1) (n := N) (W := fun a c => if a < i then dmM (n + 1) N X a c else prM (n + 1) (fun i k => cI n (gr N X) k i / (G : Int)) X a c) hi'
  simp only [Nat.lt_irrefl, if_false] at hrow
  have k78 := Du hGn (N := N) (f := fun c => prM (n + 1) (fun i k => cI n (gr N X) k i / (G : Int)) X i c) (by omega) fun c hc => (hsum i c hi' hc).sz (by omega)
  have k78' : Pu rp 18 [.agg [.bool (decide ((G : Int) < 0) && decide (((G : Nat) : Int).natAbs ≠ 0)), .sl (lm (dgl ((G : Nat) : Int).natAbs))], .sl (zF N (prM (n + 1) (fun i k => cI n (gr N X) k i / (G : Int)) X i))] (.p (.sl (zF N (dmM (n + 1) N X i)))) := by
   rw [show zF N (dmM (n + 1) N X i) = zF N (fun c => (G : Int) * prM (n + 1) (fun i k => cI n (gr N X) k i / (G : Int)) X i c) from iG fun c _ => (hmul i c hi').symm]
   exact k78
  have hset : (zM (n + 1) N fun a c => if a < i then dmM (n + 1) N X a c else prM (n + 1) (fun i k => cI n (gr N X) k i / (G : Int)) X a c).set i (.sl (zF N (dmM (n + 1) N X i))) = zM (n + 1) N fun a c => if a < i + 1 then dmM (n + 1) N X a c else prM (n + 1) (fun i k => cI n (gr N X) k i / (G : Int)) X a c := by
   rw [Br]
   refine rG fun a c ha hc => ?_
   show (if a = i then dmM (n + 1) N X i else fun c => _) c = _
   by_cases h1 : a = i
   ·subst h1
    rw [if_pos rfl, if_pos (bO a)]
   ·rw [if_neg h1]
    by_cases h2 : a < i
    ·rw [if_pos h2, if_pos (by omega)]
    ·rw [if_neg h2, if_neg (by omega)]
  have k0 : k ≠ 0 := by rintro rfl; rw [r0] at hgk; cases hgk
  have k1 : k ≠ 1 := by rintro rfl; rw [r1] at hgk; cases hgk
  have k3 : k ≠ 3 := by rintro rfl; rw [r3] at hgk; cases hgk
  simp only [SB, ak, aj, ↓reduceIte, reduceCtorEq, ai, ab, ah, ae, aa, af, hin, hi', SN, hgk, hrow, r3, cz, kz2 k78', hset, w1]
  refine ih (i + 1, τ.set k (.prow 1 (zM (n + 1) N fun a c => if a < i + 1 then dmM (n + 1) N X a c else prM (n + 1) (fun i k => cI n (gr N X) k i / (G : Int)) X a c))) _ ⟨by simp only []; omega, by simp only []; rw [bC k0]; exact r0, by simp only []; rw [bC k1]; exact r1, by simp only []; rw [bC k3]; exact r3, bt lk⟩ (by simp only []; omega) ?_
  rfl
 ·obtain rfl : i = n + 1 := by omega
  have l0 := (aq.1 r0).1
  have k0 : (0 : Nat) ≠ k := by rintro rfl; rw [r0] at hgk; cases hgk
  have e1 : ∀ x, (τ.set 0 x)[0]? = some x := fun x => bt l0
  simp only [SB, ak, aj, ↓reduceIte, reduceCtorEq, ai, ab, ah, ae, aa, af, hin, r0, r1, cz, e1]
  have hgk2 : ∀ x : Blk, (τ.set 0 x)[k]? = some (.prow 1 (zM (n + 1) N (dmM (n + 1) N X))) := fun x => by
   rw [bC k0, hgk]
   congr 2
   refine rG fun a c ha hc => ?_
   rw [if_pos ha]
  exact dz (GL.own (hgk2 _) d6.symm).dL aQ
end
end Go.Proofs.YtdieenbfdeaffabGreat.VDd
namespace Go.Proofs.YtdieenbfdeaffabGreat.VDd
open Go Vpi
open VBn hiding rp tab cV cj mixed sim Big
set_option maxRecDepth 100000
open Gs (V Dv Pos dI sk cI bU)
section
variable {b : List PV} {nn : Nat → Nat} {X : Nat → Nat → Int}
theorem zo {m : Nat} (h : vE nn X m = 0) : shE nn X m = 0 ∧ Pos (gr (nn 0) X) m := by
 unfold vE at h
 by_cases hs : shE nn X m = 0
 ·refine ⟨hs, ?_⟩
  rw [if_neg (by simp [hs])] at h
  by_cases hp : Pos (gr (nn 0) X) m
  ·exact hp
  ·rw [if_neg hp] at h; cases h
 ·rw [if_pos hs] at h
  exact absurd h hs
structure Vb (b : List PV) (N : Nat) (X : Nat → Nat → Int) : Prop where
 bs : Bs b N X
 ne : b.length ≠ 0
 pos : Pos (gr N X) b.length
theorem kd (hb : MR b nn X) (h : vE nn X b.length = 0) : Vb b (nn 0) X := by
 obtain ⟨h1, h2⟩ := zo h
 exact ⟨MR.bs hb h1, (mb h1).2.1, h2⟩
theorem Vb.dI {N : Nat} (h : Vb b N X) : 0 < dI b.length (gr N X) := by
 rw [Gs.Bc dY h.pos]
 have h0 := h.ne
 obtain ⟨n, hn⟩ : ∃ n, b.length = n + 1 := ⟨b.length - 1, by omega⟩
 have := h.pos n (by omega)
 rw [hn]
 exact this
theorem kg {f g : Nat → Int} : ∀ {n : Nat}, bU (fun t => f t + g t) n = bU f n + bU g n
 | 0 => rfl
 | n + 1 => by
   simp only [bU]
   rw [kg]
   omega
theorem iI {c : Int} {f : Nat → Int} : ∀ {n : Nat}, bU (fun t => c * f t) n = c * bU f n
 | 0 => by simp [bU]
 | n + 1 => by
   simp only [bU]
   rw [iI, Int.mul_add]
theorem vD {x : Nat → Int} {C : Nat → Int} {Y : Nat → Nat → Int} {m : Nat} : ∀ {N : Nat}, eh x (fun c => bU (fun t => C t * Y t c) m) N = bU (fun t => C t * eh x (Y t) N) m
 | 0 => by
   simp only [eh]
   rw [Gs.cT (g := fun _ => 0) fun t _ => Int.mul_zero _]
   have : ∀ m, bU (fun _ => 0) m = 0 := fun m => by
    induction m with
    | zero => rfl
    | succ m ih => rw [bU, ih]; rfl
   exact (this m).symm
 | N + 1 => by
   simp only [eh]
   rw [vD, ← iI, ← kg]
   refine Gs.cT fun t _ => ?_
   rw [Int.mul_add, Int.mul_left_comm]
theorem xR {N n : Nat} {X : Nat → Nat → Int} {i k : Nat} (hi : i < n + 1) (hk : k < n + 1) : eh (X i) (dmM (n + 1) N X k) N = if i = k then Gs.dI (n + 1) (gr N X) else 0 := by
 show eh (X i) (fun c => bU (fun t => cI n (gr N X) t k * X t c) (n + 1)) N = _
 rw [vD, ← Gs.tN (g := gr N X) hk hi]
 refine Gs.cT fun t _ => ?_
 rw [Int.mul_comm, dY t i]
 rfl
end
end Go.Proofs.YtdieenbfdeaffabGreat.VDd

