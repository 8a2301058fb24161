/- Resolved code of functions, printed by a program of ours (genfun.py); each is held against the model by chkF; The functions together; Numbers made: zint.made, zint.Of and the reference's; nat: trim, Norm, Cmp, Add; nat: Add, less, Sub; nat: less, Sub; nat.Mul; Bits of a limb, division by one limb, shifts by less than a limb; Division by one limb; shifts by less than a limb; Shifts by less than a limb; The next digit of a quotient; nat.Div: the simple cases; nat.Div, the general case; Whole numbers with a sign: zint; The reference's naturals: limb, most, Cmp, Add, less, Sub, Mul. No condition. -/
import Derived.Test.YtdieenbfdeaffabGreatZa2
import Derived.Test.YtdieenbfdeaffabGreatProg
import Derived.KernelRfl
import Derived.Test.YtdieenbfdeaffabGreatZa3
import Derived.Laws.Bits64
set_option linter.unusedSimpArgs false
set_option linter.unusedVariables false
open Bool renaming and_eq_true → aA, false_eq_true → aR
open Int renaming reduceLT → aj, reduceLE → ak, sign_eq_one_of_pos → bo, sign_eq_neg_one_of_neg → bY, le_refl → dN, toNat → gG
open List renaming replicate → aw, length_set → ay, getElem?_append_left → aB, getElem?_append_right → aC, getElem?_set_ne → aE, getElem?_eq_none → aG, append_assoc → aP, length_take → aS, all_eq_true → aU, getElem?_drop → bF, getElem?_eq_getElem → bG, length_append → bX, take_of_length_le → b6, range → ca, not_mem_nil → cU, append_nil → c8, drop_eq_getElem_cons → di, length_cons → dZ, length_replicate → eK, drop_of_length_le → eW, cons_append → fk, getElem?_cons_zero → gO
open Nat renaming reduceLeDiff → aa, reduceEqDiff → ab, reduceMul → ae, reduceBEq → af, reduceAdd → ah, reduceLT → ai, le_refl → av, lt_or_ge → ax, mul_le_mul_right → az, zero_le → aD, mod_eq_of_lt → a6, mul_comm → a7, add_mul → a8, le_trans → a9, add_zero → bw, mul_le_mul_left → bH, pow_succ → bJ, lt_succ_self → bO, lt_of_lt_of_le → bP, lt_of_le_of_lt → bQ, mul_assoc → bW, mul_add → ck, pow_pos → dg, add_assoc → dh, mul_one → dq, pos_of_ne_zero → dU, zero_add → d8, mod_lt → ep, eq_zero_or_pos → eu, sub_self → eI, mul_zero → fj, add_sub_cancel_left → gE
open Option renaming map_eq_some_iff → au, map_some → aH
namespace Go.Proofs.YtdieenbfdeaffabGreat
open Go
namespace Vpi
abbrev mq (d s : Nat) : LOp := lq d (.mv (.t s))
abbrev lT (d n s : Nat) : LOp := lq d (.load true n (.t s))
abbrev lF (d n s : Nat) : LOp := lq d (.load false n (.t s))
abbrev sq (n a x : Nat) : LOp := ⟨none, none, none, .store n (.t a) (.t x)⟩
abbrev ki (z : Int) : Opd := .c (.p (.int .i64 z))
abbrev bq (d : Nat) (o : BinOp) (a b : Nat) : LOp := lq d (.bin o (.t a) (.t b))
abbrev xq (d n a b : Nat) : LOp := lq d (.indexA n (.t a) (.t b))
abbrev iQ (d : Nat) (z : Int) : LOp := lq d (.mv (ki z))
abbrev qS (l : List LOp) (c : RCode) : RCode := .seq (.reg l none) c
abbrev cA (d f a : Nat) : LOp := lq d (.call .pu f [.t a])
abbrev cB (d f a b : Nat) : LOp := lq d (.call .pu f [.t a, .t b])
abbrev eX (d a i : Nat) : LOp := lq d (.extract (.t a) i)
abbrev fQ (d o a : Nat) : LOp := lq d (.fieldA o (.t a))
abbrev nQ (d a : Nat) : LOp := lq d (.len (.t a))
abbrev zQ (d : Nat) : LOp := lq d (.alloc [.p (.bool false), .nils])
abbrev bK (d : Nat) (o : BinOp) (a : Nat) (z : Int) : LOp := lq d (.bin o (.t a) (ki z))
end Vpi
end Go.Proofs.YtdieenbfdeaffabGreat
namespace Go.Proofs.YtdieenbfdeaffabGreat.VBn
open Go Vpi
set_option maxRecDepth 100000
def f7 : RFun := ⟨(qS [iQ 2 0]
 (qS [mq 6 0, lq 7 (.call .pu 22 [.t 6, .c (.p (.bool true))]), mq 5 7, eX 8 5 0, eX 9 5 1, lq 3 (.alloc [.nils, .nils]), sq 2 3 8, mq 4 9]
 (qS [mq 10 4, mq 2 10]
 .ret))), [.t 2]⟩
def f13 : RFun := ⟨(qS [iQ 2 0]
 (qS [mq 6 0, lq 7 (.call .pu 35 [.t 6, .c (.p (.bool true))]), mq 5 7, eX 8 5 0, eX 9 5 1, lq 3 (.alloc [.nils, .nils]), sq 2 3 8, mq 4 9]
 (qS [mq 10 4, mq 2 10]
 .ret))), [.t 2]⟩
def f22 : RFun := ⟨(qS [lq 4 (.alloc [.nils, .nils]), iQ 5 0]
 (qS [mq 9 0, mq 10 1, cB 11 59 9 10, mq 6 11]
 (.seq (qS [mq 12 6, bK 13 .neq 12 0]
 (.fg [0, 4, 6, 13] (.cond (.t 13)
 (qS [lq 14 (.build [.nils, .nils] []), mq 15 6, sq 2 4 14, mq 5 15]
 .ret)
 .skip)))
 (qS [mq 17 0, cA 18 60 17, mq 16 18, eX 19 16 0, eX 20 16 1, lq 7 (.alloc [.nils, .nils]), sq 2 7 19, mq 8 20]
 (.seq (qS [mq 21 8, lq 22 (.un .not (.t 21))]
 (.fg [4, 7, 22] (.cond (.t 22)
 (qS [lq 23 (.build [.nils, .nils] []), sq 2 4 23, iQ 5 50]
 .ret)
 .skip)))
 (qS [lT 24 2 7, sq 2 4 24, iQ 5 0]
 .ret)))))), [.cell 4 true 2, .t 5]⟩
def f27 : RFun := ⟨(qS [zQ 2]
 (qS [mq 4 0, lq 5 (.conv .u64 (.t 4)), mq 3 5]
 (.seq (qS [mq 6 0, bK 7 .lss 6 0]
 (.fg [0, 2, 3, 7] (.cond (.t 7)
 (.reg [mq 8 3, lq 9 (.un .neg (.t 8)), mq 3 9] none)
 .skip)))
 (qS [mq 10 0, bK 11 .lss 10 0, mq 12 3, lq 13 (.conv .u32 (.t 12)), mq 14 3, lq 15 (.bin .shr (.t 14) (.c (.p (.int .u64 32)))), lq 16 (.conv .u32 (.t 15)), lq 17 (.bslice 1 [.t 13, .t 16]), lq 18 (.call .fz 67 [.t 11, .t 17]), sq 2 2 18]
 .ret)))), [.cell 2 true 2]⟩
def f28 : RFun := ⟨(qS [lq 2 (.box (.t 0)), lq 3 (.box (.t 1)), lq 4 (.alloc [.p (.bool false), .nils, .p (.bool false), .nils])]
 (qS [lT 14 2 2, cA 15 68 14, zQ 5, sq 2 5 15]
 (qS [lT 16 2 3, cA 17 68 16, zQ 6, sq 2 6 17]
 (.seq (qS [lT 18 2 6, cA 19 69 18, bK 20 .lss 19 0]
 (.fg [4, 5, 6, 20] (.cond (.t 20)
 (qS [lT 21 2 5, cA 22 70 21, sq 2 5 22]
 (.reg [lT 23 2 6, cA 24 70 23, sq 2 6 24] none))
 .skip)))
 (qS [fQ 25 1 5, lF 26 1 25, fQ 27 1 6, lF 28 1 27, cB 29 30 26 28, mq 7 29]
 (qS [fQ 31 1 5, lF 32 1 31, mq 33 7, cB 34 71 32 33, mq 30 34, eX 35 30 0, eX 36 30 1, eX 37 30 2, mq 8 35, mq 9 36, mq 10 37]
 (qS [fQ 39 1 6, lF 40 1 39, mq 41 7, cB 42 71 40 41, mq 38 42, eX 43 38 0, eX 44 38 1, eX 45 38 2, mq 11 43, mq 12 44, mq 13 45]
 (qS [fQ 46 0 5, lF 47 1 46, mq 48 8, lq 49 (.build [.p (.bool false), .nils] [(0, 1, .t 47), (1, 1, .t 48)]), cA 50 68 49, mq 51 11, lq 52 (.build [.p (.bool false), .nils] [(1, 1, .t 51)]), lq 53 (.build [.p (.bool false), .nils, .p (.bool false), .nils] [(0, 2, .t 50), (2, 2, .t 52)]), sq 4 4 53]
 .ret)))))))), [.cell 4 true 4]⟩
def f30 : RFun := ⟨(qS [lq 4 (.mv (.c (.nils)))]
 (qS [mq 10 0, cA 11 78 10, mq 5 11]
 (qS [mq 12 1, cA 13 78 12, mq 6 13]
 (.seq (.block 0
 (.loop (.fg [5, 6]
 (.seq (qS [mq 14 6, nQ 15 14, bK 16 .gtr 15 0]
 (.fg [5, 6, 16] (.cond (.t 16)
 .skip
 (.exit 0))))
 (.fg [5, 6] (.block 1
 (qS [mq 18 5, mq 19 6, cB 20 71 18 19, mq 17 20, eX 21 17 0, eX 22 17 1, eX 23 17 2, mq 7 21, mq 8 22, mq 9 23]
 (qS [mq 24 6, mq 5 24]
 (.reg [mq 25 8, mq 6 25] none)))))))))
 (.fg [5] (qS [mq 26 5, mq 4 26]
 .ret)))))), [.t 4]⟩
def f32 : RFun := ⟨(qS [lq 2 (.box (.t 0)), lq 3 (.box (.t 1)), zQ 4]
 (.seq (.reg [fQ 5 0 2, lF 6 1 5, fQ 7 0 3, lF 8 1 7, lq 9 (.beq true (.t 6) (.t 8)), fQ 10 1 2, lF 11 1 10, fQ 12 1 3, lF 13 1 12, cB 14 81 11 13, cB 15 67 9 14, sq 2 4 15] (some (0, [])))
 .ret)), [.cell 4 true 2]⟩
def f34 : RFun := ⟨(qS [zQ 4]
 (qS [zQ 5]
 (.seq (qS [iQ 6 0]
 (.fg [0, 1, 4, 5, 6] (.block 0
 (.loop (.fg [0, 1, 4, 5, 6]
 (.seq (qS [mq 7 6, mq 8 0, nQ 9 8, bq 10 .lss 7 9, mq 11 10, ⟨(some 12), (some (11, true)), none, .mv (.t 6)⟩, ⟨(some 13), (some (11, true)), none, .mv (.t 1)⟩, ⟨(some 14), (some (11, true)), none, .len (.t 13)⟩, ⟨(some 15), (some (11, true)), none, .bin .lss (.t 12) (.t 14)⟩, lq 16 (.pick (.t 11) (.t 15) (.c (.p (.bool false))))]
 (.fg [0, 1, 4, 5, 6, 16] (.cond (.t 16)
 .skip
 (.exit 0))))
 (.seq (.block 1
 (.reg [lT 19 2 5, mq 20 0, mq 21 6, xq 22 2 20 21, lT 23 2 22, mq 24 1, mq 25 6, xq 26 2 24 25, lT 27 2 26, cB 28 32 23 27, cB 29 80 19 28, sq 2 5 29] (some (0, []))))
 (.fg [0, 1, 4, 5, 6] (.reg [mq 17 6, bK 18 .add 17 1, mq 6 18] none)))))))))
 (qS [lT 30 2 5, sq 2 4 30]
 .ret)))), [.cell 4 true 2]⟩
def f35 : RFun := ⟨(qS [lq 4 (.alloc [.nils, .nils]), iQ 5 0]
 (.seq (qS [mq 9 0, mq 10 1, cB 11 82 9 10, mq 6 11]
 (qS [mq 12 6, bK 13 .neq 12 0]
 (.fg [0, 4, 6, 13] (.cond (.t 13)
 (qS [lq 14 (.build [.nils, .nils] []), mq 15 6, sq 2 4 14, mq 5 15]
 .ret)
 .skip))))
 (qS [mq 17 0, cA 18 83 17, mq 16 18, eX 19 16 0, eX 20 16 1, lq 7 (.alloc [.nils, .nils]), sq 2 7 19, mq 8 20]
 (.seq (qS [mq 21 8, lq 22 (.un .not (.t 21))]
 (.fg [4, 7, 22] (.cond (.t 22)
 (qS [lq 23 (.build [.nils, .nils] []), sq 2 4 23, iQ 5 50]
 .ret)
 .skip)))
 (qS [lT 24 2 7, sq 2 4 24, iQ 5 0]
 .ret))))), [.cell 4 true 2, .t 5]⟩
def f36 : RFun := ⟨(qS [iQ 2 0, iQ 3 0, iQ 4 0]
 (.seq (qS [mq 7 0, nQ 8 7, bK 9 .eql 8 0]
 (.fg [0, 9] (.cond (.t 9)
 (qS [iQ 2 0, iQ 3 0, iQ 4 0]
 .ret)
 .skip)))
 (.seq (qS [mq 10 0, nQ 11 10, iQ 12 0]
 (.fg [0, 10, 11, 12] (.block 0
 (.loop (.fg [0, 10, 11, 12]
 (qS [bq 13 .lss 12 11]
 (.seq (.cond (.t 13)
 .skip
 (.exit 0))
 (.fg [0, 10, 11, 12] (.seq (.block 1
 (qS [xq 14 1 10 12, lF 15 1 14, mq 6 15]
 (qS [mq 16 6, nQ 17 16, mq 18 0, lq 19 (.indexA 1 (.t 18) (ki 0)), lF 20 1 19, nQ 21 20, bq 22 .neq 17 21]
 (.fg [0, 10, 11, 12, 22] (.cond (.t 22)
 (qS [iQ 2 0, iQ 3 0, iQ 4 8]
 .ret)
 .skip)))))
 (.fg [0, 10, 11, 12] (.reg [bK 23 .add 12 1, mq 12 23] none)))))))))))
 (.seq (.reg [mq 24 0, nQ 25 24, mq 26 0, lq 27 (.indexA 1 (.t 26) (ki 0)), lF 28 1 27, nQ 29 28, mq 2 25, mq 3 29, iQ 4 0] (some (0, [])))
 .ret)))), [.t 2, .t 3, .t 4]⟩
def f41 : RFun := ⟨(qS [zQ 4]
 (qS [zQ 5]
 (.seq (qS [mq 7 0, nQ 8 7, iQ 9 0]
 (.fg [0, 1, 4, 5, 8, 9] (.block 0
 (.loop (.fg [0, 1, 4, 5, 8, 9]
 (qS [bq 10 .lss 9 8]
 (.seq (.cond (.t 10)
 .skip
 (.exit 0))
 (.fg [0, 1, 4, 5, 8, 9] (.seq (.block 1
 (qS [mq 11 9, mq 6 11]
 (.reg [lT 12 2 5, mq 13 0, mq 14 6, xq 15 2 13 14, lT 16 2 15, mq 17 1, mq 18 6, xq 19 2 17 18, lT 20 2 19, cB 21 53 16 20, cB 22 84 12 21, sq 2 5 22] (some (0, [])))))
 (.fg [0, 1, 4, 5, 8, 9] (.reg [bK 23 .add 9 1, mq 9 23] none)))))))))))
 (qS [lT 24 2 5, sq 2 4 24]
 .ret)))), [.cell 4 true 2]⟩
def f44 : RFun := ⟨(qS [lq 1 (.box (.t 0)), iQ 2 0]
 (.seq (.block 0
 (qS [fQ 4 1 1, lF 5 1 4, cA 6 89 5, bK 7 .eql 6 0, mq 3 7]
 (.fg [1, 3] (.cond (.t 3)
 (qS [iQ 2 0]
 .ret)
 (qS [fQ 9 0 1, lF 10 1 9, mq 8 10]
 (.fg [8] (.cond (.t 8)
 (qS [lq 2 (.mv (.c (.p (.int .i64 (-1)))))]
 .ret)
 .skip)))))))
 (.fg [] (qS [iQ 2 1]
 .ret)))), [.t 2]⟩
def f53 : RFun := ⟨(qS [lq 2 (.box (.t 0)), lq 3 (.box (.t 1)), zQ 4]
 (.seq (.reg [fQ 5 0 2, lF 6 1 5, fQ 7 0 3, lF 8 1 7, lq 9 (.beq true (.t 6) (.t 8)), fQ 10 1 2, lF 11 1 10, fQ 12 1 3, lF 13 1 12, cB 14 95 11 13, cB 15 94 9 14, sq 2 4 15] (some (0, [])))
 .ret)), [.cell 4 true 2]⟩
def f57 : RFun := ⟨(qS [lq 2 (.box (.t 0)), lq 3 (.box (.t 1)), zQ 4, zQ 5, iQ 6 0]
 (qS [fQ 13 1 2, lF 14 1 13, fQ 15 1 3, lF 16 1 15, cB 17 98 14 16, mq 12 17, eX 18 12 0, eX 19 12 1, eX 20 12 2, mq 7 18, mq 8 19, mq 9 20]
 (.seq (qS [mq 21 9, bK 22 .neq 21 0]
 (.fg [2, 3, 4, 5, 7, 8, 22] (.cond (.t 22)
 (qS [lq 23 (.build [.p (.bool false), .nils] []), lq 24 (.build [.p (.bool false), .nils] []), sq 2 4 23, sq 2 5 24, iQ 6 11]
 .ret)
 .skip)))
 (.seq (.reg [fQ 25 0 2, lF 26 1 25, fQ 27 0 3, lF 28 1 27, lq 29 (.beq true (.t 26) (.t 28)), mq 30 7, cB 31 94 29 30, fQ 32 0 2, lF 33 1 32, mq 34 8, cB 35 94 33 34, ⟨(some 10), none, (some 0), .alloc [.p (.bool false), .nils]⟩, ⟨(some 11), none, (some 1), .alloc [.p (.bool false), .nils]⟩, sq 2 10 31, sq 2 11 35] (some (2, [])))
 (.seq (.seq (.reg [lT 36 2 11, cA 37 44 36, bK 38 .neq 37 0, mq 39 38, ⟨(some 40), (some (39, true)), none, .load true 2 (.t 11)⟩, ⟨(some 41), (some (39, true)), none, .call .pu 44 [.t 40]⟩, ⟨(some 42), (some (39, true)), none, .load true 2 (.t 3)⟩, ⟨(some 43), (some (39, true)), none, .call .pu 44 [.t 42]⟩, ⟨(some 44), (some (39, true)), none, .bin .neq (.t 41) (.t 43)⟩, lq 45 (.pick (.t 39) (.t 44) (.c (.p (.bool false))))] (some (0, [])))
 (.fg [3, 4, 5, 10, 11, 45] (.cond (.t 45)
 (.reg [lT 46 2 10, lq 47 (.call .pu 58 [.c (.p (.int .i64 1))]), cB 48 99 46 47, lT 49 2 11, lT 50 2 3, cB 51 84 49 50, sq 2 10 48, sq 2 11 51] (some (0, [])))
 .skip)))
 (.seq (.reg [lT 52 2 10, lT 53 2 11, sq 2 4 52, sq 2 5 53, iQ 6 0] (some (0, [(1, 2)])))
 .ret)))))), [.cell 4 true 2, .cell 5 true 2, .t 6]⟩
def f58 : RFun := ⟨(qS [zQ 2]
 (qS [mq 4 0, lq 5 (.conv .u64 (.t 4)), mq 3 5]
 (.seq (qS [mq 6 0, bK 7 .lss 6 0]
 (.fg [0, 2, 3, 7] (.cond (.t 7)
 (.reg [mq 8 3, lq 9 (.un .neg (.t 8)), mq 3 9] none)
 .skip)))
 (qS [mq 10 0, bK 11 .lss 10 0, mq 12 3, lq 13 (.conv .u32 (.t 12)), mq 14 3, lq 15 (.bin .shr (.t 14) (.c (.p (.int .u64 32)))), lq 16 (.conv .u32 (.t 15)), lq 17 (.bslice 1 [.t 13, .t 16]), lq 18 (.call .fz 94 [.t 11, .t 17]), sq 2 2 18]
 .ret)))), [.cell 2 true 2]⟩
def f59 : RFun := ⟨(qS [iQ 4 0]
 (.seq (qS [mq 8 0, nQ 9 8, bK 10 .gtr 9 12]
 (.fg [0, 1, 10] (.cond (.t 10)
 (qS [iQ 4 40]
 .ret)
 .skip)))
 (.seq (qS [iQ 5 0]
 (.fg [0, 1, 5] (.block 0
 (.loop (.fg [0, 1, 5]
 (.seq (qS [mq 11 5, mq 12 0, nQ 13 12, bq 14 .lss 11 13]
 (.fg [0, 1, 5, 14] (.cond (.t 14)
 .skip
 (.exit 0))))
 (.seq (.block 1
 (.seq (qS [mq 17 0, mq 18 5, xq 19 1 17 18, lF 20 1 19, nQ 21 20, bK 22 .gtr 21 12]
 (.fg [0, 1, 5, 22] (.cond (.t 22)
 (qS [iQ 4 40]
 .ret)
 .skip)))
 (qS [iQ 6 0]
 (.fg [0, 1, 5, 6] (.block 2
 (.loop (.fg [0, 1, 5, 6]
 (.seq (qS [mq 23 6, mq 24 0, mq 25 5, xq 26 1 24 25, lF 27 1 26, nQ 28 27, bq 29 .lss 23 28]
 (.fg [0, 1, 5, 6, 29] (.cond (.t 29)
 .skip
 (.exit 2))))
 (.seq (.block 3
 (qS [mq 32 1, mq 33 32, ⟨(some 34), (some (33, true)), none, .mv (.t 0)⟩, ⟨(some 35), (some (33, true)), none, .mv (.t 5)⟩, ⟨(some 36), (some (33, true)), none, .indexA 1 (.t 34) (.t 35)⟩, ⟨(some 37), (some (33, true)), none, .load false 1 (.t 36)⟩, ⟨(some 38), (some (33, true)), none, .mv (.t 6)⟩, ⟨(some 39), (some (33, true)), none, .indexA 2 (.t 37) (.t 38)⟩, ⟨(some 40), (some (33, true)), none, .fieldA 1 (.t 39)⟩, ⟨(some 41), (some (33, true)), none, .load false 1 (.t 40)⟩, ⟨(some 42), (some (33, true)), none, .call .pu 100 [.t 41]⟩, ⟨(some 43), (some (33, true)), none, .bin .gtr (.t 42) (ki 256)⟩, lq 44 (.pick (.t 33) (.t 43) (.c (.p (.bool false))))]
 (.fg [0, 1, 5, 6, 44] (.cond (.t 44)
 (qS [iQ 4 40]
 .ret)
 .skip))))
 (.fg [0, 1, 5, 6] (.reg [mq 30 6, bK 31 .add 30 1, mq 6 31] none)))))))))))
 (.fg [0, 1, 5] (.reg [mq 15 5, bK 16 .add 15 1, mq 5 16] none)))))))))
 (.seq (qS [mq 45 0, nQ 46 45, bK 47 .eql 46 0]
 (.fg [0, 47] (.cond (.t 47)
 (qS [iQ 4 41]
 .ret)
 .skip)))
 (.seq (qS [iQ 7 0]
 (.fg [0, 7] (.block 4
 (.loop (.fg [0, 7]
 (.seq (qS [mq 48 7, mq 49 0, nQ 50 49, bq 51 .lss 48 50]
 (.fg [0, 7, 51] (.cond (.t 51)
 .skip
 (.exit 4))))
 (.seq (.block 5
 (.seq (.reg [mq 54 0, mq 55 7, xq 56 1 54 55, lF 57 1 56, nQ 58 57, mq 59 0, lq 60 (.indexA 1 (.t 59) (ki 0)), lF 61 1 60, nQ 62 61, bq 63 .neq 58 62] (some (0, [])))
 (.fg [0, 7, 63] (.cond (.t 63)
 (qS [iQ 4 8]
 .ret)
 .skip))))
 (.fg [0, 7] (.reg [mq 52 7, bK 53 .add 52 1, mq 7 53] none)))))))))
 (qS [iQ 4 0]
 .ret)))))), [.t 4]⟩
def f60 : RFun := ⟨(qS [lq 2 (.alloc [.nils, .nils]), lq 3 (.mv (.c (.p (.bool false))))]
 (qS [lq 4 (.alloc [.nils, .nils])]
 (.seq (qS [iQ 5 0]
 (.fg [0, 2, 4, 5] (.block 0
 (.loop (.fg [0, 2, 4, 5]
 (.seq (qS [mq 12 5, mq 13 0, nQ 14 13, bq 15 .lss 12 14]
 (.fg [0, 2, 4, 5, 15] (.cond (.t 15)
 .skip
 (.exit 0))))
 (.seq (.block 1
 (qS [lq 6 (.mv (.c (.nils)))]
 (.seq (qS [iQ 7 0]
 (.fg [0, 2, 4, 5, 6, 7] (.block 2
 (.loop (.fg [0, 2, 4, 5, 6, 7]
 (.seq (qS [mq 18 7, mq 19 5, bq 20 .lss 18 19]
 (.fg [0, 2, 4, 5, 6, 7, 20] (.cond (.t 20)
 .skip
 (.exit 2))))
 (.seq (.block 3
 (.seq (.reg [mq 23 0, mq 24 5, xq 25 1 23 24, lF 26 1 25, mq 27 0, mq 28 7, xq 29 1 27 28, lF 30 1 29, lq 31 (.call .fz 34 [.t 26, .t 30]), cA 32 66 31, ⟨(some 8), none, (some 0), .alloc [.p (.bool false), .nils, .p (.bool false), .nils]⟩, sq 4 8 32] (some (1, [])))
 (.seq (qS [iQ 9 0]
 (.fg [0, 2, 4, 5, 6, 7, 8, 9] (.block 4
 (.loop (.fg [0, 2, 4, 5, 6, 7, 8, 9]
 (.seq (qS [mq 33 9, mq 34 7, bq 35 .lss 33 34]
 (.fg [0, 2, 4, 5, 6, 7, 8, 9, 35] (.cond (.t 35)
 .skip
 (.exit 4))))
 (.seq (.block 5
 (.reg [lT 38 4 8, fQ 39 0 4, lF 40 1 39, mq 41 7, xq 42 1 40 41, lF 43 1 42, mq 44 9, xq 45 4 43 44, lT 46 4 45, mq 47 6, mq 48 9, xq 49 4 47 48, lT 50 4 49, lq 51 (.call .fz 65 [.t 46, .t 50]), fQ 52 1 4, lF 53 1 52, mq 54 9, xq 55 4 53 54, lT 56 4 55, lq 57 (.call .fz 65 [.t 51, .t 56]), lq 58 (.call .fz 74 [.t 38, .t 57]), sq 4 8 58] (some (0, [(0, 13), (13, 15), (13, 17), (13, 18), (0, 19)]))))
 (.fg [0, 2, 4, 5, 6, 7, 8, 9] (.reg [mq 36 9, bK 37 .add 36 1, mq 9 37] none)))))))))
 (.reg [mq 59 6, lT 60 4 8, fQ 61 1 4, lF 62 1 61, mq 63 7, xq 64 4 62 63, lT 65 4 64, lq 66 (.call .fz 77 [.t 60, .t 65]), ⟨(some 67), none, (some 0), .bslice 4 [.t 66]⟩, ⟨(some 68), none, (some 1), .append 4 64 (.t 59) (.t 67)⟩, mq 6 68] (some (2, []))))))
 (.fg [0, 2, 4, 5, 6, 7] (.reg [mq 21 7, bK 22 .add 21 1, mq 7 22] none)))))))))
 (.seq (.reg [mq 69 0, mq 70 5, xq 71 1 69 70, lF 72 1 71, mq 73 0, mq 74 5, xq 75 1 73 74, lF 76 1 75, lq 77 (.call .fz 34 [.t 72, .t 76]), cA 78 66 77, ⟨(some 10), none, (some 0), .alloc [.p (.bool false), .nils, .p (.bool false), .nils]⟩, sq 4 10 78] (some (1, [])))
 (.seq (qS [iQ 11 0]
 (.fg [0, 2, 4, 5, 6, 10, 11] (.block 6
 (.loop (.fg [0, 2, 4, 5, 6, 10, 11]
 (.seq (qS [mq 79 11, mq 80 5, bq 81 .lss 79 80]
 (.fg [0, 2, 4, 5, 6, 10, 11, 81] (.cond (.t 81)
 .skip
 (.exit 6))))
 (.seq (.block 7
 (.reg [lT 84 4 10, mq 85 6, mq 86 11, xq 87 4 85 86, lT 88 4 87, lq 89 (.call .fz 76 [.t 88]), fQ 90 1 4, lF 91 1 90, mq 92 11, xq 93 4 91 92, lT 94 4 93, lq 95 (.call .fz 65 [.t 89, .t 94]), lq 96 (.call .fz 74 [.t 84, .t 95]), sq 4 10 96] (some (0, [(0, 5), (5, 7), (5, 9), (5, 10), (0, 11)]))))
 (.fg [0, 2, 4, 5, 6, 10, 11] (.reg [mq 82 11, bK 83 .add 82 1, mq 11 83] none)))))))))
 (.seq (qS [fQ 97 0 10, lT 98 2 97, lq 99 (.call .fz 69 [.t 98]), bK 100 .leq 99 0]
 (.fg [0, 2, 4, 5, 6, 10, 100] (.cond (.t 100)
 (qS [lT 101 2 4, sq 2 2 101, lq 3 (.mv (.c (.p (.bool false))))]
 .ret)
 .skip)))
 (qS [fQ 102 0 4, lF 103 1 102, mq 104 6, lq 105 (.bslice 1 [.t 104]), lq 106 (.append 1 24 (.t 103) (.t 105)), fQ 107 0 4, sq 1 107 106]
 (.reg [fQ 108 1 4, lF 109 1 108, lT 110 4 10, lq 111 (.bslice 4 [.t 110]), lq 112 (.append 4 64 (.t 109) (.t 111)), fQ 113 1 4, sq 1 113 112] none))))))))
 (.fg [0, 2, 4, 5] (.reg [mq 16 5, bK 17 .add 16 1, mq 5 17] none)))))))))
 (qS [lT 114 2 4, sq 2 2 114, lq 3 (.mv (.c (.p (.bool true))))]
 .ret)))), [.cell 2 true 2, .t 3]⟩
def f65 : RFun := ⟨(qS [lq 2 (.box (.t 0)), lq 3 (.box (.t 1)), lq 4 (.alloc [.p (.bool false), .nils, .p (.bool false), .nils])]
 (.seq (.reg [fQ 5 0 2, lT 6 2 5, fQ 7 0 3, lT 8 2 7, cB 9 32 6 8, fQ 10 2 2, lT 11 2 10, fQ 12 2 3, lT 13 2 12, cB 14 32 11 13, cB 15 28 9 14, sq 4 4 15] (some (0, [])))
 .ret)), [.cell 4 true 4]⟩
def f66 : RFun := ⟨(qS [lq 1 (.box (.t 0)), lq 2 (.alloc [.p (.bool false), .nils, .p (.bool false), .nils])]
 (qS [lT 3 2 1, cA 4 68 3, lq 5 (.call .pu 102 []), lq 6 (.build [.p (.bool false), .nils, .p (.bool false), .nils] [(0, 2, .t 4), (2, 2, .t 5)]), sq 4 2 6]
 .ret)), [.cell 2 true 4]⟩
def f67 : RFun := ⟨(qS [zQ 4]
 (qS [mq 6 1, cA 7 78 6, mq 5 7]
 (qS [mq 8 0, mq 9 8, ⟨(some 10), (some (9, true)), none, .mv (.t 5)⟩, ⟨(some 11), (some (9, true)), none, .len (.t 10)⟩, ⟨(some 12), (some (9, true)), none, .bin .gtr (.t 11) (ki 0)⟩, lq 13 (.pick (.t 9) (.t 12) (.c (.p (.bool false)))), mq 14 5, lq 15 (.build [.p (.bool false), .nils] [(0, 1, .t 13), (1, 1, .t 14)]), sq 2 4 15]
 .ret))), [.cell 4 true 2]⟩
def f68 : RFun := ⟨(qS [lq 1 (.box (.t 0)), zQ 2]
 (qS [fQ 3 0 1, lF 4 1 3, fQ 5 1 1, lF 6 1 5, cB 7 67 4 6, sq 2 2 7]
 .ret)), [.cell 2 true 2]⟩
def f69 : RFun := ⟨(qS [lq 1 (.box (.t 0)), iQ 2 0]
 (qS [fQ 4 1 1, lF 5 1 4, cA 6 78 5, mq 3 6]
 (.seq (.block 0
 (qS [mq 8 3, nQ 9 8, bK 10 .eql 9 0, mq 7 10]
 (.fg [1, 7] (.cond (.t 7)
 (qS [iQ 2 0]
 .ret)
 (qS [fQ 12 0 1, lF 13 1 12, mq 11 13]
 (.fg [11] (.cond (.t 11)
 (qS [lq 2 (.mv (.c (.p (.int .i64 (-1)))))]
 .ret)
 .skip)))))))
 (.fg [] (qS [iQ 2 1]
 .ret))))), [.t 2]⟩
def f70 : RFun := ⟨(qS [lq 1 (.box (.t 0)), zQ 2]
 (qS [fQ 3 0 1, lF 4 1 3, lq 5 (.un .not (.t 4)), fQ 6 1 1, lF 7 1 6, cB 8 67 5 7, sq 2 2 8]
 .ret)), [.cell 2 true 2]⟩
def f71 : RFun := ⟨(qS [lq 4 (.mv (.c (.nils))), lq 5 (.mv (.c (.nils))), iQ 6 0]
 (qS [mq 20 1, cA 21 78 20, mq 7 21]
 (.seq (qS [mq 22 7, nQ 23 22, bK 24 .eql 23 0]
 (.fg [0, 7, 24] (.cond (.t 24)
 (qS [lq 4 (.mv (.c (.nils))), lq 5 (.mv (.c (.nils))), iQ 6 11]
 .ret)
 .skip)))
 (.seq (qS [mq 25 7, nQ 26 25, bK 27 .eql 26 1]
 (.fg [0, 7, 27] (.cond (.t 27)
 (qS [mq 29 0, mq 30 7, lq 31 (.indexA 1 (.t 30) (ki 0)), lF 32 1 31, lq 33 (.conv .u64 (.t 32)), cB 34 103 29 33, mq 28 34, eX 35 28 0, eX 36 28 1, mq 8 35, mq 9 36]
 (qS [mq 37 8, mq 38 9, lq 39 (.conv .u32 (.t 38)), lq 40 (.bslice 1 [.t 39]), lq 41 (.call .fz 78 [.t 40]), mq 4 37, mq 5 41, iQ 6 0]
 .ret))
 .skip)))
 (qS [mq 42 7, nQ 43 42, lq 44 (.bin .mul (ki 32) (.t 43)), mq 45 7, cA 46 100 45, bq 47 .sub 44 46, cA 48 104 47, mq 10 48]
 (qS [mq 49 0, mq 50 10, cB 51 81 49 50, mq 11 51]
 (qS [mq 52 7, mq 53 10, cB 54 81 52 53, mq 12 54]
 (qS [mq 55 11, nQ 56 55, lq 57 (.mks false 1 4 (.int .u32 0) (.t 56) (.t 56)), mq 13 57]
 (qS [lq 14 (.mv (.c (.nils)))]
 (.seq (qS [mq 58 11, nQ 59 58, bK 60 .sub 59 1, mq 15 60]
 (.fg [7, 11, 12, 13, 14, 15] (.block 0
 (.loop (.fg [7, 11, 12, 13, 14, 15]
 (.seq (qS [mq 61 15, bK 62 .geq 61 0]
 (.fg [7, 11, 12, 13, 14, 15, 62] (.cond (.t 62)
 .skip
 (.exit 0))))
 (.seq (.block 1
 (qS [mq 65 11, mq 66 15, xq 67 1 65 66, lF 68 1 67, lq 69 (.bslice 1 [.t 68]), mq 70 14, lq 71 (.append 1 4 (.t 69) (.t 70)), lq 72 (.call .fz 78 [.t 71]), mq 14 72]
 (.seq (qS [mq 73 14, mq 74 12, cB 75 105 73 74, bK 76 .lss 75 0]
 (.fg [7, 11, 12, 13, 14, 15, 76] (.cond (.t 76)
 (.exit 1)
 .skip)))
 (qS [mq 77 14, mq 78 12, nQ 79 78, cB 80 106 77 79, lq 81 (.bin .mul (.t 80) (.c (.p (.int .u64 4294967296)))), mq 82 14, mq 83 12, nQ 84 83, bK 85 .sub 84 1, cB 86 106 82 85, bq 87 .add 81 86, mq 88 12, mq 89 12, nQ 90 89, bK 91 .sub 90 1, cB 92 106 88 91, bq 93 .quo 87 92, mq 16 93]
 (.seq (qS [mq 94 16, lq 95 (.bin .geq (.t 94) (.c (.p (.int .u64 4294967296))))]
 (.fg [7, 11, 12, 13, 14, 15, 16, 95] (.cond (.t 95)
 (.reg [lq 16 (.mv (.c (.p (.int .u64 4294967295))))] none)
 .skip)))
 (qS [mq 96 12, mq 97 16, lq 98 (.conv .u32 (.t 97)), lq 99 (.bslice 1 [.t 98]), lq 100 (.call .fz 81 [.t 96, .t 99]), mq 17 100]
 (.seq (.block 2
 (.loop (.fg [7, 11, 12, 13, 14, 15, 16, 17]
 (.seq (qS [mq 101 17, mq 102 14, cB 103 105 101 102, bK 104 .gtr 103 0]
 (.fg [7, 11, 12, 13, 14, 15, 16, 17, 104] (.cond (.t 104)
 .skip
 (.exit 2))))
 (.fg [7, 11, 12, 13, 14, 15, 16, 17] (.block 3
 (qS [mq 105 16, lq 106 (.bin .sub (.t 105) (.c (.p (.int .u64 1)))), mq 16 106]
 (.reg [mq 107 17, mq 108 12, cB 109 107 107 108, mq 17 109] none))))))))
 (.fg [7, 11, 12, 13, 14, 15, 16, 17] (qS [mq 110 13, mq 111 15, mq 112 16, lq 113 (.conv .u32 (.t 112)), xq 114 1 110 111, sq 1 114 113]
 (.reg [mq 115 14, mq 116 17, cB 117 107 115 116, mq 14 117] none))))))))))
 (.fg [7, 11, 12, 13, 14, 15] (.reg [mq 63 15, bK 64 .sub 63 1, mq 15 64] none)))))))))
 (qS [mq 119 14, mq 120 7, nQ 121 120, lq 122 (.bin .mul (ki 32) (.t 121)), mq 123 7, cA 124 100 123, bq 125 .sub 122 124, cB 126 108 119 125, mq 118 126, eX 127 118 0, eX 128 118 1, mq 18 127, mq 19 128]
 (qS [mq 129 13, lq 130 (.call .fz 78 [.t 129]), mq 131 18, mq 4 130, mq 5 131, iQ 6 0]
 .ret)))))))))))), [.t 4, .t 5, .t 6]⟩
def f74 : RFun := ⟨(qS [lq 2 (.box (.t 0)), lq 3 (.box (.t 1)), lq 4 (.alloc [.p (.bool false), .nils, .p (.bool false), .nils])]
 (.seq (.reg [lT 5 4 2, lT 6 4 3, cA 7 110 6, cB 8 75 5 7, sq 4 4 8] (some (0, [])))
 .ret)), [.cell 4 true 4]⟩
def f75 : RFun := ⟨(qS [lq 2 (.box (.t 0)), lq 3 (.box (.t 1)), lq 4 (.alloc [.p (.bool false), .nils, .p (.bool false), .nils])]
 (qS [fQ 7 0 2, lT 8 2 7, fQ 9 2 3, lT 10 2 9, cB 11 32 8 10, zQ 5, sq 2 5 11]
 (qS [fQ 12 0 3, lT 13 2 12, fQ 14 2 2, lT 15 2 14, cB 16 32 13 15, zQ 6, sq 2 6 16]
 (.seq (.reg [lT 17 2 5, lT 18 2 6, cB 19 80 17 18, fQ 20 2 2, lT 21 2 20, fQ 22 2 3, lT 23 2 22, cB 24 32 21 23, cB 25 28 19 24, sq 4 4 25] (some (0, [])))
 .ret)))), [.cell 4 true 4]⟩
def f76 : RFun := ⟨(qS [lq 1 (.box (.t 0)), lq 2 (.alloc [.p (.bool false), .nils, .p (.bool false), .nils])]
 (qS [lT 3 4 1, lT 4 4 1, cB 5 65 3 4, sq 4 2 5]
 .ret)), [.cell 2 true 4]⟩
def f77 : RFun := ⟨(qS [lq 2 (.box (.t 0)), lq 3 (.box (.t 1)), lq 4 (.alloc [.p (.bool false), .nils, .p (.bool false), .nils])]
 (.seq (.reg [fQ 5 0 2, lT 6 2 5, fQ 7 2 3, lT 8 2 7, cB 9 32 6 8, fQ 10 2 2, lT 11 2 10, fQ 12 0 3, lT 13 2 12, cB 14 32 11 13, cB 15 28 9 14, sq 4 4 15] (some (0, [])))
 .ret)), [.cell 4 true 4]⟩
def f78 : RFun := ⟨(qS [lq 2 (.mv (.c (.nils)))]
 (qS [mq 6 0, nQ 7 6, mq 3 7]
 (.seq (.block 0
 (.loop (.fg [0, 3]
 (.seq (qS [mq 8 3, bK 9 .gtr 8 0, mq 10 9, ⟨(some 11), (some (10, true)), none, .mv (.t 0)⟩, ⟨(some 12), (some (10, true)), none, .mv (.t 3)⟩, ⟨(some 13), (some (10, true)), none, .bin .sub (.t 12) (ki 1)⟩, ⟨(some 14), (some (10, true)), none, .indexA 1 (.t 11) (.t 13)⟩, ⟨(some 15), (some (10, true)), none, .load false 1 (.t 14)⟩, ⟨(some 16), (some (10, true)), none, .bin .eql (.t 15) (.c (.p (.int .u32 0)))⟩, lq 17 (.pick (.t 10) (.t 16) (.c (.p (.bool false))))]
 (.fg [0, 3, 17] (.cond (.t 17)
 .skip
 (.exit 0))))
 (.fg [0, 3] (.block 1
 (.reg [mq 18 3, bK 19 .sub 18 1, mq 3 19] none)))))))
 (.fg [0, 3] (qS [lq 4 (.mv (.c (.nils)))]
 (.seq (qS [iQ 5 0]
 (.fg [0, 3, 4, 5] (.block 2
 (.loop (.fg [0, 3, 4, 5]
 (.seq (qS [mq 20 5, mq 21 3, bq 22 .lss 20 21]
 (.fg [0, 3, 4, 5, 22] (.cond (.t 22)
 .skip
 (.exit 2))))
 (.seq (.block 3
 (.reg [mq 25 4, mq 26 0, mq 27 5, xq 28 1 26 27, lF 29 1 28, lq 30 (.bslice 1 [.t 29]), lq 31 (.append 1 4 (.t 25) (.t 30)), mq 4 31] none))
 (.fg [0, 3, 4, 5] (.reg [mq 23 5, bK 24 .add 23 1, mq 5 24] none)))))))))
 (qS [mq 32 4, mq 2 32]
 .ret))))))), [.t 2]⟩
def f79 : RFun := ⟨(qS [lq 2 (.box (.t 0)), lq 3 (.box (.t 1)), zQ 4]
 (.seq (.reg [lT 5 2 2, lT 6 2 3, cA 7 70 6, cB 8 80 5 7, sq 2 4 8] (some (0, [])))
 .ret)), [.cell 4 true 2]⟩
def f80 : RFun := ⟨(qS [lq 2 (.box (.t 0)), lq 3 (.box (.t 1)), zQ 4]
 (.seq (qS [fQ 9 0 2, lF 10 1 9, fQ 11 0 3, lF 12 1 11, lq 13 (.beq false (.t 10) (.t 12))]
 (.fg [2, 3, 4, 13] (.cond (.t 13)
 (.seq (.reg [fQ 14 0 2, lF 15 1 14, fQ 16 1 2, lF 17 1 16, fQ 18 1 3, lF 19 1 18, cB 20 111 17 19, cB 21 67 15 20, sq 2 4 21] (some (0, [])))
 .ret)
 .skip)))
 (.seq (qS [fQ 22 1 2, lF 23 1 22, fQ 24 1 3, lF 25 1 24, cB 26 105 23 25, bK 27 .geq 26 0]
 (.fg [2, 3, 4, 27] (.cond (.t 27)
 (qS [fQ 29 1 2, lF 30 1 29, fQ 31 1 3, lF 32 1 31, cB 33 112 30 32, mq 28 33, eX 34 28 0, eX 35 28 1, mq 5 34, mq 6 35]
 (qS [fQ 36 0 2, lF 37 1 36, mq 38 5, cB 39 67 37 38, sq 2 4 39]
 .ret))
 .skip)))
 (qS [fQ 41 1 3, lF 42 1 41, fQ 43 1 2, lF 44 1 43, cB 45 112 42 44, mq 40 45, eX 46 40 0, eX 47 40 1, mq 7 46, mq 8 47]
 (qS [fQ 48 0 3, lF 49 1 48, mq 50 7, cB 51 67 49 50, sq 2 4 51]
 .ret))))), [.cell 4 true 2]⟩
def f81 : RFun := ⟨(qS [lq 4 (.mv (.c (.nils)))]
 (qS [mq 9 0, nQ 10 9, mq 11 1, nQ 12 11, bq 13 .add 10 12, lq 14 (.mks false 1 4 (.int .u32 0) (.t 13) (.t 13)), mq 5 14]
 (.seq (qS [iQ 6 0]
 (.fg [0, 1, 5, 6] (.block 0
 (.loop (.fg [0, 1, 5, 6]
 (.seq (qS [mq 15 6, mq 16 0, nQ 17 16, bq 18 .lss 15 17]
 (.fg [0, 1, 5, 6, 18] (.cond (.t 18)
 .skip
 (.exit 0))))
 (.seq (.block 1
 (qS [lq 7 (.mv (.c (.p (.int .u64 0))))]
 (.seq (qS [iQ 8 0]
 (.fg [0, 1, 5, 6, 7, 8] (.block 2
 (.loop (.fg [0, 1, 5, 6, 7, 8]
 (.seq (qS [mq 21 8, mq 22 1, nQ 23 22, bq 24 .lss 21 23]
 (.fg [0, 1, 5, 6, 7, 8, 24] (.cond (.t 24)
 .skip
 (.exit 2))))
 (.seq (.block 3
 (.seq (.reg [mq 27 7, mq 28 5, mq 29 6, mq 30 8, bq 31 .add 29 30, xq 32 1 28 31, lF 33 1 32, lq 34 (.conv .u64 (.t 33)), bq 35 .add 27 34, mq 36 0, mq 37 6, xq 38 1 36 37, lF 39 1 38, lq 40 (.conv .u64 (.t 39)), mq 41 1, mq 42 8, xq 43 1 41 42, lF 44 1 43, lq 45 (.conv .u64 (.t 44)), bq 46 .mul 40 45, bq 47 .add 35 46, mq 7 47] (some (0, [])))
 (qS [mq 48 5, mq 49 6, mq 50 8, bq 51 .add 49 50, mq 52 7, lq 53 (.bin .rem (.t 52) (.c (.p (.int .u64 4294967296)))), lq 54 (.conv .u32 (.t 53)), xq 55 1 48 51, sq 1 55 54]
 (.reg [mq 56 7, lq 57 (.bin .quo (.t 56) (.c (.p (.int .u64 4294967296)))), mq 7 57] none))))
 (.fg [0, 1, 5, 6, 7, 8] (.reg [mq 25 8, bK 26 .add 25 1, mq 8 26] none)))))))))
 (.reg [mq 58 5, mq 59 6, mq 60 1, nQ 61 60, bq 62 .add 59 61, mq 63 7, lq 64 (.conv .u32 (.t 63)), xq 65 1 58 62, sq 1 65 64] none))))
 (.fg [0, 1, 5, 6] (.reg [mq 19 6, bK 20 .add 19 1, mq 6 20] none)))))))))
 (qS [mq 66 5, lq 67 (.call .fz 78 [.t 66]), mq 4 67]
 .ret)))), [.t 4]⟩
def f82 : RFun := ⟨(qS [iQ 4 0]
 (qS [mq 11 0, nQ 12 11, bK 13 .gtr 12 12, mq 14 13, ⟨(some 15), (some (14, false)), none, .mv (.t 1)⟩, ⟨(some 16), (some (14, false)), none, .mv (.t 15)⟩, ⟨(some 17), (some (16, true)), none, .mv (.t 0)⟩, ⟨(some 18), (some (16, true)), none, .call .pu 113 [.t 17]⟩, ⟨(some 19), (some (16, true)), none, .bin .gtr (.t 18) (ki 256)⟩, ⟨(some 20), (some (14, false)), none, .pick (.t 16) (.t 19) (.c (.p (.bool false)))⟩, lq 21 (.pick (.t 14) (.c (.p (.bool true))) (.t 20)), mq 5 21]
 (.seq (qS [mq 22 0, nQ 23 22, iQ 24 0]
 (.fg [0, 5, 22, 23, 24] (.block 0
 (.loop (.fg [0, 5, 22, 23, 24]
 (qS [bq 25 .lss 24 23]
 (.seq (.cond (.t 25)
 .skip
 (.exit 0))
 (.fg [0, 5, 22, 23, 24] (.seq (.block 1
 (qS [xq 26 1 22 24, lF 27 1 26, mq 7 27]
 (.reg [mq 28 5, mq 29 28, ⟨(some 30), (some (29, false)), none, .mv (.t 7)⟩, ⟨(some 31), (some (29, false)), none, .len (.t 30)⟩, ⟨(some 32), (some (29, false)), none, .bin .gtr (.t 31) (ki 12)⟩, lq 33 (.pick (.t 29) (.c (.p (.bool true))) (.t 32)), mq 5 33] none)))
 (.fg [0, 5, 22, 23, 24] (.reg [bK 34 .add 24 1, mq 24 34] none)))))))))))
 (.seq (qS [mq 35 5]
 (.fg [0, 35] (.cond (.t 35)
 (qS [iQ 4 40]
 .ret)
 .skip)))
 (.seq (qS [mq 36 0, nQ 37 36, bK 38 .eql 37 0]
 (.fg [0, 38] (.cond (.t 38)
 (qS [iQ 4 41]
 .ret)
 .skip)))
 (qS [mq 40 0, cA 41 36 40, mq 39 41, eX 42 39 0, eX 43 39 1, eX 44 39 2, mq 8 42, mq 9 43, mq 10 44]
 (qS [mq 45 10, mq 4 45]
 .ret))))))), [.t 4]⟩
def f83 : RFun := ⟨(qS [lq 2 (.alloc [.nils, .nils]), lq 3 (.mv (.c (.p (.bool false))))]
 (qS [lq 12 (.call .pu 58 [.c (.p (.int .i64 1))]), lq 13 (.bslice 2 [.t 12]), lq 14 (.build [.nils, .nils] [(0, 1, .t 13)]), lq 4 (.alloc [.nils, .nils]), sq 2 4 14]
 (.seq (qS [mq 15 0, nQ 16 15, iQ 17 0]
 (.fg [0, 2, 4, 16, 17] (.block 0
 (.loop (.fg [0, 2, 4, 16, 17]
 (qS [bq 18 .lss 17 16]
 (.seq (.cond (.t 18)
 .skip
 (.exit 0))
 (.fg [0, 2, 4, 16, 17] (.seq (.block 1
 (qS [mq 19 17, mq 5 19]
 (qS [mq 20 5, bK 21 .add 20 1, lq 22 (.mks false 2 32 (.agg [.bool false, .sl []]) (ki 0) (.t 21)), mq 6 22]
 (.seq (qS [iQ 7 0]
 (.fg [0, 2, 4, 5, 6, 7, 16, 17] (.block 2
 (.loop (.fg [0, 2, 4, 5, 6, 7, 16, 17]
 (.seq (qS [mq 23 7, mq 24 5, bq 25 .leq 23 24]
 (.fg [0, 2, 4, 5, 6, 7, 16, 17, 25] (.cond (.t 25)
 .skip
 (.exit 2))))
 (.seq (.block 3
 (.seq (.reg [mq 29 0, mq 30 5, xq 31 1 29 30, lF 32 1 31, mq 33 0, mq 34 7, xq 35 1 33 34, lF 36 1 35, lq 37 (.call .fz 114 [.t 32, .t 36]), mq 28 37, eX 38 28 0, eX 39 28 1, ⟨(some 8), none, (some 0), .alloc [.p (.bool false), .nils]⟩, sq 2 8 38, mq 9 39] (some (1, [])))
 (.seq (qS [iQ 10 0]
 (.fg [0, 2, 4, 5, 6, 7, 8, 10, 16, 17] (.block 4
 (.loop (.fg [0, 2, 4, 5, 6, 7, 8, 10, 16, 17]
 (.seq (qS [mq 40 10, mq 41 7, bq 42 .lss 40 41]
 (.fg [0, 2, 4, 5, 6, 7, 8, 10, 16, 17, 42] (.cond (.t 42)
 .skip
 (.exit 4))))
 (.seq (.block 5
 (qS [mq 45 6, mq 11 45]
 (.seq (qS [mq 46 7, mq 47 5, bq 48 .lss 46 47]
 (.fg [0, 2, 4, 5, 6, 7, 8, 10, 11, 16, 17, 48] (.cond (.t 48)
 (.reg [fQ 49 1 4, lF 50 1 49, mq 51 7, xq 52 1 50 51, lF 53 1 52, mq 11 53] none)
 .skip)))
 (.seq (.reg [fQ 54 0 4, lF 55 1 54, mq 56 10, bK 57 .add 56 1, xq 58 2 55 57, lT 59 2 58, lT 60 2 8, lq 61 (.call .fz 53 [.t 59, .t 60]), mq 62 6, mq 63 10, xq 64 2 62 63, lT 65 2 64, mq 66 11, mq 67 10, xq 68 2 66 67, lT 69 2 68, lq 70 (.call .fz 53 [.t 65, .t 69]), cB 71 99 61 70, sq 2 8 71] (some (0, [(7, 10), (7, 11), (7, 14), (7, 15)])))
 (.reg [lT 73 2 8, fQ 74 0 4, lF 75 1 74, mq 76 10, xq 77 2 75 76, lT 78 2 77, lq 79 (.call .fz 57 [.t 73, .t 78]), mq 72 79, eX 80 72 0, eX 81 72 1, eX 82 72 2, sq 2 8 80] (some (0, [])))))))
 (.fg [0, 2, 4, 5, 6, 7, 8, 10, 16, 17] (.reg [mq 43 10, bK 44 .add 43 1, mq 10 44] none)))))))))
 (.reg [mq 83 6, lT 84 2 8, lq 85 (.bslice 2 [.t 84]), lq 86 (.append 2 32 (.t 83) (.t 85)), mq 6 86] none))))
 (.fg [0, 2, 4, 5, 6, 7, 16, 17] (.reg [mq 26 7, bK 27 .add 26 1, mq 7 27] none)))))))))
 (.seq (qS [mq 87 6, mq 88 5, xq 89 2 87 88, lT 90 2 89, lq 91 (.call .fz 44 [.t 90]), bK 92 .leq 91 0]
 (.fg [0, 2, 4, 5, 6, 16, 17, 92] (.cond (.t 92)
 (qS [lq 93 (.build [.nils, .nils] []), sq 2 2 93, lq 3 (.mv (.c (.p (.bool false))))]
 .ret)
 .skip)))
 (.seq (.reg [fQ 94 0 4, lF 95 1 94, mq 96 6, mq 97 5, xq 98 2 96 97, lT 99 2 98, ⟨(some 100), none, (some 0), .bslice 2 [.t 99]⟩, ⟨(some 101), none, (some 1), .append 2 32 (.t 95) (.t 100)⟩, fQ 102 0 4, sq 1 102 101] (some (2, [(1, 6)])))
 (.reg [fQ 103 1 4, lF 104 1 103, mq 105 6, mq 106 5, mq 107 5, lq 108 (.slice 2 (.t 105) none (some (.t 106)) (some (.t 107))), ⟨(some 109), none, (some 0), .bslice 1 [.t 108]⟩, ⟨(some 110), none, (some 1), .append 1 24 (.t 104) (.t 109)⟩, fQ 111 1 4, sq 1 111 110] (some (2, [(1, 6)])))))))))
 (.fg [0, 2, 4, 16, 17] (.reg [bK 112 .add 17 1, mq 17 112] none)))))))))))
 (qS [lT 113 2 4, sq 2 2 113, lq 3 (.mv (.c (.p (.bool true))))]
 .ret)))), [.cell 2 true 2, .t 3]⟩
def f84 : RFun := ⟨(qS [lq 2 (.box (.t 0)), lq 3 (.box (.t 1)), zQ 4]
 (.seq (qS [fQ 7 0 2, lF 8 1 7, fQ 9 0 3, lF 10 1 9, lq 11 (.beq false (.t 8) (.t 10))]
 (.fg [2, 3, 4, 11] (.cond (.t 11)
 (.seq (.reg [fQ 12 0 2, lF 13 1 12, fQ 14 1 2, lF 15 1 14, fQ 16 1 3, lF 17 1 16, cB 18 115 15 17, cB 19 94 13 18, sq 2 4 19] (some (0, [])))
 .ret)
 .skip)))
 (.seq (qS [fQ 20 1 2, lF 21 1 20, fQ 22 1 3, lF 23 1 22, cB 24 116 21 23, bK 25 .lss 24 0]
 (.fg [2, 3, 4, 25] (.cond (.t 25)
 (.reg [lT 26 2 3, lT 27 2 2, sq 2 2 26, sq 2 3 27] none)
 .skip)))
 (qS [fQ 29 1 2, lF 30 1 29, fQ 31 1 3, lF 32 1 31, cB 33 117 30 32, mq 28 33, eX 34 28 0, eX 35 28 1, mq 5 34, mq 6 35]
 (qS [fQ 36 0 2, lF 37 1 36, mq 38 5, cB 39 94 37 38, sq 2 4 39]
 .ret))))), [.cell 4 true 2]⟩
def f87 : RFun := ⟨(qS [lq 1 (.box (.t 0)), zQ 2]
 (qS [fQ 3 0 1, lF 4 1 3, lq 5 (.un .not (.t 4)), fQ 6 1 1, lF 7 1 6, cB 8 94 5 7, sq 2 2 8]
 .ret)), [.cell 2 true 2]⟩
def f89 : RFun := ⟨(qS [iQ 2 0]
 (qS [mq 3 0, cA 4 119 3, mq 0 4]
 (.seq (qS [mq 5 0, nQ 6 5, bK 7 .eql 6 0]
 (.fg [0, 7] (.cond (.t 7)
 (qS [iQ 2 0]
 .ret)
 .skip)))
 (qS [mq 8 0, nQ 9 8, bK 10 .sub 9 1, lq 11 (.bin .mul (ki 32) (.t 10)), mq 12 0, mq 13 0, nQ 14 13, bK 15 .sub 14 1, xq 16 1 12 15, lF 17 1 16, cA 18 120 17, bq 19 .add 11 18, mq 2 19]
 .ret)))), [.t 2]⟩
def f94 : RFun := ⟨(qS [zQ 4]
 (qS [mq 7 1, nQ 8 7, mq 5 8]
 (.seq (.block 0
 (.loop (.fg [0, 1, 4, 5]
 (.seq (qS [mq 9 5, bK 10 .gtr 9 0, mq 11 10, ⟨(some 12), (some (11, true)), none, .mv (.t 1)⟩, ⟨(some 13), (some (11, true)), none, .mv (.t 5)⟩, ⟨(some 14), (some (11, true)), none, .bin .sub (.t 13) (ki 1)⟩, ⟨(some 15), (some (11, true)), none, .indexA 1 (.t 12) (.t 14)⟩, ⟨(some 16), (some (11, true)), none, .load false 1 (.t 15)⟩, ⟨(some 17), (some (11, true)), none, .bin .eql (.t 16) (.c (.p (.int .u32 0)))⟩, lq 18 (.pick (.t 11) (.t 17) (.c (.p (.bool false))))]
 (.fg [0, 1, 4, 5, 18] (.cond (.t 18)
 .skip
 (.exit 0))))
 (.fg [0, 1, 4, 5] (.block 1
 (.reg [mq 19 5, bK 20 .sub 19 1, mq 5 20] none)))))))
 (.fg [0, 1, 4, 5] (.seq (qS [mq 21 5, bK 22 .eql 21 0]
 (.fg [0, 1, 4, 5, 22] (.cond (.t 22)
 (qS [lq 23 (.build [.p (.bool false), .nils] []), sq 2 4 23]
 .ret)
 .skip)))
 (qS [mq 24 5, lq 25 (.mks false 1 4 (.int .u32 0) (.t 24) (.t 24)), mq 6 25]
 (qS [mq 26 6, mq 27 1, lq 28 (.copy 1 (.t 26) (.t 27))]
 (qS [mq 29 0, mq 30 6, lq 31 (.build [.p (.bool false), .nils] [(0, 1, .t 29), (1, 1, .t 30)]), sq 2 4 31]
 .ret)))))))), [.cell 4 true 2]⟩
def f95 : RFun := ⟨(qS [lq 4 (.mv (.c (.nils)))]
 (qS [mq 9 0, cA 10 119 9, mq 11 1, cA 12 119 11, mq 0 10, mq 1 12]
 (qS [mq 13 0, nQ 14 13, mq 15 1, nQ 16 15, bq 17 .add 14 16, lq 18 (.mks false 1 4 (.int .u32 0) (.t 17) (.t 17)), mq 5 18]
 (.seq (qS [mq 19 0, nQ 20 19, iQ 21 0]
 (.fg [0, 1, 5, 20, 21] (.block 0
 (.loop (.fg [0, 1, 5, 20, 21]
 (qS [bq 22 .lss 21 20]
 (.seq (.cond (.t 22)
 .skip
 (.exit 0))
 (.fg [0, 1, 5, 20, 21] (.seq (.block 1
 (qS [mq 23 21, mq 6 23]
 (qS [lq 7 (.mv (.c (.p (.int .u64 0))))]
 (.seq (qS [mq 24 1, nQ 25 24, iQ 26 0]
 (.fg [0, 1, 5, 6, 7, 20, 21, 25, 26] (.block 2
 (.loop (.fg [0, 1, 5, 6, 7, 20, 21, 25, 26]
 (qS [bq 27 .lss 26 25]
 (.seq (.cond (.t 27)
 .skip
 (.exit 2))
 (.fg [0, 1, 5, 6, 7, 20, 21, 25, 26] (.seq (.block 3
 (qS [mq 28 26, mq 8 28]
 (.seq (.reg [mq 29 7, mq 30 0, mq 31 6, xq 32 1 30 31, lF 33 1 32, lq 34 (.conv .u64 (.t 33)), mq 35 1, mq 36 8, xq 37 1 35 36, lF 38 1 37, lq 39 (.conv .u64 (.t 38)), bq 40 .mul 34 39, mq 41 5, mq 42 6, mq 43 8, bq 44 .add 42 43, xq 45 1 41 44, lF 46 1 45, lq 47 (.conv .u64 (.t 46)), bq 48 .add 40 47, bq 49 .add 29 48, mq 7 49] (some (0, [])))
 (qS [mq 50 5, mq 51 6, mq 52 8, bq 53 .add 51 52, mq 54 7, lq 55 (.conv .u32 (.t 54)), xq 56 1 50 53, sq 1 56 55]
 (.reg [mq 57 7, lq 58 (.bin .shr (.t 57) (.c (.p (.int .u64 32)))), mq 7 58] none)))))
 (.fg [0, 1, 5, 6, 7, 20, 21, 25, 26] (.reg [bK 59 .add 26 1, mq 26 59] none)))))))))))
 (.reg [mq 60 5, mq 61 6, mq 62 1, nQ 63 62, bq 64 .add 61 63, mq 65 7, lq 66 (.conv .u32 (.t 65)), xq 67 1 60 64, sq 1 67 66] none)))))
 (.fg [0, 1, 5, 20, 21] (.reg [bK 68 .add 21 1, mq 21 68] none)))))))))))
 (qS [mq 69 5, lq 70 (.call .fz 119 [.t 69]), mq 4 70]
 .ret))))), [.t 4]⟩
def f98 : RFun := ⟨(qS [lq 4 (.mv (.c (.nils))), lq 5 (.mv (.c (.nils))), iQ 6 0]
 (qS [mq 14 0, cA 15 119 14, mq 16 1, cA 17 119 16, mq 0 15, mq 1 17]
 (.seq (.block 0
 (qS [mq 19 1, nQ 20 19, bK 21 .eql 20 0, mq 18 21]
 (.fg [0, 1, 18] (.cond (.t 18)
 (qS [lq 4 (.mv (.c (.nils))), lq 5 (.mv (.c (.nils))), iQ 6 11]
 .ret)
 (qS [mq 23 0, mq 24 1, cB 25 116 23 24, bK 26 .lss 25 0, mq 22 26]
 (.fg [0, 1, 22] (.cond (.t 22)
 (qS [mq 27 0, cA 28 127 27, lq 4 (.mv (.c (.nils))), mq 5 28, iQ 6 0]
 .ret)
 (qS [mq 30 1, nQ 31 30, bK 32 .eql 31 1, mq 29 32]
 (.fg [0, 1, 29] (.cond (.t 29)
 (qS [mq 34 0, mq 35 1, lq 36 (.indexA 1 (.t 35) (ki 0)), lF 37 1 36, cB 38 128 34 37, mq 33 38, eX 39 33 0, eX 40 33 1, mq 7 39, mq 8 40]
 (qS [mq 41 7, mq 42 8, lq 43 (.bslice 1 [.t 42]), lq 44 (.call .fz 119 [.t 43]), mq 4 41, mq 5 44, iQ 6 0]
 .ret))
 .skip))))))))))
 (.fg [0, 1] (qS [mq 45 1, mq 46 1, nQ 47 46, bK 48 .sub 47 1, xq 49 1 45 48, lF 50 1 49, cA 51 129 50, mq 9 51]
 (qS [mq 52 1, mq 53 9, cB 54 130 52 53, mq 10 54]
 (qS [mq 55 0, mq 56 9, lq 57 (.call .ct 130 [.t 55, .t 56]), lq 58 (.bslice 1 [.c (.p (.int .u32 0)), .c (.p (.int .u32 0))]), lq 59 (.append 1 4 (.t 57) (.t 58)), mq 60 0, nQ 61 60, bK 62 .add 61 1, lq 63 (.slice 1 (.t 59) none (some (.t 62)) none), mq 11 63]
 (qS [mq 64 0, nQ 65 64, mq 66 1, nQ 67 66, bq 68 .sub 65 67, bK 69 .add 68 1, lq 70 (.mks false 1 4 (.int .u32 0) (.t 69) (.t 69)), mq 12 70]
 (.seq (qS [mq 71 0, nQ 72 71, mq 73 1, nQ 74 73, bq 75 .sub 72 74, mq 13 75]
 (.fg [9, 10, 11, 12, 13] (.block 1
 (.loop (.fg [9, 10, 11, 12, 13]
 (.seq (qS [mq 76 13, bK 77 .geq 76 0]
 (.fg [9, 10, 11, 12, 13, 77] (.cond (.t 77)
 .skip
 (.exit 1))))
 (.seq (.block 2
 (.reg [mq 80 12, mq 81 13, mq 82 11, mq 83 13, mq 84 13, mq 85 10, nQ 86 85, bq 87 .add 84 86, bK 88 .add 87 1, lq 89 (.slice 1 (.t 82) (some (.t 83)) (some (.t 88)) none), mq 90 10, lq 91 (.call .full 131 [.t 89, .t 90]), xq 92 1 80 81, sq 1 92 91] none))
 (.fg [9, 10, 11, 12, 13] (.reg [mq 78 13, bK 79 .sub 78 1, mq 13 79] none)))))))))
 (qS [mq 93 12, lq 94 (.call .fz 119 [.t 93]), mq 95 11, lq 96 (.call .fz 119 [.t 95]), mq 97 9, cB 98 132 96 97, mq 4 94, mq 5 98, iQ 6 0]
 .ret)))))))))), [.t 4, .t 5, .t 6]⟩
def f99 : RFun := ⟨(qS [lq 2 (.box (.t 0)), lq 3 (.box (.t 1)), zQ 4]
 (.seq (.reg [lT 5 2 2, lT 6 2 3, cA 7 87 6, cB 8 84 5 7, sq 2 4 8] (some (0, [])))
 .ret)), [.cell 4 true 2]⟩
def f100 : RFun := ⟨(qS [iQ 2 0]
 (.seq (qS [mq 6 0, nQ 7 6, bK 8 .sub 7 1, mq 3 8]
 (.fg [0, 3] (.block 0
 (.loop (.fg [0, 3]
 (.seq (qS [mq 9 3, bK 10 .geq 9 0]
 (.fg [0, 3, 10] (.cond (.t 10)
 .skip
 (.exit 0))))
 (.seq (.block 1
 (qS [mq 13 0, mq 14 3, xq 15 1 13 14, lF 16 1 15, lq 17 (.bin .neq (.t 16) (.c (.p (.int .u32 0))))]
 (.fg [0, 3, 17] (.cond (.t 17)
 (qS [mq 18 3, lq 19 (.bin .mul (ki 32) (.t 18)), mq 4 19]
 (.seq (qS [mq 20 0, mq 21 3, xq 22 1 20 21, lF 23 1 22, mq 5 23]
 (.fg [4, 5] (.block 2
 (.loop (.fg [4, 5]
 (.seq (qS [mq 24 5, lq 25 (.bin .gtr (.t 24) (.c (.p (.int .u32 0))))]
 (.fg [4, 5, 25] (.cond (.t 25)
 .skip
 (.exit 2))))
 (.seq (.block 3
 (.reg [mq 28 4, bK 29 .add 28 1, mq 4 29] none))
 (.fg [4, 5] (.reg [mq 26 5, lq 27 (.bin .quo (.t 26) (.c (.p (.int .u32 2)))), mq 5 27] none)))))))))
 (qS [mq 30 4, mq 2 30]
 .ret)))
 .skip))))
 (.fg [0, 3] (.reg [mq 11 3, bK 12 .sub 11 1, mq 3 12] none)))))))))
 (qS [iQ 2 0]
 .ret))), [.t 2]⟩
def f102 : RFun := ⟨(qS [zQ 0]
 (qS [lq 1 (.call .pu 27 [.c (.p (.int .i64 1))]), sq 2 0 1]
 .ret)), [.cell 0 true 2]⟩
def f103 : RFun := ⟨(qS [lq 4 (.mv (.c (.nils))), lq 5 (.mv (.c (.p (.int .u64 0))))]
 (qS [mq 9 0, nQ 10 9, lq 11 (.mks false 1 4 (.int .u32 0) (.t 10) (.t 10)), mq 6 11]
 (qS [lq 7 (.mv (.c (.p (.int .u64 0))))]
 (.seq (qS [mq 12 0, nQ 13 12, bK 14 .sub 13 1, mq 8 14]
 (.fg [0, 1, 6, 7, 8] (.block 0
 (.loop (.fg [0, 1, 6, 7, 8]
 (.seq (qS [mq 15 8, bK 16 .geq 15 0]
 (.fg [0, 1, 6, 7, 8, 16] (.cond (.t 16)
 .skip
 (.exit 0))))
 (.seq (.block 1
 (qS [mq 19 7, lq 20 (.bin .mul (.t 19) (.c (.p (.int .u64 4294967296)))), mq 21 0, mq 22 8, xq 23 1 21 22, lF 24 1 23, lq 25 (.conv .u64 (.t 24)), bq 26 .add 20 25, mq 7 26]
 (qS [mq 27 6, mq 28 8, mq 29 7, mq 30 1, bq 31 .quo 29 30, lq 32 (.conv .u32 (.t 31)), xq 33 1 27 28, sq 1 33 32]
 (.reg [mq 34 7, mq 35 1, bq 36 .rem 34 35, mq 7 36] none))))
 (.fg [0, 1, 6, 7, 8] (.reg [mq 17 8, bK 18 .sub 17 1, mq 8 18] none)))))))))
 (qS [mq 37 6, lq 38 (.call .fz 78 [.t 37]), mq 39 7, mq 4 38, mq 5 39]
 .ret))))), [.t 4, .t 5]⟩
def f104 : RFun := ⟨(qS [lq 2 (.mv (.c (.nils)))]
 (qS [lq 3 (.mv (.c (.nils)))]
 (.seq (qS [iQ 4 0]
 (.fg [0, 3, 4] (.block 0
 (.loop (.fg [0, 3, 4]
 (.seq (qS [mq 5 4, mq 6 0, bK 7 .quo 6 32, bq 8 .lss 5 7]
 (.fg [0, 3, 4, 8] (.cond (.t 8)
 .skip
 (.exit 0))))
 (.seq (.block 1
 (.reg [mq 11 3, lq 12 (.bslice 1 [.c (.p (.int .u32 0))]), lq 13 (.append 1 4 (.t 11) (.t 12)), mq 3 13] none))
 (.fg [0, 3, 4] (.reg [mq 9 4, bK 10 .add 9 1, mq 4 10] none)))))))))
 (qS [mq 14 3, mq 15 0, bK 16 .rem 15 32, lq 17 (.conv .u64 (.t 16)), lq 18 (.bin .shl (.c (.p (.int .u32 1))) (.t 17)), lq 19 (.bslice 1 [.t 18]), lq 20 (.append 1 4 (.t 14) (.t 19)), mq 2 20]
 .ret)))), [.t 2]⟩
def f105 : RFun := ⟨(qS [iQ 4 0]
 (.seq (qS [mq 8 0, nQ 9 8, mq 10 1, nQ 11 10, cB 12 133 9 11, bK 13 .sub 12 1, mq 5 13]
 (.fg [0, 1, 5] (.block 0
 (.loop (.fg [0, 1, 5]
 (.seq (qS [mq 14 5, bK 15 .geq 14 0]
 (.fg [0, 1, 5, 15] (.cond (.t 15)
 .skip
 (.exit 0))))
 (.seq (.block 1
 (qS [mq 18 0, mq 19 5, cB 20 106 18 19, mq 6 20]
 (qS [mq 21 1, mq 22 5, cB 23 106 21 22, mq 7 23]
 (.seq (qS [mq 24 6, mq 25 7, bq 26 .lss 24 25]
 (.fg [0, 1, 5, 6, 7, 26] (.cond (.t 26)
 (qS [lq 4 (.mv (.c (.p (.int .i64 (-1)))))]
 .ret)
 .skip)))
 (qS [mq 27 6, mq 28 7, bq 29 .gtr 27 28]
 (.fg [0, 1, 5, 29] (.cond (.t 29)
 (qS [iQ 4 1]
 .ret)
 .skip)))))))
 (.fg [0, 1, 5] (.reg [mq 16 5, bK 17 .sub 16 1, mq 5 17] none)))))))))
 (qS [iQ 4 0]
 .ret))), [.t 4]⟩
def f106 : RFun := ⟨(qS [lq 4 (.mv (.c (.p (.int .u64 0))))]
 (.seq (qS [mq 5 1, mq 6 0, nQ 7 6, bq 8 .lss 5 7]
 (.fg [0, 1, 8] (.cond (.t 8)
 (qS [mq 9 0, mq 10 1, xq 11 1 9 10, lF 12 1 11, lq 13 (.conv .u64 (.t 12)), mq 4 13]
 .ret)
 .skip)))
 (qS [lq 4 (.mv (.c (.p (.int .u64 0))))]
 .ret))), [.t 4]⟩
def f107 : RFun := ⟨(qS [lq 4 (.mv (.c (.nils)))]
 (qS [lq 5 (.mv (.c (.nils)))]
 (qS [lq 6 (.mv (.c (.p (.int .u64 0))))]
 (.seq (qS [iQ 7 0]
 (.fg [0, 1, 5, 6, 7] (.block 0
 (.loop (.fg [0, 1, 5, 6, 7]
 (.seq (qS [mq 10 7, mq 11 0, nQ 12 11, bq 13 .lss 10 12]
 (.fg [0, 1, 5, 6, 7, 13] (.cond (.t 13)
 .skip
 (.exit 0))))
 (.seq (.block 1
 (qS [mq 16 0, mq 17 7, cB 18 106 16 17, mq 8 18]
 (qS [mq 19 1, mq 20 7, cB 21 106 19 20, mq 22 6, bq 23 .add 21 22, mq 9 23]
 (qS [lq 6 (.mv (.c (.p (.int .u64 0))))]
 (.seq (qS [mq 24 8, mq 25 9, bq 26 .lss 24 25]
 (.fg [0, 1, 5, 6, 7, 8, 9, 26] (.cond (.t 26)
 (qS [mq 27 8, lq 28 (.bin .add (.t 27) (.c (.p (.int .u64 4294967296)))), mq 8 28]
 (.reg [lq 6 (.mv (.c (.p (.int .u64 1))))] none))
 .skip)))
 (.reg [mq 29 5, mq 30 8, mq 31 9, bq 32 .sub 30 31, lq 33 (.conv .u32 (.t 32)), lq 34 (.bslice 1 [.t 33]), lq 35 (.append 1 4 (.t 29) (.t 34)), mq 5 35] none))))))
 (.fg [0, 1, 5, 6, 7] (.reg [mq 14 7, bK 15 .add 14 1, mq 7 15] none)))))))))
 (qS [mq 36 5, lq 37 (.call .fz 78 [.t 36]), mq 4 37]
 .ret))))), [.t 4]⟩
def f108 : RFun := ⟨(qS [lq 4 (.mv (.c (.nils))), iQ 5 0]
 (.seq (qS [mq 9 1, bK 10 .lss 9 0]
 (.fg [0, 1, 10] (.cond (.t 10)
 (qS [lq 4 (.mv (.c (.nils))), iQ 5 1]
 .ret)
 .skip)))
 (.seq (qS [mq 11 1, mq 12 0, cA 13 100 12, bq 14 .geq 11 13]
 (.fg [0, 1, 14] (.cond (.t 14)
 (qS [lq 4 (.mv (.c (.nils))), iQ 5 0]
 .ret)
 .skip)))
 (qS [lq 6 (.mv (.c (.nils)))]
 (.seq (qS [mq 15 1, bK 16 .quo 15 32, mq 7 16]
 (.fg [0, 1, 6, 7] (.block 0
 (.loop (.fg [0, 1, 6, 7]
 (.seq (qS [mq 17 7, mq 18 0, nQ 19 18, bq 20 .lss 17 19]
 (.fg [0, 1, 6, 7, 20] (.cond (.t 20)
 .skip
 (.exit 0))))
 (.seq (.block 1
 (qS [mq 23 0, mq 24 7, cB 25 106 23 24, mq 26 0, mq 27 7, bK 28 .add 27 1, cB 29 106 26 28, lq 30 (.bin .mul (.t 29) (.c (.p (.int .u64 4294967296)))), bq 31 .add 25 30, mq 8 31]
 (.reg [mq 32 6, mq 33 8, mq 34 1, bK 35 .rem 34 32, lq 36 (.conv .u64 (.t 35)), bq 37 .shr 33 36, lq 38 (.bin .rem (.t 37) (.c (.p (.int .u64 4294967296)))), lq 39 (.conv .u32 (.t 38)), lq 40 (.bslice 1 [.t 39]), lq 41 (.append 1 4 (.t 32) (.t 40)), mq 6 41] none)))
 (.fg [0, 1, 6, 7] (.reg [mq 21 7, bK 22 .add 21 1, mq 7 22] none)))))))))
 (qS [mq 42 6, lq 43 (.call .fz 78 [.t 42]), mq 4 43, iQ 5 0]
 .ret)))))), [.t 4, .t 5]⟩
def f110 : RFun := ⟨(qS [lq 1 (.box (.t 0)), lq 2 (.alloc [.p (.bool false), .nils, .p (.bool false), .nils])]
 (.seq (.reg [fQ 3 0 1, lT 4 2 3, cA 5 70 4, fQ 6 2 1, lT 7 2 6, cB 8 28 5 7, sq 4 2 8] (some (0, [])))
 .ret)), [.cell 2 true 4]⟩
def f111 : RFun := ⟨(qS [lq 4 (.mv (.c (.nils)))]
 (qS [lq 5 (.mv (.c (.nils)))]
 (qS [lq 6 (.mv (.c (.p (.int .u64 0))))]
 (.seq (qS [iQ 7 0]
 (.fg [0, 1, 5, 6, 7] (.block 0
 (.loop (.fg [0, 1, 5, 6, 7]
 (.seq (qS [mq 8 7, mq 9 0, nQ 10 9, mq 11 1, nQ 12 11, cB 13 133 10 12, bq 14 .lss 8 13]
 (.fg [0, 1, 5, 6, 7, 14] (.cond (.t 14)
 .skip
 (.exit 0))))
 (.seq (.block 1
 (qS [mq 17 6, mq 18 0, mq 19 7, cB 20 106 18 19, bq 21 .add 17 20, mq 22 1, mq 23 7, cB 24 106 22 23, bq 25 .add 21 24, mq 6 25]
 (qS [mq 26 5, mq 27 6, lq 28 (.bin .rem (.t 27) (.c (.p (.int .u64 4294967296)))), lq 29 (.conv .u32 (.t 28)), lq 30 (.bslice 1 [.t 29]), lq 31 (.append 1 4 (.t 26) (.t 30)), mq 5 31]
 (.reg [mq 32 6, lq 33 (.bin .quo (.t 32) (.c (.p (.int .u64 4294967296)))), mq 6 33] none))))
 (.fg [0, 1, 5, 6, 7] (.reg [mq 15 7, bK 16 .add 15 1, mq 7 16] none)))))))))
 (qS [mq 34 5, mq 35 6, lq 36 (.conv .u32 (.t 35)), lq 37 (.bslice 1 [.t 36]), lq 38 (.append 1 4 (.t 34) (.t 37)), mq 5 38]
 (qS [mq 39 5, lq 40 (.call .fz 78 [.t 39]), mq 4 40]
 .ret)))))), [.t 4]⟩
def f112 : RFun := ⟨(qS [lq 4 (.mv (.c (.nils))), iQ 5 0]
 (.seq (qS [mq 6 0, mq 7 1, cB 8 105 6 7, bK 9 .lss 8 0]
 (.fg [0, 1, 9] (.cond (.t 9)
 (qS [lq 4 (.mv (.c (.nils))), iQ 5 10]
 .ret)
 .skip)))
 (qS [mq 10 0, mq 11 1, cB 12 107 10 11, mq 4 12, iQ 5 0]
 .ret))), [.t 4, .t 5]⟩
def f113 : RFun := ⟨(qS [iQ 2 0]
 (qS [iQ 3 0]
 (.seq (qS [mq 8 0, nQ 9 8, iQ 10 0]
 (.fg [3, 8, 9, 10] (.block 0
 (.loop (.fg [3, 8, 9, 10]
 (qS [bq 11 .lss 10 9]
 (.seq (.cond (.t 11)
 .skip
 (.exit 0))
 (.fg [3, 8, 9, 10] (.seq (.block 1
 (qS [xq 12 1 8 10, lF 13 1 12, mq 5 13]
 (qS [mq 14 5, nQ 15 14, iQ 16 0]
 (.fg [3, 8, 9, 10, 14, 15, 16] (.block 2
 (.loop (.fg [3, 8, 9, 10, 14, 15, 16]
 (qS [bq 17 .lss 16 15]
 (.seq (.cond (.t 17)
 .skip
 (.exit 2))
 (.fg [3, 8, 9, 10, 14, 15, 16] (.seq (.block 3
 (qS [xq 18 2 14 16, lT 19 2 18, zQ 7, sq 2 7 19]
 (.reg [mq 20 3, lT 21 2 7, cA 22 134 21, lq 23 (.mx (.t 20) (.t 22)), mq 3 23] none)))
 (.fg [3, 8, 9, 10, 14, 15, 16] (.reg [bK 24 .add 16 1, mq 16 24] none)))))))))))))
 (.fg [3, 8, 9, 10] (.reg [bK 25 .add 10 1, mq 10 25] none)))))))))))
 (qS [mq 26 3, mq 2 26]
 .ret)))), [.t 2]⟩
def f114 : RFun := ⟨(qS [zQ 4, iQ 5 0]
 (.seq (qS [mq 6 0, nQ 7 6, mq 8 1, nQ 9 8, bq 10 .neq 7 9]
 (.fg [0, 1, 4, 10] (.cond (.t 10)
 (qS [lq 11 (.build [.p (.bool false), .nils] []), sq 2 4 11, iQ 5 8]
 .ret)
 .skip)))
 (qS [mq 12 0, mq 13 1, cB 14 41 12 13, sq 2 4 14, iQ 5 0]
 .ret))), [.cell 4 true 2, .t 5]⟩
def f115 : RFun := ⟨(qS [lq 4 (.mv (.c (.nils)))]
 (.seq (qS [mq 8 0, nQ 9 8, mq 10 1, nQ 11 10, bq 12 .lss 9 11]
 (.fg [0, 1, 12] (.cond (.t 12)
 (.reg [mq 13 1, mq 14 0, mq 0 13, mq 1 14] none)
 .skip)))
 (qS [mq 15 0, nQ 16 15, bK 17 .add 16 1, lq 18 (.mks false 1 4 (.int .u32 0) (.t 17) (.t 17)), mq 5 18]
 (qS [lq 6 (.mv (.c (.p (.int .u64 0))))]
 (.seq (qS [mq 19 0, nQ 20 19, iQ 21 0]
 (.fg [0, 1, 5, 6, 20, 21] (.block 0
 (.loop (.fg [0, 1, 5, 6, 20, 21]
 (qS [bq 22 .lss 21 20]
 (.seq (.cond (.t 22)
 .skip
 (.exit 0))
 (.fg [0, 1, 5, 6, 20, 21] (.seq (.block 1
 (qS [mq 23 21, mq 7 23]
 (qS [mq 24 6, mq 25 0, mq 26 7, xq 27 1 25 26, lF 28 1 27, lq 29 (.conv .u64 (.t 28)), bq 30 .add 24 29, mq 6 30]
 (.seq (qS [mq 31 7, mq 32 1, nQ 33 32, bq 34 .lss 31 33]
 (.fg [0, 1, 5, 6, 7, 20, 21, 34] (.cond (.t 34)
 (.reg [mq 35 6, mq 36 1, mq 37 7, xq 38 1 36 37, lF 39 1 38, lq 40 (.conv .u64 (.t 39)), bq 41 .add 35 40, mq 6 41] none)
 .skip)))
 (qS [mq 42 5, mq 43 7, mq 44 6, lq 45 (.conv .u32 (.t 44)), xq 46 1 42 43, sq 1 46 45]
 (.reg [mq 47 6, lq 48 (.bin .shr (.t 47) (.c (.p (.int .u64 32)))), mq 6 48] none))))))
 (.fg [0, 1, 5, 6, 20, 21] (.reg [bK 49 .add 21 1, mq 21 49] none)))))))))))
 (qS [mq 50 5, mq 51 0, nQ 52 51, mq 53 6, lq 54 (.conv .u32 (.t 53)), xq 55 1 50 52, sq 1 55 54]
 (qS [mq 56 5, lq 57 (.call .fz 119 [.t 56]), mq 4 57]
 .ret))))))), [.t 4]⟩
def f116 : RFun := ⟨(qS [iQ 4 0]
 (qS [mq 6 0, cA 7 119 6, mq 8 1, cA 9 119 8, mq 0 7, mq 1 9]
 (.seq (qS [mq 10 0, nQ 11 10, mq 12 1, nQ 13 12, bq 14 .neq 11 13]
 (.fg [0, 1, 14] (.cond (.t 14)
 (.seq (qS [mq 15 0, nQ 16 15, mq 17 1, nQ 18 17, bq 19 .lss 16 18]
 (.fg [19] (.cond (.t 19)
 (qS [lq 4 (.mv (.c (.p (.int .i64 (-1)))))]
 .ret)
 .skip)))
 (qS [iQ 4 1]
 .ret))
 .skip)))
 (.seq (qS [mq 20 0, nQ 21 20, bK 22 .sub 21 1, mq 5 22]
 (.fg [0, 1, 5] (.block 0
 (.loop (.fg [0, 1, 5]
 (.seq (qS [mq 23 5, bK 24 .geq 23 0]
 (.fg [0, 1, 5, 24] (.cond (.t 24)
 .skip
 (.exit 0))))
 (.seq (.block 1
 (.seq (.reg [mq 27 0, mq 28 5, xq 29 1 27 28, lF 30 1 29, mq 31 1, mq 32 5, xq 33 1 31 32, lF 34 1 33, bq 35 .neq 30 34] (some (0, [])))
 (.fg [0, 1, 5, 35] (.cond (.t 35)
 (.seq (.seq (.reg [mq 36 0, mq 37 5, xq 38 1 36 37, lF 39 1 38, mq 40 1, mq 41 5, xq 42 1 40 41, lF 43 1 42, bq 44 .lss 39 43] (some (0, [])))
 (.fg [44] (.cond (.t 44)
 (qS [lq 4 (.mv (.c (.p (.int .i64 (-1)))))]
 .ret)
 .skip)))
 (qS [iQ 4 1]
 .ret))
 .skip))))
 (.fg [0, 1, 5] (.reg [mq 25 5, bK 26 .sub 25 1, mq 5 26] none)))))))))
 (qS [iQ 4 0]
 .ret))))), [.t 4]⟩
def f117 : RFun := ⟨(qS [lq 4 (.mv (.c (.nils))), iQ 5 0]
 (.seq (qS [mq 6 0, mq 7 1, cB 8 116 6 7, bK 9 .lss 8 0]
 (.fg [0, 1, 9] (.cond (.t 9)
 (qS [lq 4 (.mv (.c (.nils))), iQ 5 10]
 .ret)
 .skip)))
 (qS [mq 10 0, cA 11 119 10, mq 12 1, cA 13 119 12, cB 14 135 11 13, mq 4 14, iQ 5 0]
 .ret))), [.t 4, .t 5]⟩
def f119 : RFun := ⟨(qS [lq 2 (.mv (.c (.nils)))]
 (.seq (.block 0
 (.loop (.fg [0]
 (.seq (qS [mq 3 0, nQ 4 3, bK 5 .gtr 4 0, mq 6 5, ⟨(some 7), (some (6, true)), none, .mv (.t 0)⟩, ⟨(some 8), (some (6, true)), none, .mv (.t 0)⟩, ⟨(some 9), (some (6, true)), none, .len (.t 8)⟩, ⟨(some 10), (some (6, true)), none, .bin .sub (.t 9) (ki 1)⟩, ⟨(some 11), (some (6, true)), none, .indexA 1 (.t 7) (.t 10)⟩, ⟨(some 12), (some (6, true)), none, .load false 1 (.t 11)⟩, ⟨(some 13), (some (6, true)), none, .bin .eql (.t 12) (.c (.p (.int .u32 0)))⟩, lq 14 (.pick (.t 6) (.t 13) (.c (.p (.bool false))))]
 (.fg [0, 14] (.cond (.t 14)
 .skip
 (.exit 0))))
 (.fg [0] (.block 1
 (.reg [mq 15 0, mq 16 0, nQ 17 16, bK 18 .sub 17 1, lq 19 (.slice 1 (.t 15) none (some (.t 18)) none), mq 0 19] none)))))))
 (.fg [0] (qS [mq 20 0, mq 2 20]
 .ret)))), [.t 2]⟩
def f120 : RFun := ⟨(qS [iQ 2 0]
 (.seq (qS [mq 3 0, lq 4 (.bin .geq (.t 3) (.c (.p (.int .u32 65536))))]
 (.fg [0, 2, 4] (.cond (.t 4)
 (qS [mq 5 0, lq 6 (.bin .shr (.t 5) (.c (.p (.int .u64 16)))), mq 0 6]
 (.reg [iQ 2 16] none))
 .skip)))
 (.seq (qS [mq 7 0, lq 8 (.bin .geq (.t 7) (.c (.p (.int .u32 256))))]
 (.fg [0, 2, 8] (.cond (.t 8)
 (qS [mq 9 0, lq 10 (.bin .shr (.t 9) (.c (.p (.int .u64 8)))), mq 0 10]
 (.reg [mq 11 2, bK 12 .add 11 8, mq 2 12] none))
 .skip)))
 (qS [mq 13 2, mq 14 0, lq 15 (.conv .u8 (.t 14)), lq 16 (.idx [0, 1, 2, 2, 3, 3, 3, 3, 4, 4, 4, 4, 4, 4, 4, 4, 5, 5, 5, 5, 5, 5, 5, 5, 5, 5, 5, 5, 5, 5, 5, 5, 6, 6, 6, 6, 6, 6, 6, 6, 6, 6, 6, 6, 6, 6, 6, 6, 6, 6, 6, 6, 6, 6, 6, 6, 6, 6, 6, 6, 6, 6, 6, 6, 7, 7, 7, 7, 7, 7, 7, 7, 7, 7, 7, 7, 7, 7, 7, 7, 7, 7, 7, 7, 7, 7, 7, 7, 7, 7, 7, 7, 7, 7, 7, 7, 7, 7, 7, 7, 7, 7, 7, 7, 7, 7, 7, 7, 7, 7, 7, 7, 7, 7, 7, 7, 7, 7, 7, 7, 7, 7, 7, 7, 7, 7, 7, 7, 8, 8, 8, 8, 8, 8, 8, 8, 8, 8, 8, 8, 8, 8, 8, 8, 8, 8, 8, 8, 8, 8, 8, 8, 8, 8, 8, 8, 8, 8, 8, 8, 8, 8, 8, 8, 8, 8, 8, 8, 8, 8, 8, 8, 8, 8, 8, 8, 8, 8, 8, 8, 8, 8, 8, 8, 8, 8, 8, 8, 8, 8, 8, 8, 8, 8, 8, 8, 8, 8, 8, 8, 8, 8, 8, 8, 8, 8, 8, 8, 8, 8, 8, 8, 8, 8, 8, 8, 8, 8, 8, 8, 8, 8, 8, 8, 8, 8, 8, 8, 8, 8, 8, 8, 8, 8, 8, 8, 8, 8, 8, 8, 8, 8, 8, 8, 8, 8, 8, 8, 8, 8, 8, 8, 8, 8, 8, 8] (.t 15)), lq 17 (.conv .i64 (.t 16)), bq 18 .add 13 17, mq 2 18]
 .ret)))), [.t 2]⟩
def f127 : RFun := ⟨(qS [lq 2 (.mv (.c (.nils)))]
 (qS [mq 3 0, cA 4 119 3, lq 5 (.append 1 4 (.c (.nils)) (.t 4)), mq 2 5]
 .ret)), [.t 2]⟩
def f128 : RFun := ⟨(qS [lq 4 (.mv (.c (.nils))), lq 5 (.mv (.c (.p (.int .u32 0))))]
 (qS [mq 9 0, nQ 10 9, lq 11 (.mks false 1 4 (.int .u32 0) (.t 10) (.t 10)), mq 6 11]
 (qS [lq 7 (.mv (.c (.p (.int .u64 0))))]
 (.seq (qS [mq 12 0, nQ 13 12, bK 14 .sub 13 1, mq 8 14]
 (.fg [0, 1, 6, 7, 8] (.block 0
 (.loop (.fg [0, 1, 6, 7, 8]
 (.seq (qS [mq 15 8, bK 16 .geq 15 0]
 (.fg [0, 1, 6, 7, 8, 16] (.cond (.t 16)
 .skip
 (.exit 0))))
 (.seq (.block 1
 (qS [mq 19 7, lq 20 (.bin .shl (.t 19) (.c (.p (.int .u64 32)))), mq 21 0, mq 22 8, xq 23 1 21 22, lF 24 1 23, lq 25 (.conv .u64 (.t 24)), bq 26 .or 20 25, mq 7 26]
 (qS [mq 27 6, mq 28 8, mq 29 7, mq 30 1, lq 31 (.conv .u64 (.t 30)), bq 32 .quo 29 31, lq 33 (.conv .u32 (.t 32)), xq 34 1 27 28, sq 1 34 33]
 (.reg [mq 35 7, mq 36 1, lq 37 (.conv .u64 (.t 36)), bq 38 .rem 35 37, mq 7 38] none))))
 (.fg [0, 1, 6, 7, 8] (.reg [mq 17 8, bK 18 .sub 17 1, mq 8 18] none)))))))))
 (qS [mq 39 6, lq 40 (.call .fz 119 [.t 39]), mq 41 7, lq 42 (.conv .u32 (.t 41)), mq 4 40, mq 5 42]
 .ret))))), [.t 4, .t 5]⟩
def f129 : RFun := ⟨(qS [iQ 2 0]
 (qS [mq 3 0, cA 4 120 3, lq 5 (.bin .sub (ki 32) (.t 4)), mq 2 5]
 .ret)), [.t 2]⟩
def f130 : RFun := ⟨(qS [lq 4 (.mv (.c (.nils)))]
 (qS [mq 10 0, cA 11 119 10, mq 0 11]
 (.seq (qS [mq 12 0, nQ 13 12, bK 14 .eql 13 0]
 (.fg [0, 1, 14] (.cond (.t 14)
 (qS [lq 4 (.mv (.c (.nils)))]
 .ret)
 .skip)))
 (qS [mq 15 1, bK 16 .quo 15 32, mq 17 1, bK 18 .rem 17 32, lq 19 (.conv .u64 (.t 18)), mq 5 16, mq 6 19]
 (qS [mq 20 0, nQ 21 20, mq 22 5, bq 23 .add 21 22, bK 24 .add 23 1, lq 25 (.mks false 1 4 (.int .u32 0) (.t 24) (.t 24)), mq 7 25]
 (.seq (qS [mq 26 0, nQ 27 26, iQ 28 0]
 (.fg [0, 5, 6, 7, 27, 28] (.block 0
 (.loop (.fg [0, 5, 6, 7, 27, 28]
 (qS [bq 29 .lss 28 27]
 (.seq (.cond (.t 29)
 .skip
 (.exit 0))
 (.fg [0, 5, 6, 7, 27, 28] (.seq (.block 1
 (qS [mq 30 28, mq 8 30]
 (qS [mq 31 0, mq 32 8, xq 33 1 31 32, lF 34 1 33, lq 35 (.conv .u64 (.t 34)), mq 36 6, bq 37 .shl 35 36, mq 9 37]
 (qS [mq 38 7, mq 39 8, mq 40 5, bq 41 .add 39 40, xq 42 1 38 41, lF 43 1 42, mq 44 9, lq 45 (.conv .u32 (.t 44)), bq 46 .or 43 45, xq 47 1 38 41, sq 1 47 46]
 (.reg [mq 48 7, mq 49 8, mq 50 5, bq 51 .add 49 50, bK 52 .add 51 1, mq 53 9, lq 54 (.bin .shr (.t 53) (.c (.p (.int .u64 32)))), lq 55 (.conv .u32 (.t 54)), xq 56 1 48 52, sq 1 56 55] none)))))
 (.fg [0, 5, 6, 7, 27, 28] (.reg [bK 57 .add 28 1, mq 28 57] none)))))))))))
 (qS [mq 58 7, lq 59 (.call .ct 119 [.t 58]), mq 4 59]
 .ret))))))), [.t 4]⟩
def f131 : RFun := ⟨(qS [lq 4 (.mv (.c (.p (.int .u32 0))))]
 (qS [mq 15 1, nQ 16 15, mq 5 16]
 (.seq (.reg [mq 17 0, mq 18 5, xq 19 1 17 18, lF 20 1 19, lq 21 (.conv .u64 (.t 20)), lq 22 (.bin .shl (.t 21) (.c (.p (.int .u64 32)))), mq 23 0, mq 24 5, bK 25 .sub 24 1, xq 26 1 23 25, lF 27 1 26, lq 28 (.conv .u64 (.t 27)), bq 29 .or 22 28, mq 6 29] (some (0, [])))
 (qS [mq 30 6, mq 31 1, mq 32 5, bK 33 .sub 32 1, xq 34 1 31 33, lF 35 1 34, lq 36 (.conv .u64 (.t 35)), bq 37 .quo 30 36, lq 38 (.mn (.t 37) (.c (.p (.int .u64 4294967295)))), mq 7 38]
 (qS [lq 8 (.mv (.c (.p (.int .u64 0)))), lq 9 (.mv (.c (.p (.int .u64 0))))]
 (.seq (qS [mq 39 5, bK 40 .add 39 1, iQ 41 0]
 (.fg [0, 1, 5, 7, 8, 9, 40, 41] (.block 0
 (.loop (.fg [0, 1, 5, 7, 8, 9, 40, 41]
 (qS [bq 42 .lss 41 40]
 (.seq (.cond (.t 42)
 .skip
 (.exit 0))
 (.fg [0, 1, 5, 7, 8, 9, 40, 41] (.seq (.block 1
 (qS [mq 43 41, mq 10 43]
 (qS [mq 44 8, mq 11 44]
 (.seq (qS [mq 45 10, mq 46 5, bq 47 .lss 45 46]
 (.fg [0, 1, 5, 7, 9, 10, 11, 40, 41, 47] (.cond (.t 47)
 (.reg [mq 48 11, mq 49 7, mq 50 1, mq 51 10, xq 52 1 50 51, lF 53 1 52, lq 54 (.conv .u64 (.t 53)), bq 55 .mul 49 54, bq 56 .add 48 55, mq 11 56] none)
 .skip)))
 (qS [mq 57 11, lq 58 (.bin .shr (.t 57) (.c (.p (.int .u64 32)))), mq 8 58]
 (qS [mq 59 0, mq 60 10, xq 61 1 59 60, lF 62 1 61, lq 63 (.conv .u64 (.t 62)), mq 64 11, lq 65 (.conv .u32 (.t 64)), lq 66 (.conv .u64 (.t 65)), bq 67 .sub 63 66, mq 68 9, bq 69 .sub 67 68, mq 12 69]
 (qS [mq 70 0, mq 71 10, mq 72 12, lq 73 (.conv .u32 (.t 72)), xq 74 1 70 71, sq 1 74 73]
 (.reg [mq 75 12, lq 76 (.bin .shr (.t 75) (.c (.p (.int .u64 63)))), mq 9 76] none))))))))
 (.fg [0, 1, 5, 7, 8, 9, 40, 41] (.reg [bK 77 .add 41 1, mq 41 77] none)))))))))))
 (.seq (.block 2
 (.loop (.fg [0, 1, 5, 7, 9]
 (.seq (qS [mq 78 9, lq 79 (.bin .gtr (.t 78) (.c (.p (.int .u64 0))))]
 (.fg [0, 1, 5, 7, 9, 79] (.cond (.t 79)
 .skip
 (.exit 2))))
 (.fg [0, 1, 5, 7, 9] (.block 3
 (qS [mq 80 7, lq 81 (.bin .sub (.t 80) (.c (.p (.int .u64 1)))), mq 7 81]
 (qS [lq 13 (.mv (.c (.p (.int .u64 0))))]
 (.seq (qS [mq 82 5, bK 83 .add 82 1, iQ 84 0]
 (.fg [0, 1, 5, 7, 9, 13, 83, 84] (.block 4
 (.loop (.fg [0, 1, 5, 7, 9, 13, 83, 84]
 (qS [bq 85 .lss 84 83]
 (.seq (.cond (.t 85)
 .skip
 (.exit 4))
 (.fg [0, 1, 5, 7, 9, 13, 83, 84] (.seq (.block 5
 (qS [mq 86 84, mq 14 86]
 (qS [mq 87 13, mq 88 0, mq 89 14, xq 90 1 88 89, lF 91 1 90, lq 92 (.conv .u64 (.t 91)), bq 93 .add 87 92, mq 13 93]
 (.seq (qS [mq 94 14, mq 95 5, bq 96 .lss 94 95]
 (.fg [0, 1, 5, 7, 9, 13, 14, 83, 84, 96] (.cond (.t 96)
 (.reg [mq 97 13, mq 98 1, mq 99 14, xq 100 1 98 99, lF 101 1 100, lq 102 (.conv .u64 (.t 101)), bq 103 .add 97 102, mq 13 103] none)
 .skip)))
 (qS [mq 104 0, mq 105 14, mq 106 13, lq 107 (.conv .u32 (.t 106)), xq 108 1 104 105, sq 1 108 107]
 (.reg [mq 109 13, lq 110 (.bin .shr (.t 109) (.c (.p (.int .u64 32)))), mq 13 110] none))))))
 (.fg [0, 1, 5, 7, 9, 13, 83, 84] (.reg [bK 111 .add 84 1, mq 84 111] none)))))))))))
 (.reg [mq 112 9, mq 113 13, bq 114 .sub 112 113, mq 9 114] none))))))))))
 (.fg [7] (qS [mq 115 7, lq 116 (.conv .u32 (.t 115)), mq 4 116]
 .ret))))))))), [.t 4]⟩
def f132 : RFun := ⟨(qS [lq 4 (.mv (.c (.nils)))]
 (qS [mq 10 0, cA 11 119 10, mq 0 11]
 (qS [mq 12 1, bK 13 .quo 12 32, mq 14 1, bK 15 .rem 14 32, lq 16 (.conv .u64 (.t 15)), mq 5 13, mq 6 16]
 (.seq (qS [mq 17 5, mq 18 0, nQ 19 18, bq 20 .geq 17 19]
 (.fg [0, 5, 6, 20] (.cond (.t 20)
 (qS [lq 4 (.mv (.c (.nils)))]
 .ret)
 .skip)))
 (qS [mq 21 0, nQ 22 21, mq 23 5, bq 24 .sub 22 23, lq 25 (.mks false 1 4 (.int .u32 0) (.t 24) (.t 24)), mq 7 25]
 (.seq (qS [mq 26 7, nQ 27 26, iQ 28 0]
 (.fg [0, 5, 6, 7, 27, 28] (.block 0
 (.loop (.fg [0, 5, 6, 7, 27, 28]
 (qS [bq 29 .lss 28 27]
 (.seq (.cond (.t 29)
 .skip
 (.exit 0))
 (.fg [0, 5, 6, 7, 27, 28] (.seq (.block 1
 (qS [mq 30 28, mq 8 30]
 (qS [mq 31 0, mq 32 8, mq 33 5, bq 34 .add 32 33, xq 35 1 31 34, lF 36 1 35, lq 37 (.conv .u64 (.t 36)), mq 9 37]
 (.seq (qS [mq 38 8, mq 39 5, bq 40 .add 38 39, bK 41 .add 40 1, mq 42 0, nQ 43 42, bq 44 .lss 41 43]
 (.fg [0, 5, 6, 7, 8, 9, 27, 28, 44] (.cond (.t 44)
 (.reg [mq 45 9, mq 46 0, mq 47 8, mq 48 5, bq 49 .add 47 48, bK 50 .add 49 1, xq 51 1 46 50, lF 52 1 51, lq 53 (.conv .u64 (.t 52)), lq 54 (.bin .shl (.t 53) (.c (.p (.int .u64 32)))), bq 55 .or 45 54, mq 9 55] none)
 .skip)))
 (.reg [mq 56 7, mq 57 8, mq 58 9, mq 59 6, bq 60 .shr 58 59, lq 61 (.conv .u32 (.t 60)), xq 62 1 56 57, sq 1 62 61] none)))))
 (.fg [0, 5, 6, 7, 27, 28] (.reg [bK 63 .add 28 1, mq 28 63] none)))))))))))
 (qS [mq 64 7, lq 65 (.call .fz 119 [.t 64]), mq 4 65]
 .ret))))))), [.t 4]⟩
def f133 : RFun := ⟨(qS [iQ 4 0]
 (.seq (qS [mq 5 0, mq 6 1, bq 7 .gtr 5 6]
 (.fg [0, 1, 7] (.cond (.t 7)
 (qS [mq 8 0, mq 4 8]
 .ret)
 .skip)))
 (qS [mq 9 1, mq 4 9]
 .ret))), [.t 4]⟩
def f134 : RFun := ⟨(qS [lq 1 (.box (.t 0)), iQ 2 0]
 (qS [fQ 3 1 1, lF 4 1 3, cA 5 89 4, mq 2 5]
 .ret)), [.t 2]⟩
def f135 : RFun := ⟨(qS [lq 4 (.mv (.c (.nils)))]
 (qS [mq 9 0, nQ 10 9, lq 11 (.mks false 1 4 (.int .u32 0) (.t 10) (.t 10)), mq 5 11]
 (qS [lq 6 (.mv (.c (.p (.int .u64 0))))]
 (.seq (qS [mq 12 0, nQ 13 12, iQ 14 0]
 (.fg [0, 1, 5, 6, 13, 14] (.block 0
 (.loop (.fg [0, 1, 5, 6, 13, 14]
 (qS [bq 15 .lss 14 13]
 (.seq (.cond (.t 15)
 .skip
 (.exit 0))
 (.fg [0, 1, 5, 6, 13, 14] (.seq (.block 1
 (qS [mq 16 14, mq 7 16]
 (qS [mq 17 0, mq 18 7, xq 19 1 17 18, lF 20 1 19, lq 21 (.conv .u64 (.t 20)), mq 22 6, bq 23 .sub 21 22, mq 8 23]
 (.seq (qS [mq 24 7, mq 25 1, nQ 26 25, bq 27 .lss 24 26]
 (.fg [0, 1, 5, 7, 8, 13, 14, 27] (.cond (.t 27)
 (.reg [mq 28 8, mq 29 1, mq 30 7, xq 31 1 29 30, lF 32 1 31, lq 33 (.conv .u64 (.t 32)), bq 34 .sub 28 33, mq 8 34] none)
 .skip)))
 (qS [mq 35 5, mq 36 7, mq 37 8, lq 38 (.conv .u32 (.t 37)), xq 39 1 35 36, sq 1 39 38]
 (.reg [mq 40 8, lq 41 (.bin .shr (.t 40) (.c (.p (.int .u64 63)))), mq 6 41] none))))))
 (.fg [0, 1, 5, 6, 13, 14] (.reg [bK 42 .add 14 1, mq 14 42] none)))))))))))
 (qS [mq 43 5, lq 44 (.call .fz 119 [.t 43]), mq 4 44]
 .ret))))), [.t 4]⟩
def tab : List (Nat × RFun) := [(7, f7), (13, f13), (22, f22), (27, f27), (28, f28), (30, f30), (32, f32), (34, f34), (35, f35), (36, f36), (41, f41), (44, f44), (53, f53), (57, f57), (58, f58), (59, f59), (60, f60), (65, f65), (66, f66), (67, f67), (68, f68), (69, f69), (70, f70), (71, f71), (74, f74), (75, f75), (76, f76), (77, f77), (78, f78), (79, f79), (80, f80), (81, f81), (82, f82), (83, f83), (84, f84), (87, f87), (89, f89), (94, f94), (95, f95), (98, f98), (99, f99), (100, f100), (102, f102), (103, f103), (104, f104), (105, f105), (106, f106), (107, f107), (108, f108), (110, f110), (111, f111), (112, f112), (113, f113), (114, f114), (115, f115), (116, f116), (117, f117), (119, f119), (120, f120), (127, f127), (128, f128), (129, f129), (130, f130), (131, f131), (132, f132), (133, f133), (134, f134), (135, f135)]
def rp : cg := fun f => (tab.find? fun x => x.1 == f).map (·.2)
theorem cj : (tab.all fun x => j5 Tryz.prog x.1 x.2) = true := by kernel_rfl
theorem cV : ∀ f rf, rp f = some rf → j5 Tryz.prog f rf = true := by
 intro f rf h
 unfold rp at h
 rw [au] at h
 obtain ⟨x, hx, rfl⟩ := h
 have h1 := List.find?_some hx
 have h2 := List.mem_of_find?_eq_some hx
 have h3 := aU.1 cj x h2
 have h4 : x.1 = f := by simpa using h1
 rw [← h4]; exact h3
theorem mixed : Tryz.prog.follows .mixedOrders = true := by kernel_rfl
theorem sim (m : Nat) : eF Tryz.prog (fJ rp m) := nY mixed cV m
theorem rp98 : rp 78 = some f78 := rfl
theorem rp105 : rp 94 = some f94 := rfl
theorem rp107 : rp 67 = some f67 := rfl
theorem rp54 : rp 58 = some f58 := rfl
theorem rp66 : rp 27 = some f27 := rfl
theorem rp68 : rp 68 = some f68 := rfl
theorem rp58 : rp 70 = some f70 := rfl
theorem p98 {l : List Nat} (hl : Lim l) (hn : l.length ≤ 1099511627776) : Pu rp 78 [.sl (lm l)] (.p (.sl (lm (dgl (val l))))) := by
 refine aY rp98 ?_
 simp only [f78, aJ, SB, ak, aj, ↓reduceIte, reduceCtorEq, ai, ab, ah, ae, aa, af, aT]
 refine qe (β := Nat) (γ := Nat) (fun n => ([(0, .p (.sl (lm l))), (3, i64 n)], [])) (fun n => n ≤ l.length ∧ ∀ i, n ≤ i → ∀ x, l[i]? = some x → x = 0) (fun n => n)
  (fun n => ([(0, .p (.sl (lm l))), (3, i64 n)], [])) (fun n => n ≤ l.length ∧ iO l = l.take n) l.length rfl rfl ⟨av _, fun i hi x hx => ?_⟩ ?_ ?_
 ·rw [aG hi] at hx; cases hx
 ·rintro ks' n ⟨hnl, hz⟩ ih hx
  by_cases h0 : (n : Int) > 0
  ·obtain ⟨m, rfl⟩ : ∃ m, n = m + 1 := ⟨n - 1, by omega⟩
   have hm : m < l.length := hnl
   have hi : IntKind.i64.wrap (((m + 1 : Nat) : Int) - 1) = (m : Int) := by rw [IntWalk.i64_in _ (by omega)]; omega
   have hg := cO hm
   by_cases hx0 : l[m] = 0
   ·have e1 : (((l[m] : Nat) : Int) == 0) = true := by simp [hx0]
    simp only [SB, ak, aj, ↓reduceIte, reduceCtorEq, ai, ab, ah, ae, aa, af, h0, hi, SN, hg, e1]
    refine ih m _ ⟨by omega, fun i hi x hx => ?_⟩ (by omega) ?_
    ·rcases ax m i with h1 | h1
     ·exact hz i h1 x hx
     ·obtain rfl : i = m := by omega
      rw [bG hm] at hx
      cases hx
      exact hx0
    ·rfl
   ·have e1 : (((l[m] : Nat) : Int) == 0) = false := by simp [hx0]
    simp only [SB, ak, aj, ↓reduceIte, reduceCtorEq, ai, ab, ah, ae, aa, af, h0, hi, SN, hg, e1]
    refine hx (m + 1) _ ⟨hnl, fu hz (.inr ⟨l[m], by simp, hx0⟩)⟩ ?_
    rfl
  ·simp only [SB, ak, aj, ↓reduceIte, reduceCtorEq, ai, ab, ah, ae, aa, af, h0]
   obtain rfl : n = 0 := by omega
   refine hx 0 _ ⟨aD _, fu hz (.inl rfl)⟩ ?_
   rfl
 ·rintro n ⟨hnl, ht⟩
  simp only [SB, ak, aj, ↓reduceIte, reduceCtorEq, ai, ab, ah, ae, aa, af]
  refine aM (β := Nat × ar × CV) (fun b => ([(0, .p (.sl (lm l))), (3, i64 n), (4, b.2.2), (5, i64 b.1)], b.2.1)) (fun b => b.1 ≤ n ∧ GL b.2.1 1 b.2.2 (lm (l.take b.1))) (fun b => n - b.1) (0, [], .nils) rfl rfl ⟨aD _, .nil⟩ ?_
  rintro ⟨i, σ, c⟩ ⟨hi, hgl⟩ ih
  simp only [] at hi hgl ih ⊢
  by_cases hin : (i : Int) < n
  ·have hi2 : i < l.length := by omega
   have hg := cO hi2
   have hc : ((lm (l.take i)).length + [PV.int .u32 (l[i] : Nat)].length) * 4 ≤ 140737488355328 := by rw [aT, aS]; simp; omega
   simp only [SB, ak, aj, ↓reduceIte, reduceCtorEq, ai, ab, ah, ae, aa, af, hin, hg, SN, ia hgl hc, IntWalk.i64_in ((i : Int) + 1) (by omega)]
   have hnew : lm (l.take i) ++ [PV.int .u32 (l[i] : Nat)] = lm (l.take (i + 1)) := by rw [List.take_add_one, bG hi2, ← iY]; rfl
   have hlen : (lm (l.take i)).length = i := by rw [aT, aS]; omega
   rw [hnew, hlen]
   refine ih (i + 1, nd σ c ++ [.prow 1 [.int .u32 (l[i] : Nat)], .prow 1 (lm (l.take (i + 1)))], .own (σ.length + 1) 0 (i + 1)) _ ⟨by omega, GL.nb (by rw [aT, aS]; omega) rfl⟩ (by simp; omega) ?_
   rfl
  ·simp only [SB, ak, aj, ↓reduceIte, reduceCtorEq, ai, ab, ah, ae, aa, af, hin]
   obtain rfl : i = n := by omega
   rw [← jv hl, ht]
   exact hgl.back
theorem p105 {neg : Bool} {l : List Nat} (hl : Lim l) (hn : l.length ≤ 1099511627776) : Pu rp 94 [.bool neg, .sl (lm l)] (.p (mk neg (val l))) := by
 refine aY rp105 ?_
 simp only [f94, aJ, SB, ak, aj, ↓reduceIte, reduceCtorEq, ai, ab, ah, ae, aa, af, aT]
 refine qe (β := Nat) (γ := Nat) (fun n => ([(0, .p (.bool neg)), (1, .p (.sl (lm l))), (4, .ptr 0 0 0), (5, i64 n)], [.kblk 2 [.p (.bool false), .nils]])) (fun n => n ≤ l.length ∧ ∀ i, n ≤ i → ∀ x, l[i]? = some x → x = 0) (fun n => n)
  (fun n => ([(0, .p (.bool neg)), (1, .p (.sl (lm l))), (4, .ptr 0 0 0), (5, i64 n)], [.kblk 2 [.p (.bool false), .nils]])) (fun n => n ≤ l.length ∧ iO l = l.take n) l.length rfl rfl ⟨av _, fun i hi x hx => ?_⟩ ?_ ?_
 ·rw [aG hi] at hx; cases hx
 ·rintro ks' n ⟨hnl, hz⟩ ih hx
  by_cases h0 : (n : Int) > 0
  ·obtain ⟨m, rfl⟩ : ∃ m, n = m + 1 := ⟨n - 1, by omega⟩
   have hm : m < l.length := hnl
   have hi : IntKind.i64.wrap (((m + 1 : Nat) : Int) - 1) = (m : Int) := by rw [IntWalk.i64_in _ (by omega)]; omega
   have hg := cO hm
   by_cases hx0 : l[m] = 0
   ·have e1 : (((l[m] : Nat) : Int) == 0) = true := by simp [hx0]
    simp only [SB, ak, aj, ↓reduceIte, reduceCtorEq, ai, ab, ah, ae, aa, af, h0, hi, SN, hg, e1]
    refine ih m _ ⟨by omega, fun i hi x hx => ?_⟩ (by omega) ?_
    ·rcases ax m i with h1 | h1
     ·exact hz i h1 x hx
     ·obtain rfl : i = m := by omega
      rw [bG hm] at hx
      cases hx
      exact hx0
    ·rfl
   ·have e1 : (((l[m] : Nat) : Int) == 0) = false := by simp [hx0]
    simp only [SB, ak, aj, ↓reduceIte, reduceCtorEq, ai, ab, ah, ae, aa, af, h0, hi, SN, hg, e1]
    refine hx (m + 1) _ ⟨hnl, fu hz (.inr ⟨l[m], by simp, hx0⟩)⟩ ?_
    rfl
  ·simp only [SB, ak, aj, ↓reduceIte, reduceCtorEq, ai, ab, ah, ae, aa, af, h0]
   obtain rfl : n = 0 := by omega
   refine hx 0 _ ⟨aD _, fu hz (.inl rfl)⟩ ?_
   rfl
 ·rintro n ⟨hnl, ht⟩
  have hd : dgl (val l) = l.take n := by rw [← jv hl, ht]
  by_cases h0 : n = 0
  ·subst h0
   have hv : val l = 0 := by rw [← aZ (val l), hd]; rfl
   simp only [SB, ak, aj, ↓reduceIte, reduceCtorEq, ai, ab, ah, ae, aa, af]
   rw [mk, hv, cJ]
   simp
   rfl
  ·have e1 : ((n : Int) == 0) = false := by simp; omega
   have e2 : ((4 : Nat) : Int) * (n : Int) ≤ 281474976710656 := by omega
   have e3 : (n : Int) ≤ 9223372036854775807 := by omega
   have hv : val l ≠ 0 := by intro h; rw [h, cJ] at hd; have := congrArg List.length hd; rw [aS] at this; simp at this; omega
   simp only [SB, ak, aj, ↓reduceIte, reduceCtorEq, ai, ab, ah, ae, aa, af, e1, e2, e3, SN, dN, oG, eK]
   have hln : (dgl (val l)).length = n := by rw [hd, aS]; omega
   have hl1 : (List.take n (lm l)).length = n := by rw [aS, aT]; omega
   rw [hl1, eW (by simp), c8, mJ, ← hd]
   have hf : dD [.kblk 2 [.p (.bool neg), .own 1 0 n], .prow 1 (lm (dgl (val l)))] (.own 1 0 n) = some (.sl (lm (dgl (val l)))) := e9 (s := 1) rfl (by rw [aT, hln])
   simp only [back, dL, frz, eU, hf, aH, oS]
   simp [mk, hv]
theorem p107 {neg : Bool} {l : List Nat} (hl : Lim l) (hn : l.length ≤ 1099511627776) : Pu rp 67 [.bool neg, .sl (lm l)] (.p (mk neg (val l))) := by
 refine aY rp107 ?_
 have e1 : (((dgl (val l)).length : Int) > 0) = (val l ≠ 0) := by
  by_cases h : val l = 0
  ·simp [h, cJ]
  ·have := List.length_pos_iff.2 (jt h)
   simp only [ne_eq, h, not_false_eq_true, eq_iff_iff, iff_true]
   omega
 cases neg
 ·simp only [f67, aJ, SB, ak, aj, ↓reduceIte, reduceCtorEq, ai, ab, ah, ae, aa, af, kp1 (p98 hl hn), aT]
  rfl
 ·simp only [f67, aJ, SB, ak, aj, ↓reduceIte, reduceCtorEq, ai, ab, ah, ae, aa, af, kp1 (p98 hl hn), aT, e1]
  rfl
theorem qp {v : Nat} : [PV.int .u32 ((v % LB : Nat) : Int), PV.int .u32 ((v / LB : Nat) : Int)] = lm [v % LB, v / LB] := rfl
theorem p68 {neg : Bool} {l : List Nat} (hl : Lim l) (hn : l.length ≤ 1099511627776) : Pu rp 68 [.agg [.bool neg, .sl (lm l)]] (.p (mk neg (val l))) := by
 refine aY rp68 ?_
 simp only [f68, aJ, SB, ak, aj, ↓reduceIte, reduceCtorEq, ai, ab, ah, ae, aa, af, kp2 (p107 hl hn)]
 rfl
theorem pC {x : Int} (h : 0 ≤ x) : zi x = mk false x.toNat := by
 obtain ⟨n, rfl⟩ := Int.eq_ofNat_of_zero_le h
 simp [zi, mk]
 omega
theorem wH {x : Int} (h : x < 0) : zi x = mk true x.natAbs := by
 simp [zi, mk, h]
theorem kO {v : Nat} (h : v < LB * LB) : IntKind.u32.wrap (v : Int) = ((v % LB : Nat) : Int) ∧ IntKind.u32.wrap ((v : Int).fdiv (2 ^ min (gG 32) IntKind.u64.bits)) = ((v / LB : Nat) : Int) := by
 have h1 : ((2 : Int) ^ min (gG 32) IntKind.u64.bits) = 4294967296 := by decide
 rw [h1, IntKind.wrap_u32, IntKind.wrap_u32, Int.fdiv_eq_ediv_of_nonneg _ (by decide)]
 unfold LB at h ⊢
 omega
theorem p54 {x : Int} (h : -9223372036854775808 ≤ x) (h' : x ≤ 9223372036854775807) : Pu rp 58 [.int .i64 x] (.p (zi x)) := by
 refine aY rp54 ?_
 by_cases h0 : x < 0
 ·have e1 : IntKind.u64.wrap (0 - IntKind.u64.wrap x) = ((x.natAbs : Nat) : Int) := by rw [IntKind.wrap_u64, IntKind.wrap_u64]; omega
  have hlt : x.natAbs < LB * LB := by unfold LB; omega
  have hw := kO hlt
  have hp := p105 (neg := true) (nR hlt) (by simp)
  rw [val_two hlt] at hp
  simp only [f58, aJ, SB, ak, aj, ↓reduceIte, reduceCtorEq, ai, ab, ah, ae, aa, af, h0, e1, hw.1, hw.2, qp, oG, jC hp]
  rw [wH h0]
  rfl
 ·have e1 : IntKind.u64.wrap x = ((x.toNat : Nat) : Int) := by rw [IntKind.wrap_u64]; omega
  have hlt : x.toNat < LB * LB := by unfold LB; omega
  have hw := kO hlt
  have hp := p105 (neg := false) (nR hlt) (by simp)
  rw [val_two hlt] at hp
  simp only [f58, aJ, SB, ak, aj, ↓reduceIte, reduceCtorEq, ai, ab, ah, ae, aa, af, h0, e1, hw.1, hw.2, qp, oG, jC hp]
  rw [pC (by omega)]
  rfl
theorem p66 {x : Int} (h : -9223372036854775808 ≤ x) (h' : x ≤ 9223372036854775807) : Pu rp 27 [.int .i64 x] (.p (zi x)) := by
 refine aY rp66 ?_
 by_cases h0 : x < 0
 ·have e1 : IntKind.u64.wrap (0 - IntKind.u64.wrap x) = ((x.natAbs : Nat) : Int) := by rw [IntKind.wrap_u64, IntKind.wrap_u64]; omega
  have hlt : x.natAbs < LB * LB := by unfold LB; omega
  have hw := kO hlt
  have hp := p107 (neg := true) (nR hlt) (by simp)
  rw [val_two hlt] at hp
  simp only [f27, aJ, SB, ak, aj, ↓reduceIte, reduceCtorEq, ai, ab, ah, ae, aa, af, h0, e1, hw.1, hw.2, qp, oG, jC hp]
  rw [wH h0]
  rfl
 ·have e1 : IntKind.u64.wrap x = ((x.toNat : Nat) : Int) := by rw [IntKind.wrap_u64]; omega
  have hlt : x.toNat < LB * LB := by unfold LB; omega
  have hw := kO hlt
  have hp := p107 (neg := false) (nR hlt) (by simp)
  rw [val_two hlt] at hp
  simp only [f27, aJ, SB, ak, aj, ↓reduceIte, reduceCtorEq, ai, ab, ah, ae, aa, af, h0, e1, hw.1, hw.2, qp, oG, jC hp]
  rw [pC (by omega)]
  rfl
theorem rp144 : rp 119 = some f119 := rfl
theorem rp158 : rp 127 = some f127 := rfl
theorem rp177 : rp 116 = some f116 := rfl
theorem rp176 : rp 115 = some f115 := rfl
theorem rT {σ : ar} {sz h : Nat} {es : List PV} (hh : h ≤ es.length) : dw σ sz (.p (.sl es)) 0 h = some (.p (.sl (es.take h))) := by
 simp [dw, hh]
theorem p144 {l : List Nat} (hl : Lim l) (hn : l.length ≤ 1099511627776) : Pu rp 119 [.sl (lm l)] (.p (.sl (lm (dgl (val l))))) := by
 refine aY rp144 ?_
 simp only [f119, aJ, SB, ak, aj, ↓reduceIte, reduceCtorEq, ai, ab, ah, ae, aa, af]
 refine qe (β := Nat) (γ := Nat) (fun n => ([(0, .p (.sl (lm (l.take n))))], [])) (fun n => n ≤ l.length ∧ ∀ i, n ≤ i → ∀ x, l[i]? = some x → x = 0) (fun n => n)
  (fun n => ([(0, .p (.sl (lm (l.take n))))], [])) (fun n => n ≤ l.length ∧ iO l = l.take n) l.length (by rw [List.take_length]; rfl) rfl ⟨av _, fun i hi x hx => ?_⟩ ?_ ?_
 ·rw [aG hi] at hx; cases hx
 ·rintro ks' n ⟨hnl, hz⟩ ih hx
  have hlen : (lm (l.take n)).length = n := by rw [aT, aS]; omega
  by_cases h0 : (n : Int) > 0
  ·obtain ⟨m, rfl⟩ : ∃ m, n = m + 1 := ⟨n - 1, by omega⟩
   have hm : m < l.length := hnl
   have hi : IntKind.i64.wrap (((m + 1 : Nat) : Int) - 1) = (m : Int) := by rw [IntWalk.i64_in _ (by omega)]; omega
   have hg : (lm (l.take (m + 1)))[m]? = some (.int .u32 (l[m] : Nat)) := fI (by rw [List.getElem?_take_of_lt (by omega)]; simp)
   by_cases hx0 : l[m] = 0
   ·have e1 : (((l[m] : Nat) : Int) == 0) = true := by simp [hx0]
    have hs : dw [] 1 (.p (.sl (lm (l.take (m + 1))))) 0 m = some (.p (.sl (lm (l.take m)))) := by
     rw [rT (by rw [hlen]; omega), mJ, List.take_take, Nat.min_eq_left (by omega)]
    simp only [SB, ak, aj, ↓reduceIte, reduceCtorEq, ai, ab, ah, ae, aa, af, hlen, h0, hi, SN, hg, e1, hs]
    refine ih m _ ⟨by omega, fun i hi x hx => ?_⟩ (by omega) ?_
    ·rcases ax m i with h1 | h1
     ·exact hz i h1 x hx
     ·obtain rfl : i = m := by omega
      rw [bG hm] at hx
      cases hx
      exact hx0
    ·rfl
   ·have e1 : (((l[m] : Nat) : Int) == 0) = false := by simp [hx0]
    simp only [SB, ak, aj, ↓reduceIte, reduceCtorEq, ai, ab, ah, ae, aa, af, hlen, h0, hi, SN, hg, e1]
    refine hx (m + 1) _ ⟨hnl, fu hz (.inr ⟨l[m], by simp, hx0⟩)⟩ ?_
    rfl
  ·simp only [SB, ak, aj, ↓reduceIte, reduceCtorEq, ai, ab, ah, ae, aa, af, hlen, h0]
   obtain rfl : n = 0 := by omega
   refine hx 0 _ ⟨aD _, fu hz (.inl rfl)⟩ ?_
   rfl
 ·rintro n ⟨hnl, ht⟩
  simp only [SB, ak, aj, ↓reduceIte, reduceCtorEq, ai, ab, ah, ae, aa, af]
  rw [← jv hl, ht]
  rfl
theorem p158 {l : List Nat} (hl : Lim l) (hn : l.length ≤ 1099511627776) : Pu rp 127 [.sl (lm l)] (.p (.sl (lm (dgl (val l))))) := by
 refine aY rp158 ?_
 have hd : (dgl (val l)).length ≤ l.length := bE (bR hl)
 have hc : (dgl (val l)).length * 4 ≤ 140737488355328 := by omega
 simp only [f127, aJ, SB, ak, aj, ↓reduceIte, reduceCtorEq, ai, ab, ah, ae, aa, af, kp1 (p144 hl hn), fN, aT, hc, oG]
 have hf : dD [.prow 1 (lm (dgl (val l)))] (.own 0 0 (dgl (val l)).length) = some (.sl (lm (dgl (val l)))) := e9 (s := 1) rfl (by rw [aT])
 simp only [back, dL, Nat.not_lt_zero, if_false, hf, aH]
def eV (x y : Nat) : Int := if x < y then -1 else if x = y then 0 else 1
theorem p177 {a b : List Nat} (ha : Lim a) (hb : Lim b) (hna : a.length ≤ 1099511627776) (hnb : b.length ≤ 1099511627776) : Pu rp 116 [.sl (lm a), .sl (lm b)] (.p (.int .i64 (eV (val a) (val b)))) := by
 refine aY rp177 ?_
 have hda : (dgl (val a)).length ≤ a.length := bE (bR ha)
 have hdb : (dgl (val b)).length ≤ b.length := bE (bR hb)
 by_cases h1 : (dgl (val a)).length = (dgl (val b)).length
 ·have e1 : (((dgl (val a)).length : Int) != ((dgl (val b)).length : Int)) = false := by simp [h1]
  have w1 : IntKind.i64.wrap (((dgl (val a)).length : Int) - 1) = ((dgl (val a)).length : Int) - 1 := IntWalk.i64_in _ (by omega)
  simp only [f116, aJ, SB, ak, aj, ↓reduceIte, reduceCtorEq, ai, ab, ah, ae, aa, af, kp1 (p144 ha hna), kp1 (p144 hb hnb), aT, e1, w1]
  refine aM (β := Nat) (fun n => ([(0, .p (.sl (lm (dgl (val a))))), (1, .p (.sl (lm (dgl (val b))))), (5, i64 ((n : Int) - 1))], []))
   (fun n => n ≤ (dgl (val a)).length ∧ val ((dgl (val a)).drop n) = val ((dgl (val b)).drop n)) (fun n => n) (dgl (val a)).length rfl rfl ⟨av _, by rw [List.drop_length, h1, List.drop_length]⟩ ?_
  rintro n ⟨hn, hd⟩ ih
  by_cases h0 : ((n : Int) - 1) ≥ 0
  ·obtain ⟨m, rfl⟩ : ∃ m, n = m + 1 := ⟨n - 1, by omega⟩
   have hm : m < (dgl (val a)).length := hn
   have hm' : m < (dgl (val b)).length := by omega
   have hi : ((m + 1 : Nat) : Int) - 1 = (m : Int) := by omega
   rw [hi] at h0
   have hw : IntKind.i64.wrap ((m : Int) - 1) = (m : Int) - 1 := IntWalk.i64_in _ (by omega)
   by_cases heq : (dgl (val a))[m] = (dgl (val b))[m]
   ·have e2 : ((((dgl (val a))[m] : Nat) : Int) != (((dgl (val b))[m] : Nat) : Int)) = false := by simp [heq]
    simp only [SB, ak, aj, ↓reduceIte, reduceCtorEq, ai, ab, ah, ae, aa, af, hi, h0, SN, cO hm, cO hm', e2, hw]
    refine ih m _ ⟨by omega, ?_⟩ (by omega) ?_
    ·rw [di hm, di hm', val, val, heq, hd]
    ·rfl
   ·have e2 : ((((dgl (val a))[m] : Nat) : Int) != (((dgl (val b))[m] : Nat) : Int)) = true := by simp; omega
    by_cases hlt : (dgl (val a))[m] < (dgl (val b))[m]
    ·have e3 : (((dgl (val a))[m] : Nat) : Int) < (((dgl (val b))[m] : Nat) : Int) := by omega
     simp only [SB, ak, aj, ↓reduceIte, reduceCtorEq, ai, ab, ah, ae, aa, af, hi, h0, SN, cO hm, cO hm', e2, e3]
     have := n8 (aW (val a)) hm hm' hd hlt
     rw [aZ, aZ] at this
     rw [eV, if_pos this]
     rfl
    ·have e3 : ¬ (((dgl (val a))[m] : Nat) : Int) < (((dgl (val b))[m] : Nat) : Int) := by omega
     simp only [SB, ak, aj, ↓reduceIte, reduceCtorEq, ai, ab, ah, ae, aa, af, hi, h0, SN, cO hm, cO hm', e2, e3]
     have := n8 (aW (val b)) hm' hm hd.symm (by omega)
     rw [aZ, aZ] at this
     rw [eV, if_neg (by omega), if_neg (by omega)]
     rfl
  ·obtain rfl : n = 0 := by omega
   have h0' : ¬ (((0 : Nat) : Int) - 1 ≥ 0) := by omega
   simp only [SB, ak, aj, ↓reduceIte, reduceCtorEq, ai, ab, ah, ae, aa, af, h0']
   simp only [List.drop_zero, aZ] at hd
   rw [eV, if_neg (by omega), if_pos hd]
   rfl
 ·have e1 : (((dgl (val a)).length : Int) != ((dgl (val b)).length : Int)) = true := by simp; omega
  by_cases h2 : (dgl (val a)).length < (dgl (val b)).length
  ·have e2 : ((dgl (val a)).length : Int) < ((dgl (val b)).length : Int) := by omega
   simp only [f116, aJ, SB, ak, aj, ↓reduceIte, reduceCtorEq, ai, ab, ah, ae, aa, af, kp1 (p144 ha hna), kp1 (p144 hb hnb), aT, e1, e2]
   rw [eV, if_pos (lP h2)]
   rfl
  ·have e2 : ¬ ((dgl (val a)).length : Int) < ((dgl (val b)).length : Int) := by omega
   simp only [f116, aJ, SB, ak, aj, ↓reduceIte, reduceCtorEq, ai, ab, ah, ae, aa, af, kp1 (p144 ha hna), kp1 (p144 hb hnb), aT, e1, e2]
   have := lP (x := val b) (y := val a) (by omega)
   rw [eV, if_neg (by omega), if_neg (by omega)]
   rfl
theorem rp201 : rp 135 = some f135 := rfl
theorem rp178 : rp 117 = some f117 := rfl
def lg (l : List Nat) (i : Nat) : Nat := l[i]?.getD 0
theorem jA {l : List Nat} (h : Lim l) {i : Nat} : lg l i < LB := by
 unfold lg
 rcases ax i l.length with h1 | h1
 ·rw [bG h1]; exact h.get h1
 ·rw [aG h1]; exact cQ
theorem jj {l : List Nat} {i : Nat} (h : i < l.length) : lg l i = l[i] := by unfold lg; rw [bG h]; rfl
theorem jQ {l : List Nat} {i : Nat} (h : l.length ≤ i) : lg l i = 0 := by unfold lg; rw [aG h]; rfl
theorem dy {l : List Nat} {i : Nat} : val (l.take (i + 1)) = val (l.take i) + LB ^ i * lg l i := by
 rcases ax i l.length with h1 | h1
 ·rw [dR h1, jj h1]
 ·rw [jQ h1, b6 (by omega), b6 h1]; omega
theorem nZ {o : List Nat} {A B c x y i : Nat} (ho : o.length = i) (h : val o + LB ^ i * c = A + B) : val (o ++ [(c + x + y) % LB]) + LB ^ (i + 1) * ((c + x + y) / LB) = A + LB ^ i * x + (B + LB ^ i * y) := by
 rw [c9, ho, val_one, bJ]
 have h1 := Nat.mod_add_div (c + x + y) LB
 have h2 : LB ^ i * ((c + x + y) % LB) + LB ^ i * LB * ((c + x + y) / LB) = LB ^ i * (c + x + y) := by
  rw [bW, ← ck, h1]
 rw [ck, ck] at h2
 omega
theorem rh {c x y : Nat} (hc : c ≤ 1) (hx : x < LB) (hy : y < LB) : (c + x + y) / LB ≤ 1 ∧ c + x + y < 18446744073709551616 ∧ c + x < 18446744073709551616 := by
 unfold LB at *
 omega
theorem A0 {a b : List Nat} (ha : Lim a) (hb : Lim b) (hle : b.length ≤ a.length) (hna : a.length ≤ 1099511627775) {x y : List Nat} (hxy : (x = a ∧ y = b) ∨ (x = b ∧ y = a ∧ b.length < a.length)) :
 Pu rp 115 [.sl (lm x), .sl (lm y)] (.p (.sl (lm (dgl (val a + val b))))) := by
 refine aY rp176 ?_
 have w1 : IntKind.i64.wrap ((a.length : Int) + 1) = ((a.length + 1 : Nat) : Int) := by rw [IntWalk.i64_in _ (by omega)]; omega
 have m1 : ((4 : Nat) : Int) * ((a.length + 1 : Nat) : Int) ≤ 281474976710656 := by omega
 have m2 : ((a.length + 1 : Nat) : Int) ≤ 9223372036854775807 := by omega
 rcases hxy with ⟨hx, hy⟩ | ⟨hx, hy, hlt⟩ <;> rw [hx, hy]
 ·have e1 : ¬ (a.length : Int) < b.length := by omega
  simp only [f115, aJ, SB, ak, aj, ↓reduceIte, reduceCtorEq, ai, ab, ah, ae, aa, af, aT, e1, w1, m1, m2, SN, dN, i9]
  refine aM (β := Nat × List Nat × Nat) (fun t => ([(0, .p (.sl (lm a))), (1, .p (.sl (lm b))), (5, .own 0 0 (a.length + 1)), (6, .p (.int .u64 (t.2.2 : Int))), (20, i64 a.length), (21, i64 t.1)], [.prow 1 (lm (t.2.1 ++ aw (a.length + 1 - t.1) 0))]))
   (fun t => t.1 ≤ a.length ∧ t.2.1.length = t.1 ∧ Lim t.2.1 ∧ val t.2.1 + LB ^ t.1 * t.2.2 = val (a.take t.1) + val (b.take t.1) ∧ t.2.2 ≤ 1) (fun t => a.length - t.1) ((0, [], 0) : Nat × List Nat × Nat) rfl rfl ⟨aD _, rfl, (fun _ hx => nomatch hx), rfl, aD _⟩ ?_
  rintro ⟨i, o, c⟩ ⟨hi, ho, hlo, hv, hc⟩ ih
  simp only [] at hi ho hlo hv hc ih ⊢
  have hget : (lm (o ++ aw (a.length + 1 - i) 0))[i]? = some (.int .u32 0) := by
   have : (o ++ aw (a.length + 1 - i) 0)[i]? = some 0 := by rw [show a.length + 1 - i = (a.length - i) + 1 by omega, aC (by omega), ho, eI]; rfl
   exact fI this
  have hset : ∀ v, (o ++ aw (a.length + 1 - i) 0).set i v = o ++ v :: aw (a.length - i) 0 := by
   intro v
   rw [show a.length + 1 - i = (a.length - i) + 1 by omega, ← ho, me, aP]
   rfl
  have hfold : ∀ v, o ++ v :: aw (a.length - i) 0 = (o ++ [v]) ++ aw (a.length + 1 - (i + 1)) 0 := by
   intro v
   rw [aP, Nat.add_sub_add_right]
   rfl
  by_cases hin : (i : Int) < a.length
  ·have hia : i < a.length := by omega
   have hil : i < a.length + 1 := by omega
   obtain ⟨k1, k2, k3⟩ := rh hc (ha.get hia) (jA hb (i := i))
   have hst := nZ (x := a[i]) (y := lg b i) ho hv
   have hta := dy (l := a) (i := i)
   have htb := dy (l := b) (i := i)
   rw [jj hia] at hta
   rw [← hta, ← htb] at hst
   have hlen : (o ++ [(c + a[i] + lg b i) % LB]).length = i + 1 := by simp [ho]
   have hlim : Lim (o ++ [(c + a[i] + lg b i) % LB]) := hlo.append (.one (ep _ cQ))
   by_cases hib : (i : Int) < b.length
   ·have hib' : i < b.length := by omega
    rw [jj hib'] at hst k1 k2 hlen hlim
    simp only [SB, ak, aj, ↓reduceIte, reduceCtorEq, ai, ab, ah, ae, aa, af, aT, hin, hib, cO hia, cO hib', fM (ha.get hia), fM (hb.get hib'), je k3, je k2, w32, sh32, SN, hil, hget, eB, hset, IntWalk.i64_in ((i : Int) + 1) (by omega)]
    rw [hfold]
    refine ih (i + 1, o ++ [(c + a[i] + b[i]) % LB], (c + a[i] + b[i]) / LB) _ ⟨by omega, hlen, hlim, hst, k1⟩ (by simp; omega) ?_
    rfl
   ·rw [jQ (by omega), bw] at hst k1 k2 hlen hlim
    simp only [SB, ak, aj, ↓reduceIte, reduceCtorEq, ai, ab, ah, ae, aa, af, aT, hin, hib, cO hia, fM (ha.get hia), je k3, w32, sh32, SN, hil, hget, eB, hset, IntWalk.i64_in ((i : Int) + 1) (by omega)]
    rw [hfold]
    refine ih (i + 1, o ++ [(c + a[i]) % LB], (c + a[i]) / LB) _ ⟨by omega, hlen, hlim, hst, k1⟩ (by simp; omega) ?_
    rfl
  ·have hia : i = a.length := by omega
   have hil : a.length < a.length + 1 := bO _
   subst hia
   have hcl : c % LB = c := a6 (by unfold LB; omega)
   have hfin : o ++ c :: aw (a.length - a.length) 0 = o ++ [c] := by simp
   have hval : val (o ++ [c]) = val a + val b := by
    rw [c9, val_one, ho, hv, List.take_length, b6 hle]
   have hlim : Lim (o ++ [c]) := hlo.append (.one (by unfold LB; omega))
   have htr := p144 hlim (by simp; omega)
   rw [hval] at htr
   simp only [SB, ak, aj, ↓reduceIte, reduceCtorEq, ai, ab, ah, ae, aa, af, aT, hin, w32, hcl, SN, hil, hget, eB, hset]
   rw [hfin, g8 htr rfl (by rw [aT]; simp; omega)]
   simp only [SB, ak, aj, ↓reduceIte, reduceCtorEq, ai, ab, ah, ae, aa, af]
   rfl
 ·have e1 : (b.length : Int) < a.length := by omega
  simp only [f115, aJ, SB, ak, aj, ↓reduceIte, reduceCtorEq, ai, ab, ah, ae, aa, af, aT, e1, w1, m1, m2, SN, dN, i9]
  refine aM (β := Nat × List Nat × Nat) (fun t => ([(0, .p (.sl (lm a))), (1, .p (.sl (lm b))), (5, .own 0 0 (a.length + 1)), (6, .p (.int .u64 (t.2.2 : Int))), (20, i64 a.length), (21, i64 t.1)], [.prow 1 (lm (t.2.1 ++ aw (a.length + 1 - t.1) 0))]))
   (fun t => t.1 ≤ a.length ∧ t.2.1.length = t.1 ∧ Lim t.2.1 ∧ val t.2.1 + LB ^ t.1 * t.2.2 = val (a.take t.1) + val (b.take t.1) ∧ t.2.2 ≤ 1) (fun t => a.length - t.1) ((0, [], 0) : Nat × List Nat × Nat) rfl rfl ⟨aD _, rfl, (fun _ hx => nomatch hx), rfl, aD _⟩ ?_
  rintro ⟨i, o, c⟩ ⟨hi, ho, hlo, hv, hc⟩ ih
  simp only [] at hi ho hlo hv hc ih ⊢
  have hget : (lm (o ++ aw (a.length + 1 - i) 0))[i]? = some (.int .u32 0) := by
   have : (o ++ aw (a.length + 1 - i) 0)[i]? = some 0 := by rw [show a.length + 1 - i = (a.length - i) + 1 by omega, aC (by omega), ho, eI]; rfl
   exact fI this
  have hset : ∀ v, (o ++ aw (a.length + 1 - i) 0).set i v = o ++ v :: aw (a.length - i) 0 := by
   intro v
   rw [show a.length + 1 - i = (a.length - i) + 1 by omega, ← ho, me, aP]
   rfl
  have hfold : ∀ v, o ++ v :: aw (a.length - i) 0 = (o ++ [v]) ++ aw (a.length + 1 - (i + 1)) 0 := by
   intro v
   rw [aP, Nat.add_sub_add_right]
   rfl
  by_cases hin : (i : Int) < a.length
  ·have hia : i < a.length := by omega
   have hil : i < a.length + 1 := by omega
   obtain ⟨k1, k2, k3⟩ := rh hc (ha.get hia) (jA hb (i := i))
   have hst := nZ (x := a[i]) (y := lg b i) ho hv
   have hta := dy (l := a) (i := i)
   have htb := dy (l := b) (i := i)
   rw [jj hia] at hta
   rw [← hta, ← htb] at hst
   have hlen : (o ++ [(c + a[i] + lg b i) % LB]).length = i + 1 := by simp [ho]
   have hlim : Lim (o ++ [(c + a[i] + lg b i) % LB]) := hlo.append (.one (ep _ cQ))
   by_cases hib : (i : Int) < b.length
   ·have hib' : i < b.length := by omega
    rw [jj hib'] at hst k1 k2 hlen hlim
    simp only [SB, ak, aj, ↓reduceIte, reduceCtorEq, ai, ab, ah, ae, aa, af, aT, hin, hib, cO hia, cO hib', fM (ha.get hia), fM (hb.get hib'), je k3, je k2, w32, sh32, SN, hil, hget, eB, hset, IntWalk.i64_in ((i : Int) + 1) (by omega)]
    rw [hfold]
    refine ih (i + 1, o ++ [(c + a[i] + b[i]) % LB], (c + a[i] + b[i]) / LB) _ ⟨by omega, hlen, hlim, hst, k1⟩ (by simp; omega) ?_
    rfl
   ·rw [jQ (by omega), bw] at hst k1 k2 hlen hlim
    simp only [SB, ak, aj, ↓reduceIte, reduceCtorEq, ai, ab, ah, ae, aa, af, aT, hin, hib, cO hia, fM (ha.get hia), je k3, w32, sh32, SN, hil, hget, eB, hset, IntWalk.i64_in ((i : Int) + 1) (by omega)]
    rw [hfold]
    refine ih (i + 1, o ++ [(c + a[i]) % LB], (c + a[i]) / LB) _ ⟨by omega, hlen, hlim, hst, k1⟩ (by simp; omega) ?_
    rfl
  ·have hia : i = a.length := by omega
   have hil : a.length < a.length + 1 := bO _
   subst hia
   have hcl : c % LB = c := a6 (by unfold LB; omega)
   have hfin : o ++ c :: aw (a.length - a.length) 0 = o ++ [c] := by simp
   have hval : val (o ++ [c]) = val a + val b := by
    rw [c9, val_one, ho, hv, List.take_length, b6 hle]
   have hlim : Lim (o ++ [c]) := hlo.append (.one (by unfold LB; omega))
   have htr := p144 hlim (by simp; omega)
   rw [hval] at htr
   simp only [SB, ak, aj, ↓reduceIte, reduceCtorEq, ai, ab, ah, ae, aa, af, aT, hin, w32, hcl, SN, hil, hget, eB, hset]
   rw [hfin, g8 htr rfl (by rw [aT]; simp; omega)]
   simp only [SB, ak, aj, ↓reduceIte, reduceCtorEq, ai, ab, ah, ae, aa, af]
   rfl
theorem p176 {a b : List Nat} (ha : Lim a) (hb : Lim b) (hna : a.length ≤ 1099511627775) (hnb : b.length ≤ 1099511627775) : Pu rp 115 [.sl (lm a), .sl (lm b)] (.p (.sl (lm (dgl (val a + val b))))) := by
 rcases ax a.length b.length with h | h
 ·rw [Nat.add_comm]; exact A0 hb ha (Nat.le_of_lt h) hnb (.inr ⟨rfl, rfl, h⟩)
 ·exact A0 ha hb h hna (.inl ⟨rfl, rfl⟩)
theorem p63 : ((2 : Int) ^ min (gG 63) IntKind.u64.bits) = 9223372036854775808 := by decide
theorem zw {x y w : Nat} (hx : x < LB) (hy : y < LB) (hw : w ≤ 1) : ∃ r w' : Nat, r < LB ∧ w' ≤ 1 ∧ r + y + w = x + w' * LB ∧
 IntKind.u32.wrap (IntKind.u64.wrap (IntKind.u64.wrap ((x : Int) - (w : Int)) - (y : Int))) = (r : Int) ∧ (IntKind.u64.wrap (IntKind.u64.wrap ((x : Int) - (w : Int)) - (y : Int))).fdiv (2 ^ min (gG 63) IntKind.u64.bits) = (w' : Int) := by
 rw [p63, IntKind.wrap_u64, IntKind.wrap_u64, IntKind.wrap_u32, Int.fdiv_eq_ediv_of_nonneg _ (by decide)]
 unfold LB at *
 by_cases h : w + y ≤ x
 ·exact ⟨x - w - y, 0, by omega, by omega, by omega, by omega, by omega⟩
 ·exact ⟨x + 4294967296 - w - y, 1, by omega, by omega, by omega, by omega, by omega⟩
theorem wV {x w : Nat} (hx : x < LB) (hw : w ≤ 1) : ∃ r w' : Nat, r < LB ∧ w' ≤ 1 ∧ r + 0 + w = x + w' * LB ∧
 IntKind.u32.wrap (IntKind.u64.wrap ((x : Int) - (w : Int))) = (r : Int) ∧ (IntKind.u64.wrap ((x : Int) - (w : Int))).fdiv (2 ^ min (gG 63) IntKind.u64.bits) = (w' : Int) := by
 rw [p63, IntKind.wrap_u64, IntKind.wrap_u32, Int.fdiv_eq_ediv_of_nonneg _ (by decide)]
 unfold LB at *
 by_cases h : w ≤ x
 ·exact ⟨x - w, 0, by omega, by omega, by omega, by omega, by omega⟩
 ·exact ⟨x + 4294967296 - w, 1, by omega, by omega, by omega, by omega, by omega⟩
theorem qy {o : List Nat} {A B w w' r x y i : Nat} (ho : o.length = i) (h : val o + B = A + LB ^ i * w) (hr : r + y + w = x + w' * LB) : val (o ++ [r]) + (B + LB ^ i * y) = A + LB ^ i * x + LB ^ (i + 1) * w' := by
 rw [c9, ho, val_one, bJ]
 have h2 : LB ^ i * (r + y + w) = LB ^ i * (x + w' * LB) := by rw [hr]
 simp only [ck] at h2
 rw [a7 w' LB, ← bW] at h2
 omega
theorem p201 {a b : List Nat} (ha : Lim a) (hb : Lim b) (hle : b.length ≤ a.length) (hab : val b ≤ val a) (hna : a.length ≤ 1099511627775) :
 Pu rp 135 [.sl (lm a), .sl (lm b)] (.p (.sl (lm (dgl (val a - val b))))) := by
 refine aY rp201 ?_
 have m1 : ((4 : Nat) : Int) * (a.length : Int) ≤ 281474976710656 := by omega
 have m2 : (a.length : Int) ≤ 9223372036854775807 := by omega
 simp only [f135, aJ, SB, ak, aj, ↓reduceIte, reduceCtorEq, ai, ab, ah, ae, aa, af, aT, m1, m2, SN, dN, i9]
 refine aM (β := Nat × List Nat × Nat) (fun t => ([(0, .p (.sl (lm a))), (1, .p (.sl (lm b))), (5, .own 0 0 a.length), (6, .p (.int .u64 (t.2.2 : Int))), (13, i64 a.length), (14, i64 t.1)], [.prow 1 (lm (t.2.1 ++ aw (a.length - t.1) 0))]))
  (fun t => t.1 ≤ a.length ∧ t.2.1.length = t.1 ∧ Lim t.2.1 ∧ val t.2.1 + val (b.take t.1) = val (a.take t.1) + LB ^ t.1 * t.2.2 ∧ t.2.2 ≤ 1) (fun t => a.length - t.1) ((0, [], 0) : Nat × List Nat × Nat) rfl rfl ⟨aD _, rfl, (fun _ hx => nomatch hx), rfl, aD _⟩ ?_
 rintro ⟨i, o, w⟩ ⟨hi, ho, hlo, hv, hw⟩ ih
 simp only [] at hi ho hlo hv hw ih ⊢
 by_cases hin : (i : Int) < a.length
 ·have hia : i < a.length := by omega
  have hget : (lm (o ++ aw (a.length - i) 0))[i]? = some (.int .u32 0) := by
   have : (o ++ aw (a.length - i) 0)[i]? = some 0 := by rw [show a.length - i = (a.length - i - 1) + 1 by omega, aC (by omega), ho, eI]; rfl
   exact fI this
  have hset : ∀ v, (o ++ aw (a.length - i) 0).set i v = o ++ v :: aw (a.length - (i + 1)) 0 := by
   intro v
   rw [show a.length - i = (a.length - (i + 1)) + 1 by omega, ← ho, me, aP]
   rfl
  have hfold : ∀ v, o ++ v :: aw (a.length - (i + 1)) 0 = (o ++ [v]) ++ aw (a.length - (i + 1)) 0 := by
   intro v
   rw [aP]
   rfl
  have hta := dy (l := a) (i := i)
  have htb := dy (l := b) (i := i)
  rw [jj hia] at hta
  by_cases hib : (i : Int) < b.length
  ·have hib' : i < b.length := by omega
   rw [jj hib'] at htb
   obtain ⟨r, w', hr, hw', hrel, e32, e63⟩ := zw (ha.get hia) (hb.get hib') hw
   have hst := qy ho hv hrel
   rw [← hta, ← htb] at hst
   simp only [SB, ak, aj, ↓reduceIte, reduceCtorEq, ai, ab, ah, ae, aa, af, aT, hin, hib, cO hia, cO hib', fM (ha.get hia), fM (hb.get hib'), e32, e63, SN, hia, hget, eB, hset, IntWalk.i64_in ((i : Int) + 1) (by omega)]
   rw [hfold]
   refine ih (i + 1, o ++ [r], w') _ ⟨by omega, by simp [ho], hlo.append (.one hr), hst, hw'⟩ (by simp; omega) ?_
   rfl
  ·rw [jQ (by omega)] at htb
   obtain ⟨r, w', hr, hw', hrel, e32, e63⟩ := wV (ha.get hia) hw
   have hst := qy ho hv hrel
   rw [← hta, ← htb] at hst
   simp only [SB, ak, aj, ↓reduceIte, reduceCtorEq, ai, ab, ah, ae, aa, af, aT, hin, hib, cO hia, fM (ha.get hia), e32, e63, SN, hia, hget, eB, hset, IntWalk.i64_in ((i : Int) + 1) (by omega)]
   rw [hfold]
   refine ih (i + 1, o ++ [r], w') _ ⟨by omega, by simp [ho], hlo.append (.one hr), hst, hw'⟩ (by simp; omega) ?_
   rfl
 ·have hia : i = a.length := by omega
  subst hia
  have hval : val o = val a - val b := by
   rw [List.take_length, b6 hle] at hv
   have h1 := bR hlo
   rw [ho] at h1
   rcases ax w 1 with h2 | h2
   ·obtain rfl : w = 0 := by omega
    rw [fj] at hv
    omega
   ·obtain rfl : w = 1 := by omega
    rw [dq] at hv
    omega
  have htr := p144 hlo (by omega)
  rw [hval] at htr
  have hfin : o ++ aw (a.length - a.length) 0 = o := by simp
  rw [hfin]
  simp only [SB, ak, aj, ↓reduceIte, reduceCtorEq, ai, ab, ah, ae, aa, af, aT, hin]
  rw [g8 htr rfl (by rw [aT, ho])]
  simp only [SB, ak, aj, ↓reduceIte, reduceCtorEq, ai, ab, ah, ae, aa, af]
  rfl
theorem p178 {a b : List Nat} (ha : Lim a) (hb : Lim b) (hna : a.length ≤ 1099511627775) (hnb : b.length ≤ 1099511627775) (hab : val b ≤ val a) :
 Pu rp 117 [.sl (lm a), .sl (lm b)] (.tup [.p (.sl (lm (dgl (val a - val b)))), .p (.int .i64 0)]) := by
 refine aY rp178 ?_
 have hc : ¬ eV (val a) (val b) < 0 := by unfold eV; rw [if_neg (by omega)]; split <;> decide
 have hl : (dgl (val b)).length ≤ (dgl (val a)).length := by
  rcases ax (dgl (val a)).length (dgl (val b)).length with h | h
  ·have := lP h; omega
  ·exact h
 have hda : (dgl (val a)).length ≤ a.length := bE (bR ha)
 have h201 := p201 (aW (val a)) (aW (val b)) hl (by rw [aZ, aZ]; exact hab) (by omega)
 rw [aZ, aZ] at h201
 simp only [f117, aJ, SB, ak, aj, ↓reduceIte, reduceCtorEq, ai, ab, ah, ae, aa, af, kp2 (p177 ha hb (by omega) (by omega)), hc, kp1 (p144 ha (by omega)), kp1 (p144 hb (by omega)), kp2 h201]
 exact dz aQ aQ
theorem rp111 : rp 95 = some f95 := rfl
theorem rp147 : rp 81 = some f81 := rfl
theorem qn : ∀ {O : List Nat} {k x : Nat} (h : k < O.length), val (O.set k x) + LB ^ k * O[k] = val O + LB ^ k * x
 | [], k, x, h => by cases h
 | y :: O, 0, x, h => by simp [val]; omega
 | y :: O, k + 1, x, h => by
   have hk : k < O.length := by simpa using h
   have ih := qn (O := O) (k := k) (x := x) hk
   simp only [List.set_cons_succ, val, List.getElem_cons_succ, bJ]
   have h2 : LB * (val (O.set k x) + LB ^ k * O[k]) = LB * (val O + LB ^ k * x) := by rw [ih]
   simp only [ck, ← bW] at h2
   rw [a7 LB (LB ^ k)] at h2
   omega
theorem vo {O : List Nat} (h : Lim O) {k x : Nat} (hx : x < LB) : Lim (O.set k x) := fun y hy => by
 rcases List.mem_or_eq_of_mem_set hy with h1 | rfl
 ·exact h y h1
 ·exact hx
theorem z9 {O : List Nat} {X Y i j c x y : Nat} (hk : i + j < O.length) (h : val O + LB ^ (i + j) * c = X + LB ^ i * (x * Y)) :
 val (O.set (i + j) ((c + (x * y + O[i + j])) % LB)) + LB ^ (i + j + 1) * ((c + (x * y + O[i + j])) / LB) = X + LB ^ i * (x * (Y + LB ^ j * y)) := by
 have h1 := qn (x := (c + (x * y + O[i + j])) % LB) hk
 have h2 := Nat.mod_add_div (c + (x * y + O[i + j])) LB
 have h3 : LB ^ (i + j) * ((c + (x * y + O[i + j])) % LB) + LB ^ (i + j + 1) * ((c + (x * y + O[i + j])) / LB) = LB ^ (i + j) * c + LB ^ (i + j) * (x * y) + LB ^ (i + j) * O[i + j] := by
  rw [bJ, bW (LB ^ (i + j)) LB, ← ck, h2, ck, ck, dh]
 have h4 : LB ^ i * (x * (Y + LB ^ j * y)) = LB ^ i * (x * Y) + LB ^ (i + j) * (x * y) := by
  rw [ck, ck, Nat.pow_add, Nat.mul_left_comm x, bW]
 rw [h4]
 omega
theorem mG {c x y o : Nat} (hc : c < LB) (hx : x < LB) (hy : y < LB) (ho : o < LB) : x * y + o < 18446744073709551616 ∧ x * y < 18446744073709551616 ∧ c + (x * y + o) < 18446744073709551616 ∧ (c + (x * y + o)) / LB < LB := by
 have h : x * y ≤ (LB - 1) * (LB - 1) := Nat.mul_le_mul (by omega) (by omega)
 have h2 : (LB - 1) * (LB - 1) = 18446744065119617025 := by decide
 rw [h2] at h
 have h3 : c + (x * y + o) < 18446744073709551616 := by unfold LB at *; omega
 refine ⟨by unfold LB at *; omega, by omega, h3, ?_⟩
 unfold LB at *
 omega
structure uI (x y : List Nat) (i : Nat) (O : List Nat) : Prop where
 len : O.length = x.length + y.length
 lim : Lim O
 v : val O = val (x.take i) * val y
 tail : ∀ k, i + y.length ≤ k → k < O.length → O[k]? = some 0
structure tP (x y : List Nat) (i j : Nat) (O : List Nat) (c : Nat) : Prop where
 len : O.length = x.length + y.length
 lim : Lim O
 cl : c < LB
 v : val O + LB ^ (i + j) * c = val (x.take i) * val y + LB ^ i * (lg x i * val (y.take j))
 tail : ∀ k, i + y.length ≤ k → k < O.length → O[k]? = some 0
theorem uI.start {x y : List Nat} : uI x y 0 (aw (x.length + y.length) 0) where
 len := by simp
 lim := .rep
 v := by rw [uT, List.take_zero]; simp [val]
 tail := fun k _ h => by rw [eK] at h; simp [h]
theorem uI.row {x y O : List Nat} {i : Nat} (h : uI x y i O) : tP x y i 0 O 0 where
 len := h.len
 lim := h.lim
 cl := cQ
 v := by rw [h.v, List.take_zero]; simp [val]
 tail := h.tail
theorem tP.step {x y O : List Nat} {i j c : Nat} (hx : Lim x) (hy : Lim y) (h : tP x y i j O c) (hi : i < x.length) (hj : j < y.length) (hk : i + j < O.length) :
 tP x y i (j + 1) (O.set (i + j) ((c + (x[i] * y[j] + O[i + j])) % LB)) ((c + (x[i] * y[j] + O[i + j])) / LB) where
 len := by rw [ay]; exact h.len
 lim := vo h.lim (ep _ cQ)
 cl := (mG h.cl (hx.get hi) (hy.get hj) (h.lim.get hk)).2.2.2
 v := by
  have hv := h.v
  rw [jj hi] at hv ⊢
  rw [dR hj]
  exact z9 hk hv
 tail := fun k h1 h2 => by
  rw [ay] at h2
  rw [aE (by omega)]
  exact h.tail k h1 h2
theorem tP.done {x y O : List Nat} {i c : Nat} (h : tP x y i y.length O c) (hi : i < x.length) : uI x y (i + 1) (O.set (i + y.length) c) where
 len := by rw [ay]; exact h.len
 lim := vo h.lim h.cl
 v := by
  have hk : i + y.length < O.length := by rw [h.len]; omega
  have h0 := h.tail (i + y.length) (av _) hk
  rw [bG hk, Option.some.injEq] at h0
  have h1 := qn (x := c) hk
  rw [h0, fj, bw, h.v, List.take_length] at h1
  rw [h1, dy, a8, bW]
 tail := fun k h1 h2 => by
  rw [ay] at h2
  rw [aE (by omega)]
  exact h.tail k (by omega) h2
theorem p111 {a b : List Nat} (ha : Lim a) (hb : Lim b) (hna : a.length ≤ 500000000000) (hnb : b.length ≤ 500000000000) : Pu rp 95 [.sl (lm a), .sl (lm b)] (.p (.sl (lm (dgl (val a * val b))))) := by
 refine aY rp111 ?_
 obtain ⟨x, hxd⟩ : ∃ x, x = dgl (val a) := ⟨_, rfl⟩
 obtain ⟨y, hyd⟩ : ∃ y, y = dgl (val b) := ⟨_, rfl⟩
 have k1 : Pu rp 119 [.sl (lm a)] (.p (.sl (lm x))) := by rw [hxd]; exact p144 ha (by omega)
 have k2 : Pu rp 119 [.sl (lm b)] (.p (.sl (lm y))) := by rw [hyd]; exact p144 hb (by omega)
 have hx : Lim x := by rw [hxd]; exact aW _
 have hy : Lim y := by rw [hyd]; exact aW _
 have hlx : x.length ≤ 500000000000 := by rw [hxd]; exact a9 (bE (bR ha)) hna
 have hly : y.length ≤ 500000000000 := by rw [hyd]; exact a9 (bE (bR hb)) hnb
 have hva : val a = val x := by rw [hxd, aZ]
 have hvb : val b = val y := by rw [hyd, aZ]
 rw [hva, hvb]
 clear hxd hyd hva hvb
 have w1 : IntKind.i64.wrap ((x.length : Int) + y.length) = ((x.length + y.length : Nat) : Int) := by rw [IntWalk.i64_in _ (by omega)]; omega
 have m1 : ((4 : Nat) : Int) * ((x.length + y.length : Nat) : Int) ≤ 281474976710656 := by omega
 have m2 : ((x.length + y.length : Nat) : Int) ≤ 9223372036854775807 := by omega
 simp only [f95, aJ, SB, ak, aj, ↓reduceIte, reduceCtorEq, ai, ab, ah, ae, aa, af, kp1 k1, kp1 k2, aT, w1, m1, m2, SN, dN, i9]
 refine aM (β := Nat × List Nat) (fun t => ([(0, .p (.sl (lm x))), (1, .p (.sl (lm y))), (5, .own 0 0 (x.length + y.length)), (20, i64 x.length), (21, i64 t.1)], [.prow 1 (lm t.2)]))
  (fun t => t.1 ≤ x.length ∧ uI x y t.1 t.2) (fun t => x.length - t.1) ((0, aw (x.length + y.length) 0) : Nat × List Nat) rfl rfl ⟨aD _, .start⟩ ?_
 rintro ⟨i, O⟩ ⟨hi, hM⟩ ih
 simp only [] at hi hM ih ⊢
 by_cases hin : (i : Int) < x.length
 ·have hix : i < x.length := by omega
  simp only [SB, ak, aj, ↓reduceIte, reduceCtorEq, ai, ab, ah, ae, aa, af, hin, aT]
  refine aM (β := Nat × List Nat × Nat) (fun t => ([(0, .p (.sl (lm x))), (1, .p (.sl (lm y))), (5, .own 0 0 (x.length + y.length)), (6, i64 i), (7, .p (.int .u64 (t.2.2 : Int))), (20, i64 x.length), (21, i64 i), (25, i64 y.length), (26, i64 t.1)], [.prow 1 (lm t.2.1)]))
   (fun t => t.1 ≤ y.length ∧ tP x y i t.1 t.2.1 t.2.2) (fun t => y.length - t.1) ((0, O, 0) : Nat × List Nat × Nat) rfl rfl ⟨aD _, hM.row⟩ ?_
  rintro ⟨j, P, c⟩ ⟨hj, hJ⟩ ih2
  simp only [] at hj hJ ih2 ⊢
  by_cases hjn : (j : Int) < y.length
  ·have hjy : j < y.length := by omega
   have hkl : i + j < x.length + y.length := by omega
   have hk : i + j < P.length := by rw [hJ.len]; exact hkl
   obtain ⟨b1, b2, b3, b4⟩ := mG hJ.cl (hx.get hix) (hy.get hjy) (hJ.lim.get hk)
   have hJ' := hJ.step hx hy hix hjy hk
   have w2 : IntKind.i64.wrap ((i : Int) + j) = ((i + j : Nat) : Int) := by rw [IntWalk.i64_in _ (by omega)]; omega
   simp only [SB, ak, aj, ↓reduceIte, reduceCtorEq, ai, ab, ah, ae, aa, af, aT, hjn, cO hix, cO hjy, cO hk, fM (hx.get hix), fM (hy.get hjy), fM (hJ.lim.get hk), vT b2, je b1, je b3, w2, w32, sh32, SN, hkl, eB, IntWalk.i64_in ((j : Int) + 1) (by omega)]
   refine ih2 (j + 1, P.set (i + j) ((c + (x[i] * y[j] + P[i + j])) % LB), (c + (x[i] * y[j] + P[i + j])) / LB) _ ⟨by omega, hJ'⟩ (by simp; omega) ?_
   rfl
  ·obtain rfl : j = y.length := by omega
   have hkl : i + y.length < x.length + y.length := by omega
   have hk : i + y.length < P.length := by rw [hJ.len]; exact hkl
   have w2 : IntKind.i64.wrap ((i : Int) + y.length) = ((i + y.length : Nat) : Int) := by rw [IntWalk.i64_in _ (by omega)]; omega
   have hcl : c % LB = c := a6 hJ.cl
   simp only [SB, ak, aj, ↓reduceIte, reduceCtorEq, ai, ab, ah, ae, aa, af, aT, hjn, w2, w32, hcl, cO hk, SN, hkl, eB, IntWalk.i64_in ((i : Int) + 1) (by omega)]
   refine ih (i + 1, P.set (i + y.length) c) _ ⟨by omega, hJ.done hix⟩ (by simp; omega) ?_
   rfl
 ·obtain rfl : i = x.length := by omega
  have htr := p144 hM.lim (by rw [hM.len]; omega)
  rw [hM.v, List.take_length] at htr
  simp only [SB, ak, aj, ↓reduceIte, reduceCtorEq, ai, ab, ah, ae, aa, af, aT, hin]
  rw [g8 htr rfl (by rw [aT, hM.len])]
  simp only [SB, ak, aj, ↓reduceIte, reduceCtorEq, ai, ab, ah, ae, aa, af]
  rfl
theorem rp148 : rp 120 = some f120 := rfl
theorem rp185 : rp 129 = some f129 := rfl
theorem rp184 : rp 128 = some f128 := rfl
theorem rp186 : rp 130 = some f130 := rfl
theorem rp188 : rp 132 = some f132 := rfl
theorem rp119 : rp 89 = some f89 := rfl
def bl (x : Nat) : Nat := if x = 0 then 0 else Nat.log2 x + 1
theorem mS : bl 0 = 0 := rfl
theorem vJ {x L : Nat} (h0 : x ≠ 0) (h1 : 2 ^ (L - 1) ≤ x) (h2 : x < 2 ^ L) : bl x = L := by
 unfold bl
 rw [if_neg h0]
 have a := (Nat.log2_lt h0).2 h2
 have b := (Nat.le_log2 h0).2 h1
 omega
theorem jl {x : Nat} (h0 : x ≠ 0) : 2 ^ (bl x - 1) ≤ x ∧ x < 2 ^ bl x ∧ 1 ≤ bl x := by
 unfold bl
 rw [if_neg h0]
 exact ⟨(Nat.le_log2 h0).1 (av _), (Nat.log2_lt h0).1 (bO _), by omega⟩
def Dm : List Nat := [0, 1, 2, 2, 3, 3, 3, 3, 4, 4, 4, 4, 4, 4, 4, 4, 5, 5, 5, 5, 5, 5, 5, 5, 5, 5, 5, 5, 5, 5, 5, 5, 6, 6, 6, 6, 6, 6, 6, 6, 6, 6, 6, 6, 6, 6, 6, 6, 6, 6, 6, 6, 6, 6, 6, 6, 6, 6, 6, 6, 6, 6, 6, 6, 7, 7, 7, 7, 7, 7, 7, 7, 7, 7, 7, 7, 7, 7, 7, 7, 7, 7, 7, 7, 7, 7, 7, 7, 7, 7, 7, 7, 7, 7, 7, 7, 7, 7, 7, 7, 7, 7, 7, 7, 7, 7, 7, 7, 7, 7, 7, 7, 7, 7, 7, 7, 7, 7, 7, 7, 7, 7, 7, 7, 7, 7, 7, 7, 8, 8, 8, 8, 8, 8, 8, 8, 8, 8, 8, 8, 8, 8, 8, 8, 8, 8, 8, 8, 8, 8, 8, 8, 8, 8, 8, 8, 8, 8, 8, 8, 8, 8, 8, 8, 8, 8, 8, 8, 8, 8, 8, 8, 8, 8, 8, 8, 8, 8, 8, 8, 8, 8, 8, 8, 8, 8, 8, 8, 8, 8, 8, 8, 8, 8, 8, 8, 8, 8, 8, 8, 8, 8, 8, 8, 8, 8, 8, 8, 8, 8, 8, 8, 8, 8, 8, 8, 8, 8, 8, 8, 8, 8, 8, 8, 8, 8, 8, 8, 8, 8, 8, 8, 8, 8, 8, 8, 8, 8, 8, 8, 8, 8, 8, 8, 8, 8, 8, 8, 8, 8, 8, 8, 8, 8, 8, 8]
theorem zt : ((ca 256).all fun x => match Dm[x]? with | some t => decide (x < 2 ^ t) && (x == 0 || (decide (2 ^ (t - 1) ≤ x) && decide (1 ≤ t))) && decide (t ≤ 8) && (x != 0 || t == 0) | none => false) = true := by decide +kernel
theorem l6 {x : Nat} (h : x < 256) : Dm[x]? = some (bl x) ∧ bl x ≤ 8 := by
 have h1 := aU.1 zt x (List.mem_range.2 h)
 split at h1
 ·rename_i t ht
  simp only [aA, decide_eq_true_eq, Bool.or_eq_true, beq_iff_eq, bne_iff_ne] at h1
  obtain ⟨⟨⟨h2, h3⟩, h4⟩, h5⟩ := h1
  have : bl x = t := by
   by_cases hx : x = 0
   ·subst hx
    rcases h5 with h5 | h5
    ·exact absurd rfl h5
    ·rw [mS, h5]
   ·rcases h3 with h3 | h3
    ·exact absurd h3 hx
    ·exact vJ hx h3.1 h2
  rw [this]
  exact ⟨ht, h4⟩
 ·cases h1
theorem mj {rs : List dH} {base : Nat} {sl d : Option Nat} {l : List LOp} {dr : Dr} {ks : List KI} {e : Env} {σ : ar} {Q : CV → ar → Prop} {tb : List Nat} {x : Opd} {i t : Nat} (hi : vl e x = .p (.int .u8 (i : Int))) (ht : tb[i]? = some t) :
 ExR rp rs base (⟨d, none, sl, .idx tb x⟩ :: l) dr ks e σ Q = ExR rp rs base l dr ks (sto d (.p (.int .u8 (t : Int))) e) σ Q := by
 rw [iK]
 simp only [ev, hi, nP, Int.natCast_nonneg, if_true, Int.toNat_natCast, ht, eY]
theorem mT {x k : Nat} (h : x / 2 ^ k ≠ 0) : bl x = k + bl (x / 2 ^ k) := by
 obtain ⟨h1, h2, h3⟩ := jl h
 have hx : x ≠ 0 := by rintro rfl; simp at h
 have hp := dg (n := k) (show 0 < 2 by decide)
 refine vJ hx ?_ ?_
 ·rw [show k + bl (x / 2 ^ k) - 1 = (bl (x / 2 ^ k) - 1) + k by omega, Nat.pow_add]
  exact a9 (az _ h1) (Nat.div_mul_le_self _ _)
 ·rw [Nat.add_comm, Nat.pow_add]
  exact (Nat.div_lt_iff_lt_mul hp).1 h2
theorem p148 {x : Nat} (h : x < LB) : Pu rp 120 [.int .u32 (x : Int)] (.p (.int .i64 (bl x : Nat))) := by
 refine aY rp148 ?_
 have q16 : ((2 : Int) ^ min (gG 16) IntKind.u32.bits) = 65536 := by decide
 have q8 : ((2 : Int) ^ min (gG 8) IntKind.u32.bits) = 256 := by decide
 have s16 : ((x : Int).fdiv 65536) = ((x / 65536 : Nat) : Int) := by rw [Int.fdiv_eq_ediv_of_nonneg _ (by decide)]; rfl
 have fin : ∀ {y k : Nat}, y < 256 → k ≤ 24 → IntKind.u8.wrap (y : Int) = (y : Int) ∧ IntKind.i64.wrap ((bl y : Nat) : Int) = ((bl y : Nat) : Int) ∧ IntKind.i64.wrap ((k : Int) + ((bl y : Nat) : Int)) = ((k + bl y : Nat) : Int) := by
  intro y k hy hk
  have := (l6 hy).2
  exact ⟨IntWalk.u8_in _ (by omega), IntWalk.i64_in _ (by omega), by rw [IntWalk.i64_in _ (by omega)]; omega⟩
 unfold LB at h
 by_cases h1 : (x : Int) ≥ 65536
 ·have s8 : (((x / 65536 : Nat) : Int).fdiv 256) = ((x / 65536 / 256 : Nat) : Int) := by rw [Int.fdiv_eq_ediv_of_nonneg _ (by decide)]; rfl
  by_cases h2 : ((x / 65536 : Nat) : Int) ≥ 256
  ·have hy : x / 65536 / 256 < 256 := by omega
   obtain ⟨f1, f2, f3⟩ := fin (k := 24) hy (by decide)
   have w8 : IntKind.i64.wrap (16 + 8) = ((24 : Nat) : Int) := by decide
   simp only [f120, aJ, S1, S2, S3, S4, S5, gT, S6, S7, S8, setCells, ak, aj, ↓reduceIte, reduceCtorEq, ai, ab, ah, ae, aa, af, h1, q16, s16, h2, q8, s8, w8, f1, SN]
   refine Eq.mpr (mj rfl (l6 hy).1) ?_
   simp only [SB, ak, aj, ↓reduceIte, reduceCtorEq, ai, ab, ah, ae, aa, af, f2, f3]
   have e : bl x = 24 + bl (x / 65536 / 256) := by
    have := mT (x := x) (k := 24) (by rw [show (2 : Nat) ^ 24 = 65536 * 256 by decide, ← Nat.div_div_eq_div_mul]; omega)
    rwa [show (2 : Nat) ^ 24 = 65536 * 256 by decide, ← Nat.div_div_eq_div_mul] at this
   rw [e]
   rfl
  ·have hy : x / 65536 < 256 := by omega
   obtain ⟨f1, f2, f3⟩ := fin (k := 16) hy (by decide)
   have f3' : IntKind.i64.wrap (16 + ((bl (x / 65536) : Nat) : Int)) = ((16 + bl (x / 65536) : Nat) : Int) := f3
   simp only [f120, aJ, S1, S2, S3, S4, S5, gT, S6, S7, S8, setCells, ak, aj, ↓reduceIte, reduceCtorEq, ai, ab, ah, ae, aa, af, h1, q16, s16, h2, f1, SN]
   refine Eq.mpr (mj rfl (l6 hy).1) ?_
   simp only [SB, ak, aj, ↓reduceIte, reduceCtorEq, ai, ab, ah, ae, aa, af, f2, f3']
   have e : bl x = 16 + bl (x / 65536) := mT (x := x) (k := 16) (by rw [show (2 : Nat) ^ 16 = 65536 by decide]; omega)
   rw [e]
   rfl
 ·have s8 : (((x : Nat) : Int).fdiv 256) = ((x / 256 : Nat) : Int) := by rw [Int.fdiv_eq_ediv_of_nonneg _ (by decide)]; rfl
  by_cases h2 : (x : Int) ≥ 256
  ·have hy : x / 256 < 256 := by omega
   obtain ⟨f1, f2, f3⟩ := fin (k := 8) hy (by decide)
   have w8 : IntKind.i64.wrap (0 + 8) = ((8 : Nat) : Int) := by decide
   simp only [f120, aJ, S1, S2, S3, S4, S5, gT, S6, S7, S8, setCells, ak, aj, ↓reduceIte, reduceCtorEq, ai, ab, ah, ae, aa, af, h1, h2, q8, s8, w8, f1, SN]
   refine Eq.mpr (mj rfl (l6 hy).1) ?_
   simp only [SB, ak, aj, ↓reduceIte, reduceCtorEq, ai, ab, ah, ae, aa, af, f2, f3]
   have e : bl x = 8 + bl (x / 256) := mT (x := x) (k := 8) (by rw [show (2 : Nat) ^ 8 = 256 by decide]; omega)
   rw [e]
   rfl
  ·have hy : x < 256 := by omega
   obtain ⟨f1, f2, f3⟩ := fin (k := 0) hy (by decide)
   have f3' : IntKind.i64.wrap (0 + ((bl x : Nat) : Int)) = ((0 + bl x : Nat) : Int) := f3
   simp only [f120, aJ, S1, S2, S3, S4, S5, gT, S6, S7, S8, setCells, ak, aj, ↓reduceIte, reduceCtorEq, ai, ab, ah, ae, aa, af, h1, h2, f1, SN]
   refine Eq.mpr (mj rfl (l6 hy).1) ?_
   simp only [SB, ak, aj, ↓reduceIte, reduceCtorEq, ai, ab, ah, ae, aa, af, f2, f3']
   exact uG
theorem tr {x : Nat} (h : x < LB) : bl x ≤ 32 := by
 by_cases h0 : x = 0
 ·subst h0; decide
 ·obtain ⟨h1, _, _⟩ := jl h0
  rcases ax 32 (bl x) with h2 | h2
  ·have : 2 ^ 32 ≤ 2 ^ (bl x - 1) := Nat.pow_le_pow_right (by decide) (by omega)
   unfold LB at h
   omega
  ·exact h2
theorem p185 {x : Nat} (h : x < LB) : Pu rp 129 [.int .u32 (x : Int)] (.p (.int .i64 ((32 - bl x : Nat) : Int))) := by
 refine aY rp185 ?_
 have hb := tr h
 have w : IntKind.i64.wrap (32 - ((bl x : Nat) : Int)) = ((32 - bl x : Nat) : Int) := by rw [IntWalk.i64_in _ (by omega)]; omega
 simp only [f129, aJ, SB, ak, aj, ↓reduceIte, reduceCtorEq, ai, ab, ah, ae, aa, af, kp1 (p148 h), w]
 rfl
theorem xU {a b : Nat} {i : Nat} (h : b < 2 ^ i) : a * 2 ^ i ||| b = a * 2 ^ i + b := by
 rw [← Nat.shiftLeft_eq, Nat.shiftLeft_add_eq_or_of_lt h]
theorem or64 {x y : Nat} (hy : y < LB) (h : x * LB + y < 18446744073709551616) : IntKind.u64.wrap ((BitVec.ofInt IntKind.u64.bits ((x * LB : Nat) : Int) ||| BitVec.ofInt IntKind.u64.bits ((y : Nat) : Int)).toNat : Int) = ((x * LB + y : Nat) : Int) := by
 have h1 : (BitVec.ofInt IntKind.u64.bits ((x * LB : Nat) : Int) ||| BitVec.ofInt IntKind.u64.bits ((y : Nat) : Int)).toNat = x * LB + y := by
  rw [BitVec.toNat_or, BitVec.ofInt_natCast, BitVec.ofInt_natCast, BitVec.toNat_ofNat, BitVec.toNat_ofNat]
  have hb : IntKind.u64.bits = 64 := rfl
  rw [hb, a6 (by omega), a6 (by omega)]
  have : LB = 2 ^ 32 := by decide
  rw [this] at hy ⊢
  exact xU hy
 rw [h1, w64 h]
theorem xv {x : Nat} (h : x < LB) : IntKind.u64.wrap ((x : Int) * 2 ^ min (gG 32) IntKind.u64.bits) = ((x * LB : Nat) : Int) := by
 have h1 : ((2 : Int) ^ min (gG 32) IntKind.u64.bits) = 4294967296 := by decide
 rw [h1]
 have : (x : Int) * 4294967296 = ((x * LB : Nat) : Int) := by unfold LB; omega
 rw [this, w64 (by unfold LB at *; omega)]
theorem so {x y : Nat} (hx : x < 18446744073709551616) : IntKind.u64.wrap ((x : Int).tdiv (y : Int)) = ((x / y : Nat) : Int) := by
 rw [show (x : Int).tdiv (y : Int) = ((x / y : Nat) : Int) from rfl]
 exact w64 (bQ (Nat.div_le_self _ _) hx)
theorem AT {x y : Nat} : (x : Int).tmod (y : Int) = ((x % y : Nat) : Int) := rfl
theorem p184 {a : List Nat} {q : Nat} (ha : Lim a) (hq : 0 < q) (hq' : q < LB) (hna : a.length ≤ 1099511627775) :
 Pu rp 128 [.sl (lm a), .int .u32 (q : Int)] (.tup [.p (.sl (lm (dgl (val a / q)))), .p (.int .u32 ((val a % q : Nat) : Int))]) := by
 refine aY rp184 ?_
 have m1 : ((4 : Nat) : Int) * (a.length : Int) ≤ 281474976710656 := by omega
 have m2 : (a.length : Int) ≤ 9223372036854775807 := by omega
 have w1 : IntKind.i64.wrap ((a.length : Int) - 1) = (a.length : Int) - 1 := IntWalk.i64_in _ (by omega)
 have hq0 : (q : Int) ≠ 0 := by omega
 simp only [f128, aJ, SB, ak, aj, ↓reduceIte, reduceCtorEq, ai, ab, ah, ae, aa, af, aT, m1, m2, w1, SN, dN, i9]
 refine aM (β := Nat × List Nat × Nat) (fun t => ([(0, .p (.sl (lm a))), (1, .p (.int .u32 (q : Int))), (6, .own 0 0 a.length), (7, .p (.int .u64 (t.2.2 : Int))), (8, i64 ((t.1 : Int) - 1))], [.prow 1 (lm (aw t.1 0 ++ t.2.1))]))
  (fun t => t.1 ≤ a.length ∧ t.2.1.length = a.length - t.1 ∧ Lim t.2.1 ∧ t.2.2 < q ∧ val (a.drop t.1) = val t.2.1 * q + t.2.2) (fun t => t.1) ((a.length, [], 0) : Nat × List Nat × Nat) rfl (by simp) ⟨av _, by simp, (fun _ hx => nomatch hx), hq, by simp [val]⟩ ?_
 rintro ⟨n, o, r⟩ ⟨hn, ho, hlo, hr, hv⟩ ih
 simp only [] at hn ho hlo hr hv ih ⊢
 by_cases h0 : ((n : Int) - 1) ≥ 0
 ·obtain ⟨m, rfl⟩ : ∃ m, n = m + 1 := ⟨n - 1, by omega⟩
  have hm : m < a.length := hn
  have hi : ((m + 1 : Nat) : Int) - 1 = (m : Int) := by omega
  rw [hi] at h0
  have hw : IntKind.i64.wrap ((m : Int) - 1) = (m : Int) - 1 := IntWalk.i64_in _ (by omega)
  have hrl : r < LB := Nat.lt_trans hr hq'
  have hs : r * LB + a[m] < 18446744073709551616 := by
   have := az LB (show r ≤ LB - 1 by omega)
   have h1 := ha.get hm
   rw [show (LB - 1) * LB = 18446744069414584320 by decide] at this
   unfold LB at *
   omega
  have hdl : (r * LB + a[m]) / q < LB := by
   rw [Nat.div_lt_iff_lt_mul hq]
   have h1 := ha.get hm
   have h2 := az LB (show r + 1 ≤ q from hr)
   rw [a8, Nat.one_mul] at h2
   rw [a7 LB q]
   omega
  have hrep : 0 :: (aw m 0 ++ o) = aw (m + 1) 0 ++ o := rfl
  have hget : (lm (0 :: (aw m 0 ++ o)))[m]? = some (.int .u32 0) := by
   have : (0 :: (aw m 0 ++ o))[m]? = some 0 := by rw [hrep, aB (by simp)]; simp
   exact fI this
  have hset : ∀ v, (0 :: (aw m 0 ++ o)).set m v = aw m 0 ++ (v :: o) := by
   intro v
   rw [hrep, List.replicate_succ', aP, List.set_append_right _ _ (by simp)]
   simp
  have hmod := a6 hdl
  simp only [SB, ak, aj, ↓reduceIte, reduceCtorEq, ai, ab, ah, ae, aa, af, aT, hi, h0, xv hrl, cO hm, fM (ha.get hm), or64 (ha.get hm) hs, so hs, AT, fM hq', w32, hmod, fC hq0, fB hq0, SN, hm, hget, eB, hset, hw]
  refine ih (m, (r * LB + a[m]) / q :: o, (r * LB + a[m]) % q) _ ⟨by omega, by simp [ho]; omega, ?_, ep _ hq, ?_⟩ (by simp) ?_
  ·intro y hy
   rcases List.mem_cons.1 hy with rfl | hy
   ·exact hdl
   ·exact hlo y hy
  ·rw [di hm, val, val, hv]
   have h1 := Nat.div_add_mod (r * LB + a[m]) q
   have g1 : LB * (val o * q + r) = LB * (val o * q) + LB * r := ck ..
   have g2 : ((r * LB + a[m]) / q + LB * val o) * q = (r * LB + a[m]) / q * q + LB * val o * q := a8 ..
   have g3 : LB * val o * q = LB * (val o * q) := bW ..
   have g4 : (r * LB + a[m]) / q * q = q * ((r * LB + a[m]) / q) := a7 ..
   have g5 : r * LB = LB * r := a7 ..
   rw [g1, g2, g3, g4]
   show a[m] + (LB * (val o * q) + LB * r) = q * ((r * LB + a[m]) / q) + LB * (val o * q) + (r * LB + a[m]) % q
   omega
  ·rfl
 ·obtain rfl : n = 0 := by omega
  rw [List.drop_zero] at hv
  have hvq : val o = val a / q := by
   rw [hv, a7, Nat.mul_add_div hq, Nat.div_eq_of_lt hr]; omega
  have hvr : r = val a % q := by
   rw [hv, a7, Nat.mul_add_mod, a6 hr]
  have htr := p144 hlo (by omega)
  rw [hvq] at htr
  have h0' : ¬ (((0 : Nat) : Int) - 1 ≥ 0) := by omega
  have hrl : r % LB = r := a6 (Nat.lt_trans hr hq')
  rw [List.replicate_zero, List.nil_append]
  simp only [SB, ak, aj, ↓reduceIte, reduceCtorEq, ai, ab, ah, ae, aa, af, aT, h0']
  rw [g8 htr rfl (show a.length = (lm o).length by rw [aT, ho]; omega)]
  simp only [SB, ak, aj, ↓reduceIte, reduceCtorEq, ai, ab, ah, ae, aa, af, w32, hrl]
  rw [← hvr]
  exact dz aQ aQ
theorem jG {n : Nat} (h : n ≤ 32) : LB = 2 ^ (32 - n) * 2 ^ n := by
 rw [← Nat.pow_add, show 32 - n + n = 32 by omega]
 decide
theorem Ds {x n : Nat} (hx : x < LB) (hn : n < 32) : IntKind.u64.wrap ((x : Int) * 2 ^ min n IntKind.u64.bits) = ((x * 2 ^ n : Nat) : Int) ∧ x * 2 ^ n < 18446744073709551616 := by
 have h1 : min n IntKind.u64.bits = n := by show min n 64 = n; omega
 have h2 : x * 2 ^ n < 18446744073709551616 := by
  have h3 : 2 ^ n ≤ 2 ^ 31 := Nat.pow_le_pow_right (by decide) (by omega)
  have h4 := Nat.mul_le_mul (show x ≤ LB - 1 by omega) h3
  have h5 : (LB - 1) * 2 ^ 31 < 18446744073709551616 := by decide
  omega
 rw [h1, show (x : Int) * 2 ^ n = ((x * 2 ^ n : Nat) : Int) by push_cast; rfl]
 exact ⟨w64 h2, h2⟩
theorem or32 {h k n : Nat} (hh : h < 2 ^ n) (hs : h + k * 2 ^ n < LB) : IntKind.u32.wrap ((BitVec.ofInt IntKind.u32.bits ((h : Nat) : Int) ||| BitVec.ofInt IntKind.u32.bits ((k * 2 ^ n : Nat) : Int)).toNat : Int) = ((h + k * 2 ^ n : Nat) : Int) := by
 have h1 : (BitVec.ofInt IntKind.u32.bits ((h : Nat) : Int) ||| BitVec.ofInt IntKind.u32.bits ((k * 2 ^ n : Nat) : Int)).toNat = h + k * 2 ^ n := by
  rw [BitVec.toNat_or, BitVec.ofInt_natCast, BitVec.ofInt_natCast, BitVec.toNat_ofNat, BitVec.toNat_ofNat]
  have hb : 2 ^ IntKind.u32.bits = LB := by decide
  rw [hb, a6 (by omega), a6 (by omega), Nat.or_comm, xU hh, Nat.add_comm]
 rw [h1, w32, a6 hs]
theorem v8 {x n : Nat} (hx : x < LB) (hn : n < 32) : ∃ k, x * 2 ^ n % LB = k * 2 ^ n ∧ k < 2 ^ (32 - n) ∧ x * 2 ^ n / LB < 2 ^ n := by
 have hs := jG (n := n) (by omega)
 refine ⟨x % 2 ^ (32 - n), ?_, ep _ (dg (by decide)), ?_⟩
 ·rw [hs, Nat.mul_mod_mul_right]
 ·rw [Nat.div_lt_iff_lt_mul cQ, a7]
  exact Nat.mul_lt_mul_of_pos_left hx (dg (by decide))
theorem n144 {σ : ar} {b : Nat} {l : List Nat} (hb : σ[b]? = some (.prow 1 (lm l))) (hl : Lim l) (hn : l.length ≤ 1099511627776) {Q : CV → ar → Prop}
 (hq : ∀ k, k ≤ l.length → l.take k = dgl (val l) → Q (.own b 0 k) σ) : Rn rp 119 [.own b 0 l.length] σ Q := by
 rw [ew rp144]
 simp only [f119, aJ, SB, ak, aj, ↓reduceIte, reduceCtorEq, ai, ab, ah, ae, aa, af]
 refine qe (β := Nat) (γ := Nat) (fun n => ([(0, .own b 0 n)], σ)) (fun n => n ≤ l.length ∧ ∀ i, n ≤ i → ∀ x, l[i]? = some x → x = 0) (fun n => n)
  (fun n => ([(0, .own b 0 n)], σ)) (fun n => n ≤ l.length ∧ iO l = l.take n) l.length rfl rfl ⟨av _, fun i hi x hx => ?_⟩ ?_ ?_
 ·rw [aG hi] at hx; cases hx
 ·rintro ks' n ⟨hnl, hz⟩ ih hx
  by_cases h0 : (n : Int) > 0
  ·obtain ⟨m, rfl⟩ : ∃ m, n = m + 1 := ⟨n - 1, by omega⟩
   have hm : m < l.length := hnl
   have hmm : m < m + 1 := bO _
   have hi : IntKind.i64.wrap (((m + 1 : Nat) : Int) - 1) = (m : Int) := by rw [IntWalk.i64_in _ (by omega)]; omega
   have hg := cO hm
   have hs : dw σ 1 (.own b 0 (m + 1)) 0 m = some (.own b 0 m) := by
    simp [dw, bsz, hb]
   by_cases hx0 : l[m] = 0
   ·have e1 : (((l[m] : Nat) : Int) == 0) = true := by simp [hx0]
    simp only [SB, ak, aj, ↓reduceIte, reduceCtorEq, ai, ab, ah, ae, aa, af, h0, hi, SN, hmm, hb, hg, e1, hs]
    refine ih m _ ⟨by omega, fun i hi x hx => ?_⟩ (by omega) ?_
    ·rcases ax m i with h1 | h1
     ·exact hz i h1 x hx
     ·obtain rfl : i = m := by omega
      rw [bG hm] at hx
      cases hx
      exact hx0
    ·rfl
   ·have e1 : (((l[m] : Nat) : Int) == 0) = false := by simp [hx0]
    simp only [SB, ak, aj, ↓reduceIte, reduceCtorEq, ai, ab, ah, ae, aa, af, h0, hi, SN, hmm, hb, hg, e1]
    refine hx (m + 1) _ ⟨hnl, fu hz (.inr ⟨l[m], by simp, hx0⟩)⟩ ?_
    rfl
  ·simp only [SB, ak, aj, ↓reduceIte, reduceCtorEq, ai, ab, ah, ae, aa, af, h0]
   obtain rfl : n = 0 := by omega
   refine hx 0 _ ⟨aD _, fu hz (.inl rfl)⟩ ?_
   rfl
 ·rintro n ⟨hnl, ht⟩
  simp only [SB, ak, aj, ↓reduceIte, reduceCtorEq, ai, ab, ah, ae, aa, af]
  exact hq n hnl (by rw [← jv hl, ht])
theorem n186 {a : List Nat} {n : Nat} (ha : Lim a) (hna : a.length ≤ 500000000000) (hn : n < 32) (hz : val a ≠ 0) {σ : ar} (hwf : Wf σ) {Q : CV → ar → Prop}
 (hq : ∀ L k, Lim L → k ≤ L.length → L.length ≤ 500000000001 → L.take k = dgl (val a * 2 ^ n) → Wf (σ ++ [.prow 1 (lm L)]) → Q (.own σ.length 0 k) (σ ++ [.prow 1 (lm L)])) : Rn rp 130 [.p (.sl (lm a)), .p (.int .i64 (n : Int))] σ Q := by
 rw [ew rp186]
 obtain ⟨x, hxd⟩ : ∃ x, x = dgl (val a) := ⟨_, rfl⟩
 have k1 : Pu rp 119 [.sl (lm a)] (.p (.sl (lm x))) := by rw [hxd]; exact p144 ha (by omega)
 have hx : Lim x := by rw [hxd]; exact aW _
 have hlx : x.length ≤ 500000000000 := by rw [hxd]; exact a9 (bE (bR ha)) hna
 have hva : val a = val x := by rw [hxd, aZ]
 rw [hva] at hq hz
 clear hxd hva
 have h0 : x.length ≠ 0 := by
  intro h
  rw [List.eq_nil_of_length_eq_zero h] at hz
  exact hz rfl
 have e0 : ((x.length : Int) == 0) = false := by rw [beq_eq_false_iff_ne]; omega
 have e1 : IntKind.i64.wrap ((n : Int).tdiv 32) = 0 := by
  have : (n : Int).tdiv 32 = 0 := by rw [Int.tdiv_eq_ediv_of_nonneg (by omega)]; omega
  rw [this]; decide
 have e2 : (n : Int).tmod 32 = (n : Int) := by rw [Int.tmod_eq_emod_of_nonneg (by omega)]; omega
 have e3 : IntKind.u64.wrap (n : Int) = (n : Int) := w64 (by omega)
 have e4 : IntKind.i64.wrap ((x.length : Int) + 0) = (x.length : Int) := by rw [IntWalk.i64_in _ (by omega)]; omega
 have e5 : IntKind.i64.wrap ((x.length : Int) + 1) = ((x.length + 1 : Nat) : Int) := by rw [IntWalk.i64_in _ (by omega)]; omega
 have m1 : ((4 : Nat) : Int) * ((x.length + 1 : Nat) : Int) ≤ 281474976710656 := by omega
 have m2 : ((x.length + 1 : Nat) : Int) ≤ 9223372036854775807 := by omega
 simp only [f130, aJ, SB, ak, aj, ↓reduceIte, reduceCtorEq, ai, ab, ah, ae, aa, af, kp1 k1, aT, e0, e1, e2, e3, e4, e5, m1, m2, fC (b := 32) (by decide), fB (b := 32) (by decide), SN, dN, i9]
 refine aM (β := Nat × List Nat × Nat) (fun t => ([(0, .p (.sl (lm x))), (5, .p (.int .i64 0)), (6, .p (.int .u64 (n : Int))), (7, .own σ.length 0 (x.length + 1)), (27, i64 x.length), (28, i64 t.1)], σ ++ [.prow 1 (lm (t.2.1 ++ t.2.2 :: aw (x.length - t.1) 0))]))
  (fun t => t.1 ≤ x.length ∧ t.2.1.length = t.1 ∧ Lim t.2.1 ∧ t.2.2 < 2 ^ n ∧ val t.2.1 + LB ^ t.1 * t.2.2 = val (x.take t.1) * 2 ^ n) (fun t => x.length - t.1) ((0, [], 0) : Nat × List Nat × Nat) rfl rfl ⟨aD _, rfl, (fun _ hx => nomatch hx), dg (by decide), by simp [val]⟩ ?_
 rintro ⟨i, o, h⟩ ⟨hi, ho, hlo, hh, hv⟩ ih
 simp only [] at hi ho hlo hh hv ih ⊢
 by_cases hin : (i : Int) < x.length
 ·have hix : i < x.length := by omega
  have hil : i < x.length + 1 := by omega
  have hil2 : i + 1 < x.length + 1 := by omega
  obtain ⟨sv, sb⟩ := Ds (hx.get hix) hn
  obtain ⟨k, hk1, hk2, hk3⟩ := v8 (hx.get hix) hn
  have hPL : 2 ^ n ≤ LB := by rw [jG (n := n) (by omega)]; exact Nat.le_mul_of_pos_left _ (dg (by decide))
  have hsum : h + k * 2 ^ n < LB := by
   have h6 : (k + 1) * 2 ^ n ≤ 2 ^ (32 - n) * 2 ^ n := az _ hk2
   rw [← jG (n := n) (by omega), a8, Nat.one_mul] at h6
   omega
  have hor := or32 hh hsum
  have hdm : x[i] * 2 ^ n / LB % LB = x[i] * 2 ^ n / LB := a6 (by omega)
  have hg1 : (lm (o ++ h :: aw (x.length - i) 0))[i]? = some (.int .u32 (h : Nat)) := by
   have : (o ++ h :: aw (x.length - i) 0)[i]? = some h := by rw [aC (by omega), ho, eI]; rfl
   exact fI this
  have hs1 : ∀ v, (o ++ h :: aw (x.length - i) 0).set i v = o ++ v :: aw (x.length - i) 0 := by
   intro v
   rw [List.set_append_right _ _ (by omega), ho, eI]
   rfl
  have hrp : aw (x.length - i) 0 = 0 :: aw (x.length - (i + 1)) 0 := by
   rw [show x.length - i = (x.length - (i + 1)) + 1 by omega]; rfl
  have hg2 : ∀ v, (lm (o ++ v :: aw (x.length - i) 0))[i + 1]? = some (.int .u32 0) := by
   intro v
   have : (o ++ v :: aw (x.length - i) 0)[i + 1]? = some 0 := by rw [aC (by omega), ho, hrp, show i + 1 - i = 1 by omega]; rfl
   exact fI this
  have hs2 : ∀ v u, (o ++ v :: aw (x.length - i) 0).set (i + 1) u = (o ++ [v]) ++ u :: aw (x.length - (i + 1)) 0 := by
   intro v u
   rw [List.set_append_right _ _ (by omega), ho, hrp, show i + 1 - i = 1 by omega, aP]
   rfl
  have e6 : IntKind.i64.wrap ((i : Int) + 0) = (i : Int) := by rw [IntWalk.i64_in _ (by omega)]; omega
  have e7 := wr1 (i := i) (by omega)
  simp only [SB, ak, aj, ↓reduceIte, reduceCtorEq, ai, ab, ah, ae, aa, af, aT, hin, cO hix, fM (hx.get hix), sv, w32, hk1, hor, sh32, hdm, e6, e7, SN, hil, hil2, hg1, hg2, eB, hs1]
  have hs2' := hs2 (h + k * 2 ^ n) (x[i] * 2 ^ n / LB)
  rw [hs2']
  refine ih (i + 1, o ++ [h + k * 2 ^ n], x[i] * 2 ^ n / LB) _ ⟨by omega, by simp [ho], hlo.append (.one hsum), hk3, ?_⟩ (by simp; omega) ?_
  ·rw [c9, ho, val_one, dR hix, a8, ← hv]
   have h7 := Nat.mod_add_div (x[i] * 2 ^ n) LB
   rw [hk1] at h7
   have h8 : LB ^ i * (k * 2 ^ n) + LB ^ (i + 1) * (x[i] * 2 ^ n / LB) = LB ^ i * x[i] * 2 ^ n := by
    rw [bJ, bW (LB ^ i) LB, ← ck, h7, bW]
   rw [ck]
   show val o + (LB ^ i * h + LB ^ i * (k * 2 ^ n)) + LB ^ (i + 1) * (x[i] * 2 ^ n / LB) = _
   omega
  ·rfl
 ·obtain rfl : i = x.length := by omega
  have hPL : 2 ^ n ≤ LB := by rw [jG (n := n) (by omega)]; exact Nat.le_mul_of_pos_left _ (dg (by decide))
  have hfin : o ++ h :: aw (x.length - x.length) 0 = o ++ [h] := by simp
  have hval : val (o ++ [h]) = val x * 2 ^ n := by rw [c9, val_one, ho, hv, List.take_length]
  have hL : Lim (o ++ [h]) := hlo.append (.one (show h < LB by omega))
  rw [hfin]
  simp only [SB, ak, aj, ↓reduceIte, reduceCtorEq, ai, ab, ah, ae, aa, af, aT, hin]
  have hlen : (o ++ [h]).length = x.length + 1 := by simp [ho]
  refine cC ?_
  rw [← hlen]
  refine n144 (by rw [cP]; rfl) hL (by omega) fun k hk ht => ?_
  simp only [SB, ak, aj, ↓reduceIte, reduceCtorEq, ai, ab, ah, ae, aa, af]
  exact hq _ k hL hk (by omega) (by rw [ht, hval]) (hwf.push rfl)
theorem p186 {a : List Nat} {n : Nat} (ha : Lim a) (hna : a.length ≤ 500000000000) (hn : n < 32) (hz : val a ≠ 0) : Pu rp 130 [.sl (lm a), .int .i64 (n : Int)] (.p (.sl (lm (dgl (val a * 2 ^ n))))) := by
 unfold Pu
 refine n186 ha hna hn hz Wf.nil fun L k hL hk hl ht hw => ?_
 have hf : dD [.prow 1 (lm L)] (.own 0 0 k) = some (.sl (lm (dgl (val a * 2 ^ n)))) := by
  simp [dD, aT, hk, mJ, ht]
 simp only [List.nil_append, List.length_nil, back, dL, Nat.not_lt_zero, if_false, hf, aH]
theorem rX {x0 W n : Nat} (hx : x0 < LB) (hn : n ≤ 32) : ∃ d, (x0 + LB * (W % LB)) / 2 ^ n % LB = d ∧ d < LB ∧ (x0 + LB * W) / 2 ^ n = d + LB * (W / 2 ^ n) := by
 have hs := jG hn
 have hP : 0 < 2 ^ n := dg (by decide)
 generalize 2 ^ (32 - n) = M at hs
 generalize 2 ^ n = P at hs hP ⊢
 have hM : 0 < M := by
  rcases eu M with h | h
  ·rw [h, Nat.zero_mul] at hs; have := cQ; omega
  ·exact h
 have hx0 : x0 / P < M := by rw [Nat.div_lt_iff_lt_mul hP, ← hs]; exact hx
 have hq : ∀ V, (x0 + LB * V) / P = x0 / P + M * V := by
  intro V
  rw [hs, show M * P * V = P * (M * V) by rw [a7 M P, bW], Nat.add_mul_div_left _ _ hP]
 have hWm : W % LB % P = W % P := by rw [hs]; exact Nat.mod_mul_left_mod W M P
 refine ⟨x0 / P + M * (W % P), ?_, ?_, ?_⟩
 ·rw [hq]
  have h1 : M * (W % LB) = M * (W % P) + LB * (W % LB / P) := by
   have := Nat.mod_add_div (W % LB) P
   rw [hWm] at this
   calc M * (W % LB) = M * (W % P + P * (W % LB / P)) := by rw [this]
    _ = M * (W % P) + LB * (W % LB / P) := by rw [ck, hs, bW]
  rw [h1, ← dh, Nat.add_mul_mod_self_left]
  refine a6 ?_
  have h2 : W % P + 1 ≤ P := ep _ hP
  have h3 := bH M h2
  rw [ck, dq, ← hs] at h3
  omega
 ·have h2 : W % P + 1 ≤ P := ep _ hP
  have h3 := bH M h2
  rw [ck, dq, ← hs] at h3
  omega
 ·rw [hq]
  have := Nat.mod_add_div W P
  calc x0 / P + M * W = x0 / P + M * (W % P + P * (W / P)) := by rw [this]
   _ = x0 / P + M * (W % P) + LB * (W / P) := by rw [ck, hs, bW, dh]
theorem BM {v n : Nat} (hn : n < 32) : ((v : Int).fdiv (2 ^ min n IntKind.u64.bits)) = ((v / 2 ^ n : Nat) : Int) := by
 have h1 : min n IntKind.u64.bits = n := by show min n 64 = n; omega
 rw [h1, Int.fdiv_eq_ediv_of_nonneg _ (Int.le_of_lt (Int.pow_pos (by decide))), show (2 : Int) ^ n = ((2 ^ n : Nat) : Int) by push_cast; rfl]
 rfl
theorem C4 {x y : Nat} (hy : y < LB) (hx : x < LB) : IntKind.u64.wrap ((BitVec.ofInt IntKind.u64.bits ((y : Nat) : Int) ||| BitVec.ofInt IntKind.u64.bits ((x * LB : Nat) : Int)).toNat : Int) = ((y + LB * x : Nat) : Int) := by
 have h := or64 (x := x) hy (by
  have := az LB (show x ≤ LB - 1 by omega)
  rw [show (LB - 1) * LB = 18446744069414584320 by decide] at this
  unfold LB at *
  omega)
 rw [BitVec.or_comm, h, a7, Nat.add_comm]
theorem ta {x : List Nat} (hx : Lim x) {i : Nat} : val (x.drop i) % LB = lg x i := by
 rcases ax i x.length with h | h
 ·rw [di h, val, jj h, Nat.add_mul_mod_self_left, a6 (hx.get h)]
 ·rw [eW h, jQ h]; rfl
theorem p188 {a : List Nat} {n : Nat} (ha : Lim a) (hna : a.length ≤ 500000000000) (hn : n < 32) : Pu rp 132 [.sl (lm a), .int .i64 (n : Int)] (.p (.sl (lm (dgl (val a / 2 ^ n))))) := by
 refine aY rp188 ?_
 obtain ⟨x, hxd⟩ : ∃ x, x = dgl (val a) := ⟨_, rfl⟩
 have k1 : Pu rp 119 [.sl (lm a)] (.p (.sl (lm x))) := by rw [hxd]; exact p144 ha (by omega)
 have hx : Lim x := by rw [hxd]; exact aW _
 have hlx : x.length ≤ 500000000000 := by rw [hxd]; exact a9 (bE (bR ha)) hna
 have hva : val a = val x := by rw [hxd, aZ]
 rw [hva]
 clear hxd hva
 have e1 : IntKind.i64.wrap ((n : Int).tdiv 32) = 0 := by
  have : (n : Int).tdiv 32 = 0 := by rw [Int.tdiv_eq_ediv_of_nonneg (by omega)]; omega
  rw [this]; decide
 have e2 : (n : Int).tmod 32 = (n : Int) := by rw [Int.tmod_eq_emod_of_nonneg (by omega)]; omega
 have e3 : IntKind.u64.wrap (n : Int) = (n : Int) := w64 (by omega)
 by_cases h0 : (0 : Int) ≥ x.length
 ·have h00 : x = [] := List.eq_nil_of_length_eq_zero (by omega)
  subst h00
  simp only [f132, aJ, SB, ak, aj, ↓reduceIte, reduceCtorEq, ai, ab, ah, ae, aa, af, kp1 k1, aT, e1, e2, e3, fC (b := 32) (by decide), fB (b := 32) (by decide), h0]
  rw [val, Nat.zero_div, cJ]
  rfl
 have e4 : IntKind.i64.wrap ((x.length : Int) - 0) = (x.length : Int) := by rw [IntWalk.i64_in _ (by omega)]; omega
 have m1 : ((4 : Nat) : Int) * (x.length : Int) ≤ 281474976710656 := by omega
 have m2 : (x.length : Int) ≤ 9223372036854775807 := by omega
 simp only [f132, aJ, SB, ak, aj, ↓reduceIte, reduceCtorEq, ai, ab, ah, ae, aa, af, kp1 k1, aT, h0, e1, e2, e3, e4, m1, m2, fC (b := 32) (by decide), fB (b := 32) (by decide), SN, dN, i9]
 refine aM (β := Nat × List Nat) (fun t => ([(0, .p (.sl (lm x))), (5, .p (.int .i64 0)), (6, .p (.int .u64 (n : Int))), (7, .own 0 0 x.length), (27, i64 x.length), (28, i64 t.1)], [.prow 1 (lm (t.2 ++ aw (x.length - t.1) 0))]))
  (fun t => t.1 ≤ x.length ∧ t.2.length = t.1 ∧ Lim t.2 ∧ val t.2 + LB ^ t.1 * (val (x.drop t.1) / 2 ^ n) = val x / 2 ^ n) (fun t => x.length - t.1) ((0, []) : Nat × List Nat) rfl rfl ⟨aD _, rfl, (fun _ hx => nomatch hx), by simp [val]⟩ ?_
 rintro ⟨i, o⟩ ⟨hi, ho, hlo, hv⟩ ih
 simp only [] at hi ho hlo hv ih ⊢
 by_cases hin : (i : Int) < x.length
 ·have hix : i < x.length := by omega
  obtain ⟨d, hd1, hd2, hd3⟩ := rX (W := val (x.drop (i + 1))) (hx.get hix) (show n ≤ 32 by omega)
  rw [ta hx] at hd1
  have hget : (lm (o ++ aw (x.length - i) 0))[i]? = some (.int .u32 0) := by
   have : (o ++ aw (x.length - i) 0)[i]? = some 0 := by rw [show x.length - i = (x.length - i - 1) + 1 by omega, aC (by omega), ho, eI]; rfl
   exact fI this
  have hset : ∀ v, (o ++ aw (x.length - i) 0).set i v = o ++ v :: aw (x.length - (i + 1)) 0 := by
   intro v
   rw [show x.length - i = (x.length - (i + 1)) + 1 by omega, ← ho, me, aP]
   rfl
  have hfold : ∀ v, o ++ v :: aw (x.length - (i + 1)) 0 = (o ++ [v]) ++ aw (x.length - (i + 1)) 0 := by
   intro v
   rw [aP]
   rfl
  have hnew : val (o ++ [d]) + LB ^ (i + 1) * (val (x.drop (i + 1)) / 2 ^ n) = val x / 2 ^ n := by
   rw [di hix, val, hd3] at hv
   rw [c9, ho, val_one, ← hv, bJ, ck, bW]
   omega
  have e6 : IntKind.i64.wrap ((i : Int) + 0) = (i : Int) := by rw [IntWalk.i64_in _ (by omega)]; omega
  have e7 := wr1 (i := i) (by omega)
  by_cases hi1 : ((i + 1 : Nat) : Int) < x.length
  ·have hix1 : i + 1 < x.length := by omega
   rw [jj hix1] at hd1
   simp only [SB, ak, aj, ↓reduceIte, reduceCtorEq, ai, ab, ah, ae, aa, af, aT, hin, cO hix, cO hix1, fM (hx.get hix), fM (hx.get hix1), e6, e7, hi1, xv (hx.get hix1), C4 (hx.get hix) (hx.get hix1), BM hn, w32, hd1, SN, hix, hget, eB, hset]
   rw [hfold]
   refine ih (i + 1, o ++ [d]) _ ⟨by omega, by simp [ho], hlo.append (.one hd2), hnew⟩ (by simp; omega) ?_
   rfl
  ·rw [jQ (by omega), fj, bw] at hd1
   simp only [SB, ak, aj, ↓reduceIte, reduceCtorEq, ai, ab, ah, ae, aa, af, aT, hin, cO hix, fM (hx.get hix), e6, e7, hi1, BM hn, w32, hd1, SN, hix, hget, eB, hset]
   rw [hfold]
   refine ih (i + 1, o ++ [d]) _ ⟨by omega, by simp [ho], hlo.append (.one hd2), hnew⟩ (by simp; omega) ?_
   rfl
 ·obtain rfl : i = x.length := by omega
  have hval : val o = val x / 2 ^ n := by
   rw [List.drop_length, val, Nat.zero_div, fj, bw] at hv
   exact hv
  have htr := p144 hlo (by omega)
  rw [hval] at htr
  have hfin : o ++ aw (x.length - x.length) 0 = o := by simp
  rw [hfin]
  simp only [SB, ak, aj, ↓reduceIte, reduceCtorEq, ai, ab, ah, ae, aa, af, aT, hin]
  rw [g8 htr rfl (by rw [aT, ho])]
  simp only [SB, ak, aj, ↓reduceIte, reduceCtorEq, ai, ab, ah, ae, aa, af]
  rfl
theorem rp187 : rp 131 = some f131 := rfl
theorem rS {x y w : Nat} (hx : x < LB) (hy : y < LB) (hw : w ≤ 1) : ∃ r w' : Nat, r < LB ∧ w' ≤ 1 ∧ r + y + w = x + w' * LB ∧
 IntKind.u32.wrap (IntKind.u64.wrap (IntKind.u64.wrap ((x : Int) - (y : Int)) - (w : Int))) = (r : Int) ∧ (IntKind.u64.wrap (IntKind.u64.wrap ((x : Int) - (y : Int)) - (w : Int))).fdiv (2 ^ min (gG 63) IntKind.u64.bits) = (w' : Int) := by
 rw [p63, IntKind.wrap_u64, IntKind.wrap_u64, IntKind.wrap_u32, Int.fdiv_eq_ediv_of_nonneg _ (by decide)]
 unfold LB at *
 by_cases h : w + y ≤ x
 ·exact ⟨x - w - y, 0, by omega, by omega, by omega, by omega, by omega⟩
 ·exact ⟨x + 4294967296 - w - y, 1, by omega, by omega, by omega, by omega, by omega⟩
theorem vH {R : List Nat} {A B br c m x r br' i : Nat} (hR : R.length = i) (h : val R + A = B + LB ^ i * (br + c)) (hr : r + (c + m) % LB + br = x + br' * LB) :
 val (R ++ [r]) + (A + LB ^ i * m) = B + LB ^ i * x + LB ^ (i + 1) * (br' + (c + m) / LB) := by
 rw [c9, hR, val_one, bJ]
 have h1 := Nat.mod_add_div (c + m) LB
 have h2 : LB ^ i * (r + (c + m) % LB + br) = LB ^ i * (x + br' * LB) := by rw [hr]
 have h3 : LB ^ i * ((c + m) % LB + LB * ((c + m) / LB)) = LB ^ i * (c + m) := by rw [h1]
 simp only [ck] at *
 rw [a7 br' LB, ← bW] at h2
 rw [← bW] at h3
 omega
theorem nK {P W T : List Nat} {off i : Nat} (hP : P.length = off) (hi : i < W.length) : (lm (P ++ (W ++ T)))[off + i]? = some (.int .u32 (W[i] : Nat)) := by
 refine fI ?_
 rw [aC (by omega), hP, gE, aB hi]
 simp
theorem uP {P W T : List Nat} {off i v : Nat} (hP : P.length = off) (hi : i < W.length) : (P ++ (W ++ T)).set (off + i) v = P ++ (W.set i v ++ T) := by
 rw [List.set_append_right _ _ (by omega), hP, gE, List.set_append_left _ _ hi]
theorem vn {R W : List Nat} {i : Nat} (hR : R.length = i) (hi : i < W.length) : (R ++ W.drop i)[i]? = some W[i] := by
 rw [aC (by omega), hR, eI, bF, bw]
 simp
theorem vk {R W : List Nat} {i v : Nat} (hR : R.length = i) (hi : i < W.length) : (R ++ W.drop i).set i v = (R ++ [v]) ++ W.drop (i + 1) := by
 rw [List.set_append_right _ _ (by omega), hR, eI, di hi, List.set_cons_zero, aP]
 rfl
section
variable {σ : ar} {b off : Nat} {P T v : List Nat}
theorem n187 {W0 : List Nat} (hb : b < σ.length) (hP : P.length = off) (hv : Lim v) (hn : 0 < v.length) (hnl : v.length ≤ 500000000000) (hW : Lim W0) (hWl : W0.length = v.length + 1)
 (htop : v[v.length - 1]'(by omega) ≠ 0) (hlt : val W0 < LB * val v) {Q : CV → ar → Prop}
 (hq : ∀ W : List Nat, W.length = v.length + 1 → Lim W → val W = val W0 % val v → Q (.p (.int .u32 ((val W0 / val v : Nat) : Int))) (σ.set b (.prow 1 (lm (P ++ (W ++ T)))))) :
 Rn rp 131 [.own b off (v.length + 1), .p (.sl (lm v))] (σ.set b (.prow 1 (lm (P ++ (W0 ++ T))))) Q := by
 rw [ew rp187]
 have hV : 0 < val v := by
  rcases eu (val v) with h | h
  ·rw [h, fj] at hlt; omega
  ·exact h
 have hi1 : v.length - 1 < v.length := by omega
 have hw0 : v.length - 1 < W0.length := by omega
 have hw1 : v.length < W0.length := by omega
 have i1 : v.length - 1 < v.length + 1 := by omega
 have i2 : v.length < v.length + 1 := by omega
 have e1 : IntKind.i64.wrap ((v.length : Int) - 1) = ((v.length - 1 : Nat) : Int) := by rw [IntWalk.i64_in _ (by omega)]; omega
 have e2 : IntKind.i64.wrap ((v.length : Int) + 1) = ((v.length + 1 : Nat) : Int) := by rw [IntWalk.i64_in _ (by omega)]; omega
 have htl : W0[v.length] * LB + W0[v.length - 1] < 18446744073709551616 := by
  have h1 := hW.get hw1
  have h2 := hW.get hw0
  have := az LB (show W0[v.length] ≤ LB - 1 by omega)
  rw [show (LB - 1) * LB = 18446744069414584320 by decide] at this
  unfold LB at *
  omega
 have hd0 : ((v[v.length - 1] : Nat) : Int) ≠ 0 := by omega
 obtain ⟨q, hqd, hq1, hq2⟩ : ∃ q : Nat, (if (4294967295 : Int) < (((W0[v.length] * LB + W0[v.length - 1]) / v[v.length - 1] : Nat) : Int) then (4294967295 : Int) else (((W0[v.length] * LB + W0[v.length - 1]) / v[v.length - 1] : Nat) : Int)) = (q : Int) ∧ q < LB ∧ val W0 < (q + 1) * val v := by
  by_cases h : (4294967295 : Int) < (((W0[v.length] * LB + W0[v.length - 1]) / v[v.length - 1] : Nat) : Int)
  ·exact ⟨4294967295, by rw [if_pos h]; rfl, by decide, hlt⟩
  ·refine ⟨(W0[v.length] * LB + W0[v.length - 1]) / v[v.length - 1], by rw [if_neg h], by unfold LB at *; omega, ?_⟩
   have hd := Nat.lt_mul_div_succ (W0[v.length] * LB + W0[v.length - 1]) (show 0 < v[v.length - 1] by omega)
   generalize (W0[v.length] * LB + W0[v.length - 1]) / v[v.length - 1] = g at hd ⊢
   have s1 := gQ (l := W0) (i := v.length - 1) (by omega)
   have s2 := gQ (l := v) (i := v.length - 1) (by omega)
   have t1 := bR (hW.take (n := v.length - 1))
   rw [aS, Nat.min_eq_left (by omega)] at t1
   have s3 : val (W0.drop (v.length - 1)) = W0[v.length - 1] + LB * W0[v.length] := by
    rw [di hw0, val]
    simp only [show v.length - 1 + 1 = v.length by omega]
    rw [di hw1, val, eW (by omega), val, fj, bw]
   have s4 : val (v.drop (v.length - 1)) = v[v.length - 1] := by
    rw [di hi1, val]
    simp only [show v.length - 1 + 1 = v.length by omega]
    rw [List.drop_length, val, fj, bw]
   rw [s3] at s1
   rw [s4] at s2
   have h5 : W0[v.length - 1] + LB * W0[v.length] + 1 ≤ v[v.length - 1] * (g + 1) := by rw [a7 LB]; omega
   have h6 := bH (LB ^ (v.length - 1)) h5
   have h7 : LB ^ (v.length - 1) * v[v.length - 1] * (g + 1) ≤ val v * (g + 1) := az _ (by rw [s2]; exact Nat.le_add_left _ _)
   rw [a7 (g + 1)]
   calc val W0 = val (W0.take (v.length - 1)) + LB ^ (v.length - 1) * (W0[v.length - 1] + LB * W0[v.length]) := s1
    _ < LB ^ (v.length - 1) + LB ^ (v.length - 1) * (W0[v.length - 1] + LB * W0[v.length]) := Nat.add_lt_add_right t1 _
    _ = LB ^ (v.length - 1) * (W0[v.length - 1] + LB * W0[v.length] + 1) := by rw [ck _ _ 1, dq, Nat.add_comm]
    _ ≤ LB ^ (v.length - 1) * (v[v.length - 1] * (g + 1)) := h6
    _ = LB ^ (v.length - 1) * v[v.length - 1] * (g + 1) := (bW ..).symm
    _ ≤ val v * (g + 1) := h7
 simp only [f131, aJ, SB, ak, aj, ↓reduceIte, reduceCtorEq, ai, ab, ah, ae, aa, af, aT, e1, e2, nK hP hw0, nK hP hw1, bt hb, cO hi1, fM (hW.get hw0), fM (hW.get hw1), fM (hv.get hi1), xv (hW.get hw1), or64 (hW.get hw0) htl, so htl, fC hd0, hqd, SN, i1, i2]
 refine aM (β := Nat × List Nat × Nat × Nat) (fun t => ([(0, .own b off (v.length + 1)), (1, .p (.sl (lm v))), (5, i64 v.length), (7, .p (.int .u64 (q : Int))), (8, .p (.int .u64 (t.2.2.1 : Int))), (9, .p (.int .u64 (t.2.2.2 : Int))), (40, .p (.int .i64 ((v.length + 1 : Nat) : Int))), (41, i64 t.1)], σ.set b (.prow 1 (lm (P ++ (t.2.1 ++ (W0.drop t.1 ++ T)))))))
  (fun t => t.1 ≤ v.length + 1 ∧ t.2.1.length = t.1 ∧ Lim t.2.1 ∧ t.2.2.1 < LB ∧ t.2.2.2 ≤ 1 ∧ (t.1 = v.length + 1 → t.2.2.1 = 0) ∧ val t.2.1 + q * val (v.take t.1) = val (W0.take t.1) + LB ^ t.1 * (t.2.2.2 + t.2.2.1)) (fun t => v.length + 1 - t.1) ((0, [], 0, 0) : Nat × List Nat × Nat × Nat) rfl rfl
  ⟨aD _, rfl, (fun _ hx => nomatch hx), cQ, aD _, (fun h => rfl), by simp [val]⟩ ?_
 rintro ⟨i, R, c, br⟩ ⟨hi, hR, hlR, hc, hbr, hc0, hval⟩ ih
 simp only [] at hi hR hlR hc hbr hc0 hval ih ⊢
 by_cases hin : (i : Int) < ((v.length + 1 : Nat) : Int)
 ·have hiw : i < W0.length := by omega
  have hil : i < v.length + 1 := by omega
  have hRd : i < (R ++ W0.drop i).length := by rw [bX, List.length_drop]; omega
  have hg := nK (T := T) hP hRd
  have hgv : (R ++ W0.drop i)[i] = W0[i] := by
   have := vn hR hiw
   rw [bG hRd] at this
   exact Option.some.inj this
  rw [hgv] at hg
  have hst : ∀ u, (P ++ ((R ++ W0.drop i) ++ T)).set (off + i) u = P ++ (((R ++ [u]) ++ W0.drop (i + 1)) ++ T) := by
   intro u
   rw [uP hP hRd, vk hR hiw]
  simp only [aP, fk, List.nil_append] at hg hst
  have hfold : ∀ u, R ++ u :: (W0.drop (i + 1) ++ T) = (R ++ [u]) ++ (W0.drop (i + 1) ++ T) := by intro u; simp
  by_cases hiv : (i : Int) < v.length
  ·have hiv' : i < v.length := by omega
   obtain ⟨b1, b2, b3, b4⟩ := mG hc hq1 (hv.get hiv') cQ
   simp only [bw] at b1 b3 b4
   obtain ⟨r, br', hr, hbr', hrel, e32, e63⟩ := rS (hW.get hiw) (ep (c + q * v[i]) cQ) hbr
   have hnx := vH hR hval hrel
   simp only [SB, ak, aj, ↓reduceIte, reduceCtorEq, ai, ab, ah, ae, aa, af, aT, hin, hiv, vT b2, je b3, cO hiv', fM (hv.get hiv'), fM (hW.get hiw), sh32, w32, fM (ep (c + q * v[i]) cQ), e32, e63, bt hb, hg, hst, hil, eB, SN, List.set_set, IntWalk.i64_in ((i : Int) + 1) (by omega)]
   rw [hfold]
   refine ih (i + 1, R ++ [r], (c + q * v[i]) / LB, br') _ ⟨by omega, by simp [hR], hlR.append (.one hr), b4, hbr', (fun h => absurd h (by simp; omega)), ?_⟩ (by simp; omega) ?_
   ·show val (R ++ [r]) + q * val (v.take (i + 1)) = val (W0.take (i + 1)) + LB ^ (i + 1) * (br' + (c + q * v[i]) / LB)
    rw [dR hiv', dR hiw, ck, ← hnx, Nat.mul_left_comm q]
   ·rfl
  ·obtain rfl : i = v.length := by omega
   obtain ⟨r, br', hr, hbr', hrel, e32, e63⟩ := rS (hW.get hiw) hc hbr
   have hcm : (c + 0) % LB = c := by rw [bw]; exact a6 hc
   have hcd : (c + 0) / LB = 0 := by rw [bw]; exact Nat.div_eq_of_lt hc
   have hcd' : c / LB = 0 := Nat.div_eq_of_lt hc
   have hcm' : c % LB = c := a6 hc
   have hnx := vH (m := 0) hR hval (by rw [hcm]; exact hrel)
   rw [hcd, fj, bw] at hnx
   simp only [SB, ak, aj, ↓reduceIte, reduceCtorEq, ai, ab, ah, ae, aa, af, aT, hin, hiv, hW.get hiw, fM (hW.get hiw), sh32, w32, hcm', hcd', fM hc, e32, e63, bt hb, hg, hst, hil, eB, SN, List.set_set, IntWalk.i64_in ((v.length : Int) + 1) (by omega)]
   rw [hfold]
   refine ih (v.length + 1, R ++ [r], 0, br') _ ⟨by omega, by simp [hR], hlR.append (.one hr), cQ, hbr', (fun _ => rfl), ?_⟩ (by simp) ?_
   ·show val (R ++ [r]) + q * val (v.take (v.length + 1)) = val (W0.take (v.length + 1)) + LB ^ (v.length + 1) * (br' + 0)
    rw [b6 (Nat.le_succ _), dR hiw, bw, ← hnx, List.take_length]
   ·rfl
 ·obtain rfl : i = v.length + 1 := by omega
  obtain rfl := hc0 rfl
  rw [b6 (Nat.le_succ _), b6 (by omega), bw] at hval
  have hdn : W0.drop (v.length + 1) = [] := eW (by omega)
  rw [hdn]
  simp only [SB, ak, aj, ↓reduceIte, reduceCtorEq, ai, ab, ah, ae, aa, af, hin]
  have hRl : R.length = v.length + 1 := hR
  refine aM (β := List Nat × Nat × Nat) (fun t => ([(0, .own b off (v.length + 1)), (1, .p (.sl (lm v))), (5, i64 v.length), (7, .p (.int .u64 (t.2.1 : Int))), (9, .p (.int .u64 (t.2.2 : Int)))], σ.set b (.prow 1 (lm (P ++ (t.1 ++ T))))))
   (fun t => t.1.length = v.length + 1 ∧ Lim t.1 ∧ t.2.1 < LB ∧ t.2.2 ≤ 1 ∧ val t.1 + t.2.1 * val v = val W0 + LB ^ (v.length + 1) * t.2.2 ∧ val W0 < (t.2.1 + 1) * val v) (fun t => t.2.1) ((R, q, br) : List Nat × Nat × Nat) rfl rfl ⟨hRl, hlR, hq1, hbr, hval, hq2⟩ ?_
  rintro ⟨W, g, br⟩ ⟨hWl', hWL, hg, hbr, hv1, hv2⟩ ih2
  simp only [] at hWl' hWL hg hbr hv1 hv2 ih2 ⊢
  by_cases hb0 : (br : Int) > 0
  ·obtain rfl : br = 1 := by omega
   have hWlt := bR hWL
   rw [hWl'] at hWlt
   rw [dq] at hv1
   obtain ⟨g', rfl⟩ : ∃ g', g = g' + 1 := by
    rcases eu g with h | h
    ·rw [h, Nat.zero_mul] at hv1; omega
    ·exact ⟨g - 1, by omega⟩
   have hgw : IntKind.u64.wrap (((g' + 1 : Nat) : Int) - 1) = (g' : Int) := by
    rw [show ((g' + 1 : Nat) : Int) - 1 = (g' : Int) by omega]
    exact w64 (by unfold LB at hg; omega)
   rw [a8, Nat.one_mul] at hv1
   simp only [SB, ak, aj, ↓reduceIte, reduceCtorEq, ai, ab, ah, ae, aa, af, hb0, hgw, e2]
   refine aM (β := Nat × List Nat × Nat) (fun t => ([(0, .own b off (v.length + 1)), (1, .p (.sl (lm v))), (5, i64 v.length), (7, .p (.int .u64 (g' : Int))), (9, .p (.int .u64 ((1 : Nat) : Int))), (13, .p (.int .u64 (t.2.2 : Int))), (83, .p (.int .i64 ((v.length + 1 : Nat) : Int))), (84, i64 t.1)], σ.set b (.prow 1 (lm (P ++ (t.2.1 ++ (W.drop t.1 ++ T)))))))
    (fun t => t.1 ≤ v.length + 1 ∧ t.2.1.length = t.1 ∧ Lim t.2.1 ∧ t.2.2 ≤ 1 ∧ val t.2.1 + LB ^ t.1 * t.2.2 = val (W.take t.1) + val (v.take t.1)) (fun t => v.length + 1 - t.1) ((0, [], 0) : Nat × List Nat × Nat) rfl rfl
    ⟨aD _, rfl, (fun _ hx => nomatch hx), aD _, by simp [val]⟩ ?_
   rintro ⟨i, R, c⟩ ⟨hi, hR, hlR, hc, hval⟩ ih3
   simp only [] at hi hR hlR hc hval ih3 ⊢
   by_cases hin3 : (i : Int) < ((v.length + 1 : Nat) : Int)
   ·have hiw : i < W.length := by omega
    have hil : i < v.length + 1 := by omega
    have hRd : i < (R ++ W.drop i).length := by rw [bX, List.length_drop]; omega
    have hgt := nK (T := T) hP hRd
    have hgv : (R ++ W.drop i)[i] = W[i] := by
     have := vn hR hiw
     rw [bG hRd] at this
     exact Option.some.inj this
    rw [hgv] at hgt
    have hst : ∀ u, (P ++ ((R ++ W.drop i) ++ T)).set (off + i) u = P ++ (((R ++ [u]) ++ W.drop (i + 1)) ++ T) := by
     intro u
     rw [uP hP hRd, vk hR hiw]
    simp only [aP, fk, List.nil_append] at hgt hst
    have hfold : ∀ u, R ++ u :: (W.drop (i + 1) ++ T) = (R ++ [u]) ++ (W.drop (i + 1) ++ T) := by intro u; simp
    obtain ⟨k1, k2, k3⟩ := rh hc (hWL.get hiw) (jA hv (i := i))
    have hstp := nZ (x := W[i]) (y := lg v i) hR hval
    have hta := dy (l := W) (i := i)
    have htb := dy (l := v) (i := i)
    rw [jj hiw] at hta
    rw [← hta, ← htb] at hstp
    by_cases hiv : (i : Int) < v.length
    ·have hiv' : i < v.length := by omega
     rw [jj hiv'] at hstp k1 k2
     simp only [SB, ak, aj, ↓reduceIte, reduceCtorEq, ai, ab, ah, ae, aa, af, aT, hin3, hiv, cO hiv', fM (hv.get hiv'), fM (hWL.get hiw), je k3, je k2, sh32, w32, bt hb, hgt, hst, hil, eB, SN, List.set_set, IntWalk.i64_in ((i : Int) + 1) (by omega)]
     rw [hfold]
     refine ih3 (i + 1, R ++ [(c + W[i] + v[i]) % LB], (c + W[i] + v[i]) / LB) _ ⟨by omega, by simp [hR], hlR.append (.one (ep _ cQ)), k1, hstp⟩ (by simp; omega) ?_
     rfl
    ·rw [jQ (by omega), bw] at hstp k1 k2
     simp only [SB, ak, aj, ↓reduceIte, reduceCtorEq, ai, ab, ah, ae, aa, af, aT, hin3, hiv, fM (hWL.get hiw), je k3, sh32, w32, bt hb, hgt, hst, hil, eB, SN, List.set_set, IntWalk.i64_in ((i : Int) + 1) (by omega)]
     rw [hfold]
     refine ih3 (i + 1, R ++ [(c + W[i]) % LB], (c + W[i]) / LB) _ ⟨by omega, by simp [hR], hlR.append (.one (ep _ cQ)), k1, hstp⟩ (by simp; omega) ?_
     rfl
   ·obtain rfl : i = v.length + 1 := by omega
    rw [b6 (Nat.le_of_eq hWl'), b6 (Nat.le_succ _)] at hval
    have hdn : W.drop (v.length + 1) = [] := eW (by omega)
    have hcw : IntKind.u64.wrap (((1 : Nat) : Int) - (c : Int)) = ((1 - c : Nat) : Int) := by
     rw [show ((1 : Nat) : Int) - (c : Int) = ((1 - c : Nat) : Int) by omega]
     exact w64 (by omega)
    rw [hdn]
    simp only [SB, ak, aj, ↓reduceIte, reduceCtorEq, ai, ab, ah, ae, aa, af, hin3, hcw]
    refine ih2 (R, g', 1 - c) _ ⟨hR, hlR, (show g' < LB by omega), (show 1 - c ≤ 1 by omega), ?_, ?_⟩ (bO _) ?_
    ·show val R + g' * val v = val W0 + LB ^ (v.length + 1) * (1 - c)
     rcases ax c 1 with h | h
     ·obtain rfl : c = 0 := by omega
      rw [fj] at hval
      rw [Nat.sub_zero, dq]
      omega
     ·obtain rfl : c = 1 := by omega
      rw [dq] at hval
      rw [eI, fj]
      omega
    ·show val W0 < (g' + 1) * val v
     rw [a8, Nat.one_mul]
     omega
    ·rfl
  ·obtain rfl : br = 0 := by omega
   rw [fj, bw] at hv1
   rw [a8, Nat.one_mul] at hv2
   have hlt' : val W < val v := by omega
   have hgq : val W0 / val v = g := by rw [← hv1, Nat.add_mul_div_right _ _ hV, Nat.div_eq_of_lt hlt', d8]
   have hgr : val W0 % val v = val W := by rw [← hv1, Nat.add_mul_mod_self_right, a6 hlt']
   have hgl : g % LB = g := a6 hg
   have hfin := hq W hWl' hWL hgr.symm
   rw [hgq] at hfin
   simp only [SB, ak, aj, ↓reduceIte, reduceCtorEq, ai, ab, ah, ae, aa, af, hb0, w32, hgl]
   exact hfin
theorem k187 {W0 : List Nat} {rs : List dH} {base : Nat} {d : Option Nat} {l : List LOp} {dr : Dr} {ks : List KI} {e : Env} {Q : CV → ar → Prop} (hb : b < σ.length) (hwf : Wf σ) (hP : P.length = off) (hv : Lim v) (hn : 0 < v.length) (hnl : v.length ≤ 500000000000) (hW : Lim W0) (hWl : W0.length = v.length + 1)
 (htop : v[v.length - 1]'(by omega) ≠ 0) (hlt : val W0 < LB * val v)
 (h : ∀ W : List Nat, W.length = v.length + 1 → Lim W → val W = val W0 % val v → ExR rp rs base l dr ks (sto d (.p (.int .u32 ((val W0 / val v : Nat) : Int))) e) (σ.set b (.prow 1 (lm (P ++ (W ++ T))))) Q) :
 KC rp rs base .full 131 [.own b off (v.length + 1), .p (.sl (lm v))] d l dr ks e (σ.set b (.prow 1 (lm (P ++ (W0 ++ T))))) Q := by
 unfold KC
 refine re (n187 hb hP hv hn hnl hW hWl htop hlt fun W h1 h2 h3 => ?_)
 have hl : (σ.set b (.prow 1 (lm (P ++ (W0 ++ T))))).length = (σ.set b (.prow 1 (lm (P ++ (W ++ T))))).length := by rw [ay, ay]
 rw [hl, List.take_length]
 exact ⟨(hwf.set rfl).all, _, uG, h W h1 h2 h3⟩
end
theorem rp159 : rp 98 = some f98 := rfl
theorem fv {m n : Nat} (h : m ≤ n) : (dgl m).length ≤ (dgl n).length := by
 refine bE (bQ h ?_)
 have := bR (aW n)
 rwa [aZ] at this
theorem mE {v t n : Nat} (h : v ≠ 0) (ht : (dgl v)[(dgl v).length - 1]? = some t) (hn : n = 32 - bl t) : (dgl (v * 2 ^ n)).length = (dgl v).length ∧ n < 32 ∧ t ≠ 0 := by
 have hpos := List.length_pos_iff.2 (jt h)
 have hlt : (dgl v).length - 1 < (dgl v).length := by omega
 rw [bG hlt, Option.some.injEq] at ht
 have hs := dR hlt
 rw [ht, show (dgl v).length - 1 + 1 = (dgl v).length by omega, List.take_length, aZ] at hs
 have hlow := bR ((aW v).take (n := (dgl v).length - 1))
 rw [aS, Nat.min_eq_left (by omega)] at hlow
 have ht0 : t ≠ 0 := by
  intro h0
  rw [h0, fj, bw] at hs
  have := bE (show v < LB ^ ((dgl v).length - 1) by omega)
  omega
 have htB : t < LB := by
  have := (aW v).get hlt
  omega
 obtain ⟨b1, b2, b3⟩ := jl ht0
 have b4 := tr htB
 refine ⟨Nat.le_antisymm (bE ?_) (fv (Nat.le_mul_of_pos_right _ (dg (by decide)))), by omega, ht0⟩
 have e1 : LB ^ (dgl v).length = LB ^ ((dgl v).length - 1) * 2 ^ bl t * 2 ^ n := by
  rw [bW, ← Nat.pow_add, hn, show bl t + (32 - bl t) = 32 by omega]
  rw [show (2 : Nat) ^ 32 = LB from rfl, ← bJ]
  congr 1
  omega
 rw [e1]
 refine Nat.mul_lt_mul_of_pos_right ?_ (dg (by decide))
 calc v = _ := hs
  _ < LB ^ ((dgl v).length - 1) * (t + 1) := by rw [ck, dq]; omega
  _ ≤ _ := bH _ b2
theorem fF {x y : Nat} : eV x y < 0 ↔ x < y := by
 unfold eV
 split
 ·simp; assumption
 ·split
  ·simp; omega
  ·simp; omega
theorem C0 {a b : List Nat} (ha : Lim a) (hb : Lim b) (hna : a.length ≤ 400000000000) (hnb : b.length ≤ 400000000000) (h : val a < val b) :
 Pu rp 98 [.sl (lm a), .sl (lm b)] (.tup [.p (.sl (lm (dgl (val a / val b)))), .p (.sl (lm (dgl (val a % val b)))), .p (.int .i64 0)]) := by
 refine aY rp159 ?_
 have hda : (dgl (val a)).length ≤ a.length := bE (bR ha)
 have hdb : (dgl (val b)).length ≤ b.length := bE (bR hb)
 have k1 := p144 ha (by omega)
 have k2 := p144 hb (by omega)
 have hc := p177 (aW (val a)) (aW (val b)) (by omega) (by omega)
 have kn := p158 (aW (val a)) (by omega)
 rw [aZ] at kn
 rw [aZ, aZ] at hc
 have hci : eV (val a) (val b) < 0 := fF.2 h
 have hpos := List.length_pos_iff.2 (jt (show val b ≠ 0 by omega))
 have e0 : (((dgl (val b)).length : Int) == 0) = false := by rw [beq_eq_false_iff_ne]; omega
 rw [Nat.div_eq_of_lt h, a6 h, cJ]
 simp only [f98, aJ, SB, ak, aj, ↓reduceIte, reduceCtorEq, ai, ab, ah, ae, aa, af, kp1 k1, kp1 k2, aT, e0, kp2 hc, hci, kp1 kn]
 exact dT pj aQ aQ
theorem CZ {a b : List Nat} (ha : Lim a) (hb : Lim b) (hna : a.length ≤ 400000000000) (hnb : b.length ≤ 400000000000) (h : val b ≤ val a) (h1 : (dgl (val b)).length = 1) :
 Pu rp 98 [.sl (lm a), .sl (lm b)] (.tup [.p (.sl (lm (dgl (val a / val b)))), .p (.sl (lm (dgl (val a % val b)))), .p (.int .i64 0)]) := by
 refine aY rp159 ?_
 have hda : (dgl (val a)).length ≤ a.length := bE (bR ha)
 have hdb : (dgl (val b)).length ≤ b.length := bE (bR hb)
 have k1 := p144 ha (by omega)
 have k2 := p144 hb (by omega)
 have hc := p177 (aW (val a)) (aW (val b)) (by omega) (by omega)
 rw [aZ, aZ] at hc
 have hci : ¬ eV (val a) (val b) < 0 := by rw [fF]; omega
 obtain ⟨q, hq⟩ := List.length_eq_one_iff.1 h1
 have hqv : val b = q := by have := aZ (val b); rw [hq, val_one] at this; exact this.symm
 have hqB : q < LB := aW (val b) q (by rw [hq]; simp)
 have hq0 : q ≠ 0 := by
  intro h0
  rw [hqv, h0, cJ] at hq
  cases hq
 have ks := p184 (aW (val a)) (dU hq0) hqB (by omega)
 rw [aZ] at ks
 have hr : val a % q < LB := Nat.lt_trans (ep _ (dU hq0)) hqB
 have kr := p144 (Lim.one hr) (by simp)
 rw [val_one] at kr
 have e0 : (((1 : Nat) : Int) == 0) = false := rfl
 have e1 : (((1 : Nat) : Int) == 1) = true := rfl
 have i0 : gG 0 = 0 := rfl
 rw [hq] at k2 hc
 rw [hqv] at hc hci ⊢
 simp only [qR, yh] at k2 hc
 simp only [f98, aJ, SB, ak, aj, ↓reduceIte, reduceCtorEq, ai, ab, ah, ae, aa, af, kp1 k1, kp1 k2, aT, e0, e1, kp2 hc, hci, qR, yh, i0, kp2 ks]
 rw [g8 (n := 1) kr rfl rfl]
 simp only [SB, ak, aj, ↓reduceIte, reduceCtorEq, ai, ab, ah, ae, aa, af]
 exact dT aQ aQ aQ
theorem B8 {rs : List dH} {base : Nat} {d : Option Nat} {l : List LOp} {dr : Dr} {ks : List KI} {e : Env} {σ : ar} {Q : CV → ar → Prop} {f b n : Nat} {es : List PV} {r : CV} (h : Pu rp f [.sl es] r) (hf : dD σ (.own b 0 n) = some (.sl es)) :
 KC rp rs base .fz f [.own b 0 n] d l dr ks e σ Q = ExR rp rs base l dr ks (sto d r e) (σ.set b .dead) Q :=
 kx h (by simp only [eG, frz, hf, aH])
structure uN (A V m k : Nat) (i : Nat) (F q : List Nat) : Prop where
 hi : i ≤ m - k + 1
 ql : q.length = m - k + 1 - i
 qL : Lim q
 fl : m + 1 ≤ F.length
 fL : Lim F
 eq : val (F.take (m + 1)) + LB ^ i * (val q * V) = A
 lt : val (F.take (m + 1)) < V * LB ^ i
theorem uN.split {A V m k j : Nat} {F q : List Nat} (h : uN A V m k (j + 1) F q) (hk : k ≤ m) (hV : V < LB ^ k) :
 val (F.take (m + 1)) = val (F.take j) + LB ^ j * val ((F.drop j).take (k + 1)) ∧ val ((F.drop j).take (k + 1)) < LB * V ∧ val ((F.drop (j + (k + 1))).take (m + 1 - (j + (k + 1)))) = 0 := by
 have hj : j + (k + 1) ≤ m + 1 := by have := h.hi; omega
 have e1 : F.take (m + 1) = F.take j ++ ((F.drop j).take (k + 1) ++ (F.drop (j + (k + 1))).take (m + 1 - (j + (k + 1)))) := by
  rw [← List.drop_drop, ← List.take_add, ← List.take_add]
  congr 1
  omega
 have hfl := h.fl
 have l1 : (F.take j).length = j := by rw [aS]; omega
 have l2 : ((F.drop j).take (k + 1)).length = k + 1 := by rw [aS, List.length_drop]; omega
 have hv : val (F.take (m + 1)) = val (F.take j) + LB ^ j * (val ((F.drop j).take (k + 1)) + LB ^ (k + 1) * val ((F.drop (j + (k + 1))).take (m + 1 - (j + (k + 1))))) := by
  rw [e1, c9, c9, l1, l2]
 have hlt := h.lt
 have hz : val ((F.drop (j + (k + 1))).take (m + 1 - (j + (k + 1)))) = 0 := by
  rcases eu (val ((F.drop (j + (k + 1))).take (m + 1 - (j + (k + 1))))) with h0 | h0
  ·exact h0
  ·exfalso
   have h1 : LB ^ (k + 1) ≤ LB ^ (k + 1) * val ((F.drop (j + (k + 1))).take (m + 1 - (j + (k + 1)))) := Nat.le_mul_of_pos_right _ h0
   have h2 : LB ^ j * LB ^ (k + 1) ≤ val (F.take (m + 1)) := by
    rw [hv]
    exact a9 (bH _ (a9 h1 (Nat.le_add_left _ _))) (Nat.le_add_left _ _)
   have h3 : V * LB ^ (j + 1) ≤ LB ^ k * LB ^ (j + 1) := az _ (Nat.le_of_lt hV)
   rw [← Nat.pow_add] at h2 h3
   rw [show k + (j + 1) = j + (k + 1) by omega] at h3
   exact absurd (bP (bQ h2 hlt) h3) (Nat.lt_irrefl _)
 rw [hz, fj, bw] at hv
 refine ⟨hv, ?_, hz⟩
 have h4 : LB ^ j * val ((F.drop j).take (k + 1)) < LB ^ j * (LB * V) := by
  have : V * LB ^ (j + 1) = LB ^ j * (LB * V) := by rw [bJ, a7, bW]
  rw [← this]
  exact bQ (by rw [hv]; exact Nat.le_add_left _ _) hlt
 exact Nat.lt_of_mul_lt_mul_left h4
theorem uN.step {A V m k j : Nat} {F q W : List Nat} (h : uN A V m k (j + 1) F q) (hk : k ≤ m) (hV : V < LB ^ k) (hV0 : 0 < V) (hVB : val ((F.drop j).take (k + 1)) / V < LB)
 (hWl : W.length = k + 1) (hWL : Lim W) (hWv : val W = val ((F.drop j).take (k + 1)) % V) :
 uN A V m k j (F.take j ++ (W ++ F.drop (j + (k + 1)))) (val ((F.drop j).take (k + 1)) / V :: q) := by
 obtain ⟨hv, hlt, hz⟩ := h.split hk hV
 have hi := h.hi
 have hfl := h.fl
 have l1 : (F.take j).length = j := by rw [aS]; omega
 have hval : val ((F.take j ++ (W ++ F.drop (j + (k + 1)))).take (m + 1)) = val (F.take j) + LB ^ j * val W := by
  rw [List.take_append, List.take_append, l1, hWl, b6 (l := F.take j) (by omega), b6 (l := W) (by omega), c9, c9, l1, hWl, show m + 1 - j - (k + 1) = m + 1 - (j + (k + 1)) by omega, hz, fj, bw]
 have hdm := Nat.mod_add_div (val ((F.drop j).take (k + 1))) V
 have hP := bR (h.fL.take (n := j))
 rw [l1] at hP
 refine ⟨by omega, by rw [dZ, h.ql]; omega, ?_, by rw [bX, bX, l1, hWl, List.length_drop]; omega, (h.fL.take).append (hWL.append h.fL.drop), ?_, ?_⟩
 ·intro y hy
  rcases List.mem_cons.1 hy with rfl | hy
  ·exact hVB
  ·exact h.qL y hy
 ·rw [hval, hWv, val, ← h.eq, hv]
  generalize val ((F.drop j).take (k + 1)) = w at *
  have g1 : LB ^ j * w = LB ^ j * (w % V) + LB ^ j * (V * (w / V)) := by rw [← ck, hdm]
  have g2 : (w / V + LB * val q) * V = V * (w / V) + LB * (val q * V) := by rw [a8, a7 (w / V), bW]
  have g3 : LB ^ (j + 1) * (val q * V) = LB ^ j * (LB * (val q * V)) := by rw [bJ, bW]
  rw [g1, g2, g3, ck]
  omega
 ·rw [hval, hWv, a7 V]
  have h1 := ep (val ((F.drop j).take (k + 1))) hV0
  have h2 : LB ^ j * (val ((F.drop j).take (k + 1)) % V + 1) ≤ LB ^ j * V := bH _ h1
  rw [ck, dq] at h2
  omega
theorem C1 {a b : List Nat} (ha : Lim a) (hb : Lim b) (hna : a.length ≤ 400000000000) (hnb : b.length ≤ 400000000000) (hge : val b ≤ val a) (h1 : 2 ≤ (dgl (val b)).length) :
 Pu rp 98 [.sl (lm a), .sl (lm b)] (.tup [.p (.sl (lm (dgl (val a / val b)))), .p (.sl (lm (dgl (val a % val b)))), .p (.int .i64 0)]) := by
 refine aY rp159 ?_
 have hda : (dgl (val a)).length ≤ a.length := bE (bR ha)
 have hdb : (dgl (val b)).length ≤ b.length := bE (bR hb)
 have hne : val b ≠ 0 := by intro h; rw [h, cJ] at h1; simp at h1
 have hnea : val a ≠ 0 := by omega
 have k1 := p144 ha (by omega)
 have k2 := p144 hb (by omega)
 have hc := p177 (aW (val a)) (aW (val b)) (by omega) (by omega)
 rw [aZ, aZ] at hc
 have hkm : (dgl (val b)).length ≤ (dgl (val a)).length := fv hge
 obtain ⟨t, ht⟩ : ∃ t, (dgl (val b))[(dgl (val b)).length - 1]? = some t := ⟨_, bG (by omega)⟩
 obtain ⟨n, hn⟩ : ∃ n, n = 32 - bl t := ⟨_, rfl⟩
 obtain ⟨hvl, hn32, ht0⟩ := mE hne ht hn
 have htB : t < LB := by
  have := (aW (val b)).get (show (dgl (val b)).length - 1 < (dgl (val b)).length by omega)
  rw [bG (by omega), Option.some.injEq] at ht
  omega
 have h185 := p185 htB
 rw [← hn] at h185
 have s1 := p186 (n := n) (aW (val b)) (by omega) hn32 (by rw [aZ]; exact hne)
 rw [aZ] at s1
 have s2 := fun {Q} => n186 (n := n) (aW (val a)) (by omega) hn32 (by rw [aZ]; exact hnea) Wf.nil (Q := Q)
 simp only [aZ] at s2
 have hlx : (dgl (val a)).length ≤ 400000000000 := by omega
 have hly : (dgl (val b)).length ≤ 400000000000 := by omega
 generalize hx : dgl (val a) = x at *
 generalize hy : dgl (val b) = y at *
 have e0 : ((y.length : Int) == 0) = false := by rw [beq_eq_false_iff_ne]; omega
 have e1 : ((y.length : Int) == 1) = false := by rw [beq_eq_false_iff_ne]; omega
 have hci : ¬ eV (val a) (val b) < 0 := by rw [fF]; omega
 have w1 : IntKind.i64.wrap ((y.length : Int) - 1) = ((y.length - 1 : Nat) : Int) := by rw [IntWalk.i64_in _ (by omega)]; omega
 have gt0 := fI ht
 simp only [f98, aJ, S1, S2, S3, S4, S5, iK, gT, ev, cW, kj, lH, vl, gt, st, sto, fgt, i64, gR, fill, iS, fe, bnd, unV, bsz, ig, toP, eP, iP, List.elem, aw, frz, dD, eU, eG, kill, gi, eE, eC, setCells, ak, aj, ↓reduceIte, reduceCtorEq, ai, ab, ah, ae, aa, af, kp1 k1, kp1 k2, aT, e0, e1, kp2 hc, hci, w1, gt0, kp1 h185, kp2 s1, SN]
 refine cC (s2 fun L kk hL hkk hLl htk hwf => ?_)
 generalize hD : dgl (val a * 2 ^ n) = D at htk
 have hDl : D.length = kk := by rw [← htk, aS]; omega
 have hlen : (x.length ≤ D.length ∧ D.length ≤ x.length + 1) := by
  constructor
  ·rw [← hx, ← hD]; exact fv (Nat.le_mul_of_pos_right _ (dg (by decide)))
  ·rw [← hD]
   refine bE ?_
   have h1 := bR (aW (val a))
   rw [aZ, hx] at h1
   have h2 : 2 ^ n ≤ LB := by rw [jG (n := n) (by omega)]; exact Nat.le_mul_of_pos_left _ (dg (by decide))
   rw [bJ]
   exact Nat.mul_lt_mul_of_lt_of_le h1 h2 cQ
 have hDL : Lim D := by rw [← hD]; exact aW _
 have c1 : content [Blk.prow 1 (lm L), Blk.prow 1 [.int .u32 0, .int .u32 0]] (.own 0 0 kk) = some (lm D) := by
  simp only [content, gO, d8, aT, hkk, if_true, List.drop_zero, mJ, htk]
 have c2 : content [Blk.prow 1 (lm L), Blk.prow 1 [.int .u32 0, .int .u32 0]] (.own 1 0 2) = some [.int .u32 0, .int .u32 0] := rfl
 have m1 : (D.length + 2) * 4 ≤ 140737488355328 := by omega
 have w2 : IntKind.i64.wrap ((x.length : Int) + 1) = ((x.length + 1 : Nat) : Int) := by rw [IntWalk.i64_in _ (by omega)]; omega
 have w3 : IntKind.i64.wrap ((x.length : Int) - y.length) = ((x.length - y.length : Nat) : Int) := by rw [IntWalk.i64_in _ (by omega)]; omega
 have w4 : IntKind.i64.wrap (((x.length - y.length : Nat) : Int) + 1) = ((x.length - y.length + 1 : Nat) : Int) := by rw [IntWalk.i64_in _ (by omega)]; omega
 have m2 : x.length + 1 ≤ D.length + 2 := by omega
 have m3 : ((4 : Nat) : Int) * ((x.length - y.length + 1 : Nat) : Int) ≤ 281474976710656 := by omega
 have m4 : ((x.length - y.length + 1 : Nat) : Int) ≤ 9223372036854775807 := by omega
 have a1 : lm D ++ [PV.int .u32 0, .int .u32 0] = lm (D ++ [0, 0]) := by rw [← iY]; rfl
 simp only [S1, S2, S3, S4, S5, iK, gT, ev, cW, kj, lH, vl, gt, st, sto, fgt, i64, gR, fill, iS, fe, bnd, unV, bsz, ig, toP, eP, iP, List.elem, aw, frz, dD, eU, eG, kill, gi, eE, eC, setCells, ak, aj, ↓reduceIte, reduceCtorEq, ai, ab, ah, ae, aa, af, fN, c1, c2, m1, aT, a1, w2, w3, w4, SN, dw, aD, m2, bsz, Nat.sub_zero, m3, m4, dN, i9]
 have hj0 : ((x.length - y.length + 1 : Nat) : Int) - 1 = ((x.length - y.length : Nat) : Int) := by omega
 have hbn : val b * 2 ^ n ≠ 0 := Nat.mul_ne_zero hne (Nat.ne_of_gt (dg (by decide)))
 generalize hv : dgl (val b * 2 ^ n) = v at *
 have hvL : Lim v := by rw [← hv]; exact aW _
 have hV : val v = val b * 2 ^ n := by rw [← hv, aZ]
 have hVlt : val v < LB ^ y.length := by rw [← hvl]; exact bR hvL
 have htop : v[v.length - 1]'(by omega) ≠ 0 := by
  simp only [← hv]
  exact (mE hbn (bG (by have := List.length_pos_iff.2 (jt hbn); omega)) rfl).2.2
 have hDv : val D = val a * 2 ^ n := by rw [← hD, aZ]
 have hI0 : uN (val a * 2 ^ n) (val v) x.length y.length (x.length - y.length + 1) (D ++ [0, 0]) [] := by
  have t1 : (D ++ [0, 0]).take (x.length + 1) = D ++ aw (x.length + 1 - D.length) 0 := by
   rw [List.take_append, b6 (by omega)]
   congr 1
   rcases (show x.length + 1 - D.length = 0 ∨ x.length + 1 - D.length = 1 by omega) with h | h <;> rw [h] <;> rfl
  have t2 : val ((D ++ [0, 0]).take (x.length + 1)) = val a * 2 ^ n := by
   rw [t1, c9, uT, fj, bw, hDv]
  have g1 : LB ^ (y.length - 1) ≤ val b := by
   rcases ax (val b) (LB ^ (y.length - 1)) with h | h
   ·have := bE h; rw [hy] at this; omega
   ·exact h
  have g2 : val a < LB ^ x.length := by have := bR (aW (val a)); rwa [aZ, hx] at this
  have g3 : LB ^ x.length = LB ^ (y.length - 1) * LB ^ (x.length - y.length + 1) := by rw [← Nat.pow_add]; congr 1; omega
  have g4 : val a < val b * LB ^ (x.length - y.length + 1) := bP g2 (by rw [g3]; exact az _ g1)
  have hll : (D ++ [0, 0]).length = D.length + 2 := by rw [bX]; rfl
  have hL2 : Lim (D ++ [0, 0]) := hDL.append (by intro y hy; simp at hy; rw [hy]; exact cQ)
  refine ⟨av _, by rw [eI]; rfl, (fun _ h => by cases h), by rw [hll]; omega, hL2, by rw [t2]; simp [val], ?_⟩
  rw [t2, hV, Nat.mul_right_comm]
  exact Nat.mul_lt_mul_of_pos_right g4 (dg (by decide))
 refine aM (β := Nat × List Nat × List Nat) (fun t => ([(9, .p (.int .i64 (n : Int))), (10, .p (.sl (lm v))), (11, .own 2 0 (x.length + 1)), (12, .own 3 0 (x.length - y.length + 1)), (13, i64 ((t.1 : Int) - 1))],
  [.dead, .prow 1 [.int .u32 0, .int .u32 0], .prow 1 (lm t.2.1), .prow 1 (lm (aw t.1 0 ++ t.2.2))]))
  (fun t => uN (val a * 2 ^ n) (val v) x.length y.length t.1 t.2.1 t.2.2) (fun t => t.1) ((x.length - y.length + 1, D ++ [0, 0], []) : Nat × List Nat × List Nat) (by dsimp only; rw [hj0]; rfl) (by simp [List.replicate_succ]) hI0 ?_
 rintro ⟨i, F, q⟩ hI ih
 simp only [] at hI ih ⊢
 cases i with
 | zero =>
   have hneg : ¬ (((0 : Nat) : Int) - 1 ≥ 0) := by omega
   have htq := p144 hI.qL (by have := hI.ql; omega)
   have hFl := hI.fl
   have hFtl : (F.take (x.length + 1)).length = x.length + 1 := by rw [aS]; omega
   have htf := p144 (l := F.take (x.length + 1)) hI.fL.take (by omega)
   have hval := hI.eq
   have hlt := hI.lt
   rw [Nat.pow_zero, Nat.one_mul, hV] at hval
   rw [Nat.pow_zero, dq, hV] at hlt
   have hp : 0 < val b * 2 ^ n := dU hbn
   have h2p : 0 < 2 ^ n := dg (by decide)
   have q1 : val q = val a / val b := by
    rw [← Nat.mul_div_mul_right (val a) (val b) h2p, ← hval, Nat.add_mul_div_right _ _ hp, Nat.div_eq_of_lt hlt, d8]
   have q2 : val (F.take (x.length + 1)) / 2 ^ n = val a % val b := by
    have : val a * 2 ^ n % (val b * 2 ^ n) = val (F.take (x.length + 1)) := by rw [← hval, Nat.add_mul_mod_self_right, a6 hlt]
    rw [← this, Nat.mul_mod_mul_right, Nat.mul_div_cancel _ h2p]
   have h188 := p188 (n := n) (aW (val (F.take (x.length + 1)))) (by have := bE (bR (hI.fL.take (n := x.length + 1))); omega) hn32
   rw [aZ, q2] at h188
   rw [q1] at htq
   have hfz : dD [Blk.dead, Blk.prow 1 [.int .u32 0, .int .u32 0], Blk.prow 1 (lm F), Blk.dead] (.own 2 0 (x.length + 1)) = some (.sl (lm (F.take (x.length + 1)))) := by
    simp only [dD, List.getElem?_cons_succ, gO, d8, aT, hFl, if_true, List.drop_zero, mJ]
   have hqe : x.length - y.length + 1 = (lm q).length := by rw [aT, hI.ql]; omega
   have hq0 : aw 0 0 ++ q = q := rfl
   simp only [S1, S2, S3, S4, S5, iK, gT, ev, cW, kj, lH, vl, gt, st, sto, fgt, i64, gR, fill, iS, fe, bnd, unV, bsz, ig, toP, eP, iP, List.elem, aw, frz, dD, eU, eG, kill, gi, eE, eC, setCells, ak, aj, ↓reduceIte, reduceCtorEq, ai, ab, ah, ae, aa, af, hneg, hq0]
   rw [g8 htq rfl hqe]
   simp only [S1, S2, S3, S4, S5, iK, gT, ev, cW, kj, lH, vl, gt, st, sto, fgt, i64, gR, fill, iS, fe, bnd, unV, bsz, ig, toP, eP, iP, List.elem, aw, frz, dD, eU, eG, kill, gi, eE, eC, setCells, ak, aj, ↓reduceIte, reduceCtorEq, ai, ab, ah, ae, aa, af]
   rw [B8 htf hfz]
   simp only [S1, S2, S3, S4, S5, iK, gT, ev, cW, kj, lH, vl, gt, st, sto, fgt, i64, gR, fill, iS, fe, bnd, unV, bsz, ig, toP, eP, iP, List.elem, aw, frz, dD, eU, eG, kill, gi, eE, eC, setCells, ak, aj, ↓reduceIte, reduceCtorEq, ai, ab, ah, ae, aa, af, kp2 h188]
   exact dT aQ aQ aQ
 | succ j =>
   have hge0 : ((j + 1 : Nat) : Int) - 1 ≥ 0 := by omega
   have hje : ((j + 1 : Nat) : Int) - 1 = (j : Int) := by omega
   have hi := hI.hi
   obtain ⟨hsp, hW0, hz⟩ := hI.split hkm hVlt
   have hFl := hI.fl
   have hVp : 0 < val v := by rw [hV]; exact dU hbn
   have hWq : val ((F.drop j).take (y.length + 1)) / val v < LB := (Nat.div_lt_iff_lt_mul hVp).2 hW0
   have hstep := fun W h1 h2 h3 => hI.step (W := W) hkm hVlt hVp hWq h1 h2 h3
   obtain ⟨P, hP⟩ : ∃ P, P = F.take j := ⟨_, rfl⟩
   obtain ⟨W0, hW⟩ : ∃ W0, W0 = (F.drop j).take (y.length + 1) := ⟨_, rfl⟩
   obtain ⟨T, hT⟩ : ∃ T, T = F.drop (j + (y.length + 1)) := ⟨_, rfl⟩
   rw [← hP, ← hW, ← hT] at hstep
   rw [← hW] at hW0 hWq
   have hFe : F = P ++ (W0 ++ T) := by rw [hP, hW, hT, ← List.drop_drop, List.take_append_drop, List.take_append_drop]
   have hPl : P.length = j := by rw [hP, aS]; omega
   have hW0l : W0.length = v.length + 1 := by rw [hW, aS, List.length_drop]; omega
   have hW0L : Lim W0 := by rw [hW]; exact hI.fL.drop.take
   have hwf0 : Wf [Blk.dead, Blk.prow 1 [PV.int .u32 0, PV.int .u32 0], Blk.dead, Blk.prow 1 (lm (aw (j + 1) 0 ++ q))] := by
    intro x hx
    simp only [List.mem_cons, cU, or_false] at hx
    rcases hx with rfl | rfl | rfl | rfl <;> rfl
   have k187' := fun {rs base d l dr ks e Q} h => k187 (P := P) (T := T) (off := j) (b := 2) (W0 := W0) (v := v) (σ := [Blk.dead, Blk.prow 1 [PV.int .u32 0, PV.int .u32 0], Blk.dead, Blk.prow 1 (lm (aw (j + 1) 0 ++ q))]) (rs := rs) (base := base) (d := d) (l := l) (dr := dr) (ks := ks) (e := e) (Q := Q) (by simp) hwf0 hPl hvL (by omega) (by omega) hW0L hW0l htop hW0 h
   rw [hvl] at k187'
   have hje2 : ((x.length - y.length + 1 : Nat) : Int) = (x.length - y.length : Nat) + 1 := by omega
   have w5 : IntKind.i64.wrap ((j : Int) + y.length) = ((j + y.length : Nat) : Int) := by rw [IntWalk.i64_in _ (by omega)]; omega
   have w6 : IntKind.i64.wrap (((j + y.length : Nat) : Int) + 1) = ((j + y.length + 1 : Nat) : Int) := by rw [IntWalk.i64_in _ (by omega)]; omega
   have e3 : j + y.length + 1 - j = y.length + 1 := by omega
   have e4 : j ≤ j + y.length + 1 := by omega
   have e5 : j + y.length + 1 ≤ x.length + 1 := by omega
   have hjm : j < x.length - y.length + 1 := by omega
   have hset : (0 :: (aw j 0 ++ q)).set j (val W0 / val v) = aw j 0 ++ (val W0 / val v :: q) := by
    rw [← fk, ← List.replicate_succ, List.replicate_succ', aP]
    rw [List.set_append_right _ _ (by rw [eK]; omega), eK, eI]
    rfl
   simp only [S1, S2, S3, S4, S5, iK, gT, ev, cW, kj, lH, vl, gt, st, sto, fgt, i64, gR, fill, iS, fe, bnd, unV, bsz, ig, toP, eP, iP, List.elem, aw, frz, dD, eU, eG, kill, gi, eE, eC, setCells, ak, aj, ↓reduceIte, reduceCtorEq, ai, ab, ah, ae, aa, af, hge0, hje, aT, hvl, w5, w6, dw, e4, e5, e3, bsz, SN]
   rw [hFe]
   refine k187' fun W h1 h2 h3 => ?_
   have hql : 0 < (lm (0 :: (aw j 0 ++ q))).length := by simp [lm]
   have w7 : IntKind.i64.wrap ((j : Int) - 1) = (j : Int) - 1 := IntWalk.i64_in _ (by omega)
   have hJ := hstep W (by rw [h1]) h2 h3
   have hget : (lm (0 :: (aw j 0 ++ q)))[j]? = some (.int .u32 ((0 : Nat) : Int)) := fI (by
    rw [← fk, ← List.replicate_succ, aB (by rw [eK]; omega), List.getElem?_replicate, if_pos (bO _)])
   simp only [S1, S2, S3, S4, S5, iK, gT, ev, cW, kj, lH, vl, gt, st, sto, fgt, i64, gR, fill, iS, fe, bnd, unV, bsz, ig, toP, eP, iP, List.elem, aw, frz, dD, eU, eG, kill, gi, eE, eC, setCells, ak, aj, ↓reduceIte, reduceCtorEq, ai, ab, ah, ae, aa, af, hjm, hget, eB, hset, w7, SN]
   refine ih (j, P ++ (W ++ T), val W0 / val v :: q) _ hJ (bO _) ?_
   rfl
theorem p159 {a b : List Nat} (ha : Lim a) (hb : Lim b) (hna : a.length ≤ 400000000000) (hnb : b.length ≤ 400000000000) (h0 : val b ≠ 0) :
 Pu rp 98 [.sl (lm a), .sl (lm b)] (.tup [.p (.sl (lm (dgl (val a / val b)))), .p (.sl (lm (dgl (val a % val b)))), .p (.int .i64 0)]) := by
 rcases ax (val a) (val b) with h | h
 ·exact C0 ha hb hna hnb h
 ·have hl := List.length_pos_iff.2 (jt h0)
  rcases (show (dgl (val b)).length = 1 ∨ 2 ≤ (dgl (val b)).length by omega) with h1 | h1
  ·exact CZ ha hb hna hnb h h1
  ·exact C1 ha hb hna hnb h h1
theorem rp77 : rp 44 = some f44 := rfl
theorem rp121 : rp 134 = some f134 := rfl
theorem rp146 : rp 87 = some f87 := rfl
theorem rp145 : rp 84 = some f84 := rfl
theorem rp157 : rp 99 = some f99 := rfl
theorem rp63 : rp 53 = some f53 := rfl
theorem rp134 : rp 57 = some f57 := rfl
def fR : Nat := 100000000000
theorem cH : fR = 100000000000 := by unfold fR; rfl
attribute [irreducible] fR
def iv (neg : Bool) (l : List Nat) : Int := if neg then -(val l : Int) else val l
def Nu (p : PV) (x : Int) : Prop := ∃ neg l, p = .agg [.bool neg, .sl (lm l)] ∧ Lim l ∧ l.length ≤ fR ∧ x = iv neg l
def Sz (x : Int) : Prop := x.natAbs < LB ^ fR
theorem iM {neg : Bool} {l : List Nat} : (iv neg l).natAbs = val l := by
 unfold iv
 cases neg <;> simp
theorem iR {neg : Bool} {v : Nat} : mk neg v = zi (if neg then -(v : Int) else v) := by
 unfold zi mk
 cases neg
 ·simp; omega
 ·by_cases h : v = 0
  ·subst h; simp
  ·simp [h]; omega
theorem mk_val {neg : Bool} {l : List Nat} : mk neg (val l) = zi (iv neg l) := iR
theorem bg {x : Int} : zi x = .agg [.bool (decide (x < 0) && decide (x.natAbs ≠ 0)), .sl (lm (dgl x.natAbs))] := rfl
theorem Ca {x : Int} : iv (decide (x < 0) && decide (x.natAbs ≠ 0)) (dgl x.natAbs) = x := by
 unfold iv
 rw [aZ]
 by_cases h : x < 0
 ·have : x.natAbs ≠ 0 := by omega
  simp [h, this]; omega
 ·simp [h]; omega
theorem Nu.zi {x : Int} (h : Sz x) : Nu (zi x) x := ⟨_, _, bg, aW _, bE h, Ca.symm⟩
theorem Nu.sz {p : PV} {x : Int} (h : Nu p x) : Sz x := by
 obtain ⟨neg, l, rfl, hl, hn, rfl⟩ := h
 unfold Sz
 rw [iM]
 exact bP (bR hl) (Nat.pow_le_pow_right cQ hn)
theorem Sz.neg {x : Int} (h : Sz x) : Sz (-x) := by unfold Sz at *; rwa [Int.natAbs_neg]
theorem p119 {l : List Nat} (hl : Lim l) (hn : l.length ≤ fR) : Pu rp 89 [.sl (lm l)] (.p (.int .i64 (bl (val l) : Nat))) := by
 refine aY rp119 ?_
 rw [cH] at hn
 have k1 := p144 hl (by omega)
 have hd : (dgl (val l)).length ≤ l.length := bE (bR hl)
 by_cases h0 : val l = 0
 ·rw [h0, cJ] at k1
  have e : (((([] : List Nat).length : Nat) : Int) == 0) = true := rfl
  simp only [f89, aJ, SB, ak, aj, ↓reduceIte, reduceCtorEq, ai, ab, ah, ae, aa, af, kp1 k1, aT, e]
  rw [h0, mS]; rfl
 ·have hpos := List.length_pos_iff.2 (jt h0)
  have e : (((dgl (val l)).length : Int) == 0) = false := by rw [beq_eq_false_iff_ne]; omega
  obtain ⟨t, ht⟩ : ∃ t, (dgl (val l))[(dgl (val l)).length - 1]? = some t := ⟨_, bG (by omega)⟩
  obtain ⟨-, -, ht0⟩ := mE h0 ht rfl
  have htB : t < LB := by
   have := (aW (val l)).get (show (dgl (val l)).length - 1 < (dgl (val l)).length by omega)
   rw [bG (by omega), Option.some.injEq] at ht
   omega
  have hb := tr htB
  have w1 : IntKind.i64.wrap (((dgl (val l)).length : Int) - 1) = (((dgl (val l)).length - 1 : Nat) : Int) := by rw [IntWalk.i64_in _ (by omega)]; omega
  have w2 : IntKind.i64.wrap (32 * (((dgl (val l)).length - 1 : Nat) : Int)) = ((32 * ((dgl (val l)).length - 1) : Nat) : Int) := by rw [IntWalk.i64_in _ (by omega)]; omega
  have w3 : IntKind.i64.wrap (((32 * ((dgl (val l)).length - 1) : Nat) : Int) + (bl t : Nat)) = ((32 * ((dgl (val l)).length - 1) + bl t : Nat) : Int) := by rw [IntWalk.i64_in _ (by omega)]; omega
  simp only [f89, aJ, SB, ak, aj, ↓reduceIte, reduceCtorEq, ai, ab, ah, ae, aa, af, kp1 k1, aT, e, w1, w2, SN, fI ht, kp1 (p148 htB), w3]
  have hbl : bl (val l) = 32 * ((dgl (val l)).length - 1) + bl t := by
   have hlt : (dgl (val l)).length - 1 < (dgl (val l)).length := by omega
   have s := gQ (l := dgl (val l)) (i := (dgl (val l)).length - 1) (by omega)
   rw [bG hlt, Option.some.injEq] at ht
   rw [di hlt, val, ht, show (dgl (val l)).length - 1 + 1 = (dgl (val l)).length by omega, List.drop_length, val, fj, bw, aZ] at s
   have hlow := bR ((aW (val l)).take (n := (dgl (val l)).length - 1))
   rw [aS, Nat.min_eq_left (by omega)] at hlow
   have hLB : LB ^ ((dgl (val l)).length - 1) = 2 ^ (32 * ((dgl (val l)).length - 1)) := by rw [Nat.pow_mul]; rfl
   rw [hLB] at s hlow
   obtain ⟨b1, b2, b3⟩ := jl ht0
   refine vJ h0 ?_ ?_
   ·rw [show 32 * ((dgl (val l)).length - 1) + bl t - 1 = 32 * ((dgl (val l)).length - 1) + (bl t - 1) by omega, Nat.pow_add]
    exact a9 (bH _ b1) (a9 (Nat.le_add_left _ _) (Nat.le_of_eq s.symm))
   ·rw [Nat.pow_add]
    calc val l = _ := s
     _ < 2 ^ (32 * ((dgl (val l)).length - 1)) * (t + 1) := by rw [ck, dq]; omega
     _ ≤ _ := bH _ b2
  rw [hbl]; rfl
theorem yZ {v : Nat} : bl v = 0 ↔ v = 0 := by
 unfold bl; split <;> simp [*]
theorem p121 {p : PV} {x : Int} (h : Nu p x) : Pu rp 134 [p] (.p (.int .i64 (bl x.natAbs : Nat))) := by
 obtain ⟨neg, l, rfl, hl, hn, rfl⟩ := h
 refine aY rp121 ?_
 rw [iM]
 simp only [f134, aJ, SB, ak, aj, ↓reduceIte, reduceCtorEq, ai, ab, ah, ae, aa, af, kp1 (p119 hl hn)]
 rfl
theorem p77 {p : PV} {x : Int} (h : Nu p x) : Pu rp 44 [p] (.p (.int .i64 x.sign)) := by
 obtain ⟨neg, l, rfl, hl, hn, rfl⟩ := h
 refine aY rp77 ?_
 by_cases h0 : val l = 0
 ·have e : ((bl (val l) : Int) == 0) = true := by rw [yZ.2 h0]; rfl
  simp only [f44, aJ, SB, ak, aj, ↓reduceIte, reduceCtorEq, ai, ab, ah, ae, aa, af, kp1 (p119 hl hn), e]
  have : iv neg l = 0 := by unfold iv; rw [h0]; cases neg <;> rfl
  rw [this]; rfl
 ·have e : ((bl (val l) : Int) == 0) = false := by rw [beq_eq_false_iff_ne]; have := mt yZ.1 h0; omega
  cases neg
  ·simp only [f44, aJ, SB, ak, aj, ↓reduceIte, reduceCtorEq, ai, ab, ah, ae, aa, af, kp1 (p119 hl hn), e]
   have : (iv false l).sign = 1 := bo (by unfold iv; simp; omega)
   rw [this]; rfl
  ·simp only [f44, aJ, SB, ak, aj, ↓reduceIte, reduceCtorEq, ai, ab, ah, ae, aa, af, kp1 (p119 hl hn), e]
   have : (iv true l).sign = -1 := bY (by unfold iv; simp; omega)
   rw [this]; rfl
theorem p146 {p : PV} {x : Int} (h : Nu p x) : Pu rp 87 [p] (.p (zi (-x))) := by
 obtain ⟨neg, l, rfl, hl, hn, rfl⟩ := h
 refine aY rp146 ?_
 rw [cH] at hn
 have e : -iv neg l = iv (!neg) l := by unfold iv; cases neg <;> simp
 rw [e, ← mk_val]
 simp only [f87, aJ, SB, ak, aj, ↓reduceIte, reduceCtorEq, ai, ab, ah, ae, aa, af, unV, kp2 (p105 hl (by omega))]
 rfl
theorem sC {p q : PV} {x y : Int} (h : Nu p x) (h' : Nu q y) : Pu rp 53 [p, q] (.p (zi (x * y))) := by
 obtain ⟨n1, a, rfl, ha, hna, rfl⟩ := h
 obtain ⟨n2, b, rfl, hb, hnb, rfl⟩ := h'
 refine aY rp63 ?_
 rw [cH] at hna hnb
 have hd : (dgl (val a * val b)).length ≤ a.length + b.length := bE (by rw [Nat.pow_add]; exact Nat.mul_lt_mul'' (bR ha) (bR hb))
 have k1 := p111 ha hb (by omega) (by omega)
 have k2 := fun neg => p105 (neg := neg) (aW (val a * val b)) (by omega)
 simp only [aZ] at k2
 have e : zi (iv n1 a * iv n2 b) = mk (n1 != n2) (val a * val b) := by
  rw [iR]; unfold iv; congr 1; cases n1 <;> cases n2 <;> simp [Int.natCast_mul, Int.neg_mul, Int.mul_neg]
 rw [e]
 cases n1 <;> cases n2 <;> simp only [f53, aJ, SB, ak, aj, ↓reduceIte, reduceCtorEq, ai, ab, ah, ae, aa, af, kp2 k1, kp2 (k2 _)] <;> rfl
theorem bq1 : (true == false) = false := rfl
theorem bq2 : (false == true) = false := rfl
theorem p145 {p q : PV} {x y : Int} (h : Nu p x) (h' : Nu q y) : Pu rp 84 [p, q] (.p (zi (x + y))) := by
 obtain ⟨n1, a, rfl, ha, hna, rfl⟩ := h
 obtain ⟨n2, b, rfl, hb, hnb, rfl⟩ := h'
 refine aY rp145 ?_
 rw [cH] at hna hnb
 have hcmp := p177 ha hb (by omega) (by omega)
 by_cases hs : n1 = n2
 ·subst hs
  have hd : (dgl (val a + val b)).length ≤ a.length + b.length + 1 := bE (by
   have h1 := bP (bR ha) (Nat.pow_le_pow_right cQ (show a.length ≤ a.length + b.length by omega))
   have h2 := bP (bR hb) (Nat.pow_le_pow_right cQ (show b.length ≤ a.length + b.length by omega))
   rw [bJ]
   have h3 : LB ^ (a.length + b.length) * 2 ≤ LB ^ (a.length + b.length) * LB := bH _ (by decide)
   omega)
  have k1 := p176 ha hb (by omega) (by omega)
  have k2 := p105 (neg := n1) (aW (val a + val b)) (by omega)
  rw [aZ] at k2
  have e : zi (iv n1 a + iv n1 b) = mk n1 (val a + val b) := by
   rw [iR]; unfold iv; congr 1; cases n1 <;> simp; omega
  rw [e]
  cases n1 <;> simp only [f84, aJ, SB, ak, aj, ↓reduceIte, reduceCtorEq, ai, ab, ah, ae, aa, af, kp2 k1, kp2 k2] <;> rfl
 ·by_cases hlt : val a < val b
  ·have hci : eV (val a) (val b) < 0 := fF.2 hlt
   have k1 := p178 hb ha (by omega) (by omega) (Nat.le_of_lt hlt)
   have hd : (dgl (val b - val a)).length ≤ b.length := bE (bQ (Nat.sub_le _ _) (bR hb))
   have k2 := p105 (neg := n2) (aW (val b - val a)) (by omega)
   rw [aZ] at k2
   have e : zi (iv n1 a + iv n2 b) = mk n2 (val b - val a) := by
    rw [iR]; unfold iv; congr 1; cases n1 <;> cases n2 <;> simp at hs ⊢ <;> omega
   rw [e]
   cases n1 <;> cases n2 <;> simp at hs <;> simp only [f84, aJ, SB, ak, aj, ↓reduceIte, reduceCtorEq, ai, ab, ah, ae, aa, af, kp2 hcmp, hci, kp2 k1, kp2 k2, bq1, bq2] <;> rfl
  ·have hci : ¬ eV (val a) (val b) < 0 := by rw [fF]; exact hlt
   have k1 := p178 ha hb (by omega) (by omega) (Nat.le_of_not_lt hlt)
   have hd : (dgl (val a - val b)).length ≤ a.length := bE (bQ (Nat.sub_le _ _) (bR ha))
   have k2 := p105 (neg := n1) (aW (val a - val b)) (by omega)
   rw [aZ] at k2
   have e : zi (iv n1 a + iv n2 b) = mk n1 (val a - val b) := by
    rw [iR]; unfold iv; congr 1; cases n1 <;> cases n2 <;> simp at hs ⊢ <;> omega
   rw [e]
   cases n1 <;> cases n2 <;> simp at hs <;> simp only [f84, aJ, SB, ak, aj, ↓reduceIte, reduceCtorEq, ai, ab, ah, ae, aa, af, kp2 hcmp, hci, kp2 k1, kp2 k2, bq1, bq2] <;> rfl
theorem p157 {p q : PV} {x y : Int} (h : Nu p x) (h' : Nu q y) : Pu rp 99 [p, q] (.p (zi (x - y))) := by
 have k2 := p145 h (Nu.zi h'.sz.neg)
 have k1 := p146 h'
 obtain ⟨n1, a, rfl, ha, hna, rfl⟩ := h
 obtain ⟨n2, b, rfl, hb, hnb, rfl⟩ := h'
 refine aY rp157 ?_
 rw [Int.sub_eq_add_neg]
 simp only [f99, aJ, SB, ak, aj, ↓reduceIte, reduceCtorEq, ai, ab, ah, ae, aa, af, kp1 k1, kp2 k2]
 rfl
theorem Sz.le {x y : Int} (h : Sz x) (hy : y.natAbs ≤ x.natAbs) : Sz y := bQ hy h
theorem Sz.small {x : Int} (h : x.natAbs < LB) : Sz x := by
 unfold Sz
 obtain ⟨k, hk⟩ : ∃ k, fR = k + 1 := ⟨fR - 1, by rw [cH]⟩
 rw [hk, bJ]
 exact bP h (Nat.le_mul_of_pos_left _ (dg cQ))
theorem bV {base j : Nat} {σ : ar} {b : Blk} : push base (some j) σ b = (match σ[base + j]? with | some .hole => some (base + j, σ.set (base + j) b) | _ => none) := rfl
theorem p134 {p q : PV} {x y : Int} (h : Nu p x) (h' : Nu q y) (hy : 0 < y) : Pu rp 57 [p, q] (.tup [.p (zi (x / y)), .p (zi (x % y)), .p (.int .i64 0)]) := by
 have hx := h.sz
 have hys := h'.sz
 have k77y := p77 h'
 obtain ⟨n1, a, rfl, ha, hna, rfl⟩ := h
 obtain ⟨n2, b, rfl, hb, hnb, rfl⟩ := h'
 obtain rfl : n2 = false := by cases n2; rfl; unfold iv at hy; simp at hy; omega
 have hvb : iv false b = val b := rfl
 have hb0 : val b ≠ 0 := by rw [hvb] at hy; omega
 refine aY rp134 ?_
 rw [cH] at hna hnb
 have k1 := p159 ha hb (by omega) (by omega) hb0
 have hdq : (dgl (val a / val b)).length ≤ a.length := bE (bQ (Nat.div_le_self _ _) (bR ha))
 have hdr : (dgl (val a % val b)).length ≤ a.length := bE (bQ (Nat.mod_le _ _) (bR ha))
 have kq := fun neg => p105 (neg := neg) (aW (val a / val b)) (by omega)
 have kr := fun neg => p105 (neg := neg) (aW (val a % val b)) (by omega)
 simp only [aZ, iR] at kq kr
 have bn1 : (true != false) = true := rfl
 have bn2 : (false != false) = false := rfl
 have e0 : ((0 : Int) != 0) = false := rfl
 cases n1 with
 | false =>
   have kr0 := kr false
   have kq0 := kq false
   simp only [aR, if_false] at kr0 kq0
   have hz : Nu (zi ((val a % val b : Nat) : Int)) ((val a % val b : Nat) : Int) := Nu.zi (hx.le (by rw [iM]; exact Nat.mod_le _ _))
   have k77 := p77 hz
   rw [bg] at k77
   have hsy : (iv false b).sign = 1 := bo hy
   rw [hsy] at k77y
   have hq : iv false a / iv false b = ((val a / val b : Nat) : Int) := rfl
   have hr : iv false a % iv false b = ((val a % val b : Nat) : Int) := rfl
   rw [hq, hr]
   by_cases h0 : val a % val b = 0
   ·have hs : (((val a % val b : Nat) : Int).sign != 0) = false := by rw [h0]; rfl
    simp only [f57, aJ, SB, ak, aj, ↓reduceIte, reduceCtorEq, ai, ab, ah, ae, aa, af, kp2 k1, bq1, bq2, Bool.not_true, Bool.not_false, bV, bn1, bn2, e0, kp2 kq0, kp2 kr0, kp1 k77, hs]
    rw [ez]
    refine ⟨by rfl, ?_⟩
    simp only [SB, ak, aj, ↓reduceIte, reduceCtorEq, ai, ab, ah, ae, aa, af]
    exact dT aQ aQ aQ
   ·have hs1 : ((val a % val b : Nat) : Int).sign = 1 := bo (by omega)
    have hs : ((1 : Int) != 0) = true := rfl
    have hs2 : ((1 : Int) != 1) = false := rfl
    rw [hs1] at k77
    simp only [f57, aJ, SB, ak, aj, ↓reduceIte, reduceCtorEq, ai, ab, ah, ae, aa, af, kp2 k1, bq1, bq2, Bool.not_true, Bool.not_false, bV, bn1, bn2, e0, kp2 kq0, kp2 kr0, kp1 k77, hs, kp1 k77y, hs2]
    rw [ez]
    refine ⟨by rfl, ?_⟩
    simp only [SB, ak, aj, ↓reduceIte, reduceCtorEq, ai, ab, ah, ae, aa, af]
    exact dT aQ aQ aQ
 | true =>
   have kr0 := kr true
   have kq0 := kq true
   simp only [if_true] at kr0 kq0
   have hrz : Sz (-((val a % val b : Nat) : Int)) := hx.le (by rw [iM, Int.natAbs_neg]; exact Nat.mod_le _ _)
   have hz : Nu (zi (-((val a % val b : Nat) : Int))) (-((val a % val b : Nat) : Int)) := Nu.zi hrz
   have hqz : Sz (-((val a / val b : Nat) : Int)) := hx.le (by rw [iM, Int.natAbs_neg]; exact Nat.div_le_self _ _)
   have k77 := p77 hz
   have ks := p157 (Nu.zi hqz) (Nu.zi (x := 1) (Sz.small (by decide)))
   have ka := p145 hz ⟨false, b, rfl, hb, by rw [cH]; exact hnb, rfl⟩
   rw [bg] at k77 ka
   rw [bg (x := -((val a / val b : Nat) : Int))] at ks
   have hsy : (iv false b).sign = 1 := bo hy
   rw [hsy] at k77y
   have hdm := Nat.mod_add_div (val a) (val b)
   have hml := ep (val a) (dU hb0)
   have hxa : iv true a = -(val a : Int) := rfl
   by_cases h0 : val a % val b = 0
   ·have hs : ((-((val a % val b : Nat) : Int)).sign != 0) = false := by rw [h0]; rfl
    have hq : iv true a / iv false b = -((val a / val b : Nat) : Int) := by
     rw [hxa, hvb, Int.neg_ediv_of_dvd (Int.natCast_dvd_natCast.2 (Nat.dvd_of_mod_eq_zero h0))]; rfl
    have hr : iv true a % iv false b = -((val a % val b : Nat) : Int) := by
     rw [hxa, hvb, h0]; exact Int.emod_eq_zero_of_dvd ((Int.dvd_neg).2 (Int.natCast_dvd_natCast.2 (Nat.dvd_of_mod_eq_zero h0)))
    rw [hq, hr]
    simp only [f57, aJ, SB, ak, aj, ↓reduceIte, reduceCtorEq, ai, ab, ah, ae, aa, af, kp2 k1, bq1, bq2, Bool.not_true, Bool.not_false, bV, bn1, bn2, e0, kp2 kq0, kp2 kr0, kp1 k77, hs]
    rw [ez]
    refine ⟨by rfl, ?_⟩
    simp only [SB, ak, aj, ↓reduceIte, reduceCtorEq, ai, ab, ah, ae, aa, af]
    exact dT aQ aQ aQ
   ·have hs1 : (-((val a % val b : Nat) : Int)).sign = -1 := bY (by omega)
    have hs : ((-1 : Int) != 0) = true := rfl
    have hs2 : ((-1 : Int) != 1) = true := rfl
    rw [hs1] at k77
    have hu := (Int.ediv_emod_unique (a := iv true a) (b := iv false b) (r := -((val a % val b : Nat) : Int) + iv false b) (q := -((val a / val b : Nat) : Int) - 1) hy).2
     ⟨by rw [hxa, hvb, Int.mul_sub, Int.mul_neg, Int.mul_one, ← Int.natCast_mul]; omega, by rw [hvb]; omega, by rw [hvb]; omega⟩
    rw [hu.1, hu.2]
    simp only [f57, aJ, SB, ak, aj, ↓reduceIte, reduceCtorEq, ai, ab, ah, ae, aa, af, kp2 k1, bq1, bq2, Bool.not_true, Bool.not_false, bV, bn1, bn2, e0, kp2 kq0, kp2 kr0, kp1 k77, hs, kp1 k77y, hs2, kp1 (p54 (x := 1) (by decide) (by decide)), kp2 ks, kp2 ka]
    rw [ez]
    refine ⟨by rfl, ?_⟩
    simp only [SB, ak, aj, ↓reduceIte, reduceCtorEq, ai, ab, ah, ae, aa, af]
    exact dT aQ aQ aQ
theorem rp162 : rp 106 = some f106 := rfl
theorem rp170 : rp 133 = some f133 := rfl
theorem rp140 : rp 105 = some f105 := rfl
theorem rp139 : rp 111 = some f111 := rfl
theorem rp163 : rp 107 = some f107 := rfl
theorem rp141 : rp 112 = some f112 := rfl
theorem yo {rs : List dH} {base : Nat} {d : Option Nat} {l : List LOp} {dr : Dr} {ks : List KI} {e : Env} {σ : ar} {Q : CV → ar → Prop} {f sz : Nat} {c : CV} {es : List PV} {r : CV} (h : Pu rp f [.sl es] r) (hg : GL σ sz c es) :
 KC rp rs base .fz f [c] d l dr ks e σ Q = ExR rp rs base l dr ks (sto d r e) (eC σ [c]) Q :=
 kx h (by simp only [eG, hg.frz, aH])
theorem xF {x : Nat} : (x : Int).tmod 4294967296 = ((x % LB : Nat) : Int) := rfl
theorem AZ {x : Nat} (h : x < 18446744073709551616) : IntKind.u64.wrap ((x : Int).tdiv 4294967296) = ((x / LB : Nat) : Int) := so (y := LB) h
theorem nLB : (4294967296 : Int) ≠ 0 := by decide
theorem p162 {l : List Nat} {i : Nat} (hl : Lim l) : Pu rp 106 [.sl (lm l), .int .i64 (i : Int)] (.p (.int .u64 (lg l i : Nat))) := by
 refine aY rp162 ?_
 by_cases h : (i : Int) < l.length
 ·have hi : i < l.length := by omega
  simp only [f106, aJ, SB, ak, aj, ↓reduceIte, reduceCtorEq, ai, ab, ah, ae, aa, af, aT, h, SN, cO hi, fM (hl.get hi)]
  rw [jj hi]; rfl
 ·simp only [f106, aJ, SB, ak, aj, ↓reduceIte, reduceCtorEq, ai, ab, ah, ae, aa, af, aT, h]
  rw [jQ (by omega)]; rfl
theorem p170 {a b : Nat} : Pu rp 133 [.int .i64 (a : Int), .int .i64 (b : Int)] (.p (.int .i64 ((max a b : Nat) : Int))) := by
 refine aY rp170 ?_
 by_cases h : (a : Int) > b
 ·simp only [f133, aJ, SB, ak, aj, ↓reduceIte, reduceCtorEq, ai, ab, ah, ae, aa, af, h]
  rw [Nat.max_eq_left (by omega)]; rfl
 ·simp only [f133, aJ, SB, ak, aj, ↓reduceIte, reduceCtorEq, ai, ab, ah, ae, aa, af, h]
  rw [Nat.max_eq_right (by omega)]; rfl
theorem mN {l : List Nat} {i : Nat} : val (l.drop i) = lg l i + LB * val (l.drop (i + 1)) := by
 rcases ax i l.length with h | h
 ·rw [di h, val, jj h]
 ·rw [jQ h, eW h, eW (by omega), val]; rfl
theorem q9 {a b : List Nat} (ha : Lim a) : ∀ {i : Nat}, val (a.drop i) < val (b.drop i) → val a < val b
 | 0, h => by simpa using h
 | i + 1, h => by
   refine q9 ha (i := i) ?_
   rw [mN, mN (l := b)]
   have h1 := jA ha (i := i)
   have h2 := bH LB (show val (a.drop (i + 1)) + 1 ≤ val (b.drop (i + 1)) from h)
   rw [ck, dq] at h2
   omega
theorem p140 {a b : List Nat} (ha : Lim a) (hb : Lim b) (hna : a.length ≤ 1099511627775) (hnb : b.length ≤ 1099511627775) : Pu rp 105 [.sl (lm a), .sl (lm b)] (.p (.int .i64 (eV (val a) (val b)))) := by
 refine aY rp140 ?_
 have hmx : max a.length b.length ≤ 1099511627775 := Nat.max_le.2 ⟨hna, hnb⟩
 have w1 : IntKind.i64.wrap (((max a.length b.length : Nat) : Int) - 1) = ((max a.length b.length : Nat) : Int) - 1 := IntWalk.i64_in _ (by omega)
 simp only [f105, aJ, SB, ak, aj, ↓reduceIte, reduceCtorEq, ai, ab, ah, ae, aa, af, aT, kp2 p170, w1]
 refine aM (β := Nat) (fun n => ([(0, .p (.sl (lm a))), (1, .p (.sl (lm b))), (5, i64 ((n : Int) - 1))], []))
  (fun n => n ≤ max a.length b.length ∧ val (a.drop n) = val (b.drop n)) (fun n => n) (max a.length b.length) rfl rfl ⟨av _, by rw [eW (Nat.le_max_left _ _), eW (Nat.le_max_right _ _)]⟩ ?_
 rintro n ⟨hn, hd⟩ ih
 by_cases h0 : ((n : Int) - 1) ≥ 0
 ·obtain ⟨m, rfl⟩ : ∃ m, n = m + 1 := ⟨n - 1, by omega⟩
  have hi : ((m + 1 : Nat) : Int) - 1 = (m : Int) := by omega
  rw [hi] at h0
  have hw : IntKind.i64.wrap ((m : Int) - 1) = (m : Int) - 1 := IntWalk.i64_in _ (by omega)
  have da := mN (l := a) (i := m)
  have db := mN (l := b) (i := m)
  rw [hd] at da
  by_cases hlt : (lg a m : Int) < lg b m
  ·simp only [SB, ak, aj, ↓reduceIte, reduceCtorEq, ai, ab, ah, ae, aa, af, hi, h0, kp2 (p162 ha (i := m)), kp2 (p162 hb (i := m)), hlt]
   have := q9 ha (b := b) (i := m) (by omega)
   rw [eV, if_pos this]
   rfl
  ·by_cases hgt : (lg a m : Int) > lg b m
   ·simp only [SB, ak, aj, ↓reduceIte, reduceCtorEq, ai, ab, ah, ae, aa, af, hi, h0, kp2 (p162 ha (i := m)), kp2 (p162 hb (i := m)), hlt, hgt]
    have := q9 hb (b := a) (i := m) (by omega)
    rw [eV, if_neg (by omega), if_neg (by omega)]
    rfl
   ·simp only [SB, ak, aj, ↓reduceIte, reduceCtorEq, ai, ab, ah, ae, aa, af, hi, h0, kp2 (p162 ha (i := m)), kp2 (p162 hb (i := m)), hlt, hgt, hw]
    refine ih m _ ⟨by omega, by omega⟩ (by omega) ?_
    rfl
 ·obtain rfl : n = 0 := by omega
  have h0' : ¬ (((0 : Nat) : Int) - 1 ≥ 0) := by omega
  simp only [SB, ak, aj, ↓reduceIte, reduceCtorEq, ai, ab, ah, ae, aa, af, h0']
  simp only [List.drop_zero] at hd
  rw [eV, if_neg (by omega), if_pos hd]
  rfl
theorem p139 {a b : List Nat} (ha : Lim a) (hb : Lim b) (hna : a.length ≤ 1099511627775) (hnb : b.length ≤ 1099511627775) : Pu rp 111 [.sl (lm a), .sl (lm b)] (.p (.sl (lm (dgl (val a + val b))))) := by
 refine aY rp139 ?_
 have hmx : max a.length b.length ≤ 1099511627775 := Nat.max_le.2 ⟨hna, hnb⟩
 simp only [f111, aJ, SB, ak, aj, ↓reduceIte, reduceCtorEq, ai, ab, ah, ae, aa, af, aT]
 refine aM (β := Nat × List Nat × Nat × ar × CV) (fun t => ([(0, .p (.sl (lm a))), (1, .p (.sl (lm b))), (5, t.2.2.2.2), (6, .p (.int .u64 (t.2.2.1 : Int))), (7, i64 t.1)], t.2.2.2.1))
  (fun t => t.1 ≤ max a.length b.length ∧ t.2.1.length = t.1 ∧ Lim t.2.1 ∧ val t.2.1 + LB ^ t.1 * t.2.2.1 = val (a.take t.1) + val (b.take t.1) ∧ t.2.2.1 ≤ 1 ∧ GL t.2.2.2.1 1 t.2.2.2.2 (lm t.2.1)) (fun t => max a.length b.length - t.1) ((0, [], 0, [], .nils) : Nat × List Nat × Nat × ar × CV) rfl rfl ⟨aD _, rfl, (fun _ hx => nomatch hx), rfl, aD _, .nil⟩ ?_
 rintro ⟨i, o, c, σ, g⟩ ⟨hi, ho, hlo, hv, hc, hgl⟩ ih
 simp only [] at hi ho hlo hv hc hgl ih ⊢
 by_cases hin : (i : Int) < (max a.length b.length : Nat)
 ·obtain ⟨k1, k2, k3⟩ := rh hc (jA ha (i := i)) (jA hb (i := i))
  have hst := nZ (x := lg a i) (y := lg b i) ho hv
  rw [← dy, ← dy] at hst
  have hapc : ((lm o).length + [PV.int .u32 (((c + lg a i + lg b i) % LB : Nat) : Int)].length) * 4 ≤ 140737488355328 := by rw [aT, ho]; simp; omega
  have hmm : (c + lg a i + lg b i) % LB % LB = (c + lg a i + lg b i) % LB := Nat.mod_mod _ _
  simp only [SB, ak, aj, ↓reduceIte, reduceCtorEq, ai, ab, ah, ae, aa, af, aT, kp2 p170, hin, kp2 (p162 ha (i := i)), kp2 (p162 hb (i := i)), je k3, je k2, fB nLB, xF, w32, hmm, ia hgl hapc, fC nLB, AZ k2, IntWalk.i64_in ((i : Int) + 1) (by omega)]
  rw [show lm o ++ [PV.int .u32 (((c + lg a i + lg b i) % LB : Nat) : Int)] = lm (o ++ [(c + lg a i + lg b i) % LB]) by rw [← iY]; rfl, ho]
  refine ih (i + 1, o ++ [(c + lg a i + lg b i) % LB], (c + lg a i + lg b i) / LB, nd σ g ++ [.prow 1 [PV.int .u32 (((c + lg a i + lg b i) % LB : Nat) : Int)], .prow 1 (lm (o ++ [(c + lg a i + lg b i) % LB]))], .own (σ.length + 1) 0 (i + 1)) _
   ⟨by omega, by simp [ho], hlo.append (.one (ep _ cQ)), hst, k1, GL.nb (by rw [aT]; simp [ho]) rfl⟩ (by simp; omega) ?_
  rfl
 ·have hia : i = max a.length b.length := by omega
  have hcl : c % LB = c := a6 (by unfold LB; omega)
  have hval : val (o ++ [c]) = val a + val b := by
   rw [c9, val_one, ho, hv, b6 (by rw [hia]; exact Nat.le_max_left _ _), b6 (by rw [hia]; exact Nat.le_max_right _ _)]
  have hlim : Lim (o ++ [c]) := hlo.append (.one (by unfold LB; omega))
  have htr := p98 hlim (by simp; omega)
  rw [hval] at htr
  have hapc : ((lm o).length + [PV.int .u32 (c : Int)].length) * 4 ≤ 140737488355328 := by rw [aT, ho]; simp; omega
  simp only [SB, ak, aj, ↓reduceIte, reduceCtorEq, ai, ab, ah, ae, aa, af, aT, kp2 p170, hin, w32, hcl, ia hgl hapc]
  rw [show lm o ++ [PV.int .u32 (c : Int)] = lm (o ++ [c]) by rw [← iY]; rfl, ho]
  rw [yo (sz := 1) htr (GL.nb (by rw [aT]; simp [ho]) rfl)]
  simp only [SB, ak, aj, ↓reduceIte, reduceCtorEq, ai, ab, ah, ae, aa, af]
  rfl
end Go.Proofs.YtdieenbfdeaffabGreat.VBn

