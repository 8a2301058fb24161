/- Resolved code of functions, printed by a program of ours (genfun.py); each is held against the model by chkF. -/
import Derived.Test.YtnbglampelmgoaaGreatVpiSim
import Derived.Test.YtnbglampelmgoaaGreatProg
import Derived.KernelRfl
namespace Go.Proofs.YtnbglampelmgoaaGreat.VRn
open Go Vpi
set_option maxRecDepth 100000

/-- trammel/trammellaw23.RelateNames -/
def f3 : RFun := ⟨(.seq (.reg [⟨(some 0), none, none, .mv (.c (.p (.bool false)))⟩] none)
  (.seq (.reg [⟨(some 7), none, none, .call .pu 5 [.c (.p (.int .i64 5))]⟩,
    ⟨(some 8), none, none, .bslice 2 [.t 7]⟩,
    ⟨(some 9), none, none, .build [.p (.int .i64 0), .p (.int .i64 0), .p (.bool false)] [(0, 1, .c (.p (.int .i64 1))), (1, 1, .c (.p (.int .i64 10)))]⟩,
    ⟨(some 10), none, none, .call .fz 4 [.t 8, .t 9]⟩,
    ⟨(some 6), none, none, .mv (.t 10)⟩,
    ⟨(some 11), none, none, .extract (.t 6) 0⟩,
    ⟨(some 12), none, none, .extract (.t 6) 1⟩,
    ⟨(some 13), none, none, .extract (.t 6) 2⟩,
    ⟨(some 2), none, none, .alloc [.p (.bool false), .nils]⟩,
    ⟨(some 1), none, none, .mv (.t 11)⟩,
    ⟨none, none, none, .store 2 (.t 2) (.t 12)⟩,
    ⟨(some 3), none, none, .mv (.t 13)⟩] none)
  (.seq (.reg [⟨(some 15), none, none, .call .pu 5 [.c (.p (.int .i64 1))]⟩,
    ⟨(some 16), none, none, .call .pu 5 [.c (.p (.int .i64 2))]⟩,
    ⟨(some 17), none, none, .build [.p (.bool false), .nils, .p (.bool false), .nils] [(0, 2, .t 15), (2, 2, .t 16)]⟩,
    ⟨(some 18), none, none, .bslice 4 [.t 17]⟩,
    ⟨(some 19), none, none, .build [.p (.bool false), .nils] []⟩,
    ⟨(some 20), none, none, .call .fz 6 [.t 18, .t 19]⟩,
    ⟨(some 14), none, none, .mv (.t 20)⟩,
    ⟨(some 21), none, none, .extract (.t 14) 0⟩,
    ⟨(some 22), none, none, .extract (.t 14) 1⟩,
    ⟨(some 4), none, none, .mv (.t 21)⟩,
    ⟨(some 5), none, none, .mv (.t 22)⟩] none)
  (.seq (.reg [⟨(some 23), none, none, .mv (.t 3)⟩,
    ⟨(some 24), none, none, .bin .eql (.t 23) (.c (.p (.int .i64 6)))⟩,
    ⟨(some 25), none, none, .mv (.t 24)⟩,
    ⟨(some 26), (some (25, true)), none, .mv (.t 5)⟩,
    ⟨(some 27), (some (25, true)), none, .bin .eql (.t 26) (.c (.p (.int .i64 230)))⟩,
    ⟨(some 28), none, none, .pick (.t 25) (.t 27) (.c (.p (.bool false)))⟩,
    ⟨(some 29), none, none, .mv (.t 28)⟩,
    ⟨(some 30), none, none, .pick (.t 29) (.c (.p (.bool true))) (.c (.p (.bool false)))⟩,
    ⟨(some 0), none, none, .mv (.t 30)⟩] none)
  .ret)))),
  [.t 0]⟩

theorem c3 : chkF Tryz.prog 3 f3 = true := by kernel_rfl

/-- trammel/relate.Shortest -/
def f4 : RFun := ⟨(.seq (.reg [⟨(some 3), none, none, .box (.t 1)⟩,
    ⟨(some 4), none, none, .mv (.c (.nils))⟩,
    ⟨(some 5), none, none, .alloc [.p (.bool false), .nils]⟩,
    ⟨(some 6), none, none, .mv (.c (.p (.int .i64 0)))⟩] none)
  (.seq (.reg [⟨(some 11), none, none, .mv (.t 0)⟩,
    ⟨(some 12), none, none, .call .pu 7 [.t 11]⟩,
    ⟨(some 10), none, none, .mv (.t 12)⟩,
    ⟨(some 13), none, none, .extract (.t 10) 0⟩,
    ⟨(some 14), none, none, .extract (.t 10) 1⟩,
    ⟨(some 7), none, none, .mv (.t 13)⟩,
    ⟨(some 8), none, none, .mv (.t 14)⟩] none)
  (.seq (.seq (.reg [⟨(some 15), none, none, .mv (.t 8)⟩,
    ⟨(some 16), none, none, .bin .neq (.t 15) (.c (.p (.int .i64 0)))⟩] none)
  (.fg [3, 5, 7, 8, 16] (.cond (.t 16)
    (.seq (.reg [⟨(some 17), none, none, .build [.p (.bool false), .nils] []⟩,
    ⟨(some 18), none, none, .mv (.t 8)⟩,
    ⟨(some 4), none, none, .mv (.c (.nils))⟩,
    ⟨none, none, none, .store 2 (.t 5) (.t 17)⟩,
    ⟨(some 6), none, none, .mv (.t 18)⟩] none)
    .ret)
    .skip)))
  (.seq (.seq (.reg [⟨(some 19), none, none, .load true 3 (.t 3)⟩,
    ⟨(some 20), none, none, .call .pu 8 [.t 19]⟩,
    ⟨(some 9), none, none, .mv (.t 20)⟩] none)
  (.seq (.reg [⟨(some 21), none, none, .mv (.t 9)⟩,
    ⟨(some 22), none, none, .bin .neq (.t 21) (.c (.p (.int .i64 0)))⟩] none)
  (.fg [3, 5, 7, 9, 22] (.cond (.t 22)
    (.seq (.reg [⟨(some 23), none, none, .build [.p (.bool false), .nils] []⟩,
    ⟨(some 24), none, none, .mv (.t 9)⟩,
    ⟨(some 4), none, none, .mv (.c (.nils))⟩,
    ⟨none, none, none, .store 2 (.t 5) (.t 23)⟩,
    ⟨(some 6), none, none, .mv (.t 24)⟩] none)
    .ret)
    .skip))))
  (.seq (.seq (.reg [⟨(some 25), none, none, .mv (.t 7)⟩,
    ⟨(some 26), none, none, .len (.t 25)⟩,
    ⟨(some 27), none, none, .bin .eql (.t 26) (.c (.p (.int .i64 0)))⟩] none)
  (.fg [3, 5, 7, 27] (.cond (.t 27)
    (.seq (.reg [⟨(some 28), none, none, .build [.p (.bool false), .nils] []⟩,
    ⟨(some 4), none, none, .mv (.c (.nils))⟩,
    ⟨none, none, none, .store 2 (.t 5) (.t 28)⟩,
    ⟨(some 6), none, none, .mv (.c (.p (.int .i64 6)))⟩] none)
    .ret)
    .skip)))
  (.seq (.reg [⟨(some 29), none, none, .mv (.t 7)⟩,
    ⟨(some 30), none, none, .load true 3 (.t 3)⟩,
    ⟨(some 31), none, none, .call .pu 9 [.t 29, .t 30]⟩,
    ⟨(some 32), none, none, .extract (.t 31) 0⟩,
    ⟨(some 33), none, none, .extract (.t 31) 1⟩,
    ⟨(some 34), none, none, .extract (.t 31) 2⟩,
    ⟨(some 4), none, none, .mv (.t 32)⟩,
    ⟨none, none, none, .store 2 (.t 5) (.t 33)⟩,
    ⟨(some 6), none, none, .mv (.t 34)⟩] none)
  .ret)))))),
  [.t 4, .cell 5 true 2, .t 6]⟩

theorem c4 : chkF Tryz.prog 4 f4 = true := by kernel_rfl

/-- trammel/trammellaw23.n -/
def f5 : RFun := ⟨(.seq (.reg [⟨(some 2), none, none, .alloc [.p (.bool false), .nils]⟩] none)
  (.seq (.reg [⟨(some 3), none, none, .mv (.t 0)⟩,
    ⟨(some 4), none, none, .call .pu 10 [.t 3]⟩,
    ⟨none, none, none, .store 2 (.t 2) (.t 4)⟩] none)
  .ret)),
  [.cell 2 true 2]⟩

theorem c5 : chkF Tryz.prog 5 f5 = true := by kernel_rfl

/-- trammel/relate.Rows -/
def f6 : RFun := ⟨(.seq (.reg [⟨(some 3), none, none, .box (.t 1)⟩,
    ⟨(some 4), none, none, .mv (.c (.nils))⟩,
    ⟨(some 5), none, none, .mv (.c (.p (.int .i64 0)))⟩] none)
  (.seq (.reg [⟨(some 13), none, none, .mv (.t 0)⟩,
    ⟨(some 14), none, none, .call .pu 11 [.t 13]⟩,
    ⟨(some 6), none, none, .mv (.t 14)⟩] none)
  (.seq (.block 0
  (.seq (.reg [⟨(some 16), none, none, .mv (.t 6)⟩,
    ⟨(some 17), none, none, .bin .neq (.t 16) (.c (.p (.int .i64 0)))⟩,
    ⟨(some 15), none, none, .mv (.t 17)⟩] none)
    (.fg [0, 3, 6, 15] (.cond (.t 15)
      (.seq (.reg [⟨(some 18), none, none, .mv (.t 6)⟩,
    ⟨(some 4), none, none, .mv (.c (.nils))⟩,
    ⟨(some 5), none, none, .mv (.t 18)⟩] none)
      .ret)
      (.seq (.reg [⟨(some 20), none, none, .mv (.t 0)⟩,
    ⟨(some 21), none, none, .len (.t 20)⟩,
    ⟨(some 22), none, none, .bin .eql (.t 21) (.c (.p (.int .i64 0)))⟩,
    ⟨(some 19), none, none, .mv (.t 22)⟩] none)
      (.fg [0, 3, 19] (.cond (.t 19)
        (.seq (.reg [⟨(some 4), none, none, .mv (.c (.nils))⟩,
    ⟨(some 5), none, none, .mv (.c (.p (.int .i64 41)))⟩] none)
        .ret)
        (.seq (.reg [⟨(some 24), none, none, .mv (.t 0)⟩,
    ⟨(some 25), none, none, .len (.t 24)⟩,
    ⟨(some 26), none, none, .bin .geq (.t 25) (.c (.p (.int .i64 12)))⟩,
    ⟨(some 23), none, none, .mv (.t 26)⟩] none)
        (.fg [0, 3, 23] (.cond (.t 23)
          (.seq (.reg [⟨(some 4), none, none, .mv (.c (.nils))⟩,
    ⟨(some 5), none, none, .mv (.c (.p (.int .i64 40)))⟩] none)
          .ret)
          (.seq (.reg [⟨(some 28), none, none, .load true 2 (.t 3)⟩,
    ⟨(some 29), none, none, .call .fz 12 [.t 28]⟩,
    ⟨(some 30), none, none, .bin .leq (.t 29) (.c (.p (.int .i64 0)))⟩,
    ⟨(some 27), none, none, .mv (.t 30)⟩] none)
          (.fg [0, 3, 27] (.cond (.t 27)
            (.seq (.reg [⟨(some 4), none, none, .mv (.c (.nils))⟩,
    ⟨(some 5), none, none, .mv (.c (.p (.int .i64 230)))⟩] none)
            .ret)
            .skip)))))))))))))
  (.fg [0, 3] (.seq (.reg [⟨(some 32), none, none, .mv (.t 0)⟩,
    ⟨(some 33), none, none, .call .pu 13 [.t 32]⟩,
    ⟨(some 31), none, none, .mv (.t 33)⟩,
    ⟨(some 34), none, none, .extract (.t 31) 0⟩,
    ⟨(some 35), none, none, .extract (.t 31) 1⟩,
    ⟨(some 7), none, none, .alloc [.p (.bool false), .nils]⟩,
    ⟨none, none, none, .store 2 (.t 7) (.t 34)⟩,
    ⟨(some 8), none, none, .mv (.t 35)⟩] none)
  (.seq (.reg [⟨(some 36), none, none, .mv (.t 0)⟩,
    ⟨(some 37), none, none, .len (.t 36)⟩,
    ⟨(some 9), none, none, .mv (.t 37)⟩] none)
  (.seq (.reg [⟨(some 38), none, none, .mv (.t 9)⟩,
    ⟨(some 39), none, none, .bin .add (.t 38) (.c (.p (.int .i64 1)))⟩,
    ⟨(some 40), none, none, .mks true 1 24 (.sl []) (.t 39) (.t 39)⟩,
    ⟨(some 10), none, none, .mv (.t 40)⟩] none)
  (.seq (.seq (.reg [⟨(some 41), none, none, .mv (.t 10)⟩,
    ⟨(some 42), none, none, .len (.t 41)⟩,
    ⟨(some 43), none, none, .mv (.c (.p (.int .i64 0)))⟩] none)
  (.fg [3, 7, 8, 9, 10, 42, 43] (.block 1
  (.loop (.fg [3, 7, 8, 9, 10, 42, 43]
    (.seq (.reg [⟨(some 44), none, none, .bin .lss (.t 43) (.t 42)⟩] none)
      (.seq (.cond (.t 44)
        .skip
        (.exit 1))
      (.fg [3, 7, 8, 9, 10, 42, 43] (.seq (.block 2
      (.seq (.reg [⟨(some 45), none, none, .mv (.t 43)⟩,
    ⟨(some 11), none, none, .mv (.t 45)⟩] none)
        (.reg [⟨(some 46), none, none, .mv (.t 10)⟩,
    ⟨(some 47), none, none, .mv (.t 11)⟩,
    ⟨(some 48), none, none, .mv (.t 9)⟩,
    ⟨(some 49), none, none, .bin .add (.t 48) (.c (.p (.int .i64 1)))⟩,
    ⟨(some 50), none, none, .mks false 2 32 (.agg [.bool false, .sl []]) (.t 49) (.t 49)⟩,
    ⟨(some 51), none, none, .indexA 1 (.t 46) (.t 47)⟩,
    ⟨none, none, none, .store 1 (.t 51) (.t 50)⟩] none)))
      (.fg [3, 7, 8, 9, 10, 42, 43] (.reg [⟨(some 52), none, none, .bin .add (.t 43) (.c (.p (.int .i64 1)))⟩,
    ⟨(some 43), none, none, .mv (.t 52)⟩] none)))))))))))
  (.seq (.seq (.reg [⟨(some 53), none, none, .mv (.t 9)⟩,
    ⟨(some 54), none, none, .mv (.c (.p (.int .i64 0)))⟩] none)
  (.fg [3, 7, 8, 9, 10, 53, 54] (.block 3
  (.loop (.fg [3, 7, 8, 9, 10, 53, 54]
    (.seq (.reg [⟨(some 55), none, none, .bin .lss (.t 54) (.t 53)⟩] none)
      (.seq (.cond (.t 55)
        .skip
        (.exit 3))
      (.fg [3, 7, 8, 9, 10, 53, 54] (.seq (.block 4
      (.seq (.reg [⟨(some 56), none, none, .mv (.t 54)⟩,
    ⟨(some 12), none, none, .mv (.t 56)⟩] none)
        (.reg [⟨(some 57), none, none, .mv (.t 10)⟩,
    ⟨(some 58), none, none, .mv (.t 12)⟩,
    ⟨(some 59), none, none, .indexA 1 (.t 57) (.t 58)⟩,
    ⟨(some 60), none, none, .load false 1 (.t 59)⟩,
    ⟨(some 61), none, none, .mv (.t 12)⟩,
    ⟨(some 62), none, none, .load true 2 (.t 3)⟩,
    ⟨(some 63), none, none, .load true 2 (.t 7)⟩,
    ⟨(some 64), none, none, .call .fz 14 [.t 62, .t 63]⟩,
    ⟨(some 65), none, none, .indexA 2 (.t 60) (.t 61)⟩,
    ⟨none, none, none, .store 2 (.t 65) (.t 64)⟩] (some (0, [(2, 7), (3, 7)])))))
      (.fg [3, 7, 8, 9, 10, 53, 54] (.reg [⟨(some 66), none, none, .bin .add (.t 54) (.c (.p (.int .i64 1)))⟩,
    ⟨(some 54), none, none, .mv (.t 66)⟩] none)))))))))))
  (.seq (.reg [⟨(some 67), none, none, .mv (.t 10)⟩,
    ⟨(some 68), none, none, .mv (.t 9)⟩,
    ⟨(some 69), none, none, .indexA 1 (.t 67) (.t 68)⟩,
    ⟨(some 70), none, none, .load false 1 (.t 69)⟩,
    ⟨(some 71), none, none, .load true 2 (.t 3)⟩,
    ⟨(some 72), none, none, .mv (.t 8)⟩,
    ⟨(some 73), none, none, .call .fz 15 [.t 71, .t 72]⟩,
    ⟨(some 74), none, none, .copy 2 (.t 70) (.t 73)⟩] (some (0, [(2, 6), (3, 6)])))
  (.seq (.reg [⟨(some 75), none, none, .mv (.t 10)⟩,
    ⟨(some 76), none, none, .mv (.t 9)⟩,
    ⟨(some 77), none, none, .indexA 1 (.t 75) (.t 76)⟩,
    ⟨(some 78), none, none, .load false 1 (.t 77)⟩,
    ⟨(some 79), none, none, .mv (.t 9)⟩,
    ⟨(some 80), none, none, .call .pu 16 [.c (.p (.int .i64 1))]⟩,
    ⟨(some 81), none, none, .indexA 2 (.t 78) (.t 79)⟩,
    ⟨none, none, none, .store 2 (.t 81) (.t 80)⟩] (some (0, [])))
  (.seq (.reg [⟨(some 82), none, none, .mv (.t 10)⟩,
    ⟨(some 4), none, none, .mv (.t 82)⟩,
    ⟨(some 5), none, none, .mv (.c (.p (.int .i64 0)))⟩] none)
  .ret)))))))))))),
  [.t 4, .t 5]⟩

theorem c6 : chkF Tryz.prog 6 f6 = true := by kernel_rfl

/-- trammel/relate.Space -/
def f7 : RFun := ⟨(.seq (.reg [⟨(some 2), none, none, .mv (.c (.nils))⟩,
    ⟨(some 3), none, none, .mv (.c (.p (.int .i64 0)))⟩] none)
  (.seq (.seq (.reg [⟨(some 6), none, none, .mv (.t 0)⟩,
    ⟨(some 7), none, none, .len (.t 6)⟩,
    ⟨(some 8), none, none, .bin .gtr (.t 7) (.c (.p (.int .i64 12)))⟩,
    ⟨(some 9), none, none, .mv (.t 8)⟩,
    ⟨(some 10), (some (9, false)), none, .mv (.t 0)⟩,
    ⟨(some 11), (some (9, false)), none, .bslice 1 [.t 10]⟩,
    ⟨(some 12), (some (9, false)), none, .call .fz 17 [.t 11]⟩,
    ⟨(some 13), (some (9, false)), none, .bin .gtr (.t 12) (.c (.p (.int .i64 256)))⟩,
    ⟨(some 14), none, none, .pick (.t 9) (.c (.p (.bool true))) (.t 13)⟩] none)
  (.fg [0, 14] (.cond (.t 14)
    (.seq (.reg [⟨(some 2), none, none, .mv (.c (.nils))⟩,
    ⟨(some 3), none, none, .mv (.c (.p (.int .i64 40)))⟩] none)
    .ret)
    .skip)))
  (.seq (.seq (.reg [⟨(some 15), none, none, .mv (.t 0)⟩,
    ⟨(some 16), none, none, .len (.t 15)⟩,
    ⟨(some 17), none, none, .bin .eql (.t 16) (.c (.p (.int .i64 0)))⟩] none)
  (.fg [0, 17] (.cond (.t 17)
    (.seq (.reg [⟨(some 2), none, none, .mv (.c (.nils))⟩,
    ⟨(some 3), none, none, .mv (.c (.p (.int .i64 41)))⟩] none)
    .ret)
    .skip)))
  (.seq (.reg [⟨(some 18), none, none, .mv (.t 0)⟩,
    ⟨(some 19), none, none, .len (.t 18)⟩,
    ⟨(some 20), none, none, .mks false 1 24 (.sl []) (.t 19) (.t 19)⟩,
    ⟨(some 4), none, none, .mv (.t 20)⟩] none)
  (.seq (.seq (.reg [⟨(some 21), none, none, .mv (.t 0)⟩,
    ⟨(some 22), none, none, .len (.t 21)⟩,
    ⟨(some 23), none, none, .mv (.c (.p (.int .i64 0)))⟩] none)
  (.fg [0, 4, 22, 23] (.block 0
  (.loop (.fg [0, 4, 22, 23]
    (.seq (.reg [⟨(some 24), none, none, .bin .lss (.t 23) (.t 22)⟩] none)
      (.seq (.cond (.t 24)
        .skip
        (.exit 0))
      (.fg [0, 4, 22, 23] (.seq (.block 1
      (.seq (.reg [⟨(some 25), none, none, .mv (.t 23)⟩,
    ⟨(some 5), none, none, .mv (.t 25)⟩] none)
        (.reg [⟨(some 26), none, none, .mv (.t 4)⟩,
    ⟨(some 27), none, none, .mv (.t 5)⟩,
    ⟨(some 28), none, none, .mv (.t 0)⟩,
    ⟨(some 29), none, none, .mv (.t 5)⟩,
    ⟨(some 30), none, none, .indexA 2 (.t 28) (.t 29)⟩,
    ⟨(some 31), none, none, .load true 2 (.t 30)⟩,
    ⟨(some 32), none, none, .bslice 2 [.t 31]⟩,
    ⟨(some 33), none, none, .indexA 1 (.t 26) (.t 27)⟩,
    ⟨none, none, none, .store 1 (.t 33) (.t 32)⟩] none)))
      (.fg [0, 4, 22, 23] (.reg [⟨(some 34), none, none, .bin .add (.t 23) (.c (.p (.int .i64 1)))⟩,
    ⟨(some 23), none, none, .mv (.t 34)⟩] none)))))))))))
  (.seq (.reg [⟨(some 35), none, none, .mv (.t 4)⟩,
    ⟨(some 36), none, none, .call .fz 18 [.t 35]⟩,
    ⟨(some 37), none, none, .extract (.t 36) 0⟩,
    ⟨(some 38), none, none, .extract (.t 36) 1⟩,
    ⟨(some 2), none, none, .mv (.t 37)⟩,
    ⟨(some 3), none, none, .mv (.t 38)⟩] none)
  .ret)))))),
  [.t 2, .t 3]⟩

theorem c7 : chkF Tryz.prog 7 f7 = true := by kernel_rfl

/-- trammel/pool.Valid -/
def f8 : RFun := ⟨(.seq (.reg [⟨(some 1), none, none, .box (.t 0)⟩,
    ⟨(some 2), none, none, .mv (.c (.p (.int .i64 0)))⟩] none)
  (.seq (.seq (.reg [⟨(some 3), none, none, .fieldA 0 (.t 1)⟩,
    ⟨(some 4), none, none, .load false 1 (.t 3)⟩,
    ⟨(some 5), none, none, .bin .lss (.t 4) (.c (.p (.int .i64 1)))⟩,
    ⟨(some 6), none, none, .mv (.t 5)⟩,
    ⟨(some 7), (some (6, false)), none, .fieldA 0 (.t 1)⟩,
    ⟨(some 8), (some (6, false)), none, .load false 1 (.t 7)⟩,
    ⟨(some 9), (some (6, false)), none, .bin .gtr (.t 8) (.c (.p (.int .i64 64)))⟩,
    ⟨(some 10), none, none, .pick (.t 6) (.c (.p (.bool true))) (.t 9)⟩,
    ⟨(some 11), none, none, .mv (.t 10)⟩,
    ⟨(some 12), (some (11, false)), none, .fieldA 1 (.t 1)⟩,
    ⟨(some 13), (some (11, false)), none, .load false 1 (.t 12)⟩,
    ⟨(some 14), (some (11, false)), none, .bin .lss (.t 13) (.c (.p (.int .i64 1)))⟩,
    ⟨(some 15), none, none, .pick (.t 11) (.c (.p (.bool true))) (.t 14)⟩,
    ⟨(some 16), none, none, .mv (.t 15)⟩,
    ⟨(some 17), (some (16, false)), none, .fieldA 1 (.t 1)⟩,
    ⟨(some 18), (some (16, false)), none, .load false 1 (.t 17)⟩,
    ⟨(some 19), (some (16, false)), none, .bin .gtr (.t 18) (.c (.p (.int .i64 1048576)))⟩,
    ⟨(some 20), none, none, .pick (.t 16) (.c (.p (.bool true))) (.t 19)⟩] none)
  (.fg [20] (.cond (.t 20)
    (.seq (.reg [⟨(some 2), none, none, .mv (.c (.p (.int .i64 150)))⟩] none)
    .ret)
    .skip)))
  (.seq (.reg [⟨(some 2), none, none, .mv (.c (.p (.int .i64 0)))⟩] none)
  .ret))),
  [.t 2]⟩

theorem c8 : chkF Tryz.prog 8 f8 = true := by kernel_rfl

/-- trammel/trammelref02.Of -/
def f10 : RFun := ⟨(.seq (.reg [⟨(some 2), none, none, .alloc [.p (.bool false), .nils]⟩] none)
  (.seq (.reg [⟨(some 4), none, none, .mv (.t 0)⟩,
    ⟨(some 5), none, none, .conv .u64 (.t 4)⟩,
    ⟨(some 3), none, none, .mv (.t 5)⟩] none)
  (.seq (.seq (.reg [⟨(some 6), none, none, .mv (.t 0)⟩,
    ⟨(some 7), none, none, .bin .lss (.t 6) (.c (.p (.int .i64 0)))⟩] none)
  (.fg [0, 2, 3, 7] (.cond (.t 7)
    (.reg [⟨(some 8), none, none, .mv (.t 3)⟩,
    ⟨(some 9), none, none, .un .neg (.t 8)⟩,
    ⟨(some 3), none, none, .mv (.t 9)⟩] none)
    .skip)))
  (.seq (.reg [⟨(some 10), none, none, .mv (.t 0)⟩,
    ⟨(some 11), none, none, .bin .lss (.t 10) (.c (.p (.int .i64 0)))⟩,
    ⟨(some 12), none, none, .mv (.t 3)⟩,
    ⟨(some 13), none, none, .conv .u32 (.t 12)⟩,
    ⟨(some 14), none, none, .mv (.t 3)⟩,
    ⟨(some 15), none, none, .bin .shr (.t 14) (.c (.p (.int .u64 32)))⟩,
    ⟨(some 16), none, none, .conv .u32 (.t 15)⟩,
    ⟨(some 17), none, none, .bslice 1 [.t 13, .t 16]⟩,
    ⟨(some 18), none, none, .call .fz 20 [.t 11, .t 17]⟩,
    ⟨none, none, none, .store 2 (.t 2) (.t 18)⟩] none)
  .ret)))),
  [.cell 2 true 2]⟩

theorem c10 : chkF Tryz.prog 10 f10 = true := by kernel_rfl

/-- trammel/relate.valid -/
def f11 : RFun := ⟨(.seq (.reg [⟨(some 2), none, none, .mv (.c (.p (.int .i64 0)))⟩] none)
  (.seq (.seq (.reg [⟨(some 5), none, none, .mv (.t 0)⟩,
    ⟨(some 6), none, none, .len (.t 5)⟩,
    ⟨(some 7), none, none, .mv (.c (.p (.int .i64 0)))⟩] none)
  (.fg [5, 6, 7] (.block 0
  (.loop (.fg [5, 6, 7]
    (.seq (.reg [⟨(some 8), none, none, .bin .lss (.t 7) (.t 6)⟩] none)
      (.seq (.cond (.t 8)
        .skip
        (.exit 0))
      (.fg [5, 6, 7] (.seq (.block 1
      (.seq (.reg [⟨(some 9), none, none, .indexA 4 (.t 5) (.t 7)⟩,
    ⟨(some 10), none, none, .load true 4 (.t 9)⟩,
    ⟨(some 4), none, none, .alloc [.p (.bool false), .nils, .p (.bool false), .nils]⟩,
    ⟨none, none, none, .store 4 (.t 4) (.t 10)⟩] none)
        (.seq (.reg [⟨(some 11), none, none, .fieldA 2 (.t 4)⟩,
    ⟨(some 12), none, none, .load true 2 (.t 11)⟩,
    ⟨(some 13), none, none, .call .pu 12 [.t 12]⟩,
    ⟨(some 14), none, none, .bin .leq (.t 13) (.c (.p (.int .i64 0)))⟩] none)
        (.fg [5, 6, 7, 14] (.cond (.t 14)
          (.seq (.reg [⟨(some 2), none, none, .mv (.c (.p (.int .i64 30)))⟩] none)
          .ret)
          .skip)))))
      (.fg [5, 6, 7] (.reg [⟨(some 15), none, none, .bin .add (.t 7) (.c (.p (.int .i64 1)))⟩,
    ⟨(some 7), none, none, .mv (.t 15)⟩] none)))))))))))
  (.seq (.reg [⟨(some 2), none, none, .mv (.c (.p (.int .i64 0)))⟩] none)
  .ret))),
  [.t 2]⟩

theorem c11 : chkF Tryz.prog 11 f11 = true := by kernel_rfl

/-- trammel/zint.Sign -/
def f12 : RFun := ⟨(.seq (.reg [⟨(some 1), none, none, .box (.t 0)⟩,
    ⟨(some 2), none, none, .mv (.c (.p (.int .i64 0)))⟩] none)
  (.seq (.block 0
  (.seq (.reg [⟨(some 4), none, none, .fieldA 1 (.t 1)⟩,
    ⟨(some 5), none, none, .load false 1 (.t 4)⟩,
    ⟨(some 6), none, none, .call .pu 21 [.t 5]⟩,
    ⟨(some 7), none, none, .bin .eql (.t 6) (.c (.p (.int .i64 0)))⟩,
    ⟨(some 3), none, none, .mv (.t 7)⟩] none)
    (.fg [1, 3] (.cond (.t 3)
      (.seq (.reg [⟨(some 2), none, none, .mv (.c (.p (.int .i64 0)))⟩] none)
      .ret)
      (.seq (.reg [⟨(some 9), none, none, .fieldA 0 (.t 1)⟩,
    ⟨(some 10), none, none, .load false 1 (.t 9)⟩,
    ⟨(some 8), none, none, .mv (.t 10)⟩] none)
      (.fg [8] (.cond (.t 8)
        (.seq (.reg [⟨(some 2), none, none, .mv (.c (.p (.int .i64 (-1))))⟩] none)
        .ret)
        .skip)))))))
  (.fg [] (.seq (.reg [⟨(some 2), none, none, .mv (.c (.p (.int .i64 1)))⟩] none)
  .ret)))),
  [.t 2]⟩

theorem c12 : chkF Tryz.prog 12 f12 = true := by kernel_rfl

/-- trammel/relate.spread -/
def f13 : RFun := ⟨(.seq (.reg [⟨(some 2), none, none, .alloc [.p (.bool false), .nils]⟩,
    ⟨(some 3), none, none, .mv (.c (.nils))⟩] none)
  (.seq (.reg [⟨(some 4), none, none, .mv (.c (.nils))⟩] none)
  (.seq (.seq (.reg [⟨(some 13), none, none, .mv (.t 0)⟩,
    ⟨(some 14), none, none, .len (.t 13)⟩,
    ⟨(some 15), none, none, .mv (.c (.p (.int .i64 0)))⟩] none)
  (.fg [0, 2, 4, 13, 14, 15] (.block 0
  (.loop (.fg [0, 2, 4, 13, 14, 15]
    (.seq (.reg [⟨(some 16), none, none, .bin .lss (.t 15) (.t 14)⟩] none)
      (.seq (.cond (.t 16)
        .skip
        (.exit 0))
      (.fg [0, 2, 4, 13, 14, 15] (.seq (.block 1
      (.seq (.reg [⟨(some 17), none, none, .indexA 4 (.t 13) (.t 15)⟩,
    ⟨(some 18), none, none, .load true 4 (.t 17)⟩,
    ⟨(some 6), none, none, .alloc [.p (.bool false), .nils, .p (.bool false), .nils]⟩,
    ⟨none, none, none, .store 4 (.t 6) (.t 18)⟩] none)
        (.seq (.reg [⟨(some 20), none, none, .load true 4 (.t 6)⟩,
    ⟨(some 21), none, none, .call .pu 16 [.c (.p (.int .i64 0))]⟩,
    ⟨(some 22), none, none, .call .pu 23 [.t 21]⟩,
    ⟨(some 23), none, none, .call .pu 22 [.t 20, .t 22]⟩,
    ⟨(some 19), none, none, .mv (.t 23)⟩,
    ⟨(some 24), none, none, .extract (.t 19) 0⟩,
    ⟨(some 25), none, none, .extract (.t 19) 1⟩,
    ⟨(some 7), none, (some 0), .alloc [.p (.bool false), .nils, .p (.bool false), .nils]⟩,
    ⟨none, none, none, .store 4 (.t 7) (.t 24)⟩,
    ⟨(some 8), none, none, .mv (.t 25)⟩] (some (1, [])))
        (.reg [⟨(some 26), none, none, .mv (.t 4)⟩,
    ⟨(some 27), none, none, .fieldA 2 (.t 7)⟩,
    ⟨(some 28), none, none, .load true 2 (.t 27)⟩,
    ⟨(some 29), none, none, .bslice 2 [.t 28]⟩,
    ⟨(some 30), none, none, .append 2 32 (.t 26) (.t 29)⟩,
    ⟨(some 4), none, none, .mv (.t 30)⟩] none))))
      (.fg [0, 2, 4, 13, 14, 15] (.reg [⟨(some 31), none, none, .bin .add (.t 15) (.c (.p (.int .i64 1)))⟩,
    ⟨(some 15), none, none, .mv (.t 31)⟩] none)))))))))))
  (.seq (.reg [⟨(some 32), none, none, .mv (.t 4)⟩,
    ⟨(some 33), none, none, .call .fz 24 [.t 32]⟩,
    ⟨(some 9), none, none, .alloc [.p (.bool false), .nils]⟩,
    ⟨none, none, none, .store 2 (.t 9) (.t 33)⟩] none)
  (.seq (.reg [⟨(some 34), none, none, .mv (.t 0)⟩,
    ⟨(some 35), none, none, .len (.t 34)⟩,
    ⟨(some 36), none, none, .mks false 2 32 (.agg [.bool false, .sl []]) (.t 35) (.t 35)⟩,
    ⟨(some 10), none, none, .mv (.t 36)⟩] none)
  (.seq (.seq (.reg [⟨(some 37), none, none, .mv (.t 0)⟩,
    ⟨(some 38), none, none, .len (.t 37)⟩,
    ⟨(some 39), none, none, .mv (.c (.p (.int .i64 0)))⟩] none)
  (.fg [2, 9, 10, 37, 38, 39] (.block 2
  (.loop (.fg [2, 9, 10, 37, 38, 39]
    (.seq (.reg [⟨(some 40), none, none, .bin .lss (.t 39) (.t 38)⟩] none)
      (.seq (.cond (.t 40)
        .skip
        (.exit 2))
      (.fg [2, 9, 10, 37, 38, 39] (.seq (.block 3
      (.seq (.reg [⟨(some 41), none, none, .mv (.t 39)⟩,
    ⟨(some 42), none, none, .indexA 4 (.t 37) (.t 39)⟩,
    ⟨(some 43), none, none, .load true 4 (.t 42)⟩,
    ⟨(some 12), none, none, .alloc [.p (.bool false), .nils, .p (.bool false), .nils]⟩,
    ⟨(some 11), none, none, .mv (.t 41)⟩,
    ⟨none, none, none, .store 4 (.t 12) (.t 43)⟩] none)
        (.reg [⟨(some 45), none, none, .mv (.t 10)⟩,
    ⟨(some 46), none, none, .mv (.t 11)⟩,
    ⟨(some 47), none, none, .fieldA 0 (.t 12)⟩,
    ⟨(some 48), none, none, .load true 2 (.t 47)⟩,
    ⟨(some 49), none, none, .load true 2 (.t 9)⟩,
    ⟨(some 50), none, none, .call .pu 14 [.t 48, .t 49]⟩,
    ⟨(some 51), none, none, .fieldA 2 (.t 12)⟩,
    ⟨(some 52), none, none, .load true 2 (.t 51)⟩,
    ⟨(some 53), none, none, .call .pu 25 [.t 50, .t 52]⟩,
    ⟨(some 44), none, none, .mv (.t 53)⟩,
    ⟨(some 54), none, none, .extract (.t 44) 0⟩,
    ⟨(some 55), none, none, .extract (.t 44) 1⟩,
    ⟨(some 56), none, none, .indexA 2 (.t 45) (.t 46)⟩,
    ⟨none, none, none, .store 2 (.t 56) (.t 54)⟩] (some (0, [])))))
      (.fg [2, 9, 10, 37, 38, 39] (.reg [⟨(some 57), none, none, .bin .add (.t 39) (.c (.p (.int .i64 1)))⟩,
    ⟨(some 39), none, none, .mv (.t 57)⟩] none)))))))))))
  (.seq (.reg [⟨(some 58), none, none, .load true 2 (.t 9)⟩,
    ⟨(some 59), none, none, .mv (.t 10)⟩,
    ⟨none, none, none, .store 2 (.t 2) (.t 58)⟩,
    ⟨(some 3), none, none, .mv (.t 59)⟩] none)
  .ret))))))),
  [.cell 2 true 2, .t 3]⟩

theorem c13 : chkF Tryz.prog 13 f13 = true := by kernel_rfl

/-- trammel/zint.Mul -/
def f14 : RFun := ⟨(.seq (.reg [⟨(some 2), none, none, .box (.t 0)⟩,
    ⟨(some 3), none, none, .box (.t 1)⟩,
    ⟨(some 4), none, none, .alloc [.p (.bool false), .nils]⟩] none)
  (.seq (.reg [⟨(some 5), none, none, .fieldA 0 (.t 2)⟩,
    ⟨(some 6), none, none, .load false 1 (.t 5)⟩,
    ⟨(some 7), none, none, .fieldA 0 (.t 3)⟩,
    ⟨(some 8), none, none, .load false 1 (.t 7)⟩,
    ⟨(some 9), none, none, .beq true (.t 6) (.t 8)⟩,
    ⟨(some 10), none, none, .fieldA 1 (.t 2)⟩,
    ⟨(some 11), none, none, .load false 1 (.t 10)⟩,
    ⟨(some 12), none, none, .fieldA 1 (.t 3)⟩,
    ⟨(some 13), none, none, .load false 1 (.t 12)⟩,
    ⟨(some 14), none, none, .call .pu 27 [.t 11, .t 13]⟩,
    ⟨(some 15), none, none, .call .pu 26 [.t 9, .t 14]⟩,
    ⟨none, none, none, .store 2 (.t 4) (.t 15)⟩] (some (0, [])))
  .ret)),
  [.cell 4 true 2]⟩

theorem c14 : chkF Tryz.prog 14 f14 = true := by kernel_rfl

/-- trammel/mat.Times -/
def f15 : RFun := ⟨(.seq (.reg [⟨(some 2), none, none, .box (.t 0)⟩,
    ⟨(some 4), none, none, .mv (.c (.nils))⟩] none)
  (.seq (.reg [⟨(some 5), none, none, .mv (.t 1)⟩,
    ⟨(some 6), none, none, .mkfn 29 [.t 2]⟩,
    ⟨(some 7), none, none, .call .full 28 [.t 5, .t 6]⟩,
    ⟨(some 4), none, none, .mv (.t 7)⟩] none)
  .ret)),
  [.t 4]⟩

theorem c15 : chkF Tryz.prog 15 f15 = true := by kernel_rfl

/-- trammel/zint.Of -/
def f16 : RFun := ⟨(.seq (.reg [⟨(some 2), none, none, .alloc [.p (.bool false), .nils]⟩] none)
  (.seq (.reg [⟨(some 4), none, none, .mv (.t 0)⟩,
    ⟨(some 5), none, none, .conv .u64 (.t 4)⟩,
    ⟨(some 3), none, none, .mv (.t 5)⟩] none)
  (.seq (.seq (.reg [⟨(some 6), none, none, .mv (.t 0)⟩,
    ⟨(some 7), none, none, .bin .lss (.t 6) (.c (.p (.int .i64 0)))⟩] none)
  (.fg [0, 2, 3, 7] (.cond (.t 7)
    (.reg [⟨(some 8), none, none, .mv (.t 3)⟩,
    ⟨(some 9), none, none, .un .neg (.t 8)⟩,
    ⟨(some 3), none, none, .mv (.t 9)⟩] none)
    .skip)))
  (.seq (.reg [⟨(some 10), none, none, .mv (.t 0)⟩,
    ⟨(some 11), none, none, .bin .lss (.t 10) (.c (.p (.int .i64 0)))⟩,
    ⟨(some 12), none, none, .mv (.t 3)⟩,
    ⟨(some 13), none, none, .conv .u32 (.t 12)⟩,
    ⟨(some 14), none, none, .mv (.t 3)⟩,
    ⟨(some 15), none, none, .bin .shr (.t 14) (.c (.p (.int .u64 32)))⟩,
    ⟨(some 16), none, none, .conv .u32 (.t 15)⟩,
    ⟨(some 17), none, none, .bslice 1 [.t 13, .t 16]⟩,
    ⟨(some 18), none, none, .call .fz 26 [.t 11, .t 17]⟩,
    ⟨none, none, none, .store 2 (.t 2) (.t 18)⟩] none)
  .ret)))),
  [.cell 2 true 2]⟩

theorem c16 : chkF Tryz.prog 16 f16 = true := by kernel_rfl

/-- trammel/mat.Bits -/
def f17 : RFun := ⟨(.seq (.reg [⟨(some 2), none, none, .mv (.c (.p (.int .i64 0)))⟩] none)
  (.seq (.reg [⟨(some 3), none, none, .mv (.c (.p (.int .i64 0)))⟩] none)
  (.seq (.seq (.reg [⟨(some 8), none, none, .mv (.t 0)⟩,
    ⟨(some 9), none, none, .len (.t 8)⟩,
    ⟨(some 10), none, none, .mv (.c (.p (.int .i64 0)))⟩] none)
  (.fg [3, 8, 9, 10] (.block 0
  (.loop (.fg [3, 8, 9, 10]
    (.seq (.reg [⟨(some 11), none, none, .bin .lss (.t 10) (.t 9)⟩] none)
      (.seq (.cond (.t 11)
        .skip
        (.exit 0))
      (.fg [3, 8, 9, 10] (.seq (.block 1
      (.seq (.reg [⟨(some 12), none, none, .indexA 1 (.t 8) (.t 10)⟩,
    ⟨(some 13), none, none, .load false 1 (.t 12)⟩,
    ⟨(some 5), none, none, .mv (.t 13)⟩] none)
        (.seq (.reg [⟨(some 14), none, none, .mv (.t 5)⟩,
    ⟨(some 15), none, none, .len (.t 14)⟩,
    ⟨(some 16), none, none, .mv (.c (.p (.int .i64 0)))⟩] none)
        (.fg [3, 8, 9, 10, 14, 15, 16] (.block 2
        (.loop (.fg [3, 8, 9, 10, 14, 15, 16]
          (.seq (.reg [⟨(some 17), none, none, .bin .lss (.t 16) (.t 15)⟩] none)
            (.seq (.cond (.t 17)
              .skip
              (.exit 2))
            (.fg [3, 8, 9, 10, 14, 15, 16] (.seq (.block 3
            (.seq (.reg [⟨(some 18), none, none, .indexA 2 (.t 14) (.t 16)⟩,
    ⟨(some 19), none, none, .load true 2 (.t 18)⟩,
    ⟨(some 7), none, none, .alloc [.p (.bool false), .nils]⟩,
    ⟨none, none, none, .store 2 (.t 7) (.t 19)⟩] none)
              (.reg [⟨(some 20), none, none, .mv (.t 3)⟩,
    ⟨(some 21), none, none, .load true 2 (.t 7)⟩,
    ⟨(some 22), none, none, .call .pu 30 [.t 21]⟩,
    ⟨(some 23), none, none, .mx (.t 20) (.t 22)⟩,
    ⟨(some 3), none, none, .mv (.t 23)⟩] none)))
            (.fg [3, 8, 9, 10, 14, 15, 16] (.reg [⟨(some 24), none, none, .bin .add (.t 16) (.c (.p (.int .i64 1)))⟩,
    ⟨(some 16), none, none, .mv (.t 24)⟩] none)))))))))))))
      (.fg [3, 8, 9, 10] (.reg [⟨(some 25), none, none, .bin .add (.t 10) (.c (.p (.int .i64 1)))⟩,
    ⟨(some 10), none, none, .mv (.t 25)⟩] none)))))))))))
  (.seq (.reg [⟨(some 26), none, none, .mv (.t 3)⟩,
    ⟨(some 2), none, none, .mv (.t 26)⟩] none)
  .ret)))),
  [.t 2]⟩

theorem c17 : chkF Tryz.prog 17 f17 = true := by kernel_rfl

/-- trammel/herm.Kernel -/
def f18 : RFun := ⟨(.seq (.reg [⟨(some 2), none, none, .mv (.c (.nils))⟩,
    ⟨(some 3), none, none, .mv (.c (.p (.int .i64 0)))⟩] none)
  (.seq (.reg [⟨(some 8), none, none, .mv (.t 0)⟩,
    ⟨(some 9), none, none, .call .pu 31 [.t 8]⟩,
    ⟨(some 7), none, none, .mv (.t 9)⟩,
    ⟨(some 10), none, none, .extract (.t 7) 0⟩,
    ⟨(some 11), none, none, .extract (.t 7) 1⟩,
    ⟨(some 12), none, none, .extract (.t 7) 2⟩,
    ⟨(some 4), none, none, .mv (.t 10)⟩,
    ⟨(some 5), none, none, .mv (.t 11)⟩,
    ⟨(some 6), none, none, .mv (.t 12)⟩] none)
  (.seq (.seq (.reg [⟨(some 13), none, none, .mv (.t 6)⟩,
    ⟨(some 14), none, none, .bin .neq (.t 13) (.c (.p (.int .i64 0)))⟩] none)
  (.fg [0, 5, 6, 14] (.cond (.t 14)
    (.seq (.reg [⟨(some 15), none, none, .mv (.t 6)⟩,
    ⟨(some 2), none, none, .mv (.c (.nils))⟩,
    ⟨(some 3), none, none, .mv (.t 15)⟩] none)
    .ret)
    .skip)))
  (.seq (.reg [⟨(some 16), none, none, .mv (.t 0)⟩,
    ⟨(some 17), none, none, .mv (.t 5)⟩,
    ⟨(some 18), none, none, .call .full 32 [.t 16, .t 17]⟩,
    ⟨(some 2), none, none, .mv (.t 18)⟩,
    ⟨(some 3), none, none, .mv (.c (.p (.int .i64 0)))⟩] none)
  .ret)))),
  [.t 2, .t 3]⟩

theorem c18 : chkF Tryz.prog 18 f18 = true := by kernel_rfl

/-- trammel/trammelref02.made -/
def f20 : RFun := ⟨(.seq (.reg [⟨(some 4), none, none, .alloc [.p (.bool false), .nils]⟩] none)
  (.seq (.reg [⟨(some 6), none, none, .mv (.t 1)⟩,
    ⟨(some 7), none, none, .call .pu 40 [.t 6]⟩,
    ⟨(some 5), none, none, .mv (.t 7)⟩] none)
  (.seq (.reg [⟨(some 8), none, none, .mv (.t 0)⟩,
    ⟨(some 9), none, none, .mv (.t 8)⟩,
    ⟨(some 10), (some (9, true)), none, .mv (.t 5)⟩,
    ⟨(some 11), (some (9, true)), none, .len (.t 10)⟩,
    ⟨(some 12), (some (9, true)), none, .bin .gtr (.t 11) (.c (.p (.int .i64 0)))⟩,
    ⟨(some 13), none, none, .pick (.t 9) (.t 12) (.c (.p (.bool false)))⟩,
    ⟨(some 14), none, none, .mv (.t 5)⟩,
    ⟨(some 15), none, none, .build [.p (.bool false), .nils] [(0, 1, .t 13), (1, 1, .t 14)]⟩,
    ⟨none, none, none, .store 2 (.t 4) (.t 15)⟩] none)
  .ret))),
  [.cell 4 true 2]⟩

theorem c20 : chkF Tryz.prog 20 f20 = true := by kernel_rfl

/-- trammel/nat.Bits -/
def f21 : RFun := ⟨(.seq (.reg [⟨(some 2), none, none, .mv (.c (.p (.int .i64 0)))⟩] none)
  (.seq (.reg [⟨(some 3), none, none, .mv (.t 0)⟩,
    ⟨(some 4), none, none, .call .pu 41 [.t 3]⟩,
    ⟨(some 0), none, none, .mv (.t 4)⟩] none)
  (.seq (.seq (.reg [⟨(some 5), none, none, .mv (.t 0)⟩,
    ⟨(some 6), none, none, .len (.t 5)⟩,
    ⟨(some 7), none, none, .bin .eql (.t 6) (.c (.p (.int .i64 0)))⟩] none)
  (.fg [0, 7] (.cond (.t 7)
    (.seq (.reg [⟨(some 2), none, none, .mv (.c (.p (.int .i64 0)))⟩] none)
    .ret)
    .skip)))
  (.seq (.reg [⟨(some 8), none, none, .mv (.t 0)⟩,
    ⟨(some 9), none, none, .len (.t 8)⟩,
    ⟨(some 10), none, none, .bin .sub (.t 9) (.c (.p (.int .i64 1)))⟩,
    ⟨(some 11), none, none, .bin .mul (.c (.p (.int .i64 32))) (.t 10)⟩,
    ⟨(some 12), none, none, .mv (.t 0)⟩,
    ⟨(some 13), none, none, .mv (.t 0)⟩,
    ⟨(some 14), none, none, .len (.t 13)⟩,
    ⟨(some 15), none, none, .bin .sub (.t 14) (.c (.p (.int .i64 1)))⟩,
    ⟨(some 16), none, none, .indexA 1 (.t 12) (.t 15)⟩,
    ⟨(some 17), none, none, .load false 1 (.t 16)⟩,
    ⟨(some 18), none, none, .call .pu 42 [.t 17]⟩,
    ⟨(some 19), none, none, .bin .add (.t 11) (.t 18)⟩,
    ⟨(some 2), none, none, .mv (.t 19)⟩] none)
  .ret)))),
  [.t 2]⟩

theorem c21 : chkF Tryz.prog 21 f21 = true := by kernel_rfl

/-- trammel/rat.Add -/
def f22 : RFun := ⟨(.seq (.reg [⟨(some 2), none, none, .box (.t 0)⟩,
    ⟨(some 3), none, none, .box (.t 1)⟩,
    ⟨(some 4), none, none, .alloc [.p (.bool false), .nils, .p (.bool false), .nils]⟩,
    ⟨(some 5), none, none, .mv (.c (.p (.int .i64 0)))⟩] none)
  (.seq (.reg [⟨(some 6), none, none, .load true 4 (.t 2)⟩,
    ⟨(some 7), none, none, .load true 4 (.t 3)⟩,
    ⟨(some 8), none, none, .mkfn 44 [.t 2, .t 3]⟩,
    ⟨(some 9), none, none, .call .pu 43 [.t 6, .t 7, .t 8]⟩,
    ⟨(some 10), none, none, .extract (.t 9) 0⟩,
    ⟨(some 11), none, none, .extract (.t 9) 1⟩,
    ⟨none, none, none, .store 4 (.t 4) (.t 10)⟩,
    ⟨(some 5), none, none, .mv (.t 11)⟩] none)
  .ret)),
  [.cell 4 true 4, .t 5]⟩

theorem c22 : chkF Tryz.prog 22 f22 = true := by kernel_rfl

/-- trammel/rat.Of -/
def f23 : RFun := ⟨(.seq (.reg [⟨(some 1), none, none, .box (.t 0)⟩,
    ⟨(some 2), none, none, .alloc [.p (.bool false), .nils, .p (.bool false), .nils]⟩] none)
  (.seq (.reg [⟨(some 3), none, none, .load true 2 (.t 1)⟩,
    ⟨(some 4), none, none, .call .pu 47 [.t 3]⟩,
    ⟨(some 5), none, none, .call .pu 16 [.c (.p (.int .i64 1))]⟩,
    ⟨(some 6), none, none, .build [.p (.bool false), .nils, .p (.bool false), .nils] [(0, 2, .t 4), (2, 2, .t 5)]⟩,
    ⟨none, none, none, .store 4 (.t 2) (.t 6)⟩] none)
  .ret)),
  [.cell 2 true 4]⟩

theorem c23 : chkF Tryz.prog 23 f23 = true := by kernel_rfl

/-- trammel/relate.common -/
def f24 : RFun := ⟨(.seq (.reg [⟨(some 2), none, none, .alloc [.p (.bool false), .nils]⟩] none)
  (.seq (.reg [⟨(some 8), none, none, .call .pu 16 [.c (.p (.int .i64 1))]⟩,
    ⟨(some 3), none, none, .alloc [.p (.bool false), .nils]⟩,
    ⟨none, none, none, .store 2 (.t 3) (.t 8)⟩] none)
  (.seq (.seq (.reg [⟨(some 9), none, none, .mv (.t 0)⟩,
    ⟨(some 10), none, none, .len (.t 9)⟩,
    ⟨(some 11), none, none, .mv (.c (.p (.int .i64 0)))⟩] none)
  (.fg [2, 3, 9, 10, 11] (.block 0
  (.loop (.fg [2, 3, 9, 10, 11]
    (.seq (.reg [⟨(some 12), none, none, .bin .lss (.t 11) (.t 10)⟩] none)
      (.seq (.cond (.t 12)
        .skip
        (.exit 0))
      (.fg [2, 3, 9, 10, 11] (.seq (.block 1
      (.seq (.reg [⟨(some 13), none, none, .indexA 2 (.t 9) (.t 11)⟩,
    ⟨(some 14), none, none, .load true 2 (.t 13)⟩,
    ⟨(some 5), none, none, .alloc [.p (.bool false), .nils]⟩,
    ⟨none, none, none, .store 2 (.t 5) (.t 14)⟩] none)
        (.seq (.reg [⟨(some 16), none, none, .load true 2 (.t 5)⟩,
    ⟨(some 17), none, none, .load true 2 (.t 5)⟩,
    ⟨(some 18), none, none, .load true 2 (.t 3)⟩,
    ⟨(some 19), none, none, .call .pu 48 [.t 17, .t 18]⟩,
    ⟨(some 20), none, none, .call .pu 25 [.t 16, .t 19]⟩,
    ⟨(some 15), none, none, .mv (.t 20)⟩,
    ⟨(some 21), none, none, .extract (.t 15) 0⟩,
    ⟨(some 22), none, none, .extract (.t 15) 1⟩,
    ⟨(some 6), none, (some 0), .alloc [.p (.bool false), .nils]⟩,
    ⟨none, none, none, .store 2 (.t 6) (.t 21)⟩,
    ⟨(some 7), none, none, .mv (.t 22)⟩] (some (1, [])))
        (.reg [⟨(some 23), none, none, .load true 2 (.t 3)⟩,
    ⟨(some 24), none, none, .load true 2 (.t 6)⟩,
    ⟨(some 25), none, none, .call .pu 14 [.t 23, .t 24]⟩,
    ⟨none, none, none, .store 2 (.t 3) (.t 25)⟩] none))))
      (.fg [2, 3, 9, 10, 11] (.reg [⟨(some 26), none, none, .bin .add (.t 11) (.c (.p (.int .i64 1)))⟩,
    ⟨(some 11), none, none, .mv (.t 26)⟩] none)))))))))))
  (.seq (.reg [⟨(some 27), none, none, .load true 2 (.t 3)⟩,
    ⟨none, none, none, .store 2 (.t 2) (.t 27)⟩] none)
  .ret)))),
  [.cell 2 true 2]⟩

theorem c24 : chkF Tryz.prog 24 f24 = true := by kernel_rfl

/-- trammel/zint.Exact -/
def f25 : RFun := ⟨(.seq (.reg [⟨(some 2), none, none, .box (.t 0)⟩,
    ⟨(some 3), none, none, .box (.t 1)⟩,
    ⟨(some 4), none, none, .alloc [.p (.bool false), .nils]⟩,
    ⟨(some 5), none, none, .mv (.c (.p (.int .i64 0)))⟩] none)
  (.seq (.reg [⟨(some 10), none, none, .load true 2 (.t 2)⟩,
    ⟨(some 11), none, none, .load true 2 (.t 3)⟩,
    ⟨(some 12), none, none, .call .pu 49 [.t 10, .t 11]⟩,
    ⟨(some 9), none, none, .mv (.t 12)⟩,
    ⟨(some 13), none, none, .extract (.t 9) 0⟩,
    ⟨(some 14), none, none, .extract (.t 9) 1⟩,
    ⟨(some 15), none, none, .extract (.t 9) 2⟩,
    ⟨(some 6), none, none, .alloc [.p (.bool false), .nils]⟩,
    ⟨(some 7), none, none, .alloc [.p (.bool false), .nils]⟩,
    ⟨none, none, none, .store 2 (.t 6) (.t 13)⟩,
    ⟨none, none, none, .store 2 (.t 7) (.t 14)⟩,
    ⟨(some 8), none, none, .mv (.t 15)⟩] none)
  (.seq (.block 0
  (.seq (.reg [⟨(some 17), none, none, .mv (.t 8)⟩,
    ⟨(some 18), none, none, .bin .neq (.t 17) (.c (.p (.int .i64 0)))⟩,
    ⟨(some 16), none, none, .mv (.t 18)⟩] none)
    (.fg [4, 6, 7, 8, 16] (.cond (.t 16)
      (.seq (.reg [⟨(some 19), none, none, .build [.p (.bool false), .nils] []⟩,
    ⟨(some 20), none, none, .mv (.t 8)⟩,
    ⟨none, none, none, .store 2 (.t 4) (.t 19)⟩,
    ⟨(some 5), none, none, .mv (.t 20)⟩] none)
      .ret)
      (.seq (.reg [⟨(some 22), none, none, .load true 2 (.t 7)⟩,
    ⟨(some 23), none, none, .call .pu 12 [.t 22]⟩,
    ⟨(some 24), none, none, .bin .neq (.t 23) (.c (.p (.int .i64 0)))⟩,
    ⟨(some 21), none, none, .mv (.t 24)⟩] none)
      (.fg [4, 6, 21] (.cond (.t 21)
        (.seq (.reg [⟨(some 25), none, none, .build [.p (.bool false), .nils] []⟩,
    ⟨none, none, none, .store 2 (.t 4) (.t 25)⟩,
    ⟨(some 5), none, none, .mv (.c (.p (.int .i64 20)))⟩] none)
        .ret)
        .skip)))))))
  (.fg [4, 6] (.seq (.reg [⟨(some 26), none, none, .load true 2 (.t 6)⟩,
    ⟨none, none, none, .store 2 (.t 4) (.t 26)⟩,
    ⟨(some 5), none, none, .mv (.c (.p (.int .i64 0)))⟩] none)
  .ret))))),
  [.cell 4 true 2, .t 5]⟩

theorem c25 : chkF Tryz.prog 25 f25 = true := by kernel_rfl

/-- trammel/zint.made -/
def f26 : RFun := ⟨(.seq (.reg [⟨(some 4), none, none, .alloc [.p (.bool false), .nils]⟩] none)
  (.seq (.reg [⟨(some 7), none, none, .mv (.t 1)⟩,
    ⟨(some 8), none, none, .len (.t 7)⟩,
    ⟨(some 5), none, none, .mv (.t 8)⟩] none)
  (.seq (.block 0
  (.loop (.fg [0, 1, 4, 5]
    (.seq (.seq (.reg [⟨(some 9), none, none, .mv (.t 5)⟩,
    ⟨(some 10), none, none, .bin .gtr (.t 9) (.c (.p (.int .i64 0)))⟩,
    ⟨(some 11), none, none, .mv (.t 10)⟩,
    ⟨(some 12), (some (11, true)), none, .mv (.t 1)⟩,
    ⟨(some 13), (some (11, true)), none, .mv (.t 5)⟩,
    ⟨(some 14), (some (11, true)), none, .bin .sub (.t 13) (.c (.p (.int .i64 1)))⟩,
    ⟨(some 15), (some (11, true)), none, .indexA 1 (.t 12) (.t 14)⟩,
    ⟨(some 16), (some (11, true)), none, .load false 1 (.t 15)⟩,
    ⟨(some 17), (some (11, true)), none, .bin .eql (.t 16) (.c (.p (.int .u32 0)))⟩,
    ⟨(some 18), none, none, .pick (.t 11) (.t 17) (.c (.p (.bool false)))⟩] none)
      (.fg [0, 1, 4, 5, 18] (.cond (.t 18)
        .skip
        (.exit 0))))
      (.fg [0, 1, 4, 5] (.block 1
      (.reg [⟨(some 19), none, none, .mv (.t 5)⟩,
    ⟨(some 20), none, none, .bin .sub (.t 19) (.c (.p (.int .i64 1)))⟩,
    ⟨(some 5), none, none, .mv (.t 20)⟩] none)))))))
  (.fg [0, 1, 4, 5] (.seq (.seq (.reg [⟨(some 21), none, none, .mv (.t 5)⟩,
    ⟨(some 22), none, none, .bin .eql (.t 21) (.c (.p (.int .i64 0)))⟩] none)
  (.fg [0, 1, 4, 5, 22] (.cond (.t 22)
    (.seq (.reg [⟨(some 23), none, none, .build [.p (.bool false), .nils] []⟩,
    ⟨none, none, none, .store 2 (.t 4) (.t 23)⟩] none)
    .ret)
    .skip)))
  (.seq (.reg [⟨(some 24), none, none, .mv (.t 5)⟩,
    ⟨(some 25), none, none, .mks false 1 4 (.int .u32 0) (.t 24) (.t 24)⟩,
    ⟨(some 6), none, none, .mv (.t 25)⟩] none)
  (.seq (.reg [⟨(some 26), none, none, .mv (.t 6)⟩,
    ⟨(some 27), none, none, .mv (.t 1)⟩,
    ⟨(some 28), none, none, .copy 1 (.t 26) (.t 27)⟩] none)
  (.seq (.reg [⟨(some 29), none, none, .mv (.t 0)⟩,
    ⟨(some 30), none, none, .mv (.t 6)⟩,
    ⟨(some 31), none, none, .build [.p (.bool false), .nils] [(0, 1, .t 29), (1, 1, .t 30)]⟩,
    ⟨none, none, none, .store 2 (.t 4) (.t 31)⟩] none)
  .ret)))))))),
  [.cell 4 true 2]⟩

theorem c26 : chkF Tryz.prog 26 f26 = true := by kernel_rfl

/-- trammel/nat.Mul -/
def f27 : RFun := ⟨(.seq (.reg [⟨(some 4), none, none, .mv (.c (.nils))⟩] none)
  (.seq (.reg [⟨(some 9), none, none, .mv (.t 0)⟩,
    ⟨(some 10), none, none, .call .pu 41 [.t 9]⟩,
    ⟨(some 11), none, none, .mv (.t 1)⟩,
    ⟨(some 12), none, none, .call .pu 41 [.t 11]⟩,
    ⟨(some 0), none, none, .mv (.t 10)⟩,
    ⟨(some 1), none, none, .mv (.t 12)⟩] none)
  (.seq (.reg [⟨(some 13), none, none, .mv (.t 0)⟩,
    ⟨(some 14), none, none, .len (.t 13)⟩,
    ⟨(some 15), none, none, .mv (.t 1)⟩,
    ⟨(some 16), none, none, .len (.t 15)⟩,
    ⟨(some 17), none, none, .bin .add (.t 14) (.t 16)⟩,
    ⟨(some 18), none, none, .mks false 1 4 (.int .u32 0) (.t 17) (.t 17)⟩,
    ⟨(some 5), none, none, .mv (.t 18)⟩] none)
  (.seq (.seq (.reg [⟨(some 19), none, none, .mv (.t 0)⟩,
    ⟨(some 20), none, none, .len (.t 19)⟩,
    ⟨(some 21), none, none, .mv (.c (.p (.int .i64 0)))⟩] none)
  (.fg [0, 1, 5, 20, 21] (.block 0
  (.loop (.fg [0, 1, 5, 20, 21]
    (.seq (.reg [⟨(some 22), none, none, .bin .lss (.t 21) (.t 20)⟩] none)
      (.seq (.cond (.t 22)
        .skip
        (.exit 0))
      (.fg [0, 1, 5, 20, 21] (.seq (.block 1
      (.seq (.reg [⟨(some 23), none, none, .mv (.t 21)⟩,
    ⟨(some 6), none, none, .mv (.t 23)⟩] none)
        (.seq (.reg [⟨(some 7), none, none, .mv (.c (.p (.int .u64 0)))⟩] none)
        (.seq (.seq (.reg [⟨(some 24), none, none, .mv (.t 1)⟩,
    ⟨(some 25), none, none, .len (.t 24)⟩,
    ⟨(some 26), none, none, .mv (.c (.p (.int .i64 0)))⟩] none)
        (.fg [0, 1, 5, 6, 7, 20, 21, 25, 26] (.block 2
        (.loop (.fg [0, 1, 5, 6, 7, 20, 21, 25, 26]
          (.seq (.reg [⟨(some 27), none, none, .bin .lss (.t 26) (.t 25)⟩] none)
            (.seq (.cond (.t 27)
              .skip
              (.exit 2))
            (.fg [0, 1, 5, 6, 7, 20, 21, 25, 26] (.seq (.block 3
            (.seq (.reg [⟨(some 28), none, none, .mv (.t 26)⟩,
    ⟨(some 8), none, none, .mv (.t 28)⟩] none)
              (.seq (.reg [⟨(some 29), none, none, .mv (.t 7)⟩,
    ⟨(some 30), none, none, .mv (.t 0)⟩,
    ⟨(some 31), none, none, .mv (.t 6)⟩,
    ⟨(some 32), none, none, .indexA 1 (.t 30) (.t 31)⟩,
    ⟨(some 33), none, none, .load false 1 (.t 32)⟩,
    ⟨(some 34), none, none, .conv .u64 (.t 33)⟩,
    ⟨(some 35), none, none, .mv (.t 1)⟩,
    ⟨(some 36), none, none, .mv (.t 8)⟩,
    ⟨(some 37), none, none, .indexA 1 (.t 35) (.t 36)⟩,
    ⟨(some 38), none, none, .load false 1 (.t 37)⟩,
    ⟨(some 39), none, none, .conv .u64 (.t 38)⟩,
    ⟨(some 40), none, none, .bin .mul (.t 34) (.t 39)⟩,
    ⟨(some 41), none, none, .mv (.t 5)⟩,
    ⟨(some 42), none, none, .mv (.t 6)⟩,
    ⟨(some 43), none, none, .mv (.t 8)⟩,
    ⟨(some 44), none, none, .bin .add (.t 42) (.t 43)⟩,
    ⟨(some 45), none, none, .indexA 1 (.t 41) (.t 44)⟩,
    ⟨(some 46), none, none, .load false 1 (.t 45)⟩,
    ⟨(some 47), none, none, .conv .u64 (.t 46)⟩,
    ⟨(some 48), none, none, .bin .add (.t 40) (.t 47)⟩,
    ⟨(some 49), none, none, .bin .add (.t 29) (.t 48)⟩,
    ⟨(some 7), none, none, .mv (.t 49)⟩] (some (0, [])))
              (.seq (.reg [⟨(some 50), none, none, .mv (.t 5)⟩,
    ⟨(some 51), none, none, .mv (.t 6)⟩,
    ⟨(some 52), none, none, .mv (.t 8)⟩,
    ⟨(some 53), none, none, .bin .add (.t 51) (.t 52)⟩,
    ⟨(some 54), none, none, .mv (.t 7)⟩,
    ⟨(some 55), none, none, .conv .u32 (.t 54)⟩,
    ⟨(some 56), none, none, .indexA 1 (.t 50) (.t 53)⟩,
    ⟨none, none, none, .store 1 (.t 56) (.t 55)⟩] none)
              (.reg [⟨(some 57), none, none, .mv (.t 7)⟩,
    ⟨(some 58), none, none, .bin .shr (.t 57) (.c (.p (.int .u64 32)))⟩,
    ⟨(some 7), none, none, .mv (.t 58)⟩] none)))))
            (.fg [0, 1, 5, 6, 7, 20, 21, 25, 26] (.reg [⟨(some 59), none, none, .bin .add (.t 26) (.c (.p (.int .i64 1)))⟩,
    ⟨(some 26), none, none, .mv (.t 59)⟩] none)))))))))))
        (.reg [⟨(some 60), none, none, .mv (.t 5)⟩,
    ⟨(some 61), none, none, .mv (.t 6)⟩,
    ⟨(some 62), none, none, .mv (.t 1)⟩,
    ⟨(some 63), none, none, .len (.t 62)⟩,
    ⟨(some 64), none, none, .bin .add (.t 61) (.t 63)⟩,
    ⟨(some 65), none, none, .mv (.t 7)⟩,
    ⟨(some 66), none, none, .conv .u32 (.t 65)⟩,
    ⟨(some 67), none, none, .indexA 1 (.t 60) (.t 64)⟩,
    ⟨none, none, none, .store 1 (.t 67) (.t 66)⟩] none)))))
      (.fg [0, 1, 5, 20, 21] (.reg [⟨(some 68), none, none, .bin .add (.t 21) (.c (.p (.int .i64 1)))⟩,
    ⟨(some 21), none, none, .mv (.t 68)⟩] none)))))))))))
  (.seq (.reg [⟨(some 69), none, none, .mv (.t 5)⟩,
    ⟨(some 70), none, none, .call .fz 41 [.t 69]⟩,
    ⟨(some 4), none, none, .mv (.t 70)⟩] none)
  .ret))))),
  [.t 4]⟩

theorem c27 : chkF Tryz.prog 27 f27 = true := by kernel_rfl

/-- trammel/mat.each[trammel/api.Int,trammel/api.Int] -/
def f28 : RFun := ⟨(.seq (.reg [⟨(some 4), none, none, .mv (.c (.nils))⟩] none)
  (.seq (.reg [⟨(some 8), none, none, .mv (.t 0)⟩,
    ⟨(some 9), none, none, .len (.t 8)⟩,
    ⟨(some 10), none, none, .mks false 2 32 (.agg [.bool false, .sl []]) (.c (.p (.int .i64 0))) (.t 9)⟩,
    ⟨(some 5), none, none, .mv (.t 10)⟩] none)
  (.seq (.seq (.reg [⟨(some 11), none, none, .mv (.t 0)⟩,
    ⟨(some 12), none, none, .len (.t 11)⟩,
    ⟨(some 13), none, none, .mv (.c (.p (.int .i64 0)))⟩] none)
  (.fg [1, 5, 11, 12, 13] (.block 0
  (.loop (.fg [1, 5, 11, 12, 13]
    (.seq (.reg [⟨(some 14), none, none, .bin .lss (.t 13) (.t 12)⟩] none)
      (.seq (.cond (.t 14)
        .skip
        (.exit 0))
      (.fg [1, 5, 11, 12, 13] (.seq (.block 1
      (.seq (.reg [⟨(some 15), none, none, .indexA 2 (.t 11) (.t 13)⟩,
    ⟨(some 16), none, none, .load true 2 (.t 15)⟩,
    ⟨(some 7), none, none, .alloc [.p (.bool false), .nils]⟩,
    ⟨none, none, none, .store 2 (.t 7) (.t 16)⟩] none)
        (.reg [⟨(some 17), none, none, .mv (.t 5)⟩,
    ⟨(some 18), none, none, .mv (.t 1)⟩,
    ⟨(some 19), none, none, .load true 2 (.t 7)⟩,
    ⟨(some 20), none, none, .callv .cell (.t 18) [.t 19]⟩,
    ⟨(some 21), none, none, .bslice 2 [.t 20]⟩,
    ⟨(some 22), none, none, .append 2 32 (.t 17) (.t 21)⟩,
    ⟨(some 5), none, none, .mv (.t 22)⟩] none)))
      (.fg [1, 5, 11, 12, 13] (.reg [⟨(some 23), none, none, .bin .add (.t 13) (.c (.p (.int .i64 1)))⟩,
    ⟨(some 13), none, none, .mv (.t 23)⟩] none)))))))))))
  (.seq (.reg [⟨(some 24), none, none, .mv (.t 5)⟩,
    ⟨(some 4), none, none, .mv (.t 24)⟩] none)
  .ret)))),
  [.t 4]⟩

theorem c28 : chkF Tryz.prog 28 f28 = true := by kernel_rfl

/-- trammel/mat.Times$1 -/
def f29 : RFun := ⟨(.seq (.reg [⟨(some 2), none, none, .box (.t 0)⟩,
    ⟨(some 3), none, none, .alloc [.p (.bool false), .nils]⟩] none)
  (.seq (.reg [⟨(some 4), none, none, .load true 2 (.t 1)⟩,
    ⟨(some 5), none, none, .load true 2 (.t 2)⟩,
    ⟨(some 6), none, none, .call .pu 14 [.t 4, .t 5]⟩,
    ⟨none, none, none, .store 2 (.t 3) (.t 6)⟩] none)
  .ret)),
  [.cell 3 true 2]⟩

theorem c29 : chkF Tryz.prog 29 f29 = true := by kernel_rfl

/-- trammel/zint.Bits -/
def f30 : RFun := ⟨(.seq (.reg [⟨(some 1), none, none, .box (.t 0)⟩,
    ⟨(some 2), none, none, .mv (.c (.p (.int .i64 0)))⟩] none)
  (.seq (.reg [⟨(some 3), none, none, .fieldA 1 (.t 1)⟩,
    ⟨(some 4), none, none, .load false 1 (.t 3)⟩,
    ⟨(some 5), none, none, .call .pu 21 [.t 4]⟩,
    ⟨(some 2), none, none, .mv (.t 5)⟩] none)
  .ret)),
  [.t 2]⟩

theorem c30 : chkF Tryz.prog 30 f30 = true := by kernel_rfl

/-- trammel/herm.asked -/
def f31 : RFun := ⟨(.seq (.reg [⟨(some 2), none, none, .mv (.c (.p (.int .i64 0)))⟩,
    ⟨(some 3), none, none, .mv (.c (.p (.int .i64 0)))⟩,
    ⟨(some 4), none, none, .mv (.c (.p (.int .i64 0)))⟩] none)
  (.seq (.reg [⟨(some 9), none, none, .mv (.t 0)⟩,
    ⟨(some 10), none, none, .call .pu 50 [.t 9]⟩,
    ⟨(some 8), none, none, .mv (.t 10)⟩,
    ⟨(some 11), none, none, .extract (.t 8) 0⟩,
    ⟨(some 12), none, none, .extract (.t 8) 1⟩,
    ⟨(some 13), none, none, .extract (.t 8) 2⟩,
    ⟨(some 5), none, none, .mv (.t 11)⟩,
    ⟨(some 6), none, none, .mv (.t 12)⟩,
    ⟨(some 7), none, none, .mv (.t 13)⟩] none)
  (.seq (.seq (.reg [⟨(some 14), none, none, .mv (.t 7)⟩,
    ⟨(some 15), none, none, .bin .neq (.t 14) (.c (.p (.int .i64 0)))⟩] none)
  (.fg [5, 6, 7, 15] (.cond (.t 15)
    (.seq (.reg [⟨(some 16), none, none, .mv (.t 7)⟩,
    ⟨(some 2), none, none, .mv (.c (.p (.int .i64 0)))⟩,
    ⟨(some 3), none, none, .mv (.c (.p (.int .i64 0)))⟩,
    ⟨(some 4), none, none, .mv (.t 16)⟩] none)
    .ret)
    .skip)))
  (.seq (.seq (.reg [⟨(some 17), none, none, .mv (.t 5)⟩,
    ⟨(some 18), none, none, .bin .gtr (.t 17) (.c (.p (.int .i64 64)))⟩,
    ⟨(some 19), none, none, .mv (.t 18)⟩,
    ⟨(some 20), (some (19, false)), none, .mv (.t 6)⟩,
    ⟨(some 21), (some (19, false)), none, .bin .gtr (.t 20) (.c (.p (.int .i64 64)))⟩,
    ⟨(some 22), none, none, .pick (.t 19) (.c (.p (.bool true))) (.t 21)⟩] none)
  (.fg [5, 6, 22] (.cond (.t 22)
    (.seq (.reg [⟨(some 2), none, none, .mv (.c (.p (.int .i64 0)))⟩,
    ⟨(some 3), none, none, .mv (.c (.p (.int .i64 0)))⟩,
    ⟨(some 4), none, none, .mv (.c (.p (.int .i64 60)))⟩] none)
    .ret)
    .skip)))
  (.seq (.reg [⟨(some 23), none, none, .mv (.t 5)⟩,
    ⟨(some 24), none, none, .mv (.t 6)⟩,
    ⟨(some 2), none, none, .mv (.t 23)⟩,
    ⟨(some 3), none, none, .mv (.t 24)⟩,
    ⟨(some 4), none, none, .mv (.c (.p (.int .i64 0)))⟩] none)
  .ret))))),
  [.t 2, .t 3, .t 4]⟩

theorem c31 : chkF Tryz.prog 31 f31 = true := by kernel_rfl

/-- trammel/herm.kernel -/
def f32 : RFun := ⟨(.seq (.reg [⟨(some 4), none, none, .mv (.c (.nils))⟩] none)
  (.seq (.reg [⟨(some 8), none, none, .mv (.t 0)⟩,
    ⟨(some 9), none, none, .mv (.t 1)⟩,
    ⟨(some 10), none, none, .call .keep 51 [.t 8, .t 9]⟩,
    ⟨(some 7), none, none, .mv (.t 10)⟩,
    ⟨(some 11), none, none, .extract (.t 7) 0⟩,
    ⟨(some 12), none, none, .extract (.t 7) 1⟩,
    ⟨(some 5), none, none, .mv (.t 11)⟩,
    ⟨(some 6), none, none, .mv (.t 12)⟩] none)
  (.seq (.reg [⟨(some 13), none, none, .mv (.t 5)⟩,
    ⟨(some 14), none, none, .nilc (.t 13)⟩,
    ⟨(some 15), none, none, .fieldA 1 (.t 14)⟩,
    ⟨(some 16), none, none, .fieldA 0 (.t 15)⟩,
    ⟨(some 17), none, none, .load false 1 (.t 16)⟩,
    ⟨(some 18), none, none, .mv (.t 6)⟩,
    ⟨(some 19), none, none, .slice 1 (.t 17) (some (.t 18)) none none⟩,
    ⟨(some 20), none, none, .mv (.t 0)⟩,
    ⟨(some 21), none, none, .len (.t 20)⟩,
    ⟨(some 22), none, none, .call .full 52 [.t 19, .t 21]⟩,
    ⟨(some 4), none, none, .mv (.t 22)⟩] none)
  .ret))),
  [.t 4]⟩

theorem c32 : chkF Tryz.prog 32 f32 = true := by kernel_rfl

/-- trammel/trammelref01.Norm -/
def f40 : RFun := ⟨(.seq (.reg [⟨(some 2), none, none, .mv (.c (.nils))⟩] none)
  (.seq (.reg [⟨(some 6), none, none, .mv (.t 0)⟩,
    ⟨(some 7), none, none, .len (.t 6)⟩,
    ⟨(some 3), none, none, .mv (.t 7)⟩] none)
  (.seq (.block 0
  (.loop (.fg [0, 3]
    (.seq (.seq (.reg [⟨(some 8), none, none, .mv (.t 3)⟩,
    ⟨(some 9), none, none, .bin .gtr (.t 8) (.c (.p (.int .i64 0)))⟩,
    ⟨(some 10), none, none, .mv (.t 9)⟩,
    ⟨(some 11), (some (10, true)), none, .mv (.t 0)⟩,
    ⟨(some 12), (some (10, true)), none, .mv (.t 3)⟩,
    ⟨(some 13), (some (10, true)), none, .bin .sub (.t 12) (.c (.p (.int .i64 1)))⟩,
    ⟨(some 14), (some (10, true)), none, .indexA 1 (.t 11) (.t 13)⟩,
    ⟨(some 15), (some (10, true)), none, .load false 1 (.t 14)⟩,
    ⟨(some 16), (some (10, true)), none, .bin .eql (.t 15) (.c (.p (.int .u32 0)))⟩,
    ⟨(some 17), none, none, .pick (.t 10) (.t 16) (.c (.p (.bool false)))⟩] none)
      (.fg [0, 3, 17] (.cond (.t 17)
        .skip
        (.exit 0))))
      (.fg [0, 3] (.block 1
      (.reg [⟨(some 18), none, none, .mv (.t 3)⟩,
    ⟨(some 19), none, none, .bin .sub (.t 18) (.c (.p (.int .i64 1)))⟩,
    ⟨(some 3), none, none, .mv (.t 19)⟩] none)))))))
  (.fg [0, 3] (.seq (.reg [⟨(some 4), none, none, .mv (.c (.nils))⟩] none)
  (.seq (.seq (.reg [⟨(some 5), none, none, .mv (.c (.p (.int .i64 0)))⟩] none)
  (.fg [0, 3, 4, 5] (.block 2
  (.loop (.fg [0, 3, 4, 5]
    (.seq (.seq (.reg [⟨(some 20), none, none, .mv (.t 5)⟩,
    ⟨(some 21), none, none, .mv (.t 3)⟩,
    ⟨(some 22), none, none, .bin .lss (.t 20) (.t 21)⟩] none)
      (.fg [0, 3, 4, 5, 22] (.cond (.t 22)
        .skip
        (.exit 2))))
      (.seq (.block 3
      (.reg [⟨(some 25), none, none, .mv (.t 4)⟩,
    ⟨(some 26), none, none, .mv (.t 0)⟩,
    ⟨(some 27), none, none, .mv (.t 5)⟩,
    ⟨(some 28), none, none, .indexA 1 (.t 26) (.t 27)⟩,
    ⟨(some 29), none, none, .load false 1 (.t 28)⟩,
    ⟨(some 30), none, none, .bslice 1 [.t 29]⟩,
    ⟨(some 31), none, none, .append 1 4 (.t 25) (.t 30)⟩,
    ⟨(some 4), none, none, .mv (.t 31)⟩] none))
      (.fg [0, 3, 4, 5] (.reg [⟨(some 23), none, none, .mv (.t 5)⟩,
    ⟨(some 24), none, none, .bin .add (.t 23) (.c (.p (.int .i64 1)))⟩,
    ⟨(some 5), none, none, .mv (.t 24)⟩] none)))))))))
  (.seq (.reg [⟨(some 32), none, none, .mv (.t 4)⟩,
    ⟨(some 2), none, none, .mv (.t 32)⟩] none)
  .ret))))))),
  [.t 2]⟩

theorem c40 : chkF Tryz.prog 40 f40 = true := by kernel_rfl

/-- trammel/nat.trim -/
def f41 : RFun := ⟨(.seq (.reg [⟨(some 2), none, none, .mv (.c (.nils))⟩] none)
  (.seq (.block 0
  (.loop (.fg [0]
    (.seq (.seq (.reg [⟨(some 3), none, none, .mv (.t 0)⟩,
    ⟨(some 4), none, none, .len (.t 3)⟩,
    ⟨(some 5), none, none, .bin .gtr (.t 4) (.c (.p (.int .i64 0)))⟩,
    ⟨(some 6), none, none, .mv (.t 5)⟩,
    ⟨(some 7), (some (6, true)), none, .mv (.t 0)⟩,
    ⟨(some 8), (some (6, true)), none, .mv (.t 0)⟩,
    ⟨(some 9), (some (6, true)), none, .len (.t 8)⟩,
    ⟨(some 10), (some (6, true)), none, .bin .sub (.t 9) (.c (.p (.int .i64 1)))⟩,
    ⟨(some 11), (some (6, true)), none, .indexA 1 (.t 7) (.t 10)⟩,
    ⟨(some 12), (some (6, true)), none, .load false 1 (.t 11)⟩,
    ⟨(some 13), (some (6, true)), none, .bin .eql (.t 12) (.c (.p (.int .u32 0)))⟩,
    ⟨(some 14), none, none, .pick (.t 6) (.t 13) (.c (.p (.bool false)))⟩] none)
      (.fg [0, 14] (.cond (.t 14)
        .skip
        (.exit 0))))
      (.fg [0] (.block 1
      (.reg [⟨(some 15), none, none, .mv (.t 0)⟩,
    ⟨(some 16), none, none, .mv (.t 0)⟩,
    ⟨(some 17), none, none, .len (.t 16)⟩,
    ⟨(some 18), none, none, .bin .sub (.t 17) (.c (.p (.int .i64 1)))⟩,
    ⟨(some 19), none, none, .slice 1 (.t 15) none (some (.t 18)) none⟩,
    ⟨(some 0), none, none, .mv (.t 19)⟩] none)))))))
  (.fg [0] (.seq (.reg [⟨(some 20), none, none, .mv (.t 0)⟩,
    ⟨(some 2), none, none, .mv (.t 20)⟩] none)
  .ret)))),
  [.t 2]⟩

theorem c41 : chkF Tryz.prog 41 f41 = true := by kernel_rfl

/-- math/bits.Len32 -/
def f42 : RFun := ⟨(.seq (.reg [⟨(some 2), none, none, .mv (.c (.p (.int .i64 0)))⟩] none)
  (.seq (.seq (.reg [⟨(some 3), none, none, .mv (.t 0)⟩,
    ⟨(some 4), none, none, .bin .geq (.t 3) (.c (.p (.int .u32 65536)))⟩] none)
  (.fg [0, 2, 4] (.cond (.t 4)
    (.seq (.reg [⟨(some 5), none, none, .mv (.t 0)⟩,
    ⟨(some 6), none, none, .bin .shr (.t 5) (.c (.p (.int .u64 16)))⟩,
    ⟨(some 0), none, none, .mv (.t 6)⟩] none)
    (.reg [⟨(some 2), none, none, .mv (.c (.p (.int .i64 16)))⟩] none))
    .skip)))
  (.seq (.seq (.reg [⟨(some 7), none, none, .mv (.t 0)⟩,
    ⟨(some 8), none, none, .bin .geq (.t 7) (.c (.p (.int .u32 256)))⟩] none)
  (.fg [0, 2, 8] (.cond (.t 8)
    (.seq (.reg [⟨(some 9), none, none, .mv (.t 0)⟩,
    ⟨(some 10), none, none, .bin .shr (.t 9) (.c (.p (.int .u64 8)))⟩,
    ⟨(some 0), none, none, .mv (.t 10)⟩] none)
    (.reg [⟨(some 11), none, none, .mv (.t 2)⟩,
    ⟨(some 12), none, none, .bin .add (.t 11) (.c (.p (.int .i64 8)))⟩,
    ⟨(some 2), none, none, .mv (.t 12)⟩] none))
    .skip)))
  (.seq (.reg [⟨(some 13), none, none, .mv (.t 2)⟩,
    ⟨(some 14), none, none, .mv (.t 0)⟩,
    ⟨(some 15), none, none, .conv .u8 (.t 14)⟩,
    ⟨(some 16), none, none, .idx [0, 1, 2, 2, 3, 3, 3, 3, 4, 4, 4, 4, 4, 4, 4, 4, 5, 5, 5, 5, 5, 5, 5, 5, 5, 5, 5, 5, 5, 5, 5, 5, 6, 6, 6, 6, 6, 6, 6, 6, 6, 6, 6, 6, 6, 6, 6, 6, 6, 6, 6, 6, 6, 6, 6, 6, 6, 6, 6, 6, 6, 6, 6, 6, 7, 7, 7, 7, 7, 7, 7, 7, 7, 7, 7, 7, 7, 7, 7, 7, 7, 7, 7, 7, 7, 7, 7, 7, 7, 7, 7, 7, 7, 7, 7, 7, 7, 7, 7, 7, 7, 7, 7, 7, 7, 7, 7, 7, 7, 7, 7, 7, 7, 7, 7, 7, 7, 7, 7, 7, 7, 7, 7, 7, 7, 7, 7, 7, 8, 8, 8, 8, 8, 8, 8, 8, 8, 8, 8, 8, 8, 8, 8, 8, 8, 8, 8, 8, 8, 8, 8, 8, 8, 8, 8, 8, 8, 8, 8, 8, 8, 8, 8, 8, 8, 8, 8, 8, 8, 8, 8, 8, 8, 8, 8, 8, 8, 8, 8, 8, 8, 8, 8, 8, 8, 8, 8, 8, 8, 8, 8, 8, 8, 8, 8, 8, 8, 8, 8, 8, 8, 8, 8, 8, 8, 8, 8, 8, 8, 8, 8, 8, 8, 8, 8, 8, 8, 8, 8, 8, 8, 8, 8, 8, 8, 8, 8, 8, 8, 8, 8, 8, 8, 8, 8, 8, 8, 8, 8, 8, 8, 8, 8, 8, 8, 8, 8, 8, 8, 8, 8, 8, 8, 8, 8, 8] (.t 15)⟩,
    ⟨(some 17), none, none, .conv .i64 (.t 16)⟩,
    ⟨(some 18), none, none, .bin .add (.t 13) (.t 17)⟩,
    ⟨(some 2), none, none, .mv (.t 18)⟩] none)
  .ret)))),
  [.t 2]⟩

theorem c42 : chkF Tryz.prog 42 f42 = true := by kernel_rfl

/-- trammel/rat.two -/
def f43 : RFun := ⟨(.seq (.reg [⟨(some 3), none, none, .box (.t 0)⟩,
    ⟨(some 4), none, none, .box (.t 1)⟩,
    ⟨(some 6), none, none, .alloc [.p (.bool false), .nils, .p (.bool false), .nils]⟩,
    ⟨(some 7), none, none, .mv (.c (.p (.int .i64 0)))⟩] none)
  (.seq (.seq (.reg [⟨(some 9), none, none, .load true 4 (.t 3)⟩,
    ⟨(some 10), none, none, .load true 4 (.t 4)⟩,
    ⟨(some 11), none, none, .bslice 4 [.t 9, .t 10]⟩,
    ⟨(some 12), none, none, .call .fz 65 [.t 11]⟩,
    ⟨(some 8), none, none, .mv (.t 12)⟩] none)
  (.seq (.reg [⟨(some 13), none, none, .mv (.t 8)⟩,
    ⟨(some 14), none, none, .bin .neq (.t 13) (.c (.p (.int .i64 0)))⟩] none)
  (.fg [2, 6, 8, 14] (.cond (.t 14)
    (.seq (.reg [⟨(some 15), none, none, .build [.p (.bool false), .nils, .p (.bool false), .nils] []⟩,
    ⟨(some 16), none, none, .mv (.t 8)⟩,
    ⟨none, none, none, .store 4 (.t 6) (.t 15)⟩,
    ⟨(some 7), none, none, .mv (.t 16)⟩] none)
    .ret)
    .skip))))
  (.seq (.reg [⟨(some 17), none, none, .mv (.t 2)⟩,
    ⟨(some 18), none, none, .callv .pu (.t 17) []⟩,
    ⟨none, none, none, .store 4 (.t 6) (.t 18)⟩,
    ⟨(some 7), none, none, .mv (.c (.p (.int .i64 0)))⟩] none)
  .ret))),
  [.cell 6 true 4, .t 7]⟩

theorem c43 : chkF Tryz.prog 43 f43 = true := by kernel_rfl

/-- trammel/rat.Add$1 -/
def f44 : RFun := ⟨(.seq (.reg [⟨(some 2), none, none, .alloc [.p (.bool false), .nils, .p (.bool false), .nils]⟩] none)
  (.seq (.reg [⟨(some 3), none, none, .fieldA 0 (.t 0)⟩,
    ⟨(some 4), none, none, .load true 2 (.t 3)⟩,
    ⟨(some 5), none, none, .fieldA 2 (.t 1)⟩,
    ⟨(some 6), none, none, .load true 2 (.t 5)⟩,
    ⟨(some 7), none, none, .call .pu 14 [.t 4, .t 6]⟩,
    ⟨(some 8), none, none, .fieldA 0 (.t 1)⟩,
    ⟨(some 9), none, none, .load true 2 (.t 8)⟩,
    ⟨(some 10), none, none, .fieldA 2 (.t 0)⟩,
    ⟨(some 11), none, none, .load true 2 (.t 10)⟩,
    ⟨(some 12), none, none, .call .pu 14 [.t 9, .t 11]⟩,
    ⟨(some 13), none, none, .call .pu 46 [.t 7, .t 12]⟩,
    ⟨(some 14), none, none, .fieldA 2 (.t 0)⟩,
    ⟨(some 15), none, none, .load true 2 (.t 14)⟩,
    ⟨(some 16), none, none, .fieldA 2 (.t 1)⟩,
    ⟨(some 17), none, none, .load true 2 (.t 16)⟩,
    ⟨(some 18), none, none, .call .pu 14 [.t 15, .t 17]⟩,
    ⟨(some 19), none, none, .call .pu 45 [.t 13, .t 18]⟩,
    ⟨none, none, none, .store 4 (.t 2) (.t 19)⟩] (some (0, [])))
  .ret)),
  [.cell 2 true 4]⟩

theorem c44 : chkF Tryz.prog 44 f44 = true := by kernel_rfl

/-- trammel/rat.made -/
def f45 : RFun := ⟨(.seq (.reg [⟨(some 2), none, none, .box (.t 0)⟩,
    ⟨(some 3), none, none, .box (.t 1)⟩,
    ⟨(some 4), none, none, .alloc [.p (.bool false), .nils, .p (.bool false), .nils]⟩] none)
  (.seq (.seq (.reg [⟨(some 10), none, none, .load true 2 (.t 3)⟩,
    ⟨(some 11), none, none, .call .pu 12 [.t 10]⟩,
    ⟨(some 12), none, none, .bin .lss (.t 11) (.c (.p (.int .i64 0)))⟩] none)
  (.fg [2, 3, 4, 12] (.cond (.t 12)
    (.reg [⟨(some 13), none, none, .load true 2 (.t 2)⟩,
    ⟨(some 14), none, none, .call .pu 66 [.t 13]⟩,
    ⟨(some 15), none, none, .load true 2 (.t 3)⟩,
    ⟨(some 16), none, none, .call .pu 66 [.t 15]⟩,
    ⟨none, none, none, .store 2 (.t 2) (.t 14)⟩,
    ⟨none, none, none, .store 2 (.t 3) (.t 16)⟩] (some (0, [])))
    .skip)))
  (.seq (.reg [⟨(some 17), none, none, .load true 2 (.t 2)⟩,
    ⟨(some 18), none, none, .load true 2 (.t 3)⟩,
    ⟨(some 19), none, none, .call .pu 48 [.t 17, .t 18]⟩,
    ⟨(some 5), none, none, .alloc [.p (.bool false), .nils]⟩,
    ⟨none, none, none, .store 2 (.t 5) (.t 19)⟩] none)
  (.seq (.reg [⟨(some 21), none, none, .load true 2 (.t 2)⟩,
    ⟨(some 22), none, none, .load true 2 (.t 5)⟩,
    ⟨(some 23), none, none, .call .pu 25 [.t 21, .t 22]⟩,
    ⟨(some 20), none, none, .mv (.t 23)⟩,
    ⟨(some 24), none, none, .extract (.t 20) 0⟩,
    ⟨(some 25), none, none, .extract (.t 20) 1⟩,
    ⟨(some 6), none, none, .alloc [.p (.bool false), .nils]⟩,
    ⟨none, none, none, .store 2 (.t 6) (.t 24)⟩,
    ⟨(some 7), none, none, .mv (.t 25)⟩] none)
  (.seq (.reg [⟨(some 27), none, none, .load true 2 (.t 3)⟩,
    ⟨(some 28), none, none, .load true 2 (.t 5)⟩,
    ⟨(some 29), none, none, .call .pu 25 [.t 27, .t 28]⟩,
    ⟨(some 26), none, none, .mv (.t 29)⟩,
    ⟨(some 30), none, none, .extract (.t 26) 0⟩,
    ⟨(some 31), none, none, .extract (.t 26) 1⟩,
    ⟨(some 8), none, none, .alloc [.p (.bool false), .nils]⟩,
    ⟨none, none, none, .store 2 (.t 8) (.t 30)⟩,
    ⟨(some 9), none, none, .mv (.t 31)⟩] none)
  (.seq (.reg [⟨(some 32), none, none, .load true 2 (.t 6)⟩,
    ⟨(some 33), none, none, .load true 2 (.t 8)⟩,
    ⟨(some 34), none, none, .build [.p (.bool false), .nils, .p (.bool false), .nils] [(0, 2, .t 32), (2, 2, .t 33)]⟩,
    ⟨none, none, none, .store 4 (.t 4) (.t 34)⟩] none)
  .ret)))))),
  [.cell 4 true 4]⟩

theorem c45 : chkF Tryz.prog 45 f45 = true := by kernel_rfl

/-- trammel/zint.Add -/
def f46 : RFun := ⟨(.seq (.reg [⟨(some 2), none, none, .box (.t 0)⟩,
    ⟨(some 3), none, none, .box (.t 1)⟩,
    ⟨(some 4), none, none, .alloc [.p (.bool false), .nils]⟩] none)
  (.seq (.seq (.reg [⟨(some 7), none, none, .fieldA 0 (.t 2)⟩,
    ⟨(some 8), none, none, .load false 1 (.t 7)⟩,
    ⟨(some 9), none, none, .fieldA 0 (.t 3)⟩,
    ⟨(some 10), none, none, .load false 1 (.t 9)⟩,
    ⟨(some 11), none, none, .beq false (.t 8) (.t 10)⟩] none)
  (.fg [2, 3, 4, 11] (.cond (.t 11)
    (.seq (.reg [⟨(some 12), none, none, .fieldA 0 (.t 2)⟩,
    ⟨(some 13), none, none, .load false 1 (.t 12)⟩,
    ⟨(some 14), none, none, .fieldA 1 (.t 2)⟩,
    ⟨(some 15), none, none, .load false 1 (.t 14)⟩,
    ⟨(some 16), none, none, .fieldA 1 (.t 3)⟩,
    ⟨(some 17), none, none, .load false 1 (.t 16)⟩,
    ⟨(some 18), none, none, .call .pu 67 [.t 15, .t 17]⟩,
    ⟨(some 19), none, none, .call .pu 26 [.t 13, .t 18]⟩,
    ⟨none, none, none, .store 2 (.t 4) (.t 19)⟩] (some (0, [])))
    .ret)
    .skip)))
  (.seq (.seq (.reg [⟨(some 20), none, none, .fieldA 1 (.t 2)⟩,
    ⟨(some 21), none, none, .load false 1 (.t 20)⟩,
    ⟨(some 22), none, none, .fieldA 1 (.t 3)⟩,
    ⟨(some 23), none, none, .load false 1 (.t 22)⟩,
    ⟨(some 24), none, none, .call .pu 68 [.t 21, .t 23]⟩,
    ⟨(some 25), none, none, .bin .lss (.t 24) (.c (.p (.int .i64 0)))⟩] none)
  (.fg [2, 3, 4, 25] (.cond (.t 25)
    (.reg [⟨(some 26), none, none, .load true 2 (.t 3)⟩,
    ⟨(some 27), none, none, .load true 2 (.t 2)⟩,
    ⟨none, none, none, .store 2 (.t 2) (.t 26)⟩,
    ⟨none, none, none, .store 2 (.t 3) (.t 27)⟩] none)
    .skip)))
  (.seq (.reg [⟨(some 29), none, none, .fieldA 1 (.t 2)⟩,
    ⟨(some 30), none, none, .load false 1 (.t 29)⟩,
    ⟨(some 31), none, none, .fieldA 1 (.t 3)⟩,
    ⟨(some 32), none, none, .load false 1 (.t 31)⟩,
    ⟨(some 33), none, none, .call .pu 69 [.t 30, .t 32]⟩,
    ⟨(some 28), none, none, .mv (.t 33)⟩,
    ⟨(some 34), none, none, .extract (.t 28) 0⟩,
    ⟨(some 35), none, none, .extract (.t 28) 1⟩,
    ⟨(some 5), none, none, .mv (.t 34)⟩,
    ⟨(some 6), none, none, .mv (.t 35)⟩] none)
  (.seq (.reg [⟨(some 36), none, none, .fieldA 0 (.t 2)⟩,
    ⟨(some 37), none, none, .load false 1 (.t 36)⟩,
    ⟨(some 38), none, none, .mv (.t 5)⟩,
    ⟨(some 39), none, none, .call .pu 26 [.t 37, .t 38]⟩,
    ⟨none, none, none, .store 2 (.t 4) (.t 39)⟩] none)
  .ret))))),
  [.cell 4 true 2]⟩

theorem c46 : chkF Tryz.prog 46 f46 = true := by kernel_rfl

/-- trammel/zint.Form -/
def f47 : RFun := ⟨(.seq (.reg [⟨(some 1), none, none, .box (.t 0)⟩,
    ⟨(some 2), none, none, .alloc [.p (.bool false), .nils]⟩] none)
  (.seq (.reg [⟨(some 3), none, none, .fieldA 0 (.t 1)⟩,
    ⟨(some 4), none, none, .load false 1 (.t 3)⟩,
    ⟨(some 5), none, none, .fieldA 1 (.t 1)⟩,
    ⟨(some 6), none, none, .load false 1 (.t 5)⟩,
    ⟨(some 7), none, none, .call .pu 26 [.t 4, .t 6]⟩,
    ⟨none, none, none, .store 2 (.t 2) (.t 7)⟩] none)
  .ret)),
  [.cell 2 true 2]⟩

theorem c47 : chkF Tryz.prog 47 f47 = true := by kernel_rfl

/-- trammel/zint.Gcd -/
def f48 : RFun := ⟨(.seq (.reg [⟨(some 2), none, none, .box (.t 0)⟩,
    ⟨(some 3), none, none, .box (.t 1)⟩,
    ⟨(some 4), none, none, .alloc [.p (.bool false), .nils]⟩] none)
  (.seq (.reg [⟨(some 5), none, none, .fieldA 1 (.t 2)⟩,
    ⟨(some 6), none, none, .load false 1 (.t 5)⟩,
    ⟨(some 7), none, none, .fieldA 1 (.t 3)⟩,
    ⟨(some 8), none, none, .load false 1 (.t 7)⟩,
    ⟨(some 9), none, none, .call .pu 70 [.t 6, .t 8]⟩,
    ⟨(some 10), none, none, .call .pu 26 [.c (.p (.bool false)), .t 9]⟩,
    ⟨none, none, none, .store 2 (.t 4) (.t 10)⟩] none)
  .ret)),
  [.cell 4 true 2]⟩

theorem c48 : chkF Tryz.prog 48 f48 = true := by kernel_rfl

/-- trammel/zint.Floor -/
def f49 : RFun := ⟨(.seq (.reg [⟨(some 2), none, none, .box (.t 0)⟩,
    ⟨(some 3), none, none, .box (.t 1)⟩,
    ⟨(some 4), none, none, .alloc [.p (.bool false), .nils]⟩,
    ⟨(some 5), none, none, .alloc [.p (.bool false), .nils]⟩,
    ⟨(some 6), none, none, .mv (.c (.p (.int .i64 0)))⟩] none)
  (.seq (.reg [⟨(some 13), none, none, .fieldA 1 (.t 2)⟩,
    ⟨(some 14), none, none, .load false 1 (.t 13)⟩,
    ⟨(some 15), none, none, .fieldA 1 (.t 3)⟩,
    ⟨(some 16), none, none, .load false 1 (.t 15)⟩,
    ⟨(some 17), none, none, .call .pu 71 [.t 14, .t 16]⟩,
    ⟨(some 12), none, none, .mv (.t 17)⟩,
    ⟨(some 18), none, none, .extract (.t 12) 0⟩,
    ⟨(some 19), none, none, .extract (.t 12) 1⟩,
    ⟨(some 20), none, none, .extract (.t 12) 2⟩,
    ⟨(some 7), none, none, .mv (.t 18)⟩,
    ⟨(some 8), none, none, .mv (.t 19)⟩,
    ⟨(some 9), none, none, .mv (.t 20)⟩] none)
  (.seq (.seq (.reg [⟨(some 21), none, none, .mv (.t 9)⟩,
    ⟨(some 22), none, none, .bin .neq (.t 21) (.c (.p (.int .i64 0)))⟩] none)
  (.fg [2, 3, 4, 5, 7, 8, 22] (.cond (.t 22)
    (.seq (.reg [⟨(some 23), none, none, .build [.p (.bool false), .nils] []⟩,
    ⟨(some 24), none, none, .build [.p (.bool false), .nils] []⟩,
    ⟨none, none, none, .store 2 (.t 4) (.t 23)⟩,
    ⟨none, none, none, .store 2 (.t 5) (.t 24)⟩,
    ⟨(some 6), none, none, .mv (.c (.p (.int .i64 11)))⟩] none)
    .ret)
    .skip)))
  (.seq (.reg [⟨(some 25), none, none, .fieldA 0 (.t 2)⟩,
    ⟨(some 26), none, none, .load false 1 (.t 25)⟩,
    ⟨(some 27), none, none, .fieldA 0 (.t 3)⟩,
    ⟨(some 28), none, none, .load false 1 (.t 27)⟩,
    ⟨(some 29), none, none, .beq true (.t 26) (.t 28)⟩,
    ⟨(some 30), none, none, .mv (.t 7)⟩,
    ⟨(some 31), none, none, .call .pu 26 [.t 29, .t 30]⟩,
    ⟨(some 32), none, none, .fieldA 0 (.t 2)⟩,
    ⟨(some 33), none, none, .load false 1 (.t 32)⟩,
    ⟨(some 34), none, none, .mv (.t 8)⟩,
    ⟨(some 35), none, none, .call .pu 26 [.t 33, .t 34]⟩,
    ⟨(some 10), none, (some 0), .alloc [.p (.bool false), .nils]⟩,
    ⟨(some 11), none, (some 1), .alloc [.p (.bool false), .nils]⟩,
    ⟨none, none, none, .store 2 (.t 10) (.t 31)⟩,
    ⟨none, none, none, .store 2 (.t 11) (.t 35)⟩] (some (2, [])))
  (.seq (.seq (.reg [⟨(some 36), none, none, .load true 2 (.t 11)⟩,
    ⟨(some 37), none, none, .call .pu 12 [.t 36]⟩,
    ⟨(some 38), none, none, .bin .neq (.t 37) (.c (.p (.int .i64 0)))⟩,
    ⟨(some 39), none, none, .mv (.t 38)⟩,
    ⟨(some 40), (some (39, true)), none, .load true 2 (.t 11)⟩,
    ⟨(some 41), (some (39, true)), none, .call .pu 12 [.t 40]⟩,
    ⟨(some 42), (some (39, true)), none, .load true 2 (.t 3)⟩,
    ⟨(some 43), (some (39, true)), none, .call .pu 12 [.t 42]⟩,
    ⟨(some 44), (some (39, true)), none, .bin .neq (.t 41) (.t 43)⟩,
    ⟨(some 45), none, none, .pick (.t 39) (.t 44) (.c (.p (.bool false)))⟩] (some (0, [])))
  (.fg [3, 4, 5, 10, 11, 45] (.cond (.t 45)
    (.reg [⟨(some 46), none, none, .load true 2 (.t 10)⟩,
    ⟨(some 47), none, none, .call .pu 16 [.c (.p (.int .i64 1))]⟩,
    ⟨(some 48), none, none, .call .pu 72 [.t 46, .t 47]⟩,
    ⟨(some 49), none, none, .load true 2 (.t 11)⟩,
    ⟨(some 50), none, none, .load true 2 (.t 3)⟩,
    ⟨(some 51), none, none, .call .pu 46 [.t 49, .t 50]⟩,
    ⟨none, none, none, .store 2 (.t 10) (.t 48)⟩,
    ⟨none, none, none, .store 2 (.t 11) (.t 51)⟩] (some (0, [])))
    .skip)))
  (.seq (.reg [⟨(some 52), none, none, .load true 2 (.t 10)⟩,
    ⟨(some 53), none, none, .load true 2 (.t 11)⟩,
    ⟨none, none, none, .store 2 (.t 4) (.t 52)⟩,
    ⟨none, none, none, .store 2 (.t 5) (.t 53)⟩,
    ⟨(some 6), none, none, .mv (.c (.p (.int .i64 0)))⟩] (some (0, [(1, 2)])))
  .ret)))))),
  [.cell 4 true 2, .cell 5 true 2, .t 6]⟩

theorem c49 : chkF Tryz.prog 49 f49 = true := by kernel_rfl

/-- trammel/mat.Shape -/
def f50 : RFun := ⟨(.seq (.reg [⟨(some 2), none, none, .mv (.c (.p (.int .i64 0)))⟩,
    ⟨(some 3), none, none, .mv (.c (.p (.int .i64 0)))⟩,
    ⟨(some 4), none, none, .mv (.c (.p (.int .i64 0)))⟩] none)
  (.seq (.seq (.reg [⟨(some 7), none, none, .mv (.t 0)⟩,
    ⟨(some 8), none, none, .len (.t 7)⟩,
    ⟨(some 9), none, none, .bin .eql (.t 8) (.c (.p (.int .i64 0)))⟩] none)
  (.fg [0, 9] (.cond (.t 9)
    (.seq (.reg [⟨(some 2), none, none, .mv (.c (.p (.int .i64 0)))⟩,
    ⟨(some 3), none, none, .mv (.c (.p (.int .i64 0)))⟩,
    ⟨(some 4), none, none, .mv (.c (.p (.int .i64 0)))⟩] none)
    .ret)
    .skip)))
  (.seq (.seq (.reg [⟨(some 10), none, none, .mv (.t 0)⟩,
    ⟨(some 11), none, none, .len (.t 10)⟩,
    ⟨(some 12), none, none, .mv (.c (.p (.int .i64 0)))⟩] none)
  (.fg [0, 10, 11, 12] (.block 0
  (.loop (.fg [0, 10, 11, 12]
    (.seq (.reg [⟨(some 13), none, none, .bin .lss (.t 12) (.t 11)⟩] none)
      (.seq (.cond (.t 13)
        .skip
        (.exit 0))
      (.fg [0, 10, 11, 12] (.seq (.block 1
      (.seq (.reg [⟨(some 14), none, none, .indexA 1 (.t 10) (.t 12)⟩,
    ⟨(some 15), none, none, .load false 1 (.t 14)⟩,
    ⟨(some 6), none, none, .mv (.t 15)⟩] none)
        (.seq (.reg [⟨(some 16), none, none, .mv (.t 6)⟩,
    ⟨(some 17), none, none, .len (.t 16)⟩,
    ⟨(some 18), none, none, .mv (.t 0)⟩,
    ⟨(some 19), none, none, .indexA 1 (.t 18) (.c (.p (.int .i64 0)))⟩,
    ⟨(some 20), none, none, .load false 1 (.t 19)⟩,
    ⟨(some 21), none, none, .len (.t 20)⟩,
    ⟨(some 22), none, none, .bin .neq (.t 17) (.t 21)⟩] none)
        (.fg [0, 10, 11, 12, 22] (.cond (.t 22)
          (.seq (.reg [⟨(some 2), none, none, .mv (.c (.p (.int .i64 0)))⟩,
    ⟨(some 3), none, none, .mv (.c (.p (.int .i64 0)))⟩,
    ⟨(some 4), none, none, .mv (.c (.p (.int .i64 8)))⟩] none)
          .ret)
          .skip)))))
      (.fg [0, 10, 11, 12] (.reg [⟨(some 23), none, none, .bin .add (.t 12) (.c (.p (.int .i64 1)))⟩,
    ⟨(some 12), none, none, .mv (.t 23)⟩] none)))))))))))
  (.seq (.reg [⟨(some 24), none, none, .mv (.t 0)⟩,
    ⟨(some 25), none, none, .len (.t 24)⟩,
    ⟨(some 26), none, none, .mv (.t 0)⟩,
    ⟨(some 27), none, none, .indexA 1 (.t 26) (.c (.p (.int .i64 0)))⟩,
    ⟨(some 28), none, none, .load false 1 (.t 27)⟩,
    ⟨(some 29), none, none, .len (.t 28)⟩,
    ⟨(some 2), none, none, .mv (.t 25)⟩,
    ⟨(some 3), none, none, .mv (.t 29)⟩,
    ⟨(some 4), none, none, .mv (.c (.p (.int .i64 0)))⟩] (some (0, [])))
  .ret)))),
  [.t 2, .t 3, .t 4]⟩

theorem c50 : chkF Tryz.prog 50 f50 = true := by kernel_rfl

/-- trammel/herm.form -/
def f51 : RFun := ⟨(.seq (.reg [⟨(some 4), none, none, .mv (.c (.any))⟩,
    ⟨(some 5), none, none, .mv (.c (.p (.int .i64 0)))⟩] none)
  (.seq (.reg [⟨(some 15), none, none, .mv (.t 0)⟩,
    ⟨(some 16), none, none, .call .keep 73 [.t 15]⟩,
    ⟨(some 17), none, none, .build [.nils] [(0, 1, .t 16)]⟩,
    ⟨(some 18), none, none, .build [.nils, .nils] [(0, 1, .t 17)]⟩,
    ⟨(some 19), none, none, .box (.t 18)⟩,
    ⟨(some 6), none, none, .mv (.t 19)⟩] none)
  (.seq (.seq (.reg [⟨(some 20), none, none, .mv (.t 0)⟩,
    ⟨(some 21), none, none, .len (.t 20)⟩,
    ⟨(some 22), none, none, .mv (.c (.p (.int .i64 0)))⟩] none)
  (.fg [0, 1, 6, 21, 22] (.block 0
  (.loop (.fg [0, 1, 6, 21, 22]
    (.seq (.reg [⟨(some 23), none, none, .bin .lss (.t 22) (.t 21)⟩] none)
      (.seq (.cond (.t 23)
        .skip
        (.exit 0))
      (.fg [0, 1, 6, 21, 22] (.seq (.block 1
      (.seq (.reg [⟨(some 24), none, none, .mv (.t 22)⟩,
    ⟨(some 7), none, none, .mv (.t 24)⟩] none)
        (.seq (.reg [⟨(some 25), none, none, .mv (.t 0)⟩,
    ⟨(some 26), none, none, .len (.t 25)⟩,
    ⟨(some 27), none, none, .mks false 2 32 (.agg [.bool false, .sl []]) (.t 26) (.t 26)⟩,
    ⟨(some 8), none, none, .mv (.t 27)⟩] none)
        (.seq (.reg [⟨(some 28), none, none, .mv (.t 8)⟩,
    ⟨(some 29), none, none, .mv (.t 7)⟩,
    ⟨(some 30), none, none, .call .pu 16 [.c (.p (.int .i64 1))]⟩,
    ⟨(some 31), none, none, .indexA 2 (.t 28) (.t 29)⟩,
    ⟨none, none, none, .store 2 (.t 31) (.t 30)⟩] none)
        (.reg [⟨(some 32), none, none, .mv (.t 6)⟩,
    ⟨(some 33), none, none, .mv (.t 6)⟩,
    ⟨(some 34), none, none, .nilc (.t 33)⟩,
    ⟨(some 35), none, none, .fieldA 1 (.t 34)⟩,
    ⟨(some 36), none, none, .fieldA 0 (.t 35)⟩,
    ⟨(some 37), none, none, .load false 1 (.t 36)⟩,
    ⟨(some 38), none, none, .mv (.t 8)⟩,
    ⟨(some 39), none, none, .bslice 1 [.t 38]⟩,
    ⟨(some 40), none, none, .append 1 24 (.t 37) (.t 39)⟩,
    ⟨(some 41), none, none, .nilc (.t 32)⟩,
    ⟨(some 42), none, none, .fieldA 1 (.t 41)⟩,
    ⟨(some 43), none, none, .fieldA 0 (.t 42)⟩,
    ⟨none, none, none, .store 1 (.t 43) (.t 40)⟩] none)))))
      (.fg [0, 1, 6, 21, 22] (.reg [⟨(some 44), none, none, .bin .add (.t 22) (.c (.p (.int .i64 1)))⟩,
    ⟨(some 22), none, none, .mv (.t 44)⟩] none)))))))))))
  (.seq (.reg [⟨(some 9), none, none, .mv (.c (.p (.int .i64 0)))⟩] none)
  (.seq (.seq (.reg [⟨(some 10), none, none, .mv (.c (.p (.int .i64 0)))⟩] none)
  (.fg [0, 1, 6, 9, 10] (.block 2
  (.loop (.fg [0, 1, 6, 9, 10]
    (.seq (.seq (.reg [⟨(some 45), none, none, .mv (.t 10)⟩,
    ⟨(some 46), none, none, .mv (.t 1)⟩,
    ⟨(some 47), none, none, .bin .lss (.t 45) (.t 46)⟩,
    ⟨(some 48), none, none, .mv (.t 47)⟩,
    ⟨(some 49), (some (48, true)), none, .mv (.t 9)⟩,
    ⟨(some 50), (some (48, true)), none, .mv (.t 0)⟩,
    ⟨(some 51), (some (48, true)), none, .len (.t 50)⟩,
    ⟨(some 52), (some (48, true)), none, .bin .lss (.t 49) (.t 51)⟩,
    ⟨(some 53), none, none, .pick (.t 48) (.t 52) (.c (.p (.bool false)))⟩] none)
      (.fg [0, 1, 6, 9, 10, 53] (.cond (.t 53)
        .skip
        (.exit 2))))
      (.seq (.block 3
      (.seq (.seq (.reg [⟨(some 56), none, none, .mv (.t 6)⟩,
    ⟨(some 57), none, none, .mv (.t 9)⟩,
    ⟨(some 58), none, none, .mv (.t 10)⟩,
    ⟨(some 59), none, none, .call .full 74 [.t 56, .t 57, .t 58]⟩,
    ⟨(some 60), none, none, .un .not (.t 59)⟩] none)
        (.fg [0, 1, 6, 9, 10, 60] (.cond (.t 60)
          (.exit 3)
          .skip)))
        (.seq (.seq (.reg [⟨(some 61), none, none, .mv (.t 6)⟩,
    ⟨(some 62), none, none, .nilc (.t 61)⟩,
    ⟨(some 63), none, none, .fieldA 0 (.t 62)⟩,
    ⟨(some 64), none, none, .fieldA 0 (.t 63)⟩,
    ⟨(some 65), none, none, .load false 1 (.t 64)⟩,
    ⟨(some 66), none, none, .mv (.t 9)⟩,
    ⟨(some 67), none, none, .indexA 1 (.t 65) (.t 66)⟩,
    ⟨(some 68), none, none, .load false 1 (.t 67)⟩,
    ⟨(some 69), none, none, .mv (.t 10)⟩,
    ⟨(some 70), none, none, .indexA 2 (.t 68) (.t 69)⟩,
    ⟨(some 71), none, none, .load true 2 (.t 70)⟩,
    ⟨(some 72), none, none, .call .fz 12 [.t 71]⟩,
    ⟨(some 73), none, none, .bin .lss (.t 72) (.c (.p (.int .i64 0)))⟩] none)
        (.fg [0, 1, 6, 9, 10, 73] (.cond (.t 73)
          (.reg [⟨(some 74), none, none, .mv (.t 6)⟩,
    ⟨(some 75), none, none, .mv (.t 9)⟩,
    ⟨(some 76), none, none, .call .full 75 [.t 74, .t 75]⟩] none)
          .skip)))
        (.seq (.seq (.reg [⟨(some 77), none, none, .mv (.t 9)⟩,
    ⟨(some 78), none, none, .mv (.c (.p (.int .i64 0)))⟩] none)
        (.fg [0, 1, 6, 9, 10, 77, 78] (.block 4
        (.loop (.fg [0, 1, 6, 9, 10, 77, 78]
          (.seq (.reg [⟨(some 79), none, none, .bin .lss (.t 78) (.t 77)⟩] none)
            (.seq (.cond (.t 79)
              .skip
              (.exit 4))
            (.fg [0, 1, 6, 9, 10, 77, 78] (.seq (.block 5
            (.seq (.reg [⟨(some 80), none, none, .mv (.t 78)⟩,
    ⟨(some 11), none, none, .mv (.t 80)⟩] none)
              (.seq (.reg [⟨(some 82), none, none, .mv (.t 6)⟩,
    ⟨(some 83), none, none, .nilc (.t 82)⟩,
    ⟨(some 84), none, none, .fieldA 0 (.t 83)⟩,
    ⟨(some 85), none, none, .fieldA 0 (.t 84)⟩,
    ⟨(some 86), none, none, .load false 1 (.t 85)⟩,
    ⟨(some 87), none, none, .mv (.t 11)⟩,
    ⟨(some 88), none, none, .indexA 1 (.t 86) (.t 87)⟩,
    ⟨(some 89), none, none, .load false 1 (.t 88)⟩,
    ⟨(some 90), none, none, .mv (.t 10)⟩,
    ⟨(some 91), none, none, .indexA 2 (.t 89) (.t 90)⟩,
    ⟨(some 92), none, none, .load true 2 (.t 91)⟩,
    ⟨(some 93), none, none, .mv (.t 6)⟩,
    ⟨(some 94), none, none, .nilc (.t 93)⟩,
    ⟨(some 95), none, none, .fieldA 0 (.t 94)⟩,
    ⟨(some 96), none, none, .fieldA 0 (.t 95)⟩,
    ⟨(some 97), none, none, .load false 1 (.t 96)⟩,
    ⟨(some 98), none, none, .mv (.t 9)⟩,
    ⟨(some 99), none, none, .indexA 1 (.t 97) (.t 98)⟩,
    ⟨(some 100), none, none, .load false 1 (.t 99)⟩,
    ⟨(some 101), none, none, .mv (.t 10)⟩,
    ⟨(some 102), none, none, .indexA 2 (.t 100) (.t 101)⟩,
    ⟨(some 103), none, none, .load true 2 (.t 102)⟩,
    ⟨(some 104), none, none, .call .fz 49 [.t 92, .t 103]⟩,
    ⟨(some 81), none, none, .mv (.t 104)⟩,
    ⟨(some 105), none, none, .extract (.t 81) 0⟩,
    ⟨(some 106), none, none, .extract (.t 81) 1⟩,
    ⟨(some 107), none, none, .extract (.t 81) 2⟩,
    ⟨(some 12), none, (some 0), .alloc [.p (.bool false), .nils]⟩,
    ⟨(some 13), none, (some 1), .alloc [.p (.bool false), .nils]⟩,
    ⟨none, none, none, .store 2 (.t 12) (.t 105)⟩,
    ⟨none, none, none, .store 2 (.t 13) (.t 106)⟩,
    ⟨(some 14), none, none, .mv (.t 107)⟩] (some (2, [])))
              (.seq (.reg [⟨(some 108), none, none, .load true 2 (.t 12)⟩,
    ⟨(some 109), none, none, .call .fz 12 [.t 108]⟩,
    ⟨(some 110), none, none, .bin .neq (.t 109) (.c (.p (.int .i64 0)))⟩] none)
              (.fg [0, 1, 6, 9, 10, 11, 12, 77, 78, 110] (.cond (.t 110)
                (.reg [⟨(some 111), none, none, .mv (.t 6)⟩,
    ⟨(some 112), none, none, .mv (.t 11)⟩,
    ⟨(some 113), none, none, .mv (.t 9)⟩,
    ⟨(some 114), none, none, .load true 2 (.t 12)⟩,
    ⟨(some 115), none, none, .call .fz 66 [.t 114]⟩,
    ⟨(some 116), none, none, .call .full 76 [.t 111, .t 112, .t 113, .t 115]⟩] none)
                .skip))))))
            (.fg [0, 1, 6, 9, 10, 77, 78] (.reg [⟨(some 117), none, none, .bin .add (.t 78) (.c (.p (.int .i64 1)))⟩,
    ⟨(some 78), none, none, .mv (.t 117)⟩] none)))))))))))
        (.reg [⟨(some 118), none, none, .mv (.t 9)⟩,
    ⟨(some 119), none, none, .bin .add (.t 118) (.c (.p (.int .i64 1)))⟩,
    ⟨(some 9), none, none, .mv (.t 119)⟩] none)))))
      (.fg [0, 1, 6, 9, 10] (.reg [⟨(some 54), none, none, .mv (.t 10)⟩,
    ⟨(some 55), none, none, .bin .add (.t 54) (.c (.p (.int .i64 1)))⟩,
    ⟨(some 10), none, none, .mv (.t 55)⟩] none)))))))))
  (.seq (.reg [⟨(some 120), none, none, .mv (.t 6)⟩,
    ⟨(some 121), none, none, .mv (.t 9)⟩,
    ⟨(some 4), none, none, .mv (.t 120)⟩,
    ⟨(some 5), none, none, .mv (.t 121)⟩] none)
  .ret)))))),
  [.t 4, .t 5]⟩

theorem c51 : chkF Tryz.prog 51 f51 = true := by kernel_rfl

/-- trammel/herm.basis -/
def f52 : RFun := ⟨(.seq (.reg [⟨(some 4), none, none, .mv (.c (.nils))⟩] none)
  (.seq (.reg [⟨(some 8), none, none, .mv (.t 0)⟩,
    ⟨(some 9), none, none, .mv (.t 1)⟩,
    ⟨(some 10), none, none, .call .keep 51 [.t 8, .t 9]⟩,
    ⟨(some 7), none, none, .mv (.t 10)⟩,
    ⟨(some 11), none, none, .extract (.t 7) 0⟩,
    ⟨(some 12), none, none, .extract (.t 7) 1⟩,
    ⟨(some 5), none, none, .mv (.t 11)⟩,
    ⟨(some 6), none, none, .mv (.t 12)⟩] none)
  (.seq (.reg [⟨(some 13), none, none, .mv (.t 5)⟩,
    ⟨(some 14), none, none, .nilc (.t 13)⟩,
    ⟨(some 15), none, none, .fieldA 0 (.t 14)⟩,
    ⟨(some 16), none, none, .fieldA 0 (.t 15)⟩,
    ⟨(some 17), none, none, .load false 1 (.t 16)⟩,
    ⟨(some 18), none, none, .mv (.t 6)⟩,
    ⟨(some 19), none, none, .mv (.t 6)⟩,
    ⟨(some 20), none, none, .slice 1 (.t 17) none (some (.t 18)) (some (.t 19))⟩,
    ⟨(some 4), none, none, .mv (.t 20)⟩] none)
  .ret))),
  [.t 4]⟩

theorem c52 : chkF Tryz.prog 52 f52 = true := by kernel_rfl

/-- trammel/rat.valid -/
def f65 : RFun := ⟨(.seq (.reg [⟨(some 2), none, none, .mv (.c (.p (.int .i64 0)))⟩] none)
  (.seq (.seq (.reg [⟨(some 5), none, none, .mv (.t 0)⟩,
    ⟨(some 6), none, none, .len (.t 5)⟩,
    ⟨(some 7), none, none, .mv (.c (.p (.int .i64 0)))⟩] none)
  (.fg [5, 6, 7] (.block 0
  (.loop (.fg [5, 6, 7]
    (.seq (.reg [⟨(some 8), none, none, .bin .lss (.t 7) (.t 6)⟩] none)
      (.seq (.cond (.t 8)
        .skip
        (.exit 0))
      (.fg [5, 6, 7] (.seq (.block 1
      (.seq (.reg [⟨(some 9), none, none, .indexA 4 (.t 5) (.t 7)⟩,
    ⟨(some 10), none, none, .load true 4 (.t 9)⟩,
    ⟨(some 4), none, none, .alloc [.p (.bool false), .nils, .p (.bool false), .nils]⟩,
    ⟨none, none, none, .store 4 (.t 4) (.t 10)⟩] none)
        (.seq (.reg [⟨(some 11), none, none, .fieldA 2 (.t 4)⟩,
    ⟨(some 12), none, none, .load true 2 (.t 11)⟩,
    ⟨(some 13), none, none, .call .pu 12 [.t 12]⟩,
    ⟨(some 14), none, none, .bin .leq (.t 13) (.c (.p (.int .i64 0)))⟩] none)
        (.fg [5, 6, 7, 14] (.cond (.t 14)
          (.seq (.reg [⟨(some 2), none, none, .mv (.c (.p (.int .i64 30)))⟩] none)
          .ret)
          .skip)))))
      (.fg [5, 6, 7] (.reg [⟨(some 15), none, none, .bin .add (.t 7) (.c (.p (.int .i64 1)))⟩,
    ⟨(some 7), none, none, .mv (.t 15)⟩] none)))))))))))
  (.seq (.reg [⟨(some 2), none, none, .mv (.c (.p (.int .i64 0)))⟩] none)
  .ret))),
  [.t 2]⟩

theorem c65 : chkF Tryz.prog 65 f65 = true := by kernel_rfl

/-- trammel/zint.Neg -/
def f66 : RFun := ⟨(.seq (.reg [⟨(some 1), none, none, .box (.t 0)⟩,
    ⟨(some 2), none, none, .alloc [.p (.bool false), .nils]⟩] none)
  (.seq (.reg [⟨(some 3), none, none, .fieldA 0 (.t 1)⟩,
    ⟨(some 4), none, none, .load false 1 (.t 3)⟩,
    ⟨(some 5), none, none, .un .not (.t 4)⟩,
    ⟨(some 6), none, none, .fieldA 1 (.t 1)⟩,
    ⟨(some 7), none, none, .load false 1 (.t 6)⟩,
    ⟨(some 8), none, none, .call .pu 26 [.t 5, .t 7]⟩,
    ⟨none, none, none, .store 2 (.t 2) (.t 8)⟩] none)
  .ret)),
  [.cell 2 true 2]⟩

theorem c66 : chkF Tryz.prog 66 f66 = true := by kernel_rfl

/-- trammel/nat.Add -/
def f67 : RFun := ⟨(.seq (.reg [⟨(some 4), none, none, .mv (.c (.nils))⟩] none)
  (.seq (.seq (.reg [⟨(some 8), none, none, .mv (.t 0)⟩,
    ⟨(some 9), none, none, .len (.t 8)⟩,
    ⟨(some 10), none, none, .mv (.t 1)⟩,
    ⟨(some 11), none, none, .len (.t 10)⟩,
    ⟨(some 12), none, none, .bin .lss (.t 9) (.t 11)⟩] none)
  (.fg [0, 1, 12] (.cond (.t 12)
    (.reg [⟨(some 13), none, none, .mv (.t 1)⟩,
    ⟨(some 14), none, none, .mv (.t 0)⟩,
    ⟨(some 0), none, none, .mv (.t 13)⟩,
    ⟨(some 1), none, none, .mv (.t 14)⟩] none)
    .skip)))
  (.seq (.reg [⟨(some 15), none, none, .mv (.t 0)⟩,
    ⟨(some 16), none, none, .len (.t 15)⟩,
    ⟨(some 17), none, none, .bin .add (.t 16) (.c (.p (.int .i64 1)))⟩,
    ⟨(some 18), none, none, .mks false 1 4 (.int .u32 0) (.t 17) (.t 17)⟩,
    ⟨(some 5), none, none, .mv (.t 18)⟩] none)
  (.seq (.reg [⟨(some 6), none, none, .mv (.c (.p (.int .u64 0)))⟩] none)
  (.seq (.seq (.reg [⟨(some 19), none, none, .mv (.t 0)⟩,
    ⟨(some 20), none, none, .len (.t 19)⟩,
    ⟨(some 21), none, none, .mv (.c (.p (.int .i64 0)))⟩] none)
  (.fg [0, 1, 5, 6, 20, 21] (.block 0
  (.loop (.fg [0, 1, 5, 6, 20, 21]
    (.seq (.reg [⟨(some 22), none, none, .bin .lss (.t 21) (.t 20)⟩] none)
      (.seq (.cond (.t 22)
        .skip
        (.exit 0))
      (.fg [0, 1, 5, 6, 20, 21] (.seq (.block 1
      (.seq (.reg [⟨(some 23), none, none, .mv (.t 21)⟩,
    ⟨(some 7), none, none, .mv (.t 23)⟩] none)
        (.seq (.reg [⟨(some 24), none, none, .mv (.t 6)⟩,
    ⟨(some 25), none, none, .mv (.t 0)⟩,
    ⟨(some 26), none, none, .mv (.t 7)⟩,
    ⟨(some 27), none, none, .indexA 1 (.t 25) (.t 26)⟩,
    ⟨(some 28), none, none, .load false 1 (.t 27)⟩,
    ⟨(some 29), none, none, .conv .u64 (.t 28)⟩,
    ⟨(some 30), none, none, .bin .add (.t 24) (.t 29)⟩,
    ⟨(some 6), none, none, .mv (.t 30)⟩] none)
        (.seq (.seq (.reg [⟨(some 31), none, none, .mv (.t 7)⟩,
    ⟨(some 32), none, none, .mv (.t 1)⟩,
    ⟨(some 33), none, none, .len (.t 32)⟩,
    ⟨(some 34), none, none, .bin .lss (.t 31) (.t 33)⟩] none)
        (.fg [0, 1, 5, 6, 7, 20, 21, 34] (.cond (.t 34)
          (.reg [⟨(some 35), none, none, .mv (.t 6)⟩,
    ⟨(some 36), none, none, .mv (.t 1)⟩,
    ⟨(some 37), none, none, .mv (.t 7)⟩,
    ⟨(some 38), none, none, .indexA 1 (.t 36) (.t 37)⟩,
    ⟨(some 39), none, none, .load false 1 (.t 38)⟩,
    ⟨(some 40), none, none, .conv .u64 (.t 39)⟩,
    ⟨(some 41), none, none, .bin .add (.t 35) (.t 40)⟩,
    ⟨(some 6), none, none, .mv (.t 41)⟩] none)
          .skip)))
        (.seq (.reg [⟨(some 42), none, none, .mv (.t 5)⟩,
    ⟨(some 43), none, none, .mv (.t 7)⟩,
    ⟨(some 44), none, none, .mv (.t 6)⟩,
    ⟨(some 45), none, none, .conv .u32 (.t 44)⟩,
    ⟨(some 46), none, none, .indexA 1 (.t 42) (.t 43)⟩,
    ⟨none, none, none, .store 1 (.t 46) (.t 45)⟩] none)
        (.reg [⟨(some 47), none, none, .mv (.t 6)⟩,
    ⟨(some 48), none, none, .bin .shr (.t 47) (.c (.p (.int .u64 32)))⟩,
    ⟨(some 6), none, none, .mv (.t 48)⟩] none))))))
      (.fg [0, 1, 5, 6, 20, 21] (.reg [⟨(some 49), none, none, .bin .add (.t 21) (.c (.p (.int .i64 1)))⟩,
    ⟨(some 21), none, none, .mv (.t 49)⟩] none)))))))))))
  (.seq (.reg [⟨(some 50), none, none, .mv (.t 5)⟩,
    ⟨(some 51), none, none, .mv (.t 0)⟩,
    ⟨(some 52), none, none, .len (.t 51)⟩,
    ⟨(some 53), none, none, .mv (.t 6)⟩,
    ⟨(some 54), none, none, .conv .u32 (.t 53)⟩,
    ⟨(some 55), none, none, .indexA 1 (.t 50) (.t 52)⟩,
    ⟨none, none, none, .store 1 (.t 55) (.t 54)⟩] none)
  (.seq (.reg [⟨(some 56), none, none, .mv (.t 5)⟩,
    ⟨(some 57), none, none, .call .fz 41 [.t 56]⟩,
    ⟨(some 4), none, none, .mv (.t 57)⟩] none)
  .ret))))))),
  [.t 4]⟩

theorem c67 : chkF Tryz.prog 67 f67 = true := by kernel_rfl

/-- trammel/nat.Cmp -/
def f68 : RFun := ⟨(.seq (.reg [⟨(some 4), none, none, .mv (.c (.p (.int .i64 0)))⟩] none)
  (.seq (.reg [⟨(some 6), none, none, .mv (.t 0)⟩,
    ⟨(some 7), none, none, .call .pu 41 [.t 6]⟩,
    ⟨(some 8), none, none, .mv (.t 1)⟩,
    ⟨(some 9), none, none, .call .pu 41 [.t 8]⟩,
    ⟨(some 0), none, none, .mv (.t 7)⟩,
    ⟨(some 1), none, none, .mv (.t 9)⟩] none)
  (.seq (.seq (.reg [⟨(some 10), none, none, .mv (.t 0)⟩,
    ⟨(some 11), none, none, .len (.t 10)⟩,
    ⟨(some 12), none, none, .mv (.t 1)⟩,
    ⟨(some 13), none, none, .len (.t 12)⟩,
    ⟨(some 14), none, none, .bin .neq (.t 11) (.t 13)⟩] none)
  (.fg [0, 1, 14] (.cond (.t 14)
    (.seq (.seq (.reg [⟨(some 15), none, none, .mv (.t 0)⟩,
    ⟨(some 16), none, none, .len (.t 15)⟩,
    ⟨(some 17), none, none, .mv (.t 1)⟩,
    ⟨(some 18), none, none, .len (.t 17)⟩,
    ⟨(some 19), none, none, .bin .lss (.t 16) (.t 18)⟩] none)
    (.fg [19] (.cond (.t 19)
      (.seq (.reg [⟨(some 4), none, none, .mv (.c (.p (.int .i64 (-1))))⟩] none)
      .ret)
      .skip)))
    (.seq (.reg [⟨(some 4), none, none, .mv (.c (.p (.int .i64 1)))⟩] none)
    .ret))
    .skip)))
  (.seq (.seq (.reg [⟨(some 20), none, none, .mv (.t 0)⟩,
    ⟨(some 21), none, none, .len (.t 20)⟩,
    ⟨(some 22), none, none, .bin .sub (.t 21) (.c (.p (.int .i64 1)))⟩,
    ⟨(some 5), none, none, .mv (.t 22)⟩] none)
  (.fg [0, 1, 5] (.block 0
  (.loop (.fg [0, 1, 5]
    (.seq (.seq (.reg [⟨(some 23), none, none, .mv (.t 5)⟩,
    ⟨(some 24), none, none, .bin .geq (.t 23) (.c (.p (.int .i64 0)))⟩] none)
      (.fg [0, 1, 5, 24] (.cond (.t 24)
        .skip
        (.exit 0))))
      (.seq (.block 1
      (.seq (.reg [⟨(some 27), none, none, .mv (.t 0)⟩,
    ⟨(some 28), none, none, .mv (.t 5)⟩,
    ⟨(some 29), none, none, .indexA 1 (.t 27) (.t 28)⟩,
    ⟨(some 30), none, none, .load false 1 (.t 29)⟩,
    ⟨(some 31), none, none, .mv (.t 1)⟩,
    ⟨(some 32), none, none, .mv (.t 5)⟩,
    ⟨(some 33), none, none, .indexA 1 (.t 31) (.t 32)⟩,
    ⟨(some 34), none, none, .load false 1 (.t 33)⟩,
    ⟨(some 35), none, none, .bin .neq (.t 30) (.t 34)⟩] (some (0, [])))
        (.fg [0, 1, 5, 35] (.cond (.t 35)
          (.seq (.seq (.reg [⟨(some 36), none, none, .mv (.t 0)⟩,
    ⟨(some 37), none, none, .mv (.t 5)⟩,
    ⟨(some 38), none, none, .indexA 1 (.t 36) (.t 37)⟩,
    ⟨(some 39), none, none, .load false 1 (.t 38)⟩,
    ⟨(some 40), none, none, .mv (.t 1)⟩,
    ⟨(some 41), none, none, .mv (.t 5)⟩,
    ⟨(some 42), none, none, .indexA 1 (.t 40) (.t 41)⟩,
    ⟨(some 43), none, none, .load false 1 (.t 42)⟩,
    ⟨(some 44), none, none, .bin .lss (.t 39) (.t 43)⟩] (some (0, [])))
          (.fg [44] (.cond (.t 44)
            (.seq (.reg [⟨(some 4), none, none, .mv (.c (.p (.int .i64 (-1))))⟩] none)
            .ret)
            .skip)))
          (.seq (.reg [⟨(some 4), none, none, .mv (.c (.p (.int .i64 1)))⟩] none)
          .ret))
          .skip))))
      (.fg [0, 1, 5] (.reg [⟨(some 25), none, none, .mv (.t 5)⟩,
    ⟨(some 26), none, none, .bin .sub (.t 25) (.c (.p (.int .i64 1)))⟩,
    ⟨(some 5), none, none, .mv (.t 26)⟩] none)))))))))
  (.seq (.reg [⟨(some 4), none, none, .mv (.c (.p (.int .i64 0)))⟩] none)
  .ret))))),
  [.t 4]⟩

theorem c68 : chkF Tryz.prog 68 f68 = true := by kernel_rfl

/-- trammel/nat.Sub -/
def f69 : RFun := ⟨(.seq (.reg [⟨(some 4), none, none, .mv (.c (.nils))⟩,
    ⟨(some 5), none, none, .mv (.c (.p (.int .i64 0)))⟩] none)
  (.seq (.seq (.reg [⟨(some 6), none, none, .mv (.t 0)⟩,
    ⟨(some 7), none, none, .mv (.t 1)⟩,
    ⟨(some 8), none, none, .call .pu 68 [.t 6, .t 7]⟩,
    ⟨(some 9), none, none, .bin .lss (.t 8) (.c (.p (.int .i64 0)))⟩] none)
  (.fg [0, 1, 9] (.cond (.t 9)
    (.seq (.reg [⟨(some 4), none, none, .mv (.c (.nils))⟩,
    ⟨(some 5), none, none, .mv (.c (.p (.int .i64 10)))⟩] none)
    .ret)
    .skip)))
  (.seq (.reg [⟨(some 10), none, none, .mv (.t 0)⟩,
    ⟨(some 11), none, none, .call .pu 41 [.t 10]⟩,
    ⟨(some 12), none, none, .mv (.t 1)⟩,
    ⟨(some 13), none, none, .call .pu 41 [.t 12]⟩,
    ⟨(some 14), none, none, .call .pu 102 [.t 11, .t 13]⟩,
    ⟨(some 4), none, none, .mv (.t 14)⟩,
    ⟨(some 5), none, none, .mv (.c (.p (.int .i64 0)))⟩] none)
  .ret))),
  [.t 4, .t 5]⟩

theorem c69 : chkF Tryz.prog 69 f69 = true := by kernel_rfl

/-- trammel/nat.Gcd -/
def f70 : RFun := ⟨(.seq (.reg [⟨(some 4), none, none, .mv (.c (.nils))⟩] none)
  (.seq (.reg [⟨(some 10), none, none, .mv (.t 0)⟩,
    ⟨(some 11), none, none, .call .pu 103 [.t 10]⟩,
    ⟨(some 12), none, none, .mv (.t 1)⟩,
    ⟨(some 13), none, none, .call .pu 103 [.t 12]⟩,
    ⟨(some 5), none, none, .mv (.t 11)⟩,
    ⟨(some 6), none, none, .mv (.t 13)⟩] none)
  (.seq (.block 0
  (.loop (.fg [5, 6]
    (.seq (.seq (.reg [⟨(some 14), none, none, .mv (.t 6)⟩,
    ⟨(some 15), none, none, .len (.t 14)⟩,
    ⟨(some 16), none, none, .bin .gtr (.t 15) (.c (.p (.int .i64 0)))⟩] none)
      (.fg [5, 6, 16] (.cond (.t 16)
        .skip
        (.exit 0))))
      (.fg [5, 6] (.block 1
      (.seq (.reg [⟨(some 18), none, none, .mv (.t 5)⟩,
    ⟨(some 19), none, none, .mv (.t 6)⟩,
    ⟨(some 20), none, none, .call .pu 71 [.t 18, .t 19]⟩,
    ⟨(some 17), none, none, .mv (.t 20)⟩,
    ⟨(some 21), none, none, .extract (.t 17) 0⟩,
    ⟨(some 22), none, none, .extract (.t 17) 1⟩,
    ⟨(some 23), none, none, .extract (.t 17) 2⟩,
    ⟨(some 7), none, none, .mv (.t 21)⟩,
    ⟨(some 8), none, none, .mv (.t 22)⟩,
    ⟨(some 9), none, none, .mv (.t 23)⟩] none)
        (.reg [⟨(some 24), none, none, .mv (.t 6)⟩,
    ⟨(some 25), none, none, .mv (.t 8)⟩,
    ⟨(some 5), none, none, .mv (.t 24)⟩,
    ⟨(some 6), none, none, .mv (.t 25)⟩] none))))))))
  (.fg [5] (.seq (.reg [⟨(some 26), none, none, .mv (.t 5)⟩,
    ⟨(some 4), none, none, .mv (.t 26)⟩] none)
  .ret))))),
  [.t 4]⟩

theorem c70 : chkF Tryz.prog 70 f70 = true := by kernel_rfl

/-- trammel/nat.Div -/
def f71 : RFun := ⟨(.seq (.reg [⟨(some 4), none, none, .mv (.c (.nils))⟩,
    ⟨(some 5), none, none, .mv (.c (.nils))⟩,
    ⟨(some 6), none, none, .mv (.c (.p (.int .i64 0)))⟩] none)
  (.seq (.reg [⟨(some 14), none, none, .mv (.t 0)⟩,
    ⟨(some 15), none, none, .call .pu 41 [.t 14]⟩,
    ⟨(some 16), none, none, .mv (.t 1)⟩,
    ⟨(some 17), none, none, .call .pu 41 [.t 16]⟩,
    ⟨(some 0), none, none, .mv (.t 15)⟩,
    ⟨(some 1), none, none, .mv (.t 17)⟩] none)
  (.seq (.block 0
  (.seq (.reg [⟨(some 19), none, none, .mv (.t 1)⟩,
    ⟨(some 20), none, none, .len (.t 19)⟩,
    ⟨(some 21), none, none, .bin .eql (.t 20) (.c (.p (.int .i64 0)))⟩,
    ⟨(some 18), none, none, .mv (.t 21)⟩] none)
    (.fg [0, 1, 18] (.cond (.t 18)
      (.seq (.reg [⟨(some 4), none, none, .mv (.c (.nils))⟩,
    ⟨(some 5), none, none, .mv (.c (.nils))⟩,
    ⟨(some 6), none, none, .mv (.c (.p (.int .i64 11)))⟩] none)
      .ret)
      (.seq (.reg [⟨(some 23), none, none, .mv (.t 0)⟩,
    ⟨(some 24), none, none, .mv (.t 1)⟩,
    ⟨(some 25), none, none, .call .pu 68 [.t 23, .t 24]⟩,
    ⟨(some 26), none, none, .bin .lss (.t 25) (.c (.p (.int .i64 0)))⟩,
    ⟨(some 22), none, none, .mv (.t 26)⟩] none)
      (.fg [0, 1, 22] (.cond (.t 22)
        (.seq (.reg [⟨(some 27), none, none, .mv (.t 0)⟩,
    ⟨(some 28), none, none, .call .pu 103 [.t 27]⟩,
    ⟨(some 4), none, none, .mv (.c (.nils))⟩,
    ⟨(some 5), none, none, .mv (.t 28)⟩,
    ⟨(some 6), none, none, .mv (.c (.p (.int .i64 0)))⟩] none)
        .ret)
        (.seq (.reg [⟨(some 30), none, none, .mv (.t 1)⟩,
    ⟨(some 31), none, none, .len (.t 30)⟩,
    ⟨(some 32), none, none, .bin .eql (.t 31) (.c (.p (.int .i64 1)))⟩,
    ⟨(some 29), none, none, .mv (.t 32)⟩] none)
        (.fg [0, 1, 29] (.cond (.t 29)
          (.seq (.reg [⟨(some 34), none, none, .mv (.t 0)⟩,
    ⟨(some 35), none, none, .mv (.t 1)⟩,
    ⟨(some 36), none, none, .indexA 1 (.t 35) (.c (.p (.int .i64 0)))⟩,
    ⟨(some 37), none, none, .load false 1 (.t 36)⟩,
    ⟨(some 38), none, none, .call .pu 104 [.t 34, .t 37]⟩,
    ⟨(some 33), none, none, .mv (.t 38)⟩,
    ⟨(some 39), none, none, .extract (.t 33) 0⟩,
    ⟨(some 40), none, none, .extract (.t 33) 1⟩,
    ⟨(some 7), none, none, .mv (.t 39)⟩,
    ⟨(some 8), none, none, .mv (.t 40)⟩] none)
          (.seq (.reg [⟨(some 41), none, none, .mv (.t 7)⟩,
    ⟨(some 42), none, none, .mv (.t 8)⟩,
    ⟨(some 43), none, none, .bslice 1 [.t 42]⟩,
    ⟨(some 44), none, none, .call .fz 41 [.t 43]⟩,
    ⟨(some 4), none, none, .mv (.t 41)⟩,
    ⟨(some 5), none, none, .mv (.t 44)⟩,
    ⟨(some 6), none, none, .mv (.c (.p (.int .i64 0)))⟩] none)
          .ret))
          .skip))))))))))
  (.fg [0, 1] (.seq (.reg [⟨(some 45), none, none, .mv (.t 1)⟩,
    ⟨(some 46), none, none, .mv (.t 1)⟩,
    ⟨(some 47), none, none, .len (.t 46)⟩,
    ⟨(some 48), none, none, .bin .sub (.t 47) (.c (.p (.int .i64 1)))⟩,
    ⟨(some 49), none, none, .indexA 1 (.t 45) (.t 48)⟩,
    ⟨(some 50), none, none, .load false 1 (.t 49)⟩,
    ⟨(some 51), none, none, .call .pu 105 [.t 50]⟩,
    ⟨(some 9), none, none, .mv (.t 51)⟩] none)
  (.seq (.reg [⟨(some 52), none, none, .mv (.t 1)⟩,
    ⟨(some 53), none, none, .mv (.t 9)⟩,
    ⟨(some 54), none, none, .call .pu 106 [.t 52, .t 53]⟩,
    ⟨(some 10), none, none, .mv (.t 54)⟩] none)
  (.seq (.reg [⟨(some 55), none, none, .mv (.t 0)⟩,
    ⟨(some 56), none, none, .mv (.t 9)⟩,
    ⟨(some 57), none, none, .call .pu 106 [.t 55, .t 56]⟩,
    ⟨(some 58), none, none, .bslice 1 [.c (.p (.int .u32 0)), .c (.p (.int .u32 0))]⟩,
    ⟨(some 59), none, none, .append 1 4 (.t 57) (.t 58)⟩,
    ⟨(some 60), none, none, .mv (.t 0)⟩,
    ⟨(some 61), none, none, .len (.t 60)⟩,
    ⟨(some 62), none, none, .bin .add (.t 61) (.c (.p (.int .i64 1)))⟩,
    ⟨(some 63), none, none, .slice 1 (.t 59) none (some (.t 62)) none⟩,
    ⟨(some 11), none, none, .mv (.t 63)⟩] none)
  (.seq (.reg [⟨(some 64), none, none, .mv (.t 0)⟩,
    ⟨(some 65), none, none, .len (.t 64)⟩,
    ⟨(some 66), none, none, .mv (.t 1)⟩,
    ⟨(some 67), none, none, .len (.t 66)⟩,
    ⟨(some 68), none, none, .bin .sub (.t 65) (.t 67)⟩,
    ⟨(some 69), none, none, .bin .add (.t 68) (.c (.p (.int .i64 1)))⟩,
    ⟨(some 70), none, none, .mks false 1 4 (.int .u32 0) (.t 69) (.t 69)⟩,
    ⟨(some 12), none, none, .mv (.t 70)⟩] none)
  (.seq (.seq (.reg [⟨(some 71), none, none, .mv (.t 0)⟩,
    ⟨(some 72), none, none, .len (.t 71)⟩,
    ⟨(some 73), none, none, .mv (.t 1)⟩,
    ⟨(some 74), none, none, .len (.t 73)⟩,
    ⟨(some 75), none, none, .bin .sub (.t 72) (.t 74)⟩,
    ⟨(some 13), none, none, .mv (.t 75)⟩] none)
  (.fg [9, 10, 11, 12, 13] (.block 1
  (.loop (.fg [9, 10, 11, 12, 13]
    (.seq (.seq (.reg [⟨(some 76), none, none, .mv (.t 13)⟩,
    ⟨(some 77), none, none, .bin .geq (.t 76) (.c (.p (.int .i64 0)))⟩] none)
      (.fg [9, 10, 11, 12, 13, 77] (.cond (.t 77)
        .skip
        (.exit 1))))
      (.seq (.block 2
      (.reg [⟨(some 80), none, none, .mv (.t 12)⟩,
    ⟨(some 81), none, none, .mv (.t 13)⟩,
    ⟨(some 82), none, none, .mv (.t 11)⟩,
    ⟨(some 83), none, none, .mv (.t 13)⟩,
    ⟨(some 84), none, none, .mv (.t 13)⟩,
    ⟨(some 85), none, none, .mv (.t 10)⟩,
    ⟨(some 86), none, none, .len (.t 85)⟩,
    ⟨(some 87), none, none, .bin .add (.t 84) (.t 86)⟩,
    ⟨(some 88), none, none, .bin .add (.t 87) (.c (.p (.int .i64 1)))⟩,
    ⟨(some 89), none, none, .slice 1 (.t 82) (some (.t 83)) (some (.t 88)) none⟩,
    ⟨(some 90), none, none, .mv (.t 10)⟩,
    ⟨(some 91), none, none, .call .fz 107 [.t 89, .t 90]⟩,
    ⟨(some 92), none, none, .indexA 1 (.t 80) (.t 81)⟩,
    ⟨none, none, none, .store 1 (.t 92) (.t 91)⟩] none))
      (.fg [9, 10, 11, 12, 13] (.reg [⟨(some 78), none, none, .mv (.t 13)⟩,
    ⟨(some 79), none, none, .bin .sub (.t 78) (.c (.p (.int .i64 1)))⟩,
    ⟨(some 13), none, none, .mv (.t 79)⟩] none)))))))))
  (.seq (.reg [⟨(some 93), none, none, .mv (.t 12)⟩,
    ⟨(some 94), none, none, .call .fz 41 [.t 93]⟩,
    ⟨(some 95), none, none, .mv (.t 11)⟩,
    ⟨(some 96), none, none, .call .fz 41 [.t 95]⟩,
    ⟨(some 97), none, none, .mv (.t 9)⟩,
    ⟨(some 98), none, none, .call .pu 108 [.t 96, .t 97]⟩,
    ⟨(some 4), none, none, .mv (.t 94)⟩,
    ⟨(some 5), none, none, .mv (.t 98)⟩,
    ⟨(some 6), none, none, .mv (.c (.p (.int .i64 0)))⟩] none)
  .ret)))))))))),
  [.t 4, .t 5, .t 6]⟩

theorem c71 : chkF Tryz.prog 71 f71 = true := by kernel_rfl

/-- trammel/zint.Sub -/
def f72 : RFun := ⟨(.seq (.reg [⟨(some 2), none, none, .box (.t 0)⟩,
    ⟨(some 3), none, none, .box (.t 1)⟩,
    ⟨(some 4), none, none, .alloc [.p (.bool false), .nils]⟩] none)
  (.seq (.reg [⟨(some 5), none, none, .load true 2 (.t 2)⟩,
    ⟨(some 6), none, none, .load true 2 (.t 3)⟩,
    ⟨(some 7), none, none, .call .pu 66 [.t 6]⟩,
    ⟨(some 8), none, none, .call .pu 46 [.t 5, .t 7]⟩,
    ⟨none, none, none, .store 2 (.t 4) (.t 8)⟩] (some (0, [])))
  .ret)),
  [.cell 4 true 2]⟩

theorem c72 : chkF Tryz.prog 72 f72 = true := by kernel_rfl

/-- trammel/mat.Form -/
def f73 : RFun := ⟨(.seq (.reg [⟨(some 2), none, none, .mv (.c (.nils))⟩] none)
  (.seq (.reg [⟨(some 3), none, none, .mv (.t 0)⟩,
    ⟨(some 4), none, none, .call .keep 109 [.t 3, .c (.fn 110 [])]⟩,
    ⟨(some 2), none, none, .mv (.t 4)⟩] none)
  .ret)),
  [.t 2]⟩

theorem c73 : chkF Tryz.prog 73 f73 = true := by kernel_rfl

/-- (*trammel/herm.pair).column -/
def f74 : RFun := ⟨(.seq (.reg [⟨(some 3), none, none, .box (.t 0)⟩,
    ⟨(some 4), none, none, .box (.t 1)⟩,
    ⟨(some 5), none, none, .box (.t 2)⟩,
    ⟨(some 6), none, none, .mv (.c (.p (.bool false)))⟩] none)
  (.seq (.reg [⟨(some 14), none, none, .mkfn 111 [.t 4, .t 3, .t 5]⟩,
    ⟨(some 7), none, none, .mv (.t 14)⟩] none)
  (.fg [3, 4, 5, 7] (.block 0
  (.loop (.fg [3, 4, 5, 7]
    (.block 1
      (.seq (.reg [⟨(some 15), none, none, .mv (.t 7)⟩,
    ⟨(some 16), none, none, .callv .full (.t 15) []⟩,
    ⟨(some 8), none, none, .mv (.t 16)⟩] none)
        (.seq (.seq (.reg [⟨(some 17), none, none, .mv (.t 8)⟩,
    ⟨(some 18), none, none, .bin .lss (.t 17) (.c (.p (.int .i64 0)))⟩] none)
        (.fg [3, 4, 5, 7, 8, 18] (.cond (.t 18)
          (.seq (.reg [⟨(some 6), none, none, .mv (.c (.p (.bool false)))⟩] none)
          .ret)
          .skip)))
        (.seq (.seq (.reg [⟨(some 19), none, none, .mv (.t 8)⟩,
    ⟨(some 20), none, none, .load false 1 (.t 4)⟩,
    ⟨(some 21), none, none, .bin .neq (.t 19) (.t 20)⟩] none)
        (.fg [3, 4, 5, 7, 8, 21] (.cond (.t 21)
          (.reg [⟨(some 22), none, none, .load false 1 (.t 3)⟩,
    ⟨(some 23), none, none, .load false 1 (.t 4)⟩,
    ⟨(some 24), none, none, .mv (.t 8)⟩,
    ⟨(some 25), none, none, .call .full 113 [.t 22, .t 23, .t 24]⟩] none)
          .skip)))
        (.seq (.reg [⟨(some 9), none, none, .mv (.c (.p (.bool true)))⟩] none)
        (.seq (.seq (.reg [⟨(some 26), none, none, .load false 1 (.t 4)⟩,
    ⟨(some 27), none, none, .bin .add (.t 26) (.c (.p (.int .i64 1)))⟩,
    ⟨(some 10), none, none, .mv (.t 27)⟩] none)
        (.fg [3, 4, 5, 7, 9, 10] (.block 2
        (.loop (.fg [3, 4, 5, 7, 9, 10]
          (.seq (.seq (.reg [⟨(some 28), none, none, .mv (.t 10)⟩,
    ⟨(some 29), none, none, .load false 1 (.t 3)⟩,
    ⟨(some 30), none, none, .nilc (.t 29)⟩,
    ⟨(some 31), none, none, .fieldA 0 (.t 30)⟩,
    ⟨(some 32), none, none, .fieldA 0 (.t 31)⟩,
    ⟨(some 33), none, none, .load false 1 (.t 32)⟩,
    ⟨(some 34), none, none, .len (.t 33)⟩,
    ⟨(some 35), none, none, .bin .lss (.t 28) (.t 34)⟩] none)
            (.fg [3, 4, 5, 7, 9, 10, 35] (.cond (.t 35)
              .skip
              (.exit 2))))
            (.seq (.block 3
            (.seq (.reg [⟨(some 39), none, none, .load false 1 (.t 3)⟩,
    ⟨(some 40), none, none, .nilc (.t 39)⟩,
    ⟨(some 41), none, none, .fieldA 0 (.t 40)⟩,
    ⟨(some 42), none, none, .fieldA 0 (.t 41)⟩,
    ⟨(some 43), none, none, .load false 1 (.t 42)⟩,
    ⟨(some 44), none, none, .mv (.t 10)⟩,
    ⟨(some 45), none, none, .indexA 1 (.t 43) (.t 44)⟩,
    ⟨(some 46), none, none, .load false 1 (.t 45)⟩,
    ⟨(some 47), none, none, .load false 1 (.t 5)⟩,
    ⟨(some 48), none, none, .indexA 2 (.t 46) (.t 47)⟩,
    ⟨(some 49), none, none, .load true 2 (.t 48)⟩,
    ⟨(some 50), none, none, .load false 1 (.t 3)⟩,
    ⟨(some 51), none, none, .nilc (.t 50)⟩,
    ⟨(some 52), none, none, .fieldA 0 (.t 51)⟩,
    ⟨(some 53), none, none, .fieldA 0 (.t 52)⟩,
    ⟨(some 54), none, none, .load false 1 (.t 53)⟩,
    ⟨(some 55), none, none, .load false 1 (.t 4)⟩,
    ⟨(some 56), none, none, .indexA 1 (.t 54) (.t 55)⟩,
    ⟨(some 57), none, none, .load false 1 (.t 56)⟩,
    ⟨(some 58), none, none, .load false 1 (.t 5)⟩,
    ⟨(some 59), none, none, .indexA 2 (.t 57) (.t 58)⟩,
    ⟨(some 60), none, none, .load true 2 (.t 59)⟩,
    ⟨(some 61), none, none, .call .pu 49 [.t 49, .t 60]⟩,
    ⟨(some 38), none, none, .mv (.t 61)⟩,
    ⟨(some 62), none, none, .extract (.t 38) 0⟩,
    ⟨(some 63), none, none, .extract (.t 38) 1⟩,
    ⟨(some 64), none, none, .extract (.t 38) 2⟩,
    ⟨(some 11), none, (some 0), .alloc [.p (.bool false), .nils]⟩,
    ⟨(some 12), none, (some 1), .alloc [.p (.bool false), .nils]⟩,
    ⟨none, none, none, .store 2 (.t 11) (.t 62)⟩,
    ⟨none, none, none, .store 2 (.t 12) (.t 63)⟩,
    ⟨(some 13), none, none, .mv (.t 64)⟩] (some (2, [])))
              (.seq (.seq (.reg [⟨(some 65), none, none, .load true 2 (.t 11)⟩,
    ⟨(some 66), none, none, .call .pu 12 [.t 65]⟩,
    ⟨(some 67), none, none, .bin .neq (.t 66) (.c (.p (.int .i64 0)))⟩] none)
              (.fg [3, 4, 5, 7, 9, 10, 11, 67] (.cond (.t 67)
                (.reg [⟨(some 68), none, none, .load false 1 (.t 3)⟩,
    ⟨(some 69), none, none, .mv (.t 10)⟩,
    ⟨(some 70), none, none, .load false 1 (.t 4)⟩,
    ⟨(some 71), none, none, .load true 2 (.t 11)⟩,
    ⟨(some 72), none, none, .call .pu 66 [.t 71]⟩,
    ⟨(some 73), none, none, .call .full 76 [.t 68, .t 69, .t 70, .t 72]⟩] (some (0, [])))
                .skip)))
              (.reg [⟨(some 74), none, none, .mv (.t 9)⟩,
    ⟨(some 75), none, none, .mv (.t 74)⟩,
    ⟨(some 76), (some (75, true)), none, .load false 1 (.t 3)⟩,
    ⟨(some 77), (some (75, true)), none, .nilc (.t 76)⟩,
    ⟨(some 78), (some (75, true)), none, .fieldA 0 (.t 77)⟩,
    ⟨(some 79), (some (75, true)), none, .fieldA 0 (.t 78)⟩,
    ⟨(some 80), (some (75, true)), none, .load false 1 (.t 79)⟩,
    ⟨(some 81), (some (75, true)), none, .mv (.t 10)⟩,
    ⟨(some 82), (some (75, true)), none, .indexA 1 (.t 80) (.t 81)⟩,
    ⟨(some 83), (some (75, true)), none, .load false 1 (.t 82)⟩,
    ⟨(some 84), (some (75, true)), none, .load false 1 (.t 5)⟩,
    ⟨(some 85), (some (75, true)), none, .indexA 2 (.t 83) (.t 84)⟩,
    ⟨(some 86), (some (75, true)), none, .load true 2 (.t 85)⟩,
    ⟨(some 87), (some (75, true)), none, .call .pu 12 [.t 86]⟩,
    ⟨(some 88), (some (75, true)), none, .bin .eql (.t 87) (.c (.p (.int .i64 0)))⟩,
    ⟨(some 89), none, none, .pick (.t 75) (.t 88) (.c (.p (.bool false)))⟩,
    ⟨(some 9), none, none, .mv (.t 89)⟩] (some (0, []))))))
            (.fg [3, 4, 5, 7, 9, 10] (.reg [⟨(some 36), none, none, .mv (.t 10)⟩,
    ⟨(some 37), none, none, .bin .add (.t 36) (.c (.p (.int .i64 1)))⟩,
    ⟨(some 10), none, none, .mv (.t 37)⟩] none)))))))))
        (.seq (.reg [⟨(some 90), none, none, .mv (.t 9)⟩] none)
        (.fg [3, 4, 5, 7, 90] (.cond (.t 90)
          (.seq (.reg [⟨(some 6), none, none, .mv (.c (.p (.bool true)))⟩] none)
          .ret)
          .skip))))))))))))))),
  [.t 6]⟩

theorem c74 : chkF Tryz.prog 74 f74 = true := by kernel_rfl

/-- (*trammel/herm.pair).turn -/
def f75 : RFun := ⟨(.seq (.reg [⟨(some 4), none, none, .mv (.t 0)⟩,
    ⟨(some 5), none, none, .nilc (.t 4)⟩,
    ⟨(some 6), none, none, .fieldA 0 (.t 5)⟩,
    ⟨(some 7), none, none, .mv (.t 1)⟩,
    ⟨(some 8), none, none, .call .full 114 [.t 6, .t 7]⟩] none)
  (.reg [⟨(some 9), none, none, .mv (.t 0)⟩,
    ⟨(some 10), none, none, .nilc (.t 9)⟩,
    ⟨(some 11), none, none, .fieldA 1 (.t 10)⟩,
    ⟨(some 12), none, none, .mv (.t 1)⟩,
    ⟨(some 13), none, none, .call .full 114 [.t 11, .t 12]⟩] none)),
  []⟩

theorem c75 : chkF Tryz.prog 75 f75 = true := by kernel_rfl

/-- (*trammel/herm.pair).add -/
def f76 : RFun := ⟨(.seq (.reg [⟨(some 7), none, none, .box (.t 3)⟩] none)
  (.seq (.reg [⟨(some 8), none, none, .mv (.t 0)⟩,
    ⟨(some 9), none, none, .nilc (.t 8)⟩,
    ⟨(some 10), none, none, .fieldA 0 (.t 9)⟩,
    ⟨(some 11), none, none, .mv (.t 1)⟩,
    ⟨(some 12), none, none, .mv (.t 2)⟩,
    ⟨(some 13), none, none, .load true 2 (.t 7)⟩,
    ⟨(some 14), none, none, .call .full 115 [.t 10, .t 11, .t 12, .t 13]⟩] (some (0, [])))
  (.reg [⟨(some 15), none, none, .mv (.t 0)⟩,
    ⟨(some 16), none, none, .nilc (.t 15)⟩,
    ⟨(some 17), none, none, .fieldA 1 (.t 16)⟩,
    ⟨(some 18), none, none, .mv (.t 1)⟩,
    ⟨(some 19), none, none, .mv (.t 2)⟩,
    ⟨(some 20), none, none, .load true 2 (.t 7)⟩,
    ⟨(some 21), none, none, .call .full 115 [.t 17, .t 18, .t 19, .t 20]⟩] (some (0, []))))),
  []⟩

theorem c76 : chkF Tryz.prog 76 f76 = true := by kernel_rfl

/-- trammel/zint.Compare -/
def f101 : RFun := ⟨(.seq (.reg [⟨(some 2), none, none, .box (.t 0)⟩,
    ⟨(some 3), none, none, .box (.t 1)⟩,
    ⟨(some 4), none, none, .mv (.c (.p (.int .i64 0)))⟩] none)
  (.seq (.reg [⟨(some 7), none, none, .load true 2 (.t 2)⟩,
    ⟨(some 8), none, none, .call .pu 12 [.t 7]⟩,
    ⟨(some 9), none, none, .load true 2 (.t 3)⟩,
    ⟨(some 10), none, none, .call .pu 12 [.t 9]⟩,
    ⟨(some 5), none, none, .mv (.t 8)⟩,
    ⟨(some 6), none, none, .mv (.t 10)⟩] (some (0, [])))
  (.seq (.block 0
  (.seq (.reg [⟨(some 12), none, none, .mv (.t 5)⟩,
    ⟨(some 13), none, none, .mv (.t 6)⟩,
    ⟨(some 14), none, none, .bin .lss (.t 12) (.t 13)⟩,
    ⟨(some 11), none, none, .mv (.t 14)⟩] none)
    (.fg [2, 3, 5, 6, 11] (.cond (.t 11)
      (.seq (.reg [⟨(some 4), none, none, .mv (.c (.p (.int .i64 (-1))))⟩] none)
      .ret)
      (.seq (.reg [⟨(some 16), none, none, .mv (.t 5)⟩,
    ⟨(some 17), none, none, .mv (.t 6)⟩,
    ⟨(some 18), none, none, .bin .gtr (.t 16) (.t 17)⟩,
    ⟨(some 15), none, none, .mv (.t 18)⟩] none)
      (.fg [2, 3, 5, 15] (.cond (.t 15)
        (.seq (.reg [⟨(some 4), none, none, .mv (.c (.p (.int .i64 1)))⟩] none)
        .ret)
        .skip)))))))
  (.fg [2, 3, 5] (.seq (.reg [⟨(some 19), none, none, .mv (.t 5)⟩,
    ⟨(some 20), none, none, .fieldA 1 (.t 2)⟩,
    ⟨(some 21), none, none, .load false 1 (.t 20)⟩,
    ⟨(some 22), none, none, .fieldA 1 (.t 3)⟩,
    ⟨(some 23), none, none, .load false 1 (.t 22)⟩,
    ⟨(some 24), none, none, .call .pu 68 [.t 21, .t 23]⟩,
    ⟨(some 25), none, none, .bin .mul (.t 19) (.t 24)⟩,
    ⟨(some 4), none, none, .mv (.t 25)⟩] none)
  .ret))))),
  [.t 4]⟩

theorem c101 : chkF Tryz.prog 101 f101 = true := by kernel_rfl

/-- trammel/nat.less -/
def f102 : RFun := ⟨(.seq (.reg [⟨(some 4), none, none, .mv (.c (.nils))⟩] none)
  (.seq (.reg [⟨(some 9), none, none, .mv (.t 0)⟩,
    ⟨(some 10), none, none, .len (.t 9)⟩,
    ⟨(some 11), none, none, .mks false 1 4 (.int .u32 0) (.t 10) (.t 10)⟩,
    ⟨(some 5), none, none, .mv (.t 11)⟩] none)
  (.seq (.reg [⟨(some 6), none, none, .mv (.c (.p (.int .u64 0)))⟩] none)
  (.seq (.seq (.reg [⟨(some 12), none, none, .mv (.t 0)⟩,
    ⟨(some 13), none, none, .len (.t 12)⟩,
    ⟨(some 14), none, none, .mv (.c (.p (.int .i64 0)))⟩] none)
  (.fg [0, 1, 5, 6, 13, 14] (.block 0
  (.loop (.fg [0, 1, 5, 6, 13, 14]
    (.seq (.reg [⟨(some 15), none, none, .bin .lss (.t 14) (.t 13)⟩] none)
      (.seq (.cond (.t 15)
        .skip
        (.exit 0))
      (.fg [0, 1, 5, 6, 13, 14] (.seq (.block 1
      (.seq (.reg [⟨(some 16), none, none, .mv (.t 14)⟩,
    ⟨(some 7), none, none, .mv (.t 16)⟩] none)
        (.seq (.reg [⟨(some 17), none, none, .mv (.t 0)⟩,
    ⟨(some 18), none, none, .mv (.t 7)⟩,
    ⟨(some 19), none, none, .indexA 1 (.t 17) (.t 18)⟩,
    ⟨(some 20), none, none, .load false 1 (.t 19)⟩,
    ⟨(some 21), none, none, .conv .u64 (.t 20)⟩,
    ⟨(some 22), none, none, .mv (.t 6)⟩,
    ⟨(some 23), none, none, .bin .sub (.t 21) (.t 22)⟩,
    ⟨(some 8), none, none, .mv (.t 23)⟩] none)
        (.seq (.seq (.reg [⟨(some 24), none, none, .mv (.t 7)⟩,
    ⟨(some 25), none, none, .mv (.t 1)⟩,
    ⟨(some 26), none, none, .len (.t 25)⟩,
    ⟨(some 27), none, none, .bin .lss (.t 24) (.t 26)⟩] none)
        (.fg [0, 1, 5, 7, 8, 13, 14, 27] (.cond (.t 27)
          (.reg [⟨(some 28), none, none, .mv (.t 8)⟩,
    ⟨(some 29), none, none, .mv (.t 1)⟩,
    ⟨(some 30), none, none, .mv (.t 7)⟩,
    ⟨(some 31), none, none, .indexA 1 (.t 29) (.t 30)⟩,
    ⟨(some 32), none, none, .load false 1 (.t 31)⟩,
    ⟨(some 33), none, none, .conv .u64 (.t 32)⟩,
    ⟨(some 34), none, none, .bin .sub (.t 28) (.t 33)⟩,
    ⟨(some 8), none, none, .mv (.t 34)⟩] none)
          .skip)))
        (.seq (.reg [⟨(some 35), none, none, .mv (.t 5)⟩,
    ⟨(some 36), none, none, .mv (.t 7)⟩,
    ⟨(some 37), none, none, .mv (.t 8)⟩,
    ⟨(some 38), none, none, .conv .u32 (.t 37)⟩,
    ⟨(some 39), none, none, .indexA 1 (.t 35) (.t 36)⟩,
    ⟨none, none, none, .store 1 (.t 39) (.t 38)⟩] none)
        (.reg [⟨(some 40), none, none, .mv (.t 8)⟩,
    ⟨(some 41), none, none, .bin .shr (.t 40) (.c (.p (.int .u64 63)))⟩,
    ⟨(some 6), none, none, .mv (.t 41)⟩] none))))))
      (.fg [0, 1, 5, 6, 13, 14] (.reg [⟨(some 42), none, none, .bin .add (.t 14) (.c (.p (.int .i64 1)))⟩,
    ⟨(some 14), none, none, .mv (.t 42)⟩] none)))))))))))
  (.seq (.reg [⟨(some 43), none, none, .mv (.t 5)⟩,
    ⟨(some 44), none, none, .call .fz 41 [.t 43]⟩,
    ⟨(some 4), none, none, .mv (.t 44)⟩] none)
  .ret))))),
  [.t 4]⟩

theorem c102 : chkF Tryz.prog 102 f102 = true := by kernel_rfl

/-- trammel/nat.Norm -/
def f103 : RFun := ⟨(.seq (.reg [⟨(some 2), none, none, .mv (.c (.nils))⟩] none)
  (.seq (.reg [⟨(some 3), none, none, .mv (.t 0)⟩,
    ⟨(some 4), none, none, .call .pu 41 [.t 3]⟩,
    ⟨(some 5), none, none, .append 1 4 (.c (.nils)) (.t 4)⟩,
    ⟨(some 2), none, none, .mv (.t 5)⟩] none)
  .ret)),
  [.t 2]⟩

theorem c103 : chkF Tryz.prog 103 f103 = true := by kernel_rfl

/-- trammel/nat.short -/
def f104 : RFun := ⟨(.seq (.reg [⟨(some 4), none, none, .mv (.c (.nils))⟩,
    ⟨(some 5), none, none, .mv (.c (.p (.int .u32 0)))⟩] none)
  (.seq (.reg [⟨(some 9), none, none, .mv (.t 0)⟩,
    ⟨(some 10), none, none, .len (.t 9)⟩,
    ⟨(some 11), none, none, .mks false 1 4 (.int .u32 0) (.t 10) (.t 10)⟩,
    ⟨(some 6), none, none, .mv (.t 11)⟩] none)
  (.seq (.reg [⟨(some 7), none, none, .mv (.c (.p (.int .u64 0)))⟩] none)
  (.seq (.seq (.reg [⟨(some 12), none, none, .mv (.t 0)⟩,
    ⟨(some 13), none, none, .len (.t 12)⟩,
    ⟨(some 14), none, none, .bin .sub (.t 13) (.c (.p (.int .i64 1)))⟩,
    ⟨(some 8), none, none, .mv (.t 14)⟩] none)
  (.fg [0, 1, 6, 7, 8] (.block 0
  (.loop (.fg [0, 1, 6, 7, 8]
    (.seq (.seq (.reg [⟨(some 15), none, none, .mv (.t 8)⟩,
    ⟨(some 16), none, none, .bin .geq (.t 15) (.c (.p (.int .i64 0)))⟩] none)
      (.fg [0, 1, 6, 7, 8, 16] (.cond (.t 16)
        .skip
        (.exit 0))))
      (.seq (.block 1
      (.seq (.reg [⟨(some 19), none, none, .mv (.t 7)⟩,
    ⟨(some 20), none, none, .bin .shl (.t 19) (.c (.p (.int .u64 32)))⟩,
    ⟨(some 21), none, none, .mv (.t 0)⟩,
    ⟨(some 22), none, none, .mv (.t 8)⟩,
    ⟨(some 23), none, none, .indexA 1 (.t 21) (.t 22)⟩,
    ⟨(some 24), none, none, .load false 1 (.t 23)⟩,
    ⟨(some 25), none, none, .conv .u64 (.t 24)⟩,
    ⟨(some 26), none, none, .bin .or (.t 20) (.t 25)⟩,
    ⟨(some 7), none, none, .mv (.t 26)⟩] none)
        (.seq (.reg [⟨(some 27), none, none, .mv (.t 6)⟩,
    ⟨(some 28), none, none, .mv (.t 8)⟩,
    ⟨(some 29), none, none, .mv (.t 7)⟩,
    ⟨(some 30), none, none, .mv (.t 1)⟩,
    ⟨(some 31), none, none, .conv .u64 (.t 30)⟩,
    ⟨(some 32), none, none, .bin .quo (.t 29) (.t 31)⟩,
    ⟨(some 33), none, none, .conv .u32 (.t 32)⟩,
    ⟨(some 34), none, none, .indexA 1 (.t 27) (.t 28)⟩,
    ⟨none, none, none, .store 1 (.t 34) (.t 33)⟩] none)
        (.reg [⟨(some 35), none, none, .mv (.t 7)⟩,
    ⟨(some 36), none, none, .mv (.t 1)⟩,
    ⟨(some 37), none, none, .conv .u64 (.t 36)⟩,
    ⟨(some 38), none, none, .bin .rem (.t 35) (.t 37)⟩,
    ⟨(some 7), none, none, .mv (.t 38)⟩] none))))
      (.fg [0, 1, 6, 7, 8] (.reg [⟨(some 17), none, none, .mv (.t 8)⟩,
    ⟨(some 18), none, none, .bin .sub (.t 17) (.c (.p (.int .i64 1)))⟩,
    ⟨(some 8), none, none, .mv (.t 18)⟩] none)))))))))
  (.seq (.reg [⟨(some 39), none, none, .mv (.t 6)⟩,
    ⟨(some 40), none, none, .call .fz 41 [.t 39]⟩,
    ⟨(some 41), none, none, .mv (.t 7)⟩,
    ⟨(some 42), none, none, .conv .u32 (.t 41)⟩,
    ⟨(some 4), none, none, .mv (.t 40)⟩,
    ⟨(some 5), none, none, .mv (.t 42)⟩] none)
  .ret))))),
  [.t 4, .t 5]⟩

theorem c104 : chkF Tryz.prog 104 f104 = true := by kernel_rfl

/-- math/bits.LeadingZeros32 -/
def f105 : RFun := ⟨(.seq (.reg [⟨(some 2), none, none, .mv (.c (.p (.int .i64 0)))⟩] none)
  (.seq (.reg [⟨(some 3), none, none, .mv (.t 0)⟩,
    ⟨(some 4), none, none, .call .pu 42 [.t 3]⟩,
    ⟨(some 5), none, none, .bin .sub (.c (.p (.int .i64 32))) (.t 4)⟩,
    ⟨(some 2), none, none, .mv (.t 5)⟩] none)
  .ret)),
  [.t 2]⟩

theorem c105 : chkF Tryz.prog 105 f105 = true := by kernel_rfl

/-- trammel/nat.shl -/
def f106 : RFun := ⟨(.seq (.reg [⟨(some 4), none, none, .mv (.c (.nils))⟩] none)
  (.seq (.reg [⟨(some 10), none, none, .mv (.t 0)⟩,
    ⟨(some 11), none, none, .call .pu 41 [.t 10]⟩,
    ⟨(some 0), none, none, .mv (.t 11)⟩] none)
  (.seq (.seq (.reg [⟨(some 12), none, none, .mv (.t 0)⟩,
    ⟨(some 13), none, none, .len (.t 12)⟩,
    ⟨(some 14), none, none, .bin .eql (.t 13) (.c (.p (.int .i64 0)))⟩] none)
  (.fg [0, 1, 14] (.cond (.t 14)
    (.seq (.reg [⟨(some 4), none, none, .mv (.c (.nils))⟩] none)
    .ret)
    .skip)))
  (.seq (.reg [⟨(some 15), none, none, .mv (.t 1)⟩,
    ⟨(some 16), none, none, .bin .quo (.t 15) (.c (.p (.int .i64 32)))⟩,
    ⟨(some 17), none, none, .mv (.t 1)⟩,
    ⟨(some 18), none, none, .bin .rem (.t 17) (.c (.p (.int .i64 32)))⟩,
    ⟨(some 19), none, none, .conv .u64 (.t 18)⟩,
    ⟨(some 5), none, none, .mv (.t 16)⟩,
    ⟨(some 6), none, none, .mv (.t 19)⟩] none)
  (.seq (.reg [⟨(some 20), none, none, .mv (.t 0)⟩,
    ⟨(some 21), none, none, .len (.t 20)⟩,
    ⟨(some 22), none, none, .mv (.t 5)⟩,
    ⟨(some 23), none, none, .bin .add (.t 21) (.t 22)⟩,
    ⟨(some 24), none, none, .bin .add (.t 23) (.c (.p (.int .i64 1)))⟩,
    ⟨(some 25), none, none, .mks false 1 4 (.int .u32 0) (.t 24) (.t 24)⟩,
    ⟨(some 7), none, none, .mv (.t 25)⟩] none)
  (.seq (.seq (.reg [⟨(some 26), none, none, .mv (.t 0)⟩,
    ⟨(some 27), none, none, .len (.t 26)⟩,
    ⟨(some 28), none, none, .mv (.c (.p (.int .i64 0)))⟩] none)
  (.fg [0, 5, 6, 7, 27, 28] (.block 0
  (.loop (.fg [0, 5, 6, 7, 27, 28]
    (.seq (.reg [⟨(some 29), none, none, .bin .lss (.t 28) (.t 27)⟩] none)
      (.seq (.cond (.t 29)
        .skip
        (.exit 0))
      (.fg [0, 5, 6, 7, 27, 28] (.seq (.block 1
      (.seq (.reg [⟨(some 30), none, none, .mv (.t 28)⟩,
    ⟨(some 8), none, none, .mv (.t 30)⟩] none)
        (.seq (.reg [⟨(some 31), none, none, .mv (.t 0)⟩,
    ⟨(some 32), none, none, .mv (.t 8)⟩,
    ⟨(some 33), none, none, .indexA 1 (.t 31) (.t 32)⟩,
    ⟨(some 34), none, none, .load false 1 (.t 33)⟩,
    ⟨(some 35), none, none, .conv .u64 (.t 34)⟩,
    ⟨(some 36), none, none, .mv (.t 6)⟩,
    ⟨(some 37), none, none, .bin .shl (.t 35) (.t 36)⟩,
    ⟨(some 9), none, none, .mv (.t 37)⟩] none)
        (.seq (.reg [⟨(some 38), none, none, .mv (.t 7)⟩,
    ⟨(some 39), none, none, .mv (.t 8)⟩,
    ⟨(some 40), none, none, .mv (.t 5)⟩,
    ⟨(some 41), none, none, .bin .add (.t 39) (.t 40)⟩,
    ⟨(some 42), none, none, .indexA 1 (.t 38) (.t 41)⟩,
    ⟨(some 43), none, none, .load false 1 (.t 42)⟩,
    ⟨(some 44), none, none, .mv (.t 9)⟩,
    ⟨(some 45), none, none, .conv .u32 (.t 44)⟩,
    ⟨(some 46), none, none, .bin .or (.t 43) (.t 45)⟩,
    ⟨(some 47), none, none, .indexA 1 (.t 38) (.t 41)⟩,
    ⟨none, none, none, .store 1 (.t 47) (.t 46)⟩] none)
        (.reg [⟨(some 48), none, none, .mv (.t 7)⟩,
    ⟨(some 49), none, none, .mv (.t 8)⟩,
    ⟨(some 50), none, none, .mv (.t 5)⟩,
    ⟨(some 51), none, none, .bin .add (.t 49) (.t 50)⟩,
    ⟨(some 52), none, none, .bin .add (.t 51) (.c (.p (.int .i64 1)))⟩,
    ⟨(some 53), none, none, .mv (.t 9)⟩,
    ⟨(some 54), none, none, .bin .shr (.t 53) (.c (.p (.int .u64 32)))⟩,
    ⟨(some 55), none, none, .conv .u32 (.t 54)⟩,
    ⟨(some 56), none, none, .indexA 1 (.t 48) (.t 52)⟩,
    ⟨none, none, none, .store 1 (.t 56) (.t 55)⟩] none)))))
      (.fg [0, 5, 6, 7, 27, 28] (.reg [⟨(some 57), none, none, .bin .add (.t 28) (.c (.p (.int .i64 1)))⟩,
    ⟨(some 28), none, none, .mv (.t 57)⟩] none)))))))))))
  (.seq (.reg [⟨(some 58), none, none, .mv (.t 7)⟩,
    ⟨(some 59), none, none, .call .fz 41 [.t 58]⟩,
    ⟨(some 4), none, none, .mv (.t 59)⟩] none)
  .ret))))))),
  [.t 4]⟩

theorem c106 : chkF Tryz.prog 106 f106 = true := by kernel_rfl

end Go.Proofs.YtnbglampelmgoaaGreat.VRn
