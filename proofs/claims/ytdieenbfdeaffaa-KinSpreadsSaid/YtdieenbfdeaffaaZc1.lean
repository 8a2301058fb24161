/- Resolved code of functions, printed by a program of ours (genfun.py); each is held against the model by chkF; The functions together; Numbers out of a seed; equal matrices; kin.Spread and the reference's; The reference's Spread; the law KinSpreads. No condition. -/
import Derived.Test.YtdieenbfdeaffaaZa2
import Derived.Test.YtdieenbfdeaffaaProg
import Derived.KernelRfl
import Derived.Test.YtdieenbfdeaffaaZb1
import Derived.Test.YtdieenbfdeaffaaZa3
import Derived.Test.YtdieenbfdeaffaaZb3

namespace Go.Proofs.Ytdieenbfdeaffaa.VKs
open Go Vpi
set_option maxRecDepth 100000

/-- trammel/trammellaw26.KinSpreads -/
def f6 : RFun := ⟨(.seq (.reg [⟨(some 6), none, none, .mv (.c (.p (.bool false)))⟩] none)
  (.seq (.reg [⟨(some 12), none, none, .mv (.t 0)⟩,
    ⟨(some 13), none, none, .mv (.t 1)⟩,
    ⟨(some 14), none, none, .mv (.t 2)⟩,
    ⟨(some 15), none, none, .call .pu 22 [.t 12, .t 13, .t 14]⟩,
    ⟨(some 11), none, none, .mv (.t 15)⟩,
    ⟨(some 16), none, none, .extract (.t 11) 0⟩,
    ⟨(some 17), none, none, .extract (.t 11) 1⟩,
    ⟨(some 7), none, none, .mv (.t 16)⟩,
    ⟨(some 8), none, none, .mv (.t 17)⟩] none)
  (.seq (.reg [⟨(some 19), none, none, .mv (.t 0)⟩,
    ⟨(some 20), none, none, .mv (.t 1)⟩,
    ⟨(some 21), none, none, .mv (.t 2)⟩,
    ⟨(some 22), none, none, .call .pu 23 [.t 19, .t 20, .t 21]⟩,
    ⟨(some 18), none, none, .mv (.t 22)⟩,
    ⟨(some 23), none, none, .extract (.t 18) 0⟩,
    ⟨(some 24), none, none, .extract (.t 18) 1⟩,
    ⟨(some 9), none, none, .mv (.t 23)⟩,
    ⟨(some 10), none, none, .mv (.t 24)⟩] none)
  (.seq (.reg [⟨(some 25), none, none, .mv (.t 8)⟩,
    ⟨(some 26), none, none, .mv (.t 10)⟩,
    ⟨(some 27), none, none, .bin .eql (.t 25) (.t 26)⟩,
    ⟨(some 28), none, none, .mv (.t 27)⟩,
    ⟨(some 29), (some (28, true)), none, .mv (.t 7)⟩,
    ⟨(some 30), (some (28, true)), none, .mv (.t 9)⟩,
    ⟨(some 31), (some (28, true)), none, .call .pu 19 [.t 29, .t 30]⟩,
    ⟨(some 32), none, none, .pick (.t 28) (.t 31) (.c (.p (.bool false)))⟩,
    ⟨(some 6), none, none, .mv (.t 32)⟩] none)
  .ret)))),
  [.t 6]⟩

theorem c6 : chkF Try.prog 6 f6 = true := by kernel_rfl

/-- trammel/trammellaw26.KinTwists -/
def f10 : RFun := ⟨(.seq (.reg [⟨(some 6), none, none, .mv (.c (.p (.bool false)))⟩] none)
  (.seq (.reg [⟨(some 14), none, none, .mv (.t 0)⟩,
    ⟨(some 15), none, none, .call .pu 41 [.t 14]⟩,
    ⟨(some 7), none, none, .mv (.t 15)⟩] none)
  (.seq (.reg [⟨(some 17), none, none, .mv (.t 7)⟩,
    ⟨(some 18), none, none, .mv (.t 1)⟩,
    ⟨(some 19), none, none, .mv (.t 2)⟩,
    ⟨(some 20), none, none, .call .pu 42 [.t 17, .t 18, .t 19]⟩,
    ⟨(some 16), none, none, .mv (.t 20)⟩,
    ⟨(some 21), none, none, .extract (.t 16) 0⟩,
    ⟨(some 22), none, none, .extract (.t 16) 1⟩,
    ⟨(some 23), none, none, .extract (.t 16) 2⟩,
    ⟨(some 8), none, none, .mv (.t 21)⟩,
    ⟨(some 9), none, none, .mv (.t 22)⟩,
    ⟨(some 10), none, none, .mv (.t 23)⟩] none)
  (.seq (.reg [⟨(some 25), none, none, .mv (.t 0)⟩,
    ⟨(some 26), none, none, .mv (.t 1)⟩,
    ⟨(some 27), none, none, .mv (.t 2)⟩,
    ⟨(some 28), none, none, .call .pu 43 [.t 25, .t 26, .t 27]⟩,
    ⟨(some 24), none, none, .mv (.t 28)⟩,
    ⟨(some 29), none, none, .extract (.t 24) 0⟩,
    ⟨(some 30), none, none, .extract (.t 24) 1⟩,
    ⟨(some 31), none, none, .extract (.t 24) 2⟩,
    ⟨(some 11), none, none, .mv (.t 29)⟩,
    ⟨(some 12), none, none, .mv (.t 30)⟩,
    ⟨(some 13), none, none, .mv (.t 31)⟩] none)
  (.seq (.reg [⟨(some 32), none, none, .mv (.t 10)⟩,
    ⟨(some 33), none, none, .mv (.t 13)⟩,
    ⟨(some 34), none, none, .bin .eql (.t 32) (.t 33)⟩,
    ⟨(some 35), none, none, .mv (.t 34)⟩,
    ⟨(some 36), (some (35, true)), none, .mv (.t 8)⟩,
    ⟨(some 37), (some (35, true)), none, .mv (.t 11)⟩,
    ⟨(some 38), (some (35, true)), none, .call .pu 19 [.t 36, .t 37]⟩,
    ⟨(some 39), none, none, .pick (.t 35) (.t 38) (.c (.p (.bool false)))⟩,
    ⟨(some 40), none, none, .mv (.t 39)⟩,
    ⟨(some 41), (some (40, true)), none, .mv (.t 9)⟩,
    ⟨(some 42), (some (40, true)), none, .mv (.t 12)⟩,
    ⟨(some 43), (some (40, true)), none, .call .pu 19 [.t 41, .t 42]⟩,
    ⟨(some 44), none, none, .pick (.t 40) (.t 43) (.c (.p (.bool false)))⟩,
    ⟨(some 45), none, none, .mv (.t 44)⟩,
    ⟨(some 46), (some (45, true)), none, .mv (.t 7)⟩,
    ⟨(some 47), (some (45, true)), none, .mv (.t 0)⟩,
    ⟨(some 48), (some (45, true)), none, .call .pu 19 [.t 46, .t 47]⟩,
    ⟨(some 49), none, none, .pick (.t 45) (.t 48) (.c (.p (.bool false)))⟩,
    ⟨(some 6), none, none, .mv (.t 49)⟩] none)
  .ret))))),
  [.t 6]⟩

theorem c10 : chkF Try.prog 10 f10 = true := by kernel_rfl

/-- trammel/trammellaw26.eqm -/
def f19 : RFun := ⟨(.seq (.reg [⟨(some 4), none, none, .mv (.c (.p (.bool false)))⟩] none)
  (.seq (.seq (.reg [⟨(some 6), none, none, .mv (.t 0)⟩,
    ⟨(some 7), none, none, .len (.t 6)⟩,
    ⟨(some 8), none, none, .mv (.t 1)⟩,
    ⟨(some 9), none, none, .len (.t 8)⟩,
    ⟨(some 10), none, none, .bin .neq (.t 7) (.t 9)⟩] none)
  (.fg [0, 1, 10] (.cond (.t 10)
    (.seq (.reg [⟨(some 4), none, none, .mv (.c (.p (.bool false)))⟩] none)
    .ret)
    .skip)))
  (.seq (.seq (.reg [⟨(some 5), none, none, .mv (.c (.p (.int .i64 0)))⟩] none)
  (.fg [0, 1, 5] (.block 0
  (.loop (.fg [0, 1, 5]
    (.seq (.seq (.reg [⟨(some 11), none, none, .mv (.t 5)⟩,
    ⟨(some 12), none, none, .mv (.t 0)⟩,
    ⟨(some 13), none, none, .len (.t 12)⟩,
    ⟨(some 14), none, none, .bin .lss (.t 11) (.t 13)⟩] none)
      (.fg [0, 1, 5, 14] (.cond (.t 14)
        .skip
        (.exit 0))))
      (.seq (.block 1
      (.seq (.reg [⟨(some 17), none, none, .mv (.t 0)⟩,
    ⟨(some 18), none, none, .mv (.t 5)⟩,
    ⟨(some 19), none, none, .indexA 1 (.t 17) (.t 18)⟩,
    ⟨(some 20), none, none, .load false 1 (.t 19)⟩,
    ⟨(some 21), none, none, .mv (.t 1)⟩,
    ⟨(some 22), none, none, .mv (.t 5)⟩,
    ⟨(some 23), none, none, .indexA 1 (.t 21) (.t 22)⟩,
    ⟨(some 24), none, none, .load false 1 (.t 23)⟩,
    ⟨(some 25), none, none, .call .pu 57 [.t 20, .t 24]⟩,
    ⟨(some 26), none, none, .un .not (.t 25)⟩] (some (0, [])))
        (.fg [0, 1, 5, 26] (.cond (.t 26)
          (.seq (.reg [⟨(some 4), none, none, .mv (.c (.p (.bool false)))⟩] none)
          .ret)
          .skip))))
      (.fg [0, 1, 5] (.reg [⟨(some 15), none, none, .mv (.t 5)⟩,
    ⟨(some 16), none, none, .bin .add (.t 15) (.c (.p (.int .i64 1)))⟩,
    ⟨(some 5), none, none, .mv (.t 16)⟩] none)))))))))
  (.seq (.reg [⟨(some 4), none, none, .mv (.c (.p (.bool true)))⟩] none)
  .ret)))),
  [.t 4]⟩

theorem c19 : chkF Try.prog 19 f19 = true := by kernel_rfl

/-- trammel/kin.Spread -/
def f22 : RFun := ⟨(.seq (.reg [⟨(some 6), none, none, .mv (.c (.nils))⟩,
    ⟨(some 7), none, none, .mv (.c (.p (.int .i64 0)))⟩] none)
  (.seq (.seq (.reg [⟨(some 11), none, none, .mv (.t 0)⟩,
    ⟨(some 12), none, none, .bin .lss (.t 11) (.c (.p (.int .i64 1)))⟩,
    ⟨(some 13), none, none, .mv (.t 12)⟩,
    ⟨(some 14), (some (13, false)), none, .mv (.t 0)⟩,
    ⟨(some 15), (some (13, false)), none, .bin .gtr (.t 14) (.c (.p (.int .i64 12)))⟩,
    ⟨(some 16), none, none, .pick (.t 13) (.c (.p (.bool true))) (.t 15)⟩,
    ⟨(some 17), none, none, .mv (.t 16)⟩,
    ⟨(some 18), (some (17, false)), none, .mv (.t 1)⟩,
    ⟨(some 19), (some (17, false)), none, .bin .lss (.t 18) (.c (.p (.int .i64 1)))⟩,
    ⟨(some 20), none, none, .pick (.t 17) (.c (.p (.bool true))) (.t 19)⟩,
    ⟨(some 21), none, none, .mv (.t 20)⟩,
    ⟨(some 22), (some (21, false)), none, .mv (.t 1)⟩,
    ⟨(some 23), (some (21, false)), none, .bin .gtr (.t 22) (.c (.p (.int .i64 63)))⟩,
    ⟨(some 24), none, none, .pick (.t 21) (.c (.p (.bool true))) (.t 23)⟩] none)
  (.fg [0, 1, 2, 24] (.cond (.t 24)
    (.seq (.reg [⟨(some 6), none, none, .mv (.c (.nils))⟩,
    ⟨(some 7), none, none, .mv (.c (.p (.int .i64 1)))⟩] none)
    .ret)
    .skip)))
  (.seq (.reg [⟨(some 25), none, none, .mv (.t 2)⟩,
    ⟨(some 26), none, none, .call .keep 49 [.t 25]⟩,
    ⟨(some 8), none, none, .mv (.t 26)⟩] none)
  (.seq (.reg [⟨(some 9), none, none, .mv (.c (.nils))⟩] none)
  (.seq (.seq (.reg [⟨(some 27), none, none, .mv (.t 0)⟩,
    ⟨(some 28), none, none, .mv (.c (.p (.int .i64 0)))⟩] none)
  (.fg [0, 1, 8, 9, 27, 28] (.block 0
  (.loop (.fg [0, 1, 8, 9, 27, 28]
    (.seq (.reg [⟨(some 29), none, none, .bin .lss (.t 28) (.t 27)⟩] none)
      (.seq (.cond (.t 29)
        .skip
        (.exit 0))
      (.fg [0, 1, 8, 9, 27, 28] (.seq (.block 1
      (.seq (.reg [⟨(some 10), none, none, .mv (.c (.nils))⟩] none)
        (.seq (.seq (.reg [⟨(some 30), none, none, .mv (.t 0)⟩,
    ⟨(some 31), none, none, .mv (.c (.p (.int .i64 0)))⟩] none)
        (.fg [0, 1, 8, 9, 10, 27, 28, 30, 31] (.block 2
        (.loop (.fg [0, 1, 8, 9, 10, 27, 28, 30, 31]
          (.seq (.reg [⟨(some 32), none, none, .bin .lss (.t 31) (.t 30)⟩] none)
            (.seq (.cond (.t 32)
              .skip
              (.exit 2))
            (.fg [0, 1, 8, 9, 10, 27, 28, 30, 31] (.seq (.block 3
            (.reg [⟨(some 33), none, none, .mv (.t 10)⟩,
    ⟨(some 34), none, none, .mv (.t 8)⟩,
    ⟨(some 35), none, none, .mv (.t 1)⟩,
    ⟨(some 36), none, none, .bin .shl (.c (.p (.int .u64 1))) (.t 35)⟩,
    ⟨(some 37), none, none, .callv .full (.t 34) [.t 36]⟩,
    ⟨(some 38), none, none, .conv .i64 (.t 37)⟩,
    ⟨(some 39), none, none, .mv (.t 1)⟩,
    ⟨(some 40), none, none, .bin .sub (.t 39) (.c (.p (.int .i64 1)))⟩,
    ⟨(some 41), none, none, .bin .shl (.c (.p (.int .i64 1))) (.t 40)⟩,
    ⟨(some 42), none, none, .bin .sub (.t 38) (.t 41)⟩,
    ⟨(some 43), none, none, .call .pu 54 [.t 42]⟩,
    ⟨(some 44), none, (some 0), .bslice 2 [.t 43]⟩,
    ⟨(some 45), none, (some 1), .append 2 32 (.t 33) (.t 44)⟩,
    ⟨(some 10), none, none, .mv (.t 45)⟩] (some (2, []))))
            (.fg [0, 1, 8, 9, 10, 27, 28, 30, 31] (.reg [⟨(some 46), none, none, .bin .add (.t 31) (.c (.p (.int .i64 1)))⟩,
    ⟨(some 31), none, none, .mv (.t 46)⟩] none)))))))))))
        (.reg [⟨(some 47), none, none, .mv (.t 9)⟩,
    ⟨(some 48), none, none, .mv (.t 10)⟩,
    ⟨(some 49), none, none, .bslice 1 [.t 48]⟩,
    ⟨(some 50), none, none, .append 1 24 (.t 47) (.t 49)⟩,
    ⟨(some 9), none, none, .mv (.t 50)⟩] none))))
      (.fg [0, 1, 8, 9, 27, 28] (.reg [⟨(some 51), none, none, .bin .add (.t 28) (.c (.p (.int .i64 1)))⟩,
    ⟨(some 28), none, none, .mv (.t 51)⟩] none)))))))))))
  (.seq (.seq (.reg [⟨(some 52), none, none, .mv (.t 9)⟩,
    ⟨(some 53), none, none, .call .peek 59 [.t 52]⟩,
    ⟨(some 54), none, none, .bin .neq (.t 53) (.c (.p (.int .i64 0)))⟩] none)
  (.fg [9, 54] (.cond (.t 54)
    (.seq (.reg [⟨(some 6), none, none, .mv (.c (.nils))⟩,
    ⟨(some 7), none, none, .mv (.c (.p (.int .i64 50)))⟩] none)
    .ret)
    .skip)))
  (.seq (.reg [⟨(some 55), none, none, .mv (.t 9)⟩,
    ⟨(some 6), none, none, .mv (.t 55)⟩,
    ⟨(some 7), none, none, .mv (.c (.p (.int .i64 0)))⟩] none)
  .ret))))))),
  [.t 6, .t 7]⟩

theorem c22 : chkF Try.prog 22 f22 = true := by kernel_rfl

/-- trammel/trammelref26.Spread -/
def f23 : RFun := ⟨(.seq (.reg [⟨(some 6), none, none, .mv (.c (.nils))⟩,
    ⟨(some 7), none, none, .mv (.c (.p (.int .i64 0)))⟩] none)
  (.seq (.seq (.reg [⟨(some 15), none, none, .mv (.t 0)⟩,
    ⟨(some 16), none, none, .bin .lss (.t 15) (.c (.p (.int .i64 1)))⟩,
    ⟨(some 17), none, none, .mv (.t 16)⟩,
    ⟨(some 18), (some (17, false)), none, .mv (.t 0)⟩,
    ⟨(some 19), (some (17, false)), none, .bin .gtr (.t 18) (.c (.p (.int .i64 12)))⟩,
    ⟨(some 20), none, none, .pick (.t 17) (.c (.p (.bool true))) (.t 19)⟩,
    ⟨(some 21), none, none, .mv (.t 20)⟩,
    ⟨(some 22), (some (21, false)), none, .mv (.t 1)⟩,
    ⟨(some 23), (some (21, false)), none, .bin .lss (.t 22) (.c (.p (.int .i64 1)))⟩,
    ⟨(some 24), none, none, .pick (.t 21) (.c (.p (.bool true))) (.t 23)⟩,
    ⟨(some 25), none, none, .mv (.t 24)⟩,
    ⟨(some 26), (some (25, false)), none, .mv (.t 1)⟩,
    ⟨(some 27), (some (25, false)), none, .bin .gtr (.t 26) (.c (.p (.int .i64 63)))⟩,
    ⟨(some 28), none, none, .pick (.t 25) (.c (.p (.bool true))) (.t 27)⟩] none)
  (.fg [0, 1, 2, 28] (.cond (.t 28)
    (.seq (.reg [⟨(some 6), none, none, .mv (.c (.nils))⟩,
    ⟨(some 7), none, none, .mv (.c (.p (.int .i64 1)))⟩] none)
    .ret)
    .skip)))
  (.seq (.reg [⟨(some 29), none, none, .mv (.t 2)⟩,
    ⟨(some 30), none, none, .build [.p (.int .u64 0)] [(0, 1, .t 29)]⟩,
    ⟨(some 31), none, none, .box (.t 30)⟩,
    ⟨(some 8), none, none, .mv (.t 31)⟩] none)
  (.seq (.reg [⟨(some 32), none, none, .mv (.t 1)⟩,
    ⟨(some 33), none, none, .bin .sub (.t 32) (.c (.p (.int .i64 1)))⟩,
    ⟨(some 34), none, none, .conv .u64 (.t 33)⟩,
    ⟨(some 35), none, none, .bin .shl (.c (.p (.int .u64 1))) (.t 34)⟩,
    ⟨(some 36), none, none, .call .pu 56 [.t 35]⟩,
    ⟨(some 9), none, none, .alloc [.p (.bool false), .nils]⟩,
    ⟨none, none, none, .store 2 (.t 9) (.t 36)⟩] none)
  (.seq (.reg [⟨(some 10), none, none, .mv (.c (.nils))⟩] none)
  (.seq (.seq (.reg [⟨(some 11), none, none, .mv (.c (.p (.int .i64 0)))⟩] none)
  (.fg [0, 1, 8, 9, 10, 11] (.block 0
  (.loop (.fg [0, 1, 8, 9, 10, 11]
    (.seq (.seq (.reg [⟨(some 37), none, none, .mv (.t 11)⟩,
    ⟨(some 38), none, none, .mv (.t 0)⟩,
    ⟨(some 39), none, none, .bin .lss (.t 37) (.t 38)⟩] none)
      (.fg [0, 1, 8, 9, 10, 11, 39] (.cond (.t 39)
        .skip
        (.exit 0))))
      (.seq (.block 1
      (.seq (.reg [⟨(some 12), none, none, .mv (.c (.nils))⟩] none)
        (.seq (.seq (.reg [⟨(some 13), none, none, .mv (.c (.p (.int .i64 0)))⟩] none)
        (.fg [0, 1, 8, 9, 10, 11, 12, 13] (.block 2
        (.loop (.fg [0, 1, 8, 9, 10, 11, 12, 13]
          (.seq (.seq (.reg [⟨(some 42), none, none, .mv (.t 13)⟩,
    ⟨(some 43), none, none, .mv (.t 0)⟩,
    ⟨(some 44), none, none, .bin .lss (.t 42) (.t 43)⟩] none)
            (.fg [0, 1, 8, 9, 10, 11, 12, 13, 44] (.cond (.t 44)
              .skip
              (.exit 2))))
            (.seq (.block 3
            (.reg [⟨(some 47), none, none, .mv (.t 12)⟩,
    ⟨(some 48), none, none, .mv (.t 8)⟩,
    ⟨(some 49), none, none, .mv (.t 1)⟩,
    ⟨(some 50), none, none, .conv .u64 (.t 49)⟩,
    ⟨(some 51), none, none, .bin .shl (.c (.p (.int .u64 1))) (.t 50)⟩,
    ⟨(some 52), none, none, .call .cell 50 [.t 48, .t 51]⟩,
    ⟨(some 53), none, none, .call .pu 56 [.t 52]⟩,
    ⟨(some 54), none, none, .load true 2 (.t 9)⟩,
    ⟨(some 55), none, none, .call .pu 60 [.t 53, .t 54]⟩,
    ⟨(some 56), none, (some 0), .bslice 2 [.t 55]⟩,
    ⟨(some 57), none, (some 1), .append 2 32 (.t 47) (.t 56)⟩,
    ⟨(some 12), none, none, .mv (.t 57)⟩] (some (2, [(5, 7)]))))
            (.fg [0, 1, 8, 9, 10, 11, 12, 13] (.reg [⟨(some 45), none, none, .mv (.t 13)⟩,
    ⟨(some 46), none, none, .bin .add (.t 45) (.c (.p (.int .i64 1)))⟩,
    ⟨(some 13), none, none, .mv (.t 46)⟩] none)))))))))
        (.reg [⟨(some 58), none, none, .mv (.t 10)⟩,
    ⟨(some 59), none, none, .mv (.t 12)⟩,
    ⟨(some 60), none, none, .bslice 1 [.t 59]⟩,
    ⟨(some 61), none, none, .append 1 24 (.t 58) (.t 60)⟩,
    ⟨(some 10), none, none, .mv (.t 61)⟩] none))))
      (.fg [0, 1, 8, 9, 10, 11] (.reg [⟨(some 40), none, none, .mv (.t 11)⟩,
    ⟨(some 41), none, none, .bin .add (.t 40) (.c (.p (.int .i64 1)))⟩,
    ⟨(some 11), none, none, .mv (.t 41)⟩] none)))))))))
  (.seq (.reg [⟨(some 62), none, none, .mv (.t 10)⟩,
    ⟨(some 63), none, none, .call .peek 61 [.t 62]⟩,
    ⟨(some 14), none, none, .mv (.t 63)⟩] none)
  (.seq (.seq (.reg [⟨(some 64), none, none, .mv (.t 14)⟩,
    ⟨(some 65), none, none, .bin .neq (.t 64) (.c (.p (.int .i64 0)))⟩] none)
  (.fg [10, 14, 65] (.cond (.t 65)
    (.seq (.reg [⟨(some 66), none, none, .mv (.t 14)⟩,
    ⟨(some 6), none, none, .mv (.c (.nils))⟩,
    ⟨(some 7), none, none, .mv (.t 66)⟩] none)
    .ret)
    .skip)))
  (.seq (.reg [⟨(some 67), none, none, .mv (.t 10)⟩,
    ⟨(some 6), none, none, .mv (.t 67)⟩,
    ⟨(some 7), none, none, .mv (.c (.p (.int .i64 0)))⟩] none)
  .ret))))))))),
  [.t 6, .t 7]⟩

theorem c23 : chkF Try.prog 23 f23 = true := by kernel_rfl

/-- trammel/trammellaw26.ownm -/
def f41 : RFun := ⟨(.seq (.reg [⟨(some 2), none, none, .mv (.c (.nils))⟩] none)
  (.seq (.reg [⟨(some 3), none, none, .mv (.c (.nils))⟩] none)
  (.seq (.seq (.reg [⟨(some 4), none, none, .mv (.c (.p (.int .i64 0)))⟩] none)
  (.fg [0, 3, 4] (.block 0
  (.loop (.fg [0, 3, 4]
    (.seq (.seq (.reg [⟨(some 5), none, none, .mv (.t 4)⟩,
    ⟨(some 6), none, none, .mv (.t 0)⟩,
    ⟨(some 7), none, none, .len (.t 6)⟩,
    ⟨(some 8), none, none, .bin .lss (.t 5) (.t 7)⟩] none)
      (.fg [0, 3, 4, 8] (.cond (.t 8)
        .skip
        (.exit 0))))
      (.seq (.block 1
      (.reg [⟨(some 11), none, none, .mv (.t 3)⟩,
    ⟨(some 12), none, none, .mv (.t 0)⟩,
    ⟨(some 13), none, none, .mv (.t 4)⟩,
    ⟨(some 14), none, none, .indexA 1 (.t 12) (.t 13)⟩,
    ⟨(some 15), none, none, .load false 1 (.t 14)⟩,
    ⟨(some 16), none, none, .call .pu 86 [.t 15]⟩,
    ⟨(some 17), none, none, .bslice 1 [.t 16]⟩,
    ⟨(some 18), none, none, .append 1 24 (.t 11) (.t 17)⟩,
    ⟨(some 3), none, none, .mv (.t 18)⟩] none))
      (.fg [0, 3, 4] (.reg [⟨(some 9), none, none, .mv (.t 4)⟩,
    ⟨(some 10), none, none, .bin .add (.t 9) (.c (.p (.int .i64 1)))⟩,
    ⟨(some 4), none, none, .mv (.t 10)⟩] none)))))))))
  (.seq (.reg [⟨(some 19), none, none, .mv (.t 3)⟩,
    ⟨(some 2), none, none, .mv (.t 19)⟩] none)
  .ret)))),
  [.t 2]⟩

theorem c41 : chkF Try.prog 41 f41 = true := by kernel_rfl

/-- trammel/kin.Twist -/
def f42 : RFun := ⟨(.seq (.reg [⟨(some 6), none, none, .mv (.c (.nils))⟩,
    ⟨(some 7), none, none, .mv (.c (.nils))⟩,
    ⟨(some 8), none, none, .mv (.c (.p (.int .i64 0)))⟩] none)
  (.seq (.seq (.reg [⟨(some 15), none, none, .mv (.t 0)⟩,
    ⟨(some 16), none, none, .call .pu 59 [.t 15]⟩,
    ⟨(some 9), none, none, .mv (.t 16)⟩] none)
  (.seq (.reg [⟨(some 17), none, none, .mv (.t 9)⟩,
    ⟨(some 18), none, none, .bin .neq (.t 17) (.c (.p (.int .i64 0)))⟩] none)
  (.fg [0, 1, 2, 9, 18] (.cond (.t 18)
    (.seq (.reg [⟨(some 19), none, none, .mv (.t 9)⟩,
    ⟨(some 6), none, none, .mv (.c (.nils))⟩,
    ⟨(some 7), none, none, .mv (.c (.nils))⟩,
    ⟨(some 8), none, none, .mv (.t 19)⟩] none)
    .ret)
    .skip))))
  (.seq (.seq (.reg [⟨(some 20), none, none, .mv (.t 2)⟩,
    ⟨(some 21), none, none, .bin .lss (.t 20) (.c (.p (.int .i64 0)))⟩,
    ⟨(some 22), none, none, .mv (.t 21)⟩,
    ⟨(some 23), (some (22, false)), none, .mv (.t 2)⟩,
    ⟨(some 24), (some (22, false)), none, .bin .gtr (.t 23) (.c (.p (.int .i64 256)))⟩,
    ⟨(some 25), none, none, .pick (.t 22) (.c (.p (.bool true))) (.t 24)⟩] none)
  (.fg [0, 1, 2, 25] (.cond (.t 25)
    (.seq (.reg [⟨(some 6), none, none, .mv (.c (.nils))⟩,
    ⟨(some 7), none, none, .mv (.c (.nils))⟩,
    ⟨(some 8), none, none, .mv (.c (.p (.int .i64 1)))⟩] none)
    .ret)
    .skip)))
  (.seq (.reg [⟨(some 26), none, none, .mv (.t 0)⟩,
    ⟨(some 27), none, none, .call .keep 70 [.t 26]⟩,
    ⟨(some 10), none, none, .mv (.t 27)⟩] none)
  (.seq (.reg [⟨(some 29), none, none, .mv (.t 0)⟩,
    ⟨(some 30), none, none, .len (.t 29)⟩,
    ⟨(some 31), none, none, .call .keep 87 [.t 30]⟩,
    ⟨(some 28), none, none, .mv (.t 31)⟩,
    ⟨(some 32), none, none, .extract (.t 28) 0⟩,
    ⟨(some 33), none, none, .extract (.t 28) 1⟩,
    ⟨(some 11), none, none, .mv (.t 32)⟩,
    ⟨(some 12), none, none, .mv (.t 33)⟩] none)
  (.seq (.reg [⟨(some 34), none, none, .mv (.t 1)⟩,
    ⟨(some 35), none, none, .call .keep 49 [.t 34]⟩,
    ⟨(some 36), none, none, .mv (.t 1)⟩,
    ⟨(some 37), none, none, .call .keep 49 [.t 36]⟩,
    ⟨(some 13), none, none, .mv (.t 35)⟩,
    ⟨(some 14), none, none, .mv (.t 37)⟩] none)
  (.seq (.seq (.reg [⟨(some 38), none, none, .mv (.t 2)⟩,
    ⟨(some 39), none, none, .mv (.c (.p (.int .i64 0)))⟩] none)
  (.fg [10, 11, 13, 14, 38, 39] (.block 0
  (.loop (.fg [10, 11, 13, 14, 38, 39]
    (.seq (.reg [⟨(some 40), none, none, .bin .lss (.t 39) (.t 38)⟩] none)
      (.seq (.cond (.t 40)
        .skip
        (.exit 0))
      (.fg [10, 11, 13, 14, 38, 39] (.seq (.block 1
      (.seq (.reg [⟨(some 41), none, none, .mv (.t 10)⟩,
    ⟨(some 42), none, none, .mv (.t 13)⟩,
    ⟨(some 43), none, none, .call .full 88 [.t 41, .t 42]⟩] none)
        (.seq (.reg [⟨(some 44), none, none, .mv (.t 11)⟩,
    ⟨(some 45), none, none, .mv (.t 14)⟩,
    ⟨(some 46), none, none, .call .full 88 [.t 44, .t 45]⟩] none)
        (.seq (.reg [⟨(some 47), none, none, .mv (.t 10)⟩,
    ⟨(some 48), none, none, .call .peek 80 [.t 47]⟩,
    ⟨(some 49), none, none, .bin .gtr (.t 48) (.c (.p (.int .i64 256)))⟩] none)
        (.fg [10, 11, 13, 14, 38, 39, 49] (.cond (.t 49)
          (.seq (.reg [⟨(some 6), none, none, .mv (.c (.nils))⟩,
    ⟨(some 7), none, none, .mv (.c (.nils))⟩,
    ⟨(some 8), none, none, .mv (.c (.p (.int .i64 40)))⟩] none)
          .ret)
          .skip))))))
      (.fg [10, 11, 13, 14, 38, 39] (.reg [⟨(some 50), none, none, .bin .add (.t 39) (.c (.p (.int .i64 1)))⟩,
    ⟨(some 39), none, none, .mv (.t 50)⟩] none)))))))))))
  (.seq (.reg [⟨(some 51), none, none, .mv (.t 10)⟩,
    ⟨(some 52), none, none, .mv (.t 11)⟩,
    ⟨(some 6), none, none, .mv (.t 51)⟩,
    ⟨(some 7), none, none, .mv (.t 52)⟩,
    ⟨(some 8), none, none, .mv (.c (.p (.int .i64 0)))⟩] none)
  .ret)))))))),
  [.t 6, .t 7, .t 8]⟩

theorem c42 : chkF Try.prog 42 f42 = true := by kernel_rfl

/-- trammel/trammelref26.Twist -/
def f43 : RFun := ⟨(.seq (.reg [⟨(some 6), none, none, .mv (.c (.nils))⟩,
    ⟨(some 7), none, none, .mv (.c (.nils))⟩,
    ⟨(some 8), none, none, .mv (.c (.p (.int .i64 0)))⟩] none)
  (.seq (.reg [⟨(some 19), none, none, .mv (.t 0)⟩,
    ⟨(some 20), none, none, .call .pu 61 [.t 19]⟩,
    ⟨(some 9), none, none, .mv (.t 20)⟩] none)
  (.seq (.seq (.reg [⟨(some 21), none, none, .mv (.t 9)⟩,
    ⟨(some 22), none, none, .bin .neq (.t 21) (.c (.p (.int .i64 0)))⟩] none)
  (.fg [0, 1, 2, 9, 22] (.cond (.t 22)
    (.seq (.reg [⟨(some 23), none, none, .mv (.t 9)⟩,
    ⟨(some 6), none, none, .mv (.c (.nils))⟩,
    ⟨(some 7), none, none, .mv (.c (.nils))⟩,
    ⟨(some 8), none, none, .mv (.t 23)⟩] none)
    .ret)
    .skip)))
  (.seq (.seq (.reg [⟨(some 24), none, none, .mv (.t 2)⟩,
    ⟨(some 25), none, none, .bin .lss (.t 24) (.c (.p (.int .i64 0)))⟩,
    ⟨(some 26), none, none, .mv (.t 25)⟩,
    ⟨(some 27), (some (26, false)), none, .mv (.t 2)⟩,
    ⟨(some 28), (some (26, false)), none, .bin .gtr (.t 27) (.c (.p (.int .i64 256)))⟩,
    ⟨(some 29), none, none, .pick (.t 26) (.c (.p (.bool true))) (.t 28)⟩] none)
  (.fg [0, 1, 2, 29] (.cond (.t 29)
    (.seq (.reg [⟨(some 6), none, none, .mv (.c (.nils))⟩,
    ⟨(some 7), none, none, .mv (.c (.nils))⟩,
    ⟨(some 8), none, none, .mv (.c (.p (.int .i64 1)))⟩] none)
    .ret)
    .skip)))
  (.seq (.reg [⟨(some 30), none, none, .mv (.t 0)⟩,
    ⟨(some 31), none, none, .len (.t 30)⟩,
    ⟨(some 10), none, none, .mv (.t 31)⟩] none)
  (.seq (.reg [⟨(some 32), none, none, .mv (.t 0)⟩,
    ⟨(some 33), none, none, .call .keep 89 [.t 32]⟩,
    ⟨(some 11), none, none, .mv (.t 33)⟩] none)
  (.seq (.reg [⟨(some 35), none, none, .mv (.t 10)⟩,
    ⟨(some 36), none, none, .call .keep 90 [.t 35]⟩,
    ⟨(some 34), none, none, .mv (.t 36)⟩,
    ⟨(some 37), none, none, .extract (.t 34) 0⟩,
    ⟨(some 38), none, none, .extract (.t 34) 1⟩,
    ⟨(some 12), none, none, .mv (.t 37)⟩,
    ⟨(some 13), none, none, .mv (.t 38)⟩] none)
  (.seq (.reg [⟨(some 39), none, none, .mv (.t 1)⟩,
    ⟨(some 40), none, none, .build [.p (.int .u64 0)] [(0, 1, .t 39)]⟩,
    ⟨(some 41), none, none, .box (.t 40)⟩,
    ⟨(some 14), none, none, .mv (.t 41)⟩] none)
  (.seq (.seq (.reg [⟨(some 15), none, none, .mv (.c (.p (.int .i64 0)))⟩] none)
  (.fg [2, 10, 11, 12, 14, 15] (.block 0
  (.loop (.fg [2, 10, 11, 12, 14, 15]
    (.seq (.seq (.reg [⟨(some 42), none, none, .mv (.t 15)⟩,
    ⟨(some 43), none, none, .mv (.t 2)⟩,
    ⟨(some 44), none, none, .bin .lss (.t 42) (.t 43)⟩] none)
      (.fg [2, 10, 11, 12, 14, 15, 44] (.cond (.t 44)
        .skip
        (.exit 0))))
      (.seq (.block 1
      (.seq (.reg [⟨(some 16), none, none, .mv (.c (.p (.int .i64 0)))⟩,
    ⟨(some 17), none, none, .mv (.c (.p (.int .i64 0)))⟩] none)
        (.seq (.seq (.reg [⟨(some 47), none, none, .mv (.t 10)⟩,
    ⟨(some 48), none, none, .bin .gtr (.t 47) (.c (.p (.int .i64 1)))⟩] none)
        (.fg [2, 10, 11, 12, 14, 15, 16, 17, 48] (.cond (.t 48)
          (.seq (.reg [⟨(some 49), none, none, .mv (.t 14)⟩,
    ⟨(some 50), none, none, .mv (.t 10)⟩,
    ⟨(some 51), none, none, .conv .u64 (.t 50)⟩,
    ⟨(some 52), none, none, .call .full 50 [.t 49, .t 51]⟩,
    ⟨(some 53), none, none, .conv .i64 (.t 52)⟩,
    ⟨(some 16), none, none, .mv (.t 53)⟩] none)
          (.seq (.reg [⟨(some 54), none, none, .mv (.t 14)⟩,
    ⟨(some 55), none, none, .mv (.t 10)⟩,
    ⟨(some 56), none, none, .bin .sub (.t 55) (.c (.p (.int .i64 1)))⟩,
    ⟨(some 57), none, none, .conv .u64 (.t 56)⟩,
    ⟨(some 58), none, none, .call .full 50 [.t 54, .t 57]⟩,
    ⟨(some 59), none, none, .conv .i64 (.t 58)⟩,
    ⟨(some 17), none, none, .mv (.t 59)⟩] none)
          (.seq (.reg [⟨(some 60), none, none, .mv (.t 17)⟩,
    ⟨(some 61), none, none, .mv (.t 16)⟩,
    ⟨(some 62), none, none, .bin .geq (.t 60) (.t 61)⟩] none)
          (.fg [2, 10, 11, 12, 14, 15, 16, 17, 62] (.cond (.t 62)
            (.reg [⟨(some 63), none, none, .mv (.t 17)⟩,
    ⟨(some 64), none, none, .bin .add (.t 63) (.c (.p (.int .i64 1)))⟩,
    ⟨(some 17), none, none, .mv (.t 64)⟩] none)
            .skip)))))
          .skip)))
        (.seq (.reg [⟨(some 65), none, none, .mv (.t 14)⟩,
    ⟨(some 66), none, none, .call .full 50 [.t 65, .c (.p (.int .u64 4))]⟩,
    ⟨(some 18), none, none, .mv (.t 66)⟩] none)
        (.seq (.seq (.reg [⟨(some 67), none, none, .mv (.t 10)⟩,
    ⟨(some 68), none, none, .bin .gtr (.t 67) (.c (.p (.int .i64 1)))⟩,
    ⟨(some 69), none, none, .mv (.t 68)⟩,
    ⟨(some 70), (some (69, false)), none, .mv (.t 18)⟩,
    ⟨(some 71), (some (69, false)), none, .bin .eql (.t 70) (.c (.p (.int .u64 3)))⟩,
    ⟨(some 72), none, none, .pick (.t 69) (.c (.p (.bool true))) (.t 71)⟩] none)
        (.fg [2, 10, 11, 12, 14, 15, 16, 17, 18, 72] (.cond (.t 72)
          (.seq (.reg [⟨(some 73), none, none, .mv (.t 11)⟩,
    ⟨(some 74), none, none, .mv (.t 16)⟩,
    ⟨(some 75), none, none, .mv (.t 17)⟩,
    ⟨(some 76), none, none, .mv (.t 18)⟩,
    ⟨(some 77), none, none, .call .full 91 [.t 73, .t 74, .t 75, .t 76]⟩] none)
          (.reg [⟨(some 78), none, none, .mv (.t 12)⟩,
    ⟨(some 79), none, none, .mv (.t 16)⟩,
    ⟨(some 80), none, none, .mv (.t 17)⟩,
    ⟨(some 81), none, none, .mv (.t 18)⟩,
    ⟨(some 82), none, none, .call .full 91 [.t 78, .t 79, .t 80, .t 81]⟩] none))
          .skip)))
        (.seq (.reg [⟨(some 83), none, none, .mv (.t 11)⟩,
    ⟨(some 84), none, none, .call .peek 92 [.t 83]⟩,
    ⟨(some 85), none, none, .bin .gtr (.t 84) (.c (.p (.int .i64 256)))⟩] none)
        (.fg [2, 10, 11, 12, 14, 15, 85] (.cond (.t 85)
          (.seq (.reg [⟨(some 6), none, none, .mv (.c (.nils))⟩,
    ⟨(some 7), none, none, .mv (.c (.nils))⟩,
    ⟨(some 8), none, none, .mv (.c (.p (.int .i64 40)))⟩] none)
          .ret)
          .skip))))))))
      (.fg [2, 10, 11, 12, 14, 15] (.reg [⟨(some 45), none, none, .mv (.t 15)⟩,
    ⟨(some 46), none, none, .bin .add (.t 45) (.c (.p (.int .i64 1)))⟩,
    ⟨(some 15), none, none, .mv (.t 46)⟩] none)))))))))
  (.seq (.reg [⟨(some 86), none, none, .mv (.t 11)⟩,
    ⟨(some 87), none, none, .mv (.t 12)⟩,
    ⟨(some 6), none, none, .mv (.t 86)⟩,
    ⟨(some 7), none, none, .mv (.t 87)⟩,
    ⟨(some 8), none, none, .mv (.c (.p (.int .i64 0)))⟩] none)
  .ret)))))))))),
  [.t 6, .t 7, .t 8]⟩

theorem c43 : chkF Try.prog 43 f43 = true := by kernel_rfl

/-- trammel/kin.chance -/
def f49 : RFun := ⟨(.seq (.reg [⟨(some 2), none, none, .mv (.c (.any))⟩] none)
  (.seq (.reg [⟨(some 4), none, none, .mv (.t 0)⟩,
    ⟨(some 3), none, none, .alloc [.p (.int .u64 0)]⟩,
    ⟨none, none, none, .store 1 (.t 3) (.t 4)⟩] none)
  (.seq (.reg [⟨(some 5), none, none, .mkfn 104 [.t 3]⟩,
    ⟨(some 2), none, none, .mv (.t 5)⟩] none)
  .ret))),
  [.t 2]⟩

theorem c49 : chkF Try.prog 49 f49 = true := by kernel_rfl

/-- (*trammel/trammelref26.Chance).Below -/
def f50 : RFun := ⟨(.seq (.reg [⟨(some 4), none, none, .mv (.c (.p (.int .u64 0)))⟩] none)
  (.seq (.reg [⟨(some 6), none, none, .mv (.t 0)⟩,
    ⟨(some 7), none, none, .mv (.t 0)⟩,
    ⟨(some 8), none, none, .nilc (.t 7)⟩,
    ⟨(some 9), none, none, .fieldA 0 (.t 8)⟩,
    ⟨(some 10), none, none, .load false 1 (.t 9)⟩,
    ⟨(some 11), none, none, .bin .add (.t 10) (.c (.p (.int .u64 11400714819323198485)))⟩,
    ⟨(some 12), none, none, .nilc (.t 6)⟩,
    ⟨(some 13), none, none, .fieldA 0 (.t 12)⟩,
    ⟨none, none, none, .store 1 (.t 13) (.t 11)⟩] none)
  (.seq (.reg [⟨(some 14), none, none, .mv (.t 0)⟩,
    ⟨(some 15), none, none, .nilc (.t 14)⟩,
    ⟨(some 16), none, none, .fieldA 0 (.t 15)⟩,
    ⟨(some 17), none, none, .load false 1 (.t 16)⟩,
    ⟨(some 5), none, none, .mv (.t 17)⟩] none)
  (.seq (.reg [⟨(some 18), none, none, .mv (.t 5)⟩,
    ⟨(some 19), none, none, .mv (.t 5)⟩,
    ⟨(some 20), none, none, .bin .shr (.t 19) (.c (.p (.int .u64 30)))⟩,
    ⟨(some 21), none, none, .bin .xor (.t 18) (.t 20)⟩,
    ⟨(some 22), none, none, .bin .mul (.t 21) (.c (.p (.int .u64 13787848793156543929)))⟩,
    ⟨(some 5), none, none, .mv (.t 22)⟩] none)
  (.seq (.reg [⟨(some 23), none, none, .mv (.t 5)⟩,
    ⟨(some 24), none, none, .mv (.t 5)⟩,
    ⟨(some 25), none, none, .bin .shr (.t 24) (.c (.p (.int .u64 27)))⟩,
    ⟨(some 26), none, none, .bin .xor (.t 23) (.t 25)⟩,
    ⟨(some 27), none, none, .bin .mul (.t 26) (.c (.p (.int .u64 10723151780598845931)))⟩,
    ⟨(some 5), none, none, .mv (.t 27)⟩] none)
  (.seq (.reg [⟨(some 28), none, none, .mv (.t 5)⟩,
    ⟨(some 29), none, none, .mv (.t 5)⟩,
    ⟨(some 30), none, none, .bin .shr (.t 29) (.c (.p (.int .u64 31)))⟩,
    ⟨(some 31), none, none, .bin .xor (.t 28) (.t 30)⟩,
    ⟨(some 32), none, none, .mv (.t 1)⟩,
    ⟨(some 33), none, none, .bin .rem (.t 31) (.t 32)⟩,
    ⟨(some 4), none, none, .mv (.t 33)⟩] none)
  .ret)))))),
  [.t 4]⟩

theorem c50 : chkF Try.prog 50 f50 = true := by kernel_rfl

/-- trammel/trammelref26.of -/
def f56 : RFun := ⟨(.seq (.reg [⟨(some 2), none, none, .alloc [.p (.bool false), .nils]⟩] none)
  (.seq (.reg [⟨(some 3), none, none, .mv (.t 0)⟩,
    ⟨(some 4), none, none, .conv .u32 (.t 3)⟩,
    ⟨(some 5), none, none, .mv (.t 0)⟩,
    ⟨(some 6), none, none, .bin .shr (.t 5) (.c (.p (.int .u64 32)))⟩,
    ⟨(some 7), none, none, .conv .u32 (.t 6)⟩,
    ⟨(some 8), none, none, .bslice 1 [.t 4, .t 7]⟩,
    ⟨(some 9), none, none, .build [.p (.bool false), .nils] [(1, 1, .t 8)]⟩,
    ⟨(some 10), none, none, .call .fz 68 [.t 9]⟩,
    ⟨none, none, none, .store 2 (.t 2) (.t 10)⟩] none)
  .ret)),
  [.cell 2 true 2]⟩

theorem c56 : chkF Try.prog 56 f56 = true := by kernel_rfl

/-- trammel/trammellaw26.eqs -/
def f57 : RFun := ⟨(.seq (.reg [⟨(some 4), none, none, .mv (.c (.p (.bool false)))⟩] none)
  (.seq (.seq (.reg [⟨(some 6), none, none, .mv (.t 0)⟩,
    ⟨(some 7), none, none, .len (.t 6)⟩,
    ⟨(some 8), none, none, .mv (.t 1)⟩,
    ⟨(some 9), none, none, .len (.t 8)⟩,
    ⟨(some 10), none, none, .bin .neq (.t 7) (.t 9)⟩] none)
  (.fg [0, 1, 10] (.cond (.t 10)
    (.seq (.reg [⟨(some 4), none, none, .mv (.c (.p (.bool false)))⟩] none)
    .ret)
    .skip)))
  (.seq (.seq (.reg [⟨(some 5), none, none, .mv (.c (.p (.int .i64 0)))⟩] none)
  (.fg [0, 1, 5] (.block 0
  (.loop (.fg [0, 1, 5]
    (.seq (.seq (.reg [⟨(some 11), none, none, .mv (.t 5)⟩,
    ⟨(some 12), none, none, .mv (.t 0)⟩,
    ⟨(some 13), none, none, .len (.t 12)⟩,
    ⟨(some 14), none, none, .bin .lss (.t 11) (.t 13)⟩] none)
      (.fg [0, 1, 5, 14] (.cond (.t 14)
        .skip
        (.exit 0))))
      (.seq (.block 1
      (.seq (.reg [⟨(some 17), none, none, .mv (.t 0)⟩,
    ⟨(some 18), none, none, .mv (.t 5)⟩,
    ⟨(some 19), none, none, .indexA 2 (.t 17) (.t 18)⟩,
    ⟨(some 20), none, none, .load true 2 (.t 19)⟩,
    ⟨(some 21), none, none, .mv (.t 1)⟩,
    ⟨(some 22), none, none, .mv (.t 5)⟩,
    ⟨(some 23), none, none, .indexA 2 (.t 21) (.t 22)⟩,
    ⟨(some 24), none, none, .load true 2 (.t 23)⟩,
    ⟨(some 25), none, none, .call .pu 106 [.t 20, .t 24]⟩,
    ⟨(some 26), none, none, .un .not (.t 25)⟩] (some (0, [])))
        (.fg [0, 1, 5, 26] (.cond (.t 26)
          (.seq (.reg [⟨(some 4), none, none, .mv (.c (.p (.bool false)))⟩] none)
          .ret)
          .skip))))
      (.fg [0, 1, 5] (.reg [⟨(some 15), none, none, .mv (.t 5)⟩,
    ⟨(some 16), none, none, .bin .add (.t 15) (.c (.p (.int .i64 1)))⟩,
    ⟨(some 5), none, none, .mv (.t 16)⟩] none)))))))))
  (.seq (.reg [⟨(some 4), none, none, .mv (.c (.p (.bool true)))⟩] none)
  .ret)))),
  [.t 4]⟩

theorem c57 : chkF Try.prog 57 f57 = true := by kernel_rfl

/-- trammel/mat.Form -/
def f70 : RFun := ⟨(.seq (.reg [⟨(some 2), none, none, .mv (.c (.nils))⟩] none)
  (.seq (.reg [⟨(some 3), none, none, .mv (.t 0)⟩,
    ⟨(some 4), none, none, .call .keep 114 [.t 3, .c (.fn 115 [])]⟩,
    ⟨(some 2), none, none, .mv (.t 4)⟩] none)
  .ret)),
  [.t 2]⟩

theorem c70 : chkF Try.prog 70 f70 = true := by kernel_rfl

/-- trammel/trammelref04.Times -/
def f74 : RFun := ⟨(.seq (.reg [⟨(some 2), none, none, .box (.t 0)⟩,
    ⟨(some 4), none, none, .mv (.c (.nils))⟩] none)
  (.seq (.reg [⟨(some 5), none, none, .mv (.c (.nils))⟩] none)
  (.seq (.seq (.reg [⟨(some 6), none, none, .mv (.c (.p (.int .i64 0)))⟩] none)
  (.fg [1, 2, 5, 6] (.block 0
  (.loop (.fg [1, 2, 5, 6]
    (.seq (.seq (.reg [⟨(some 7), none, none, .mv (.t 6)⟩,
    ⟨(some 8), none, none, .mv (.t 1)⟩,
    ⟨(some 9), none, none, .len (.t 8)⟩,
    ⟨(some 10), none, none, .bin .lss (.t 7) (.t 9)⟩] none)
      (.fg [1, 2, 5, 6, 10] (.cond (.t 10)
        .skip
        (.exit 0))))
      (.seq (.block 1
      (.reg [⟨(some 13), none, none, .mv (.t 5)⟩,
    ⟨(some 14), none, none, .load true 2 (.t 2)⟩,
    ⟨(some 15), none, none, .mv (.t 1)⟩,
    ⟨(some 16), none, none, .mv (.t 6)⟩,
    ⟨(some 17), none, none, .indexA 2 (.t 15) (.t 16)⟩,
    ⟨(some 18), none, none, .load true 2 (.t 17)⟩,
    ⟨(some 19), none, none, .call .pu 117 [.t 14, .t 18]⟩,
    ⟨(some 20), none, (some 0), .bslice 2 [.t 19]⟩,
    ⟨(some 21), none, (some 1), .append 2 32 (.t 13) (.t 20)⟩,
    ⟨(some 5), none, none, .mv (.t 21)⟩] (some (2, []))))
      (.fg [1, 2, 5, 6] (.reg [⟨(some 11), none, none, .mv (.t 6)⟩,
    ⟨(some 12), none, none, .bin .add (.t 11) (.c (.p (.int .i64 1)))⟩,
    ⟨(some 6), none, none, .mv (.t 12)⟩] none)))))))))
  (.seq (.reg [⟨(some 22), none, none, .mv (.t 5)⟩,
    ⟨(some 4), none, none, .mv (.t 22)⟩] none)
  .ret)))),
  [.t 4]⟩

theorem c74 : chkF Try.prog 74 f74 = true := by kernel_rfl

/-- trammel/mat.Times -/
def f78 : RFun := ⟨(.seq (.reg [⟨(some 2), none, none, .box (.t 0)⟩,
    ⟨(some 4), none, none, .mv (.c (.nils))⟩] none)
  (.seq (.reg [⟨(some 5), none, none, .mv (.t 1)⟩,
    ⟨(some 6), none, none, .mkfn 120 [.t 2]⟩,
    ⟨(some 7), none, none, .call .pu 116 [.t 5, .t 6]⟩,
    ⟨(some 4), none, none, .mv (.t 7)⟩] none)
  .ret)),
  [.t 4]⟩

theorem c78 : chkF Try.prog 78 f78 = true := by kernel_rfl

/-- trammel/trammellaw26.owns -/
def f86 : RFun := ⟨(.seq (.reg [⟨(some 2), none, none, .mv (.c (.nils))⟩] none)
  (.seq (.reg [⟨(some 3), none, none, .mv (.c (.nils))⟩] none)
  (.seq (.seq (.reg [⟨(some 4), none, none, .mv (.c (.p (.int .i64 0)))⟩] none)
  (.fg [0, 3, 4] (.block 0
  (.loop (.fg [0, 3, 4]
    (.seq (.seq (.reg [⟨(some 5), none, none, .mv (.t 4)⟩,
    ⟨(some 6), none, none, .mv (.t 0)⟩,
    ⟨(some 7), none, none, .len (.t 6)⟩,
    ⟨(some 8), none, none, .bin .lss (.t 5) (.t 7)⟩] none)
      (.fg [0, 3, 4, 8] (.cond (.t 8)
        .skip
        (.exit 0))))
      (.seq (.block 1
      (.reg [⟨(some 11), none, none, .mv (.t 3)⟩,
    ⟨(some 12), none, none, .mv (.t 0)⟩,
    ⟨(some 13), none, none, .mv (.t 4)⟩,
    ⟨(some 14), none, none, .indexA 2 (.t 12) (.t 13)⟩,
    ⟨(some 15), none, none, .load true 2 (.t 14)⟩,
    ⟨(some 16), none, none, .call .pu 126 [.t 15]⟩,
    ⟨(some 17), none, none, .bslice 2 [.t 16]⟩,
    ⟨(some 18), none, none, .append 2 32 (.t 11) (.t 17)⟩,
    ⟨(some 3), none, none, .mv (.t 18)⟩] none))
      (.fg [0, 3, 4] (.reg [⟨(some 9), none, none, .mv (.t 4)⟩,
    ⟨(some 10), none, none, .bin .add (.t 9) (.c (.p (.int .i64 1)))⟩,
    ⟨(some 4), none, none, .mv (.t 10)⟩] none)))))))))
  (.seq (.reg [⟨(some 19), none, none, .mv (.t 3)⟩,
    ⟨(some 2), none, none, .mv (.t 19)⟩] none)
  .ret)))),
  [.t 2]⟩

theorem c86 : chkF Try.prog 86 f86 = true := by kernel_rfl

/-- trammel/mat.Unit -/
def f87 : RFun := ⟨(.seq (.reg [⟨(some 2), none, none, .mv (.c (.nils))⟩,
    ⟨(some 3), none, none, .mv (.c (.p (.int .i64 0)))⟩] none)
  (.seq (.block 0
  (.seq (.reg [⟨(some 8), none, none, .mv (.t 0)⟩,
    ⟨(some 9), none, none, .bin .lss (.t 8) (.c (.p (.int .i64 0)))⟩,
    ⟨(some 7), none, none, .mv (.t 9)⟩] none)
    (.fg [0, 7] (.cond (.t 7)
      (.seq (.reg [⟨(some 2), none, none, .mv (.c (.nils))⟩,
    ⟨(some 3), none, none, .mv (.c (.p (.int .i64 1)))⟩] none)
      .ret)
      (.seq (.reg [⟨(some 11), none, none, .mv (.t 0)⟩,
    ⟨(some 12), none, none, .bin .gtr (.t 11) (.c (.p (.int .i64 64)))⟩,
    ⟨(some 10), none, none, .mv (.t 12)⟩] none)
      (.fg [0, 10] (.cond (.t 10)
        (.seq (.reg [⟨(some 2), none, none, .mv (.c (.nils))⟩,
    ⟨(some 3), none, none, .mv (.c (.p (.int .i64 2)))⟩] none)
        .ret)
        .skip)))))))
  (.fg [0] (.seq (.reg [⟨(some 4), none, none, .mv (.c (.nils))⟩] none)
  (.seq (.seq (.reg [⟨(some 13), none, none, .mv (.t 0)⟩,
    ⟨(some 14), none, none, .mv (.c (.p (.int .i64 0)))⟩] none)
  (.fg [0, 4, 13, 14] (.block 1
  (.loop (.fg [0, 4, 13, 14]
    (.seq (.reg [⟨(some 15), none, none, .bin .lss (.t 14) (.t 13)⟩] none)
      (.seq (.cond (.t 15)
        .skip
        (.exit 1))
      (.fg [0, 4, 13, 14] (.seq (.block 2
      (.seq (.reg [⟨(some 16), none, none, .mv (.t 14)⟩,
    ⟨(some 5), none, none, .mv (.t 16)⟩] none)
        (.seq (.reg [⟨(some 17), none, none, .mv (.t 0)⟩,
    ⟨(some 18), none, none, .mks false 2 32 (.agg [.bool false, .sl []]) (.t 17) (.t 17)⟩,
    ⟨(some 6), none, none, .mv (.t 18)⟩] none)
        (.seq (.reg [⟨(some 19), none, none, .mv (.t 6)⟩,
    ⟨(some 20), none, none, .mv (.t 5)⟩,
    ⟨(some 21), none, none, .call .pu 54 [.c (.p (.int .i64 1))]⟩,
    ⟨(some 22), none, none, .indexA 2 (.t 19) (.t 20)⟩,
    ⟨none, none, none, .store 2 (.t 22) (.t 21)⟩] none)
        (.reg [⟨(some 23), none, none, .mv (.t 4)⟩,
    ⟨(some 24), none, none, .mv (.t 6)⟩,
    ⟨(some 25), none, none, .bslice 1 [.t 24]⟩,
    ⟨(some 26), none, none, .append 1 24 (.t 23) (.t 25)⟩,
    ⟨(some 4), none, none, .mv (.t 26)⟩] none)))))
      (.fg [0, 4, 13, 14] (.reg [⟨(some 27), none, none, .bin .add (.t 14) (.c (.p (.int .i64 1)))⟩,
    ⟨(some 14), none, none, .mv (.t 27)⟩] none)))))))))))
  (.seq (.reg [⟨(some 28), none, none, .mv (.t 4)⟩,
    ⟨(some 2), none, none, .mv (.t 28)⟩,
    ⟨(some 3), none, none, .mv (.c (.p (.int .i64 0)))⟩] none)
  .ret)))))),
  [.t 2, .t 3]⟩

theorem c87 : chkF Try.prog 87 f87 = true := by kernel_rfl

/-- trammel/kin.move -/
def f88 : RFun := ⟨(.seq (.reg [⟨(some 7), none, none, .mv (.t 0)⟩,
    ⟨(some 8), none, none, .len (.t 7)⟩,
    ⟨(some 9), none, none, .conv .u64 (.t 8)⟩,
    ⟨(some 4), none, none, .mv (.t 9)⟩] none)
  (.seq (.seq (.reg [⟨(some 10), none, none, .mv (.t 4)⟩,
    ⟨(some 11), none, none, .bin .eql (.t 10) (.c (.p (.int .u64 1)))⟩] none)
  (.fg [0, 1, 4, 11] (.cond (.t 11)
    (.seq (.seq (.reg [⟨(some 12), none, none, .mv (.t 1)⟩,
    ⟨(some 13), none, none, .callv .full (.t 12) [.c (.p (.int .u64 4))]⟩,
    ⟨(some 14), none, none, .bin .eql (.t 13) (.c (.p (.int .u64 3)))⟩] none)
    (.fg [0, 14] (.cond (.t 14)
      (.reg [⟨(some 15), none, none, .mv (.t 0)⟩,
    ⟨(some 16), none, none, .call .pu 54 [.c (.p (.int .i64 (-1)))]⟩,
    ⟨(some 17), none, none, .mv (.t 0)⟩,
    ⟨(some 18), none, none, .indexA 1 (.t 17) (.c (.p (.int .i64 0)))⟩,
    ⟨(some 19), none, none, .load false 1 (.t 18)⟩,
    ⟨(some 20), none, none, .call .pu 78 [.t 16, .t 19]⟩,
    ⟨(some 21), none, none, .indexA 1 (.t 15) (.c (.p (.int .i64 0)))⟩,
    ⟨none, none, none, .store 1 (.t 21) (.t 20)⟩] (some (0, [])))
      .skip)))
    .ret)
    .skip)))
  (.seq (.reg [⟨(some 22), none, none, .mv (.t 1)⟩,
    ⟨(some 23), none, none, .mv (.t 4)⟩,
    ⟨(some 24), none, none, .callv .full (.t 22) [.t 23]⟩,
    ⟨(some 5), none, none, .mv (.t 24)⟩] none)
  (.seq (.reg [⟨(some 25), none, none, .mv (.t 1)⟩,
    ⟨(some 26), none, none, .mv (.t 4)⟩,
    ⟨(some 27), none, none, .bin .sub (.t 26) (.c (.p (.int .u64 1)))⟩,
    ⟨(some 28), none, none, .callv .full (.t 25) [.t 27]⟩,
    ⟨(some 6), none, none, .mv (.t 28)⟩] none)
  (.seq (.seq (.reg [⟨(some 29), none, none, .mv (.t 6)⟩,
    ⟨(some 30), none, none, .mv (.t 5)⟩,
    ⟨(some 31), none, none, .bin .geq (.t 29) (.t 30)⟩] none)
  (.fg [0, 1, 5, 6, 31] (.cond (.t 31)
    (.reg [⟨(some 32), none, none, .mv (.t 6)⟩,
    ⟨(some 33), none, none, .bin .add (.t 32) (.c (.p (.int .u64 1)))⟩,
    ⟨(some 6), none, none, .mv (.t 33)⟩] none)
    .skip)))
  (.seq (.reg [⟨(some 34), none, none, .mv (.t 1)⟩,
    ⟨(some 35), none, none, .callv .full (.t 34) [.c (.p (.int .u64 4))]⟩] none)
  (.fg [0, 5, 6, 35] (.block 0
  (.seq (.reg [⟨(some 37), none, none, .bin .eql (.t 35) (.c (.p (.int .u64 0)))⟩,
    ⟨(some 36), none, none, .mv (.t 37)⟩] none)
    (.fg [0, 5, 6, 35, 36] (.cond (.t 36)
      (.reg [⟨(some 39), none, none, .mv (.t 0)⟩,
    ⟨(some 40), none, none, .mv (.t 5)⟩,
    ⟨(some 41), none, none, .mv (.t 0)⟩,
    ⟨(some 42), none, none, .mv (.t 5)⟩,
    ⟨(some 43), none, none, .indexA 1 (.t 41) (.t 42)⟩,
    ⟨(some 44), none, none, .load false 1 (.t 43)⟩,
    ⟨(some 45), none, none, .mv (.t 0)⟩,
    ⟨(some 46), none, none, .mv (.t 6)⟩,
    ⟨(some 47), none, none, .indexA 1 (.t 45) (.t 46)⟩,
    ⟨(some 48), none, none, .load false 1 (.t 47)⟩,
    ⟨(some 49), none, none, .call .pu 127 [.t 44, .t 48]⟩,
    ⟨(some 38), none, none, .mv (.t 49)⟩,
    ⟨(some 50), none, none, .extract (.t 38) 0⟩,
    ⟨(some 51), none, none, .extract (.t 38) 1⟩,
    ⟨(some 52), none, none, .indexA 1 (.t 39) (.t 40)⟩,
    ⟨none, none, none, .store 1 (.t 52) (.t 50)⟩] (some (0, [])))
      (.seq (.reg [⟨(some 54), none, none, .bin .eql (.t 35) (.c (.p (.int .u64 1)))⟩,
    ⟨(some 53), none, none, .mv (.t 54)⟩] none)
      (.fg [0, 5, 6, 35, 53] (.cond (.t 53)
        (.reg [⟨(some 56), none, none, .mv (.t 0)⟩,
    ⟨(some 57), none, none, .mv (.t 5)⟩,
    ⟨(some 58), none, none, .mv (.t 0)⟩,
    ⟨(some 59), none, none, .mv (.t 5)⟩,
    ⟨(some 60), none, none, .indexA 1 (.t 58) (.t 59)⟩,
    ⟨(some 61), none, none, .load false 1 (.t 60)⟩,
    ⟨(some 62), none, none, .mv (.t 0)⟩,
    ⟨(some 63), none, none, .mv (.t 6)⟩,
    ⟨(some 64), none, none, .indexA 1 (.t 62) (.t 63)⟩,
    ⟨(some 65), none, none, .load false 1 (.t 64)⟩,
    ⟨(some 66), none, none, .call .pu 128 [.t 61, .t 65]⟩,
    ⟨(some 55), none, none, .mv (.t 66)⟩,
    ⟨(some 67), none, none, .extract (.t 55) 0⟩,
    ⟨(some 68), none, none, .extract (.t 55) 1⟩,
    ⟨(some 69), none, none, .indexA 1 (.t 56) (.t 57)⟩,
    ⟨none, none, none, .store 1 (.t 69) (.t 67)⟩] (some (0, [])))
        (.seq (.reg [⟨(some 71), none, none, .bin .eql (.t 35) (.c (.p (.int .u64 2)))⟩,
    ⟨(some 70), none, none, .mv (.t 71)⟩] none)
        (.fg [0, 5, 6, 35, 70] (.cond (.t 70)
          (.reg [⟨(some 72), none, none, .mv (.t 0)⟩,
    ⟨(some 73), none, none, .mv (.t 5)⟩,
    ⟨(some 74), none, none, .mv (.t 0)⟩,
    ⟨(some 75), none, none, .mv (.t 6)⟩,
    ⟨(some 76), none, none, .mv (.t 0)⟩,
    ⟨(some 77), none, none, .mv (.t 6)⟩,
    ⟨(some 78), none, none, .indexA 1 (.t 76) (.t 77)⟩,
    ⟨(some 79), none, none, .load false 1 (.t 78)⟩,
    ⟨(some 80), none, none, .mv (.t 0)⟩,
    ⟨(some 81), none, none, .mv (.t 5)⟩,
    ⟨(some 82), none, none, .indexA 1 (.t 80) (.t 81)⟩,
    ⟨(some 83), none, none, .load false 1 (.t 82)⟩,
    ⟨(some 84), none, none, .indexA 1 (.t 72) (.t 73)⟩,
    ⟨none, none, none, .store 1 (.t 84) (.t 79)⟩,
    ⟨(some 85), none, none, .indexA 1 (.t 74) (.t 75)⟩,
    ⟨none, none, none, .store 1 (.t 85) (.t 83)⟩] (some (0, [])))
          (.seq (.reg [⟨(some 87), none, none, .bin .eql (.t 35) (.c (.p (.int .u64 3)))⟩,
    ⟨(some 86), none, none, .mv (.t 87)⟩] none)
          (.fg [0, 5, 86] (.cond (.t 86)
            (.reg [⟨(some 88), none, none, .mv (.t 0)⟩,
    ⟨(some 89), none, none, .mv (.t 5)⟩,
    ⟨(some 90), none, none, .call .pu 54 [.c (.p (.int .i64 (-1)))]⟩,
    ⟨(some 91), none, none, .mv (.t 0)⟩,
    ⟨(some 92), none, none, .mv (.t 5)⟩,
    ⟨(some 93), none, none, .indexA 1 (.t 91) (.t 92)⟩,
    ⟨(some 94), none, none, .load false 1 (.t 93)⟩,
    ⟨(some 95), none, none, .call .pu 78 [.t 90, .t 94]⟩,
    ⟨(some 96), none, none, .indexA 1 (.t 88) (.t 89)⟩,
    ⟨none, none, none, .store 1 (.t 96) (.t 95)⟩] (some (0, [])))
            .skip)))))))))))))))))))),
  []⟩

theorem c88 : chkF Try.prog 88 f88 = true := by kernel_rfl

/-- trammel/trammelref04.Form -/
def f89 : RFun := ⟨(.seq (.reg [⟨(some 2), none, none, .mv (.c (.nils))⟩] none)
  (.seq (.reg [⟨(some 3), none, none, .mv (.c (.nils))⟩] none)
  (.seq (.seq (.reg [⟨(some 4), none, none, .mv (.c (.p (.int .i64 0)))⟩] none)
  (.fg [0, 3, 4] (.block 0
  (.loop (.fg [0, 3, 4]
    (.seq (.seq (.reg [⟨(some 5), none, none, .mv (.t 4)⟩,
    ⟨(some 6), none, none, .mv (.t 0)⟩,
    ⟨(some 7), none, none, .len (.t 6)⟩,
    ⟨(some 8), none, none, .bin .lss (.t 5) (.t 7)⟩] none)
      (.fg [0, 3, 4, 8] (.cond (.t 8)
        .skip
        (.exit 0))))
      (.seq (.block 1
      (.reg [⟨(some 11), none, none, .mv (.t 3)⟩,
    ⟨(some 12), none, none, .call .pu 66 [.c (.p (.int .i64 1))]⟩,
    ⟨(some 13), none, none, .mv (.t 0)⟩,
    ⟨(some 14), none, none, .mv (.t 4)⟩,
    ⟨(some 15), none, none, .indexA 1 (.t 13) (.t 14)⟩,
    ⟨(some 16), none, none, .load false 1 (.t 15)⟩,
    ⟨(some 17), none, none, .call .pu 74 [.t 12, .t 16]⟩,
    ⟨(some 18), none, (some 0), .bslice 1 [.t 17]⟩,
    ⟨(some 19), none, (some 1), .append 1 24 (.t 11) (.t 18)⟩,
    ⟨(some 3), none, none, .mv (.t 19)⟩] (some (2, []))))
      (.fg [0, 3, 4] (.reg [⟨(some 9), none, none, .mv (.t 4)⟩,
    ⟨(some 10), none, none, .bin .add (.t 9) (.c (.p (.int .i64 1)))⟩,
    ⟨(some 4), none, none, .mv (.t 10)⟩] none)))))))))
  (.seq (.reg [⟨(some 20), none, none, .mv (.t 3)⟩,
    ⟨(some 2), none, none, .mv (.t 20)⟩] none)
  .ret)))),
  [.t 2]⟩

theorem c89 : chkF Try.prog 89 f89 = true := by kernel_rfl

/-- trammel/trammelref04.Unit -/
def f90 : RFun := ⟨(.seq (.reg [⟨(some 2), none, none, .mv (.c (.nils))⟩,
    ⟨(some 3), none, none, .mv (.c (.p (.int .i64 0)))⟩] none)
  (.seq (.seq (.reg [⟨(some 8), none, none, .mv (.t 0)⟩,
    ⟨(some 9), none, none, .bin .lss (.t 8) (.c (.p (.int .i64 0)))⟩] none)
  (.fg [0, 9] (.cond (.t 9)
    (.seq (.reg [⟨(some 2), none, none, .mv (.c (.nils))⟩,
    ⟨(some 3), none, none, .mv (.c (.p (.int .i64 1)))⟩] none)
    .ret)
    .skip)))
  (.seq (.seq (.reg [⟨(some 10), none, none, .mv (.t 0)⟩,
    ⟨(some 11), none, none, .bin .gtr (.t 10) (.c (.p (.int .i64 64)))⟩] none)
  (.fg [0, 11] (.cond (.t 11)
    (.seq (.reg [⟨(some 2), none, none, .mv (.c (.nils))⟩,
    ⟨(some 3), none, none, .mv (.c (.p (.int .i64 2)))⟩] none)
    .ret)
    .skip)))
  (.seq (.reg [⟨(some 4), none, none, .mv (.c (.nils))⟩] none)
  (.seq (.seq (.reg [⟨(some 5), none, none, .mv (.c (.p (.int .i64 0)))⟩] none)
  (.fg [0, 4, 5] (.block 0
  (.loop (.fg [0, 4, 5]
    (.seq (.seq (.reg [⟨(some 12), none, none, .mv (.t 5)⟩,
    ⟨(some 13), none, none, .mv (.t 0)⟩,
    ⟨(some 14), none, none, .bin .lss (.t 12) (.t 13)⟩] none)
      (.fg [0, 4, 5, 14] (.cond (.t 14)
        .skip
        (.exit 0))))
      (.seq (.block 1
      (.seq (.reg [⟨(some 6), none, none, .mv (.c (.nils))⟩] none)
        (.seq (.seq (.reg [⟨(some 7), none, none, .mv (.c (.p (.int .i64 0)))⟩] none)
        (.fg [0, 4, 5, 6, 7] (.block 2
        (.loop (.fg [0, 4, 5, 6, 7]
          (.seq (.seq (.reg [⟨(some 17), none, none, .mv (.t 7)⟩,
    ⟨(some 18), none, none, .mv (.t 0)⟩,
    ⟨(some 19), none, none, .bin .lss (.t 17) (.t 18)⟩] none)
            (.fg [0, 4, 5, 6, 7, 19] (.cond (.t 19)
              .skip
              (.exit 2))))
            (.seq (.block 3
            (.seq (.reg [⟨(some 22), none, none, .mv (.t 5)⟩,
    ⟨(some 23), none, none, .mv (.t 7)⟩,
    ⟨(some 24), none, none, .bin .eql (.t 22) (.t 23)⟩] none)
              (.fg [0, 4, 5, 6, 7, 24] (.cond (.t 24)
                (.reg [⟨(some 25), none, none, .mv (.t 6)⟩,
    ⟨(some 26), none, none, .call .pu 66 [.c (.p (.int .i64 1))]⟩,
    ⟨(some 27), none, none, .bslice 2 [.t 26]⟩,
    ⟨(some 28), none, none, .append 2 32 (.t 25) (.t 27)⟩,
    ⟨(some 6), none, none, .mv (.t 28)⟩] none)
                (.reg [⟨(some 29), none, none, .mv (.t 6)⟩,
    ⟨(some 30), none, none, .call .pu 66 [.c (.p (.int .i64 0))]⟩,
    ⟨(some 31), none, none, .bslice 2 [.t 30]⟩,
    ⟨(some 32), none, none, .append 2 32 (.t 29) (.t 31)⟩,
    ⟨(some 6), none, none, .mv (.t 32)⟩] none)))))
            (.fg [0, 4, 5, 6, 7] (.reg [⟨(some 20), none, none, .mv (.t 7)⟩,
    ⟨(some 21), none, none, .bin .add (.t 20) (.c (.p (.int .i64 1)))⟩,
    ⟨(some 7), none, none, .mv (.t 21)⟩] none)))))))))
        (.reg [⟨(some 33), none, none, .mv (.t 4)⟩,
    ⟨(some 34), none, none, .mv (.t 6)⟩,
    ⟨(some 35), none, none, .bslice 1 [.t 34]⟩,
    ⟨(some 36), none, none, .append 1 24 (.t 33) (.t 35)⟩,
    ⟨(some 4), none, none, .mv (.t 36)⟩] none))))
      (.fg [0, 4, 5] (.reg [⟨(some 15), none, none, .mv (.t 5)⟩,
    ⟨(some 16), none, none, .bin .add (.t 15) (.c (.p (.int .i64 1)))⟩,
    ⟨(some 5), none, none, .mv (.t 16)⟩] none)))))))))
  (.seq (.reg [⟨(some 37), none, none, .mv (.t 4)⟩,
    ⟨(some 2), none, none, .mv (.t 37)⟩,
    ⟨(some 3), none, none, .mv (.c (.p (.int .i64 0)))⟩] none)
  .ret)))))),
  [.t 2, .t 3]⟩

theorem c90 : chkF Try.prog 90 f90 = true := by kernel_rfl

/-- trammel/trammelref26.turn -/
def f91 : RFun := ⟨(.seq (.reg [⟨(some 8), none, none, .mv (.t 3)⟩] none)
  (.fg [0, 1, 2, 8] (.block 0
  (.seq (.reg [⟨(some 19), none, none, .bin .eql (.t 8) (.c (.p (.int .u64 0)))⟩,
    ⟨(some 18), none, none, .mv (.t 19)⟩] none)
    (.fg [0, 1, 2, 8, 18] (.cond (.t 18)
      (.reg [⟨(some 21), none, none, .mv (.t 0)⟩,
    ⟨(some 22), none, none, .mv (.t 1)⟩,
    ⟨(some 23), none, none, .mv (.t 0)⟩,
    ⟨(some 24), none, none, .mv (.t 1)⟩,
    ⟨(some 25), none, none, .indexA 1 (.t 23) (.t 24)⟩,
    ⟨(some 26), none, none, .load false 1 (.t 25)⟩,
    ⟨(some 27), none, none, .mv (.t 0)⟩,
    ⟨(some 28), none, none, .mv (.t 2)⟩,
    ⟨(some 29), none, none, .indexA 1 (.t 27) (.t 28)⟩,
    ⟨(some 30), none, none, .load false 1 (.t 29)⟩,
    ⟨(some 31), none, none, .call .pu 129 [.t 26, .t 30]⟩,
    ⟨(some 20), none, none, .mv (.t 31)⟩,
    ⟨(some 32), none, none, .extract (.t 20) 0⟩,
    ⟨(some 33), none, none, .extract (.t 20) 1⟩,
    ⟨(some 34), none, none, .indexA 1 (.t 21) (.t 22)⟩,
    ⟨none, none, none, .store 1 (.t 34) (.t 32)⟩] (some (0, [])))
      (.seq (.reg [⟨(some 36), none, none, .bin .eql (.t 8) (.c (.p (.int .u64 1)))⟩,
    ⟨(some 35), none, none, .mv (.t 36)⟩] none)
      (.fg [0, 1, 2, 8, 35] (.cond (.t 35)
        (.reg [⟨(some 38), none, none, .mv (.t 0)⟩,
    ⟨(some 39), none, none, .mv (.t 1)⟩,
    ⟨(some 40), none, none, .mv (.t 0)⟩,
    ⟨(some 41), none, none, .mv (.t 1)⟩,
    ⟨(some 42), none, none, .indexA 1 (.t 40) (.t 41)⟩,
    ⟨(some 43), none, none, .load false 1 (.t 42)⟩,
    ⟨(some 44), none, none, .mv (.t 0)⟩,
    ⟨(some 45), none, none, .mv (.t 2)⟩,
    ⟨(some 46), none, none, .indexA 1 (.t 44) (.t 45)⟩,
    ⟨(some 47), none, none, .load false 1 (.t 46)⟩,
    ⟨(some 48), none, none, .call .pu 130 [.t 43, .t 47]⟩,
    ⟨(some 37), none, none, .mv (.t 48)⟩,
    ⟨(some 49), none, none, .extract (.t 37) 0⟩,
    ⟨(some 50), none, none, .extract (.t 37) 1⟩,
    ⟨(some 51), none, none, .indexA 1 (.t 38) (.t 39)⟩,
    ⟨none, none, none, .store 1 (.t 51) (.t 49)⟩] (some (0, [])))
        (.seq (.reg [⟨(some 53), none, none, .bin .eql (.t 8) (.c (.p (.int .u64 2)))⟩,
    ⟨(some 52), none, none, .mv (.t 53)⟩] none)
        (.fg [0, 1, 2, 52] (.cond (.t 52)
          (.reg [⟨(some 54), none, none, .mv (.t 0)⟩,
    ⟨(some 55), none, none, .mv (.t 1)⟩,
    ⟨(some 56), none, none, .mv (.t 0)⟩,
    ⟨(some 57), none, none, .mv (.t 2)⟩,
    ⟨(some 58), none, none, .mv (.t 0)⟩,
    ⟨(some 59), none, none, .mv (.t 2)⟩,
    ⟨(some 60), none, none, .indexA 1 (.t 58) (.t 59)⟩,
    ⟨(some 61), none, none, .load false 1 (.t 60)⟩,
    ⟨(some 62), none, none, .mv (.t 0)⟩,
    ⟨(some 63), none, none, .mv (.t 1)⟩,
    ⟨(some 64), none, none, .indexA 1 (.t 62) (.t 63)⟩,
    ⟨(some 65), none, none, .load false 1 (.t 64)⟩,
    ⟨(some 66), none, none, .indexA 1 (.t 54) (.t 55)⟩,
    ⟨none, none, none, .store 1 (.t 66) (.t 61)⟩,
    ⟨(some 67), none, none, .indexA 1 (.t 56) (.t 57)⟩,
    ⟨none, none, none, .store 1 (.t 67) (.t 65)⟩] (some (0, [])))
          (.reg [⟨(some 9), none, none, .mv (.t 0)⟩,
    ⟨(some 10), none, none, .mv (.t 1)⟩,
    ⟨(some 11), none, none, .call .pu 66 [.c (.p (.int .i64 (-1)))]⟩,
    ⟨(some 12), none, none, .mv (.t 0)⟩,
    ⟨(some 13), none, none, .mv (.t 1)⟩,
    ⟨(some 14), none, none, .indexA 1 (.t 12) (.t 13)⟩,
    ⟨(some 15), none, none, .load false 1 (.t 14)⟩,
    ⟨(some 16), none, none, .call .pu 74 [.t 11, .t 15]⟩,
    ⟨(some 17), none, none, .indexA 1 (.t 9) (.t 10)⟩,
    ⟨none, none, none, .store 1 (.t 17) (.t 16)⟩] (some (0, []))))))))))))))),
  []⟩

theorem c91 : chkF Try.prog 91 f91 = true := by kernel_rfl

/-- trammel/trammelref04.Bits -/
def f92 : RFun := ⟨(.seq (.reg [⟨(some 2), none, none, .mv (.c (.p (.int .i64 0)))⟩] none)
  (.seq (.reg [⟨(some 3), none, none, .mv (.c (.p (.int .i64 0)))⟩] none)
  (.seq (.seq (.reg [⟨(some 4), none, none, .mv (.c (.p (.int .i64 0)))⟩] none)
  (.fg [0, 3, 4] (.block 0
  (.loop (.fg [0, 3, 4]
    (.seq (.seq (.reg [⟨(some 6), none, none, .mv (.t 4)⟩,
    ⟨(some 7), none, none, .mv (.t 0)⟩,
    ⟨(some 8), none, none, .len (.t 7)⟩,
    ⟨(some 9), none, none, .bin .lss (.t 6) (.t 8)⟩] none)
      (.fg [0, 3, 4, 9] (.cond (.t 9)
        .skip
        (.exit 0))))
      (.seq (.block 1
      (.seq (.reg [⟨(some 5), none, none, .mv (.c (.p (.int .i64 0)))⟩] none)
        (.fg [0, 3, 4, 5] (.block 2
        (.loop (.fg [0, 3, 4, 5]
          (.seq (.seq (.reg [⟨(some 12), none, none, .mv (.t 5)⟩,
    ⟨(some 13), none, none, .mv (.t 0)⟩,
    ⟨(some 14), none, none, .mv (.t 4)⟩,
    ⟨(some 15), none, none, .indexA 1 (.t 13) (.t 14)⟩,
    ⟨(some 16), none, none, .load false 1 (.t 15)⟩,
    ⟨(some 17), none, none, .len (.t 16)⟩,
    ⟨(some 18), none, none, .bin .lss (.t 12) (.t 17)⟩] none)
            (.fg [0, 3, 4, 5, 18] (.cond (.t 18)
              .skip
              (.exit 2))))
            (.seq (.block 3
            (.reg [⟨(some 21), none, none, .mv (.t 3)⟩,
    ⟨(some 22), none, none, .mv (.t 0)⟩,
    ⟨(some 23), none, none, .mv (.t 4)⟩,
    ⟨(some 24), none, none, .indexA 1 (.t 22) (.t 23)⟩,
    ⟨(some 25), none, none, .load false 1 (.t 24)⟩,
    ⟨(some 26), none, none, .mv (.t 5)⟩,
    ⟨(some 27), none, none, .indexA 2 (.t 25) (.t 26)⟩,
    ⟨(some 28), none, none, .load true 2 (.t 27)⟩,
    ⟨(some 29), none, none, .call .pu 131 [.t 28]⟩,
    ⟨(some 30), none, none, .mx (.t 21) (.t 29)⟩,
    ⟨(some 3), none, none, .mv (.t 30)⟩] none))
            (.fg [0, 3, 4, 5] (.reg [⟨(some 19), none, none, .mv (.t 5)⟩,
    ⟨(some 20), none, none, .bin .add (.t 19) (.c (.p (.int .i64 1)))⟩,
    ⟨(some 5), none, none, .mv (.t 20)⟩] none))))))))))
      (.fg [0, 3, 4] (.reg [⟨(some 10), none, none, .mv (.t 4)⟩,
    ⟨(some 11), none, none, .bin .add (.t 10) (.c (.p (.int .i64 1)))⟩,
    ⟨(some 4), none, none, .mv (.t 11)⟩] none)))))))))
  (.seq (.reg [⟨(some 31), none, none, .mv (.t 3)⟩,
    ⟨(some 2), none, none, .mv (.t 31)⟩] none)
  .ret)))),
  [.t 2]⟩

theorem c92 : chkF Try.prog 92 f92 = true := by kernel_rfl

/-- trammel/kin.chance$1 -/
def f104 : RFun := ⟨(.seq (.reg [⟨(some 3), none, none, .mv (.c (.p (.int .u64 0)))⟩] none)
  (.seq (.reg [⟨(some 5), none, none, .load false 1 (.t 1)⟩,
    ⟨(some 6), none, none, .bin .add (.t 5) (.c (.p (.int .u64 11400714819323198485)))⟩,
    ⟨none, none, none, .store 1 (.t 1) (.t 6)⟩] none)
  (.seq (.reg [⟨(some 7), none, none, .load false 1 (.t 1)⟩,
    ⟨(some 4), none, none, .mv (.t 7)⟩] none)
  (.seq (.reg [⟨(some 8), none, none, .mv (.t 4)⟩,
    ⟨(some 9), none, none, .mv (.t 4)⟩,
    ⟨(some 10), none, none, .bin .shr (.t 9) (.c (.p (.int .u64 30)))⟩,
    ⟨(some 11), none, none, .bin .xor (.t 8) (.t 10)⟩,
    ⟨(some 12), none, none, .bin .mul (.t 11) (.c (.p (.int .u64 13787848793156543929)))⟩,
    ⟨(some 4), none, none, .mv (.t 12)⟩] none)
  (.seq (.reg [⟨(some 13), none, none, .mv (.t 4)⟩,
    ⟨(some 14), none, none, .mv (.t 4)⟩,
    ⟨(some 15), none, none, .bin .shr (.t 14) (.c (.p (.int .u64 27)))⟩,
    ⟨(some 16), none, none, .bin .xor (.t 13) (.t 15)⟩,
    ⟨(some 17), none, none, .bin .mul (.t 16) (.c (.p (.int .u64 10723151780598845931)))⟩,
    ⟨(some 4), none, none, .mv (.t 17)⟩] none)
  (.seq (.reg [⟨(some 18), none, none, .mv (.t 4)⟩,
    ⟨(some 19), none, none, .mv (.t 4)⟩,
    ⟨(some 20), none, none, .bin .shr (.t 19) (.c (.p (.int .u64 31)))⟩,
    ⟨(some 21), none, none, .bin .xor (.t 18) (.t 20)⟩,
    ⟨(some 22), none, none, .mv (.t 0)⟩,
    ⟨(some 23), none, none, .bin .rem (.t 21) (.t 22)⟩,
    ⟨(some 3), none, none, .mv (.t 23)⟩] none)
  .ret)))))),
  [.t 3]⟩

theorem c104 : chkF Try.prog 104 f104 = true := by kernel_rfl

/-- trammel/trammellaw26.eq -/
def f106 : RFun := ⟨(.seq (.reg [⟨(some 2), none, none, .box (.t 0)⟩,
    ⟨(some 3), none, none, .box (.t 1)⟩,
    ⟨(some 4), none, none, .mv (.c (.p (.bool false)))⟩] none)
  (.seq (.seq (.reg [⟨(some 6), none, none, .fieldA 0 (.t 2)⟩,
    ⟨(some 7), none, none, .load false 1 (.t 6)⟩,
    ⟨(some 8), none, none, .fieldA 0 (.t 3)⟩,
    ⟨(some 9), none, none, .load false 1 (.t 8)⟩,
    ⟨(some 10), none, none, .beq true (.t 7) (.t 9)⟩,
    ⟨(some 11), none, none, .mv (.t 10)⟩,
    ⟨(some 12), (some (11, false)), none, .fieldA 1 (.t 2)⟩,
    ⟨(some 13), (some (11, false)), none, .load false 1 (.t 12)⟩,
    ⟨(some 14), (some (11, false)), none, .len (.t 13)⟩,
    ⟨(some 15), (some (11, false)), none, .fieldA 1 (.t 3)⟩,
    ⟨(some 16), (some (11, false)), none, .load false 1 (.t 15)⟩,
    ⟨(some 17), (some (11, false)), none, .len (.t 16)⟩,
    ⟨(some 18), (some (11, false)), none, .bin .neq (.t 14) (.t 17)⟩,
    ⟨(some 19), none, none, .pick (.t 11) (.c (.p (.bool true))) (.t 18)⟩] none)
  (.fg [2, 3, 19] (.cond (.t 19)
    (.seq (.reg [⟨(some 4), none, none, .mv (.c (.p (.bool false)))⟩] none)
    .ret)
    .skip)))
  (.seq (.seq (.reg [⟨(some 5), none, none, .mv (.c (.p (.int .i64 0)))⟩] none)
  (.fg [2, 3, 5] (.block 0
  (.loop (.fg [2, 3, 5]
    (.seq (.seq (.reg [⟨(some 20), none, none, .mv (.t 5)⟩,
    ⟨(some 21), none, none, .fieldA 1 (.t 2)⟩,
    ⟨(some 22), none, none, .load false 1 (.t 21)⟩,
    ⟨(some 23), none, none, .len (.t 22)⟩,
    ⟨(some 24), none, none, .bin .lss (.t 20) (.t 23)⟩] none)
      (.fg [2, 3, 5, 24] (.cond (.t 24)
        .skip
        (.exit 0))))
      (.seq (.block 1
      (.seq (.reg [⟨(some 27), none, none, .fieldA 1 (.t 2)⟩,
    ⟨(some 28), none, none, .load false 1 (.t 27)⟩,
    ⟨(some 29), none, none, .mv (.t 5)⟩,
    ⟨(some 30), none, none, .indexA 1 (.t 28) (.t 29)⟩,
    ⟨(some 31), none, none, .load false 1 (.t 30)⟩,
    ⟨(some 32), none, none, .fieldA 1 (.t 3)⟩,
    ⟨(some 33), none, none, .load false 1 (.t 32)⟩,
    ⟨(some 34), none, none, .mv (.t 5)⟩,
    ⟨(some 35), none, none, .indexA 1 (.t 33) (.t 34)⟩,
    ⟨(some 36), none, none, .load false 1 (.t 35)⟩,
    ⟨(some 37), none, none, .bin .neq (.t 31) (.t 36)⟩] (some (0, [])))
        (.fg [2, 3, 5, 37] (.cond (.t 37)
          (.seq (.reg [⟨(some 4), none, none, .mv (.c (.p (.bool false)))⟩] none)
          .ret)
          .skip))))
      (.fg [2, 3, 5] (.reg [⟨(some 25), none, none, .mv (.t 5)⟩,
    ⟨(some 26), none, none, .bin .add (.t 25) (.c (.p (.int .i64 1)))⟩,
    ⟨(some 5), none, none, .mv (.t 26)⟩] none)))))))))
  (.seq (.reg [⟨(some 4), none, none, .mv (.c (.p (.bool true)))⟩] none)
  .ret)))),
  [.t 4]⟩

theorem c106 : chkF Try.prog 106 f106 = true := by kernel_rfl

/-- trammel/mat.each[[]trammel/api.Int,[]trammel/api.Int] -/
def f114 : RFun := ⟨(.seq (.reg [⟨(some 4), none, none, .mv (.c (.nils))⟩] none)
  (.seq (.reg [⟨(some 8), none, none, .mv (.t 0)⟩,
    ⟨(some 9), none, none, .len (.t 8)⟩,
    ⟨(some 10), none, none, .mks false 1 24 (.sl []) (.c (.p (.int .i64 0))) (.t 9)⟩,
    ⟨(some 5), none, none, .mv (.t 10)⟩] none)
  (.seq (.seq (.reg [⟨(some 11), none, none, .mv (.t 0)⟩,
    ⟨(some 12), none, none, .len (.t 11)⟩,
    ⟨(some 13), none, none, .mv (.c (.p (.int .i64 0)))⟩] none)
  (.fg [1, 5, 11, 12, 13] (.block 0
  (.loop (.fg [1, 5, 11, 12, 13]
    (.seq (.reg [⟨(some 14), none, none, .bin .lss (.t 13) (.t 12)⟩] none)
      (.seq (.cond (.t 14)
        .skip
        (.exit 0))
      (.fg [1, 5, 11, 12, 13] (.seq (.block 1
      (.seq (.reg [⟨(some 15), none, none, .indexA 1 (.t 11) (.t 13)⟩,
    ⟨(some 16), none, none, .load false 1 (.t 15)⟩,
    ⟨(some 7), none, none, .mv (.t 16)⟩] none)
        (.reg [⟨(some 17), none, none, .mv (.t 5)⟩,
    ⟨(some 18), none, none, .mv (.t 1)⟩,
    ⟨(some 19), none, none, .mv (.t 7)⟩,
    ⟨(some 20), none, none, .callv .pu (.t 18) [.t 19]⟩,
    ⟨(some 21), none, none, .bslice 1 [.t 20]⟩,
    ⟨(some 22), none, none, .append 1 24 (.t 17) (.t 21)⟩,
    ⟨(some 5), none, none, .mv (.t 22)⟩] none)))
      (.fg [1, 5, 11, 12, 13] (.reg [⟨(some 23), none, none, .bin .add (.t 13) (.c (.p (.int .i64 1)))⟩,
    ⟨(some 13), none, none, .mv (.t 23)⟩] none)))))))))))
  (.seq (.reg [⟨(some 24), none, none, .mv (.t 5)⟩,
    ⟨(some 4), none, none, .mv (.t 24)⟩] none)
  .ret)))),
  [.t 4]⟩

theorem c114 : chkF Try.prog 114 f114 = true := by kernel_rfl

/-- trammel/mat.each[trammel/api.Int,trammel/api.Int] -/
def f116 : RFun := ⟨(.seq (.reg [⟨(some 4), none, none, .mv (.c (.nils))⟩] none)
  (.seq (.reg [⟨(some 8), none, none, .mv (.t 0)⟩,
    ⟨(some 9), none, none, .len (.t 8)⟩,
    ⟨(some 10), none, none, .mks false 2 32 (.agg [.bool false, .sl []]) (.c (.p (.int .i64 0))) (.t 9)⟩,
    ⟨(some 5), none, none, .mv (.t 10)⟩] none)
  (.seq (.seq (.reg [⟨(some 11), none, none, .mv (.t 0)⟩,
    ⟨(some 12), none, none, .len (.t 11)⟩,
    ⟨(some 13), none, none, .mv (.c (.p (.int .i64 0)))⟩] none)
  (.fg [1, 5, 11, 12, 13] (.block 0
  (.loop (.fg [1, 5, 11, 12, 13]
    (.seq (.reg [⟨(some 14), none, none, .bin .lss (.t 13) (.t 12)⟩] none)
      (.seq (.cond (.t 14)
        .skip
        (.exit 0))
      (.fg [1, 5, 11, 12, 13] (.seq (.block 1
      (.seq (.reg [⟨(some 15), none, none, .indexA 2 (.t 11) (.t 13)⟩,
    ⟨(some 16), none, none, .load true 2 (.t 15)⟩,
    ⟨(some 7), none, none, .alloc [.p (.bool false), .nils]⟩,
    ⟨none, none, none, .store 2 (.t 7) (.t 16)⟩] none)
        (.reg [⟨(some 17), none, none, .mv (.t 5)⟩,
    ⟨(some 18), none, none, .mv (.t 1)⟩,
    ⟨(some 19), none, none, .load true 2 (.t 7)⟩,
    ⟨(some 20), none, none, .callv .pu (.t 18) [.t 19]⟩,
    ⟨(some 21), none, none, .bslice 2 [.t 20]⟩,
    ⟨(some 22), none, none, .append 2 32 (.t 17) (.t 21)⟩,
    ⟨(some 5), none, none, .mv (.t 22)⟩] none)))
      (.fg [1, 5, 11, 12, 13] (.reg [⟨(some 23), none, none, .bin .add (.t 13) (.c (.p (.int .i64 1)))⟩,
    ⟨(some 13), none, none, .mv (.t 23)⟩] none)))))))))))
  (.seq (.reg [⟨(some 24), none, none, .mv (.t 5)⟩,
    ⟨(some 4), none, none, .mv (.t 24)⟩] none)
  .ret)))),
  [.t 4]⟩

theorem c116 : chkF Try.prog 116 f116 = true := by kernel_rfl

/-- trammel/mat.Times$1 -/
def f120 : RFun := ⟨(.seq (.reg [⟨(some 2), none, none, .box (.t 0)⟩,
    ⟨(some 3), none, none, .alloc [.p (.bool false), .nils]⟩] none)
  (.seq (.reg [⟨(some 4), none, none, .load true 2 (.t 1)⟩,
    ⟨(some 5), none, none, .load true 2 (.t 2)⟩,
    ⟨(some 6), none, none, .call .pu 63 [.t 4, .t 5]⟩,
    ⟨none, none, none, .store 2 (.t 3) (.t 6)⟩] none)
  .ret)),
  [.cell 3 true 2]⟩

theorem c120 : chkF Try.prog 120 f120 = true := by kernel_rfl

/-- trammel/trammellaw26.own -/
def f126 : RFun := ⟨(.seq (.reg [⟨(some 1), none, none, .box (.t 0)⟩,
    ⟨(some 2), none, none, .alloc [.p (.bool false), .nils]⟩] none)
  (.seq (.reg [⟨(some 3), none, none, .mv (.c (.nils))⟩] none)
  (.seq (.reg [⟨(some 4), none, none, .mv (.t 3)⟩,
    ⟨(some 5), none, none, .fieldA 1 (.t 1)⟩,
    ⟨(some 6), none, none, .load false 1 (.t 5)⟩,
    ⟨(some 7), none, none, .append 1 4 (.t 4) (.t 6)⟩,
    ⟨(some 3), none, none, .mv (.t 7)⟩] none)
  (.seq (.reg [⟨(some 8), none, none, .mv (.t 3)⟩,
    ⟨(some 9), none, none, .bslice 1 [.c (.p (.int .u32 77)), .c (.p (.int .u32 78)), .c (.p (.int .u32 79)), .c (.p (.int .u32 80)), .c (.p (.int .u32 81)), .c (.p (.int .u32 82)), .c (.p (.int .u32 83)), .c (.p (.int .u32 84)), .c (.p (.int .u32 85))]⟩,
    ⟨(some 10), none, none, .append 1 4 (.t 8) (.t 9)⟩,
    ⟨(some 3), none, none, .mv (.t 10)⟩] none)
  (.seq (.reg [⟨(some 11), none, none, .fieldA 0 (.t 1)⟩,
    ⟨(some 12), none, none, .load false 1 (.t 11)⟩,
    ⟨(some 13), none, none, .mv (.t 3)⟩,
    ⟨(some 14), none, none, .fieldA 1 (.t 1)⟩,
    ⟨(some 15), none, none, .load false 1 (.t 14)⟩,
    ⟨(some 16), none, none, .len (.t 15)⟩,
    ⟨(some 17), none, none, .slice 1 (.t 13) none (some (.t 16)) none⟩,
    ⟨(some 18), none, none, .build [.p (.bool false), .nils] [(0, 1, .t 12), (1, 1, .t 17)]⟩,
    ⟨none, none, none, .store 2 (.t 2) (.t 18)⟩] (some (0, [])))
  .ret))))),
  [.cell 2 true 2]⟩

theorem c126 : chkF Try.prog 126 f126 = true := by kernel_rfl

/-- trammel/mat.Plus -/
def f127 : RFun := ⟨(.seq (.reg [⟨(some 4), none, none, .mv (.c (.nils))⟩,
    ⟨(some 5), none, none, .mv (.c (.p (.int .i64 0)))⟩] none)
  (.seq (.reg [⟨(some 6), none, none, .mv (.t 0)⟩,
    ⟨(some 7), none, none, .mv (.t 1)⟩,
    ⟨(some 8), none, none, .call .pu 156 [.t 6, .t 7, .c (.fn 145 [])]⟩,
    ⟨(some 9), none, none, .extract (.t 8) 0⟩,
    ⟨(some 10), none, none, .extract (.t 8) 1⟩,
    ⟨(some 4), none, none, .mv (.t 9)⟩,
    ⟨(some 5), none, none, .mv (.t 10)⟩] none)
  .ret)),
  [.t 4, .t 5]⟩

theorem c127 : chkF Try.prog 127 f127 = true := by kernel_rfl

/-- trammel/mat.Minus -/
def f128 : RFun := ⟨(.seq (.reg [⟨(some 4), none, none, .mv (.c (.nils))⟩,
    ⟨(some 5), none, none, .mv (.c (.p (.int .i64 0)))⟩] none)
  (.seq (.reg [⟨(some 6), none, none, .mv (.t 0)⟩,
    ⟨(some 7), none, none, .mv (.t 1)⟩,
    ⟨(some 8), none, none, .call .pu 156 [.t 6, .t 7, .c (.fn 157 [])]⟩,
    ⟨(some 9), none, none, .extract (.t 8) 0⟩,
    ⟨(some 10), none, none, .extract (.t 8) 1⟩,
    ⟨(some 4), none, none, .mv (.t 9)⟩,
    ⟨(some 5), none, none, .mv (.t 10)⟩] none)
  .ret)),
  [.t 4, .t 5]⟩

theorem c128 : chkF Try.prog 128 f128 = true := by kernel_rfl

/-- trammel/trammelref04.Plus -/
def f129 : RFun := ⟨(.seq (.reg [⟨(some 4), none, none, .mv (.c (.nils))⟩,
    ⟨(some 5), none, none, .mv (.c (.p (.int .i64 0)))⟩] none)
  (.seq (.seq (.reg [⟨(some 8), none, none, .mv (.t 0)⟩,
    ⟨(some 9), none, none, .len (.t 8)⟩,
    ⟨(some 10), none, none, .mv (.t 1)⟩,
    ⟨(some 11), none, none, .len (.t 10)⟩,
    ⟨(some 12), none, none, .bin .neq (.t 9) (.t 11)⟩] none)
  (.fg [0, 1, 12] (.cond (.t 12)
    (.seq (.reg [⟨(some 4), none, none, .mv (.c (.nils))⟩,
    ⟨(some 5), none, none, .mv (.c (.p (.int .i64 8)))⟩] none)
    .ret)
    .skip)))
  (.seq (.reg [⟨(some 6), none, none, .mv (.c (.nils))⟩] none)
  (.seq (.seq (.reg [⟨(some 7), none, none, .mv (.c (.p (.int .i64 0)))⟩] none)
  (.fg [0, 1, 6, 7] (.block 0
  (.loop (.fg [0, 1, 6, 7]
    (.seq (.seq (.reg [⟨(some 13), none, none, .mv (.t 7)⟩,
    ⟨(some 14), none, none, .mv (.t 0)⟩,
    ⟨(some 15), none, none, .len (.t 14)⟩,
    ⟨(some 16), none, none, .bin .lss (.t 13) (.t 15)⟩] none)
      (.fg [0, 1, 6, 7, 16] (.cond (.t 16)
        .skip
        (.exit 0))))
      (.seq (.block 1
      (.reg [⟨(some 19), none, none, .mv (.t 6)⟩,
    ⟨(some 20), none, none, .mv (.t 0)⟩,
    ⟨(some 21), none, none, .mv (.t 7)⟩,
    ⟨(some 22), none, none, .indexA 2 (.t 20) (.t 21)⟩,
    ⟨(some 23), none, none, .load true 2 (.t 22)⟩,
    ⟨(some 24), none, none, .mv (.t 1)⟩,
    ⟨(some 25), none, none, .mv (.t 7)⟩,
    ⟨(some 26), none, none, .indexA 2 (.t 24) (.t 25)⟩,
    ⟨(some 27), none, none, .load true 2 (.t 26)⟩,
    ⟨(some 28), none, none, .call .pu 109 [.t 23, .t 27]⟩,
    ⟨(some 29), none, (some 0), .bslice 2 [.t 28]⟩,
    ⟨(some 30), none, (some 1), .append 2 32 (.t 19) (.t 29)⟩,
    ⟨(some 6), none, none, .mv (.t 30)⟩] (some (2, []))))
      (.fg [0, 1, 6, 7] (.reg [⟨(some 17), none, none, .mv (.t 7)⟩,
    ⟨(some 18), none, none, .bin .add (.t 17) (.c (.p (.int .i64 1)))⟩,
    ⟨(some 7), none, none, .mv (.t 18)⟩] none)))))))))
  (.seq (.reg [⟨(some 31), none, none, .mv (.t 6)⟩,
    ⟨(some 4), none, none, .mv (.t 31)⟩,
    ⟨(some 5), none, none, .mv (.c (.p (.int .i64 0)))⟩] none)
  .ret))))),
  [.t 4, .t 5]⟩

theorem c129 : chkF Try.prog 129 f129 = true := by kernel_rfl

/-- trammel/trammelref04.Minus -/
def f130 : RFun := ⟨(.seq (.reg [⟨(some 4), none, none, .mv (.c (.nils))⟩,
    ⟨(some 5), none, none, .mv (.c (.p (.int .i64 0)))⟩] none)
  (.seq (.reg [⟨(some 6), none, none, .mv (.t 0)⟩,
    ⟨(some 7), none, none, .call .pu 66 [.c (.p (.int .i64 (-1)))]⟩,
    ⟨(some 8), none, none, .mv (.t 1)⟩,
    ⟨(some 9), none, none, .call .pu 74 [.t 7, .t 8]⟩,
    ⟨(some 10), none, none, .call .pu 129 [.t 6, .t 9]⟩,
    ⟨(some 11), none, none, .extract (.t 10) 0⟩,
    ⟨(some 12), none, none, .extract (.t 10) 1⟩,
    ⟨(some 4), none, none, .mv (.t 11)⟩,
    ⟨(some 5), none, none, .mv (.t 12)⟩] none)
  .ret)),
  [.t 4, .t 5]⟩

theorem c130 : chkF Try.prog 130 f130 = true := by kernel_rfl

/-- trammel/trammelref02.Bits -/
def f131 : RFun := ⟨(.seq (.reg [⟨(some 1), none, none, .box (.t 0)⟩,
    ⟨(some 2), none, none, .mv (.c (.p (.int .i64 0)))⟩] none)
  (.seq (.reg [⟨(some 3), none, none, .fieldA 1 (.t 1)⟩,
    ⟨(some 4), none, none, .load false 1 (.t 3)⟩,
    ⟨(some 5), none, none, .call .pu 82 [.t 4]⟩,
    ⟨(some 2), none, none, .mv (.t 5)⟩] none)
  .ret)),
  [.t 2]⟩

theorem c131 : chkF Try.prog 131 f131 = true := by kernel_rfl

/-- trammel/mat.pairs -/
def f156 : RFun := ⟨(.seq (.reg [⟨(some 6), none, none, .mv (.c (.nils))⟩,
    ⟨(some 7), none, none, .mv (.c (.p (.int .i64 0)))⟩] none)
  (.seq (.seq (.reg [⟨(some 10), none, none, .mv (.t 0)⟩,
    ⟨(some 11), none, none, .len (.t 10)⟩,
    ⟨(some 12), none, none, .mv (.t 1)⟩,
    ⟨(some 13), none, none, .len (.t 12)⟩,
    ⟨(some 14), none, none, .bin .neq (.t 11) (.t 13)⟩] none)
  (.fg [0, 1, 2, 14] (.cond (.t 14)
    (.seq (.reg [⟨(some 6), none, none, .mv (.c (.nils))⟩,
    ⟨(some 7), none, none, .mv (.c (.p (.int .i64 8)))⟩] none)
    .ret)
    .skip)))
  (.seq (.reg [⟨(some 8), none, none, .mv (.c (.nils))⟩] none)
  (.seq (.seq (.reg [⟨(some 15), none, none, .mv (.t 0)⟩,
    ⟨(some 16), none, none, .len (.t 15)⟩,
    ⟨(some 17), none, none, .mv (.c (.p (.int .i64 0)))⟩] none)
  (.fg [0, 1, 2, 8, 16, 17] (.block 0
  (.loop (.fg [0, 1, 2, 8, 16, 17]
    (.seq (.reg [⟨(some 18), none, none, .bin .lss (.t 17) (.t 16)⟩] none)
      (.seq (.cond (.t 18)
        .skip
        (.exit 0))
      (.fg [0, 1, 2, 8, 16, 17] (.seq (.block 1
      (.seq (.reg [⟨(some 19), none, none, .mv (.t 17)⟩,
    ⟨(some 9), none, none, .mv (.t 19)⟩] none)
        (.reg [⟨(some 20), none, none, .mv (.t 8)⟩,
    ⟨(some 21), none, none, .mv (.t 2)⟩,
    ⟨(some 22), none, none, .mv (.t 0)⟩,
    ⟨(some 23), none, none, .mv (.t 9)⟩,
    ⟨(some 24), none, none, .indexA 2 (.t 22) (.t 23)⟩,
    ⟨(some 25), none, none, .load true 2 (.t 24)⟩,
    ⟨(some 26), none, none, .mv (.t 1)⟩,
    ⟨(some 27), none, none, .mv (.t 9)⟩,
    ⟨(some 28), none, none, .indexA 2 (.t 26) (.t 27)⟩,
    ⟨(some 29), none, none, .load true 2 (.t 28)⟩,
    ⟨(some 30), none, none, .callv .pu (.t 21) [.t 25, .t 29]⟩,
    ⟨(some 31), none, (some 0), .bslice 2 [.t 30]⟩,
    ⟨(some 32), none, (some 1), .append 2 32 (.t 20) (.t 31)⟩,
    ⟨(some 8), none, none, .mv (.t 32)⟩] (some (2, [])))))
      (.fg [0, 1, 2, 8, 16, 17] (.reg [⟨(some 33), none, none, .bin .add (.t 17) (.c (.p (.int .i64 1)))⟩,
    ⟨(some 17), none, none, .mv (.t 33)⟩] none)))))))))))
  (.seq (.reg [⟨(some 34), none, none, .mv (.t 8)⟩,
    ⟨(some 6), none, none, .mv (.t 34)⟩,
    ⟨(some 7), none, none, .mv (.c (.p (.int .i64 0)))⟩] none)
  .ret))))),
  [.t 6, .t 7]⟩

theorem c156 : chkF Try.prog 156 f156 = true := by kernel_rfl

end Go.Proofs.Ytdieenbfdeaffaa.VKs

namespace Go.Proofs.Ytdieenbfdeaffaa.VKs
open Go Vpi
set_option maxRecDepth 100000

def tab : List (Nat × RFun) := [(6, f6), (10, f10), (19, f19), (22, f22), (23, f23), (41, f41), (42, f42), (43, f43), (49, f49), (50, f50), (56, f56), (57, f57), (70, f70), (74, f74), (78, f78), (86, f86), (87, f87), (88, f88), (89, f89), (90, f90), (91, f91), (92, f92), (104, f104), (106, f106), (114, f114), (116, f116), (120, f120), (126, f126), (127, f127), (128, f128), (129, f129), (130, f130), (131, f131), (156, f156)]

def rp : RProg := fun f => match VBn.rp f with | some rf => some rf | none => (tab.find? fun x => x.1 == f).map (·.2)

theorem all_ok : (tab.all fun x => chkF Try.prog x.1 x.2) = true := by
  simp only [tab, List.all_cons, List.all_nil, c6, c10, c19, c22, c23, c41, c42, c43, c49, c50, c56, c57, c70, c74, c78, c86, c87, c88, c89, c90, c91, c92, c104, c106, c114, c116, c120, c126, c127, c128, c129, c130, c131, c156, Bool.and_self]

theorem base_le : TabLe VBn.rp rp := by
  intro f rf h
  simp only [rp, h]

theorem rp_ok : ∀ f rf, rp f = some rf → chkF Try.prog f rf = true := by
  intro f rf h
  unfold rp at h
  split at h
  · rename_i h1
    cases h
    exact VBn.rp_ok _ _ h1
  · rw [Option.map_eq_some_iff] at h
    obtain ⟨x, hx, rfl⟩ := h
    have h1 := List.find?_some hx
    have h2 := List.mem_of_find?_eq_some hx
    have h3 := List.all_eq_true.1 all_ok x h2
    have h4 : x.1 = f := by simpa using h1
    rw [← h4]; exact h3

theorem mixed : Try.prog.follows .mixedOrders = true := VBn.mixed

theorem sim (m : Nat) : CallSim Try.prog (runF rp m) := callSim mixed rp_ok m

end Go.Proofs.Ytdieenbfdeaffaa.VKs

namespace Go.Proofs.Ytdieenbfdeaffaa.VKs
open Go Vpi
open VBn hiding rp tab rp_ok all_ok mixed sim Big
set_option maxRecDepth 100000
set_option linter.unusedSimpArgs false
set_option linter.unusedVariables false

theorem rp49 : rp 49 = some f49 := rfl
theorem rp50 : rp 50 = some f50 := rfl
theorem rp104 : rp 104 = some f104 := rfl
theorem rp106 : rp 106 = some f106 := rfl
theorem rp57 : rp 57 = some f57 := rfl
theorem rp19 : rp 19 = some f19 := rfl
theorem rp56 : rp 56 = some f56 := rfl

/-! ### equal in one form -/

theorem p106 {p : PV} {x : Int} (h : Nu p x) : Pu rp 106 [p, p] (.p (.bool true)) := by
  obtain ⟨s, l, rfl, hl, hn, rfl⟩ := h
  rw [CapN_eq] at hn
  refine pu_of rp106 ?_
  have e2 : ((l.length : Int) != (l.length : Int)) = false := by simp
  simp only [f106, args0, S1, S2, S3, S4, S5, r_idx, r_mks, ev, resultsV, resL, resV, vl, gt, st, sto, fgt, i64, subCV, fill, setCells, mkAgg, allP, frz, frz1, frzL, frzs, kill, kill1, killL, kills, bnd, unV, bsz, toPs, toP, isPure1, pureL, List.elem, List.replicate, Int.reduceLE, Int.reduceLT, ↓reduceIte, reduceCtorEq, Nat.reduceLT, Nat.reduceEqDiff, Nat.reduceAdd, Nat.reduceMul, Nat.reduceLeDiff, Nat.reduceBEq, lm_len]
  simp only [bne_self_eq_false, beq_self_eq_true, Bool.not_true, S1, S2, S3, S4, S5, r_idx, r_mks, ev, resultsV, resL, resV, vl, gt, st, sto, fgt, i64, subCV, fill, setCells, mkAgg, allP, frz, frz1, frzL, frzs, kill, kill1, killL, kills, bnd, unV, bsz, toPs, toP, isPure1, pureL, List.elem, List.replicate, Int.reduceLE, Int.reduceLT, ↓reduceIte, reduceCtorEq, Nat.reduceLT, Nat.reduceEqDiff, Nat.reduceAdd, Nat.reduceMul, Nat.reduceLeDiff, Nat.reduceBEq, e2]
  refine loop_rule (β := Nat) (fun b => ([(2, .ptr 0 0 0), (3, .ptr 1 0 0), (5, i64 b)], [.kblk 2 [.p (.bool s), .p (.sl (lm l))], .kblk 2 [.p (.bool s), .p (.sl (lm l))]])) (fun b => b ≤ l.length) (fun b => l.length - b) 0 rfl rfl (Nat.zero_le _) ?_
  intro i hi ih
  by_cases hin : (i : Int) < l.length
  · have hx := lm_get (l := l) (i := i) (by omega)
    simp only [S1, S2, S3, S4, S5, r_idx, r_mks, ev, resultsV, resL, resV, vl, gt, st, sto, fgt, i64, subCV, fill, setCells, mkAgg, allP, frz, frz1, frzL, frzs, kill, kill1, killL, kills, bnd, unV, bsz, toPs, toP, isPure1, pureL, List.elem, List.replicate, Int.reduceLE, Int.reduceLT, ↓reduceIte, reduceCtorEq, Nat.reduceLT, Nat.reduceEqDiff, Nat.reduceAdd, Nat.reduceMul, Nat.reduceLeDiff, Nat.reduceBEq, lm_len, hin, hx, bne_self_eq_false, Int.natCast_nonneg, Int.toNat_natCast, IntWalk.i64_in ((i : Int) + 1) (by omega)]
    refine ih (i + 1) _ (by omega) (by omega) ?_
    rfl
  · simp only [S1, S2, S3, S4, S5, r_idx, r_mks, ev, resultsV, resL, resV, vl, gt, st, sto, fgt, i64, subCV, fill, setCells, mkAgg, allP, frz, frz1, frzL, frzs, kill, kill1, killL, kills, bnd, unV, bsz, toPs, toP, isPure1, pureL, List.elem, List.replicate, Int.reduceLE, Int.reduceLT, ↓reduceIte, reduceCtorEq, Nat.reduceLT, Nat.reduceEqDiff, Nat.reduceAdd, Nat.reduceMul, Nat.reduceLeDiff, Nat.reduceBEq, lm_len, hin]
    rfl

/-- all are numbers -/
def RowN (r : List PV) : Prop := r.length ≤ 2000000 ∧ ∀ i, i < r.length → ∃ p x, r[i]? = some p ∧ Nu p x
def MatN (b : List PV) : Prop := b.length ≤ 2000000 ∧ ∀ i, i < b.length → ∃ r, b[i]? = some (.sl r) ∧ RowN r

theorem p57 {r : List PV} (hr : RowN r) : Pu rp 57 [.sl r, .sl r] (.p (.bool true)) := by
  refine pu_of rp57 ?_
  have hl := hr.1
  simp only [f57, args0, S1, S2, S3, S4, S5, r_idx, r_mks, ev, resultsV, resL, resV, vl, gt, st, sto, fgt, i64, subCV, fill, setCells, mkAgg, allP, frz, frz1, frzL, frzs, kill, kill1, killL, kills, bnd, unV, bsz, toPs, toP, isPure1, pureL, List.elem, List.replicate, Int.reduceLE, Int.reduceLT, ↓reduceIte, reduceCtorEq, Nat.reduceLT, Nat.reduceEqDiff, Nat.reduceAdd, Nat.reduceMul, Nat.reduceLeDiff, Nat.reduceBEq, bne_self_eq_false]
  refine loop_rule (β := Nat) (fun b => ([(0, .p (.sl r)), (1, .p (.sl r)), (5, i64 b)], [])) (fun b => b ≤ r.length) (fun b => r.length - b) 0 rfl rfl (Nat.zero_le _) ?_
  intro i hi ih
  by_cases hin : (i : Int) < r.length
  · obtain ⟨p, x, hx, hv⟩ := hr.2 i (by omega)
    have k := p106 hv
    obtain ⟨s, l, rfl, -⟩ := hv
    simp only [S1, S2, S3, S4, S5, r_idx, r_mks, ev, resultsV, resL, resV, vl, gt, st, sto, fgt, i64, subCV, fill, setCells, mkAgg, allP, frz, frz1, frzL, frzs, kill, kill1, killL, kills, bnd, unV, bsz, toPs, toP, isPure1, pureL, List.elem, List.replicate, Int.reduceLE, Int.reduceLT, ↓reduceIte, reduceCtorEq, Nat.reduceLT, Nat.reduceEqDiff, Nat.reduceAdd, Nat.reduceMul, Nat.reduceLeDiff, Nat.reduceBEq, hin, hx, kp2 k, unV, Bool.not_true, Int.natCast_nonneg, Int.toNat_natCast, IntWalk.i64_in ((i : Int) + 1) (by omega)]
    refine ih (i + 1) _ (by omega) (by omega) ?_
    rfl
  · simp only [S1, S2, S3, S4, S5, r_idx, r_mks, ev, resultsV, resL, resV, vl, gt, st, sto, fgt, i64, subCV, fill, setCells, mkAgg, allP, frz, frz1, frzL, frzs, kill, kill1, killL, kills, bnd, unV, bsz, toPs, toP, isPure1, pureL, List.elem, List.replicate, Int.reduceLE, Int.reduceLT, ↓reduceIte, reduceCtorEq, Nat.reduceLT, Nat.reduceEqDiff, Nat.reduceAdd, Nat.reduceMul, Nat.reduceLeDiff, Nat.reduceBEq, hin]
    rfl

theorem p19 {b : List PV} (hb : MatN b) : Pu rp 19 [.sl b, .sl b] (.p (.bool true)) := by
  refine pu_of rp19 ?_
  have hl := hb.1
  simp only [f19, args0, S1, S2, S3, S4, S5, r_idx, r_mks, ev, resultsV, resL, resV, vl, gt, st, sto, fgt, i64, subCV, fill, setCells, mkAgg, allP, frz, frz1, frzL, frzs, kill, kill1, killL, kills, bnd, unV, bsz, toPs, toP, isPure1, pureL, List.elem, List.replicate, Int.reduceLE, Int.reduceLT, ↓reduceIte, reduceCtorEq, Nat.reduceLT, Nat.reduceEqDiff, Nat.reduceAdd, Nat.reduceMul, Nat.reduceLeDiff, Nat.reduceBEq, bne_self_eq_false]
  refine loop_rule (β := Nat) (fun i => ([(0, .p (.sl b)), (1, .p (.sl b)), (5, i64 i)], [])) (fun i => i ≤ b.length) (fun i => b.length - i) 0 rfl rfl (Nat.zero_le _) ?_
  intro i hi ih
  by_cases hin : (i : Int) < b.length
  · obtain ⟨r, hx, hr⟩ := hb.2 i (by omega)
    simp only [S1, S2, S3, S4, S5, r_idx, r_mks, ev, resultsV, resL, resV, vl, gt, st, sto, fgt, i64, subCV, fill, setCells, mkAgg, allP, frz, frz1, frzL, frzs, kill, kill1, killL, kills, bnd, unV, bsz, toPs, toP, isPure1, pureL, List.elem, List.replicate, Int.reduceLE, Int.reduceLT, ↓reduceIte, reduceCtorEq, Nat.reduceLT, Nat.reduceEqDiff, Nat.reduceAdd, Nat.reduceMul, Nat.reduceLeDiff, Nat.reduceBEq, hin, hx, kp2 (p57 hr), unV, Bool.not_true, Int.natCast_nonneg, Int.toNat_natCast, IntWalk.i64_in ((i : Int) + 1) (by omega)]
    refine ih (i + 1) _ (by omega) (by omega) ?_
    rfl
  · simp only [S1, S2, S3, S4, S5, r_idx, r_mks, ev, resultsV, resL, resV, vl, gt, st, sto, fgt, i64, subCV, fill, setCells, mkAgg, allP, frz, frz1, frzL, frzs, kill, kill1, killL, kills, bnd, unV, bsz, toPs, toP, isPure1, pureL, List.elem, List.replicate, Int.reduceLE, Int.reduceLT, ↓reduceIte, reduceCtorEq, Nat.reduceLT, Nat.reduceEqDiff, Nat.reduceAdd, Nat.reduceMul, Nat.reduceLeDiff, Nat.reduceBEq, hin]
    rfl

/-! ### a seed -/

/-- a seed's next state -/
def nz (z : Int) : Int := IntKind.u64.wrap (z + 11400714819323198485)
def xs (x : Int) (k : Int) : Int := IntKind.u64.wrap (BitVec.ofInt IntKind.u64.bits x ^^^ BitVec.ofInt IntKind.u64.bits (x.fdiv (2 ^ min k.toNat IntKind.u64.bits))).toNat
def m1 (x : Int) : Int := IntKind.u64.wrap (xs x 30 * 13787848793156543929)
def m2 (x : Int) : Int := IntKind.u64.wrap (xs x 27 * 10723151780598845931)
def ot (z below : Int) : Int := (xs (m2 (m1 (nz z))) 31).tmod below


theorem fn104 {z below : Int} (hb : below ≠ 0) {b : Nat} {σ : Store} (hσ : σ[b]? = some (.kblk 1 [.p (.int .u64 z)])) {Q : CV → Store → Prop}
    (hq : Q (.p (.int .u64 (ot z below))) (σ.set b (.kblk 1 [.p (.int .u64 (nz z))]))) : Rn rp 104 [.p (.int .u64 below), .ptr b 0 0] σ Q := by
  rw [rn_of rp104]
  have hlt : b < σ.length := (List.getElem?_eq_some_iff.1 hσ).1
  simp only [f104, args0, S1, S2, S3, S4, S5, r_idx, r_mks, ev, resultsV, resL, resV, vl, gt, st, sto, fgt, i64, subCV, fill, setCells, mkAgg, allP, frz, frz1, frzL, frzs, kill, kill1, killL, kills, bnd, unV, bsz, toPs, toP, isPure1, pureL, List.elem, List.replicate, Int.reduceLE, Int.reduceLT, ↓reduceIte, reduceCtorEq, Nat.reduceLT, Nat.reduceEqDiff, Nat.reduceAdd, Nat.reduceMul, Nat.reduceLeDiff, Nat.reduceBEq, hσ, binV_rem hb, List.getElem?_set_self, hlt]
  exact hq

theorem fn50 {z below : Int} (hb : below ≠ 0) {b : Nat} {σ : Store} (hσ : σ[b]? = some (.kblk 1 [.p (.int .u64 z)])) {Q : CV → Store → Prop}
    (hq : Q (.p (.int .u64 (ot z below))) (σ.set b (.kblk 1 [.p (.int .u64 (nz z))]))) : Rn rp 50 [.ptr b 0 0, .p (.int .u64 below)] σ Q := by
  rw [rn_of rp50]
  have hlt : b < σ.length := (List.getElem?_eq_some_iff.1 hσ).1
  simp only [f50, args0, S1, S2, S3, S4, S5, r_idx, r_mks, ev, resultsV, resL, resV, vl, gt, st, sto, fgt, i64, subCV, fill, setCells, mkAgg, allP, frz, frz1, frzL, frzs, kill, kill1, killL, kills, bnd, unV, bsz, toPs, toP, isPure1, pureL, List.elem, List.replicate, Int.reduceLE, Int.reduceLT, ↓reduceIte, reduceCtorEq, Nat.reduceLT, Nat.reduceEqDiff, Nat.reduceAdd, Nat.reduceMul, Nat.reduceLeDiff, Nat.reduceBEq, hσ, binV_rem hb, List.getElem?_set_self, hlt]
  exact hq

theorem fn49 {z : Int} {σ : Store} {Q : CV → Store → Prop} (hq : Q (.fn 104 [.ptr σ.length 0 0]) (σ ++ [.kblk 1 [.p (.int .u64 z)]])) : Rn rp 49 [.p (.int .u64 z)] σ Q := by
  rw [rn_of rp49]
  simp only [f49, args0, S1, S2, S3, S4, S5, r_idx, r_mks, ev, resultsV, resL, resV, vl, gt, st, sto, fgt, i64, subCV, fill, setCells, mkAgg, allP, frz, frz1, frzL, frzs, kill, kill1, killL, kills, bnd, unV, bsz, toPs, toP, isPure1, pureL, List.elem, List.replicate, Int.reduceLE, Int.reduceLT, ↓reduceIte, reduceCtorEq, Nat.reduceLT, Nat.reduceEqDiff, Nat.reduceAdd, Nat.reduceMul, Nat.reduceLeDiff, Nat.reduceBEq]
  exact hq


section
variable {rs : List RRes} {base : Nat} {d : Option Nat} {l : List LOp} {dr : Dr} {ks : List KI} {e : Env} {σ : Store} {Q : CV → Store → Prop} {z below : Int} {b : Nat}
theorem k49 : KC rp rs base .keep 49 [.p (.int .u64 z)] d l dr ks e σ Q = ExR rp rs base l dr ks (sto d (.fn 104 [.ptr σ.length 0 0]) e) (σ ++ [.kblk 1 [.p (.int .u64 z)]]) Q := kc_keep (fn49 ⟨rfl, rfl⟩)
theorem k104 (hσ : σ[b]? = some (.kblk 1 [.p (.int .u64 z)])) (hb : below ≠ 0) (hw : Wf σ) : KC rp rs base .full 104 [.p (.int .u64 below), .ptr b 0 0] d l dr ks e σ Q =
    ExR rp rs base l dr ks (sto d (.p (.int .u64 (ot z below))) e) (σ.set b (.kblk 1 [.p (.int .u64 (nz z))])) Q :=
  kc_full (fn104 hb hσ ⟨by rw [List.take_of_length_le (by simp)], by have := (hw.set (b := b) (x := .kblk 1 [.p (.int .u64 (nz z))]) rfl).all; rwa [List.length_set] at this, rfl⟩)
theorem k50 (hσ : σ[b]? = some (.kblk 1 [.p (.int .u64 z)])) (hb : below ≠ 0) (hw : Wf σ) : KC rp rs base .full 50 [.ptr b 0 0, .p (.int .u64 below)] d l dr ks e σ Q =
    ExR rp rs base l dr ks (sto d (.p (.int .u64 (ot z below))) e) (σ.set b (.kblk 1 [.p (.int .u64 (nz z))])) Q :=
  kc_full (fn50 hb hσ ⟨by rw [List.take_of_length_le (by simp)], by have := (hw.set (b := b) (x := .kblk 1 [.p (.int .u64 (nz z))]) rfl).all; rwa [List.length_set] at this, rfl⟩)
end

def zst (z : Int) : Nat → Int
  | 0 => z
  | n + 1 => nz (zst z n)
def otn (z : Int) (q : Nat) : Nat := (ot z q).toNat
theorem ot_nonneg {z below : Int} : 0 ≤ ot z below := by
  unfold ot xs
  refine Int.tmod_nonneg _ ?_
  rw [IntKind.wrap_u64]
  omega
theorem ot_eq {z : Int} {q : Nat} : ot z q = ((otn z q : Nat) : Int) := (Int.toNat_of_nonneg ot_nonneg).symm
theorem otn_lt {z : Int} {q : Nat} (h : 0 < q) : otn z q < q := by
  have h1 : ot z q < q := by unfold ot; exact Int.tmod_lt_of_pos _ (by omega)
  have := ot_eq (z := z) (q := q)
  omega

section
variable {rs : List RRes} {base : Nat} {d : Option Nat} {l : List LOp} {dr : Dr} {ks : List KI} {e : Env} {σ : Store} {Q : CV → Store → Prop} {z : Int} {q b : Nat}
theorem k104' (hσ : σ[b]? = some (.kblk 1 [.p (.int .u64 z)])) (hb : 0 < q) (hw : Wf σ) : KC rp rs base .full 104 [.p (.int .u64 q), .ptr b 0 0] d l dr ks e σ Q =
    ExR rp rs base l dr ks (sto d (.p (.int .u64 (otn z q : Nat))) e) (σ.set b (.kblk 1 [.p (.int .u64 (nz z))])) Q := by rw [k104 hσ (by omega) hw, ot_eq]
theorem k50' (hσ : σ[b]? = some (.kblk 1 [.p (.int .u64 z)])) (hb : 0 < q) (hw : Wf σ) : KC rp rs base .full 50 [.ptr b 0 0, .p (.int .u64 q)] d l dr ks e σ Q =
    ExR rp rs base l dr ks (sto d (.p (.int .u64 (otn z q : Nat))) e) (σ.set b (.kblk 1 [.p (.int .u64 (nz z))])) Q := by rw [k50 hσ (by omega) hw, ot_eq]
end

theorem two_words {v : Nat} (h : v < LB * LB) : IntKind.u32.wrap (v : Int) = ((v % LB : Nat) : Int) ∧ IntKind.u32.wrap ((v : Int).fdiv (2 ^ min (Int.toNat 32) IntKind.u64.bits)) = ((v / LB : Nat) : Int) := by
  have h1 : ((2 : Int) ^ min (Int.toNat 32) IntKind.u64.bits) = 4294967296 := by decide
  rw [h1, IntKind.wrap_u32, IntKind.wrap_u32, Int.fdiv_eq_ediv_of_nonneg _ (by decide)]
  unfold LB at h ⊢
  omega

theorem p56 {v : Nat} (h : v < LB * LB) : Pu rp 56 [.int .u64 (v : Int)] (.p (mk false v)) := by
  refine pu_of rp56 ?_
  have hw := two_words h
  have hp := (p68 (neg := false) (lim_two h) (by simp)).lift base_le
  rw [val_two h] at hp
  simp only [f56, args0, S1, S2, S3, S4, S5, r_idx, r_mks, ev, resultsV, resL, resV, vl, gt, st, sto, fgt, i64, subCV, fill, setCells, mkAgg, allP, frz, frz1, frzL, frzs, kill, kill1, killL, kills, bnd, unV, bsz, toPs, toP, isPure1, pureL, List.elem, List.replicate, Int.reduceLE, Int.reduceLT, ↓reduceIte, reduceCtorEq, Nat.reduceLT, Nat.reduceEqDiff, Nat.reduceAdd, Nat.reduceMul, Nat.reduceLeDiff, Nat.reduceBEq, hw.1, hw.2, two_lm, lm_sz, kf_agg hp]
  rfl


section
variable {rp : RProg} {rs : List RRes} {base : Nat} {d : Option Nat} {l : List LOp} {dr : Dr} {ks : List KI} {e : Env} {σ : Store} {Q : CV → Store → Prop} {sz : Nat} {c : CV} {es : List PV}
theorem kpk_gl {f : Nat} {r u : CV} (h : Pu rp f [.sl es] r) (hg : GL σ sz c es) (hu : scal (some r) = some u) : KC rp rs base .peek f [c] d l dr ks e σ Q = ExR rp rs base l dr ks (sto d u e) σ Q :=
  kc_peek h (by simp only [frzs, hg.frz, Option.map_some]) hu
end
end Go.Proofs.Ytdieenbfdeaffaa.VKs

namespace Go.Proofs.Ytdieenbfdeaffaa.VKs
open Go Vpi
open VBn hiding rp tab rp_ok all_ok mixed sim Big
set_option maxRecDepth 100000
set_option linter.unusedSimpArgs false
set_option linter.unusedVariables false

theorem rp22 : rp 22 = some f22 := rfl
theorem rp23 : rp 23 = some f23 := rfl

/-- an entry, a row, the rows -/
def sv (z : Int) (B H t : Nat) : Int := ((otn (zst z t) B : Nat) : Int) - (H : Nat)
def srow (z : Int) (B H n i m : Nat) : List PV := (List.range m).map fun k => zi (sv z B H (i * n + k))
def srows (z : Int) (B H n m : Nat) : List PV := (List.range m).map fun i => .sl (srow z B H n i n)
theorem srow_len {z : Int} {B H n i m : Nat} : (srow z B H n i m).length = m := by simp [srow]
theorem srows_len {z : Int} {B H n m : Nat} : (srows z B H n m).length = m := by simp [srows]
theorem srow_succ {z : Int} {B H n i m : Nat} : srow z B H n i (m + 1) = srow z B H n i m ++ [zi (sv z B H (i * n + m))] := by simp [srow, List.range_succ]
theorem srows_succ {z : Int} {B H n m : Nat} : srows z B H n (m + 1) = srows z B H n m ++ [.sl (srow z B H n m n)] := by simp [srows, List.range_succ]
theorem srow_get {z : Int} {B H n i m k : Nat} (h : k < m) : (srow z B H n i m)[k]? = some (zi (sv z B H (i * n + k))) := by simp [srow, h]
theorem srows_get {z : Int} {B H n m i : Nat} (h : i < m) : (srows z B H n m)[i]? = some (.sl (srow z B H n i n)) := by simp [srows, h]

theorem p2le {i j : Nat} (h : i ≤ j) : 2 ^ i ≤ 2 ^ j := Nat.pow_le_pow_right (by decide) h

theorem pow63 {t : Nat} (h1 : 1 ≤ t) (h : t ≤ 63) : 2 ^ t ≤ 9223372036854775808 ∧ 2 ^ (t - 1) ≤ 4611686018427387904 ∧ 2 ≤ 2 ^ t := by
  refine ⟨?_, ?_, ?_⟩
  · exact p2le h
  · exact p2le (j := 62) (by omega)
  · exact p2le (i := 1) h1

theorem shl_u {t : Nat} (h1 : 1 ≤ t) (h : t ≤ 63) : IntKind.u64.wrap (1 * 2 ^ min (Int.toNat (t : Int)) IntKind.u64.bits) = ((2 ^ t : Nat) : Int) := by
  have hb : IntKind.u64.bits = 64 := rfl
  rw [Int.toNat_natCast, hb, Nat.min_eq_left (by omega), Int.one_mul]
  have := pow63 h1 h
  rw [IntKind.wrap_u64]
  have e : ((2 : Int) ^ t) = ((2 ^ t : Nat) : Int) := by rw [Int.natCast_pow]; rfl
  rw [e]
  generalize 2 ^ t = q at *
  omega
theorem shl_i {t : Nat} (h : t ≤ 62) : IntKind.i64.wrap (1 * 2 ^ min (Int.toNat (t : Int)) IntKind.i64.bits) = ((2 ^ t : Nat) : Int) := by
  have hb : IntKind.i64.bits = 64 := rfl
  rw [Int.toNat_natCast, hb, Nat.min_eq_left (by omega), Int.one_mul]
  have : 2 ^ t ≤ 4611686018427387904 := p2le (j := 62) h
  have e : ((2 : Int) ^ t) = ((2 ^ t : Nat) : Int) := by rw [Int.natCast_pow]; rfl
  rw [e]
  generalize 2 ^ t = q at *
  rw [IntWalk.i64_in _ (by omega)]
theorem shl_u0 {t : Nat} (h : t ≤ 62) : IntKind.u64.wrap (1 * 2 ^ min (Int.toNat (t : Int)) IntKind.u64.bits) = ((2 ^ t : Nat) : Int) := by
  have hb : IntKind.u64.bits = 64 := rfl
  rw [Int.toNat_natCast, hb, Nat.min_eq_left (by omega), Int.one_mul]
  have : 2 ^ t ≤ 4611686018427387904 := p2le (j := 62) h
  rw [IntKind.wrap_u64]
  have e : ((2 : Int) ^ t) = ((2 ^ t : Nat) : Int) := by rw [Int.natCast_pow]; rfl
  rw [e]
  generalize 2 ^ t = q at *
  omega

theorem sv_bound {z : Int} {t j : Nat} (h1 : 1 ≤ t) (h : t ≤ 63) : (sv z (2 ^ t) (2 ^ (t - 1)) j).natAbs < 2 ^ 64 ∧ -9223372036854775808 ≤ sv z (2 ^ t) (2 ^ (t - 1)) j ∧ sv z (2 ^ t) (2 ^ (t - 1)) j ≤ 9223372036854775807 := by
  have := pow63 h1 h
  have h2 := otn_lt (z := zst z j) (q := 2 ^ t) (by omega)
  unfold sv
  generalize 2 ^ t = B at *
  generalize 2 ^ (t - 1) = H at *
  generalize otn (zst z j) B = o at *
  omega

theorem sv_sz {z : Int} {t j : Nat} (h1 : 1 ≤ t) (h : t ≤ 63) : Sz (sv z (2 ^ t) (2 ^ (t - 1)) j) := by
  have := (sv_bound (z := z) (j := j) h1 h).1
  refine Sk.sz (n := 2) ?_ (by omega)
  unfold Sk
  have e : LB ^ 2 = 2 ^ 64 := by decide
  rw [e]; exact this

/-- the rows are a matrix of numbers -/
theorem srows_MR {z : Int} {n t : Nat} (hn : n ≤ 12) (h1 : 1 ≤ t) (h : t ≤ 63) : MR (srows z (2 ^ t) (2 ^ (t - 1)) n n) (fun _ => n) (fun i k => sv z (2 ^ t) (2 ^ (t - 1)) (i * n + k)) := by
  intro i hi
  rw [srows_len] at hi
  refine ⟨_, srows_get hi, srow_len, by simp only []; omega, ?_⟩
  intro j hj
  rw [srow_len] at hj
  exact ⟨_, srow_get hj, Nu.zi (sv_sz h1 h)⟩

theorem srows_E {z : Int} {n t : Nat} (h0 : 1 ≤ n) (hn : n ≤ 12) (h1 : 1 ≤ t) (h : t ≤ 63) : vE (fun _ => n) (fun i k => sv z (2 ^ t) (2 ^ (t - 1)) (i * n + k)) n = 0 ∨ vE (fun _ => n) (fun i k => sv z (2 ^ t) (2 ^ (t - 1)) (i * n + k)) n = 50 := by
  have hs : shE (fun _ => n) (fun i k => sv z (2 ^ t) (2 ^ (t - 1)) (i * n + k)) n = 0 := by
    unfold shE
    rw [if_neg, if_neg (by omega), if_neg]
    · rintro ⟨i, _, hne⟩; exact hne rfl
    · rintro (hb | ⟨i, _, hb⟩ | ⟨i, j, hi, hj, hb⟩)
      · omega
      · simp only [] at hb; omega
      · have h2 := (sv_bound (z := z) (j := i * n + j) h1 h).1
        by_cases h0 : (sv z (2 ^ t) (2 ^ (t - 1)) (i * n + j)).natAbs = 0
        · simp only [h0, bl_zero] at hb; omega
        · have h3 := (bl_spec h0).1
          have h4 := (Nat.pow_lt_pow_iff_right (a := 2) (by decide)).1 (Nat.lt_of_le_of_lt h3 h2)
          simp only [] at hb
          omega
  unfold vE
  rw [if_neg (by rw [hs]; simp)]
  split
  · exact .inl rfl
  · exact .inr rfl

theorem i64_sub {o H : Nat} (h1 : o < 9223372036854775808) (h2 : H ≤ 4611686018427387904) : IntKind.i64.wrap ((o : Int) - (H : Nat)) = (o : Int) - (H : Nat) := IntWalk.i64_in _ (by omega)
theorem i64_nat {o : Nat} (h1 : o < 9223372036854775808) : IntKind.i64.wrap (o : Int) = (o : Int) := IntWalk.i64_in _ (by omega)
theorem i64_pred {t : Nat} (h1 : 1 ≤ t) (h : t ≤ 63) : IntKind.i64.wrap ((t : Int) - 1) = ((t - 1 : Nat) : Int) := by rw [IntWalk.i64_in _ (by omega)]; omega
theorem i64_suc {t : Nat} (h : t ≤ 2000000) : IntKind.i64.wrap ((t : Int) + 1) = ((t + 1 : Nat) : Int) := by rw [IntWalk.i64_in _ (by omega)]; omega
theorem sv_rng {z : Int} {B H j : Nat} (h0 : 0 < B) (hB : B ≤ 9223372036854775808) (hH : H ≤ 4611686018427387904) : -9223372036854775808 ≤ sv z B H j ∧ sv z B H j ≤ 9223372036854775807 := by
  have ho := otn_lt (z := zst z j) h0
  unfold sv
  generalize otn (zst z j) B = o at *
  omega

theorem p22 {n t : Nat} {z : Int} (h0 : 1 ≤ n) (hn : n ≤ 12) (h1 : 1 ≤ t) (h : t ≤ 63) {e : Int} (he : e = vE (fun _ => n) (fun i k => sv z (2 ^ t) (2 ^ (t - 1)) (i * n + k)) n) :
    (e = 0 → Pu rp 22 [.int .i64 n, .int .i64 t, .int .u64 z] (.tup [.p (.sl (srows z (2 ^ t) (2 ^ (t - 1)) n n)), .p (.int .i64 0)])) ∧
    (e ≠ 0 → Pu rp 22 [.int .i64 n, .int .i64 t, .int .u64 z] (.tup [.p (.sl []), .p (.int .i64 50)])) := by
  have key : ∀ R : CV, (e = 0 → R = .tup [.p (.sl (srows z (2 ^ t) (2 ^ (t - 1)) n n)), .p (.int .i64 0)]) → (e ≠ 0 → R = .tup [.p (.sl []), .p (.int .i64 50)]) → Pu rp 22 [.int .i64 n, .int .i64 t, .int .u64 z] R := by
    intro R hR1 hR2
    refine pu_of rp22 ?_
    have e1 : ¬ (n : Int) < 1 := by omega
    have e2 : ¬ (n : Int) > 12 := by omega
    have e3 : ¬ (t : Int) < 1 := by omega
    have e4 : ¬ (t : Int) > 63 := by omega
    have hp := pow63 h1 h
    have hB0 : 0 < 2 ^ t := by omega
    simp only [f22, args0, S1, S2, S3, S4, S5, r_idx, r_mks, ev, resultsV, resL, resV, vl, gt, st, sto, fgt, i64, subCV, fill, setCells, mkAgg, allP, frz, frz1, frzL, frzs, kill, kill1, killL, kills, bnd, unV, bsz, toPs, toP, isPure1, pureL, List.elem, List.replicate, Int.reduceLE, Int.reduceLT, ↓reduceIte, reduceCtorEq, Nat.reduceLT, Nat.reduceEqDiff, Nat.reduceAdd, Nat.reduceMul, Nat.reduceLeDiff, Nat.reduceBEq, e1, e2, e3, e4, k49]
    generalize hBe : 2 ^ t = B at *
    generalize hHe : 2 ^ (t - 1) = H at *
    refine loop_rule (β := Nat × Store × CV) (fun b => ([(0, .p (.int .i64 n)), (1, .p (.int .i64 t)), (8, .fn 104 [.ptr 0 0 0]), (9, b.2.2), (27, .p (.int .i64 n)), (28, i64 b.1)], b.2.1))
      (fun b => b.1 ≤ n ∧ Wf b.2.1 ∧ b.2.1[0]? = some (.kblk 1 [.p (.int .u64 (zst z (b.1 * n)))]) ∧ GL b.2.1 1 b.2.2 (srows z B H n b.1)) (fun b => n - b.1) (0, _, .nils) rfl rfl ⟨Nat.zero_le _, Wf.nil.push rfl, by rw [Nat.zero_mul]; rfl, .nil⟩ ?_
    rintro ⟨i, σ, c⟩ ⟨hi, hwf, hz, hgl⟩ ih
    simp only [] at hi hwf hz hgl ih ⊢
    by_cases hin : (i : Int) < n
    · simp only [S1, S2, S3, S4, S5, r_idx, r_mks, ev, resultsV, resL, resV, vl, gt, st, sto, fgt, i64, subCV, fill, setCells, mkAgg, allP, frz, frz1, frzL, frzs, kill, kill1, killL, kills, bnd, unV, bsz, toPs, toP, isPure1, pureL, List.elem, List.replicate, Int.reduceLE, Int.reduceLT, ↓reduceIte, reduceCtorEq, Nat.reduceLT, Nat.reduceEqDiff, Nat.reduceAdd, Nat.reduceMul, Nat.reduceLeDiff, Nat.reduceBEq, hin]
      refine loop_rule (β := Nat × Store × CV) (fun b => ([(0, .p (.int .i64 n)), (1, .p (.int .i64 t)), (8, .fn 104 [.ptr 0 0 0]), (9, c), (10, b.2.2), (27, .p (.int .i64 n)), (28, i64 i), (30, .p (.int .i64 n)), (31, i64 b.1)], b.2.1))
        (fun b => b.1 ≤ n ∧ Wf b.2.1 ∧ b.2.1[0]? = some (.kblk 1 [.p (.int .u64 (zst z (i * n + b.1)))]) ∧ GL b.2.1 1 c (srows z B H n i) ∧ GL b.2.1 2 b.2.2 (srow z B H n i b.1)) (fun b => n - b.1) (0, σ, .nils) rfl rfl ⟨Nat.zero_le _, hwf, hz, hgl, .nil⟩ ?_
      rintro ⟨k, τ, cr⟩ ⟨hk, hwτ, hzτ, hgτ, hgr⟩ ih2
      simp only [] at hk hwτ hzτ hgτ hgr ih2 ⊢
      have hlt0 := (List.getElem?_eq_some_iff.1 hzτ).1
      by_cases hkn : (k : Int) < n
      · have hz2 : (τ ++ [Blk.hole, Blk.hole])[0]? = some (.kblk 1 [.p (.int .u64 (zst z (i * n + k)))]) := by rw [get_left hlt0, hzτ]
        have hw2 : Wf (τ ++ [Blk.hole, Blk.hole]) := by have := (hwτ.push (x := .hole) rfl).push (x := .hole) rfl; rwa [List.append_assoc] at this
        have ho := otn_lt (z := zst z (i * n + k)) hB0
        have c1 := i64_nat (Nat.lt_of_lt_of_le ho hp.1)
        have c2 := i64_pred h1 h
        have c3 : IntKind.i64.wrap (((otn (zst z (i * n + k)) B : Nat) : Int) - (H : Nat)) = sv z B H (i * n + k) := i64_sub (Nat.lt_of_lt_of_le ho hp.1) hp.2.1
        have hsB := sv_rng (z := z) (j := i * n + k) hB0 hp.1 hp.2.1
        have k54 := (p54 hsB.1 hsB.2).lift base_le
        have w1 := i64_suc (t := k) (by omega)
        have t0 : (0 : Int) ≤ (t : Int) := by omega
        have t1 : (0 : Int) ≤ ((t - 1 : Nat) : Int) := by omega
        have su := shl_u h1 h
        have si := shl_i (t := t - 1) (by omega)
        rw [hBe] at su
        rw [hHe] at si
        simp only [S1, S2, S3, S4, S5, r_idx, r_mks, ev, resultsV, resL, resV, vl, gt, st, sto, fgt, i64, subCV, fill, setCells, mkAgg, allP, frz, frz1, frzL, frzs, kill, kill1, killL, kills, bnd, unV, bsz, toPs, toP, isPure1, pureL, List.elem, List.replicate, Int.reduceLE, Int.reduceLT, ↓reduceIte, reduceCtorEq, Nat.reduceLT, Nat.reduceEqDiff, Nat.reduceAdd, Nat.reduceMul, Nat.reduceLeDiff, Nat.reduceBEq, hkn, t0, su, k104' hz2 hB0 hw2, set_left hlt0]
        obtain ⟨ρ, hρ⟩ : ∃ ρ, ρ = τ.set 0 (.kblk 1 [.p (.int .u64 (nz (zst z (i * n + k))))]) := ⟨_, rfl⟩
        have hlen : τ.length = ρ.length := by rw [hρ, List.length_set]
        have r0 : ρ[0]? = some (.kblk 1 [.p (.int .u64 (zst z (i * n + (k + 1))))]) := by rw [hρ, get_self hlt0]; rfl
        have rw' : Wf ρ := by rw [hρ]; exact hwτ.set rfl
        have rg : GL ρ 1 c (srows z B H n i) := by rw [hρ]; exact hgτ.set hzτ
        have rr : GL ρ 2 cr (srow z B H n i k) := by rw [hρ]; exact hgr.set hzτ
        rw [← hρ, hlen]
        have hc : ((srow z B H n i k).length + [zi (sv z B H (i * n + k))].length) * 32 ≤ 140737488355328 := by rw [srow_len]; simp; omega
        have hA := fun {rp rs base d l dr ks e Q s x} hb => r_app_sl (rp := rp) (rs := rs) (base := base) (d := d) (l := l) (dr := dr) (ks := ks) (e := e) (Q := Q) (s := s) (x := x) hb rr hc
        simp only [S1, S2, S3, S4, S5, r_idx, r_mks, ev, resultsV, resL, resV, vl, gt, st, sto, fgt, i64, subCV, fill, setCells, mkAgg, allP, frz, frz1, frzL, frzs, kill, kill1, killL, kills, bnd, unV, bsz, toPs, toP, isPure1, pureL, List.elem, List.replicate, Int.reduceLE, Int.reduceLT, ↓reduceIte, reduceCtorEq, Nat.reduceLT, Nat.reduceEqDiff, Nat.reduceAdd, Nat.reduceMul, Nat.reduceLeDiff, Nat.reduceBEq, c1, c2, t1, si, c3, kp1 k54, push_sl, hA rfl, ← srow_succ, srow_len, w1]
        refine ih2 (k + 1, nd ρ cr ++ [.prow 2 [zi (sv z B H (i * n + k))], .prow 2 (srow z B H n i (k + 1))], .own (ρ.length + 1) 0 (k + 1)) _
          ⟨by simp only []; omega, nd_wf2 rw', nd_get rr r0, (GL.nd rg (GL.ne_sz rg rr (by decide))).left, GL.new2 srow_len.symm rfl⟩ (by simp only []; omega) ?_
        rfl
      · obtain rfl : k = n := by omega
        have frl : frzs τ [cr] = some [.sl (srow z B H k i k)] := by simp only [frzs, hgr.frz, Option.map_some]
        have kil : kills τ [cr] = nd τ cr := by simp only [kills, List.foldl_cons, List.foldl_nil, hgr.kill]
        have g1 : GL (nd τ cr) 1 c (srows z B H k i) := GL.nd hgτ (GL.ne_sz hgτ hgr (by decide))
        have hc : ((srows z B H k i).length + [PV.sl (srow z B H k i k)].length) * 24 ≤ 140737488355328 := by rw [srows_len]; simp; omega
        have hz1 : allSz 1 [PV.sl (srow z B H k i k)] = true := rfl
        have w1 := i64_suc (t := i) (by omega)
        simp only [S1, S2, S3, S4, S5, r_idx, r_mks, ev, resultsV, resL, resV, vl, gt, st, sto, fgt, i64, subCV, fill, setCells, mkAgg, allP, frz, frz1, frzL, frzs, bnd, unV, bsz, toPs, toP, isPure1, pureL, List.elem, List.replicate, Int.reduceLE, Int.reduceLT, ↓reduceIte, reduceCtorEq, Nat.reduceLT, Nat.reduceEqDiff, Nat.reduceAdd, Nat.reduceMul, Nat.reduceLeDiff, Nat.reduceBEq, hkn, frl, kil, hz1, r_app g1 hc, ← srows_succ, srows_len, w1]
        refine ih (i + 1, nd (nd τ cr) c ++ [.prow 1 [.sl (srow z B H k i k)], .prow 1 (srows z B H k (i + 1))], .own ((nd τ cr).length + 1) 0 (i + 1)) _
          ⟨by simp only []; omega, nd_wf2 (nd_wf hwτ), ?_, GL.new2 srows_len.symm rfl⟩ (by simp only []; omega) ?_
        · simp only []
          have := nd_get hgr hzτ (τ := [])
          rw [List.append_nil] at this
          rw [show (i + 1) * k = i * k + k by rw [Nat.add_mul, Nat.one_mul]]
          exact nd_get g1 this
        · rfl
    · obtain rfl : i = n := by omega
      have k59 := (p59 (srows_MR (z := z) hn h1 h) (by rw [srows_len]; omega)).lift base_le
      rw [srows_len, hBe, hHe, ← he] at k59
      have hpk := fun {rp' rs base d l dr ks e' Q} (hq : Pu rp' 59 [.sl (srows z B H i i)] (.p (.int .i64 e))) => kpk_gl (rp := rp') (rs := rs) (base := base) (d := d) (l := l) (dr := dr) (ks := ks) (e := e') (Q := Q) hq hgl rfl
      by_cases he0 : e = 0
      · have e5 : (e != 0) = false := by rw [he0]; rfl
        simp only [S1, S2, S3, S4, S5, r_idx, r_mks, ev, resultsV, resL, resV, vl, gt, st, sto, fgt, i64, subCV, fill, setCells, mkAgg, allP, frz, frz1, frzL, frzs, kill, kill1, killL, kills, bnd, unV, bsz, toPs, toP, isPure1, pureL, List.elem, List.replicate, Int.reduceLE, Int.reduceLT, ↓reduceIte, reduceCtorEq, Nat.reduceLT, Nat.reduceEqDiff, Nat.reduceAdd, Nat.reduceMul, Nat.reduceLeDiff, Nat.reduceBEq, hin, hpk k59, e5]
        rw [hR1 he0]
        exact back_t2 hgl.back1 back1_p
      · have e5 : (e != 0) = true := by simp [he0]
        simp only [S1, S2, S3, S4, S5, r_idx, r_mks, ev, resultsV, resL, resV, vl, gt, st, sto, fgt, i64, subCV, fill, setCells, mkAgg, allP, frz, frz1, frzL, frzs, kill, kill1, killL, kills, bnd, unV, bsz, toPs, toP, isPure1, pureL, List.elem, List.replicate, Int.reduceLE, Int.reduceLT, ↓reduceIte, reduceCtorEq, Nat.reduceLT, Nat.reduceEqDiff, Nat.reduceAdd, Nat.reduceMul, Nat.reduceLeDiff, Nat.reduceBEq, hin, hpk k59, e5]
        rw [hR2 he0]
        exact back_t2 back1_nils back1_p
  exact ⟨fun h => key _ (fun _ => rfl) (fun h2 => absurd h h2), fun h => key _ (fun h2 => absurd h2 h) (fun _ => rfl)⟩
end Go.Proofs.Ytdieenbfdeaffaa.VKs

namespace Go.Proofs.Ytdieenbfdeaffaa.VKs
open Go Vpi
open VBn hiding rp tab rp_ok all_ok mixed sim Big
set_option maxRecDepth 100000
set_option linter.unusedSimpArgs false
set_option linter.unusedVariables false

theorem rp6 : rp 6 = some f6 := rfl

theorem mk_zi {v : Nat} : mk false v = zi (v : Int) := by rw [mk_iv]; rfl

theorem p56z {v : Nat} (h : v < LB * LB) : Pu rp 56 [.int .u64 (v : Int)] (.p (zi (v : Int))) := by
  rw [← mk_zi]; exact p56 h

theorem u64_nat {o : Nat} (h : o ≤ 63) : IntKind.u64.wrap (o : Int) = (o : Int) := by rw [IntKind.wrap_u64]; omega
theorem szN {o : Nat} (h : o < LB * LB) : Sz (o : Int) := Sk.sz (n := 2) (by show o < LB ^ 2; rw [Nat.pow_two]; exact h) (by decide)
theorem ne0 {B : Nat} (h : 0 < B) : (B : Int) ≠ 0 := by omega

theorem p23 {n t : Nat} {z : Int} (h0 : 1 ≤ n) (hn : n ≤ 12) (h1 : 1 ≤ t) (h : t ≤ 63) {e : Int} (he : e = vE (fun _ => n) (fun i k => sv z (2 ^ t) (2 ^ (t - 1)) (i * n + k)) n) :
    (e = 0 → Pu rp 23 [.int .i64 n, .int .i64 t, .int .u64 z] (.tup [.p (.sl (srows z (2 ^ t) (2 ^ (t - 1)) n n)), .p (.int .i64 0)])) ∧
    (e ≠ 0 → Pu rp 23 [.int .i64 n, .int .i64 t, .int .u64 z] (.tup [.p (.sl []), .p (.int .i64 e)])) := by
  have key : ∀ R : CV, (e = 0 → R = .tup [.p (.sl (srows z (2 ^ t) (2 ^ (t - 1)) n n)), .p (.int .i64 0)]) → (e ≠ 0 → R = .tup [.p (.sl []), .p (.int .i64 e)]) → Pu rp 23 [.int .i64 n, .int .i64 t, .int .u64 z] R := by
    intro R hR1 hR2
    refine pu_of rp23 ?_
    have e1 : ¬ (n : Int) < 1 := by omega
    have e2 : ¬ (n : Int) > 12 := by omega
    have e3 : ¬ (t : Int) < 1 := by omega
    have e4 : ¬ (t : Int) > 63 := by omega
    have hp := pow63 h1 h
    have t0 : (0 : Int) ≤ (t : Int) := by omega
    have t1 : (0 : Int) ≤ ((t - 1 : Nat) : Int) := by omega
    have su := shl_u h1 h
    have su1 := shl_u0 (t := t - 1) (by omega)
    have u1 := u64_nat (o := t - 1) (by omega)
    have u2 := u64_nat (o := t) (by omega)
    have c2 := i64_pred h1 h
    generalize hBe : 2 ^ t = B at *
    generalize hHe : 2 ^ (t - 1) = H at *
    have hB0 : 0 < B := Nat.lt_of_lt_of_le (by decide) hp.2.2
    have hHB : H < LB * LB := Nat.lt_of_le_of_lt hp.2.1 (by decide)
    have k56H := p56z hHB
    have SzH := szN hHB
    simp only [f23, args0, S1, S2, S3, S4, S5, r_idx, r_mks, ev, resultsV, resL, resV, vl, gt, st, sto, fgt, i64, subCV, fill, setCells, mkAgg, allP, frz, frz1, frzL, frzs, kill, kill1, killL, kills, bnd, unV, bsz, toPs, toP, isPure1, pureL, List.elem, List.replicate, Int.reduceLE, Int.reduceLT, ↓reduceIte, reduceCtorEq, Nat.reduceLT, Nat.reduceEqDiff, Nat.reduceAdd, Nat.reduceMul, Nat.reduceLeDiff, Nat.reduceBEq, e1, e2, e3, e4, c2, u1, t1, su1, kp1 k56H]
    refine loop_rule (β := Nat × Store × CV) (fun b => ([(0, .p (.int .i64 n)), (1, .p (.int .i64 t)), (8, .ptr 0 0 0), (9, .ptr 1 0 0), (10, b.2.2), (11, i64 b.1)], b.2.1))
      (fun b => b.1 ≤ n ∧ Wf b.2.1 ∧ b.2.1[0]? = some (.kblk 1 [.p (.int .u64 (zst z (b.1 * n)))]) ∧ b.2.1[1]? = some (.kblk 2 (cz (H : Int))) ∧ GL b.2.1 1 b.2.2 (srows z B H n b.1)) (fun b => n - b.1) (0, _, .nils) rfl rfl ⟨Nat.zero_le _, (Wf.nil.push rfl).push rfl, by rw [Nat.zero_mul]; rfl, rfl, .nil⟩ ?_
    rintro ⟨i, σ, c⟩ ⟨hi, hwf, hz, hh, hgl⟩ ih
    simp only [] at hi hwf hz hh hgl ih ⊢
    by_cases hin : (i : Int) < n
    · simp only [S1, S2, S3, S4, S5, r_idx, r_mks, ev, resultsV, resL, resV, vl, gt, st, sto, fgt, i64, subCV, fill, setCells, mkAgg, allP, frz, frz1, frzL, frzs, kill, kill1, killL, kills, bnd, unV, bsz, toPs, toP, isPure1, pureL, List.elem, List.replicate, Int.reduceLE, Int.reduceLT, ↓reduceIte, reduceCtorEq, Nat.reduceLT, Nat.reduceEqDiff, Nat.reduceAdd, Nat.reduceMul, Nat.reduceLeDiff, Nat.reduceBEq, hin]
      refine loop_rule (β := Nat × Store × CV) (fun b => ([(0, .p (.int .i64 n)), (1, .p (.int .i64 t)), (8, .ptr 0 0 0), (9, .ptr 1 0 0), (10, c), (11, i64 i), (12, b.2.2), (13, i64 b.1)], b.2.1))
        (fun b => b.1 ≤ n ∧ Wf b.2.1 ∧ b.2.1[0]? = some (.kblk 1 [.p (.int .u64 (zst z (i * n + b.1)))]) ∧ b.2.1[1]? = some (.kblk 2 (cz (H : Int))) ∧ GL b.2.1 1 c (srows z B H n i) ∧ GL b.2.1 2 b.2.2 (srow z B H n i b.1)) (fun b => n - b.1) (0, σ, .nils) rfl rfl ⟨Nat.zero_le _, hwf, hz, hh, hgl, .nil⟩ ?_
      rintro ⟨k, τ, cr⟩ ⟨hk, hwτ, hzτ, hhτ, hgτ, hgr⟩ ih2
      simp only [] at hk hwτ hzτ hhτ hgτ hgr ih2 ⊢
      have hlt0 := (List.getElem?_eq_some_iff.1 hzτ).1
      by_cases hkn : (k : Int) < n
      · have hz2 : (τ ++ [Blk.hole, Blk.hole])[0]? = some (.kblk 1 [.p (.int .u64 (zst z (i * n + k)))]) := by rw [get_left hlt0, hzτ]
        have ho := otn_lt (z := zst z (i * n + k)) hB0
        have hoB : otn (zst z (i * n + k)) B < LB * LB := Nat.lt_of_lt_of_le (Nat.lt_of_lt_of_le ho hp.1) (by decide)
        have k56 := p56z hoB
        have Szo := szN hoB
        have k60 := (p60 (Nu.zi Szo) (Nu.zi SzH)).lift base_le
        rw [zi_raw (x := (H : Int))] at k60
        have w1 := i64_suc (t := k) (by omega)
        have hfn : Rn rp 50 [.ptr 0 0 0, .p (.int .u64 (B : Nat))] [.kblk 1 [.p (.int .u64 (zst z (i * n + k)))]] fun v' τ' => v' = .p (.int .u64 ((otn (zst z (i * n + k)) B : Nat) : Int)) ∧ τ'[0]? = some (.kblk 1 [.p (.int .u64 (nz (zst z (i * n + k))))]) :=
          fn50 (b := 0) (ne0 hB0) rfl ⟨by rw [ot_eq], rfl⟩
        have kcc := fun {rs base d l dr ks e Q} => kc_cell (rp := rp) (rs := rs) (base := base) (d := d) (l := l) (dr := dr) (ks := ks) (e := e) (Q := Q) (σ := τ ++ [Blk.hole, Blk.hole]) (f := 50) (args := [.ptr 0 0 0, .p (.int .u64 (B : Nat))]) (b := 0) rfl hz2 rfl rfl hfn rfl
        simp only [S1, S2, S3, S4, S5, r_idx, r_mks, ev, resultsV, resL, resV, vl, gt, st, sto, fgt, i64, subCV, fill, setCells, mkAgg, allP, frz, frz1, frzL, frzs, kill, kill1, killL, kills, bnd, unV, bsz, toPs, toP, isPure1, pureL, List.elem, List.replicate, Int.reduceLE, Int.reduceLT, ↓reduceIte, reduceCtorEq, Nat.reduceLT, Nat.reduceEqDiff, Nat.reduceAdd, Nat.reduceMul, Nat.reduceLeDiff, Nat.reduceBEq, hkn, u2, t0, su, kcc, set_left hlt0]
        obtain ⟨ρ, hρ⟩ : ∃ ρ, ρ = τ.set 0 (.kblk 1 [.p (.int .u64 (nz (zst z (i * n + k))))]) := ⟨_, rfl⟩
        have hlen : τ.length = ρ.length := by rw [hρ, List.length_set]
        have r0 : ρ[0]? = some (.kblk 1 [.p (.int .u64 (zst z (i * n + (k + 1))))]) := by rw [hρ, get_self hlt0]; rfl
        have r1 : ρ[1]? = some (.kblk 2 (cz (H : Int))) := by rw [hρ, get_ne (by decide), hhτ]
        have r1' : ∀ l, (ρ ++ l)[1]? = some (.kblk 2 (cz (H : Int))) := fun l => by rw [get_left (List.getElem?_eq_some_iff.1 r1).1, r1]
        have rw' : Wf ρ := by rw [hρ]; exact hwτ.set rfl
        have rg : GL ρ 1 c (srows z B H n i) := by rw [hρ]; exact hgτ.set hzτ
        have rr : GL ρ 2 cr (srow z B H n i k) := by rw [hρ]; exact hgr.set hzτ
        rw [← hρ, hlen]
        have hc : ((srow z B H n i k).length + [zi (sv z B H (i * n + k))].length) * 32 ≤ 140737488355328 := by rw [srow_len]; simp; omega
        have hA := fun {rp rs base d l dr ks e Q s x} hb => r_app_sl (rp := rp) (rs := rs) (base := base) (d := d) (l := l) (dr := dr) (ks := ks) (e := e) (Q := Q) (s := s) (x := x) hb rr hc
        have hsv : zi (((otn (zst z (i * n + k)) B : Nat) : Int) - (H : Nat)) = zi (sv z B H (i * n + k)) := by unfold sv; rfl
        simp only [S1, S2, S3, S4, S5, r_idx, r_mks, ev, resultsV, resL, resV, vl, gt, st, sto, fgt, i64, subCV, fill, setCells, mkAgg, allP, frz, frz1, frzL, frzs, kill, kill1, killL, kills, bnd, unV, bsz, toPs, toP, isPure1, pureL, List.elem, List.replicate, Int.reduceLE, Int.reduceLT, ↓reduceIte, reduceCtorEq, Nat.reduceLT, Nat.reduceEqDiff, Nat.reduceAdd, Nat.reduceMul, Nat.reduceLeDiff, Nat.reduceBEq, kp1 k56, r1', cz, kp2 k60, hsv, push_sl, hA rfl, ← srow_succ, srow_len]
        rw [r_nilx]
        refine ⟨by rfl, ?_⟩
        simp only [S1, S2, S3, S4, S5, r_idx, r_mks, ev, resultsV, resL, resV, vl, gt, st, sto, fgt, i64, subCV, fill, setCells, mkAgg, allP, frz, frz1, frzL, frzs, kill, kill1, killL, kills, bnd, unV, bsz, toPs, toP, isPure1, pureL, List.elem, List.replicate, Int.reduceLE, Int.reduceLT, ↓reduceIte, reduceCtorEq, Nat.reduceLT, Nat.reduceEqDiff, Nat.reduceAdd, Nat.reduceMul, Nat.reduceLeDiff, Nat.reduceBEq, w1]
        refine ih2 (k + 1, nd ρ cr ++ [.prow 2 [zi (sv z B H (i * n + k))], .prow 2 (srow z B H n i (k + 1))], .own (ρ.length + 1) 0 (k + 1)) _
          ⟨by simp only []; omega, nd_wf2 rw', nd_get rr r0, nd_get rr r1, (GL.nd rg (GL.ne_sz rg rr (by decide))).left, GL.new2 srow_len.symm rfl⟩ (by simp only []; omega) ?_
        rfl
      · obtain rfl : k = n := by omega
        have frl : frzs τ [cr] = some [.sl (srow z B H k i k)] := by simp only [frzs, hgr.frz, Option.map_some]
        have kil : kills τ [cr] = nd τ cr := by simp only [kills, List.foldl_cons, List.foldl_nil, hgr.kill]
        have g1 : GL (nd τ cr) 1 c (srows z B H k i) := GL.nd hgτ (GL.ne_sz hgτ hgr (by decide))
        have hc : ((srows z B H k i).length + [PV.sl (srow z B H k i k)].length) * 24 ≤ 140737488355328 := by rw [srows_len]; simp; omega
        have hz1 : allSz 1 [PV.sl (srow z B H k i k)] = true := rfl
        have w1 := i64_suc (t := i) (by omega)
        simp only [S1, S2, S3, S4, S5, r_idx, r_mks, ev, resultsV, resL, resV, vl, gt, st, sto, fgt, i64, subCV, fill, setCells, mkAgg, allP, frz, frz1, frzL, frzs, bnd, unV, bsz, toPs, toP, isPure1, pureL, List.elem, List.replicate, Int.reduceLE, Int.reduceLT, ↓reduceIte, reduceCtorEq, Nat.reduceLT, Nat.reduceEqDiff, Nat.reduceAdd, Nat.reduceMul, Nat.reduceLeDiff, Nat.reduceBEq, hkn, frl, kil, hz1, r_app g1 hc, ← srows_succ, srows_len, w1]
        refine ih (i + 1, nd (nd τ cr) c ++ [.prow 1 [.sl (srow z B H k i k)], .prow 1 (srows z B H k (i + 1))], .own ((nd τ cr).length + 1) 0 (i + 1)) _
          ⟨by simp only []; omega, nd_wf2 (nd_wf hwτ), ?_, ?_, GL.new2 srows_len.symm rfl⟩ (by simp only []; omega) ?_
        · simp only []
          have := nd_get hgr hzτ (τ := [])
          rw [List.append_nil] at this
          rw [show (i + 1) * k = i * k + k by rw [Nat.add_mul, Nat.one_mul]]
          exact nd_get g1 this
        · have := nd_get hgr hhτ (τ := [])
          rw [List.append_nil] at this
          exact nd_get g1 this
        · rfl
    · obtain rfl : i = n := by omega
      have k61 := (p61 (srows_MR (z := z) hn h1 h) (by rw [srows_len]; omega)).lift base_le
      rw [srows_len, hBe, hHe, ← he] at k61
      have hpk := fun {rp' rs base d l dr ks e' Q} (hq : Pu rp' 61 [.sl (srows z B H i i)] (.p (.int .i64 e))) => kpk_gl (rp := rp') (rs := rs) (base := base) (d := d) (l := l) (dr := dr) (ks := ks) (e := e') (Q := Q) hq hgl rfl
      by_cases he0 : e = 0
      · have e5 : (e != 0) = false := by rw [he0]; rfl
        simp only [S1, S2, S3, S4, S5, r_idx, r_mks, ev, resultsV, resL, resV, vl, gt, st, sto, fgt, i64, subCV, fill, setCells, mkAgg, allP, frz, frz1, frzL, frzs, kill, kill1, killL, kills, bnd, unV, bsz, toPs, toP, isPure1, pureL, List.elem, List.replicate, Int.reduceLE, Int.reduceLT, ↓reduceIte, reduceCtorEq, Nat.reduceLT, Nat.reduceEqDiff, Nat.reduceAdd, Nat.reduceMul, Nat.reduceLeDiff, Nat.reduceBEq, hin, hpk k61, e5]
        rw [hR1 he0]
        exact back_t2 hgl.back1 back1_p
      · have e5 : (e != 0) = true := by simp [he0]
        simp only [S1, S2, S3, S4, S5, r_idx, r_mks, ev, resultsV, resL, resV, vl, gt, st, sto, fgt, i64, subCV, fill, setCells, mkAgg, allP, frz, frz1, frzL, frzs, kill, kill1, killL, kills, bnd, unV, bsz, toPs, toP, isPure1, pureL, List.elem, List.replicate, Int.reduceLE, Int.reduceLT, ↓reduceIte, reduceCtorEq, Nat.reduceLT, Nat.reduceEqDiff, Nat.reduceAdd, Nat.reduceMul, Nat.reduceLeDiff, Nat.reduceBEq, hin, hpk k61, e5]
        rw [hR2 he0]
        exact back_t2 back1_nils back1_p
  exact ⟨fun h => key _ (fun _ => rfl) (fun h2 => absurd h h2), fun h => key _ (fun h2 => absurd h2 h) (fun _ => rfl)⟩

theorem e22 {n t z : Int} (h : ¬ (1 ≤ n ∧ n ≤ 12 ∧ 1 ≤ t ∧ t ≤ 63)) : Pu rp 22 [.int .i64 n, .int .i64 t, .int .u64 z] (.tup [.p (.sl []), .p (.int .i64 1)]) := by
  refine pu_of rp22 ?_
  by_cases h0 : n < 1
  · simp only [f22, args0, S1, S2, S3, S4, S5, r_idx, r_mks, ev, resultsV, resL, resV, vl, gt, st, sto, fgt, i64, subCV, fill, setCells, mkAgg, allP, frz, frz1, frzL, frzs, kill, kill1, killL, kills, bnd, unV, bsz, toPs, toP, isPure1, pureL, List.elem, List.replicate, Int.reduceLE, Int.reduceLT, ↓reduceIte, reduceCtorEq, Nat.reduceLT, Nat.reduceEqDiff, Nat.reduceAdd, Nat.reduceMul, Nat.reduceLeDiff, Nat.reduceBEq, h0]; rfl
  by_cases h1 : n > 12
  · simp only [f22, args0, S1, S2, S3, S4, S5, r_idx, r_mks, ev, resultsV, resL, resV, vl, gt, st, sto, fgt, i64, subCV, fill, setCells, mkAgg, allP, frz, frz1, frzL, frzs, kill, kill1, killL, kills, bnd, unV, bsz, toPs, toP, isPure1, pureL, List.elem, List.replicate, Int.reduceLE, Int.reduceLT, ↓reduceIte, reduceCtorEq, Nat.reduceLT, Nat.reduceEqDiff, Nat.reduceAdd, Nat.reduceMul, Nat.reduceLeDiff, Nat.reduceBEq, h0, h1]; rfl
  by_cases h2 : t < 1
  · simp only [f22, args0, S1, S2, S3, S4, S5, r_idx, r_mks, ev, resultsV, resL, resV, vl, gt, st, sto, fgt, i64, subCV, fill, setCells, mkAgg, allP, frz, frz1, frzL, frzs, kill, kill1, killL, kills, bnd, unV, bsz, toPs, toP, isPure1, pureL, List.elem, List.replicate, Int.reduceLE, Int.reduceLT, ↓reduceIte, reduceCtorEq, Nat.reduceLT, Nat.reduceEqDiff, Nat.reduceAdd, Nat.reduceMul, Nat.reduceLeDiff, Nat.reduceBEq, h0, h1, h2]; rfl
  have h3 : t > 63 := by omega
  simp only [f22, args0, S1, S2, S3, S4, S5, r_idx, r_mks, ev, resultsV, resL, resV, vl, gt, st, sto, fgt, i64, subCV, fill, setCells, mkAgg, allP, frz, frz1, frzL, frzs, kill, kill1, killL, kills, bnd, unV, bsz, toPs, toP, isPure1, pureL, List.elem, List.replicate, Int.reduceLE, Int.reduceLT, ↓reduceIte, reduceCtorEq, Nat.reduceLT, Nat.reduceEqDiff, Nat.reduceAdd, Nat.reduceMul, Nat.reduceLeDiff, Nat.reduceBEq, h0, h1, h2, h3]; rfl

theorem e23 {n t z : Int} (h : ¬ (1 ≤ n ∧ n ≤ 12 ∧ 1 ≤ t ∧ t ≤ 63)) : Pu rp 23 [.int .i64 n, .int .i64 t, .int .u64 z] (.tup [.p (.sl []), .p (.int .i64 1)]) := by
  refine pu_of rp23 ?_
  by_cases h0 : n < 1
  · simp only [f23, args0, S1, S2, S3, S4, S5, r_idx, r_mks, ev, resultsV, resL, resV, vl, gt, st, sto, fgt, i64, subCV, fill, setCells, mkAgg, allP, frz, frz1, frzL, frzs, kill, kill1, killL, kills, bnd, unV, bsz, toPs, toP, isPure1, pureL, List.elem, List.replicate, Int.reduceLE, Int.reduceLT, ↓reduceIte, reduceCtorEq, Nat.reduceLT, Nat.reduceEqDiff, Nat.reduceAdd, Nat.reduceMul, Nat.reduceLeDiff, Nat.reduceBEq, h0]; rfl
  by_cases h1 : n > 12
  · simp only [f23, args0, S1, S2, S3, S4, S5, r_idx, r_mks, ev, resultsV, resL, resV, vl, gt, st, sto, fgt, i64, subCV, fill, setCells, mkAgg, allP, frz, frz1, frzL, frzs, kill, kill1, killL, kills, bnd, unV, bsz, toPs, toP, isPure1, pureL, List.elem, List.replicate, Int.reduceLE, Int.reduceLT, ↓reduceIte, reduceCtorEq, Nat.reduceLT, Nat.reduceEqDiff, Nat.reduceAdd, Nat.reduceMul, Nat.reduceLeDiff, Nat.reduceBEq, h0, h1]; rfl
  by_cases h2 : t < 1
  · simp only [f23, args0, S1, S2, S3, S4, S5, r_idx, r_mks, ev, resultsV, resL, resV, vl, gt, st, sto, fgt, i64, subCV, fill, setCells, mkAgg, allP, frz, frz1, frzL, frzs, kill, kill1, killL, kills, bnd, unV, bsz, toPs, toP, isPure1, pureL, List.elem, List.replicate, Int.reduceLE, Int.reduceLT, ↓reduceIte, reduceCtorEq, Nat.reduceLT, Nat.reduceEqDiff, Nat.reduceAdd, Nat.reduceMul, Nat.reduceLeDiff, Nat.reduceBEq, h0, h1, h2]; rfl
  have h3 : t > 63 := by omega
  simp only [f23, args0, S1, S2, S3, S4, S5, r_idx, r_mks, ev, resultsV, resL, resV, vl, gt, st, sto, fgt, i64, subCV, fill, setCells, mkAgg, allP, frz, frz1, frzL, frzs, kill, kill1, killL, kills, bnd, unV, bsz, toPs, toP, isPure1, pureL, List.elem, List.replicate, Int.reduceLE, Int.reduceLT, ↓reduceIte, reduceCtorEq, Nat.reduceLT, Nat.reduceEqDiff, Nat.reduceAdd, Nat.reduceMul, Nat.reduceLeDiff, Nat.reduceBEq, h0, h1, h2, h3]; rfl

theorem MatN.nil : MatN [] := ⟨by simp, fun i hi => by simp at hi⟩

theorem spreads {n t z : Int} : Pu rp 6 [.int .i64 n, .int .i64 t, .int .u64 z] (.p (.bool true)) := by
  have fin : ∀ {b : List PV} {x : Int}, Pu rp 22 [.int .i64 n, .int .i64 t, .int .u64 z] (.tup [.p (.sl b), .p (.int .i64 x)]) → Pu rp 23 [.int .i64 n, .int .i64 t, .int .u64 z] (.tup [.p (.sl b), .p (.int .i64 x)]) → MatN b → Pu rp 6 [.int .i64 n, .int .i64 t, .int .u64 z] (.p (.bool true)) := by
    intro b x h22 h23 hb
    refine pu_of rp6 ?_
    simp only [f6, args0, S1, S2, S3, S4, S5, r_idx, r_mks, ev, resultsV, resL, resV, vl, gt, st, sto, fgt, i64, subCV, fill, setCells, mkAgg, allP, frz, frz1, frzL, frzs, kill, kill1, killL, kills, bnd, unV, bsz, toPs, toP, isPure1, pureL, List.elem, List.replicate, Int.reduceLE, Int.reduceLT, ↓reduceIte, reduceCtorEq, Nat.reduceLT, Nat.reduceEqDiff, Nat.reduceAdd, Nat.reduceMul, Nat.reduceLeDiff, Nat.reduceBEq, kp3 h22, kp3 h23, kp2 (p19 hb)]
    rfl
  by_cases h : 1 ≤ n ∧ n ≤ 12 ∧ 1 ≤ t ∧ t ≤ 63
  · obtain ⟨n, rfl⟩ : ∃ m : Nat, n = m := ⟨n.toNat, by omega⟩
    obtain ⟨t, rfl⟩ : ∃ m : Nat, t = m := ⟨t.toNat, by omega⟩
    obtain ⟨h1, h2, h3, h4⟩ := h
    have h1 : 1 ≤ n := by omega
    have h2 : n ≤ 12 := by omega
    have h3 : 1 ≤ t := by omega
    have h4 : t ≤ 63 := by omega
    obtain ⟨a1, a2⟩ := p22 (z := z) h1 h2 h3 h4 rfl
    obtain ⟨b1, b2⟩ := p23 (z := z) h1 h2 h3 h4 rfl
    by_cases he : vE (fun _ => n) (fun i k => sv z (2 ^ t) (2 ^ (t - 1)) (i * n + k)) n = 0
    · refine fin (a1 he) (b1 he) ⟨by rw [srows_len]; omega, fun i hi => ?_⟩
      rw [srows_len] at hi
      refine ⟨_, srows_get hi, by rw [srow_len]; omega, fun j hj => ?_⟩
      rw [srow_len] at hj
      exact ⟨_, _, srow_get hj, Nu.zi (sv_sz h3 h4)⟩
    · have h50 := (srows_E (z := z) h1 h2 h3 h4).resolve_left he
      have := b2 he
      rw [h50] at this
      exact fin (a2 he) this MatN.nil
  · exact fin (e22 h) (e23 h) MatN.nil

theorem row6 (n : Int) (_ : (Lit.int .i64 n).wf = true) (t : Int) (_ : (Lit.int .i64 t).wf = true) (z : Int) (_ : (Lit.int .u64 z).wf = true) : Pu rp 6 [.int .i64 n, .int .i64 t, .int .u64 z] (.p (.bool true)) := spreads
end Go.Proofs.Ytdieenbfdeaffaa.VKs
