/- Resolved code of functions, printed by a program of ours (genfun.py); each is held against the model by chkF; The functions together; Numbers out of a seed; equal matrices; Rows and matrices of numbers: mat.Form, mat.Times, mat.Plus, mat.Minus, mat.Unit and the reference's; mat.Unit and the reference's rows and matrices; Steps of a twist: kin.move and the reference's turn; Bits, Unit; kin.move; kin.Twist and the reference's; The reference's Twist; The law KinTwists; What the bound on all arguments gives for their parts. No condition. -/
import Derived.Test.YtdieenbfdeaffaaZa2
import Derived.Test.YtdieenbfdeaffaaProg
import Derived.KernelRfl
import Derived.Test.YtdieenbfdeaffaaZb1
import Derived.Test.YtdieenbfdeaffaaZa3
import Derived.Test.YtdieenbfdeaffaaZb3
import Derived.Test.YtdieenbfdeaffaaChecked
import Derived.Test.YtdieenbfdeaffaaRows

namespace Go.Proofs.Ytdieenbfdeaffaa.VKs
open Go Vpi
set_option maxRecDepth 100000

/-- trammel/trammellaw26.KinSpreads -/
def f6 : RFun := ⟨(.seq (.reg [⟨(some 6), none, none, .mv (.c (.p (.bool false)))⟩] none)
  (.seq (.reg [⟨(some 12), none, none, .mv (.t 0)⟩,
    ⟨(some 13), none, none, .mv (.t 1)⟩,
    ⟨(some 14), none, none, .mv (.t 2)⟩,
    ⟨(some 15), none, none, .call .pu 22 [.t 12, .t 13, .t 14]⟩,
    ⟨(some 11), none, none, .mv (.t 15)⟩,
    ⟨(some 16), none, none, .extract (.t 11) 0⟩,
    ⟨(some 17), none, none, .extract (.t 11) 1⟩,
    ⟨(some 7), none, none, .mv (.t 16)⟩,
    ⟨(some 8), none, none, .mv (.t 17)⟩] none)
  (.seq (.reg [⟨(some 19), none, none, .mv (.t 0)⟩,
    ⟨(some 20), none, none, .mv (.t 1)⟩,
    ⟨(some 21), none, none, .mv (.t 2)⟩,
    ⟨(some 22), none, none, .call .pu 23 [.t 19, .t 20, .t 21]⟩,
    ⟨(some 18), none, none, .mv (.t 22)⟩,
    ⟨(some 23), none, none, .extract (.t 18) 0⟩,
    ⟨(some 24), none, none, .extract (.t 18) 1⟩,
    ⟨(some 9), none, none, .mv (.t 23)⟩,
    ⟨(some 10), none, none, .mv (.t 24)⟩] none)
  (.seq (.reg [⟨(some 25), none, none, .mv (.t 8)⟩,
    ⟨(some 26), none, none, .mv (.t 10)⟩,
    ⟨(some 27), none, none, .bin .eql (.t 25) (.t 26)⟩,
    ⟨(some 28), none, none, .mv (.t 27)⟩,
    ⟨(some 29), (some (28, true)), none, .mv (.t 7)⟩,
    ⟨(some 30), (some (28, true)), none, .mv (.t 9)⟩,
    ⟨(some 31), (some (28, true)), none, .call .pu 19 [.t 29, .t 30]⟩,
    ⟨(some 32), none, none, .pick (.t 28) (.t 31) (.c (.p (.bool false)))⟩,
    ⟨(some 6), none, none, .mv (.t 32)⟩] none)
  .ret)))),
  [.t 6]⟩

theorem c6 : chkF Try.prog 6 f6 = true := by kernel_rfl

/-- trammel/trammellaw26.KinTwists -/
def f10 : RFun := ⟨(.seq (.reg [⟨(some 6), none, none, .mv (.c (.p (.bool false)))⟩] none)
  (.seq (.reg [⟨(some 14), none, none, .mv (.t 0)⟩,
    ⟨(some 15), none, none, .call .pu 41 [.t 14]⟩,
    ⟨(some 7), none, none, .mv (.t 15)⟩] none)
  (.seq (.reg [⟨(some 17), none, none, .mv (.t 7)⟩,
    ⟨(some 18), none, none, .mv (.t 1)⟩,
    ⟨(some 19), none, none, .mv (.t 2)⟩,
    ⟨(some 20), none, none, .call .pu 42 [.t 17, .t 18, .t 19]⟩,
    ⟨(some 16), none, none, .mv (.t 20)⟩,
    ⟨(some 21), none, none, .extract (.t 16) 0⟩,
    ⟨(some 22), none, none, .extract (.t 16) 1⟩,
    ⟨(some 23), none, none, .extract (.t 16) 2⟩,
    ⟨(some 8), none, none, .mv (.t 21)⟩,
    ⟨(some 9), none, none, .mv (.t 22)⟩,
    ⟨(some 10), none, none, .mv (.t 23)⟩] none)
  (.seq (.reg [⟨(some 25), none, none, .mv (.t 0)⟩,
    ⟨(some 26), none, none, .mv (.t 1)⟩,
    ⟨(some 27), none, none, .mv (.t 2)⟩,
    ⟨(some 28), none, none, .call .pu 43 [.t 25, .t 26, .t 27]⟩,
    ⟨(some 24), none, none, .mv (.t 28)⟩,
    ⟨(some 29), none, none, .extract (.t 24) 0⟩,
    ⟨(some 30), none, none, .extract (.t 24) 1⟩,
    ⟨(some 31), none, none, .extract (.t 24) 2⟩,
    ⟨(some 11), none, none, .mv (.t 29)⟩,
    ⟨(some 12), none, none, .mv (.t 30)⟩,
    ⟨(some 13), none, none, .mv (.t 31)⟩] none)
  (.seq (.reg [⟨(some 32), none, none, .mv (.t 10)⟩,
    ⟨(some 33), none, none, .mv (.t 13)⟩,
    ⟨(some 34), none, none, .bin .eql (.t 32) (.t 33)⟩,
    ⟨(some 35), none, none, .mv (.t 34)⟩,
    ⟨(some 36), (some (35, true)), none, .mv (.t 8)⟩,
    ⟨(some 37), (some (35, true)), none, .mv (.t 11)⟩,
    ⟨(some 38), (some (35, true)), none, .call .pu 19 [.t 36, .t 37]⟩,
    ⟨(some 39), none, none, .pick (.t 35) (.t 38) (.c (.p (.bool false)))⟩,
    ⟨(some 40), none, none, .mv (.t 39)⟩,
    ⟨(some 41), (some (40, true)), none, .mv (.t 9)⟩,
    ⟨(some 42), (some (40, true)), none, .mv (.t 12)⟩,
    ⟨(some 43), (some (40, true)), none, .call .pu 19 [.t 41, .t 42]⟩,
    ⟨(some 44), none, none, .pick (.t 40) (.t 43) (.c (.p (.bool false)))⟩,
    ⟨(some 45), none, none, .mv (.t 44)⟩,
    ⟨(some 46), (some (45, true)), none, .mv (.t 7)⟩,
    ⟨(some 47), (some (45, true)), none, .mv (.t 0)⟩,
    ⟨(some 48), (some (45, true)), none, .call .pu 19 [.t 46, .t 47]⟩,
    ⟨(some 49), none, none, .pick (.t 45) (.t 48) (.c (.p (.bool false)))⟩,
    ⟨(some 6), none, none, .mv (.t 49)⟩] none)
  .ret))))),
  [.t 6]⟩

theorem c10 : chkF Try.prog 10 f10 = true := by kernel_rfl

/-- trammel/trammellaw26.eqm -/
def f19 : RFun := ⟨(.seq (.reg [⟨(some 4), none, none, .mv (.c (.p (.bool false)))⟩] none)
  (.seq (.seq (.reg [⟨(some 6), none, none, .mv (.t 0)⟩,
    ⟨(some 7), none, none, .len (.t 6)⟩,
    ⟨(some 8), none, none, .mv (.t 1)⟩,
    ⟨(some 9), none, none, .len (.t 8)⟩,
    ⟨(some 10), none, none, .bin .neq (.t 7) (.t 9)⟩] none)
  (.fg [0, 1, 10] (.cond (.t 10)
    (.seq (.reg [⟨(some 4), none, none, .mv (.c (.p (.bool false)))⟩] none)
    .ret)
    .skip)))
  (.seq (.seq (.reg [⟨(some 5), none, none, .mv (.c (.p (.int .i64 0)))⟩] none)
  (.fg [0, 1, 5] (.block 0
  (.loop (.fg [0, 1, 5]
    (.seq (.seq (.reg [⟨(some 11), none, none, .mv (.t 5)⟩,
    ⟨(some 12), none, none, .mv (.t 0)⟩,
    ⟨(some 13), none, none, .len (.t 12)⟩,
    ⟨(some 14), none, none, .bin .lss (.t 11) (.t 13)⟩] none)
      (.fg [0, 1, 5, 14] (.cond (.t 14)
        .skip
        (.exit 0))))
      (.seq (.block 1
      (.seq (.reg [⟨(some 17), none, none, .mv (.t 0)⟩,
    ⟨(some 18), none, none, .mv (.t 5)⟩,
    ⟨(some 19), none, none, .indexA 1 (.t 17) (.t 18)⟩,
    ⟨(some 20), none, none, .load false 1 (.t 19)⟩,
    ⟨(some 21), none, none, .mv (.t 1)⟩,
    ⟨(some 22), none, none, .mv (.t 5)⟩,
    ⟨(some 23), none, none, .indexA 1 (.t 21) (.t 22)⟩,
    ⟨(some 24), none, none, .load false 1 (.t 23)⟩,
    ⟨(some 25), none, none, .call .pu 57 [.t 20, .t 24]⟩,
    ⟨(some 26), none, none, .un .not (.t 25)⟩] (some (0, [])))
        (.fg [0, 1, 5, 26] (.cond (.t 26)
          (.seq (.reg [⟨(some 4), none, none, .mv (.c (.p (.bool false)))⟩] none)
          .ret)
          .skip))))
      (.fg [0, 1, 5] (.reg [⟨(some 15), none, none, .mv (.t 5)⟩,
    ⟨(some 16), none, none, .bin .add (.t 15) (.c (.p (.int .i64 1)))⟩,
    ⟨(some 5), none, none, .mv (.t 16)⟩] none)))))))))
  (.seq (.reg [⟨(some 4), none, none, .mv (.c (.p (.bool true)))⟩] none)
  .ret)))),
  [.t 4]⟩

theorem c19 : chkF Try.prog 19 f19 = true := by kernel_rfl

/-- trammel/kin.Spread -/
def f22 : RFun := ⟨(.seq (.reg [⟨(some 6), none, none, .mv (.c (.nils))⟩,
    ⟨(some 7), none, none, .mv (.c (.p (.int .i64 0)))⟩] none)
  (.seq (.seq (.reg [⟨(some 11), none, none, .mv (.t 0)⟩,
    ⟨(some 12), none, none, .bin .lss (.t 11) (.c (.p (.int .i64 1)))⟩,
    ⟨(some 13), none, none, .mv (.t 12)⟩,
    ⟨(some 14), (some (13, false)), none, .mv (.t 0)⟩,
    ⟨(some 15), (some (13, false)), none, .bin .gtr (.t 14) (.c (.p (.int .i64 12)))⟩,
    ⟨(some 16), none, none, .pick (.t 13) (.c (.p (.bool true))) (.t 15)⟩,
    ⟨(some 17), none, none, .mv (.t 16)⟩,
    ⟨(some 18), (some (17, false)), none, .mv (.t 1)⟩,
    ⟨(some 19), (some (17, false)), none, .bin .lss (.t 18) (.c (.p (.int .i64 1)))⟩,
    ⟨(some 20), none, none, .pick (.t 17) (.c (.p (.bool true))) (.t 19)⟩,
    ⟨(some 21), none, none, .mv (.t 20)⟩,
    ⟨(some 22), (some (21, false)), none, .mv (.t 1)⟩,
    ⟨(some 23), (some (21, false)), none, .bin .gtr (.t 22) (.c (.p (.int .i64 63)))⟩,
    ⟨(some 24), none, none, .pick (.t 21) (.c (.p (.bool true))) (.t 23)⟩] none)
  (.fg [0, 1, 2, 24] (.cond (.t 24)
    (.seq (.reg [⟨(some 6), none, none, .mv (.c (.nils))⟩,
    ⟨(some 7), none, none, .mv (.c (.p (.int .i64 1)))⟩] none)
    .ret)
    .skip)))
  (.seq (.reg [⟨(some 25), none, none, .mv (.t 2)⟩,
    ⟨(some 26), none, none, .call .keep 49 [.t 25]⟩,
    ⟨(some 8), none, none, .mv (.t 26)⟩] none)
  (.seq (.reg [⟨(some 9), none, none, .mv (.c (.nils))⟩] none)
  (.seq (.seq (.reg [⟨(some 27), none, none, .mv (.t 0)⟩,
    ⟨(some 28), none, none, .mv (.c (.p (.int .i64 0)))⟩] none)
  (.fg [0, 1, 8, 9, 27, 28] (.block 0
  (.loop (.fg [0, 1, 8, 9, 27, 28]
    (.seq (.reg [⟨(some 29), none, none, .bin .lss (.t 28) (.t 27)⟩] none)
      (.seq (.cond (.t 29)
        .skip
        (.exit 0))
      (.fg [0, 1, 8, 9, 27, 28] (.seq (.block 1
      (.seq (.reg [⟨(some 10), none, none, .mv (.c (.nils))⟩] none)
        (.seq (.seq (.reg [⟨(some 30), none, none, .mv (.t 0)⟩,
    ⟨(some 31), none, none, .mv (.c (.p (.int .i64 0)))⟩] none)
        (.fg [0, 1, 8, 9, 10, 27, 28, 30, 31] (.block 2
        (.loop (.fg [0, 1, 8, 9, 10, 27, 28, 30, 31]
          (.seq (.reg [⟨(some 32), none, none, .bin .lss (.t 31) (.t 30)⟩] none)
            (.seq (.cond (.t 32)
              .skip
              (.exit 2))
            (.fg [0, 1, 8, 9, 10, 27, 28, 30, 31] (.seq (.block 3
            (.reg [⟨(some 33), none, none, .mv (.t 10)⟩,
    ⟨(some 34), none, none, .mv (.t 8)⟩,
    ⟨(some 35), none, none, .mv (.t 1)⟩,
    ⟨(some 36), none, none, .bin .shl (.c (.p (.int .u64 1))) (.t 35)⟩,
    ⟨(some 37), none, none, .callv .full (.t 34) [.t 36]⟩,
    ⟨(some 38), none, none, .conv .i64 (.t 37)⟩,
    ⟨(some 39), none, none, .mv (.t 1)⟩,
    ⟨(some 40), none, none, .bin .sub (.t 39) (.c (.p (.int .i64 1)))⟩,
    ⟨(some 41), none, none, .bin .shl (.c (.p (.int .i64 1))) (.t 40)⟩,
    ⟨(some 42), none, none, .bin .sub (.t 38) (.t 41)⟩,
    ⟨(some 43), none, none, .call .pu 54 [.t 42]⟩,
    ⟨(some 44), none, (some 0), .bslice 2 [.t 43]⟩,
    ⟨(some 45), none, (some 1), .append 2 32 (.t 33) (.t 44)⟩,
    ⟨(some 10), none, none, .mv (.t 45)⟩] (some (2, []))))
            (.fg [0, 1, 8, 9, 10, 27, 28, 30, 31] (.reg [⟨(some 46), none, none, .bin .add (.t 31) (.c (.p (.int .i64 1)))⟩,
    ⟨(some 31), none, none, .mv (.t 46)⟩] none)))))))))))
        (.reg [⟨(some 47), none, none, .mv (.t 9)⟩,
    ⟨(some 48), none, none, .mv (.t 10)⟩,
    ⟨(some 49), none, none, .bslice 1 [.t 48]⟩,
    ⟨(some 50), none, none, .append 1 24 (.t 47) (.t 49)⟩,
    ⟨(some 9), none, none, .mv (.t 50)⟩] none))))
      (.fg [0, 1, 8, 9, 27, 28] (.reg [⟨(some 51), none, none, .bin .add (.t 28) (.c (.p (.int .i64 1)))⟩,
    ⟨(some 28), none, none, .mv (.t 51)⟩] none)))))))))))
  (.seq (.seq (.reg [⟨(some 52), none, none, .mv (.t 9)⟩,
    ⟨(some 53), none, none, .call .peek 59 [.t 52]⟩,
    ⟨(some 54), none, none, .bin .neq (.t 53) (.c (.p (.int .i64 0)))⟩] none)
  (.fg [9, 54] (.cond (.t 54)
    (.seq (.reg [⟨(some 6), none, none, .mv (.c (.nils))⟩,
    ⟨(some 7), none, none, .mv (.c (.p (.int .i64 50)))⟩] none)
    .ret)
    .skip)))
  (.seq (.reg [⟨(some 55), none, none, .mv (.t 9)⟩,
    ⟨(some 6), none, none, .mv (.t 55)⟩,
    ⟨(some 7), none, none, .mv (.c (.p (.int .i64 0)))⟩] none)
  .ret))))))),
  [.t 6, .t 7]⟩

theorem c22 : chkF Try.prog 22 f22 = true := by kernel_rfl

/-- trammel/trammelref26.Spread -/
def f23 : RFun := ⟨(.seq (.reg [⟨(some 6), none, none, .mv (.c (.nils))⟩,
    ⟨(some 7), none, none, .mv (.c (.p (.int .i64 0)))⟩] none)
  (.seq (.seq (.reg [⟨(some 15), none, none, .mv (.t 0)⟩,
    ⟨(some 16), none, none, .bin .lss (.t 15) (.c (.p (.int .i64 1)))⟩,
    ⟨(some 17), none, none, .mv (.t 16)⟩,
    ⟨(some 18), (some (17, false)), none, .mv (.t 0)⟩,
    ⟨(some 19), (some (17, false)), none, .bin .gtr (.t 18) (.c (.p (.int .i64 12)))⟩,
    ⟨(some 20), none, none, .pick (.t 17) (.c (.p (.bool true))) (.t 19)⟩,
    ⟨(some 21), none, none, .mv (.t 20)⟩,
    ⟨(some 22), (some (21, false)), none, .mv (.t 1)⟩,
    ⟨(some 23), (some (21, false)), none, .bin .lss (.t 22) (.c (.p (.int .i64 1)))⟩,
    ⟨(some 24), none, none, .pick (.t 21) (.c (.p (.bool true))) (.t 23)⟩,
    ⟨(some 25), none, none, .mv (.t 24)⟩,
    ⟨(some 26), (some (25, false)), none, .mv (.t 1)⟩,
    ⟨(some 27), (some (25, false)), none, .bin .gtr (.t 26) (.c (.p (.int .i64 63)))⟩,
    ⟨(some 28), none, none, .pick (.t 25) (.c (.p (.bool true))) (.t 27)⟩] none)
  (.fg [0, 1, 2, 28] (.cond (.t 28)
    (.seq (.reg [⟨(some 6), none, none, .mv (.c (.nils))⟩,
    ⟨(some 7), none, none, .mv (.c (.p (.int .i64 1)))⟩] none)
    .ret)
    .skip)))
  (.seq (.reg [⟨(some 29), none, none, .mv (.t 2)⟩,
    ⟨(some 30), none, none, .build [.p (.int .u64 0)] [(0, 1, .t 29)]⟩,
    ⟨(some 31), none, none, .box (.t 30)⟩,
    ⟨(some 8), none, none, .mv (.t 31)⟩] none)
  (.seq (.reg [⟨(some 32), none, none, .mv (.t 1)⟩,
    ⟨(some 33), none, none, .bin .sub (.t 32) (.c (.p (.int .i64 1)))⟩,
    ⟨(some 34), none, none, .conv .u64 (.t 33)⟩,
    ⟨(some 35), none, none, .bin .shl (.c (.p (.int .u64 1))) (.t 34)⟩,
    ⟨(some 36), none, none, .call .pu 56 [.t 35]⟩,
    ⟨(some 9), none, none, .alloc [.p (.bool false), .nils]⟩,
    ⟨none, none, none, .store 2 (.t 9) (.t 36)⟩] none)
  (.seq (.reg [⟨(some 10), none, none, .mv (.c (.nils))⟩] none)
  (.seq (.seq (.reg [⟨(some 11), none, none, .mv (.c (.p (.int .i64 0)))⟩] none)
  (.fg [0, 1, 8, 9, 10, 11] (.block 0
  (.loop (.fg [0, 1, 8, 9, 10, 11]
    (.seq (.seq (.reg [⟨(some 37), none, none, .mv (.t 11)⟩,
    ⟨(some 38), none, none, .mv (.t 0)⟩,
    ⟨(some 39), none, none, .bin .lss (.t 37) (.t 38)⟩] none)
      (.fg [0, 1, 8, 9, 10, 11, 39] (.cond (.t 39)
        .skip
        (.exit 0))))
      (.seq (.block 1
      (.seq (.reg [⟨(some 12), none, none, .mv (.c (.nils))⟩] none)
        (.seq (.seq (.reg [⟨(some 13), none, none, .mv (.c (.p (.int .i64 0)))⟩] none)
        (.fg [0, 1, 8, 9, 10, 11, 12, 13] (.block 2
        (.loop (.fg [0, 1, 8, 9, 10, 11, 12, 13]
          (.seq (.seq (.reg [⟨(some 42), none, none, .mv (.t 13)⟩,
    ⟨(some 43), none, none, .mv (.t 0)⟩,
    ⟨(some 44), none, none, .bin .lss (.t 42) (.t 43)⟩] none)
            (.fg [0, 1, 8, 9, 10, 11, 12, 13, 44] (.cond (.t 44)
              .skip
              (.exit 2))))
            (.seq (.block 3
            (.reg [⟨(some 47), none, none, .mv (.t 12)⟩,
    ⟨(some 48), none, none, .mv (.t 8)⟩,
    ⟨(some 49), none, none, .mv (.t 1)⟩,
    ⟨(some 50), none, none, .conv .u64 (.t 49)⟩,
    ⟨(some 51), none, none, .bin .shl (.c (.p (.int .u64 1))) (.t 50)⟩,
    ⟨(some 52), none, none, .call .cell 50 [.t 48, .t 51]⟩,
    ⟨(some 53), none, none, .call .pu 56 [.t 52]⟩,
    ⟨(some 54), none, none, .load true 2 (.t 9)⟩,
    ⟨(some 55), none, none, .call .pu 60 [.t 53, .t 54]⟩,
    ⟨(some 56), none, (some 0), .bslice 2 [.t 55]⟩,
    ⟨(some 57), none, (some 1), .append 2 32 (.t 47) (.t 56)⟩,
    ⟨(some 12), none, none, .mv (.t 57)⟩] (some (2, [(5, 7)]))))
            (.fg [0, 1, 8, 9, 10, 11, 12, 13] (.reg [⟨(some 45), none, none, .mv (.t 13)⟩,
    ⟨(some 46), none, none, .bin .add (.t 45) (.c (.p (.int .i64 1)))⟩,
    ⟨(some 13), none, none, .mv (.t 46)⟩] none)))))))))
        (.reg [⟨(some 58), none, none, .mv (.t 10)⟩,
    ⟨(some 59), none, none, .mv (.t 12)⟩,
    ⟨(some 60), none, none, .bslice 1 [.t 59]⟩,
    ⟨(some 61), none, none, .append 1 24 (.t 58) (.t 60)⟩,
    ⟨(some 10), none, none, .mv (.t 61)⟩] none))))
      (.fg [0, 1, 8, 9, 10, 11] (.reg [⟨(some 40), none, none, .mv (.t 11)⟩,
    ⟨(some 41), none, none, .bin .add (.t 40) (.c (.p (.int .i64 1)))⟩,
    ⟨(some 11), none, none, .mv (.t 41)⟩] none)))))))))
  (.seq (.reg [⟨(some 62), none, none, .mv (.t 10)⟩,
    ⟨(some 63), none, none, .call .peek 61 [.t 62]⟩,
    ⟨(some 14), none, none, .mv (.t 63)⟩] none)
  (.seq (.seq (.reg [⟨(some 64), none, none, .mv (.t 14)⟩,
    ⟨(some 65), none, none, .bin .neq (.t 64) (.c (.p (.int .i64 0)))⟩] none)
  (.fg [10, 14, 65] (.cond (.t 65)
    (.seq (.reg [⟨(some 66), none, none, .mv (.t 14)⟩,
    ⟨(some 6), none, none, .mv (.c (.nils))⟩,
    ⟨(some 7), none, none, .mv (.t 66)⟩] none)
    .ret)
    .skip)))
  (.seq (.reg [⟨(some 67), none, none, .mv (.t 10)⟩,
    ⟨(some 6), none, none, .mv (.t 67)⟩,
    ⟨(some 7), none, none, .mv (.c (.p (.int .i64 0)))⟩] none)
  .ret))))))))),
  [.t 6, .t 7]⟩

theorem c23 : chkF Try.prog 23 f23 = true := by kernel_rfl

/-- trammel/trammellaw26.ownm -/
def f41 : RFun := ⟨(.seq (.reg [⟨(some 2), none, none, .mv (.c (.nils))⟩] none)
  (.seq (.reg [⟨(some 3), none, none, .mv (.c (.nils))⟩] none)
  (.seq (.seq (.reg [⟨(some 4), none, none, .mv (.c (.p (.int .i64 0)))⟩] none)
  (.fg [0, 3, 4] (.block 0
  (.loop (.fg [0, 3, 4]
    (.seq (.seq (.reg [⟨(some 5), none, none, .mv (.t 4)⟩,
    ⟨(some 6), none, none, .mv (.t 0)⟩,
    ⟨(some 7), none, none, .len (.t 6)⟩,
    ⟨(some 8), none, none, .bin .lss (.t 5) (.t 7)⟩] none)
      (.fg [0, 3, 4, 8] (.cond (.t 8)
        .skip
        (.exit 0))))
      (.seq (.block 1
      (.reg [⟨(some 11), none, none, .mv (.t 3)⟩,
    ⟨(some 12), none, none, .mv (.t 0)⟩,
    ⟨(some 13), none, none, .mv (.t 4)⟩,
    ⟨(some 14), none, none, .indexA 1 (.t 12) (.t 13)⟩,
    ⟨(some 15), none, none, .load false 1 (.t 14)⟩,
    ⟨(some 16), none, none, .call .pu 86 [.t 15]⟩,
    ⟨(some 17), none, none, .bslice 1 [.t 16]⟩,
    ⟨(some 18), none, none, .append 1 24 (.t 11) (.t 17)⟩,
    ⟨(some 3), none, none, .mv (.t 18)⟩] none))
      (.fg [0, 3, 4] (.reg [⟨(some 9), none, none, .mv (.t 4)⟩,
    ⟨(some 10), none, none, .bin .add (.t 9) (.c (.p (.int .i64 1)))⟩,
    ⟨(some 4), none, none, .mv (.t 10)⟩] none)))))))))
  (.seq (.reg [⟨(some 19), none, none, .mv (.t 3)⟩,
    ⟨(some 2), none, none, .mv (.t 19)⟩] none)
  .ret)))),
  [.t 2]⟩

theorem c41 : chkF Try.prog 41 f41 = true := by kernel_rfl

/-- trammel/kin.Twist -/
def f42 : RFun := ⟨(.seq (.reg [⟨(some 6), none, none, .mv (.c (.nils))⟩,
    ⟨(some 7), none, none, .mv (.c (.nils))⟩,
    ⟨(some 8), none, none, .mv (.c (.p (.int .i64 0)))⟩] none)
  (.seq (.seq (.reg [⟨(some 15), none, none, .mv (.t 0)⟩,
    ⟨(some 16), none, none, .call .pu 59 [.t 15]⟩,
    ⟨(some 9), none, none, .mv (.t 16)⟩] none)
  (.seq (.reg [⟨(some 17), none, none, .mv (.t 9)⟩,
    ⟨(some 18), none, none, .bin .neq (.t 17) (.c (.p (.int .i64 0)))⟩] none)
  (.fg [0, 1, 2, 9, 18] (.cond (.t 18)
    (.seq (.reg [⟨(some 19), none, none, .mv (.t 9)⟩,
    ⟨(some 6), none, none, .mv (.c (.nils))⟩,
    ⟨(some 7), none, none, .mv (.c (.nils))⟩,
    ⟨(some 8), none, none, .mv (.t 19)⟩] none)
    .ret)
    .skip))))
  (.seq (.seq (.reg [⟨(some 20), none, none, .mv (.t 2)⟩,
    ⟨(some 21), none, none, .bin .lss (.t 20) (.c (.p (.int .i64 0)))⟩,
    ⟨(some 22), none, none, .mv (.t 21)⟩,
    ⟨(some 23), (some (22, false)), none, .mv (.t 2)⟩,
    ⟨(some 24), (some (22, false)), none, .bin .gtr (.t 23) (.c (.p (.int .i64 256)))⟩,
    ⟨(some 25), none, none, .pick (.t 22) (.c (.p (.bool true))) (.t 24)⟩] none)
  (.fg [0, 1, 2, 25] (.cond (.t 25)
    (.seq (.reg [⟨(some 6), none, none, .mv (.c (.nils))⟩,
    ⟨(some 7), none, none, .mv (.c (.nils))⟩,
    ⟨(some 8), none, none, .mv (.c (.p (.int .i64 1)))⟩] none)
    .ret)
    .skip)))
  (.seq (.reg [⟨(some 26), none, none, .mv (.t 0)⟩,
    ⟨(some 27), none, none, .call .keep 70 [.t 26]⟩,
    ⟨(some 10), none, none, .mv (.t 27)⟩] none)
  (.seq (.reg [⟨(some 29), none, none, .mv (.t 0)⟩,
    ⟨(some 30), none, none, .len (.t 29)⟩,
    ⟨(some 31), none, none, .call .keep 87 [.t 30]⟩,
    ⟨(some 28), none, none, .mv (.t 31)⟩,
    ⟨(some 32), none, none, .extract (.t 28) 0⟩,
    ⟨(some 33), none, none, .extract (.t 28) 1⟩,
    ⟨(some 11), none, none, .mv (.t 32)⟩,
    ⟨(some 12), none, none, .mv (.t 33)⟩] none)
  (.seq (.reg [⟨(some 34), none, none, .mv (.t 1)⟩,
    ⟨(some 35), none, none, .call .keep 49 [.t 34]⟩,
    ⟨(some 36), none, none, .mv (.t 1)⟩,
    ⟨(some 37), none, none, .call .keep 49 [.t 36]⟩,
    ⟨(some 13), none, none, .mv (.t 35)⟩,
    ⟨(some 14), none, none, .mv (.t 37)⟩] none)
  (.seq (.seq (.reg [⟨(some 38), none, none, .mv (.t 2)⟩,
    ⟨(some 39), none, none, .mv (.c (.p (.int .i64 0)))⟩] none)
  (.fg [10, 11, 13, 14, 38, 39] (.block 0
  (.loop (.fg [10, 11, 13, 14, 38, 39]
    (.seq (.reg [⟨(some 40), none, none, .bin .lss (.t 39) (.t 38)⟩] none)
      (.seq (.cond (.t 40)
        .skip
        (.exit 0))
      (.fg [10, 11, 13, 14, 38, 39] (.seq (.block 1
      (.seq (.reg [⟨(some 41), none, none, .mv (.t 10)⟩,
    ⟨(some 42), none, none, .mv (.t 13)⟩,
    ⟨(some 43), none, none, .call .full 88 [.t 41, .t 42]⟩] none)
        (.seq (.reg [⟨(some 44), none, none, .mv (.t 11)⟩,
    ⟨(some 45), none, none, .mv (.t 14)⟩,
    ⟨(some 46), none, none, .call .full 88 [.t 44, .t 45]⟩] none)
        (.seq (.reg [⟨(some 47), none, none, .mv (.t 10)⟩,
    ⟨(some 48), none, none, .call .peek 80 [.t 47]⟩,
    ⟨(some 49), none, none, .bin .gtr (.t 48) (.c (.p (.int .i64 256)))⟩] none)
        (.fg [10, 11, 13, 14, 38, 39, 49] (.cond (.t 49)
          (.seq (.reg [⟨(some 6), none, none, .mv (.c (.nils))⟩,
    ⟨(some 7), none, none, .mv (.c (.nils))⟩,
    ⟨(some 8), none, none, .mv (.c (.p (.int .i64 40)))⟩] none)
          .ret)
          .skip))))))
      (.fg [10, 11, 13, 14, 38, 39] (.reg [⟨(some 50), none, none, .bin .add (.t 39) (.c (.p (.int .i64 1)))⟩,
    ⟨(some 39), none, none, .mv (.t 50)⟩] none)))))))))))
  (.seq (.reg [⟨(some 51), none, none, .mv (.t 10)⟩,
    ⟨(some 52), none, none, .mv (.t 11)⟩,
    ⟨(some 6), none, none, .mv (.t 51)⟩,
    ⟨(some 7), none, none, .mv (.t 52)⟩,
    ⟨(some 8), none, none, .mv (.c (.p (.int .i64 0)))⟩] none)
  .ret)))))))),
  [.t 6, .t 7, .t 8]⟩

theorem c42 : chkF Try.prog 42 f42 = true := by kernel_rfl

/-- trammel/trammelref26.Twist -/
def f43 : RFun := ⟨(.seq (.reg [⟨(some 6), none, none, .mv (.c (.nils))⟩,
    ⟨(some 7), none, none, .mv (.c (.nils))⟩,
    ⟨(some 8), none, none, .mv (.c (.p (.int .i64 0)))⟩] none)
  (.seq (.reg [⟨(some 19), none, none, .mv (.t 0)⟩,
    ⟨(some 20), none, none, .call .pu 61 [.t 19]⟩,
    ⟨(some 9), none, none, .mv (.t 20)⟩] none)
  (.seq (.seq (.reg [⟨(some 21), none, none, .mv (.t 9)⟩,
    ⟨(some 22), none, none, .bin .neq (.t 21) (.c (.p (.int .i64 0)))⟩] none)
  (.fg [0, 1, 2, 9, 22] (.cond (.t 22)
    (.seq (.reg [⟨(some 23), none, none, .mv (.t 9)⟩,
    ⟨(some 6), none, none, .mv (.c (.nils))⟩,
    ⟨(some 7), none, none, .mv (.c (.nils))⟩,
    ⟨(some 8), none, none, .mv (.t 23)⟩] none)
    .ret)
    .skip)))
  (.seq (.seq (.reg [⟨(some 24), none, none, .mv (.t 2)⟩,
    ⟨(some 25), none, none, .bin .lss (.t 24) (.c (.p (.int .i64 0)))⟩,
    ⟨(some 26), none, none, .mv (.t 25)⟩,
    ⟨(some 27), (some (26, false)), none, .mv (.t 2)⟩,
    ⟨(some 28), (some (26, false)), none, .bin .gtr (.t 27) (.c (.p (.int .i64 256)))⟩,
    ⟨(some 29), none, none, .pick (.t 26) (.c (.p (.bool true))) (.t 28)⟩] none)
  (.fg [0, 1, 2, 29] (.cond (.t 29)
    (.seq (.reg [⟨(some 6), none, none, .mv (.c (.nils))⟩,
    ⟨(some 7), none, none, .mv (.c (.nils))⟩,
    ⟨(some 8), none, none, .mv (.c (.p (.int .i64 1)))⟩] none)
    .ret)
    .skip)))
  (.seq (.reg [⟨(some 30), none, none, .mv (.t 0)⟩,
    ⟨(some 31), none, none, .len (.t 30)⟩,
    ⟨(some 10), none, none, .mv (.t 31)⟩] none)
  (.seq (.reg [⟨(some 32), none, none, .mv (.t 0)⟩,
    ⟨(some 33), none, none, .call .keep 89 [.t 32]⟩,
    ⟨(some 11), none, none, .mv (.t 33)⟩] none)
  (.seq (.reg [⟨(some 35), none, none, .mv (.t 10)⟩,
    ⟨(some 36), none, none, .call .keep 90 [.t 35]⟩,
    ⟨(some 34), none, none, .mv (.t 36)⟩,
    ⟨(some 37), none, none, .extract (.t 34) 0⟩,
    ⟨(some 38), none, none, .extract (.t 34) 1⟩,
    ⟨(some 12), none, none, .mv (.t 37)⟩,
    ⟨(some 13), none, none, .mv (.t 38)⟩] none)
  (.seq (.reg [⟨(some 39), none, none, .mv (.t 1)⟩,
    ⟨(some 40), none, none, .build [.p (.int .u64 0)] [(0, 1, .t 39)]⟩,
    ⟨(some 41), none, none, .box (.t 40)⟩,
    ⟨(some 14), none, none, .mv (.t 41)⟩] none)
  (.seq (.seq (.reg [⟨(some 15), none, none, .mv (.c (.p (.int .i64 0)))⟩] none)
  (.fg [2, 10, 11, 12, 14, 15] (.block 0
  (.loop (.fg [2, 10, 11, 12, 14, 15]
    (.seq (.seq (.reg [⟨(some 42), none, none, .mv (.t 15)⟩,
    ⟨(some 43), none, none, .mv (.t 2)⟩,
    ⟨(some 44), none, none, .bin .lss (.t 42) (.t 43)⟩] none)
      (.fg [2, 10, 11, 12, 14, 15, 44] (.cond (.t 44)
        .skip
        (.exit 0))))
      (.seq (.block 1
      (.seq (.reg [⟨(some 16), none, none, .mv (.c (.p (.int .i64 0)))⟩,
    ⟨(some 17), none, none, .mv (.c (.p (.int .i64 0)))⟩] none)
        (.seq (.seq (.reg [⟨(some 47), none, none, .mv (.t 10)⟩,
    ⟨(some 48), none, none, .bin .gtr (.t 47) (.c (.p (.int .i64 1)))⟩] none)
        (.fg [2, 10, 11, 12, 14, 15, 16, 17, 48] (.cond (.t 48)
          (.seq (.reg [⟨(some 49), none, none, .mv (.t 14)⟩,
    ⟨(some 50), none, none, .mv (.t 10)⟩,
    ⟨(some 51), none, none, .conv .u64 (.t 50)⟩,
    ⟨(some 52), none, none, .call .full 50 [.t 49, .t 51]⟩,
    ⟨(some 53), none, none, .conv .i64 (.t 52)⟩,
    ⟨(some 16), none, none, .mv (.t 53)⟩] none)
          (.seq (.reg [⟨(some 54), none, none, .mv (.t 14)⟩,
    ⟨(some 55), none, none, .mv (.t 10)⟩,
    ⟨(some 56), none, none, .bin .sub (.t 55) (.c (.p (.int .i64 1)))⟩,
    ⟨(some 57), none, none, .conv .u64 (.t 56)⟩,
    ⟨(some 58), none, none, .call .full 50 [.t 54, .t 57]⟩,
    ⟨(some 59), none, none, .conv .i64 (.t 58)⟩,
    ⟨(some 17), none, none, .mv (.t 59)⟩] none)
          (.seq (.reg [⟨(some 60), none, none, .mv (.t 17)⟩,
    ⟨(some 61), none, none, .mv (.t 16)⟩,
    ⟨(some 62), none, none, .bin .geq (.t 60) (.t 61)⟩] none)
          (.fg [2, 10, 11, 12, 14, 15, 16, 17, 62] (.cond (.t 62)
            (.reg [⟨(some 63), none, none, .mv (.t 17)⟩,
    ⟨(some 64), none, none, .bin .add (.t 63) (.c (.p (.int .i64 1)))⟩,
    ⟨(some 17), none, none, .mv (.t 64)⟩] none)
            .skip)))))
          .skip)))
        (.seq (.reg [⟨(some 65), none, none, .mv (.t 14)⟩,
    ⟨(some 66), none, none, .call .full 50 [.t 65, .c (.p (.int .u64 4))]⟩,
    ⟨(some 18), none, none, .mv (.t 66)⟩] none)
        (.seq (.seq (.reg [⟨(some 67), none, none, .mv (.t 10)⟩,
    ⟨(some 68), none, none, .bin .gtr (.t 67) (.c (.p (.int .i64 1)))⟩,
    ⟨(some 69), none, none, .mv (.t 68)⟩,
    ⟨(some 70), (some (69, false)), none, .mv (.t 18)⟩,
    ⟨(some 71), (some (69, false)), none, .bin .eql (.t 70) (.c (.p (.int .u64 3)))⟩,
    ⟨(some 72), none, none, .pick (.t 69) (.c (.p (.bool true))) (.t 71)⟩] none)
        (.fg [2, 10, 11, 12, 14, 15, 16, 17, 18, 72] (.cond (.t 72)
          (.seq (.reg [⟨(some 73), none, none, .mv (.t 11)⟩,
    ⟨(some 74), none, none, .mv (.t 16)⟩,
    ⟨(some 75), none, none, .mv (.t 17)⟩,
    ⟨(some 76), none, none, .mv (.t 18)⟩,
    ⟨(some 77), none, none, .call .full 91 [.t 73, .t 74, .t 75, .t 76]⟩] none)
          (.reg [⟨(some 78), none, none, .mv (.t 12)⟩,
    ⟨(some 79), none, none, .mv (.t 16)⟩,
    ⟨(some 80), none, none, .mv (.t 17)⟩,
    ⟨(some 81), none, none, .mv (.t 18)⟩,
    ⟨(some 82), none, none, .call .full 91 [.t 78, .t 79, .t 80, .t 81]⟩] none))
          .skip)))
        (.seq (.reg [⟨(some 83), none, none, .mv (.t 11)⟩,
    ⟨(some 84), none, none, .call .peek 92 [.t 83]⟩,
    ⟨(some 85), none, none, .bin .gtr (.t 84) (.c (.p (.int .i64 256)))⟩] none)
        (.fg [2, 10, 11, 12, 14, 15, 85] (.cond (.t 85)
          (.seq (.reg [⟨(some 6), none, none, .mv (.c (.nils))⟩,
    ⟨(some 7), none, none, .mv (.c (.nils))⟩,
    ⟨(some 8), none, none, .mv (.c (.p (.int .i64 40)))⟩] none)
          .ret)
          .skip))))))))
      (.fg [2, 10, 11, 12, 14, 15] (.reg [⟨(some 45), none, none, .mv (.t 15)⟩,
    ⟨(some 46), none, none, .bin .add (.t 45) (.c (.p (.int .i64 1)))⟩,
    ⟨(some 15), none, none, .mv (.t 46)⟩] none)))))))))
  (.seq (.reg [⟨(some 86), none, none, .mv (.t 11)⟩,
    ⟨(some 87), none, none, .mv (.t 12)⟩,
    ⟨(some 6), none, none, .mv (.t 86)⟩,
    ⟨(some 7), none, none, .mv (.t 87)⟩,
    ⟨(some 8), none, none, .mv (.c (.p (.int .i64 0)))⟩] none)
  .ret)))))))))),
  [.t 6, .t 7, .t 8]⟩

theorem c43 : chkF Try.prog 43 f43 = true := by kernel_rfl

/-- trammel/kin.chance -/
def f49 : RFun := ⟨(.seq (.reg [⟨(some 2), none, none, .mv (.c (.any))⟩] none)
  (.seq (.reg [⟨(some 4), none, none, .mv (.t 0)⟩,
    ⟨(some 3), none, none, .alloc [.p (.int .u64 0)]⟩,
    ⟨none, none, none, .store 1 (.t 3) (.t 4)⟩] none)
  (.seq (.reg [⟨(some 5), none, none, .mkfn 104 [.t 3]⟩,
    ⟨(some 2), none, none, .mv (.t 5)⟩] none)
  .ret))),
  [.t 2]⟩

theorem c49 : chkF Try.prog 49 f49 = true := by kernel_rfl

/-- (*trammel/trammelref26.Chance).Below -/
def f50 : RFun := ⟨(.seq (.reg [⟨(some 4), none, none, .mv (.c (.p (.int .u64 0)))⟩] none)
  (.seq (.reg [⟨(some 6), none, none, .mv (.t 0)⟩,
    ⟨(some 7), none, none, .mv (.t 0)⟩,
    ⟨(some 8), none, none, .nilc (.t 7)⟩,
    ⟨(some 9), none, none, .fieldA 0 (.t 8)⟩,
    ⟨(some 10), none, none, .load false 1 (.t 9)⟩,
    ⟨(some 11), none, none, .bin .add (.t 10) (.c (.p (.int .u64 11400714819323198485)))⟩,
    ⟨(some 12), none, none, .nilc (.t 6)⟩,
    ⟨(some 13), none, none, .fieldA 0 (.t 12)⟩,
    ⟨none, none, none, .store 1 (.t 13) (.t 11)⟩] none)
  (.seq (.reg [⟨(some 14), none, none, .mv (.t 0)⟩,
    ⟨(some 15), none, none, .nilc (.t 14)⟩,
    ⟨(some 16), none, none, .fieldA 0 (.t 15)⟩,
    ⟨(some 17), none, none, .load false 1 (.t 16)⟩,
    ⟨(some 5), none, none, .mv (.t 17)⟩] none)
  (.seq (.reg [⟨(some 18), none, none, .mv (.t 5)⟩,
    ⟨(some 19), none, none, .mv (.t 5)⟩,
    ⟨(some 20), none, none, .bin .shr (.t 19) (.c (.p (.int .u64 30)))⟩,
    ⟨(some 21), none, none, .bin .xor (.t 18) (.t 20)⟩,
    ⟨(some 22), none, none, .bin .mul (.t 21) (.c (.p (.int .u64 13787848793156543929)))⟩,
    ⟨(some 5), none, none, .mv (.t 22)⟩] none)
  (.seq (.reg [⟨(some 23), none, none, .mv (.t 5)⟩,
    ⟨(some 24), none, none, .mv (.t 5)⟩,
    ⟨(some 25), none, none, .bin .shr (.t 24) (.c (.p (.int .u64 27)))⟩,
    ⟨(some 26), none, none, .bin .xor (.t 23) (.t 25)⟩,
    ⟨(some 27), none, none, .bin .mul (.t 26) (.c (.p (.int .u64 10723151780598845931)))⟩,
    ⟨(some 5), none, none, .mv (.t 27)⟩] none)
  (.seq (.reg [⟨(some 28), none, none, .mv (.t 5)⟩,
    ⟨(some 29), none, none, .mv (.t 5)⟩,
    ⟨(some 30), none, none, .bin .shr (.t 29) (.c (.p (.int .u64 31)))⟩,
    ⟨(some 31), none, none, .bin .xor (.t 28) (.t 30)⟩,
    ⟨(some 32), none, none, .mv (.t 1)⟩,
    ⟨(some 33), none, none, .bin .rem (.t 31) (.t 32)⟩,
    ⟨(some 4), none, none, .mv (.t 33)⟩] none)
  .ret)))))),
  [.t 4]⟩

theorem c50 : chkF Try.prog 50 f50 = true := by kernel_rfl

/-- trammel/trammelref26.of -/
def f56 : RFun := ⟨(.seq (.reg [⟨(some 2), none, none, .alloc [.p (.bool false), .nils]⟩] none)
  (.seq (.reg [⟨(some 3), none, none, .mv (.t 0)⟩,
    ⟨(some 4), none, none, .conv .u32 (.t 3)⟩,
    ⟨(some 5), none, none, .mv (.t 0)⟩,
    ⟨(some 6), none, none, .bin .shr (.t 5) (.c (.p (.int .u64 32)))⟩,
    ⟨(some 7), none, none, .conv .u32 (.t 6)⟩,
    ⟨(some 8), none, none, .bslice 1 [.t 4, .t 7]⟩,
    ⟨(some 9), none, none, .build [.p (.bool false), .nils] [(1, 1, .t 8)]⟩,
    ⟨(some 10), none, none, .call .fz 68 [.t 9]⟩,
    ⟨none, none, none, .store 2 (.t 2) (.t 10)⟩] none)
  .ret)),
  [.cell 2 true 2]⟩

theorem c56 : chkF Try.prog 56 f56 = true := by kernel_rfl

/-- trammel/trammellaw26.eqs -/
def f57 : RFun := ⟨(.seq (.reg [⟨(some 4), none, none, .mv (.c (.p (.bool false)))⟩] none)
  (.seq (.seq (.reg [⟨(some 6), none, none, .mv (.t 0)⟩,
    ⟨(some 7), none, none, .len (.t 6)⟩,
    ⟨(some 8), none, none, .mv (.t 1)⟩,
    ⟨(some 9), none, none, .len (.t 8)⟩,
    ⟨(some 10), none, none, .bin .neq (.t 7) (.t 9)⟩] none)
  (.fg [0, 1, 10] (.cond (.t 10)
    (.seq (.reg [⟨(some 4), none, none, .mv (.c (.p (.bool false)))⟩] none)
    .ret)
    .skip)))
  (.seq (.seq (.reg [⟨(some 5), none, none, .mv (.c (.p (.int .i64 0)))⟩] none)
  (.fg [0, 1, 5] (.block 0
  (.loop (.fg [0, 1, 5]
    (.seq (.seq (.reg [⟨(some 11), none, none, .mv (.t 5)⟩,
    ⟨(some 12), none, none, .mv (.t 0)⟩,
    ⟨(some 13), none, none, .len (.t 12)⟩,
    ⟨(some 14), none, none, .bin .lss (.t 11) (.t 13)⟩] none)
      (.fg [0, 1, 5, 14] (.cond (.t 14)
        .skip
        (.exit 0))))
      (.seq (.block 1
      (.seq (.reg [⟨(some 17), none, none, .mv (.t 0)⟩,
    ⟨(some 18), none, none, .mv (.t 5)⟩,
    ⟨(some 19), none, none, .indexA 2 (.t 17) (.t 18)⟩,
    ⟨(some 20), none, none, .load true 2 (.t 19)⟩,
    ⟨(some 21), none, none, .mv (.t 1)⟩,
    ⟨(some 22), none, none, .mv (.t 5)⟩,
    ⟨(some 23), none, none, .indexA 2 (.t 21) (.t 22)⟩,
    ⟨(some 24), none, none, .load true 2 (.t 23)⟩,
    ⟨(some 25), none, none, .call .pu 106 [.t 20, .t 24]⟩,
    ⟨(some 26), none, none, .un .not (.t 25)⟩] (some (0, [])))
        (.fg [0, 1, 5, 26] (.cond (.t 26)
          (.seq (.reg [⟨(some 4), none, none, .mv (.c (.p (.bool false)))⟩] none)
          .ret)
          .skip))))
      (.fg [0, 1, 5] (.reg [⟨(some 15), none, none, .mv (.t 5)⟩,
    ⟨(some 16), none, none, .bin .add (.t 15) (.c (.p (.int .i64 1)))⟩,
    ⟨(some 5), none, none, .mv (.t 16)⟩] none)))))))))
  (.seq (.reg [⟨(some 4), none, none, .mv (.c (.p (.bool true)))⟩] none)
  .ret)))),
  [.t 4]⟩

theorem c57 : chkF Try.prog 57 f57 = true := by kernel_rfl

/-- trammel/mat.Form -/
def f70 : RFun := ⟨(.seq (.reg [⟨(some 2), none, none, .mv (.c (.nils))⟩] none)
  (.seq (.reg [⟨(some 3), none, none, .mv (.t 0)⟩,
    ⟨(some 4), none, none, .call .keep 114 [.t 3, .c (.fn 115 [])]⟩,
    ⟨(some 2), none, none, .mv (.t 4)⟩] none)
  .ret)),
  [.t 2]⟩

theorem c70 : chkF Try.prog 70 f70 = true := by kernel_rfl

/-- trammel/trammelref04.Times -/
def f74 : RFun := ⟨(.seq (.reg [⟨(some 2), none, none, .box (.t 0)⟩,
    ⟨(some 4), none, none, .mv (.c (.nils))⟩] none)
  (.seq (.reg [⟨(some 5), none, none, .mv (.c (.nils))⟩] none)
  (.seq (.seq (.reg [⟨(some 6), none, none, .mv (.c (.p (.int .i64 0)))⟩] none)
  (.fg [1, 2, 5, 6] (.block 0
  (.loop (.fg [1, 2, 5, 6]
    (.seq (.seq (.reg [⟨(some 7), none, none, .mv (.t 6)⟩,
    ⟨(some 8), none, none, .mv (.t 1)⟩,
    ⟨(some 9), none, none, .len (.t 8)⟩,
    ⟨(some 10), none, none, .bin .lss (.t 7) (.t 9)⟩] none)
      (.fg [1, 2, 5, 6, 10] (.cond (.t 10)
        .skip
        (.exit 0))))
      (.seq (.block 1
      (.reg [⟨(some 13), none, none, .mv (.t 5)⟩,
    ⟨(some 14), none, none, .load true 2 (.t 2)⟩,
    ⟨(some 15), none, none, .mv (.t 1)⟩,
    ⟨(some 16), none, none, .mv (.t 6)⟩,
    ⟨(some 17), none, none, .indexA 2 (.t 15) (.t 16)⟩,
    ⟨(some 18), none, none, .load true 2 (.t 17)⟩,
    ⟨(some 19), none, none, .call .pu 117 [.t 14, .t 18]⟩,
    ⟨(some 20), none, (some 0), .bslice 2 [.t 19]⟩,
    ⟨(some 21), none, (some 1), .append 2 32 (.t 13) (.t 20)⟩,
    ⟨(some 5), none, none, .mv (.t 21)⟩] (some (2, []))))
      (.fg [1, 2, 5, 6] (.reg [⟨(some 11), none, none, .mv (.t 6)⟩,
    ⟨(some 12), none, none, .bin .add (.t 11) (.c (.p (.int .i64 1)))⟩,
    ⟨(some 6), none, none, .mv (.t 12)⟩] none)))))))))
  (.seq (.reg [⟨(some 22), none, none, .mv (.t 5)⟩,
    ⟨(some 4), none, none, .mv (.t 22)⟩] none)
  .ret)))),
  [.t 4]⟩

theorem c74 : chkF Try.prog 74 f74 = true := by kernel_rfl

/-- trammel/mat.Times -/
def f78 : RFun := ⟨(.seq (.reg [⟨(some 2), none, none, .box (.t 0)⟩,
    ⟨(some 4), none, none, .mv (.c (.nils))⟩] none)
  (.seq (.reg [⟨(some 5), none, none, .mv (.t 1)⟩,
    ⟨(some 6), none, none, .mkfn 120 [.t 2]⟩,
    ⟨(some 7), none, none, .call .full 116 [.t 5, .t 6]⟩,
    ⟨(some 4), none, none, .mv (.t 7)⟩] none)
  .ret)),
  [.t 4]⟩

theorem c78 : chkF Try.prog 78 f78 = true := by kernel_rfl

/-- trammel/trammellaw26.owns -/
def f86 : RFun := ⟨(.seq (.reg [⟨(some 2), none, none, .mv (.c (.nils))⟩] none)
  (.seq (.reg [⟨(some 3), none, none, .mv (.c (.nils))⟩] none)
  (.seq (.seq (.reg [⟨(some 4), none, none, .mv (.c (.p (.int .i64 0)))⟩] none)
  (.fg [0, 3, 4] (.block 0
  (.loop (.fg [0, 3, 4]
    (.seq (.seq (.reg [⟨(some 5), none, none, .mv (.t 4)⟩,
    ⟨(some 6), none, none, .mv (.t 0)⟩,
    ⟨(some 7), none, none, .len (.t 6)⟩,
    ⟨(some 8), none, none, .bin .lss (.t 5) (.t 7)⟩] none)
      (.fg [0, 3, 4, 8] (.cond (.t 8)
        .skip
        (.exit 0))))
      (.seq (.block 1
      (.reg [⟨(some 11), none, none, .mv (.t 3)⟩,
    ⟨(some 12), none, none, .mv (.t 0)⟩,
    ⟨(some 13), none, none, .mv (.t 4)⟩,
    ⟨(some 14), none, none, .indexA 2 (.t 12) (.t 13)⟩,
    ⟨(some 15), none, none, .load true 2 (.t 14)⟩,
    ⟨(some 16), none, none, .call .pu 126 [.t 15]⟩,
    ⟨(some 17), none, none, .bslice 2 [.t 16]⟩,
    ⟨(some 18), none, none, .append 2 32 (.t 11) (.t 17)⟩,
    ⟨(some 3), none, none, .mv (.t 18)⟩] none))
      (.fg [0, 3, 4] (.reg [⟨(some 9), none, none, .mv (.t 4)⟩,
    ⟨(some 10), none, none, .bin .add (.t 9) (.c (.p (.int .i64 1)))⟩,
    ⟨(some 4), none, none, .mv (.t 10)⟩] none)))))))))
  (.seq (.reg [⟨(some 19), none, none, .mv (.t 3)⟩,
    ⟨(some 2), none, none, .mv (.t 19)⟩] none)
  .ret)))),
  [.t 2]⟩

theorem c86 : chkF Try.prog 86 f86 = true := by kernel_rfl

/-- trammel/mat.Unit -/
def f87 : RFun := ⟨(.seq (.reg [⟨(some 2), none, none, .mv (.c (.nils))⟩,
    ⟨(some 3), none, none, .mv (.c (.p (.int .i64 0)))⟩] none)
  (.seq (.block 0
  (.seq (.reg [⟨(some 8), none, none, .mv (.t 0)⟩,
    ⟨(some 9), none, none, .bin .lss (.t 8) (.c (.p (.int .i64 0)))⟩,
    ⟨(some 7), none, none, .mv (.t 9)⟩] none)
    (.fg [0, 7] (.cond (.t 7)
      (.seq (.reg [⟨(some 2), none, none, .mv (.c (.nils))⟩,
    ⟨(some 3), none, none, .mv (.c (.p (.int .i64 1)))⟩] none)
      .ret)
      (.seq (.reg [⟨(some 11), none, none, .mv (.t 0)⟩,
    ⟨(some 12), none, none, .bin .gtr (.t 11) (.c (.p (.int .i64 64)))⟩,
    ⟨(some 10), none, none, .mv (.t 12)⟩] none)
      (.fg [0, 10] (.cond (.t 10)
        (.seq (.reg [⟨(some 2), none, none, .mv (.c (.nils))⟩,
    ⟨(some 3), none, none, .mv (.c (.p (.int .i64 2)))⟩] none)
        .ret)
        .skip)))))))
  (.fg [0] (.seq (.reg [⟨(some 4), none, none, .mv (.c (.nils))⟩] none)
  (.seq (.seq (.reg [⟨(some 13), none, none, .mv (.t 0)⟩,
    ⟨(some 14), none, none, .mv (.c (.p (.int .i64 0)))⟩] none)
  (.fg [0, 4, 13, 14] (.block 1
  (.loop (.fg [0, 4, 13, 14]
    (.seq (.reg [⟨(some 15), none, none, .bin .lss (.t 14) (.t 13)⟩] none)
      (.seq (.cond (.t 15)
        .skip
        (.exit 1))
      (.fg [0, 4, 13, 14] (.seq (.block 2
      (.seq (.reg [⟨(some 16), none, none, .mv (.t 14)⟩,
    ⟨(some 5), none, none, .mv (.t 16)⟩] none)
        (.seq (.reg [⟨(some 17), none, none, .mv (.t 0)⟩,
    ⟨(some 18), none, none, .mks false 2 32 (.agg [.bool false, .sl []]) (.t 17) (.t 17)⟩,
    ⟨(some 6), none, none, .mv (.t 18)⟩] none)
        (.seq (.reg [⟨(some 19), none, none, .mv (.t 6)⟩,
    ⟨(some 20), none, none, .mv (.t 5)⟩,
    ⟨(some 21), none, none, .call .pu 54 [.c (.p (.int .i64 1))]⟩,
    ⟨(some 22), none, none, .indexA 2 (.t 19) (.t 20)⟩,
    ⟨none, none, none, .store 2 (.t 22) (.t 21)⟩] none)
        (.reg [⟨(some 23), none, none, .mv (.t 4)⟩,
    ⟨(some 24), none, none, .mv (.t 6)⟩,
    ⟨(some 25), none, none, .bslice 1 [.t 24]⟩,
    ⟨(some 26), none, none, .append 1 24 (.t 23) (.t 25)⟩,
    ⟨(some 4), none, none, .mv (.t 26)⟩] none)))))
      (.fg [0, 4, 13, 14] (.reg [⟨(some 27), none, none, .bin .add (.t 14) (.c (.p (.int .i64 1)))⟩,
    ⟨(some 14), none, none, .mv (.t 27)⟩] none)))))))))))
  (.seq (.reg [⟨(some 28), none, none, .mv (.t 4)⟩,
    ⟨(some 2), none, none, .mv (.t 28)⟩,
    ⟨(some 3), none, none, .mv (.c (.p (.int .i64 0)))⟩] none)
  .ret)))))),
  [.t 2, .t 3]⟩

theorem c87 : chkF Try.prog 87 f87 = true := by kernel_rfl

/-- trammel/kin.move -/
def f88 : RFun := ⟨(.seq (.reg [⟨(some 7), none, none, .mv (.t 0)⟩,
    ⟨(some 8), none, none, .len (.t 7)⟩,
    ⟨(some 9), none, none, .conv .u64 (.t 8)⟩,
    ⟨(some 4), none, none, .mv (.t 9)⟩] none)
  (.seq (.seq (.reg [⟨(some 10), none, none, .mv (.t 4)⟩,
    ⟨(some 11), none, none, .bin .eql (.t 10) (.c (.p (.int .u64 1)))⟩] none)
  (.fg [0, 1, 4, 11] (.cond (.t 11)
    (.seq (.seq (.reg [⟨(some 12), none, none, .mv (.t 1)⟩,
    ⟨(some 13), none, none, .callv .full (.t 12) [.c (.p (.int .u64 4))]⟩,
    ⟨(some 14), none, none, .bin .eql (.t 13) (.c (.p (.int .u64 3)))⟩] none)
    (.fg [0, 14] (.cond (.t 14)
      (.reg [⟨(some 15), none, none, .mv (.t 0)⟩,
    ⟨(some 16), none, none, .call .pu 54 [.c (.p (.int .i64 (-1)))]⟩,
    ⟨(some 17), none, none, .mv (.t 0)⟩,
    ⟨(some 18), none, none, .indexA 1 (.t 17) (.c (.p (.int .i64 0)))⟩,
    ⟨(some 19), none, none, .load false 1 (.t 18)⟩,
    ⟨(some 20), none, none, .call .pu 78 [.t 16, .t 19]⟩,
    ⟨(some 21), none, none, .indexA 1 (.t 15) (.c (.p (.int .i64 0)))⟩,
    ⟨none, none, none, .store 1 (.t 21) (.t 20)⟩] (some (0, [])))
      .skip)))
    .ret)
    .skip)))
  (.seq (.reg [⟨(some 22), none, none, .mv (.t 1)⟩,
    ⟨(some 23), none, none, .mv (.t 4)⟩,
    ⟨(some 24), none, none, .callv .full (.t 22) [.t 23]⟩,
    ⟨(some 5), none, none, .mv (.t 24)⟩] none)
  (.seq (.reg [⟨(some 25), none, none, .mv (.t 1)⟩,
    ⟨(some 26), none, none, .mv (.t 4)⟩,
    ⟨(some 27), none, none, .bin .sub (.t 26) (.c (.p (.int .u64 1)))⟩,
    ⟨(some 28), none, none, .callv .full (.t 25) [.t 27]⟩,
    ⟨(some 6), none, none, .mv (.t 28)⟩] none)
  (.seq (.seq (.reg [⟨(some 29), none, none, .mv (.t 6)⟩,
    ⟨(some 30), none, none, .mv (.t 5)⟩,
    ⟨(some 31), none, none, .bin .geq (.t 29) (.t 30)⟩] none)
  (.fg [0, 1, 5, 6, 31] (.cond (.t 31)
    (.reg [⟨(some 32), none, none, .mv (.t 6)⟩,
    ⟨(some 33), none, none, .bin .add (.t 32) (.c (.p (.int .u64 1)))⟩,
    ⟨(some 6), none, none, .mv (.t 33)⟩] none)
    .skip)))
  (.seq (.reg [⟨(some 34), none, none, .mv (.t 1)⟩,
    ⟨(some 35), none, none, .callv .full (.t 34) [.c (.p (.int .u64 4))]⟩] none)
  (.fg [0, 5, 6, 35] (.block 0
  (.seq (.reg [⟨(some 37), none, none, .bin .eql (.t 35) (.c (.p (.int .u64 0)))⟩,
    ⟨(some 36), none, none, .mv (.t 37)⟩] none)
    (.fg [0, 5, 6, 35, 36] (.cond (.t 36)
      (.reg [⟨(some 39), none, none, .mv (.t 0)⟩,
    ⟨(some 40), none, none, .mv (.t 5)⟩,
    ⟨(some 41), none, none, .mv (.t 0)⟩,
    ⟨(some 42), none, none, .mv (.t 5)⟩,
    ⟨(some 43), none, none, .indexA 1 (.t 41) (.t 42)⟩,
    ⟨(some 44), none, none, .load false 1 (.t 43)⟩,
    ⟨(some 45), none, none, .mv (.t 0)⟩,
    ⟨(some 46), none, none, .mv (.t 6)⟩,
    ⟨(some 47), none, none, .indexA 1 (.t 45) (.t 46)⟩,
    ⟨(some 48), none, none, .load false 1 (.t 47)⟩,
    ⟨(some 49), none, none, .call .pu 127 [.t 44, .t 48]⟩,
    ⟨(some 38), none, none, .mv (.t 49)⟩,
    ⟨(some 50), none, none, .extract (.t 38) 0⟩,
    ⟨(some 51), none, none, .extract (.t 38) 1⟩,
    ⟨(some 52), none, none, .indexA 1 (.t 39) (.t 40)⟩,
    ⟨none, none, none, .store 1 (.t 52) (.t 50)⟩] (some (0, [])))
      (.seq (.reg [⟨(some 54), none, none, .bin .eql (.t 35) (.c (.p (.int .u64 1)))⟩,
    ⟨(some 53), none, none, .mv (.t 54)⟩] none)
      (.fg [0, 5, 6, 35, 53] (.cond (.t 53)
        (.reg [⟨(some 56), none, none, .mv (.t 0)⟩,
    ⟨(some 57), none, none, .mv (.t 5)⟩,
    ⟨(some 58), none, none, .mv (.t 0)⟩,
    ⟨(some 59), none, none, .mv (.t 5)⟩,
    ⟨(some 60), none, none, .indexA 1 (.t 58) (.t 59)⟩,
    ⟨(some 61), none, none, .load false 1 (.t 60)⟩,
    ⟨(some 62), none, none, .mv (.t 0)⟩,
    ⟨(some 63), none, none, .mv (.t 6)⟩,
    ⟨(some 64), none, none, .indexA 1 (.t 62) (.t 63)⟩,
    ⟨(some 65), none, none, .load false 1 (.t 64)⟩,
    ⟨(some 66), none, none, .call .pu 128 [.t 61, .t 65]⟩,
    ⟨(some 55), none, none, .mv (.t 66)⟩,
    ⟨(some 67), none, none, .extract (.t 55) 0⟩,
    ⟨(some 68), none, none, .extract (.t 55) 1⟩,
    ⟨(some 69), none, none, .indexA 1 (.t 56) (.t 57)⟩,
    ⟨none, none, none, .store 1 (.t 69) (.t 67)⟩] (some (0, [])))
        (.seq (.reg [⟨(some 71), none, none, .bin .eql (.t 35) (.c (.p (.int .u64 2)))⟩,
    ⟨(some 70), none, none, .mv (.t 71)⟩] none)
        (.fg [0, 5, 6, 35, 70] (.cond (.t 70)
          (.reg [⟨(some 72), none, none, .mv (.t 0)⟩,
    ⟨(some 73), none, none, .mv (.t 5)⟩,
    ⟨(some 74), none, none, .mv (.t 0)⟩,
    ⟨(some 75), none, none, .mv (.t 6)⟩,
    ⟨(some 76), none, none, .mv (.t 0)⟩,
    ⟨(some 77), none, none, .mv (.t 6)⟩,
    ⟨(some 78), none, none, .indexA 1 (.t 76) (.t 77)⟩,
    ⟨(some 79), none, none, .load false 1 (.t 78)⟩,
    ⟨(some 80), none, none, .mv (.t 0)⟩,
    ⟨(some 81), none, none, .mv (.t 5)⟩,
    ⟨(some 82), none, none, .indexA 1 (.t 80) (.t 81)⟩,
    ⟨(some 83), none, none, .load false 1 (.t 82)⟩,
    ⟨(some 84), none, none, .indexA 1 (.t 72) (.t 73)⟩,
    ⟨none, none, none, .store 1 (.t 84) (.t 79)⟩,
    ⟨(some 85), none, none, .indexA 1 (.t 74) (.t 75)⟩,
    ⟨none, none, none, .store 1 (.t 85) (.t 83)⟩] (some (0, [])))
          (.seq (.reg [⟨(some 87), none, none, .bin .eql (.t 35) (.c (.p (.int .u64 3)))⟩,
    ⟨(some 86), none, none, .mv (.t 87)⟩] none)
          (.fg [0, 5, 86] (.cond (.t 86)
            (.reg [⟨(some 88), none, none, .mv (.t 0)⟩,
    ⟨(some 89), none, none, .mv (.t 5)⟩,
    ⟨(some 90), none, none, .call .pu 54 [.c (.p (.int .i64 (-1)))]⟩,
    ⟨(some 91), none, none, .mv (.t 0)⟩,
    ⟨(some 92), none, none, .mv (.t 5)⟩,
    ⟨(some 93), none, none, .indexA 1 (.t 91) (.t 92)⟩,
    ⟨(some 94), none, none, .load false 1 (.t 93)⟩,
    ⟨(some 95), none, none, .call .pu 78 [.t 90, .t 94]⟩,
    ⟨(some 96), none, none, .indexA 1 (.t 88) (.t 89)⟩,
    ⟨none, none, none, .store 1 (.t 96) (.t 95)⟩] (some (0, [])))
            .skip)))))))))))))))))))),
  []⟩

theorem c88 : chkF Try.prog 88 f88 = true := by kernel_rfl

/-- trammel/trammelref04.Form -/
def f89 : RFun := ⟨(.seq (.reg [⟨(some 2), none, none, .mv (.c (.nils))⟩] none)
  (.seq (.reg [⟨(some 3), none, none, .mv (.c (.nils))⟩] none)
  (.seq (.seq (.reg [⟨(some 4), none, none, .mv (.c (.p (.int .i64 0)))⟩] none)
  (.fg [0, 3, 4] (.block 0
  (.loop (.fg [0, 3, 4]
    (.seq (.seq (.reg [⟨(some 5), none, none, .mv (.t 4)⟩,
    ⟨(some 6), none, none, .mv (.t 0)⟩,
    ⟨(some 7), none, none, .len (.t 6)⟩,
    ⟨(some 8), none, none, .bin .lss (.t 5) (.t 7)⟩] none)
      (.fg [0, 3, 4, 8] (.cond (.t 8)
        .skip
        (.exit 0))))
      (.seq (.block 1
      (.reg [⟨(some 11), none, none, .mv (.t 3)⟩,
    ⟨(some 12), none, none, .call .pu 66 [.c (.p (.int .i64 1))]⟩,
    ⟨(some 13), none, none, .mv (.t 0)⟩,
    ⟨(some 14), none, none, .mv (.t 4)⟩,
    ⟨(some 15), none, none, .indexA 1 (.t 13) (.t 14)⟩,
    ⟨(some 16), none, none, .load false 1 (.t 15)⟩,
    ⟨(some 17), none, none, .call .pu 74 [.t 12, .t 16]⟩,
    ⟨(some 18), none, (some 0), .bslice 1 [.t 17]⟩,
    ⟨(some 19), none, (some 1), .append 1 24 (.t 11) (.t 18)⟩,
    ⟨(some 3), none, none, .mv (.t 19)⟩] (some (2, []))))
      (.fg [0, 3, 4] (.reg [⟨(some 9), none, none, .mv (.t 4)⟩,
    ⟨(some 10), none, none, .bin .add (.t 9) (.c (.p (.int .i64 1)))⟩,
    ⟨(some 4), none, none, .mv (.t 10)⟩] none)))))))))
  (.seq (.reg [⟨(some 20), none, none, .mv (.t 3)⟩,
    ⟨(some 2), none, none, .mv (.t 20)⟩] none)
  .ret)))),
  [.t 2]⟩

theorem c89 : chkF Try.prog 89 f89 = true := by kernel_rfl

/-- trammel/trammelref04.Unit -/
def f90 : RFun := ⟨(.seq (.reg [⟨(some 2), none, none, .mv (.c (.nils))⟩,
    ⟨(some 3), none, none, .mv (.c (.p (.int .i64 0)))⟩] none)
  (.seq (.seq (.reg [⟨(some 8), none, none, .mv (.t 0)⟩,
    ⟨(some 9), none, none, .bin .lss (.t 8) (.c (.p (.int .i64 0)))⟩] none)
  (.fg [0, 9] (.cond (.t 9)
    (.seq (.reg [⟨(some 2), none, none, .mv (.c (.nils))⟩,
    ⟨(some 3), none, none, .mv (.c (.p (.int .i64 1)))⟩] none)
    .ret)
    .skip)))
  (.seq (.seq (.reg [⟨(some 10), none, none, .mv (.t 0)⟩,
    ⟨(some 11), none, none, .bin .gtr (.t 10) (.c (.p (.int .i64 64)))⟩] none)
  (.fg [0, 11] (.cond (.t 11)
    (.seq (.reg [⟨(some 2), none, none, .mv (.c (.nils))⟩,
    ⟨(some 3), none, none, .mv (.c (.p (.int .i64 2)))⟩] none)
    .ret)
    .skip)))
  (.seq (.reg [⟨(some 4), none, none, .mv (.c (.nils))⟩] none)
  (.seq (.seq (.reg [⟨(some 5), none, none, .mv (.c (.p (.int .i64 0)))⟩] none)
  (.fg [0, 4, 5] (.block 0
  (.loop (.fg [0, 4, 5]
    (.seq (.seq (.reg [⟨(some 12), none, none, .mv (.t 5)⟩,
    ⟨(some 13), none, none, .mv (.t 0)⟩,
    ⟨(some 14), none, none, .bin .lss (.t 12) (.t 13)⟩] none)
      (.fg [0, 4, 5, 14] (.cond (.t 14)
        .skip
        (.exit 0))))
      (.seq (.block 1
      (.seq (.reg [⟨(some 6), none, none, .mv (.c (.nils))⟩] none)
        (.seq (.seq (.reg [⟨(some 7), none, none, .mv (.c (.p (.int .i64 0)))⟩] none)
        (.fg [0, 4, 5, 6, 7] (.block 2
        (.loop (.fg [0, 4, 5, 6, 7]
          (.seq (.seq (.reg [⟨(some 17), none, none, .mv (.t 7)⟩,
    ⟨(some 18), none, none, .mv (.t 0)⟩,
    ⟨(some 19), none, none, .bin .lss (.t 17) (.t 18)⟩] none)
            (.fg [0, 4, 5, 6, 7, 19] (.cond (.t 19)
              .skip
              (.exit 2))))
            (.seq (.block 3
            (.seq (.reg [⟨(some 22), none, none, .mv (.t 5)⟩,
    ⟨(some 23), none, none, .mv (.t 7)⟩,
    ⟨(some 24), none, none, .bin .eql (.t 22) (.t 23)⟩] none)
              (.fg [0, 4, 5, 6, 7, 24] (.cond (.t 24)
                (.reg [⟨(some 25), none, none, .mv (.t 6)⟩,
    ⟨(some 26), none, none, .call .pu 66 [.c (.p (.int .i64 1))]⟩,
    ⟨(some 27), none, none, .bslice 2 [.t 26]⟩,
    ⟨(some 28), none, none, .append 2 32 (.t 25) (.t 27)⟩,
    ⟨(some 6), none, none, .mv (.t 28)⟩] none)
                (.reg [⟨(some 29), none, none, .mv (.t 6)⟩,
    ⟨(some 30), none, none, .call .pu 66 [.c (.p (.int .i64 0))]⟩,
    ⟨(some 31), none, none, .bslice 2 [.t 30]⟩,
    ⟨(some 32), none, none, .append 2 32 (.t 29) (.t 31)⟩,
    ⟨(some 6), none, none, .mv (.t 32)⟩] none)))))
            (.fg [0, 4, 5, 6, 7] (.reg [⟨(some 20), none, none, .mv (.t 7)⟩,
    ⟨(some 21), none, none, .bin .add (.t 20) (.c (.p (.int .i64 1)))⟩,
    ⟨(some 7), none, none, .mv (.t 21)⟩] none)))))))))
        (.reg [⟨(some 33), none, none, .mv (.t 4)⟩,
    ⟨(some 34), none, none, .mv (.t 6)⟩,
    ⟨(some 35), none, none, .bslice 1 [.t 34]⟩,
    ⟨(some 36), none, none, .append 1 24 (.t 33) (.t 35)⟩,
    ⟨(some 4), none, none, .mv (.t 36)⟩] none))))
      (.fg [0, 4, 5] (.reg [⟨(some 15), none, none, .mv (.t 5)⟩,
    ⟨(some 16), none, none, .bin .add (.t 15) (.c (.p (.int .i64 1)))⟩,
    ⟨(some 5), none, none, .mv (.t 16)⟩] none)))))))))
  (.seq (.reg [⟨(some 37), none, none, .mv (.t 4)⟩,
    ⟨(some 2), none, none, .mv (.t 37)⟩,
    ⟨(some 3), none, none, .mv (.c (.p (.int .i64 0)))⟩] none)
  .ret)))))),
  [.t 2, .t 3]⟩

theorem c90 : chkF Try.prog 90 f90 = true := by kernel_rfl

/-- trammel/trammelref26.turn -/
def f91 : RFun := ⟨(.seq (.reg [⟨(some 8), none, none, .mv (.t 3)⟩] none)
  (.fg [0, 1, 2, 8] (.block 0
  (.seq (.reg [⟨(some 19), none, none, .bin .eql (.t 8) (.c (.p (.int .u64 0)))⟩,
    ⟨(some 18), none, none, .mv (.t 19)⟩] none)
    (.fg [0, 1, 2, 8, 18] (.cond (.t 18)
      (.reg [⟨(some 21), none, none, .mv (.t 0)⟩,
    ⟨(some 22), none, none, .mv (.t 1)⟩,
    ⟨(some 23), none, none, .mv (.t 0)⟩,
    ⟨(some 24), none, none, .mv (.t 1)⟩,
    ⟨(some 25), none, none, .indexA 1 (.t 23) (.t 24)⟩,
    ⟨(some 26), none, none, .load false 1 (.t 25)⟩,
    ⟨(some 27), none, none, .mv (.t 0)⟩,
    ⟨(some 28), none, none, .mv (.t 2)⟩,
    ⟨(some 29), none, none, .indexA 1 (.t 27) (.t 28)⟩,
    ⟨(some 30), none, none, .load false 1 (.t 29)⟩,
    ⟨(some 31), none, none, .call .pu 129 [.t 26, .t 30]⟩,
    ⟨(some 20), none, none, .mv (.t 31)⟩,
    ⟨(some 32), none, none, .extract (.t 20) 0⟩,
    ⟨(some 33), none, none, .extract (.t 20) 1⟩,
    ⟨(some 34), none, none, .indexA 1 (.t 21) (.t 22)⟩,
    ⟨none, none, none, .store 1 (.t 34) (.t 32)⟩] (some (0, [])))
      (.seq (.reg [⟨(some 36), none, none, .bin .eql (.t 8) (.c (.p (.int .u64 1)))⟩,
    ⟨(some 35), none, none, .mv (.t 36)⟩] none)
      (.fg [0, 1, 2, 8, 35] (.cond (.t 35)
        (.reg [⟨(some 38), none, none, .mv (.t 0)⟩,
    ⟨(some 39), none, none, .mv (.t 1)⟩,
    ⟨(some 40), none, none, .mv (.t 0)⟩,
    ⟨(some 41), none, none, .mv (.t 1)⟩,
    ⟨(some 42), none, none, .indexA 1 (.t 40) (.t 41)⟩,
    ⟨(some 43), none, none, .load false 1 (.t 42)⟩,
    ⟨(some 44), none, none, .mv (.t 0)⟩,
    ⟨(some 45), none, none, .mv (.t 2)⟩,
    ⟨(some 46), none, none, .indexA 1 (.t 44) (.t 45)⟩,
    ⟨(some 47), none, none, .load false 1 (.t 46)⟩,
    ⟨(some 48), none, none, .call .pu 130 [.t 43, .t 47]⟩,
    ⟨(some 37), none, none, .mv (.t 48)⟩,
    ⟨(some 49), none, none, .extract (.t 37) 0⟩,
    ⟨(some 50), none, none, .extract (.t 37) 1⟩,
    ⟨(some 51), none, none, .indexA 1 (.t 38) (.t 39)⟩,
    ⟨none, none, none, .store 1 (.t 51) (.t 49)⟩] (some (0, [])))
        (.seq (.reg [⟨(some 53), none, none, .bin .eql (.t 8) (.c (.p (.int .u64 2)))⟩,
    ⟨(some 52), none, none, .mv (.t 53)⟩] none)
        (.fg [0, 1, 2, 52] (.cond (.t 52)
          (.reg [⟨(some 54), none, none, .mv (.t 0)⟩,
    ⟨(some 55), none, none, .mv (.t 1)⟩,
    ⟨(some 56), none, none, .mv (.t 0)⟩,
    ⟨(some 57), none, none, .mv (.t 2)⟩,
    ⟨(some 58), none, none, .mv (.t 0)⟩,
    ⟨(some 59), none, none, .mv (.t 2)⟩,
    ⟨(some 60), none, none, .indexA 1 (.t 58) (.t 59)⟩,
    ⟨(some 61), none, none, .load false 1 (.t 60)⟩,
    ⟨(some 62), none, none, .mv (.t 0)⟩,
    ⟨(some 63), none, none, .mv (.t 1)⟩,
    ⟨(some 64), none, none, .indexA 1 (.t 62) (.t 63)⟩,
    ⟨(some 65), none, none, .load false 1 (.t 64)⟩,
    ⟨(some 66), none, none, .indexA 1 (.t 54) (.t 55)⟩,
    ⟨none, none, none, .store 1 (.t 66) (.t 61)⟩,
    ⟨(some 67), none, none, .indexA 1 (.t 56) (.t 57)⟩,
    ⟨none, none, none, .store 1 (.t 67) (.t 65)⟩] (some (0, [])))
          (.reg [⟨(some 9), none, none, .mv (.t 0)⟩,
    ⟨(some 10), none, none, .mv (.t 1)⟩,
    ⟨(some 11), none, none, .call .pu 66 [.c (.p (.int .i64 (-1)))]⟩,
    ⟨(some 12), none, none, .mv (.t 0)⟩,
    ⟨(some 13), none, none, .mv (.t 1)⟩,
    ⟨(some 14), none, none, .indexA 1 (.t 12) (.t 13)⟩,
    ⟨(some 15), none, none, .load false 1 (.t 14)⟩,
    ⟨(some 16), none, none, .call .pu 74 [.t 11, .t 15]⟩,
    ⟨(some 17), none, none, .indexA 1 (.t 9) (.t 10)⟩,
    ⟨none, none, none, .store 1 (.t 17) (.t 16)⟩] (some (0, []))))))))))))))),
  []⟩

theorem c91 : chkF Try.prog 91 f91 = true := by kernel_rfl

/-- trammel/trammelref04.Bits -/
def f92 : RFun := ⟨(.seq (.reg [⟨(some 2), none, none, .mv (.c (.p (.int .i64 0)))⟩] none)
  (.seq (.reg [⟨(some 3), none, none, .mv (.c (.p (.int .i64 0)))⟩] none)
  (.seq (.seq (.reg [⟨(some 4), none, none, .mv (.c (.p (.int .i64 0)))⟩] none)
  (.fg [0, 3, 4] (.block 0
  (.loop (.fg [0, 3, 4]
    (.seq (.seq (.reg [⟨(some 6), none, none, .mv (.t 4)⟩,
    ⟨(some 7), none, none, .mv (.t 0)⟩,
    ⟨(some 8), none, none, .len (.t 7)⟩,
    ⟨(some 9), none, none, .bin .lss (.t 6) (.t 8)⟩] none)
      (.fg [0, 3, 4, 9] (.cond (.t 9)
        .skip
        (.exit 0))))
      (.seq (.block 1
      (.seq (.reg [⟨(some 5), none, none, .mv (.c (.p (.int .i64 0)))⟩] none)
        (.fg [0, 3, 4, 5] (.block 2
        (.loop (.fg [0, 3, 4, 5]
          (.seq (.seq (.reg [⟨(some 12), none, none, .mv (.t 5)⟩,
    ⟨(some 13), none, none, .mv (.t 0)⟩,
    ⟨(some 14), none, none, .mv (.t 4)⟩,
    ⟨(some 15), none, none, .indexA 1 (.t 13) (.t 14)⟩,
    ⟨(some 16), none, none, .load false 1 (.t 15)⟩,
    ⟨(some 17), none, none, .len (.t 16)⟩,
    ⟨(some 18), none, none, .bin .lss (.t 12) (.t 17)⟩] none)
            (.fg [0, 3, 4, 5, 18] (.cond (.t 18)
              .skip
              (.exit 2))))
            (.seq (.block 3
            (.reg [⟨(some 21), none, none, .mv (.t 3)⟩,
    ⟨(some 22), none, none, .mv (.t 0)⟩,
    ⟨(some 23), none, none, .mv (.t 4)⟩,
    ⟨(some 24), none, none, .indexA 1 (.t 22) (.t 23)⟩,
    ⟨(some 25), none, none, .load false 1 (.t 24)⟩,
    ⟨(some 26), none, none, .mv (.t 5)⟩,
    ⟨(some 27), none, none, .indexA 2 (.t 25) (.t 26)⟩,
    ⟨(some 28), none, none, .load true 2 (.t 27)⟩,
    ⟨(some 29), none, none, .call .pu 131 [.t 28]⟩,
    ⟨(some 30), none, none, .mx (.t 21) (.t 29)⟩,
    ⟨(some 3), none, none, .mv (.t 30)⟩] none))
            (.fg [0, 3, 4, 5] (.reg [⟨(some 19), none, none, .mv (.t 5)⟩,
    ⟨(some 20), none, none, .bin .add (.t 19) (.c (.p (.int .i64 1)))⟩,
    ⟨(some 5), none, none, .mv (.t 20)⟩] none))))))))))
      (.fg [0, 3, 4] (.reg [⟨(some 10), none, none, .mv (.t 4)⟩,
    ⟨(some 11), none, none, .bin .add (.t 10) (.c (.p (.int .i64 1)))⟩,
    ⟨(some 4), none, none, .mv (.t 11)⟩] none)))))))))
  (.seq (.reg [⟨(some 31), none, none, .mv (.t 3)⟩,
    ⟨(some 2), none, none, .mv (.t 31)⟩] none)
  .ret)))),
  [.t 2]⟩

theorem c92 : chkF Try.prog 92 f92 = true := by kernel_rfl

/-- trammel/zint.Form -/
def f94 : RFun := ⟨(.seq (.reg [⟨(some 1), none, none, .box (.t 0)⟩,
    ⟨(some 2), none, none, .alloc [.p (.bool false), .nils]⟩] none)
  (.seq (.reg [⟨(some 3), none, none, .fieldA 0 (.t 1)⟩,
    ⟨(some 4), none, none, .load false 1 (.t 3)⟩,
    ⟨(some 5), none, none, .fieldA 1 (.t 1)⟩,
    ⟨(some 6), none, none, .load false 1 (.t 5)⟩,
    ⟨(some 7), none, none, .call .pu 105 [.t 4, .t 6]⟩,
    ⟨none, none, none, .store 2 (.t 2) (.t 7)⟩] none)
  .ret)),
  [.cell 2 true 2]⟩

theorem c94 : chkF Try.prog 94 f94 = true := by kernel_rfl

/-- trammel/kin.chance$1 -/
def f104 : RFun := ⟨(.seq (.reg [⟨(some 3), none, none, .mv (.c (.p (.int .u64 0)))⟩] none)
  (.seq (.reg [⟨(some 5), none, none, .load false 1 (.t 1)⟩,
    ⟨(some 6), none, none, .bin .add (.t 5) (.c (.p (.int .u64 11400714819323198485)))⟩,
    ⟨none, none, none, .store 1 (.t 1) (.t 6)⟩] none)
  (.seq (.reg [⟨(some 7), none, none, .load false 1 (.t 1)⟩,
    ⟨(some 4), none, none, .mv (.t 7)⟩] none)
  (.seq (.reg [⟨(some 8), none, none, .mv (.t 4)⟩,
    ⟨(some 9), none, none, .mv (.t 4)⟩,
    ⟨(some 10), none, none, .bin .shr (.t 9) (.c (.p (.int .u64 30)))⟩,
    ⟨(some 11), none, none, .bin .xor (.t 8) (.t 10)⟩,
    ⟨(some 12), none, none, .bin .mul (.t 11) (.c (.p (.int .u64 13787848793156543929)))⟩,
    ⟨(some 4), none, none, .mv (.t 12)⟩] none)
  (.seq (.reg [⟨(some 13), none, none, .mv (.t 4)⟩,
    ⟨(some 14), none, none, .mv (.t 4)⟩,
    ⟨(some 15), none, none, .bin .shr (.t 14) (.c (.p (.int .u64 27)))⟩,
    ⟨(some 16), none, none, .bin .xor (.t 13) (.t 15)⟩,
    ⟨(some 17), none, none, .bin .mul (.t 16) (.c (.p (.int .u64 10723151780598845931)))⟩,
    ⟨(some 4), none, none, .mv (.t 17)⟩] none)
  (.seq (.reg [⟨(some 18), none, none, .mv (.t 4)⟩,
    ⟨(some 19), none, none, .mv (.t 4)⟩,
    ⟨(some 20), none, none, .bin .shr (.t 19) (.c (.p (.int .u64 31)))⟩,
    ⟨(some 21), none, none, .bin .xor (.t 18) (.t 20)⟩,
    ⟨(some 22), none, none, .mv (.t 0)⟩,
    ⟨(some 23), none, none, .bin .rem (.t 21) (.t 22)⟩,
    ⟨(some 3), none, none, .mv (.t 23)⟩] none)
  .ret)))))),
  [.t 3]⟩

theorem c104 : chkF Try.prog 104 f104 = true := by kernel_rfl

/-- trammel/trammellaw26.eq -/
def f106 : RFun := ⟨(.seq (.reg [⟨(some 2), none, none, .box (.t 0)⟩,
    ⟨(some 3), none, none, .box (.t 1)⟩,
    ⟨(some 4), none, none, .mv (.c (.p (.bool false)))⟩] none)
  (.seq (.seq (.reg [⟨(some 6), none, none, .fieldA 0 (.t 2)⟩,
    ⟨(some 7), none, none, .load false 1 (.t 6)⟩,
    ⟨(some 8), none, none, .fieldA 0 (.t 3)⟩,
    ⟨(some 9), none, none, .load false 1 (.t 8)⟩,
    ⟨(some 10), none, none, .beq true (.t 7) (.t 9)⟩,
    ⟨(some 11), none, none, .mv (.t 10)⟩,
    ⟨(some 12), (some (11, false)), none, .fieldA 1 (.t 2)⟩,
    ⟨(some 13), (some (11, false)), none, .load false 1 (.t 12)⟩,
    ⟨(some 14), (some (11, false)), none, .len (.t 13)⟩,
    ⟨(some 15), (some (11, false)), none, .fieldA 1 (.t 3)⟩,
    ⟨(some 16), (some (11, false)), none, .load false 1 (.t 15)⟩,
    ⟨(some 17), (some (11, false)), none, .len (.t 16)⟩,
    ⟨(some 18), (some (11, false)), none, .bin .neq (.t 14) (.t 17)⟩,
    ⟨(some 19), none, none, .pick (.t 11) (.c (.p (.bool true))) (.t 18)⟩] none)
  (.fg [2, 3, 19] (.cond (.t 19)
    (.seq (.reg [⟨(some 4), none, none, .mv (.c (.p (.bool false)))⟩] none)
    .ret)
    .skip)))
  (.seq (.seq (.reg [⟨(some 5), none, none, .mv (.c (.p (.int .i64 0)))⟩] none)
  (.fg [2, 3, 5] (.block 0
  (.loop (.fg [2, 3, 5]
    (.seq (.seq (.reg [⟨(some 20), none, none, .mv (.t 5)⟩,
    ⟨(some 21), none, none, .fieldA 1 (.t 2)⟩,
    ⟨(some 22), none, none, .load false 1 (.t 21)⟩,
    ⟨(some 23), none, none, .len (.t 22)⟩,
    ⟨(some 24), none, none, .bin .lss (.t 20) (.t 23)⟩] none)
      (.fg [2, 3, 5, 24] (.cond (.t 24)
        .skip
        (.exit 0))))
      (.seq (.block 1
      (.seq (.reg [⟨(some 27), none, none, .fieldA 1 (.t 2)⟩,
    ⟨(some 28), none, none, .load false 1 (.t 27)⟩,
    ⟨(some 29), none, none, .mv (.t 5)⟩,
    ⟨(some 30), none, none, .indexA 1 (.t 28) (.t 29)⟩,
    ⟨(some 31), none, none, .load false 1 (.t 30)⟩,
    ⟨(some 32), none, none, .fieldA 1 (.t 3)⟩,
    ⟨(some 33), none, none, .load false 1 (.t 32)⟩,
    ⟨(some 34), none, none, .mv (.t 5)⟩,
    ⟨(some 35), none, none, .indexA 1 (.t 33) (.t 34)⟩,
    ⟨(some 36), none, none, .load false 1 (.t 35)⟩,
    ⟨(some 37), none, none, .bin .neq (.t 31) (.t 36)⟩] (some (0, [])))
        (.fg [2, 3, 5, 37] (.cond (.t 37)
          (.seq (.reg [⟨(some 4), none, none, .mv (.c (.p (.bool false)))⟩] none)
          .ret)
          .skip))))
      (.fg [2, 3, 5] (.reg [⟨(some 25), none, none, .mv (.t 5)⟩,
    ⟨(some 26), none, none, .bin .add (.t 25) (.c (.p (.int .i64 1)))⟩,
    ⟨(some 5), none, none, .mv (.t 26)⟩] none)))))))))
  (.seq (.reg [⟨(some 4), none, none, .mv (.c (.p (.bool true)))⟩] none)
  .ret)))),
  [.t 4]⟩

theorem c106 : chkF Try.prog 106 f106 = true := by kernel_rfl

/-- trammel/mat.each[[]trammel/api.Int,[]trammel/api.Int] -/
def f114 : RFun := ⟨(.seq (.reg [⟨(some 4), none, none, .mv (.c (.nils))⟩] none)
  (.seq (.reg [⟨(some 8), none, none, .mv (.t 0)⟩,
    ⟨(some 9), none, none, .len (.t 8)⟩,
    ⟨(some 10), none, none, .mks false 1 24 (.sl []) (.c (.p (.int .i64 0))) (.t 9)⟩,
    ⟨(some 5), none, none, .mv (.t 10)⟩] none)
  (.seq (.seq (.reg [⟨(some 11), none, none, .mv (.t 0)⟩,
    ⟨(some 12), none, none, .len (.t 11)⟩,
    ⟨(some 13), none, none, .mv (.c (.p (.int .i64 0)))⟩] none)
  (.fg [1, 5, 11, 12, 13] (.block 0
  (.loop (.fg [1, 5, 11, 12, 13]
    (.seq (.reg [⟨(some 14), none, none, .bin .lss (.t 13) (.t 12)⟩] none)
      (.seq (.cond (.t 14)
        .skip
        (.exit 0))
      (.fg [1, 5, 11, 12, 13] (.seq (.block 1
      (.seq (.reg [⟨(some 15), none, none, .indexA 1 (.t 11) (.t 13)⟩,
    ⟨(some 16), none, none, .load false 1 (.t 15)⟩,
    ⟨(some 7), none, none, .mv (.t 16)⟩] none)
        (.reg [⟨(some 17), none, none, .mv (.t 5)⟩,
    ⟨(some 18), none, none, .mv (.t 1)⟩,
    ⟨(some 19), none, none, .mv (.t 7)⟩,
    ⟨(some 20), none, none, .callv .pu (.t 18) [.t 19]⟩,
    ⟨(some 21), none, none, .bslice 1 [.t 20]⟩,
    ⟨(some 22), none, none, .append 1 24 (.t 17) (.t 21)⟩,
    ⟨(some 5), none, none, .mv (.t 22)⟩] none)))
      (.fg [1, 5, 11, 12, 13] (.reg [⟨(some 23), none, none, .bin .add (.t 13) (.c (.p (.int .i64 1)))⟩,
    ⟨(some 13), none, none, .mv (.t 23)⟩] none)))))))))))
  (.seq (.reg [⟨(some 24), none, none, .mv (.t 5)⟩,
    ⟨(some 4), none, none, .mv (.t 24)⟩] none)
  .ret)))),
  [.t 4]⟩

theorem c114 : chkF Try.prog 114 f114 = true := by kernel_rfl

/-- trammel/mat.Form$1 -/
def f115 : RFun := ⟨(.seq (.reg [⟨(some 2), none, none, .mv (.c (.nils))⟩] none)
  (.seq (.reg [⟨(some 3), none, none, .mv (.t 0)⟩,
    ⟨(some 4), none, none, .call .full 116 [.t 3, .c (.fn 94 [])]⟩,
    ⟨(some 2), none, none, .mv (.t 4)⟩] none)
  .ret)),
  [.t 2]⟩

theorem c115 : chkF Try.prog 115 f115 = true := by kernel_rfl

/-- trammel/mat.each[trammel/api.Int,trammel/api.Int] -/
def f116 : RFun := ⟨(.seq (.reg [⟨(some 4), none, none, .mv (.c (.nils))⟩] none)
  (.seq (.reg [⟨(some 8), none, none, .mv (.t 0)⟩,
    ⟨(some 9), none, none, .len (.t 8)⟩,
    ⟨(some 10), none, none, .mks false 2 32 (.agg [.bool false, .sl []]) (.c (.p (.int .i64 0))) (.t 9)⟩,
    ⟨(some 5), none, none, .mv (.t 10)⟩] none)
  (.seq (.seq (.reg [⟨(some 11), none, none, .mv (.t 0)⟩,
    ⟨(some 12), none, none, .len (.t 11)⟩,
    ⟨(some 13), none, none, .mv (.c (.p (.int .i64 0)))⟩] none)
  (.fg [1, 5, 11, 12, 13] (.block 0
  (.loop (.fg [1, 5, 11, 12, 13]
    (.seq (.reg [⟨(some 14), none, none, .bin .lss (.t 13) (.t 12)⟩] none)
      (.seq (.cond (.t 14)
        .skip
        (.exit 0))
      (.fg [1, 5, 11, 12, 13] (.seq (.block 1
      (.seq (.reg [⟨(some 15), none, none, .indexA 2 (.t 11) (.t 13)⟩,
    ⟨(some 16), none, none, .load true 2 (.t 15)⟩,
    ⟨(some 7), none, none, .alloc [.p (.bool false), .nils]⟩,
    ⟨none, none, none, .store 2 (.t 7) (.t 16)⟩] none)
        (.reg [⟨(some 17), none, none, .mv (.t 5)⟩,
    ⟨(some 18), none, none, .mv (.t 1)⟩,
    ⟨(some 19), none, none, .load true 2 (.t 7)⟩,
    ⟨(some 20), none, none, .callv .cell (.t 18) [.t 19]⟩,
    ⟨(some 21), none, none, .bslice 2 [.t 20]⟩,
    ⟨(some 22), none, none, .append 2 32 (.t 17) (.t 21)⟩,
    ⟨(some 5), none, none, .mv (.t 22)⟩] none)))
      (.fg [1, 5, 11, 12, 13] (.reg [⟨(some 23), none, none, .bin .add (.t 13) (.c (.p (.int .i64 1)))⟩,
    ⟨(some 13), none, none, .mv (.t 23)⟩] none)))))))))))
  (.seq (.reg [⟨(some 24), none, none, .mv (.t 5)⟩,
    ⟨(some 4), none, none, .mv (.t 24)⟩] none)
  .ret)))),
  [.t 4]⟩

theorem c116 : chkF Try.prog 116 f116 = true := by kernel_rfl

/-- trammel/mat.Times$1 -/
def f120 : RFun := ⟨(.seq (.reg [⟨(some 2), none, none, .box (.t 0)⟩,
    ⟨(some 3), none, none, .alloc [.p (.bool false), .nils]⟩] none)
  (.seq (.reg [⟨(some 4), none, none, .load true 2 (.t 1)⟩,
    ⟨(some 5), none, none, .load true 2 (.t 2)⟩,
    ⟨(some 6), none, none, .call .pu 63 [.t 4, .t 5]⟩,
    ⟨none, none, none, .store 2 (.t 3) (.t 6)⟩] none)
  .ret)),
  [.cell 3 true 2]⟩

theorem c120 : chkF Try.prog 120 f120 = true := by kernel_rfl

/-- trammel/trammellaw26.own -/
def f126 : RFun := ⟨(.seq (.reg [⟨(some 1), none, none, .box (.t 0)⟩,
    ⟨(some 2), none, none, .alloc [.p (.bool false), .nils]⟩] none)
  (.seq (.reg [⟨(some 3), none, none, .mv (.c (.nils))⟩] none)
  (.seq (.reg [⟨(some 4), none, none, .mv (.t 3)⟩,
    ⟨(some 5), none, none, .fieldA 1 (.t 1)⟩,
    ⟨(some 6), none, none, .load false 1 (.t 5)⟩,
    ⟨(some 7), none, none, .append 1 4 (.t 4) (.t 6)⟩,
    ⟨(some 3), none, none, .mv (.t 7)⟩] none)
  (.seq (.reg [⟨(some 8), none, none, .mv (.t 3)⟩,
    ⟨(some 9), none, none, .bslice 1 [.c (.p (.int .u32 77)), .c (.p (.int .u32 78)), .c (.p (.int .u32 79)), .c (.p (.int .u32 80)), .c (.p (.int .u32 81)), .c (.p (.int .u32 82)), .c (.p (.int .u32 83)), .c (.p (.int .u32 84)), .c (.p (.int .u32 85))]⟩,
    ⟨(some 10), none, none, .append 1 4 (.t 8) (.t 9)⟩,
    ⟨(some 3), none, none, .mv (.t 10)⟩] none)
  (.seq (.reg [⟨(some 11), none, none, .fieldA 0 (.t 1)⟩,
    ⟨(some 12), none, none, .load false 1 (.t 11)⟩,
    ⟨(some 13), none, none, .mv (.t 3)⟩,
    ⟨(some 14), none, none, .fieldA 1 (.t 1)⟩,
    ⟨(some 15), none, none, .load false 1 (.t 14)⟩,
    ⟨(some 16), none, none, .len (.t 15)⟩,
    ⟨(some 17), none, none, .slice 1 (.t 13) none (some (.t 16)) none⟩,
    ⟨(some 18), none, none, .build [.p (.bool false), .nils] [(0, 1, .t 12), (1, 1, .t 17)]⟩,
    ⟨none, none, none, .store 2 (.t 2) (.t 18)⟩] (some (0, [])))
  .ret))))),
  [.cell 2 true 2]⟩

theorem c126 : chkF Try.prog 126 f126 = true := by kernel_rfl

/-- trammel/mat.Plus -/
def f127 : RFun := ⟨(.seq (.reg [⟨(some 4), none, none, .mv (.c (.nils))⟩,
    ⟨(some 5), none, none, .mv (.c (.p (.int .i64 0)))⟩] none)
  (.seq (.reg [⟨(some 6), none, none, .mv (.t 0)⟩,
    ⟨(some 7), none, none, .mv (.t 1)⟩,
    ⟨(some 8), none, none, .call .full 156 [.t 6, .t 7, .c (.fn 145 [])]⟩,
    ⟨(some 9), none, none, .extract (.t 8) 0⟩,
    ⟨(some 10), none, none, .extract (.t 8) 1⟩,
    ⟨(some 4), none, none, .mv (.t 9)⟩,
    ⟨(some 5), none, none, .mv (.t 10)⟩] none)
  .ret)),
  [.t 4, .t 5]⟩

theorem c127 : chkF Try.prog 127 f127 = true := by kernel_rfl

/-- trammel/mat.Minus -/
def f128 : RFun := ⟨(.seq (.reg [⟨(some 4), none, none, .mv (.c (.nils))⟩,
    ⟨(some 5), none, none, .mv (.c (.p (.int .i64 0)))⟩] none)
  (.seq (.reg [⟨(some 6), none, none, .mv (.t 0)⟩,
    ⟨(some 7), none, none, .mv (.t 1)⟩,
    ⟨(some 8), none, none, .call .full 156 [.t 6, .t 7, .c (.fn 157 [])]⟩,
    ⟨(some 9), none, none, .extract (.t 8) 0⟩,
    ⟨(some 10), none, none, .extract (.t 8) 1⟩,
    ⟨(some 4), none, none, .mv (.t 9)⟩,
    ⟨(some 5), none, none, .mv (.t 10)⟩] none)
  .ret)),
  [.t 4, .t 5]⟩

theorem c128 : chkF Try.prog 128 f128 = true := by kernel_rfl

/-- trammel/trammelref04.Plus -/
def f129 : RFun := ⟨(.seq (.reg [⟨(some 4), none, none, .mv (.c (.nils))⟩,
    ⟨(some 5), none, none, .mv (.c (.p (.int .i64 0)))⟩] none)
  (.seq (.seq (.reg [⟨(some 8), none, none, .mv (.t 0)⟩,
    ⟨(some 9), none, none, .len (.t 8)⟩,
    ⟨(some 10), none, none, .mv (.t 1)⟩,
    ⟨(some 11), none, none, .len (.t 10)⟩,
    ⟨(some 12), none, none, .bin .neq (.t 9) (.t 11)⟩] none)
  (.fg [0, 1, 12] (.cond (.t 12)
    (.seq (.reg [⟨(some 4), none, none, .mv (.c (.nils))⟩,
    ⟨(some 5), none, none, .mv (.c (.p (.int .i64 8)))⟩] none)
    .ret)
    .skip)))
  (.seq (.reg [⟨(some 6), none, none, .mv (.c (.nils))⟩] none)
  (.seq (.seq (.reg [⟨(some 7), none, none, .mv (.c (.p (.int .i64 0)))⟩] none)
  (.fg [0, 1, 6, 7] (.block 0
  (.loop (.fg [0, 1, 6, 7]
    (.seq (.seq (.reg [⟨(some 13), none, none, .mv (.t 7)⟩,
    ⟨(some 14), none, none, .mv (.t 0)⟩,
    ⟨(some 15), none, none, .len (.t 14)⟩,
    ⟨(some 16), none, none, .bin .lss (.t 13) (.t 15)⟩] none)
      (.fg [0, 1, 6, 7, 16] (.cond (.t 16)
        .skip
        (.exit 0))))
      (.seq (.block 1
      (.reg [⟨(some 19), none, none, .mv (.t 6)⟩,
    ⟨(some 20), none, none, .mv (.t 0)⟩,
    ⟨(some 21), none, none, .mv (.t 7)⟩,
    ⟨(some 22), none, none, .indexA 2 (.t 20) (.t 21)⟩,
    ⟨(some 23), none, none, .load true 2 (.t 22)⟩,
    ⟨(some 24), none, none, .mv (.t 1)⟩,
    ⟨(some 25), none, none, .mv (.t 7)⟩,
    ⟨(some 26), none, none, .indexA 2 (.t 24) (.t 25)⟩,
    ⟨(some 27), none, none, .load true 2 (.t 26)⟩,
    ⟨(some 28), none, none, .call .pu 109 [.t 23, .t 27]⟩,
    ⟨(some 29), none, (some 0), .bslice 2 [.t 28]⟩,
    ⟨(some 30), none, (some 1), .append 2 32 (.t 19) (.t 29)⟩,
    ⟨(some 6), none, none, .mv (.t 30)⟩] (some (2, []))))
      (.fg [0, 1, 6, 7] (.reg [⟨(some 17), none, none, .mv (.t 7)⟩,
    ⟨(some 18), none, none, .bin .add (.t 17) (.c (.p (.int .i64 1)))⟩,
    ⟨(some 7), none, none, .mv (.t 18)⟩] none)))))))))
  (.seq (.reg [⟨(some 31), none, none, .mv (.t 6)⟩,
    ⟨(some 4), none, none, .mv (.t 31)⟩,
    ⟨(some 5), none, none, .mv (.c (.p (.int .i64 0)))⟩] none)
  .ret))))),
  [.t 4, .t 5]⟩

theorem c129 : chkF Try.prog 129 f129 = true := by kernel_rfl

/-- trammel/trammelref04.Minus -/
def f130 : RFun := ⟨(.seq (.reg [⟨(some 4), none, none, .mv (.c (.nils))⟩,
    ⟨(some 5), none, none, .mv (.c (.p (.int .i64 0)))⟩] none)
  (.seq (.reg [⟨(some 6), none, none, .mv (.t 0)⟩,
    ⟨(some 7), none, none, .call .pu 66 [.c (.p (.int .i64 (-1)))]⟩,
    ⟨(some 8), none, none, .mv (.t 1)⟩,
    ⟨(some 9), none, none, .call .pu 74 [.t 7, .t 8]⟩,
    ⟨(some 10), none, none, .call .pu 129 [.t 6, .t 9]⟩,
    ⟨(some 11), none, none, .extract (.t 10) 0⟩,
    ⟨(some 12), none, none, .extract (.t 10) 1⟩,
    ⟨(some 4), none, none, .mv (.t 11)⟩,
    ⟨(some 5), none, none, .mv (.t 12)⟩] none)
  .ret)),
  [.t 4, .t 5]⟩

theorem c130 : chkF Try.prog 130 f130 = true := by kernel_rfl

/-- trammel/trammelref02.Bits -/
def f131 : RFun := ⟨(.seq (.reg [⟨(some 1), none, none, .box (.t 0)⟩,
    ⟨(some 2), none, none, .mv (.c (.p (.int .i64 0)))⟩] none)
  (.seq (.reg [⟨(some 3), none, none, .fieldA 1 (.t 1)⟩,
    ⟨(some 4), none, none, .load false 1 (.t 3)⟩,
    ⟨(some 5), none, none, .call .pu 82 [.t 4]⟩,
    ⟨(some 2), none, none, .mv (.t 5)⟩] none)
  .ret)),
  [.t 2]⟩

theorem c131 : chkF Try.prog 131 f131 = true := by kernel_rfl

/-- trammel/mat.pairs -/
def f156 : RFun := ⟨(.seq (.reg [⟨(some 6), none, none, .mv (.c (.nils))⟩,
    ⟨(some 7), none, none, .mv (.c (.p (.int .i64 0)))⟩] none)
  (.seq (.seq (.reg [⟨(some 10), none, none, .mv (.t 0)⟩,
    ⟨(some 11), none, none, .len (.t 10)⟩,
    ⟨(some 12), none, none, .mv (.t 1)⟩,
    ⟨(some 13), none, none, .len (.t 12)⟩,
    ⟨(some 14), none, none, .bin .neq (.t 11) (.t 13)⟩] none)
  (.fg [0, 1, 2, 14] (.cond (.t 14)
    (.seq (.reg [⟨(some 6), none, none, .mv (.c (.nils))⟩,
    ⟨(some 7), none, none, .mv (.c (.p (.int .i64 8)))⟩] none)
    .ret)
    .skip)))
  (.seq (.reg [⟨(some 8), none, none, .mv (.c (.nils))⟩] none)
  (.seq (.seq (.reg [⟨(some 15), none, none, .mv (.t 0)⟩,
    ⟨(some 16), none, none, .len (.t 15)⟩,
    ⟨(some 17), none, none, .mv (.c (.p (.int .i64 0)))⟩] none)
  (.fg [0, 1, 2, 8, 16, 17] (.block 0
  (.loop (.fg [0, 1, 2, 8, 16, 17]
    (.seq (.reg [⟨(some 18), none, none, .bin .lss (.t 17) (.t 16)⟩] none)
      (.seq (.cond (.t 18)
        .skip
        (.exit 0))
      (.fg [0, 1, 2, 8, 16, 17] (.seq (.block 1
      (.seq (.reg [⟨(some 19), none, none, .mv (.t 17)⟩,
    ⟨(some 9), none, none, .mv (.t 19)⟩] none)
        (.reg [⟨(some 20), none, none, .mv (.t 8)⟩,
    ⟨(some 21), none, none, .mv (.t 2)⟩,
    ⟨(some 22), none, none, .mv (.t 0)⟩,
    ⟨(some 23), none, none, .mv (.t 9)⟩,
    ⟨(some 24), none, none, .indexA 2 (.t 22) (.t 23)⟩,
    ⟨(some 25), none, none, .load true 2 (.t 24)⟩,
    ⟨(some 26), none, none, .mv (.t 1)⟩,
    ⟨(some 27), none, none, .mv (.t 9)⟩,
    ⟨(some 28), none, none, .indexA 2 (.t 26) (.t 27)⟩,
    ⟨(some 29), none, none, .load true 2 (.t 28)⟩,
    ⟨(some 30), none, none, .callv .pu (.t 21) [.t 25, .t 29]⟩,
    ⟨(some 31), none, (some 0), .bslice 2 [.t 30]⟩,
    ⟨(some 32), none, (some 1), .append 2 32 (.t 20) (.t 31)⟩,
    ⟨(some 8), none, none, .mv (.t 32)⟩] (some (2, [])))))
      (.fg [0, 1, 2, 8, 16, 17] (.reg [⟨(some 33), none, none, .bin .add (.t 17) (.c (.p (.int .i64 1)))⟩,
    ⟨(some 17), none, none, .mv (.t 33)⟩] none)))))))))))
  (.seq (.reg [⟨(some 34), none, none, .mv (.t 8)⟩,
    ⟨(some 6), none, none, .mv (.t 34)⟩,
    ⟨(some 7), none, none, .mv (.c (.p (.int .i64 0)))⟩] none)
  .ret))))),
  [.t 6, .t 7]⟩

theorem c156 : chkF Try.prog 156 f156 = true := by kernel_rfl

end Go.Proofs.Ytdieenbfdeaffaa.VKs

namespace Go.Proofs.Ytdieenbfdeaffaa.VKs
open Go Vpi
set_option maxRecDepth 100000

def tab : List (Nat × RFun) := [(6, f6), (10, f10), (19, f19), (22, f22), (23, f23), (41, f41), (42, f42), (43, f43), (49, f49), (50, f50), (56, f56), (57, f57), (70, f70), (74, f74), (78, f78), (86, f86), (87, f87), (88, f88), (89, f89), (90, f90), (91, f91), (92, f92), (94, f94), (104, f104), (106, f106), (114, f114), (115, f115), (116, f116), (120, f120), (126, f126), (127, f127), (128, f128), (129, f129), (130, f130), (131, f131), (156, f156)]

def rp : RProg := fun f => match VBn.rp f with | some rf => some rf | none => (tab.find? fun x => x.1 == f).map (·.2)

theorem all_ok : (tab.all fun x => chkF Try.prog x.1 x.2) = true := by
  simp only [tab, List.all_cons, List.all_nil, c6, c10, c19, c22, c23, c41, c42, c43, c49, c50, c56, c57, c70, c74, c78, c86, c87, c88, c89, c90, c91, c92, c94, c104, c106, c114, c115, c116, c120, c126, c127, c128, c129, c130, c131, c156, Bool.and_self]

theorem base_le : TabLe VBn.rp rp := by
  intro f rf h
  simp only [rp, h]

theorem rp_ok : ∀ f rf, rp f = some rf → chkF Try.prog f rf = true := by
  intro f rf h
  unfold rp at h
  split at h
  · rename_i h1
    cases h
    exact VBn.rp_ok _ _ h1
  · rw [Option.map_eq_some_iff] at h
    obtain ⟨x, hx, rfl⟩ := h
    have h1 := List.find?_some hx
    have h2 := List.mem_of_find?_eq_some hx
    have h3 := List.all_eq_true.1 all_ok x h2
    have h4 : x.1 = f := by simpa using h1
    rw [← h4]; exact h3

theorem mixed : Try.prog.follows .mixedOrders = true := VBn.mixed

theorem sim (m : Nat) : CallSim Try.prog (runF rp m) := callSim mixed rp_ok m

end Go.Proofs.Ytdieenbfdeaffaa.VKs

namespace Go.Proofs.Ytdieenbfdeaffaa.VKs
open Go Vpi
open VBn hiding rp tab rp_ok all_ok mixed sim Big
set_option maxRecDepth 100000
set_option linter.unusedSimpArgs false
set_option linter.unusedVariables false

theorem rp49 : rp 49 = some f49 := rfl
theorem rp50 : rp 50 = some f50 := rfl
theorem rp104 : rp 104 = some f104 := rfl
theorem rp106 : rp 106 = some f106 := rfl
theorem rp57 : rp 57 = some f57 := rfl
theorem rp19 : rp 19 = some f19 := rfl
theorem rp56 : rp 56 = some f56 := rfl

/-! ### equal in one form -/

theorem p106 {p : PV} {x : Int} (h : Nu p x) : Pu rp 106 [p, p] (.p (.bool true)) := by
  obtain ⟨s, l, rfl, hl, hn, rfl⟩ := h
  rw [CapN_eq] at hn
  refine pu_of rp106 ?_
  have e2 : ((l.length : Int) != (l.length : Int)) = false := by simp
  simp only [f106, args0, S1, S2, S3, S4, S5, r_idx, r_mks, ev, resultsV, resL, resV, vl, gt, st, sto, fgt, i64, subCV, fill, setCells, mkAgg, allP, frz, frz1, frzL, frzs, kill, kill1, killL, kills, bnd, unV, bsz, toPs, toP, isPure1, pureL, List.elem, List.replicate, Int.reduceLE, Int.reduceLT, ↓reduceIte, reduceCtorEq, Nat.reduceLT, Nat.reduceEqDiff, Nat.reduceAdd, Nat.reduceMul, Nat.reduceLeDiff, Nat.reduceBEq, lm_len]
  simp only [bne_self_eq_false, beq_self_eq_true, Bool.not_true, S1, S2, S3, S4, S5, r_idx, r_mks, ev, resultsV, resL, resV, vl, gt, st, sto, fgt, i64, subCV, fill, setCells, mkAgg, allP, frz, frz1, frzL, frzs, kill, kill1, killL, kills, bnd, unV, bsz, toPs, toP, isPure1, pureL, List.elem, List.replicate, Int.reduceLE, Int.reduceLT, ↓reduceIte, reduceCtorEq, Nat.reduceLT, Nat.reduceEqDiff, Nat.reduceAdd, Nat.reduceMul, Nat.reduceLeDiff, Nat.reduceBEq, e2]
  refine loop_rule (β := Nat) (fun b => ([(2, .ptr 0 0 0), (3, .ptr 1 0 0), (5, i64 b)], [.kblk 2 [.p (.bool s), .p (.sl (lm l))], .kblk 2 [.p (.bool s), .p (.sl (lm l))]])) (fun b => b ≤ l.length) (fun b => l.length - b) 0 rfl rfl (Nat.zero_le _) ?_
  intro i hi ih
  by_cases hin : (i : Int) < l.length
  · have hx := lm_get (l := l) (i := i) (by omega)
    simp only [S1, S2, S3, S4, S5, r_idx, r_mks, ev, resultsV, resL, resV, vl, gt, st, sto, fgt, i64, subCV, fill, setCells, mkAgg, allP, frz, frz1, frzL, frzs, kill, kill1, killL, kills, bnd, unV, bsz, toPs, toP, isPure1, pureL, List.elem, List.replicate, Int.reduceLE, Int.reduceLT, ↓reduceIte, reduceCtorEq, Nat.reduceLT, Nat.reduceEqDiff, Nat.reduceAdd, Nat.reduceMul, Nat.reduceLeDiff, Nat.reduceBEq, lm_len, hin, hx, bne_self_eq_false, Int.natCast_nonneg, Int.toNat_natCast, IntWalk.i64_in ((i : Int) + 1) (by omega)]
    refine ih (i + 1) _ (by omega) (by omega) ?_
    rfl
  · simp only [S1, S2, S3, S4, S5, r_idx, r_mks, ev, resultsV, resL, resV, vl, gt, st, sto, fgt, i64, subCV, fill, setCells, mkAgg, allP, frz, frz1, frzL, frzs, kill, kill1, killL, kills, bnd, unV, bsz, toPs, toP, isPure1, pureL, List.elem, List.replicate, Int.reduceLE, Int.reduceLT, ↓reduceIte, reduceCtorEq, Nat.reduceLT, Nat.reduceEqDiff, Nat.reduceAdd, Nat.reduceMul, Nat.reduceLeDiff, Nat.reduceBEq, lm_len, hin]
    rfl

/-- all are numbers -/
def RowN (r : List PV) : Prop := r.length ≤ 2000000 ∧ ∀ i, i < r.length → ∃ p x, r[i]? = some p ∧ Nu p x
def MatN (b : List PV) : Prop := b.length ≤ 2000000 ∧ ∀ i, i < b.length → ∃ r, b[i]? = some (.sl r) ∧ RowN r

theorem p57 {r : List PV} (hr : RowN r) : Pu rp 57 [.sl r, .sl r] (.p (.bool true)) := by
  refine pu_of rp57 ?_
  have hl := hr.1
  simp only [f57, args0, S1, S2, S3, S4, S5, r_idx, r_mks, ev, resultsV, resL, resV, vl, gt, st, sto, fgt, i64, subCV, fill, setCells, mkAgg, allP, frz, frz1, frzL, frzs, kill, kill1, killL, kills, bnd, unV, bsz, toPs, toP, isPure1, pureL, List.elem, List.replicate, Int.reduceLE, Int.reduceLT, ↓reduceIte, reduceCtorEq, Nat.reduceLT, Nat.reduceEqDiff, Nat.reduceAdd, Nat.reduceMul, Nat.reduceLeDiff, Nat.reduceBEq, bne_self_eq_false]
  refine loop_rule (β := Nat) (fun b => ([(0, .p (.sl r)), (1, .p (.sl r)), (5, i64 b)], [])) (fun b => b ≤ r.length) (fun b => r.length - b) 0 rfl rfl (Nat.zero_le _) ?_
  intro i hi ih
  by_cases hin : (i : Int) < r.length
  · obtain ⟨p, x, hx, hv⟩ := hr.2 i (by omega)
    have k := p106 hv
    obtain ⟨s, l, rfl, -⟩ := hv
    simp only [S1, S2, S3, S4, S5, r_idx, r_mks, ev, resultsV, resL, resV, vl, gt, st, sto, fgt, i64, subCV, fill, setCells, mkAgg, allP, frz, frz1, frzL, frzs, kill, kill1, killL, kills, bnd, unV, bsz, toPs, toP, isPure1, pureL, List.elem, List.replicate, Int.reduceLE, Int.reduceLT, ↓reduceIte, reduceCtorEq, Nat.reduceLT, Nat.reduceEqDiff, Nat.reduceAdd, Nat.reduceMul, Nat.reduceLeDiff, Nat.reduceBEq, hin, hx, kp2 k, unV, Bool.not_true, Int.natCast_nonneg, Int.toNat_natCast, IntWalk.i64_in ((i : Int) + 1) (by omega)]
    refine ih (i + 1) _ (by omega) (by omega) ?_
    rfl
  · simp only [S1, S2, S3, S4, S5, r_idx, r_mks, ev, resultsV, resL, resV, vl, gt, st, sto, fgt, i64, subCV, fill, setCells, mkAgg, allP, frz, frz1, frzL, frzs, kill, kill1, killL, kills, bnd, unV, bsz, toPs, toP, isPure1, pureL, List.elem, List.replicate, Int.reduceLE, Int.reduceLT, ↓reduceIte, reduceCtorEq, Nat.reduceLT, Nat.reduceEqDiff, Nat.reduceAdd, Nat.reduceMul, Nat.reduceLeDiff, Nat.reduceBEq, hin]
    rfl

theorem p19 {b : List PV} (hb : MatN b) : Pu rp 19 [.sl b, .sl b] (.p (.bool true)) := by
  refine pu_of rp19 ?_
  have hl := hb.1
  simp only [f19, args0, S1, S2, S3, S4, S5, r_idx, r_mks, ev, resultsV, resL, resV, vl, gt, st, sto, fgt, i64, subCV, fill, setCells, mkAgg, allP, frz, frz1, frzL, frzs, kill, kill1, killL, kills, bnd, unV, bsz, toPs, toP, isPure1, pureL, List.elem, List.replicate, Int.reduceLE, Int.reduceLT, ↓reduceIte, reduceCtorEq, Nat.reduceLT, Nat.reduceEqDiff, Nat.reduceAdd, Nat.reduceMul, Nat.reduceLeDiff, Nat.reduceBEq, bne_self_eq_false]
  refine loop_rule (β := Nat) (fun i => ([(0, .p (.sl b)), (1, .p (.sl b)), (5, i64 i)], [])) (fun i => i ≤ b.length) (fun i => b.length - i) 0 rfl rfl (Nat.zero_le _) ?_
  intro i hi ih
  by_cases hin : (i : Int) < b.length
  · obtain ⟨r, hx, hr⟩ := hb.2 i (by omega)
    simp only [S1, S2, S3, S4, S5, r_idx, r_mks, ev, resultsV, resL, resV, vl, gt, st, sto, fgt, i64, subCV, fill, setCells, mkAgg, allP, frz, frz1, frzL, frzs, kill, kill1, killL, kills, bnd, unV, bsz, toPs, toP, isPure1, pureL, List.elem, List.replicate, Int.reduceLE, Int.reduceLT, ↓reduceIte, reduceCtorEq, Nat.reduceLT, Nat.reduceEqDiff, Nat.reduceAdd, Nat.reduceMul, Nat.reduceLeDiff, Nat.reduceBEq, hin, hx, kp2 (p57 hr), unV, Bool.not_true, Int.natCast_nonneg, Int.toNat_natCast, IntWalk.i64_in ((i : Int) + 1) (by omega)]
    refine ih (i + 1) _ (by omega) (by omega) ?_
    rfl
  · simp only [S1, S2, S3, S4, S5, r_idx, r_mks, ev, resultsV, resL, resV, vl, gt, st, sto, fgt, i64, subCV, fill, setCells, mkAgg, allP, frz, frz1, frzL, frzs, kill, kill1, killL, kills, bnd, unV, bsz, toPs, toP, isPure1, pureL, List.elem, List.replicate, Int.reduceLE, Int.reduceLT, ↓reduceIte, reduceCtorEq, Nat.reduceLT, Nat.reduceEqDiff, Nat.reduceAdd, Nat.reduceMul, Nat.reduceLeDiff, Nat.reduceBEq, hin]
    rfl

/-! ### a seed -/

/-- a seed's next state -/
def nz (z : Int) : Int := IntKind.u64.wrap (z + 11400714819323198485)
def xs (x : Int) (k : Int) : Int := IntKind.u64.wrap (BitVec.ofInt IntKind.u64.bits x ^^^ BitVec.ofInt IntKind.u64.bits (x.fdiv (2 ^ min k.toNat IntKind.u64.bits))).toNat
def m1 (x : Int) : Int := IntKind.u64.wrap (xs x 30 * 13787848793156543929)
def m2 (x : Int) : Int := IntKind.u64.wrap (xs x 27 * 10723151780598845931)
def ot (z below : Int) : Int := (xs (m2 (m1 (nz z))) 31).tmod below


theorem fn104 {z below : Int} (hb : below ≠ 0) {b : Nat} {σ : Store} (hσ : σ[b]? = some (.kblk 1 [.p (.int .u64 z)])) {Q : CV → Store → Prop}
    (hq : Q (.p (.int .u64 (ot z below))) (σ.set b (.kblk 1 [.p (.int .u64 (nz z))]))) : Rn rp 104 [.p (.int .u64 below), .ptr b 0 0] σ Q := by
  rw [rn_of rp104]
  have hlt : b < σ.length := (List.getElem?_eq_some_iff.1 hσ).1
  simp only [f104, args0, S1, S2, S3, S4, S5, r_idx, r_mks, ev, resultsV, resL, resV, vl, gt, st, sto, fgt, i64, subCV, fill, setCells, mkAgg, allP, frz, frz1, frzL, frzs, kill, kill1, killL, kills, bnd, unV, bsz, toPs, toP, isPure1, pureL, List.elem, List.replicate, Int.reduceLE, Int.reduceLT, ↓reduceIte, reduceCtorEq, Nat.reduceLT, Nat.reduceEqDiff, Nat.reduceAdd, Nat.reduceMul, Nat.reduceLeDiff, Nat.reduceBEq, hσ, binV_rem hb, List.getElem?_set_self, hlt]
  exact hq

theorem fn50 {z below : Int} (hb : below ≠ 0) {b : Nat} {σ : Store} (hσ : σ[b]? = some (.kblk 1 [.p (.int .u64 z)])) {Q : CV → Store → Prop}
    (hq : Q (.p (.int .u64 (ot z below))) (σ.set b (.kblk 1 [.p (.int .u64 (nz z))]))) : Rn rp 50 [.ptr b 0 0, .p (.int .u64 below)] σ Q := by
  rw [rn_of rp50]
  have hlt : b < σ.length := (List.getElem?_eq_some_iff.1 hσ).1
  simp only [f50, args0, S1, S2, S3, S4, S5, r_idx, r_mks, ev, resultsV, resL, resV, vl, gt, st, sto, fgt, i64, subCV, fill, setCells, mkAgg, allP, frz, frz1, frzL, frzs, kill, kill1, killL, kills, bnd, unV, bsz, toPs, toP, isPure1, pureL, List.elem, List.replicate, Int.reduceLE, Int.reduceLT, ↓reduceIte, reduceCtorEq, Nat.reduceLT, Nat.reduceEqDiff, Nat.reduceAdd, Nat.reduceMul, Nat.reduceLeDiff, Nat.reduceBEq, hσ, binV_rem hb, List.getElem?_set_self, hlt]
  exact hq

theorem fn49 {z : Int} {σ : Store} {Q : CV → Store → Prop} (hq : Q (.fn 104 [.ptr σ.length 0 0]) (σ ++ [.kblk 1 [.p (.int .u64 z)]])) : Rn rp 49 [.p (.int .u64 z)] σ Q := by
  rw [rn_of rp49]
  simp only [f49, args0, S1, S2, S3, S4, S5, r_idx, r_mks, ev, resultsV, resL, resV, vl, gt, st, sto, fgt, i64, subCV, fill, setCells, mkAgg, allP, frz, frz1, frzL, frzs, kill, kill1, killL, kills, bnd, unV, bsz, toPs, toP, isPure1, pureL, List.elem, List.replicate, Int.reduceLE, Int.reduceLT, ↓reduceIte, reduceCtorEq, Nat.reduceLT, Nat.reduceEqDiff, Nat.reduceAdd, Nat.reduceMul, Nat.reduceLeDiff, Nat.reduceBEq]
  exact hq


section
variable {rs : List RRes} {base : Nat} {d : Option Nat} {l : List LOp} {dr : Dr} {ks : List KI} {e : Env} {σ : Store} {Q : CV → Store → Prop} {z below : Int} {b : Nat}
theorem k49 : KC rp rs base .keep 49 [.p (.int .u64 z)] d l dr ks e σ Q = ExR rp rs base l dr ks (sto d (.fn 104 [.ptr σ.length 0 0]) e) (σ ++ [.kblk 1 [.p (.int .u64 z)]]) Q := kc_keep (fn49 ⟨rfl, rfl⟩)
theorem k104 (hσ : σ[b]? = some (.kblk 1 [.p (.int .u64 z)])) (hb : below ≠ 0) (hw : Wf σ) : KC rp rs base .full 104 [.p (.int .u64 below), .ptr b 0 0] d l dr ks e σ Q =
    ExR rp rs base l dr ks (sto d (.p (.int .u64 (ot z below))) e) (σ.set b (.kblk 1 [.p (.int .u64 (nz z))])) Q :=
  kc_full (fn104 hb hσ ⟨by rw [List.take_of_length_le (by simp)], by have := (hw.set (b := b) (x := .kblk 1 [.p (.int .u64 (nz z))]) rfl).all; rwa [List.length_set] at this, rfl⟩)
theorem k50 (hσ : σ[b]? = some (.kblk 1 [.p (.int .u64 z)])) (hb : below ≠ 0) (hw : Wf σ) : KC rp rs base .full 50 [.ptr b 0 0, .p (.int .u64 below)] d l dr ks e σ Q =
    ExR rp rs base l dr ks (sto d (.p (.int .u64 (ot z below))) e) (σ.set b (.kblk 1 [.p (.int .u64 (nz z))])) Q :=
  kc_full (fn50 hb hσ ⟨by rw [List.take_of_length_le (by simp)], by have := (hw.set (b := b) (x := .kblk 1 [.p (.int .u64 (nz z))]) rfl).all; rwa [List.length_set] at this, rfl⟩)
end

def zst (z : Int) : Nat → Int
  | 0 => z
  | n + 1 => nz (zst z n)
def otn (z : Int) (q : Nat) : Nat := (ot z q).toNat
theorem ot_nonneg {z below : Int} : 0 ≤ ot z below := by
  unfold ot xs
  refine Int.tmod_nonneg _ ?_
  rw [IntKind.wrap_u64]
  omega
theorem ot_eq {z : Int} {q : Nat} : ot z q = ((otn z q : Nat) : Int) := (Int.toNat_of_nonneg ot_nonneg).symm
theorem otn_lt {z : Int} {q : Nat} (h : 0 < q) : otn z q < q := by
  have h1 : ot z q < q := by unfold ot; exact Int.tmod_lt_of_pos _ (by omega)
  have := ot_eq (z := z) (q := q)
  omega

section
variable {rs : List RRes} {base : Nat} {d : Option Nat} {l : List LOp} {dr : Dr} {ks : List KI} {e : Env} {σ : Store} {Q : CV → Store → Prop} {z : Int} {q b : Nat}
theorem k104' (hσ : σ[b]? = some (.kblk 1 [.p (.int .u64 z)])) (hb : 0 < q) (hw : Wf σ) : KC rp rs base .full 104 [.p (.int .u64 q), .ptr b 0 0] d l dr ks e σ Q =
    ExR rp rs base l dr ks (sto d (.p (.int .u64 (otn z q : Nat))) e) (σ.set b (.kblk 1 [.p (.int .u64 (nz z))])) Q := by rw [k104 hσ (by omega) hw, ot_eq]
theorem k50' (hσ : σ[b]? = some (.kblk 1 [.p (.int .u64 z)])) (hb : 0 < q) (hw : Wf σ) : KC rp rs base .full 50 [.ptr b 0 0, .p (.int .u64 q)] d l dr ks e σ Q =
    ExR rp rs base l dr ks (sto d (.p (.int .u64 (otn z q : Nat))) e) (σ.set b (.kblk 1 [.p (.int .u64 (nz z))])) Q := by rw [k50 hσ (by omega) hw, ot_eq]
end

theorem two_words {v : Nat} (h : v < LB * LB) : IntKind.u32.wrap (v : Int) = ((v % LB : Nat) : Int) ∧ IntKind.u32.wrap ((v : Int).fdiv (2 ^ min (Int.toNat 32) IntKind.u64.bits)) = ((v / LB : Nat) : Int) := by
  have h1 : ((2 : Int) ^ min (Int.toNat 32) IntKind.u64.bits) = 4294967296 := by decide
  rw [h1, IntKind.wrap_u32, IntKind.wrap_u32, Int.fdiv_eq_ediv_of_nonneg _ (by decide)]
  unfold LB at h ⊢
  omega

theorem p56 {v : Nat} (h : v < LB * LB) : Pu rp 56 [.int .u64 (v : Int)] (.p (mk false v)) := by
  refine pu_of rp56 ?_
  have hw := two_words h
  have hp := (p68 (neg := false) (lim_two h) (by simp)).lift base_le
  rw [val_two h] at hp
  simp only [f56, args0, S1, S2, S3, S4, S5, r_idx, r_mks, ev, resultsV, resL, resV, vl, gt, st, sto, fgt, i64, subCV, fill, setCells, mkAgg, allP, frz, frz1, frzL, frzs, kill, kill1, killL, kills, bnd, unV, bsz, toPs, toP, isPure1, pureL, List.elem, List.replicate, Int.reduceLE, Int.reduceLT, ↓reduceIte, reduceCtorEq, Nat.reduceLT, Nat.reduceEqDiff, Nat.reduceAdd, Nat.reduceMul, Nat.reduceLeDiff, Nat.reduceBEq, hw.1, hw.2, two_lm, lm_sz, kf_agg hp]
  rfl


section
variable {rp : RProg} {rs : List RRes} {base : Nat} {d : Option Nat} {l : List LOp} {dr : Dr} {ks : List KI} {e : Env} {σ : Store} {Q : CV → Store → Prop} {sz : Nat} {c : CV} {es : List PV}
theorem kpk_gl {f : Nat} {r u : CV} (h : Pu rp f [.sl es] r) (hg : GL σ sz c es) (hu : scal (some r) = some u) : KC rp rs base .peek f [c] d l dr ks e σ Q = ExR rp rs base l dr ks (sto d u e) σ Q :=
  kc_peek h (by simp only [frzs, hg.frz, Option.map_some]) hu
end
end Go.Proofs.Ytdieenbfdeaffaa.VKs

namespace Go.Proofs.Ytdieenbfdeaffaa.VKs
open Go Vpi
open VBn hiding rp tab rp_ok all_ok mixed sim Big
set_option maxRecDepth 100000
set_option linter.unusedSimpArgs false
set_option linter.unusedVariables false

theorem rp116 : rp 116 = some f116 := rfl
theorem rp114 : rp 114 = some f114 := rfl
theorem rp115 : rp 115 = some f115 := rfl
theorem rp94 : rp 94 = some f94 := rfl
theorem rp70 : rp 70 = some f70 := rfl
theorem rp78 : rp 78 = some f78 := rfl
theorem rp120 : rp 120 = some f120 := rfl
theorem rp127 : rp 127 = some f127 := rfl
theorem rp128 : rp 128 = some f128 := rfl
theorem rp156 : rp 156 = some f156 := rfl
theorem rp87 : rp 87 = some f87 := rfl
theorem rp74 : rp 74 = some f74 := rfl
theorem rp89 : rp 89 = some f89 := rfl
theorem rp90 : rp 90 = some f90 := rfl
theorem rp92 : rp 92 = some f92 := rfl
theorem rp129 : rp 129 = some f129 := rfl
theorem rp130 : rp 130 = some f130 := rfl
theorem rp131 : rp 131 = some f131 := rfl

/-! ### stores that grow -/

/-- what stood stays -/
structure Pre (σ ρ : Store) : Prop where
  len : σ.length ≤ ρ.length
  get : ∀ j, j < σ.length → ρ[j]? = σ[j]?

section
variable {σ ρ : Store} {c : CV} {sz : Nat} {es : List PV}
theorem Pre.refl : Pre σ σ := ⟨Nat.le_refl _, fun _ _ => rfl⟩
theorem Pre.push (h : Pre σ ρ) {l : Store} : Pre σ (ρ ++ l) := ⟨by rw [List.length_append]; exact Nat.le_trans h.len (Nat.le_add_right _ _), fun j hj => by rw [get_left (Nat.lt_of_lt_of_le hj h.len), h.get j hj]⟩
theorem Pre.set (h : Pre σ ρ) {b : Nat} {x : Blk} (hb : σ.length ≤ b) : Pre σ (ρ.set b x) := ⟨by rw [List.length_set]; exact h.len, fun j hj => by rw [get_ne (by omega), h.get j hj]⟩
theorem Pre.nd (h : Pre σ ρ) (hc : ∀ b o n, c = .own b o n → σ.length ≤ b) : Pre σ (nd ρ c) := by
  cases c <;> try exact h
  exact h.set (hc _ _ _ rfl)
theorem Pre.trans {τ : Store} (h : Pre σ ρ) (k : Pre ρ τ) : Pre σ τ := ⟨Nat.le_trans h.len k.len, fun j hj => by rw [k.get j (Nat.lt_of_lt_of_le hj h.len), h.get j hj]⟩
theorem Pre.take (h : Pre σ ρ) : ρ.take σ.length = σ := by
  apply List.ext_getElem?
  intro j
  rw [List.getElem?_take]
  split
  · exact h.get j (by assumption)
  · rw [List.getElem?_eq_none (by omega)]
theorem Pre.nil : Pre [] ρ := ⟨Nat.zero_le _, fun j hj => by simp at hj⟩
theorem nd_left {l : Store} (h : GL ρ sz c es) : nd (ρ ++ l) c = nd ρ c ++ l := by
  have hlt := h.lt.2
  cases c <;> try rfl
  exact set_left (hlt _ _ _ rfl)

theorem back_ge {b : Nat} {n base : Nat} (hb : ρ[b]? = some (.prow sz es)) (hn : n = es.length) (h : base ≤ b) : back base ρ (.own b 0 n) = some (.p (.sl es)) := by
  have h1 : ¬ b < base := by omega
  simp only [back, back1, h1, if_false, frz1_own hb hn, Option.map_some]

section
variable {rp : RProg} {rs : List RRes} {base : Nat} {d : Option Nat} {l : List LOp} {dr : Dr} {ks : List KI} {e : Env} {Q : CV → Store → Prop} {xs : List PV}

/-- append of what bslice just laid, behind another block -/
theorem r_app_1 {a : Blk} {s x : Opd} {bytes : Nat} (h : GL ρ sz c es) (hc : (es.length + xs.length) * bytes ≤ 140737488355328) (hs : vl e s = c) (hx : vl e x = .own (ρ.length + 1) 0 xs.length) (hz : allSz sz xs = true) :
    ExR rp rs base (⟨d, none, none, .append sz bytes s x⟩ :: l) dr ks e (ρ ++ [a, .prow sz xs]) Q = ExR rp rs base l dr ks (sto d (.own (ρ.length + 2) 0 (es.length + xs.length)) e) (nd ρ c ++ [a, .prow sz xs, .prow sz (es ++ xs)]) Q := by
  have hl : (ρ ++ [a]).length = ρ.length + 1 := by simp
  have := r_app (rp := rp) (rs := rs) (base := base) (d := d) (l := l) (dr := dr) (ks := ks) (e := e) (Q := Q) (s := s) (x := x) (h.left (τ := [a])) hc hs (by rw [hl]; exact hx) hz
  rw [hl, nd_left h, List.append_assoc, List.append_assoc] at this
  exact this

theorem kc_full' {f : Nat} {args : List CV} (h : Rn rp f args σ fun v τ => ((τ.take σ.length).all (blkBelow σ.length)) = true ∧ ∃ r, back σ.length τ v = some r ∧ ExR rp rs base l dr ks (sto d r e) (τ.take σ.length) Q) :
    KC rp rs base .full f args d l dr ks e σ Q := cl_full h
end
end

/-! ### lists of numbers -/

def zr (r : List Int) : List PV := r.map zi
def zm (M : List (List Int)) : List PV := M.map fun r => .sl (zr r)
theorem zr_len {r : List Int} : (zr r).length = r.length := by simp [zr]
theorem zm_len {M : List (List Int)} : (zm M).length = M.length := by simp [zm]
theorem zr_get {r : List Int} {i : Nat} {x : Int} (h : r[i]? = some x) : (zr r)[i]? = some (zi x) := by simp [zr, h]
theorem zm_get {M : List (List Int)} {i : Nat} {r : List Int} (h : M[i]? = some r) : (zm M)[i]? = some (.sl (zr r)) := by simp [zm, h]
theorem zr_app {r s : List Int} : zr (r ++ s) = zr r ++ zr s := by simp [zr]
theorem zm_app {r s : List (List Int)} : zm (r ++ s) = zm r ++ zm s := by simp [zm]
theorem zm_set {M : List (List Int)} {i : Nat} {r : List Int} : (zm M).set i (.sl (zr r)) = zm (M.set i r) := by simp [zm, List.map_set]
theorem take_suc {α : Type} {l : List α} {i : Nat} {x : α} (h : l[i]? = some x) : l.take (i + 1) = l.take i ++ [x] := by
  obtain ⟨h1, h2⟩ := List.getElem?_eq_some_iff.1 h
  rw [List.take_add_one, h]; rfl
theorem zr_suc {r : List Int} {i : Nat} {x : Int} (h : r[i]? = some x) : zr (r.take (i + 1)) = zr (r.take i) ++ [zi x] := by rw [take_suc h, zr_app]; rfl
theorem zm_suc {M : List (List Int)} {i : Nat} {r : List Int} (h : M[i]? = some r) : zm (M.take (i + 1)) = zm (M.take i) ++ [.sl (zr r)] := by rw [take_suc h, zm_app]; rfl

/-- the numbers of a row -/
def NL (r : List PV) (xs : List Int) : Prop := r.length = xs.length ∧ ∀ (i : Nat) (p : PV) (x : Int), r[i]? = some p → xs[i]? = some x → Nu p x
/-- the numbers of a matrix -/
def ML (b : List PV) (M : List (List Int)) : Prop := b.length = M.length ∧ ∀ (i : Nat) (p : PV) (r : List Int), b[i]? = some p → M[i]? = some r → ∃ q, p = .sl q ∧ NL q r ∧ q.length ≤ 2000000

theorem NL.ix {r : List PV} {xs : List Int} (h : NL r xs) {i : Nat} (hi : i < r.length) : ∃ p x, r[i]? = some p ∧ xs[i]? = some x ∧ Nu p x := by
  have h2 : i < xs.length := by rw [← h.1]; exact hi
  exact ⟨r[i], xs[i], by simp, by simp, h.2 i _ _ (by simp) (by simp)⟩
theorem ML.ix {b : List PV} {M : List (List Int)} (h : ML b M) {i : Nat} (hi : i < b.length) : ∃ q r, b[i]? = some (.sl q) ∧ M[i]? = some r ∧ NL q r ∧ q.length ≤ 2000000 := by
  have h2 : i < M.length := by rw [← h.1]; exact hi
  obtain ⟨q, h3, h4, h5⟩ := h.2 i b[i] M[i] (by simp) (by simp)
  exact ⟨q, M[i], by rw [← h3]; simp, by simp, h4, h5⟩
def SzL (r : List Int) : Prop := ∀ (i : Nat) (x : Int), r[i]? = some x → Sz x
theorem NL.zr {r : List Int} (h : SzL r) : NL (zr r) r := by
  refine ⟨zr_len, fun i p x hp hx => ?_⟩
  rw [zr_get hx] at hp
  cases hp
  exact Nu.zi (h i x hx)
theorem ML.zm {M : List (List Int)} (h : ∀ (i : Nat) (r : List Int), M[i]? = some r → SzL r ∧ r.length ≤ 2000000) : ML (zm M) M := by
  refine ⟨zm_len, fun i p r hp hr => ?_⟩
  rw [zm_get hr] at hp
  cases hp
  exact ⟨_, rfl, .zr (h i r hr).1, by rw [zr_len]; exact (h i r hr).2⟩

/-! ### each -/

/-- what a closure does with a number: the store stays -/
def Does (σ : Store) (g : Nat) (cap : List CV) (p : PV) (y : Int) : Prop :=
  ∀ (ρ : Store), Pre σ ρ → ∀ {rs : List RRes} {base : Nat} {d : Option Nat} {l : List LOp} {dr : Dr} {ks : List KI} {e : Env} {Q : CV → Store → Prop},
    KC rp rs base .cell g (.p p :: cap) d l dr ks e ρ Q = ExR rp rs base l dr ks (sto d (.p (zi y)) e) ρ Q

theorem n116 {σ : Store} {g : Nat} {cap : List CV} {r : List PV} {ys : List Int} (hw : Wf σ) (hl : r.length = ys.length) (hm : r.length ≤ 2000000)
    (hg : ∀ i, i < r.length → ∃ p y, r[i]? = some p ∧ ys[i]? = some y ∧ (∃ a b, p = .agg [.bool a, .sl b]) ∧ Does σ g cap p y) {Q : CV → Store → Prop}
    (hQ : ∀ ρ b, Pre σ ρ → Wf ρ → σ.length ≤ b → ρ[b]? = some (.prow 2 (zr ys)) → Q (.own b 0 ys.length) ρ) : Rn rp 116 [.p (.sl r), .fn g cap] σ Q := by
  rw [rn_of rp116]
  have m1 : ((32 : Nat) : Int) * (r.length : Int) ≤ 281474976710656 := by omega
  have m2 : (r.length : Int) ≤ 9223372036854775807 := by omega
  have i0 : Int.toNat 0 = 0 := rfl
  simp only [f116, args0, S1, S2, S3, S4, S5, r_idx, r_mks, ev, resultsV, resL, resV, vl, gt, st, sto, fgt, i64, subCV, fill, setCells, mkAgg, allP, frz, frz1, frzL, frzs, kill, kill1, killL, kills, bnd, unV, bsz, toPs, toP, isPure1, pureL, List.elem, List.replicate, Int.reduceLE, Int.reduceLT, ↓reduceIte, reduceCtorEq, Nat.reduceLT, Nat.reduceEqDiff, Nat.reduceAdd, Nat.reduceMul, Nat.reduceLeDiff, Nat.reduceBEq, Int.natCast_nonneg, m1, m2, i0, Int.le_refl]
  refine loop_rule (β := Nat × Store × Nat) (fun t => ([(1, .fn g cap), (5, .own t.2.2 0 t.1), (11, .p (.sl r)), (12, i64 r.length), (13, i64 t.1)], t.2.1))
    (fun t => t.1 ≤ r.length ∧ Pre σ t.2.1 ∧ Wf t.2.1 ∧ σ.length ≤ t.2.2 ∧ t.2.1[t.2.2]? = some (.prow 2 (zr (ys.take t.1)))) (fun t => r.length - t.1) ((0, σ ++ [.prow 2 []], σ.length) : Nat × Store × Nat) rfl rfl
    ⟨Nat.zero_le _, Pre.refl.push, hw.push rfl, Nat.le_refl _, by rw [get_app0]; rfl⟩ ?_
  rintro ⟨i, ρ, b⟩ ⟨hi, hp, hwf, hb, hgl⟩ ih
  simp only [] at hi hp hwf hb hgl ih ⊢
  by_cases hin : (i : Int) < r.length
  · obtain ⟨p, y, hpi, hyi, ⟨a1, a2, rfl⟩, hd⟩ := hg i (by omega)
    have w1 : IntKind.i64.wrap ((i : Int) + 1) = ((i + 1 : Nat) : Int) := by rw [IntWalk.i64_in _ (by omega)]; omega
    have htl : (zr (ys.take i)).length = i := by rw [zr_len, List.length_take]; omega
    have hG : GL ρ 2 (.own b 0 i) (zr (ys.take i)) := .own hgl htl.symm
    have hc : ((zr (ys.take i)).length + [zi y].length) * 32 ≤ 140737488355328 := by rw [htl]; simp; omega
    have hd' := fun {rs base d l dr ks e Q} => hd (ρ ++ [.kblk 2 [.p (.bool a1), .p (.sl a2)]]) hp.push (rs := rs) (base := base) (d := d) (l := l) (dr := dr) (ks := ks) (e := e) (Q := Q)
    have hA := fun {rp rs base d l dr ks e Q s x} => r_app_1 (rp := rp) (rs := rs) (base := base) (d := d) (l := l) (dr := dr) (ks := ks) (e := e) (Q := Q) (s := s) (x := x) (a := .kblk 2 [.p (.bool a1), .p (.sl a2)]) hG hc
    simp only [S1, S2, S3, S4, S5, r_idx, r_mks, ev, resultsV, resL, resV, vl, gt, st, sto, fgt, i64, subCV, fill, setCells, mkAgg, allP, frz, frz1, frzL, frzs, kill, kill1, killL, kills, bnd, unV, bsz, toPs, toP, isPure1, pureL, List.elem, List.replicate, Int.reduceLE, Int.reduceLT, ↓reduceIte, reduceCtorEq, Nat.reduceLT, Nat.reduceEqDiff, Nat.reduceAdd, Nat.reduceMul, Nat.reduceLeDiff, Nat.reduceBEq, hin, hpi, Int.natCast_nonneg, Int.toNat_natCast, hd', hA, ← zr_suc hyi, htl, w1, nd]
    refine ih (i + 1, ρ.set b .dead ++ [.kblk 2 [.p (.bool a1), .p (.sl a2)], .prow 2 [zi y], .prow 2 (zr (ys.take (i + 1)))], ρ.length + 2) _ ⟨by simp only []; omega, (hp.set hb).push, ?_, ?_, ?_⟩ (by simp only []; omega) ?_
    · have h1 := (((hwf.set (b := b) (x := .dead) rfl).push (x := .kblk 2 [.p (.bool a1), .p (.sl a2)]) rfl).push (x := .prow 2 [zi y]) rfl).push (x := .prow 2 (zr (ys.take (i + 1)))) rfl
      simpa [List.append_assoc] using h1
    · simp only []; exact Nat.le_trans hp.len (Nat.le_add_right _ _)
    · simp only []
      rw [show ρ.length + 2 = (ρ.set b Blk.dead).length + 2 by rw [List.length_set], get_app]; rfl
    · rfl
  · obtain rfl : i = r.length := by omega
    simp only [S1, S2, S3, S4, S5, r_idx, r_mks, ev, resultsV, resL, resV, vl, gt, st, sto, fgt, i64, subCV, fill, setCells, mkAgg, allP, frz, frz1, frzL, frzs, kill, kill1, killL, kills, bnd, unV, bsz, toPs, toP, isPure1, pureL, List.elem, List.replicate, Int.reduceLE, Int.reduceLT, ↓reduceIte, reduceCtorEq, Nat.reduceLT, Nat.reduceEqDiff, Nat.reduceAdd, Nat.reduceMul, Nat.reduceLeDiff, Nat.reduceBEq, hin]
    rw [List.take_of_length_le (by omega)] at hgl
    rw [hl]
    exact hQ ρ b hp hwf hb hgl

theorem does0 {σ : Store} {g : Nat} {p : PV} {y : Int} (h : Pu rp g [p] (.p (zi y))) : Does σ g [] p y := by
  intro ρ _ rs base d l dr ks e Q
  exact kc_cell0 h rfl rfl

theorem p94 {p : PV} {x : Int} (h : Nu p x) : Pu rp 94 [p] (.p (zi x)) := by
  obtain ⟨n1, a, rfl, ha, hna, rfl⟩ := h
  refine pu_of rp94 ?_
  rw [CapN_eq] at hna
  have k := (p105 (neg := n1) ha (by omega)).lift base_le
  rw [mk_val] at k
  simp only [f94, args0, S1, S2, S3, S4, S5, r_idx, r_mks, ev, resultsV, resL, resV, vl, gt, st, sto, fgt, i64, subCV, fill, setCells, mkAgg, allP, frz, frz1, frzL, frzs, kill, kill1, killL, kills, bnd, unV, bsz, toPs, toP, isPure1, pureL, List.elem, List.replicate, Int.reduceLE, Int.reduceLT, ↓reduceIte, reduceCtorEq, Nat.reduceLT, Nat.reduceEqDiff, Nat.reduceAdd, Nat.reduceMul, Nat.reduceLeDiff, Nat.reduceBEq, kp2 k]
  rfl

theorem Nu.agg {p : PV} {x : Int} (h : Nu p x) : ∃ a b, p = .agg [.bool a, .sl b] := by
  obtain ⟨n1, a, rfl, -⟩ := h
  exact ⟨_, _, rfl⟩

theorem p115 {r : List PV} {xs : List Int} (h : NL r xs) (hm : r.length ≤ 2000000) : Pu rp 115 [.sl r] (.p (.sl (zr xs))) := by
  refine pu_of rp115 ?_
  simp only [f115, args0, S1, S2, S3, S4, S5, r_idx, r_mks, ev, resultsV, resL, resV, vl, gt, st, sto, fgt, i64, subCV, fill, setCells, mkAgg, allP, frz, frz1, frzL, frzs, kill, kill1, killL, kills, bnd, unV, bsz, toPs, toP, isPure1, pureL, List.elem, List.replicate, Int.reduceLE, Int.reduceLT, ↓reduceIte, reduceCtorEq, Nat.reduceLT, Nat.reduceEqDiff, Nat.reduceAdd, Nat.reduceMul, Nat.reduceLeDiff, Nat.reduceBEq]
  refine kc_full' (n116 Wf.nil h.1 hm (fun i hi => ?_) fun ρ b hp hwf hb hg => ?_)
  · obtain ⟨p, x, h1, h2, h3⟩ := h.ix hi
    exact ⟨p, x, h1, h2, Nu.agg h3, does0 (p94 h3)⟩
  · refine ⟨rfl, _, back_ge hg zr_len.symm (Nat.zero_le _), ?_⟩
    simp only [S1, S2, S3, S4, S5, r_idx, r_mks, ev, resultsV, resL, resV, vl, gt, st, sto, fgt, i64, subCV, fill, setCells, mkAgg, allP, frz, frz1, frzL, frzs, kill, kill1, killL, kills, bnd, unV, bsz, toPs, toP, isPure1, pureL, List.elem, List.replicate, Int.reduceLE, Int.reduceLT, ↓reduceIte, reduceCtorEq, Nat.reduceLT, Nat.reduceEqDiff, Nat.reduceAdd, Nat.reduceMul, Nat.reduceLeDiff, Nat.reduceBEq]
    rfl

/-- mat.Form keeps its block -/
theorem n70 {b : List PV} {M : List (List Int)} {σ : Store} (hw : Wf σ) (h : ML b M) (hm : b.length ≤ 2000000) {Q : CV → Store → Prop}
    (hQ : ∀ ρ k, Pre σ ρ → Wf ρ → σ.length ≤ k → ρ[k]? = some (.prow 1 (zm M)) → Q (.own k 0 M.length) ρ) : Rn rp 70 [.p (.sl b)] σ Q := by
  rw [rn_of rp70]
  simp only [f70, args0, S1, S2, S3, S4, S5, r_idx, r_mks, ev, resultsV, resL, resV, vl, gt, st, sto, fgt, i64, subCV, fill, setCells, mkAgg, allP, frz, frz1, frzL, frzs, kill, kill1, killL, kills, bnd, unV, bsz, toPs, toP, isPure1, pureL, List.elem, List.replicate, Int.reduceLE, Int.reduceLT, ↓reduceIte, reduceCtorEq, Nat.reduceLT, Nat.reduceEqDiff, Nat.reduceAdd, Nat.reduceMul, Nat.reduceLeDiff, Nat.reduceBEq]
  refine kc_keep' ?_
  rw [rn_of rp114]
  have m1 : ((24 : Nat) : Int) * (b.length : Int) ≤ 281474976710656 := by omega
  have m2 : (b.length : Int) ≤ 9223372036854775807 := by omega
  have i0 : Int.toNat 0 = 0 := rfl
  simp only [f114, args0, S1, S2, S3, S4, S5, r_idx, r_mks, ev, resultsV, resL, resV, vl, gt, st, sto, fgt, i64, subCV, fill, setCells, mkAgg, allP, frz, frz1, frzL, frzs, kill, kill1, killL, kills, bnd, unV, bsz, toPs, toP, isPure1, pureL, List.elem, List.replicate, Int.reduceLE, Int.reduceLT, ↓reduceIte, reduceCtorEq, Nat.reduceLT, Nat.reduceEqDiff, Nat.reduceAdd, Nat.reduceMul, Nat.reduceLeDiff, Nat.reduceBEq, Int.natCast_nonneg, m1, m2, i0, Int.le_refl]
  refine loop_rule (β := Nat × Store × Nat) (fun t => ([(1, .fn 115 []), (5, .own t.2.2 0 t.1), (11, .p (.sl b)), (12, i64 b.length), (13, i64 t.1)], t.2.1))
    (fun t => t.1 ≤ b.length ∧ Pre σ t.2.1 ∧ Wf t.2.1 ∧ σ.length ≤ t.2.2 ∧ t.2.1[t.2.2]? = some (.prow 1 (zm (M.take t.1)))) (fun t => b.length - t.1) ((0, σ ++ [.prow 1 []], σ.length) : Nat × Store × Nat) rfl rfl
    ⟨Nat.zero_le _, Pre.refl.push, hw.push rfl, Nat.le_refl _, by rw [get_app0]; rfl⟩ ?_
  rintro ⟨i, ρ, k⟩ ⟨hi, hp, hwf, hb, hgl⟩ ih
  simp only [] at hi hp hwf hb hgl ih ⊢
  by_cases hin : (i : Int) < b.length
  · obtain ⟨q, r, h1, h2, h3, h4⟩ := h.ix (i := i) (by omega)
    have k115 := p115 h3 h4
    have w1 : IntKind.i64.wrap ((i : Int) + 1) = ((i + 1 : Nat) : Int) := by rw [IntWalk.i64_in _ (by omega)]; omega
    have hl := h.1
    have htl : (zm (M.take i)).length = i := by rw [zm_len, List.length_take]; omega
    have hG : GL ρ 1 (.own k 0 i) (zm (M.take i)) := .own hgl htl.symm
    have hc : ((zm (M.take i)).length + [PV.sl (zr r)].length) * 24 ≤ 140737488355328 := by rw [htl]; simp; omega
    simp only [S1, S2, S3, S4, S5, r_idx, r_mks, ev, resultsV, resL, resV, vl, gt, st, sto, fgt, i64, subCV, fill, setCells, mkAgg, allP, frz, frz1, frzL, frzs, kill, kill1, killL, kills, bnd, unV, bsz, toPs, toP, isPure1, pureL, List.elem, List.replicate, Int.reduceLE, Int.reduceLT, ↓reduceIte, reduceCtorEq, Nat.reduceLT, Nat.reduceEqDiff, Nat.reduceAdd, Nat.reduceMul, Nat.reduceLeDiff, Nat.reduceBEq, hin, h1, Int.natCast_nonneg, Int.toNat_natCast, kp1 k115, r_app hG hc, ← zm_suc h2, htl, w1, nd]
    refine ih (i + 1, ρ.set k .dead ++ [.prow 1 [.sl (zr r)], .prow 1 (zm (M.take (i + 1)))], ρ.length + 1) _ ⟨by simp only []; omega, (hp.set hb).push, ?_, ?_, ?_⟩ (by simp only []; omega) ?_
    · have h1 := ((hwf.set (b := k) (x := .dead) rfl).push (x := .prow 1 [.sl (zr r)]) rfl).push (x := .prow 1 (zm (M.take (i + 1)))) rfl
      simpa [List.append_assoc] using h1
    · simp only []; exact Nat.le_trans hp.len (Nat.le_add_right _ _)
    · simp only []
      rw [show ρ.length + 1 = (ρ.set k Blk.dead).length + 1 by rw [List.length_set], get_app]; rfl
    · rfl
  · obtain rfl : i = b.length := by omega
    have hl := h.1
    simp only [S1, S2, S3, S4, S5, r_idx, r_mks, ev, resultsV, resL, resV, vl, gt, st, sto, fgt, i64, subCV, fill, setCells, mkAgg, allP, frz, frz1, frzL, frzs, kill, kill1, killL, kills, bnd, unV, bsz, toPs, toP, isPure1, pureL, List.elem, List.replicate, Int.reduceLE, Int.reduceLT, ↓reduceIte, reduceCtorEq, Nat.reduceLT, Nat.reduceEqDiff, Nat.reduceAdd, Nat.reduceMul, Nat.reduceLeDiff, Nat.reduceBEq, hin]
    rw [List.take_of_length_le (by omega)] at hgl
    rw [hl]
    exact hQ ρ k hp hwf hb hgl

/-! ### Times -/

theorem n120 {a : Bool} {b : List PV} {p : PV} {k x : Int} (hk : Nu (.agg [.bool a, .sl b]) k) (hx : Nu p x) : Rn rp 120 [.p p, .ptr 0 0 0] [.kblk 2 [.p (.bool a), .p (.sl b)]] fun v τ => v = .p (zi (k * x)) ∧ τ[0]? = some (.kblk 2 [.p (.bool a), .p (.sl b)]) := by
  have k63 := (p63' hk hx).lift base_le
  obtain ⟨n1, l1, rfl, -⟩ := hx
  rw [rn_of rp120]
  simp only [f120, args0, S1, S2, S3, S4, S5, r_idx, r_mks, ev, resultsV, resL, resV, vl, gt, st, sto, fgt, i64, subCV, fill, setCells, mkAgg, allP, frz, frz1, frzL, frzs, kill, kill1, killL, kills, bnd, unV, bsz, toPs, toP, isPure1, pureL, List.elem, List.replicate, Int.reduceLE, Int.reduceLT, ↓reduceIte, reduceCtorEq, Nat.reduceLT, Nat.reduceEqDiff, Nat.reduceAdd, Nat.reduceMul, Nat.reduceLeDiff, Nat.reduceBEq, kp2 k63]
  rfl

theorem set_same {α : Type} {l : List α} {i : Nat} {x : α} (h : l[i]? = some x) : l.set i x = l := by
  apply List.ext_getElem?
  intro j
  by_cases hj : i = j
  · subst hj; rw [List.getElem?_set_self (List.getElem?_eq_some_iff.1 h).1, h]
  · rw [List.getElem?_set_ne hj]

theorem p78 {kp : PV} {k : Int} {r : List PV} {xs : List Int} (hk : Nu kp k) (h : NL r xs) (hm : r.length ≤ 2000000) : Pu rp 78 [kp, .sl r] (.p (.sl (zr (xs.map (k * ·))))) := by
  obtain ⟨a, b, rfl⟩ := Nu.agg hk
  refine pu_of rp78 ?_
  simp only [f78, args0, S1, S2, S3, S4, S5, r_idx, r_mks, ev, resultsV, resL, resV, vl, gt, st, sto, fgt, i64, subCV, fill, setCells, mkAgg, allP, frz, frz1, frzL, frzs, kill, kill1, killL, kills, bnd, unV, bsz, toPs, toP, isPure1, pureL, List.elem, List.replicate, Int.reduceLE, Int.reduceLT, ↓reduceIte, reduceCtorEq, Nat.reduceLT, Nat.reduceEqDiff, Nat.reduceAdd, Nat.reduceMul, Nat.reduceLeDiff, Nat.reduceBEq]
  refine kc_full' (n116 (σ := [.kblk 2 [.p (.bool a), .p (.sl b)]]) (ys := xs.map (k * ·)) (Wf.nil.push (x := .kblk 2 [.p (.bool a), .p (.sl b)]) rfl) (by rw [List.length_map]; exact h.1) hm (fun i hi => ?_) fun ρ c hp hwf hb hg => ?_)
  · obtain ⟨p, x, h1, h2, h3⟩ := h.ix hi
    refine ⟨p, k * x, h1, by simp [h2], Nu.agg h3, ?_⟩
    intro ρ hpre rs base d l dr ks e Q
    have h0 : ρ[0]? = some (.kblk 2 [.p (.bool a), .p (.sl b)]) := hpre.get 0 (Nat.lt_succ_self _)
    rw [kc_cell (b := 0) (al := [.p p, .ptr 0 0 0]) rfl h0 rfl rfl (n120 hk h3) rfl, set_same h0]
  · rw [hp.take]
    refine ⟨rfl, _, back_ge hg zr_len.symm hb, ?_⟩
    simp only [S1, S2, S3, S4, S5, r_idx, r_mks, ev, resultsV, resL, resV, vl, gt, st, sto, fgt, i64, subCV, fill, setCells, mkAgg, allP, frz, frz1, frzL, frzs, kill, kill1, killL, kills, bnd, unV, bsz, toPs, toP, isPure1, pureL, List.elem, List.replicate, Int.reduceLE, Int.reduceLT, ↓reduceIte, reduceCtorEq, Nat.reduceLT, Nat.reduceEqDiff, Nat.reduceAdd, Nat.reduceMul, Nat.reduceLeDiff, Nat.reduceBEq]
    rfl

/-! ### Plus, Minus -/

theorem n156 {g : Nat} {F : Int → Int → Int} (hF : ∀ p q x y, Nu p x → Nu q y → Pu rp g [p, q] (.p (zi (F x y)))) {a b : List PV} {xs ys : List Int} (ha : NL a xs) (hb : NL b ys) (hl : a.length = b.length) (hm : a.length ≤ 2000000) (h0 : 0 < a.length) {Q : CV → Store → Prop}
    (hQ : ∀ ρ k, ρ[k]? = some (.prow 2 (zr (List.zipWith F xs ys))) → Q (.tup [.own k 0 a.length, .p (.int .i64 0)]) ρ) : Rn rp 156 [.p (.sl a), .p (.sl b), .fn g []] [] Q := by
  rw [rn_of rp156]
  have e1 : ((a.length : Int) != (b.length : Int)) = false := by rw [hl]; simp
  simp only [f156, args0, S1, S2, S3, S4, S5, r_idx, r_mks, ev, resultsV, resL, resV, vl, gt, st, sto, fgt, i64, subCV, fill, setCells, mkAgg, allP, frz, frz1, frzL, frzs, kill, kill1, killL, kills, bnd, unV, bsz, toPs, toP, isPure1, pureL, List.elem, List.replicate, Int.reduceLE, Int.reduceLT, ↓reduceIte, reduceCtorEq, Nat.reduceLT, Nat.reduceEqDiff, Nat.reduceAdd, Nat.reduceMul, Nat.reduceLeDiff, Nat.reduceBEq, e1]
  have hzl : (List.zipWith F xs ys).length = a.length := by rw [List.length_zipWith, ← ha.1, ← hb.1, hl, Nat.min_self]
  refine loop_rule (β := Nat × Store × CV) (fun t => ([(0, .p (.sl a)), (1, .p (.sl b)), (2, .fn g []), (8, t.2.2), (16, i64 a.length), (17, i64 t.1)], t.2.1))
    (fun t => t.1 ≤ a.length ∧ GL t.2.1 2 t.2.2 (zr ((List.zipWith F xs ys).take t.1))) (fun t => a.length - t.1) ((0, [], .nils) : Nat × Store × CV) rfl rfl ⟨Nat.zero_le _, .nil⟩ ?_
  rintro ⟨i, ρ, c⟩ ⟨hi, hG⟩ ih
  simp only [] at hi hG ih ⊢
  by_cases hin : (i : Int) < a.length
  · obtain ⟨p, x, p1, p2, p3⟩ := ha.ix (i := i) (by omega)
    obtain ⟨q, y, q1, q2, q3⟩ := hb.ix (i := i) (by omega)
    have kF := hF p q x y p3 q3
    obtain ⟨_, _, rfl⟩ := Nu.agg p3
    obtain ⟨_, _, rfl⟩ := Nu.agg q3
    have hz : (List.zipWith F xs ys)[i]? = some (F x y) := by rw [List.getElem?_zipWith, p2, q2]
    have w1 : IntKind.i64.wrap ((i : Int) + 1) = ((i + 1 : Nat) : Int) := by rw [IntWalk.i64_in _ (by omega)]; omega
    have htl : (zr ((List.zipWith F xs ys).take i)).length = i := by rw [zr_len, List.length_take]; omega
    have hc : ((zr ((List.zipWith F xs ys).take i)).length + [zi (F x y)].length) * 32 ≤ 140737488355328 := by rw [htl]; simp; omega
    have hA := fun {rp rs base d l dr ks e Q s x} hb => r_app_sl (rp := rp) (rs := rs) (base := base) (d := d) (l := l) (dr := dr) (ks := ks) (e := e) (Q := Q) (s := s) (x := x) hb hG hc
    simp only [S1, S2, S3, S4, S5, r_idx, r_mks, ev, resultsV, resL, resV, vl, gt, st, sto, fgt, i64, subCV, fill, setCells, mkAgg, allP, frz, frz1, frzL, frzs, kill, kill1, killL, kills, bnd, unV, bsz, toPs, toP, isPure1, pureL, List.elem, List.replicate, Int.reduceLE, Int.reduceLT, ↓reduceIte, reduceCtorEq, Nat.reduceLT, Nat.reduceEqDiff, Nat.reduceAdd, Nat.reduceMul, Nat.reduceLeDiff, Nat.reduceBEq, hin, p1, q1, Int.natCast_nonneg, Int.toNat_natCast, kp2 kF, push_sl, hA rfl, ← zr_suc hz, htl, w1]
    refine ih (i + 1, nd ρ c ++ [.prow 2 [zi (F x y)], .prow 2 (zr ((List.zipWith F xs ys).take (i + 1)))], .own (ρ.length + 1) 0 (i + 1)) _ ⟨by simp only []; omega, ?_⟩ (by simp only []; omega) ?_
    · exact GL.new2 (by rw [zr_len, List.length_take]; omega) rfl
    · rfl
  · obtain rfl : i = a.length := by omega
    rw [List.take_of_length_le (by omega)] at hG
    rcases hG with ⟨rfl, h⟩ | ⟨k, rfl, hk⟩
    · have := congrArg List.length h
      rw [zr_len, hzl, List.length_nil] at this
      omega
    · simp only [S1, S2, S3, S4, S5, r_idx, r_mks, ev, resultsV, resL, resV, vl, gt, st, sto, fgt, i64, subCV, fill, setCells, mkAgg, allP, frz, frz1, frzL, frzs, kill, kill1, killL, kills, bnd, unV, bsz, toPs, toP, isPure1, pureL, List.elem, List.replicate, Int.reduceLE, Int.reduceLT, ↓reduceIte, reduceCtorEq, Nat.reduceLT, Nat.reduceEqDiff, Nat.reduceAdd, Nat.reduceMul, Nat.reduceLeDiff, Nat.reduceBEq, hin]
      rw [zr_len, hzl]
      exact hQ _ _ hk

theorem p127 {a b : List PV} {xs ys : List Int} (ha : NL a xs) (hb : NL b ys) (hl : a.length = b.length) (hm : a.length ≤ 2000000) (h0 : 0 < a.length) :
    Pu rp 127 [.sl a, .sl b] (.tup [.p (.sl (zr (List.zipWith (· + ·) xs ys))), .p (.int .i64 0)]) := by
  refine pu_of rp127 ?_
  simp only [f127, args0, S1, S2, S3, S4, S5, r_idx, r_mks, ev, resultsV, resL, resV, vl, gt, st, sto, fgt, i64, subCV, fill, setCells, mkAgg, allP, frz, frz1, frzL, frzs, kill, kill1, killL, kills, bnd, unV, bsz, toPs, toP, isPure1, pureL, List.elem, List.replicate, Int.reduceLE, Int.reduceLT, ↓reduceIte, reduceCtorEq, Nat.reduceLT, Nat.reduceEqDiff, Nat.reduceAdd, Nat.reduceMul, Nat.reduceLeDiff, Nat.reduceBEq]
  refine kc_full' (n156 (F := (· + ·)) (fun p q x y h1 h2 => (p145 h1 h2).lift base_le) ha hb hl hm h0 fun ρ k hk => ?_)
  have hn : a.length = (zr (List.zipWith (· + ·) xs ys)).length := by rw [zr_len, List.length_zipWith, ← ha.1, ← hb.1, hl, Nat.min_self]
  refine ⟨rfl, .tup [.p (.sl (zr (List.zipWith (· + ·) xs ys))), .p (.int .i64 0)], ?_, ?_⟩
  · have := back_ge (base := 0) hk hn (Nat.zero_le _)
    exact back_t2 this back1_p
  · simp only [S1, S2, S3, S4, S5, r_idx, r_mks, ev, resultsV, resL, resV, vl, gt, st, sto, fgt, i64, subCV, fill, setCells, mkAgg, allP, frz, frz1, frzL, frzs, kill, kill1, killL, kills, bnd, unV, bsz, toPs, toP, isPure1, pureL, List.elem, List.replicate, Int.reduceLE, Int.reduceLT, ↓reduceIte, reduceCtorEq, Nat.reduceLT, Nat.reduceEqDiff, Nat.reduceAdd, Nat.reduceMul, Nat.reduceLeDiff, Nat.reduceBEq]
    rfl

theorem p128 {a b : List PV} {xs ys : List Int} (ha : NL a xs) (hb : NL b ys) (hl : a.length = b.length) (hm : a.length ≤ 2000000) (h0 : 0 < a.length) :
    Pu rp 128 [.sl a, .sl b] (.tup [.p (.sl (zr (List.zipWith (· - ·) xs ys))), .p (.int .i64 0)]) := by
  refine pu_of rp128 ?_
  simp only [f128, args0, S1, S2, S3, S4, S5, r_idx, r_mks, ev, resultsV, resL, resV, vl, gt, st, sto, fgt, i64, subCV, fill, setCells, mkAgg, allP, frz, frz1, frzL, frzs, kill, kill1, killL, kills, bnd, unV, bsz, toPs, toP, isPure1, pureL, List.elem, List.replicate, Int.reduceLE, Int.reduceLT, ↓reduceIte, reduceCtorEq, Nat.reduceLT, Nat.reduceEqDiff, Nat.reduceAdd, Nat.reduceMul, Nat.reduceLeDiff, Nat.reduceBEq]
  refine kc_full' (n156 (F := (· - ·)) (fun p q x y h1 h2 => (p157 h1 h2).lift base_le) ha hb hl hm h0 fun ρ k hk => ?_)
  have hn : a.length = (zr (List.zipWith (· - ·) xs ys)).length := by rw [zr_len, List.length_zipWith, ← ha.1, ← hb.1, hl, Nat.min_self]
  refine ⟨rfl, .tup [.p (.sl (zr (List.zipWith (· - ·) xs ys))), .p (.int .i64 0)], ?_, ?_⟩
  · have := back_ge (base := 0) hk hn (Nat.zero_le _)
    exact back_t2 this back1_p
  · simp only [S1, S2, S3, S4, S5, r_idx, r_mks, ev, resultsV, resL, resV, vl, gt, st, sto, fgt, i64, subCV, fill, setCells, mkAgg, allP, frz, frz1, frzL, frzs, kill, kill1, killL, kills, bnd, unV, bsz, toPs, toP, isPure1, pureL, List.elem, List.replicate, Int.reduceLE, Int.reduceLT, ↓reduceIte, reduceCtorEq, Nat.reduceLT, Nat.reduceEqDiff, Nat.reduceAdd, Nat.reduceMul, Nat.reduceLeDiff, Nat.reduceBEq]
    rfl
end Go.Proofs.Ytdieenbfdeaffaa.VKs

namespace Go.Proofs.Ytdieenbfdeaffaa.VKs
open Go Vpi
open VBn hiding rp tab rp_ok all_ok mixed sim Big
set_option maxRecDepth 100000
set_option linter.unusedSimpArgs false
set_option linter.unusedVariables false

/-- 1 on the diagonal -/
def urow (n i : Nat) : List Int := (List.range n).map fun k => if k = i then 1 else 0
def un (n : Nat) : List (List Int) := (List.range n).map fun i => urow n i
theorem urow_len {n i : Nat} : (urow n i).length = n := by simp [urow]
theorem un_len {n : Nat} : (un n).length = n := by simp [un]
theorem un_get {n i : Nat} (h : i < n) : (un n)[i]? = some (urow n i) := by simp [un, h]
theorem urow_get {n i k : Nat} (h : k < n) : (urow n i)[k]? = some (if k = i then 1 else 0) := by simp [urow, h]

theorem urow_set {n i : Nat} (h : i < n) : (List.replicate n (PV.agg [.bool false, .sl []])).set i (zi 1) = zr (urow n i) := by
  rw [← mk_zero (s := false)]
  apply List.ext_getElem?
  intro k
  rcases Nat.lt_or_ge k n with hk | hk
  · rw [zr_get (urow_get hk)]
    by_cases hki : i = k
    · subst hki
      rw [List.getElem?_set_self (by simpa using h), if_pos rfl]
    · rw [List.getElem?_set_ne hki, if_neg (fun h => hki h.symm)]
      simp [hk]
      exact mk_iv
  · rw [List.getElem?_eq_none (by simpa using hk), List.getElem?_eq_none (by rw [zr_len, urow_len]; exact hk)]

theorem updPV_zi {x : Int} : updPV (.agg [.bool false, .sl []]) 0 2 (zi x) = some (zi x) := by rw [← mk_zero (s := false)]; exact updPV_mk

/-- mat.Unit keeps its block -/
theorem n87 {n : Nat} {σ : Store} (hw : Wf σ) (h0 : 0 < n) (hm : n ≤ 64) {Q : CV → Store → Prop}
    (hQ : ∀ ρ k, Pre σ ρ → Wf ρ → σ.length ≤ k → ρ[k]? = some (.prow 1 (zm (un n))) → Q (.tup [.own k 0 n, .p (.int .i64 0)]) ρ) : Rn rp 87 [.p (.int .i64 n)] σ Q := by
  rw [rn_of rp87]
  have e1 : ¬ (n : Int) < 0 := by omega
  have e2 : ¬ (n : Int) > 64 := by omega
  have m1 : ((32 : Nat) : Int) * (n : Int) ≤ 281474976710656 := by omega
  have m2 : (n : Int) ≤ 9223372036854775807 := by omega
  have k54 := (p54 (x := 1) (by decide) (by decide)).lift base_le
  simp only [f87, args0, S1, S2, S3, S4, S5, r_idx, r_mks, ev, resultsV, resL, resV, vl, gt, st, sto, fgt, i64, subCV, fill, setCells, mkAgg, allP, frz, frz1, frzL, frzs, kill, kill1, killL, kills, bnd, unV, bsz, toPs, toP, isPure1, pureL, List.elem, List.replicate, Int.reduceLE, Int.reduceLT, ↓reduceIte, reduceCtorEq, Nat.reduceLT, Nat.reduceEqDiff, Nat.reduceAdd, Nat.reduceMul, Nat.reduceLeDiff, Nat.reduceBEq, e1, e2]
  refine loop_rule (β := Nat × Store × CV) (fun t => ([(0, .p (.int .i64 n)), (4, t.2.2), (13, .p (.int .i64 n)), (14, i64 t.1)], t.2.1))
    (fun t => t.1 ≤ n ∧ Pre σ t.2.1 ∧ Wf t.2.1 ∧ (∀ b o m, t.2.2 = .own b o m → σ.length ≤ b) ∧ GL t.2.1 1 t.2.2 (zm ((un n).take t.1))) (fun t => n - t.1) ((0, σ, .nils) : Nat × Store × CV) rfl rfl
    ⟨Nat.zero_le _, Pre.refl, hw, (fun _ _ _ h => by cases h), .nil⟩ ?_
  rintro ⟨i, ρ, c⟩ ⟨hi, hp, hwf, hb, hG⟩ ih
  simp only [] at hi hp hwf hb hG ih ⊢
  by_cases hin : (i : Int) < n
  · have hi' : i < n := by omega
    have w1 : IntKind.i64.wrap ((i : Int) + 1) = ((i + 1 : Nat) : Int) := by rw [IntWalk.i64_in _ (by omega)]; omega
    have hg0 : (List.replicate n (PV.agg [.bool false, .sl []]))[i]? = some (.agg [.bool false, .sl []]) := by simp [hi']
    have htl : (zm ((un n).take i)).length = i := by rw [zm_len, List.length_take, un_len]; omega
    have hc : ((zm ((un n).take i)).length + [PV.sl (zr (urow n i))].length) * 24 ≤ 140737488355328 := by rw [htl]; simp; omega
    have hA := fun {rp rs base d l dr ks e Q s x} => r_app_1 (rp := rp) (rs := rs) (base := base) (d := d) (l := l) (dr := dr) (ks := ks) (e := e) (Q := Q) (s := s) (x := x) (a := .dead) hG hc
    have htk : (zr (urow n i)).take n = zr (urow n i) := List.take_of_length_le (by rw [zr_len, urow_len]; exact Nat.le_refl _)
    simp only [S1, S2, S3, S4, S5, r_idx, r_mks, ev, resultsV, resL, resV, vl, gt, st, sto, fgt, i64, subCV, fill, setCells, mkAgg, allP, frz, frz1, frzL, frzs, kill, kill1, killL, kills, bnd, unV, bsz, toPs, toP, isPure1, pureL, List.elem, List.replicate, Int.reduceLE, Int.reduceLT, ↓reduceIte, reduceCtorEq, Nat.reduceLT, Nat.reduceEqDiff, Nat.reduceAdd, Nat.reduceMul, Nat.reduceLeDiff, Nat.reduceBEq, hin, Int.natCast_nonneg, Int.toNat_natCast, m1, m2, Int.le_refl, kp1 k54, hi', hg0, updPV_zi, urow_set hi', zr_len, urow_len, htk, hA, ← zm_suc (un_get hi'), htl, w1]
    refine ih (i + 1, nd ρ c ++ [.dead, .prow 1 [.sl (zr (urow n i))], .prow 1 (zm ((un n).take (i + 1)))], .own (ρ.length + 2) 0 (i + 1)) _ ⟨by simp only []; omega, (hp.nd hb).push, ?_, ?_, ?_⟩ (by simp only []; omega) ?_
    · have h1 := (((nd_wf (c := c) hwf).push (x := .dead) rfl).push (x := .prow 1 [.sl (zr (urow n i))]) rfl).push (x := .prow 1 (zm ((un n).take (i + 1)))) rfl
      simpa [List.append_assoc] using h1
    · rintro b o m h; cases h; have := hp.len; omega
    · refine .own ?_ (by rw [zm_len, List.length_take, un_len]; omega)
      simp only []
      rw [show ρ.length + 2 = (nd ρ c).length + 2 by rw [nd_len], get_app]; rfl
    · rfl
  · obtain rfl : i = n := by omega
    rw [List.take_of_length_le (by rw [un_len]; omega)] at hG
    simp only [S1, S2, S3, S4, S5, r_idx, r_mks, ev, resultsV, resL, resV, vl, gt, st, sto, fgt, i64, subCV, fill, setCells, mkAgg, allP, frz, frz1, frzL, frzs, kill, kill1, killL, kills, bnd, unV, bsz, toPs, toP, isPure1, pureL, List.elem, List.replicate, Int.reduceLE, Int.reduceLT, ↓reduceIte, reduceCtorEq, Nat.reduceLT, Nat.reduceEqDiff, Nat.reduceAdd, Nat.reduceMul, Nat.reduceLeDiff, Nat.reduceBEq, hin]
    rcases hG with ⟨rfl, h⟩ | ⟨k, rfl, hk⟩
    · have := congrArg List.length h
      rw [zm_len, un_len] at this
      simp at this
      omega
    · rw [zm_len, un_len]
      exact hQ ρ k hp hwf (hb _ _ _ rfl) hk

/-! ### the reference's rows -/

theorem p74 {kp : PV} {k : Int} {r : List PV} {xs : List Int} (hk : Nu kp k) (h : NL r xs) (hm : r.length ≤ 2000000) : Pu rp 74 [kp, .sl r] (.p (.sl (zr (xs.map (k * ·))))) := by
  obtain ⟨a, b, rfl⟩ := Nu.agg hk
  refine pu_of rp74 ?_
  simp only [f74, args0, S1, S2, S3, S4, S5, r_idx, r_mks, ev, resultsV, resL, resV, vl, gt, st, sto, fgt, i64, subCV, fill, setCells, mkAgg, allP, frz, frz1, frzL, frzs, kill, kill1, killL, kills, bnd, unV, bsz, toPs, toP, isPure1, pureL, List.elem, List.replicate, Int.reduceLE, Int.reduceLT, ↓reduceIte, reduceCtorEq, Nat.reduceLT, Nat.reduceEqDiff, Nat.reduceAdd, Nat.reduceMul, Nat.reduceLeDiff, Nat.reduceBEq]
  refine loop_rule (β := Nat × Store × CV) (fun t => ([(1, .p (.sl r)), (2, .ptr 0 0 0), (5, t.2.2), (6, i64 t.1)], t.2.1))
    (fun t => t.1 ≤ r.length ∧ t.2.1[0]? = some (.kblk 2 [.p (.bool a), .p (.sl b)]) ∧ GL t.2.1 2 t.2.2 (zr ((xs.map (k * ·)).take t.1))) (fun t => r.length - t.1) ((0, _, .nils) : Nat × Store × CV) rfl rfl ⟨Nat.zero_le _, rfl, .nil⟩ ?_
  rintro ⟨i, ρ, c⟩ ⟨hi, h0, hG⟩ ih
  simp only [] at hi h0 hG ih ⊢
  have hl : (xs.map (k * ·)).length = r.length := by rw [List.length_map, h.1]
  by_cases hin : (i : Int) < r.length
  · obtain ⟨p, x, p1, p2, p3⟩ := h.ix (i := i) (by omega)
    have k117 := (p117 hk p3).lift base_le
    obtain ⟨_, _, rfl⟩ := Nu.agg p3
    have hy : (xs.map (k * ·))[i]? = some (k * x) := by simp [p2]
    have w1 : IntKind.i64.wrap ((i : Int) + 1) = ((i + 1 : Nat) : Int) := by rw [IntWalk.i64_in _ (by omega)]; omega
    have htl : (zr ((xs.map (k * ·)).take i)).length = i := by rw [zr_len, List.length_take]; omega
    have hc : ((zr ((xs.map (k * ·)).take i)).length + [zi (k * x)].length) * 32 ≤ 140737488355328 := by rw [htl]; simp; omega
    have h0' : ∀ l, (ρ ++ l)[0]? = some (.kblk 2 [.p (.bool a), .p (.sl b)]) := fun l => by rw [get_left (List.getElem?_eq_some_iff.1 h0).1, h0]
    have hA := fun {rp rs base d l dr ks e Q s x} hb => r_app_sl (rp := rp) (rs := rs) (base := base) (d := d) (l := l) (dr := dr) (ks := ks) (e := e) (Q := Q) (s := s) (x := x) hb hG hc
    simp only [S1, S2, S3, S4, S5, r_idx, r_mks, ev, resultsV, resL, resV, vl, gt, st, sto, fgt, i64, subCV, fill, setCells, mkAgg, allP, frz, frz1, frzL, frzs, kill, kill1, killL, kills, bnd, unV, bsz, toPs, toP, isPure1, pureL, List.elem, List.replicate, Int.reduceLE, Int.reduceLT, ↓reduceIte, reduceCtorEq, Nat.reduceLT, Nat.reduceEqDiff, Nat.reduceAdd, Nat.reduceMul, Nat.reduceLeDiff, Nat.reduceBEq, hin, p1, h0', Int.natCast_nonneg, Int.toNat_natCast, kp2 k117, push_sl, hA rfl, ← zr_suc hy, htl, w1]
    refine ih (i + 1, nd ρ c ++ [.prow 2 [zi (k * x)], .prow 2 (zr ((xs.map (k * ·)).take (i + 1)))], .own (ρ.length + 1) 0 (i + 1)) _ ⟨by simp only []; omega, nd_get hG h0, ?_⟩ (by simp only []; omega) ?_
    · exact GL.new2 (by rw [zr_len, List.length_take]; omega) rfl
    · rfl
  · obtain rfl : i = r.length := by omega
    rw [List.take_of_length_le (by omega)] at hG
    simp only [S1, S2, S3, S4, S5, r_idx, r_mks, ev, resultsV, resL, resV, vl, gt, st, sto, fgt, i64, subCV, fill, setCells, mkAgg, allP, frz, frz1, frzL, frzs, kill, kill1, killL, kills, bnd, unV, bsz, toPs, toP, isPure1, pureL, List.elem, List.replicate, Int.reduceLE, Int.reduceLT, ↓reduceIte, reduceCtorEq, Nat.reduceLT, Nat.reduceEqDiff, Nat.reduceAdd, Nat.reduceMul, Nat.reduceLeDiff, Nat.reduceBEq, hin]
    exact hG.back

theorem p129 {a b : List PV} {xs ys : List Int} (ha : NL a xs) (hb : NL b ys) (hl : a.length = b.length) (hm : a.length ≤ 2000000) :
    Pu rp 129 [.sl a, .sl b] (.tup [.p (.sl (zr (List.zipWith (· + ·) xs ys))), .p (.int .i64 0)]) := by
  refine pu_of rp129 ?_
  have e1 : ((a.length : Int) != (b.length : Int)) = false := by rw [hl]; simp
  have hzl : (List.zipWith (· + ·) xs ys).length = a.length := by rw [List.length_zipWith, ← ha.1, ← hb.1, hl, Nat.min_self]
  simp only [f129, args0, S1, S2, S3, S4, S5, r_idx, r_mks, ev, resultsV, resL, resV, vl, gt, st, sto, fgt, i64, subCV, fill, setCells, mkAgg, allP, frz, frz1, frzL, frzs, kill, kill1, killL, kills, bnd, unV, bsz, toPs, toP, isPure1, pureL, List.elem, List.replicate, Int.reduceLE, Int.reduceLT, ↓reduceIte, reduceCtorEq, Nat.reduceLT, Nat.reduceEqDiff, Nat.reduceAdd, Nat.reduceMul, Nat.reduceLeDiff, Nat.reduceBEq, e1]
  refine loop_rule (β := Nat × Store × CV) (fun t => ([(0, .p (.sl a)), (1, .p (.sl b)), (6, t.2.2), (7, i64 t.1)], t.2.1))
    (fun t => t.1 ≤ a.length ∧ GL t.2.1 2 t.2.2 (zr ((List.zipWith (· + ·) xs ys).take t.1))) (fun t => a.length - t.1) ((0, [], .nils) : Nat × Store × CV) rfl rfl ⟨Nat.zero_le _, .nil⟩ ?_
  rintro ⟨i, ρ, c⟩ ⟨hi, hG⟩ ih
  simp only [] at hi hG ih ⊢
  by_cases hin : (i : Int) < a.length
  · obtain ⟨p, x, p1, p2, p3⟩ := ha.ix (i := i) (by omega)
    obtain ⟨q, y, q1, q2, q3⟩ := hb.ix (i := i) (by omega)
    have kF := (p109 p3 q3).lift base_le
    obtain ⟨_, _, rfl⟩ := Nu.agg p3
    obtain ⟨_, _, rfl⟩ := Nu.agg q3
    have hz : (List.zipWith (· + ·) xs ys)[i]? = some (x + y) := by rw [List.getElem?_zipWith, p2, q2]
    have w1 : IntKind.i64.wrap ((i : Int) + 1) = ((i + 1 : Nat) : Int) := by rw [IntWalk.i64_in _ (by omega)]; omega
    have htl : (zr ((List.zipWith (· + ·) xs ys).take i)).length = i := by rw [zr_len, List.length_take]; omega
    have hc : ((zr ((List.zipWith (· + ·) xs ys).take i)).length + [zi (x + y)].length) * 32 ≤ 140737488355328 := by rw [htl]; simp; omega
    have hA := fun {rp rs base d l dr ks e Q s x} hb => r_app_sl (rp := rp) (rs := rs) (base := base) (d := d) (l := l) (dr := dr) (ks := ks) (e := e) (Q := Q) (s := s) (x := x) hb hG hc
    simp only [S1, S2, S3, S4, S5, r_idx, r_mks, ev, resultsV, resL, resV, vl, gt, st, sto, fgt, i64, subCV, fill, setCells, mkAgg, allP, frz, frz1, frzL, frzs, kill, kill1, killL, kills, bnd, unV, bsz, toPs, toP, isPure1, pureL, List.elem, List.replicate, Int.reduceLE, Int.reduceLT, ↓reduceIte, reduceCtorEq, Nat.reduceLT, Nat.reduceEqDiff, Nat.reduceAdd, Nat.reduceMul, Nat.reduceLeDiff, Nat.reduceBEq, hin, p1, q1, Int.natCast_nonneg, Int.toNat_natCast, kp2 kF, push_sl, hA rfl, ← zr_suc hz, htl, w1]
    refine ih (i + 1, nd ρ c ++ [.prow 2 [zi (x + y)], .prow 2 (zr ((List.zipWith (· + ·) xs ys).take (i + 1)))], .own (ρ.length + 1) 0 (i + 1)) _ ⟨by simp only []; omega, ?_⟩ (by simp only []; omega) ?_
    · exact GL.new2 (by rw [zr_len, List.length_take]; omega) rfl
    · rfl
  · obtain rfl : i = a.length := by omega
    rw [List.take_of_length_le (by omega)] at hG
    simp only [S1, S2, S3, S4, S5, r_idx, r_mks, ev, resultsV, resL, resV, vl, gt, st, sto, fgt, i64, subCV, fill, setCells, mkAgg, allP, frz, frz1, frzL, frzs, kill, kill1, killL, kills, bnd, unV, bsz, toPs, toP, isPure1, pureL, List.elem, List.replicate, Int.reduceLE, Int.reduceLT, ↓reduceIte, reduceCtorEq, Nat.reduceLT, Nat.reduceEqDiff, Nat.reduceAdd, Nat.reduceMul, Nat.reduceLeDiff, Nat.reduceBEq, hin]
    exact back_t2 hG.back1 back1_p

theorem zip_neg {xs ys : List Int} : List.zipWith (· + ·) xs (ys.map (-1 * ·)) = List.zipWith (· - ·) xs ys := by
  rw [List.zipWith_map_right]
  congr 1
  funext x y
  omega

theorem p130 {a b : List PV} {xs ys : List Int} (ha : NL a xs) (hb : NL b ys) (hl : a.length = b.length) (hm : a.length ≤ 2000000) (hs : SzL (ys.map (-1 * ·))) :
    Pu rp 130 [.sl a, .sl b] (.tup [.p (.sl (zr (List.zipWith (· - ·) xs ys))), .p (.int .i64 0)]) := by
  refine pu_of rp130 ?_
  have k66 := (p66 (x := -1) (by decide) (by decide)).lift base_le
  have k74 := p74 (Nu.zi (x := -1) (Sz.small (by decide))) hb (by omega)
  have k129 := p129 ha (NL.zr hs) (by rw [zr_len, List.length_map, ← hb.1, hl]) hm
  rw [zip_neg] at k129
  simp only [f130, args0, S1, S2, S3, S4, S5, r_idx, r_mks, ev, resultsV, resL, resV, vl, gt, st, sto, fgt, i64, subCV, fill, setCells, mkAgg, allP, frz, frz1, frzL, frzs, kill, kill1, killL, kills, bnd, unV, bsz, toPs, toP, isPure1, pureL, List.elem, List.replicate, Int.reduceLE, Int.reduceLT, ↓reduceIte, reduceCtorEq, Nat.reduceLT, Nat.reduceEqDiff, Nat.reduceAdd, Nat.reduceMul, Nat.reduceLeDiff, Nat.reduceBEq, kp1 k66, kp2 k74, kp2 k129]
  rfl

/-- the reference's Form keeps its block -/
theorem n89 {b : List PV} {M : List (List Int)} {σ : Store} (hw : Wf σ) (h : ML b M) (hm : b.length ≤ 2000000) {Q : CV → Store → Prop}
    (hQ : ∀ ρ c, Pre σ ρ → Wf ρ → (∀ b o n, c = .own b o n → σ.length ≤ b) → GL ρ 1 c (zm M) → Q c ρ) : Rn rp 89 [.p (.sl b)] σ Q := by
  rw [rn_of rp89]
  have hl := h.1
  have k66 := (p66 (x := 1) (by decide) (by decide)).lift base_le
  simp only [f89, args0, S1, S2, S3, S4, S5, r_idx, r_mks, ev, resultsV, resL, resV, vl, gt, st, sto, fgt, i64, subCV, fill, setCells, mkAgg, allP, frz, frz1, frzL, frzs, kill, kill1, killL, kills, bnd, unV, bsz, toPs, toP, isPure1, pureL, List.elem, List.replicate, Int.reduceLE, Int.reduceLT, ↓reduceIte, reduceCtorEq, Nat.reduceLT, Nat.reduceEqDiff, Nat.reduceAdd, Nat.reduceMul, Nat.reduceLeDiff, Nat.reduceBEq]
  refine loop_rule (β := Nat × Store × CV) (fun t => ([(0, .p (.sl b)), (3, t.2.2), (4, i64 t.1)], t.2.1))
    (fun t => t.1 ≤ b.length ∧ Pre σ t.2.1 ∧ Wf t.2.1 ∧ (∀ b o m, t.2.2 = .own b o m → σ.length ≤ b) ∧ GL t.2.1 1 t.2.2 (zm (M.take t.1))) (fun t => b.length - t.1) ((0, σ, .nils) : Nat × Store × CV) rfl rfl
    ⟨Nat.zero_le _, Pre.refl, hw, (fun _ _ _ h => by cases h), .nil⟩ ?_
  rintro ⟨i, ρ, c⟩ ⟨hi, hp, hwf, hb, hG⟩ ih
  simp only [] at hi hp hwf hb hG ih ⊢
  by_cases hin : (i : Int) < b.length
  · obtain ⟨q, r, h1, h2, h3, h4⟩ := h.ix (i := i) (by omega)
    have k74 := p74 (Nu.zi (x := 1) (Sz.small (by decide))) h3 h4
    have e1 : r.map ((1 : Int) * ·) = r := by simp
    rw [e1] at k74
    have w1 : IntKind.i64.wrap ((i : Int) + 1) = ((i + 1 : Nat) : Int) := by rw [IntWalk.i64_in _ (by omega)]; omega
    have htl : (zm (M.take i)).length = i := by rw [zm_len, List.length_take]; omega
    have hc : ((zm (M.take i)).length + [PV.sl (zr r)].length) * 24 ≤ 140737488355328 := by rw [htl]; simp; omega
    have hA := fun {rp rs base d l dr ks e Q s x} hb => r_app_sl (rp := rp) (rs := rs) (base := base) (d := d) (l := l) (dr := dr) (ks := ks) (e := e) (Q := Q) (s := s) (x := x) hb hG hc
    simp only [S1, S2, S3, S4, S5, r_idx, r_mks, ev, resultsV, resL, resV, vl, gt, st, sto, fgt, i64, subCV, fill, setCells, mkAgg, allP, frz, frz1, frzL, frzs, kill, kill1, killL, kills, bnd, unV, bsz, toPs, toP, isPure1, pureL, List.elem, List.replicate, Int.reduceLE, Int.reduceLT, ↓reduceIte, reduceCtorEq, Nat.reduceLT, Nat.reduceEqDiff, Nat.reduceAdd, Nat.reduceMul, Nat.reduceLeDiff, Nat.reduceBEq, hin, h1, Int.natCast_nonneg, Int.toNat_natCast, kp1 k66, kp2 k74, push_sl, hA rfl, ← zm_suc h2, htl, w1]
    refine ih (i + 1, nd ρ c ++ [.prow 1 [.sl (zr r)], .prow 1 (zm (M.take (i + 1)))], .own (ρ.length + 1) 0 (i + 1)) _ ⟨by simp only []; omega, (hp.nd hb).push, nd_wf2 hwf, ?_, ?_⟩ (by simp only []; omega) ?_
    · rintro b o m h; cases h; have := hp.len; omega
    · exact GL.new2 (by rw [zm_len, List.length_take]; omega) rfl
    · rfl
  · obtain rfl : i = b.length := by omega
    rw [List.take_of_length_le (by omega)] at hG
    simp only [S1, S2, S3, S4, S5, r_idx, r_mks, ev, resultsV, resL, resV, vl, gt, st, sto, fgt, i64, subCV, fill, setCells, mkAgg, allP, frz, frz1, frzL, frzs, kill, kill1, killL, kills, bnd, unV, bsz, toPs, toP, isPure1, pureL, List.elem, List.replicate, Int.reduceLE, Int.reduceLT, ↓reduceIte, reduceCtorEq, Nat.reduceLT, Nat.reduceEqDiff, Nat.reduceAdd, Nat.reduceMul, Nat.reduceLeDiff, Nat.reduceBEq, hin]
    exact hQ ρ c hp hwf hb hG

theorem p131 {p : PV} {x : Int} (h : Nu p x) : Pu rp 131 [p] (.p (.int .i64 (bl x.natAbs : Nat))) := by
  obtain ⟨neg, l, rfl, hl, hn, rfl⟩ := h
  refine pu_of rp131 ?_
  rw [iv_abs]
  rw [CapN_eq] at hn
  simp only [f131, args0, S1, S2, S3, S4, S5, r_idx, r_mks, ev, resultsV, resL, resV, vl, gt, st, sto, fgt, i64, subCV, fill, setCells, mkAgg, allP, frz, frz1, frzL, frzs, kill, kill1, killL, kills, bnd, unV, bsz, toPs, toP, isPure1, pureL, List.elem, List.replicate, Int.reduceLE, Int.reduceLT, ↓reduceIte, reduceCtorEq, Nat.reduceLT, Nat.reduceEqDiff, Nat.reduceAdd, Nat.reduceMul, Nat.reduceLeDiff, Nat.reduceBEq, kp1 ((p82 hl (by omega)).lift base_le)]
  rfl
end Go.Proofs.Ytdieenbfdeaffaa.VKs

namespace Go.Proofs.Ytdieenbfdeaffaa.VKs
open Go Vpi
open VBn hiding rp tab rp_ok all_ok mixed sim Big
set_option maxRecDepth 100000
set_option linter.unusedSimpArgs false
set_option linter.unusedVariables false

theorem rp88 : rp 88 = some f88 := rfl
theorem rp91 : rp 91 = some f91 := rfl

theorem p92 {b : List PV} {n : Nat → Nat} {X : Nat → Nat → Int} (hb : MR b n X) (hlb : b.length ≤ 2000000) : Pu rp 92 [.sl b] (.p (.int .i64 (bm n X b.length : Nat))) := by
  refine pu_of rp92 ?_
  simp only [f92, args0, S1, S2, S3, S4, S5, r_idx, r_mks, ev, resultsV, resL, resV, vl, gt, st, sto, fgt, i64, subCV, fill, setCells, mkAgg, allP, frz, frz1, frzL, frzs, kill, kill1, killL, kills, bnd, unV, bsz, toPs, toP, isPure1, pureL, List.elem, List.replicate, Int.reduceLE, Int.reduceLT, ↓reduceIte, reduceCtorEq, Nat.reduceLT, Nat.reduceEqDiff, Nat.reduceAdd, Nat.reduceMul, Nat.reduceLeDiff, Nat.reduceBEq]
  refine loop_rule (β := Nat × Store) (fun t => ([(0, .p (.sl b)), (3, i64 (bm n X t.1 : Nat)), (4, i64 t.1)], t.2))
    (fun t => t.1 ≤ b.length) (fun t => b.length - t.1) ((0, []) : Nat × Store) rfl rfl (Nat.zero_le _) ?_
  rintro ⟨i, σ⟩ hi ih
  simp only [] at hi ih ⊢
  by_cases hin : (i : Int) < b.length
  · have hib : i < b.length := by omega
    obtain ⟨r, hr, hrl, hrn, hrx⟩ := hb i hib
    simp only [S1, S2, S3, S4, S5, r_idx, r_mks, ev, resultsV, resL, resV, vl, gt, st, sto, fgt, i64, subCV, fill, setCells, mkAgg, allP, frz, frz1, frzL, frzs, kill, kill1, killL, kills, bnd, unV, bsz, toPs, toP, isPure1, pureL, List.elem, List.replicate, Int.reduceLE, Int.reduceLT, ↓reduceIte, reduceCtorEq, Nat.reduceLT, Nat.reduceEqDiff, Nat.reduceAdd, Nat.reduceMul, Nat.reduceLeDiff, Nat.reduceBEq, hin]
    refine loop_rule (β := Nat × Store) (fun t => ([(0, .p (.sl b)), (3, i64 ((max (bm n X i) (mxR (fun j => bl (X i j).natAbs) t.1) : Nat) : Int)), (4, i64 i), (5, i64 t.1)], t.2))
      (fun t => t.1 ≤ r.length) (fun t => r.length - t.1) ((0, σ) : Nat × Store) (by simp only [mxR, Nat.max_zero]; rfl) rfl (Nat.zero_le _) ?_
    rintro ⟨j, τ⟩ hj ih2
    simp only [] at hj ih2 ⊢
    by_cases hjn : (j : Int) < r.length
    · obtain ⟨p, hp, hpx⟩ := hrx j (by omega)
      have k131 := p131 hpx
      obtain ⟨_, _, rfl⟩ := Nu.agg hpx
      have hw : IntKind.i64.wrap ((j : Int) + 1) = ((j + 1 : Nat) : Int) := by rw [IntWalk.i64_in _ (by omega)]; omega
      simp only [S1, S2, S3, S4, S5, r_idx, r_mks, ev, resultsV, resL, resV, vl, gt, st, sto, fgt, i64, subCV, fill, setCells, mkAgg, allP, frz, frz1, frzL, frzs, kill, kill1, killL, kills, bnd, unV, bsz, toPs, toP, isPure1, pureL, List.elem, List.replicate, Int.reduceLE, Int.reduceLT, ↓reduceIte, reduceCtorEq, Nat.reduceLT, Nat.reduceEqDiff, Nat.reduceAdd, Nat.reduceMul, Nat.reduceLeDiff, Nat.reduceBEq, hr, hjn, hp, Int.natCast_nonneg, Int.toNat_natCast, kp1 k131, max_int, hw, Nat.max_assoc]
      refine ih2 (j + 1, τ) _ (by simp only []; omega) (by simp only []; omega) ?_
      rfl
    · obtain rfl : j = r.length := by omega
      have hw : IntKind.i64.wrap ((i : Int) + 1) = ((i + 1 : Nat) : Int) := by rw [IntWalk.i64_in _ (by omega)]; omega
      simp only [S1, S2, S3, S4, S5, r_idx, r_mks, ev, resultsV, resL, resV, vl, gt, st, sto, fgt, i64, subCV, fill, setCells, mkAgg, allP, frz, frz1, frzL, frzs, kill, kill1, killL, kills, bnd, unV, bsz, toPs, toP, isPure1, pureL, List.elem, List.replicate, Int.reduceLE, Int.reduceLT, ↓reduceIte, reduceCtorEq, Nat.reduceLT, Nat.reduceEqDiff, Nat.reduceAdd, Nat.reduceMul, Nat.reduceLeDiff, Nat.reduceBEq, hr, Int.natCast_nonneg, Int.toNat_natCast, hjn, hw]
      refine ih (i + 1, τ) _ (by simp only []; omega) (by simp only []; omega) ?_
      rw [show bm n X (i + 1) = max (bm n X i) (mxR (fun j => bl (X i j).natAbs) r.length) by rw [hrl]; rfl]
      rfl
  · obtain rfl : i = b.length := by omega
    simp only [S1, S2, S3, S4, S5, r_idx, r_mks, ev, resultsV, resL, resV, vl, gt, st, sto, fgt, i64, subCV, fill, setCells, mkAgg, allP, frz, frz1, frzL, frzs, kill, kill1, killL, kills, bnd, unV, bsz, toPs, toP, isPure1, pureL, List.elem, List.replicate, Int.reduceLE, Int.reduceLT, ↓reduceIte, reduceCtorEq, Nat.reduceLT, Nat.reduceEqDiff, Nat.reduceAdd, Nat.reduceMul, Nat.reduceLeDiff, Nat.reduceBEq, hin]
    rfl

/-- the reference's Unit keeps its block -/
theorem n90 {n : Nat} {σ : Store} (hw : Wf σ) (h0 : 0 < n) (hm : n ≤ 64) {Q : CV → Store → Prop}
    (hQ : ∀ ρ k, Pre σ ρ → Wf ρ → σ.length ≤ k → ρ[k]? = some (.prow 1 (zm (un n))) → Q (.tup [.own k 0 n, .p (.int .i64 0)]) ρ) : Rn rp 90 [.p (.int .i64 n)] σ Q := by
  rw [rn_of rp90]
  have e1 : ¬ (n : Int) < 0 := by omega
  have e2 : ¬ (n : Int) > 64 := by omega
  have k1 := (p66 (x := 1) (by decide) (by decide)).lift base_le
  have k0 := (p66 (x := 0) (by decide) (by decide)).lift base_le
  simp only [f90, args0, S1, S2, S3, S4, S5, r_idx, r_mks, ev, resultsV, resL, resV, vl, gt, st, sto, fgt, i64, subCV, fill, setCells, mkAgg, allP, frz, frz1, frzL, frzs, kill, kill1, killL, kills, bnd, unV, bsz, toPs, toP, isPure1, pureL, List.elem, List.replicate, Int.reduceLE, Int.reduceLT, ↓reduceIte, reduceCtorEq, Nat.reduceLT, Nat.reduceEqDiff, Nat.reduceAdd, Nat.reduceMul, Nat.reduceLeDiff, Nat.reduceBEq, e1, e2]
  refine loop_rule (β := Nat × Store × CV) (fun t => ([(0, .p (.int .i64 n)), (4, t.2.2), (5, i64 t.1)], t.2.1))
    (fun t => t.1 ≤ n ∧ Pre σ t.2.1 ∧ Wf t.2.1 ∧ (∀ b o m, t.2.2 = .own b o m → σ.length ≤ b) ∧ GL t.2.1 1 t.2.2 (zm ((un n).take t.1))) (fun t => n - t.1) ((0, σ, .nils) : Nat × Store × CV) rfl rfl
    ⟨Nat.zero_le _, Pre.refl, hw, (fun _ _ _ h => by cases h), .nil⟩ ?_
  rintro ⟨i, ρ, c⟩ ⟨hi, hp, hwf, hb, hG⟩ ih
  simp only [] at hi hp hwf hb hG ih ⊢
  by_cases hin : (i : Int) < n
  · have hi' : i < n := by omega
    simp only [S1, S2, S3, S4, S5, r_idx, r_mks, ev, resultsV, resL, resV, vl, gt, st, sto, fgt, i64, subCV, fill, setCells, mkAgg, allP, frz, frz1, frzL, frzs, kill, kill1, killL, kills, bnd, unV, bsz, toPs, toP, isPure1, pureL, List.elem, List.replicate, Int.reduceLE, Int.reduceLT, ↓reduceIte, reduceCtorEq, Nat.reduceLT, Nat.reduceEqDiff, Nat.reduceAdd, Nat.reduceMul, Nat.reduceLeDiff, Nat.reduceBEq, hin]
    refine loop_rule (β := Nat × Store × CV) (fun t => ([(0, .p (.int .i64 n)), (4, c), (5, i64 i), (6, t.2.2), (7, i64 t.1)], t.2.1))
      (fun t => t.1 ≤ n ∧ Pre ρ t.2.1 ∧ Wf t.2.1 ∧ (∀ b o m, t.2.2 = .own b o m → ρ.length ≤ b) ∧ GL t.2.1 2 t.2.2 (zr ((urow n i).take t.1))) (fun t => n - t.1) ((0, ρ, .nils) : Nat × Store × CV) rfl rfl
      ⟨Nat.zero_le _, Pre.refl, hwf, (fun _ _ _ h => by cases h), .nil⟩ ?_
    rintro ⟨k, τ, cr⟩ ⟨hk, hp2, hwf2, hb2, hG2⟩ ih2
    simp only [] at hk hp2 hwf2 hb2 hG2 ih2 ⊢
    by_cases hkn : (k : Int) < n
    · have hk' : k < n := by omega
      have w1 : IntKind.i64.wrap ((k : Int) + 1) = ((k + 1 : Nat) : Int) := by rw [IntWalk.i64_in _ (by omega)]; omega
      have htl : (zr ((urow n i).take k)).length = k := by rw [zr_len, List.length_take, urow_len]; omega
      have fin : ∀ x : Int, (urow n i)[k]? = some x → ∀ e', fgt [0, 4, 5, 6, 7] e' = [(0, .p (.int .i64 n)), (4, c), (5, i64 i), (6, .own (τ.length + 1) 0 (k + 1)), (7, i64 ((k + 1 : Nat) : Int))] → 
          Ex rp [RRes.t 2, RRes.t 3] .skip (.lp (.fg [0, 4, 5, 6, 7] _) :: _) e' (nd τ cr ++ [.prow 2 [zi x], .prow 2 (zr ((urow n i).take (k + 1)))]) Q := fun x hx e' he =>
        ih2 (k + 1, nd τ cr ++ [.prow 2 [zi x], .prow 2 (zr ((urow n i).take (k + 1)))], .own (τ.length + 1) 0 (k + 1)) e' ⟨by simp only []; omega, (hp2.nd hb2).push, nd_wf2 hwf2, (by rintro b o m h; cases h; have := hp2.len; omega), GL.new2 (by rw [zr_len, List.length_take, urow_len]; omega) rfl⟩ (by simp only []; omega) he
      by_cases hki : k = i
      · have hx : (urow n i)[k]? = some 1 := by rw [urow_get hk', if_pos hki]
        have eb : ((i : Int) == (k : Int)) = true := by rw [hki]; simp
        have hc : ((zr ((urow n i).take k)).length + [zi 1].length) * 32 ≤ 140737488355328 := by rw [htl]; simp; omega
        simp only [S1, S2, S3, S4, S5, r_idx, r_mks, ev, resultsV, resL, resV, vl, gt, st, sto, fgt, i64, subCV, fill, setCells, mkAgg, allP, frz, frz1, frzL, frzs, kill, kill1, killL, kills, bnd, unV, bsz, toPs, toP, isPure1, pureL, List.elem, List.replicate, Int.reduceLE, Int.reduceLT, ↓reduceIte, reduceCtorEq, Nat.reduceLT, Nat.reduceEqDiff, Nat.reduceAdd, Nat.reduceMul, Nat.reduceLeDiff, Nat.reduceBEq, hkn, eb, kp1 k1, r_app hG2 hc, ← zr_suc hx, htl, w1]
        exact fin 1 hx _ rfl
      · have hx : (urow n i)[k]? = some 0 := by rw [urow_get hk', if_neg hki]
        have eb : ((i : Int) == (k : Int)) = false := by rw [beq_eq_false_iff_ne]; omega
        have hc : ((zr ((urow n i).take k)).length + [zi 0].length) * 32 ≤ 140737488355328 := by rw [htl]; simp; omega
        simp only [S1, S2, S3, S4, S5, r_idx, r_mks, ev, resultsV, resL, resV, vl, gt, st, sto, fgt, i64, subCV, fill, setCells, mkAgg, allP, frz, frz1, frzL, frzs, kill, kill1, killL, kills, bnd, unV, bsz, toPs, toP, isPure1, pureL, List.elem, List.replicate, Int.reduceLE, Int.reduceLT, ↓reduceIte, reduceCtorEq, Nat.reduceLT, Nat.reduceEqDiff, Nat.reduceAdd, Nat.reduceMul, Nat.reduceLeDiff, Nat.reduceBEq, hkn, eb, kp1 k0, r_app hG2 hc, ← zr_suc hx, htl, w1]
        exact fin 0 hx _ rfl
    · obtain rfl : k = n := by omega
      rw [List.take_of_length_le (by rw [urow_len]; omega)] at hG2
      have hGr : GL τ 1 c (zm ((un k).take i)) := by
        rcases hG with ⟨rfl, h⟩ | ⟨b, rfl, h⟩
        · exact .inl ⟨rfl, h⟩
        · exact .inr ⟨b, rfl, by rw [hp2.get b (List.getElem?_eq_some_iff.1 h).1, h]⟩
      have frl : frzs τ [cr] = some [.sl (zr (urow k i))] := by simp only [frzs, hG2.frz, Option.map_some]
      have kil : kills τ [cr] = nd τ cr := by simp only [kills, List.foldl_cons, List.foldl_nil, hG2.kill]
      have g1 : GL (nd τ cr) 1 c (zm ((un k).take i)) := GL.nd hGr (GL.ne_sz hGr hG2 (by decide))
      have htl : (zm ((un k).take i)).length = i := by rw [zm_len, List.length_take, un_len]; omega
      have hc : ((zm ((un k).take i)).length + [PV.sl (zr (urow k i))].length) * 24 ≤ 140737488355328 := by rw [htl]; simp; omega
      have hz1 : allSz 1 [PV.sl (zr (urow k i))] = true := rfl
      have w1 : IntKind.i64.wrap ((i : Int) + 1) = ((i + 1 : Nat) : Int) := by rw [IntWalk.i64_in _ (by omega)]; omega
      simp only [S1, S2, S3, S4, S5, r_idx, r_mks, ev, resultsV, resL, resV, vl, gt, st, sto, fgt, i64, subCV, fill, setCells, mkAgg, allP, frz, frz1, frzL, frzs, bnd, unV, bsz, toPs, toP, isPure1, pureL, List.elem, List.replicate, Int.reduceLE, Int.reduceLT, ↓reduceIte, reduceCtorEq, Nat.reduceLT, Nat.reduceEqDiff, Nat.reduceAdd, Nat.reduceMul, Nat.reduceLeDiff, Nat.reduceBEq, hkn, frl, kil, hz1, r_app g1 hc, ← zm_suc (un_get hi'), htl, w1]
      refine ih (i + 1, nd (nd τ cr) c ++ [.prow 1 [.sl (zr (urow k i))], .prow 1 (zm ((un k).take (i + 1)))], .own ((nd τ cr).length + 1) 0 (i + 1)) _
        ⟨by simp only []; omega, ((((hp.trans hp2).nd (fun b o m h => Nat.le_trans hp.len (hb2 b o m h))).nd hb).push), nd_wf2 (nd_wf hwf2), ?_, GL.new2 (by rw [zm_len, List.length_take, un_len]; omega) rfl⟩ (by simp only []; omega) ?_
      · rintro b o m h; cases h; rw [nd_len]; have := hp.len; have := hp2.len; omega
      · rfl
  · obtain rfl : i = n := by omega
    rw [List.take_of_length_le (by rw [un_len]; omega)] at hG
    simp only [S1, S2, S3, S4, S5, r_idx, r_mks, ev, resultsV, resL, resV, vl, gt, st, sto, fgt, i64, subCV, fill, setCells, mkAgg, allP, frz, frz1, frzL, frzs, kill, kill1, killL, kills, bnd, unV, bsz, toPs, toP, isPure1, pureL, List.elem, List.replicate, Int.reduceLE, Int.reduceLT, ↓reduceIte, reduceCtorEq, Nat.reduceLT, Nat.reduceEqDiff, Nat.reduceAdd, Nat.reduceMul, Nat.reduceLeDiff, Nat.reduceBEq, hin]
    rcases hG with ⟨rfl, h⟩ | ⟨k, rfl, hk⟩
    · have := congrArg List.length h
      rw [zm_len, un_len, List.length_nil] at this
      omega
    · rw [zm_len, un_len]
      exact hQ ρ k hp hwf (hb _ _ _ rfl) hk

/-! ### a step -/

def tws (w i j : Nat) (M : List (List Int)) : List (List Int) :=
  if w = 0 then M.set i (List.zipWith (· + ·) (M.getD i []) (M.getD j []))
  else if w = 1 then M.set i (List.zipWith (· - ·) (M.getD i []) (M.getD j []))
  else if w = 2 then (M.set i (M.getD j [])).set j (M.getD i [])
  else M.set i ((M.getD i []).map (-1 * ·))

/-- rows of one length, of numbers that are not too long -/
def RM (M : List (List Int)) (N : Nat) : Prop := N ≤ 2000000 ∧ 0 < N ∧ ∀ (i : Nat) (r : List Int), M[i]? = some r → SzL r ∧ r.length = N

theorem RM.ix {M : List (List Int)} {N : Nat} (h : RM M N) {i : Nat} (hi : i < M.length) : M[i]? = some (M.getD i []) ∧ SzL (M.getD i []) ∧ (M.getD i []).length = N := by
  have h1 : M[i]? = some (M.getD i []) := by simp [List.getD, hi]
  exact ⟨h1, h.2.2 i _ h1⟩

theorem SzL.neg {r : List Int} (h : SzL r) : SzL (r.map (-1 * ·)) := by
  intro i x hx
  rw [List.getElem?_map, Option.map_eq_some_iff] at hx
  obtain ⟨y, hy, rfl⟩ := hx
  have := (h i y hy).neg
  rwa [show -1 * y = -y by omega]

section
variable {M : List (List Int)} {N i j : Nat}
theorem q127 (h : RM M N) (hi : i < M.length) (hj : j < M.length) : Pu rp 127 [.sl (zr (M.getD i [])), .sl (zr (M.getD j []))] (.tup [.p (.sl (zr (List.zipWith (· + ·) (M.getD i []) (M.getD j [])))), .p (.int .i64 0)]) := by
  obtain ⟨-, a1, a2⟩ := h.ix hi
  obtain ⟨-, b1, b2⟩ := h.ix hj
  exact p127 (NL.zr a1) (NL.zr b1) (by rw [zr_len, zr_len, a2, b2]) (by rw [zr_len, a2]; exact h.1) (by rw [zr_len, a2]; exact h.2.1)
theorem q128 (h : RM M N) (hi : i < M.length) (hj : j < M.length) : Pu rp 128 [.sl (zr (M.getD i [])), .sl (zr (M.getD j []))] (.tup [.p (.sl (zr (List.zipWith (· - ·) (M.getD i []) (M.getD j [])))), .p (.int .i64 0)]) := by
  obtain ⟨-, a1, a2⟩ := h.ix hi
  obtain ⟨-, b1, b2⟩ := h.ix hj
  exact p128 (NL.zr a1) (NL.zr b1) (by rw [zr_len, zr_len, a2, b2]) (by rw [zr_len, a2]; exact h.1) (by rw [zr_len, a2]; exact h.2.1)
theorem q129 (h : RM M N) (hi : i < M.length) (hj : j < M.length) : Pu rp 129 [.sl (zr (M.getD i [])), .sl (zr (M.getD j []))] (.tup [.p (.sl (zr (List.zipWith (· + ·) (M.getD i []) (M.getD j [])))), .p (.int .i64 0)]) := by
  obtain ⟨-, a1, a2⟩ := h.ix hi
  obtain ⟨-, b1, b2⟩ := h.ix hj
  exact p129 (NL.zr a1) (NL.zr b1) (by rw [zr_len, zr_len, a2, b2]) (by rw [zr_len, a2]; exact h.1)
theorem q130 (h : RM M N) (hi : i < M.length) (hj : j < M.length) : Pu rp 130 [.sl (zr (M.getD i [])), .sl (zr (M.getD j []))] (.tup [.p (.sl (zr (List.zipWith (· - ·) (M.getD i []) (M.getD j [])))), .p (.int .i64 0)]) := by
  obtain ⟨-, a1, a2⟩ := h.ix hi
  obtain ⟨-, b1, b2⟩ := h.ix hj
  exact p130 (NL.zr a1) (NL.zr b1) (by rw [zr_len, zr_len, a2, b2]) (by rw [zr_len, a2]; exact h.1) b1.neg
theorem q78 (h : RM M N) (hi : i < M.length) : Pu rp 78 [zi (-1), .sl (zr (M.getD i []))] (.p (.sl (zr ((M.getD i []).map (-1 * ·))))) := by
  obtain ⟨-, a1, a2⟩ := h.ix hi
  exact p78 (Nu.zi (Sz.small (by decide))) (NL.zr a1) (by rw [zr_len, a2]; exact h.1)
theorem q74 (h : RM M N) (hi : i < M.length) : Pu rp 74 [zi (-1), .sl (zr (M.getD i []))] (.p (.sl (zr ((M.getD i []).map (-1 * ·))))) := by
  obtain ⟨-, a1, a2⟩ := h.ix hi
  exact p74 (Nu.zi (Sz.small (by decide))) (NL.zr a1) (by rw [zr_len, a2]; exact h.1)

/-- the reference's turn -/
theorem n91 {σ : Store} {b w n : Nat} (h : RM M N) (hn : M.length = n) (hi : i < n) (hj : j < n) (hb : σ[b]? = some (.prow 1 (zm M))) {Q : CV → Store → Prop}
    (hQ : Q (.tup []) (σ.set b (.prow 1 (zm (tws w i j M))))) : Rn rp 91 [.own b 0 n, .p (.int .i64 i), .p (.int .i64 j), .p (.int .u64 w)] σ Q := by
  subst hn
  rw [rn_of rp91]
  have hbl := (List.getElem?_eq_some_iff.1 hb).1
  have gi := zm_get (h.ix hi).1
  have gj := zm_get (h.ix hj).1
  have k66 := (p66 (x := -1) (by decide) (by decide)).lift base_le
  unfold tws at hQ
  by_cases w0 : w = 0
  · have e0 : ((w : Int) == 0) = true := by rw [w0]; rfl
    rw [if_pos w0] at hQ
    simp only [f91, args0, S1, S2, S3, S4, S5, r_idx, r_mks, ev, resultsV, resL, resV, vl, gt, st, sto, fgt, i64, subCV, fill, setCells, mkAgg, allP, frz, frz1, frzL, frzs, kill, kill1, killL, kills, bnd, unV, bsz, toPs, toP, isPure1, pureL, List.elem, List.replicate, Int.reduceLE, Int.reduceLT, ↓reduceIte, reduceCtorEq, Nat.reduceLT, Nat.reduceEqDiff, Nat.reduceAdd, Nat.reduceMul, Nat.reduceLeDiff, Nat.reduceBEq, e0, hb, bsz, Nat.zero_add, hi, hj, gi, gj, Int.natCast_nonneg, Int.toNat_natCast, kp2 (q129 h hi hj), zm_set]
    exact hQ
  have e0 : ((w : Int) == 0) = false := by rw [beq_eq_false_iff_ne]; omega
  rw [if_neg w0] at hQ
  by_cases w1 : w = 1
  · have e1 : ((w : Int) == 1) = true := by rw [w1]; rfl
    rw [if_pos w1] at hQ
    simp only [f91, args0, S1, S2, S3, S4, S5, r_idx, r_mks, ev, resultsV, resL, resV, vl, gt, st, sto, fgt, i64, subCV, fill, setCells, mkAgg, allP, frz, frz1, frzL, frzs, kill, kill1, killL, kills, bnd, unV, bsz, toPs, toP, isPure1, pureL, List.elem, List.replicate, Int.reduceLE, Int.reduceLT, ↓reduceIte, reduceCtorEq, Nat.reduceLT, Nat.reduceEqDiff, Nat.reduceAdd, Nat.reduceMul, Nat.reduceLeDiff, Nat.reduceBEq, e0, e1, hb, bsz, Nat.zero_add, hi, hj, gi, gj, Int.natCast_nonneg, Int.toNat_natCast, kp2 (q130 h hi hj), zm_set]
    exact hQ
  have e1 : ((w : Int) == 1) = false := by rw [beq_eq_false_iff_ne]; omega
  rw [if_neg w1] at hQ
  by_cases w2 : w = 2
  · have e2 : ((w : Int) == 2) = true := by rw [w2]; rfl
    rw [if_pos w2] at hQ
    have hs : ∀ x, (σ.set b x)[b]? = some x := fun x => get_self hbl
    have gj2 : ∃ u, (zm (M.set i (M.getD j [])))[j]? = some (.sl u) := by
      by_cases hij : i = j
      · subst hij; exact ⟨zr (M.getD i []), zm_get (by rw [List.getElem?_set_self hi])⟩
      · exact ⟨zr (M.getD j []), zm_get (by rw [List.getElem?_set_ne hij]; exact (h.ix hj).1)⟩
    obtain ⟨u, gj2⟩ := gj2
    simp only [f91, args0, S1, S2, S3, S4, S5, r_idx, r_mks, ev, resultsV, resL, resV, vl, gt, st, sto, fgt, i64, subCV, fill, setCells, mkAgg, allP, frz, frz1, frzL, frzs, kill, kill1, killL, kills, bnd, unV, bsz, toPs, toP, isPure1, pureL, List.elem, List.replicate, Int.reduceLE, Int.reduceLT, ↓reduceIte, reduceCtorEq, Nat.reduceLT, Nat.reduceEqDiff, Nat.reduceAdd, Nat.reduceMul, Nat.reduceLeDiff, Nat.reduceBEq, e0, e1, e2, hb, bsz, Nat.zero_add, hi, hj, gi, gj, Int.natCast_nonneg, Int.toNat_natCast, zm_set, hs, gj2, List.set_set]
    exact hQ
  have e2 : ((w : Int) == 2) = false := by rw [beq_eq_false_iff_ne]; omega
  rw [if_neg w2] at hQ
  simp only [f91, args0, S1, S2, S3, S4, S5, r_idx, r_mks, ev, resultsV, resL, resV, vl, gt, st, sto, fgt, i64, subCV, fill, setCells, mkAgg, allP, frz, frz1, frzL, frzs, kill, kill1, killL, kills, bnd, unV, bsz, toPs, toP, isPure1, pureL, List.elem, List.replicate, Int.reduceLE, Int.reduceLT, ↓reduceIte, reduceCtorEq, Nat.reduceLT, Nat.reduceEqDiff, Nat.reduceAdd, Nat.reduceMul, Nat.reduceLeDiff, Nat.reduceBEq, e0, e1, e2, hb, bsz, Nat.zero_add, hi, hj, gi, gj, Int.natCast_nonneg, Int.toNat_natCast, kp1 k66, kp2 (q74 h hi), zm_set]
  exact hQ
end
end Go.Proofs.Ytdieenbfdeaffaa.VKs

namespace Go.Proofs.Ytdieenbfdeaffaa.VKs
open Go Vpi
open VBn hiding rp tab rp_ok all_ok mixed sim Big
set_option maxRecDepth 100000
set_option linter.unusedSimpArgs false
set_option linter.unusedVariables false

/-- what is drawn for a step -/
def twi (n : Nat) (z : Int) : Nat := otn z n
def twj (n : Nat) (z : Int) : Nat := if otn z n ≤ otn (nz z) (n - 1) then otn (nz z) (n - 1) + 1 else otn (nz z) (n - 1)
def tww (z : Int) : Nat := otn (nz (nz z)) 4
def twz (n : Nat) (z : Int) : Int := if n = 1 then nz z else nz (nz (nz z))
/-- a step -/
def twm (n : Nat) (z : Int) (M : List (List Int)) : List (List Int) :=
  if n = 1 then (if otn z 4 = 3 then tws 3 0 0 M else M) else tws (tww z) (twi n z) (twj n z) M

theorem twi_lt {n : Nat} {z : Int} (h : 0 < n) : twi n z < n := otn_lt h
theorem twj_lt {n : Nat} {z : Int} (h : 1 < n) : twj n z < n := by
  have := otn_lt (z := nz z) (q := n - 1) (by omega)
  unfold twj
  generalize otn (nz z) (n - 1) = a at *
  generalize otn z n = b at *
  split <;> omega
theorem tww_lt {z : Int} : tww z < 4 := otn_lt (by decide)

theorem tws_0 {i j : Nat} {M : List (List Int)} : tws 0 i j M = M.set i (List.zipWith (· + ·) (M.getD i []) (M.getD j [])) := by unfold tws; rw [if_pos rfl]
theorem tws_1 {i j : Nat} {M : List (List Int)} : tws 1 i j M = M.set i (List.zipWith (· - ·) (M.getD i []) (M.getD j [])) := by unfold tws; rw [if_neg (by decide), if_pos rfl]
theorem tws_2 {i j : Nat} {M : List (List Int)} : tws 2 i j M = (M.set i (M.getD j [])).set j (M.getD i []) := by unfold tws; rw [if_neg (by decide), if_neg (by decide), if_pos rfl]
theorem tws_3 {i j : Nat} {M : List (List Int)} : tws 3 i j M = M.set i ((M.getD i []).map (-1 * ·)) := by unfold tws; rw [if_neg (by decide), if_neg (by decide), if_neg (by decide)]

/-- what a step leaves -/
structure Stp (σ ρ : Store) (b p n : Nat) (z : Int) (M : List (List Int)) : Prop where
  len : ρ.length = σ.length
  rest : ∀ j, j ≠ p → j ≠ b → ρ[j]? = σ[j]?
  cell : ρ[p]? = some (.kblk 1 [.p (.int .u64 z)])
  mat : ρ[b]? = some (.prow 1 (zm M))
  wf : Wf ρ

section
variable {M : List (List Int)} {N : Nat}

theorem n88 {σ : Store} {b p n : Nat} {z : Int} (h : RM M N) (hn : M.length = n) (h0 : 0 < n) (h12 : n ≤ 12) (hb : σ[b]? = some (.prow 1 (zm M))) (hp : σ[p]? = some (.kblk 1 [.p (.int .u64 z)])) (hw : Wf σ) {Q : CV → Store → Prop}
    (hQ : ∀ ρ, Stp σ ρ b p n (twz n z) (twm n z M) → Q (.tup []) ρ) : Rn rp 88 [.own b 0 n, .fn 104 [.ptr p 0 0]] σ Q := by
  rw [rn_of rp88]
  have hbl := (List.getElem?_eq_some_iff.1 hb).1
  have hpl := (List.getElem?_eq_some_iff.1 hp).1
  have hbp : b ≠ p := by rintro rfl; rw [hb] at hp; cases hp
  have u0 : IntKind.u64.wrap (n : Int) = (n : Int) := by rw [IntKind.wrap_u64]; omega
  have k54 := (p54 (x := -1) (by decide) (by decide)).lift base_le
  have four : ((4 : Nat) : Int) = 4 := rfl
  have i0 : Int.toNat 0 = 0 := rfl
  by_cases hn1 : n = 1
  · subst hn1
    have e1 : (((1 : Nat) : Int) == 1) = true := rfl
    have k := fun {rs base d l dr ks e Q} => k104' (rs := rs) (base := base) (d := d) (l := l) (dr := dr) (ks := ks) (e := e) (Q := Q) (σ := σ) (q := 4) hp (by decide) hw
    rw [four] at k
    have hb2 : ∀ x, (σ.set p x)[b]? = some (.prow 1 (zm M)) := fun x => by rw [get_ne hbp.symm, hb]
    have hM0 : 0 < M.length := by omega
    have g0 := zm_get (h.ix hM0).1
    by_cases h3 : otn z 4 = 3
    · have e3 : (((otn z 4 : Nat) : Int) == 3) = true := by rw [h3]; rfl
      have l0 : 0 < 1 := by decide
      simp only [f88, args0, S1, S2, S3, S4, S5, r_idx, r_mks, ev, resultsV, resL, resV, vl, gt, st, sto, fgt, i64, subCV, fill, setCells, mkAgg, allP, frz, frz1, frzL, frzs, kill, kill1, killL, kills, bnd, unV, bsz, toPs, toP, isPure1, pureL, List.elem, List.replicate, Int.reduceLE, Int.reduceLT, ↓reduceIte, reduceCtorEq, Nat.reduceLT, Nat.reduceEqDiff, Nat.reduceAdd, Nat.reduceMul, Nat.reduceLeDiff, Nat.reduceBEq, u0, e1, k, e3, kp1 k54, hb2, bsz, i0, l0, g0, kp2 (q78 h hM0), zm_set]
      refine hQ _ ⟨by rw [List.length_set, List.length_set], fun j h1 h2 => by rw [get_ne (Ne.symm h2), get_ne (Ne.symm h1)], ?_, ?_, (hw.set rfl).set rfl⟩
      · rw [get_ne hbp, get_self hpl]; rfl
      · rw [get_self (by rw [List.length_set]; exact hbl)]
        unfold twm tws
        rw [if_pos rfl, if_pos h3, if_neg (by decide), if_neg (by decide), if_neg (by decide)]
    · have e3 : (((otn z 4 : Nat) : Int) == 3) = false := by rw [beq_eq_false_iff_ne]; omega
      simp only [f88, args0, S1, S2, S3, S4, S5, r_idx, r_mks, ev, resultsV, resL, resV, vl, gt, st, sto, fgt, i64, subCV, fill, setCells, mkAgg, allP, frz, frz1, frzL, frzs, kill, kill1, killL, kills, bnd, unV, bsz, toPs, toP, isPure1, pureL, List.elem, List.replicate, Int.reduceLE, Int.reduceLT, ↓reduceIte, reduceCtorEq, Nat.reduceLT, Nat.reduceEqDiff, Nat.reduceAdd, Nat.reduceMul, Nat.reduceLeDiff, Nat.reduceBEq, u0, e1, k, e3]
      refine hQ _ ⟨by rw [List.length_set], fun j h1 h2 => by rw [get_ne (Ne.symm h1)], ?_, ?_, hw.set rfl⟩
      · rw [get_self hpl]; rfl
      · rw [hb2]
        unfold twm
        rw [if_pos rfl, if_neg h3]
  · have e1 : ((n : Int) == 1) = false := by rw [beq_eq_false_iff_ne]; omega
    have u1 : IntKind.u64.wrap ((n : Int) - 1) = ((n - 1 : Nat) : Int) := by rw [IntKind.wrap_u64]; omega
    have hb2 : ∀ x, (σ.set p x)[b]? = some (.prow 1 (zm M)) := fun x => by rw [get_ne hbp.symm, hb]
    have hp2 : ∀ x, (σ.set p x)[p]? = some x := fun x => get_self hpl
    have k1 := fun {rs base d l dr ks e Q} => k104' (rs := rs) (base := base) (d := d) (l := l) (dr := dr) (ks := ks) (e := e) (Q := Q) (σ := σ) (q := n) hp h0 hw
    have k2 := fun {rs base d l dr ks e Q} => k104' (rs := rs) (base := base) (d := d) (l := l) (dr := dr) (ks := ks) (e := e) (Q := Q) (σ := σ.set p (.kblk 1 [.p (.int .u64 (nz z))])) (q := n - 1) (hp2 _) (by omega) (hw.set rfl)
    have k3 := fun {rs base d l dr ks e Q} => k104' (rs := rs) (base := base) (d := d) (l := l) (dr := dr) (ks := ks) (e := e) (Q := Q) (σ := σ.set p (.kblk 1 [.p (.int .u64 (nz (nz z)))])) (q := 4) (hp2 _) (by decide) (hw.set rfl)
    rw [four] at k3
    simp only [List.set_set] at k2 k3
    have hi : twi n z < M.length := by rw [hn]; exact twi_lt h0
    have hj : twj n z < M.length := by rw [hn]; exact twj_lt (by omega)
    have hi' : twi n z < n := by omega
    have hj' : twj n z < n := by omega
    have hw4 := tww_lt (z := z)
    have gi := zm_get (h.ix hi).1
    have gj := zm_get (h.ix hj).1
    have go : otn z n = twi n z := rfl
    have gw : otn (nz (nz z)) 4 = tww z := rfl
    have hs : ∀ x, ((σ.set p (.kblk 1 [.p (.int .u64 (nz (nz (nz z))))])).set b x)[b]? = some x := fun x => get_self (by rw [List.length_set]; exact hbl)
    have fin : ∀ M', M' = tws (tww z) (twi n z) (twj n z) M → Q (.tup []) ((σ.set p (.kblk 1 [.p (.int .u64 (nz (nz (nz z))))])).set b (.prow 1 (zm M'))) := by
      rintro M' rfl
      refine hQ _ ⟨by rw [List.length_set, List.length_set], fun j h1 h2 => by rw [get_ne (Ne.symm h2), get_ne (Ne.symm h1)], ?_, ?_, (hw.set rfl).set rfl⟩
      · rw [get_ne hbp, get_self hpl]; unfold twz; rw [if_neg hn1]
      · rw [get_self (by rw [List.length_set]; exact hbl)]; unfold twm; rw [if_neg hn1]
    have gj2 : ∃ u, (zm (M.set (twi n z) (M.getD (twj n z) [])))[twj n z]? = some (.sl u) := by
      by_cases hij : twi n z = twj n z
      · rw [← hij]; exact ⟨zr (M.getD (twi n z) []), zm_get (by rw [List.getElem?_set_self hi])⟩
      · exact ⟨zr (M.getD (twj n z) []), zm_get (by rw [List.getElem?_set_ne hij]; exact (h.ix hj).1)⟩
    obtain ⟨u, gj2⟩ := gj2
    have u2 : IntKind.u64.wrap (((otn (nz z) (n - 1) : Nat) : Int) + 1) = ((otn (nz z) (n - 1) + 1 : Nat) : Int) := by
      have := otn_lt (z := nz z) (q := n - 1) (by omega)
      generalize otn (nz z) (n - 1) = o at *
      rw [IntKind.wrap_u64]; omega
    have hjc : ((((otn (nz z) (n - 1) : Nat) : Int) ≥ ((twi n z : Nat) : Int)) ∧ otn (nz z) (n - 1) + 1 = twj n z) ∨ (¬ (((otn (nz z) (n - 1) : Nat) : Int) ≥ ((twi n z : Nat) : Int)) ∧ otn (nz z) (n - 1) = twj n z) := by
      rcases Nat.lt_or_ge (otn (nz z) (n - 1)) (otn z n) with hlt | hge
      · right
        refine ⟨by rw [← go]; exact Int.not_le.2 (Int.ofNat_lt.2 hlt), by unfold twj; rw [if_neg (Nat.not_le.2 hlt)]⟩
      · left
        refine ⟨by rw [← go]; exact Int.ofNat_le.2 hge, by unfold twj; rw [if_pos hge]⟩
    have hwc : tww z = 0 ∨ tww z = 1 ∨ tww z = 2 ∨ tww z = 3 := by omega
    have d1 : ((1 : Int) == 0) = false := rfl
    have d2 : ((2 : Int) == 0) = false := rfl
    have d3 : ((2 : Int) == 1) = false := rfl
    have d4 : ((3 : Int) == 0) = false := rfl
    have d5 : ((3 : Int) == 1) = false := rfl
    have d6 : ((3 : Int) == 2) = false := rfl
    have c0 : ((0 : Nat) : Int) = 0 := rfl
    have c1 : ((1 : Nat) : Int) = 1 := rfl
    have c2 : ((2 : Nat) : Int) = 2 := rfl
    have c3 : ((3 : Nat) : Int) = 3 := rfl
    have hjc2 : ((((otn (nz z) (n - 1) : Nat) : Int) ≥ ((twi n z : Nat) : Int)) ∧ otn (nz z) (n - 1) + 1 = twj n z) ∨ (¬ (((twj n z : Nat) : Int) ≥ ((twi n z : Nat) : Int)) ∧ otn (nz z) (n - 1) = twj n z) := by
      rcases hjc with h | ⟨h1, h2⟩
      · exact .inl h
      · exact .inr ⟨by rw [← h2]; exact h1, h2⟩
    clear hjc
    generalize twi n z = i at *
    generalize twj n z = j at *
    generalize tww z = w at *
    generalize nz (nz (nz z)) = z3 at *
    have ti : Int.toNat (i : Int) = i := Int.toNat_natCast i
    have tj : Int.toNat (j : Int) = j := Int.toNat_natCast j
    rcases hjc2 with ⟨hge, hje⟩ | ⟨hge, hje⟩
    all_goals
      simp only [f88, args0, S1, S2, S3, S4, S5, r_idx, r_mks, ev, resultsV, resL, resV, vl, gt, st, sto, fgt, i64, subCV, fill, setCells, mkAgg, allP, frz, frz1, frzL, frzs, kill, kill1, killL, kills, bnd, unV, bsz, toPs, toP, isPure1, pureL, List.elem, List.replicate, Int.reduceLE, Int.reduceLT, ↓reduceIte, reduceCtorEq, Nat.reduceLT, Nat.reduceEqDiff, Nat.reduceAdd, Nat.reduceMul, Nat.reduceLeDiff, Nat.reduceBEq, u0, u1, e1, k1, k2, k3, go, hge, u2, hje, gw]
      rcases hwc with hw0 | hw0 | hw0 | hw0
      · have := fin _ rfl
        rw [hw0, tws_0] at this
        rw [hw0]
        simp only [c0, S1, S2, S3, S4, S5, r_idx, r_mks, ev, resultsV, resL, resV, vl, gt, st, sto, fgt, i64, subCV, fill, setCells, mkAgg, allP, frz, frz1, frzL, frzs, kill, kill1, killL, kills, bnd, unV, bsz, toPs, toP, isPure1, pureL, List.elem, List.replicate, Int.reduceLE, Int.reduceLT, ↓reduceIte, reduceCtorEq, Nat.reduceLT, Nat.reduceEqDiff, Nat.reduceAdd, Nat.reduceMul, Nat.reduceLeDiff, Nat.reduceBEq, hb2, bsz, hi', hj', gi, gj, Nat.zero_add, Int.natCast_nonneg, ti, tj, kp2 (q127 h hi hj), zm_set]
        exact this
      · have := fin _ rfl
        rw [hw0, tws_1] at this
        rw [hw0]
        simp only [c1, S1, S2, S3, S4, S5, r_idx, r_mks, ev, resultsV, resL, resV, vl, gt, st, sto, fgt, i64, subCV, fill, setCells, mkAgg, allP, frz, frz1, frzL, frzs, kill, kill1, killL, kills, bnd, unV, bsz, toPs, toP, isPure1, pureL, List.elem, List.replicate, Int.reduceLE, Int.reduceLT, ↓reduceIte, reduceCtorEq, Nat.reduceLT, Nat.reduceEqDiff, Nat.reduceAdd, Nat.reduceMul, Nat.reduceLeDiff, Nat.reduceBEq, d1, hb2, bsz, hi', hj', gi, gj, Nat.zero_add, Int.natCast_nonneg, ti, tj, kp2 (q128 h hi hj), zm_set]
        exact this
      · have := fin _ rfl
        rw [hw0, tws_2] at this
        rw [hw0]
        simp only [c2, S1, S2, S3, S4, S5, r_idx, r_mks, ev, resultsV, resL, resV, vl, gt, st, sto, fgt, i64, subCV, fill, setCells, mkAgg, allP, frz, frz1, frzL, frzs, kill, kill1, killL, kills, bnd, unV, bsz, toPs, toP, isPure1, pureL, List.elem, List.replicate, Int.reduceLE, Int.reduceLT, ↓reduceIte, reduceCtorEq, Nat.reduceLT, Nat.reduceEqDiff, Nat.reduceAdd, Nat.reduceMul, Nat.reduceLeDiff, Nat.reduceBEq, d2, d3, hb2, bsz, hi', hj', gi, gj, Nat.zero_add, Int.natCast_nonneg, ti, tj, zm_set, hs, gj2, List.set_set]
        exact this
      · have := fin _ rfl
        rw [hw0, tws_3] at this
        rw [hw0]
        simp only [c3, S1, S2, S3, S4, S5, r_idx, r_mks, ev, resultsV, resL, resV, vl, gt, st, sto, fgt, i64, subCV, fill, setCells, mkAgg, allP, frz, frz1, frzL, frzs, kill, kill1, killL, kills, bnd, unV, bsz, toPs, toP, isPure1, pureL, List.elem, List.replicate, Int.reduceLE, Int.reduceLT, ↓reduceIte, reduceCtorEq, Nat.reduceLT, Nat.reduceEqDiff, Nat.reduceAdd, Nat.reduceMul, Nat.reduceLeDiff, Nat.reduceBEq, d4, d5, d6, hb2, bsz, hi', hj', gi, gj, Nat.zero_add, Int.natCast_nonneg, ti, tj, kp1 k54, kp2 (q78 h hi), zm_set]
        exact this
end
end Go.Proofs.Ytdieenbfdeaffaa.VKs

namespace Go.Proofs.Ytdieenbfdeaffaa.VKs
open Go Vpi
open VBn hiding rp tab rp_ok all_ok mixed sim Big
set_option maxRecDepth 100000
set_option linter.unusedSimpArgs false
set_option linter.unusedVariables false

theorem rp42 : rp 42 = some f42 := rfl
theorem rp43 : rp 43 = some f43 := rfl

/-! ### plain: what steps keep -/

def RL (M : List (List Int)) (N : Nat) : Prop := ∀ (i : Nat) (r : List Int), M[i]? = some r → r.length = N
def BM (M : List (List Int)) (B : Nat) : Prop := ∀ (i : Nat) (r : List Int), M[i]? = some r → ∀ (j : Nat) (x : Int), r[j]? = some x → x.natAbs ≤ B

theorem tws_len {w i j : Nat} {M : List (List Int)} : (tws w i j M).length = M.length := by
  unfold tws
  split
  · simp
  · split
    · simp
    · split
      · simp
      · simp

theorem getD_row {M : List (List Int)} {i : Nat} (hi : i < M.length) : M[i]? = some (M.getD i []) := by simp [List.getD, hi]

theorem set_row {α : Type} {M : List α} {i k : Nat} {a r : α} (h : (M.set i a)[k]? = some r) : r = a ∨ M[k]? = some r := by
  by_cases hik : i = k
  · subst hik
    by_cases hl : i < M.length
    · rw [List.getElem?_set_self hl] at h; cases h; exact .inl rfl
    · rw [List.getElem?_eq_none (by rw [List.length_set]; omega)] at h; cases h
  · rw [List.getElem?_set_ne hik] at h; exact .inr h

theorem tws_row {P : List Int → Prop} {Q : List Int → Prop} {w i j : Nat} {M : List (List Int)} (hi : i < M.length) (hj : j < M.length) (hP : ∀ (k : Nat) (r : List Int), M[k]? = some r → P r) (hPQ : ∀ r, P r → Q r)
    (h1 : ∀ a b, P a → P b → Q (List.zipWith (· + ·) a b)) (h2 : ∀ a b, P a → P b → Q (List.zipWith (· - ·) a b)) (h3 : ∀ a, P a → Q (a.map (-1 * ·))) :
    ∀ (k : Nat) (r : List Int), (tws w i j M)[k]? = some r → Q r := by
  have pi := hP i _ (getD_row hi)
  have pj := hP j _ (getD_row hj)
  intro k r h
  unfold tws at h
  split at h
  · rcases set_row h with rfl | h
    · exact h1 _ _ pi pj
    · exact hPQ _ (hP k r h)
  · split at h
    · rcases set_row h with rfl | h
      · exact h2 _ _ pi pj
      · exact hPQ _ (hP k r h)
    · split at h
      · rcases set_row h with rfl | h
        · exact hPQ _ pi
        · rcases set_row h with rfl | h
          · exact hPQ _ pj
          · exact hPQ _ (hP k r h)
      · rcases set_row h with rfl | h
        · exact h3 _ pi
        · exact hPQ _ (hP k r h)

theorem tws_RL {w i j N : Nat} {M : List (List Int)} (hi : i < M.length) (hj : j < M.length) (h : RL M N) : RL (tws w i j M) N := by
  refine tws_row (P := fun r => r.length = N) (Q := fun r => r.length = N) hi hj h (fun _ h => h) ?_ ?_ ?_
  · intro a b ha hb; simp [ha, hb]
  · intro a b ha hb; simp [ha, hb]
  · intro a ha; simp [ha]

theorem tws_BM {w i j B : Nat} {M : List (List Int)} (hi : i < M.length) (hj : j < M.length) (h : BM M B) : BM (tws w i j M) (2 * B) := by
  refine tws_row (P := fun r => ∀ (j : Nat) (x : Int), r[j]? = some x → x.natAbs ≤ B) (Q := fun r => ∀ (j : Nat) (x : Int), r[j]? = some x → x.natAbs ≤ 2 * B) hi hj h ?_ ?_ ?_ ?_
  · intro r hr j x hx; have := hr j x hx; omega
  · intro a b ha hb j x hx
    rw [List.getElem?_zipWith] at hx
    split at hx
    · rename_i p q h1 h2
      cases hx
      have := ha _ _ h1
      have := hb _ _ h2
      omega
    · cases hx
  · intro a b ha hb j x hx
    rw [List.getElem?_zipWith] at hx
    split at hx
    · rename_i p q h1 h2
      cases hx
      have := ha _ _ h1
      have := hb _ _ h2
      omega
    · cases hx
  · intro a ha j x hx
    rw [List.getElem?_map, Option.map_eq_some_iff] at hx
    obtain ⟨y, hy, rfl⟩ := hx
    have := ha _ _ hy
    omega

section
variable {n N B : Nat} {z : Int} {M : List (List Int)}
theorem twm_len : (twm n z M).length = M.length := by
  unfold twm
  split
  · split
    · exact tws_len
    · rfl
  · exact tws_len
theorem twm_RL (hn : M.length = n) (h0 : 0 < n) (h : RL M N) : RL (twm n z M) N := by
  unfold twm
  split
  · split
    · exact tws_RL (by omega) (by omega) h
    · exact h
  · exact tws_RL (by rw [hn]; exact twi_lt h0) (by rw [hn]; exact twj_lt (by omega)) h
theorem twm_BM (hn : M.length = n) (h0 : 0 < n) (h : BM M B) : BM (twm n z M) (2 * B) := by
  unfold twm
  split
  · split
    · exact tws_BM (by omega) (by omega) h
    · intro i r hr j x hx; have := h i r hr j x hx; omega
  · exact tws_BM (by rw [hn]; exact twi_lt h0) (by rw [hn]; exact twj_lt (by omega)) h

/-- the seed's state, the matrix, behind so many steps -/
def tz (n : Nat) (z : Int) : Nat → Int
  | 0 => z
  | s + 1 => twz n (tz n z s)
def tM (n : Nat) (z : Int) (M : List (List Int)) : Nat → List (List Int)
  | 0 => M
  | s + 1 => twm n (tz n z s) (tM n z M s)
theorem tM_len {s : Nat} : (tM n z M s).length = M.length := by
  induction s with
  | zero => rfl
  | succ s ih => rw [tM, twm_len, ih]
theorem tM_RL (hn : M.length = n) (h0 : 0 < n) (h : RL M N) {s : Nat} : RL (tM n z M s) N := by
  induction s with
  | zero => exact h
  | succ s ih => exact twm_RL (by rw [tM_len, hn]) h0 ih
theorem tM_BM (hn : M.length = n) (h0 : 0 < n) (h : BM M B) {s : Nat} : BM (tM n z M s) (2 ^ s * B) := by
  induction s with
  | zero => rw [Nat.pow_zero, Nat.one_mul]; exact h
  | succ s ih =>
    have := twm_BM (z := tz n z s) (by rw [tM_len, hn]) h0 ih
    rw [Nat.pow_succ, Nat.mul_comm (2 ^ s) 2, Nat.mul_assoc]
    exact this
end

theorem sz_of {x : Int} {B : Nat} (h : x.natAbs ≤ B) (hB : B < LB ^ 20) : Sz x := by
  refine Sk.sz (n := 20) ?_ (by decide)
  unfold Sk
  exact Nat.lt_of_le_of_lt h hB

theorem RM.of {M : List (List Int)} {N B : Nat} (hN : N ≤ 12) (h0 : 0 < N) (h1 : RL M N) (h2 : BM M B) (hB : B < LB ^ 20) : RM M N :=
  ⟨by omega, h0, fun i r hr => ⟨fun j x hx => sz_of (h2 i r hr j x hx) hB, h1 i r hr⟩⟩

/-- an entry -/
def en (M : List (List Int)) (i j : Nat) : Int := (M.getD i []).getD j 0

theorem RM.mr {M : List (List Int)} {N : Nat} (h : RM M N) : MR (zm M) (fun _ => N) (en M) := by
  intro i hi
  rw [zm_len] at hi
  obtain ⟨h1, h2, h3⟩ := h.ix hi
  refine ⟨_, zm_get h1, by rw [zr_len, h3], h.1, fun j hj => ?_⟩
  rw [zr_len] at hj
  have hx : (M.getD i [])[j]? = some (en M i j) := by
    unfold en
    rw [List.getD_eq_getElem?_getD (l := M.getD i []), List.getElem?_eq_getElem hj]; rfl
  exact ⟨_, zr_get hx, Nu.zi (h2 j _ hx)⟩

def bitsM (M : List (List Int)) (N : Nat) : Nat := bm (fun _ => N) (en M) M.length

theorem BM_of_bits {M : List (List Int)} {N : Nat} (hR : RL M N) (h : bitsM M N ≤ 256) : BM M (2 ^ 256) := by
  intro i r hr j x hx
  have hi := (List.getElem?_eq_some_iff.1 hr).1
  have hj := (List.getElem?_eq_some_iff.1 hx).1
  have hrN := hR i r hr
  have h1 : en M i j = x := by
    have : M.getD i [] = r := by rw [List.getD_eq_getElem?_getD, hr]; rfl
    unfold en
    rw [this, List.getD_eq_getElem?_getD, hx]
    rfl
  have h2 : ¬ 256 < bitsM M N := by omega
  unfold bitsM at h2
  rw [bm_gt] at h2
  have h3 : bl x.natAbs ≤ 256 := Nat.not_lt.1 fun hlt => h2 ⟨i, j, hi, by omega, by rw [h1]; exact hlt⟩
  by_cases h0 : x.natAbs = 0
  · rw [h0]; exact Nat.zero_le _
  · exact Nat.le_of_lt (Nat.lt_of_lt_of_le (bl_spec h0).2.1 (Nat.pow_le_pow_right (by decide) h3))

theorem un_RL {n : Nat} : RL (un n) n := by
  intro i r hr
  have hi := (List.getElem?_eq_some_iff.1 hr).1
  rw [un_len] at hi
  rw [un_get hi] at hr
  cases hr
  exact urow_len
theorem un_BM {n : Nat} : BM (un n) 1 := by
  intro i r hr j x hx
  have hi := (List.getElem?_eq_some_iff.1 hr).1
  rw [un_len] at hi
  rw [un_get hi] at hr
  cases hr
  have hj := (List.getElem?_eq_some_iff.1 hx).1
  rw [urow_len] at hj
  rw [urow_get hj] at hx
  cases hx
  split <;> decide

theorem pw640 : 2 ^ 256 * 1 < LB ^ 20 ∧ 2 * 2 ^ 256 < LB ^ 20 ∧ 2 ^ 256 < LB ^ 20 := by decide
theorem pw_mono {s : Nat} (h : s ≤ 256) : 2 ^ s * 1 < LB ^ 20 := Nat.lt_of_le_of_lt (Nat.mul_le_mul_right _ (Nat.pow_le_pow_right (by decide) h)) pw640.1

section
variable {rs : List RRes} {base : Nat} {d : Option Nat} {l : List LOp} {dr : Dr} {ks : List KI} {e : Env} {σ : Store} {Q : CV → Store → Prop} {es : List PV}
theorem kpk_own {f b n sz : Nat} {r u : CV} (h : Pu rp f [.sl es] r) (hb : σ[b]? = some (.prow sz es)) (hn : n = es.length) (hu : scal (some r) = some u) : KC rp rs base .peek f [.own b 0 n] d l dr ks e σ Q = ExR rp rs base l dr ks (sto d u e) σ Q :=
  kpk_gl h (GL.own hb hn) hu
end

/-- what comes of a twist -/
def TwR (n N : Nat) (z : Int) (M : List (List Int)) (t : Nat) (R : CV) : Prop :=
  ((∃ s, 1 ≤ s ∧ s ≤ t ∧ 256 < bitsM (tM n z M s) N) → R = .tup [.p (.sl []), .p (.sl []), .p (.int .i64 40)]) ∧
  ((∀ s, 1 ≤ s → s ≤ t → bitsM (tM n z M s) N ≤ 256) → R = .tup [.p (.sl (zm (tM n z M t))), .p (.sl (zm (tM n z (un n) t))), .p (.int .i64 0)])

section
variable {b : List PV} {M : List (List Int)} {n N t : Nat} {z : Int} {R : CV}

theorem p42 (h59 : Pu rp 59 [.sl b] (.p (.int .i64 0))) (hML : ML b M) (hn : M.length = n) (h0 : 0 < n) (h12 : n ≤ 12) (hN : N ≤ 12) (hN0 : 0 < N) (hRL : RL M N) (hbits : bitsM M N ≤ 256) (ht : t ≤ 256) (hR : TwR n N z M t R) :
    Pu rp 42 [.sl b, .int .u64 z, .int .i64 t] R := by
  refine pu_of rp42 ?_
  have e0 : ((0 : Int) != 0) = false := rfl
  have e1 : ¬ (t : Int) < 0 := by omega
  have e2 : ¬ (t : Int) > 256 := by omega
  have hbn : b.length = n := by rw [hML.1, hn]
  simp only [f42, args0, S1, S2, S3, S4, S5, r_idx, r_mks, ev, resultsV, resL, resV, vl, gt, st, sto, fgt, i64, subCV, fill, setCells, mkAgg, allP, frz, frz1, frzL, frzs, kill, kill1, killL, kills, bnd, unV, bsz, toPs, toP, isPure1, pureL, List.elem, List.replicate, Int.reduceLE, Int.reduceLT, ↓reduceIte, reduceCtorEq, Nat.reduceLT, Nat.reduceEqDiff, Nat.reduceAdd, Nat.reduceMul, Nat.reduceLeDiff, Nat.reduceBEq, kp1 h59, e0, e1, e2]
  refine kc_keep' (n70 Wf.nil hML (by omega) fun ρ1 k1 hp1 hw1 hk1 hc1 => ?_)
  simp only [S1, S2, S3, S4, S5, r_idx, r_mks, ev, resultsV, resL, resV, vl, gt, st, sto, fgt, i64, subCV, fill, setCells, mkAgg, allP, frz, frz1, frzL, frzs, kill, kill1, killL, kills, bnd, unV, bsz, toPs, toP, isPure1, pureL, List.elem, List.replicate, Int.reduceLE, Int.reduceLT, ↓reduceIte, reduceCtorEq, Nat.reduceLT, Nat.reduceEqDiff, Nat.reduceAdd, Nat.reduceMul, Nat.reduceLeDiff, Nat.reduceBEq, hbn, hn]
  refine kc_keep' (n87 hw1 h0 (by omega) fun ρ2 k2 hp2 hw2 hk2 hc2 => ?_)
  have hk1l := (List.getElem?_eq_some_iff.1 hc1).1
  have hk2l := (List.getElem?_eq_some_iff.1 hc2).1
  have hc1' : ρ2[k1]? = some (.prow 1 (zm M)) := by rw [hp2.get k1 hk1l, hc1]
  simp only [S1, S2, S3, S4, S5, r_idx, r_mks, ev, resultsV, resL, resV, vl, gt, st, sto, fgt, i64, subCV, fill, setCells, mkAgg, allP, frz, frz1, frzL, frzs, kill, kill1, killL, kills, bnd, unV, bsz, toPs, toP, isPure1, pureL, List.elem, List.replicate, Int.reduceLE, Int.reduceLT, ↓reduceIte, reduceCtorEq, Nat.reduceLT, Nat.reduceEqDiff, Nat.reduceAdd, Nat.reduceMul, Nat.reduceLeDiff, Nat.reduceBEq, k49]
  refine loop_rule (β := Nat × Store) (fun q => ([(10, .own k1 0 n), (11, .own k2 0 n), (13, .fn 104 [.ptr ρ2.length 0 0]), (14, .fn 104 [.ptr (ρ2.length + 1) 0 0]), (38, .p (.int .i64 t)), (39, i64 q.1)], q.2))
    (fun q => q.1 ≤ t ∧ (∀ s, 1 ≤ s → s ≤ q.1 → bitsM (tM n z M s) N ≤ 256) ∧ Wf q.2 ∧ q.2[k1]? = some (.prow 1 (zm (tM n z M q.1))) ∧ q.2[k2]? = some (.prow 1 (zm (tM n z (un n) q.1))) ∧ q.2[ρ2.length]? = some (.kblk 1 [.p (.int .u64 (tz n z q.1))]) ∧ q.2[ρ2.length + 1]? = some (.kblk 1 [.p (.int .u64 (tz n z q.1))]))
    (fun q => t - q.1) ((0, ρ2 ++ [.kblk 1 [.p (.int .u64 z)], .kblk 1 [.p (.int .u64 z)]]) : Nat × Store) rfl rfl
    ⟨Nat.zero_le _, (fun s h1 h2 => by omega), ?_, by rw [get_left (Nat.lt_of_lt_of_le hk1l hp2.len), hc1']; rfl, by rw [get_left hk2l, hc2]; rfl, by rw [get_app0]; rfl, by rw [get_app]; rfl⟩ ?_
  · have := (hw2.push (x := .kblk 1 [.p (.int .u64 z)]) rfl).push (x := .kblk 1 [.p (.int .u64 z)]) rfl
    simpa [List.append_assoc] using this
  rintro ⟨s, τ⟩ ⟨hs, hgood, hw, g1, g2, c1, c2⟩ ih
  simp only [] at hs hgood hw g1 g2 c1 c2 ih ⊢
  have hlen1 : (tM n z M s).length = n := by rw [tM_len, hn]
  have hlen2 : (tM n z (un n) s).length = n := by rw [tM_len, un_len]
  have hB1 : BM (tM n z M s) (2 ^ 256) := by
    refine BM_of_bits (tM_RL hn h0 hRL) ?_
    rcases Nat.eq_zero_or_pos s with rfl | hpos
    · exact hbits
    · exact hgood s hpos (Nat.le_refl _)
  have hR1 : RM (tM n z M s) N := RM.of hN hN0 (tM_RL hn h0 hRL) hB1 pw640.2.2
  have hR2 : RM (tM n z (un n) s) n := RM.of h12 h0 (tM_RL un_len h0 un_RL) (tM_BM un_len h0 un_BM) (pw_mono (by omega))
  by_cases hst : (s : Int) < t
  · have hne1 : k1 ≠ k2 := by omega
    simp only [S1, S2, S3, S4, S5, r_idx, r_mks, ev, resultsV, resL, resV, vl, gt, st, sto, fgt, i64, subCV, fill, setCells, mkAgg, allP, frz, frz1, frzL, frzs, kill, kill1, killL, kills, bnd, unV, bsz, toPs, toP, isPure1, pureL, List.elem, List.replicate, Int.reduceLE, Int.reduceLT, ↓reduceIte, reduceCtorEq, Nat.reduceLT, Nat.reduceEqDiff, Nat.reduceAdd, Nat.reduceMul, Nat.reduceLeDiff, Nat.reduceBEq, hst]
    refine kc_full' (n88 hR1 hlen1 h0 h12 g1 c1 hw fun ρ hS => ?_)
    have tk : ρ.take τ.length = ρ := by rw [← hS.len, List.take_length]
    rw [tk]
    refine ⟨by rw [← hS.len]; exact hS.wf.all, .tup [], rfl, ?_⟩
    have g2' : ρ[k2]? = some (.prow 1 (zm (tM n z (un n) s))) := by rw [hS.rest k2 (by omega) (by omega), g2]
    have c2' : ρ[ρ2.length + 1]? = some (.kblk 1 [.p (.int .u64 (tz n z s))]) := by rw [hS.rest _ (by omega) (by have := hp2.len; omega), c2]
    simp only [S1, S2, S3, S4, S5, r_idx, r_mks, ev, resultsV, resL, resV, vl, gt, st, sto, fgt, i64, subCV, fill, setCells, mkAgg, allP, frz, frz1, frzL, frzs, kill, kill1, killL, kills, bnd, unV, bsz, toPs, toP, isPure1, pureL, List.elem, List.replicate, Int.reduceLE, Int.reduceLT, ↓reduceIte, reduceCtorEq, Nat.reduceLT, Nat.reduceEqDiff, Nat.reduceAdd, Nat.reduceMul, Nat.reduceLeDiff, Nat.reduceBEq]
    refine kc_full' (n88 hR2 hlen2 h0 h12 g2' c2' hS.wf fun ω hT => ?_)
    have tk2 : ω.take ρ.length = ω := by rw [← hT.len, List.take_length]
    rw [tk2]
    refine ⟨by rw [← hT.len]; exact hT.wf.all, .tup [], rfl, ?_⟩
    have g1' : ω[k1]? = some (.prow 1 (zm (tM n z M (s + 1)))) := by rw [hT.rest k1 (by have := hp2.len; omega) (by omega), hS.mat]; rfl
    have c1' : ω[ρ2.length]? = some (.kblk 1 [.p (.int .u64 (tz n z (s + 1)))]) := by rw [hT.rest _ (by omega) (by omega), hS.cell]; rfl
    have hlen3 : (tM n z M (s + 1)).length = n := by rw [tM_len, hn]
    have hR3 : RM (tM n z M (s + 1)) N := RM.of hN hN0 (tM_RL hn h0 hRL) (twm_BM hlen1 h0 hB1) pw640.2.1
    have k80 := (p80 hR3.mr (by rw [zm_len]; omega)).lift base_le
    rw [zm_len] at k80
    have hkp := fun {rs base d l dr ks e Q} => kpk_own (rs := rs) (base := base) (d := d) (l := l) (dr := dr) (ks := ks) (e := e) (Q := Q) (n := n) k80 g1' (by rw [zm_len, hlen3]) rfl
    have hbm : bm (fun _ => N) (en (tM n z M (s + 1))) (tM n z M (s + 1)).length = bitsM (tM n z M (s + 1)) N := rfl
    rw [hbm] at hkp
    have w1 : IntKind.i64.wrap ((s : Int) + 1) = ((s + 1 : Nat) : Int) := by rw [IntWalk.i64_in _ (by omega)]; omega
    by_cases hbad : 256 < bitsM (tM n z M (s + 1)) N
    · have e3 : ((bitsM (tM n z M (s + 1)) N : Nat) : Int) > 256 := by omega
      simp only [S1, S2, S3, S4, S5, r_idx, r_mks, ev, resultsV, resL, resV, vl, gt, st, sto, fgt, i64, subCV, fill, setCells, mkAgg, allP, frz, frz1, frzL, frzs, kill, kill1, killL, kills, bnd, unV, bsz, toPs, toP, isPure1, pureL, List.elem, List.replicate, Int.reduceLE, Int.reduceLT, ↓reduceIte, reduceCtorEq, Nat.reduceLT, Nat.reduceEqDiff, Nat.reduceAdd, Nat.reduceMul, Nat.reduceLeDiff, Nat.reduceBEq, hkp, e3]
      rw [hR.1 ⟨s + 1, by omega, by omega, hbad⟩]
      rfl
    · have e3 : ¬ ((bitsM (tM n z M (s + 1)) N : Nat) : Int) > 256 := by omega
      simp only [S1, S2, S3, S4, S5, r_idx, r_mks, ev, resultsV, resL, resV, vl, gt, st, sto, fgt, i64, subCV, fill, setCells, mkAgg, allP, frz, frz1, frzL, frzs, kill, kill1, killL, kills, bnd, unV, bsz, toPs, toP, isPure1, pureL, List.elem, List.replicate, Int.reduceLE, Int.reduceLT, ↓reduceIte, reduceCtorEq, Nat.reduceLT, Nat.reduceEqDiff, Nat.reduceAdd, Nat.reduceMul, Nat.reduceLeDiff, Nat.reduceBEq, hkp, e3, w1]
      refine ih (s + 1, ω) _ ⟨by simp only []; omega, fun q h1 h2 => ?_, hT.wf, g1', hT.mat, c1', hT.cell⟩ (by simp only []; omega) ?_
      · rcases Nat.lt_or_ge q (s + 1) with h | h
        · exact hgood q h1 (by omega)
        · obtain rfl : q = s + 1 := by simp only [] at h2; omega
          omega
      · rfl
  · obtain rfl : s = t := by omega
    simp only [S1, S2, S3, S4, S5, r_idx, r_mks, ev, resultsV, resL, resV, vl, gt, st, sto, fgt, i64, subCV, fill, setCells, mkAgg, allP, frz, frz1, frzL, frzs, kill, kill1, killL, kills, bnd, unV, bsz, toPs, toP, isPure1, pureL, List.elem, List.replicate, Int.reduceLE, Int.reduceLT, ↓reduceIte, reduceCtorEq, Nat.reduceLT, Nat.reduceEqDiff, Nat.reduceAdd, Nat.reduceMul, Nat.reduceLeDiff, Nat.reduceBEq, hst]
    rw [hR.2 hgood]
    have b1 := back_ge (base := 0) (n := n) g1 (by rw [zm_len, hlen1]) (Nat.zero_le _)
    have b2 := back_ge (base := 0) (n := n) g2 (by rw [zm_len, hlen2]) (Nat.zero_le _)
    exact back_t3 b1 b2 back1_p
end
end Go.Proofs.Ytdieenbfdeaffaa.VKs

namespace Go.Proofs.Ytdieenbfdeaffaa.VKs
open Go Vpi
open VBn hiding rp tab rp_ok all_ok mixed sim Big
set_option maxRecDepth 100000
set_option linter.unusedSimpArgs false
set_option linter.unusedVariables false

theorem i64_small {o n : Nat} (h : o < n) (hn : n ≤ 12) : IntKind.i64.wrap (o : Int) = (o : Int) := IntWalk.i64_in _ (by omega)
theorem u64_small {n : Nat} (hn : n ≤ 12) : IntKind.u64.wrap (n : Int) = (n : Int) := by rw [IntKind.wrap_u64]; omega
theorem i64_dec {n : Nat} (h1 : 1 < n) (hn : n ≤ 12) : IntKind.i64.wrap ((n : Int) - 1) = ((n - 1 : Nat) : Int) := by rw [IntWalk.i64_in _ (by omega)]; omega
theorem i64_inc {o n : Nat} (h : o < n) (hn : n ≤ 12) : IntKind.i64.wrap ((o : Int) + 1) = ((o + 1 : Nat) : Int) := by rw [IntWalk.i64_in _ (by omega)]; omega

theorem jc (a b : Nat) : (((b : Int) ≥ (a : Int)) ∧ b + 1 = (if a ≤ b then b + 1 else b)) ∨ (¬ (((if a ≤ b then b + 1 else b : Nat) : Int) ≥ (a : Int)) ∧ b = (if a ≤ b then b + 1 else b)) := by
  by_cases h : a ≤ b
  · rw [if_pos h]; exact .inl ⟨Int.ofNat_le.2 h, rfl⟩
  · rw [if_neg h]; exact .inr ⟨fun hh => h (Int.ofNat_le.1 hh), rfl⟩
theorem twj_cases {n : Nat} {z : Int} : ((((otn (nz z) (n - 1) : Nat) : Int) ≥ ((twi n z : Nat) : Int)) ∧ otn (nz z) (n - 1) + 1 = twj n z) ∨ (¬ (((twj n z : Nat) : Int) ≥ ((twi n z : Nat) : Int)) ∧ otn (nz z) (n - 1) = twj n z) := by
  unfold twj twi
  exact jc _ _

section
variable {b : List PV} {M : List (List Int)} {n N t : Nat} {z : Int} {R : CV}

theorem p43 (h61 : Pu rp 61 [.sl b] (.p (.int .i64 0))) (hML : ML b M) (hn : M.length = n) (h0 : 0 < n) (h12 : n ≤ 12) (hN : N ≤ 12) (hN0 : 0 < N) (hRL : RL M N) (hbits : bitsM M N ≤ 256) (ht : t ≤ 256) (hR : TwR n N z M t R) :
    Pu rp 43 [.sl b, .int .u64 z, .int .i64 t] R := by
  refine pu_of rp43 ?_
  have e0 : ((0 : Int) != 0) = false := rfl
  have e1 : ¬ (t : Int) < 0 := by omega
  have e2 : ¬ (t : Int) > 256 := by omega
  have hbn : b.length = n := by rw [hML.1, hn]
  simp only [f43, args0, S1, S2, S3, S4, S5, r_idx, r_mks, ev, resultsV, resL, resV, vl, gt, st, sto, fgt, i64, subCV, fill, setCells, mkAgg, allP, frz, frz1, frzL, frzs, kill, kill1, killL, kills, bnd, unV, bsz, toPs, toP, isPure1, pureL, List.elem, List.replicate, Int.reduceLE, Int.reduceLT, ↓reduceIte, reduceCtorEq, Nat.reduceLT, Nat.reduceEqDiff, Nat.reduceAdd, Nat.reduceMul, Nat.reduceLeDiff, Nat.reduceBEq, kp1 h61, e0, e1, e2, hbn]
  refine kc_keep' (n89 Wf.nil hML (by omega) fun ρ1 c hp1 hw1 hk1 hG => ?_)
  obtain ⟨k1, hc, hc1, -⟩ := GL.own_of hG (show (zm M).length = n by rw [zm_len, hn]) h0
  subst hc
  simp only [S1, S2, S3, S4, S5, r_idx, r_mks, ev, resultsV, resL, resV, vl, gt, st, sto, fgt, i64, subCV, fill, setCells, mkAgg, allP, frz, frz1, frzL, frzs, kill, kill1, killL, kills, bnd, unV, bsz, toPs, toP, isPure1, pureL, List.elem, List.replicate, Int.reduceLE, Int.reduceLT, ↓reduceIte, reduceCtorEq, Nat.reduceLT, Nat.reduceEqDiff, Nat.reduceAdd, Nat.reduceMul, Nat.reduceLeDiff, Nat.reduceBEq]
  refine kc_keep' (n90 hw1 h0 (by omega) fun ρ2 k2 hp2 hw2 hk2 hc2 => ?_)
  have hk1l := (List.getElem?_eq_some_iff.1 hc1).1
  have hk2l := (List.getElem?_eq_some_iff.1 hc2).1
  have hc1' : ρ2[k1]? = some (.prow 1 (zm M)) := by rw [hp2.get k1 hk1l, hc1]
  simp only [S1, S2, S3, S4, S5, r_idx, r_mks, ev, resultsV, resL, resV, vl, gt, st, sto, fgt, i64, subCV, fill, setCells, mkAgg, allP, frz, frz1, frzL, frzs, kill, kill1, killL, kills, bnd, unV, bsz, toPs, toP, isPure1, pureL, List.elem, List.replicate, Int.reduceLE, Int.reduceLT, ↓reduceIte, reduceCtorEq, Nat.reduceLT, Nat.reduceEqDiff, Nat.reduceAdd, Nat.reduceMul, Nat.reduceLeDiff, Nat.reduceBEq]
  refine loop_rule (β := Nat × Store) (fun q => ([(2, .p (.int .i64 t)), (10, i64 n), (11, .own k1 0 n), (12, .own k2 0 n), (14, .ptr ρ2.length 0 0), (15, i64 q.1)], q.2))
    (fun q => q.1 ≤ t ∧ (∀ s, 1 ≤ s → s ≤ q.1 → bitsM (tM n z M s) N ≤ 256) ∧ Wf q.2 ∧ q.2[k1]? = some (.prow 1 (zm (tM n z M q.1))) ∧ q.2[k2]? = some (.prow 1 (zm (tM n z (un n) q.1))) ∧ q.2[ρ2.length]? = some (.kblk 1 [.p (.int .u64 (tz n z q.1))]))
    (fun q => t - q.1) ((0, ρ2 ++ [.kblk 1 [.p (.int .u64 z)]]) : Nat × Store) rfl rfl
    ⟨Nat.zero_le _, (fun s h1 h2 => by omega), hw2.push rfl, by rw [get_left (Nat.lt_of_lt_of_le hk1l hp2.len), hc1']; rfl, by rw [get_left hk2l, hc2]; rfl, by rw [get_app0]; rfl⟩ ?_
  rintro ⟨s, τ⟩ ⟨hs, hgood, hw, g1, g2, c1⟩ ih
  simp only [] at hs hgood hw g1 g2 c1 ih ⊢
  have hlen1 : (tM n z M s).length = n := by rw [tM_len, hn]
  have hlen2 : (tM n z (un n) s).length = n := by rw [tM_len, un_len]
  have hB1 : BM (tM n z M s) (2 ^ 256) := by
    refine BM_of_bits (tM_RL hn h0 hRL) ?_
    rcases Nat.eq_zero_or_pos s with rfl | hpos
    · exact hbits
    · exact hgood s hpos (Nat.le_refl _)
  have hR1 : RM (tM n z M s) N := RM.of hN hN0 (tM_RL hn h0 hRL) hB1 pw640.2.2
  have hR2 : RM (tM n z (un n) s) n := RM.of h12 h0 (tM_RL un_len h0 un_RL) (tM_BM un_len h0 un_BM) (pw_mono (by omega))
  by_cases hst : (s : Int) < t
  · have hne1 : k1 ≠ k2 := by omega
    have hlt1 : k1 < ρ2.length := Nat.lt_of_lt_of_le hk1l hp2.len
    have hpl := (List.getElem?_eq_some_iff.1 c1).1
    have hlen3 : (tM n z M (s + 1)).length = n := by rw [tM_len, hn]
    have hR3 : RM (tM n z M (s + 1)) N := RM.of hN hN0 (tM_RL hn h0 hRL) (twm_BM hlen1 h0 hB1) pw640.2.1
    have k92 := p92 hR3.mr (by rw [zm_len]; omega)
    rw [zm_len] at k92
    have hbm : bm (fun _ => N) (en (tM n z M (s + 1))) (tM n z M (s + 1)).length = bitsM (tM n z M (s + 1)) N := rfl
    rw [hbm] at k92
    have w1 : IntKind.i64.wrap ((s : Int) + 1) = ((s + 1 : Nat) : Int) := by rw [IntWalk.i64_in _ (by omega)]; omega
    -- what stands behind the turns
    have tail : ∀ (ω : Store) (e' : Env), ω[k1]? = some (.prow 1 (zm (tM n z M (s + 1)))) → ω[k2]? = some (.prow 1 (zm (tM n z (un n) (s + 1)))) → ω[ρ2.length]? = some (.kblk 1 [.p (.int .u64 (tz n z (s + 1)))]) → Wf ω →
        fgt [2, 10, 11, 12, 14, 15] e' = [(2, .p (.int .i64 t)), (10, i64 n), (11, .own k1 0 n), (12, .own k2 0 n), (14, .ptr ρ2.length 0 0), (15, i64 ((s + 1 : Nat) : Int))] → ¬ 256 < bitsM (tM n z M (s + 1)) N →
        Ex rp [RRes.t 6, RRes.t 7, RRes.t 8] .skip (.lp (.fg [2, 10, 11, 12, 14, 15] _) :: _) e' ω (fun v τ => back 0 τ v = some R) := fun ω e' a1 a2 a3 a4 a5 a6 =>
      ih (s + 1, ω) e' ⟨by simp only []; omega, fun q h1 h2 => by
        rcases Nat.lt_or_ge q (s + 1) with h | h
        · exact hgood q h1 (by omega)
        · obtain rfl : q = s + 1 := by simp only [] at h2; omega
          omega, a4, a1, a2, a3⟩ (by simp only []; omega) a5
    have kpk := fun {ω : Store} (g : ω[k1]? = some (.prow 1 (zm (tM n z M (s + 1))))) {rs base d l dr ks e Q} => kpk_own (rs := rs) (base := base) (d := d) (l := l) (dr := dr) (ks := ks) (e := e) (Q := Q) (n := n) k92 g (by rw [zm_len, hlen3]) rfl
    have kk := fun {rs base d l dr ks e Q} (q : Nat) (hq : 0 < q) => k50' (rs := rs) (base := base) (d := d) (l := l) (dr := dr) (ks := ks) (e := e) (Q := Q) (q := q) c1 hq hw
    have hp' : ∀ x, (τ.set ρ2.length x)[ρ2.length]? = some x := fun x => get_self hpl
    have h1' : ∀ x, (τ.set ρ2.length x)[k1]? = some (.prow 1 (zm (tM n z M s))) := fun x => by rw [get_ne (by omega), g1]
    have h2' : ∀ x, (τ.set ρ2.length x)[k2]? = some (.prow 1 (zm (tM n z (un n) s))) := fun x => by rw [get_ne (by omega), g2]
    have bad40 : 256 < bitsM (tM n z M (s + 1)) N → R = .tup [.p (.sl []), .p (.sl []), .p (.int .i64 40)] := fun h => hR.1 ⟨s + 1, by omega, by omega, h⟩
    have hbits2 : (256 < bitsM (tM n z M (s + 1)) N ∧ ((bitsM (tM n z M (s + 1)) N : Nat) : Int) > 256) ∨ (¬ 256 < bitsM (tM n z M (s + 1)) N ∧ ¬ ((bitsM (tM n z M (s + 1)) N : Nat) : Int) > 256) := by omega
    by_cases hn1 : n = 1
    · have g4 : ¬ (n : Int) > 1 := by omega
      have k4 := fun {rs base d l dr ks e Q} => kk (rs := rs) (base := base) (d := d) (l := l) (dr := dr) (ks := ks) (e := e) (Q := Q) 4 (by decide)
      have c4 : ((4 : Nat) : Int) = 4 := rfl
      rw [c4] at k4
      have hz1 : tz n z (s + 1) = nz (tz n z s) := by rw [tz]; unfold twz; rw [if_pos hn1]
      by_cases h3 : otn (tz n z s) 4 = 3
      · have e3 : (((otn (tz n z s) 4 : Nat) : Int) == 3) = true := by rw [h3]; rfl
        have e33 : ((otn (tz n z s) 4 : Nat) : Int) = ((3 : Nat) : Int) := by rw [h3]
        have hM1 : tM n z M (s + 1) = tws 3 0 0 (tM n z M s) := by rw [tM]; unfold twm; rw [if_pos hn1, if_pos h3]
        have hU1 : tM n z (un n) (s + 1) = tws 3 0 0 (tM n z (un n) s) := by rw [tM]; unfold twm; rw [if_pos hn1, if_pos h3]
        simp only [S1, S2, S3, S4, S5, r_idx, r_mks, ev, resultsV, resL, resV, vl, gt, st, sto, fgt, i64, subCV, fill, setCells, mkAgg, allP, frz, frz1, frzL, frzs, kill, kill1, killL, kills, bnd, unV, bsz, toPs, toP, isPure1, pureL, List.elem, List.replicate, Int.reduceLE, Int.reduceLT, ↓reduceIte, reduceCtorEq, Nat.reduceLT, Nat.reduceEqDiff, Nat.reduceAdd, Nat.reduceMul, Nat.reduceLeDiff, Nat.reduceBEq, hst, g4, k4, e3, e33]
        refine kc_full' (n91 (i := 0) (j := 0) (w := 3) hR1 hlen1 h0 h0 (h1' _) ?_)
        rw [List.take_of_length_le (by simp)]
        refine ⟨by have := ((hw.set (b := ρ2.length) (x := .kblk 1 [.p (.int .u64 (nz (tz n z s)))]) rfl).set (b := k1) (x := .prow 1 (zm (tws 3 0 0 (tM n z M s)))) rfl).all; simpa using this, .tup [], rfl, ?_⟩
        have g2' : ((τ.set ρ2.length (.kblk 1 [.p (.int .u64 (nz (tz n z s)))])).set k1 (.prow 1 (zm (tws 3 0 0 (tM n z M s)))))[k2]? = some (.prow 1 (zm (tM n z (un n) s))) := by rw [get_ne hne1, h2']
        simp only [S1, S2, S3, S4, S5, r_idx, r_mks, ev, resultsV, resL, resV, vl, gt, st, sto, fgt, i64, subCV, fill, setCells, mkAgg, allP, frz, frz1, frzL, frzs, kill, kill1, killL, kills, bnd, unV, bsz, toPs, toP, isPure1, pureL, List.elem, List.replicate, Int.reduceLE, Int.reduceLT, ↓reduceIte, reduceCtorEq, Nat.reduceLT, Nat.reduceEqDiff, Nat.reduceAdd, Nat.reduceMul, Nat.reduceLeDiff, Nat.reduceBEq]
        refine kc_full' (n91 (i := 0) (j := 0) (w := 3) hR2 hlen2 h0 h0 g2' ?_)
        rw [List.take_of_length_le (by simp)]
        refine ⟨by have := (((hw.set (b := ρ2.length) (x := .kblk 1 [.p (.int .u64 (nz (tz n z s)))]) rfl).set (b := k1) (x := .prow 1 (zm (tws 3 0 0 (tM n z M s)))) rfl).set (b := k2) (x := .prow 1 (zm (tws 3 0 0 (tM n z (un n) s)))) rfl).all; simpa using this, .tup [], rfl, ?_⟩
        obtain ⟨ω, hω⟩ : ∃ ω, ω = ((τ.set ρ2.length (.kblk 1 [.p (.int .u64 (nz (tz n z s)))])).set k1 (.prow 1 (zm (tws 3 0 0 (tM n z M s))))).set k2 (.prow 1 (zm (tws 3 0 0 (tM n z (un n) s)))) := ⟨_, rfl⟩
        have a1 : ω[k1]? = some (.prow 1 (zm (tM n z M (s + 1)))) := by rw [hω, get_ne hne1.symm, get_self (by rw [List.length_set]; exact (List.getElem?_eq_some_iff.1 g1).1), hM1]
        have a2 : ω[k2]? = some (.prow 1 (zm (tM n z (un n) (s + 1)))) := by rw [hω, get_self (by rw [List.length_set, List.length_set]; exact (List.getElem?_eq_some_iff.1 g2).1), hU1]
        have a3 : ω[ρ2.length]? = some (.kblk 1 [.p (.int .u64 (tz n z (s + 1)))]) := by rw [hω, get_ne (by omega), get_ne (by omega), hp', hz1]
        have a4 : Wf ω := by rw [hω]; exact ((hw.set rfl).set rfl).set rfl
        rw [← hω]
        rcases hbits2 with ⟨hbad, hgt⟩ | ⟨hok, hgt⟩
        · simp only [S1, S2, S3, S4, S5, r_idx, r_mks, ev, resultsV, resL, resV, vl, gt, st, sto, fgt, i64, subCV, fill, setCells, mkAgg, allP, frz, frz1, frzL, frzs, kill, kill1, killL, kills, bnd, unV, bsz, toPs, toP, isPure1, pureL, List.elem, List.replicate, Int.reduceLE, Int.reduceLT, ↓reduceIte, reduceCtorEq, Nat.reduceLT, Nat.reduceEqDiff, Nat.reduceAdd, Nat.reduceMul, Nat.reduceLeDiff, Nat.reduceBEq, kpk a1, hgt]
          rw [bad40 hbad]; rfl
        · simp only [S1, S2, S3, S4, S5, r_idx, r_mks, ev, resultsV, resL, resV, vl, gt, st, sto, fgt, i64, subCV, fill, setCells, mkAgg, allP, frz, frz1, frzL, frzs, kill, kill1, killL, kills, bnd, unV, bsz, toPs, toP, isPure1, pureL, List.elem, List.replicate, Int.reduceLE, Int.reduceLT, ↓reduceIte, reduceCtorEq, Nat.reduceLT, Nat.reduceEqDiff, Nat.reduceAdd, Nat.reduceMul, Nat.reduceLeDiff, Nat.reduceBEq, kpk a1, hgt, w1]
          exact tail ω _ a1 a2 a3 a4 rfl hok
      · have e3 : (((otn (tz n z s) 4 : Nat) : Int) == 3) = false := by
          rw [beq_eq_false_iff_ne]
          intro h
          exact h3 (by omega)
        have hM1 : tM n z M (s + 1) = tM n z M s := by rw [tM]; unfold twm; rw [if_pos hn1, if_neg h3]
        have hU1 : tM n z (un n) (s + 1) = tM n z (un n) s := by rw [tM]; unfold twm; rw [if_pos hn1, if_neg h3]
        obtain ⟨ω, hω⟩ : ∃ ω, ω = τ.set ρ2.length (.kblk 1 [.p (.int .u64 (nz (tz n z s)))]) := ⟨_, rfl⟩
        have a1 : ω[k1]? = some (.prow 1 (zm (tM n z M (s + 1)))) := by rw [hω, h1', hM1]
        have a2 : ω[k2]? = some (.prow 1 (zm (tM n z (un n) (s + 1)))) := by rw [hω, h2', hU1]
        have a3 : ω[ρ2.length]? = some (.kblk 1 [.p (.int .u64 (tz n z (s + 1)))]) := by rw [hω, hp', hz1]
        have a4 : Wf ω := by rw [hω]; exact hw.set rfl
        simp only [S1, S2, S3, S4, S5, r_idx, r_mks, ev, resultsV, resL, resV, vl, gt, st, sto, fgt, i64, subCV, fill, setCells, mkAgg, allP, frz, frz1, frzL, frzs, kill, kill1, killL, kills, bnd, unV, bsz, toPs, toP, isPure1, pureL, List.elem, List.replicate, Int.reduceLE, Int.reduceLT, ↓reduceIte, reduceCtorEq, Nat.reduceLT, Nat.reduceEqDiff, Nat.reduceAdd, Nat.reduceMul, Nat.reduceLeDiff, Nat.reduceBEq, hst, g4, k4, e3]
        rw [← hω]
        rcases hbits2 with ⟨hbad, hgt⟩ | ⟨hok, hgt⟩
        · simp only [S1, S2, S3, S4, S5, r_idx, r_mks, ev, resultsV, resL, resV, vl, gt, st, sto, fgt, i64, subCV, fill, setCells, mkAgg, allP, frz, frz1, frzL, frzs, kill, kill1, killL, kills, bnd, unV, bsz, toPs, toP, isPure1, pureL, List.elem, List.replicate, Int.reduceLE, Int.reduceLT, ↓reduceIte, reduceCtorEq, Nat.reduceLT, Nat.reduceEqDiff, Nat.reduceAdd, Nat.reduceMul, Nat.reduceLeDiff, Nat.reduceBEq, kpk a1, hgt]
          rw [bad40 hbad]; rfl
        · simp only [S1, S2, S3, S4, S5, r_idx, r_mks, ev, resultsV, resL, resV, vl, gt, st, sto, fgt, i64, subCV, fill, setCells, mkAgg, allP, frz, frz1, frzL, frzs, kill, kill1, killL, kills, bnd, unV, bsz, toPs, toP, isPure1, pureL, List.elem, List.replicate, Int.reduceLE, Int.reduceLT, ↓reduceIte, reduceCtorEq, Nat.reduceLT, Nat.reduceEqDiff, Nat.reduceAdd, Nat.reduceMul, Nat.reduceLeDiff, Nat.reduceBEq, kpk a1, hgt, w1]
          exact tail ω _ a1 a2 a3 a4 rfl hok
    · have hn2 : 1 < n := Nat.lt_of_le_of_ne h0 (Ne.symm hn1)
      have g4 : (n : Int) > 1 := Int.ofNat_lt.2 hn2
      have hm1 : 0 < n - 1 := Nat.sub_pos_of_lt hn2
      have hm2 : n - 1 ≤ 12 := Nat.le_trans (Nat.sub_le _ _) h12
      have hz1 : tz n z (s + 1) = nz (nz (nz (tz n z s))) := by rw [tz]; unfold twz; rw [if_neg hn1]
      have hM1 : tM n z M (s + 1) = tws (tww (tz n z s)) (twi n (tz n z s)) (twj n (tz n z s)) (tM n z M s) := by rw [tM]; unfold twm; rw [if_neg hn1]
      have hU1 : tM n z (un n) (s + 1) = tws (tww (tz n z s)) (twi n (tz n z s)) (twj n (tz n z s)) (tM n z (un n) s) := by rw [tM]; unfold twm; rw [if_neg hn1]
      have u0 := u64_small h12
      have u1 := i64_dec hn2 h12
      have u2 := u64_small (n := n - 1) hm2
      have hi := twi_lt (z := tz n z s) h0
      have hj := twj_lt (n := n) (z := tz n z s) hn2
      have ho := otn_lt (z := nz (tz n z s)) (q := n - 1) hm1
      have i1 := i64_small hi h12
      have i4 := i64_small hj h12
      have i2 := i64_small ho hm2
      have i3 := i64_inc ho hm2
      have q1 := fun {rs base d l dr ks e Q} => kk (rs := rs) (base := base) (d := d) (l := l) (dr := dr) (ks := ks) (e := e) (Q := Q) n h0
      have q2 := fun {rs base d l dr ks e Q} => k50' (rs := rs) (base := base) (d := d) (l := l) (dr := dr) (ks := ks) (e := e) (Q := Q) (σ := τ.set ρ2.length (.kblk 1 [.p (.int .u64 (nz (tz n z s)))])) (q := n - 1) (hp' _) hm1 (hw.set rfl)
      have q3 := fun {rs base d l dr ks e Q} => k50' (rs := rs) (base := base) (d := d) (l := l) (dr := dr) (ks := ks) (e := e) (Q := Q) (σ := τ.set ρ2.length (.kblk 1 [.p (.int .u64 (nz (nz (tz n z s))))])) (q := 4) (hp' _) (by decide) (hw.set rfl)
      have c4 : ((4 : Nat) : Int) = 4 := rfl
      rw [c4] at q3
      simp only [List.set_set] at q2 q3
      have go : otn (tz n z s) n = twi n (tz n z s) := rfl
      have gw : otn (nz (nz (tz n z s))) 4 = tww (tz n z s) := rfl
      have hjc := twj_cases (n := n) (z := tz n z s)
      rw [go] at q1
      rw [gw] at q3
      generalize twi n (tz n z s) = i at *
      generalize twj n (tz n z s) = j at *
      generalize tww (tz n z s) = w at *
      generalize otn (nz (tz n z s)) (n - 1) = o at *
      have fin : ∀ e', fgt [2, 10, 11, 12, 14, 15, 16, 17, 18] e' = [(2, .p (.int .i64 t)), (10, i64 n), (11, .own k1 0 n), (12, .own k2 0 n), (14, .ptr ρ2.length 0 0), (15, i64 s), (16, i64 i), (17, i64 j), (18, .p (.int .u64 w))] → True := fun _ _ => trivial
      rcases hjc with ⟨hge, hje⟩ | ⟨hge, hje⟩
      all_goals
        simp only [S1, S2, S3, S4, S5, r_idx, r_mks, ev, resultsV, resL, resV, vl, gt, st, sto, fgt, i64, subCV, fill, setCells, mkAgg, allP, frz, frz1, frzL, frzs, kill, kill1, killL, kills, bnd, unV, bsz, toPs, toP, isPure1, pureL, List.elem, List.replicate, Int.reduceLE, Int.reduceLT, ↓reduceIte, reduceCtorEq, Nat.reduceLT, Nat.reduceEqDiff, Nat.reduceAdd, Nat.reduceMul, Nat.reduceLeDiff, Nat.reduceBEq, hst, g4, u0, q1, i1, u1, u2, q2, i2, i3, i4, hge, hje, q3]
        refine kc_full' (n91 (i := i) (j := j) (w := w) hR1 hlen1 hi hj (h1' _) ?_)
        rw [List.take_of_length_le (by simp)]
        refine ⟨by have := ((hw.set (b := ρ2.length) (x := .kblk 1 [.p (.int .u64 (nz (nz (nz (tz n z s)))))]) rfl).set (b := k1) (x := .prow 1 (zm (tws w i j (tM n z M s)))) rfl).all; simpa using this, .tup [], rfl, ?_⟩
        have g2' : ((τ.set ρ2.length (.kblk 1 [.p (.int .u64 (nz (nz (nz (tz n z s)))))])).set k1 (.prow 1 (zm (tws w i j (tM n z M s)))))[k2]? = some (.prow 1 (zm (tM n z (un n) s))) := by rw [get_ne hne1, h2']
        simp only [S1, S2, S3, S4, S5, r_idx, r_mks, ev, resultsV, resL, resV, vl, gt, st, sto, fgt, i64, subCV, fill, setCells, mkAgg, allP, frz, frz1, frzL, frzs, kill, kill1, killL, kills, bnd, unV, bsz, toPs, toP, isPure1, pureL, List.elem, List.replicate, Int.reduceLE, Int.reduceLT, ↓reduceIte, reduceCtorEq, Nat.reduceLT, Nat.reduceEqDiff, Nat.reduceAdd, Nat.reduceMul, Nat.reduceLeDiff, Nat.reduceBEq]
        refine kc_full' (n91 (i := i) (j := j) (w := w) hR2 hlen2 hi hj g2' ?_)
        rw [List.take_of_length_le (by simp)]
        refine ⟨by have := (((hw.set (b := ρ2.length) (x := .kblk 1 [.p (.int .u64 (nz (nz (nz (tz n z s)))))]) rfl).set (b := k1) (x := .prow 1 (zm (tws w i j (tM n z M s)))) rfl).set (b := k2) (x := .prow 1 (zm (tws w i j (tM n z (un n) s)))) rfl).all; simpa using this, .tup [], rfl, ?_⟩
        obtain ⟨ω, hω⟩ : ∃ ω, ω = ((τ.set ρ2.length (.kblk 1 [.p (.int .u64 (nz (nz (nz (tz n z s)))))])).set k1 (.prow 1 (zm (tws w i j (tM n z M s))))).set k2 (.prow 1 (zm (tws w i j (tM n z (un n) s)))) := ⟨_, rfl⟩
        have a1 : ω[k1]? = some (.prow 1 (zm (tM n z M (s + 1)))) := by rw [hω, get_ne hne1.symm, get_self (by rw [List.length_set]; exact (List.getElem?_eq_some_iff.1 g1).1), hM1]
        have a2 : ω[k2]? = some (.prow 1 (zm (tM n z (un n) (s + 1)))) := by rw [hω, get_self (by rw [List.length_set, List.length_set]; exact (List.getElem?_eq_some_iff.1 g2).1), hU1]
        have a3 : ω[ρ2.length]? = some (.kblk 1 [.p (.int .u64 (tz n z (s + 1)))]) := by rw [hω, get_ne (by omega), get_ne (by omega), hp', hz1]
        have a4 : Wf ω := by rw [hω]; exact ((hw.set rfl).set rfl).set rfl
        rw [← hω]
        rcases hbits2 with ⟨hbad, hgt⟩ | ⟨hok, hgt⟩
        · simp only [S1, S2, S3, S4, S5, r_idx, r_mks, ev, resultsV, resL, resV, vl, gt, st, sto, fgt, i64, subCV, fill, setCells, mkAgg, allP, frz, frz1, frzL, frzs, kill, kill1, killL, kills, bnd, unV, bsz, toPs, toP, isPure1, pureL, List.elem, List.replicate, Int.reduceLE, Int.reduceLT, ↓reduceIte, reduceCtorEq, Nat.reduceLT, Nat.reduceEqDiff, Nat.reduceAdd, Nat.reduceMul, Nat.reduceLeDiff, Nat.reduceBEq, kpk a1, hgt]
          rw [bad40 hbad]; rfl
        · simp only [S1, S2, S3, S4, S5, r_idx, r_mks, ev, resultsV, resL, resV, vl, gt, st, sto, fgt, i64, subCV, fill, setCells, mkAgg, allP, frz, frz1, frzL, frzs, kill, kill1, killL, kills, bnd, unV, bsz, toPs, toP, isPure1, pureL, List.elem, List.replicate, Int.reduceLE, Int.reduceLT, ↓reduceIte, reduceCtorEq, Nat.reduceLT, Nat.reduceEqDiff, Nat.reduceAdd, Nat.reduceMul, Nat.reduceLeDiff, Nat.reduceBEq, kpk a1, hgt, w1]
          exact tail ω _ a1 a2 a3 a4 rfl hok
  · obtain rfl : s = t := by omega
    simp only [S1, S2, S3, S4, S5, r_idx, r_mks, ev, resultsV, resL, resV, vl, gt, st, sto, fgt, i64, subCV, fill, setCells, mkAgg, allP, frz, frz1, frzL, frzs, kill, kill1, killL, kills, bnd, unV, bsz, toPs, toP, isPure1, pureL, List.elem, List.replicate, Int.reduceLE, Int.reduceLT, ↓reduceIte, reduceCtorEq, Nat.reduceLT, Nat.reduceEqDiff, Nat.reduceAdd, Nat.reduceMul, Nat.reduceLeDiff, Nat.reduceBEq, hst]
    rw [hR.2 hgood]
    have b1 := back_ge (base := 0) (n := n) g1 (by rw [zm_len, hlen1]) (Nat.zero_le _)
    have b2 := back_ge (base := 0) (n := n) g2 (by rw [zm_len, hlen2]) (Nat.zero_le _)
    exact back_t3 b1 b2 back1_p
end
end Go.Proofs.Ytdieenbfdeaffaa.VKs

namespace Go.Proofs.Ytdieenbfdeaffaa.VKs
open Go Vpi
open VBn hiding rp tab rp_ok all_ok mixed sim Big
open Gs (V Dv Pos)
set_option maxRecDepth 100000
set_option linter.unusedSimpArgs false
set_option linter.unusedVariables false

theorem rp126 : rp 126 = some f126 := rfl
theorem rp86 : rp 86 = some f86 := rfl
theorem rp41 : rp 41 = some f41 := rfl
theorem rp10 : rp 10 = some f10 := rfl

/-! ### copies -/

theorem p126 {p : PV} {x : Int} (h : Nu p x) : Pu rp 126 [p] (.p p) := by
  obtain ⟨s, l, rfl, hl, hn, rfl⟩ := h
  rw [CapN_eq] at hn
  refine pu_of rp126 ?_
  have m1 : (0 + (lm l).length) * 4 ≤ 140737488355328 := by rw [lm_len]; omega
  have m2 : ((lm l).length + 9) * 4 ≤ 140737488355328 := by rw [lm_len]; omega
  have hz : allSz 1 (lm l) = true := lm_sz
  have t0 : (lm l).take l.length = lm l := List.take_of_length_le (by rw [lm_len]; exact Nat.le_refl _)
  have t1 : ∀ ys : List PV, (lm l ++ ys).take l.length = lm l := fun ys => by
    rw [List.take_append, lm_len, Nat.sub_self, List.take_zero, List.append_nil, t0]
  have le1 : ∀ k : Nat, l.length ≤ l.length + k := fun k => Nat.le_add_right _ _
  have le2 : l.length ≤ 0 + l.length := by omega
  have le3 : ∀ k : Nat, 0 + l.length ≤ l.length + k := fun k => by omega
  have z1 : 0 + l.length = l.length := Nat.zero_add _
  have c1 : ∀ n : Nat, (0 : Int) ≤ (n : Int) := Int.natCast_nonneg
  have c2 : Int.toNat (l.length : Int) = l.length := Int.toNat_natCast _
  simp only [f126, args0, S1, S2, S3, S4, S5, r_idx, r_mks, ev, resultsV, resL, resV, vl, gt, st, sto, fgt, i64, subCV, fill, setCells, mkAgg, allP, frz, frz1, frzL, frzs, kill, kill1, killL, kills, bnd, unV, bsz, toPs, toP, isPure1, pureL, List.elem, List.replicate, Int.reduceLE, Int.reduceLT, ↓reduceIte, reduceCtorEq, Nat.reduceLT, Nat.reduceEqDiff, Nat.reduceAdd, Nat.reduceMul, Nat.reduceLeDiff, Nat.reduceBEq, r_append, m1, m2, hz, lm_len, z1, t0, t1, le1, sliceV, Nat.zero_le, c1, c2, content, Nat.sub_zero]
  simp only [back, back1, List.all_cons, List.all_nil, Bool.and_true, Nat.zero_le, decide_true, if_true, frz, frzL, frz1, List.getElem?_cons_succ, List.getElem?_cons_zero, z1, List.length_append, lm_len, le1, Option.map_some, List.drop_zero, t1]
  rw [lm_len] at m1 m2
  rw [Nat.zero_add] at m1
  exact ⟨m1, m2, trivial⟩

theorem p86 {r : List PV} (h : RowN r) : Pu rp 86 [.sl r] (.p (.sl r)) := by
  refine pu_of rp86 ?_
  have hm := h.1
  simp only [f86, args0, S1, S2, S3, S4, S5, r_idx, r_mks, ev, resultsV, resL, resV, vl, gt, st, sto, fgt, i64, subCV, fill, setCells, mkAgg, allP, frz, frz1, frzL, frzs, kill, kill1, killL, kills, bnd, unV, bsz, toPs, toP, isPure1, pureL, List.elem, List.replicate, Int.reduceLE, Int.reduceLT, ↓reduceIte, reduceCtorEq, Nat.reduceLT, Nat.reduceEqDiff, Nat.reduceAdd, Nat.reduceMul, Nat.reduceLeDiff, Nat.reduceBEq]
  refine loop_rule (β := Nat × Store × CV) (fun t => ([(0, .p (.sl r)), (3, t.2.2), (4, i64 t.1)], t.2.1))
    (fun t => t.1 ≤ r.length ∧ GL t.2.1 2 t.2.2 (r.take t.1)) (fun t => r.length - t.1) ((0, [], .nils) : Nat × Store × CV) rfl rfl ⟨Nat.zero_le _, .nil⟩ ?_
  rintro ⟨i, ρ, c⟩ ⟨hi, hG⟩ ih
  simp only [] at hi hG ih ⊢
  by_cases hin : (i : Int) < r.length
  · obtain ⟨p, x, p1, p2⟩ := h.2 i (by omega)
    have k := p126 p2
    obtain ⟨a1, a2, rfl⟩ := Nu.agg p2
    have w1 : IntKind.i64.wrap ((i : Int) + 1) = ((i + 1 : Nat) : Int) := by rw [IntWalk.i64_in _ (by omega)]; omega
    have htl : (r.take i).length = i := by rw [List.length_take]; omega
    have hc : ((r.take i).length + [PV.agg [.bool a1, .sl a2]].length) * 32 ≤ 140737488355328 := by rw [htl]; simp; omega
    have hz : allSz 2 [PV.agg [.bool a1, .sl a2]] = true := rfl
    simp only [S1, S2, S3, S4, S5, r_idx, r_mks, ev, resultsV, resL, resV, vl, gt, st, sto, fgt, i64, subCV, fill, setCells, mkAgg, allP, frz, frz1, frzL, frzs, kill, kill1, killL, kills, bnd, unV, bsz, toPs, toP, isPure1, pureL, List.elem, List.replicate, Int.reduceLE, Int.reduceLT, ↓reduceIte, reduceCtorEq, Nat.reduceLT, Nat.reduceEqDiff, Nat.reduceAdd, Nat.reduceMul, Nat.reduceLeDiff, Nat.reduceBEq, hin, p1, Int.natCast_nonneg, Int.toNat_natCast, kp1 k, r_app hG hc, ← take_suc p1, htl, w1]
    refine ih (i + 1, nd ρ c ++ [.prow 2 [.agg [.bool a1, .sl a2]], .prow 2 (r.take (i + 1))], .own (ρ.length + 1) 0 (i + 1)) _ ⟨by simp only []; omega, ?_⟩ (by simp only []; omega) ?_
    · exact GL.new2 (by rw [List.length_take]; omega) rfl
    · rfl
  · obtain rfl : i = r.length := by omega
    rw [List.take_length] at hG
    simp only [S1, S2, S3, S4, S5, r_idx, r_mks, ev, resultsV, resL, resV, vl, gt, st, sto, fgt, i64, subCV, fill, setCells, mkAgg, allP, frz, frz1, frzL, frzs, kill, kill1, killL, kills, bnd, unV, bsz, toPs, toP, isPure1, pureL, List.elem, List.replicate, Int.reduceLE, Int.reduceLT, ↓reduceIte, reduceCtorEq, Nat.reduceLT, Nat.reduceEqDiff, Nat.reduceAdd, Nat.reduceMul, Nat.reduceLeDiff, Nat.reduceBEq, hin]
    exact hG.back

theorem p41 {b : List PV} (h : MatN b) : Pu rp 41 [.sl b] (.p (.sl b)) := by
  refine pu_of rp41 ?_
  have hm := h.1
  simp only [f41, args0, S1, S2, S3, S4, S5, r_idx, r_mks, ev, resultsV, resL, resV, vl, gt, st, sto, fgt, i64, subCV, fill, setCells, mkAgg, allP, frz, frz1, frzL, frzs, kill, kill1, killL, kills, bnd, unV, bsz, toPs, toP, isPure1, pureL, List.elem, List.replicate, Int.reduceLE, Int.reduceLT, ↓reduceIte, reduceCtorEq, Nat.reduceLT, Nat.reduceEqDiff, Nat.reduceAdd, Nat.reduceMul, Nat.reduceLeDiff, Nat.reduceBEq]
  refine loop_rule (β := Nat × Store × CV) (fun t => ([(0, .p (.sl b)), (3, t.2.2), (4, i64 t.1)], t.2.1))
    (fun t => t.1 ≤ b.length ∧ GL t.2.1 1 t.2.2 (b.take t.1)) (fun t => b.length - t.1) ((0, [], .nils) : Nat × Store × CV) rfl rfl ⟨Nat.zero_le _, .nil⟩ ?_
  rintro ⟨i, ρ, c⟩ ⟨hi, hG⟩ ih
  simp only [] at hi hG ih ⊢
  by_cases hin : (i : Int) < b.length
  · obtain ⟨r, p1, p2⟩ := h.2 i (by omega)
    have k := p86 p2
    have w1 : IntKind.i64.wrap ((i : Int) + 1) = ((i + 1 : Nat) : Int) := by rw [IntWalk.i64_in _ (by omega)]; omega
    have htl : (b.take i).length = i := by rw [List.length_take]; omega
    have hc : ((b.take i).length + [PV.sl r].length) * 24 ≤ 140737488355328 := by rw [htl]; simp; omega
    simp only [S1, S2, S3, S4, S5, r_idx, r_mks, ev, resultsV, resL, resV, vl, gt, st, sto, fgt, i64, subCV, fill, setCells, mkAgg, allP, frz, frz1, frzL, frzs, kill, kill1, killL, kills, bnd, unV, bsz, toPs, toP, isPure1, pureL, List.elem, List.replicate, Int.reduceLE, Int.reduceLT, ↓reduceIte, reduceCtorEq, Nat.reduceLT, Nat.reduceEqDiff, Nat.reduceAdd, Nat.reduceMul, Nat.reduceLeDiff, Nat.reduceBEq, hin, p1, Int.natCast_nonneg, Int.toNat_natCast, kp1 k, r_app hG hc, ← take_suc p1, htl, w1]
    refine ih (i + 1, nd ρ c ++ [.prow 1 [.sl r], .prow 1 (b.take (i + 1))], .own (ρ.length + 1) 0 (i + 1)) _ ⟨by simp only []; omega, ?_⟩ (by simp only []; omega) ?_
    · exact GL.new2 (by rw [List.length_take]; omega) rfl
    · rfl
  · obtain rfl : i = b.length := by omega
    rw [List.take_length] at hG
    simp only [S1, S2, S3, S4, S5, r_idx, r_mks, ev, resultsV, resL, resV, vl, gt, st, sto, fgt, i64, subCV, fill, setCells, mkAgg, allP, frz, frz1, frzL, frzs, kill, kill1, killL, kills, bnd, unV, bsz, toPs, toP, isPure1, pureL, List.elem, List.replicate, Int.reduceLE, Int.reduceLT, ↓reduceIte, reduceCtorEq, Nat.reduceLT, Nat.reduceEqDiff, Nat.reduceAdd, Nat.reduceMul, Nat.reduceLeDiff, Nat.reduceBEq, hin]
    exact hG.back

/-! ### a matrix's numbers -/

theorem MatN.index {b : List PV} (h : MatN b) : ∃ nn X, MR b nn X := by
  have hx : ∀ i j : Nat, ∃ x : Int, ∀ r p, b[i]? = some (.sl r) → r[j]? = some p → Nu p x := by
    intro i j
    by_cases hi : i < b.length
    · obtain ⟨r, h1, h2⟩ := h.2 i hi
      by_cases hj : j < r.length
      · obtain ⟨p, x, h3, h4⟩ := h2.2 j hj
        refine ⟨x, fun r' p' g1 g2 => ?_⟩
        rw [h1] at g1
        cases g1
        rw [h3] at g2
        cases g2
        exact h4
      · refine ⟨0, fun r' p' g1 g2 => ?_⟩
        rw [h1] at g1
        cases g1
        rw [List.getElem?_eq_none (by omega)] at g2
        cases g2
    · refine ⟨0, fun r' p' g1 g2 => ?_⟩
      rw [List.getElem?_eq_none (by omega)] at g1
      cases g1
  have hn : ∀ i : Nat, ∃ k : Nat, ∀ r, b[i]? = some (.sl r) → r.length = k := by
    intro i
    by_cases hi : i < b.length
    · obtain ⟨r, h1, h2⟩ := h.2 i hi
      exact ⟨r.length, fun r' g => by rw [h1] at g; cases g; rfl⟩
    · exact ⟨0, fun r' g => by rw [List.getElem?_eq_none (by omega)] at g; cases g⟩
  refine ⟨fun i => Classical.choose (hn i), fun i j => Classical.choose (hx i j), fun i hi => ?_⟩
  obtain ⟨r, h1, h2⟩ := h.2 i hi
  have hl := Classical.choose_spec (hn i) r h1
  refine ⟨r, h1, hl, ?_, fun j hj => ?_⟩
  · simp only []
    rw [← hl]; exact h2.1
  · obtain ⟨p, x, h3, h4⟩ := h2.2 j hj
    exact ⟨p, h3, Classical.choose_spec (hx i j) r p h1 h3⟩

/-- the numbers as lists -/
def lsM (m N : Nat) (X : Nat → Nat → Int) : List (List Int) := (List.range m).map fun i => (List.range N).map fun j => X i j
theorem lsM_len {m N : Nat} {X : Nat → Nat → Int} : (lsM m N X).length = m := by simp [lsM]
theorem lsM_get {m N i : Nat} {X : Nat → Nat → Int} (h : i < m) : (lsM m N X)[i]? = some ((List.range N).map fun j => X i j) := by simp [lsM, h]
theorem lsM_en {m N i j : Nat} {X : Nat → Nat → Int} (h : i < m) (hj : j < N) : en (lsM m N X) i j = X i j := by
  have e1 : (lsM m N X).getD i [] = (List.range N).map fun j => X i j := by rw [List.getD_eq_getElem?_getD, lsM_get h]; rfl
  unfold en
  rw [e1, List.getD_eq_getElem?_getD]
  simp [hj]

theorem MR.lists {b : List PV} {nn : Nat → Nat} {X : Nat → Nat → Int} (hb : MR b nn X) (hs : shE nn X b.length = 0) :
    ML b (lsM b.length (nn 0) X) ∧ RL (lsM b.length (nn 0) X) (nn 0) ∧ bitsM (lsM b.length (nn 0) X) (nn 0) ≤ 256 ∧ 0 < b.length ∧ b.length ≤ 12 ∧ nn 0 ≤ 12 := by
  obtain ⟨h1, h2, h3⟩ := shE_zero hs
  have hm : b.length ≤ 12 := Nat.not_lt.1 fun hh => h1 (.inl hh)
  have hn : ∀ i, i < b.length → nn i = nn 0 := fun i hi => Classical.byContradiction fun hne => h3 ⟨i, hi, hne⟩
  have hN : nn 0 ≤ 12 := Nat.not_lt.1 fun hh => h1 (.inr (.inl ⟨0, by omega, hh⟩))
  refine ⟨⟨lsM_len.symm, fun i p r hp hr => ?_⟩, fun i r hr => ?_, ?_, by omega, hm, hN⟩
  · have hi := (List.getElem?_eq_some_iff.1 hp).1
    obtain ⟨q, g1, g2, g3, g4⟩ := hb i hi
    rw [hp] at g1
    cases g1
    rw [lsM_get hi] at hr
    cases hr
    refine ⟨q, rfl, ⟨by simp [g2, hn i hi], fun j p x hp hx => ?_⟩, by omega⟩
    have hj := (List.getElem?_eq_some_iff.1 hp).1
    obtain ⟨p', k1, k2⟩ := g4 j hj
    rw [hp] at k1
    cases k1
    rw [g2, hn i hi] at hj
    simp [hj] at hx
    subst hx
    exact k2
  · have hi := (List.getElem?_eq_some_iff.1 hr).1
    rw [lsM_len] at hi
    rw [lsM_get hi] at hr
    cases hr
    simp
  · refine Nat.not_lt.1 fun hlt => ?_
    unfold bitsM at hlt
    rw [bm_gt, lsM_len] at hlt
    obtain ⟨i, j, hi, hj, hbl⟩ := hlt
    rw [lsM_en hi hj] at hbl
    exact h1 (.inr (.inr ⟨i, j, hi, by rw [hn i hi]; exact hj, hbl⟩))

theorem vE_pos {nn : Nat → Nat} {X : Nat → Nat → Int} {m : Nat} (h : vE nn X m = 0) (hm : 0 < m) : shE nn X m = 0 ∧ 0 < nn 0 := by
  unfold vE at h
  by_cases hs : shE nn X m = 0
  · refine ⟨hs, ?_⟩
    rw [if_neg (by simp [hs])] at h
    by_cases hp : Pos (gr (nn 0) X) m
    · have h0 := hp 0 hm
      rcases Nat.eq_zero_or_pos (nn 0) with hz | hz
      · have : V (gr (nn 0) X) 0 0 0 = 0 := by
          show gr (nn 0) X 0 0 = 0
          unfold gr
          rw [hz]; rfl
        omega
      · exact hz
    · rw [if_neg hp] at h; cases h
  · rw [if_pos hs] at h
    exact absurd h hs

theorem e42 {b : List PV} {z t e : Int} (h : Pu rp 59 [.sl b] (.p (.int .i64 e))) (he : e ≠ 0) : Pu rp 42 [.sl b, .int .u64 z, .int .i64 t] (.tup [.p (.sl []), .p (.sl []), .p (.int .i64 e)]) := by
  refine pu_of rp42 ?_
  have e1 : (e != 0) = true := by simp [he]
  simp only [f42, args0, S1, S2, S3, S4, S5, r_idx, r_mks, ev, resultsV, resL, resV, vl, gt, st, sto, fgt, i64, subCV, fill, setCells, mkAgg, allP, frz, frz1, frzL, frzs, kill, kill1, killL, kills, bnd, unV, bsz, toPs, toP, isPure1, pureL, List.elem, List.replicate, Int.reduceLE, Int.reduceLT, ↓reduceIte, reduceCtorEq, Nat.reduceLT, Nat.reduceEqDiff, Nat.reduceAdd, Nat.reduceMul, Nat.reduceLeDiff, Nat.reduceBEq, kp1 h, e1]
  rfl
theorem e43 {b : List PV} {z t e : Int} (h : Pu rp 61 [.sl b] (.p (.int .i64 e))) (he : e ≠ 0) : Pu rp 43 [.sl b, .int .u64 z, .int .i64 t] (.tup [.p (.sl []), .p (.sl []), .p (.int .i64 e)]) := by
  refine pu_of rp43 ?_
  have e1 : (e != 0) = true := by simp [he]
  simp only [f43, args0, S1, S2, S3, S4, S5, r_idx, r_mks, ev, resultsV, resL, resV, vl, gt, st, sto, fgt, i64, subCV, fill, setCells, mkAgg, allP, frz, frz1, frzL, frzs, kill, kill1, killL, kills, bnd, unV, bsz, toPs, toP, isPure1, pureL, List.elem, List.replicate, Int.reduceLE, Int.reduceLT, ↓reduceIte, reduceCtorEq, Nat.reduceLT, Nat.reduceEqDiff, Nat.reduceAdd, Nat.reduceMul, Nat.reduceLeDiff, Nat.reduceBEq, kp1 h, e1]
  rfl
theorem a42 {b : List PV} {z t : Int} (h : Pu rp 59 [.sl b] (.p (.int .i64 0))) (ht : t < 0 ∨ 256 < t) : Pu rp 42 [.sl b, .int .u64 z, .int .i64 t] (.tup [.p (.sl []), .p (.sl []), .p (.int .i64 1)]) := by
  refine pu_of rp42 ?_
  have e1 : ((0 : Int) != 0) = false := rfl
  by_cases h0 : t < 0
  · simp only [f42, args0, S1, S2, S3, S4, S5, r_idx, r_mks, ev, resultsV, resL, resV, vl, gt, st, sto, fgt, i64, subCV, fill, setCells, mkAgg, allP, frz, frz1, frzL, frzs, kill, kill1, killL, kills, bnd, unV, bsz, toPs, toP, isPure1, pureL, List.elem, List.replicate, Int.reduceLE, Int.reduceLT, ↓reduceIte, reduceCtorEq, Nat.reduceLT, Nat.reduceEqDiff, Nat.reduceAdd, Nat.reduceMul, Nat.reduceLeDiff, Nat.reduceBEq, kp1 h, e1, h0]; rfl
  · have h1 : t > 256 := by omega
    simp only [f42, args0, S1, S2, S3, S4, S5, r_idx, r_mks, ev, resultsV, resL, resV, vl, gt, st, sto, fgt, i64, subCV, fill, setCells, mkAgg, allP, frz, frz1, frzL, frzs, kill, kill1, killL, kills, bnd, unV, bsz, toPs, toP, isPure1, pureL, List.elem, List.replicate, Int.reduceLE, Int.reduceLT, ↓reduceIte, reduceCtorEq, Nat.reduceLT, Nat.reduceEqDiff, Nat.reduceAdd, Nat.reduceMul, Nat.reduceLeDiff, Nat.reduceBEq, kp1 h, e1, h0, h1]; rfl
theorem a43 {b : List PV} {z t : Int} (h : Pu rp 61 [.sl b] (.p (.int .i64 0))) (ht : t < 0 ∨ 256 < t) : Pu rp 43 [.sl b, .int .u64 z, .int .i64 t] (.tup [.p (.sl []), .p (.sl []), .p (.int .i64 1)]) := by
  refine pu_of rp43 ?_
  have e1 : ((0 : Int) != 0) = false := rfl
  by_cases h0 : t < 0
  · simp only [f43, args0, S1, S2, S3, S4, S5, r_idx, r_mks, ev, resultsV, resL, resV, vl, gt, st, sto, fgt, i64, subCV, fill, setCells, mkAgg, allP, frz, frz1, frzL, frzs, kill, kill1, killL, kills, bnd, unV, bsz, toPs, toP, isPure1, pureL, List.elem, List.replicate, Int.reduceLE, Int.reduceLT, ↓reduceIte, reduceCtorEq, Nat.reduceLT, Nat.reduceEqDiff, Nat.reduceAdd, Nat.reduceMul, Nat.reduceLeDiff, Nat.reduceBEq, kp1 h, e1, h0]; rfl
  · have h1 : t > 256 := by omega
    simp only [f43, args0, S1, S2, S3, S4, S5, r_idx, r_mks, ev, resultsV, resL, resV, vl, gt, st, sto, fgt, i64, subCV, fill, setCells, mkAgg, allP, frz, frz1, frzL, frzs, kill, kill1, killL, kills, bnd, unV, bsz, toPs, toP, isPure1, pureL, List.elem, List.replicate, Int.reduceLE, Int.reduceLT, ↓reduceIte, reduceCtorEq, Nat.reduceLT, Nat.reduceEqDiff, Nat.reduceAdd, Nat.reduceMul, Nat.reduceLeDiff, Nat.reduceBEq, kp1 h, e1, h0, h1]; rfl

theorem nilN : MatN [] := ⟨by simp, fun i hi => by simp at hi⟩
theorem RM.matN {M : List (List Int)} {N : Nat} (h : RM M N) (hl : M.length ≤ 2000000) : MatN (zm M) := by
  refine ⟨by rw [zm_len]; exact hl, fun i hi => ?_⟩
  rw [zm_len] at hi
  obtain ⟨h1, h2, h3⟩ := h.ix hi
  refine ⟨_, zm_get h1, by rw [zr_len, h3]; exact h.1, fun j hj => ?_⟩
  rw [zr_len] at hj
  exact ⟨_, _, zr_get (List.getElem?_eq_getElem hj), Nu.zi (h2 j _ (List.getElem?_eq_getElem hj))⟩

theorem twists {b : List PV} (hb : MatN b) (z t : Int) : Pu rp 10 [.sl b, .int .u64 z, .int .i64 t] (.p (.bool true)) := by
  have fin : ∀ {m u : List PV} {e : Int}, Pu rp 42 [.sl b, .int .u64 z, .int .i64 t] (.tup [.p (.sl m), .p (.sl u), .p (.int .i64 e)]) → Pu rp 43 [.sl b, .int .u64 z, .int .i64 t] (.tup [.p (.sl m), .p (.sl u), .p (.int .i64 e)]) → MatN m → MatN u → Pu rp 10 [.sl b, .int .u64 z, .int .i64 t] (.p (.bool true)) := by
    intro m u e h42 h43 hm hu
    refine pu_of rp10 ?_
    simp only [f10, args0, S1, S2, S3, S4, S5, r_idx, r_mks, ev, resultsV, resL, resV, vl, gt, st, sto, fgt, i64, subCV, fill, setCells, mkAgg, allP, frz, frz1, frzL, frzs, kill, kill1, killL, kills, bnd, unV, bsz, toPs, toP, isPure1, pureL, List.elem, List.replicate, Int.reduceLE, Int.reduceLT, ↓reduceIte, reduceCtorEq, Nat.reduceLT, Nat.reduceEqDiff, Nat.reduceAdd, Nat.reduceMul, Nat.reduceLeDiff, Nat.reduceBEq, kp1 (p41 hb), kp3 h42, kp3 h43, kp2 (p19 hm), kp2 (p19 hu), kp2 (p19 hb)]
    rfl
  obtain ⟨nn, X, hR⟩ := hb.index
  have h59 := (p59 hR hb.1).lift base_le
  have h61 := (p61 hR hb.1).lift base_le
  by_cases he : vE nn X b.length = 0
  · rw [he] at h59 h61
    by_cases ht : t < 0 ∨ 256 < t
    · exact fin (a42 h59 ht) (a43 h61 ht) nilN nilN
    · obtain ⟨t, rfl⟩ : ∃ k : Nat, t = k := ⟨t.toNat, by omega⟩
      have ht : t ≤ 256 := by omega
      have hm0 : 0 < b.length := by
        rcases Nat.eq_zero_or_pos b.length with h0 | h0
        · exfalso
          have hs : shE nn X b.length = 41 := by
            rw [h0]
            unfold shE
            rw [if_neg, if_pos rfl]
            rintro (h | ⟨i, h, _⟩ | ⟨i, j, h, _⟩) <;> omega
          unfold vE at he
          rw [if_pos (by rw [hs]; decide), hs] at he
          cases he
        · exact h0
      obtain ⟨hs, hN0⟩ := vE_pos he hm0
      obtain ⟨hML, hRL, hbits, h0, h12, hN⟩ := MR.lists hR hs
      generalize hM : lsM b.length (nn 0) X = M at *
      have hn : M.length = b.length := by rw [← hM, lsM_len]
      by_cases hbad : ∃ s, 1 ≤ s ∧ s ≤ t ∧ 256 < bitsM (tM b.length z M s) (nn 0)
      · have hR : TwR b.length (nn 0) z M t (.tup [.p (.sl []), .p (.sl []), .p (.int .i64 40)]) := ⟨fun _ => rfl, fun h => by
          obtain ⟨s, g1, g2, g3⟩ := hbad
          have := h s g1 g2
          omega⟩
        exact fin (p42 h59 hML hn h0 h12 hN hN0 hRL hbits ht hR) (p43 h61 hML hn h0 h12 hN hN0 hRL hbits ht hR) nilN nilN
      · have hgood : ∀ s, 1 ≤ s → s ≤ t → bitsM (tM b.length z M s) (nn 0) ≤ 256 := fun s g1 g2 => Nat.not_lt.1 fun g3 => hbad ⟨s, g1, g2, g3⟩
        have hR : TwR b.length (nn 0) z M t (.tup [.p (.sl (zm (tM b.length z M t))), .p (.sl (zm (tM b.length z (un b.length) t))), .p (.int .i64 0)]) := ⟨fun h => absurd h hbad, fun _ => rfl⟩
        have hB1 : BM (tM b.length z M t) (2 ^ 256) := by
          refine BM_of_bits (tM_RL hn h0 hRL) ?_
          rcases Nat.eq_zero_or_pos t with rfl | hpos
          · exact hbits
          · exact hgood t hpos (Nat.le_refl _)
        have hR1 : RM (tM b.length z M t) (nn 0) := RM.of hN hN0 (tM_RL hn h0 hRL) hB1 pw640.2.2
        have hR2 : RM (tM b.length z (un b.length) t) b.length := RM.of h12 h0 (tM_RL un_len h0 un_RL) (tM_BM un_len h0 un_BM) (pw_mono ht)
        exact fin (p42 h59 hML hn h0 h12 hN hN0 hRL hbits ht hR) (p43 h61 hML hn h0 h12 hN hN0 hRL hbits ht hR) (hR1.matN (by rw [tM_len, hn]; exact hb.1)) (hR2.matN (by rw [tM_len, un_len]; exact hb.1))
  · exact fin (e42 h59 he) (e43 h61 he) nilN nilN

/-! ### arguments -/

theorem num_of {L n : Nat} {qs : List PV} (hL : L ≤ 1048576) (h : shpB Try.prog L (n + 3) 53 qs) : ∃ x, Nu (.agg qs) x := by
  obtain ⟨a, r, rfl, ha, c, r, rfl, hc, rfl⟩ := shpB_struct Try.underlying53 h
  obtain ⟨s, rfl⟩ := shpB_bool Try.underlying4 ha
  obtain ⟨us, rfl, hl, hu⟩ := shpB_slice Try.underlying51 hc
  have hlm : ∃ l : List Nat, us = lm l ∧ Lim l := by
    clear hl ha hc h
    induction us with
    | nil => exact ⟨[], rfl, fun x hx => by cases hx⟩
    | cons u us ih =>
      obtain ⟨l, rfl, h2⟩ := ih fun y hy => hu y (List.mem_cons_of_mem _ hy)
      obtain ⟨q, rfl, hq⟩ := hu u (List.mem_cons_self ..)
      obtain ⟨i, rfl, hw⟩ := shpB_int Try.underlying115 hq
      have hw2 : (0 : Int) ≤ i ∧ i ≤ 4294967295 := by
        simp only [Lit.wf, Bool.and_eq_true, decide_eq_true_eq] at hw
        exact hw
      refine ⟨i.toNat :: l, ?_, ?_⟩
      · have : ofCells (isSt Try.prog 115) [PV.int .u32 i] = .int .u32 i := by
          have e : isSt Try.prog 115 = false := by unfold isSt; rw [Try.underlying115]
          rw [e]; rfl
        rw [this, lm_cons, Int.toNat_of_nonneg hw2.1]
      · intro x hx
        rcases List.mem_cons.1 hx with rfl | hx
        · unfold LB; omega
        · exact h2 x hx
  obtain ⟨l, rfl, hlim⟩ := hlm
  refine ⟨iv s l, s, l, ?_, hlim, ?_, rfl⟩
  · simp
  · rw [lm_len] at hl; rw [CapN_eq]; omega

theorem mat_of {L n : Nat} {q : PV} (hL : L ≤ 1048576) (h : shpB Try.prog L (n + 5) 39 [q]) : ∃ b, q = .sl b ∧ MatN b := by
  obtain ⟨b, hq, hl, hb⟩ := shpB_slice Try.underlying39 h
  cases hq
  refine ⟨b, rfl, by omega, fun i hi => ?_⟩
  obtain ⟨qs, h1, h2⟩ := hb b[i] (List.getElem_mem _)
  obtain ⟨r, rfl, hrl, hr⟩ := shpB_slice Try.underlying59 h2
  have e1 : ofCells (isSt Try.prog 59) [PV.sl r] = .sl r := by
    have e : isSt Try.prog 59 = false := by unfold isSt; rw [Try.underlying59]
    rw [e]; rfl
  rw [e1] at h1
  refine ⟨r, by rw [← h1]; simp, by omega, fun j hj => ?_⟩
  obtain ⟨qs, k1, k2⟩ := hr r[j] (List.getElem_mem _)
  obtain ⟨x, hx⟩ := num_of hL k2
  have e2 : ofCells (isSt Try.prog 53) qs = .agg qs := by
    have e : isSt Try.prog 53 = true := by unfold isSt; rw [Try.underlying53]
    rw [e]; rfl
  rw [e2] at k1
  exact ⟨.agg qs, x, by rw [← k1]; simp, hx⟩

theorem row10 (q : PV) (w : shpB Try.prog 1048576 8 39 [q]) (z : Int) (_ : (Lit.int .u64 z).wf = true) (t : Int) (_ : (Lit.int .i64 t).wf = true) : Pu rp 10 [q, .int .u64 z, .int .i64 t] (.p (.bool true)) := by
  obtain ⟨b, rfl, hb⟩ := mat_of (Nat.le_refl _) w
  exact twists hb z t
end Go.Proofs.Ytdieenbfdeaffaa.VKs

namespace Go.Proofs.Ytdieenbfdeaffaa.Rbulk
open Go
set_option linter.unusedVariables false

theorem one_le {H : Type} (d : DataW H) : 1 ≤ Rows.uptoBulk d := by
  cases d with
  | lit l => cases l <;> simp [Rows.uptoBulk]
  | _ => simp [Rows.uptoBulk]

theorem part_le {H : Type} {d : DataW H} {l : List (DataW H)} (h : d ∈ l) : Rows.uptoBulk d ≤ Rows.uptoBulkAll l := by
  induction l with
  | nil => cases h
  | cons x r ih =>
    simp only [Rows.uptoBulkAll]
    rcases List.mem_cons.1 h with rfl | h
    · omega
    · have := ih h; omega

theorem length_le {H : Type} (l : List (DataW H)) : l.length ≤ Rows.uptoBulkAll l := by
  induction l with
  | nil => simp [Rows.uptoBulkAll]
  | cons x r ih => have := one_le x; simp only [Rows.uptoBulkAll, List.length_cons]; omega

theorem mus {H : Type} (es sp : List (DataW H)) : es.length ≤ Rows.uptoBulk (.slice es sp) ∧ ∀ d ∈ es, Rows.uptoBulk d ≤ Rows.uptoBulk (.slice es sp) := by
  have h1 := length_le es
  simp only [Rows.uptoBulk]
  refine ⟨by omega, fun d hd => ?_⟩
  have := part_le hd
  omega

theorem mua {H : Type} (ps : List (DataW H)) : ∀ d ∈ ps, Rows.uptoBulk d ≤ Rows.uptoBulk (.agg ps) := by
  intro d hd
  have := part_le hd
  simp only [Rows.uptoBulk]
  omega

/-- each argument's bulk -/
theorem each {H : Type} {l : List (DataW H)} (hk : Rows.uptoSmall H l = true) {d : DataW H} (h : d ∈ l) : Rows.uptoBulk d ≤ 1048576 :=
  Nat.le_trans (part_le h) (of_decide_eq_true hk)
end Go.Proofs.Ytdieenbfdeaffaa.Rbulk
