/- Resolved code of functions, printed by a program of ours (genfun.py); each is held against the model by chkF. -/
import Derived.Test.YtdieenbfdeaffaaVpiSim
import Derived.Test.YtdieenbfdeaffaaProg
import Derived.KernelRfl
namespace Go.Proofs.Ytdieenbfdeaffaa.VKd
open Go Vpi
set_option maxRecDepth 100000

/-- trammel/trammellaw26.KinDraws -/
def f3 : RFun := ⟨(.seq (.reg [⟨(some 6), none, none, .mv (.c (.p (.bool false)))⟩] none)
  (.seq (.reg [⟨(some 13), none, none, .mv (.t 0)⟩,
    ⟨(some 14), none, none, .mv (.t 1)⟩,
    ⟨(some 15), none, none, .mv (.t 2)⟩,
    ⟨(some 16), none, none, .call .pu 12 [.t 13, .t 14, .t 15]⟩,
    ⟨(some 12), none, none, .mv (.t 16)⟩,
    ⟨(some 17), none, none, .extract (.t 12) 0⟩,
    ⟨(some 18), none, none, .extract (.t 12) 1⟩,
    ⟨(some 7), none, none, .mv (.t 17)⟩,
    ⟨(some 8), none, none, .mv (.t 18)⟩] none)
  (.seq (.reg [⟨(some 20), none, none, .mv (.t 0)⟩,
    ⟨(some 21), none, none, .mv (.t 1)⟩,
    ⟨(some 22), none, none, .mv (.t 2)⟩,
    ⟨(some 23), none, none, .call .pu 13 [.t 20, .t 21, .t 22]⟩,
    ⟨(some 19), none, none, .mv (.t 23)⟩,
    ⟨(some 24), none, none, .extract (.t 19) 0⟩,
    ⟨(some 25), none, none, .extract (.t 19) 1⟩,
    ⟨(some 9), none, none, .mv (.t 24)⟩,
    ⟨(some 10), none, none, .mv (.t 25)⟩] none)
  (.seq (.seq (.reg [⟨(some 26), none, none, .mv (.t 8)⟩,
    ⟨(some 27), none, none, .mv (.t 10)⟩,
    ⟨(some 28), none, none, .bin .neq (.t 26) (.t 27)⟩,
    ⟨(some 29), none, none, .mv (.t 28)⟩,
    ⟨(some 30), (some (29, false)), none, .mv (.t 7)⟩,
    ⟨(some 31), (some (29, false)), none, .len (.t 30)⟩,
    ⟨(some 32), (some (29, false)), none, .mv (.t 9)⟩,
    ⟨(some 33), (some (29, false)), none, .len (.t 32)⟩,
    ⟨(some 34), (some (29, false)), none, .bin .neq (.t 31) (.t 33)⟩,
    ⟨(some 35), none, none, .pick (.t 29) (.c (.p (.bool true))) (.t 34)⟩] none)
  (.fg [7, 9, 35] (.cond (.t 35)
    (.seq (.reg [⟨(some 6), none, none, .mv (.c (.p (.bool false)))⟩] none)
    .ret)
    .skip)))
  (.seq (.seq (.reg [⟨(some 11), none, none, .mv (.c (.p (.int .i64 0)))⟩] none)
  (.fg [7, 9, 11] (.block 0
  (.loop (.fg [7, 9, 11]
    (.seq (.seq (.reg [⟨(some 36), none, none, .mv (.t 11)⟩,
    ⟨(some 37), none, none, .mv (.t 9)⟩,
    ⟨(some 38), none, none, .len (.t 37)⟩,
    ⟨(some 39), none, none, .bin .lss (.t 36) (.t 38)⟩] none)
      (.fg [7, 9, 11, 39] (.cond (.t 39)
        .skip
        (.exit 0))))
      (.seq (.block 1
      (.seq (.reg [⟨(some 42), none, none, .mv (.t 7)⟩,
    ⟨(some 43), none, none, .mv (.t 11)⟩,
    ⟨(some 44), none, none, .indexA 1 (.t 42) (.t 43)⟩,
    ⟨(some 45), none, none, .load false 1 (.t 44)⟩,
    ⟨(some 46), none, none, .mv (.t 9)⟩,
    ⟨(some 47), none, none, .mv (.t 11)⟩,
    ⟨(some 48), none, none, .indexA 1 (.t 46) (.t 47)⟩,
    ⟨(some 49), none, none, .load false 1 (.t 48)⟩,
    ⟨(some 50), none, none, .bin .neq (.t 45) (.t 49)⟩] (some (0, [])))
        (.fg [7, 9, 11, 50] (.cond (.t 50)
          (.seq (.reg [⟨(some 6), none, none, .mv (.c (.p (.bool false)))⟩] none)
          .ret)
          .skip))))
      (.fg [7, 9, 11] (.reg [⟨(some 40), none, none, .mv (.t 11)⟩,
    ⟨(some 41), none, none, .bin .add (.t 40) (.c (.p (.int .i64 1)))⟩,
    ⟨(some 11), none, none, .mv (.t 41)⟩] none)))))))))
  (.seq (.reg [⟨(some 6), none, none, .mv (.c (.p (.bool true)))⟩] none)
  .ret)))))),
  [.t 6]⟩

theorem c3 : chkF Try.prog 3 f3 = true := by kernel_rfl

/-- trammel/trammellaw26.KinModular -/
def f5 : RFun := ⟨(.seq (.reg [⟨(some 1), none, none, .box (.t 0)⟩,
    ⟨(some 2), none, none, .mv (.c (.p (.bool false)))⟩] none)
  (.seq (.reg [⟨(some 8), none, none, .fieldA 0 (.t 1)⟩,
    ⟨(some 9), none, none, .load false 1 (.t 8)⟩,
    ⟨(some 10), none, none, .fieldA 1 (.t 1)⟩,
    ⟨(some 11), none, none, .load false 1 (.t 10)⟩,
    ⟨(some 12), none, none, .fieldA 2 (.t 1)⟩,
    ⟨(some 13), none, none, .load false 1 (.t 12)⟩,
    ⟨(some 14), none, none, .fieldA 3 (.t 1)⟩,
    ⟨(some 15), none, none, .load false 1 (.t 14)⟩,
    ⟨(some 16), none, none, .call .pu 17 [.t 9, .t 11, .t 13, .t 15]⟩,
    ⟨(some 7), none, none, .mv (.t 16)⟩,
    ⟨(some 17), none, none, .extract (.t 7) 0⟩,
    ⟨(some 18), none, none, .extract (.t 7) 1⟩,
    ⟨(some 3), none, none, .mv (.t 17)⟩,
    ⟨(some 4), none, none, .mv (.t 18)⟩] none)
  (.seq (.reg [⟨(some 20), none, none, .fieldA 0 (.t 1)⟩,
    ⟨(some 21), none, none, .load false 1 (.t 20)⟩,
    ⟨(some 22), none, none, .fieldA 1 (.t 1)⟩,
    ⟨(some 23), none, none, .load false 1 (.t 22)⟩,
    ⟨(some 24), none, none, .fieldA 2 (.t 1)⟩,
    ⟨(some 25), none, none, .load false 1 (.t 24)⟩,
    ⟨(some 26), none, none, .fieldA 3 (.t 1)⟩,
    ⟨(some 27), none, none, .load false 1 (.t 26)⟩,
    ⟨(some 28), none, none, .call .pu 18 [.t 21, .t 23, .t 25, .t 27]⟩,
    ⟨(some 19), none, none, .mv (.t 28)⟩,
    ⟨(some 29), none, none, .extract (.t 19) 0⟩,
    ⟨(some 30), none, none, .extract (.t 19) 1⟩,
    ⟨(some 5), none, none, .mv (.t 29)⟩,
    ⟨(some 6), none, none, .mv (.t 30)⟩] none)
  (.seq (.seq (.reg [⟨(some 31), none, none, .mv (.t 4)⟩,
    ⟨(some 32), none, none, .mv (.t 6)⟩,
    ⟨(some 33), none, none, .bin .neq (.t 31) (.t 32)⟩,
    ⟨(some 34), none, none, .mv (.t 33)⟩,
    ⟨(some 35), (some (34, false)), none, .mv (.t 3)⟩,
    ⟨(some 36), (some (34, false)), none, .mv (.t 5)⟩,
    ⟨(some 37), (some (34, false)), none, .call .pu 19 [.t 35, .t 36]⟩,
    ⟨(some 38), (some (34, false)), none, .un .not (.t 37)⟩,
    ⟨(some 39), none, none, .pick (.t 34) (.c (.p (.bool true))) (.t 38)⟩] none)
  (.fg [1, 39] (.cond (.t 39)
    (.seq (.reg [⟨(some 2), none, none, .mv (.c (.p (.bool false)))⟩] none)
    .ret)
    .skip)))
  (.seq (.reg [⟨(some 41), none, none, .fieldA 0 (.t 1)⟩,
    ⟨(some 42), none, none, .load false 1 (.t 41)⟩,
    ⟨(some 43), none, none, .fieldA 2 (.t 1)⟩,
    ⟨(some 44), none, none, .load false 1 (.t 43)⟩,
    ⟨(some 45), none, none, .fieldA 3 (.t 1)⟩,
    ⟨(some 46), none, none, .load false 1 (.t 45)⟩,
    ⟨(some 47), none, none, .call .pu 20 [.t 42, .t 44, .t 46]⟩,
    ⟨(some 40), none, none, .mv (.t 47)⟩,
    ⟨(some 48), none, none, .extract (.t 40) 0⟩,
    ⟨(some 49), none, none, .extract (.t 40) 1⟩,
    ⟨(some 3), none, none, .mv (.t 48)⟩,
    ⟨(some 4), none, none, .mv (.t 49)⟩] none)
  (.seq (.reg [⟨(some 51), none, none, .fieldA 0 (.t 1)⟩,
    ⟨(some 52), none, none, .load false 1 (.t 51)⟩,
    ⟨(some 53), none, none, .fieldA 2 (.t 1)⟩,
    ⟨(some 54), none, none, .load false 1 (.t 53)⟩,
    ⟨(some 55), none, none, .fieldA 3 (.t 1)⟩,
    ⟨(some 56), none, none, .load false 1 (.t 55)⟩,
    ⟨(some 57), none, none, .call .pu 21 [.t 52, .t 54, .t 56]⟩,
    ⟨(some 50), none, none, .mv (.t 57)⟩,
    ⟨(some 58), none, none, .extract (.t 50) 0⟩,
    ⟨(some 59), none, none, .extract (.t 50) 1⟩,
    ⟨(some 5), none, none, .mv (.t 58)⟩,
    ⟨(some 6), none, none, .mv (.t 59)⟩] none)
  (.seq (.reg [⟨(some 60), none, none, .mv (.t 4)⟩,
    ⟨(some 61), none, none, .mv (.t 6)⟩,
    ⟨(some 62), none, none, .bin .eql (.t 60) (.t 61)⟩,
    ⟨(some 63), none, none, .mv (.t 62)⟩,
    ⟨(some 64), (some (63, true)), none, .mv (.t 3)⟩,
    ⟨(some 65), (some (63, true)), none, .mv (.t 5)⟩,
    ⟨(some 66), (some (63, true)), none, .call .pu 19 [.t 64, .t 65]⟩,
    ⟨(some 67), none, none, .pick (.t 63) (.t 66) (.c (.p (.bool false)))⟩,
    ⟨(some 2), none, none, .mv (.t 67)⟩] none)
  .ret))))))),
  [.t 2]⟩

theorem c5 : chkF Try.prog 5 f5 = true := by kernel_rfl

/-- trammel/kin.Draw -/
def f12 : RFun := ⟨(.seq (.reg [⟨(some 6), none, none, .mv (.c (.nils))⟩,
    ⟨(some 7), none, none, .mv (.c (.p (.int .i64 0)))⟩] none)
  (.seq (.seq (.reg [⟨(some 10), none, none, .mv (.t 1)⟩,
    ⟨(some 11), none, none, .bin .lss (.t 10) (.c (.p (.int .i64 0)))⟩,
    ⟨(some 12), none, none, .mv (.t 11)⟩,
    ⟨(some 13), (some (12, false)), none, .mv (.t 1)⟩,
    ⟨(some 14), (some (12, false)), none, .bin .gtr (.t 13) (.c (.p (.int .i64 4096)))⟩,
    ⟨(some 15), none, none, .pick (.t 12) (.c (.p (.bool true))) (.t 14)⟩,
    ⟨(some 16), none, none, .mv (.t 15)⟩,
    ⟨(some 17), (some (16, false)), none, .mv (.t 2)⟩,
    ⟨(some 18), (some (16, false)), none, .bin .eql (.t 17) (.c (.p (.int .u64 0)))⟩,
    ⟨(some 19), none, none, .pick (.t 16) (.c (.p (.bool true))) (.t 18)⟩] none)
  (.fg [0, 1, 2, 19] (.cond (.t 19)
    (.seq (.reg [⟨(some 6), none, none, .mv (.c (.nils))⟩,
    ⟨(some 7), none, none, .mv (.c (.p (.int .i64 1)))⟩] none)
    .ret)
    .skip)))
  (.seq (.reg [⟨(some 20), none, none, .mv (.t 0)⟩,
    ⟨(some 21), none, none, .call .keep 49 [.t 20]⟩,
    ⟨(some 8), none, none, .mv (.t 21)⟩] none)
  (.seq (.reg [⟨(some 9), none, none, .mv (.c (.nils))⟩] none)
  (.seq (.seq (.reg [⟨(some 22), none, none, .mv (.t 1)⟩,
    ⟨(some 23), none, none, .mv (.c (.p (.int .i64 0)))⟩] none)
  (.fg [2, 8, 9, 22, 23] (.block 0
  (.loop (.fg [2, 8, 9, 22, 23]
    (.seq (.reg [⟨(some 24), none, none, .bin .lss (.t 23) (.t 22)⟩] none)
      (.seq (.cond (.t 24)
        .skip
        (.exit 0))
      (.fg [2, 8, 9, 22, 23] (.seq (.block 1
      (.reg [⟨(some 25), none, none, .mv (.t 9)⟩,
    ⟨(some 26), none, none, .mv (.t 8)⟩,
    ⟨(some 27), none, none, .mv (.t 2)⟩,
    ⟨(some 28), none, none, .callv .full (.t 26) [.t 27]⟩,
    ⟨(some 29), none, none, .bslice 1 [.t 28]⟩,
    ⟨(some 30), none, none, .append 1 8 (.t 25) (.t 29)⟩,
    ⟨(some 9), none, none, .mv (.t 30)⟩] none))
      (.fg [2, 8, 9, 22, 23] (.reg [⟨(some 31), none, none, .bin .add (.t 23) (.c (.p (.int .i64 1)))⟩,
    ⟨(some 23), none, none, .mv (.t 31)⟩] none)))))))))))
  (.seq (.reg [⟨(some 32), none, none, .mv (.t 9)⟩,
    ⟨(some 6), none, none, .mv (.t 32)⟩,
    ⟨(some 7), none, none, .mv (.c (.p (.int .i64 0)))⟩] none)
  .ret)))))),
  [.t 6, .t 7]⟩

theorem c12 : chkF Try.prog 12 f12 = true := by kernel_rfl

/-- trammel/trammelref26.Draw -/
def f13 : RFun := ⟨(.seq (.reg [⟨(some 6), none, none, .mv (.c (.nils))⟩,
    ⟨(some 7), none, none, .mv (.c (.p (.int .i64 0)))⟩] none)
  (.seq (.seq (.reg [⟨(some 11), none, none, .mv (.t 1)⟩,
    ⟨(some 12), none, none, .bin .lss (.t 11) (.c (.p (.int .i64 0)))⟩,
    ⟨(some 13), none, none, .mv (.t 12)⟩,
    ⟨(some 14), (some (13, false)), none, .mv (.t 1)⟩,
    ⟨(some 15), (some (13, false)), none, .bin .gtr (.t 14) (.c (.p (.int .i64 4096)))⟩,
    ⟨(some 16), none, none, .pick (.t 13) (.c (.p (.bool true))) (.t 15)⟩,
    ⟨(some 17), none, none, .mv (.t 16)⟩,
    ⟨(some 18), (some (17, false)), none, .mv (.t 2)⟩,
    ⟨(some 19), (some (17, false)), none, .bin .eql (.t 18) (.c (.p (.int .u64 0)))⟩,
    ⟨(some 20), none, none, .pick (.t 17) (.c (.p (.bool true))) (.t 19)⟩] none)
  (.fg [0, 1, 2, 20] (.cond (.t 20)
    (.seq (.reg [⟨(some 6), none, none, .mv (.c (.nils))⟩,
    ⟨(some 7), none, none, .mv (.c (.p (.int .i64 1)))⟩] none)
    .ret)
    .skip)))
  (.seq (.reg [⟨(some 21), none, none, .mv (.t 0)⟩,
    ⟨(some 22), none, none, .build [.p (.int .u64 0)] [(0, 1, .t 21)]⟩,
    ⟨(some 23), none, none, .box (.t 22)⟩,
    ⟨(some 8), none, none, .mv (.t 23)⟩] none)
  (.seq (.reg [⟨(some 9), none, none, .mv (.c (.nils))⟩] none)
  (.seq (.seq (.reg [⟨(some 10), none, none, .mv (.c (.p (.int .i64 0)))⟩] none)
  (.fg [1, 2, 8, 9, 10] (.block 0
  (.loop (.fg [1, 2, 8, 9, 10]
    (.seq (.seq (.reg [⟨(some 24), none, none, .mv (.t 10)⟩,
    ⟨(some 25), none, none, .mv (.t 1)⟩,
    ⟨(some 26), none, none, .bin .lss (.t 24) (.t 25)⟩] none)
      (.fg [1, 2, 8, 9, 10, 26] (.cond (.t 26)
        .skip
        (.exit 0))))
      (.seq (.block 1
      (.reg [⟨(some 29), none, none, .mv (.t 9)⟩,
    ⟨(some 30), none, none, .mv (.t 8)⟩,
    ⟨(some 31), none, none, .mv (.t 2)⟩,
    ⟨(some 32), none, none, .call .full 50 [.t 30, .t 31]⟩,
    ⟨(some 33), none, none, .bslice 1 [.t 32]⟩,
    ⟨(some 34), none, none, .append 1 8 (.t 29) (.t 33)⟩,
    ⟨(some 9), none, none, .mv (.t 34)⟩] none))
      (.fg [1, 2, 8, 9, 10] (.reg [⟨(some 27), none, none, .mv (.t 10)⟩,
    ⟨(some 28), none, none, .bin .add (.t 27) (.c (.p (.int .i64 1)))⟩,
    ⟨(some 10), none, none, .mv (.t 28)⟩] none)))))))))
  (.seq (.reg [⟨(some 35), none, none, .mv (.t 9)⟩,
    ⟨(some 6), none, none, .mv (.t 35)⟩,
    ⟨(some 7), none, none, .mv (.c (.p (.int .i64 0)))⟩] none)
  .ret)))))),
  [.t 6, .t 7]⟩

theorem c13 : chkF Try.prog 13 f13 = true := by kernel_rfl

/-- trammel/kin.Qary -/
def f17 : RFun := ⟨(.seq (.reg [⟨(some 8), none, none, .mv (.c (.nils))⟩,
    ⟨(some 9), none, none, .mv (.c (.p (.int .i64 0)))⟩] none)
  (.seq (.seq (.reg [⟨(some 15), none, none, .mv (.t 0)⟩,
    ⟨(some 16), none, none, .bin .lss (.t 15) (.c (.p (.int .i64 1)))⟩,
    ⟨(some 17), none, none, .mv (.t 16)⟩,
    ⟨(some 18), (some (17, false)), none, .mv (.t 0)⟩,
    ⟨(some 19), (some (17, false)), none, .bin .gtr (.t 18) (.c (.p (.int .i64 12)))⟩,
    ⟨(some 20), none, none, .pick (.t 17) (.c (.p (.bool true))) (.t 19)⟩,
    ⟨(some 21), none, none, .mv (.t 20)⟩,
    ⟨(some 22), (some (21, false)), none, .mv (.t 1)⟩,
    ⟨(some 23), (some (21, false)), none, .bin .lss (.t 22) (.c (.p (.int .i64 0)))⟩,
    ⟨(some 24), none, none, .pick (.t 21) (.c (.p (.bool true))) (.t 23)⟩,
    ⟨(some 25), none, none, .mv (.t 24)⟩,
    ⟨(some 26), (some (25, false)), none, .mv (.t 1)⟩,
    ⟨(some 27), (some (25, false)), none, .mv (.t 0)⟩,
    ⟨(some 28), (some (25, false)), none, .bin .gtr (.t 26) (.t 27)⟩,
    ⟨(some 29), none, none, .pick (.t 25) (.c (.p (.bool true))) (.t 28)⟩,
    ⟨(some 30), none, none, .mv (.t 29)⟩,
    ⟨(some 31), (some (30, false)), none, .mv (.t 2)⟩,
    ⟨(some 32), (some (30, false)), none, .call .pu 53 [.t 31]⟩,
    ⟨(some 33), (some (30, false)), none, .un .not (.t 32)⟩,
    ⟨(some 34), none, none, .pick (.t 30) (.c (.p (.bool true))) (.t 33)⟩] none)
  (.fg [0, 1, 2, 3, 34] (.cond (.t 34)
    (.seq (.reg [⟨(some 8), none, none, .mv (.c (.nils))⟩,
    ⟨(some 9), none, none, .mv (.c (.p (.int .i64 1)))⟩] none)
    .ret)
    .skip)))
  (.seq (.reg [⟨(some 35), none, none, .mv (.t 3)⟩,
    ⟨(some 36), none, none, .call .keep 49 [.t 35]⟩,
    ⟨(some 10), none, none, .mv (.t 36)⟩] none)
  (.seq (.reg [⟨(some 11), none, none, .mv (.c (.nils))⟩] none)
  (.seq (.seq (.reg [⟨(some 37), none, none, .mv (.t 0)⟩,
    ⟨(some 38), none, none, .mv (.c (.p (.int .i64 0)))⟩] none)
  (.fg [0, 1, 2, 10, 11, 37, 38] (.block 0
  (.loop (.fg [0, 1, 2, 10, 11, 37, 38]
    (.seq (.reg [⟨(some 39), none, none, .bin .lss (.t 38) (.t 37)⟩] none)
      (.seq (.cond (.t 39)
        .skip
        (.exit 0))
      (.fg [0, 1, 2, 10, 11, 37, 38] (.seq (.block 1
      (.seq (.reg [⟨(some 40), none, none, .mv (.t 38)⟩,
    ⟨(some 12), none, none, .mv (.t 40)⟩] none)
        (.seq (.reg [⟨(some 41), none, none, .mv (.t 0)⟩,
    ⟨(some 42), none, none, .mks false 2 32 (.agg [.bool false, .sl []]) (.t 41) (.t 41)⟩,
    ⟨(some 13), none, none, .mv (.t 42)⟩] none)
        (.seq (.seq (.reg [⟨(some 43), none, none, .mv (.t 12)⟩,
    ⟨(some 44), none, none, .mv (.t 1)⟩,
    ⟨(some 45), none, none, .bin .geq (.t 43) (.t 44)⟩] none)
        (.fg [0, 1, 2, 10, 11, 12, 13, 37, 38, 45] (.cond (.t 45)
          (.seq (.reg [⟨(some 46), none, none, .mv (.t 13)⟩,
    ⟨(some 47), none, none, .mv (.t 12)⟩,
    ⟨(some 48), none, none, .mv (.t 2)⟩,
    ⟨(some 49), none, none, .conv .i64 (.t 48)⟩,
    ⟨(some 50), none, none, .call .pu 54 [.t 49]⟩,
    ⟨(some 51), none, none, .indexA 2 (.t 46) (.t 47)⟩,
    ⟨none, none, none, .store 2 (.t 51) (.t 50)⟩] none)
          (.seq (.reg [⟨(some 52), none, none, .mv (.t 11)⟩,
    ⟨(some 53), none, none, .mv (.t 13)⟩,
    ⟨(some 54), none, none, .bslice 1 [.t 53]⟩,
    ⟨(some 55), none, none, .append 1 24 (.t 52) (.t 54)⟩,
    ⟨(some 11), none, none, .mv (.t 55)⟩] none)
          (.exit 1)))
          .skip)))
        (.seq (.reg [⟨(some 56), none, none, .mv (.t 13)⟩,
    ⟨(some 57), none, none, .mv (.t 12)⟩,
    ⟨(some 58), none, none, .call .pu 54 [.c (.p (.int .i64 1))]⟩,
    ⟨(some 59), none, none, .indexA 2 (.t 56) (.t 57)⟩,
    ⟨none, none, none, .store 2 (.t 59) (.t 58)⟩] none)
        (.seq (.seq (.reg [⟨(some 60), none, none, .mv (.t 1)⟩,
    ⟨(some 14), none, none, .mv (.t 60)⟩] none)
        (.fg [0, 1, 2, 10, 11, 13, 14, 37, 38] (.block 2
        (.loop (.fg [0, 1, 2, 10, 11, 13, 14, 37, 38]
          (.seq (.seq (.reg [⟨(some 61), none, none, .mv (.t 14)⟩,
    ⟨(some 62), none, none, .mv (.t 0)⟩,
    ⟨(some 63), none, none, .bin .lss (.t 61) (.t 62)⟩] none)
            (.fg [0, 1, 2, 10, 11, 13, 14, 37, 38, 63] (.cond (.t 63)
              .skip
              (.exit 2))))
            (.seq (.block 3
            (.reg [⟨(some 66), none, none, .mv (.t 13)⟩,
    ⟨(some 67), none, none, .mv (.t 14)⟩,
    ⟨(some 68), none, none, .mv (.t 10)⟩,
    ⟨(some 69), none, none, .mv (.t 2)⟩,
    ⟨(some 70), none, none, .callv .full (.t 68) [.t 69]⟩,
    ⟨(some 71), none, none, .conv .i64 (.t 70)⟩,
    ⟨(some 72), none, none, .call .pu 54 [.t 71]⟩,
    ⟨(some 73), none, none, .indexA 2 (.t 66) (.t 67)⟩,
    ⟨none, none, none, .store 2 (.t 73) (.t 72)⟩] none))
            (.fg [0, 1, 2, 10, 11, 13, 14, 37, 38] (.reg [⟨(some 64), none, none, .mv (.t 14)⟩,
    ⟨(some 65), none, none, .bin .add (.t 64) (.c (.p (.int .i64 1)))⟩,
    ⟨(some 14), none, none, .mv (.t 65)⟩] none)))))))))
        (.reg [⟨(some 74), none, none, .mv (.t 11)⟩,
    ⟨(some 75), none, none, .mv (.t 13)⟩,
    ⟨(some 76), none, none, .bslice 1 [.t 75]⟩,
    ⟨(some 77), none, none, .append 1 24 (.t 74) (.t 76)⟩,
    ⟨(some 11), none, none, .mv (.t 77)⟩] none)))))))
      (.fg [0, 1, 2, 10, 11, 37, 38] (.reg [⟨(some 78), none, none, .bin .add (.t 38) (.c (.p (.int .i64 1)))⟩,
    ⟨(some 38), none, none, .mv (.t 78)⟩] none)))))))))))
  (.seq (.reg [⟨(some 79), none, none, .mv (.t 11)⟩,
    ⟨(some 8), none, none, .mv (.t 79)⟩,
    ⟨(some 9), none, none, .mv (.c (.p (.int .i64 0)))⟩] none)
  .ret)))))),
  [.t 8, .t 9]⟩

theorem c17 : chkF Try.prog 17 f17 = true := by kernel_rfl

/-- trammel/trammelref26.Qary -/
def f18 : RFun := ⟨(.seq (.reg [⟨(some 8), none, none, .mv (.c (.nils))⟩,
    ⟨(some 9), none, none, .mv (.c (.p (.int .i64 0)))⟩] none)
  (.seq (.seq (.reg [⟨(some 15), none, none, .mv (.t 0)⟩,
    ⟨(some 16), none, none, .bin .lss (.t 15) (.c (.p (.int .i64 1)))⟩,
    ⟨(some 17), none, none, .mv (.t 16)⟩,
    ⟨(some 18), (some (17, false)), none, .mv (.t 0)⟩,
    ⟨(some 19), (some (17, false)), none, .bin .gtr (.t 18) (.c (.p (.int .i64 12)))⟩,
    ⟨(some 20), none, none, .pick (.t 17) (.c (.p (.bool true))) (.t 19)⟩,
    ⟨(some 21), none, none, .mv (.t 20)⟩,
    ⟨(some 22), (some (21, false)), none, .mv (.t 1)⟩,
    ⟨(some 23), (some (21, false)), none, .bin .lss (.t 22) (.c (.p (.int .i64 0)))⟩,
    ⟨(some 24), none, none, .pick (.t 21) (.c (.p (.bool true))) (.t 23)⟩,
    ⟨(some 25), none, none, .mv (.t 24)⟩,
    ⟨(some 26), (some (25, false)), none, .mv (.t 1)⟩,
    ⟨(some 27), (some (25, false)), none, .mv (.t 0)⟩,
    ⟨(some 28), (some (25, false)), none, .bin .gtr (.t 26) (.t 27)⟩,
    ⟨(some 29), none, none, .pick (.t 25) (.c (.p (.bool true))) (.t 28)⟩,
    ⟨(some 30), none, none, .mv (.t 29)⟩,
    ⟨(some 31), (some (30, false)), none, .mv (.t 2)⟩,
    ⟨(some 32), (some (30, false)), none, .bin .lss (.t 31) (.c (.p (.int .u64 2)))⟩,
    ⟨(some 33), none, none, .pick (.t 30) (.c (.p (.bool true))) (.t 32)⟩,
    ⟨(some 34), none, none, .mv (.t 33)⟩,
    ⟨(some 35), (some (34, false)), none, .mv (.t 2)⟩,
    ⟨(some 36), (some (34, false)), none, .bin .gtr (.t 35) (.c (.p (.int .u64 4294967296)))⟩,
    ⟨(some 37), none, none, .pick (.t 34) (.c (.p (.bool true))) (.t 36)⟩] none)
  (.fg [0, 1, 2, 3, 37] (.cond (.t 37)
    (.seq (.reg [⟨(some 8), none, none, .mv (.c (.nils))⟩,
    ⟨(some 9), none, none, .mv (.c (.p (.int .i64 1)))⟩] none)
    .ret)
    .skip)))
  (.seq (.reg [⟨(some 38), none, none, .mv (.t 3)⟩,
    ⟨(some 39), none, none, .build [.p (.int .u64 0)] [(0, 1, .t 38)]⟩,
    ⟨(some 40), none, none, .box (.t 39)⟩,
    ⟨(some 10), none, none, .mv (.t 40)⟩] none)
  (.seq (.reg [⟨(some 11), none, none, .mv (.c (.nils))⟩] none)
  (.seq (.seq (.reg [⟨(some 12), none, none, .mv (.c (.p (.int .i64 0)))⟩] none)
  (.fg [0, 1, 2, 10, 11, 12] (.block 0
  (.loop (.fg [0, 1, 2, 10, 11, 12]
    (.seq (.seq (.reg [⟨(some 41), none, none, .mv (.t 12)⟩,
    ⟨(some 42), none, none, .mv (.t 0)⟩,
    ⟨(some 43), none, none, .bin .lss (.t 41) (.t 42)⟩] none)
      (.fg [0, 1, 2, 10, 11, 12, 43] (.cond (.t 43)
        .skip
        (.exit 0))))
      (.seq (.block 1
      (.seq (.reg [⟨(some 46), none, none, .mv (.t 0)⟩,
    ⟨(some 47), none, none, .call .keep 55 [.t 46]⟩,
    ⟨(some 13), none, none, .mv (.t 47)⟩] none)
        (.seq (.reg [⟨(some 48), none, none, .mv (.t 13)⟩,
    ⟨(some 49), none, none, .mv (.t 12)⟩,
    ⟨(some 50), none, none, .mv (.t 2)⟩,
    ⟨(some 51), none, none, .call .pu 56 [.t 50]⟩,
    ⟨(some 52), none, none, .indexA 2 (.t 48) (.t 49)⟩,
    ⟨none, none, none, .store 2 (.t 52) (.t 51)⟩] none)
        (.seq (.seq (.reg [⟨(some 53), none, none, .mv (.t 12)⟩,
    ⟨(some 54), none, none, .mv (.t 1)⟩,
    ⟨(some 55), none, none, .bin .lss (.t 53) (.t 54)⟩] none)
        (.fg [0, 1, 2, 10, 11, 12, 13, 55] (.cond (.t 55)
          (.seq (.reg [⟨(some 56), none, none, .mv (.t 13)⟩,
    ⟨(some 57), none, none, .mv (.t 12)⟩,
    ⟨(some 58), none, none, .call .pu 56 [.c (.p (.int .u64 1))]⟩,
    ⟨(some 59), none, none, .indexA 2 (.t 56) (.t 57)⟩,
    ⟨none, none, none, .store 2 (.t 59) (.t 58)⟩] none)
          (.seq (.reg [⟨(some 60), none, none, .mv (.t 1)⟩,
    ⟨(some 14), none, none, .mv (.t 60)⟩] none)
          (.fg [0, 1, 2, 10, 11, 12, 13, 14] (.block 2
          (.loop (.fg [0, 1, 2, 10, 11, 12, 13, 14]
            (.seq (.seq (.reg [⟨(some 61), none, none, .mv (.t 14)⟩,
    ⟨(some 62), none, none, .mv (.t 0)⟩,
    ⟨(some 63), none, none, .bin .lss (.t 61) (.t 62)⟩] none)
              (.fg [0, 1, 2, 10, 11, 12, 13, 14, 63] (.cond (.t 63)
                .skip
                (.exit 2))))
              (.seq (.block 3
              (.reg [⟨(some 66), none, none, .mv (.t 13)⟩,
    ⟨(some 67), none, none, .mv (.t 14)⟩,
    ⟨(some 68), none, none, .mv (.t 10)⟩,
    ⟨(some 69), none, none, .mv (.t 2)⟩,
    ⟨(some 70), none, none, .call .full 50 [.t 68, .t 69]⟩,
    ⟨(some 71), none, none, .call .pu 56 [.t 70]⟩,
    ⟨(some 72), none, none, .indexA 2 (.t 66) (.t 67)⟩,
    ⟨none, none, none, .store 2 (.t 72) (.t 71)⟩] none))
              (.fg [0, 1, 2, 10, 11, 12, 13, 14] (.reg [⟨(some 64), none, none, .mv (.t 14)⟩,
    ⟨(some 65), none, none, .bin .add (.t 64) (.c (.p (.int .i64 1)))⟩,
    ⟨(some 14), none, none, .mv (.t 65)⟩] none))))))))))
          .skip)))
        (.reg [⟨(some 73), none, none, .mv (.t 11)⟩,
    ⟨(some 74), none, none, .mv (.t 13)⟩,
    ⟨(some 75), none, none, .bslice 1 [.t 74]⟩,
    ⟨(some 76), none, none, .append 1 24 (.t 73) (.t 75)⟩,
    ⟨(some 11), none, none, .mv (.t 76)⟩] none)))))
      (.fg [0, 1, 2, 10, 11, 12] (.reg [⟨(some 44), none, none, .mv (.t 12)⟩,
    ⟨(some 45), none, none, .bin .add (.t 44) (.c (.p (.int .i64 1)))⟩,
    ⟨(some 12), none, none, .mv (.t 45)⟩] none)))))))))
  (.seq (.reg [⟨(some 77), none, none, .mv (.t 11)⟩,
    ⟨(some 8), none, none, .mv (.t 77)⟩,
    ⟨(some 9), none, none, .mv (.c (.p (.int .i64 0)))⟩] none)
  .ret)))))),
  [.t 8, .t 9]⟩

theorem c18 : chkF Try.prog 18 f18 = true := by kernel_rfl

/-- trammel/trammellaw26.eqm -/
def f19 : RFun := ⟨(.seq (.reg [⟨(some 4), none, none, .mv (.c (.p (.bool false)))⟩] none)
  (.seq (.seq (.reg [⟨(some 6), none, none, .mv (.t 0)⟩,
    ⟨(some 7), none, none, .len (.t 6)⟩,
    ⟨(some 8), none, none, .mv (.t 1)⟩,
    ⟨(some 9), none, none, .len (.t 8)⟩,
    ⟨(some 10), none, none, .bin .neq (.t 7) (.t 9)⟩] none)
  (.fg [0, 1, 10] (.cond (.t 10)
    (.seq (.reg [⟨(some 4), none, none, .mv (.c (.p (.bool false)))⟩] none)
    .ret)
    .skip)))
  (.seq (.seq (.reg [⟨(some 5), none, none, .mv (.c (.p (.int .i64 0)))⟩] none)
  (.fg [0, 1, 5] (.block 0
  (.loop (.fg [0, 1, 5]
    (.seq (.seq (.reg [⟨(some 11), none, none, .mv (.t 5)⟩,
    ⟨(some 12), none, none, .mv (.t 0)⟩,
    ⟨(some 13), none, none, .len (.t 12)⟩,
    ⟨(some 14), none, none, .bin .lss (.t 11) (.t 13)⟩] none)
      (.fg [0, 1, 5, 14] (.cond (.t 14)
        .skip
        (.exit 0))))
      (.seq (.block 1
      (.seq (.reg [⟨(some 17), none, none, .mv (.t 0)⟩,
    ⟨(some 18), none, none, .mv (.t 5)⟩,
    ⟨(some 19), none, none, .indexA 1 (.t 17) (.t 18)⟩,
    ⟨(some 20), none, none, .load false 1 (.t 19)⟩,
    ⟨(some 21), none, none, .mv (.t 1)⟩,
    ⟨(some 22), none, none, .mv (.t 5)⟩,
    ⟨(some 23), none, none, .indexA 1 (.t 21) (.t 22)⟩,
    ⟨(some 24), none, none, .load false 1 (.t 23)⟩,
    ⟨(some 25), none, none, .call .pu 57 [.t 20, .t 24]⟩,
    ⟨(some 26), none, none, .un .not (.t 25)⟩] (some (0, [])))
        (.fg [0, 1, 5, 26] (.cond (.t 26)
          (.seq (.reg [⟨(some 4), none, none, .mv (.c (.p (.bool false)))⟩] none)
          .ret)
          .skip))))
      (.fg [0, 1, 5] (.reg [⟨(some 15), none, none, .mv (.t 5)⟩,
    ⟨(some 16), none, none, .bin .add (.t 15) (.c (.p (.int .i64 1)))⟩,
    ⟨(some 5), none, none, .mv (.t 16)⟩] none)))))))))
  (.seq (.reg [⟨(some 4), none, none, .mv (.c (.p (.bool true)))⟩] none)
  .ret)))),
  [.t 4]⟩

theorem c19 : chkF Try.prog 19 f19 = true := by kernel_rfl

/-- trammel/kin.Ideal -/
def f20 : RFun := ⟨(.seq (.reg [⟨(some 6), none, none, .mv (.c (.nils))⟩,
    ⟨(some 7), none, none, .mv (.c (.p (.int .i64 0)))⟩] none)
  (.seq (.seq (.reg [⟨(some 18), none, none, .mv (.t 0)⟩,
    ⟨(some 19), none, none, .bin .lss (.t 18) (.c (.p (.int .i64 2)))⟩,
    ⟨(some 20), none, none, .mv (.t 19)⟩,
    ⟨(some 21), (some (20, false)), none, .mv (.t 0)⟩,
    ⟨(some 22), (some (20, false)), none, .bin .gtr (.t 21) (.c (.p (.int .i64 12)))⟩,
    ⟨(some 23), none, none, .pick (.t 20) (.c (.p (.bool true))) (.t 22)⟩,
    ⟨(some 24), none, none, .mv (.t 23)⟩,
    ⟨(some 25), (some (24, false)), none, .mv (.t 0)⟩,
    ⟨(some 26), (some (24, false)), none, .bin .rem (.t 25) (.c (.p (.int .i64 2)))⟩,
    ⟨(some 27), (some (24, false)), none, .bin .eql (.t 26) (.c (.p (.int .i64 1)))⟩,
    ⟨(some 28), none, none, .pick (.t 24) (.c (.p (.bool true))) (.t 27)⟩,
    ⟨(some 29), none, none, .mv (.t 28)⟩,
    ⟨(some 30), (some (29, false)), none, .mv (.t 1)⟩,
    ⟨(some 31), (some (29, false)), none, .call .pu 53 [.t 30]⟩,
    ⟨(some 32), (some (29, false)), none, .un .not (.t 31)⟩,
    ⟨(some 33), none, none, .pick (.t 29) (.c (.p (.bool true))) (.t 32)⟩] none)
  (.fg [0, 1, 2, 33] (.cond (.t 33)
    (.seq (.reg [⟨(some 6), none, none, .mv (.c (.nils))⟩,
    ⟨(some 7), none, none, .mv (.c (.p (.int .i64 1)))⟩] none)
    .ret)
    .skip)))
  (.seq (.reg [⟨(some 34), none, none, .mv (.t 0)⟩,
    ⟨(some 35), none, none, .bin .quo (.t 34) (.c (.p (.int .i64 2)))⟩,
    ⟨(some 8), none, none, .mv (.t 35)⟩] none)
  (.seq (.reg [⟨(some 37), none, none, .mv (.t 2)⟩,
    ⟨(some 38), none, none, .mv (.t 8)⟩,
    ⟨(some 39), none, none, .mv (.t 1)⟩,
    ⟨(some 40), none, none, .call .pu 12 [.t 37, .t 38, .t 39]⟩,
    ⟨(some 36), none, none, .mv (.t 40)⟩,
    ⟨(some 41), none, none, .extract (.t 36) 0⟩,
    ⟨(some 42), none, none, .extract (.t 36) 1⟩,
    ⟨(some 9), none, none, .mv (.t 41)⟩,
    ⟨(some 10), none, none, .mv (.t 42)⟩] none)
  (.seq (.reg [⟨(some 11), none, none, .mv (.c (.nils))⟩] none)
  (.seq (.seq (.reg [⟨(some 43), none, none, .mv (.t 8)⟩,
    ⟨(some 44), none, none, .mv (.c (.p (.int .i64 0)))⟩] none)
  (.fg [0, 1, 8, 9, 11, 43, 44] (.block 0
  (.loop (.fg [0, 1, 8, 9, 11, 43, 44]
    (.seq (.reg [⟨(some 45), none, none, .bin .lss (.t 44) (.t 43)⟩] none)
      (.seq (.cond (.t 45)
        .skip
        (.exit 0))
      (.fg [0, 1, 8, 9, 11, 43, 44] (.seq (.block 1
      (.seq (.reg [⟨(some 46), none, none, .mv (.t 44)⟩,
    ⟨(some 12), none, none, .mv (.t 46)⟩] none)
        (.seq (.reg [⟨(some 47), none, none, .mv (.t 0)⟩,
    ⟨(some 48), none, none, .mks false 2 32 (.agg [.bool false, .sl []]) (.t 47) (.t 47)⟩,
    ⟨(some 13), none, none, .mv (.t 48)⟩] none)
        (.seq (.reg [⟨(some 49), none, none, .mv (.t 13)⟩,
    ⟨(some 50), none, none, .mv (.t 12)⟩,
    ⟨(some 51), none, none, .call .pu 54 [.c (.p (.int .i64 1))]⟩,
    ⟨(some 52), none, none, .indexA 2 (.t 49) (.t 50)⟩,
    ⟨none, none, none, .store 2 (.t 52) (.t 51)⟩] none)
        (.seq (.seq (.reg [⟨(some 53), none, none, .mv (.t 8)⟩,
    ⟨(some 54), none, none, .mv (.c (.p (.int .i64 0)))⟩] none)
        (.fg [0, 1, 8, 9, 11, 12, 13, 43, 44, 53, 54] (.block 2
        (.loop (.fg [0, 1, 8, 9, 11, 12, 13, 43, 44, 53, 54]
          (.seq (.reg [⟨(some 55), none, none, .bin .lss (.t 54) (.t 53)⟩] none)
            (.seq (.cond (.t 55)
              .skip
              (.exit 2))
            (.fg [0, 1, 8, 9, 11, 12, 13, 43, 44, 53, 54] (.seq (.block 3
            (.seq (.reg [⟨(some 56), none, none, .mv (.t 54)⟩,
    ⟨(some 14), none, none, .mv (.t 56)⟩] none)
              (.seq (.reg [⟨(some 57), none, none, .mv (.t 9)⟩,
    ⟨(some 58), none, none, .mv (.t 14)⟩,
    ⟨(some 59), none, none, .mv (.t 12)⟩,
    ⟨(some 60), none, none, .bin .sub (.t 58) (.t 59)⟩,
    ⟨(some 61), none, none, .mv (.t 8)⟩,
    ⟨(some 62), none, none, .bin .add (.t 60) (.t 61)⟩,
    ⟨(some 63), none, none, .mv (.t 8)⟩,
    ⟨(some 64), none, none, .bin .rem (.t 62) (.t 63)⟩,
    ⟨(some 65), none, none, .indexA 1 (.t 57) (.t 64)⟩,
    ⟨(some 66), none, none, .load false 1 (.t 65)⟩,
    ⟨(some 67), none, none, .conv .i64 (.t 66)⟩,
    ⟨(some 15), none, none, .mv (.t 67)⟩] none)
              (.seq (.seq (.reg [⟨(some 68), none, none, .mv (.t 14)⟩,
    ⟨(some 69), none, none, .mv (.t 12)⟩,
    ⟨(some 70), none, none, .bin .lss (.t 68) (.t 69)⟩] none)
              (.fg [0, 1, 8, 9, 11, 12, 13, 14, 15, 43, 44, 53, 54, 70] (.cond (.t 70)
                (.reg [⟨(some 71), none, none, .mv (.t 15)⟩,
    ⟨(some 72), none, none, .un .neg (.t 71)⟩,
    ⟨(some 15), none, none, .mv (.t 72)⟩] none)
                .skip)))
              (.reg [⟨(some 73), none, none, .mv (.t 13)⟩,
    ⟨(some 74), none, none, .mv (.t 8)⟩,
    ⟨(some 75), none, none, .mv (.t 14)⟩,
    ⟨(some 76), none, none, .bin .add (.t 74) (.t 75)⟩,
    ⟨(some 77), none, none, .mv (.t 15)⟩,
    ⟨(some 78), none, none, .call .pu 54 [.t 77]⟩,
    ⟨(some 79), none, none, .indexA 2 (.t 73) (.t 76)⟩,
    ⟨none, none, none, .store 2 (.t 79) (.t 78)⟩] none)))))
            (.fg [0, 1, 8, 9, 11, 12, 13, 43, 44, 53, 54] (.reg [⟨(some 80), none, none, .bin .add (.t 54) (.c (.p (.int .i64 1)))⟩,
    ⟨(some 54), none, none, .mv (.t 80)⟩] none)))))))))))
        (.reg [⟨(some 81), none, none, .mv (.t 11)⟩,
    ⟨(some 82), none, none, .mv (.t 13)⟩,
    ⟨(some 83), none, none, .bslice 1 [.t 82]⟩,
    ⟨(some 84), none, none, .append 1 24 (.t 81) (.t 83)⟩,
    ⟨(some 11), none, none, .mv (.t 84)⟩] none))))))
      (.fg [0, 1, 8, 9, 11, 43, 44] (.reg [⟨(some 85), none, none, .bin .add (.t 44) (.c (.p (.int .i64 1)))⟩,
    ⟨(some 44), none, none, .mv (.t 85)⟩] none)))))))))))
  (.seq (.seq (.reg [⟨(some 86), none, none, .mv (.t 8)⟩,
    ⟨(some 87), none, none, .mv (.c (.p (.int .i64 0)))⟩] none)
  (.fg [0, 1, 8, 11, 86, 87] (.block 4
  (.loop (.fg [0, 1, 8, 11, 86, 87]
    (.seq (.reg [⟨(some 88), none, none, .bin .lss (.t 87) (.t 86)⟩] none)
      (.seq (.cond (.t 88)
        .skip
        (.exit 4))
      (.fg [0, 1, 8, 11, 86, 87] (.seq (.block 5
      (.seq (.reg [⟨(some 89), none, none, .mv (.t 87)⟩,
    ⟨(some 16), none, none, .mv (.t 89)⟩] none)
        (.seq (.reg [⟨(some 90), none, none, .mv (.t 0)⟩,
    ⟨(some 91), none, none, .mks false 2 32 (.agg [.bool false, .sl []]) (.t 90) (.t 90)⟩,
    ⟨(some 17), none, none, .mv (.t 91)⟩] none)
        (.seq (.reg [⟨(some 92), none, none, .mv (.t 17)⟩,
    ⟨(some 93), none, none, .mv (.t 8)⟩,
    ⟨(some 94), none, none, .mv (.t 16)⟩,
    ⟨(some 95), none, none, .bin .add (.t 93) (.t 94)⟩,
    ⟨(some 96), none, none, .mv (.t 1)⟩,
    ⟨(some 97), none, none, .conv .i64 (.t 96)⟩,
    ⟨(some 98), none, none, .call .pu 54 [.t 97]⟩,
    ⟨(some 99), none, none, .indexA 2 (.t 92) (.t 95)⟩,
    ⟨none, none, none, .store 2 (.t 99) (.t 98)⟩] none)
        (.reg [⟨(some 100), none, none, .mv (.t 11)⟩,
    ⟨(some 101), none, none, .mv (.t 17)⟩,
    ⟨(some 102), none, none, .bslice 1 [.t 101]⟩,
    ⟨(some 103), none, none, .append 1 24 (.t 100) (.t 102)⟩,
    ⟨(some 11), none, none, .mv (.t 103)⟩] none)))))
      (.fg [0, 1, 8, 11, 86, 87] (.reg [⟨(some 104), none, none, .bin .add (.t 87) (.c (.p (.int .i64 1)))⟩,
    ⟨(some 87), none, none, .mv (.t 104)⟩] none)))))))))))
  (.seq (.reg [⟨(some 105), none, none, .mv (.t 11)⟩,
    ⟨(some 6), none, none, .mv (.t 105)⟩,
    ⟨(some 7), none, none, .mv (.c (.p (.int .i64 0)))⟩] none)
  .ret)))))))),
  [.t 6, .t 7]⟩

theorem c20 : chkF Try.prog 20 f20 = true := by kernel_rfl

/-- trammel/trammelref26.Ideal -/
def f21 : RFun := ⟨(.seq (.reg [⟨(some 6), none, none, .mv (.c (.nils))⟩,
    ⟨(some 7), none, none, .mv (.c (.p (.int .i64 0)))⟩] none)
  (.seq (.seq (.reg [⟨(some 16), none, none, .mv (.t 0)⟩,
    ⟨(some 17), none, none, .bin .lss (.t 16) (.c (.p (.int .i64 2)))⟩,
    ⟨(some 18), none, none, .mv (.t 17)⟩,
    ⟨(some 19), (some (18, false)), none, .mv (.t 0)⟩,
    ⟨(some 20), (some (18, false)), none, .bin .gtr (.t 19) (.c (.p (.int .i64 12)))⟩,
    ⟨(some 21), none, none, .pick (.t 18) (.c (.p (.bool true))) (.t 20)⟩,
    ⟨(some 22), none, none, .mv (.t 21)⟩,
    ⟨(some 23), (some (22, false)), none, .mv (.t 0)⟩,
    ⟨(some 24), (some (22, false)), none, .bin .rem (.t 23) (.c (.p (.int .i64 2)))⟩,
    ⟨(some 25), (some (22, false)), none, .bin .neq (.t 24) (.c (.p (.int .i64 0)))⟩,
    ⟨(some 26), none, none, .pick (.t 22) (.c (.p (.bool true))) (.t 25)⟩,
    ⟨(some 27), none, none, .mv (.t 26)⟩,
    ⟨(some 28), (some (27, false)), none, .mv (.t 1)⟩,
    ⟨(some 29), (some (27, false)), none, .bin .lss (.t 28) (.c (.p (.int .u64 2)))⟩,
    ⟨(some 30), none, none, .pick (.t 27) (.c (.p (.bool true))) (.t 29)⟩,
    ⟨(some 31), none, none, .mv (.t 30)⟩,
    ⟨(some 32), (some (31, false)), none, .mv (.t 1)⟩,
    ⟨(some 33), (some (31, false)), none, .bin .gtr (.t 32) (.c (.p (.int .u64 4294967296)))⟩,
    ⟨(some 34), none, none, .pick (.t 31) (.c (.p (.bool true))) (.t 33)⟩] none)
  (.fg [0, 1, 2, 34] (.cond (.t 34)
    (.seq (.reg [⟨(some 6), none, none, .mv (.c (.nils))⟩,
    ⟨(some 7), none, none, .mv (.c (.p (.int .i64 1)))⟩] none)
    .ret)
    .skip)))
  (.seq (.reg [⟨(some 35), none, none, .mv (.t 0)⟩,
    ⟨(some 36), none, none, .bin .quo (.t 35) (.c (.p (.int .i64 2)))⟩,
    ⟨(some 8), none, none, .mv (.t 36)⟩] none)
  (.seq (.reg [⟨(some 38), none, none, .mv (.t 2)⟩,
    ⟨(some 39), none, none, .mv (.t 8)⟩,
    ⟨(some 40), none, none, .mv (.t 1)⟩,
    ⟨(some 41), none, none, .call .pu 13 [.t 38, .t 39, .t 40]⟩,
    ⟨(some 37), none, none, .mv (.t 41)⟩,
    ⟨(some 42), none, none, .extract (.t 37) 0⟩,
    ⟨(some 43), none, none, .extract (.t 37) 1⟩,
    ⟨(some 9), none, none, .mv (.t 42)⟩,
    ⟨(some 10), none, none, .mv (.t 43)⟩] none)
  (.seq (.reg [⟨(some 11), none, none, .mv (.c (.nils))⟩] none)
  (.seq (.seq (.reg [⟨(some 12), none, none, .mv (.c (.p (.int .i64 0)))⟩] none)
  (.fg [0, 1, 8, 9, 11, 12] (.block 0
  (.loop (.fg [0, 1, 8, 9, 11, 12]
    (.seq (.seq (.reg [⟨(some 44), none, none, .mv (.t 12)⟩,
    ⟨(some 45), none, none, .mv (.t 0)⟩,
    ⟨(some 46), none, none, .bin .lss (.t 44) (.t 45)⟩] none)
      (.fg [0, 1, 8, 9, 11, 12, 46] (.cond (.t 46)
        .skip
        (.exit 0))))
      (.seq (.block 1
      (.seq (.reg [⟨(some 49), none, none, .mv (.t 0)⟩,
    ⟨(some 50), none, none, .call .keep 55 [.t 49]⟩,
    ⟨(some 13), none, none, .mv (.t 50)⟩] none)
        (.seq (.seq (.reg [⟨(some 51), none, none, .mv (.t 12)⟩,
    ⟨(some 52), none, none, .mv (.t 8)⟩,
    ⟨(some 53), none, none, .bin .geq (.t 51) (.t 52)⟩] none)
        (.fg [0, 1, 8, 9, 11, 12, 13, 53] (.cond (.t 53)
          (.seq (.reg [⟨(some 54), none, none, .mv (.t 13)⟩,
    ⟨(some 55), none, none, .mv (.t 12)⟩,
    ⟨(some 56), none, none, .mv (.t 1)⟩,
    ⟨(some 57), none, none, .call .pu 56 [.t 56]⟩,
    ⟨(some 58), none, none, .indexA 2 (.t 54) (.t 55)⟩,
    ⟨none, none, none, .store 2 (.t 58) (.t 57)⟩] none)
          (.seq (.reg [⟨(some 59), none, none, .mv (.t 11)⟩,
    ⟨(some 60), none, none, .mv (.t 13)⟩,
    ⟨(some 61), none, none, .bslice 1 [.t 60]⟩,
    ⟨(some 62), none, none, .append 1 24 (.t 59) (.t 61)⟩,
    ⟨(some 11), none, none, .mv (.t 62)⟩] none)
          (.exit 1)))
          .skip)))
        (.seq (.reg [⟨(some 63), none, none, .mv (.t 13)⟩,
    ⟨(some 64), none, none, .mv (.t 12)⟩,
    ⟨(some 65), none, none, .call .pu 56 [.c (.p (.int .u64 1))]⟩,
    ⟨(some 66), none, none, .indexA 2 (.t 63) (.t 64)⟩,
    ⟨none, none, none, .store 2 (.t 66) (.t 65)⟩] none)
        (.seq (.seq (.reg [⟨(some 14), none, none, .mv (.c (.p (.int .i64 0)))⟩] none)
        (.fg [0, 1, 8, 9, 11, 12, 13, 14] (.block 2
        (.loop (.fg [0, 1, 8, 9, 11, 12, 13, 14]
          (.seq (.seq (.reg [⟨(some 67), none, none, .mv (.t 14)⟩,
    ⟨(some 68), none, none, .mv (.t 8)⟩,
    ⟨(some 69), none, none, .bin .lss (.t 67) (.t 68)⟩] none)
            (.fg [0, 1, 8, 9, 11, 12, 13, 14, 69] (.cond (.t 69)
              .skip
              (.exit 2))))
            (.seq (.block 3
            (.seq (.reg [⟨(some 72), none, none, .mv (.t 9)⟩,
    ⟨(some 73), none, none, .mv (.t 14)⟩,
    ⟨(some 74), none, none, .mv (.t 12)⟩,
    ⟨(some 75), none, none, .bin .sub (.t 73) (.t 74)⟩,
    ⟨(some 76), none, none, .mv (.t 8)⟩,
    ⟨(some 77), none, none, .bin .add (.t 75) (.t 76)⟩,
    ⟨(some 78), none, none, .mv (.t 8)⟩,
    ⟨(some 79), none, none, .bin .rem (.t 77) (.t 78)⟩,
    ⟨(some 80), none, none, .indexA 1 (.t 72) (.t 79)⟩,
    ⟨(some 81), none, none, .load false 1 (.t 80)⟩,
    ⟨(some 82), none, none, .call .pu 56 [.t 81]⟩,
    ⟨(some 15), none, none, .alloc [.p (.bool false), .nils]⟩,
    ⟨none, none, none, .store 2 (.t 15) (.t 82)⟩] none)
              (.seq (.seq (.reg [⟨(some 83), none, none, .mv (.t 14)⟩,
    ⟨(some 84), none, none, .mv (.t 12)⟩,
    ⟨(some 85), none, none, .bin .lss (.t 83) (.t 84)⟩] none)
              (.fg [0, 1, 8, 9, 11, 12, 13, 14, 15, 85] (.cond (.t 85)
                (.reg [⟨(some 86), none, none, .load true 2 (.t 15)⟩,
    ⟨(some 87), none, none, .call .pu 58 [.t 86]⟩,
    ⟨none, none, none, .store 2 (.t 15) (.t 87)⟩] none)
                .skip)))
              (.reg [⟨(some 88), none, none, .mv (.t 13)⟩,
    ⟨(some 89), none, none, .mv (.t 8)⟩,
    ⟨(some 90), none, none, .mv (.t 14)⟩,
    ⟨(some 91), none, none, .bin .add (.t 89) (.t 90)⟩,
    ⟨(some 92), none, none, .load true 2 (.t 15)⟩,
    ⟨(some 93), none, none, .indexA 2 (.t 88) (.t 91)⟩,
    ⟨none, none, none, .store 2 (.t 93) (.t 92)⟩] none))))
            (.fg [0, 1, 8, 9, 11, 12, 13, 14] (.reg [⟨(some 70), none, none, .mv (.t 14)⟩,
    ⟨(some 71), none, none, .bin .add (.t 70) (.c (.p (.int .i64 1)))⟩,
    ⟨(some 14), none, none, .mv (.t 71)⟩] none)))))))))
        (.reg [⟨(some 94), none, none, .mv (.t 11)⟩,
    ⟨(some 95), none, none, .mv (.t 13)⟩,
    ⟨(some 96), none, none, .bslice 1 [.t 95]⟩,
    ⟨(some 97), none, none, .append 1 24 (.t 94) (.t 96)⟩,
    ⟨(some 11), none, none, .mv (.t 97)⟩] none))))))
      (.fg [0, 1, 8, 9, 11, 12] (.reg [⟨(some 47), none, none, .mv (.t 12)⟩,
    ⟨(some 48), none, none, .bin .add (.t 47) (.c (.p (.int .i64 1)))⟩,
    ⟨(some 12), none, none, .mv (.t 48)⟩] none)))))))))
  (.seq (.reg [⟨(some 98), none, none, .mv (.t 11)⟩,
    ⟨(some 6), none, none, .mv (.t 98)⟩,
    ⟨(some 7), none, none, .mv (.c (.p (.int .i64 0)))⟩] none)
  .ret))))))),
  [.t 6, .t 7]⟩

theorem c21 : chkF Try.prog 21 f21 = true := by kernel_rfl

/-- trammel/kin.chance -/
def f49 : RFun := ⟨(.seq (.reg [⟨(some 2), none, none, .mv (.c (.any))⟩] none)
  (.seq (.reg [⟨(some 4), none, none, .mv (.t 0)⟩,
    ⟨(some 3), none, none, .alloc [.p (.int .u64 0)]⟩,
    ⟨none, none, none, .store 1 (.t 3) (.t 4)⟩] none)
  (.seq (.reg [⟨(some 5), none, none, .mkfn 104 [.t 3]⟩,
    ⟨(some 2), none, none, .mv (.t 5)⟩] none)
  .ret))),
  [.t 2]⟩

theorem c49 : chkF Try.prog 49 f49 = true := by kernel_rfl

/-- (*trammel/trammelref26.Chance).Below -/
def f50 : RFun := ⟨(.seq (.reg [⟨(some 4), none, none, .mv (.c (.p (.int .u64 0)))⟩] none)
  (.seq (.reg [⟨(some 6), none, none, .mv (.t 0)⟩,
    ⟨(some 7), none, none, .mv (.t 0)⟩,
    ⟨(some 8), none, none, .nilc (.t 7)⟩,
    ⟨(some 9), none, none, .fieldA 0 (.t 8)⟩,
    ⟨(some 10), none, none, .load false 1 (.t 9)⟩,
    ⟨(some 11), none, none, .bin .add (.t 10) (.c (.p (.int .u64 11400714819323198485)))⟩,
    ⟨(some 12), none, none, .nilc (.t 6)⟩,
    ⟨(some 13), none, none, .fieldA 0 (.t 12)⟩,
    ⟨none, none, none, .store 1 (.t 13) (.t 11)⟩] none)
  (.seq (.reg [⟨(some 14), none, none, .mv (.t 0)⟩,
    ⟨(some 15), none, none, .nilc (.t 14)⟩,
    ⟨(some 16), none, none, .fieldA 0 (.t 15)⟩,
    ⟨(some 17), none, none, .load false 1 (.t 16)⟩,
    ⟨(some 5), none, none, .mv (.t 17)⟩] none)
  (.seq (.reg [⟨(some 18), none, none, .mv (.t 5)⟩,
    ⟨(some 19), none, none, .mv (.t 5)⟩,
    ⟨(some 20), none, none, .bin .shr (.t 19) (.c (.p (.int .u64 30)))⟩,
    ⟨(some 21), none, none, .bin .xor (.t 18) (.t 20)⟩,
    ⟨(some 22), none, none, .bin .mul (.t 21) (.c (.p (.int .u64 13787848793156543929)))⟩,
    ⟨(some 5), none, none, .mv (.t 22)⟩] none)
  (.seq (.reg [⟨(some 23), none, none, .mv (.t 5)⟩,
    ⟨(some 24), none, none, .mv (.t 5)⟩,
    ⟨(some 25), none, none, .bin .shr (.t 24) (.c (.p (.int .u64 27)))⟩,
    ⟨(some 26), none, none, .bin .xor (.t 23) (.t 25)⟩,
    ⟨(some 27), none, none, .bin .mul (.t 26) (.c (.p (.int .u64 10723151780598845931)))⟩,
    ⟨(some 5), none, none, .mv (.t 27)⟩] none)
  (.seq (.reg [⟨(some 28), none, none, .mv (.t 5)⟩,
    ⟨(some 29), none, none, .mv (.t 5)⟩,
    ⟨(some 30), none, none, .bin .shr (.t 29) (.c (.p (.int .u64 31)))⟩,
    ⟨(some 31), none, none, .bin .xor (.t 28) (.t 30)⟩,
    ⟨(some 32), none, none, .mv (.t 1)⟩,
    ⟨(some 33), none, none, .bin .rem (.t 31) (.t 32)⟩,
    ⟨(some 4), none, none, .mv (.t 33)⟩] none)
  .ret)))))),
  [.t 4]⟩

theorem c50 : chkF Try.prog 50 f50 = true := by kernel_rfl

/-- trammel/kin.modulus -/
def f53 : RFun := ⟨(.seq (.reg [⟨(some 2), none, none, .mv (.c (.p (.bool false)))⟩] none)
  (.seq (.reg [⟨(some 3), none, none, .mv (.t 0)⟩,
    ⟨(some 4), none, none, .bin .geq (.t 3) (.c (.p (.int .u64 2)))⟩,
    ⟨(some 5), none, none, .mv (.t 4)⟩,
    ⟨(some 6), (some (5, true)), none, .mv (.t 0)⟩,
    ⟨(some 7), (some (5, true)), none, .bin .leq (.t 6) (.c (.p (.int .u64 4294967296)))⟩,
    ⟨(some 8), none, none, .pick (.t 5) (.t 7) (.c (.p (.bool false)))⟩,
    ⟨(some 2), none, none, .mv (.t 8)⟩] none)
  .ret)),
  [.t 2]⟩

theorem c53 : chkF Try.prog 53 f53 = true := by kernel_rfl

/-- trammel/zint.Of -/
def f54 : RFun := ⟨(.seq (.reg [⟨(some 2), none, none, .alloc [.p (.bool false), .nils]⟩] none)
  (.seq (.reg [⟨(some 4), none, none, .mv (.t 0)⟩,
    ⟨(some 5), none, none, .conv .u64 (.t 4)⟩,
    ⟨(some 3), none, none, .mv (.t 5)⟩] none)
  (.seq (.seq (.reg [⟨(some 6), none, none, .mv (.t 0)⟩,
    ⟨(some 7), none, none, .bin .lss (.t 6) (.c (.p (.int .i64 0)))⟩] none)
  (.fg [0, 2, 3, 7] (.cond (.t 7)
    (.reg [⟨(some 8), none, none, .mv (.t 3)⟩,
    ⟨(some 9), none, none, .un .neg (.t 8)⟩,
    ⟨(some 3), none, none, .mv (.t 9)⟩] none)
    .skip)))
  (.seq (.reg [⟨(some 10), none, none, .mv (.t 0)⟩,
    ⟨(some 11), none, none, .bin .lss (.t 10) (.c (.p (.int .i64 0)))⟩,
    ⟨(some 12), none, none, .mv (.t 3)⟩,
    ⟨(some 13), none, none, .conv .u32 (.t 12)⟩,
    ⟨(some 14), none, none, .mv (.t 3)⟩,
    ⟨(some 15), none, none, .bin .shr (.t 14) (.c (.p (.int .u64 32)))⟩,
    ⟨(some 16), none, none, .conv .u32 (.t 15)⟩,
    ⟨(some 17), none, none, .bslice 1 [.t 13, .t 16]⟩,
    ⟨(some 18), none, none, .call .fz 105 [.t 11, .t 17]⟩,
    ⟨none, none, none, .store 2 (.t 2) (.t 18)⟩] none)
  .ret)))),
  [.cell 2 true 2]⟩

theorem c54 : chkF Try.prog 54 f54 = true := by kernel_rfl

/-- trammel/trammelref26.noughts -/
def f55 : RFun := ⟨(.seq (.reg [⟨(some 2), none, none, .mv (.c (.nils))⟩] none)
  (.seq (.reg [⟨(some 3), none, none, .mv (.c (.nils))⟩] none)
  (.seq (.seq (.reg [⟨(some 4), none, none, .mv (.c (.p (.int .i64 0)))⟩] none)
  (.fg [0, 3, 4] (.block 0
  (.loop (.fg [0, 3, 4]
    (.seq (.seq (.reg [⟨(some 5), none, none, .mv (.t 4)⟩,
    ⟨(some 6), none, none, .mv (.t 0)⟩,
    ⟨(some 7), none, none, .bin .lss (.t 5) (.t 6)⟩] none)
      (.fg [0, 3, 4, 7] (.cond (.t 7)
        .skip
        (.exit 0))))
      (.seq (.block 1
      (.reg [⟨(some 10), none, none, .mv (.t 3)⟩,
    ⟨(some 11), none, none, .call .pu 66 [.c (.p (.int .i64 0))]⟩,
    ⟨(some 12), none, none, .bslice 2 [.t 11]⟩,
    ⟨(some 13), none, none, .append 2 32 (.t 10) (.t 12)⟩,
    ⟨(some 3), none, none, .mv (.t 13)⟩] none))
      (.fg [0, 3, 4] (.reg [⟨(some 8), none, none, .mv (.t 4)⟩,
    ⟨(some 9), none, none, .bin .add (.t 8) (.c (.p (.int .i64 1)))⟩,
    ⟨(some 4), none, none, .mv (.t 9)⟩] none)))))))))
  (.seq (.reg [⟨(some 14), none, none, .mv (.t 3)⟩,
    ⟨(some 2), none, none, .mv (.t 14)⟩] none)
  .ret)))),
  [.t 2]⟩

theorem c55 : chkF Try.prog 55 f55 = true := by kernel_rfl

/-- trammel/trammelref26.of -/
def f56 : RFun := ⟨(.seq (.reg [⟨(some 2), none, none, .alloc [.p (.bool false), .nils]⟩] none)
  (.seq (.reg [⟨(some 3), none, none, .mv (.t 0)⟩,
    ⟨(some 4), none, none, .conv .u32 (.t 3)⟩,
    ⟨(some 5), none, none, .mv (.t 0)⟩,
    ⟨(some 6), none, none, .bin .shr (.t 5) (.c (.p (.int .u64 32)))⟩,
    ⟨(some 7), none, none, .conv .u32 (.t 6)⟩,
    ⟨(some 8), none, none, .bslice 1 [.t 4, .t 7]⟩,
    ⟨(some 9), none, none, .build [.p (.bool false), .nils] [(1, 1, .t 8)]⟩,
    ⟨(some 10), none, none, .call .fz 68 [.t 9]⟩,
    ⟨none, none, none, .store 2 (.t 2) (.t 10)⟩] none)
  .ret)),
  [.cell 2 true 2]⟩

theorem c56 : chkF Try.prog 56 f56 = true := by kernel_rfl

/-- trammel/trammellaw26.eqs -/
def f57 : RFun := ⟨(.seq (.reg [⟨(some 4), none, none, .mv (.c (.p (.bool false)))⟩] none)
  (.seq (.seq (.reg [⟨(some 6), none, none, .mv (.t 0)⟩,
    ⟨(some 7), none, none, .len (.t 6)⟩,
    ⟨(some 8), none, none, .mv (.t 1)⟩,
    ⟨(some 9), none, none, .len (.t 8)⟩,
    ⟨(some 10), none, none, .bin .neq (.t 7) (.t 9)⟩] none)
  (.fg [0, 1, 10] (.cond (.t 10)
    (.seq (.reg [⟨(some 4), none, none, .mv (.c (.p (.bool false)))⟩] none)
    .ret)
    .skip)))
  (.seq (.seq (.reg [⟨(some 5), none, none, .mv (.c (.p (.int .i64 0)))⟩] none)
  (.fg [0, 1, 5] (.block 0
  (.loop (.fg [0, 1, 5]
    (.seq (.seq (.reg [⟨(some 11), none, none, .mv (.t 5)⟩,
    ⟨(some 12), none, none, .mv (.t 0)⟩,
    ⟨(some 13), none, none, .len (.t 12)⟩,
    ⟨(some 14), none, none, .bin .lss (.t 11) (.t 13)⟩] none)
      (.fg [0, 1, 5, 14] (.cond (.t 14)
        .skip
        (.exit 0))))
      (.seq (.block 1
      (.seq (.reg [⟨(some 17), none, none, .mv (.t 0)⟩,
    ⟨(some 18), none, none, .mv (.t 5)⟩,
    ⟨(some 19), none, none, .indexA 2 (.t 17) (.t 18)⟩,
    ⟨(some 20), none, none, .load true 2 (.t 19)⟩,
    ⟨(some 21), none, none, .mv (.t 1)⟩,
    ⟨(some 22), none, none, .mv (.t 5)⟩,
    ⟨(some 23), none, none, .indexA 2 (.t 21) (.t 22)⟩,
    ⟨(some 24), none, none, .load true 2 (.t 23)⟩,
    ⟨(some 25), none, none, .call .pu 106 [.t 20, .t 24]⟩,
    ⟨(some 26), none, none, .un .not (.t 25)⟩] (some (0, [])))
        (.fg [0, 1, 5, 26] (.cond (.t 26)
          (.seq (.reg [⟨(some 4), none, none, .mv (.c (.p (.bool false)))⟩] none)
          .ret)
          .skip))))
      (.fg [0, 1, 5] (.reg [⟨(some 15), none, none, .mv (.t 5)⟩,
    ⟨(some 16), none, none, .bin .add (.t 15) (.c (.p (.int .i64 1)))⟩,
    ⟨(some 5), none, none, .mv (.t 16)⟩] none)))))))))
  (.seq (.reg [⟨(some 4), none, none, .mv (.c (.p (.bool true)))⟩] none)
  .ret)))),
  [.t 4]⟩

theorem c57 : chkF Try.prog 57 f57 = true := by kernel_rfl

/-- trammel/trammelref02.Neg -/
def f58 : RFun := ⟨(.seq (.reg [⟨(some 1), none, none, .box (.t 0)⟩,
    ⟨(some 2), none, none, .alloc [.p (.bool false), .nils]⟩] none)
  (.seq (.reg [⟨(some 3), none, none, .fieldA 0 (.t 1)⟩,
    ⟨(some 4), none, none, .load false 1 (.t 3)⟩,
    ⟨(some 5), none, none, .un .not (.t 4)⟩,
    ⟨(some 6), none, none, .fieldA 1 (.t 1)⟩,
    ⟨(some 7), none, none, .load false 1 (.t 6)⟩,
    ⟨(some 8), none, none, .call .pu 107 [.t 5, .t 7]⟩,
    ⟨none, none, none, .store 2 (.t 2) (.t 8)⟩] none)
  .ret)),
  [.cell 2 true 2]⟩

theorem c58 : chkF Try.prog 58 f58 = true := by kernel_rfl

/-- trammel/trammelref02.Of -/
def f66 : RFun := ⟨(.seq (.reg [⟨(some 2), none, none, .alloc [.p (.bool false), .nils]⟩] none)
  (.seq (.reg [⟨(some 4), none, none, .mv (.t 0)⟩,
    ⟨(some 5), none, none, .conv .u64 (.t 4)⟩,
    ⟨(some 3), none, none, .mv (.t 5)⟩] none)
  (.seq (.seq (.reg [⟨(some 6), none, none, .mv (.t 0)⟩,
    ⟨(some 7), none, none, .bin .lss (.t 6) (.c (.p (.int .i64 0)))⟩] none)
  (.fg [0, 2, 3, 7] (.cond (.t 7)
    (.reg [⟨(some 8), none, none, .mv (.t 3)⟩,
    ⟨(some 9), none, none, .un .neg (.t 8)⟩,
    ⟨(some 3), none, none, .mv (.t 9)⟩] none)
    .skip)))
  (.seq (.reg [⟨(some 10), none, none, .mv (.t 0)⟩,
    ⟨(some 11), none, none, .bin .lss (.t 10) (.c (.p (.int .i64 0)))⟩,
    ⟨(some 12), none, none, .mv (.t 3)⟩,
    ⟨(some 13), none, none, .conv .u32 (.t 12)⟩,
    ⟨(some 14), none, none, .mv (.t 3)⟩,
    ⟨(some 15), none, none, .bin .shr (.t 14) (.c (.p (.int .u64 32)))⟩,
    ⟨(some 16), none, none, .conv .u32 (.t 15)⟩,
    ⟨(some 17), none, none, .bslice 1 [.t 13, .t 16]⟩,
    ⟨(some 18), none, none, .call .fz 107 [.t 11, .t 17]⟩,
    ⟨none, none, none, .store 2 (.t 2) (.t 18)⟩] none)
  .ret)))),
  [.cell 2 true 2]⟩

theorem c66 : chkF Try.prog 66 f66 = true := by kernel_rfl

/-- trammel/trammelref02.Norm -/
def f68 : RFun := ⟨(.seq (.reg [⟨(some 1), none, none, .box (.t 0)⟩,
    ⟨(some 2), none, none, .alloc [.p (.bool false), .nils]⟩] none)
  (.seq (.reg [⟨(some 3), none, none, .fieldA 0 (.t 1)⟩,
    ⟨(some 4), none, none, .load false 1 (.t 3)⟩,
    ⟨(some 5), none, none, .fieldA 1 (.t 1)⟩,
    ⟨(some 6), none, none, .load false 1 (.t 5)⟩,
    ⟨(some 7), none, none, .call .pu 107 [.t 4, .t 6]⟩,
    ⟨none, none, none, .store 2 (.t 2) (.t 7)⟩] none)
  .ret)),
  [.cell 2 true 2]⟩

theorem c68 : chkF Try.prog 68 f68 = true := by kernel_rfl

/-- trammel/trammelref01.Norm -/
def f98 : RFun := ⟨(.seq (.reg [⟨(some 2), none, none, .mv (.c (.nils))⟩] none)
  (.seq (.reg [⟨(some 6), none, none, .mv (.t 0)⟩,
    ⟨(some 7), none, none, .len (.t 6)⟩,
    ⟨(some 3), none, none, .mv (.t 7)⟩] none)
  (.seq (.block 0
  (.loop (.fg [0, 3]
    (.seq (.seq (.reg [⟨(some 8), none, none, .mv (.t 3)⟩,
    ⟨(some 9), none, none, .bin .gtr (.t 8) (.c (.p (.int .i64 0)))⟩,
    ⟨(some 10), none, none, .mv (.t 9)⟩,
    ⟨(some 11), (some (10, true)), none, .mv (.t 0)⟩,
    ⟨(some 12), (some (10, true)), none, .mv (.t 3)⟩,
    ⟨(some 13), (some (10, true)), none, .bin .sub (.t 12) (.c (.p (.int .i64 1)))⟩,
    ⟨(some 14), (some (10, true)), none, .indexA 1 (.t 11) (.t 13)⟩,
    ⟨(some 15), (some (10, true)), none, .load false 1 (.t 14)⟩,
    ⟨(some 16), (some (10, true)), none, .bin .eql (.t 15) (.c (.p (.int .u32 0)))⟩,
    ⟨(some 17), none, none, .pick (.t 10) (.t 16) (.c (.p (.bool false)))⟩] none)
      (.fg [0, 3, 17] (.cond (.t 17)
        .skip
        (.exit 0))))
      (.fg [0, 3] (.block 1
      (.reg [⟨(some 18), none, none, .mv (.t 3)⟩,
    ⟨(some 19), none, none, .bin .sub (.t 18) (.c (.p (.int .i64 1)))⟩,
    ⟨(some 3), none, none, .mv (.t 19)⟩] none)))))))
  (.fg [0, 3] (.seq (.reg [⟨(some 4), none, none, .mv (.c (.nils))⟩] none)
  (.seq (.seq (.reg [⟨(some 5), none, none, .mv (.c (.p (.int .i64 0)))⟩] none)
  (.fg [0, 3, 4, 5] (.block 2
  (.loop (.fg [0, 3, 4, 5]
    (.seq (.seq (.reg [⟨(some 20), none, none, .mv (.t 5)⟩,
    ⟨(some 21), none, none, .mv (.t 3)⟩,
    ⟨(some 22), none, none, .bin .lss (.t 20) (.t 21)⟩] none)
      (.fg [0, 3, 4, 5, 22] (.cond (.t 22)
        .skip
        (.exit 2))))
      (.seq (.block 3
      (.reg [⟨(some 25), none, none, .mv (.t 4)⟩,
    ⟨(some 26), none, none, .mv (.t 0)⟩,
    ⟨(some 27), none, none, .mv (.t 5)⟩,
    ⟨(some 28), none, none, .indexA 1 (.t 26) (.t 27)⟩,
    ⟨(some 29), none, none, .load false 1 (.t 28)⟩,
    ⟨(some 30), none, none, .bslice 1 [.t 29]⟩,
    ⟨(some 31), none, none, .append 1 4 (.t 25) (.t 30)⟩,
    ⟨(some 4), none, none, .mv (.t 31)⟩] none))
      (.fg [0, 3, 4, 5] (.reg [⟨(some 23), none, none, .mv (.t 5)⟩,
    ⟨(some 24), none, none, .bin .add (.t 23) (.c (.p (.int .i64 1)))⟩,
    ⟨(some 5), none, none, .mv (.t 24)⟩] none)))))))))
  (.seq (.reg [⟨(some 32), none, none, .mv (.t 4)⟩,
    ⟨(some 2), none, none, .mv (.t 32)⟩] none)
  .ret))))))),
  [.t 2]⟩

theorem c98 : chkF Try.prog 98 f98 = true := by kernel_rfl

/-- trammel/kin.chance$1 -/
def f104 : RFun := ⟨(.seq (.reg [⟨(some 3), none, none, .mv (.c (.p (.int .u64 0)))⟩] none)
  (.seq (.reg [⟨(some 5), none, none, .load false 1 (.t 1)⟩,
    ⟨(some 6), none, none, .bin .add (.t 5) (.c (.p (.int .u64 11400714819323198485)))⟩,
    ⟨none, none, none, .store 1 (.t 1) (.t 6)⟩] none)
  (.seq (.reg [⟨(some 7), none, none, .load false 1 (.t 1)⟩,
    ⟨(some 4), none, none, .mv (.t 7)⟩] none)
  (.seq (.reg [⟨(some 8), none, none, .mv (.t 4)⟩,
    ⟨(some 9), none, none, .mv (.t 4)⟩,
    ⟨(some 10), none, none, .bin .shr (.t 9) (.c (.p (.int .u64 30)))⟩,
    ⟨(some 11), none, none, .bin .xor (.t 8) (.t 10)⟩,
    ⟨(some 12), none, none, .bin .mul (.t 11) (.c (.p (.int .u64 13787848793156543929)))⟩,
    ⟨(some 4), none, none, .mv (.t 12)⟩] none)
  (.seq (.reg [⟨(some 13), none, none, .mv (.t 4)⟩,
    ⟨(some 14), none, none, .mv (.t 4)⟩,
    ⟨(some 15), none, none, .bin .shr (.t 14) (.c (.p (.int .u64 27)))⟩,
    ⟨(some 16), none, none, .bin .xor (.t 13) (.t 15)⟩,
    ⟨(some 17), none, none, .bin .mul (.t 16) (.c (.p (.int .u64 10723151780598845931)))⟩,
    ⟨(some 4), none, none, .mv (.t 17)⟩] none)
  (.seq (.reg [⟨(some 18), none, none, .mv (.t 4)⟩,
    ⟨(some 19), none, none, .mv (.t 4)⟩,
    ⟨(some 20), none, none, .bin .shr (.t 19) (.c (.p (.int .u64 31)))⟩,
    ⟨(some 21), none, none, .bin .xor (.t 18) (.t 20)⟩,
    ⟨(some 22), none, none, .mv (.t 0)⟩,
    ⟨(some 23), none, none, .bin .rem (.t 21) (.t 22)⟩,
    ⟨(some 3), none, none, .mv (.t 23)⟩] none)
  .ret)))))),
  [.t 3]⟩

theorem c104 : chkF Try.prog 104 f104 = true := by kernel_rfl

/-- trammel/zint.made -/
def f105 : RFun := ⟨(.seq (.reg [⟨(some 4), none, none, .alloc [.p (.bool false), .nils]⟩] none)
  (.seq (.reg [⟨(some 7), none, none, .mv (.t 1)⟩,
    ⟨(some 8), none, none, .len (.t 7)⟩,
    ⟨(some 5), none, none, .mv (.t 8)⟩] none)
  (.seq (.block 0
  (.loop (.fg [0, 1, 4, 5]
    (.seq (.seq (.reg [⟨(some 9), none, none, .mv (.t 5)⟩,
    ⟨(some 10), none, none, .bin .gtr (.t 9) (.c (.p (.int .i64 0)))⟩,
    ⟨(some 11), none, none, .mv (.t 10)⟩,
    ⟨(some 12), (some (11, true)), none, .mv (.t 1)⟩,
    ⟨(some 13), (some (11, true)), none, .mv (.t 5)⟩,
    ⟨(some 14), (some (11, true)), none, .bin .sub (.t 13) (.c (.p (.int .i64 1)))⟩,
    ⟨(some 15), (some (11, true)), none, .indexA 1 (.t 12) (.t 14)⟩,
    ⟨(some 16), (some (11, true)), none, .load false 1 (.t 15)⟩,
    ⟨(some 17), (some (11, true)), none, .bin .eql (.t 16) (.c (.p (.int .u32 0)))⟩,
    ⟨(some 18), none, none, .pick (.t 11) (.t 17) (.c (.p (.bool false)))⟩] none)
      (.fg [0, 1, 4, 5, 18] (.cond (.t 18)
        .skip
        (.exit 0))))
      (.fg [0, 1, 4, 5] (.block 1
      (.reg [⟨(some 19), none, none, .mv (.t 5)⟩,
    ⟨(some 20), none, none, .bin .sub (.t 19) (.c (.p (.int .i64 1)))⟩,
    ⟨(some 5), none, none, .mv (.t 20)⟩] none)))))))
  (.fg [0, 1, 4, 5] (.seq (.seq (.reg [⟨(some 21), none, none, .mv (.t 5)⟩,
    ⟨(some 22), none, none, .bin .eql (.t 21) (.c (.p (.int .i64 0)))⟩] none)
  (.fg [0, 1, 4, 5, 22] (.cond (.t 22)
    (.seq (.reg [⟨(some 23), none, none, .build [.p (.bool false), .nils] []⟩,
    ⟨none, none, none, .store 2 (.t 4) (.t 23)⟩] none)
    .ret)
    .skip)))
  (.seq (.reg [⟨(some 24), none, none, .mv (.t 5)⟩,
    ⟨(some 25), none, none, .mks false 1 4 (.int .u32 0) (.t 24) (.t 24)⟩,
    ⟨(some 6), none, none, .mv (.t 25)⟩] none)
  (.seq (.reg [⟨(some 26), none, none, .mv (.t 6)⟩,
    ⟨(some 27), none, none, .mv (.t 1)⟩,
    ⟨(some 28), none, none, .copy 1 (.t 26) (.t 27)⟩] none)
  (.seq (.reg [⟨(some 29), none, none, .mv (.t 0)⟩,
    ⟨(some 30), none, none, .mv (.t 6)⟩,
    ⟨(some 31), none, none, .build [.p (.bool false), .nils] [(0, 1, .t 29), (1, 1, .t 30)]⟩,
    ⟨none, none, none, .store 2 (.t 4) (.t 31)⟩] none)
  .ret)))))))),
  [.cell 4 true 2]⟩

theorem c105 : chkF Try.prog 105 f105 = true := by kernel_rfl

/-- trammel/trammellaw26.eq -/
def f106 : RFun := ⟨(.seq (.reg [⟨(some 2), none, none, .box (.t 0)⟩,
    ⟨(some 3), none, none, .box (.t 1)⟩,
    ⟨(some 4), none, none, .mv (.c (.p (.bool false)))⟩] none)
  (.seq (.seq (.reg [⟨(some 6), none, none, .fieldA 0 (.t 2)⟩,
    ⟨(some 7), none, none, .load false 1 (.t 6)⟩,
    ⟨(some 8), none, none, .fieldA 0 (.t 3)⟩,
    ⟨(some 9), none, none, .load false 1 (.t 8)⟩,
    ⟨(some 10), none, none, .beq true (.t 7) (.t 9)⟩,
    ⟨(some 11), none, none, .mv (.t 10)⟩,
    ⟨(some 12), (some (11, false)), none, .fieldA 1 (.t 2)⟩,
    ⟨(some 13), (some (11, false)), none, .load false 1 (.t 12)⟩,
    ⟨(some 14), (some (11, false)), none, .len (.t 13)⟩,
    ⟨(some 15), (some (11, false)), none, .fieldA 1 (.t 3)⟩,
    ⟨(some 16), (some (11, false)), none, .load false 1 (.t 15)⟩,
    ⟨(some 17), (some (11, false)), none, .len (.t 16)⟩,
    ⟨(some 18), (some (11, false)), none, .bin .neq (.t 14) (.t 17)⟩,
    ⟨(some 19), none, none, .pick (.t 11) (.c (.p (.bool true))) (.t 18)⟩] none)
  (.fg [2, 3, 19] (.cond (.t 19)
    (.seq (.reg [⟨(some 4), none, none, .mv (.c (.p (.bool false)))⟩] none)
    .ret)
    .skip)))
  (.seq (.seq (.reg [⟨(some 5), none, none, .mv (.c (.p (.int .i64 0)))⟩] none)
  (.fg [2, 3, 5] (.block 0
  (.loop (.fg [2, 3, 5]
    (.seq (.seq (.reg [⟨(some 20), none, none, .mv (.t 5)⟩,
    ⟨(some 21), none, none, .fieldA 1 (.t 2)⟩,
    ⟨(some 22), none, none, .load false 1 (.t 21)⟩,
    ⟨(some 23), none, none, .len (.t 22)⟩,
    ⟨(some 24), none, none, .bin .lss (.t 20) (.t 23)⟩] none)
      (.fg [2, 3, 5, 24] (.cond (.t 24)
        .skip
        (.exit 0))))
      (.seq (.block 1
      (.seq (.reg [⟨(some 27), none, none, .fieldA 1 (.t 2)⟩,
    ⟨(some 28), none, none, .load false 1 (.t 27)⟩,
    ⟨(some 29), none, none, .mv (.t 5)⟩,
    ⟨(some 30), none, none, .indexA 1 (.t 28) (.t 29)⟩,
    ⟨(some 31), none, none, .load false 1 (.t 30)⟩,
    ⟨(some 32), none, none, .fieldA 1 (.t 3)⟩,
    ⟨(some 33), none, none, .load false 1 (.t 32)⟩,
    ⟨(some 34), none, none, .mv (.t 5)⟩,
    ⟨(some 35), none, none, .indexA 1 (.t 33) (.t 34)⟩,
    ⟨(some 36), none, none, .load false 1 (.t 35)⟩,
    ⟨(some 37), none, none, .bin .neq (.t 31) (.t 36)⟩] (some (0, [])))
        (.fg [2, 3, 5, 37] (.cond (.t 37)
          (.seq (.reg [⟨(some 4), none, none, .mv (.c (.p (.bool false)))⟩] none)
          .ret)
          .skip))))
      (.fg [2, 3, 5] (.reg [⟨(some 25), none, none, .mv (.t 5)⟩,
    ⟨(some 26), none, none, .bin .add (.t 25) (.c (.p (.int .i64 1)))⟩,
    ⟨(some 5), none, none, .mv (.t 26)⟩] none)))))))))
  (.seq (.reg [⟨(some 4), none, none, .mv (.c (.p (.bool true)))⟩] none)
  .ret)))),
  [.t 4]⟩

theorem c106 : chkF Try.prog 106 f106 = true := by kernel_rfl

/-- trammel/trammelref02.made -/
def f107 : RFun := ⟨(.seq (.reg [⟨(some 4), none, none, .alloc [.p (.bool false), .nils]⟩] none)
  (.seq (.reg [⟨(some 6), none, none, .mv (.t 1)⟩,
    ⟨(some 7), none, none, .call .pu 98 [.t 6]⟩,
    ⟨(some 5), none, none, .mv (.t 7)⟩] none)
  (.seq (.reg [⟨(some 8), none, none, .mv (.t 0)⟩,
    ⟨(some 9), none, none, .mv (.t 8)⟩,
    ⟨(some 10), (some (9, true)), none, .mv (.t 5)⟩,
    ⟨(some 11), (some (9, true)), none, .len (.t 10)⟩,
    ⟨(some 12), (some (9, true)), none, .bin .gtr (.t 11) (.c (.p (.int .i64 0)))⟩,
    ⟨(some 13), none, none, .pick (.t 9) (.t 12) (.c (.p (.bool false)))⟩,
    ⟨(some 14), none, none, .mv (.t 5)⟩,
    ⟨(some 15), none, none, .build [.p (.bool false), .nils] [(0, 1, .t 13), (1, 1, .t 14)]⟩,
    ⟨none, none, none, .store 2 (.t 4) (.t 15)⟩] none)
  .ret))),
  [.cell 4 true 2]⟩

theorem c107 : chkF Try.prog 107 f107 = true := by kernel_rfl

end Go.Proofs.Ytdieenbfdeaffaa.VKd
