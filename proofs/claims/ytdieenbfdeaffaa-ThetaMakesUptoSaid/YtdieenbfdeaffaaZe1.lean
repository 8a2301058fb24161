/- Resolved code of functions, printed by a program of ours (genfun.py); each is held against the model by chkF; The functions together; Rows and matrices of numbers: mat.Form, mat.Times, mat.Plus, mat.Minus, mat.Unit and the reference's; The law's own copies and comparisons; theta.made, theta.Scale; The reference's rows, Check, Sum, Scale; The law ThetaMakes; What the bound on all arguments gives for their parts. No condition. -/
import Derived.Test.YtdieenbfdeaffaaZa2
import Derived.Test.YtdieenbfdeaffaaProg
import Derived.KernelRfl
import Derived.Test.YtdieenbfdeaffaaZb1
import Derived.Test.YtdieenbfdeaffaaZa3
import Derived.Test.YtdieenbfdeaffaaZb3
import Derived.Test.YtdieenbfdeaffaaZc1
import Derived.Test.YtdieenbfdeaffaaChecked
import Derived.Test.YtdieenbfdeaffaaRows

namespace Go.Proofs.Ytdieenbfdeaffaa.VTm
open Go Vpi
set_option maxRecDepth 100000

/-- trammel/trammellaw20.ThetaMakes -/
def f8 : RFun := ⟨(.seq (.reg [⟨(some 5), none, none, .box (.t 2)⟩,
    ⟨(some 6), none, none, .mv (.c (.p (.bool false)))⟩] none)
  (.seq (.reg [⟨(some 15), none, none, .build [.p (.int .i64 0), .p (.int .i64 0), .p (.bool false)] [(0, 1, .c (.p (.int .i64 1))), (1, 1, .c (.p (.int .i64 1)))]⟩,
    ⟨(some 7), none, none, .alloc [.p (.int .i64 0), .p (.int .i64 0), .p (.bool false)]⟩,
    ⟨none, none, none, .store 3 (.t 7) (.t 15)⟩] none)
  (.seq (.reg [⟨(some 17), none, none, .mv (.t 0)⟩,
    ⟨(some 18), none, none, .call .pu 29 [.t 17]⟩,
    ⟨(some 19), none, none, .mv (.t 1)⟩,
    ⟨(some 20), none, none, .call .pu 29 [.t 19]⟩,
    ⟨(some 21), none, none, .call .pu 28 [.t 18, .t 20]⟩,
    ⟨(some 16), none, none, .mv (.t 21)⟩,
    ⟨(some 22), none, none, .extract (.t 16) 0⟩,
    ⟨(some 23), none, none, .extract (.t 16) 1⟩,
    ⟨(some 8), none, none, .mv (.t 22)⟩,
    ⟨(some 9), none, none, .mv (.t 23)⟩] none)
  (.seq (.reg [⟨(some 24), none, none, .mv (.t 0)⟩,
    ⟨(some 25), none, (some 0), .madec 31 [.t 24]⟩,
    ⟨(some 26), none, none, .mv (.t 1)⟩,
    ⟨(some 27), none, (some 1), .bslice 1 [.t 26]⟩,
    ⟨(some 28), none, (some 2), .append 1 24 (.t 25) (.t 27)⟩,
    ⟨(some 29), none, none, .load true 3 (.t 7)⟩,
    ⟨(some 30), none, none, .call .fz 30 [.t 28, .t 29]⟩,
    ⟨(some 10), none, none, .mv (.t 30)⟩] (some (3, [(3, 5), (4, 5)])))
  (.seq (.seq (.reg [⟨(some 31), none, none, .mv (.t 10)⟩,
    ⟨(some 32), none, none, .bin .neq (.t 31) (.c (.p (.int .i64 0)))⟩] none)
  (.fg [0, 1, 5, 7, 8, 9, 10, 32] (.cond (.t 32)
    (.seq (.reg [⟨(some 33), none, none, .mv (.t 9)⟩,
    ⟨(some 34), none, none, .mv (.t 10)⟩,
    ⟨(some 35), none, none, .bin .neq (.t 33) (.t 34)⟩,
    ⟨(some 36), none, none, .mv (.t 35)⟩,
    ⟨(some 37), (some (36, false)), none, .mv (.t 8)⟩,
    ⟨(some 38), (some (36, false)), none, .len (.t 37)⟩,
    ⟨(some 39), (some (36, false)), none, .bin .neq (.t 38) (.c (.p (.int .i64 0)))⟩,
    ⟨(some 40), none, none, .pick (.t 36) (.c (.p (.bool true))) (.t 39)⟩] none)
    (.fg [0, 5, 7, 40] (.cond (.t 40)
      (.seq (.reg [⟨(some 6), none, none, .mv (.c (.p (.bool false)))⟩] none)
      .ret)
      .skip)))
    (.seq (.reg [⟨(some 42), none, none, .mv (.t 0)⟩,
    ⟨(some 43), none, none, .mv (.t 1)⟩,
    ⟨(some 44), none, none, .call .pu 32 [.t 42, .t 43]⟩,
    ⟨(some 41), none, none, .mv (.t 44)⟩,
    ⟨(some 45), none, none, .extract (.t 41) 0⟩,
    ⟨(some 46), none, none, .extract (.t 41) 1⟩,
    ⟨(some 11), none, none, .mv (.t 45)⟩,
    ⟨(some 12), none, none, .mv (.t 46)⟩] none)
    (.seq (.reg [⟨(some 47), none, none, .mv (.t 9)⟩,
    ⟨(some 48), none, none, .mv (.t 12)⟩,
    ⟨(some 49), none, none, .bin .neq (.t 47) (.t 48)⟩,
    ⟨(some 50), none, none, .mv (.t 49)⟩,
    ⟨(some 51), (some (50, false)), none, .mv (.t 8)⟩,
    ⟨(some 52), (some (50, false)), none, .mv (.t 11)⟩,
    ⟨(some 53), (some (50, false)), none, .call .pu 33 [.t 51, .t 52]⟩,
    ⟨(some 54), (some (50, false)), none, .un .not (.t 53)⟩,
    ⟨(some 55), none, none, .pick (.t 50) (.c (.p (.bool true))) (.t 54)⟩] none)
    (.fg [0, 5, 7, 55] (.cond (.t 55)
      (.seq (.reg [⟨(some 6), none, none, .mv (.c (.p (.bool false)))⟩] none)
      .ret)
      .skip)))))))
  (.seq (.reg [⟨(some 57), none, none, .mv (.t 0)⟩,
    ⟨(some 58), none, none, .call .pu 29 [.t 57]⟩,
    ⟨(some 59), none, none, .load true 2 (.t 5)⟩,
    ⟨(some 60), none, none, .call .pu 35 [.t 59]⟩,
    ⟨(some 61), none, none, .call .pu 34 [.t 58, .t 60]⟩,
    ⟨(some 56), none, none, .mv (.t 61)⟩,
    ⟨(some 62), none, none, .extract (.t 56) 0⟩,
    ⟨(some 63), none, none, .extract (.t 56) 1⟩,
    ⟨(some 8), none, none, .mv (.t 62)⟩,
    ⟨(some 9), none, none, .mv (.t 63)⟩] (some (0, [])))
  (.seq (.reg [⟨(some 64), none, none, .mv (.t 0)⟩,
    ⟨(some 65), none, none, .call .pu 31 [.t 64]⟩,
    ⟨(some 66), none, none, .load true 3 (.t 7)⟩,
    ⟨(some 67), none, none, .call .pu 30 [.t 65, .t 66]⟩,
    ⟨(some 10), none, none, .mv (.t 67)⟩] (some (0, [])))
  (.seq (.seq (.reg [⟨(some 68), none, none, .mv (.t 10)⟩,
    ⟨(some 69), none, none, .bin .neq (.t 68) (.c (.p (.int .i64 0)))⟩] none)
  (.fg [0, 5, 8, 9, 10, 69] (.cond (.t 69)
    (.seq (.reg [⟨(some 70), none, none, .mv (.t 9)⟩,
    ⟨(some 71), none, none, .mv (.t 10)⟩,
    ⟨(some 72), none, none, .bin .eql (.t 70) (.t 71)⟩,
    ⟨(some 73), none, none, .mv (.t 72)⟩,
    ⟨(some 74), (some (73, true)), none, .mv (.t 8)⟩,
    ⟨(some 75), (some (73, true)), none, .len (.t 74)⟩,
    ⟨(some 76), (some (73, true)), none, .bin .eql (.t 75) (.c (.p (.int .i64 0)))⟩,
    ⟨(some 77), none, none, .pick (.t 73) (.t 76) (.c (.p (.bool false)))⟩,
    ⟨(some 6), none, none, .mv (.t 77)⟩] none)
    .ret)
    .skip)))
  (.seq (.reg [⟨(some 79), none, none, .mv (.t 0)⟩,
    ⟨(some 80), none, none, .load true 2 (.t 5)⟩,
    ⟨(some 81), none, none, .call .pu 36 [.t 79, .t 80]⟩,
    ⟨(some 78), none, none, .mv (.t 81)⟩,
    ⟨(some 82), none, none, .extract (.t 78) 0⟩,
    ⟨(some 83), none, none, .extract (.t 78) 1⟩,
    ⟨(some 13), none, none, .mv (.t 82)⟩,
    ⟨(some 14), none, none, .mv (.t 83)⟩] none)
  (.seq (.reg [⟨(some 84), none, none, .mv (.t 9)⟩,
    ⟨(some 85), none, none, .mv (.t 14)⟩,
    ⟨(some 86), none, none, .bin .eql (.t 84) (.t 85)⟩,
    ⟨(some 87), none, none, .mv (.t 86)⟩,
    ⟨(some 88), (some (87, true)), none, .mv (.t 8)⟩,
    ⟨(some 89), (some (87, true)), none, .mv (.t 13)⟩,
    ⟨(some 90), (some (87, true)), none, .call .pu 33 [.t 88, .t 89]⟩,
    ⟨(some 91), none, none, .pick (.t 87) (.t 90) (.c (.p (.bool false)))⟩,
    ⟨(some 6), none, none, .mv (.t 91)⟩] none)
  .ret)))))))))),
  [.t 6]⟩

theorem c8 : chkF Try.prog 8 f8 = true := by kernel_rfl

/-- trammel/theta.Sum -/
def f28 : RFun := ⟨(.seq (.reg [⟨(some 4), none, none, .mv (.c (.nils))⟩,
    ⟨(some 5), none, none, .mv (.c (.p (.int .i64 0)))⟩] none)
  (.seq (.seq (.reg [⟨(some 15), none, none, .mv (.t 0)⟩,
    ⟨(some 16), none, none, .call .pu 59 [.t 15]⟩,
    ⟨(some 6), none, none, .mv (.t 16)⟩] none)
  (.seq (.reg [⟨(some 17), none, none, .mv (.t 6)⟩,
    ⟨(some 18), none, none, .bin .neq (.t 17) (.c (.p (.int .i64 0)))⟩] none)
  (.fg [0, 1, 6, 18] (.cond (.t 18)
    (.seq (.reg [⟨(some 19), none, none, .mv (.t 6)⟩,
    ⟨(some 4), none, none, .mv (.c (.nils))⟩,
    ⟨(some 5), none, none, .mv (.t 19)⟩] none)
    .ret)
    .skip))))
  (.seq (.seq (.reg [⟨(some 20), none, none, .mv (.t 1)⟩,
    ⟨(some 21), none, none, .call .pu 59 [.t 20]⟩,
    ⟨(some 7), none, none, .mv (.t 21)⟩] none)
  (.seq (.reg [⟨(some 22), none, none, .mv (.t 7)⟩,
    ⟨(some 23), none, none, .bin .neq (.t 22) (.c (.p (.int .i64 0)))⟩] none)
  (.fg [0, 1, 7, 23] (.cond (.t 23)
    (.seq (.reg [⟨(some 24), none, none, .mv (.t 7)⟩,
    ⟨(some 4), none, none, .mv (.c (.nils))⟩,
    ⟨(some 5), none, none, .mv (.t 24)⟩] none)
    .ret)
    .skip))))
  (.seq (.reg [⟨(some 25), none, none, .mv (.t 0)⟩,
    ⟨(some 26), none, none, .indexA 1 (.t 25) (.c (.p (.int .i64 0)))⟩,
    ⟨(some 27), none, none, .load false 1 (.t 26)⟩,
    ⟨(some 28), none, none, .len (.t 27)⟩,
    ⟨(some 29), none, none, .mv (.t 1)⟩,
    ⟨(some 30), none, none, .indexA 1 (.t 29) (.c (.p (.int .i64 0)))⟩,
    ⟨(some 31), none, none, .load false 1 (.t 30)⟩,
    ⟨(some 32), none, none, .len (.t 31)⟩,
    ⟨(some 8), none, none, .mv (.t 28)⟩,
    ⟨(some 9), none, none, .mv (.t 32)⟩] (some (0, [])))
  (.seq (.reg [⟨(some 10), none, none, .mv (.c (.nils))⟩] none)
  (.seq (.seq (.reg [⟨(some 33), none, none, .mv (.t 0)⟩,
    ⟨(some 34), none, none, .call .keep 70 [.t 33]⟩,
    ⟨(some 35), none, none, .len (.t 34)⟩,
    ⟨(some 36), none, none, .mv (.c (.p (.int .i64 0)))⟩] none)
  (.fg [1, 8, 9, 10, 34, 35, 36] (.block 0
  (.loop (.fg [1, 8, 9, 10, 34, 35, 36]
    (.seq (.reg [⟨(some 37), none, none, .bin .lss (.t 36) (.t 35)⟩] none)
      (.seq (.cond (.t 37)
        .skip
        (.exit 0))
      (.fg [1, 8, 9, 10, 34, 35, 36] (.seq (.block 1
      (.seq (.reg [⟨(some 38), none, none, .indexA 1 (.t 34) (.t 36)⟩,
    ⟨(some 39), none, none, .load false 1 (.t 38)⟩,
    ⟨(some 12), none, none, .mv (.t 39)⟩] none)
        (.reg [⟨(some 40), none, none, .mv (.t 10)⟩,
    ⟨(some 41), none, none, .mv (.t 12)⟩,
    ⟨(some 42), none, none, .mv (.t 9)⟩,
    ⟨(some 43), none, none, .appz 2 32 (.agg [.bool false, .sl []]) (.t 41) (.t 42)⟩,
    ⟨(some 44), none, none, .bslice 1 [.t 43]⟩,
    ⟨(some 45), none, none, .append 1 24 (.t 40) (.t 44)⟩,
    ⟨(some 10), none, none, .mv (.t 45)⟩] none)))
      (.fg [1, 8, 9, 10, 34, 35, 36] (.reg [⟨(some 46), none, none, .bin .add (.t 36) (.c (.p (.int .i64 1)))⟩,
    ⟨(some 36), none, none, .mv (.t 46)⟩] none)))))))))))
  (.seq (.seq (.reg [⟨(some 47), none, none, .mv (.t 1)⟩,
    ⟨(some 48), none, none, .call .keep 70 [.t 47]⟩,
    ⟨(some 49), none, none, .len (.t 48)⟩,
    ⟨(some 50), none, none, .mv (.c (.p (.int .i64 0)))⟩] none)
  (.fg [8, 10, 48, 49, 50] (.block 2
  (.loop (.fg [8, 10, 48, 49, 50]
    (.seq (.reg [⟨(some 51), none, none, .bin .lss (.t 50) (.t 49)⟩] none)
      (.seq (.cond (.t 51)
        .skip
        (.exit 2))
      (.fg [8, 10, 48, 49, 50] (.seq (.block 3
      (.seq (.reg [⟨(some 52), none, none, .indexA 1 (.t 48) (.t 50)⟩,
    ⟨(some 53), none, none, .load false 1 (.t 52)⟩,
    ⟨(some 14), none, none, .mv (.t 53)⟩] none)
        (.reg [⟨(some 54), none, none, .mv (.t 10)⟩,
    ⟨(some 55), none, none, .mv (.t 8)⟩,
    ⟨(some 56), none, none, .mks false 2 32 (.agg [.bool false, .sl []]) (.t 55) (.t 55)⟩,
    ⟨(some 57), none, none, .mv (.t 14)⟩,
    ⟨(some 58), none, none, .append 2 32 (.t 56) (.t 57)⟩,
    ⟨(some 59), none, none, .bslice 1 [.t 58]⟩,
    ⟨(some 60), none, none, .append 1 24 (.t 54) (.t 59)⟩,
    ⟨(some 10), none, none, .mv (.t 60)⟩] none)))
      (.fg [8, 10, 48, 49, 50] (.reg [⟨(some 61), none, none, .bin .add (.t 50) (.c (.p (.int .i64 1)))⟩,
    ⟨(some 50), none, none, .mv (.t 61)⟩] none)))))))))))
  (.seq (.reg [⟨(some 62), none, none, .mv (.t 10)⟩,
    ⟨(some 63), none, none, .call .fz 71 [.t 62]⟩,
    ⟨(some 64), none, none, .extract (.t 63) 0⟩,
    ⟨(some 65), none, none, .extract (.t 63) 1⟩,
    ⟨(some 4), none, none, .mv (.t 64)⟩,
    ⟨(some 5), none, none, .mv (.t 65)⟩] none)
  .ret)))))))),
  [.t 4, .t 5]⟩

theorem c28 : chkF Try.prog 28 f28 = true := by kernel_rfl

/-- trammel/trammellaw20.ownm -/
def f29 : RFun := ⟨(.seq (.reg [⟨(some 2), none, none, .mv (.c (.nils))⟩] none)
  (.seq (.reg [⟨(some 3), none, none, .mv (.c (.nils))⟩] none)
  (.seq (.seq (.reg [⟨(some 4), none, none, .mv (.c (.p (.int .i64 0)))⟩] none)
  (.fg [0, 3, 4] (.block 0
  (.loop (.fg [0, 3, 4]
    (.seq (.seq (.reg [⟨(some 5), none, none, .mv (.t 4)⟩,
    ⟨(some 6), none, none, .mv (.t 0)⟩,
    ⟨(some 7), none, none, .len (.t 6)⟩,
    ⟨(some 8), none, none, .bin .lss (.t 5) (.t 7)⟩] none)
      (.fg [0, 3, 4, 8] (.cond (.t 8)
        .skip
        (.exit 0))))
      (.seq (.block 1
      (.reg [⟨(some 11), none, none, .mv (.t 3)⟩,
    ⟨(some 12), none, none, .mv (.t 0)⟩,
    ⟨(some 13), none, none, .mv (.t 4)⟩,
    ⟨(some 14), none, none, .indexA 1 (.t 12) (.t 13)⟩,
    ⟨(some 15), none, none, .load false 1 (.t 14)⟩,
    ⟨(some 16), none, none, .call .pu 72 [.t 15]⟩,
    ⟨(some 17), none, none, .bslice 1 [.t 16]⟩,
    ⟨(some 18), none, none, .append 1 24 (.t 11) (.t 17)⟩,
    ⟨(some 3), none, none, .mv (.t 18)⟩] none))
      (.fg [0, 3, 4] (.reg [⟨(some 9), none, none, .mv (.t 4)⟩,
    ⟨(some 10), none, none, .bin .add (.t 9) (.c (.p (.int .i64 1)))⟩,
    ⟨(some 4), none, none, .mv (.t 10)⟩] none)))))))))
  (.seq (.reg [⟨(some 19), none, none, .mv (.t 3)⟩,
    ⟨(some 2), none, none, .mv (.t 19)⟩] none)
  .ret)))),
  [.t 2]⟩

theorem c29 : chkF Try.prog 29 f29 = true := by kernel_rfl

/-- trammel/trammelref20.Check -/
def f30 : RFun := ⟨(.seq (.reg [⟨(some 3), none, none, .box (.t 1)⟩,
    ⟨(some 4), none, none, .mv (.c (.p (.int .i64 0)))⟩] none)
  (.seq (.seq (.reg [⟨(some 5), none, none, .mv (.c (.p (.int .i64 0)))⟩] none)
  (.fg [0, 3, 5] (.block 0
  (.loop (.fg [0, 3, 5]
    (.seq (.seq (.reg [⟨(some 7), none, none, .mv (.t 5)⟩,
    ⟨(some 8), none, none, .mv (.t 0)⟩,
    ⟨(some 9), none, none, .len (.t 8)⟩,
    ⟨(some 10), none, none, .bin .lss (.t 7) (.t 9)⟩] none)
      (.fg [0, 3, 5, 10] (.cond (.t 10)
        .skip
        (.exit 0))))
      (.seq (.block 1
      (.seq (.reg [⟨(some 13), none, none, .mv (.t 0)⟩,
    ⟨(some 14), none, none, .mv (.t 5)⟩,
    ⟨(some 15), none, none, .indexA 1 (.t 13) (.t 14)⟩,
    ⟨(some 16), none, none, .load false 1 (.t 15)⟩,
    ⟨(some 17), none, none, .call .pu 61 [.t 16]⟩,
    ⟨(some 6), none, none, .mv (.t 17)⟩] none)
        (.seq (.reg [⟨(some 18), none, none, .mv (.t 6)⟩,
    ⟨(some 19), none, none, .bin .neq (.t 18) (.c (.p (.int .i64 0)))⟩] none)
        (.fg [0, 3, 5, 6, 19] (.cond (.t 19)
          (.seq (.reg [⟨(some 20), none, none, .mv (.t 6)⟩,
    ⟨(some 4), none, none, .mv (.t 20)⟩] none)
          .ret)
          .skip)))))
      (.fg [0, 3, 5] (.reg [⟨(some 11), none, none, .mv (.t 5)⟩,
    ⟨(some 12), none, none, .bin .add (.t 11) (.c (.p (.int .i64 1)))⟩,
    ⟨(some 5), none, none, .mv (.t 12)⟩] none)))))))))
  (.seq (.seq (.reg [⟨(some 21), none, none, .load true 3 (.t 3)⟩,
    ⟨(some 22), none, none, .call .pu 73 [.t 21]⟩,
    ⟨(some 23), none, none, .un .not (.t 22)⟩] none)
  (.fg [23] (.cond (.t 23)
    (.seq (.reg [⟨(some 4), none, none, .mv (.c (.p (.int .i64 150)))⟩] none)
    .ret)
    .skip)))
  (.seq (.reg [⟨(some 4), none, none, .mv (.c (.p (.int .i64 0)))⟩] none)
  .ret)))),
  [.t 4]⟩

theorem c30 : chkF Try.prog 30 f30 = true := by kernel_rfl

/-- trammel/trammellaw20.one -/
def f31 : RFun := ⟨(.seq (.reg [⟨(some 2), none, none, .mv (.c (.nils))⟩] none)
  (.seq (.reg [⟨(some 3), none, none, .mv (.c (.nils))⟩] none)
  (.seq (.reg [⟨(some 4), none, none, .mv (.t 3)⟩,
    ⟨(some 5), none, none, .mv (.t 0)⟩,
    ⟨(some 6), none, none, .bslice 1 [.t 5]⟩,
    ⟨(some 7), none, none, .append 1 24 (.t 4) (.t 6)⟩,
    ⟨(some 2), none, none, .mv (.t 7)⟩] none)
  .ret))),
  [.t 2]⟩

theorem c31 : chkF Try.prog 31 f31 = true := by kernel_rfl

/-- trammel/trammelref20.Sum -/
def f32 : RFun := ⟨(.seq (.reg [⟨(some 4), none, none, .mv (.c (.nils))⟩,
    ⟨(some 5), none, none, .mv (.c (.p (.int .i64 0)))⟩] none)
  (.seq (.reg [⟨(some 6), none, none, .mv (.c (.nils))⟩] none)
  (.seq (.seq (.reg [⟨(some 7), none, none, .mv (.c (.p (.int .i64 0)))⟩] none)
  (.fg [0, 1, 6, 7] (.block 0
  (.loop (.fg [0, 1, 6, 7]
    (.seq (.seq (.reg [⟨(some 12), none, none, .mv (.t 7)⟩,
    ⟨(some 13), none, none, .mv (.t 0)⟩,
    ⟨(some 14), none, none, .len (.t 13)⟩,
    ⟨(some 15), none, none, .bin .lss (.t 12) (.t 14)⟩] none)
      (.fg [0, 1, 6, 7, 15] (.cond (.t 15)
        .skip
        (.exit 0))))
      (.seq (.block 1
      (.seq (.reg [⟨(some 18), none, none, .call .pu 66 [.c (.p (.int .i64 1))]⟩,
    ⟨(some 19), none, none, .mv (.t 0)⟩,
    ⟨(some 20), none, none, .mv (.t 7)⟩,
    ⟨(some 21), none, none, .indexA 1 (.t 19) (.t 20)⟩,
    ⟨(some 22), none, none, .load false 1 (.t 21)⟩,
    ⟨(some 23), none, (some 0), .madec 74 [.t 18, .t 22]⟩,
    ⟨(some 8), none, none, .mv (.t 23)⟩] (some (1, [])))
        (.reg [⟨(some 24), none, none, .mv (.t 6)⟩,
    ⟨(some 25), none, none, .mv (.t 8)⟩,
    ⟨(some 26), none, none, .mv (.t 1)⟩,
    ⟨(some 27), none, none, .indexA 1 (.t 26) (.c (.p (.int .i64 0)))⟩,
    ⟨(some 28), none, none, .load false 1 (.t 27)⟩,
    ⟨(some 29), none, none, .len (.t 28)⟩,
    ⟨(some 30), none, none, .call .pu 75 [.t 29]⟩,
    ⟨(some 31), none, none, .append 2 32 (.t 25) (.t 30)⟩,
    ⟨(some 32), none, none, .bslice 1 [.t 31]⟩,
    ⟨(some 33), none, none, .append 1 24 (.t 24) (.t 32)⟩,
    ⟨(some 6), none, none, .mv (.t 33)⟩] none)))
      (.fg [0, 1, 6, 7] (.reg [⟨(some 16), none, none, .mv (.t 7)⟩,
    ⟨(some 17), none, none, .bin .add (.t 16) (.c (.p (.int .i64 1)))⟩,
    ⟨(some 7), none, none, .mv (.t 17)⟩] none)))))))))
  (.seq (.seq (.reg [⟨(some 9), none, none, .mv (.c (.p (.int .i64 0)))⟩] none)
  (.fg [0, 1, 6, 9] (.block 2
  (.loop (.fg [0, 1, 6, 9]
    (.seq (.seq (.reg [⟨(some 34), none, none, .mv (.t 9)⟩,
    ⟨(some 35), none, none, .mv (.t 1)⟩,
    ⟨(some 36), none, none, .len (.t 35)⟩,
    ⟨(some 37), none, none, .bin .lss (.t 34) (.t 36)⟩] none)
      (.fg [0, 1, 6, 9, 37] (.cond (.t 37)
        .skip
        (.exit 2))))
      (.seq (.block 3
      (.seq (.reg [⟨(some 40), none, none, .mv (.t 0)⟩,
    ⟨(some 41), none, none, .indexA 1 (.t 40) (.c (.p (.int .i64 0)))⟩,
    ⟨(some 42), none, none, .load false 1 (.t 41)⟩,
    ⟨(some 43), none, none, .len (.t 42)⟩,
    ⟨(some 44), none, none, .madec 75 [.t 43]⟩,
    ⟨(some 10), none, none, .mv (.t 44)⟩] none)
        (.reg [⟨(some 45), none, none, .mv (.t 6)⟩,
    ⟨(some 46), none, none, .mv (.t 10)⟩,
    ⟨(some 47), none, none, .call .pu 66 [.c (.p (.int .i64 1))]⟩,
    ⟨(some 48), none, none, .mv (.t 1)⟩,
    ⟨(some 49), none, none, .mv (.t 9)⟩,
    ⟨(some 50), none, none, .indexA 1 (.t 48) (.t 49)⟩,
    ⟨(some 51), none, none, .load false 1 (.t 50)⟩,
    ⟨(some 52), none, none, .call .pu 74 [.t 47, .t 51]⟩,
    ⟨(some 53), none, (some 0), .append 2 32 (.t 46) (.t 52)⟩,
    ⟨(some 54), none, (some 1), .bslice 1 [.t 53]⟩,
    ⟨(some 55), none, (some 2), .append 1 24 (.t 45) (.t 54)⟩,
    ⟨(some 6), none, none, .mv (.t 55)⟩] (some (3, [])))))
      (.fg [0, 1, 6, 9] (.reg [⟨(some 38), none, none, .mv (.t 9)⟩,
    ⟨(some 39), none, none, .bin .add (.t 38) (.c (.p (.int .i64 1)))⟩,
    ⟨(some 9), none, none, .mv (.t 39)⟩] none)))))))))
  (.seq (.reg [⟨(some 56), none, none, .mv (.t 6)⟩,
    ⟨(some 57), none, none, .call .peek 61 [.t 56]⟩,
    ⟨(some 11), none, none, .mv (.t 57)⟩] none)
  (.seq (.seq (.reg [⟨(some 58), none, none, .mv (.t 11)⟩,
    ⟨(some 59), none, none, .bin .neq (.t 58) (.c (.p (.int .i64 0)))⟩] none)
  (.fg [6, 11, 59] (.cond (.t 59)
    (.seq (.reg [⟨(some 60), none, none, .mv (.t 11)⟩,
    ⟨(some 4), none, none, .mv (.c (.nils))⟩,
    ⟨(some 5), none, none, .mv (.t 60)⟩] none)
    .ret)
    .skip)))
  (.seq (.reg [⟨(some 61), none, none, .mv (.t 6)⟩,
    ⟨(some 4), none, none, .mv (.t 61)⟩,
    ⟨(some 5), none, none, .mv (.c (.p (.int .i64 0)))⟩] none)
  .ret))))))),
  [.t 4, .t 5]⟩

theorem c32 : chkF Try.prog 32 f32 = true := by kernel_rfl

/-- trammel/trammellaw20.eqm -/
def f33 : RFun := ⟨(.seq (.reg [⟨(some 4), none, none, .mv (.c (.p (.bool false)))⟩] none)
  (.seq (.seq (.reg [⟨(some 6), none, none, .mv (.t 0)⟩,
    ⟨(some 7), none, none, .len (.t 6)⟩,
    ⟨(some 8), none, none, .mv (.t 1)⟩,
    ⟨(some 9), none, none, .len (.t 8)⟩,
    ⟨(some 10), none, none, .bin .neq (.t 7) (.t 9)⟩] none)
  (.fg [0, 1, 10] (.cond (.t 10)
    (.seq (.reg [⟨(some 4), none, none, .mv (.c (.p (.bool false)))⟩] none)
    .ret)
    .skip)))
  (.seq (.seq (.reg [⟨(some 5), none, none, .mv (.c (.p (.int .i64 0)))⟩] none)
  (.fg [0, 1, 5] (.block 0
  (.loop (.fg [0, 1, 5]
    (.seq (.seq (.reg [⟨(some 11), none, none, .mv (.t 5)⟩,
    ⟨(some 12), none, none, .mv (.t 0)⟩,
    ⟨(some 13), none, none, .len (.t 12)⟩,
    ⟨(some 14), none, none, .bin .lss (.t 11) (.t 13)⟩] none)
      (.fg [0, 1, 5, 14] (.cond (.t 14)
        .skip
        (.exit 0))))
      (.seq (.block 1
      (.seq (.reg [⟨(some 17), none, none, .mv (.t 0)⟩,
    ⟨(some 18), none, none, .mv (.t 5)⟩,
    ⟨(some 19), none, none, .indexA 1 (.t 17) (.t 18)⟩,
    ⟨(some 20), none, none, .load false 1 (.t 19)⟩,
    ⟨(some 21), none, none, .mv (.t 1)⟩,
    ⟨(some 22), none, none, .mv (.t 5)⟩,
    ⟨(some 23), none, none, .indexA 1 (.t 21) (.t 22)⟩,
    ⟨(some 24), none, none, .load false 1 (.t 23)⟩,
    ⟨(some 25), none, none, .call .pu 76 [.t 20, .t 24]⟩,
    ⟨(some 26), none, none, .un .not (.t 25)⟩] (some (0, [])))
        (.fg [0, 1, 5, 26] (.cond (.t 26)
          (.seq (.reg [⟨(some 4), none, none, .mv (.c (.p (.bool false)))⟩] none)
          .ret)
          .skip))))
      (.fg [0, 1, 5] (.reg [⟨(some 15), none, none, .mv (.t 5)⟩,
    ⟨(some 16), none, none, .bin .add (.t 15) (.c (.p (.int .i64 1)))⟩,
    ⟨(some 5), none, none, .mv (.t 16)⟩] none)))))))))
  (.seq (.reg [⟨(some 4), none, none, .mv (.c (.p (.bool true)))⟩] none)
  .ret)))),
  [.t 4]⟩

theorem c33 : chkF Try.prog 33 f33 = true := by kernel_rfl

/-- trammel/theta.Scale -/
def f34 : RFun := ⟨(.seq (.reg [⟨(some 3), none, none, .box (.t 1)⟩,
    ⟨(some 4), none, none, .mv (.c (.nils))⟩,
    ⟨(some 5), none, none, .mv (.c (.p (.int .i64 0)))⟩] none)
  (.seq (.seq (.reg [⟨(some 10), none, none, .mv (.t 0)⟩,
    ⟨(some 11), none, none, .call .pu 59 [.t 10]⟩,
    ⟨(some 6), none, none, .mv (.t 11)⟩] none)
  (.seq (.reg [⟨(some 12), none, none, .mv (.t 6)⟩,
    ⟨(some 13), none, none, .bin .neq (.t 12) (.c (.p (.int .i64 0)))⟩] none)
  (.fg [0, 3, 6, 13] (.cond (.t 13)
    (.seq (.reg [⟨(some 14), none, none, .mv (.t 6)⟩,
    ⟨(some 4), none, none, .mv (.c (.nils))⟩,
    ⟨(some 5), none, none, .mv (.t 14)⟩] none)
    .ret)
    .skip))))
  (.seq (.seq (.reg [⟨(some 15), none, none, .load true 2 (.t 3)⟩,
    ⟨(some 16), none, none, .call .pu 77 [.t 15]⟩,
    ⟨(some 17), none, none, .bin .eql (.t 16) (.c (.p (.int .i64 0)))⟩] none)
  (.fg [0, 3, 17] (.cond (.t 17)
    (.seq (.reg [⟨(some 4), none, none, .mv (.c (.nils))⟩,
    ⟨(some 5), none, none, .mv (.c (.p (.int .i64 1)))⟩] none)
    .ret)
    .skip)))
  (.seq (.reg [⟨(some 7), none, none, .mv (.c (.nils))⟩] none)
  (.seq (.seq (.reg [⟨(some 18), none, none, .mv (.t 0)⟩,
    ⟨(some 19), none, none, .len (.t 18)⟩,
    ⟨(some 20), none, none, .mv (.c (.p (.int .i64 0)))⟩] none)
  (.fg [3, 7, 18, 19, 20] (.block 0
  (.loop (.fg [3, 7, 18, 19, 20]
    (.seq (.reg [⟨(some 21), none, none, .bin .lss (.t 20) (.t 19)⟩] none)
      (.seq (.cond (.t 21)
        .skip
        (.exit 0))
      (.fg [3, 7, 18, 19, 20] (.seq (.block 1
      (.seq (.reg [⟨(some 22), none, none, .indexA 1 (.t 18) (.t 20)⟩,
    ⟨(some 23), none, none, .load false 1 (.t 22)⟩,
    ⟨(some 9), none, none, .mv (.t 23)⟩] none)
        (.reg [⟨(some 24), none, none, .mv (.t 7)⟩,
    ⟨(some 25), none, none, .load true 2 (.t 3)⟩,
    ⟨(some 26), none, none, .mv (.t 9)⟩,
    ⟨(some 27), none, none, .call .pu 78 [.t 25, .t 26]⟩,
    ⟨(some 28), none, none, .bslice 1 [.t 27]⟩,
    ⟨(some 29), none, none, .append 1 24 (.t 24) (.t 28)⟩,
    ⟨(some 7), none, none, .mv (.t 29)⟩] none)))
      (.fg [3, 7, 18, 19, 20] (.reg [⟨(some 30), none, none, .bin .add (.t 20) (.c (.p (.int .i64 1)))⟩,
    ⟨(some 20), none, none, .mv (.t 30)⟩] none)))))))))))
  (.seq (.reg [⟨(some 31), none, none, .mv (.t 7)⟩,
    ⟨(some 32), none, none, .call .fz 71 [.t 31]⟩,
    ⟨(some 33), none, none, .extract (.t 32) 0⟩,
    ⟨(some 34), none, none, .extract (.t 32) 1⟩,
    ⟨(some 4), none, none, .mv (.t 33)⟩,
    ⟨(some 5), none, none, .mv (.t 34)⟩] none)
  .ret)))))),
  [.t 4, .t 5]⟩

theorem c34 : chkF Try.prog 34 f34 = true := by kernel_rfl

/-- trammel/trammellaw20.own -/
def f35 : RFun := ⟨(.seq (.reg [⟨(some 1), none, none, .box (.t 0)⟩,
    ⟨(some 2), none, none, .alloc [.p (.bool false), .nils]⟩] none)
  (.seq (.reg [⟨(some 3), none, none, .mv (.c (.nils))⟩] none)
  (.seq (.reg [⟨(some 4), none, none, .mv (.t 3)⟩,
    ⟨(some 5), none, none, .fieldA 1 (.t 1)⟩,
    ⟨(some 6), none, none, .load false 1 (.t 5)⟩,
    ⟨(some 7), none, none, .append 1 4 (.t 4) (.t 6)⟩,
    ⟨(some 3), none, none, .mv (.t 7)⟩] none)
  (.seq (.reg [⟨(some 8), none, none, .mv (.t 3)⟩,
    ⟨(some 9), none, none, .bslice 1 [.c (.p (.int .u32 77)), .c (.p (.int .u32 78)), .c (.p (.int .u32 79)), .c (.p (.int .u32 80)), .c (.p (.int .u32 81)), .c (.p (.int .u32 82)), .c (.p (.int .u32 83)), .c (.p (.int .u32 84)), .c (.p (.int .u32 85))]⟩,
    ⟨(some 10), none, none, .append 1 4 (.t 8) (.t 9)⟩,
    ⟨(some 3), none, none, .mv (.t 10)⟩] none)
  (.seq (.reg [⟨(some 11), none, none, .fieldA 0 (.t 1)⟩,
    ⟨(some 12), none, none, .load false 1 (.t 11)⟩,
    ⟨(some 13), none, none, .mv (.t 3)⟩,
    ⟨(some 14), none, none, .fieldA 1 (.t 1)⟩,
    ⟨(some 15), none, none, .load false 1 (.t 14)⟩,
    ⟨(some 16), none, none, .len (.t 15)⟩,
    ⟨(some 17), none, none, .slice 1 (.t 13) none (some (.t 16)) none⟩,
    ⟨(some 18), none, none, .build [.p (.bool false), .nils] [(0, 1, .t 12), (1, 1, .t 17)]⟩,
    ⟨none, none, none, .store 2 (.t 2) (.t 18)⟩] (some (0, [])))
  .ret))))),
  [.cell 2 true 2]⟩

theorem c35 : chkF Try.prog 35 f35 = true := by kernel_rfl

/-- trammel/trammelref20.Scale -/
def f36 : RFun := ⟨(.seq (.reg [⟨(some 3), none, none, .box (.t 1)⟩,
    ⟨(some 4), none, none, .mv (.c (.nils))⟩,
    ⟨(some 5), none, none, .mv (.c (.p (.int .i64 0)))⟩] none)
  (.seq (.seq (.reg [⟨(some 9), none, none, .load true 2 (.t 3)⟩,
    ⟨(some 10), none, none, .call .pu 79 [.t 9]⟩,
    ⟨(some 11), none, none, .bin .eql (.t 10) (.c (.p (.int .i64 0)))⟩] none)
  (.fg [0, 3, 11] (.cond (.t 11)
    (.seq (.reg [⟨(some 4), none, none, .mv (.c (.nils))⟩,
    ⟨(some 5), none, none, .mv (.c (.p (.int .i64 1)))⟩] none)
    .ret)
    .skip)))
  (.seq (.reg [⟨(some 6), none, none, .mv (.c (.nils))⟩] none)
  (.seq (.seq (.reg [⟨(some 7), none, none, .mv (.c (.p (.int .i64 0)))⟩] none)
  (.fg [0, 3, 6, 7] (.block 0
  (.loop (.fg [0, 3, 6, 7]
    (.seq (.seq (.reg [⟨(some 12), none, none, .mv (.t 7)⟩,
    ⟨(some 13), none, none, .mv (.t 0)⟩,
    ⟨(some 14), none, none, .len (.t 13)⟩,
    ⟨(some 15), none, none, .bin .lss (.t 12) (.t 14)⟩] none)
      (.fg [0, 3, 6, 7, 15] (.cond (.t 15)
        .skip
        (.exit 0))))
      (.seq (.block 1
      (.reg [⟨(some 18), none, none, .mv (.t 6)⟩,
    ⟨(some 19), none, none, .load true 2 (.t 3)⟩,
    ⟨(some 20), none, none, .mv (.t 0)⟩,
    ⟨(some 21), none, none, .mv (.t 7)⟩,
    ⟨(some 22), none, none, .indexA 1 (.t 20) (.t 21)⟩,
    ⟨(some 23), none, none, .load false 1 (.t 22)⟩,
    ⟨(some 24), none, none, .call .pu 74 [.t 19, .t 23]⟩,
    ⟨(some 25), none, (some 0), .bslice 1 [.t 24]⟩,
    ⟨(some 26), none, (some 1), .append 1 24 (.t 18) (.t 25)⟩,
    ⟨(some 6), none, none, .mv (.t 26)⟩] (some (2, []))))
      (.fg [0, 3, 6, 7] (.reg [⟨(some 16), none, none, .mv (.t 7)⟩,
    ⟨(some 17), none, none, .bin .add (.t 16) (.c (.p (.int .i64 1)))⟩,
    ⟨(some 7), none, none, .mv (.t 17)⟩] none)))))))))
  (.seq (.reg [⟨(some 27), none, none, .mv (.t 6)⟩,
    ⟨(some 28), none, none, .call .peek 61 [.t 27]⟩,
    ⟨(some 8), none, none, .mv (.t 28)⟩] none)
  (.seq (.seq (.reg [⟨(some 29), none, none, .mv (.t 8)⟩,
    ⟨(some 30), none, none, .bin .neq (.t 29) (.c (.p (.int .i64 0)))⟩] none)
  (.fg [6, 8, 30] (.cond (.t 30)
    (.seq (.reg [⟨(some 31), none, none, .mv (.t 8)⟩,
    ⟨(some 4), none, none, .mv (.c (.nils))⟩,
    ⟨(some 5), none, none, .mv (.t 31)⟩] none)
    .ret)
    .skip)))
  (.seq (.reg [⟨(some 32), none, none, .mv (.t 6)⟩,
    ⟨(some 4), none, none, .mv (.t 32)⟩,
    ⟨(some 5), none, none, .mv (.c (.p (.int .i64 0)))⟩] none)
  .ret))))))),
  [.t 4, .t 5]⟩

theorem c36 : chkF Try.prog 36 f36 = true := by kernel_rfl

/-- trammel/mat.Form -/
def f70 : RFun := ⟨(.seq (.reg [⟨(some 2), none, none, .mv (.c (.nils))⟩] none)
  (.seq (.reg [⟨(some 3), none, none, .mv (.t 0)⟩,
    ⟨(some 4), none, none, .call .keep 114 [.t 3, .c (.fn 115 [])]⟩,
    ⟨(some 2), none, none, .mv (.t 4)⟩] none)
  .ret)),
  [.t 2]⟩

theorem c70 : chkF Try.prog 70 f70 = true := by kernel_rfl

/-- trammel/theta.made -/
def f71 : RFun := ⟨(.seq (.reg [⟨(some 2), none, none, .mv (.c (.nils))⟩,
    ⟨(some 3), none, none, .mv (.c (.p (.int .i64 0)))⟩] none)
  (.seq (.seq (.reg [⟨(some 5), none, none, .mv (.t 0)⟩,
    ⟨(some 6), none, none, .call .pu 59 [.t 5]⟩,
    ⟨(some 4), none, none, .mv (.t 6)⟩] none)
  (.seq (.reg [⟨(some 7), none, none, .mv (.t 4)⟩,
    ⟨(some 8), none, none, .bin .neq (.t 7) (.c (.p (.int .i64 0)))⟩] none)
  (.fg [0, 4, 8] (.cond (.t 8)
    (.seq (.reg [⟨(some 9), none, none, .mv (.t 4)⟩,
    ⟨(some 2), none, none, .mv (.c (.nils))⟩,
    ⟨(some 3), none, none, .mv (.t 9)⟩] none)
    .ret)
    .skip))))
  (.seq (.reg [⟨(some 10), none, none, .mv (.t 0)⟩,
    ⟨(some 2), none, none, .mv (.t 10)⟩,
    ⟨(some 3), none, none, .mv (.c (.p (.int .i64 0)))⟩] none)
  .ret))),
  [.t 2, .t 3]⟩

theorem c71 : chkF Try.prog 71 f71 = true := by kernel_rfl

/-- trammel/trammellaw20.owns -/
def f72 : RFun := ⟨(.seq (.reg [⟨(some 2), none, none, .mv (.c (.nils))⟩] none)
  (.seq (.reg [⟨(some 3), none, none, .mv (.c (.nils))⟩] none)
  (.seq (.seq (.reg [⟨(some 4), none, none, .mv (.c (.p (.int .i64 0)))⟩] none)
  (.fg [0, 3, 4] (.block 0
  (.loop (.fg [0, 3, 4]
    (.seq (.seq (.reg [⟨(some 5), none, none, .mv (.t 4)⟩,
    ⟨(some 6), none, none, .mv (.t 0)⟩,
    ⟨(some 7), none, none, .len (.t 6)⟩,
    ⟨(some 8), none, none, .bin .lss (.t 5) (.t 7)⟩] none)
      (.fg [0, 3, 4, 8] (.cond (.t 8)
        .skip
        (.exit 0))))
      (.seq (.block 1
      (.reg [⟨(some 11), none, none, .mv (.t 3)⟩,
    ⟨(some 12), none, none, .mv (.t 0)⟩,
    ⟨(some 13), none, none, .mv (.t 4)⟩,
    ⟨(some 14), none, none, .indexA 2 (.t 12) (.t 13)⟩,
    ⟨(some 15), none, none, .load true 2 (.t 14)⟩,
    ⟨(some 16), none, none, .call .pu 35 [.t 15]⟩,
    ⟨(some 17), none, none, .bslice 2 [.t 16]⟩,
    ⟨(some 18), none, none, .append 2 32 (.t 11) (.t 17)⟩,
    ⟨(some 3), none, none, .mv (.t 18)⟩] none))
      (.fg [0, 3, 4] (.reg [⟨(some 9), none, none, .mv (.t 4)⟩,
    ⟨(some 10), none, none, .bin .add (.t 9) (.c (.p (.int .i64 1)))⟩,
    ⟨(some 4), none, none, .mv (.t 10)⟩] none)))))))))
  (.seq (.reg [⟨(some 19), none, none, .mv (.t 3)⟩,
    ⟨(some 2), none, none, .mv (.t 19)⟩] none)
  .ret)))),
  [.t 2]⟩

theorem c72 : chkF Try.prog 72 f72 = true := by kernel_rfl

/-- trammel/trammelref15.Valid -/
def f73 : RFun := ⟨(.seq (.reg [⟨(some 1), none, none, .box (.t 0)⟩,
    ⟨(some 2), none, none, .mv (.c (.p (.bool false)))⟩] none)
  (.seq (.reg [⟨(some 3), none, none, .fieldA 0 (.t 1)⟩,
    ⟨(some 4), none, none, .load false 1 (.t 3)⟩,
    ⟨(some 5), none, none, .bin .geq (.t 4) (.c (.p (.int .i64 1)))⟩,
    ⟨(some 6), none, none, .mv (.t 5)⟩,
    ⟨(some 7), (some (6, true)), none, .fieldA 0 (.t 1)⟩,
    ⟨(some 8), (some (6, true)), none, .load false 1 (.t 7)⟩,
    ⟨(some 9), (some (6, true)), none, .bin .leq (.t 8) (.c (.p (.int .i64 64)))⟩,
    ⟨(some 10), none, none, .pick (.t 6) (.t 9) (.c (.p (.bool false)))⟩,
    ⟨(some 11), none, none, .mv (.t 10)⟩,
    ⟨(some 12), (some (11, true)), none, .fieldA 1 (.t 1)⟩,
    ⟨(some 13), (some (11, true)), none, .load false 1 (.t 12)⟩,
    ⟨(some 14), (some (11, true)), none, .bin .geq (.t 13) (.c (.p (.int .i64 1)))⟩,
    ⟨(some 15), none, none, .pick (.t 11) (.t 14) (.c (.p (.bool false)))⟩,
    ⟨(some 16), none, none, .mv (.t 15)⟩,
    ⟨(some 17), (some (16, true)), none, .fieldA 1 (.t 1)⟩,
    ⟨(some 18), (some (16, true)), none, .load false 1 (.t 17)⟩,
    ⟨(some 19), (some (16, true)), none, .bin .leq (.t 18) (.c (.p (.int .i64 1048576)))⟩,
    ⟨(some 20), none, none, .pick (.t 16) (.t 19) (.c (.p (.bool false)))⟩,
    ⟨(some 2), none, none, .mv (.t 20)⟩] none)
  .ret)),
  [.t 2]⟩

theorem c73 : chkF Try.prog 73 f73 = true := by kernel_rfl

/-- trammel/trammelref04.Times -/
def f74 : RFun := ⟨(.seq (.reg [⟨(some 2), none, none, .box (.t 0)⟩,
    ⟨(some 4), none, none, .mv (.c (.nils))⟩] none)
  (.seq (.reg [⟨(some 5), none, none, .mv (.c (.nils))⟩] none)
  (.seq (.seq (.reg [⟨(some 6), none, none, .mv (.c (.p (.int .i64 0)))⟩] none)
  (.fg [1, 2, 5, 6] (.block 0
  (.loop (.fg [1, 2, 5, 6]
    (.seq (.seq (.reg [⟨(some 7), none, none, .mv (.t 6)⟩,
    ⟨(some 8), none, none, .mv (.t 1)⟩,
    ⟨(some 9), none, none, .len (.t 8)⟩,
    ⟨(some 10), none, none, .bin .lss (.t 7) (.t 9)⟩] none)
      (.fg [1, 2, 5, 6, 10] (.cond (.t 10)
        .skip
        (.exit 0))))
      (.seq (.block 1
      (.reg [⟨(some 13), none, none, .mv (.t 5)⟩,
    ⟨(some 14), none, none, .load true 2 (.t 2)⟩,
    ⟨(some 15), none, none, .mv (.t 1)⟩,
    ⟨(some 16), none, none, .mv (.t 6)⟩,
    ⟨(some 17), none, none, .indexA 2 (.t 15) (.t 16)⟩,
    ⟨(some 18), none, none, .load true 2 (.t 17)⟩,
    ⟨(some 19), none, none, .call .pu 117 [.t 14, .t 18]⟩,
    ⟨(some 20), none, (some 0), .bslice 2 [.t 19]⟩,
    ⟨(some 21), none, (some 1), .append 2 32 (.t 13) (.t 20)⟩,
    ⟨(some 5), none, none, .mv (.t 21)⟩] (some (2, []))))
      (.fg [1, 2, 5, 6] (.reg [⟨(some 11), none, none, .mv (.t 6)⟩,
    ⟨(some 12), none, none, .bin .add (.t 11) (.c (.p (.int .i64 1)))⟩,
    ⟨(some 6), none, none, .mv (.t 12)⟩] none)))))))))
  (.seq (.reg [⟨(some 22), none, none, .mv (.t 5)⟩,
    ⟨(some 4), none, none, .mv (.t 22)⟩] none)
  .ret)))),
  [.t 4]⟩

theorem c74 : chkF Try.prog 74 f74 = true := by kernel_rfl

/-- trammel/trammelref20.noughts -/
def f75 : RFun := ⟨(.seq (.reg [⟨(some 2), none, none, .mv (.c (.nils))⟩] none)
  (.seq (.reg [⟨(some 3), none, none, .mv (.c (.nils))⟩] none)
  (.seq (.seq (.reg [⟨(some 4), none, none, .mv (.c (.p (.int .i64 0)))⟩] none)
  (.fg [0, 3, 4] (.block 0
  (.loop (.fg [0, 3, 4]
    (.seq (.seq (.reg [⟨(some 5), none, none, .mv (.t 4)⟩,
    ⟨(some 6), none, none, .mv (.t 0)⟩,
    ⟨(some 7), none, none, .bin .lss (.t 5) (.t 6)⟩] none)
      (.fg [0, 3, 4, 7] (.cond (.t 7)
        .skip
        (.exit 0))))
      (.seq (.block 1
      (.reg [⟨(some 10), none, none, .mv (.t 3)⟩,
    ⟨(some 11), none, none, .call .pu 66 [.c (.p (.int .i64 0))]⟩,
    ⟨(some 12), none, none, .bslice 2 [.t 11]⟩,
    ⟨(some 13), none, none, .append 2 32 (.t 10) (.t 12)⟩,
    ⟨(some 3), none, none, .mv (.t 13)⟩] none))
      (.fg [0, 3, 4] (.reg [⟨(some 8), none, none, .mv (.t 4)⟩,
    ⟨(some 9), none, none, .bin .add (.t 8) (.c (.p (.int .i64 1)))⟩,
    ⟨(some 4), none, none, .mv (.t 9)⟩] none)))))))))
  (.seq (.reg [⟨(some 14), none, none, .mv (.t 3)⟩,
    ⟨(some 2), none, none, .mv (.t 14)⟩] none)
  .ret)))),
  [.t 2]⟩

theorem c75 : chkF Try.prog 75 f75 = true := by kernel_rfl

/-- trammel/trammellaw20.eqs -/
def f76 : RFun := ⟨(.seq (.reg [⟨(some 4), none, none, .mv (.c (.p (.bool false)))⟩] none)
  (.seq (.seq (.reg [⟨(some 6), none, none, .mv (.t 0)⟩,
    ⟨(some 7), none, none, .len (.t 6)⟩,
    ⟨(some 8), none, none, .mv (.t 1)⟩,
    ⟨(some 9), none, none, .len (.t 8)⟩,
    ⟨(some 10), none, none, .bin .neq (.t 7) (.t 9)⟩] none)
  (.fg [0, 1, 10] (.cond (.t 10)
    (.seq (.reg [⟨(some 4), none, none, .mv (.c (.p (.bool false)))⟩] none)
    .ret)
    .skip)))
  (.seq (.seq (.reg [⟨(some 5), none, none, .mv (.c (.p (.int .i64 0)))⟩] none)
  (.fg [0, 1, 5] (.block 0
  (.loop (.fg [0, 1, 5]
    (.seq (.seq (.reg [⟨(some 11), none, none, .mv (.t 5)⟩,
    ⟨(some 12), none, none, .mv (.t 0)⟩,
    ⟨(some 13), none, none, .len (.t 12)⟩,
    ⟨(some 14), none, none, .bin .lss (.t 11) (.t 13)⟩] none)
      (.fg [0, 1, 5, 14] (.cond (.t 14)
        .skip
        (.exit 0))))
      (.seq (.block 1
      (.seq (.reg [⟨(some 17), none, none, .mv (.t 0)⟩,
    ⟨(some 18), none, none, .mv (.t 5)⟩,
    ⟨(some 19), none, none, .indexA 2 (.t 17) (.t 18)⟩,
    ⟨(some 20), none, none, .load true 2 (.t 19)⟩,
    ⟨(some 21), none, none, .mv (.t 1)⟩,
    ⟨(some 22), none, none, .mv (.t 5)⟩,
    ⟨(some 23), none, none, .indexA 2 (.t 21) (.t 22)⟩,
    ⟨(some 24), none, none, .load true 2 (.t 23)⟩,
    ⟨(some 25), none, none, .call .pu 118 [.t 20, .t 24]⟩,
    ⟨(some 26), none, none, .un .not (.t 25)⟩] (some (0, [])))
        (.fg [0, 1, 5, 26] (.cond (.t 26)
          (.seq (.reg [⟨(some 4), none, none, .mv (.c (.p (.bool false)))⟩] none)
          .ret)
          .skip))))
      (.fg [0, 1, 5] (.reg [⟨(some 15), none, none, .mv (.t 5)⟩,
    ⟨(some 16), none, none, .bin .add (.t 15) (.c (.p (.int .i64 1)))⟩,
    ⟨(some 5), none, none, .mv (.t 16)⟩] none)))))))))
  (.seq (.reg [⟨(some 4), none, none, .mv (.c (.p (.bool true)))⟩] none)
  .ret)))),
  [.t 4]⟩

theorem c76 : chkF Try.prog 76 f76 = true := by kernel_rfl

/-- trammel/mat.Times -/
def f78 : RFun := ⟨(.seq (.reg [⟨(some 2), none, none, .box (.t 0)⟩,
    ⟨(some 4), none, none, .mv (.c (.nils))⟩] none)
  (.seq (.reg [⟨(some 5), none, none, .mv (.t 1)⟩,
    ⟨(some 6), none, none, .mkfn 120 [.t 2]⟩,
    ⟨(some 7), none, none, .call .full 116 [.t 5, .t 6]⟩,
    ⟨(some 4), none, none, .mv (.t 7)⟩] none)
  .ret)),
  [.t 4]⟩

theorem c78 : chkF Try.prog 78 f78 = true := by kernel_rfl

/-- trammel/zint.Form -/
def f94 : RFun := ⟨(.seq (.reg [⟨(some 1), none, none, .box (.t 0)⟩,
    ⟨(some 2), none, none, .alloc [.p (.bool false), .nils]⟩] none)
  (.seq (.reg [⟨(some 3), none, none, .fieldA 0 (.t 1)⟩,
    ⟨(some 4), none, none, .load false 1 (.t 3)⟩,
    ⟨(some 5), none, none, .fieldA 1 (.t 1)⟩,
    ⟨(some 6), none, none, .load false 1 (.t 5)⟩,
    ⟨(some 7), none, none, .call .pu 105 [.t 4, .t 6]⟩,
    ⟨none, none, none, .store 2 (.t 2) (.t 7)⟩] none)
  .ret)),
  [.cell 2 true 2]⟩

theorem c94 : chkF Try.prog 94 f94 = true := by kernel_rfl

/-- trammel/mat.each[[]trammel/api.Int,[]trammel/api.Int] -/
def f114 : RFun := ⟨(.seq (.reg [⟨(some 4), none, none, .mv (.c (.nils))⟩] none)
  (.seq (.reg [⟨(some 8), none, none, .mv (.t 0)⟩,
    ⟨(some 9), none, none, .len (.t 8)⟩,
    ⟨(some 10), none, none, .mks true 1 24 (.sl []) (.c (.p (.int .i64 0))) (.t 9)⟩,
    ⟨(some 5), none, none, .mv (.t 10)⟩] none)
  (.seq (.seq (.reg [⟨(some 11), none, none, .mv (.t 0)⟩,
    ⟨(some 12), none, none, .len (.t 11)⟩,
    ⟨(some 13), none, none, .mv (.c (.p (.int .i64 0)))⟩] none)
  (.fg [1, 5, 11, 12, 13] (.block 0
  (.loop (.fg [1, 5, 11, 12, 13]
    (.seq (.reg [⟨(some 14), none, none, .bin .lss (.t 13) (.t 12)⟩] none)
      (.seq (.cond (.t 14)
        .skip
        (.exit 0))
      (.fg [1, 5, 11, 12, 13] (.seq (.block 1
      (.seq (.reg [⟨(some 15), none, none, .indexA 1 (.t 11) (.t 13)⟩,
    ⟨(some 16), none, none, .load false 1 (.t 15)⟩,
    ⟨(some 7), none, none, .mv (.t 16)⟩] none)
        (.reg [⟨(some 17), none, none, .mv (.t 5)⟩,
    ⟨(some 18), none, none, .mv (.t 1)⟩,
    ⟨(some 19), none, none, .mv (.t 7)⟩,
    ⟨(some 20), none, none, .callv .keep (.t 18) [.t 19]⟩,
    ⟨(some 21), none, none, .bslk [.t 20]⟩,
    ⟨(some 22), none, none, .appk 24 (.t 17) (.t 21)⟩,
    ⟨(some 5), none, none, .mv (.t 22)⟩] none)))
      (.fg [1, 5, 11, 12, 13] (.reg [⟨(some 23), none, none, .bin .add (.t 13) (.c (.p (.int .i64 1)))⟩,
    ⟨(some 13), none, none, .mv (.t 23)⟩] none)))))))))))
  (.seq (.reg [⟨(some 24), none, none, .mv (.t 5)⟩,
    ⟨(some 4), none, none, .mv (.t 24)⟩] none)
  .ret)))),
  [.t 4]⟩

theorem c114 : chkF Try.prog 114 f114 = true := by kernel_rfl

/-- trammel/mat.Form$1 -/
def f115 : RFun := ⟨(.seq (.reg [⟨(some 2), none, none, .mv (.c (.nils))⟩] none)
  (.seq (.reg [⟨(some 3), none, none, .mv (.t 0)⟩,
    ⟨(some 4), none, none, .call .keep 116 [.t 3, .c (.fn 94 [])]⟩,
    ⟨(some 2), none, none, .mv (.t 4)⟩] none)
  .ret)),
  [.t 2]⟩

theorem c115 : chkF Try.prog 115 f115 = true := by kernel_rfl

/-- trammel/mat.each[trammel/api.Int,trammel/api.Int] -/
def f116 : RFun := ⟨(.seq (.reg [⟨(some 4), none, none, .mv (.c (.nils))⟩] none)
  (.seq (.reg [⟨(some 8), none, none, .mv (.t 0)⟩,
    ⟨(some 9), none, none, .len (.t 8)⟩,
    ⟨(some 10), none, none, .mks false 2 32 (.agg [.bool false, .sl []]) (.c (.p (.int .i64 0))) (.t 9)⟩,
    ⟨(some 5), none, none, .mv (.t 10)⟩] none)
  (.seq (.seq (.reg [⟨(some 11), none, none, .mv (.t 0)⟩,
    ⟨(some 12), none, none, .len (.t 11)⟩,
    ⟨(some 13), none, none, .mv (.c (.p (.int .i64 0)))⟩] none)
  (.fg [1, 5, 11, 12, 13] (.block 0
  (.loop (.fg [1, 5, 11, 12, 13]
    (.seq (.reg [⟨(some 14), none, none, .bin .lss (.t 13) (.t 12)⟩] none)
      (.seq (.cond (.t 14)
        .skip
        (.exit 0))
      (.fg [1, 5, 11, 12, 13] (.seq (.block 1
      (.seq (.reg [⟨(some 15), none, none, .indexA 2 (.t 11) (.t 13)⟩,
    ⟨(some 16), none, none, .load true 2 (.t 15)⟩,
    ⟨(some 7), none, none, .alloc [.p (.bool false), .nils]⟩,
    ⟨none, none, none, .store 2 (.t 7) (.t 16)⟩] none)
        (.reg [⟨(some 17), none, none, .mv (.t 5)⟩,
    ⟨(some 18), none, none, .mv (.t 1)⟩,
    ⟨(some 19), none, none, .load true 2 (.t 7)⟩,
    ⟨(some 20), none, none, .callv .cell (.t 18) [.t 19]⟩,
    ⟨(some 21), none, none, .bslice 2 [.t 20]⟩,
    ⟨(some 22), none, none, .append 2 32 (.t 17) (.t 21)⟩,
    ⟨(some 5), none, none, .mv (.t 22)⟩] none)))
      (.fg [1, 5, 11, 12, 13] (.reg [⟨(some 23), none, none, .bin .add (.t 13) (.c (.p (.int .i64 1)))⟩,
    ⟨(some 13), none, none, .mv (.t 23)⟩] none)))))))))))
  (.seq (.reg [⟨(some 24), none, none, .mv (.t 5)⟩,
    ⟨(some 4), none, none, .mv (.t 24)⟩] none)
  .ret)))),
  [.t 4]⟩

theorem c116 : chkF Try.prog 116 f116 = true := by kernel_rfl

/-- trammel/trammellaw20.eq -/
def f118 : RFun := ⟨(.seq (.reg [⟨(some 2), none, none, .box (.t 0)⟩,
    ⟨(some 3), none, none, .box (.t 1)⟩,
    ⟨(some 4), none, none, .mv (.c (.p (.bool false)))⟩] none)
  (.seq (.seq (.reg [⟨(some 6), none, none, .fieldA 0 (.t 2)⟩,
    ⟨(some 7), none, none, .load false 1 (.t 6)⟩,
    ⟨(some 8), none, none, .fieldA 0 (.t 3)⟩,
    ⟨(some 9), none, none, .load false 1 (.t 8)⟩,
    ⟨(some 10), none, none, .beq true (.t 7) (.t 9)⟩,
    ⟨(some 11), none, none, .mv (.t 10)⟩,
    ⟨(some 12), (some (11, false)), none, .fieldA 1 (.t 2)⟩,
    ⟨(some 13), (some (11, false)), none, .load false 1 (.t 12)⟩,
    ⟨(some 14), (some (11, false)), none, .len (.t 13)⟩,
    ⟨(some 15), (some (11, false)), none, .fieldA 1 (.t 3)⟩,
    ⟨(some 16), (some (11, false)), none, .load false 1 (.t 15)⟩,
    ⟨(some 17), (some (11, false)), none, .len (.t 16)⟩,
    ⟨(some 18), (some (11, false)), none, .bin .neq (.t 14) (.t 17)⟩,
    ⟨(some 19), none, none, .pick (.t 11) (.c (.p (.bool true))) (.t 18)⟩] none)
  (.fg [2, 3, 19] (.cond (.t 19)
    (.seq (.reg [⟨(some 4), none, none, .mv (.c (.p (.bool false)))⟩] none)
    .ret)
    .skip)))
  (.seq (.seq (.reg [⟨(some 5), none, none, .mv (.c (.p (.int .i64 0)))⟩] none)
  (.fg [2, 3, 5] (.block 0
  (.loop (.fg [2, 3, 5]
    (.seq (.seq (.reg [⟨(some 20), none, none, .mv (.t 5)⟩,
    ⟨(some 21), none, none, .fieldA 1 (.t 2)⟩,
    ⟨(some 22), none, none, .load false 1 (.t 21)⟩,
    ⟨(some 23), none, none, .len (.t 22)⟩,
    ⟨(some 24), none, none, .bin .lss (.t 20) (.t 23)⟩] none)
      (.fg [2, 3, 5, 24] (.cond (.t 24)
        .skip
        (.exit 0))))
      (.seq (.block 1
      (.seq (.reg [⟨(some 27), none, none, .fieldA 1 (.t 2)⟩,
    ⟨(some 28), none, none, .load false 1 (.t 27)⟩,
    ⟨(some 29), none, none, .mv (.t 5)⟩,
    ⟨(some 30), none, none, .indexA 1 (.t 28) (.t 29)⟩,
    ⟨(some 31), none, none, .load false 1 (.t 30)⟩,
    ⟨(some 32), none, none, .fieldA 1 (.t 3)⟩,
    ⟨(some 33), none, none, .load false 1 (.t 32)⟩,
    ⟨(some 34), none, none, .mv (.t 5)⟩,
    ⟨(some 35), none, none, .indexA 1 (.t 33) (.t 34)⟩,
    ⟨(some 36), none, none, .load false 1 (.t 35)⟩,
    ⟨(some 37), none, none, .bin .neq (.t 31) (.t 36)⟩] (some (0, [])))
        (.fg [2, 3, 5, 37] (.cond (.t 37)
          (.seq (.reg [⟨(some 4), none, none, .mv (.c (.p (.bool false)))⟩] none)
          .ret)
          .skip))))
      (.fg [2, 3, 5] (.reg [⟨(some 25), none, none, .mv (.t 5)⟩,
    ⟨(some 26), none, none, .bin .add (.t 25) (.c (.p (.int .i64 1)))⟩,
    ⟨(some 5), none, none, .mv (.t 26)⟩] none)))))))))
  (.seq (.reg [⟨(some 4), none, none, .mv (.c (.p (.bool true)))⟩] none)
  .ret)))),
  [.t 4]⟩

theorem c118 : chkF Try.prog 118 f118 = true := by kernel_rfl

/-- trammel/mat.Times$1 -/
def f120 : RFun := ⟨(.seq (.reg [⟨(some 2), none, none, .box (.t 0)⟩,
    ⟨(some 3), none, none, .alloc [.p (.bool false), .nils]⟩] none)
  (.seq (.reg [⟨(some 4), none, none, .load true 2 (.t 1)⟩,
    ⟨(some 5), none, none, .load true 2 (.t 2)⟩,
    ⟨(some 6), none, none, .call .pu 63 [.t 4, .t 5]⟩,
    ⟨none, none, none, .store 2 (.t 3) (.t 6)⟩] none)
  .ret)),
  [.cell 3 true 2]⟩

theorem c120 : chkF Try.prog 120 f120 = true := by kernel_rfl

end Go.Proofs.Ytdieenbfdeaffaa.VTm

namespace Go.Proofs.Ytdieenbfdeaffaa.VTm
open Go Vpi
set_option maxRecDepth 100000

def tab : List (Nat × RFun) := [(8, f8), (28, f28), (29, f29), (30, f30), (31, f31), (32, f32), (33, f33), (34, f34), (35, f35), (36, f36), (70, f70), (71, f71), (72, f72), (73, f73), (74, f74), (75, f75), (76, f76), (78, f78), (94, f94), (114, f114), (115, f115), (116, f116), (118, f118), (120, f120)]

def rp : RProg := fun f => match VBn.rp f with | some rf => some rf | none => (tab.find? fun x => x.1 == f).map (·.2)

theorem all_ok : (tab.all fun x => chkF Try.prog x.1 x.2) = true := by
  simp only [tab, List.all_cons, List.all_nil, c8, c28, c29, c30, c31, c32, c33, c34, c35, c36, c70, c71, c72, c73, c74, c75, c76, c78, c94, c114, c115, c116, c118, c120, Bool.and_self]

theorem base_le : TabLe VBn.rp rp := by
  intro f rf h
  simp only [rp, h]

theorem rp_ok : ∀ f rf, rp f = some rf → chkF Try.prog f rf = true := by
  intro f rf h
  unfold rp at h
  split at h
  · rename_i h1
    cases h
    exact VBn.rp_ok _ _ h1
  · rw [Option.map_eq_some_iff] at h
    obtain ⟨x, hx, rfl⟩ := h
    have h1 := List.find?_some hx
    have h2 := List.mem_of_find?_eq_some hx
    have h3 := List.all_eq_true.1 all_ok x h2
    have h4 : x.1 = f := by simpa using h1
    rw [← h4]; exact h3

theorem mixed : Try.prog.follows .mixedOrders = true := VBn.mixed

theorem sim (m : Nat) : CallSim Try.prog (runF rp m) := callSim mixed rp_ok m

end Go.Proofs.Ytdieenbfdeaffaa.VTm

namespace Go.Proofs.Ytdieenbfdeaffaa.VTm
open Go Vpi
open VBn hiding rp tab rp_ok all_ok mixed sim Big
set_option maxRecDepth 100000
set_option linter.unusedSimpArgs false
set_option linter.unusedVariables false

theorem rp116 : rp 116 = some f116 := rfl
theorem rp114 : rp 114 = some f114 := rfl
theorem rp115 : rp 115 = some f115 := rfl
theorem rp94 : rp 94 = some f94 := rfl
theorem rp70 : rp 70 = some f70 := rfl
theorem rp78 : rp 78 = some f78 := rfl
theorem rp120 : rp 120 = some f120 := rfl

/-! ### stores that grow -/

/-- what stood stays -/
structure Pre (σ ρ : Store) : Prop where
  len : σ.length ≤ ρ.length
  get : ∀ j, j < σ.length → ρ[j]? = σ[j]?

section
variable {σ ρ : Store} {c : CV} {sz : Nat} {es : List PV}
theorem Pre.refl : Pre σ σ := ⟨Nat.le_refl _, fun _ _ => rfl⟩
theorem Pre.push (h : Pre σ ρ) {l : Store} : Pre σ (ρ ++ l) := ⟨by rw [List.length_append]; exact Nat.le_trans h.len (Nat.le_add_right _ _), fun j hj => by rw [get_left (Nat.lt_of_lt_of_le hj h.len), h.get j hj]⟩
theorem Pre.set (h : Pre σ ρ) {b : Nat} {x : Blk} (hb : σ.length ≤ b) : Pre σ (ρ.set b x) := ⟨by rw [List.length_set]; exact h.len, fun j hj => by rw [get_ne (by omega), h.get j hj]⟩
theorem Pre.nd (h : Pre σ ρ) (hc : ∀ b o n, c = .own b o n → σ.length ≤ b) : Pre σ (nd ρ c) := by
  cases c <;> try exact h
  exact h.set (hc _ _ _ rfl)
theorem Pre.trans {τ : Store} (h : Pre σ ρ) (k : Pre ρ τ) : Pre σ τ := ⟨Nat.le_trans h.len k.len, fun j hj => by rw [k.get j (Nat.lt_of_lt_of_le hj h.len), h.get j hj]⟩
theorem Pre.take (h : Pre σ ρ) : ρ.take σ.length = σ := by
  apply List.ext_getElem?
  intro j
  rw [List.getElem?_take]
  split
  · exact h.get j (by assumption)
  · rw [List.getElem?_eq_none (by omega)]
theorem Pre.nil : Pre [] ρ := ⟨Nat.zero_le _, fun j hj => by simp at hj⟩
theorem nd_left {l : Store} (h : GL ρ sz c es) : nd (ρ ++ l) c = nd ρ c ++ l := by
  have hlt := h.lt.2
  cases c <;> try rfl
  exact set_left (hlt _ _ _ rfl)

theorem back_ge {b : Nat} {n base : Nat} (hb : ρ[b]? = some (.prow sz es)) (hn : n = es.length) (h : base ≤ b) : back base ρ (.own b 0 n) = some (.p (.sl es)) := by
  have h1 : ¬ b < base := by omega
  simp only [back, back1, h1, if_false, frz1_own hb hn, Option.map_some]

section
variable {rp : RProg} {rs : List RRes} {base : Nat} {d : Option Nat} {l : List LOp} {dr : Dr} {ks : List KI} {e : Env} {Q : CV → Store → Prop} {xs : List PV}

/-- append of what bslice just laid, behind another block -/
theorem r_app_1 {a : Blk} {s x : Opd} {bytes : Nat} (h : GL ρ sz c es) (hc : (es.length + xs.length) * bytes ≤ 140737488355328) (hs : vl e s = c) (hx : vl e x = .own (ρ.length + 1) 0 xs.length) (hz : allSz sz xs = true) :
    ExR rp rs base (⟨d, none, none, .append sz bytes s x⟩ :: l) dr ks e (ρ ++ [a, .prow sz xs]) Q = ExR rp rs base l dr ks (sto d (.own (ρ.length + 2) 0 (es.length + xs.length)) e) (nd ρ c ++ [a, .prow sz xs, .prow sz (es ++ xs)]) Q := by
  have hl : (ρ ++ [a]).length = ρ.length + 1 := by simp
  have := r_app (rp := rp) (rs := rs) (base := base) (d := d) (l := l) (dr := dr) (ks := ks) (e := e) (Q := Q) (s := s) (x := x) (h.left (τ := [a])) hc hs (by rw [hl]; exact hx) hz
  rw [hl, nd_left h, List.append_assoc, List.append_assoc] at this
  exact this

theorem kc_full' {f : Nat} {args : List CV} (h : Rn rp f args σ fun v τ => ((τ.take σ.length).all (blkBelow σ.length)) = true ∧ ∃ r, back σ.length τ v = some r ∧ ExR rp rs base l dr ks (sto d r e) (τ.take σ.length) Q) :
    KC rp rs base .full f args d l dr ks e σ Q := cl_full h
end
end

/-! ### lists of numbers -/

def zr (r : List Int) : List PV := r.map zi
def zm (M : List (List Int)) : List PV := M.map fun r => .sl (zr r)
theorem zr_len {r : List Int} : (zr r).length = r.length := by simp [zr]
theorem zm_len {M : List (List Int)} : (zm M).length = M.length := by simp [zm]
theorem zr_get {r : List Int} {i : Nat} {x : Int} (h : r[i]? = some x) : (zr r)[i]? = some (zi x) := by simp [zr, h]
theorem zm_get {M : List (List Int)} {i : Nat} {r : List Int} (h : M[i]? = some r) : (zm M)[i]? = some (.sl (zr r)) := by simp [zm, h]
theorem zr_app {r s : List Int} : zr (r ++ s) = zr r ++ zr s := by simp [zr]
theorem zm_app {r s : List (List Int)} : zm (r ++ s) = zm r ++ zm s := by simp [zm]
theorem zm_set {M : List (List Int)} {i : Nat} {r : List Int} : (zm M).set i (.sl (zr r)) = zm (M.set i r) := by simp [zm, List.map_set]
theorem take_suc {α : Type} {l : List α} {i : Nat} {x : α} (h : l[i]? = some x) : l.take (i + 1) = l.take i ++ [x] := by
  obtain ⟨h1, h2⟩ := List.getElem?_eq_some_iff.1 h
  rw [List.take_add_one, h]; rfl
theorem zr_suc {r : List Int} {i : Nat} {x : Int} (h : r[i]? = some x) : zr (r.take (i + 1)) = zr (r.take i) ++ [zi x] := by rw [take_suc h, zr_app]; rfl
theorem zm_suc {M : List (List Int)} {i : Nat} {r : List Int} (h : M[i]? = some r) : zm (M.take (i + 1)) = zm (M.take i) ++ [.sl (zr r)] := by rw [take_suc h, zm_app]; rfl

/-- the numbers of a row -/
def NL (r : List PV) (xs : List Int) : Prop := r.length = xs.length ∧ ∀ (i : Nat) (p : PV) (x : Int), r[i]? = some p → xs[i]? = some x → Nu p x
/-- the numbers of a matrix -/
def ML (b : List PV) (M : List (List Int)) : Prop := b.length = M.length ∧ ∀ (i : Nat) (p : PV) (r : List Int), b[i]? = some p → M[i]? = some r → ∃ q, p = .sl q ∧ NL q r ∧ q.length ≤ 2000000

theorem NL.ix {r : List PV} {xs : List Int} (h : NL r xs) {i : Nat} (hi : i < r.length) : ∃ p x, r[i]? = some p ∧ xs[i]? = some x ∧ Nu p x := by
  have h2 : i < xs.length := by rw [← h.1]; exact hi
  exact ⟨r[i], xs[i], by simp, by simp, h.2 i _ _ (by simp) (by simp)⟩
theorem ML.ix {b : List PV} {M : List (List Int)} (h : ML b M) {i : Nat} (hi : i < b.length) : ∃ q r, b[i]? = some (.sl q) ∧ M[i]? = some r ∧ NL q r ∧ q.length ≤ 2000000 := by
  have h2 : i < M.length := by rw [← h.1]; exact hi
  obtain ⟨q, h3, h4, h5⟩ := h.2 i b[i] M[i] (by simp) (by simp)
  exact ⟨q, M[i], by rw [← h3]; simp, by simp, h4, h5⟩
def SzL (r : List Int) : Prop := ∀ (i : Nat) (x : Int), r[i]? = some x → Sz x
theorem NL.zr {r : List Int} (h : SzL r) : NL (zr r) r := by
  refine ⟨zr_len, fun i p x hp hx => ?_⟩
  rw [zr_get hx] at hp
  cases hp
  exact Nu.zi (h i x hx)
theorem ML.zm {M : List (List Int)} (h : ∀ (i : Nat) (r : List Int), M[i]? = some r → SzL r ∧ r.length ≤ 2000000) : ML (zm M) M := by
  refine ⟨zm_len, fun i p r hp hr => ?_⟩
  rw [zm_get hr] at hp
  cases hp
  exact ⟨_, rfl, .zr (h i r hr).1, by rw [zr_len]; exact (h i r hr).2⟩

/-! ### each -/

/-- what a closure does with a number: the store stays -/
def Does (σ : Store) (g : Nat) (cap : List CV) (p : PV) (y : Int) : Prop :=
  ∀ (ρ : Store), Pre σ ρ → ∀ {rs : List RRes} {base : Nat} {d : Option Nat} {l : List LOp} {dr : Dr} {ks : List KI} {e : Env} {Q : CV → Store → Prop},
    KC rp rs base .cell g (.p p :: cap) d l dr ks e ρ Q = ExR rp rs base l dr ks (sto d (.p (zi y)) e) ρ Q

theorem n116 {σ : Store} {g : Nat} {cap : List CV} {r : List PV} {ys : List Int} (hw : Wf σ) (hl : r.length = ys.length) (hm : r.length ≤ 2000000)
    (hg : ∀ i, i < r.length → ∃ p y, r[i]? = some p ∧ ys[i]? = some y ∧ (∃ a b, p = .agg [.bool a, .sl b]) ∧ Does σ g cap p y) {Q : CV → Store → Prop}
    (hQ : ∀ ρ b, Pre σ ρ → Wf ρ → σ.length ≤ b → ρ[b]? = some (.prow 2 (zr ys)) → Q (.own b 0 ys.length) ρ) : Rn rp 116 [.p (.sl r), .fn g cap] σ Q := by
  rw [rn_of rp116]
  have m1 : ((32 : Nat) : Int) * (r.length : Int) ≤ 281474976710656 := by omega
  have m2 : (r.length : Int) ≤ 9223372036854775807 := by omega
  have i0 : Int.toNat 0 = 0 := rfl
  simp only [f116, args0, S1, S2, S3, S4, S5, r_idx, r_mks, ev, resultsV, resL, resV, vl, gt, st, sto, fgt, i64, subCV, fill, setCells, mkAgg, allP, frz, frz1, frzL, frzs, kill, kill1, killL, kills, bnd, unV, bsz, toPs, toP, isPure1, pureL, List.elem, List.replicate, Int.reduceLE, Int.reduceLT, ↓reduceIte, reduceCtorEq, Nat.reduceLT, Nat.reduceEqDiff, Nat.reduceAdd, Nat.reduceMul, Nat.reduceLeDiff, Nat.reduceBEq, Int.natCast_nonneg, m1, m2, i0, Int.le_refl]
  refine loop_rule (β := Nat × Store × Nat) (fun t => ([(1, .fn g cap), (5, .own t.2.2 0 t.1), (11, .p (.sl r)), (12, i64 r.length), (13, i64 t.1)], t.2.1))
    (fun t => t.1 ≤ r.length ∧ Pre σ t.2.1 ∧ Wf t.2.1 ∧ σ.length ≤ t.2.2 ∧ t.2.1[t.2.2]? = some (.prow 2 (zr (ys.take t.1)))) (fun t => r.length - t.1) ((0, σ ++ [.prow 2 []], σ.length) : Nat × Store × Nat) rfl rfl
    ⟨Nat.zero_le _, Pre.refl.push, hw.push rfl, Nat.le_refl _, by rw [get_app0]; rfl⟩ ?_
  rintro ⟨i, ρ, b⟩ ⟨hi, hp, hwf, hb, hgl⟩ ih
  simp only [] at hi hp hwf hb hgl ih ⊢
  by_cases hin : (i : Int) < r.length
  · obtain ⟨p, y, hpi, hyi, ⟨a1, a2, rfl⟩, hd⟩ := hg i (by omega)
    have w1 : IntKind.i64.wrap ((i : Int) + 1) = ((i + 1 : Nat) : Int) := by rw [IntWalk.i64_in _ (by omega)]; omega
    have htl : (zr (ys.take i)).length = i := by rw [zr_len, List.length_take]; omega
    have hG : GL ρ 2 (.own b 0 i) (zr (ys.take i)) := .own hgl htl.symm
    have hc : ((zr (ys.take i)).length + [zi y].length) * 32 ≤ 140737488355328 := by rw [htl]; simp; omega
    have hd' := fun {rs base d l dr ks e Q} => hd (ρ ++ [.kblk 2 [.p (.bool a1), .p (.sl a2)]]) hp.push (rs := rs) (base := base) (d := d) (l := l) (dr := dr) (ks := ks) (e := e) (Q := Q)
    have hA := fun {rp rs base d l dr ks e Q s x} => r_app_1 (rp := rp) (rs := rs) (base := base) (d := d) (l := l) (dr := dr) (ks := ks) (e := e) (Q := Q) (s := s) (x := x) (a := .kblk 2 [.p (.bool a1), .p (.sl a2)]) hG hc
    simp only [S1, S2, S3, S4, S5, r_idx, r_mks, ev, resultsV, resL, resV, vl, gt, st, sto, fgt, i64, subCV, fill, setCells, mkAgg, allP, frz, frz1, frzL, frzs, kill, kill1, killL, kills, bnd, unV, bsz, toPs, toP, isPure1, pureL, List.elem, List.replicate, Int.reduceLE, Int.reduceLT, ↓reduceIte, reduceCtorEq, Nat.reduceLT, Nat.reduceEqDiff, Nat.reduceAdd, Nat.reduceMul, Nat.reduceLeDiff, Nat.reduceBEq, hin, hpi, Int.natCast_nonneg, Int.toNat_natCast, hd', hA, ← zr_suc hyi, htl, w1, nd]
    refine ih (i + 1, ρ.set b .dead ++ [.kblk 2 [.p (.bool a1), .p (.sl a2)], .prow 2 [zi y], .prow 2 (zr (ys.take (i + 1)))], ρ.length + 2) _ ⟨by simp only []; omega, (hp.set hb).push, ?_, ?_, ?_⟩ (by simp only []; omega) ?_
    · have h1 := (((hwf.set (b := b) (x := .dead) rfl).push (x := .kblk 2 [.p (.bool a1), .p (.sl a2)]) rfl).push (x := .prow 2 [zi y]) rfl).push (x := .prow 2 (zr (ys.take (i + 1)))) rfl
      simpa [List.append_assoc] using h1
    · simp only []; exact Nat.le_trans hp.len (Nat.le_add_right _ _)
    · simp only []
      rw [show ρ.length + 2 = (ρ.set b Blk.dead).length + 2 by rw [List.length_set], get_app]; rfl
    · rfl
  · obtain rfl : i = r.length := by omega
    simp only [S1, S2, S3, S4, S5, r_idx, r_mks, ev, resultsV, resL, resV, vl, gt, st, sto, fgt, i64, subCV, fill, setCells, mkAgg, allP, frz, frz1, frzL, frzs, kill, kill1, killL, kills, bnd, unV, bsz, toPs, toP, isPure1, pureL, List.elem, List.replicate, Int.reduceLE, Int.reduceLT, ↓reduceIte, reduceCtorEq, Nat.reduceLT, Nat.reduceEqDiff, Nat.reduceAdd, Nat.reduceMul, Nat.reduceLeDiff, Nat.reduceBEq, hin]
    rw [List.take_of_length_le (by omega)] at hgl
    rw [hl]
    exact hQ ρ b hp hwf hb hgl

theorem does0 {σ : Store} {g : Nat} {p : PV} {y : Int} (h : Pu rp g [p] (.p (zi y))) : Does σ g [] p y := by
  intro ρ _ rs base d l dr ks e Q
  exact kc_cell0 h rfl rfl

theorem p94 {p : PV} {x : Int} (h : Nu p x) : Pu rp 94 [p] (.p (zi x)) := by
  obtain ⟨n1, a, rfl, ha, hna, rfl⟩ := h
  refine pu_of rp94 ?_
  rw [CapN_eq] at hna
  have k := (p105 (neg := n1) ha (by omega)).lift base_le
  rw [mk_val] at k
  simp only [f94, args0, S1, S2, S3, S4, S5, r_idx, r_mks, ev, resultsV, resL, resV, vl, gt, st, sto, fgt, i64, subCV, fill, setCells, mkAgg, allP, frz, frz1, frzL, frzs, kill, kill1, killL, kills, bnd, unV, bsz, toPs, toP, isPure1, pureL, List.elem, List.replicate, Int.reduceLE, Int.reduceLT, ↓reduceIte, reduceCtorEq, Nat.reduceLT, Nat.reduceEqDiff, Nat.reduceAdd, Nat.reduceMul, Nat.reduceLeDiff, Nat.reduceBEq, kp2 k]
  rfl

theorem Nu.agg {p : PV} {x : Int} (h : Nu p x) : ∃ a b, p = .agg [.bool a, .sl b] := by
  obtain ⟨n1, a, rfl, -⟩ := h
  exact ⟨_, _, rfl⟩

theorem n115 {r : List PV} {xs : List Int} {σ : Store} (hw : Wf σ) (h : NL r xs) (hm : r.length ≤ 2000000) {Q : CV → Store → Prop}
    (hQ : ∀ ρ b, Pre σ ρ → Wf ρ → σ.length ≤ b → ρ[b]? = some (.prow 2 (zr xs)) → Q (.own b 0 xs.length) ρ) : Rn rp 115 [.p (.sl r)] σ Q := by
  rw [rn_of rp115]
  simp only [f115, args0, S1, S2, S3, S4, S5, r_idx, r_mks, ev, resultsV, resL, resV, vl, gt, st, sto, fgt, i64, subCV, fill, setCells, mkAgg, allP, frz, frz1, frzL, frzs, kill, kill1, killL, kills, bnd, unV, bsz, toPs, toP, isPure1, pureL, List.elem, List.replicate, Int.reduceLE, Int.reduceLT, ↓reduceIte, reduceCtorEq, Nat.reduceLT, Nat.reduceEqDiff, Nat.reduceAdd, Nat.reduceMul, Nat.reduceLeDiff, Nat.reduceBEq]
  refine kc_keep' (n116 hw h.1 hm (fun i hi => ?_) fun ρ b hp hwf hb hg => ?_)
  · obtain ⟨p, x, h1, h2, h3⟩ := h.ix hi
    exact ⟨p, x, h1, h2, Nu.agg h3, does0 (p94 h3)⟩
  · simp only [S1, S2, S3, S4, S5, r_idx, r_mks, ev, resultsV, resL, resV, vl, gt, st, sto, fgt, i64, subCV, fill, setCells, mkAgg, allP, frz, frz1, frzL, frzs, kill, kill1, killL, kills, bnd, unV, bsz, toPs, toP, isPure1, pureL, List.elem, List.replicate, Int.reduceLE, Int.reduceLT, ↓reduceIte, reduceCtorEq, Nat.reduceLT, Nat.reduceEqDiff, Nat.reduceAdd, Nat.reduceMul, Nat.reduceLeDiff, Nat.reduceBEq]
    exact hQ ρ b hp hwf hb hg

/-! ### a list of blocks -/

/-- rows in blocks of their own, none of them twice -/
structure RowsAt (ρ : Store) (lo : Nat) (cs : List CV) (M : List (List Int)) : Prop where
  len : cs.length = M.length
  own : ∀ (j : Nat) (r : List Int), M[j]? = some r → ∃ b, cs[j]? = some (.own b 0 r.length) ∧ lo ≤ b ∧ ρ[b]? = some (.prow 2 (zr r))
  ne : ∀ (j j' b b' n n' : Nat), j < j' → cs[j]? = some (.own b 0 n) → cs[j']? = some (.own b' 0 n') → b ≠ b'

theorem RowsAt.nil {ρ : Store} {lo : Nat} : RowsAt ρ lo [] [] := ⟨rfl, by simp, by simp⟩

theorem RowsAt.mono {ρ τ : Store} {lo : Nat} {cs : List CV} {M : List (List Int)} (h : RowsAt ρ lo cs M) (hp : ∀ (b : Nat) es, ρ[b]? = some (.prow 2 es) → τ[b]? = some (.prow 2 es)) : RowsAt τ lo cs M :=
  ⟨h.len, fun j r hr => by obtain ⟨b, h1, h2, h3⟩ := h.own j r hr; exact ⟨b, h1, h2, hp b _ h3⟩, h.ne⟩

theorem RowsAt.snoc {ρ : Store} {lo b : Nat} {cs : List CV} {M : List (List Int)} {r : List Int} (h : RowsAt ρ lo cs M) (hlo : lo ≤ b) (hb : ρ[b]? = some (.prow 2 (zr r))) (hne : ∀ (j b' n : Nat), cs[j]? = some (.own b' 0 n) → b' ≠ b) :
    RowsAt ρ lo (cs ++ [.own b 0 r.length]) (M ++ [r]) := by
  refine ⟨by simp [h.len], fun j r' hr => ?_, fun j j' b1 b2 n n' hj h1 h2 => ?_⟩
  · rcases Nat.lt_or_ge j M.length with hjl | hjl
    · rw [List.getElem?_append_left hjl] at hr
      obtain ⟨b', h1, h2, h3⟩ := h.own j r' hr
      exact ⟨b', by rw [List.getElem?_append_left (by rw [h.len]; exact hjl)]; exact h1, h2, h3⟩
    · rw [List.getElem?_append_right hjl] at hr
      have h0 : j - M.length = 0 := by
        have := (List.getElem?_eq_some_iff.1 hr).1
        simp at this; omega
      rw [h0] at hr
      cases hr
      refine ⟨b, ?_, hlo, hb⟩
      rw [List.getElem?_append_right (by rw [h.len]; exact hjl), h.len, h0]; rfl
  · have hj2 : j' < cs.length + 1 := by simpa using (List.getElem?_eq_some_iff.1 h2).1
    rw [List.getElem?_append_left (by omega)] at h1
    rcases Nat.lt_or_ge j' cs.length with hjl | hjl
    · rw [List.getElem?_append_left hjl] at h2
      exact h.ne j j' b1 b2 n n' hj h1 h2
    · rw [List.getElem?_append_right hjl, show j' - cs.length = 0 by omega] at h2
      simp only [List.getElem?_cons_zero, Option.some.injEq, CV.own.injEq] at h2
      rw [← h2.1]
      exact hne j b1 n h1

section
variable {rp : RProg} {rs : List RRes} {base : Nat} {d : Option Nat} {l : List LOp} {dr : Dr} {ks : List KI} {e : Env} {σ ρ : Store} {Q : CV → Store → Prop}

theorem contK_own {b n : Nat} {cs : List CV} (h : σ[b]? = some (.kblk 1 cs)) (hn : n = cs.length) : contentK σ (.own b 0 n) = some cs := by
  subst hn
  simp [contentK, h]

/-- append of what bslk just laid -/
theorem r_appk_1 {a k n : Nat} {cs xs : List CV} {s x : Opd} {bytes : Nat} (hk : ρ[k]? = some (.kblk 1 cs)) (hn : n = cs.length) (hx0 : 0 < xs.length) (hc : (cs.length + xs.length) * bytes ≤ 140737488355328) (hs : vl e s = .own k 0 n) (hx : vl e x = .own ρ.length 0 xs.length) :
    ExR rp rs base (⟨d, none, none, .appk bytes s x⟩ :: l) dr ks e (ρ ++ [.kblk 1 xs]) Q = ExR rp rs base l dr ks (sto d (.own (ρ.length + 1) 0 (cs.length + xs.length)) e) (ρ.set k .dead ++ [.kblk 1 xs, .kblk 1 (cs ++ xs)]) Q := by
  rw [r_appk]
  have hlt := (List.getElem?_eq_some_iff.1 hk).1
  have h1 : contentK (ρ ++ [.kblk 1 xs]) (vl e s) = some cs := by rw [hs]; exact contK_own (by rw [List.getElem?_append_left hlt]; exact hk) hn
  have h2 : contentK (ρ ++ [.kblk 1 xs]) (vl e x) = some xs := by rw [hx]; exact contK_own (by simp) rfl
  simp only [ev, h1, h2]
  rw [if_pos ⟨hc, hx0⟩, hs]
  simp only [push_none, Option.map_some, ke_some, List.length_append, List.length_set, List.length_cons, List.length_nil, Nat.zero_add]
  rw [List.set_append_left _ _ hlt, List.append_assoc]
  rfl

end

theorem below_owns {ρ : Store} {lo m : Nat} {cs : List CV} {M : List (List Int)} (h : RowsAt ρ lo cs M) (hm : ρ.length ≤ m) : (cs.all (below1 m)) = true := by
  rw [List.all_eq_true]
  intro x hx
  obtain ⟨j, hj⟩ := List.getElem?_of_mem hx
  have hjl : j < M.length := by rw [← h.len]; exact (List.getElem?_eq_some_iff.1 hj).1
  obtain ⟨b, h1, _, h3⟩ := h.own j M[j] (by simp [hjl])
  rw [h1] at hj
  cases hj
  have := (List.getElem?_eq_some_iff.1 h3).1
  simp only [below1, decide_eq_true_eq]
  omega

/-- mat.Form: rows in blocks of their own -/
theorem n70 {b : List PV} {M : List (List Int)} {σ : Store} (hw : Wf σ) (h : ML b M) (hm : b.length ≤ 2000000) {Q : CV → Store → Prop}
    (hQ : ∀ ρ k cs, Pre σ ρ → Wf ρ → σ.length ≤ k → ρ[k]? = some (.kblk 1 cs) → RowsAt ρ σ.length cs M → Q (.own k 0 M.length) ρ) : Rn rp 70 [.p (.sl b)] σ Q := by
  rw [rn_of rp70]
  simp only [f70, args0, S1, S2, S3, S4, S5, r_idx, r_mks, ev, resultsV, resL, resV, vl, gt, st, sto, fgt, i64, subCV, fill, setCells, mkAgg, allP, frz, frz1, frzL, frzs, kill, kill1, killL, kills, bnd, unV, bsz, toPs, toP, isPure1, pureL, List.elem, List.replicate, Int.reduceLE, Int.reduceLT, ↓reduceIte, reduceCtorEq, Nat.reduceLT, Nat.reduceEqDiff, Nat.reduceAdd, Nat.reduceMul, Nat.reduceLeDiff, Nat.reduceBEq]
  refine kc_keep' ?_
  rw [rn_of rp114]
  have m1 : ((24 : Nat) : Int) * (b.length : Int) ≤ 281474976710656 := by omega
  have m2 : (b.length : Int) ≤ 9223372036854775807 := by omega
  have i0 : Int.toNat 0 = 0 := rfl
  simp only [f114, args0, S1, S2, S3, S4, S5, r_idx, r_mks, ev, resultsV, resL, resV, vl, gt, st, sto, fgt, i64, subCV, fill, setCells, mkAgg, allP, frz, frz1, frzL, frzs, kill, kill1, killL, kills, bnd, unV, bsz, toPs, toP, isPure1, pureL, List.elem, List.replicate, Int.reduceLE, Int.reduceLT, ↓reduceIte, reduceCtorEq, Nat.reduceLT, Nat.reduceEqDiff, Nat.reduceAdd, Nat.reduceMul, Nat.reduceLeDiff, Nat.reduceBEq, Int.natCast_nonneg, m1, m2, i0, Int.le_refl]
  refine loop_rule (β := Nat × Store × Nat × List CV) (fun t => ([(1, .fn 115 []), (5, .own t.2.2.1 0 t.1), (11, .p (.sl b)), (12, i64 b.length), (13, i64 t.1)], t.2.1))
    (fun t => t.1 ≤ b.length ∧ Pre σ t.2.1 ∧ Wf t.2.1 ∧ σ.length ≤ t.2.2.1 ∧ t.2.1[t.2.2.1]? = some (.kblk 1 t.2.2.2) ∧ RowsAt t.2.1 σ.length t.2.2.2 (M.take t.1)) (fun t => b.length - t.1) ((0, σ ++ [.kblk 1 []], σ.length, []) : Nat × Store × Nat × List CV) rfl rfl
    ⟨Nat.zero_le _, Pre.refl.push, hw.push rfl, Nat.le_refl _, by rw [get_app0]; rfl, .nil⟩ ?_
  rintro ⟨i, ρ, k, cs⟩ ⟨hi, hp, hwf, hb, hgl, hro⟩ ih
  simp only [] at hi hp hwf hb hgl hro ih ⊢
  have hl := h.1
  have hcl : cs.length = i := by rw [hro.len, List.length_take]; omega
  by_cases hin : (i : Int) < b.length
  · obtain ⟨q, r, h1, h2, h3, h4⟩ := h.ix (i := i) (by omega)
    have w1 : IntKind.i64.wrap ((i : Int) + 1) = ((i + 1 : Nat) : Int) := by rw [IntWalk.i64_in _ (by omega)]; omega
    simp only [S1, S2, S3, S4, S5, r_idx, r_mks, ev, resultsV, resL, resV, vl, gt, st, sto, fgt, i64, subCV, fill, setCells, mkAgg, allP, frz, frz1, frzL, frzs, kill, kill1, killL, kills, bnd, unV, bsz, toPs, toP, isPure1, pureL, List.elem, List.replicate, Int.reduceLE, Int.reduceLT, ↓reduceIte, reduceCtorEq, Nat.reduceLT, Nat.reduceEqDiff, Nat.reduceAdd, Nat.reduceMul, Nat.reduceLeDiff, Nat.reduceBEq, hin, h1, Int.natCast_nonneg, Int.toNat_natCast]
    refine kc_keep' (n115 hwf h3 h4 fun ρ1 b1 hp1 hw1 hb1 hg1 => ?_)
    have hk1 : ρ1[k]? = some (.kblk 1 cs) := by rw [hp1.get k (List.getElem?_eq_some_iff.1 hgl).1]; exact hgl
    have hc : (cs.length + [CV.own b1 0 r.length].length) * 24 ≤ 140737488355328 := by rw [hcl]; simp; omega
    have hA := fun {rp rs base d l dr ks e Q s x} => r_appk_1 (rp := rp) (rs := rs) (base := base) (d := d) (l := l) (dr := dr) (ks := ks) (e := e) (Q := Q) (a := 0) (s := s) (x := x) (xs := [.own b1 0 r.length]) hk1 hcl.symm (Nat.succ_pos 0) hc
    have hro1 : RowsAt ρ1 σ.length cs (M.take i) := hro.mono fun b es hb => by rw [hp1.get b (List.getElem?_eq_some_iff.1 hb).1]; exact hb
    have hsn : RowsAt ρ1 σ.length (cs ++ [.own b1 0 r.length]) (M.take (i + 1)) := by
      rw [take_suc h2]
      refine hro1.snoc (Nat.le_trans hp.len hb1) hg1 fun j b' n hj => ?_
      have hjl : j < (M.take i).length := by rw [← hro.len]; exact (List.getElem?_eq_some_iff.1 hj).1
      obtain ⟨b2, g1, _, g3⟩ := hro.own j (M.take i)[j] (by simp only [hjl, getElem?_pos])
      rw [hj] at g1
      cases g1
      have := (List.getElem?_eq_some_iff.1 g3).1
      omega
    simp only [S1, S2, S3, S4, S5, r_idx, r_mks, ev, resultsV, resL, resV, vl, gt, st, sto, fgt, i64, subCV, fill, setCells, mkAgg, allP, frz, frz1, frzL, frzs, kill, kill1, killL, kills, bnd, unV, bsz, toPs, toP, isPure1, pureL, List.elem, List.replicate, Int.reduceLE, Int.reduceLT, ↓reduceIte, reduceCtorEq, Nat.reduceLT, Nat.reduceEqDiff, Nat.reduceAdd, Nat.reduceMul, Nat.reduceLeDiff, Nat.reduceBEq, hA, hcl, w1]
    refine ih (i + 1, ρ1.set k .dead ++ [.kblk 1 [.own b1 0 r.length], .kblk 1 (cs ++ [.own b1 0 r.length])], ρ1.length + 1, cs ++ [.own b1 0 r.length]) _ ⟨by simp only []; omega, ((hp.trans hp1).set hb).push, ?_, ?_, ?_, ?_⟩ (by simp only []; omega) ?_
    · have hb1l := (List.getElem?_eq_some_iff.1 hg1).1
      have hz := (hw1.set (b := k) (x := .dead) rfl).push (x := .kblk 1 [.own b1 0 r.length]) (by simp [blkBelow, below1]; omega)
      have hz2 := hz.push (x := .kblk 1 (cs ++ [.own b1 0 r.length])) (by simp only [blkBelow]; exact below_owns hsn (by simp; omega))
      simpa [List.append_assoc] using hz2
    · simp only []; exact Nat.le_trans (Nat.le_trans hp.len hp1.len) (Nat.le_add_right _ _)
    · simp only []
      rw [show ρ1.length + 1 = (ρ1.set k Blk.dead).length + 1 by rw [List.length_set], get_app]; rfl
    · refine hsn.mono fun b es hb => ?_
      have hbl := (List.getElem?_eq_some_iff.1 hb).1
      rw [List.getElem?_append_left (by rw [List.length_set]; exact hbl), List.getElem?_set_ne]
      · exact hb
      · rintro rfl; rw [hk1] at hb; cases hb
    · rfl
  · obtain rfl : i = b.length := by omega
    simp only [S1, S2, S3, S4, S5, r_idx, r_mks, ev, resultsV, resL, resV, vl, gt, st, sto, fgt, i64, subCV, fill, setCells, mkAgg, allP, frz, frz1, frzL, frzs, kill, kill1, killL, kills, bnd, unV, bsz, toPs, toP, isPure1, pureL, List.elem, List.replicate, Int.reduceLE, Int.reduceLT, ↓reduceIte, reduceCtorEq, Nat.reduceLT, Nat.reduceEqDiff, Nat.reduceAdd, Nat.reduceMul, Nat.reduceLeDiff, Nat.reduceBEq, hin]
    rw [List.take_of_length_le (by omega)] at hro
    rw [hl]
    exact hQ ρ k cs hp hwf hb hgl hro

/-! ### Times -/

theorem n120 {a : Bool} {b : List PV} {p : PV} {k x : Int} (hk : Nu (.agg [.bool a, .sl b]) k) (hx : Nu p x) : Rn rp 120 [.p p, .ptr 0 0 0] [.kblk 2 [.p (.bool a), .p (.sl b)]] fun v τ => v = .p (zi (k * x)) ∧ τ[0]? = some (.kblk 2 [.p (.bool a), .p (.sl b)]) := by
  have k63 := (p63' hk hx).lift base_le
  obtain ⟨n1, l1, rfl, -⟩ := hx
  rw [rn_of rp120]
  simp only [f120, args0, S1, S2, S3, S4, S5, r_idx, r_mks, ev, resultsV, resL, resV, vl, gt, st, sto, fgt, i64, subCV, fill, setCells, mkAgg, allP, frz, frz1, frzL, frzs, kill, kill1, killL, kills, bnd, unV, bsz, toPs, toP, isPure1, pureL, List.elem, List.replicate, Int.reduceLE, Int.reduceLT, ↓reduceIte, reduceCtorEq, Nat.reduceLT, Nat.reduceEqDiff, Nat.reduceAdd, Nat.reduceMul, Nat.reduceLeDiff, Nat.reduceBEq, kp2 k63]
  rfl

theorem set_same {α : Type} {l : List α} {i : Nat} {x : α} (h : l[i]? = some x) : l.set i x = l := by
  apply List.ext_getElem?
  intro j
  by_cases hj : i = j
  · subst hj; rw [List.getElem?_set_self (List.getElem?_eq_some_iff.1 h).1, h]
  · rw [List.getElem?_set_ne hj]

theorem p78 {kp : PV} {k : Int} {r : List PV} {xs : List Int} (hk : Nu kp k) (h : NL r xs) (hm : r.length ≤ 2000000) : Pu rp 78 [kp, .sl r] (.p (.sl (zr (xs.map (k * ·))))) := by
  obtain ⟨a, b, rfl⟩ := Nu.agg hk
  refine pu_of rp78 ?_
  simp only [f78, args0, S1, S2, S3, S4, S5, r_idx, r_mks, ev, resultsV, resL, resV, vl, gt, st, sto, fgt, i64, subCV, fill, setCells, mkAgg, allP, frz, frz1, frzL, frzs, kill, kill1, killL, kills, bnd, unV, bsz, toPs, toP, isPure1, pureL, List.elem, List.replicate, Int.reduceLE, Int.reduceLT, ↓reduceIte, reduceCtorEq, Nat.reduceLT, Nat.reduceEqDiff, Nat.reduceAdd, Nat.reduceMul, Nat.reduceLeDiff, Nat.reduceBEq]
  refine kc_full' (n116 (σ := [.kblk 2 [.p (.bool a), .p (.sl b)]]) (ys := xs.map (k * ·)) (Wf.nil.push (x := .kblk 2 [.p (.bool a), .p (.sl b)]) rfl) (by rw [List.length_map]; exact h.1) hm (fun i hi => ?_) fun ρ c hp hwf hb hg => ?_)
  · obtain ⟨p, x, h1, h2, h3⟩ := h.ix hi
    refine ⟨p, k * x, h1, by simp [h2], Nu.agg h3, ?_⟩
    intro ρ hpre rs base d l dr ks e Q
    have h0 : ρ[0]? = some (.kblk 2 [.p (.bool a), .p (.sl b)]) := hpre.get 0 (Nat.lt_succ_self _)
    rw [kc_cell (b := 0) (al := [.p p, .ptr 0 0 0]) rfl h0 rfl rfl (n120 hk h3) rfl, set_same h0]
  · rw [hp.take]
    refine ⟨rfl, _, back_ge hg zr_len.symm hb, ?_⟩
    simp only [S1, S2, S3, S4, S5, r_idx, r_mks, ev, resultsV, resL, resV, vl, gt, st, sto, fgt, i64, subCV, fill, setCells, mkAgg, allP, frz, frz1, frzL, frzs, kill, kill1, killL, kills, bnd, unV, bsz, toPs, toP, isPure1, pureL, List.elem, List.replicate, Int.reduceLE, Int.reduceLT, ↓reduceIte, reduceCtorEq, Nat.reduceLT, Nat.reduceEqDiff, Nat.reduceAdd, Nat.reduceMul, Nat.reduceLeDiff, Nat.reduceBEq]
    rfl

/-! ### Plus, Minus -/
end Go.Proofs.Ytdieenbfdeaffaa.VTm

namespace Go.Proofs.Ytdieenbfdeaffaa.VTm
open Go Vpi
open VBn hiding rp tab rp_ok all_ok mixed sim Big
set_option maxRecDepth 100000
set_option linter.unusedSimpArgs false
set_option linter.unusedVariables false

theorem rp118 : rp 118 = some f118 := rfl
theorem rp76 : rp 76 = some f76 := rfl
theorem rp33 : rp 33 = some f33 := rfl
theorem rp35 : rp 35 = some f35 := rfl
theorem rp72 : rp 72 = some f72 := rfl
theorem rp29 : rp 29 = some f29 := rfl

theorem p118 {p : PV} {x : Int} (h : Nu p x) : Pu rp 118 [p, p] (.p (.bool true)) := by
  obtain ⟨s, l, rfl, hl, hn, rfl⟩ := h
  rw [CapN_eq] at hn
  refine pu_of rp118 ?_
  have e2 : ((l.length : Int) != (l.length : Int)) = false := by simp
  simp only [f118, args0, S1, S2, S3, S4, S5, r_idx, r_mks, ev, resultsV, resL, resV, vl, gt, st, sto, fgt, i64, subCV, fill, setCells, mkAgg, allP, frz, frz1, frzL, frzs, kill, kill1, killL, kills, bnd, unV, bsz, toPs, toP, isPure1, pureL, List.elem, List.replicate, Int.reduceLE, Int.reduceLT, ↓reduceIte, reduceCtorEq, Nat.reduceLT, Nat.reduceEqDiff, Nat.reduceAdd, Nat.reduceMul, Nat.reduceLeDiff, Nat.reduceBEq, lm_len]
  simp only [bne_self_eq_false, beq_self_eq_true, Bool.not_true, S1, S2, S3, S4, S5, r_idx, r_mks, ev, resultsV, resL, resV, vl, gt, st, sto, fgt, i64, subCV, fill, setCells, mkAgg, allP, frz, frz1, frzL, frzs, kill, kill1, killL, kills, bnd, unV, bsz, toPs, toP, isPure1, pureL, List.elem, List.replicate, Int.reduceLE, Int.reduceLT, ↓reduceIte, reduceCtorEq, Nat.reduceLT, Nat.reduceEqDiff, Nat.reduceAdd, Nat.reduceMul, Nat.reduceLeDiff, Nat.reduceBEq, e2]
  refine loop_rule (β := Nat) (fun b => ([(2, .ptr 0 0 0), (3, .ptr 1 0 0), (5, i64 b)], [.kblk 2 [.p (.bool s), .p (.sl (lm l))], .kblk 2 [.p (.bool s), .p (.sl (lm l))]])) (fun b => b ≤ l.length) (fun b => l.length - b) 0 rfl rfl (Nat.zero_le _) ?_
  intro i hi ih
  by_cases hin : (i : Int) < l.length
  · have hx := lm_get (l := l) (i := i) (by omega)
    simp only [S1, S2, S3, S4, S5, r_idx, r_mks, ev, resultsV, resL, resV, vl, gt, st, sto, fgt, i64, subCV, fill, setCells, mkAgg, allP, frz, frz1, frzL, frzs, kill, kill1, killL, kills, bnd, unV, bsz, toPs, toP, isPure1, pureL, List.elem, List.replicate, Int.reduceLE, Int.reduceLT, ↓reduceIte, reduceCtorEq, Nat.reduceLT, Nat.reduceEqDiff, Nat.reduceAdd, Nat.reduceMul, Nat.reduceLeDiff, Nat.reduceBEq, lm_len, hin, hx, bne_self_eq_false, Int.natCast_nonneg, Int.toNat_natCast, IntWalk.i64_in ((i : Int) + 1) (by omega)]
    refine ih (i + 1) _ (by omega) (by omega) ?_
    rfl
  · simp only [S1, S2, S3, S4, S5, r_idx, r_mks, ev, resultsV, resL, resV, vl, gt, st, sto, fgt, i64, subCV, fill, setCells, mkAgg, allP, frz, frz1, frzL, frzs, kill, kill1, killL, kills, bnd, unV, bsz, toPs, toP, isPure1, pureL, List.elem, List.replicate, Int.reduceLE, Int.reduceLT, ↓reduceIte, reduceCtorEq, Nat.reduceLT, Nat.reduceEqDiff, Nat.reduceAdd, Nat.reduceMul, Nat.reduceLeDiff, Nat.reduceBEq, lm_len, hin]
    rfl

/-- all are numbers -/
def RowN (r : List PV) : Prop := r.length ≤ 2000000 ∧ ∀ i, i < r.length → ∃ p x, r[i]? = some p ∧ Nu p x
def MatN (b : List PV) : Prop := b.length ≤ 2000000 ∧ ∀ i, i < b.length → ∃ r, b[i]? = some (.sl r) ∧ RowN r

theorem p76 {r : List PV} (hr : RowN r) : Pu rp 76 [.sl r, .sl r] (.p (.bool true)) := by
  refine pu_of rp76 ?_
  have hl := hr.1
  simp only [f76, args0, S1, S2, S3, S4, S5, r_idx, r_mks, ev, resultsV, resL, resV, vl, gt, st, sto, fgt, i64, subCV, fill, setCells, mkAgg, allP, frz, frz1, frzL, frzs, kill, kill1, killL, kills, bnd, unV, bsz, toPs, toP, isPure1, pureL, List.elem, List.replicate, Int.reduceLE, Int.reduceLT, ↓reduceIte, reduceCtorEq, Nat.reduceLT, Nat.reduceEqDiff, Nat.reduceAdd, Nat.reduceMul, Nat.reduceLeDiff, Nat.reduceBEq, bne_self_eq_false]
  refine loop_rule (β := Nat) (fun b => ([(0, .p (.sl r)), (1, .p (.sl r)), (5, i64 b)], [])) (fun b => b ≤ r.length) (fun b => r.length - b) 0 rfl rfl (Nat.zero_le _) ?_
  intro i hi ih
  by_cases hin : (i : Int) < r.length
  · obtain ⟨p, x, hx, hv⟩ := hr.2 i (by omega)
    have k := p118 hv
    obtain ⟨s, l, rfl, -⟩ := hv
    simp only [S1, S2, S3, S4, S5, r_idx, r_mks, ev, resultsV, resL, resV, vl, gt, st, sto, fgt, i64, subCV, fill, setCells, mkAgg, allP, frz, frz1, frzL, frzs, kill, kill1, killL, kills, bnd, unV, bsz, toPs, toP, isPure1, pureL, List.elem, List.replicate, Int.reduceLE, Int.reduceLT, ↓reduceIte, reduceCtorEq, Nat.reduceLT, Nat.reduceEqDiff, Nat.reduceAdd, Nat.reduceMul, Nat.reduceLeDiff, Nat.reduceBEq, hin, hx, kp2 k, unV, Bool.not_true, Int.natCast_nonneg, Int.toNat_natCast, IntWalk.i64_in ((i : Int) + 1) (by omega)]
    refine ih (i + 1) _ (by omega) (by omega) ?_
    rfl
  · simp only [S1, S2, S3, S4, S5, r_idx, r_mks, ev, resultsV, resL, resV, vl, gt, st, sto, fgt, i64, subCV, fill, setCells, mkAgg, allP, frz, frz1, frzL, frzs, kill, kill1, killL, kills, bnd, unV, bsz, toPs, toP, isPure1, pureL, List.elem, List.replicate, Int.reduceLE, Int.reduceLT, ↓reduceIte, reduceCtorEq, Nat.reduceLT, Nat.reduceEqDiff, Nat.reduceAdd, Nat.reduceMul, Nat.reduceLeDiff, Nat.reduceBEq, hin]
    rfl

theorem p33 {b : List PV} (hb : MatN b) : Pu rp 33 [.sl b, .sl b] (.p (.bool true)) := by
  refine pu_of rp33 ?_
  have hl := hb.1
  simp only [f33, args0, S1, S2, S3, S4, S5, r_idx, r_mks, ev, resultsV, resL, resV, vl, gt, st, sto, fgt, i64, subCV, fill, setCells, mkAgg, allP, frz, frz1, frzL, frzs, kill, kill1, killL, kills, bnd, unV, bsz, toPs, toP, isPure1, pureL, List.elem, List.replicate, Int.reduceLE, Int.reduceLT, ↓reduceIte, reduceCtorEq, Nat.reduceLT, Nat.reduceEqDiff, Nat.reduceAdd, Nat.reduceMul, Nat.reduceLeDiff, Nat.reduceBEq, bne_self_eq_false]
  refine loop_rule (β := Nat) (fun i => ([(0, .p (.sl b)), (1, .p (.sl b)), (5, i64 i)], [])) (fun i => i ≤ b.length) (fun i => b.length - i) 0 rfl rfl (Nat.zero_le _) ?_
  intro i hi ih
  by_cases hin : (i : Int) < b.length
  · obtain ⟨r, hx, hr⟩ := hb.2 i (by omega)
    simp only [S1, S2, S3, S4, S5, r_idx, r_mks, ev, resultsV, resL, resV, vl, gt, st, sto, fgt, i64, subCV, fill, setCells, mkAgg, allP, frz, frz1, frzL, frzs, kill, kill1, killL, kills, bnd, unV, bsz, toPs, toP, isPure1, pureL, List.elem, List.replicate, Int.reduceLE, Int.reduceLT, ↓reduceIte, reduceCtorEq, Nat.reduceLT, Nat.reduceEqDiff, Nat.reduceAdd, Nat.reduceMul, Nat.reduceLeDiff, Nat.reduceBEq, hin, hx, kp2 (p76 hr), unV, Bool.not_true, Int.natCast_nonneg, Int.toNat_natCast, IntWalk.i64_in ((i : Int) + 1) (by omega)]
    refine ih (i + 1) _ (by omega) (by omega) ?_
    rfl
  · simp only [S1, S2, S3, S4, S5, r_idx, r_mks, ev, resultsV, resL, resV, vl, gt, st, sto, fgt, i64, subCV, fill, setCells, mkAgg, allP, frz, frz1, frzL, frzs, kill, kill1, killL, kills, bnd, unV, bsz, toPs, toP, isPure1, pureL, List.elem, List.replicate, Int.reduceLE, Int.reduceLT, ↓reduceIte, reduceCtorEq, Nat.reduceLT, Nat.reduceEqDiff, Nat.reduceAdd, Nat.reduceMul, Nat.reduceLeDiff, Nat.reduceBEq, hin]
    rfl

/-! ### a seed -/

theorem p35 {p : PV} {x : Int} (h : Nu p x) : Pu rp 35 [p] (.p p) := by
  obtain ⟨s, l, rfl, hl, hn, rfl⟩ := h
  rw [CapN_eq] at hn
  refine pu_of rp35 ?_
  have m1 : (0 + (lm l).length) * 4 ≤ 140737488355328 := by rw [lm_len]; omega
  have m2 : ((lm l).length + 9) * 4 ≤ 140737488355328 := by rw [lm_len]; omega
  have hz : allSz 1 (lm l) = true := lm_sz
  have t0 : (lm l).take l.length = lm l := List.take_of_length_le (by rw [lm_len]; exact Nat.le_refl _)
  have t1 : ∀ ys : List PV, (lm l ++ ys).take l.length = lm l := fun ys => by
    rw [List.take_append, lm_len, Nat.sub_self, List.take_zero, List.append_nil, t0]
  have le1 : ∀ k : Nat, l.length ≤ l.length + k := fun k => Nat.le_add_right _ _
  have le2 : l.length ≤ 0 + l.length := by omega
  have le3 : ∀ k : Nat, 0 + l.length ≤ l.length + k := fun k => by omega
  have z1 : 0 + l.length = l.length := Nat.zero_add _
  have c1 : ∀ n : Nat, (0 : Int) ≤ (n : Int) := Int.natCast_nonneg
  have c2 : Int.toNat (l.length : Int) = l.length := Int.toNat_natCast _
  simp only [f35, args0, S1, S2, S3, S4, S5, r_idx, r_mks, ev, resultsV, resL, resV, vl, gt, st, sto, fgt, i64, subCV, fill, setCells, mkAgg, allP, frz, frz1, frzL, frzs, kill, kill1, killL, kills, bnd, unV, bsz, toPs, toP, isPure1, pureL, List.elem, List.replicate, Int.reduceLE, Int.reduceLT, ↓reduceIte, reduceCtorEq, Nat.reduceLT, Nat.reduceEqDiff, Nat.reduceAdd, Nat.reduceMul, Nat.reduceLeDiff, Nat.reduceBEq, r_append, m1, m2, hz, lm_len, z1, t0, t1, le1, sliceV, Nat.zero_le, c1, c2, content, Nat.sub_zero]
  simp only [back, back1, List.all_cons, List.all_nil, Bool.and_true, Nat.zero_le, decide_true, if_true, frz, frzL, frz1, List.getElem?_cons_succ, List.getElem?_cons_zero, z1, List.length_append, lm_len, le1, Option.map_some, List.drop_zero, t1]
  rw [lm_len] at m1 m2
  rw [Nat.zero_add] at m1
  exact ⟨m1, m2, trivial⟩

theorem p72 {r : List PV} (h : RowN r) : Pu rp 72 [.sl r] (.p (.sl r)) := by
  refine pu_of rp72 ?_
  have hm := h.1
  simp only [f72, args0, S1, S2, S3, S4, S5, r_idx, r_mks, ev, resultsV, resL, resV, vl, gt, st, sto, fgt, i64, subCV, fill, setCells, mkAgg, allP, frz, frz1, frzL, frzs, kill, kill1, killL, kills, bnd, unV, bsz, toPs, toP, isPure1, pureL, List.elem, List.replicate, Int.reduceLE, Int.reduceLT, ↓reduceIte, reduceCtorEq, Nat.reduceLT, Nat.reduceEqDiff, Nat.reduceAdd, Nat.reduceMul, Nat.reduceLeDiff, Nat.reduceBEq]
  refine loop_rule (β := Nat × Store × CV) (fun t => ([(0, .p (.sl r)), (3, t.2.2), (4, i64 t.1)], t.2.1))
    (fun t => t.1 ≤ r.length ∧ GL t.2.1 2 t.2.2 (r.take t.1)) (fun t => r.length - t.1) ((0, [], .nils) : Nat × Store × CV) rfl rfl ⟨Nat.zero_le _, .nil⟩ ?_
  rintro ⟨i, ρ, c⟩ ⟨hi, hG⟩ ih
  simp only [] at hi hG ih ⊢
  by_cases hin : (i : Int) < r.length
  · obtain ⟨p, x, p1, p2⟩ := h.2 i (by omega)
    have k := p35 p2
    obtain ⟨a1, a2, rfl⟩ := Nu.agg p2
    have w1 : IntKind.i64.wrap ((i : Int) + 1) = ((i + 1 : Nat) : Int) := by rw [IntWalk.i64_in _ (by omega)]; omega
    have htl : (r.take i).length = i := by rw [List.length_take]; omega
    have hc : ((r.take i).length + [PV.agg [.bool a1, .sl a2]].length) * 32 ≤ 140737488355328 := by rw [htl]; simp; omega
    have hz : allSz 2 [PV.agg [.bool a1, .sl a2]] = true := rfl
    simp only [S1, S2, S3, S4, S5, r_idx, r_mks, ev, resultsV, resL, resV, vl, gt, st, sto, fgt, i64, subCV, fill, setCells, mkAgg, allP, frz, frz1, frzL, frzs, kill, kill1, killL, kills, bnd, unV, bsz, toPs, toP, isPure1, pureL, List.elem, List.replicate, Int.reduceLE, Int.reduceLT, ↓reduceIte, reduceCtorEq, Nat.reduceLT, Nat.reduceEqDiff, Nat.reduceAdd, Nat.reduceMul, Nat.reduceLeDiff, Nat.reduceBEq, hin, p1, Int.natCast_nonneg, Int.toNat_natCast, kp1 k, r_app hG hc, ← take_suc p1, htl, w1]
    refine ih (i + 1, nd ρ c ++ [.prow 2 [.agg [.bool a1, .sl a2]], .prow 2 (r.take (i + 1))], .own (ρ.length + 1) 0 (i + 1)) _ ⟨by simp only []; omega, ?_⟩ (by simp only []; omega) ?_
    · exact GL.new2 (by rw [List.length_take]; omega) rfl
    · rfl
  · obtain rfl : i = r.length := by omega
    rw [List.take_length] at hG
    simp only [S1, S2, S3, S4, S5, r_idx, r_mks, ev, resultsV, resL, resV, vl, gt, st, sto, fgt, i64, subCV, fill, setCells, mkAgg, allP, frz, frz1, frzL, frzs, kill, kill1, killL, kills, bnd, unV, bsz, toPs, toP, isPure1, pureL, List.elem, List.replicate, Int.reduceLE, Int.reduceLT, ↓reduceIte, reduceCtorEq, Nat.reduceLT, Nat.reduceEqDiff, Nat.reduceAdd, Nat.reduceMul, Nat.reduceLeDiff, Nat.reduceBEq, hin]
    exact hG.back

theorem p29 {b : List PV} (h : MatN b) : Pu rp 29 [.sl b] (.p (.sl b)) := by
  refine pu_of rp29 ?_
  have hm := h.1
  simp only [f29, args0, S1, S2, S3, S4, S5, r_idx, r_mks, ev, resultsV, resL, resV, vl, gt, st, sto, fgt, i64, subCV, fill, setCells, mkAgg, allP, frz, frz1, frzL, frzs, kill, kill1, killL, kills, bnd, unV, bsz, toPs, toP, isPure1, pureL, List.elem, List.replicate, Int.reduceLE, Int.reduceLT, ↓reduceIte, reduceCtorEq, Nat.reduceLT, Nat.reduceEqDiff, Nat.reduceAdd, Nat.reduceMul, Nat.reduceLeDiff, Nat.reduceBEq]
  refine loop_rule (β := Nat × Store × CV) (fun t => ([(0, .p (.sl b)), (3, t.2.2), (4, i64 t.1)], t.2.1))
    (fun t => t.1 ≤ b.length ∧ GL t.2.1 1 t.2.2 (b.take t.1)) (fun t => b.length - t.1) ((0, [], .nils) : Nat × Store × CV) rfl rfl ⟨Nat.zero_le _, .nil⟩ ?_
  rintro ⟨i, ρ, c⟩ ⟨hi, hG⟩ ih
  simp only [] at hi hG ih ⊢
  by_cases hin : (i : Int) < b.length
  · obtain ⟨r, p1, p2⟩ := h.2 i (by omega)
    have k := p72 p2
    have w1 : IntKind.i64.wrap ((i : Int) + 1) = ((i + 1 : Nat) : Int) := by rw [IntWalk.i64_in _ (by omega)]; omega
    have htl : (b.take i).length = i := by rw [List.length_take]; omega
    have hc : ((b.take i).length + [PV.sl r].length) * 24 ≤ 140737488355328 := by rw [htl]; simp; omega
    simp only [S1, S2, S3, S4, S5, r_idx, r_mks, ev, resultsV, resL, resV, vl, gt, st, sto, fgt, i64, subCV, fill, setCells, mkAgg, allP, frz, frz1, frzL, frzs, kill, kill1, killL, kills, bnd, unV, bsz, toPs, toP, isPure1, pureL, List.elem, List.replicate, Int.reduceLE, Int.reduceLT, ↓reduceIte, reduceCtorEq, Nat.reduceLT, Nat.reduceEqDiff, Nat.reduceAdd, Nat.reduceMul, Nat.reduceLeDiff, Nat.reduceBEq, hin, p1, Int.natCast_nonneg, Int.toNat_natCast, kp1 k, r_app hG hc, ← take_suc p1, htl, w1]
    refine ih (i + 1, nd ρ c ++ [.prow 1 [.sl r], .prow 1 (b.take (i + 1))], .own (ρ.length + 1) 0 (i + 1)) _ ⟨by simp only []; omega, ?_⟩ (by simp only []; omega) ?_
    · exact GL.new2 (by rw [List.length_take]; omega) rfl
    · rfl
  · obtain rfl : i = b.length := by omega
    rw [List.take_length] at hG
    simp only [S1, S2, S3, S4, S5, r_idx, r_mks, ev, resultsV, resL, resV, vl, gt, st, sto, fgt, i64, subCV, fill, setCells, mkAgg, allP, frz, frz1, frzL, frzs, kill, kill1, killL, kills, bnd, unV, bsz, toPs, toP, isPure1, pureL, List.elem, List.replicate, Int.reduceLE, Int.reduceLT, ↓reduceIte, reduceCtorEq, Nat.reduceLT, Nat.reduceEqDiff, Nat.reduceAdd, Nat.reduceMul, Nat.reduceLeDiff, Nat.reduceBEq, hin]
    exact hG.back

/-! ### a matrix's numbers -/
end Go.Proofs.Ytdieenbfdeaffaa.VTm

namespace Go.Proofs.Ytdieenbfdeaffaa.VTm
open Go Vpi
open VBn hiding rp tab rp_ok all_ok mixed sim Big
set_option maxRecDepth 100000
set_option linter.unusedSimpArgs false
set_option linter.unusedVariables false

theorem rp71 : rp 71 = some f71 := rfl

/-- theta.made -/
theorem p71 {b : List PV} {n : Nat → Nat} {X : Nat → Nat → Int} (hb : MR b n X) (hlb : b.length ≤ 2000000) :
    Pu rp 71 [.sl b] (.tup [.p (.sl (if vE n X b.length = 0 then b else [])), .p (.int .i64 (vE n X b.length))]) := by
  have k := (p59 hb hlb).lift base_le
  refine pu_of rp71 ?_
  by_cases h0 : vE n X b.length = 0
  · rw [h0] at k
    rw [h0, if_pos rfl]
    simp only [f71, args0, S1, S2, S3, S4, S5, r_idx, r_mks, ev, resultsV, resL, resV, vl, gt, st, sto, fgt, i64, subCV, fill, setCells, mkAgg, allP, frz, frz1, frzL, frzs, kill, kill1, killL, kills, bnd, unV, bsz, toPs, toP, isPure1, pureL, List.elem, List.replicate, Int.reduceLE, Int.reduceLT, ↓reduceIte, reduceCtorEq, Nat.reduceLT, Nat.reduceEqDiff, Nat.reduceAdd, Nat.reduceMul, Nat.reduceLeDiff, Nat.reduceBEq, kp1 k]
    rfl
  · rw [if_neg h0]
    have n0 : decide (¬ vE n X b.length = 0) = true := by simpa using h0
    have n1 : (vE n X b.length != 0) = true := by simpa using h0
    simp only [f71, args0, S1, S2, S3, S4, S5, r_idx, r_mks, ev, resultsV, resL, resV, vl, gt, st, sto, fgt, i64, subCV, fill, setCells, mkAgg, allP, frz, frz1, frzL, frzs, kill, kill1, killL, kills, bnd, unV, bsz, toPs, toP, isPure1, pureL, List.elem, List.replicate, Int.reduceLE, Int.reduceLT, ↓reduceIte, reduceCtorEq, Nat.reduceLT, Nat.reduceEqDiff, Nat.reduceAdd, Nat.reduceMul, Nat.reduceLeDiff, Nat.reduceBEq, kp1 k, h0, n0, n1, not_false_eq_true, ne_eq, decide_true, decide_false, Bool.not_false]
    rfl

theorem kfg {rs : List RRes} {base : Nat} {d : Option Nat} {l : List LOp} {dr : Dr} {ks : List KI} {e : Env} {σ : Store} {Q : CV → Store → Prop} {f sz : Nat} {c : CV} {es : List PV} {r : CV} (h : Pu rp f [.sl es] r) (hg : GL σ sz c es) :
    KC rp rs base .fz f [c] d l dr ks e σ Q = ExR rp rs base l dr ks (sto d r e) (kills σ [c]) Q :=
  kc_fz h (by simp only [frzs, hg.frz, Option.map_some])

theorem rp34 : rp 34 = some f34 := rfl

/-- theta.Scale -/
theorem p34 {b : List PV} {M : List (List Int)} {kp : PV} {k : Int} {r : CV} (hk : Nu kp k) (h : ML b M) (hm : b.length ≤ 2000000) (hv : Pu rp 59 [.sl b] (.p (.int .i64 0))) (hk0 : k ≠ 0)
    {rs : List PV} {er : Int} (h71 : Pu rp 71 [.sl (zm (M.map fun r => r.map (k * ·)))] (.tup [.p (.sl rs), .p (.int .i64 er)])) :
    Pu rp 34 [.sl b, kp] (.tup [.p (.sl rs), .p (.int .i64 er)]) := by
  have k77 := (p77 hk).lift base_le
  obtain ⟨a1, a2, rfl⟩ := Nu.agg hk
  refine pu_of rp34 ?_
  have hs0 : (k.sign == 0) = false := by
    rw [beq_eq_false_iff_ne]
    exact fun h => hk0 (Int.sign_eq_zero_iff_zero.1 h)
  simp only [f34, args0, S1, S2, S3, S4, S5, r_idx, r_mks, ev, resultsV, resL, resV, vl, gt, st, sto, fgt, i64, subCV, fill, setCells, mkAgg, allP, frz, frz1, frzL, frzs, kill, kill1, killL, kills, bnd, unV, bsz, toPs, toP, isPure1, pureL, List.elem, List.replicate, Int.reduceLE, Int.reduceLT, ↓reduceIte, reduceCtorEq, Nat.reduceLT, Nat.reduceEqDiff, Nat.reduceAdd, Nat.reduceMul, Nat.reduceLeDiff, Nat.reduceBEq, kp1 hv, kp1 k77, hs0]
  rw [if_neg (by decide)]
  have hl := h.1
  refine loop_rule (β := Nat × Store × CV) (fun t => ([(3, .ptr 0 0 0), (7, t.2.2), (18, .p (.sl b)), (19, i64 b.length), (20, i64 t.1)], t.2.1))
    (fun t => t.1 ≤ b.length ∧ t.2.1[0]? = some (.kblk 2 [.p (.bool a1), .p (.sl a2)]) ∧ GL t.2.1 1 t.2.2 (zm ((M.map fun r => r.map (k * ·)).take t.1))) (fun t => b.length - t.1) ((0, [.kblk 2 [.p (.bool a1), .p (.sl a2)]], .nils) : Nat × Store × CV) rfl rfl
    ⟨Nat.zero_le _, rfl, .nil⟩ ?_
  rintro ⟨i, ρ, c⟩ ⟨hi, h0, hG⟩ ih
  simp only [] at hi h0 hG ih ⊢
  by_cases hin : (i : Int) < b.length
  · obtain ⟨q, r, h1, h2, h3, h4⟩ := h.ix (i := i) (by omega)
    have k78 := p78 hk h3 h4
    have w1 : IntKind.i64.wrap ((i : Int) + 1) = ((i + 1 : Nat) : Int) := by rw [IntWalk.i64_in _ (by omega)]; omega
    have htl : (zm ((M.map fun r => r.map (k * ·)).take i)).length = i := by rw [zm_len, List.length_take, List.length_map]; omega
    have hc : ((zm ((M.map fun r => r.map (k * ·)).take i)).length + [PV.sl (zr (r.map (k * ·)))].length) * 24 ≤ 140737488355328 := by rw [htl]; simp; omega
    have h2' : (M.map fun r => r.map (k * ·))[i]? = some (r.map (k * ·)) := by simp [h2]
    simp only [S1, S2, S3, S4, S5, r_idx, r_mks, ev, resultsV, resL, resV, vl, gt, st, sto, fgt, i64, subCV, fill, setCells, mkAgg, allP, frz, frz1, frzL, frzs, kill, kill1, killL, kills, bnd, unV, bsz, toPs, toP, isPure1, pureL, List.elem, List.replicate, Int.reduceLE, Int.reduceLT, ↓reduceIte, reduceCtorEq, Nat.reduceLT, Nat.reduceEqDiff, Nat.reduceAdd, Nat.reduceMul, Nat.reduceLeDiff, Nat.reduceBEq, hin, h0, h1, Int.natCast_nonneg, Int.toNat_natCast, kp2 k78, r_app hG hc, ← zm_suc h2', htl, w1]
    refine ih (i + 1, nd ρ c ++ [.prow 1 [.sl (zr (r.map (k * ·)))], .prow 1 (zm ((M.map fun r => r.map (k * ·)).take (i + 1)))], .own (ρ.length + 1) 0 (i + 1)) _ ⟨by simp only []; omega, nd_get hG h0, ?_⟩ (by simp only []; omega) ?_
    · exact GL.new2 (by rw [zm_len, List.length_take, List.length_map]; omega) rfl
    · rfl
  · obtain rfl : i = b.length := by omega
    rw [List.take_of_length_le (by rw [List.length_map]; omega)] at hG
    simp only [S1, S2, S3, S4, S5, r_idx, r_mks, ev, resultsV, resL, resV, vl, gt, st, sto, fgt, i64, subCV, fill, setCells, mkAgg, allP, frz, frz1, frzL, frzs, kill, kill1, killL, kills, bnd, unV, bsz, toPs, toP, isPure1, pureL, List.elem, List.replicate, Int.reduceLE, Int.reduceLT, ↓reduceIte, reduceCtorEq, Nat.reduceLT, Nat.reduceEqDiff, Nat.reduceAdd, Nat.reduceMul, Nat.reduceLeDiff, Nat.reduceBEq, hin, kfg h71 hG]
    rfl

theorem e34 {b : List PV} {kp : PV} {k e : Int} (hk : Nu kp k) (h : Pu rp 59 [.sl b] (.p (.int .i64 e))) (he : e ≠ 0) : Pu rp 34 [.sl b, kp] (.tup [.p (.sl []), .p (.int .i64 e)]) := by
  obtain ⟨a1, a2, rfl⟩ := Nu.agg hk
  refine pu_of rp34 ?_
  have e1 : (e != 0) = true := by simp [he]
  simp only [f34, args0, S1, S2, S3, S4, S5, r_idx, r_mks, ev, resultsV, resL, resV, vl, gt, st, sto, fgt, i64, subCV, fill, setCells, mkAgg, allP, frz, frz1, frzL, frzs, kill, kill1, killL, kills, bnd, unV, bsz, toPs, toP, isPure1, pureL, List.elem, List.replicate, Int.reduceLE, Int.reduceLT, ↓reduceIte, reduceCtorEq, Nat.reduceLT, Nat.reduceEqDiff, Nat.reduceAdd, Nat.reduceMul, Nat.reduceLeDiff, Nat.reduceBEq, kp1 h, e1]
  rfl

theorem z34 {b : List PV} {kp : PV} (hk : Nu kp 0) (h : Pu rp 59 [.sl b] (.p (.int .i64 0))) : Pu rp 34 [.sl b, kp] (.tup [.p (.sl []), .p (.int .i64 1)]) := by
  have k77 := (p77 hk).lift base_le
  obtain ⟨a1, a2, rfl⟩ := Nu.agg hk
  refine pu_of rp34 ?_
  have hs0 : ((0 : Int).sign == 0) = true := rfl
  have e0 : ((0 : Int) != 0) = false := rfl
  simp only [f34, args0, S1, S2, S3, S4, S5, r_idx, r_mks, ev, resultsV, resL, resV, vl, gt, st, sto, fgt, i64, subCV, fill, setCells, mkAgg, allP, frz, frz1, frzL, frzs, kill, kill1, killL, kills, bnd, unV, bsz, toPs, toP, isPure1, pureL, List.elem, List.replicate, Int.reduceLE, Int.reduceLT, ↓reduceIte, reduceCtorEq, Nat.reduceLT, Nat.reduceEqDiff, Nat.reduceAdd, Nat.reduceMul, Nat.reduceLeDiff, Nat.reduceBEq, kp1 h, kp1 k77, hs0, e0]
  rfl

/-! ### theta.Sum -/

theorem rp28 : rp 28 = some f28 := rfl

theorem ea28 {a b : List PV} {e : Int} (h : Pu rp 59 [.sl a] (.p (.int .i64 e))) (he : e ≠ 0) : Pu rp 28 [.sl a, .sl b] (.tup [.p (.sl []), .p (.int .i64 e)]) := by
  refine pu_of rp28 ?_
  have e1 : (e != 0) = true := by simp [he]
  simp only [f28, args0, S1, S2, S3, S4, S5, r_idx, r_mks, ev, resultsV, resL, resV, vl, gt, st, sto, fgt, i64, subCV, fill, setCells, mkAgg, allP, frz, frz1, frzL, frzs, kill, kill1, killL, kills, bnd, unV, bsz, toPs, toP, isPure1, pureL, List.elem, List.replicate, Int.reduceLE, Int.reduceLT, ↓reduceIte, reduceCtorEq, Nat.reduceLT, Nat.reduceEqDiff, Nat.reduceAdd, Nat.reduceMul, Nat.reduceLeDiff, Nat.reduceBEq, kp1 h, e1]
  rfl

theorem eb28 {a b : List PV} {e : Int} (ha : Pu rp 59 [.sl a] (.p (.int .i64 0))) (h : Pu rp 59 [.sl b] (.p (.int .i64 e))) (he : e ≠ 0) : Pu rp 28 [.sl a, .sl b] (.tup [.p (.sl []), .p (.int .i64 e)]) := by
  refine pu_of rp28 ?_
  have e0 : ((0 : Int) != 0) = false := rfl
  have e1 : (e != 0) = true := by simp [he]
  simp only [f28, args0, S1, S2, S3, S4, S5, r_idx, r_mks, ev, resultsV, resL, resV, vl, gt, st, sto, fgt, i64, subCV, fill, setCells, mkAgg, allP, frz, frz1, frzL, frzs, kill, kill1, killL, kills, bnd, unV, bsz, toPs, toP, isPure1, pureL, List.elem, List.replicate, Int.reduceLE, Int.reduceLT, ↓reduceIte, reduceCtorEq, Nat.reduceLT, Nat.reduceEqDiff, Nat.reduceAdd, Nat.reduceMul, Nat.reduceLeDiff, Nat.reduceBEq, kp1 ha, kp1 h, e0, e1]
  rfl

section
variable {rp : RProg} {rs : List RRes} {base : Nat} {d : Option Nat} {l : List LOp} {dr : Dr} {ks : List KI} {e : Env} {ρ : Store} {Q : CV → Store → Prop}

theorem r_appz_own {b m sz bytes : Nat} {es : List PV} {z : PV} {s x : Opd} (hb : ρ[b]? = some (.prow sz es)) (hc : (es.length + m) * bytes ≤ 140737488355328) (hm : m ≤ 2000000) (hz : z.cells.length = sz) (hs : vl e s = .own b 0 es.length) (hx : vl e x = .p (.int .i64 (m : Int))) :
    ExR rp rs base (⟨d, none, none, .appz sz bytes z s x⟩ :: l) dr ks e ρ Q = ExR rp rs base l dr ks (sto d (.own ρ.length 0 (es.length + m)) e) (ρ.set b .dead ++ [.prow sz (es ++ List.replicate m z)]) Q := by
  rw [r_appz]
  have h1 : content ρ (.own b 0 es.length) = some es := cont_own hb rfl
  have h2 : (0 : Int) ≤ (m : Int) ∧ (m : Int) ≤ 9223372036854775807 ∧ (es.length + m) * bytes ≤ 140737488355328 ∧ z.cells.length = sz := ⟨by omega, by omega, hc, hz⟩
  simp only [ev, hs, hx, h1, num_int, Int.toNat_natCast]
  rw [if_pos h2]
  simp only [hb, if_true, push_none, Option.map_some, ke_some, List.length_set]

theorem r_bsl_own {ws : List PV} {x : Opd} {s : Nat} (hx : vl e x = .own ρ.length 0 ws.length) :
    ExR rp rs base (⟨d, none, none, .bslice 1 [x]⟩ :: l) dr ks e (ρ ++ [.prow s ws]) Q = ExR rp rs base l dr ks (sto d (.own (ρ.length + 1) 0 1) e) (ρ ++ [.dead, .prow 1 [.sl ws]]) Q := by
  rw [r_bslice]
  have h1 : frzs (ρ ++ [.prow s ws]) [.own ρ.length 0 ws.length] = some [.sl ws] := by
    simp only [frzs, frz, frz1_own (show (ρ ++ [Blk.prow s ws])[ρ.length]? = some (.prow s ws) by rw [get_app0]; rfl) rfl, Option.map_some]
  have h2 : kills (ρ ++ [.prow s ws]) [.own ρ.length 0 ws.length] = ρ ++ [.dead] := by
    simp only [kills, List.foldl_cons, List.foldl_nil, kill, kill1, set_app0, List.set_cons_zero]
  simp only [ev, List.map_cons, List.map_nil, hx, h1, h2]
  rw [if_pos (show allSz 1 [PV.sl ws] = true from rfl)]
  simp only [push_none, Option.map_some, ke_some, List.length_append, List.length_cons, List.length_nil, List.append_assoc, List.cons_append, List.nil_append]

theorem r_bsl_own1 {a : Blk} {ws : List PV} {x : Opd} {s : Nat} (hx : vl e x = .own (ρ.length + 1) 0 ws.length) :
    ExR rp rs base (⟨d, none, none, .bslice 1 [x]⟩ :: l) dr ks e (ρ ++ [a, .prow s ws]) Q = ExR rp rs base l dr ks (sto d (.own (ρ.length + 2) 0 1) e) (ρ ++ [a, .dead, .prow 1 [.sl ws]]) Q := by
  have hl : (ρ ++ [a]).length = ρ.length + 1 := by simp
  have := r_bsl_own (rp := rp) (rs := rs) (base := base) (d := d) (l := l) (dr := dr) (ks := ks) (e := e) (Q := Q) (ρ := ρ ++ [a]) (ws := ws) (x := x) (s := s) (by rw [hl]; exact hx)
  rw [hl, List.append_assoc, List.append_assoc] at this
  exact this

theorem r_mks_n {n : Nat} {z : PV} {x y : Opd} (hz : z.cells.length = 2) (hn : n ≤ 2000000) (hx : vl e x = .p (.int .i64 (n : Int))) (hy : vl e y = .p (.int .i64 (n : Int))) :
    ExR rp rs base (⟨d, none, none, .mks false 2 32 z x y⟩ :: l) dr ks e ρ Q = ExR rp rs base l dr ks (sto d (.own ρ.length 0 n) e) (ρ ++ [.prow 2 (List.replicate n z)]) Q := by
  rw [r_mks]
  have h1 : 0 ≤ (n : Int) ∧ (n : Int) ≤ n ∧ ((32 : Nat) : Int) * n ≤ 281474976710656 ∧ (n : Int) ≤ 9223372036854775807 ∧ z.cells.length = 2 := ⟨by omega, by omega, by omega, by omega, hz⟩
  simp only [ev, hx, hy, num_int]
  rw [if_pos h1]
  simp only [push_none, Option.map_some, ke_some, Int.toNat_natCast]

theorem r_app_mk {b sz bytes : Nat} {zs es : List PV} {s x : Opd} (hb : ρ[b]? = some (.prow sz es)) (hc : (zs.length + es.length) * bytes ≤ 140737488355328) (hz : allSz sz es = true) (hs : vl e s = .own ρ.length 0 zs.length) (hx : vl e x = .own b 0 es.length) :
    ExR rp rs base (⟨d, none, none, .append sz bytes s x⟩ :: l) dr ks e (ρ ++ [.prow sz zs]) Q = ExR rp rs base l dr ks (sto d (.own (ρ.length + 1) 0 (zs.length + es.length)) e) (ρ ++ [.dead, .prow sz (zs ++ es)]) Q := by
  rw [r_append]
  have hlt := (List.getElem?_eq_some_iff.1 hb).1
  have h1 : content (ρ ++ [.prow sz zs]) (.own ρ.length 0 zs.length) = some zs := cont_own (s := sz) (by rw [get_app0]; rfl) rfl
  have h2 : content (ρ ++ [.prow sz zs]) (.own b 0 es.length) = some es := cont_own (s := sz) (by rw [get_left hlt]; exact hb) rfl
  have h3 : (ρ ++ [Blk.prow sz zs])[ρ.length]? = some (.prow sz zs) := by rw [get_app0]; rfl
  simp only [ev, hs, hx, h1, h2]
  rw [if_pos ⟨hc, hz⟩]
  simp only [h3, if_true, push_none, Option.map_some, ke_some, List.length_set, List.length_append, List.length_cons, List.length_nil, set_app0, List.set_cons_zero, List.append_assoc, List.cons_append, List.nil_append]

theorem r_app_2 {a a2 : Blk} {sz bytes : Nat} {c : CV} {es xs : List PV} {s x : Opd} (h : GL ρ sz c es) (hc : (es.length + xs.length) * bytes ≤ 140737488355328) (hs : vl e s = c) (hx : vl e x = .own (ρ.length + 2) 0 xs.length) (hz : allSz sz xs = true) :
    ExR rp rs base (⟨d, none, none, .append sz bytes s x⟩ :: l) dr ks e (ρ ++ [a, a2, .prow sz xs]) Q = ExR rp rs base l dr ks (sto d (.own (ρ.length + 3) 0 (es.length + xs.length)) e) (nd ρ c ++ [a, a2, .prow sz xs, .prow sz (es ++ xs)]) Q := by
  have hl : (ρ ++ [a, a2]).length = ρ.length + 2 := by simp
  have := r_app (rp := rp) (rs := rs) (base := base) (d := d) (l := l) (dr := dr) (ks := ks) (e := e) (Q := Q) (s := s) (x := x) (h.left (τ := [a, a2])) hc hs (by rw [hl]; exact hx) hz
  rw [hl, nd_left h, List.append_assoc, List.append_assoc] at this
  exact this

theorem gl_ne2 {bl : Nat} {c : CV} {es ws : List PV} (h : GL ρ 1 c es) (hb : ρ[bl]? = some (.prow 2 ws)) : ∀ b o n, c = .own b o n → b ≠ bl := by
  rintro b o n rfl rfl
  rcases h with ⟨h, _⟩ | ⟨b', h, h'⟩
  · cases h
  · cases h
    rw [hb] at h'
    cases h'

theorem gl_pre {τ : Store} {sz : Nat} {c : CV} {es : List PV} (h : GL ρ sz c es) (hp : Pre ρ τ) : GL τ sz c es := by
  rcases h with ⟨rfl, rfl⟩ | ⟨b, rfl, hb⟩
  · exact .nil
  · exact .own (by rw [hp.get b (List.getElem?_eq_some_iff.1 hb).1]; exact hb) rfl

/-- rows that are still there -/
def Rest (ρ : Store) (cs : List CV) (A : List (List Int)) (i : Nat) : Prop := ∀ (j : Nat) (r : List Int), i ≤ j → A[j]? = some r → ∃ b, cs[j]? = some (.own b 0 r.length) ∧ ρ[b]? = some (.prow 2 (zr r))

theorem nd_get2 {c : CV} {es : List PV} (h : GL ρ 1 c es) {b : Nat} {ws : List PV} (hb : ρ[b]? = some (.prow 2 ws)) {l : Store} : (nd ρ c ++ l)[b]? = some (.prow 2 ws) := by
  have hlt := (List.getElem?_eq_some_iff.1 hb).1
  rw [List.getElem?_append_left (by rw [nd_len]; exact hlt)]
  have hne := gl_ne2 h hb
  cases c <;> try exact hb
  exact (List.getElem?_set_ne (hne _ _ _ rfl)).trans hb
end

theorem zr_pad {r : List Int} {m : Nat} : zr (r ++ List.replicate m 0) = zr r ++ List.replicate m (PV.agg [.bool false, .sl []]) := by
  rw [zr_app]
  congr 1
  unfold zr
  rw [List.map_replicate, zi_zero]
theorem zr_padl {r : List Int} {n : Nat} : zr (List.replicate n 0 ++ r) = List.replicate n (PV.agg [.bool false, .sl []]) ++ zr r := by
  rw [zr_app]
  congr 1
  unfold zr
  rw [List.map_replicate, zi_zero]
theorem zr_sz {r : List Int} : allSz 2 (zr r) = true := by
  unfold allSz zr
  rw [List.all_eq_true]
  intro x hx
  obtain ⟨y, _, rfl⟩ := List.mem_map.1 hx
  rfl

/-- the sum's rows -/
def sumM (n m : Nat) (A B : List (List Int)) : List (List Int) := (A.map fun r => r ++ List.replicate m 0) ++ B.map fun r => List.replicate n 0 ++ r

theorem p28 {a b : List PV} {A B : List (List Int)} {n m : Nat} (ha : ML a A) (hb : ML b B) (hva : Pu rp 59 [.sl a] (.p (.int .i64 0))) (hvb : Pu rp 59 [.sl b] (.p (.int .i64 0)))
    (ha0 : 0 < a.length) (hla : a.length ≤ 12) (hb0 : 0 < b.length) (hlb : b.length ≤ 12) (hn : ∀ (i : Nat) (r : List Int), A[i]? = some r → r.length = n) (hm : ∀ (i : Nat) (r : List Int), B[i]? = some r → r.length = m) (hn12 : n ≤ 12) (hm12 : m ≤ 12)
    {rs : List PV} {er : Int} (h71 : Pu rp 71 [.sl (zm (sumM n m A B))] (.tup [.p (.sl rs), .p (.int .i64 er)])) : Pu rp 28 [.sl a, .sl b] (.tup [.p (.sl rs), .p (.int .i64 er)]) := by
  refine pu_of rp28 ?_
  have e0 : ((0 : Int) != 0) = false := rfl
  have i0 : Int.toNat 0 = 0 := rfl
  obtain ⟨qa, ra, qa1, qa2, qa3, qa4⟩ := ha.ix ha0
  obtain ⟨qb, rb, qb1, qb2, qb3, qb4⟩ := hb.ix hb0
  have la : (qa.length : Int) = (n : Int) := by rw [qa3.1, hn 0 ra qa2]
  have lb : (qb.length : Int) = (m : Int) := by rw [qb3.1, hm 0 rb qb2]
  have hA := ha.1
  have hB := hb.1
  simp only [f28, args0, S1, S2, S3, S4, S5, r_idx, r_mks, ev, resultsV, resL, resV, vl, gt, st, sto, fgt, i64, subCV, fill, setCells, mkAgg, allP, frz, frz1, frzL, frzs, kill, kill1, killL, kills, bnd, unV, bsz, toPs, toP, isPure1, pureL, List.elem, List.replicate, Int.reduceLE, Int.reduceLT, ↓reduceIte, reduceCtorEq, Nat.reduceLT, Nat.reduceEqDiff, Nat.reduceAdd, Nat.reduceMul, Nat.reduceLeDiff, Nat.reduceBEq, kp1 hva, kp1 hvb, e0, i0, qa1, qb1, la, lb, Int.le_refl]
  refine kc_keep' (n70 Wf.nil ha (by omega) fun ρ k cs hp hw hk hkb hro => ?_)
  simp only [S1, S2, S3, S4, S5, r_idx, r_mks, ev, resultsV, resL, resV, vl, gt, st, sto, fgt, i64, subCV, fill, setCells, mkAgg, allP, frz, frz1, frzL, frzs, kill, kill1, killL, kills, bnd, unV, bsz, toPs, toP, isPure1, pureL, List.elem, List.replicate, Int.reduceLE, Int.reduceLT, ↓reduceIte, reduceCtorEq, Nat.reduceLT, Nat.reduceEqDiff, Nat.reduceAdd, Nat.reduceMul, Nat.reduceLeDiff, Nat.reduceBEq]
  refine loop_rule (β := Nat × Store × CV) (fun t => ([(1, .p (.sl b)), (8, i64 n), (9, i64 m), (10, t.2.2), (34, .own k 0 A.length), (35, i64 A.length), (36, i64 t.1)], t.2.1))
    (fun t => t.1 ≤ A.length ∧ t.2.1[k]? = some (.kblk 1 cs) ∧ Wf t.2.1 ∧ GL t.2.1 1 t.2.2 (zm ((A.map fun r => r ++ List.replicate m 0).take t.1)) ∧ Rest t.2.1 cs A t.1) (fun t => A.length - t.1) ((0, ρ, .nils) : Nat × Store × CV) rfl rfl
    ⟨Nat.zero_le _, hkb, hw, .nil, fun j r _ hr => by obtain ⟨b, h1, _, h3⟩ := hro.own j r hr; exact ⟨b, h1, h3⟩⟩ ?_
  rintro ⟨i, τ, c⟩ ⟨hi, hk1, hw1, hG, hR⟩ ih
  simp only [] at hi hk1 hw1 hG hR ih ⊢
  by_cases hin : (i : Int) < A.length
  · have hin' : i < A.length := by omega
    obtain ⟨r, hr⟩ : ∃ r, A[i]? = some r := ⟨A[i], by simp⟩
    obtain ⟨bl, hc1, hc2⟩ := hR i r (Nat.le_refl _) hr
    have hrl := hn i r hr
    have w1 : IntKind.i64.wrap ((i : Int) + 1) = ((i + 1 : Nat) : Int) := by rw [IntWalk.i64_in _ (by omega)]; omega
    have htl : (zm ((A.map fun r => r ++ List.replicate m 0).take i)).length = i := by rw [zm_len, List.length_take, List.length_map]; omega
    have hr2 : (A.map fun r => r ++ List.replicate m 0)[i]? = some (r ++ List.replicate m 0) := by simp [hr]
    have hne := gl_ne2 hG hc2
    have hG1 : GL (τ.set bl .dead) 1 c (zm ((A.map fun r => r ++ List.replicate m 0).take i)) := hG.set_ne hne
    have hz : (PV.agg [.bool false, .sl []]).cells.length = 2 := rfl
    have hc3 : ((zr r).length + m) * 32 ≤ 140737488355328 := by rw [zr_len]; omega
    have hc4 : ((zm ((A.map fun r => r ++ List.replicate m 0).take i)).length + [PV.sl (zr r ++ List.replicate m (PV.agg [.bool false, .sl []]))].length) * 24 ≤ 140737488355328 := by rw [htl]; simp; omega
    have hs1 : zm ((A.map fun r => r ++ List.replicate m 0).take i) ++ [PV.sl (zr r ++ List.replicate m (PV.agg [.bool false, .sl []]))] = zm ((A.map fun r => r ++ List.replicate m 0).take (i + 1)) := by rw [zm_suc hr2, zr_pad]
    have rA := fun {rp rs base d l dr ks e Q s x} => r_appz_own (rp := rp) (rs := rs) (base := base) (d := d) (l := l) (dr := dr) (ks := ks) (e := e) (Q := Q) (s := s) (x := x) hc2 hc3 (by omega) hz
    have rC := fun {rp rs base d l dr ks e Q s x} => r_app_1 (rp := rp) (rs := rs) (base := base) (d := d) (l := l) (dr := dr) (ks := ks) (e := e) (Q := Q) (s := s) (x := x) (a := .dead) hG1 hc4
    simp only [S1, S2, S3, S4, S5, r_idx, r_mks, ev, resultsV, resL, resV, vl, gt, st, sto, fgt, i64, subCV, fill, setCells, mkAgg, allP, frz, frz1, frzL, frzs, kill, kill1, killL, kills, bnd, unV, bsz, toPs, toP, isPure1, pureL, List.elem, List.replicate, Int.reduceLE, Int.reduceLT, ↓reduceIte, reduceCtorEq, Nat.reduceLT, Nat.reduceEqDiff, Nat.reduceAdd, Nat.reduceMul, Nat.reduceLeDiff, Nat.reduceBEq, hin, hin', hk1, hc1, Int.natCast_nonneg, Int.toNat_natCast, Nat.mul_one, zr_len, ↓rA, ↓r_bsl_own, List.length_replicate, rC, hs1, htl, w1]
    refine ih (i + 1, nd (τ.set bl .dead) c ++ [.dead, .prow 1 [.sl (zr r ++ List.replicate m (PV.agg [.bool false, .sl []]))], .prow 1 (zm ((A.map fun r => r ++ List.replicate m 0).take (i + 1)))], .own (τ.length + 2) 0 (i + 1)) _ ⟨by simp only []; omega, ?_, ?_, ?_, ?_⟩ (by simp only []; omega) ?_
    · refine nd_get hG1 (s := 1) ?_
      rw [List.getElem?_set_ne]
      · exact hk1
      · rintro rfl; rw [hk1] at hc2; cases hc2
    · have h1 := (((nd_wf (c := c) (hw1.set (b := bl) (x := .dead) rfl)).push (x := .dead) rfl).push (x := .prow 1 [.sl (zr r ++ List.replicate m (PV.agg [.bool false, .sl []]))]) rfl).push (x := .prow 1 (zm ((A.map fun r => r ++ List.replicate m 0).take (i + 1)))) rfl
      simpa [List.append_assoc] using h1
    · refine .own ?_ (by rw [zm_len, List.length_take, List.length_map]; omega)
      simp only []
      rw [show τ.length + 2 = (nd (τ.set bl Blk.dead) c).length + 2 by rw [nd_len, List.length_set], get_app]
      rfl
    · intro j r' hj hr'
      obtain ⟨b', g1, g2⟩ := hR j r' (by simp only [] at hj; omega) hr'
      refine ⟨b', g1, nd_get2 hG1 ?_⟩
      rw [List.getElem?_set_ne]
      · exact g2
      · exact hro.ne i j bl b' _ _ (by simp only [] at hj; omega) hc1 g1
    · rfl
  · obtain rfl : i = A.length := by omega
    rw [List.take_of_length_le (by rw [List.length_map]; omega)] at hG
    simp only [S1, S2, S3, S4, S5, r_idx, r_mks, ev, resultsV, resL, resV, vl, gt, st, sto, fgt, i64, subCV, fill, setCells, mkAgg, allP, frz, frz1, frzL, frzs, kill, kill1, killL, kills, bnd, unV, bsz, toPs, toP, isPure1, pureL, List.elem, List.replicate, Int.reduceLE, Int.reduceLT, ↓reduceIte, reduceCtorEq, Nat.reduceLT, Nat.reduceEqDiff, Nat.reduceAdd, Nat.reduceMul, Nat.reduceLeDiff, Nat.reduceBEq, hin]
    refine kc_keep' (n70 hw1 hb (by omega) fun ρ2 k2 cs2 hp2 hw2 hk2 hkb2 hro2 => ?_)
    have hG2 := gl_pre hG hp2
    simp only [S1, S2, S3, S4, S5, r_idx, r_mks, ev, resultsV, resL, resV, vl, gt, st, sto, fgt, i64, subCV, fill, setCells, mkAgg, allP, frz, frz1, frzL, frzs, kill, kill1, killL, kills, bnd, unV, bsz, toPs, toP, isPure1, pureL, List.elem, List.replicate, Int.reduceLE, Int.reduceLT, ↓reduceIte, reduceCtorEq, Nat.reduceLT, Nat.reduceEqDiff, Nat.reduceAdd, Nat.reduceMul, Nat.reduceLeDiff, Nat.reduceBEq]
    refine loop_rule (β := Nat × Store × CV) (fun t => ([(8, i64 n), (10, t.2.2), (48, .own k2 0 B.length), (49, i64 B.length), (50, i64 t.1)], t.2.1))
      (fun t => t.1 ≤ B.length ∧ t.2.1[k2]? = some (.kblk 1 cs2) ∧ GL t.2.1 1 t.2.2 (zm ((A.map fun r => r ++ List.replicate m 0) ++ (B.map fun r => List.replicate n 0 ++ r).take t.1)) ∧ Rest t.2.1 cs2 B t.1) (fun t => B.length - t.1) ((0, ρ2, c) : Nat × Store × CV) rfl rfl
      ⟨Nat.zero_le _, hkb2, by simpa using hG2, fun j r _ hr => by obtain ⟨b, h1, _, h3⟩ := hro2.own j r hr; exact ⟨b, h1, h3⟩⟩ ?_
    rintro ⟨i, τ, c⟩ ⟨hi, hk1, hG, hR⟩ ih
    simp only [] at hi hk1 hG hR ih ⊢
    by_cases hin : (i : Int) < B.length
    · have hin' : i < B.length := by omega
      obtain ⟨r, hr⟩ : ∃ r, B[i]? = some r := ⟨B[i], by simp⟩
      obtain ⟨bl, hc1, hc2⟩ := hR i r (Nat.le_refl _) hr
      have hrl := hm i r hr
      have w1 : IntKind.i64.wrap ((i : Int) + 1) = ((i + 1 : Nat) : Int) := by rw [IntWalk.i64_in _ (by omega)]; omega
      have htl : (zm ((A.map fun r => r ++ List.replicate m 0) ++ (B.map fun r => List.replicate n 0 ++ r).take i)).length = A.length + i := by rw [zm_len, List.length_append, List.length_take, List.length_map, List.length_map]; omega
      have hr2 : (B.map fun r => List.replicate n 0 ++ r)[i]? = some (List.replicate n 0 ++ r) := by simp [hr]
      have hz : (PV.agg [.bool false, .sl []]).cells.length = 2 := rfl
      have hc3 : ((List.replicate n (PV.agg [.bool false, .sl []])).length + (zr r).length) * 32 ≤ 140737488355328 := by rw [zr_len, List.length_replicate]; omega
      have hc4 : ((zm ((A.map fun r => r ++ List.replicate m 0) ++ (B.map fun r => List.replicate n 0 ++ r).take i)).length + [PV.sl (List.replicate n (PV.agg [.bool false, .sl []]) ++ zr r)].length) * 24 ≤ 140737488355328 := by rw [htl]; simp; omega
      have hs1 : zm ((A.map fun r => r ++ List.replicate m 0) ++ (B.map fun r => List.replicate n 0 ++ r).take i) ++ [PV.sl (List.replicate n (PV.agg [.bool false, .sl []]) ++ zr r)] = zm ((A.map fun r => r ++ List.replicate m 0) ++ (B.map fun r => List.replicate n 0 ++ r).take (i + 1)) := by
        rw [take_suc hr2, ← List.append_assoc, zm_app (s := [_])]
        simp only [zm, List.map_cons, List.map_nil, zr_padl]
      have rA := fun {rp rs base d l dr ks e Q x y} => r_mks_n (rp := rp) (rs := rs) (base := base) (d := d) (l := l) (dr := dr) (ks := ks) (e := e) (ρ := τ) (Q := Q) (x := x) (y := y) (n := n) hz (by omega)
      have rB := fun {rp rs base d l dr ks e Q s x} => r_app_mk (rp := rp) (rs := rs) (base := base) (d := d) (l := l) (dr := dr) (ks := ks) (e := e) (Q := Q) (s := s) (x := x) hc2 hc3 zr_sz
      have rC := fun {rp rs base d l dr ks e Q s x} => r_app_2 (rp := rp) (rs := rs) (base := base) (d := d) (l := l) (dr := dr) (ks := ks) (e := e) (Q := Q) (s := s) (x := x) (a := .dead) (a2 := .dead) hG hc4
      simp only [S1, S2, S3, S4, S5, r_idx, ev, resultsV, resL, resV, vl, gt, st, sto, fgt, i64, subCV, fill, setCells, mkAgg, allP, frz, frz1, frzL, frzs, kill, kill1, killL, kills, bnd, unV, bsz, toPs, toP, isPure1, pureL, List.elem, List.replicate, Int.reduceLE, Int.reduceLT, ↓reduceIte, reduceCtorEq, Nat.reduceLT, Nat.reduceEqDiff, Nat.reduceAdd, Nat.reduceMul, Nat.reduceLeDiff, Nat.reduceBEq, hin, hin', hk1, hc1, Int.natCast_nonneg, Int.toNat_natCast, Nat.mul_one, zr_len, rA, rB, ↓r_bsl_own1, List.length_replicate, rC, hs1, htl, w1]
      refine ih (i + 1, nd τ c ++ [.dead, .dead, .prow 1 [.sl (List.replicate n (PV.agg [.bool false, .sl []]) ++ zr r)], .prow 1 (zm ((A.map fun r => r ++ List.replicate m 0) ++ (B.map fun r => List.replicate n 0 ++ r).take (i + 1)))], .own (τ.length + 3) 0 (A.length + (i + 1))) _ ⟨by simp only []; omega, nd_get hG hk1, ?_, ?_⟩ (by simp only []; omega) ?_
      · refine .own ?_ (by rw [zm_len, List.length_append, List.length_take, List.length_map, List.length_map]; omega)
        simp only []
        rw [show τ.length + 3 = (nd τ c).length + 3 by rw [nd_len], get_app]
        rfl
      · intro j r' hj hr'
        obtain ⟨b', g1, g2⟩ := hR j r' (by simp only [] at hj; omega) hr'
        exact ⟨b', g1, nd_get2 hG g2⟩
      · rfl
    · obtain rfl : i = B.length := by omega
      rw [List.take_of_length_le (by rw [List.length_map]; omega)] at hG
      simp only [S1, S2, S3, S4, S5, r_idx, r_mks, ev, resultsV, resL, resV, vl, gt, st, sto, fgt, i64, subCV, fill, setCells, mkAgg, allP, frz, frz1, frzL, frzs, kill, kill1, killL, kills, bnd, unV, bsz, toPs, toP, isPure1, pureL, List.elem, List.replicate, Int.reduceLE, Int.reduceLT, ↓reduceIte, reduceCtorEq, Nat.reduceLT, Nat.reduceEqDiff, Nat.reduceAdd, Nat.reduceMul, Nat.reduceLeDiff, Nat.reduceBEq, hin, kfg h71 hG]
      rfl
end Go.Proofs.Ytdieenbfdeaffaa.VTm

namespace Go.Proofs.Ytdieenbfdeaffaa.VTm
open Go Vpi
open VBn hiding rp tab rp_ok all_ok mixed sim Big
set_option maxRecDepth 100000
set_option linter.unusedSimpArgs false
set_option linter.unusedVariables false

theorem rp31 : rp 31 = some f31 := rfl
theorem rp73 : rp 73 = some f73 := rfl
theorem rp30 : rp 30 = some f30 := rfl
theorem rp74 : rp 74 = some f74 := rfl
theorem rp75 : rp 75 = some f75 := rfl
theorem rp36 : rp 36 = some f36 := rfl
theorem rp32 : rp 32 = some f32 := rfl

/-! ### one -/

theorem n31 {a : List PV} : Rn rp 31 ([PV.sl a].map .p) [] fun v τ => ∃ b, v = .own b 0 [PV.sl a].length ∧ τ[b]? = some (.prow 1 [.sl a]) := by
  rw [rn_of rp31]
  simp only [f31, List.map_cons, List.map_nil, args0, S1, S2, S3, S4, S5, r_idx, r_mks, ev, resultsV, resL, resV, vl, gt, st, sto, fgt, i64, subCV, fill, setCells, mkAgg, allP, frz, frz1, frzL, frzs, kill, kill1, killL, kills, bnd, unV, bsz, toPs, toP, isPure1, pureL, List.elem, List.replicate, Int.reduceLE, Int.reduceLT, ↓reduceIte, reduceCtorEq, Nat.reduceLT, Nat.reduceEqDiff, Nat.reduceAdd, Nat.reduceMul, Nat.reduceLeDiff, Nat.reduceBEq, r_append, content, List.getElem?_cons_zero]
  exact ⟨_, rfl, rfl⟩

theorem p31 {a : List PV} : Pu rp 31 [.sl a] (.p (.sl [.sl a])) := by
  refine pu_of rp31 ?_
  simp only [f31, args0, S1, S2, S3, S4, S5, r_idx, r_mks, ev, resultsV, resL, resV, vl, gt, st, sto, fgt, i64, subCV, fill, setCells, mkAgg, allP, frz, frz1, frzL, frzs, kill, kill1, killL, kills, bnd, unV, bsz, toPs, toP, isPure1, pureL, List.elem, List.replicate, Int.reduceLE, Int.reduceLT, ↓reduceIte, reduceCtorEq, Nat.reduceLT, Nat.reduceEqDiff, Nat.reduceAdd, Nat.reduceMul, Nat.reduceLeDiff, Nat.reduceBEq, r_append, content, List.getElem?_cons_zero]
  rfl

/-! ### Opt -/

theorem p73 : Pu rp 73 [.agg [.int .i64 1, .int .i64 1, .bool false]] (.p (.bool true)) := by
  refine pu_of rp73 ?_
  have e1 : decide ((1 : Int) ≥ 1) = true := rfl
  have e2 : decide ((1 : Int) ≤ 64) = true := rfl
  have e3 : decide ((1 : Int) ≤ 1048576) = true := rfl
  simp only [f73, args0, S1, S2, S3, S4, S5, r_idx, r_mks, ev, resultsV, resL, resV, vl, gt, st, sto, fgt, i64, subCV, fill, setCells, mkAgg, allP, frz, frz1, frzL, frzs, kill, kill1, killL, kills, bnd, unV, bsz, toPs, toP, isPure1, pureL, List.elem, List.replicate, Int.reduceLE, Int.reduceLT, ↓reduceIte, reduceCtorEq, Nat.reduceLT, Nat.reduceEqDiff, Nat.reduceAdd, Nat.reduceMul, Nat.reduceLeDiff, Nat.reduceBEq, e1, e2, e3]
  rfl

/-! ### Check -/

/-- the first that is not 0 -/
def fst0 : List Int → Int
  | [] => 0
  | x :: l => if x = 0 then fst0 l else x

theorem fst0_at : ∀ {vs : List Int} {i : Nat} {v : Int}, (∀ j, j < i → vs[j]? = some 0) → vs[i]? = some v → v ≠ 0 → fst0 vs = v
  | [], i, v, _, h, _ => by simp at h
  | x :: l, 0, v, _, h, hv => by simp at h; subst h; simp [fst0, hv]
  | x :: l, i + 1, v, h0, h, hv => by
    have h1 := h0 0 (Nat.succ_pos _)
    simp at h1
    subst h1
    rw [fst0, if_pos rfl]
    exact fst0_at (fun j hj => by have := h0 (j + 1) (Nat.succ_lt_succ hj); simpa using this) (by simpa using h) hv
theorem fst0_none : ∀ {vs : List Int}, (∀ j, j < vs.length → vs[j]? = some 0) → fst0 vs = 0
  | [], _ => rfl
  | x :: l, h => by
    have h1 := h 0 (Nat.succ_pos _)
    simp at h1
    subst h1
    rw [fst0, if_pos rfl]
    exact fst0_none fun j hj => by have := h (j + 1) (by simpa using hj); simpa using this

theorem p30 {l : List PV} {vs : List Int} (hl : l.length = vs.length) (hm : l.length ≤ 2000000) (h : ∀ i, i < l.length → ∃ b v, l[i]? = some (.sl b) ∧ vs[i]? = some v ∧ Pu rp 61 [.sl b] (.p (.int .i64 v))) :
    Pu rp 30 [.sl l, .agg [.int .i64 1, .int .i64 1, .bool false]] (.p (.int .i64 (fst0 vs))) := by
  refine pu_of rp30 ?_
  simp only [f30, args0, S1, S2, S3, S4, S5, r_idx, r_mks, ev, resultsV, resL, resV, vl, gt, st, sto, fgt, i64, subCV, fill, setCells, mkAgg, allP, frz, frz1, frzL, frzs, kill, kill1, killL, kills, bnd, unV, bsz, toPs, toP, isPure1, pureL, List.elem, List.replicate, Int.reduceLE, Int.reduceLT, ↓reduceIte, reduceCtorEq, Nat.reduceLT, Nat.reduceEqDiff, Nat.reduceAdd, Nat.reduceMul, Nat.reduceLeDiff, Nat.reduceBEq]
  refine loop_rule (β := Nat) (fun t => ([(0, .p (.sl l)), (3, .ptr 0 0 0), (5, i64 t)], [.kblk 3 [.p (.int .i64 1), .p (.int .i64 1), .p (.bool false)]]))
    (fun t => t ≤ l.length ∧ ∀ j, j < t → vs[j]? = some 0) (fun t => l.length - t) 0 rfl rfl ⟨Nat.zero_le _, fun j hj => by omega⟩ ?_
  rintro i ⟨hi, h0⟩ ih
  simp only [] at hi h0 ih ⊢
  by_cases hin : (i : Int) < l.length
  · obtain ⟨b, v, h1, h2, h3⟩ := h i (by omega)
    have w1 : IntKind.i64.wrap ((i : Int) + 1) = ((i + 1 : Nat) : Int) := by rw [IntWalk.i64_in _ (by omega)]; omega
    by_cases hv : v = 0
    · subst hv
      have e0 : ((0 : Int) != 0) = false := rfl
      simp only [S1, S2, S3, S4, S5, r_idx, r_mks, ev, resultsV, resL, resV, vl, gt, st, sto, fgt, i64, subCV, fill, setCells, mkAgg, allP, frz, frz1, frzL, frzs, kill, kill1, killL, kills, bnd, unV, bsz, toPs, toP, isPure1, pureL, List.elem, List.replicate, Int.reduceLE, Int.reduceLT, ↓reduceIte, reduceCtorEq, Nat.reduceLT, Nat.reduceEqDiff, Nat.reduceAdd, Nat.reduceMul, Nat.reduceLeDiff, Nat.reduceBEq, hin, h1, Int.natCast_nonneg, Int.toNat_natCast, kp1 h3, e0, w1]
      refine ih (i + 1) _ ⟨by omega, fun j hj => ?_⟩ (by omega) ?_
      · rcases Nat.lt_or_ge j i with hji | hji
        · exact h0 j hji
        · obtain rfl : j = i := by omega
          exact h2
      · rfl
    · have e1 : (v != 0) = true := by simp [hv]
      rw [fst0_at h0 h2 hv]
      simp only [S1, S2, S3, S4, S5, r_idx, r_mks, ev, resultsV, resL, resV, vl, gt, st, sto, fgt, i64, subCV, fill, setCells, mkAgg, allP, frz, frz1, frzL, frzs, kill, kill1, killL, kills, bnd, unV, bsz, toPs, toP, isPure1, pureL, List.elem, List.replicate, Int.reduceLE, Int.reduceLT, ↓reduceIte, reduceCtorEq, Nat.reduceLT, Nat.reduceEqDiff, Nat.reduceAdd, Nat.reduceMul, Nat.reduceLeDiff, Nat.reduceBEq, hin, h1, Int.natCast_nonneg, Int.toNat_natCast, kp1 h3, e1]
      rfl
  · obtain rfl : i = l.length := by omega
    rw [fst0_none (fun j hj => h0 j (by omega))]
    simp only [S1, S2, S3, S4, S5, r_idx, r_mks, ev, resultsV, resL, resV, vl, gt, st, sto, fgt, i64, subCV, fill, setCells, mkAgg, allP, frz, frz1, frzL, frzs, kill, kill1, killL, kills, bnd, unV, bsz, toPs, toP, isPure1, pureL, List.elem, List.replicate, Int.reduceLE, Int.reduceLT, ↓reduceIte, reduceCtorEq, Nat.reduceLT, Nat.reduceEqDiff, Nat.reduceAdd, Nat.reduceMul, Nat.reduceLeDiff, Nat.reduceBEq, hin, kp1 p73, Bool.not_true]
    rfl

/-! ### rows -/

theorem n74 {kp : PV} {k : Int} {r : List PV} {xs : List Int} (hk : Nu kp k) (h : NL r xs) (hm : r.length ≤ 2000000) : Rn rp 74 ([kp, PV.sl r].map .p) [] fun v τ => GL τ 2 v (zr (xs.map (k * ·))) := by
  obtain ⟨a, b, rfl⟩ := Nu.agg hk
  rw [rn_of rp74]
  simp only [f74, List.map_cons, List.map_nil, args0, S1, S2, S3, S4, S5, r_idx, r_mks, ev, resultsV, resL, resV, vl, gt, st, sto, fgt, i64, subCV, fill, setCells, mkAgg, allP, frz, frz1, frzL, frzs, kill, kill1, killL, kills, bnd, unV, bsz, toPs, toP, isPure1, pureL, List.elem, List.replicate, Int.reduceLE, Int.reduceLT, ↓reduceIte, reduceCtorEq, Nat.reduceLT, Nat.reduceEqDiff, Nat.reduceAdd, Nat.reduceMul, Nat.reduceLeDiff, Nat.reduceBEq]
  refine loop_rule (β := Nat × Store × CV) (fun t => ([(1, .p (.sl r)), (2, .ptr 0 0 0), (5, t.2.2), (6, i64 t.1)], t.2.1))
    (fun t => t.1 ≤ r.length ∧ t.2.1[0]? = some (.kblk 2 [.p (.bool a), .p (.sl b)]) ∧ GL t.2.1 2 t.2.2 (zr ((xs.map (k * ·)).take t.1))) (fun t => r.length - t.1) ((0, _, .nils) : Nat × Store × CV) rfl rfl ⟨Nat.zero_le _, rfl, .nil⟩ ?_
  rintro ⟨i, ρ, c⟩ ⟨hi, h0, hG⟩ ih
  simp only [] at hi h0 hG ih ⊢
  have hl : (xs.map (k * ·)).length = r.length := by rw [List.length_map, h.1]
  by_cases hin : (i : Int) < r.length
  · obtain ⟨p, x, p1, p2, p3⟩ := h.ix (i := i) (by omega)
    have k117 := (p117 hk p3).lift base_le
    obtain ⟨_, _, rfl⟩ := Nu.agg p3
    have hy : (xs.map (k * ·))[i]? = some (k * x) := by simp [p2]
    have w1 : IntKind.i64.wrap ((i : Int) + 1) = ((i + 1 : Nat) : Int) := by rw [IntWalk.i64_in _ (by omega)]; omega
    have htl : (zr ((xs.map (k * ·)).take i)).length = i := by rw [zr_len, List.length_take]; omega
    have hc : ((zr ((xs.map (k * ·)).take i)).length + [zi (k * x)].length) * 32 ≤ 140737488355328 := by rw [htl]; simp; omega
    have h0' : ∀ l, (ρ ++ l)[0]? = some (.kblk 2 [.p (.bool a), .p (.sl b)]) := fun l => by rw [get_left (List.getElem?_eq_some_iff.1 h0).1, h0]
    have hA := fun {rp rs base d l dr ks e Q s x} hb => r_app_sl (rp := rp) (rs := rs) (base := base) (d := d) (l := l) (dr := dr) (ks := ks) (e := e) (Q := Q) (s := s) (x := x) hb hG hc
    simp only [S1, S2, S3, S4, S5, r_idx, r_mks, ev, resultsV, resL, resV, vl, gt, st, sto, fgt, i64, subCV, fill, setCells, mkAgg, allP, frz, frz1, frzL, frzs, kill, kill1, killL, kills, bnd, unV, bsz, toPs, toP, isPure1, pureL, List.elem, List.replicate, Int.reduceLE, Int.reduceLT, ↓reduceIte, reduceCtorEq, Nat.reduceLT, Nat.reduceEqDiff, Nat.reduceAdd, Nat.reduceMul, Nat.reduceLeDiff, Nat.reduceBEq, hin, p1, h0', Int.natCast_nonneg, Int.toNat_natCast, kp2 k117, push_sl, hA rfl, ← zr_suc hy, htl, w1]
    refine ih (i + 1, nd ρ c ++ [.prow 2 [zi (k * x)], .prow 2 (zr ((xs.map (k * ·)).take (i + 1)))], .own (ρ.length + 1) 0 (i + 1)) _ ⟨by simp only []; omega, nd_get hG h0, ?_⟩ (by simp only []; omega) ?_
    · exact GL.new2 (by rw [zr_len, List.length_take]; omega) rfl
    · rfl
  · obtain rfl : i = r.length := by omega
    rw [List.take_of_length_le (by omega)] at hG
    simp only [S1, S2, S3, S4, S5, r_idx, r_mks, ev, resultsV, resL, resV, vl, gt, st, sto, fgt, i64, subCV, fill, setCells, mkAgg, allP, frz, frz1, frzL, frzs, kill, kill1, killL, kills, bnd, unV, bsz, toPs, toP, isPure1, pureL, List.elem, List.replicate, Int.reduceLE, Int.reduceLT, ↓reduceIte, reduceCtorEq, Nat.reduceLT, Nat.reduceEqDiff, Nat.reduceAdd, Nat.reduceMul, Nat.reduceLeDiff, Nat.reduceBEq, hin]
    exact hG

theorem p74 {kp : PV} {k : Int} {r : List PV} {xs : List Int} (hk : Nu kp k) (h : NL r xs) (hm : r.length ≤ 2000000) : Pu rp 74 [kp, .sl r] (.p (.sl (zr (xs.map (k * ·))))) :=
  (n74 hk h hm).mono fun _ _ hG => hG.back

theorem made_of {f : Nat} {ps es : List PV} {s : Nat} (h : Rn rp f (ps.map .p) [] fun v τ => GL τ s v es) (h0 : 0 < es.length) : Rn rp f (ps.map .p) [] fun v τ => ∃ b, v = .own b 0 es.length ∧ τ[b]? = some (.prow s es) :=
  h.mono fun v τ hG => by
    obtain ⟨k, h1, h2, _⟩ := GL.own_of hG rfl h0
    exact ⟨k, h1, h2⟩

theorem n75 {n : Nat} (hm : n ≤ 2000000) : Rn rp 75 ([PV.int .i64 n].map .p) [] fun v τ => GL τ 2 v (zr (List.replicate n 0)) := by
  rw [rn_of rp75]
  have k0 := (VBn.p66 (x := 0) (by decide) (by decide)).lift base_le
  simp only [f75, List.map_cons, List.map_nil, args0, S1, S2, S3, S4, S5, r_idx, r_mks, ev, resultsV, resL, resV, vl, gt, st, sto, fgt, i64, subCV, fill, setCells, mkAgg, allP, frz, frz1, frzL, frzs, kill, kill1, killL, kills, bnd, unV, bsz, toPs, toP, isPure1, pureL, List.elem, List.replicate, Int.reduceLE, Int.reduceLT, ↓reduceIte, reduceCtorEq, Nat.reduceLT, Nat.reduceEqDiff, Nat.reduceAdd, Nat.reduceMul, Nat.reduceLeDiff, Nat.reduceBEq]
  refine loop_rule (β := Nat × Store × CV) (fun t => ([(0, i64 n), (3, t.2.2), (4, i64 t.1)], t.2.1))
    (fun t => t.1 ≤ n ∧ GL t.2.1 2 t.2.2 (zr (List.replicate t.1 0))) (fun t => n - t.1) ((0, [], .nils) : Nat × Store × CV) rfl rfl ⟨Nat.zero_le _, .nil⟩ ?_
  rintro ⟨i, ρ, c⟩ ⟨hi, hG⟩ ih
  simp only [] at hi hG ih ⊢
  by_cases hin : (i : Int) < n
  · have w1 : IntKind.i64.wrap ((i : Int) + 1) = ((i + 1 : Nat) : Int) := by rw [IntWalk.i64_in _ (by omega)]; omega
    have htl : (zr (List.replicate i 0)).length = i := by rw [zr_len, List.length_replicate]
    have hc : ((zr (List.replicate i 0)).length + [zi 0].length) * 32 ≤ 140737488355328 := by rw [htl]; simp; omega
    have hs : zr (List.replicate i 0) ++ [zi 0] = zr (List.replicate (i + 1) 0) := by rw [List.replicate_succ', zr_app]; rfl
    simp only [S1, S2, S3, S4, S5, r_idx, r_mks, ev, resultsV, resL, resV, vl, gt, st, sto, fgt, i64, subCV, fill, setCells, mkAgg, allP, frz, frz1, frzL, frzs, kill, kill1, killL, kills, bnd, unV, bsz, toPs, toP, isPure1, pureL, List.elem, List.replicate, Int.reduceLE, Int.reduceLT, ↓reduceIte, reduceCtorEq, Nat.reduceLT, Nat.reduceEqDiff, Nat.reduceAdd, Nat.reduceMul, Nat.reduceLeDiff, Nat.reduceBEq, hin, kp1 k0, r_app hG hc, hs, htl, w1]
    refine ih (i + 1, nd ρ c ++ [.prow 2 [zi 0], .prow 2 (zr (List.replicate (i + 1) 0))], .own (ρ.length + 1) 0 (i + 1)) _ ⟨by simp only []; omega, ?_⟩ (by simp only []; omega) ?_
    · exact GL.new2 (by rw [zr_len, List.length_replicate]) rfl
    · rfl
  · obtain rfl : i = n := by omega
    simp only [S1, S2, S3, S4, S5, r_idx, r_mks, ev, resultsV, resL, resV, vl, gt, st, sto, fgt, i64, subCV, fill, setCells, mkAgg, allP, frz, frz1, frzL, frzs, kill, kill1, killL, kills, bnd, unV, bsz, toPs, toP, isPure1, pureL, List.elem, List.replicate, Int.reduceLE, Int.reduceLT, ↓reduceIte, reduceCtorEq, Nat.reduceLT, Nat.reduceEqDiff, Nat.reduceAdd, Nat.reduceMul, Nat.reduceLeDiff, Nat.reduceBEq, hin]
    exact hG

theorem p75 {n : Nat} (hm : n ≤ 2000000) : Pu rp 75 [.int .i64 n] (.p (.sl (zr (List.replicate n 0)))) :=
  (n75 hm).mono fun _ _ hG => hG.back

section
variable {rp : RProg} {rs : List RRes} {base : Nat} {d : Option Nat} {l : List LOp} {dr : Dr} {ks : List KI} {e : Env} {σ : Store} {Q : CV → Store → Prop} {sz : Nat} {c : CV} {es : List PV}
theorem kpk_gl {f : Nat} {r u : CV} (h : Pu rp f [.sl es] r) (hg : GL σ sz c es) (hu : scal (some r) = some u) : KC rp rs base .peek f [c] d l dr ks e σ Q = ExR rp rs base l dr ks (sto d u e) σ Q :=
  kc_peek h (by simp only [frzs, hg.frz, Option.map_some]) hu
end

/-! ### Scale -/

theorem p36 {b : List PV} {M : List (List Int)} {kp : PV} {k : Int} {v : Int} (hk : Nu kp k) (h : ML b M) (hm : b.length ≤ 2000000) (hk0 : k ≠ 0)
    (h61 : Pu rp 61 [.sl (zm (M.map fun r => r.map (k * ·)))] (.p (.int .i64 v))) :
    Pu rp 36 [.sl b, kp] (.tup [.p (.sl (if v = 0 then zm (M.map fun r => r.map (k * ·)) else [])), .p (.int .i64 v)]) := by
  have k79 := (p79 hk).lift base_le
  obtain ⟨a1, a2, rfl⟩ := Nu.agg hk
  refine pu_of rp36 ?_
  have hs0 : (k.sign == 0) = false := by
    rw [beq_eq_false_iff_ne]
    exact fun h => hk0 (Int.sign_eq_zero_iff_zero.1 h)
  simp only [f36, args0, S1, S2, S3, S4, S5, r_idx, r_mks, ev, resultsV, resL, resV, vl, gt, st, sto, fgt, i64, subCV, fill, setCells, mkAgg, allP, frz, frz1, frzL, frzs, kill, kill1, killL, kills, bnd, unV, bsz, toPs, toP, isPure1, pureL, List.elem, List.replicate, Int.reduceLE, Int.reduceLT, ↓reduceIte, reduceCtorEq, Nat.reduceLT, Nat.reduceEqDiff, Nat.reduceAdd, Nat.reduceMul, Nat.reduceLeDiff, Nat.reduceBEq, kp1 k79, hs0]
  have hl := h.1
  refine loop_rule (β := Nat × Store × CV) (fun t => ([(0, .p (.sl b)), (3, .ptr 0 0 0), (6, t.2.2), (7, i64 t.1)], t.2.1))
    (fun t => t.1 ≤ b.length ∧ t.2.1[0]? = some (.kblk 2 [.p (.bool a1), .p (.sl a2)]) ∧ GL t.2.1 1 t.2.2 (zm ((M.map fun r => r.map (k * ·)).take t.1))) (fun t => b.length - t.1) ((0, [.kblk 2 [.p (.bool a1), .p (.sl a2)]], .nils) : Nat × Store × CV) rfl rfl
    ⟨Nat.zero_le _, rfl, .nil⟩ ?_
  rintro ⟨i, ρ, c⟩ ⟨hi, h0, hG⟩ ih
  simp only [] at hi h0 hG ih ⊢
  by_cases hin : (i : Int) < b.length
  · obtain ⟨q, r, h1, h2, h3, h4⟩ := h.ix (i := i) (by omega)
    have k74 := p74 hk h3 h4
    have w1 : IntKind.i64.wrap ((i : Int) + 1) = ((i + 1 : Nat) : Int) := by rw [IntWalk.i64_in _ (by omega)]; omega
    have htl : (zm ((M.map fun r => r.map (k * ·)).take i)).length = i := by rw [zm_len, List.length_take, List.length_map]; omega
    have hc : ((zm ((M.map fun r => r.map (k * ·)).take i)).length + [PV.sl (zr (r.map (k * ·)))].length) * 24 ≤ 140737488355328 := by rw [htl]; simp; omega
    have h2' : (M.map fun r => r.map (k * ·))[i]? = some (r.map (k * ·)) := by simp [h2]
    have h0' : ∀ l, (ρ ++ l)[0]? = some (.kblk 2 [.p (.bool a1), .p (.sl a2)]) := fun l => by rw [get_left (List.getElem?_eq_some_iff.1 h0).1, h0]
    have hA := fun {rp rs base d l dr ks e Q s x} hb => r_app_sl (rp := rp) (rs := rs) (base := base) (d := d) (l := l) (dr := dr) (ks := ks) (e := e) (Q := Q) (s := s) (x := x) hb hG hc
    simp only [S1, S2, S3, S4, S5, r_idx, r_mks, ev, resultsV, resL, resV, vl, gt, st, sto, fgt, i64, subCV, fill, setCells, mkAgg, allP, frz, frz1, frzL, frzs, kill, kill1, killL, kills, bnd, unV, bsz, toPs, toP, isPure1, pureL, List.elem, List.replicate, Int.reduceLE, Int.reduceLT, ↓reduceIte, reduceCtorEq, Nat.reduceLT, Nat.reduceEqDiff, Nat.reduceAdd, Nat.reduceMul, Nat.reduceLeDiff, Nat.reduceBEq, hin, h0', h1, Int.natCast_nonneg, Int.toNat_natCast, kp2 k74, push_sl, hA rfl, ← zm_suc h2', htl, w1]
    refine ih (i + 1, nd ρ c ++ [.prow 1 [.sl (zr (r.map (k * ·)))], .prow 1 (zm ((M.map fun r => r.map (k * ·)).take (i + 1)))], .own (ρ.length + 1) 0 (i + 1)) _ ⟨by simp only []; omega, nd_get hG h0, ?_⟩ (by simp only []; omega) ?_
    · exact GL.new2 (by rw [zm_len, List.length_take, List.length_map]; omega) rfl
    · rfl
  · obtain rfl : i = b.length := by omega
    rw [List.take_of_length_le (by rw [List.length_map]; omega)] at hG
    by_cases hv : v = 0
    · subst hv
      have e0 : ((0 : Int) != 0) = false := rfl
      simp only [S1, S2, S3, S4, S5, r_idx, r_mks, ev, resultsV, resL, resV, vl, gt, st, sto, fgt, i64, subCV, fill, setCells, mkAgg, allP, frz, frz1, frzL, frzs, kill, kill1, killL, kills, bnd, unV, bsz, toPs, toP, isPure1, pureL, List.elem, List.replicate, Int.reduceLE, Int.reduceLT, ↓reduceIte, reduceCtorEq, Nat.reduceLT, Nat.reduceEqDiff, Nat.reduceAdd, Nat.reduceMul, Nat.reduceLeDiff, Nat.reduceBEq, hin, kpk_gl h61 hG rfl, e0]
      exact back_t2 hG.back1 back1_p
    · have e1 : (v != 0) = true := by simp [hv]
      rw [if_neg hv]
      simp only [S1, S2, S3, S4, S5, r_idx, r_mks, ev, resultsV, resL, resV, vl, gt, st, sto, fgt, i64, subCV, fill, setCells, mkAgg, allP, frz, frz1, frzL, frzs, kill, kill1, killL, kills, bnd, unV, bsz, toPs, toP, isPure1, pureL, List.elem, List.replicate, Int.reduceLE, Int.reduceLT, ↓reduceIte, reduceCtorEq, Nat.reduceLT, Nat.reduceEqDiff, Nat.reduceAdd, Nat.reduceMul, Nat.reduceLeDiff, Nat.reduceBEq, hin, kpk_gl h61 hG rfl, e1]
      rfl

theorem z36 {b : List PV} {kp : PV} (hk : Nu kp 0) : Pu rp 36 [.sl b, kp] (.tup [.p (.sl []), .p (.int .i64 1)]) := by
  have k79 := (p79 hk).lift base_le
  obtain ⟨a1, a2, rfl⟩ := Nu.agg hk
  refine pu_of rp36 ?_
  have hs0 : ((0 : Int).sign == 0) = true := rfl
  simp only [f36, args0, S1, S2, S3, S4, S5, r_idx, r_mks, ev, resultsV, resL, resV, vl, gt, st, sto, fgt, i64, subCV, fill, setCells, mkAgg, allP, frz, frz1, frzL, frzs, kill, kill1, killL, kills, bnd, unV, bsz, toPs, toP, isPure1, pureL, List.elem, List.replicate, Int.reduceLE, Int.reduceLT, ↓reduceIte, reduceCtorEq, Nat.reduceLT, Nat.reduceEqDiff, Nat.reduceAdd, Nat.reduceMul, Nat.reduceLeDiff, Nat.reduceBEq, kp1 k79, hs0]
  rfl

/-! ### Sum -/

section
variable {rp : RProg} {rs : List RRes} {base : Nat} {d : Option Nat} {l : List LOp} {dr : Dr} {ks : List KI} {e : Env} {ρ : Store} {Q : CV → Store → Prop}

/-- append of a value to the last block -/
theorem r_app_p {sz bytes : Nat} {zs es : List PV} {s x : Opd} (hc : (zs.length + es.length) * bytes ≤ 140737488355328) (hz : allSz sz es = true) (hs : vl e s = .own ρ.length 0 zs.length) (hx : vl e x = .p (.sl es)) :
    ExR rp rs base (⟨d, none, none, .append sz bytes s x⟩ :: l) dr ks e (ρ ++ [.prow sz zs]) Q = ExR rp rs base l dr ks (sto d (.own (ρ.length + 1) 0 (zs.length + es.length)) e) (ρ ++ [.dead, .prow sz (zs ++ es)]) Q := by
  rw [r_append]
  have h1 : content (ρ ++ [.prow sz zs]) (.own ρ.length 0 zs.length) = some zs := cont_own (s := sz) (by rw [get_app0]; rfl) rfl
  have h3 : (ρ ++ [Blk.prow sz zs])[ρ.length]? = some (.prow sz zs) := by rw [get_app0]; rfl
  simp only [ev, hs, hx, h1, cont_p]
  rw [if_pos ⟨hc, hz⟩]
  simp only [h3, if_true, push_none, Option.map_some, ke_some, List.length_set, List.length_append, List.length_cons, List.length_nil, set_app0, List.set_cons_zero, List.append_assoc, List.cons_append, List.nil_append]

theorem r_sl0 {sz bytes : Nat} {zs es : List PV} {s x : Opd} (hc : (zs.length + es.length) * bytes ≤ 140737488355328) (hz : allSz sz es = true) (hs : vl e s = .own ρ.length 0 zs.length) (hx : vl e x = .p (.sl es)) :
    ExR rp rs (ρ.length + 1) (⟨d, none, some 0, .append sz bytes s x⟩ :: l) dr ks e (ρ ++ [.prow sz zs, .hole, .hole, .hole]) Q = ExR rp rs (ρ.length + 1) l dr ks (sto d (.own (ρ.length + 1) 0 (zs.length + es.length)) e) (ρ ++ [.dead, .prow sz (zs ++ es), .hole, .hole]) Q := by
  rw [r_append]
  have h1 : content (ρ ++ [.prow sz zs, .hole, .hole, .hole]) (.own ρ.length 0 zs.length) = some zs := cont_own (s := sz) (by rw [get_app0]; rfl) rfl
  have h3 : (ρ ++ [Blk.prow sz zs, .hole, .hole, .hole])[ρ.length]? = some (.prow sz zs) := by rw [get_app0]; rfl
  simp only [ev, hs, hx, h1, cont_p]
  rw [if_pos ⟨hc, hz⟩]
  simp only [h3, if_true, push_sl, Nat.add_zero, set_app0, List.set_cons_zero, get_app, set_app, List.getElem?_cons_succ, List.getElem?_cons_zero, List.set_cons_succ, Option.map_some, ke_some]

theorem r_sl1 {a : Blk} {ws : List PV} {x : Opd} {s : Nat} (hx : vl e x = .own (ρ.length + 1) 0 ws.length) :
    ExR rp rs (ρ.length + 1) (⟨d, none, some 1, .bslice 1 [x]⟩ :: l) dr ks e (ρ ++ [a, .prow s ws, .hole, .hole]) Q = ExR rp rs (ρ.length + 1) l dr ks (sto d (.own (ρ.length + 2) 0 1) e) (ρ ++ [a, .dead, .prow 1 [.sl ws], .hole]) Q := by
  rw [r_bslice]
  have h1 : frzs (ρ ++ [a, .prow s ws, .hole, .hole]) [.own (ρ.length + 1) 0 ws.length] = some [.sl ws] := by
    simp only [frzs, frz, frz1_own (show (ρ ++ [a, Blk.prow s ws, .hole, .hole])[ρ.length + 1]? = some (.prow s ws) by rw [get_app]; rfl) rfl, Option.map_some]
  have h2 : kills (ρ ++ [a, .prow s ws, .hole, .hole]) [.own (ρ.length + 1) 0 ws.length] = ρ ++ [a, .dead, .hole, .hole] := by
    simp only [kills, List.foldl_cons, List.foldl_nil, kill, kill1, set_app, List.set_cons_zero, List.set_cons_succ]
  have h3 : ρ.length + 1 + 1 = ρ.length + 2 := rfl
  simp only [ev, List.map_cons, List.map_nil, hx, h1, h2]
  rw [if_pos (show allSz 1 [PV.sl ws] = true from rfl)]
  simp only [push_sl, h3, get_app, set_app, List.getElem?_cons_succ, List.getElem?_cons_zero, List.set_cons_succ, List.set_cons_zero, Option.map_some, ke_some, List.length_cons, List.length_nil, Nat.zero_add]

theorem r_sl2 {a a2 : Blk} {sz bytes : Nat} {c : CV} {es xs : List PV} {s x : Opd} (h : GL ρ sz c es) (hc : (es.length + xs.length) * bytes ≤ 140737488355328) (hs : vl e s = c) (hx : vl e x = .own (ρ.length + 2) 0 xs.length) (hz : allSz sz xs = true) :
    ExR rp rs (ρ.length + 1) (⟨d, none, some 2, .append sz bytes s x⟩ :: l) dr ks e (ρ ++ [a, a2, .prow sz xs, .hole]) Q = ExR rp rs (ρ.length + 1) l dr ks (sto d (.own (ρ.length + 3) 0 (es.length + xs.length)) e) (nd ρ c ++ [a, a2, .prow sz xs, .prow sz (es ++ xs)]) Q := by
  rw [r_append]
  have h1 : content (ρ ++ [a, a2, .prow sz xs, .hole]) c = some es := h.left.content
  have h2 : content (ρ ++ [a, a2, .prow sz xs, .hole]) (.own (ρ.length + 2) 0 xs.length) = some xs := cont_own (s := sz) (by rw [get_app]; rfl) rfl
  have h3 : ρ.length + 1 + 2 = ρ.length + 3 := rfl
  have hlt := h.lt.2
  simp only [ev, hs, hx, h1, h2]
  rw [if_pos ⟨hc, hz⟩]
  rcases h with ⟨rfl, rfl⟩ | ⟨b, rfl, hb⟩
  · simp only [push_sl, h3, get_app, set_app, List.getElem?_cons_succ, List.getElem?_cons_zero, List.set_cons_succ, List.set_cons_zero, Option.map_some, ke_some, nd, List.nil_append]
  · have hlb := hlt _ _ _ rfl
    have hb' : (ρ ++ [a, a2, .prow sz xs, .hole])[b]? = some (.prow sz es) := by rw [List.getElem?_append_left hlb]; exact hb
    have e1 : ∀ l : Store, (ρ.set b .dead ++ l)[ρ.length + 3]? = l[3]? := fun l => by rw [show ρ.length + 3 = (ρ.set b Blk.dead).length + 3 by rw [List.length_set], get_app]
    have e2 : ∀ (l : Store) (x : Blk), (ρ.set b .dead ++ l).set (ρ.length + 3) x = ρ.set b .dead ++ l.set 3 x := fun l x => by rw [show ρ.length + 3 = (ρ.set b Blk.dead).length + 3 by rw [List.length_set], set_app]
    simp only [hb', if_true, push_sl, h3, set_left hlb, e1, e2, List.getElem?_cons_succ, List.getElem?_cons_zero, List.set_cons_succ, List.set_cons_zero, Option.map_some, ke_some, nd]
end

theorem map_one {r : List Int} : r.map (1 * ·) = r := by simp

theorem p32 {a b : List PV} {A B : List (List Int)} {n m : Nat} (ha : ML a A) (hb : ML b B)
    (ha0 : 0 < a.length) (hla : a.length ≤ 12) (hb0 : 0 < b.length) (hlb : b.length ≤ 12) (hn : ∀ (i : Nat) (r : List Int), A[i]? = some r → r.length = n) (hm : ∀ (i : Nat) (r : List Int), B[i]? = some r → r.length = m) (hn12 : n ≤ 12) (hm12 : m ≤ 12) (hn0 : 0 < n) (hm0 : 0 < m)
    {v : Int} (h61 : Pu rp 61 [.sl (zm (sumM n m A B))] (.p (.int .i64 v))) : Pu rp 32 [.sl a, .sl b] (.tup [.p (.sl (if v = 0 then zm (sumM n m A B) else [])), .p (.int .i64 v)]) := by
  refine pu_of rp32 ?_
  have i0 : Int.toNat 0 = 0 := rfl
  obtain ⟨qa, ra, qa1, qa2, qa3, qa4⟩ := ha.ix ha0
  obtain ⟨qb, rb, qb1, qb2, qb3, qb4⟩ := hb.ix hb0
  have la : (qa.length : Int) = (n : Int) := by rw [qa3.1, hn 0 ra qa2]
  have lb : (qb.length : Int) = (m : Int) := by rw [qb3.1, hm 0 rb qb2]
  have hA := ha.1
  have hB := hb.1
  have k1 := (VBn.p66 (x := 1) (by decide) (by decide)).lift base_le
  have N1 : Nu (zi 1) 1 := Nu.zi (Sz.small (by decide))
  simp only [f32, args0, S1, S2, S3, S4, S5, r_idx, r_mks, ev, resultsV, resL, resV, vl, gt, st, sto, fgt, i64, subCV, fill, setCells, mkAgg, allP, frz, frz1, frzL, frzs, kill, kill1, killL, kills, bnd, unV, bsz, toPs, toP, isPure1, pureL, List.elem, List.replicate, Int.reduceLE, Int.reduceLT, ↓reduceIte, reduceCtorEq, Nat.reduceLT, Nat.reduceEqDiff, Nat.reduceAdd, Nat.reduceMul, Nat.reduceLeDiff, Nat.reduceBEq]
  refine loop_rule (β := Nat × Store × CV) (fun t => ([(0, .p (.sl a)), (1, .p (.sl b)), (6, t.2.2), (7, i64 t.1)], t.2.1))
    (fun t => t.1 ≤ A.length ∧ GL t.2.1 1 t.2.2 (zm ((A.map fun r => r ++ List.replicate m 0).take t.1))) (fun t => A.length - t.1) ((0, [], .nils) : Nat × Store × CV) rfl rfl ⟨Nat.zero_le _, .nil⟩ ?_
  rintro ⟨i, τ, c⟩ ⟨hi, hG⟩ ih
  simp only [] at hi hG ih ⊢
  by_cases hin : (i : Int) < a.length
  · obtain ⟨q, r, h1, h2, h3, h4⟩ := ha.ix (i := i) (by omega)
    have hrl := hn i r h2
    have w1 : IntKind.i64.wrap ((i : Int) + 1) = ((i + 1 : Nat) : Int) := by rw [IntWalk.i64_in _ (by omega)]; omega
    have htl : (zm ((A.map fun r => r ++ List.replicate m 0).take i)).length = i := by rw [zm_len, List.length_take, List.length_map]; omega
    have hr2 : (A.map fun r => r ++ List.replicate m 0)[i]? = some (r ++ List.replicate m 0) := by simp [h2]
    have M74 := made_of (n74 N1 h3 h4) (by rw [zr_len, List.length_map]; omega)
    rw [map_one] at M74
    have k75 := p75 (n := m) (by omega)
    have hc3 : ((zr r).length + (zr (List.replicate m 0)).length) * 32 ≤ 140737488355328 := by rw [zr_len, zr_len, List.length_replicate]; omega
    have hc4 : ((zm ((A.map fun r => r ++ List.replicate m 0).take i)).length + [PV.sl (zr r ++ zr (List.replicate m 0))].length) * 24 ≤ 140737488355328 := by rw [htl]; simp; omega
    have hs1 : zm ((A.map fun r => r ++ List.replicate m 0).take i) ++ [PV.sl (zr r ++ zr (List.replicate m 0))] = zm ((A.map fun r => r ++ List.replicate m 0).take (i + 1)) := by rw [zm_suc hr2, zr_app]
    have rA := fun {rp rs base d l dr ks e Q s x} => r_app_p (rp := rp) (rs := rs) (base := base) (d := d) (l := l) (dr := dr) (ks := ks) (e := e) (ρ := τ) (Q := Q) (s := s) (x := x) hc3 zr_sz
    have rC := fun {rp rs base d l dr ks e Q s x} => r_app_2 (rp := rp) (rs := rs) (base := base) (d := d) (l := l) (dr := dr) (ks := ks) (e := e) (Q := Q) (s := s) (x := x) (a := .dead) (a2 := .dead) hG hc4
    simp only [S1, S2, S3, S4, S5, r_idx, r_mks, ev, resultsV, resL, resV, vl, gt, st, sto, fgt, i64, subCV, fill, setCells, mkAgg, allP, frz, frz1, frzL, frzs, kill, kill1, killL, kills, bnd, unV, bsz, toPs, toP, isPure1, pureL, List.elem, List.replicate, Int.reduceLE, Int.reduceLT, ↓reduceIte, reduceCtorEq, Nat.reduceLT, Nat.reduceEqDiff, Nat.reduceAdd, Nat.reduceMul, Nat.reduceLeDiff, Nat.reduceBEq, hin, h1, i0, qb1, lb, Int.le_refl, Int.natCast_nonneg, Int.toNat_natCast, kp1 k1, ↓r_madec M74, push_sl, zr_len, kp1 k75, rA, ↓r_bsl_own1, List.length_replicate, rC, hs1, htl, w1]
    refine ih (i + 1, nd τ c ++ [.dead, .dead, .prow 1 [.sl (zr r ++ zr (List.replicate m 0))], .prow 1 (zm ((A.map fun r => r ++ List.replicate m 0).take (i + 1)))], .own (τ.length + 3) 0 (i + 1)) _ ⟨by simp only []; omega, ?_⟩ (by simp only []; omega) ?_
    · refine .own ?_ (by rw [zm_len, List.length_take, List.length_map]; omega)
      simp only []
      rw [show τ.length + 3 = (nd τ c).length + 3 by rw [nd_len], get_app]
      rfl
    · rfl
  · obtain rfl : i = A.length := by omega
    rw [List.take_of_length_le (by rw [List.length_map]; omega)] at hG
    simp only [S1, S2, S3, S4, S5, r_idx, r_mks, ev, resultsV, resL, resV, vl, gt, st, sto, fgt, i64, subCV, fill, setCells, mkAgg, allP, frz, frz1, frzL, frzs, kill, kill1, killL, kills, bnd, unV, bsz, toPs, toP, isPure1, pureL, List.elem, List.replicate, Int.reduceLE, Int.reduceLT, ↓reduceIte, reduceCtorEq, Nat.reduceLT, Nat.reduceEqDiff, Nat.reduceAdd, Nat.reduceMul, Nat.reduceLeDiff, Nat.reduceBEq, hin]
    refine loop_rule (β := Nat × Store × CV) (fun t => ([(0, .p (.sl a)), (1, .p (.sl b)), (6, t.2.2), (9, i64 t.1)], t.2.1))
      (fun t => t.1 ≤ B.length ∧ GL t.2.1 1 t.2.2 (zm ((A.map fun r => r ++ List.replicate m 0) ++ (B.map fun r => List.replicate n 0 ++ r).take t.1))) (fun t => B.length - t.1) ((0, τ, c) : Nat × Store × CV) rfl rfl ⟨Nat.zero_le _, by simpa using hG⟩ ?_
    rintro ⟨i, τ, c⟩ ⟨hi, hG⟩ ih
    simp only [] at hi hG ih ⊢
    by_cases hin : (i : Int) < b.length
    · obtain ⟨q, r, h1, h2, h3, h4⟩ := hb.ix (i := i) (by omega)
      have hrl := hm i r h2
      have w1 : IntKind.i64.wrap ((i : Int) + 1) = ((i + 1 : Nat) : Int) := by rw [IntWalk.i64_in _ (by omega)]; omega
      have htl : (zm ((A.map fun r => r ++ List.replicate m 0) ++ (B.map fun r => List.replicate n 0 ++ r).take i)).length = A.length + i := by rw [zm_len, List.length_append, List.length_take, List.length_map, List.length_map]; omega
      have hr2 : (B.map fun r => List.replicate n 0 ++ r)[i]? = some (List.replicate n 0 ++ r) := by simp [h2]
      have k74 := p74 N1 h3 h4
      rw [map_one] at k74
      have M75 := made_of (n75 (n := n) (by omega)) (by rw [zr_len, List.length_replicate]; omega)
      have hc3 : ((zr (List.replicate n 0)).length + (zr r).length) * 32 ≤ 140737488355328 := by rw [zr_len, zr_len, List.length_replicate]; omega
      have hc4 : ((zm ((A.map fun r => r ++ List.replicate m 0) ++ (B.map fun r => List.replicate n 0 ++ r).take i)).length + [PV.sl (zr (List.replicate n 0) ++ zr r)].length) * 24 ≤ 140737488355328 := by rw [htl]; simp; omega
      have hs1 : zm ((A.map fun r => r ++ List.replicate m 0) ++ (B.map fun r => List.replicate n 0 ++ r).take i) ++ [PV.sl (zr (List.replicate n 0) ++ zr r)] = zm ((A.map fun r => r ++ List.replicate m 0) ++ (B.map fun r => List.replicate n 0 ++ r).take (i + 1)) := by
        rw [take_suc hr2, ← List.append_assoc, zm_app (s := [_])]
        simp only [zm, List.map_cons, List.map_nil, zr_app]
      have rA := fun {rp rs d l dr ks e Q s x} => r_sl0 (rp := rp) (rs := rs) (d := d) (l := l) (dr := dr) (ks := ks) (e := e) (ρ := τ) (Q := Q) (s := s) (x := x) hc3 zr_sz
      have rC := fun {rp rs d l dr ks e Q s x} => r_sl2 (rp := rp) (rs := rs) (d := d) (l := l) (dr := dr) (ks := ks) (e := e) (Q := Q) (s := s) (x := x) (a := .dead) (a2 := .dead) hG hc4
      simp only [S1, S2, S3, S4, S5, r_idx, r_mks, ev, resultsV, resL, resV, vl, gt, st, sto, fgt, i64, subCV, fill, setCells, mkAgg, allP, frz, frz1, frzL, frzs, kill, kill1, killL, kills, bnd, unV, bsz, toPs, toP, isPure1, pureL, List.elem, List.replicate, Int.reduceLE, Int.reduceLT, ↓reduceIte, reduceCtorEq, Nat.reduceLT, Nat.reduceEqDiff, Nat.reduceAdd, Nat.reduceMul, Nat.reduceLeDiff, Nat.reduceBEq, hin, h1, i0, qa1, la, Int.le_refl, Int.natCast_nonneg, Int.toNat_natCast, kp1 k1, ↓r_madec M75, zr_len, kp2 k74, rA, ↓r_sl1, List.length_replicate, rC, hs1, htl, w1]
      refine ih (i + 1, nd τ c ++ [.dead, .dead, .prow 1 [.sl (zr (List.replicate n 0) ++ zr r)], .prow 1 (zm ((A.map fun r => r ++ List.replicate m 0) ++ (B.map fun r => List.replicate n 0 ++ r).take (i + 1)))], .own (τ.length + 3) 0 (A.length + (i + 1))) _ ⟨by simp only []; omega, ?_⟩ (by simp only []; omega) ?_
      · refine .own ?_ (by rw [zm_len, List.length_append, List.length_take, List.length_map, List.length_map]; omega)
        simp only []
        rw [show τ.length + 3 = (nd τ c).length + 3 by rw [nd_len], get_app]
        rfl
      · rfl
    · obtain rfl : i = B.length := by omega
      rw [List.take_of_length_le (by rw [List.length_map]; omega)] at hG
      by_cases hv : v = 0
      · subst hv
        have e0 : ((0 : Int) != 0) = false := rfl
        simp only [S1, S2, S3, S4, S5, r_idx, r_mks, ev, resultsV, resL, resV, vl, gt, st, sto, fgt, i64, subCV, fill, setCells, mkAgg, allP, frz, frz1, frzL, frzs, kill, kill1, killL, kills, bnd, unV, bsz, toPs, toP, isPure1, pureL, List.elem, List.replicate, Int.reduceLE, Int.reduceLT, ↓reduceIte, reduceCtorEq, Nat.reduceLT, Nat.reduceEqDiff, Nat.reduceAdd, Nat.reduceMul, Nat.reduceLeDiff, Nat.reduceBEq, hin, kpk_gl h61 hG rfl, e0]
        exact back_t2 hG.back1 back1_p
      · have e1 : (v != 0) = true := by simp [hv]
        rw [if_neg hv]
        simp only [S1, S2, S3, S4, S5, r_idx, r_mks, ev, resultsV, resL, resV, vl, gt, st, sto, fgt, i64, subCV, fill, setCells, mkAgg, allP, frz, frz1, frzL, frzs, kill, kill1, killL, kills, bnd, unV, bsz, toPs, toP, isPure1, pureL, List.elem, List.replicate, Int.reduceLE, Int.reduceLT, ↓reduceIte, reduceCtorEq, Nat.reduceLT, Nat.reduceEqDiff, Nat.reduceAdd, Nat.reduceMul, Nat.reduceLeDiff, Nat.reduceBEq, hin, kpk_gl h61 hG rfl, e1]
        rfl
end Go.Proofs.Ytdieenbfdeaffaa.VTm

namespace Go.Proofs.Ytdieenbfdeaffaa.VTm
open Go Vpi
open VBn hiding rp tab rp_ok all_ok mixed sim Big
open Gs (V Dv Pos)
set_option maxRecDepth 100000
set_option linter.unusedSimpArgs false
set_option linter.unusedVariables false

theorem rp8 : rp 8 = some f8 := rfl

/-! ### a matrix's numbers -/

theorem MatN.index {b : List PV} (h : MatN b) : ∃ nn X, MR b nn X := by
  have hx : ∀ i j : Nat, ∃ x : Int, ∀ r p, b[i]? = some (.sl r) → r[j]? = some p → Nu p x := by
    intro i j
    by_cases hi : i < b.length
    · obtain ⟨r, h1, h2⟩ := h.2 i hi
      by_cases hj : j < r.length
      · obtain ⟨p, x, h3, h4⟩ := h2.2 j hj
        refine ⟨x, fun r' p' g1 g2 => ?_⟩
        rw [h1] at g1
        cases g1
        rw [h3] at g2
        cases g2
        exact h4
      · refine ⟨0, fun r' p' g1 g2 => ?_⟩
        rw [h1] at g1
        cases g1
        rw [List.getElem?_eq_none (by omega)] at g2
        cases g2
    · refine ⟨0, fun r' p' g1 g2 => ?_⟩
      rw [List.getElem?_eq_none (by omega)] at g1
      cases g1
  have hn : ∀ i : Nat, ∃ k : Nat, ∀ r, b[i]? = some (.sl r) → r.length = k := by
    intro i
    by_cases hi : i < b.length
    · obtain ⟨r, h1, h2⟩ := h.2 i hi
      exact ⟨r.length, fun r' g => by rw [h1] at g; cases g; rfl⟩
    · exact ⟨0, fun r' g => by rw [List.getElem?_eq_none (by omega)] at g; cases g⟩
  refine ⟨fun i => Classical.choose (hn i), fun i j => Classical.choose (hx i j), fun i hi => ?_⟩
  obtain ⟨r, h1, h2⟩ := h.2 i hi
  have hl := Classical.choose_spec (hn i) r h1
  refine ⟨r, h1, hl, ?_, fun j hj => ?_⟩
  · simp only []
    rw [← hl]; exact h2.1
  · obtain ⟨p, x, h3, h4⟩ := h2.2 j hj
    exact ⟨p, h3, Classical.choose_spec (hx i j) r p h1 h3⟩

/-- the numbers as lists -/
def lsM (m N : Nat) (X : Nat → Nat → Int) : List (List Int) := (List.range m).map fun i => (List.range N).map fun j => X i j
theorem lsM_len {m N : Nat} {X : Nat → Nat → Int} : (lsM m N X).length = m := by simp [lsM]
theorem lsM_get {m N i : Nat} {X : Nat → Nat → Int} (h : i < m) : (lsM m N X)[i]? = some ((List.range N).map fun j => X i j) := by simp [lsM, h]

theorem MR.lists {b : List PV} {nn : Nat → Nat} {X : Nat → Nat → Int} (hb : MR b nn X) (hs : shE nn X b.length = 0) :
    ML b (lsM b.length (nn 0) X) ∧ (∀ (i : Nat) (r : List Int), (lsM b.length (nn 0) X)[i]? = some r → r.length = nn 0 ∧ ∀ (j : Nat) (x : Int), r[j]? = some x → Sk 8 x) ∧ 0 < b.length ∧ b.length ≤ 12 ∧ nn 0 ≤ 12 := by
  obtain ⟨h1, h2, h3⟩ := shE_zero hs
  have hm : b.length ≤ 12 := Nat.not_lt.1 fun hh => h1 (.inl hh)
  have hn : ∀ i, i < b.length → nn i = nn 0 := fun i hi => Classical.byContradiction fun hne => h3 ⟨i, hi, hne⟩
  have hN : nn 0 ≤ 12 := Nat.not_lt.1 fun hh => h1 (.inr (.inl ⟨0, by omega, hh⟩))
  refine ⟨⟨lsM_len.symm, fun i p r hp hr => ?_⟩, fun i r hr => ?_, by omega, hm, hN⟩
  · have hi := (List.getElem?_eq_some_iff.1 hp).1
    obtain ⟨q, g1, g2, g3, g4⟩ := hb i hi
    rw [hp] at g1
    cases g1
    rw [lsM_get hi] at hr
    cases hr
    refine ⟨q, rfl, ⟨by simp [g2, hn i hi], fun j p x hp hx => ?_⟩, by omega⟩
    have hj := (List.getElem?_eq_some_iff.1 hp).1
    obtain ⟨p', k1, k2⟩ := g4 j hj
    rw [hp] at k1
    cases k1
    rw [g2, hn i hi] at hj
    simp [hj] at hx
    subst hx
    exact k2
  · have hi := (List.getElem?_eq_some_iff.1 hr).1
    rw [lsM_len] at hi
    rw [lsM_get hi] at hr
    cases hr
    refine ⟨by simp, fun j x hx => ?_⟩
    have hj := (List.getElem?_eq_some_iff.1 hx).1
    simp at hj
    simp [hj] at hx
    subst hx
    refine sk8_of_bl (Nat.not_lt.1 fun hlt => h1 (.inr (.inr ⟨i, j, hi, by rw [hn i hi]; exact hj, hlt⟩)))

theorem vE_pos {nn : Nat → Nat} {X : Nat → Nat → Int} {m : Nat} (h : vE nn X m = 0) (hm : 0 < m) : shE nn X m = 0 ∧ 0 < nn 0 := by
  unfold vE at h
  by_cases hs : shE nn X m = 0
  · refine ⟨hs, ?_⟩
    rw [if_neg (by simp [hs])] at h
    by_cases hp : Pos (gr (nn 0) X) m
    · have h0 := hp 0 hm
      rcases Nat.eq_zero_or_pos (nn 0) with hz | hz
      · have : V (gr (nn 0) X) 0 0 0 = 0 := by
          show gr (nn 0) X 0 0 = 0
          unfold gr
          rw [hz]; rfl
        omega
      · exact hz
    · rw [if_neg hp] at h; cases h
  · rw [if_pos hs] at h
    exact absurd h hs

theorem vE_len {nn : Nat → Nat} {X : Nat → Nat → Int} {m : Nat} (he : vE nn X m = 0) : 0 < m := by
  rcases Nat.eq_zero_or_pos m with h0 | h0
  · exfalso
    have hs : shE nn X m = 41 := by
      rw [h0]
      unfold shE
      rw [if_neg, if_pos rfl]
      rintro (h | ⟨i, h, _⟩ | ⟨i, j, h, _⟩) <;> omega
    unfold vE at he
    rw [if_pos (by rw [hs]; decide), hs] at he
    cases he
  · exact h0

/-- rows of numbers that are not too long -/
def SzM (M : List (List Int)) : Prop := ∀ (i : Nat) (r : List Int), M[i]? = some r → SzL r ∧ r.length ≤ 2000000

theorem SzM.mr {M : List (List Int)} (h : SzM M) : MR (zm M) (fun i => (M.getD i []).length) (fun i j => (M.getD i []).getD j 0) := by
  intro i hi
  rw [zm_len] at hi
  have h1 : M[i]? = some (M.getD i []) := by simp [List.getD, hi]
  obtain ⟨h2, h3⟩ := h i _ h1
  refine ⟨_, zm_get h1, zr_len, h3, fun j hj => ?_⟩
  rw [zr_len] at hj
  have h4 : (M.getD i [])[j]? = some ((M.getD i []).getD j 0) := by
    generalize M.getD i [] = r at hj
    simp [List.getD_eq_getElem?_getD, hj]
  exact ⟨_, zr_get h4, Nu.zi (h2 j _ h4)⟩

theorem SzM.matN {M : List (List Int)} (h : SzM M) (hl : M.length ≤ 2000000) : MatN (zm M) := by
  refine ⟨by rw [zm_len]; exact hl, fun i hi => ?_⟩
  rw [zm_len] at hi
  have h1 : M[i]? = some (M.getD i []) := by simp [List.getD, hi]
  obtain ⟨h2, h3⟩ := h i _ h1
  refine ⟨_, zm_get h1, by rw [zr_len]; exact h3, fun j hj => ?_⟩
  rw [zr_len] at hj
  exact ⟨_, _, zr_get (List.getElem?_eq_getElem hj), Nu.zi (h2 j _ (List.getElem?_eq_getElem hj))⟩

theorem nilN : MatN [] := ⟨by simp, fun i hi => by simp at hi⟩

/-- what Valid says of a list of rows, of the program and of the reference -/
theorem said {M : List (List Int)} (h : SzM M) (hl : M.length ≤ 2000000) : ∃ v : Int, Pu rp 61 [.sl (zm M)] (.p (.int .i64 v)) ∧ Pu rp 71 [.sl (zm M)] (.tup [.p (.sl (if v = 0 then zm M else [])), .p (.int .i64 v)]) :=
  ⟨_, (p61 h.mr (by rw [zm_len]; exact hl)).lift base_le, p71 h.mr (by rw [zm_len]; exact hl)⟩

theorem sum_sz {A B : List (List Int)} {n m : Nat} (hA : ∀ (i : Nat) (r : List Int), A[i]? = some r → r.length = n ∧ ∀ (j : Nat) (x : Int), r[j]? = some x → Sk 8 x) (hB : ∀ (i : Nat) (r : List Int), B[i]? = some r → r.length = m ∧ ∀ (j : Nat) (x : Int), r[j]? = some x → Sk 8 x)
    (hn : n ≤ 12) (hm : m ≤ 12) : SzM (sumM n m A B) := by
  have s0 : Sz 0 := Sz.small (by decide)
  have key : ∀ r : List Int, r ∈ sumM n m A B → SzL r ∧ r.length ≤ 2000000 := by
    intro r hr
    unfold sumM at hr
    rcases List.mem_append.1 hr with hr | hr
    · obtain ⟨q, hq, rfl⟩ := List.mem_map.1 hr
      obtain ⟨i, hi⟩ := List.getElem?_of_mem hq
      obtain ⟨h1, h2⟩ := hA i q hi
      refine ⟨fun j x hx => ?_, by rw [List.length_append, List.length_replicate, h1]; omega⟩
      rcases List.mem_append.1 (List.mem_of_getElem? hx) with hx | hx
      · obtain ⟨j, hj⟩ := List.getElem?_of_mem hx
        exact (h2 j x hj).sz (by decide)
      · rw [List.eq_of_mem_replicate hx]; exact s0
    · obtain ⟨q, hq, rfl⟩ := List.mem_map.1 hr
      obtain ⟨i, hi⟩ := List.getElem?_of_mem hq
      obtain ⟨h1, h2⟩ := hB i q hi
      refine ⟨fun j x hx => ?_, by rw [List.length_append, List.length_replicate, h1]; omega⟩
      rcases List.mem_append.1 (List.mem_of_getElem? hx) with hx | hx
      · rw [List.eq_of_mem_replicate hx]; exact s0
      · obtain ⟨j, hj⟩ := List.getElem?_of_mem hx
        exact (h2 j x hj).sz (by decide)
  exact fun i r hr => key r (List.mem_of_getElem? hr)

theorem mul_sz {c : Nat} {k x : Int} (hc : c + 8 ≤ CapN) (hk : k.natAbs < LB ^ c) (hx : Sk 8 x) : Sz (k * x) := by
  unfold Sz
  unfold Sk at hx
  rw [Int.natAbs_mul]
  have h1 : k.natAbs * x.natAbs < LB ^ c * LB ^ 8 := Nat.mul_lt_mul_of_lt_of_le hk (Nat.le_of_lt hx) (Nat.pow_pos (by decide))
  rw [← Nat.pow_add] at h1
  exact Nat.lt_of_lt_of_le h1 (Nat.pow_le_pow_right (by decide) hc)

theorem scale_sz {c : Nat} {A : List (List Int)} {n : Nat} {k : Int} (hA : ∀ (i : Nat) (r : List Int), A[i]? = some r → r.length = n ∧ ∀ (j : Nat) (x : Int), r[j]? = some x → Sk 8 x) (hn : n ≤ 12) (hc : c + 8 ≤ CapN) (hk : k.natAbs < LB ^ c) : SzM (A.map fun r => r.map (k * ·)) := by
  intro i r hr
  rw [List.getElem?_map, Option.map_eq_some_iff] at hr
  obtain ⟨q, hq, rfl⟩ := hr
  obtain ⟨h1, h2⟩ := hA i q hq
  refine ⟨fun j x hx => ?_, by rw [List.length_map, h1]; omega⟩
  rw [List.getElem?_map, Option.map_eq_some_iff] at hx
  obtain ⟨y, hy, rfl⟩ := hx
  exact mul_sz hc hk (h2 j y hy)

/-! ### both parts -/

theorem scale_part {a : List PV} {kp : PV} {k : Int} {nn : Nat → Nat} {X : Nat → Nat → Int} (hR : MR a nn X) (hla : a.length ≤ 2000000) (hk : Nu kp k) {c : Nat} (hc : c + 8 ≤ CapN) (hk2 : k.natAbs < LB ^ c) :
    ∃ (m : List PV) (er : Int), Pu rp 34 [.sl a, kp] (.tup [.p (.sl m), .p (.int .i64 er)]) ∧ MatN m ∧ (vE nn X a.length ≠ 0 → m = [] ∧ er = vE nn X a.length) ∧ (vE nn X a.length = 0 → Pu rp 36 [.sl a, kp] (.tup [.p (.sl m), .p (.int .i64 er)])) := by
  have h59 := (p59 hR hla).lift base_le
  by_cases hv : vE nn X a.length = 0
  · rw [hv] at h59
    by_cases hk0 : k = 0
    · subst hk0
      exact ⟨_, _, z34 hk h59, nilN, fun h => absurd hv h, fun _ => z36 hk⟩
    · obtain ⟨hs, hN0⟩ := vE_pos hv (vE_len hv)
      obtain ⟨hML, hA, h0, h12, hN⟩ := MR.lists hR hs
      have hsz := scale_sz hA hN hc hk2
      obtain ⟨v, h61, h71⟩ := said hsz (by rw [List.length_map, lsM_len]; exact hla)
      refine ⟨_, v, p34 (r := .nils) hk hML hla h59 hk0 h71, ?_, fun h => absurd hv h, fun _ => p36 hk hML hla hk0 h61⟩
      split
      · exact hsz.matN (by rw [List.length_map, lsM_len]; exact hla)
      · exact nilN
  · exact ⟨_, _, e34 hk h59 hv, nilN, fun _ => ⟨rfl, rfl⟩, fun h => absurd h hv⟩

theorem sum_part {a b : List PV} {na nb : Nat → Nat} {Xa Xb : Nat → Nat → Int} (hRa : MR a na Xa) (hla : a.length ≤ 2000000) (hRb : MR b nb Xb) (hlb : b.length ≤ 2000000) :
    ∃ (m : List PV) (er : Int), Pu rp 28 [.sl a, .sl b] (.tup [.p (.sl m), .p (.int .i64 er)]) ∧ MatN m ∧ (fst0 [vE na Xa a.length, vE nb Xb b.length] ≠ 0 → m = [] ∧ er = fst0 [vE na Xa a.length, vE nb Xb b.length]) ∧
      (fst0 [vE na Xa a.length, vE nb Xb b.length] = 0 → Pu rp 32 [.sl a, .sl b] (.tup [.p (.sl m), .p (.int .i64 er)])) := by
  have ha59 := (p59 hRa hla).lift base_le
  have hb59 := (p59 hRb hlb).lift base_le
  by_cases hva : vE na Xa a.length = 0
  · rw [hva] at ha59
    by_cases hvb : vE nb Xb b.length = 0
    · rw [hvb] at hb59
      obtain ⟨hsa, ha0⟩ := vE_pos hva (vE_len hva)
      obtain ⟨hsb, hb0⟩ := vE_pos hvb (vE_len hvb)
      obtain ⟨hMLa, hA, a0, a12, hNa⟩ := MR.lists hRa hsa
      obtain ⟨hMLb, hB, b0, b12, hNb⟩ := MR.lists hRb hsb
      have hsz := sum_sz hA hB hNa hNb
      have hlen : (sumM (na 0) (nb 0) (lsM a.length (na 0) Xa) (lsM b.length (nb 0) Xb)).length ≤ 2000000 := by
        unfold sumM
        rw [List.length_append, List.length_map, List.length_map, lsM_len, lsM_len]; omega
      obtain ⟨v, h61, h71⟩ := said hsz hlen
      refine ⟨_, v, p28 hMLa hMLb ha59 hb59 a0 a12 b0 b12 (fun i r h => (hA i r h).1) (fun i r h => (hB i r h).1) hNa hNb h71, ?_, fun h => absurd (by simp [fst0, hva, hvb]) h,
        fun _ => p32 hMLa hMLb a0 a12 b0 b12 (fun i r h => (hA i r h).1) (fun i r h => (hB i r h).1) hNa hNb ha0 hb0 h61⟩
      split
      · exact hsz.matN hlen
      · exact nilN
    · exact ⟨_, _, eb28 ha59 hb59 hvb, nilN, fun _ => ⟨rfl, by simp [fst0, hva, hvb]⟩, fun h => by simp [fst0, hva, hvb] at h⟩
  · exact ⟨_, _, ea28 ha59 hva, nilN, fun _ => ⟨rfl, by simp [fst0, hva]⟩, fun h => absurd h (by simp [fst0, hva])⟩

/-! ### the law -/

theorem makes {a b : List PV} {kp : PV} {k : Int} (ha : MatN a) (hb : MatN b) (hk : Nu kp k) {c : Nat} (hc : c + 8 ≤ CapN) (hk2 : k.natAbs < LB ^ c) : Pu rp 8 [.sl a, .sl b, kp] (.p (.bool true)) := by
  obtain ⟨na, Xa, hRa⟩ := ha.index
  obtain ⟨nb, Xb, hRb⟩ := hb.index
  have ha61 := (p61 hRa ha.1).lift base_le
  have hb61 := (p61 hRb hb.1).lift base_le
  have c2 := p30 (l := [.sl a, .sl b]) (vs := [vE na Xa a.length, vE nb Xb b.length]) rfl (by simp) (by
    intro i hi
    rcases i with _ | i
    · exact ⟨a, _, rfl, rfl, ha61⟩
    · rcases i with _ | i
      · exact ⟨b, _, rfl, rfl, hb61⟩
      · simp only [List.length_cons, List.length_nil] at hi
        omega)
  have c1 := p30 (l := [.sl a]) (vs := [vE na Xa a.length]) rfl (by simp) (by
    intro i hi
    rcases i with _ | i
    · exact ⟨a, _, rfl, rfl, ha61⟩
    · simp only [List.length_cons, List.length_nil] at hi
      omega)
  obtain ⟨m1, e1, s28, m1N, s1, s2⟩ := sum_part hRa ha.1 hRb hb.1
  obtain ⟨m2, e2, s34, m2N, t1, t2⟩ := scale_part hRa ha.1 hk hc hk2
  generalize vE na Xa a.length = vA at *
  generalize vE nb Xb b.length = vB at *
  have k35 := p35 hk
  obtain ⟨b1, b2, rfl⟩ := Nu.agg hk
  refine pu_of rp8 ?_
  have i0 : Int.toNat 0 = 0 := rfl
  have e0 : ((0 : Int) != 0) = false := rfl
  have l0 : (((0 : Nat) : Int) != 0) = false := rfl
  have l1 : (((0 : Nat) : Int) == 0) = true := rfl
  by_cases hs : fst0 [vA, vB] = 0
  · have hA0 : vA = 0 := by
      by_cases h : vA = 0
      · exact h
      · simp [fst0, h] at hs
    have k32 := s2 hs
    have k36 := t2 hA0
    rw [hs] at c2
    rw [hA0, show fst0 [0] = 0 from rfl] at c1
    simp only [f8, args0, S1, S2, S3, S4, S5, r_idx, r_mks, ev, resultsV, resL, resV, vl, gt, st, sto, fgt, i64, subCV, fill, setCells, mkAgg, allP, frz, frz1, frzL, frzs, kill, kill1, killL, kills, bnd, unV, bsz, toPs, toP, isPure1, pureL, List.elem, List.replicate, Int.reduceLE, Int.reduceLT, ↓reduceIte, reduceCtorEq, Nat.reduceLT, Nat.reduceEqDiff, Nat.reduceAdd, Nat.reduceMul, Nat.reduceLeDiff, Nat.reduceBEq, kp1 (p29 ha), kp1 (p29 hb), kp2 s28, ↓r_madec (n31 (a := a)), push_sl, r_append, content, kc_fz c2]
    rw [r_nilx]
    refine ⟨by simp [apartAt, apartB, foot, addrs, ownsOf, own0, vl, gt, List.elem], ?_⟩
    simp only [S1, S2, S3, S4, S5, r_idx, r_mks, ev, resultsV, resL, resV, vl, gt, st, sto, fgt, i64, subCV, fill, setCells, mkAgg, allP, frz, frz1, frzL, frzs, kill, kill1, killL, kills, bnd, unV, bsz, toPs, toP, isPure1, pureL, List.elem, List.replicate, Int.reduceLE, Int.reduceLT, ↓reduceIte, reduceCtorEq, Nat.reduceLT, Nat.reduceEqDiff, Nat.reduceAdd, Nat.reduceMul, Nat.reduceLeDiff, Nat.reduceBEq, e0, kp2 k32, bne_self_eq_false, beq_self_eq_true, kp2 (p33 m1N), Bool.not_true, kp1 (p29 ha), kp1 k35, kp2 s34, kp1 p31, kp2 c1, kp2 k36, kp2 (p33 m2N)]
    rfl
  · have d1 := s1 hs
    obtain ⟨rfl, rfl⟩ := d1
    have d0 : (fst0 [vA, vB] != 0) = true := by simp [hs]
    simp only [f8, args0, S1, S2, S3, S4, S5, r_idx, r_mks, ev, resultsV, resL, resV, vl, gt, st, sto, fgt, i64, subCV, fill, setCells, mkAgg, allP, frz, frz1, frzL, frzs, kill, kill1, killL, kills, bnd, unV, bsz, toPs, toP, isPure1, pureL, List.elem, List.replicate, Int.reduceLE, Int.reduceLT, ↓reduceIte, reduceCtorEq, Nat.reduceLT, Nat.reduceEqDiff, Nat.reduceAdd, Nat.reduceMul, Nat.reduceLeDiff, Nat.reduceBEq, kp1 (p29 ha), kp1 (p29 hb), kp2 s28, ↓r_madec (n31 (a := a)), push_sl, r_append, content, kc_fz c2]
    rw [r_nilx]
    refine ⟨by simp [apartAt, apartB, foot, addrs, ownsOf, own0, vl, gt, List.elem], ?_⟩
    by_cases hA0 : vA = 0
    · have k36 := t2 hA0
      rw [show fst0 [vA] = 0 by simp [fst0, hA0]] at c1
      simp only [S1, S2, S3, S4, S5, r_idx, r_mks, ev, resultsV, resL, resV, vl, gt, st, sto, fgt, i64, subCV, fill, setCells, mkAgg, allP, frz, frz1, frzL, frzs, kill, kill1, killL, kills, bnd, unV, bsz, toPs, toP, isPure1, pureL, List.elem, List.replicate, Int.reduceLE, Int.reduceLT, ↓reduceIte, reduceCtorEq, Nat.reduceLT, Nat.reduceEqDiff, Nat.reduceAdd, Nat.reduceMul, Nat.reduceLeDiff, Nat.reduceBEq, d0, e0, l0, bne_self_eq_false, beq_self_eq_true, Bool.not_true, kp1 (p29 ha), kp1 k35, kp2 s34, kp1 p31, kp2 c1, kp2 k36, kp2 (p33 m2N)]
      rfl
    · obtain ⟨rfl, rfl⟩ := t1 hA0
      have hf : fst0 [e2] = e2 := by simp [fst0, hA0]
      have dA : (e2 != 0) = true := by simp [hA0]
      rw [hf] at c1
      simp only [S1, S2, S3, S4, S5, r_idx, r_mks, ev, resultsV, resL, resV, vl, gt, st, sto, fgt, i64, subCV, fill, setCells, mkAgg, allP, frz, frz1, frzL, frzs, kill, kill1, killL, kills, bnd, unV, bsz, toPs, toP, isPure1, pureL, List.elem, List.replicate, Int.reduceLE, Int.reduceLT, ↓reduceIte, reduceCtorEq, Nat.reduceLT, Nat.reduceEqDiff, Nat.reduceAdd, Nat.reduceMul, Nat.reduceLeDiff, Nat.reduceBEq, d0, e0, l0, l1, dA, bne_self_eq_false, beq_self_eq_true, Bool.not_true, kp1 (p29 ha), kp1 k35, kp2 s34, kp1 p31, kp2 c1]
      rfl

/-! ### arguments -/

theorem num_of {L n : Nat} {qs : List PV} (hL : L ≤ 1048576) (h : shpB Try.prog L (n + 3) 53 qs) : ∃ x c, Nu (.agg qs) x ∧ c + 8 ≤ CapN ∧ x.natAbs < LB ^ c := by
  obtain ⟨a, r, rfl, ha, c, r, rfl, hc, rfl⟩ := shpB_struct Try.underlying53 h
  obtain ⟨s, rfl⟩ := shpB_bool Try.underlying4 ha
  obtain ⟨us, rfl, hl, hu⟩ := shpB_slice Try.underlying51 hc
  have hlm : ∃ l : List Nat, us = lm l ∧ Lim l := by
    clear hl ha hc h
    induction us with
    | nil => exact ⟨[], rfl, fun x hx => by cases hx⟩
    | cons u us ih =>
      obtain ⟨l, rfl, h2⟩ := ih fun y hy => hu y (List.mem_cons_of_mem _ hy)
      obtain ⟨q, rfl, hq⟩ := hu u (List.mem_cons_self ..)
      obtain ⟨i, rfl, hw⟩ := shpB_int Try.underlying115 hq
      have hw2 : (0 : Int) ≤ i ∧ i ≤ 4294967295 := by
        simp only [Lit.wf, Bool.and_eq_true, decide_eq_true_eq] at hw
        exact hw
      refine ⟨i.toNat :: l, ?_, ?_⟩
      · have : ofCells (isSt Try.prog 115) [PV.int .u32 i] = .int .u32 i := by
          have e : isSt Try.prog 115 = false := by unfold isSt; rw [Try.underlying115]
          rw [e]; rfl
        rw [this, lm_cons, Int.toNat_of_nonneg hw2.1]
      · intro x hx
        rcases List.mem_cons.1 hx with rfl | hx
        · unfold LB; omega
        · exact h2 x hx
  obtain ⟨l, rfl, hlim⟩ := hlm
  rw [lm_len] at hl
  refine ⟨iv s l, l.length, ⟨s, l, ?_, hlim, ?_, rfl⟩, ?_, ?_⟩
  · simp
  · rw [CapN_eq]; omega
  · rw [CapN_eq]; omega
  · rw [iv_abs]
    exact val_lt hlim

theorem mat_of {L n : Nat} {q : PV} (hL : L ≤ 1048576) (h : shpB Try.prog L (n + 5) 39 [q]) : ∃ b, q = .sl b ∧ MatN b := by
  obtain ⟨b, hq, hl, hb⟩ := shpB_slice Try.underlying39 h
  cases hq
  refine ⟨b, rfl, by omega, fun i hi => ?_⟩
  obtain ⟨qs, h1, h2⟩ := hb b[i] (List.getElem_mem _)
  obtain ⟨r, rfl, hrl, hr⟩ := shpB_slice Try.underlying59 h2
  have e1 : ofCells (isSt Try.prog 59) [PV.sl r] = .sl r := by
    have e : isSt Try.prog 59 = false := by unfold isSt; rw [Try.underlying59]
    rw [e]; rfl
  rw [e1] at h1
  refine ⟨r, by rw [← h1]; simp, by omega, fun j hj => ?_⟩
  obtain ⟨qs, k1, k2⟩ := hr r[j] (List.getElem_mem _)
  obtain ⟨x, _, hx, _⟩ := num_of hL k2
  have e2 : ofCells (isSt Try.prog 53) qs = .agg qs := by
    have e : isSt Try.prog 53 = true := by unfold isSt; rw [Try.underlying53]
    rw [e]; rfl
  rw [e2] at k1
  exact ⟨.agg qs, x, by rw [← k1]; simp, hx⟩

theorem row8 (q : PV) (w : shpB Try.prog 1048576 8 39 [q]) (q' : PV) (w' : shpB Try.prog 1048576 8 39 [q']) (qs : List PV) (w2 : shpB Try.prog 1048576 8 53 qs) : Pu rp 8 [q, q', .agg qs] (.p (.bool true)) := by
  obtain ⟨b, rfl, hb⟩ := mat_of (Nat.le_refl _) w
  obtain ⟨c, rfl, hc⟩ := mat_of (Nat.le_refl _) w'
  obtain ⟨k, d, hk, hd, hk2⟩ := num_of (Nat.le_refl _) w2
  exact makes hb hc hk hd hk2
end Go.Proofs.Ytdieenbfdeaffaa.VTm

namespace Go.Proofs.Ytdieenbfdeaffaa.Rbulk
open Go
set_option linter.unusedVariables false

theorem one_le {H : Type} (d : DataW H) : 1 ≤ Rows.uptoBulk d := by
  cases d with
  | lit l => cases l <;> simp [Rows.uptoBulk]
  | _ => simp [Rows.uptoBulk]

theorem part_le {H : Type} {d : DataW H} {l : List (DataW H)} (h : d ∈ l) : Rows.uptoBulk d ≤ Rows.uptoBulkAll l := by
  induction l with
  | nil => cases h
  | cons x r ih =>
    simp only [Rows.uptoBulkAll]
    rcases List.mem_cons.1 h with rfl | h
    · omega
    · have := ih h; omega

theorem length_le {H : Type} (l : List (DataW H)) : l.length ≤ Rows.uptoBulkAll l := by
  induction l with
  | nil => simp [Rows.uptoBulkAll]
  | cons x r ih => have := one_le x; simp only [Rows.uptoBulkAll, List.length_cons]; omega

theorem mus {H : Type} (es sp : List (DataW H)) : es.length ≤ Rows.uptoBulk (.slice es sp) ∧ ∀ d ∈ es, Rows.uptoBulk d ≤ Rows.uptoBulk (.slice es sp) := by
  have h1 := length_le es
  simp only [Rows.uptoBulk]
  refine ⟨by omega, fun d hd => ?_⟩
  have := part_le hd
  omega

theorem mua {H : Type} (ps : List (DataW H)) : ∀ d ∈ ps, Rows.uptoBulk d ≤ Rows.uptoBulk (.agg ps) := by
  intro d hd
  have := part_le hd
  simp only [Rows.uptoBulk]
  omega

/-- each argument's bulk -/
theorem each {H : Type} {l : List (DataW H)} (hk : Rows.uptoSmall H l = true) {d : DataW H} (h : d ∈ l) : Rows.uptoBulk d ≤ 1048576 :=
  Nat.le_trans (part_le h) (of_decide_eq_true hk)
end Go.Proofs.Ytdieenbfdeaffaa.Rbulk
