/- Resolved code of functions, printed by a program of ours (genfun.py); each is held against the model by chkF; The functions together; Rows and matrices of numbers: mat.Form (n70), each, the reference's Floor; Common divisors, quotients without a rest, the closure of a range: zint.Gcd, zint.Exact, dual.each; dual.Reduce; The reference's Reduce; The law DualReduces: its arguments; What the bound on all arguments gives for their parts. No condition. -/
import Derived.Test.YtdieenbfdeaffaaZa3
import Derived.Test.YtdieenbfdeaffaaProg
import Derived.KernelRfl
import Derived.Test.YtdieenbfdeaffaaZb1
import Derived.Test.YtdieenbfdeaffaaZb2
import Derived.Test.YtdieenbfdeaffaaZc1
import Derived.Test.YtdieenbfdeaffaaChecked
import Derived.Test.YtdieenbfdeaffaaRows

namespace Go.Proofs.Ytdieenbfdeaffaa.VDd
open Go Vpi
set_option maxRecDepth 100000

/-- trammel/trammellaw21.DualReduces -/
def f11 : RFun := ⟨(.seq (.reg [⟨(some 3), none, none, .box (.t 1)⟩,
    ⟨(some 4), none, none, .mv (.c (.p (.bool false)))⟩] none)
  (.seq (.reg [⟨(some 12), none, none, .mv (.t 0)⟩,
    ⟨(some 13), none, none, .load true 2 (.t 3)⟩,
    ⟨(some 14), none, none, .call .pu 44 [.t 12, .t 13]⟩,
    ⟨(some 11), none, none, .mv (.t 14)⟩,
    ⟨(some 15), none, none, .extract (.t 11) 0⟩,
    ⟨(some 16), none, none, .extract (.t 11) 1⟩,
    ⟨(some 17), none, none, .extract (.t 11) 2⟩,
    ⟨(some 6), none, none, .alloc [.p (.bool false), .nils]⟩,
    ⟨(some 5), none, none, .mv (.t 15)⟩,
    ⟨none, none, none, .store 2 (.t 6) (.t 16)⟩,
    ⟨(some 7), none, none, .mv (.t 17)⟩] none)
  (.seq (.reg [⟨(some 19), none, none, .mv (.t 0)⟩,
    ⟨(some 20), none, none, .load true 2 (.t 3)⟩,
    ⟨(some 21), none, none, .call .pu 45 [.t 19, .t 20]⟩,
    ⟨(some 18), none, none, .mv (.t 21)⟩,
    ⟨(some 22), none, none, .extract (.t 18) 0⟩,
    ⟨(some 23), none, none, .extract (.t 18) 1⟩,
    ⟨(some 24), none, none, .extract (.t 18) 2⟩,
    ⟨(some 9), none, none, .alloc [.p (.bool false), .nils]⟩,
    ⟨(some 8), none, none, .mv (.t 22)⟩,
    ⟨none, none, none, .store 2 (.t 9) (.t 23)⟩,
    ⟨(some 10), none, none, .mv (.t 24)⟩] none)
  (.seq (.reg [⟨(some 25), none, none, .mv (.t 5)⟩,
    ⟨(some 26), none, none, .mv (.t 8)⟩,
    ⟨(some 27), none, none, .call .pu 46 [.t 25, .t 26]⟩,
    ⟨(some 28), none, none, .mv (.t 27)⟩,
    ⟨(some 29), (some (28, true)), none, .load true 2 (.t 6)⟩,
    ⟨(some 30), (some (28, true)), none, .load true 2 (.t 9)⟩,
    ⟨(some 31), (some (28, true)), none, .call .pu 47 [.t 29, .t 30]⟩,
    ⟨(some 32), none, none, .pick (.t 28) (.t 31) (.c (.p (.bool false)))⟩,
    ⟨(some 33), none, none, .mv (.t 32)⟩,
    ⟨(some 34), (some (33, true)), none, .mv (.t 7)⟩,
    ⟨(some 35), (some (33, true)), none, .mv (.t 10)⟩,
    ⟨(some 36), (some (33, true)), none, .bin .eql (.t 34) (.t 35)⟩,
    ⟨(some 37), none, none, .pick (.t 33) (.t 36) (.c (.p (.bool false)))⟩,
    ⟨(some 38), none, none, .mv (.t 37)⟩,
    ⟨(some 39), (some (38, true)), none, .call .pu 48 []⟩,
    ⟨(some 40), none, none, .pick (.t 38) (.t 39) (.c (.p (.bool false)))⟩,
    ⟨(some 4), none, none, .mv (.t 40)⟩] none)
  .ret)))),
  [.t 4]⟩

theorem c11 : chkF Try.prog 11 f11 = true := by kernel_rfl

/-- trammel/dual.Reduce -/
def f44 : RFun := ⟨(.seq (.reg [⟨(some 3), none, none, .box (.t 1)⟩,
    ⟨(some 4), none, none, .mv (.c (.nils))⟩,
    ⟨(some 5), none, none, .alloc [.p (.bool false), .nils]⟩,
    ⟨(some 6), none, none, .mv (.c (.p (.int .i64 0)))⟩] none)
  (.seq (.seq (.reg [⟨(some 21), none, none, .load true 2 (.t 3)⟩,
    ⟨(some 22), none, none, .call .pu 77 [.t 21]⟩,
    ⟨(some 23), none, none, .bin .leq (.t 22) (.c (.p (.int .i64 0)))⟩,
    ⟨(some 24), none, none, .mv (.t 23)⟩,
    ⟨(some 25), (some (24, false)), none, .mv (.t 0)⟩,
    ⟨(some 26), (some (24, false)), none, .len (.t 25)⟩,
    ⟨(some 27), (some (24, false)), none, .bin .eql (.t 26) (.c (.p (.int .i64 0)))⟩,
    ⟨(some 28), none, none, .pick (.t 24) (.c (.p (.bool true))) (.t 27)⟩] none)
  (.fg [0, 3, 5, 28] (.cond (.t 28)
    (.seq (.reg [⟨(some 29), none, none, .build [.p (.bool false), .nils] []⟩,
    ⟨(some 4), none, none, .mv (.c (.nils))⟩,
    ⟨none, none, none, .store 2 (.t 5) (.t 29)⟩,
    ⟨(some 6), none, none, .mv (.c (.p (.int .i64 1)))⟩] none)
    (.frzk 4 .ret))
    .skip)))
  (.seq (.seq (.reg [⟨(some 31), none, none, .mv (.t 0)⟩,
    ⟨(some 32), none, none, .call .pu 93 [.t 31]⟩,
    ⟨(some 30), none, none, .mv (.t 32)⟩,
    ⟨(some 33), none, none, .extract (.t 30) 0⟩,
    ⟨(some 34), none, none, .extract (.t 30) 1⟩,
    ⟨(some 35), none, none, .extract (.t 30) 2⟩,
    ⟨(some 7), none, none, .mv (.t 33)⟩,
    ⟨(some 8), none, none, .mv (.t 34)⟩,
    ⟨(some 9), none, none, .mv (.t 35)⟩] none)
  (.seq (.reg [⟨(some 36), none, none, .mv (.t 9)⟩,
    ⟨(some 37), none, none, .bin .neq (.t 36) (.c (.p (.int .i64 0)))⟩] none)
  (.fg [0, 3, 5, 9, 37] (.cond (.t 37)
    (.seq (.reg [⟨(some 38), none, none, .build [.p (.bool false), .nils] []⟩,
    ⟨(some 39), none, none, .mv (.t 9)⟩,
    ⟨(some 4), none, none, .mv (.c (.nils))⟩,
    ⟨none, none, none, .store 2 (.t 5) (.t 38)⟩,
    ⟨(some 6), none, none, .mv (.t 39)⟩] none)
    (.frzk 4 .ret))
    .skip))))
  (.seq (.reg [⟨(some 40), none, none, .load true 2 (.t 3)⟩,
    ⟨(some 41), none, none, .call .pu 94 [.t 40]⟩,
    ⟨(some 10), none, none, .alloc [.p (.bool false), .nils]⟩,
    ⟨none, none, none, .store 2 (.t 10) (.t 41)⟩] none)
  (.seq (.seq (.reg [⟨(some 42), none, none, .mv (.t 0)⟩,
    ⟨(some 43), none, none, .call .keep 95 [.t 42]⟩] none)
  (.fg [0, 3, 5, 10, 43] (.block 0
  (.rng false [44, 45] (.t 43)
    (.reg [⟨(some 12), none, none, .mv (.t 45)⟩] none)
    (.fg [10, 12] (.block 1
      (.seq (.reg [⟨(some 46), none, none, .mv (.t 12)⟩,
    ⟨(some 47), none, none, .len (.t 46)⟩,
    ⟨(some 48), none, none, .mv (.c (.p (.int .i64 0)))⟩] none)
        (.fg [10, 46, 47, 48] (.block 2
        (.loop (.fg [10, 46, 47, 48]
          (.seq (.reg [⟨(some 49), none, none, .bin .lss (.t 48) (.t 47)⟩] none)
            (.seq (.cond (.t 49)
              .skip
              (.exit 2))
            (.fg [10, 46, 47, 48] (.seq (.block 3
            (.seq (.reg [⟨(some 50), none, none, .indexA 2 (.t 46) (.t 48)⟩,
    ⟨(some 51), none, none, .load true 2 (.t 50)⟩,
    ⟨(some 14), none, none, .alloc [.p (.bool false), .nils]⟩,
    ⟨none, none, none, .store 2 (.t 14) (.t 51)⟩] none)
              (.reg [⟨(some 52), none, none, .load true 2 (.t 10)⟩,
    ⟨(some 53), none, none, .load true 2 (.t 14)⟩,
    ⟨(some 54), none, none, .call .pu 96 [.t 52, .t 53]⟩,
    ⟨none, none, none, .store 2 (.t 10) (.t 54)⟩] none)))
            (.fg [10, 46, 47, 48] (.reg [⟨(some 55), none, none, .bin .add (.t 48) (.c (.p (.int .i64 1)))⟩,
    ⟨(some 48), none, none, .mv (.t 55)⟩] none)))))))))))))))))
  (.seq (.reg [⟨(some 56), none, none, .mv (.t 0)⟩,
    ⟨(some 57), none, none, .call .keep 70 [.t 56]⟩,
    ⟨(some 15), none, none, .mv (.t 57)⟩] none)
  (.seq (.seq (.reg [⟨(some 58), none, none, .mv (.t 15)⟩,
    ⟨(some 59), none, none, .call .keep 95 [.t 58]⟩] none)
  (.fg [3, 5, 10, 15, 59] (.block 4
  (.rng false [60, 61] (.t 59)
    (.reg [⟨(some 17), none, none, .mv (.t 61)⟩] none)
    (.fg [10, 17] (.block 5
      (.seq (.reg [⟨(some 62), none, none, .mv (.t 17)⟩,
    ⟨(some 63), none, none, .len (.t 62)⟩,
    ⟨(some 64), none, none, .mv (.c (.p (.int .i64 0)))⟩] none)
        (.fg [10, 17, 63, 64] (.block 6
        (.loop (.fg [10, 17, 63, 64]
          (.seq (.reg [⟨(some 65), none, none, .bin .lss (.t 64) (.t 63)⟩] none)
            (.seq (.cond (.t 65)
              .skip
              (.exit 6))
            (.fg [10, 17, 63, 64] (.seq (.block 7
            (.seq (.reg [⟨(some 66), none, none, .mv (.t 64)⟩,
    ⟨(some 18), none, none, .mv (.t 66)⟩] none)
              (.reg [⟨(some 68), none, none, .mv (.t 17)⟩,
    ⟨(some 69), none, none, .mv (.t 18)⟩,
    ⟨(some 70), none, none, .mv (.t 17)⟩,
    ⟨(some 71), none, none, .mv (.t 18)⟩,
    ⟨(some 72), none, none, .indexA 2 (.t 70) (.t 71)⟩,
    ⟨(some 73), none, none, .load true 2 (.t 72)⟩,
    ⟨(some 74), none, none, .load true 2 (.t 10)⟩,
    ⟨(some 75), none, none, .call .pu 97 [.t 73, .t 74]⟩,
    ⟨(some 67), none, none, .mv (.t 75)⟩,
    ⟨(some 76), none, none, .extract (.t 67) 0⟩,
    ⟨(some 77), none, none, .extract (.t 67) 1⟩,
    ⟨(some 78), none, none, .indexA 2 (.t 68) (.t 69)⟩,
    ⟨none, none, none, .store 2 (.t 78) (.t 76)⟩] (some (0, [])))))
            (.fg [10, 17, 63, 64] (.reg [⟨(some 79), none, none, .bin .add (.t 64) (.c (.p (.int .i64 1)))⟩,
    ⟨(some 64), none, none, .mv (.t 79)⟩] none)))))))))))))))))
  (.seq (.reg [⟨(some 81), none, none, .load true 2 (.t 3)⟩,
    ⟨(some 82), none, none, .load true 2 (.t 10)⟩,
    ⟨(some 83), none, none, .call .pu 97 [.t 81, .t 82]⟩,
    ⟨(some 80), none, none, .mv (.t 83)⟩,
    ⟨(some 84), none, none, .extract (.t 80) 0⟩,
    ⟨(some 85), none, none, .extract (.t 80) 1⟩,
    ⟨(some 19), none, none, .alloc [.p (.bool false), .nils]⟩,
    ⟨none, none, none, .store 2 (.t 19) (.t 84)⟩,
    ⟨(some 20), none, none, .mv (.t 85)⟩] none)
  (.seq (.reg [⟨(some 86), none, none, .mv (.t 15)⟩,
    ⟨(some 87), none, none, .load true 2 (.t 19)⟩,
    ⟨(some 4), none, none, .mv (.t 86)⟩,
    ⟨none, none, none, .store 2 (.t 5) (.t 87)⟩,
    ⟨(some 6), none, none, .mv (.c (.p (.int .i64 0)))⟩] (some (0, [])))
  (.frzk 4 .ret)))))))))),
  [.t 4, .cell 5 true 2, .t 6]⟩

theorem c44 : chkF Try.prog 44 f44 = true := by kernel_rfl

/-- trammel/trammelref21.Reduce -/
def f45 : RFun := ⟨(.seq (.reg [⟨(some 3), none, none, .box (.t 1)⟩,
    ⟨(some 4), none, none, .mv (.c (.nils))⟩,
    ⟨(some 5), none, none, .alloc [.p (.bool false), .nils]⟩,
    ⟨(some 6), none, none, .mv (.c (.p (.int .i64 0)))⟩] none)
  (.seq (.seq (.reg [⟨(some 18), none, none, .load true 2 (.t 3)⟩,
    ⟨(some 19), none, none, .call .pu 79 [.t 18]⟩,
    ⟨(some 20), none, none, .bin .leq (.t 19) (.c (.p (.int .i64 0)))⟩,
    ⟨(some 21), none, none, .mv (.t 20)⟩,
    ⟨(some 22), (some (21, false)), none, .mv (.t 0)⟩,
    ⟨(some 23), (some (21, false)), none, .len (.t 22)⟩,
    ⟨(some 24), (some (21, false)), none, .bin .eql (.t 23) (.c (.p (.int .i64 0)))⟩,
    ⟨(some 25), none, none, .pick (.t 21) (.c (.p (.bool true))) (.t 24)⟩] none)
  (.fg [0, 3, 5, 25] (.cond (.t 25)
    (.seq (.reg [⟨(some 26), none, none, .build [.p (.bool false), .nils] []⟩,
    ⟨(some 4), none, none, .mv (.c (.nils))⟩,
    ⟨none, none, none, .store 2 (.t 5) (.t 26)⟩,
    ⟨(some 6), none, none, .mv (.c (.p (.int .i64 1)))⟩] none)
    .ret)
    .skip)))
  (.seq (.reg [⟨(some 27), none, none, .fieldA 1 (.t 3)⟩,
    ⟨(some 28), none, none, .load false 1 (.t 27)⟩,
    ⟨(some 29), none, none, .call .pu 98 [.t 28]⟩,
    ⟨(some 7), none, none, .mv (.t 29)⟩] none)
  (.seq (.seq (.reg [⟨(some 8), none, none, .mv (.c (.p (.int .i64 0)))⟩] none)
  (.fg [0, 3, 5, 7, 8] (.block 0
  (.loop (.fg [0, 3, 5, 7, 8]
    (.seq (.seq (.reg [⟨(some 30), none, none, .mv (.t 8)⟩,
    ⟨(some 31), none, none, .mv (.t 0)⟩,
    ⟨(some 32), none, none, .len (.t 31)⟩,
    ⟨(some 33), none, none, .bin .lss (.t 30) (.t 32)⟩] none)
      (.fg [0, 3, 5, 7, 8, 33] (.cond (.t 33)
        .skip
        (.exit 0))))
      (.seq (.block 1
      (.seq (.seq (.reg [⟨(some 36), none, none, .mv (.t 0)⟩,
    ⟨(some 37), none, none, .mv (.t 8)⟩,
    ⟨(some 38), none, none, .indexA 1 (.t 36) (.t 37)⟩,
    ⟨(some 39), none, none, .load false 1 (.t 38)⟩,
    ⟨(some 40), none, none, .len (.t 39)⟩,
    ⟨(some 41), none, none, .mv (.t 0)⟩,
    ⟨(some 42), none, none, .indexA 1 (.t 41) (.c (.p (.int .i64 0)))⟩,
    ⟨(some 43), none, none, .load false 1 (.t 42)⟩,
    ⟨(some 44), none, none, .len (.t 43)⟩,
    ⟨(some 45), none, none, .bin .neq (.t 40) (.t 44)⟩] (some (0, [])))
        (.fg [0, 3, 5, 7, 8, 45] (.cond (.t 45)
          (.seq (.reg [⟨(some 46), none, none, .build [.p (.bool false), .nils] []⟩,
    ⟨(some 4), none, none, .mv (.c (.nils))⟩,
    ⟨none, none, none, .store 2 (.t 5) (.t 46)⟩,
    ⟨(some 6), none, none, .mv (.c (.p (.int .i64 8)))⟩] none)
          .ret)
          .skip)))
        (.seq (.reg [⟨(some 9), none, none, .mv (.c (.p (.int .i64 0)))⟩] none)
        (.fg [0, 3, 5, 7, 8, 9] (.block 2
        (.loop (.fg [0, 3, 5, 7, 8, 9]
          (.seq (.seq (.reg [⟨(some 47), none, none, .mv (.t 9)⟩,
    ⟨(some 48), none, none, .mv (.t 0)⟩,
    ⟨(some 49), none, none, .mv (.t 8)⟩,
    ⟨(some 50), none, none, .indexA 1 (.t 48) (.t 49)⟩,
    ⟨(some 51), none, none, .load false 1 (.t 50)⟩,
    ⟨(some 52), none, none, .len (.t 51)⟩,
    ⟨(some 53), none, none, .bin .lss (.t 47) (.t 52)⟩] none)
            (.fg [0, 3, 5, 7, 8, 9, 53] (.cond (.t 53)
              .skip
              (.exit 2))))
            (.seq (.block 3
            (.reg [⟨(some 56), none, none, .mv (.t 7)⟩,
    ⟨(some 57), none, none, .mv (.t 0)⟩,
    ⟨(some 58), none, none, .mv (.t 8)⟩,
    ⟨(some 59), none, none, .indexA 1 (.t 57) (.t 58)⟩,
    ⟨(some 60), none, none, .load false 1 (.t 59)⟩,
    ⟨(some 61), none, none, .mv (.t 9)⟩,
    ⟨(some 62), none, none, .indexA 2 (.t 60) (.t 61)⟩,
    ⟨(some 63), none, none, .fieldA 1 (.t 62)⟩,
    ⟨(some 64), none, none, .load false 1 (.t 63)⟩,
    ⟨(some 65), none, none, .call .pu 99 [.t 56, .t 64]⟩,
    ⟨(some 7), none, none, .mv (.t 65)⟩] none))
            (.fg [0, 3, 5, 7, 8, 9] (.reg [⟨(some 54), none, none, .mv (.t 9)⟩,
    ⟨(some 55), none, none, .bin .add (.t 54) (.c (.p (.int .i64 1)))⟩,
    ⟨(some 9), none, none, .mv (.t 55)⟩] none)))))))))))
      (.fg [0, 3, 5, 7, 8] (.reg [⟨(some 34), none, none, .mv (.t 8)⟩,
    ⟨(some 35), none, none, .bin .add (.t 34) (.c (.p (.int .i64 1)))⟩,
    ⟨(some 8), none, none, .mv (.t 35)⟩] none)))))))))
  (.seq (.reg [⟨(some 10), none, none, .mv (.c (.nils))⟩] none)
  (.seq (.seq (.reg [⟨(some 11), none, none, .mv (.c (.p (.int .i64 0)))⟩] none)
  (.fg [0, 3, 5, 7, 10, 11] (.block 4
  (.loop (.fg [0, 3, 5, 7, 10, 11]
    (.seq (.seq (.reg [⟨(some 66), none, none, .mv (.t 11)⟩,
    ⟨(some 67), none, none, .mv (.t 0)⟩,
    ⟨(some 68), none, none, .len (.t 67)⟩,
    ⟨(some 69), none, none, .bin .lss (.t 66) (.t 68)⟩] none)
      (.fg [0, 3, 5, 7, 10, 11, 69] (.cond (.t 69)
        .skip
        (.exit 4))))
      (.seq (.block 5
      (.seq (.reg [⟨(some 12), none, none, .mv (.c (.nils))⟩] none)
        (.seq (.seq (.reg [⟨(some 13), none, none, .mv (.c (.p (.int .i64 0)))⟩] none)
        (.fg [0, 3, 5, 7, 10, 11, 12, 13] (.block 6
        (.loop (.fg [0, 3, 5, 7, 10, 11, 12, 13]
          (.seq (.seq (.reg [⟨(some 72), none, none, .mv (.t 13)⟩,
    ⟨(some 73), none, none, .mv (.t 0)⟩,
    ⟨(some 74), none, none, .mv (.t 11)⟩,
    ⟨(some 75), none, none, .indexA 1 (.t 73) (.t 74)⟩,
    ⟨(some 76), none, none, .load false 1 (.t 75)⟩,
    ⟨(some 77), none, none, .len (.t 76)⟩,
    ⟨(some 78), none, none, .bin .lss (.t 72) (.t 77)⟩] none)
            (.fg [0, 3, 5, 7, 10, 11, 12, 13, 78] (.cond (.t 78)
              .skip
              (.exit 6))))
            (.seq (.block 7
            (.seq (.reg [⟨(some 82), none, none, .mv (.t 0)⟩,
    ⟨(some 83), none, none, .mv (.t 11)⟩,
    ⟨(some 84), none, none, .indexA 1 (.t 82) (.t 83)⟩,
    ⟨(some 85), none, none, .load false 1 (.t 84)⟩,
    ⟨(some 86), none, none, .mv (.t 13)⟩,
    ⟨(some 87), none, none, .indexA 2 (.t 85) (.t 86)⟩,
    ⟨(some 88), none, none, .load true 2 (.t 87)⟩,
    ⟨(some 89), none, none, .mv (.t 7)⟩,
    ⟨(some 90), none, none, .build [.p (.bool false), .nils] [(1, 1, .t 89)]⟩,
    ⟨(some 91), none, none, .call .pu 100 [.t 88, .t 90]⟩,
    ⟨(some 81), none, none, .mv (.t 91)⟩,
    ⟨(some 92), none, none, .extract (.t 81) 0⟩,
    ⟨(some 93), none, none, .extract (.t 81) 1⟩,
    ⟨(some 14), none, none, .alloc [.p (.bool false), .nils]⟩,
    ⟨(some 15), none, none, .alloc [.p (.bool false), .nils]⟩,
    ⟨none, none, none, .store 2 (.t 14) (.t 92)⟩,
    ⟨none, none, none, .store 2 (.t 15) (.t 93)⟩] none)
              (.reg [⟨(some 94), none, none, .mv (.t 12)⟩,
    ⟨(some 95), none, none, .load true 2 (.t 14)⟩,
    ⟨(some 96), none, none, .bslice 2 [.t 95]⟩,
    ⟨(some 97), none, none, .append 2 32 (.t 94) (.t 96)⟩,
    ⟨(some 12), none, none, .mv (.t 97)⟩] none)))
            (.fg [0, 3, 5, 7, 10, 11, 12, 13] (.reg [⟨(some 79), none, none, .mv (.t 13)⟩,
    ⟨(some 80), none, none, .bin .add (.t 79) (.c (.p (.int .i64 1)))⟩,
    ⟨(some 13), none, none, .mv (.t 80)⟩] none)))))))))
        (.reg [⟨(some 98), none, none, .mv (.t 10)⟩,
    ⟨(some 99), none, none, .mv (.t 12)⟩,
    ⟨(some 100), none, none, .bslice 1 [.t 99]⟩,
    ⟨(some 101), none, none, .append 1 24 (.t 98) (.t 100)⟩,
    ⟨(some 10), none, none, .mv (.t 101)⟩] none))))
      (.fg [0, 3, 5, 7, 10, 11] (.reg [⟨(some 70), none, none, .mv (.t 11)⟩,
    ⟨(some 71), none, none, .bin .add (.t 70) (.c (.p (.int .i64 1)))⟩,
    ⟨(some 11), none, none, .mv (.t 71)⟩] none)))))))))
  (.seq (.reg [⟨(some 103), none, none, .load true 2 (.t 3)⟩,
    ⟨(some 104), none, none, .mv (.t 7)⟩,
    ⟨(some 105), none, none, .build [.p (.bool false), .nils] [(1, 1, .t 104)]⟩,
    ⟨(some 106), none, none, .call .pu 100 [.t 103, .t 105]⟩,
    ⟨(some 102), none, none, .mv (.t 106)⟩,
    ⟨(some 107), none, none, .extract (.t 102) 0⟩,
    ⟨(some 108), none, none, .extract (.t 102) 1⟩,
    ⟨(some 16), none, none, .alloc [.p (.bool false), .nils]⟩,
    ⟨(some 17), none, none, .alloc [.p (.bool false), .nils]⟩,
    ⟨none, none, none, .store 2 (.t 16) (.t 107)⟩,
    ⟨none, none, none, .store 2 (.t 17) (.t 108)⟩] none)
  (.seq (.reg [⟨(some 109), none, none, .mv (.t 10)⟩,
    ⟨(some 110), none, none, .load true 2 (.t 16)⟩,
    ⟨(some 4), none, none, .mv (.t 109)⟩,
    ⟨none, none, none, .store 2 (.t 5) (.t 110)⟩,
    ⟨(some 6), none, none, .mv (.c (.p (.int .i64 0)))⟩] (some (0, [])))
  .ret)))))))),
  [.t 4, .cell 5 true 2, .t 6]⟩

theorem c45 : chkF Try.prog 45 f45 = true := by kernel_rfl

/-- trammel/trammellaw21.lists -/
def f46 : RFun := ⟨(.seq (.reg [⟨(some 4), none, none, .mv (.c (.p (.bool false)))⟩] none)
  (.seq (.seq (.reg [⟨(some 6), none, none, .mv (.t 0)⟩,
    ⟨(some 7), none, none, .len (.t 6)⟩,
    ⟨(some 8), none, none, .mv (.t 1)⟩,
    ⟨(some 9), none, none, .len (.t 8)⟩,
    ⟨(some 10), none, none, .bin .neq (.t 7) (.t 9)⟩] none)
  (.fg [0, 1, 10] (.cond (.t 10)
    (.seq (.reg [⟨(some 4), none, none, .mv (.c (.p (.bool false)))⟩] none)
    .ret)
    .skip)))
  (.seq (.seq (.reg [⟨(some 5), none, none, .mv (.c (.p (.int .i64 0)))⟩] none)
  (.fg [0, 1, 5] (.block 0
  (.loop (.fg [0, 1, 5]
    (.seq (.seq (.reg [⟨(some 11), none, none, .mv (.t 5)⟩,
    ⟨(some 12), none, none, .mv (.t 0)⟩,
    ⟨(some 13), none, none, .len (.t 12)⟩,
    ⟨(some 14), none, none, .bin .lss (.t 11) (.t 13)⟩] none)
      (.fg [0, 1, 5, 14] (.cond (.t 14)
        .skip
        (.exit 0))))
      (.seq (.block 1
      (.seq (.reg [⟨(some 17), none, none, .mv (.t 0)⟩,
    ⟨(some 18), none, none, .mv (.t 5)⟩,
    ⟨(some 19), none, none, .indexA 1 (.t 17) (.t 18)⟩,
    ⟨(some 20), none, none, .load false 1 (.t 19)⟩,
    ⟨(some 21), none, none, .mv (.t 1)⟩,
    ⟨(some 22), none, none, .mv (.t 5)⟩,
    ⟨(some 23), none, none, .indexA 1 (.t 21) (.t 22)⟩,
    ⟨(some 24), none, none, .load false 1 (.t 23)⟩,
    ⟨(some 25), none, none, .call .pu 101 [.t 20, .t 24]⟩,
    ⟨(some 26), none, none, .un .not (.t 25)⟩] (some (0, [])))
        (.fg [0, 1, 5, 26] (.cond (.t 26)
          (.seq (.reg [⟨(some 4), none, none, .mv (.c (.p (.bool false)))⟩] none)
          .ret)
          .skip))))
      (.fg [0, 1, 5] (.reg [⟨(some 15), none, none, .mv (.t 5)⟩,
    ⟨(some 16), none, none, .bin .add (.t 15) (.c (.p (.int .i64 1)))⟩,
    ⟨(some 5), none, none, .mv (.t 16)⟩] none)))))))))
  (.seq (.reg [⟨(some 4), none, none, .mv (.c (.p (.bool true)))⟩] none)
  .ret)))),
  [.t 4]⟩

theorem c46 : chkF Try.prog 46 f46 = true := by kernel_rfl

/-- trammel/trammellaw21.whole -/
def f47 : RFun := ⟨(.seq (.reg [⟨(some 2), none, none, .box (.t 0)⟩,
    ⟨(some 3), none, none, .box (.t 1)⟩,
    ⟨(some 4), none, none, .mv (.c (.p (.bool false)))⟩] none)
  (.seq (.seq (.reg [⟨(some 6), none, none, .fieldA 0 (.t 2)⟩,
    ⟨(some 7), none, none, .load false 1 (.t 6)⟩,
    ⟨(some 8), none, none, .fieldA 0 (.t 3)⟩,
    ⟨(some 9), none, none, .load false 1 (.t 8)⟩,
    ⟨(some 10), none, none, .beq true (.t 7) (.t 9)⟩,
    ⟨(some 11), none, none, .mv (.t 10)⟩,
    ⟨(some 12), (some (11, false)), none, .fieldA 1 (.t 2)⟩,
    ⟨(some 13), (some (11, false)), none, .load false 1 (.t 12)⟩,
    ⟨(some 14), (some (11, false)), none, .len (.t 13)⟩,
    ⟨(some 15), (some (11, false)), none, .fieldA 1 (.t 3)⟩,
    ⟨(some 16), (some (11, false)), none, .load false 1 (.t 15)⟩,
    ⟨(some 17), (some (11, false)), none, .len (.t 16)⟩,
    ⟨(some 18), (some (11, false)), none, .bin .neq (.t 14) (.t 17)⟩,
    ⟨(some 19), none, none, .pick (.t 11) (.c (.p (.bool true))) (.t 18)⟩] none)
  (.fg [2, 3, 19] (.cond (.t 19)
    (.seq (.reg [⟨(some 4), none, none, .mv (.c (.p (.bool false)))⟩] none)
    .ret)
    .skip)))
  (.seq (.seq (.reg [⟨(some 5), none, none, .mv (.c (.p (.int .i64 0)))⟩] none)
  (.fg [2, 3, 5] (.block 0
  (.loop (.fg [2, 3, 5]
    (.seq (.seq (.reg [⟨(some 20), none, none, .mv (.t 5)⟩,
    ⟨(some 21), none, none, .fieldA 1 (.t 2)⟩,
    ⟨(some 22), none, none, .load false 1 (.t 21)⟩,
    ⟨(some 23), none, none, .len (.t 22)⟩,
    ⟨(some 24), none, none, .bin .lss (.t 20) (.t 23)⟩] none)
      (.fg [2, 3, 5, 24] (.cond (.t 24)
        .skip
        (.exit 0))))
      (.seq (.block 1
      (.seq (.reg [⟨(some 27), none, none, .fieldA 1 (.t 2)⟩,
    ⟨(some 28), none, none, .load false 1 (.t 27)⟩,
    ⟨(some 29), none, none, .mv (.t 5)⟩,
    ⟨(some 30), none, none, .indexA 1 (.t 28) (.t 29)⟩,
    ⟨(some 31), none, none, .load false 1 (.t 30)⟩,
    ⟨(some 32), none, none, .fieldA 1 (.t 3)⟩,
    ⟨(some 33), none, none, .load false 1 (.t 32)⟩,
    ⟨(some 34), none, none, .mv (.t 5)⟩,
    ⟨(some 35), none, none, .indexA 1 (.t 33) (.t 34)⟩,
    ⟨(some 36), none, none, .load false 1 (.t 35)⟩,
    ⟨(some 37), none, none, .bin .neq (.t 31) (.t 36)⟩] (some (0, [])))
        (.fg [2, 3, 5, 37] (.cond (.t 37)
          (.seq (.reg [⟨(some 4), none, none, .mv (.c (.p (.bool false)))⟩] none)
          .ret)
          .skip))))
      (.fg [2, 3, 5] (.reg [⟨(some 25), none, none, .mv (.t 5)⟩,
    ⟨(some 26), none, none, .bin .add (.t 25) (.c (.p (.int .i64 1)))⟩,
    ⟨(some 5), none, none, .mv (.t 26)⟩] none)))))))))
  (.seq (.reg [⟨(some 4), none, none, .mv (.c (.p (.bool true)))⟩] none)
  .ret)))),
  [.t 4]⟩

theorem c47 : chkF Try.prog 47 f47 = true := by kernel_rfl

/-- trammel/trammellaw21.awake -/
def f48 : RFun := ⟨(.seq (.reg [⟨(some 0), none, none, .mv (.c (.p (.bool false)))⟩] none)
  (.seq (.reg [⟨(some 5), none, none, .call .pu 103 [.c (.p (.int .i64 1))]⟩,
    ⟨(some 6), none, none, .call .pu 103 [.c (.p (.int .i64 0))]⟩,
    ⟨(some 7), none, none, .bslice 2 [.t 5, .t 6]⟩,
    ⟨(some 8), none, none, .call .pu 103 [.c (.p (.int .i64 0))]⟩,
    ⟨(some 9), none, none, .call .pu 103 [.c (.p (.int .i64 2))]⟩,
    ⟨(some 10), none, none, .bslice 2 [.t 8, .t 9]⟩,
    ⟨(some 11), none, none, .bslice 1 [.t 7, .t 10]⟩,
    ⟨(some 12), none, none, .call .fz 102 [.t 11]⟩,
    ⟨(some 4), none, none, .mv (.t 12)⟩,
    ⟨(some 13), none, none, .extract (.t 4) 0⟩,
    ⟨(some 14), none, none, .extract (.t 4) 1⟩,
    ⟨(some 15), none, none, .extract (.t 4) 2⟩,
    ⟨(some 2), none, none, .alloc [.p (.bool false), .nils]⟩,
    ⟨(some 1), none, none, .mv (.t 13)⟩,
    ⟨none, none, none, .store 2 (.t 2) (.t 14)⟩,
    ⟨(some 3), none, none, .mv (.t 15)⟩] none)
  (.seq (.reg [⟨(some 16), none, none, .mv (.t 3)⟩,
    ⟨(some 17), none, none, .bin .eql (.t 16) (.c (.p (.int .i64 0)))⟩,
    ⟨(some 18), none, none, .mv (.t 17)⟩,
    ⟨(some 19), (some (18, true)), none, .load true 2 (.t 2)⟩,
    ⟨(some 20), (some (18, true)), none, .call .pu 103 [.c (.p (.int .i64 4))]⟩,
    ⟨(some 21), (some (18, true)), none, .call .pu 47 [.t 19, .t 20]⟩,
    ⟨(some 22), none, none, .pick (.t 18) (.t 21) (.c (.p (.bool false)))⟩,
    ⟨(some 23), none, none, .mv (.t 22)⟩,
    ⟨(some 24), (some (23, true)), none, .mv (.t 1)⟩,
    ⟨(some 25), (some (23, true)), none, .call .pu 103 [.c (.p (.int .i64 4))]⟩,
    ⟨(some 26), (some (23, true)), none, .call .pu 103 [.c (.p (.int .i64 0))]⟩,
    ⟨(some 27), (some (23, true)), (some 0), .bslice 2 [.t 25, .t 26]⟩,
    ⟨(some 28), (some (23, true)), none, .call .pu 103 [.c (.p (.int .i64 0))]⟩,
    ⟨(some 29), (some (23, true)), none, .call .pu 103 [.c (.p (.int .i64 2))]⟩,
    ⟨(some 30), (some (23, true)), (some 1), .bslice 2 [.t 28, .t 29]⟩,
    ⟨(some 31), (some (23, true)), (some 2), .bslice 1 [.t 27, .t 30]⟩,
    ⟨(some 32), (some (23, true)), none, .call .fz 46 [.t 24, .t 31]⟩,
    ⟨(some 33), none, none, .pick (.t 23) (.t 32) (.c (.p (.bool false)))⟩,
    ⟨(some 0), none, none, .mv (.t 33)⟩] (some (3, [(11, 14)])))
  .ret))),
  [.t 0]⟩

theorem c48 : chkF Try.prog 48 f48 = true := by kernel_rfl

/-- trammel/mat.Form -/
def f70 : RFun := ⟨(.seq (.reg [⟨(some 2), none, none, .mv (.c (.nils))⟩] none)
  (.seq (.reg [⟨(some 3), none, none, .mv (.t 0)⟩,
    ⟨(some 4), none, none, .call .keep 114 [.t 3, .c (.fn 115 [])]⟩,
    ⟨(some 2), none, none, .mv (.t 4)⟩] none)
  .ret)),
  [.t 2]⟩

theorem c70 : chkF Try.prog 70 f70 = true := by kernel_rfl

/-- trammel/mat.Times -/
def f78 : RFun := ⟨(.seq (.reg [⟨(some 2), none, none, .box (.t 0)⟩,
    ⟨(some 4), none, none, .mv (.c (.nils))⟩] none)
  (.seq (.reg [⟨(some 5), none, none, .mv (.t 1)⟩,
    ⟨(some 6), none, none, .mkfn 120 [.t 2]⟩,
    ⟨(some 7), none, none, .call .full 116 [.t 5, .t 6]⟩,
    ⟨(some 4), none, none, .mv (.t 7)⟩] none)
  .ret)),
  [.t 4]⟩

theorem c78 : chkF Try.prog 78 f78 = true := by kernel_rfl

/-- trammel/zint.Form -/
def f94 : RFun := ⟨(.seq (.reg [⟨(some 1), none, none, .box (.t 0)⟩,
    ⟨(some 2), none, none, .alloc [.p (.bool false), .nils]⟩] none)
  (.seq (.reg [⟨(some 3), none, none, .fieldA 0 (.t 1)⟩,
    ⟨(some 4), none, none, .load false 1 (.t 3)⟩,
    ⟨(some 5), none, none, .fieldA 1 (.t 1)⟩,
    ⟨(some 6), none, none, .load false 1 (.t 5)⟩,
    ⟨(some 7), none, none, .call .pu 105 [.t 4, .t 6]⟩,
    ⟨none, none, none, .store 2 (.t 2) (.t 7)⟩] none)
  .ret)),
  [.cell 2 true 2]⟩

theorem c94 : chkF Try.prog 94 f94 = true := by kernel_rfl

/-- trammel/dual.each -/
def f95 : RFun := ⟨(.seq (.reg [⟨(some 1), none, none, .box (.t 0)⟩,
    ⟨(some 2), none, none, .mv (.c (.any))⟩] none)
  (.seq (.reg [⟨(some 3), none, none, .mkfn 132 [.t 1]⟩,
    ⟨(some 2), none, none, .mv (.t 3)⟩] none)
  .ret)),
  [.t 2]⟩

theorem c95 : chkF Try.prog 95 f95 = true := by kernel_rfl

/-- trammel/zint.Gcd -/
def f96 : RFun := ⟨(.seq (.reg [⟨(some 2), none, none, .box (.t 0)⟩,
    ⟨(some 3), none, none, .box (.t 1)⟩,
    ⟨(some 4), none, none, .alloc [.p (.bool false), .nils]⟩] none)
  (.seq (.reg [⟨(some 5), none, none, .fieldA 1 (.t 2)⟩,
    ⟨(some 6), none, none, .load false 1 (.t 5)⟩,
    ⟨(some 7), none, none, .fieldA 1 (.t 3)⟩,
    ⟨(some 8), none, none, .load false 1 (.t 7)⟩,
    ⟨(some 9), none, none, .call .pu 133 [.t 6, .t 8]⟩,
    ⟨(some 10), none, none, .call .pu 105 [.c (.p (.bool false)), .t 9]⟩,
    ⟨none, none, none, .store 2 (.t 4) (.t 10)⟩] none)
  .ret)),
  [.cell 4 true 2]⟩

theorem c96 : chkF Try.prog 96 f96 = true := by kernel_rfl

/-- trammel/zint.Exact -/
def f97 : RFun := ⟨(.seq (.reg [⟨(some 2), none, none, .box (.t 0)⟩,
    ⟨(some 3), none, none, .box (.t 1)⟩,
    ⟨(some 4), none, none, .alloc [.p (.bool false), .nils]⟩,
    ⟨(some 5), none, none, .mv (.c (.p (.int .i64 0)))⟩] none)
  (.seq (.reg [⟨(some 10), none, none, .load true 2 (.t 2)⟩,
    ⟨(some 11), none, none, .load true 2 (.t 3)⟩,
    ⟨(some 12), none, none, .call .pu 134 [.t 10, .t 11]⟩,
    ⟨(some 9), none, none, .mv (.t 12)⟩,
    ⟨(some 13), none, none, .extract (.t 9) 0⟩,
    ⟨(some 14), none, none, .extract (.t 9) 1⟩,
    ⟨(some 15), none, none, .extract (.t 9) 2⟩,
    ⟨(some 6), none, none, .alloc [.p (.bool false), .nils]⟩,
    ⟨(some 7), none, none, .alloc [.p (.bool false), .nils]⟩,
    ⟨none, none, none, .store 2 (.t 6) (.t 13)⟩,
    ⟨none, none, none, .store 2 (.t 7) (.t 14)⟩,
    ⟨(some 8), none, none, .mv (.t 15)⟩] none)
  (.seq (.block 0
  (.seq (.reg [⟨(some 17), none, none, .mv (.t 8)⟩,
    ⟨(some 18), none, none, .bin .neq (.t 17) (.c (.p (.int .i64 0)))⟩,
    ⟨(some 16), none, none, .mv (.t 18)⟩] none)
    (.fg [4, 6, 7, 8, 16] (.cond (.t 16)
      (.seq (.reg [⟨(some 19), none, none, .build [.p (.bool false), .nils] []⟩,
    ⟨(some 20), none, none, .mv (.t 8)⟩,
    ⟨none, none, none, .store 2 (.t 4) (.t 19)⟩,
    ⟨(some 5), none, none, .mv (.t 20)⟩] none)
      .ret)
      (.seq (.reg [⟨(some 22), none, none, .load true 2 (.t 7)⟩,
    ⟨(some 23), none, none, .call .pu 77 [.t 22]⟩,
    ⟨(some 24), none, none, .bin .neq (.t 23) (.c (.p (.int .i64 0)))⟩,
    ⟨(some 21), none, none, .mv (.t 24)⟩] none)
      (.fg [4, 6, 21] (.cond (.t 21)
        (.seq (.reg [⟨(some 25), none, none, .build [.p (.bool false), .nils] []⟩,
    ⟨none, none, none, .store 2 (.t 4) (.t 25)⟩,
    ⟨(some 5), none, none, .mv (.c (.p (.int .i64 20)))⟩] none)
        .ret)
        .skip)))))))
  (.fg [4, 6] (.seq (.reg [⟨(some 26), none, none, .load true 2 (.t 6)⟩,
    ⟨none, none, none, .store 2 (.t 4) (.t 26)⟩,
    ⟨(some 5), none, none, .mv (.c (.p (.int .i64 0)))⟩] none)
  .ret))))),
  [.cell 4 true 2, .t 5]⟩

theorem c97 : chkF Try.prog 97 f97 = true := by kernel_rfl

/-- trammel/trammelref02.Floor -/
def f100 : RFun := ⟨(.seq (.reg [⟨(some 2), none, none, .box (.t 0)⟩,
    ⟨(some 3), none, none, .box (.t 1)⟩,
    ⟨(some 4), none, none, .alloc [.p (.bool false), .nils]⟩,
    ⟨(some 5), none, none, .alloc [.p (.bool false), .nils]⟩] none)
  (.seq (.reg [⟨(some 12), none, none, .fieldA 1 (.t 2)⟩,
    ⟨(some 13), none, none, .load false 1 (.t 12)⟩,
    ⟨(some 14), none, none, .fieldA 1 (.t 3)⟩,
    ⟨(some 15), none, none, .load false 1 (.t 14)⟩,
    ⟨(some 16), none, none, .call .pu 135 [.t 13, .t 15]⟩,
    ⟨(some 11), none, none, .mv (.t 16)⟩,
    ⟨(some 17), none, none, .extract (.t 11) 0⟩,
    ⟨(some 18), none, none, .extract (.t 11) 1⟩,
    ⟨(some 19), none, none, .extract (.t 11) 2⟩,
    ⟨(some 6), none, none, .mv (.t 17)⟩,
    ⟨(some 7), none, none, .mv (.t 18)⟩,
    ⟨(some 8), none, none, .mv (.t 19)⟩] none)
  (.seq (.reg [⟨(some 20), none, none, .fieldA 0 (.t 2)⟩,
    ⟨(some 21), none, none, .load false 1 (.t 20)⟩,
    ⟨(some 22), none, none, .fieldA 0 (.t 3)⟩,
    ⟨(some 23), none, none, .load false 1 (.t 22)⟩,
    ⟨(some 24), none, none, .beq true (.t 21) (.t 23)⟩,
    ⟨(some 25), none, none, .mv (.t 6)⟩,
    ⟨(some 26), none, none, .call .pu 107 [.t 24, .t 25]⟩,
    ⟨(some 9), none, none, .alloc [.p (.bool false), .nils]⟩,
    ⟨none, none, none, .store 2 (.t 9) (.t 26)⟩] none)
  (.seq (.reg [⟨(some 27), none, none, .load true 2 (.t 2)⟩,
    ⟨(some 28), none, none, .load true 2 (.t 9)⟩,
    ⟨(some 29), none, none, .load true 2 (.t 3)⟩,
    ⟨(some 30), none, none, .call .pu 117 [.t 28, .t 29]⟩,
    ⟨(some 31), none, none, .call .pu 60 [.t 27, .t 30]⟩,
    ⟨(some 10), none, (some 0), .alloc [.p (.bool false), .nils]⟩,
    ⟨none, none, none, .store 2 (.t 10) (.t 31)⟩] (some (1, [])))
  (.seq (.seq (.reg [⟨(some 32), none, none, .load true 2 (.t 10)⟩,
    ⟨(some 33), none, none, .call .pu 79 [.t 32]⟩,
    ⟨(some 34), none, none, .bin .neq (.t 33) (.c (.p (.int .i64 0)))⟩,
    ⟨(some 35), none, none, .mv (.t 34)⟩,
    ⟨(some 36), (some (35, true)), none, .load true 2 (.t 10)⟩,
    ⟨(some 37), (some (35, true)), none, .call .pu 79 [.t 36]⟩,
    ⟨(some 38), (some (35, true)), none, .load true 2 (.t 3)⟩,
    ⟨(some 39), (some (35, true)), none, .call .pu 79 [.t 38]⟩,
    ⟨(some 40), (some (35, true)), none, .bin .neq (.t 37) (.t 39)⟩,
    ⟨(some 41), none, none, .pick (.t 35) (.t 40) (.c (.p (.bool false)))⟩] (some (0, [])))
  (.fg [3, 4, 5, 9, 10, 41] (.cond (.t 41)
    (.seq (.reg [⟨(some 42), none, none, .load true 2 (.t 9)⟩,
    ⟨(some 43), none, none, .call .pu 66 [.c (.p (.int .i64 1))]⟩,
    ⟨(some 44), none, none, .call .pu 60 [.t 42, .t 43]⟩,
    ⟨none, none, none, .store 2 (.t 9) (.t 44)⟩] (some (0, [])))
    (.reg [⟨(some 45), none, none, .load true 2 (.t 10)⟩,
    ⟨(some 46), none, none, .load true 2 (.t 3)⟩,
    ⟨(some 47), none, none, .call .pu 109 [.t 45, .t 46]⟩,
    ⟨none, none, none, .store 2 (.t 10) (.t 47)⟩] none))
    .skip)))
  (.seq (.reg [⟨(some 48), none, none, .load true 2 (.t 9)⟩,
    ⟨(some 49), none, none, .load true 2 (.t 10)⟩,
    ⟨none, none, none, .store 2 (.t 4) (.t 48)⟩,
    ⟨none, none, none, .store 2 (.t 5) (.t 49)⟩] (some (0, [(1, 2)])))
  .ret)))))),
  [.cell 4 true 2, .cell 5 true 2]⟩

theorem c100 : chkF Try.prog 100 f100 = true := by kernel_rfl

/-- trammel/trammellaw21.wholes -/
def f101 : RFun := ⟨(.seq (.reg [⟨(some 4), none, none, .mv (.c (.p (.bool false)))⟩] none)
  (.seq (.seq (.reg [⟨(some 6), none, none, .mv (.t 0)⟩,
    ⟨(some 7), none, none, .len (.t 6)⟩,
    ⟨(some 8), none, none, .mv (.t 1)⟩,
    ⟨(some 9), none, none, .len (.t 8)⟩,
    ⟨(some 10), none, none, .bin .neq (.t 7) (.t 9)⟩] none)
  (.fg [0, 1, 10] (.cond (.t 10)
    (.seq (.reg [⟨(some 4), none, none, .mv (.c (.p (.bool false)))⟩] none)
    .ret)
    .skip)))
  (.seq (.seq (.reg [⟨(some 5), none, none, .mv (.c (.p (.int .i64 0)))⟩] none)
  (.fg [0, 1, 5] (.block 0
  (.loop (.fg [0, 1, 5]
    (.seq (.seq (.reg [⟨(some 11), none, none, .mv (.t 5)⟩,
    ⟨(some 12), none, none, .mv (.t 0)⟩,
    ⟨(some 13), none, none, .len (.t 12)⟩,
    ⟨(some 14), none, none, .bin .lss (.t 11) (.t 13)⟩] none)
      (.fg [0, 1, 5, 14] (.cond (.t 14)
        .skip
        (.exit 0))))
      (.seq (.block 1
      (.seq (.reg [⟨(some 17), none, none, .mv (.t 0)⟩,
    ⟨(some 18), none, none, .mv (.t 5)⟩,
    ⟨(some 19), none, none, .indexA 2 (.t 17) (.t 18)⟩,
    ⟨(some 20), none, none, .load true 2 (.t 19)⟩,
    ⟨(some 21), none, none, .mv (.t 1)⟩,
    ⟨(some 22), none, none, .mv (.t 5)⟩,
    ⟨(some 23), none, none, .indexA 2 (.t 21) (.t 22)⟩,
    ⟨(some 24), none, none, .load true 2 (.t 23)⟩,
    ⟨(some 25), none, none, .call .pu 68 [.t 24]⟩,
    ⟨(some 26), none, none, .call .pu 47 [.t 20, .t 25]⟩,
    ⟨(some 27), none, none, .un .not (.t 26)⟩] (some (0, [])))
        (.fg [0, 1, 5, 27] (.cond (.t 27)
          (.seq (.reg [⟨(some 4), none, none, .mv (.c (.p (.bool false)))⟩] none)
          .ret)
          .skip))))
      (.fg [0, 1, 5] (.reg [⟨(some 15), none, none, .mv (.t 5)⟩,
    ⟨(some 16), none, none, .bin .add (.t 15) (.c (.p (.int .i64 1)))⟩,
    ⟨(some 5), none, none, .mv (.t 16)⟩] none)))))))))
  (.seq (.reg [⟨(some 4), none, none, .mv (.c (.p (.bool true)))⟩] none)
  .ret)))),
  [.t 4]⟩

theorem c101 : chkF Try.prog 101 f101 = true := by kernel_rfl

/-- trammel/dual.Scaled -/
def f102 : RFun := ⟨(.seq (.reg [⟨(some 2), none, none, .mv (.c (.nils))⟩,
    ⟨(some 3), none, none, .alloc [.p (.bool false), .nils]⟩,
    ⟨(some 4), none, none, .mv (.c (.p (.int .i64 0)))⟩] none)
  (.seq (.seq (.reg [⟨(some 8), none, none, .mv (.t 0)⟩,
    ⟨(some 9), none, none, .call .pu 59 [.t 8]⟩,
    ⟨(some 5), none, none, .mv (.t 9)⟩] none)
  (.seq (.reg [⟨(some 10), none, none, .mv (.t 5)⟩,
    ⟨(some 11), none, none, .bin .neq (.t 10) (.c (.p (.int .i64 0)))⟩] none)
  (.fg [0, 3, 5, 11] (.cond (.t 11)
    (.seq (.reg [⟨(some 12), none, none, .build [.p (.bool false), .nils] []⟩,
    ⟨(some 13), none, none, .mv (.t 5)⟩,
    ⟨(some 2), none, none, .mv (.c (.nils))⟩,
    ⟨none, none, none, .store 2 (.t 3) (.t 12)⟩,
    ⟨(some 4), none, none, .mv (.t 13)⟩] none)
    .ret)
    .skip))))
  (.seq (.reg [⟨(some 15), none, none, .mv (.t 0)⟩,
    ⟨(some 16), none, none, .call .pu 136 [.t 15]⟩,
    ⟨(some 14), none, none, .mv (.t 16)⟩,
    ⟨(some 17), none, none, .extract (.t 14) 0⟩,
    ⟨(some 18), none, none, .extract (.t 14) 1⟩,
    ⟨(some 7), none, none, .alloc [.p (.bool false), .nils]⟩,
    ⟨(some 6), none, none, .mv (.t 17)⟩,
    ⟨none, none, none, .store 2 (.t 7) (.t 18)⟩] none)
  (.seq (.reg [⟨(some 19), none, none, .mv (.t 6)⟩,
    ⟨(some 20), none, none, .load true 2 (.t 7)⟩,
    ⟨(some 2), none, none, .mv (.t 19)⟩,
    ⟨none, none, none, .store 2 (.t 3) (.t 20)⟩,
    ⟨(some 4), none, none, .mv (.c (.p (.int .i64 0)))⟩] (some (0, [])))
  .ret)))),
  [.t 2, .cell 3 true 2, .t 4]⟩

theorem c102 : chkF Try.prog 102 f102 = true := by kernel_rfl

/-- trammel/trammellaw21.n -/
def f103 : RFun := ⟨(.seq (.reg [⟨(some 2), none, none, .alloc [.p (.bool false), .nils]⟩] none)
  (.seq (.reg [⟨(some 3), none, none, .mv (.t 0)⟩,
    ⟨(some 4), none, none, .call .pu 66 [.t 3]⟩,
    ⟨none, none, none, .store 2 (.t 2) (.t 4)⟩] none)
  .ret)),
  [.cell 2 true 2]⟩

theorem c103 : chkF Try.prog 103 f103 = true := by kernel_rfl

/-- trammel/mat.each[[]trammel/api.Int,[]trammel/api.Int] -/
def f114 : RFun := ⟨(.seq (.reg [⟨(some 4), none, none, .mv (.c (.nils))⟩] none)
  (.seq (.reg [⟨(some 8), none, none, .mv (.t 0)⟩,
    ⟨(some 9), none, none, .len (.t 8)⟩,
    ⟨(some 10), none, none, .mks true 1 24 (.sl []) (.c (.p (.int .i64 0))) (.t 9)⟩,
    ⟨(some 5), none, none, .mv (.t 10)⟩] none)
  (.seq (.seq (.reg [⟨(some 11), none, none, .mv (.t 0)⟩,
    ⟨(some 12), none, none, .len (.t 11)⟩,
    ⟨(some 13), none, none, .mv (.c (.p (.int .i64 0)))⟩] none)
  (.fg [1, 5, 11, 12, 13] (.block 0
  (.loop (.fg [1, 5, 11, 12, 13]
    (.seq (.reg [⟨(some 14), none, none, .bin .lss (.t 13) (.t 12)⟩] none)
      (.seq (.cond (.t 14)
        .skip
        (.exit 0))
      (.fg [1, 5, 11, 12, 13] (.seq (.block 1
      (.seq (.reg [⟨(some 15), none, none, .indexA 1 (.t 11) (.t 13)⟩,
    ⟨(some 16), none, none, .load false 1 (.t 15)⟩,
    ⟨(some 7), none, none, .mv (.t 16)⟩] none)
        (.reg [⟨(some 17), none, none, .mv (.t 5)⟩,
    ⟨(some 18), none, none, .mv (.t 1)⟩,
    ⟨(some 19), none, none, .mv (.t 7)⟩,
    ⟨(some 20), none, none, .callv .keep (.t 18) [.t 19]⟩,
    ⟨(some 21), none, none, .bslk [.t 20]⟩,
    ⟨(some 22), none, none, .appk 24 (.t 17) (.t 21)⟩,
    ⟨(some 5), none, none, .mv (.t 22)⟩] none)))
      (.fg [1, 5, 11, 12, 13] (.reg [⟨(some 23), none, none, .bin .add (.t 13) (.c (.p (.int .i64 1)))⟩,
    ⟨(some 13), none, none, .mv (.t 23)⟩] none)))))))))))
  (.seq (.reg [⟨(some 24), none, none, .mv (.t 5)⟩,
    ⟨(some 4), none, none, .mv (.t 24)⟩] none)
  .ret)))),
  [.t 4]⟩

theorem c114 : chkF Try.prog 114 f114 = true := by kernel_rfl

/-- trammel/mat.Form$1 -/
def f115 : RFun := ⟨(.seq (.reg [⟨(some 2), none, none, .mv (.c (.nils))⟩] none)
  (.seq (.reg [⟨(some 3), none, none, .mv (.t 0)⟩,
    ⟨(some 4), none, none, .call .keep 116 [.t 3, .c (.fn 94 [])]⟩,
    ⟨(some 2), none, none, .mv (.t 4)⟩] none)
  .ret)),
  [.t 2]⟩

theorem c115 : chkF Try.prog 115 f115 = true := by kernel_rfl

/-- trammel/mat.each[trammel/api.Int,trammel/api.Int] -/
def f116 : RFun := ⟨(.seq (.reg [⟨(some 4), none, none, .mv (.c (.nils))⟩] none)
  (.seq (.reg [⟨(some 8), none, none, .mv (.t 0)⟩,
    ⟨(some 9), none, none, .len (.t 8)⟩,
    ⟨(some 10), none, none, .mks false 2 32 (.agg [.bool false, .sl []]) (.c (.p (.int .i64 0))) (.t 9)⟩,
    ⟨(some 5), none, none, .mv (.t 10)⟩] none)
  (.seq (.seq (.reg [⟨(some 11), none, none, .mv (.t 0)⟩,
    ⟨(some 12), none, none, .len (.t 11)⟩,
    ⟨(some 13), none, none, .mv (.c (.p (.int .i64 0)))⟩] none)
  (.fg [1, 5, 11, 12, 13] (.block 0
  (.loop (.fg [1, 5, 11, 12, 13]
    (.seq (.reg [⟨(some 14), none, none, .bin .lss (.t 13) (.t 12)⟩] none)
      (.seq (.cond (.t 14)
        .skip
        (.exit 0))
      (.fg [1, 5, 11, 12, 13] (.seq (.block 1
      (.seq (.reg [⟨(some 15), none, none, .indexA 2 (.t 11) (.t 13)⟩,
    ⟨(some 16), none, none, .load true 2 (.t 15)⟩,
    ⟨(some 7), none, none, .alloc [.p (.bool false), .nils]⟩,
    ⟨none, none, none, .store 2 (.t 7) (.t 16)⟩] none)
        (.reg [⟨(some 17), none, none, .mv (.t 5)⟩,
    ⟨(some 18), none, none, .mv (.t 1)⟩,
    ⟨(some 19), none, none, .load true 2 (.t 7)⟩,
    ⟨(some 20), none, none, .callv .cell (.t 18) [.t 19]⟩,
    ⟨(some 21), none, none, .bslice 2 [.t 20]⟩,
    ⟨(some 22), none, none, .append 2 32 (.t 17) (.t 21)⟩,
    ⟨(some 5), none, none, .mv (.t 22)⟩] none)))
      (.fg [1, 5, 11, 12, 13] (.reg [⟨(some 23), none, none, .bin .add (.t 13) (.c (.p (.int .i64 1)))⟩,
    ⟨(some 13), none, none, .mv (.t 23)⟩] none)))))))))))
  (.seq (.reg [⟨(some 24), none, none, .mv (.t 5)⟩,
    ⟨(some 4), none, none, .mv (.t 24)⟩] none)
  .ret)))),
  [.t 4]⟩

theorem c116 : chkF Try.prog 116 f116 = true := by kernel_rfl

/-- trammel/mat.Times$1 -/
def f120 : RFun := ⟨(.seq (.reg [⟨(some 2), none, none, .box (.t 0)⟩,
    ⟨(some 3), none, none, .alloc [.p (.bool false), .nils]⟩] none)
  (.seq (.reg [⟨(some 4), none, none, .load true 2 (.t 1)⟩,
    ⟨(some 5), none, none, .load true 2 (.t 2)⟩,
    ⟨(some 6), none, none, .call .pu 63 [.t 4, .t 5]⟩,
    ⟨none, none, none, .store 2 (.t 3) (.t 6)⟩] none)
  .ret)),
  [.cell 3 true 2]⟩

theorem c120 : chkF Try.prog 120 f120 = true := by kernel_rfl

/-- trammel/dual.each$1 -/
def f132 : RFun := ⟨(.iter (.seq (.reg [⟨(some 5), none, none, .load false 1 (.t 1)⟩,
    ⟨(some 6), none, none, .len (.t 5)⟩,
    ⟨(some 7), none, none, .mv (.c (.p (.int .i64 0)))⟩] none)
  (.fg [0, 5, 6, 7] (.block 0
  (.loop (.fg [0, 5, 6, 7]
    (.seq (.reg [⟨(some 8), none, none, .bin .lss (.t 7) (.t 6)⟩] none)
      (.seq (.cond (.t 8)
        .skip
        (.exit 0))
      (.fg [0, 5, 6, 7] (.seq (.block 1
      (.seq (.reg [⟨(some 9), none, none, .mv (.t 7)⟩,
    ⟨(some 10), none, none, .indexA 1 (.t 5) (.t 7)⟩,
    ⟨(some 11), none, none, .load false 1 (.t 10)⟩,
    ⟨(some 3), none, none, .mv (.t 9)⟩,
    ⟨(some 4), none, none, .mv (.t 11)⟩] none)
        (.seq (.yld 12 [⟨(some 13), none, none, .mv (.t 3)⟩, ⟨(some 14), none, none, .mv (.t 4)⟩] 15 [.t 13, .t 14] [⟨(some 16), none, none, .un .not (.t 15)⟩])
        (.fg [0, 5, 6, 7, 16] (.cond (.t 16)
          .ret
          .skip)))))
      (.fg [0, 5, 6, 7] (.reg [⟨(some 17), none, none, .bin .add (.t 7) (.c (.p (.int .i64 1)))⟩,
    ⟨(some 7), none, none, .mv (.t 17)⟩] none)))))))))))),
  []⟩

theorem c132 : chkF Try.prog 132 f132 = true := by kernel_rfl

/-- trammel/nat.Gcd -/
def f133 : RFun := ⟨(.seq (.reg [⟨(some 4), none, none, .mv (.c (.nils))⟩] none)
  (.seq (.reg [⟨(some 10), none, none, .mv (.t 0)⟩,
    ⟨(some 11), none, none, .call .pu 158 [.t 10]⟩,
    ⟨(some 12), none, none, .mv (.t 1)⟩,
    ⟨(some 13), none, none, .call .pu 158 [.t 12]⟩,
    ⟨(some 5), none, none, .mv (.t 11)⟩,
    ⟨(some 6), none, none, .mv (.t 13)⟩] none)
  (.seq (.block 0
  (.loop (.fg [5, 6]
    (.seq (.seq (.reg [⟨(some 14), none, none, .mv (.t 6)⟩,
    ⟨(some 15), none, none, .len (.t 14)⟩,
    ⟨(some 16), none, none, .bin .gtr (.t 15) (.c (.p (.int .i64 0)))⟩] none)
      (.fg [5, 6, 16] (.cond (.t 16)
        .skip
        (.exit 0))))
      (.fg [5, 6] (.block 1
      (.seq (.reg [⟨(some 18), none, none, .mv (.t 5)⟩,
    ⟨(some 19), none, none, .mv (.t 6)⟩,
    ⟨(some 20), none, none, .call .pu 159 [.t 18, .t 19]⟩,
    ⟨(some 17), none, none, .mv (.t 20)⟩,
    ⟨(some 21), none, none, .extract (.t 17) 0⟩,
    ⟨(some 22), none, none, .extract (.t 17) 1⟩,
    ⟨(some 23), none, none, .extract (.t 17) 2⟩,
    ⟨(some 7), none, none, .mv (.t 21)⟩,
    ⟨(some 8), none, none, .mv (.t 22)⟩,
    ⟨(some 9), none, none, .mv (.t 23)⟩] none)
        (.reg [⟨(some 24), none, none, .mv (.t 6)⟩,
    ⟨(some 25), none, none, .mv (.t 8)⟩,
    ⟨(some 5), none, none, .mv (.t 24)⟩,
    ⟨(some 6), none, none, .mv (.t 25)⟩] none))))))))
  (.fg [5] (.seq (.reg [⟨(some 26), none, none, .mv (.t 5)⟩,
    ⟨(some 4), none, none, .mv (.t 26)⟩] none)
  .ret))))),
  [.t 4]⟩

theorem c133 : chkF Try.prog 133 f133 = true := by kernel_rfl

/-- trammel/dual.scaled -/
def f136 : RFun := ⟨(.seq (.reg [⟨(some 2), none, none, .mv (.c (.nils))⟩,
    ⟨(some 3), none, none, .alloc [.p (.bool false), .nils]⟩] none)
  (.seq (.reg [⟨(some 17), none, none, .mv (.t 0)⟩,
    ⟨(some 18), none, none, .call .pu 165 [.t 17]⟩,
    ⟨(some 16), none, none, .mv (.t 18)⟩,
    ⟨(some 19), none, none, .extract (.t 16) 0⟩,
    ⟨(some 20), none, none, .extract (.t 16) 1⟩,
    ⟨(some 4), none, none, .mv (.t 19)⟩,
    ⟨(some 5), none, none, .mv (.t 20)⟩] none)
  (.seq (.reg [⟨(some 22), none, none, .mv (.t 4)⟩,
    ⟨(some 23), none, none, .call .pu 166 [.t 22]⟩,
    ⟨(some 21), none, none, .mv (.t 23)⟩,
    ⟨(some 24), none, none, .extract (.t 21) 0⟩,
    ⟨(some 25), none, none, .extract (.t 21) 1⟩,
    ⟨(some 6), none, none, .alloc [.p (.bool false), .nils]⟩,
    ⟨none, none, none, .store 2 (.t 6) (.t 24)⟩,
    ⟨(some 7), none, none, .mv (.t 25)⟩] none)
  (.seq (.reg [⟨(some 27), none, none, .mv (.t 4)⟩,
    ⟨(some 28), none, none, .call .pu 167 [.t 27]⟩,
    ⟨(some 26), none, none, .mv (.t 28)⟩,
    ⟨(some 29), none, none, .extract (.t 26) 0⟩,
    ⟨(some 30), none, none, .extract (.t 26) 1⟩,
    ⟨(some 31), none, none, .extract (.t 26) 2⟩,
    ⟨(some 9), none, none, .alloc [.p (.bool false), .nils]⟩,
    ⟨(some 8), none, none, .mv (.t 29)⟩,
    ⟨none, none, none, .store 2 (.t 9) (.t 30)⟩,
    ⟨(some 10), none, none, .mv (.t 31)⟩] none)
  (.seq (.reg [⟨(some 33), none, none, .load true 2 (.t 6)⟩,
    ⟨(some 34), none, none, .load true 2 (.t 9)⟩,
    ⟨(some 35), none, none, .call .pu 97 [.t 33, .t 34]⟩,
    ⟨(some 32), none, none, .mv (.t 35)⟩,
    ⟨(some 36), none, none, .extract (.t 32) 0⟩,
    ⟨(some 37), none, none, .extract (.t 32) 1⟩,
    ⟨(some 11), none, none, .alloc [.p (.bool false), .nils]⟩,
    ⟨none, none, none, .store 2 (.t 11) (.t 36)⟩,
    ⟨(some 12), none, none, .mv (.t 37)⟩] none)
  (.seq (.reg [⟨(some 39), none, none, .mv (.t 8)⟩,
    ⟨(some 40), none, none, .mv (.t 0)⟩,
    ⟨(some 41), none, none, .call .keep 168 [.t 39, .t 40]⟩,
    ⟨(some 38), none, none, .mv (.t 41)⟩,
    ⟨(some 42), none, none, .extract (.t 38) 0⟩,
    ⟨(some 43), none, none, .extract (.t 38) 1⟩,
    ⟨(some 13), none, none, .mv (.t 42)⟩,
    ⟨(some 14), none, none, .mv (.t 43)⟩] none)
  (.seq (.seq (.reg [⟨(some 44), none, none, .mv (.t 13)⟩,
    ⟨(some 45), none, none, .len (.t 44)⟩,
    ⟨(some 46), none, none, .mv (.c (.p (.int .i64 0)))⟩] none)
  (.fg [3, 6, 11, 13, 45, 46] (.block 0
  (.loop (.fg [3, 6, 11, 13, 45, 46]
    (.seq (.reg [⟨(some 47), none, none, .bin .lss (.t 46) (.t 45)⟩] none)
      (.seq (.cond (.t 47)
        .skip
        (.exit 0))
      (.fg [3, 6, 11, 13, 45, 46] (.seq (.block 1
      (.seq (.reg [⟨(some 48), none, none, .mv (.t 46)⟩,
    ⟨(some 15), none, none, .mv (.t 48)⟩] none)
        (.reg [⟨(some 49), none, none, .mv (.t 13)⟩,
    ⟨(some 50), none, none, .mv (.t 15)⟩,
    ⟨(some 51), none, none, .load true 2 (.t 11)⟩,
    ⟨(some 52), none, none, .mv (.t 13)⟩,
    ⟨(some 53), none, none, .mv (.t 15)⟩,
    ⟨(some 54), none, none, .indexA 1 (.t 52) (.t 53)⟩,
    ⟨(some 55), none, none, .load false 1 (.t 54)⟩,
    ⟨(some 56), none, none, .call .fz 78 [.t 51, .t 55]⟩,
    ⟨(some 57), none, none, .indexA 1 (.t 49) (.t 50)⟩,
    ⟨none, none, none, .store 1 (.t 57) (.t 56)⟩] (some (0, [])))))
      (.fg [3, 6, 11, 13, 45, 46] (.reg [⟨(some 58), none, none, .bin .add (.t 46) (.c (.p (.int .i64 1)))⟩,
    ⟨(some 46), none, none, .mv (.t 58)⟩] none)))))))))))
  (.seq (.reg [⟨(some 59), none, none, .mv (.t 13)⟩,
    ⟨(some 60), none, none, .load true 2 (.t 6)⟩,
    ⟨(some 2), none, none, .mv (.t 59)⟩,
    ⟨none, none, none, .store 2 (.t 3) (.t 60)⟩] (some (0, [])))
  .ret)))))))),
  [.t 2, .cell 3 true 2]⟩

theorem c136 : chkF Try.prog 136 f136 = true := by kernel_rfl

/-- trammel/mat.Gram -/
def f165 : RFun := ⟨(.seq (.reg [⟨(some 1), none, none, .box (.t 0)⟩,
    ⟨(some 2), none, none, .mv (.c (.nils))⟩,
    ⟨(some 3), none, none, .mv (.c (.p (.int .i64 0)))⟩] none)
  (.seq (.seq (.reg [⟨(some 8), none, none, .load false 1 (.t 1)⟩,
    ⟨(some 9), none, none, .call .pu 93 [.t 8]⟩,
    ⟨(some 7), none, none, .mv (.t 9)⟩,
    ⟨(some 10), none, none, .extract (.t 7) 0⟩,
    ⟨(some 11), none, none, .extract (.t 7) 1⟩,
    ⟨(some 12), none, none, .extract (.t 7) 2⟩,
    ⟨(some 4), none, none, .mv (.t 10)⟩,
    ⟨(some 5), none, none, .mv (.t 11)⟩,
    ⟨(some 6), none, none, .mv (.t 12)⟩] none)
  (.seq (.reg [⟨(some 13), none, none, .mv (.t 6)⟩,
    ⟨(some 14), none, none, .bin .neq (.t 13) (.c (.p (.int .i64 0)))⟩] none)
  (.fg [1, 6, 14] (.cond (.t 14)
    (.seq (.reg [⟨(some 15), none, none, .mv (.t 6)⟩,
    ⟨(some 2), none, none, .mv (.c (.nils))⟩,
    ⟨(some 3), none, none, .mv (.t 15)⟩] none)
    (.frzk 2 .ret))
    .skip))))
  (.seq (.reg [⟨(some 16), none, none, .load false 1 (.t 1)⟩,
    ⟨(some 17), none, none, .mkfn 189 [.t 1]⟩,
    ⟨(some 18), none, none, .call .keep 114 [.t 16, .t 17]⟩,
    ⟨(some 2), none, none, .mv (.t 18)⟩,
    ⟨(some 3), none, none, .mv (.c (.p (.int .i64 0)))⟩] none)
  (.frzk 2 .ret)))),
  [.t 2, .t 3]⟩

theorem c165 : chkF Try.prog 165 f165 = true := by kernel_rfl

/-- trammel/elim.Det -/
def f166 : RFun := ⟨(.seq (.reg [⟨(some 2), none, none, .alloc [.p (.bool false), .nils]⟩,
    ⟨(some 3), none, none, .mv (.c (.p (.int .i64 0)))⟩] none)
  (.seq (.seq (.reg [⟨(some 7), none, none, .mv (.t 0)⟩,
    ⟨(some 8), none, none, .call .pu 192 [.t 7]⟩,
    ⟨(some 6), none, none, .mv (.t 8)⟩,
    ⟨(some 9), none, none, .extract (.t 6) 0⟩,
    ⟨(some 10), none, none, .extract (.t 6) 1⟩,
    ⟨(some 4), none, none, .mv (.t 9)⟩,
    ⟨(some 5), none, none, .mv (.t 10)⟩] none)
  (.seq (.reg [⟨(some 11), none, none, .mv (.t 5)⟩,
    ⟨(some 12), none, none, .bin .neq (.t 11) (.c (.p (.int .i64 0)))⟩] none)
  (.fg [0, 2, 5, 12] (.cond (.t 12)
    (.seq (.reg [⟨(some 13), none, none, .build [.p (.bool false), .nils] []⟩,
    ⟨(some 14), none, none, .mv (.t 5)⟩,
    ⟨none, none, none, .store 2 (.t 2) (.t 13)⟩,
    ⟨(some 3), none, none, .mv (.t 14)⟩] none)
    .ret)
    .skip))))
  (.seq (.reg [⟨(some 15), none, none, .mv (.t 0)⟩,
    ⟨(some 16), none, none, .call .pu 193 [.t 15]⟩,
    ⟨none, none, none, .store 2 (.t 2) (.t 16)⟩,
    ⟨(some 3), none, none, .mv (.c (.p (.int .i64 0)))⟩] none)
  .ret))),
  [.cell 2 true 2, .t 3]⟩

theorem c166 : chkF Try.prog 166 f166 = true := by kernel_rfl

/-- trammel/elim.Inverse -/
def f167 : RFun := ⟨(.seq (.reg [⟨(some 2), none, none, .mv (.c (.nils))⟩,
    ⟨(some 3), none, none, .alloc [.p (.bool false), .nils]⟩,
    ⟨(some 4), none, none, .mv (.c (.p (.int .i64 0)))⟩] none)
  (.seq (.reg [⟨(some 14), none, none, .mv (.t 0)⟩,
    ⟨(some 15), none, none, .call .pu 192 [.t 14]⟩,
    ⟨(some 13), none, none, .mv (.t 15)⟩,
    ⟨(some 16), none, none, .extract (.t 13) 0⟩,
    ⟨(some 17), none, none, .extract (.t 13) 1⟩,
    ⟨(some 5), none, none, .mv (.t 16)⟩,
    ⟨(some 6), none, none, .mv (.t 17)⟩] none)
  (.seq (.seq (.reg [⟨(some 18), none, none, .mv (.t 6)⟩,
    ⟨(some 19), none, none, .bin .neq (.t 18) (.c (.p (.int .i64 0)))⟩] none)
  (.fg [0, 3, 5, 6, 19] (.cond (.t 19)
    (.seq (.reg [⟨(some 20), none, none, .build [.p (.bool false), .nils] []⟩,
    ⟨(some 21), none, none, .mv (.t 6)⟩,
    ⟨(some 2), none, none, .mv (.c (.nils))⟩,
    ⟨none, none, none, .store 2 (.t 3) (.t 20)⟩,
    ⟨(some 4), none, none, .mv (.t 21)⟩] none)
    .ret)
    .skip)))
  (.seq (.reg [⟨(some 22), none, none, .mv (.t 0)⟩,
    ⟨(some 23), none, none, .call .pu 193 [.t 22]⟩,
    ⟨(some 7), none, none, .alloc [.p (.bool false), .nils]⟩,
    ⟨none, none, none, .store 2 (.t 7) (.t 23)⟩] none)
  (.seq (.seq (.reg [⟨(some 24), none, none, .load true 2 (.t 7)⟩,
    ⟨(some 25), none, none, .call .pu 77 [.t 24]⟩,
    ⟨(some 26), none, none, .bin .eql (.t 25) (.c (.p (.int .i64 0)))⟩] none)
  (.fg [0, 3, 5, 7, 26] (.cond (.t 26)
    (.seq (.reg [⟨(some 27), none, none, .build [.p (.bool false), .nils] []⟩,
    ⟨(some 2), none, none, .mv (.c (.nils))⟩,
    ⟨none, none, none, .store 2 (.t 3) (.t 27)⟩,
    ⟨(some 4), none, none, .mv (.c (.p (.int .i64 50)))⟩] none)
    .ret)
    .skip)))
  (.seq (.reg [⟨(some 8), none, none, .mv (.c (.nils))⟩] none)
  (.seq (.seq (.reg [⟨(some 28), none, none, .mv (.t 5)⟩,
    ⟨(some 29), none, none, .mv (.c (.p (.int .i64 0)))⟩] none)
  (.fg [0, 3, 5, 7, 8, 28, 29] (.block 0
  (.loop (.fg [0, 3, 5, 7, 8, 28, 29]
    (.seq (.reg [⟨(some 30), none, none, .bin .lss (.t 29) (.t 28)⟩] none)
      (.seq (.cond (.t 30)
        .skip
        (.exit 0))
      (.fg [0, 3, 5, 7, 8, 28, 29] (.seq (.block 1
      (.seq (.reg [⟨(some 31), none, none, .mv (.t 29)⟩,
    ⟨(some 9), none, none, .mv (.t 31)⟩] none)
        (.seq (.reg [⟨(some 32), none, none, .mv (.t 5)⟩,
    ⟨(some 33), none, none, .mv (.c (.p (.int .i64 0)))⟩] none)
        (.fg [0, 3, 5, 7, 8, 9, 28, 29, 32, 33] (.block 2
        (.loop (.fg [0, 3, 5, 7, 8, 9, 28, 29, 32, 33]
          (.seq (.reg [⟨(some 34), none, none, .bin .lss (.t 33) (.t 32)⟩] none)
            (.seq (.cond (.t 34)
              .skip
              (.exit 2))
            (.fg [0, 3, 5, 7, 8, 9, 28, 29, 32, 33] (.seq (.block 3
            (.seq (.reg [⟨(some 35), none, none, .mv (.t 33)⟩,
    ⟨(some 10), none, none, .mv (.t 35)⟩] none)
              (.reg [⟨(some 36), none, none, .mv (.t 8)⟩,
    ⟨(some 37), none, none, .mv (.t 0)⟩,
    ⟨(some 38), none, none, .mv (.t 10)⟩,
    ⟨(some 39), none, none, .mv (.t 9)⟩,
    ⟨(some 40), none, none, .call .pu 194 [.t 37, .t 38, .t 39]⟩,
    ⟨(some 41), none, none, .bslice 2 [.t 40]⟩,
    ⟨(some 42), none, none, .append 2 32 (.t 36) (.t 41)⟩,
    ⟨(some 8), none, none, .mv (.t 42)⟩] none)))
            (.fg [0, 3, 5, 7, 8, 9, 28, 29, 32, 33] (.reg [⟨(some 43), none, none, .bin .add (.t 33) (.c (.p (.int .i64 1)))⟩,
    ⟨(some 33), none, none, .mv (.t 43)⟩] none)))))))))))))
      (.fg [0, 3, 5, 7, 8, 28, 29] (.reg [⟨(some 44), none, none, .bin .add (.t 29) (.c (.p (.int .i64 1)))⟩,
    ⟨(some 29), none, none, .mv (.t 44)⟩] none)))))))))))
  (.seq (.reg [⟨(some 46), none, none, .mv (.t 8)⟩,
    ⟨(some 47), none, none, .load true 2 (.t 7)⟩,
    ⟨(some 48), none, none, .call .fz 195 [.t 46, .t 47]⟩,
    ⟨(some 45), none, none, .mv (.t 48)⟩,
    ⟨(some 49), none, none, .extract (.t 45) 0⟩,
    ⟨(some 50), none, none, .extract (.t 45) 1⟩,
    ⟨(some 8), none, none, .mv (.t 49)⟩,
    ⟨none, none, none, .store 2 (.t 7) (.t 50)⟩] none)
  (.seq (.reg [⟨(some 11), none, none, .mv (.c (.nils))⟩] none)
  (.seq (.seq (.reg [⟨(some 51), none, none, .mv (.t 5)⟩,
    ⟨(some 52), none, none, .mv (.c (.p (.int .i64 0)))⟩] none)
  (.fg [3, 5, 7, 8, 11, 51, 52] (.block 4
  (.loop (.fg [3, 5, 7, 8, 11, 51, 52]
    (.seq (.reg [⟨(some 53), none, none, .bin .lss (.t 52) (.t 51)⟩] none)
      (.seq (.cond (.t 53)
        .skip
        (.exit 4))
      (.fg [3, 5, 7, 8, 11, 51, 52] (.seq (.block 5
      (.seq (.reg [⟨(some 54), none, none, .mv (.t 52)⟩,
    ⟨(some 12), none, none, .mv (.t 54)⟩] none)
        (.reg [⟨(some 55), none, none, .mv (.t 11)⟩,
    ⟨(some 56), none, none, .mv (.t 8)⟩,
    ⟨(some 57), none, none, .mv (.t 12)⟩,
    ⟨(some 58), none, none, .mv (.t 5)⟩,
    ⟨(some 59), none, none, .bin .mul (.t 57) (.t 58)⟩,
    ⟨(some 60), none, none, .mv (.t 12)⟩,
    ⟨(some 61), none, none, .bin .add (.t 60) (.c (.p (.int .i64 1)))⟩,
    ⟨(some 62), none, none, .mv (.t 5)⟩,
    ⟨(some 63), none, none, .bin .mul (.t 61) (.t 62)⟩,
    ⟨(some 64), none, none, .mv (.t 12)⟩,
    ⟨(some 65), none, none, .bin .add (.t 64) (.c (.p (.int .i64 1)))⟩,
    ⟨(some 66), none, none, .mv (.t 5)⟩,
    ⟨(some 67), none, none, .bin .mul (.t 65) (.t 66)⟩,
    ⟨(some 68), none, none, .slice 2 (.t 56) (some (.t 59)) (some (.t 63)) (some (.t 67))⟩,
    ⟨(some 69), none, none, .bslice 1 [.t 68]⟩,
    ⟨(some 70), none, none, .append 1 24 (.t 55) (.t 69)⟩,
    ⟨(some 11), none, none, .mv (.t 70)⟩] none)))
      (.fg [3, 5, 7, 8, 11, 51, 52] (.reg [⟨(some 71), none, none, .bin .add (.t 52) (.c (.p (.int .i64 1)))⟩,
    ⟨(some 52), none, none, .mv (.t 71)⟩] none)))))))))))
  (.seq (.reg [⟨(some 72), none, none, .mv (.t 11)⟩,
    ⟨(some 73), none, none, .load true 2 (.t 7)⟩,
    ⟨(some 2), none, none, .mv (.t 72)⟩,
    ⟨none, none, none, .store 2 (.t 3) (.t 73)⟩,
    ⟨(some 4), none, none, .mv (.c (.p (.int .i64 0)))⟩] (some (0, [])))
  .ret))))))))))),
  [.t 2, .cell 3 true 2, .t 4]⟩

theorem c167 : chkF Try.prog 167 f167 = true := by kernel_rfl

/-- trammel/mat.Product -/
def f168 : RFun := ⟨(.seq (.reg [⟨(some 3), none, none, .box (.t 1)⟩,
    ⟨(some 4), none, none, .mv (.c (.nils))⟩,
    ⟨(some 5), none, none, .mv (.c (.p (.int .i64 0)))⟩] none)
  (.seq (.reg [⟨(some 13), none, none, .mv (.t 0)⟩,
    ⟨(some 14), none, none, .call .pu 93 [.t 13]⟩,
    ⟨(some 12), none, none, .mv (.t 14)⟩,
    ⟨(some 15), none, none, .extract (.t 12) 0⟩,
    ⟨(some 16), none, none, .extract (.t 12) 1⟩,
    ⟨(some 17), none, none, .extract (.t 12) 2⟩,
    ⟨(some 6), none, none, .mv (.t 15)⟩,
    ⟨(some 7), none, none, .mv (.t 16)⟩,
    ⟨(some 8), none, none, .mv (.t 17)⟩] none)
  (.seq (.reg [⟨(some 19), none, none, .load false 1 (.t 3)⟩,
    ⟨(some 20), none, none, .call .pu 93 [.t 19]⟩,
    ⟨(some 18), none, none, .mv (.t 20)⟩,
    ⟨(some 21), none, none, .extract (.t 18) 0⟩,
    ⟨(some 22), none, none, .extract (.t 18) 1⟩,
    ⟨(some 23), none, none, .extract (.t 18) 2⟩,
    ⟨(some 9), none, none, .mv (.t 21)⟩,
    ⟨(some 10), none, none, .mv (.t 22)⟩,
    ⟨(some 11), none, none, .mv (.t 23)⟩] none)
  (.seq (.seq (.reg [⟨(some 24), none, none, .mv (.t 8)⟩,
    ⟨(some 25), none, none, .bin .neq (.t 24) (.c (.p (.int .i64 0)))⟩,
    ⟨(some 26), none, none, .mv (.t 25)⟩,
    ⟨(some 27), (some (26, false)), none, .mv (.t 11)⟩,
    ⟨(some 28), (some (26, false)), none, .bin .neq (.t 27) (.c (.p (.int .i64 0)))⟩,
    ⟨(some 29), none, none, .pick (.t 26) (.c (.p (.bool true))) (.t 28)⟩,
    ⟨(some 30), none, none, .mv (.t 29)⟩,
    ⟨(some 31), (some (30, false)), none, .mv (.t 6)⟩,
    ⟨(some 32), (some (30, false)), none, .bin .gtr (.t 31) (.c (.p (.int .i64 0)))⟩,
    ⟨(some 33), (some (30, false)), none, .mv (.t 32)⟩,
    ⟨(some 34), (some (33, true)), none, .mv (.t 7)⟩,
    ⟨(some 35), (some (33, true)), none, .mv (.t 9)⟩,
    ⟨(some 36), (some (33, true)), none, .bin .neq (.t 34) (.t 35)⟩,
    ⟨(some 37), (some (30, false)), none, .pick (.t 33) (.t 36) (.c (.p (.bool false)))⟩,
    ⟨(some 38), none, none, .pick (.t 30) (.c (.p (.bool true))) (.t 37)⟩] none)
  (.fg [0, 3, 38] (.cond (.t 38)
    (.seq (.reg [⟨(some 4), none, none, .mv (.c (.nils))⟩,
    ⟨(some 5), none, none, .mv (.c (.p (.int .i64 8)))⟩] none)
    (.frzk 4 .ret))
    .skip)))
  (.seq (.reg [⟨(some 39), none, none, .mv (.t 0)⟩,
    ⟨(some 40), none, none, .mkfn 196 [.t 3]⟩,
    ⟨(some 41), none, none, .call .keep 114 [.t 39, .t 40]⟩,
    ⟨(some 4), none, none, .mv (.t 41)⟩,
    ⟨(some 5), none, none, .mv (.c (.p (.int .i64 0)))⟩] none)
  (.frzk 4 .ret)))))),
  [.t 4, .t 5]⟩

theorem c168 : chkF Try.prog 168 f168 = true := by kernel_rfl

/-- trammel/mat.Gram$1 -/
def f189 : RFun := ⟨(.seq (.reg [⟨(some 2), none, none, .box (.t 0)⟩,
    ⟨(some 3), none, none, .mv (.c (.nils))⟩] none)
  (.seq (.reg [⟨(some 4), none, none, .load false 1 (.t 1)⟩,
    ⟨(some 5), none, none, .mkfn 191 [.t 2]⟩,
    ⟨(some 6), none, none, .call .full 190 [.t 4, .t 5]⟩,
    ⟨(some 3), none, none, .mv (.t 6)⟩] none)
  .ret)),
  [.t 3]⟩

theorem c189 : chkF Try.prog 189 f189 = true := by kernel_rfl

/-- trammel/mat.each[[]trammel/api.Int,trammel/api.Int] -/
def f190 : RFun := ⟨(.seq (.reg [⟨(some 4), none, none, .mv (.c (.nils))⟩] none)
  (.seq (.reg [⟨(some 8), none, none, .mv (.t 0)⟩,
    ⟨(some 9), none, none, .len (.t 8)⟩,
    ⟨(some 10), none, none, .mks false 2 32 (.agg [.bool false, .sl []]) (.c (.p (.int .i64 0))) (.t 9)⟩,
    ⟨(some 5), none, none, .mv (.t 10)⟩] none)
  (.seq (.seq (.reg [⟨(some 11), none, none, .mv (.t 0)⟩,
    ⟨(some 12), none, none, .len (.t 11)⟩,
    ⟨(some 13), none, none, .mv (.c (.p (.int .i64 0)))⟩] none)
  (.fg [1, 5, 11, 12, 13] (.block 0
  (.loop (.fg [1, 5, 11, 12, 13]
    (.seq (.reg [⟨(some 14), none, none, .bin .lss (.t 13) (.t 12)⟩] none)
      (.seq (.cond (.t 14)
        .skip
        (.exit 0))
      (.fg [1, 5, 11, 12, 13] (.seq (.block 1
      (.seq (.reg [⟨(some 15), none, none, .indexA 1 (.t 11) (.t 13)⟩,
    ⟨(some 16), none, none, .load false 1 (.t 15)⟩,
    ⟨(some 7), none, none, .mv (.t 16)⟩] none)
        (.reg [⟨(some 17), none, none, .mv (.t 5)⟩,
    ⟨(some 18), none, none, .mv (.t 1)⟩,
    ⟨(some 19), none, none, .mv (.t 7)⟩,
    ⟨(some 20), none, none, .callv .cell (.t 18) [.t 19]⟩,
    ⟨(some 21), none, none, .bslice 2 [.t 20]⟩,
    ⟨(some 22), none, none, .append 2 32 (.t 17) (.t 21)⟩,
    ⟨(some 5), none, none, .mv (.t 22)⟩] none)))
      (.fg [1, 5, 11, 12, 13] (.reg [⟨(some 23), none, none, .bin .add (.t 13) (.c (.p (.int .i64 1)))⟩,
    ⟨(some 13), none, none, .mv (.t 23)⟩] none)))))))))))
  (.seq (.reg [⟨(some 24), none, none, .mv (.t 5)⟩,
    ⟨(some 4), none, none, .mv (.t 24)⟩] none)
  .ret)))),
  [.t 4]⟩

theorem c190 : chkF Try.prog 190 f190 = true := by kernel_rfl

/-- trammel/mat.Gram$1$1 -/
def f191 : RFun := ⟨(.seq (.reg [⟨(some 3), none, none, .alloc [.p (.bool false), .nils]⟩] none)
  (.seq (.reg [⟨(some 4), none, none, .load false 1 (.t 1)⟩,
    ⟨(some 5), none, none, .mv (.t 0)⟩,
    ⟨(some 6), none, none, .call .pu 112 [.t 4, .t 5]⟩,
    ⟨none, none, none, .store 2 (.t 3) (.t 6)⟩] none)
  .ret)),
  [.cell 3 true 2]⟩

theorem c191 : chkF Try.prog 191 f191 = true := by kernel_rfl

/-- trammel/elim.square -/
def f192 : RFun := ⟨(.seq (.reg [⟨(some 2), none, none, .mv (.c (.p (.int .i64 0)))⟩,
    ⟨(some 3), none, none, .mv (.c (.p (.int .i64 0)))⟩] none)
  (.seq (.reg [⟨(some 8), none, none, .mv (.t 0)⟩,
    ⟨(some 9), none, none, .call .pu 208 [.t 8]⟩,
    ⟨(some 7), none, none, .mv (.t 9)⟩,
    ⟨(some 10), none, none, .extract (.t 7) 0⟩,
    ⟨(some 11), none, none, .extract (.t 7) 1⟩,
    ⟨(some 12), none, none, .extract (.t 7) 2⟩,
    ⟨(some 4), none, none, .mv (.t 10)⟩,
    ⟨(some 5), none, none, .mv (.t 11)⟩,
    ⟨(some 6), none, none, .mv (.t 12)⟩] none)
  (.seq (.seq (.reg [⟨(some 13), none, none, .mv (.t 6)⟩,
    ⟨(some 14), none, none, .bin .eql (.t 13) (.c (.p (.int .i64 0)))⟩,
    ⟨(some 15), none, none, .mv (.t 14)⟩,
    ⟨(some 16), (some (15, true)), none, .mv (.t 4)⟩,
    ⟨(some 17), (some (15, true)), none, .mv (.t 5)⟩,
    ⟨(some 18), (some (15, true)), none, .bin .neq (.t 16) (.t 17)⟩,
    ⟨(some 19), none, none, .pick (.t 15) (.t 18) (.c (.p (.bool false)))⟩] none)
  (.fg [4, 6, 19] (.cond (.t 19)
    (.reg [⟨(some 6), none, none, .mv (.c (.p (.int .i64 8)))⟩] none)
    .skip)))
  (.seq (.reg [⟨(some 20), none, none, .mv (.t 4)⟩,
    ⟨(some 21), none, none, .mv (.t 6)⟩,
    ⟨(some 2), none, none, .mv (.t 20)⟩,
    ⟨(some 3), none, none, .mv (.t 21)⟩] none)
  .ret)))),
  [.t 2, .t 3]⟩

theorem c192 : chkF Try.prog 192 f192 = true := by kernel_rfl

/-- trammel/elim.det -/
def f193 : RFun := ⟨(.seq (.reg [⟨(some 2), none, none, .alloc [.p (.bool false), .nils]⟩] none)
  (.seq (.reg [⟨(some 8), none, none, .mv (.t 0)⟩,
    ⟨(some 9), none, none, .len (.t 8)⟩,
    ⟨(some 3), none, none, .mv (.t 9)⟩] none)
  (.seq (.reg [⟨(some 11), none, none, .mv (.t 0)⟩,
    ⟨(some 12), none, none, .mv (.t 3)⟩,
    ⟨(some 13), none, none, .call .keep 209 [.t 11, .t 12]⟩,
    ⟨(some 10), none, none, .mv (.t 13)⟩,
    ⟨(some 14), none, none, .extract (.t 10) 0⟩,
    ⟨(some 15), none, none, .extract (.t 10) 1⟩,
    ⟨(some 16), none, none, .extract (.t 10) 2⟩,
    ⟨(some 17), none, none, .extract (.t 10) 3⟩,
    ⟨(some 6), none, none, .alloc [.p (.bool false), .nils]⟩,
    ⟨(some 4), none, none, .mv (.t 14)⟩,
    ⟨(some 5), none, none, .mv (.t 15)⟩,
    ⟨none, none, none, .store 2 (.t 6) (.t 16)⟩,
    ⟨(some 7), none, none, .mv (.t 17)⟩] none)
  (.seq (.block 0
  (.seq (.reg [⟨(some 19), none, none, .mv (.t 5)⟩,
    ⟨(some 20), none, none, .len (.t 19)⟩,
    ⟨(some 21), none, none, .mv (.t 3)⟩,
    ⟨(some 22), none, none, .bin .lss (.t 20) (.t 21)⟩,
    ⟨(some 18), none, none, .mv (.t 22)⟩] none)
    (.fg [2, 6, 7, 18] (.cond (.t 18)
      (.seq (.reg [⟨(some 23), none, none, .build [.p (.bool false), .nils] []⟩,
    ⟨none, none, none, .store 2 (.t 2) (.t 23)⟩] none)
      .ret)
      (.seq (.reg [⟨(some 25), none, none, .mv (.t 7)⟩,
    ⟨(some 24), none, none, .mv (.t 25)⟩] none)
      (.fg [2, 6, 24] (.cond (.t 24)
        (.seq (.reg [⟨(some 26), none, none, .load true 2 (.t 6)⟩,
    ⟨(some 27), none, none, .call .fz 146 [.t 26]⟩,
    ⟨none, none, none, .store 2 (.t 2) (.t 27)⟩] none)
        .ret)
        .skip)))))))
  (.fg [2, 6] (.seq (.reg [⟨(some 28), none, none, .load true 2 (.t 6)⟩,
    ⟨(some 29), none, none, .call .fz 94 [.t 28]⟩,
    ⟨none, none, none, .store 2 (.t 2) (.t 29)⟩] none)
  .ret)))))),
  [.cell 2 true 2]⟩

theorem c193 : chkF Try.prog 193 f193 = true := by kernel_rfl

/-- trammel/elim.cofactor -/
def f194 : RFun := ⟨(.seq (.reg [⟨(some 6), none, none, .alloc [.p (.bool false), .nils]⟩] none)
  (.seq (.reg [⟨(some 7), none, none, .mv (.c (.nils))⟩] none)
  (.seq (.seq (.reg [⟨(some 10), none, none, .mv (.t 0)⟩,
    ⟨(some 11), none, none, .len (.t 10)⟩,
    ⟨(some 12), none, none, .mv (.c (.p (.int .i64 0)))⟩] none)
  (.fg [0, 1, 2, 6, 7, 11, 12] (.block 0
  (.loop (.fg [0, 1, 2, 6, 7, 11, 12]
    (.seq (.reg [⟨(some 13), none, none, .bin .lss (.t 12) (.t 11)⟩] none)
      (.seq (.cond (.t 13)
        .skip
        (.exit 0))
      (.fg [0, 1, 2, 6, 7, 11, 12] (.seq (.block 1
      (.seq (.reg [⟨(some 14), none, none, .mv (.t 12)⟩,
    ⟨(some 8), none, none, .mv (.t 14)⟩] none)
        (.seq (.reg [⟨(some 15), none, none, .mv (.t 8)⟩,
    ⟨(some 16), none, none, .mv (.t 1)⟩,
    ⟨(some 17), none, none, .bin .neq (.t 15) (.t 16)⟩] none)
        (.fg [0, 1, 2, 6, 7, 8, 11, 12, 17] (.cond (.t 17)
          (.reg [⟨(some 18), none, none, .mv (.t 7)⟩,
    ⟨(some 19), none, none, .mv (.t 0)⟩,
    ⟨(some 20), none, none, .mv (.t 8)⟩,
    ⟨(some 21), none, none, .indexA 1 (.t 19) (.t 20)⟩,
    ⟨(some 22), none, none, .load false 1 (.t 21)⟩,
    ⟨(some 23), none, none, .mv (.t 2)⟩,
    ⟨(some 24), none, none, .slice 2 (.t 22) none (some (.t 23)) none⟩,
    ⟨(some 25), none, (some 0), .append 2 32 (.c (.nils)) (.t 24)⟩,
    ⟨(some 26), none, none, .mv (.t 0)⟩,
    ⟨(some 27), none, none, .mv (.t 8)⟩,
    ⟨(some 28), none, none, .indexA 1 (.t 26) (.t 27)⟩,
    ⟨(some 29), none, none, .load false 1 (.t 28)⟩,
    ⟨(some 30), none, none, .mv (.t 2)⟩,
    ⟨(some 31), none, none, .bin .add (.t 30) (.c (.p (.int .i64 1)))⟩,
    ⟨(some 32), none, none, .slice 2 (.t 29) (some (.t 31)) none none⟩,
    ⟨(some 33), none, (some 1), .append 2 32 (.t 25) (.t 32)⟩,
    ⟨(some 34), none, (some 2), .bslice 1 [.t 33]⟩,
    ⟨(some 35), none, (some 3), .append 1 24 (.t 18) (.t 34)⟩,
    ⟨(some 7), none, none, .mv (.t 35)⟩] (some (4, [(7, 10), (7, 11), (7, 14)])))
          .skip)))))
      (.fg [0, 1, 2, 6, 7, 11, 12] (.reg [⟨(some 36), none, none, .bin .add (.t 12) (.c (.p (.int .i64 1)))⟩,
    ⟨(some 12), none, none, .mv (.t 36)⟩] none)))))))))))
  (.seq (.reg [⟨(some 37), none, none, .mv (.t 7)⟩,
    ⟨(some 38), none, none, .call .fz 193 [.t 37]⟩,
    ⟨(some 9), none, none, .alloc [.p (.bool false), .nils]⟩,
    ⟨none, none, none, .store 2 (.t 9) (.t 38)⟩] none)
  (.seq (.seq (.reg [⟨(some 39), none, none, .mv (.t 1)⟩,
    ⟨(some 40), none, none, .mv (.t 2)⟩,
    ⟨(some 41), none, none, .bin .add (.t 39) (.t 40)⟩,
    ⟨(some 42), none, none, .bin .rem (.t 41) (.c (.p (.int .i64 2)))⟩,
    ⟨(some 43), none, none, .bin .eql (.t 42) (.c (.p (.int .i64 1)))⟩] none)
  (.fg [6, 9, 43] (.cond (.t 43)
    (.seq (.reg [⟨(some 44), none, none, .load true 2 (.t 9)⟩,
    ⟨(some 45), none, none, .call .pu 146 [.t 44]⟩,
    ⟨none, none, none, .store 2 (.t 6) (.t 45)⟩] none)
    .ret)
    .skip)))
  (.seq (.reg [⟨(some 46), none, none, .load true 2 (.t 9)⟩,
    ⟨none, none, none, .store 2 (.t 6) (.t 46)⟩] none)
  .ret)))))),
  [.cell 6 true 2]⟩

theorem c194 : chkF Try.prog 194 f194 = true := by kernel_rfl

/-- trammel/elim.terms -/
def f195 : RFun := ⟨(.seq (.reg [⟨(some 3), none, none, .box (.t 1)⟩,
    ⟨(some 4), none, none, .mv (.c (.nils))⟩,
    ⟨(some 5), none, none, .alloc [.p (.bool false), .nils]⟩] none)
  (.seq (.reg [⟨(some 18), none, none, .load true 2 (.t 3)⟩,
    ⟨(some 19), none, none, .call .pu 204 [.t 18]⟩,
    ⟨(some 6), none, none, .alloc [.p (.bool false), .nils]⟩,
    ⟨none, none, none, .store 2 (.t 6) (.t 19)⟩] none)
  (.seq (.seq (.reg [⟨(some 20), none, none, .mv (.t 0)⟩,
    ⟨(some 21), none, none, .len (.t 20)⟩,
    ⟨(some 22), none, none, .mv (.c (.p (.int .i64 0)))⟩] none)
  (.fg [0, 3, 5, 6, 20, 21, 22] (.block 0
  (.loop (.fg [0, 3, 5, 6, 20, 21, 22]
    (.seq (.reg [⟨(some 23), none, none, .bin .lss (.t 22) (.t 21)⟩] none)
      (.seq (.cond (.t 23)
        .skip
        (.exit 0))
      (.fg [0, 3, 5, 6, 20, 21, 22] (.seq (.block 1
      (.seq (.reg [⟨(some 24), none, none, .indexA 2 (.t 20) (.t 22)⟩,
    ⟨(some 25), none, none, .load true 2 (.t 24)⟩,
    ⟨(some 8), none, none, .alloc [.p (.bool false), .nils]⟩,
    ⟨none, none, none, .store 2 (.t 8) (.t 25)⟩] none)
        (.reg [⟨(some 26), none, none, .load true 2 (.t 6)⟩,
    ⟨(some 27), none, none, .load true 2 (.t 8)⟩,
    ⟨(some 28), none, none, .call .pu 96 [.t 26, .t 27]⟩,
    ⟨none, none, none, .store 2 (.t 6) (.t 28)⟩] none)))
      (.fg [0, 3, 5, 6, 20, 21, 22] (.reg [⟨(some 29), none, none, .bin .add (.t 22) (.c (.p (.int .i64 1)))⟩,
    ⟨(some 22), none, none, .mv (.t 29)⟩] none)))))))))))
  (.seq (.seq (.reg [⟨(some 30), none, none, .load true 2 (.t 3)⟩,
    ⟨(some 31), none, none, .call .pu 77 [.t 30]⟩,
    ⟨(some 32), none, none, .bin .lss (.t 31) (.c (.p (.int .i64 0)))⟩] none)
  (.fg [0, 3, 5, 6, 32] (.cond (.t 32)
    (.reg [⟨(some 33), none, none, .load true 2 (.t 6)⟩,
    ⟨(some 34), none, none, .call .pu 146 [.t 33]⟩,
    ⟨none, none, none, .store 2 (.t 6) (.t 34)⟩] none)
    .skip)))
  (.seq (.reg [⟨(some 9), none, none, .mv (.c (.nils))⟩] none)
  (.seq (.seq (.reg [⟨(some 35), none, none, .mv (.t 0)⟩,
    ⟨(some 36), none, none, .len (.t 35)⟩,
    ⟨(some 37), none, none, .mv (.c (.p (.int .i64 0)))⟩] none)
  (.fg [3, 5, 6, 9, 35, 36, 37] (.block 2
  (.loop (.fg [3, 5, 6, 9, 35, 36, 37]
    (.seq (.reg [⟨(some 38), none, none, .bin .lss (.t 37) (.t 36)⟩] none)
      (.seq (.cond (.t 38)
        .skip
        (.exit 2))
      (.fg [3, 5, 6, 9, 35, 36, 37] (.seq (.block 3
      (.seq (.reg [⟨(some 39), none, none, .indexA 2 (.t 35) (.t 37)⟩,
    ⟨(some 40), none, none, .load true 2 (.t 39)⟩,
    ⟨(some 11), none, none, .alloc [.p (.bool false), .nils]⟩,
    ⟨none, none, none, .store 2 (.t 11) (.t 40)⟩] none)
        (.seq (.reg [⟨(some 42), none, none, .load true 2 (.t 11)⟩,
    ⟨(some 43), none, none, .load true 2 (.t 6)⟩,
    ⟨(some 44), none, none, .call .pu 134 [.t 42, .t 43]⟩,
    ⟨(some 41), none, none, .mv (.t 44)⟩,
    ⟨(some 45), none, none, .extract (.t 41) 0⟩,
    ⟨(some 46), none, none, .extract (.t 41) 1⟩,
    ⟨(some 47), none, none, .extract (.t 41) 2⟩,
    ⟨(some 12), none, none, .alloc [.p (.bool false), .nils]⟩,
    ⟨(some 13), none, none, .alloc [.p (.bool false), .nils]⟩,
    ⟨none, none, none, .store 2 (.t 12) (.t 45)⟩,
    ⟨none, none, none, .store 2 (.t 13) (.t 46)⟩,
    ⟨(some 14), none, none, .mv (.t 47)⟩] none)
        (.reg [⟨(some 48), none, none, .mv (.t 9)⟩,
    ⟨(some 49), none, none, .load true 2 (.t 12)⟩,
    ⟨(some 50), none, none, .bslice 2 [.t 49]⟩,
    ⟨(some 51), none, none, .append 2 32 (.t 48) (.t 50)⟩,
    ⟨(some 9), none, none, .mv (.t 51)⟩] none))))
      (.fg [3, 5, 6, 9, 35, 36, 37] (.reg [⟨(some 52), none, none, .bin .add (.t 37) (.c (.p (.int .i64 1)))⟩,
    ⟨(some 37), none, none, .mv (.t 52)⟩] none)))))))))))
  (.seq (.reg [⟨(some 54), none, none, .load true 2 (.t 3)⟩,
    ⟨(some 55), none, none, .load true 2 (.t 6)⟩,
    ⟨(some 56), none, none, .call .pu 134 [.t 54, .t 55]⟩,
    ⟨(some 53), none, none, .mv (.t 56)⟩,
    ⟨(some 57), none, none, .extract (.t 53) 0⟩,
    ⟨(some 58), none, none, .extract (.t 53) 1⟩,
    ⟨(some 59), none, none, .extract (.t 53) 2⟩,
    ⟨(some 15), none, none, .alloc [.p (.bool false), .nils]⟩,
    ⟨(some 16), none, none, .alloc [.p (.bool false), .nils]⟩,
    ⟨none, none, none, .store 2 (.t 15) (.t 57)⟩,
    ⟨none, none, none, .store 2 (.t 16) (.t 58)⟩,
    ⟨(some 17), none, none, .mv (.t 59)⟩] none)
  (.seq (.reg [⟨(some 60), none, none, .mv (.t 9)⟩,
    ⟨(some 61), none, none, .load true 2 (.t 15)⟩,
    ⟨(some 4), none, none, .mv (.t 60)⟩,
    ⟨none, none, none, .store 2 (.t 5) (.t 61)⟩] (some (0, [])))
  .ret)))))))),
  [.t 4, .cell 5 true 2]⟩

theorem c195 : chkF Try.prog 195 f195 = true := by kernel_rfl

/-- trammel/mat.Product$1 -/
def f196 : RFun := ⟨(.seq (.reg [⟨(some 3), none, none, .mv (.c (.nils))⟩] none)
  (.seq (.reg [⟨(some 4), none, none, .mv (.t 0)⟩,
    ⟨(some 5), none, none, .load false 1 (.t 1)⟩,
    ⟨(some 6), none, none, .call .pu 197 [.t 4, .t 5]⟩,
    ⟨(some 3), none, none, .mv (.t 6)⟩] none)
  .ret)),
  [.t 3]⟩

theorem c196 : chkF Try.prog 196 f196 = true := by kernel_rfl

/-- trammel/mat.combine -/
def f197 : RFun := ⟨(.seq (.reg [⟨(some 4), none, none, .mv (.c (.nils))⟩] none)
  (.seq (.seq (.reg [⟨(some 10), none, none, .mv (.t 1)⟩,
    ⟨(some 11), none, none, .len (.t 10)⟩,
    ⟨(some 12), none, none, .bin .eql (.t 11) (.c (.p (.int .i64 0)))⟩] none)
  (.fg [0, 1, 12] (.cond (.t 12)
    (.seq (.reg [⟨(some 4), none, none, .mv (.c (.nils))⟩] none)
    .ret)
    .skip)))
  (.seq (.reg [⟨(some 13), none, none, .mv (.t 1)⟩,
    ⟨(some 14), none, none, .indexA 1 (.t 13) (.c (.p (.int .i64 0)))⟩,
    ⟨(some 15), none, none, .load false 1 (.t 14)⟩,
    ⟨(some 16), none, none, .len (.t 15)⟩,
    ⟨(some 17), none, none, .mks false 2 32 (.agg [.bool false, .sl []]) (.t 16) (.t 16)⟩,
    ⟨(some 5), none, none, .mv (.t 17)⟩] none)
  (.seq (.seq (.reg [⟨(some 18), none, none, .mv (.t 1)⟩,
    ⟨(some 19), none, none, .len (.t 18)⟩,
    ⟨(some 20), none, none, .mv (.c (.p (.int .i64 0)))⟩] none)
  (.fg [0, 5, 18, 19, 20] (.block 0
  (.loop (.fg [0, 5, 18, 19, 20]
    (.seq (.reg [⟨(some 21), none, none, .bin .lss (.t 20) (.t 19)⟩] none)
      (.seq (.cond (.t 21)
        .skip
        (.exit 0))
      (.fg [0, 5, 18, 19, 20] (.seq (.block 1
      (.seq (.reg [⟨(some 22), none, none, .mv (.t 20)⟩,
    ⟨(some 23), none, none, .indexA 1 (.t 18) (.t 20)⟩,
    ⟨(some 24), none, none, .load false 1 (.t 23)⟩,
    ⟨(some 6), none, none, .mv (.t 22)⟩,
    ⟨(some 7), none, none, .mv (.t 24)⟩] none)
        (.seq (.reg [⟨(some 25), none, none, .mv (.t 7)⟩,
    ⟨(some 26), none, none, .len (.t 25)⟩,
    ⟨(some 27), none, none, .mv (.c (.p (.int .i64 0)))⟩] none)
        (.fg [0, 5, 6, 18, 19, 20, 25, 26, 27] (.block 2
        (.loop (.fg [0, 5, 6, 18, 19, 20, 25, 26, 27]
          (.seq (.reg [⟨(some 28), none, none, .bin .lss (.t 27) (.t 26)⟩] none)
            (.seq (.cond (.t 28)
              .skip
              (.exit 2))
            (.fg [0, 5, 6, 18, 19, 20, 25, 26, 27] (.seq (.block 3
            (.seq (.reg [⟨(some 29), none, none, .mv (.t 27)⟩,
    ⟨(some 30), none, none, .indexA 2 (.t 25) (.t 27)⟩,
    ⟨(some 31), none, none, .load true 2 (.t 30)⟩,
    ⟨(some 9), none, none, .alloc [.p (.bool false), .nils]⟩,
    ⟨(some 8), none, none, .mv (.t 29)⟩,
    ⟨none, none, none, .store 2 (.t 9) (.t 31)⟩] none)
              (.reg [⟨(some 32), none, none, .mv (.t 5)⟩,
    ⟨(some 33), none, none, .mv (.t 8)⟩,
    ⟨(some 34), none, none, .mv (.t 5)⟩,
    ⟨(some 35), none, none, .mv (.t 8)⟩,
    ⟨(some 36), none, none, .indexA 2 (.t 34) (.t 35)⟩,
    ⟨(some 37), none, none, .load true 2 (.t 36)⟩,
    ⟨(some 38), none, none, .mv (.t 0)⟩,
    ⟨(some 39), none, none, .mv (.t 6)⟩,
    ⟨(some 40), none, none, .indexA 2 (.t 38) (.t 39)⟩,
    ⟨(some 41), none, none, .load true 2 (.t 40)⟩,
    ⟨(some 42), none, none, .load true 2 (.t 9)⟩,
    ⟨(some 43), none, none, .call .pu 63 [.t 41, .t 42]⟩,
    ⟨(some 44), none, none, .call .pu 145 [.t 37, .t 43]⟩,
    ⟨(some 45), none, none, .indexA 2 (.t 32) (.t 33)⟩,
    ⟨none, none, none, .store 2 (.t 45) (.t 44)⟩] (some (0, [])))))
            (.fg [0, 5, 6, 18, 19, 20, 25, 26, 27] (.reg [⟨(some 46), none, none, .bin .add (.t 27) (.c (.p (.int .i64 1)))⟩,
    ⟨(some 27), none, none, .mv (.t 46)⟩] none)))))))))))))
      (.fg [0, 5, 18, 19, 20] (.reg [⟨(some 47), none, none, .bin .add (.t 20) (.c (.p (.int .i64 1)))⟩,
    ⟨(some 20), none, none, .mv (.t 47)⟩] none)))))))))))
  (.seq (.reg [⟨(some 48), none, none, .mv (.t 5)⟩,
    ⟨(some 4), none, none, .mv (.t 48)⟩] none)
  .ret))))),
  [.t 4]⟩

theorem c197 : chkF Try.prog 197 f197 = true := by kernel_rfl

/-- trammel/zint.Abs -/
def f204 : RFun := ⟨(.seq (.reg [⟨(some 1), none, none, .box (.t 0)⟩,
    ⟨(some 2), none, none, .alloc [.p (.bool false), .nils]⟩] none)
  (.seq (.reg [⟨(some 3), none, none, .fieldA 1 (.t 1)⟩,
    ⟨(some 4), none, none, .load false 1 (.t 3)⟩,
    ⟨(some 5), none, none, .call .pu 105 [.c (.p (.bool false)), .t 4]⟩,
    ⟨none, none, none, .store 2 (.t 2) (.t 5)⟩] none)
  .ret)),
  [.cell 2 true 2]⟩

theorem c204 : chkF Try.prog 204 f204 = true := by kernel_rfl

/-- trammel/elim.asked -/
def f208 : RFun := ⟨(.seq (.reg [⟨(some 2), none, none, .mv (.c (.p (.int .i64 0)))⟩,
    ⟨(some 3), none, none, .mv (.c (.p (.int .i64 0)))⟩,
    ⟨(some 4), none, none, .mv (.c (.p (.int .i64 0)))⟩] none)
  (.seq (.reg [⟨(some 9), none, none, .mv (.t 0)⟩,
    ⟨(some 10), none, none, .call .pu 93 [.t 9]⟩,
    ⟨(some 8), none, none, .mv (.t 10)⟩,
    ⟨(some 11), none, none, .extract (.t 8) 0⟩,
    ⟨(some 12), none, none, .extract (.t 8) 1⟩,
    ⟨(some 13), none, none, .extract (.t 8) 2⟩,
    ⟨(some 5), none, none, .mv (.t 11)⟩,
    ⟨(some 6), none, none, .mv (.t 12)⟩,
    ⟨(some 7), none, none, .mv (.t 13)⟩] none)
  (.seq (.seq (.reg [⟨(some 14), none, none, .mv (.t 7)⟩,
    ⟨(some 15), none, none, .bin .neq (.t 14) (.c (.p (.int .i64 0)))⟩] none)
  (.fg [5, 6, 7, 15] (.cond (.t 15)
    (.seq (.reg [⟨(some 16), none, none, .mv (.t 7)⟩,
    ⟨(some 2), none, none, .mv (.c (.p (.int .i64 0)))⟩,
    ⟨(some 3), none, none, .mv (.c (.p (.int .i64 0)))⟩,
    ⟨(some 4), none, none, .mv (.t 16)⟩] none)
    .ret)
    .skip)))
  (.seq (.seq (.reg [⟨(some 17), none, none, .mv (.t 5)⟩,
    ⟨(some 18), none, none, .bin .gtr (.t 17) (.c (.p (.int .i64 64)))⟩,
    ⟨(some 19), none, none, .mv (.t 18)⟩,
    ⟨(some 20), (some (19, false)), none, .mv (.t 6)⟩,
    ⟨(some 21), (some (19, false)), none, .bin .gtr (.t 20) (.c (.p (.int .i64 64)))⟩,
    ⟨(some 22), none, none, .pick (.t 19) (.c (.p (.bool true))) (.t 21)⟩] none)
  (.fg [5, 6, 22] (.cond (.t 22)
    (.seq (.reg [⟨(some 2), none, none, .mv (.c (.p (.int .i64 0)))⟩,
    ⟨(some 3), none, none, .mv (.c (.p (.int .i64 0)))⟩,
    ⟨(some 4), none, none, .mv (.c (.p (.int .i64 60)))⟩] none)
    .ret)
    .skip)))
  (.seq (.reg [⟨(some 23), none, none, .mv (.t 5)⟩,
    ⟨(some 24), none, none, .mv (.t 6)⟩,
    ⟨(some 2), none, none, .mv (.t 23)⟩,
    ⟨(some 3), none, none, .mv (.t 24)⟩,
    ⟨(some 4), none, none, .mv (.c (.p (.int .i64 0)))⟩] none)
  .ret))))),
  [.t 2, .t 3, .t 4]⟩

theorem c208 : chkF Try.prog 208 f208 = true := by kernel_rfl

/-- trammel/elim.bareiss -/
def f209 : RFun := ⟨(.seq (.reg [⟨(some 4), none, none, .mv (.c (.nils))⟩,
    ⟨(some 5), none, none, .mv (.c (.nils))⟩,
    ⟨(some 6), none, none, .alloc [.p (.bool false), .nils]⟩,
    ⟨(some 7), none, none, .mv (.c (.p (.bool false)))⟩] none)
  (.scope
  (.seq (.reg [⟨(some 18), none, none, .mv (.t 0)⟩,
    ⟨(some 19), none, none, .call .keep 211 [.t 18]⟩,
    ⟨(some 8), none, none, .mv (.t 19)⟩] none)
    (.seq (.reg [⟨(some 9), none, none, .mv (.c (.nils))⟩] none)
    (.seq (.reg [⟨(some 20), none, none, .call .pu 54 [.c (.p (.int .i64 1))]⟩,
    ⟨(some 10), none, none, .alloc [.p (.bool false), .nils]⟩,
    ⟨none, none, none, .store 2 (.t 10) (.t 20)⟩,
    ⟨(some 11), none, none, .mv (.c (.p (.bool false)))⟩] none)
    (.seq .skip
    (.seq (.seq (.reg [⟨(some 21), none, none, .mv (.t 1)⟩,
    ⟨(some 22), none, none, .mv (.c (.p (.int .i64 0)))⟩] none)
    (.fg [6, 8, 9, 10, 11, 21, 22] (.block 0
    (.loop (.fg [6, 8, 9, 10, 11, 21, 22]
      (.seq (.reg [⟨(some 23), none, none, .bin .lss (.t 22) (.t 21)⟩] none)
        (.seq (.cond (.t 23)
          .skip
          (.exit 0))
        (.fg [6, 8, 9, 10, 11, 21, 22] (.seq (.block 1
        (.seq (.reg [⟨(some 24), none, none, .mv (.t 22)⟩,
    ⟨(some 12), none, none, .mv (.t 24)⟩] none)
          (.seq (.reg [⟨(some 25), none, none, .mv (.t 9)⟩,
    ⟨(some 26), none, none, .len (.t 25)⟩,
    ⟨(some 13), none, none, .mv (.t 26)⟩] none)
          (.seq (.reg [⟨(some 27), none, none, .mv (.t 13)⟩,
    ⟨(some 14), none, none, .mv (.t 27)⟩] none)
          (.seq (.block 2
          (.loop (.fg [6, 8, 9, 10, 11, 12, 13, 14, 21, 22]
            (.seq (.seq (.reg [⟨(some 28), none, none, .mv (.t 14)⟩,
    ⟨(some 29), none, none, .mv (.t 8)⟩,
    ⟨(some 30), none, none, .len (.t 29)⟩,
    ⟨(some 31), none, none, .bin .lss (.t 28) (.t 30)⟩,
    ⟨(some 32), none, none, .mv (.t 31)⟩,
    ⟨(some 33), (some (32, true)), none, .mv (.t 8)⟩,
    ⟨(some 34), (some (32, true)), none, .mv (.t 14)⟩,
    ⟨(some 35), (some (32, true)), none, .indexA 1 (.t 33) (.t 34)⟩,
    ⟨(some 36), (some (32, true)), none, .load false 1 (.t 35)⟩,
    ⟨(some 37), (some (32, true)), none, .mv (.t 12)⟩,
    ⟨(some 38), (some (32, true)), none, .indexA 2 (.t 36) (.t 37)⟩,
    ⟨(some 39), (some (32, true)), none, .load true 2 (.t 38)⟩,
    ⟨(some 40), (some (32, true)), none, .call .pu 77 [.t 39]⟩,
    ⟨(some 41), (some (32, true)), none, .bin .eql (.t 40) (.c (.p (.int .i64 0)))⟩,
    ⟨(some 42), none, none, .pick (.t 32) (.t 41) (.c (.p (.bool false)))⟩] none)
              (.fg [6, 8, 9, 10, 11, 12, 13, 14, 21, 22, 42] (.cond (.t 42)
                .skip
                (.exit 2))))
              (.fg [6, 8, 9, 10, 11, 12, 13, 14, 21, 22] (.block 3
              (.reg [⟨(some 43), none, none, .mv (.t 14)⟩,
    ⟨(some 44), none, none, .bin .add (.t 43) (.c (.p (.int .i64 1)))⟩,
    ⟨(some 14), none, none, .mv (.t 44)⟩] none)))))))
          (.fg [6, 8, 9, 10, 11, 12, 13, 14, 21, 22] (.seq (.seq (.reg [⟨(some 45), none, none, .mv (.t 14)⟩,
    ⟨(some 46), none, none, .mv (.t 8)⟩,
    ⟨(some 47), none, none, .len (.t 46)⟩,
    ⟨(some 48), none, none, .bin .eql (.t 45) (.t 47)⟩] none)
          (.fg [6, 8, 9, 10, 11, 12, 13, 14, 21, 22, 48] (.cond (.t 48)
            (.exit 1)
            .skip)))
          (.seq (.seq (.reg [⟨(some 49), none, none, .mv (.t 14)⟩,
    ⟨(some 50), none, none, .mv (.t 13)⟩,
    ⟨(some 51), none, none, .bin .neq (.t 49) (.t 50)⟩] none)
          (.fg [6, 8, 9, 10, 11, 12, 13, 14, 21, 22, 51] (.cond (.t 51)
            (.seq (.reg [⟨(some 52), none, none, .mv (.t 8)⟩,
    ⟨(some 53), none, none, .mv (.t 14)⟩,
    ⟨(some 54), none, none, .mv (.t 8)⟩,
    ⟨(some 55), none, none, .mv (.t 13)⟩,
    ⟨(some 56), none, none, .mv (.t 8)⟩,
    ⟨(some 57), none, none, .mv (.t 13)⟩,
    ⟨(some 58), none, none, .indexA 1 (.t 56) (.t 57)⟩,
    ⟨(some 59), none, none, .load false 1 (.t 58)⟩,
    ⟨(some 60), none, none, .mv (.t 8)⟩,
    ⟨(some 61), none, none, .mv (.t 14)⟩,
    ⟨(some 62), none, none, .indexA 1 (.t 60) (.t 61)⟩,
    ⟨(some 63), none, none, .load false 1 (.t 62)⟩,
    ⟨(some 64), none, none, .indexA 1 (.t 52) (.t 53)⟩,
    ⟨none, none, none, .store 1 (.t 64) (.t 59)⟩,
    ⟨(some 65), none, none, .indexA 1 (.t 54) (.t 55)⟩,
    ⟨none, none, none, .store 1 (.t 65) (.t 63)⟩] (some (0, [])))
            (.reg [⟨(some 66), none, none, .mv (.t 11)⟩,
    ⟨(some 67), none, none, .un .not (.t 66)⟩,
    ⟨(some 11), none, none, .mv (.t 67)⟩] none))
            .skip)))
          (.seq (.seq (.reg [⟨(some 68), none, none, .mv (.t 13)⟩,
    ⟨(some 69), none, none, .bin .add (.t 68) (.c (.p (.int .i64 1)))⟩,
    ⟨(some 15), none, none, .mv (.t 69)⟩] none)
          (.fg [6, 8, 9, 10, 11, 12, 13, 15, 21, 22] (.block 4
          (.loop (.fg [6, 8, 9, 10, 11, 12, 13, 15, 21, 22]
            (.seq (.seq (.reg [⟨(some 70), none, none, .mv (.t 15)⟩,
    ⟨(some 71), none, none, .mv (.t 8)⟩,
    ⟨(some 72), none, none, .len (.t 71)⟩,
    ⟨(some 73), none, none, .bin .lss (.t 70) (.t 72)⟩] none)
              (.fg [6, 8, 9, 10, 11, 12, 13, 15, 21, 22, 73] (.cond (.t 73)
                .skip
                (.exit 4))))
              (.seq (.block 5
              (.seq (.reg [⟨(some 76), none, none, .mv (.t 8)⟩,
    ⟨(some 77), none, none, .mv (.t 15)⟩,
    ⟨(some 78), none, none, .indexA 1 (.t 76) (.t 77)⟩,
    ⟨(some 79), none, none, .load false 1 (.t 78)⟩,
    ⟨(some 80), none, none, .len (.t 79)⟩,
    ⟨(some 81), none, none, .bin .sub (.t 80) (.c (.p (.int .i64 1)))⟩,
    ⟨(some 16), none, none, .mv (.t 81)⟩] none)
                (.fg [6, 8, 9, 10, 11, 12, 13, 15, 16, 21, 22] (.block 6
                (.loop (.fg [6, 8, 9, 10, 11, 12, 13, 15, 16, 21, 22]
                  (.seq (.seq (.reg [⟨(some 82), none, none, .mv (.t 16)⟩,
    ⟨(some 83), none, none, .mv (.t 12)⟩,
    ⟨(some 84), none, none, .bin .geq (.t 82) (.t 83)⟩] none)
                    (.fg [6, 8, 9, 10, 11, 12, 13, 15, 16, 21, 22, 84] (.cond (.t 84)
                      .skip
                      (.exit 6))))
                    (.seq (.block 7
                    (.seq (.reg [⟨(some 87), none, none, .mv (.t 8)⟩,
    ⟨(some 88), none, none, .mv (.t 13)⟩,
    ⟨(some 89), none, none, .indexA 1 (.t 87) (.t 88)⟩,
    ⟨(some 90), none, none, .load false 1 (.t 89)⟩,
    ⟨(some 91), none, none, .mv (.t 12)⟩,
    ⟨(some 92), none, none, .indexA 2 (.t 90) (.t 91)⟩,
    ⟨(some 93), none, none, .load true 2 (.t 92)⟩,
    ⟨(some 94), none, none, .mv (.t 8)⟩,
    ⟨(some 95), none, none, .mv (.t 15)⟩,
    ⟨(some 96), none, none, .indexA 1 (.t 94) (.t 95)⟩,
    ⟨(some 97), none, none, .load false 1 (.t 96)⟩,
    ⟨(some 98), none, none, .mv (.t 16)⟩,
    ⟨(some 99), none, none, .indexA 2 (.t 97) (.t 98)⟩,
    ⟨(some 100), none, none, .load true 2 (.t 99)⟩,
    ⟨(some 101), none, none, .call .pu 63 [.t 93, .t 100]⟩,
    ⟨(some 102), none, none, .mv (.t 8)⟩,
    ⟨(some 103), none, none, .mv (.t 15)⟩,
    ⟨(some 104), none, none, .indexA 1 (.t 102) (.t 103)⟩,
    ⟨(some 105), none, none, .load false 1 (.t 104)⟩,
    ⟨(some 106), none, none, .mv (.t 12)⟩,
    ⟨(some 107), none, none, .indexA 2 (.t 105) (.t 106)⟩,
    ⟨(some 108), none, none, .load true 2 (.t 107)⟩,
    ⟨(some 109), none, none, .mv (.t 8)⟩,
    ⟨(some 110), none, none, .mv (.t 13)⟩,
    ⟨(some 111), none, none, .indexA 1 (.t 109) (.t 110)⟩,
    ⟨(some 112), none, none, .load false 1 (.t 111)⟩,
    ⟨(some 113), none, none, .mv (.t 16)⟩,
    ⟨(some 114), none, none, .indexA 2 (.t 112) (.t 113)⟩,
    ⟨(some 115), none, none, .load true 2 (.t 114)⟩,
    ⟨(some 116), none, none, .call .pu 63 [.t 108, .t 115]⟩,
    ⟨(some 117), none, none, .call .pu 157 [.t 101, .t 116]⟩,
    ⟨(some 17), none, (some 0), .alloc [.p (.bool false), .nils]⟩,
    ⟨none, none, none, .store 2 (.t 17) (.t 117)⟩] (some (1, [])))
                      (.reg [⟨(some 119), none, none, .mv (.t 8)⟩,
    ⟨(some 120), none, none, .mv (.t 15)⟩,
    ⟨(some 121), none, none, .indexA 1 (.t 119) (.t 120)⟩,
    ⟨(some 122), none, none, .load false 1 (.t 121)⟩,
    ⟨(some 123), none, none, .mv (.t 16)⟩,
    ⟨(some 124), none, none, .load true 2 (.t 17)⟩,
    ⟨(some 125), none, none, .load true 2 (.t 10)⟩,
    ⟨(some 126), none, none, .call .pu 134 [.t 124, .t 125]⟩,
    ⟨(some 118), none, none, .mv (.t 126)⟩,
    ⟨(some 127), none, none, .extract (.t 118) 0⟩,
    ⟨(some 128), none, none, .extract (.t 118) 1⟩,
    ⟨(some 129), none, none, .extract (.t 118) 2⟩,
    ⟨(some 130), none, none, .indexA 2 (.t 122) (.t 123)⟩,
    ⟨none, none, none, .store 2 (.t 130) (.t 127)⟩] (some (0, [])))))
                    (.fg [6, 8, 9, 10, 11, 12, 13, 15, 16, 21, 22] (.reg [⟨(some 85), none, none, .mv (.t 16)⟩,
    ⟨(some 86), none, none, .bin .sub (.t 85) (.c (.p (.int .i64 1)))⟩,
    ⟨(some 16), none, none, .mv (.t 86)⟩] none))))))))))
              (.fg [6, 8, 9, 10, 11, 12, 13, 15, 21, 22] (.reg [⟨(some 74), none, none, .mv (.t 15)⟩,
    ⟨(some 75), none, none, .bin .add (.t 74) (.c (.p (.int .i64 1)))⟩,
    ⟨(some 15), none, none, .mv (.t 75)⟩] none)))))))))
          (.seq (.reg [⟨(some 131), none, none, .mv (.t 8)⟩,
    ⟨(some 132), none, none, .mv (.t 13)⟩,
    ⟨(some 133), none, none, .indexA 1 (.t 131) (.t 132)⟩,
    ⟨(some 134), none, none, .load false 1 (.t 133)⟩,
    ⟨(some 135), none, none, .mv (.t 12)⟩,
    ⟨(some 136), none, none, .indexA 2 (.t 134) (.t 135)⟩,
    ⟨(some 137), none, none, .load true 2 (.t 136)⟩,
    ⟨none, none, none, .store 2 (.t 10) (.t 137)⟩] none)
          (.reg [⟨(some 138), none, none, .mv (.t 9)⟩,
    ⟨(some 139), none, none, .mv (.t 12)⟩,
    ⟨(some 140), none, none, .bslice 1 [.t 139]⟩,
    ⟨(some 141), none, none, .append 1 8 (.t 138) (.t 140)⟩,
    ⟨(some 9), none, none, .mv (.t 141)⟩] none)))))))))))
        (.fg [6, 8, 9, 10, 11, 21, 22] (.reg [⟨(some 142), none, none, .bin .add (.t 22) (.c (.p (.int .i64 1)))⟩,
    ⟨(some 22), none, none, .mv (.t 142)⟩] none)))))))))))
    (.seq (.reg [⟨(some 143), none, none, .mv (.t 8)⟩,
    ⟨(some 144), none, none, .mv (.t 9)⟩,
    ⟨(some 145), none, none, .load true 2 (.t 10)⟩,
    ⟨(some 146), none, none, .mv (.t 11)⟩,
    ⟨(some 4), none, none, .mv (.t 143)⟩,
    ⟨(some 5), none, none, .mv (.t 144)⟩,
    ⟨none, none, none, .store 2 (.t 6) (.t 145)⟩,
    ⟨(some 7), none, none, .mv (.t 146)⟩] (some (0, [])))
    .ret)))))))),
  [.t 4, .t 5, .cell 6 true 2, .t 7]⟩

theorem c209 : chkF Try.prog 209 f209 = true := by kernel_rfl

/-- trammel/elim.copied -/
def f211 : RFun := ⟨(.seq (.reg [⟨(some 2), none, none, .mv (.c (.nils))⟩] none)
  (.seq (.reg [⟨(some 6), none, none, .mv (.t 0)⟩,
    ⟨(some 7), none, none, .len (.t 6)⟩,
    ⟨(some 8), none, none, .mks true 1 24 (.sl []) (.t 7) (.t 7)⟩,
    ⟨(some 3), none, none, .mv (.t 8)⟩] none)
  (.seq (.seq (.reg [⟨(some 9), none, none, .mv (.t 0)⟩,
    ⟨(some 10), none, none, .len (.t 9)⟩,
    ⟨(some 11), none, none, .mv (.c (.p (.int .i64 0)))⟩] none)
  (.fg [3, 9, 10, 11] (.block 0
  (.loop (.fg [3, 9, 10, 11]
    (.seq (.reg [⟨(some 12), none, none, .bin .lss (.t 11) (.t 10)⟩] none)
      (.seq (.cond (.t 12)
        .skip
        (.exit 0))
      (.fg [3, 9, 10, 11] (.seq (.block 1
      (.seq (.reg [⟨(some 13), none, none, .mv (.t 11)⟩,
    ⟨(some 14), none, none, .indexA 1 (.t 9) (.t 11)⟩,
    ⟨(some 15), none, none, .load false 1 (.t 14)⟩,
    ⟨(some 4), none, none, .mv (.t 13)⟩,
    ⟨(some 5), none, none, .mv (.t 15)⟩] none)
        (.seq (.reg [⟨(some 16), none, none, .mv (.t 3)⟩,
    ⟨(some 17), none, none, .mv (.t 4)⟩,
    ⟨(some 18), none, none, .mv (.t 5)⟩,
    ⟨(some 19), none, none, .len (.t 18)⟩,
    ⟨(some 20), none, none, .mks false 2 32 (.agg [.bool false, .sl []]) (.t 19) (.t 19)⟩,
    ⟨(some 21), none, none, .indexA 1 (.t 16) (.t 17)⟩,
    ⟨none, none, none, .store 1 (.t 21) (.t 20)⟩] none)
        (.reg [⟨(some 22), none, none, .mv (.t 3)⟩,
    ⟨(some 23), none, none, .mv (.t 4)⟩,
    ⟨(some 24), none, none, .indexA 1 (.t 22) (.t 23)⟩,
    ⟨(some 25), none, none, .load false 1 (.t 24)⟩,
    ⟨(some 26), none, none, .mv (.t 5)⟩,
    ⟨(some 27), none, none, .copy 2 (.t 25) (.t 26)⟩] none))))
      (.fg [3, 9, 10, 11] (.reg [⟨(some 28), none, none, .bin .add (.t 11) (.c (.p (.int .i64 1)))⟩,
    ⟨(some 11), none, none, .mv (.t 28)⟩] none)))))))))))
  (.seq (.reg [⟨(some 29), none, none, .mv (.t 3)⟩,
    ⟨(some 2), none, none, .mv (.t 29)⟩] none)
  .ret)))),
  [.t 2]⟩

theorem c211 : chkF Try.prog 211 f211 = true := by kernel_rfl

end Go.Proofs.Ytdieenbfdeaffaa.VDd

namespace Go.Proofs.Ytdieenbfdeaffaa.VDd
open Go Vpi
set_option maxRecDepth 100000

def tab : List (Nat × RFun) := [(11, f11), (44, f44), (45, f45), (46, f46), (47, f47), (48, f48), (70, f70), (78, f78), (94, f94), (95, f95), (96, f96), (97, f97), (100, f100), (101, f101), (102, f102), (103, f103), (114, f114), (115, f115), (116, f116), (120, f120), (132, f132), (133, f133), (136, f136), (165, f165), (166, f166), (167, f167), (168, f168), (189, f189), (190, f190), (191, f191), (192, f192), (193, f193), (194, f194), (195, f195), (196, f196), (197, f197), (204, f204), (208, f208), (209, f209), (211, f211)]

def rp : RProg := fun f => match VBn.rp f with | some rf => some rf | none => (tab.find? fun x => x.1 == f).map (·.2)

theorem all_ok : (tab.all fun x => chkF Try.prog x.1 x.2) = true := by
  simp only [tab, List.all_cons, List.all_nil, c11, c44, c45, c46, c47, c48, c70, c78, c94, c95, c96, c97, c100, c101, c102, c103, c114, c115, c116, c120, c132, c133, c136, c165, c166, c167, c168, c189, c190, c191, c192, c193, c194, c195, c196, c197, c204, c208, c209, c211, Bool.and_self]

theorem base_le : TabLe VBn.rp rp := by
  intro f rf h
  simp only [rp, h]

theorem rp_ok : ∀ f rf, rp f = some rf → chkF Try.prog f rf = true := by
  intro f rf h
  unfold rp at h
  split at h
  · rename_i h1
    cases h
    exact VBn.rp_ok _ _ h1
  · rw [Option.map_eq_some_iff] at h
    obtain ⟨x, hx, rfl⟩ := h
    have h1 := List.find?_some hx
    have h2 := List.mem_of_find?_eq_some hx
    have h3 := List.all_eq_true.1 all_ok x h2
    have h4 : x.1 = f := by simpa using h1
    rw [← h4]; exact h3

theorem mixed : Try.prog.follows .mixedOrders = true := VBn.mixed

theorem sim (m : Nat) : CallSim Try.prog (runF rp m) := callSim mixed rp_ok m

end Go.Proofs.Ytdieenbfdeaffaa.VDd

namespace Go.Proofs.Ytdieenbfdeaffaa.VDd
open Go Vpi
open VBn hiding rp tab rp_ok all_ok mixed sim Big
set_option maxRecDepth 100000
set_option linter.unusedSimpArgs false
set_option linter.unusedVariables false

theorem rp116 : rp 116 = some f116 := rfl
theorem rp114 : rp 114 = some f114 := rfl
theorem rp115 : rp 115 = some f115 := rfl
theorem rp94 : rp 94 = some f94 := rfl
theorem rp70 : rp 70 = some f70 := rfl
theorem rp100 : rp 100 = some f100 := rfl

/-! ### stores that grow -/

/-- what stood stays -/
structure Pre (σ ρ : Store) : Prop where
  len : σ.length ≤ ρ.length
  get : ∀ j, j < σ.length → ρ[j]? = σ[j]?

section
variable {σ ρ : Store} {c : CV} {sz : Nat} {es : List PV}
theorem Pre.refl : Pre σ σ := ⟨Nat.le_refl _, fun _ _ => rfl⟩
theorem Pre.push (h : Pre σ ρ) {l : Store} : Pre σ (ρ ++ l) := ⟨by rw [List.length_append]; exact Nat.le_trans h.len (Nat.le_add_right _ _), fun j hj => by rw [get_left (Nat.lt_of_lt_of_le hj h.len), h.get j hj]⟩
theorem Pre.set (h : Pre σ ρ) {b : Nat} {x : Blk} (hb : σ.length ≤ b) : Pre σ (ρ.set b x) := ⟨by rw [List.length_set]; exact h.len, fun j hj => by rw [get_ne (by omega), h.get j hj]⟩
theorem Pre.nd (h : Pre σ ρ) (hc : ∀ b o n, c = .own b o n → σ.length ≤ b) : Pre σ (nd ρ c) := by
  cases c <;> try exact h
  exact h.set (hc _ _ _ rfl)
theorem Pre.trans {τ : Store} (h : Pre σ ρ) (k : Pre ρ τ) : Pre σ τ := ⟨Nat.le_trans h.len k.len, fun j hj => by rw [k.get j (Nat.lt_of_lt_of_le hj h.len), h.get j hj]⟩
theorem Pre.take (h : Pre σ ρ) : ρ.take σ.length = σ := by
  apply List.ext_getElem?
  intro j
  rw [List.getElem?_take]
  split
  · exact h.get j (by assumption)
  · rw [List.getElem?_eq_none (by omega)]
theorem Pre.nil : Pre [] ρ := ⟨Nat.zero_le _, fun j hj => by simp at hj⟩
theorem nd_left {l : Store} (h : GL ρ sz c es) : nd (ρ ++ l) c = nd ρ c ++ l := by
  have hlt := h.lt.2
  cases c <;> try rfl
  exact set_left (hlt _ _ _ rfl)

section
variable {rp : RProg} {rs : List RRes} {base : Nat} {d : Option Nat} {l : List LOp} {dr : Dr} {ks : List KI} {e : Env} {Q : CV → Store → Prop} {xs : List PV}

/-- append of what bslice just laid, behind another block -/
theorem r_app_1 {a : Blk} {s x : Opd} {bytes : Nat} (h : GL ρ sz c es) (hc : (es.length + xs.length) * bytes ≤ 140737488355328) (hs : vl e s = c) (hx : vl e x = .own (ρ.length + 1) 0 xs.length) (hz : allSz sz xs = true) :
    ExR rp rs base (⟨d, none, none, .append sz bytes s x⟩ :: l) dr ks e (ρ ++ [a, .prow sz xs]) Q = ExR rp rs base l dr ks (sto d (.own (ρ.length + 2) 0 (es.length + xs.length)) e) (nd ρ c ++ [a, .prow sz xs, .prow sz (es ++ xs)]) Q := by
  have hl : (ρ ++ [a]).length = ρ.length + 1 := by simp
  have := r_app (rp := rp) (rs := rs) (base := base) (d := d) (l := l) (dr := dr) (ks := ks) (e := e) (Q := Q) (s := s) (x := x) (h.left (τ := [a])) hc hs (by rw [hl]; exact hx) hz
  rw [hl, nd_left h, List.append_assoc, List.append_assoc] at this
  exact this

end
end

/-! ### lists of numbers -/

def zr (r : List Int) : List PV := r.map zi
def zm (M : List (List Int)) : List PV := M.map fun r => .sl (zr r)
theorem zr_len {r : List Int} : (zr r).length = r.length := by simp [zr]
theorem zm_len {M : List (List Int)} : (zm M).length = M.length := by simp [zm]
theorem zr_get {r : List Int} {i : Nat} {x : Int} (h : r[i]? = some x) : (zr r)[i]? = some (zi x) := by simp [zr, h]
theorem zm_get {M : List (List Int)} {i : Nat} {r : List Int} (h : M[i]? = some r) : (zm M)[i]? = some (.sl (zr r)) := by simp [zm, h]
theorem zr_app {r s : List Int} : zr (r ++ s) = zr r ++ zr s := by simp [zr]
theorem take_suc {α : Type} {l : List α} {i : Nat} {x : α} (h : l[i]? = some x) : l.take (i + 1) = l.take i ++ [x] := by
  obtain ⟨h1, h2⟩ := List.getElem?_eq_some_iff.1 h
  rw [List.take_add_one, h]; rfl
theorem zr_suc {r : List Int} {i : Nat} {x : Int} (h : r[i]? = some x) : zr (r.take (i + 1)) = zr (r.take i) ++ [zi x] := by rw [take_suc h, zr_app]; rfl
/-- the numbers of a row -/
def NL (r : List PV) (xs : List Int) : Prop := r.length = xs.length ∧ ∀ (i : Nat) (p : PV) (x : Int), r[i]? = some p → xs[i]? = some x → Nu p x
/-- the numbers of a matrix -/
def ML (b : List PV) (M : List (List Int)) : Prop := b.length = M.length ∧ ∀ (i : Nat) (p : PV) (r : List Int), b[i]? = some p → M[i]? = some r → ∃ q, p = .sl q ∧ NL q r ∧ q.length ≤ 2000000

theorem NL.ix {r : List PV} {xs : List Int} (h : NL r xs) {i : Nat} (hi : i < r.length) : ∃ p x, r[i]? = some p ∧ xs[i]? = some x ∧ Nu p x := by
  have h2 : i < xs.length := by rw [← h.1]; exact hi
  exact ⟨r[i], xs[i], by simp, by simp, h.2 i _ _ (by simp) (by simp)⟩
theorem ML.ix {b : List PV} {M : List (List Int)} (h : ML b M) {i : Nat} (hi : i < b.length) : ∃ q r, b[i]? = some (.sl q) ∧ M[i]? = some r ∧ NL q r ∧ q.length ≤ 2000000 := by
  have h2 : i < M.length := by rw [← h.1]; exact hi
  obtain ⟨q, h3, h4, h5⟩ := h.2 i b[i] M[i] (by simp) (by simp)
  exact ⟨q, M[i], by rw [← h3]; simp, by simp, h4, h5⟩
def SzL (r : List Int) : Prop := ∀ (i : Nat) (x : Int), r[i]? = some x → Sz x
theorem NL.zr {r : List Int} (h : SzL r) : NL (zr r) r := by
  refine ⟨zr_len, fun i p x hp hx => ?_⟩
  rw [zr_get hx] at hp
  cases hp
  exact Nu.zi (h i x hx)
theorem ML.zm {M : List (List Int)} (h : ∀ (i : Nat) (r : List Int), M[i]? = some r → SzL r ∧ r.length ≤ 2000000) : ML (zm M) M := by
  refine ⟨zm_len, fun i p r hp hr => ?_⟩
  rw [zm_get hr] at hp
  cases hp
  exact ⟨_, rfl, .zr (h i r hr).1, by rw [zr_len]; exact (h i r hr).2⟩

/-! ### each -/

/-- what a closure does with a number: the store stays -/
def Does (σ : Store) (g : Nat) (cap : List CV) (p : PV) (y : Int) : Prop :=
  ∀ (ρ : Store), Pre σ ρ → ∀ {rs : List RRes} {base : Nat} {d : Option Nat} {l : List LOp} {dr : Dr} {ks : List KI} {e : Env} {Q : CV → Store → Prop},
    KC rp rs base .cell g (.p p :: cap) d l dr ks e ρ Q = ExR rp rs base l dr ks (sto d (.p (zi y)) e) ρ Q

theorem n116 {σ : Store} {g : Nat} {cap : List CV} {r : List PV} {ys : List Int} (hw : Wf σ) (hl : r.length = ys.length) (hm : r.length ≤ 2000000)
    (hg : ∀ i, i < r.length → ∃ p y, r[i]? = some p ∧ ys[i]? = some y ∧ (∃ a b, p = .agg [.bool a, .sl b]) ∧ Does σ g cap p y) {Q : CV → Store → Prop}
    (hQ : ∀ ρ b, Pre σ ρ → Wf ρ → σ.length ≤ b → ρ[b]? = some (.prow 2 (zr ys)) → Q (.own b 0 ys.length) ρ) : Rn rp 116 [.p (.sl r), .fn g cap] σ Q := by
  rw [rn_of rp116]
  have m1 : ((32 : Nat) : Int) * (r.length : Int) ≤ 281474976710656 := by omega
  have m2 : (r.length : Int) ≤ 9223372036854775807 := by omega
  have i0 : Int.toNat 0 = 0 := rfl
  simp only [f116, args0, S1, S2, S3, S4, S5, r_idx, r_mks, ev, resultsV, resL, resV, vl, gt, st, sto, fgt, i64, subCV, fill, setCells, mkAgg, allP, frz, frz1, frzL, frzs, kill, kill1, killL, kills, bnd, unV, bsz, toPs, toP, isPure1, pureL, List.elem, List.replicate, Int.reduceLE, Int.reduceLT, ↓reduceIte, reduceCtorEq, Nat.reduceLT, Nat.reduceEqDiff, Nat.reduceAdd, Nat.reduceMul, Nat.reduceLeDiff, Nat.reduceBEq, Int.natCast_nonneg, m1, m2, i0, Int.le_refl]
  refine loop_rule (β := Nat × Store × Nat) (fun t => ([(1, .fn g cap), (5, .own t.2.2 0 t.1), (11, .p (.sl r)), (12, i64 r.length), (13, i64 t.1)], t.2.1))
    (fun t => t.1 ≤ r.length ∧ Pre σ t.2.1 ∧ Wf t.2.1 ∧ σ.length ≤ t.2.2 ∧ t.2.1[t.2.2]? = some (.prow 2 (zr (ys.take t.1)))) (fun t => r.length - t.1) ((0, σ ++ [.prow 2 []], σ.length) : Nat × Store × Nat) rfl rfl
    ⟨Nat.zero_le _, Pre.refl.push, hw.push rfl, Nat.le_refl _, by rw [get_app0]; rfl⟩ ?_
  rintro ⟨i, ρ, b⟩ ⟨hi, hp, hwf, hb, hgl⟩ ih
  simp only [] at hi hp hwf hb hgl ih ⊢
  by_cases hin : (i : Int) < r.length
  · obtain ⟨p, y, hpi, hyi, ⟨a1, a2, rfl⟩, hd⟩ := hg i (by omega)
    have w1 : IntKind.i64.wrap ((i : Int) + 1) = ((i + 1 : Nat) : Int) := by rw [IntWalk.i64_in _ (by omega)]; omega
    have htl : (zr (ys.take i)).length = i := by rw [zr_len, List.length_take]; omega
    have hG : GL ρ 2 (.own b 0 i) (zr (ys.take i)) := .own hgl htl.symm
    have hc : ((zr (ys.take i)).length + [zi y].length) * 32 ≤ 140737488355328 := by rw [htl]; simp; omega
    have hd' := fun {rs base d l dr ks e Q} => hd (ρ ++ [.kblk 2 [.p (.bool a1), .p (.sl a2)]]) hp.push (rs := rs) (base := base) (d := d) (l := l) (dr := dr) (ks := ks) (e := e) (Q := Q)
    have hA := fun {rp rs base d l dr ks e Q s x} => r_app_1 (rp := rp) (rs := rs) (base := base) (d := d) (l := l) (dr := dr) (ks := ks) (e := e) (Q := Q) (s := s) (x := x) (a := .kblk 2 [.p (.bool a1), .p (.sl a2)]) hG hc
    simp only [S1, S2, S3, S4, S5, r_idx, r_mks, ev, resultsV, resL, resV, vl, gt, st, sto, fgt, i64, subCV, fill, setCells, mkAgg, allP, frz, frz1, frzL, frzs, kill, kill1, killL, kills, bnd, unV, bsz, toPs, toP, isPure1, pureL, List.elem, List.replicate, Int.reduceLE, Int.reduceLT, ↓reduceIte, reduceCtorEq, Nat.reduceLT, Nat.reduceEqDiff, Nat.reduceAdd, Nat.reduceMul, Nat.reduceLeDiff, Nat.reduceBEq, hin, hpi, Int.natCast_nonneg, Int.toNat_natCast, hd', hA, ← zr_suc hyi, htl, w1, nd]
    refine ih (i + 1, ρ.set b .dead ++ [.kblk 2 [.p (.bool a1), .p (.sl a2)], .prow 2 [zi y], .prow 2 (zr (ys.take (i + 1)))], ρ.length + 2) _ ⟨by simp only []; omega, (hp.set hb).push, ?_, ?_, ?_⟩ (by simp only []; omega) ?_
    · have h1 := (((hwf.set (b := b) (x := .dead) rfl).push (x := .kblk 2 [.p (.bool a1), .p (.sl a2)]) rfl).push (x := .prow 2 [zi y]) rfl).push (x := .prow 2 (zr (ys.take (i + 1)))) rfl
      simpa [List.append_assoc] using h1
    · simp only []; exact Nat.le_trans hp.len (Nat.le_add_right _ _)
    · simp only []
      rw [show ρ.length + 2 = (ρ.set b Blk.dead).length + 2 by rw [List.length_set], get_app]; rfl
    · rfl
  · obtain rfl : i = r.length := by omega
    simp only [S1, S2, S3, S4, S5, r_idx, r_mks, ev, resultsV, resL, resV, vl, gt, st, sto, fgt, i64, subCV, fill, setCells, mkAgg, allP, frz, frz1, frzL, frzs, kill, kill1, killL, kills, bnd, unV, bsz, toPs, toP, isPure1, pureL, List.elem, List.replicate, Int.reduceLE, Int.reduceLT, ↓reduceIte, reduceCtorEq, Nat.reduceLT, Nat.reduceEqDiff, Nat.reduceAdd, Nat.reduceMul, Nat.reduceLeDiff, Nat.reduceBEq, hin]
    rw [List.take_of_length_le (by omega)] at hgl
    rw [hl]
    exact hQ ρ b hp hwf hb hgl

theorem does0 {σ : Store} {g : Nat} {p : PV} {y : Int} (h : Pu rp g [p] (.p (zi y))) : Does σ g [] p y := by
  intro ρ _ rs base d l dr ks e Q
  exact kc_cell0 h rfl rfl

theorem p94 {p : PV} {x : Int} (h : Nu p x) : Pu rp 94 [p] (.p (zi x)) := by
  obtain ⟨n1, a, rfl, ha, hna, rfl⟩ := h
  refine pu_of rp94 ?_
  rw [CapN_eq] at hna
  have k := (p105 (neg := n1) ha (by omega)).lift base_le
  rw [mk_val] at k
  simp only [f94, args0, S1, S2, S3, S4, S5, r_idx, r_mks, ev, resultsV, resL, resV, vl, gt, st, sto, fgt, i64, subCV, fill, setCells, mkAgg, allP, frz, frz1, frzL, frzs, kill, kill1, killL, kills, bnd, unV, bsz, toPs, toP, isPure1, pureL, List.elem, List.replicate, Int.reduceLE, Int.reduceLT, ↓reduceIte, reduceCtorEq, Nat.reduceLT, Nat.reduceEqDiff, Nat.reduceAdd, Nat.reduceMul, Nat.reduceLeDiff, Nat.reduceBEq, kp2 k]
  rfl

theorem Nu.agg {p : PV} {x : Int} (h : Nu p x) : ∃ a b, p = .agg [.bool a, .sl b] := by
  obtain ⟨n1, a, rfl, -⟩ := h
  exact ⟨_, _, rfl⟩

theorem n115 {r : List PV} {xs : List Int} {σ : Store} (hw : Wf σ) (h : NL r xs) (hm : r.length ≤ 2000000) {Q : CV → Store → Prop}
    (hQ : ∀ ρ b, Pre σ ρ → Wf ρ → σ.length ≤ b → ρ[b]? = some (.prow 2 (zr xs)) → Q (.own b 0 xs.length) ρ) : Rn rp 115 [.p (.sl r)] σ Q := by
  rw [rn_of rp115]
  simp only [f115, args0, S1, S2, S3, S4, S5, r_idx, r_mks, ev, resultsV, resL, resV, vl, gt, st, sto, fgt, i64, subCV, fill, setCells, mkAgg, allP, frz, frz1, frzL, frzs, kill, kill1, killL, kills, bnd, unV, bsz, toPs, toP, isPure1, pureL, List.elem, List.replicate, Int.reduceLE, Int.reduceLT, ↓reduceIte, reduceCtorEq, Nat.reduceLT, Nat.reduceEqDiff, Nat.reduceAdd, Nat.reduceMul, Nat.reduceLeDiff, Nat.reduceBEq]
  refine kc_keep' (n116 hw h.1 hm (fun i hi => ?_) fun ρ b hp hwf hb hg => ?_)
  · obtain ⟨p, x, h1, h2, h3⟩ := h.ix hi
    exact ⟨p, x, h1, h2, Nu.agg h3, does0 (p94 h3)⟩
  · simp only [S1, S2, S3, S4, S5, r_idx, r_mks, ev, resultsV, resL, resV, vl, gt, st, sto, fgt, i64, subCV, fill, setCells, mkAgg, allP, frz, frz1, frzL, frzs, kill, kill1, killL, kills, bnd, unV, bsz, toPs, toP, isPure1, pureL, List.elem, List.replicate, Int.reduceLE, Int.reduceLT, ↓reduceIte, reduceCtorEq, Nat.reduceLT, Nat.reduceEqDiff, Nat.reduceAdd, Nat.reduceMul, Nat.reduceLeDiff, Nat.reduceBEq]
    exact hQ ρ b hp hwf hb hg

/-! ### a list of blocks -/

/-- rows in blocks of their own, none of them twice -/
structure RowsAt (ρ : Store) (lo : Nat) (cs : List CV) (M : List (List Int)) : Prop where
  len : cs.length = M.length
  own : ∀ (j : Nat) (r : List Int), M[j]? = some r → ∃ b, cs[j]? = some (.own b 0 r.length) ∧ lo ≤ b ∧ ρ[b]? = some (.prow 2 (zr r))
  ne : ∀ (j j' b b' n n' : Nat), j < j' → cs[j]? = some (.own b 0 n) → cs[j']? = some (.own b' 0 n') → b ≠ b'

theorem RowsAt.nil {ρ : Store} {lo : Nat} : RowsAt ρ lo [] [] := ⟨rfl, by simp, by simp⟩

theorem RowsAt.mono {ρ τ : Store} {lo : Nat} {cs : List CV} {M : List (List Int)} (h : RowsAt ρ lo cs M) (hp : ∀ (b : Nat) es, ρ[b]? = some (.prow 2 es) → τ[b]? = some (.prow 2 es)) : RowsAt τ lo cs M :=
  ⟨h.len, fun j r hr => by obtain ⟨b, h1, h2, h3⟩ := h.own j r hr; exact ⟨b, h1, h2, hp b _ h3⟩, h.ne⟩

theorem RowsAt.snoc {ρ : Store} {lo b : Nat} {cs : List CV} {M : List (List Int)} {r : List Int} (h : RowsAt ρ lo cs M) (hlo : lo ≤ b) (hb : ρ[b]? = some (.prow 2 (zr r))) (hne : ∀ (j b' n : Nat), cs[j]? = some (.own b' 0 n) → b' ≠ b) :
    RowsAt ρ lo (cs ++ [.own b 0 r.length]) (M ++ [r]) := by
  refine ⟨by simp [h.len], fun j r' hr => ?_, fun j j' b1 b2 n n' hj h1 h2 => ?_⟩
  · rcases Nat.lt_or_ge j M.length with hjl | hjl
    · rw [List.getElem?_append_left hjl] at hr
      obtain ⟨b', h1, h2, h3⟩ := h.own j r' hr
      exact ⟨b', by rw [List.getElem?_append_left (by rw [h.len]; exact hjl)]; exact h1, h2, h3⟩
    · rw [List.getElem?_append_right hjl] at hr
      have h0 : j - M.length = 0 := by
        have := (List.getElem?_eq_some_iff.1 hr).1
        simp at this; omega
      rw [h0] at hr
      cases hr
      refine ⟨b, ?_, hlo, hb⟩
      rw [List.getElem?_append_right (by rw [h.len]; exact hjl), h.len, h0]; rfl
  · have hj2 : j' < cs.length + 1 := by simpa using (List.getElem?_eq_some_iff.1 h2).1
    rw [List.getElem?_append_left (by omega)] at h1
    rcases Nat.lt_or_ge j' cs.length with hjl | hjl
    · rw [List.getElem?_append_left hjl] at h2
      exact h.ne j j' b1 b2 n n' hj h1 h2
    · rw [List.getElem?_append_right hjl, show j' - cs.length = 0 by omega] at h2
      simp only [List.getElem?_cons_zero, Option.some.injEq, CV.own.injEq] at h2
      rw [← h2.1]
      exact hne j b1 n h1

section
variable {rp : RProg} {rs : List RRes} {base : Nat} {d : Option Nat} {l : List LOp} {dr : Dr} {ks : List KI} {e : Env} {σ ρ : Store} {Q : CV → Store → Prop}

theorem contK_own {b n : Nat} {cs : List CV} (h : σ[b]? = some (.kblk 1 cs)) (hn : n = cs.length) : contentK σ (.own b 0 n) = some cs := by
  subst hn
  simp [contentK, h]

/-- append of what bslk just laid -/
theorem r_appk_1 {a k n : Nat} {cs xs : List CV} {s x : Opd} {bytes : Nat} (hk : ρ[k]? = some (.kblk 1 cs)) (hn : n = cs.length) (hx0 : 0 < xs.length) (hc : (cs.length + xs.length) * bytes ≤ 140737488355328) (hs : vl e s = .own k 0 n) (hx : vl e x = .own ρ.length 0 xs.length) :
    ExR rp rs base (⟨d, none, none, .appk bytes s x⟩ :: l) dr ks e (ρ ++ [.kblk 1 xs]) Q = ExR rp rs base l dr ks (sto d (.own (ρ.length + 1) 0 (cs.length + xs.length)) e) (ρ.set k .dead ++ [.kblk 1 xs, .kblk 1 (cs ++ xs)]) Q := by
  rw [r_appk]
  have hlt := (List.getElem?_eq_some_iff.1 hk).1
  have h1 : contentK (ρ ++ [.kblk 1 xs]) (vl e s) = some cs := by rw [hs]; exact contK_own (by rw [List.getElem?_append_left hlt]; exact hk) hn
  have h2 : contentK (ρ ++ [.kblk 1 xs]) (vl e x) = some xs := by rw [hx]; exact contK_own (by simp) rfl
  simp only [ev, h1, h2]
  rw [if_pos ⟨hc, hx0⟩, hs]
  simp only [push_none, Option.map_some, ke_some, List.length_append, List.length_set, List.length_cons, List.length_nil, Nat.zero_add]
  rw [List.set_append_left _ _ hlt, List.append_assoc]
  rfl

end

theorem below_owns {ρ : Store} {lo m : Nat} {cs : List CV} {M : List (List Int)} (h : RowsAt ρ lo cs M) (hm : ρ.length ≤ m) : (cs.all (below1 m)) = true := by
  rw [List.all_eq_true]
  intro x hx
  obtain ⟨j, hj⟩ := List.getElem?_of_mem hx
  have hjl : j < M.length := by rw [← h.len]; exact (List.getElem?_eq_some_iff.1 hj).1
  obtain ⟨b, h1, _, h3⟩ := h.own j M[j] (by simp [hjl])
  rw [h1] at hj
  cases hj
  have := (List.getElem?_eq_some_iff.1 h3).1
  simp only [below1, decide_eq_true_eq]
  omega

/-- mat.Form: rows in blocks of their own -/
theorem n70 {b : List PV} {M : List (List Int)} {σ : Store} (hw : Wf σ) (h : ML b M) (hm : b.length ≤ 2000000) {Q : CV → Store → Prop}
    (hQ : ∀ ρ k cs, Pre σ ρ → Wf ρ → σ.length ≤ k → ρ[k]? = some (.kblk 1 cs) → RowsAt ρ σ.length cs M → Q (.own k 0 M.length) ρ) : Rn rp 70 [.p (.sl b)] σ Q := by
  rw [rn_of rp70]
  simp only [f70, args0, S1, S2, S3, S4, S5, r_idx, r_mks, ev, resultsV, resL, resV, vl, gt, st, sto, fgt, i64, subCV, fill, setCells, mkAgg, allP, frz, frz1, frzL, frzs, kill, kill1, killL, kills, bnd, unV, bsz, toPs, toP, isPure1, pureL, List.elem, List.replicate, Int.reduceLE, Int.reduceLT, ↓reduceIte, reduceCtorEq, Nat.reduceLT, Nat.reduceEqDiff, Nat.reduceAdd, Nat.reduceMul, Nat.reduceLeDiff, Nat.reduceBEq]
  refine kc_keep' ?_
  rw [rn_of rp114]
  have m1 : ((24 : Nat) : Int) * (b.length : Int) ≤ 281474976710656 := by omega
  have m2 : (b.length : Int) ≤ 9223372036854775807 := by omega
  have i0 : Int.toNat 0 = 0 := rfl
  simp only [f114, args0, S1, S2, S3, S4, S5, r_idx, r_mks, ev, resultsV, resL, resV, vl, gt, st, sto, fgt, i64, subCV, fill, setCells, mkAgg, allP, frz, frz1, frzL, frzs, kill, kill1, killL, kills, bnd, unV, bsz, toPs, toP, isPure1, pureL, List.elem, List.replicate, Int.reduceLE, Int.reduceLT, ↓reduceIte, reduceCtorEq, Nat.reduceLT, Nat.reduceEqDiff, Nat.reduceAdd, Nat.reduceMul, Nat.reduceLeDiff, Nat.reduceBEq, Int.natCast_nonneg, m1, m2, i0, Int.le_refl]
  refine loop_rule (β := Nat × Store × Nat × List CV) (fun t => ([(1, .fn 115 []), (5, .own t.2.2.1 0 t.1), (11, .p (.sl b)), (12, i64 b.length), (13, i64 t.1)], t.2.1))
    (fun t => t.1 ≤ b.length ∧ Pre σ t.2.1 ∧ Wf t.2.1 ∧ σ.length ≤ t.2.2.1 ∧ t.2.1[t.2.2.1]? = some (.kblk 1 t.2.2.2) ∧ RowsAt t.2.1 σ.length t.2.2.2 (M.take t.1)) (fun t => b.length - t.1) ((0, σ ++ [.kblk 1 []], σ.length, []) : Nat × Store × Nat × List CV) rfl rfl
    ⟨Nat.zero_le _, Pre.refl.push, hw.push rfl, Nat.le_refl _, by rw [get_app0]; rfl, .nil⟩ ?_
  rintro ⟨i, ρ, k, cs⟩ ⟨hi, hp, hwf, hb, hgl, hro⟩ ih
  simp only [] at hi hp hwf hb hgl hro ih ⊢
  have hl := h.1
  have hcl : cs.length = i := by rw [hro.len, List.length_take]; omega
  by_cases hin : (i : Int) < b.length
  · obtain ⟨q, r, h1, h2, h3, h4⟩ := h.ix (i := i) (by omega)
    have w1 : IntKind.i64.wrap ((i : Int) + 1) = ((i + 1 : Nat) : Int) := by rw [IntWalk.i64_in _ (by omega)]; omega
    simp only [S1, S2, S3, S4, S5, r_idx, r_mks, ev, resultsV, resL, resV, vl, gt, st, sto, fgt, i64, subCV, fill, setCells, mkAgg, allP, frz, frz1, frzL, frzs, kill, kill1, killL, kills, bnd, unV, bsz, toPs, toP, isPure1, pureL, List.elem, List.replicate, Int.reduceLE, Int.reduceLT, ↓reduceIte, reduceCtorEq, Nat.reduceLT, Nat.reduceEqDiff, Nat.reduceAdd, Nat.reduceMul, Nat.reduceLeDiff, Nat.reduceBEq, hin, h1, Int.natCast_nonneg, Int.toNat_natCast]
    refine kc_keep' (n115 hwf h3 h4 fun ρ1 b1 hp1 hw1 hb1 hg1 => ?_)
    have hk1 : ρ1[k]? = some (.kblk 1 cs) := by rw [hp1.get k (List.getElem?_eq_some_iff.1 hgl).1]; exact hgl
    have hc : (cs.length + [CV.own b1 0 r.length].length) * 24 ≤ 140737488355328 := by rw [hcl]; simp; omega
    have hA := fun {rp rs base d l dr ks e Q s x} => r_appk_1 (rp := rp) (rs := rs) (base := base) (d := d) (l := l) (dr := dr) (ks := ks) (e := e) (Q := Q) (a := 0) (s := s) (x := x) (xs := [.own b1 0 r.length]) hk1 hcl.symm (Nat.succ_pos 0) hc
    have hro1 : RowsAt ρ1 σ.length cs (M.take i) := hro.mono fun b es hb => by rw [hp1.get b (List.getElem?_eq_some_iff.1 hb).1]; exact hb
    have hsn : RowsAt ρ1 σ.length (cs ++ [.own b1 0 r.length]) (M.take (i + 1)) := by
      rw [take_suc h2]
      refine hro1.snoc (Nat.le_trans hp.len hb1) hg1 fun j b' n hj => ?_
      have hjl : j < (M.take i).length := by rw [← hro.len]; exact (List.getElem?_eq_some_iff.1 hj).1
      obtain ⟨b2, g1, _, g3⟩ := hro.own j (M.take i)[j] (by simp only [hjl, getElem?_pos])
      rw [hj] at g1
      cases g1
      have := (List.getElem?_eq_some_iff.1 g3).1
      omega
    simp only [S1, S2, S3, S4, S5, r_idx, r_mks, ev, resultsV, resL, resV, vl, gt, st, sto, fgt, i64, subCV, fill, setCells, mkAgg, allP, frz, frz1, frzL, frzs, kill, kill1, killL, kills, bnd, unV, bsz, toPs, toP, isPure1, pureL, List.elem, List.replicate, Int.reduceLE, Int.reduceLT, ↓reduceIte, reduceCtorEq, Nat.reduceLT, Nat.reduceEqDiff, Nat.reduceAdd, Nat.reduceMul, Nat.reduceLeDiff, Nat.reduceBEq, hA, hcl, w1]
    refine ih (i + 1, ρ1.set k .dead ++ [.kblk 1 [.own b1 0 r.length], .kblk 1 (cs ++ [.own b1 0 r.length])], ρ1.length + 1, cs ++ [.own b1 0 r.length]) _ ⟨by simp only []; omega, ((hp.trans hp1).set hb).push, ?_, ?_, ?_, ?_⟩ (by simp only []; omega) ?_
    · have hb1l := (List.getElem?_eq_some_iff.1 hg1).1
      have hz := (hw1.set (b := k) (x := .dead) rfl).push (x := .kblk 1 [.own b1 0 r.length]) (by simp [blkBelow, below1]; omega)
      have hz2 := hz.push (x := .kblk 1 (cs ++ [.own b1 0 r.length])) (by simp only [blkBelow]; exact below_owns hsn (by simp; omega))
      simpa [List.append_assoc] using hz2
    · simp only []; exact Nat.le_trans (Nat.le_trans hp.len hp1.len) (Nat.le_add_right _ _)
    · simp only []
      rw [show ρ1.length + 1 = (ρ1.set k Blk.dead).length + 1 by rw [List.length_set], get_app]; rfl
    · refine hsn.mono fun b es hb => ?_
      have hbl := (List.getElem?_eq_some_iff.1 hb).1
      rw [List.getElem?_append_left (by rw [List.length_set]; exact hbl), List.getElem?_set_ne]
      · exact hb
      · rintro rfl; rw [hk1] at hb; cases hb
    · rfl
  · obtain rfl : i = b.length := by omega
    simp only [S1, S2, S3, S4, S5, r_idx, r_mks, ev, resultsV, resL, resV, vl, gt, st, sto, fgt, i64, subCV, fill, setCells, mkAgg, allP, frz, frz1, frzL, frzs, kill, kill1, killL, kills, bnd, unV, bsz, toPs, toP, isPure1, pureL, List.elem, List.replicate, Int.reduceLE, Int.reduceLT, ↓reduceIte, reduceCtorEq, Nat.reduceLT, Nat.reduceEqDiff, Nat.reduceAdd, Nat.reduceMul, Nat.reduceLeDiff, Nat.reduceBEq, hin]
    rw [List.take_of_length_le (by omega)] at hro
    rw [hl]
    exact hQ ρ k cs hp hwf hb hgl hro

/-! ### Floor -/

/-- q and r are the floor of x by y, and what is left -/
structure Fl (x y q r : Int) : Prop where
  eq : x = q * y + r
  rest : (0 ≤ r ∧ r < y) ∨ (y < r ∧ r ≤ 0)
  le : q.natAbs ≤ x.natAbs + 1
  rle : r.natAbs < y.natAbs

theorem fl_of {n1 n2 : Bool} {A B : Nat} {x y : Int} (hx : x = if n1 = true then -(A : Int) else A) (hy : y = if n2 = true then -(B : Int) else B) (hB : B ≠ 0) :
    ∃ q0 r0 : Int, q0 = (if (!(n1 == n2)) = true then -((A / B : Nat) : Int) else ((A / B : Nat) : Int)) ∧ r0 = (if n1 = true then -((A % B : Nat) : Int) else ((A % B : Nat) : Int)) ∧ x = q0 * y + r0 ∧ q0.natAbs ≤ x.natAbs ∧ r0.natAbs ≤ x.natAbs ∧ r0.natAbs < y.natAbs ∧
      (r0.sign = 0 → Fl x y q0 r0) ∧ (r0.sign ≠ 0 → r0.sign = y.sign → Fl x y q0 r0) ∧ (r0.sign ≠ 0 → r0.sign ≠ y.sign → Fl x y (q0 - 1) (r0 + y)) := by
  have hd : (A : Int) = ((A / B : Nat) : Int) * (B : Int) + ((A % B : Nat) : Int) := by
    have := Nat.div_add_mod A B
    have h2 : (A : Int) = ((B * (A / B) + A % B : Nat) : Int) := by rw [this]
    rw [h2, Int.natCast_add, Int.natCast_mul, Int.mul_comm]
  have hm : A % B < B := Nat.mod_lt _ (Nat.pos_of_ne_zero hB)
  have hqle : A / B ≤ A := Nat.div_le_self _ _
  have hrle : A % B ≤ A := Nat.mod_le _ _
  generalize A / B = D at *
  generalize A % B = R at *
  have key : x = (if (!(n1 == n2)) = true then -(D : Int) else (D : Int)) * y + (if n1 = true then -(R : Int) else (R : Int)) := by
    rw [hx, hy]
    cases n1 <;> cases n2
    · show (A : Int) = (D : Int) * (B : Int) + (R : Int)
      exact hd
    · show (A : Int) = -(D : Int) * -(B : Int) + (R : Int)
      rw [Int.neg_mul_neg]; exact hd
    · show -(A : Int) = -(D : Int) * (B : Int) + -(R : Int)
      rw [Int.neg_mul]; omega
    · show -(A : Int) = (D : Int) * -(B : Int) + -(R : Int)
      rw [Int.mul_neg]; omega
  refine ⟨_, _, rfl, rfl, key, ?_, ?_, ?_, ?_, ?_, ?_⟩
  · rw [hx]; cases n1 <;> cases n2 <;> simp <;> omega
  · rw [hx]; cases n1 <;> simp <;> omega
  · rw [hy]; cases n1 <;> cases n2 <;> simp <;> omega
  · intro h0
    have h1 := Int.sign_eq_zero_iff_zero.1 h0
    refine ⟨key, ?_, ?_, ?_⟩
    · rw [h1]
      rw [hy]; cases n2 <;> simp <;> omega
    · rw [hx]; cases n1 <;> cases n2 <;> simp <;> omega
    · rw [h1, hy]; cases n2 <;> simp <;> omega
  · intro h0 h1
    have hR : R ≠ 0 := by rintro rfl; apply h0; cases n1 <;> rfl
    refine ⟨key, ?_, ?_, ?_⟩
    · rw [hy] at h1 ⊢
      cases n1 <;> cases n2
      · left; simp; omega
      · exfalso
        rw [Int.sign_eq_one_of_pos (by simp; omega : (0 : Int) < if false = true then -(R : Int) else R), Int.sign_eq_neg_one_of_neg (by simp; omega : (if true = true then -(B : Int) else (B : Int)) < 0)] at h1
        cases h1
      · exfalso
        rw [Int.sign_eq_neg_one_of_neg (by simp; omega : (if true = true then -(R : Int) else (R : Int)) < 0), Int.sign_eq_one_of_pos (by simp; omega : (0 : Int) < if false = true then -(B : Int) else B)] at h1
        cases h1
      · right; simp; omega
    · rw [hx]; cases n1 <;> cases n2 <;> simp <;> omega
    · rw [hy]; cases n1 <;> cases n2 <;> simp <;> omega
  · intro h0 h1
    have hR : R ≠ 0 := by rintro rfl; apply h0; cases n1 <;> rfl
    refine ⟨by rw [Int.sub_mul]; omega, ?_, ?_, ?_⟩
    · rw [hy] at h1 ⊢
      cases n1 <;> cases n2
      · exfalso
        apply h1
        rw [Int.sign_eq_one_of_pos (by simp; omega : (0 : Int) < if false = true then -(R : Int) else R), Int.sign_eq_one_of_pos (by simp; omega : (0 : Int) < if false = true then -(B : Int) else B)]
      · right; simp; omega
      · left; simp; omega
      · exfalso
        apply h1
        rw [Int.sign_eq_neg_one_of_neg (by simp; omega : (if true = true then -(R : Int) else (R : Int)) < 0), Int.sign_eq_neg_one_of_neg (by simp; omega : (if true = true then -(B : Int) else (B : Int)) < 0)]
    · rw [hx]; cases n1 <;> cases n2 <;> simp <;> omega
    · rw [hy] at h1 ⊢
      cases n1 <;> cases n2
      · exfalso
        apply h1
        rw [Int.sign_eq_one_of_pos (by simp; omega : (0 : Int) < if false = true then -(R : Int) else R), Int.sign_eq_one_of_pos (by simp; omega : (0 : Int) < if false = true then -(B : Int) else B)]
      · simp; omega
      · simp; omega
      · exfalso
        apply h1
        rw [Int.sign_eq_neg_one_of_neg (by simp; omega : (if true = true then -(R : Int) else (R : Int)) < 0), Int.sign_eq_neg_one_of_neg (by simp; omega : (if true = true then -(B : Int) else (B : Int)) < 0)]

theorem fl100 {p p' : PV} {x y : Int} (h : Nu p x) (h' : Nu p' y) (hy : y ≠ 0) : ∃ q r, Fl x y q r ∧ Pu rp 100 [p, p'] (.tup [.p (zi q), .p (zi r)]) := by
  have hx := h.sz
  have hys := h'.sz
  have k79y := (VBn.p79 h').lift base_le
  have h0' := h
  obtain ⟨n1, a, rfl, ha, hna, rfl⟩ := h
  have h'' := h'
  obtain ⟨n2, b, rfl, hb, hnb, rfl⟩ := h'
  have hb0 : val b ≠ 0 := by intro h0; apply hy; unfold iv; rw [h0]; cases n2 <;> rfl
  obtain ⟨q0, r0, eq0, er0, key, qle, rle, rlt, f1, f2, f3⟩ := fl_of (n1 := n1) (n2 := n2) (A := val a) (B := val b) (x := iv n1 a) (y := iv n2 b) rfl rfl hb0
  rw [CapN_eq] at hna hnb
  have k1 := (VBn.p135 ha hb (by omega) (by omega) hb0).lift base_le
  have hdq : (dgl (val a / val b)).length ≤ a.length := dgl_len (Nat.lt_of_le_of_lt (Nat.div_le_self _ _) (val_lt ha))
  have kq := (VBn.p107 (neg := !(n1 == n2)) (dgl_lim (val a / val b)) (by omega)).lift base_le
  simp only [val_dgl, mk_iv] at kq
  rw [← eq0] at kq
  have hqz : Sz q0 := hx.le qle
  have hrz : Sz r0 := hx.le rle
  have hmz : Sz (q0 * iv n2 b) := hx.le (by
    have e : q0 * iv n2 b = iv n1 a - r0 := by omega
    rw [e, er0]
    have hRA : val a % val b ≤ val a := Nat.mod_le _ _
    cases n1
    · show ((val a : Int) - ((val a % val b : Nat) : Int)).natAbs ≤ ((val a : Int)).natAbs
      omega
    · show (-(val a : Int) - -((val a % val b : Nat) : Int)).natAbs ≤ (-(val a : Int)).natAbs
      omega)
  have k117 := (VBn.p117 (Nu.zi hqz) h'').lift base_le
  have k60 := (VBn.p60 h0' (Nu.zi hmz)).lift base_le
  rw [show iv n1 a - q0 * iv n2 b = r0 by omega] at k60
  rw [zi_raw (x := q0)] at k117
  have k79 := (VBn.p79 (Nu.zi hrz)).lift base_le
  have ks := (VBn.p60 (Nu.zi hqz) (Nu.zi (x := 1) (Sz.small (by decide)))).lift base_le
  have ka := (VBn.p109 (Nu.zi hrz) h'').lift base_le
  have k66 := (VBn.p66 (x := 1) (by decide) (by decide)).lift base_le
  rw [zi_raw] at k79 ka
  rw [zi_raw (x := q0)] at ks
  have e0 : ((0 : Int) != 0) = false := rfl
  by_cases h0 : r0.sign = 0
  · refine ⟨q0, r0, f1 h0, ?_⟩
    refine pu_of rp100 ?_
    have e1 : (r0.sign != 0) = false := by rw [h0]; rfl
    simp only [f100, args0, S1, S2, S3, S4, S5, r_idx, r_mks, ev, resultsV, resL, resV, vl, gt, st, sto, fgt, i64, subCV, fill, setCells, mkAgg, allP, frz, frz1, frzL, frzs, kill, kill1, killL, kills, bnd, unV, bsz, toPs, toP, isPure1, pureL, List.elem, List.replicate, Int.reduceLE, Int.reduceLT, ↓reduceIte, reduceCtorEq, Nat.reduceLT, Nat.reduceEqDiff, Nat.reduceAdd, Nat.reduceMul, Nat.reduceLeDiff, Nat.reduceBEq, kp2 k1, push_sl, e0, kp2 kq, kp2 k117, kp2 k60, kp1 k79, e1]
    rw [r_nilx]
    refine ⟨by rfl, ?_⟩
    simp only [S1, S2, S3, S4, S5, r_idx, r_mks, ev, resultsV, resL, resV, vl, gt, st, sto, fgt, i64, subCV, fill, setCells, mkAgg, allP, frz, frz1, frzL, frzs, kill, kill1, killL, kills, bnd, unV, bsz, toPs, toP, isPure1, pureL, List.elem, List.replicate, Int.reduceLE, Int.reduceLT, ↓reduceIte, reduceCtorEq, Nat.reduceLT, Nat.reduceEqDiff, Nat.reduceAdd, Nat.reduceMul, Nat.reduceLeDiff, Nat.reduceBEq]
    exact back_t2 back1_p back1_p
  · have e1 : (r0.sign != 0) = true := by simp [h0]
    by_cases h1 : r0.sign = (iv n2 b).sign
    · refine ⟨q0, r0, f2 h0 h1, ?_⟩
      refine pu_of rp100 ?_
      rw [← h1] at k79y
      simp only [f100, args0, S1, S2, S3, S4, S5, r_idx, r_mks, ev, resultsV, resL, resV, vl, gt, st, sto, fgt, i64, subCV, fill, setCells, mkAgg, allP, frz, frz1, frzL, frzs, kill, kill1, killL, kills, bnd, unV, bsz, toPs, toP, isPure1, pureL, List.elem, List.replicate, Int.reduceLE, Int.reduceLT, ↓reduceIte, reduceCtorEq, Nat.reduceLT, Nat.reduceEqDiff, Nat.reduceAdd, Nat.reduceMul, Nat.reduceLeDiff, Nat.reduceBEq, kp2 k1, push_sl, e0, kp2 kq, kp2 k117, kp2 k60, kp1 k79, e1, kp1 k79y, bne_self_eq_false]
      rw [r_nilx]
      refine ⟨by rfl, ?_⟩
      simp only [S1, S2, S3, S4, S5, r_idx, r_mks, ev, resultsV, resL, resV, vl, gt, st, sto, fgt, i64, subCV, fill, setCells, mkAgg, allP, frz, frz1, frzL, frzs, kill, kill1, killL, kills, bnd, unV, bsz, toPs, toP, isPure1, pureL, List.elem, List.replicate, Int.reduceLE, Int.reduceLT, ↓reduceIte, reduceCtorEq, Nat.reduceLT, Nat.reduceEqDiff, Nat.reduceAdd, Nat.reduceMul, Nat.reduceLeDiff, Nat.reduceBEq]
      exact back_t2 back1_p back1_p
    · refine ⟨q0 - 1, r0 + iv n2 b, f3 h0 h1, ?_⟩
      refine pu_of rp100 ?_
      have e2 : (r0.sign != (iv n2 b).sign) = true := by simp [h1]
      simp only [f100, args0, S1, S2, S3, S4, S5, r_idx, r_mks, ev, resultsV, resL, resV, vl, gt, st, sto, fgt, i64, subCV, fill, setCells, mkAgg, allP, frz, frz1, frzL, frzs, kill, kill1, killL, kills, bnd, unV, bsz, toPs, toP, isPure1, pureL, List.elem, List.replicate, Int.reduceLE, Int.reduceLT, ↓reduceIte, reduceCtorEq, Nat.reduceLT, Nat.reduceEqDiff, Nat.reduceAdd, Nat.reduceMul, Nat.reduceLeDiff, Nat.reduceBEq, kp2 k1, push_sl, e0, kp2 kq, kp2 k117, kp2 k60, kp1 k79, e1, kp1 k79y, e2, kp1 k66, kp2 ks, kp2 ka]
      rw [r_nilx]
      refine ⟨by rfl, ?_⟩
      simp only [S1, S2, S3, S4, S5, r_idx, r_mks, ev, resultsV, resL, resV, vl, gt, st, sto, fgt, i64, subCV, fill, setCells, mkAgg, allP, frz, frz1, frzL, frzs, kill, kill1, killL, kills, bnd, unV, bsz, toPs, toP, isPure1, pureL, List.elem, List.replicate, Int.reduceLE, Int.reduceLT, ↓reduceIte, reduceCtorEq, Nat.reduceLT, Nat.reduceEqDiff, Nat.reduceAdd, Nat.reduceMul, Nat.reduceLeDiff, Nat.reduceBEq]
      exact back_t2 back1_p back1_p

end Go.Proofs.Ytdieenbfdeaffaa.VDd

namespace Go.Proofs.Ytdieenbfdeaffaa.VDd
open Go Vpi
open VBn hiding rp tab rp_ok all_ok mixed sim Big
set_option maxRecDepth 100000
set_option linter.unusedSimpArgs false
set_option linter.unusedVariables false

theorem rp133 : rp 133 = some f133 := rfl
theorem rp96 : rp 96 = some f96 := rfl
theorem rp97 : rp 97 = some f97 := rfl
theorem rp95 : rp 95 = some f95 := rfl

theorem p133 {a b : List Nat} (ha : Lim a) (hb : Lim b) (hna : a.length ≤ 400000000000) (hnb : b.length ≤ 400000000000) :
    Pu rp 133 [.sl (lm a), .sl (lm b)] (.p (.sl (lm (dgl (Nat.gcd (val a) (val b)))))) := by
  refine pu_of rp133 ?_
  have hda : (dgl (val a)).length ≤ a.length := dgl_len (val_lt ha)
  have hdb : (dgl (val b)).length ≤ b.length := dgl_len (val_lt hb)
  have ka := (VBn.p158 ha (by omega)).lift base_le
  have kb := (VBn.p158 hb (by omega)).lift base_le
  simp only [f133, args0, S1, S2, S3, S4, S5, r_idx, r_mks, ev, resultsV, resL, resV, vl, gt, st, sto, fgt, i64, subCV, fill, setCells, mkAgg, allP, frz, frz1, frzL, frzs, kill, kill1, killL, kills, bnd, unV, bsz, toPs, toP, isPure1, pureL, List.elem, List.replicate, Int.reduceLE, Int.reduceLT, ↓reduceIte, reduceCtorEq, Nat.reduceLT, Nat.reduceEqDiff, Nat.reduceAdd, Nat.reduceMul, Nat.reduceLeDiff, Nat.reduceBEq, kp1 ka, kp1 kb]
  refine bloop (β := Nat × Nat) (γ := Unit) (fun t => ([(5, .p (.sl (lm (dgl t.1)))), (6, .p (.sl (lm (dgl t.2))))], [])) (fun t => Nat.gcd t.1 t.2 = Nat.gcd (val a) (val b) ∧ (dgl t.1).length ≤ 400000000000 ∧ (dgl t.2).length ≤ 400000000000) (fun t => t.2)
    (fun _ => ([(5, .p (.sl (lm (dgl (Nat.gcd (val a) (val b))))))], [])) (fun _ => True) ((val a, val b) : Nat × Nat) rfl rfl ⟨rfl, by simp only []; omega, by simp only []; omega⟩ ?_ ?_
  · rintro ks' ⟨x, y⟩ ⟨hg, hx, hy⟩ ih hexit
    simp only [] at hg hx hy ih hexit ⊢
    by_cases h0 : y = 0
    · subst h0
      have hn : ¬ (((([] : List Nat).length : Nat) : Int) > 0) := by simp
      rw [Nat.gcd_zero_right] at hg
      simp only [S1, S2, S3, S4, S5, r_idx, r_mks, ev, resultsV, resL, resV, vl, gt, st, sto, fgt, i64, subCV, fill, setCells, mkAgg, allP, frz, frz1, frzL, frzs, kill, kill1, killL, kills, bnd, unV, bsz, toPs, toP, isPure1, pureL, List.elem, List.replicate, Int.reduceLE, Int.reduceLT, ↓reduceIte, reduceCtorEq, Nat.reduceLT, Nat.reduceEqDiff, Nat.reduceAdd, Nat.reduceMul, Nat.reduceLeDiff, Nat.reduceBEq, dgl_zero, lm_len, hn]
      refine hexit () _ trivial ?_
      rw [← hg]; rfl
    · have hlen := List.length_pos_iff.2 (dgl_ne h0)
      have hp : ((dgl y).length : Int) > 0 := by omega
      have hk := (VBn.p159 (dgl_lim x) (dgl_lim y) hx hy (by rw [val_dgl]; exact h0)).lift base_le
      rw [val_dgl, val_dgl] at hk
      have hr : (dgl (x % y)).length ≤ (dgl y).length := dgl_len_mono (Nat.le_of_lt (Nat.mod_lt _ (Nat.pos_of_ne_zero h0)))
      simp only [S1, S2, S3, S4, S5, r_idx, r_mks, ev, resultsV, resL, resV, vl, gt, st, sto, fgt, i64, subCV, fill, setCells, mkAgg, allP, frz, frz1, frzL, frzs, kill, kill1, killL, kills, bnd, unV, bsz, toPs, toP, isPure1, pureL, List.elem, List.replicate, Int.reduceLE, Int.reduceLT, ↓reduceIte, reduceCtorEq, Nat.reduceLT, Nat.reduceEqDiff, Nat.reduceAdd, Nat.reduceMul, Nat.reduceLeDiff, Nat.reduceBEq, lm_len, hp, kp2 hk]
      refine ih (y, x % y) _ ⟨?_, hy, by simp only []; omega⟩ (Nat.mod_lt _ (Nat.pos_of_ne_zero h0)) ?_
      · rw [← hg]; simp only []; rw [Nat.gcd_comm, ← Nat.gcd_rec, Nat.gcd_comm]
      · rfl
  · rintro ⟨⟩ -
    simp only [S1, S2, S3, S4, S5, r_idx, r_mks, ev, resultsV, resL, resV, vl, gt, st, sto, fgt, i64, subCV, fill, setCells, mkAgg, allP, frz, frz1, frzL, frzs, kill, kill1, killL, kills, bnd, unV, bsz, toPs, toP, isPure1, pureL, List.elem, List.replicate, Int.reduceLE, Int.reduceLT, ↓reduceIte, reduceCtorEq, Nat.reduceLT, Nat.reduceEqDiff, Nat.reduceAdd, Nat.reduceMul, Nat.reduceLeDiff, Nat.reduceBEq]
    rfl

theorem gcd_lt {a b M : Nat} (ha : a < M) (hb : b < M) : Nat.gcd a b < M := by
  rcases Nat.eq_zero_or_pos a with h | h
  · rw [h, Nat.gcd_zero_left]; exact hb
  · exact Nat.lt_of_le_of_lt (Nat.le_of_dvd h (Nat.gcd_dvd_left a b)) ha

theorem mk_nat {v : Nat} : mk false v = zi (v : Int) := by rw [mk_iv]; rfl

theorem p96 {p q : PV} {x y : Int} (h : Nu p x) (h' : Nu q y) : Pu rp 96 [p, q] (.p (zi ((Nat.gcd x.natAbs y.natAbs : Nat) : Int))) := by
  have hx := h.sz
  have hy := h'.sz
  obtain ⟨n1, a, rfl, ha, hna, rfl⟩ := h
  obtain ⟨n2, b, rfl, hb, hnb, rfl⟩ := h'
  refine pu_of rp96 ?_
  unfold Sz at hx hy
  rw [iv_abs] at hx hy
  rw [iv_abs, iv_abs]
  have hg : (dgl (Nat.gcd (val a) (val b))).length ≤ CapN := dgl_len (gcd_lt hx hy)
  rw [CapN_eq] at hna hnb hg
  have k1 := p133 ha hb (by omega) (by omega)
  have k2 := (VBn.p105 (neg := false) (dgl_lim (Nat.gcd (val a) (val b))) (by omega)).lift base_le
  rw [val_dgl, mk_nat] at k2
  simp only [f96, args0, S1, S2, S3, S4, S5, r_idx, r_mks, ev, resultsV, resL, resV, vl, gt, st, sto, fgt, i64, subCV, fill, setCells, mkAgg, allP, frz, frz1, frzL, frzs, kill, kill1, killL, kills, bnd, unV, bsz, toPs, toP, isPure1, pureL, List.elem, List.replicate, Int.reduceLE, Int.reduceLT, ↓reduceIte, reduceCtorEq, Nat.reduceLT, Nat.reduceEqDiff, Nat.reduceAdd, Nat.reduceMul, Nat.reduceLeDiff, Nat.reduceBEq, kp2 k1, kp2 k2]
  rfl

theorem p97 {p q : PV} {x y : Int} (h : Nu p x) (h' : Nu q y) (hy : 0 < y) (hd : y ∣ x) : Pu rp 97 [p, q] (.tup [.p (zi (x / y)), .p (.int .i64 0)]) := by
  refine pu_of rp97 ?_
  have k1 := (VBn.p134 h h' hy).lift base_le
  rw [Int.emod_eq_zero_of_dvd hd] at k1
  have k2 : Pu rp 77 [.agg [.bool (false && decide (Int.natAbs 0 ≠ 0)), .sl (lm (dgl (Int.natAbs 0)))]] (.p (.int .i64 0)) := (VBn.p77 (Nu.zi (x := 0) (Sz.small (by decide)))).lift base_le
  have e0 : ((0 : Int) != 0) = false := rfl
  obtain ⟨n1, a, rfl, ha, hna, rfl⟩ := h
  obtain ⟨n2, b, rfl, hb, hnb, rfl⟩ := h'
  simp only [f97, args0, S1, S2, S3, S4, S5, r_idx, r_mks, ev, resultsV, resL, resV, vl, gt, st, sto, fgt, i64, subCV, fill, setCells, mkAgg, allP, frz, frz1, frzL, frzs, kill, kill1, killL, kills, bnd, unV, bsz, toPs, toP, isPure1, pureL, List.elem, List.replicate, Int.reduceLE, Int.reduceLT, ↓reduceIte, reduceCtorEq, Nat.reduceLT, Nat.reduceEqDiff, Nat.reduceAdd, Nat.reduceMul, Nat.reduceLeDiff, Nat.reduceBEq, kp2 k1, e0, kp1 k2, Int.sign_zero]
  exact back_t2 back1_p back1_p
end Go.Proofs.Ytdieenbfdeaffaa.VDd

namespace Go.Proofs.Ytdieenbfdeaffaa.VDd
open Go Vpi
open VBn hiding rp tab rp_ok all_ok mixed sim Big
set_option maxRecDepth 100000
set_option linter.unusedSimpArgs false
set_option linter.unusedVariables false

theorem rp44 : rp 44 = some f44 := rfl

/-! ### what divides all -/

def gR (g : Nat) (r : List Int) : Nat := r.foldl (fun g x => Nat.gcd g x.natAbs) g
def gM (g : Nat) (M : List (List Int)) : Nat := M.foldl gR g

theorem gR_suc {g i : Nat} {r : List Int} {x : Int} (h : r[i]? = some x) : gR g (r.take (i + 1)) = Nat.gcd (gR g (r.take i)) x.natAbs := by
  unfold gR
  rw [take_suc h, List.foldl_append]; rfl
theorem gM_suc {g i : Nat} {M : List (List Int)} {r : List Int} (h : M[i]? = some r) : gM g (M.take (i + 1)) = gR (gM g (M.take i)) r := by
  unfold gM
  rw [take_suc h, List.foldl_append]; rfl

theorem gR_dvd : ∀ {r : List Int} {g : Nat}, gR g r ∣ g ∧ ∀ x, x ∈ r → gR g r ∣ x.natAbs
  | [], g => ⟨Nat.dvd_refl g, fun x h => by cases h⟩
  | y :: r, g => by
    obtain ⟨h1, h2⟩ := gR_dvd (r := r) (g := Nat.gcd g y.natAbs)
    refine ⟨Nat.dvd_trans h1 (Nat.gcd_dvd_left _ _), fun x hx => ?_⟩
    rcases List.mem_cons.1 hx with rfl | hx
    · exact Nat.dvd_trans h1 (Nat.gcd_dvd_right _ _)
    · exact h2 x hx
theorem gM_dvd : ∀ {M : List (List Int)} {g : Nat}, gM g M ∣ g ∧ ∀ r, r ∈ M → ∀ x, x ∈ r → gM g M ∣ x.natAbs
  | [], g => ⟨Nat.dvd_refl g, fun x h => by cases h⟩
  | y :: M, g => by
    obtain ⟨h1, h2⟩ := gM_dvd (M := M) (g := gR g y)
    obtain ⟨h3, h4⟩ := gR_dvd (r := y) (g := g)
    refine ⟨Nat.dvd_trans h1 h3, fun r hr x hx => ?_⟩
    rcases List.mem_cons.1 hr with rfl | hr
    · exact Nat.dvd_trans h1 (h4 x hx)
    · exact h2 r hr x hx

/-- numbers, all by one -/
def dvR (g : Int) (r : List Int) : List Int := r.map (· / g)
def dvM (g : Int) (M : List (List Int)) : List (List Int) := M.map (dvR g)
theorem dvR_len {g : Int} {r : List Int} : (dvR g r).length = r.length := by simp [dvR]
theorem dvM_len {g : Int} {M : List (List Int)} : (dvM g M).length = M.length := by simp [dvM]

theorem gR_le {M : Nat} : ∀ {r : List Int} {g : Nat}, g < M → (∀ x, x ∈ r → x.natAbs < M) → gR g r < M
  | [], g, h, _ => h
  | y :: r, g, h, hx => gR_le (r := r) (gcd_lt h (hx y (List.mem_cons_self ..))) fun x hx2 => hx x (List.mem_cons_of_mem _ hx2)

theorem gR_sz {g : Nat} {r : List Int} (hg : Sz (g : Int)) (h : ∀ x, x ∈ r → Sz x) : Sz ((gR g r : Nat) : Int) := gR_le hg h

theorem NL.mem {r : List PV} {xs : List Int} (h : NL r xs) {x : Int} (hx : x ∈ xs) : Sz x := by
  obtain ⟨i, hi⟩ := List.getElem?_of_mem hx
  have hil := (List.getElem?_eq_some_iff.1 hi).1
  obtain ⟨p, y, h1, h2, h3⟩ := h.ix (i := i) (by rw [h.1]; exact hil)
  rw [hi] at h2
  cases h2
  exact h3.sz
theorem NL.take_sz {r : List PV} {xs : List Int} (h : NL r xs) {i : Nat} : ∀ x, x ∈ xs.take i → Sz x := fun x hx => h.mem (List.mem_of_mem_take hx)

theorem gM_sz {b : List PV} {M : List (List Int)} (h : ML b M) {g : Nat} (hg : Sz (g : Int)) : ∀ {i : Nat}, i ≤ M.length → Sz ((gM g (M.take i) : Nat) : Int)
  | 0, _ => by rw [List.take_zero]; exact hg
  | i + 1, hi => by
    obtain ⟨q, r, h1, h2, h3, _⟩ := h.ix (i := i) (by rw [h.1]; omega)
    rw [gM_suc h2]
    exact gR_sz (gM_sz h hg (by omega)) fun x hx => h3.mem hx

/-- as shapes are told -/
theorem ML.mr {b : List PV} {M : List (List Int)} (h : ML b M) : MR b (fun i => (M.getD i []).length) (fun i j => (M.getD i []).getD j 0) := by
  intro i hi
  obtain ⟨q, r, h1, h2, h3, h4⟩ := h.ix hi
  have e : M.getD i [] = r := by rw [List.getD_eq_getElem?_getD, h2]; rfl
  refine ⟨q, h1, ?_, ?_, fun j hj => ?_⟩
  · simp only [e]; exact h3.1
  · simp only [e]; rw [← h3.1]; exact h4
  · obtain ⟨p, x, g1, g2, g3⟩ := h3.ix hj
    refine ⟨p, g1, ?_⟩
    simp only [e, List.getD_eq_getElem?_getD, g2]
    exact g3

def UnM (M : List (List Int)) : Prop := Uneven (fun i => (M.getD i []).length) M.length

/-- the first j done -/
def mixl {α : Type} (f : α → α) (j : Nat) (l : List α) : List α := (l.take j).map f ++ l.drop j
theorem mixl_all {α : Type} {f : α → α} {l : List α} : mixl f l.length l = l.map f := by simp [mixl]
theorem mixl_get {α : Type} {f : α → α} {j : Nat} {l : List α} {x : α} (h : l[j]? = some x) : (mixl f j l)[j]? = some x := by
  have hj := (List.getElem?_eq_some_iff.1 h).1
  unfold mixl
  rw [List.getElem?_append_right (by simp; omega), List.getElem?_drop]
  simp only [List.length_map, List.length_take, Nat.min_eq_left (Nat.le_of_lt hj), Nat.sub_self, Nat.add_zero]
  exact h
theorem mixl_set {α : Type} {f : α → α} {j : Nat} {l : List α} {x : α} (h : l[j]? = some x) : (mixl f j l).set j (f x) = mixl f (j + 1) l := by
  have hj := (List.getElem?_eq_some_iff.1 h).1
  unfold mixl
  rw [List.set_append_right _ _ (by simp; omega)]
  simp only [List.length_map, List.length_take, Nat.min_eq_left (Nat.le_of_lt hj), Nat.sub_self]
  have hd : l.drop j = x :: l.drop (j + 1) := by
    rw [List.drop_eq_getElem_cons hj]
    congr 1
    exact (List.getElem?_eq_some_iff.1 h).2
  rw [hd, List.set_cons_zero, take_suc h, List.map_append, List.append_assoc]
  rfl

theorem set_same {α : Type} {l : List α} {i : Nat} {x : α} (h : l[i]? = some x) : l.set i x = l := by
  apply List.ext_getElem?
  intro j
  by_cases hj : i = j
  · subst hj
    rw [List.getElem?_set_self (List.getElem?_eq_some_iff.1 h).1, h]
  · rw [List.getElem?_set_ne hj]

theorem updPV_zz {x y : Int} : updPV (zi x) 0 2 (zi y) = some (zi y) := updPV_mk

theorem RowsAt.set {ρ : Store} {lo i b : Nat} {cs : List CV} {M : List (List Int)} {r r' : List Int} (h : RowsAt ρ lo cs M) (hi : M[i]? = some r) (hc : cs[i]? = some (.own b 0 r.length)) (hl : r'.length = r.length) : RowsAt (ρ.set b (.prow 2 (zr r'))) lo cs (M.set i r') := by
  refine ⟨by rw [List.length_set]; exact h.len, fun j s hj => ?_, h.ne⟩
  obtain ⟨b0, g1, g2, g3⟩ := h.own i r hi
  rw [hc] at g1
  cases g1
  by_cases hij : i = j
  · subst hij
    rw [List.getElem?_set_self (List.getElem?_eq_some_iff.1 hi).1] at hj
    cases hj
    exact ⟨b, by rw [hl]; exact hc, g2, by rw [List.getElem?_set_self (List.getElem?_eq_some_iff.1 g3).1]⟩
  · rw [List.getElem?_set_ne hij] at hj
    obtain ⟨b1, k1, k2, k3⟩ := h.own j s hj
    refine ⟨b1, k1, k2, ?_⟩
    rw [List.getElem?_set_ne]
    · exact k3
    · rcases Nat.lt_or_ge i j with hlt | hge
      · exact h.ne i j b b1 _ _ hlt hc k1
      · exact (h.ne j i b1 b _ _ (by omega) k1 hc).symm

theorem RowsAt.frzL {ρ : Store} {lo : Nat} : ∀ {cs : List CV} {M : List (List Int)}, cs.length = M.length → (∀ (j : Nat) (r : List Int), M[j]? = some r → ∃ b, cs[j]? = some (.own b 0 r.length) ∧ lo ≤ b ∧ ρ[b]? = some (.prow 2 (zr r))) → frzL ρ cs = some (zm M)
  | [], [], _, _ => rfl
  | [], _ :: _, h, _ => by simp at h
  | _ :: _, [], h, _ => by simp at h
  | c :: cs, r :: M, h, hr => by
    obtain ⟨b, h1, _, h3⟩ := hr 0 r rfl
    simp at h1
    subst h1
    have ih := RowsAt.frzL (ρ := ρ) (lo := lo) (cs := cs) (M := M) (by simpa using h) fun j s hs => hr (j + 1) s hs
    simp only [Vpi.frzL, frz1_own h3 zr_len.symm, ih, Option.map_some]
    rfl

theorem killL_get {j : Nat} : ∀ {cs : List CV} {σ : Store}, (∀ c, c ∈ cs → ∀ b o n, c = .own b o n → b ≠ j) → (killL σ cs)[j]? = σ[j]?
  | [], σ, _ => rfl
  | c :: cs, σ, h => by
    show (killL (kill1 σ c) cs)[j]? = _
    rw [killL_get fun c' hc' => h c' (List.mem_cons_of_mem _ hc')]
    cases c <;> try rfl
    exact get_ne (h _ (List.mem_cons_self ..) _ _ _ rfl)

theorem killL_len : ∀ {cs : List CV} {σ : Store}, (killL σ cs).length = σ.length
  | [], σ => rfl
  | c :: cs, σ => by
    show (killL (kill1 σ c) cs).length = _
    rw [killL_len]
    cases c <;> try rfl
    exact List.length_set ..

/-- a block of another kind is none of the rows' -/
theorem RowsAt.apart {ρ : Store} {lo j s : Nat} {cs xs : List CV} {M : List (List Int)} (h : RowsAt ρ lo cs M) (hj : ρ[j]? = some (.kblk s xs)) : ∀ c, c ∈ cs → ∀ b o n, c = .own b o n → b ≠ j := by
  rintro c hc b o n rfl rfl
  obtain ⟨i, hi⟩ := List.getElem?_of_mem hc
  have hil : i < M.length := by rw [← h.len]; exact (List.getElem?_eq_some_iff.1 hi).1
  obtain ⟨b', g1, _, g3⟩ := h.own i M[i] (by simp [hil])
  rw [hi] at g1
  cases g1
  rw [hj] at g3
  cases g3

theorem RowsAt.notin {ρ : Store} {lo j s : Nat} {cs xs : List CV} {M : List (List Int)} (h : RowsAt ρ lo cs M) (hj : ρ[j]? = some (.kblk s xs)) : (cs.flatMap own0).elem j = false := by
  rw [Bool.eq_false_iff]
  intro he
  have hm := List.elem_iff.1 he
  obtain ⟨c, hc, hb⟩ := List.mem_flatMap.1 hm
  cases c <;> simp [own0] at hb
  exact h.apart hj _ hc _ _ _ rfl hb.symm

theorem zm_isSl {M : List (List Int)} : (zm M).all isSl = true := by
  rw [List.all_eq_true]
  intro x hx
  obtain ⟨r, _, rfl⟩ := List.mem_map.1 hx
  rfl

/-! ### the rounds -/

/-- the boxes stand: the argument, the answer, the divisor -/
structure Bx (A : List CV) (G : Int) (τ : Store) : Prop where
  h0 : τ[0]? = some (.kblk 2 A)
  h1 : τ[1]? = some (.kblk 2 [.p (.bool false), .nils])
  h2 : τ[2]? = some (.kblk 2 (cz G))
  wf : Wf τ

/-- in the second round: the rows too -/
structure By (A : List CV) (G : Int) (k : Nat) (cs : List CV) (lo : Nat) (M : List (List Int)) (τ : Store) : Prop where
  h0 : τ[0]? = some (.kblk 2 A)
  h1 : τ[1]? = some (.kblk 2 [.p (.bool false), .nils])
  h2 : τ[2]? = some (.kblk 2 (cz G))
  hk : τ[k]? = some (.kblk 1 cs)
  rows : RowsAt τ lo cs M

theorem n95 {c : CV} {σ : Store} {Q : CV → Store → Prop} (h : Q (.fn 132 [.ptr σ.length 0 0]) (σ ++ [.kblk 1 [c]])) (hc : (∃ l, c = .p (.sl l)) ∨ ∃ b o n, c = .own b o n) : Rn rp 95 [c] σ Q := by
  rw [rn_of rp95]
  rcases hc with ⟨v, rfl⟩ | ⟨b, o, n, rfl⟩
  · simp only [f95, args0, S1, S2, S3, S4, S5, r_idx, r_mks, ev, resultsV, resL, resV, vl, gt, st, sto, fgt, i64, subCV, fill, setCells, mkAgg, allP, frz, frz1, frzL, frzs, kill, kill1, killL, kills, bnd, unV, bsz, toPs, toP, isPure1, pureL, List.elem, List.replicate, Int.reduceLE, Int.reduceLT, ↓reduceIte, reduceCtorEq, Nat.reduceLT, Nat.reduceEqDiff, Nat.reduceAdd, Nat.reduceMul, Nat.reduceLeDiff, Nat.reduceBEq]
    exact h
  · simp only [f95, args0, S1, S2, S3, S4, S5, r_idx, r_mks, ev, resultsV, resL, resV, vl, gt, st, sto, fgt, i64, subCV, fill, setCells, mkAgg, allP, frz, frz1, frzL, frzs, kill, kill1, killL, kills, bnd, unV, bsz, toPs, toP, isPure1, pureL, List.elem, List.replicate, Int.reduceLE, Int.reduceLT, ↓reduceIte, reduceCtorEq, Nat.reduceLT, Nat.reduceEqDiff, Nat.reduceAdd, Nat.reduceMul, Nat.reduceLeDiff, Nat.reduceBEq]
    exact h

theorem e44 {b : List PV} {M : List (List Int)} {p : PV} {d : Int} (hML : ML b M) (hlb : b.length ≤ 2000000) (hd : Nu p d) (h : d ≤ 0 ∨ b.length = 0) :
    Pu rp 44 [.sl b, p] (.tup [.p (.sl []), .p (.agg [.bool false, .sl []]), .p (.int .i64 1)]) := by
  have k77 := (VBn.p77 hd).lift base_le
  obtain ⟨n1, a, rfl, ha, hna, rfl⟩ := hd
  refine pu_of rp44 ?_
  by_cases h0 : iv n1 a ≤ 0
  · have h1 : (iv n1 a).sign ≤ 0 := by
      rcases Int.lt_or_eq_of_le h0 with h2 | h2
      · rw [Int.sign_eq_neg_one_of_neg h2]; decide
      · rw [h2]; decide
    simp only [f44, args0, S1, S2, S3, S4, S5, r_idx, r_mks, ev, resultsV, resL, resV, vl, gt, st, sto, fgt, i64, subCV, fill, setCells, mkAgg, allP, frz, frz1, frzL, frzs, kill, kill1, killL, kills, bnd, unV, bsz, toPs, toP, isPure1, pureL, List.elem, List.replicate, Int.reduceLE, Int.reduceLT, ↓reduceIte, reduceCtorEq, Nat.reduceLT, Nat.reduceEqDiff, Nat.reduceAdd, Nat.reduceMul, Nat.reduceLeDiff, Nat.reduceBEq, kp1 k77, h1]
    rw [ex_frzk_n rfl]
    simp only [S1, S2, S3, S4, S5, r_idx, r_mks, ev, resultsV, resL, resV, vl, gt, st, sto, fgt, i64, subCV, fill, setCells, mkAgg, allP, frz, frz1, frzL, frzs, kill, kill1, killL, kills, bnd, unV, bsz, toPs, toP, isPure1, pureL, List.elem, List.replicate, Int.reduceLE, Int.reduceLT, ↓reduceIte, reduceCtorEq, Nat.reduceLT, Nat.reduceEqDiff, Nat.reduceAdd, Nat.reduceMul, Nat.reduceLeDiff, Nat.reduceBEq]
    rfl
  · have h1 : ¬ (iv n1 a).sign ≤ 0 := by rw [Int.sign_eq_one_of_pos (by omega)]; decide
    have h2 : ((b.length : Int) == 0) = true := by
      rw [beq_iff_eq]; omega
    simp only [f44, args0, S1, S2, S3, S4, S5, r_idx, r_mks, ev, resultsV, resL, resV, vl, gt, st, sto, fgt, i64, subCV, fill, setCells, mkAgg, allP, frz, frz1, frzL, frzs, kill, kill1, killL, kills, bnd, unV, bsz, toPs, toP, isPure1, pureL, List.elem, List.replicate, Int.reduceLE, Int.reduceLT, ↓reduceIte, reduceCtorEq, Nat.reduceLT, Nat.reduceEqDiff, Nat.reduceAdd, Nat.reduceMul, Nat.reduceLeDiff, Nat.reduceBEq, kp1 k77, h1, h2]
    rw [ex_frzk_n rfl]
    simp only [S1, S2, S3, S4, S5, r_idx, r_mks, ev, resultsV, resL, resV, vl, gt, st, sto, fgt, i64, subCV, fill, setCells, mkAgg, allP, frz, frz1, frzL, frzs, kill, kill1, killL, kills, bnd, unV, bsz, toPs, toP, isPure1, pureL, List.elem, List.replicate, Int.reduceLE, Int.reduceLT, ↓reduceIte, reduceCtorEq, Nat.reduceLT, Nat.reduceEqDiff, Nat.reduceAdd, Nat.reduceMul, Nat.reduceLeDiff, Nat.reduceBEq]
    rfl

theorem u44 {b : List PV} {M : List (List Int)} {p : PV} {d : Int} (hML : ML b M) (hlb : b.length ≤ 2000000) (hd : Nu p d) (h0 : 0 < d) (hb0 : b.length ≠ 0) (hu : UnM M) :
    Pu rp 44 [.sl b, p] (.tup [.p (.sl []), .p (.agg [.bool false, .sl []]), .p (.int .i64 8)]) := by
  have k77 := (VBn.p77 hd).lift base_le
  rw [Int.sign_eq_one_of_pos h0] at k77
  have k93 := ((VBn.p93 hML.mr hb0 hlb).1 (by rw [hML.1]; exact hu)).lift base_le
  obtain ⟨n1, a, rfl, ha, hna, rfl⟩ := hd
  refine pu_of rp44 ?_
  have h1 : ¬ (1 : Int) ≤ 0 := by decide
  have h2 : ((b.length : Int) == 0) = false := by rw [beq_eq_false_iff_ne]; omega
  have h3 : ((8 : Int) != 0) = true := rfl
  simp only [f44, args0, S1, S2, S3, S4, S5, r_idx, r_mks, ev, resultsV, resL, resV, vl, gt, st, sto, fgt, i64, subCV, fill, setCells, mkAgg, allP, frz, frz1, frzL, frzs, kill, kill1, killL, kills, bnd, unV, bsz, toPs, toP, isPure1, pureL, List.elem, List.replicate, Int.reduceLE, Int.reduceLT, ↓reduceIte, reduceCtorEq, Nat.reduceLT, Nat.reduceEqDiff, Nat.reduceAdd, Nat.reduceMul, Nat.reduceLeDiff, Nat.reduceBEq, kp1 k77, h1, h2, kp1 k93, h3]
  rw [ex_frzk_n rfl]
  simp only [S1, S2, S3, S4, S5, r_idx, r_mks, ev, resultsV, resL, resV, vl, gt, st, sto, fgt, i64, subCV, fill, setCells, mkAgg, allP, frz, frz1, frzL, frzs, kill, kill1, killL, kills, bnd, unV, bsz, toPs, toP, isPure1, pureL, List.elem, List.replicate, Int.reduceLE, Int.reduceLT, ↓reduceIte, reduceCtorEq, Nat.reduceLT, Nat.reduceEqDiff, Nat.reduceAdd, Nat.reduceMul, Nat.reduceLeDiff, Nat.reduceBEq]
  rfl

theorem p44 {b : List PV} {M : List (List Int)} {p : PV} {d : Int} (hML : ML b M) (hlb : b.length ≤ 2000000) (hd : Nu p d) (h0 : 0 < d) (hb0 : b.length ≠ 0) (hu : ¬ UnM M) :
    Pu rp 44 [.sl b, p] (.tup [.p (.sl (zm (dvM (gM d.natAbs M : Nat) M))), .p (zi (d / (gM d.natAbs M : Nat))), .p (.int .i64 0)]) := by
  have k77 := (VBn.p77 hd).lift base_le
  rw [Int.sign_eq_one_of_pos h0] at k77
  have k93 := ((VBn.p93 hML.mr hb0 hlb).2 (by rw [hML.1]; exact hu)).lift base_le
  have k94 := p94 hd
  have hds := hd.sz
  have hd' := hd
  obtain ⟨n1, a, rfl, ha, hna, hda⟩ := hd
  refine pu_of rp44 ?_
  have h1 : ¬ (1 : Int) ≤ 0 := by decide
  have h2 : ((b.length : Int) == 0) = false := by rw [beq_eq_false_iff_ne]; omega
  have h3 : ((0 : Int) != 0) = false := rfl
  simp only [f44, args0, S1, S2, S3, S4, S5, r_idx, r_mks, ev, resultsV, resL, resV, vl, gt, st, sto, fgt, i64, subCV, fill, setCells, mkAgg, allP, frz, frz1, frzL, frzs, kill, kill1, killL, kills, bnd, unV, bsz, toPs, toP, isPure1, pureL, List.elem, List.replicate, Int.reduceLE, Int.reduceLT, ↓reduceIte, reduceCtorEq, Nat.reduceLT, Nat.reduceEqDiff, Nat.reduceAdd, Nat.reduceMul, Nat.reduceLeDiff, Nat.reduceBEq, kp1 k77, h1, h2, kp1 k93, h3, kp1 k94]
  refine kc_keep' (n95 ?_ (.inl ⟨_, rfl⟩))
  simp only [S1, S2, S3, S4, S5, r_idx, r_mks, ev, resultsV, resL, resV, vl, gt, st, sto, fgt, i64, subCV, fill, setCells, mkAgg, allP, frz, frz1, frzL, frzs, kill, kill1, killL, kills, bnd, unV, bsz, toPs, toP, isPure1, pureL, List.elem, List.replicate, Int.reduceLE, Int.reduceLT, ↓reduceIte, reduceCtorEq, Nat.reduceLT, Nat.reduceEqDiff, Nat.reduceAdd, Nat.reduceMul, Nat.reduceLeDiff, Nat.reduceBEq]
  have hN : ((d.natAbs : Nat) : Int) = d := by omega
  refine x_each (c := .p (.sl b)) (n := b.length) (bx := 3) (gf := 132) rfl rfl rfl rfl (by omega) rfl rfl (fun i τ => Bx [.p (.bool n1), .p (.sl (lm a))] (gM d.natAbs (M.take i) : Nat) τ) (fun _ => False) ?_ ?_ ?_ ?_
  · refine ⟨rfl, rfl, ?_, (((Wf.nil.push (x := .kblk 2 [.p (.bool n1), .p (.sl (lm a))]) rfl).push (x := .kblk 2 [.p (.bool false), .nils]) rfl).push (x := .kblk 2 (cz d)) rfl).push (x := .kblk 1 [.p (.sl b)]) rfl⟩
    rw [List.take_zero]
    show _ = some (Blk.kblk 2 (cz ((d.natAbs : Nat) : Int)))
    rw [hN]; rfl
  · intro i τ hi hS
    obtain ⟨q, r, h4, h5, h6, h7⟩ := hML.ix hi
    refine ⟨.p (.sl q), by simp [elC, h4, PV.cells, subPV], ?_⟩
    simp only [stL, S1, S2, S3, S4, S5, r_idx, r_mks, ev, resultsV, resL, resV, vl, gt, st, sto, fgt, i64, subCV, fill, setCells, mkAgg, allP, frz, frz1, frzL, frzs, kill, kill1, killL, kills, bnd, unV, bsz, toPs, toP, isPure1, pureL, List.elem, List.replicate, Int.reduceLE, Int.reduceLT, ↓reduceIte, reduceCtorEq, Nat.reduceLT, Nat.reduceEqDiff, Nat.reduceAdd, Nat.reduceMul, Nat.reduceLeDiff, Nat.reduceBEq]
    have hG := gM_sz hML (g := d.natAbs) (by rw [hN]; exact hds) (i := i) (by rw [← hML.1]; omega)
    have hgs := gM_suc (g := d.natAbs) h5
    generalize gM d.natAbs (M.take i) = G at hS hG hgs
    refine loop_rule (β := Nat × Store) (fun t => ([(10, .ptr 2 0 0), (46, .p (.sl q)), (47, i64 q.length), (48, i64 t.1)], t.2)) (fun t => t.1 ≤ q.length ∧ Bx [.p (.bool n1), .p (.sl (lm a))] (gR G (r.take t.1) : Nat) t.2) (fun t => q.length - t.1) ((0, τ) : Nat × Store) rfl rfl ⟨Nat.zero_le _, hS⟩ ?_
    rintro ⟨j, ρ⟩ ⟨hj, hρ⟩ ih
    simp only [] at hj hρ ih ⊢
    by_cases hjn : (j : Int) < q.length
    · obtain ⟨p, x, g1, g2, g3⟩ := h6.ix (i := j) (by omega)
      have k96 := p96 (Nu.zi (gR_sz (r := r.take j) hG fun x hx => h6.take_sz x hx)) g3
      rw [Int.natAbs_natCast, ← gR_suc g2, zi_raw (x := ((gR G (r.take j) : Nat) : Int))] at k96
      obtain ⟨s1, l1, rfl⟩ := Nu.agg g3
      have w1 : IntKind.i64.wrap ((j : Int) + 1) = ((j + 1 : Nat) : Int) := by rw [IntWalk.i64_in _ (by omega)]; omega
      obtain ⟨hr0, hr1, hr2, hwf⟩ := hρ
      have e2 : ∀ l, (ρ ++ l)[2]? = some (.kblk 2 (cz (gR G (r.take j) : Nat))) := fun l => by rw [get_left (List.getElem?_eq_some_iff.1 hr2).1]; exact hr2
      have e3 : ∀ l x, (ρ ++ l).set 2 x = ρ.set 2 x ++ l := fun l x => set_left (List.getElem?_eq_some_iff.1 hr2).1
      simp only [S1, S2, S3, S4, S5, r_idx, r_mks, ev, resultsV, resL, resV, vl, gt, st, sto, fgt, i64, subCV, fill, setCells, mkAgg, allP, frz, frz1, frzL, frzs, kill, kill1, killL, kills, bnd, unV, bsz, toPs, toP, isPure1, pureL, List.elem, List.replicate, Int.reduceLE, Int.reduceLT, ↓reduceIte, reduceCtorEq, Nat.reduceLT, Nat.reduceEqDiff, Nat.reduceAdd, Nat.reduceMul, Nat.reduceLeDiff, Nat.reduceBEq, hjn, g1, Int.natCast_nonneg, Int.toNat_natCast, e2, cz, kp2 k96, e3, w1]
      refine ih (j + 1, ρ.set 2 (.kblk 2 (cz (gR G (r.take (j + 1)) : Nat))) ++ [.kblk 2 [.p (.bool s1), .p (.sl l1)]]) _ ⟨by simp only []; omega, ?_, ?_, ?_, ?_⟩ (by simp only []; omega) ?_
      · simp only []; rw [get_left (by rw [List.length_set]; exact (List.getElem?_eq_some_iff.1 hr0).1), get_ne (by decide)]; exact hr0
      · simp only []; rw [get_left (by rw [List.length_set]; exact (List.getElem?_eq_some_iff.1 hr1).1), get_ne (by decide)]; exact hr1
      · simp only []; rw [get_left (by rw [List.length_set]; exact (List.getElem?_eq_some_iff.1 hr2).1), get_self (List.getElem?_eq_some_iff.1 hr2).1]
      · exact (hwf.set rfl).push rfl
      · rfl
    · obtain rfl : j = q.length := by omega
      simp only [S1, S2, S3, S4, S5, r_idx, r_mks, ev, resultsV, resL, resV, vl, gt, st, sto, fgt, i64, subCV, fill, setCells, mkAgg, allP, frz, frz1, frzL, frzs, kill, kill1, killL, kills, bnd, unV, bsz, toPs, toP, isPure1, pureL, List.elem, List.replicate, Int.reduceLE, Int.reduceLT, ↓reduceIte, reduceCtorEq, Nat.reduceLT, Nat.reduceEqDiff, Nat.reduceAdd, Nat.reduceMul, Nat.reduceLeDiff, Nat.reduceBEq, hjn, ex_fin]
      rw [hgs]
      rw [List.take_of_length_le (by rw [h6.1]; exact Nat.le_refl _)] at hρ
      exact .inl hρ
  · intro τ hS
    rw [List.take_of_length_le (by rw [hML.1]; exact Nat.le_refl _)] at hS
    have hG := gM_sz hML (g := d.natAbs) (by rw [hN]; exact hds) (i := M.length) (Nat.le_refl _)
    rw [List.take_of_length_le (Nat.le_refl _)] at hG
    obtain ⟨hdv1, hdv2⟩ := gM_dvd (M := M) (g := d.natAbs)
    have hGp : 0 < gM d.natAbs M := Nat.pos_of_dvd_of_pos hdv1 (by omega)
    have k97d := p97 hd' (Nu.zi hG) (by omega) (Int.ofNat_dvd_left.2 hdv1)
    generalize gM d.natAbs M = G at *
    rw [zi_raw (x := (G : Int))] at k97d
    obtain ⟨hr0, hr1, hr2, hwf⟩ := hS
    simp only [S1, S2, S3, S4, S5, r_idx, r_mks, ev, resultsV, resL, resV, vl, gt, st, sto, fgt, i64, subCV, fill, setCells, mkAgg, allP, frz, frz1, frzL, frzs, kill, kill1, killL, kills, bnd, unV, bsz, toPs, toP, isPure1, pureL, List.elem, List.replicate, Int.reduceLE, Int.reduceLT, ↓reduceIte, reduceCtorEq, Nat.reduceLT, Nat.reduceEqDiff, Nat.reduceAdd, Nat.reduceMul, Nat.reduceLeDiff, Nat.reduceBEq]
    refine kc_keep' (n70 hwf hML hlb fun ρ k cs hp hwf2 hk hgk hro => ?_)
    simp only [S1, S2, S3, S4, S5, r_idx, r_mks, ev, resultsV, resL, resV, vl, gt, st, sto, fgt, i64, subCV, fill, setCells, mkAgg, allP, frz, frz1, frzL, frzs, kill, kill1, killL, kills, bnd, unV, bsz, toPs, toP, isPure1, pureL, List.elem, List.replicate, Int.reduceLE, Int.reduceLT, ↓reduceIte, reduceCtorEq, Nat.reduceLT, Nat.reduceEqDiff, Nat.reduceAdd, Nat.reduceMul, Nat.reduceLeDiff, Nat.reduceBEq]
    refine kc_keep' (n95 ?_ (.inr ⟨_, _, _, rfl⟩))
    simp only [S1, S2, S3, S4, S5, r_idx, r_mks, ev, resultsV, resL, resV, vl, gt, st, sto, fgt, i64, subCV, fill, setCells, mkAgg, allP, frz, frz1, frzL, frzs, kill, kill1, killL, kills, bnd, unV, bsz, toPs, toP, isPure1, pureL, List.elem, List.replicate, Int.reduceLE, Int.reduceLT, ↓reduceIte, reduceCtorEq, Nat.reduceLT, Nat.reduceEqDiff, Nat.reduceAdd, Nat.reduceMul, Nat.reduceLeDiff, Nat.reduceBEq]
    have hcl : cs.length = M.length := hro.len
    refine x_each (c := .own k 0 M.length) (n := M.length) (bx := ρ.length) (gf := 132) rfl rfl (by rw [get_app0]; rfl) rfl (by rw [← hML.1]; omega) rfl rfl (fun i τ' => By [.p (.bool n1), .p (.sl (lm a))] G k cs τ.length (mixl (dvR (G : Int)) i M) τ') (fun _ => False) ?_ ?_ ?_ ?_
    · have hl0 := (List.getElem?_eq_some_iff.1 hr0).1
      have hl1 := (List.getElem?_eq_some_iff.1 hr1).1
      have hl2 := (List.getElem?_eq_some_iff.1 hr2).1
      have hlp := hp.len
      refine ⟨by rw [get_left (by omega), hp.get 0 hl0]; exact hr0, by rw [get_left (by omega), hp.get 1 hl1]; exact hr1, by rw [get_left (by omega), hp.get 2 hl2]; exact hr2, by rw [get_left (List.getElem?_eq_some_iff.1 hgk).1]; exact hgk, ?_⟩
      exact hro.mono fun b es hb => by rw [get_left (List.getElem?_eq_some_iff.1 hb).1]; exact hb
    · intro i τ1 hi hB
      obtain ⟨hb0', hb1', hb2', hbk, hrs⟩ := hB
      obtain ⟨q, r, h4, h5, h6, h7⟩ := hML.ix (i := i) (by rw [hML.1]; exact hi)
      obtain ⟨br, g1, g2, g3⟩ := hrs.own i r (mixl_get h5)
      have hbl := (List.getElem?_eq_some_iff.1 g3).1
      have hql := h6.1
      refine ⟨.own br 0 r.length, ?_, ?_⟩
      · simp only [elC, bsz, hbk, subCV, hi, and_self, if_true]
        simp [g1]
      simp only [stL, S1, S2, S3, S4, S5, r_idx, r_mks, ev, resultsV, resL, resV, vl, gt, st, sto, fgt, i64, subCV, fill, setCells, mkAgg, allP, frz, frz1, frzL, frzs, kill, kill1, killL, kills, bnd, unV, bsz, toPs, toP, isPure1, pureL, List.elem, List.replicate, Int.reduceLE, Int.reduceLT, ↓reduceIte, reduceCtorEq, Nat.reduceLT, Nat.reduceEqDiff, Nat.reduceAdd, Nat.reduceMul, Nat.reduceLeDiff, Nat.reduceBEq]
      have hb2 : br ≠ 2 := by rintro rfl; rw [hb2'] at g3; cases g3
      refine loop_rule (β := Nat) (fun t => ([(10, .ptr 2 0 0), (17, .own br 0 r.length), (63, i64 r.length), (64, i64 t)], τ1.set br (.prow 2 (zr (mixl (· / (G : Int)) t r))))) (fun t => t ≤ r.length) (fun t => r.length - t) 0 rfl (set_same g3).symm (Nat.zero_le _) ?_
      intro j hj ih
      simp only [] at hj ih ⊢
      by_cases hjn : (j : Int) < r.length
      · have hjn' : j < r.length := by omega
        have hrj : r[j]? = some r[j] := by simp
        have hxm : r[j] ∈ r := List.getElem_mem _
        have k97 := p97 (Nu.zi (h6.mem hxm)) (Nu.zi hG) (by omega) (Int.ofNat_dvd_left.2 (hdv2 r (List.mem_of_getElem? h5) _ hxm))
        rw [zi_raw (x := (G : Int))] at k97
        have w1 : IntKind.i64.wrap ((j : Int) + 1) = ((j + 1 : Nat) : Int) := by rw [IntWalk.i64_in _ (by omega)]; omega
        have e1 : (τ1.set br (.prow 2 (zr (mixl (· / (G : Int)) j r))))[br]? = some (.prow 2 (zr (mixl (· / (G : Int)) j r))) := get_self hbl
        have e2 : (τ1.set br (.prow 2 (zr (mixl (· / (G : Int)) j r))))[2]? = some (.kblk 2 (cz G)) := by rw [get_ne hb2]; exact hb2'
        have e3 := zr_get (mixl_get (f := (· / (G : Int))) hrj)
        have hset : (zr (mixl (· / (G : Int)) j r)).set j (zi (r[j] / (G : Int))) = zr (mixl (· / (G : Int)) (j + 1) r) := by
          rw [← mixl_set hrj]
          unfold zr
          rw [List.map_set]
        simp only [S1, S2, S3, S4, S5, r_idx, r_mks, ev, resultsV, resL, resV, vl, gt, st, sto, fgt, i64, subCV, fill, setCells, mkAgg, allP, frz, frz1, frzL, frzs, kill, kill1, killL, kills, bnd, unV, bsz, toPs, toP, isPure1, pureL, List.elem, List.replicate, Int.reduceLE, Int.reduceLT, ↓reduceIte, reduceCtorEq, Nat.reduceLT, Nat.reduceEqDiff, Nat.reduceAdd, Nat.reduceMul, Nat.reduceLeDiff, Nat.reduceBEq, hjn, hjn', Int.natCast_nonneg, Int.toNat_natCast, e1, e3, subPV_zi, e2, cz, kp2 k97, updPV_zz, List.set_set, hset, w1]
        exact ih (j + 1) _ (by omega) (by omega) rfl
      · obtain rfl : j = r.length := by omega
        simp only [S1, S2, S3, S4, S5, r_idx, r_mks, ev, resultsV, resL, resV, vl, gt, st, sto, fgt, i64, subCV, fill, setCells, mkAgg, allP, frz, frz1, frzL, frzs, kill, kill1, killL, kills, bnd, unV, bsz, toPs, toP, isPure1, pureL, List.elem, List.replicate, Int.reduceLE, Int.reduceLT, ↓reduceIte, reduceCtorEq, Nat.reduceLT, Nat.reduceEqDiff, Nat.reduceAdd, Nat.reduceMul, Nat.reduceLeDiff, Nat.reduceBEq, hjn, ex_fin]
        have hb0 : br ≠ 0 := by rintro rfl; rw [hb0'] at g3; cases g3
        have hb1 : br ≠ 1 := by rintro rfl; rw [hb1'] at g3; cases g3
        have hbk2 : br ≠ k := by rintro rfl; rw [hbk] at g3; cases g3
        refine .inl ⟨by rw [get_ne hb0]; exact hb0', by rw [get_ne hb1]; exact hb1', by rw [get_ne hb2]; exact hb2', by rw [get_ne hbk2]; exact hbk, ?_⟩
        rw [← mixl_set h5, mixl_all]
        exact hrs.set (mixl_get h5) g1 dvR_len
    · intro τ2 hB
      rw [mixl_all] at hB
      obtain ⟨hb0', hb1', hb2', hbk, hrs⟩ := hB
      have hl1 := (List.getElem?_eq_some_iff.1 hb1').1
      have e1 : ∀ l, (τ2 ++ l)[1]? = some (.kblk 2 [.p (.bool false), .nils]) := fun l => by rw [get_left hl1]; exact hb1'
      have e3 : ∀ l x, (τ2 ++ l).set 1 x = τ2.set 1 x ++ l := fun l x => set_left hl1
      have e4 : ∀ x y : Blk, (τ2.set 1 x).set 1 y = τ2.set 1 y := fun x y => List.set_set ..
      simp only [S1, S2, S3, S4, S5, r_idx, r_mks, ev, resultsV, resL, resV, vl, gt, st, sto, fgt, i64, subCV, fill, setCells, mkAgg, allP, frz, frz1, frzL, frzs, kill, kill1, killL, kills, bnd, unV, bsz, toPs, toP, isPure1, pureL, List.elem, List.replicate, Int.reduceLE, Int.reduceLT, ↓reduceIte, reduceCtorEq, Nat.reduceLT, Nat.reduceEqDiff, Nat.reduceAdd, Nat.reduceMul, Nat.reduceLeDiff, Nat.reduceBEq, hb0', hb2', cz, kp2 k97d, e1, e3]
      have hk1 : (1 : Nat) ≠ k := by rintro rfl; rw [hb1'] at hbk; cases hbk
      have hlk := (List.getElem?_eq_some_iff.1 hbk).1
      generalize hB1 : Blk.kblk 2 [CV.p (PV.bool (decide (d / (G : Int) < 0) && decide ((d / (G : Int)).natAbs ≠ 0))), CV.p (PV.sl (lm (dgl (d / (G : Int)).natAbs)))] = B1
      have hl1' : 1 < (τ2.set 1 B1).length := by rw [List.length_set]; exact hl1
      have hk' : (τ2.set 1 B1 ++ [B1])[k]? = some (.kblk 1 cs) := by rw [get_left (by rw [List.length_set]; exact hlk), get_ne hk1]; exact hbk
      have hb1'' : (τ2.set 1 B1 ++ [B1])[1]? = some B1 := by rw [get_left hl1', get_self hl1]
      have hr' : RowsAt (τ2.set 1 B1 ++ [B1]) τ.length cs (M.map (dvR (G : Int))) := hrs.mono fun b es hb => by
        rw [get_left (by rw [List.length_set]; exact (List.getElem?_eq_some_iff.1 hb).1), get_ne]
        · exact hb
        · rintro rfl; rw [hb1'] at hb; cases hb
      generalize τ2.set 1 B1 ++ [B1] = ρ' at *
      have hap := hr'.apart hk'
      rw [ex_frzk (b := k) (o := 0) (n := M.length) rfl hk' (RowsAt.frzL hr'.len hr'.own) zm_isSl (hr'.notin hk')]
      have hg1 : ((killL ρ' cs).set k (.prow 1 (zm (M.map (dvR (G : Int))))))[1]? = some B1 := by
        rw [get_ne (Ne.symm hk1), killL_get (hr'.apart (by rw [hb1'', ← hB1]))]; exact hb1''
      have hgk : ((killL ρ' cs).set k (.prow 1 (zm (M.map (dvR (G : Int))))))[k]? = some (.prow 1 (zm (M.map (dvR (G : Int))))) := get_self (by rw [killL_len]; exact (List.getElem?_eq_some_iff.1 hk').1)
      generalize (killL ρ' cs).set k (.prow 1 (zm (M.map (dvR (G : Int))))) = ρ'' at *
      subst hB1
      have hbk1 : back1 0 ρ'' (.own k 0 M.length) = some (.p (.sl (zm (dvM (G : Int) M)))) := by
        simp only [back1, Nat.not_lt_zero, if_false, frz1_own hgk (show M.length = (zm (M.map (dvR (G : Int)))).length by rw [zm_len, List.length_map]), Option.map_some]
        rfl
      simp only [S1, S2, S3, S4, S5, r_idx, r_mks, ev, resultsV, resL, resV, vl, gt, st, sto, fgt, i64, subCV, fill, setCells, mkAgg, allP, frz, frz1, frzL, frzs, kill, kill1, killL, kills, bnd, unV, bsz, toPs, toP, isPure1, pureL, List.elem, List.replicate, Int.reduceLE, Int.reduceLT, ↓reduceIte, reduceCtorEq, Nat.reduceLT, Nat.reduceEqDiff, Nat.reduceAdd, Nat.reduceMul, Nat.reduceLeDiff, Nat.reduceBEq, hg1]
      exact back_t3 hbk1 back1_p back1_p
    · intro τ h; cases h
  · intro τ h; cases h
end Go.Proofs.Ytdieenbfdeaffaa.VDd

namespace Go.Proofs.Ytdieenbfdeaffaa.VDd
open Go Vpi
open VBn hiding rp tab rp_ok all_ok mixed sim Big
set_option maxRecDepth 100000
set_option linter.unusedSimpArgs false
set_option linter.unusedVariables false

theorem rp45 : rp 45 = some f45 := rfl

theorem Fl.div {x y q r : Int} (h : Fl x y q r) (hy : 0 < y) (hd : y ∣ x) : q = x / y := by
  obtain ⟨k, rfl⟩ := hd
  have h1 := h.eq
  have hr : r = y * (k - q) := by rw [Int.mul_sub, Int.mul_comm y q]; omega
  have h0 : k - q = 0 := by
    rcases h.rest with ⟨a, b⟩ | ⟨a, b⟩
    · rcases Int.lt_trichotomy (k - q) 0 with h2 | h2 | h2
      · have := Int.mul_neg_of_pos_of_neg hy h2; omega
      · exact h2
      · have : y * 1 ≤ y * (k - q) := Int.mul_le_mul_of_nonneg_left h2 (by omega)
        omega
    · omega
  rw [Int.mul_ediv_cancel_left _ (by omega)]
  omega

theorem d100 {p p' : PV} {x y : Int} (h : Nu p x) (h' : Nu p' y) (hy : 0 < y) (hd : y ∣ x) : ∃ r, Pu rp 100 [p, p'] (.tup [.p (zi (x / y)), .p (zi r)]) := by
  obtain ⟨q, r, h1, h2⟩ := fl100 h h' (by omega)
  rw [h1.div hy hd] at h2
  exact ⟨r, h2⟩

theorem nuD {G : Nat} (h : Sz (G : Int)) : Nu (.agg [.bool false, .sl (lm (dgl G))]) (G : Int) := by
  refine ⟨false, dgl G, rfl, dgl_lim _, dgl_len ?_, by unfold iv; rw [val_dgl]; rfl⟩
  unfold Sz at h
  simpa using h

theorem p99g {G : Nat} {p : PV} {x : Int} (hG : Sz (G : Int)) (h : Nu p x) : ∃ s l, p = .agg [.bool s, .sl (lm l)] ∧ Pu rp 99 [.sl (lm (dgl G)), .sl (lm l)] (.p (.sl (lm (dgl (Nat.gcd G x.natAbs))))) := by
  obtain ⟨s, l, rfl, hl, hn, rfl⟩ := h
  refine ⟨s, l, rfl, ?_⟩
  have hd : (dgl G).length ≤ CapN := dgl_len (by unfold Sz at hG; simpa using hG)
  rw [CapN_eq] at hn hd
  have k := (VBn.p99 (dgl_lim G) hl (by omega) (by omega)).lift base_le
  rw [val_dgl] at k
  rw [iv_abs]
  exact k

section
variable {rp : RProg} {rs : List RRes} {base : Nat} {d : Option Nat} {l : List LOp} {dr : Dr} {ks : List KI} {e : Env} {ρ : Store} {Q : CV → Store → Prop} {c : CV} {sz : Nat} {es xs : List PV}
/-- append of what bslice just laid, behind two more blocks -/
theorem r_app_2 {a a' : Blk} {s x : Opd} {bytes : Nat} (h : GL ρ sz c es) (hc : (es.length + xs.length) * bytes ≤ 140737488355328) (hs : vl e s = c) (hx : vl e x = .own (ρ.length + 2) 0 xs.length) (hz : allSz sz xs = true) :
    ExR rp rs base (⟨d, none, none, .append sz bytes s x⟩ :: l) dr ks e (ρ ++ [a, a', .prow sz xs]) Q = ExR rp rs base l dr ks (sto d (.own (ρ.length + 3) 0 (es.length + xs.length)) e) (nd ρ c ++ [a, a', .prow sz xs, .prow sz (es ++ xs)]) Q := by
  have hl : (ρ ++ [a, a']).length = ρ.length + 2 := by simp
  have := r_app (rp := rp) (rs := rs) (base := base) (d := d) (l := l) (dr := dr) (ks := ks) (e := e) (Q := Q) (s := s) (x := x) (h.left (τ := [a, a'])) hc hs (by rw [hl]; exact hx) hz
  rw [hl, nd_left h, List.append_assoc, List.append_assoc] at this
  exact this

theorem GL.kb {j s : Nat} {cs : List CV} (h : GL ρ sz c es) (hj : ρ[j]? = some (.kblk s cs)) {l : Store} : (nd ρ c ++ l)[j]? = some (.kblk s cs) := by
  have hl := (List.getElem?_eq_some_iff.1 hj).1
  rw [get_left (by rw [nd_len]; exact hl)]
  have hn := VBn.GL.nek h hj
  cases c <;> try exact hj
  exact (get_ne (hn _ _ _ rfl)).trans hj
end

theorem e45 {b : List PV} {p : PV} {d : Int} (hlb : b.length ≤ 2000000) (hd : Nu p d) (h : d ≤ 0 ∨ b.length = 0) :
    Pu rp 45 [.sl b, p] (.tup [.p (.sl []), .p (.agg [.bool false, .sl []]), .p (.int .i64 1)]) := by
  have k79 := (VBn.p79 hd).lift base_le
  obtain ⟨n1, a, rfl, ha, hna, rfl⟩ := hd
  refine pu_of rp45 ?_
  by_cases h0 : iv n1 a ≤ 0
  · have h1 : (iv n1 a).sign ≤ 0 := by
      rcases Int.lt_or_eq_of_le h0 with h2 | h2
      · rw [Int.sign_eq_neg_one_of_neg h2]; decide
      · rw [h2]; decide
    simp only [f45, args0, S1, S2, S3, S4, S5, r_idx, r_mks, ev, resultsV, resL, resV, vl, gt, st, sto, fgt, i64, subCV, fill, setCells, mkAgg, allP, frz, frz1, frzL, frzs, kill, kill1, killL, kills, bnd, unV, bsz, toPs, toP, isPure1, pureL, List.elem, List.replicate, Int.reduceLE, Int.reduceLT, ↓reduceIte, reduceCtorEq, Nat.reduceLT, Nat.reduceEqDiff, Nat.reduceAdd, Nat.reduceMul, Nat.reduceLeDiff, Nat.reduceBEq, kp1 k79, h1]
    rfl
  · have h1 : ¬ (iv n1 a).sign ≤ 0 := by rw [Int.sign_eq_one_of_pos (by omega)]; decide
    have h2 : ((b.length : Int) == 0) = true := by
      rw [beq_iff_eq]; omega
    simp only [f45, args0, S1, S2, S3, S4, S5, r_idx, r_mks, ev, resultsV, resL, resV, vl, gt, st, sto, fgt, i64, subCV, fill, setCells, mkAgg, allP, frz, frz1, frzL, frzs, kill, kill1, killL, kills, bnd, unV, bsz, toPs, toP, isPure1, pureL, List.elem, List.replicate, Int.reduceLE, Int.reduceLT, ↓reduceIte, reduceCtorEq, Nat.reduceLT, Nat.reduceEqDiff, Nat.reduceAdd, Nat.reduceMul, Nat.reduceLeDiff, Nat.reduceBEq, kp1 k79, h1, h2]
    rfl

theorem p45 {b : List PV} {M : List (List Int)} {p : PV} {d : Int} (hML : ML b M) (hlb : b.length ≤ 2000000) (hd : Nu p d) (h0 : 0 < d) (hb0 : b.length ≠ 0) {R : CV}
    (hR1 : UnM M → R = .tup [.p (.sl []), .p (.agg [.bool false, .sl []]), .p (.int .i64 8)]) (hR2 : ¬ UnM M → R = .tup [.p (.sl (zm (dvM (gM d.natAbs M : Nat) M))), .p (zi (d / (gM d.natAbs M : Nat))), .p (.int .i64 0)]) : Pu rp 45 [.sl b, p] R := by
  have k79 := (VBn.p79 hd).lift base_le
  rw [Int.sign_eq_one_of_pos h0] at k79
  have hds := hd.sz
  have hd' := hd
  have hN : ((d.natAbs : Nat) : Int) = d := by omega
  obtain ⟨n1, a, rfl, ha, hna, hda⟩ := hd
  refine pu_of rp45 ?_
  have h1 : ¬ (1 : Int) ≤ 0 := by decide
  have h2 : ((b.length : Int) == 0) = false := by rw [beq_eq_false_iff_ne]; omega
  have hna' := hna
  rw [CapN_eq] at hna'
  have k98 := (VBn.p98 ha (by omega)).lift base_le
  have hva : val a = d.natAbs := by rw [hda, iv_abs]
  rw [hva] at k98
  obtain ⟨q0, r0, f1, f2, f3, f4⟩ := hML.ix (i := 0) (by omega)
  have hM0 : (M.getD 0 []).length = q0.length := by
    rw [List.getD_eq_getElem?_getD, f2, f3.1]; rfl
  have i0 : Int.toNat 0 = 0 := rfl
  simp only [f45, args0, S1, S2, S3, S4, S5, r_idx, r_mks, ev, resultsV, resL, resV, vl, gt, st, sto, fgt, i64, subCV, fill, setCells, mkAgg, allP, frz, frz1, frzL, frzs, kill, kill1, killL, kills, bnd, unV, bsz, toPs, toP, isPure1, pureL, List.elem, List.replicate, Int.reduceLE, Int.reduceLT, ↓reduceIte, reduceCtorEq, Nat.reduceLT, Nat.reduceEqDiff, Nat.reduceAdd, Nat.reduceMul, Nat.reduceLeDiff, Nat.reduceBEq, kp1 k79, h1, h2, kp1 k98]
  refine loop_rule (β := Nat) (fun t => ([(0, .p (.sl b)), (3, .ptr 0 0 0), (5, .ptr 1 0 0), (7, .p (.sl (lm (dgl (gM d.natAbs (M.take t)))))), (8, i64 t)], [.kblk 2 [.p (.bool n1), .p (.sl (lm a))], .kblk 2 [.p (.bool false), .nils]])) (fun t => t ≤ b.length ∧ ∀ k, k < t → (M.getD k []).length = (M.getD 0 []).length) (fun t => b.length - t) 0 rfl rfl ⟨Nat.zero_le _, fun k hk => by omega⟩ ?_
  rintro i ⟨hi, hev⟩ ih
  simp only [] at hi hev ih ⊢
  by_cases hin : (i : Int) < b.length
  · obtain ⟨q, r, h4, h5, h6, h7⟩ := hML.ix (i := i) (by omega)
    have hMi : (M.getD i []).length = q.length := by
      rw [List.getD_eq_getElem?_getD, h5, h6.1]; rfl
    by_cases hne : q.length = q0.length
    · have e1 : ((q.length : Int) != (q0.length : Int)) = false := by rw [hne]; simp
      have w1 : IntKind.i64.wrap ((i : Int) + 1) = ((i + 1 : Nat) : Int) := by rw [IntWalk.i64_in _ (by omega)]; omega
      have hG := gM_sz hML (g := d.natAbs) (by rw [hN]; exact hds) (i := i) (by rw [← hML.1]; omega)
      have hgs := gM_suc (g := d.natAbs) h5
      have ih' := fun e => ih (i + 1) e ⟨by omega, fun k hk => by
        rcases Nat.lt_or_ge k i with h | h
        · exact hev k h
        · obtain rfl : k = i := by omega
          rw [hMi, hM0, hne]⟩ (by omega)
      simp only [hgs] at ih'
      generalize gM d.natAbs (M.take i) = G at hG hgs ih' ⊢
      simp only [S1, S2, S3, S4, S5, r_idx, r_mks, ev, resultsV, resL, resV, vl, gt, st, sto, fgt, i64, subCV, fill, setCells, mkAgg, allP, frz, frz1, frzL, frzs, kill, kill1, killL, kills, bnd, unV, bsz, toPs, toP, isPure1, pureL, List.elem, List.replicate, Int.reduceLE, Int.reduceLT, ↓reduceIte, reduceCtorEq, Nat.reduceLT, Nat.reduceEqDiff, Nat.reduceAdd, Nat.reduceMul, Nat.reduceLeDiff, Nat.reduceBEq, hin, h4, f1, i0, Int.natCast_nonneg, Int.toNat_natCast, e1]
      refine loop_rule (β := Nat) (fun t => ([(0, .p (.sl b)), (3, .ptr 0 0 0), (5, .ptr 1 0 0), (7, .p (.sl (lm (dgl (gR G (r.take t)))))), (8, i64 i), (9, i64 t)], [.kblk 2 [.p (.bool n1), .p (.sl (lm a))], .kblk 2 [.p (.bool false), .nils]])) (fun t => t ≤ q.length) (fun t => q.length - t) 0 rfl rfl (Nat.zero_le _) ?_
      intro j hj ih2
      simp only [] at hj ih2 ⊢
      by_cases hjn : (j : Int) < q.length
      · obtain ⟨p, x, g1, g2, g3⟩ := h6.ix (i := j) (by omega)
        obtain ⟨s1, l1, rfl, k99⟩ := p99g (gR_sz (r := r.take j) hG fun x hx => h6.take_sz x hx) g3
        rw [← gR_suc g2] at k99
        have w2 : IntKind.i64.wrap ((j : Int) + 1) = ((j + 1 : Nat) : Int) := by rw [IntWalk.i64_in _ (by omega)]; omega
        simp only [S1, S2, S3, S4, S5, r_idx, r_mks, ev, resultsV, resL, resV, vl, gt, st, sto, fgt, i64, subCV, fill, setCells, mkAgg, allP, frz, frz1, frzL, frzs, kill, kill1, killL, kills, bnd, unV, bsz, toPs, toP, isPure1, pureL, List.elem, List.replicate, Int.reduceLE, Int.reduceLT, ↓reduceIte, reduceCtorEq, Nat.reduceLT, Nat.reduceEqDiff, Nat.reduceAdd, Nat.reduceMul, Nat.reduceLeDiff, Nat.reduceBEq, hjn, h4, g1, Int.natCast_nonneg, Int.toNat_natCast, kp2 k99, w2]
        exact ih2 (j + 1) _ (by omega) (by omega) rfl
      · obtain rfl : j = q.length := by omega
        rw [List.take_of_length_le (by rw [h6.1]; exact Nat.le_refl _)]
        simp only [S1, S2, S3, S4, S5, r_idx, r_mks, ev, resultsV, resL, resV, vl, gt, st, sto, fgt, i64, subCV, fill, setCells, mkAgg, allP, frz, frz1, frzL, frzs, kill, kill1, killL, kills, bnd, unV, bsz, toPs, toP, isPure1, pureL, List.elem, List.replicate, Int.reduceLE, Int.reduceLT, ↓reduceIte, reduceCtorEq, Nat.reduceLT, Nat.reduceEqDiff, Nat.reduceAdd, Nat.reduceMul, Nat.reduceLeDiff, Nat.reduceBEq, hjn, h4, Int.natCast_nonneg, Int.toNat_natCast, w1]
        refine ih' _ ?_
        rfl
    · have e1 : ((q.length : Int) != (q0.length : Int)) = true := by simp; omega
      simp only [S1, S2, S3, S4, S5, r_idx, r_mks, ev, resultsV, resL, resV, vl, gt, st, sto, fgt, i64, subCV, fill, setCells, mkAgg, allP, frz, frz1, frzL, frzs, kill, kill1, killL, kills, bnd, unV, bsz, toPs, toP, isPure1, pureL, List.elem, List.replicate, Int.reduceLE, Int.reduceLT, ↓reduceIte, reduceCtorEq, Nat.reduceLT, Nat.reduceEqDiff, Nat.reduceAdd, Nat.reduceMul, Nat.reduceLeDiff, Nat.reduceBEq, hin, h4, f1, i0, Int.natCast_nonneg, Int.toNat_natCast, e1]
      rw [hR1 ⟨i, by rw [← hML.1]; omega, by simp only []; rw [hMi, hM0]; exact hne⟩]
      rfl
  · obtain rfl : i = b.length := by omega
    have hu : ¬ UnM M := fun ⟨k, hk, hk2⟩ => hk2 (hev k (by rw [hML.1]; exact hk))
    rw [hR2 hu]
    have hG := gM_sz hML (g := d.natAbs) (by rw [hN]; exact hds) (i := M.length) (Nat.le_refl _)
    rw [List.take_of_length_le (Nat.le_refl _)] at hG
    obtain ⟨hdv1, hdv2⟩ := gM_dvd (M := M) (g := d.natAbs)
    have hGp : 0 < gM d.natAbs M := Nat.pos_of_dvd_of_pos hdv1 (by omega)
    obtain ⟨rd, k100d⟩ := d100 hd' (nuD hG) (by omega) (Int.ofNat_dvd_left.2 hdv1)
    clear ih hR1 hR2
    rw [List.take_of_length_le (by rw [hML.1]; exact Nat.le_refl _)]
    generalize gM d.natAbs M = G at *
    simp only [S1, S2, S3, S4, S5, r_idx, r_mks, ev, resultsV, resL, resV, vl, gt, st, sto, fgt, i64, subCV, fill, setCells, mkAgg, allP, frz, frz1, frzL, frzs, kill, kill1, killL, kills, bnd, unV, bsz, toPs, toP, isPure1, pureL, List.elem, List.replicate, Int.reduceLE, Int.reduceLT, ↓reduceIte, reduceCtorEq, Nat.reduceLT, Nat.reduceEqDiff, Nat.reduceAdd, Nat.reduceMul, Nat.reduceLeDiff, Nat.reduceBEq, hin]
    refine loop_rule (β := Nat × Store × CV) (fun t => ([(0, .p (.sl b)), (3, .ptr 0 0 0), (5, .ptr 1 0 0), (7, .p (.sl (lm (dgl G)))), (10, t.2.2), (11, i64 t.1)], t.2.1)) (fun t => t.1 ≤ b.length ∧ t.2.1[0]? = some (.kblk 2 [.p (.bool n1), .p (.sl (lm a))]) ∧ t.2.1[1]? = some (.kblk 2 [.p (.bool false), .nils]) ∧ GL t.2.1 1 t.2.2 (zm (dvM (G : Int) (M.take t.1)))) (fun t => b.length - t.1) ((0, [.kblk 2 [.p (.bool n1), .p (.sl (lm a))], .kblk 2 [.p (.bool false), .nils]], .nils) : Nat × Store × CV) rfl rfl ⟨Nat.zero_le _, rfl, rfl, .nil⟩ ?_
    rintro ⟨i, ρ, c⟩ ⟨hi, hr0, hr1, hgl⟩ ih
    simp only [] at hi hr0 hr1 hgl ih ⊢
    by_cases hin : (i : Int) < b.length
    · obtain ⟨q, r, h4, h5, h6, h7⟩ := hML.ix (i := i) (by omega)
      have w1 : IntKind.i64.wrap ((i : Int) + 1) = ((i + 1 : Nat) : Int) := by rw [IntWalk.i64_in _ (by omega)]; omega
      simp only [S1, S2, S3, S4, S5, r_idx, r_mks, ev, resultsV, resL, resV, vl, gt, st, sto, fgt, i64, subCV, fill, setCells, mkAgg, allP, frz, frz1, frzL, frzs, kill, kill1, killL, kills, bnd, unV, bsz, toPs, toP, isPure1, pureL, List.elem, List.replicate, Int.reduceLE, Int.reduceLT, ↓reduceIte, reduceCtorEq, Nat.reduceLT, Nat.reduceEqDiff, Nat.reduceAdd, Nat.reduceMul, Nat.reduceLeDiff, Nat.reduceBEq, hin, h4, Int.natCast_nonneg, Int.toNat_natCast]
      refine loop_rule (β := Nat × Store × CV) (fun t => ([(0, .p (.sl b)), (3, .ptr 0 0 0), (5, .ptr 1 0 0), (7, .p (.sl (lm (dgl G)))), (10, c), (11, i64 i), (12, t.2.2), (13, i64 t.1)], t.2.1)) (fun t => t.1 ≤ q.length ∧ t.2.1[0]? = some (.kblk 2 [.p (.bool n1), .p (.sl (lm a))]) ∧ t.2.1[1]? = some (.kblk 2 [.p (.bool false), .nils]) ∧ GL t.2.1 1 c (zm (dvM (G : Int) (M.take i))) ∧ GL t.2.1 2 t.2.2 (zr (dvR (G : Int) (r.take t.1)))) (fun t => q.length - t.1) ((0, ρ, .nils) : Nat × Store × CV) rfl rfl ⟨Nat.zero_le _, hr0, hr1, hgl, .nil⟩ ?_
      rintro ⟨j, τ, cr⟩ ⟨hj, ht0, ht1, hg1, hg2⟩ ih2
      simp only [] at hj ht0 ht1 hg1 hg2 ih2 ⊢
      by_cases hjn : (j : Int) < q.length
      · obtain ⟨p, x, g1, g2, g3⟩ := h6.ix (i := j) (by omega)
        obtain ⟨rr, k100⟩ := d100 g3 (nuD hG) (by omega) (Int.ofNat_dvd_left.2 (hdv2 r (List.mem_of_getElem? h5) _ (List.mem_of_getElem? g2)))
        have w2 : IntKind.i64.wrap ((j : Int) + 1) = ((j + 1 : Nat) : Int) := by rw [IntWalk.i64_in _ (by omega)]; omega
        obtain ⟨s1, l1, rfl⟩ := Nu.agg g3
        have htl : (zr (dvR (G : Int) (r.take j))).length = j := by rw [zr_len, dvR_len, List.length_take, ← h6.1]; omega
        have hsuc : zr (dvR (G : Int) (r.take j)) ++ [zi (x / (G : Int))] = zr (dvR (G : Int) (r.take (j + 1))) := by
          rw [take_suc g2]
          simp [dvR, zr]
        have hc : ((zr (dvR (G : Int) (r.take j))).length + [zi (x / (G : Int))].length) * 32 ≤ 140737488355328 := by rw [htl]; simp; omega
        have hraw := (zi_raw (x := x / (G : Int))).symm
        simp only [S1, S2, S3, S4, S5, r_idx, r_mks, ev, resultsV, resL, resV, vl, gt, st, sto, fgt, i64, subCV, fill, setCells, mkAgg, allP, frz, frz1, frzL, frzs, kill, kill1, killL, kills, bnd, unV, bsz, toPs, toP, isPure1, pureL, List.elem, List.replicate, Int.reduceLE, Int.reduceLT, ↓reduceIte, reduceCtorEq, Nat.reduceLT, Nat.reduceEqDiff, Nat.reduceAdd, Nat.reduceMul, Nat.reduceLeDiff, Nat.reduceBEq, hjn, h4, g1, Int.natCast_nonneg, Int.toNat_natCast, kp2 k100, hraw, r_app_2 hg2 hc, hsuc, htl, w2]
        refine ih2 (j + 1, nd τ cr ++ [.kblk 2 (cz (x / (G : Int))), .kblk 2 (cz rr), .prow 2 [zi (x / (G : Int))], .prow 2 (zr (dvR (G : Int) (r.take (j + 1))))], .own (τ.length + 3) 0 (j + 1)) _ ⟨by simp only []; omega, GL.kb hg2 ht0, GL.kb hg2 ht1, ?_, ?_⟩ (by simp only []; omega) ?_
        · exact (VBn.GL.nd hg1 (VBn.GL.ne_sz hg1 hg2 (by decide))).left
        · refine .own ?_ (by rw [zr_len, dvR_len, List.length_take, ← h6.1]; omega)
          simp only []
          rw [show τ.length + 3 = (nd τ cr).length + 3 by rw [nd_len], get_app]; rfl
        · rfl
      · obtain rfl : j = q.length := by omega
        rw [List.take_of_length_le (by rw [h6.1]; exact Nat.le_refl _)] at hg2
        have hGd := VBn.GL.nd hg1 (VBn.GL.ne_sz hg1 hg2 (by decide))
        have htl : (zm (dvM (G : Int) (M.take i))).length = i := by rw [zm_len, dvM_len, List.length_take, ← hML.1]; omega
        have hsuc : zm (dvM (G : Int) (M.take i)) ++ [.sl (zr (dvR (G : Int) r))] = zm (dvM (G : Int) (M.take (i + 1))) := by
          rw [take_suc h5]
          simp [dvM, zm]
        have hc : ((zm (dvM (G : Int) (M.take i))).length + [PV.sl (zr (dvR (G : Int) r))].length) * 24 ≤ 140737488355328 := by rw [htl]; simp; omega
        have hf : frzs τ [cr] = some [.sl (zr (dvR (G : Int) r))] := by simp only [frzs, hg2.frz, Option.map_some]
        have hkl : kills τ [cr] = nd τ cr := hg2.kill
        simp only [S1, S2, S3, S4, S5, r_idx, r_mks, ev, resultsV, resL, resV, vl, gt, st, sto, fgt, i64, subCV, fill, setCells, mkAgg, allP, bnd, unV, bsz, toPs, toP, isPure1, pureL, List.elem, List.replicate, Int.reduceLE, Int.reduceLT, ↓reduceIte, reduceCtorEq, Nat.reduceLT, Nat.reduceEqDiff, Nat.reduceAdd, Nat.reduceMul, Nat.reduceLeDiff, Nat.reduceBEq, hjn, h4, Int.natCast_nonneg, Int.toNat_natCast, hf, hkl, r_app hGd hc, hsuc, htl, w1]
        have hkb : ∀ (j : Nat) (cs : List CV) (l : Store), τ[j]? = some (.kblk 2 cs) → (nd (nd τ cr) c ++ l)[j]? = some (.kblk 2 cs) := fun j cs l hj => by
          have := GL.kb hg2 hj (l := [])
          rw [List.append_nil] at this
          exact GL.kb hGd this
        refine ih (i + 1, nd (nd τ cr) c ++ [.prow 1 [.sl (zr (dvR (G : Int) r))], .prow 1 (zm (dvM (G : Int) (M.take (i + 1))))], .own ((nd τ cr).length + 1) 0 (i + 1)) _ ⟨by simp only []; omega, hkb _ _ _ ht0, hkb _ _ _ ht1, ?_⟩ (by simp only []; omega) ?_
        · exact GL.new2 (by rw [zm_len, dvM_len, List.length_take, ← hML.1]; omega) rfl
        · rfl
    · obtain rfl : i = b.length := by omega
      rw [List.take_of_length_le (by rw [hML.1]; exact Nat.le_refl _)] at hgl
      have hl1 := (List.getElem?_eq_some_iff.1 hr1).1
      have e1 : ∀ l, (ρ ++ l)[1]? = some (.kblk 2 [.p (.bool false), .nils]) := fun l => by rw [get_left hl1]; exact hr1
      have e3 : ∀ l x, (ρ ++ l).set 1 x = ρ.set 1 x ++ l := fun l x => set_left hl1
      have e4 : ∀ x l, (ρ.set 1 x ++ l)[1]? = some x := fun x l => by rw [get_left (by rw [List.length_set]; exact hl1), get_self hl1]
      simp only [S1, S2, S3, S4, S5, r_idx, r_mks, ev, resultsV, resL, resV, vl, gt, st, sto, fgt, i64, subCV, fill, setCells, mkAgg, allP, frz, frz1, frzL, frzs, kill, kill1, killL, kills, bnd, unV, bsz, toPs, toP, isPure1, pureL, List.elem, List.replicate, Int.reduceLE, Int.reduceLT, ↓reduceIte, reduceCtorEq, Nat.reduceLT, Nat.reduceEqDiff, Nat.reduceAdd, Nat.reduceMul, Nat.reduceLeDiff, Nat.reduceBEq, hin, hr0, kp2 k100d, e1, e3, e4]
      exact back_t3 (GL.left (hgl.set hr1)).back1 back1_p back1_p

/-! ### comparison, awake -/

theorem rp47 : rp 47 = some f47 := rfl
theorem rp101 : rp 101 = some f101 := rfl
theorem rp46 : rp 46 = some f46 := rfl
theorem rp11 : rp 11 = some f11 := rfl

theorem p47 {s : Bool} {l : List Nat} (hl : l.length ≤ 1000000000000) : Pu rp 47 [.agg [.bool s, .sl (lm l)], .agg [.bool s, .sl (lm l)]] (.p (.bool true)) := by
  refine pu_of rp47 ?_
  simp only [f47, args0, S1, S2, S3, S4, S5, r_idx, r_mks, ev, resultsV, resL, resV, vl, gt, st, sto, fgt, i64, subCV, fill, setCells, mkAgg, allP, frz, frz1, frzL, frzs, kill, kill1, killL, kills, bnd, unV, bsz, toPs, toP, isPure1, pureL, List.elem, List.replicate, Int.reduceLE, Int.reduceLT, ↓reduceIte, reduceCtorEq, Nat.reduceLT, Nat.reduceEqDiff, Nat.reduceAdd, Nat.reduceMul, Nat.reduceLeDiff, Nat.reduceBEq, lm_len, bne_self_eq_false, Bool.not_true]
  refine loop_rule (β := Nat) (fun t => ([(2, .ptr 0 0 0), (3, .ptr 1 0 0), (5, i64 t)], [.kblk 2 [.p (.bool s), .p (.sl (lm l))], .kblk 2 [.p (.bool s), .p (.sl (lm l))]])) (fun t => t ≤ l.length) (fun t => l.length - t) 0 rfl rfl (Nat.zero_le _) ?_
  intro i hi ih
  by_cases hin : (i : Int) < l.length
  · have hin' : i < l.length := by omega
    have w1 : IntKind.i64.wrap ((i : Int) + 1) = ((i + 1 : Nat) : Int) := by rw [IntWalk.i64_in _ (by omega)]; omega
    simp only [S1, S2, S3, S4, S5, r_idx, r_mks, ev, resultsV, resL, resV, vl, gt, st, sto, fgt, i64, subCV, fill, setCells, mkAgg, allP, frz, frz1, frzL, frzs, kill, kill1, killL, kills, bnd, unV, bsz, toPs, toP, isPure1, pureL, List.elem, List.replicate, Int.reduceLE, Int.reduceLT, ↓reduceIte, reduceCtorEq, Nat.reduceLT, Nat.reduceEqDiff, Nat.reduceAdd, Nat.reduceMul, Nat.reduceLeDiff, Nat.reduceBEq, lm_len, hin, lm_get hin', Int.natCast_nonneg, Int.toNat_natCast, bne_self_eq_false, w1]
    exact ih (i + 1) _ (by omega) (by omega) rfl
  · simp only [S1, S2, S3, S4, S5, r_idx, r_mks, ev, resultsV, resL, resV, vl, gt, st, sto, fgt, i64, subCV, fill, setCells, mkAgg, allP, frz, frz1, frzL, frzs, kill, kill1, killL, kills, bnd, unV, bsz, toPs, toP, isPure1, pureL, List.elem, List.replicate, Int.reduceLE, Int.reduceLT, ↓reduceIte, reduceCtorEq, Nat.reduceLT, Nat.reduceEqDiff, Nat.reduceAdd, Nat.reduceMul, Nat.reduceLeDiff, Nat.reduceBEq, lm_len, hin]
    rfl

theorem p47z {x : Int} (h : Sz x) : Pu rp 47 [zi x, zi x] (.p (.bool true)) := by
  have hdl : (dgl x.natAbs).length ≤ 1000000000000 := by
    have := dgl_len (show x.natAbs < LB ^ CapN from h)
    rw [CapN_eq] at this
    omega
  exact p47 (s := decide (x < 0) && decide (x.natAbs ≠ 0)) hdl

theorem p101 {r : List Int} (hr : r.length ≤ 2000000) (hs : SzL r) : Pu rp 101 [.sl (zr r), .sl (zr r)] (.p (.bool true)) := by
  refine pu_of rp101 ?_
  simp only [f101, args0, S1, S2, S3, S4, S5, r_idx, r_mks, ev, resultsV, resL, resV, vl, gt, st, sto, fgt, i64, subCV, fill, setCells, mkAgg, allP, frz, frz1, frzL, frzs, kill, kill1, killL, kills, bnd, unV, bsz, toPs, toP, isPure1, pureL, List.elem, List.replicate, Int.reduceLE, Int.reduceLT, ↓reduceIte, reduceCtorEq, Nat.reduceLT, Nat.reduceEqDiff, Nat.reduceAdd, Nat.reduceMul, Nat.reduceLeDiff, Nat.reduceBEq, bne_self_eq_false, zr_len]
  refine loop_rule (β := Nat) (fun t => ([(0, .p (.sl (zr r))), (1, .p (.sl (zr r))), (5, i64 t)], [])) (fun t => t ≤ r.length) (fun t => r.length - t) 0 rfl rfl (Nat.zero_le _) ?_
  intro i hi ih
  by_cases hin : (i : Int) < r.length
  · have hin' : i < r.length := by omega
    have w1 : IntKind.i64.wrap ((i : Int) + 1) = ((i + 1 : Nat) : Int) := by rw [IntWalk.i64_in _ (by omega)]; omega
    have hri : r[i]? = some r[i] := by simp
    have hg := zr_get hri
    have hz : Sz r[i] := hs i _ hri
    have k68 := (VBn.p68' (Nu.zi hz)).lift base_le
    have k47 := p47z hz
    simp only [S1, S2, S3, S4, S5, r_idx, r_mks, ev, resultsV, resL, resV, vl, gt, st, sto, fgt, i64, subCV, fill, setCells, mkAgg, allP, frz, frz1, frzL, frzs, kill, kill1, killL, kills, bnd, unV, bsz, toPs, toP, isPure1, pureL, List.elem, List.replicate, Int.reduceLE, Int.reduceLT, ↓reduceIte, reduceCtorEq, Nat.reduceLT, Nat.reduceEqDiff, Nat.reduceAdd, Nat.reduceMul, Nat.reduceLeDiff, Nat.reduceBEq, zr_len, hin, hg, Int.natCast_nonneg, Int.toNat_natCast, subPV_zi, kp1 k68, kp2 k47, Bool.not_true, w1]
    exact ih (i + 1) _ (by omega) (by omega) rfl
  · simp only [S1, S2, S3, S4, S5, r_idx, r_mks, ev, resultsV, resL, resV, vl, gt, st, sto, fgt, i64, subCV, fill, setCells, mkAgg, allP, frz, frz1, frzL, frzs, kill, kill1, killL, kills, bnd, unV, bsz, toPs, toP, isPure1, pureL, List.elem, List.replicate, Int.reduceLE, Int.reduceLT, ↓reduceIte, reduceCtorEq, Nat.reduceLT, Nat.reduceEqDiff, Nat.reduceAdd, Nat.reduceMul, Nat.reduceLeDiff, Nat.reduceBEq, zr_len, hin]
    rfl

theorem p46 {M : List (List Int)} (hM : M.length ≤ 2000000) (h : ∀ (i : Nat) (r : List Int), M[i]? = some r → r.length ≤ 2000000 ∧ SzL r) : Pu rp 46 [.sl (zm M), .sl (zm M)] (.p (.bool true)) := by
  refine pu_of rp46 ?_
  simp only [f46, args0, S1, S2, S3, S4, S5, r_idx, r_mks, ev, resultsV, resL, resV, vl, gt, st, sto, fgt, i64, subCV, fill, setCells, mkAgg, allP, frz, frz1, frzL, frzs, kill, kill1, killL, kills, bnd, unV, bsz, toPs, toP, isPure1, pureL, List.elem, List.replicate, Int.reduceLE, Int.reduceLT, ↓reduceIte, reduceCtorEq, Nat.reduceLT, Nat.reduceEqDiff, Nat.reduceAdd, Nat.reduceMul, Nat.reduceLeDiff, Nat.reduceBEq, bne_self_eq_false, zm_len]
  refine loop_rule (β := Nat) (fun t => ([(0, .p (.sl (zm M))), (1, .p (.sl (zm M))), (5, i64 t)], [])) (fun t => t ≤ M.length) (fun t => M.length - t) 0 rfl rfl (Nat.zero_le _) ?_
  intro i hi ih
  by_cases hin : (i : Int) < M.length
  · have hin' : i < M.length := by omega
    have w1 : IntKind.i64.wrap ((i : Int) + 1) = ((i + 1 : Nat) : Int) := by rw [IntWalk.i64_in _ (by omega)]; omega
    have hri : M[i]? = some M[i] := by simp
    have hg := zm_get hri
    have k101 := p101 (h i _ hri).1 (h i _ hri).2
    simp only [S1, S2, S3, S4, S5, r_idx, r_mks, ev, resultsV, resL, resV, vl, gt, st, sto, fgt, i64, subCV, fill, setCells, mkAgg, allP, frz, frz1, frzL, frzs, kill, kill1, killL, kills, bnd, unV, bsz, toPs, toP, isPure1, pureL, List.elem, List.replicate, Int.reduceLE, Int.reduceLT, ↓reduceIte, reduceCtorEq, Nat.reduceLT, Nat.reduceEqDiff, Nat.reduceAdd, Nat.reduceMul, Nat.reduceLeDiff, Nat.reduceBEq, zm_len, hin, hg, Int.natCast_nonneg, Int.toNat_natCast, kp2 k101, Bool.not_true, w1]
    exact ih (i + 1) _ (by omega) (by omega) rfl
  · simp only [S1, S2, S3, S4, S5, r_idx, r_mks, ev, resultsV, resL, resV, vl, gt, st, sto, fgt, i64, subCV, fill, setCells, mkAgg, allP, frz, frz1, frzL, frzs, kill, kill1, killL, kills, bnd, unV, bsz, toPs, toP, isPure1, pureL, List.elem, List.replicate, Int.reduceLE, Int.reduceLT, ↓reduceIte, reduceCtorEq, Nat.reduceLT, Nat.reduceEqDiff, Nat.reduceAdd, Nat.reduceMul, Nat.reduceLeDiff, Nat.reduceBEq, zm_len, hin]
    rfl

def isTrue : Option (CV × Store) → Bool
  | some (.p (.bool b), _) => b
  | _ => false

theorem runs48 : isTrue (runF rp 3000 48 [] []) = true := by kernel_rfl

theorem isTrue_eq {x : Option (CV × Store)} (h : isTrue x = true) : ∃ ρ, x = some (.p (.bool true), ρ) := by
  unfold isTrue at h
  split at h
  · subst h; exact ⟨_, rfl⟩
  · cases h

theorem p48 : Pu rp 48 [] (.p (.bool true)) := by
  obtain ⟨ρ, h⟩ := isTrue_eq runs48
  exact ⟨3000, _, h, rfl⟩

/-! ### the law -/

theorem sz_div {x : Int} {g : Nat} (h : Sz x) (hg : 0 < g) : Sz (x / (g : Int)) := h.le (by
  have h2 := Int.natAbs_ediv_le_natAbs x (g : Int)
  exact h2)

theorem p11 {b : List PV} {M : List (List Int)} {p : PV} {d : Int} (hML : ML b M) (hlb : b.length ≤ 2000000) (hd : Nu p d) : Pu rp 11 [.sl b, p] (.p (.bool true)) := by
  have hlM : M.length ≤ 2000000 := by rw [← hML.1]; exact hlb
  have key : ∃ L s c, Pu rp 44 [.sl b, p] (.tup [.p (.sl (zm L)), .p (zi s), .p (.int .i64 c)]) ∧ Pu rp 45 [.sl b, p] (.tup [.p (.sl (zm L)), .p (zi s), .p (.int .i64 c)]) ∧ L.length ≤ 2000000 ∧ (∀ (i : Nat) (r : List Int), L[i]? = some r → r.length ≤ 2000000 ∧ SzL r) ∧ Sz s := by
    have s0 : Sz 0 := Sz.small (by decide)
    have nilL : ∀ (i : Nat) (r : List Int), ([] : List (List Int))[i]? = some r → r.length ≤ 2000000 ∧ SzL r := fun i r h => by simp at h
    by_cases h0 : d ≤ 0 ∨ b.length = 0
    · exact ⟨[], 0, 1, by rw [zi_zero]; exact e44 hML hlb hd h0, by rw [zi_zero]; exact e45 hlb hd h0, Nat.zero_le _, nilL, s0⟩
    · by_cases hu : UnM M
      · exact ⟨[], 0, 8, by rw [zi_zero]; exact u44 hML hlb hd (by omega) (by omega) hu, by rw [zi_zero]; exact p45 hML hlb hd (by omega) (by omega) (fun _ => rfl) (fun h => absurd hu h), Nat.zero_le _, nilL, s0⟩
      · obtain ⟨hdv1, _⟩ := gM_dvd (M := M) (g := d.natAbs)
        have hGp : 0 < gM d.natAbs M := Nat.pos_of_dvd_of_pos hdv1 (by omega)
        refine ⟨_, _, 0, p44 hML hlb hd (by omega) (by omega) hu, p45 hML hlb hd (by omega) (by omega) (fun h => absurd h hu) (fun _ => rfl), by rw [dvM_len]; exact hlM, fun i r hr => ?_, sz_div hd.sz hGp⟩
        unfold dvM at hr
        rw [List.getElem?_map, Option.map_eq_some_iff] at hr
        obtain ⟨r', hr', rfl⟩ := hr
        obtain ⟨q, r2, h1, h2, h3, h4⟩ := hML.ix (i := i) (by rw [hML.1]; exact (List.getElem?_eq_some_iff.1 hr').1)
        rw [hr'] at h2
        cases h2
        refine ⟨by rw [dvR_len, ← h3.1]; exact h4, fun j x hx => ?_⟩
        unfold dvR at hx
        rw [List.getElem?_map, Option.map_eq_some_iff] at hx
        obtain ⟨y, hy, rfl⟩ := hx
        exact sz_div (h3.mem (List.mem_of_getElem? hy)) hGp
  obtain ⟨L, s, c, k44, k45, hL1, hL2, hs⟩ := key
  have k46 := p46 hL1 hL2
  have k47 := p47z hs
  rw [zi_raw (x := s)] at k47
  obtain ⟨s1, l1, rfl⟩ := Nu.agg hd
  refine pu_of rp11 ?_
  simp only [f11, args0, S1, S2, S3, S4, S5, r_idx, r_mks, ev, resultsV, resL, resV, vl, gt, st, sto, fgt, i64, subCV, fill, setCells, mkAgg, allP, frz, frz1, frzL, frzs, kill, kill1, killL, kills, bnd, unV, bsz, toPs, toP, isPure1, pureL, List.elem, List.replicate, Int.reduceLE, Int.reduceLT, ↓reduceIte, reduceCtorEq, Nat.reduceLT, Nat.reduceEqDiff, Nat.reduceAdd, Nat.reduceMul, Nat.reduceLeDiff, Nat.reduceBEq, kp2 k44, kp2 k45, kp2 k46, kp2 k47, kp0 p48, beq_self_eq_true]
  rfl
end Go.Proofs.Ytdieenbfdeaffaa.VDd

namespace Go.Proofs.Ytdieenbfdeaffaa.VDd
open Go Vpi
open VBn hiding rp tab rp_ok all_ok mixed sim Big
set_option maxRecDepth 100000
set_option linter.unusedSimpArgs false
set_option linter.unusedVariables false

/-- rows of numbers -/
def RowN (r : List PV) : Prop := r.length ≤ 2000000 ∧ ∀ j, j < r.length → ∃ p x, r[j]? = some p ∧ Nu p x
def MatN (b : List PV) : Prop := b.length ≤ 2000000 ∧ ∀ i, i < b.length → ∃ r, b[i]? = some (.sl r) ∧ RowN r

theorem RowN.list {r : List PV} (h : RowN r) : ∃ xs, NL r xs := by
  have key : ∀ j : Nat, ∃ x : Int, ∀ p, r[j]? = some p → Nu p x := fun j => by
    by_cases hj : j < r.length
    · obtain ⟨p, x, h1, h2⟩ := h.2 j hj
      exact ⟨x, fun p' hp => by rw [h1] at hp; cases hp; exact h2⟩
    · exact ⟨0, fun p' hp => absurd (List.getElem?_eq_some_iff.1 hp).1 hj⟩
  obtain ⟨f, hf⟩ : ∃ f : Nat → Int, ∀ j p, r[j]? = some p → Nu p (f j) := ⟨fun j => Classical.choose (key j), fun j => Classical.choose_spec (key j)⟩
  refine ⟨(List.range r.length).map f, by simp, fun i p x hp hx => ?_⟩
  have hi := (List.getElem?_eq_some_iff.1 hp).1
  have h2 := hf i p hp
  simp [hi] at hx
  subst hx
  exact h2

theorem MatN.ml {b : List PV} (h : MatN b) : ∃ M, ML b M := by
  have key : ∀ i : Nat, ∃ xs : List Int, ∀ p, b[i]? = some p → ∃ q, p = .sl q ∧ NL q xs ∧ q.length ≤ 2000000 := fun i => by
    by_cases hi : i < b.length
    · obtain ⟨r, h1, h2⟩ := h.2 i hi
      obtain ⟨xs, h3⟩ := h2.list
      exact ⟨xs, fun p hp => by rw [h1] at hp; cases hp; exact ⟨r, rfl, h3, h2.1⟩⟩
    · exact ⟨[], fun p' hp => absurd (List.getElem?_eq_some_iff.1 hp).1 hi⟩
  obtain ⟨f, hf⟩ : ∃ f : Nat → List Int, ∀ j p, b[j]? = some p → ∃ q, p = .sl q ∧ NL q (f j) ∧ q.length ≤ 2000000 := ⟨fun j => Classical.choose (key j), fun j => Classical.choose_spec (key j)⟩
  refine ⟨(List.range b.length).map f, by simp, fun i p r hp hr => ?_⟩
  have hi := (List.getElem?_eq_some_iff.1 hp).1
  have h2 := hf i p hp
  simp [hi] at hr
  subst hr
  exact h2

theorem num_of {L n : Nat} {qs : List PV} (hL : L ≤ 1048576) (h : shpB Try.prog L (n + 3) 53 qs) : ∃ x c, Nu (.agg qs) x ∧ c + 8 ≤ CapN ∧ x.natAbs < LB ^ c := by
  obtain ⟨a, r, rfl, ha, c, r, rfl, hc, rfl⟩ := shpB_struct Try.underlying53 h
  obtain ⟨s, rfl⟩ := shpB_bool Try.underlying4 ha
  obtain ⟨us, rfl, hl, hu⟩ := shpB_slice Try.underlying51 hc
  have hlm : ∃ l : List Nat, us = lm l ∧ Lim l := by
    clear hl ha hc h
    induction us with
    | nil => exact ⟨[], rfl, fun x hx => by cases hx⟩
    | cons u us ih =>
      obtain ⟨l, rfl, h2⟩ := ih fun y hy => hu y (List.mem_cons_of_mem _ hy)
      obtain ⟨q, rfl, hq⟩ := hu u (List.mem_cons_self ..)
      obtain ⟨i, rfl, hw⟩ := shpB_int Try.underlying115 hq
      have hw2 : (0 : Int) ≤ i ∧ i ≤ 4294967295 := by
        simp only [Lit.wf, Bool.and_eq_true, decide_eq_true_eq] at hw
        exact hw
      refine ⟨i.toNat :: l, ?_, ?_⟩
      · have : ofCells (isSt Try.prog 115) [PV.int .u32 i] = .int .u32 i := by
          have e : isSt Try.prog 115 = false := by unfold isSt; rw [Try.underlying115]
          rw [e]; rfl
        rw [this, lm_cons, Int.toNat_of_nonneg hw2.1]
      · intro x hx
        rcases List.mem_cons.1 hx with rfl | hx
        · unfold LB; omega
        · exact h2 x hx
  obtain ⟨l, rfl, hlim⟩ := hlm
  rw [lm_len] at hl
  refine ⟨iv s l, l.length, ⟨s, l, ?_, hlim, ?_, rfl⟩, ?_, ?_⟩
  · simp
  · rw [CapN_eq]; omega
  · rw [CapN_eq]; omega
  · rw [iv_abs]
    exact val_lt hlim

theorem mat_of {L n : Nat} {q : PV} (hL : L ≤ 1048576) (h : shpB Try.prog L (n + 5) 39 [q]) : ∃ b, q = .sl b ∧ MatN b := by
  obtain ⟨b, hq, hl, hb⟩ := shpB_slice Try.underlying39 h
  cases hq
  refine ⟨b, rfl, by omega, fun i hi => ?_⟩
  obtain ⟨qs, h1, h2⟩ := hb b[i] (List.getElem_mem _)
  obtain ⟨r, rfl, hrl, hr⟩ := shpB_slice Try.underlying59 h2
  have e1 : ofCells (isSt Try.prog 59) [PV.sl r] = .sl r := by
    have e : isSt Try.prog 59 = false := by unfold isSt; rw [Try.underlying59]
    rw [e]; rfl
  rw [e1] at h1
  refine ⟨r, by rw [← h1]; simp, by omega, fun j hj => ?_⟩
  obtain ⟨qs, k1, k2⟩ := hr r[j] (List.getElem_mem _)
  obtain ⟨x, _, hx, _⟩ := num_of hL k2
  have e2 : ofCells (isSt Try.prog 53) qs = .agg qs := by
    have e : isSt Try.prog 53 = true := by unfold isSt; rw [Try.underlying53]
    rw [e]; rfl
  rw [e2] at k1
  exact ⟨.agg qs, x, by rw [← k1]; simp, hx⟩

theorem row11 (q : PV) (w : shpB Try.prog 1048576 8 39 [q]) (qs : List PV) (w2 : shpB Try.prog 1048576 8 53 qs) : Pu rp 11 [q, .agg qs] (.p (.bool true)) := by
  obtain ⟨b, rfl, hb⟩ := mat_of (Nat.le_refl _) w
  obtain ⟨k, d, hk, hd, hk2⟩ := num_of (Nat.le_refl _) w2
  obtain ⟨M, hM⟩ := hb.ml
  exact p11 hM hb.1 hk
end Go.Proofs.Ytdieenbfdeaffaa.VDd

namespace Go.Proofs.Ytdieenbfdeaffaa.Rbulk
open Go
set_option linter.unusedVariables false

theorem one_le {H : Type} (d : DataW H) : 1 ≤ Rows.uptoBulk d := by
  cases d with
  | lit l => cases l <;> simp [Rows.uptoBulk]
  | _ => simp [Rows.uptoBulk]

theorem part_le {H : Type} {d : DataW H} {l : List (DataW H)} (h : d ∈ l) : Rows.uptoBulk d ≤ Rows.uptoBulkAll l := by
  induction l with
  | nil => cases h
  | cons x r ih =>
    simp only [Rows.uptoBulkAll]
    rcases List.mem_cons.1 h with rfl | h
    · omega
    · have := ih h; omega

theorem length_le {H : Type} (l : List (DataW H)) : l.length ≤ Rows.uptoBulkAll l := by
  induction l with
  | nil => simp [Rows.uptoBulkAll]
  | cons x r ih => have := one_le x; simp only [Rows.uptoBulkAll, List.length_cons]; omega

theorem mus {H : Type} (es sp : List (DataW H)) : es.length ≤ Rows.uptoBulk (.slice es sp) ∧ ∀ d ∈ es, Rows.uptoBulk d ≤ Rows.uptoBulk (.slice es sp) := by
  have h1 := length_le es
  simp only [Rows.uptoBulk]
  refine ⟨by omega, fun d hd => ?_⟩
  have := part_le hd
  omega

theorem mua {H : Type} (ps : List (DataW H)) : ∀ d ∈ ps, Rows.uptoBulk d ≤ Rows.uptoBulk (.agg ps) := by
  intro d hd
  have := part_le hd
  simp only [Rows.uptoBulk]
  omega

/-- each argument's bulk -/
theorem each {H : Type} {l : List (DataW H)} (hk : Rows.uptoSmall H l = true) {d : DataW H} (h : d ∈ l) : Rows.uptoBulk d ≤ 1048576 :=
  Nat.le_trans (part_le h) (of_decide_eq_true hk)
end Go.Proofs.Ytdieenbfdeaffaa.Rbulk
