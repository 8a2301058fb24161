/- Resolved code of functions, printed by a program of ours (genfun.py); each is held against the model by chkF. -/
import Derived.Test.YtnbglampelmgoaaGreatVpiSim
import Derived.Test.YtnbglampelmgoaaGreatProg
import Derived.KernelRfl
namespace Go.Proofs.YtnbglampelmgoaaGreat.VRn
open Go Vpi
set_option maxRecDepth 100000

/-- trammel/nat.digit -/
def f107 : RFun := ⟨(.seq (.reg [⟨(some 4), none, none, .mv (.c (.p (.int .u32 0)))⟩] none)
  (.seq (.reg [⟨(some 15), none, none, .mv (.t 1)⟩,
    ⟨(some 16), none, none, .len (.t 15)⟩,
    ⟨(some 5), none, none, .mv (.t 16)⟩] none)
  (.seq (.reg [⟨(some 17), none, none, .mv (.t 0)⟩,
    ⟨(some 18), none, none, .mv (.t 5)⟩,
    ⟨(some 19), none, none, .indexA 1 (.t 17) (.t 18)⟩,
    ⟨(some 20), none, none, .load false 1 (.t 19)⟩,
    ⟨(some 21), none, none, .conv .u64 (.t 20)⟩,
    ⟨(some 22), none, none, .bin .shl (.t 21) (.c (.p (.int .u64 32)))⟩,
    ⟨(some 23), none, none, .mv (.t 0)⟩,
    ⟨(some 24), none, none, .mv (.t 5)⟩,
    ⟨(some 25), none, none, .bin .sub (.t 24) (.c (.p (.int .i64 1)))⟩,
    ⟨(some 26), none, none, .indexA 1 (.t 23) (.t 25)⟩,
    ⟨(some 27), none, none, .load false 1 (.t 26)⟩,
    ⟨(some 28), none, none, .conv .u64 (.t 27)⟩,
    ⟨(some 29), none, none, .bin .or (.t 22) (.t 28)⟩,
    ⟨(some 6), none, none, .mv (.t 29)⟩] (some (0, [])))
  (.seq (.reg [⟨(some 30), none, none, .mv (.t 6)⟩,
    ⟨(some 31), none, none, .mv (.t 1)⟩,
    ⟨(some 32), none, none, .mv (.t 5)⟩,
    ⟨(some 33), none, none, .bin .sub (.t 32) (.c (.p (.int .i64 1)))⟩,
    ⟨(some 34), none, none, .indexA 1 (.t 31) (.t 33)⟩,
    ⟨(some 35), none, none, .load false 1 (.t 34)⟩,
    ⟨(some 36), none, none, .conv .u64 (.t 35)⟩,
    ⟨(some 37), none, none, .bin .quo (.t 30) (.t 36)⟩,
    ⟨(some 38), none, none, .mn (.t 37) (.c (.p (.int .u64 4294967295)))⟩,
    ⟨(some 7), none, none, .mv (.t 38)⟩] none)
  (.seq (.reg [⟨(some 8), none, none, .mv (.c (.p (.int .u64 0)))⟩,
    ⟨(some 9), none, none, .mv (.c (.p (.int .u64 0)))⟩] none)
  (.seq (.seq (.reg [⟨(some 39), none, none, .mv (.t 5)⟩,
    ⟨(some 40), none, none, .bin .add (.t 39) (.c (.p (.int .i64 1)))⟩,
    ⟨(some 41), none, none, .mv (.c (.p (.int .i64 0)))⟩] none)
  (.fg [0, 1, 5, 7, 8, 9, 40, 41] (.block 0
  (.loop (.fg [0, 1, 5, 7, 8, 9, 40, 41]
    (.seq (.reg [⟨(some 42), none, none, .bin .lss (.t 41) (.t 40)⟩] none)
      (.seq (.cond (.t 42)
        .skip
        (.exit 0))
      (.fg [0, 1, 5, 7, 8, 9, 40, 41] (.seq (.block 1
      (.seq (.reg [⟨(some 43), none, none, .mv (.t 41)⟩,
    ⟨(some 10), none, none, .mv (.t 43)⟩] none)
        (.seq (.reg [⟨(some 44), none, none, .mv (.t 8)⟩,
    ⟨(some 11), none, none, .mv (.t 44)⟩] none)
        (.seq (.seq (.reg [⟨(some 45), none, none, .mv (.t 10)⟩,
    ⟨(some 46), none, none, .mv (.t 5)⟩,
    ⟨(some 47), none, none, .bin .lss (.t 45) (.t 46)⟩] none)
        (.fg [0, 1, 5, 7, 9, 10, 11, 40, 41, 47] (.cond (.t 47)
          (.reg [⟨(some 48), none, none, .mv (.t 11)⟩,
    ⟨(some 49), none, none, .mv (.t 7)⟩,
    ⟨(some 50), none, none, .mv (.t 1)⟩,
    ⟨(some 51), none, none, .mv (.t 10)⟩,
    ⟨(some 52), none, none, .indexA 1 (.t 50) (.t 51)⟩,
    ⟨(some 53), none, none, .load false 1 (.t 52)⟩,
    ⟨(some 54), none, none, .conv .u64 (.t 53)⟩,
    ⟨(some 55), none, none, .bin .mul (.t 49) (.t 54)⟩,
    ⟨(some 56), none, none, .bin .add (.t 48) (.t 55)⟩,
    ⟨(some 11), none, none, .mv (.t 56)⟩] none)
          .skip)))
        (.seq (.reg [⟨(some 57), none, none, .mv (.t 11)⟩,
    ⟨(some 58), none, none, .bin .shr (.t 57) (.c (.p (.int .u64 32)))⟩,
    ⟨(some 8), none, none, .mv (.t 58)⟩] none)
        (.seq (.reg [⟨(some 59), none, none, .mv (.t 0)⟩,
    ⟨(some 60), none, none, .mv (.t 10)⟩,
    ⟨(some 61), none, none, .indexA 1 (.t 59) (.t 60)⟩,
    ⟨(some 62), none, none, .load false 1 (.t 61)⟩,
    ⟨(some 63), none, none, .conv .u64 (.t 62)⟩,
    ⟨(some 64), none, none, .mv (.t 11)⟩,
    ⟨(some 65), none, none, .conv .u32 (.t 64)⟩,
    ⟨(some 66), none, none, .conv .u64 (.t 65)⟩,
    ⟨(some 67), none, none, .bin .sub (.t 63) (.t 66)⟩,
    ⟨(some 68), none, none, .mv (.t 9)⟩,
    ⟨(some 69), none, none, .bin .sub (.t 67) (.t 68)⟩,
    ⟨(some 12), none, none, .mv (.t 69)⟩] none)
        (.seq (.reg [⟨(some 70), none, none, .mv (.t 0)⟩,
    ⟨(some 71), none, none, .mv (.t 10)⟩,
    ⟨(some 72), none, none, .mv (.t 12)⟩,
    ⟨(some 73), none, none, .conv .u32 (.t 72)⟩,
    ⟨(some 74), none, none, .indexA 1 (.t 70) (.t 71)⟩,
    ⟨none, none, none, .store 1 (.t 74) (.t 73)⟩] none)
        (.reg [⟨(some 75), none, none, .mv (.t 12)⟩,
    ⟨(some 76), none, none, .bin .shr (.t 75) (.c (.p (.int .u64 63)))⟩,
    ⟨(some 9), none, none, .mv (.t 76)⟩] none))))))))
      (.fg [0, 1, 5, 7, 8, 9, 40, 41] (.reg [⟨(some 77), none, none, .bin .add (.t 41) (.c (.p (.int .i64 1)))⟩,
    ⟨(some 41), none, none, .mv (.t 77)⟩] none)))))))))))
  (.seq (.block 2
  (.loop (.fg [0, 1, 5, 7, 9]
    (.seq (.seq (.reg [⟨(some 78), none, none, .mv (.t 9)⟩,
    ⟨(some 79), none, none, .bin .gtr (.t 78) (.c (.p (.int .u64 0)))⟩] none)
      (.fg [0, 1, 5, 7, 9, 79] (.cond (.t 79)
        .skip
        (.exit 2))))
      (.fg [0, 1, 5, 7, 9] (.block 3
      (.seq (.reg [⟨(some 80), none, none, .mv (.t 7)⟩,
    ⟨(some 81), none, none, .bin .sub (.t 80) (.c (.p (.int .u64 1)))⟩,
    ⟨(some 7), none, none, .mv (.t 81)⟩] none)
        (.seq (.reg [⟨(some 13), none, none, .mv (.c (.p (.int .u64 0)))⟩] none)
        (.seq (.seq (.reg [⟨(some 82), none, none, .mv (.t 5)⟩,
    ⟨(some 83), none, none, .bin .add (.t 82) (.c (.p (.int .i64 1)))⟩,
    ⟨(some 84), none, none, .mv (.c (.p (.int .i64 0)))⟩] none)
        (.fg [0, 1, 5, 7, 9, 13, 83, 84] (.block 4
        (.loop (.fg [0, 1, 5, 7, 9, 13, 83, 84]
          (.seq (.reg [⟨(some 85), none, none, .bin .lss (.t 84) (.t 83)⟩] none)
            (.seq (.cond (.t 85)
              .skip
              (.exit 4))
            (.fg [0, 1, 5, 7, 9, 13, 83, 84] (.seq (.block 5
            (.seq (.reg [⟨(some 86), none, none, .mv (.t 84)⟩,
    ⟨(some 14), none, none, .mv (.t 86)⟩] none)
              (.seq (.reg [⟨(some 87), none, none, .mv (.t 13)⟩,
    ⟨(some 88), none, none, .mv (.t 0)⟩,
    ⟨(some 89), none, none, .mv (.t 14)⟩,
    ⟨(some 90), none, none, .indexA 1 (.t 88) (.t 89)⟩,
    ⟨(some 91), none, none, .load false 1 (.t 90)⟩,
    ⟨(some 92), none, none, .conv .u64 (.t 91)⟩,
    ⟨(some 93), none, none, .bin .add (.t 87) (.t 92)⟩,
    ⟨(some 13), none, none, .mv (.t 93)⟩] none)
              (.seq (.seq (.reg [⟨(some 94), none, none, .mv (.t 14)⟩,
    ⟨(some 95), none, none, .mv (.t 5)⟩,
    ⟨(some 96), none, none, .bin .lss (.t 94) (.t 95)⟩] none)
              (.fg [0, 1, 5, 7, 9, 13, 14, 83, 84, 96] (.cond (.t 96)
                (.reg [⟨(some 97), none, none, .mv (.t 13)⟩,
    ⟨(some 98), none, none, .mv (.t 1)⟩,
    ⟨(some 99), none, none, .mv (.t 14)⟩,
    ⟨(some 100), none, none, .indexA 1 (.t 98) (.t 99)⟩,
    ⟨(some 101), none, none, .load false 1 (.t 100)⟩,
    ⟨(some 102), none, none, .conv .u64 (.t 101)⟩,
    ⟨(some 103), none, none, .bin .add (.t 97) (.t 102)⟩,
    ⟨(some 13), none, none, .mv (.t 103)⟩] none)
                .skip)))
              (.seq (.reg [⟨(some 104), none, none, .mv (.t 0)⟩,
    ⟨(some 105), none, none, .mv (.t 14)⟩,
    ⟨(some 106), none, none, .mv (.t 13)⟩,
    ⟨(some 107), none, none, .conv .u32 (.t 106)⟩,
    ⟨(some 108), none, none, .indexA 1 (.t 104) (.t 105)⟩,
    ⟨none, none, none, .store 1 (.t 108) (.t 107)⟩] none)
              (.reg [⟨(some 109), none, none, .mv (.t 13)⟩,
    ⟨(some 110), none, none, .bin .shr (.t 109) (.c (.p (.int .u64 32)))⟩,
    ⟨(some 13), none, none, .mv (.t 110)⟩] none))))))
            (.fg [0, 1, 5, 7, 9, 13, 83, 84] (.reg [⟨(some 111), none, none, .bin .add (.t 84) (.c (.p (.int .i64 1)))⟩,
    ⟨(some 84), none, none, .mv (.t 111)⟩] none)))))))))))
        (.reg [⟨(some 112), none, none, .mv (.t 9)⟩,
    ⟨(some 113), none, none, .mv (.t 13)⟩,
    ⟨(some 114), none, none, .bin .sub (.t 112) (.t 113)⟩,
    ⟨(some 9), none, none, .mv (.t 114)⟩] none))))))))))
  (.fg [7] (.seq (.reg [⟨(some 115), none, none, .mv (.t 7)⟩,
    ⟨(some 116), none, none, .conv .u32 (.t 115)⟩,
    ⟨(some 4), none, none, .mv (.t 116)⟩] none)
  .ret))))))))),
  [.t 4]⟩

theorem c107 : chkF Tryz.prog 107 f107 = true := by kernel_rfl

/-- trammel/nat.shr -/
def f108 : RFun := ⟨(.seq (.reg [⟨(some 4), none, none, .mv (.c (.nils))⟩] none)
  (.seq (.reg [⟨(some 10), none, none, .mv (.t 0)⟩,
    ⟨(some 11), none, none, .call .pu 41 [.t 10]⟩,
    ⟨(some 0), none, none, .mv (.t 11)⟩] none)
  (.seq (.reg [⟨(some 12), none, none, .mv (.t 1)⟩,
    ⟨(some 13), none, none, .bin .quo (.t 12) (.c (.p (.int .i64 32)))⟩,
    ⟨(some 14), none, none, .mv (.t 1)⟩,
    ⟨(some 15), none, none, .bin .rem (.t 14) (.c (.p (.int .i64 32)))⟩,
    ⟨(some 16), none, none, .conv .u64 (.t 15)⟩,
    ⟨(some 5), none, none, .mv (.t 13)⟩,
    ⟨(some 6), none, none, .mv (.t 16)⟩] none)
  (.seq (.seq (.reg [⟨(some 17), none, none, .mv (.t 5)⟩,
    ⟨(some 18), none, none, .mv (.t 0)⟩,
    ⟨(some 19), none, none, .len (.t 18)⟩,
    ⟨(some 20), none, none, .bin .geq (.t 17) (.t 19)⟩] none)
  (.fg [0, 5, 6, 20] (.cond (.t 20)
    (.seq (.reg [⟨(some 4), none, none, .mv (.c (.nils))⟩] none)
    .ret)
    .skip)))
  (.seq (.reg [⟨(some 21), none, none, .mv (.t 0)⟩,
    ⟨(some 22), none, none, .len (.t 21)⟩,
    ⟨(some 23), none, none, .mv (.t 5)⟩,
    ⟨(some 24), none, none, .bin .sub (.t 22) (.t 23)⟩,
    ⟨(some 25), none, none, .mks false 1 4 (.int .u32 0) (.t 24) (.t 24)⟩,
    ⟨(some 7), none, none, .mv (.t 25)⟩] none)
  (.seq (.seq (.reg [⟨(some 26), none, none, .mv (.t 7)⟩,
    ⟨(some 27), none, none, .len (.t 26)⟩,
    ⟨(some 28), none, none, .mv (.c (.p (.int .i64 0)))⟩] none)
  (.fg [0, 5, 6, 7, 27, 28] (.block 0
  (.loop (.fg [0, 5, 6, 7, 27, 28]
    (.seq (.reg [⟨(some 29), none, none, .bin .lss (.t 28) (.t 27)⟩] none)
      (.seq (.cond (.t 29)
        .skip
        (.exit 0))
      (.fg [0, 5, 6, 7, 27, 28] (.seq (.block 1
      (.seq (.reg [⟨(some 30), none, none, .mv (.t 28)⟩,
    ⟨(some 8), none, none, .mv (.t 30)⟩] none)
        (.seq (.reg [⟨(some 31), none, none, .mv (.t 0)⟩,
    ⟨(some 32), none, none, .mv (.t 8)⟩,
    ⟨(some 33), none, none, .mv (.t 5)⟩,
    ⟨(some 34), none, none, .bin .add (.t 32) (.t 33)⟩,
    ⟨(some 35), none, none, .indexA 1 (.t 31) (.t 34)⟩,
    ⟨(some 36), none, none, .load false 1 (.t 35)⟩,
    ⟨(some 37), none, none, .conv .u64 (.t 36)⟩,
    ⟨(some 9), none, none, .mv (.t 37)⟩] none)
        (.seq (.seq (.reg [⟨(some 38), none, none, .mv (.t 8)⟩,
    ⟨(some 39), none, none, .mv (.t 5)⟩,
    ⟨(some 40), none, none, .bin .add (.t 38) (.t 39)⟩,
    ⟨(some 41), none, none, .bin .add (.t 40) (.c (.p (.int .i64 1)))⟩,
    ⟨(some 42), none, none, .mv (.t 0)⟩,
    ⟨(some 43), none, none, .len (.t 42)⟩,
    ⟨(some 44), none, none, .bin .lss (.t 41) (.t 43)⟩] none)
        (.fg [0, 5, 6, 7, 8, 9, 27, 28, 44] (.cond (.t 44)
          (.reg [⟨(some 45), none, none, .mv (.t 9)⟩,
    ⟨(some 46), none, none, .mv (.t 0)⟩,
    ⟨(some 47), none, none, .mv (.t 8)⟩,
    ⟨(some 48), none, none, .mv (.t 5)⟩,
    ⟨(some 49), none, none, .bin .add (.t 47) (.t 48)⟩,
    ⟨(some 50), none, none, .bin .add (.t 49) (.c (.p (.int .i64 1)))⟩,
    ⟨(some 51), none, none, .indexA 1 (.t 46) (.t 50)⟩,
    ⟨(some 52), none, none, .load false 1 (.t 51)⟩,
    ⟨(some 53), none, none, .conv .u64 (.t 52)⟩,
    ⟨(some 54), none, none, .bin .shl (.t 53) (.c (.p (.int .u64 32)))⟩,
    ⟨(some 55), none, none, .bin .or (.t 45) (.t 54)⟩,
    ⟨(some 9), none, none, .mv (.t 55)⟩] none)
          .skip)))
        (.reg [⟨(some 56), none, none, .mv (.t 7)⟩,
    ⟨(some 57), none, none, .mv (.t 8)⟩,
    ⟨(some 58), none, none, .mv (.t 9)⟩,
    ⟨(some 59), none, none, .mv (.t 6)⟩,
    ⟨(some 60), none, none, .bin .shr (.t 58) (.t 59)⟩,
    ⟨(some 61), none, none, .conv .u32 (.t 60)⟩,
    ⟨(some 62), none, none, .indexA 1 (.t 56) (.t 57)⟩,
    ⟨none, none, none, .store 1 (.t 62) (.t 61)⟩] none)))))
      (.fg [0, 5, 6, 7, 27, 28] (.reg [⟨(some 63), none, none, .bin .add (.t 28) (.c (.p (.int .i64 1)))⟩,
    ⟨(some 28), none, none, .mv (.t 63)⟩] none)))))))))))
  (.seq (.reg [⟨(some 64), none, none, .mv (.t 7)⟩,
    ⟨(some 65), none, none, .call .fz 41 [.t 64]⟩,
    ⟨(some 4), none, none, .mv (.t 65)⟩] none)
  .ret))))))),
  [.t 4]⟩

theorem c108 : chkF Tryz.prog 108 f108 = true := by kernel_rfl

/-- trammel/mat.each[[]trammel/api.Int,[]trammel/api.Int] -/
def f109 : RFun := ⟨(.seq (.reg [⟨(some 4), none, none, .mv (.c (.nils))⟩] none)
  (.seq (.reg [⟨(some 8), none, none, .mv (.t 0)⟩,
    ⟨(some 9), none, none, .len (.t 8)⟩,
    ⟨(some 10), none, none, .mks false 1 24 (.sl []) (.c (.p (.int .i64 0))) (.t 9)⟩,
    ⟨(some 5), none, none, .mv (.t 10)⟩] none)
  (.seq (.seq (.reg [⟨(some 11), none, none, .mv (.t 0)⟩,
    ⟨(some 12), none, none, .len (.t 11)⟩,
    ⟨(some 13), none, none, .mv (.c (.p (.int .i64 0)))⟩] none)
  (.fg [1, 5, 11, 12, 13] (.block 0
  (.loop (.fg [1, 5, 11, 12, 13]
    (.seq (.reg [⟨(some 14), none, none, .bin .lss (.t 13) (.t 12)⟩] none)
      (.seq (.cond (.t 14)
        .skip
        (.exit 0))
      (.fg [1, 5, 11, 12, 13] (.seq (.block 1
      (.seq (.reg [⟨(some 15), none, none, .indexA 1 (.t 11) (.t 13)⟩,
    ⟨(some 16), none, none, .load false 1 (.t 15)⟩,
    ⟨(some 7), none, none, .mv (.t 16)⟩] none)
        (.reg [⟨(some 17), none, none, .mv (.t 5)⟩,
    ⟨(some 18), none, none, .mv (.t 1)⟩,
    ⟨(some 19), none, none, .mv (.t 7)⟩,
    ⟨(some 20), none, none, .callv .pu (.t 18) [.t 19]⟩,
    ⟨(some 21), none, none, .bslice 1 [.t 20]⟩,
    ⟨(some 22), none, none, .append 1 24 (.t 17) (.t 21)⟩,
    ⟨(some 5), none, none, .mv (.t 22)⟩] none)))
      (.fg [1, 5, 11, 12, 13] (.reg [⟨(some 23), none, none, .bin .add (.t 13) (.c (.p (.int .i64 1)))⟩,
    ⟨(some 13), none, none, .mv (.t 23)⟩] none)))))))))))
  (.seq (.reg [⟨(some 24), none, none, .mv (.t 5)⟩,
    ⟨(some 4), none, none, .mv (.t 24)⟩] none)
  .ret)))),
  [.t 4]⟩

theorem c109 : chkF Tryz.prog 109 f109 = true := by kernel_rfl

/-- trammel/mat.Form$1 -/
def f110 : RFun := ⟨(.seq (.reg [⟨(some 2), none, none, .mv (.c (.nils))⟩] none)
  (.seq (.reg [⟨(some 3), none, none, .mv (.t 0)⟩,
    ⟨(some 4), none, none, .call .full 28 [.t 3, .c (.fn 47 [])]⟩,
    ⟨(some 2), none, none, .mv (.t 4)⟩] none)
  .ret)),
  [.t 2]⟩

theorem c110 : chkF Tryz.prog 110 f110 = true := by kernel_rfl

/-- (*trammel/herm.pair).column$1 -/
def f111 : RFun := ⟨(.seq (.reg [⟨(some 3), none, none, .mv (.c (.p (.int .i64 0)))⟩] none)
  (.seq (.reg [⟨(some 4), none, none, .mv (.c (.p (.int .i64 (-1))))⟩] none)
  (.seq (.seq (.reg [⟨(some 7), none, none, .load false 1 (.t 0)⟩,
    ⟨(some 5), none, none, .mv (.t 7)⟩] none)
  (.fg [1, 2, 4, 5] (.block 0
  (.loop (.fg [1, 2, 4, 5]
    (.seq (.seq (.reg [⟨(some 8), none, none, .mv (.t 5)⟩,
    ⟨(some 9), none, none, .load false 1 (.t 1)⟩,
    ⟨(some 10), none, none, .nilc (.t 9)⟩,
    ⟨(some 11), none, none, .fieldA 0 (.t 10)⟩,
    ⟨(some 12), none, none, .fieldA 0 (.t 11)⟩,
    ⟨(some 13), none, none, .load false 1 (.t 12)⟩,
    ⟨(some 14), none, none, .len (.t 13)⟩,
    ⟨(some 15), none, none, .bin .lss (.t 8) (.t 14)⟩] none)
      (.fg [1, 2, 4, 5, 15] (.cond (.t 15)
        .skip
        (.exit 0))))
      (.seq (.block 1
      (.seq (.reg [⟨(some 18), none, none, .load false 1 (.t 1)⟩,
    ⟨(some 19), none, none, .nilc (.t 18)⟩,
    ⟨(some 20), none, none, .fieldA 0 (.t 19)⟩,
    ⟨(some 21), none, none, .fieldA 0 (.t 20)⟩,
    ⟨(some 22), none, none, .load false 1 (.t 21)⟩,
    ⟨(some 23), none, none, .mv (.t 5)⟩,
    ⟨(some 24), none, none, .indexA 1 (.t 22) (.t 23)⟩,
    ⟨(some 25), none, none, .load false 1 (.t 24)⟩,
    ⟨(some 26), none, none, .load false 1 (.t 2)⟩,
    ⟨(some 27), none, none, .indexA 2 (.t 25) (.t 26)⟩,
    ⟨(some 28), none, none, .load true 2 (.t 27)⟩,
    ⟨(some 6), none, (some 0), .alloc [.p (.bool false), .nils]⟩,
    ⟨none, none, none, .store 2 (.t 6) (.t 28)⟩] (some (1, [])))
        (.seq (.reg [⟨(some 29), none, none, .load true 2 (.t 6)⟩,
    ⟨(some 30), none, none, .call .pu 12 [.t 29]⟩,
    ⟨(some 31), none, none, .bin .neq (.t 30) (.c (.p (.int .i64 0)))⟩,
    ⟨(some 32), none, none, .mv (.t 31)⟩,
    ⟨(some 33), (some (32, true)), none, .mv (.t 4)⟩,
    ⟨(some 34), (some (32, true)), none, .bin .lss (.t 33) (.c (.p (.int .i64 0)))⟩,
    ⟨(some 35), (some (32, true)), none, .mv (.t 34)⟩,
    ⟨(some 36), (some (35, false)), none, .load true 2 (.t 6)⟩,
    ⟨(some 37), (some (35, false)), none, .call .pu 112 [.t 36]⟩,
    ⟨(some 38), (some (35, false)), none, .load false 1 (.t 1)⟩,
    ⟨(some 39), (some (35, false)), none, .nilc (.t 38)⟩,
    ⟨(some 40), (some (35, false)), none, .fieldA 0 (.t 39)⟩,
    ⟨(some 41), (some (35, false)), none, .fieldA 0 (.t 40)⟩,
    ⟨(some 42), (some (35, false)), none, .load false 1 (.t 41)⟩,
    ⟨(some 43), (some (35, false)), none, .mv (.t 4)⟩,
    ⟨(some 44), (some (35, false)), none, .indexA 1 (.t 42) (.t 43)⟩,
    ⟨(some 45), (some (35, false)), none, .load false 1 (.t 44)⟩,
    ⟨(some 46), (some (35, false)), none, .load false 1 (.t 2)⟩,
    ⟨(some 47), (some (35, false)), none, .indexA 2 (.t 45) (.t 46)⟩,
    ⟨(some 48), (some (35, false)), none, .load true 2 (.t 47)⟩,
    ⟨(some 49), (some (35, false)), none, .call .pu 112 [.t 48]⟩,
    ⟨(some 50), (some (35, false)), none, .call .pu 101 [.t 37, .t 49]⟩,
    ⟨(some 51), (some (35, false)), none, .bin .lss (.t 50) (.c (.p (.int .i64 0)))⟩,
    ⟨(some 52), (some (32, true)), none, .pick (.t 35) (.c (.p (.bool true))) (.t 51)⟩,
    ⟨(some 53), none, none, .pick (.t 32) (.t 52) (.c (.p (.bool false)))⟩] (some (0, [])))
        (.fg [1, 2, 4, 5, 53] (.cond (.t 53)
          (.reg [⟨(some 54), none, none, .mv (.t 5)⟩,
    ⟨(some 4), none, none, .mv (.t 54)⟩] none)
          .skip)))))
      (.fg [1, 2, 4, 5] (.reg [⟨(some 16), none, none, .mv (.t 5)⟩,
    ⟨(some 17), none, none, .bin .add (.t 16) (.c (.p (.int .i64 1)))⟩,
    ⟨(some 5), none, none, .mv (.t 17)⟩] none)))))))))
  (.seq (.reg [⟨(some 55), none, none, .mv (.t 4)⟩,
    ⟨(some 3), none, none, .mv (.t 55)⟩] none)
  .ret)))),
  [.t 3]⟩

theorem c111 : chkF Tryz.prog 111 f111 = true := by kernel_rfl

/-- trammel/zint.Abs -/
def f112 : RFun := ⟨(.seq (.reg [⟨(some 1), none, none, .box (.t 0)⟩,
    ⟨(some 2), none, none, .alloc [.p (.bool false), .nils]⟩] none)
  (.seq (.reg [⟨(some 3), none, none, .fieldA 1 (.t 1)⟩,
    ⟨(some 4), none, none, .load false 1 (.t 3)⟩,
    ⟨(some 5), none, none, .call .pu 26 [.c (.p (.bool false)), .t 4]⟩,
    ⟨none, none, none, .store 2 (.t 2) (.t 5)⟩] none)
  .ret)),
  [.cell 2 true 2]⟩

theorem c112 : chkF Tryz.prog 112 f112 = true := by kernel_rfl

/-- (*trammel/herm.pair).swap -/
def f113 : RFun := ⟨(.seq (.reg [⟨(some 6), none, none, .mv (.t 0)⟩,
    ⟨(some 7), none, none, .nilc (.t 6)⟩,
    ⟨(some 8), none, none, .fieldA 0 (.t 7)⟩,
    ⟨(some 9), none, none, .mv (.t 1)⟩,
    ⟨(some 10), none, none, .mv (.t 2)⟩,
    ⟨(some 11), none, none, .call .full 165 [.t 8, .t 9, .t 10]⟩] none)
  (.reg [⟨(some 12), none, none, .mv (.t 0)⟩,
    ⟨(some 13), none, none, .nilc (.t 12)⟩,
    ⟨(some 14), none, none, .fieldA 1 (.t 13)⟩,
    ⟨(some 15), none, none, .mv (.t 1)⟩,
    ⟨(some 16), none, none, .mv (.t 2)⟩,
    ⟨(some 17), none, none, .call .full 165 [.t 14, .t 15, .t 16]⟩] none)),
  []⟩

theorem c113 : chkF Tryz.prog 113 f113 = true := by kernel_rfl

/-- (*trammel/herm.rows).turn -/
def f114 : RFun := ⟨(.reg [⟨(some 4), none, none, .mv (.t 0)⟩,
    ⟨(some 5), none, none, .nilc (.t 4)⟩,
    ⟨(some 6), none, none, .fieldA 0 (.t 5)⟩,
    ⟨(some 7), none, none, .load false 1 (.t 6)⟩,
    ⟨(some 8), none, none, .mv (.t 1)⟩,
    ⟨(some 9), none, none, .call .pu 16 [.c (.p (.int .i64 (-1)))]⟩,
    ⟨(some 10), none, none, .mv (.t 0)⟩,
    ⟨(some 11), none, none, .nilc (.t 10)⟩,
    ⟨(some 12), none, none, .fieldA 0 (.t 11)⟩,
    ⟨(some 13), none, none, .load false 1 (.t 12)⟩,
    ⟨(some 14), none, none, .mv (.t 1)⟩,
    ⟨(some 15), none, none, .indexA 1 (.t 13) (.t 14)⟩,
    ⟨(some 16), none, none, .load false 1 (.t 15)⟩,
    ⟨(some 17), none, none, .call .pu 15 [.t 9, .t 16]⟩,
    ⟨(some 18), none, none, .indexA 1 (.t 7) (.t 8)⟩,
    ⟨none, none, none, .store 1 (.t 18) (.t 17)⟩] (some (0, []))),
  []⟩

theorem c114 : chkF Tryz.prog 114 f114 = true := by kernel_rfl

/-- (*trammel/herm.rows).add -/
def f115 : RFun := ⟨(.seq (.reg [⟨(some 7), none, none, .box (.t 3)⟩] none)
  (.seq (.reg [⟨(some 11), none, none, .mv (.t 0)⟩,
    ⟨(some 12), none, none, .nilc (.t 11)⟩,
    ⟨(some 13), none, none, .fieldA 0 (.t 12)⟩,
    ⟨(some 14), none, none, .load false 1 (.t 13)⟩,
    ⟨(some 15), none, none, .mv (.t 1)⟩,
    ⟨(some 16), none, none, .indexA 1 (.t 14) (.t 15)⟩,
    ⟨(some 17), none, none, .load false 1 (.t 16)⟩,
    ⟨(some 18), none, none, .load true 2 (.t 7)⟩,
    ⟨(some 19), none, none, .mv (.t 0)⟩,
    ⟨(some 20), none, none, .nilc (.t 19)⟩,
    ⟨(some 21), none, none, .fieldA 0 (.t 20)⟩,
    ⟨(some 22), none, none, .load false 1 (.t 21)⟩,
    ⟨(some 23), none, none, .mv (.t 2)⟩,
    ⟨(some 24), none, none, .indexA 1 (.t 22) (.t 23)⟩,
    ⟨(some 25), none, none, .load false 1 (.t 24)⟩,
    ⟨(some 26), none, none, .call .pu 15 [.t 18, .t 25]⟩,
    ⟨(some 27), none, none, .call .pu 166 [.t 17, .t 26]⟩,
    ⟨(some 10), none, none, .mv (.t 27)⟩,
    ⟨(some 28), none, none, .extract (.t 10) 0⟩,
    ⟨(some 29), none, none, .extract (.t 10) 1⟩,
    ⟨(some 8), none, none, .mv (.t 28)⟩,
    ⟨(some 9), none, none, .mv (.t 29)⟩] (some (0, [])))
  (.reg [⟨(some 30), none, none, .mv (.t 0)⟩,
    ⟨(some 31), none, none, .nilc (.t 30)⟩,
    ⟨(some 32), none, none, .fieldA 0 (.t 31)⟩,
    ⟨(some 33), none, none, .load false 1 (.t 32)⟩,
    ⟨(some 34), none, none, .mv (.t 1)⟩,
    ⟨(some 35), none, none, .mv (.t 8)⟩,
    ⟨(some 36), none, none, .indexA 1 (.t 33) (.t 34)⟩,
    ⟨none, none, none, .store 1 (.t 36) (.t 35)⟩] none))),
  []⟩

theorem c115 : chkF Tryz.prog 115 f115 = true := by kernel_rfl

/-- (*trammel/herm.rows).swap -/
def f165 : RFun := ⟨(.reg [⟨(some 6), none, none, .mv (.t 0)⟩,
    ⟨(some 7), none, none, .nilc (.t 6)⟩,
    ⟨(some 8), none, none, .fieldA 0 (.t 7)⟩,
    ⟨(some 9), none, none, .load false 1 (.t 8)⟩,
    ⟨(some 10), none, none, .mv (.t 1)⟩,
    ⟨(some 11), none, none, .mv (.t 0)⟩,
    ⟨(some 12), none, none, .nilc (.t 11)⟩,
    ⟨(some 13), none, none, .fieldA 0 (.t 12)⟩,
    ⟨(some 14), none, none, .load false 1 (.t 13)⟩,
    ⟨(some 15), none, none, .mv (.t 2)⟩,
    ⟨(some 16), none, none, .mv (.t 0)⟩,
    ⟨(some 17), none, none, .nilc (.t 16)⟩,
    ⟨(some 18), none, none, .fieldA 0 (.t 17)⟩,
    ⟨(some 19), none, none, .load false 1 (.t 18)⟩,
    ⟨(some 20), none, none, .mv (.t 2)⟩,
    ⟨(some 21), none, none, .indexA 1 (.t 19) (.t 20)⟩,
    ⟨(some 22), none, none, .load false 1 (.t 21)⟩,
    ⟨(some 23), none, none, .mv (.t 0)⟩,
    ⟨(some 24), none, none, .nilc (.t 23)⟩,
    ⟨(some 25), none, none, .fieldA 0 (.t 24)⟩,
    ⟨(some 26), none, none, .load false 1 (.t 25)⟩,
    ⟨(some 27), none, none, .mv (.t 1)⟩,
    ⟨(some 28), none, none, .indexA 1 (.t 26) (.t 27)⟩,
    ⟨(some 29), none, none, .load false 1 (.t 28)⟩,
    ⟨(some 30), none, none, .indexA 1 (.t 9) (.t 10)⟩,
    ⟨none, none, none, .store 1 (.t 30) (.t 22)⟩,
    ⟨(some 31), none, none, .indexA 1 (.t 14) (.t 15)⟩,
    ⟨none, none, none, .store 1 (.t 31) (.t 29)⟩] (some (0, []))),
  []⟩

theorem c165 : chkF Tryz.prog 165 f165 = true := by kernel_rfl

/-- trammel/mat.Plus -/
def f166 : RFun := ⟨(.seq (.reg [⟨(some 4), none, none, .mv (.c (.nils))⟩,
    ⟨(some 5), none, none, .mv (.c (.p (.int .i64 0)))⟩] none)
  (.seq (.reg [⟨(some 6), none, none, .mv (.t 0)⟩,
    ⟨(some 7), none, none, .mv (.t 1)⟩,
    ⟨(some 8), none, none, .call .full 212 [.t 6, .t 7, .c (.fn 46 [])]⟩,
    ⟨(some 9), none, none, .extract (.t 8) 0⟩,
    ⟨(some 10), none, none, .extract (.t 8) 1⟩,
    ⟨(some 4), none, none, .mv (.t 9)⟩,
    ⟨(some 5), none, none, .mv (.t 10)⟩] none)
  .ret)),
  [.t 4, .t 5]⟩

theorem c166 : chkF Tryz.prog 166 f166 = true := by kernel_rfl

/-- trammel/mat.pairs -/
def f212 : RFun := ⟨(.seq (.reg [⟨(some 6), none, none, .mv (.c (.nils))⟩,
    ⟨(some 7), none, none, .mv (.c (.p (.int .i64 0)))⟩] none)
  (.seq (.seq (.reg [⟨(some 10), none, none, .mv (.t 0)⟩,
    ⟨(some 11), none, none, .len (.t 10)⟩,
    ⟨(some 12), none, none, .mv (.t 1)⟩,
    ⟨(some 13), none, none, .len (.t 12)⟩,
    ⟨(some 14), none, none, .bin .neq (.t 11) (.t 13)⟩] none)
  (.fg [0, 1, 2, 14] (.cond (.t 14)
    (.seq (.reg [⟨(some 6), none, none, .mv (.c (.nils))⟩,
    ⟨(some 7), none, none, .mv (.c (.p (.int .i64 8)))⟩] none)
    .ret)
    .skip)))
  (.seq (.reg [⟨(some 8), none, none, .mv (.c (.nils))⟩] none)
  (.seq (.seq (.reg [⟨(some 15), none, none, .mv (.t 0)⟩,
    ⟨(some 16), none, none, .len (.t 15)⟩,
    ⟨(some 17), none, none, .mv (.c (.p (.int .i64 0)))⟩] none)
  (.fg [0, 1, 2, 8, 16, 17] (.block 0
  (.loop (.fg [0, 1, 2, 8, 16, 17]
    (.seq (.reg [⟨(some 18), none, none, .bin .lss (.t 17) (.t 16)⟩] none)
      (.seq (.cond (.t 18)
        .skip
        (.exit 0))
      (.fg [0, 1, 2, 8, 16, 17] (.seq (.block 1
      (.seq (.reg [⟨(some 19), none, none, .mv (.t 17)⟩,
    ⟨(some 9), none, none, .mv (.t 19)⟩] none)
        (.reg [⟨(some 20), none, none, .mv (.t 8)⟩,
    ⟨(some 21), none, none, .mv (.t 2)⟩,
    ⟨(some 22), none, none, .mv (.t 0)⟩,
    ⟨(some 23), none, none, .mv (.t 9)⟩,
    ⟨(some 24), none, none, .indexA 2 (.t 22) (.t 23)⟩,
    ⟨(some 25), none, none, .load true 2 (.t 24)⟩,
    ⟨(some 26), none, none, .mv (.t 1)⟩,
    ⟨(some 27), none, none, .mv (.t 9)⟩,
    ⟨(some 28), none, none, .indexA 2 (.t 26) (.t 27)⟩,
    ⟨(some 29), none, none, .load true 2 (.t 28)⟩,
    ⟨(some 30), none, none, .callv .pu (.t 21) [.t 25, .t 29]⟩,
    ⟨(some 31), none, (some 0), .bslice 2 [.t 30]⟩,
    ⟨(some 32), none, (some 1), .append 2 32 (.t 20) (.t 31)⟩,
    ⟨(some 8), none, none, .mv (.t 32)⟩] (some (2, [])))))
      (.fg [0, 1, 2, 8, 16, 17] (.reg [⟨(some 33), none, none, .bin .add (.t 17) (.c (.p (.int .i64 1)))⟩,
    ⟨(some 17), none, none, .mv (.t 33)⟩] none)))))))))))
  (.seq (.reg [⟨(some 34), none, none, .mv (.t 8)⟩,
    ⟨(some 6), none, none, .mv (.t 34)⟩,
    ⟨(some 7), none, none, .mv (.c (.p (.int .i64 0)))⟩] none)
  .ret))))),
  [.t 6, .t 7]⟩

theorem c212 : chkF Tryz.prog 212 f212 = true := by kernel_rfl

end Go.Proofs.YtnbglampelmgoaaGreat.VRn
