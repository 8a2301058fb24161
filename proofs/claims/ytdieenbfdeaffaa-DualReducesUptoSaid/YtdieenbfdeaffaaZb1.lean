/- Resolved code of functions, printed by a program of ours (genfun.py); each is held against the model by chkF; Resolved code of functions, printed by a program of ours (genfun.py); each is held against the model by chkF; The functions together; Numbers made: zint.made, zint.Of and the reference's; nat: trim, Norm, Cmp, Add; nat: Add, less, Sub; nat: less, Sub; nat.Mul; Bits of a limb, division by one limb, shifts by less than a limb; Division by one limb; shifts by less than a limb. No condition. -/
import Derived.Test.YtdieenbfdeaffaaZa3
import Derived.Test.YtdieenbfdeaffaaProg
import Derived.KernelRfl
import Derived.Laws.Bits64

namespace Go.Proofs.Ytdieenbfdeaffaa.VBn
open Go Vpi
set_option maxRecDepth 100000

/-- trammel/trammelref03.Of -/
def f27 : RFun := ⟨(.seq (.reg [⟨(some 1), none, none, .box (.t 0)⟩,
    ⟨(some 2), none, none, .alloc [.p (.bool false), .nils, .p (.bool false), .nils]⟩] none)
  (.seq (.reg [⟨(some 3), none, none, .load true 2 (.t 1)⟩,
    ⟨(some 4), none, none, .call .pu 68 [.t 3]⟩,
    ⟨(some 5), none, none, .call .pu 69 []⟩,
    ⟨(some 6), none, none, .build [.p (.bool false), .nils, .p (.bool false), .nils] [(0, 2, .t 4), (2, 2, .t 5)]⟩,
    ⟨none, none, none, .store 4 (.t 2) (.t 6)⟩] none)
  .ret)),
  [.cell 2 true 4]⟩

theorem c27 : chkF Try.prog 27 f27 = true := by kernel_rfl

/-- trammel/zint.Of -/
def f54 : RFun := ⟨(.seq (.reg [⟨(some 2), none, none, .alloc [.p (.bool false), .nils]⟩] none)
  (.seq (.reg [⟨(some 4), none, none, .mv (.t 0)⟩,
    ⟨(some 5), none, none, .conv .u64 (.t 4)⟩,
    ⟨(some 3), none, none, .mv (.t 5)⟩] none)
  (.seq (.seq (.reg [⟨(some 6), none, none, .mv (.t 0)⟩,
    ⟨(some 7), none, none, .bin .lss (.t 6) (.c (.p (.int .i64 0)))⟩] none)
  (.fg [0, 2, 3, 7] (.cond (.t 7)
    (.reg [⟨(some 8), none, none, .mv (.t 3)⟩,
    ⟨(some 9), none, none, .un .neg (.t 8)⟩,
    ⟨(some 3), none, none, .mv (.t 9)⟩] none)
    .skip)))
  (.seq (.reg [⟨(some 10), none, none, .mv (.t 0)⟩,
    ⟨(some 11), none, none, .bin .lss (.t 10) (.c (.p (.int .i64 0)))⟩,
    ⟨(some 12), none, none, .mv (.t 3)⟩,
    ⟨(some 13), none, none, .conv .u32 (.t 12)⟩,
    ⟨(some 14), none, none, .mv (.t 3)⟩,
    ⟨(some 15), none, none, .bin .shr (.t 14) (.c (.p (.int .u64 32)))⟩,
    ⟨(some 16), none, none, .conv .u32 (.t 15)⟩,
    ⟨(some 17), none, none, .bslice 1 [.t 13, .t 16]⟩,
    ⟨(some 18), none, none, .call .fz 105 [.t 11, .t 17]⟩,
    ⟨none, none, none, .store 2 (.t 2) (.t 18)⟩] none)
  .ret)))),
  [.cell 2 true 2]⟩

theorem c54 : chkF Try.prog 54 f54 = true := by kernel_rfl

/-- trammel/trammelref02.Neg -/
def f58 : RFun := ⟨(.seq (.reg [⟨(some 1), none, none, .box (.t 0)⟩,
    ⟨(some 2), none, none, .alloc [.p (.bool false), .nils]⟩] none)
  (.seq (.reg [⟨(some 3), none, none, .fieldA 0 (.t 1)⟩,
    ⟨(some 4), none, none, .load false 1 (.t 3)⟩,
    ⟨(some 5), none, none, .un .not (.t 4)⟩,
    ⟨(some 6), none, none, .fieldA 1 (.t 1)⟩,
    ⟨(some 7), none, none, .load false 1 (.t 6)⟩,
    ⟨(some 8), none, none, .call .pu 107 [.t 5, .t 7]⟩,
    ⟨none, none, none, .store 2 (.t 2) (.t 8)⟩] none)
  .ret)),
  [.cell 2 true 2]⟩

theorem c58 : chkF Try.prog 58 f58 = true := by kernel_rfl

/-- trammel/gso.Valid -/
def f59 : RFun := ⟨(.seq (.reg [⟨(some 2), none, none, .mv (.c (.p (.int .i64 0)))⟩] none)
  (.seq (.reg [⟨(some 6), none, none, .mv (.t 0)⟩,
    ⟨(some 7), none, none, .call .pu 108 [.t 6, .c (.p (.bool true))]⟩,
    ⟨(some 5), none, none, .mv (.t 7)⟩,
    ⟨(some 8), none, none, .extract (.t 5) 0⟩,
    ⟨(some 9), none, none, .extract (.t 5) 1⟩,
    ⟨(some 3), none, none, .alloc [.nils, .nils]⟩,
    ⟨none, none, none, .store 2 (.t 3) (.t 8)⟩,
    ⟨(some 4), none, none, .mv (.t 9)⟩] none)
  (.seq (.reg [⟨(some 10), none, none, .mv (.t 4)⟩,
    ⟨(some 2), none, none, .mv (.t 10)⟩] none)
  .ret))),
  [.t 2]⟩

theorem c59 : chkF Try.prog 59 f59 = true := by kernel_rfl

/-- trammel/trammelref02.Sub -/
def f60 : RFun := ⟨(.seq (.reg [⟨(some 2), none, none, .box (.t 0)⟩,
    ⟨(some 3), none, none, .box (.t 1)⟩,
    ⟨(some 4), none, none, .alloc [.p (.bool false), .nils]⟩] none)
  (.seq (.reg [⟨(some 5), none, none, .load true 2 (.t 2)⟩,
    ⟨(some 6), none, none, .load true 2 (.t 3)⟩,
    ⟨(some 7), none, none, .call .pu 58 [.t 6]⟩,
    ⟨(some 8), none, none, .call .pu 109 [.t 5, .t 7]⟩,
    ⟨none, none, none, .store 2 (.t 4) (.t 8)⟩] (some (0, [])))
  .ret)),
  [.cell 4 true 2]⟩

theorem c60 : chkF Try.prog 60 f60 = true := by kernel_rfl

/-- trammel/trammelref05.Valid -/
def f61 : RFun := ⟨(.seq (.reg [⟨(some 2), none, none, .mv (.c (.p (.int .i64 0)))⟩] none)
  (.seq (.reg [⟨(some 6), none, none, .mv (.t 0)⟩,
    ⟨(some 7), none, none, .call .pu 110 [.t 6, .c (.p (.bool true))]⟩,
    ⟨(some 5), none, none, .mv (.t 7)⟩,
    ⟨(some 8), none, none, .extract (.t 5) 0⟩,
    ⟨(some 9), none, none, .extract (.t 5) 1⟩,
    ⟨(some 3), none, none, .alloc [.nils, .nils]⟩,
    ⟨none, none, none, .store 2 (.t 3) (.t 8)⟩,
    ⟨(some 4), none, none, .mv (.t 9)⟩] none)
  (.seq (.reg [⟨(some 10), none, none, .mv (.t 4)⟩,
    ⟨(some 2), none, none, .mv (.t 10)⟩] none)
  .ret))),
  [.t 2]⟩

theorem c61 : chkF Try.prog 61 f61 = true := by kernel_rfl

/-- trammel/zint.Mul -/
def f63 : RFun := ⟨(.seq (.reg [⟨(some 2), none, none, .box (.t 0)⟩,
    ⟨(some 3), none, none, .box (.t 1)⟩,
    ⟨(some 4), none, none, .alloc [.p (.bool false), .nils]⟩] none)
  (.seq (.reg [⟨(some 5), none, none, .fieldA 0 (.t 2)⟩,
    ⟨(some 6), none, none, .load false 1 (.t 5)⟩,
    ⟨(some 7), none, none, .fieldA 0 (.t 3)⟩,
    ⟨(some 8), none, none, .load false 1 (.t 7)⟩,
    ⟨(some 9), none, none, .beq true (.t 6) (.t 8)⟩,
    ⟨(some 10), none, none, .fieldA 1 (.t 2)⟩,
    ⟨(some 11), none, none, .load false 1 (.t 10)⟩,
    ⟨(some 12), none, none, .fieldA 1 (.t 3)⟩,
    ⟨(some 13), none, none, .load false 1 (.t 12)⟩,
    ⟨(some 14), none, none, .call .pu 111 [.t 11, .t 13]⟩,
    ⟨(some 15), none, none, .call .pu 105 [.t 9, .t 14]⟩,
    ⟨none, none, none, .store 2 (.t 4) (.t 15)⟩] (some (0, [])))
  .ret)),
  [.cell 4 true 2]⟩

theorem c63 : chkF Try.prog 63 f63 = true := by kernel_rfl

/-- trammel/trammelref02.Of -/
def f66 : RFun := ⟨(.seq (.reg [⟨(some 2), none, none, .alloc [.p (.bool false), .nils]⟩] none)
  (.seq (.reg [⟨(some 4), none, none, .mv (.t 0)⟩,
    ⟨(some 5), none, none, .conv .u64 (.t 4)⟩,
    ⟨(some 3), none, none, .mv (.t 5)⟩] none)
  (.seq (.seq (.reg [⟨(some 6), none, none, .mv (.t 0)⟩,
    ⟨(some 7), none, none, .bin .lss (.t 6) (.c (.p (.int .i64 0)))⟩] none)
  (.fg [0, 2, 3, 7] (.cond (.t 7)
    (.reg [⟨(some 8), none, none, .mv (.t 3)⟩,
    ⟨(some 9), none, none, .un .neg (.t 8)⟩,
    ⟨(some 3), none, none, .mv (.t 9)⟩] none)
    .skip)))
  (.seq (.reg [⟨(some 10), none, none, .mv (.t 0)⟩,
    ⟨(some 11), none, none, .bin .lss (.t 10) (.c (.p (.int .i64 0)))⟩,
    ⟨(some 12), none, none, .mv (.t 3)⟩,
    ⟨(some 13), none, none, .conv .u32 (.t 12)⟩,
    ⟨(some 14), none, none, .mv (.t 3)⟩,
    ⟨(some 15), none, none, .bin .shr (.t 14) (.c (.p (.int .u64 32)))⟩,
    ⟨(some 16), none, none, .conv .u32 (.t 15)⟩,
    ⟨(some 17), none, none, .bslice 1 [.t 13, .t 16]⟩,
    ⟨(some 18), none, none, .call .fz 107 [.t 11, .t 17]⟩,
    ⟨none, none, none, .store 2 (.t 2) (.t 18)⟩] none)
  .ret)))),
  [.cell 2 true 2]⟩

theorem c66 : chkF Try.prog 66 f66 = true := by kernel_rfl

/-- trammel/trammelref02.Norm -/
def f68 : RFun := ⟨(.seq (.reg [⟨(some 1), none, none, .box (.t 0)⟩,
    ⟨(some 2), none, none, .alloc [.p (.bool false), .nils]⟩] none)
  (.seq (.reg [⟨(some 3), none, none, .fieldA 0 (.t 1)⟩,
    ⟨(some 4), none, none, .load false 1 (.t 3)⟩,
    ⟨(some 5), none, none, .fieldA 1 (.t 1)⟩,
    ⟨(some 6), none, none, .load false 1 (.t 5)⟩,
    ⟨(some 7), none, none, .call .pu 107 [.t 4, .t 6]⟩,
    ⟨none, none, none, .store 2 (.t 2) (.t 7)⟩] none)
  .ret)),
  [.cell 2 true 2]⟩

theorem c68 : chkF Try.prog 68 f68 = true := by kernel_rfl

/-- trammel/trammelref03.one -/
def f69 : RFun := ⟨(.seq (.reg [⟨(some 0), none, none, .alloc [.p (.bool false), .nils]⟩] none)
  (.seq (.reg [⟨(some 1), none, none, .call .pu 66 [.c (.p (.int .i64 1))]⟩,
    ⟨none, none, none, .store 2 (.t 0) (.t 1)⟩] none)
  .ret)),
  [.cell 0 true 2]⟩

theorem c69 : chkF Try.prog 69 f69 = true := by kernel_rfl

/-- trammel/zint.Sign -/
def f77 : RFun := ⟨(.seq (.reg [⟨(some 1), none, none, .box (.t 0)⟩,
    ⟨(some 2), none, none, .mv (.c (.p (.int .i64 0)))⟩] none)
  (.seq (.block 0
  (.seq (.reg [⟨(some 4), none, none, .fieldA 1 (.t 1)⟩,
    ⟨(some 5), none, none, .load false 1 (.t 4)⟩,
    ⟨(some 6), none, none, .call .pu 119 [.t 5]⟩,
    ⟨(some 7), none, none, .bin .eql (.t 6) (.c (.p (.int .i64 0)))⟩,
    ⟨(some 3), none, none, .mv (.t 7)⟩] none)
    (.fg [1, 3] (.cond (.t 3)
      (.seq (.reg [⟨(some 2), none, none, .mv (.c (.p (.int .i64 0)))⟩] none)
      .ret)
      (.seq (.reg [⟨(some 9), none, none, .fieldA 0 (.t 1)⟩,
    ⟨(some 10), none, none, .load false 1 (.t 9)⟩,
    ⟨(some 8), none, none, .mv (.t 10)⟩] none)
      (.fg [8] (.cond (.t 8)
        (.seq (.reg [⟨(some 2), none, none, .mv (.c (.p (.int .i64 (-1))))⟩] none)
        .ret)
        .skip)))))))
  (.fg [] (.seq (.reg [⟨(some 2), none, none, .mv (.c (.p (.int .i64 1)))⟩] none)
  .ret)))),
  [.t 2]⟩

theorem c77 : chkF Try.prog 77 f77 = true := by kernel_rfl

/-- trammel/trammelref02.Sign -/
def f79 : RFun := ⟨(.seq (.reg [⟨(some 1), none, none, .box (.t 0)⟩,
    ⟨(some 2), none, none, .mv (.c (.p (.int .i64 0)))⟩] none)
  (.seq (.reg [⟨(some 4), none, none, .fieldA 1 (.t 1)⟩,
    ⟨(some 5), none, none, .load false 1 (.t 4)⟩,
    ⟨(some 6), none, none, .call .pu 98 [.t 5]⟩,
    ⟨(some 3), none, none, .mv (.t 6)⟩] none)
  (.seq (.block 0
  (.seq (.reg [⟨(some 8), none, none, .mv (.t 3)⟩,
    ⟨(some 9), none, none, .len (.t 8)⟩,
    ⟨(some 10), none, none, .bin .eql (.t 9) (.c (.p (.int .i64 0)))⟩,
    ⟨(some 7), none, none, .mv (.t 10)⟩] none)
    (.fg [1, 7] (.cond (.t 7)
      (.seq (.reg [⟨(some 2), none, none, .mv (.c (.p (.int .i64 0)))⟩] none)
      .ret)
      (.seq (.reg [⟨(some 12), none, none, .fieldA 0 (.t 1)⟩,
    ⟨(some 13), none, none, .load false 1 (.t 12)⟩,
    ⟨(some 11), none, none, .mv (.t 13)⟩] none)
      (.fg [11] (.cond (.t 11)
        (.seq (.reg [⟨(some 2), none, none, .mv (.c (.p (.int .i64 (-1))))⟩] none)
        .ret)
        .skip)))))))
  (.fg [] (.seq (.reg [⟨(some 2), none, none, .mv (.c (.p (.int .i64 1)))⟩] none)
  .ret))))),
  [.t 2]⟩

theorem c79 : chkF Try.prog 79 f79 = true := by kernel_rfl

/-- trammel/mat.Bits -/
def f80 : RFun := ⟨(.seq (.reg [⟨(some 2), none, none, .mv (.c (.p (.int .i64 0)))⟩] none)
  (.seq (.reg [⟨(some 3), none, none, .mv (.c (.p (.int .i64 0)))⟩] none)
  (.seq (.seq (.reg [⟨(some 8), none, none, .mv (.t 0)⟩,
    ⟨(some 9), none, none, .len (.t 8)⟩,
    ⟨(some 10), none, none, .mv (.c (.p (.int .i64 0)))⟩] none)
  (.fg [3, 8, 9, 10] (.block 0
  (.loop (.fg [3, 8, 9, 10]
    (.seq (.reg [⟨(some 11), none, none, .bin .lss (.t 10) (.t 9)⟩] none)
      (.seq (.cond (.t 11)
        .skip
        (.exit 0))
      (.fg [3, 8, 9, 10] (.seq (.block 1
      (.seq (.reg [⟨(some 12), none, none, .indexA 1 (.t 8) (.t 10)⟩,
    ⟨(some 13), none, none, .load false 1 (.t 12)⟩,
    ⟨(some 5), none, none, .mv (.t 13)⟩] none)
        (.seq (.reg [⟨(some 14), none, none, .mv (.t 5)⟩,
    ⟨(some 15), none, none, .len (.t 14)⟩,
    ⟨(some 16), none, none, .mv (.c (.p (.int .i64 0)))⟩] none)
        (.fg [3, 8, 9, 10, 14, 15, 16] (.block 2
        (.loop (.fg [3, 8, 9, 10, 14, 15, 16]
          (.seq (.reg [⟨(some 17), none, none, .bin .lss (.t 16) (.t 15)⟩] none)
            (.seq (.cond (.t 17)
              .skip
              (.exit 2))
            (.fg [3, 8, 9, 10, 14, 15, 16] (.seq (.block 3
            (.seq (.reg [⟨(some 18), none, none, .indexA 2 (.t 14) (.t 16)⟩,
    ⟨(some 19), none, none, .load true 2 (.t 18)⟩,
    ⟨(some 7), none, none, .alloc [.p (.bool false), .nils]⟩,
    ⟨none, none, none, .store 2 (.t 7) (.t 19)⟩] none)
              (.reg [⟨(some 20), none, none, .mv (.t 3)⟩,
    ⟨(some 21), none, none, .load true 2 (.t 7)⟩,
    ⟨(some 22), none, none, .call .pu 121 [.t 21]⟩,
    ⟨(some 23), none, none, .mx (.t 20) (.t 22)⟩,
    ⟨(some 3), none, none, .mv (.t 23)⟩] none)))
            (.fg [3, 8, 9, 10, 14, 15, 16] (.reg [⟨(some 24), none, none, .bin .add (.t 16) (.c (.p (.int .i64 1)))⟩,
    ⟨(some 16), none, none, .mv (.t 24)⟩] none)))))))))))))
      (.fg [3, 8, 9, 10] (.reg [⟨(some 25), none, none, .bin .add (.t 10) (.c (.p (.int .i64 1)))⟩,
    ⟨(some 10), none, none, .mv (.t 25)⟩] none)))))))))))
  (.seq (.reg [⟨(some 26), none, none, .mv (.t 3)⟩,
    ⟨(some 2), none, none, .mv (.t 26)⟩] none)
  .ret)))),
  [.t 2]⟩

theorem c80 : chkF Try.prog 80 f80 = true := by kernel_rfl

/-- trammel/trammelref01.Bits -/
def f82 : RFun := ⟨(.seq (.reg [⟨(some 2), none, none, .mv (.c (.p (.int .i64 0)))⟩] none)
  (.seq (.seq (.reg [⟨(some 6), none, none, .mv (.t 0)⟩,
    ⟨(some 7), none, none, .len (.t 6)⟩,
    ⟨(some 8), none, none, .bin .sub (.t 7) (.c (.p (.int .i64 1)))⟩,
    ⟨(some 3), none, none, .mv (.t 8)⟩] none)
  (.fg [0, 3] (.block 0
  (.loop (.fg [0, 3]
    (.seq (.seq (.reg [⟨(some 9), none, none, .mv (.t 3)⟩,
    ⟨(some 10), none, none, .bin .geq (.t 9) (.c (.p (.int .i64 0)))⟩] none)
      (.fg [0, 3, 10] (.cond (.t 10)
        .skip
        (.exit 0))))
      (.seq (.block 1
      (.seq (.reg [⟨(some 13), none, none, .mv (.t 0)⟩,
    ⟨(some 14), none, none, .mv (.t 3)⟩,
    ⟨(some 15), none, none, .indexA 1 (.t 13) (.t 14)⟩,
    ⟨(some 16), none, none, .load false 1 (.t 15)⟩,
    ⟨(some 17), none, none, .bin .neq (.t 16) (.c (.p (.int .u32 0)))⟩] none)
        (.fg [0, 3, 17] (.cond (.t 17)
          (.seq (.reg [⟨(some 18), none, none, .mv (.t 3)⟩,
    ⟨(some 19), none, none, .bin .mul (.c (.p (.int .i64 32))) (.t 18)⟩,
    ⟨(some 4), none, none, .mv (.t 19)⟩] none)
          (.seq (.seq (.reg [⟨(some 20), none, none, .mv (.t 0)⟩,
    ⟨(some 21), none, none, .mv (.t 3)⟩,
    ⟨(some 22), none, none, .indexA 1 (.t 20) (.t 21)⟩,
    ⟨(some 23), none, none, .load false 1 (.t 22)⟩,
    ⟨(some 5), none, none, .mv (.t 23)⟩] none)
          (.fg [4, 5] (.block 2
          (.loop (.fg [4, 5]
            (.seq (.seq (.reg [⟨(some 24), none, none, .mv (.t 5)⟩,
    ⟨(some 25), none, none, .bin .gtr (.t 24) (.c (.p (.int .u32 0)))⟩] none)
              (.fg [4, 5, 25] (.cond (.t 25)
                .skip
                (.exit 2))))
              (.seq (.block 3
              (.reg [⟨(some 28), none, none, .mv (.t 4)⟩,
    ⟨(some 29), none, none, .bin .add (.t 28) (.c (.p (.int .i64 1)))⟩,
    ⟨(some 4), none, none, .mv (.t 29)⟩] none))
              (.fg [4, 5] (.reg [⟨(some 26), none, none, .mv (.t 5)⟩,
    ⟨(some 27), none, none, .bin .quo (.t 26) (.c (.p (.int .u32 2)))⟩,
    ⟨(some 5), none, none, .mv (.t 27)⟩] none)))))))))
          (.seq (.reg [⟨(some 30), none, none, .mv (.t 4)⟩,
    ⟨(some 2), none, none, .mv (.t 30)⟩] none)
          .ret)))
          .skip))))
      (.fg [0, 3] (.reg [⟨(some 11), none, none, .mv (.t 3)⟩,
    ⟨(some 12), none, none, .bin .sub (.t 11) (.c (.p (.int .i64 1)))⟩,
    ⟨(some 3), none, none, .mv (.t 12)⟩] none)))))))))
  (.seq (.reg [⟨(some 2), none, none, .mv (.c (.p (.int .i64 0)))⟩] none)
  .ret))),
  [.t 2]⟩

theorem c82 : chkF Try.prog 82 f82 = true := by kernel_rfl

/-- trammel/mat.Shape -/
def f93 : RFun := ⟨(.seq (.reg [⟨(some 2), none, none, .mv (.c (.p (.int .i64 0)))⟩,
    ⟨(some 3), none, none, .mv (.c (.p (.int .i64 0)))⟩,
    ⟨(some 4), none, none, .mv (.c (.p (.int .i64 0)))⟩] none)
  (.seq (.seq (.reg [⟨(some 7), none, none, .mv (.t 0)⟩,
    ⟨(some 8), none, none, .len (.t 7)⟩,
    ⟨(some 9), none, none, .bin .eql (.t 8) (.c (.p (.int .i64 0)))⟩] none)
  (.fg [0, 9] (.cond (.t 9)
    (.seq (.reg [⟨(some 2), none, none, .mv (.c (.p (.int .i64 0)))⟩,
    ⟨(some 3), none, none, .mv (.c (.p (.int .i64 0)))⟩,
    ⟨(some 4), none, none, .mv (.c (.p (.int .i64 0)))⟩] none)
    .ret)
    .skip)))
  (.seq (.seq (.reg [⟨(some 10), none, none, .mv (.t 0)⟩,
    ⟨(some 11), none, none, .len (.t 10)⟩,
    ⟨(some 12), none, none, .mv (.c (.p (.int .i64 0)))⟩] none)
  (.fg [0, 10, 11, 12] (.block 0
  (.loop (.fg [0, 10, 11, 12]
    (.seq (.reg [⟨(some 13), none, none, .bin .lss (.t 12) (.t 11)⟩] none)
      (.seq (.cond (.t 13)
        .skip
        (.exit 0))
      (.fg [0, 10, 11, 12] (.seq (.block 1
      (.seq (.reg [⟨(some 14), none, none, .indexA 1 (.t 10) (.t 12)⟩,
    ⟨(some 15), none, none, .load false 1 (.t 14)⟩,
    ⟨(some 6), none, none, .mv (.t 15)⟩] none)
        (.seq (.reg [⟨(some 16), none, none, .mv (.t 6)⟩,
    ⟨(some 17), none, none, .len (.t 16)⟩,
    ⟨(some 18), none, none, .mv (.t 0)⟩,
    ⟨(some 19), none, none, .indexA 1 (.t 18) (.c (.p (.int .i64 0)))⟩,
    ⟨(some 20), none, none, .load false 1 (.t 19)⟩,
    ⟨(some 21), none, none, .len (.t 20)⟩,
    ⟨(some 22), none, none, .bin .neq (.t 17) (.t 21)⟩] none)
        (.fg [0, 10, 11, 12, 22] (.cond (.t 22)
          (.seq (.reg [⟨(some 2), none, none, .mv (.c (.p (.int .i64 0)))⟩,
    ⟨(some 3), none, none, .mv (.c (.p (.int .i64 0)))⟩,
    ⟨(some 4), none, none, .mv (.c (.p (.int .i64 8)))⟩] none)
          .ret)
          .skip)))))
      (.fg [0, 10, 11, 12] (.reg [⟨(some 23), none, none, .bin .add (.t 12) (.c (.p (.int .i64 1)))⟩,
    ⟨(some 12), none, none, .mv (.t 23)⟩] none)))))))))))
  (.seq (.reg [⟨(some 24), none, none, .mv (.t 0)⟩,
    ⟨(some 25), none, none, .len (.t 24)⟩,
    ⟨(some 26), none, none, .mv (.t 0)⟩,
    ⟨(some 27), none, none, .indexA 1 (.t 26) (.c (.p (.int .i64 0)))⟩,
    ⟨(some 28), none, none, .load false 1 (.t 27)⟩,
    ⟨(some 29), none, none, .len (.t 28)⟩,
    ⟨(some 2), none, none, .mv (.t 25)⟩,
    ⟨(some 3), none, none, .mv (.t 29)⟩,
    ⟨(some 4), none, none, .mv (.c (.p (.int .i64 0)))⟩] (some (0, [])))
  .ret)))),
  [.t 2, .t 3, .t 4]⟩

theorem c93 : chkF Try.prog 93 f93 = true := by kernel_rfl

/-- trammel/trammelref01.Norm -/
def f98 : RFun := ⟨(.seq (.reg [⟨(some 2), none, none, .mv (.c (.nils))⟩] none)
  (.seq (.reg [⟨(some 6), none, none, .mv (.t 0)⟩,
    ⟨(some 7), none, none, .len (.t 6)⟩,
    ⟨(some 3), none, none, .mv (.t 7)⟩] none)
  (.seq (.block 0
  (.loop (.fg [0, 3]
    (.seq (.seq (.reg [⟨(some 8), none, none, .mv (.t 3)⟩,
    ⟨(some 9), none, none, .bin .gtr (.t 8) (.c (.p (.int .i64 0)))⟩,
    ⟨(some 10), none, none, .mv (.t 9)⟩,
    ⟨(some 11), (some (10, true)), none, .mv (.t 0)⟩,
    ⟨(some 12), (some (10, true)), none, .mv (.t 3)⟩,
    ⟨(some 13), (some (10, true)), none, .bin .sub (.t 12) (.c (.p (.int .i64 1)))⟩,
    ⟨(some 14), (some (10, true)), none, .indexA 1 (.t 11) (.t 13)⟩,
    ⟨(some 15), (some (10, true)), none, .load false 1 (.t 14)⟩,
    ⟨(some 16), (some (10, true)), none, .bin .eql (.t 15) (.c (.p (.int .u32 0)))⟩,
    ⟨(some 17), none, none, .pick (.t 10) (.t 16) (.c (.p (.bool false)))⟩] none)
      (.fg [0, 3, 17] (.cond (.t 17)
        .skip
        (.exit 0))))
      (.fg [0, 3] (.block 1
      (.reg [⟨(some 18), none, none, .mv (.t 3)⟩,
    ⟨(some 19), none, none, .bin .sub (.t 18) (.c (.p (.int .i64 1)))⟩,
    ⟨(some 3), none, none, .mv (.t 19)⟩] none)))))))
  (.fg [0, 3] (.seq (.reg [⟨(some 4), none, none, .mv (.c (.nils))⟩] none)
  (.seq (.seq (.reg [⟨(some 5), none, none, .mv (.c (.p (.int .i64 0)))⟩] none)
  (.fg [0, 3, 4, 5] (.block 2
  (.loop (.fg [0, 3, 4, 5]
    (.seq (.seq (.reg [⟨(some 20), none, none, .mv (.t 5)⟩,
    ⟨(some 21), none, none, .mv (.t 3)⟩,
    ⟨(some 22), none, none, .bin .lss (.t 20) (.t 21)⟩] none)
      (.fg [0, 3, 4, 5, 22] (.cond (.t 22)
        .skip
        (.exit 2))))
      (.seq (.block 3
      (.reg [⟨(some 25), none, none, .mv (.t 4)⟩,
    ⟨(some 26), none, none, .mv (.t 0)⟩,
    ⟨(some 27), none, none, .mv (.t 5)⟩,
    ⟨(some 28), none, none, .indexA 1 (.t 26) (.t 27)⟩,
    ⟨(some 29), none, none, .load false 1 (.t 28)⟩,
    ⟨(some 30), none, none, .bslice 1 [.t 29]⟩,
    ⟨(some 31), none, none, .append 1 4 (.t 25) (.t 30)⟩,
    ⟨(some 4), none, none, .mv (.t 31)⟩] none))
      (.fg [0, 3, 4, 5] (.reg [⟨(some 23), none, none, .mv (.t 5)⟩,
    ⟨(some 24), none, none, .bin .add (.t 23) (.c (.p (.int .i64 1)))⟩,
    ⟨(some 5), none, none, .mv (.t 24)⟩] none)))))))))
  (.seq (.reg [⟨(some 32), none, none, .mv (.t 4)⟩,
    ⟨(some 2), none, none, .mv (.t 32)⟩] none)
  .ret))))))),
  [.t 2]⟩

theorem c98 : chkF Try.prog 98 f98 = true := by kernel_rfl

/-- trammel/trammelref01.Gcd -/
def f99 : RFun := ⟨(.seq (.reg [⟨(some 4), none, none, .mv (.c (.nils))⟩] none)
  (.seq (.reg [⟨(some 10), none, none, .mv (.t 0)⟩,
    ⟨(some 11), none, none, .call .pu 98 [.t 10]⟩,
    ⟨(some 5), none, none, .mv (.t 11)⟩] none)
  (.seq (.reg [⟨(some 12), none, none, .mv (.t 1)⟩,
    ⟨(some 13), none, none, .call .pu 98 [.t 12]⟩,
    ⟨(some 6), none, none, .mv (.t 13)⟩] none)
  (.seq (.block 0
  (.loop (.fg [5, 6]
    (.seq (.seq (.reg [⟨(some 14), none, none, .mv (.t 6)⟩,
    ⟨(some 15), none, none, .len (.t 14)⟩,
    ⟨(some 16), none, none, .bin .gtr (.t 15) (.c (.p (.int .i64 0)))⟩] none)
      (.fg [5, 6, 16] (.cond (.t 16)
        .skip
        (.exit 0))))
      (.fg [5, 6] (.block 1
      (.seq (.reg [⟨(some 18), none, none, .mv (.t 5)⟩,
    ⟨(some 19), none, none, .mv (.t 6)⟩,
    ⟨(some 20), none, none, .call .pu 135 [.t 18, .t 19]⟩,
    ⟨(some 17), none, none, .mv (.t 20)⟩,
    ⟨(some 21), none, none, .extract (.t 17) 0⟩,
    ⟨(some 22), none, none, .extract (.t 17) 1⟩,
    ⟨(some 23), none, none, .extract (.t 17) 2⟩,
    ⟨(some 7), none, none, .mv (.t 21)⟩,
    ⟨(some 8), none, none, .mv (.t 22)⟩,
    ⟨(some 9), none, none, .mv (.t 23)⟩] none)
        (.seq (.reg [⟨(some 24), none, none, .mv (.t 6)⟩,
    ⟨(some 5), none, none, .mv (.t 24)⟩] none)
        (.reg [⟨(some 25), none, none, .mv (.t 8)⟩,
    ⟨(some 6), none, none, .mv (.t 25)⟩] none)))))))))
  (.fg [5] (.seq (.reg [⟨(some 26), none, none, .mv (.t 5)⟩,
    ⟨(some 4), none, none, .mv (.t 26)⟩] none)
  .ret)))))),
  [.t 4]⟩

theorem c99 : chkF Try.prog 99 f99 = true := by kernel_rfl

/-- trammel/zint.made -/
def f105 : RFun := ⟨(.seq (.reg [⟨(some 4), none, none, .alloc [.p (.bool false), .nils]⟩] none)
  (.seq (.reg [⟨(some 7), none, none, .mv (.t 1)⟩,
    ⟨(some 8), none, none, .len (.t 7)⟩,
    ⟨(some 5), none, none, .mv (.t 8)⟩] none)
  (.seq (.block 0
  (.loop (.fg [0, 1, 4, 5]
    (.seq (.seq (.reg [⟨(some 9), none, none, .mv (.t 5)⟩,
    ⟨(some 10), none, none, .bin .gtr (.t 9) (.c (.p (.int .i64 0)))⟩,
    ⟨(some 11), none, none, .mv (.t 10)⟩,
    ⟨(some 12), (some (11, true)), none, .mv (.t 1)⟩,
    ⟨(some 13), (some (11, true)), none, .mv (.t 5)⟩,
    ⟨(some 14), (some (11, true)), none, .bin .sub (.t 13) (.c (.p (.int .i64 1)))⟩,
    ⟨(some 15), (some (11, true)), none, .indexA 1 (.t 12) (.t 14)⟩,
    ⟨(some 16), (some (11, true)), none, .load false 1 (.t 15)⟩,
    ⟨(some 17), (some (11, true)), none, .bin .eql (.t 16) (.c (.p (.int .u32 0)))⟩,
    ⟨(some 18), none, none, .pick (.t 11) (.t 17) (.c (.p (.bool false)))⟩] none)
      (.fg [0, 1, 4, 5, 18] (.cond (.t 18)
        .skip
        (.exit 0))))
      (.fg [0, 1, 4, 5] (.block 1
      (.reg [⟨(some 19), none, none, .mv (.t 5)⟩,
    ⟨(some 20), none, none, .bin .sub (.t 19) (.c (.p (.int .i64 1)))⟩,
    ⟨(some 5), none, none, .mv (.t 20)⟩] none)))))))
  (.fg [0, 1, 4, 5] (.seq (.seq (.reg [⟨(some 21), none, none, .mv (.t 5)⟩,
    ⟨(some 22), none, none, .bin .eql (.t 21) (.c (.p (.int .i64 0)))⟩] none)
  (.fg [0, 1, 4, 5, 22] (.cond (.t 22)
    (.seq (.reg [⟨(some 23), none, none, .build [.p (.bool false), .nils] []⟩,
    ⟨none, none, none, .store 2 (.t 4) (.t 23)⟩] none)
    .ret)
    .skip)))
  (.seq (.reg [⟨(some 24), none, none, .mv (.t 5)⟩,
    ⟨(some 25), none, none, .mks false 1 4 (.int .u32 0) (.t 24) (.t 24)⟩,
    ⟨(some 6), none, none, .mv (.t 25)⟩] none)
  (.seq (.reg [⟨(some 26), none, none, .mv (.t 6)⟩,
    ⟨(some 27), none, none, .mv (.t 1)⟩,
    ⟨(some 28), none, none, .copy 1 (.t 26) (.t 27)⟩] none)
  (.seq (.reg [⟨(some 29), none, none, .mv (.t 0)⟩,
    ⟨(some 30), none, none, .mv (.t 6)⟩,
    ⟨(some 31), none, none, .build [.p (.bool false), .nils] [(0, 1, .t 29), (1, 1, .t 30)]⟩,
    ⟨none, none, none, .store 2 (.t 4) (.t 31)⟩] none)
  .ret)))))))),
  [.cell 4 true 2]⟩

theorem c105 : chkF Try.prog 105 f105 = true := by kernel_rfl

/-- trammel/trammelref02.made -/
def f107 : RFun := ⟨(.seq (.reg [⟨(some 4), none, none, .alloc [.p (.bool false), .nils]⟩] none)
  (.seq (.reg [⟨(some 6), none, none, .mv (.t 1)⟩,
    ⟨(some 7), none, none, .call .pu 98 [.t 6]⟩,
    ⟨(some 5), none, none, .mv (.t 7)⟩] none)
  (.seq (.reg [⟨(some 8), none, none, .mv (.t 0)⟩,
    ⟨(some 9), none, none, .mv (.t 8)⟩,
    ⟨(some 10), (some (9, true)), none, .mv (.t 5)⟩,
    ⟨(some 11), (some (9, true)), none, .len (.t 10)⟩,
    ⟨(some 12), (some (9, true)), none, .bin .gtr (.t 11) (.c (.p (.int .i64 0)))⟩,
    ⟨(some 13), none, none, .pick (.t 9) (.t 12) (.c (.p (.bool false)))⟩,
    ⟨(some 14), none, none, .mv (.t 5)⟩,
    ⟨(some 15), none, none, .build [.p (.bool false), .nils] [(0, 1, .t 13), (1, 1, .t 14)]⟩,
    ⟨none, none, none, .store 2 (.t 4) (.t 15)⟩] none)
  .ret))),
  [.cell 4 true 2]⟩

theorem c107 : chkF Try.prog 107 f107 = true := by kernel_rfl

/-- trammel/gso.of -/
def f108 : RFun := ⟨(.seq (.reg [⟨(some 4), none, none, .alloc [.nils, .nils]⟩,
    ⟨(some 5), none, none, .mv (.c (.p (.int .i64 0)))⟩] none)
  (.seq (.seq (.reg [⟨(some 9), none, none, .mv (.t 0)⟩,
    ⟨(some 10), none, none, .mv (.t 1)⟩,
    ⟨(some 11), none, none, .call .pu 137 [.t 9, .t 10]⟩,
    ⟨(some 6), none, none, .mv (.t 11)⟩] none)
  (.seq (.reg [⟨(some 12), none, none, .mv (.t 6)⟩,
    ⟨(some 13), none, none, .bin .neq (.t 12) (.c (.p (.int .i64 0)))⟩] none)
  (.fg [0, 4, 6, 13] (.cond (.t 13)
    (.seq (.reg [⟨(some 14), none, none, .build [.nils, .nils] []⟩,
    ⟨(some 15), none, none, .mv (.t 6)⟩,
    ⟨none, none, none, .store 2 (.t 4) (.t 14)⟩,
    ⟨(some 5), none, none, .mv (.t 15)⟩] none)
    .ret)
    .skip))))
  (.seq (.reg [⟨(some 17), none, none, .mv (.t 0)⟩,
    ⟨(some 18), none, none, .call .pu 138 [.t 17]⟩,
    ⟨(some 16), none, none, .mv (.t 18)⟩,
    ⟨(some 19), none, none, .extract (.t 16) 0⟩,
    ⟨(some 20), none, none, .extract (.t 16) 1⟩,
    ⟨(some 7), none, none, .alloc [.nils, .nils]⟩,
    ⟨none, none, none, .store 2 (.t 7) (.t 19)⟩,
    ⟨(some 8), none, none, .mv (.t 20)⟩] none)
  (.seq (.seq (.reg [⟨(some 21), none, none, .mv (.t 8)⟩,
    ⟨(some 22), none, none, .un .not (.t 21)⟩] none)
  (.fg [4, 7, 22] (.cond (.t 22)
    (.seq (.reg [⟨(some 23), none, none, .build [.nils, .nils] []⟩,
    ⟨none, none, none, .store 2 (.t 4) (.t 23)⟩,
    ⟨(some 5), none, none, .mv (.c (.p (.int .i64 50)))⟩] none)
    .ret)
    .skip)))
  (.seq (.reg [⟨(some 24), none, none, .load true 2 (.t 7)⟩,
    ⟨none, none, none, .store 2 (.t 4) (.t 24)⟩,
    ⟨(some 5), none, none, .mv (.c (.p (.int .i64 0)))⟩] none)
  .ret))))),
  [.cell 4 true 2, .t 5]⟩

theorem c108 : chkF Try.prog 108 f108 = true := by kernel_rfl

/-- trammel/trammelref02.Add -/
def f109 : RFun := ⟨(.seq (.reg [⟨(some 2), none, none, .box (.t 0)⟩,
    ⟨(some 3), none, none, .box (.t 1)⟩,
    ⟨(some 4), none, none, .alloc [.p (.bool false), .nils]⟩] none)
  (.seq (.seq (.reg [⟨(some 9), none, none, .fieldA 0 (.t 2)⟩,
    ⟨(some 10), none, none, .load false 1 (.t 9)⟩,
    ⟨(some 11), none, none, .fieldA 0 (.t 3)⟩,
    ⟨(some 12), none, none, .load false 1 (.t 11)⟩,
    ⟨(some 13), none, none, .beq false (.t 10) (.t 12)⟩] none)
  (.fg [2, 3, 4, 13] (.cond (.t 13)
    (.seq (.reg [⟨(some 14), none, none, .fieldA 0 (.t 2)⟩,
    ⟨(some 15), none, none, .load false 1 (.t 14)⟩,
    ⟨(some 16), none, none, .fieldA 1 (.t 2)⟩,
    ⟨(some 17), none, none, .load false 1 (.t 16)⟩,
    ⟨(some 18), none, none, .fieldA 1 (.t 3)⟩,
    ⟨(some 19), none, none, .load false 1 (.t 18)⟩,
    ⟨(some 20), none, none, .call .pu 139 [.t 17, .t 19]⟩,
    ⟨(some 21), none, none, .call .pu 107 [.t 15, .t 20]⟩,
    ⟨none, none, none, .store 2 (.t 4) (.t 21)⟩] (some (0, [])))
    .ret)
    .skip)))
  (.seq (.seq (.reg [⟨(some 22), none, none, .fieldA 1 (.t 2)⟩,
    ⟨(some 23), none, none, .load false 1 (.t 22)⟩,
    ⟨(some 24), none, none, .fieldA 1 (.t 3)⟩,
    ⟨(some 25), none, none, .load false 1 (.t 24)⟩,
    ⟨(some 26), none, none, .call .pu 140 [.t 23, .t 25]⟩,
    ⟨(some 27), none, none, .bin .geq (.t 26) (.c (.p (.int .i64 0)))⟩] none)
  (.fg [2, 3, 4, 27] (.cond (.t 27)
    (.seq (.reg [⟨(some 29), none, none, .fieldA 1 (.t 2)⟩,
    ⟨(some 30), none, none, .load false 1 (.t 29)⟩,
    ⟨(some 31), none, none, .fieldA 1 (.t 3)⟩,
    ⟨(some 32), none, none, .load false 1 (.t 31)⟩,
    ⟨(some 33), none, none, .call .pu 141 [.t 30, .t 32]⟩,
    ⟨(some 28), none, none, .mv (.t 33)⟩,
    ⟨(some 34), none, none, .extract (.t 28) 0⟩,
    ⟨(some 35), none, none, .extract (.t 28) 1⟩,
    ⟨(some 5), none, none, .mv (.t 34)⟩,
    ⟨(some 6), none, none, .mv (.t 35)⟩] none)
    (.seq (.reg [⟨(some 36), none, none, .fieldA 0 (.t 2)⟩,
    ⟨(some 37), none, none, .load false 1 (.t 36)⟩,
    ⟨(some 38), none, none, .mv (.t 5)⟩,
    ⟨(some 39), none, none, .call .pu 107 [.t 37, .t 38]⟩,
    ⟨none, none, none, .store 2 (.t 4) (.t 39)⟩] none)
    .ret))
    .skip)))
  (.seq (.reg [⟨(some 41), none, none, .fieldA 1 (.t 3)⟩,
    ⟨(some 42), none, none, .load false 1 (.t 41)⟩,
    ⟨(some 43), none, none, .fieldA 1 (.t 2)⟩,
    ⟨(some 44), none, none, .load false 1 (.t 43)⟩,
    ⟨(some 45), none, none, .call .pu 141 [.t 42, .t 44]⟩,
    ⟨(some 40), none, none, .mv (.t 45)⟩,
    ⟨(some 46), none, none, .extract (.t 40) 0⟩,
    ⟨(some 47), none, none, .extract (.t 40) 1⟩,
    ⟨(some 7), none, none, .mv (.t 46)⟩,
    ⟨(some 8), none, none, .mv (.t 47)⟩] none)
  (.seq (.reg [⟨(some 48), none, none, .fieldA 0 (.t 3)⟩,
    ⟨(some 49), none, none, .load false 1 (.t 48)⟩,
    ⟨(some 50), none, none, .mv (.t 7)⟩,
    ⟨(some 51), none, none, .call .pu 107 [.t 49, .t 50]⟩,
    ⟨none, none, none, .store 2 (.t 4) (.t 51)⟩] none)
  .ret))))),
  [.cell 4 true 2]⟩

theorem c109 : chkF Try.prog 109 f109 = true := by kernel_rfl

/-- trammel/trammelref05.check -/
def f110 : RFun := ⟨(.seq (.reg [⟨(some 4), none, none, .alloc [.nils, .nils]⟩,
    ⟨(some 5), none, none, .mv (.c (.p (.int .i64 0)))⟩] none)
  (.seq (.reg [⟨(some 9), none, none, .mv (.t 0)⟩,
    ⟨(some 10), none, none, .mv (.t 1)⟩,
    ⟨(some 11), none, none, .call .pu 142 [.t 9, .t 10]⟩,
    ⟨(some 6), none, none, .mv (.t 11)⟩] none)
  (.seq (.seq (.reg [⟨(some 12), none, none, .mv (.t 6)⟩,
    ⟨(some 13), none, none, .bin .neq (.t 12) (.c (.p (.int .i64 0)))⟩] none)
  (.fg [0, 4, 6, 13] (.cond (.t 13)
    (.seq (.reg [⟨(some 14), none, none, .build [.nils, .nils] []⟩,
    ⟨(some 15), none, none, .mv (.t 6)⟩,
    ⟨none, none, none, .store 2 (.t 4) (.t 14)⟩,
    ⟨(some 5), none, none, .mv (.t 15)⟩] none)
    .ret)
    .skip)))
  (.seq (.reg [⟨(some 17), none, none, .mv (.t 0)⟩,
    ⟨(some 18), none, none, .call .pu 143 [.t 17]⟩,
    ⟨(some 16), none, none, .mv (.t 18)⟩,
    ⟨(some 19), none, none, .extract (.t 16) 0⟩,
    ⟨(some 20), none, none, .extract (.t 16) 1⟩,
    ⟨(some 7), none, none, .alloc [.nils, .nils]⟩,
    ⟨none, none, none, .store 2 (.t 7) (.t 19)⟩,
    ⟨(some 8), none, none, .mv (.t 20)⟩] none)
  (.seq (.seq (.reg [⟨(some 21), none, none, .mv (.t 8)⟩,
    ⟨(some 22), none, none, .un .not (.t 21)⟩] none)
  (.fg [4, 7, 22] (.cond (.t 22)
    (.seq (.reg [⟨(some 23), none, none, .build [.nils, .nils] []⟩,
    ⟨none, none, none, .store 2 (.t 4) (.t 23)⟩,
    ⟨(some 5), none, none, .mv (.c (.p (.int .i64 50)))⟩] none)
    .ret)
    .skip)))
  (.seq (.reg [⟨(some 24), none, none, .load true 2 (.t 7)⟩,
    ⟨none, none, none, .store 2 (.t 4) (.t 24)⟩,
    ⟨(some 5), none, none, .mv (.c (.p (.int .i64 0)))⟩] none)
  .ret)))))),
  [.cell 4 true 2, .t 5]⟩

theorem c110 : chkF Try.prog 110 f110 = true := by kernel_rfl

/-- trammel/nat.Mul -/
def f111 : RFun := ⟨(.seq (.reg [⟨(some 4), none, none, .mv (.c (.nils))⟩] none)
  (.seq (.reg [⟨(some 9), none, none, .mv (.t 0)⟩,
    ⟨(some 10), none, none, .call .pu 144 [.t 9]⟩,
    ⟨(some 11), none, none, .mv (.t 1)⟩,
    ⟨(some 12), none, none, .call .pu 144 [.t 11]⟩,
    ⟨(some 0), none, none, .mv (.t 10)⟩,
    ⟨(some 1), none, none, .mv (.t 12)⟩] none)
  (.seq (.reg [⟨(some 13), none, none, .mv (.t 0)⟩,
    ⟨(some 14), none, none, .len (.t 13)⟩,
    ⟨(some 15), none, none, .mv (.t 1)⟩,
    ⟨(some 16), none, none, .len (.t 15)⟩,
    ⟨(some 17), none, none, .bin .add (.t 14) (.t 16)⟩,
    ⟨(some 18), none, none, .mks false 1 4 (.int .u32 0) (.t 17) (.t 17)⟩,
    ⟨(some 5), none, none, .mv (.t 18)⟩] none)
  (.seq (.seq (.reg [⟨(some 19), none, none, .mv (.t 0)⟩,
    ⟨(some 20), none, none, .len (.t 19)⟩,
    ⟨(some 21), none, none, .mv (.c (.p (.int .i64 0)))⟩] none)
  (.fg [0, 1, 5, 20, 21] (.block 0
  (.loop (.fg [0, 1, 5, 20, 21]
    (.seq (.reg [⟨(some 22), none, none, .bin .lss (.t 21) (.t 20)⟩] none)
      (.seq (.cond (.t 22)
        .skip
        (.exit 0))
      (.fg [0, 1, 5, 20, 21] (.seq (.block 1
      (.seq (.reg [⟨(some 23), none, none, .mv (.t 21)⟩,
    ⟨(some 6), none, none, .mv (.t 23)⟩] none)
        (.seq (.reg [⟨(some 7), none, none, .mv (.c (.p (.int .u64 0)))⟩] none)
        (.seq (.seq (.reg [⟨(some 24), none, none, .mv (.t 1)⟩,
    ⟨(some 25), none, none, .len (.t 24)⟩,
    ⟨(some 26), none, none, .mv (.c (.p (.int .i64 0)))⟩] none)
        (.fg [0, 1, 5, 6, 7, 20, 21, 25, 26] (.block 2
        (.loop (.fg [0, 1, 5, 6, 7, 20, 21, 25, 26]
          (.seq (.reg [⟨(some 27), none, none, .bin .lss (.t 26) (.t 25)⟩] none)
            (.seq (.cond (.t 27)
              .skip
              (.exit 2))
            (.fg [0, 1, 5, 6, 7, 20, 21, 25, 26] (.seq (.block 3
            (.seq (.reg [⟨(some 28), none, none, .mv (.t 26)⟩,
    ⟨(some 8), none, none, .mv (.t 28)⟩] none)
              (.seq (.reg [⟨(some 29), none, none, .mv (.t 7)⟩,
    ⟨(some 30), none, none, .mv (.t 0)⟩,
    ⟨(some 31), none, none, .mv (.t 6)⟩,
    ⟨(some 32), none, none, .indexA 1 (.t 30) (.t 31)⟩,
    ⟨(some 33), none, none, .load false 1 (.t 32)⟩,
    ⟨(some 34), none, none, .conv .u64 (.t 33)⟩,
    ⟨(some 35), none, none, .mv (.t 1)⟩,
    ⟨(some 36), none, none, .mv (.t 8)⟩,
    ⟨(some 37), none, none, .indexA 1 (.t 35) (.t 36)⟩,
    ⟨(some 38), none, none, .load false 1 (.t 37)⟩,
    ⟨(some 39), none, none, .conv .u64 (.t 38)⟩,
    ⟨(some 40), none, none, .bin .mul (.t 34) (.t 39)⟩,
    ⟨(some 41), none, none, .mv (.t 5)⟩,
    ⟨(some 42), none, none, .mv (.t 6)⟩,
    ⟨(some 43), none, none, .mv (.t 8)⟩,
    ⟨(some 44), none, none, .bin .add (.t 42) (.t 43)⟩,
    ⟨(some 45), none, none, .indexA 1 (.t 41) (.t 44)⟩,
    ⟨(some 46), none, none, .load false 1 (.t 45)⟩,
    ⟨(some 47), none, none, .conv .u64 (.t 46)⟩,
    ⟨(some 48), none, none, .bin .add (.t 40) (.t 47)⟩,
    ⟨(some 49), none, none, .bin .add (.t 29) (.t 48)⟩,
    ⟨(some 7), none, none, .mv (.t 49)⟩] (some (0, [])))
              (.seq (.reg [⟨(some 50), none, none, .mv (.t 5)⟩,
    ⟨(some 51), none, none, .mv (.t 6)⟩,
    ⟨(some 52), none, none, .mv (.t 8)⟩,
    ⟨(some 53), none, none, .bin .add (.t 51) (.t 52)⟩,
    ⟨(some 54), none, none, .mv (.t 7)⟩,
    ⟨(some 55), none, none, .conv .u32 (.t 54)⟩,
    ⟨(some 56), none, none, .indexA 1 (.t 50) (.t 53)⟩,
    ⟨none, none, none, .store 1 (.t 56) (.t 55)⟩] none)
              (.reg [⟨(some 57), none, none, .mv (.t 7)⟩,
    ⟨(some 58), none, none, .bin .shr (.t 57) (.c (.p (.int .u64 32)))⟩,
    ⟨(some 7), none, none, .mv (.t 58)⟩] none)))))
            (.fg [0, 1, 5, 6, 7, 20, 21, 25, 26] (.reg [⟨(some 59), none, none, .bin .add (.t 26) (.c (.p (.int .i64 1)))⟩,
    ⟨(some 26), none, none, .mv (.t 59)⟩] none)))))))))))
        (.reg [⟨(some 60), none, none, .mv (.t 5)⟩,
    ⟨(some 61), none, none, .mv (.t 6)⟩,
    ⟨(some 62), none, none, .mv (.t 1)⟩,
    ⟨(some 63), none, none, .len (.t 62)⟩,
    ⟨(some 64), none, none, .bin .add (.t 61) (.t 63)⟩,
    ⟨(some 65), none, none, .mv (.t 7)⟩,
    ⟨(some 66), none, none, .conv .u32 (.t 65)⟩,
    ⟨(some 67), none, none, .indexA 1 (.t 60) (.t 64)⟩,
    ⟨none, none, none, .store 1 (.t 67) (.t 66)⟩] none)))))
      (.fg [0, 1, 5, 20, 21] (.reg [⟨(some 68), none, none, .bin .add (.t 21) (.c (.p (.int .i64 1)))⟩,
    ⟨(some 21), none, none, .mv (.t 68)⟩] none)))))))))))
  (.seq (.reg [⟨(some 69), none, none, .mv (.t 5)⟩,
    ⟨(some 70), none, none, .call .fz 144 [.t 69]⟩,
    ⟨(some 4), none, none, .mv (.t 70)⟩] none)
  .ret))))),
  [.t 4]⟩

theorem c111 : chkF Try.prog 111 f111 = true := by kernel_rfl

/-- trammel/mat.dot -/
def f112 : RFun := ⟨(.seq (.reg [⟨(some 4), none, none, .alloc [.p (.bool false), .nils]⟩] none)
  (.seq (.reg [⟨(some 5), none, none, .alloc [.p (.bool false), .nils]⟩] none)
  (.seq (.seq (.reg [⟨(some 7), none, none, .mv (.t 0)⟩,
    ⟨(some 8), none, none, .len (.t 7)⟩,
    ⟨(some 9), none, none, .mv (.c (.p (.int .i64 0)))⟩] none)
  (.fg [0, 1, 4, 5, 8, 9] (.block 0
  (.loop (.fg [0, 1, 4, 5, 8, 9]
    (.seq (.reg [⟨(some 10), none, none, .bin .lss (.t 9) (.t 8)⟩] none)
      (.seq (.cond (.t 10)
        .skip
        (.exit 0))
      (.fg [0, 1, 4, 5, 8, 9] (.seq (.block 1
      (.seq (.reg [⟨(some 11), none, none, .mv (.t 9)⟩,
    ⟨(some 6), none, none, .mv (.t 11)⟩] none)
        (.reg [⟨(some 12), none, none, .load true 2 (.t 5)⟩,
    ⟨(some 13), none, none, .mv (.t 0)⟩,
    ⟨(some 14), none, none, .mv (.t 6)⟩,
    ⟨(some 15), none, none, .indexA 2 (.t 13) (.t 14)⟩,
    ⟨(some 16), none, none, .load true 2 (.t 15)⟩,
    ⟨(some 17), none, none, .mv (.t 1)⟩,
    ⟨(some 18), none, none, .mv (.t 6)⟩,
    ⟨(some 19), none, none, .indexA 2 (.t 17) (.t 18)⟩,
    ⟨(some 20), none, none, .load true 2 (.t 19)⟩,
    ⟨(some 21), none, none, .call .pu 63 [.t 16, .t 20]⟩,
    ⟨(some 22), none, none, .call .pu 145 [.t 12, .t 21]⟩,
    ⟨none, none, none, .store 2 (.t 5) (.t 22)⟩] (some (0, [])))))
      (.fg [0, 1, 4, 5, 8, 9] (.reg [⟨(some 23), none, none, .bin .add (.t 9) (.c (.p (.int .i64 1)))⟩,
    ⟨(some 9), none, none, .mv (.t 23)⟩] none)))))))))))
  (.seq (.reg [⟨(some 24), none, none, .load true 2 (.t 5)⟩,
    ⟨none, none, none, .store 2 (.t 4) (.t 24)⟩] none)
  .ret)))),
  [.cell 4 true 2]⟩

theorem c112 : chkF Try.prog 112 f112 = true := by kernel_rfl

/-- trammel/trammelref02.Mul -/
def f117 : RFun := ⟨(.seq (.reg [⟨(some 2), none, none, .box (.t 0)⟩,
    ⟨(some 3), none, none, .box (.t 1)⟩,
    ⟨(some 4), none, none, .alloc [.p (.bool false), .nils]⟩] none)
  (.seq (.reg [⟨(some 5), none, none, .fieldA 0 (.t 2)⟩,
    ⟨(some 6), none, none, .load false 1 (.t 5)⟩,
    ⟨(some 7), none, none, .fieldA 0 (.t 3)⟩,
    ⟨(some 8), none, none, .load false 1 (.t 7)⟩,
    ⟨(some 9), none, none, .beq true (.t 6) (.t 8)⟩,
    ⟨(some 10), none, none, .fieldA 1 (.t 2)⟩,
    ⟨(some 11), none, none, .load false 1 (.t 10)⟩,
    ⟨(some 12), none, none, .fieldA 1 (.t 3)⟩,
    ⟨(some 13), none, none, .load false 1 (.t 12)⟩,
    ⟨(some 14), none, none, .call .pu 147 [.t 11, .t 13]⟩,
    ⟨(some 15), none, none, .call .pu 107 [.t 9, .t 14]⟩,
    ⟨none, none, none, .store 2 (.t 4) (.t 15)⟩] (some (0, [])))
  .ret)),
  [.cell 4 true 2]⟩

theorem c117 : chkF Try.prog 117 f117 = true := by kernel_rfl

/-- trammel/nat.Bits -/
def f119 : RFun := ⟨(.seq (.reg [⟨(some 2), none, none, .mv (.c (.p (.int .i64 0)))⟩] none)
  (.seq (.reg [⟨(some 3), none, none, .mv (.t 0)⟩,
    ⟨(some 4), none, none, .call .pu 144 [.t 3]⟩,
    ⟨(some 0), none, none, .mv (.t 4)⟩] none)
  (.seq (.seq (.reg [⟨(some 5), none, none, .mv (.t 0)⟩,
    ⟨(some 6), none, none, .len (.t 5)⟩,
    ⟨(some 7), none, none, .bin .eql (.t 6) (.c (.p (.int .i64 0)))⟩] none)
  (.fg [0, 7] (.cond (.t 7)
    (.seq (.reg [⟨(some 2), none, none, .mv (.c (.p (.int .i64 0)))⟩] none)
    .ret)
    .skip)))
  (.seq (.reg [⟨(some 8), none, none, .mv (.t 0)⟩,
    ⟨(some 9), none, none, .len (.t 8)⟩,
    ⟨(some 10), none, none, .bin .sub (.t 9) (.c (.p (.int .i64 1)))⟩,
    ⟨(some 11), none, none, .bin .mul (.c (.p (.int .i64 32))) (.t 10)⟩,
    ⟨(some 12), none, none, .mv (.t 0)⟩,
    ⟨(some 13), none, none, .mv (.t 0)⟩,
    ⟨(some 14), none, none, .len (.t 13)⟩,
    ⟨(some 15), none, none, .bin .sub (.t 14) (.c (.p (.int .i64 1)))⟩,
    ⟨(some 16), none, none, .indexA 1 (.t 12) (.t 15)⟩,
    ⟨(some 17), none, none, .load false 1 (.t 16)⟩,
    ⟨(some 18), none, none, .call .pu 148 [.t 17]⟩,
    ⟨(some 19), none, none, .bin .add (.t 11) (.t 18)⟩,
    ⟨(some 2), none, none, .mv (.t 19)⟩] none)
  .ret)))),
  [.t 2]⟩

theorem c119 : chkF Try.prog 119 f119 = true := by kernel_rfl

/-- trammel/zint.Bits -/
def f121 : RFun := ⟨(.seq (.reg [⟨(some 1), none, none, .box (.t 0)⟩,
    ⟨(some 2), none, none, .mv (.c (.p (.int .i64 0)))⟩] none)
  (.seq (.reg [⟨(some 3), none, none, .fieldA 1 (.t 1)⟩,
    ⟨(some 4), none, none, .load false 1 (.t 3)⟩,
    ⟨(some 5), none, none, .call .pu 119 [.t 4]⟩,
    ⟨(some 2), none, none, .mv (.t 5)⟩] none)
  .ret)),
  [.t 2]⟩

theorem c121 : chkF Try.prog 121 f121 = true := by kernel_rfl

/-- trammel/zint.Floor -/
def f134 : RFun := ⟨(.seq (.reg [⟨(some 2), none, none, .box (.t 0)⟩,
    ⟨(some 3), none, none, .box (.t 1)⟩,
    ⟨(some 4), none, none, .alloc [.p (.bool false), .nils]⟩,
    ⟨(some 5), none, none, .alloc [.p (.bool false), .nils]⟩,
    ⟨(some 6), none, none, .mv (.c (.p (.int .i64 0)))⟩] none)
  (.seq (.reg [⟨(some 13), none, none, .fieldA 1 (.t 2)⟩,
    ⟨(some 14), none, none, .load false 1 (.t 13)⟩,
    ⟨(some 15), none, none, .fieldA 1 (.t 3)⟩,
    ⟨(some 16), none, none, .load false 1 (.t 15)⟩,
    ⟨(some 17), none, none, .call .pu 159 [.t 14, .t 16]⟩,
    ⟨(some 12), none, none, .mv (.t 17)⟩,
    ⟨(some 18), none, none, .extract (.t 12) 0⟩,
    ⟨(some 19), none, none, .extract (.t 12) 1⟩,
    ⟨(some 20), none, none, .extract (.t 12) 2⟩,
    ⟨(some 7), none, none, .mv (.t 18)⟩,
    ⟨(some 8), none, none, .mv (.t 19)⟩,
    ⟨(some 9), none, none, .mv (.t 20)⟩] none)
  (.seq (.seq (.reg [⟨(some 21), none, none, .mv (.t 9)⟩,
    ⟨(some 22), none, none, .bin .neq (.t 21) (.c (.p (.int .i64 0)))⟩] none)
  (.fg [2, 3, 4, 5, 7, 8, 22] (.cond (.t 22)
    (.seq (.reg [⟨(some 23), none, none, .build [.p (.bool false), .nils] []⟩,
    ⟨(some 24), none, none, .build [.p (.bool false), .nils] []⟩,
    ⟨none, none, none, .store 2 (.t 4) (.t 23)⟩,
    ⟨none, none, none, .store 2 (.t 5) (.t 24)⟩,
    ⟨(some 6), none, none, .mv (.c (.p (.int .i64 11)))⟩] none)
    .ret)
    .skip)))
  (.seq (.reg [⟨(some 25), none, none, .fieldA 0 (.t 2)⟩,
    ⟨(some 26), none, none, .load false 1 (.t 25)⟩,
    ⟨(some 27), none, none, .fieldA 0 (.t 3)⟩,
    ⟨(some 28), none, none, .load false 1 (.t 27)⟩,
    ⟨(some 29), none, none, .beq true (.t 26) (.t 28)⟩,
    ⟨(some 30), none, none, .mv (.t 7)⟩,
    ⟨(some 31), none, none, .call .pu 105 [.t 29, .t 30]⟩,
    ⟨(some 32), none, none, .fieldA 0 (.t 2)⟩,
    ⟨(some 33), none, none, .load false 1 (.t 32)⟩,
    ⟨(some 34), none, none, .mv (.t 8)⟩,
    ⟨(some 35), none, none, .call .pu 105 [.t 33, .t 34]⟩,
    ⟨(some 10), none, (some 0), .alloc [.p (.bool false), .nils]⟩,
    ⟨(some 11), none, (some 1), .alloc [.p (.bool false), .nils]⟩,
    ⟨none, none, none, .store 2 (.t 10) (.t 31)⟩,
    ⟨none, none, none, .store 2 (.t 11) (.t 35)⟩] (some (2, [])))
  (.seq (.seq (.reg [⟨(some 36), none, none, .load true 2 (.t 11)⟩,
    ⟨(some 37), none, none, .call .pu 77 [.t 36]⟩,
    ⟨(some 38), none, none, .bin .neq (.t 37) (.c (.p (.int .i64 0)))⟩,
    ⟨(some 39), none, none, .mv (.t 38)⟩,
    ⟨(some 40), (some (39, true)), none, .load true 2 (.t 11)⟩,
    ⟨(some 41), (some (39, true)), none, .call .pu 77 [.t 40]⟩,
    ⟨(some 42), (some (39, true)), none, .load true 2 (.t 3)⟩,
    ⟨(some 43), (some (39, true)), none, .call .pu 77 [.t 42]⟩,
    ⟨(some 44), (some (39, true)), none, .bin .neq (.t 41) (.t 43)⟩,
    ⟨(some 45), none, none, .pick (.t 39) (.t 44) (.c (.p (.bool false)))⟩] (some (0, [])))
  (.fg [3, 4, 5, 10, 11, 45] (.cond (.t 45)
    (.reg [⟨(some 46), none, none, .load true 2 (.t 10)⟩,
    ⟨(some 47), none, none, .call .pu 54 [.c (.p (.int .i64 1))]⟩,
    ⟨(some 48), none, none, .call .pu 157 [.t 46, .t 47]⟩,
    ⟨(some 49), none, none, .load true 2 (.t 11)⟩,
    ⟨(some 50), none, none, .load true 2 (.t 3)⟩,
    ⟨(some 51), none, none, .call .pu 145 [.t 49, .t 50]⟩,
    ⟨none, none, none, .store 2 (.t 10) (.t 48)⟩,
    ⟨none, none, none, .store 2 (.t 11) (.t 51)⟩] (some (0, [])))
    .skip)))
  (.seq (.reg [⟨(some 52), none, none, .load true 2 (.t 10)⟩,
    ⟨(some 53), none, none, .load true 2 (.t 11)⟩,
    ⟨none, none, none, .store 2 (.t 4) (.t 52)⟩,
    ⟨none, none, none, .store 2 (.t 5) (.t 53)⟩,
    ⟨(some 6), none, none, .mv (.c (.p (.int .i64 0)))⟩] (some (0, [(1, 2)])))
  .ret)))))),
  [.cell 4 true 2, .cell 5 true 2, .t 6]⟩

theorem c134 : chkF Try.prog 134 f134 = true := by kernel_rfl

/-- trammel/trammelref01.Div -/
def f135 : RFun := ⟨(.seq (.reg [⟨(some 4), none, none, .mv (.c (.nils))⟩,
    ⟨(some 5), none, none, .mv (.c (.nils))⟩,
    ⟨(some 6), none, none, .mv (.c (.p (.int .i64 0)))⟩] none)
  (.seq (.reg [⟨(some 20), none, none, .mv (.t 1)⟩,
    ⟨(some 21), none, none, .call .pu 98 [.t 20]⟩,
    ⟨(some 7), none, none, .mv (.t 21)⟩] none)
  (.seq (.seq (.reg [⟨(some 22), none, none, .mv (.t 7)⟩,
    ⟨(some 23), none, none, .len (.t 22)⟩,
    ⟨(some 24), none, none, .bin .eql (.t 23) (.c (.p (.int .i64 0)))⟩] none)
  (.fg [0, 7, 24] (.cond (.t 24)
    (.seq (.reg [⟨(some 4), none, none, .mv (.c (.nils))⟩,
    ⟨(some 5), none, none, .mv (.c (.nils))⟩,
    ⟨(some 6), none, none, .mv (.c (.p (.int .i64 11)))⟩] none)
    .ret)
    .skip)))
  (.seq (.seq (.reg [⟨(some 25), none, none, .mv (.t 7)⟩,
    ⟨(some 26), none, none, .len (.t 25)⟩,
    ⟨(some 27), none, none, .bin .eql (.t 26) (.c (.p (.int .i64 1)))⟩] none)
  (.fg [0, 7, 27] (.cond (.t 27)
    (.seq (.reg [⟨(some 29), none, none, .mv (.t 0)⟩,
    ⟨(some 30), none, none, .mv (.t 7)⟩,
    ⟨(some 31), none, none, .indexA 1 (.t 30) (.c (.p (.int .i64 0)))⟩,
    ⟨(some 32), none, none, .load false 1 (.t 31)⟩,
    ⟨(some 33), none, none, .conv .u64 (.t 32)⟩,
    ⟨(some 34), none, none, .call .pu 160 [.t 29, .t 33]⟩,
    ⟨(some 28), none, none, .mv (.t 34)⟩,
    ⟨(some 35), none, none, .extract (.t 28) 0⟩,
    ⟨(some 36), none, none, .extract (.t 28) 1⟩,
    ⟨(some 8), none, none, .mv (.t 35)⟩,
    ⟨(some 9), none, none, .mv (.t 36)⟩] none)
    (.seq (.reg [⟨(some 37), none, none, .mv (.t 8)⟩,
    ⟨(some 38), none, none, .mv (.t 9)⟩,
    ⟨(some 39), none, none, .conv .u32 (.t 38)⟩,
    ⟨(some 40), none, none, .bslice 1 [.t 39]⟩,
    ⟨(some 41), none, none, .call .fz 98 [.t 40]⟩,
    ⟨(some 4), none, none, .mv (.t 37)⟩,
    ⟨(some 5), none, none, .mv (.t 41)⟩,
    ⟨(some 6), none, none, .mv (.c (.p (.int .i64 0)))⟩] none)
    .ret))
    .skip)))
  (.seq (.reg [⟨(some 42), none, none, .mv (.t 7)⟩,
    ⟨(some 43), none, none, .len (.t 42)⟩,
    ⟨(some 44), none, none, .bin .mul (.c (.p (.int .i64 32))) (.t 43)⟩,
    ⟨(some 45), none, none, .mv (.t 7)⟩,
    ⟨(some 46), none, none, .call .pu 82 [.t 45]⟩,
    ⟨(some 47), none, none, .bin .sub (.t 44) (.t 46)⟩,
    ⟨(some 48), none, none, .call .pu 161 [.t 47]⟩,
    ⟨(some 10), none, none, .mv (.t 48)⟩] none)
  (.seq (.reg [⟨(some 49), none, none, .mv (.t 0)⟩,
    ⟨(some 50), none, none, .mv (.t 10)⟩,
    ⟨(some 51), none, none, .call .pu 147 [.t 49, .t 50]⟩,
    ⟨(some 11), none, none, .mv (.t 51)⟩] none)
  (.seq (.reg [⟨(some 52), none, none, .mv (.t 7)⟩,
    ⟨(some 53), none, none, .mv (.t 10)⟩,
    ⟨(some 54), none, none, .call .pu 147 [.t 52, .t 53]⟩,
    ⟨(some 12), none, none, .mv (.t 54)⟩] none)
  (.seq (.reg [⟨(some 55), none, none, .mv (.t 11)⟩,
    ⟨(some 56), none, none, .len (.t 55)⟩,
    ⟨(some 57), none, none, .mks false 1 4 (.int .u32 0) (.t 56) (.t 56)⟩,
    ⟨(some 13), none, none, .mv (.t 57)⟩] none)
  (.seq (.reg [⟨(some 14), none, none, .mv (.c (.nils))⟩] none)
  (.seq (.seq (.reg [⟨(some 58), none, none, .mv (.t 11)⟩,
    ⟨(some 59), none, none, .len (.t 58)⟩,
    ⟨(some 60), none, none, .bin .sub (.t 59) (.c (.p (.int .i64 1)))⟩,
    ⟨(some 15), none, none, .mv (.t 60)⟩] none)
  (.fg [7, 11, 12, 13, 14, 15] (.block 0
  (.loop (.fg [7, 11, 12, 13, 14, 15]
    (.seq (.seq (.reg [⟨(some 61), none, none, .mv (.t 15)⟩,
    ⟨(some 62), none, none, .bin .geq (.t 61) (.c (.p (.int .i64 0)))⟩] none)
      (.fg [7, 11, 12, 13, 14, 15, 62] (.cond (.t 62)
        .skip
        (.exit 0))))
      (.seq (.block 1
      (.seq (.reg [⟨(some 65), none, none, .mv (.t 11)⟩,
    ⟨(some 66), none, none, .mv (.t 15)⟩,
    ⟨(some 67), none, none, .indexA 1 (.t 65) (.t 66)⟩,
    ⟨(some 68), none, none, .load false 1 (.t 67)⟩,
    ⟨(some 69), none, none, .bslice 1 [.t 68]⟩,
    ⟨(some 70), none, none, .mv (.t 14)⟩,
    ⟨(some 71), none, none, .append 1 4 (.t 69) (.t 70)⟩,
    ⟨(some 72), none, none, .call .fz 98 [.t 71]⟩,
    ⟨(some 14), none, none, .mv (.t 72)⟩] none)
        (.seq (.seq (.reg [⟨(some 73), none, none, .mv (.t 14)⟩,
    ⟨(some 74), none, none, .mv (.t 12)⟩,
    ⟨(some 75), none, none, .call .pu 140 [.t 73, .t 74]⟩,
    ⟨(some 76), none, none, .bin .lss (.t 75) (.c (.p (.int .i64 0)))⟩] none)
        (.fg [7, 11, 12, 13, 14, 15, 76] (.cond (.t 76)
          (.exit 1)
          .skip)))
        (.seq (.reg [⟨(some 77), none, none, .mv (.t 14)⟩,
    ⟨(some 78), none, none, .mv (.t 12)⟩,
    ⟨(some 79), none, none, .len (.t 78)⟩,
    ⟨(some 80), none, none, .call .pu 162 [.t 77, .t 79]⟩,
    ⟨(some 81), none, none, .bin .mul (.t 80) (.c (.p (.int .u64 4294967296)))⟩,
    ⟨(some 82), none, none, .mv (.t 14)⟩,
    ⟨(some 83), none, none, .mv (.t 12)⟩,
    ⟨(some 84), none, none, .len (.t 83)⟩,
    ⟨(some 85), none, none, .bin .sub (.t 84) (.c (.p (.int .i64 1)))⟩,
    ⟨(some 86), none, none, .call .pu 162 [.t 82, .t 85]⟩,
    ⟨(some 87), none, none, .bin .add (.t 81) (.t 86)⟩,
    ⟨(some 88), none, none, .mv (.t 12)⟩,
    ⟨(some 89), none, none, .mv (.t 12)⟩,
    ⟨(some 90), none, none, .len (.t 89)⟩,
    ⟨(some 91), none, none, .bin .sub (.t 90) (.c (.p (.int .i64 1)))⟩,
    ⟨(some 92), none, none, .call .pu 162 [.t 88, .t 91]⟩,
    ⟨(some 93), none, none, .bin .quo (.t 87) (.t 92)⟩,
    ⟨(some 16), none, none, .mv (.t 93)⟩] none)
        (.seq (.seq (.reg [⟨(some 94), none, none, .mv (.t 16)⟩,
    ⟨(some 95), none, none, .bin .geq (.t 94) (.c (.p (.int .u64 4294967296)))⟩] none)
        (.fg [7, 11, 12, 13, 14, 15, 16, 95] (.cond (.t 95)
          (.reg [⟨(some 16), none, none, .mv (.c (.p (.int .u64 4294967295)))⟩] none)
          .skip)))
        (.seq (.reg [⟨(some 96), none, none, .mv (.t 12)⟩,
    ⟨(some 97), none, none, .mv (.t 16)⟩,
    ⟨(some 98), none, none, .conv .u32 (.t 97)⟩,
    ⟨(some 99), none, none, .bslice 1 [.t 98]⟩,
    ⟨(some 100), none, none, .call .fz 147 [.t 96, .t 99]⟩,
    ⟨(some 17), none, none, .mv (.t 100)⟩] none)
        (.seq (.block 2
        (.loop (.fg [7, 11, 12, 13, 14, 15, 16, 17]
          (.seq (.seq (.reg [⟨(some 101), none, none, .mv (.t 17)⟩,
    ⟨(some 102), none, none, .mv (.t 14)⟩,
    ⟨(some 103), none, none, .call .pu 140 [.t 101, .t 102]⟩,
    ⟨(some 104), none, none, .bin .gtr (.t 103) (.c (.p (.int .i64 0)))⟩] none)
            (.fg [7, 11, 12, 13, 14, 15, 16, 17, 104] (.cond (.t 104)
              .skip
              (.exit 2))))
            (.fg [7, 11, 12, 13, 14, 15, 16, 17] (.block 3
            (.seq (.reg [⟨(some 105), none, none, .mv (.t 16)⟩,
    ⟨(some 106), none, none, .bin .sub (.t 105) (.c (.p (.int .u64 1)))⟩,
    ⟨(some 16), none, none, .mv (.t 106)⟩] none)
              (.reg [⟨(some 107), none, none, .mv (.t 17)⟩,
    ⟨(some 108), none, none, .mv (.t 12)⟩,
    ⟨(some 109), none, none, .call .pu 163 [.t 107, .t 108]⟩,
    ⟨(some 17), none, none, .mv (.t 109)⟩] none))))))))
        (.fg [7, 11, 12, 13, 14, 15, 16, 17] (.seq (.reg [⟨(some 110), none, none, .mv (.t 13)⟩,
    ⟨(some 111), none, none, .mv (.t 15)⟩,
    ⟨(some 112), none, none, .mv (.t 16)⟩,
    ⟨(some 113), none, none, .conv .u32 (.t 112)⟩,
    ⟨(some 114), none, none, .indexA 1 (.t 110) (.t 111)⟩,
    ⟨none, none, none, .store 1 (.t 114) (.t 113)⟩] none)
        (.reg [⟨(some 115), none, none, .mv (.t 14)⟩,
    ⟨(some 116), none, none, .mv (.t 17)⟩,
    ⟨(some 117), none, none, .call .pu 163 [.t 115, .t 116]⟩,
    ⟨(some 14), none, none, .mv (.t 117)⟩] none))))))))))
      (.fg [7, 11, 12, 13, 14, 15] (.reg [⟨(some 63), none, none, .mv (.t 15)⟩,
    ⟨(some 64), none, none, .bin .sub (.t 63) (.c (.p (.int .i64 1)))⟩,
    ⟨(some 15), none, none, .mv (.t 64)⟩] none)))))))))
  (.seq (.reg [⟨(some 119), none, none, .mv (.t 14)⟩,
    ⟨(some 120), none, none, .mv (.t 7)⟩,
    ⟨(some 121), none, none, .len (.t 120)⟩,
    ⟨(some 122), none, none, .bin .mul (.c (.p (.int .i64 32))) (.t 121)⟩,
    ⟨(some 123), none, none, .mv (.t 7)⟩,
    ⟨(some 124), none, none, .call .pu 82 [.t 123]⟩,
    ⟨(some 125), none, none, .bin .sub (.t 122) (.t 124)⟩,
    ⟨(some 126), none, none, .call .pu 164 [.t 119, .t 125]⟩,
    ⟨(some 118), none, none, .mv (.t 126)⟩,
    ⟨(some 127), none, none, .extract (.t 118) 0⟩,
    ⟨(some 128), none, none, .extract (.t 118) 1⟩,
    ⟨(some 18), none, none, .mv (.t 127)⟩,
    ⟨(some 19), none, none, .mv (.t 128)⟩] none)
  (.seq (.reg [⟨(some 129), none, none, .mv (.t 13)⟩,
    ⟨(some 130), none, none, .call .fz 98 [.t 129]⟩,
    ⟨(some 131), none, none, .mv (.t 18)⟩,
    ⟨(some 4), none, none, .mv (.t 130)⟩,
    ⟨(some 5), none, none, .mv (.t 131)⟩,
    ⟨(some 6), none, none, .mv (.c (.p (.int .i64 0)))⟩] none)
  .ret)))))))))))),
  [.t 4, .t 5, .t 6]⟩

theorem c135 : chkF Try.prog 135 f135 = true := by kernel_rfl

/-- trammel/gso.shaped -/
def f137 : RFun := ⟨(.seq (.reg [⟨(some 4), none, none, .mv (.c (.p (.int .i64 0)))⟩] none)
  (.seq (.reg [⟨(some 11), none, none, .mv (.t 0)⟩,
    ⟨(some 12), none, none, .len (.t 11)⟩,
    ⟨(some 13), none, none, .bin .gtr (.t 12) (.c (.p (.int .i64 12)))⟩,
    ⟨(some 14), none, none, .mv (.t 13)⟩,
    ⟨(some 15), (some (14, false)), none, .mv (.t 1)⟩,
    ⟨(some 16), (some (14, false)), none, .mv (.t 15)⟩,
    ⟨(some 17), (some (16, true)), none, .mv (.t 0)⟩,
    ⟨(some 18), (some (16, true)), none, .call .pu 80 [.t 17]⟩,
    ⟨(some 19), (some (16, true)), none, .bin .gtr (.t 18) (.c (.p (.int .i64 256)))⟩,
    ⟨(some 20), (some (14, false)), none, .pick (.t 16) (.t 19) (.c (.p (.bool false)))⟩,
    ⟨(some 21), none, none, .pick (.t 14) (.c (.p (.bool true))) (.t 20)⟩,
    ⟨(some 5), none, none, .mv (.t 21)⟩] none)
  (.seq (.seq (.reg [⟨(some 22), none, none, .mv (.t 0)⟩,
    ⟨(some 23), none, none, .len (.t 22)⟩,
    ⟨(some 24), none, none, .mv (.c (.p (.int .i64 0)))⟩] none)
  (.fg [0, 5, 22, 23, 24] (.block 0
  (.loop (.fg [0, 5, 22, 23, 24]
    (.seq (.reg [⟨(some 25), none, none, .bin .lss (.t 24) (.t 23)⟩] none)
      (.seq (.cond (.t 25)
        .skip
        (.exit 0))
      (.fg [0, 5, 22, 23, 24] (.seq (.block 1
      (.seq (.reg [⟨(some 26), none, none, .indexA 1 (.t 22) (.t 24)⟩,
    ⟨(some 27), none, none, .load false 1 (.t 26)⟩,
    ⟨(some 7), none, none, .mv (.t 27)⟩] none)
        (.reg [⟨(some 28), none, none, .mv (.t 5)⟩,
    ⟨(some 29), none, none, .mv (.t 28)⟩,
    ⟨(some 30), (some (29, false)), none, .mv (.t 7)⟩,
    ⟨(some 31), (some (29, false)), none, .len (.t 30)⟩,
    ⟨(some 32), (some (29, false)), none, .bin .gtr (.t 31) (.c (.p (.int .i64 12)))⟩,
    ⟨(some 33), none, none, .pick (.t 29) (.c (.p (.bool true))) (.t 32)⟩,
    ⟨(some 5), none, none, .mv (.t 33)⟩] none)))
      (.fg [0, 5, 22, 23, 24] (.reg [⟨(some 34), none, none, .bin .add (.t 24) (.c (.p (.int .i64 1)))⟩,
    ⟨(some 24), none, none, .mv (.t 34)⟩] none)))))))))))
  (.seq (.seq (.reg [⟨(some 35), none, none, .mv (.t 5)⟩] none)
  (.fg [0, 35] (.cond (.t 35)
    (.seq (.reg [⟨(some 4), none, none, .mv (.c (.p (.int .i64 40)))⟩] none)
    .ret)
    .skip)))
  (.seq (.seq (.reg [⟨(some 36), none, none, .mv (.t 0)⟩,
    ⟨(some 37), none, none, .len (.t 36)⟩,
    ⟨(some 38), none, none, .bin .eql (.t 37) (.c (.p (.int .i64 0)))⟩] none)
  (.fg [0, 38] (.cond (.t 38)
    (.seq (.reg [⟨(some 4), none, none, .mv (.c (.p (.int .i64 41)))⟩] none)
    .ret)
    .skip)))
  (.seq (.reg [⟨(some 40), none, none, .mv (.t 0)⟩,
    ⟨(some 41), none, none, .call .pu 93 [.t 40]⟩,
    ⟨(some 39), none, none, .mv (.t 41)⟩,
    ⟨(some 42), none, none, .extract (.t 39) 0⟩,
    ⟨(some 43), none, none, .extract (.t 39) 1⟩,
    ⟨(some 44), none, none, .extract (.t 39) 2⟩,
    ⟨(some 8), none, none, .mv (.t 42)⟩,
    ⟨(some 9), none, none, .mv (.t 43)⟩,
    ⟨(some 10), none, none, .mv (.t 44)⟩] none)
  (.seq (.reg [⟨(some 45), none, none, .mv (.t 10)⟩,
    ⟨(some 4), none, none, .mv (.t 45)⟩] none)
  .ret))))))),
  [.t 4]⟩

theorem c137 : chkF Try.prog 137 f137 = true := by kernel_rfl

/-- trammel/gso.built -/
def f138 : RFun := ⟨(.seq (.reg [⟨(some 2), none, none, .alloc [.nils, .nils]⟩,
    ⟨(some 3), none, none, .mv (.c (.p (.bool false)))⟩] none)
  (.seq (.reg [⟨(some 12), none, none, .call .pu 54 [.c (.p (.int .i64 1))]⟩,
    ⟨(some 13), none, none, .bslice 2 [.t 12]⟩,
    ⟨(some 14), none, none, .build [.nils, .nils] [(0, 1, .t 13)]⟩,
    ⟨(some 4), none, none, .alloc [.nils, .nils]⟩,
    ⟨none, none, none, .store 2 (.t 4) (.t 14)⟩] none)
  (.seq (.seq (.reg [⟨(some 15), none, none, .mv (.t 0)⟩,
    ⟨(some 16), none, none, .len (.t 15)⟩,
    ⟨(some 17), none, none, .mv (.c (.p (.int .i64 0)))⟩] none)
  (.fg [0, 2, 4, 16, 17] (.block 0
  (.loop (.fg [0, 2, 4, 16, 17]
    (.seq (.reg [⟨(some 18), none, none, .bin .lss (.t 17) (.t 16)⟩] none)
      (.seq (.cond (.t 18)
        .skip
        (.exit 0))
      (.fg [0, 2, 4, 16, 17] (.seq (.block 1
      (.seq (.reg [⟨(some 19), none, none, .mv (.t 17)⟩,
    ⟨(some 5), none, none, .mv (.t 19)⟩] none)
        (.seq (.reg [⟨(some 20), none, none, .mv (.t 5)⟩,
    ⟨(some 21), none, none, .bin .add (.t 20) (.c (.p (.int .i64 1)))⟩,
    ⟨(some 22), none, none, .mks false 2 32 (.agg [.bool false, .sl []]) (.c (.p (.int .i64 0))) (.t 21)⟩,
    ⟨(some 6), none, none, .mv (.t 22)⟩] none)
        (.seq (.seq (.reg [⟨(some 7), none, none, .mv (.c (.p (.int .i64 0)))⟩] none)
        (.fg [0, 2, 4, 5, 6, 7, 16, 17] (.block 2
        (.loop (.fg [0, 2, 4, 5, 6, 7, 16, 17]
          (.seq (.seq (.reg [⟨(some 23), none, none, .mv (.t 7)⟩,
    ⟨(some 24), none, none, .mv (.t 5)⟩,
    ⟨(some 25), none, none, .bin .leq (.t 23) (.t 24)⟩] none)
            (.fg [0, 2, 4, 5, 6, 7, 16, 17, 25] (.cond (.t 25)
              .skip
              (.exit 2))))
            (.seq (.block 3
            (.seq (.reg [⟨(some 29), none, none, .mv (.t 0)⟩,
    ⟨(some 30), none, none, .mv (.t 5)⟩,
    ⟨(some 31), none, none, .indexA 1 (.t 29) (.t 30)⟩,
    ⟨(some 32), none, none, .load false 1 (.t 31)⟩,
    ⟨(some 33), none, none, .mv (.t 0)⟩,
    ⟨(some 34), none, none, .mv (.t 7)⟩,
    ⟨(some 35), none, none, .indexA 1 (.t 33) (.t 34)⟩,
    ⟨(some 36), none, none, .load false 1 (.t 35)⟩,
    ⟨(some 37), none, none, .call .fz 169 [.t 32, .t 36]⟩,
    ⟨(some 28), none, none, .mv (.t 37)⟩,
    ⟨(some 38), none, none, .extract (.t 28) 0⟩,
    ⟨(some 39), none, none, .extract (.t 28) 1⟩,
    ⟨(some 8), none, (some 0), .alloc [.p (.bool false), .nils]⟩,
    ⟨none, none, none, .store 2 (.t 8) (.t 38)⟩,
    ⟨(some 9), none, none, .mv (.t 39)⟩] (some (1, [])))
              (.seq (.seq (.reg [⟨(some 10), none, none, .mv (.c (.p (.int .i64 0)))⟩] none)
              (.fg [0, 2, 4, 5, 6, 7, 8, 10, 16, 17] (.block 4
              (.loop (.fg [0, 2, 4, 5, 6, 7, 8, 10, 16, 17]
                (.seq (.seq (.reg [⟨(some 40), none, none, .mv (.t 10)⟩,
    ⟨(some 41), none, none, .mv (.t 7)⟩,
    ⟨(some 42), none, none, .bin .lss (.t 40) (.t 41)⟩] none)
                  (.fg [0, 2, 4, 5, 6, 7, 8, 10, 16, 17, 42] (.cond (.t 42)
                    .skip
                    (.exit 4))))
                  (.seq (.block 5
                  (.seq (.reg [⟨(some 45), none, none, .mv (.t 6)⟩,
    ⟨(some 11), none, none, .mv (.t 45)⟩] none)
                    (.seq (.seq (.reg [⟨(some 46), none, none, .mv (.t 7)⟩,
    ⟨(some 47), none, none, .mv (.t 5)⟩,
    ⟨(some 48), none, none, .bin .lss (.t 46) (.t 47)⟩] none)
                    (.fg [0, 2, 4, 5, 6, 7, 8, 10, 11, 16, 17, 48] (.cond (.t 48)
                      (.reg [⟨(some 49), none, none, .fieldA 1 (.t 4)⟩,
    ⟨(some 50), none, none, .load false 1 (.t 49)⟩,
    ⟨(some 51), none, none, .mv (.t 7)⟩,
    ⟨(some 52), none, none, .indexA 1 (.t 50) (.t 51)⟩,
    ⟨(some 53), none, none, .load false 1 (.t 52)⟩,
    ⟨(some 11), none, none, .mv (.t 53)⟩] none)
                      .skip)))
                    (.seq (.reg [⟨(some 54), none, none, .fieldA 0 (.t 4)⟩,
    ⟨(some 55), none, none, .load false 1 (.t 54)⟩,
    ⟨(some 56), none, none, .mv (.t 10)⟩,
    ⟨(some 57), none, none, .bin .add (.t 56) (.c (.p (.int .i64 1)))⟩,
    ⟨(some 58), none, none, .indexA 2 (.t 55) (.t 57)⟩,
    ⟨(some 59), none, none, .load true 2 (.t 58)⟩,
    ⟨(some 60), none, none, .load true 2 (.t 8)⟩,
    ⟨(some 61), none, none, .call .fz 63 [.t 59, .t 60]⟩,
    ⟨(some 62), none, none, .mv (.t 6)⟩,
    ⟨(some 63), none, none, .mv (.t 10)⟩,
    ⟨(some 64), none, none, .indexA 2 (.t 62) (.t 63)⟩,
    ⟨(some 65), none, none, .load true 2 (.t 64)⟩,
    ⟨(some 66), none, none, .mv (.t 11)⟩,
    ⟨(some 67), none, none, .mv (.t 10)⟩,
    ⟨(some 68), none, none, .indexA 2 (.t 66) (.t 67)⟩,
    ⟨(some 69), none, none, .load true 2 (.t 68)⟩,
    ⟨(some 70), none, none, .call .fz 63 [.t 65, .t 69]⟩,
    ⟨(some 71), none, none, .call .pu 157 [.t 61, .t 70]⟩,
    ⟨none, none, none, .store 2 (.t 8) (.t 71)⟩] (some (0, [(7, 10), (7, 11), (7, 14), (7, 15)])))
                    (.reg [⟨(some 73), none, none, .load true 2 (.t 8)⟩,
    ⟨(some 74), none, none, .fieldA 0 (.t 4)⟩,
    ⟨(some 75), none, none, .load false 1 (.t 74)⟩,
    ⟨(some 76), none, none, .mv (.t 10)⟩,
    ⟨(some 77), none, none, .indexA 2 (.t 75) (.t 76)⟩,
    ⟨(some 78), none, none, .load true 2 (.t 77)⟩,
    ⟨(some 79), none, none, .call .fz 134 [.t 73, .t 78]⟩,
    ⟨(some 72), none, none, .mv (.t 79)⟩,
    ⟨(some 80), none, none, .extract (.t 72) 0⟩,
    ⟨(some 81), none, none, .extract (.t 72) 1⟩,
    ⟨(some 82), none, none, .extract (.t 72) 2⟩,
    ⟨none, none, none, .store 2 (.t 8) (.t 80)⟩] (some (0, [])))))))
                  (.fg [0, 2, 4, 5, 6, 7, 8, 10, 16, 17] (.reg [⟨(some 43), none, none, .mv (.t 10)⟩,
    ⟨(some 44), none, none, .bin .add (.t 43) (.c (.p (.int .i64 1)))⟩,
    ⟨(some 10), none, none, .mv (.t 44)⟩] none)))))))))
              (.reg [⟨(some 83), none, none, .mv (.t 6)⟩,
    ⟨(some 84), none, none, .load true 2 (.t 8)⟩,
    ⟨(some 85), none, none, .bslice 2 [.t 84]⟩,
    ⟨(some 86), none, none, .append 2 32 (.t 83) (.t 85)⟩,
    ⟨(some 6), none, none, .mv (.t 86)⟩] none))))
            (.fg [0, 2, 4, 5, 6, 7, 16, 17] (.reg [⟨(some 26), none, none, .mv (.t 7)⟩,
    ⟨(some 27), none, none, .bin .add (.t 26) (.c (.p (.int .i64 1)))⟩,
    ⟨(some 7), none, none, .mv (.t 27)⟩] none)))))))))
        (.seq (.seq (.reg [⟨(some 87), none, none, .mv (.t 6)⟩,
    ⟨(some 88), none, none, .mv (.t 5)⟩,
    ⟨(some 89), none, none, .indexA 2 (.t 87) (.t 88)⟩,
    ⟨(some 90), none, none, .load true 2 (.t 89)⟩,
    ⟨(some 91), none, none, .call .fz 77 [.t 90]⟩,
    ⟨(some 92), none, none, .bin .leq (.t 91) (.c (.p (.int .i64 0)))⟩] none)
        (.fg [0, 2, 4, 5, 6, 16, 17, 92] (.cond (.t 92)
          (.seq (.reg [⟨(some 93), none, none, .build [.nils, .nils] []⟩,
    ⟨none, none, none, .store 2 (.t 2) (.t 93)⟩,
    ⟨(some 3), none, none, .mv (.c (.p (.bool false)))⟩] none)
          .ret)
          .skip)))
        (.seq (.reg [⟨(some 94), none, none, .fieldA 0 (.t 4)⟩,
    ⟨(some 95), none, none, .load false 1 (.t 94)⟩,
    ⟨(some 96), none, none, .mv (.t 6)⟩,
    ⟨(some 97), none, none, .mv (.t 5)⟩,
    ⟨(some 98), none, none, .indexA 2 (.t 96) (.t 97)⟩,
    ⟨(some 99), none, none, .load true 2 (.t 98)⟩,
    ⟨(some 100), none, (some 0), .bslice 2 [.t 99]⟩,
    ⟨(some 101), none, (some 1), .append 2 32 (.t 95) (.t 100)⟩,
    ⟨(some 102), none, none, .fieldA 0 (.t 4)⟩,
    ⟨none, none, none, .store 1 (.t 102) (.t 101)⟩] (some (2, [(1, 6)])))
        (.reg [⟨(some 103), none, none, .fieldA 1 (.t 4)⟩,
    ⟨(some 104), none, none, .load false 1 (.t 103)⟩,
    ⟨(some 105), none, none, .mv (.t 6)⟩,
    ⟨(some 106), none, none, .mv (.t 5)⟩,
    ⟨(some 107), none, none, .mv (.t 5)⟩,
    ⟨(some 108), none, none, .slice 2 (.t 105) none (some (.t 106)) (some (.t 107))⟩,
    ⟨(some 109), none, (some 0), .bslice 1 [.t 108]⟩,
    ⟨(some 110), none, (some 1), .append 1 24 (.t 104) (.t 109)⟩,
    ⟨(some 111), none, none, .fieldA 1 (.t 4)⟩,
    ⟨none, none, none, .store 1 (.t 111) (.t 110)⟩] (some (2, [(1, 6)])))))))))
      (.fg [0, 2, 4, 16, 17] (.reg [⟨(some 112), none, none, .bin .add (.t 17) (.c (.p (.int .i64 1)))⟩,
    ⟨(some 17), none, none, .mv (.t 112)⟩] none)))))))))))
  (.seq (.reg [⟨(some 113), none, none, .load true 2 (.t 4)⟩,
    ⟨none, none, none, .store 2 (.t 2) (.t 113)⟩,
    ⟨(some 3), none, none, .mv (.c (.p (.bool true)))⟩] none)
  .ret)))),
  [.cell 2 true 2, .t 3]⟩

theorem c138 : chkF Try.prog 138 f138 = true := by kernel_rfl

/-- trammel/trammelref01.Add -/
def f139 : RFun := ⟨(.seq (.reg [⟨(some 4), none, none, .mv (.c (.nils))⟩] none)
  (.seq (.reg [⟨(some 5), none, none, .mv (.c (.nils))⟩] none)
  (.seq (.reg [⟨(some 6), none, none, .mv (.c (.p (.int .u64 0)))⟩] none)
  (.seq (.seq (.reg [⟨(some 7), none, none, .mv (.c (.p (.int .i64 0)))⟩] none)
  (.fg [0, 1, 5, 6, 7] (.block 0
  (.loop (.fg [0, 1, 5, 6, 7]
    (.seq (.seq (.reg [⟨(some 8), none, none, .mv (.t 7)⟩,
    ⟨(some 9), none, none, .mv (.t 0)⟩,
    ⟨(some 10), none, none, .len (.t 9)⟩,
    ⟨(some 11), none, none, .mv (.t 1)⟩,
    ⟨(some 12), none, none, .len (.t 11)⟩,
    ⟨(some 13), none, none, .call .pu 170 [.t 10, .t 12]⟩,
    ⟨(some 14), none, none, .bin .lss (.t 8) (.t 13)⟩] none)
      (.fg [0, 1, 5, 6, 7, 14] (.cond (.t 14)
        .skip
        (.exit 0))))
      (.seq (.block 1
      (.seq (.reg [⟨(some 17), none, none, .mv (.t 6)⟩,
    ⟨(some 18), none, none, .mv (.t 0)⟩,
    ⟨(some 19), none, none, .mv (.t 7)⟩,
    ⟨(some 20), none, none, .call .pu 162 [.t 18, .t 19]⟩,
    ⟨(some 21), none, none, .bin .add (.t 17) (.t 20)⟩,
    ⟨(some 22), none, none, .mv (.t 1)⟩,
    ⟨(some 23), none, none, .mv (.t 7)⟩,
    ⟨(some 24), none, none, .call .pu 162 [.t 22, .t 23]⟩,
    ⟨(some 25), none, none, .bin .add (.t 21) (.t 24)⟩,
    ⟨(some 6), none, none, .mv (.t 25)⟩] none)
        (.seq (.reg [⟨(some 26), none, none, .mv (.t 5)⟩,
    ⟨(some 27), none, none, .mv (.t 6)⟩,
    ⟨(some 28), none, none, .bin .rem (.t 27) (.c (.p (.int .u64 4294967296)))⟩,
    ⟨(some 29), none, none, .conv .u32 (.t 28)⟩,
    ⟨(some 30), none, none, .bslice 1 [.t 29]⟩,
    ⟨(some 31), none, none, .append 1 4 (.t 26) (.t 30)⟩,
    ⟨(some 5), none, none, .mv (.t 31)⟩] none)
        (.reg [⟨(some 32), none, none, .mv (.t 6)⟩,
    ⟨(some 33), none, none, .bin .quo (.t 32) (.c (.p (.int .u64 4294967296)))⟩,
    ⟨(some 6), none, none, .mv (.t 33)⟩] none))))
      (.fg [0, 1, 5, 6, 7] (.reg [⟨(some 15), none, none, .mv (.t 7)⟩,
    ⟨(some 16), none, none, .bin .add (.t 15) (.c (.p (.int .i64 1)))⟩,
    ⟨(some 7), none, none, .mv (.t 16)⟩] none)))))))))
  (.seq (.reg [⟨(some 34), none, none, .mv (.t 5)⟩,
    ⟨(some 35), none, none, .mv (.t 6)⟩,
    ⟨(some 36), none, none, .conv .u32 (.t 35)⟩,
    ⟨(some 37), none, none, .bslice 1 [.t 36]⟩,
    ⟨(some 38), none, none, .append 1 4 (.t 34) (.t 37)⟩,
    ⟨(some 5), none, none, .mv (.t 38)⟩] none)
  (.seq (.reg [⟨(some 39), none, none, .mv (.t 5)⟩,
    ⟨(some 40), none, none, .call .fz 98 [.t 39]⟩,
    ⟨(some 4), none, none, .mv (.t 40)⟩] none)
  .ret)))))),
  [.t 4]⟩

theorem c139 : chkF Try.prog 139 f139 = true := by kernel_rfl

/-- trammel/trammelref01.Cmp -/
def f140 : RFun := ⟨(.seq (.reg [⟨(some 4), none, none, .mv (.c (.p (.int .i64 0)))⟩] none)
  (.seq (.seq (.reg [⟨(some 8), none, none, .mv (.t 0)⟩,
    ⟨(some 9), none, none, .len (.t 8)⟩,
    ⟨(some 10), none, none, .mv (.t 1)⟩,
    ⟨(some 11), none, none, .len (.t 10)⟩,
    ⟨(some 12), none, none, .call .pu 170 [.t 9, .t 11]⟩,
    ⟨(some 13), none, none, .bin .sub (.t 12) (.c (.p (.int .i64 1)))⟩,
    ⟨(some 5), none, none, .mv (.t 13)⟩] none)
  (.fg [0, 1, 5] (.block 0
  (.loop (.fg [0, 1, 5]
    (.seq (.seq (.reg [⟨(some 14), none, none, .mv (.t 5)⟩,
    ⟨(some 15), none, none, .bin .geq (.t 14) (.c (.p (.int .i64 0)))⟩] none)
      (.fg [0, 1, 5, 15] (.cond (.t 15)
        .skip
        (.exit 0))))
      (.seq (.block 1
      (.seq (.reg [⟨(some 18), none, none, .mv (.t 0)⟩,
    ⟨(some 19), none, none, .mv (.t 5)⟩,
    ⟨(some 20), none, none, .call .pu 162 [.t 18, .t 19]⟩,
    ⟨(some 6), none, none, .mv (.t 20)⟩] none)
        (.seq (.reg [⟨(some 21), none, none, .mv (.t 1)⟩,
    ⟨(some 22), none, none, .mv (.t 5)⟩,
    ⟨(some 23), none, none, .call .pu 162 [.t 21, .t 22]⟩,
    ⟨(some 7), none, none, .mv (.t 23)⟩] none)
        (.seq (.seq (.reg [⟨(some 24), none, none, .mv (.t 6)⟩,
    ⟨(some 25), none, none, .mv (.t 7)⟩,
    ⟨(some 26), none, none, .bin .lss (.t 24) (.t 25)⟩] none)
        (.fg [0, 1, 5, 6, 7, 26] (.cond (.t 26)
          (.seq (.reg [⟨(some 4), none, none, .mv (.c (.p (.int .i64 (-1))))⟩] none)
          .ret)
          .skip)))
        (.seq (.reg [⟨(some 27), none, none, .mv (.t 6)⟩,
    ⟨(some 28), none, none, .mv (.t 7)⟩,
    ⟨(some 29), none, none, .bin .gtr (.t 27) (.t 28)⟩] none)
        (.fg [0, 1, 5, 29] (.cond (.t 29)
          (.seq (.reg [⟨(some 4), none, none, .mv (.c (.p (.int .i64 1)))⟩] none)
          .ret)
          .skip)))))))
      (.fg [0, 1, 5] (.reg [⟨(some 16), none, none, .mv (.t 5)⟩,
    ⟨(some 17), none, none, .bin .sub (.t 16) (.c (.p (.int .i64 1)))⟩,
    ⟨(some 5), none, none, .mv (.t 17)⟩] none)))))))))
  (.seq (.reg [⟨(some 4), none, none, .mv (.c (.p (.int .i64 0)))⟩] none)
  .ret))),
  [.t 4]⟩

theorem c140 : chkF Try.prog 140 f140 = true := by kernel_rfl

/-- trammel/trammelref01.Sub -/
def f141 : RFun := ⟨(.seq (.reg [⟨(some 4), none, none, .mv (.c (.nils))⟩,
    ⟨(some 5), none, none, .mv (.c (.p (.int .i64 0)))⟩] none)
  (.seq (.seq (.reg [⟨(some 6), none, none, .mv (.t 0)⟩,
    ⟨(some 7), none, none, .mv (.t 1)⟩,
    ⟨(some 8), none, none, .call .pu 140 [.t 6, .t 7]⟩,
    ⟨(some 9), none, none, .bin .lss (.t 8) (.c (.p (.int .i64 0)))⟩] none)
  (.fg [0, 1, 9] (.cond (.t 9)
    (.seq (.reg [⟨(some 4), none, none, .mv (.c (.nils))⟩,
    ⟨(some 5), none, none, .mv (.c (.p (.int .i64 10)))⟩] none)
    .ret)
    .skip)))
  (.seq (.reg [⟨(some 10), none, none, .mv (.t 0)⟩,
    ⟨(some 11), none, none, .mv (.t 1)⟩,
    ⟨(some 12), none, none, .call .pu 163 [.t 10, .t 11]⟩,
    ⟨(some 4), none, none, .mv (.t 12)⟩,
    ⟨(some 5), none, none, .mv (.c (.p (.int .i64 0)))⟩] none)
  .ret))),
  [.t 4, .t 5]⟩

theorem c141 : chkF Try.prog 141 f141 = true := by kernel_rfl

/-- trammel/trammelref05.shape -/
def f142 : RFun := ⟨(.seq (.reg [⟨(some 4), none, none, .mv (.c (.p (.int .i64 0)))⟩] none)
  (.seq (.seq (.reg [⟨(some 8), none, none, .mv (.t 0)⟩,
    ⟨(some 9), none, none, .len (.t 8)⟩,
    ⟨(some 10), none, none, .bin .gtr (.t 9) (.c (.p (.int .i64 12)))⟩] none)
  (.fg [0, 1, 10] (.cond (.t 10)
    (.seq (.reg [⟨(some 4), none, none, .mv (.c (.p (.int .i64 40)))⟩] none)
    .ret)
    .skip)))
  (.seq (.seq (.reg [⟨(some 5), none, none, .mv (.c (.p (.int .i64 0)))⟩] none)
  (.fg [0, 1, 5] (.block 0
  (.loop (.fg [0, 1, 5]
    (.seq (.seq (.reg [⟨(some 11), none, none, .mv (.t 5)⟩,
    ⟨(some 12), none, none, .mv (.t 0)⟩,
    ⟨(some 13), none, none, .len (.t 12)⟩,
    ⟨(some 14), none, none, .bin .lss (.t 11) (.t 13)⟩] none)
      (.fg [0, 1, 5, 14] (.cond (.t 14)
        .skip
        (.exit 0))))
      (.seq (.block 1
      (.seq (.seq (.reg [⟨(some 17), none, none, .mv (.t 0)⟩,
    ⟨(some 18), none, none, .mv (.t 5)⟩,
    ⟨(some 19), none, none, .indexA 1 (.t 17) (.t 18)⟩,
    ⟨(some 20), none, none, .load false 1 (.t 19)⟩,
    ⟨(some 21), none, none, .len (.t 20)⟩,
    ⟨(some 22), none, none, .bin .gtr (.t 21) (.c (.p (.int .i64 12)))⟩] none)
        (.fg [0, 1, 5, 22] (.cond (.t 22)
          (.seq (.reg [⟨(some 4), none, none, .mv (.c (.p (.int .i64 40)))⟩] none)
          .ret)
          .skip)))
        (.seq (.reg [⟨(some 6), none, none, .mv (.c (.p (.int .i64 0)))⟩] none)
        (.fg [0, 1, 5, 6] (.block 2
        (.loop (.fg [0, 1, 5, 6]
          (.seq (.seq (.reg [⟨(some 23), none, none, .mv (.t 6)⟩,
    ⟨(some 24), none, none, .mv (.t 0)⟩,
    ⟨(some 25), none, none, .mv (.t 5)⟩,
    ⟨(some 26), none, none, .indexA 1 (.t 24) (.t 25)⟩,
    ⟨(some 27), none, none, .load false 1 (.t 26)⟩,
    ⟨(some 28), none, none, .len (.t 27)⟩,
    ⟨(some 29), none, none, .bin .lss (.t 23) (.t 28)⟩] none)
            (.fg [0, 1, 5, 6, 29] (.cond (.t 29)
              .skip
              (.exit 2))))
            (.seq (.block 3
            (.seq (.reg [⟨(some 32), none, none, .mv (.t 1)⟩,
    ⟨(some 33), none, none, .mv (.t 32)⟩,
    ⟨(some 34), (some (33, true)), none, .mv (.t 0)⟩,
    ⟨(some 35), (some (33, true)), none, .mv (.t 5)⟩,
    ⟨(some 36), (some (33, true)), none, .indexA 1 (.t 34) (.t 35)⟩,
    ⟨(some 37), (some (33, true)), none, .load false 1 (.t 36)⟩,
    ⟨(some 38), (some (33, true)), none, .mv (.t 6)⟩,
    ⟨(some 39), (some (33, true)), none, .indexA 2 (.t 37) (.t 38)⟩,
    ⟨(some 40), (some (33, true)), none, .fieldA 1 (.t 39)⟩,
    ⟨(some 41), (some (33, true)), none, .load false 1 (.t 40)⟩,
    ⟨(some 42), (some (33, true)), none, .call .pu 82 [.t 41]⟩,
    ⟨(some 43), (some (33, true)), none, .bin .gtr (.t 42) (.c (.p (.int .i64 256)))⟩,
    ⟨(some 44), none, none, .pick (.t 33) (.t 43) (.c (.p (.bool false)))⟩] none)
              (.fg [0, 1, 5, 6, 44] (.cond (.t 44)
                (.seq (.reg [⟨(some 4), none, none, .mv (.c (.p (.int .i64 40)))⟩] none)
                .ret)
                .skip))))
            (.fg [0, 1, 5, 6] (.reg [⟨(some 30), none, none, .mv (.t 6)⟩,
    ⟨(some 31), none, none, .bin .add (.t 30) (.c (.p (.int .i64 1)))⟩,
    ⟨(some 6), none, none, .mv (.t 31)⟩] none)))))))))))
      (.fg [0, 1, 5] (.reg [⟨(some 15), none, none, .mv (.t 5)⟩,
    ⟨(some 16), none, none, .bin .add (.t 15) (.c (.p (.int .i64 1)))⟩,
    ⟨(some 5), none, none, .mv (.t 16)⟩] none)))))))))
  (.seq (.seq (.reg [⟨(some 45), none, none, .mv (.t 0)⟩,
    ⟨(some 46), none, none, .len (.t 45)⟩,
    ⟨(some 47), none, none, .bin .eql (.t 46) (.c (.p (.int .i64 0)))⟩] none)
  (.fg [0, 47] (.cond (.t 47)
    (.seq (.reg [⟨(some 4), none, none, .mv (.c (.p (.int .i64 41)))⟩] none)
    .ret)
    .skip)))
  (.seq (.seq (.reg [⟨(some 7), none, none, .mv (.c (.p (.int .i64 0)))⟩] none)
  (.fg [0, 7] (.block 4
  (.loop (.fg [0, 7]
    (.seq (.seq (.reg [⟨(some 48), none, none, .mv (.t 7)⟩,
    ⟨(some 49), none, none, .mv (.t 0)⟩,
    ⟨(some 50), none, none, .len (.t 49)⟩,
    ⟨(some 51), none, none, .bin .lss (.t 48) (.t 50)⟩] none)
      (.fg [0, 7, 51] (.cond (.t 51)
        .skip
        (.exit 4))))
      (.seq (.block 5
      (.seq (.reg [⟨(some 54), none, none, .mv (.t 0)⟩,
    ⟨(some 55), none, none, .mv (.t 7)⟩,
    ⟨(some 56), none, none, .indexA 1 (.t 54) (.t 55)⟩,
    ⟨(some 57), none, none, .load false 1 (.t 56)⟩,
    ⟨(some 58), none, none, .len (.t 57)⟩,
    ⟨(some 59), none, none, .mv (.t 0)⟩,
    ⟨(some 60), none, none, .indexA 1 (.t 59) (.c (.p (.int .i64 0)))⟩,
    ⟨(some 61), none, none, .load false 1 (.t 60)⟩,
    ⟨(some 62), none, none, .len (.t 61)⟩,
    ⟨(some 63), none, none, .bin .neq (.t 58) (.t 62)⟩] (some (0, [])))
        (.fg [0, 7, 63] (.cond (.t 63)
          (.seq (.reg [⟨(some 4), none, none, .mv (.c (.p (.int .i64 8)))⟩] none)
          .ret)
          .skip))))
      (.fg [0, 7] (.reg [⟨(some 52), none, none, .mv (.t 7)⟩,
    ⟨(some 53), none, none, .bin .add (.t 52) (.c (.p (.int .i64 1)))⟩,
    ⟨(some 7), none, none, .mv (.t 53)⟩] none)))))))))
  (.seq (.reg [⟨(some 4), none, none, .mv (.c (.p (.int .i64 0)))⟩] none)
  .ret)))))),
  [.t 4]⟩

theorem c142 : chkF Try.prog 142 f142 = true := by kernel_rfl

/-- trammel/trammelref05.Make -/
def f143 : RFun := ⟨(.seq (.reg [⟨(some 2), none, none, .alloc [.nils, .nils]⟩,
    ⟨(some 3), none, none, .mv (.c (.p (.bool false)))⟩] none)
  (.seq (.reg [⟨(some 4), none, none, .alloc [.nils, .nils]⟩] none)
  (.seq (.seq (.reg [⟨(some 5), none, none, .mv (.c (.p (.int .i64 0)))⟩] none)
  (.fg [0, 2, 4, 5] (.block 0
  (.loop (.fg [0, 2, 4, 5]
    (.seq (.seq (.reg [⟨(some 12), none, none, .mv (.t 5)⟩,
    ⟨(some 13), none, none, .mv (.t 0)⟩,
    ⟨(some 14), none, none, .len (.t 13)⟩,
    ⟨(some 15), none, none, .bin .lss (.t 12) (.t 14)⟩] none)
      (.fg [0, 2, 4, 5, 15] (.cond (.t 15)
        .skip
        (.exit 0))))
      (.seq (.block 1
      (.seq (.reg [⟨(some 6), none, none, .mv (.c (.nils))⟩] none)
        (.seq (.seq (.reg [⟨(some 7), none, none, .mv (.c (.p (.int .i64 0)))⟩] none)
        (.fg [0, 2, 4, 5, 6, 7] (.block 2
        (.loop (.fg [0, 2, 4, 5, 6, 7]
          (.seq (.seq (.reg [⟨(some 18), none, none, .mv (.t 7)⟩,
    ⟨(some 19), none, none, .mv (.t 5)⟩,
    ⟨(some 20), none, none, .bin .lss (.t 18) (.t 19)⟩] none)
            (.fg [0, 2, 4, 5, 6, 7, 20] (.cond (.t 20)
              .skip
              (.exit 2))))
            (.seq (.block 3
            (.seq (.reg [⟨(some 23), none, none, .mv (.t 0)⟩,
    ⟨(some 24), none, none, .mv (.t 5)⟩,
    ⟨(some 25), none, none, .indexA 1 (.t 23) (.t 24)⟩,
    ⟨(some 26), none, none, .load false 1 (.t 25)⟩,
    ⟨(some 27), none, none, .mv (.t 0)⟩,
    ⟨(some 28), none, none, .mv (.t 7)⟩,
    ⟨(some 29), none, none, .indexA 1 (.t 27) (.t 28)⟩,
    ⟨(some 30), none, none, .load false 1 (.t 29)⟩,
    ⟨(some 31), none, none, .call .fz 171 [.t 26, .t 30]⟩,
    ⟨(some 32), none, none, .call .pu 27 [.t 31]⟩,
    ⟨(some 8), none, (some 0), .alloc [.p (.bool false), .nils, .p (.bool false), .nils]⟩,
    ⟨none, none, none, .store 4 (.t 8) (.t 32)⟩] (some (1, [])))
              (.seq (.seq (.reg [⟨(some 9), none, none, .mv (.c (.p (.int .i64 0)))⟩] none)
              (.fg [0, 2, 4, 5, 6, 7, 8, 9] (.block 4
              (.loop (.fg [0, 2, 4, 5, 6, 7, 8, 9]
                (.seq (.seq (.reg [⟨(some 33), none, none, .mv (.t 9)⟩,
    ⟨(some 34), none, none, .mv (.t 7)⟩,
    ⟨(some 35), none, none, .bin .lss (.t 33) (.t 34)⟩] none)
                  (.fg [0, 2, 4, 5, 6, 7, 8, 9, 35] (.cond (.t 35)
                    .skip
                    (.exit 4))))
                  (.seq (.block 5
                  (.reg [⟨(some 38), none, none, .load true 4 (.t 8)⟩,
    ⟨(some 39), none, none, .fieldA 0 (.t 4)⟩,
    ⟨(some 40), none, none, .load false 1 (.t 39)⟩,
    ⟨(some 41), none, none, .mv (.t 7)⟩,
    ⟨(some 42), none, none, .indexA 1 (.t 40) (.t 41)⟩,
    ⟨(some 43), none, none, .load false 1 (.t 42)⟩,
    ⟨(some 44), none, none, .mv (.t 9)⟩,
    ⟨(some 45), none, none, .indexA 4 (.t 43) (.t 44)⟩,
    ⟨(some 46), none, none, .load true 4 (.t 45)⟩,
    ⟨(some 47), none, none, .mv (.t 6)⟩,
    ⟨(some 48), none, none, .mv (.t 9)⟩,
    ⟨(some 49), none, none, .indexA 4 (.t 47) (.t 48)⟩,
    ⟨(some 50), none, none, .load true 4 (.t 49)⟩,
    ⟨(some 51), none, none, .call .fz 173 [.t 46, .t 50]⟩,
    ⟨(some 52), none, none, .fieldA 1 (.t 4)⟩,
    ⟨(some 53), none, none, .load false 1 (.t 52)⟩,
    ⟨(some 54), none, none, .mv (.t 9)⟩,
    ⟨(some 55), none, none, .indexA 4 (.t 53) (.t 54)⟩,
    ⟨(some 56), none, none, .load true 4 (.t 55)⟩,
    ⟨(some 57), none, none, .call .fz 173 [.t 51, .t 56]⟩,
    ⟨(some 58), none, none, .call .fz 172 [.t 38, .t 57]⟩,
    ⟨none, none, none, .store 4 (.t 8) (.t 58)⟩] (some (0, [(0, 13), (13, 15), (13, 17), (13, 18), (0, 19)]))))
                  (.fg [0, 2, 4, 5, 6, 7, 8, 9] (.reg [⟨(some 36), none, none, .mv (.t 9)⟩,
    ⟨(some 37), none, none, .bin .add (.t 36) (.c (.p (.int .i64 1)))⟩,
    ⟨(some 9), none, none, .mv (.t 37)⟩] none)))))))))
              (.reg [⟨(some 59), none, none, .mv (.t 6)⟩,
    ⟨(some 60), none, none, .load true 4 (.t 8)⟩,
    ⟨(some 61), none, none, .fieldA 1 (.t 4)⟩,
    ⟨(some 62), none, none, .load false 1 (.t 61)⟩,
    ⟨(some 63), none, none, .mv (.t 7)⟩,
    ⟨(some 64), none, none, .indexA 4 (.t 62) (.t 63)⟩,
    ⟨(some 65), none, none, .load true 4 (.t 64)⟩,
    ⟨(some 66), none, none, .call .fz 174 [.t 60, .t 65]⟩,
    ⟨(some 67), none, (some 0), .bslice 4 [.t 66]⟩,
    ⟨(some 68), none, (some 1), .append 4 64 (.t 59) (.t 67)⟩,
    ⟨(some 6), none, none, .mv (.t 68)⟩] (some (2, []))))))
            (.fg [0, 2, 4, 5, 6, 7] (.reg [⟨(some 21), none, none, .mv (.t 7)⟩,
    ⟨(some 22), none, none, .bin .add (.t 21) (.c (.p (.int .i64 1)))⟩,
    ⟨(some 7), none, none, .mv (.t 22)⟩] none)))))))))
        (.seq (.reg [⟨(some 69), none, none, .mv (.t 0)⟩,
    ⟨(some 70), none, none, .mv (.t 5)⟩,
    ⟨(some 71), none, none, .indexA 1 (.t 69) (.t 70)⟩,
    ⟨(some 72), none, none, .load false 1 (.t 71)⟩,
    ⟨(some 73), none, none, .mv (.t 0)⟩,
    ⟨(some 74), none, none, .mv (.t 5)⟩,
    ⟨(some 75), none, none, .indexA 1 (.t 73) (.t 74)⟩,
    ⟨(some 76), none, none, .load false 1 (.t 75)⟩,
    ⟨(some 77), none, none, .call .fz 171 [.t 72, .t 76]⟩,
    ⟨(some 78), none, none, .call .pu 27 [.t 77]⟩,
    ⟨(some 10), none, (some 0), .alloc [.p (.bool false), .nils, .p (.bool false), .nils]⟩,
    ⟨none, none, none, .store 4 (.t 10) (.t 78)⟩] (some (1, [])))
        (.seq (.seq (.reg [⟨(some 11), none, none, .mv (.c (.p (.int .i64 0)))⟩] none)
        (.fg [0, 2, 4, 5, 6, 10, 11] (.block 6
        (.loop (.fg [0, 2, 4, 5, 6, 10, 11]
          (.seq (.seq (.reg [⟨(some 79), none, none, .mv (.t 11)⟩,
    ⟨(some 80), none, none, .mv (.t 5)⟩,
    ⟨(some 81), none, none, .bin .lss (.t 79) (.t 80)⟩] none)
            (.fg [0, 2, 4, 5, 6, 10, 11, 81] (.cond (.t 81)
              .skip
              (.exit 6))))
            (.seq (.block 7
            (.reg [⟨(some 84), none, none, .load true 4 (.t 10)⟩,
    ⟨(some 85), none, none, .mv (.t 6)⟩,
    ⟨(some 86), none, none, .mv (.t 11)⟩,
    ⟨(some 87), none, none, .indexA 4 (.t 85) (.t 86)⟩,
    ⟨(some 88), none, none, .load true 4 (.t 87)⟩,
    ⟨(some 89), none, none, .call .fz 175 [.t 88]⟩,
    ⟨(some 90), none, none, .fieldA 1 (.t 4)⟩,
    ⟨(some 91), none, none, .load false 1 (.t 90)⟩,
    ⟨(some 92), none, none, .mv (.t 11)⟩,
    ⟨(some 93), none, none, .indexA 4 (.t 91) (.t 92)⟩,
    ⟨(some 94), none, none, .load true 4 (.t 93)⟩,
    ⟨(some 95), none, none, .call .fz 173 [.t 89, .t 94]⟩,
    ⟨(some 96), none, none, .call .fz 172 [.t 84, .t 95]⟩,
    ⟨none, none, none, .store 4 (.t 10) (.t 96)⟩] (some (0, [(0, 5), (5, 7), (5, 9), (5, 10), (0, 11)]))))
            (.fg [0, 2, 4, 5, 6, 10, 11] (.reg [⟨(some 82), none, none, .mv (.t 11)⟩,
    ⟨(some 83), none, none, .bin .add (.t 82) (.c (.p (.int .i64 1)))⟩,
    ⟨(some 11), none, none, .mv (.t 83)⟩] none)))))))))
        (.seq (.seq (.reg [⟨(some 97), none, none, .fieldA 0 (.t 10)⟩,
    ⟨(some 98), none, none, .load true 2 (.t 97)⟩,
    ⟨(some 99), none, none, .call .fz 79 [.t 98]⟩,
    ⟨(some 100), none, none, .bin .leq (.t 99) (.c (.p (.int .i64 0)))⟩] none)
        (.fg [0, 2, 4, 5, 6, 10, 100] (.cond (.t 100)
          (.seq (.reg [⟨(some 101), none, none, .load true 2 (.t 4)⟩,
    ⟨none, none, none, .store 2 (.t 2) (.t 101)⟩,
    ⟨(some 3), none, none, .mv (.c (.p (.bool false)))⟩] none)
          .ret)
          .skip)))
        (.seq (.reg [⟨(some 102), none, none, .fieldA 0 (.t 4)⟩,
    ⟨(some 103), none, none, .load false 1 (.t 102)⟩,
    ⟨(some 104), none, none, .mv (.t 6)⟩,
    ⟨(some 105), none, none, .bslice 1 [.t 104]⟩,
    ⟨(some 106), none, none, .append 1 24 (.t 103) (.t 105)⟩,
    ⟨(some 107), none, none, .fieldA 0 (.t 4)⟩,
    ⟨none, none, none, .store 1 (.t 107) (.t 106)⟩] none)
        (.reg [⟨(some 108), none, none, .fieldA 1 (.t 4)⟩,
    ⟨(some 109), none, none, .load false 1 (.t 108)⟩,
    ⟨(some 110), none, none, .load true 4 (.t 10)⟩,
    ⟨(some 111), none, none, .bslice 4 [.t 110]⟩,
    ⟨(some 112), none, none, .append 4 64 (.t 109) (.t 111)⟩,
    ⟨(some 113), none, none, .fieldA 1 (.t 4)⟩,
    ⟨none, none, none, .store 1 (.t 113) (.t 112)⟩] none))))))))
      (.fg [0, 2, 4, 5] (.reg [⟨(some 16), none, none, .mv (.t 5)⟩,
    ⟨(some 17), none, none, .bin .add (.t 16) (.c (.p (.int .i64 1)))⟩,
    ⟨(some 5), none, none, .mv (.t 17)⟩] none)))))))))
  (.seq (.reg [⟨(some 114), none, none, .load true 2 (.t 4)⟩,
    ⟨none, none, none, .store 2 (.t 2) (.t 114)⟩,
    ⟨(some 3), none, none, .mv (.c (.p (.bool true)))⟩] none)
  .ret)))),
  [.cell 2 true 2, .t 3]⟩

theorem c143 : chkF Try.prog 143 f143 = true := by kernel_rfl

/-- trammel/nat.trim -/
def f144 : RFun := ⟨(.seq (.reg [⟨(some 2), none, none, .mv (.c (.nils))⟩] none)
  (.seq (.block 0
  (.loop (.fg [0]
    (.seq (.seq (.reg [⟨(some 3), none, none, .mv (.t 0)⟩,
    ⟨(some 4), none, none, .len (.t 3)⟩,
    ⟨(some 5), none, none, .bin .gtr (.t 4) (.c (.p (.int .i64 0)))⟩,
    ⟨(some 6), none, none, .mv (.t 5)⟩,
    ⟨(some 7), (some (6, true)), none, .mv (.t 0)⟩,
    ⟨(some 8), (some (6, true)), none, .mv (.t 0)⟩,
    ⟨(some 9), (some (6, true)), none, .len (.t 8)⟩,
    ⟨(some 10), (some (6, true)), none, .bin .sub (.t 9) (.c (.p (.int .i64 1)))⟩,
    ⟨(some 11), (some (6, true)), none, .indexA 1 (.t 7) (.t 10)⟩,
    ⟨(some 12), (some (6, true)), none, .load false 1 (.t 11)⟩,
    ⟨(some 13), (some (6, true)), none, .bin .eql (.t 12) (.c (.p (.int .u32 0)))⟩,
    ⟨(some 14), none, none, .pick (.t 6) (.t 13) (.c (.p (.bool false)))⟩] none)
      (.fg [0, 14] (.cond (.t 14)
        .skip
        (.exit 0))))
      (.fg [0] (.block 1
      (.reg [⟨(some 15), none, none, .mv (.t 0)⟩,
    ⟨(some 16), none, none, .mv (.t 0)⟩,
    ⟨(some 17), none, none, .len (.t 16)⟩,
    ⟨(some 18), none, none, .bin .sub (.t 17) (.c (.p (.int .i64 1)))⟩,
    ⟨(some 19), none, none, .slice 1 (.t 15) none (some (.t 18)) none⟩,
    ⟨(some 0), none, none, .mv (.t 19)⟩] none)))))))
  (.fg [0] (.seq (.reg [⟨(some 20), none, none, .mv (.t 0)⟩,
    ⟨(some 2), none, none, .mv (.t 20)⟩] none)
  .ret)))),
  [.t 2]⟩

theorem c144 : chkF Try.prog 144 f144 = true := by kernel_rfl

/-- trammel/zint.Add -/
def f145 : RFun := ⟨(.seq (.reg [⟨(some 2), none, none, .box (.t 0)⟩,
    ⟨(some 3), none, none, .box (.t 1)⟩,
    ⟨(some 4), none, none, .alloc [.p (.bool false), .nils]⟩] none)
  (.seq (.seq (.reg [⟨(some 7), none, none, .fieldA 0 (.t 2)⟩,
    ⟨(some 8), none, none, .load false 1 (.t 7)⟩,
    ⟨(some 9), none, none, .fieldA 0 (.t 3)⟩,
    ⟨(some 10), none, none, .load false 1 (.t 9)⟩,
    ⟨(some 11), none, none, .beq false (.t 8) (.t 10)⟩] none)
  (.fg [2, 3, 4, 11] (.cond (.t 11)
    (.seq (.reg [⟨(some 12), none, none, .fieldA 0 (.t 2)⟩,
    ⟨(some 13), none, none, .load false 1 (.t 12)⟩,
    ⟨(some 14), none, none, .fieldA 1 (.t 2)⟩,
    ⟨(some 15), none, none, .load false 1 (.t 14)⟩,
    ⟨(some 16), none, none, .fieldA 1 (.t 3)⟩,
    ⟨(some 17), none, none, .load false 1 (.t 16)⟩,
    ⟨(some 18), none, none, .call .pu 176 [.t 15, .t 17]⟩,
    ⟨(some 19), none, none, .call .pu 105 [.t 13, .t 18]⟩,
    ⟨none, none, none, .store 2 (.t 4) (.t 19)⟩] (some (0, [])))
    .ret)
    .skip)))
  (.seq (.seq (.reg [⟨(some 20), none, none, .fieldA 1 (.t 2)⟩,
    ⟨(some 21), none, none, .load false 1 (.t 20)⟩,
    ⟨(some 22), none, none, .fieldA 1 (.t 3)⟩,
    ⟨(some 23), none, none, .load false 1 (.t 22)⟩,
    ⟨(some 24), none, none, .call .pu 177 [.t 21, .t 23]⟩,
    ⟨(some 25), none, none, .bin .lss (.t 24) (.c (.p (.int .i64 0)))⟩] none)
  (.fg [2, 3, 4, 25] (.cond (.t 25)
    (.reg [⟨(some 26), none, none, .load true 2 (.t 3)⟩,
    ⟨(some 27), none, none, .load true 2 (.t 2)⟩,
    ⟨none, none, none, .store 2 (.t 2) (.t 26)⟩,
    ⟨none, none, none, .store 2 (.t 3) (.t 27)⟩] none)
    .skip)))
  (.seq (.reg [⟨(some 29), none, none, .fieldA 1 (.t 2)⟩,
    ⟨(some 30), none, none, .load false 1 (.t 29)⟩,
    ⟨(some 31), none, none, .fieldA 1 (.t 3)⟩,
    ⟨(some 32), none, none, .load false 1 (.t 31)⟩,
    ⟨(some 33), none, none, .call .pu 178 [.t 30, .t 32]⟩,
    ⟨(some 28), none, none, .mv (.t 33)⟩,
    ⟨(some 34), none, none, .extract (.t 28) 0⟩,
    ⟨(some 35), none, none, .extract (.t 28) 1⟩,
    ⟨(some 5), none, none, .mv (.t 34)⟩,
    ⟨(some 6), none, none, .mv (.t 35)⟩] none)
  (.seq (.reg [⟨(some 36), none, none, .fieldA 0 (.t 2)⟩,
    ⟨(some 37), none, none, .load false 1 (.t 36)⟩,
    ⟨(some 38), none, none, .mv (.t 5)⟩,
    ⟨(some 39), none, none, .call .pu 105 [.t 37, .t 38]⟩,
    ⟨none, none, none, .store 2 (.t 4) (.t 39)⟩] none)
  .ret))))),
  [.cell 4 true 2]⟩

theorem c145 : chkF Try.prog 145 f145 = true := by kernel_rfl

/-- trammel/zint.Neg -/
def f146 : RFun := ⟨(.seq (.reg [⟨(some 1), none, none, .box (.t 0)⟩,
    ⟨(some 2), none, none, .alloc [.p (.bool false), .nils]⟩] none)
  (.seq (.reg [⟨(some 3), none, none, .fieldA 0 (.t 1)⟩,
    ⟨(some 4), none, none, .load false 1 (.t 3)⟩,
    ⟨(some 5), none, none, .un .not (.t 4)⟩,
    ⟨(some 6), none, none, .fieldA 1 (.t 1)⟩,
    ⟨(some 7), none, none, .load false 1 (.t 6)⟩,
    ⟨(some 8), none, none, .call .pu 105 [.t 5, .t 7]⟩,
    ⟨none, none, none, .store 2 (.t 2) (.t 8)⟩] none)
  .ret)),
  [.cell 2 true 2]⟩

theorem c146 : chkF Try.prog 146 f146 = true := by kernel_rfl

/-- trammel/trammelref01.Mul -/
def f147 : RFun := ⟨(.seq (.reg [⟨(some 4), none, none, .mv (.c (.nils))⟩] none)
  (.seq (.reg [⟨(some 9), none, none, .mv (.t 0)⟩,
    ⟨(some 10), none, none, .len (.t 9)⟩,
    ⟨(some 11), none, none, .mv (.t 1)⟩,
    ⟨(some 12), none, none, .len (.t 11)⟩,
    ⟨(some 13), none, none, .bin .add (.t 10) (.t 12)⟩,
    ⟨(some 14), none, none, .mks false 1 4 (.int .u32 0) (.t 13) (.t 13)⟩,
    ⟨(some 5), none, none, .mv (.t 14)⟩] none)
  (.seq (.seq (.reg [⟨(some 6), none, none, .mv (.c (.p (.int .i64 0)))⟩] none)
  (.fg [0, 1, 5, 6] (.block 0
  (.loop (.fg [0, 1, 5, 6]
    (.seq (.seq (.reg [⟨(some 15), none, none, .mv (.t 6)⟩,
    ⟨(some 16), none, none, .mv (.t 0)⟩,
    ⟨(some 17), none, none, .len (.t 16)⟩,
    ⟨(some 18), none, none, .bin .lss (.t 15) (.t 17)⟩] none)
      (.fg [0, 1, 5, 6, 18] (.cond (.t 18)
        .skip
        (.exit 0))))
      (.seq (.block 1
      (.seq (.reg [⟨(some 7), none, none, .mv (.c (.p (.int .u64 0)))⟩] none)
        (.seq (.seq (.reg [⟨(some 8), none, none, .mv (.c (.p (.int .i64 0)))⟩] none)
        (.fg [0, 1, 5, 6, 7, 8] (.block 2
        (.loop (.fg [0, 1, 5, 6, 7, 8]
          (.seq (.seq (.reg [⟨(some 21), none, none, .mv (.t 8)⟩,
    ⟨(some 22), none, none, .mv (.t 1)⟩,
    ⟨(some 23), none, none, .len (.t 22)⟩,
    ⟨(some 24), none, none, .bin .lss (.t 21) (.t 23)⟩] none)
            (.fg [0, 1, 5, 6, 7, 8, 24] (.cond (.t 24)
              .skip
              (.exit 2))))
            (.seq (.block 3
            (.seq (.reg [⟨(some 27), none, none, .mv (.t 7)⟩,
    ⟨(some 28), none, none, .mv (.t 5)⟩,
    ⟨(some 29), none, none, .mv (.t 6)⟩,
    ⟨(some 30), none, none, .mv (.t 8)⟩,
    ⟨(some 31), none, none, .bin .add (.t 29) (.t 30)⟩,
    ⟨(some 32), none, none, .indexA 1 (.t 28) (.t 31)⟩,
    ⟨(some 33), none, none, .load false 1 (.t 32)⟩,
    ⟨(some 34), none, none, .conv .u64 (.t 33)⟩,
    ⟨(some 35), none, none, .bin .add (.t 27) (.t 34)⟩,
    ⟨(some 36), none, none, .mv (.t 0)⟩,
    ⟨(some 37), none, none, .mv (.t 6)⟩,
    ⟨(some 38), none, none, .indexA 1 (.t 36) (.t 37)⟩,
    ⟨(some 39), none, none, .load false 1 (.t 38)⟩,
    ⟨(some 40), none, none, .conv .u64 (.t 39)⟩,
    ⟨(some 41), none, none, .mv (.t 1)⟩,
    ⟨(some 42), none, none, .mv (.t 8)⟩,
    ⟨(some 43), none, none, .indexA 1 (.t 41) (.t 42)⟩,
    ⟨(some 44), none, none, .load false 1 (.t 43)⟩,
    ⟨(some 45), none, none, .conv .u64 (.t 44)⟩,
    ⟨(some 46), none, none, .bin .mul (.t 40) (.t 45)⟩,
    ⟨(some 47), none, none, .bin .add (.t 35) (.t 46)⟩,
    ⟨(some 7), none, none, .mv (.t 47)⟩] (some (0, [])))
              (.seq (.reg [⟨(some 48), none, none, .mv (.t 5)⟩,
    ⟨(some 49), none, none, .mv (.t 6)⟩,
    ⟨(some 50), none, none, .mv (.t 8)⟩,
    ⟨(some 51), none, none, .bin .add (.t 49) (.t 50)⟩,
    ⟨(some 52), none, none, .mv (.t 7)⟩,
    ⟨(some 53), none, none, .bin .rem (.t 52) (.c (.p (.int .u64 4294967296)))⟩,
    ⟨(some 54), none, none, .conv .u32 (.t 53)⟩,
    ⟨(some 55), none, none, .indexA 1 (.t 48) (.t 51)⟩,
    ⟨none, none, none, .store 1 (.t 55) (.t 54)⟩] none)
              (.reg [⟨(some 56), none, none, .mv (.t 7)⟩,
    ⟨(some 57), none, none, .bin .quo (.t 56) (.c (.p (.int .u64 4294967296)))⟩,
    ⟨(some 7), none, none, .mv (.t 57)⟩] none))))
            (.fg [0, 1, 5, 6, 7, 8] (.reg [⟨(some 25), none, none, .mv (.t 8)⟩,
    ⟨(some 26), none, none, .bin .add (.t 25) (.c (.p (.int .i64 1)))⟩,
    ⟨(some 8), none, none, .mv (.t 26)⟩] none)))))))))
        (.reg [⟨(some 58), none, none, .mv (.t 5)⟩,
    ⟨(some 59), none, none, .mv (.t 6)⟩,
    ⟨(some 60), none, none, .mv (.t 1)⟩,
    ⟨(some 61), none, none, .len (.t 60)⟩,
    ⟨(some 62), none, none, .bin .add (.t 59) (.t 61)⟩,
    ⟨(some 63), none, none, .mv (.t 7)⟩,
    ⟨(some 64), none, none, .conv .u32 (.t 63)⟩,
    ⟨(some 65), none, none, .indexA 1 (.t 58) (.t 62)⟩,
    ⟨none, none, none, .store 1 (.t 65) (.t 64)⟩] none))))
      (.fg [0, 1, 5, 6] (.reg [⟨(some 19), none, none, .mv (.t 6)⟩,
    ⟨(some 20), none, none, .bin .add (.t 19) (.c (.p (.int .i64 1)))⟩,
    ⟨(some 6), none, none, .mv (.t 20)⟩] none)))))))))
  (.seq (.reg [⟨(some 66), none, none, .mv (.t 5)⟩,
    ⟨(some 67), none, none, .call .fz 98 [.t 66]⟩,
    ⟨(some 4), none, none, .mv (.t 67)⟩] none)
  .ret)))),
  [.t 4]⟩

theorem c147 : chkF Try.prog 147 f147 = true := by kernel_rfl

/-- math/bits.Len32 -/
def f148 : RFun := ⟨(.seq (.reg [⟨(some 2), none, none, .mv (.c (.p (.int .i64 0)))⟩] none)
  (.seq (.seq (.reg [⟨(some 3), none, none, .mv (.t 0)⟩,
    ⟨(some 4), none, none, .bin .geq (.t 3) (.c (.p (.int .u32 65536)))⟩] none)
  (.fg [0, 2, 4] (.cond (.t 4)
    (.seq (.reg [⟨(some 5), none, none, .mv (.t 0)⟩,
    ⟨(some 6), none, none, .bin .shr (.t 5) (.c (.p (.int .u64 16)))⟩,
    ⟨(some 0), none, none, .mv (.t 6)⟩] none)
    (.reg [⟨(some 2), none, none, .mv (.c (.p (.int .i64 16)))⟩] none))
    .skip)))
  (.seq (.seq (.reg [⟨(some 7), none, none, .mv (.t 0)⟩,
    ⟨(some 8), none, none, .bin .geq (.t 7) (.c (.p (.int .u32 256)))⟩] none)
  (.fg [0, 2, 8] (.cond (.t 8)
    (.seq (.reg [⟨(some 9), none, none, .mv (.t 0)⟩,
    ⟨(some 10), none, none, .bin .shr (.t 9) (.c (.p (.int .u64 8)))⟩,
    ⟨(some 0), none, none, .mv (.t 10)⟩] none)
    (.reg [⟨(some 11), none, none, .mv (.t 2)⟩,
    ⟨(some 12), none, none, .bin .add (.t 11) (.c (.p (.int .i64 8)))⟩,
    ⟨(some 2), none, none, .mv (.t 12)⟩] none))
    .skip)))
  (.seq (.reg [⟨(some 13), none, none, .mv (.t 2)⟩,
    ⟨(some 14), none, none, .mv (.t 0)⟩,
    ⟨(some 15), none, none, .conv .u8 (.t 14)⟩,
    ⟨(some 16), none, none, .idx [0, 1, 2, 2, 3, 3, 3, 3, 4, 4, 4, 4, 4, 4, 4, 4, 5, 5, 5, 5, 5, 5, 5, 5, 5, 5, 5, 5, 5, 5, 5, 5, 6, 6, 6, 6, 6, 6, 6, 6, 6, 6, 6, 6, 6, 6, 6, 6, 6, 6, 6, 6, 6, 6, 6, 6, 6, 6, 6, 6, 6, 6, 6, 6, 7, 7, 7, 7, 7, 7, 7, 7, 7, 7, 7, 7, 7, 7, 7, 7, 7, 7, 7, 7, 7, 7, 7, 7, 7, 7, 7, 7, 7, 7, 7, 7, 7, 7, 7, 7, 7, 7, 7, 7, 7, 7, 7, 7, 7, 7, 7, 7, 7, 7, 7, 7, 7, 7, 7, 7, 7, 7, 7, 7, 7, 7, 7, 7, 8, 8, 8, 8, 8, 8, 8, 8, 8, 8, 8, 8, 8, 8, 8, 8, 8, 8, 8, 8, 8, 8, 8, 8, 8, 8, 8, 8, 8, 8, 8, 8, 8, 8, 8, 8, 8, 8, 8, 8, 8, 8, 8, 8, 8, 8, 8, 8, 8, 8, 8, 8, 8, 8, 8, 8, 8, 8, 8, 8, 8, 8, 8, 8, 8, 8, 8, 8, 8, 8, 8, 8, 8, 8, 8, 8, 8, 8, 8, 8, 8, 8, 8, 8, 8, 8, 8, 8, 8, 8, 8, 8, 8, 8, 8, 8, 8, 8, 8, 8, 8, 8, 8, 8, 8, 8, 8, 8, 8, 8, 8, 8, 8, 8, 8, 8, 8, 8, 8, 8, 8, 8, 8, 8, 8, 8, 8, 8] (.t 15)⟩,
    ⟨(some 17), none, none, .conv .i64 (.t 16)⟩,
    ⟨(some 18), none, none, .bin .add (.t 13) (.t 17)⟩,
    ⟨(some 2), none, none, .mv (.t 18)⟩] none)
  .ret)))),
  [.t 2]⟩

theorem c148 : chkF Try.prog 148 f148 = true := by kernel_rfl

/-- trammel/zint.Sub -/
def f157 : RFun := ⟨(.seq (.reg [⟨(some 2), none, none, .box (.t 0)⟩,
    ⟨(some 3), none, none, .box (.t 1)⟩,
    ⟨(some 4), none, none, .alloc [.p (.bool false), .nils]⟩] none)
  (.seq (.reg [⟨(some 5), none, none, .load true 2 (.t 2)⟩,
    ⟨(some 6), none, none, .load true 2 (.t 3)⟩,
    ⟨(some 7), none, none, .call .pu 146 [.t 6]⟩,
    ⟨(some 8), none, none, .call .pu 145 [.t 5, .t 7]⟩,
    ⟨none, none, none, .store 2 (.t 4) (.t 8)⟩] (some (0, [])))
  .ret)),
  [.cell 4 true 2]⟩

theorem c157 : chkF Try.prog 157 f157 = true := by kernel_rfl

/-- trammel/nat.Norm -/
def f158 : RFun := ⟨(.seq (.reg [⟨(some 2), none, none, .mv (.c (.nils))⟩] none)
  (.seq (.reg [⟨(some 3), none, none, .mv (.t 0)⟩,
    ⟨(some 4), none, none, .call .pu 144 [.t 3]⟩,
    ⟨(some 5), none, none, .append 1 4 (.c (.nils)) (.t 4)⟩,
    ⟨(some 2), none, none, .mv (.t 5)⟩] none)
  .ret)),
  [.t 2]⟩

theorem c158 : chkF Try.prog 158 f158 = true := by kernel_rfl

/-- trammel/nat.Div -/
def f159 : RFun := ⟨(.seq (.reg [⟨(some 4), none, none, .mv (.c (.nils))⟩,
    ⟨(some 5), none, none, .mv (.c (.nils))⟩,
    ⟨(some 6), none, none, .mv (.c (.p (.int .i64 0)))⟩] none)
  (.seq (.reg [⟨(some 14), none, none, .mv (.t 0)⟩,
    ⟨(some 15), none, none, .call .pu 144 [.t 14]⟩,
    ⟨(some 16), none, none, .mv (.t 1)⟩,
    ⟨(some 17), none, none, .call .pu 144 [.t 16]⟩,
    ⟨(some 0), none, none, .mv (.t 15)⟩,
    ⟨(some 1), none, none, .mv (.t 17)⟩] none)
  (.seq (.block 0
  (.seq (.reg [⟨(some 19), none, none, .mv (.t 1)⟩,
    ⟨(some 20), none, none, .len (.t 19)⟩,
    ⟨(some 21), none, none, .bin .eql (.t 20) (.c (.p (.int .i64 0)))⟩,
    ⟨(some 18), none, none, .mv (.t 21)⟩] none)
    (.fg [0, 1, 18] (.cond (.t 18)
      (.seq (.reg [⟨(some 4), none, none, .mv (.c (.nils))⟩,
    ⟨(some 5), none, none, .mv (.c (.nils))⟩,
    ⟨(some 6), none, none, .mv (.c (.p (.int .i64 11)))⟩] none)
      .ret)
      (.seq (.reg [⟨(some 23), none, none, .mv (.t 0)⟩,
    ⟨(some 24), none, none, .mv (.t 1)⟩,
    ⟨(some 25), none, none, .call .pu 177 [.t 23, .t 24]⟩,
    ⟨(some 26), none, none, .bin .lss (.t 25) (.c (.p (.int .i64 0)))⟩,
    ⟨(some 22), none, none, .mv (.t 26)⟩] none)
      (.fg [0, 1, 22] (.cond (.t 22)
        (.seq (.reg [⟨(some 27), none, none, .mv (.t 0)⟩,
    ⟨(some 28), none, none, .call .pu 158 [.t 27]⟩,
    ⟨(some 4), none, none, .mv (.c (.nils))⟩,
    ⟨(some 5), none, none, .mv (.t 28)⟩,
    ⟨(some 6), none, none, .mv (.c (.p (.int .i64 0)))⟩] none)
        .ret)
        (.seq (.reg [⟨(some 30), none, none, .mv (.t 1)⟩,
    ⟨(some 31), none, none, .len (.t 30)⟩,
    ⟨(some 32), none, none, .bin .eql (.t 31) (.c (.p (.int .i64 1)))⟩,
    ⟨(some 29), none, none, .mv (.t 32)⟩] none)
        (.fg [0, 1, 29] (.cond (.t 29)
          (.seq (.reg [⟨(some 34), none, none, .mv (.t 0)⟩,
    ⟨(some 35), none, none, .mv (.t 1)⟩,
    ⟨(some 36), none, none, .indexA 1 (.t 35) (.c (.p (.int .i64 0)))⟩,
    ⟨(some 37), none, none, .load false 1 (.t 36)⟩,
    ⟨(some 38), none, none, .call .pu 184 [.t 34, .t 37]⟩,
    ⟨(some 33), none, none, .mv (.t 38)⟩,
    ⟨(some 39), none, none, .extract (.t 33) 0⟩,
    ⟨(some 40), none, none, .extract (.t 33) 1⟩,
    ⟨(some 7), none, none, .mv (.t 39)⟩,
    ⟨(some 8), none, none, .mv (.t 40)⟩] none)
          (.seq (.reg [⟨(some 41), none, none, .mv (.t 7)⟩,
    ⟨(some 42), none, none, .mv (.t 8)⟩,
    ⟨(some 43), none, none, .bslice 1 [.t 42]⟩,
    ⟨(some 44), none, none, .call .fz 144 [.t 43]⟩,
    ⟨(some 4), none, none, .mv (.t 41)⟩,
    ⟨(some 5), none, none, .mv (.t 44)⟩,
    ⟨(some 6), none, none, .mv (.c (.p (.int .i64 0)))⟩] none)
          .ret))
          .skip))))))))))
  (.fg [0, 1] (.seq (.reg [⟨(some 45), none, none, .mv (.t 1)⟩,
    ⟨(some 46), none, none, .mv (.t 1)⟩,
    ⟨(some 47), none, none, .len (.t 46)⟩,
    ⟨(some 48), none, none, .bin .sub (.t 47) (.c (.p (.int .i64 1)))⟩,
    ⟨(some 49), none, none, .indexA 1 (.t 45) (.t 48)⟩,
    ⟨(some 50), none, none, .load false 1 (.t 49)⟩,
    ⟨(some 51), none, none, .call .pu 185 [.t 50]⟩,
    ⟨(some 9), none, none, .mv (.t 51)⟩] none)
  (.seq (.reg [⟨(some 52), none, none, .mv (.t 1)⟩,
    ⟨(some 53), none, none, .mv (.t 9)⟩,
    ⟨(some 54), none, none, .call .pu 186 [.t 52, .t 53]⟩,
    ⟨(some 10), none, none, .mv (.t 54)⟩] none)
  (.seq (.reg [⟨(some 55), none, none, .mv (.t 0)⟩,
    ⟨(some 56), none, none, .mv (.t 9)⟩,
    ⟨(some 57), none, none, .call .keep 186 [.t 55, .t 56]⟩,
    ⟨(some 58), none, none, .bslice 1 [.c (.p (.int .u32 0)), .c (.p (.int .u32 0))]⟩,
    ⟨(some 59), none, none, .append 1 4 (.t 57) (.t 58)⟩,
    ⟨(some 60), none, none, .mv (.t 0)⟩,
    ⟨(some 61), none, none, .len (.t 60)⟩,
    ⟨(some 62), none, none, .bin .add (.t 61) (.c (.p (.int .i64 1)))⟩,
    ⟨(some 63), none, none, .slice 1 (.t 59) none (some (.t 62)) none⟩,
    ⟨(some 11), none, none, .mv (.t 63)⟩] none)
  (.seq (.reg [⟨(some 64), none, none, .mv (.t 0)⟩,
    ⟨(some 65), none, none, .len (.t 64)⟩,
    ⟨(some 66), none, none, .mv (.t 1)⟩,
    ⟨(some 67), none, none, .len (.t 66)⟩,
    ⟨(some 68), none, none, .bin .sub (.t 65) (.t 67)⟩,
    ⟨(some 69), none, none, .bin .add (.t 68) (.c (.p (.int .i64 1)))⟩,
    ⟨(some 70), none, none, .mks false 1 4 (.int .u32 0) (.t 69) (.t 69)⟩,
    ⟨(some 12), none, none, .mv (.t 70)⟩] none)
  (.seq (.seq (.reg [⟨(some 71), none, none, .mv (.t 0)⟩,
    ⟨(some 72), none, none, .len (.t 71)⟩,
    ⟨(some 73), none, none, .mv (.t 1)⟩,
    ⟨(some 74), none, none, .len (.t 73)⟩,
    ⟨(some 75), none, none, .bin .sub (.t 72) (.t 74)⟩,
    ⟨(some 13), none, none, .mv (.t 75)⟩] none)
  (.fg [9, 10, 11, 12, 13] (.block 1
  (.loop (.fg [9, 10, 11, 12, 13]
    (.seq (.seq (.reg [⟨(some 76), none, none, .mv (.t 13)⟩,
    ⟨(some 77), none, none, .bin .geq (.t 76) (.c (.p (.int .i64 0)))⟩] none)
      (.fg [9, 10, 11, 12, 13, 77] (.cond (.t 77)
        .skip
        (.exit 1))))
      (.seq (.block 2
      (.reg [⟨(some 80), none, none, .mv (.t 12)⟩,
    ⟨(some 81), none, none, .mv (.t 13)⟩,
    ⟨(some 82), none, none, .mv (.t 11)⟩,
    ⟨(some 83), none, none, .mv (.t 13)⟩,
    ⟨(some 84), none, none, .mv (.t 13)⟩,
    ⟨(some 85), none, none, .mv (.t 10)⟩,
    ⟨(some 86), none, none, .len (.t 85)⟩,
    ⟨(some 87), none, none, .bin .add (.t 84) (.t 86)⟩,
    ⟨(some 88), none, none, .bin .add (.t 87) (.c (.p (.int .i64 1)))⟩,
    ⟨(some 89), none, none, .slice 1 (.t 82) (some (.t 83)) (some (.t 88)) none⟩,
    ⟨(some 90), none, none, .mv (.t 10)⟩,
    ⟨(some 91), none, none, .call .full 187 [.t 89, .t 90]⟩,
    ⟨(some 92), none, none, .indexA 1 (.t 80) (.t 81)⟩,
    ⟨none, none, none, .store 1 (.t 92) (.t 91)⟩] none))
      (.fg [9, 10, 11, 12, 13] (.reg [⟨(some 78), none, none, .mv (.t 13)⟩,
    ⟨(some 79), none, none, .bin .sub (.t 78) (.c (.p (.int .i64 1)))⟩,
    ⟨(some 13), none, none, .mv (.t 79)⟩] none)))))))))
  (.seq (.reg [⟨(some 93), none, none, .mv (.t 12)⟩,
    ⟨(some 94), none, none, .call .fz 144 [.t 93]⟩,
    ⟨(some 95), none, none, .mv (.t 11)⟩,
    ⟨(some 96), none, none, .call .fz 144 [.t 95]⟩,
    ⟨(some 97), none, none, .mv (.t 9)⟩,
    ⟨(some 98), none, none, .call .pu 188 [.t 96, .t 97]⟩,
    ⟨(some 4), none, none, .mv (.t 94)⟩,
    ⟨(some 5), none, none, .mv (.t 98)⟩,
    ⟨(some 6), none, none, .mv (.c (.p (.int .i64 0)))⟩] none)
  .ret)))))))))),
  [.t 4, .t 5, .t 6]⟩

theorem c159 : chkF Try.prog 159 f159 = true := by kernel_rfl

/-- trammel/trammelref01.small -/
def f160 : RFun := ⟨(.seq (.reg [⟨(some 4), none, none, .mv (.c (.nils))⟩,
    ⟨(some 5), none, none, .mv (.c (.p (.int .u64 0)))⟩] none)
  (.seq (.reg [⟨(some 9), none, none, .mv (.t 0)⟩,
    ⟨(some 10), none, none, .len (.t 9)⟩,
    ⟨(some 11), none, none, .mks false 1 4 (.int .u32 0) (.t 10) (.t 10)⟩,
    ⟨(some 6), none, none, .mv (.t 11)⟩] none)
  (.seq (.reg [⟨(some 7), none, none, .mv (.c (.p (.int .u64 0)))⟩] none)
  (.seq (.seq (.reg [⟨(some 12), none, none, .mv (.t 0)⟩,
    ⟨(some 13), none, none, .len (.t 12)⟩,
    ⟨(some 14), none, none, .bin .sub (.t 13) (.c (.p (.int .i64 1)))⟩,
    ⟨(some 8), none, none, .mv (.t 14)⟩] none)
  (.fg [0, 1, 6, 7, 8] (.block 0
  (.loop (.fg [0, 1, 6, 7, 8]
    (.seq (.seq (.reg [⟨(some 15), none, none, .mv (.t 8)⟩,
    ⟨(some 16), none, none, .bin .geq (.t 15) (.c (.p (.int .i64 0)))⟩] none)
      (.fg [0, 1, 6, 7, 8, 16] (.cond (.t 16)
        .skip
        (.exit 0))))
      (.seq (.block 1
      (.seq (.reg [⟨(some 19), none, none, .mv (.t 7)⟩,
    ⟨(some 20), none, none, .bin .mul (.t 19) (.c (.p (.int .u64 4294967296)))⟩,
    ⟨(some 21), none, none, .mv (.t 0)⟩,
    ⟨(some 22), none, none, .mv (.t 8)⟩,
    ⟨(some 23), none, none, .indexA 1 (.t 21) (.t 22)⟩,
    ⟨(some 24), none, none, .load false 1 (.t 23)⟩,
    ⟨(some 25), none, none, .conv .u64 (.t 24)⟩,
    ⟨(some 26), none, none, .bin .add (.t 20) (.t 25)⟩,
    ⟨(some 7), none, none, .mv (.t 26)⟩] none)
        (.seq (.reg [⟨(some 27), none, none, .mv (.t 6)⟩,
    ⟨(some 28), none, none, .mv (.t 8)⟩,
    ⟨(some 29), none, none, .mv (.t 7)⟩,
    ⟨(some 30), none, none, .mv (.t 1)⟩,
    ⟨(some 31), none, none, .bin .quo (.t 29) (.t 30)⟩,
    ⟨(some 32), none, none, .conv .u32 (.t 31)⟩,
    ⟨(some 33), none, none, .indexA 1 (.t 27) (.t 28)⟩,
    ⟨none, none, none, .store 1 (.t 33) (.t 32)⟩] none)
        (.reg [⟨(some 34), none, none, .mv (.t 7)⟩,
    ⟨(some 35), none, none, .mv (.t 1)⟩,
    ⟨(some 36), none, none, .bin .rem (.t 34) (.t 35)⟩,
    ⟨(some 7), none, none, .mv (.t 36)⟩] none))))
      (.fg [0, 1, 6, 7, 8] (.reg [⟨(some 17), none, none, .mv (.t 8)⟩,
    ⟨(some 18), none, none, .bin .sub (.t 17) (.c (.p (.int .i64 1)))⟩,
    ⟨(some 8), none, none, .mv (.t 18)⟩] none)))))))))
  (.seq (.reg [⟨(some 37), none, none, .mv (.t 6)⟩,
    ⟨(some 38), none, none, .call .fz 98 [.t 37]⟩,
    ⟨(some 39), none, none, .mv (.t 7)⟩,
    ⟨(some 4), none, none, .mv (.t 38)⟩,
    ⟨(some 5), none, none, .mv (.t 39)⟩] none)
  .ret))))),
  [.t 4, .t 5]⟩

theorem c160 : chkF Try.prog 160 f160 = true := by kernel_rfl

/-- trammel/trammelref01.Two -/
def f161 : RFun := ⟨(.seq (.reg [⟨(some 2), none, none, .mv (.c (.nils))⟩] none)
  (.seq (.reg [⟨(some 3), none, none, .mv (.c (.nils))⟩] none)
  (.seq (.seq (.reg [⟨(some 4), none, none, .mv (.c (.p (.int .i64 0)))⟩] none)
  (.fg [0, 3, 4] (.block 0
  (.loop (.fg [0, 3, 4]
    (.seq (.seq (.reg [⟨(some 5), none, none, .mv (.t 4)⟩,
    ⟨(some 6), none, none, .mv (.t 0)⟩,
    ⟨(some 7), none, none, .bin .quo (.t 6) (.c (.p (.int .i64 32)))⟩,
    ⟨(some 8), none, none, .bin .lss (.t 5) (.t 7)⟩] none)
      (.fg [0, 3, 4, 8] (.cond (.t 8)
        .skip
        (.exit 0))))
      (.seq (.block 1
      (.reg [⟨(some 11), none, none, .mv (.t 3)⟩,
    ⟨(some 12), none, none, .bslice 1 [.c (.p (.int .u32 0))]⟩,
    ⟨(some 13), none, none, .append 1 4 (.t 11) (.t 12)⟩,
    ⟨(some 3), none, none, .mv (.t 13)⟩] none))
      (.fg [0, 3, 4] (.reg [⟨(some 9), none, none, .mv (.t 4)⟩,
    ⟨(some 10), none, none, .bin .add (.t 9) (.c (.p (.int .i64 1)))⟩,
    ⟨(some 4), none, none, .mv (.t 10)⟩] none)))))))))
  (.seq (.reg [⟨(some 14), none, none, .mv (.t 3)⟩,
    ⟨(some 15), none, none, .mv (.t 0)⟩,
    ⟨(some 16), none, none, .bin .rem (.t 15) (.c (.p (.int .i64 32)))⟩,
    ⟨(some 17), none, none, .conv .u64 (.t 16)⟩,
    ⟨(some 18), none, none, .bin .shl (.c (.p (.int .u32 1))) (.t 17)⟩,
    ⟨(some 19), none, none, .bslice 1 [.t 18]⟩,
    ⟨(some 20), none, none, .append 1 4 (.t 14) (.t 19)⟩,
    ⟨(some 2), none, none, .mv (.t 20)⟩] none)
  .ret)))),
  [.t 2]⟩

theorem c161 : chkF Try.prog 161 f161 = true := by kernel_rfl

/-- trammel/trammelref01.limb -/
def f162 : RFun := ⟨(.seq (.reg [⟨(some 4), none, none, .mv (.c (.p (.int .u64 0)))⟩] none)
  (.seq (.seq (.reg [⟨(some 5), none, none, .mv (.t 1)⟩,
    ⟨(some 6), none, none, .mv (.t 0)⟩,
    ⟨(some 7), none, none, .len (.t 6)⟩,
    ⟨(some 8), none, none, .bin .lss (.t 5) (.t 7)⟩] none)
  (.fg [0, 1, 8] (.cond (.t 8)
    (.seq (.reg [⟨(some 9), none, none, .mv (.t 0)⟩,
    ⟨(some 10), none, none, .mv (.t 1)⟩,
    ⟨(some 11), none, none, .indexA 1 (.t 9) (.t 10)⟩,
    ⟨(some 12), none, none, .load false 1 (.t 11)⟩,
    ⟨(some 13), none, none, .conv .u64 (.t 12)⟩,
    ⟨(some 4), none, none, .mv (.t 13)⟩] none)
    .ret)
    .skip)))
  (.seq (.reg [⟨(some 4), none, none, .mv (.c (.p (.int .u64 0)))⟩] none)
  .ret))),
  [.t 4]⟩

theorem c162 : chkF Try.prog 162 f162 = true := by kernel_rfl

/-- trammel/trammelref01.less -/
def f163 : RFun := ⟨(.seq (.reg [⟨(some 4), none, none, .mv (.c (.nils))⟩] none)
  (.seq (.reg [⟨(some 5), none, none, .mv (.c (.nils))⟩] none)
  (.seq (.reg [⟨(some 6), none, none, .mv (.c (.p (.int .u64 0)))⟩] none)
  (.seq (.seq (.reg [⟨(some 7), none, none, .mv (.c (.p (.int .i64 0)))⟩] none)
  (.fg [0, 1, 5, 6, 7] (.block 0
  (.loop (.fg [0, 1, 5, 6, 7]
    (.seq (.seq (.reg [⟨(some 10), none, none, .mv (.t 7)⟩,
    ⟨(some 11), none, none, .mv (.t 0)⟩,
    ⟨(some 12), none, none, .len (.t 11)⟩,
    ⟨(some 13), none, none, .bin .lss (.t 10) (.t 12)⟩] none)
      (.fg [0, 1, 5, 6, 7, 13] (.cond (.t 13)
        .skip
        (.exit 0))))
      (.seq (.block 1
      (.seq (.reg [⟨(some 16), none, none, .mv (.t 0)⟩,
    ⟨(some 17), none, none, .mv (.t 7)⟩,
    ⟨(some 18), none, none, .call .pu 162 [.t 16, .t 17]⟩,
    ⟨(some 8), none, none, .mv (.t 18)⟩] none)
        (.seq (.reg [⟨(some 19), none, none, .mv (.t 1)⟩,
    ⟨(some 20), none, none, .mv (.t 7)⟩,
    ⟨(some 21), none, none, .call .pu 162 [.t 19, .t 20]⟩,
    ⟨(some 22), none, none, .mv (.t 6)⟩,
    ⟨(some 23), none, none, .bin .add (.t 21) (.t 22)⟩,
    ⟨(some 9), none, none, .mv (.t 23)⟩] none)
        (.seq (.reg [⟨(some 6), none, none, .mv (.c (.p (.int .u64 0)))⟩] none)
        (.seq (.seq (.reg [⟨(some 24), none, none, .mv (.t 8)⟩,
    ⟨(some 25), none, none, .mv (.t 9)⟩,
    ⟨(some 26), none, none, .bin .lss (.t 24) (.t 25)⟩] none)
        (.fg [0, 1, 5, 6, 7, 8, 9, 26] (.cond (.t 26)
          (.seq (.reg [⟨(some 27), none, none, .mv (.t 8)⟩,
    ⟨(some 28), none, none, .bin .add (.t 27) (.c (.p (.int .u64 4294967296)))⟩,
    ⟨(some 8), none, none, .mv (.t 28)⟩] none)
          (.reg [⟨(some 6), none, none, .mv (.c (.p (.int .u64 1)))⟩] none))
          .skip)))
        (.reg [⟨(some 29), none, none, .mv (.t 5)⟩,
    ⟨(some 30), none, none, .mv (.t 8)⟩,
    ⟨(some 31), none, none, .mv (.t 9)⟩,
    ⟨(some 32), none, none, .bin .sub (.t 30) (.t 31)⟩,
    ⟨(some 33), none, none, .conv .u32 (.t 32)⟩,
    ⟨(some 34), none, none, .bslice 1 [.t 33]⟩,
    ⟨(some 35), none, none, .append 1 4 (.t 29) (.t 34)⟩,
    ⟨(some 5), none, none, .mv (.t 35)⟩] none))))))
      (.fg [0, 1, 5, 6, 7] (.reg [⟨(some 14), none, none, .mv (.t 7)⟩,
    ⟨(some 15), none, none, .bin .add (.t 14) (.c (.p (.int .i64 1)))⟩,
    ⟨(some 7), none, none, .mv (.t 15)⟩] none)))))))))
  (.seq (.reg [⟨(some 36), none, none, .mv (.t 5)⟩,
    ⟨(some 37), none, none, .call .fz 98 [.t 36]⟩,
    ⟨(some 4), none, none, .mv (.t 37)⟩] none)
  .ret))))),
  [.t 4]⟩

theorem c163 : chkF Try.prog 163 f163 = true := by kernel_rfl

/-- trammel/trammelref01.Shr -/
def f164 : RFun := ⟨(.seq (.reg [⟨(some 4), none, none, .mv (.c (.nils))⟩,
    ⟨(some 5), none, none, .mv (.c (.p (.int .i64 0)))⟩] none)
  (.seq (.seq (.reg [⟨(some 9), none, none, .mv (.t 1)⟩,
    ⟨(some 10), none, none, .bin .lss (.t 9) (.c (.p (.int .i64 0)))⟩] none)
  (.fg [0, 1, 10] (.cond (.t 10)
    (.seq (.reg [⟨(some 4), none, none, .mv (.c (.nils))⟩,
    ⟨(some 5), none, none, .mv (.c (.p (.int .i64 1)))⟩] none)
    .ret)
    .skip)))
  (.seq (.seq (.reg [⟨(some 11), none, none, .mv (.t 1)⟩,
    ⟨(some 12), none, none, .mv (.t 0)⟩,
    ⟨(some 13), none, none, .call .pu 82 [.t 12]⟩,
    ⟨(some 14), none, none, .bin .geq (.t 11) (.t 13)⟩] none)
  (.fg [0, 1, 14] (.cond (.t 14)
    (.seq (.reg [⟨(some 4), none, none, .mv (.c (.nils))⟩,
    ⟨(some 5), none, none, .mv (.c (.p (.int .i64 0)))⟩] none)
    .ret)
    .skip)))
  (.seq (.reg [⟨(some 6), none, none, .mv (.c (.nils))⟩] none)
  (.seq (.seq (.reg [⟨(some 15), none, none, .mv (.t 1)⟩,
    ⟨(some 16), none, none, .bin .quo (.t 15) (.c (.p (.int .i64 32)))⟩,
    ⟨(some 7), none, none, .mv (.t 16)⟩] none)
  (.fg [0, 1, 6, 7] (.block 0
  (.loop (.fg [0, 1, 6, 7]
    (.seq (.seq (.reg [⟨(some 17), none, none, .mv (.t 7)⟩,
    ⟨(some 18), none, none, .mv (.t 0)⟩,
    ⟨(some 19), none, none, .len (.t 18)⟩,
    ⟨(some 20), none, none, .bin .lss (.t 17) (.t 19)⟩] none)
      (.fg [0, 1, 6, 7, 20] (.cond (.t 20)
        .skip
        (.exit 0))))
      (.seq (.block 1
      (.seq (.reg [⟨(some 23), none, none, .mv (.t 0)⟩,
    ⟨(some 24), none, none, .mv (.t 7)⟩,
    ⟨(some 25), none, none, .call .pu 162 [.t 23, .t 24]⟩,
    ⟨(some 26), none, none, .mv (.t 0)⟩,
    ⟨(some 27), none, none, .mv (.t 7)⟩,
    ⟨(some 28), none, none, .bin .add (.t 27) (.c (.p (.int .i64 1)))⟩,
    ⟨(some 29), none, none, .call .pu 162 [.t 26, .t 28]⟩,
    ⟨(some 30), none, none, .bin .mul (.t 29) (.c (.p (.int .u64 4294967296)))⟩,
    ⟨(some 31), none, none, .bin .add (.t 25) (.t 30)⟩,
    ⟨(some 8), none, none, .mv (.t 31)⟩] none)
        (.reg [⟨(some 32), none, none, .mv (.t 6)⟩,
    ⟨(some 33), none, none, .mv (.t 8)⟩,
    ⟨(some 34), none, none, .mv (.t 1)⟩,
    ⟨(some 35), none, none, .bin .rem (.t 34) (.c (.p (.int .i64 32)))⟩,
    ⟨(some 36), none, none, .conv .u64 (.t 35)⟩,
    ⟨(some 37), none, none, .bin .shr (.t 33) (.t 36)⟩,
    ⟨(some 38), none, none, .bin .rem (.t 37) (.c (.p (.int .u64 4294967296)))⟩,
    ⟨(some 39), none, none, .conv .u32 (.t 38)⟩,
    ⟨(some 40), none, none, .bslice 1 [.t 39]⟩,
    ⟨(some 41), none, none, .append 1 4 (.t 32) (.t 40)⟩,
    ⟨(some 6), none, none, .mv (.t 41)⟩] none)))
      (.fg [0, 1, 6, 7] (.reg [⟨(some 21), none, none, .mv (.t 7)⟩,
    ⟨(some 22), none, none, .bin .add (.t 21) (.c (.p (.int .i64 1)))⟩,
    ⟨(some 7), none, none, .mv (.t 22)⟩] none)))))))))
  (.seq (.reg [⟨(some 42), none, none, .mv (.t 6)⟩,
    ⟨(some 43), none, none, .call .fz 98 [.t 42]⟩,
    ⟨(some 4), none, none, .mv (.t 43)⟩,
    ⟨(some 5), none, none, .mv (.c (.p (.int .i64 0)))⟩] none)
  .ret)))))),
  [.t 4, .t 5]⟩

theorem c164 : chkF Try.prog 164 f164 = true := by kernel_rfl

/-- trammel/mat.Dot -/
def f169 : RFun := ⟨(.seq (.reg [⟨(some 4), none, none, .alloc [.p (.bool false), .nils]⟩,
    ⟨(some 5), none, none, .mv (.c (.p (.int .i64 0)))⟩] none)
  (.seq (.seq (.reg [⟨(some 6), none, none, .mv (.t 0)⟩,
    ⟨(some 7), none, none, .len (.t 6)⟩,
    ⟨(some 8), none, none, .mv (.t 1)⟩,
    ⟨(some 9), none, none, .len (.t 8)⟩,
    ⟨(some 10), none, none, .bin .neq (.t 7) (.t 9)⟩] none)
  (.fg [0, 1, 4, 10] (.cond (.t 10)
    (.seq (.reg [⟨(some 11), none, none, .build [.p (.bool false), .nils] []⟩,
    ⟨none, none, none, .store 2 (.t 4) (.t 11)⟩,
    ⟨(some 5), none, none, .mv (.c (.p (.int .i64 8)))⟩] none)
    .ret)
    .skip)))
  (.seq (.reg [⟨(some 12), none, none, .mv (.t 0)⟩,
    ⟨(some 13), none, none, .mv (.t 1)⟩,
    ⟨(some 14), none, none, .call .pu 112 [.t 12, .t 13]⟩,
    ⟨none, none, none, .store 2 (.t 4) (.t 14)⟩,
    ⟨(some 5), none, none, .mv (.c (.p (.int .i64 0)))⟩] none)
  .ret))),
  [.cell 4 true 2, .t 5]⟩

theorem c169 : chkF Try.prog 169 f169 = true := by kernel_rfl

/-- trammel/trammelref01.most -/
def f170 : RFun := ⟨(.seq (.reg [⟨(some 4), none, none, .mv (.c (.p (.int .i64 0)))⟩] none)
  (.seq (.seq (.reg [⟨(some 5), none, none, .mv (.t 0)⟩,
    ⟨(some 6), none, none, .mv (.t 1)⟩,
    ⟨(some 7), none, none, .bin .gtr (.t 5) (.t 6)⟩] none)
  (.fg [0, 1, 7] (.cond (.t 7)
    (.seq (.reg [⟨(some 8), none, none, .mv (.t 0)⟩,
    ⟨(some 4), none, none, .mv (.t 8)⟩] none)
    .ret)
    .skip)))
  (.seq (.reg [⟨(some 9), none, none, .mv (.t 1)⟩,
    ⟨(some 4), none, none, .mv (.t 9)⟩] none)
  .ret))),
  [.t 4]⟩

theorem c170 : chkF Try.prog 170 f170 = true := by kernel_rfl

/-- trammel/trammelref05.Dot -/
def f171 : RFun := ⟨(.seq (.reg [⟨(some 4), none, none, .alloc [.p (.bool false), .nils]⟩] none)
  (.seq (.reg [⟨(some 5), none, none, .alloc [.p (.bool false), .nils]⟩] none)
  (.seq (.seq (.reg [⟨(some 6), none, none, .mv (.c (.p (.int .i64 0)))⟩] none)
  (.fg [0, 1, 4, 5, 6] (.block 0
  (.loop (.fg [0, 1, 4, 5, 6]
    (.seq (.seq (.reg [⟨(some 7), none, none, .mv (.t 6)⟩,
    ⟨(some 8), none, none, .mv (.t 0)⟩,
    ⟨(some 9), none, none, .len (.t 8)⟩,
    ⟨(some 10), none, none, .bin .lss (.t 7) (.t 9)⟩,
    ⟨(some 11), none, none, .mv (.t 10)⟩,
    ⟨(some 12), (some (11, true)), none, .mv (.t 6)⟩,
    ⟨(some 13), (some (11, true)), none, .mv (.t 1)⟩,
    ⟨(some 14), (some (11, true)), none, .len (.t 13)⟩,
    ⟨(some 15), (some (11, true)), none, .bin .lss (.t 12) (.t 14)⟩,
    ⟨(some 16), none, none, .pick (.t 11) (.t 15) (.c (.p (.bool false)))⟩] none)
      (.fg [0, 1, 4, 5, 6, 16] (.cond (.t 16)
        .skip
        (.exit 0))))
      (.seq (.block 1
      (.reg [⟨(some 19), none, none, .load true 2 (.t 5)⟩,
    ⟨(some 20), none, none, .mv (.t 0)⟩,
    ⟨(some 21), none, none, .mv (.t 6)⟩,
    ⟨(some 22), none, none, .indexA 2 (.t 20) (.t 21)⟩,
    ⟨(some 23), none, none, .load true 2 (.t 22)⟩,
    ⟨(some 24), none, none, .mv (.t 1)⟩,
    ⟨(some 25), none, none, .mv (.t 6)⟩,
    ⟨(some 26), none, none, .indexA 2 (.t 24) (.t 25)⟩,
    ⟨(some 27), none, none, .load true 2 (.t 26)⟩,
    ⟨(some 28), none, none, .call .pu 117 [.t 23, .t 27]⟩,
    ⟨(some 29), none, none, .call .pu 109 [.t 19, .t 28]⟩,
    ⟨none, none, none, .store 2 (.t 5) (.t 29)⟩] (some (0, []))))
      (.fg [0, 1, 4, 5, 6] (.reg [⟨(some 17), none, none, .mv (.t 6)⟩,
    ⟨(some 18), none, none, .bin .add (.t 17) (.c (.p (.int .i64 1)))⟩,
    ⟨(some 6), none, none, .mv (.t 18)⟩] none)))))))))
  (.seq (.reg [⟨(some 30), none, none, .load true 2 (.t 5)⟩,
    ⟨none, none, none, .store 2 (.t 4) (.t 30)⟩] none)
  .ret)))),
  [.cell 4 true 2]⟩

theorem c171 : chkF Try.prog 171 f171 = true := by kernel_rfl

/-- trammel/trammelref03.Sub -/
def f172 : RFun := ⟨(.seq (.reg [⟨(some 2), none, none, .box (.t 0)⟩,
    ⟨(some 3), none, none, .box (.t 1)⟩,
    ⟨(some 4), none, none, .alloc [.p (.bool false), .nils, .p (.bool false), .nils]⟩] none)
  (.seq (.reg [⟨(some 5), none, none, .load true 4 (.t 2)⟩,
    ⟨(some 6), none, none, .load true 4 (.t 3)⟩,
    ⟨(some 7), none, none, .call .pu 199 [.t 6]⟩,
    ⟨(some 8), none, none, .call .pu 198 [.t 5, .t 7]⟩,
    ⟨none, none, none, .store 4 (.t 4) (.t 8)⟩] (some (0, [])))
  .ret)),
  [.cell 4 true 4]⟩

theorem c172 : chkF Try.prog 172 f172 = true := by kernel_rfl

/-- trammel/trammelref03.Mul -/
def f173 : RFun := ⟨(.seq (.reg [⟨(some 2), none, none, .box (.t 0)⟩,
    ⟨(some 3), none, none, .box (.t 1)⟩,
    ⟨(some 4), none, none, .alloc [.p (.bool false), .nils, .p (.bool false), .nils]⟩] none)
  (.seq (.reg [⟨(some 5), none, none, .fieldA 0 (.t 2)⟩,
    ⟨(some 6), none, none, .load true 2 (.t 5)⟩,
    ⟨(some 7), none, none, .fieldA 0 (.t 3)⟩,
    ⟨(some 8), none, none, .load true 2 (.t 7)⟩,
    ⟨(some 9), none, none, .call .pu 117 [.t 6, .t 8]⟩,
    ⟨(some 10), none, none, .fieldA 2 (.t 2)⟩,
    ⟨(some 11), none, none, .load true 2 (.t 10)⟩,
    ⟨(some 12), none, none, .fieldA 2 (.t 3)⟩,
    ⟨(some 13), none, none, .load true 2 (.t 12)⟩,
    ⟨(some 14), none, none, .call .pu 117 [.t 11, .t 13]⟩,
    ⟨(some 15), none, none, .call .pu 200 [.t 9, .t 14]⟩,
    ⟨none, none, none, .store 4 (.t 4) (.t 15)⟩] (some (0, [])))
  .ret)),
  [.cell 4 true 4]⟩

theorem c173 : chkF Try.prog 173 f173 = true := by kernel_rfl

/-- trammel/trammelref03.Div -/
def f174 : RFun := ⟨(.seq (.reg [⟨(some 2), none, none, .box (.t 0)⟩,
    ⟨(some 3), none, none, .box (.t 1)⟩,
    ⟨(some 4), none, none, .alloc [.p (.bool false), .nils, .p (.bool false), .nils]⟩] none)
  (.seq (.reg [⟨(some 5), none, none, .fieldA 0 (.t 2)⟩,
    ⟨(some 6), none, none, .load true 2 (.t 5)⟩,
    ⟨(some 7), none, none, .fieldA 2 (.t 3)⟩,
    ⟨(some 8), none, none, .load true 2 (.t 7)⟩,
    ⟨(some 9), none, none, .call .pu 117 [.t 6, .t 8]⟩,
    ⟨(some 10), none, none, .fieldA 2 (.t 2)⟩,
    ⟨(some 11), none, none, .load true 2 (.t 10)⟩,
    ⟨(some 12), none, none, .fieldA 0 (.t 3)⟩,
    ⟨(some 13), none, none, .load true 2 (.t 12)⟩,
    ⟨(some 14), none, none, .call .pu 117 [.t 11, .t 13]⟩,
    ⟨(some 15), none, none, .call .pu 200 [.t 9, .t 14]⟩,
    ⟨none, none, none, .store 4 (.t 4) (.t 15)⟩] (some (0, [])))
  .ret)),
  [.cell 4 true 4]⟩

theorem c174 : chkF Try.prog 174 f174 = true := by kernel_rfl

/-- trammel/trammelref05.square -/
def f175 : RFun := ⟨(.seq (.reg [⟨(some 1), none, none, .box (.t 0)⟩,
    ⟨(some 2), none, none, .alloc [.p (.bool false), .nils, .p (.bool false), .nils]⟩] none)
  (.seq (.reg [⟨(some 3), none, none, .load true 4 (.t 1)⟩,
    ⟨(some 4), none, none, .load true 4 (.t 1)⟩,
    ⟨(some 5), none, none, .call .pu 173 [.t 3, .t 4]⟩,
    ⟨none, none, none, .store 4 (.t 2) (.t 5)⟩] none)
  .ret)),
  [.cell 2 true 4]⟩

theorem c175 : chkF Try.prog 175 f175 = true := by kernel_rfl

end Go.Proofs.Ytdieenbfdeaffaa.VBn

namespace Go.Proofs.Ytdieenbfdeaffaa.VBn
open Go Vpi
set_option maxRecDepth 100000

/-- trammel/nat.Add -/
def f176 : RFun := ⟨(.seq (.reg [⟨(some 4), none, none, .mv (.c (.nils))⟩] none)
  (.seq (.seq (.reg [⟨(some 8), none, none, .mv (.t 0)⟩,
    ⟨(some 9), none, none, .len (.t 8)⟩,
    ⟨(some 10), none, none, .mv (.t 1)⟩,
    ⟨(some 11), none, none, .len (.t 10)⟩,
    ⟨(some 12), none, none, .bin .lss (.t 9) (.t 11)⟩] none)
  (.fg [0, 1, 12] (.cond (.t 12)
    (.reg [⟨(some 13), none, none, .mv (.t 1)⟩,
    ⟨(some 14), none, none, .mv (.t 0)⟩,
    ⟨(some 0), none, none, .mv (.t 13)⟩,
    ⟨(some 1), none, none, .mv (.t 14)⟩] none)
    .skip)))
  (.seq (.reg [⟨(some 15), none, none, .mv (.t 0)⟩,
    ⟨(some 16), none, none, .len (.t 15)⟩,
    ⟨(some 17), none, none, .bin .add (.t 16) (.c (.p (.int .i64 1)))⟩,
    ⟨(some 18), none, none, .mks false 1 4 (.int .u32 0) (.t 17) (.t 17)⟩,
    ⟨(some 5), none, none, .mv (.t 18)⟩] none)
  (.seq (.reg [⟨(some 6), none, none, .mv (.c (.p (.int .u64 0)))⟩] none)
  (.seq (.seq (.reg [⟨(some 19), none, none, .mv (.t 0)⟩,
    ⟨(some 20), none, none, .len (.t 19)⟩,
    ⟨(some 21), none, none, .mv (.c (.p (.int .i64 0)))⟩] none)
  (.fg [0, 1, 5, 6, 20, 21] (.block 0
  (.loop (.fg [0, 1, 5, 6, 20, 21]
    (.seq (.reg [⟨(some 22), none, none, .bin .lss (.t 21) (.t 20)⟩] none)
      (.seq (.cond (.t 22)
        .skip
        (.exit 0))
      (.fg [0, 1, 5, 6, 20, 21] (.seq (.block 1
      (.seq (.reg [⟨(some 23), none, none, .mv (.t 21)⟩,
    ⟨(some 7), none, none, .mv (.t 23)⟩] none)
        (.seq (.reg [⟨(some 24), none, none, .mv (.t 6)⟩,
    ⟨(some 25), none, none, .mv (.t 0)⟩,
    ⟨(some 26), none, none, .mv (.t 7)⟩,
    ⟨(some 27), none, none, .indexA 1 (.t 25) (.t 26)⟩,
    ⟨(some 28), none, none, .load false 1 (.t 27)⟩,
    ⟨(some 29), none, none, .conv .u64 (.t 28)⟩,
    ⟨(some 30), none, none, .bin .add (.t 24) (.t 29)⟩,
    ⟨(some 6), none, none, .mv (.t 30)⟩] none)
        (.seq (.seq (.reg [⟨(some 31), none, none, .mv (.t 7)⟩,
    ⟨(some 32), none, none, .mv (.t 1)⟩,
    ⟨(some 33), none, none, .len (.t 32)⟩,
    ⟨(some 34), none, none, .bin .lss (.t 31) (.t 33)⟩] none)
        (.fg [0, 1, 5, 6, 7, 20, 21, 34] (.cond (.t 34)
          (.reg [⟨(some 35), none, none, .mv (.t 6)⟩,
    ⟨(some 36), none, none, .mv (.t 1)⟩,
    ⟨(some 37), none, none, .mv (.t 7)⟩,
    ⟨(some 38), none, none, .indexA 1 (.t 36) (.t 37)⟩,
    ⟨(some 39), none, none, .load false 1 (.t 38)⟩,
    ⟨(some 40), none, none, .conv .u64 (.t 39)⟩,
    ⟨(some 41), none, none, .bin .add (.t 35) (.t 40)⟩,
    ⟨(some 6), none, none, .mv (.t 41)⟩] none)
          .skip)))
        (.seq (.reg [⟨(some 42), none, none, .mv (.t 5)⟩,
    ⟨(some 43), none, none, .mv (.t 7)⟩,
    ⟨(some 44), none, none, .mv (.t 6)⟩,
    ⟨(some 45), none, none, .conv .u32 (.t 44)⟩,
    ⟨(some 46), none, none, .indexA 1 (.t 42) (.t 43)⟩,
    ⟨none, none, none, .store 1 (.t 46) (.t 45)⟩] none)
        (.reg [⟨(some 47), none, none, .mv (.t 6)⟩,
    ⟨(some 48), none, none, .bin .shr (.t 47) (.c (.p (.int .u64 32)))⟩,
    ⟨(some 6), none, none, .mv (.t 48)⟩] none))))))
      (.fg [0, 1, 5, 6, 20, 21] (.reg [⟨(some 49), none, none, .bin .add (.t 21) (.c (.p (.int .i64 1)))⟩,
    ⟨(some 21), none, none, .mv (.t 49)⟩] none)))))))))))
  (.seq (.reg [⟨(some 50), none, none, .mv (.t 5)⟩,
    ⟨(some 51), none, none, .mv (.t 0)⟩,
    ⟨(some 52), none, none, .len (.t 51)⟩,
    ⟨(some 53), none, none, .mv (.t 6)⟩,
    ⟨(some 54), none, none, .conv .u32 (.t 53)⟩,
    ⟨(some 55), none, none, .indexA 1 (.t 50) (.t 52)⟩,
    ⟨none, none, none, .store 1 (.t 55) (.t 54)⟩] none)
  (.seq (.reg [⟨(some 56), none, none, .mv (.t 5)⟩,
    ⟨(some 57), none, none, .call .fz 144 [.t 56]⟩,
    ⟨(some 4), none, none, .mv (.t 57)⟩] none)
  .ret))))))),
  [.t 4]⟩

theorem c176 : chkF Try.prog 176 f176 = true := by kernel_rfl

/-- trammel/nat.Cmp -/
def f177 : RFun := ⟨(.seq (.reg [⟨(some 4), none, none, .mv (.c (.p (.int .i64 0)))⟩] none)
  (.seq (.reg [⟨(some 6), none, none, .mv (.t 0)⟩,
    ⟨(some 7), none, none, .call .pu 144 [.t 6]⟩,
    ⟨(some 8), none, none, .mv (.t 1)⟩,
    ⟨(some 9), none, none, .call .pu 144 [.t 8]⟩,
    ⟨(some 0), none, none, .mv (.t 7)⟩,
    ⟨(some 1), none, none, .mv (.t 9)⟩] none)
  (.seq (.seq (.reg [⟨(some 10), none, none, .mv (.t 0)⟩,
    ⟨(some 11), none, none, .len (.t 10)⟩,
    ⟨(some 12), none, none, .mv (.t 1)⟩,
    ⟨(some 13), none, none, .len (.t 12)⟩,
    ⟨(some 14), none, none, .bin .neq (.t 11) (.t 13)⟩] none)
  (.fg [0, 1, 14] (.cond (.t 14)
    (.seq (.seq (.reg [⟨(some 15), none, none, .mv (.t 0)⟩,
    ⟨(some 16), none, none, .len (.t 15)⟩,
    ⟨(some 17), none, none, .mv (.t 1)⟩,
    ⟨(some 18), none, none, .len (.t 17)⟩,
    ⟨(some 19), none, none, .bin .lss (.t 16) (.t 18)⟩] none)
    (.fg [19] (.cond (.t 19)
      (.seq (.reg [⟨(some 4), none, none, .mv (.c (.p (.int .i64 (-1))))⟩] none)
      .ret)
      .skip)))
    (.seq (.reg [⟨(some 4), none, none, .mv (.c (.p (.int .i64 1)))⟩] none)
    .ret))
    .skip)))
  (.seq (.seq (.reg [⟨(some 20), none, none, .mv (.t 0)⟩,
    ⟨(some 21), none, none, .len (.t 20)⟩,
    ⟨(some 22), none, none, .bin .sub (.t 21) (.c (.p (.int .i64 1)))⟩,
    ⟨(some 5), none, none, .mv (.t 22)⟩] none)
  (.fg [0, 1, 5] (.block 0
  (.loop (.fg [0, 1, 5]
    (.seq (.seq (.reg [⟨(some 23), none, none, .mv (.t 5)⟩,
    ⟨(some 24), none, none, .bin .geq (.t 23) (.c (.p (.int .i64 0)))⟩] none)
      (.fg [0, 1, 5, 24] (.cond (.t 24)
        .skip
        (.exit 0))))
      (.seq (.block 1
      (.seq (.reg [⟨(some 27), none, none, .mv (.t 0)⟩,
    ⟨(some 28), none, none, .mv (.t 5)⟩,
    ⟨(some 29), none, none, .indexA 1 (.t 27) (.t 28)⟩,
    ⟨(some 30), none, none, .load false 1 (.t 29)⟩,
    ⟨(some 31), none, none, .mv (.t 1)⟩,
    ⟨(some 32), none, none, .mv (.t 5)⟩,
    ⟨(some 33), none, none, .indexA 1 (.t 31) (.t 32)⟩,
    ⟨(some 34), none, none, .load false 1 (.t 33)⟩,
    ⟨(some 35), none, none, .bin .neq (.t 30) (.t 34)⟩] (some (0, [])))
        (.fg [0, 1, 5, 35] (.cond (.t 35)
          (.seq (.seq (.reg [⟨(some 36), none, none, .mv (.t 0)⟩,
    ⟨(some 37), none, none, .mv (.t 5)⟩,
    ⟨(some 38), none, none, .indexA 1 (.t 36) (.t 37)⟩,
    ⟨(some 39), none, none, .load false 1 (.t 38)⟩,
    ⟨(some 40), none, none, .mv (.t 1)⟩,
    ⟨(some 41), none, none, .mv (.t 5)⟩,
    ⟨(some 42), none, none, .indexA 1 (.t 40) (.t 41)⟩,
    ⟨(some 43), none, none, .load false 1 (.t 42)⟩,
    ⟨(some 44), none, none, .bin .lss (.t 39) (.t 43)⟩] (some (0, [])))
          (.fg [44] (.cond (.t 44)
            (.seq (.reg [⟨(some 4), none, none, .mv (.c (.p (.int .i64 (-1))))⟩] none)
            .ret)
            .skip)))
          (.seq (.reg [⟨(some 4), none, none, .mv (.c (.p (.int .i64 1)))⟩] none)
          .ret))
          .skip))))
      (.fg [0, 1, 5] (.reg [⟨(some 25), none, none, .mv (.t 5)⟩,
    ⟨(some 26), none, none, .bin .sub (.t 25) (.c (.p (.int .i64 1)))⟩,
    ⟨(some 5), none, none, .mv (.t 26)⟩] none)))))))))
  (.seq (.reg [⟨(some 4), none, none, .mv (.c (.p (.int .i64 0)))⟩] none)
  .ret))))),
  [.t 4]⟩

theorem c177 : chkF Try.prog 177 f177 = true := by kernel_rfl

/-- trammel/nat.Sub -/
def f178 : RFun := ⟨(.seq (.reg [⟨(some 4), none, none, .mv (.c (.nils))⟩,
    ⟨(some 5), none, none, .mv (.c (.p (.int .i64 0)))⟩] none)
  (.seq (.seq (.reg [⟨(some 6), none, none, .mv (.t 0)⟩,
    ⟨(some 7), none, none, .mv (.t 1)⟩,
    ⟨(some 8), none, none, .call .pu 177 [.t 6, .t 7]⟩,
    ⟨(some 9), none, none, .bin .lss (.t 8) (.c (.p (.int .i64 0)))⟩] none)
  (.fg [0, 1, 9] (.cond (.t 9)
    (.seq (.reg [⟨(some 4), none, none, .mv (.c (.nils))⟩,
    ⟨(some 5), none, none, .mv (.c (.p (.int .i64 10)))⟩] none)
    .ret)
    .skip)))
  (.seq (.reg [⟨(some 10), none, none, .mv (.t 0)⟩,
    ⟨(some 11), none, none, .call .pu 144 [.t 10]⟩,
    ⟨(some 12), none, none, .mv (.t 1)⟩,
    ⟨(some 13), none, none, .call .pu 144 [.t 12]⟩,
    ⟨(some 14), none, none, .call .pu 201 [.t 11, .t 13]⟩,
    ⟨(some 4), none, none, .mv (.t 14)⟩,
    ⟨(some 5), none, none, .mv (.c (.p (.int .i64 0)))⟩] none)
  .ret))),
  [.t 4, .t 5]⟩

theorem c178 : chkF Try.prog 178 f178 = true := by kernel_rfl

/-- trammel/nat.short -/
def f184 : RFun := ⟨(.seq (.reg [⟨(some 4), none, none, .mv (.c (.nils))⟩,
    ⟨(some 5), none, none, .mv (.c (.p (.int .u32 0)))⟩] none)
  (.seq (.reg [⟨(some 9), none, none, .mv (.t 0)⟩,
    ⟨(some 10), none, none, .len (.t 9)⟩,
    ⟨(some 11), none, none, .mks false 1 4 (.int .u32 0) (.t 10) (.t 10)⟩,
    ⟨(some 6), none, none, .mv (.t 11)⟩] none)
  (.seq (.reg [⟨(some 7), none, none, .mv (.c (.p (.int .u64 0)))⟩] none)
  (.seq (.seq (.reg [⟨(some 12), none, none, .mv (.t 0)⟩,
    ⟨(some 13), none, none, .len (.t 12)⟩,
    ⟨(some 14), none, none, .bin .sub (.t 13) (.c (.p (.int .i64 1)))⟩,
    ⟨(some 8), none, none, .mv (.t 14)⟩] none)
  (.fg [0, 1, 6, 7, 8] (.block 0
  (.loop (.fg [0, 1, 6, 7, 8]
    (.seq (.seq (.reg [⟨(some 15), none, none, .mv (.t 8)⟩,
    ⟨(some 16), none, none, .bin .geq (.t 15) (.c (.p (.int .i64 0)))⟩] none)
      (.fg [0, 1, 6, 7, 8, 16] (.cond (.t 16)
        .skip
        (.exit 0))))
      (.seq (.block 1
      (.seq (.reg [⟨(some 19), none, none, .mv (.t 7)⟩,
    ⟨(some 20), none, none, .bin .shl (.t 19) (.c (.p (.int .u64 32)))⟩,
    ⟨(some 21), none, none, .mv (.t 0)⟩,
    ⟨(some 22), none, none, .mv (.t 8)⟩,
    ⟨(some 23), none, none, .indexA 1 (.t 21) (.t 22)⟩,
    ⟨(some 24), none, none, .load false 1 (.t 23)⟩,
    ⟨(some 25), none, none, .conv .u64 (.t 24)⟩,
    ⟨(some 26), none, none, .bin .or (.t 20) (.t 25)⟩,
    ⟨(some 7), none, none, .mv (.t 26)⟩] none)
        (.seq (.reg [⟨(some 27), none, none, .mv (.t 6)⟩,
    ⟨(some 28), none, none, .mv (.t 8)⟩,
    ⟨(some 29), none, none, .mv (.t 7)⟩,
    ⟨(some 30), none, none, .mv (.t 1)⟩,
    ⟨(some 31), none, none, .conv .u64 (.t 30)⟩,
    ⟨(some 32), none, none, .bin .quo (.t 29) (.t 31)⟩,
    ⟨(some 33), none, none, .conv .u32 (.t 32)⟩,
    ⟨(some 34), none, none, .indexA 1 (.t 27) (.t 28)⟩,
    ⟨none, none, none, .store 1 (.t 34) (.t 33)⟩] none)
        (.reg [⟨(some 35), none, none, .mv (.t 7)⟩,
    ⟨(some 36), none, none, .mv (.t 1)⟩,
    ⟨(some 37), none, none, .conv .u64 (.t 36)⟩,
    ⟨(some 38), none, none, .bin .rem (.t 35) (.t 37)⟩,
    ⟨(some 7), none, none, .mv (.t 38)⟩] none))))
      (.fg [0, 1, 6, 7, 8] (.reg [⟨(some 17), none, none, .mv (.t 8)⟩,
    ⟨(some 18), none, none, .bin .sub (.t 17) (.c (.p (.int .i64 1)))⟩,
    ⟨(some 8), none, none, .mv (.t 18)⟩] none)))))))))
  (.seq (.reg [⟨(some 39), none, none, .mv (.t 6)⟩,
    ⟨(some 40), none, none, .call .fz 144 [.t 39]⟩,
    ⟨(some 41), none, none, .mv (.t 7)⟩,
    ⟨(some 42), none, none, .conv .u32 (.t 41)⟩,
    ⟨(some 4), none, none, .mv (.t 40)⟩,
    ⟨(some 5), none, none, .mv (.t 42)⟩] none)
  .ret))))),
  [.t 4, .t 5]⟩

theorem c184 : chkF Try.prog 184 f184 = true := by kernel_rfl

/-- math/bits.LeadingZeros32 -/
def f185 : RFun := ⟨(.seq (.reg [⟨(some 2), none, none, .mv (.c (.p (.int .i64 0)))⟩] none)
  (.seq (.reg [⟨(some 3), none, none, .mv (.t 0)⟩,
    ⟨(some 4), none, none, .call .pu 148 [.t 3]⟩,
    ⟨(some 5), none, none, .bin .sub (.c (.p (.int .i64 32))) (.t 4)⟩,
    ⟨(some 2), none, none, .mv (.t 5)⟩] none)
  .ret)),
  [.t 2]⟩

theorem c185 : chkF Try.prog 185 f185 = true := by kernel_rfl

/-- trammel/nat.shl -/
def f186 : RFun := ⟨(.seq (.reg [⟨(some 4), none, none, .mv (.c (.nils))⟩] none)
  (.seq (.reg [⟨(some 10), none, none, .mv (.t 0)⟩,
    ⟨(some 11), none, none, .call .pu 144 [.t 10]⟩,
    ⟨(some 0), none, none, .mv (.t 11)⟩] none)
  (.seq (.seq (.reg [⟨(some 12), none, none, .mv (.t 0)⟩,
    ⟨(some 13), none, none, .len (.t 12)⟩,
    ⟨(some 14), none, none, .bin .eql (.t 13) (.c (.p (.int .i64 0)))⟩] none)
  (.fg [0, 1, 14] (.cond (.t 14)
    (.seq (.reg [⟨(some 4), none, none, .mv (.c (.nils))⟩] none)
    .ret)
    .skip)))
  (.seq (.reg [⟨(some 15), none, none, .mv (.t 1)⟩,
    ⟨(some 16), none, none, .bin .quo (.t 15) (.c (.p (.int .i64 32)))⟩,
    ⟨(some 17), none, none, .mv (.t 1)⟩,
    ⟨(some 18), none, none, .bin .rem (.t 17) (.c (.p (.int .i64 32)))⟩,
    ⟨(some 19), none, none, .conv .u64 (.t 18)⟩,
    ⟨(some 5), none, none, .mv (.t 16)⟩,
    ⟨(some 6), none, none, .mv (.t 19)⟩] none)
  (.seq (.reg [⟨(some 20), none, none, .mv (.t 0)⟩,
    ⟨(some 21), none, none, .len (.t 20)⟩,
    ⟨(some 22), none, none, .mv (.t 5)⟩,
    ⟨(some 23), none, none, .bin .add (.t 21) (.t 22)⟩,
    ⟨(some 24), none, none, .bin .add (.t 23) (.c (.p (.int .i64 1)))⟩,
    ⟨(some 25), none, none, .mks false 1 4 (.int .u32 0) (.t 24) (.t 24)⟩,
    ⟨(some 7), none, none, .mv (.t 25)⟩] none)
  (.seq (.seq (.reg [⟨(some 26), none, none, .mv (.t 0)⟩,
    ⟨(some 27), none, none, .len (.t 26)⟩,
    ⟨(some 28), none, none, .mv (.c (.p (.int .i64 0)))⟩] none)
  (.fg [0, 5, 6, 7, 27, 28] (.block 0
  (.loop (.fg [0, 5, 6, 7, 27, 28]
    (.seq (.reg [⟨(some 29), none, none, .bin .lss (.t 28) (.t 27)⟩] none)
      (.seq (.cond (.t 29)
        .skip
        (.exit 0))
      (.fg [0, 5, 6, 7, 27, 28] (.seq (.block 1
      (.seq (.reg [⟨(some 30), none, none, .mv (.t 28)⟩,
    ⟨(some 8), none, none, .mv (.t 30)⟩] none)
        (.seq (.reg [⟨(some 31), none, none, .mv (.t 0)⟩,
    ⟨(some 32), none, none, .mv (.t 8)⟩,
    ⟨(some 33), none, none, .indexA 1 (.t 31) (.t 32)⟩,
    ⟨(some 34), none, none, .load false 1 (.t 33)⟩,
    ⟨(some 35), none, none, .conv .u64 (.t 34)⟩,
    ⟨(some 36), none, none, .mv (.t 6)⟩,
    ⟨(some 37), none, none, .bin .shl (.t 35) (.t 36)⟩,
    ⟨(some 9), none, none, .mv (.t 37)⟩] none)
        (.seq (.reg [⟨(some 38), none, none, .mv (.t 7)⟩,
    ⟨(some 39), none, none, .mv (.t 8)⟩,
    ⟨(some 40), none, none, .mv (.t 5)⟩,
    ⟨(some 41), none, none, .bin .add (.t 39) (.t 40)⟩,
    ⟨(some 42), none, none, .indexA 1 (.t 38) (.t 41)⟩,
    ⟨(some 43), none, none, .load false 1 (.t 42)⟩,
    ⟨(some 44), none, none, .mv (.t 9)⟩,
    ⟨(some 45), none, none, .conv .u32 (.t 44)⟩,
    ⟨(some 46), none, none, .bin .or (.t 43) (.t 45)⟩,
    ⟨(some 47), none, none, .indexA 1 (.t 38) (.t 41)⟩,
    ⟨none, none, none, .store 1 (.t 47) (.t 46)⟩] none)
        (.reg [⟨(some 48), none, none, .mv (.t 7)⟩,
    ⟨(some 49), none, none, .mv (.t 8)⟩,
    ⟨(some 50), none, none, .mv (.t 5)⟩,
    ⟨(some 51), none, none, .bin .add (.t 49) (.t 50)⟩,
    ⟨(some 52), none, none, .bin .add (.t 51) (.c (.p (.int .i64 1)))⟩,
    ⟨(some 53), none, none, .mv (.t 9)⟩,
    ⟨(some 54), none, none, .bin .shr (.t 53) (.c (.p (.int .u64 32)))⟩,
    ⟨(some 55), none, none, .conv .u32 (.t 54)⟩,
    ⟨(some 56), none, none, .indexA 1 (.t 48) (.t 52)⟩,
    ⟨none, none, none, .store 1 (.t 56) (.t 55)⟩] none)))))
      (.fg [0, 5, 6, 7, 27, 28] (.reg [⟨(some 57), none, none, .bin .add (.t 28) (.c (.p (.int .i64 1)))⟩,
    ⟨(some 28), none, none, .mv (.t 57)⟩] none)))))))))))
  (.seq (.reg [⟨(some 58), none, none, .mv (.t 7)⟩,
    ⟨(some 59), none, none, .call .keep 144 [.t 58]⟩,
    ⟨(some 4), none, none, .mv (.t 59)⟩] none)
  .ret))))))),
  [.t 4]⟩

theorem c186 : chkF Try.prog 186 f186 = true := by kernel_rfl

/-- trammel/nat.digit -/
def f187 : RFun := ⟨(.seq (.reg [⟨(some 4), none, none, .mv (.c (.p (.int .u32 0)))⟩] none)
  (.seq (.reg [⟨(some 15), none, none, .mv (.t 1)⟩,
    ⟨(some 16), none, none, .len (.t 15)⟩,
    ⟨(some 5), none, none, .mv (.t 16)⟩] none)
  (.seq (.reg [⟨(some 17), none, none, .mv (.t 0)⟩,
    ⟨(some 18), none, none, .mv (.t 5)⟩,
    ⟨(some 19), none, none, .indexA 1 (.t 17) (.t 18)⟩,
    ⟨(some 20), none, none, .load false 1 (.t 19)⟩,
    ⟨(some 21), none, none, .conv .u64 (.t 20)⟩,
    ⟨(some 22), none, none, .bin .shl (.t 21) (.c (.p (.int .u64 32)))⟩,
    ⟨(some 23), none, none, .mv (.t 0)⟩,
    ⟨(some 24), none, none, .mv (.t 5)⟩,
    ⟨(some 25), none, none, .bin .sub (.t 24) (.c (.p (.int .i64 1)))⟩,
    ⟨(some 26), none, none, .indexA 1 (.t 23) (.t 25)⟩,
    ⟨(some 27), none, none, .load false 1 (.t 26)⟩,
    ⟨(some 28), none, none, .conv .u64 (.t 27)⟩,
    ⟨(some 29), none, none, .bin .or (.t 22) (.t 28)⟩,
    ⟨(some 6), none, none, .mv (.t 29)⟩] (some (0, [])))
  (.seq (.reg [⟨(some 30), none, none, .mv (.t 6)⟩,
    ⟨(some 31), none, none, .mv (.t 1)⟩,
    ⟨(some 32), none, none, .mv (.t 5)⟩,
    ⟨(some 33), none, none, .bin .sub (.t 32) (.c (.p (.int .i64 1)))⟩,
    ⟨(some 34), none, none, .indexA 1 (.t 31) (.t 33)⟩,
    ⟨(some 35), none, none, .load false 1 (.t 34)⟩,
    ⟨(some 36), none, none, .conv .u64 (.t 35)⟩,
    ⟨(some 37), none, none, .bin .quo (.t 30) (.t 36)⟩,
    ⟨(some 38), none, none, .mn (.t 37) (.c (.p (.int .u64 4294967295)))⟩,
    ⟨(some 7), none, none, .mv (.t 38)⟩] none)
  (.seq (.reg [⟨(some 8), none, none, .mv (.c (.p (.int .u64 0)))⟩,
    ⟨(some 9), none, none, .mv (.c (.p (.int .u64 0)))⟩] none)
  (.seq (.seq (.reg [⟨(some 39), none, none, .mv (.t 5)⟩,
    ⟨(some 40), none, none, .bin .add (.t 39) (.c (.p (.int .i64 1)))⟩,
    ⟨(some 41), none, none, .mv (.c (.p (.int .i64 0)))⟩] none)
  (.fg [0, 1, 5, 7, 8, 9, 40, 41] (.block 0
  (.loop (.fg [0, 1, 5, 7, 8, 9, 40, 41]
    (.seq (.reg [⟨(some 42), none, none, .bin .lss (.t 41) (.t 40)⟩] none)
      (.seq (.cond (.t 42)
        .skip
        (.exit 0))
      (.fg [0, 1, 5, 7, 8, 9, 40, 41] (.seq (.block 1
      (.seq (.reg [⟨(some 43), none, none, .mv (.t 41)⟩,
    ⟨(some 10), none, none, .mv (.t 43)⟩] none)
        (.seq (.reg [⟨(some 44), none, none, .mv (.t 8)⟩,
    ⟨(some 11), none, none, .mv (.t 44)⟩] none)
        (.seq (.seq (.reg [⟨(some 45), none, none, .mv (.t 10)⟩,
    ⟨(some 46), none, none, .mv (.t 5)⟩,
    ⟨(some 47), none, none, .bin .lss (.t 45) (.t 46)⟩] none)
        (.fg [0, 1, 5, 7, 9, 10, 11, 40, 41, 47] (.cond (.t 47)
          (.reg [⟨(some 48), none, none, .mv (.t 11)⟩,
    ⟨(some 49), none, none, .mv (.t 7)⟩,
    ⟨(some 50), none, none, .mv (.t 1)⟩,
    ⟨(some 51), none, none, .mv (.t 10)⟩,
    ⟨(some 52), none, none, .indexA 1 (.t 50) (.t 51)⟩,
    ⟨(some 53), none, none, .load false 1 (.t 52)⟩,
    ⟨(some 54), none, none, .conv .u64 (.t 53)⟩,
    ⟨(some 55), none, none, .bin .mul (.t 49) (.t 54)⟩,
    ⟨(some 56), none, none, .bin .add (.t 48) (.t 55)⟩,
    ⟨(some 11), none, none, .mv (.t 56)⟩] none)
          .skip)))
        (.seq (.reg [⟨(some 57), none, none, .mv (.t 11)⟩,
    ⟨(some 58), none, none, .bin .shr (.t 57) (.c (.p (.int .u64 32)))⟩,
    ⟨(some 8), none, none, .mv (.t 58)⟩] none)
        (.seq (.reg [⟨(some 59), none, none, .mv (.t 0)⟩,
    ⟨(some 60), none, none, .mv (.t 10)⟩,
    ⟨(some 61), none, none, .indexA 1 (.t 59) (.t 60)⟩,
    ⟨(some 62), none, none, .load false 1 (.t 61)⟩,
    ⟨(some 63), none, none, .conv .u64 (.t 62)⟩,
    ⟨(some 64), none, none, .mv (.t 11)⟩,
    ⟨(some 65), none, none, .conv .u32 (.t 64)⟩,
    ⟨(some 66), none, none, .conv .u64 (.t 65)⟩,
    ⟨(some 67), none, none, .bin .sub (.t 63) (.t 66)⟩,
    ⟨(some 68), none, none, .mv (.t 9)⟩,
    ⟨(some 69), none, none, .bin .sub (.t 67) (.t 68)⟩,
    ⟨(some 12), none, none, .mv (.t 69)⟩] none)
        (.seq (.reg [⟨(some 70), none, none, .mv (.t 0)⟩,
    ⟨(some 71), none, none, .mv (.t 10)⟩,
    ⟨(some 72), none, none, .mv (.t 12)⟩,
    ⟨(some 73), none, none, .conv .u32 (.t 72)⟩,
    ⟨(some 74), none, none, .indexA 1 (.t 70) (.t 71)⟩,
    ⟨none, none, none, .store 1 (.t 74) (.t 73)⟩] none)
        (.reg [⟨(some 75), none, none, .mv (.t 12)⟩,
    ⟨(some 76), none, none, .bin .shr (.t 75) (.c (.p (.int .u64 63)))⟩,
    ⟨(some 9), none, none, .mv (.t 76)⟩] none))))))))
      (.fg [0, 1, 5, 7, 8, 9, 40, 41] (.reg [⟨(some 77), none, none, .bin .add (.t 41) (.c (.p (.int .i64 1)))⟩,
    ⟨(some 41), none, none, .mv (.t 77)⟩] none)))))))))))
  (.seq (.block 2
  (.loop (.fg [0, 1, 5, 7, 9]
    (.seq (.seq (.reg [⟨(some 78), none, none, .mv (.t 9)⟩,
    ⟨(some 79), none, none, .bin .gtr (.t 78) (.c (.p (.int .u64 0)))⟩] none)
      (.fg [0, 1, 5, 7, 9, 79] (.cond (.t 79)
        .skip
        (.exit 2))))
      (.fg [0, 1, 5, 7, 9] (.block 3
      (.seq (.reg [⟨(some 80), none, none, .mv (.t 7)⟩,
    ⟨(some 81), none, none, .bin .sub (.t 80) (.c (.p (.int .u64 1)))⟩,
    ⟨(some 7), none, none, .mv (.t 81)⟩] none)
        (.seq (.reg [⟨(some 13), none, none, .mv (.c (.p (.int .u64 0)))⟩] none)
        (.seq (.seq (.reg [⟨(some 82), none, none, .mv (.t 5)⟩,
    ⟨(some 83), none, none, .bin .add (.t 82) (.c (.p (.int .i64 1)))⟩,
    ⟨(some 84), none, none, .mv (.c (.p (.int .i64 0)))⟩] none)
        (.fg [0, 1, 5, 7, 9, 13, 83, 84] (.block 4
        (.loop (.fg [0, 1, 5, 7, 9, 13, 83, 84]
          (.seq (.reg [⟨(some 85), none, none, .bin .lss (.t 84) (.t 83)⟩] none)
            (.seq (.cond (.t 85)
              .skip
              (.exit 4))
            (.fg [0, 1, 5, 7, 9, 13, 83, 84] (.seq (.block 5
            (.seq (.reg [⟨(some 86), none, none, .mv (.t 84)⟩,
    ⟨(some 14), none, none, .mv (.t 86)⟩] none)
              (.seq (.reg [⟨(some 87), none, none, .mv (.t 13)⟩,
    ⟨(some 88), none, none, .mv (.t 0)⟩,
    ⟨(some 89), none, none, .mv (.t 14)⟩,
    ⟨(some 90), none, none, .indexA 1 (.t 88) (.t 89)⟩,
    ⟨(some 91), none, none, .load false 1 (.t 90)⟩,
    ⟨(some 92), none, none, .conv .u64 (.t 91)⟩,
    ⟨(some 93), none, none, .bin .add (.t 87) (.t 92)⟩,
    ⟨(some 13), none, none, .mv (.t 93)⟩] none)
              (.seq (.seq (.reg [⟨(some 94), none, none, .mv (.t 14)⟩,
    ⟨(some 95), none, none, .mv (.t 5)⟩,
    ⟨(some 96), none, none, .bin .lss (.t 94) (.t 95)⟩] none)
              (.fg [0, 1, 5, 7, 9, 13, 14, 83, 84, 96] (.cond (.t 96)
                (.reg [⟨(some 97), none, none, .mv (.t 13)⟩,
    ⟨(some 98), none, none, .mv (.t 1)⟩,
    ⟨(some 99), none, none, .mv (.t 14)⟩,
    ⟨(some 100), none, none, .indexA 1 (.t 98) (.t 99)⟩,
    ⟨(some 101), none, none, .load false 1 (.t 100)⟩,
    ⟨(some 102), none, none, .conv .u64 (.t 101)⟩,
    ⟨(some 103), none, none, .bin .add (.t 97) (.t 102)⟩,
    ⟨(some 13), none, none, .mv (.t 103)⟩] none)
                .skip)))
              (.seq (.reg [⟨(some 104), none, none, .mv (.t 0)⟩,
    ⟨(some 105), none, none, .mv (.t 14)⟩,
    ⟨(some 106), none, none, .mv (.t 13)⟩,
    ⟨(some 107), none, none, .conv .u32 (.t 106)⟩,
    ⟨(some 108), none, none, .indexA 1 (.t 104) (.t 105)⟩,
    ⟨none, none, none, .store 1 (.t 108) (.t 107)⟩] none)
              (.reg [⟨(some 109), none, none, .mv (.t 13)⟩,
    ⟨(some 110), none, none, .bin .shr (.t 109) (.c (.p (.int .u64 32)))⟩,
    ⟨(some 13), none, none, .mv (.t 110)⟩] none))))))
            (.fg [0, 1, 5, 7, 9, 13, 83, 84] (.reg [⟨(some 111), none, none, .bin .add (.t 84) (.c (.p (.int .i64 1)))⟩,
    ⟨(some 84), none, none, .mv (.t 111)⟩] none)))))))))))
        (.reg [⟨(some 112), none, none, .mv (.t 9)⟩,
    ⟨(some 113), none, none, .mv (.t 13)⟩,
    ⟨(some 114), none, none, .bin .sub (.t 112) (.t 113)⟩,
    ⟨(some 9), none, none, .mv (.t 114)⟩] none))))))))))
  (.fg [7] (.seq (.reg [⟨(some 115), none, none, .mv (.t 7)⟩,
    ⟨(some 116), none, none, .conv .u32 (.t 115)⟩,
    ⟨(some 4), none, none, .mv (.t 116)⟩] none)
  .ret))))))))),
  [.t 4]⟩

theorem c187 : chkF Try.prog 187 f187 = true := by kernel_rfl

/-- trammel/nat.shr -/
def f188 : RFun := ⟨(.seq (.reg [⟨(some 4), none, none, .mv (.c (.nils))⟩] none)
  (.seq (.reg [⟨(some 10), none, none, .mv (.t 0)⟩,
    ⟨(some 11), none, none, .call .pu 144 [.t 10]⟩,
    ⟨(some 0), none, none, .mv (.t 11)⟩] none)
  (.seq (.reg [⟨(some 12), none, none, .mv (.t 1)⟩,
    ⟨(some 13), none, none, .bin .quo (.t 12) (.c (.p (.int .i64 32)))⟩,
    ⟨(some 14), none, none, .mv (.t 1)⟩,
    ⟨(some 15), none, none, .bin .rem (.t 14) (.c (.p (.int .i64 32)))⟩,
    ⟨(some 16), none, none, .conv .u64 (.t 15)⟩,
    ⟨(some 5), none, none, .mv (.t 13)⟩,
    ⟨(some 6), none, none, .mv (.t 16)⟩] none)
  (.seq (.seq (.reg [⟨(some 17), none, none, .mv (.t 5)⟩,
    ⟨(some 18), none, none, .mv (.t 0)⟩,
    ⟨(some 19), none, none, .len (.t 18)⟩,
    ⟨(some 20), none, none, .bin .geq (.t 17) (.t 19)⟩] none)
  (.fg [0, 5, 6, 20] (.cond (.t 20)
    (.seq (.reg [⟨(some 4), none, none, .mv (.c (.nils))⟩] none)
    .ret)
    .skip)))
  (.seq (.reg [⟨(some 21), none, none, .mv (.t 0)⟩,
    ⟨(some 22), none, none, .len (.t 21)⟩,
    ⟨(some 23), none, none, .mv (.t 5)⟩,
    ⟨(some 24), none, none, .bin .sub (.t 22) (.t 23)⟩,
    ⟨(some 25), none, none, .mks false 1 4 (.int .u32 0) (.t 24) (.t 24)⟩,
    ⟨(some 7), none, none, .mv (.t 25)⟩] none)
  (.seq (.seq (.reg [⟨(some 26), none, none, .mv (.t 7)⟩,
    ⟨(some 27), none, none, .len (.t 26)⟩,
    ⟨(some 28), none, none, .mv (.c (.p (.int .i64 0)))⟩] none)
  (.fg [0, 5, 6, 7, 27, 28] (.block 0
  (.loop (.fg [0, 5, 6, 7, 27, 28]
    (.seq (.reg [⟨(some 29), none, none, .bin .lss (.t 28) (.t 27)⟩] none)
      (.seq (.cond (.t 29)
        .skip
        (.exit 0))
      (.fg [0, 5, 6, 7, 27, 28] (.seq (.block 1
      (.seq (.reg [⟨(some 30), none, none, .mv (.t 28)⟩,
    ⟨(some 8), none, none, .mv (.t 30)⟩] none)
        (.seq (.reg [⟨(some 31), none, none, .mv (.t 0)⟩,
    ⟨(some 32), none, none, .mv (.t 8)⟩,
    ⟨(some 33), none, none, .mv (.t 5)⟩,
    ⟨(some 34), none, none, .bin .add (.t 32) (.t 33)⟩,
    ⟨(some 35), none, none, .indexA 1 (.t 31) (.t 34)⟩,
    ⟨(some 36), none, none, .load false 1 (.t 35)⟩,
    ⟨(some 37), none, none, .conv .u64 (.t 36)⟩,
    ⟨(some 9), none, none, .mv (.t 37)⟩] none)
        (.seq (.seq (.reg [⟨(some 38), none, none, .mv (.t 8)⟩,
    ⟨(some 39), none, none, .mv (.t 5)⟩,
    ⟨(some 40), none, none, .bin .add (.t 38) (.t 39)⟩,
    ⟨(some 41), none, none, .bin .add (.t 40) (.c (.p (.int .i64 1)))⟩,
    ⟨(some 42), none, none, .mv (.t 0)⟩,
    ⟨(some 43), none, none, .len (.t 42)⟩,
    ⟨(some 44), none, none, .bin .lss (.t 41) (.t 43)⟩] none)
        (.fg [0, 5, 6, 7, 8, 9, 27, 28, 44] (.cond (.t 44)
          (.reg [⟨(some 45), none, none, .mv (.t 9)⟩,
    ⟨(some 46), none, none, .mv (.t 0)⟩,
    ⟨(some 47), none, none, .mv (.t 8)⟩,
    ⟨(some 48), none, none, .mv (.t 5)⟩,
    ⟨(some 49), none, none, .bin .add (.t 47) (.t 48)⟩,
    ⟨(some 50), none, none, .bin .add (.t 49) (.c (.p (.int .i64 1)))⟩,
    ⟨(some 51), none, none, .indexA 1 (.t 46) (.t 50)⟩,
    ⟨(some 52), none, none, .load false 1 (.t 51)⟩,
    ⟨(some 53), none, none, .conv .u64 (.t 52)⟩,
    ⟨(some 54), none, none, .bin .shl (.t 53) (.c (.p (.int .u64 32)))⟩,
    ⟨(some 55), none, none, .bin .or (.t 45) (.t 54)⟩,
    ⟨(some 9), none, none, .mv (.t 55)⟩] none)
          .skip)))
        (.reg [⟨(some 56), none, none, .mv (.t 7)⟩,
    ⟨(some 57), none, none, .mv (.t 8)⟩,
    ⟨(some 58), none, none, .mv (.t 9)⟩,
    ⟨(some 59), none, none, .mv (.t 6)⟩,
    ⟨(some 60), none, none, .bin .shr (.t 58) (.t 59)⟩,
    ⟨(some 61), none, none, .conv .u32 (.t 60)⟩,
    ⟨(some 62), none, none, .indexA 1 (.t 56) (.t 57)⟩,
    ⟨none, none, none, .store 1 (.t 62) (.t 61)⟩] none)))))
      (.fg [0, 5, 6, 7, 27, 28] (.reg [⟨(some 63), none, none, .bin .add (.t 28) (.c (.p (.int .i64 1)))⟩,
    ⟨(some 28), none, none, .mv (.t 63)⟩] none)))))))))))
  (.seq (.reg [⟨(some 64), none, none, .mv (.t 7)⟩,
    ⟨(some 65), none, none, .call .fz 144 [.t 64]⟩,
    ⟨(some 4), none, none, .mv (.t 65)⟩] none)
  .ret))))))),
  [.t 4]⟩

theorem c188 : chkF Try.prog 188 f188 = true := by kernel_rfl

/-- trammel/trammelref03.Add -/
def f198 : RFun := ⟨(.seq (.reg [⟨(some 2), none, none, .box (.t 0)⟩,
    ⟨(some 3), none, none, .box (.t 1)⟩,
    ⟨(some 4), none, none, .alloc [.p (.bool false), .nils, .p (.bool false), .nils]⟩] none)
  (.seq (.reg [⟨(some 7), none, none, .fieldA 0 (.t 2)⟩,
    ⟨(some 8), none, none, .load true 2 (.t 7)⟩,
    ⟨(some 9), none, none, .fieldA 2 (.t 3)⟩,
    ⟨(some 10), none, none, .load true 2 (.t 9)⟩,
    ⟨(some 11), none, none, .call .pu 117 [.t 8, .t 10]⟩,
    ⟨(some 5), none, none, .alloc [.p (.bool false), .nils]⟩,
    ⟨none, none, none, .store 2 (.t 5) (.t 11)⟩] none)
  (.seq (.reg [⟨(some 12), none, none, .fieldA 0 (.t 3)⟩,
    ⟨(some 13), none, none, .load true 2 (.t 12)⟩,
    ⟨(some 14), none, none, .fieldA 2 (.t 2)⟩,
    ⟨(some 15), none, none, .load true 2 (.t 14)⟩,
    ⟨(some 16), none, none, .call .pu 117 [.t 13, .t 15]⟩,
    ⟨(some 6), none, none, .alloc [.p (.bool false), .nils]⟩,
    ⟨none, none, none, .store 2 (.t 6) (.t 16)⟩] none)
  (.seq (.reg [⟨(some 17), none, none, .load true 2 (.t 5)⟩,
    ⟨(some 18), none, none, .load true 2 (.t 6)⟩,
    ⟨(some 19), none, none, .call .pu 109 [.t 17, .t 18]⟩,
    ⟨(some 20), none, none, .fieldA 2 (.t 2)⟩,
    ⟨(some 21), none, none, .load true 2 (.t 20)⟩,
    ⟨(some 22), none, none, .fieldA 2 (.t 3)⟩,
    ⟨(some 23), none, none, .load true 2 (.t 22)⟩,
    ⟨(some 24), none, none, .call .pu 117 [.t 21, .t 23]⟩,
    ⟨(some 25), none, none, .call .pu 200 [.t 19, .t 24]⟩,
    ⟨none, none, none, .store 4 (.t 4) (.t 25)⟩] (some (0, [])))
  .ret)))),
  [.cell 4 true 4]⟩

theorem c198 : chkF Try.prog 198 f198 = true := by kernel_rfl

/-- trammel/trammelref03.Neg -/
def f199 : RFun := ⟨(.seq (.reg [⟨(some 1), none, none, .box (.t 0)⟩,
    ⟨(some 2), none, none, .alloc [.p (.bool false), .nils, .p (.bool false), .nils]⟩] none)
  (.seq (.reg [⟨(some 3), none, none, .fieldA 0 (.t 1)⟩,
    ⟨(some 4), none, none, .load true 2 (.t 3)⟩,
    ⟨(some 5), none, none, .call .pu 58 [.t 4]⟩,
    ⟨(some 6), none, none, .fieldA 2 (.t 1)⟩,
    ⟨(some 7), none, none, .load true 2 (.t 6)⟩,
    ⟨(some 8), none, none, .call .pu 200 [.t 5, .t 7]⟩,
    ⟨none, none, none, .store 4 (.t 2) (.t 8)⟩] (some (0, [])))
  .ret)),
  [.cell 2 true 4]⟩

theorem c199 : chkF Try.prog 199 f199 = true := by kernel_rfl

/-- trammel/trammelref03.Make -/
def f200 : RFun := ⟨(.seq (.reg [⟨(some 2), none, none, .box (.t 0)⟩,
    ⟨(some 3), none, none, .box (.t 1)⟩,
    ⟨(some 4), none, none, .alloc [.p (.bool false), .nils, .p (.bool false), .nils]⟩] none)
  (.seq (.reg [⟨(some 14), none, none, .load true 2 (.t 2)⟩,
    ⟨(some 15), none, none, .call .pu 68 [.t 14]⟩,
    ⟨(some 5), none, none, .alloc [.p (.bool false), .nils]⟩,
    ⟨none, none, none, .store 2 (.t 5) (.t 15)⟩] none)
  (.seq (.reg [⟨(some 16), none, none, .load true 2 (.t 3)⟩,
    ⟨(some 17), none, none, .call .pu 68 [.t 16]⟩,
    ⟨(some 6), none, none, .alloc [.p (.bool false), .nils]⟩,
    ⟨none, none, none, .store 2 (.t 6) (.t 17)⟩] none)
  (.seq (.seq (.reg [⟨(some 18), none, none, .load true 2 (.t 6)⟩,
    ⟨(some 19), none, none, .call .pu 79 [.t 18]⟩,
    ⟨(some 20), none, none, .bin .lss (.t 19) (.c (.p (.int .i64 0)))⟩] none)
  (.fg [4, 5, 6, 20] (.cond (.t 20)
    (.seq (.reg [⟨(some 21), none, none, .load true 2 (.t 5)⟩,
    ⟨(some 22), none, none, .call .pu 58 [.t 21]⟩,
    ⟨none, none, none, .store 2 (.t 5) (.t 22)⟩] none)
    (.reg [⟨(some 23), none, none, .load true 2 (.t 6)⟩,
    ⟨(some 24), none, none, .call .pu 58 [.t 23]⟩,
    ⟨none, none, none, .store 2 (.t 6) (.t 24)⟩] none))
    .skip)))
  (.seq (.reg [⟨(some 25), none, none, .fieldA 1 (.t 5)⟩,
    ⟨(some 26), none, none, .load false 1 (.t 25)⟩,
    ⟨(some 27), none, none, .fieldA 1 (.t 6)⟩,
    ⟨(some 28), none, none, .load false 1 (.t 27)⟩,
    ⟨(some 29), none, none, .call .pu 99 [.t 26, .t 28]⟩,
    ⟨(some 7), none, none, .mv (.t 29)⟩] none)
  (.seq (.reg [⟨(some 31), none, none, .fieldA 1 (.t 5)⟩,
    ⟨(some 32), none, none, .load false 1 (.t 31)⟩,
    ⟨(some 33), none, none, .mv (.t 7)⟩,
    ⟨(some 34), none, none, .call .pu 135 [.t 32, .t 33]⟩,
    ⟨(some 30), none, none, .mv (.t 34)⟩,
    ⟨(some 35), none, none, .extract (.t 30) 0⟩,
    ⟨(some 36), none, none, .extract (.t 30) 1⟩,
    ⟨(some 37), none, none, .extract (.t 30) 2⟩,
    ⟨(some 8), none, none, .mv (.t 35)⟩,
    ⟨(some 9), none, none, .mv (.t 36)⟩,
    ⟨(some 10), none, none, .mv (.t 37)⟩] none)
  (.seq (.reg [⟨(some 39), none, none, .fieldA 1 (.t 6)⟩,
    ⟨(some 40), none, none, .load false 1 (.t 39)⟩,
    ⟨(some 41), none, none, .mv (.t 7)⟩,
    ⟨(some 42), none, none, .call .pu 135 [.t 40, .t 41]⟩,
    ⟨(some 38), none, none, .mv (.t 42)⟩,
    ⟨(some 43), none, none, .extract (.t 38) 0⟩,
    ⟨(some 44), none, none, .extract (.t 38) 1⟩,
    ⟨(some 45), none, none, .extract (.t 38) 2⟩,
    ⟨(some 11), none, none, .mv (.t 43)⟩,
    ⟨(some 12), none, none, .mv (.t 44)⟩,
    ⟨(some 13), none, none, .mv (.t 45)⟩] none)
  (.seq (.reg [⟨(some 46), none, none, .fieldA 0 (.t 5)⟩,
    ⟨(some 47), none, none, .load false 1 (.t 46)⟩,
    ⟨(some 48), none, none, .mv (.t 8)⟩,
    ⟨(some 49), none, none, .build [.p (.bool false), .nils] [(0, 1, .t 47), (1, 1, .t 48)]⟩,
    ⟨(some 50), none, none, .call .pu 68 [.t 49]⟩,
    ⟨(some 51), none, none, .mv (.t 11)⟩,
    ⟨(some 52), none, none, .build [.p (.bool false), .nils] [(1, 1, .t 51)]⟩,
    ⟨(some 53), none, none, .build [.p (.bool false), .nils, .p (.bool false), .nils] [(0, 2, .t 50), (2, 2, .t 52)]⟩,
    ⟨none, none, none, .store 4 (.t 4) (.t 53)⟩] none)
  .ret)))))))),
  [.cell 4 true 4]⟩

theorem c200 : chkF Try.prog 200 f200 = true := by kernel_rfl

/-- trammel/nat.less -/
def f201 : RFun := ⟨(.seq (.reg [⟨(some 4), none, none, .mv (.c (.nils))⟩] none)
  (.seq (.reg [⟨(some 9), none, none, .mv (.t 0)⟩,
    ⟨(some 10), none, none, .len (.t 9)⟩,
    ⟨(some 11), none, none, .mks false 1 4 (.int .u32 0) (.t 10) (.t 10)⟩,
    ⟨(some 5), none, none, .mv (.t 11)⟩] none)
  (.seq (.reg [⟨(some 6), none, none, .mv (.c (.p (.int .u64 0)))⟩] none)
  (.seq (.seq (.reg [⟨(some 12), none, none, .mv (.t 0)⟩,
    ⟨(some 13), none, none, .len (.t 12)⟩,
    ⟨(some 14), none, none, .mv (.c (.p (.int .i64 0)))⟩] none)
  (.fg [0, 1, 5, 6, 13, 14] (.block 0
  (.loop (.fg [0, 1, 5, 6, 13, 14]
    (.seq (.reg [⟨(some 15), none, none, .bin .lss (.t 14) (.t 13)⟩] none)
      (.seq (.cond (.t 15)
        .skip
        (.exit 0))
      (.fg [0, 1, 5, 6, 13, 14] (.seq (.block 1
      (.seq (.reg [⟨(some 16), none, none, .mv (.t 14)⟩,
    ⟨(some 7), none, none, .mv (.t 16)⟩] none)
        (.seq (.reg [⟨(some 17), none, none, .mv (.t 0)⟩,
    ⟨(some 18), none, none, .mv (.t 7)⟩,
    ⟨(some 19), none, none, .indexA 1 (.t 17) (.t 18)⟩,
    ⟨(some 20), none, none, .load false 1 (.t 19)⟩,
    ⟨(some 21), none, none, .conv .u64 (.t 20)⟩,
    ⟨(some 22), none, none, .mv (.t 6)⟩,
    ⟨(some 23), none, none, .bin .sub (.t 21) (.t 22)⟩,
    ⟨(some 8), none, none, .mv (.t 23)⟩] none)
        (.seq (.seq (.reg [⟨(some 24), none, none, .mv (.t 7)⟩,
    ⟨(some 25), none, none, .mv (.t 1)⟩,
    ⟨(some 26), none, none, .len (.t 25)⟩,
    ⟨(some 27), none, none, .bin .lss (.t 24) (.t 26)⟩] none)
        (.fg [0, 1, 5, 7, 8, 13, 14, 27] (.cond (.t 27)
          (.reg [⟨(some 28), none, none, .mv (.t 8)⟩,
    ⟨(some 29), none, none, .mv (.t 1)⟩,
    ⟨(some 30), none, none, .mv (.t 7)⟩,
    ⟨(some 31), none, none, .indexA 1 (.t 29) (.t 30)⟩,
    ⟨(some 32), none, none, .load false 1 (.t 31)⟩,
    ⟨(some 33), none, none, .conv .u64 (.t 32)⟩,
    ⟨(some 34), none, none, .bin .sub (.t 28) (.t 33)⟩,
    ⟨(some 8), none, none, .mv (.t 34)⟩] none)
          .skip)))
        (.seq (.reg [⟨(some 35), none, none, .mv (.t 5)⟩,
    ⟨(some 36), none, none, .mv (.t 7)⟩,
    ⟨(some 37), none, none, .mv (.t 8)⟩,
    ⟨(some 38), none, none, .conv .u32 (.t 37)⟩,
    ⟨(some 39), none, none, .indexA 1 (.t 35) (.t 36)⟩,
    ⟨none, none, none, .store 1 (.t 39) (.t 38)⟩] none)
        (.reg [⟨(some 40), none, none, .mv (.t 8)⟩,
    ⟨(some 41), none, none, .bin .shr (.t 40) (.c (.p (.int .u64 63)))⟩,
    ⟨(some 6), none, none, .mv (.t 41)⟩] none))))))
      (.fg [0, 1, 5, 6, 13, 14] (.reg [⟨(some 42), none, none, .bin .add (.t 14) (.c (.p (.int .i64 1)))⟩,
    ⟨(some 14), none, none, .mv (.t 42)⟩] none)))))))))))
  (.seq (.reg [⟨(some 43), none, none, .mv (.t 5)⟩,
    ⟨(some 44), none, none, .call .fz 144 [.t 43]⟩,
    ⟨(some 4), none, none, .mv (.t 44)⟩] none)
  .ret))))),
  [.t 4]⟩

theorem c201 : chkF Try.prog 201 f201 = true := by kernel_rfl

end Go.Proofs.Ytdieenbfdeaffaa.VBn

namespace Go.Proofs.Ytdieenbfdeaffaa.VBn
open Go Vpi
set_option maxRecDepth 100000

def tab : List (Nat × RFun) := [(27, f27), (54, f54), (58, f58), (59, f59), (60, f60), (61, f61), (63, f63), (66, f66), (68, f68), (69, f69), (77, f77), (79, f79), (80, f80), (82, f82), (93, f93), (98, f98), (99, f99), (105, f105), (107, f107), (108, f108), (109, f109), (110, f110), (111, f111), (112, f112), (117, f117), (119, f119), (121, f121), (134, f134), (135, f135), (137, f137), (138, f138), (139, f139), (140, f140), (141, f141), (142, f142), (143, f143), (144, f144), (145, f145), (146, f146), (147, f147), (148, f148), (157, f157), (158, f158), (159, f159), (160, f160), (161, f161), (162, f162), (163, f163), (164, f164), (169, f169), (170, f170), (171, f171), (172, f172), (173, f173), (174, f174), (175, f175), (176, f176), (177, f177), (178, f178), (184, f184), (185, f185), (186, f186), (187, f187), (188, f188), (198, f198), (199, f199), (200, f200), (201, f201)]

def rp : RProg := fun f => (tab.find? fun x => x.1 == f).map (·.2)

theorem all_ok : (tab.all fun x => chkF Try.prog x.1 x.2) = true := by
  simp only [tab, List.all_cons, List.all_nil, c27, c54, c58, c59, c60, c61, c63, c66, c68, c69, c77, c79, c80, c82, c93, c98, c99, c105, c107, c108, c109, c110, c111, c112, c117, c119, c121, c134, c135, c137, c138, c139, c140, c141, c142, c143, c144, c145, c146, c147, c148, c157, c158, c159, c160, c161, c162, c163, c164, c169, c170, c171, c172, c173, c174, c175, c176, c177, c178, c184, c185, c186, c187, c188, c198, c199, c200, c201, Bool.and_self]

theorem rp_ok : ∀ f rf, rp f = some rf → chkF Try.prog f rf = true := by
  intro f rf h
  unfold rp at h
  rw [Option.map_eq_some_iff] at h
  obtain ⟨x, hx, rfl⟩ := h
  have h1 := List.find?_some hx
  have h2 := List.mem_of_find?_eq_some hx
  have h3 := List.all_eq_true.1 all_ok x h2
  have h4 : x.1 = f := by simpa using h1
  rw [← h4]; exact h3

theorem mixed : Try.prog.follows .mixedOrders = true := by kernel_rfl

theorem sim (m : Nat) : CallSim Try.prog (runF rp m) := callSim mixed rp_ok m

end Go.Proofs.Ytdieenbfdeaffaa.VBn

namespace Go.Proofs.Ytdieenbfdeaffaa.VBn
open Go Vpi
set_option maxRecDepth 100000
set_option linter.unusedSimpArgs false
set_option linter.unusedVariables false

theorem rp98 : rp 98 = some f98 := rfl
theorem rp105 : rp 105 = some f105 := rfl
theorem rp107 : rp 107 = some f107 := rfl
theorem rp54 : rp 54 = some f54 := rfl
theorem rp66 : rp 66 = some f66 := rfl
theorem rp68 : rp 68 = some f68 := rfl
theorem rp58 : rp 58 = some f58 := rfl

theorem p98 {l : List Nat} (hl : Lim l) (hn : l.length ≤ 1099511627776) : Pu rp 98 [.sl (lm l)] (.p (.sl (lm (dgl (val l))))) := by
  refine pu_of rp98 ?_
  simp only [f98, args0, S1, S2, S3, S4, S5, r_idx, r_mks, ev, resultsV, resL, resV, vl, gt, st, sto, fgt, i64, subCV, fill, setCells, mkAgg, allP, frz, frz1, frzL, frzs, kill, kill1, killL, kills, bnd, unV, bsz, toPs, toP, isPure1, pureL, List.elem, List.replicate, Int.reduceLE, Int.reduceLT, ↓reduceIte, reduceCtorEq, Nat.reduceLT, Nat.reduceEqDiff, Nat.reduceAdd, Nat.reduceMul, Nat.reduceLeDiff, Nat.reduceBEq, lm_len]
  refine bloop (β := Nat) (γ := Nat) (fun n => ([(0, .p (.sl (lm l))), (3, i64 n)], [])) (fun n => n ≤ l.length ∧ ∀ i, n ≤ i → ∀ x, l[i]? = some x → x = 0) (fun n => n)
    (fun n => ([(0, .p (.sl (lm l))), (3, i64 n)], [])) (fun n => n ≤ l.length ∧ trimL l = l.take n) l.length rfl rfl ⟨Nat.le_refl _, fun i hi x hx => ?_⟩ ?_ ?_
  · rw [List.getElem?_eq_none hi] at hx; cases hx
  · rintro ks' n ⟨hnl, hz⟩ ih hx
    by_cases h0 : (n : Int) > 0
    · obtain ⟨m, rfl⟩ : ∃ m, n = m + 1 := ⟨n - 1, by omega⟩
      have hm : m < l.length := hnl
      have hi : IntKind.i64.wrap (((m + 1 : Nat) : Int) - 1) = (m : Int) := by rw [IntWalk.i64_in _ (by omega)]; omega
      have hg := lm_get hm
      by_cases hx0 : l[m] = 0
      · have e1 : (((l[m] : Nat) : Int) == 0) = true := by simp [hx0]
        simp only [S1, S2, S3, S4, S5, r_idx, r_mks, ev, resultsV, resL, resV, vl, gt, st, sto, fgt, i64, subCV, fill, setCells, mkAgg, allP, frz, frz1, frzL, frzs, kill, kill1, killL, kills, bnd, unV, bsz, toPs, toP, isPure1, pureL, List.elem, List.replicate, Int.reduceLE, Int.reduceLT, ↓reduceIte, reduceCtorEq, Nat.reduceLT, Nat.reduceEqDiff, Nat.reduceAdd, Nat.reduceMul, Nat.reduceLeDiff, Nat.reduceBEq, h0, hi, Int.natCast_nonneg, Int.toNat_natCast, hg, e1]
        refine ih m _ ⟨by omega, fun i hi x hx => ?_⟩ (by omega) ?_
        · rcases Nat.lt_or_ge m i with h1 | h1
          · exact hz i h1 x hx
          · obtain rfl : i = m := by omega
            rw [List.getElem?_eq_getElem hm] at hx
            cases hx
            exact hx0
        · rfl
      · have e1 : (((l[m] : Nat) : Int) == 0) = false := by simp [hx0]
        simp only [S1, S2, S3, S4, S5, r_idx, r_mks, ev, resultsV, resL, resV, vl, gt, st, sto, fgt, i64, subCV, fill, setCells, mkAgg, allP, frz, frz1, frzL, frzs, kill, kill1, killL, kills, bnd, unV, bsz, toPs, toP, isPure1, pureL, List.elem, List.replicate, Int.reduceLE, Int.reduceLT, ↓reduceIte, reduceCtorEq, Nat.reduceLT, Nat.reduceEqDiff, Nat.reduceAdd, Nat.reduceMul, Nat.reduceLeDiff, Nat.reduceBEq, h0, hi, Int.natCast_nonneg, Int.toNat_natCast, hg, e1]
        refine hx (m + 1) _ ⟨hnl, trimL_take hz (.inr ⟨l[m], by simp, hx0⟩)⟩ ?_
        rfl
    · simp only [S1, S2, S3, S4, S5, r_idx, r_mks, ev, resultsV, resL, resV, vl, gt, st, sto, fgt, i64, subCV, fill, setCells, mkAgg, allP, frz, frz1, frzL, frzs, kill, kill1, killL, kills, bnd, unV, bsz, toPs, toP, isPure1, pureL, List.elem, List.replicate, Int.reduceLE, Int.reduceLT, ↓reduceIte, reduceCtorEq, Nat.reduceLT, Nat.reduceEqDiff, Nat.reduceAdd, Nat.reduceMul, Nat.reduceLeDiff, Nat.reduceBEq, h0]
      obtain rfl : n = 0 := by omega
      refine hx 0 _ ⟨Nat.zero_le _, trimL_take hz (.inl rfl)⟩ ?_
      rfl
  · rintro n ⟨hnl, ht⟩
    simp only [S1, S2, S3, S4, S5, r_idx, r_mks, ev, resultsV, resL, resV, vl, gt, st, sto, fgt, i64, subCV, fill, setCells, mkAgg, allP, frz, frz1, frzL, frzs, kill, kill1, killL, kills, bnd, unV, bsz, toPs, toP, isPure1, pureL, List.elem, List.replicate, Int.reduceLE, Int.reduceLT, ↓reduceIte, reduceCtorEq, Nat.reduceLT, Nat.reduceEqDiff, Nat.reduceAdd, Nat.reduceMul, Nat.reduceLeDiff, Nat.reduceBEq]
    refine loop_rule (β := Nat × Store × CV) (fun b => ([(0, .p (.sl (lm l))), (3, i64 n), (4, b.2.2), (5, i64 b.1)], b.2.1)) (fun b => b.1 ≤ n ∧ GL b.2.1 1 b.2.2 (lm (l.take b.1))) (fun b => n - b.1) (0, [], .nils) rfl rfl ⟨Nat.zero_le _, .nil⟩ ?_
    rintro ⟨i, σ, c⟩ ⟨hi, hgl⟩ ih
    simp only [] at hi hgl ih ⊢
    by_cases hin : (i : Int) < n
    · have hi2 : i < l.length := by omega
      have hg := lm_get hi2
      have hc : ((lm (l.take i)).length + [PV.int .u32 (l[i] : Nat)].length) * 4 ≤ 140737488355328 := by rw [lm_len, List.length_take]; simp; omega
      simp only [S1, S2, S3, S4, S5, r_idx, r_mks, ev, resultsV, resL, resV, vl, gt, st, sto, fgt, i64, subCV, fill, setCells, mkAgg, allP, frz, frz1, frzL, frzs, kill, kill1, killL, kills, bnd, unV, bsz, toPs, toP, isPure1, pureL, List.elem, List.replicate, Int.reduceLE, Int.reduceLT, ↓reduceIte, reduceCtorEq, Nat.reduceLT, Nat.reduceEqDiff, Nat.reduceAdd, Nat.reduceMul, Nat.reduceLeDiff, Nat.reduceBEq, hin, hg, Int.natCast_nonneg, Int.toNat_natCast, r_app hgl hc, IntWalk.i64_in ((i : Int) + 1) (by omega)]
      have hnew : lm (l.take i) ++ [PV.int .u32 (l[i] : Nat)] = lm (l.take (i + 1)) := by rw [List.take_add_one, List.getElem?_eq_getElem hi2, ← lm_append]; rfl
      have hlen : (lm (l.take i)).length = i := by rw [lm_len, List.length_take]; omega
      rw [hnew, hlen]
      refine ih (i + 1, nd σ c ++ [.prow 1 [.int .u32 (l[i] : Nat)], .prow 1 (lm (l.take (i + 1)))], .own (σ.length + 1) 0 (i + 1)) _ ⟨by omega, GL.new2 (by rw [lm_len, List.length_take]; omega) rfl⟩ (by simp; omega) ?_
      rfl
    · simp only [S1, S2, S3, S4, S5, r_idx, r_mks, ev, resultsV, resL, resV, vl, gt, st, sto, fgt, i64, subCV, fill, setCells, mkAgg, allP, frz, frz1, frzL, frzs, kill, kill1, killL, kills, bnd, unV, bsz, toPs, toP, isPure1, pureL, List.elem, List.replicate, Int.reduceLE, Int.reduceLT, ↓reduceIte, reduceCtorEq, Nat.reduceLT, Nat.reduceEqDiff, Nat.reduceAdd, Nat.reduceMul, Nat.reduceLeDiff, Nat.reduceBEq, hin]
      obtain rfl : i = n := by omega
      rw [← trimL_dgl hl, ht]
      exact hgl.back

theorem p105 {neg : Bool} {l : List Nat} (hl : Lim l) (hn : l.length ≤ 1099511627776) : Pu rp 105 [.bool neg, .sl (lm l)] (.p (mk neg (val l))) := by
  refine pu_of rp105 ?_
  simp only [f105, args0, S1, S2, S3, S4, S5, r_idx, r_mks, ev, resultsV, resL, resV, vl, gt, st, sto, fgt, i64, subCV, fill, setCells, mkAgg, allP, frz, frz1, frzL, frzs, kill, kill1, killL, kills, bnd, unV, bsz, toPs, toP, isPure1, pureL, List.elem, List.replicate, Int.reduceLE, Int.reduceLT, ↓reduceIte, reduceCtorEq, Nat.reduceLT, Nat.reduceEqDiff, Nat.reduceAdd, Nat.reduceMul, Nat.reduceLeDiff, Nat.reduceBEq, lm_len]
  refine bloop (β := Nat) (γ := Nat) (fun n => ([(0, .p (.bool neg)), (1, .p (.sl (lm l))), (4, .ptr 0 0 0), (5, i64 n)], [.kblk 2 [.p (.bool false), .nils]])) (fun n => n ≤ l.length ∧ ∀ i, n ≤ i → ∀ x, l[i]? = some x → x = 0) (fun n => n)
    (fun n => ([(0, .p (.bool neg)), (1, .p (.sl (lm l))), (4, .ptr 0 0 0), (5, i64 n)], [.kblk 2 [.p (.bool false), .nils]])) (fun n => n ≤ l.length ∧ trimL l = l.take n) l.length rfl rfl ⟨Nat.le_refl _, fun i hi x hx => ?_⟩ ?_ ?_
  · rw [List.getElem?_eq_none hi] at hx; cases hx
  · rintro ks' n ⟨hnl, hz⟩ ih hx
    by_cases h0 : (n : Int) > 0
    · obtain ⟨m, rfl⟩ : ∃ m, n = m + 1 := ⟨n - 1, by omega⟩
      have hm : m < l.length := hnl
      have hi : IntKind.i64.wrap (((m + 1 : Nat) : Int) - 1) = (m : Int) := by rw [IntWalk.i64_in _ (by omega)]; omega
      have hg := lm_get hm
      by_cases hx0 : l[m] = 0
      · have e1 : (((l[m] : Nat) : Int) == 0) = true := by simp [hx0]
        simp only [S1, S2, S3, S4, S5, r_idx, r_mks, ev, resultsV, resL, resV, vl, gt, st, sto, fgt, i64, subCV, fill, setCells, mkAgg, allP, frz, frz1, frzL, frzs, kill, kill1, killL, kills, bnd, unV, bsz, toPs, toP, isPure1, pureL, List.elem, List.replicate, Int.reduceLE, Int.reduceLT, ↓reduceIte, reduceCtorEq, Nat.reduceLT, Nat.reduceEqDiff, Nat.reduceAdd, Nat.reduceMul, Nat.reduceLeDiff, Nat.reduceBEq, h0, hi, Int.natCast_nonneg, Int.toNat_natCast, hg, e1]
        refine ih m _ ⟨by omega, fun i hi x hx => ?_⟩ (by omega) ?_
        · rcases Nat.lt_or_ge m i with h1 | h1
          · exact hz i h1 x hx
          · obtain rfl : i = m := by omega
            rw [List.getElem?_eq_getElem hm] at hx
            cases hx
            exact hx0
        · rfl
      · have e1 : (((l[m] : Nat) : Int) == 0) = false := by simp [hx0]
        simp only [S1, S2, S3, S4, S5, r_idx, r_mks, ev, resultsV, resL, resV, vl, gt, st, sto, fgt, i64, subCV, fill, setCells, mkAgg, allP, frz, frz1, frzL, frzs, kill, kill1, killL, kills, bnd, unV, bsz, toPs, toP, isPure1, pureL, List.elem, List.replicate, Int.reduceLE, Int.reduceLT, ↓reduceIte, reduceCtorEq, Nat.reduceLT, Nat.reduceEqDiff, Nat.reduceAdd, Nat.reduceMul, Nat.reduceLeDiff, Nat.reduceBEq, h0, hi, Int.natCast_nonneg, Int.toNat_natCast, hg, e1]
        refine hx (m + 1) _ ⟨hnl, trimL_take hz (.inr ⟨l[m], by simp, hx0⟩)⟩ ?_
        rfl
    · simp only [S1, S2, S3, S4, S5, r_idx, r_mks, ev, resultsV, resL, resV, vl, gt, st, sto, fgt, i64, subCV, fill, setCells, mkAgg, allP, frz, frz1, frzL, frzs, kill, kill1, killL, kills, bnd, unV, bsz, toPs, toP, isPure1, pureL, List.elem, List.replicate, Int.reduceLE, Int.reduceLT, ↓reduceIte, reduceCtorEq, Nat.reduceLT, Nat.reduceEqDiff, Nat.reduceAdd, Nat.reduceMul, Nat.reduceLeDiff, Nat.reduceBEq, h0]
      obtain rfl : n = 0 := by omega
      refine hx 0 _ ⟨Nat.zero_le _, trimL_take hz (.inl rfl)⟩ ?_
      rfl
  · rintro n ⟨hnl, ht⟩
    have hd : dgl (val l) = l.take n := by rw [← trimL_dgl hl, ht]
    by_cases h0 : n = 0
    · subst h0
      have hv : val l = 0 := by rw [← val_dgl (val l), hd]; rfl
      simp only [S1, S2, S3, S4, S5, r_idx, r_mks, ev, resultsV, resL, resV, vl, gt, st, sto, fgt, i64, subCV, fill, setCells, mkAgg, allP, frz, frz1, frzL, frzs, kill, kill1, killL, kills, bnd, unV, bsz, toPs, toP, isPure1, pureL, List.elem, List.replicate, Int.reduceLE, Int.reduceLT, ↓reduceIte, reduceCtorEq, Nat.reduceLT, Nat.reduceEqDiff, Nat.reduceAdd, Nat.reduceMul, Nat.reduceLeDiff, Nat.reduceBEq]
      rw [mk, hv, dgl_zero]
      simp
      rfl
    · have e1 : ((n : Int) == 0) = false := by simp; omega
      have e2 : ((4 : Nat) : Int) * (n : Int) ≤ 281474976710656 := by omega
      have e3 : (n : Int) ≤ 9223372036854775807 := by omega
      have hv : val l ≠ 0 := by intro h; rw [h, dgl_zero] at hd; have := congrArg List.length hd; rw [List.length_take] at this; simp at this; omega
      simp only [S1, S2, S3, S4, S5, r_idx, r_mks, ev, resultsV, resL, resV, vl, gt, st, sto, fgt, i64, subCV, fill, setCells, mkAgg, allP, frz, frz1, frzL, frzs, kill, kill1, killL, kills, bnd, unV, bsz, toPs, toP, isPure1, pureL, List.elem, List.replicate, Int.reduceLE, Int.reduceLT, ↓reduceIte, reduceCtorEq, Nat.reduceLT, Nat.reduceEqDiff, Nat.reduceAdd, Nat.reduceMul, Nat.reduceLeDiff, Nat.reduceBEq, e1, e2, e3, Int.natCast_nonneg, Int.toNat_natCast, Int.le_refl, lm_sz, List.length_replicate]
      have hln : (dgl (val l)).length = n := by rw [hd, List.length_take]; omega
      have hl1 : (List.take n (lm l)).length = n := by rw [List.length_take, lm_len]; omega
      rw [hl1, List.drop_of_length_le (by simp), List.append_nil, lm_take, ← hd]
      have hf : frz1 [.kblk 2 [.p (.bool neg), .own 1 0 n], .prow 1 (lm (dgl (val l)))] (.own 1 0 n) = some (.sl (lm (dgl (val l)))) := frz1_own (s := 1) rfl (by rw [lm_len, hln])
      simp only [back, back1, frz, frzL, hf, Option.map_some, frz1_p]
      simp [mk, hv]

theorem p107 {neg : Bool} {l : List Nat} (hl : Lim l) (hn : l.length ≤ 1099511627776) : Pu rp 107 [.bool neg, .sl (lm l)] (.p (mk neg (val l))) := by
  refine pu_of rp107 ?_
  have e1 : (((dgl (val l)).length : Int) > 0) = (val l ≠ 0) := by
    by_cases h : val l = 0
    · simp [h, dgl_zero]
    · have := List.length_pos_iff.2 (dgl_ne h)
      simp only [ne_eq, h, not_false_eq_true, eq_iff_iff, iff_true]
      omega
  cases neg
  · simp only [f107, args0, S1, S2, S3, S4, S5, r_idx, r_mks, ev, resultsV, resL, resV, vl, gt, st, sto, fgt, i64, subCV, fill, setCells, mkAgg, allP, frz, frz1, frzL, frzs, kill, kill1, killL, kills, bnd, unV, bsz, toPs, toP, isPure1, pureL, List.elem, List.replicate, Int.reduceLE, Int.reduceLT, ↓reduceIte, reduceCtorEq, Nat.reduceLT, Nat.reduceEqDiff, Nat.reduceAdd, Nat.reduceMul, Nat.reduceLeDiff, Nat.reduceBEq, kp1 (p98 hl hn), lm_len]
    rfl
  · simp only [f107, args0, S1, S2, S3, S4, S5, r_idx, r_mks, ev, resultsV, resL, resV, vl, gt, st, sto, fgt, i64, subCV, fill, setCells, mkAgg, allP, frz, frz1, frzL, frzs, kill, kill1, killL, kills, bnd, unV, bsz, toPs, toP, isPure1, pureL, List.elem, List.replicate, Int.reduceLE, Int.reduceLT, ↓reduceIte, reduceCtorEq, Nat.reduceLT, Nat.reduceEqDiff, Nat.reduceAdd, Nat.reduceMul, Nat.reduceLeDiff, Nat.reduceBEq, kp1 (p98 hl hn), lm_len, e1]
    rfl

/-- zint.Of and the reference's, of a number of at most two limbs -/
theorem two_lm {v : Nat} : [PV.int .u32 ((v % LB : Nat) : Int), PV.int .u32 ((v / LB : Nat) : Int)] = lm [v % LB, v / LB] := rfl

theorem p68 {neg : Bool} {l : List Nat} (hl : Lim l) (hn : l.length ≤ 1099511627776) : Pu rp 68 [.agg [.bool neg, .sl (lm l)]] (.p (mk neg (val l))) := by
  refine pu_of rp68 ?_
  simp only [f68, args0, S1, S2, S3, S4, S5, r_idx, r_mks, ev, resultsV, resL, resV, vl, gt, st, sto, fgt, i64, subCV, fill, setCells, mkAgg, allP, frz, frz1, frzL, frzs, kill, kill1, killL, kills, bnd, unV, bsz, toPs, toP, isPure1, pureL, List.elem, List.replicate, Int.reduceLE, Int.reduceLT, ↓reduceIte, reduceCtorEq, Nat.reduceLT, Nat.reduceEqDiff, Nat.reduceAdd, Nat.reduceMul, Nat.reduceLeDiff, Nat.reduceBEq, kp2 (p107 hl hn)]
  rfl


theorem zi_nonneg {x : Int} (h : 0 ≤ x) : zi x = mk false x.toNat := by
  obtain ⟨n, rfl⟩ := Int.eq_ofNat_of_zero_le h
  simp [zi, mk]
  omega
theorem zi_neg {x : Int} (h : x < 0) : zi x = mk true x.natAbs := by
  simp [zi, mk, h]

/-- the two limbs of a word -/
theorem two_words {v : Nat} (h : v < LB * LB) : IntKind.u32.wrap (v : Int) = ((v % LB : Nat) : Int) ∧ IntKind.u32.wrap ((v : Int).fdiv (2 ^ min (Int.toNat 32) IntKind.u64.bits)) = ((v / LB : Nat) : Int) := by
  have h1 : ((2 : Int) ^ min (Int.toNat 32) IntKind.u64.bits) = 4294967296 := by decide
  rw [h1, IntKind.wrap_u32, IntKind.wrap_u32, Int.fdiv_eq_ediv_of_nonneg _ (by decide)]
  unfold LB at h ⊢
  omega

theorem p54 {x : Int} (h : -9223372036854775808 ≤ x) (h' : x ≤ 9223372036854775807) : Pu rp 54 [.int .i64 x] (.p (zi x)) := by
  refine pu_of rp54 ?_
  by_cases h0 : x < 0
  · have e1 : IntKind.u64.wrap (0 - IntKind.u64.wrap x) = ((x.natAbs : Nat) : Int) := by rw [IntKind.wrap_u64, IntKind.wrap_u64]; omega
    have hlt : x.natAbs < LB * LB := by unfold LB; omega
    have hw := two_words hlt
    have hp := p105 (neg := true) (lim_two hlt) (by simp)
    rw [val_two hlt] at hp
    simp only [f54, args0, S1, S2, S3, S4, S5, r_idx, r_mks, ev, resultsV, resL, resV, vl, gt, st, sto, fgt, i64, subCV, fill, setCells, mkAgg, allP, frz, frz1, frzL, frzs, kill, kill1, killL, kills, bnd, unV, bsz, toPs, toP, isPure1, pureL, List.elem, List.replicate, Int.reduceLE, Int.reduceLT, ↓reduceIte, reduceCtorEq, Nat.reduceLT, Nat.reduceEqDiff, Nat.reduceAdd, Nat.reduceMul, Nat.reduceLeDiff, Nat.reduceBEq, h0, e1, hw.1, hw.2, two_lm, lm_sz, kf_p_own hp]
    rw [zi_neg h0]
    rfl
  · have e1 : IntKind.u64.wrap x = ((x.toNat : Nat) : Int) := by rw [IntKind.wrap_u64]; omega
    have hlt : x.toNat < LB * LB := by unfold LB; omega
    have hw := two_words hlt
    have hp := p105 (neg := false) (lim_two hlt) (by simp)
    rw [val_two hlt] at hp
    simp only [f54, args0, S1, S2, S3, S4, S5, r_idx, r_mks, ev, resultsV, resL, resV, vl, gt, st, sto, fgt, i64, subCV, fill, setCells, mkAgg, allP, frz, frz1, frzL, frzs, kill, kill1, killL, kills, bnd, unV, bsz, toPs, toP, isPure1, pureL, List.elem, List.replicate, Int.reduceLE, Int.reduceLT, ↓reduceIte, reduceCtorEq, Nat.reduceLT, Nat.reduceEqDiff, Nat.reduceAdd, Nat.reduceMul, Nat.reduceLeDiff, Nat.reduceBEq, h0, e1, hw.1, hw.2, two_lm, lm_sz, kf_p_own hp]
    rw [zi_nonneg (by omega)]
    rfl

theorem p66 {x : Int} (h : -9223372036854775808 ≤ x) (h' : x ≤ 9223372036854775807) : Pu rp 66 [.int .i64 x] (.p (zi x)) := by
  refine pu_of rp66 ?_
  by_cases h0 : x < 0
  · have e1 : IntKind.u64.wrap (0 - IntKind.u64.wrap x) = ((x.natAbs : Nat) : Int) := by rw [IntKind.wrap_u64, IntKind.wrap_u64]; omega
    have hlt : x.natAbs < LB * LB := by unfold LB; omega
    have hw := two_words hlt
    have hp := p107 (neg := true) (lim_two hlt) (by simp)
    rw [val_two hlt] at hp
    simp only [f66, args0, S1, S2, S3, S4, S5, r_idx, r_mks, ev, resultsV, resL, resV, vl, gt, st, sto, fgt, i64, subCV, fill, setCells, mkAgg, allP, frz, frz1, frzL, frzs, kill, kill1, killL, kills, bnd, unV, bsz, toPs, toP, isPure1, pureL, List.elem, List.replicate, Int.reduceLE, Int.reduceLT, ↓reduceIte, reduceCtorEq, Nat.reduceLT, Nat.reduceEqDiff, Nat.reduceAdd, Nat.reduceMul, Nat.reduceLeDiff, Nat.reduceBEq, h0, e1, hw.1, hw.2, two_lm, lm_sz, kf_p_own hp]
    rw [zi_neg h0]
    rfl
  · have e1 : IntKind.u64.wrap x = ((x.toNat : Nat) : Int) := by rw [IntKind.wrap_u64]; omega
    have hlt : x.toNat < LB * LB := by unfold LB; omega
    have hw := two_words hlt
    have hp := p107 (neg := false) (lim_two hlt) (by simp)
    rw [val_two hlt] at hp
    simp only [f66, args0, S1, S2, S3, S4, S5, r_idx, r_mks, ev, resultsV, resL, resV, vl, gt, st, sto, fgt, i64, subCV, fill, setCells, mkAgg, allP, frz, frz1, frzL, frzs, kill, kill1, killL, kills, bnd, unV, bsz, toPs, toP, isPure1, pureL, List.elem, List.replicate, Int.reduceLE, Int.reduceLT, ↓reduceIte, reduceCtorEq, Nat.reduceLT, Nat.reduceEqDiff, Nat.reduceAdd, Nat.reduceMul, Nat.reduceLeDiff, Nat.reduceBEq, h0, e1, hw.1, hw.2, two_lm, lm_sz, kf_p_own hp]
    rw [zi_nonneg (by omega)]
    rfl

end Go.Proofs.Ytdieenbfdeaffaa.VBn

namespace Go.Proofs.Ytdieenbfdeaffaa.VBn
open Go Vpi
set_option maxRecDepth 100000
set_option linter.unusedSimpArgs false
set_option linter.unusedVariables false

theorem rp144 : rp 144 = some f144 := rfl
theorem rp158 : rp 158 = some f158 := rfl
theorem rp177 : rp 177 = some f177 := rfl
theorem rp176 : rp 176 = some f176 := rfl

theorem sliceV_take {σ : Store} {sz h : Nat} {es : List PV} (hh : h ≤ es.length) : sliceV σ sz (.p (.sl es)) 0 h = some (.p (.sl (es.take h))) := by
  simp [sliceV, hh]

/-- trim -/
theorem p144 {l : List Nat} (hl : Lim l) (hn : l.length ≤ 1099511627776) : Pu rp 144 [.sl (lm l)] (.p (.sl (lm (dgl (val l))))) := by
  refine pu_of rp144 ?_
  simp only [f144, args0, S1, S2, S3, S4, S5, r_idx, r_mks, ev, resultsV, resL, resV, vl, gt, st, sto, fgt, i64, subCV, fill, setCells, mkAgg, allP, frz, frz1, frzL, frzs, kill, kill1, killL, kills, bnd, unV, bsz, toPs, toP, isPure1, pureL, List.elem, List.replicate, Int.reduceLE, Int.reduceLT, ↓reduceIte, reduceCtorEq, Nat.reduceLT, Nat.reduceEqDiff, Nat.reduceAdd, Nat.reduceMul, Nat.reduceLeDiff, Nat.reduceBEq]
  refine bloop (β := Nat) (γ := Nat) (fun n => ([(0, .p (.sl (lm (l.take n))))], [])) (fun n => n ≤ l.length ∧ ∀ i, n ≤ i → ∀ x, l[i]? = some x → x = 0) (fun n => n)
    (fun n => ([(0, .p (.sl (lm (l.take n))))], [])) (fun n => n ≤ l.length ∧ trimL l = l.take n) l.length (by rw [List.take_length]; rfl) rfl ⟨Nat.le_refl _, fun i hi x hx => ?_⟩ ?_ ?_
  · rw [List.getElem?_eq_none hi] at hx; cases hx
  · rintro ks' n ⟨hnl, hz⟩ ih hx
    have hlen : (lm (l.take n)).length = n := by rw [lm_len, List.length_take]; omega
    by_cases h0 : (n : Int) > 0
    · obtain ⟨m, rfl⟩ : ∃ m, n = m + 1 := ⟨n - 1, by omega⟩
      have hm : m < l.length := hnl
      have hi : IntKind.i64.wrap (((m + 1 : Nat) : Int) - 1) = (m : Int) := by rw [IntWalk.i64_in _ (by omega)]; omega
      have hg : (lm (l.take (m + 1)))[m]? = some (.int .u32 (l[m] : Nat)) := lm_get? (by rw [List.getElem?_take_of_lt (by omega)]; simp)
      by_cases hx0 : l[m] = 0
      · have e1 : (((l[m] : Nat) : Int) == 0) = true := by simp [hx0]
        have hs : sliceV [] 1 (.p (.sl (lm (l.take (m + 1))))) 0 m = some (.p (.sl (lm (l.take m)))) := by
          rw [sliceV_take (by rw [hlen]; omega), lm_take, List.take_take, Nat.min_eq_left (by omega)]
        simp only [S1, S2, S3, S4, S5, r_idx, r_mks, ev, resultsV, resL, resV, vl, gt, st, sto, fgt, i64, subCV, fill, setCells, mkAgg, allP, frz, frz1, frzL, frzs, kill, kill1, killL, kills, bnd, unV, bsz, toPs, toP, isPure1, pureL, List.elem, List.replicate, Int.reduceLE, Int.reduceLT, ↓reduceIte, reduceCtorEq, Nat.reduceLT, Nat.reduceEqDiff, Nat.reduceAdd, Nat.reduceMul, Nat.reduceLeDiff, Nat.reduceBEq, hlen, h0, hi, Int.natCast_nonneg, Int.toNat_natCast, hg, e1, hs]
        refine ih m _ ⟨by omega, fun i hi x hx => ?_⟩ (by omega) ?_
        · rcases Nat.lt_or_ge m i with h1 | h1
          · exact hz i h1 x hx
          · obtain rfl : i = m := by omega
            rw [List.getElem?_eq_getElem hm] at hx
            cases hx
            exact hx0
        · rfl
      · have e1 : (((l[m] : Nat) : Int) == 0) = false := by simp [hx0]
        simp only [S1, S2, S3, S4, S5, r_idx, r_mks, ev, resultsV, resL, resV, vl, gt, st, sto, fgt, i64, subCV, fill, setCells, mkAgg, allP, frz, frz1, frzL, frzs, kill, kill1, killL, kills, bnd, unV, bsz, toPs, toP, isPure1, pureL, List.elem, List.replicate, Int.reduceLE, Int.reduceLT, ↓reduceIte, reduceCtorEq, Nat.reduceLT, Nat.reduceEqDiff, Nat.reduceAdd, Nat.reduceMul, Nat.reduceLeDiff, Nat.reduceBEq, hlen, h0, hi, Int.natCast_nonneg, Int.toNat_natCast, hg, e1]
        refine hx (m + 1) _ ⟨hnl, trimL_take hz (.inr ⟨l[m], by simp, hx0⟩)⟩ ?_
        rfl
    · simp only [S1, S2, S3, S4, S5, r_idx, r_mks, ev, resultsV, resL, resV, vl, gt, st, sto, fgt, i64, subCV, fill, setCells, mkAgg, allP, frz, frz1, frzL, frzs, kill, kill1, killL, kills, bnd, unV, bsz, toPs, toP, isPure1, pureL, List.elem, List.replicate, Int.reduceLE, Int.reduceLT, ↓reduceIte, reduceCtorEq, Nat.reduceLT, Nat.reduceEqDiff, Nat.reduceAdd, Nat.reduceMul, Nat.reduceLeDiff, Nat.reduceBEq, hlen, h0]
      obtain rfl : n = 0 := by omega
      refine hx 0 _ ⟨Nat.zero_le _, trimL_take hz (.inl rfl)⟩ ?_
      rfl
  · rintro n ⟨hnl, ht⟩
    simp only [S1, S2, S3, S4, S5, r_idx, r_mks, ev, resultsV, resL, resV, vl, gt, st, sto, fgt, i64, subCV, fill, setCells, mkAgg, allP, frz, frz1, frzL, frzs, kill, kill1, killL, kills, bnd, unV, bsz, toPs, toP, isPure1, pureL, List.elem, List.replicate, Int.reduceLE, Int.reduceLT, ↓reduceIte, reduceCtorEq, Nat.reduceLT, Nat.reduceEqDiff, Nat.reduceAdd, Nat.reduceMul, Nat.reduceLeDiff, Nat.reduceBEq]
    rw [← trimL_dgl hl, ht]
    rfl

/-- Norm -/
theorem p158 {l : List Nat} (hl : Lim l) (hn : l.length ≤ 1099511627776) : Pu rp 158 [.sl (lm l)] (.p (.sl (lm (dgl (val l))))) := by
  refine pu_of rp158 ?_
  have hd : (dgl (val l)).length ≤ l.length := dgl_len (val_lt hl)
  have hc : (dgl (val l)).length * 4 ≤ 140737488355328 := by omega
  simp only [f158, args0, S1, S2, S3, S4, S5, r_idx, r_mks, ev, resultsV, resL, resV, vl, gt, st, sto, fgt, i64, subCV, fill, setCells, mkAgg, allP, frz, frz1, frzL, frzs, kill, kill1, killL, kills, bnd, unV, bsz, toPs, toP, isPure1, pureL, List.elem, List.replicate, Int.reduceLE, Int.reduceLT, ↓reduceIte, reduceCtorEq, Nat.reduceLT, Nat.reduceEqDiff, Nat.reduceAdd, Nat.reduceMul, Nat.reduceLeDiff, Nat.reduceBEq, kp1 (p144 hl hn), r_append, lm_len, hc, lm_sz]
  have hf : frz1 [.prow 1 (lm (dgl (val l)))] (.own 0 0 (dgl (val l)).length) = some (.sl (lm (dgl (val l)))) := frz1_own (s := 1) rfl (by rw [lm_len])
  simp only [back, back1, Nat.not_lt_zero, if_false, hf, Option.map_some]

def cmpI (x y : Nat) : Int := if x < y then -1 else if x = y then 0 else 1

/-- Cmp -/
theorem p177 {a b : List Nat} (ha : Lim a) (hb : Lim b) (hna : a.length ≤ 1099511627776) (hnb : b.length ≤ 1099511627776) : Pu rp 177 [.sl (lm a), .sl (lm b)] (.p (.int .i64 (cmpI (val a) (val b)))) := by
  refine pu_of rp177 ?_
  have hda : (dgl (val a)).length ≤ a.length := dgl_len (val_lt ha)
  have hdb : (dgl (val b)).length ≤ b.length := dgl_len (val_lt hb)
  by_cases h1 : (dgl (val a)).length = (dgl (val b)).length
  · have e1 : (((dgl (val a)).length : Int) != ((dgl (val b)).length : Int)) = false := by simp [h1]
    have w1 : IntKind.i64.wrap (((dgl (val a)).length : Int) - 1) = ((dgl (val a)).length : Int) - 1 := IntWalk.i64_in _ (by omega)
    simp only [f177, args0, S1, S2, S3, S4, S5, r_idx, r_mks, ev, resultsV, resL, resV, vl, gt, st, sto, fgt, i64, subCV, fill, setCells, mkAgg, allP, frz, frz1, frzL, frzs, kill, kill1, killL, kills, bnd, unV, bsz, toPs, toP, isPure1, pureL, List.elem, List.replicate, Int.reduceLE, Int.reduceLT, ↓reduceIte, reduceCtorEq, Nat.reduceLT, Nat.reduceEqDiff, Nat.reduceAdd, Nat.reduceMul, Nat.reduceLeDiff, Nat.reduceBEq, kp1 (p144 ha hna), kp1 (p144 hb hnb), lm_len, e1, w1]
    refine loop_rule (β := Nat) (fun n => ([(0, .p (.sl (lm (dgl (val a))))), (1, .p (.sl (lm (dgl (val b))))), (5, i64 ((n : Int) - 1))], []))
      (fun n => n ≤ (dgl (val a)).length ∧ val ((dgl (val a)).drop n) = val ((dgl (val b)).drop n)) (fun n => n) (dgl (val a)).length rfl rfl ⟨Nat.le_refl _, by rw [List.drop_length, h1, List.drop_length]⟩ ?_
    rintro n ⟨hn, hd⟩ ih
    by_cases h0 : ((n : Int) - 1) ≥ 0
    · obtain ⟨m, rfl⟩ : ∃ m, n = m + 1 := ⟨n - 1, by omega⟩
      have hm : m < (dgl (val a)).length := hn
      have hm' : m < (dgl (val b)).length := by omega
      have hi : ((m + 1 : Nat) : Int) - 1 = (m : Int) := by omega
      rw [hi] at h0
      have hw : IntKind.i64.wrap ((m : Int) - 1) = (m : Int) - 1 := IntWalk.i64_in _ (by omega)
      by_cases heq : (dgl (val a))[m] = (dgl (val b))[m]
      · have e2 : ((((dgl (val a))[m] : Nat) : Int) != (((dgl (val b))[m] : Nat) : Int)) = false := by simp [heq]
        simp only [S1, S2, S3, S4, S5, r_idx, r_mks, ev, resultsV, resL, resV, vl, gt, st, sto, fgt, i64, subCV, fill, setCells, mkAgg, allP, frz, frz1, frzL, frzs, kill, kill1, killL, kills, bnd, unV, bsz, toPs, toP, isPure1, pureL, List.elem, List.replicate, Int.reduceLE, Int.reduceLT, ↓reduceIte, reduceCtorEq, Nat.reduceLT, Nat.reduceEqDiff, Nat.reduceAdd, Nat.reduceMul, Nat.reduceLeDiff, Nat.reduceBEq, hi, h0, Int.natCast_nonneg, Int.toNat_natCast, lm_get hm, lm_get hm', e2, hw]
        refine ih m _ ⟨by omega, ?_⟩ (by omega) ?_
        · rw [List.drop_eq_getElem_cons hm, List.drop_eq_getElem_cons hm', val, val, heq, hd]
        · rfl
      · have e2 : ((((dgl (val a))[m] : Nat) : Int) != (((dgl (val b))[m] : Nat) : Int)) = true := by simp; omega
        by_cases hlt : (dgl (val a))[m] < (dgl (val b))[m]
        · have e3 : (((dgl (val a))[m] : Nat) : Int) < (((dgl (val b))[m] : Nat) : Int) := by omega
          simp only [S1, S2, S3, S4, S5, r_idx, r_mks, ev, resultsV, resL, resV, vl, gt, st, sto, fgt, i64, subCV, fill, setCells, mkAgg, allP, frz, frz1, frzL, frzs, kill, kill1, killL, kills, bnd, unV, bsz, toPs, toP, isPure1, pureL, List.elem, List.replicate, Int.reduceLE, Int.reduceLT, ↓reduceIte, reduceCtorEq, Nat.reduceLT, Nat.reduceEqDiff, Nat.reduceAdd, Nat.reduceMul, Nat.reduceLeDiff, Nat.reduceBEq, hi, h0, Int.natCast_nonneg, Int.toNat_natCast, lm_get hm, lm_get hm', e2, e3]
          have := val_lt_top (dgl_lim (val a)) hm hm' hd hlt
          rw [val_dgl, val_dgl] at this
          rw [cmpI, if_pos this]
          rfl
        · have e3 : ¬ (((dgl (val a))[m] : Nat) : Int) < (((dgl (val b))[m] : Nat) : Int) := by omega
          simp only [S1, S2, S3, S4, S5, r_idx, r_mks, ev, resultsV, resL, resV, vl, gt, st, sto, fgt, i64, subCV, fill, setCells, mkAgg, allP, frz, frz1, frzL, frzs, kill, kill1, killL, kills, bnd, unV, bsz, toPs, toP, isPure1, pureL, List.elem, List.replicate, Int.reduceLE, Int.reduceLT, ↓reduceIte, reduceCtorEq, Nat.reduceLT, Nat.reduceEqDiff, Nat.reduceAdd, Nat.reduceMul, Nat.reduceLeDiff, Nat.reduceBEq, hi, h0, Int.natCast_nonneg, Int.toNat_natCast, lm_get hm, lm_get hm', e2, e3]
          have := val_lt_top (dgl_lim (val b)) hm' hm hd.symm (by omega)
          rw [val_dgl, val_dgl] at this
          rw [cmpI, if_neg (by omega), if_neg (by omega)]
          rfl
    · obtain rfl : n = 0 := by omega
      have h0' : ¬ (((0 : Nat) : Int) - 1 ≥ 0) := by omega
      simp only [S1, S2, S3, S4, S5, r_idx, r_mks, ev, resultsV, resL, resV, vl, gt, st, sto, fgt, i64, subCV, fill, setCells, mkAgg, allP, frz, frz1, frzL, frzs, kill, kill1, killL, kills, bnd, unV, bsz, toPs, toP, isPure1, pureL, List.elem, List.replicate, Int.reduceLE, Int.reduceLT, ↓reduceIte, reduceCtorEq, Nat.reduceLT, Nat.reduceEqDiff, Nat.reduceAdd, Nat.reduceMul, Nat.reduceLeDiff, Nat.reduceBEq, h0']
      simp only [List.drop_zero, val_dgl] at hd
      rw [cmpI, if_neg (by omega), if_pos hd]
      rfl
  · have e1 : (((dgl (val a)).length : Int) != ((dgl (val b)).length : Int)) = true := by simp; omega
    by_cases h2 : (dgl (val a)).length < (dgl (val b)).length
    · have e2 : ((dgl (val a)).length : Int) < ((dgl (val b)).length : Int) := by omega
      simp only [f177, args0, S1, S2, S3, S4, S5, r_idx, r_mks, ev, resultsV, resL, resV, vl, gt, st, sto, fgt, i64, subCV, fill, setCells, mkAgg, allP, frz, frz1, frzL, frzs, kill, kill1, killL, kills, bnd, unV, bsz, toPs, toP, isPure1, pureL, List.elem, List.replicate, Int.reduceLE, Int.reduceLT, ↓reduceIte, reduceCtorEq, Nat.reduceLT, Nat.reduceEqDiff, Nat.reduceAdd, Nat.reduceMul, Nat.reduceLeDiff, Nat.reduceBEq, kp1 (p144 ha hna), kp1 (p144 hb hnb), lm_len, e1, e2]
      rw [cmpI, if_pos (dgl_lt_len h2)]
      rfl
    · have e2 : ¬ ((dgl (val a)).length : Int) < ((dgl (val b)).length : Int) := by omega
      simp only [f177, args0, S1, S2, S3, S4, S5, r_idx, r_mks, ev, resultsV, resL, resV, vl, gt, st, sto, fgt, i64, subCV, fill, setCells, mkAgg, allP, frz, frz1, frzL, frzs, kill, kill1, killL, kills, bnd, unV, bsz, toPs, toP, isPure1, pureL, List.elem, List.replicate, Int.reduceLE, Int.reduceLT, ↓reduceIte, reduceCtorEq, Nat.reduceLT, Nat.reduceEqDiff, Nat.reduceAdd, Nat.reduceMul, Nat.reduceLeDiff, Nat.reduceBEq, kp1 (p144 ha hna), kp1 (p144 hb hnb), lm_len, e1, e2]
      have := dgl_lt_len (x := val b) (y := val a) (by omega)
      rw [cmpI, if_neg (by omega), if_neg (by omega)]
      rfl
end Go.Proofs.Ytdieenbfdeaffaa.VBn

namespace Go.Proofs.Ytdieenbfdeaffaa.VBn
open Go Vpi
set_option maxRecDepth 100000
set_option linter.unusedSimpArgs false
set_option linter.unusedVariables false

theorem rp201 : rp 201 = some f201 := rfl
theorem rp178 : rp 178 = some f178 := rfl

/-- a limb, or nought behind the end -/
def lg (l : List Nat) (i : Nat) : Nat := l[i]?.getD 0
theorem lg_lt {l : List Nat} (h : Lim l) {i : Nat} : lg l i < LB := by
  unfold lg
  rcases Nat.lt_or_ge i l.length with h1 | h1
  · rw [List.getElem?_eq_getElem h1]; exact h.get h1
  · rw [List.getElem?_eq_none h1]; exact LB_pos
theorem lg_in {l : List Nat} {i : Nat} (h : i < l.length) : lg l i = l[i] := by unfold lg; rw [List.getElem?_eq_getElem h]; rfl
theorem lg_out {l : List Nat} {i : Nat} (h : l.length ≤ i) : lg l i = 0 := by unfold lg; rw [List.getElem?_eq_none h]; rfl
theorem val_take_lg {l : List Nat} {i : Nat} : val (l.take (i + 1)) = val (l.take i) + LB ^ i * lg l i := by
  rcases Nat.lt_or_ge i l.length with h1 | h1
  · rw [val_take_succ h1, lg_in h1]
  · rw [lg_out h1, List.take_of_length_le (by omega), List.take_of_length_le h1]; omega

theorem addStep {o : List Nat} {A B c x y i : Nat} (ho : o.length = i) (h : val o + LB ^ i * c = A + B) : val (o ++ [(c + x + y) % LB]) + LB ^ (i + 1) * ((c + x + y) / LB) = A + LB ^ i * x + (B + LB ^ i * y) := by
  rw [val_append, ho, val_one, Nat.pow_succ]
  have h1 := Nat.mod_add_div (c + x + y) LB
  have h2 : LB ^ i * ((c + x + y) % LB) + LB ^ i * LB * ((c + x + y) / LB) = LB ^ i * (c + x + y) := by
    rw [Nat.mul_assoc, ← Nat.mul_add, h1]
  rw [Nat.mul_add, Nat.mul_add] at h2
  omega

theorem carry1 {c x y : Nat} (hc : c ≤ 1) (hx : x < LB) (hy : y < LB) : (c + x + y) / LB ≤ 1 ∧ c + x + y < 18446744073709551616 ∧ c + x < 18446744073709551616 := by
  unfold LB at *
  omega

theorem p176a {a b : List Nat} (ha : Lim a) (hb : Lim b) (hle : b.length ≤ a.length) (hna : a.length ≤ 1099511627775) {x y : List Nat} (hxy : (x = a ∧ y = b) ∨ (x = b ∧ y = a ∧ b.length < a.length)) :
    Pu rp 176 [.sl (lm x), .sl (lm y)] (.p (.sl (lm (dgl (val a + val b))))) := by
  refine pu_of rp176 ?_
  have w1 : IntKind.i64.wrap ((a.length : Int) + 1) = ((a.length + 1 : Nat) : Int) := by rw [IntWalk.i64_in _ (by omega)]; omega
  have m1 : ((4 : Nat) : Int) * ((a.length + 1 : Nat) : Int) ≤ 281474976710656 := by omega
  have m2 : ((a.length + 1 : Nat) : Int) ≤ 9223372036854775807 := by omega
  rcases hxy with ⟨hx, hy⟩ | ⟨hx, hy, hlt⟩ <;> rw [hx, hy]
  · have e1 : ¬ (a.length : Int) < b.length := by omega
    simp only [f176, args0, S1, S2, S3, S4, S5, r_idx, r_mks, ev, resultsV, resL, resV, vl, gt, st, sto, fgt, i64, subCV, fill, setCells, mkAgg, allP, frz, frz1, frzL, frzs, kill, kill1, killL, kills, bnd, unV, bsz, toPs, toP, isPure1, pureL, List.elem, List.replicate, Int.reduceLE, Int.reduceLT, ↓reduceIte, reduceCtorEq, Nat.reduceLT, Nat.reduceEqDiff, Nat.reduceAdd, Nat.reduceMul, Nat.reduceLeDiff, Nat.reduceBEq, lm_len, e1, w1, m1, m2, Int.natCast_nonneg, Int.toNat_natCast, Int.le_refl, lm_rep]
    refine loop_rule (β := Nat × List Nat × Nat) (fun t => ([(0, .p (.sl (lm a))), (1, .p (.sl (lm b))), (5, .own 0 0 (a.length + 1)), (6, .p (.int .u64 (t.2.2 : Int))), (20, i64 a.length), (21, i64 t.1)], [.prow 1 (lm (t.2.1 ++ List.replicate (a.length + 1 - t.1) 0))]))
      (fun t => t.1 ≤ a.length ∧ t.2.1.length = t.1 ∧ Lim t.2.1 ∧ val t.2.1 + LB ^ t.1 * t.2.2 = val (a.take t.1) + val (b.take t.1) ∧ t.2.2 ≤ 1) (fun t => a.length - t.1) ((0, [], 0) : Nat × List Nat × Nat) rfl rfl ⟨Nat.zero_le _, rfl, (fun _ hx => nomatch hx), rfl, Nat.zero_le _⟩ ?_
    rintro ⟨i, o, c⟩ ⟨hi, ho, hlo, hv, hc⟩ ih
    simp only [] at hi ho hlo hv hc ih ⊢
    have hget : (lm (o ++ List.replicate (a.length + 1 - i) 0))[i]? = some (.int .u32 0) := by
      have : (o ++ List.replicate (a.length + 1 - i) 0)[i]? = some 0 := by rw [show a.length + 1 - i = (a.length - i) + 1 by omega, List.getElem?_append_right (by omega), ho, Nat.sub_self]; rfl
      exact lm_get? this
    have hset : ∀ v, (o ++ List.replicate (a.length + 1 - i) 0).set i v = o ++ v :: List.replicate (a.length - i) 0 := by
      intro v
      rw [show a.length + 1 - i = (a.length - i) + 1 by omega, ← ho, set_next, List.append_assoc]
      rfl
    have hfold : ∀ v, o ++ v :: List.replicate (a.length - i) 0 = (o ++ [v]) ++ List.replicate (a.length + 1 - (i + 1)) 0 := by
      intro v
      rw [List.append_assoc, Nat.add_sub_add_right]
      rfl
    by_cases hin : (i : Int) < a.length
    · have hia : i < a.length := by omega
      have hil : i < a.length + 1 := by omega
      obtain ⟨k1, k2, k3⟩ := carry1 hc (ha.get hia) (lg_lt hb (i := i))
      have hst := addStep (x := a[i]) (y := lg b i) ho hv
      have hta := val_take_lg (l := a) (i := i)
      have htb := val_take_lg (l := b) (i := i)
      rw [lg_in hia] at hta
      rw [← hta, ← htb] at hst
      have hlen : (o ++ [(c + a[i] + lg b i) % LB]).length = i + 1 := by simp [ho]
      have hlim : Lim (o ++ [(c + a[i] + lg b i) % LB]) := hlo.append (.one (Nat.mod_lt _ LB_pos))
      by_cases hib : (i : Int) < b.length
      · have hib' : i < b.length := by omega
        rw [lg_in hib'] at hst k1 k2 hlen hlim
        simp only [S1, S2, S3, S4, S5, r_idx, r_mks, ev, resultsV, resL, resV, vl, gt, st, sto, fgt, i64, subCV, fill, setCells, mkAgg, allP, frz, frz1, frzL, frzs, kill, kill1, killL, kills, bnd, unV, bsz, toPs, toP, isPure1, pureL, List.elem, List.replicate, Int.reduceLE, Int.reduceLT, ↓reduceIte, reduceCtorEq, Nat.reduceLT, Nat.reduceEqDiff, Nat.reduceAdd, Nat.reduceMul, Nat.reduceLeDiff, Nat.reduceBEq, lm_len, hin, hib, lm_get hia, lm_get hib', w64l (ha.get hia), w64l (hb.get hib'), w64s k3, w64s k2, w32, sh32, Int.natCast_nonneg, Int.toNat_natCast, hil, hget, lm_set, hset, IntWalk.i64_in ((i : Int) + 1) (by omega)]
        rw [hfold]
        refine ih (i + 1, o ++ [(c + a[i] + b[i]) % LB], (c + a[i] + b[i]) / LB) _ ⟨by omega, hlen, hlim, hst, k1⟩ (by simp; omega) ?_
        rfl
      · rw [lg_out (by omega), Nat.add_zero] at hst k1 k2 hlen hlim
        simp only [S1, S2, S3, S4, S5, r_idx, r_mks, ev, resultsV, resL, resV, vl, gt, st, sto, fgt, i64, subCV, fill, setCells, mkAgg, allP, frz, frz1, frzL, frzs, kill, kill1, killL, kills, bnd, unV, bsz, toPs, toP, isPure1, pureL, List.elem, List.replicate, Int.reduceLE, Int.reduceLT, ↓reduceIte, reduceCtorEq, Nat.reduceLT, Nat.reduceEqDiff, Nat.reduceAdd, Nat.reduceMul, Nat.reduceLeDiff, Nat.reduceBEq, lm_len, hin, hib, lm_get hia, w64l (ha.get hia), w64s k3, w32, sh32, Int.natCast_nonneg, Int.toNat_natCast, hil, hget, lm_set, hset, IntWalk.i64_in ((i : Int) + 1) (by omega)]
        rw [hfold]
        refine ih (i + 1, o ++ [(c + a[i]) % LB], (c + a[i]) / LB) _ ⟨by omega, hlen, hlim, hst, k1⟩ (by simp; omega) ?_
        rfl
    · have hia : i = a.length := by omega
      have hil : a.length < a.length + 1 := Nat.lt_succ_self _
      subst hia
      have hcl : c % LB = c := Nat.mod_eq_of_lt (by unfold LB; omega)
      have hfin : o ++ c :: List.replicate (a.length - a.length) 0 = o ++ [c] := by simp
      have hval : val (o ++ [c]) = val a + val b := by
        rw [val_append, val_one, ho, hv, List.take_length, List.take_of_length_le hle]
      have hlim : Lim (o ++ [c]) := hlo.append (.one (by unfold LB; omega))
      have htr := p144 hlim (by simp; omega)
      rw [hval] at htr
      simp only [S1, S2, S3, S4, S5, r_idx, r_mks, ev, resultsV, resL, resV, vl, gt, st, sto, fgt, i64, subCV, fill, setCells, mkAgg, allP, frz, frz1, frzL, frzs, kill, kill1, killL, kills, bnd, unV, bsz, toPs, toP, isPure1, pureL, List.elem, List.replicate, Int.reduceLE, Int.reduceLT, ↓reduceIte, reduceCtorEq, Nat.reduceLT, Nat.reduceEqDiff, Nat.reduceAdd, Nat.reduceMul, Nat.reduceLeDiff, Nat.reduceBEq, lm_len, hin, w32, hcl, Int.natCast_nonneg, Int.toNat_natCast, hil, hget, lm_set, hset]
      rw [hfin, kf_own htr rfl (by rw [lm_len]; simp; omega)]
      simp only [S1, S2, S3, S4, S5, r_idx, r_mks, ev, resultsV, resL, resV, vl, gt, st, sto, fgt, i64, subCV, fill, setCells, mkAgg, allP, frz, frz1, frzL, frzs, kill, kill1, killL, kills, bnd, unV, bsz, toPs, toP, isPure1, pureL, List.elem, List.replicate, Int.reduceLE, Int.reduceLT, ↓reduceIte, reduceCtorEq, Nat.reduceLT, Nat.reduceEqDiff, Nat.reduceAdd, Nat.reduceMul, Nat.reduceLeDiff, Nat.reduceBEq]
      rfl
  · have e1 : (b.length : Int) < a.length := by omega
    simp only [f176, args0, S1, S2, S3, S4, S5, r_idx, r_mks, ev, resultsV, resL, resV, vl, gt, st, sto, fgt, i64, subCV, fill, setCells, mkAgg, allP, frz, frz1, frzL, frzs, kill, kill1, killL, kills, bnd, unV, bsz, toPs, toP, isPure1, pureL, List.elem, List.replicate, Int.reduceLE, Int.reduceLT, ↓reduceIte, reduceCtorEq, Nat.reduceLT, Nat.reduceEqDiff, Nat.reduceAdd, Nat.reduceMul, Nat.reduceLeDiff, Nat.reduceBEq, lm_len, e1, w1, m1, m2, Int.natCast_nonneg, Int.toNat_natCast, Int.le_refl, lm_rep]
    refine loop_rule (β := Nat × List Nat × Nat) (fun t => ([(0, .p (.sl (lm a))), (1, .p (.sl (lm b))), (5, .own 0 0 (a.length + 1)), (6, .p (.int .u64 (t.2.2 : Int))), (20, i64 a.length), (21, i64 t.1)], [.prow 1 (lm (t.2.1 ++ List.replicate (a.length + 1 - t.1) 0))]))
      (fun t => t.1 ≤ a.length ∧ t.2.1.length = t.1 ∧ Lim t.2.1 ∧ val t.2.1 + LB ^ t.1 * t.2.2 = val (a.take t.1) + val (b.take t.1) ∧ t.2.2 ≤ 1) (fun t => a.length - t.1) ((0, [], 0) : Nat × List Nat × Nat) rfl rfl ⟨Nat.zero_le _, rfl, (fun _ hx => nomatch hx), rfl, Nat.zero_le _⟩ ?_
    rintro ⟨i, o, c⟩ ⟨hi, ho, hlo, hv, hc⟩ ih
    simp only [] at hi ho hlo hv hc ih ⊢
    have hget : (lm (o ++ List.replicate (a.length + 1 - i) 0))[i]? = some (.int .u32 0) := by
      have : (o ++ List.replicate (a.length + 1 - i) 0)[i]? = some 0 := by rw [show a.length + 1 - i = (a.length - i) + 1 by omega, List.getElem?_append_right (by omega), ho, Nat.sub_self]; rfl
      exact lm_get? this
    have hset : ∀ v, (o ++ List.replicate (a.length + 1 - i) 0).set i v = o ++ v :: List.replicate (a.length - i) 0 := by
      intro v
      rw [show a.length + 1 - i = (a.length - i) + 1 by omega, ← ho, set_next, List.append_assoc]
      rfl
    have hfold : ∀ v, o ++ v :: List.replicate (a.length - i) 0 = (o ++ [v]) ++ List.replicate (a.length + 1 - (i + 1)) 0 := by
      intro v
      rw [List.append_assoc, Nat.add_sub_add_right]
      rfl
    by_cases hin : (i : Int) < a.length
    · have hia : i < a.length := by omega
      have hil : i < a.length + 1 := by omega
      obtain ⟨k1, k2, k3⟩ := carry1 hc (ha.get hia) (lg_lt hb (i := i))
      have hst := addStep (x := a[i]) (y := lg b i) ho hv
      have hta := val_take_lg (l := a) (i := i)
      have htb := val_take_lg (l := b) (i := i)
      rw [lg_in hia] at hta
      rw [← hta, ← htb] at hst
      have hlen : (o ++ [(c + a[i] + lg b i) % LB]).length = i + 1 := by simp [ho]
      have hlim : Lim (o ++ [(c + a[i] + lg b i) % LB]) := hlo.append (.one (Nat.mod_lt _ LB_pos))
      by_cases hib : (i : Int) < b.length
      · have hib' : i < b.length := by omega
        rw [lg_in hib'] at hst k1 k2 hlen hlim
        simp only [S1, S2, S3, S4, S5, r_idx, r_mks, ev, resultsV, resL, resV, vl, gt, st, sto, fgt, i64, subCV, fill, setCells, mkAgg, allP, frz, frz1, frzL, frzs, kill, kill1, killL, kills, bnd, unV, bsz, toPs, toP, isPure1, pureL, List.elem, List.replicate, Int.reduceLE, Int.reduceLT, ↓reduceIte, reduceCtorEq, Nat.reduceLT, Nat.reduceEqDiff, Nat.reduceAdd, Nat.reduceMul, Nat.reduceLeDiff, Nat.reduceBEq, lm_len, hin, hib, lm_get hia, lm_get hib', w64l (ha.get hia), w64l (hb.get hib'), w64s k3, w64s k2, w32, sh32, Int.natCast_nonneg, Int.toNat_natCast, hil, hget, lm_set, hset, IntWalk.i64_in ((i : Int) + 1) (by omega)]
        rw [hfold]
        refine ih (i + 1, o ++ [(c + a[i] + b[i]) % LB], (c + a[i] + b[i]) / LB) _ ⟨by omega, hlen, hlim, hst, k1⟩ (by simp; omega) ?_
        rfl
      · rw [lg_out (by omega), Nat.add_zero] at hst k1 k2 hlen hlim
        simp only [S1, S2, S3, S4, S5, r_idx, r_mks, ev, resultsV, resL, resV, vl, gt, st, sto, fgt, i64, subCV, fill, setCells, mkAgg, allP, frz, frz1, frzL, frzs, kill, kill1, killL, kills, bnd, unV, bsz, toPs, toP, isPure1, pureL, List.elem, List.replicate, Int.reduceLE, Int.reduceLT, ↓reduceIte, reduceCtorEq, Nat.reduceLT, Nat.reduceEqDiff, Nat.reduceAdd, Nat.reduceMul, Nat.reduceLeDiff, Nat.reduceBEq, lm_len, hin, hib, lm_get hia, w64l (ha.get hia), w64s k3, w32, sh32, Int.natCast_nonneg, Int.toNat_natCast, hil, hget, lm_set, hset, IntWalk.i64_in ((i : Int) + 1) (by omega)]
        rw [hfold]
        refine ih (i + 1, o ++ [(c + a[i]) % LB], (c + a[i]) / LB) _ ⟨by omega, hlen, hlim, hst, k1⟩ (by simp; omega) ?_
        rfl
    · have hia : i = a.length := by omega
      have hil : a.length < a.length + 1 := Nat.lt_succ_self _
      subst hia
      have hcl : c % LB = c := Nat.mod_eq_of_lt (by unfold LB; omega)
      have hfin : o ++ c :: List.replicate (a.length - a.length) 0 = o ++ [c] := by simp
      have hval : val (o ++ [c]) = val a + val b := by
        rw [val_append, val_one, ho, hv, List.take_length, List.take_of_length_le hle]
      have hlim : Lim (o ++ [c]) := hlo.append (.one (by unfold LB; omega))
      have htr := p144 hlim (by simp; omega)
      rw [hval] at htr
      simp only [S1, S2, S3, S4, S5, r_idx, r_mks, ev, resultsV, resL, resV, vl, gt, st, sto, fgt, i64, subCV, fill, setCells, mkAgg, allP, frz, frz1, frzL, frzs, kill, kill1, killL, kills, bnd, unV, bsz, toPs, toP, isPure1, pureL, List.elem, List.replicate, Int.reduceLE, Int.reduceLT, ↓reduceIte, reduceCtorEq, Nat.reduceLT, Nat.reduceEqDiff, Nat.reduceAdd, Nat.reduceMul, Nat.reduceLeDiff, Nat.reduceBEq, lm_len, hin, w32, hcl, Int.natCast_nonneg, Int.toNat_natCast, hil, hget, lm_set, hset]
      rw [hfin, kf_own htr rfl (by rw [lm_len]; simp; omega)]
      simp only [S1, S2, S3, S4, S5, r_idx, r_mks, ev, resultsV, resL, resV, vl, gt, st, sto, fgt, i64, subCV, fill, setCells, mkAgg, allP, frz, frz1, frzL, frzs, kill, kill1, killL, kills, bnd, unV, bsz, toPs, toP, isPure1, pureL, List.elem, List.replicate, Int.reduceLE, Int.reduceLT, ↓reduceIte, reduceCtorEq, Nat.reduceLT, Nat.reduceEqDiff, Nat.reduceAdd, Nat.reduceMul, Nat.reduceLeDiff, Nat.reduceBEq]
      rfl

/-- Add -/
theorem p176 {a b : List Nat} (ha : Lim a) (hb : Lim b) (hna : a.length ≤ 1099511627775) (hnb : b.length ≤ 1099511627775) : Pu rp 176 [.sl (lm a), .sl (lm b)] (.p (.sl (lm (dgl (val a + val b))))) := by
  rcases Nat.lt_or_ge a.length b.length with h | h
  · rw [Nat.add_comm]; exact p176a hb ha (Nat.le_of_lt h) hnb (.inr ⟨rfl, rfl, h⟩)
  · exact p176a ha hb h hna (.inl ⟨rfl, rfl⟩)
end Go.Proofs.Ytdieenbfdeaffaa.VBn

namespace Go.Proofs.Ytdieenbfdeaffaa.VBn
open Go Vpi
set_option maxRecDepth 100000
set_option linter.unusedSimpArgs false
set_option linter.unusedVariables false

theorem p63 : ((2 : Int) ^ min (Int.toNat 63) IntKind.u64.bits) = 9223372036854775808 := by decide

theorem subStep {x y w : Nat} (hx : x < LB) (hy : y < LB) (hw : w ≤ 1) : ∃ r w' : Nat, r < LB ∧ w' ≤ 1 ∧ r + y + w = x + w' * LB ∧
    IntKind.u32.wrap (IntKind.u64.wrap (IntKind.u64.wrap ((x : Int) - (w : Int)) - (y : Int))) = (r : Int) ∧ (IntKind.u64.wrap (IntKind.u64.wrap ((x : Int) - (w : Int)) - (y : Int))).fdiv (2 ^ min (Int.toNat 63) IntKind.u64.bits) = (w' : Int) := by
  rw [p63, IntKind.wrap_u64, IntKind.wrap_u64, IntKind.wrap_u32, Int.fdiv_eq_ediv_of_nonneg _ (by decide)]
  unfold LB at *
  by_cases h : w + y ≤ x
  · exact ⟨x - w - y, 0, by omega, by omega, by omega, by omega, by omega⟩
  · exact ⟨x + 4294967296 - w - y, 1, by omega, by omega, by omega, by omega, by omega⟩

theorem subStep0 {x w : Nat} (hx : x < LB) (hw : w ≤ 1) : ∃ r w' : Nat, r < LB ∧ w' ≤ 1 ∧ r + 0 + w = x + w' * LB ∧
    IntKind.u32.wrap (IntKind.u64.wrap ((x : Int) - (w : Int))) = (r : Int) ∧ (IntKind.u64.wrap ((x : Int) - (w : Int))).fdiv (2 ^ min (Int.toNat 63) IntKind.u64.bits) = (w' : Int) := by
  rw [p63, IntKind.wrap_u64, IntKind.wrap_u32, Int.fdiv_eq_ediv_of_nonneg _ (by decide)]
  unfold LB at *
  by_cases h : w ≤ x
  · exact ⟨x - w, 0, by omega, by omega, by omega, by omega, by omega⟩
  · exact ⟨x + 4294967296 - w, 1, by omega, by omega, by omega, by omega, by omega⟩

theorem subNext {o : List Nat} {A B w w' r x y i : Nat} (ho : o.length = i) (h : val o + B = A + LB ^ i * w) (hr : r + y + w = x + w' * LB) : val (o ++ [r]) + (B + LB ^ i * y) = A + LB ^ i * x + LB ^ (i + 1) * w' := by
  rw [val_append, ho, val_one, Nat.pow_succ]
  have h2 : LB ^ i * (r + y + w) = LB ^ i * (x + w' * LB) := by rw [hr]
  simp only [Nat.mul_add] at h2
  rw [Nat.mul_comm w' LB, ← Nat.mul_assoc] at h2
  omega

/-- less -/
theorem p201 {a b : List Nat} (ha : Lim a) (hb : Lim b) (hle : b.length ≤ a.length) (hab : val b ≤ val a) (hna : a.length ≤ 1099511627775) :
    Pu rp 201 [.sl (lm a), .sl (lm b)] (.p (.sl (lm (dgl (val a - val b))))) := by
  refine pu_of rp201 ?_
  have m1 : ((4 : Nat) : Int) * (a.length : Int) ≤ 281474976710656 := by omega
  have m2 : (a.length : Int) ≤ 9223372036854775807 := by omega
  simp only [f201, args0, S1, S2, S3, S4, S5, r_idx, r_mks, ev, resultsV, resL, resV, vl, gt, st, sto, fgt, i64, subCV, fill, setCells, mkAgg, allP, frz, frz1, frzL, frzs, kill, kill1, killL, kills, bnd, unV, bsz, toPs, toP, isPure1, pureL, List.elem, List.replicate, Int.reduceLE, Int.reduceLT, ↓reduceIte, reduceCtorEq, Nat.reduceLT, Nat.reduceEqDiff, Nat.reduceAdd, Nat.reduceMul, Nat.reduceLeDiff, Nat.reduceBEq, lm_len, m1, m2, Int.natCast_nonneg, Int.toNat_natCast, Int.le_refl, lm_rep]
  refine loop_rule (β := Nat × List Nat × Nat) (fun t => ([(0, .p (.sl (lm a))), (1, .p (.sl (lm b))), (5, .own 0 0 a.length), (6, .p (.int .u64 (t.2.2 : Int))), (13, i64 a.length), (14, i64 t.1)], [.prow 1 (lm (t.2.1 ++ List.replicate (a.length - t.1) 0))]))
    (fun t => t.1 ≤ a.length ∧ t.2.1.length = t.1 ∧ Lim t.2.1 ∧ val t.2.1 + val (b.take t.1) = val (a.take t.1) + LB ^ t.1 * t.2.2 ∧ t.2.2 ≤ 1) (fun t => a.length - t.1) ((0, [], 0) : Nat × List Nat × Nat) rfl rfl ⟨Nat.zero_le _, rfl, (fun _ hx => nomatch hx), rfl, Nat.zero_le _⟩ ?_
  rintro ⟨i, o, w⟩ ⟨hi, ho, hlo, hv, hw⟩ ih
  simp only [] at hi ho hlo hv hw ih ⊢
  by_cases hin : (i : Int) < a.length
  · have hia : i < a.length := by omega
    have hget : (lm (o ++ List.replicate (a.length - i) 0))[i]? = some (.int .u32 0) := by
      have : (o ++ List.replicate (a.length - i) 0)[i]? = some 0 := by rw [show a.length - i = (a.length - i - 1) + 1 by omega, List.getElem?_append_right (by omega), ho, Nat.sub_self]; rfl
      exact lm_get? this
    have hset : ∀ v, (o ++ List.replicate (a.length - i) 0).set i v = o ++ v :: List.replicate (a.length - (i + 1)) 0 := by
      intro v
      rw [show a.length - i = (a.length - (i + 1)) + 1 by omega, ← ho, set_next, List.append_assoc]
      rfl
    have hfold : ∀ v, o ++ v :: List.replicate (a.length - (i + 1)) 0 = (o ++ [v]) ++ List.replicate (a.length - (i + 1)) 0 := by
      intro v
      rw [List.append_assoc]
      rfl
    have hta := val_take_lg (l := a) (i := i)
    have htb := val_take_lg (l := b) (i := i)
    rw [lg_in hia] at hta
    by_cases hib : (i : Int) < b.length
    · have hib' : i < b.length := by omega
      rw [lg_in hib'] at htb
      obtain ⟨r, w', hr, hw', hrel, e32, e63⟩ := subStep (ha.get hia) (hb.get hib') hw
      have hst := subNext ho hv hrel
      rw [← hta, ← htb] at hst
      simp only [S1, S2, S3, S4, S5, r_idx, r_mks, ev, resultsV, resL, resV, vl, gt, st, sto, fgt, i64, subCV, fill, setCells, mkAgg, allP, frz, frz1, frzL, frzs, kill, kill1, killL, kills, bnd, unV, bsz, toPs, toP, isPure1, pureL, List.elem, List.replicate, Int.reduceLE, Int.reduceLT, ↓reduceIte, reduceCtorEq, Nat.reduceLT, Nat.reduceEqDiff, Nat.reduceAdd, Nat.reduceMul, Nat.reduceLeDiff, Nat.reduceBEq, lm_len, hin, hib, lm_get hia, lm_get hib', w64l (ha.get hia), w64l (hb.get hib'), e32, e63, Int.natCast_nonneg, Int.toNat_natCast, hia, hget, lm_set, hset, IntWalk.i64_in ((i : Int) + 1) (by omega)]
      rw [hfold]
      refine ih (i + 1, o ++ [r], w') _ ⟨by omega, by simp [ho], hlo.append (.one hr), hst, hw'⟩ (by simp; omega) ?_
      rfl
    · rw [lg_out (by omega)] at htb
      obtain ⟨r, w', hr, hw', hrel, e32, e63⟩ := subStep0 (ha.get hia) hw
      have hst := subNext ho hv hrel
      rw [← hta, ← htb] at hst
      simp only [S1, S2, S3, S4, S5, r_idx, r_mks, ev, resultsV, resL, resV, vl, gt, st, sto, fgt, i64, subCV, fill, setCells, mkAgg, allP, frz, frz1, frzL, frzs, kill, kill1, killL, kills, bnd, unV, bsz, toPs, toP, isPure1, pureL, List.elem, List.replicate, Int.reduceLE, Int.reduceLT, ↓reduceIte, reduceCtorEq, Nat.reduceLT, Nat.reduceEqDiff, Nat.reduceAdd, Nat.reduceMul, Nat.reduceLeDiff, Nat.reduceBEq, lm_len, hin, hib, lm_get hia, w64l (ha.get hia), e32, e63, Int.natCast_nonneg, Int.toNat_natCast, hia, hget, lm_set, hset, IntWalk.i64_in ((i : Int) + 1) (by omega)]
      rw [hfold]
      refine ih (i + 1, o ++ [r], w') _ ⟨by omega, by simp [ho], hlo.append (.one hr), hst, hw'⟩ (by simp; omega) ?_
      rfl
  · have hia : i = a.length := by omega
    subst hia
    have hval : val o = val a - val b := by
      rw [List.take_length, List.take_of_length_le hle] at hv
      have h1 := val_lt hlo
      rw [ho] at h1
      rcases Nat.lt_or_ge w 1 with h2 | h2
      · obtain rfl : w = 0 := by omega
        rw [Nat.mul_zero] at hv
        omega
      · obtain rfl : w = 1 := by omega
        rw [Nat.mul_one] at hv
        omega
    have htr := p144 hlo (by omega)
    rw [hval] at htr
    have hfin : o ++ List.replicate (a.length - a.length) 0 = o := by simp
    rw [hfin]
    simp only [S1, S2, S3, S4, S5, r_idx, r_mks, ev, resultsV, resL, resV, vl, gt, st, sto, fgt, i64, subCV, fill, setCells, mkAgg, allP, frz, frz1, frzL, frzs, kill, kill1, killL, kills, bnd, unV, bsz, toPs, toP, isPure1, pureL, List.elem, List.replicate, Int.reduceLE, Int.reduceLT, ↓reduceIte, reduceCtorEq, Nat.reduceLT, Nat.reduceEqDiff, Nat.reduceAdd, Nat.reduceMul, Nat.reduceLeDiff, Nat.reduceBEq, lm_len, hin]
    rw [kf_own htr rfl (by rw [lm_len, ho])]
    simp only [S1, S2, S3, S4, S5, r_idx, r_mks, ev, resultsV, resL, resV, vl, gt, st, sto, fgt, i64, subCV, fill, setCells, mkAgg, allP, frz, frz1, frzL, frzs, kill, kill1, killL, kills, bnd, unV, bsz, toPs, toP, isPure1, pureL, List.elem, List.replicate, Int.reduceLE, Int.reduceLT, ↓reduceIte, reduceCtorEq, Nat.reduceLT, Nat.reduceEqDiff, Nat.reduceAdd, Nat.reduceMul, Nat.reduceLeDiff, Nat.reduceBEq]
    rfl

/-- Sub -/
theorem p178 {a b : List Nat} (ha : Lim a) (hb : Lim b) (hna : a.length ≤ 1099511627775) (hnb : b.length ≤ 1099511627775) (hab : val b ≤ val a) :
    Pu rp 178 [.sl (lm a), .sl (lm b)] (.tup [.p (.sl (lm (dgl (val a - val b)))), .p (.int .i64 0)]) := by
  refine pu_of rp178 ?_
  have hc : ¬ cmpI (val a) (val b) < 0 := by unfold cmpI; rw [if_neg (by omega)]; split <;> decide
  have hl : (dgl (val b)).length ≤ (dgl (val a)).length := by
    rcases Nat.lt_or_ge (dgl (val a)).length (dgl (val b)).length with h | h
    · have := dgl_lt_len h; omega
    · exact h
  have hda : (dgl (val a)).length ≤ a.length := dgl_len (val_lt ha)
  have h201 := p201 (dgl_lim (val a)) (dgl_lim (val b)) hl (by rw [val_dgl, val_dgl]; exact hab) (by omega)
  rw [val_dgl, val_dgl] at h201
  simp only [f178, args0, S1, S2, S3, S4, S5, r_idx, r_mks, ev, resultsV, resL, resV, vl, gt, st, sto, fgt, i64, subCV, fill, setCells, mkAgg, allP, frz, frz1, frzL, frzs, kill, kill1, killL, kills, bnd, unV, bsz, toPs, toP, isPure1, pureL, List.elem, List.replicate, Int.reduceLE, Int.reduceLT, ↓reduceIte, reduceCtorEq, Nat.reduceLT, Nat.reduceEqDiff, Nat.reduceAdd, Nat.reduceMul, Nat.reduceLeDiff, Nat.reduceBEq, kp2 (p177 ha hb (by omega) (by omega)), hc, kp1 (p144 ha (by omega)), kp1 (p144 hb (by omega)), kp2 h201]
  exact back_t2 back1_p back1_p
end Go.Proofs.Ytdieenbfdeaffaa.VBn

namespace Go.Proofs.Ytdieenbfdeaffaa.VBn
open Go Vpi
set_option maxRecDepth 100000
set_option linter.unusedSimpArgs false
set_option linter.unusedVariables false

theorem rp147 : rp 147 = some f147 := rfl

theorem val_set : ∀ {O : List Nat} {k x : Nat} (h : k < O.length), val (O.set k x) + LB ^ k * O[k] = val O + LB ^ k * x
  | [], k, x, h => by cases h
  | y :: O, 0, x, h => by simp [val]; omega
  | y :: O, k + 1, x, h => by
    have hk : k < O.length := by simpa using h
    have ih := val_set (O := O) (k := k) (x := x) hk
    simp only [List.set_cons_succ, val, List.getElem_cons_succ, Nat.pow_succ]
    have h2 : LB * (val (O.set k x) + LB ^ k * O[k]) = LB * (val O + LB ^ k * x) := by rw [ih]
    simp only [Nat.mul_add, ← Nat.mul_assoc] at h2
    rw [Nat.mul_comm LB (LB ^ k)] at h2
    omega

theorem lim_set {O : List Nat} (h : Lim O) {k x : Nat} (hx : x < LB) : Lim (O.set k x) := fun y hy => by
  rcases List.mem_or_eq_of_mem_set hy with h1 | rfl
  · exact h y h1
  · exact hx

theorem mulStep {O : List Nat} {X Y i j c x y : Nat} (hk : i + j < O.length) (h : val O + LB ^ (i + j) * c = X + LB ^ i * (x * Y)) :
    val (O.set (i + j) ((c + (x * y + O[i + j])) % LB)) + LB ^ (i + j + 1) * ((c + (x * y + O[i + j])) / LB) = X + LB ^ i * (x * (Y + LB ^ j * y)) := by
  have h1 := val_set (x := (c + (x * y + O[i + j])) % LB) hk
  have h2 := Nat.mod_add_div (c + (x * y + O[i + j])) LB
  have h3 : LB ^ (i + j) * ((c + (x * y + O[i + j])) % LB) + LB ^ (i + j + 1) * ((c + (x * y + O[i + j])) / LB) = LB ^ (i + j) * c + LB ^ (i + j) * (x * y) + LB ^ (i + j) * O[i + j] := by
    rw [Nat.pow_succ, Nat.mul_assoc (LB ^ (i + j)) LB, ← Nat.mul_add, h2, Nat.mul_add, Nat.mul_add, Nat.add_assoc]
  have h4 : LB ^ i * (x * (Y + LB ^ j * y)) = LB ^ i * (x * Y) + LB ^ (i + j) * (x * y) := by
    rw [Nat.mul_add, Nat.mul_add, Nat.pow_add, Nat.mul_left_comm x, Nat.mul_assoc]
  rw [h4]
  omega

theorem mulBound {c x y o : Nat} (hc : c < LB) (hx : x < LB) (hy : y < LB) (ho : o < LB) : x * y + o < 18446744073709551616 ∧ x * y < 18446744073709551616 ∧ c + (x * y + o) < 18446744073709551616 ∧ (c + (x * y + o)) / LB < LB := by
  have h : x * y ≤ (LB - 1) * (LB - 1) := Nat.mul_le_mul (by omega) (by omega)
  have h2 : (LB - 1) * (LB - 1) = 18446744065119617025 := by decide
  rw [h2] at h
  have h3 : c + (x * y + o) < 18446744073709551616 := by unfold LB at *; omega
  refine ⟨by unfold LB at *; omega, by omega, h3, ?_⟩
  unfold LB at *
  omega

/-- what both multiplications come to -/
structure MulI (x y : List Nat) (i : Nat) (O : List Nat) : Prop where
  len : O.length = x.length + y.length
  lim : Lim O
  v : val O = val (x.take i) * val y
  tail : ∀ k, i + y.length ≤ k → k < O.length → O[k]? = some 0

structure MulJ (x y : List Nat) (i j : Nat) (O : List Nat) (c : Nat) : Prop where
  len : O.length = x.length + y.length
  lim : Lim O
  cl : c < LB
  v : val O + LB ^ (i + j) * c = val (x.take i) * val y + LB ^ i * (lg x i * val (y.take j))
  tail : ∀ k, i + y.length ≤ k → k < O.length → O[k]? = some 0

theorem MulI.start {x y : List Nat} : MulI x y 0 (List.replicate (x.length + y.length) 0) where
  len := by simp
  lim := .rep
  v := by rw [val_rep, List.take_zero]; simp [val]
  tail := fun k _ h => by rw [List.length_replicate] at h; simp [h]

theorem MulI.row {x y O : List Nat} {i : Nat} (h : MulI x y i O) : MulJ x y i 0 O 0 where
  len := h.len
  lim := h.lim
  cl := LB_pos
  v := by rw [h.v, List.take_zero]; simp [val]
  tail := h.tail

theorem MulJ.step {x y O : List Nat} {i j c : Nat} (hx : Lim x) (hy : Lim y) (h : MulJ x y i j O c) (hi : i < x.length) (hj : j < y.length) (hk : i + j < O.length) :
    MulJ x y i (j + 1) (O.set (i + j) ((c + (x[i] * y[j] + O[i + j])) % LB)) ((c + (x[i] * y[j] + O[i + j])) / LB) where
  len := by rw [List.length_set]; exact h.len
  lim := lim_set h.lim (Nat.mod_lt _ LB_pos)
  cl := (mulBound h.cl (hx.get hi) (hy.get hj) (h.lim.get hk)).2.2.2
  v := by
    have hv := h.v
    rw [lg_in hi] at hv ⊢
    rw [val_take_succ hj]
    exact mulStep hk hv
  tail := fun k h1 h2 => by
    rw [List.length_set] at h2
    rw [List.getElem?_set_ne (by omega)]
    exact h.tail k h1 h2

theorem MulJ.done {x y O : List Nat} {i c : Nat} (h : MulJ x y i y.length O c) (hi : i < x.length) : MulI x y (i + 1) (O.set (i + y.length) c) where
  len := by rw [List.length_set]; exact h.len
  lim := lim_set h.lim h.cl
  v := by
    have hk : i + y.length < O.length := by rw [h.len]; omega
    have h0 := h.tail (i + y.length) (Nat.le_refl _) hk
    rw [List.getElem?_eq_getElem hk, Option.some.injEq] at h0
    have h1 := val_set (x := c) hk
    rw [h0, Nat.mul_zero, Nat.add_zero, h.v, List.take_length] at h1
    rw [h1, val_take_lg, Nat.add_mul, Nat.mul_assoc]
  tail := fun k h1 h2 => by
    rw [List.length_set] at h2
    rw [List.getElem?_set_ne (by omega)]
    exact h.tail k (by omega) h2

end Go.Proofs.Ytdieenbfdeaffaa.VBn

namespace Go.Proofs.Ytdieenbfdeaffaa.VBn
open Go Vpi
set_option maxRecDepth 100000
set_option linter.unusedSimpArgs false
set_option linter.unusedVariables false

theorem rp148 : rp 148 = some f148 := rfl
theorem rp185 : rp 185 = some f185 := rfl
theorem rp184 : rp 184 = some f184 := rfl
theorem rp186 : rp 186 = some f186 := rfl
theorem rp188 : rp 188 = some f188 := rfl
theorem rp119 : rp 119 = some f119 := rfl

/-- how many bits -/
def bl (x : Nat) : Nat := if x = 0 then 0 else Nat.log2 x + 1
theorem bl_zero : bl 0 = 0 := rfl
theorem bl_eq {x L : Nat} (h0 : x ≠ 0) (h1 : 2 ^ (L - 1) ≤ x) (h2 : x < 2 ^ L) : bl x = L := by
  unfold bl
  rw [if_neg h0]
  have a := (Nat.log2_lt h0).2 h2
  have b := (Nat.le_log2 h0).2 h1
  omega
theorem bl_spec {x : Nat} (h0 : x ≠ 0) : 2 ^ (bl x - 1) ≤ x ∧ x < 2 ^ bl x ∧ 1 ≤ bl x := by
  unfold bl
  rw [if_neg h0]
  exact ⟨(Nat.le_log2 h0).1 (Nat.le_refl _), (Nat.log2_lt h0).1 (Nat.lt_succ_self _), by omega⟩

def btab : List Nat := [0, 1, 2, 2, 3, 3, 3, 3, 4, 4, 4, 4, 4, 4, 4, 4, 5, 5, 5, 5, 5, 5, 5, 5, 5, 5, 5, 5, 5, 5, 5, 5, 6, 6, 6, 6, 6, 6, 6, 6, 6, 6, 6, 6, 6, 6, 6, 6, 6, 6, 6, 6, 6, 6, 6, 6, 6, 6, 6, 6, 6, 6, 6, 6, 7, 7, 7, 7, 7, 7, 7, 7, 7, 7, 7, 7, 7, 7, 7, 7, 7, 7, 7, 7, 7, 7, 7, 7, 7, 7, 7, 7, 7, 7, 7, 7, 7, 7, 7, 7, 7, 7, 7, 7, 7, 7, 7, 7, 7, 7, 7, 7, 7, 7, 7, 7, 7, 7, 7, 7, 7, 7, 7, 7, 7, 7, 7, 7, 8, 8, 8, 8, 8, 8, 8, 8, 8, 8, 8, 8, 8, 8, 8, 8, 8, 8, 8, 8, 8, 8, 8, 8, 8, 8, 8, 8, 8, 8, 8, 8, 8, 8, 8, 8, 8, 8, 8, 8, 8, 8, 8, 8, 8, 8, 8, 8, 8, 8, 8, 8, 8, 8, 8, 8, 8, 8, 8, 8, 8, 8, 8, 8, 8, 8, 8, 8, 8, 8, 8, 8, 8, 8, 8, 8, 8, 8, 8, 8, 8, 8, 8, 8, 8, 8, 8, 8, 8, 8, 8, 8, 8, 8, 8, 8, 8, 8, 8, 8, 8, 8, 8, 8, 8, 8, 8, 8, 8, 8, 8, 8, 8, 8, 8, 8, 8, 8, 8, 8, 8, 8, 8, 8, 8, 8, 8, 8]
theorem tab_all : ((List.range 256).all fun x => match btab[x]? with | some t => decide (x < 2 ^ t) && (x == 0 || (decide (2 ^ (t - 1) ≤ x) && decide (1 ≤ t))) && decide (t ≤ 8) && (x != 0 || t == 0) | none => false) = true := by decide +kernel
theorem tab_get {x : Nat} (h : x < 256) : btab[x]? = some (bl x) ∧ bl x ≤ 8 := by
  have h1 := List.all_eq_true.1 tab_all x (List.mem_range.2 h)
  split at h1
  · rename_i t ht
    simp only [Bool.and_eq_true, decide_eq_true_eq, Bool.or_eq_true, beq_iff_eq, bne_iff_ne] at h1
    obtain ⟨⟨⟨h2, h3⟩, h4⟩, h5⟩ := h1
    have : bl x = t := by
      by_cases hx : x = 0
      · subst hx
        rcases h5 with h5 | h5
        · exact absurd rfl h5
        · rw [bl_zero, h5]
      · rcases h3 with h3 | h3
        · exact absurd h3 hx
        · exact bl_eq hx h3.1 h2
    rw [this]
    exact ⟨ht, h4⟩
  · cases h1

theorem r_idx_of {rs : List RRes} {base : Nat} {sl d : Option Nat} {l : List LOp} {dr : Dr} {ks : List KI} {e : Env} {σ : Store} {Q : CV → Store → Prop} {tb : List Nat} {x : Opd} {i t : Nat} (hi : vl e x = .p (.int .u8 (i : Int))) (ht : tb[i]? = some t) :
    ExR rp rs base (⟨d, none, sl, .idx tb x⟩ :: l) dr ks e σ Q = ExR rp rs base l dr ks (sto d (.p (.int .u8 (t : Int))) e) σ Q := by
  rw [r_idx]
  simp only [ev, hi, num_int, Int.natCast_nonneg, if_true, Int.toNat_natCast, ht, ke_some]

theorem bl_shift {x k : Nat} (h : x / 2 ^ k ≠ 0) : bl x = k + bl (x / 2 ^ k) := by
  obtain ⟨h1, h2, h3⟩ := bl_spec h
  have hx : x ≠ 0 := by rintro rfl; simp at h
  have hp := Nat.pow_pos (n := k) (show 0 < 2 by decide)
  refine bl_eq hx ?_ ?_
  · rw [show k + bl (x / 2 ^ k) - 1 = (bl (x / 2 ^ k) - 1) + k by omega, Nat.pow_add]
    exact Nat.le_trans (Nat.mul_le_mul_right _ h1) (Nat.div_mul_le_self _ _)
  · rw [Nat.add_comm, Nat.pow_add]
    exact (Nat.div_lt_iff_lt_mul hp).1 h2

theorem p148 {x : Nat} (h : x < LB) : Pu rp 148 [.int .u32 (x : Int)] (.p (.int .i64 (bl x : Nat))) := by
  refine pu_of rp148 ?_
  have q16 : ((2 : Int) ^ min (Int.toNat 16) IntKind.u32.bits) = 65536 := by decide
  have q8 : ((2 : Int) ^ min (Int.toNat 8) IntKind.u32.bits) = 256 := by decide
  have s16 : ((x : Int).fdiv 65536) = ((x / 65536 : Nat) : Int) := by rw [Int.fdiv_eq_ediv_of_nonneg _ (by decide)]; rfl
  have fin : ∀ {y k : Nat}, y < 256 → k ≤ 24 → IntKind.u8.wrap (y : Int) = (y : Int) ∧ IntKind.i64.wrap ((bl y : Nat) : Int) = ((bl y : Nat) : Int) ∧ IntKind.i64.wrap ((k : Int) + ((bl y : Nat) : Int)) = ((k + bl y : Nat) : Int) := by
    intro y k hy hk
    have := (tab_get hy).2
    exact ⟨IntWalk.u8_in _ (by omega), IntWalk.i64_in _ (by omega), by rw [IntWalk.i64_in _ (by omega)]; omega⟩
  unfold LB at h
  by_cases h1 : (x : Int) ≥ 65536
  · have s8 : (((x / 65536 : Nat) : Int).fdiv 256) = ((x / 65536 / 256 : Nat) : Int) := by rw [Int.fdiv_eq_ediv_of_nonneg _ (by decide)]; rfl
    by_cases h2 : ((x / 65536 : Nat) : Int) ≥ 256
    · have hy : x / 65536 / 256 < 256 := by omega
      obtain ⟨f1, f2, f3⟩ := fin (k := 24) hy (by decide)
      have w8 : IntKind.i64.wrap (16 + 8) = ((24 : Nat) : Int) := by decide
      simp only [f148, args0, S1, S2, S3, S4, S5, r_mks, ev, resultsV, resL, resV, vl, gt, st, sto, fgt, i64, subCV, fill, setCells, mkAgg, allP, frz, frz1, frzL, frzs, kill, kill1, killL, kills, bnd, unV, bsz, toPs, toP, isPure1, pureL, List.elem, List.replicate, Int.reduceLE, Int.reduceLT, ↓reduceIte, reduceCtorEq, Nat.reduceLT, Nat.reduceEqDiff, Nat.reduceAdd, Nat.reduceMul, Nat.reduceLeDiff, Nat.reduceBEq, h1, q16, s16, h2, q8, s8, w8, f1, Int.natCast_nonneg, Int.toNat_natCast]
      refine Eq.mpr (r_idx_of rfl (tab_get hy).1) ?_
      simp only [S1, S2, S3, S4, S5, r_idx, r_mks, ev, resultsV, resL, resV, vl, gt, st, sto, fgt, i64, subCV, fill, setCells, mkAgg, allP, frz, frz1, frzL, frzs, kill, kill1, killL, kills, bnd, unV, bsz, toPs, toP, isPure1, pureL, List.elem, List.replicate, Int.reduceLE, Int.reduceLT, ↓reduceIte, reduceCtorEq, Nat.reduceLT, Nat.reduceEqDiff, Nat.reduceAdd, Nat.reduceMul, Nat.reduceLeDiff, Nat.reduceBEq, f2, f3]
      have e : bl x = 24 + bl (x / 65536 / 256) := by
        have := bl_shift (x := x) (k := 24) (by rw [show (2 : Nat) ^ 24 = 65536 * 256 by decide, ← Nat.div_div_eq_div_mul]; omega)
        rwa [show (2 : Nat) ^ 24 = 65536 * 256 by decide, ← Nat.div_div_eq_div_mul] at this
      rw [e]
      rfl
    · have hy : x / 65536 < 256 := by omega
      obtain ⟨f1, f2, f3⟩ := fin (k := 16) hy (by decide)
      have f3' : IntKind.i64.wrap (16 + ((bl (x / 65536) : Nat) : Int)) = ((16 + bl (x / 65536) : Nat) : Int) := f3
      simp only [f148, args0, S1, S2, S3, S4, S5, r_mks, ev, resultsV, resL, resV, vl, gt, st, sto, fgt, i64, subCV, fill, setCells, mkAgg, allP, frz, frz1, frzL, frzs, kill, kill1, killL, kills, bnd, unV, bsz, toPs, toP, isPure1, pureL, List.elem, List.replicate, Int.reduceLE, Int.reduceLT, ↓reduceIte, reduceCtorEq, Nat.reduceLT, Nat.reduceEqDiff, Nat.reduceAdd, Nat.reduceMul, Nat.reduceLeDiff, Nat.reduceBEq, h1, q16, s16, h2, f1, Int.natCast_nonneg, Int.toNat_natCast]
      refine Eq.mpr (r_idx_of rfl (tab_get hy).1) ?_
      simp only [S1, S2, S3, S4, S5, r_idx, r_mks, ev, resultsV, resL, resV, vl, gt, st, sto, fgt, i64, subCV, fill, setCells, mkAgg, allP, frz, frz1, frzL, frzs, kill, kill1, killL, kills, bnd, unV, bsz, toPs, toP, isPure1, pureL, List.elem, List.replicate, Int.reduceLE, Int.reduceLT, ↓reduceIte, reduceCtorEq, Nat.reduceLT, Nat.reduceEqDiff, Nat.reduceAdd, Nat.reduceMul, Nat.reduceLeDiff, Nat.reduceBEq, f2, f3']
      have e : bl x = 16 + bl (x / 65536) := bl_shift (x := x) (k := 16) (by rw [show (2 : Nat) ^ 16 = 65536 by decide]; omega)
      rw [e]
      rfl
  · have s8 : (((x : Nat) : Int).fdiv 256) = ((x / 256 : Nat) : Int) := by rw [Int.fdiv_eq_ediv_of_nonneg _ (by decide)]; rfl
    by_cases h2 : (x : Int) ≥ 256
    · have hy : x / 256 < 256 := by omega
      obtain ⟨f1, f2, f3⟩ := fin (k := 8) hy (by decide)
      have w8 : IntKind.i64.wrap (0 + 8) = ((8 : Nat) : Int) := by decide
      simp only [f148, args0, S1, S2, S3, S4, S5, r_mks, ev, resultsV, resL, resV, vl, gt, st, sto, fgt, i64, subCV, fill, setCells, mkAgg, allP, frz, frz1, frzL, frzs, kill, kill1, killL, kills, bnd, unV, bsz, toPs, toP, isPure1, pureL, List.elem, List.replicate, Int.reduceLE, Int.reduceLT, ↓reduceIte, reduceCtorEq, Nat.reduceLT, Nat.reduceEqDiff, Nat.reduceAdd, Nat.reduceMul, Nat.reduceLeDiff, Nat.reduceBEq, h1, h2, q8, s8, w8, f1, Int.natCast_nonneg, Int.toNat_natCast]
      refine Eq.mpr (r_idx_of rfl (tab_get hy).1) ?_
      simp only [S1, S2, S3, S4, S5, r_idx, r_mks, ev, resultsV, resL, resV, vl, gt, st, sto, fgt, i64, subCV, fill, setCells, mkAgg, allP, frz, frz1, frzL, frzs, kill, kill1, killL, kills, bnd, unV, bsz, toPs, toP, isPure1, pureL, List.elem, List.replicate, Int.reduceLE, Int.reduceLT, ↓reduceIte, reduceCtorEq, Nat.reduceLT, Nat.reduceEqDiff, Nat.reduceAdd, Nat.reduceMul, Nat.reduceLeDiff, Nat.reduceBEq, f2, f3]
      have e : bl x = 8 + bl (x / 256) := bl_shift (x := x) (k := 8) (by rw [show (2 : Nat) ^ 8 = 256 by decide]; omega)
      rw [e]
      rfl
    · have hy : x < 256 := by omega
      obtain ⟨f1, f2, f3⟩ := fin (k := 0) hy (by decide)
      have f3' : IntKind.i64.wrap (0 + ((bl x : Nat) : Int)) = ((0 + bl x : Nat) : Int) := f3
      simp only [f148, args0, S1, S2, S3, S4, S5, r_mks, ev, resultsV, resL, resV, vl, gt, st, sto, fgt, i64, subCV, fill, setCells, mkAgg, allP, frz, frz1, frzL, frzs, kill, kill1, killL, kills, bnd, unV, bsz, toPs, toP, isPure1, pureL, List.elem, List.replicate, Int.reduceLE, Int.reduceLT, ↓reduceIte, reduceCtorEq, Nat.reduceLT, Nat.reduceEqDiff, Nat.reduceAdd, Nat.reduceMul, Nat.reduceLeDiff, Nat.reduceBEq, h1, h2, f1, Int.natCast_nonneg, Int.toNat_natCast]
      refine Eq.mpr (r_idx_of rfl (tab_get hy).1) ?_
      simp only [S1, S2, S3, S4, S5, r_idx, r_mks, ev, resultsV, resL, resV, vl, gt, st, sto, fgt, i64, subCV, fill, setCells, mkAgg, allP, frz, frz1, frzL, frzs, kill, kill1, killL, kills, bnd, unV, bsz, toPs, toP, isPure1, pureL, List.elem, List.replicate, Int.reduceLE, Int.reduceLT, ↓reduceIte, reduceCtorEq, Nat.reduceLT, Nat.reduceEqDiff, Nat.reduceAdd, Nat.reduceMul, Nat.reduceLeDiff, Nat.reduceBEq, f2, f3']
      exact back_p

theorem bl_le {x : Nat} (h : x < LB) : bl x ≤ 32 := by
  by_cases h0 : x = 0
  · subst h0; decide
  · obtain ⟨h1, _, _⟩ := bl_spec h0
    rcases Nat.lt_or_ge 32 (bl x) with h2 | h2
    · have : 2 ^ 32 ≤ 2 ^ (bl x - 1) := Nat.pow_le_pow_right (by decide) (by omega)
      unfold LB at h
      omega
    · exact h2

theorem p185 {x : Nat} (h : x < LB) : Pu rp 185 [.int .u32 (x : Int)] (.p (.int .i64 ((32 - bl x : Nat) : Int))) := by
  refine pu_of rp185 ?_
  have hb := bl_le h
  have w : IntKind.i64.wrap (32 - ((bl x : Nat) : Int)) = ((32 - bl x : Nat) : Int) := by rw [IntWalk.i64_in _ (by omega)]; omega
  simp only [f185, args0, S1, S2, S3, S4, S5, r_idx, r_mks, ev, resultsV, resL, resV, vl, gt, st, sto, fgt, i64, subCV, fill, setCells, mkAgg, allP, frz, frz1, frzL, frzs, kill, kill1, killL, kills, bnd, unV, bsz, toPs, toP, isPure1, pureL, List.elem, List.replicate, Int.reduceLE, Int.reduceLT, ↓reduceIte, reduceCtorEq, Nat.reduceLT, Nat.reduceEqDiff, Nat.reduceAdd, Nat.reduceMul, Nat.reduceLeDiff, Nat.reduceBEq, kp1 (p148 h), w]
  rfl
end Go.Proofs.Ytdieenbfdeaffaa.VBn

namespace Go.Proofs.Ytdieenbfdeaffaa.VBn
open Go Vpi
set_option maxRecDepth 100000
set_option linter.unusedSimpArgs false
set_option linter.unusedVariables false

theorem or_add {a b : Nat} {i : Nat} (h : b < 2 ^ i) : a * 2 ^ i ||| b = a * 2 ^ i + b := by
  rw [← Nat.shiftLeft_eq, Nat.shiftLeft_add_eq_or_of_lt h]

theorem or64 {x y : Nat} (hy : y < LB) (h : x * LB + y < 18446744073709551616) : IntKind.u64.wrap ((BitVec.ofInt IntKind.u64.bits ((x * LB : Nat) : Int) ||| BitVec.ofInt IntKind.u64.bits ((y : Nat) : Int)).toNat : Int) = ((x * LB + y : Nat) : Int) := by
  have h1 : (BitVec.ofInt IntKind.u64.bits ((x * LB : Nat) : Int) ||| BitVec.ofInt IntKind.u64.bits ((y : Nat) : Int)).toNat = x * LB + y := by
    rw [BitVec.toNat_or, BitVec.ofInt_natCast, BitVec.ofInt_natCast, BitVec.toNat_ofNat, BitVec.toNat_ofNat]
    have hb : IntKind.u64.bits = 64 := rfl
    rw [hb, Nat.mod_eq_of_lt (by omega), Nat.mod_eq_of_lt (by omega)]
    have : LB = 2 ^ 32 := by decide
    rw [this] at hy ⊢
    exact or_add hy
  rw [h1, w64 h]

theorem shl32 {x : Nat} (h : x < LB) : IntKind.u64.wrap ((x : Int) * 2 ^ min (Int.toNat 32) IntKind.u64.bits) = ((x * LB : Nat) : Int) := by
  have h1 : ((2 : Int) ^ min (Int.toNat 32) IntKind.u64.bits) = 4294967296 := by decide
  rw [h1]
  have : (x : Int) * 4294967296 = ((x * LB : Nat) : Int) := by unfold LB; omega
  rw [this, w64 (by unfold LB at *; omega)]

theorem quo64 {x y : Nat} (hx : x < 18446744073709551616) : IntKind.u64.wrap ((x : Int).tdiv (y : Int)) = ((x / y : Nat) : Int) := by
  rw [show (x : Int).tdiv (y : Int) = ((x / y : Nat) : Int) from rfl]
  exact w64 (Nat.lt_of_le_of_lt (Nat.div_le_self _ _) hx)
theorem rem64 {x y : Nat} : (x : Int).tmod (y : Int) = ((x % y : Nat) : Int) := rfl

/-- short: the quotient's limbs and the rest, from the top -/
theorem p184 {a : List Nat} {q : Nat} (ha : Lim a) (hq : 0 < q) (hq' : q < LB) (hna : a.length ≤ 1099511627775) :
    Pu rp 184 [.sl (lm a), .int .u32 (q : Int)] (.tup [.p (.sl (lm (dgl (val a / q)))), .p (.int .u32 ((val a % q : Nat) : Int))]) := by
  refine pu_of rp184 ?_
  have m1 : ((4 : Nat) : Int) * (a.length : Int) ≤ 281474976710656 := by omega
  have m2 : (a.length : Int) ≤ 9223372036854775807 := by omega
  have w1 : IntKind.i64.wrap ((a.length : Int) - 1) = (a.length : Int) - 1 := IntWalk.i64_in _ (by omega)
  have hq0 : (q : Int) ≠ 0 := by omega
  simp only [f184, args0, S1, S2, S3, S4, S5, r_idx, r_mks, ev, resultsV, resL, resV, vl, gt, st, sto, fgt, i64, subCV, fill, setCells, mkAgg, allP, frz, frz1, frzL, frzs, kill, kill1, killL, kills, bnd, unV, bsz, toPs, toP, isPure1, pureL, List.elem, List.replicate, Int.reduceLE, Int.reduceLT, ↓reduceIte, reduceCtorEq, Nat.reduceLT, Nat.reduceEqDiff, Nat.reduceAdd, Nat.reduceMul, Nat.reduceLeDiff, Nat.reduceBEq, lm_len, m1, m2, w1, Int.natCast_nonneg, Int.toNat_natCast, Int.le_refl, lm_rep]
  refine loop_rule (β := Nat × List Nat × Nat) (fun t => ([(0, .p (.sl (lm a))), (1, .p (.int .u32 (q : Int))), (6, .own 0 0 a.length), (7, .p (.int .u64 (t.2.2 : Int))), (8, i64 ((t.1 : Int) - 1))], [.prow 1 (lm (List.replicate t.1 0 ++ t.2.1))]))
    (fun t => t.1 ≤ a.length ∧ t.2.1.length = a.length - t.1 ∧ Lim t.2.1 ∧ t.2.2 < q ∧ val (a.drop t.1) = val t.2.1 * q + t.2.2) (fun t => t.1) ((a.length, [], 0) : Nat × List Nat × Nat) rfl (by simp) ⟨Nat.le_refl _, by simp, (fun _ hx => nomatch hx), hq, by simp [val]⟩ ?_
  rintro ⟨n, o, r⟩ ⟨hn, ho, hlo, hr, hv⟩ ih
  simp only [] at hn ho hlo hr hv ih ⊢
  by_cases h0 : ((n : Int) - 1) ≥ 0
  · obtain ⟨m, rfl⟩ : ∃ m, n = m + 1 := ⟨n - 1, by omega⟩
    have hm : m < a.length := hn
    have hi : ((m + 1 : Nat) : Int) - 1 = (m : Int) := by omega
    rw [hi] at h0
    have hw : IntKind.i64.wrap ((m : Int) - 1) = (m : Int) - 1 := IntWalk.i64_in _ (by omega)
    have hrl : r < LB := Nat.lt_trans hr hq'
    have hs : r * LB + a[m] < 18446744073709551616 := by
      have := Nat.mul_le_mul_right LB (show r ≤ LB - 1 by omega)
      have h1 := ha.get hm
      rw [show (LB - 1) * LB = 18446744069414584320 by decide] at this
      unfold LB at *
      omega
    have hdl : (r * LB + a[m]) / q < LB := by
      rw [Nat.div_lt_iff_lt_mul hq]
      have h1 := ha.get hm
      have h2 := Nat.mul_le_mul_right LB (show r + 1 ≤ q from hr)
      rw [Nat.add_mul, Nat.one_mul] at h2
      rw [Nat.mul_comm LB q]
      omega
    have hrep : 0 :: (List.replicate m 0 ++ o) = List.replicate (m + 1) 0 ++ o := rfl
    have hget : (lm (0 :: (List.replicate m 0 ++ o)))[m]? = some (.int .u32 0) := by
      have : (0 :: (List.replicate m 0 ++ o))[m]? = some 0 := by rw [hrep, List.getElem?_append_left (by simp)]; simp
      exact lm_get? this
    have hset : ∀ v, (0 :: (List.replicate m 0 ++ o)).set m v = List.replicate m 0 ++ (v :: o) := by
      intro v
      rw [hrep, List.replicate_succ', List.append_assoc, List.set_append_right _ _ (by simp)]
      simp
    have hmod := Nat.mod_eq_of_lt hdl
    simp only [S1, S2, S3, S4, S5, r_idx, r_mks, ev, resultsV, resL, resV, vl, gt, st, sto, fgt, i64, subCV, fill, setCells, mkAgg, allP, frz, frz1, frzL, frzs, kill, kill1, killL, kills, bnd, unV, bsz, toPs, toP, isPure1, pureL, List.elem, List.replicate, Int.reduceLE, Int.reduceLT, ↓reduceIte, reduceCtorEq, Nat.reduceLT, Nat.reduceEqDiff, Nat.reduceAdd, Nat.reduceMul, Nat.reduceLeDiff, Nat.reduceBEq, lm_len, hi, h0, shl32 hrl, lm_get hm, w64l (ha.get hm), or64 (ha.get hm) hs, quo64 hs, rem64, w64l hq', w32, hmod, binV_quo hq0, binV_rem hq0, Int.natCast_nonneg, Int.toNat_natCast, hm, hget, lm_set, hset, hw]
    refine ih (m, (r * LB + a[m]) / q :: o, (r * LB + a[m]) % q) _ ⟨by omega, by simp [ho]; omega, ?_, Nat.mod_lt _ hq, ?_⟩ (by simp) ?_
    · intro y hy
      rcases List.mem_cons.1 hy with rfl | hy
      · exact hdl
      · exact hlo y hy
    · rw [List.drop_eq_getElem_cons hm, val, val, hv]
      have h1 := Nat.div_add_mod (r * LB + a[m]) q
      have g1 : LB * (val o * q + r) = LB * (val o * q) + LB * r := Nat.mul_add ..
      have g2 : ((r * LB + a[m]) / q + LB * val o) * q = (r * LB + a[m]) / q * q + LB * val o * q := Nat.add_mul ..
      have g3 : LB * val o * q = LB * (val o * q) := Nat.mul_assoc ..
      have g4 : (r * LB + a[m]) / q * q = q * ((r * LB + a[m]) / q) := Nat.mul_comm ..
      have g5 : r * LB = LB * r := Nat.mul_comm ..
      rw [g1, g2, g3, g4]
      show a[m] + (LB * (val o * q) + LB * r) = q * ((r * LB + a[m]) / q) + LB * (val o * q) + (r * LB + a[m]) % q
      omega
    · rfl
  · obtain rfl : n = 0 := by omega
    rw [List.drop_zero] at hv
    have hvq : val o = val a / q := by
      rw [hv, Nat.mul_comm, Nat.mul_add_div hq, Nat.div_eq_of_lt hr]; omega
    have hvr : r = val a % q := by
      rw [hv, Nat.mul_comm, Nat.mul_add_mod, Nat.mod_eq_of_lt hr]
    have htr := p144 hlo (by omega)
    rw [hvq] at htr
    have h0' : ¬ (((0 : Nat) : Int) - 1 ≥ 0) := by omega
    have hrl : r % LB = r := Nat.mod_eq_of_lt (Nat.lt_trans hr hq')
    rw [List.replicate_zero, List.nil_append]
    simp only [S1, S2, S3, S4, S5, r_idx, r_mks, ev, resultsV, resL, resV, vl, gt, st, sto, fgt, i64, subCV, fill, setCells, mkAgg, allP, frz, frz1, frzL, frzs, kill, kill1, killL, kills, bnd, unV, bsz, toPs, toP, isPure1, pureL, List.elem, List.replicate, Int.reduceLE, Int.reduceLT, ↓reduceIte, reduceCtorEq, Nat.reduceLT, Nat.reduceEqDiff, Nat.reduceAdd, Nat.reduceMul, Nat.reduceLeDiff, Nat.reduceBEq, lm_len, h0']
    rw [kf_own htr rfl (show a.length = (lm o).length by rw [lm_len, ho]; omega)]
    simp only [S1, S2, S3, S4, S5, r_idx, r_mks, ev, resultsV, resL, resV, vl, gt, st, sto, fgt, i64, subCV, fill, setCells, mkAgg, allP, frz, frz1, frzL, frzs, kill, kill1, killL, kills, bnd, unV, bsz, toPs, toP, isPure1, pureL, List.elem, List.replicate, Int.reduceLE, Int.reduceLT, ↓reduceIte, reduceCtorEq, Nat.reduceLT, Nat.reduceEqDiff, Nat.reduceAdd, Nat.reduceMul, Nat.reduceLeDiff, Nat.reduceBEq, w32, hrl]
    rw [← hvr]
    exact back_t2 back1_p back1_p
end Go.Proofs.Ytdieenbfdeaffaa.VBn
