/- Resolved code of functions, printed by a program of ours (genfun.py); each is held against the model by chkF. -/
import Derived.Test.YtiboahllkpociaaGreatVpiSim
import Derived.Test.YtiboahllkpociaaGreatProg
import Derived.KernelRfl
namespace Go.Proofs.YtiboahllkpociaaGreat.VCn
open Go Vpi
set_option maxRecDepth 100000

/-- trammel/trammellaw25.plain -/
def f5 : RFun := ⟨(.seq (.reg [⟨(some 0), none, none, .mv (.c (.nils))⟩] none)
  (.seq (.reg [⟨(some 1), none, none, .call .pu 10 [.c (.p (.int .i64 1))]⟩,
    ⟨(some 2), none, none, .call .pu 10 [.c (.p (.int .i64 0))]⟩,
    ⟨(some 3), none, none, .bslice 2 [.t 1, .t 2]⟩,
    ⟨(some 4), none, none, .call .pu 10 [.c (.p (.int .i64 0))]⟩,
    ⟨(some 5), none, none, .call .pu 10 [.c (.p (.int .i64 1))]⟩,
    ⟨(some 6), none, none, .bslice 2 [.t 4, .t 5]⟩,
    ⟨(some 7), none, none, .bslice 1 [.t 3, .t 6]⟩,
    ⟨(some 0), none, none, .mv (.t 7)⟩] none)
  .ret)),
  [.t 0]⟩

theorem c5 : chkF Tryz.prog 5 f5 = true := by kernel_rfl

/-- trammel/gso.Valid -/
def f6 : RFun := ⟨(.seq (.reg [⟨(some 2), none, none, .mv (.c (.p (.int .i64 0)))⟩] none)
  (.seq (.reg [⟨(some 6), none, none, .mv (.t 0)⟩,
    ⟨(some 7), none, none, .call .pu 11 [.t 6, .c (.p (.bool true))]⟩,
    ⟨(some 5), none, none, .mv (.t 7)⟩,
    ⟨(some 8), none, none, .extract (.t 5) 0⟩,
    ⟨(some 9), none, none, .extract (.t 5) 1⟩,
    ⟨(some 3), none, none, .alloc [.nils, .nils]⟩,
    ⟨none, none, none, .store 2 (.t 3) (.t 8)⟩,
    ⟨(some 4), none, none, .mv (.t 9)⟩] none)
  (.seq (.reg [⟨(some 10), none, none, .mv (.t 4)⟩,
    ⟨(some 2), none, none, .mv (.t 10)⟩] none)
  .ret))),
  [.t 2]⟩

theorem c6 : chkF Tryz.prog 6 f6 = true := by kernel_rfl

/-- trammel/trammellaw25.n -/
def f10 : RFun := ⟨(.seq (.reg [⟨(some 2), none, none, .alloc [.p (.bool false), .nils]⟩] none)
  (.seq (.reg [⟨(some 3), none, none, .mv (.t 0)⟩,
    ⟨(some 4), none, none, .call .pu 23 [.t 3]⟩,
    ⟨none, none, none, .store 2 (.t 2) (.t 4)⟩] none)
  .ret)),
  [.cell 2 true 2]⟩

theorem c10 : chkF Tryz.prog 10 f10 = true := by kernel_rfl

/-- trammel/gso.of -/
def f11 : RFun := ⟨(.seq (.reg [⟨(some 4), none, none, .alloc [.nils, .nils]⟩,
    ⟨(some 5), none, none, .mv (.c (.p (.int .i64 0)))⟩] none)
  (.seq (.seq (.reg [⟨(some 9), none, none, .mv (.t 0)⟩,
    ⟨(some 10), none, none, .mv (.t 1)⟩,
    ⟨(some 11), none, none, .call .pu 24 [.t 9, .t 10]⟩,
    ⟨(some 6), none, none, .mv (.t 11)⟩] none)
  (.seq (.reg [⟨(some 12), none, none, .mv (.t 6)⟩,
    ⟨(some 13), none, none, .bin .neq (.t 12) (.c (.p (.int .i64 0)))⟩] none)
  (.fg [0, 4, 6, 13] (.cond (.t 13)
    (.seq (.reg [⟨(some 14), none, none, .build [.nils, .nils] []⟩,
    ⟨(some 15), none, none, .mv (.t 6)⟩,
    ⟨none, none, none, .store 2 (.t 4) (.t 14)⟩,
    ⟨(some 5), none, none, .mv (.t 15)⟩] none)
    .ret)
    .skip))))
  (.seq (.reg [⟨(some 17), none, none, .mv (.t 0)⟩,
    ⟨(some 18), none, none, .call .pu 25 [.t 17]⟩,
    ⟨(some 16), none, none, .mv (.t 18)⟩,
    ⟨(some 19), none, none, .extract (.t 16) 0⟩,
    ⟨(some 20), none, none, .extract (.t 16) 1⟩,
    ⟨(some 7), none, none, .alloc [.nils, .nils]⟩,
    ⟨none, none, none, .store 2 (.t 7) (.t 19)⟩,
    ⟨(some 8), none, none, .mv (.t 20)⟩] none)
  (.seq (.seq (.reg [⟨(some 21), none, none, .mv (.t 8)⟩,
    ⟨(some 22), none, none, .un .not (.t 21)⟩] none)
  (.fg [4, 7, 22] (.cond (.t 22)
    (.seq (.reg [⟨(some 23), none, none, .build [.nils, .nils] []⟩,
    ⟨none, none, none, .store 2 (.t 4) (.t 23)⟩,
    ⟨(some 5), none, none, .mv (.c (.p (.int .i64 50)))⟩] none)
    .ret)
    .skip)))
  (.seq (.reg [⟨(some 24), none, none, .load true 2 (.t 7)⟩,
    ⟨none, none, none, .store 2 (.t 4) (.t 24)⟩,
    ⟨(some 5), none, none, .mv (.c (.p (.int .i64 0)))⟩] none)
  .ret))))),
  [.cell 4 true 2, .t 5]⟩

theorem c11 : chkF Tryz.prog 11 f11 = true := by kernel_rfl

/-- trammel/mat.Shape -/
def f13 : RFun := ⟨(.seq (.reg [⟨(some 2), none, none, .mv (.c (.p (.int .i64 0)))⟩,
    ⟨(some 3), none, none, .mv (.c (.p (.int .i64 0)))⟩,
    ⟨(some 4), none, none, .mv (.c (.p (.int .i64 0)))⟩] none)
  (.seq (.seq (.reg [⟨(some 7), none, none, .mv (.t 0)⟩,
    ⟨(some 8), none, none, .len (.t 7)⟩,
    ⟨(some 9), none, none, .bin .eql (.t 8) (.c (.p (.int .i64 0)))⟩] none)
  (.fg [0, 9] (.cond (.t 9)
    (.seq (.reg [⟨(some 2), none, none, .mv (.c (.p (.int .i64 0)))⟩,
    ⟨(some 3), none, none, .mv (.c (.p (.int .i64 0)))⟩,
    ⟨(some 4), none, none, .mv (.c (.p (.int .i64 0)))⟩] none)
    .ret)
    .skip)))
  (.seq (.seq (.reg [⟨(some 10), none, none, .mv (.t 0)⟩,
    ⟨(some 11), none, none, .len (.t 10)⟩,
    ⟨(some 12), none, none, .mv (.c (.p (.int .i64 0)))⟩] none)
  (.fg [0, 10, 11, 12] (.block 0
  (.loop (.fg [0, 10, 11, 12]
    (.seq (.reg [⟨(some 13), none, none, .bin .lss (.t 12) (.t 11)⟩] none)
      (.seq (.cond (.t 13)
        .skip
        (.exit 0))
      (.fg [0, 10, 11, 12] (.seq (.block 1
      (.seq (.reg [⟨(some 14), none, none, .indexA 1 (.t 10) (.t 12)⟩,
    ⟨(some 15), none, none, .load false 1 (.t 14)⟩,
    ⟨(some 6), none, none, .mv (.t 15)⟩] none)
        (.seq (.reg [⟨(some 16), none, none, .mv (.t 6)⟩,
    ⟨(some 17), none, none, .len (.t 16)⟩,
    ⟨(some 18), none, none, .mv (.t 0)⟩,
    ⟨(some 19), none, none, .indexA 1 (.t 18) (.c (.p (.int .i64 0)))⟩,
    ⟨(some 20), none, none, .load false 1 (.t 19)⟩,
    ⟨(some 21), none, none, .len (.t 20)⟩,
    ⟨(some 22), none, none, .bin .neq (.t 17) (.t 21)⟩] none)
        (.fg [0, 10, 11, 12, 22] (.cond (.t 22)
          (.seq (.reg [⟨(some 2), none, none, .mv (.c (.p (.int .i64 0)))⟩,
    ⟨(some 3), none, none, .mv (.c (.p (.int .i64 0)))⟩,
    ⟨(some 4), none, none, .mv (.c (.p (.int .i64 8)))⟩] none)
          .ret)
          .skip)))))
      (.fg [0, 10, 11, 12] (.reg [⟨(some 23), none, none, .bin .add (.t 12) (.c (.p (.int .i64 1)))⟩,
    ⟨(some 12), none, none, .mv (.t 23)⟩] none)))))))))))
  (.seq (.reg [⟨(some 24), none, none, .mv (.t 0)⟩,
    ⟨(some 25), none, none, .len (.t 24)⟩,
    ⟨(some 26), none, none, .mv (.t 0)⟩,
    ⟨(some 27), none, none, .indexA 1 (.t 26) (.c (.p (.int .i64 0)))⟩,
    ⟨(some 28), none, none, .load false 1 (.t 27)⟩,
    ⟨(some 29), none, none, .len (.t 28)⟩,
    ⟨(some 2), none, none, .mv (.t 25)⟩,
    ⟨(some 3), none, none, .mv (.t 29)⟩,
    ⟨(some 4), none, none, .mv (.c (.p (.int .i64 0)))⟩] (some (0, [])))
  .ret)))),
  [.t 2, .t 3, .t 4]⟩

theorem c13 : chkF Tryz.prog 13 f13 = true := by kernel_rfl

/-- trammel/trammelref02.Of -/
def f23 : RFun := ⟨(.seq (.reg [⟨(some 2), none, none, .alloc [.p (.bool false), .nils]⟩] none)
  (.seq (.reg [⟨(some 4), none, none, .mv (.t 0)⟩,
    ⟨(some 5), none, none, .conv .u64 (.t 4)⟩,
    ⟨(some 3), none, none, .mv (.t 5)⟩] none)
  (.seq (.seq (.reg [⟨(some 6), none, none, .mv (.t 0)⟩,
    ⟨(some 7), none, none, .bin .lss (.t 6) (.c (.p (.int .i64 0)))⟩] none)
  (.fg [0, 2, 3, 7] (.cond (.t 7)
    (.reg [⟨(some 8), none, none, .mv (.t 3)⟩,
    ⟨(some 9), none, none, .un .neg (.t 8)⟩,
    ⟨(some 3), none, none, .mv (.t 9)⟩] none)
    .skip)))
  (.seq (.reg [⟨(some 10), none, none, .mv (.t 0)⟩,
    ⟨(some 11), none, none, .bin .lss (.t 10) (.c (.p (.int .i64 0)))⟩,
    ⟨(some 12), none, none, .mv (.t 3)⟩,
    ⟨(some 13), none, none, .conv .u32 (.t 12)⟩,
    ⟨(some 14), none, none, .mv (.t 3)⟩,
    ⟨(some 15), none, none, .bin .shr (.t 14) (.c (.p (.int .u64 32)))⟩,
    ⟨(some 16), none, none, .conv .u32 (.t 15)⟩,
    ⟨(some 17), none, none, .bslice 1 [.t 13, .t 16]⟩,
    ⟨(some 18), none, none, .call .fz 46 [.t 11, .t 17]⟩,
    ⟨none, none, none, .store 2 (.t 2) (.t 18)⟩] none)
  .ret)))),
  [.cell 2 true 2]⟩

theorem c23 : chkF Tryz.prog 23 f23 = true := by kernel_rfl

/-- trammel/gso.shaped -/
def f24 : RFun := ⟨(.seq (.reg [⟨(some 4), none, none, .mv (.c (.p (.int .i64 0)))⟩] none)
  (.seq (.reg [⟨(some 11), none, none, .mv (.t 0)⟩,
    ⟨(some 12), none, none, .len (.t 11)⟩,
    ⟨(some 13), none, none, .bin .gtr (.t 12) (.c (.p (.int .i64 12)))⟩,
    ⟨(some 14), none, none, .mv (.t 13)⟩,
    ⟨(some 15), (some (14, false)), none, .mv (.t 1)⟩,
    ⟨(some 16), (some (14, false)), none, .mv (.t 15)⟩,
    ⟨(some 17), (some (16, true)), none, .mv (.t 0)⟩,
    ⟨(some 18), (some (16, true)), none, .call .pu 47 [.t 17]⟩,
    ⟨(some 19), (some (16, true)), none, .bin .gtr (.t 18) (.c (.p (.int .i64 256)))⟩,
    ⟨(some 20), (some (14, false)), none, .pick (.t 16) (.t 19) (.c (.p (.bool false)))⟩,
    ⟨(some 21), none, none, .pick (.t 14) (.c (.p (.bool true))) (.t 20)⟩,
    ⟨(some 5), none, none, .mv (.t 21)⟩] none)
  (.seq (.seq (.reg [⟨(some 22), none, none, .mv (.t 0)⟩,
    ⟨(some 23), none, none, .len (.t 22)⟩,
    ⟨(some 24), none, none, .mv (.c (.p (.int .i64 0)))⟩] none)
  (.fg [0, 5, 22, 23, 24] (.block 0
  (.loop (.fg [0, 5, 22, 23, 24]
    (.seq (.reg [⟨(some 25), none, none, .bin .lss (.t 24) (.t 23)⟩] none)
      (.seq (.cond (.t 25)
        .skip
        (.exit 0))
      (.fg [0, 5, 22, 23, 24] (.seq (.block 1
      (.seq (.reg [⟨(some 26), none, none, .indexA 1 (.t 22) (.t 24)⟩,
    ⟨(some 27), none, none, .load false 1 (.t 26)⟩,
    ⟨(some 7), none, none, .mv (.t 27)⟩] none)
        (.reg [⟨(some 28), none, none, .mv (.t 5)⟩,
    ⟨(some 29), none, none, .mv (.t 28)⟩,
    ⟨(some 30), (some (29, false)), none, .mv (.t 7)⟩,
    ⟨(some 31), (some (29, false)), none, .len (.t 30)⟩,
    ⟨(some 32), (some (29, false)), none, .bin .gtr (.t 31) (.c (.p (.int .i64 12)))⟩,
    ⟨(some 33), none, none, .pick (.t 29) (.c (.p (.bool true))) (.t 32)⟩,
    ⟨(some 5), none, none, .mv (.t 33)⟩] none)))
      (.fg [0, 5, 22, 23, 24] (.reg [⟨(some 34), none, none, .bin .add (.t 24) (.c (.p (.int .i64 1)))⟩,
    ⟨(some 24), none, none, .mv (.t 34)⟩] none)))))))))))
  (.seq (.seq (.reg [⟨(some 35), none, none, .mv (.t 5)⟩] none)
  (.fg [0, 35] (.cond (.t 35)
    (.seq (.reg [⟨(some 4), none, none, .mv (.c (.p (.int .i64 40)))⟩] none)
    .ret)
    .skip)))
  (.seq (.seq (.reg [⟨(some 36), none, none, .mv (.t 0)⟩,
    ⟨(some 37), none, none, .len (.t 36)⟩,
    ⟨(some 38), none, none, .bin .eql (.t 37) (.c (.p (.int .i64 0)))⟩] none)
  (.fg [0, 38] (.cond (.t 38)
    (.seq (.reg [⟨(some 4), none, none, .mv (.c (.p (.int .i64 41)))⟩] none)
    .ret)
    .skip)))
  (.seq (.reg [⟨(some 40), none, none, .mv (.t 0)⟩,
    ⟨(some 41), none, none, .call .pu 13 [.t 40]⟩,
    ⟨(some 39), none, none, .mv (.t 41)⟩,
    ⟨(some 42), none, none, .extract (.t 39) 0⟩,
    ⟨(some 43), none, none, .extract (.t 39) 1⟩,
    ⟨(some 44), none, none, .extract (.t 39) 2⟩,
    ⟨(some 8), none, none, .mv (.t 42)⟩,
    ⟨(some 9), none, none, .mv (.t 43)⟩,
    ⟨(some 10), none, none, .mv (.t 44)⟩] none)
  (.seq (.reg [⟨(some 45), none, none, .mv (.t 10)⟩,
    ⟨(some 4), none, none, .mv (.t 45)⟩] none)
  .ret))))))),
  [.t 4]⟩

theorem c24 : chkF Tryz.prog 24 f24 = true := by kernel_rfl

/-- trammel/gso.built -/
def f25 : RFun := ⟨(.seq (.reg [⟨(some 2), none, none, .alloc [.nils, .nils]⟩,
    ⟨(some 3), none, none, .mv (.c (.p (.bool false)))⟩] none)
  (.seq (.reg [⟨(some 12), none, none, .call .pu 30 [.c (.p (.int .i64 1))]⟩,
    ⟨(some 13), none, none, .bslice 2 [.t 12]⟩,
    ⟨(some 14), none, none, .build [.nils, .nils] [(0, 1, .t 13)]⟩,
    ⟨(some 4), none, none, .alloc [.nils, .nils]⟩,
    ⟨none, none, none, .store 2 (.t 4) (.t 14)⟩] none)
  (.seq (.seq (.reg [⟨(some 15), none, none, .mv (.t 0)⟩,
    ⟨(some 16), none, none, .len (.t 15)⟩,
    ⟨(some 17), none, none, .mv (.c (.p (.int .i64 0)))⟩] none)
  (.fg [0, 2, 4, 16, 17] (.block 0
  (.loop (.fg [0, 2, 4, 16, 17]
    (.seq (.reg [⟨(some 18), none, none, .bin .lss (.t 17) (.t 16)⟩] none)
      (.seq (.cond (.t 18)
        .skip
        (.exit 0))
      (.fg [0, 2, 4, 16, 17] (.seq (.block 1
      (.seq (.reg [⟨(some 19), none, none, .mv (.t 17)⟩,
    ⟨(some 5), none, none, .mv (.t 19)⟩] none)
        (.seq (.reg [⟨(some 20), none, none, .mv (.t 5)⟩,
    ⟨(some 21), none, none, .bin .add (.t 20) (.c (.p (.int .i64 1)))⟩,
    ⟨(some 22), none, none, .mks false 2 32 (.agg [.bool false, .sl []]) (.c (.p (.int .i64 0))) (.t 21)⟩,
    ⟨(some 6), none, none, .mv (.t 22)⟩] none)
        (.seq (.seq (.reg [⟨(some 7), none, none, .mv (.c (.p (.int .i64 0)))⟩] none)
        (.fg [0, 2, 4, 5, 6, 7, 16, 17] (.block 2
        (.loop (.fg [0, 2, 4, 5, 6, 7, 16, 17]
          (.seq (.seq (.reg [⟨(some 23), none, none, .mv (.t 7)⟩,
    ⟨(some 24), none, none, .mv (.t 5)⟩,
    ⟨(some 25), none, none, .bin .leq (.t 23) (.t 24)⟩] none)
            (.fg [0, 2, 4, 5, 6, 7, 16, 17, 25] (.cond (.t 25)
              .skip
              (.exit 2))))
            (.seq (.block 3
            (.seq (.reg [⟨(some 29), none, none, .mv (.t 0)⟩,
    ⟨(some 30), none, none, .mv (.t 5)⟩,
    ⟨(some 31), none, none, .indexA 1 (.t 29) (.t 30)⟩,
    ⟨(some 32), none, none, .load false 1 (.t 31)⟩,
    ⟨(some 33), none, none, .mv (.t 0)⟩,
    ⟨(some 34), none, none, .mv (.t 7)⟩,
    ⟨(some 35), none, none, .indexA 1 (.t 33) (.t 34)⟩,
    ⟨(some 36), none, none, .load false 1 (.t 35)⟩,
    ⟨(some 37), none, none, .call .fz 48 [.t 32, .t 36]⟩,
    ⟨(some 28), none, none, .mv (.t 37)⟩,
    ⟨(some 38), none, none, .extract (.t 28) 0⟩,
    ⟨(some 39), none, none, .extract (.t 28) 1⟩,
    ⟨(some 8), none, (some 0), .alloc [.p (.bool false), .nils]⟩,
    ⟨none, none, none, .store 2 (.t 8) (.t 38)⟩,
    ⟨(some 9), none, none, .mv (.t 39)⟩] (some (1, [])))
              (.seq (.seq (.reg [⟨(some 10), none, none, .mv (.c (.p (.int .i64 0)))⟩] none)
              (.fg [0, 2, 4, 5, 6, 7, 8, 10, 16, 17] (.block 4
              (.loop (.fg [0, 2, 4, 5, 6, 7, 8, 10, 16, 17]
                (.seq (.seq (.reg [⟨(some 40), none, none, .mv (.t 10)⟩,
    ⟨(some 41), none, none, .mv (.t 7)⟩,
    ⟨(some 42), none, none, .bin .lss (.t 40) (.t 41)⟩] none)
                  (.fg [0, 2, 4, 5, 6, 7, 8, 10, 16, 17, 42] (.cond (.t 42)
                    .skip
                    (.exit 4))))
                  (.seq (.block 5
                  (.seq (.reg [⟨(some 45), none, none, .mv (.t 6)⟩,
    ⟨(some 11), none, none, .mv (.t 45)⟩] none)
                    (.seq (.seq (.reg [⟨(some 46), none, none, .mv (.t 7)⟩,
    ⟨(some 47), none, none, .mv (.t 5)⟩,
    ⟨(some 48), none, none, .bin .lss (.t 46) (.t 47)⟩] none)
                    (.fg [0, 2, 4, 5, 6, 7, 8, 10, 11, 16, 17, 48] (.cond (.t 48)
                      (.reg [⟨(some 49), none, none, .fieldA 1 (.t 4)⟩,
    ⟨(some 50), none, none, .load false 1 (.t 49)⟩,
    ⟨(some 51), none, none, .mv (.t 7)⟩,
    ⟨(some 52), none, none, .indexA 1 (.t 50) (.t 51)⟩,
    ⟨(some 53), none, none, .load false 1 (.t 52)⟩,
    ⟨(some 11), none, none, .mv (.t 53)⟩] none)
                      .skip)))
                    (.seq (.reg [⟨(some 54), none, none, .fieldA 0 (.t 4)⟩,
    ⟨(some 55), none, none, .load false 1 (.t 54)⟩,
    ⟨(some 56), none, none, .mv (.t 10)⟩,
    ⟨(some 57), none, none, .bin .add (.t 56) (.c (.p (.int .i64 1)))⟩,
    ⟨(some 58), none, none, .indexA 2 (.t 55) (.t 57)⟩,
    ⟨(some 59), none, none, .load true 2 (.t 58)⟩,
    ⟨(some 60), none, none, .load true 2 (.t 8)⟩,
    ⟨(some 61), none, none, .call .fz 49 [.t 59, .t 60]⟩,
    ⟨(some 62), none, none, .mv (.t 6)⟩,
    ⟨(some 63), none, none, .mv (.t 10)⟩,
    ⟨(some 64), none, none, .indexA 2 (.t 62) (.t 63)⟩,
    ⟨(some 65), none, none, .load true 2 (.t 64)⟩,
    ⟨(some 66), none, none, .mv (.t 11)⟩,
    ⟨(some 67), none, none, .mv (.t 10)⟩,
    ⟨(some 68), none, none, .indexA 2 (.t 66) (.t 67)⟩,
    ⟨(some 69), none, none, .load true 2 (.t 68)⟩,
    ⟨(some 70), none, none, .call .fz 49 [.t 65, .t 69]⟩,
    ⟨(some 71), none, none, .call .pu 37 [.t 61, .t 70]⟩,
    ⟨none, none, none, .store 2 (.t 8) (.t 71)⟩] (some (0, [(7, 10), (7, 11), (7, 14), (7, 15)])))
                    (.reg [⟨(some 73), none, none, .load true 2 (.t 8)⟩,
    ⟨(some 74), none, none, .fieldA 0 (.t 4)⟩,
    ⟨(some 75), none, none, .load false 1 (.t 74)⟩,
    ⟨(some 76), none, none, .mv (.t 10)⟩,
    ⟨(some 77), none, none, .indexA 2 (.t 75) (.t 76)⟩,
    ⟨(some 78), none, none, .load true 2 (.t 77)⟩,
    ⟨(some 79), none, none, .call .fz 50 [.t 73, .t 78]⟩,
    ⟨(some 72), none, none, .mv (.t 79)⟩,
    ⟨(some 80), none, none, .extract (.t 72) 0⟩,
    ⟨(some 81), none, none, .extract (.t 72) 1⟩,
    ⟨(some 82), none, none, .extract (.t 72) 2⟩,
    ⟨none, none, none, .store 2 (.t 8) (.t 80)⟩] (some (0, [])))))))
                  (.fg [0, 2, 4, 5, 6, 7, 8, 10, 16, 17] (.reg [⟨(some 43), none, none, .mv (.t 10)⟩,
    ⟨(some 44), none, none, .bin .add (.t 43) (.c (.p (.int .i64 1)))⟩,
    ⟨(some 10), none, none, .mv (.t 44)⟩] none)))))))))
              (.reg [⟨(some 83), none, none, .mv (.t 6)⟩,
    ⟨(some 84), none, none, .load true 2 (.t 8)⟩,
    ⟨(some 85), none, none, .bslice 2 [.t 84]⟩,
    ⟨(some 86), none, none, .append 2 32 (.t 83) (.t 85)⟩,
    ⟨(some 6), none, none, .mv (.t 86)⟩] none))))
            (.fg [0, 2, 4, 5, 6, 7, 16, 17] (.reg [⟨(some 26), none, none, .mv (.t 7)⟩,
    ⟨(some 27), none, none, .bin .add (.t 26) (.c (.p (.int .i64 1)))⟩,
    ⟨(some 7), none, none, .mv (.t 27)⟩] none)))))))))
        (.seq (.seq (.reg [⟨(some 87), none, none, .mv (.t 6)⟩,
    ⟨(some 88), none, none, .mv (.t 5)⟩,
    ⟨(some 89), none, none, .indexA 2 (.t 87) (.t 88)⟩,
    ⟨(some 90), none, none, .load true 2 (.t 89)⟩,
    ⟨(some 91), none, none, .call .fz 34 [.t 90]⟩,
    ⟨(some 92), none, none, .bin .leq (.t 91) (.c (.p (.int .i64 0)))⟩] none)
        (.fg [0, 2, 4, 5, 6, 16, 17, 92] (.cond (.t 92)
          (.seq (.reg [⟨(some 93), none, none, .build [.nils, .nils] []⟩,
    ⟨none, none, none, .store 2 (.t 2) (.t 93)⟩,
    ⟨(some 3), none, none, .mv (.c (.p (.bool false)))⟩] none)
          .ret)
          .skip)))
        (.seq (.reg [⟨(some 94), none, none, .fieldA 0 (.t 4)⟩,
    ⟨(some 95), none, none, .load false 1 (.t 94)⟩,
    ⟨(some 96), none, none, .mv (.t 6)⟩,
    ⟨(some 97), none, none, .mv (.t 5)⟩,
    ⟨(some 98), none, none, .indexA 2 (.t 96) (.t 97)⟩,
    ⟨(some 99), none, none, .load true 2 (.t 98)⟩,
    ⟨(some 100), none, (some 0), .bslice 2 [.t 99]⟩,
    ⟨(some 101), none, (some 1), .append 2 32 (.t 95) (.t 100)⟩,
    ⟨(some 102), none, none, .fieldA 0 (.t 4)⟩,
    ⟨none, none, none, .store 1 (.t 102) (.t 101)⟩] (some (2, [(1, 6)])))
        (.reg [⟨(some 103), none, none, .fieldA 1 (.t 4)⟩,
    ⟨(some 104), none, none, .load false 1 (.t 103)⟩,
    ⟨(some 105), none, none, .mv (.t 6)⟩,
    ⟨(some 106), none, none, .mv (.t 5)⟩,
    ⟨(some 107), none, none, .mv (.t 5)⟩,
    ⟨(some 108), none, none, .slice 2 (.t 105) none (some (.t 106)) (some (.t 107))⟩,
    ⟨(some 109), none, (some 0), .bslice 1 [.t 108]⟩,
    ⟨(some 110), none, (some 1), .append 1 24 (.t 104) (.t 109)⟩,
    ⟨(some 111), none, none, .fieldA 1 (.t 4)⟩,
    ⟨none, none, none, .store 1 (.t 111) (.t 110)⟩] (some (2, [(1, 6)])))))))))
      (.fg [0, 2, 4, 16, 17] (.reg [⟨(some 112), none, none, .bin .add (.t 17) (.c (.p (.int .i64 1)))⟩,
    ⟨(some 17), none, none, .mv (.t 112)⟩] none)))))))))))
  (.seq (.reg [⟨(some 113), none, none, .load true 2 (.t 4)⟩,
    ⟨none, none, none, .store 2 (.t 2) (.t 113)⟩,
    ⟨(some 3), none, none, .mv (.c (.p (.bool true)))⟩] none)
  .ret)))),
  [.cell 2 true 2, .t 3]⟩

theorem c25 : chkF Tryz.prog 25 f25 = true := by kernel_rfl

/-- trammel/zint.Of -/
def f30 : RFun := ⟨(.seq (.reg [⟨(some 2), none, none, .alloc [.p (.bool false), .nils]⟩] none)
  (.seq (.reg [⟨(some 4), none, none, .mv (.t 0)⟩,
    ⟨(some 5), none, none, .conv .u64 (.t 4)⟩,
    ⟨(some 3), none, none, .mv (.t 5)⟩] none)
  (.seq (.seq (.reg [⟨(some 6), none, none, .mv (.t 0)⟩,
    ⟨(some 7), none, none, .bin .lss (.t 6) (.c (.p (.int .i64 0)))⟩] none)
  (.fg [0, 2, 3, 7] (.cond (.t 7)
    (.reg [⟨(some 8), none, none, .mv (.t 3)⟩,
    ⟨(some 9), none, none, .un .neg (.t 8)⟩,
    ⟨(some 3), none, none, .mv (.t 9)⟩] none)
    .skip)))
  (.seq (.reg [⟨(some 10), none, none, .mv (.t 0)⟩,
    ⟨(some 11), none, none, .bin .lss (.t 10) (.c (.p (.int .i64 0)))⟩,
    ⟨(some 12), none, none, .mv (.t 3)⟩,
    ⟨(some 13), none, none, .conv .u32 (.t 12)⟩,
    ⟨(some 14), none, none, .mv (.t 3)⟩,
    ⟨(some 15), none, none, .bin .shr (.t 14) (.c (.p (.int .u64 32)))⟩,
    ⟨(some 16), none, none, .conv .u32 (.t 15)⟩,
    ⟨(some 17), none, none, .bslice 1 [.t 13, .t 16]⟩,
    ⟨(some 18), none, none, .call .fz 53 [.t 11, .t 17]⟩,
    ⟨none, none, none, .store 2 (.t 2) (.t 18)⟩] none)
  .ret)))),
  [.cell 2 true 2]⟩

theorem c30 : chkF Tryz.prog 30 f30 = true := by kernel_rfl

/-- trammel/zint.Sign -/
def f34 : RFun := ⟨(.seq (.reg [⟨(some 1), none, none, .box (.t 0)⟩,
    ⟨(some 2), none, none, .mv (.c (.p (.int .i64 0)))⟩] none)
  (.seq (.block 0
  (.seq (.reg [⟨(some 4), none, none, .fieldA 1 (.t 1)⟩,
    ⟨(some 5), none, none, .load false 1 (.t 4)⟩,
    ⟨(some 6), none, none, .call .pu 57 [.t 5]⟩,
    ⟨(some 7), none, none, .bin .eql (.t 6) (.c (.p (.int .i64 0)))⟩,
    ⟨(some 3), none, none, .mv (.t 7)⟩] none)
    (.fg [1, 3] (.cond (.t 3)
      (.seq (.reg [⟨(some 2), none, none, .mv (.c (.p (.int .i64 0)))⟩] none)
      .ret)
      (.seq (.reg [⟨(some 9), none, none, .fieldA 0 (.t 1)⟩,
    ⟨(some 10), none, none, .load false 1 (.t 9)⟩,
    ⟨(some 8), none, none, .mv (.t 10)⟩] none)
      (.fg [8] (.cond (.t 8)
        (.seq (.reg [⟨(some 2), none, none, .mv (.c (.p (.int .i64 (-1))))⟩] none)
        .ret)
        .skip)))))))
  (.fg [] (.seq (.reg [⟨(some 2), none, none, .mv (.c (.p (.int .i64 1)))⟩] none)
  .ret)))),
  [.t 2]⟩

theorem c34 : chkF Tryz.prog 34 f34 = true := by kernel_rfl

/-- trammel/zint.Sub -/
def f37 : RFun := ⟨(.seq (.reg [⟨(some 2), none, none, .box (.t 0)⟩,
    ⟨(some 3), none, none, .box (.t 1)⟩,
    ⟨(some 4), none, none, .alloc [.p (.bool false), .nils]⟩] none)
  (.seq (.reg [⟨(some 5), none, none, .load true 2 (.t 2)⟩,
    ⟨(some 6), none, none, .load true 2 (.t 3)⟩,
    ⟨(some 7), none, none, .call .pu 55 [.t 6]⟩,
    ⟨(some 8), none, none, .call .pu 41 [.t 5, .t 7]⟩,
    ⟨none, none, none, .store 2 (.t 4) (.t 8)⟩] (some (0, [])))
  .ret)),
  [.cell 4 true 2]⟩

theorem c37 : chkF Tryz.prog 37 f37 = true := by kernel_rfl

/-- trammel/zint.Add -/
def f41 : RFun := ⟨(.seq (.reg [⟨(some 2), none, none, .box (.t 0)⟩,
    ⟨(some 3), none, none, .box (.t 1)⟩,
    ⟨(some 4), none, none, .alloc [.p (.bool false), .nils]⟩] none)
  (.seq (.seq (.reg [⟨(some 7), none, none, .fieldA 0 (.t 2)⟩,
    ⟨(some 8), none, none, .load false 1 (.t 7)⟩,
    ⟨(some 9), none, none, .fieldA 0 (.t 3)⟩,
    ⟨(some 10), none, none, .load false 1 (.t 9)⟩,
    ⟨(some 11), none, none, .beq false (.t 8) (.t 10)⟩] none)
  (.fg [2, 3, 4, 11] (.cond (.t 11)
    (.seq (.reg [⟨(some 12), none, none, .fieldA 0 (.t 2)⟩,
    ⟨(some 13), none, none, .load false 1 (.t 12)⟩,
    ⟨(some 14), none, none, .fieldA 1 (.t 2)⟩,
    ⟨(some 15), none, none, .load false 1 (.t 14)⟩,
    ⟨(some 16), none, none, .fieldA 1 (.t 3)⟩,
    ⟨(some 17), none, none, .load false 1 (.t 16)⟩,
    ⟨(some 18), none, none, .call .pu 64 [.t 15, .t 17]⟩,
    ⟨(some 19), none, none, .call .pu 53 [.t 13, .t 18]⟩,
    ⟨none, none, none, .store 2 (.t 4) (.t 19)⟩] (some (0, [])))
    .ret)
    .skip)))
  (.seq (.seq (.reg [⟨(some 20), none, none, .fieldA 1 (.t 2)⟩,
    ⟨(some 21), none, none, .load false 1 (.t 20)⟩,
    ⟨(some 22), none, none, .fieldA 1 (.t 3)⟩,
    ⟨(some 23), none, none, .load false 1 (.t 22)⟩,
    ⟨(some 24), none, none, .call .pu 52 [.t 21, .t 23]⟩,
    ⟨(some 25), none, none, .bin .lss (.t 24) (.c (.p (.int .i64 0)))⟩] none)
  (.fg [2, 3, 4, 25] (.cond (.t 25)
    (.reg [⟨(some 26), none, none, .load true 2 (.t 3)⟩,
    ⟨(some 27), none, none, .load true 2 (.t 2)⟩,
    ⟨none, none, none, .store 2 (.t 2) (.t 26)⟩,
    ⟨none, none, none, .store 2 (.t 3) (.t 27)⟩] none)
    .skip)))
  (.seq (.reg [⟨(some 29), none, none, .fieldA 1 (.t 2)⟩,
    ⟨(some 30), none, none, .load false 1 (.t 29)⟩,
    ⟨(some 31), none, none, .fieldA 1 (.t 3)⟩,
    ⟨(some 32), none, none, .load false 1 (.t 31)⟩,
    ⟨(some 33), none, none, .call .pu 65 [.t 30, .t 32]⟩,
    ⟨(some 28), none, none, .mv (.t 33)⟩,
    ⟨(some 34), none, none, .extract (.t 28) 0⟩,
    ⟨(some 35), none, none, .extract (.t 28) 1⟩,
    ⟨(some 5), none, none, .mv (.t 34)⟩,
    ⟨(some 6), none, none, .mv (.t 35)⟩] none)
  (.seq (.reg [⟨(some 36), none, none, .fieldA 0 (.t 2)⟩,
    ⟨(some 37), none, none, .load false 1 (.t 36)⟩,
    ⟨(some 38), none, none, .mv (.t 5)⟩,
    ⟨(some 39), none, none, .call .pu 53 [.t 37, .t 38]⟩,
    ⟨none, none, none, .store 2 (.t 4) (.t 39)⟩] none)
  .ret))))),
  [.cell 4 true 2]⟩

theorem c41 : chkF Tryz.prog 41 f41 = true := by kernel_rfl

/-- trammel/trammelref02.made -/
def f46 : RFun := ⟨(.seq (.reg [⟨(some 4), none, none, .alloc [.p (.bool false), .nils]⟩] none)
  (.seq (.reg [⟨(some 6), none, none, .mv (.t 1)⟩,
    ⟨(some 7), none, none, .call .pu 72 [.t 6]⟩,
    ⟨(some 5), none, none, .mv (.t 7)⟩] none)
  (.seq (.reg [⟨(some 8), none, none, .mv (.t 0)⟩,
    ⟨(some 9), none, none, .mv (.t 8)⟩,
    ⟨(some 10), (some (9, true)), none, .mv (.t 5)⟩,
    ⟨(some 11), (some (9, true)), none, .len (.t 10)⟩,
    ⟨(some 12), (some (9, true)), none, .bin .gtr (.t 11) (.c (.p (.int .i64 0)))⟩,
    ⟨(some 13), none, none, .pick (.t 9) (.t 12) (.c (.p (.bool false)))⟩,
    ⟨(some 14), none, none, .mv (.t 5)⟩,
    ⟨(some 15), none, none, .build [.p (.bool false), .nils] [(0, 1, .t 13), (1, 1, .t 14)]⟩,
    ⟨none, none, none, .store 2 (.t 4) (.t 15)⟩] none)
  .ret))),
  [.cell 4 true 2]⟩

theorem c46 : chkF Tryz.prog 46 f46 = true := by kernel_rfl

/-- trammel/mat.Bits -/
def f47 : RFun := ⟨(.seq (.reg [⟨(some 2), none, none, .mv (.c (.p (.int .i64 0)))⟩] none)
  (.seq (.reg [⟨(some 3), none, none, .mv (.c (.p (.int .i64 0)))⟩] none)
  (.seq (.seq (.reg [⟨(some 8), none, none, .mv (.t 0)⟩,
    ⟨(some 9), none, none, .len (.t 8)⟩,
    ⟨(some 10), none, none, .mv (.c (.p (.int .i64 0)))⟩] none)
  (.fg [3, 8, 9, 10] (.block 0
  (.loop (.fg [3, 8, 9, 10]
    (.seq (.reg [⟨(some 11), none, none, .bin .lss (.t 10) (.t 9)⟩] none)
      (.seq (.cond (.t 11)
        .skip
        (.exit 0))
      (.fg [3, 8, 9, 10] (.seq (.block 1
      (.seq (.reg [⟨(some 12), none, none, .indexA 1 (.t 8) (.t 10)⟩,
    ⟨(some 13), none, none, .load false 1 (.t 12)⟩,
    ⟨(some 5), none, none, .mv (.t 13)⟩] none)
        (.seq (.reg [⟨(some 14), none, none, .mv (.t 5)⟩,
    ⟨(some 15), none, none, .len (.t 14)⟩,
    ⟨(some 16), none, none, .mv (.c (.p (.int .i64 0)))⟩] none)
        (.fg [3, 8, 9, 10, 14, 15, 16] (.block 2
        (.loop (.fg [3, 8, 9, 10, 14, 15, 16]
          (.seq (.reg [⟨(some 17), none, none, .bin .lss (.t 16) (.t 15)⟩] none)
            (.seq (.cond (.t 17)
              .skip
              (.exit 2))
            (.fg [3, 8, 9, 10, 14, 15, 16] (.seq (.block 3
            (.seq (.reg [⟨(some 18), none, none, .indexA 2 (.t 14) (.t 16)⟩,
    ⟨(some 19), none, none, .load true 2 (.t 18)⟩,
    ⟨(some 7), none, none, .alloc [.p (.bool false), .nils]⟩,
    ⟨none, none, none, .store 2 (.t 7) (.t 19)⟩] none)
              (.reg [⟨(some 20), none, none, .mv (.t 3)⟩,
    ⟨(some 21), none, none, .load true 2 (.t 7)⟩,
    ⟨(some 22), none, none, .call .pu 73 [.t 21]⟩,
    ⟨(some 23), none, none, .mx (.t 20) (.t 22)⟩,
    ⟨(some 3), none, none, .mv (.t 23)⟩] none)))
            (.fg [3, 8, 9, 10, 14, 15, 16] (.reg [⟨(some 24), none, none, .bin .add (.t 16) (.c (.p (.int .i64 1)))⟩,
    ⟨(some 16), none, none, .mv (.t 24)⟩] none)))))))))))))
      (.fg [3, 8, 9, 10] (.reg [⟨(some 25), none, none, .bin .add (.t 10) (.c (.p (.int .i64 1)))⟩,
    ⟨(some 10), none, none, .mv (.t 25)⟩] none)))))))))))
  (.seq (.reg [⟨(some 26), none, none, .mv (.t 3)⟩,
    ⟨(some 2), none, none, .mv (.t 26)⟩] none)
  .ret)))),
  [.t 2]⟩

theorem c47 : chkF Tryz.prog 47 f47 = true := by kernel_rfl

/-- trammel/mat.Dot -/
def f48 : RFun := ⟨(.seq (.reg [⟨(some 4), none, none, .alloc [.p (.bool false), .nils]⟩,
    ⟨(some 5), none, none, .mv (.c (.p (.int .i64 0)))⟩] none)
  (.seq (.seq (.reg [⟨(some 6), none, none, .mv (.t 0)⟩,
    ⟨(some 7), none, none, .len (.t 6)⟩,
    ⟨(some 8), none, none, .mv (.t 1)⟩,
    ⟨(some 9), none, none, .len (.t 8)⟩,
    ⟨(some 10), none, none, .bin .neq (.t 7) (.t 9)⟩] none)
  (.fg [0, 1, 4, 10] (.cond (.t 10)
    (.seq (.reg [⟨(some 11), none, none, .build [.p (.bool false), .nils] []⟩,
    ⟨none, none, none, .store 2 (.t 4) (.t 11)⟩,
    ⟨(some 5), none, none, .mv (.c (.p (.int .i64 8)))⟩] none)
    .ret)
    .skip)))
  (.seq (.reg [⟨(some 12), none, none, .mv (.t 0)⟩,
    ⟨(some 13), none, none, .mv (.t 1)⟩,
    ⟨(some 14), none, none, .call .pu 58 [.t 12, .t 13]⟩,
    ⟨none, none, none, .store 2 (.t 4) (.t 14)⟩,
    ⟨(some 5), none, none, .mv (.c (.p (.int .i64 0)))⟩] none)
  .ret))),
  [.cell 4 true 2, .t 5]⟩

theorem c48 : chkF Tryz.prog 48 f48 = true := by kernel_rfl

/-- trammel/zint.Mul -/
def f49 : RFun := ⟨(.seq (.reg [⟨(some 2), none, none, .box (.t 0)⟩,
    ⟨(some 3), none, none, .box (.t 1)⟩,
    ⟨(some 4), none, none, .alloc [.p (.bool false), .nils]⟩] none)
  (.seq (.reg [⟨(some 5), none, none, .fieldA 0 (.t 2)⟩,
    ⟨(some 6), none, none, .load false 1 (.t 5)⟩,
    ⟨(some 7), none, none, .fieldA 0 (.t 3)⟩,
    ⟨(some 8), none, none, .load false 1 (.t 7)⟩,
    ⟨(some 9), none, none, .beq true (.t 6) (.t 8)⟩,
    ⟨(some 10), none, none, .fieldA 1 (.t 2)⟩,
    ⟨(some 11), none, none, .load false 1 (.t 10)⟩,
    ⟨(some 12), none, none, .fieldA 1 (.t 3)⟩,
    ⟨(some 13), none, none, .load false 1 (.t 12)⟩,
    ⟨(some 14), none, none, .call .pu 74 [.t 11, .t 13]⟩,
    ⟨(some 15), none, none, .call .pu 53 [.t 9, .t 14]⟩,
    ⟨none, none, none, .store 2 (.t 4) (.t 15)⟩] (some (0, [])))
  .ret)),
  [.cell 4 true 2]⟩

theorem c49 : chkF Tryz.prog 49 f49 = true := by kernel_rfl

/-- trammel/zint.Floor -/
def f50 : RFun := ⟨(.seq (.reg [⟨(some 2), none, none, .box (.t 0)⟩,
    ⟨(some 3), none, none, .box (.t 1)⟩,
    ⟨(some 4), none, none, .alloc [.p (.bool false), .nils]⟩,
    ⟨(some 5), none, none, .alloc [.p (.bool false), .nils]⟩,
    ⟨(some 6), none, none, .mv (.c (.p (.int .i64 0)))⟩] none)
  (.seq (.reg [⟨(some 13), none, none, .fieldA 1 (.t 2)⟩,
    ⟨(some 14), none, none, .load false 1 (.t 13)⟩,
    ⟨(some 15), none, none, .fieldA 1 (.t 3)⟩,
    ⟨(some 16), none, none, .load false 1 (.t 15)⟩,
    ⟨(some 17), none, none, .call .pu 75 [.t 14, .t 16]⟩,
    ⟨(some 12), none, none, .mv (.t 17)⟩,
    ⟨(some 18), none, none, .extract (.t 12) 0⟩,
    ⟨(some 19), none, none, .extract (.t 12) 1⟩,
    ⟨(some 20), none, none, .extract (.t 12) 2⟩,
    ⟨(some 7), none, none, .mv (.t 18)⟩,
    ⟨(some 8), none, none, .mv (.t 19)⟩,
    ⟨(some 9), none, none, .mv (.t 20)⟩] none)
  (.seq (.seq (.reg [⟨(some 21), none, none, .mv (.t 9)⟩,
    ⟨(some 22), none, none, .bin .neq (.t 21) (.c (.p (.int .i64 0)))⟩] none)
  (.fg [2, 3, 4, 5, 7, 8, 22] (.cond (.t 22)
    (.seq (.reg [⟨(some 23), none, none, .build [.p (.bool false), .nils] []⟩,
    ⟨(some 24), none, none, .build [.p (.bool false), .nils] []⟩,
    ⟨none, none, none, .store 2 (.t 4) (.t 23)⟩,
    ⟨none, none, none, .store 2 (.t 5) (.t 24)⟩,
    ⟨(some 6), none, none, .mv (.c (.p (.int .i64 11)))⟩] none)
    .ret)
    .skip)))
  (.seq (.reg [⟨(some 25), none, none, .fieldA 0 (.t 2)⟩,
    ⟨(some 26), none, none, .load false 1 (.t 25)⟩,
    ⟨(some 27), none, none, .fieldA 0 (.t 3)⟩,
    ⟨(some 28), none, none, .load false 1 (.t 27)⟩,
    ⟨(some 29), none, none, .beq true (.t 26) (.t 28)⟩,
    ⟨(some 30), none, none, .mv (.t 7)⟩,
    ⟨(some 31), none, none, .call .pu 53 [.t 29, .t 30]⟩,
    ⟨(some 32), none, none, .fieldA 0 (.t 2)⟩,
    ⟨(some 33), none, none, .load false 1 (.t 32)⟩,
    ⟨(some 34), none, none, .mv (.t 8)⟩,
    ⟨(some 35), none, none, .call .pu 53 [.t 33, .t 34]⟩,
    ⟨(some 10), none, (some 0), .alloc [.p (.bool false), .nils]⟩,
    ⟨(some 11), none, (some 1), .alloc [.p (.bool false), .nils]⟩,
    ⟨none, none, none, .store 2 (.t 10) (.t 31)⟩,
    ⟨none, none, none, .store 2 (.t 11) (.t 35)⟩] (some (2, [])))
  (.seq (.seq (.reg [⟨(some 36), none, none, .load true 2 (.t 11)⟩,
    ⟨(some 37), none, none, .call .pu 34 [.t 36]⟩,
    ⟨(some 38), none, none, .bin .neq (.t 37) (.c (.p (.int .i64 0)))⟩,
    ⟨(some 39), none, none, .mv (.t 38)⟩,
    ⟨(some 40), (some (39, true)), none, .load true 2 (.t 11)⟩,
    ⟨(some 41), (some (39, true)), none, .call .pu 34 [.t 40]⟩,
    ⟨(some 42), (some (39, true)), none, .load true 2 (.t 3)⟩,
    ⟨(some 43), (some (39, true)), none, .call .pu 34 [.t 42]⟩,
    ⟨(some 44), (some (39, true)), none, .bin .neq (.t 41) (.t 43)⟩,
    ⟨(some 45), none, none, .pick (.t 39) (.t 44) (.c (.p (.bool false)))⟩] (some (0, [])))
  (.fg [3, 4, 5, 10, 11, 45] (.cond (.t 45)
    (.reg [⟨(some 46), none, none, .load true 2 (.t 10)⟩,
    ⟨(some 47), none, none, .call .pu 30 [.c (.p (.int .i64 1))]⟩,
    ⟨(some 48), none, none, .call .pu 37 [.t 46, .t 47]⟩,
    ⟨(some 49), none, none, .load true 2 (.t 11)⟩,
    ⟨(some 50), none, none, .load true 2 (.t 3)⟩,
    ⟨(some 51), none, none, .call .pu 41 [.t 49, .t 50]⟩,
    ⟨none, none, none, .store 2 (.t 10) (.t 48)⟩,
    ⟨none, none, none, .store 2 (.t 11) (.t 51)⟩] (some (0, [])))
    .skip)))
  (.seq (.reg [⟨(some 52), none, none, .load true 2 (.t 10)⟩,
    ⟨(some 53), none, none, .load true 2 (.t 11)⟩,
    ⟨none, none, none, .store 2 (.t 4) (.t 52)⟩,
    ⟨none, none, none, .store 2 (.t 5) (.t 53)⟩,
    ⟨(some 6), none, none, .mv (.c (.p (.int .i64 0)))⟩] (some (0, [(1, 2)])))
  .ret)))))),
  [.cell 4 true 2, .cell 5 true 2, .t 6]⟩

theorem c50 : chkF Tryz.prog 50 f50 = true := by kernel_rfl

/-- trammel/nat.Cmp -/
def f52 : RFun := ⟨(.seq (.reg [⟨(some 4), none, none, .mv (.c (.p (.int .i64 0)))⟩] none)
  (.seq (.reg [⟨(some 6), none, none, .mv (.t 0)⟩,
    ⟨(some 7), none, none, .call .pu 76 [.t 6]⟩,
    ⟨(some 8), none, none, .mv (.t 1)⟩,
    ⟨(some 9), none, none, .call .pu 76 [.t 8]⟩,
    ⟨(some 0), none, none, .mv (.t 7)⟩,
    ⟨(some 1), none, none, .mv (.t 9)⟩] none)
  (.seq (.seq (.reg [⟨(some 10), none, none, .mv (.t 0)⟩,
    ⟨(some 11), none, none, .len (.t 10)⟩,
    ⟨(some 12), none, none, .mv (.t 1)⟩,
    ⟨(some 13), none, none, .len (.t 12)⟩,
    ⟨(some 14), none, none, .bin .neq (.t 11) (.t 13)⟩] none)
  (.fg [0, 1, 14] (.cond (.t 14)
    (.seq (.seq (.reg [⟨(some 15), none, none, .mv (.t 0)⟩,
    ⟨(some 16), none, none, .len (.t 15)⟩,
    ⟨(some 17), none, none, .mv (.t 1)⟩,
    ⟨(some 18), none, none, .len (.t 17)⟩,
    ⟨(some 19), none, none, .bin .lss (.t 16) (.t 18)⟩] none)
    (.fg [19] (.cond (.t 19)
      (.seq (.reg [⟨(some 4), none, none, .mv (.c (.p (.int .i64 (-1))))⟩] none)
      .ret)
      .skip)))
    (.seq (.reg [⟨(some 4), none, none, .mv (.c (.p (.int .i64 1)))⟩] none)
    .ret))
    .skip)))
  (.seq (.seq (.reg [⟨(some 20), none, none, .mv (.t 0)⟩,
    ⟨(some 21), none, none, .len (.t 20)⟩,
    ⟨(some 22), none, none, .bin .sub (.t 21) (.c (.p (.int .i64 1)))⟩,
    ⟨(some 5), none, none, .mv (.t 22)⟩] none)
  (.fg [0, 1, 5] (.block 0
  (.loop (.fg [0, 1, 5]
    (.seq (.seq (.reg [⟨(some 23), none, none, .mv (.t 5)⟩,
    ⟨(some 24), none, none, .bin .geq (.t 23) (.c (.p (.int .i64 0)))⟩] none)
      (.fg [0, 1, 5, 24] (.cond (.t 24)
        .skip
        (.exit 0))))
      (.seq (.block 1
      (.seq (.reg [⟨(some 27), none, none, .mv (.t 0)⟩,
    ⟨(some 28), none, none, .mv (.t 5)⟩,
    ⟨(some 29), none, none, .indexA 1 (.t 27) (.t 28)⟩,
    ⟨(some 30), none, none, .load false 1 (.t 29)⟩,
    ⟨(some 31), none, none, .mv (.t 1)⟩,
    ⟨(some 32), none, none, .mv (.t 5)⟩,
    ⟨(some 33), none, none, .indexA 1 (.t 31) (.t 32)⟩,
    ⟨(some 34), none, none, .load false 1 (.t 33)⟩,
    ⟨(some 35), none, none, .bin .neq (.t 30) (.t 34)⟩] (some (0, [])))
        (.fg [0, 1, 5, 35] (.cond (.t 35)
          (.seq (.seq (.reg [⟨(some 36), none, none, .mv (.t 0)⟩,
    ⟨(some 37), none, none, .mv (.t 5)⟩,
    ⟨(some 38), none, none, .indexA 1 (.t 36) (.t 37)⟩,
    ⟨(some 39), none, none, .load false 1 (.t 38)⟩,
    ⟨(some 40), none, none, .mv (.t 1)⟩,
    ⟨(some 41), none, none, .mv (.t 5)⟩,
    ⟨(some 42), none, none, .indexA 1 (.t 40) (.t 41)⟩,
    ⟨(some 43), none, none, .load false 1 (.t 42)⟩,
    ⟨(some 44), none, none, .bin .lss (.t 39) (.t 43)⟩] (some (0, [])))
          (.fg [44] (.cond (.t 44)
            (.seq (.reg [⟨(some 4), none, none, .mv (.c (.p (.int .i64 (-1))))⟩] none)
            .ret)
            .skip)))
          (.seq (.reg [⟨(some 4), none, none, .mv (.c (.p (.int .i64 1)))⟩] none)
          .ret))
          .skip))))
      (.fg [0, 1, 5] (.reg [⟨(some 25), none, none, .mv (.t 5)⟩,
    ⟨(some 26), none, none, .bin .sub (.t 25) (.c (.p (.int .i64 1)))⟩,
    ⟨(some 5), none, none, .mv (.t 26)⟩] none)))))))))
  (.seq (.reg [⟨(some 4), none, none, .mv (.c (.p (.int .i64 0)))⟩] none)
  .ret))))),
  [.t 4]⟩

theorem c52 : chkF Tryz.prog 52 f52 = true := by kernel_rfl

/-- trammel/zint.made -/
def f53 : RFun := ⟨(.seq (.reg [⟨(some 4), none, none, .alloc [.p (.bool false), .nils]⟩] none)
  (.seq (.reg [⟨(some 7), none, none, .mv (.t 1)⟩,
    ⟨(some 8), none, none, .len (.t 7)⟩,
    ⟨(some 5), none, none, .mv (.t 8)⟩] none)
  (.seq (.block 0
  (.loop (.fg [0, 1, 4, 5]
    (.seq (.seq (.reg [⟨(some 9), none, none, .mv (.t 5)⟩,
    ⟨(some 10), none, none, .bin .gtr (.t 9) (.c (.p (.int .i64 0)))⟩,
    ⟨(some 11), none, none, .mv (.t 10)⟩,
    ⟨(some 12), (some (11, true)), none, .mv (.t 1)⟩,
    ⟨(some 13), (some (11, true)), none, .mv (.t 5)⟩,
    ⟨(some 14), (some (11, true)), none, .bin .sub (.t 13) (.c (.p (.int .i64 1)))⟩,
    ⟨(some 15), (some (11, true)), none, .indexA 1 (.t 12) (.t 14)⟩,
    ⟨(some 16), (some (11, true)), none, .load false 1 (.t 15)⟩,
    ⟨(some 17), (some (11, true)), none, .bin .eql (.t 16) (.c (.p (.int .u32 0)))⟩,
    ⟨(some 18), none, none, .pick (.t 11) (.t 17) (.c (.p (.bool false)))⟩] none)
      (.fg [0, 1, 4, 5, 18] (.cond (.t 18)
        .skip
        (.exit 0))))
      (.fg [0, 1, 4, 5] (.block 1
      (.reg [⟨(some 19), none, none, .mv (.t 5)⟩,
    ⟨(some 20), none, none, .bin .sub (.t 19) (.c (.p (.int .i64 1)))⟩,
    ⟨(some 5), none, none, .mv (.t 20)⟩] none)))))))
  (.fg [0, 1, 4, 5] (.seq (.seq (.reg [⟨(some 21), none, none, .mv (.t 5)⟩,
    ⟨(some 22), none, none, .bin .eql (.t 21) (.c (.p (.int .i64 0)))⟩] none)
  (.fg [0, 1, 4, 5, 22] (.cond (.t 22)
    (.seq (.reg [⟨(some 23), none, none, .build [.p (.bool false), .nils] []⟩,
    ⟨none, none, none, .store 2 (.t 4) (.t 23)⟩] none)
    .ret)
    .skip)))
  (.seq (.reg [⟨(some 24), none, none, .mv (.t 5)⟩,
    ⟨(some 25), none, none, .mks false 1 4 (.int .u32 0) (.t 24) (.t 24)⟩,
    ⟨(some 6), none, none, .mv (.t 25)⟩] none)
  (.seq (.reg [⟨(some 26), none, none, .mv (.t 6)⟩,
    ⟨(some 27), none, none, .mv (.t 1)⟩,
    ⟨(some 28), none, none, .copy 1 (.t 26) (.t 27)⟩] none)
  (.seq (.reg [⟨(some 29), none, none, .mv (.t 0)⟩,
    ⟨(some 30), none, none, .mv (.t 6)⟩,
    ⟨(some 31), none, none, .build [.p (.bool false), .nils] [(0, 1, .t 29), (1, 1, .t 30)]⟩,
    ⟨none, none, none, .store 2 (.t 4) (.t 31)⟩] none)
  .ret)))))))),
  [.cell 4 true 2]⟩

theorem c53 : chkF Tryz.prog 53 f53 = true := by kernel_rfl

/-- trammel/zint.Neg -/
def f55 : RFun := ⟨(.seq (.reg [⟨(some 1), none, none, .box (.t 0)⟩,
    ⟨(some 2), none, none, .alloc [.p (.bool false), .nils]⟩] none)
  (.seq (.reg [⟨(some 3), none, none, .fieldA 0 (.t 1)⟩,
    ⟨(some 4), none, none, .load false 1 (.t 3)⟩,
    ⟨(some 5), none, none, .un .not (.t 4)⟩,
    ⟨(some 6), none, none, .fieldA 1 (.t 1)⟩,
    ⟨(some 7), none, none, .load false 1 (.t 6)⟩,
    ⟨(some 8), none, none, .call .pu 53 [.t 5, .t 7]⟩,
    ⟨none, none, none, .store 2 (.t 2) (.t 8)⟩] none)
  .ret)),
  [.cell 2 true 2]⟩

theorem c55 : chkF Tryz.prog 55 f55 = true := by kernel_rfl

/-- trammel/nat.Bits -/
def f57 : RFun := ⟨(.seq (.reg [⟨(some 2), none, none, .mv (.c (.p (.int .i64 0)))⟩] none)
  (.seq (.reg [⟨(some 3), none, none, .mv (.t 0)⟩,
    ⟨(some 4), none, none, .call .pu 76 [.t 3]⟩,
    ⟨(some 0), none, none, .mv (.t 4)⟩] none)
  (.seq (.seq (.reg [⟨(some 5), none, none, .mv (.t 0)⟩,
    ⟨(some 6), none, none, .len (.t 5)⟩,
    ⟨(some 7), none, none, .bin .eql (.t 6) (.c (.p (.int .i64 0)))⟩] none)
  (.fg [0, 7] (.cond (.t 7)
    (.seq (.reg [⟨(some 2), none, none, .mv (.c (.p (.int .i64 0)))⟩] none)
    .ret)
    .skip)))
  (.seq (.reg [⟨(some 8), none, none, .mv (.t 0)⟩,
    ⟨(some 9), none, none, .len (.t 8)⟩,
    ⟨(some 10), none, none, .bin .sub (.t 9) (.c (.p (.int .i64 1)))⟩,
    ⟨(some 11), none, none, .bin .mul (.c (.p (.int .i64 32))) (.t 10)⟩,
    ⟨(some 12), none, none, .mv (.t 0)⟩,
    ⟨(some 13), none, none, .mv (.t 0)⟩,
    ⟨(some 14), none, none, .len (.t 13)⟩,
    ⟨(some 15), none, none, .bin .sub (.t 14) (.c (.p (.int .i64 1)))⟩,
    ⟨(some 16), none, none, .indexA 1 (.t 12) (.t 15)⟩,
    ⟨(some 17), none, none, .load false 1 (.t 16)⟩,
    ⟨(some 18), none, none, .call .pu 78 [.t 17]⟩,
    ⟨(some 19), none, none, .bin .add (.t 11) (.t 18)⟩,
    ⟨(some 2), none, none, .mv (.t 19)⟩] none)
  .ret)))),
  [.t 2]⟩

theorem c57 : chkF Tryz.prog 57 f57 = true := by kernel_rfl

/-- trammel/mat.dot -/
def f58 : RFun := ⟨(.seq (.reg [⟨(some 4), none, none, .alloc [.p (.bool false), .nils]⟩] none)
  (.seq (.reg [⟨(some 5), none, none, .alloc [.p (.bool false), .nils]⟩] none)
  (.seq (.seq (.reg [⟨(some 7), none, none, .mv (.t 0)⟩,
    ⟨(some 8), none, none, .len (.t 7)⟩,
    ⟨(some 9), none, none, .mv (.c (.p (.int .i64 0)))⟩] none)
  (.fg [0, 1, 4, 5, 8, 9] (.block 0
  (.loop (.fg [0, 1, 4, 5, 8, 9]
    (.seq (.reg [⟨(some 10), none, none, .bin .lss (.t 9) (.t 8)⟩] none)
      (.seq (.cond (.t 10)
        .skip
        (.exit 0))
      (.fg [0, 1, 4, 5, 8, 9] (.seq (.block 1
      (.seq (.reg [⟨(some 11), none, none, .mv (.t 9)⟩,
    ⟨(some 6), none, none, .mv (.t 11)⟩] none)
        (.reg [⟨(some 12), none, none, .load true 2 (.t 5)⟩,
    ⟨(some 13), none, none, .mv (.t 0)⟩,
    ⟨(some 14), none, none, .mv (.t 6)⟩,
    ⟨(some 15), none, none, .indexA 2 (.t 13) (.t 14)⟩,
    ⟨(some 16), none, none, .load true 2 (.t 15)⟩,
    ⟨(some 17), none, none, .mv (.t 1)⟩,
    ⟨(some 18), none, none, .mv (.t 6)⟩,
    ⟨(some 19), none, none, .indexA 2 (.t 17) (.t 18)⟩,
    ⟨(some 20), none, none, .load true 2 (.t 19)⟩,
    ⟨(some 21), none, none, .call .pu 49 [.t 16, .t 20]⟩,
    ⟨(some 22), none, none, .call .pu 41 [.t 12, .t 21]⟩,
    ⟨none, none, none, .store 2 (.t 5) (.t 22)⟩] (some (0, [])))))
      (.fg [0, 1, 4, 5, 8, 9] (.reg [⟨(some 23), none, none, .bin .add (.t 9) (.c (.p (.int .i64 1)))⟩,
    ⟨(some 9), none, none, .mv (.t 23)⟩] none)))))))))))
  (.seq (.reg [⟨(some 24), none, none, .load true 2 (.t 5)⟩,
    ⟨none, none, none, .store 2 (.t 4) (.t 24)⟩] none)
  .ret)))),
  [.cell 4 true 2]⟩

theorem c58 : chkF Tryz.prog 58 f58 = true := by kernel_rfl

/-- trammel/nat.Add -/
def f64 : RFun := ⟨(.seq (.reg [⟨(some 4), none, none, .mv (.c (.nils))⟩] none)
  (.seq (.seq (.reg [⟨(some 8), none, none, .mv (.t 0)⟩,
    ⟨(some 9), none, none, .len (.t 8)⟩,
    ⟨(some 10), none, none, .mv (.t 1)⟩,
    ⟨(some 11), none, none, .len (.t 10)⟩,
    ⟨(some 12), none, none, .bin .lss (.t 9) (.t 11)⟩] none)
  (.fg [0, 1, 12] (.cond (.t 12)
    (.reg [⟨(some 13), none, none, .mv (.t 1)⟩,
    ⟨(some 14), none, none, .mv (.t 0)⟩,
    ⟨(some 0), none, none, .mv (.t 13)⟩,
    ⟨(some 1), none, none, .mv (.t 14)⟩] none)
    .skip)))
  (.seq (.reg [⟨(some 15), none, none, .mv (.t 0)⟩,
    ⟨(some 16), none, none, .len (.t 15)⟩,
    ⟨(some 17), none, none, .bin .add (.t 16) (.c (.p (.int .i64 1)))⟩,
    ⟨(some 18), none, none, .mks false 1 4 (.int .u32 0) (.t 17) (.t 17)⟩,
    ⟨(some 5), none, none, .mv (.t 18)⟩] none)
  (.seq (.reg [⟨(some 6), none, none, .mv (.c (.p (.int .u64 0)))⟩] none)
  (.seq (.seq (.reg [⟨(some 19), none, none, .mv (.t 0)⟩,
    ⟨(some 20), none, none, .len (.t 19)⟩,
    ⟨(some 21), none, none, .mv (.c (.p (.int .i64 0)))⟩] none)
  (.fg [0, 1, 5, 6, 20, 21] (.block 0
  (.loop (.fg [0, 1, 5, 6, 20, 21]
    (.seq (.reg [⟨(some 22), none, none, .bin .lss (.t 21) (.t 20)⟩] none)
      (.seq (.cond (.t 22)
        .skip
        (.exit 0))
      (.fg [0, 1, 5, 6, 20, 21] (.seq (.block 1
      (.seq (.reg [⟨(some 23), none, none, .mv (.t 21)⟩,
    ⟨(some 7), none, none, .mv (.t 23)⟩] none)
        (.seq (.reg [⟨(some 24), none, none, .mv (.t 6)⟩,
    ⟨(some 25), none, none, .mv (.t 0)⟩,
    ⟨(some 26), none, none, .mv (.t 7)⟩,
    ⟨(some 27), none, none, .indexA 1 (.t 25) (.t 26)⟩,
    ⟨(some 28), none, none, .load false 1 (.t 27)⟩,
    ⟨(some 29), none, none, .conv .u64 (.t 28)⟩,
    ⟨(some 30), none, none, .bin .add (.t 24) (.t 29)⟩,
    ⟨(some 6), none, none, .mv (.t 30)⟩] none)
        (.seq (.seq (.reg [⟨(some 31), none, none, .mv (.t 7)⟩,
    ⟨(some 32), none, none, .mv (.t 1)⟩,
    ⟨(some 33), none, none, .len (.t 32)⟩,
    ⟨(some 34), none, none, .bin .lss (.t 31) (.t 33)⟩] none)
        (.fg [0, 1, 5, 6, 7, 20, 21, 34] (.cond (.t 34)
          (.reg [⟨(some 35), none, none, .mv (.t 6)⟩,
    ⟨(some 36), none, none, .mv (.t 1)⟩,
    ⟨(some 37), none, none, .mv (.t 7)⟩,
    ⟨(some 38), none, none, .indexA 1 (.t 36) (.t 37)⟩,
    ⟨(some 39), none, none, .load false 1 (.t 38)⟩,
    ⟨(some 40), none, none, .conv .u64 (.t 39)⟩,
    ⟨(some 41), none, none, .bin .add (.t 35) (.t 40)⟩,
    ⟨(some 6), none, none, .mv (.t 41)⟩] none)
          .skip)))
        (.seq (.reg [⟨(some 42), none, none, .mv (.t 5)⟩,
    ⟨(some 43), none, none, .mv (.t 7)⟩,
    ⟨(some 44), none, none, .mv (.t 6)⟩,
    ⟨(some 45), none, none, .conv .u32 (.t 44)⟩,
    ⟨(some 46), none, none, .indexA 1 (.t 42) (.t 43)⟩,
    ⟨none, none, none, .store 1 (.t 46) (.t 45)⟩] none)
        (.reg [⟨(some 47), none, none, .mv (.t 6)⟩,
    ⟨(some 48), none, none, .bin .shr (.t 47) (.c (.p (.int .u64 32)))⟩,
    ⟨(some 6), none, none, .mv (.t 48)⟩] none))))))
      (.fg [0, 1, 5, 6, 20, 21] (.reg [⟨(some 49), none, none, .bin .add (.t 21) (.c (.p (.int .i64 1)))⟩,
    ⟨(some 21), none, none, .mv (.t 49)⟩] none)))))))))))
  (.seq (.reg [⟨(some 50), none, none, .mv (.t 5)⟩,
    ⟨(some 51), none, none, .mv (.t 0)⟩,
    ⟨(some 52), none, none, .len (.t 51)⟩,
    ⟨(some 53), none, none, .mv (.t 6)⟩,
    ⟨(some 54), none, none, .conv .u32 (.t 53)⟩,
    ⟨(some 55), none, none, .indexA 1 (.t 50) (.t 52)⟩,
    ⟨none, none, none, .store 1 (.t 55) (.t 54)⟩] none)
  (.seq (.reg [⟨(some 56), none, none, .mv (.t 5)⟩,
    ⟨(some 57), none, none, .call .fz 76 [.t 56]⟩,
    ⟨(some 4), none, none, .mv (.t 57)⟩] none)
  .ret))))))),
  [.t 4]⟩

theorem c64 : chkF Tryz.prog 64 f64 = true := by kernel_rfl

/-- trammel/nat.Sub -/
def f65 : RFun := ⟨(.seq (.reg [⟨(some 4), none, none, .mv (.c (.nils))⟩,
    ⟨(some 5), none, none, .mv (.c (.p (.int .i64 0)))⟩] none)
  (.seq (.seq (.reg [⟨(some 6), none, none, .mv (.t 0)⟩,
    ⟨(some 7), none, none, .mv (.t 1)⟩,
    ⟨(some 8), none, none, .call .pu 52 [.t 6, .t 7]⟩,
    ⟨(some 9), none, none, .bin .lss (.t 8) (.c (.p (.int .i64 0)))⟩] none)
  (.fg [0, 1, 9] (.cond (.t 9)
    (.seq (.reg [⟨(some 4), none, none, .mv (.c (.nils))⟩,
    ⟨(some 5), none, none, .mv (.c (.p (.int .i64 10)))⟩] none)
    .ret)
    .skip)))
  (.seq (.reg [⟨(some 10), none, none, .mv (.t 0)⟩,
    ⟨(some 11), none, none, .call .pu 76 [.t 10]⟩,
    ⟨(some 12), none, none, .mv (.t 1)⟩,
    ⟨(some 13), none, none, .call .pu 76 [.t 12]⟩,
    ⟨(some 14), none, none, .call .pu 90 [.t 11, .t 13]⟩,
    ⟨(some 4), none, none, .mv (.t 14)⟩,
    ⟨(some 5), none, none, .mv (.c (.p (.int .i64 0)))⟩] none)
  .ret))),
  [.t 4, .t 5]⟩

theorem c65 : chkF Tryz.prog 65 f65 = true := by kernel_rfl

/-- trammel/trammelref01.Norm -/
def f72 : RFun := ⟨(.seq (.reg [⟨(some 2), none, none, .mv (.c (.nils))⟩] none)
  (.seq (.reg [⟨(some 6), none, none, .mv (.t 0)⟩,
    ⟨(some 7), none, none, .len (.t 6)⟩,
    ⟨(some 3), none, none, .mv (.t 7)⟩] none)
  (.seq (.block 0
  (.loop (.fg [0, 3]
    (.seq (.seq (.reg [⟨(some 8), none, none, .mv (.t 3)⟩,
    ⟨(some 9), none, none, .bin .gtr (.t 8) (.c (.p (.int .i64 0)))⟩,
    ⟨(some 10), none, none, .mv (.t 9)⟩,
    ⟨(some 11), (some (10, true)), none, .mv (.t 0)⟩,
    ⟨(some 12), (some (10, true)), none, .mv (.t 3)⟩,
    ⟨(some 13), (some (10, true)), none, .bin .sub (.t 12) (.c (.p (.int .i64 1)))⟩,
    ⟨(some 14), (some (10, true)), none, .indexA 1 (.t 11) (.t 13)⟩,
    ⟨(some 15), (some (10, true)), none, .load false 1 (.t 14)⟩,
    ⟨(some 16), (some (10, true)), none, .bin .eql (.t 15) (.c (.p (.int .u32 0)))⟩,
    ⟨(some 17), none, none, .pick (.t 10) (.t 16) (.c (.p (.bool false)))⟩] none)
      (.fg [0, 3, 17] (.cond (.t 17)
        .skip
        (.exit 0))))
      (.fg [0, 3] (.block 1
      (.reg [⟨(some 18), none, none, .mv (.t 3)⟩,
    ⟨(some 19), none, none, .bin .sub (.t 18) (.c (.p (.int .i64 1)))⟩,
    ⟨(some 3), none, none, .mv (.t 19)⟩] none)))))))
  (.fg [0, 3] (.seq (.reg [⟨(some 4), none, none, .mv (.c (.nils))⟩] none)
  (.seq (.seq (.reg [⟨(some 5), none, none, .mv (.c (.p (.int .i64 0)))⟩] none)
  (.fg [0, 3, 4, 5] (.block 2
  (.loop (.fg [0, 3, 4, 5]
    (.seq (.seq (.reg [⟨(some 20), none, none, .mv (.t 5)⟩,
    ⟨(some 21), none, none, .mv (.t 3)⟩,
    ⟨(some 22), none, none, .bin .lss (.t 20) (.t 21)⟩] none)
      (.fg [0, 3, 4, 5, 22] (.cond (.t 22)
        .skip
        (.exit 2))))
      (.seq (.block 3
      (.reg [⟨(some 25), none, none, .mv (.t 4)⟩,
    ⟨(some 26), none, none, .mv (.t 0)⟩,
    ⟨(some 27), none, none, .mv (.t 5)⟩,
    ⟨(some 28), none, none, .indexA 1 (.t 26) (.t 27)⟩,
    ⟨(some 29), none, none, .load false 1 (.t 28)⟩,
    ⟨(some 30), none, none, .bslice 1 [.t 29]⟩,
    ⟨(some 31), none, none, .append 1 4 (.t 25) (.t 30)⟩,
    ⟨(some 4), none, none, .mv (.t 31)⟩] none))
      (.fg [0, 3, 4, 5] (.reg [⟨(some 23), none, none, .mv (.t 5)⟩,
    ⟨(some 24), none, none, .bin .add (.t 23) (.c (.p (.int .i64 1)))⟩,
    ⟨(some 5), none, none, .mv (.t 24)⟩] none)))))))))
  (.seq (.reg [⟨(some 32), none, none, .mv (.t 4)⟩,
    ⟨(some 2), none, none, .mv (.t 32)⟩] none)
  .ret))))))),
  [.t 2]⟩

theorem c72 : chkF Tryz.prog 72 f72 = true := by kernel_rfl

/-- trammel/zint.Bits -/
def f73 : RFun := ⟨(.seq (.reg [⟨(some 1), none, none, .box (.t 0)⟩,
    ⟨(some 2), none, none, .mv (.c (.p (.int .i64 0)))⟩] none)
  (.seq (.reg [⟨(some 3), none, none, .fieldA 1 (.t 1)⟩,
    ⟨(some 4), none, none, .load false 1 (.t 3)⟩,
    ⟨(some 5), none, none, .call .pu 57 [.t 4]⟩,
    ⟨(some 2), none, none, .mv (.t 5)⟩] none)
  .ret)),
  [.t 2]⟩

theorem c73 : chkF Tryz.prog 73 f73 = true := by kernel_rfl

/-- trammel/nat.Mul -/
def f74 : RFun := ⟨(.seq (.reg [⟨(some 4), none, none, .mv (.c (.nils))⟩] none)
  (.seq (.reg [⟨(some 9), none, none, .mv (.t 0)⟩,
    ⟨(some 10), none, none, .call .pu 76 [.t 9]⟩,
    ⟨(some 11), none, none, .mv (.t 1)⟩,
    ⟨(some 12), none, none, .call .pu 76 [.t 11]⟩,
    ⟨(some 0), none, none, .mv (.t 10)⟩,
    ⟨(some 1), none, none, .mv (.t 12)⟩] none)
  (.seq (.reg [⟨(some 13), none, none, .mv (.t 0)⟩,
    ⟨(some 14), none, none, .len (.t 13)⟩,
    ⟨(some 15), none, none, .mv (.t 1)⟩,
    ⟨(some 16), none, none, .len (.t 15)⟩,
    ⟨(some 17), none, none, .bin .add (.t 14) (.t 16)⟩,
    ⟨(some 18), none, none, .mks false 1 4 (.int .u32 0) (.t 17) (.t 17)⟩,
    ⟨(some 5), none, none, .mv (.t 18)⟩] none)
  (.seq (.seq (.reg [⟨(some 19), none, none, .mv (.t 0)⟩,
    ⟨(some 20), none, none, .len (.t 19)⟩,
    ⟨(some 21), none, none, .mv (.c (.p (.int .i64 0)))⟩] none)
  (.fg [0, 1, 5, 20, 21] (.block 0
  (.loop (.fg [0, 1, 5, 20, 21]
    (.seq (.reg [⟨(some 22), none, none, .bin .lss (.t 21) (.t 20)⟩] none)
      (.seq (.cond (.t 22)
        .skip
        (.exit 0))
      (.fg [0, 1, 5, 20, 21] (.seq (.block 1
      (.seq (.reg [⟨(some 23), none, none, .mv (.t 21)⟩,
    ⟨(some 6), none, none, .mv (.t 23)⟩] none)
        (.seq (.reg [⟨(some 7), none, none, .mv (.c (.p (.int .u64 0)))⟩] none)
        (.seq (.seq (.reg [⟨(some 24), none, none, .mv (.t 1)⟩,
    ⟨(some 25), none, none, .len (.t 24)⟩,
    ⟨(some 26), none, none, .mv (.c (.p (.int .i64 0)))⟩] none)
        (.fg [0, 1, 5, 6, 7, 20, 21, 25, 26] (.block 2
        (.loop (.fg [0, 1, 5, 6, 7, 20, 21, 25, 26]
          (.seq (.reg [⟨(some 27), none, none, .bin .lss (.t 26) (.t 25)⟩] none)
            (.seq (.cond (.t 27)
              .skip
              (.exit 2))
            (.fg [0, 1, 5, 6, 7, 20, 21, 25, 26] (.seq (.block 3
            (.seq (.reg [⟨(some 28), none, none, .mv (.t 26)⟩,
    ⟨(some 8), none, none, .mv (.t 28)⟩] none)
              (.seq (.reg [⟨(some 29), none, none, .mv (.t 7)⟩,
    ⟨(some 30), none, none, .mv (.t 0)⟩,
    ⟨(some 31), none, none, .mv (.t 6)⟩,
    ⟨(some 32), none, none, .indexA 1 (.t 30) (.t 31)⟩,
    ⟨(some 33), none, none, .load false 1 (.t 32)⟩,
    ⟨(some 34), none, none, .conv .u64 (.t 33)⟩,
    ⟨(some 35), none, none, .mv (.t 1)⟩,
    ⟨(some 36), none, none, .mv (.t 8)⟩,
    ⟨(some 37), none, none, .indexA 1 (.t 35) (.t 36)⟩,
    ⟨(some 38), none, none, .load false 1 (.t 37)⟩,
    ⟨(some 39), none, none, .conv .u64 (.t 38)⟩,
    ⟨(some 40), none, none, .bin .mul (.t 34) (.t 39)⟩,
    ⟨(some 41), none, none, .mv (.t 5)⟩,
    ⟨(some 42), none, none, .mv (.t 6)⟩,
    ⟨(some 43), none, none, .mv (.t 8)⟩,
    ⟨(some 44), none, none, .bin .add (.t 42) (.t 43)⟩,
    ⟨(some 45), none, none, .indexA 1 (.t 41) (.t 44)⟩,
    ⟨(some 46), none, none, .load false 1 (.t 45)⟩,
    ⟨(some 47), none, none, .conv .u64 (.t 46)⟩,
    ⟨(some 48), none, none, .bin .add (.t 40) (.t 47)⟩,
    ⟨(some 49), none, none, .bin .add (.t 29) (.t 48)⟩,
    ⟨(some 7), none, none, .mv (.t 49)⟩] (some (0, [])))
              (.seq (.reg [⟨(some 50), none, none, .mv (.t 5)⟩,
    ⟨(some 51), none, none, .mv (.t 6)⟩,
    ⟨(some 52), none, none, .mv (.t 8)⟩,
    ⟨(some 53), none, none, .bin .add (.t 51) (.t 52)⟩,
    ⟨(some 54), none, none, .mv (.t 7)⟩,
    ⟨(some 55), none, none, .conv .u32 (.t 54)⟩,
    ⟨(some 56), none, none, .indexA 1 (.t 50) (.t 53)⟩,
    ⟨none, none, none, .store 1 (.t 56) (.t 55)⟩] none)
              (.reg [⟨(some 57), none, none, .mv (.t 7)⟩,
    ⟨(some 58), none, none, .bin .shr (.t 57) (.c (.p (.int .u64 32)))⟩,
    ⟨(some 7), none, none, .mv (.t 58)⟩] none)))))
            (.fg [0, 1, 5, 6, 7, 20, 21, 25, 26] (.reg [⟨(some 59), none, none, .bin .add (.t 26) (.c (.p (.int .i64 1)))⟩,
    ⟨(some 26), none, none, .mv (.t 59)⟩] none)))))))))))
        (.reg [⟨(some 60), none, none, .mv (.t 5)⟩,
    ⟨(some 61), none, none, .mv (.t 6)⟩,
    ⟨(some 62), none, none, .mv (.t 1)⟩,
    ⟨(some 63), none, none, .len (.t 62)⟩,
    ⟨(some 64), none, none, .bin .add (.t 61) (.t 63)⟩,
    ⟨(some 65), none, none, .mv (.t 7)⟩,
    ⟨(some 66), none, none, .conv .u32 (.t 65)⟩,
    ⟨(some 67), none, none, .indexA 1 (.t 60) (.t 64)⟩,
    ⟨none, none, none, .store 1 (.t 67) (.t 66)⟩] none)))))
      (.fg [0, 1, 5, 20, 21] (.reg [⟨(some 68), none, none, .bin .add (.t 21) (.c (.p (.int .i64 1)))⟩,
    ⟨(some 21), none, none, .mv (.t 68)⟩] none)))))))))))
  (.seq (.reg [⟨(some 69), none, none, .mv (.t 5)⟩,
    ⟨(some 70), none, none, .call .fz 76 [.t 69]⟩,
    ⟨(some 4), none, none, .mv (.t 70)⟩] none)
  .ret))))),
  [.t 4]⟩

theorem c74 : chkF Tryz.prog 74 f74 = true := by kernel_rfl

/-- trammel/nat.Div -/
def f75 : RFun := ⟨(.seq (.reg [⟨(some 4), none, none, .mv (.c (.nils))⟩,
    ⟨(some 5), none, none, .mv (.c (.nils))⟩,
    ⟨(some 6), none, none, .mv (.c (.p (.int .i64 0)))⟩] none)
  (.seq (.reg [⟨(some 14), none, none, .mv (.t 0)⟩,
    ⟨(some 15), none, none, .call .pu 76 [.t 14]⟩,
    ⟨(some 16), none, none, .mv (.t 1)⟩,
    ⟨(some 17), none, none, .call .pu 76 [.t 16]⟩,
    ⟨(some 0), none, none, .mv (.t 15)⟩,
    ⟨(some 1), none, none, .mv (.t 17)⟩] none)
  (.seq (.block 0
  (.seq (.reg [⟨(some 19), none, none, .mv (.t 1)⟩,
    ⟨(some 20), none, none, .len (.t 19)⟩,
    ⟨(some 21), none, none, .bin .eql (.t 20) (.c (.p (.int .i64 0)))⟩,
    ⟨(some 18), none, none, .mv (.t 21)⟩] none)
    (.fg [0, 1, 18] (.cond (.t 18)
      (.seq (.reg [⟨(some 4), none, none, .mv (.c (.nils))⟩,
    ⟨(some 5), none, none, .mv (.c (.nils))⟩,
    ⟨(some 6), none, none, .mv (.c (.p (.int .i64 11)))⟩] none)
      .ret)
      (.seq (.reg [⟨(some 23), none, none, .mv (.t 0)⟩,
    ⟨(some 24), none, none, .mv (.t 1)⟩,
    ⟨(some 25), none, none, .call .pu 52 [.t 23, .t 24]⟩,
    ⟨(some 26), none, none, .bin .lss (.t 25) (.c (.p (.int .i64 0)))⟩,
    ⟨(some 22), none, none, .mv (.t 26)⟩] none)
      (.fg [0, 1, 22] (.cond (.t 22)
        (.seq (.reg [⟨(some 27), none, none, .mv (.t 0)⟩,
    ⟨(some 28), none, none, .call .pu 94 [.t 27]⟩,
    ⟨(some 4), none, none, .mv (.c (.nils))⟩,
    ⟨(some 5), none, none, .mv (.t 28)⟩,
    ⟨(some 6), none, none, .mv (.c (.p (.int .i64 0)))⟩] none)
        .ret)
        (.seq (.reg [⟨(some 30), none, none, .mv (.t 1)⟩,
    ⟨(some 31), none, none, .len (.t 30)⟩,
    ⟨(some 32), none, none, .bin .eql (.t 31) (.c (.p (.int .i64 1)))⟩,
    ⟨(some 29), none, none, .mv (.t 32)⟩] none)
        (.fg [0, 1, 29] (.cond (.t 29)
          (.seq (.reg [⟨(some 34), none, none, .mv (.t 0)⟩,
    ⟨(some 35), none, none, .mv (.t 1)⟩,
    ⟨(some 36), none, none, .indexA 1 (.t 35) (.c (.p (.int .i64 0)))⟩,
    ⟨(some 37), none, none, .load false 1 (.t 36)⟩,
    ⟨(some 38), none, none, .call .pu 95 [.t 34, .t 37]⟩,
    ⟨(some 33), none, none, .mv (.t 38)⟩,
    ⟨(some 39), none, none, .extract (.t 33) 0⟩,
    ⟨(some 40), none, none, .extract (.t 33) 1⟩,
    ⟨(some 7), none, none, .mv (.t 39)⟩,
    ⟨(some 8), none, none, .mv (.t 40)⟩] none)
          (.seq (.reg [⟨(some 41), none, none, .mv (.t 7)⟩,
    ⟨(some 42), none, none, .mv (.t 8)⟩,
    ⟨(some 43), none, none, .bslice 1 [.t 42]⟩,
    ⟨(some 44), none, none, .call .fz 76 [.t 43]⟩,
    ⟨(some 4), none, none, .mv (.t 41)⟩,
    ⟨(some 5), none, none, .mv (.t 44)⟩,
    ⟨(some 6), none, none, .mv (.c (.p (.int .i64 0)))⟩] none)
          .ret))
          .skip))))))))))
  (.fg [0, 1] (.seq (.reg [⟨(some 45), none, none, .mv (.t 1)⟩,
    ⟨(some 46), none, none, .mv (.t 1)⟩,
    ⟨(some 47), none, none, .len (.t 46)⟩,
    ⟨(some 48), none, none, .bin .sub (.t 47) (.c (.p (.int .i64 1)))⟩,
    ⟨(some 49), none, none, .indexA 1 (.t 45) (.t 48)⟩,
    ⟨(some 50), none, none, .load false 1 (.t 49)⟩,
    ⟨(some 51), none, none, .call .pu 96 [.t 50]⟩,
    ⟨(some 9), none, none, .mv (.t 51)⟩] none)
  (.seq (.reg [⟨(some 52), none, none, .mv (.t 1)⟩,
    ⟨(some 53), none, none, .mv (.t 9)⟩,
    ⟨(some 54), none, none, .call .pu 97 [.t 52, .t 53]⟩,
    ⟨(some 10), none, none, .mv (.t 54)⟩] none)
  (.seq (.reg [⟨(some 55), none, none, .mv (.t 0)⟩,
    ⟨(some 56), none, none, .mv (.t 9)⟩,
    ⟨(some 57), none, none, .call .pu 97 [.t 55, .t 56]⟩,
    ⟨(some 58), none, none, .bslice 1 [.c (.p (.int .u32 0)), .c (.p (.int .u32 0))]⟩,
    ⟨(some 59), none, none, .append 1 4 (.t 57) (.t 58)⟩,
    ⟨(some 60), none, none, .mv (.t 0)⟩,
    ⟨(some 61), none, none, .len (.t 60)⟩,
    ⟨(some 62), none, none, .bin .add (.t 61) (.c (.p (.int .i64 1)))⟩,
    ⟨(some 63), none, none, .slice 1 (.t 59) none (some (.t 62)) none⟩,
    ⟨(some 11), none, none, .mv (.t 63)⟩] none)
  (.seq (.reg [⟨(some 64), none, none, .mv (.t 0)⟩,
    ⟨(some 65), none, none, .len (.t 64)⟩,
    ⟨(some 66), none, none, .mv (.t 1)⟩,
    ⟨(some 67), none, none, .len (.t 66)⟩,
    ⟨(some 68), none, none, .bin .sub (.t 65) (.t 67)⟩,
    ⟨(some 69), none, none, .bin .add (.t 68) (.c (.p (.int .i64 1)))⟩,
    ⟨(some 70), none, none, .mks false 1 4 (.int .u32 0) (.t 69) (.t 69)⟩,
    ⟨(some 12), none, none, .mv (.t 70)⟩] none)
  (.seq (.seq (.reg [⟨(some 71), none, none, .mv (.t 0)⟩,
    ⟨(some 72), none, none, .len (.t 71)⟩,
    ⟨(some 73), none, none, .mv (.t 1)⟩,
    ⟨(some 74), none, none, .len (.t 73)⟩,
    ⟨(some 75), none, none, .bin .sub (.t 72) (.t 74)⟩,
    ⟨(some 13), none, none, .mv (.t 75)⟩] none)
  (.fg [9, 10, 11, 12, 13] (.block 1
  (.loop (.fg [9, 10, 11, 12, 13]
    (.seq (.seq (.reg [⟨(some 76), none, none, .mv (.t 13)⟩,
    ⟨(some 77), none, none, .bin .geq (.t 76) (.c (.p (.int .i64 0)))⟩] none)
      (.fg [9, 10, 11, 12, 13, 77] (.cond (.t 77)
        .skip
        (.exit 1))))
      (.seq (.block 2
      (.reg [⟨(some 80), none, none, .mv (.t 12)⟩,
    ⟨(some 81), none, none, .mv (.t 13)⟩,
    ⟨(some 82), none, none, .mv (.t 11)⟩,
    ⟨(some 83), none, none, .mv (.t 13)⟩,
    ⟨(some 84), none, none, .mv (.t 13)⟩,
    ⟨(some 85), none, none, .mv (.t 10)⟩,
    ⟨(some 86), none, none, .len (.t 85)⟩,
    ⟨(some 87), none, none, .bin .add (.t 84) (.t 86)⟩,
    ⟨(some 88), none, none, .bin .add (.t 87) (.c (.p (.int .i64 1)))⟩,
    ⟨(some 89), none, none, .slice 1 (.t 82) (some (.t 83)) (some (.t 88)) none⟩,
    ⟨(some 90), none, none, .mv (.t 10)⟩,
    ⟨(some 91), none, none, .call .fz 98 [.t 89, .t 90]⟩,
    ⟨(some 92), none, none, .indexA 1 (.t 80) (.t 81)⟩,
    ⟨none, none, none, .store 1 (.t 92) (.t 91)⟩] none))
      (.fg [9, 10, 11, 12, 13] (.reg [⟨(some 78), none, none, .mv (.t 13)⟩,
    ⟨(some 79), none, none, .bin .sub (.t 78) (.c (.p (.int .i64 1)))⟩,
    ⟨(some 13), none, none, .mv (.t 79)⟩] none)))))))))
  (.seq (.reg [⟨(some 93), none, none, .mv (.t 12)⟩,
    ⟨(some 94), none, none, .call .fz 76 [.t 93]⟩,
    ⟨(some 95), none, none, .mv (.t 11)⟩,
    ⟨(some 96), none, none, .call .fz 76 [.t 95]⟩,
    ⟨(some 97), none, none, .mv (.t 9)⟩,
    ⟨(some 98), none, none, .call .pu 99 [.t 96, .t 97]⟩,
    ⟨(some 4), none, none, .mv (.t 94)⟩,
    ⟨(some 5), none, none, .mv (.t 98)⟩,
    ⟨(some 6), none, none, .mv (.c (.p (.int .i64 0)))⟩] none)
  .ret)))))))))),
  [.t 4, .t 5, .t 6]⟩

theorem c75 : chkF Tryz.prog 75 f75 = true := by kernel_rfl

/-- trammel/nat.trim -/
def f76 : RFun := ⟨(.seq (.reg [⟨(some 2), none, none, .mv (.c (.nils))⟩] none)
  (.seq (.block 0
  (.loop (.fg [0]
    (.seq (.seq (.reg [⟨(some 3), none, none, .mv (.t 0)⟩,
    ⟨(some 4), none, none, .len (.t 3)⟩,
    ⟨(some 5), none, none, .bin .gtr (.t 4) (.c (.p (.int .i64 0)))⟩,
    ⟨(some 6), none, none, .mv (.t 5)⟩,
    ⟨(some 7), (some (6, true)), none, .mv (.t 0)⟩,
    ⟨(some 8), (some (6, true)), none, .mv (.t 0)⟩,
    ⟨(some 9), (some (6, true)), none, .len (.t 8)⟩,
    ⟨(some 10), (some (6, true)), none, .bin .sub (.t 9) (.c (.p (.int .i64 1)))⟩,
    ⟨(some 11), (some (6, true)), none, .indexA 1 (.t 7) (.t 10)⟩,
    ⟨(some 12), (some (6, true)), none, .load false 1 (.t 11)⟩,
    ⟨(some 13), (some (6, true)), none, .bin .eql (.t 12) (.c (.p (.int .u32 0)))⟩,
    ⟨(some 14), none, none, .pick (.t 6) (.t 13) (.c (.p (.bool false)))⟩] none)
      (.fg [0, 14] (.cond (.t 14)
        .skip
        (.exit 0))))
      (.fg [0] (.block 1
      (.reg [⟨(some 15), none, none, .mv (.t 0)⟩,
    ⟨(some 16), none, none, .mv (.t 0)⟩,
    ⟨(some 17), none, none, .len (.t 16)⟩,
    ⟨(some 18), none, none, .bin .sub (.t 17) (.c (.p (.int .i64 1)))⟩,
    ⟨(some 19), none, none, .slice 1 (.t 15) none (some (.t 18)) none⟩,
    ⟨(some 0), none, none, .mv (.t 19)⟩] none)))))))
  (.fg [0] (.seq (.reg [⟨(some 20), none, none, .mv (.t 0)⟩,
    ⟨(some 2), none, none, .mv (.t 20)⟩] none)
  .ret)))),
  [.t 2]⟩

theorem c76 : chkF Tryz.prog 76 f76 = true := by kernel_rfl

/-- math/bits.Len32 -/
def f78 : RFun := ⟨(.seq (.reg [⟨(some 2), none, none, .mv (.c (.p (.int .i64 0)))⟩] none)
  (.seq (.seq (.reg [⟨(some 3), none, none, .mv (.t 0)⟩,
    ⟨(some 4), none, none, .bin .geq (.t 3) (.c (.p (.int .u32 65536)))⟩] none)
  (.fg [0, 2, 4] (.cond (.t 4)
    (.seq (.reg [⟨(some 5), none, none, .mv (.t 0)⟩,
    ⟨(some 6), none, none, .bin .shr (.t 5) (.c (.p (.int .u64 16)))⟩,
    ⟨(some 0), none, none, .mv (.t 6)⟩] none)
    (.reg [⟨(some 2), none, none, .mv (.c (.p (.int .i64 16)))⟩] none))
    .skip)))
  (.seq (.seq (.reg [⟨(some 7), none, none, .mv (.t 0)⟩,
    ⟨(some 8), none, none, .bin .geq (.t 7) (.c (.p (.int .u32 256)))⟩] none)
  (.fg [0, 2, 8] (.cond (.t 8)
    (.seq (.reg [⟨(some 9), none, none, .mv (.t 0)⟩,
    ⟨(some 10), none, none, .bin .shr (.t 9) (.c (.p (.int .u64 8)))⟩,
    ⟨(some 0), none, none, .mv (.t 10)⟩] none)
    (.reg [⟨(some 11), none, none, .mv (.t 2)⟩,
    ⟨(some 12), none, none, .bin .add (.t 11) (.c (.p (.int .i64 8)))⟩,
    ⟨(some 2), none, none, .mv (.t 12)⟩] none))
    .skip)))
  (.seq (.reg [⟨(some 13), none, none, .mv (.t 2)⟩,
    ⟨(some 14), none, none, .mv (.t 0)⟩,
    ⟨(some 15), none, none, .conv .u8 (.t 14)⟩,
    ⟨(some 16), none, none, .idx [0, 1, 2, 2, 3, 3, 3, 3, 4, 4, 4, 4, 4, 4, 4, 4, 5, 5, 5, 5, 5, 5, 5, 5, 5, 5, 5, 5, 5, 5, 5, 5, 6, 6, 6, 6, 6, 6, 6, 6, 6, 6, 6, 6, 6, 6, 6, 6, 6, 6, 6, 6, 6, 6, 6, 6, 6, 6, 6, 6, 6, 6, 6, 6, 7, 7, 7, 7, 7, 7, 7, 7, 7, 7, 7, 7, 7, 7, 7, 7, 7, 7, 7, 7, 7, 7, 7, 7, 7, 7, 7, 7, 7, 7, 7, 7, 7, 7, 7, 7, 7, 7, 7, 7, 7, 7, 7, 7, 7, 7, 7, 7, 7, 7, 7, 7, 7, 7, 7, 7, 7, 7, 7, 7, 7, 7, 7, 7, 8, 8, 8, 8, 8, 8, 8, 8, 8, 8, 8, 8, 8, 8, 8, 8, 8, 8, 8, 8, 8, 8, 8, 8, 8, 8, 8, 8, 8, 8, 8, 8, 8, 8, 8, 8, 8, 8, 8, 8, 8, 8, 8, 8, 8, 8, 8, 8, 8, 8, 8, 8, 8, 8, 8, 8, 8, 8, 8, 8, 8, 8, 8, 8, 8, 8, 8, 8, 8, 8, 8, 8, 8, 8, 8, 8, 8, 8, 8, 8, 8, 8, 8, 8, 8, 8, 8, 8, 8, 8, 8, 8, 8, 8, 8, 8, 8, 8, 8, 8, 8, 8, 8, 8, 8, 8, 8, 8, 8, 8, 8, 8, 8, 8, 8, 8, 8, 8, 8, 8, 8, 8, 8, 8, 8, 8, 8, 8] (.t 15)⟩,
    ⟨(some 17), none, none, .conv .i64 (.t 16)⟩,
    ⟨(some 18), none, none, .bin .add (.t 13) (.t 17)⟩,
    ⟨(some 2), none, none, .mv (.t 18)⟩] none)
  .ret)))),
  [.t 2]⟩

theorem c78 : chkF Tryz.prog 78 f78 = true := by kernel_rfl

/-- trammel/nat.less -/
def f90 : RFun := ⟨(.seq (.reg [⟨(some 4), none, none, .mv (.c (.nils))⟩] none)
  (.seq (.reg [⟨(some 9), none, none, .mv (.t 0)⟩,
    ⟨(some 10), none, none, .len (.t 9)⟩,
    ⟨(some 11), none, none, .mks false 1 4 (.int .u32 0) (.t 10) (.t 10)⟩,
    ⟨(some 5), none, none, .mv (.t 11)⟩] none)
  (.seq (.reg [⟨(some 6), none, none, .mv (.c (.p (.int .u64 0)))⟩] none)
  (.seq (.seq (.reg [⟨(some 12), none, none, .mv (.t 0)⟩,
    ⟨(some 13), none, none, .len (.t 12)⟩,
    ⟨(some 14), none, none, .mv (.c (.p (.int .i64 0)))⟩] none)
  (.fg [0, 1, 5, 6, 13, 14] (.block 0
  (.loop (.fg [0, 1, 5, 6, 13, 14]
    (.seq (.reg [⟨(some 15), none, none, .bin .lss (.t 14) (.t 13)⟩] none)
      (.seq (.cond (.t 15)
        .skip
        (.exit 0))
      (.fg [0, 1, 5, 6, 13, 14] (.seq (.block 1
      (.seq (.reg [⟨(some 16), none, none, .mv (.t 14)⟩,
    ⟨(some 7), none, none, .mv (.t 16)⟩] none)
        (.seq (.reg [⟨(some 17), none, none, .mv (.t 0)⟩,
    ⟨(some 18), none, none, .mv (.t 7)⟩,
    ⟨(some 19), none, none, .indexA 1 (.t 17) (.t 18)⟩,
    ⟨(some 20), none, none, .load false 1 (.t 19)⟩,
    ⟨(some 21), none, none, .conv .u64 (.t 20)⟩,
    ⟨(some 22), none, none, .mv (.t 6)⟩,
    ⟨(some 23), none, none, .bin .sub (.t 21) (.t 22)⟩,
    ⟨(some 8), none, none, .mv (.t 23)⟩] none)
        (.seq (.seq (.reg [⟨(some 24), none, none, .mv (.t 7)⟩,
    ⟨(some 25), none, none, .mv (.t 1)⟩,
    ⟨(some 26), none, none, .len (.t 25)⟩,
    ⟨(some 27), none, none, .bin .lss (.t 24) (.t 26)⟩] none)
        (.fg [0, 1, 5, 7, 8, 13, 14, 27] (.cond (.t 27)
          (.reg [⟨(some 28), none, none, .mv (.t 8)⟩,
    ⟨(some 29), none, none, .mv (.t 1)⟩,
    ⟨(some 30), none, none, .mv (.t 7)⟩,
    ⟨(some 31), none, none, .indexA 1 (.t 29) (.t 30)⟩,
    ⟨(some 32), none, none, .load false 1 (.t 31)⟩,
    ⟨(some 33), none, none, .conv .u64 (.t 32)⟩,
    ⟨(some 34), none, none, .bin .sub (.t 28) (.t 33)⟩,
    ⟨(some 8), none, none, .mv (.t 34)⟩] none)
          .skip)))
        (.seq (.reg [⟨(some 35), none, none, .mv (.t 5)⟩,
    ⟨(some 36), none, none, .mv (.t 7)⟩,
    ⟨(some 37), none, none, .mv (.t 8)⟩,
    ⟨(some 38), none, none, .conv .u32 (.t 37)⟩,
    ⟨(some 39), none, none, .indexA 1 (.t 35) (.t 36)⟩,
    ⟨none, none, none, .store 1 (.t 39) (.t 38)⟩] none)
        (.reg [⟨(some 40), none, none, .mv (.t 8)⟩,
    ⟨(some 41), none, none, .bin .shr (.t 40) (.c (.p (.int .u64 63)))⟩,
    ⟨(some 6), none, none, .mv (.t 41)⟩] none))))))
      (.fg [0, 1, 5, 6, 13, 14] (.reg [⟨(some 42), none, none, .bin .add (.t 14) (.c (.p (.int .i64 1)))⟩,
    ⟨(some 14), none, none, .mv (.t 42)⟩] none)))))))))))
  (.seq (.reg [⟨(some 43), none, none, .mv (.t 5)⟩,
    ⟨(some 44), none, none, .call .fz 76 [.t 43]⟩,
    ⟨(some 4), none, none, .mv (.t 44)⟩] none)
  .ret))))),
  [.t 4]⟩

theorem c90 : chkF Tryz.prog 90 f90 = true := by kernel_rfl

/-- trammel/nat.Norm -/
def f94 : RFun := ⟨(.seq (.reg [⟨(some 2), none, none, .mv (.c (.nils))⟩] none)
  (.seq (.reg [⟨(some 3), none, none, .mv (.t 0)⟩,
    ⟨(some 4), none, none, .call .pu 76 [.t 3]⟩,
    ⟨(some 5), none, none, .append 1 4 (.c (.nils)) (.t 4)⟩,
    ⟨(some 2), none, none, .mv (.t 5)⟩] none)
  .ret)),
  [.t 2]⟩

theorem c94 : chkF Tryz.prog 94 f94 = true := by kernel_rfl

/-- trammel/nat.short -/
def f95 : RFun := ⟨(.seq (.reg [⟨(some 4), none, none, .mv (.c (.nils))⟩,
    ⟨(some 5), none, none, .mv (.c (.p (.int .u32 0)))⟩] none)
  (.seq (.reg [⟨(some 9), none, none, .mv (.t 0)⟩,
    ⟨(some 10), none, none, .len (.t 9)⟩,
    ⟨(some 11), none, none, .mks false 1 4 (.int .u32 0) (.t 10) (.t 10)⟩,
    ⟨(some 6), none, none, .mv (.t 11)⟩] none)
  (.seq (.reg [⟨(some 7), none, none, .mv (.c (.p (.int .u64 0)))⟩] none)
  (.seq (.seq (.reg [⟨(some 12), none, none, .mv (.t 0)⟩,
    ⟨(some 13), none, none, .len (.t 12)⟩,
    ⟨(some 14), none, none, .bin .sub (.t 13) (.c (.p (.int .i64 1)))⟩,
    ⟨(some 8), none, none, .mv (.t 14)⟩] none)
  (.fg [0, 1, 6, 7, 8] (.block 0
  (.loop (.fg [0, 1, 6, 7, 8]
    (.seq (.seq (.reg [⟨(some 15), none, none, .mv (.t 8)⟩,
    ⟨(some 16), none, none, .bin .geq (.t 15) (.c (.p (.int .i64 0)))⟩] none)
      (.fg [0, 1, 6, 7, 8, 16] (.cond (.t 16)
        .skip
        (.exit 0))))
      (.seq (.block 1
      (.seq (.reg [⟨(some 19), none, none, .mv (.t 7)⟩,
    ⟨(some 20), none, none, .bin .shl (.t 19) (.c (.p (.int .u64 32)))⟩,
    ⟨(some 21), none, none, .mv (.t 0)⟩,
    ⟨(some 22), none, none, .mv (.t 8)⟩,
    ⟨(some 23), none, none, .indexA 1 (.t 21) (.t 22)⟩,
    ⟨(some 24), none, none, .load false 1 (.t 23)⟩,
    ⟨(some 25), none, none, .conv .u64 (.t 24)⟩,
    ⟨(some 26), none, none, .bin .or (.t 20) (.t 25)⟩,
    ⟨(some 7), none, none, .mv (.t 26)⟩] none)
        (.seq (.reg [⟨(some 27), none, none, .mv (.t 6)⟩,
    ⟨(some 28), none, none, .mv (.t 8)⟩,
    ⟨(some 29), none, none, .mv (.t 7)⟩,
    ⟨(some 30), none, none, .mv (.t 1)⟩,
    ⟨(some 31), none, none, .conv .u64 (.t 30)⟩,
    ⟨(some 32), none, none, .bin .quo (.t 29) (.t 31)⟩,
    ⟨(some 33), none, none, .conv .u32 (.t 32)⟩,
    ⟨(some 34), none, none, .indexA 1 (.t 27) (.t 28)⟩,
    ⟨none, none, none, .store 1 (.t 34) (.t 33)⟩] none)
        (.reg [⟨(some 35), none, none, .mv (.t 7)⟩,
    ⟨(some 36), none, none, .mv (.t 1)⟩,
    ⟨(some 37), none, none, .conv .u64 (.t 36)⟩,
    ⟨(some 38), none, none, .bin .rem (.t 35) (.t 37)⟩,
    ⟨(some 7), none, none, .mv (.t 38)⟩] none))))
      (.fg [0, 1, 6, 7, 8] (.reg [⟨(some 17), none, none, .mv (.t 8)⟩,
    ⟨(some 18), none, none, .bin .sub (.t 17) (.c (.p (.int .i64 1)))⟩,
    ⟨(some 8), none, none, .mv (.t 18)⟩] none)))))))))
  (.seq (.reg [⟨(some 39), none, none, .mv (.t 6)⟩,
    ⟨(some 40), none, none, .call .fz 76 [.t 39]⟩,
    ⟨(some 41), none, none, .mv (.t 7)⟩,
    ⟨(some 42), none, none, .conv .u32 (.t 41)⟩,
    ⟨(some 4), none, none, .mv (.t 40)⟩,
    ⟨(some 5), none, none, .mv (.t 42)⟩] none)
  .ret))))),
  [.t 4, .t 5]⟩

theorem c95 : chkF Tryz.prog 95 f95 = true := by kernel_rfl

/-- math/bits.LeadingZeros32 -/
def f96 : RFun := ⟨(.seq (.reg [⟨(some 2), none, none, .mv (.c (.p (.int .i64 0)))⟩] none)
  (.seq (.reg [⟨(some 3), none, none, .mv (.t 0)⟩,
    ⟨(some 4), none, none, .call .pu 78 [.t 3]⟩,
    ⟨(some 5), none, none, .bin .sub (.c (.p (.int .i64 32))) (.t 4)⟩,
    ⟨(some 2), none, none, .mv (.t 5)⟩] none)
  .ret)),
  [.t 2]⟩

theorem c96 : chkF Tryz.prog 96 f96 = true := by kernel_rfl

/-- trammel/nat.shl -/
def f97 : RFun := ⟨(.seq (.reg [⟨(some 4), none, none, .mv (.c (.nils))⟩] none)
  (.seq (.reg [⟨(some 10), none, none, .mv (.t 0)⟩,
    ⟨(some 11), none, none, .call .pu 76 [.t 10]⟩,
    ⟨(some 0), none, none, .mv (.t 11)⟩] none)
  (.seq (.seq (.reg [⟨(some 12), none, none, .mv (.t 0)⟩,
    ⟨(some 13), none, none, .len (.t 12)⟩,
    ⟨(some 14), none, none, .bin .eql (.t 13) (.c (.p (.int .i64 0)))⟩] none)
  (.fg [0, 1, 14] (.cond (.t 14)
    (.seq (.reg [⟨(some 4), none, none, .mv (.c (.nils))⟩] none)
    .ret)
    .skip)))
  (.seq (.reg [⟨(some 15), none, none, .mv (.t 1)⟩,
    ⟨(some 16), none, none, .bin .quo (.t 15) (.c (.p (.int .i64 32)))⟩,
    ⟨(some 17), none, none, .mv (.t 1)⟩,
    ⟨(some 18), none, none, .bin .rem (.t 17) (.c (.p (.int .i64 32)))⟩,
    ⟨(some 19), none, none, .conv .u64 (.t 18)⟩,
    ⟨(some 5), none, none, .mv (.t 16)⟩,
    ⟨(some 6), none, none, .mv (.t 19)⟩] none)
  (.seq (.reg [⟨(some 20), none, none, .mv (.t 0)⟩,
    ⟨(some 21), none, none, .len (.t 20)⟩,
    ⟨(some 22), none, none, .mv (.t 5)⟩,
    ⟨(some 23), none, none, .bin .add (.t 21) (.t 22)⟩,
    ⟨(some 24), none, none, .bin .add (.t 23) (.c (.p (.int .i64 1)))⟩,
    ⟨(some 25), none, none, .mks false 1 4 (.int .u32 0) (.t 24) (.t 24)⟩,
    ⟨(some 7), none, none, .mv (.t 25)⟩] none)
  (.seq (.seq (.reg [⟨(some 26), none, none, .mv (.t 0)⟩,
    ⟨(some 27), none, none, .len (.t 26)⟩,
    ⟨(some 28), none, none, .mv (.c (.p (.int .i64 0)))⟩] none)
  (.fg [0, 5, 6, 7, 27, 28] (.block 0
  (.loop (.fg [0, 5, 6, 7, 27, 28]
    (.seq (.reg [⟨(some 29), none, none, .bin .lss (.t 28) (.t 27)⟩] none)
      (.seq (.cond (.t 29)
        .skip
        (.exit 0))
      (.fg [0, 5, 6, 7, 27, 28] (.seq (.block 1
      (.seq (.reg [⟨(some 30), none, none, .mv (.t 28)⟩,
    ⟨(some 8), none, none, .mv (.t 30)⟩] none)
        (.seq (.reg [⟨(some 31), none, none, .mv (.t 0)⟩,
    ⟨(some 32), none, none, .mv (.t 8)⟩,
    ⟨(some 33), none, none, .indexA 1 (.t 31) (.t 32)⟩,
    ⟨(some 34), none, none, .load false 1 (.t 33)⟩,
    ⟨(some 35), none, none, .conv .u64 (.t 34)⟩,
    ⟨(some 36), none, none, .mv (.t 6)⟩,
    ⟨(some 37), none, none, .bin .shl (.t 35) (.t 36)⟩,
    ⟨(some 9), none, none, .mv (.t 37)⟩] none)
        (.seq (.reg [⟨(some 38), none, none, .mv (.t 7)⟩,
    ⟨(some 39), none, none, .mv (.t 8)⟩,
    ⟨(some 40), none, none, .mv (.t 5)⟩,
    ⟨(some 41), none, none, .bin .add (.t 39) (.t 40)⟩,
    ⟨(some 42), none, none, .indexA 1 (.t 38) (.t 41)⟩,
    ⟨(some 43), none, none, .load false 1 (.t 42)⟩,
    ⟨(some 44), none, none, .mv (.t 9)⟩,
    ⟨(some 45), none, none, .conv .u32 (.t 44)⟩,
    ⟨(some 46), none, none, .bin .or (.t 43) (.t 45)⟩,
    ⟨(some 47), none, none, .indexA 1 (.t 38) (.t 41)⟩,
    ⟨none, none, none, .store 1 (.t 47) (.t 46)⟩] none)
        (.reg [⟨(some 48), none, none, .mv (.t 7)⟩,
    ⟨(some 49), none, none, .mv (.t 8)⟩,
    ⟨(some 50), none, none, .mv (.t 5)⟩,
    ⟨(some 51), none, none, .bin .add (.t 49) (.t 50)⟩,
    ⟨(some 52), none, none, .bin .add (.t 51) (.c (.p (.int .i64 1)))⟩,
    ⟨(some 53), none, none, .mv (.t 9)⟩,
    ⟨(some 54), none, none, .bin .shr (.t 53) (.c (.p (.int .u64 32)))⟩,
    ⟨(some 55), none, none, .conv .u32 (.t 54)⟩,
    ⟨(some 56), none, none, .indexA 1 (.t 48) (.t 52)⟩,
    ⟨none, none, none, .store 1 (.t 56) (.t 55)⟩] none)))))
      (.fg [0, 5, 6, 7, 27, 28] (.reg [⟨(some 57), none, none, .bin .add (.t 28) (.c (.p (.int .i64 1)))⟩,
    ⟨(some 28), none, none, .mv (.t 57)⟩] none)))))))))))
  (.seq (.reg [⟨(some 58), none, none, .mv (.t 7)⟩,
    ⟨(some 59), none, none, .call .fz 76 [.t 58]⟩,
    ⟨(some 4), none, none, .mv (.t 59)⟩] none)
  .ret))))))),
  [.t 4]⟩

theorem c97 : chkF Tryz.prog 97 f97 = true := by kernel_rfl

/-- trammel/nat.digit -/
def f98 : RFun := ⟨(.seq (.reg [⟨(some 4), none, none, .mv (.c (.p (.int .u32 0)))⟩] none)
  (.seq (.reg [⟨(some 15), none, none, .mv (.t 1)⟩,
    ⟨(some 16), none, none, .len (.t 15)⟩,
    ⟨(some 5), none, none, .mv (.t 16)⟩] none)
  (.seq (.reg [⟨(some 17), none, none, .mv (.t 0)⟩,
    ⟨(some 18), none, none, .mv (.t 5)⟩,
    ⟨(some 19), none, none, .indexA 1 (.t 17) (.t 18)⟩,
    ⟨(some 20), none, none, .load false 1 (.t 19)⟩,
    ⟨(some 21), none, none, .conv .u64 (.t 20)⟩,
    ⟨(some 22), none, none, .bin .shl (.t 21) (.c (.p (.int .u64 32)))⟩,
    ⟨(some 23), none, none, .mv (.t 0)⟩,
    ⟨(some 24), none, none, .mv (.t 5)⟩,
    ⟨(some 25), none, none, .bin .sub (.t 24) (.c (.p (.int .i64 1)))⟩,
    ⟨(some 26), none, none, .indexA 1 (.t 23) (.t 25)⟩,
    ⟨(some 27), none, none, .load false 1 (.t 26)⟩,
    ⟨(some 28), none, none, .conv .u64 (.t 27)⟩,
    ⟨(some 29), none, none, .bin .or (.t 22) (.t 28)⟩,
    ⟨(some 6), none, none, .mv (.t 29)⟩] (some (0, [])))
  (.seq (.reg [⟨(some 30), none, none, .mv (.t 6)⟩,
    ⟨(some 31), none, none, .mv (.t 1)⟩,
    ⟨(some 32), none, none, .mv (.t 5)⟩,
    ⟨(some 33), none, none, .bin .sub (.t 32) (.c (.p (.int .i64 1)))⟩,
    ⟨(some 34), none, none, .indexA 1 (.t 31) (.t 33)⟩,
    ⟨(some 35), none, none, .load false 1 (.t 34)⟩,
    ⟨(some 36), none, none, .conv .u64 (.t 35)⟩,
    ⟨(some 37), none, none, .bin .quo (.t 30) (.t 36)⟩,
    ⟨(some 38), none, none, .mn (.t 37) (.c (.p (.int .u64 4294967295)))⟩,
    ⟨(some 7), none, none, .mv (.t 38)⟩] none)
  (.seq (.reg [⟨(some 8), none, none, .mv (.c (.p (.int .u64 0)))⟩,
    ⟨(some 9), none, none, .mv (.c (.p (.int .u64 0)))⟩] none)
  (.seq (.seq (.reg [⟨(some 39), none, none, .mv (.t 5)⟩,
    ⟨(some 40), none, none, .bin .add (.t 39) (.c (.p (.int .i64 1)))⟩,
    ⟨(some 41), none, none, .mv (.c (.p (.int .i64 0)))⟩] none)
  (.fg [0, 1, 5, 7, 8, 9, 40, 41] (.block 0
  (.loop (.fg [0, 1, 5, 7, 8, 9, 40, 41]
    (.seq (.reg [⟨(some 42), none, none, .bin .lss (.t 41) (.t 40)⟩] none)
      (.seq (.cond (.t 42)
        .skip
        (.exit 0))
      (.fg [0, 1, 5, 7, 8, 9, 40, 41] (.seq (.block 1
      (.seq (.reg [⟨(some 43), none, none, .mv (.t 41)⟩,
    ⟨(some 10), none, none, .mv (.t 43)⟩] none)
        (.seq (.reg [⟨(some 44), none, none, .mv (.t 8)⟩,
    ⟨(some 11), none, none, .mv (.t 44)⟩] none)
        (.seq (.seq (.reg [⟨(some 45), none, none, .mv (.t 10)⟩,
    ⟨(some 46), none, none, .mv (.t 5)⟩,
    ⟨(some 47), none, none, .bin .lss (.t 45) (.t 46)⟩] none)
        (.fg [0, 1, 5, 7, 9, 10, 11, 40, 41, 47] (.cond (.t 47)
          (.reg [⟨(some 48), none, none, .mv (.t 11)⟩,
    ⟨(some 49), none, none, .mv (.t 7)⟩,
    ⟨(some 50), none, none, .mv (.t 1)⟩,
    ⟨(some 51), none, none, .mv (.t 10)⟩,
    ⟨(some 52), none, none, .indexA 1 (.t 50) (.t 51)⟩,
    ⟨(some 53), none, none, .load false 1 (.t 52)⟩,
    ⟨(some 54), none, none, .conv .u64 (.t 53)⟩,
    ⟨(some 55), none, none, .bin .mul (.t 49) (.t 54)⟩,
    ⟨(some 56), none, none, .bin .add (.t 48) (.t 55)⟩,
    ⟨(some 11), none, none, .mv (.t 56)⟩] none)
          .skip)))
        (.seq (.reg [⟨(some 57), none, none, .mv (.t 11)⟩,
    ⟨(some 58), none, none, .bin .shr (.t 57) (.c (.p (.int .u64 32)))⟩,
    ⟨(some 8), none, none, .mv (.t 58)⟩] none)
        (.seq (.reg [⟨(some 59), none, none, .mv (.t 0)⟩,
    ⟨(some 60), none, none, .mv (.t 10)⟩,
    ⟨(some 61), none, none, .indexA 1 (.t 59) (.t 60)⟩,
    ⟨(some 62), none, none, .load false 1 (.t 61)⟩,
    ⟨(some 63), none, none, .conv .u64 (.t 62)⟩,
    ⟨(some 64), none, none, .mv (.t 11)⟩,
    ⟨(some 65), none, none, .conv .u32 (.t 64)⟩,
    ⟨(some 66), none, none, .conv .u64 (.t 65)⟩,
    ⟨(some 67), none, none, .bin .sub (.t 63) (.t 66)⟩,
    ⟨(some 68), none, none, .mv (.t 9)⟩,
    ⟨(some 69), none, none, .bin .sub (.t 67) (.t 68)⟩,
    ⟨(some 12), none, none, .mv (.t 69)⟩] none)
        (.seq (.reg [⟨(some 70), none, none, .mv (.t 0)⟩,
    ⟨(some 71), none, none, .mv (.t 10)⟩,
    ⟨(some 72), none, none, .mv (.t 12)⟩,
    ⟨(some 73), none, none, .conv .u32 (.t 72)⟩,
    ⟨(some 74), none, none, .indexA 1 (.t 70) (.t 71)⟩,
    ⟨none, none, none, .store 1 (.t 74) (.t 73)⟩] none)
        (.reg [⟨(some 75), none, none, .mv (.t 12)⟩,
    ⟨(some 76), none, none, .bin .shr (.t 75) (.c (.p (.int .u64 63)))⟩,
    ⟨(some 9), none, none, .mv (.t 76)⟩] none))))))))
      (.fg [0, 1, 5, 7, 8, 9, 40, 41] (.reg [⟨(some 77), none, none, .bin .add (.t 41) (.c (.p (.int .i64 1)))⟩,
    ⟨(some 41), none, none, .mv (.t 77)⟩] none)))))))))))
  (.seq (.block 2
  (.loop (.fg [0, 1, 5, 7, 9]
    (.seq (.seq (.reg [⟨(some 78), none, none, .mv (.t 9)⟩,
    ⟨(some 79), none, none, .bin .gtr (.t 78) (.c (.p (.int .u64 0)))⟩] none)
      (.fg [0, 1, 5, 7, 9, 79] (.cond (.t 79)
        .skip
        (.exit 2))))
      (.fg [0, 1, 5, 7, 9] (.block 3
      (.seq (.reg [⟨(some 80), none, none, .mv (.t 7)⟩,
    ⟨(some 81), none, none, .bin .sub (.t 80) (.c (.p (.int .u64 1)))⟩,
    ⟨(some 7), none, none, .mv (.t 81)⟩] none)
        (.seq (.reg [⟨(some 13), none, none, .mv (.c (.p (.int .u64 0)))⟩] none)
        (.seq (.seq (.reg [⟨(some 82), none, none, .mv (.t 5)⟩,
    ⟨(some 83), none, none, .bin .add (.t 82) (.c (.p (.int .i64 1)))⟩,
    ⟨(some 84), none, none, .mv (.c (.p (.int .i64 0)))⟩] none)
        (.fg [0, 1, 5, 7, 9, 13, 83, 84] (.block 4
        (.loop (.fg [0, 1, 5, 7, 9, 13, 83, 84]
          (.seq (.reg [⟨(some 85), none, none, .bin .lss (.t 84) (.t 83)⟩] none)
            (.seq (.cond (.t 85)
              .skip
              (.exit 4))
            (.fg [0, 1, 5, 7, 9, 13, 83, 84] (.seq (.block 5
            (.seq (.reg [⟨(some 86), none, none, .mv (.t 84)⟩,
    ⟨(some 14), none, none, .mv (.t 86)⟩] none)
              (.seq (.reg [⟨(some 87), none, none, .mv (.t 13)⟩,
    ⟨(some 88), none, none, .mv (.t 0)⟩,
    ⟨(some 89), none, none, .mv (.t 14)⟩,
    ⟨(some 90), none, none, .indexA 1 (.t 88) (.t 89)⟩,
    ⟨(some 91), none, none, .load false 1 (.t 90)⟩,
    ⟨(some 92), none, none, .conv .u64 (.t 91)⟩,
    ⟨(some 93), none, none, .bin .add (.t 87) (.t 92)⟩,
    ⟨(some 13), none, none, .mv (.t 93)⟩] none)
              (.seq (.seq (.reg [⟨(some 94), none, none, .mv (.t 14)⟩,
    ⟨(some 95), none, none, .mv (.t 5)⟩,
    ⟨(some 96), none, none, .bin .lss (.t 94) (.t 95)⟩] none)
              (.fg [0, 1, 5, 7, 9, 13, 14, 83, 84, 96] (.cond (.t 96)
                (.reg [⟨(some 97), none, none, .mv (.t 13)⟩,
    ⟨(some 98), none, none, .mv (.t 1)⟩,
    ⟨(some 99), none, none, .mv (.t 14)⟩,
    ⟨(some 100), none, none, .indexA 1 (.t 98) (.t 99)⟩,
    ⟨(some 101), none, none, .load false 1 (.t 100)⟩,
    ⟨(some 102), none, none, .conv .u64 (.t 101)⟩,
    ⟨(some 103), none, none, .bin .add (.t 97) (.t 102)⟩,
    ⟨(some 13), none, none, .mv (.t 103)⟩] none)
                .skip)))
              (.seq (.reg [⟨(some 104), none, none, .mv (.t 0)⟩,
    ⟨(some 105), none, none, .mv (.t 14)⟩,
    ⟨(some 106), none, none, .mv (.t 13)⟩,
    ⟨(some 107), none, none, .conv .u32 (.t 106)⟩,
    ⟨(some 108), none, none, .indexA 1 (.t 104) (.t 105)⟩,
    ⟨none, none, none, .store 1 (.t 108) (.t 107)⟩] none)
              (.reg [⟨(some 109), none, none, .mv (.t 13)⟩,
    ⟨(some 110), none, none, .bin .shr (.t 109) (.c (.p (.int .u64 32)))⟩,
    ⟨(some 13), none, none, .mv (.t 110)⟩] none))))))
            (.fg [0, 1, 5, 7, 9, 13, 83, 84] (.reg [⟨(some 111), none, none, .bin .add (.t 84) (.c (.p (.int .i64 1)))⟩,
    ⟨(some 84), none, none, .mv (.t 111)⟩] none)))))))))))
        (.reg [⟨(some 112), none, none, .mv (.t 9)⟩,
    ⟨(some 113), none, none, .mv (.t 13)⟩,
    ⟨(some 114), none, none, .bin .sub (.t 112) (.t 113)⟩,
    ⟨(some 9), none, none, .mv (.t 114)⟩] none))))))))))
  (.fg [7] (.seq (.reg [⟨(some 115), none, none, .mv (.t 7)⟩,
    ⟨(some 116), none, none, .conv .u32 (.t 115)⟩,
    ⟨(some 4), none, none, .mv (.t 116)⟩] none)
  .ret))))))))),
  [.t 4]⟩

theorem c98 : chkF Tryz.prog 98 f98 = true := by kernel_rfl

/-- trammel/nat.shr -/
def f99 : RFun := ⟨(.seq (.reg [⟨(some 4), none, none, .mv (.c (.nils))⟩] none)
  (.seq (.reg [⟨(some 10), none, none, .mv (.t 0)⟩,
    ⟨(some 11), none, none, .call .pu 76 [.t 10]⟩,
    ⟨(some 0), none, none, .mv (.t 11)⟩] none)
  (.seq (.reg [⟨(some 12), none, none, .mv (.t 1)⟩,
    ⟨(some 13), none, none, .bin .quo (.t 12) (.c (.p (.int .i64 32)))⟩,
    ⟨(some 14), none, none, .mv (.t 1)⟩,
    ⟨(some 15), none, none, .bin .rem (.t 14) (.c (.p (.int .i64 32)))⟩,
    ⟨(some 16), none, none, .conv .u64 (.t 15)⟩,
    ⟨(some 5), none, none, .mv (.t 13)⟩,
    ⟨(some 6), none, none, .mv (.t 16)⟩] none)
  (.seq (.seq (.reg [⟨(some 17), none, none, .mv (.t 5)⟩,
    ⟨(some 18), none, none, .mv (.t 0)⟩,
    ⟨(some 19), none, none, .len (.t 18)⟩,
    ⟨(some 20), none, none, .bin .geq (.t 17) (.t 19)⟩] none)
  (.fg [0, 5, 6, 20] (.cond (.t 20)
    (.seq (.reg [⟨(some 4), none, none, .mv (.c (.nils))⟩] none)
    .ret)
    .skip)))
  (.seq (.reg [⟨(some 21), none, none, .mv (.t 0)⟩,
    ⟨(some 22), none, none, .len (.t 21)⟩,
    ⟨(some 23), none, none, .mv (.t 5)⟩,
    ⟨(some 24), none, none, .bin .sub (.t 22) (.t 23)⟩,
    ⟨(some 25), none, none, .mks false 1 4 (.int .u32 0) (.t 24) (.t 24)⟩,
    ⟨(some 7), none, none, .mv (.t 25)⟩] none)
  (.seq (.seq (.reg [⟨(some 26), none, none, .mv (.t 7)⟩,
    ⟨(some 27), none, none, .len (.t 26)⟩,
    ⟨(some 28), none, none, .mv (.c (.p (.int .i64 0)))⟩] none)
  (.fg [0, 5, 6, 7, 27, 28] (.block 0
  (.loop (.fg [0, 5, 6, 7, 27, 28]
    (.seq (.reg [⟨(some 29), none, none, .bin .lss (.t 28) (.t 27)⟩] none)
      (.seq (.cond (.t 29)
        .skip
        (.exit 0))
      (.fg [0, 5, 6, 7, 27, 28] (.seq (.block 1
      (.seq (.reg [⟨(some 30), none, none, .mv (.t 28)⟩,
    ⟨(some 8), none, none, .mv (.t 30)⟩] none)
        (.seq (.reg [⟨(some 31), none, none, .mv (.t 0)⟩,
    ⟨(some 32), none, none, .mv (.t 8)⟩,
    ⟨(some 33), none, none, .mv (.t 5)⟩,
    ⟨(some 34), none, none, .bin .add (.t 32) (.t 33)⟩,
    ⟨(some 35), none, none, .indexA 1 (.t 31) (.t 34)⟩,
    ⟨(some 36), none, none, .load false 1 (.t 35)⟩,
    ⟨(some 37), none, none, .conv .u64 (.t 36)⟩,
    ⟨(some 9), none, none, .mv (.t 37)⟩] none)
        (.seq (.seq (.reg [⟨(some 38), none, none, .mv (.t 8)⟩,
    ⟨(some 39), none, none, .mv (.t 5)⟩,
    ⟨(some 40), none, none, .bin .add (.t 38) (.t 39)⟩,
    ⟨(some 41), none, none, .bin .add (.t 40) (.c (.p (.int .i64 1)))⟩,
    ⟨(some 42), none, none, .mv (.t 0)⟩,
    ⟨(some 43), none, none, .len (.t 42)⟩,
    ⟨(some 44), none, none, .bin .lss (.t 41) (.t 43)⟩] none)
        (.fg [0, 5, 6, 7, 8, 9, 27, 28, 44] (.cond (.t 44)
          (.reg [⟨(some 45), none, none, .mv (.t 9)⟩,
    ⟨(some 46), none, none, .mv (.t 0)⟩,
    ⟨(some 47), none, none, .mv (.t 8)⟩,
    ⟨(some 48), none, none, .mv (.t 5)⟩,
    ⟨(some 49), none, none, .bin .add (.t 47) (.t 48)⟩,
    ⟨(some 50), none, none, .bin .add (.t 49) (.c (.p (.int .i64 1)))⟩,
    ⟨(some 51), none, none, .indexA 1 (.t 46) (.t 50)⟩,
    ⟨(some 52), none, none, .load false 1 (.t 51)⟩,
    ⟨(some 53), none, none, .conv .u64 (.t 52)⟩,
    ⟨(some 54), none, none, .bin .shl (.t 53) (.c (.p (.int .u64 32)))⟩,
    ⟨(some 55), none, none, .bin .or (.t 45) (.t 54)⟩,
    ⟨(some 9), none, none, .mv (.t 55)⟩] none)
          .skip)))
        (.reg [⟨(some 56), none, none, .mv (.t 7)⟩,
    ⟨(some 57), none, none, .mv (.t 8)⟩,
    ⟨(some 58), none, none, .mv (.t 9)⟩,
    ⟨(some 59), none, none, .mv (.t 6)⟩,
    ⟨(some 60), none, none, .bin .shr (.t 58) (.t 59)⟩,
    ⟨(some 61), none, none, .conv .u32 (.t 60)⟩,
    ⟨(some 62), none, none, .indexA 1 (.t 56) (.t 57)⟩,
    ⟨none, none, none, .store 1 (.t 62) (.t 61)⟩] none)))))
      (.fg [0, 5, 6, 7, 27, 28] (.reg [⟨(some 63), none, none, .bin .add (.t 28) (.c (.p (.int .i64 1)))⟩,
    ⟨(some 28), none, none, .mv (.t 63)⟩] none)))))))))))
  (.seq (.reg [⟨(some 64), none, none, .mv (.t 7)⟩,
    ⟨(some 65), none, none, .call .fz 76 [.t 64]⟩,
    ⟨(some 4), none, none, .mv (.t 65)⟩] none)
  .ret))))))),
  [.t 4]⟩

theorem c99 : chkF Tryz.prog 99 f99 = true := by kernel_rfl

end Go.Proofs.YtiboahllkpociaaGreat.VCn
