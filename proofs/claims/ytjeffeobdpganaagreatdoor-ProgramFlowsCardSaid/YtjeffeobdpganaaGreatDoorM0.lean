/- The abstract machine's texts of translated functions (printed by a program), each checked against the translation. -/
import Derived.Test.YtjeffeobdpganaaGreatDoorAbK
import Derived.Test.YtjeffeobdpganaaGreatDoorProg
import Derived.KernelRfl
set_option linter.unusedSimpArgs false
set_option linter.unusedVariables false
namespace Go.Ab
namespace YtjeffeobdpganaaGreatDoor
set_option maxRecDepth 100000
open Go.Proofs
/-- paddock/paddocklaw15.ProgramFlows -/
def m3 : MFn := ⟨2, 15, [.tmp 4], 0,
  (.seq
  (.reg [
    ⟨some 2, none, .box 25 3 (.t 0)⟩,
    ⟨some 4, none, .mov (.c (.bool false))⟩])
  (.seq
  (.dreg [
    ⟨0, 1, [], 0, ⟨some 5, none, .call (.c (.fn 4 [])) []⟩⟩,
    ⟨1, 0, [], 1, ⟨some 6, none, .mov (.t 5)⟩⟩,
    ⟨2, 0, [], 3, ⟨some 7, some (6, true), .load 3 true (.t 2)⟩⟩,
    ⟨3, 0, [], 3, ⟨some 8, some (6, true), .mov (.t 1)⟩⟩,
    ⟨5, 0, [], 3, ⟨some 10, some (6, true), .load 3 true (.t 2)⟩⟩,
    ⟨6, 0, [], 3, ⟨some 11, some (6, true), .mov (.t 1)⟩⟩,
    ⟨4, 1, [4, 5], 15, ⟨some 9, some (6, true), .call (.c (.fn 6 [])) [.t 7, .t 8]⟩⟩,
    ⟨7, 1, [], 127, ⟨some 12, some (6, true), .call (.c (.fn 7 [])) [.t 10, .t 11]⟩⟩,
    ⟨8, 1, [], 255, ⟨some 13, some (6, true), .call (.c (.fn 5 [])) [.t 9, .t 12]⟩⟩,
    ⟨9, 0, [], 511, ⟨some 14, none, .pick (.t 6) (.t 13) (.c (.bool false))⟩⟩,
    ⟨10, 0, [], 1023, ⟨some 4, none, .mov (.t 14)⟩⟩])
  .ret))⟩

theorem c3 : chkF Go.Proofs.Tryz.prog Go.Proofs.Tryz.f3 m3 = true := by kernel_rfl

/-- paddock/paddocklaw15.lives -/
def m4 : MFn := ⟨0, 71, [.tmp 0], 0,
  (.seq
  (.reg [
    ⟨some 0, none, .mov (.c (.bool false))⟩])
  (.seq
  (.reg [
    ⟨some 10, none, .call (.c (.fn 8 [])) [.c (.str [49, 123, 112, 59, 98, 32, 120, 10, 125, 10, 100, 59, 58, 120, 10, 61]), .c (.bool false)]⟩,
    ⟨some 9, none, .mov (.t 10)⟩,
    ⟨some 11, none, .ext (.t 9) 0⟩,
    ⟨some 12, none, .ext (.t 9) 1⟩,
    ⟨some 13, none, .ext (.t 9) 2⟩,
    ⟨some 1, none, .box 33 3 (.c (.agg [.vs true [], .bool false, .bool false]))⟩,
    ⟨some 3, none, .box 36 2 (.c (.agg [.int .i64 0, .int .i64 0]))⟩,
    ⟨none, none, .store 3 (.t 1) (.t 11)⟩,
    ⟨some 2, none, .mov (.t 12)⟩,
    ⟨none, none, .store 2 (.t 3) (.t 13)⟩])
  (.seq
  (.reg [
    ⟨some 15, none, .load 3 true (.t 1)⟩,
    ⟨some 16, none, .call (.c (.fn 9 [])) [.t 15]⟩,
    ⟨some 14, none, .mov (.t 16)⟩,
    ⟨some 17, none, .ext (.t 14) 0⟩,
    ⟨some 18, none, .ext (.t 14) 1⟩,
    ⟨some 19, none, .ext (.t 14) 2⟩,
    ⟨some 4, none, .box 25 3 (.c (.agg [.vs true [], .bool false, .vs true []]))⟩,
    ⟨none, none, .store 3 (.t 4) (.t 17)⟩,
    ⟨some 5, none, .mov (.t 18)⟩,
    ⟨some 6, none, .mov (.t 19)⟩])
  (.seq
  (.seq
  (.reg [
    ⟨some 20, none, .mov (.t 2)⟩,
    ⟨some 21, none, .int .neq (.t 20) (.c (.int .i64 0))⟩,
    ⟨some 22, none, .mov (.t 21)⟩,
    ⟨some 23, some (22, false), .mov (.t 5)⟩,
    ⟨some 24, some (22, false), .int .neq (.t 23) (.c (.int .i64 0))⟩,
    ⟨some 25, none, .pick (.t 22) (.c (.bool true)) (.t 24)⟩,
    ⟨some 26, none, .mov (.t 25)⟩,
    ⟨some 27, some (26, false), .mov (.t 6)⟩,
    ⟨some 28, some (26, false), .int .neq (.t 27) (.c (.int .i64 0))⟩,
    ⟨some 29, none, .pick (.t 26) (.c (.bool true)) (.t 28)⟩,
    ⟨some 30, none, .mov (.t 29)⟩,
    ⟨some 31, some (30, false), .fa 0 (.t 4)⟩,
    ⟨some 32, some (30, false), .load 1 false (.t 31)⟩,
    ⟨some 33, some (30, false), .lenL (.t 32)⟩,
    ⟨some 34, some (30, false), .int .neq (.t 33) (.c (.int .i64 5))⟩,
    ⟨some 35, none, .pick (.t 30) (.c (.bool true)) (.t 34)⟩,
    ⟨some 36, none, .mov (.t 35)⟩,
    ⟨some 37, some (36, false), .fa 0 (.t 4)⟩,
    ⟨some 38, some (36, false), .load 1 false (.t 37)⟩,
    ⟨some 39, some (36, false), .ia 55 (.t 38) (.c (.int .i64 0))⟩,
    ⟨some 40, some (36, false), .fa 54 (.t 39)⟩,
    ⟨some 41, some (36, false), .load 1 false (.t 40)⟩,
    ⟨some 42, some (36, false), .int .neq (.t 41) (.c (.int .i64 3))⟩,
    ⟨some 43, none, .pick (.t 36) (.c (.bool true)) (.t 42)⟩,
    ⟨some 44, none, .mov (.t 43)⟩,
    ⟨some 45, some (44, false), .fa 0 (.t 4)⟩,
    ⟨some 46, some (44, false), .load 1 false (.t 45)⟩,
    ⟨some 47, some (44, false), .ia 55 (.t 46) (.c (.int .i64 2))⟩,
    ⟨some 48, some (44, false), .fa 54 (.t 47)⟩,
    ⟨some 49, some (44, false), .load 1 false (.t 48)⟩,
    ⟨some 50, some (44, false), .int .neq (.t 49) (.c (.int .i64 4))⟩,
    ⟨some 51, none, .pick (.t 44) (.c (.bool true)) (.t 50)⟩])
  (.cond (.t 51)
    (.seq
    (.reg [
      ⟨some 0, none, .mov (.c (.bool false))⟩])
    .ret)
    .skip))
  (.seq
  (.reg [
    ⟨some 53, none, .load 3 true (.t 4)⟩,
    ⟨some 54, none, .call (.c (.fn 10 [])) [.t 53, .c (.bool false)]⟩,
    ⟨some 52, none, .mov (.t 54)⟩,
    ⟨some 55, none, .ext (.t 52) 0⟩,
    ⟨some 56, none, .ext (.t 52) 1⟩,
    ⟨some 7, none, .mov (.t 55)⟩,
    ⟨some 8, none, .mov (.t 56)⟩])
  (.seq
  (.reg [
    ⟨some 57, none, .mov (.t 7)⟩,
    ⟨some 58, none, .int .eql (.t 57) (.c (.int .i64 0))⟩,
    ⟨some 59, none, .mov (.t 58)⟩,
    ⟨some 60, some (59, true), .load 3 true (.t 4)⟩,
    ⟨some 61, some (59, true), .call (.c (.fn 6 [])) [.t 60, .c (.int .i64 0)]⟩,
    ⟨some 62, some (59, true), .bslice [.int .i64 0] 2 [(0, .c (.int .i64 1)), (1, .c (.int .i64 3))]⟩,
    ⟨some 63, some (59, true), .call (.c (.fn 5 [])) [.t 61, .t 62]⟩,
    ⟨some 64, none, .pick (.t 59) (.t 63) (.c (.bool false))⟩,
    ⟨some 65, none, .mov (.t 64)⟩,
    ⟨some 66, some (65, true), .load 3 true (.t 4)⟩,
    ⟨some 67, some (65, true), .call (.c (.fn 6 [])) [.t 66, .c (.int .i64 3)]⟩,
    ⟨some 68, some (65, true), .bslice [.int .i64 0] 1 [(0, .c (.int .i64 5))]⟩,
    ⟨some 69, some (65, true), .call (.c (.fn 5 [])) [.t 67, .t 68]⟩,
    ⟨some 70, none, .pick (.t 65) (.t 69) (.c (.bool false))⟩,
    ⟨some 0, none, .mov (.t 70)⟩])
  .ret))))))⟩

theorem c4 : chkF Go.Proofs.Tryz.prog Go.Proofs.Tryz.f4 m4 = true := by kernel_rfl

/-- paddock/paddocklaw15.ints -/
def m5 : MFn := ⟨2, 26, [.tmp 4], 0,
  (.seq
  (.reg [
    ⟨some 4, none, .mov (.c (.bool false))⟩])
  (.seq
  (.seq
  (.reg [
    ⟨some 6, none, .mov (.t 0)⟩,
    ⟨some 7, none, .lenL (.t 6)⟩,
    ⟨some 8, none, .mov (.t 1)⟩,
    ⟨some 9, none, .lenL (.t 8)⟩,
    ⟨some 10, none, .int .neq (.t 7) (.t 9)⟩])
  (.cond (.t 10)
    (.seq
    (.reg [
      ⟨some 4, none, .mov (.c (.bool false))⟩])
    .ret)
    .skip))
  (.seq
  (.seq
  (.reg [
    ⟨some 11, none, .mov (.t 0)⟩,
    ⟨some 12, none, .lenL (.t 11)⟩,
    ⟨some 13, none, .mov (.c (.int .i64 0))⟩])
  (.block 0
    (.loop
      (.seq
      (.reg [
        ⟨some 14, none, .int .lss (.t 13) (.t 12)⟩])
      (.seq
      (.cond (.t 14)
        .skip
        (.exit 0))
      (.seq
      (.block 1
        (.seq
        (.reg [
          ⟨some 15, none, .mov (.t 13)⟩,
          ⟨some 5, none, .mov (.t 15)⟩])
        (.seq
        (.dreg [
          ⟨0, 0, [], 0, ⟨some 16, none, .mov (.t 0)⟩⟩,
          ⟨1, 0, [], 0, ⟨some 17, none, .mov (.t 5)⟩⟩,
          ⟨2, 0, [], 3, ⟨some 18, none, .ia 1 (.t 16) (.t 17)⟩⟩,
          ⟨3, 0, [], 7, ⟨some 19, none, .load 1 false (.t 18)⟩⟩,
          ⟨4, 0, [], 0, ⟨some 20, none, .mov (.t 1)⟩⟩,
          ⟨5, 0, [], 0, ⟨some 21, none, .mov (.t 5)⟩⟩,
          ⟨6, 0, [], 48, ⟨some 22, none, .ia 1 (.t 20) (.t 21)⟩⟩,
          ⟨7, 0, [], 112, ⟨some 23, none, .load 1 false (.t 22)⟩⟩,
          ⟨8, 0, [], 255, ⟨some 24, none, .int .neq (.t 19) (.t 23)⟩⟩])
        (.cond (.t 24)
          (.seq
          (.reg [
            ⟨some 4, none, .mov (.c (.bool false))⟩])
          .ret)
          .skip))))
      (.reg [
        ⟨some 25, none, .int .add (.t 13) (.c (.int .i64 1))⟩,
        ⟨some 13, none, .mov (.t 25)⟩])))))))
  (.seq
  (.reg [
    ⟨some 4, none, .mov (.c (.bool true))⟩])
  .ret))))⟩

theorem c5 : chkF Go.Proofs.Tryz.prog Go.Proofs.Tryz.f5 m5 = true := by kernel_rfl

/-- paddock/program.Flow -/
def m6 : MFn := ⟨2, 105, [.tmp 4], 0,
  (.seq
  (.reg [
    ⟨some 2, none, .box 25 3 (.t 0)⟩,
    ⟨some 4, none, .mov (.c (.vs true []))⟩])
  (.seq
  (.reg [
    ⟨some 10, none, .fa 0 (.t 2)⟩,
    ⟨some 11, none, .load 1 false (.t 10)⟩,
    ⟨some 12, none, .lenL (.t 11)⟩,
    ⟨some 5, none, .mov (.t 12)⟩])
  (.seq
  (.seq
  (.reg [
    ⟨some 13, none, .mov (.t 1)⟩,
    ⟨some 14, none, .int .lss (.t 13) (.c (.int .i64 0))⟩,
    ⟨some 15, none, .mov (.t 14)⟩,
    ⟨some 16, some (15, false), .mov (.t 1)⟩,
    ⟨some 17, some (15, false), .mov (.t 5)⟩,
    ⟨some 18, some (15, false), .int .geq (.t 16) (.t 17)⟩,
    ⟨some 19, none, .pick (.t 15) (.c (.bool true)) (.t 18)⟩])
  (.cond (.t 19)
    (.seq
    (.reg [
      ⟨some 4, none, .mov (.c (.vs true []))⟩])
    .ret)
    .skip))
  (.seq
  (.reg [
    ⟨some 20, none, .fa 0 (.t 2)⟩,
    ⟨some 21, none, .load 1 false (.t 20)⟩,
    ⟨some 22, none, .mov (.t 1)⟩,
    ⟨some 23, none, .ia 55 (.t 21) (.t 22)⟩,
    ⟨some 24, none, .load 55 true (.t 23)⟩,
    ⟨some 6, none, .box 59 55 (.c (.agg [.int .i64 0, .int .u8 0, .int .i64 0, .int .i64 0, .str [], .bool false, .bool false, .int .u8 0, .int .u64 0, .int .u64 0, .int .u64 0, .int .u64 0, .int .i64 0, .int .i64 0, .int .i64 0, .vs true [], .int .u8 0, .int .i64 0, .int .i64 0, .str [], .bool false, .bool false, .int .u8 0, .int .u64 0, .int .u64 0, .int .u64 0, .int .u64 0, .int .i64 0, .int .i64 0, .int .i64 0, .vs true [], .bool false, .int .u8 0, .str [], .str [], .int .i64 0, .str [], .bool false, .bool false, .int .u8 0, .int .u64 0, .int .u64 0, .int .u64 0, .int .u64 0, .int .i64 0, .int .i64 0, .int .i64 0, .vs true [], .vs true [], .int .i64 0, .bool false, .bool false, .bool false, .str [], .int .i64 0]))⟩,
    ⟨none, none, .store 55 (.t 6) (.t 24)⟩])
  (.seq
  (.reg [
    ⟨some 25, none, .fa 0 (.t 6)⟩,
    ⟨some 26, none, .load 54 true (.t 25)⟩,
    ⟨some 7, none, .box 57 54 (.c (.agg [.int .i64 0, .int .u8 0, .int .i64 0, .int .i64 0, .str [], .bool false, .bool false, .int .u8 0, .int .u64 0, .int .u64 0, .int .u64 0, .int .u64 0, .int .i64 0, .int .i64 0, .int .i64 0, .vs true [], .int .u8 0, .int .i64 0, .int .i64 0, .str [], .bool false, .bool false, .int .u8 0, .int .u64 0, .int .u64 0, .int .u64 0, .int .u64 0, .int .i64 0, .int .i64 0, .int .i64 0, .vs true [], .bool false, .int .u8 0, .str [], .str [], .int .i64 0, .str [], .bool false, .bool false, .int .u8 0, .int .u64 0, .int .u64 0, .int .u64 0, .int .u64 0, .int .i64 0, .int .i64 0, .int .i64 0, .vs true [], .vs true [], .int .i64 0, .bool false, .bool false, .bool false, .str []]))⟩,
    ⟨none, none, .store 54 (.t 7) (.t 26)⟩])
  (.seq
  (.reg [
    ⟨some 8, none, .mov (.c (.vs true []))⟩])
  (.seq
  (.reg [
    ⟨some 27, none, .fa 1 (.t 7)⟩,
    ⟨some 28, none, .fa 0 (.t 27)⟩,
    ⟨some 29, none, .load 1 false (.t 28)⟩,
    ⟨some 30, none, .int .eql (.t 29) (.c (.int .u8 0))⟩,
    ⟨some 9, none, .mov (.t 30)⟩])
  (.seq
  (.seq
  (.reg [
    ⟨some 31, none, .mov (.t 9)⟩,
    ⟨some 32, none, .not (.t 31)⟩,
    ⟨some 33, none, .mov (.t 32)⟩,
    ⟨some 34, some (33, false), .fa 31 (.t 7)⟩,
    ⟨some 35, some (33, false), .load 1 false (.t 34)⟩,
    ⟨some 36, none, .pick (.t 33) (.c (.bool true)) (.t 35)⟩])
  (.cond (.t 36)
    (.seq
    (.reg [
      ⟨some 37, none, .fa 32 (.t 7)⟩,
      ⟨some 38, none, .load 1 false (.t 37)⟩,
      ⟨some 39, none, .int .eql (.t 38) (.c (.int .u8 123))⟩])
    (.cond (.t 39)
      (.reg [
        ⟨some 40, none, .mov (.t 8)⟩,
        ⟨some 41, none, .fa 54 (.t 6)⟩,
        ⟨some 42, none, .load 1 false (.t 41)⟩,
        ⟨some 43, none, .bslice [.int .i64 0] 1 [(0, .t 42)]⟩,
        ⟨some 44, none, .app 3 1 8 (.t 40) (.t 43)⟩,
        ⟨some 8, none, .mov (.t 44)⟩])
      (.reg [
        ⟨some 45, none, .mov (.t 8)⟩,
        ⟨some 46, none, .mov (.t 1)⟩,
        ⟨some 47, none, .call (.c (.fn 11 [])) [.t 46]⟩,
        ⟨some 48, none, .bslice [.int .i64 0] 1 [(0, .t 47)]⟩,
        ⟨some 49, none, .app 3 1 8 (.t 45) (.t 48)⟩,
        ⟨some 8, none, .mov (.t 49)⟩])))
    .skip))
  (.seq
  (.seq
  (.reg [
    ⟨some 50, none, .mov (.t 9)⟩,
    ⟨some 51, none, .not (.t 50)⟩,
    ⟨some 52, none, .mov (.t 51)⟩,
    ⟨some 53, some (52, false), .fa 31 (.t 7)⟩,
    ⟨some 54, some (52, false), .load 1 false (.t 53)⟩,
    ⟨some 55, some (52, false), .not (.t 54)⟩,
    ⟨some 56, none, .pick (.t 52) (.c (.bool true)) (.t 55)⟩])
  (.cond (.t 56)
    (.seq
    (.reg [
      ⟨some 57, none, .fa 32 (.t 7)⟩,
      ⟨some 58, none, .load 1 false (.t 57)⟩])
    (.block 0
      (.seq
      (.reg [
        ⟨some 65, none, .int .eql (.t 58) (.c (.int .u8 98))⟩,
        ⟨some 64, none, .mov (.t 65)⟩])
      (.cond (.t 64)
        (.reg [
          ⟨some 66, none, .mov (.t 8)⟩,
          ⟨some 67, none, .fa 54 (.t 6)⟩,
          ⟨some 68, none, .load 1 false (.t 67)⟩,
          ⟨some 69, none, .bslice [.int .i64 0] 1 [(0, .t 68)]⟩,
          ⟨some 70, none, .app 3 1 8 (.t 66) (.t 69)⟩,
          ⟨some 8, none, .mov (.t 70)⟩])
        (.seq
        (.seq
        (.reg [
          ⟨some 72, none, .int .eql (.t 58) (.c (.int .u8 116))⟩,
          ⟨some 71, none, .mov (.t 72)⟩])
        (.cond (.t 71)
          .skip
          (.reg [
            ⟨some 73, none, .int .eql (.t 58) (.c (.int .u8 84))⟩,
            ⟨some 71, none, .mov (.t 73)⟩])))
        (.cond (.t 71)
          (.dreg [
            ⟨0, 0, [], 0, ⟨some 74, none, .mov (.t 8)⟩⟩,
            ⟨1, 0, [], 0, ⟨some 75, none, .mov (.t 1)⟩⟩,
            ⟨3, 0, [], 0, ⟨some 77, none, .fa 54 (.t 6)⟩⟩,
            ⟨4, 0, [], 8, ⟨some 78, none, .load 1 false (.t 77)⟩⟩,
            ⟨2, 1, [0, 2, 3], 2, ⟨some 76, none, .call (.c (.fn 11 [])) [.t 75]⟩⟩,
            ⟨5, 0, [], 30, ⟨some 79, none, .bslice [.int .i64 0] 2 [(0, .t 76), (1, .t 78)]⟩⟩,
            ⟨6, 1, [], 63, ⟨some 80, none, .app 3 1 8 (.t 74) (.t 79)⟩⟩,
            ⟨7, 1, [], 127, ⟨some 8, none, .mov (.t 80)⟩⟩])
          (.seq
          (.seq
          (.reg [
            ⟨some 82, none, .int .eql (.t 58) (.c (.int .u8 100))⟩,
            ⟨some 81, none, .mov (.t 82)⟩])
          (.cond (.t 81)
            .skip
            (.seq
            (.reg [
              ⟨some 83, none, .int .eql (.t 58) (.c (.int .u8 68))⟩,
              ⟨some 81, none, .mov (.t 83)⟩])
            (.cond (.t 81)
              .skip
              (.reg [
                ⟨some 84, none, .int .eql (.t 58) (.c (.int .u8 99))⟩,
                ⟨some 81, none, .mov (.t 84)⟩])))))
          (.cond (.t 81)
            (.reg [
              ⟨some 85, none, .mov (.t 8)⟩,
              ⟨some 86, none, .mov (.t 5)⟩,
              ⟨some 87, none, .bslice [.int .i64 0] 1 [(0, .t 86)]⟩,
              ⟨some 88, none, .app 3 1 8 (.t 85) (.t 87)⟩,
              ⟨some 8, none, .mov (.t 88)⟩])
            (.seq
            (.seq
            (.reg [
              ⟨some 90, none, .int .eql (.t 58) (.c (.int .u8 110))⟩,
              ⟨some 89, none, .mov (.t 90)⟩])
            (.cond (.t 89)
              .skip
              (.reg [
                ⟨some 91, none, .int .eql (.t 58) (.c (.int .u8 78))⟩,
                ⟨some 89, none, .mov (.t 91)⟩])))
            (.cond (.t 89)
              (.reg [
                ⟨some 92, none, .mov (.t 8)⟩,
                ⟨some 93, none, .mov (.t 1)⟩,
                ⟨some 94, none, .call (.c (.fn 11 [])) [.t 93]⟩,
                ⟨some 95, none, .mov (.t 5)⟩,
                ⟨some 96, none, .bslice [.int .i64 0] 2 [(0, .t 94), (1, .t 95)]⟩,
                ⟨some 97, none, .app 3 1 8 (.t 92) (.t 96)⟩,
                ⟨some 8, none, .mov (.t 97)⟩])
              (.seq
              (.seq
              (.reg [
                ⟨some 99, none, .int .eql (.t 58) (.c (.int .u8 113))⟩,
                ⟨some 98, none, .mov (.t 99)⟩])
              (.cond (.t 98)
                .skip
                (.reg [
                  ⟨some 100, none, .int .eql (.t 58) (.c (.int .u8 81))⟩,
                  ⟨some 98, none, .mov (.t 100)⟩])))
              (.cond (.t 98)
                .skip
                (.reg [
                  ⟨some 59, none, .mov (.t 8)⟩,
                  ⟨some 60, none, .mov (.t 1)⟩,
                  ⟨some 61, none, .call (.c (.fn 11 [])) [.t 60]⟩,
                  ⟨some 62, none, .bslice [.int .i64 0] 1 [(0, .t 61)]⟩,
                  ⟨some 63, none, .app 3 1 8 (.t 59) (.t 62)⟩,
                  ⟨some 8, none, .mov (.t 63)⟩])))))))))))))
    .skip))
  (.seq
  (.reg [
    ⟨some 101, none, .mov (.t 8)⟩,
    ⟨some 102, none, .call (.c (.fn 12 [])) [.t 101]⟩])
  (.seq
  (.reg [
    ⟨some 103, none, .mov (.t 8)⟩,
    ⟨some 104, none, .call (.c (.fn 13 [])) [.t 103]⟩,
    ⟨some 4, none, .mov (.t 104)⟩])
  .ret)))))))))))⟩

theorem c6 : chkF Go.Proofs.Tryz.prog Go.Proofs.Tryz.f6 m6 = true := by kernel_rfl

/-- paddock/paddockref15.Flow -/
def m7 : MFn := ⟨2, 96, [.tmp 4], 0,
  (.seq
  (.reg [
    ⟨some 2, none, .box 25 3 (.t 0)⟩,
    ⟨some 4, none, .mov (.c (.vs true []))⟩])
  (.seq
  (.reg [
    ⟨some 9, none, .fa 0 (.t 2)⟩,
    ⟨some 10, none, .load 1 false (.t 9)⟩,
    ⟨some 11, none, .lenL (.t 10)⟩,
    ⟨some 5, none, .mov (.t 11)⟩])
  (.seq
  (.seq
  (.reg [
    ⟨some 12, none, .mov (.t 1)⟩,
    ⟨some 13, none, .int .lss (.t 12) (.c (.int .i64 0))⟩,
    ⟨some 14, none, .mov (.t 13)⟩,
    ⟨some 15, some (14, false), .mov (.t 1)⟩,
    ⟨some 16, some (14, false), .mov (.t 5)⟩,
    ⟨some 17, some (14, false), .int .geq (.t 15) (.t 16)⟩,
    ⟨some 18, none, .pick (.t 14) (.c (.bool true)) (.t 17)⟩])
  (.cond (.t 18)
    (.seq
    (.reg [
      ⟨some 4, none, .mov (.c (.vs true []))⟩])
    .ret)
    .skip))
  (.seq
  (.reg [
    ⟨some 19, none, .fa 0 (.t 2)⟩,
    ⟨some 20, none, .load 1 false (.t 19)⟩,
    ⟨some 21, none, .mov (.t 1)⟩,
    ⟨some 22, none, .ia 55 (.t 20) (.t 21)⟩,
    ⟨some 23, none, .load 55 true (.t 22)⟩,
    ⟨some 6, none, .box 59 55 (.c (.agg [.int .i64 0, .int .u8 0, .int .i64 0, .int .i64 0, .str [], .bool false, .bool false, .int .u8 0, .int .u64 0, .int .u64 0, .int .u64 0, .int .u64 0, .int .i64 0, .int .i64 0, .int .i64 0, .vs true [], .int .u8 0, .int .i64 0, .int .i64 0, .str [], .bool false, .bool false, .int .u8 0, .int .u64 0, .int .u64 0, .int .u64 0, .int .u64 0, .int .i64 0, .int .i64 0, .int .i64 0, .vs true [], .bool false, .int .u8 0, .str [], .str [], .int .i64 0, .str [], .bool false, .bool false, .int .u8 0, .int .u64 0, .int .u64 0, .int .u64 0, .int .u64 0, .int .i64 0, .int .i64 0, .int .i64 0, .vs true [], .vs true [], .int .i64 0, .bool false, .bool false, .bool false, .str [], .int .i64 0]))⟩,
    ⟨none, none, .store 55 (.t 6) (.t 23)⟩])
  (.seq
  (.reg [
    ⟨some 24, none, .fa 0 (.t 6)⟩,
    ⟨some 25, none, .load 54 true (.t 24)⟩,
    ⟨some 7, none, .box 57 54 (.c (.agg [.int .i64 0, .int .u8 0, .int .i64 0, .int .i64 0, .str [], .bool false, .bool false, .int .u8 0, .int .u64 0, .int .u64 0, .int .u64 0, .int .u64 0, .int .i64 0, .int .i64 0, .int .i64 0, .vs true [], .int .u8 0, .int .i64 0, .int .i64 0, .str [], .bool false, .bool false, .int .u8 0, .int .u64 0, .int .u64 0, .int .u64 0, .int .u64 0, .int .i64 0, .int .i64 0, .int .i64 0, .vs true [], .bool false, .int .u8 0, .str [], .str [], .int .i64 0, .str [], .bool false, .bool false, .int .u8 0, .int .u64 0, .int .u64 0, .int .u64 0, .int .u64 0, .int .i64 0, .int .i64 0, .int .i64 0, .vs true [], .vs true [], .int .i64 0, .bool false, .bool false, .bool false, .str []]))⟩,
    ⟨none, none, .store 54 (.t 7) (.t 25)⟩])
  (.seq
  (.reg [
    ⟨some 8, none, .mov (.c (.vs true []))⟩])
  (.seq
  (.seq
  (.reg [
    ⟨some 26, none, .fa 1 (.t 7)⟩,
    ⟨some 27, none, .fa 0 (.t 26)⟩,
    ⟨some 28, none, .load 1 false (.t 27)⟩,
    ⟨some 29, none, .int .neq (.t 28) (.c (.int .u8 0))⟩,
    ⟨some 30, none, .mov (.t 29)⟩,
    ⟨some 31, some (30, false), .fa 31 (.t 7)⟩,
    ⟨some 32, some (30, false), .load 1 false (.t 31)⟩,
    ⟨some 33, none, .pick (.t 30) (.c (.bool true)) (.t 32)⟩])
  (.cond (.t 33)
    (.seq
    (.reg [
      ⟨some 34, none, .fa 32 (.t 7)⟩,
      ⟨some 35, none, .load 1 false (.t 34)⟩,
      ⟨some 36, none, .int .eql (.t 35) (.c (.int .u8 123))⟩])
    (.cond (.t 36)
      (.reg [
        ⟨some 37, none, .mov (.t 8)⟩,
        ⟨some 38, none, .fa 54 (.t 6)⟩,
        ⟨some 39, none, .load 1 false (.t 38)⟩,
        ⟨some 40, none, .call (.c (.fn 14 [])) [.t 37, .t 39]⟩,
        ⟨some 8, none, .mov (.t 40)⟩])
      (.reg [
        ⟨some 41, none, .mov (.t 8)⟩,
        ⟨some 42, none, .mov (.t 1)⟩,
        ⟨some 43, none, .int .add (.t 42) (.c (.int .i64 1))⟩,
        ⟨some 44, none, .call (.c (.fn 14 [])) [.t 41, .t 43]⟩,
        ⟨some 8, none, .mov (.t 44)⟩])))
    .skip))
  (.seq
  (.seq
  (.reg [
    ⟨some 45, none, .fa 1 (.t 7)⟩,
    ⟨some 46, none, .fa 0 (.t 45)⟩,
    ⟨some 47, none, .load 1 false (.t 46)⟩,
    ⟨some 48, none, .int .neq (.t 47) (.c (.int .u8 0))⟩,
    ⟨some 49, none, .mov (.t 48)⟩,
    ⟨some 50, some (49, false), .fa 31 (.t 7)⟩,
    ⟨some 51, some (49, false), .load 1 false (.t 50)⟩,
    ⟨some 52, some (49, false), .not (.t 51)⟩,
    ⟨some 53, none, .pick (.t 49) (.c (.bool true)) (.t 52)⟩])
  (.cond (.t 53)
    (.seq
    (.reg [
      ⟨some 54, none, .fa 32 (.t 7)⟩,
      ⟨some 55, none, .load 1 false (.t 54)⟩])
    (.block 0
      (.seq
      (.reg [
        ⟨some 61, none, .int .eql (.t 55) (.c (.int .u8 98))⟩,
        ⟨some 60, none, .mov (.t 61)⟩])
      (.cond (.t 60)
        (.reg [
          ⟨some 62, none, .mov (.t 8)⟩,
          ⟨some 63, none, .fa 54 (.t 6)⟩,
          ⟨some 64, none, .load 1 false (.t 63)⟩,
          ⟨some 65, none, .call (.c (.fn 14 [])) [.t 62, .t 64]⟩,
          ⟨some 8, none, .mov (.t 65)⟩])
        (.seq
        (.seq
        (.reg [
          ⟨some 67, none, .int .eql (.t 55) (.c (.int .u8 116))⟩,
          ⟨some 66, none, .mov (.t 67)⟩])
        (.cond (.t 66)
          .skip
          (.reg [
            ⟨some 68, none, .int .eql (.t 55) (.c (.int .u8 84))⟩,
            ⟨some 66, none, .mov (.t 68)⟩])))
        (.cond (.t 66)
          (.reg [
            ⟨some 69, none, .mov (.t 8)⟩,
            ⟨some 70, none, .fa 54 (.t 6)⟩,
            ⟨some 71, none, .load 1 false (.t 70)⟩,
            ⟨some 72, none, .call (.c (.fn 14 [])) [.t 69, .t 71]⟩,
            ⟨some 73, none, .mov (.t 1)⟩,
            ⟨some 74, none, .int .add (.t 73) (.c (.int .i64 1))⟩,
            ⟨some 75, none, .call (.c (.fn 14 [])) [.t 72, .t 74]⟩,
            ⟨some 8, none, .mov (.t 75)⟩])
          (.seq
          (.seq
          (.reg [
            ⟨some 77, none, .int .eql (.t 55) (.c (.int .u8 100))⟩,
            ⟨some 76, none, .mov (.t 77)⟩])
          (.cond (.t 76)
            .skip
            (.seq
            (.reg [
              ⟨some 78, none, .int .eql (.t 55) (.c (.int .u8 68))⟩,
              ⟨some 76, none, .mov (.t 78)⟩])
            (.cond (.t 76)
              .skip
              (.reg [
                ⟨some 79, none, .int .eql (.t 55) (.c (.int .u8 99))⟩,
                ⟨some 76, none, .mov (.t 79)⟩])))))
          (.cond (.t 76)
            (.reg [
              ⟨some 80, none, .mov (.t 8)⟩,
              ⟨some 81, none, .mov (.t 5)⟩,
              ⟨some 82, none, .call (.c (.fn 14 [])) [.t 80, .t 81]⟩,
              ⟨some 8, none, .mov (.t 82)⟩])
            (.seq
            (.seq
            (.reg [
              ⟨some 84, none, .int .eql (.t 55) (.c (.int .u8 113))⟩,
              ⟨some 83, none, .mov (.t 84)⟩])
            (.cond (.t 83)
              .skip
              (.reg [
                ⟨some 85, none, .int .eql (.t 55) (.c (.int .u8 81))⟩,
                ⟨some 83, none, .mov (.t 85)⟩])))
            (.cond (.t 83)
              .skip
              (.seq
              (.seq
              (.reg [
                ⟨some 87, none, .int .eql (.t 55) (.c (.int .u8 110))⟩,
                ⟨some 86, none, .mov (.t 87)⟩])
              (.cond (.t 86)
                .skip
                (.reg [
                  ⟨some 88, none, .int .eql (.t 55) (.c (.int .u8 78))⟩,
                  ⟨some 86, none, .mov (.t 88)⟩])))
              (.cond (.t 86)
                (.reg [
                  ⟨some 89, none, .mov (.t 8)⟩,
                  ⟨some 90, none, .mov (.t 5)⟩,
                  ⟨some 91, none, .call (.c (.fn 14 [])) [.t 89, .t 90]⟩,
                  ⟨some 92, none, .mov (.t 1)⟩,
                  ⟨some 93, none, .int .add (.t 92) (.c (.int .i64 1))⟩,
                  ⟨some 94, none, .call (.c (.fn 14 [])) [.t 91, .t 93]⟩,
                  ⟨some 8, none, .mov (.t 94)⟩])
                (.reg [
                  ⟨some 56, none, .mov (.t 8)⟩,
                  ⟨some 57, none, .mov (.t 1)⟩,
                  ⟨some 58, none, .int .add (.t 57) (.c (.int .i64 1))⟩,
                  ⟨some 59, none, .call (.c (.fn 14 [])) [.t 56, .t 58]⟩,
                  ⟨some 8, none, .mov (.t 59)⟩])))))))))))))
    .skip))
  (.seq
  (.reg [
    ⟨some 95, none, .mov (.t 8)⟩,
    ⟨some 4, none, .mov (.t 95)⟩])
  .ret)))))))))⟩

theorem c7 : chkF Go.Proofs.Tryz.prog Go.Proofs.Tryz.f7 m7 = true := by kernel_rfl

/-- paddock/program.Make -/
def m9 : MFn := ⟨1, 19, [.cell 2 3 true, .tmp 3, .tmp 4], 0,
  (.seq
  (.reg [
    ⟨some 1, none, .box 33 3 (.t 0)⟩,
    ⟨some 2, none, .box 25 3 (.c (.agg [.vs true [], .bool false, .vs true []]))⟩,
    ⟨some 3, none, .mov (.c (.int .i64 0))⟩,
    ⟨some 4, none, .mov (.c (.int .i64 0))⟩])
  (.seq
  (.seq
  (.reg [
    ⟨some 8, none, .load 3 true (.t 1)⟩,
    ⟨some 9, none, .call (.c (.fn 24 [])) [.t 8]⟩,
    ⟨some 7, none, .mov (.t 9)⟩,
    ⟨some 10, none, .ext (.t 7) 0⟩,
    ⟨some 11, none, .ext (.t 7) 1⟩,
    ⟨some 5, none, .mov (.t 10)⟩,
    ⟨some 6, none, .mov (.t 11)⟩])
  (.seq
  (.reg [
    ⟨some 12, none, .mov (.t 5)⟩,
    ⟨some 13, none, .int .neq (.t 12) (.c (.int .i64 0))⟩])
  (.cond (.t 13)
    (.seq
    (.reg [
      ⟨some 14, none, .build [.vs true [], .bool false, .vs true []] []⟩,
      ⟨some 15, none, .mov (.t 5)⟩,
      ⟨some 16, none, .mov (.t 6)⟩,
      ⟨none, none, .store 3 (.t 2) (.t 14)⟩,
      ⟨some 3, none, .mov (.t 15)⟩,
      ⟨some 4, none, .mov (.t 16)⟩])
    .ret)
    .skip)))
  (.seq
  (.reg [
    ⟨some 17, none, .load 3 true (.t 1)⟩,
    ⟨some 18, none, .call (.c (.fn 25 [])) [.t 17]⟩,
    ⟨none, none, .store 3 (.t 2) (.t 18)⟩,
    ⟨some 3, none, .mov (.c (.int .i64 0))⟩,
    ⟨some 4, none, .mov (.c (.int .i64 0))⟩])
  .ret)))⟩

theorem c9 : chkF Go.Proofs.Tryz.prog Go.Proofs.Tryz.f9 m9 = true := by kernel_rfl

/-- paddock/program.Check -/
def m10 : MFn := ⟨2, 56, [.tmp 4, .tmp 5], 0,
  (.seq
  (.reg [
    ⟨some 2, none, .box 25 3 (.t 0)⟩,
    ⟨some 4, none, .mov (.c (.int .i64 0))⟩,
    ⟨some 5, none, .mov (.c (.int .i64 0))⟩])
  (.seq
  (.reg [
    ⟨some 6, none, .mov (.c (.vs true []))⟩])
  (.seq
  (.seq
  (.reg [
    ⟨some 10, none, .fa 0 (.t 2)⟩,
    ⟨some 11, none, .load 1 false (.t 10)⟩,
    ⟨some 12, none, .lenL (.t 11)⟩,
    ⟨some 13, none, .mov (.c (.int .i64 0))⟩])
  (.block 0
    (.loop
      (.seq
      (.reg [
        ⟨some 14, none, .int .lss (.t 13) (.t 12)⟩])
      (.seq
      (.cond (.t 14)
        .skip
        (.exit 0))
      (.seq
      (.block 1
        (.seq
        (.reg [
          ⟨some 15, none, .mov (.t 13)⟩,
          ⟨some 16, none, .ia 55 (.t 11) (.t 13)⟩,
          ⟨some 17, none, .load 55 true (.t 16)⟩,
          ⟨some 7, none, .box 3 1 (.c (.int .i64 0))⟩,
          ⟨some 8, none, .box 59 55 (.c (.agg [.int .i64 0, .int .u8 0, .int .i64 0, .int .i64 0, .str [], .bool false, .bool false, .int .u8 0, .int .u64 0, .int .u64 0, .int .u64 0, .int .u64 0, .int .i64 0, .int .i64 0, .int .i64 0, .vs true [], .int .u8 0, .int .i64 0, .int .i64 0, .str [], .bool false, .bool false, .int .u8 0, .int .u64 0, .int .u64 0, .int .u64 0, .int .u64 0, .int .i64 0, .int .i64 0, .int .i64 0, .vs true [], .bool false, .int .u8 0, .str [], .str [], .int .i64 0, .str [], .bool false, .bool false, .int .u8 0, .int .u64 0, .int .u64 0, .int .u64 0, .int .u64 0, .int .i64 0, .int .i64 0, .int .i64 0, .vs true [], .vs true [], .int .i64 0, .bool false, .bool false, .bool false, .str [], .int .i64 0]))⟩,
          ⟨none, none, .store 1 (.t 7) (.t 15)⟩,
          ⟨none, none, .store 55 (.t 8) (.t 17)⟩])
        (.seq
        (.reg [
          ⟨some 18, none, .mov (.t 6)⟩,
          ⟨some 19, none, .mkf 27 [.t 7]⟩,
          ⟨some 20, none, .call (.c (.fn 26 [])) [.t 18, .t 19]⟩,
          ⟨some 6, none, .mov (.t 20)⟩])
        (.seq
        (.seq
        (.reg [
          ⟨some 21, none, .load 3 true (.t 2)⟩,
          ⟨some 22, none, .load 1 false (.t 7)⟩,
          ⟨some 23, none, .mov (.t 1)⟩,
          ⟨some 24, none, .mov (.t 6)⟩,
          ⟨some 25, none, .call (.c (.fn 28 [])) [.t 21, .t 22, .t 23, .t 24]⟩,
          ⟨some 26, none, .not (.t 25)⟩])
        (.cond (.t 26)
          (.seq
          (.dreg [
            ⟨0, 0, [], 0, ⟨some 27, none, .load 1 false (.t 7)⟩⟩,
            ⟨1, 0, [], 0, ⟨some 4, none, .mov (.c (.int .i64 150))⟩⟩,
            ⟨2, 0, [], 3, ⟨some 5, none, .mov (.t 27)⟩⟩])
          .ret)
          .skip))
        (.seq
        (.reg [
          ⟨some 28, none, .fa 0 (.t 8)⟩,
          ⟨some 29, none, .fa 32 (.t 28)⟩,
          ⟨some 30, none, .load 1 false (.t 29)⟩,
          ⟨some 31, none, .int .eql (.t 30) (.c (.int .u8 123))⟩])
        (.cond (.t 31)
          (.reg [
            ⟨some 32, none, .mov (.t 6)⟩,
            ⟨some 33, none, .fa 54 (.t 8)⟩,
            ⟨some 34, none, .load 1 false (.t 33)⟩,
            ⟨some 35, none, .bslice [.int .i64 0] 1 [(0, .t 34)]⟩,
            ⟨some 36, none, .app 3 1 8 (.t 32) (.t 35)⟩,
            ⟨some 6, none, .mov (.t 36)⟩])
          .skip))))))
      (.reg [
        ⟨some 37, none, .int .add (.t 13) (.c (.int .i64 1))⟩,
        ⟨some 13, none, .mov (.t 37)⟩])))))))
  (.seq
  (.reg [
    ⟨some 38, none, .load 3 true (.t 2)⟩,
    ⟨some 39, none, .mov (.t 1)⟩,
    ⟨some 40, none, .call (.c (.fn 29 [])) [.t 38, .t 39]⟩,
    ⟨some 9, none, .box 33 3 (.c (.agg [.vs true [], .bool false, .bool false]))⟩,
    ⟨none, none, .store 3 (.t 9) (.t 40)⟩])
  (.seq
  (.seq
  (.dreg [
    ⟨0, 0, [], 0, ⟨some 41, none, .fa 0 (.t 9)⟩⟩,
    ⟨1, 0, [], 1, ⟨some 42, none, .load 1 false (.t 41)⟩⟩,
    ⟨2, 0, [], 3, ⟨some 43, none, .lenL (.t 42)⟩⟩,
    ⟨3, 0, [], 7, ⟨some 44, none, .int .gtr (.t 43) (.c (.int .i64 4096))⟩⟩,
    ⟨4, 0, [], 15, ⟨some 45, none, .mov (.t 44)⟩⟩,
    ⟨5, 0, [], 31, ⟨some 46, some (45, false), .load 3 true (.t 9)⟩⟩,
    ⟨7, 0, [], 31, ⟨some 48, some (45, false), .fa 2 (.t 2)⟩⟩,
    ⟨8, 0, [], 159, ⟨some 49, some (45, false), .load 1 false (.t 48)⟩⟩,
    ⟨6, 1, [6, 7], 63, ⟨some 47, some (45, false), .call (.c (.fn 31 [])) [.t 46]⟩⟩,
    ⟨9, 1, [], 511, ⟨some 50, some (45, false), .call (.c (.fn 30 [])) [.t 47, .t 49]⟩⟩,
    ⟨10, 0, [], 1023, ⟨some 51, some (45, false), .not (.t 50)⟩⟩,
    ⟨11, 0, [], 2047, ⟨some 52, none, .pick (.t 45) (.c (.bool true)) (.t 51)⟩⟩])
  (.cond (.t 52)
    (.seq
    (.dreg [
      ⟨0, 0, [], 0, ⟨some 53, none, .fa 0 (.t 2)⟩⟩,
      ⟨1, 0, [], 1, ⟨some 54, none, .load 1 false (.t 53)⟩⟩,
      ⟨2, 0, [], 3, ⟨some 55, none, .lenL (.t 54)⟩⟩,
      ⟨3, 0, [], 0, ⟨some 4, none, .mov (.c (.int .i64 150))⟩⟩,
      ⟨4, 0, [], 15, ⟨some 5, none, .mov (.t 55)⟩⟩])
    .ret)
    .skip))
  (.seq
  (.reg [
    ⟨some 4, none, .mov (.c (.int .i64 0))⟩,
    ⟨some 5, none, .mov (.c (.int .i64 0))⟩])
  .ret))))))⟩

theorem c10 : chkF Go.Proofs.Tryz.prog Go.Proofs.Tryz.f10 m10 = true := by kernel_rfl

/-- paddock/program.next -/
def m11 : MFn := ⟨1, 6, [.tmp 2], 0,
  (.seq
  (.reg [
    ⟨some 2, none, .mov (.c (.int .i64 0))⟩])
  (.seq
  (.reg [
    ⟨some 3, none, .mov (.t 0)⟩,
    ⟨some 4, none, .minmax false (.t 3) (.c (.int .i64 9223372036854775806))⟩,
    ⟨some 5, none, .int .add (.t 4) (.c (.int .i64 1))⟩,
    ⟨some 2, none, .mov (.t 5)⟩])
  .ret))⟩

theorem c11 : chkF Go.Proofs.Tryz.prog Go.Proofs.Tryz.f11 m11 = true := by kernel_rfl

/-- slices.Sort[[]int,int] -/
def m12 : MFn := ⟨1, 11, [], 0,
  (.seq
  (.reg [
    ⟨some 3, none, .mov (.t 0)⟩,
    ⟨some 4, none, .lenL (.t 3)⟩,
    ⟨some 2, none, .mov (.t 4)⟩])
  (.reg [
    ⟨some 5, none, .mov (.t 0)⟩,
    ⟨some 6, none, .mov (.t 2)⟩,
    ⟨some 7, none, .mov (.t 2)⟩,
    ⟨some 8, none, .conv .u64 (.t 7)⟩,
    ⟨some 9, none, .call (.c (.fn 33 [])) [.t 8]⟩,
    ⟨some 10, none, .call (.c (.fn 32 [])) [.t 5, .c (.int .i64 0), .t 6, .t 9]⟩]))⟩

theorem c12 : chkF Go.Proofs.Tryz.prog Go.Proofs.Tryz.f12 m12 = true := by kernel_rfl

/-- slices.Compact[[]int,int] -/
def m13 : MFn := ⟨1, 61, [.tmp 2], 0,
  (.seq
  (.reg [
    ⟨some 2, none, .mov (.c (.vs true []))⟩])
  (.seq
  (.seq
  (.reg [
    ⟨some 6, none, .mov (.t 0)⟩,
    ⟨some 7, none, .lenL (.t 6)⟩,
    ⟨some 8, none, .int .lss (.t 7) (.c (.int .i64 2))⟩])
  (.cond (.t 8)
    (.seq
    (.reg [
      ⟨some 9, none, .mov (.t 0)⟩,
      ⟨some 2, none, .mov (.t 9)⟩])
    .ret)
    .skip))
  (.seq
  (.seq
  (.reg [
    ⟨some 3, none, .mov (.c (.int .i64 1))⟩])
  (.block 0
    (.loop
      (.seq
      (.seq
      (.reg [
        ⟨some 10, none, .mov (.t 3)⟩,
        ⟨some 11, none, .mov (.t 0)⟩,
        ⟨some 12, none, .lenL (.t 11)⟩,
        ⟨some 13, none, .int .lss (.t 10) (.t 12)⟩])
      (.cond (.t 13)
        .skip
        (.exit 0)))
      (.seq
      (.block 1
        (.seq
        (.dreg [
          ⟨0, 0, [], 0, ⟨some 16, none, .mov (.t 0)⟩⟩,
          ⟨1, 0, [], 0, ⟨some 17, none, .mov (.t 3)⟩⟩,
          ⟨2, 0, [], 3, ⟨some 18, none, .ia 1 (.t 16) (.t 17)⟩⟩,
          ⟨3, 0, [], 7, ⟨some 19, none, .load 1 false (.t 18)⟩⟩,
          ⟨4, 0, [], 0, ⟨some 20, none, .mov (.t 0)⟩⟩,
          ⟨5, 0, [], 0, ⟨some 21, none, .mov (.t 3)⟩⟩,
          ⟨6, 0, [], 32, ⟨some 22, none, .int .sub (.t 21) (.c (.int .i64 1))⟩⟩,
          ⟨7, 0, [], 112, ⟨some 23, none, .ia 1 (.t 20) (.t 22)⟩⟩,
          ⟨8, 0, [], 240, ⟨some 24, none, .load 1 false (.t 23)⟩⟩,
          ⟨9, 0, [], 511, ⟨some 25, none, .int .eql (.t 19) (.t 24)⟩⟩])
        (.cond (.t 25)
          (.seq
          (.reg [
            ⟨some 26, none, .mov (.t 0)⟩,
            ⟨some 27, none, .mov (.t 3)⟩,
            ⟨some 28, none, .ssl 1 (.t 26) (some (.t 27)) none⟩,
            ⟨some 4, none, .mov (.t 28)⟩])
          (.seq
          (.seq
          (.reg [
            ⟨some 5, none, .mov (.c (.int .i64 1))⟩])
          (.block 2
            (.loop
              (.seq
              (.seq
              (.reg [
                ⟨some 29, none, .mov (.t 5)⟩,
                ⟨some 30, none, .mov (.t 4)⟩,
                ⟨some 31, none, .lenL (.t 30)⟩,
                ⟨some 32, none, .int .lss (.t 29) (.t 31)⟩])
              (.cond (.t 32)
                .skip
                (.exit 2)))
              (.seq
              (.block 3
                (.seq
                (.dreg [
                  ⟨0, 0, [], 0, ⟨some 35, none, .mov (.t 4)⟩⟩,
                  ⟨1, 0, [], 0, ⟨some 36, none, .mov (.t 5)⟩⟩,
                  ⟨2, 0, [], 3, ⟨some 37, none, .ia 1 (.t 35) (.t 36)⟩⟩,
                  ⟨3, 0, [], 7, ⟨some 38, none, .load 1 false (.t 37)⟩⟩,
                  ⟨4, 0, [], 0, ⟨some 39, none, .mov (.t 4)⟩⟩,
                  ⟨5, 0, [], 0, ⟨some 40, none, .mov (.t 5)⟩⟩,
                  ⟨6, 0, [], 32, ⟨some 41, none, .int .sub (.t 40) (.c (.int .i64 1))⟩⟩,
                  ⟨7, 0, [], 112, ⟨some 42, none, .ia 1 (.t 39) (.t 41)⟩⟩,
                  ⟨8, 0, [], 240, ⟨some 43, none, .load 1 false (.t 42)⟩⟩,
                  ⟨9, 0, [], 511, ⟨some 44, none, .int .neq (.t 38) (.t 43)⟩⟩])
                (.cond (.t 44)
                  (.seq
                  (.reg [
                    ⟨some 45, none, .mov (.t 0)⟩,
                    ⟨some 46, none, .mov (.t 3)⟩,
                    ⟨some 47, none, .mov (.t 4)⟩,
                    ⟨some 48, none, .mov (.t 5)⟩,
                    ⟨some 49, none, .ia 1 (.t 47) (.t 48)⟩,
                    ⟨some 50, none, .load 1 false (.t 49)⟩,
                    ⟨some 51, none, .ia 1 (.t 45) (.t 46)⟩,
                    ⟨none, none, .store 1 (.t 51) (.t 50)⟩])
                  (.reg [
                    ⟨some 52, none, .mov (.t 3)⟩,
                    ⟨some 53, none, .int .add (.t 52) (.c (.int .i64 1))⟩,
                    ⟨some 3, none, .mov (.t 53)⟩]))
                  .skip)))
              (.reg [
                ⟨some 33, none, .mov (.t 5)⟩,
                ⟨some 34, none, .int .add (.t 33) (.c (.int .i64 1))⟩,
                ⟨some 5, none, .mov (.t 34)⟩]))))))
          (.seq
          (.reg [
            ⟨some 54, none, .mov (.t 0)⟩,
            ⟨some 55, none, .mov (.t 3)⟩,
            ⟨some 56, none, .ssl 1 (.t 54) (some (.t 55)) none⟩,
            ⟨none, none, .clr (.int .i64 0) (.t 56)⟩])
          (.seq
          (.reg [
            ⟨some 57, none, .mov (.t 0)⟩,
            ⟨some 58, none, .mov (.t 3)⟩,
            ⟨some 59, none, .ssl 1 (.t 57) none (some (.t 58))⟩,
            ⟨some 2, none, .mov (.t 59)⟩])
          .ret))))
          .skip)))
      (.reg [
        ⟨some 14, none, .mov (.t 3)⟩,
        ⟨some 15, none, .int .add (.t 14) (.c (.int .i64 1))⟩,
        ⟨some 3, none, .mov (.t 15)⟩]))))))
  (.seq
  (.reg [
    ⟨some 60, none, .mov (.t 0)⟩,
    ⟨some 2, none, .mov (.t 60)⟩])
  .ret))))⟩

theorem c13 : chkF Go.Proofs.Tryz.prog Go.Proofs.Tryz.f13 m13 = true := by kernel_rfl

/-- paddock/paddockref15.led -/
def m14 : MFn := ⟨2, 41, [.tmp 4], 0,
  (.seq
  (.reg [
    ⟨some 4, none, .mov (.c (.vs true []))⟩])
  (.seq
  (.reg [
    ⟨some 5, none, .mov (.c (.vs true []))⟩])
  (.seq
  (.reg [
    ⟨some 6, none, .mov (.c (.bool false))⟩])
  (.seq
  (.seq
  (.reg [
    ⟨some 9, none, .mov (.t 0)⟩,
    ⟨some 10, none, .lenL (.t 9)⟩,
    ⟨some 11, none, .mov (.c (.int .i64 0))⟩])
  (.block 0
    (.loop
      (.seq
      (.reg [
        ⟨some 12, none, .int .lss (.t 11) (.t 10)⟩])
      (.seq
      (.cond (.t 12)
        .skip
        (.exit 0))
      (.seq
      (.block 1
        (.seq
        (.reg [
          ⟨some 13, none, .ia 1 (.t 9) (.t 11)⟩,
          ⟨some 14, none, .load 1 false (.t 13)⟩,
          ⟨some 8, none, .mov (.t 14)⟩])
        (.seq
        (.seq
        (.reg [
          ⟨some 15, none, .mov (.t 1)⟩,
          ⟨some 16, none, .mov (.t 8)⟩,
          ⟨some 17, none, .int .leq (.t 15) (.t 16)⟩,
          ⟨some 18, none, .mov (.t 17)⟩,
          ⟨some 19, some (18, true), .mov (.t 6)⟩,
          ⟨some 20, some (18, true), .not (.t 19)⟩,
          ⟨some 21, none, .pick (.t 18) (.t 20) (.c (.bool false))⟩])
        (.cond (.t 21)
          (.seq
          (.reg [
            ⟨some 22, none, .mov (.t 5)⟩,
            ⟨some 23, none, .mov (.t 1)⟩,
            ⟨some 24, none, .bslice [.int .i64 0] 1 [(0, .t 23)]⟩,
            ⟨some 25, none, .app 3 1 8 (.t 22) (.t 24)⟩,
            ⟨some 5, none, .mov (.t 25)⟩])
          (.reg [
            ⟨some 6, none, .mov (.c (.bool true))⟩]))
          .skip))
        (.seq
        (.reg [
          ⟨some 26, none, .mov (.t 1)⟩,
          ⟨some 27, none, .mov (.t 8)⟩,
          ⟨some 28, none, .int .neq (.t 26) (.t 27)⟩])
        (.cond (.t 28)
          (.reg [
            ⟨some 29, none, .mov (.t 5)⟩,
            ⟨some 30, none, .mov (.t 8)⟩,
            ⟨some 31, none, .bslice [.int .i64 0] 1 [(0, .t 30)]⟩,
            ⟨some 32, none, .app 3 1 8 (.t 29) (.t 31)⟩,
            ⟨some 5, none, .mov (.t 32)⟩])
          .skip)))))
      (.reg [
        ⟨some 33, none, .int .add (.t 11) (.c (.int .i64 1))⟩,
        ⟨some 11, none, .mov (.t 33)⟩])))))))
  (.seq
  (.seq
  (.reg [
    ⟨some 34, none, .mov (.t 6)⟩,
    ⟨some 35, none, .not (.t 34)⟩])
  (.cond (.t 35)
    (.reg [
      ⟨some 36, none, .mov (.t 5)⟩,
      ⟨some 37, none, .mov (.t 1)⟩,
      ⟨some 38, none, .bslice [.int .i64 0] 1 [(0, .t 37)]⟩,
      ⟨some 39, none, .app 3 1 8 (.t 36) (.t 38)⟩,
      ⟨some 5, none, .mov (.t 39)⟩])
    .skip))
  (.seq
  (.reg [
    ⟨some 40, none, .mov (.t 5)⟩,
    ⟨some 4, none, .mov (.t 40)⟩])
  .ret))))))⟩

theorem c14 : chkF Go.Proofs.Tryz.prog Go.Proofs.Tryz.f14 m14 = true := by kernel_rfl

/-- paddock/script.letters -/
def m16 : MFn := ⟨0, 98, [.tmp 0], 2,
  (.seq
  (.reg [
    ⟨some 0, none, .mov (.c (.nilm))⟩])
  (.seq
  (.reg [
    ⟨some 13, none, .build [.int .i64 0, .nilf, .nilf] [(0, 1, .c (.int .i64 2)), (1, 1, .c (.fn 34 [])), (2, 1, .c (.fn 36 []))]⟩,
    ⟨some 1, none, .box 93 3 (.c (.agg [.int .i64 0, .nilf, .nilf]))⟩,
    ⟨none, none, .store 3 (.t 1) (.t 13)⟩])
  (.seq
  (.dreg [
    ⟨1, 0, [], 0, ⟨some 15, none, .fa 2 (.t 1)⟩⟩,
    ⟨2, 0, [], 2, ⟨some 16, none, .load 1 false (.t 15)⟩⟩,
    ⟨3, 0, [], 6, ⟨some 17, none, .build [.int .i64 0, .nilf, .nilf] [(0, 1, .c (.int .i64 2)), (1, 1, .c (.fn 37 [])), (2, 1, .t 16)]⟩⟩,
    ⟨5, 0, [], 0, ⟨some 18, none, .fa 1 (.t 1)⟩⟩,
    ⟨6, 0, [], 32, ⟨some 19, none, .load 1 false (.t 18)⟩⟩,
    ⟨7, 0, [], 0, ⟨some 20, none, .fa 2 (.t 1)⟩⟩,
    ⟨8, 0, [], 128, ⟨some 21, none, .load 1 false (.t 20)⟩⟩,
    ⟨9, 0, [], 480, ⟨some 22, none, .build [.int .i64 0, .nilf, .nilf] [(0, 1, .c (.int .i64 0)), (1, 1, .t 19), (2, 1, .t 21)]⟩⟩,
    ⟨15, 0, [], 0, ⟨some 26, none, .fa 2 (.t 1)⟩⟩,
    ⟨16, 0, [], 32768, ⟨some 27, none, .load 1 false (.t 26)⟩⟩,
    ⟨17, 0, [], 98304, ⟨some 28, none, .build [.int .i64 0, .nilf, .nilf] [(0, 1, .c (.int .i64 2)), (1, 1, .c (.fn 40 [])), (2, 1, .t 27)]⟩⟩,
    ⟨19, 0, [], 0, ⟨some 29, none, .build [.int .i64 0, .nilf, .nilf] [(0, 1, .c (.int .i64 2)), (1, 1, .c (.fn 41 [])), (2, 1, .c (.fn 42 []))]⟩⟩,
    ⟨11, 1, [0, 1, 2, 3, 4, 5, 6, 7, 8, 9, 10, 11], 0, ⟨some 23, none, .call (.c (.fn 38 [])) [.c (.int .i64 1073741824)]⟩⟩,
    ⟨12, 1, [0, 1, 2, 3, 4, 5, 6, 7, 8, 9, 10, 11], 2048, ⟨some 24, none, .call (.c (.fn 39 [])) [.c (.int .i64 1073741824)]⟩⟩,
    ⟨13, 0, [], 6144, ⟨some 25, none, .build [.int .i64 0, .nilf, .nilf] [(0, 1, .c (.int .i64 2)), (1, 1, .t 23), (2, 1, .t 24)]⟩⟩,
    ⟨21, 1, [0, 1, 2, 3, 4, 5, 6, 7, 8, 9, 10, 11, 14], 6144, ⟨some 30, none, .call (.c (.fn 44 [])) [.c (.str [59]), .c (.bool false)]⟩⟩,
    ⟨22, 1, [0, 1, 2, 3, 4, 5, 6, 7, 8, 9, 10, 11, 14], 2103296, ⟨some 31, none, .call (.c (.fn 45 [])) [.c (.fn 46 [])]⟩⟩,
    ⟨23, 0, [], 6297600, ⟨some 32, none, .build [.int .i64 0, .nilf, .nilf] [(0, 1, .c (.int .i64 0)), (1, 1, .t 30), (2, 1, .t 31)]⟩⟩,
    ⟨25, 1, [0, 1, 2, 3, 4, 5, 6, 7, 8, 9, 10, 11, 14, 17], 6297600, ⟨some 33, none, .call (.c (.fn 45 [])) [.c (.fn 50 [])]⟩⟩,
    ⟨26, 0, [], 39852032, ⟨some 34, none, .build [.int .i64 0, .nilf, .nilf] [(0, 1, .c (.int .i64 2)), (1, 1, .c (.fn 48 [])), (2, 1, .t 33)]⟩⟩,
    ⟨0, 3, [0, 1, 2, 3, 4, 5, 6, 7, 8, 9, 10, 11, 14, 17, 19], 0, ⟨some 14, none, .mkml false [(.int .u8 123, 17), (.int .u8 125, 22), (.int .u8 108, 25), (.int .u8 115, 28), (.int .u8 121, 29), (.int .u8 58, 32), (.int .u8 101, 34)]⟩⟩,
    ⟨4, 4, [], 15, ⟨none, none, .nop 0⟩⟩,
    ⟨10, 4, [], 993, ⟨none, none, .nop 1⟩⟩,
    ⟨14, 4, [], 14337, ⟨none, none, .nop 2⟩⟩,
    ⟨18, 4, [], 229377, ⟨none, none, .nop 3⟩⟩,
    ⟨20, 4, [], 524289, ⟨none, none, .nop 4⟩⟩,
    ⟨24, 4, [], 14686209, ⟨none, none, .nop 5⟩⟩,
    ⟨27, 4, [], 106960897, ⟨none, none, .nop 6⟩⟩,
    ⟨28, 0, [], 268435455, ⟨some 35, none, .mov (.t 14)⟩⟩,
    ⟨29, 0, [], 536870911, ⟨some 2, none, .mov (.t 35)⟩⟩])
  (.seq
  (.seq
  (.reg [
    ⟨some 36, none, .bslice [.int .u8 0] 14 [(0, .c (.int .u8 61)), (1, .c (.int .u8 100)), (2, .c (.int .u8 68)), (3, .c (.int .u8 70)), (4, .c (.int .u8 103)), (5, .c (.int .u8 71)), (6, .c (.int .u8 104)), (7, .c (.int .u8 72)), (8, .c (.int .u8 110)), (9, .c (.int .u8 78)), (10, .c (.int .u8 112)), (11, .c (.int .u8 80)), (12, .c (.int .u8 120)), (13, .c (.int .u8 122))]⟩,
    ⟨some 37, none, .lit (.t 36)⟩,
    ⟨some 38, none, .lenL (.t 37)⟩,
    ⟨some 39, none, .mov (.c (.int .i64 0))⟩])
  (.block 0
    (.loop
      (.seq
      (.reg [
        ⟨some 40, none, .int .lss (.t 39) (.t 38)⟩])
      (.seq
      (.cond (.t 40)
        .skip
        (.exit 0))
      (.seq
      (.block 1
        (.seq
        (.reg [
          ⟨some 41, none, .ia 1 (.t 37) (.t 39)⟩,
          ⟨some 42, none, .load 1 false (.t 41)⟩,
          ⟨some 4, none, .mov (.t 42)⟩])
        (.reg [
          ⟨some 43, none, .mov (.t 2)⟩,
          ⟨some 44, none, .mov (.t 4)⟩,
          ⟨some 45, none, .load 3 true (.t 1)⟩,
          ⟨none, none, .mset false (.t 43) (.t 44) (.t 45)⟩])))
      (.reg [
        ⟨some 46, none, .int .add (.t 39) (.c (.int .i64 1))⟩,
        ⟨some 39, none, .mov (.t 46)⟩])))))))
  (.seq
  (.seq
  (.reg [
    ⟨some 47, none, .bslice [.int .u8 0] 2 [(0, .c (.int .u8 113)), (1, .c (.int .u8 81))]⟩,
    ⟨some 48, none, .lit (.t 47)⟩,
    ⟨some 49, none, .lenL (.t 48)⟩,
    ⟨some 50, none, .mov (.c (.int .i64 0))⟩])
  (.block 2
    (.loop
      (.seq
      (.reg [
        ⟨some 51, none, .int .lss (.t 50) (.t 49)⟩])
      (.seq
      (.cond (.t 51)
        .skip
        (.exit 2))
      (.seq
      (.block 3
        (.seq
        (.reg [
          ⟨some 52, none, .ia 1 (.t 48) (.t 50)⟩,
          ⟨some 53, none, .load 1 false (.t 52)⟩,
          ⟨some 6, none, .mov (.t 53)⟩])
        (.reg [
          ⟨some 54, none, .mov (.t 2)⟩,
          ⟨some 55, none, .mov (.t 6)⟩,
          ⟨some 56, none, .call (.c (.fn 38 [])) [.c (.int .i64 255)]⟩,
          ⟨some 57, none, .call (.c (.fn 39 [])) [.c (.int .i64 255)]⟩,
          ⟨some 58, none, .build [.int .i64 0, .nilf, .nilf] [(0, 1, .c (.int .i64 1)), (1, 1, .t 56), (2, 1, .t 57)]⟩,
          ⟨none, none, .mset false (.t 54) (.t 55) (.t 58)⟩])))
      (.reg [
        ⟨some 59, none, .int .add (.t 50) (.c (.int .i64 1))⟩,
        ⟨some 50, none, .mov (.t 59)⟩])))))))
  (.seq
  (.seq
  (.reg [
    ⟨some 60, none, .bslice [.int .u8 0] 3 [(0, .c (.int .u8 97)), (1, .c (.int .u8 105)), (2, .c (.int .u8 99))]⟩,
    ⟨some 61, none, .lit (.t 60)⟩,
    ⟨some 62, none, .lenL (.t 61)⟩,
    ⟨some 63, none, .mov (.c (.int .i64 0))⟩])
  (.block 4
    (.loop
      (.seq
      (.reg [
        ⟨some 64, none, .int .lss (.t 63) (.t 62)⟩])
      (.seq
      (.cond (.t 64)
        .skip
        (.exit 4))
      (.seq
      (.block 5
        (.seq
        (.reg [
          ⟨some 65, none, .ia 1 (.t 61) (.t 63)⟩,
          ⟨some 66, none, .load 1 false (.t 65)⟩,
          ⟨some 8, none, .mov (.t 66)⟩])
        (.reg [
          ⟨some 67, none, .mov (.t 2)⟩,
          ⟨some 68, none, .mov (.t 8)⟩,
          ⟨some 69, none, .call (.c (.fn 45 [])) [.c (.fn 53 [])]⟩,
          ⟨some 70, none, .build [.int .i64 0, .nilf, .nilf] [(0, 1, .c (.int .i64 2)), (1, 1, .c (.fn 52 [])), (2, 1, .t 69)]⟩,
          ⟨none, none, .mset false (.t 67) (.t 68) (.t 70)⟩])))
      (.reg [
        ⟨some 71, none, .int .add (.t 63) (.c (.int .i64 1))⟩,
        ⟨some 63, none, .mov (.t 71)⟩])))))))
  (.seq
  (.seq
  (.reg [
    ⟨some 72, none, .bslice [.int .u8 0] 3 [(0, .c (.int .u8 98)), (1, .c (.int .u8 116)), (2, .c (.int .u8 84))]⟩,
    ⟨some 73, none, .lit (.t 72)⟩,
    ⟨some 74, none, .lenL (.t 73)⟩,
    ⟨some 75, none, .mov (.c (.int .i64 0))⟩])
  (.block 6
    (.loop
      (.seq
      (.reg [
        ⟨some 76, none, .int .lss (.t 75) (.t 74)⟩])
      (.seq
      (.cond (.t 76)
        .skip
        (.exit 6))
      (.seq
      (.block 7
        (.seq
        (.reg [
          ⟨some 77, none, .ia 1 (.t 73) (.t 75)⟩,
          ⟨some 78, none, .load 1 false (.t 77)⟩,
          ⟨some 10, none, .mov (.t 78)⟩])
        (.reg [
          ⟨some 79, none, .mov (.t 2)⟩,
          ⟨some 80, none, .mov (.t 10)⟩,
          ⟨some 81, none, .call (.c (.fn 44 [])) [.c (.str [59, 125]), .c (.bool true)]⟩,
          ⟨some 82, none, .call (.c (.fn 45 [])) [.c (.fn 54 [])]⟩,
          ⟨some 83, none, .build [.int .i64 0, .nilf, .nilf] [(0, 1, .c (.int .i64 2)), (1, 1, .t 81), (2, 1, .t 82)]⟩,
          ⟨none, none, .mset false (.t 79) (.t 80) (.t 83)⟩])))
      (.reg [
        ⟨some 84, none, .int .add (.t 75) (.c (.int .i64 1))⟩,
        ⟨some 75, none, .mov (.t 84)⟩])))))))
  (.seq
  (.seq
  (.reg [
    ⟨some 85, none, .bslice [.int .u8 0] 4 [(0, .c (.int .u8 114)), (1, .c (.int .u8 82)), (2, .c (.int .u8 119)), (3, .c (.int .u8 87))]⟩,
    ⟨some 86, none, .lit (.t 85)⟩,
    ⟨some 87, none, .lenL (.t 86)⟩,
    ⟨some 88, none, .mov (.c (.int .i64 0))⟩])
  (.block 8
    (.loop
      (.seq
      (.reg [
        ⟨some 89, none, .int .lss (.t 88) (.t 87)⟩])
      (.seq
      (.cond (.t 89)
        .skip
        (.exit 8))
      (.seq
      (.block 9
        (.seq
        (.reg [
          ⟨some 90, none, .ia 1 (.t 86) (.t 88)⟩,
          ⟨some 91, none, .load 1 false (.t 90)⟩,
          ⟨some 12, none, .mov (.t 91)⟩])
        (.reg [
          ⟨some 92, none, .mov (.t 2)⟩,
          ⟨some 93, none, .mov (.t 12)⟩,
          ⟨some 94, none, .call (.c (.fn 45 [])) [.c (.fn 57 [])]⟩,
          ⟨some 95, none, .build [.int .i64 0, .nilf, .nilf] [(0, 1, .c (.int .i64 2)), (1, 1, .c (.fn 55 [])), (2, 1, .t 94)]⟩,
          ⟨none, none, .mset false (.t 92) (.t 93) (.t 95)⟩])))
      (.reg [
        ⟨some 96, none, .int .add (.t 88) (.c (.int .i64 1))⟩,
        ⟨some 88, none, .mov (.t 96)⟩])))))))
  (.seq
  (.reg [
    ⟨some 97, none, .mov (.t 2)⟩,
    ⟨some 0, none, .mov (.t 97)⟩])
  .ret)))))))))⟩

theorem c16 : chkF Go.Proofs.Tryz.prog Go.Proofs.Tryz.f16 m16 = true := by kernel_rfl

/-- (*paddock/script.reader).byte -/
def m17 : MFn := ⟨1, 5, [.tmp 2], 0,
  (.seq
  (.reg [
    ⟨some 2, none, .mov (.c (.int .i64 0))⟩])
  (.seq
  (.reg [
    ⟨some 3, none, .mov (.t 0)⟩,
    ⟨some 4, none, .call (.c (.fn 58 [])) [.t 3, .c (.int .i64 0)]⟩,
    ⟨some 2, none, .mov (.t 4)⟩])
  .ret))⟩

theorem c17 : chkF Go.Proofs.Tryz.prog Go.Proofs.Tryz.f17 m17 = true := by kernel_rfl

/-- paddock/script.blank -/
def m18 : MFn := ⟨1, 9, [.tmp 2], 0,
  (.seq
  (.reg [
    ⟨some 2, none, .mov (.c (.bool false))⟩])
  (.seq
  (.reg [
    ⟨some 3, none, .mov (.t 0)⟩,
    ⟨some 4, none, .int .eql (.t 3) (.c (.int .i64 32))⟩,
    ⟨some 5, none, .mov (.t 4)⟩,
    ⟨some 6, some (5, false), .mov (.t 0)⟩,
    ⟨some 7, some (5, false), .int .eql (.t 6) (.c (.int .i64 9))⟩,
    ⟨some 8, none, .pick (.t 5) (.c (.bool true)) (.t 7)⟩,
    ⟨some 2, none, .mov (.t 8)⟩])
  .ret))⟩

theorem c18 : chkF Go.Proofs.Tryz.prog Go.Proofs.Tryz.f18 m18 = true := by kernel_rfl

/-- (*paddock/script.reader).until -/
def m19 : MFn := ⟨2, 53, [.tmp 4], 0,
  (.seq
  (.reg [
    ⟨some 4, none, .mov (.c (.str []))⟩])
  (.seq
  (.dreg [
    ⟨0, 0, [], 0, ⟨some 6, none, .mov (.t 0)⟩⟩,
    ⟨1, 0, [], 1, ⟨some 7, none, .nilc (.t 6)⟩⟩,
    ⟨2, 0, [], 3, ⟨some 8, none, .fa 0 (.t 7)⟩⟩,
    ⟨3, 0, [], 7, ⟨some 9, none, .load 1 false (.t 8)⟩⟩,
    ⟨4, 0, [], 0, ⟨some 10, none, .mov (.t 0)⟩⟩,
    ⟨5, 0, [], 16, ⟨some 11, none, .nilc (.t 10)⟩⟩,
    ⟨6, 0, [], 48, ⟨some 12, none, .fa 1 (.t 11)⟩⟩,
    ⟨7, 0, [], 112, ⟨some 13, none, .load 1 false (.t 12)⟩⟩,
    ⟨8, 0, [], 255, ⟨some 14, none, .sstr (.t 9) (some (.t 13)) none⟩⟩,
    ⟨9, 0, [], 0, ⟨some 15, none, .mov (.t 1)⟩⟩,
    ⟨10, 0, [], 512, ⟨some 16, none, .strb .add (.c (.str [10])) (.t 15)⟩⟩,
    ⟨11, 1, [], 2047, ⟨some 17, none, .call (.c (.fn 59 [])) [.t 14, .t 16]⟩⟩,
    ⟨12, 0, [], 4095, ⟨some 5, none, .mov (.t 17)⟩⟩])
  (.seq
  (.seq
  (.reg [
    ⟨some 18, none, .mov (.t 5)⟩,
    ⟨some 19, none, .int .lss (.t 18) (.c (.int .i64 0))⟩])
  (.cond (.t 19)
    (.dreg [
      ⟨0, 0, [], 0, ⟨some 20, none, .mov (.t 0)⟩⟩,
      ⟨1, 0, [], 1, ⟨some 21, none, .nilc (.t 20)⟩⟩,
      ⟨2, 0, [], 3, ⟨some 22, none, .fa 0 (.t 21)⟩⟩,
      ⟨3, 0, [], 7, ⟨some 23, none, .load 1 false (.t 22)⟩⟩,
      ⟨4, 0, [], 15, ⟨some 24, none, .lenS (.t 23)⟩⟩,
      ⟨5, 0, [], 0, ⟨some 25, none, .mov (.t 0)⟩⟩,
      ⟨6, 0, [], 32, ⟨some 26, none, .nilc (.t 25)⟩⟩,
      ⟨7, 0, [], 96, ⟨some 27, none, .fa 1 (.t 26)⟩⟩,
      ⟨8, 0, [], 224, ⟨some 28, none, .load 1 false (.t 27)⟩⟩,
      ⟨9, 0, [], 511, ⟨some 29, none, .int .sub (.t 24) (.t 28)⟩⟩,
      ⟨10, 0, [], 1023, ⟨some 5, none, .mov (.t 29)⟩⟩])
    .skip))
  (.seq
  (.reg [
    ⟨some 30, none, .mov (.t 0)⟩,
    ⟨some 31, none, .nilc (.t 30)⟩,
    ⟨some 32, none, .fa 1 (.t 31)⟩,
    ⟨some 33, none, .load 1 false (.t 32)⟩,
    ⟨some 34, none, .mov (.t 5)⟩,
    ⟨some 35, none, .int .add (.t 33) (.t 34)⟩,
    ⟨some 36, none, .nilc (.t 30)⟩,
    ⟨some 37, none, .fa 1 (.t 36)⟩,
    ⟨none, none, .store 1 (.t 37) (.t 35)⟩])
  (.seq
  (.dreg [
    ⟨0, 0, [], 0, ⟨some 38, none, .mov (.t 0)⟩⟩,
    ⟨1, 0, [], 1, ⟨some 39, none, .nilc (.t 38)⟩⟩,
    ⟨2, 0, [], 3, ⟨some 40, none, .fa 0 (.t 39)⟩⟩,
    ⟨3, 0, [], 7, ⟨some 41, none, .load 1 false (.t 40)⟩⟩,
    ⟨4, 0, [], 0, ⟨some 42, none, .mov (.t 0)⟩⟩,
    ⟨5, 0, [], 16, ⟨some 43, none, .nilc (.t 42)⟩⟩,
    ⟨6, 0, [], 48, ⟨some 44, none, .fa 1 (.t 43)⟩⟩,
    ⟨7, 0, [], 112, ⟨some 45, none, .load 1 false (.t 44)⟩⟩,
    ⟨8, 0, [], 0, ⟨some 46, none, .mov (.t 5)⟩⟩,
    ⟨9, 0, [], 496, ⟨some 47, none, .int .sub (.t 45) (.t 46)⟩⟩,
    ⟨10, 0, [], 0, ⟨some 48, none, .mov (.t 0)⟩⟩,
    ⟨11, 0, [], 1024, ⟨some 49, none, .nilc (.t 48)⟩⟩,
    ⟨12, 0, [], 3072, ⟨some 50, none, .fa 1 (.t 49)⟩⟩,
    ⟨13, 0, [], 7168, ⟨some 51, none, .load 1 false (.t 50)⟩⟩,
    ⟨14, 0, [], 16383, ⟨some 52, none, .sstr (.t 41) (some (.t 47)) (some (.t 51))⟩⟩,
    ⟨15, 0, [], 32767, ⟨some 4, none, .mov (.t 52)⟩⟩])
  .ret)))))⟩

theorem c19 : chkF Go.Proofs.Tryz.prog Go.Proofs.Tryz.f19 m19 = true := by kernel_rfl

/-- (*paddock/script.reader).command -/
def m20 : MFn := ⟨1, 148, [], 1,
  (.seq
  (.reg [
    ⟨some 6, none, .mov (.t 0)⟩,
    ⟨some 7, none, .call (.c (.fn 60 [])) [.t 6]⟩,
    ⟨some 2, none, .box 57 54 (.c (.agg [.int .i64 0, .int .u8 0, .int .i64 0, .int .i64 0, .str [], .bool false, .bool false, .int .u8 0, .int .u64 0, .int .u64 0, .int .u64 0, .int .u64 0, .int .i64 0, .int .i64 0, .int .i64 0, .vs true [], .int .u8 0, .int .i64 0, .int .i64 0, .str [], .bool false, .bool false, .int .u8 0, .int .u64 0, .int .u64 0, .int .u64 0, .int .u64 0, .int .i64 0, .int .i64 0, .int .i64 0, .vs true [], .bool false, .int .u8 0, .str [], .str [], .int .i64 0, .str [], .bool false, .bool false, .int .u8 0, .int .u64 0, .int .u64 0, .int .u64 0, .int .u64 0, .int .i64 0, .int .i64 0, .int .i64 0, .vs true [], .vs true [], .int .i64 0, .bool false, .bool false, .bool false, .str []]))⟩,
    ⟨none, none, .store 54 (.t 2) (.t 7)⟩])
  (.seq
  (.reg [
    ⟨some 8, none, .mov (.t 0)⟩,
    ⟨some 9, none, .call (.c (.fn 17 [])) [.t 8]⟩,
    ⟨some 3, none, .mov (.t 9)⟩])
  (.seq
  (.reg [
    ⟨some 11, none, .mov (.t 0)⟩,
    ⟨some 12, none, .nilc (.t 11)⟩,
    ⟨some 13, none, .fa 5 (.t 12)⟩,
    ⟨some 14, none, .load 1 false (.t 13)⟩,
    ⟨some 15, none, .mov (.t 3)⟩,
    ⟨some 16, none, .minmax true (.t 15) (.c (.int .i64 0))⟩,
    ⟨some 17, none, .conv .u8 (.t 16)⟩,
    ⟨some 18, none, .mget false (.agg [.int .i64 0, .nilf, .nilf]) true (.t 14) (.t 17)⟩,
    ⟨some 10, none, .mov (.t 18)⟩,
    ⟨some 19, none, .ext (.t 10) 0⟩,
    ⟨some 20, none, .ext (.t 10) 1⟩,
    ⟨some 4, none, .box 93 3 (.c (.agg [.int .i64 0, .nilf, .nilf]))⟩,
    ⟨none, none, .store 3 (.t 4) (.t 19)⟩,
    ⟨some 5, none, .mov (.t 20)⟩])
  (.seq
  (.seq
  (.reg [
    ⟨some 21, none, .mov (.t 3)⟩,
    ⟨some 22, none, .int .lss (.t 21) (.c (.int .i64 0))⟩,
    ⟨some 23, none, .mov (.t 22)⟩,
    ⟨some 24, some (23, false), .mov (.t 5)⟩,
    ⟨some 25, some (23, false), .not (.t 24)⟩,
    ⟨some 26, none, .pick (.t 23) (.c (.bool true)) (.t 25)⟩])
  (.cond (.t 26)
    (.reg [
      ⟨some 27, none, .mov (.t 0)⟩,
      ⟨some 28, none, .mov (.t 0)⟩,
      ⟨some 29, none, .nilc (.t 28)⟩,
      ⟨some 30, none, .fa 1 (.t 29)⟩,
      ⟨some 31, none, .load 1 false (.t 30)⟩,
      ⟨some 32, none, .call (.c (.fn 22 [])) [.t 27, .c (.int .i64 1), .t 31]⟩])
    .skip))
  (.seq
  (.reg [
    ⟨some 33, none, .mov (.t 0)⟩,
    ⟨some 34, none, .nilc (.t 33)⟩,
    ⟨some 35, none, .fa 1 (.t 34)⟩,
    ⟨some 36, none, .load 1 false (.t 35)⟩,
    ⟨some 37, none, .mov (.t 3)⟩,
    ⟨some 38, none, .conv .u8 (.t 37)⟩,
    ⟨some 39, none, .fa 0 (.t 2)⟩,
    ⟨none, none, .store 1 (.t 39) (.t 36)⟩,
    ⟨some 40, none, .fa 32 (.t 2)⟩,
    ⟨none, none, .store 1 (.t 40) (.t 38)⟩])
  (.seq
  (.reg [
    ⟨some 41, none, .mov (.t 0)⟩,
    ⟨some 42, none, .nilc (.t 41)⟩,
    ⟨some 43, none, .fa 1 (.t 42)⟩,
    ⟨some 44, none, .load 1 false (.t 43)⟩,
    ⟨some 45, none, .int .add (.t 44) (.c (.int .i64 1))⟩,
    ⟨some 46, none, .nilc (.t 41)⟩,
    ⟨some 47, none, .fa 1 (.t 46)⟩,
    ⟨none, none, .store 1 (.t 47) (.t 45)⟩])
  (.seq
  (.seq
  (.reg [
    ⟨some 48, none, .mov (.t 0)⟩,
    ⟨some 49, none, .nilc (.t 48)⟩,
    ⟨some 50, none, .fa 3 (.t 49)⟩,
    ⟨some 51, none, .load 1 false (.t 50)⟩,
    ⟨some 52, none, .lenL (.t 51)⟩,
    ⟨some 53, none, .int .eql (.t 52) (.c (.int .i64 4096))⟩])
  (.cond (.t 53)
    (.reg [
      ⟨some 54, none, .mov (.t 0)⟩,
      ⟨some 55, none, .fa 0 (.t 2)⟩,
      ⟨some 56, none, .load 1 false (.t 55)⟩,
      ⟨some 57, none, .call (.c (.fn 22 [])) [.t 54, .c (.int .i64 20), .t 56]⟩])
    .skip))
  (.seq
  (.seq
  (.reg [
    ⟨some 58, none, .fa 0 (.t 4)⟩,
    ⟨some 59, none, .load 1 false (.t 58)⟩,
    ⟨some 60, none, .int .eql (.t 59) (.c (.int .i64 0))⟩,
    ⟨some 61, none, .mov (.t 60)⟩,
    ⟨some 62, some (61, true), .fa 1 (.t 2)⟩,
    ⟨some 63, some (61, true), .fa 0 (.t 62)⟩,
    ⟨some 64, some (61, true), .load 1 false (.t 63)⟩,
    ⟨some 65, some (61, true), .int .neq (.t 64) (.c (.int .u8 0))⟩,
    ⟨some 66, some (61, true), .mov (.t 65)⟩,
    ⟨some 67, some (66, false), .fa 31 (.t 2)⟩,
    ⟨some 68, some (66, false), .load 1 false (.t 67)⟩,
    ⟨some 69, some (61, true), .pick (.t 66) (.c (.bool true)) (.t 68)⟩,
    ⟨some 70, none, .pick (.t 61) (.t 69) (.c (.bool false))⟩,
    ⟨some 71, none, .mov (.t 70)⟩,
    ⟨some 72, some (71, false), .fa 0 (.t 4)⟩,
    ⟨some 73, some (71, false), .load 1 false (.t 72)⟩,
    ⟨some 74, some (71, false), .int .eql (.t 73) (.c (.int .i64 1))⟩,
    ⟨some 75, some (71, false), .mov (.t 74)⟩,
    ⟨some 76, some (75, true), .fa 16 (.t 2)⟩,
    ⟨some 77, some (75, true), .fa 0 (.t 76)⟩,
    ⟨some 78, some (75, true), .load 1 false (.t 77)⟩,
    ⟨some 79, some (75, true), .int .neq (.t 78) (.c (.int .u8 0))⟩,
    ⟨some 80, some (71, false), .pick (.t 75) (.t 79) (.c (.bool false))⟩,
    ⟨some 81, none, .pick (.t 71) (.c (.bool true)) (.t 80)⟩])
  (.cond (.t 81)
    (.reg [
      ⟨some 82, none, .mov (.t 0)⟩,
      ⟨some 83, none, .fa 0 (.t 2)⟩,
      ⟨some 84, none, .load 1 false (.t 83)⟩,
      ⟨some 85, none, .call (.c (.fn 22 [])) [.t 82, .c (.int .i64 4), .t 84]⟩])
    .skip))
  (.seq
  (.block 0
    (.seq
    (.reg [
      ⟨some 87, none, .mov (.t 3)⟩,
      ⟨some 88, none, .int .eql (.t 87) (.c (.int .i64 125))⟩,
      ⟨some 89, none, .mov (.t 88)⟩,
      ⟨some 90, some (89, true), .mov (.t 0)⟩,
      ⟨some 91, some (89, true), .nilc (.t 90)⟩,
      ⟨some 92, some (89, true), .fa 4 (.t 91)⟩,
      ⟨some 93, some (89, true), .load 1 false (.t 92)⟩,
      ⟨some 94, some (89, true), .int .eql (.t 93) (.c (.int .i64 0))⟩,
      ⟨some 95, none, .pick (.t 89) (.t 94) (.c (.bool false))⟩,
      ⟨some 86, none, .mov (.t 95)⟩])
    (.cond (.t 86)
      (.reg [
        ⟨some 96, none, .mov (.t 0)⟩,
        ⟨some 97, none, .fa 0 (.t 2)⟩,
        ⟨some 98, none, .load 1 false (.t 97)⟩,
        ⟨some 99, none, .call (.c (.fn 22 [])) [.t 96, .c (.int .i64 7), .t 98]⟩])
      (.seq
      (.reg [
        ⟨some 101, none, .mov (.t 3)⟩,
        ⟨some 102, none, .int .eql (.t 101) (.c (.int .i64 125))⟩,
        ⟨some 100, none, .mov (.t 102)⟩])
      (.cond (.t 100)
        (.reg [
          ⟨some 103, none, .mov (.t 0)⟩,
          ⟨some 104, none, .nilc (.t 103)⟩,
          ⟨some 105, none, .fa 4 (.t 104)⟩,
          ⟨some 106, none, .load 1 false (.t 105)⟩,
          ⟨some 107, none, .int .sub (.t 106) (.c (.int .i64 1))⟩,
          ⟨some 108, none, .nilc (.t 103)⟩,
          ⟨some 109, none, .fa 4 (.t 108)⟩,
          ⟨none, none, .store 1 (.t 109) (.t 107)⟩])
        (.seq
        (.reg [
          ⟨some 111, none, .mov (.t 3)⟩,
          ⟨some 112, none, .int .eql (.t 111) (.c (.int .i64 123))⟩,
          ⟨some 113, none, .mov (.t 112)⟩,
          ⟨some 114, some (113, true), .mov (.t 0)⟩,
          ⟨some 115, some (113, true), .nilc (.t 114)⟩,
          ⟨some 116, some (113, true), .fa 4 (.t 115)⟩,
          ⟨some 117, some (113, true), .load 1 false (.t 116)⟩,
          ⟨some 118, some (113, true), .int .eql (.t 117) (.c (.int .i64 64))⟩,
          ⟨some 119, none, .pick (.t 113) (.t 118) (.c (.bool false))⟩,
          ⟨some 110, none, .mov (.t 119)⟩])
        (.cond (.t 110)
          (.reg [
            ⟨some 120, none, .mov (.t 0)⟩,
            ⟨some 121, none, .fa 0 (.t 2)⟩,
            ⟨some 122, none, .load 1 false (.t 121)⟩,
            ⟨some 123, none, .call (.c (.fn 22 [])) [.t 120, .c (.int .i64 19), .t 122]⟩])
          (.seq
          (.reg [
            ⟨some 125, none, .mov (.t 3)⟩,
            ⟨some 126, none, .int .eql (.t 125) (.c (.int .i64 123))⟩,
            ⟨some 124, none, .mov (.t 126)⟩])
          (.cond (.t 124)
            (.reg [
              ⟨some 127, none, .mov (.t 0)⟩,
              ⟨some 128, none, .nilc (.t 127)⟩,
              ⟨some 129, none, .fa 4 (.t 128)⟩,
              ⟨some 130, none, .load 1 false (.t 129)⟩,
              ⟨some 131, none, .int .add (.t 130) (.c (.int .i64 1))⟩,
              ⟨some 132, none, .nilc (.t 127)⟩,
              ⟨some 133, none, .fa 4 (.t 132)⟩,
              ⟨none, none, .store 1 (.t 133) (.t 131)⟩])
            .skip)))))))))
  (.seq
  (.reg [
    ⟨some 134, none, .fa 1 (.t 4)⟩,
    ⟨some 135, none, .load 1 false (.t 134)⟩,
    ⟨some 136, none, .mov (.t 0)⟩,
    ⟨some 137, none, .call (.t 135) [.t 136, .t 2]⟩])
  (.dreg [
    ⟨0, 0, [], 0, ⟨some 138, none, .mov (.t 0)⟩⟩,
    ⟨1, 0, [], 0, ⟨some 139, none, .mov (.t 0)⟩⟩,
    ⟨2, 0, [], 2, ⟨some 140, none, .nilc (.t 139)⟩⟩,
    ⟨3, 0, [], 6, ⟨some 141, none, .fa 3 (.t 140)⟩⟩,
    ⟨4, 0, [], 14, ⟨some 142, none, .load 1 false (.t 141)⟩⟩,
    ⟨5, 0, [], 0, ⟨some 143, none, .load 54 true (.t 2)⟩⟩,
    ⟨6, 0, [], 32, ⟨some 144, none, .bslice [.int .i64 0, .int .u8 0, .int .i64 0, .int .i64 0, .str [], .bool false, .bool false, .int .u8 0, .int .u64 0, .int .u64 0, .int .u64 0, .int .u64 0, .int .i64 0, .int .i64 0, .int .i64 0, .vs true [], .int .u8 0, .int .i64 0, .int .i64 0, .str [], .bool false, .bool false, .int .u8 0, .int .u64 0, .int .u64 0, .int .u64 0, .int .u64 0, .int .i64 0, .int .i64 0, .int .i64 0, .vs true [], .bool false, .int .u8 0, .str [], .str [], .int .i64 0, .str [], .bool false, .bool false, .int .u8 0, .int .u64 0, .int .u64 0, .int .u64 0, .int .u64 0, .int .i64 0, .int .i64 0, .int .i64 0, .vs true [], .vs true [], .int .i64 0, .bool false, .bool false, .bool false, .str []] 1 [(0, .t 143)]⟩⟩,
    ⟨7, 1, [0], 126, ⟨some 145, none, .app 57 54 496 (.t 142) (.t 144)⟩⟩,
    ⟨8, 0, [], 255, ⟨some 146, none, .nilc (.t 138)⟩⟩,
    ⟨9, 0, [], 511, ⟨some 147, none, .fa 3 (.t 146)⟩⟩,
    ⟨10, 1, [], 1023, ⟨none, none, .store 1 (.t 147) (.t 145)⟩⟩])))))))))))⟩

theorem c20 : chkF Go.Proofs.Tryz.prog Go.Proofs.Tryz.f20 m20 = true := by kernel_rfl

/-- paddock/script.whole -/
def m21 : MFn := ⟨1, 98, [.tmp 2, .tmp 3], 0,
  (.seq
  (.reg [
    ⟨some 2, none, .mov (.c (.int .i64 0))⟩,
    ⟨some 3, none, .mov (.c (.int .i64 0))⟩])
  (.seq
  (.reg [
    ⟨some 4, none, .mov (.c (.vs true []))⟩])
  (.seq
  (.seq
  (.reg [
    ⟨some 12, none, .mov (.t 0)⟩,
    ⟨some 13, none, .lenL (.t 12)⟩,
    ⟨some 14, none, .mov (.c (.int .i64 0))⟩])
  (.block 0
    (.loop
      (.seq
      (.reg [
        ⟨some 15, none, .int .lss (.t 14) (.t 13)⟩])
      (.seq
      (.cond (.t 15)
        .skip
        (.exit 0))
      (.seq
      (.block 1
        (.seq
        (.reg [
          ⟨some 16, none, .mov (.t 14)⟩,
          ⟨some 17, none, .ia 54 (.t 12) (.t 14)⟩,
          ⟨some 18, none, .load 54 true (.t 17)⟩,
          ⟨some 6, none, .box 57 54 (.c (.agg [.int .i64 0, .int .u8 0, .int .i64 0, .int .i64 0, .str [], .bool false, .bool false, .int .u8 0, .int .u64 0, .int .u64 0, .int .u64 0, .int .u64 0, .int .i64 0, .int .i64 0, .int .i64 0, .vs true [], .int .u8 0, .int .i64 0, .int .i64 0, .str [], .bool false, .bool false, .int .u8 0, .int .u64 0, .int .u64 0, .int .u64 0, .int .u64 0, .int .i64 0, .int .i64 0, .int .i64 0, .vs true [], .bool false, .int .u8 0, .str [], .str [], .int .i64 0, .str [], .bool false, .bool false, .int .u8 0, .int .u64 0, .int .u64 0, .int .u64 0, .int .u64 0, .int .i64 0, .int .i64 0, .int .i64 0, .vs true [], .vs true [], .int .i64 0, .bool false, .bool false, .bool false, .str []]))⟩,
          ⟨some 5, none, .mov (.t 16)⟩,
          ⟨none, none, .store 54 (.t 6) (.t 18)⟩])
        (.seq
        (.reg [
          ⟨some 19, none, .fa 32 (.t 6)⟩,
          ⟨some 20, none, .load 1 false (.t 19)⟩])
        (.block 2
          (.seq
          (.reg [
            ⟨some 22, none, .int .eql (.t 20) (.c (.int .u8 123))⟩,
            ⟨some 21, none, .mov (.t 22)⟩])
          (.cond (.t 21)
            (.reg [
              ⟨some 23, none, .mov (.t 4)⟩,
              ⟨some 24, none, .mov (.t 5)⟩,
              ⟨some 25, none, .bslice [.int .i64 0] 1 [(0, .t 24)]⟩,
              ⟨some 26, none, .app 3 1 8 (.t 23) (.t 25)⟩,
              ⟨some 4, none, .mov (.t 26)⟩])
            (.seq
            (.reg [
              ⟨some 28, none, .int .eql (.t 20) (.c (.int .u8 125))⟩,
              ⟨some 27, none, .mov (.t 28)⟩])
            (.cond (.t 27)
              (.reg [
                ⟨some 29, none, .mov (.t 4)⟩,
                ⟨some 30, none, .mov (.t 4)⟩,
                ⟨some 31, none, .lenL (.t 30)⟩,
                ⟨some 32, none, .int .sub (.t 31) (.c (.int .i64 1))⟩,
                ⟨some 33, none, .ssl 1 (.t 29) none (some (.t 32))⟩,
                ⟨some 4, none, .mov (.t 33)⟩])
              .skip))))))))
      (.reg [
        ⟨some 34, none, .int .add (.t 14) (.c (.int .i64 1))⟩,
        ⟨some 14, none, .mov (.t 34)⟩])))))))
  (.seq
  (.seq
  (.reg [
    ⟨some 35, none, .mov (.t 4)⟩,
    ⟨some 36, none, .lenL (.t 35)⟩,
    ⟨some 37, none, .int .gtr (.t 36) (.c (.int .i64 0))⟩])
  (.cond (.t 37)
    (.seq
    (.dreg [
      ⟨0, 0, [], 0, ⟨some 38, none, .mov (.t 4)⟩⟩,
      ⟨1, 0, [], 1, ⟨some 39, none, .ia 1 (.t 38) (.c (.int .i64 0))⟩⟩,
      ⟨2, 0, [], 3, ⟨some 40, none, .load 1 false (.t 39)⟩⟩,
      ⟨3, 0, [], 0, ⟨some 2, none, .mov (.c (.int .i64 8))⟩⟩,
      ⟨4, 0, [], 15, ⟨some 3, none, .mov (.t 40)⟩⟩])
    .ret)
    .skip))
  (.seq
  (.reg [
    ⟨some 41, none, .mkm⟩,
    ⟨some 7, none, .mov (.t 41)⟩])
  (.seq
  (.seq
  (.reg [
    ⟨some 42, none, .mov (.t 0)⟩,
    ⟨some 43, none, .lenL (.t 42)⟩,
    ⟨some 44, none, .mov (.c (.int .i64 0))⟩])
  (.block 3
    (.loop
      (.seq
      (.reg [
        ⟨some 45, none, .int .lss (.t 44) (.t 43)⟩])
      (.seq
      (.cond (.t 45)
        .skip
        (.exit 3))
      (.seq
      (.block 4
        (.seq
        (.reg [
          ⟨some 46, none, .mov (.t 44)⟩,
          ⟨some 47, none, .ia 54 (.t 42) (.t 44)⟩,
          ⟨some 48, none, .load 54 true (.t 47)⟩,
          ⟨some 9, none, .box 57 54 (.c (.agg [.int .i64 0, .int .u8 0, .int .i64 0, .int .i64 0, .str [], .bool false, .bool false, .int .u8 0, .int .u64 0, .int .u64 0, .int .u64 0, .int .u64 0, .int .i64 0, .int .i64 0, .int .i64 0, .vs true [], .int .u8 0, .int .i64 0, .int .i64 0, .str [], .bool false, .bool false, .int .u8 0, .int .u64 0, .int .u64 0, .int .u64 0, .int .u64 0, .int .i64 0, .int .i64 0, .int .i64 0, .vs true [], .bool false, .int .u8 0, .str [], .str [], .int .i64 0, .str [], .bool false, .bool false, .int .u8 0, .int .u64 0, .int .u64 0, .int .u64 0, .int .u64 0, .int .i64 0, .int .i64 0, .int .i64 0, .vs true [], .vs true [], .int .i64 0, .bool false, .bool false, .bool false, .str []]))⟩,
          ⟨some 8, none, .mov (.t 46)⟩,
          ⟨none, none, .store 54 (.t 9) (.t 48)⟩])
        (.seq
        (.reg [
          ⟨some 49, none, .fa 32 (.t 9)⟩,
          ⟨some 50, none, .load 1 false (.t 49)⟩,
          ⟨some 51, none, .int .eql (.t 50) (.c (.int .u8 58))⟩])
        (.cond (.t 51)
          (.seq
          (.reg [
            ⟨some 52, none, .mov (.t 7)⟩,
            ⟨some 53, none, .fa 33 (.t 9)⟩,
            ⟨some 54, none, .load 1 false (.t 53)⟩,
            ⟨some 55, none, .mget true (.int .i64 0) false (.t 52) (.t 54)⟩,
            ⟨some 56, none, .int .add (.t 55) (.c (.int .i64 1))⟩,
            ⟨none, none, .mset true (.t 52) (.t 54) (.t 56)⟩])
          (.seq
          (.reg [
            ⟨some 57, none, .mov (.t 7)⟩,
            ⟨some 58, none, .fa 33 (.t 9)⟩,
            ⟨some 59, none, .load 1 false (.t 58)⟩,
            ⟨some 60, none, .mget true (.int .i64 0) false (.t 57) (.t 59)⟩,
            ⟨some 61, none, .int .gtr (.t 60) (.c (.int .i64 1))⟩])
          (.cond (.t 61)
            (.seq
            (.reg [
              ⟨some 62, none, .mov (.t 8)⟩,
              ⟨some 2, none, .mov (.c (.int .i64 10))⟩,
              ⟨some 3, none, .mov (.t 62)⟩])
            .ret)
            .skip)))
          .skip))))
      (.reg [
        ⟨some 63, none, .int .add (.t 44) (.c (.int .i64 1))⟩,
        ⟨some 44, none, .mov (.t 63)⟩])))))))
  (.seq
  (.seq
  (.reg [
    ⟨some 64, none, .mov (.t 0)⟩,
    ⟨some 65, none, .lenL (.t 64)⟩,
    ⟨some 66, none, .mov (.c (.int .i64 0))⟩])
  (.block 5
    (.loop
      (.seq
      (.reg [
        ⟨some 67, none, .int .lss (.t 66) (.t 65)⟩])
      (.seq
      (.cond (.t 67)
        .skip
        (.exit 5))
      (.seq
      (.block 6
        (.seq
        (.reg [
          ⟨some 68, none, .mov (.t 66)⟩,
          ⟨some 69, none, .ia 54 (.t 64) (.t 66)⟩,
          ⟨some 70, none, .load 54 true (.t 69)⟩,
          ⟨some 11, none, .box 57 54 (.c (.agg [.int .i64 0, .int .u8 0, .int .i64 0, .int .i64 0, .str [], .bool false, .bool false, .int .u8 0, .int .u64 0, .int .u64 0, .int .u64 0, .int .u64 0, .int .i64 0, .int .i64 0, .int .i64 0, .vs true [], .int .u8 0, .int .i64 0, .int .i64 0, .str [], .bool false, .bool false, .int .u8 0, .int .u64 0, .int .u64 0, .int .u64 0, .int .u64 0, .int .i64 0, .int .i64 0, .int .i64 0, .vs true [], .bool false, .int .u8 0, .str [], .str [], .int .i64 0, .str [], .bool false, .bool false, .int .u8 0, .int .u64 0, .int .u64 0, .int .u64 0, .int .u64 0, .int .i64 0, .int .i64 0, .int .i64 0, .vs true [], .vs true [], .int .i64 0, .bool false, .bool false, .bool false, .str []]))⟩,
          ⟨some 10, none, .mov (.t 68)⟩,
          ⟨none, none, .store 54 (.t 11) (.t 70)⟩])
        (.seq
        (.reg [
          ⟨some 71, none, .fa 32 (.t 11)⟩,
          ⟨some 72, none, .load 1 false (.t 71)⟩,
          ⟨some 73, none, .int .eql (.t 72) (.c (.int .u8 98))⟩,
          ⟨some 74, none, .mov (.t 73)⟩,
          ⟨some 75, some (74, false), .fa 32 (.t 11)⟩,
          ⟨some 76, some (74, false), .load 1 false (.t 75)⟩,
          ⟨some 77, some (74, false), .int .eql (.t 76) (.c (.int .u8 116))⟩,
          ⟨some 78, none, .pick (.t 74) (.c (.bool true)) (.t 77)⟩,
          ⟨some 79, none, .mov (.t 78)⟩,
          ⟨some 80, some (79, false), .fa 32 (.t 11)⟩,
          ⟨some 81, some (79, false), .load 1 false (.t 80)⟩,
          ⟨some 82, some (79, false), .int .eql (.t 81) (.c (.int .u8 84))⟩,
          ⟨some 83, none, .pick (.t 79) (.c (.bool true)) (.t 82)⟩,
          ⟨some 84, none, .mov (.t 83)⟩,
          ⟨some 85, some (84, true), .fa 33 (.t 11)⟩,
          ⟨some 86, some (84, true), .load 1 false (.t 85)⟩,
          ⟨some 87, some (84, true), .strb .neq (.t 86) (.c (.str []))⟩,
          ⟨some 88, none, .pick (.t 84) (.t 87) (.c (.bool false))⟩,
          ⟨some 89, none, .mov (.t 88)⟩,
          ⟨some 90, some (89, true), .mov (.t 7)⟩,
          ⟨some 91, some (89, true), .fa 33 (.t 11)⟩,
          ⟨some 92, some (89, true), .load 1 false (.t 91)⟩,
          ⟨some 93, some (89, true), .mget true (.int .i64 0) false (.t 90) (.t 92)⟩,
          ⟨some 94, some (89, true), .int .eql (.t 93) (.c (.int .i64 0))⟩,
          ⟨some 95, none, .pick (.t 89) (.t 94) (.c (.bool false))⟩])
        (.cond (.t 95)
          (.seq
          (.reg [
            ⟨some 96, none, .mov (.t 10)⟩,
            ⟨some 2, none, .mov (.c (.int .i64 11))⟩,
            ⟨some 3, none, .mov (.t 96)⟩])
          .ret)
          .skip))))
      (.reg [
        ⟨some 97, none, .int .add (.t 66) (.c (.int .i64 1))⟩,
        ⟨some 66, none, .mov (.t 97)⟩])))))))
  (.seq
  (.reg [
    ⟨some 2, none, .mov (.c (.int .i64 0))⟩,
    ⟨some 3, none, .mov (.c (.int .i64 0))⟩])
  .ret))))))))⟩

theorem c21 : chkF Go.Proofs.Tryz.prog Go.Proofs.Tryz.f21 m21 = true := by kernel_rfl

/-- (*paddock/script.reader).fail -/
def m22 : MFn := ⟨3, 10, [], 0,
  (.reg [
    ⟨some 6, none, .mov (.t 2)⟩,
    ⟨some 7, none, .mov (.t 1)⟩,
    ⟨some 8, none, .build [.int .i64 0, .int .i64 0] [(0, 1, .t 6), (1, 1, .t 7)]⟩,
    ⟨some 9, none, .mki 36 (.t 8)⟩,
    ⟨none, none, .pan (.t 9)⟩])⟩

theorem c22 : chkF Go.Proofs.Tryz.prog Go.Proofs.Tryz.f22 m22 = true := by kernel_rfl

/-- strings.HasPrefix -/
def m23 : MFn := ⟨2, 8, [.tmp 4], 0,
  (.seq
  (.reg [
    ⟨some 4, none, .mov (.c (.bool false))⟩])
  (.seq
  (.reg [
    ⟨some 5, none, .mov (.t 0)⟩,
    ⟨some 6, none, .mov (.t 1)⟩,
    ⟨some 7, none, .call (.c (.fn 61 [])) [.t 5, .t 6]⟩,
    ⟨some 4, none, .mov (.t 7)⟩])
  .ret))⟩

theorem c23 : chkF Go.Proofs.Tryz.prog Go.Proofs.Tryz.f23 m23 = true := by kernel_rfl

/-- paddock/script.Check -/
def m24 : MFn := ⟨1, 57, [.tmp 2, .tmp 3], 0,
  (.seq
  (.reg [
    ⟨some 1, none, .box 33 3 (.t 0)⟩,
    ⟨some 2, none, .mov (.c (.int .i64 0))⟩,
    ⟨some 3, none, .mov (.c (.int .i64 0))⟩])
  (.seq
  (.reg [
    ⟨some 10, none, .call (.c (.fn 16 [])) []⟩,
    ⟨some 4, none, .mov (.t 10)⟩])
  (.seq
  (.reg [
    ⟨some 5, none, .mov (.c (.int .i64 0))⟩])
  (.seq
  (.seq
  (.reg [
    ⟨some 11, none, .fa 0 (.t 1)⟩,
    ⟨some 12, none, .load 1 false (.t 11)⟩,
    ⟨some 13, none, .lenL (.t 12)⟩,
    ⟨some 14, none, .mov (.c (.int .i64 0))⟩])
  (.block 0
    (.loop
      (.seq
      (.reg [
        ⟨some 15, none, .int .lss (.t 14) (.t 13)⟩])
      (.seq
      (.cond (.t 15)
        .skip
        (.exit 0))
      (.seq
      (.block 1
        (.seq
        (.reg [
          ⟨some 16, none, .mov (.t 14)⟩,
          ⟨some 17, none, .ia 54 (.t 12) (.t 14)⟩,
          ⟨some 18, none, .load 54 true (.t 17)⟩,
          ⟨some 7, none, .box 57 54 (.c (.agg [.int .i64 0, .int .u8 0, .int .i64 0, .int .i64 0, .str [], .bool false, .bool false, .int .u8 0, .int .u64 0, .int .u64 0, .int .u64 0, .int .u64 0, .int .i64 0, .int .i64 0, .int .i64 0, .vs true [], .int .u8 0, .int .i64 0, .int .i64 0, .str [], .bool false, .bool false, .int .u8 0, .int .u64 0, .int .u64 0, .int .u64 0, .int .u64 0, .int .i64 0, .int .i64 0, .int .i64 0, .vs true [], .bool false, .int .u8 0, .str [], .str [], .int .i64 0, .str [], .bool false, .bool false, .int .u8 0, .int .u64 0, .int .u64 0, .int .u64 0, .int .u64 0, .int .i64 0, .int .i64 0, .int .i64 0, .vs true [], .vs true [], .int .i64 0, .bool false, .bool false, .bool false, .str []]))⟩,
          ⟨some 6, none, .mov (.t 16)⟩,
          ⟨none, none, .store 54 (.t 7) (.t 18)⟩])
        (.seq
        (.seq
        (.reg [
          ⟨some 19, none, .mov (.t 6)⟩,
          ⟨some 20, none, .int .eql (.t 19) (.c (.int .i64 4096))⟩,
          ⟨some 21, none, .mov (.t 20)⟩,
          ⟨some 22, some (21, false), .load 54 true (.t 7)⟩,
          ⟨some 23, some (21, false), .mov (.t 4)⟩,
          ⟨some 24, some (21, false), .fa 2 (.t 1)⟩,
          ⟨some 25, some (21, false), .load 1 false (.t 24)⟩,
          ⟨some 26, some (21, false), .call (.c (.fn 62 [])) [.t 22, .t 23, .t 25]⟩,
          ⟨some 27, some (21, false), .not (.t 26)⟩,
          ⟨some 28, none, .pick (.t 21) (.c (.bool true)) (.t 27)⟩])
        (.cond (.t 28)
          (.seq
          (.reg [
            ⟨some 29, none, .mov (.t 6)⟩,
            ⟨some 2, none, .mov (.c (.int .i64 130))⟩,
            ⟨some 3, none, .mov (.t 29)⟩])
          .ret)
          .skip))
        (.seq
        (.seq
        (.reg [
          ⟨some 30, none, .fa 32 (.t 7)⟩,
          ⟨some 31, none, .load 1 false (.t 30)⟩])
        (.block 2
          (.seq
          (.reg [
            ⟨some 33, none, .int .eql (.t 31) (.c (.int .u8 123))⟩,
            ⟨some 32, none, .mov (.t 33)⟩])
          (.cond (.t 32)
            (.reg [
              ⟨some 34, none, .mov (.t 5)⟩,
              ⟨some 35, none, .int .add (.t 34) (.c (.int .i64 1))⟩,
              ⟨some 5, none, .mov (.t 35)⟩])
            (.seq
            (.reg [
              ⟨some 37, none, .int .eql (.t 31) (.c (.int .u8 125))⟩,
              ⟨some 36, none, .mov (.t 37)⟩])
            (.cond (.t 36)
              (.reg [
                ⟨some 38, none, .mov (.t 5)⟩,
                ⟨some 39, none, .int .sub (.t 38) (.c (.int .i64 1))⟩,
                ⟨some 5, none, .mov (.t 39)⟩])
              .skip))))))
        (.seq
        (.reg [
          ⟨some 40, none, .mov (.t 5)⟩,
          ⟨some 41, none, .int .lss (.t 40) (.c (.int .i64 0))⟩,
          ⟨some 42, none, .mov (.t 41)⟩,
          ⟨some 43, some (42, false), .mov (.t 5)⟩,
          ⟨some 44, some (42, false), .int .gtr (.t 43) (.c (.int .i64 64))⟩,
          ⟨some 45, none, .pick (.t 42) (.c (.bool true)) (.t 44)⟩])
        (.cond (.t 45)
          (.seq
          (.reg [
            ⟨some 46, none, .mov (.t 6)⟩,
            ⟨some 2, none, .mov (.c (.int .i64 130))⟩,
            ⟨some 3, none, .mov (.t 46)⟩])
          .ret)
          .skip))))))
      (.reg [
        ⟨some 47, none, .int .add (.t 14) (.c (.int .i64 1))⟩,
        ⟨some 14, none, .mov (.t 47)⟩])))))))
  (.seq
  (.seq
  (.reg [
    ⟨some 49, none, .fa 0 (.t 1)⟩,
    ⟨some 50, none, .load 1 false (.t 49)⟩,
    ⟨some 51, none, .call (.c (.fn 21 [])) [.t 50]⟩,
    ⟨some 48, none, .mov (.t 51)⟩,
    ⟨some 52, none, .ext (.t 48) 0⟩,
    ⟨some 53, none, .ext (.t 48) 1⟩,
    ⟨some 8, none, .mov (.t 52)⟩,
    ⟨some 9, none, .mov (.t 53)⟩])
  (.seq
  (.reg [
    ⟨some 54, none, .mov (.t 8)⟩,
    ⟨some 55, none, .int .gtr (.t 54) (.c (.int .i64 0))⟩])
  (.cond (.t 55)
    (.seq
    (.reg [
      ⟨some 56, none, .mov (.t 9)⟩,
      ⟨some 2, none, .mov (.c (.int .i64 130))⟩,
      ⟨some 3, none, .mov (.t 56)⟩])
    .ret)
    .skip)))
  (.seq
  (.reg [
    ⟨some 2, none, .mov (.c (.int .i64 0))⟩,
    ⟨some 3, none, .mov (.c (.int .i64 0))⟩])
  .ret))))))⟩

theorem c24 : chkF Go.Proofs.Tryz.prog Go.Proofs.Tryz.f24 m24 = true := by kernel_rfl

/-- paddock/program.made -/
def m25 : MFn := ⟨1, 126, [.cell 2 3 true], 0,
  (.seq
  (.reg [
    ⟨some 1, none, .box 33 3 (.t 0)⟩,
    ⟨some 2, none, .box 25 3 (.c (.agg [.vs true [], .bool false, .vs true []]))⟩])
  (.seq
  (.reg [
    ⟨some 12, none, .load 3 true (.t 1)⟩,
    ⟨some 13, none, .call (.c (.fn 63 [])) [.t 12]⟩,
    ⟨none, none, .store 3 (.t 1) (.t 13)⟩])
  (.seq
  (.dreg [
    ⟨0, 0, [], 0, ⟨some 14, none, .fa 1 (.t 1)⟩⟩,
    ⟨1, 0, [], 1, ⟨some 15, none, .load 1 false (.t 14)⟩⟩,
    ⟨2, 0, [], 0, ⟨some 16, none, .load 3 true (.t 1)⟩⟩,
    ⟨3, 1, [0, 1], 4, ⟨some 17, none, .call (.c (.fn 31 [])) [.t 16]⟩⟩,
    ⟨4, 0, [], 15, ⟨some 18, none, .build [.vs true [], .bool false, .vs true []] [(1, 1, .t 15), (2, 1, .t 17)]⟩⟩,
    ⟨5, 2, [0, 1, 2, 4], 0, ⟨some 3, none, .box 25 3 (.c (.agg [.vs true [], .bool false, .vs true []]))⟩⟩,
    ⟨6, 1, [], 63, ⟨none, none, .store 3 (.t 3) (.t 18)⟩⟩])
  (.seq
  (.reg [
    ⟨some 19, none, .mkm⟩,
    ⟨some 4, none, .mov (.t 19)⟩])
  (.seq
  (.reg [
    ⟨some 5, none, .mov (.c (.vs true []))⟩])
  (.seq
  (.seq
  (.reg [
    ⟨some 20, none, .fa 0 (.t 1)⟩,
    ⟨some 21, none, .load 1 false (.t 20)⟩,
    ⟨some 22, none, .lenL (.t 21)⟩,
    ⟨some 23, none, .mov (.c (.int .i64 0))⟩])
  (.block 0
    (.loop
      (.seq
      (.reg [
        ⟨some 24, none, .int .lss (.t 23) (.t 22)⟩])
      (.seq
      (.cond (.t 24)
        .skip
        (.exit 0))
      (.seq
      (.block 1
        (.seq
        (.reg [
          ⟨some 25, none, .ia 54 (.t 21) (.t 23)⟩,
          ⟨some 26, none, .load 54 true (.t 25)⟩,
          ⟨some 7, none, .box 57 54 (.c (.agg [.int .i64 0, .int .u8 0, .int .i64 0, .int .i64 0, .str [], .bool false, .bool false, .int .u8 0, .int .u64 0, .int .u64 0, .int .u64 0, .int .u64 0, .int .i64 0, .int .i64 0, .int .i64 0, .vs true [], .int .u8 0, .int .i64 0, .int .i64 0, .str [], .bool false, .bool false, .int .u8 0, .int .u64 0, .int .u64 0, .int .u64 0, .int .u64 0, .int .i64 0, .int .i64 0, .int .i64 0, .vs true [], .bool false, .int .u8 0, .str [], .str [], .int .i64 0, .str [], .bool false, .bool false, .int .u8 0, .int .u64 0, .int .u64 0, .int .u64 0, .int .u64 0, .int .i64 0, .int .i64 0, .int .i64 0, .vs true [], .vs true [], .int .i64 0, .bool false, .bool false, .bool false, .str []]))⟩,
          ⟨none, none, .store 54 (.t 7) (.t 26)⟩])
        (.seq
        (.seq
        (.reg [
          ⟨some 27, none, .fa 32 (.t 7)⟩,
          ⟨some 28, none, .load 1 false (.t 27)⟩])
        (.block 2
          (.seq
          (.reg [
            ⟨some 30, none, .int .eql (.t 28) (.c (.int .u8 58))⟩,
            ⟨some 29, none, .mov (.t 30)⟩])
          (.cond (.t 29)
            (.seq
            (.reg [
              ⟨some 31, none, .mov (.t 4)⟩,
              ⟨some 32, none, .fa 33 (.t 7)⟩,
              ⟨some 33, none, .load 1 false (.t 32)⟩,
              ⟨some 34, none, .fa 0 (.t 3)⟩,
              ⟨some 35, none, .load 1 false (.t 34)⟩,
              ⟨some 36, none, .lenL (.t 35)⟩,
              ⟨none, none, .mset true (.t 31) (.t 33) (.t 36)⟩])
            (.exit 1))
            (.seq
            (.reg [
              ⟨some 38, none, .int .eql (.t 28) (.c (.int .u8 125))⟩,
              ⟨some 37, none, .mov (.t 38)⟩])
            (.cond (.t 37)
              (.seq
              (.dreg [
                ⟨0, 0, [], 0, ⟨some 39, none, .fa 0 (.t 3)⟩⟩,
                ⟨1, 0, [], 1, ⟨some 40, none, .load 1 false (.t 39)⟩⟩,
                ⟨2, 0, [], 0, ⟨some 41, none, .mov (.t 5)⟩⟩,
                ⟨3, 0, [], 0, ⟨some 42, none, .mov (.t 5)⟩⟩,
                ⟨4, 0, [], 8, ⟨some 43, none, .lenL (.t 42)⟩⟩,
                ⟨5, 0, [], 24, ⟨some 44, none, .int .sub (.t 43) (.c (.int .i64 1))⟩⟩,
                ⟨6, 0, [], 60, ⟨some 45, none, .ia 1 (.t 41) (.t 44)⟩⟩,
                ⟨7, 0, [], 124, ⟨some 46, none, .load 1 false (.t 45)⟩⟩,
                ⟨8, 0, [], 0, ⟨some 47, none, .fa 0 (.t 3)⟩⟩,
                ⟨9, 0, [], 256, ⟨some 48, none, .load 1 false (.t 47)⟩⟩,
                ⟨10, 0, [], 768, ⟨some 49, none, .lenL (.t 48)⟩⟩,
                ⟨11, 0, [], 2047, ⟨some 50, none, .ia 55 (.t 40) (.t 46)⟩⟩,
                ⟨12, 0, [], 4095, ⟨some 51, none, .fa 54 (.t 50)⟩⟩,
                ⟨13, 1, [], 8191, ⟨none, none, .store 1 (.t 51) (.t 49)⟩⟩])
              (.seq
              (.reg [
                ⟨some 52, none, .mov (.t 5)⟩,
                ⟨some 53, none, .mov (.t 5)⟩,
                ⟨some 54, none, .lenL (.t 53)⟩,
                ⟨some 55, none, .int .sub (.t 54) (.c (.int .i64 1))⟩,
                ⟨some 56, none, .ssl 1 (.t 52) none (some (.t 55))⟩,
                ⟨some 5, none, .mov (.t 56)⟩])
              (.exit 1)))
              (.seq
              (.reg [
                ⟨some 58, none, .int .eql (.t 28) (.c (.int .u8 123))⟩,
                ⟨some 57, none, .mov (.t 58)⟩])
              (.cond (.t 57)
                (.reg [
                  ⟨some 59, none, .mov (.t 5)⟩,
                  ⟨some 60, none, .fa 0 (.t 3)⟩,
                  ⟨some 61, none, .load 1 false (.t 60)⟩,
                  ⟨some 62, none, .lenL (.t 61)⟩,
                  ⟨some 63, none, .bslice [.int .i64 0] 1 [(0, .t 62)]⟩,
                  ⟨some 64, none, .app 3 1 8 (.t 59) (.t 63)⟩,
                  ⟨some 5, none, .mov (.t 64)⟩])
                .skip))))))))
        (.reg [
          ⟨some 65, none, .fa 0 (.t 3)⟩,
          ⟨some 66, none, .load 1 false (.t 65)⟩,
          ⟨some 67, none, .load 54 true (.t 7)⟩,
          ⟨some 68, none, .build [.int .i64 0, .int .u8 0, .int .i64 0, .int .i64 0, .str [], .bool false, .bool false, .int .u8 0, .int .u64 0, .int .u64 0, .int .u64 0, .int .u64 0, .int .i64 0, .int .i64 0, .int .i64 0, .vs true [], .int .u8 0, .int .i64 0, .int .i64 0, .str [], .bool false, .bool false, .int .u8 0, .int .u64 0, .int .u64 0, .int .u64 0, .int .u64 0, .int .i64 0, .int .i64 0, .int .i64 0, .vs true [], .bool false, .int .u8 0, .str [], .str [], .int .i64 0, .str [], .bool false, .bool false, .int .u8 0, .int .u64 0, .int .u64 0, .int .u64 0, .int .u64 0, .int .i64 0, .int .i64 0, .int .i64 0, .vs true [], .vs true [], .int .i64 0, .bool false, .bool false, .bool false, .str [], .int .i64 0] [(0, 54, .t 67)]⟩,
          ⟨some 69, none, .bslice [.int .i64 0, .int .u8 0, .int .i64 0, .int .i64 0, .str [], .bool false, .bool false, .int .u8 0, .int .u64 0, .int .u64 0, .int .u64 0, .int .u64 0, .int .i64 0, .int .i64 0, .int .i64 0, .vs true [], .int .u8 0, .int .i64 0, .int .i64 0, .str [], .bool false, .bool false, .int .u8 0, .int .u64 0, .int .u64 0, .int .u64 0, .int .u64 0, .int .i64 0, .int .i64 0, .int .i64 0, .vs true [], .bool false, .int .u8 0, .str [], .str [], .int .i64 0, .str [], .bool false, .bool false, .int .u8 0, .int .u64 0, .int .u64 0, .int .u64 0, .int .u64 0, .int .i64 0, .int .i64 0, .int .i64 0, .vs true [], .vs true [], .int .i64 0, .bool false, .bool false, .bool false, .str [], .int .i64 0] 1 [(0, .t 68)]⟩,
          ⟨some 70, none, .app 59 55 504 (.t 66) (.t 69)⟩,
          ⟨some 71, none, .fa 0 (.t 3)⟩,
          ⟨none, none, .store 1 (.t 71) (.t 70)⟩]))))
      (.reg [
        ⟨some 72, none, .int .add (.t 23) (.c (.int .i64 1))⟩,
        ⟨some 23, none, .mov (.t 72)⟩])))))))
  (.seq
  (.seq
  (.reg [
    ⟨some 73, none, .fa 0 (.t 3)⟩,
    ⟨some 74, none, .load 1 false (.t 73)⟩,
    ⟨some 75, none, .lenL (.t 74)⟩,
    ⟨some 76, none, .mov (.c (.int .i64 0))⟩])
  (.block 3
    (.loop
      (.seq
      (.reg [
        ⟨some 77, none, .int .lss (.t 76) (.t 75)⟩])
      (.seq
      (.cond (.t 77)
        .skip
        (.exit 3))
      (.seq
      (.block 4
        (.seq
        (.reg [
          ⟨some 78, none, .mov (.t 76)⟩,
          ⟨some 8, none, .mov (.t 78)⟩])
        (.seq
        (.reg [
          ⟨some 79, none, .fa 0 (.t 3)⟩,
          ⟨some 80, none, .load 1 false (.t 79)⟩,
          ⟨some 81, none, .mov (.t 8)⟩,
          ⟨some 82, none, .ia 55 (.t 80) (.t 81)⟩,
          ⟨some 83, none, .fa 0 (.t 82)⟩,
          ⟨some 9, none, .mov (.t 83)⟩])
        (.seq
        (.seq
        (.reg [
          ⟨some 84, none, .mov (.t 9)⟩,
          ⟨some 85, none, .nilc (.t 84)⟩,
          ⟨some 86, none, .fa 32 (.t 85)⟩,
          ⟨some 87, none, .load 1 false (.t 86)⟩,
          ⟨some 88, none, .call (.c (.fn 64 [])) [.t 87]⟩,
          ⟨some 89, none, .not (.t 88)⟩])
        (.cond (.t 89)
          (.exit 4)
          .skip))
        (.seq
        (.reg [
          ⟨some 90, none, .fa 0 (.t 3)⟩,
          ⟨some 91, none, .load 1 false (.t 90)⟩,
          ⟨some 92, none, .mov (.t 8)⟩,
          ⟨some 93, none, .fa 0 (.t 3)⟩,
          ⟨some 94, none, .load 1 false (.t 93)⟩,
          ⟨some 95, none, .lenL (.t 94)⟩,
          ⟨some 96, none, .ia 55 (.t 91) (.t 92)⟩,
          ⟨some 97, none, .fa 54 (.t 96)⟩,
          ⟨none, none, .store 1 (.t 97) (.t 95)⟩])
        (.seq
        (.seq
        (.reg [
          ⟨some 99, none, .mov (.t 4)⟩,
          ⟨some 100, none, .mov (.t 9)⟩,
          ⟨some 101, none, .nilc (.t 100)⟩,
          ⟨some 102, none, .fa 33 (.t 101)⟩,
          ⟨some 103, none, .load 1 false (.t 102)⟩,
          ⟨some 104, none, .mget true (.int .i64 0) true (.t 99) (.t 103)⟩,
          ⟨some 98, none, .mov (.t 104)⟩,
          ⟨some 105, none, .ext (.t 98) 0⟩,
          ⟨some 106, none, .ext (.t 98) 1⟩,
          ⟨some 10, none, .mov (.t 105)⟩,
          ⟨some 11, none, .mov (.t 106)⟩])
        (.seq
        (.reg [
          ⟨some 107, none, .mov (.t 11)⟩,
          ⟨some 108, none, .mov (.t 107)⟩,
          ⟨some 109, some (108, true), .mov (.t 9)⟩,
          ⟨some 110, some (108, true), .nilc (.t 109)⟩,
          ⟨some 111, some (108, true), .fa 33 (.t 110)⟩,
          ⟨some 112, some (108, true), .load 1 false (.t 111)⟩,
          ⟨some 113, some (108, true), .strb .neq (.t 112) (.c (.str []))⟩,
          ⟨some 114, none, .pick (.t 108) (.t 113) (.c (.bool false))⟩])
        (.cond (.t 114)
          (.reg [
            ⟨some 115, none, .fa 0 (.t 3)⟩,
            ⟨some 116, none, .load 1 false (.t 115)⟩,
            ⟨some 117, none, .mov (.t 8)⟩,
            ⟨some 118, none, .mov (.t 10)⟩,
            ⟨some 119, none, .ia 55 (.t 116) (.t 117)⟩,
            ⟨some 120, none, .fa 54 (.t 119)⟩,
            ⟨none, none, .store 1 (.t 120) (.t 118)⟩])
          .skip)))
        (.reg [
          ⟨some 121, none, .mov (.t 9)⟩,
          ⟨some 122, none, .nilc (.t 121)⟩,
          ⟨some 123, none, .fa 33 (.t 122)⟩,
          ⟨none, none, .store 1 (.t 123) (.c (.str []))⟩])))))))
      (.reg [
        ⟨some 124, none, .int .add (.t 76) (.c (.int .i64 1))⟩,
        ⟨some 76, none, .mov (.t 124)⟩])))))))
  (.seq
  (.reg [
    ⟨some 125, none, .load 3 true (.t 3)⟩,
    ⟨none, none, .store 3 (.t 2) (.t 125)⟩])
  .ret))))))))⟩

theorem c25 : chkF Go.Proofs.Tryz.prog Go.Proofs.Tryz.f25 m25 = true := by kernel_rfl

/-- slices.DeleteFunc[[]int,int] -/
def m26 : MFn := ⟨2, 42, [.tmp 4], 0,
  (.seq
  (.reg [
    ⟨some 4, none, .mov (.c (.vs true []))⟩])
  (.seq
  (.reg [
    ⟨some 8, none, .mov (.t 0)⟩,
    ⟨some 9, none, .mov (.t 1)⟩,
    ⟨some 10, none, .call (.c (.fn 65 [])) [.t 8, .t 9]⟩,
    ⟨some 5, none, .mov (.t 10)⟩])
  (.seq
  (.seq
  (.reg [
    ⟨some 11, none, .mov (.t 5)⟩,
    ⟨some 12, none, .int .eql (.t 11) (.c (.int .i64 (-1)))⟩])
  (.cond (.t 12)
    (.seq
    (.reg [
      ⟨some 13, none, .mov (.t 0)⟩,
      ⟨some 4, none, .mov (.t 13)⟩])
    .ret)
    .skip))
  (.seq
  (.seq
  (.reg [
    ⟨some 14, none, .mov (.t 5)⟩,
    ⟨some 15, none, .int .add (.t 14) (.c (.int .i64 1))⟩,
    ⟨some 6, none, .mov (.t 15)⟩])
  (.block 0
    (.loop
      (.seq
      (.seq
      (.reg [
        ⟨some 16, none, .mov (.t 6)⟩,
        ⟨some 17, none, .mov (.t 0)⟩,
        ⟨some 18, none, .lenL (.t 17)⟩,
        ⟨some 19, none, .int .lss (.t 16) (.t 18)⟩])
      (.cond (.t 19)
        .skip
        (.exit 0)))
      (.seq
      (.block 1
        (.seq
        (.reg [
          ⟨some 22, none, .mov (.t 0)⟩,
          ⟨some 23, none, .mov (.t 6)⟩,
          ⟨some 24, none, .ia 1 (.t 22) (.t 23)⟩,
          ⟨some 25, none, .load 1 false (.t 24)⟩,
          ⟨some 7, none, .mov (.t 25)⟩])
        (.seq
        (.reg [
          ⟨some 26, none, .mov (.t 1)⟩,
          ⟨some 27, none, .mov (.t 7)⟩,
          ⟨some 28, none, .call (.t 26) [.t 27]⟩,
          ⟨some 29, none, .not (.t 28)⟩])
        (.cond (.t 29)
          (.seq
          (.reg [
            ⟨some 30, none, .mov (.t 0)⟩,
            ⟨some 31, none, .mov (.t 5)⟩,
            ⟨some 32, none, .mov (.t 7)⟩,
            ⟨some 33, none, .ia 1 (.t 30) (.t 31)⟩,
            ⟨none, none, .store 1 (.t 33) (.t 32)⟩])
          (.reg [
            ⟨some 34, none, .mov (.t 5)⟩,
            ⟨some 35, none, .int .add (.t 34) (.c (.int .i64 1))⟩,
            ⟨some 5, none, .mov (.t 35)⟩]))
          .skip))))
      (.reg [
        ⟨some 20, none, .mov (.t 6)⟩,
        ⟨some 21, none, .int .add (.t 20) (.c (.int .i64 1))⟩,
        ⟨some 6, none, .mov (.t 21)⟩]))))))
  (.seq
  (.reg [
    ⟨some 36, none, .mov (.t 0)⟩,
    ⟨some 37, none, .mov (.t 5)⟩,
    ⟨some 38, none, .ssl 1 (.t 36) (some (.t 37)) none⟩,
    ⟨none, none, .clr (.int .i64 0) (.t 38)⟩])
  (.seq
  (.reg [
    ⟨some 39, none, .mov (.t 0)⟩,
    ⟨some 40, none, .mov (.t 5)⟩,
    ⟨some 41, none, .ssl 1 (.t 39) none (some (.t 40))⟩,
    ⟨some 4, none, .mov (.t 41)⟩])
  .ret))))))⟩

theorem c26 : chkF Go.Proofs.Tryz.prog Go.Proofs.Tryz.f26 m26 = true := by kernel_rfl

/-- paddock/program.Check$1 -/
def m27 : MFn := ⟨2, 7, [.tmp 3], 0,
  (.seq
  (.reg [
    ⟨some 3, none, .mov (.c (.bool false))⟩])
  (.seq
  (.reg [
    ⟨some 4, none, .mov (.t 0)⟩,
    ⟨some 5, none, .load 1 false (.t 1)⟩,
    ⟨some 6, none, .int .leq (.t 4) (.t 5)⟩,
    ⟨some 3, none, .mov (.t 6)⟩])
  .ret))⟩

theorem c27 : chkF Go.Proofs.Tryz.prog Go.Proofs.Tryz.f27 m27 = true := by kernel_rfl

/-- paddock/program.step -/
def m28 : MFn := ⟨4, 68, [.tmp 8], 0,
  (.seq
  (.reg [
    ⟨some 4, none, .box 25 3 (.t 0)⟩,
    ⟨some 8, none, .mov (.c (.bool false))⟩])
  (.seq
  (.reg [
    ⟨some 11, none, .fa 0 (.t 4)⟩,
    ⟨some 12, none, .load 1 false (.t 11)⟩,
    ⟨some 13, none, .mov (.t 1)⟩,
    ⟨some 14, none, .ia 55 (.t 12) (.t 13)⟩,
    ⟨some 15, none, .load 55 true (.t 14)⟩,
    ⟨some 9, none, .box 59 55 (.c (.agg [.int .i64 0, .int .u8 0, .int .i64 0, .int .i64 0, .str [], .bool false, .bool false, .int .u8 0, .int .u64 0, .int .u64 0, .int .u64 0, .int .u64 0, .int .i64 0, .int .i64 0, .int .i64 0, .vs true [], .int .u8 0, .int .i64 0, .int .i64 0, .str [], .bool false, .bool false, .int .u8 0, .int .u64 0, .int .u64 0, .int .u64 0, .int .u64 0, .int .i64 0, .int .i64 0, .int .i64 0, .vs true [], .bool false, .int .u8 0, .str [], .str [], .int .i64 0, .str [], .bool false, .bool false, .int .u8 0, .int .u64 0, .int .u64 0, .int .u64 0, .int .u64 0, .int .i64 0, .int .i64 0, .int .i64 0, .vs true [], .vs true [], .int .i64 0, .bool false, .bool false, .bool false, .str [], .int .i64 0]))⟩,
    ⟨none, none, .store 55 (.t 9) (.t 15)⟩])
  (.seq
  (.reg [
    ⟨some 16, none, .fa 0 (.t 4)⟩,
    ⟨some 17, none, .load 1 false (.t 16)⟩,
    ⟨some 18, none, .lenL (.t 17)⟩,
    ⟨some 10, none, .mov (.t 18)⟩])
  (.seq
  (.block 0
    (.seq
    (.reg [
      ⟨some 20, none, .fa 0 (.t 9)⟩,
      ⟨some 21, none, .load 54 true (.t 20)⟩,
      ⟨some 22, none, .mov (.t 2)⟩,
      ⟨some 23, none, .call (.c (.fn 66 [])) [.t 21, .t 22]⟩,
      ⟨some 24, none, .not (.t 23)⟩,
      ⟨some 19, none, .mov (.t 24)⟩])
    (.cond (.t 19)
      (.seq
      (.reg [
        ⟨some 8, none, .mov (.c (.bool false))⟩])
      .ret)
      (.seq
      (.reg [
        ⟨some 26, none, .fa 0 (.t 9)⟩,
        ⟨some 27, none, .fa 32 (.t 26)⟩,
        ⟨some 28, none, .load 1 false (.t 27)⟩,
        ⟨some 29, none, .int .eql (.t 28) (.c (.int .u8 123))⟩,
        ⟨some 25, none, .mov (.t 29)⟩])
      (.cond (.t 25)
        (.seq
        (.reg [
          ⟨some 30, none, .fa 54 (.t 9)⟩,
          ⟨some 31, none, .load 1 false (.t 30)⟩,
          ⟨some 32, none, .mov (.t 1)⟩,
          ⟨some 33, none, .int .gtr (.t 31) (.t 32)⟩,
          ⟨some 34, none, .mov (.t 33)⟩,
          ⟨some 35, some (34, true), .fa 54 (.t 9)⟩,
          ⟨some 36, some (34, true), .load 1 false (.t 35)⟩,
          ⟨some 37, some (34, true), .mov (.t 10)⟩,
          ⟨some 38, some (34, true), .int .leq (.t 36) (.t 37)⟩,
          ⟨some 39, none, .pick (.t 34) (.t 38) (.c (.bool false))⟩,
          ⟨some 40, none, .mov (.t 39)⟩,
          ⟨some 41, some (40, true), .mov (.t 3)⟩,
          ⟨some 42, some (40, true), .mkf 68 [.t 9]⟩,
          ⟨some 43, some (40, true), .call (.c (.fn 67 [])) [.t 41, .t 42]⟩,
          ⟨some 44, some (40, true), .not (.t 43)⟩,
          ⟨some 45, none, .pick (.t 40) (.t 44) (.c (.bool false))⟩,
          ⟨some 46, none, .mov (.t 45)⟩,
          ⟨some 47, some (46, true), .mov (.t 3)⟩,
          ⟨some 48, some (46, true), .lenL (.t 47)⟩,
          ⟨some 49, some (46, true), .int .lss (.t 48) (.c (.int .i64 64))⟩,
          ⟨some 50, none, .pick (.t 46) (.t 49) (.c (.bool false))⟩,
          ⟨some 8, none, .mov (.t 50)⟩])
        .ret)
        (.seq
        (.reg [
          ⟨some 52, none, .fa 0 (.t 9)⟩,
          ⟨some 53, none, .fa 32 (.t 52)⟩,
          ⟨some 54, none, .load 1 false (.t 53)⟩,
          ⟨some 55, none, .call (.c (.fn 64 [])) [.t 54]⟩,
          ⟨some 51, none, .mov (.t 55)⟩])
        (.cond (.t 51)
          (.seq
          (.reg [
            ⟨some 56, none, .fa 54 (.t 9)⟩,
            ⟨some 57, none, .load 1 false (.t 56)⟩,
            ⟨some 58, none, .int .geq (.t 57) (.c (.int .i64 0))⟩,
            ⟨some 59, none, .mov (.t 58)⟩,
            ⟨some 60, some (59, true), .fa 54 (.t 9)⟩,
            ⟨some 61, some (59, true), .load 1 false (.t 60)⟩,
            ⟨some 62, some (59, true), .mov (.t 10)⟩,
            ⟨some 63, some (59, true), .int .leq (.t 61) (.t 62)⟩,
            ⟨some 64, none, .pick (.t 59) (.t 63) (.c (.bool false))⟩,
            ⟨some 8, none, .mov (.t 64)⟩])
          .ret)
          .skip)))))))
  (.seq
  (.reg [
    ⟨some 65, none, .fa 54 (.t 9)⟩,
    ⟨some 66, none, .load 1 false (.t 65)⟩,
    ⟨some 67, none, .int .eql (.t 66) (.c (.int .i64 0))⟩,
    ⟨some 8, none, .mov (.t 67)⟩])
  .ret)))))⟩

theorem c28 : chkF Go.Proofs.Tryz.prog Go.Proofs.Tryz.f28 m28 = true := by kernel_rfl

/-- paddock/program.back -/
def m29 : MFn := ⟨2, 135, [.cell 4 3 true], 0,
  (.seq
  (.reg [
    ⟨some 2, none, .box 25 3 (.t 0)⟩,
    ⟨some 4, none, .box 33 3 (.c (.agg [.vs true [], .bool false, .bool false]))⟩])
  (.seq
  (.reg [
    ⟨some 18, none, .fa 1 (.t 2)⟩,
    ⟨some 19, none, .load 1 false (.t 18)⟩,
    ⟨some 20, none, .mov (.t 1)⟩,
    ⟨some 21, none, .build [.vs true [], .bool false, .bool false] [(1, 1, .t 19), (2, 1, .t 20)]⟩,
    ⟨some 5, none, .box 33 3 (.c (.agg [.vs true [], .bool false, .bool false]))⟩,
    ⟨none, none, .store 3 (.t 5) (.t 21)⟩])
  (.seq
  (.reg [
    ⟨some 22, none, .fa 0 (.t 2)⟩,
    ⟨some 23, none, .load 1 false (.t 22)⟩,
    ⟨some 24, none, .lenL (.t 23)⟩,
    ⟨some 6, none, .mov (.t 24)⟩])
  (.seq
  (.reg [
    ⟨some 25, none, .mkm⟩,
    ⟨some 7, none, .mov (.t 25)⟩])
  (.seq
  (.reg [
    ⟨some 26, none, .mkm⟩,
    ⟨some 8, none, .mov (.t 26)⟩])
  (.seq
  (.seq
  (.reg [
    ⟨some 27, none, .fa 0 (.t 2)⟩,
    ⟨some 28, none, .load 1 false (.t 27)⟩,
    ⟨some 29, none, .lenL (.t 28)⟩,
    ⟨some 30, none, .mov (.c (.int .i64 0))⟩])
  (.block 0
    (.loop
      (.seq
      (.reg [
        ⟨some 31, none, .int .lss (.t 30) (.t 29)⟩])
      (.seq
      (.cond (.t 31)
        .skip
        (.exit 0))
      (.seq
      (.block 1
        (.seq
        (.reg [
          ⟨some 32, none, .ia 55 (.t 28) (.t 30)⟩,
          ⟨some 33, none, .load 55 true (.t 32)⟩,
          ⟨some 10, none, .box 59 55 (.c (.agg [.int .i64 0, .int .u8 0, .int .i64 0, .int .i64 0, .str [], .bool false, .bool false, .int .u8 0, .int .u64 0, .int .u64 0, .int .u64 0, .int .u64 0, .int .i64 0, .int .i64 0, .int .i64 0, .vs true [], .int .u8 0, .int .i64 0, .int .i64 0, .str [], .bool false, .bool false, .int .u8 0, .int .u64 0, .int .u64 0, .int .u64 0, .int .u64 0, .int .i64 0, .int .i64 0, .int .i64 0, .vs true [], .bool false, .int .u8 0, .str [], .str [], .int .i64 0, .str [], .bool false, .bool false, .int .u8 0, .int .u64 0, .int .u64 0, .int .u64 0, .int .u64 0, .int .i64 0, .int .i64 0, .int .i64 0, .vs true [], .vs true [], .int .i64 0, .bool false, .bool false, .bool false, .str [], .int .i64 0]))⟩,
          ⟨none, none, .store 55 (.t 10) (.t 33)⟩])
        (.seq
        (.seq
        (.reg [
          ⟨some 34, none, .fa 0 (.t 10)⟩,
          ⟨some 35, none, .fa 32 (.t 34)⟩,
          ⟨some 36, none, .load 1 false (.t 35)⟩,
          ⟨some 37, none, .int .eql (.t 36) (.c (.int .u8 123))⟩])
        (.cond (.t 37)
          (.reg [
            ⟨some 38, none, .mov (.t 7)⟩,
            ⟨some 39, none, .fa 54 (.t 10)⟩,
            ⟨some 40, none, .load 1 false (.t 39)⟩,
            ⟨some 41, none, .mget false (.int .i64 0) false (.t 38) (.t 40)⟩,
            ⟨some 42, none, .int .add (.t 41) (.c (.int .i64 1))⟩,
            ⟨none, none, .mset false (.t 38) (.t 40) (.t 42)⟩])
          .skip))
        (.seq
        (.reg [
          ⟨some 43, none, .fa 0 (.t 10)⟩,
          ⟨some 44, none, .fa 32 (.t 43)⟩,
          ⟨some 45, none, .load 1 false (.t 44)⟩,
          ⟨some 46, none, .call (.c (.fn 64 [])) [.t 45]⟩,
          ⟨some 47, none, .mov (.t 46)⟩,
          ⟨some 48, some (47, true), .fa 54 (.t 10)⟩,
          ⟨some 49, some (47, true), .load 1 false (.t 48)⟩,
          ⟨some 50, some (47, true), .mov (.t 6)⟩,
          ⟨some 51, some (47, true), .int .lss (.t 49) (.t 50)⟩,
          ⟨some 52, none, .pick (.t 47) (.t 51) (.c (.bool false))⟩])
        (.cond (.t 52)
          (.reg [
            ⟨some 53, none, .mov (.t 8)⟩,
            ⟨some 54, none, .fa 54 (.t 10)⟩,
            ⟨some 55, none, .load 1 false (.t 54)⟩,
            ⟨none, none, .mset false (.t 53) (.t 55) (.c (.str []))⟩])
          .skip)))))
      (.reg [
        ⟨some 56, none, .int .add (.t 30) (.c (.int .i64 1))⟩,
        ⟨some 30, none, .mov (.t 56)⟩])))))))
  (.seq
  (.reg [
    ⟨some 11, none, .mov (.c (.int .i64 0))⟩])
  (.seq
  (.seq
  (.reg [
    ⟨some 57, none, .mov (.t 6)⟩,
    ⟨some 58, none, .mov (.c (.int .i64 0))⟩])
  (.block 2
    (.loop
      (.seq
      (.reg [
        ⟨some 59, none, .int .lss (.t 58) (.t 57)⟩])
      (.seq
      (.cond (.t 59)
        .skip
        (.exit 2))
      (.seq
      (.block 3
        (.seq
        (.reg [
          ⟨some 60, none, .mov (.t 58)⟩,
          ⟨some 12, none, .mov (.t 60)⟩])
        (.seq
        (.reg [
          ⟨some 62, none, .mov (.t 8)⟩,
          ⟨some 63, none, .mov (.t 12)⟩,
          ⟨some 64, none, .mget false (.str []) true (.t 62) (.t 63)⟩,
          ⟨some 61, none, .mov (.t 64)⟩,
          ⟨some 65, none, .ext (.t 61) 0⟩,
          ⟨some 66, none, .ext (.t 61) 1⟩,
          ⟨some 13, none, .mov (.t 65)⟩,
          ⟨some 14, none, .mov (.t 66)⟩])
        (.seq
        (.reg [
          ⟨some 67, none, .mov (.t 14)⟩])
        (.cond (.t 67)
          (.seq
          (.reg [
            ⟨some 68, none, .mov (.t 11)⟩,
            ⟨some 69, none, .int .add (.t 68) (.c (.int .i64 1))⟩,
            ⟨some 11, none, .mov (.t 69)⟩])
          (.reg [
            ⟨some 70, none, .mov (.t 8)⟩,
            ⟨some 71, none, .mov (.t 12)⟩,
            ⟨some 72, none, .mov (.t 11)⟩,
            ⟨some 73, none, .call (.c (.fn 69 [])) [.t 72]⟩,
            ⟨some 74, none, .strb .add (.c (.str [108])) (.t 73)⟩,
            ⟨none, none, .mset false (.t 70) (.t 71) (.t 74)⟩]))
          .skip)))))
      (.reg [
        ⟨some 75, none, .int .add (.t 58) (.c (.int .i64 1))⟩,
        ⟨some 58, none, .mov (.t 75)⟩])))))))
  (.seq
  (.seq
  (.reg [
    ⟨some 76, none, .mov (.t 6)⟩,
    ⟨some 77, none, .int .add (.t 76) (.c (.int .i64 1))⟩,
    ⟨some 78, none, .mov (.c (.int .i64 0))⟩])
  (.block 4
    (.loop
      (.seq
      (.reg [
        ⟨some 79, none, .int .lss (.t 78) (.t 77)⟩])
      (.seq
      (.cond (.t 79)
        .skip
        (.exit 4))
      (.seq
      (.block 5
        (.seq
        (.reg [
          ⟨some 80, none, .mov (.t 78)⟩,
          ⟨some 15, none, .mov (.t 80)⟩])
        (.seq
        (.seq
        (.reg [
          ⟨some 81, none, .mov (.t 7)⟩,
          ⟨some 82, none, .mov (.t 15)⟩,
          ⟨some 83, none, .mget false (.int .i64 0) false (.t 81) (.t 82)⟩,
          ⟨some 84, none, .mov (.c (.int .i64 0))⟩])
        (.block 6
          (.loop
            (.seq
            (.reg [
              ⟨some 85, none, .int .lss (.t 84) (.t 83)⟩])
            (.seq
            (.cond (.t 85)
              .skip
              (.exit 6))
            (.seq
            (.block 7
              (.reg [
                ⟨some 86, none, .fa 0 (.t 5)⟩,
                ⟨some 87, none, .load 1 false (.t 86)⟩,
                ⟨some 88, none, .build [.int .i64 0, .int .u8 0, .int .i64 0, .int .i64 0, .str [], .bool false, .bool false, .int .u8 0, .int .u64 0, .int .u64 0, .int .u64 0, .int .u64 0, .int .i64 0, .int .i64 0, .int .i64 0, .vs true [], .int .u8 0, .int .i64 0, .int .i64 0, .str [], .bool false, .bool false, .int .u8 0, .int .u64 0, .int .u64 0, .int .u64 0, .int .u64 0, .int .i64 0, .int .i64 0, .int .i64 0, .vs true [], .bool false, .int .u8 0, .str [], .str [], .int .i64 0, .str [], .bool false, .bool false, .int .u8 0, .int .u64 0, .int .u64 0, .int .u64 0, .int .u64 0, .int .i64 0, .int .i64 0, .int .i64 0, .vs true [], .vs true [], .int .i64 0, .bool false, .bool false, .bool false, .str []] [(32, 1, .c (.int .u8 125))]⟩,
                ⟨some 89, none, .bslice [.int .i64 0, .int .u8 0, .int .i64 0, .int .i64 0, .str [], .bool false, .bool false, .int .u8 0, .int .u64 0, .int .u64 0, .int .u64 0, .int .u64 0, .int .i64 0, .int .i64 0, .int .i64 0, .vs true [], .int .u8 0, .int .i64 0, .int .i64 0, .str [], .bool false, .bool false, .int .u8 0, .int .u64 0, .int .u64 0, .int .u64 0, .int .u64 0, .int .i64 0, .int .i64 0, .int .i64 0, .vs true [], .bool false, .int .u8 0, .str [], .str [], .int .i64 0, .str [], .bool false, .bool false, .int .u8 0, .int .u64 0, .int .u64 0, .int .u64 0, .int .u64 0, .int .i64 0, .int .i64 0, .int .i64 0, .vs true [], .vs true [], .int .i64 0, .bool false, .bool false, .bool false, .str []] 1 [(0, .t 88)]⟩,
                ⟨some 90, none, .app 57 54 496 (.t 87) (.t 89)⟩,
                ⟨some 91, none, .fa 0 (.t 5)⟩,
                ⟨none, none, .store 1 (.t 91) (.t 90)⟩]))
            (.reg [
              ⟨some 92, none, .int .add (.t 84) (.c (.int .i64 1))⟩,
              ⟨some 84, none, .mov (.t 92)⟩])))))))
        (.seq
        (.seq
        (.reg [
          ⟨some 93, none, .mov (.t 8)⟩,
          ⟨some 94, none, .mov (.t 15)⟩,
          ⟨some 95, none, .mget false (.str []) false (.t 93) (.t 94)⟩,
          ⟨some 16, none, .mov (.t 95)⟩])
        (.seq
        (.reg [
          ⟨some 96, none, .mov (.t 16)⟩,
          ⟨some 97, none, .strb .neq (.t 96) (.c (.str []))⟩])
        (.cond (.t 97)
          (.reg [
            ⟨some 98, none, .fa 0 (.t 5)⟩,
            ⟨some 99, none, .load 1 false (.t 98)⟩,
            ⟨some 100, none, .mov (.t 16)⟩,
            ⟨some 101, none, .build [.int .i64 0, .int .u8 0, .int .i64 0, .int .i64 0, .str [], .bool false, .bool false, .int .u8 0, .int .u64 0, .int .u64 0, .int .u64 0, .int .u64 0, .int .i64 0, .int .i64 0, .int .i64 0, .vs true [], .int .u8 0, .int .i64 0, .int .i64 0, .str [], .bool false, .bool false, .int .u8 0, .int .u64 0, .int .u64 0, .int .u64 0, .int .u64 0, .int .i64 0, .int .i64 0, .int .i64 0, .vs true [], .bool false, .int .u8 0, .str [], .str [], .int .i64 0, .str [], .bool false, .bool false, .int .u8 0, .int .u64 0, .int .u64 0, .int .u64 0, .int .u64 0, .int .i64 0, .int .i64 0, .int .i64 0, .vs true [], .vs true [], .int .i64 0, .bool false, .bool false, .bool false, .str []] [(32, 1, .c (.int .u8 58)), (33, 1, .t 100)]⟩,
            ⟨some 102, none, .bslice [.int .i64 0, .int .u8 0, .int .i64 0, .int .i64 0, .str [], .bool false, .bool false, .int .u8 0, .int .u64 0, .int .u64 0, .int .u64 0, .int .u64 0, .int .i64 0, .int .i64 0, .int .i64 0, .vs true [], .int .u8 0, .int .i64 0, .int .i64 0, .str [], .bool false, .bool false, .int .u8 0, .int .u64 0, .int .u64 0, .int .u64 0, .int .u64 0, .int .i64 0, .int .i64 0, .int .i64 0, .vs true [], .bool false, .int .u8 0, .str [], .str [], .int .i64 0, .str [], .bool false, .bool false, .int .u8 0, .int .u64 0, .int .u64 0, .int .u64 0, .int .u64 0, .int .i64 0, .int .i64 0, .int .i64 0, .vs true [], .vs true [], .int .i64 0, .bool false, .bool false, .bool false, .str []] 1 [(0, .t 101)]⟩,
            ⟨some 103, none, .app 57 54 496 (.t 99) (.t 102)⟩,
            ⟨some 104, none, .fa 0 (.t 5)⟩,
            ⟨none, none, .store 1 (.t 104) (.t 103)⟩])
          .skip)))
        (.seq
        (.seq
        (.reg [
          ⟨some 105, none, .mov (.t 15)⟩,
          ⟨some 106, none, .mov (.t 6)⟩,
          ⟨some 107, none, .int .eql (.t 105) (.t 106)⟩])
        (.cond (.t 107)
          (.exit 4)
          .skip))
        (.seq
        (.reg [
          ⟨some 108, none, .fa 0 (.t 2)⟩,
          ⟨some 109, none, .load 1 false (.t 108)⟩,
          ⟨some 110, none, .mov (.t 15)⟩,
          ⟨some 111, none, .ia 55 (.t 109) (.t 110)⟩,
          ⟨some 112, none, .fa 0 (.t 111)⟩,
          ⟨some 113, none, .load 54 true (.t 112)⟩,
          ⟨some 114, none, .call (.c (.fn 70 [])) [.t 113]⟩,
          ⟨some 17, none, .box 57 54 (.c (.agg [.int .i64 0, .int .u8 0, .int .i64 0, .int .i64 0, .str [], .bool false, .bool false, .int .u8 0, .int .u64 0, .int .u64 0, .int .u64 0, .int .u64 0, .int .i64 0, .int .i64 0, .int .i64 0, .vs true [], .int .u8 0, .int .i64 0, .int .i64 0, .str [], .bool false, .bool false, .int .u8 0, .int .u64 0, .int .u64 0, .int .u64 0, .int .u64 0, .int .i64 0, .int .i64 0, .int .i64 0, .vs true [], .bool false, .int .u8 0, .str [], .str [], .int .i64 0, .str [], .bool false, .bool false, .int .u8 0, .int .u64 0, .int .u64 0, .int .u64 0, .int .u64 0, .int .i64 0, .int .i64 0, .int .i64 0, .vs true [], .vs true [], .int .i64 0, .bool false, .bool false, .bool false, .str []]))⟩,
          ⟨none, none, .store 54 (.t 17) (.t 114)⟩])
        (.seq
        (.seq
        (.reg [
          ⟨some 115, none, .fa 32 (.t 17)⟩,
          ⟨some 116, none, .load 1 false (.t 115)⟩,
          ⟨some 117, none, .call (.c (.fn 64 [])) [.t 116]⟩])
        (.cond (.t 117)
          (.reg [
            ⟨some 118, none, .mov (.t 8)⟩,
            ⟨some 119, none, .fa 0 (.t 2)⟩,
            ⟨some 120, none, .load 1 false (.t 119)⟩,
            ⟨some 121, none, .mov (.t 15)⟩,
            ⟨some 122, none, .ia 55 (.t 120) (.t 121)⟩,
            ⟨some 123, none, .fa 54 (.t 122)⟩,
            ⟨some 124, none, .load 1 false (.t 123)⟩,
            ⟨some 125, none, .mget false (.str []) false (.t 118) (.t 124)⟩,
            ⟨some 126, none, .fa 33 (.t 17)⟩,
            ⟨none, none, .store 1 (.t 126) (.t 125)⟩])
          .skip))
        (.reg [
          ⟨some 127, none, .fa 0 (.t 5)⟩,
          ⟨some 128, none, .load 1 false (.t 127)⟩,
          ⟨some 129, none, .load 54 true (.t 17)⟩,
          ⟨some 130, none, .bslice [.int .i64 0, .int .u8 0, .int .i64 0, .int .i64 0, .str [], .bool false, .bool false, .int .u8 0, .int .u64 0, .int .u64 0, .int .u64 0, .int .u64 0, .int .i64 0, .int .i64 0, .int .i64 0, .vs true [], .int .u8 0, .int .i64 0, .int .i64 0, .str [], .bool false, .bool false, .int .u8 0, .int .u64 0, .int .u64 0, .int .u64 0, .int .u64 0, .int .i64 0, .int .i64 0, .int .i64 0, .vs true [], .bool false, .int .u8 0, .str [], .str [], .int .i64 0, .str [], .bool false, .bool false, .int .u8 0, .int .u64 0, .int .u64 0, .int .u64 0, .int .u64 0, .int .i64 0, .int .i64 0, .int .i64 0, .vs true [], .vs true [], .int .i64 0, .bool false, .bool false, .bool false, .str []] 1 [(0, .t 129)]⟩,
          ⟨some 131, none, .app 57 54 496 (.t 128) (.t 130)⟩,
          ⟨some 132, none, .fa 0 (.t 5)⟩,
          ⟨none, none, .store 1 (.t 132) (.t 131)⟩]))))))))
      (.reg [
        ⟨some 133, none, .int .add (.t 78) (.c (.int .i64 1))⟩,
        ⟨some 78, none, .mov (.t 133)⟩])))))))
  (.seq
  (.reg [
    ⟨some 134, none, .load 3 true (.t 5)⟩,
    ⟨none, none, .store 3 (.t 4) (.t 134)⟩])
  .ret))))))))))⟩

theorem c29 : chkF Go.Proofs.Tryz.prog Go.Proofs.Tryz.f29 m29 = true := by kernel_rfl

/-- slices.Equal[[]string,string] -/
def m30 : MFn := ⟨2, 26, [.tmp 4], 0,
  (.seq
  (.reg [
    ⟨some 4, none, .mov (.c (.bool false))⟩])
  (.seq
  (.seq
  (.reg [
    ⟨some 6, none, .mov (.t 0)⟩,
    ⟨some 7, none, .lenL (.t 6)⟩,
    ⟨some 8, none, .mov (.t 1)⟩,
    ⟨some 9, none, .lenL (.t 8)⟩,
    ⟨some 10, none, .int .neq (.t 7) (.t 9)⟩])
  (.cond (.t 10)
    (.seq
    (.reg [
      ⟨some 4, none, .mov (.c (.bool false))⟩])
    .ret)
    .skip))
  (.seq
  (.seq
  (.reg [
    ⟨some 11, none, .mov (.t 0)⟩,
    ⟨some 12, none, .lenL (.t 11)⟩,
    ⟨some 13, none, .mov (.c (.int .i64 0))⟩])
  (.block 0
    (.loop
      (.seq
      (.reg [
        ⟨some 14, none, .int .lss (.t 13) (.t 12)⟩])
      (.seq
      (.cond (.t 14)
        .skip
        (.exit 0))
      (.seq
      (.block 1
        (.seq
        (.reg [
          ⟨some 15, none, .mov (.t 13)⟩,
          ⟨some 5, none, .mov (.t 15)⟩])
        (.seq
        (.dreg [
          ⟨0, 0, [], 0, ⟨some 16, none, .mov (.t 0)⟩⟩,
          ⟨1, 0, [], 0, ⟨some 17, none, .mov (.t 5)⟩⟩,
          ⟨2, 0, [], 3, ⟨some 18, none, .ia 1 (.t 16) (.t 17)⟩⟩,
          ⟨3, 0, [], 7, ⟨some 19, none, .load 1 false (.t 18)⟩⟩,
          ⟨4, 0, [], 0, ⟨some 20, none, .mov (.t 1)⟩⟩,
          ⟨5, 0, [], 0, ⟨some 21, none, .mov (.t 5)⟩⟩,
          ⟨6, 0, [], 48, ⟨some 22, none, .ia 1 (.t 20) (.t 21)⟩⟩,
          ⟨7, 0, [], 112, ⟨some 23, none, .load 1 false (.t 22)⟩⟩,
          ⟨8, 0, [], 255, ⟨some 24, none, .strb .neq (.t 19) (.t 23)⟩⟩])
        (.cond (.t 24)
          (.seq
          (.reg [
            ⟨some 4, none, .mov (.c (.bool false))⟩])
          .ret)
          .skip))))
      (.reg [
        ⟨some 25, none, .int .add (.t 13) (.c (.int .i64 1))⟩,
        ⟨some 13, none, .mov (.t 25)⟩])))))))
  (.seq
  (.reg [
    ⟨some 4, none, .mov (.c (.bool true))⟩])
  .ret))))⟩

theorem c30 : chkF Go.Proofs.Tryz.prog Go.Proofs.Tryz.f30 m30 = true := by kernel_rfl

end YtjeffeobdpganaaGreatDoor
end Go.Ab
