/- The abstract machine's texts of translated functions (printed by a program), each checked against the translation. -/
import Derived.Test.YtjeffeobdpganaaGreatDoorAbK
import Derived.Test.YtjeffeobdpganaaGreatDoorProg
import Derived.KernelRfl
set_option linter.unusedSimpArgs false
set_option linter.unusedVariables false
namespace Go.Ab
namespace YtjeffeobdpganaaGreatDoor
set_option maxRecDepth 100000
open Go.Proofs
/-- (*paddock/syntax.parser).skip -/
def m177 : MFn := ⟨1, 21, [], 0,
  (.seq
  (.seq
  (.reg [
    ⟨some 2, none, .mov (.t 0)⟩,
    ⟨some 3, none, .nilc (.t 2)⟩,
    ⟨some 4, none, .fa 2 (.t 3)⟩,
    ⟨some 5, none, .load 1 false (.t 4)⟩,
    ⟨some 6, none, .not (.t 5)⟩])
  (.cond (.t 6)
    (.reg [
      ⟨some 7, none, .mov (.t 0)⟩,
      ⟨some 8, none, .nilc (.t 7)⟩,
      ⟨some 9, none, .fa 1 (.t 8)⟩,
      ⟨some 10, none, .load 1 false (.t 9)⟩,
      ⟨some 11, none, .int .add (.t 10) (.c (.int .i64 1))⟩,
      ⟨some 12, none, .nilc (.t 7)⟩,
      ⟨some 13, none, .fa 1 (.t 12)⟩,
      ⟨none, none, .store 1 (.t 13) (.t 11)⟩])
    .skip))
  (.reg [
    ⟨some 14, none, .mov (.t 0)⟩,
    ⟨some 15, none, .nilc (.t 14)⟩,
    ⟨some 16, none, .fa 1 (.t 15)⟩,
    ⟨some 17, none, .load 1 false (.t 16)⟩,
    ⟨some 18, none, .int .add (.t 17) (.c (.int .i64 1))⟩,
    ⟨some 19, none, .nilc (.t 14)⟩,
    ⟨some 20, none, .fa 1 (.t 19)⟩,
    ⟨none, none, .store 1 (.t 20) (.t 18)⟩]))⟩

theorem c177 : chkF Go.Proofs.Tryz.prog Go.Proofs.Tryz.f177 m177 = true := by kernel_rfl

/-- paddock/posix.Check$1 -/
def m178 : MFn := ⟨5, 100, [], 0,
  (.seq
  (.reg [
    ⟨some 7, none, .load 1 false (.t 1)⟩,
    ⟨some 8, none, .mov (.t 7)⟩,
    ⟨some 9, some (8, true), .mov (.t 0)⟩,
    ⟨some 10, some (8, true), .call (.c (.fn 179 [])) [.t 9]⟩,
    ⟨some 11, none, .pick (.t 8) (.t 10) (.c (.bool false))⟩,
    ⟨none, none, .store 1 (.t 1) (.t 11)⟩])
  (.seq
  (.seq
  (.reg [
    ⟨some 12, none, .load 1 false (.t 1)⟩,
    ⟨some 13, none, .not (.t 12)⟩])
  (.cond (.t 13)
    .ret
    .skip))
  (.seq
  (.seq
  (.reg [
    ⟨some 14, none, .mov (.t 0)⟩,
    ⟨some 15, none, .nilc (.t 14)⟩,
    ⟨some 16, none, .fa 0 (.t 15)⟩,
    ⟨some 17, none, .load 1 false (.t 16)⟩])
  (.block 0
    (.seq
    (.reg [
      ⟨some 19, none, .int .eql (.t 17) (.c (.int .u8 6))⟩,
      ⟨some 18, none, .mov (.t 19)⟩])
    (.cond (.t 18)
      (.seq
      (.reg [
        ⟨some 20, none, .load 1 false (.t 2)⟩,
        ⟨some 21, none, .int .add (.t 20) (.c (.int .i64 1))⟩,
        ⟨none, none, .store 1 (.t 2) (.t 21)⟩])
      (.seq
      (.dreg [
        ⟨0, 0, [], 0, ⟨some 22, none, .mov (.t 0)⟩⟩,
        ⟨1, 0, [], 1, ⟨some 23, none, .nilc (.t 22)⟩⟩,
        ⟨2, 0, [], 3, ⟨some 24, none, .fa 7 (.t 23)⟩⟩,
        ⟨3, 0, [], 7, ⟨some 25, none, .load 1 false (.t 24)⟩⟩,
        ⟨4, 0, [], 0, ⟨some 26, none, .load 1 false (.t 2)⟩⟩,
        ⟨5, 0, [], 31, ⟨some 27, none, .int .eql (.t 25) (.t 26)⟩⟩,
        ⟨6, 0, [], 63, ⟨some 28, none, .mov (.t 27)⟩⟩,
        ⟨7, 0, [], 127, ⟨some 29, some (28, true), .load 1 false (.t 2)⟩⟩,
        ⟨8, 0, [], 255, ⟨some 30, some (28, true), .int .leq (.t 29) (.c (.int .i64 99))⟩⟩,
        ⟨9, 0, [], 511, ⟨some 31, none, .pick (.t 28) (.t 30) (.c (.bool false))⟩⟩,
        ⟨10, 1, [], 1023, ⟨none, none, .store 1 (.t 1) (.t 31)⟩⟩])
      (.reg [
        ⟨some 32, none, .load 1 false (.t 3)⟩,
        ⟨some 33, none, .bslice [.bool false] 1 [(0, .c (.bool false))]⟩,
        ⟨some 34, none, .app 4 1 1 (.t 32) (.t 33)⟩,
        ⟨none, none, .store 1 (.t 3) (.t 34)⟩])))
      (.seq
      (.reg [
        ⟨some 36, none, .int .eql (.t 17) (.c (.int .u8 7))⟩,
        ⟨some 35, none, .mov (.t 36)⟩])
      (.cond (.t 35)
        (.dreg [
          ⟨0, 0, [], 0, ⟨some 37, none, .mov (.t 0)⟩⟩,
          ⟨1, 0, [], 1, ⟨some 38, none, .nilc (.t 37)⟩⟩,
          ⟨2, 0, [], 3, ⟨some 39, none, .fa 7 (.t 38)⟩⟩,
          ⟨3, 0, [], 7, ⟨some 40, none, .load 1 false (.t 39)⟩⟩,
          ⟨4, 0, [], 15, ⟨some 41, none, .int .geq (.t 40) (.c (.int .i64 1))⟩⟩,
          ⟨5, 0, [], 31, ⟨some 42, none, .mov (.t 41)⟩⟩,
          ⟨6, 0, [], 63, ⟨some 43, some (42, true), .mov (.t 0)⟩⟩,
          ⟨7, 0, [], 127, ⟨some 44, some (42, true), .nilc (.t 43)⟩⟩,
          ⟨8, 0, [], 255, ⟨some 45, some (42, true), .fa 7 (.t 44)⟩⟩,
          ⟨9, 0, [], 511, ⟨some 46, some (42, true), .load 1 false (.t 45)⟩⟩,
          ⟨10, 0, [], 1023, ⟨some 47, some (42, true), .int .leq (.t 46) (.c (.int .i64 9))⟩⟩,
          ⟨11, 0, [], 2047, ⟨some 48, none, .pick (.t 42) (.t 47) (.c (.bool false))⟩⟩,
          ⟨12, 0, [], 4095, ⟨some 49, none, .mov (.t 48)⟩⟩,
          ⟨13, 0, [], 8191, ⟨some 50, some (49, true), .mov (.t 0)⟩⟩,
          ⟨14, 0, [], 16383, ⟨some 51, some (49, true), .nilc (.t 50)⟩⟩,
          ⟨15, 0, [], 32767, ⟨some 52, some (49, true), .fa 7 (.t 51)⟩⟩,
          ⟨16, 0, [], 65535, ⟨some 53, some (49, true), .load 1 false (.t 52)⟩⟩,
          ⟨17, 0, [], 8191, ⟨some 54, some (49, true), .load 1 false (.t 2)⟩⟩,
          ⟨18, 0, [], 262143, ⟨some 55, some (49, true), .int .leq (.t 53) (.t 54)⟩⟩,
          ⟨19, 0, [], 524287, ⟨some 56, none, .pick (.t 49) (.t 55) (.c (.bool false))⟩⟩,
          ⟨20, 0, [], 1048575, ⟨some 57, none, .mov (.t 56)⟩⟩,
          ⟨21, 0, [], 2097151, ⟨some 58, some (57, true), .load 1 false (.t 3)⟩⟩,
          ⟨22, 0, [], 2097151, ⟨some 59, some (57, true), .mov (.t 0)⟩⟩,
          ⟨23, 0, [], 6291455, ⟨some 60, some (57, true), .nilc (.t 59)⟩⟩,
          ⟨24, 0, [], 14680063, ⟨some 61, some (57, true), .fa 7 (.t 60)⟩⟩,
          ⟨25, 0, [], 31457279, ⟨some 62, some (57, true), .load 1 false (.t 61)⟩⟩,
          ⟨26, 0, [], 65011711, ⟨some 63, some (57, true), .int .sub (.t 62) (.c (.int .i64 1))⟩⟩,
          ⟨27, 0, [], 134217727, ⟨some 64, some (57, true), .ia 1 (.t 58) (.t 63)⟩⟩,
          ⟨28, 0, [], 268435455, ⟨some 65, some (57, true), .load 1 false (.t 64)⟩⟩,
          ⟨29, 0, [], 536870911, ⟨some 66, none, .pick (.t 57) (.t 65) (.c (.bool false))⟩⟩,
          ⟨30, 1, [], 1073741823, ⟨none, none, .store 1 (.t 1) (.t 66)⟩⟩])
        .skip))))))
  (.seq
  (.seq
  (.reg [
    ⟨some 67, none, .mov (.t 0)⟩,
    ⟨some 68, none, .nilc (.t 67)⟩,
    ⟨some 69, none, .fa 8 (.t 68)⟩,
    ⟨some 70, none, .load 1 false (.t 69)⟩,
    ⟨some 71, none, .lenL (.t 70)⟩,
    ⟨some 72, none, .mov (.c (.int .i64 0))⟩])
  (.block 1
    (.loop
      (.seq
      (.reg [
        ⟨some 73, none, .int .lss (.t 72) (.t 71)⟩])
      (.seq
      (.cond (.t 73)
        .skip
        (.exit 1))
      (.seq
      (.block 2
        (.seq
        (.reg [
          ⟨some 74, none, .mov (.t 72)⟩,
          ⟨some 6, none, .mov (.t 74)⟩])
        (.seq
        (.reg [
          ⟨some 75, none, .load 1 false (.t 1)⟩])
        (.cond (.t 75)
          (.dreg [
            ⟨0, 0, [], 0, ⟨some 76, none, .load 1 false (.t 4)⟩⟩,
            ⟨1, 0, [], 0, ⟨some 77, none, .mov (.t 0)⟩⟩,
            ⟨2, 0, [], 2, ⟨some 78, none, .nilc (.t 77)⟩⟩,
            ⟨3, 0, [], 6, ⟨some 79, none, .fa 8 (.t 78)⟩⟩,
            ⟨4, 0, [], 14, ⟨some 80, none, .load 1 false (.t 79)⟩⟩,
            ⟨5, 0, [], 0, ⟨some 81, none, .mov (.t 6)⟩⟩,
            ⟨6, 0, [], 62, ⟨some 82, none, .ia 9 (.t 80) (.t 81)⟩⟩,
            ⟨7, 1, [], 127, ⟨some 83, none, .call (.t 76) [.t 82]⟩⟩])
          .skip))))
      (.reg [
        ⟨some 84, none, .int .add (.t 72) (.c (.int .i64 1))⟩,
        ⟨some 72, none, .mov (.t 84)⟩])))))))
  (.seq
  (.reg [
    ⟨some 85, none, .load 1 false (.t 1)⟩,
    ⟨some 86, none, .mov (.t 85)⟩,
    ⟨some 87, some (86, true), .mov (.t 0)⟩,
    ⟨some 88, some (86, true), .nilc (.t 87)⟩,
    ⟨some 89, some (86, true), .fa 0 (.t 88)⟩,
    ⟨some 90, some (86, true), .load 1 false (.t 89)⟩,
    ⟨some 91, some (86, true), .int .eql (.t 90) (.c (.int .u8 6))⟩,
    ⟨some 92, none, .pick (.t 86) (.t 91) (.c (.bool false))⟩])
  (.cond (.t 92)
    (.dreg [
      ⟨0, 0, [], 0, ⟨some 93, none, .load 1 false (.t 3)⟩⟩,
      ⟨1, 0, [], 0, ⟨some 94, none, .mov (.t 0)⟩⟩,
      ⟨2, 0, [], 2, ⟨some 95, none, .nilc (.t 94)⟩⟩,
      ⟨3, 0, [], 6, ⟨some 96, none, .fa 7 (.t 95)⟩⟩,
      ⟨4, 0, [], 14, ⟨some 97, none, .load 1 false (.t 96)⟩⟩,
      ⟨5, 0, [], 30, ⟨some 98, none, .int .sub (.t 97) (.c (.int .i64 1))⟩⟩,
      ⟨6, 0, [], 63, ⟨some 99, none, .ia 1 (.t 93) (.t 98)⟩⟩,
      ⟨7, 1, [], 127, ⟨none, none, .store 1 (.t 99) (.c (.bool true))⟩⟩])
    .skip))))))⟩

theorem c178 : chkF Go.Proofs.Tryz.prog Go.Proofs.Tryz.f178 m178 = true := by kernel_rfl

/-- paddock/posix.plain -/
def m179 : MFn := ⟨1, 126, [.tmp 2], 0,
  (.seq
  (.reg [
    ⟨some 2, none, .mov (.c (.bool false))⟩])
  (.seq
  (.reg [
    ⟨some 5, none, .mov (.t 0)⟩,
    ⟨some 6, none, .nilc (.t 5)⟩,
    ⟨some 7, none, .fa 8 (.t 6)⟩,
    ⟨some 8, none, .load 1 false (.t 7)⟩,
    ⟨some 9, none, .lenL (.t 8)⟩,
    ⟨some 3, none, .mov (.t 9)⟩])
  (.seq
  (.reg [
    ⟨some 4, none, .mov (.c (.int .i64 0))⟩])
  (.seq
  (.seq
  (.reg [
    ⟨some 10, none, .mov (.t 0)⟩,
    ⟨some 11, none, .nilc (.t 10)⟩,
    ⟨some 12, none, .fa 0 (.t 11)⟩,
    ⟨some 13, none, .load 1 false (.t 12)⟩])
  (.block 0
    (.seq
    (.seq
    (.reg [
      ⟨some 15, none, .int .eql (.t 13) (.c (.int .u8 3))⟩,
      ⟨some 14, none, .mov (.t 15)⟩])
    (.cond (.t 14)
      .skip
      (.reg [
        ⟨some 16, none, .int .eql (.t 13) (.c (.int .u8 4))⟩,
        ⟨some 14, none, .mov (.t 16)⟩])))
    (.cond (.t 14)
      (.reg [
        ⟨some 17, none, .mov (.t 3)⟩,
        ⟨some 18, none, .minmax true (.t 17) (.c (.int .i64 2))⟩,
        ⟨some 4, none, .mov (.t 18)⟩])
      (.seq
      (.reg [
        ⟨some 20, none, .int .eql (.t 13) (.c (.int .u8 5))⟩,
        ⟨some 19, none, .mov (.t 20)⟩])
      (.cond (.t 19)
        (.seq
        (.reg [
          ⟨some 4, none, .mov (.c (.int .i64 1))⟩])
        (.seq
        (.dreg [
          ⟨0, 0, [], 0, ⟨some 21, none, .mov (.t 0)⟩⟩,
          ⟨1, 0, [], 1, ⟨some 22, none, .nilc (.t 21)⟩⟩,
          ⟨2, 0, [], 3, ⟨some 23, none, .fa 5 (.t 22)⟩⟩,
          ⟨3, 0, [], 7, ⟨some 24, none, .load 1 false (.t 23)⟩⟩,
          ⟨4, 0, [], 15, ⟨some 25, none, .int .lss (.t 24) (.c (.int .i64 0))⟩⟩,
          ⟨5, 0, [], 31, ⟨some 26, none, .mov (.t 25)⟩⟩,
          ⟨6, 0, [], 63, ⟨some 27, some (26, false), .mov (.t 0)⟩⟩,
          ⟨7, 0, [], 127, ⟨some 28, some (26, false), .nilc (.t 27)⟩⟩,
          ⟨8, 0, [], 255, ⟨some 29, some (26, false), .fa 5 (.t 28)⟩⟩,
          ⟨9, 0, [], 511, ⟨some 30, some (26, false), .load 1 false (.t 29)⟩⟩,
          ⟨10, 0, [], 1023, ⟨some 31, some (26, false), .int .gtr (.t 30) (.c (.int .i64 255))⟩⟩,
          ⟨11, 0, [], 2047, ⟨some 32, none, .pick (.t 26) (.c (.bool true)) (.t 31)⟩⟩,
          ⟨12, 0, [], 4095, ⟨some 33, none, .mov (.t 32)⟩⟩,
          ⟨13, 0, [], 8191, ⟨some 34, some (33, false), .mov (.t 0)⟩⟩,
          ⟨14, 0, [], 16383, ⟨some 35, some (33, false), .nilc (.t 34)⟩⟩,
          ⟨15, 0, [], 32767, ⟨some 36, some (33, false), .fa 6 (.t 35)⟩⟩,
          ⟨16, 0, [], 65535, ⟨some 37, some (33, false), .load 1 false (.t 36)⟩⟩,
          ⟨17, 0, [], 131071, ⟨some 38, some (33, false), .int .neq (.t 37) (.c (.int .i64 (-1)))⟩⟩,
          ⟨18, 0, [], 262143, ⟨some 39, some (33, false), .mov (.t 38)⟩⟩,
          ⟨19, 0, [], 524287, ⟨some 40, some (39, true), .mov (.t 0)⟩⟩,
          ⟨20, 0, [], 1048575, ⟨some 41, some (39, true), .nilc (.t 40)⟩⟩,
          ⟨21, 0, [], 2097151, ⟨some 42, some (39, true), .fa 6 (.t 41)⟩⟩,
          ⟨22, 0, [], 4194303, ⟨some 43, some (39, true), .load 1 false (.t 42)⟩⟩,
          ⟨23, 0, [], 524287, ⟨some 44, some (39, true), .mov (.t 0)⟩⟩,
          ⟨24, 0, [], 8912895, ⟨some 45, some (39, true), .nilc (.t 44)⟩⟩,
          ⟨25, 0, [], 25690111, ⟨some 46, some (39, true), .fa 5 (.t 45)⟩⟩,
          ⟨26, 0, [], 59244543, ⟨some 47, some (39, true), .load 1 false (.t 46)⟩⟩,
          ⟨27, 0, [], 134217727, ⟨some 48, some (39, true), .int .lss (.t 43) (.t 47)⟩⟩,
          ⟨28, 0, [], 268435455, ⟨some 49, some (39, true), .mov (.t 48)⟩⟩,
          ⟨29, 0, [], 536870911, ⟨some 50, some (49, false), .mov (.t 0)⟩⟩,
          ⟨30, 0, [], 1073741823, ⟨some 51, some (49, false), .nilc (.t 50)⟩⟩,
          ⟨31, 0, [], 2147483647, ⟨some 52, some (49, false), .fa 6 (.t 51)⟩⟩,
          ⟨32, 0, [], 4294967295, ⟨some 53, some (49, false), .load 1 false (.t 52)⟩⟩,
          ⟨33, 0, [], 8589934591, ⟨some 54, some (49, false), .int .gtr (.t 53) (.c (.int .i64 255))⟩⟩,
          ⟨34, 0, [], 17179869183, ⟨some 55, some (39, true), .pick (.t 49) (.c (.bool true)) (.t 54)⟩⟩,
          ⟨35, 0, [], 34359738367, ⟨some 56, some (33, false), .pick (.t 39) (.t 55) (.c (.bool false))⟩⟩,
          ⟨36, 0, [], 68719476735, ⟨some 57, none, .pick (.t 33) (.c (.bool true)) (.t 56)⟩⟩])
        (.cond (.t 57)
          (.seq
          (.reg [
            ⟨some 2, none, .mov (.c (.bool false))⟩])
          .ret)
          .skip)))
        (.seq
        (.reg [
          ⟨some 59, none, .int .eql (.t 13) (.c (.int .u8 6))⟩,
          ⟨some 58, none, .mov (.t 59)⟩])
        (.cond (.t 58)
          (.reg [
            ⟨some 4, none, .mov (.c (.int .i64 1))⟩])
          (.seq
          (.seq
          (.reg [
            ⟨some 61, none, .int .eql (.t 13) (.c (.int .u8 1))⟩,
            ⟨some 60, none, .mov (.t 61)⟩])
          (.cond (.t 60)
            .skip
            (.seq
            (.reg [
              ⟨some 62, none, .int .eql (.t 13) (.c (.int .u8 2))⟩,
              ⟨some 60, none, .mov (.t 62)⟩])
            (.cond (.t 60)
              .skip
              (.seq
              (.reg [
                ⟨some 63, none, .int .eql (.t 13) (.c (.int .u8 7))⟩,
                ⟨some 60, none, .mov (.t 63)⟩])
              (.cond (.t 60)
                .skip
                (.seq
                (.reg [
                  ⟨some 64, none, .int .eql (.t 13) (.c (.int .u8 8))⟩,
                  ⟨some 60, none, .mov (.t 64)⟩])
                (.cond (.t 60)
                  .skip
                  (.reg [
                    ⟨some 65, none, .int .eql (.t 13) (.c (.int .u8 9))⟩,
                    ⟨some 60, none, .mov (.t 65)⟩])))))))))
          (.cond (.t 60)
            .skip
            (.seq
            (.reg [
              ⟨some 2, none, .mov (.c (.bool false))⟩])
            .ret)))))))))))
  (.seq
  (.reg [
    ⟨some 66, none, .mov (.t 3)⟩,
    ⟨some 67, none, .mov (.t 4)⟩,
    ⟨some 68, none, .int .eql (.t 66) (.t 67)⟩,
    ⟨some 69, none, .mov (.t 68)⟩,
    ⟨some 70, some (69, true), .mov (.t 0)⟩,
    ⟨some 71, some (69, true), .nilc (.t 70)⟩,
    ⟨some 72, some (69, true), .fa 0 (.t 71)⟩,
    ⟨some 73, some (69, true), .load 1 false (.t 72)⟩,
    ⟨some 74, some (69, true), .int .eql (.t 73) (.c (.int .u8 2))⟩,
    ⟨some 75, some (69, true), .mov (.t 74)⟩,
    ⟨some 76, some (75, false), .mov (.t 0)⟩,
    ⟨some 77, some (75, false), .nilc (.t 76)⟩,
    ⟨some 78, some (75, false), .fa 1 (.t 77)⟩,
    ⟨some 79, some (75, false), .load 4 true (.t 78)⟩,
    ⟨some 80, some (75, false), .build [.int .u64 0, .int .u64 0, .int .u64 0, .int .u64 0] []⟩,
    ⟨some 81, some (75, false), .aggb false [.i, .i, .i, .i] (.t 79) (.t 80)⟩,
    ⟨some 82, some (69, true), .pick (.t 75) (.c (.bool true)) (.t 81)⟩,
    ⟨some 83, none, .pick (.t 69) (.t 82) (.c (.bool false))⟩,
    ⟨some 84, none, .mov (.t 83)⟩,
    ⟨some 85, some (84, true), .mov (.t 0)⟩,
    ⟨some 86, some (84, true), .nilc (.t 85)⟩,
    ⟨some 87, some (84, true), .fa 0 (.t 86)⟩,
    ⟨some 88, some (84, true), .load 1 false (.t 87)⟩,
    ⟨some 89, some (84, true), .int .eql (.t 88) (.c (.int .u8 5))⟩,
    ⟨some 90, some (84, true), .mov (.t 89)⟩,
    ⟨some 91, some (90, false), .mov (.t 0)⟩,
    ⟨some 92, some (90, false), .nilc (.t 91)⟩,
    ⟨some 93, some (90, false), .fa 5 (.t 92)⟩,
    ⟨some 94, some (90, false), .load 1 false (.t 93)⟩,
    ⟨some 95, some (90, false), .int .eql (.t 94) (.c (.int .i64 0))⟩,
    ⟨some 96, some (90, false), .mov (.t 95)⟩,
    ⟨some 97, some (96, true), .mov (.t 0)⟩,
    ⟨some 98, some (96, true), .nilc (.t 97)⟩,
    ⟨some 99, some (96, true), .fa 6 (.t 98)⟩,
    ⟨some 100, some (96, true), .load 1 false (.t 99)⟩,
    ⟨some 101, some (96, true), .int .eql (.t 100) (.c (.int .i64 0))⟩,
    ⟨some 102, some (90, false), .pick (.t 96) (.t 101) (.c (.bool false))⟩,
    ⟨some 103, some (84, true), .pick (.t 90) (.c (.bool true)) (.t 102)⟩,
    ⟨some 104, none, .pick (.t 84) (.t 103) (.c (.bool false))⟩,
    ⟨some 105, none, .mov (.t 104)⟩,
    ⟨some 106, some (105, true), .mov (.t 0)⟩,
    ⟨some 107, some (105, true), .nilc (.t 106)⟩,
    ⟨some 108, some (105, true), .fa 0 (.t 107)⟩,
    ⟨some 109, some (105, true), .load 1 false (.t 108)⟩,
    ⟨some 110, some (105, true), .int .eql (.t 109) (.c (.int .u8 6))⟩,
    ⟨some 111, some (105, true), .mov (.t 110)⟩,
    ⟨some 112, some (111, false), .mov (.t 0)⟩,
    ⟨some 113, some (111, false), .nilc (.t 112)⟩,
    ⟨some 114, some (111, false), .fa 0 (.t 113)⟩,
    ⟨some 115, some (111, false), .load 1 false (.t 114)⟩,
    ⟨some 116, some (111, false), .int .eql (.t 115) (.c (.int .u8 7))⟩,
    ⟨some 117, some (105, true), .pick (.t 111) (.c (.bool true)) (.t 116)⟩,
    ⟨some 118, some (105, true), .mov (.t 117)⟩,
    ⟨some 119, some (118, false), .mov (.t 0)⟩,
    ⟨some 120, some (118, false), .nilc (.t 119)⟩,
    ⟨some 121, some (118, false), .fa 7 (.t 120)⟩,
    ⟨some 122, some (118, false), .load 1 false (.t 121)⟩,
    ⟨some 123, some (118, false), .int .eql (.t 122) (.c (.int .i64 0))⟩,
    ⟨some 124, some (105, true), .pick (.t 118) (.c (.bool true)) (.t 123)⟩,
    ⟨some 125, none, .pick (.t 105) (.t 124) (.c (.bool false))⟩,
    ⟨some 2, none, .mov (.t 125)⟩])
  .ret)))))⟩

theorem c179 : chkF Go.Proofs.Tryz.prog Go.Proofs.Tryz.f179 m179 = true := by kernel_rfl

/-- paddock/nfa.size$1 -/
def m180 : MFn := ⟨2, 7, [], 0,
  (.reg [
    ⟨some 3, none, .load 1 false (.t 1)⟩,
    ⟨some 4, none, .mov (.t 0)⟩,
    ⟨some 5, none, .int .add (.t 3) (.t 4)⟩,
    ⟨some 6, none, .minmax false (.t 5) (.c (.int .i64 16385))⟩,
    ⟨none, none, .store 1 (.t 1) (.t 6)⟩])⟩

theorem c180 : chkF Go.Proofs.Tryz.prog Go.Proofs.Tryz.f180 m180 = true := by kernel_rfl

/-- paddock/nfa.groups -/
def m181 : MFn := ⟨1, 47, [.tmp 2, .tmp 3], 0,
  (.seq
  (.reg [
    ⟨some 1, none, .box 48 9 (.t 0)⟩,
    ⟨some 2, none, .mov (.c (.int .i64 0))⟩,
    ⟨some 3, none, .mov (.c (.int .i64 0))⟩])
  (.seq
  (.reg [
    ⟨some 4, none, .mov (.c (.int .i64 0))⟩,
    ⟨some 5, none, .mov (.c (.int .i64 0))⟩])
  (.seq
  (.seq
  (.reg [
    ⟨some 10, none, .fa 0 (.t 1)⟩,
    ⟨some 11, none, .load 1 false (.t 10)⟩,
    ⟨some 12, none, .int .eql (.t 11) (.c (.int .u8 6))⟩])
  (.cond (.t 12)
    (.dreg [
      ⟨0, 0, [], 0, ⟨some 13, none, .fa 7 (.t 1)⟩⟩,
      ⟨1, 0, [], 1, ⟨some 14, none, .load 1 false (.t 13)⟩⟩,
      ⟨2, 0, [], 0, ⟨some 15, none, .fa 7 (.t 1)⟩⟩,
      ⟨3, 0, [], 4, ⟨some 16, none, .load 1 false (.t 15)⟩⟩,
      ⟨4, 0, [], 3, ⟨some 4, none, .mov (.t 14)⟩⟩,
      ⟨5, 0, [], 31, ⟨some 5, none, .mov (.t 16)⟩⟩])
    .skip))
  (.seq
  (.seq
  (.reg [
    ⟨some 17, none, .fa 8 (.t 1)⟩,
    ⟨some 18, none, .load 1 false (.t 17)⟩,
    ⟨some 19, none, .lenL (.t 18)⟩,
    ⟨some 20, none, .mov (.c (.int .i64 0))⟩])
  (.block 0
    (.loop
      (.seq
      (.reg [
        ⟨some 21, none, .int .lss (.t 20) (.t 19)⟩])
      (.seq
      (.cond (.t 21)
        .skip
        (.exit 0))
      (.seq
      (.block 1
        (.seq
        (.reg [
          ⟨some 22, none, .ia 9 (.t 18) (.t 20)⟩,
          ⟨some 23, none, .load 9 true (.t 22)⟩,
          ⟨some 7, none, .box 48 9 (.c (.agg [.int .u8 0, .int .u64 0, .int .u64 0, .int .u64 0, .int .u64 0, .int .i64 0, .int .i64 0, .int .i64 0, .vs true []]))⟩,
          ⟨none, none, .store 9 (.t 7) (.t 23)⟩])
        (.seq
        (.reg [
          ⟨some 25, none, .load 9 true (.t 7)⟩,
          ⟨some 26, none, .call (.c (.fn 181 [])) [.t 25]⟩,
          ⟨some 24, none, .mov (.t 26)⟩,
          ⟨some 27, none, .ext (.t 24) 0⟩,
          ⟨some 28, none, .ext (.t 24) 1⟩,
          ⟨some 8, none, .mov (.t 27)⟩,
          ⟨some 9, none, .mov (.t 28)⟩])
        (.seq
        (.seq
        (.reg [
          ⟨some 29, none, .mov (.t 8)⟩,
          ⟨some 30, none, .int .gtr (.t 29) (.c (.int .i64 0))⟩,
          ⟨some 31, none, .mov (.t 30)⟩,
          ⟨some 32, some (31, true), .mov (.t 4)⟩,
          ⟨some 33, some (31, true), .int .eql (.t 32) (.c (.int .i64 0))⟩,
          ⟨some 34, some (31, true), .mov (.t 33)⟩,
          ⟨some 35, some (34, false), .mov (.t 8)⟩,
          ⟨some 36, some (34, false), .mov (.t 4)⟩,
          ⟨some 37, some (34, false), .int .lss (.t 35) (.t 36)⟩,
          ⟨some 38, some (31, true), .pick (.t 34) (.c (.bool true)) (.t 37)⟩,
          ⟨some 39, none, .pick (.t 31) (.t 38) (.c (.bool false))⟩])
        (.cond (.t 39)
          (.reg [
            ⟨some 40, none, .mov (.t 8)⟩,
            ⟨some 4, none, .mov (.t 40)⟩])
          .skip))
        (.reg [
          ⟨some 41, none, .mov (.t 5)⟩,
          ⟨some 42, none, .mov (.t 9)⟩,
          ⟨some 43, none, .minmax true (.t 41) (.t 42)⟩,
          ⟨some 5, none, .mov (.t 43)⟩])))))
      (.reg [
        ⟨some 44, none, .int .add (.t 20) (.c (.int .i64 1))⟩,
        ⟨some 20, none, .mov (.t 44)⟩])))))))
  (.seq
  (.reg [
    ⟨some 45, none, .mov (.t 4)⟩,
    ⟨some 46, none, .mov (.t 5)⟩,
    ⟨some 2, none, .mov (.t 45)⟩,
    ⟨some 3, none, .mov (.t 46)⟩])
  .ret)))))⟩

theorem c181 : chkF Go.Proofs.Tryz.prog Go.Proofs.Tryz.f181 m181 = true := by kernel_rfl

/-- unicode/utf8.decodeRuneInStringSlow -/
def m182 : MFn := ⟨1, 117, [.tmp 2, .tmp 3], 0,
  (.seq
  (.reg [
    ⟨some 2, none, .mov (.c (.int .i32 0))⟩,
    ⟨some 3, none, .mov (.c (.int .i64 0))⟩])
  (.seq
  (.reg [
    ⟨some 13, none, .mov (.t 0)⟩,
    ⟨some 14, none, .lenS (.t 13)⟩,
    ⟨some 4, none, .mov (.t 14)⟩])
  (.seq
  (.seq
  (.reg [
    ⟨some 15, none, .mov (.t 4)⟩,
    ⟨some 16, none, .int .lss (.t 15) (.c (.int .i64 1))⟩])
  (.cond (.t 16)
    (.seq
    (.reg [
      ⟨some 2, none, .mov (.c (.int .i32 65533))⟩,
      ⟨some 3, none, .mov (.c (.int .i64 0))⟩])
    .ret)
    .skip))
  (.seq
  (.reg [
    ⟨some 17, none, .mov (.t 0)⟩,
    ⟨some 18, none, .idx (.t 17) (.c (.int .i64 0))⟩,
    ⟨some 5, none, .mov (.t 18)⟩])
  (.seq
  (.reg [
    ⟨some 19, none, .mov (.t 5)⟩,
    ⟨some 20, none, .bad⟩,
    ⟨some 21, none, .load 1 false (.t 20)⟩,
    ⟨some 6, none, .mov (.t 21)⟩])
  (.seq
  (.seq
  (.reg [
    ⟨some 22, none, .mov (.t 6)⟩,
    ⟨some 23, none, .int .geq (.t 22) (.c (.int .u8 240))⟩])
  (.cond (.t 23)
    (.seq
    (.reg [
      ⟨some 24, none, .mov (.t 6)⟩,
      ⟨some 25, none, .conv .i32 (.t 24)⟩,
      ⟨some 26, none, .int .shl (.t 25) (.c (.int .u64 31))⟩,
      ⟨some 27, none, .int .shr (.t 26) (.c (.int .u64 31))⟩,
      ⟨some 7, none, .mov (.t 27)⟩])
    (.seq
    (.reg [
      ⟨some 28, none, .mov (.t 0)⟩,
      ⟨some 29, none, .idx (.t 28) (.c (.int .i64 0))⟩,
      ⟨some 30, none, .conv .i32 (.t 29)⟩,
      ⟨some 31, none, .mov (.t 7)⟩,
      ⟨some 32, none, .int .andNot (.t 30) (.t 31)⟩,
      ⟨some 33, none, .mov (.t 7)⟩,
      ⟨some 34, none, .int .and (.c (.int .i32 65533)) (.t 33)⟩,
      ⟨some 35, none, .int .or (.t 32) (.t 34)⟩,
      ⟨some 2, none, .mov (.t 35)⟩,
      ⟨some 3, none, .mov (.c (.int .i64 1))⟩])
    .ret))
    .skip))
  (.seq
  (.reg [
    ⟨some 36, none, .mov (.t 6)⟩,
    ⟨some 37, none, .int .and (.t 36) (.c (.int .u8 7))⟩,
    ⟨some 38, none, .conv .i64 (.t 37)⟩,
    ⟨some 8, none, .mov (.t 38)⟩])
  (.seq
  (.reg [
    ⟨some 39, none, .mov (.t 6)⟩,
    ⟨some 40, none, .int .shr (.t 39) (.c (.int .u64 4))⟩,
    ⟨some 41, none, .bad⟩,
    ⟨some 42, none, .load 2 true (.t 41)⟩,
    ⟨some 9, none, .box 240 2 (.c (.agg [.int .u8 0, .int .u8 0]))⟩,
    ⟨none, none, .store 2 (.t 9) (.t 42)⟩])
  (.seq
  (.seq
  (.reg [
    ⟨some 43, none, .mov (.t 4)⟩,
    ⟨some 44, none, .mov (.t 8)⟩,
    ⟨some 45, none, .int .lss (.t 43) (.t 44)⟩])
  (.cond (.t 45)
    (.seq
    (.reg [
      ⟨some 2, none, .mov (.c (.int .i32 65533))⟩,
      ⟨some 3, none, .mov (.c (.int .i64 1))⟩])
    .ret)
    .skip))
  (.seq
  (.reg [
    ⟨some 46, none, .mov (.t 0)⟩,
    ⟨some 47, none, .idx (.t 46) (.c (.int .i64 1))⟩,
    ⟨some 10, none, .mov (.t 47)⟩])
  (.seq
  (.seq
  (.reg [
    ⟨some 48, none, .mov (.t 10)⟩,
    ⟨some 49, none, .fa 0 (.t 9)⟩,
    ⟨some 50, none, .load 1 false (.t 49)⟩,
    ⟨some 51, none, .int .lss (.t 48) (.t 50)⟩,
    ⟨some 52, none, .mov (.t 51)⟩,
    ⟨some 53, some (52, false), .fa 1 (.t 9)⟩,
    ⟨some 54, some (52, false), .load 1 false (.t 53)⟩,
    ⟨some 55, some (52, false), .mov (.t 10)⟩,
    ⟨some 56, some (52, false), .int .lss (.t 54) (.t 55)⟩,
    ⟨some 57, none, .pick (.t 52) (.c (.bool true)) (.t 56)⟩])
  (.cond (.t 57)
    (.seq
    (.reg [
      ⟨some 2, none, .mov (.c (.int .i32 65533))⟩,
      ⟨some 3, none, .mov (.c (.int .i64 1))⟩])
    .ret)
    .skip))
  (.seq
  (.seq
  (.reg [
    ⟨some 58, none, .mov (.t 8)⟩,
    ⟨some 59, none, .int .leq (.t 58) (.c (.int .i64 2))⟩])
  (.cond (.t 59)
    (.seq
    (.reg [
      ⟨some 60, none, .mov (.t 5)⟩,
      ⟨some 61, none, .int .and (.t 60) (.c (.int .u8 31))⟩,
      ⟨some 62, none, .conv .i32 (.t 61)⟩,
      ⟨some 63, none, .int .shl (.t 62) (.c (.int .u64 6))⟩,
      ⟨some 64, none, .mov (.t 10)⟩,
      ⟨some 65, none, .int .and (.t 64) (.c (.int .u8 63))⟩,
      ⟨some 66, none, .conv .i32 (.t 65)⟩,
      ⟨some 67, none, .int .or (.t 63) (.t 66)⟩,
      ⟨some 2, none, .mov (.t 67)⟩,
      ⟨some 3, none, .mov (.c (.int .i64 2))⟩])
    .ret)
    .skip))
  (.seq
  (.reg [
    ⟨some 68, none, .mov (.t 0)⟩,
    ⟨some 69, none, .idx (.t 68) (.c (.int .i64 2))⟩,
    ⟨some 11, none, .mov (.t 69)⟩])
  (.seq
  (.seq
  (.reg [
    ⟨some 70, none, .mov (.t 11)⟩,
    ⟨some 71, none, .int .lss (.t 70) (.c (.int .u8 128))⟩,
    ⟨some 72, none, .mov (.t 71)⟩,
    ⟨some 73, some (72, false), .mov (.t 11)⟩,
    ⟨some 74, some (72, false), .int .lss (.c (.int .u8 191)) (.t 73)⟩,
    ⟨some 75, none, .pick (.t 72) (.c (.bool true)) (.t 74)⟩])
  (.cond (.t 75)
    (.seq
    (.reg [
      ⟨some 2, none, .mov (.c (.int .i32 65533))⟩,
      ⟨some 3, none, .mov (.c (.int .i64 1))⟩])
    .ret)
    .skip))
  (.seq
  (.seq
  (.reg [
    ⟨some 76, none, .mov (.t 8)⟩,
    ⟨some 77, none, .int .leq (.t 76) (.c (.int .i64 3))⟩])
  (.cond (.t 77)
    (.seq
    (.reg [
      ⟨some 78, none, .mov (.t 5)⟩,
      ⟨some 79, none, .int .and (.t 78) (.c (.int .u8 15))⟩,
      ⟨some 80, none, .conv .i32 (.t 79)⟩,
      ⟨some 81, none, .int .shl (.t 80) (.c (.int .u64 12))⟩,
      ⟨some 82, none, .mov (.t 10)⟩,
      ⟨some 83, none, .int .and (.t 82) (.c (.int .u8 63))⟩,
      ⟨some 84, none, .conv .i32 (.t 83)⟩,
      ⟨some 85, none, .int .shl (.t 84) (.c (.int .u64 6))⟩,
      ⟨some 86, none, .int .or (.t 81) (.t 85)⟩,
      ⟨some 87, none, .mov (.t 11)⟩,
      ⟨some 88, none, .int .and (.t 87) (.c (.int .u8 63))⟩,
      ⟨some 89, none, .conv .i32 (.t 88)⟩,
      ⟨some 90, none, .int .or (.t 86) (.t 89)⟩,
      ⟨some 2, none, .mov (.t 90)⟩,
      ⟨some 3, none, .mov (.c (.int .i64 3))⟩])
    .ret)
    .skip))
  (.seq
  (.reg [
    ⟨some 91, none, .mov (.t 0)⟩,
    ⟨some 92, none, .idx (.t 91) (.c (.int .i64 3))⟩,
    ⟨some 12, none, .mov (.t 92)⟩])
  (.seq
  (.seq
  (.reg [
    ⟨some 93, none, .mov (.t 12)⟩,
    ⟨some 94, none, .int .lss (.t 93) (.c (.int .u8 128))⟩,
    ⟨some 95, none, .mov (.t 94)⟩,
    ⟨some 96, some (95, false), .mov (.t 12)⟩,
    ⟨some 97, some (95, false), .int .lss (.c (.int .u8 191)) (.t 96)⟩,
    ⟨some 98, none, .pick (.t 95) (.c (.bool true)) (.t 97)⟩])
  (.cond (.t 98)
    (.seq
    (.reg [
      ⟨some 2, none, .mov (.c (.int .i32 65533))⟩,
      ⟨some 3, none, .mov (.c (.int .i64 1))⟩])
    .ret)
    .skip))
  (.seq
  (.reg [
    ⟨some 99, none, .mov (.t 5)⟩,
    ⟨some 100, none, .int .and (.t 99) (.c (.int .u8 7))⟩,
    ⟨some 101, none, .conv .i32 (.t 100)⟩,
    ⟨some 102, none, .int .shl (.t 101) (.c (.int .u64 18))⟩,
    ⟨some 103, none, .mov (.t 10)⟩,
    ⟨some 104, none, .int .and (.t 103) (.c (.int .u8 63))⟩,
    ⟨some 105, none, .conv .i32 (.t 104)⟩,
    ⟨some 106, none, .int .shl (.t 105) (.c (.int .u64 12))⟩,
    ⟨some 107, none, .int .or (.t 102) (.t 106)⟩,
    ⟨some 108, none, .mov (.t 11)⟩,
    ⟨some 109, none, .int .and (.t 108) (.c (.int .u8 63))⟩,
    ⟨some 110, none, .conv .i32 (.t 109)⟩,
    ⟨some 111, none, .int .shl (.t 110) (.c (.int .u64 6))⟩,
    ⟨some 112, none, .int .or (.t 107) (.t 111)⟩,
    ⟨some 113, none, .mov (.t 12)⟩,
    ⟨some 114, none, .int .and (.t 113) (.c (.int .u8 63))⟩,
    ⟨some 115, none, .conv .i32 (.t 114)⟩,
    ⟨some 116, none, .int .or (.t 112) (.t 115)⟩,
    ⟨some 2, none, .mov (.t 116)⟩,
    ⟨some 3, none, .mov (.c (.int .i64 4))⟩])
  .ret))))))))))))))))))⟩

theorem c182 : chkF Go.Proofs.Tryz.prog Go.Proofs.Tryz.f182 m182 = true := by kernel_rfl

/-- math/bits.TrailingZeros32 -/
def m183 : MFn := ⟨1, 14, [.tmp 2], 0,
  (.seq
  (.reg [
    ⟨some 2, none, .mov (.c (.int .i64 0))⟩])
  (.seq
  (.seq
  (.reg [
    ⟨some 3, none, .mov (.t 0)⟩,
    ⟨some 4, none, .int .eql (.t 3) (.c (.int .u32 0))⟩])
  (.cond (.t 4)
    (.seq
    (.reg [
      ⟨some 2, none, .mov (.c (.int .i64 32))⟩])
    .ret)
    .skip))
  (.seq
  (.reg [
    ⟨some 5, none, .mov (.t 0)⟩,
    ⟨some 6, none, .mov (.t 0)⟩,
    ⟨some 7, none, .neg (.t 6)⟩,
    ⟨some 8, none, .int .and (.t 5) (.t 7)⟩,
    ⟨some 9, none, .int .mul (.t 8) (.c (.int .u32 125613361))⟩,
    ⟨some 10, none, .int .shr (.t 9) (.c (.int .u64 27))⟩,
    ⟨some 11, none, .bad⟩,
    ⟨some 12, none, .load 1 false (.t 11)⟩,
    ⟨some 13, none, .conv .i64 (.t 12)⟩,
    ⟨some 2, none, .mov (.t 13)⟩])
  .ret)))⟩

theorem c183 : chkF Go.Proofs.Tryz.prog Go.Proofs.Tryz.f183 m183 = true := by kernel_rfl

/-- math/bits.TrailingZeros64 -/
def m184 : MFn := ⟨1, 14, [.tmp 2], 0,
  (.seq
  (.reg [
    ⟨some 2, none, .mov (.c (.int .i64 0))⟩])
  (.seq
  (.seq
  (.reg [
    ⟨some 3, none, .mov (.t 0)⟩,
    ⟨some 4, none, .int .eql (.t 3) (.c (.int .u64 0))⟩])
  (.cond (.t 4)
    (.seq
    (.reg [
      ⟨some 2, none, .mov (.c (.int .i64 64))⟩])
    .ret)
    .skip))
  (.seq
  (.reg [
    ⟨some 5, none, .mov (.t 0)⟩,
    ⟨some 6, none, .mov (.t 0)⟩,
    ⟨some 7, none, .neg (.t 6)⟩,
    ⟨some 8, none, .int .and (.t 5) (.t 7)⟩,
    ⟨some 9, none, .int .mul (.t 8) (.c (.int .u64 285870213051353865))⟩,
    ⟨some 10, none, .int .shr (.t 9) (.c (.int .u64 58))⟩,
    ⟨some 11, none, .bad⟩,
    ⟨some 12, none, .load 1 false (.t 11)⟩,
    ⟨some 13, none, .conv .i64 (.t 12)⟩,
    ⟨some 2, none, .mov (.t 13)⟩])
  .ret)))⟩

theorem c184 : chkF Go.Proofs.Tryz.prog Go.Proofs.Tryz.f184 m184 = true := by kernel_rfl

/-- (*paddock/syntax.parser).over -/
def m185 : MFn := ⟨1, 21, [.tmp 2], 0,
  (.seq
  (.reg [
    ⟨some 2, none, .mov (.c (.bool false))⟩])
  (.seq
  (.dreg [
    ⟨0, 0, [], 0, ⟨some 3, none, .mov (.t 0)⟩⟩,
    ⟨1, 0, [], 1, ⟨some 4, none, .nilc (.t 3)⟩⟩,
    ⟨2, 0, [], 3, ⟨some 5, none, .fa 1 (.t 4)⟩⟩,
    ⟨3, 0, [], 7, ⟨some 6, none, .load 1 false (.t 5)⟩⟩,
    ⟨4, 0, [], 0, ⟨some 7, none, .mov (.t 0)⟩⟩,
    ⟨5, 0, [], 16, ⟨some 8, none, .nilc (.t 7)⟩⟩,
    ⟨6, 0, [], 48, ⟨some 9, none, .fa 0 (.t 8)⟩⟩,
    ⟨7, 0, [], 112, ⟨some 10, none, .load 1 false (.t 9)⟩⟩,
    ⟨8, 0, [], 240, ⟨some 11, none, .lenS (.t 10)⟩⟩,
    ⟨9, 0, [], 511, ⟨some 12, none, .int .geq (.t 6) (.t 11)⟩⟩,
    ⟨10, 0, [], 1023, ⟨some 13, none, .mov (.t 12)⟩⟩,
    ⟨11, 0, [], 2047, ⟨some 14, some (13, false), .mov (.t 0)⟩⟩,
    ⟨12, 1, [], 4095, ⟨some 15, some (13, false), .call (.c (.fn 176 [])) [.t 14, .c (.int .u8 124)]⟩⟩,
    ⟨13, 0, [], 8191, ⟨some 16, none, .pick (.t 13) (.c (.bool true)) (.t 15)⟩⟩,
    ⟨14, 0, [], 16383, ⟨some 17, none, .mov (.t 16)⟩⟩,
    ⟨15, 0, [], 32767, ⟨some 18, some (17, false), .mov (.t 0)⟩⟩,
    ⟨16, 1, [], 65535, ⟨some 19, some (17, false), .call (.c (.fn 176 [])) [.t 18, .c (.int .u8 41)]⟩⟩,
    ⟨17, 0, [], 131071, ⟨some 20, none, .pick (.t 17) (.c (.bool true)) (.t 19)⟩⟩,
    ⟨18, 0, [], 262143, ⟨some 2, none, .mov (.t 20)⟩⟩])
  .ret))⟩

theorem c185 : chkF Go.Proofs.Tryz.prog Go.Proofs.Tryz.f185 m185 = true := by kernel_rfl

/-- (*paddock/syntax.parser).last -/
def m186 : MFn := ⟨1, 24, [.tmp 2], 0,
  (.seq
  (.reg [
    ⟨some 2, none, .mov (.c (.bool false))⟩])
  (.seq
  (.dreg [
    ⟨0, 0, [], 0, ⟨some 4, none, .mov (.t 0)⟩⟩,
    ⟨1, 0, [], 1, ⟨some 5, none, .nilc (.t 4)⟩⟩,
    ⟨2, 0, [], 3, ⟨some 6, none, .fa 0 (.t 5)⟩⟩,
    ⟨3, 0, [], 7, ⟨some 7, none, .load 1 false (.t 6)⟩⟩,
    ⟨4, 0, [], 0, ⟨some 8, none, .mov (.t 0)⟩⟩,
    ⟨5, 0, [], 16, ⟨some 9, none, .nilc (.t 8)⟩⟩,
    ⟨6, 0, [], 48, ⟨some 10, none, .fa 1 (.t 9)⟩⟩,
    ⟨7, 0, [], 112, ⟨some 11, none, .load 1 false (.t 10)⟩⟩,
    ⟨8, 0, [], 240, ⟨some 12, none, .int .add (.t 11) (.c (.int .i64 1))⟩⟩,
    ⟨9, 0, [], 511, ⟨some 13, none, .sstr (.t 7) (some (.t 12)) none⟩⟩,
    ⟨10, 0, [], 1023, ⟨some 3, none, .mov (.t 13)⟩⟩])
  (.seq
  (.reg [
    ⟨some 14, none, .mov (.t 3)⟩,
    ⟨some 15, none, .strb .eql (.t 14) (.c (.str []))⟩,
    ⟨some 16, none, .mov (.t 15)⟩,
    ⟨some 17, some (16, false), .mov (.t 3)⟩,
    ⟨some 18, some (16, false), .call (.c (.fn 23 [])) [.t 17, .c (.str [92, 124])]⟩,
    ⟨some 19, none, .pick (.t 16) (.c (.bool true)) (.t 18)⟩,
    ⟨some 20, none, .mov (.t 19)⟩,
    ⟨some 21, some (20, false), .mov (.t 3)⟩,
    ⟨some 22, some (20, false), .call (.c (.fn 23 [])) [.t 21, .c (.str [92, 41])]⟩,
    ⟨some 23, none, .pick (.t 20) (.c (.bool true)) (.t 22)⟩,
    ⟨some 2, none, .mov (.t 23)⟩])
  .ret)))⟩

theorem c186 : chkF Go.Proofs.Tryz.prog Go.Proofs.Tryz.f186 m186 = true := by kernel_rfl

/-- (*paddock/syntax.parser).atom -/
def m187 : MFn := ⟨2, 123, [.cell 4 9 true], 0,
  (.seq
  (.reg [
    ⟨some 4, none, .box 48 9 (.c (.agg [.int .u8 0, .int .u64 0, .int .u64 0, .int .u64 0, .int .u64 0, .int .i64 0, .int .i64 0, .int .i64 0, .vs true []]))⟩])
  (.seq
  (.dreg [
    ⟨0, 0, [], 0, ⟨some 10, none, .mov (.t 0)⟩⟩,
    ⟨1, 0, [], 1, ⟨some 11, none, .nilc (.t 10)⟩⟩,
    ⟨2, 0, [], 3, ⟨some 12, none, .fa 0 (.t 11)⟩⟩,
    ⟨3, 0, [], 7, ⟨some 13, none, .load 1 false (.t 12)⟩⟩,
    ⟨4, 0, [], 0, ⟨some 14, none, .mov (.t 0)⟩⟩,
    ⟨5, 0, [], 16, ⟨some 15, none, .nilc (.t 14)⟩⟩,
    ⟨6, 0, [], 48, ⟨some 16, none, .fa 1 (.t 15)⟩⟩,
    ⟨7, 0, [], 112, ⟨some 17, none, .load 1 false (.t 16)⟩⟩,
    ⟨8, 0, [], 255, ⟨some 18, none, .idx (.t 13) (.t 17)⟩⟩,
    ⟨9, 0, [], 511, ⟨some 5, none, .mov (.t 18)⟩⟩])
  (.seq
  (.block 0
    (.seq
    (.reg [
      ⟨some 20, none, .mov (.t 0)⟩,
      ⟨some 21, none, .call (.c (.fn 176 [])) [.t 20, .c (.int .u8 40)]⟩,
      ⟨some 19, none, .mov (.t 21)⟩])
    (.cond (.t 19)
      (.seq
      (.reg [
        ⟨some 22, none, .mov (.t 0)⟩,
        ⟨some 23, none, .call (.c (.fn 189 [])) [.t 22]⟩,
        ⟨none, none, .store 9 (.t 4) (.t 23)⟩])
      .ret)
      (.seq
      (.reg [
        ⟨some 25, none, .mov (.t 5)⟩,
        ⟨some 26, none, .int .eql (.t 25) (.c (.int .u8 91))⟩,
        ⟨some 24, none, .mov (.t 26)⟩])
      (.cond (.t 24)
        (.seq
        (.dreg [
          ⟨0, 0, [], 0, ⟨some 28, none, .mov (.t 0)⟩⟩,
          ⟨1, 0, [], 1, ⟨some 29, none, .nilc (.t 28)⟩⟩,
          ⟨2, 0, [], 3, ⟨some 30, none, .fa 0 (.t 29)⟩⟩,
          ⟨3, 0, [], 7, ⟨some 31, none, .load 1 false (.t 30)⟩⟩,
          ⟨4, 0, [], 0, ⟨some 32, none, .mov (.t 0)⟩⟩,
          ⟨5, 0, [], 16, ⟨some 33, none, .nilc (.t 32)⟩⟩,
          ⟨6, 0, [], 48, ⟨some 34, none, .fa 1 (.t 33)⟩⟩,
          ⟨7, 0, [], 112, ⟨some 35, none, .load 1 false (.t 34)⟩⟩,
          ⟨8, 0, [], 240, ⟨some 36, none, .int .add (.t 35) (.c (.int .i64 1))⟩⟩,
          ⟨9, 0, [], 511, ⟨some 37, none, .sstr (.t 31) (some (.t 36)) none⟩⟩,
          ⟨10, 1, [], 1023, ⟨some 38, none, .call (.c (.fn 190 [])) [.t 37]⟩⟩,
          ⟨11, 0, [], 2047, ⟨some 27, none, .mov (.t 38)⟩⟩,
          ⟨12, 0, [], 4095, ⟨some 39, none, .ext (.t 27) 0⟩⟩,
          ⟨13, 0, [], 4095, ⟨some 40, none, .ext (.t 27) 1⟩⟩,
          ⟨14, 0, [], 4095, ⟨some 41, none, .ext (.t 27) 2⟩⟩,
          ⟨15, 0, [], 4095, ⟨some 42, none, .ext (.t 27) 3⟩⟩,
          ⟨16, 2, [0, 1, 2, 3, 4, 5, 6, 7, 8, 9, 11, 12, 13, 14, 15], 0, ⟨some 6, none, .box 45 4 (.c (.agg [.int .u64 0, .int .u64 0, .int .u64 0, .int .u64 0]))⟩⟩,
          ⟨17, 1, [13, 14, 15], 73727, ⟨none, none, .store 4 (.t 6) (.t 39)⟩⟩,
          ⟨18, 0, [], 212991, ⟨some 7, none, .mov (.t 40)⟩⟩,
          ⟨19, 0, [], 491519, ⟨some 8, none, .mov (.t 41)⟩⟩,
          ⟨20, 0, [], 1048575, ⟨some 9, none, .mov (.t 42)⟩⟩])
        (.seq
        (.seq
        (.reg [
          ⟨some 43, none, .mov (.t 8)⟩,
          ⟨some 44, none, .int .neq (.t 43) (.c (.int .i64 0))⟩])
        (.cond (.t 44)
          (.reg [
            ⟨some 45, none, .mov (.t 0)⟩,
            ⟨some 46, none, .mov (.t 0)⟩,
            ⟨some 47, none, .nilc (.t 46)⟩,
            ⟨some 48, none, .fa 1 (.t 47)⟩,
            ⟨some 49, none, .load 1 false (.t 48)⟩,
            ⟨some 50, none, .int .add (.t 49) (.c (.int .i64 1))⟩,
            ⟨some 51, none, .mov (.t 9)⟩,
            ⟨some 52, none, .int .add (.t 50) (.t 51)⟩,
            ⟨some 53, none, .call (.c (.fn 161 [])) [.t 45, .c (.int .i64 80), .t 52]⟩])
          .skip))
        (.seq
        (.reg [
          ⟨some 54, none, .mov (.t 0)⟩,
          ⟨some 55, none, .nilc (.t 54)⟩,
          ⟨some 56, none, .fa 1 (.t 55)⟩,
          ⟨some 57, none, .load 1 false (.t 56)⟩,
          ⟨some 58, none, .mov (.t 7)⟩,
          ⟨some 59, none, .int .add (.c (.int .i64 1)) (.t 58)⟩,
          ⟨some 60, none, .int .add (.t 57) (.t 59)⟩,
          ⟨some 61, none, .nilc (.t 54)⟩,
          ⟨some 62, none, .fa 1 (.t 61)⟩,
          ⟨none, none, .store 1 (.t 62) (.t 60)⟩])
        (.seq
        (.reg [
          ⟨some 63, none, .load 4 true (.t 6)⟩,
          ⟨some 64, none, .call (.c (.fn 191 [])) [.t 63]⟩,
          ⟨none, none, .store 9 (.t 4) (.t 64)⟩])
        .ret))))
        (.seq
        (.reg [
          ⟨some 66, none, .mov (.t 5)⟩,
          ⟨some 67, none, .int .eql (.t 66) (.c (.int .u8 46))⟩,
          ⟨some 65, none, .mov (.t 67)⟩])
        (.cond (.t 65)
          (.seq
          (.reg [
            ⟨some 68, none, .mov (.t 0)⟩,
            ⟨some 69, none, .nilc (.t 68)⟩,
            ⟨some 70, none, .fa 1 (.t 69)⟩,
            ⟨some 71, none, .load 1 false (.t 70)⟩,
            ⟨some 72, none, .int .add (.t 71) (.c (.int .i64 1))⟩,
            ⟨some 73, none, .nilc (.t 68)⟩,
            ⟨some 74, none, .fa 1 (.t 73)⟩,
            ⟨none, none, .store 1 (.t 74) (.t 72)⟩])
          (.seq
          (.reg [
            ⟨some 75, none, .build [.int .u64 0, .int .u64 0, .int .u64 0, .int .u64 0] []⟩,
            ⟨some 76, none, .call (.c (.fn 192 [])) [.t 75]⟩,
            ⟨some 77, none, .call (.c (.fn 191 [])) [.t 76]⟩,
            ⟨none, none, .store 9 (.t 4) (.t 77)⟩])
          .ret))
          (.seq
          (.reg [
            ⟨some 79, none, .mov (.t 5)⟩,
            ⟨some 80, none, .int .eql (.t 79) (.c (.int .u8 92))⟩,
            ⟨some 78, none, .mov (.t 80)⟩])
          (.cond (.t 78)
            (.seq
            (.reg [
              ⟨some 81, none, .mov (.t 0)⟩,
              ⟨some 82, none, .call (.c (.fn 193 [])) [.t 81]⟩,
              ⟨none, none, .store 9 (.t 4) (.t 82)⟩])
            .ret)
            (.seq
            (.seq
            (.reg [
              ⟨some 84, none, .mov (.t 0)⟩,
              ⟨some 85, none, .nilc (.t 84)⟩,
              ⟨some 86, none, .fa 2 (.t 85)⟩,
              ⟨some 87, none, .load 1 false (.t 86)⟩,
              ⟨some 88, none, .mov (.t 87)⟩,
              ⟨some 89, some (88, true), .mov (.t 5)⟩,
              ⟨some 90, some (88, true), .call (.c (.fn 51 [])) [.c (.str [42, 43, 63, 123]), .t 89]⟩,
              ⟨some 91, some (88, true), .int .geq (.t 90) (.c (.int .i64 0))⟩,
              ⟨some 92, none, .pick (.t 88) (.t 91) (.c (.bool false))⟩,
              ⟨some 83, none, .mov (.t 92)⟩])
            (.cond (.t 83)
              .skip
              (.reg [
                ⟨some 93, none, .mov (.t 0)⟩,
                ⟨some 94, none, .nilc (.t 93)⟩,
                ⟨some 95, none, .fa 2 (.t 94)⟩,
                ⟨some 96, none, .load 1 false (.t 95)⟩,
                ⟨some 97, none, .not (.t 96)⟩,
                ⟨some 98, none, .mov (.t 97)⟩,
                ⟨some 99, some (98, true), .mov (.t 5)⟩,
                ⟨some 100, some (98, true), .int .eql (.t 99) (.c (.int .u8 42))⟩,
                ⟨some 101, none, .pick (.t 98) (.t 100) (.c (.bool false))⟩,
                ⟨some 102, none, .mov (.t 101)⟩,
                ⟨some 103, some (102, true), .mov (.t 1)⟩,
                ⟨some 104, some (102, true), .not (.t 103)⟩,
                ⟨some 105, none, .pick (.t 102) (.t 104) (.c (.bool false))⟩,
                ⟨some 83, none, .mov (.t 105)⟩])))
            (.cond (.t 83)
              (.reg [
                ⟨some 106, none, .mov (.t 0)⟩,
                ⟨some 107, none, .mov (.t 0)⟩,
                ⟨some 108, none, .nilc (.t 107)⟩,
                ⟨some 109, none, .fa 1 (.t 108)⟩,
                ⟨some 110, none, .load 1 false (.t 109)⟩,
                ⟨some 111, none, .call (.c (.fn 161 [])) [.t 106, .c (.int .i64 80), .t 110]⟩])
              .skip)))))))))))
  (.seq
  (.reg [
    ⟨some 112, none, .mov (.t 0)⟩,
    ⟨some 113, none, .nilc (.t 112)⟩,
    ⟨some 114, none, .fa 1 (.t 113)⟩,
    ⟨some 115, none, .load 1 false (.t 114)⟩,
    ⟨some 116, none, .int .add (.t 115) (.c (.int .i64 1))⟩,
    ⟨some 117, none, .nilc (.t 112)⟩,
    ⟨some 118, none, .fa 1 (.t 117)⟩,
    ⟨none, none, .store 1 (.t 118) (.t 116)⟩])
  (.seq
  (.reg [
    ⟨some 119, none, .mov (.t 5)⟩,
    ⟨some 120, none, .bslice [.int .u8 0] 1 [(0, .t 119)]⟩,
    ⟨some 121, none, .call (.c (.fn 194 [])) [.t 120]⟩,
    ⟨some 122, none, .call (.c (.fn 191 [])) [.t 121]⟩,
    ⟨none, none, .store 9 (.t 4) (.t 122)⟩])
  .ret)))))⟩

theorem c187 : chkF Go.Proofs.Tryz.prog Go.Proofs.Tryz.f187 m187 = true := by kernel_rfl

/-- (*paddock/syntax.parser).repeated -/
def m188 : MFn := ⟨2, 63, [.cell 4 9 true], 0,
  (.seq
  (.reg [
    ⟨some 3, none, .box 48 9 (.t 1)⟩,
    ⟨some 4, none, .box 48 9 (.c (.agg [.int .u8 0, .int .u64 0, .int .u64 0, .int .u64 0, .int .u64 0, .int .i64 0, .int .i64 0, .int .i64 0, .vs true []]))⟩])
  (.seq
  (.reg [
    ⟨some 5, none, .mov (.c (.int .i64 0))⟩,
    ⟨some 6, none, .mov (.c (.int .i64 (-1)))⟩])
  (.seq
  (.block 0
    (.seq
    (.dreg [
      ⟨0, 0, [], 0, ⟨some 9, none, .mov (.t 0)⟩⟩,
      ⟨1, 0, [], 1, ⟨some 10, none, .nilc (.t 9)⟩⟩,
      ⟨2, 0, [], 3, ⟨some 11, none, .fa 1 (.t 10)⟩⟩,
      ⟨3, 0, [], 7, ⟨some 12, none, .load 1 false (.t 11)⟩⟩,
      ⟨4, 0, [], 0, ⟨some 13, none, .mov (.t 0)⟩⟩,
      ⟨5, 0, [], 16, ⟨some 14, none, .nilc (.t 13)⟩⟩,
      ⟨6, 0, [], 48, ⟨some 15, none, .fa 0 (.t 14)⟩⟩,
      ⟨7, 0, [], 112, ⟨some 16, none, .load 1 false (.t 15)⟩⟩,
      ⟨8, 0, [], 240, ⟨some 17, none, .lenS (.t 16)⟩⟩,
      ⟨9, 0, [], 511, ⟨some 18, none, .int .lss (.t 12) (.t 17)⟩⟩,
      ⟨10, 0, [], 1023, ⟨some 19, none, .mov (.t 18)⟩⟩,
      ⟨11, 0, [], 2047, ⟨some 20, some (19, true), .mov (.t 0)⟩⟩,
      ⟨12, 0, [], 4095, ⟨some 21, some (19, true), .nilc (.t 20)⟩⟩,
      ⟨13, 0, [], 8191, ⟨some 22, some (19, true), .fa 0 (.t 21)⟩⟩,
      ⟨14, 0, [], 16383, ⟨some 23, some (19, true), .load 1 false (.t 22)⟩⟩,
      ⟨15, 0, [], 2047, ⟨some 24, some (19, true), .mov (.t 0)⟩⟩,
      ⟨16, 0, [], 34815, ⟨some 25, some (19, true), .nilc (.t 24)⟩⟩,
      ⟨17, 0, [], 100351, ⟨some 26, some (19, true), .fa 1 (.t 25)⟩⟩,
      ⟨18, 0, [], 231423, ⟨some 27, some (19, true), .load 1 false (.t 26)⟩⟩,
      ⟨19, 0, [], 524287, ⟨some 28, some (19, true), .idx (.t 23) (.t 27)⟩⟩,
      ⟨20, 0, [], 1048575, ⟨some 29, some (19, true), .int .eql (.t 28) (.c (.int .u8 42))⟩⟩,
      ⟨21, 0, [], 2097151, ⟨some 30, none, .pick (.t 19) (.t 29) (.c (.bool false))⟩⟩,
      ⟨22, 0, [], 4194303, ⟨some 8, none, .mov (.t 30)⟩⟩])
    (.cond (.t 8)
      (.reg [
        ⟨some 31, none, .mov (.t 0)⟩,
        ⟨some 32, none, .nilc (.t 31)⟩,
        ⟨some 33, none, .fa 1 (.t 32)⟩,
        ⟨some 34, none, .load 1 false (.t 33)⟩,
        ⟨some 35, none, .int .add (.t 34) (.c (.int .i64 1))⟩,
        ⟨some 36, none, .nilc (.t 31)⟩,
        ⟨some 37, none, .fa 1 (.t 36)⟩,
        ⟨none, none, .store 1 (.t 37) (.t 35)⟩])
      (.seq
      (.reg [
        ⟨some 39, none, .mov (.t 0)⟩,
        ⟨some 40, none, .call (.c (.fn 176 [])) [.t 39, .c (.int .u8 43)]⟩,
        ⟨some 38, none, .mov (.t 40)⟩])
      (.cond (.t 38)
        (.seq
        (.reg [
          ⟨some 41, none, .mov (.t 0)⟩,
          ⟨some 42, none, .call (.c (.fn 177 [])) [.t 41]⟩])
        (.reg [
          ⟨some 5, none, .mov (.c (.int .i64 1))⟩]))
        (.seq
        (.reg [
          ⟨some 44, none, .mov (.t 0)⟩,
          ⟨some 45, none, .call (.c (.fn 176 [])) [.t 44, .c (.int .u8 63)]⟩,
          ⟨some 43, none, .mov (.t 45)⟩])
        (.cond (.t 43)
          (.seq
          (.reg [
            ⟨some 46, none, .mov (.t 0)⟩,
            ⟨some 47, none, .call (.c (.fn 177 [])) [.t 46]⟩])
          (.reg [
            ⟨some 6, none, .mov (.c (.int .i64 1))⟩]))
          (.seq
          (.reg [
            ⟨some 49, none, .mov (.t 0)⟩,
            ⟨some 50, none, .call (.c (.fn 176 [])) [.t 49, .c (.int .u8 123)]⟩,
            ⟨some 48, none, .mov (.t 50)⟩])
          (.cond (.t 48)
            (.seq
            (.reg [
              ⟨some 51, none, .mov (.t 0)⟩,
              ⟨some 52, none, .call (.c (.fn 177 [])) [.t 51]⟩])
            (.reg [
              ⟨some 54, none, .mov (.t 0)⟩,
              ⟨some 55, none, .call (.c (.fn 195 [])) [.t 54]⟩,
              ⟨some 53, none, .mov (.t 55)⟩,
              ⟨some 56, none, .ext (.t 53) 0⟩,
              ⟨some 57, none, .ext (.t 53) 1⟩,
              ⟨some 5, none, .mov (.t 56)⟩,
              ⟨some 6, none, .mov (.t 57)⟩]))
            (.seq
            (.reg [
              ⟨some 7, none, .load 9 true (.t 3)⟩,
              ⟨none, none, .store 9 (.t 4) (.t 7)⟩])
            .ret))))))))))
  (.seq
  (.reg [
    ⟨some 58, none, .mov (.t 5)⟩,
    ⟨some 59, none, .mov (.t 6)⟩,
    ⟨some 60, none, .load 9 true (.t 3)⟩,
    ⟨some 61, none, .bslice [.int .u8 0, .int .u64 0, .int .u64 0, .int .u64 0, .int .u64 0, .int .i64 0, .int .i64 0, .int .i64 0, .vs true []] 1 [(0, .t 60)]⟩,
    ⟨some 62, none, .build [.int .u8 0, .int .u64 0, .int .u64 0, .int .u64 0, .int .u64 0, .int .i64 0, .int .i64 0, .int .i64 0, .vs true []] [(0, 1, .c (.int .u8 5)), (5, 1, .t 58), (6, 1, .t 59), (8, 1, .t 61)]⟩,
    ⟨none, none, .store 9 (.t 4) (.t 62)⟩])
  .ret))))⟩

theorem c188 : chkF Go.Proofs.Tryz.prog Go.Proofs.Tryz.f188 m188 = true := by kernel_rfl

/-- (*paddock/syntax.parser).group -/
def m189 : MFn := ⟨1, 82, [.cell 2 9 true], 0,
  (.seq
  (.reg [
    ⟨some 2, none, .box 48 9 (.c (.agg [.int .u8 0, .int .u64 0, .int .u64 0, .int .u64 0, .int .u64 0, .int .i64 0, .int .i64 0, .int .i64 0, .vs true []]))⟩])
  (.seq
  (.reg [
    ⟨some 5, none, .mov (.t 0)⟩,
    ⟨some 6, none, .nilc (.t 5)⟩,
    ⟨some 7, none, .fa 1 (.t 6)⟩,
    ⟨some 8, none, .load 1 false (.t 7)⟩,
    ⟨some 3, none, .mov (.t 8)⟩])
  (.seq
  (.reg [
    ⟨some 9, none, .mov (.t 0)⟩,
    ⟨some 10, none, .call (.c (.fn 177 [])) [.t 9]⟩])
  (.seq
  (.seq
  (.reg [
    ⟨some 11, none, .mov (.t 0)⟩,
    ⟨some 12, none, .nilc (.t 11)⟩,
    ⟨some 13, none, .fa 3 (.t 12)⟩,
    ⟨some 14, none, .load 1 false (.t 13)⟩,
    ⟨some 15, none, .int .eql (.t 14) (.c (.int .i64 99))⟩,
    ⟨some 16, none, .mov (.t 15)⟩,
    ⟨some 17, some (16, false), .mov (.t 0)⟩,
    ⟨some 18, some (16, false), .nilc (.t 17)⟩,
    ⟨some 19, some (16, false), .fa 5 (.t 18)⟩,
    ⟨some 20, some (16, false), .load 1 false (.t 19)⟩,
    ⟨some 21, some (16, false), .int .eql (.t 20) (.c (.int .i64 64))⟩,
    ⟨some 22, none, .pick (.t 16) (.c (.bool true)) (.t 21)⟩])
  (.cond (.t 22)
    (.seq
    (.seq
    (.reg [
      ⟨some 23, none, .mov (.t 0)⟩,
      ⟨some 24, none, .nilc (.t 23)⟩,
      ⟨some 25, none, .fa 2 (.t 24)⟩,
      ⟨some 26, none, .load 1 false (.t 25)⟩,
      ⟨some 27, none, .not (.t 26)⟩])
    (.cond (.t 27)
      (.reg [
        ⟨some 28, none, .mov (.t 3)⟩,
        ⟨some 29, none, .int .add (.t 28) (.c (.int .i64 1))⟩,
        ⟨some 3, none, .mov (.t 29)⟩])
      .skip))
    (.reg [
      ⟨some 30, none, .mov (.t 0)⟩,
      ⟨some 31, none, .mov (.t 3)⟩,
      ⟨some 32, none, .call (.c (.fn 161 [])) [.t 30, .c (.int .i64 3), .t 31]⟩]))
    .skip))
  (.seq
  (.reg [
    ⟨some 33, none, .mov (.t 0)⟩,
    ⟨some 34, none, .nilc (.t 33)⟩,
    ⟨some 35, none, .fa 3 (.t 34)⟩,
    ⟨some 36, none, .load 1 false (.t 35)⟩,
    ⟨some 37, none, .int .add (.t 36) (.c (.int .i64 1))⟩,
    ⟨some 38, none, .nilc (.t 33)⟩,
    ⟨some 39, none, .fa 3 (.t 38)⟩,
    ⟨none, none, .store 1 (.t 39) (.t 37)⟩])
  (.seq
  (.reg [
    ⟨some 40, none, .mov (.t 0)⟩,
    ⟨some 41, none, .nilc (.t 40)⟩,
    ⟨some 42, none, .fa 5 (.t 41)⟩,
    ⟨some 43, none, .load 1 false (.t 42)⟩,
    ⟨some 44, none, .int .add (.t 43) (.c (.int .i64 1))⟩,
    ⟨some 45, none, .nilc (.t 40)⟩,
    ⟨some 46, none, .fa 5 (.t 45)⟩,
    ⟨none, none, .store 1 (.t 46) (.t 44)⟩])
  (.seq
  (.reg [
    ⟨some 47, none, .mov (.t 0)⟩,
    ⟨some 48, none, .nilc (.t 47)⟩,
    ⟨some 49, none, .fa 3 (.t 48)⟩,
    ⟨some 50, none, .load 1 false (.t 49)⟩,
    ⟨some 51, none, .build [.int .u8 0, .int .u64 0, .int .u64 0, .int .u64 0, .int .u64 0, .int .i64 0, .int .i64 0, .int .i64 0, .vs true []] [(0, 1, .c (.int .u8 6)), (7, 1, .t 50)]⟩,
    ⟨some 4, none, .box 48 9 (.c (.agg [.int .u8 0, .int .u64 0, .int .u64 0, .int .u64 0, .int .u64 0, .int .i64 0, .int .i64 0, .int .i64 0, .vs true []]))⟩,
    ⟨none, none, .store 9 (.t 4) (.t 51)⟩])
  (.seq
  (.reg [
    ⟨some 52, none, .mov (.t 0)⟩,
    ⟨some 53, none, .call (.c (.fn 160 [])) [.t 52]⟩,
    ⟨some 54, none, .bslice [.int .u8 0, .int .u64 0, .int .u64 0, .int .u64 0, .int .u64 0, .int .i64 0, .int .i64 0, .int .i64 0, .vs true []] 1 [(0, .t 53)]⟩,
    ⟨some 55, none, .fa 8 (.t 4)⟩,
    ⟨none, none, .store 1 (.t 55) (.t 54)⟩])
  (.seq
  (.seq
  (.reg [
    ⟨some 56, none, .mov (.t 0)⟩,
    ⟨some 57, none, .call (.c (.fn 176 [])) [.t 56, .c (.int .u8 41)]⟩,
    ⟨some 58, none, .not (.t 57)⟩])
  (.cond (.t 58)
    (.reg [
      ⟨some 59, none, .mov (.t 0)⟩,
      ⟨some 60, none, .mov (.t 0)⟩,
      ⟨some 61, none, .nilc (.t 60)⟩,
      ⟨some 62, none, .fa 0 (.t 61)⟩,
      ⟨some 63, none, .load 1 false (.t 62)⟩,
      ⟨some 64, none, .lenS (.t 63)⟩,
      ⟨some 65, none, .call (.c (.fn 161 [])) [.t 59, .c (.int .i64 80), .t 64]⟩])
    .skip))
  (.seq
  (.reg [
    ⟨some 66, none, .mov (.t 0)⟩,
    ⟨some 67, none, .call (.c (.fn 177 [])) [.t 66]⟩])
  (.seq
  (.reg [
    ⟨some 68, none, .mov (.t 0)⟩,
    ⟨some 69, none, .nilc (.t 68)⟩,
    ⟨some 70, none, .fa 5 (.t 69)⟩,
    ⟨some 71, none, .load 1 false (.t 70)⟩,
    ⟨some 72, none, .int .sub (.t 71) (.c (.int .i64 1))⟩,
    ⟨some 73, none, .nilc (.t 68)⟩,
    ⟨some 74, none, .fa 5 (.t 73)⟩,
    ⟨none, none, .store 1 (.t 74) (.t 72)⟩])
  (.seq
  (.dreg [
    ⟨0, 0, [], 0, ⟨some 75, none, .mov (.t 0)⟩⟩,
    ⟨1, 0, [], 1, ⟨some 76, none, .nilc (.t 75)⟩⟩,
    ⟨2, 0, [], 3, ⟨some 77, none, .fa 4 (.t 76)⟩⟩,
    ⟨3, 0, [], 7, ⟨some 78, none, .load 1 false (.t 77)⟩⟩,
    ⟨4, 0, [], 0, ⟨some 79, none, .fa 7 (.t 4)⟩⟩,
    ⟨5, 0, [], 16, ⟨some 80, none, .load 1 false (.t 79)⟩⟩,
    ⟨6, 1, [], 63, ⟨none, none, .mset false (.t 78) (.t 80) (.c (.bool true))⟩⟩])
  (.seq
  (.reg [
    ⟨some 81, none, .load 9 true (.t 4)⟩,
    ⟨none, none, .store 9 (.t 2) (.t 81)⟩])
  .ret)))))))))))))⟩

theorem c189 : chkF Go.Proofs.Tryz.prog Go.Proofs.Tryz.f189 m189 = true := by kernel_rfl

/-- paddock/sets.Bracket -/
def m190 : MFn := ⟨1, 156, [.cell 2 4 true, .tmp 3, .tmp 4, .tmp 5], 0,
  (.seq
  (.reg [
    ⟨some 2, none, .box 45 4 (.c (.agg [.int .u64 0, .int .u64 0, .int .u64 0, .int .u64 0]))⟩,
    ⟨some 3, none, .mov (.c (.int .i64 0))⟩,
    ⟨some 4, none, .mov (.c (.int .i64 0))⟩,
    ⟨some 5, none, .mov (.c (.int .i64 0))⟩])
  (.seq
  (.reg [
    ⟨some 13, none, .mov (.t 0)⟩,
    ⟨some 14, none, .build [.str [], .int .i64 0, .int .i64 0] [(0, 1, .t 13), (2, 1, .c (.int .i64 (-1)))]⟩,
    ⟨some 15, none, .box 252 3 (.t 14)⟩,
    ⟨some 6, none, .mov (.t 15)⟩])
  (.seq
  (.reg [
    ⟨some 16, none, .mov (.t 0)⟩,
    ⟨some 17, none, .lenS (.t 16)⟩,
    ⟨some 18, none, .int .gtr (.t 17) (.c (.int .i64 0))⟩,
    ⟨some 19, none, .mov (.t 18)⟩,
    ⟨some 20, some (19, true), .mov (.t 0)⟩,
    ⟨some 21, some (19, true), .idx (.t 20) (.c (.int .i64 0))⟩,
    ⟨some 22, some (19, true), .int .eql (.t 21) (.c (.int .u8 94))⟩,
    ⟨some 23, none, .pick (.t 19) (.t 22) (.c (.bool false))⟩,
    ⟨some 7, none, .mov (.t 23)⟩])
  (.seq
  (.seq
  (.reg [
    ⟨some 24, none, .mov (.t 7)⟩])
  (.cond (.t 24)
    (.reg [
      ⟨some 25, none, .mov (.t 6)⟩,
      ⟨some 26, none, .nilc (.t 25)⟩,
      ⟨some 27, none, .fa 1 (.t 26)⟩,
      ⟨some 28, none, .load 1 false (.t 27)⟩,
      ⟨some 29, none, .int .add (.t 28) (.c (.int .i64 1))⟩,
      ⟨some 30, none, .nilc (.t 25)⟩,
      ⟨some 31, none, .fa 1 (.t 30)⟩,
      ⟨none, none, .store 1 (.t 31) (.t 29)⟩])
    .skip))
  (.seq
  (.reg [
    ⟨some 8, none, .box 45 4 (.c (.agg [.int .u64 0, .int .u64 0, .int .u64 0, .int .u64 0]))⟩])
  (.seq
  (.seq
  (.reg [
    ⟨some 9, none, .mov (.c (.bool true))⟩])
  (.block 0
    (.loop
      (.seq
      (.seq
      (.reg [
        ⟨some 32, none, .mov (.t 9)⟩,
        ⟨some 33, none, .mov (.t 32)⟩,
        ⟨some 34, some (33, false), .mov (.t 6)⟩,
        ⟨some 35, some (33, false), .nilc (.t 34)⟩,
        ⟨some 36, some (33, false), .fa 1 (.t 35)⟩,
        ⟨some 37, some (33, false), .load 1 false (.t 36)⟩,
        ⟨some 38, some (33, false), .mov (.t 0)⟩,
        ⟨some 39, some (33, false), .lenS (.t 38)⟩,
        ⟨some 40, some (33, false), .int .geq (.t 37) (.t 39)⟩,
        ⟨some 41, none, .pick (.t 33) (.c (.bool true)) (.t 40)⟩,
        ⟨some 42, none, .mov (.t 41)⟩,
        ⟨some 43, some (42, false), .mov (.t 0)⟩,
        ⟨some 44, some (42, false), .mov (.t 6)⟩,
        ⟨some 45, some (42, false), .nilc (.t 44)⟩,
        ⟨some 46, some (42, false), .fa 1 (.t 45)⟩,
        ⟨some 47, some (42, false), .load 1 false (.t 46)⟩,
        ⟨some 48, some (42, false), .idx (.t 43) (.t 47)⟩,
        ⟨some 49, some (42, false), .int .neq (.t 48) (.c (.int .u8 93))⟩,
        ⟨some 50, none, .pick (.t 42) (.c (.bool true)) (.t 49)⟩])
      (.cond (.t 50)
        .skip
        (.exit 0)))
      (.seq
      (.block 1
        (.seq
        (.reg [
          ⟨some 51, none, .mov (.t 6)⟩,
          ⟨some 52, none, .call (.c (.fn 196 [])) [.t 51]⟩,
          ⟨some 10, none, .box 254 6 (.c (.agg [.int .u64 0, .int .u64 0, .int .u64 0, .int .u64 0, .int .u8 0, .bool false]))⟩,
          ⟨none, none, .store 6 (.t 10) (.t 52)⟩])
        (.seq
        (.seq
        (.reg [
          ⟨some 53, none, .mov (.t 6)⟩,
          ⟨some 54, none, .nilc (.t 53)⟩,
          ⟨some 55, none, .fa 2 (.t 54)⟩,
          ⟨some 56, none, .load 1 false (.t 55)⟩,
          ⟨some 57, none, .int .geq (.t 56) (.c (.int .i64 0))⟩])
        (.cond (.t 57)
          (.exit 0)
          .skip))
        (.seq
        (.seq
        (.reg [
          ⟨some 58, none, .fa 5 (.t 10)⟩,
          ⟨some 59, none, .load 1 false (.t 58)⟩,
          ⟨some 60, none, .mov (.t 59)⟩,
          ⟨some 61, some (60, true), .mov (.t 6)⟩,
          ⟨some 62, some (60, true), .nilc (.t 61)⟩,
          ⟨some 63, some (60, true), .fa 1 (.t 62)⟩,
          ⟨some 64, some (60, true), .load 1 false (.t 63)⟩,
          ⟨some 65, some (60, true), .int .add (.t 64) (.c (.int .i64 1))⟩,
          ⟨some 66, some (60, true), .mov (.t 0)⟩,
          ⟨some 67, some (60, true), .lenS (.t 66)⟩,
          ⟨some 68, some (60, true), .int .lss (.t 65) (.t 67)⟩,
          ⟨some 69, none, .pick (.t 60) (.t 68) (.c (.bool false))⟩,
          ⟨some 70, none, .mov (.t 69)⟩,
          ⟨some 71, some (70, true), .mov (.t 0)⟩,
          ⟨some 72, some (70, true), .mov (.t 6)⟩,
          ⟨some 73, some (70, true), .nilc (.t 72)⟩,
          ⟨some 74, some (70, true), .fa 1 (.t 73)⟩,
          ⟨some 75, some (70, true), .load 1 false (.t 74)⟩,
          ⟨some 76, some (70, true), .idx (.t 71) (.t 75)⟩,
          ⟨some 77, some (70, true), .int .eql (.t 76) (.c (.int .u8 45))⟩,
          ⟨some 78, none, .pick (.t 70) (.t 77) (.c (.bool false))⟩,
          ⟨some 79, none, .mov (.t 78)⟩,
          ⟨some 80, some (79, true), .mov (.t 0)⟩,
          ⟨some 81, some (79, true), .mov (.t 6)⟩,
          ⟨some 82, some (79, true), .nilc (.t 81)⟩,
          ⟨some 83, some (79, true), .fa 1 (.t 82)⟩,
          ⟨some 84, some (79, true), .load 1 false (.t 83)⟩,
          ⟨some 85, some (79, true), .int .add (.t 84) (.c (.int .i64 1))⟩,
          ⟨some 86, some (79, true), .idx (.t 80) (.t 85)⟩,
          ⟨some 87, some (79, true), .int .neq (.t 86) (.c (.int .u8 93))⟩,
          ⟨some 88, none, .pick (.t 79) (.t 87) (.c (.bool false))⟩])
        (.cond (.t 88)
          (.seq
          (.reg [
            ⟨some 89, none, .mov (.t 6)⟩,
            ⟨some 90, none, .nilc (.t 89)⟩,
            ⟨some 91, none, .fa 1 (.t 90)⟩,
            ⟨some 92, none, .load 1 false (.t 91)⟩,
            ⟨some 93, none, .int .add (.t 92) (.c (.int .i64 1))⟩,
            ⟨some 94, none, .nilc (.t 89)⟩,
            ⟨some 95, none, .fa 1 (.t 94)⟩,
            ⟨none, none, .store 1 (.t 95) (.t 93)⟩])
          (.seq
          (.reg [
            ⟨some 96, none, .mov (.t 6)⟩,
            ⟨some 97, none, .nilc (.t 96)⟩,
            ⟨some 98, none, .fa 1 (.t 97)⟩,
            ⟨some 99, none, .load 1 false (.t 98)⟩,
            ⟨some 11, none, .mov (.t 99)⟩])
          (.seq
          (.reg [
            ⟨some 100, none, .mov (.t 6)⟩,
            ⟨some 101, none, .call (.c (.fn 196 [])) [.t 100]⟩,
            ⟨some 12, none, .box 254 6 (.c (.agg [.int .u64 0, .int .u64 0, .int .u64 0, .int .u64 0, .int .u8 0, .bool false]))⟩,
            ⟨none, none, .store 6 (.t 12) (.t 101)⟩])
          (.seq
          (.seq
          (.reg [
            ⟨some 102, none, .mov (.t 6)⟩,
            ⟨some 103, none, .nilc (.t 102)⟩,
            ⟨some 104, none, .fa 2 (.t 103)⟩,
            ⟨some 105, none, .load 1 false (.t 104)⟩,
            ⟨some 106, none, .int .lss (.t 105) (.c (.int .i64 0))⟩,
            ⟨some 107, none, .mov (.t 106)⟩,
            ⟨some 108, some (107, true), .fa 5 (.t 12)⟩,
            ⟨some 109, some (107, true), .load 1 false (.t 108)⟩,
            ⟨some 110, some (107, true), .not (.t 109)⟩,
            ⟨some 111, some (107, true), .mov (.t 110)⟩,
            ⟨some 112, some (111, false), .fa 4 (.t 12)⟩,
            ⟨some 113, some (111, false), .load 1 false (.t 112)⟩,
            ⟨some 114, some (111, false), .fa 4 (.t 10)⟩,
            ⟨some 115, some (111, false), .load 1 false (.t 114)⟩,
            ⟨some 116, some (111, false), .int .lss (.t 113) (.t 115)⟩,
            ⟨some 117, some (107, true), .pick (.t 111) (.c (.bool true)) (.t 116)⟩,
            ⟨some 118, none, .pick (.t 107) (.t 117) (.c (.bool false))⟩])
          (.cond (.t 118)
            (.reg [
              ⟨some 119, none, .mov (.t 6)⟩,
              ⟨some 120, none, .mov (.t 11)⟩,
              ⟨some 121, none, .call (.c (.fn 197 [])) [.t 119, .t 120]⟩])
            .skip))
          (.reg [
            ⟨some 122, none, .fa 4 (.t 10)⟩,
            ⟨some 123, none, .load 1 false (.t 122)⟩,
            ⟨some 124, none, .fa 4 (.t 12)⟩,
            ⟨some 125, none, .load 1 false (.t 124)⟩,
            ⟨some 126, none, .call (.c (.fn 198 [])) [.t 123, .t 125]⟩,
            ⟨some 127, none, .fa 0 (.t 10)⟩,
            ⟨none, none, .store 4 (.t 127) (.t 126)⟩])))))
          .skip))
        (.seq
        (.seq
        (.reg [
          ⟨some 128, none, .mov (.t 6)⟩,
          ⟨some 129, none, .nilc (.t 128)⟩,
          ⟨some 130, none, .fa 2 (.t 129)⟩,
          ⟨some 131, none, .load 1 false (.t 130)⟩,
          ⟨some 132, none, .int .geq (.t 131) (.c (.int .i64 0))⟩])
        (.cond (.t 132)
          (.exit 0)
          .skip))
        (.reg [
          ⟨some 133, none, .load 4 true (.t 8)⟩,
          ⟨some 134, none, .fa 0 (.t 10)⟩,
          ⟨some 135, none, .load 4 true (.t 134)⟩,
          ⟨some 136, none, .call (.c (.fn 199 [])) [.t 133, .t 135]⟩,
          ⟨none, none, .store 4 (.t 8) (.t 136)⟩]))))))
      (.reg [
        ⟨some 9, none, .mov (.c (.bool false))⟩]))))))
  (.seq
  (.seq
  (.reg [
    ⟨some 137, none, .mov (.t 6)⟩,
    ⟨some 138, none, .nilc (.t 137)⟩,
    ⟨some 139, none, .fa 2 (.t 138)⟩,
    ⟨some 140, none, .load 1 false (.t 139)⟩,
    ⟨some 141, none, .int .geq (.t 140) (.c (.int .i64 0))⟩])
  (.cond (.t 141)
    (.seq
    (.dreg [
      ⟨0, 0, [], 0, ⟨some 142, none, .build [.int .u64 0, .int .u64 0, .int .u64 0, .int .u64 0] []⟩⟩,
      ⟨1, 0, [], 0, ⟨some 143, none, .mov (.t 6)⟩⟩,
      ⟨2, 0, [], 2, ⟨some 144, none, .nilc (.t 143)⟩⟩,
      ⟨3, 0, [], 6, ⟨some 145, none, .fa 2 (.t 144)⟩⟩,
      ⟨4, 0, [], 14, ⟨some 146, none, .load 1 false (.t 145)⟩⟩,
      ⟨5, 1, [1, 2, 3, 4], 1, ⟨none, none, .store 4 (.t 2) (.t 142)⟩⟩,
      ⟨6, 0, [], 33, ⟨some 3, none, .mov (.c (.int .i64 0))⟩⟩,
      ⟨7, 0, [], 97, ⟨some 4, none, .mov (.c (.int .i64 70))⟩⟩,
      ⟨8, 0, [], 255, ⟨some 5, none, .mov (.t 146)⟩⟩])
    .ret)
    .skip))
  (.seq
  (.seq
  (.reg [
    ⟨some 147, none, .mov (.t 7)⟩])
  (.cond (.t 147)
    (.reg [
      ⟨some 148, none, .load 4 true (.t 8)⟩,
      ⟨some 149, none, .call (.c (.fn 192 [])) [.t 148]⟩,
      ⟨none, none, .store 4 (.t 8) (.t 149)⟩])
    .skip))
  (.seq
  (.dreg [
    ⟨0, 0, [], 0, ⟨some 150, none, .load 4 true (.t 8)⟩⟩,
    ⟨1, 0, [], 0, ⟨some 151, none, .mov (.t 6)⟩⟩,
    ⟨2, 0, [], 2, ⟨some 152, none, .nilc (.t 151)⟩⟩,
    ⟨3, 0, [], 6, ⟨some 153, none, .fa 1 (.t 152)⟩⟩,
    ⟨4, 0, [], 14, ⟨some 154, none, .load 1 false (.t 153)⟩⟩,
    ⟨5, 0, [], 30, ⟨some 155, none, .int .add (.t 154) (.c (.int .i64 1))⟩⟩,
    ⟨6, 1, [1, 2, 3, 4, 5], 1, ⟨none, none, .store 4 (.t 2) (.t 150)⟩⟩,
    ⟨7, 0, [], 127, ⟨some 3, none, .mov (.t 155)⟩⟩,
    ⟨8, 0, [], 255, ⟨some 4, none, .mov (.c (.int .i64 0))⟩⟩,
    ⟨9, 0, [], 511, ⟨some 5, none, .mov (.c (.int .i64 0))⟩⟩])
  .ret)))))))))⟩

theorem c190 : chkF Go.Proofs.Tryz.prog Go.Proofs.Tryz.f190 m190 = true := by kernel_rfl

/-- paddock/syntax.one -/
def m191 : MFn := ⟨1, 5, [.cell 2 9 true], 0,
  (.seq
  (.reg [
    ⟨some 1, none, .box 45 4 (.t 0)⟩,
    ⟨some 2, none, .box 48 9 (.c (.agg [.int .u8 0, .int .u64 0, .int .u64 0, .int .u64 0, .int .u64 0, .int .i64 0, .int .i64 0, .int .i64 0, .vs true []]))⟩])
  (.seq
  (.reg [
    ⟨some 3, none, .load 4 true (.t 1)⟩,
    ⟨some 4, none, .build [.int .u8 0, .int .u64 0, .int .u64 0, .int .u64 0, .int .u64 0, .int .i64 0, .int .i64 0, .int .i64 0, .vs true []] [(0, 1, .c (.int .u8 2)), (1, 4, .t 3)]⟩,
    ⟨none, none, .store 9 (.t 2) (.t 4)⟩])
  .ret))⟩

theorem c191 : chkF Go.Proofs.Tryz.prog Go.Proofs.Tryz.f191 m191 = true := by kernel_rfl

/-- paddock/sets.Not -/
def m192 : MFn := ⟨1, 15, [.cell 2 4 true], 0,
  (.seq
  (.reg [
    ⟨some 1, none, .box 45 4 (.t 0)⟩,
    ⟨some 2, none, .box 45 4 (.c (.agg [.int .u64 0, .int .u64 0, .int .u64 0, .int .u64 0]))⟩])
  (.seq
  (.seq
  (.reg [
    ⟨some 4, none, .mov (.c (.int .i64 0))⟩])
  (.block 0
    (.loop
      (.seq
      (.reg [
        ⟨some 5, none, .int .lss (.t 4) (.c (.int .i64 4))⟩])
      (.seq
      (.cond (.t 5)
        .skip
        (.exit 0))
      (.seq
      (.block 1
        (.seq
        (.reg [
          ⟨some 6, none, .mov (.t 4)⟩,
          ⟨some 3, none, .mov (.t 6)⟩])
        (.reg [
          ⟨some 7, none, .mov (.t 3)⟩,
          ⟨some 8, none, .mov (.t 3)⟩,
          ⟨some 9, none, .iaa 1 4 (.t 1) (.t 8)⟩,
          ⟨some 10, none, .load 1 false (.t 9)⟩,
          ⟨some 11, none, .xor (.t 10)⟩,
          ⟨some 12, none, .iaa 1 4 (.t 1) (.t 7)⟩,
          ⟨none, none, .store 1 (.t 12) (.t 11)⟩])))
      (.reg [
        ⟨some 13, none, .int .add (.t 4) (.c (.int .i64 1))⟩,
        ⟨some 4, none, .mov (.t 13)⟩])))))))
  (.seq
  (.reg [
    ⟨some 14, none, .load 4 true (.t 1)⟩,
    ⟨none, none, .store 4 (.t 2) (.t 14)⟩])
  .ret)))⟩

theorem c192 : chkF Go.Proofs.Tryz.prog Go.Proofs.Tryz.f192 m192 = true := by kernel_rfl

/-- (*paddock/syntax.parser).escape -/
def m193 : MFn := ⟨1, 137, [.cell 2 9 true], 0,
  (.seq
  (.reg [
    ⟨some 2, none, .box 48 9 (.c (.agg [.int .u8 0, .int .u64 0, .int .u64 0, .int .u64 0, .int .u64 0, .int .i64 0, .int .i64 0, .int .i64 0, .vs true []]))⟩])
  (.seq
  (.reg [
    ⟨some 9, none, .mov (.t 0)⟩,
    ⟨some 10, none, .nilc (.t 9)⟩,
    ⟨some 11, none, .fa 1 (.t 10)⟩,
    ⟨some 12, none, .load 1 false (.t 11)⟩,
    ⟨some 13, none, .int .add (.t 12) (.c (.int .i64 1))⟩,
    ⟨some 14, none, .nilc (.t 9)⟩,
    ⟨some 15, none, .fa 1 (.t 14)⟩,
    ⟨none, none, .store 1 (.t 15) (.t 13)⟩])
  (.seq
  (.seq
  (.dreg [
    ⟨0, 0, [], 0, ⟨some 16, none, .mov (.t 0)⟩⟩,
    ⟨1, 0, [], 1, ⟨some 17, none, .nilc (.t 16)⟩⟩,
    ⟨2, 0, [], 3, ⟨some 18, none, .fa 1 (.t 17)⟩⟩,
    ⟨3, 0, [], 7, ⟨some 19, none, .load 1 false (.t 18)⟩⟩,
    ⟨4, 0, [], 0, ⟨some 20, none, .mov (.t 0)⟩⟩,
    ⟨5, 0, [], 16, ⟨some 21, none, .nilc (.t 20)⟩⟩,
    ⟨6, 0, [], 48, ⟨some 22, none, .fa 0 (.t 21)⟩⟩,
    ⟨7, 0, [], 112, ⟨some 23, none, .load 1 false (.t 22)⟩⟩,
    ⟨8, 0, [], 240, ⟨some 24, none, .lenS (.t 23)⟩⟩,
    ⟨9, 0, [], 511, ⟨some 25, none, .int .geq (.t 19) (.t 24)⟩⟩])
  (.cond (.t 25)
    (.reg [
      ⟨some 26, none, .mov (.t 0)⟩,
      ⟨some 27, none, .mov (.t 0)⟩,
      ⟨some 28, none, .nilc (.t 27)⟩,
      ⟨some 29, none, .fa 1 (.t 28)⟩,
      ⟨some 30, none, .load 1 false (.t 29)⟩,
      ⟨some 31, none, .call (.c (.fn 161 [])) [.t 26, .c (.int .i64 80), .t 30]⟩])
    .skip))
  (.seq
  (.dreg [
    ⟨0, 0, [], 0, ⟨some 32, none, .mov (.t 0)⟩⟩,
    ⟨1, 0, [], 1, ⟨some 33, none, .nilc (.t 32)⟩⟩,
    ⟨2, 0, [], 3, ⟨some 34, none, .fa 0 (.t 33)⟩⟩,
    ⟨3, 0, [], 7, ⟨some 35, none, .load 1 false (.t 34)⟩⟩,
    ⟨4, 0, [], 0, ⟨some 36, none, .mov (.t 0)⟩⟩,
    ⟨5, 0, [], 16, ⟨some 37, none, .nilc (.t 36)⟩⟩,
    ⟨6, 0, [], 48, ⟨some 38, none, .fa 1 (.t 37)⟩⟩,
    ⟨7, 0, [], 112, ⟨some 39, none, .load 1 false (.t 38)⟩⟩,
    ⟨8, 0, [], 255, ⟨some 40, none, .idx (.t 35) (.t 39)⟩⟩,
    ⟨9, 0, [], 511, ⟨some 3, none, .mov (.t 40)⟩⟩])
  (.seq
  (.reg [
    ⟨some 42, none, .call (.c (.fn 200 [])) [.c (.str [115, 112, 97, 99, 101])]⟩,
    ⟨some 41, none, .mov (.t 42)⟩,
    ⟨some 43, none, .ext (.t 41) 0⟩,
    ⟨some 44, none, .ext (.t 41) 1⟩,
    ⟨some 4, none, .box 45 4 (.c (.agg [.int .u64 0, .int .u64 0, .int .u64 0, .int .u64 0]))⟩,
    ⟨none, none, .store 4 (.t 4) (.t 43)⟩,
    ⟨some 5, none, .mov (.t 44)⟩])
  (.seq
  (.reg [
    ⟨some 45, none, .mov (.t 3)⟩,
    ⟨some 46, none, .bslice [.int .u8 0] 1 [(0, .t 45)]⟩,
    ⟨some 47, none, .call (.c (.fn 194 [])) [.t 46]⟩,
    ⟨some 6, none, .box 45 4 (.c (.agg [.int .u64 0, .int .u64 0, .int .u64 0, .int .u64 0]))⟩,
    ⟨none, none, .store 4 (.t 6) (.t 47)⟩])
  (.seq
  (.reg [
    ⟨some 49, none, .call (.c (.fn 200 [])) [.c (.str [97, 108, 110, 117, 109])]⟩,
    ⟨some 48, none, .mov (.t 49)⟩,
    ⟨some 50, none, .ext (.t 48) 0⟩,
    ⟨some 51, none, .ext (.t 48) 1⟩,
    ⟨some 7, none, .box 45 4 (.c (.agg [.int .u64 0, .int .u64 0, .int .u64 0, .int .u64 0]))⟩,
    ⟨none, none, .store 4 (.t 7) (.t 50)⟩,
    ⟨some 8, none, .mov (.t 51)⟩])
  (.seq
  (.block 0
    (.seq
    (.reg [
      ⟨some 53, none, .mov (.t 3)⟩,
      ⟨some 54, none, .int .eql (.t 53) (.c (.int .u8 110))⟩,
      ⟨some 52, none, .mov (.t 54)⟩])
    (.cond (.t 52)
      (.reg [
        ⟨some 55, none, .bslice [.int .u8 0] 1 [(0, .c (.int .u8 10))]⟩,
        ⟨some 56, none, .call (.c (.fn 194 [])) [.t 55]⟩,
        ⟨none, none, .store 4 (.t 6) (.t 56)⟩])
      (.seq
      (.reg [
        ⟨some 58, none, .mov (.t 3)⟩,
        ⟨some 59, none, .int .eql (.t 58) (.c (.int .u8 116))⟩,
        ⟨some 57, none, .mov (.t 59)⟩])
      (.cond (.t 57)
        (.reg [
          ⟨some 60, none, .bslice [.int .u8 0] 1 [(0, .c (.int .u8 9))]⟩,
          ⟨some 61, none, .call (.c (.fn 194 [])) [.t 60]⟩,
          ⟨none, none, .store 4 (.t 6) (.t 61)⟩])
        (.seq
        (.reg [
          ⟨some 63, none, .mov (.t 3)⟩,
          ⟨some 64, none, .int .eql (.t 63) (.c (.int .u8 119))⟩,
          ⟨some 62, none, .mov (.t 64)⟩])
        (.cond (.t 62)
          (.reg [
            ⟨some 65, none, .call (.c (.fn 201 [])) []⟩,
            ⟨none, none, .store 4 (.t 6) (.t 65)⟩])
          (.seq
          (.reg [
            ⟨some 67, none, .mov (.t 3)⟩,
            ⟨some 68, none, .int .eql (.t 67) (.c (.int .u8 87))⟩,
            ⟨some 66, none, .mov (.t 68)⟩])
          (.cond (.t 66)
            (.reg [
              ⟨some 69, none, .call (.c (.fn 201 [])) []⟩,
              ⟨some 70, none, .call (.c (.fn 192 [])) [.t 69]⟩,
              ⟨none, none, .store 4 (.t 6) (.t 70)⟩])
            (.seq
            (.reg [
              ⟨some 72, none, .mov (.t 3)⟩,
              ⟨some 73, none, .int .eql (.t 72) (.c (.int .u8 115))⟩,
              ⟨some 71, none, .mov (.t 73)⟩])
            (.cond (.t 71)
              (.reg [
                ⟨some 74, none, .load 4 true (.t 4)⟩,
                ⟨none, none, .store 4 (.t 6) (.t 74)⟩])
              (.seq
              (.reg [
                ⟨some 76, none, .mov (.t 3)⟩,
                ⟨some 77, none, .int .eql (.t 76) (.c (.int .u8 83))⟩,
                ⟨some 75, none, .mov (.t 77)⟩])
              (.cond (.t 75)
                (.reg [
                  ⟨some 78, none, .load 4 true (.t 4)⟩,
                  ⟨some 79, none, .call (.c (.fn 192 [])) [.t 78]⟩,
                  ⟨none, none, .store 4 (.t 6) (.t 79)⟩])
                (.seq
                (.reg [
                  ⟨some 81, none, .mov (.t 3)⟩,
                  ⟨some 82, none, .int .geq (.t 81) (.c (.int .u8 49))⟩,
                  ⟨some 83, none, .mov (.t 82)⟩,
                  ⟨some 84, some (83, true), .mov (.t 3)⟩,
                  ⟨some 85, some (83, true), .int .leq (.t 84) (.c (.int .u8 57))⟩,
                  ⟨some 86, none, .pick (.t 83) (.t 85) (.c (.bool false))⟩,
                  ⟨some 87, none, .mov (.t 86)⟩,
                  ⟨some 88, some (87, true), .mov (.t 0)⟩,
                  ⟨some 89, some (87, true), .nilc (.t 88)⟩,
                  ⟨some 90, some (87, true), .fa 4 (.t 89)⟩,
                  ⟨some 91, some (87, true), .load 1 false (.t 90)⟩,
                  ⟨some 92, some (87, true), .mov (.t 3)⟩,
                  ⟨some 93, some (87, true), .int .sub (.t 92) (.c (.int .u8 48))⟩,
                  ⟨some 94, some (87, true), .conv .i64 (.t 93)⟩,
                  ⟨some 95, some (87, true), .mget false (.bool false) false (.t 91) (.t 94)⟩,
                  ⟨some 96, none, .pick (.t 87) (.t 95) (.c (.bool false))⟩,
                  ⟨some 80, none, .mov (.t 96)⟩])
                (.cond (.t 80)
                  (.seq
                  (.reg [
                    ⟨some 97, none, .mov (.t 0)⟩,
                    ⟨some 98, none, .nilc (.t 97)⟩,
                    ⟨some 99, none, .fa 1 (.t 98)⟩,
                    ⟨some 100, none, .load 1 false (.t 99)⟩,
                    ⟨some 101, none, .int .add (.t 100) (.c (.int .i64 1))⟩,
                    ⟨some 102, none, .nilc (.t 97)⟩,
                    ⟨some 103, none, .fa 1 (.t 102)⟩,
                    ⟨none, none, .store 1 (.t 103) (.t 101)⟩])
                  (.seq
                  (.reg [
                    ⟨some 104, none, .mov (.t 3)⟩,
                    ⟨some 105, none, .int .sub (.t 104) (.c (.int .u8 48))⟩,
                    ⟨some 106, none, .conv .i64 (.t 105)⟩,
                    ⟨some 107, none, .build [.int .u8 0, .int .u64 0, .int .u64 0, .int .u64 0, .int .u64 0, .int .i64 0, .int .i64 0, .int .i64 0, .vs true []] [(0, 1, .c (.int .u8 7)), (7, 1, .t 106)]⟩,
                    ⟨none, none, .store 9 (.t 2) (.t 107)⟩])
                  .ret))
                  (.seq
                  (.seq
                  (.reg [
                    ⟨some 109, none, .load 4 true (.t 7)⟩,
                    ⟨some 110, none, .mov (.t 3)⟩,
                    ⟨some 111, none, .call (.c (.fn 202 [])) [.t 109, .t 110]⟩,
                    ⟨some 108, none, .mov (.t 111)⟩])
                  (.cond (.t 108)
                    .skip
                    (.reg [
                      ⟨some 112, none, .mov (.t 0)⟩,
                      ⟨some 113, none, .nilc (.t 112)⟩,
                      ⟨some 114, none, .fa 2 (.t 113)⟩,
                      ⟨some 115, none, .load 1 false (.t 114)⟩,
                      ⟨some 116, none, .not (.t 115)⟩,
                      ⟨some 117, none, .mov (.t 116)⟩,
                      ⟨some 118, some (117, true), .mov (.t 3)⟩,
                      ⟨some 119, some (117, true), .call (.c (.fn 51 [])) [.c (.str [40, 41, 123, 125, 124, 43, 63]), .t 118]⟩,
                      ⟨some 120, some (117, true), .int .geq (.t 119) (.c (.int .i64 0))⟩,
                      ⟨some 121, none, .pick (.t 117) (.t 120) (.c (.bool false))⟩,
                      ⟨some 108, none, .mov (.t 121)⟩])))
                  (.cond (.t 108)
                    (.reg [
                      ⟨some 122, none, .mov (.t 0)⟩,
                      ⟨some 123, none, .mov (.t 0)⟩,
                      ⟨some 124, none, .nilc (.t 123)⟩,
                      ⟨some 125, none, .fa 1 (.t 124)⟩,
                      ⟨some 126, none, .load 1 false (.t 125)⟩,
                      ⟨some 127, none, .call (.c (.fn 161 [])) [.t 122, .c (.int .i64 80), .t 126]⟩])
                    .skip)))))))))))))))))
  (.seq
  (.reg [
    ⟨some 128, none, .mov (.t 0)⟩,
    ⟨some 129, none, .nilc (.t 128)⟩,
    ⟨some 130, none, .fa 1 (.t 129)⟩,
    ⟨some 131, none, .load 1 false (.t 130)⟩,
    ⟨some 132, none, .int .add (.t 131) (.c (.int .i64 1))⟩,
    ⟨some 133, none, .nilc (.t 128)⟩,
    ⟨some 134, none, .fa 1 (.t 133)⟩,
    ⟨none, none, .store 1 (.t 134) (.t 132)⟩])
  (.seq
  (.reg [
    ⟨some 135, none, .load 4 true (.t 6)⟩,
    ⟨some 136, none, .call (.c (.fn 191 [])) [.t 135]⟩,
    ⟨none, none, .store 9 (.t 2) (.t 136)⟩])
  .ret))))))))))⟩

theorem c193 : chkF Go.Proofs.Tryz.prog Go.Proofs.Tryz.f193 m193 = true := by kernel_rfl

/-- paddock/sets.Of -/
def m194 : MFn := ⟨1, 17, [.cell 2 4 true], 0,
  (.seq
  (.reg [
    ⟨some 2, none, .box 45 4 (.c (.agg [.int .u64 0, .int .u64 0, .int .u64 0, .int .u64 0]))⟩])
  (.seq
  (.reg [
    ⟨some 3, none, .box 45 4 (.c (.agg [.int .u64 0, .int .u64 0, .int .u64 0, .int .u64 0]))⟩])
  (.seq
  (.seq
  (.reg [
    ⟨some 6, none, .mov (.t 0)⟩,
    ⟨some 7, none, .lenL (.t 6)⟩,
    ⟨some 8, none, .mov (.c (.int .i64 0))⟩])
  (.block 0
    (.loop
      (.seq
      (.reg [
        ⟨some 9, none, .int .lss (.t 8) (.t 7)⟩])
      (.seq
      (.cond (.t 9)
        .skip
        (.exit 0))
      (.seq
      (.block 1
        (.seq
        (.reg [
          ⟨some 10, none, .ia 1 (.t 6) (.t 8)⟩,
          ⟨some 11, none, .load 1 false (.t 10)⟩,
          ⟨some 5, none, .mov (.t 11)⟩])
        (.reg [
          ⟨some 12, none, .load 4 true (.t 3)⟩,
          ⟨some 13, none, .mov (.t 5)⟩,
          ⟨some 14, none, .call (.c (.fn 203 [])) [.t 12, .t 13]⟩,
          ⟨none, none, .store 4 (.t 3) (.t 14)⟩])))
      (.reg [
        ⟨some 15, none, .int .add (.t 8) (.c (.int .i64 1))⟩,
        ⟨some 8, none, .mov (.t 15)⟩])))))))
  (.seq
  (.reg [
    ⟨some 16, none, .load 4 true (.t 3)⟩,
    ⟨none, none, .store 4 (.t 2) (.t 16)⟩])
  .ret))))⟩

theorem c194 : chkF Go.Proofs.Tryz.prog Go.Proofs.Tryz.f194 m194 = true := by kernel_rfl

/-- (*paddock/syntax.parser).numbers -/
def m195 : MFn := ⟨1, 118, [.tmp 2, .tmp 3], 0,
  (.seq
  (.reg [
    ⟨some 2, none, .mov (.c (.int .i64 0))⟩,
    ⟨some 3, none, .mov (.c (.int .i64 0))⟩])
  (.seq
  (.reg [
    ⟨some 6, none, .mov (.t 0)⟩,
    ⟨some 7, none, .call (.c (.fn 204 [])) [.t 6]⟩,
    ⟨some 4, none, .mov (.t 7)⟩])
  (.seq
  (.reg [
    ⟨some 8, none, .mov (.t 4)⟩,
    ⟨some 5, none, .mov (.t 8)⟩])
  (.seq
  (.seq
  (.dreg [
    ⟨0, 0, [], 0, ⟨some 9, none, .mov (.t 0)⟩⟩,
    ⟨1, 0, [], 1, ⟨some 10, none, .nilc (.t 9)⟩⟩,
    ⟨2, 0, [], 3, ⟨some 11, none, .fa 1 (.t 10)⟩⟩,
    ⟨3, 0, [], 7, ⟨some 12, none, .load 1 false (.t 11)⟩⟩,
    ⟨4, 0, [], 0, ⟨some 13, none, .mov (.t 0)⟩⟩,
    ⟨5, 0, [], 16, ⟨some 14, none, .nilc (.t 13)⟩⟩,
    ⟨6, 0, [], 48, ⟨some 15, none, .fa 0 (.t 14)⟩⟩,
    ⟨7, 0, [], 112, ⟨some 16, none, .load 1 false (.t 15)⟩⟩,
    ⟨8, 0, [], 240, ⟨some 17, none, .lenS (.t 16)⟩⟩,
    ⟨9, 0, [], 511, ⟨some 18, none, .int .lss (.t 12) (.t 17)⟩⟩,
    ⟨10, 0, [], 1023, ⟨some 19, none, .mov (.t 18)⟩⟩,
    ⟨11, 0, [], 2047, ⟨some 20, some (19, true), .mov (.t 0)⟩⟩,
    ⟨12, 0, [], 4095, ⟨some 21, some (19, true), .nilc (.t 20)⟩⟩,
    ⟨13, 0, [], 8191, ⟨some 22, some (19, true), .fa 0 (.t 21)⟩⟩,
    ⟨14, 0, [], 16383, ⟨some 23, some (19, true), .load 1 false (.t 22)⟩⟩,
    ⟨15, 0, [], 2047, ⟨some 24, some (19, true), .mov (.t 0)⟩⟩,
    ⟨16, 0, [], 34815, ⟨some 25, some (19, true), .nilc (.t 24)⟩⟩,
    ⟨17, 0, [], 100351, ⟨some 26, some (19, true), .fa 1 (.t 25)⟩⟩,
    ⟨18, 0, [], 231423, ⟨some 27, some (19, true), .load 1 false (.t 26)⟩⟩,
    ⟨19, 0, [], 524287, ⟨some 28, some (19, true), .idx (.t 23) (.t 27)⟩⟩,
    ⟨20, 0, [], 1048575, ⟨some 29, some (19, true), .int .eql (.t 28) (.c (.int .u8 44))⟩⟩,
    ⟨21, 0, [], 2097151, ⟨some 30, none, .pick (.t 19) (.t 29) (.c (.bool false))⟩⟩])
  (.cond (.t 30)
    (.seq
    (.reg [
      ⟨some 31, none, .mov (.t 0)⟩,
      ⟨some 32, none, .nilc (.t 31)⟩,
      ⟨some 33, none, .fa 1 (.t 32)⟩,
      ⟨some 34, none, .load 1 false (.t 33)⟩,
      ⟨some 35, none, .int .add (.t 34) (.c (.int .i64 1))⟩,
      ⟨some 36, none, .nilc (.t 31)⟩,
      ⟨some 37, none, .fa 1 (.t 36)⟩,
      ⟨none, none, .store 1 (.t 37) (.t 35)⟩])
    (.seq
    (.reg [
      ⟨some 5, none, .mov (.c (.int .i64 (-1)))⟩])
    (.seq
    (.reg [
      ⟨some 38, none, .mov (.t 0)⟩,
      ⟨some 39, none, .call (.c (.fn 205 [])) [.t 38]⟩])
    (.cond (.t 39)
      (.reg [
        ⟨some 40, none, .mov (.t 0)⟩,
        ⟨some 41, none, .call (.c (.fn 204 [])) [.t 40]⟩,
        ⟨some 5, none, .mov (.t 41)⟩])
      .skip))))
    .skip))
  (.seq
  (.seq
  (.reg [
    ⟨some 42, none, .mov (.t 0)⟩,
    ⟨some 43, none, .call (.c (.fn 176 [])) [.t 42, .c (.int .u8 125)]⟩,
    ⟨some 44, none, .not (.t 43)⟩])
  (.cond (.t 44)
    (.seq
    (.seq
    (.dreg [
      ⟨0, 0, [], 0, ⟨some 45, none, .mov (.t 0)⟩⟩,
      ⟨1, 0, [], 1, ⟨some 46, none, .nilc (.t 45)⟩⟩,
      ⟨2, 0, [], 3, ⟨some 47, none, .fa 2 (.t 46)⟩⟩,
      ⟨3, 0, [], 7, ⟨some 48, none, .load 1 false (.t 47)⟩⟩,
      ⟨4, 0, [], 15, ⟨some 49, none, .not (.t 48)⟩⟩,
      ⟨5, 0, [], 31, ⟨some 50, none, .mov (.t 49)⟩⟩,
      ⟨6, 0, [], 63, ⟨some 51, some (50, true), .mov (.t 0)⟩⟩,
      ⟨7, 0, [], 127, ⟨some 52, some (50, true), .nilc (.t 51)⟩⟩,
      ⟨8, 0, [], 255, ⟨some 53, some (50, true), .fa 1 (.t 52)⟩⟩,
      ⟨9, 0, [], 511, ⟨some 54, some (50, true), .load 1 false (.t 53)⟩⟩,
      ⟨10, 0, [], 63, ⟨some 55, some (50, true), .mov (.t 0)⟩⟩,
      ⟨11, 0, [], 1087, ⟨some 56, some (50, true), .nilc (.t 55)⟩⟩,
      ⟨12, 0, [], 3135, ⟨some 57, some (50, true), .fa 0 (.t 56)⟩⟩,
      ⟨13, 0, [], 7231, ⟨some 58, some (50, true), .load 1 false (.t 57)⟩⟩,
      ⟨14, 0, [], 15423, ⟨some 59, some (50, true), .lenS (.t 58)⟩⟩,
      ⟨15, 0, [], 32767, ⟨some 60, some (50, true), .int .lss (.t 54) (.t 59)⟩⟩,
      ⟨16, 0, [], 65535, ⟨some 61, none, .pick (.t 50) (.t 60) (.c (.bool false))⟩⟩,
      ⟨17, 0, [], 131071, ⟨some 62, none, .mov (.t 61)⟩⟩,
      ⟨18, 0, [], 262143, ⟨some 63, some (62, true), .mov (.t 0)⟩⟩,
      ⟨19, 0, [], 524287, ⟨some 64, some (62, true), .nilc (.t 63)⟩⟩,
      ⟨20, 0, [], 1048575, ⟨some 65, some (62, true), .fa 0 (.t 64)⟩⟩,
      ⟨21, 0, [], 2097151, ⟨some 66, some (62, true), .load 1 false (.t 65)⟩⟩,
      ⟨22, 0, [], 262143, ⟨some 67, some (62, true), .mov (.t 0)⟩⟩,
      ⟨23, 0, [], 4456447, ⟨some 68, some (62, true), .nilc (.t 67)⟩⟩,
      ⟨24, 0, [], 12845055, ⟨some 69, some (62, true), .fa 1 (.t 68)⟩⟩,
      ⟨25, 0, [], 29622271, ⟨some 70, some (62, true), .load 1 false (.t 69)⟩⟩,
      ⟨26, 0, [], 67108863, ⟨some 71, some (62, true), .idx (.t 66) (.t 70)⟩⟩,
      ⟨27, 0, [], 134217727, ⟨some 72, some (62, true), .int .eql (.t 71) (.c (.int .u8 92))⟩⟩,
      ⟨28, 0, [], 268435455, ⟨some 73, none, .pick (.t 62) (.t 72) (.c (.bool false))⟩⟩])
    (.cond (.t 73)
      (.seq
      (.reg [
        ⟨some 74, none, .mov (.t 0)⟩,
        ⟨some 75, none, .nilc (.t 74)⟩,
        ⟨some 76, none, .fa 1 (.t 75)⟩,
        ⟨some 77, none, .load 1 false (.t 76)⟩,
        ⟨some 78, none, .int .add (.t 77) (.c (.int .i64 1))⟩,
        ⟨some 79, none, .nilc (.t 74)⟩,
        ⟨some 80, none, .fa 1 (.t 79)⟩,
        ⟨none, none, .store 1 (.t 80) (.t 78)⟩])
      (.seq
      (.reg [
        ⟨some 81, none, .mov (.t 5)⟩,
        ⟨some 82, none, .int .geq (.t 81) (.c (.int .i64 0))⟩,
        ⟨some 83, none, .mov (.t 82)⟩,
        ⟨some 84, some (83, true), .mov (.t 5)⟩,
        ⟨some 85, some (83, true), .mov (.t 4)⟩,
        ⟨some 86, some (83, true), .int .lss (.t 84) (.t 85)⟩,
        ⟨some 87, none, .pick (.t 83) (.t 86) (.c (.bool false))⟩])
      (.cond (.t 87)
        (.reg [
          ⟨some 88, none, .mov (.t 0)⟩,
          ⟨some 89, none, .nilc (.t 88)⟩,
          ⟨some 90, none, .fa 1 (.t 89)⟩,
          ⟨some 91, none, .load 1 false (.t 90)⟩,
          ⟨some 92, none, .int .sub (.t 91) (.c (.int .i64 1))⟩,
          ⟨some 93, none, .nilc (.t 88)⟩,
          ⟨some 94, none, .fa 1 (.t 93)⟩,
          ⟨none, none, .store 1 (.t 94) (.t 92)⟩])
        .skip)))
      .skip))
    (.reg [
      ⟨some 95, none, .mov (.t 0)⟩,
      ⟨some 96, none, .mov (.t 0)⟩,
      ⟨some 97, none, .nilc (.t 96)⟩,
      ⟨some 98, none, .fa 1 (.t 97)⟩,
      ⟨some 99, none, .load 1 false (.t 98)⟩,
      ⟨some 100, none, .call (.c (.fn 161 [])) [.t 95, .c (.int .i64 80), .t 99]⟩]))
    .skip))
  (.seq
  (.seq
  (.reg [
    ⟨some 101, none, .mov (.t 5)⟩,
    ⟨some 102, none, .int .geq (.t 101) (.c (.int .i64 0))⟩,
    ⟨some 103, none, .mov (.t 102)⟩,
    ⟨some 104, some (103, true), .mov (.t 5)⟩,
    ⟨some 105, some (103, true), .mov (.t 4)⟩,
    ⟨some 106, some (103, true), .int .lss (.t 104) (.t 105)⟩,
    ⟨some 107, none, .pick (.t 103) (.t 106) (.c (.bool false))⟩])
  (.cond (.t 107)
    (.reg [
      ⟨some 108, none, .mov (.t 0)⟩,
      ⟨some 109, none, .mov (.t 0)⟩,
      ⟨some 110, none, .nilc (.t 109)⟩,
      ⟨some 111, none, .fa 1 (.t 110)⟩,
      ⟨some 112, none, .load 1 false (.t 111)⟩,
      ⟨some 113, none, .call (.c (.fn 161 [])) [.t 108, .c (.int .i64 80), .t 112]⟩])
    .skip))
  (.seq
  (.reg [
    ⟨some 114, none, .mov (.t 0)⟩,
    ⟨some 115, none, .call (.c (.fn 177 [])) [.t 114]⟩])
  (.seq
  (.reg [
    ⟨some 116, none, .mov (.t 4)⟩,
    ⟨some 117, none, .mov (.t 5)⟩,
    ⟨some 2, none, .mov (.t 116)⟩,
    ⟨some 3, none, .mov (.t 117)⟩])
  .ret))))))))⟩

theorem c195 : chkF Go.Proofs.Tryz.prog Go.Proofs.Tryz.f195 m195 = true := by kernel_rfl

/-- (*paddock/sets.reader).item -/
def m196 : MFn := ⟨1, 131, [.cell 2 6 true], 0,
  (.seq
  (.reg [
    ⟨some 2, none, .box 254 6 (.c (.agg [.int .u64 0, .int .u64 0, .int .u64 0, .int .u64 0, .int .u8 0, .bool false]))⟩])
  (.seq
  (.seq
  (.dreg [
    ⟨0, 0, [], 0, ⟨some 4, none, .mov (.t 0)⟩⟩,
    ⟨1, 0, [], 1, ⟨some 5, none, .nilc (.t 4)⟩⟩,
    ⟨2, 0, [], 3, ⟨some 6, none, .fa 1 (.t 5)⟩⟩,
    ⟨3, 0, [], 7, ⟨some 7, none, .load 1 false (.t 6)⟩⟩,
    ⟨4, 0, [], 0, ⟨some 8, none, .mov (.t 0)⟩⟩,
    ⟨5, 0, [], 16, ⟨some 9, none, .nilc (.t 8)⟩⟩,
    ⟨6, 0, [], 48, ⟨some 10, none, .fa 0 (.t 9)⟩⟩,
    ⟨7, 0, [], 112, ⟨some 11, none, .load 1 false (.t 10)⟩⟩,
    ⟨8, 0, [], 240, ⟨some 12, none, .lenS (.t 11)⟩⟩,
    ⟨9, 0, [], 511, ⟨some 13, none, .int .geq (.t 7) (.t 12)⟩⟩])
  (.cond (.t 13)
    (.seq
    (.reg [
      ⟨some 14, none, .mov (.t 0)⟩,
      ⟨some 15, none, .mov (.t 0)⟩,
      ⟨some 16, none, .nilc (.t 15)⟩,
      ⟨some 17, none, .fa 0 (.t 16)⟩,
      ⟨some 18, none, .load 1 false (.t 17)⟩,
      ⟨some 19, none, .lenS (.t 18)⟩,
      ⟨some 20, none, .call (.c (.fn 197 [])) [.t 14, .t 19]⟩,
      ⟨none, none, .store 6 (.t 2) (.t 20)⟩])
    .ret)
    .skip))
  (.seq
  (.dreg [
    ⟨0, 0, [], 0, ⟨some 21, none, .mov (.t 0)⟩⟩,
    ⟨1, 0, [], 1, ⟨some 22, none, .nilc (.t 21)⟩⟩,
    ⟨2, 0, [], 3, ⟨some 23, none, .fa 0 (.t 22)⟩⟩,
    ⟨3, 0, [], 7, ⟨some 24, none, .load 1 false (.t 23)⟩⟩,
    ⟨4, 0, [], 0, ⟨some 25, none, .mov (.t 0)⟩⟩,
    ⟨5, 0, [], 16, ⟨some 26, none, .nilc (.t 25)⟩⟩,
    ⟨6, 0, [], 48, ⟨some 27, none, .fa 1 (.t 26)⟩⟩,
    ⟨7, 0, [], 112, ⟨some 28, none, .load 1 false (.t 27)⟩⟩,
    ⟨8, 0, [], 255, ⟨some 29, none, .idx (.t 24) (.t 28)⟩⟩,
    ⟨9, 0, [], 511, ⟨some 3, none, .mov (.t 29)⟩⟩])
  (.seq
  (.seq
  (.dreg [
    ⟨0, 0, [], 0, ⟨some 30, none, .mov (.t 3)⟩⟩,
    ⟨1, 0, [], 1, ⟨some 31, none, .int .eql (.t 30) (.c (.int .u8 91))⟩⟩,
    ⟨2, 0, [], 3, ⟨some 32, none, .mov (.t 31)⟩⟩,
    ⟨3, 0, [], 7, ⟨some 33, some (32, true), .mov (.t 0)⟩⟩,
    ⟨4, 0, [], 15, ⟨some 34, some (32, true), .nilc (.t 33)⟩⟩,
    ⟨5, 0, [], 31, ⟨some 35, some (32, true), .fa 1 (.t 34)⟩⟩,
    ⟨6, 0, [], 63, ⟨some 36, some (32, true), .load 1 false (.t 35)⟩⟩,
    ⟨7, 0, [], 127, ⟨some 37, some (32, true), .int .add (.t 36) (.c (.int .i64 1))⟩⟩,
    ⟨8, 0, [], 7, ⟨some 38, some (32, true), .mov (.t 0)⟩⟩,
    ⟨9, 0, [], 263, ⟨some 39, some (32, true), .nilc (.t 38)⟩⟩,
    ⟨10, 0, [], 775, ⟨some 40, some (32, true), .fa 0 (.t 39)⟩⟩,
    ⟨11, 0, [], 1799, ⟨some 41, some (32, true), .load 1 false (.t 40)⟩⟩,
    ⟨12, 0, [], 3847, ⟨some 42, some (32, true), .lenS (.t 41)⟩⟩,
    ⟨13, 0, [], 8191, ⟨some 43, some (32, true), .int .lss (.t 37) (.t 42)⟩⟩,
    ⟨14, 0, [], 16383, ⟨some 44, none, .pick (.t 32) (.t 43) (.c (.bool false))⟩⟩,
    ⟨15, 0, [], 32767, ⟨some 45, none, .mov (.t 44)⟩⟩,
    ⟨16, 0, [], 65535, ⟨some 46, some (45, true), .mov (.t 0)⟩⟩,
    ⟨17, 0, [], 131071, ⟨some 47, some (45, true), .nilc (.t 46)⟩⟩,
    ⟨18, 0, [], 262143, ⟨some 48, some (45, true), .fa 0 (.t 47)⟩⟩,
    ⟨19, 0, [], 524287, ⟨some 49, some (45, true), .load 1 false (.t 48)⟩⟩,
    ⟨20, 0, [], 65535, ⟨some 50, some (45, true), .mov (.t 0)⟩⟩,
    ⟨21, 0, [], 1114111, ⟨some 51, some (45, true), .nilc (.t 50)⟩⟩,
    ⟨22, 0, [], 3211263, ⟨some 52, some (45, true), .fa 1 (.t 51)⟩⟩,
    ⟨23, 0, [], 7405567, ⟨some 53, some (45, true), .load 1 false (.t 52)⟩⟩,
    ⟨24, 0, [], 15794175, ⟨some 54, some (45, true), .int .add (.t 53) (.c (.int .i64 1))⟩⟩,
    ⟨25, 0, [], 33554431, ⟨some 55, some (45, true), .idx (.t 49) (.t 54)⟩⟩,
    ⟨26, 0, [], 67108863, ⟨some 56, some (45, true), .int .eql (.t 55) (.c (.int .u8 58))⟩⟩,
    ⟨27, 0, [], 134217727, ⟨some 57, some (45, true), .mov (.t 56)⟩⟩,
    ⟨28, 0, [], 268435455, ⟨some 58, some (57, false), .mov (.t 0)⟩⟩,
    ⟨29, 0, [], 536870911, ⟨some 59, some (57, false), .nilc (.t 58)⟩⟩,
    ⟨30, 0, [], 1073741823, ⟨some 60, some (57, false), .fa 0 (.t 59)⟩⟩,
    ⟨31, 0, [], 2147483647, ⟨some 61, some (57, false), .load 1 false (.t 60)⟩⟩,
    ⟨32, 0, [], 268435455, ⟨some 62, some (57, false), .mov (.t 0)⟩⟩,
    ⟨33, 0, [], 4563402751, ⟨some 63, some (57, false), .nilc (.t 62)⟩⟩,
    ⟨34, 0, [], 13153337343, ⟨some 64, some (57, false), .fa 1 (.t 63)⟩⟩,
    ⟨35, 0, [], 30333206527, ⟨some 65, some (57, false), .load 1 false (.t 64)⟩⟩,
    ⟨36, 0, [], 64692944895, ⟨some 66, some (57, false), .int .add (.t 65) (.c (.int .i64 1))⟩⟩,
    ⟨37, 0, [], 137438953471, ⟨some 67, some (57, false), .idx (.t 61) (.t 66)⟩⟩,
    ⟨38, 0, [], 274877906943, ⟨some 68, some (57, false), .int .eql (.t 67) (.c (.int .u8 61))⟩⟩,
    ⟨39, 0, [], 549755813887, ⟨some 69, some (45, true), .pick (.t 57) (.c (.bool true)) (.t 68)⟩⟩,
    ⟨40, 0, [], 1099511627775, ⟨some 70, some (45, true), .mov (.t 69)⟩⟩,
    ⟨41, 0, [], 2199023255551, ⟨some 71, some (70, false), .mov (.t 0)⟩⟩,
    ⟨42, 0, [], 4398046511103, ⟨some 72, some (70, false), .nilc (.t 71)⟩⟩,
    ⟨43, 0, [], 8796093022207, ⟨some 73, some (70, false), .fa 0 (.t 72)⟩⟩,
    ⟨44, 0, [], 17592186044415, ⟨some 74, some (70, false), .load 1 false (.t 73)⟩⟩,
    ⟨45, 0, [], 2199023255551, ⟨some 75, some (70, false), .mov (.t 0)⟩⟩,
    ⟨46, 0, [], 37383395344383, ⟨some 76, some (70, false), .nilc (.t 75)⟩⟩,
    ⟨47, 0, [], 107752139522047, ⟨some 77, some (70, false), .fa 1 (.t 76)⟩⟩,
    ⟨48, 0, [], 248489627877375, ⟨some 78, some (70, false), .load 1 false (.t 77)⟩⟩,
    ⟨49, 0, [], 529964604588031, ⟨some 79, some (70, false), .int .add (.t 78) (.c (.int .i64 1))⟩⟩,
    ⟨50, 0, [], 1125899906842623, ⟨some 80, some (70, false), .idx (.t 74) (.t 79)⟩⟩,
    ⟨51, 0, [], 2251799813685247, ⟨some 81, some (70, false), .int .eql (.t 80) (.c (.int .u8 46))⟩⟩,
    ⟨52, 0, [], 4503599627370495, ⟨some 82, some (45, true), .pick (.t 70) (.c (.bool true)) (.t 81)⟩⟩,
    ⟨53, 0, [], 9007199254740991, ⟨some 83, none, .pick (.t 45) (.t 82) (.c (.bool false))⟩⟩])
  (.cond (.t 83)
    (.seq
    (.reg [
      ⟨some 84, none, .mov (.t 0)⟩,
      ⟨some 85, none, .call (.c (.fn 206 [])) [.t 84]⟩,
      ⟨none, none, .store 6 (.t 2) (.t 85)⟩])
    .ret)
    .skip))
  (.seq
  (.reg [
    ⟨some 86, none, .mov (.t 0)⟩,
    ⟨some 87, none, .nilc (.t 86)⟩,
    ⟨some 88, none, .fa 1 (.t 87)⟩,
    ⟨some 89, none, .load 1 false (.t 88)⟩,
    ⟨some 90, none, .int .add (.t 89) (.c (.int .i64 1))⟩,
    ⟨some 91, none, .nilc (.t 86)⟩,
    ⟨some 92, none, .fa 1 (.t 91)⟩,
    ⟨none, none, .store 1 (.t 92) (.t 90)⟩])
  (.seq
  (.seq
  (.dreg [
    ⟨0, 0, [], 0, ⟨some 93, none, .mov (.t 3)⟩⟩,
    ⟨1, 0, [], 1, ⟨some 94, none, .int .eql (.t 93) (.c (.int .u8 92))⟩⟩,
    ⟨2, 0, [], 3, ⟨some 95, none, .mov (.t 94)⟩⟩,
    ⟨3, 0, [], 7, ⟨some 96, some (95, true), .mov (.t 0)⟩⟩,
    ⟨4, 0, [], 15, ⟨some 97, some (95, true), .nilc (.t 96)⟩⟩,
    ⟨5, 0, [], 31, ⟨some 98, some (95, true), .fa 1 (.t 97)⟩⟩,
    ⟨6, 0, [], 63, ⟨some 99, some (95, true), .load 1 false (.t 98)⟩⟩,
    ⟨7, 0, [], 7, ⟨some 100, some (95, true), .mov (.t 0)⟩⟩,
    ⟨8, 0, [], 135, ⟨some 101, some (95, true), .nilc (.t 100)⟩⟩,
    ⟨9, 0, [], 391, ⟨some 102, some (95, true), .fa 0 (.t 101)⟩⟩,
    ⟨10, 0, [], 903, ⟨some 103, some (95, true), .load 1 false (.t 102)⟩⟩,
    ⟨11, 0, [], 1927, ⟨some 104, some (95, true), .lenS (.t 103)⟩⟩,
    ⟨12, 0, [], 4095, ⟨some 105, some (95, true), .int .lss (.t 99) (.t 104)⟩⟩,
    ⟨13, 0, [], 8191, ⟨some 106, none, .pick (.t 95) (.t 105) (.c (.bool false))⟩⟩,
    ⟨14, 0, [], 16383, ⟨some 107, none, .mov (.t 106)⟩⟩,
    ⟨15, 0, [], 32767, ⟨some 108, some (107, true), .mov (.t 0)⟩⟩,
    ⟨16, 0, [], 65535, ⟨some 109, some (107, true), .nilc (.t 108)⟩⟩,
    ⟨17, 0, [], 131071, ⟨some 110, some (107, true), .fa 0 (.t 109)⟩⟩,
    ⟨18, 0, [], 262143, ⟨some 111, some (107, true), .load 1 false (.t 110)⟩⟩,
    ⟨19, 0, [], 32767, ⟨some 112, some (107, true), .mov (.t 0)⟩⟩,
    ⟨20, 0, [], 557055, ⟨some 113, some (107, true), .nilc (.t 112)⟩⟩,
    ⟨21, 0, [], 1605631, ⟨some 114, some (107, true), .fa 1 (.t 113)⟩⟩,
    ⟨22, 0, [], 3702783, ⟨some 115, some (107, true), .load 1 false (.t 114)⟩⟩,
    ⟨23, 0, [], 8388607, ⟨some 116, some (107, true), .idx (.t 111) (.t 115)⟩⟩,
    ⟨24, 0, [], 16777215, ⟨some 117, some (107, true), .int .eql (.t 116) (.c (.int .u8 110))⟩⟩,
    ⟨25, 0, [], 33554431, ⟨some 118, none, .pick (.t 107) (.t 117) (.c (.bool false))⟩⟩])
  (.cond (.t 118)
    (.seq
    (.reg [
      ⟨some 119, none, .mov (.t 0)⟩,
      ⟨some 120, none, .nilc (.t 119)⟩,
      ⟨some 121, none, .fa 1 (.t 120)⟩,
      ⟨some 122, none, .load 1 false (.t 121)⟩,
      ⟨some 123, none, .int .add (.t 122) (.c (.int .i64 1))⟩,
      ⟨some 124, none, .nilc (.t 119)⟩,
      ⟨some 125, none, .fa 1 (.t 124)⟩,
      ⟨none, none, .store 1 (.t 125) (.t 123)⟩])
    (.reg [
      ⟨some 3, none, .mov (.c (.int .u8 10))⟩]))
    .skip))
  (.seq
  (.reg [
    ⟨some 126, none, .mov (.t 3)⟩,
    ⟨some 127, none, .bslice [.int .u8 0] 1 [(0, .t 126)]⟩,
    ⟨some 128, none, .call (.c (.fn 194 [])) [.t 127]⟩,
    ⟨some 129, none, .mov (.t 3)⟩,
    ⟨some 130, none, .build [.int .u64 0, .int .u64 0, .int .u64 0, .int .u64 0, .int .u8 0, .bool false] [(0, 4, .t 128), (4, 1, .t 129), (5, 1, .c (.bool true))]⟩,
    ⟨none, none, .store 6 (.t 2) (.t 130)⟩])
  .ret)))))))⟩

theorem c196 : chkF Go.Proofs.Tryz.prog Go.Proofs.Tryz.f196 m196 = true := by kernel_rfl

/-- (*paddock/sets.reader).fail -/
def m197 : MFn := ⟨2, 15, [.cell 4 6 true], 0,
  (.seq
  (.reg [
    ⟨some 4, none, .box 254 6 (.c (.agg [.int .u64 0, .int .u64 0, .int .u64 0, .int .u64 0, .int .u8 0, .bool false]))⟩])
  (.seq
  (.seq
  (.reg [
    ⟨some 5, none, .mov (.t 0)⟩,
    ⟨some 6, none, .nilc (.t 5)⟩,
    ⟨some 7, none, .fa 2 (.t 6)⟩,
    ⟨some 8, none, .load 1 false (.t 7)⟩,
    ⟨some 9, none, .int .lss (.t 8) (.c (.int .i64 0))⟩])
  (.cond (.t 9)
    (.reg [
      ⟨some 10, none, .mov (.t 0)⟩,
      ⟨some 11, none, .mov (.t 1)⟩,
      ⟨some 12, none, .nilc (.t 10)⟩,
      ⟨some 13, none, .fa 2 (.t 12)⟩,
      ⟨none, none, .store 1 (.t 13) (.t 11)⟩])
    .skip))
  (.seq
  (.reg [
    ⟨some 14, none, .build [.int .u64 0, .int .u64 0, .int .u64 0, .int .u64 0, .int .u8 0, .bool false] []⟩,
    ⟨none, none, .store 6 (.t 4) (.t 14)⟩])
  .ret)))⟩

theorem c197 : chkF Go.Proofs.Tryz.prog Go.Proofs.Tryz.f197 m197 = true := by kernel_rfl

/-- paddock/sets.Range -/
def m198 : MFn := ⟨2, 20, [.cell 4 4 true], 0,
  (.seq
  (.reg [
    ⟨some 4, none, .box 45 4 (.c (.agg [.int .u64 0, .int .u64 0, .int .u64 0, .int .u64 0]))⟩])
  (.seq
  (.reg [
    ⟨some 5, none, .box 45 4 (.c (.agg [.int .u64 0, .int .u64 0, .int .u64 0, .int .u64 0]))⟩])
  (.seq
  (.seq
  (.reg [
    ⟨some 7, none, .mov (.t 0)⟩,
    ⟨some 8, none, .conv .i64 (.t 7)⟩,
    ⟨some 6, none, .mov (.t 8)⟩])
  (.block 0
    (.loop
      (.seq
      (.seq
      (.reg [
        ⟨some 9, none, .mov (.t 6)⟩,
        ⟨some 10, none, .mov (.t 1)⟩,
        ⟨some 11, none, .conv .i64 (.t 10)⟩,
        ⟨some 12, none, .int .leq (.t 9) (.t 11)⟩])
      (.cond (.t 12)
        .skip
        (.exit 0)))
      (.seq
      (.block 1
        (.reg [
          ⟨some 15, none, .load 4 true (.t 5)⟩,
          ⟨some 16, none, .mov (.t 6)⟩,
          ⟨some 17, none, .conv .u8 (.t 16)⟩,
          ⟨some 18, none, .call (.c (.fn 203 [])) [.t 15, .t 17]⟩,
          ⟨none, none, .store 4 (.t 5) (.t 18)⟩]))
      (.reg [
        ⟨some 13, none, .mov (.t 6)⟩,
        ⟨some 14, none, .int .add (.t 13) (.c (.int .i64 1))⟩,
        ⟨some 6, none, .mov (.t 14)⟩]))))))
  (.seq
  (.reg [
    ⟨some 19, none, .load 4 true (.t 5)⟩,
    ⟨none, none, .store 4 (.t 4) (.t 19)⟩])
  .ret))))⟩

theorem c198 : chkF Go.Proofs.Tryz.prog Go.Proofs.Tryz.f198 m198 = true := by kernel_rfl

/-- paddock/sets.Or -/
def m199 : MFn := ⟨2, 19, [.cell 4 4 true], 0,
  (.seq
  (.reg [
    ⟨some 2, none, .box 45 4 (.t 0)⟩,
    ⟨some 3, none, .box 45 4 (.t 1)⟩,
    ⟨some 4, none, .box 45 4 (.c (.agg [.int .u64 0, .int .u64 0, .int .u64 0, .int .u64 0]))⟩])
  (.seq
  (.seq
  (.reg [
    ⟨some 6, none, .mov (.c (.int .i64 0))⟩])
  (.block 0
    (.loop
      (.seq
      (.reg [
        ⟨some 7, none, .int .lss (.t 6) (.c (.int .i64 4))⟩])
      (.seq
      (.cond (.t 7)
        .skip
        (.exit 0))
      (.seq
      (.block 1
        (.seq
        (.reg [
          ⟨some 8, none, .mov (.t 6)⟩,
          ⟨some 5, none, .mov (.t 8)⟩])
        (.dreg [
          ⟨0, 0, [], 0, ⟨some 9, none, .mov (.t 5)⟩⟩,
          ⟨1, 0, [], 1, ⟨some 10, none, .iaa 1 4 (.t 2) (.t 9)⟩⟩,
          ⟨2, 0, [], 3, ⟨some 11, none, .load 1 false (.t 10)⟩⟩,
          ⟨3, 0, [], 0, ⟨some 12, none, .mov (.t 5)⟩⟩,
          ⟨4, 0, [], 8, ⟨some 13, none, .iaa 1 4 (.t 3) (.t 12)⟩⟩,
          ⟨5, 0, [], 24, ⟨some 14, none, .load 1 false (.t 13)⟩⟩,
          ⟨6, 0, [], 63, ⟨some 15, none, .int .or (.t 11) (.t 14)⟩⟩,
          ⟨7, 0, [], 127, ⟨some 16, none, .iaa 1 4 (.t 2) (.t 9)⟩⟩,
          ⟨8, 1, [], 255, ⟨none, none, .store 1 (.t 16) (.t 15)⟩⟩])))
      (.reg [
        ⟨some 17, none, .int .add (.t 6) (.c (.int .i64 1))⟩,
        ⟨some 6, none, .mov (.t 17)⟩])))))))
  (.seq
  (.reg [
    ⟨some 18, none, .load 4 true (.t 2)⟩,
    ⟨none, none, .store 4 (.t 4) (.t 18)⟩])
  .ret)))⟩

theorem c199 : chkF Go.Proofs.Tryz.prog Go.Proofs.Tryz.f199 m199 = true := by kernel_rfl

/-- paddock/sets.Class -/
def m200 : MFn := ⟨1, 14, [.cell 2 4 true, .tmp 3], 0,
  (.seq
  (.reg [
    ⟨some 2, none, .box 45 4 (.c (.agg [.int .u64 0, .int .u64 0, .int .u64 0, .int .u64 0]))⟩,
    ⟨some 3, none, .mov (.c (.bool false))⟩])
  (.seq
  (.reg [
    ⟨some 7, none, .call (.c (.fn 207 [])) []⟩,
    ⟨some 8, none, .mov (.t 0)⟩,
    ⟨some 9, none, .mget true (.agg [.int .u64 0, .int .u64 0, .int .u64 0, .int .u64 0]) true (.t 7) (.t 8)⟩,
    ⟨some 6, none, .mov (.t 9)⟩,
    ⟨some 10, none, .ext (.t 6) 0⟩,
    ⟨some 11, none, .ext (.t 6) 1⟩,
    ⟨some 4, none, .box 45 4 (.c (.agg [.int .u64 0, .int .u64 0, .int .u64 0, .int .u64 0]))⟩,
    ⟨none, none, .store 4 (.t 4) (.t 10)⟩,
    ⟨some 5, none, .mov (.t 11)⟩])
  (.seq
  (.reg [
    ⟨some 12, none, .load 4 true (.t 4)⟩,
    ⟨some 13, none, .mov (.t 5)⟩,
    ⟨none, none, .store 4 (.t 2) (.t 12)⟩,
    ⟨some 3, none, .mov (.t 13)⟩])
  .ret)))⟩

theorem c200 : chkF Go.Proofs.Tryz.prog Go.Proofs.Tryz.f200 m200 = true := by kernel_rfl

/-- paddock/syntax.word -/
def m201 : MFn := ⟨0, 12, [.cell 0 4 true], 0,
  (.seq
  (.reg [
    ⟨some 0, none, .box 45 4 (.c (.agg [.int .u64 0, .int .u64 0, .int .u64 0, .int .u64 0]))⟩])
  (.seq
  (.reg [
    ⟨some 4, none, .call (.c (.fn 200 [])) [.c (.str [97, 108, 110, 117, 109])]⟩,
    ⟨some 3, none, .mov (.t 4)⟩,
    ⟨some 5, none, .ext (.t 3) 0⟩,
    ⟨some 6, none, .ext (.t 3) 1⟩,
    ⟨some 1, none, .box 45 4 (.c (.agg [.int .u64 0, .int .u64 0, .int .u64 0, .int .u64 0]))⟩,
    ⟨none, none, .store 4 (.t 1) (.t 5)⟩,
    ⟨some 2, none, .mov (.t 6)⟩])
  (.seq
  (.dreg [
    ⟨0, 0, [], 0, ⟨some 7, none, .load 4 true (.t 1)⟩⟩,
    ⟨1, 0, [], 0, ⟨some 8, none, .bslice [.int .u8 0] 1 [(0, .c (.int .u8 95))]⟩⟩,
    ⟨2, 0, [], 2, ⟨some 9, none, .lit (.t 8)⟩⟩,
    ⟨3, 1, [0], 6, ⟨some 10, none, .call (.c (.fn 194 [])) [.t 9]⟩⟩,
    ⟨4, 1, [], 15, ⟨some 11, none, .call (.c (.fn 199 [])) [.t 7, .t 10]⟩⟩,
    ⟨5, 1, [], 31, ⟨none, none, .store 4 (.t 0) (.t 11)⟩⟩])
  .ret)))⟩

theorem c201 : chkF Go.Proofs.Tryz.prog Go.Proofs.Tryz.f201 m201 = true := by kernel_rfl

/-- paddock/sets.Has -/
def m202 : MFn := ⟨2, 14, [.tmp 4], 0,
  (.seq
  (.reg [
    ⟨some 2, none, .box 45 4 (.t 0)⟩,
    ⟨some 4, none, .mov (.c (.bool false))⟩])
  (.seq
  (.reg [
    ⟨some 5, none, .mov (.t 1)⟩,
    ⟨some 6, none, .int .quo (.t 5) (.c (.int .u8 64))⟩,
    ⟨some 7, none, .iaa 1 4 (.t 2) (.t 6)⟩,
    ⟨some 8, none, .load 1 false (.t 7)⟩,
    ⟨some 9, none, .mov (.t 1)⟩,
    ⟨some 10, none, .int .rem (.t 9) (.c (.int .u8 64))⟩,
    ⟨some 11, none, .int .shr (.t 8) (.t 10)⟩,
    ⟨some 12, none, .int .and (.t 11) (.c (.int .u64 1))⟩,
    ⟨some 13, none, .int .eql (.t 12) (.c (.int .u64 1))⟩,
    ⟨some 4, none, .mov (.t 13)⟩])
  .ret))⟩

theorem c202 : chkF Go.Proofs.Tryz.prog Go.Proofs.Tryz.f202 m202 = true := by kernel_rfl

/-- paddock/sets.add -/
def m203 : MFn := ⟨2, 15, [.cell 4 4 true], 0,
  (.seq
  (.reg [
    ⟨some 2, none, .box 45 4 (.t 0)⟩,
    ⟨some 4, none, .box 45 4 (.c (.agg [.int .u64 0, .int .u64 0, .int .u64 0, .int .u64 0]))⟩])
  (.seq
  (.reg [
    ⟨some 5, none, .mov (.t 1)⟩,
    ⟨some 6, none, .int .quo (.t 5) (.c (.int .u8 64))⟩,
    ⟨some 7, none, .iaa 1 4 (.t 2) (.t 6)⟩,
    ⟨some 8, none, .load 1 false (.t 7)⟩,
    ⟨some 9, none, .mov (.t 1)⟩,
    ⟨some 10, none, .int .rem (.t 9) (.c (.int .u8 64))⟩,
    ⟨some 11, none, .int .shl (.c (.int .u64 1)) (.t 10)⟩,
    ⟨some 12, none, .int .or (.t 8) (.t 11)⟩,
    ⟨some 13, none, .iaa 1 4 (.t 2) (.t 6)⟩,
    ⟨none, none, .store 1 (.t 13) (.t 12)⟩])
  (.seq
  (.reg [
    ⟨some 14, none, .load 4 true (.t 2)⟩,
    ⟨none, none, .store 4 (.t 4) (.t 14)⟩])
  .ret)))⟩

theorem c203 : chkF Go.Proofs.Tryz.prog Go.Proofs.Tryz.f203 m203 = true := by kernel_rfl

/-- (*paddock/syntax.parser).number -/
def m204 : MFn := ⟨1, 45, [.tmp 2], 0,
  (.seq
  (.reg [
    ⟨some 2, none, .mov (.c (.int .i64 0))⟩])
  (.seq
  (.seq
  (.reg [
    ⟨some 4, none, .mov (.t 0)⟩,
    ⟨some 5, none, .call (.c (.fn 205 [])) [.t 4]⟩,
    ⟨some 6, none, .not (.t 5)⟩])
  (.cond (.t 6)
    (.reg [
      ⟨some 7, none, .mov (.t 0)⟩,
      ⟨some 8, none, .mov (.t 0)⟩,
      ⟨some 9, none, .nilc (.t 8)⟩,
      ⟨some 10, none, .fa 1 (.t 9)⟩,
      ⟨some 11, none, .load 1 false (.t 10)⟩,
      ⟨some 12, none, .call (.c (.fn 161 [])) [.t 7, .c (.int .i64 80), .t 11]⟩])
    .skip))
  (.seq
  (.reg [
    ⟨some 3, none, .mov (.c (.int .i64 0))⟩])
  (.seq
  (.block 0
    (.loop
      (.seq
      (.seq
      (.reg [
        ⟨some 13, none, .mov (.t 0)⟩,
        ⟨some 14, none, .call (.c (.fn 205 [])) [.t 13]⟩])
      (.cond (.t 14)
        .skip
        (.exit 0)))
      (.block 1
        (.seq
        (.dreg [
          ⟨0, 0, [], 0, ⟨some 15, none, .mov (.t 3)⟩⟩,
          ⟨1, 0, [], 1, ⟨some 16, none, .int .mul (.c (.int .i64 10)) (.t 15)⟩⟩,
          ⟨2, 0, [], 0, ⟨some 17, none, .mov (.t 0)⟩⟩,
          ⟨3, 0, [], 4, ⟨some 18, none, .nilc (.t 17)⟩⟩,
          ⟨4, 0, [], 12, ⟨some 19, none, .fa 0 (.t 18)⟩⟩,
          ⟨5, 0, [], 28, ⟨some 20, none, .load 1 false (.t 19)⟩⟩,
          ⟨6, 0, [], 0, ⟨some 21, none, .mov (.t 0)⟩⟩,
          ⟨7, 0, [], 64, ⟨some 22, none, .nilc (.t 21)⟩⟩,
          ⟨8, 0, [], 192, ⟨some 23, none, .fa 1 (.t 22)⟩⟩,
          ⟨9, 0, [], 448, ⟨some 24, none, .load 1 false (.t 23)⟩⟩,
          ⟨10, 0, [], 1020, ⟨some 25, none, .idx (.t 20) (.t 24)⟩⟩,
          ⟨11, 0, [], 2044, ⟨some 26, none, .int .sub (.t 25) (.c (.int .u8 48))⟩⟩,
          ⟨12, 0, [], 4092, ⟨some 27, none, .conv .i64 (.t 26)⟩⟩,
          ⟨13, 0, [], 8191, ⟨some 28, none, .int .add (.t 16) (.t 27)⟩⟩,
          ⟨14, 1, [], 16383, ⟨some 3, none, .mov (.t 28)⟩⟩])
        (.seq
        (.seq
        (.reg [
          ⟨some 29, none, .mov (.t 3)⟩,
          ⟨some 30, none, .int .gtr (.t 29) (.c (.int .i64 255))⟩])
        (.cond (.t 30)
          (.reg [
            ⟨some 31, none, .mov (.t 0)⟩,
            ⟨some 32, none, .mov (.t 0)⟩,
            ⟨some 33, none, .nilc (.t 32)⟩,
            ⟨some 34, none, .fa 1 (.t 33)⟩,
            ⟨some 35, none, .load 1 false (.t 34)⟩,
            ⟨some 36, none, .call (.c (.fn 161 [])) [.t 31, .c (.int .i64 80), .t 35]⟩])
          .skip))
        (.reg [
          ⟨some 37, none, .mov (.t 0)⟩,
          ⟨some 38, none, .nilc (.t 37)⟩,
          ⟨some 39, none, .fa 1 (.t 38)⟩,
          ⟨some 40, none, .load 1 false (.t 39)⟩,
          ⟨some 41, none, .int .add (.t 40) (.c (.int .i64 1))⟩,
          ⟨some 42, none, .nilc (.t 37)⟩,
          ⟨some 43, none, .fa 1 (.t 42)⟩,
          ⟨none, none, .store 1 (.t 43) (.t 41)⟩])))))))
  (.seq
  (.reg [
    ⟨some 44, none, .mov (.t 3)⟩,
    ⟨some 2, none, .mov (.t 44)⟩])
  .ret)))))⟩

theorem c204 : chkF Go.Proofs.Tryz.prog Go.Proofs.Tryz.f204 m204 = true := by kernel_rfl

/-- (*paddock/syntax.parser).digit -/
def m205 : MFn := ⟨1, 37, [.tmp 2], 0,
  (.seq
  (.reg [
    ⟨some 2, none, .mov (.c (.bool false))⟩])
  (.seq
  (.dreg [
    ⟨0, 0, [], 0, ⟨some 3, none, .mov (.t 0)⟩⟩,
    ⟨1, 0, [], 1, ⟨some 4, none, .nilc (.t 3)⟩⟩,
    ⟨2, 0, [], 3, ⟨some 5, none, .fa 1 (.t 4)⟩⟩,
    ⟨3, 0, [], 7, ⟨some 6, none, .load 1 false (.t 5)⟩⟩,
    ⟨4, 0, [], 0, ⟨some 7, none, .mov (.t 0)⟩⟩,
    ⟨5, 0, [], 16, ⟨some 8, none, .nilc (.t 7)⟩⟩,
    ⟨6, 0, [], 48, ⟨some 9, none, .fa 0 (.t 8)⟩⟩,
    ⟨7, 0, [], 112, ⟨some 10, none, .load 1 false (.t 9)⟩⟩,
    ⟨8, 0, [], 240, ⟨some 11, none, .lenS (.t 10)⟩⟩,
    ⟨9, 0, [], 511, ⟨some 12, none, .int .lss (.t 6) (.t 11)⟩⟩,
    ⟨10, 0, [], 1023, ⟨some 13, none, .mov (.t 12)⟩⟩,
    ⟨11, 0, [], 2047, ⟨some 14, some (13, true), .mov (.t 0)⟩⟩,
    ⟨12, 0, [], 4095, ⟨some 15, some (13, true), .nilc (.t 14)⟩⟩,
    ⟨13, 0, [], 8191, ⟨some 16, some (13, true), .fa 0 (.t 15)⟩⟩,
    ⟨14, 0, [], 16383, ⟨some 17, some (13, true), .load 1 false (.t 16)⟩⟩,
    ⟨15, 0, [], 2047, ⟨some 18, some (13, true), .mov (.t 0)⟩⟩,
    ⟨16, 0, [], 34815, ⟨some 19, some (13, true), .nilc (.t 18)⟩⟩,
    ⟨17, 0, [], 100351, ⟨some 20, some (13, true), .fa 1 (.t 19)⟩⟩,
    ⟨18, 0, [], 231423, ⟨some 21, some (13, true), .load 1 false (.t 20)⟩⟩,
    ⟨19, 0, [], 524287, ⟨some 22, some (13, true), .idx (.t 17) (.t 21)⟩⟩,
    ⟨20, 0, [], 1048575, ⟨some 23, some (13, true), .int .geq (.t 22) (.c (.int .u8 48))⟩⟩,
    ⟨21, 0, [], 2097151, ⟨some 24, none, .pick (.t 13) (.t 23) (.c (.bool false))⟩⟩,
    ⟨22, 0, [], 4194303, ⟨some 25, none, .mov (.t 24)⟩⟩,
    ⟨23, 0, [], 8388607, ⟨some 26, some (25, true), .mov (.t 0)⟩⟩,
    ⟨24, 0, [], 16777215, ⟨some 27, some (25, true), .nilc (.t 26)⟩⟩,
    ⟨25, 0, [], 33554431, ⟨some 28, some (25, true), .fa 0 (.t 27)⟩⟩,
    ⟨26, 0, [], 67108863, ⟨some 29, some (25, true), .load 1 false (.t 28)⟩⟩,
    ⟨27, 0, [], 8388607, ⟨some 30, some (25, true), .mov (.t 0)⟩⟩,
    ⟨28, 0, [], 142606335, ⟨some 31, some (25, true), .nilc (.t 30)⟩⟩,
    ⟨29, 0, [], 411041791, ⟨some 32, some (25, true), .fa 1 (.t 31)⟩⟩,
    ⟨30, 0, [], 947912703, ⟨some 33, some (25, true), .load 1 false (.t 32)⟩⟩,
    ⟨31, 0, [], 2147483647, ⟨some 34, some (25, true), .idx (.t 29) (.t 33)⟩⟩,
    ⟨32, 0, [], 4294967295, ⟨some 35, some (25, true), .int .leq (.t 34) (.c (.int .u8 57))⟩⟩,
    ⟨33, 0, [], 8589934591, ⟨some 36, none, .pick (.t 25) (.t 35) (.c (.bool false))⟩⟩,
    ⟨34, 0, [], 17179869183, ⟨some 2, none, .mov (.t 36)⟩⟩])
  .ret))⟩

theorem c205 : chkF Go.Proofs.Tryz.prog Go.Proofs.Tryz.f205 m205 = true := by kernel_rfl

/-- (*paddock/sets.reader).named -/
def m206 : MFn := ⟨1, 138, [.cell 2 6 true], 0,
  (.seq
  (.reg [
    ⟨some 2, none, .box 254 6 (.c (.agg [.int .u64 0, .int .u64 0, .int .u64 0, .int .u64 0, .int .u8 0, .bool false]))⟩])
  (.seq
  (.reg [
    ⟨some 9, none, .mov (.t 0)⟩,
    ⟨some 10, none, .nilc (.t 9)⟩,
    ⟨some 11, none, .fa 1 (.t 10)⟩,
    ⟨some 12, none, .load 1 false (.t 11)⟩,
    ⟨some 3, none, .mov (.t 12)⟩])
  (.seq
  (.reg [
    ⟨some 13, none, .mov (.t 0)⟩,
    ⟨some 14, none, .nilc (.t 13)⟩,
    ⟨some 15, none, .fa 0 (.t 14)⟩,
    ⟨some 16, none, .load 1 false (.t 15)⟩,
    ⟨some 17, none, .mov (.t 3)⟩,
    ⟨some 18, none, .int .add (.t 17) (.c (.int .i64 1))⟩,
    ⟨some 19, none, .idx (.t 16) (.t 18)⟩,
    ⟨some 4, none, .mov (.t 19)⟩])
  (.seq
  (.seq
  (.reg [
    ⟨some 20, none, .mov (.t 4)⟩,
    ⟨some 21, none, .int .eql (.t 20) (.c (.int .u8 58))⟩])
  (.cond (.t 21)
    (.seq
    (.seq
    (.reg [
      ⟨some 22, none, .mov (.t 3)⟩,
      ⟨some 23, none, .int .add (.t 22) (.c (.int .i64 2))⟩,
      ⟨some 5, none, .mov (.t 23)⟩])
    (.block 0
      (.loop
        (.seq
        (.seq
        (.reg [
          ⟨some 24, none, .mov (.t 5)⟩,
          ⟨some 25, none, .mov (.t 0)⟩,
          ⟨some 26, none, .nilc (.t 25)⟩,
          ⟨some 27, none, .fa 0 (.t 26)⟩,
          ⟨some 28, none, .load 1 false (.t 27)⟩,
          ⟨some 29, none, .lenS (.t 28)⟩,
          ⟨some 30, none, .int .lss (.t 24) (.t 29)⟩])
        (.cond (.t 30)
          .skip
          (.exit 0)))
        (.seq
        (.block 1
          (.seq
          (.seq
          (.reg [
            ⟨some 33, none, .mov (.t 0)⟩,
            ⟨some 34, none, .nilc (.t 33)⟩,
            ⟨some 35, none, .fa 0 (.t 34)⟩,
            ⟨some 36, none, .load 1 false (.t 35)⟩,
            ⟨some 37, none, .mov (.t 5)⟩,
            ⟨some 38, none, .idx (.t 36) (.t 37)⟩,
            ⟨some 39, none, .int .neq (.t 38) (.c (.int .u8 58))⟩])
          (.cond (.t 39)
            (.exit 1)
            .skip))
          (.seq
          (.reg [
            ⟨some 41, none, .mov (.t 0)⟩,
            ⟨some 42, none, .nilc (.t 41)⟩,
            ⟨some 43, none, .fa 0 (.t 42)⟩,
            ⟨some 44, none, .load 1 false (.t 43)⟩,
            ⟨some 45, none, .mov (.t 3)⟩,
            ⟨some 46, none, .int .add (.t 45) (.c (.int .i64 2))⟩,
            ⟨some 47, none, .mov (.t 5)⟩,
            ⟨some 48, none, .sstr (.t 44) (some (.t 46)) (some (.t 47))⟩,
            ⟨some 49, none, .call (.c (.fn 200 [])) [.t 48]⟩,
            ⟨some 40, none, .mov (.t 49)⟩,
            ⟨some 50, none, .ext (.t 40) 0⟩,
            ⟨some 51, none, .ext (.t 40) 1⟩,
            ⟨some 6, none, .box 45 4 (.c (.agg [.int .u64 0, .int .u64 0, .int .u64 0, .int .u64 0]))⟩,
            ⟨none, none, .store 4 (.t 6) (.t 50)⟩,
            ⟨some 7, none, .mov (.t 51)⟩])
          (.seq
          (.seq
          (.reg [
            ⟨some 52, none, .mov (.t 7)⟩,
            ⟨some 53, none, .not (.t 52)⟩,
            ⟨some 54, none, .mov (.t 53)⟩,
            ⟨some 55, some (54, false), .mov (.t 5)⟩,
            ⟨some 56, some (54, false), .int .add (.t 55) (.c (.int .i64 1))⟩,
            ⟨some 57, some (54, false), .mov (.t 0)⟩,
            ⟨some 58, some (54, false), .nilc (.t 57)⟩,
            ⟨some 59, some (54, false), .fa 0 (.t 58)⟩,
            ⟨some 60, some (54, false), .load 1 false (.t 59)⟩,
            ⟨some 61, some (54, false), .lenS (.t 60)⟩,
            ⟨some 62, some (54, false), .int .geq (.t 56) (.t 61)⟩,
            ⟨some 63, none, .pick (.t 54) (.c (.bool true)) (.t 62)⟩,
            ⟨some 64, none, .mov (.t 63)⟩,
            ⟨some 65, some (64, false), .mov (.t 0)⟩,
            ⟨some 66, some (64, false), .nilc (.t 65)⟩,
            ⟨some 67, some (64, false), .fa 0 (.t 66)⟩,
            ⟨some 68, some (64, false), .load 1 false (.t 67)⟩,
            ⟨some 69, some (64, false), .mov (.t 5)⟩,
            ⟨some 70, some (64, false), .int .add (.t 69) (.c (.int .i64 1))⟩,
            ⟨some 71, some (64, false), .idx (.t 68) (.t 70)⟩,
            ⟨some 72, some (64, false), .int .neq (.t 71) (.c (.int .u8 93))⟩,
            ⟨some 73, none, .pick (.t 64) (.c (.bool true)) (.t 72)⟩])
          (.cond (.t 73)
            (.seq
            (.reg [
              ⟨some 74, none, .mov (.t 0)⟩,
              ⟨some 75, none, .mov (.t 3)⟩,
              ⟨some 76, none, .call (.c (.fn 197 [])) [.t 74, .t 75]⟩,
              ⟨none, none, .store 6 (.t 2) (.t 76)⟩])
            .ret)
            .skip))
          (.seq
          (.reg [
            ⟨some 77, none, .mov (.t 0)⟩,
            ⟨some 78, none, .mov (.t 5)⟩,
            ⟨some 79, none, .int .add (.t 78) (.c (.int .i64 2))⟩,
            ⟨some 80, none, .nilc (.t 77)⟩,
            ⟨some 81, none, .fa 1 (.t 80)⟩,
            ⟨none, none, .store 1 (.t 81) (.t 79)⟩])
          (.seq
          (.reg [
            ⟨some 82, none, .load 4 true (.t 6)⟩,
            ⟨some 83, none, .build [.int .u64 0, .int .u64 0, .int .u64 0, .int .u64 0, .int .u8 0, .bool false] [(0, 4, .t 82)]⟩,
            ⟨none, none, .store 6 (.t 2) (.t 83)⟩])
          .ret))))))
        (.reg [
          ⟨some 31, none, .mov (.t 5)⟩,
          ⟨some 32, none, .int .add (.t 31) (.c (.int .i64 1))⟩,
          ⟨some 5, none, .mov (.t 32)⟩]))))))
    (.seq
    (.reg [
      ⟨some 84, none, .mov (.t 0)⟩,
      ⟨some 85, none, .mov (.t 3)⟩,
      ⟨some 86, none, .call (.c (.fn 197 [])) [.t 84, .t 85]⟩,
      ⟨none, none, .store 6 (.t 2) (.t 86)⟩])
    .ret))
    .skip))
  (.seq
  (.seq
  (.reg [
    ⟨some 87, none, .mov (.t 3)⟩,
    ⟨some 88, none, .int .add (.t 87) (.c (.int .i64 4))⟩,
    ⟨some 89, none, .mov (.t 0)⟩,
    ⟨some 90, none, .nilc (.t 89)⟩,
    ⟨some 91, none, .fa 0 (.t 90)⟩,
    ⟨some 92, none, .load 1 false (.t 91)⟩,
    ⟨some 93, none, .lenS (.t 92)⟩,
    ⟨some 94, none, .int .geq (.t 88) (.t 93)⟩,
    ⟨some 95, none, .mov (.t 94)⟩,
    ⟨some 96, some (95, false), .mov (.t 0)⟩,
    ⟨some 97, some (95, false), .nilc (.t 96)⟩,
    ⟨some 98, some (95, false), .fa 0 (.t 97)⟩,
    ⟨some 99, some (95, false), .load 1 false (.t 98)⟩,
    ⟨some 100, some (95, false), .mov (.t 3)⟩,
    ⟨some 101, some (95, false), .int .add (.t 100) (.c (.int .i64 3))⟩,
    ⟨some 102, some (95, false), .idx (.t 99) (.t 101)⟩,
    ⟨some 103, some (95, false), .mov (.t 4)⟩,
    ⟨some 104, some (95, false), .int .neq (.t 102) (.t 103)⟩,
    ⟨some 105, none, .pick (.t 95) (.c (.bool true)) (.t 104)⟩,
    ⟨some 106, none, .mov (.t 105)⟩,
    ⟨some 107, some (106, false), .mov (.t 0)⟩,
    ⟨some 108, some (106, false), .nilc (.t 107)⟩,
    ⟨some 109, some (106, false), .fa 0 (.t 108)⟩,
    ⟨some 110, some (106, false), .load 1 false (.t 109)⟩,
    ⟨some 111, some (106, false), .mov (.t 3)⟩,
    ⟨some 112, some (106, false), .int .add (.t 111) (.c (.int .i64 4))⟩,
    ⟨some 113, some (106, false), .idx (.t 110) (.t 112)⟩,
    ⟨some 114, some (106, false), .int .neq (.t 113) (.c (.int .u8 93))⟩,
    ⟨some 115, none, .pick (.t 106) (.c (.bool true)) (.t 114)⟩])
  (.cond (.t 115)
    (.seq
    (.reg [
      ⟨some 116, none, .mov (.t 0)⟩,
      ⟨some 117, none, .mov (.t 3)⟩,
      ⟨some 118, none, .call (.c (.fn 197 [])) [.t 116, .t 117]⟩,
      ⟨none, none, .store 6 (.t 2) (.t 118)⟩])
    .ret)
    .skip))
  (.seq
  (.reg [
    ⟨some 119, none, .mov (.t 0)⟩,
    ⟨some 120, none, .nilc (.t 119)⟩,
    ⟨some 121, none, .fa 0 (.t 120)⟩,
    ⟨some 122, none, .load 1 false (.t 121)⟩,
    ⟨some 123, none, .mov (.t 3)⟩,
    ⟨some 124, none, .int .add (.t 123) (.c (.int .i64 2))⟩,
    ⟨some 125, none, .idx (.t 122) (.t 124)⟩,
    ⟨some 8, none, .mov (.t 125)⟩])
  (.seq
  (.reg [
    ⟨some 126, none, .mov (.t 0)⟩,
    ⟨some 127, none, .mov (.t 3)⟩,
    ⟨some 128, none, .int .add (.t 127) (.c (.int .i64 5))⟩,
    ⟨some 129, none, .nilc (.t 126)⟩,
    ⟨some 130, none, .fa 1 (.t 129)⟩,
    ⟨none, none, .store 1 (.t 130) (.t 128)⟩])
  (.seq
  (.reg [
    ⟨some 131, none, .mov (.t 8)⟩,
    ⟨some 132, none, .bslice [.int .u8 0] 1 [(0, .t 131)]⟩,
    ⟨some 133, none, .call (.c (.fn 194 [])) [.t 132]⟩,
    ⟨some 134, none, .mov (.t 8)⟩,
    ⟨some 135, none, .mov (.t 4)⟩,
    ⟨some 136, none, .int .eql (.t 135) (.c (.int .u8 46))⟩,
    ⟨some 137, none, .build [.int .u64 0, .int .u64 0, .int .u64 0, .int .u64 0, .int .u8 0, .bool false] [(0, 4, .t 133), (4, 1, .t 134), (5, 1, .t 136)]⟩,
    ⟨none, none, .store 6 (.t 2) (.t 137)⟩])
  .ret))))))))⟩

theorem c206 : chkF Go.Proofs.Tryz.prog Go.Proofs.Tryz.f206 m206 = true := by kernel_rfl

end YtjeffeobdpganaaGreatDoor
end Go.Ab
