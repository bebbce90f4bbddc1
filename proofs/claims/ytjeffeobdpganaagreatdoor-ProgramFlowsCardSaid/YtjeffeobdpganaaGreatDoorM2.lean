/- The abstract machine's texts of translated functions (printed by a program), each checked against the translation. -/
import Derived.Test.YtjeffeobdpganaaGreatDoorAbK
import Derived.Test.YtjeffeobdpganaaGreatDoorProg
import Derived.KernelRfl
set_option linter.unusedSimpArgs false
set_option linter.unusedVariables false
namespace Go.Ab
namespace YtjeffeobdpganaaGreatDoor
set_option maxRecDepth 100000
open Go.Proofs
/-- slices.partitionOrdered[int] -/
def m81 : MFn := ⟨4, 168, [.tmp 8, .tmp 9], 0,
  (.seq
  (.reg [
    ⟨some 8, none, .mov (.c (.int .i64 0))⟩,
    ⟨some 9, none, .mov (.c (.bool false))⟩])
  (.seq
  (.dreg [
    ⟨0, 0, [], 0, ⟨some 12, none, .mov (.t 0)⟩⟩,
    ⟨1, 0, [], 0, ⟨some 13, none, .mov (.t 1)⟩⟩,
    ⟨2, 0, [], 0, ⟨some 14, none, .mov (.t 0)⟩⟩,
    ⟨3, 0, [], 0, ⟨some 15, none, .mov (.t 3)⟩⟩,
    ⟨4, 0, [], 0, ⟨some 16, none, .mov (.t 0)⟩⟩,
    ⟨5, 0, [], 0, ⟨some 17, none, .mov (.t 3)⟩⟩,
    ⟨6, 0, [], 48, ⟨some 18, none, .ia 1 (.t 16) (.t 17)⟩⟩,
    ⟨7, 0, [], 112, ⟨some 19, none, .load 1 false (.t 18)⟩⟩,
    ⟨8, 0, [], 0, ⟨some 20, none, .mov (.t 0)⟩⟩,
    ⟨9, 0, [], 0, ⟨some 21, none, .mov (.t 1)⟩⟩,
    ⟨10, 0, [], 768, ⟨some 22, none, .ia 1 (.t 20) (.t 21)⟩⟩,
    ⟨11, 0, [], 1792, ⟨some 23, none, .load 1 false (.t 22)⟩⟩,
    ⟨12, 0, [], 4083, ⟨some 24, none, .ia 1 (.t 12) (.t 13)⟩⟩,
    ⟨13, 1, [2, 3], 8179, ⟨none, none, .store 1 (.t 24) (.t 19)⟩⟩,
    ⟨14, 0, [], 16383, ⟨some 25, none, .ia 1 (.t 14) (.t 15)⟩⟩,
    ⟨15, 1, [], 32767, ⟨none, none, .store 1 (.t 25) (.t 23)⟩⟩])
  (.seq
  (.reg [
    ⟨some 26, none, .mov (.t 1)⟩,
    ⟨some 27, none, .int .add (.t 26) (.c (.int .i64 1))⟩,
    ⟨some 28, none, .mov (.t 2)⟩,
    ⟨some 29, none, .int .sub (.t 28) (.c (.int .i64 1))⟩,
    ⟨some 10, none, .mov (.t 27)⟩,
    ⟨some 11, none, .mov (.t 29)⟩])
  (.seq
  (.block 0
    (.loop
      (.seq
      (.seq
      (.dreg [
        ⟨0, 0, [], 0, ⟨some 30, none, .mov (.t 10)⟩⟩,
        ⟨1, 0, [], 0, ⟨some 31, none, .mov (.t 11)⟩⟩,
        ⟨2, 0, [], 3, ⟨some 32, none, .int .leq (.t 30) (.t 31)⟩⟩,
        ⟨3, 0, [], 7, ⟨some 33, none, .mov (.t 32)⟩⟩,
        ⟨4, 0, [], 15, ⟨some 34, some (33, true), .mov (.t 0)⟩⟩,
        ⟨5, 0, [], 15, ⟨some 35, some (33, true), .mov (.t 10)⟩⟩,
        ⟨6, 0, [], 63, ⟨some 36, some (33, true), .ia 1 (.t 34) (.t 35)⟩⟩,
        ⟨7, 0, [], 127, ⟨some 37, some (33, true), .load 1 false (.t 36)⟩⟩,
        ⟨8, 0, [], 15, ⟨some 38, some (33, true), .mov (.t 0)⟩⟩,
        ⟨9, 0, [], 15, ⟨some 39, some (33, true), .mov (.t 1)⟩⟩,
        ⟨10, 0, [], 783, ⟨some 40, some (33, true), .ia 1 (.t 38) (.t 39)⟩⟩,
        ⟨11, 0, [], 1807, ⟨some 41, some (33, true), .load 1 false (.t 40)⟩⟩,
        ⟨12, 1, [], 4095, ⟨some 42, some (33, true), .call (.c (.fn 79 [])) [.t 37, .t 41]⟩⟩,
        ⟨13, 0, [], 8191, ⟨some 43, none, .pick (.t 33) (.t 42) (.c (.bool false))⟩⟩])
      (.cond (.t 43)
        .skip
        (.exit 0)))
      (.block 1
        (.reg [
          ⟨some 44, none, .mov (.t 10)⟩,
          ⟨some 45, none, .int .add (.t 44) (.c (.int .i64 1))⟩,
          ⟨some 10, none, .mov (.t 45)⟩])))))
  (.seq
  (.block 2
    (.loop
      (.seq
      (.seq
      (.dreg [
        ⟨0, 0, [], 0, ⟨some 46, none, .mov (.t 10)⟩⟩,
        ⟨1, 0, [], 0, ⟨some 47, none, .mov (.t 11)⟩⟩,
        ⟨2, 0, [], 3, ⟨some 48, none, .int .leq (.t 46) (.t 47)⟩⟩,
        ⟨3, 0, [], 7, ⟨some 49, none, .mov (.t 48)⟩⟩,
        ⟨4, 0, [], 15, ⟨some 50, some (49, true), .mov (.t 0)⟩⟩,
        ⟨5, 0, [], 15, ⟨some 51, some (49, true), .mov (.t 11)⟩⟩,
        ⟨6, 0, [], 63, ⟨some 52, some (49, true), .ia 1 (.t 50) (.t 51)⟩⟩,
        ⟨7, 0, [], 127, ⟨some 53, some (49, true), .load 1 false (.t 52)⟩⟩,
        ⟨8, 0, [], 15, ⟨some 54, some (49, true), .mov (.t 0)⟩⟩,
        ⟨9, 0, [], 15, ⟨some 55, some (49, true), .mov (.t 1)⟩⟩,
        ⟨10, 0, [], 783, ⟨some 56, some (49, true), .ia 1 (.t 54) (.t 55)⟩⟩,
        ⟨11, 0, [], 1807, ⟨some 57, some (49, true), .load 1 false (.t 56)⟩⟩,
        ⟨12, 1, [], 4095, ⟨some 58, some (49, true), .call (.c (.fn 79 [])) [.t 53, .t 57]⟩⟩,
        ⟨13, 0, [], 8191, ⟨some 59, some (49, true), .not (.t 58)⟩⟩,
        ⟨14, 0, [], 16383, ⟨some 60, none, .pick (.t 49) (.t 59) (.c (.bool false))⟩⟩])
      (.cond (.t 60)
        .skip
        (.exit 2)))
      (.block 3
        (.reg [
          ⟨some 61, none, .mov (.t 11)⟩,
          ⟨some 62, none, .int .sub (.t 61) (.c (.int .i64 1))⟩,
          ⟨some 11, none, .mov (.t 62)⟩])))))
  (.seq
  (.seq
  (.reg [
    ⟨some 63, none, .mov (.t 10)⟩,
    ⟨some 64, none, .mov (.t 11)⟩,
    ⟨some 65, none, .int .gtr (.t 63) (.t 64)⟩])
  (.cond (.t 65)
    (.seq
    (.dreg [
      ⟨0, 0, [], 0, ⟨some 66, none, .mov (.t 0)⟩⟩,
      ⟨1, 0, [], 0, ⟨some 67, none, .mov (.t 11)⟩⟩,
      ⟨2, 0, [], 0, ⟨some 68, none, .mov (.t 0)⟩⟩,
      ⟨3, 0, [], 0, ⟨some 69, none, .mov (.t 1)⟩⟩,
      ⟨4, 0, [], 0, ⟨some 70, none, .mov (.t 0)⟩⟩,
      ⟨5, 0, [], 0, ⟨some 71, none, .mov (.t 1)⟩⟩,
      ⟨6, 0, [], 48, ⟨some 72, none, .ia 1 (.t 70) (.t 71)⟩⟩,
      ⟨7, 0, [], 112, ⟨some 73, none, .load 1 false (.t 72)⟩⟩,
      ⟨8, 0, [], 0, ⟨some 74, none, .mov (.t 0)⟩⟩,
      ⟨9, 0, [], 0, ⟨some 75, none, .mov (.t 11)⟩⟩,
      ⟨10, 0, [], 768, ⟨some 76, none, .ia 1 (.t 74) (.t 75)⟩⟩,
      ⟨11, 0, [], 1792, ⟨some 77, none, .load 1 false (.t 76)⟩⟩,
      ⟨12, 0, [], 4083, ⟨some 78, none, .ia 1 (.t 66) (.t 67)⟩⟩,
      ⟨13, 1, [2, 3], 8179, ⟨none, none, .store 1 (.t 78) (.t 73)⟩⟩,
      ⟨14, 0, [], 16383, ⟨some 79, none, .ia 1 (.t 68) (.t 69)⟩⟩,
      ⟨15, 1, [], 32767, ⟨none, none, .store 1 (.t 79) (.t 77)⟩⟩])
    (.seq
    (.reg [
      ⟨some 80, none, .mov (.t 11)⟩,
      ⟨some 8, none, .mov (.t 80)⟩,
      ⟨some 9, none, .mov (.c (.bool true))⟩])
    .ret))
    .skip))
  (.seq
  (.dreg [
    ⟨0, 0, [], 0, ⟨some 81, none, .mov (.t 0)⟩⟩,
    ⟨1, 0, [], 0, ⟨some 82, none, .mov (.t 10)⟩⟩,
    ⟨2, 0, [], 0, ⟨some 83, none, .mov (.t 0)⟩⟩,
    ⟨3, 0, [], 0, ⟨some 84, none, .mov (.t 11)⟩⟩,
    ⟨4, 0, [], 0, ⟨some 85, none, .mov (.t 0)⟩⟩,
    ⟨5, 0, [], 0, ⟨some 86, none, .mov (.t 11)⟩⟩,
    ⟨6, 0, [], 48, ⟨some 87, none, .ia 1 (.t 85) (.t 86)⟩⟩,
    ⟨7, 0, [], 112, ⟨some 88, none, .load 1 false (.t 87)⟩⟩,
    ⟨8, 0, [], 0, ⟨some 89, none, .mov (.t 0)⟩⟩,
    ⟨9, 0, [], 0, ⟨some 90, none, .mov (.t 10)⟩⟩,
    ⟨10, 0, [], 768, ⟨some 91, none, .ia 1 (.t 89) (.t 90)⟩⟩,
    ⟨11, 0, [], 1792, ⟨some 92, none, .load 1 false (.t 91)⟩⟩,
    ⟨12, 0, [], 4083, ⟨some 93, none, .ia 1 (.t 81) (.t 82)⟩⟩,
    ⟨13, 1, [2, 3], 8179, ⟨none, none, .store 1 (.t 93) (.t 88)⟩⟩,
    ⟨14, 0, [], 16383, ⟨some 94, none, .ia 1 (.t 83) (.t 84)⟩⟩,
    ⟨15, 1, [], 32767, ⟨none, none, .store 1 (.t 94) (.t 92)⟩⟩])
  (.seq
  (.reg [
    ⟨some 95, none, .mov (.t 10)⟩,
    ⟨some 96, none, .int .add (.t 95) (.c (.int .i64 1))⟩,
    ⟨some 10, none, .mov (.t 96)⟩])
  (.seq
  (.reg [
    ⟨some 97, none, .mov (.t 11)⟩,
    ⟨some 98, none, .int .sub (.t 97) (.c (.int .i64 1))⟩,
    ⟨some 11, none, .mov (.t 98)⟩])
  (.seq
  (.block 4
    (.loop
      (.block 5
        (.seq
        (.block 6
          (.loop
            (.seq
            (.seq
            (.dreg [
              ⟨0, 0, [], 0, ⟨some 99, none, .mov (.t 10)⟩⟩,
              ⟨1, 0, [], 0, ⟨some 100, none, .mov (.t 11)⟩⟩,
              ⟨2, 0, [], 3, ⟨some 101, none, .int .leq (.t 99) (.t 100)⟩⟩,
              ⟨3, 0, [], 7, ⟨some 102, none, .mov (.t 101)⟩⟩,
              ⟨4, 0, [], 15, ⟨some 103, some (102, true), .mov (.t 0)⟩⟩,
              ⟨5, 0, [], 15, ⟨some 104, some (102, true), .mov (.t 10)⟩⟩,
              ⟨6, 0, [], 63, ⟨some 105, some (102, true), .ia 1 (.t 103) (.t 104)⟩⟩,
              ⟨7, 0, [], 127, ⟨some 106, some (102, true), .load 1 false (.t 105)⟩⟩,
              ⟨8, 0, [], 15, ⟨some 107, some (102, true), .mov (.t 0)⟩⟩,
              ⟨9, 0, [], 15, ⟨some 108, some (102, true), .mov (.t 1)⟩⟩,
              ⟨10, 0, [], 783, ⟨some 109, some (102, true), .ia 1 (.t 107) (.t 108)⟩⟩,
              ⟨11, 0, [], 1807, ⟨some 110, some (102, true), .load 1 false (.t 109)⟩⟩,
              ⟨12, 1, [], 4095, ⟨some 111, some (102, true), .call (.c (.fn 79 [])) [.t 106, .t 110]⟩⟩,
              ⟨13, 0, [], 8191, ⟨some 112, none, .pick (.t 102) (.t 111) (.c (.bool false))⟩⟩])
            (.cond (.t 112)
              .skip
              (.exit 6)))
            (.block 7
              (.reg [
                ⟨some 113, none, .mov (.t 10)⟩,
                ⟨some 114, none, .int .add (.t 113) (.c (.int .i64 1))⟩,
                ⟨some 10, none, .mov (.t 114)⟩])))))
        (.seq
        (.block 8
          (.loop
            (.seq
            (.seq
            (.dreg [
              ⟨0, 0, [], 0, ⟨some 115, none, .mov (.t 10)⟩⟩,
              ⟨1, 0, [], 0, ⟨some 116, none, .mov (.t 11)⟩⟩,
              ⟨2, 0, [], 3, ⟨some 117, none, .int .leq (.t 115) (.t 116)⟩⟩,
              ⟨3, 0, [], 7, ⟨some 118, none, .mov (.t 117)⟩⟩,
              ⟨4, 0, [], 15, ⟨some 119, some (118, true), .mov (.t 0)⟩⟩,
              ⟨5, 0, [], 15, ⟨some 120, some (118, true), .mov (.t 11)⟩⟩,
              ⟨6, 0, [], 63, ⟨some 121, some (118, true), .ia 1 (.t 119) (.t 120)⟩⟩,
              ⟨7, 0, [], 127, ⟨some 122, some (118, true), .load 1 false (.t 121)⟩⟩,
              ⟨8, 0, [], 15, ⟨some 123, some (118, true), .mov (.t 0)⟩⟩,
              ⟨9, 0, [], 15, ⟨some 124, some (118, true), .mov (.t 1)⟩⟩,
              ⟨10, 0, [], 783, ⟨some 125, some (118, true), .ia 1 (.t 123) (.t 124)⟩⟩,
              ⟨11, 0, [], 1807, ⟨some 126, some (118, true), .load 1 false (.t 125)⟩⟩,
              ⟨12, 1, [], 4095, ⟨some 127, some (118, true), .call (.c (.fn 79 [])) [.t 122, .t 126]⟩⟩,
              ⟨13, 0, [], 8191, ⟨some 128, some (118, true), .not (.t 127)⟩⟩,
              ⟨14, 0, [], 16383, ⟨some 129, none, .pick (.t 118) (.t 128) (.c (.bool false))⟩⟩])
            (.cond (.t 129)
              .skip
              (.exit 8)))
            (.block 9
              (.reg [
                ⟨some 130, none, .mov (.t 11)⟩,
                ⟨some 131, none, .int .sub (.t 130) (.c (.int .i64 1))⟩,
                ⟨some 11, none, .mov (.t 131)⟩])))))
        (.seq
        (.seq
        (.reg [
          ⟨some 132, none, .mov (.t 10)⟩,
          ⟨some 133, none, .mov (.t 11)⟩,
          ⟨some 134, none, .int .gtr (.t 132) (.t 133)⟩])
        (.cond (.t 134)
          (.exit 4)
          .skip))
        (.seq
        (.dreg [
          ⟨0, 0, [], 0, ⟨some 135, none, .mov (.t 0)⟩⟩,
          ⟨1, 0, [], 0, ⟨some 136, none, .mov (.t 10)⟩⟩,
          ⟨2, 0, [], 0, ⟨some 137, none, .mov (.t 0)⟩⟩,
          ⟨3, 0, [], 0, ⟨some 138, none, .mov (.t 11)⟩⟩,
          ⟨4, 0, [], 0, ⟨some 139, none, .mov (.t 0)⟩⟩,
          ⟨5, 0, [], 0, ⟨some 140, none, .mov (.t 11)⟩⟩,
          ⟨6, 0, [], 48, ⟨some 141, none, .ia 1 (.t 139) (.t 140)⟩⟩,
          ⟨7, 0, [], 112, ⟨some 142, none, .load 1 false (.t 141)⟩⟩,
          ⟨8, 0, [], 0, ⟨some 143, none, .mov (.t 0)⟩⟩,
          ⟨9, 0, [], 0, ⟨some 144, none, .mov (.t 10)⟩⟩,
          ⟨10, 0, [], 768, ⟨some 145, none, .ia 1 (.t 143) (.t 144)⟩⟩,
          ⟨11, 0, [], 1792, ⟨some 146, none, .load 1 false (.t 145)⟩⟩,
          ⟨12, 0, [], 4083, ⟨some 147, none, .ia 1 (.t 135) (.t 136)⟩⟩,
          ⟨13, 1, [2, 3], 8179, ⟨none, none, .store 1 (.t 147) (.t 142)⟩⟩,
          ⟨14, 0, [], 16383, ⟨some 148, none, .ia 1 (.t 137) (.t 138)⟩⟩,
          ⟨15, 1, [], 32767, ⟨none, none, .store 1 (.t 148) (.t 146)⟩⟩])
        (.seq
        (.reg [
          ⟨some 149, none, .mov (.t 10)⟩,
          ⟨some 150, none, .int .add (.t 149) (.c (.int .i64 1))⟩,
          ⟨some 10, none, .mov (.t 150)⟩])
        (.reg [
          ⟨some 151, none, .mov (.t 11)⟩,
          ⟨some 152, none, .int .sub (.t 151) (.c (.int .i64 1))⟩,
          ⟨some 11, none, .mov (.t 152)⟩])))))))))
  (.seq
  (.dreg [
    ⟨0, 0, [], 0, ⟨some 153, none, .mov (.t 0)⟩⟩,
    ⟨1, 0, [], 0, ⟨some 154, none, .mov (.t 11)⟩⟩,
    ⟨2, 0, [], 0, ⟨some 155, none, .mov (.t 0)⟩⟩,
    ⟨3, 0, [], 0, ⟨some 156, none, .mov (.t 1)⟩⟩,
    ⟨4, 0, [], 0, ⟨some 157, none, .mov (.t 0)⟩⟩,
    ⟨5, 0, [], 0, ⟨some 158, none, .mov (.t 1)⟩⟩,
    ⟨6, 0, [], 48, ⟨some 159, none, .ia 1 (.t 157) (.t 158)⟩⟩,
    ⟨7, 0, [], 112, ⟨some 160, none, .load 1 false (.t 159)⟩⟩,
    ⟨8, 0, [], 0, ⟨some 161, none, .mov (.t 0)⟩⟩,
    ⟨9, 0, [], 0, ⟨some 162, none, .mov (.t 11)⟩⟩,
    ⟨10, 0, [], 768, ⟨some 163, none, .ia 1 (.t 161) (.t 162)⟩⟩,
    ⟨11, 0, [], 1792, ⟨some 164, none, .load 1 false (.t 163)⟩⟩,
    ⟨12, 0, [], 4083, ⟨some 165, none, .ia 1 (.t 153) (.t 154)⟩⟩,
    ⟨13, 1, [2, 3], 8179, ⟨none, none, .store 1 (.t 165) (.t 160)⟩⟩,
    ⟨14, 0, [], 16383, ⟨some 166, none, .ia 1 (.t 155) (.t 156)⟩⟩,
    ⟨15, 1, [], 32767, ⟨none, none, .store 1 (.t 166) (.t 164)⟩⟩])
  (.seq
  (.reg [
    ⟨some 167, none, .mov (.t 11)⟩,
    ⟨some 8, none, .mov (.t 167)⟩,
    ⟨some 9, none, .mov (.c (.bool false))⟩])
  .ret))))))))))))⟩

theorem c81 : chkF Go.Proofs.Tryz.prog Go.Proofs.Tryz.f81 m81 = true := by kernel_rfl

/-- math/bits.Len32 -/
def m82 : MFn := ⟨1, 19, [.tmp 2], 0,
  (.seq
  (.reg [
    ⟨some 2, none, .mov (.c (.int .i64 0))⟩])
  (.seq
  (.seq
  (.reg [
    ⟨some 3, none, .mov (.t 0)⟩,
    ⟨some 4, none, .int .geq (.t 3) (.c (.int .u32 65536))⟩])
  (.cond (.t 4)
    (.seq
    (.reg [
      ⟨some 5, none, .mov (.t 0)⟩,
      ⟨some 6, none, .int .shr (.t 5) (.c (.int .u64 16))⟩,
      ⟨some 0, none, .mov (.t 6)⟩])
    (.reg [
      ⟨some 2, none, .mov (.c (.int .i64 16))⟩]))
    .skip))
  (.seq
  (.seq
  (.reg [
    ⟨some 7, none, .mov (.t 0)⟩,
    ⟨some 8, none, .int .geq (.t 7) (.c (.int .u32 256))⟩])
  (.cond (.t 8)
    (.seq
    (.reg [
      ⟨some 9, none, .mov (.t 0)⟩,
      ⟨some 10, none, .int .shr (.t 9) (.c (.int .u64 8))⟩,
      ⟨some 0, none, .mov (.t 10)⟩])
    (.reg [
      ⟨some 11, none, .mov (.t 2)⟩,
      ⟨some 12, none, .int .add (.t 11) (.c (.int .i64 8))⟩,
      ⟨some 2, none, .mov (.t 12)⟩]))
    .skip))
  (.seq
  (.reg [
    ⟨some 13, none, .mov (.t 2)⟩,
    ⟨some 14, none, .mov (.t 0)⟩,
    ⟨some 15, none, .conv .u8 (.t 14)⟩,
    ⟨some 16, none, .idx (.c (.str [0, 1, 2, 2, 3, 3, 3, 3, 4, 4, 4, 4, 4, 4, 4, 4, 5, 5, 5, 5, 5, 5, 5, 5, 5, 5, 5, 5, 5, 5, 5, 5, 6, 6, 6, 6, 6, 6, 6, 6, 6, 6, 6, 6, 6, 6, 6, 6, 6, 6, 6, 6, 6, 6, 6, 6, 6, 6, 6, 6, 6, 6, 6, 6, 7, 7, 7, 7, 7, 7, 7, 7, 7, 7, 7, 7, 7, 7, 7, 7, 7, 7, 7, 7, 7, 7, 7, 7, 7, 7, 7, 7, 7, 7, 7, 7, 7, 7, 7, 7, 7, 7, 7, 7, 7, 7, 7, 7, 7, 7, 7, 7, 7, 7, 7, 7, 7, 7, 7, 7, 7, 7, 7, 7, 7, 7, 7, 7, 8, 8, 8, 8, 8, 8, 8, 8, 8, 8, 8, 8, 8, 8, 8, 8, 8, 8, 8, 8, 8, 8, 8, 8, 8, 8, 8, 8, 8, 8, 8, 8, 8, 8, 8, 8, 8, 8, 8, 8, 8, 8, 8, 8, 8, 8, 8, 8, 8, 8, 8, 8, 8, 8, 8, 8, 8, 8, 8, 8, 8, 8, 8, 8, 8, 8, 8, 8, 8, 8, 8, 8, 8, 8, 8, 8, 8, 8, 8, 8, 8, 8, 8, 8, 8, 8, 8, 8, 8, 8, 8, 8, 8, 8, 8, 8, 8, 8, 8, 8, 8, 8, 8, 8, 8, 8, 8, 8, 8, 8, 8, 8, 8, 8, 8, 8, 8, 8, 8, 8, 8, 8, 8, 8, 8, 8, 8, 8])) (.t 15)⟩,
    ⟨some 17, none, .conv .i64 (.t 16)⟩,
    ⟨some 18, none, .int .add (.t 13) (.t 17)⟩,
    ⟨some 2, none, .mov (.t 18)⟩])
  .ret))))⟩

theorem c82 : chkF Go.Proofs.Tryz.prog Go.Proofs.Tryz.f82 m82 = true := by kernel_rfl

/-- math/bits.Len64 -/
def m83 : MFn := ⟨1, 25, [.tmp 2], 0,
  (.seq
  (.reg [
    ⟨some 2, none, .mov (.c (.int .i64 0))⟩])
  (.seq
  (.seq
  (.reg [
    ⟨some 3, none, .mov (.t 0)⟩,
    ⟨some 4, none, .int .geq (.t 3) (.c (.int .u64 4294967296))⟩])
  (.cond (.t 4)
    (.seq
    (.reg [
      ⟨some 5, none, .mov (.t 0)⟩,
      ⟨some 6, none, .int .shr (.t 5) (.c (.int .u64 32))⟩,
      ⟨some 0, none, .mov (.t 6)⟩])
    (.reg [
      ⟨some 2, none, .mov (.c (.int .i64 32))⟩]))
    .skip))
  (.seq
  (.seq
  (.reg [
    ⟨some 7, none, .mov (.t 0)⟩,
    ⟨some 8, none, .int .geq (.t 7) (.c (.int .u64 65536))⟩])
  (.cond (.t 8)
    (.seq
    (.reg [
      ⟨some 9, none, .mov (.t 0)⟩,
      ⟨some 10, none, .int .shr (.t 9) (.c (.int .u64 16))⟩,
      ⟨some 0, none, .mov (.t 10)⟩])
    (.reg [
      ⟨some 11, none, .mov (.t 2)⟩,
      ⟨some 12, none, .int .add (.t 11) (.c (.int .i64 16))⟩,
      ⟨some 2, none, .mov (.t 12)⟩]))
    .skip))
  (.seq
  (.seq
  (.reg [
    ⟨some 13, none, .mov (.t 0)⟩,
    ⟨some 14, none, .int .geq (.t 13) (.c (.int .u64 256))⟩])
  (.cond (.t 14)
    (.seq
    (.reg [
      ⟨some 15, none, .mov (.t 0)⟩,
      ⟨some 16, none, .int .shr (.t 15) (.c (.int .u64 8))⟩,
      ⟨some 0, none, .mov (.t 16)⟩])
    (.reg [
      ⟨some 17, none, .mov (.t 2)⟩,
      ⟨some 18, none, .int .add (.t 17) (.c (.int .i64 8))⟩,
      ⟨some 2, none, .mov (.t 18)⟩]))
    .skip))
  (.seq
  (.reg [
    ⟨some 19, none, .mov (.t 2)⟩,
    ⟨some 20, none, .mov (.t 0)⟩,
    ⟨some 21, none, .conv .u8 (.t 20)⟩,
    ⟨some 22, none, .idx (.c (.str [0, 1, 2, 2, 3, 3, 3, 3, 4, 4, 4, 4, 4, 4, 4, 4, 5, 5, 5, 5, 5, 5, 5, 5, 5, 5, 5, 5, 5, 5, 5, 5, 6, 6, 6, 6, 6, 6, 6, 6, 6, 6, 6, 6, 6, 6, 6, 6, 6, 6, 6, 6, 6, 6, 6, 6, 6, 6, 6, 6, 6, 6, 6, 6, 7, 7, 7, 7, 7, 7, 7, 7, 7, 7, 7, 7, 7, 7, 7, 7, 7, 7, 7, 7, 7, 7, 7, 7, 7, 7, 7, 7, 7, 7, 7, 7, 7, 7, 7, 7, 7, 7, 7, 7, 7, 7, 7, 7, 7, 7, 7, 7, 7, 7, 7, 7, 7, 7, 7, 7, 7, 7, 7, 7, 7, 7, 7, 7, 8, 8, 8, 8, 8, 8, 8, 8, 8, 8, 8, 8, 8, 8, 8, 8, 8, 8, 8, 8, 8, 8, 8, 8, 8, 8, 8, 8, 8, 8, 8, 8, 8, 8, 8, 8, 8, 8, 8, 8, 8, 8, 8, 8, 8, 8, 8, 8, 8, 8, 8, 8, 8, 8, 8, 8, 8, 8, 8, 8, 8, 8, 8, 8, 8, 8, 8, 8, 8, 8, 8, 8, 8, 8, 8, 8, 8, 8, 8, 8, 8, 8, 8, 8, 8, 8, 8, 8, 8, 8, 8, 8, 8, 8, 8, 8, 8, 8, 8, 8, 8, 8, 8, 8, 8, 8, 8, 8, 8, 8, 8, 8, 8, 8, 8, 8, 8, 8, 8, 8, 8, 8, 8, 8, 8, 8, 8, 8])) (.t 21)⟩,
    ⟨some 23, none, .conv .i64 (.t 22)⟩,
    ⟨some 24, none, .int .add (.t 19) (.t 23)⟩,
    ⟨some 2, none, .mov (.t 24)⟩])
  .ret)))))⟩

theorem c83 : chkF Go.Proofs.Tryz.prog Go.Proofs.Tryz.f83 m83 = true := by kernel_rfl

/-- paddock/script.count$1 -/
def m84 : MFn := ⟨3, 33, [], 0,
  (.seq
  (.reg [
    ⟨some 8, none, .mov (.t 0)⟩,
    ⟨some 9, none, .call (.c (.fn 49 [])) [.t 8]⟩])
  (.seq
  (.reg [
    ⟨some 10, none, .mov (.t 0)⟩,
    ⟨some 11, none, .nilc (.t 10)⟩,
    ⟨some 12, none, .fa 1 (.t 11)⟩,
    ⟨some 13, none, .load 1 false (.t 12)⟩,
    ⟨some 5, none, .mov (.t 13)⟩])
  (.seq
  (.reg [
    ⟨some 15, none, .mov (.t 0)⟩,
    ⟨some 16, none, .call (.c (.fn 85 [])) [.t 15]⟩,
    ⟨some 14, none, .mov (.t 16)⟩,
    ⟨some 17, none, .ext (.t 14) 0⟩,
    ⟨some 18, none, .ext (.t 14) 1⟩,
    ⟨some 6, none, .mov (.t 17)⟩,
    ⟨some 7, none, .mov (.t 18)⟩])
  (.seq
  (.seq
  (.reg [
    ⟨some 19, none, .mov (.t 7)⟩,
    ⟨some 20, none, .not (.t 19)⟩])
  (.cond (.t 20)
    (.reg [
      ⟨some 6, none, .mov (.c (.int .i64 (-1)))⟩])
    .skip))
  (.seq
  (.seq
  (.reg [
    ⟨some 21, none, .mov (.t 6)⟩,
    ⟨some 22, none, .load 1 false (.t 2)⟩,
    ⟨some 23, none, .int .gtr (.t 21) (.t 22)⟩])
  (.cond (.t 23)
    (.reg [
      ⟨some 24, none, .mov (.t 0)⟩,
      ⟨some 25, none, .mov (.t 5)⟩,
      ⟨some 26, none, .call (.c (.fn 22 [])) [.t 24, .c (.int .i64 18), .t 25]⟩])
    .skip))
  (.seq
  (.reg [
    ⟨some 27, none, .mov (.t 1)⟩,
    ⟨some 28, none, .mov (.t 6)⟩,
    ⟨some 29, none, .nilc (.t 27)⟩,
    ⟨some 30, none, .fa 35 (.t 29)⟩,
    ⟨none, none, .store 1 (.t 30) (.t 28)⟩])
  (.reg [
    ⟨some 31, none, .mov (.t 0)⟩,
    ⟨some 32, none, .call (.c (.fn 35 [])) [.t 31]⟩])))))))⟩

theorem c84 : chkF Go.Proofs.Tryz.prog Go.Proofs.Tryz.f84 m84 = true := by kernel_rfl

/-- (*paddock/script.reader).number -/
def m85 : MFn := ⟨1, 34, [.tmp 2, .tmp 3], 0,
  (.seq
  (.reg [
    ⟨some 2, none, .mov (.c (.int .i64 0))⟩,
    ⟨some 3, none, .mov (.c (.bool false))⟩])
  (.seq
  (.reg [
    ⟨some 4, none, .mov (.c (.int .i64 0))⟩])
  (.seq
  (.reg [
    ⟨some 6, none, .mov (.t 0)⟩,
    ⟨some 7, none, .nilc (.t 6)⟩,
    ⟨some 8, none, .fa 1 (.t 7)⟩,
    ⟨some 9, none, .load 1 false (.t 8)⟩,
    ⟨some 5, none, .mov (.t 9)⟩])
  (.seq
  (.block 0
    (.loop
      (.seq
      (.seq
      (.reg [
        ⟨some 10, none, .mov (.t 0)⟩,
        ⟨some 11, none, .call (.c (.fn 17 [])) [.t 10]⟩,
        ⟨some 12, none, .call (.c (.fn 93 [])) [.t 11]⟩])
      (.cond (.t 12)
        .skip
        (.exit 0)))
      (.seq
      (.block 1
        (.reg [
          ⟨some 20, none, .mov (.t 4)⟩,
          ⟨some 21, none, .int .mul (.c (.int .i64 10)) (.t 20)⟩,
          ⟨some 22, none, .mov (.t 0)⟩,
          ⟨some 23, none, .call (.c (.fn 17 [])) [.t 22]⟩,
          ⟨some 24, none, .int .add (.t 21) (.t 23)⟩,
          ⟨some 25, none, .int .sub (.t 24) (.c (.int .i64 48))⟩,
          ⟨some 26, none, .minmax false (.t 25) (.c (.int .i64 1073741825))⟩,
          ⟨some 4, none, .mov (.t 26)⟩]))
      (.reg [
        ⟨some 13, none, .mov (.t 0)⟩,
        ⟨some 14, none, .nilc (.t 13)⟩,
        ⟨some 15, none, .fa 1 (.t 14)⟩,
        ⟨some 16, none, .load 1 false (.t 15)⟩,
        ⟨some 17, none, .int .add (.t 16) (.c (.int .i64 1))⟩,
        ⟨some 18, none, .nilc (.t 13)⟩,
        ⟨some 19, none, .fa 1 (.t 18)⟩,
        ⟨none, none, .store 1 (.t 19) (.t 17)⟩])))))
  (.seq
  (.dreg [
    ⟨0, 0, [], 0, ⟨some 27, none, .mov (.t 4)⟩⟩,
    ⟨1, 0, [], 0, ⟨some 28, none, .mov (.t 0)⟩⟩,
    ⟨2, 0, [], 2, ⟨some 29, none, .nilc (.t 28)⟩⟩,
    ⟨3, 0, [], 6, ⟨some 30, none, .fa 1 (.t 29)⟩⟩,
    ⟨4, 0, [], 14, ⟨some 31, none, .load 1 false (.t 30)⟩⟩,
    ⟨5, 0, [], 0, ⟨some 32, none, .mov (.t 5)⟩⟩,
    ⟨6, 0, [], 62, ⟨some 33, none, .int .gtr (.t 31) (.t 32)⟩⟩,
    ⟨7, 0, [], 1, ⟨some 2, none, .mov (.t 27)⟩⟩,
    ⟨8, 0, [], 255, ⟨some 3, none, .mov (.t 33)⟩⟩])
  .ret)))))⟩

theorem c85 : chkF Go.Proofs.Tryz.prog Go.Proofs.Tryz.f85 m85 = true := by kernel_rfl

/-- paddock/script.numbered$1 -/
def m86 : MFn := ⟨2, 23, [.tmp 3], 0,
  (.seq
  (.reg [
    ⟨some 2, none, .box 57 54 (.t 0)⟩,
    ⟨some 3, none, .mov (.c (.bool false))⟩])
  (.seq
  (.reg [
    ⟨some 4, none, .fa 33 (.t 2)⟩,
    ⟨some 5, none, .load 1 false (.t 4)⟩,
    ⟨some 6, none, .strb .eql (.t 5) (.c (.str []))⟩,
    ⟨some 7, none, .mov (.t 6)⟩,
    ⟨some 8, some (7, true), .fa 34 (.t 2)⟩,
    ⟨some 9, some (7, true), .load 1 false (.t 8)⟩,
    ⟨some 10, some (7, true), .strb .eql (.t 9) (.c (.str []))⟩,
    ⟨some 11, none, .pick (.t 7) (.t 10) (.c (.bool false))⟩,
    ⟨some 12, none, .mov (.t 11)⟩,
    ⟨some 13, some (12, true), .fa 35 (.t 2)⟩,
    ⟨some 14, some (12, true), .load 1 false (.t 13)⟩,
    ⟨some 15, some (12, true), .int .geq (.t 14) (.c (.int .i64 (-1)))⟩,
    ⟨some 16, none, .pick (.t 12) (.t 15) (.c (.bool false))⟩,
    ⟨some 17, none, .mov (.t 16)⟩,
    ⟨some 18, some (17, true), .fa 35 (.t 2)⟩,
    ⟨some 19, some (17, true), .load 1 false (.t 18)⟩,
    ⟨some 20, some (17, true), .load 1 false (.t 1)⟩,
    ⟨some 21, some (17, true), .int .leq (.t 19) (.t 20)⟩,
    ⟨some 22, none, .pick (.t 17) (.t 21) (.c (.bool false))⟩,
    ⟨some 3, none, .mov (.t 22)⟩])
  .ret))⟩

theorem c86 : chkF Go.Proofs.Tryz.prog Go.Proofs.Tryz.f86 m86 = true := by kernel_rfl

/-- (*paddock/script.reader).parts -/
def m87 : MFn := ⟨3, 69, [.tmp 6, .cell 7 2 true, .cell 8 2 true], 0,
  (.seq
  (.reg [
    ⟨some 6, none, .mov (.c (.int .u8 0))⟩,
    ⟨some 7, none, .box 132 2 (.c (.agg [.str [], .str []]))⟩,
    ⟨some 8, none, .box 133 2 (.c (.agg [.int .i64 0, .int .i64 0]))⟩])
  (.seq
  (.reg [
    ⟨some 15, none, .mov (.t 0)⟩,
    ⟨some 16, none, .call (.c (.fn 17 [])) [.t 15]⟩,
    ⟨some 9, none, .mov (.t 16)⟩])
  (.seq
  (.seq
  (.reg [
    ⟨some 17, none, .mov (.t 9)⟩,
    ⟨some 18, none, .call (.c (.fn 118 [])) [.t 17]⟩,
    ⟨some 19, none, .not (.t 18)⟩])
  (.cond (.t 19)
    (.reg [
      ⟨some 20, none, .mov (.t 0)⟩,
      ⟨some 21, none, .mov (.t 1)⟩,
      ⟨some 22, none, .nilc (.t 21)⟩,
      ⟨some 23, none, .fa 0 (.t 22)⟩,
      ⟨some 24, none, .load 1 false (.t 23)⟩,
      ⟨some 25, none, .call (.c (.fn 22 [])) [.t 20, .c (.int .i64 14), .t 24]⟩])
    .skip))
  (.seq
  (.reg [
    ⟨some 26, none, .mov (.t 0)⟩,
    ⟨some 27, none, .nilc (.t 26)⟩,
    ⟨some 28, none, .fa 1 (.t 27)⟩,
    ⟨some 29, none, .load 1 false (.t 28)⟩,
    ⟨some 30, none, .int .add (.t 29) (.c (.int .i64 1))⟩,
    ⟨some 31, none, .nilc (.t 26)⟩,
    ⟨some 32, none, .fa 1 (.t 31)⟩,
    ⟨none, none, .store 1 (.t 32) (.t 30)⟩])
  (.seq
  (.reg [
    ⟨some 10, none, .box 132 2 (.c (.agg [.str [], .str []]))⟩])
  (.seq
  (.reg [
    ⟨some 11, none, .box 133 2 (.c (.agg [.int .i64 0, .int .i64 0]))⟩])
  (.seq
  (.seq
  (.reg [
    ⟨some 33, none, .mov (.c (.int .i64 0))⟩])
  (.block 0
    (.loop
      (.seq
      (.reg [
        ⟨some 34, none, .int .lss (.t 33) (.c (.int .i64 2))⟩])
      (.seq
      (.cond (.t 34)
        .skip
        (.exit 0))
      (.seq
      (.block 1
        (.seq
        (.reg [
          ⟨some 35, none, .mov (.t 33)⟩,
          ⟨some 12, none, .mov (.t 35)⟩])
        (.seq
        (.reg [
          ⟨some 36, none, .mov (.t 12)⟩,
          ⟨some 37, none, .mov (.t 0)⟩,
          ⟨some 38, none, .nilc (.t 37)⟩,
          ⟨some 39, none, .fa 1 (.t 38)⟩,
          ⟨some 40, none, .load 1 false (.t 39)⟩,
          ⟨some 41, none, .iaa 1 2 (.t 11) (.t 36)⟩,
          ⟨none, none, .store 1 (.t 41) (.t 40)⟩])
        (.seq
        (.reg [
          ⟨some 43, none, .mov (.t 0)⟩,
          ⟨some 44, none, .mov (.t 9)⟩,
          ⟨some 45, none, .mov (.t 2)⟩,
          ⟨some 46, none, .mov (.t 45)⟩,
          ⟨some 47, some (46, true), .mov (.t 12)⟩,
          ⟨some 48, some (46, true), .int .eql (.t 47) (.c (.int .i64 1))⟩,
          ⟨some 49, none, .pick (.t 46) (.t 48) (.c (.bool false))⟩,
          ⟨some 50, none, .call (.c (.fn 119 [])) [.t 43, .t 44, .t 49]⟩,
          ⟨some 42, none, .mov (.t 50)⟩,
          ⟨some 51, none, .ext (.t 42) 0⟩,
          ⟨some 52, none, .ext (.t 42) 1⟩,
          ⟨some 13, none, .mov (.t 51)⟩,
          ⟨some 14, none, .mov (.t 52)⟩])
        (.seq
        (.seq
        (.reg [
          ⟨some 53, none, .mov (.t 14)⟩,
          ⟨some 54, none, .not (.t 53)⟩])
        (.cond (.t 54)
          (.reg [
            ⟨some 55, none, .mov (.t 0)⟩,
            ⟨some 56, none, .mov (.t 1)⟩,
            ⟨some 57, none, .nilc (.t 56)⟩,
            ⟨some 58, none, .fa 0 (.t 57)⟩,
            ⟨some 59, none, .load 1 false (.t 58)⟩,
            ⟨some 60, none, .call (.c (.fn 22 [])) [.t 55, .c (.int .i64 14), .t 59]⟩])
          .skip))
        (.reg [
          ⟨some 61, none, .mov (.t 12)⟩,
          ⟨some 62, none, .mov (.t 13)⟩,
          ⟨some 63, none, .iaa 1 2 (.t 10) (.t 61)⟩,
          ⟨none, none, .store 1 (.t 63) (.t 62)⟩]))))))
      (.reg [
        ⟨some 64, none, .int .add (.t 33) (.c (.int .i64 1))⟩,
        ⟨some 33, none, .mov (.t 64)⟩])))))))
  (.seq
  (.dreg [
    ⟨0, 0, [], 0, ⟨some 65, none, .mov (.t 9)⟩⟩,
    ⟨1, 0, [], 1, ⟨some 66, none, .conv .u8 (.t 65)⟩⟩,
    ⟨2, 0, [], 0, ⟨some 67, none, .load 2 true (.t 10)⟩⟩,
    ⟨3, 0, [], 0, ⟨some 68, none, .load 2 true (.t 11)⟩⟩,
    ⟨4, 0, [], 3, ⟨some 6, none, .mov (.t 66)⟩⟩,
    ⟨5, 1, [3], 23, ⟨none, none, .store 2 (.t 7) (.t 67)⟩⟩,
    ⟨6, 1, [], 63, ⟨none, none, .store 2 (.t 8) (.t 68)⟩⟩])
  .ret))))))))⟩

theorem c87 : chkF Go.Proofs.Tryz.prog Go.Proofs.Tryz.f87 m87 = true := by kernel_rfl

/-- (*paddock/script.reader).regex -/
def m88 : MFn := ⟨4, 45, [.cell 8 12 true], 0,
  (.seq
  (.reg [
    ⟨some 8, none, .box 50 12 (.c (.agg [.str [], .bool false, .bool false, .int .u8 0, .int .u64 0, .int .u64 0, .int .u64 0, .int .u64 0, .int .i64 0, .int .i64 0, .int .i64 0, .vs true []]))⟩])
  (.seq
  (.seq
  (.reg [
    ⟨some 11, none, .mov (.t 1)⟩,
    ⟨some 12, none, .strb .eql (.t 11) (.c (.str []))⟩,
    ⟨some 13, none, .mov (.t 12)⟩,
    ⟨some 14, some (13, true), .mov (.t 2)⟩,
    ⟨some 15, some (13, true), .not (.t 14)⟩,
    ⟨some 16, none, .pick (.t 13) (.t 15) (.c (.bool false))⟩])
  (.cond (.t 16)
    (.seq
    (.reg [
      ⟨some 17, none, .build [.str [], .bool false, .bool false, .int .u8 0, .int .u64 0, .int .u64 0, .int .u64 0, .int .u64 0, .int .i64 0, .int .i64 0, .int .i64 0, .vs true []] [(1, 1, .c (.bool true))]⟩,
      ⟨none, none, .store 12 (.t 8) (.t 17)⟩])
    .ret)
    .skip))
  (.seq
  (.reg [
    ⟨some 19, none, .mov (.t 1)⟩,
    ⟨some 20, none, .mov (.t 0)⟩,
    ⟨some 21, none, .nilc (.t 20)⟩,
    ⟨some 22, none, .fa 2 (.t 21)⟩,
    ⟨some 23, none, .load 1 false (.t 22)⟩,
    ⟨some 24, none, .call (.c (.fn 120 [])) [.t 19, .t 23]⟩,
    ⟨some 18, none, .mov (.t 24)⟩,
    ⟨some 25, none, .ext (.t 18) 0⟩,
    ⟨some 26, none, .ext (.t 18) 1⟩,
    ⟨some 9, none, .box 48 9 (.c (.agg [.int .u8 0, .int .u64 0, .int .u64 0, .int .u64 0, .int .u64 0, .int .i64 0, .int .i64 0, .int .i64 0, .vs true []]))⟩,
    ⟨none, none, .store 9 (.t 9) (.t 25)⟩,
    ⟨some 10, none, .mov (.t 26)⟩])
  (.seq
  (.seq
  (.reg [
    ⟨some 27, none, .mov (.t 10)⟩,
    ⟨some 28, none, .not (.t 27)⟩,
    ⟨some 29, none, .mov (.t 28)⟩,
    ⟨some 30, some (29, false), .mov (.t 1)⟩,
    ⟨some 31, some (29, false), .strb .eql (.t 30) (.c (.str []))⟩,
    ⟨some 32, none, .pick (.t 29) (.c (.bool true)) (.t 31)⟩,
    ⟨some 33, none, .mov (.t 32)⟩,
    ⟨some 34, some (33, false), .mov (.t 1)⟩,
    ⟨some 35, some (33, false), .lenS (.t 34)⟩,
    ⟨some 36, some (33, false), .int .gtr (.t 35) (.c (.int .i64 4096))⟩,
    ⟨some 37, none, .pick (.t 33) (.c (.bool true)) (.t 36)⟩])
  (.cond (.t 37)
    (.reg [
      ⟨some 38, none, .mov (.t 0)⟩,
      ⟨some 39, none, .mov (.t 3)⟩,
      ⟨some 40, none, .call (.c (.fn 22 [])) [.t 38, .c (.int .i64 3), .t 39]⟩])
    .skip))
  (.seq
  (.reg [
    ⟨some 41, none, .mov (.t 1)⟩,
    ⟨some 42, none, .mov (.t 2)⟩,
    ⟨some 43, none, .load 9 true (.t 9)⟩,
    ⟨some 44, none, .build [.str [], .bool false, .bool false, .int .u8 0, .int .u64 0, .int .u64 0, .int .u64 0, .int .u64 0, .int .i64 0, .int .i64 0, .int .i64 0, .vs true []] [(0, 1, .t 41), (2, 1, .t 42), (3, 9, .t 43)]⟩,
    ⟨none, none, .store 12 (.t 8) (.t 44)⟩])
  .ret)))))⟩

theorem c88 : chkF Go.Proofs.Tryz.prog Go.Proofs.Tryz.f88 m88 = true := by kernel_rfl

/-- paddock/script.plainly -/
def m89 : MFn := ⟨2, 60, [.tmp 4], 0,
  (.seq
  (.reg [
    ⟨some 4, none, .mov (.c (.str []))⟩])
  (.seq
  (.reg [
    ⟨some 5, none, .box 146 2 (.c (.agg [.nilp, .vs true []]))⟩])
  (.seq
  (.seq
  (.reg [
    ⟨some 6, none, .mov (.c (.int .i64 0))⟩])
  (.block 0
    (.loop
      (.seq
      (.seq
      (.reg [
        ⟨some 7, none, .mov (.t 6)⟩,
        ⟨some 8, none, .mov (.t 0)⟩,
        ⟨some 9, none, .lenS (.t 8)⟩,
        ⟨some 10, none, .int .lss (.t 7) (.t 9)⟩])
      (.cond (.t 10)
        .skip
        (.exit 0)))
      (.seq
      (.block 1
        (.seq
        (.seq
        (.reg [
          ⟨some 13, none, .mov (.t 0)⟩,
          ⟨some 14, none, .mov (.t 6)⟩,
          ⟨some 15, none, .idx (.t 13) (.t 14)⟩,
          ⟨some 16, none, .int .neq (.t 15) (.c (.int .u8 92))⟩,
          ⟨some 17, none, .mov (.t 16)⟩,
          ⟨some 18, some (17, false), .mov (.t 6)⟩,
          ⟨some 19, some (17, false), .int .add (.t 18) (.c (.int .i64 1))⟩,
          ⟨some 20, some (17, false), .mov (.t 0)⟩,
          ⟨some 21, some (17, false), .lenS (.t 20)⟩,
          ⟨some 22, some (17, false), .int .eql (.t 19) (.t 21)⟩,
          ⟨some 23, none, .pick (.t 17) (.c (.bool true)) (.t 22)⟩])
        (.cond (.t 23)
          (.seq
          (.reg [
            ⟨some 24, none, .mov (.t 0)⟩,
            ⟨some 25, none, .mov (.t 6)⟩,
            ⟨some 26, none, .idx (.t 24) (.t 25)⟩,
            ⟨some 27, none, .call (.c (.fn 100 [])) [.t 5, .t 26]⟩])
          (.exit 1))
          .skip))
        (.seq
        (.reg [
          ⟨some 28, none, .mov (.t 6)⟩,
          ⟨some 29, none, .int .add (.t 28) (.c (.int .i64 1))⟩,
          ⟨some 6, none, .mov (.t 29)⟩])
        (.block 2
          (.seq
          (.reg [
            ⟨some 33, none, .mov (.t 0)⟩,
            ⟨some 34, none, .mov (.t 6)⟩,
            ⟨some 35, none, .idx (.t 33) (.t 34)⟩,
            ⟨some 36, none, .mov (.t 1)⟩,
            ⟨some 37, none, .int .neq (.t 35) (.t 36)⟩,
            ⟨some 32, none, .mov (.t 37)⟩])
          (.cond (.t 32)
            (.reg [
              ⟨some 38, none, .mov (.t 0)⟩,
              ⟨some 39, none, .mov (.t 6)⟩,
              ⟨some 40, none, .int .sub (.t 39) (.c (.int .i64 1))⟩,
              ⟨some 41, none, .mov (.t 6)⟩,
              ⟨some 42, none, .int .add (.t 41) (.c (.int .i64 1))⟩,
              ⟨some 43, none, .sstr (.t 38) (some (.t 40)) (some (.t 42))⟩,
              ⟨some 44, none, .call (.c (.fn 121 [])) [.t 5, .t 43]⟩])
            (.seq
            (.reg [
              ⟨some 46, none, .mov (.t 1)⟩,
              ⟨some 47, none, .call (.c (.fn 51 [])) [.c (.str [46, 91, 42, 36, 43, 63, 40, 41, 123, 125, 124]), .t 46]⟩,
              ⟨some 48, none, .int .geq (.t 47) (.c (.int .i64 0))⟩,
              ⟨some 45, none, .mov (.t 48)⟩])
            (.cond (.t 45)
              (.reg [
                ⟨some 49, none, .mov (.t 1)⟩,
                ⟨some 50, none, .bslice [.int .u8 0] 1 [(0, .t 49)]⟩,
                ⟨some 51, none, .bstr (.t 50)⟩,
                ⟨some 52, none, .strb .add (.c (.str [91])) (.t 51)⟩,
                ⟨some 53, none, .strb .add (.t 52) (.c (.str [93]))⟩,
                ⟨some 54, none, .call (.c (.fn 121 [])) [.t 5, .t 53]⟩])
              (.seq
              (.reg [
                ⟨some 56, none, .mov (.t 1)⟩,
                ⟨some 57, none, .int .eql (.t 56) (.c (.int .u8 94))⟩,
                ⟨some 55, none, .mov (.t 57)⟩])
              (.cond (.t 55)
                (.reg [
                  ⟨some 58, none, .call (.c (.fn 121 [])) [.t 5, .c (.str [92, 94])]⟩])
                (.reg [
                  ⟨some 30, none, .mov (.t 1)⟩,
                  ⟨some 31, none, .call (.c (.fn 100 [])) [.t 5, .t 30]⟩])))))))))))
      (.reg [
        ⟨some 11, none, .mov (.t 6)⟩,
        ⟨some 12, none, .int .add (.t 11) (.c (.int .i64 1))⟩,
        ⟨some 6, none, .mov (.t 12)⟩]))))))
  (.seq
  (.reg [
    ⟨some 59, none, .call (.c (.fn 101 [])) [.t 5]⟩,
    ⟨some 4, none, .mov (.t 59)⟩])
  .ret))))⟩

theorem c89 : chkF Go.Proofs.Tryz.prog Go.Proofs.Tryz.f89 m89 = true := by kernel_rfl

/-- paddock/script.pieces -/
def m90 : MFn := ⟨2, 92, [.tmp 4], 0,
  (.seq
  (.reg [
    ⟨some 4, none, .mov (.c (.vs true []))⟩])
  (.seq
  (.reg [
    ⟨some 5, none, .box 53 1 (.c (.vs true []))⟩])
  (.seq
  (.reg [
    ⟨some 13, none, .mkf 122 [.t 5]⟩,
    ⟨some 6, none, .mov (.t 13)⟩])
  (.seq
  (.seq
  (.reg [
    ⟨some 7, none, .mov (.c (.int .i64 0))⟩])
  (.block 0
    (.loop
      (.seq
      (.seq
      (.reg [
        ⟨some 14, none, .mov (.t 7)⟩,
        ⟨some 15, none, .mov (.t 0)⟩,
        ⟨some 16, none, .lenS (.t 15)⟩,
        ⟨some 17, none, .int .lss (.t 14) (.t 16)⟩])
      (.cond (.t 17)
        .skip
        (.exit 0)))
      (.seq
      (.block 1
        (.seq
        (.reg [
          ⟨some 20, none, .mov (.t 0)⟩,
          ⟨some 21, none, .mov (.t 7)⟩,
          ⟨some 22, none, .idx (.t 20) (.t 21)⟩,
          ⟨some 8, none, .mov (.t 22)⟩])
        (.seq
        (.seq
        (.reg [
          ⟨some 23, none, .mov (.t 8)⟩,
          ⟨some 24, none, .int .eql (.t 23) (.c (.int .u8 38))⟩])
        (.cond (.t 24)
          (.seq
          (.reg [
            ⟨some 25, none, .load 1 false (.t 5)⟩,
            ⟨some 26, none, .build [.int .u8 0, .int .i64 0, .str []] [(0, 1, .c (.int .u8 2))]⟩,
            ⟨some 27, none, .bslice [.int .u8 0, .int .i64 0, .str []] 1 [(0, .t 26)]⟩,
            ⟨some 28, none, .app 161 3 32 (.t 25) (.t 27)⟩,
            ⟨none, none, .store 1 (.t 5) (.t 28)⟩])
          (.exit 1))
          .skip))
        (.seq
        (.seq
        (.reg [
          ⟨some 29, none, .mov (.t 8)⟩,
          ⟨some 30, none, .int .neq (.t 29) (.c (.int .u8 92))⟩,
          ⟨some 31, none, .mov (.t 30)⟩,
          ⟨some 32, some (31, false), .mov (.t 7)⟩,
          ⟨some 33, some (31, false), .int .add (.t 32) (.c (.int .i64 1))⟩,
          ⟨some 34, some (31, false), .mov (.t 0)⟩,
          ⟨some 35, some (31, false), .lenS (.t 34)⟩,
          ⟨some 36, some (31, false), .int .eql (.t 33) (.t 35)⟩,
          ⟨some 37, none, .pick (.t 31) (.c (.bool true)) (.t 36)⟩])
        (.cond (.t 37)
          (.seq
          (.reg [
            ⟨some 38, none, .mov (.t 6)⟩,
            ⟨some 39, none, .mov (.t 8)⟩,
            ⟨some 40, none, .call (.t 38) [.t 39]⟩])
          (.exit 1))
          .skip))
        (.seq
        (.reg [
          ⟨some 41, none, .mov (.t 7)⟩,
          ⟨some 42, none, .int .add (.t 41) (.c (.int .i64 1))⟩,
          ⟨some 7, none, .mov (.t 42)⟩])
        (.seq
        (.reg [
          ⟨some 43, none, .mov (.t 0)⟩,
          ⟨some 44, none, .mov (.t 7)⟩,
          ⟨some 45, none, .idx (.t 43) (.t 44)⟩,
          ⟨some 8, none, .mov (.t 45)⟩])
        (.seq
        (.reg [
          ⟨some 47, none, .call (.c (.fn 123 [])) []⟩,
          ⟨some 48, none, .mov (.t 8)⟩,
          ⟨some 49, none, .mget false (.int .u8 0) true (.t 47) (.t 48)⟩,
          ⟨some 46, none, .mov (.t 49)⟩,
          ⟨some 50, none, .ext (.t 46) 0⟩,
          ⟨some 51, none, .ext (.t 46) 1⟩,
          ⟨some 9, none, .mov (.t 50)⟩,
          ⟨some 10, none, .mov (.t 51)⟩])
        (.seq
        (.reg [
          ⟨some 53, none, .call (.c (.fn 124 [])) []⟩,
          ⟨some 54, none, .mov (.t 8)⟩,
          ⟨some 55, none, .mget false (.int .u8 0) true (.t 53) (.t 54)⟩,
          ⟨some 52, none, .mov (.t 55)⟩,
          ⟨some 56, none, .ext (.t 52) 0⟩,
          ⟨some 57, none, .ext (.t 52) 1⟩,
          ⟨some 11, none, .mov (.t 56)⟩,
          ⟨some 12, none, .mov (.t 57)⟩])
        (.block 2
          (.seq
          (.reg [
            ⟨some 62, none, .mov (.t 8)⟩,
            ⟨some 63, none, .mov (.t 1)⟩,
            ⟨some 64, none, .int .eql (.t 62) (.t 63)⟩,
            ⟨some 61, none, .mov (.t 64)⟩])
          (.cond (.t 61)
            (.reg [
              ⟨some 65, none, .mov (.t 6)⟩,
              ⟨some 66, none, .mov (.t 8)⟩,
              ⟨some 67, none, .call (.t 65) [.t 66]⟩])
            (.seq
            (.reg [
              ⟨some 69, none, .mov (.t 8)⟩,
              ⟨some 70, none, .conv .i64 (.t 69)⟩,
              ⟨some 71, none, .call (.c (.fn 93 [])) [.t 70]⟩,
              ⟨some 68, none, .mov (.t 71)⟩])
            (.cond (.t 68)
              (.reg [
                ⟨some 72, none, .load 1 false (.t 5)⟩,
                ⟨some 73, none, .mov (.t 8)⟩,
                ⟨some 74, none, .int .sub (.t 73) (.c (.int .u8 48))⟩,
                ⟨some 75, none, .conv .i64 (.t 74)⟩,
                ⟨some 76, none, .build [.int .u8 0, .int .i64 0, .str []] [(0, 1, .c (.int .u8 2)), (1, 1, .t 75)]⟩,
                ⟨some 77, none, .bslice [.int .u8 0, .int .i64 0, .str []] 1 [(0, .t 76)]⟩,
                ⟨some 78, none, .app 161 3 32 (.t 72) (.t 77)⟩,
                ⟨none, none, .store 1 (.t 5) (.t 78)⟩])
              (.seq
              (.reg [
                ⟨some 80, none, .mov (.t 10)⟩,
                ⟨some 79, none, .mov (.t 80)⟩])
              (.cond (.t 79)
                (.reg [
                  ⟨some 81, none, .load 1 false (.t 5)⟩,
                  ⟨some 82, none, .mov (.t 9)⟩,
                  ⟨some 83, none, .build [.int .u8 0, .int .i64 0, .str []] [(0, 1, .t 82)]⟩,
                  ⟨some 84, none, .bslice [.int .u8 0, .int .i64 0, .str []] 1 [(0, .t 83)]⟩,
                  ⟨some 85, none, .app 161 3 32 (.t 81) (.t 84)⟩,
                  ⟨none, none, .store 1 (.t 5) (.t 85)⟩])
                (.seq
                (.reg [
                  ⟨some 87, none, .mov (.t 12)⟩,
                  ⟨some 86, none, .mov (.t 87)⟩])
                (.cond (.t 86)
                  (.reg [
                    ⟨some 88, none, .mov (.t 6)⟩,
                    ⟨some 89, none, .mov (.t 11)⟩,
                    ⟨some 90, none, .call (.t 88) [.t 89]⟩])
                  (.reg [
                    ⟨some 58, none, .mov (.t 6)⟩,
                    ⟨some 59, none, .mov (.t 8)⟩,
                    ⟨some 60, none, .call (.t 58) [.t 59]⟩]))))))))))))))))))
      (.reg [
        ⟨some 18, none, .mov (.t 7)⟩,
        ⟨some 19, none, .int .add (.t 18) (.c (.int .i64 1))⟩,
        ⟨some 7, none, .mov (.t 19)⟩]))))))
  (.seq
  (.reg [
    ⟨some 91, none, .load 1 false (.t 5)⟩,
    ⟨some 4, none, .mov (.t 91)⟩])
  .ret)))))⟩

theorem c90 : chkF Go.Proofs.Tryz.prog Go.Proofs.Tryz.f90 m90 = true := by kernel_rfl

/-- paddock/script.grouped -/
def m91 : MFn := ⟨1, 19, [.tmp 2], 0,
  (.seq
  (.reg [
    ⟨some 1, none, .box 57 54 (.t 0)⟩,
    ⟨some 2, none, .mov (.c (.bool false))⟩])
  (.seq
  (.reg [
    ⟨some 4, none, .fa 36 (.t 1)⟩,
    ⟨some 5, none, .fa 3 (.t 4)⟩,
    ⟨some 6, none, .load 9 true (.t 5)⟩,
    ⟨some 7, none, .call (.c (.fn 125 [])) [.t 6]⟩,
    ⟨some 3, none, .box 3 1 (.c (.int .i64 0))⟩,
    ⟨none, none, .store 1 (.t 3) (.t 7)⟩])
  (.seq
  (.reg [
    ⟨some 8, none, .fa 36 (.t 1)⟩,
    ⟨some 9, none, .fa 1 (.t 8)⟩,
    ⟨some 10, none, .load 1 false (.t 9)⟩,
    ⟨some 11, none, .mov (.t 10)⟩,
    ⟨some 12, some (11, false), .fa 48 (.t 1)⟩,
    ⟨some 13, some (11, false), .fa 0 (.t 12)⟩,
    ⟨some 14, some (11, false), .load 1 false (.t 13)⟩,
    ⟨some 15, some (11, false), .mkf 127 [.t 3]⟩,
    ⟨some 16, some (11, false), .call (.c (.fn 126 [])) [.t 14, .t 15]⟩,
    ⟨some 17, some (11, false), .not (.t 16)⟩,
    ⟨some 18, none, .pick (.t 11) (.c (.bool true)) (.t 17)⟩,
    ⟨some 2, none, .mov (.t 18)⟩])
  .ret)))⟩

theorem c91 : chkF Go.Proofs.Tryz.prog Go.Proofs.Tryz.f91 m91 = true := by kernel_rfl

/-- paddock/script.substitute$1 -/
def m92 : MFn := ⟨3, 20, [], 0,
  (.seq
  (.seq
  (.reg [
    ⟨some 5, none, .mov (.t 0)⟩,
    ⟨some 6, none, .nilc (.t 5)⟩,
    ⟨some 7, none, .load 1 false (.t 6)⟩])
  (.cond (.t 7)
    (.reg [
      ⟨some 8, none, .load 1 false (.t 2)⟩,
      ⟨some 9, none, .mov (.t 1)⟩,
      ⟨some 10, none, .call (.c (.fn 22 [])) [.t 8, .c (.int .i64 15), .t 9]⟩])
    .skip))
  (.seq
  (.reg [
    ⟨some 11, none, .mov (.t 0)⟩,
    ⟨some 12, none, .nilc (.t 11)⟩,
    ⟨none, none, .store 1 (.t 12) (.c (.bool true))⟩])
  (.reg [
    ⟨some 13, none, .load 1 false (.t 2)⟩,
    ⟨some 14, none, .nilc (.t 13)⟩,
    ⟨some 15, none, .fa 1 (.t 14)⟩,
    ⟨some 16, none, .load 1 false (.t 15)⟩,
    ⟨some 17, none, .int .add (.t 16) (.c (.int .i64 1))⟩,
    ⟨some 18, none, .nilc (.t 13)⟩,
    ⟨some 19, none, .fa 1 (.t 18)⟩,
    ⟨none, none, .store 1 (.t 19) (.t 17)⟩])))⟩

theorem c92 : chkF Go.Proofs.Tryz.prog Go.Proofs.Tryz.f92 m92 = true := by kernel_rfl

/-- paddock/script.digit -/
def m93 : MFn := ⟨1, 9, [.tmp 2], 0,
  (.seq
  (.reg [
    ⟨some 2, none, .mov (.c (.bool false))⟩])
  (.seq
  (.reg [
    ⟨some 3, none, .mov (.t 0)⟩,
    ⟨some 4, none, .int .geq (.t 3) (.c (.int .i64 48))⟩,
    ⟨some 5, none, .mov (.t 4)⟩,
    ⟨some 6, some (5, true), .mov (.t 0)⟩,
    ⟨some 7, some (5, true), .int .leq (.t 6) (.c (.int .i64 57))⟩,
    ⟨some 8, none, .pick (.t 5) (.t 7) (.c (.bool false))⟩,
    ⟨some 2, none, .mov (.t 8)⟩])
  .ret))⟩

theorem c93 : chkF Go.Proofs.Tryz.prog Go.Proofs.Tryz.f93 m93 = true := by kernel_rfl

/-- (*paddock/script.reader).side -/
def m94 : MFn := ⟨4, 54, [.tmp 8], 0,
  (.seq
  (.reg [
    ⟨some 8, none, .mov (.c (.str []))⟩])
  (.seq
  (.reg [
    ⟨some 9, none, .box 146 2 (.c (.agg [.nilp, .vs true []]))⟩])
  (.seq
  (.seq
  (.reg [
    ⟨some 10, none, .mov (.c (.int .i64 0))⟩])
  (.block 0
    (.loop
      (.seq
      (.seq
      (.reg [
        ⟨some 12, none, .mov (.t 10)⟩,
        ⟨some 13, none, .mov (.t 1)⟩,
        ⟨some 14, none, .lenS (.t 13)⟩,
        ⟨some 15, none, .int .lss (.t 12) (.t 14)⟩])
      (.cond (.t 15)
        .skip
        (.exit 0)))
      (.seq
      (.block 1
        (.seq
        (.reg [
          ⟨some 18, none, .mov (.t 1)⟩,
          ⟨some 19, none, .mov (.t 10)⟩,
          ⟨some 20, none, .idx (.t 18) (.t 19)⟩,
          ⟨some 11, none, .mov (.t 20)⟩])
        (.seq
        (.seq
        (.reg [
          ⟨some 21, none, .mov (.t 11)⟩,
          ⟨some 22, none, .int .eql (.t 21) (.c (.int .u8 92))⟩])
        (.cond (.t 22)
          (.seq
          (.reg [
            ⟨some 23, none, .mov (.t 10)⟩,
            ⟨some 24, none, .int .add (.t 23) (.c (.int .i64 1))⟩,
            ⟨some 10, none, .mov (.t 24)⟩])
          (.block 2
            (.seq
            (.reg [
              ⟨some 32, none, .mov (.t 1)⟩,
              ⟨some 33, none, .mov (.t 10)⟩,
              ⟨some 34, none, .idx (.t 32) (.t 33)⟩,
              ⟨some 35, none, .mov (.t 2)⟩,
              ⟨some 36, none, .int .eql (.t 34) (.t 35)⟩,
              ⟨some 37, none, .mov (.t 36)⟩,
              ⟨some 38, some (37, false), .mov (.t 1)⟩,
              ⟨some 39, some (37, false), .mov (.t 10)⟩,
              ⟨some 40, some (37, false), .idx (.t 38) (.t 39)⟩,
              ⟨some 41, some (37, false), .int .eql (.t 40) (.c (.int .u8 92))⟩,
              ⟨some 42, none, .pick (.t 37) (.c (.bool true)) (.t 41)⟩,
              ⟨some 31, none, .mov (.t 42)⟩])
            (.cond (.t 31)
              (.reg [
                ⟨some 43, none, .mov (.t 1)⟩,
                ⟨some 44, none, .mov (.t 10)⟩,
                ⟨some 45, none, .idx (.t 43) (.t 44)⟩,
                ⟨some 11, none, .mov (.t 45)⟩])
              (.seq
              (.reg [
                ⟨some 47, none, .mov (.t 1)⟩,
                ⟨some 48, none, .mov (.t 10)⟩,
                ⟨some 49, none, .idx (.t 47) (.t 48)⟩,
                ⟨some 50, none, .int .eql (.t 49) (.c (.int .u8 110))⟩,
                ⟨some 46, none, .mov (.t 50)⟩])
              (.cond (.t 46)
                (.reg [
                  ⟨some 11, none, .mov (.c (.int .u8 10))⟩])
                (.reg [
                  ⟨some 25, none, .mov (.t 0)⟩,
                  ⟨some 26, none, .mov (.t 3)⟩,
                  ⟨some 27, none, .mov (.t 10)⟩,
                  ⟨some 28, none, .int .add (.t 26) (.t 27)⟩,
                  ⟨some 29, none, .int .sub (.t 28) (.c (.int .i64 1))⟩,
                  ⟨some 30, none, .call (.c (.fn 22 [])) [.t 25, .c (.int .i64 17), .t 29]⟩])))))))
          .skip))
        (.reg [
          ⟨some 51, none, .mov (.t 11)⟩,
          ⟨some 52, none, .call (.c (.fn 100 [])) [.t 9, .t 51]⟩]))))
      (.reg [
        ⟨some 16, none, .mov (.t 10)⟩,
        ⟨some 17, none, .int .add (.t 16) (.c (.int .i64 1))⟩,
        ⟨some 10, none, .mov (.t 17)⟩]))))))
  (.seq
  (.reg [
    ⟨some 53, none, .call (.c (.fn 101 [])) [.t 9]⟩,
    ⟨some 8, none, .mov (.t 53)⟩])
  .ret))))⟩

theorem c94 : chkF Go.Proofs.Tryz.prog Go.Proofs.Tryz.f94 m94 = true := by kernel_rfl

/-- paddock/script.label$1 -/
def m95 : MFn := ⟨4, 40, [], 0,
  (.seq
  (.reg [
    ⟨some 7, none, .mov (.t 0)⟩,
    ⟨some 8, none, .call (.c (.fn 49 [])) [.t 7]⟩])
  (.seq
  (.reg [
    ⟨some 9, none, .mov (.t 0)⟩,
    ⟨some 10, none, .nilc (.t 9)⟩,
    ⟨some 11, none, .fa 1 (.t 10)⟩,
    ⟨some 12, none, .load 1 false (.t 11)⟩,
    ⟨some 6, none, .mov (.t 12)⟩])
  (.seq
  (.reg [
    ⟨some 13, none, .mov (.t 1)⟩,
    ⟨some 14, none, .mov (.t 0)⟩,
    ⟨some 15, none, .load 1 false (.t 2)⟩,
    ⟨some 16, none, .call (.c (.fn 19 [])) [.t 14, .t 15]⟩,
    ⟨some 17, none, .call (.c (.fn 96 [])) [.t 16, .c (.str [32, 9])]⟩,
    ⟨some 18, none, .nilc (.t 13)⟩,
    ⟨some 19, none, .fa 33 (.t 18)⟩,
    ⟨none, none, .store 1 (.t 19) (.t 17)⟩])
  (.seq
  (.reg [
    ⟨some 20, none, .mov (.t 1)⟩,
    ⟨some 21, none, .nilc (.t 20)⟩,
    ⟨some 22, none, .fa 33 (.t 21)⟩,
    ⟨some 23, none, .load 1 false (.t 22)⟩,
    ⟨some 24, none, .strb .eql (.t 23) (.c (.str []))⟩,
    ⟨some 25, none, .mov (.t 24)⟩,
    ⟨some 26, some (25, true), .load 1 false (.t 3)⟩,
    ⟨some 27, some (25, true), .not (.t 26)⟩,
    ⟨some 28, none, .pick (.t 25) (.t 27) (.c (.bool false))⟩,
    ⟨some 29, none, .mov (.t 28)⟩,
    ⟨some 30, some (29, false), .mov (.t 1)⟩,
    ⟨some 31, some (29, false), .nilc (.t 30)⟩,
    ⟨some 32, some (29, false), .fa 33 (.t 31)⟩,
    ⟨some 33, some (29, false), .load 1 false (.t 32)⟩,
    ⟨some 34, some (29, false), .lenS (.t 33)⟩,
    ⟨some 35, some (29, false), .int .gtr (.t 34) (.c (.int .i64 64))⟩,
    ⟨some 36, none, .pick (.t 29) (.c (.bool true)) (.t 35)⟩])
  (.cond (.t 36)
    (.reg [
      ⟨some 37, none, .mov (.t 0)⟩,
      ⟨some 38, none, .mov (.t 6)⟩,
      ⟨some 39, none, .call (.c (.fn 22 [])) [.t 37, .c (.int .i64 9), .t 38]⟩])
    .skip)))))⟩

theorem c95 : chkF Go.Proofs.Tryz.prog Go.Proofs.Tryz.f95 m95 = true := by kernel_rfl

/-- strings.TrimRight -/
def m96 : MFn := ⟨2, 37, [.tmp 4], 0,
  (.seq
  (.reg [
    ⟨some 4, none, .mov (.c (.str []))⟩])
  (.seq
  (.seq
  (.reg [
    ⟨some 7, none, .mov (.t 0)⟩,
    ⟨some 8, none, .strb .eql (.t 7) (.c (.str []))⟩,
    ⟨some 9, none, .mov (.t 8)⟩,
    ⟨some 10, some (9, false), .mov (.t 1)⟩,
    ⟨some 11, some (9, false), .strb .eql (.t 10) (.c (.str []))⟩,
    ⟨some 12, none, .pick (.t 9) (.c (.bool true)) (.t 11)⟩])
  (.cond (.t 12)
    (.seq
    (.reg [
      ⟨some 13, none, .mov (.t 0)⟩,
      ⟨some 4, none, .mov (.t 13)⟩])
    .ret)
    .skip))
  (.seq
  (.seq
  (.reg [
    ⟨some 14, none, .mov (.t 1)⟩,
    ⟨some 15, none, .lenS (.t 14)⟩,
    ⟨some 16, none, .int .eql (.t 15) (.c (.int .i64 1))⟩,
    ⟨some 17, none, .mov (.t 16)⟩,
    ⟨some 18, some (17, true), .mov (.t 1)⟩,
    ⟨some 19, some (17, true), .idx (.t 18) (.c (.int .i64 0))⟩,
    ⟨some 20, some (17, true), .int .lss (.t 19) (.c (.int .u8 128))⟩,
    ⟨some 21, none, .pick (.t 17) (.t 20) (.c (.bool false))⟩])
  (.cond (.t 21)
    (.seq
    (.reg [
      ⟨some 22, none, .mov (.t 0)⟩,
      ⟨some 23, none, .mov (.t 1)⟩,
      ⟨some 24, none, .idx (.t 23) (.c (.int .i64 0))⟩,
      ⟨some 25, none, .call (.c (.fn 128 [])) [.t 22, .t 24]⟩,
      ⟨some 4, none, .mov (.t 25)⟩])
    .ret)
    .skip))
  (.seq
  (.seq
  (.reg [
    ⟨some 27, none, .mov (.t 1)⟩,
    ⟨some 28, none, .call (.c (.fn 129 [])) [.t 27]⟩,
    ⟨some 26, none, .mov (.t 28)⟩,
    ⟨some 29, none, .ext (.t 26) 0⟩,
    ⟨some 30, none, .ext (.t 26) 1⟩,
    ⟨some 5, none, .box 185 256 (.c (.agg [.bool false, .bool false, .bool false, .bool false, .bool false, .bool false, .bool false, .bool false, .bool false, .bool false, .bool false, .bool false, .bool false, .bool false, .bool false, .bool false, .bool false, .bool false, .bool false, .bool false, .bool false, .bool false, .bool false, .bool false, .bool false, .bool false, .bool false, .bool false, .bool false, .bool false, .bool false, .bool false, .bool false, .bool false, .bool false, .bool false, .bool false, .bool false, .bool false, .bool false, .bool false, .bool false, .bool false, .bool false, .bool false, .bool false, .bool false, .bool false, .bool false, .bool false, .bool false, .bool false, .bool false, .bool false, .bool false, .bool false, .bool false, .bool false, .bool false, .bool false, .bool false, .bool false, .bool false, .bool false, .bool false, .bool false, .bool false, .bool false, .bool false, .bool false, .bool false, .bool false, .bool false, .bool false, .bool false, .bool false, .bool false, .bool false, .bool false, .bool false, .bool false, .bool false, .bool false, .bool false, .bool false, .bool false, .bool false, .bool false, .bool false, .bool false, .bool false, .bool false, .bool false, .bool false, .bool false, .bool false, .bool false, .bool false, .bool false, .bool false, .bool false, .bool false, .bool false, .bool false, .bool false, .bool false, .bool false, .bool false, .bool false, .bool false, .bool false, .bool false, .bool false, .bool false, .bool false, .bool false, .bool false, .bool false, .bool false, .bool false, .bool false, .bool false, .bool false, .bool false, .bool false, .bool false, .bool false, .bool false, .bool false, .bool false, .bool false, .bool false, .bool false, .bool false, .bool false, .bool false, .bool false, .bool false, .bool false, .bool false, .bool false, .bool false, .bool false, .bool false, .bool false, .bool false, .bool false, .bool false, .bool false, .bool false, .bool false, .bool false, .bool false, .bool false, .bool false, .bool false, .bool false, .bool false, .bool false, .bool false, .bool false, .bool false, .bool false, .bool false, .bool false, .bool false, .bool false, .bool false, .bool false, .bool false, .bool false, .bool false, .bool false, .bool false, .bool false, .bool false, .bool false, .bool false, .bool false, .bool false, .bool false, .bool false, .bool false, .bool false, .bool false, .bool false, .bool false, .bool false, .bool false, .bool false, .bool false, .bool false, .bool false, .bool false, .bool false, .bool false, .bool false, .bool false, .bool false, .bool false, .bool false, .bool false, .bool false, .bool false, .bool false, .bool false, .bool false, .bool false, .bool false, .bool false, .bool false, .bool false, .bool false, .bool false, .bool false, .bool false, .bool false, .bool false, .bool false, .bool false, .bool false, .bool false, .bool false, .bool false, .bool false, .bool false, .bool false, .bool false, .bool false, .bool false, .bool false, .bool false, .bool false, .bool false, .bool false, .bool false, .bool false, .bool false, .bool false, .bool false, .bool false, .bool false, .bool false, .bool false, .bool false, .bool false, .bool false, .bool false, .bool false, .bool false, .bool false, .bool false, .bool false, .bool false, .bool false, .bool false]))⟩,
    ⟨none, none, .store 256 (.t 5) (.t 29)⟩,
    ⟨some 6, none, .mov (.t 30)⟩])
  (.seq
  (.reg [
    ⟨some 31, none, .mov (.t 6)⟩])
  (.cond (.t 31)
    (.seq
    (.reg [
      ⟨some 32, none, .mov (.t 0)⟩,
      ⟨some 33, none, .call (.c (.fn 130 [])) [.t 32, .t 5]⟩,
      ⟨some 4, none, .mov (.t 33)⟩])
    .ret)
    .skip)))
  (.seq
  (.reg [
    ⟨some 34, none, .mov (.t 0)⟩,
    ⟨some 35, none, .mov (.t 1)⟩,
    ⟨some 36, none, .call (.c (.fn 131 [])) [.t 34, .t 35]⟩,
    ⟨some 4, none, .mov (.t 36)⟩])
  .ret)))))⟩

theorem c96 : chkF Go.Proofs.Tryz.prog Go.Proofs.Tryz.f96 m96 = true := by kernel_rfl

/-- paddock/script.texts$1 -/
def m97 : MFn := ⟨2, 18, [.tmp 3], 0,
  (.seq
  (.reg [
    ⟨some 2, none, .box 57 54 (.t 0)⟩,
    ⟨some 3, none, .mov (.c (.bool false))⟩])
  (.seq
  (.reg [
    ⟨some 4, none, .fa 35 (.t 2)⟩,
    ⟨some 5, none, .load 1 false (.t 4)⟩,
    ⟨some 6, none, .int .eql (.t 5) (.c (.int .i64 0))⟩,
    ⟨some 7, none, .mov (.t 6)⟩,
    ⟨some 8, some (7, true), .fa 34 (.t 2)⟩,
    ⟨some 9, some (7, true), .load 1 false (.t 8)⟩,
    ⟨some 10, some (7, true), .strb .eql (.t 9) (.c (.str []))⟩,
    ⟨some 11, none, .pick (.t 7) (.t 10) (.c (.bool false))⟩,
    ⟨some 12, none, .mov (.t 11)⟩,
    ⟨some 13, some (12, true), .load 1 false (.t 1)⟩,
    ⟨some 14, some (12, true), .fa 33 (.t 2)⟩,
    ⟨some 15, some (12, true), .load 1 false (.t 14)⟩,
    ⟨some 16, some (12, true), .call (.t 13) [.t 15]⟩,
    ⟨some 17, none, .pick (.t 12) (.t 16) (.c (.bool false))⟩,
    ⟨some 3, none, .mov (.t 17)⟩])
  .ret))⟩

theorem c97 : chkF Go.Proofs.Tryz.prog Go.Proofs.Tryz.f97 m97 = true := by kernel_rfl

/-- strings.ContainsAny -/
def m98 : MFn := ⟨2, 9, [.tmp 4], 0,
  (.seq
  (.reg [
    ⟨some 4, none, .mov (.c (.bool false))⟩])
  (.seq
  (.reg [
    ⟨some 5, none, .mov (.t 0)⟩,
    ⟨some 6, none, .mov (.t 1)⟩,
    ⟨some 7, none, .call (.c (.fn 132 [])) [.t 5, .t 6]⟩,
    ⟨some 8, none, .int .geq (.t 7) (.c (.int .i64 0))⟩,
    ⟨some 4, none, .mov (.t 8)⟩])
  .ret))⟩

theorem c98 : chkF Go.Proofs.Tryz.prog Go.Proofs.Tryz.f98 m98 = true := by kernel_rfl

/-- internal/stringslite.IndexByte -/
def m99 : MFn := ⟨2, 8, [.tmp 4], 0,
  (.seq
  (.reg [
    ⟨some 4, none, .mov (.c (.int .i64 0))⟩])
  (.seq
  (.reg [
    ⟨some 5, none, .mov (.t 0)⟩,
    ⟨some 6, none, .mov (.t 1)⟩,
    ⟨some 7, none, .call (.c (.fn 133 [])) [.t 5, .t 6]⟩,
    ⟨some 4, none, .mov (.t 7)⟩])
  .ret))⟩

theorem c99 : chkF Go.Proofs.Tryz.prog Go.Proofs.Tryz.f99 m99 = true := by kernel_rfl

/-- (*strings.Builder).WriteByte -/
def m100 : MFn := ⟨2, 17, [.tmp 4], 0,
  (.seq
  (.reg [
    ⟨some 4, none, .mov (.c (.nili))⟩])
  (.seq
  (.reg [
    ⟨some 5, none, .mov (.t 0)⟩,
    ⟨some 6, none, .call (.c (.fn 134 [])) [.t 5]⟩])
  (.seq
  (.reg [
    ⟨some 7, none, .mov (.t 0)⟩,
    ⟨some 8, none, .mov (.t 0)⟩,
    ⟨some 9, none, .nilc (.t 8)⟩,
    ⟨some 10, none, .fa 1 (.t 9)⟩,
    ⟨some 11, none, .load 1 false (.t 10)⟩,
    ⟨some 12, none, .mov (.t 1)⟩,
    ⟨some 13, none, .bslice [.int .u8 0] 1 [(0, .t 12)]⟩,
    ⟨some 14, none, .app 5 1 1 (.t 11) (.t 13)⟩,
    ⟨some 15, none, .nilc (.t 7)⟩,
    ⟨some 16, none, .fa 1 (.t 15)⟩,
    ⟨none, none, .store 1 (.t 16) (.t 14)⟩])
  (.seq
  (.reg [
    ⟨some 4, none, .mov (.c (.nili))⟩])
  .ret))))⟩

theorem c100 : chkF Go.Proofs.Tryz.prog Go.Proofs.Tryz.f100 m100 = true := by kernel_rfl

/-- (*strings.Builder).String -/
def m101 : MFn := ⟨1, 14, [.tmp 2], 0,
  (.seq
  (.reg [
    ⟨some 2, none, .mov (.c (.str []))⟩])
  (.seq
  (.dreg [
    ⟨0, 0, [], 0, ⟨some 3, none, .mov (.t 0)⟩⟩,
    ⟨1, 0, [], 1, ⟨some 4, none, .nilc (.t 3)⟩⟩,
    ⟨2, 0, [], 3, ⟨some 5, none, .fa 1 (.t 4)⟩⟩,
    ⟨3, 0, [], 7, ⟨some 6, none, .load 1 false (.t 5)⟩⟩,
    ⟨5, 0, [], 0, ⟨some 8, none, .mov (.t 0)⟩⟩,
    ⟨6, 0, [], 32, ⟨some 9, none, .nilc (.t 8)⟩⟩,
    ⟨7, 0, [], 96, ⟨some 10, none, .fa 1 (.t 9)⟩⟩,
    ⟨8, 0, [], 224, ⟨some 11, none, .load 1 false (.t 10)⟩⟩,
    ⟨9, 0, [], 480, ⟨some 12, none, .lenL (.t 11)⟩⟩,
    ⟨4, 1, [4, 5, 6, 7, 8], 15, ⟨some 7, none, .usd (.t 6)⟩⟩,
    ⟨10, 1, [], 1023, ⟨some 13, none, .ust 5 (.t 7) (.t 12)⟩⟩,
    ⟨11, 0, [], 2047, ⟨some 2, none, .mov (.t 13)⟩⟩])
  .ret))⟩

theorem c101 : chkF Go.Proofs.Tryz.prog Go.Proofs.Tryz.f101 m101 = true := by kernel_rfl

/-- (*paddock/script.reader).address -/
def m102 : MFn := ⟨2, 160, [.cell 4 15 true], 0,
  (.seq
  (.reg [
    ⟨some 4, none, .box 52 15 (.c (.agg [.int .u8 0, .int .i64 0, .int .i64 0, .str [], .bool false, .bool false, .int .u8 0, .int .u64 0, .int .u64 0, .int .u64 0, .int .u64 0, .int .i64 0, .int .i64 0, .int .i64 0, .vs true []]))⟩])
  (.seq
  (.reg [
    ⟨some 12, none, .mov (.t 0)⟩,
    ⟨some 13, none, .nilc (.t 12)⟩,
    ⟨some 14, none, .fa 1 (.t 13)⟩,
    ⟨some 15, none, .load 1 false (.t 14)⟩,
    ⟨some 5, none, .mov (.t 15)⟩])
  (.seq
  (.reg [
    ⟨some 16, none, .mov (.t 0)⟩,
    ⟨some 17, none, .call (.c (.fn 17 [])) [.t 16]⟩,
    ⟨some 6, none, .mov (.t 17)⟩])
  (.seq
  (.block 0
    (.seq
    (.reg [
      ⟨some 19, none, .mov (.t 6)⟩,
      ⟨some 20, none, .call (.c (.fn 93 [])) [.t 19]⟩,
      ⟨some 18, none, .mov (.t 20)⟩])
    (.cond (.t 18)
      (.seq
      (.reg [
        ⟨some 21, none, .mov (.t 0)⟩,
        ⟨some 22, none, .mov (.t 5)⟩,
        ⟨some 23, none, .call (.c (.fn 135 [])) [.t 21, .t 22]⟩,
        ⟨some 7, none, .mov (.t 23)⟩])
      (.seq
      (.seq
      (.reg [
        ⟨some 24, none, .mov (.t 1)⟩,
        ⟨some 25, none, .mov (.t 24)⟩,
        ⟨some 26, some (25, false), .mov (.t 0)⟩,
        ⟨some 27, some (25, false), .call (.c (.fn 17 [])) [.t 26]⟩,
        ⟨some 28, some (25, false), .int .neq (.t 27) (.c (.int .i64 126))⟩,
        ⟨some 29, none, .pick (.t 25) (.c (.bool true)) (.t 28)⟩])
      (.cond (.t 29)
        (.seq
        (.reg [
          ⟨some 30, none, .mov (.t 7)⟩,
          ⟨some 31, none, .build [.int .u8 0, .int .i64 0, .int .i64 0, .str [], .bool false, .bool false, .int .u8 0, .int .u64 0, .int .u64 0, .int .u64 0, .int .u64 0, .int .i64 0, .int .i64 0, .int .i64 0, .vs true []] [(0, 1, .c (.int .u8 1)), (1, 1, .t 30)]⟩,
          ⟨none, none, .store 15 (.t 4) (.t 31)⟩])
        .ret)
        .skip))
      (.seq
      (.reg [
        ⟨some 32, none, .mov (.t 0)⟩,
        ⟨some 33, none, .nilc (.t 32)⟩,
        ⟨some 34, none, .fa 1 (.t 33)⟩,
        ⟨some 35, none, .load 1 false (.t 34)⟩,
        ⟨some 36, none, .int .add (.t 35) (.c (.int .i64 1))⟩,
        ⟨some 37, none, .nilc (.t 32)⟩,
        ⟨some 38, none, .fa 1 (.t 37)⟩,
        ⟨none, none, .store 1 (.t 38) (.t 36)⟩])
      (.seq
      (.reg [
        ⟨some 39, none, .mov (.t 7)⟩,
        ⟨some 40, none, .mov (.t 0)⟩,
        ⟨some 41, none, .mov (.t 5)⟩,
        ⟨some 42, none, .call (.c (.fn 135 [])) [.t 40, .t 41]⟩,
        ⟨some 43, none, .build [.int .u8 0, .int .i64 0, .int .i64 0, .str [], .bool false, .bool false, .int .u8 0, .int .u64 0, .int .u64 0, .int .u64 0, .int .u64 0, .int .i64 0, .int .i64 0, .int .i64 0, .vs true []] [(0, 1, .c (.int .u8 4)), (1, 1, .t 39), (2, 1, .t 42)]⟩,
        ⟨none, none, .store 15 (.t 4) (.t 43)⟩])
      .ret))))
      (.seq
      (.reg [
        ⟨some 45, none, .mov (.t 6)⟩,
        ⟨some 46, none, .int .eql (.t 45) (.c (.int .i64 36))⟩,
        ⟨some 44, none, .mov (.t 46)⟩])
      (.cond (.t 44)
        (.seq
        (.reg [
          ⟨some 47, none, .mov (.t 0)⟩,
          ⟨some 48, none, .nilc (.t 47)⟩,
          ⟨some 49, none, .fa 1 (.t 48)⟩,
          ⟨some 50, none, .load 1 false (.t 49)⟩,
          ⟨some 51, none, .int .add (.t 50) (.c (.int .i64 1))⟩,
          ⟨some 52, none, .nilc (.t 47)⟩,
          ⟨some 53, none, .fa 1 (.t 52)⟩,
          ⟨none, none, .store 1 (.t 53) (.t 51)⟩])
        (.seq
        (.reg [
          ⟨some 54, none, .build [.int .u8 0, .int .i64 0, .int .i64 0, .str [], .bool false, .bool false, .int .u8 0, .int .u64 0, .int .u64 0, .int .u64 0, .int .u64 0, .int .i64 0, .int .i64 0, .int .i64 0, .vs true []] [(0, 1, .c (.int .u8 2))]⟩,
          ⟨none, none, .store 15 (.t 4) (.t 54)⟩])
        .ret))
        (.seq
        (.reg [
          ⟨some 56, none, .mov (.t 1)⟩,
          ⟨some 57, none, .mov (.t 56)⟩,
          ⟨some 58, some (57, true), .mov (.t 6)⟩,
          ⟨some 59, some (57, true), .int .eql (.t 58) (.c (.int .i64 43))⟩,
          ⟨some 60, none, .pick (.t 57) (.t 59) (.c (.bool false))⟩,
          ⟨some 55, none, .mov (.t 60)⟩])
        (.cond (.t 55)
          (.seq
          (.reg [
            ⟨some 61, none, .mov (.t 0)⟩,
            ⟨some 62, none, .nilc (.t 61)⟩,
            ⟨some 63, none, .fa 1 (.t 62)⟩,
            ⟨some 64, none, .load 1 false (.t 63)⟩,
            ⟨some 65, none, .int .add (.t 64) (.c (.int .i64 1))⟩,
            ⟨some 66, none, .nilc (.t 61)⟩,
            ⟨some 67, none, .fa 1 (.t 66)⟩,
            ⟨none, none, .store 1 (.t 67) (.t 65)⟩])
          (.seq
          (.reg [
            ⟨some 68, none, .mov (.t 0)⟩,
            ⟨some 69, none, .mov (.t 5)⟩,
            ⟨some 70, none, .call (.c (.fn 135 [])) [.t 68, .t 69]⟩,
            ⟨some 71, none, .build [.int .u8 0, .int .i64 0, .int .i64 0, .str [], .bool false, .bool false, .int .u8 0, .int .u64 0, .int .u64 0, .int .u64 0, .int .u64 0, .int .i64 0, .int .i64 0, .int .i64 0, .vs true []] [(0, 1, .c (.int .u8 5)), (1, 1, .t 70)]⟩,
            ⟨none, none, .store 15 (.t 4) (.t 71)⟩])
          .ret))
          (.seq
          (.reg [
            ⟨some 73, none, .mov (.t 1)⟩,
            ⟨some 74, none, .mov (.t 73)⟩,
            ⟨some 75, some (74, true), .mov (.t 6)⟩,
            ⟨some 76, some (74, true), .int .eql (.t 75) (.c (.int .i64 126))⟩,
            ⟨some 77, none, .pick (.t 74) (.t 76) (.c (.bool false))⟩,
            ⟨some 72, none, .mov (.t 77)⟩])
          (.cond (.t 72)
            (.seq
            (.reg [
              ⟨some 78, none, .mov (.t 0)⟩,
              ⟨some 79, none, .nilc (.t 78)⟩,
              ⟨some 80, none, .fa 1 (.t 79)⟩,
              ⟨some 81, none, .load 1 false (.t 80)⟩,
              ⟨some 82, none, .int .add (.t 81) (.c (.int .i64 1))⟩,
              ⟨some 83, none, .nilc (.t 78)⟩,
              ⟨some 84, none, .fa 1 (.t 83)⟩,
              ⟨none, none, .store 1 (.t 84) (.t 82)⟩])
            (.seq
            (.reg [
              ⟨some 85, none, .mov (.t 0)⟩,
              ⟨some 86, none, .mov (.t 5)⟩,
              ⟨some 87, none, .call (.c (.fn 135 [])) [.t 85, .t 86]⟩,
              ⟨some 88, none, .build [.int .u8 0, .int .i64 0, .int .i64 0, .str [], .bool false, .bool false, .int .u8 0, .int .u64 0, .int .u64 0, .int .u64 0, .int .u64 0, .int .i64 0, .int .i64 0, .int .i64 0, .vs true []] [(0, 1, .c (.int .u8 6)), (1, 1, .t 87)]⟩,
              ⟨none, none, .store 15 (.t 4) (.t 88)⟩])
            .ret))
            (.seq
            (.reg [
              ⟨some 90, none, .mov (.t 6)⟩,
              ⟨some 91, none, .int .neq (.t 90) (.c (.int .i64 47))⟩,
              ⟨some 92, none, .mov (.t 91)⟩,
              ⟨some 93, some (92, true), .mov (.t 6)⟩,
              ⟨some 94, some (92, true), .int .neq (.t 93) (.c (.int .i64 92))⟩,
              ⟨some 95, none, .pick (.t 92) (.t 94) (.c (.bool false))⟩,
              ⟨some 89, none, .mov (.t 95)⟩])
            (.cond (.t 89)
              (.seq
              (.seq
              (.reg [
                ⟨some 96, none, .mov (.t 1)⟩])
              (.cond (.t 96)
                (.reg [
                  ⟨some 97, none, .mov (.t 0)⟩,
                  ⟨some 98, none, .mov (.t 5)⟩,
                  ⟨some 99, none, .call (.c (.fn 22 [])) [.t 97, .c (.int .i64 2), .t 98]⟩])
                .skip))
              (.seq
              (.reg [
                ⟨some 100, none, .build [.int .u8 0, .int .i64 0, .int .i64 0, .str [], .bool false, .bool false, .int .u8 0, .int .u64 0, .int .u64 0, .int .u64 0, .int .u64 0, .int .i64 0, .int .i64 0, .int .i64 0, .vs true []] []⟩,
                ⟨none, none, .store 15 (.t 4) (.t 100)⟩])
              .ret))
              .skip)))))))))))
  (.seq
  (.reg [
    ⟨some 101, none, .mov (.t 0)⟩,
    ⟨some 102, none, .nilc (.t 101)⟩,
    ⟨some 103, none, .fa 1 (.t 102)⟩,
    ⟨some 104, none, .load 1 false (.t 103)⟩,
    ⟨some 105, none, .int .add (.t 104) (.c (.int .i64 1))⟩,
    ⟨some 106, none, .nilc (.t 101)⟩,
    ⟨some 107, none, .fa 1 (.t 106)⟩,
    ⟨none, none, .store 1 (.t 107) (.t 105)⟩])
  (.seq
  (.seq
  (.reg [
    ⟨some 108, none, .mov (.t 6)⟩,
    ⟨some 109, none, .int .eql (.t 108) (.c (.int .i64 92))⟩])
  (.cond (.t 109)
    (.seq
    (.reg [
      ⟨some 110, none, .mov (.t 0)⟩,
      ⟨some 111, none, .call (.c (.fn 17 [])) [.t 110]⟩,
      ⟨some 6, none, .mov (.t 111)⟩])
    (.seq
    (.seq
    (.reg [
      ⟨some 112, none, .mov (.t 6)⟩,
      ⟨some 113, none, .call (.c (.fn 118 [])) [.t 112]⟩,
      ⟨some 114, none, .not (.t 113)⟩])
    (.cond (.t 114)
      (.reg [
        ⟨some 115, none, .mov (.t 0)⟩,
        ⟨some 116, none, .mov (.t 5)⟩,
        ⟨some 117, none, .call (.c (.fn 22 [])) [.t 115, .c (.int .i64 2), .t 116]⟩])
      .skip))
    (.reg [
      ⟨some 118, none, .mov (.t 0)⟩,
      ⟨some 119, none, .nilc (.t 118)⟩,
      ⟨some 120, none, .fa 1 (.t 119)⟩,
      ⟨some 121, none, .load 1 false (.t 120)⟩,
      ⟨some 122, none, .int .add (.t 121) (.c (.int .i64 1))⟩,
      ⟨some 123, none, .nilc (.t 118)⟩,
      ⟨some 124, none, .fa 1 (.t 123)⟩,
      ⟨none, none, .store 1 (.t 124) (.t 122)⟩])))
    .skip))
  (.seq
  (.reg [
    ⟨some 125, none, .mov (.t 0)⟩,
    ⟨some 126, none, .nilc (.t 125)⟩,
    ⟨some 127, none, .fa 1 (.t 126)⟩,
    ⟨some 128, none, .load 1 false (.t 127)⟩,
    ⟨some 8, none, .mov (.t 128)⟩])
  (.seq
  (.reg [
    ⟨some 130, none, .mov (.t 0)⟩,
    ⟨some 131, none, .mov (.t 6)⟩,
    ⟨some 132, none, .call (.c (.fn 119 [])) [.t 130, .t 131, .c (.bool false)]⟩,
    ⟨some 129, none, .mov (.t 132)⟩,
    ⟨some 133, none, .ext (.t 129) 0⟩,
    ⟨some 134, none, .ext (.t 129) 1⟩,
    ⟨some 9, none, .mov (.t 133)⟩,
    ⟨some 10, none, .mov (.t 134)⟩])
  (.seq
  (.seq
  (.reg [
    ⟨some 135, none, .mov (.t 10)⟩,
    ⟨some 136, none, .not (.t 135)⟩])
  (.cond (.t 136)
    (.reg [
      ⟨some 137, none, .mov (.t 0)⟩,
      ⟨some 138, none, .mov (.t 5)⟩,
      ⟨some 139, none, .call (.c (.fn 22 [])) [.t 137, .c (.int .i64 2), .t 138]⟩])
    .skip))
  (.seq
  (.reg [
    ⟨some 140, none, .mov (.t 0)⟩,
    ⟨some 141, none, .call (.c (.fn 17 [])) [.t 140]⟩,
    ⟨some 142, none, .int .eql (.t 141) (.c (.int .i64 73))⟩,
    ⟨some 11, none, .mov (.t 142)⟩])
  (.seq
  (.seq
  (.reg [
    ⟨some 143, none, .mov (.t 11)⟩])
  (.cond (.t 143)
    (.reg [
      ⟨some 144, none, .mov (.t 0)⟩,
      ⟨some 145, none, .nilc (.t 144)⟩,
      ⟨some 146, none, .fa 1 (.t 145)⟩,
      ⟨some 147, none, .load 1 false (.t 146)⟩,
      ⟨some 148, none, .int .add (.t 147) (.c (.int .i64 1))⟩,
      ⟨some 149, none, .nilc (.t 144)⟩,
      ⟨some 150, none, .fa 1 (.t 149)⟩,
      ⟨none, none, .store 1 (.t 150) (.t 148)⟩])
    .skip))
  (.seq
  (.reg [
    ⟨some 151, none, .mov (.t 0)⟩,
    ⟨some 152, none, .mov (.t 9)⟩,
    ⟨some 153, none, .mov (.t 6)⟩,
    ⟨some 154, none, .conv .u8 (.t 153)⟩,
    ⟨some 155, none, .call (.c (.fn 89 [])) [.t 152, .t 154]⟩,
    ⟨some 156, none, .mov (.t 11)⟩,
    ⟨some 157, none, .mov (.t 8)⟩,
    ⟨some 158, none, .call (.c (.fn 88 [])) [.t 151, .t 155, .t 156, .t 157]⟩,
    ⟨some 159, none, .build [.int .u8 0, .int .i64 0, .int .i64 0, .str [], .bool false, .bool false, .int .u8 0, .int .u64 0, .int .u64 0, .int .u64 0, .int .u64 0, .int .i64 0, .int .i64 0, .int .i64 0, .vs true []] [(0, 1, .c (.int .u8 3)), (3, 12, .t 158)]⟩,
    ⟨none, none, .store 15 (.t 4) (.t 159)⟩])
  .ret))))))))))))⟩

theorem c102 : chkF Go.Proofs.Tryz.prog Go.Proofs.Tryz.f102 m102 = true := by kernel_rfl

/-- paddock/script.front -/
def m103 : MFn := ⟨3, 79, [.tmp 6], 0,
  (.seq
  (.reg [
    ⟨some 3, none, .box 57 54 (.t 0)⟩,
    ⟨some 6, none, .mov (.c (.bool false))⟩])
  (.seq
  (.dreg [
    ⟨0, 0, [], 0, ⟨some 9, none, .fa 1 (.t 3)⟩⟩,
    ⟨1, 0, [], 1, ⟨some 10, none, .load 15 true (.t 9)⟩⟩,
    ⟨2, 0, [], 0, ⟨some 11, none, .fa 16 (.t 3)⟩⟩,
    ⟨3, 0, [], 4, ⟨some 12, none, .load 15 true (.t 11)⟩⟩,
    ⟨4, 2, [0, 1, 2, 3], 0, ⟨some 7, none, .box 52 15 (.c (.agg [.int .u8 0, .int .i64 0, .int .i64 0, .str [], .bool false, .bool false, .int .u8 0, .int .u64 0, .int .u64 0, .int .u64 0, .int .u64 0, .int .i64 0, .int .i64 0, .int .i64 0, .vs true []]))⟩⟩,
    ⟨5, 2, [0, 1, 2, 3], 0, ⟨some 8, none, .box 52 15 (.c (.agg [.int .u8 0, .int .i64 0, .int .i64 0, .str [], .bool false, .bool false, .int .u8 0, .int .u64 0, .int .u64 0, .int .u64 0, .int .u64 0, .int .i64 0, .int .i64 0, .int .i64 0, .vs true []]))⟩⟩,
    ⟨6, 1, [2, 3], 51, ⟨none, none, .store 15 (.t 7) (.t 10)⟩⟩,
    ⟨7, 1, [], 127, ⟨none, none, .store 15 (.t 8) (.t 12)⟩⟩])
  (.seq
  (.block 0
    (.seq
    (.reg [
      ⟨some 14, none, .load 15 true (.t 7)⟩,
      ⟨some 15, none, .mov (.t 2)⟩,
      ⟨some 16, none, .call (.c (.fn 136 [])) [.t 14, .t 15]⟩,
      ⟨some 17, none, .not (.t 16)⟩,
      ⟨some 18, none, .mov (.t 17)⟩,
      ⟨some 19, some (18, false), .load 15 true (.t 8)⟩,
      ⟨some 20, some (18, false), .mov (.t 2)⟩,
      ⟨some 21, some (18, false), .call (.c (.fn 136 [])) [.t 19, .t 20]⟩,
      ⟨some 22, some (18, false), .not (.t 21)⟩,
      ⟨some 23, none, .pick (.t 18) (.c (.bool true)) (.t 22)⟩,
      ⟨some 13, none, .mov (.t 23)⟩])
    (.cond (.t 13)
      (.seq
      (.reg [
        ⟨some 6, none, .mov (.c (.bool false))⟩])
      .ret)
      (.seq
      (.reg [
        ⟨some 25, none, .fa 0 (.t 7)⟩,
        ⟨some 26, none, .load 1 false (.t 25)⟩,
        ⟨some 27, none, .int .eql (.t 26) (.c (.int .u8 5))⟩,
        ⟨some 28, none, .mov (.t 27)⟩,
        ⟨some 29, some (28, false), .fa 0 (.t 7)⟩,
        ⟨some 30, some (28, false), .load 1 false (.t 29)⟩,
        ⟨some 31, some (28, false), .int .eql (.t 30) (.c (.int .u8 6))⟩,
        ⟨some 32, none, .pick (.t 28) (.c (.bool true)) (.t 31)⟩,
        ⟨some 33, none, .mov (.t 32)⟩,
        ⟨some 34, some (33, false), .fa 0 (.t 8)⟩,
        ⟨some 35, some (33, false), .load 1 false (.t 34)⟩,
        ⟨some 36, some (33, false), .int .eql (.t 35) (.c (.int .u8 4))⟩,
        ⟨some 37, none, .pick (.t 33) (.c (.bool true)) (.t 36)⟩,
        ⟨some 24, none, .mov (.t 37)⟩])
      (.cond (.t 24)
        (.seq
        (.reg [
          ⟨some 6, none, .mov (.c (.bool false))⟩])
        .ret)
        (.seq
        (.reg [
          ⟨some 39, none, .fa 0 (.t 7)⟩,
          ⟨some 40, none, .load 1 false (.t 39)⟩,
          ⟨some 41, none, .int .eql (.t 40) (.c (.int .u8 0))⟩,
          ⟨some 42, none, .mov (.t 41)⟩,
          ⟨some 43, some (42, true), .fa 0 (.t 8)⟩,
          ⟨some 44, some (42, true), .load 1 false (.t 43)⟩,
          ⟨some 45, some (42, true), .int .neq (.t 44) (.c (.int .u8 0))⟩,
          ⟨some 46, none, .pick (.t 42) (.t 45) (.c (.bool false))⟩,
          ⟨some 38, none, .mov (.t 46)⟩])
        (.cond (.t 38)
          (.seq
          (.reg [
            ⟨some 6, none, .mov (.c (.bool false))⟩])
          .ret)
          (.seq
          (.reg [
            ⟨some 48, none, .fa 0 (.t 7)⟩,
            ⟨some 49, none, .load 1 false (.t 48)⟩,
            ⟨some 50, none, .int .eql (.t 49) (.c (.int .u8 1))⟩,
            ⟨some 51, none, .mov (.t 50)⟩,
            ⟨some 52, some (51, true), .fa 1 (.t 7)⟩,
            ⟨some 53, some (51, true), .load 1 false (.t 52)⟩,
            ⟨some 54, some (51, true), .int .eql (.t 53) (.c (.int .i64 0))⟩,
            ⟨some 55, none, .pick (.t 51) (.t 54) (.c (.bool false))⟩,
            ⟨some 56, none, .mov (.t 55)⟩,
            ⟨some 57, some (56, true), .fa 0 (.t 8)⟩,
            ⟨some 58, some (56, true), .load 1 false (.t 57)⟩,
            ⟨some 59, some (56, true), .int .neq (.t 58) (.c (.int .u8 3))⟩,
            ⟨some 60, none, .pick (.t 56) (.t 59) (.c (.bool false))⟩,
            ⟨some 47, none, .mov (.t 60)⟩])
          (.cond (.t 47)
            (.seq
            (.reg [
              ⟨some 6, none, .mov (.c (.bool false))⟩])
            .ret)
            (.seq
            (.reg [
              ⟨some 62, none, .mov (.t 1)⟩,
              ⟨some 63, none, .int .eql (.t 62) (.c (.int .i64 0))⟩,
              ⟨some 61, none, .mov (.t 63)⟩])
            (.cond (.t 61)
              (.seq
              (.reg [
                ⟨some 64, none, .fa 0 (.t 7)⟩,
                ⟨some 65, none, .load 1 false (.t 64)⟩,
                ⟨some 66, none, .int .eql (.t 65) (.c (.int .u8 0))⟩,
                ⟨some 67, none, .mov (.t 66)⟩,
                ⟨some 68, some (67, true), .fa 31 (.t 3)⟩,
                ⟨some 69, some (67, true), .load 1 false (.t 68)⟩,
                ⟨some 70, some (67, true), .not (.t 69)⟩,
                ⟨some 71, none, .pick (.t 67) (.t 70) (.c (.bool false))⟩,
                ⟨some 6, none, .mov (.t 71)⟩])
              .ret)
              .skip)))))))))))
  (.seq
  (.reg [
    ⟨some 72, none, .mov (.t 1)⟩,
    ⟨some 73, none, .int .eql (.t 72) (.c (.int .i64 2))⟩,
    ⟨some 74, none, .mov (.t 73)⟩,
    ⟨some 75, some (74, false), .fa 0 (.t 8)⟩,
    ⟨some 76, some (74, false), .load 1 false (.t 75)⟩,
    ⟨some 77, some (74, false), .int .eql (.t 76) (.c (.int .u8 0))⟩,
    ⟨some 78, none, .pick (.t 74) (.c (.bool true)) (.t 77)⟩,
    ⟨some 6, none, .mov (.t 78)⟩])
  .ret))))⟩

theorem c103 : chkF Go.Proofs.Tryz.prog Go.Proofs.Tryz.f103 m103 = true := by kernel_rfl

/-- paddock/script.replaces -/
def m104 : MFn := ⟨2, 101, [.tmp 4], 0,
  (.seq
  (.reg [
    ⟨some 2, none, .box 57 54 (.t 0)⟩,
    ⟨some 4, none, .mov (.c (.bool false))⟩])
  (.seq
  (.reg [
    ⟨some 9, none, .fa 48 (.t 2)⟩,
    ⟨some 10, none, .load 6 true (.t 9)⟩,
    ⟨some 5, none, .box 55 6 (.c (.agg [.vs true [], .int .i64 0, .bool false, .bool false, .bool false, .str []]))⟩,
    ⟨none, none, .store 6 (.t 5) (.t 10)⟩])
  (.seq
  (.seq
  (.reg [
    ⟨some 11, none, .fa 36 (.t 2)⟩,
    ⟨some 12, none, .load 12 true (.t 11)⟩,
    ⟨some 13, none, .mov (.t 1)⟩,
    ⟨some 14, none, .call (.c (.fn 137 [])) [.t 12, .t 13]⟩,
    ⟨some 15, none, .not (.t 14)⟩,
    ⟨some 16, none, .mov (.t 15)⟩,
    ⟨some 17, some (16, false), .fa 1 (.t 5)⟩,
    ⟨some 18, some (16, false), .load 1 false (.t 17)⟩,
    ⟨some 19, some (16, false), .call (.c (.fn 138 [])) [.t 18]⟩,
    ⟨some 20, some (16, false), .not (.t 19)⟩,
    ⟨some 21, none, .pick (.t 16) (.c (.bool true)) (.t 20)⟩,
    ⟨some 22, none, .mov (.t 21)⟩,
    ⟨some 23, some (22, false), .fa 5 (.t 5)⟩,
    ⟨some 24, some (22, false), .load 1 false (.t 23)⟩,
    ⟨some 25, some (22, false), .strb .neq (.t 24) (.c (.str []))⟩,
    ⟨some 26, some (22, false), .mov (.t 25)⟩,
    ⟨some 27, some (26, true), .fa 5 (.t 5)⟩,
    ⟨some 28, some (26, true), .load 1 false (.t 27)⟩,
    ⟨some 29, some (26, true), .call (.c (.fn 57 [])) [.t 28]⟩,
    ⟨some 30, some (26, true), .not (.t 29)⟩,
    ⟨some 31, some (22, false), .pick (.t 26) (.t 30) (.c (.bool false))⟩,
    ⟨some 32, none, .pick (.t 22) (.c (.bool true)) (.t 31)⟩])
  (.cond (.t 32)
    (.seq
    (.reg [
      ⟨some 4, none, .mov (.c (.bool false))⟩])
    .ret)
    .skip))
  (.seq
  (.seq
  (.reg [
    ⟨some 33, none, .fa 0 (.t 5)⟩,
    ⟨some 34, none, .load 1 false (.t 33)⟩,
    ⟨some 35, none, .lenL (.t 34)⟩,
    ⟨some 36, none, .mov (.c (.int .i64 0))⟩])
  (.block 0
    (.loop
      (.seq
      (.reg [
        ⟨some 37, none, .int .lss (.t 36) (.t 35)⟩])
      (.seq
      (.cond (.t 37)
        .skip
        (.exit 0))
      (.seq
      (.block 1
        (.seq
        (.reg [
          ⟨some 38, none, .mov (.t 36)⟩,
          ⟨some 39, none, .ia 3 (.t 34) (.t 36)⟩,
          ⟨some 40, none, .load 3 true (.t 39)⟩,
          ⟨some 7, none, .box 161 3 (.c (.agg [.int .u8 0, .int .i64 0, .str []]))⟩,
          ⟨some 6, none, .mov (.t 38)⟩,
          ⟨none, none, .store 3 (.t 7) (.t 40)⟩])
        (.seq
        (.reg [
          ⟨some 41, none, .fa 1 (.t 7)⟩,
          ⟨some 42, none, .load 1 false (.t 41)⟩,
          ⟨some 43, none, .int .eql (.t 42) (.c (.int .i64 0))⟩,
          ⟨some 44, none, .mov (.t 43)⟩,
          ⟨some 45, some (44, true), .fa 2 (.t 7)⟩,
          ⟨some 46, some (44, true), .load 1 false (.t 45)⟩,
          ⟨some 47, some (44, true), .strb .eql (.t 46) (.c (.str []))⟩,
          ⟨some 48, none, .pick (.t 44) (.t 47) (.c (.bool false))⟩,
          ⟨some 8, none, .mov (.t 48)⟩])
        (.seq
        (.seq
        (.reg [
          ⟨some 49, none, .fa 0 (.t 7)⟩,
          ⟨some 50, none, .load 1 false (.t 49)⟩])
        (.block 2
          (.seq
          (.reg [
            ⟨some 52, none, .int .eql (.t 50) (.c (.int .u8 1))⟩,
            ⟨some 51, none, .mov (.t 52)⟩])
          (.cond (.t 51)
            (.reg [
              ⟨some 53, none, .fa 1 (.t 7)⟩,
              ⟨some 54, none, .load 1 false (.t 53)⟩,
              ⟨some 55, none, .int .eql (.t 54) (.c (.int .i64 0))⟩,
              ⟨some 56, none, .mov (.t 55)⟩,
              ⟨some 57, some (56, true), .fa 2 (.t 7)⟩,
              ⟨some 58, some (56, true), .load 1 false (.t 57)⟩,
              ⟨some 59, some (56, true), .strb .neq (.t 58) (.c (.str []))⟩,
              ⟨some 60, none, .pick (.t 56) (.t 59) (.c (.bool false))⟩,
              ⟨some 61, none, .mov (.t 60)⟩,
              ⟨some 62, some (61, true), .mov (.t 6)⟩,
              ⟨some 63, some (61, true), .int .eql (.t 62) (.c (.int .i64 0))⟩,
              ⟨some 64, some (61, true), .mov (.t 63)⟩,
              ⟨some 65, some (64, false), .fa 0 (.t 5)⟩,
              ⟨some 66, some (64, false), .load 1 false (.t 65)⟩,
              ⟨some 67, some (64, false), .mov (.t 6)⟩,
              ⟨some 68, some (64, false), .int .sub (.t 67) (.c (.int .i64 1))⟩,
              ⟨some 69, some (64, false), .ia 3 (.t 66) (.t 68)⟩,
              ⟨some 70, some (64, false), .fa 0 (.t 69)⟩,
              ⟨some 71, some (64, false), .load 1 false (.t 70)⟩,
              ⟨some 72, some (64, false), .int .neq (.t 71) (.c (.int .u8 1))⟩,
              ⟨some 73, some (61, true), .pick (.t 64) (.c (.bool true)) (.t 72)⟩,
              ⟨some 74, none, .pick (.t 61) (.t 73) (.c (.bool false))⟩,
              ⟨some 8, none, .mov (.t 74)⟩])
            (.seq
            (.reg [
              ⟨some 76, none, .int .eql (.t 50) (.c (.int .u8 2))⟩,
              ⟨some 75, none, .mov (.t 76)⟩])
            (.cond (.t 75)
              (.reg [
                ⟨some 77, none, .fa 2 (.t 7)⟩,
                ⟨some 78, none, .load 1 false (.t 77)⟩,
                ⟨some 79, none, .strb .eql (.t 78) (.c (.str []))⟩,
                ⟨some 80, none, .mov (.t 79)⟩,
                ⟨some 81, some (80, true), .fa 1 (.t 7)⟩,
                ⟨some 82, some (80, true), .load 1 false (.t 81)⟩,
                ⟨some 83, some (80, true), .int .geq (.t 82) (.c (.int .i64 0))⟩,
                ⟨some 84, none, .pick (.t 80) (.t 83) (.c (.bool false))⟩,
                ⟨some 85, none, .mov (.t 84)⟩,
                ⟨some 86, some (85, true), .fa 1 (.t 7)⟩,
                ⟨some 87, some (85, true), .load 1 false (.t 86)⟩,
                ⟨some 88, some (85, true), .int .leq (.t 87) (.c (.int .i64 9))⟩,
                ⟨some 89, none, .pick (.t 85) (.t 88) (.c (.bool false))⟩,
                ⟨some 8, none, .mov (.t 89)⟩])
              (.seq
              (.seq
              (.reg [
                ⟨some 91, none, .int .eql (.t 50) (.c (.int .u8 3))⟩,
                ⟨some 90, none, .mov (.t 91)⟩])
              (.cond (.t 90)
                .skip
                (.seq
                (.reg [
                  ⟨some 92, none, .int .eql (.t 50) (.c (.int .u8 4))⟩,
                  ⟨some 90, none, .mov (.t 92)⟩])
                (.cond (.t 90)
                  .skip
                  (.seq
                  (.reg [
                    ⟨some 93, none, .int .eql (.t 50) (.c (.int .u8 5))⟩,
                    ⟨some 90, none, .mov (.t 93)⟩])
                  (.cond (.t 90)
                    .skip
                    (.seq
                    (.reg [
                      ⟨some 94, none, .int .eql (.t 50) (.c (.int .u8 6))⟩,
                      ⟨some 90, none, .mov (.t 94)⟩])
                    (.cond (.t 90)
                      .skip
                      (.reg [
                        ⟨some 95, none, .int .eql (.t 50) (.c (.int .u8 7))⟩,
                        ⟨some 90, none, .mov (.t 95)⟩])))))))))
              (.cond (.t 90)
                .skip
                (.reg [
                  ⟨some 8, none, .mov (.c (.bool false))⟩])))))))))
        (.seq
        (.reg [
          ⟨some 96, none, .mov (.t 8)⟩,
          ⟨some 97, none, .not (.t 96)⟩])
        (.cond (.t 97)
          (.seq
          (.reg [
            ⟨some 4, none, .mov (.c (.bool false))⟩])
          .ret)
          .skip))))))
      (.reg [
        ⟨some 98, none, .int .add (.t 36) (.c (.int .i64 1))⟩,
        ⟨some 36, none, .mov (.t 98)⟩])))))))
  (.seq
  (.reg [
    ⟨some 99, none, .load 54 true (.t 2)⟩,
    ⟨some 100, none, .call (.c (.fn 91 [])) [.t 99]⟩,
    ⟨some 4, none, .mov (.t 100)⟩])
  .ret)))))⟩

theorem c104 : chkF Go.Proofs.Tryz.prog Go.Proofs.Tryz.f104 m104 = true := by kernel_rfl

/-- paddock/script.sameRegex -/
def m105 : MFn := ⟨2, 31, [.tmp 4], 0,
  (.seq
  (.reg [
    ⟨some 2, none, .box 50 12 (.t 0)⟩,
    ⟨some 3, none, .box 50 12 (.t 1)⟩,
    ⟨some 4, none, .mov (.c (.bool false))⟩])
  (.seq
  (.reg [
    ⟨some 5, none, .fa 0 (.t 2)⟩,
    ⟨some 6, none, .load 1 false (.t 5)⟩,
    ⟨some 7, none, .fa 0 (.t 3)⟩,
    ⟨some 8, none, .load 1 false (.t 7)⟩,
    ⟨some 9, none, .strb .eql (.t 6) (.t 8)⟩,
    ⟨some 10, none, .mov (.t 9)⟩,
    ⟨some 11, some (10, true), .fa 1 (.t 2)⟩,
    ⟨some 12, some (10, true), .load 1 false (.t 11)⟩,
    ⟨some 13, some (10, true), .fa 1 (.t 3)⟩,
    ⟨some 14, some (10, true), .load 1 false (.t 13)⟩,
    ⟨some 15, some (10, true), .boolb false (.t 12) (.t 14)⟩,
    ⟨some 16, none, .pick (.t 10) (.t 15) (.c (.bool false))⟩,
    ⟨some 17, none, .mov (.t 16)⟩,
    ⟨some 18, some (17, true), .fa 2 (.t 2)⟩,
    ⟨some 19, some (17, true), .load 1 false (.t 18)⟩,
    ⟨some 20, some (17, true), .fa 2 (.t 3)⟩,
    ⟨some 21, some (17, true), .load 1 false (.t 20)⟩,
    ⟨some 22, some (17, true), .boolb false (.t 19) (.t 21)⟩,
    ⟨some 23, none, .pick (.t 17) (.t 22) (.c (.bool false))⟩,
    ⟨some 24, none, .mov (.t 23)⟩,
    ⟨some 25, some (24, true), .fa 3 (.t 2)⟩,
    ⟨some 26, some (24, true), .load 9 true (.t 25)⟩,
    ⟨some 27, some (24, true), .fa 3 (.t 3)⟩,
    ⟨some 28, some (24, true), .load 9 true (.t 27)⟩,
    ⟨some 29, some (24, true), .call (.c (.fn 139 [])) [.t 26, .t 28]⟩,
    ⟨some 30, none, .pick (.t 24) (.t 29) (.c (.bool false))⟩,
    ⟨some 4, none, .mov (.t 30)⟩])
  .ret))⟩

theorem c105 : chkF Go.Proofs.Tryz.prog Go.Proofs.Tryz.f105 m105 = true := by kernel_rfl

/-- paddock/script.sameSubst -/
def m106 : MFn := ⟨2, 45, [.tmp 4], 0,
  (.seq
  (.reg [
    ⟨some 2, none, .box 55 6 (.t 0)⟩,
    ⟨some 3, none, .box 55 6 (.t 1)⟩,
    ⟨some 4, none, .mov (.c (.bool false))⟩])
  (.seq
  (.reg [
    ⟨some 5, none, .fa 1 (.t 2)⟩,
    ⟨some 6, none, .load 1 false (.t 5)⟩,
    ⟨some 7, none, .fa 1 (.t 3)⟩,
    ⟨some 8, none, .load 1 false (.t 7)⟩,
    ⟨some 9, none, .int .eql (.t 6) (.t 8)⟩,
    ⟨some 10, none, .mov (.t 9)⟩,
    ⟨some 11, some (10, true), .fa 2 (.t 2)⟩,
    ⟨some 12, some (10, true), .load 1 false (.t 11)⟩,
    ⟨some 13, some (10, true), .fa 2 (.t 3)⟩,
    ⟨some 14, some (10, true), .load 1 false (.t 13)⟩,
    ⟨some 15, some (10, true), .boolb false (.t 12) (.t 14)⟩,
    ⟨some 16, none, .pick (.t 10) (.t 15) (.c (.bool false))⟩,
    ⟨some 17, none, .mov (.t 16)⟩,
    ⟨some 18, some (17, true), .fa 3 (.t 2)⟩,
    ⟨some 19, some (17, true), .load 1 false (.t 18)⟩,
    ⟨some 20, some (17, true), .fa 3 (.t 3)⟩,
    ⟨some 21, some (17, true), .load 1 false (.t 20)⟩,
    ⟨some 22, some (17, true), .boolb false (.t 19) (.t 21)⟩,
    ⟨some 23, none, .pick (.t 17) (.t 22) (.c (.bool false))⟩,
    ⟨some 24, none, .mov (.t 23)⟩,
    ⟨some 25, some (24, true), .fa 4 (.t 2)⟩,
    ⟨some 26, some (24, true), .load 1 false (.t 25)⟩,
    ⟨some 27, some (24, true), .fa 4 (.t 3)⟩,
    ⟨some 28, some (24, true), .load 1 false (.t 27)⟩,
    ⟨some 29, some (24, true), .boolb false (.t 26) (.t 28)⟩,
    ⟨some 30, none, .pick (.t 24) (.t 29) (.c (.bool false))⟩,
    ⟨some 31, none, .mov (.t 30)⟩,
    ⟨some 32, some (31, true), .fa 5 (.t 2)⟩,
    ⟨some 33, some (31, true), .load 1 false (.t 32)⟩,
    ⟨some 34, some (31, true), .fa 5 (.t 3)⟩,
    ⟨some 35, some (31, true), .load 1 false (.t 34)⟩,
    ⟨some 36, some (31, true), .strb .eql (.t 33) (.t 35)⟩,
    ⟨some 37, none, .pick (.t 31) (.t 36) (.c (.bool false))⟩,
    ⟨some 38, none, .mov (.t 37)⟩,
    ⟨some 39, some (38, true), .fa 0 (.t 2)⟩,
    ⟨some 40, some (38, true), .load 1 false (.t 39)⟩,
    ⟨some 41, some (38, true), .fa 0 (.t 3)⟩,
    ⟨some 42, some (38, true), .load 1 false (.t 41)⟩,
    ⟨some 43, some (38, true), .call (.c (.fn 140 [])) [.t 40, .t 42]⟩,
    ⟨some 44, none, .pick (.t 38) (.t 43) (.c (.bool false))⟩,
    ⟨some 4, none, .mov (.t 44)⟩])
  .ret))⟩

theorem c106 : chkF Go.Proofs.Tryz.prog Go.Proofs.Tryz.f106 m106 = true := by kernel_rfl

/-- paddock/posix.Copy -/
def m108 : MFn := ⟨1, 24, [.cell 2 9 true], 0,
  (.seq
  (.reg [
    ⟨some 1, none, .box 48 9 (.t 0)⟩,
    ⟨some 2, none, .box 48 9 (.c (.agg [.int .u8 0, .int .u64 0, .int .u64 0, .int .u64 0, .int .u64 0, .int .i64 0, .int .i64 0, .int .i64 0, .vs true []]))⟩])
  (.seq
  (.reg [
    ⟨some 6, none, .fa 8 (.t 1)⟩,
    ⟨some 7, none, .load 1 false (.t 6)⟩,
    ⟨some 3, none, .mov (.t 7)⟩])
  (.seq
  (.reg [
    ⟨some 8, none, .fa 8 (.t 1)⟩,
    ⟨none, none, .store 1 (.t 8) (.c (.vs true []))⟩])
  (.seq
  (.seq
  (.reg [
    ⟨some 9, none, .mov (.t 3)⟩,
    ⟨some 10, none, .lenL (.t 9)⟩,
    ⟨some 11, none, .mov (.c (.int .i64 0))⟩])
  (.block 0
    (.loop
      (.seq
      (.reg [
        ⟨some 12, none, .int .lss (.t 11) (.t 10)⟩])
      (.seq
      (.cond (.t 12)
        .skip
        (.exit 0))
      (.seq
      (.block 1
        (.seq
        (.reg [
          ⟨some 13, none, .ia 9 (.t 9) (.t 11)⟩,
          ⟨some 14, none, .load 9 true (.t 13)⟩,
          ⟨some 5, none, .box 48 9 (.c (.agg [.int .u8 0, .int .u64 0, .int .u64 0, .int .u64 0, .int .u64 0, .int .i64 0, .int .i64 0, .int .i64 0, .vs true []]))⟩,
          ⟨none, none, .store 9 (.t 5) (.t 14)⟩])
        (.dreg [
          ⟨0, 0, [], 0, ⟨some 15, none, .fa 8 (.t 1)⟩⟩,
          ⟨1, 0, [], 1, ⟨some 16, none, .load 1 false (.t 15)⟩⟩,
          ⟨2, 0, [], 0, ⟨some 17, none, .load 9 true (.t 5)⟩⟩,
          ⟨3, 1, [0, 1], 4, ⟨some 18, none, .call (.c (.fn 108 [])) [.t 17]⟩⟩,
          ⟨4, 0, [], 12, ⟨some 19, none, .bslice [.int .u8 0, .int .u64 0, .int .u64 0, .int .u64 0, .int .u64 0, .int .i64 0, .int .i64 0, .int .i64 0, .vs true []] 1 [(0, .t 18)]⟩⟩,
          ⟨5, 1, [], 31, ⟨some 20, none, .app 48 9 88 (.t 16) (.t 19)⟩⟩,
          ⟨6, 0, [], 63, ⟨some 21, none, .fa 8 (.t 1)⟩⟩,
          ⟨7, 1, [], 127, ⟨none, none, .store 1 (.t 21) (.t 20)⟩⟩])))
      (.reg [
        ⟨some 22, none, .int .add (.t 11) (.c (.int .i64 1))⟩,
        ⟨some 11, none, .mov (.t 22)⟩])))))))
  (.seq
  (.reg [
    ⟨some 23, none, .load 9 true (.t 1)⟩,
    ⟨none, none, .store 9 (.t 2) (.t 23)⟩])
  .ret)))))⟩

theorem c108 : chkF Go.Proofs.Tryz.prog Go.Proofs.Tryz.f108 m108 = true := by kernel_rfl

/-- internal/strconv.Itoa -/
def m110 : MFn := ⟨1, 5, [.tmp 2], 0,
  (.seq
  (.reg [
    ⟨some 2, none, .mov (.c (.str []))⟩])
  (.seq
  (.reg [
    ⟨some 3, none, .mov (.t 0)⟩,
    ⟨some 4, none, .call (.c (.fn 141 [])) [.t 3, .c (.int .i64 10)]⟩,
    ⟨some 2, none, .mov (.t 4)⟩])
  .ret))⟩

theorem c110 : chkF Go.Proofs.Tryz.prog Go.Proofs.Tryz.f110 m110 = true := by kernel_rfl

/-- slices.Index[[]string,string] -/
def m111 : MFn := ⟨2, 19, [.tmp 4], 0,
  (.seq
  (.reg [
    ⟨some 4, none, .mov (.c (.int .i64 0))⟩])
  (.seq
  (.seq
  (.reg [
    ⟨some 6, none, .mov (.t 0)⟩,
    ⟨some 7, none, .lenL (.t 6)⟩,
    ⟨some 8, none, .mov (.c (.int .i64 0))⟩])
  (.block 0
    (.loop
      (.seq
      (.reg [
        ⟨some 9, none, .int .lss (.t 8) (.t 7)⟩])
      (.seq
      (.cond (.t 9)
        .skip
        (.exit 0))
      (.seq
      (.block 1
        (.seq
        (.reg [
          ⟨some 10, none, .mov (.t 8)⟩,
          ⟨some 5, none, .mov (.t 10)⟩])
        (.seq
        (.reg [
          ⟨some 11, none, .mov (.t 1)⟩,
          ⟨some 12, none, .mov (.t 0)⟩,
          ⟨some 13, none, .mov (.t 5)⟩,
          ⟨some 14, none, .ia 1 (.t 12) (.t 13)⟩,
          ⟨some 15, none, .load 1 false (.t 14)⟩,
          ⟨some 16, none, .strb .eql (.t 11) (.t 15)⟩])
        (.cond (.t 16)
          (.seq
          (.reg [
            ⟨some 17, none, .mov (.t 5)⟩,
            ⟨some 4, none, .mov (.t 17)⟩])
          .ret)
          .skip))))
      (.reg [
        ⟨some 18, none, .int .add (.t 8) (.c (.int .i64 1))⟩,
        ⟨some 8, none, .mov (.t 18)⟩])))))))
  (.seq
  (.reg [
    ⟨some 4, none, .mov (.c (.int .i64 (-1)))⟩])
  .ret)))⟩

theorem c111 : chkF Go.Proofs.Tryz.prog Go.Proofs.Tryz.f111 m111 = true := by kernel_rfl

/-- slices.siftDownOrdered[int] -/
def m112 : MFn := ⟨4, 76, [], 0,
  (.seq
  (.reg [
    ⟨some 10, none, .mov (.t 1)⟩,
    ⟨some 8, none, .mov (.t 10)⟩])
  (.block 0
    (.loop
      (.block 1
        (.seq
        (.reg [
          ⟨some 11, none, .mov (.t 8)⟩,
          ⟨some 12, none, .int .mul (.c (.int .i64 2)) (.t 11)⟩,
          ⟨some 13, none, .int .add (.t 12) (.c (.int .i64 1))⟩,
          ⟨some 9, none, .mov (.t 13)⟩])
        (.seq
        (.seq
        (.reg [
          ⟨some 14, none, .mov (.t 9)⟩,
          ⟨some 15, none, .mov (.t 2)⟩,
          ⟨some 16, none, .int .geq (.t 14) (.t 15)⟩])
        (.cond (.t 16)
          (.exit 0)
          .skip))
        (.seq
        (.seq
        (.dreg [
          ⟨0, 0, [], 0, ⟨some 17, none, .mov (.t 9)⟩⟩,
          ⟨1, 0, [], 1, ⟨some 18, none, .int .add (.t 17) (.c (.int .i64 1))⟩⟩,
          ⟨2, 0, [], 0, ⟨some 19, none, .mov (.t 2)⟩⟩,
          ⟨3, 0, [], 7, ⟨some 20, none, .int .lss (.t 18) (.t 19)⟩⟩,
          ⟨4, 0, [], 15, ⟨some 21, none, .mov (.t 20)⟩⟩,
          ⟨5, 0, [], 31, ⟨some 22, some (21, true), .mov (.t 0)⟩⟩,
          ⟨6, 0, [], 31, ⟨some 23, some (21, true), .mov (.t 3)⟩⟩,
          ⟨7, 0, [], 31, ⟨some 24, some (21, true), .mov (.t 9)⟩⟩,
          ⟨8, 0, [], 223, ⟨some 25, some (21, true), .int .add (.t 23) (.t 24)⟩⟩,
          ⟨9, 0, [], 511, ⟨some 26, some (21, true), .ia 1 (.t 22) (.t 25)⟩⟩,
          ⟨10, 0, [], 1023, ⟨some 27, some (21, true), .load 1 false (.t 26)⟩⟩,
          ⟨11, 0, [], 31, ⟨some 28, some (21, true), .mov (.t 0)⟩⟩,
          ⟨12, 0, [], 31, ⟨some 29, some (21, true), .mov (.t 3)⟩⟩,
          ⟨13, 0, [], 31, ⟨some 30, some (21, true), .mov (.t 9)⟩⟩,
          ⟨14, 0, [], 12319, ⟨some 31, some (21, true), .int .add (.t 29) (.t 30)⟩⟩,
          ⟨15, 0, [], 28703, ⟨some 32, some (21, true), .int .add (.t 31) (.c (.int .i64 1))⟩⟩,
          ⟨16, 0, [], 63519, ⟨some 33, some (21, true), .ia 1 (.t 28) (.t 32)⟩⟩,
          ⟨17, 0, [], 129055, ⟨some 34, some (21, true), .load 1 false (.t 33)⟩⟩,
          ⟨18, 1, [], 262143, ⟨some 35, some (21, true), .call (.c (.fn 79 [])) [.t 27, .t 34]⟩⟩,
          ⟨19, 0, [], 524287, ⟨some 36, none, .pick (.t 21) (.t 35) (.c (.bool false))⟩⟩])
        (.cond (.t 36)
          (.reg [
            ⟨some 37, none, .mov (.t 9)⟩,
            ⟨some 38, none, .int .add (.t 37) (.c (.int .i64 1))⟩,
            ⟨some 9, none, .mov (.t 38)⟩])
          .skip))
        (.seq
        (.seq
        (.dreg [
          ⟨0, 0, [], 0, ⟨some 39, none, .mov (.t 0)⟩⟩,
          ⟨1, 0, [], 0, ⟨some 40, none, .mov (.t 3)⟩⟩,
          ⟨2, 0, [], 0, ⟨some 41, none, .mov (.t 8)⟩⟩,
          ⟨3, 0, [], 6, ⟨some 42, none, .int .add (.t 40) (.t 41)⟩⟩,
          ⟨4, 0, [], 15, ⟨some 43, none, .ia 1 (.t 39) (.t 42)⟩⟩,
          ⟨5, 0, [], 31, ⟨some 44, none, .load 1 false (.t 43)⟩⟩,
          ⟨6, 0, [], 0, ⟨some 45, none, .mov (.t 0)⟩⟩,
          ⟨7, 0, [], 0, ⟨some 46, none, .mov (.t 3)⟩⟩,
          ⟨8, 0, [], 0, ⟨some 47, none, .mov (.t 9)⟩⟩,
          ⟨9, 0, [], 384, ⟨some 48, none, .int .add (.t 46) (.t 47)⟩⟩,
          ⟨10, 0, [], 960, ⟨some 49, none, .ia 1 (.t 45) (.t 48)⟩⟩,
          ⟨11, 0, [], 1984, ⟨some 50, none, .load 1 false (.t 49)⟩⟩,
          ⟨12, 1, [], 4095, ⟨some 51, none, .call (.c (.fn 79 [])) [.t 44, .t 50]⟩⟩,
          ⟨13, 0, [], 8191, ⟨some 52, none, .not (.t 51)⟩⟩])
        (.cond (.t 52)
          .ret
          .skip))
        (.seq
        (.dreg [
          ⟨0, 0, [], 0, ⟨some 53, none, .mov (.t 0)⟩⟩,
          ⟨1, 0, [], 0, ⟨some 54, none, .mov (.t 3)⟩⟩,
          ⟨2, 0, [], 0, ⟨some 55, none, .mov (.t 8)⟩⟩,
          ⟨3, 0, [], 6, ⟨some 56, none, .int .add (.t 54) (.t 55)⟩⟩,
          ⟨4, 0, [], 0, ⟨some 57, none, .mov (.t 0)⟩⟩,
          ⟨5, 0, [], 0, ⟨some 58, none, .mov (.t 3)⟩⟩,
          ⟨6, 0, [], 0, ⟨some 59, none, .mov (.t 9)⟩⟩,
          ⟨7, 0, [], 96, ⟨some 60, none, .int .add (.t 58) (.t 59)⟩⟩,
          ⟨8, 0, [], 0, ⟨some 61, none, .mov (.t 0)⟩⟩,
          ⟨9, 0, [], 0, ⟨some 62, none, .mov (.t 3)⟩⟩,
          ⟨10, 0, [], 0, ⟨some 63, none, .mov (.t 9)⟩⟩,
          ⟨11, 0, [], 1536, ⟨some 64, none, .int .add (.t 62) (.t 63)⟩⟩,
          ⟨12, 0, [], 3840, ⟨some 65, none, .ia 1 (.t 61) (.t 64)⟩⟩,
          ⟨13, 0, [], 7936, ⟨some 66, none, .load 1 false (.t 65)⟩⟩,
          ⟨14, 0, [], 0, ⟨some 67, none, .mov (.t 0)⟩⟩,
          ⟨15, 0, [], 0, ⟨some 68, none, .mov (.t 3)⟩⟩,
          ⟨16, 0, [], 0, ⟨some 69, none, .mov (.t 8)⟩⟩,
          ⟨17, 0, [], 98304, ⟨some 70, none, .int .add (.t 68) (.t 69)⟩⟩,
          ⟨18, 0, [], 245760, ⟨some 71, none, .ia 1 (.t 67) (.t 70)⟩⟩,
          ⟨19, 0, [], 507904, ⟨some 72, none, .load 1 false (.t 71)⟩⟩,
          ⟨20, 0, [], 1048335, ⟨some 73, none, .ia 1 (.t 53) (.t 56)⟩⟩,
          ⟨21, 1, [4, 5, 6, 7], 2096911, ⟨none, none, .store 1 (.t 73) (.t 66)⟩⟩,
          ⟨22, 0, [], 4194303, ⟨some 74, none, .ia 1 (.t 57) (.t 60)⟩⟩,
          ⟨23, 1, [], 8388607, ⟨none, none, .store 1 (.t 74) (.t 72)⟩⟩])
        (.reg [
          ⟨some 75, none, .mov (.t 9)⟩,
          ⟨some 8, none, .mov (.t 75)⟩]))))))))))⟩

theorem c112 : chkF Go.Proofs.Tryz.prog Go.Proofs.Tryz.f112 m112 = true := by kernel_rfl

/-- slices.nextPowerOfTwo -/
def m113 : MFn := ⟨1, 7, [.tmp 2], 0,
  (.seq
  (.reg [
    ⟨some 2, none, .mov (.c (.int .u64 0))⟩])
  (.seq
  (.reg [
    ⟨some 3, none, .mov (.t 0)⟩,
    ⟨some 4, none, .conv .u64 (.t 3)⟩,
    ⟨some 5, none, .call (.c (.fn 33 [])) [.t 4]⟩,
    ⟨some 6, none, .int .shl (.c (.int .u64 1)) (.t 5)⟩,
    ⟨some 2, none, .mov (.t 6)⟩])
  .ret))⟩

theorem c113 : chkF Go.Proofs.Tryz.prog Go.Proofs.Tryz.f113 m113 = true := by kernel_rfl

/-- (*slices.xorshift).Next -/
def m114 : MFn := ⟨1, 33, [.tmp 2], 0,
  (.seq
  (.reg [
    ⟨some 2, none, .mov (.c (.int .u64 0))⟩])
  (.seq
  (.dreg [
    ⟨0, 0, [], 0, ⟨some 3, none, .mov (.t 0)⟩⟩,
    ⟨1, 0, [], 1, ⟨some 4, none, .nilc (.t 3)⟩⟩,
    ⟨2, 0, [], 3, ⟨some 5, none, .load 1 false (.t 4)⟩⟩,
    ⟨3, 0, [], 0, ⟨some 6, none, .mov (.t 0)⟩⟩,
    ⟨4, 0, [], 8, ⟨some 7, none, .nilc (.t 6)⟩⟩,
    ⟨5, 0, [], 24, ⟨some 8, none, .load 1 false (.t 7)⟩⟩,
    ⟨6, 0, [], 56, ⟨some 9, none, .int .shl (.t 8) (.c (.int .u64 13))⟩⟩,
    ⟨7, 0, [], 127, ⟨some 10, none, .int .xor (.t 5) (.t 9)⟩⟩,
    ⟨8, 0, [], 255, ⟨some 11, none, .nilc (.t 3)⟩⟩,
    ⟨9, 1, [], 511, ⟨none, none, .store 1 (.t 11) (.t 10)⟩⟩])
  (.seq
  (.dreg [
    ⟨0, 0, [], 0, ⟨some 12, none, .mov (.t 0)⟩⟩,
    ⟨1, 0, [], 1, ⟨some 13, none, .nilc (.t 12)⟩⟩,
    ⟨2, 0, [], 3, ⟨some 14, none, .load 1 false (.t 13)⟩⟩,
    ⟨3, 0, [], 0, ⟨some 15, none, .mov (.t 0)⟩⟩,
    ⟨4, 0, [], 8, ⟨some 16, none, .nilc (.t 15)⟩⟩,
    ⟨5, 0, [], 24, ⟨some 17, none, .load 1 false (.t 16)⟩⟩,
    ⟨6, 0, [], 56, ⟨some 18, none, .int .shr (.t 17) (.c (.int .u64 7))⟩⟩,
    ⟨7, 0, [], 127, ⟨some 19, none, .int .xor (.t 14) (.t 18)⟩⟩,
    ⟨8, 0, [], 255, ⟨some 20, none, .nilc (.t 12)⟩⟩,
    ⟨9, 1, [], 511, ⟨none, none, .store 1 (.t 20) (.t 19)⟩⟩])
  (.seq
  (.dreg [
    ⟨0, 0, [], 0, ⟨some 21, none, .mov (.t 0)⟩⟩,
    ⟨1, 0, [], 1, ⟨some 22, none, .nilc (.t 21)⟩⟩,
    ⟨2, 0, [], 3, ⟨some 23, none, .load 1 false (.t 22)⟩⟩,
    ⟨3, 0, [], 0, ⟨some 24, none, .mov (.t 0)⟩⟩,
    ⟨4, 0, [], 8, ⟨some 25, none, .nilc (.t 24)⟩⟩,
    ⟨5, 0, [], 24, ⟨some 26, none, .load 1 false (.t 25)⟩⟩,
    ⟨6, 0, [], 56, ⟨some 27, none, .int .shl (.t 26) (.c (.int .u64 17))⟩⟩,
    ⟨7, 0, [], 127, ⟨some 28, none, .int .xor (.t 23) (.t 27)⟩⟩,
    ⟨8, 0, [], 255, ⟨some 29, none, .nilc (.t 21)⟩⟩,
    ⟨9, 1, [], 511, ⟨none, none, .store 1 (.t 29) (.t 28)⟩⟩])
  (.seq
  (.reg [
    ⟨some 30, none, .mov (.t 0)⟩,
    ⟨some 31, none, .nilc (.t 30)⟩,
    ⟨some 32, none, .load 1 false (.t 31)⟩,
    ⟨some 2, none, .mov (.t 32)⟩])
  .ret)))))⟩

theorem c114 : chkF Go.Proofs.Tryz.prog Go.Proofs.Tryz.f114 m114 = true := by kernel_rfl

/-- slices.medianAdjacentOrdered[int] -/
def m115 : MFn := ⟨3, 15, [.tmp 6], 0,
  (.seq
  (.reg [
    ⟨some 6, none, .mov (.c (.int .i64 0))⟩])
  (.seq
  (.reg [
    ⟨some 7, none, .mov (.t 0)⟩,
    ⟨some 8, none, .mov (.t 1)⟩,
    ⟨some 9, none, .int .sub (.t 8) (.c (.int .i64 1))⟩,
    ⟨some 10, none, .mov (.t 1)⟩,
    ⟨some 11, none, .mov (.t 1)⟩,
    ⟨some 12, none, .int .add (.t 11) (.c (.int .i64 1))⟩,
    ⟨some 13, none, .mov (.t 2)⟩,
    ⟨some 14, none, .call (.c (.fn 116 [])) [.t 7, .t 9, .t 10, .t 12, .t 13]⟩,
    ⟨some 6, none, .mov (.t 14)⟩])
  .ret))⟩

theorem c115 : chkF Go.Proofs.Tryz.prog Go.Proofs.Tryz.f115 m115 = true := by kernel_rfl

/-- slices.medianOrdered[int] -/
def m116 : MFn := ⟨5, 36, [.tmp 10], 0,
  (.seq
  (.reg [
    ⟨some 10, none, .mov (.c (.int .i64 0))⟩])
  (.seq
  (.reg [
    ⟨some 12, none, .mov (.t 0)⟩,
    ⟨some 13, none, .mov (.t 1)⟩,
    ⟨some 14, none, .mov (.t 2)⟩,
    ⟨some 15, none, .mov (.t 4)⟩,
    ⟨some 16, none, .call (.c (.fn 142 [])) [.t 12, .t 13, .t 14, .t 15]⟩,
    ⟨some 11, none, .mov (.t 16)⟩,
    ⟨some 17, none, .ext (.t 11) 0⟩,
    ⟨some 18, none, .ext (.t 11) 1⟩,
    ⟨some 1, none, .mov (.t 17)⟩,
    ⟨some 2, none, .mov (.t 18)⟩])
  (.seq
  (.reg [
    ⟨some 20, none, .mov (.t 0)⟩,
    ⟨some 21, none, .mov (.t 2)⟩,
    ⟨some 22, none, .mov (.t 3)⟩,
    ⟨some 23, none, .mov (.t 4)⟩,
    ⟨some 24, none, .call (.c (.fn 142 [])) [.t 20, .t 21, .t 22, .t 23]⟩,
    ⟨some 19, none, .mov (.t 24)⟩,
    ⟨some 25, none, .ext (.t 19) 0⟩,
    ⟨some 26, none, .ext (.t 19) 1⟩,
    ⟨some 2, none, .mov (.t 25)⟩,
    ⟨some 3, none, .mov (.t 26)⟩])
  (.seq
  (.reg [
    ⟨some 28, none, .mov (.t 0)⟩,
    ⟨some 29, none, .mov (.t 1)⟩,
    ⟨some 30, none, .mov (.t 2)⟩,
    ⟨some 31, none, .mov (.t 4)⟩,
    ⟨some 32, none, .call (.c (.fn 142 [])) [.t 28, .t 29, .t 30, .t 31]⟩,
    ⟨some 27, none, .mov (.t 32)⟩,
    ⟨some 33, none, .ext (.t 27) 0⟩,
    ⟨some 34, none, .ext (.t 27) 1⟩,
    ⟨some 1, none, .mov (.t 33)⟩,
    ⟨some 2, none, .mov (.t 34)⟩])
  (.seq
  (.reg [
    ⟨some 35, none, .mov (.t 2)⟩,
    ⟨some 10, none, .mov (.t 35)⟩])
  .ret)))))⟩

theorem c116 : chkF Go.Proofs.Tryz.prog Go.Proofs.Tryz.f116 m116 = true := by kernel_rfl

/-- cmp.isNaN[int] -/
def m117 : MFn := ⟨1, 6, [.tmp 2], 0,
  (.seq
  (.reg [
    ⟨some 2, none, .mov (.c (.bool false))⟩])
  (.seq
  (.reg [
    ⟨some 3, none, .mov (.t 0)⟩,
    ⟨some 4, none, .mov (.t 0)⟩,
    ⟨some 5, none, .int .neq (.t 3) (.t 4)⟩,
    ⟨some 2, none, .mov (.t 5)⟩])
  .ret))⟩

theorem c117 : chkF Go.Proofs.Tryz.prog Go.Proofs.Tryz.f117 m117 = true := by kernel_rfl

/-- paddock/script.delimiter -/
def m118 : MFn := ⟨1, 13, [.tmp 2], 0,
  (.seq
  (.reg [
    ⟨some 2, none, .mov (.c (.bool false))⟩])
  (.seq
  (.reg [
    ⟨some 3, none, .mov (.t 0)⟩,
    ⟨some 4, none, .int .geq (.t 3) (.c (.int .i64 0))⟩,
    ⟨some 5, none, .mov (.t 4)⟩,
    ⟨some 6, some (5, true), .mov (.t 0)⟩,
    ⟨some 7, some (5, true), .int .neq (.t 6) (.c (.int .i64 10))⟩,
    ⟨some 8, none, .pick (.t 5) (.t 7) (.c (.bool false))⟩,
    ⟨some 9, none, .mov (.t 8)⟩,
    ⟨some 10, some (9, true), .mov (.t 0)⟩,
    ⟨some 11, some (9, true), .int .neq (.t 10) (.c (.int .i64 92))⟩,
    ⟨some 12, none, .pick (.t 9) (.t 11) (.c (.bool false))⟩,
    ⟨some 2, none, .mov (.t 12)⟩])
  .ret))⟩

theorem c118 : chkF Go.Proofs.Tryz.prog Go.Proofs.Tryz.f118 m118 = true := by kernel_rfl

/-- (*paddock/script.reader).part -/
def m119 : MFn := ⟨3, 76, [.tmp 6, .tmp 7], 0,
  (.seq
  (.reg [
    ⟨some 6, none, .mov (.c (.str []))⟩,
    ⟨some 7, none, .mov (.c (.bool false))⟩])
  (.seq
  (.reg [
    ⟨some 10, none, .mov (.t 0)⟩,
    ⟨some 11, none, .nilc (.t 10)⟩,
    ⟨some 12, none, .fa 1 (.t 11)⟩,
    ⟨some 13, none, .load 1 false (.t 12)⟩,
    ⟨some 8, none, .mov (.t 13)⟩])
  (.seq
  (.block 0
    (.loop
      (.seq
      (.seq
      (.dreg [
        ⟨0, 0, [], 0, ⟨some 14, none, .mov (.t 0)⟩⟩,
        ⟨1, 0, [], 1, ⟨some 15, none, .nilc (.t 14)⟩⟩,
        ⟨2, 0, [], 3, ⟨some 16, none, .fa 1 (.t 15)⟩⟩,
        ⟨3, 0, [], 7, ⟨some 17, none, .load 1 false (.t 16)⟩⟩,
        ⟨4, 0, [], 0, ⟨some 18, none, .mov (.t 0)⟩⟩,
        ⟨5, 0, [], 16, ⟨some 19, none, .nilc (.t 18)⟩⟩,
        ⟨6, 0, [], 48, ⟨some 20, none, .fa 0 (.t 19)⟩⟩,
        ⟨7, 0, [], 112, ⟨some 21, none, .load 1 false (.t 20)⟩⟩,
        ⟨8, 0, [], 240, ⟨some 22, none, .lenS (.t 21)⟩⟩,
        ⟨9, 0, [], 511, ⟨some 23, none, .int .lss (.t 17) (.t 22)⟩⟩])
      (.cond (.t 23)
        .skip
        (.exit 0)))
      (.block 1
        (.seq
        (.reg [
          ⟨some 24, none, .mov (.t 0)⟩,
          ⟨some 25, none, .call (.c (.fn 17 [])) [.t 24]⟩,
          ⟨some 9, none, .mov (.t 25)⟩])
        (.block 2
          (.seq
          (.reg [
            ⟨some 34, none, .mov (.t 9)⟩,
            ⟨some 35, none, .mov (.t 1)⟩,
            ⟨some 36, none, .int .eql (.t 34) (.t 35)⟩,
            ⟨some 33, none, .mov (.t 36)⟩])
          (.cond (.t 33)
            (.seq
            (.reg [
              ⟨some 37, none, .mov (.t 0)⟩,
              ⟨some 38, none, .nilc (.t 37)⟩,
              ⟨some 39, none, .fa 1 (.t 38)⟩,
              ⟨some 40, none, .load 1 false (.t 39)⟩,
              ⟨some 41, none, .int .add (.t 40) (.c (.int .i64 1))⟩,
              ⟨some 42, none, .nilc (.t 37)⟩,
              ⟨some 43, none, .fa 1 (.t 42)⟩,
              ⟨none, none, .store 1 (.t 43) (.t 41)⟩])
            (.seq
            (.dreg [
              ⟨0, 0, [], 0, ⟨some 44, none, .mov (.t 0)⟩⟩,
              ⟨1, 0, [], 1, ⟨some 45, none, .nilc (.t 44)⟩⟩,
              ⟨2, 0, [], 3, ⟨some 46, none, .fa 0 (.t 45)⟩⟩,
              ⟨3, 0, [], 7, ⟨some 47, none, .load 1 false (.t 46)⟩⟩,
              ⟨4, 0, [], 0, ⟨some 48, none, .mov (.t 8)⟩⟩,
              ⟨5, 0, [], 0, ⟨some 49, none, .mov (.t 0)⟩⟩,
              ⟨6, 0, [], 32, ⟨some 50, none, .nilc (.t 49)⟩⟩,
              ⟨7, 0, [], 96, ⟨some 51, none, .fa 1 (.t 50)⟩⟩,
              ⟨8, 0, [], 224, ⟨some 52, none, .load 1 false (.t 51)⟩⟩,
              ⟨9, 0, [], 480, ⟨some 53, none, .int .sub (.t 52) (.c (.int .i64 1))⟩⟩,
              ⟨10, 0, [], 1023, ⟨some 54, none, .sstr (.t 47) (some (.t 48)) (some (.t 53))⟩⟩,
              ⟨11, 0, [], 2047, ⟨some 6, none, .mov (.t 54)⟩⟩,
              ⟨12, 0, [], 4095, ⟨some 7, none, .mov (.c (.bool true))⟩⟩])
            .ret))
            (.seq
            (.reg [
              ⟨some 56, none, .mov (.t 9)⟩,
              ⟨some 57, none, .int .eql (.t 56) (.c (.int .i64 10))⟩,
              ⟨some 55, none, .mov (.t 57)⟩])
            (.cond (.t 55)
              (.seq
              (.reg [
                ⟨some 6, none, .mov (.c (.str []))⟩,
                ⟨some 7, none, .mov (.c (.bool false))⟩])
              .ret)
              (.seq
              (.reg [
                ⟨some 59, none, .mov (.t 9)⟩,
                ⟨some 60, none, .int .eql (.t 59) (.c (.int .i64 92))⟩,
                ⟨some 61, none, .mov (.t 60)⟩,
                ⟨some 62, some (61, true), .mov (.t 2)⟩,
                ⟨some 63, some (61, true), .mov (.t 62)⟩,
                ⟨some 64, some (63, false), .mov (.t 0)⟩,
                ⟨some 65, some (63, false), .call (.c (.fn 58 [])) [.t 64, .c (.int .i64 1)]⟩,
                ⟨some 66, some (63, false), .int .neq (.t 65) (.c (.int .i64 10))⟩,
                ⟨some 67, some (61, true), .pick (.t 63) (.c (.bool true)) (.t 66)⟩,
                ⟨some 68, none, .pick (.t 61) (.t 67) (.c (.bool false))⟩,
                ⟨some 58, none, .mov (.t 68)⟩])
              (.cond (.t 58)
                (.reg [
                  ⟨some 69, none, .mov (.t 0)⟩,
                  ⟨some 70, none, .nilc (.t 69)⟩,
                  ⟨some 71, none, .fa 1 (.t 70)⟩,
                  ⟨some 72, none, .load 1 false (.t 71)⟩,
                  ⟨some 73, none, .int .add (.t 72) (.c (.int .i64 2))⟩,
                  ⟨some 74, none, .nilc (.t 69)⟩,
                  ⟨some 75, none, .fa 1 (.t 74)⟩,
                  ⟨none, none, .store 1 (.t 75) (.t 73)⟩])
                (.reg [
                  ⟨some 26, none, .mov (.t 0)⟩,
                  ⟨some 27, none, .nilc (.t 26)⟩,
                  ⟨some 28, none, .fa 1 (.t 27)⟩,
                  ⟨some 29, none, .load 1 false (.t 28)⟩,
                  ⟨some 30, none, .int .add (.t 29) (.c (.int .i64 1))⟩,
                  ⟨some 31, none, .nilc (.t 26)⟩,
                  ⟨some 32, none, .fa 1 (.t 31)⟩,
                  ⟨none, none, .store 1 (.t 32) (.t 30)⟩])))))))))))))
  (.seq
  (.reg [
    ⟨some 6, none, .mov (.c (.str []))⟩,
    ⟨some 7, none, .mov (.c (.bool false))⟩])
  .ret))))⟩

theorem c119 : chkF Go.Proofs.Tryz.prog Go.Proofs.Tryz.f119 m119 = true := by kernel_rfl

/-- paddock/script.parsed -/
def m120 : MFn := ⟨2, 27, [.cell 4 9 true, .tmp 5], 0,
  (.seq
  (.reg [
    ⟨some 4, none, .box 48 9 (.c (.agg [.int .u8 0, .int .u64 0, .int .u64 0, .int .u64 0, .int .u64 0, .int .i64 0, .int .i64 0, .int .i64 0, .vs true []]))⟩,
    ⟨some 5, none, .mov (.c (.bool false))⟩])
  (.seq
  (.reg [
    ⟨some 10, none, .mov (.t 0)⟩,
    ⟨some 11, none, .mov (.t 1)⟩,
    ⟨some 12, none, .call (.c (.fn 143 [])) [.t 10, .t 11]⟩,
    ⟨some 9, none, .mov (.t 12)⟩,
    ⟨some 13, none, .ext (.t 9) 0⟩,
    ⟨some 14, none, .ext (.t 9) 1⟩,
    ⟨some 15, none, .ext (.t 9) 2⟩,
    ⟨some 6, none, .box 48 9 (.c (.agg [.int .u8 0, .int .u64 0, .int .u64 0, .int .u64 0, .int .u64 0, .int .i64 0, .int .i64 0, .int .i64 0, .vs true []]))⟩,
    ⟨none, none, .store 9 (.t 6) (.t 13)⟩,
    ⟨some 7, none, .mov (.t 14)⟩,
    ⟨some 8, none, .mov (.t 15)⟩])
  (.seq
  (.seq
  (.reg [
    ⟨some 16, none, .mov (.t 7)⟩,
    ⟨some 17, none, .int .neq (.t 16) (.c (.int .i64 0))⟩])
  (.cond (.t 17)
    (.seq
    (.reg [
      ⟨some 18, none, .build [.int .u8 0, .int .u64 0, .int .u64 0, .int .u64 0, .int .u64 0, .int .i64 0, .int .i64 0, .int .i64 0, .vs true []] []⟩,
      ⟨none, none, .store 9 (.t 4) (.t 18)⟩,
      ⟨some 5, none, .mov (.c (.bool false))⟩])
    .ret)
    .skip))
  (.seq
  (.reg [
    ⟨some 20, none, .load 9 true (.t 6)⟩,
    ⟨some 21, none, .call (.c (.fn 144 [])) [.t 20]⟩,
    ⟨some 19, none, .mov (.t 21)⟩,
    ⟨some 22, none, .ext (.t 19) 0⟩,
    ⟨some 23, none, .ext (.t 19) 1⟩,
    ⟨some 7, none, .mov (.t 23)⟩])
  (.seq
  (.reg [
    ⟨some 24, none, .load 9 true (.t 6)⟩,
    ⟨some 25, none, .mov (.t 7)⟩,
    ⟨some 26, none, .int .eql (.t 25) (.c (.int .i64 0))⟩,
    ⟨none, none, .store 9 (.t 4) (.t 24)⟩,
    ⟨some 5, none, .mov (.t 26)⟩])
  .ret)))))⟩

theorem c120 : chkF Go.Proofs.Tryz.prog Go.Proofs.Tryz.f120 m120 = true := by kernel_rfl

/-- (*strings.Builder).WriteString -/
def m121 : MFn := ⟨2, 19, [.tmp 4, .tmp 5], 0,
  (.seq
  (.reg [
    ⟨some 4, none, .mov (.c (.int .i64 0))⟩,
    ⟨some 5, none, .mov (.c (.nili))⟩])
  (.seq
  (.reg [
    ⟨some 6, none, .mov (.t 0)⟩,
    ⟨some 7, none, .call (.c (.fn 134 [])) [.t 6]⟩])
  (.seq
  (.reg [
    ⟨some 8, none, .mov (.t 0)⟩,
    ⟨some 9, none, .mov (.t 0)⟩,
    ⟨some 10, none, .nilc (.t 9)⟩,
    ⟨some 11, none, .fa 1 (.t 10)⟩,
    ⟨some 12, none, .load 1 false (.t 11)⟩,
    ⟨some 13, none, .mov (.t 1)⟩,
    ⟨some 14, none, .apps 5 1 (.t 12) (.t 13)⟩,
    ⟨some 15, none, .nilc (.t 8)⟩,
    ⟨some 16, none, .fa 1 (.t 15)⟩,
    ⟨none, none, .store 1 (.t 16) (.t 14)⟩])
  (.seq
  (.reg [
    ⟨some 17, none, .mov (.t 1)⟩,
    ⟨some 18, none, .lenS (.t 17)⟩,
    ⟨some 4, none, .mov (.t 18)⟩,
    ⟨some 5, none, .mov (.c (.nili))⟩])
  .ret))))⟩

theorem c121 : chkF Go.Proofs.Tryz.prog Go.Proofs.Tryz.f121 m121 = true := by kernel_rfl

/-- paddock/script.pieces$1 -/
def m122 : MFn := ⟨2, 36, [], 0,
  (.seq
  (.reg [
    ⟨some 4, none, .load 1 false (.t 1)⟩,
    ⟨some 5, none, .lenL (.t 4)⟩,
    ⟨some 3, none, .mov (.t 5)⟩])
  (.seq
  (.reg [
    ⟨some 6, none, .mov (.t 3)⟩,
    ⟨some 7, none, .int .gtr (.t 6) (.c (.int .i64 0))⟩,
    ⟨some 8, none, .mov (.t 7)⟩,
    ⟨some 9, some (8, true), .load 1 false (.t 1)⟩,
    ⟨some 10, some (8, true), .mov (.t 3)⟩,
    ⟨some 11, some (8, true), .int .sub (.t 10) (.c (.int .i64 1))⟩,
    ⟨some 12, some (8, true), .ia 3 (.t 9) (.t 11)⟩,
    ⟨some 13, some (8, true), .fa 0 (.t 12)⟩,
    ⟨some 14, some (8, true), .load 1 false (.t 13)⟩,
    ⟨some 15, some (8, true), .int .eql (.t 14) (.c (.int .u8 1))⟩,
    ⟨some 16, none, .pick (.t 8) (.t 15) (.c (.bool false))⟩])
  (.cond (.t 16)
    (.dreg [
      ⟨0, 0, [], 0, ⟨some 17, none, .load 1 false (.t 1)⟩⟩,
      ⟨1, 0, [], 0, ⟨some 18, none, .mov (.t 3)⟩⟩,
      ⟨2, 0, [], 2, ⟨some 19, none, .int .sub (.t 18) (.c (.int .i64 1))⟩⟩,
      ⟨3, 0, [], 7, ⟨some 20, none, .ia 3 (.t 17) (.t 19)⟩⟩,
      ⟨4, 0, [], 15, ⟨some 21, none, .fa 2 (.t 20)⟩⟩,
      ⟨5, 0, [], 31, ⟨some 22, none, .load 1 false (.t 21)⟩⟩,
      ⟨6, 0, [], 0, ⟨some 23, none, .mov (.t 0)⟩⟩,
      ⟨7, 0, [], 64, ⟨some 24, none, .bslice [.int .u8 0] 1 [(0, .t 23)]⟩⟩,
      ⟨8, 0, [], 192, ⟨some 25, none, .bstr (.t 24)⟩⟩,
      ⟨9, 0, [], 511, ⟨some 26, none, .strb .add (.t 22) (.t 25)⟩⟩,
      ⟨10, 0, [], 1023, ⟨some 27, none, .ia 3 (.t 17) (.t 19)⟩⟩,
      ⟨11, 0, [], 2047, ⟨some 28, none, .fa 2 (.t 27)⟩⟩,
      ⟨12, 1, [], 4095, ⟨none, none, .store 1 (.t 28) (.t 26)⟩⟩])
    (.reg [
      ⟨some 29, none, .load 1 false (.t 1)⟩,
      ⟨some 30, none, .mov (.t 0)⟩,
      ⟨some 31, none, .bslice [.int .u8 0] 1 [(0, .t 30)]⟩,
      ⟨some 32, none, .bstr (.t 31)⟩,
      ⟨some 33, none, .build [.int .u8 0, .int .i64 0, .str []] [(0, 1, .c (.int .u8 1)), (2, 1, .t 32)]⟩,
      ⟨some 34, none, .bslice [.int .u8 0, .int .i64 0, .str []] 1 [(0, .t 33)]⟩,
      ⟨some 35, none, .app 161 3 32 (.t 29) (.t 34)⟩,
      ⟨none, none, .store 1 (.t 1) (.t 35)⟩]))))⟩

theorem c122 : chkF Go.Proofs.Tryz.prog Go.Proofs.Tryz.f122 m122 = true := by kernel_rfl

/-- paddock/script.turns -/
def m123 : MFn := ⟨0, 3, [.tmp 0], 0,
  (.seq
  (.reg [
    ⟨some 0, none, .mov (.c (.nilm))⟩])
  (.seq
  (.reg [
    ⟨some 1, none, .mkm⟩,
    ⟨none, none, .mset false (.t 1) (.c (.int .u8 85)) (.c (.int .u8 3))⟩,
    ⟨none, none, .mset false (.t 1) (.c (.int .u8 76)) (.c (.int .u8 4))⟩,
    ⟨none, none, .mset false (.t 1) (.c (.int .u8 117)) (.c (.int .u8 5))⟩,
    ⟨none, none, .mset false (.t 1) (.c (.int .u8 108)) (.c (.int .u8 6))⟩,
    ⟨none, none, .mset false (.t 1) (.c (.int .u8 69)) (.c (.int .u8 7))⟩,
    ⟨some 2, none, .mov (.t 1)⟩,
    ⟨some 0, none, .mov (.t 2)⟩])
  .ret))⟩

theorem c123 : chkF Go.Proofs.Tryz.prog Go.Proofs.Tryz.f123 m123 = true := by kernel_rfl

/-- paddock/script.escapes -/
def m124 : MFn := ⟨0, 3, [.tmp 0], 0,
  (.seq
  (.reg [
    ⟨some 0, none, .mov (.c (.nilm))⟩])
  (.seq
  (.reg [
    ⟨some 1, none, .mkm⟩,
    ⟨none, none, .mset false (.t 1) (.c (.int .u8 97)) (.c (.int .u8 7))⟩,
    ⟨none, none, .mset false (.t 1) (.c (.int .u8 102)) (.c (.int .u8 12))⟩,
    ⟨none, none, .mset false (.t 1) (.c (.int .u8 110)) (.c (.int .u8 10))⟩,
    ⟨none, none, .mset false (.t 1) (.c (.int .u8 114)) (.c (.int .u8 13))⟩,
    ⟨none, none, .mset false (.t 1) (.c (.int .u8 116)) (.c (.int .u8 9))⟩,
    ⟨none, none, .mset false (.t 1) (.c (.int .u8 118)) (.c (.int .u8 11))⟩,
    ⟨some 2, none, .mov (.t 1)⟩,
    ⟨some 0, none, .mov (.t 2)⟩])
  .ret))⟩

theorem c124 : chkF Go.Proofs.Tryz.prog Go.Proofs.Tryz.f124 m124 = true := by kernel_rfl

/-- paddock/posix.Groups -/
def m125 : MFn := ⟨1, 15, [.tmp 2], 0,
  (.seq
  (.reg [
    ⟨some 1, none, .box 48 9 (.t 0)⟩,
    ⟨some 2, none, .mov (.c (.int .i64 0))⟩])
  (.seq
  (.reg [
    ⟨some 3, none, .box 3 1 (.c (.int .i64 0))⟩,
    ⟨none, none, .store 1 (.t 3) (.c (.int .i64 0))⟩])
  (.seq
  (.seq
  (.reg [
    ⟨some 5, none, .call (.c (.fn 145 [])) [.t 1]⟩])
  (.block 0
    .bad))
  (.seq
  (.reg [
    ⟨some 14, none, .load 1 false (.t 3)⟩,
    ⟨some 2, none, .mov (.t 14)⟩])
  .ret))))⟩

theorem c125 : chkF Go.Proofs.Tryz.prog Go.Proofs.Tryz.f125 m125 = true := by kernel_rfl

/-- slices.ContainsFunc[[]paddock/api.Piece,paddock/api.Piece] -/
def m126 : MFn := ⟨2, 9, [.tmp 4], 0,
  (.seq
  (.reg [
    ⟨some 4, none, .mov (.c (.bool false))⟩])
  (.seq
  (.reg [
    ⟨some 5, none, .mov (.t 0)⟩,
    ⟨some 6, none, .mov (.t 1)⟩,
    ⟨some 7, none, .call (.c (.fn 146 [])) [.t 5, .t 6]⟩,
    ⟨some 8, none, .int .geq (.t 7) (.c (.int .i64 0))⟩,
    ⟨some 4, none, .mov (.t 8)⟩])
  .ret))⟩

theorem c126 : chkF Go.Proofs.Tryz.prog Go.Proofs.Tryz.f126 m126 = true := by kernel_rfl

/-- paddock/script.grouped$1 -/
def m127 : MFn := ⟨2, 8, [.tmp 3], 0,
  (.seq
  (.reg [
    ⟨some 2, none, .box 161 3 (.t 0)⟩,
    ⟨some 3, none, .mov (.c (.bool false))⟩])
  (.seq
  (.reg [
    ⟨some 4, none, .fa 1 (.t 2)⟩,
    ⟨some 5, none, .load 1 false (.t 4)⟩,
    ⟨some 6, none, .load 1 false (.t 1)⟩,
    ⟨some 7, none, .int .gtr (.t 5) (.t 6)⟩,
    ⟨some 3, none, .mov (.t 7)⟩])
  .ret))⟩

theorem c127 : chkF Go.Proofs.Tryz.prog Go.Proofs.Tryz.f127 m127 = true := by kernel_rfl

/-- strings.trimRightByte -/
def m128 : MFn := ⟨2, 23, [.tmp 4], 0,
  (.seq
  (.reg [
    ⟨some 4, none, .mov (.c (.str []))⟩])
  (.seq
  (.block 0
    (.loop
      (.seq
      (.seq
      (.reg [
        ⟨some 5, none, .mov (.t 0)⟩,
        ⟨some 6, none, .lenS (.t 5)⟩,
        ⟨some 7, none, .int .gtr (.t 6) (.c (.int .i64 0))⟩,
        ⟨some 8, none, .mov (.t 7)⟩,
        ⟨some 9, some (8, true), .mov (.t 0)⟩,
        ⟨some 10, some (8, true), .mov (.t 0)⟩,
        ⟨some 11, some (8, true), .lenS (.t 10)⟩,
        ⟨some 12, some (8, true), .int .sub (.t 11) (.c (.int .i64 1))⟩,
        ⟨some 13, some (8, true), .idx (.t 9) (.t 12)⟩,
        ⟨some 14, some (8, true), .mov (.t 1)⟩,
        ⟨some 15, some (8, true), .int .eql (.t 13) (.t 14)⟩,
        ⟨some 16, none, .pick (.t 8) (.t 15) (.c (.bool false))⟩])
      (.cond (.t 16)
        .skip
        (.exit 0)))
      (.block 1
        (.reg [
          ⟨some 17, none, .mov (.t 0)⟩,
          ⟨some 18, none, .mov (.t 0)⟩,
          ⟨some 19, none, .lenS (.t 18)⟩,
          ⟨some 20, none, .int .sub (.t 19) (.c (.int .i64 1))⟩,
          ⟨some 21, none, .sstr (.t 17) none (some (.t 20))⟩,
          ⟨some 0, none, .mov (.t 21)⟩])))))
  (.seq
  (.reg [
    ⟨some 22, none, .mov (.t 0)⟩,
    ⟨some 4, none, .mov (.t 22)⟩])
  .ret)))⟩

theorem c128 : chkF Go.Proofs.Tryz.prog Go.Proofs.Tryz.f128 m128 = true := by kernel_rfl

end YtjeffeobdpganaaGreatDoor
end Go.Ab
