/- The abstract machine's texts of translated functions (printed by a program), each checked against the translation. -/
import Derived.Test.YtjeffeobdpganaaGreatDoorAbK
import Derived.Test.YtjeffeobdpganaaGreatDoorProg
import Derived.KernelRfl
set_option linter.unusedSimpArgs false
set_option linter.unusedVariables false
namespace Go.Ab
namespace YtjeffeobdpganaaGreatDoor
set_option maxRecDepth 100000
open Go.Proofs
/-- paddock/script.Files -/
def m31 : MFn := ⟨1, 30, [.tmp 2], 0,
  (.seq
  (.reg [
    ⟨some 1, none, .box 33 3 (.t 0)⟩,
    ⟨some 2, none, .mov (.c (.vs true []))⟩])
  (.seq
  (.reg [
    ⟨some 3, none, .mov (.c (.vs true []))⟩])
  (.seq
  (.seq
  (.reg [
    ⟨some 7, none, .fa 0 (.t 1)⟩,
    ⟨some 8, none, .load 1 false (.t 7)⟩,
    ⟨some 9, none, .lenL (.t 8)⟩,
    ⟨some 10, none, .mov (.c (.int .i64 0))⟩])
  (.block 0
    (.loop
      (.seq
      (.reg [
        ⟨some 11, none, .int .lss (.t 10) (.t 9)⟩])
      (.seq
      (.cond (.t 11)
        .skip
        (.exit 0))
      (.seq
      (.block 1
        (.seq
        (.reg [
          ⟨some 12, none, .ia 54 (.t 8) (.t 10)⟩,
          ⟨some 13, none, .load 54 true (.t 12)⟩,
          ⟨some 5, none, .box 57 54 (.c (.agg [.int .i64 0, .int .u8 0, .int .i64 0, .int .i64 0, .str [], .bool false, .bool false, .int .u8 0, .int .u64 0, .int .u64 0, .int .u64 0, .int .u64 0, .int .i64 0, .int .i64 0, .int .i64 0, .vs true [], .int .u8 0, .int .i64 0, .int .i64 0, .str [], .bool false, .bool false, .int .u8 0, .int .u64 0, .int .u64 0, .int .u64 0, .int .u64 0, .int .i64 0, .int .i64 0, .int .i64 0, .vs true [], .bool false, .int .u8 0, .str [], .str [], .int .i64 0, .str [], .bool false, .bool false, .int .u8 0, .int .u64 0, .int .u64 0, .int .u64 0, .int .u64 0, .int .i64 0, .int .i64 0, .int .i64 0, .vs true [], .vs true [], .int .i64 0, .bool false, .bool false, .bool false, .str []]))⟩,
          ⟨none, none, .store 54 (.t 5) (.t 13)⟩])
        (.seq
        (.reg [
          ⟨some 14, none, .load 54 true (.t 5)⟩,
          ⟨some 15, none, .call (.c (.fn 71 [])) [.t 14]⟩,
          ⟨some 6, none, .mov (.t 15)⟩])
        (.seq
        (.reg [
          ⟨some 16, none, .mov (.t 6)⟩,
          ⟨some 17, none, .strb .neq (.t 16) (.c (.str []))⟩,
          ⟨some 18, none, .mov (.t 17)⟩,
          ⟨some 19, some (18, true), .mov (.t 3)⟩,
          ⟨some 20, some (18, true), .mov (.t 6)⟩,
          ⟨some 21, some (18, true), .call (.c (.fn 72 [])) [.t 19, .t 20]⟩,
          ⟨some 22, some (18, true), .not (.t 21)⟩,
          ⟨some 23, none, .pick (.t 18) (.t 22) (.c (.bool false))⟩])
        (.cond (.t 23)
          (.reg [
            ⟨some 24, none, .mov (.t 3)⟩,
            ⟨some 25, none, .mov (.t 6)⟩,
            ⟨some 26, none, .bslice [.str []] 1 [(0, .t 25)]⟩,
            ⟨some 27, none, .app 9 1 16 (.t 24) (.t 26)⟩,
            ⟨some 3, none, .mov (.t 27)⟩])
          .skip)))))
      (.reg [
        ⟨some 28, none, .int .add (.t 10) (.c (.int .i64 1))⟩,
        ⟨some 10, none, .mov (.t 28)⟩])))))))
  (.seq
  (.reg [
    ⟨some 29, none, .mov (.t 3)⟩,
    ⟨some 2, none, .mov (.t 29)⟩])
  .ret))))⟩

theorem c31 : chkF Go.Proofs.Tryz.prog Go.Proofs.Tryz.f31 m31 = true := by kernel_rfl

/-- slices.pdqsortOrdered[int] -/
def m32 : MFn := ⟨4, 134, [], 0,
  (.seq
  (.reg [
    ⟨some 8, none, .mov (.c (.bool true))⟩])
  (.seq
  (.reg [
    ⟨some 9, none, .mov (.c (.bool true))⟩])
  (.block 0
    (.loop
      (.block 1
        (.seq
        (.reg [
          ⟨some 19, none, .mov (.t 2)⟩,
          ⟨some 20, none, .mov (.t 1)⟩,
          ⟨some 21, none, .int .sub (.t 19) (.t 20)⟩,
          ⟨some 10, none, .mov (.t 21)⟩])
        (.seq
        (.seq
        (.reg [
          ⟨some 22, none, .mov (.t 10)⟩,
          ⟨some 23, none, .int .leq (.t 22) (.c (.int .i64 12))⟩])
        (.cond (.t 23)
          (.seq
          (.reg [
            ⟨some 24, none, .mov (.t 0)⟩,
            ⟨some 25, none, .mov (.t 1)⟩,
            ⟨some 26, none, .mov (.t 2)⟩,
            ⟨some 27, none, .call (.c (.fn 73 [])) [.t 24, .t 25, .t 26]⟩])
          .ret)
          .skip))
        (.seq
        (.seq
        (.reg [
          ⟨some 28, none, .mov (.t 3)⟩,
          ⟨some 29, none, .int .eql (.t 28) (.c (.int .i64 0))⟩])
        (.cond (.t 29)
          (.seq
          (.reg [
            ⟨some 30, none, .mov (.t 0)⟩,
            ⟨some 31, none, .mov (.t 1)⟩,
            ⟨some 32, none, .mov (.t 2)⟩,
            ⟨some 33, none, .call (.c (.fn 74 [])) [.t 30, .t 31, .t 32]⟩])
          .ret)
          .skip))
        (.seq
        (.seq
        (.reg [
          ⟨some 34, none, .mov (.t 8)⟩,
          ⟨some 35, none, .not (.t 34)⟩])
        (.cond (.t 35)
          (.seq
          (.reg [
            ⟨some 36, none, .mov (.t 0)⟩,
            ⟨some 37, none, .mov (.t 1)⟩,
            ⟨some 38, none, .mov (.t 2)⟩,
            ⟨some 39, none, .call (.c (.fn 75 [])) [.t 36, .t 37, .t 38]⟩])
          (.reg [
            ⟨some 40, none, .mov (.t 3)⟩,
            ⟨some 41, none, .int .sub (.t 40) (.c (.int .i64 1))⟩,
            ⟨some 3, none, .mov (.t 41)⟩]))
          .skip))
        (.seq
        (.reg [
          ⟨some 43, none, .mov (.t 0)⟩,
          ⟨some 44, none, .mov (.t 1)⟩,
          ⟨some 45, none, .mov (.t 2)⟩,
          ⟨some 46, none, .call (.c (.fn 76 [])) [.t 43, .t 44, .t 45]⟩,
          ⟨some 42, none, .mov (.t 46)⟩,
          ⟨some 47, none, .ext (.t 42) 0⟩,
          ⟨some 48, none, .ext (.t 42) 1⟩,
          ⟨some 11, none, .mov (.t 47)⟩,
          ⟨some 12, none, .mov (.t 48)⟩])
        (.seq
        (.seq
        (.reg [
          ⟨some 49, none, .mov (.t 12)⟩,
          ⟨some 50, none, .int .eql (.t 49) (.c (.int .i64 2))⟩])
        (.cond (.t 50)
          (.seq
          (.reg [
            ⟨some 51, none, .mov (.t 0)⟩,
            ⟨some 52, none, .mov (.t 1)⟩,
            ⟨some 53, none, .mov (.t 2)⟩,
            ⟨some 54, none, .call (.c (.fn 77 [])) [.t 51, .t 52, .t 53]⟩])
          (.seq
          (.reg [
            ⟨some 55, none, .mov (.t 2)⟩,
            ⟨some 56, none, .int .sub (.t 55) (.c (.int .i64 1))⟩,
            ⟨some 57, none, .mov (.t 11)⟩,
            ⟨some 58, none, .mov (.t 1)⟩,
            ⟨some 59, none, .int .sub (.t 57) (.t 58)⟩,
            ⟨some 60, none, .int .sub (.t 56) (.t 59)⟩,
            ⟨some 11, none, .mov (.t 60)⟩])
          (.reg [
            ⟨some 12, none, .mov (.c (.int .i64 1))⟩])))
          .skip))
        (.seq
        (.seq
        (.reg [
          ⟨some 61, none, .mov (.t 8)⟩,
          ⟨some 62, none, .mov (.t 61)⟩,
          ⟨some 63, some (62, true), .mov (.t 9)⟩,
          ⟨some 64, none, .pick (.t 62) (.t 63) (.c (.bool false))⟩,
          ⟨some 65, none, .mov (.t 64)⟩,
          ⟨some 66, some (65, true), .mov (.t 12)⟩,
          ⟨some 67, some (65, true), .int .eql (.t 66) (.c (.int .i64 1))⟩,
          ⟨some 68, none, .pick (.t 65) (.t 67) (.c (.bool false))⟩])
        (.cond (.t 68)
          (.seq
          (.reg [
            ⟨some 69, none, .mov (.t 0)⟩,
            ⟨some 70, none, .mov (.t 1)⟩,
            ⟨some 71, none, .mov (.t 2)⟩,
            ⟨some 72, none, .call (.c (.fn 78 [])) [.t 69, .t 70, .t 71]⟩])
          (.cond (.t 72)
            .ret
            .skip))
          .skip))
        (.seq
        (.seq
        (.dreg [
          ⟨0, 0, [], 0, ⟨some 73, none, .mov (.t 1)⟩⟩,
          ⟨1, 0, [], 1, ⟨some 74, none, .int .gtr (.t 73) (.c (.int .i64 0))⟩⟩,
          ⟨2, 0, [], 3, ⟨some 75, none, .mov (.t 74)⟩⟩,
          ⟨3, 0, [], 7, ⟨some 76, some (75, true), .mov (.t 0)⟩⟩,
          ⟨4, 0, [], 7, ⟨some 77, some (75, true), .mov (.t 1)⟩⟩,
          ⟨5, 0, [], 23, ⟨some 78, some (75, true), .int .sub (.t 77) (.c (.int .i64 1))⟩⟩,
          ⟨6, 0, [], 63, ⟨some 79, some (75, true), .ia 1 (.t 76) (.t 78)⟩⟩,
          ⟨7, 0, [], 127, ⟨some 80, some (75, true), .load 1 false (.t 79)⟩⟩,
          ⟨8, 0, [], 7, ⟨some 81, some (75, true), .mov (.t 0)⟩⟩,
          ⟨9, 0, [], 7, ⟨some 82, some (75, true), .mov (.t 11)⟩⟩,
          ⟨10, 0, [], 775, ⟨some 83, some (75, true), .ia 1 (.t 81) (.t 82)⟩⟩,
          ⟨11, 0, [], 1799, ⟨some 84, some (75, true), .load 1 false (.t 83)⟩⟩,
          ⟨12, 1, [], 4095, ⟨some 85, some (75, true), .call (.c (.fn 79 [])) [.t 80, .t 84]⟩⟩,
          ⟨13, 0, [], 8191, ⟨some 86, some (75, true), .not (.t 85)⟩⟩,
          ⟨14, 0, [], 16383, ⟨some 87, none, .pick (.t 75) (.t 86) (.c (.bool false))⟩⟩])
        (.cond (.t 87)
          (.seq
          (.reg [
            ⟨some 88, none, .mov (.t 0)⟩,
            ⟨some 89, none, .mov (.t 1)⟩,
            ⟨some 90, none, .mov (.t 2)⟩,
            ⟨some 91, none, .mov (.t 11)⟩,
            ⟨some 92, none, .call (.c (.fn 80 [])) [.t 88, .t 89, .t 90, .t 91]⟩,
            ⟨some 13, none, .mov (.t 92)⟩])
          (.seq
          (.reg [
            ⟨some 93, none, .mov (.t 13)⟩,
            ⟨some 1, none, .mov (.t 93)⟩])
          (.exit 1)))
          .skip))
        (.seq
        (.reg [
          ⟨some 95, none, .mov (.t 0)⟩,
          ⟨some 96, none, .mov (.t 1)⟩,
          ⟨some 97, none, .mov (.t 2)⟩,
          ⟨some 98, none, .mov (.t 11)⟩,
          ⟨some 99, none, .call (.c (.fn 81 [])) [.t 95, .t 96, .t 97, .t 98]⟩,
          ⟨some 94, none, .mov (.t 99)⟩,
          ⟨some 100, none, .ext (.t 94) 0⟩,
          ⟨some 101, none, .ext (.t 94) 1⟩,
          ⟨some 14, none, .mov (.t 100)⟩,
          ⟨some 15, none, .mov (.t 101)⟩])
        (.seq
        (.reg [
          ⟨some 102, none, .mov (.t 15)⟩,
          ⟨some 9, none, .mov (.t 102)⟩])
        (.seq
        (.reg [
          ⟨some 103, none, .mov (.t 14)⟩,
          ⟨some 104, none, .mov (.t 1)⟩,
          ⟨some 105, none, .int .sub (.t 103) (.t 104)⟩,
          ⟨some 106, none, .mov (.t 2)⟩,
          ⟨some 107, none, .mov (.t 14)⟩,
          ⟨some 108, none, .int .sub (.t 106) (.t 107)⟩,
          ⟨some 16, none, .mov (.t 105)⟩,
          ⟨some 17, none, .mov (.t 108)⟩])
        (.seq
        (.reg [
          ⟨some 109, none, .mov (.t 10)⟩,
          ⟨some 110, none, .int .quo (.t 109) (.c (.int .i64 8))⟩,
          ⟨some 18, none, .mov (.t 110)⟩])
        (.seq
        (.reg [
          ⟨some 111, none, .mov (.t 16)⟩,
          ⟨some 112, none, .mov (.t 17)⟩,
          ⟨some 113, none, .int .lss (.t 111) (.t 112)⟩])
        (.cond (.t 113)
          (.seq
          (.reg [
            ⟨some 114, none, .mov (.t 16)⟩,
            ⟨some 115, none, .mov (.t 18)⟩,
            ⟨some 116, none, .int .geq (.t 114) (.t 115)⟩,
            ⟨some 8, none, .mov (.t 116)⟩])
          (.seq
          (.reg [
            ⟨some 117, none, .mov (.t 0)⟩,
            ⟨some 118, none, .mov (.t 1)⟩,
            ⟨some 119, none, .mov (.t 14)⟩,
            ⟨some 120, none, .mov (.t 3)⟩,
            ⟨some 121, none, .call (.c (.fn 32 [])) [.t 117, .t 118, .t 119, .t 120]⟩])
          (.reg [
            ⟨some 122, none, .mov (.t 14)⟩,
            ⟨some 123, none, .int .add (.t 122) (.c (.int .i64 1))⟩,
            ⟨some 1, none, .mov (.t 123)⟩])))
          (.seq
          (.reg [
            ⟨some 124, none, .mov (.t 17)⟩,
            ⟨some 125, none, .mov (.t 18)⟩,
            ⟨some 126, none, .int .geq (.t 124) (.t 125)⟩,
            ⟨some 8, none, .mov (.t 126)⟩])
          (.seq
          (.reg [
            ⟨some 127, none, .mov (.t 0)⟩,
            ⟨some 128, none, .mov (.t 14)⟩,
            ⟨some 129, none, .int .add (.t 128) (.c (.int .i64 1))⟩,
            ⟨some 130, none, .mov (.t 2)⟩,
            ⟨some 131, none, .mov (.t 3)⟩,
            ⟨some 132, none, .call (.c (.fn 32 [])) [.t 127, .t 129, .t 130, .t 131]⟩])
          (.reg [
            ⟨some 133, none, .mov (.t 14)⟩,
            ⟨some 2, none, .mov (.t 133)⟩]))))))))))))))))))))))⟩

theorem c32 : chkF Go.Proofs.Tryz.prog Go.Proofs.Tryz.f32 m32 = true := by kernel_rfl

/-- math/bits.Len -/
def m33 : MFn := ⟨1, 8, [.tmp 2], 0,
  (.seq
  (.reg [
    ⟨some 2, none, .mov (.c (.int .i64 0))⟩])
  (.seq
  (.cond (.c (.bool false))
    (.seq
    (.reg [
      ⟨some 3, none, .mov (.t 0)⟩,
      ⟨some 4, none, .conv .u32 (.t 3)⟩,
      ⟨some 5, none, .call (.c (.fn 82 [])) [.t 4]⟩,
      ⟨some 2, none, .mov (.t 5)⟩])
    .ret)
    .skip)
  (.seq
  (.reg [
    ⟨some 6, none, .mov (.t 0)⟩,
    ⟨some 7, none, .call (.c (.fn 83 [])) [.t 6]⟩,
    ⟨some 2, none, .mov (.t 7)⟩])
  .ret)))⟩

theorem c33 : chkF Go.Proofs.Tryz.prog Go.Proofs.Tryz.f33 m33 = true := by kernel_rfl

/-- paddock/script.letters$1 -/
def m34 : MFn := ⟨2, 6, [], 0,
  (.reg [
    ⟨some 4, none, .mov (.t 0)⟩,
    ⟨some 5, none, .call (.c (.fn 35 [])) [.t 4]⟩])⟩

theorem c34 : chkF Go.Proofs.Tryz.prog Go.Proofs.Tryz.f34 m34 = true := by kernel_rfl

/-- (*paddock/script.reader).end -/
def m35 : MFn := ⟨1, 18, [], 0,
  (.seq
  (.reg [
    ⟨some 2, none, .mov (.t 0)⟩,
    ⟨some 3, none, .call (.c (.fn 49 [])) [.t 2]⟩])
  (.seq
  (.reg [
    ⟨some 4, none, .mov (.t 0)⟩,
    ⟨some 5, none, .call (.c (.fn 17 [])) [.t 4]⟩])
  (.block 0
    (.seq
    (.seq
    (.reg [
      ⟨some 13, none, .int .eql (.t 5) (.c (.int .i64 (-1)))⟩,
      ⟨some 12, none, .mov (.t 13)⟩])
    (.cond (.t 12)
      .skip
      (.seq
      (.reg [
        ⟨some 14, none, .int .eql (.t 5) (.c (.int .i64 10))⟩,
        ⟨some 12, none, .mov (.t 14)⟩])
      (.cond (.t 12)
        .skip
        (.seq
        (.reg [
          ⟨some 15, none, .int .eql (.t 5) (.c (.int .i64 59))⟩,
          ⟨some 12, none, .mov (.t 15)⟩])
        (.cond (.t 12)
          .skip
          (.seq
          (.reg [
            ⟨some 16, none, .int .eql (.t 5) (.c (.int .i64 125))⟩,
            ⟨some 12, none, .mov (.t 16)⟩])
          (.cond (.t 12)
            .skip
            (.reg [
              ⟨some 17, none, .int .eql (.t 5) (.c (.int .i64 35))⟩,
              ⟨some 12, none, .mov (.t 17)⟩])))))))))
    (.cond (.t 12)
      .skip
      (.reg [
        ⟨some 6, none, .mov (.t 0)⟩,
        ⟨some 7, none, .mov (.t 0)⟩,
        ⟨some 8, none, .nilc (.t 7)⟩,
        ⟨some 9, none, .fa 1 (.t 8)⟩,
        ⟨some 10, none, .load 1 false (.t 9)⟩,
        ⟨some 11, none, .call (.c (.fn 22 [])) [.t 6, .c (.int .i64 6), .t 10]⟩]))))))⟩

theorem c35 : chkF Go.Proofs.Tryz.prog Go.Proofs.Tryz.f35 m35 = true := by kernel_rfl

/-- paddock/script.letters$2 -/
def m36 : MFn := ⟨1, 16, [.tmp 2], 0,
  (.seq
  (.reg [
    ⟨some 1, none, .box 57 54 (.t 0)⟩,
    ⟨some 2, none, .mov (.c (.bool false))⟩])
  (.seq
  (.reg [
    ⟨some 3, none, .fa 35 (.t 1)⟩,
    ⟨some 4, none, .load 1 false (.t 3)⟩,
    ⟨some 5, none, .int .eql (.t 4) (.c (.int .i64 0))⟩,
    ⟨some 6, none, .mov (.t 5)⟩,
    ⟨some 7, some (6, true), .fa 33 (.t 1)⟩,
    ⟨some 8, some (6, true), .load 1 false (.t 7)⟩,
    ⟨some 9, some (6, true), .strb .eql (.t 8) (.c (.str []))⟩,
    ⟨some 10, none, .pick (.t 6) (.t 9) (.c (.bool false))⟩,
    ⟨some 11, none, .mov (.t 10)⟩,
    ⟨some 12, some (11, true), .fa 34 (.t 1)⟩,
    ⟨some 13, some (11, true), .load 1 false (.t 12)⟩,
    ⟨some 14, some (11, true), .strb .eql (.t 13) (.c (.str []))⟩,
    ⟨some 15, none, .pick (.t 11) (.t 14) (.c (.bool false))⟩,
    ⟨some 2, none, .mov (.t 15)⟩])
  .ret))⟩

theorem c36 : chkF Go.Proofs.Tryz.prog Go.Proofs.Tryz.f36 m36 = true := by kernel_rfl

/-- paddock/script.letters$3 -/
def m37 : MFn := ⟨2, 4, [], 0,
  .skip⟩

theorem c37 : chkF Go.Proofs.Tryz.prog Go.Proofs.Tryz.f37 m37 = true := by kernel_rfl

/-- paddock/script.count -/
def m38 : MFn := ⟨1, 4, [.tmp 2], 2,
  (.seq
  (.reg [
    ⟨some 1, none, .box 3 1 (.t 0)⟩,
    ⟨some 2, none, .mov (.c (.nilf))⟩])
  (.seq
  (.reg [
    ⟨some 3, none, .mkf 84 [.t 1]⟩,
    ⟨some 2, none, .mov (.t 3)⟩])
  .ret))⟩

theorem c38 : chkF Go.Proofs.Tryz.prog Go.Proofs.Tryz.f38 m38 = true := by kernel_rfl

/-- paddock/script.numbered -/
def m39 : MFn := ⟨1, 4, [.tmp 2], 2,
  (.seq
  (.reg [
    ⟨some 1, none, .box 3 1 (.t 0)⟩,
    ⟨some 2, none, .mov (.c (.nilf))⟩])
  (.seq
  (.reg [
    ⟨some 3, none, .mkf 86 [.t 1]⟩,
    ⟨some 2, none, .mov (.t 3)⟩])
  .ret))⟩

theorem c39 : chkF Go.Proofs.Tryz.prog Go.Proofs.Tryz.f39 m39 = true := by kernel_rfl

/-- paddock/script.substitute -/
def m40 : MFn := ⟨2, 156, [], 0,
  (.seq
  (.reg [
    ⟨some 2, none, .box 67 1 (.t 0)⟩])
  (.seq
  (.reg [
    ⟨some 13, none, .load 1 false (.t 2)⟩,
    ⟨some 14, none, .mov (.t 1)⟩,
    ⟨some 15, none, .call (.c (.fn 87 [])) [.t 13, .t 14, .c (.bool true)]⟩,
    ⟨some 12, none, .mov (.t 15)⟩,
    ⟨some 16, none, .ext (.t 12) 0⟩,
    ⟨some 17, none, .ext (.t 12) 1⟩,
    ⟨some 18, none, .ext (.t 12) 2⟩,
    ⟨some 5, none, .box 132 2 (.c (.agg [.str [], .str []]))⟩,
    ⟨some 6, none, .box 133 2 (.c (.agg [.int .i64 0, .int .i64 0]))⟩,
    ⟨some 4, none, .mov (.t 16)⟩,
    ⟨none, none, .store 2 (.t 5) (.t 17)⟩,
    ⟨none, none, .store 2 (.t 6) (.t 18)⟩])
  (.seq
  (.dreg [
    ⟨0, 0, [], 0, ⟨some 19, none, .mov (.t 1)⟩⟩,
    ⟨1, 0, [], 0, ⟨some 20, none, .load 1 false (.t 2)⟩⟩,
    ⟨2, 0, [], 0, ⟨some 21, none, .iaa 1 2 (.t 5) (.c (.int .i64 0))⟩⟩,
    ⟨3, 0, [], 4, ⟨some 22, none, .load 1 false (.t 21)⟩⟩,
    ⟨4, 0, [], 0, ⟨some 23, none, .mov (.t 4)⟩⟩,
    ⟨6, 0, [], 0, ⟨some 25, none, .iaa 1 2 (.t 6) (.c (.int .i64 0))⟩⟩,
    ⟨7, 0, [], 64, ⟨some 26, none, .load 1 false (.t 25)⟩⟩,
    ⟨5, 1, [0, 1, 5, 6], 28, ⟨some 24, none, .call (.c (.fn 89 [])) [.t 22, .t 23]⟩⟩,
    ⟨8, 1, [0], 254, ⟨some 27, none, .call (.c (.fn 88 [])) [.t 20, .t 24, .c (.bool false), .t 26]⟩⟩,
    ⟨9, 0, [], 511, ⟨some 28, none, .nilc (.t 19)⟩⟩,
    ⟨10, 0, [], 1023, ⟨some 29, none, .fa 36 (.t 28)⟩⟩,
    ⟨11, 1, [], 2047, ⟨none, none, .store 12 (.t 29) (.t 27)⟩⟩])
  (.seq
  (.reg [
    ⟨some 30, none, .mov (.t 1)⟩,
    ⟨some 31, none, .iaa 1 2 (.t 5) (.c (.int .i64 1))⟩,
    ⟨some 32, none, .load 1 false (.t 31)⟩,
    ⟨some 33, none, .mov (.t 4)⟩,
    ⟨some 34, none, .call (.c (.fn 90 [])) [.t 32, .t 33]⟩,
    ⟨some 35, none, .nilc (.t 30)⟩,
    ⟨some 36, none, .fa 48 (.t 35)⟩,
    ⟨some 37, none, .fa 0 (.t 36)⟩,
    ⟨none, none, .store 1 (.t 37) (.t 34)⟩])
  (.seq
  (.seq
  (.reg [
    ⟨some 38, none, .mov (.t 1)⟩,
    ⟨some 39, none, .nilc (.t 38)⟩,
    ⟨some 40, none, .load 54 true (.t 39)⟩,
    ⟨some 41, none, .call (.c (.fn 91 [])) [.t 40]⟩,
    ⟨some 42, none, .not (.t 41)⟩])
  (.cond (.t 42)
    (.reg [
      ⟨some 43, none, .load 1 false (.t 2)⟩,
      ⟨some 44, none, .iaa 1 2 (.t 6) (.c (.int .i64 1))⟩,
      ⟨some 45, none, .load 1 false (.t 44)⟩,
      ⟨some 46, none, .call (.c (.fn 22 [])) [.t 43, .c (.int .i64 16), .t 45]⟩])
    .skip))
  (.seq
  (.reg [
    ⟨some 47, none, .mkf 92 [.t 2]⟩,
    ⟨some 7, none, .mov (.t 47)⟩])
  (.block 0
    (.loop
      (.block 1
        (.seq
        (.reg [
          ⟨some 48, none, .load 1 false (.t 2)⟩,
          ⟨some 49, none, .nilc (.t 48)⟩,
          ⟨some 50, none, .fa 1 (.t 49)⟩,
          ⟨some 51, none, .load 1 false (.t 50)⟩,
          ⟨some 8, none, .mov (.t 51)⟩])
        (.seq
        (.reg [
          ⟨some 52, none, .load 1 false (.t 2)⟩,
          ⟨some 53, none, .call (.c (.fn 17 [])) [.t 52]⟩,
          ⟨some 9, none, .mov (.t 53)⟩])
        (.block 2
          (.seq
          (.reg [
            ⟨some 57, none, .mov (.t 9)⟩,
            ⟨some 58, none, .int .eql (.t 57) (.c (.int .i64 103))⟩,
            ⟨some 56, none, .mov (.t 58)⟩])
          (.cond (.t 56)
            (.reg [
              ⟨some 59, none, .mov (.t 7)⟩,
              ⟨some 60, none, .mov (.t 1)⟩,
              ⟨some 61, none, .nilc (.t 60)⟩,
              ⟨some 62, none, .fa 48 (.t 61)⟩,
              ⟨some 63, none, .fa 2 (.t 62)⟩,
              ⟨some 64, none, .mov (.t 8)⟩,
              ⟨some 65, none, .call (.t 59) [.t 63, .t 64]⟩])
            (.seq
            (.reg [
              ⟨some 67, none, .mov (.t 9)⟩,
              ⟨some 68, none, .int .eql (.t 67) (.c (.int .i64 112))⟩,
              ⟨some 66, none, .mov (.t 68)⟩])
            (.cond (.t 66)
              (.reg [
                ⟨some 69, none, .mov (.t 7)⟩,
                ⟨some 70, none, .mov (.t 1)⟩,
                ⟨some 71, none, .nilc (.t 70)⟩,
                ⟨some 72, none, .fa 48 (.t 71)⟩,
                ⟨some 73, none, .fa 3 (.t 72)⟩,
                ⟨some 74, none, .mov (.t 8)⟩,
                ⟨some 75, none, .call (.t 69) [.t 73, .t 74]⟩])
              (.seq
              (.reg [
                ⟨some 77, none, .mov (.t 9)⟩,
                ⟨some 78, none, .int .eql (.t 77) (.c (.int .i64 101))⟩,
                ⟨some 76, none, .mov (.t 78)⟩])
              (.cond (.t 76)
                (.reg [
                  ⟨some 79, none, .mov (.t 7)⟩,
                  ⟨some 80, none, .mov (.t 1)⟩,
                  ⟨some 81, none, .nilc (.t 80)⟩,
                  ⟨some 82, none, .fa 48 (.t 81)⟩,
                  ⟨some 83, none, .fa 4 (.t 82)⟩,
                  ⟨some 84, none, .mov (.t 8)⟩,
                  ⟨some 85, none, .call (.t 79) [.t 83, .t 84]⟩])
                (.seq
                (.reg [
                  ⟨some 87, none, .mov (.t 9)⟩,
                  ⟨some 88, none, .int .eql (.t 87) (.c (.int .i64 73))⟩,
                  ⟨some 89, none, .mov (.t 88)⟩,
                  ⟨some 90, some (89, false), .mov (.t 9)⟩,
                  ⟨some 91, some (89, false), .int .eql (.t 90) (.c (.int .i64 105))⟩,
                  ⟨some 92, none, .pick (.t 89) (.c (.bool true)) (.t 91)⟩,
                  ⟨some 86, none, .mov (.t 92)⟩])
                (.cond (.t 86)
                  (.seq
                  (.seq
                  (.reg [
                    ⟨some 93, none, .mov (.t 1)⟩,
                    ⟨some 94, none, .nilc (.t 93)⟩,
                    ⟨some 95, none, .fa 36 (.t 94)⟩,
                    ⟨some 96, none, .fa 1 (.t 95)⟩,
                    ⟨some 97, none, .load 1 false (.t 96)⟩])
                  (.cond (.t 97)
                    (.reg [
                      ⟨some 98, none, .load 1 false (.t 2)⟩,
                      ⟨some 99, none, .iaa 1 2 (.t 6) (.c (.int .i64 0))⟩,
                      ⟨some 100, none, .load 1 false (.t 99)⟩,
                      ⟨some 101, none, .call (.c (.fn 22 [])) [.t 98, .c (.int .i64 3), .t 100]⟩])
                    .skip))
                  (.reg [
                    ⟨some 102, none, .mov (.t 7)⟩,
                    ⟨some 103, none, .mov (.t 1)⟩,
                    ⟨some 104, none, .nilc (.t 103)⟩,
                    ⟨some 105, none, .fa 36 (.t 104)⟩,
                    ⟨some 106, none, .fa 2 (.t 105)⟩,
                    ⟨some 107, none, .mov (.t 8)⟩,
                    ⟨some 108, none, .call (.t 102) [.t 106, .t 107]⟩]))
                  (.seq
                  (.reg [
                    ⟨some 110, none, .mov (.t 9)⟩,
                    ⟨some 111, none, .call (.c (.fn 93 [])) [.t 110]⟩,
                    ⟨some 109, none, .mov (.t 111)⟩])
                  (.cond (.t 109)
                    (.seq
                    (.reg [
                      ⟨some 113, none, .load 1 false (.t 2)⟩,
                      ⟨some 114, none, .call (.c (.fn 85 [])) [.t 113]⟩,
                      ⟨some 112, none, .mov (.t 114)⟩,
                      ⟨some 115, none, .ext (.t 112) 0⟩,
                      ⟨some 116, none, .ext (.t 112) 1⟩,
                      ⟨some 10, none, .mov (.t 115)⟩,
                      ⟨some 11, none, .mov (.t 116)⟩])
                    (.seq
                    (.seq
                    (.reg [
                      ⟨some 117, none, .mov (.t 10)⟩,
                      ⟨some 118, none, .int .gtr (.t 117) (.c (.int .i64 1073741824))⟩])
                    (.cond (.t 118)
                      (.reg [
                        ⟨some 119, none, .load 1 false (.t 2)⟩,
                        ⟨some 120, none, .mov (.t 8)⟩,
                        ⟨some 121, none, .call (.c (.fn 22 [])) [.t 119, .c (.int .i64 18), .t 120]⟩])
                      .skip))
                    (.seq
                    (.seq
                    (.reg [
                      ⟨some 122, none, .mov (.t 10)⟩,
                      ⟨some 123, none, .int .eql (.t 122) (.c (.int .i64 0))⟩,
                      ⟨some 124, none, .mov (.t 123)⟩,
                      ⟨some 125, some (124, false), .mov (.t 1)⟩,
                      ⟨some 126, some (124, false), .nilc (.t 125)⟩,
                      ⟨some 127, some (124, false), .fa 48 (.t 126)⟩,
                      ⟨some 128, some (124, false), .fa 1 (.t 127)⟩,
                      ⟨some 129, some (124, false), .load 1 false (.t 128)⟩,
                      ⟨some 130, some (124, false), .int .gtr (.t 129) (.c (.int .i64 0))⟩,
                      ⟨some 131, none, .pick (.t 124) (.c (.bool true)) (.t 130)⟩])
                    (.cond (.t 131)
                      (.reg [
                        ⟨some 132, none, .load 1 false (.t 2)⟩,
                        ⟨some 133, none, .mov (.t 8)⟩,
                        ⟨some 134, none, .call (.c (.fn 22 [])) [.t 132, .c (.int .i64 15), .t 133]⟩])
                      .skip))
                    (.reg [
                      ⟨some 135, none, .mov (.t 1)⟩,
                      ⟨some 136, none, .mov (.t 10)⟩,
                      ⟨some 137, none, .nilc (.t 135)⟩,
                      ⟨some 138, none, .fa 48 (.t 137)⟩,
                      ⟨some 139, none, .fa 1 (.t 138)⟩,
                      ⟨none, none, .store 1 (.t 139) (.t 136)⟩]))))
                    (.seq
                    (.reg [
                      ⟨some 141, none, .mov (.t 9)⟩,
                      ⟨some 142, none, .int .eql (.t 141) (.c (.int .i64 119))⟩,
                      ⟨some 140, none, .mov (.t 142)⟩])
                    (.cond (.t 140)
                      (.seq
                      (.reg [
                        ⟨some 143, none, .load 1 false (.t 2)⟩,
                        ⟨some 144, none, .nilc (.t 143)⟩,
                        ⟨some 145, none, .fa 1 (.t 144)⟩,
                        ⟨some 146, none, .load 1 false (.t 145)⟩,
                        ⟨some 147, none, .int .add (.t 146) (.c (.int .i64 1))⟩,
                        ⟨some 148, none, .nilc (.t 143)⟩,
                        ⟨some 149, none, .fa 1 (.t 148)⟩,
                        ⟨none, none, .store 1 (.t 149) (.t 147)⟩])
                      (.seq
                      (.reg [
                        ⟨some 150, none, .mov (.t 1)⟩,
                        ⟨some 151, none, .load 1 false (.t 2)⟩,
                        ⟨some 152, none, .call (.c (.fn 56 [])) [.t 151]⟩,
                        ⟨some 153, none, .nilc (.t 150)⟩,
                        ⟨some 154, none, .fa 48 (.t 153)⟩,
                        ⟨some 155, none, .fa 5 (.t 154)⟩,
                        ⟨none, none, .store 1 (.t 155) (.t 152)⟩])
                      .ret))
                      (.seq
                      (.reg [
                        ⟨some 54, none, .load 1 false (.t 2)⟩,
                        ⟨some 55, none, .call (.c (.fn 35 [])) [.t 54]⟩])
                      .ret)))))))))))))))))))))))))⟩

theorem c40 : chkF Go.Proofs.Tryz.prog Go.Proofs.Tryz.f40 m40 = true := by kernel_rfl

/-- paddock/script.table -/
def m41 : MFn := ⟨2, 47, [], 0,
  (.seq
  (.reg [
    ⟨some 8, none, .mov (.t 0)⟩,
    ⟨some 9, none, .mov (.t 1)⟩,
    ⟨some 10, none, .call (.c (.fn 87 [])) [.t 8, .t 9, .c (.bool false)]⟩,
    ⟨some 7, none, .mov (.t 10)⟩,
    ⟨some 11, none, .ext (.t 7) 0⟩,
    ⟨some 12, none, .ext (.t 7) 1⟩,
    ⟨some 13, none, .ext (.t 7) 2⟩,
    ⟨some 5, none, .box 132 2 (.c (.agg [.str [], .str []]))⟩,
    ⟨some 6, none, .box 133 2 (.c (.agg [.int .i64 0, .int .i64 0]))⟩,
    ⟨some 4, none, .mov (.t 11)⟩,
    ⟨none, none, .store 2 (.t 5) (.t 12)⟩,
    ⟨none, none, .store 2 (.t 6) (.t 13)⟩])
  (.seq
  (.reg [
    ⟨some 14, none, .mov (.t 1)⟩,
    ⟨some 15, none, .mov (.t 0)⟩,
    ⟨some 16, none, .iaa 1 2 (.t 5) (.c (.int .i64 0))⟩,
    ⟨some 17, none, .load 1 false (.t 16)⟩,
    ⟨some 18, none, .mov (.t 4)⟩,
    ⟨some 19, none, .iaa 1 2 (.t 6) (.c (.int .i64 0))⟩,
    ⟨some 20, none, .load 1 false (.t 19)⟩,
    ⟨some 21, none, .call (.c (.fn 94 [])) [.t 15, .t 17, .t 18, .t 20]⟩,
    ⟨some 22, none, .nilc (.t 14)⟩,
    ⟨some 23, none, .fa 33 (.t 22)⟩,
    ⟨none, none, .store 1 (.t 23) (.t 21)⟩])
  (.seq
  (.reg [
    ⟨some 24, none, .mov (.t 1)⟩,
    ⟨some 25, none, .mov (.t 0)⟩,
    ⟨some 26, none, .iaa 1 2 (.t 5) (.c (.int .i64 1))⟩,
    ⟨some 27, none, .load 1 false (.t 26)⟩,
    ⟨some 28, none, .mov (.t 4)⟩,
    ⟨some 29, none, .iaa 1 2 (.t 6) (.c (.int .i64 1))⟩,
    ⟨some 30, none, .load 1 false (.t 29)⟩,
    ⟨some 31, none, .call (.c (.fn 94 [])) [.t 25, .t 27, .t 28, .t 30]⟩,
    ⟨some 32, none, .nilc (.t 24)⟩,
    ⟨some 33, none, .fa 34 (.t 32)⟩,
    ⟨none, none, .store 1 (.t 33) (.t 31)⟩])
  (.seq
  (.seq
  (.reg [
    ⟨some 34, none, .mov (.t 1)⟩,
    ⟨some 35, none, .nilc (.t 34)⟩,
    ⟨some 36, none, .load 54 true (.t 35)⟩,
    ⟨some 37, none, .call (.c (.fn 43 [])) [.t 36]⟩,
    ⟨some 38, none, .not (.t 37)⟩])
  (.cond (.t 38)
    (.reg [
      ⟨some 39, none, .mov (.t 0)⟩,
      ⟨some 40, none, .mov (.t 1)⟩,
      ⟨some 41, none, .nilc (.t 40)⟩,
      ⟨some 42, none, .fa 0 (.t 41)⟩,
      ⟨some 43, none, .load 1 false (.t 42)⟩,
      ⟨some 44, none, .call (.c (.fn 22 [])) [.t 39, .c (.int .i64 17), .t 43]⟩])
    .skip))
  (.reg [
    ⟨some 45, none, .mov (.t 0)⟩,
    ⟨some 46, none, .call (.c (.fn 35 [])) [.t 45]⟩])))))⟩

theorem c41 : chkF Go.Proofs.Tryz.prog Go.Proofs.Tryz.f41 m41 = true := by kernel_rfl

/-- paddock/script.letters$4 -/
def m42 : MFn := ⟨1, 10, [.tmp 2], 0,
  (.seq
  (.reg [
    ⟨some 1, none, .box 57 54 (.t 0)⟩,
    ⟨some 2, none, .mov (.c (.bool false))⟩])
  (.seq
  (.reg [
    ⟨some 3, none, .fa 35 (.t 1)⟩,
    ⟨some 4, none, .load 1 false (.t 3)⟩,
    ⟨some 5, none, .int .eql (.t 4) (.c (.int .i64 0))⟩,
    ⟨some 6, none, .mov (.t 5)⟩,
    ⟨some 7, some (6, true), .load 54 true (.t 1)⟩,
    ⟨some 8, some (6, true), .call (.c (.fn 43 [])) [.t 7]⟩,
    ⟨some 9, none, .pick (.t 6) (.t 8) (.c (.bool false))⟩,
    ⟨some 2, none, .mov (.t 9)⟩])
  .ret))⟩

theorem c42 : chkF Go.Proofs.Tryz.prog Go.Proofs.Tryz.f42 m42 = true := by kernel_rfl

/-- paddock/script.sides -/
def m43 : MFn := ⟨1, 34, [.tmp 2], 0,
  (.seq
  (.reg [
    ⟨some 1, none, .box 57 54 (.t 0)⟩,
    ⟨some 2, none, .mov (.c (.bool false))⟩])
  (.seq
  (.reg [
    ⟨some 3, none, .box 142 256 (.c (.agg [.int .i64 0, .int .i64 0, .int .i64 0, .int .i64 0, .int .i64 0, .int .i64 0, .int .i64 0, .int .i64 0, .int .i64 0, .int .i64 0, .int .i64 0, .int .i64 0, .int .i64 0, .int .i64 0, .int .i64 0, .int .i64 0, .int .i64 0, .int .i64 0, .int .i64 0, .int .i64 0, .int .i64 0, .int .i64 0, .int .i64 0, .int .i64 0, .int .i64 0, .int .i64 0, .int .i64 0, .int .i64 0, .int .i64 0, .int .i64 0, .int .i64 0, .int .i64 0, .int .i64 0, .int .i64 0, .int .i64 0, .int .i64 0, .int .i64 0, .int .i64 0, .int .i64 0, .int .i64 0, .int .i64 0, .int .i64 0, .int .i64 0, .int .i64 0, .int .i64 0, .int .i64 0, .int .i64 0, .int .i64 0, .int .i64 0, .int .i64 0, .int .i64 0, .int .i64 0, .int .i64 0, .int .i64 0, .int .i64 0, .int .i64 0, .int .i64 0, .int .i64 0, .int .i64 0, .int .i64 0, .int .i64 0, .int .i64 0, .int .i64 0, .int .i64 0, .int .i64 0, .int .i64 0, .int .i64 0, .int .i64 0, .int .i64 0, .int .i64 0, .int .i64 0, .int .i64 0, .int .i64 0, .int .i64 0, .int .i64 0, .int .i64 0, .int .i64 0, .int .i64 0, .int .i64 0, .int .i64 0, .int .i64 0, .int .i64 0, .int .i64 0, .int .i64 0, .int .i64 0, .int .i64 0, .int .i64 0, .int .i64 0, .int .i64 0, .int .i64 0, .int .i64 0, .int .i64 0, .int .i64 0, .int .i64 0, .int .i64 0, .int .i64 0, .int .i64 0, .int .i64 0, .int .i64 0, .int .i64 0, .int .i64 0, .int .i64 0, .int .i64 0, .int .i64 0, .int .i64 0, .int .i64 0, .int .i64 0, .int .i64 0, .int .i64 0, .int .i64 0, .int .i64 0, .int .i64 0, .int .i64 0, .int .i64 0, .int .i64 0, .int .i64 0, .int .i64 0, .int .i64 0, .int .i64 0, .int .i64 0, .int .i64 0, .int .i64 0, .int .i64 0, .int .i64 0, .int .i64 0, .int .i64 0, .int .i64 0, .int .i64 0, .int .i64 0, .int .i64 0, .int .i64 0, .int .i64 0, .int .i64 0, .int .i64 0, .int .i64 0, .int .i64 0, .int .i64 0, .int .i64 0, .int .i64 0, .int .i64 0, .int .i64 0, .int .i64 0, .int .i64 0, .int .i64 0, .int .i64 0, .int .i64 0, .int .i64 0, .int .i64 0, .int .i64 0, .int .i64 0, .int .i64 0, .int .i64 0, .int .i64 0, .int .i64 0, .int .i64 0, .int .i64 0, .int .i64 0, .int .i64 0, .int .i64 0, .int .i64 0, .int .i64 0, .int .i64 0, .int .i64 0, .int .i64 0, .int .i64 0, .int .i64 0, .int .i64 0, .int .i64 0, .int .i64 0, .int .i64 0, .int .i64 0, .int .i64 0, .int .i64 0, .int .i64 0, .int .i64 0, .int .i64 0, .int .i64 0, .int .i64 0, .int .i64 0, .int .i64 0, .int .i64 0, .int .i64 0, .int .i64 0, .int .i64 0, .int .i64 0, .int .i64 0, .int .i64 0, .int .i64 0, .int .i64 0, .int .i64 0, .int .i64 0, .int .i64 0, .int .i64 0, .int .i64 0, .int .i64 0, .int .i64 0, .int .i64 0, .int .i64 0, .int .i64 0, .int .i64 0, .int .i64 0, .int .i64 0, .int .i64 0, .int .i64 0, .int .i64 0, .int .i64 0, .int .i64 0, .int .i64 0, .int .i64 0, .int .i64 0, .int .i64 0, .int .i64 0, .int .i64 0, .int .i64 0, .int .i64 0, .int .i64 0, .int .i64 0, .int .i64 0, .int .i64 0, .int .i64 0, .int .i64 0, .int .i64 0, .int .i64 0, .int .i64 0, .int .i64 0, .int .i64 0, .int .i64 0, .int .i64 0, .int .i64 0, .int .i64 0, .int .i64 0, .int .i64 0, .int .i64 0, .int .i64 0, .int .i64 0, .int .i64 0, .int .i64 0, .int .i64 0, .int .i64 0, .int .i64 0, .int .i64 0, .int .i64 0, .int .i64 0, .int .i64 0, .int .i64 0, .int .i64 0, .int .i64 0, .int .i64 0, .int .i64 0, .int .i64 0, .int .i64 0, .int .i64 0, .int .i64 0, .int .i64 0, .int .i64 0, .int .i64 0]))⟩])
  (.seq
  (.seq
  (.reg [
    ⟨some 5, none, .fa 33 (.t 1)⟩,
    ⟨some 6, none, .load 1 false (.t 5)⟩,
    ⟨some 7, none, .lenS (.t 6)⟩,
    ⟨some 8, none, .mov (.c (.int .i64 0))⟩])
  (.block 0
    (.loop
      (.seq
      (.reg [
        ⟨some 9, none, .int .lss (.t 8) (.t 7)⟩])
      (.seq
      (.cond (.t 9)
        .skip
        (.exit 0))
      (.seq
      (.block 1
        (.seq
        (.reg [
          ⟨some 10, none, .mov (.t 8)⟩,
          ⟨some 4, none, .mov (.t 10)⟩])
        (.seq
        (.reg [
          ⟨some 11, none, .fa 33 (.t 1)⟩,
          ⟨some 12, none, .load 1 false (.t 11)⟩,
          ⟨some 13, none, .mov (.t 4)⟩,
          ⟨some 14, none, .idx (.t 12) (.t 13)⟩,
          ⟨some 15, none, .iaa 1 256 (.t 3) (.t 14)⟩,
          ⟨some 16, none, .load 1 false (.t 15)⟩,
          ⟨some 17, none, .int .add (.t 16) (.c (.int .i64 1))⟩,
          ⟨some 18, none, .iaa 1 256 (.t 3) (.t 14)⟩,
          ⟨none, none, .store 1 (.t 18) (.t 17)⟩])
        (.seq
        (.reg [
          ⟨some 19, none, .fa 33 (.t 1)⟩,
          ⟨some 20, none, .load 1 false (.t 19)⟩,
          ⟨some 21, none, .mov (.t 4)⟩,
          ⟨some 22, none, .idx (.t 20) (.t 21)⟩,
          ⟨some 23, none, .iaa 1 256 (.t 3) (.t 22)⟩,
          ⟨some 24, none, .load 1 false (.t 23)⟩,
          ⟨some 25, none, .int .gtr (.t 24) (.c (.int .i64 1))⟩])
        (.cond (.t 25)
          (.seq
          (.reg [
            ⟨some 2, none, .mov (.c (.bool false))⟩])
          .ret)
          .skip)))))
      (.reg [
        ⟨some 26, none, .int .add (.t 8) (.c (.int .i64 1))⟩,
        ⟨some 8, none, .mov (.t 26)⟩])))))))
  (.seq
  (.reg [
    ⟨some 27, none, .fa 33 (.t 1)⟩,
    ⟨some 28, none, .load 1 false (.t 27)⟩,
    ⟨some 29, none, .lenS (.t 28)⟩,
    ⟨some 30, none, .fa 34 (.t 1)⟩,
    ⟨some 31, none, .load 1 false (.t 30)⟩,
    ⟨some 32, none, .lenS (.t 31)⟩,
    ⟨some 33, none, .int .eql (.t 29) (.t 32)⟩,
    ⟨some 2, none, .mov (.t 33)⟩])
  .ret))))⟩

theorem c43 : chkF Go.Proofs.Tryz.prog Go.Proofs.Tryz.f43 m43 = true := by kernel_rfl

/-- paddock/script.label -/
def m44 : MFn := ⟨2, 6, [.tmp 4], 2,
  (.seq
  (.reg [
    ⟨some 2, none, .box 9 1 (.t 0)⟩,
    ⟨some 3, none, .box 4 1 (.t 1)⟩,
    ⟨some 4, none, .mov (.c (.nilf))⟩])
  (.seq
  (.reg [
    ⟨some 5, none, .mkf 95 [.t 2, .t 3]⟩,
    ⟨some 4, none, .mov (.t 5)⟩])
  .ret))⟩

theorem c44 : chkF Go.Proofs.Tryz.prog Go.Proofs.Tryz.f44 m44 = true := by kernel_rfl

/-- paddock/script.texts -/
def m45 : MFn := ⟨1, 4, [.tmp 2], 2,
  (.seq
  (.reg [
    ⟨some 1, none, .box 98 1 (.t 0)⟩,
    ⟨some 2, none, .mov (.c (.nilf))⟩])
  (.seq
  (.reg [
    ⟨some 3, none, .mkf 97 [.t 1]⟩,
    ⟨some 2, none, .mov (.t 3)⟩])
  .ret))⟩

theorem c45 : chkF Go.Proofs.Tryz.prog Go.Proofs.Tryz.f45 m45 = true := by kernel_rfl

/-- paddock/script.letters$5 -/
def m46 : MFn := ⟨1, 5, [.tmp 2], 0,
  (.seq
  (.reg [
    ⟨some 2, none, .mov (.c (.bool false))⟩])
  (.seq
  (.reg [
    ⟨some 3, none, .mov (.t 0)⟩,
    ⟨some 4, none, .call (.c (.fn 47 [])) [.t 3, .c (.str [10, 59])]⟩,
    ⟨some 2, none, .mov (.t 4)⟩])
  .ret))⟩

theorem c46 : chkF Go.Proofs.Tryz.prog Go.Proofs.Tryz.f46 m46 = true := by kernel_rfl

/-- paddock/script.labelled -/
def m47 : MFn := ⟨2, 35, [.tmp 4], 0,
  (.seq
  (.reg [
    ⟨some 4, none, .mov (.c (.bool false))⟩])
  (.seq
  (.reg [
    ⟨some 5, none, .mov (.t 0)⟩,
    ⟨some 6, none, .strb .neq (.t 5) (.c (.str []))⟩,
    ⟨some 7, none, .mov (.t 6)⟩,
    ⟨some 8, some (7, true), .mov (.t 0)⟩,
    ⟨some 9, some (7, true), .lenS (.t 8)⟩,
    ⟨some 10, some (7, true), .int .leq (.t 9) (.c (.int .i64 64))⟩,
    ⟨some 11, none, .pick (.t 7) (.t 10) (.c (.bool false))⟩,
    ⟨some 12, none, .mov (.t 11)⟩,
    ⟨some 13, some (12, true), .mov (.t 0)⟩,
    ⟨some 14, some (12, true), .mov (.t 1)⟩,
    ⟨some 15, some (12, true), .call (.c (.fn 98 [])) [.t 13, .t 14]⟩,
    ⟨some 16, some (12, true), .not (.t 15)⟩,
    ⟨some 17, none, .pick (.t 12) (.t 16) (.c (.bool false))⟩,
    ⟨some 18, none, .mov (.t 17)⟩,
    ⟨some 19, some (18, true), .mov (.t 0)⟩,
    ⟨some 20, some (18, true), .idx (.t 19) (.c (.int .i64 0))⟩,
    ⟨some 21, some (18, true), .conv .i64 (.t 20)⟩,
    ⟨some 22, some (18, true), .call (.c (.fn 18 [])) [.t 21]⟩,
    ⟨some 23, some (18, true), .not (.t 22)⟩,
    ⟨some 24, none, .pick (.t 18) (.t 23) (.c (.bool false))⟩,
    ⟨some 25, none, .mov (.t 24)⟩,
    ⟨some 26, some (25, true), .mov (.t 0)⟩,
    ⟨some 27, some (25, true), .mov (.t 0)⟩,
    ⟨some 28, some (25, true), .lenS (.t 27)⟩,
    ⟨some 29, some (25, true), .int .sub (.t 28) (.c (.int .i64 1))⟩,
    ⟨some 30, some (25, true), .idx (.t 26) (.t 29)⟩,
    ⟨some 31, some (25, true), .conv .i64 (.t 30)⟩,
    ⟨some 32, some (25, true), .call (.c (.fn 18 [])) [.t 31]⟩,
    ⟨some 33, some (25, true), .not (.t 32)⟩,
    ⟨some 34, none, .pick (.t 25) (.t 33) (.c (.bool false))⟩,
    ⟨some 4, none, .mov (.t 34)⟩])
  .ret))⟩

theorem c47 : chkF Go.Proofs.Tryz.prog Go.Proofs.Tryz.f47 m47 = true := by kernel_rfl

/-- paddock/script.letters$6 -/
def m48 : MFn := ⟨2, 11, [], 0,
  (.seq
  (.reg [
    ⟨some 4, none, .mov (.t 0)⟩,
    ⟨some 5, none, .call (.c (.fn 49 [])) [.t 4]⟩])
  (.reg [
    ⟨some 6, none, .mov (.t 1)⟩,
    ⟨some 7, none, .mov (.t 0)⟩,
    ⟨some 8, none, .call (.c (.fn 19 [])) [.t 7, .c (.str [])]⟩,
    ⟨some 9, none, .nilc (.t 6)⟩,
    ⟨some 10, none, .fa 33 (.t 9)⟩,
    ⟨none, none, .store 1 (.t 10) (.t 8)⟩]))⟩

theorem c48 : chkF Go.Proofs.Tryz.prog Go.Proofs.Tryz.f48 m48 = true := by kernel_rfl

/-- (*paddock/script.reader).blanks -/
def m49 : MFn := ⟨1, 12, [], 0,
  (.block 0
    (.loop
      (.seq
      (.seq
      (.reg [
        ⟨some 2, none, .mov (.t 0)⟩,
        ⟨some 3, none, .call (.c (.fn 17 [])) [.t 2]⟩,
        ⟨some 4, none, .call (.c (.fn 18 [])) [.t 3]⟩])
      (.cond (.t 4)
        .skip
        (.exit 0)))
      (.block 1
        (.reg [
          ⟨some 5, none, .mov (.t 0)⟩,
          ⟨some 6, none, .nilc (.t 5)⟩,
          ⟨some 7, none, .fa 1 (.t 6)⟩,
          ⟨some 8, none, .load 1 false (.t 7)⟩,
          ⟨some 9, none, .int .add (.t 8) (.c (.int .i64 1))⟩,
          ⟨some 10, none, .nilc (.t 5)⟩,
          ⟨some 11, none, .fa 1 (.t 10)⟩,
          ⟨none, none, .store 1 (.t 11) (.t 9)⟩])))))⟩

theorem c49 : chkF Go.Proofs.Tryz.prog Go.Proofs.Tryz.f49 m49 = true := by kernel_rfl

/-- paddock/script.letters$7 -/
def m50 : MFn := ⟨1, 17, [.tmp 2], 0,
  (.seq
  (.reg [
    ⟨some 2, none, .mov (.c (.bool false))⟩])
  (.seq
  (.reg [
    ⟨some 3, none, .mov (.t 0)⟩,
    ⟨some 4, none, .call (.c (.fn 51 [])) [.t 3, .c (.int .u8 10)]⟩,
    ⟨some 5, none, .int .lss (.t 4) (.c (.int .i64 0))⟩,
    ⟨some 6, none, .mov (.t 5)⟩,
    ⟨some 7, some (6, true), .mov (.t 0)⟩,
    ⟨some 8, some (6, true), .strb .eql (.t 7) (.c (.str []))⟩,
    ⟨some 9, some (6, true), .mov (.t 8)⟩,
    ⟨some 10, some (9, false), .mov (.t 0)⟩,
    ⟨some 11, some (9, false), .idx (.t 10) (.c (.int .i64 0))⟩,
    ⟨some 12, some (9, false), .conv .i64 (.t 11)⟩,
    ⟨some 13, some (9, false), .call (.c (.fn 18 [])) [.t 12]⟩,
    ⟨some 14, some (9, false), .not (.t 13)⟩,
    ⟨some 15, some (6, true), .pick (.t 9) (.c (.bool true)) (.t 14)⟩,
    ⟨some 16, none, .pick (.t 6) (.t 15) (.c (.bool false))⟩,
    ⟨some 2, none, .mov (.t 16)⟩])
  .ret))⟩

theorem c50 : chkF Go.Proofs.Tryz.prog Go.Proofs.Tryz.f50 m50 = true := by kernel_rfl

/-- strings.IndexByte -/
def m51 : MFn := ⟨2, 8, [.tmp 4], 0,
  (.seq
  (.reg [
    ⟨some 4, none, .mov (.c (.int .i64 0))⟩])
  (.seq
  (.reg [
    ⟨some 5, none, .mov (.t 0)⟩,
    ⟨some 6, none, .mov (.t 1)⟩,
    ⟨some 7, none, .call (.c (.fn 99 [])) [.t 5, .t 6]⟩,
    ⟨some 4, none, .mov (.t 7)⟩])
  .ret))⟩

theorem c51 : chkF Go.Proofs.Tryz.prog Go.Proofs.Tryz.f51 m51 = true := by kernel_rfl

/-- paddock/script.text -/
def m52 : MFn := ⟨2, 89, [], 0,
  (.seq
  (.reg [
    ⟨some 6, none, .mov (.t 0)⟩,
    ⟨some 7, none, .call (.c (.fn 49 [])) [.t 6]⟩])
  (.seq
  (.seq
  (.reg [
    ⟨some 8, none, .mov (.t 0)⟩,
    ⟨some 9, none, .call (.c (.fn 17 [])) [.t 8]⟩,
    ⟨some 10, none, .int .eql (.t 9) (.c (.int .i64 92))⟩])
  (.cond (.t 10)
    (.seq
    (.reg [
      ⟨some 11, none, .mov (.t 0)⟩,
      ⟨some 12, none, .nilc (.t 11)⟩,
      ⟨some 13, none, .fa 1 (.t 12)⟩,
      ⟨some 14, none, .load 1 false (.t 13)⟩,
      ⟨some 15, none, .int .add (.t 14) (.c (.int .i64 1))⟩,
      ⟨some 16, none, .nilc (.t 11)⟩,
      ⟨some 17, none, .fa 1 (.t 16)⟩,
      ⟨none, none, .store 1 (.t 17) (.t 15)⟩])
    (.seq
    (.reg [
      ⟨some 18, none, .mov (.t 0)⟩,
      ⟨some 19, none, .nilc (.t 18)⟩,
      ⟨some 20, none, .fa 1 (.t 19)⟩,
      ⟨some 21, none, .load 1 false (.t 20)⟩,
      ⟨some 4, none, .mov (.t 21)⟩])
    (.seq
    (.reg [
      ⟨some 22, none, .mov (.t 0)⟩,
      ⟨some 23, none, .call (.c (.fn 49 [])) [.t 22]⟩])
    (.seq
    (.seq
    (.reg [
      ⟨some 24, none, .mov (.t 0)⟩,
      ⟨some 25, none, .call (.c (.fn 17 [])) [.t 24]⟩,
      ⟨some 26, none, .int .eql (.t 25) (.c (.int .i64 10))⟩])
    (.cond (.t 26)
      (.reg [
        ⟨some 27, none, .mov (.t 0)⟩,
        ⟨some 28, none, .nilc (.t 27)⟩,
        ⟨some 29, none, .fa 1 (.t 28)⟩,
        ⟨some 30, none, .load 1 false (.t 29)⟩,
        ⟨some 31, none, .int .add (.t 30) (.c (.int .i64 1))⟩,
        ⟨some 4, none, .mov (.t 31)⟩])
      .skip))
    (.reg [
      ⟨some 32, none, .mov (.t 0)⟩,
      ⟨some 33, none, .mov (.t 4)⟩,
      ⟨some 34, none, .nilc (.t 32)⟩,
      ⟨some 35, none, .fa 1 (.t 34)⟩,
      ⟨none, none, .store 1 (.t 35) (.t 33)⟩])))))
    .skip))
  (.seq
  (.seq
  (.reg [
    ⟨some 36, none, .mov (.t 0)⟩,
    ⟨some 37, none, .call (.c (.fn 17 [])) [.t 36]⟩,
    ⟨some 38, none, .int .eql (.t 37) (.c (.int .i64 (-1)))⟩,
    ⟨some 39, none, .mov (.t 38)⟩,
    ⟨some 40, some (39, false), .mov (.t 0)⟩,
    ⟨some 41, some (39, false), .call (.c (.fn 17 [])) [.t 40]⟩,
    ⟨some 42, some (39, false), .int .eql (.t 41) (.c (.int .i64 10))⟩,
    ⟨some 43, none, .pick (.t 39) (.c (.bool true)) (.t 42)⟩])
  (.cond (.t 43)
    (.reg [
      ⟨some 44, none, .mov (.t 0)⟩,
      ⟨some 45, none, .mov (.t 1)⟩,
      ⟨some 46, none, .nilc (.t 45)⟩,
      ⟨some 47, none, .fa 0 (.t 46)⟩,
      ⟨some 48, none, .load 1 false (.t 47)⟩,
      ⟨some 49, none, .call (.c (.fn 22 [])) [.t 44, .c (.int .i64 12), .t 48]⟩])
    .skip))
  (.seq
  (.reg [
    ⟨some 5, none, .box 146 2 (.c (.agg [.nilp, .vs true []]))⟩])
  (.seq
  (.block 0
    (.loop
      (.seq
      (.seq
      (.reg [
        ⟨some 50, none, .mov (.t 0)⟩,
        ⟨some 51, none, .call (.c (.fn 17 [])) [.t 50]⟩,
        ⟨some 52, none, .int .neq (.t 51) (.c (.int .i64 (-1)))⟩,
        ⟨some 53, none, .mov (.t 52)⟩,
        ⟨some 54, some (53, true), .mov (.t 0)⟩,
        ⟨some 55, some (53, true), .call (.c (.fn 17 [])) [.t 54]⟩,
        ⟨some 56, some (53, true), .int .neq (.t 55) (.c (.int .i64 10))⟩,
        ⟨some 57, none, .pick (.t 53) (.t 56) (.c (.bool false))⟩])
      (.cond (.t 57)
        .skip
        (.exit 0)))
      (.block 1
        (.seq
        (.seq
        (.reg [
          ⟨some 58, none, .mov (.t 0)⟩,
          ⟨some 59, none, .call (.c (.fn 17 [])) [.t 58]⟩,
          ⟨some 60, none, .int .eql (.t 59) (.c (.int .i64 92))⟩,
          ⟨some 61, none, .mov (.t 60)⟩,
          ⟨some 62, some (61, true), .mov (.t 0)⟩,
          ⟨some 63, some (61, true), .call (.c (.fn 58 [])) [.t 62, .c (.int .i64 1)]⟩,
          ⟨some 64, some (61, true), .int .neq (.t 63) (.c (.int .i64 (-1)))⟩,
          ⟨some 65, none, .pick (.t 61) (.t 64) (.c (.bool false))⟩])
        (.cond (.t 65)
          (.reg [
            ⟨some 66, none, .mov (.t 0)⟩,
            ⟨some 67, none, .nilc (.t 66)⟩,
            ⟨some 68, none, .fa 1 (.t 67)⟩,
            ⟨some 69, none, .load 1 false (.t 68)⟩,
            ⟨some 70, none, .int .add (.t 69) (.c (.int .i64 1))⟩,
            ⟨some 71, none, .nilc (.t 66)⟩,
            ⟨some 72, none, .fa 1 (.t 71)⟩,
            ⟨none, none, .store 1 (.t 72) (.t 70)⟩])
          .skip))
        (.seq
        (.reg [
          ⟨some 73, none, .mov (.t 0)⟩,
          ⟨some 74, none, .call (.c (.fn 17 [])) [.t 73]⟩,
          ⟨some 75, none, .conv .u8 (.t 74)⟩,
          ⟨some 76, none, .call (.c (.fn 100 [])) [.t 5, .t 75]⟩])
        (.reg [
          ⟨some 77, none, .mov (.t 0)⟩,
          ⟨some 78, none, .nilc (.t 77)⟩,
          ⟨some 79, none, .fa 1 (.t 78)⟩,
          ⟨some 80, none, .load 1 false (.t 79)⟩,
          ⟨some 81, none, .int .add (.t 80) (.c (.int .i64 1))⟩,
          ⟨some 82, none, .nilc (.t 77)⟩,
          ⟨some 83, none, .fa 1 (.t 82)⟩,
          ⟨none, none, .store 1 (.t 83) (.t 81)⟩])))))))
  (.reg [
    ⟨some 84, none, .mov (.t 1)⟩,
    ⟨some 85, none, .call (.c (.fn 101 [])) [.t 5]⟩,
    ⟨some 86, none, .strb .add (.t 85) (.c (.str [10]))⟩,
    ⟨some 87, none, .nilc (.t 84)⟩,
    ⟨some 88, none, .fa 33 (.t 87)⟩,
    ⟨none, none, .store 1 (.t 88) (.t 86)⟩]))))))⟩

theorem c52 : chkF Go.Proofs.Tryz.prog Go.Proofs.Tryz.f52 m52 = true := by kernel_rfl

/-- paddock/script.letters$8 -/
def m53 : MFn := ⟨1, 14, [.tmp 2], 0,
  (.seq
  (.reg [
    ⟨some 2, none, .mov (.c (.bool false))⟩])
  (.seq
  (.reg [
    ⟨some 3, none, .mov (.t 0)⟩,
    ⟨some 4, none, .lenS (.t 3)⟩,
    ⟨some 5, none, .int .geq (.t 4) (.c (.int .i64 2))⟩,
    ⟨some 6, none, .mov (.t 5)⟩,
    ⟨some 7, some (6, true), .mov (.t 0)⟩,
    ⟨some 8, some (6, true), .mov (.t 0)⟩,
    ⟨some 9, some (6, true), .lenS (.t 8)⟩,
    ⟨some 10, some (6, true), .int .sub (.t 9) (.c (.int .i64 1))⟩,
    ⟨some 11, some (6, true), .idx (.t 7) (.t 10)⟩,
    ⟨some 12, some (6, true), .int .eql (.t 11) (.c (.int .u8 10))⟩,
    ⟨some 13, none, .pick (.t 6) (.t 12) (.c (.bool false))⟩,
    ⟨some 2, none, .mov (.t 13)⟩])
  .ret))⟩

theorem c53 : chkF Go.Proofs.Tryz.prog Go.Proofs.Tryz.f53 m53 = true := by kernel_rfl

/-- paddock/script.letters$9 -/
def m54 : MFn := ⟨1, 9, [.tmp 2], 0,
  (.seq
  (.reg [
    ⟨some 2, none, .mov (.c (.bool false))⟩])
  (.seq
  (.reg [
    ⟨some 3, none, .mov (.t 0)⟩,
    ⟨some 4, none, .strb .eql (.t 3) (.c (.str []))⟩,
    ⟨some 5, none, .mov (.t 4)⟩,
    ⟨some 6, some (5, false), .mov (.t 0)⟩,
    ⟨some 7, some (5, false), .call (.c (.fn 47 [])) [.t 6, .c (.str [10, 59, 125])]⟩,
    ⟨some 8, none, .pick (.t 5) (.c (.bool true)) (.t 7)⟩,
    ⟨some 2, none, .mov (.t 8)⟩])
  .ret))⟩

theorem c54 : chkF Go.Proofs.Tryz.prog Go.Proofs.Tryz.f54 m54 = true := by kernel_rfl

/-- paddock/script.letters$10 -/
def m55 : MFn := ⟨2, 9, [], 0,
  (.reg [
    ⟨some 4, none, .mov (.t 1)⟩,
    ⟨some 5, none, .mov (.t 0)⟩,
    ⟨some 6, none, .call (.c (.fn 56 [])) [.t 5]⟩,
    ⟨some 7, none, .nilc (.t 4)⟩,
    ⟨some 8, none, .fa 33 (.t 7)⟩,
    ⟨none, none, .store 1 (.t 8) (.t 6)⟩])⟩

theorem c55 : chkF Go.Proofs.Tryz.prog Go.Proofs.Tryz.f55 m55 = true := by kernel_rfl

/-- (*paddock/script.reader).file -/
def m56 : MFn := ⟨1, 24, [.tmp 2], 0,
  (.seq
  (.reg [
    ⟨some 2, none, .mov (.c (.str []))⟩])
  (.seq
  (.reg [
    ⟨some 5, none, .mov (.t 0)⟩,
    ⟨some 6, none, .call (.c (.fn 49 [])) [.t 5]⟩])
  (.seq
  (.reg [
    ⟨some 7, none, .mov (.t 0)⟩,
    ⟨some 8, none, .nilc (.t 7)⟩,
    ⟨some 9, none, .fa 1 (.t 8)⟩,
    ⟨some 10, none, .load 1 false (.t 9)⟩,
    ⟨some 3, none, .mov (.t 10)⟩])
  (.seq
  (.reg [
    ⟨some 11, none, .mov (.t 0)⟩,
    ⟨some 12, none, .call (.c (.fn 19 [])) [.t 11, .c (.str [])]⟩,
    ⟨some 4, none, .mov (.t 12)⟩])
  (.seq
  (.seq
  (.reg [
    ⟨some 13, none, .mov (.t 4)⟩,
    ⟨some 14, none, .strb .eql (.t 13) (.c (.str []))⟩,
    ⟨some 15, none, .mov (.t 14)⟩,
    ⟨some 16, some (15, false), .mov (.t 4)⟩,
    ⟨some 17, some (15, false), .lenS (.t 16)⟩,
    ⟨some 18, some (15, false), .int .gtr (.t 17) (.c (.int .i64 1024))⟩,
    ⟨some 19, none, .pick (.t 15) (.c (.bool true)) (.t 18)⟩])
  (.cond (.t 19)
    (.reg [
      ⟨some 20, none, .mov (.t 0)⟩,
      ⟨some 21, none, .mov (.t 3)⟩,
      ⟨some 22, none, .call (.c (.fn 22 [])) [.t 20, .c (.int .i64 13), .t 21]⟩])
    .skip))
  (.seq
  (.reg [
    ⟨some 23, none, .mov (.t 4)⟩,
    ⟨some 2, none, .mov (.t 23)⟩])
  .ret))))))⟩

theorem c56 : chkF Go.Proofs.Tryz.prog Go.Proofs.Tryz.f56 m56 = true := by kernel_rfl

/-- paddock/script.named -/
def m57 : MFn := ⟨1, 22, [.tmp 2], 0,
  (.seq
  (.reg [
    ⟨some 2, none, .mov (.c (.bool false))⟩])
  (.seq
  (.reg [
    ⟨some 3, none, .mov (.t 0)⟩,
    ⟨some 4, none, .strb .neq (.t 3) (.c (.str []))⟩,
    ⟨some 5, none, .mov (.t 4)⟩,
    ⟨some 6, some (5, true), .mov (.t 0)⟩,
    ⟨some 7, some (5, true), .lenS (.t 6)⟩,
    ⟨some 8, some (5, true), .int .leq (.t 7) (.c (.int .i64 1024))⟩,
    ⟨some 9, none, .pick (.t 5) (.t 8) (.c (.bool false))⟩,
    ⟨some 10, none, .mov (.t 9)⟩,
    ⟨some 11, some (10, true), .mov (.t 0)⟩,
    ⟨some 12, some (10, true), .call (.c (.fn 51 [])) [.t 11, .c (.int .u8 10)]⟩,
    ⟨some 13, some (10, true), .int .lss (.t 12) (.c (.int .i64 0))⟩,
    ⟨some 14, none, .pick (.t 10) (.t 13) (.c (.bool false))⟩,
    ⟨some 15, none, .mov (.t 14)⟩,
    ⟨some 16, some (15, true), .mov (.t 0)⟩,
    ⟨some 17, some (15, true), .idx (.t 16) (.c (.int .i64 0))⟩,
    ⟨some 18, some (15, true), .conv .i64 (.t 17)⟩,
    ⟨some 19, some (15, true), .call (.c (.fn 18 [])) [.t 18]⟩,
    ⟨some 20, some (15, true), .not (.t 19)⟩,
    ⟨some 21, none, .pick (.t 15) (.t 20) (.c (.bool false))⟩,
    ⟨some 2, none, .mov (.t 21)⟩])
  .ret))⟩

theorem c57 : chkF Go.Proofs.Tryz.prog Go.Proofs.Tryz.f57 m57 = true := by kernel_rfl

/-- (*paddock/script.reader).ahead -/
def m58 : MFn := ⟨2, 29, [.tmp 4], 0,
  (.seq
  (.reg [
    ⟨some 4, none, .mov (.c (.int .i64 0))⟩])
  (.seq
  (.seq
  (.dreg [
    ⟨0, 0, [], 0, ⟨some 5, none, .mov (.t 0)⟩⟩,
    ⟨1, 0, [], 1, ⟨some 6, none, .nilc (.t 5)⟩⟩,
    ⟨2, 0, [], 3, ⟨some 7, none, .fa 1 (.t 6)⟩⟩,
    ⟨3, 0, [], 7, ⟨some 8, none, .load 1 false (.t 7)⟩⟩,
    ⟨4, 0, [], 0, ⟨some 9, none, .mov (.t 1)⟩⟩,
    ⟨5, 0, [], 31, ⟨some 10, none, .int .add (.t 8) (.t 9)⟩⟩,
    ⟨6, 0, [], 0, ⟨some 11, none, .mov (.t 0)⟩⟩,
    ⟨7, 0, [], 64, ⟨some 12, none, .nilc (.t 11)⟩⟩,
    ⟨8, 0, [], 192, ⟨some 13, none, .fa 0 (.t 12)⟩⟩,
    ⟨9, 0, [], 448, ⟨some 14, none, .load 1 false (.t 13)⟩⟩,
    ⟨10, 0, [], 960, ⟨some 15, none, .lenS (.t 14)⟩⟩,
    ⟨11, 0, [], 2047, ⟨some 16, none, .int .lss (.t 10) (.t 15)⟩⟩])
  (.cond (.t 16)
    (.seq
    (.dreg [
      ⟨0, 0, [], 0, ⟨some 17, none, .mov (.t 0)⟩⟩,
      ⟨1, 0, [], 1, ⟨some 18, none, .nilc (.t 17)⟩⟩,
      ⟨2, 0, [], 3, ⟨some 19, none, .fa 0 (.t 18)⟩⟩,
      ⟨3, 0, [], 7, ⟨some 20, none, .load 1 false (.t 19)⟩⟩,
      ⟨4, 0, [], 0, ⟨some 21, none, .mov (.t 0)⟩⟩,
      ⟨5, 0, [], 16, ⟨some 22, none, .nilc (.t 21)⟩⟩,
      ⟨6, 0, [], 48, ⟨some 23, none, .fa 1 (.t 22)⟩⟩,
      ⟨7, 0, [], 112, ⟨some 24, none, .load 1 false (.t 23)⟩⟩,
      ⟨8, 0, [], 0, ⟨some 25, none, .mov (.t 1)⟩⟩,
      ⟨9, 0, [], 496, ⟨some 26, none, .int .add (.t 24) (.t 25)⟩⟩,
      ⟨10, 0, [], 1023, ⟨some 27, none, .idx (.t 20) (.t 26)⟩⟩,
      ⟨11, 0, [], 2047, ⟨some 28, none, .conv .i64 (.t 27)⟩⟩,
      ⟨12, 0, [], 4095, ⟨some 4, none, .mov (.t 28)⟩⟩])
    .ret)
    .skip))
  (.seq
  (.reg [
    ⟨some 4, none, .mov (.c (.int .i64 (-1)))⟩])
  .ret)))⟩

theorem c58 : chkF Go.Proofs.Tryz.prog Go.Proofs.Tryz.f58 m58 = true := by kernel_rfl

/-- paddock/script.anyAt -/
def m59 : MFn := ⟨2, 24, [.tmp 4], 0,
  (.seq
  (.reg [
    ⟨some 4, none, .mov (.c (.int .i64 0))⟩])
  (.seq
  (.seq
  (.reg [
    ⟨some 9, none, .mov (.t 0)⟩,
    ⟨some 10, none, .rngs (.t 9)⟩])
  (.block 0
    (.loop
      (.seq
      (.reg [
        ⟨some 11, none, .nxts (.t 10)⟩,
        ⟨some 12, none, .ext (.t 11) 0⟩])
      (.seq
      (.cond (.t 12)
        .skip
        (.exit 0))
      (.block 1
        (.seq
        (.reg [
          ⟨some 13, none, .ext (.t 11) 1⟩,
          ⟨some 14, none, .ext (.t 11) 2⟩,
          ⟨some 5, none, .mov (.t 13)⟩,
          ⟨some 6, none, .mov (.t 14)⟩])
        (.seq
        (.reg [
          ⟨some 15, none, .mov (.t 1)⟩,
          ⟨some 16, none, .rngs (.t 15)⟩])
        (.block 2
          (.loop
            (.seq
            (.reg [
              ⟨some 17, none, .nxts (.t 16)⟩,
              ⟨some 18, none, .ext (.t 17) 0⟩])
            (.seq
            (.cond (.t 18)
              .skip
              (.exit 2))
            (.block 3
              (.seq
              (.reg [
                ⟨some 19, none, .ext (.t 17) 2⟩,
                ⟨some 8, none, .mov (.t 19)⟩])
              (.seq
              (.reg [
                ⟨some 20, none, .mov (.t 6)⟩,
                ⟨some 21, none, .mov (.t 8)⟩,
                ⟨some 22, none, .int .eql (.t 20) (.t 21)⟩])
              (.cond (.t 22)
                (.seq
                (.reg [
                  ⟨some 23, none, .mov (.t 5)⟩,
                  ⟨some 4, none, .mov (.t 23)⟩])
                .ret)
                .skip))))))))))))))))
  (.seq
  (.reg [
    ⟨some 4, none, .mov (.c (.int .i64 (-1)))⟩])
  .ret)))⟩

theorem c59 : chkF Go.Proofs.Tryz.prog Go.Proofs.Tryz.f59 m59 = true := by kernel_rfl

/-- (*paddock/script.reader).front -/
def m60 : MFn := ⟨1, 77, [.cell 2 54 true], 0,
  (.seq
  (.reg [
    ⟨some 2, none, .box 57 54 (.c (.agg [.int .i64 0, .int .u8 0, .int .i64 0, .int .i64 0, .str [], .bool false, .bool false, .int .u8 0, .int .u64 0, .int .u64 0, .int .u64 0, .int .u64 0, .int .i64 0, .int .i64 0, .int .i64 0, .vs true [], .int .u8 0, .int .i64 0, .int .i64 0, .str [], .bool false, .bool false, .int .u8 0, .int .u64 0, .int .u64 0, .int .u64 0, .int .u64 0, .int .i64 0, .int .i64 0, .int .i64 0, .vs true [], .bool false, .int .u8 0, .str [], .str [], .int .i64 0, .str [], .bool false, .bool false, .int .u8 0, .int .u64 0, .int .u64 0, .int .u64 0, .int .u64 0, .int .i64 0, .int .i64 0, .int .i64 0, .vs true [], .vs true [], .int .i64 0, .bool false, .bool false, .bool false, .str []]))⟩])
  (.seq
  (.reg [
    ⟨some 5, none, .mov (.t 0)⟩,
    ⟨some 6, none, .nilc (.t 5)⟩,
    ⟨some 7, none, .fa 1 (.t 6)⟩,
    ⟨some 8, none, .load 1 false (.t 7)⟩,
    ⟨some 3, none, .mov (.t 8)⟩])
  (.seq
  (.reg [
    ⟨some 9, none, .mov (.t 0)⟩,
    ⟨some 10, none, .call (.c (.fn 102 [])) [.t 9, .c (.bool false)]⟩,
    ⟨some 11, none, .build [.int .i64 0, .int .u8 0, .int .i64 0, .int .i64 0, .str [], .bool false, .bool false, .int .u8 0, .int .u64 0, .int .u64 0, .int .u64 0, .int .u64 0, .int .i64 0, .int .i64 0, .int .i64 0, .vs true [], .int .u8 0, .int .i64 0, .int .i64 0, .str [], .bool false, .bool false, .int .u8 0, .int .u64 0, .int .u64 0, .int .u64 0, .int .u64 0, .int .i64 0, .int .i64 0, .int .i64 0, .vs true [], .bool false, .int .u8 0, .str [], .str [], .int .i64 0, .str [], .bool false, .bool false, .int .u8 0, .int .u64 0, .int .u64 0, .int .u64 0, .int .u64 0, .int .i64 0, .int .i64 0, .int .i64 0, .vs true [], .vs true [], .int .i64 0, .bool false, .bool false, .bool false, .str []] [(1, 15, .t 10)]⟩,
    ⟨some 4, none, .box 57 54 (.c (.agg [.int .i64 0, .int .u8 0, .int .i64 0, .int .i64 0, .str [], .bool false, .bool false, .int .u8 0, .int .u64 0, .int .u64 0, .int .u64 0, .int .u64 0, .int .i64 0, .int .i64 0, .int .i64 0, .vs true [], .int .u8 0, .int .i64 0, .int .i64 0, .str [], .bool false, .bool false, .int .u8 0, .int .u64 0, .int .u64 0, .int .u64 0, .int .u64 0, .int .i64 0, .int .i64 0, .int .i64 0, .vs true [], .bool false, .int .u8 0, .str [], .str [], .int .i64 0, .str [], .bool false, .bool false, .int .u8 0, .int .u64 0, .int .u64 0, .int .u64 0, .int .u64 0, .int .i64 0, .int .i64 0, .int .i64 0, .vs true [], .vs true [], .int .i64 0, .bool false, .bool false, .bool false, .str []]))⟩,
    ⟨none, none, .store 54 (.t 4) (.t 11)⟩])
  (.seq
  (.seq
  (.reg [
    ⟨some 12, none, .fa 1 (.t 4)⟩,
    ⟨some 13, none, .fa 0 (.t 12)⟩,
    ⟨some 14, none, .load 1 false (.t 13)⟩,
    ⟨some 15, none, .int .neq (.t 14) (.c (.int .u8 0))⟩])
  (.cond (.t 15)
    (.seq
    (.reg [
      ⟨some 16, none, .mov (.t 0)⟩,
      ⟨some 17, none, .call (.c (.fn 49 [])) [.t 16]⟩])
    (.seq
    (.seq
    (.reg [
      ⟨some 18, none, .mov (.t 0)⟩,
      ⟨some 19, none, .call (.c (.fn 17 [])) [.t 18]⟩,
      ⟨some 20, none, .int .eql (.t 19) (.c (.int .i64 44))⟩])
    (.cond (.t 20)
      (.seq
      (.reg [
        ⟨some 21, none, .mov (.t 0)⟩,
        ⟨some 22, none, .nilc (.t 21)⟩,
        ⟨some 23, none, .fa 1 (.t 22)⟩,
        ⟨some 24, none, .load 1 false (.t 23)⟩,
        ⟨some 25, none, .int .add (.t 24) (.c (.int .i64 1))⟩,
        ⟨some 26, none, .nilc (.t 21)⟩,
        ⟨some 27, none, .fa 1 (.t 26)⟩,
        ⟨none, none, .store 1 (.t 27) (.t 25)⟩])
      (.seq
      (.reg [
        ⟨some 28, none, .mov (.t 0)⟩,
        ⟨some 29, none, .call (.c (.fn 49 [])) [.t 28]⟩])
      (.reg [
        ⟨some 30, none, .mov (.t 0)⟩,
        ⟨some 31, none, .call (.c (.fn 102 [])) [.t 30, .c (.bool true)]⟩,
        ⟨some 32, none, .fa 16 (.t 4)⟩,
        ⟨none, none, .store 15 (.t 32) (.t 31)⟩])))
      .skip))
    (.seq
    (.seq
    (.reg [
      ⟨some 33, none, .fa 1 (.t 4)⟩,
      ⟨some 34, none, .fa 0 (.t 33)⟩,
      ⟨some 35, none, .load 1 false (.t 34)⟩,
      ⟨some 36, none, .int .eql (.t 35) (.c (.int .u8 1))⟩,
      ⟨some 37, none, .mov (.t 36)⟩,
      ⟨some 38, some (37, true), .fa 1 (.t 4)⟩,
      ⟨some 39, some (37, true), .fa 1 (.t 38)⟩,
      ⟨some 40, some (37, true), .load 1 false (.t 39)⟩,
      ⟨some 41, some (37, true), .int .eql (.t 40) (.c (.int .i64 0))⟩,
      ⟨some 42, none, .pick (.t 37) (.t 41) (.c (.bool false))⟩,
      ⟨some 43, none, .mov (.t 42)⟩,
      ⟨some 44, some (43, true), .fa 16 (.t 4)⟩,
      ⟨some 45, some (43, true), .fa 0 (.t 44)⟩,
      ⟨some 46, some (43, true), .load 1 false (.t 45)⟩,
      ⟨some 47, some (43, true), .int .neq (.t 46) (.c (.int .u8 3))⟩,
      ⟨some 48, none, .pick (.t 43) (.t 47) (.c (.bool false))⟩])
    (.cond (.t 48)
      (.reg [
        ⟨some 49, none, .mov (.t 0)⟩,
        ⟨some 50, none, .mov (.t 3)⟩,
        ⟨some 51, none, .call (.c (.fn 22 [])) [.t 49, .c (.int .i64 2), .t 50]⟩])
      .skip))
    (.reg [
      ⟨some 52, none, .mov (.t 0)⟩,
      ⟨some 53, none, .call (.c (.fn 49 [])) [.t 52]⟩]))))
    .skip))
  (.seq
  (.seq
  (.reg [
    ⟨some 54, none, .mov (.t 0)⟩,
    ⟨some 55, none, .call (.c (.fn 17 [])) [.t 54]⟩,
    ⟨some 56, none, .int .eql (.t 55) (.c (.int .i64 33))⟩])
  (.cond (.t 56)
    (.seq
    (.reg [
      ⟨some 57, none, .fa 31 (.t 4)⟩,
      ⟨none, none, .store 1 (.t 57) (.c (.bool true))⟩])
    (.seq
    (.reg [
      ⟨some 58, none, .mov (.t 0)⟩,
      ⟨some 59, none, .nilc (.t 58)⟩,
      ⟨some 60, none, .fa 1 (.t 59)⟩,
      ⟨some 61, none, .load 1 false (.t 60)⟩,
      ⟨some 62, none, .int .add (.t 61) (.c (.int .i64 1))⟩,
      ⟨some 63, none, .nilc (.t 58)⟩,
      ⟨some 64, none, .fa 1 (.t 63)⟩,
      ⟨none, none, .store 1 (.t 64) (.t 62)⟩])
    (.seq
    (.reg [
      ⟨some 65, none, .mov (.t 0)⟩,
      ⟨some 66, none, .call (.c (.fn 49 [])) [.t 65]⟩])
    (.seq
    (.reg [
      ⟨some 67, none, .mov (.t 0)⟩,
      ⟨some 68, none, .call (.c (.fn 17 [])) [.t 67]⟩,
      ⟨some 69, none, .int .eql (.t 68) (.c (.int .i64 33))⟩])
    (.cond (.t 69)
      (.reg [
        ⟨some 70, none, .mov (.t 0)⟩,
        ⟨some 71, none, .mov (.t 0)⟩,
        ⟨some 72, none, .nilc (.t 71)⟩,
        ⟨some 73, none, .fa 1 (.t 72)⟩,
        ⟨some 74, none, .load 1 false (.t 73)⟩,
        ⟨some 75, none, .call (.c (.fn 22 [])) [.t 70, .c (.int .i64 5), .t 74]⟩])
      .skip)))))
    .skip))
  (.seq
  (.reg [
    ⟨some 76, none, .load 54 true (.t 4)⟩,
    ⟨none, none, .store 54 (.t 2) (.t 76)⟩])
  .ret))))))⟩

theorem c60 : chkF Go.Proofs.Tryz.prog Go.Proofs.Tryz.f60 m60 = true := by kernel_rfl

/-- internal/stringslite.HasPrefix -/
def m61 : MFn := ⟨2, 18, [.tmp 4], 0,
  (.seq
  (.reg [
    ⟨some 4, none, .mov (.c (.bool false))⟩])
  (.seq
  (.reg [
    ⟨some 5, none, .mov (.t 0)⟩,
    ⟨some 6, none, .lenS (.t 5)⟩,
    ⟨some 7, none, .mov (.t 1)⟩,
    ⟨some 8, none, .lenS (.t 7)⟩,
    ⟨some 9, none, .int .geq (.t 6) (.t 8)⟩,
    ⟨some 10, none, .mov (.t 9)⟩,
    ⟨some 11, some (10, true), .mov (.t 0)⟩,
    ⟨some 12, some (10, true), .mov (.t 1)⟩,
    ⟨some 13, some (10, true), .lenS (.t 12)⟩,
    ⟨some 14, some (10, true), .sstr (.t 11) none (some (.t 13))⟩,
    ⟨some 15, some (10, true), .mov (.t 1)⟩,
    ⟨some 16, some (10, true), .strb .eql (.t 14) (.t 15)⟩,
    ⟨some 17, none, .pick (.t 10) (.t 16) (.c (.bool false))⟩,
    ⟨some 4, none, .mov (.t 17)⟩])
  .ret))⟩

theorem c61 : chkF Go.Proofs.Tryz.prog Go.Proofs.Tryz.f61 m61 = true := by kernel_rfl

/-- paddock/script.alone -/
def m62 : MFn := ⟨3, 54, [.tmp 6], 0,
  (.seq
  (.reg [
    ⟨some 3, none, .box 57 54 (.t 0)⟩,
    ⟨some 6, none, .mov (.c (.bool false))⟩])
  (.seq
  (.reg [
    ⟨some 10, none, .mov (.t 1)⟩,
    ⟨some 11, none, .fa 32 (.t 3)⟩,
    ⟨some 12, none, .load 1 false (.t 11)⟩,
    ⟨some 13, none, .mget false (.agg [.int .i64 0, .nilf, .nilf]) true (.t 10) (.t 12)⟩,
    ⟨some 9, none, .mov (.t 13)⟩,
    ⟨some 14, none, .ext (.t 9) 0⟩,
    ⟨some 15, none, .ext (.t 9) 1⟩,
    ⟨some 7, none, .box 93 3 (.c (.agg [.int .i64 0, .nilf, .nilf]))⟩,
    ⟨none, none, .store 3 (.t 7) (.t 14)⟩,
    ⟨some 8, none, .mov (.t 15)⟩])
  (.seq
  (.seq
  (.reg [
    ⟨some 16, none, .mov (.t 8)⟩,
    ⟨some 17, none, .not (.t 16)⟩,
    ⟨some 18, none, .mov (.t 17)⟩,
    ⟨some 19, some (18, false), .fa 0 (.t 3)⟩,
    ⟨some 20, some (18, false), .load 1 false (.t 19)⟩,
    ⟨some 21, some (18, false), .int .lss (.t 20) (.c (.int .i64 0))⟩,
    ⟨some 22, none, .pick (.t 18) (.c (.bool true)) (.t 21)⟩,
    ⟨some 23, none, .mov (.t 22)⟩,
    ⟨some 24, some (23, false), .load 54 true (.t 3)⟩,
    ⟨some 25, some (23, false), .fa 0 (.t 7)⟩,
    ⟨some 26, some (23, false), .load 1 false (.t 25)⟩,
    ⟨some 27, some (23, false), .mov (.t 2)⟩,
    ⟨some 28, some (23, false), .call (.c (.fn 103 [])) [.t 24, .t 26, .t 27]⟩,
    ⟨some 29, some (23, false), .not (.t 28)⟩,
    ⟨some 30, none, .pick (.t 23) (.c (.bool true)) (.t 29)⟩,
    ⟨some 31, none, .mov (.t 30)⟩,
    ⟨some 32, some (31, false), .fa 2 (.t 7)⟩,
    ⟨some 33, some (31, false), .load 1 false (.t 32)⟩,
    ⟨some 34, some (31, false), .load 54 true (.t 3)⟩,
    ⟨some 35, some (31, false), .call (.t 33) [.t 34]⟩,
    ⟨some 36, some (31, false), .not (.t 35)⟩,
    ⟨some 37, none, .pick (.t 31) (.c (.bool true)) (.t 36)⟩])
  (.cond (.t 37)
    (.seq
    (.reg [
      ⟨some 6, none, .mov (.c (.bool false))⟩])
    .ret)
    .skip))
  (.seq
  (.seq
  (.reg [
    ⟨some 38, none, .fa 32 (.t 3)⟩,
    ⟨some 39, none, .load 1 false (.t 38)⟩,
    ⟨some 40, none, .int .eql (.t 39) (.c (.int .u8 115))⟩])
  (.cond (.t 40)
    (.seq
    (.reg [
      ⟨some 41, none, .load 54 true (.t 3)⟩,
      ⟨some 42, none, .mov (.t 2)⟩,
      ⟨some 43, none, .call (.c (.fn 104 [])) [.t 41, .t 42]⟩,
      ⟨some 6, none, .mov (.t 43)⟩])
    .ret)
    .skip))
  (.seq
  (.reg [
    ⟨some 44, none, .fa 36 (.t 3)⟩,
    ⟨some 45, none, .load 12 true (.t 44)⟩,
    ⟨some 46, none, .build [.str [], .bool false, .bool false, .int .u8 0, .int .u64 0, .int .u64 0, .int .u64 0, .int .u64 0, .int .i64 0, .int .i64 0, .int .i64 0, .vs true []] []⟩,
    ⟨some 47, none, .call (.c (.fn 105 [])) [.t 45, .t 46]⟩,
    ⟨some 48, none, .mov (.t 47)⟩,
    ⟨some 49, some (48, true), .fa 48 (.t 3)⟩,
    ⟨some 50, some (48, true), .load 6 true (.t 49)⟩,
    ⟨some 51, some (48, true), .build [.vs true [], .int .i64 0, .bool false, .bool false, .bool false, .str []] []⟩,
    ⟨some 52, some (48, true), .call (.c (.fn 106 [])) [.t 50, .t 51]⟩,
    ⟨some 53, none, .pick (.t 48) (.t 52) (.c (.bool false))⟩,
    ⟨some 6, none, .mov (.t 53)⟩])
  .ret)))))⟩

theorem c62 : chkF Go.Proofs.Tryz.prog Go.Proofs.Tryz.f62 m62 = true := by kernel_rfl

/-- paddock/script.Copy -/
def m63 : MFn := ⟨1, 59, [.cell 2 3 true], 0,
  (.seq
  (.reg [
    ⟨some 1, none, .box 33 3 (.t 0)⟩,
    ⟨some 2, none, .box 33 3 (.c (.agg [.vs true [], .bool false, .bool false]))⟩])
  (.seq
  (.reg [
    ⟨some 7, none, .fa 0 (.t 1)⟩,
    ⟨some 8, none, .load 1 false (.t 7)⟩,
    ⟨some 9, none, .call (.c (.fn 107 [])) [.t 8]⟩,
    ⟨some 10, none, .fa 0 (.t 1)⟩,
    ⟨none, none, .store 1 (.t 10) (.t 9)⟩])
  (.seq
  (.seq
  (.reg [
    ⟨some 11, none, .fa 0 (.t 1)⟩,
    ⟨some 12, none, .load 1 false (.t 11)⟩,
    ⟨some 13, none, .lenL (.t 12)⟩,
    ⟨some 14, none, .mov (.c (.int .i64 0))⟩])
  (.block 0
    (.loop
      (.seq
      (.reg [
        ⟨some 15, none, .int .lss (.t 14) (.t 13)⟩])
      (.seq
      (.cond (.t 15)
        .skip
        (.exit 0))
      (.seq
      (.block 1
        (.seq
        (.reg [
          ⟨some 16, none, .mov (.t 14)⟩,
          ⟨some 3, none, .mov (.t 16)⟩])
        (.seq
        (.reg [
          ⟨some 17, none, .fa 0 (.t 1)⟩,
          ⟨some 18, none, .load 1 false (.t 17)⟩,
          ⟨some 19, none, .mov (.t 3)⟩,
          ⟨some 20, none, .ia 54 (.t 18) (.t 19)⟩,
          ⟨some 4, none, .mov (.t 20)⟩])
        (.seq
        (.seq
        (.dreg [
          ⟨0, 0, [], 0, ⟨some 21, none, .mov (.t 4)⟩⟩,
          ⟨1, 0, [], 1, ⟨some 22, none, .nilc (.t 21)⟩⟩,
          ⟨2, 0, [], 3, ⟨some 23, none, .fa 1 (.t 22)⟩⟩,
          ⟨3, 0, [], 7, ⟨some 24, none, .fa 3 (.t 23)⟩⟩,
          ⟨4, 0, [], 0, ⟨some 25, none, .mov (.t 4)⟩⟩,
          ⟨5, 0, [], 16, ⟨some 26, none, .nilc (.t 25)⟩⟩,
          ⟨6, 0, [], 48, ⟨some 27, none, .fa 16 (.t 26)⟩⟩,
          ⟨7, 0, [], 112, ⟨some 28, none, .fa 3 (.t 27)⟩⟩,
          ⟨8, 0, [], 0, ⟨some 29, none, .mov (.t 4)⟩⟩,
          ⟨9, 0, [], 256, ⟨some 30, none, .nilc (.t 29)⟩⟩,
          ⟨10, 0, [], 768, ⟨some 31, none, .fa 36 (.t 30)⟩⟩,
          ⟨11, 0, [], 2047, ⟨some 32, none, .bslice [.nilp] 3 [(0, .t 24), (1, .t 28), (2, .t 31)]⟩⟩,
          ⟨12, 0, [], 4095, ⟨some 33, none, .lenL (.t 32)⟩⟩,
          ⟨13, 0, [], 0, ⟨some 34, none, .mov (.c (.int .i64 0))⟩⟩])
        (.block 2
          (.loop
            (.seq
            (.reg [
              ⟨some 35, none, .int .lss (.t 34) (.t 33)⟩])
            (.seq
            (.cond (.t 35)
              .skip
              (.exit 2))
            (.seq
            (.block 3
              (.seq
              (.reg [
                ⟨some 36, none, .ia 1 (.t 32) (.t 34)⟩,
                ⟨some 37, none, .load 1 false (.t 36)⟩,
                ⟨some 6, none, .mov (.t 37)⟩])
              (.reg [
                ⟨some 38, none, .mov (.t 6)⟩,
                ⟨some 39, none, .mov (.t 6)⟩,
                ⟨some 40, none, .nilc (.t 39)⟩,
                ⟨some 41, none, .fa 3 (.t 40)⟩,
                ⟨some 42, none, .load 9 true (.t 41)⟩,
                ⟨some 43, none, .call (.c (.fn 108 [])) [.t 42]⟩,
                ⟨some 44, none, .nilc (.t 38)⟩,
                ⟨some 45, none, .fa 3 (.t 44)⟩,
                ⟨none, none, .store 9 (.t 45) (.t 43)⟩])))
            (.reg [
              ⟨some 46, none, .int .add (.t 34) (.c (.int .i64 1))⟩,
              ⟨some 34, none, .mov (.t 46)⟩])))))))
        (.reg [
          ⟨some 47, none, .mov (.t 4)⟩,
          ⟨some 48, none, .mov (.t 4)⟩,
          ⟨some 49, none, .nilc (.t 48)⟩,
          ⟨some 50, none, .fa 48 (.t 49)⟩,
          ⟨some 51, none, .fa 0 (.t 50)⟩,
          ⟨some 52, none, .load 1 false (.t 51)⟩,
          ⟨some 53, none, .call (.c (.fn 109 [])) [.t 52]⟩,
          ⟨some 54, none, .nilc (.t 47)⟩,
          ⟨some 55, none, .fa 48 (.t 54)⟩,
          ⟨some 56, none, .fa 0 (.t 55)⟩,
          ⟨none, none, .store 1 (.t 56) (.t 53)⟩])))))
      (.reg [
        ⟨some 57, none, .int .add (.t 14) (.c (.int .i64 1))⟩,
        ⟨some 14, none, .mov (.t 57)⟩])))))))
  (.seq
  (.reg [
    ⟨some 58, none, .load 3 true (.t 1)⟩,
    ⟨none, none, .store 3 (.t 2) (.t 58)⟩])
  .ret))))⟩

theorem c63 : chkF Go.Proofs.Tryz.prog Go.Proofs.Tryz.f63 m63 = true := by kernel_rfl

/-- paddock/program.jumps -/
def m64 : MFn := ⟨1, 13, [.tmp 2], 0,
  (.seq
  (.reg [
    ⟨some 2, none, .mov (.c (.bool false))⟩])
  (.seq
  (.reg [
    ⟨some 3, none, .mov (.t 0)⟩,
    ⟨some 4, none, .int .eql (.t 3) (.c (.int .u8 98))⟩,
    ⟨some 5, none, .mov (.t 4)⟩,
    ⟨some 6, some (5, false), .mov (.t 0)⟩,
    ⟨some 7, some (5, false), .int .eql (.t 6) (.c (.int .u8 116))⟩,
    ⟨some 8, none, .pick (.t 5) (.c (.bool true)) (.t 7)⟩,
    ⟨some 9, none, .mov (.t 8)⟩,
    ⟨some 10, some (9, false), .mov (.t 0)⟩,
    ⟨some 11, some (9, false), .int .eql (.t 10) (.c (.int .u8 84))⟩,
    ⟨some 12, none, .pick (.t 9) (.c (.bool true)) (.t 11)⟩,
    ⟨some 2, none, .mov (.t 12)⟩])
  .ret))⟩

theorem c64 : chkF Go.Proofs.Tryz.prog Go.Proofs.Tryz.f64 m64 = true := by kernel_rfl

/-- slices.IndexFunc[[]int,int] -/
def m65 : MFn := ⟨2, 19, [.tmp 4], 0,
  (.seq
  (.reg [
    ⟨some 4, none, .mov (.c (.int .i64 0))⟩])
  (.seq
  (.seq
  (.reg [
    ⟨some 6, none, .mov (.t 0)⟩,
    ⟨some 7, none, .lenL (.t 6)⟩,
    ⟨some 8, none, .mov (.c (.int .i64 0))⟩])
  (.block 0
    (.loop
      (.seq
      (.reg [
        ⟨some 9, none, .int .lss (.t 8) (.t 7)⟩])
      (.seq
      (.cond (.t 9)
        .skip
        (.exit 0))
      (.seq
      (.block 1
        (.seq
        (.reg [
          ⟨some 10, none, .mov (.t 8)⟩,
          ⟨some 5, none, .mov (.t 10)⟩])
        (.seq
        (.reg [
          ⟨some 11, none, .mov (.t 1)⟩,
          ⟨some 12, none, .mov (.t 0)⟩,
          ⟨some 13, none, .mov (.t 5)⟩,
          ⟨some 14, none, .ia 1 (.t 12) (.t 13)⟩,
          ⟨some 15, none, .load 1 false (.t 14)⟩,
          ⟨some 16, none, .call (.t 11) [.t 15]⟩])
        (.cond (.t 16)
          (.seq
          (.reg [
            ⟨some 17, none, .mov (.t 5)⟩,
            ⟨some 4, none, .mov (.t 17)⟩])
          .ret)
          .skip))))
      (.reg [
        ⟨some 18, none, .int .add (.t 8) (.c (.int .i64 1))⟩,
        ⟨some 8, none, .mov (.t 18)⟩])))))))
  (.seq
  (.reg [
    ⟨some 4, none, .mov (.c (.int .i64 (-1)))⟩])
  .ret)))⟩

theorem c65 : chkF Go.Proofs.Tryz.prog Go.Proofs.Tryz.f65 m65 = true := by kernel_rfl

/-- paddock/program.alone -/
def m66 : MFn := ⟨2, 46, [.tmp 4], 0,
  (.seq
  (.reg [
    ⟨some 2, none, .box 57 54 (.t 0)⟩,
    ⟨some 4, none, .mov (.c (.bool false))⟩])
  (.seq
  (.seq
  (.reg [
    ⟨some 8, none, .fa 32 (.t 2)⟩,
    ⟨some 9, none, .load 1 false (.t 8)⟩,
    ⟨some 10, none, .int .eql (.t 9) (.c (.int .u8 58))⟩,
    ⟨some 11, none, .mov (.t 10)⟩,
    ⟨some 12, some (11, false), .fa 32 (.t 2)⟩,
    ⟨some 13, some (11, false), .load 1 false (.t 12)⟩,
    ⟨some 14, some (11, false), .int .eql (.t 13) (.c (.int .u8 125))⟩,
    ⟨some 15, none, .pick (.t 11) (.c (.bool true)) (.t 14)⟩,
    ⟨some 16, none, .mov (.t 15)⟩,
    ⟨some 17, some (16, false), .fa 32 (.t 2)⟩,
    ⟨some 18, some (16, false), .load 1 false (.t 17)⟩,
    ⟨some 19, some (16, false), .call (.c (.fn 64 [])) [.t 18]⟩,
    ⟨some 20, some (16, false), .mov (.t 19)⟩,
    ⟨some 21, some (20, true), .fa 33 (.t 2)⟩,
    ⟨some 22, some (20, true), .load 1 false (.t 21)⟩,
    ⟨some 23, some (20, true), .strb .neq (.t 22) (.c (.str []))⟩,
    ⟨some 24, some (16, false), .pick (.t 20) (.t 23) (.c (.bool false))⟩,
    ⟨some 25, none, .pick (.t 16) (.c (.bool true)) (.t 24)⟩])
  (.cond (.t 25)
    (.seq
    (.reg [
      ⟨some 4, none, .mov (.c (.bool false))⟩])
    .ret)
    .skip))
  (.seq
  (.reg [
    ⟨some 26, none, .load 54 true (.t 2)⟩,
    ⟨some 27, none, .bslice [.int .i64 0, .int .u8 0, .int .i64 0, .int .i64 0, .str [], .bool false, .bool false, .int .u8 0, .int .u64 0, .int .u64 0, .int .u64 0, .int .u64 0, .int .i64 0, .int .i64 0, .int .i64 0, .vs true [], .int .u8 0, .int .i64 0, .int .i64 0, .str [], .bool false, .bool false, .int .u8 0, .int .u64 0, .int .u64 0, .int .u64 0, .int .u64 0, .int .i64 0, .int .i64 0, .int .i64 0, .vs true [], .bool false, .int .u8 0, .str [], .str [], .int .i64 0, .str [], .bool false, .bool false, .int .u8 0, .int .u64 0, .int .u64 0, .int .u64 0, .int .u64 0, .int .i64 0, .int .i64 0, .int .i64 0, .vs true [], .vs true [], .int .i64 0, .bool false, .bool false, .bool false, .str []] 1 [(0, .t 26)]⟩,
    ⟨some 28, none, .mov (.t 1)⟩,
    ⟨some 29, none, .build [.vs true [], .bool false, .bool false] [(0, 1, .t 27), (2, 1, .t 28)]⟩,
    ⟨some 5, none, .box 33 3 (.c (.agg [.vs true [], .bool false, .bool false]))⟩,
    ⟨none, none, .store 3 (.t 5) (.t 29)⟩])
  (.seq
  (.seq
  (.reg [
    ⟨some 30, none, .fa 32 (.t 2)⟩,
    ⟨some 31, none, .load 1 false (.t 30)⟩,
    ⟨some 32, none, .int .eql (.t 31) (.c (.int .u8 123))⟩])
  (.cond (.t 32)
    (.reg [
      ⟨some 33, none, .fa 0 (.t 5)⟩,
      ⟨some 34, none, .load 1 false (.t 33)⟩,
      ⟨some 35, none, .build [.int .i64 0, .int .u8 0, .int .i64 0, .int .i64 0, .str [], .bool false, .bool false, .int .u8 0, .int .u64 0, .int .u64 0, .int .u64 0, .int .u64 0, .int .i64 0, .int .i64 0, .int .i64 0, .vs true [], .int .u8 0, .int .i64 0, .int .i64 0, .str [], .bool false, .bool false, .int .u8 0, .int .u64 0, .int .u64 0, .int .u64 0, .int .u64 0, .int .i64 0, .int .i64 0, .int .i64 0, .vs true [], .bool false, .int .u8 0, .str [], .str [], .int .i64 0, .str [], .bool false, .bool false, .int .u8 0, .int .u64 0, .int .u64 0, .int .u64 0, .int .u64 0, .int .i64 0, .int .i64 0, .int .i64 0, .vs true [], .vs true [], .int .i64 0, .bool false, .bool false, .bool false, .str []] [(32, 1, .c (.int .u8 125))]⟩,
      ⟨some 36, none, .bslice [.int .i64 0, .int .u8 0, .int .i64 0, .int .i64 0, .str [], .bool false, .bool false, .int .u8 0, .int .u64 0, .int .u64 0, .int .u64 0, .int .u64 0, .int .i64 0, .int .i64 0, .int .i64 0, .vs true [], .int .u8 0, .int .i64 0, .int .i64 0, .str [], .bool false, .bool false, .int .u8 0, .int .u64 0, .int .u64 0, .int .u64 0, .int .u64 0, .int .i64 0, .int .i64 0, .int .i64 0, .vs true [], .bool false, .int .u8 0, .str [], .str [], .int .i64 0, .str [], .bool false, .bool false, .int .u8 0, .int .u64 0, .int .u64 0, .int .u64 0, .int .u64 0, .int .i64 0, .int .i64 0, .int .i64 0, .vs true [], .vs true [], .int .i64 0, .bool false, .bool false, .bool false, .str []] 1 [(0, .t 35)]⟩,
      ⟨some 37, none, .app 57 54 496 (.t 34) (.t 36)⟩,
      ⟨some 38, none, .fa 0 (.t 5)⟩,
      ⟨none, none, .store 1 (.t 38) (.t 37)⟩])
    .skip))
  (.seq
  (.reg [
    ⟨some 40, none, .load 3 true (.t 5)⟩,
    ⟨some 41, none, .call (.c (.fn 24 [])) [.t 40]⟩,
    ⟨some 39, none, .mov (.t 41)⟩,
    ⟨some 42, none, .ext (.t 39) 0⟩,
    ⟨some 43, none, .ext (.t 39) 1⟩,
    ⟨some 6, none, .mov (.t 42)⟩,
    ⟨some 7, none, .mov (.t 43)⟩])
  (.seq
  (.reg [
    ⟨some 44, none, .mov (.t 6)⟩,
    ⟨some 45, none, .int .eql (.t 44) (.c (.int .i64 0))⟩,
    ⟨some 4, none, .mov (.t 45)⟩])
  .ret))))))⟩

theorem c66 : chkF Go.Proofs.Tryz.prog Go.Proofs.Tryz.f66 m66 = true := by kernel_rfl

/-- slices.ContainsFunc[[]int,int] -/
def m67 : MFn := ⟨2, 9, [.tmp 4], 0,
  (.seq
  (.reg [
    ⟨some 4, none, .mov (.c (.bool false))⟩])
  (.seq
  (.reg [
    ⟨some 5, none, .mov (.t 0)⟩,
    ⟨some 6, none, .mov (.t 1)⟩,
    ⟨some 7, none, .call (.c (.fn 65 [])) [.t 5, .t 6]⟩,
    ⟨some 8, none, .int .geq (.t 7) (.c (.int .i64 0))⟩,
    ⟨some 4, none, .mov (.t 8)⟩])
  .ret))⟩

theorem c67 : chkF Go.Proofs.Tryz.prog Go.Proofs.Tryz.f67 m67 = true := by kernel_rfl

/-- paddock/program.step$1 -/
def m68 : MFn := ⟨2, 8, [.tmp 3], 0,
  (.seq
  (.reg [
    ⟨some 3, none, .mov (.c (.bool false))⟩])
  (.seq
  (.reg [
    ⟨some 4, none, .fa 54 (.t 1)⟩,
    ⟨some 5, none, .load 1 false (.t 4)⟩,
    ⟨some 6, none, .mov (.t 0)⟩,
    ⟨some 7, none, .int .gtr (.t 5) (.t 6)⟩,
    ⟨some 3, none, .mov (.t 7)⟩])
  .ret))⟩

theorem c68 : chkF Go.Proofs.Tryz.prog Go.Proofs.Tryz.f68 m68 = true := by kernel_rfl

/-- strconv.Itoa -/
def m69 : MFn := ⟨1, 5, [.tmp 2], 0,
  (.seq
  (.reg [
    ⟨some 2, none, .mov (.c (.str []))⟩])
  (.seq
  (.reg [
    ⟨some 3, none, .mov (.t 0)⟩,
    ⟨some 4, none, .call (.c (.fn 110 [])) [.t 3]⟩,
    ⟨some 2, none, .mov (.t 4)⟩])
  .ret))⟩

theorem c69 : chkF Go.Proofs.Tryz.prog Go.Proofs.Tryz.f69 m69 = true := by kernel_rfl

/-- paddock/program.copied -/
def m70 : MFn := ⟨1, 10, [.cell 2 54 true], 0,
  (.seq
  (.reg [
    ⟨some 1, none, .box 57 54 (.t 0)⟩,
    ⟨some 2, none, .box 57 54 (.c (.agg [.int .i64 0, .int .u8 0, .int .i64 0, .int .i64 0, .str [], .bool false, .bool false, .int .u8 0, .int .u64 0, .int .u64 0, .int .u64 0, .int .u64 0, .int .i64 0, .int .i64 0, .int .i64 0, .vs true [], .int .u8 0, .int .i64 0, .int .i64 0, .str [], .bool false, .bool false, .int .u8 0, .int .u64 0, .int .u64 0, .int .u64 0, .int .u64 0, .int .i64 0, .int .i64 0, .int .i64 0, .vs true [], .bool false, .int .u8 0, .str [], .str [], .int .i64 0, .str [], .bool false, .bool false, .int .u8 0, .int .u64 0, .int .u64 0, .int .u64 0, .int .u64 0, .int .i64 0, .int .i64 0, .int .i64 0, .vs true [], .vs true [], .int .i64 0, .bool false, .bool false, .bool false, .str []]))⟩])
  (.seq
  (.reg [
    ⟨some 3, none, .load 54 true (.t 1)⟩,
    ⟨some 4, none, .bslice [.int .i64 0, .int .u8 0, .int .i64 0, .int .i64 0, .str [], .bool false, .bool false, .int .u8 0, .int .u64 0, .int .u64 0, .int .u64 0, .int .u64 0, .int .i64 0, .int .i64 0, .int .i64 0, .vs true [], .int .u8 0, .int .i64 0, .int .i64 0, .str [], .bool false, .bool false, .int .u8 0, .int .u64 0, .int .u64 0, .int .u64 0, .int .u64 0, .int .i64 0, .int .i64 0, .int .i64 0, .vs true [], .bool false, .int .u8 0, .str [], .str [], .int .i64 0, .str [], .bool false, .bool false, .int .u8 0, .int .u64 0, .int .u64 0, .int .u64 0, .int .u64 0, .int .i64 0, .int .i64 0, .int .i64 0, .vs true [], .vs true [], .int .i64 0, .bool false, .bool false, .bool false, .str []] 1 [(0, .t 3)]⟩,
    ⟨some 5, none, .build [.vs true [], .bool false, .bool false] [(0, 1, .t 4)]⟩,
    ⟨some 6, none, .call (.c (.fn 63 [])) [.t 5]⟩,
    ⟨some 7, none, .fld 0 1 false (.t 6)⟩,
    ⟨some 8, none, .ia 54 (.t 7) (.c (.int .i64 0))⟩,
    ⟨some 9, none, .load 54 true (.t 8)⟩,
    ⟨none, none, .store 54 (.t 2) (.t 9)⟩])
  .ret))⟩

theorem c70 : chkF Go.Proofs.Tryz.prog Go.Proofs.Tryz.f70 m70 = true := by kernel_rfl

/-- paddock/script.written -/
def m71 : MFn := ⟨1, 15, [.tmp 2], 0,
  (.seq
  (.reg [
    ⟨some 1, none, .box 57 54 (.t 0)⟩,
    ⟨some 2, none, .mov (.c (.str []))⟩])
  (.seq
  (.seq
  (.reg [
    ⟨some 3, none, .fa 32 (.t 1)⟩,
    ⟨some 4, none, .load 1 false (.t 3)⟩])
  (.block 0
    (.seq
    (.seq
    (.reg [
      ⟨some 6, none, .int .eql (.t 4) (.c (.int .u8 119))⟩,
      ⟨some 5, none, .mov (.t 6)⟩])
    (.cond (.t 5)
      .skip
      (.reg [
        ⟨some 7, none, .int .eql (.t 4) (.c (.int .u8 87))⟩,
        ⟨some 5, none, .mov (.t 7)⟩])))
    (.cond (.t 5)
      (.seq
      (.reg [
        ⟨some 8, none, .fa 33 (.t 1)⟩,
        ⟨some 9, none, .load 1 false (.t 8)⟩,
        ⟨some 2, none, .mov (.t 9)⟩])
      .ret)
      (.seq
      (.reg [
        ⟨some 11, none, .int .eql (.t 4) (.c (.int .u8 115))⟩,
        ⟨some 10, none, .mov (.t 11)⟩])
      (.cond (.t 10)
        (.seq
        (.reg [
          ⟨some 12, none, .fa 48 (.t 1)⟩,
          ⟨some 13, none, .fa 5 (.t 12)⟩,
          ⟨some 14, none, .load 1 false (.t 13)⟩,
          ⟨some 2, none, .mov (.t 14)⟩])
        .ret)
        .skip))))))
  (.seq
  (.reg [
    ⟨some 2, none, .mov (.c (.str []))⟩])
  .ret)))⟩

theorem c71 : chkF Go.Proofs.Tryz.prog Go.Proofs.Tryz.f71 m71 = true := by kernel_rfl

/-- slices.Contains[[]string,string] -/
def m72 : MFn := ⟨2, 9, [.tmp 4], 0,
  (.seq
  (.reg [
    ⟨some 4, none, .mov (.c (.bool false))⟩])
  (.seq
  (.reg [
    ⟨some 5, none, .mov (.t 0)⟩,
    ⟨some 6, none, .mov (.t 1)⟩,
    ⟨some 7, none, .call (.c (.fn 111 [])) [.t 5, .t 6]⟩,
    ⟨some 8, none, .int .geq (.t 7) (.c (.int .i64 0))⟩,
    ⟨some 4, none, .mov (.t 8)⟩])
  .ret))⟩

theorem c72 : chkF Go.Proofs.Tryz.prog Go.Proofs.Tryz.f72 m72 = true := by kernel_rfl

/-- slices.insertionSortOrdered[int] -/
def m73 : MFn := ⟨3, 49, [], 0,
  (.seq
  (.reg [
    ⟨some 8, none, .mov (.t 1)⟩,
    ⟨some 9, none, .int .add (.t 8) (.c (.int .i64 1))⟩,
    ⟨some 6, none, .mov (.t 9)⟩])
  (.block 0
    (.loop
      (.seq
      (.seq
      (.reg [
        ⟨some 10, none, .mov (.t 6)⟩,
        ⟨some 11, none, .mov (.t 2)⟩,
        ⟨some 12, none, .int .lss (.t 10) (.t 11)⟩])
      (.cond (.t 12)
        .skip
        (.exit 0)))
      (.seq
      (.block 1
        (.seq
        (.reg [
          ⟨some 15, none, .mov (.t 6)⟩,
          ⟨some 7, none, .mov (.t 15)⟩])
        (.block 2
          (.loop
            (.seq
            (.seq
            (.dreg [
              ⟨0, 0, [], 0, ⟨some 16, none, .mov (.t 7)⟩⟩,
              ⟨1, 0, [], 0, ⟨some 17, none, .mov (.t 1)⟩⟩,
              ⟨2, 0, [], 3, ⟨some 18, none, .int .gtr (.t 16) (.t 17)⟩⟩,
              ⟨3, 0, [], 7, ⟨some 19, none, .mov (.t 18)⟩⟩,
              ⟨4, 0, [], 15, ⟨some 20, some (19, true), .mov (.t 0)⟩⟩,
              ⟨5, 0, [], 15, ⟨some 21, some (19, true), .mov (.t 7)⟩⟩,
              ⟨6, 0, [], 63, ⟨some 22, some (19, true), .ia 1 (.t 20) (.t 21)⟩⟩,
              ⟨7, 0, [], 127, ⟨some 23, some (19, true), .load 1 false (.t 22)⟩⟩,
              ⟨8, 0, [], 15, ⟨some 24, some (19, true), .mov (.t 0)⟩⟩,
              ⟨9, 0, [], 15, ⟨some 25, some (19, true), .mov (.t 7)⟩⟩,
              ⟨10, 0, [], 527, ⟨some 26, some (19, true), .int .sub (.t 25) (.c (.int .i64 1))⟩⟩,
              ⟨11, 0, [], 1807, ⟨some 27, some (19, true), .ia 1 (.t 24) (.t 26)⟩⟩,
              ⟨12, 0, [], 3855, ⟨some 28, some (19, true), .load 1 false (.t 27)⟩⟩,
              ⟨13, 1, [], 8191, ⟨some 29, some (19, true), .call (.c (.fn 79 [])) [.t 23, .t 28]⟩⟩,
              ⟨14, 0, [], 16383, ⟨some 30, none, .pick (.t 19) (.t 29) (.c (.bool false))⟩⟩])
            (.cond (.t 30)
              .skip
              (.exit 2)))
            (.seq
            (.block 3
              (.dreg [
                ⟨0, 0, [], 0, ⟨some 33, none, .mov (.t 0)⟩⟩,
                ⟨1, 0, [], 0, ⟨some 34, none, .mov (.t 7)⟩⟩,
                ⟨2, 0, [], 0, ⟨some 35, none, .mov (.t 0)⟩⟩,
                ⟨3, 0, [], 0, ⟨some 36, none, .mov (.t 7)⟩⟩,
                ⟨4, 0, [], 8, ⟨some 37, none, .int .sub (.t 36) (.c (.int .i64 1))⟩⟩,
                ⟨5, 0, [], 0, ⟨some 38, none, .mov (.t 0)⟩⟩,
                ⟨6, 0, [], 0, ⟨some 39, none, .mov (.t 7)⟩⟩,
                ⟨7, 0, [], 64, ⟨some 40, none, .int .sub (.t 39) (.c (.int .i64 1))⟩⟩,
                ⟨8, 0, [], 224, ⟨some 41, none, .ia 1 (.t 38) (.t 40)⟩⟩,
                ⟨9, 0, [], 480, ⟨some 42, none, .load 1 false (.t 41)⟩⟩,
                ⟨10, 0, [], 0, ⟨some 43, none, .mov (.t 0)⟩⟩,
                ⟨11, 0, [], 0, ⟨some 44, none, .mov (.t 7)⟩⟩,
                ⟨12, 0, [], 3072, ⟨some 45, none, .ia 1 (.t 43) (.t 44)⟩⟩,
                ⟨13, 0, [], 7168, ⟨some 46, none, .load 1 false (.t 45)⟩⟩,
                ⟨14, 0, [], 16355, ⟨some 47, none, .ia 1 (.t 33) (.t 34)⟩⟩,
                ⟨15, 1, [2, 3, 4], 32739, ⟨none, none, .store 1 (.t 47) (.t 42)⟩⟩,
                ⟨16, 0, [], 65535, ⟨some 48, none, .ia 1 (.t 35) (.t 37)⟩⟩,
                ⟨17, 1, [], 131071, ⟨none, none, .store 1 (.t 48) (.t 46)⟩⟩]))
            (.reg [
              ⟨some 31, none, .mov (.t 7)⟩,
              ⟨some 32, none, .int .sub (.t 31) (.c (.int .i64 1))⟩,
              ⟨some 7, none, .mov (.t 32)⟩])))))))
      (.reg [
        ⟨some 13, none, .mov (.t 6)⟩,
        ⟨some 14, none, .int .add (.t 13) (.c (.int .i64 1))⟩,
        ⟨some 6, none, .mov (.t 14)⟩]))))))⟩

theorem c73 : chkF Go.Proofs.Tryz.prog Go.Proofs.Tryz.f73 m73 = true := by kernel_rfl

/-- slices.heapSortOrdered[int] -/
def m74 : MFn := ⟨3, 56, [], 0,
  (.seq
  (.reg [
    ⟨some 11, none, .mov (.t 1)⟩,
    ⟨some 6, none, .mov (.t 11)⟩])
  (.seq
  (.reg [
    ⟨some 7, none, .mov (.c (.int .i64 0))⟩])
  (.seq
  (.reg [
    ⟨some 12, none, .mov (.t 2)⟩,
    ⟨some 13, none, .mov (.t 1)⟩,
    ⟨some 14, none, .int .sub (.t 12) (.t 13)⟩,
    ⟨some 8, none, .mov (.t 14)⟩])
  (.seq
  (.seq
  (.reg [
    ⟨some 15, none, .mov (.t 8)⟩,
    ⟨some 16, none, .int .sub (.t 15) (.c (.int .i64 1))⟩,
    ⟨some 17, none, .int .quo (.t 16) (.c (.int .i64 2))⟩,
    ⟨some 9, none, .mov (.t 17)⟩])
  (.block 0
    (.loop
      (.seq
      (.seq
      (.reg [
        ⟨some 18, none, .mov (.t 9)⟩,
        ⟨some 19, none, .int .geq (.t 18) (.c (.int .i64 0))⟩])
      (.cond (.t 19)
        .skip
        (.exit 0)))
      (.seq
      (.block 1
        (.reg [
          ⟨some 22, none, .mov (.t 0)⟩,
          ⟨some 23, none, .mov (.t 9)⟩,
          ⟨some 24, none, .mov (.t 8)⟩,
          ⟨some 25, none, .mov (.t 6)⟩,
          ⟨some 26, none, .call (.c (.fn 112 [])) [.t 22, .t 23, .t 24, .t 25]⟩]))
      (.reg [
        ⟨some 20, none, .mov (.t 9)⟩,
        ⟨some 21, none, .int .sub (.t 20) (.c (.int .i64 1))⟩,
        ⟨some 9, none, .mov (.t 21)⟩]))))))
  (.seq
  (.reg [
    ⟨some 27, none, .mov (.t 8)⟩,
    ⟨some 28, none, .int .sub (.t 27) (.c (.int .i64 1))⟩,
    ⟨some 10, none, .mov (.t 28)⟩])
  (.block 2
    (.loop
      (.seq
      (.seq
      (.reg [
        ⟨some 29, none, .mov (.t 10)⟩,
        ⟨some 30, none, .int .geq (.t 29) (.c (.int .i64 0))⟩])
      (.cond (.t 30)
        .skip
        (.exit 2)))
      (.seq
      (.block 3
        (.seq
        (.dreg [
          ⟨0, 0, [], 0, ⟨some 33, none, .mov (.t 0)⟩⟩,
          ⟨1, 0, [], 0, ⟨some 34, none, .mov (.t 6)⟩⟩,
          ⟨2, 0, [], 0, ⟨some 35, none, .mov (.t 0)⟩⟩,
          ⟨3, 0, [], 0, ⟨some 36, none, .mov (.t 6)⟩⟩,
          ⟨4, 0, [], 0, ⟨some 37, none, .mov (.t 10)⟩⟩,
          ⟨5, 0, [], 24, ⟨some 38, none, .int .add (.t 36) (.t 37)⟩⟩,
          ⟨6, 0, [], 0, ⟨some 39, none, .mov (.t 0)⟩⟩,
          ⟨7, 0, [], 0, ⟨some 40, none, .mov (.t 6)⟩⟩,
          ⟨8, 0, [], 0, ⟨some 41, none, .mov (.t 10)⟩⟩,
          ⟨9, 0, [], 384, ⟨some 42, none, .int .add (.t 40) (.t 41)⟩⟩,
          ⟨10, 0, [], 960, ⟨some 43, none, .ia 1 (.t 39) (.t 42)⟩⟩,
          ⟨11, 0, [], 1984, ⟨some 44, none, .load 1 false (.t 43)⟩⟩,
          ⟨12, 0, [], 0, ⟨some 45, none, .mov (.t 0)⟩⟩,
          ⟨13, 0, [], 0, ⟨some 46, none, .mov (.t 6)⟩⟩,
          ⟨14, 0, [], 12288, ⟨some 47, none, .ia 1 (.t 45) (.t 46)⟩⟩,
          ⟨15, 0, [], 28672, ⟨some 48, none, .load 1 false (.t 47)⟩⟩,
          ⟨16, 0, [], 65475, ⟨some 49, none, .ia 1 (.t 33) (.t 34)⟩⟩,
          ⟨17, 1, [2, 3, 4, 5], 131011, ⟨none, none, .store 1 (.t 49) (.t 44)⟩⟩,
          ⟨18, 0, [], 262143, ⟨some 50, none, .ia 1 (.t 35) (.t 38)⟩⟩,
          ⟨19, 1, [], 524287, ⟨none, none, .store 1 (.t 50) (.t 48)⟩⟩])
        (.reg [
          ⟨some 51, none, .mov (.t 0)⟩,
          ⟨some 52, none, .mov (.t 7)⟩,
          ⟨some 53, none, .mov (.t 10)⟩,
          ⟨some 54, none, .mov (.t 6)⟩,
          ⟨some 55, none, .call (.c (.fn 112 [])) [.t 51, .t 52, .t 53, .t 54]⟩])))
      (.reg [
        ⟨some 31, none, .mov (.t 10)⟩,
        ⟨some 32, none, .int .sub (.t 31) (.c (.int .i64 1))⟩,
        ⟨some 10, none, .mov (.t 32)⟩]))))))))))⟩

theorem c74 : chkF Go.Proofs.Tryz.prog Go.Proofs.Tryz.f74 m74 = true := by kernel_rfl

/-- slices.breakPatternsOrdered[int] -/
def m75 : MFn := ⟨3, 65, [], 0,
  (.seq
  (.reg [
    ⟨some 11, none, .mov (.t 2)⟩,
    ⟨some 12, none, .mov (.t 1)⟩,
    ⟨some 13, none, .int .sub (.t 11) (.t 12)⟩,
    ⟨some 6, none, .mov (.t 13)⟩])
  (.seq
  (.reg [
    ⟨some 14, none, .mov (.t 6)⟩,
    ⟨some 15, none, .int .geq (.t 14) (.c (.int .i64 8))⟩])
  (.cond (.t 15)
    (.seq
    (.reg [
      ⟨some 16, none, .mov (.t 6)⟩,
      ⟨some 17, none, .conv .u64 (.t 16)⟩,
      ⟨some 7, none, .box 163 1 (.c (.int .u64 0))⟩,
      ⟨none, none, .store 1 (.t 7) (.t 17)⟩])
    (.seq
    (.reg [
      ⟨some 18, none, .mov (.t 6)⟩,
      ⟨some 19, none, .call (.c (.fn 113 [])) [.t 18]⟩,
      ⟨some 8, none, .mov (.t 19)⟩])
    (.seq
    (.reg [
      ⟨some 20, none, .mov (.t 1)⟩,
      ⟨some 21, none, .mov (.t 6)⟩,
      ⟨some 22, none, .int .quo (.t 21) (.c (.int .i64 4))⟩,
      ⟨some 23, none, .int .mul (.t 22) (.c (.int .i64 2))⟩,
      ⟨some 24, none, .int .add (.t 20) (.t 23)⟩,
      ⟨some 25, none, .int .sub (.t 24) (.c (.int .i64 1))⟩,
      ⟨some 9, none, .mov (.t 25)⟩])
    (.block 0
      (.loop
        (.seq
        (.seq
        (.reg [
          ⟨some 26, none, .mov (.t 9)⟩,
          ⟨some 27, none, .mov (.t 1)⟩,
          ⟨some 28, none, .mov (.t 6)⟩,
          ⟨some 29, none, .int .quo (.t 28) (.c (.int .i64 4))⟩,
          ⟨some 30, none, .int .mul (.t 29) (.c (.int .i64 2))⟩,
          ⟨some 31, none, .int .add (.t 27) (.t 30)⟩,
          ⟨some 32, none, .int .add (.t 31) (.c (.int .i64 1))⟩,
          ⟨some 33, none, .int .leq (.t 26) (.t 32)⟩])
        (.cond (.t 33)
          .skip
          (.exit 0)))
        (.seq
        (.block 1
          (.seq
          (.reg [
            ⟨some 36, none, .call (.c (.fn 114 [])) [.t 7]⟩,
            ⟨some 37, none, .mov (.t 8)⟩,
            ⟨some 38, none, .int .sub (.t 37) (.c (.int .u64 1))⟩,
            ⟨some 39, none, .int .and (.t 36) (.t 38)⟩,
            ⟨some 40, none, .conv .i64 (.t 39)⟩,
            ⟨some 10, none, .mov (.t 40)⟩])
          (.seq
          (.seq
          (.reg [
            ⟨some 41, none, .mov (.t 10)⟩,
            ⟨some 42, none, .mov (.t 6)⟩,
            ⟨some 43, none, .int .geq (.t 41) (.t 42)⟩])
          (.cond (.t 43)
            (.reg [
              ⟨some 44, none, .mov (.t 10)⟩,
              ⟨some 45, none, .mov (.t 6)⟩,
              ⟨some 46, none, .int .sub (.t 44) (.t 45)⟩,
              ⟨some 10, none, .mov (.t 46)⟩])
            .skip))
          (.dreg [
            ⟨0, 0, [], 0, ⟨some 47, none, .mov (.t 0)⟩⟩,
            ⟨1, 0, [], 0, ⟨some 48, none, .mov (.t 9)⟩⟩,
            ⟨2, 0, [], 0, ⟨some 49, none, .mov (.t 0)⟩⟩,
            ⟨3, 0, [], 0, ⟨some 50, none, .mov (.t 1)⟩⟩,
            ⟨4, 0, [], 0, ⟨some 51, none, .mov (.t 10)⟩⟩,
            ⟨5, 0, [], 24, ⟨some 52, none, .int .add (.t 50) (.t 51)⟩⟩,
            ⟨6, 0, [], 0, ⟨some 53, none, .mov (.t 0)⟩⟩,
            ⟨7, 0, [], 0, ⟨some 54, none, .mov (.t 1)⟩⟩,
            ⟨8, 0, [], 0, ⟨some 55, none, .mov (.t 10)⟩⟩,
            ⟨9, 0, [], 384, ⟨some 56, none, .int .add (.t 54) (.t 55)⟩⟩,
            ⟨10, 0, [], 960, ⟨some 57, none, .ia 1 (.t 53) (.t 56)⟩⟩,
            ⟨11, 0, [], 1984, ⟨some 58, none, .load 1 false (.t 57)⟩⟩,
            ⟨12, 0, [], 0, ⟨some 59, none, .mov (.t 0)⟩⟩,
            ⟨13, 0, [], 0, ⟨some 60, none, .mov (.t 9)⟩⟩,
            ⟨14, 0, [], 12288, ⟨some 61, none, .ia 1 (.t 59) (.t 60)⟩⟩,
            ⟨15, 0, [], 28672, ⟨some 62, none, .load 1 false (.t 61)⟩⟩,
            ⟨16, 0, [], 65475, ⟨some 63, none, .ia 1 (.t 47) (.t 48)⟩⟩,
            ⟨17, 1, [2, 3, 4, 5], 131011, ⟨none, none, .store 1 (.t 63) (.t 58)⟩⟩,
            ⟨18, 0, [], 262143, ⟨some 64, none, .ia 1 (.t 49) (.t 52)⟩⟩,
            ⟨19, 1, [], 524287, ⟨none, none, .store 1 (.t 64) (.t 62)⟩⟩]))))
        (.reg [
          ⟨some 34, none, .mov (.t 9)⟩,
          ⟨some 35, none, .int .add (.t 34) (.c (.int .i64 1))⟩,
          ⟨some 9, none, .mov (.t 35)⟩]))))))))
    .skip)))⟩

theorem c75 : chkF Go.Proofs.Tryz.prog Go.Proofs.Tryz.f75 m75 = true := by kernel_rfl

/-- slices.choosePivotOrdered[int] -/
def m76 : MFn := ⟨3, 57, [.tmp 6, .tmp 7], 0,
  (.seq
  (.reg [
    ⟨some 6, none, .mov (.c (.int .i64 0))⟩,
    ⟨some 7, none, .mov (.c (.int .i64 0))⟩])
  (.seq
  (.reg [
    ⟨some 13, none, .mov (.t 2)⟩,
    ⟨some 14, none, .mov (.t 1)⟩,
    ⟨some 15, none, .int .sub (.t 13) (.t 14)⟩,
    ⟨some 8, none, .mov (.t 15)⟩])
  (.seq
  (.reg [
    ⟨some 9, none, .box 3 1 (.c (.int .i64 0))⟩])
  (.seq
  (.reg [
    ⟨some 16, none, .mov (.t 1)⟩,
    ⟨some 17, none, .mov (.t 8)⟩,
    ⟨some 18, none, .int .quo (.t 17) (.c (.int .i64 4))⟩,
    ⟨some 19, none, .int .mul (.t 18) (.c (.int .i64 1))⟩,
    ⟨some 20, none, .int .add (.t 16) (.t 19)⟩,
    ⟨some 10, none, .mov (.t 20)⟩])
  (.seq
  (.reg [
    ⟨some 21, none, .mov (.t 1)⟩,
    ⟨some 22, none, .mov (.t 8)⟩,
    ⟨some 23, none, .int .quo (.t 22) (.c (.int .i64 4))⟩,
    ⟨some 24, none, .int .mul (.t 23) (.c (.int .i64 2))⟩,
    ⟨some 25, none, .int .add (.t 21) (.t 24)⟩,
    ⟨some 11, none, .mov (.t 25)⟩])
  (.seq
  (.reg [
    ⟨some 26, none, .mov (.t 1)⟩,
    ⟨some 27, none, .mov (.t 8)⟩,
    ⟨some 28, none, .int .quo (.t 27) (.c (.int .i64 4))⟩,
    ⟨some 29, none, .int .mul (.t 28) (.c (.int .i64 3))⟩,
    ⟨some 30, none, .int .add (.t 26) (.t 29)⟩,
    ⟨some 12, none, .mov (.t 30)⟩])
  (.seq
  (.seq
  (.reg [
    ⟨some 31, none, .mov (.t 8)⟩,
    ⟨some 32, none, .int .geq (.t 31) (.c (.int .i64 8))⟩])
  (.cond (.t 32)
    (.seq
    (.seq
    (.reg [
      ⟨some 33, none, .mov (.t 8)⟩,
      ⟨some 34, none, .int .geq (.t 33) (.c (.int .i64 50))⟩])
    (.cond (.t 34)
      (.seq
      (.reg [
        ⟨some 35, none, .mov (.t 0)⟩,
        ⟨some 36, none, .mov (.t 10)⟩,
        ⟨some 37, none, .call (.c (.fn 115 [])) [.t 35, .t 36, .t 9]⟩,
        ⟨some 10, none, .mov (.t 37)⟩])
      (.seq
      (.reg [
        ⟨some 38, none, .mov (.t 0)⟩,
        ⟨some 39, none, .mov (.t 11)⟩,
        ⟨some 40, none, .call (.c (.fn 115 [])) [.t 38, .t 39, .t 9]⟩,
        ⟨some 11, none, .mov (.t 40)⟩])
      (.reg [
        ⟨some 41, none, .mov (.t 0)⟩,
        ⟨some 42, none, .mov (.t 12)⟩,
        ⟨some 43, none, .call (.c (.fn 115 [])) [.t 41, .t 42, .t 9]⟩,
        ⟨some 12, none, .mov (.t 43)⟩])))
      .skip))
    (.reg [
      ⟨some 44, none, .mov (.t 0)⟩,
      ⟨some 45, none, .mov (.t 10)⟩,
      ⟨some 46, none, .mov (.t 11)⟩,
      ⟨some 47, none, .mov (.t 12)⟩,
      ⟨some 48, none, .call (.c (.fn 116 [])) [.t 44, .t 45, .t 46, .t 47, .t 9]⟩,
      ⟨some 11, none, .mov (.t 48)⟩]))
    .skip))
  (.seq
  (.reg [
    ⟨some 49, none, .load 1 false (.t 9)⟩])
  (.block 0
    (.seq
    (.reg [
      ⟨some 52, none, .int .eql (.t 49) (.c (.int .i64 0))⟩,
      ⟨some 51, none, .mov (.t 52)⟩])
    (.cond (.t 51)
      (.seq
      (.reg [
        ⟨some 53, none, .mov (.t 11)⟩,
        ⟨some 6, none, .mov (.t 53)⟩,
        ⟨some 7, none, .mov (.c (.int .i64 1))⟩])
      .ret)
      (.seq
      (.reg [
        ⟨some 55, none, .int .eql (.t 49) (.c (.int .i64 12))⟩,
        ⟨some 54, none, .mov (.t 55)⟩])
      (.cond (.t 54)
        (.seq
        (.reg [
          ⟨some 56, none, .mov (.t 11)⟩,
          ⟨some 6, none, .mov (.t 56)⟩,
          ⟨some 7, none, .mov (.c (.int .i64 2))⟩])
        .ret)
        (.seq
        (.reg [
          ⟨some 50, none, .mov (.t 11)⟩,
          ⟨some 6, none, .mov (.t 50)⟩,
          ⟨some 7, none, .mov (.c (.int .i64 0))⟩])
        .ret))))))))))))))⟩

theorem c76 : chkF Go.Proofs.Tryz.prog Go.Proofs.Tryz.f76 m76 = true := by kernel_rfl

/-- slices.reverseRangeOrdered[int] -/
def m77 : MFn := ⟨3, 32, [], 0,
  (.seq
  (.reg [
    ⟨some 8, none, .mov (.t 1)⟩,
    ⟨some 6, none, .mov (.t 8)⟩])
  (.seq
  (.reg [
    ⟨some 9, none, .mov (.t 2)⟩,
    ⟨some 10, none, .int .sub (.t 9) (.c (.int .i64 1))⟩,
    ⟨some 7, none, .mov (.t 10)⟩])
  (.block 0
    (.loop
      (.seq
      (.seq
      (.reg [
        ⟨some 11, none, .mov (.t 6)⟩,
        ⟨some 12, none, .mov (.t 7)⟩,
        ⟨some 13, none, .int .lss (.t 11) (.t 12)⟩])
      (.cond (.t 13)
        .skip
        (.exit 0)))
      (.block 1
        (.seq
        (.dreg [
          ⟨0, 0, [], 0, ⟨some 14, none, .mov (.t 0)⟩⟩,
          ⟨1, 0, [], 0, ⟨some 15, none, .mov (.t 6)⟩⟩,
          ⟨2, 0, [], 0, ⟨some 16, none, .mov (.t 0)⟩⟩,
          ⟨3, 0, [], 0, ⟨some 17, none, .mov (.t 7)⟩⟩,
          ⟨4, 0, [], 0, ⟨some 18, none, .mov (.t 0)⟩⟩,
          ⟨5, 0, [], 0, ⟨some 19, none, .mov (.t 7)⟩⟩,
          ⟨6, 0, [], 48, ⟨some 20, none, .ia 1 (.t 18) (.t 19)⟩⟩,
          ⟨7, 0, [], 112, ⟨some 21, none, .load 1 false (.t 20)⟩⟩,
          ⟨8, 0, [], 0, ⟨some 22, none, .mov (.t 0)⟩⟩,
          ⟨9, 0, [], 0, ⟨some 23, none, .mov (.t 6)⟩⟩,
          ⟨10, 0, [], 768, ⟨some 24, none, .ia 1 (.t 22) (.t 23)⟩⟩,
          ⟨11, 0, [], 1792, ⟨some 25, none, .load 1 false (.t 24)⟩⟩,
          ⟨12, 0, [], 4083, ⟨some 26, none, .ia 1 (.t 14) (.t 15)⟩⟩,
          ⟨13, 1, [2, 3], 8179, ⟨none, none, .store 1 (.t 26) (.t 21)⟩⟩,
          ⟨14, 0, [], 16383, ⟨some 27, none, .ia 1 (.t 16) (.t 17)⟩⟩,
          ⟨15, 1, [], 32767, ⟨none, none, .store 1 (.t 27) (.t 25)⟩⟩])
        (.seq
        (.reg [
          ⟨some 28, none, .mov (.t 6)⟩,
          ⟨some 29, none, .int .add (.t 28) (.c (.int .i64 1))⟩,
          ⟨some 6, none, .mov (.t 29)⟩])
        (.reg [
          ⟨some 30, none, .mov (.t 7)⟩,
          ⟨some 31, none, .int .sub (.t 30) (.c (.int .i64 1))⟩,
          ⟨some 7, none, .mov (.t 31)⟩])))))))))⟩

theorem c77 : chkF Go.Proofs.Tryz.prog Go.Proofs.Tryz.f77 m77 = true := by kernel_rfl

/-- slices.partialInsertionSortOrdered[int] -/
def m78 : MFn := ⟨3, 133, [.tmp 6], 0,
  (.seq
  (.reg [
    ⟨some 6, none, .mov (.c (.bool false))⟩])
  (.seq
  (.reg [
    ⟨some 11, none, .mov (.t 1)⟩,
    ⟨some 12, none, .int .add (.t 11) (.c (.int .i64 1))⟩,
    ⟨some 7, none, .mov (.t 12)⟩])
  (.seq
  (.seq
  (.reg [
    ⟨some 8, none, .mov (.c (.int .i64 0))⟩])
  (.block 0
    (.loop
      (.seq
      (.seq
      (.reg [
        ⟨some 13, none, .mov (.t 8)⟩,
        ⟨some 14, none, .int .lss (.t 13) (.c (.int .i64 5))⟩])
      (.cond (.t 14)
        .skip
        (.exit 0)))
      (.seq
      (.block 1
        (.seq
        (.block 2
          (.loop
            (.seq
            (.seq
            (.dreg [
              ⟨0, 0, [], 0, ⟨some 17, none, .mov (.t 7)⟩⟩,
              ⟨1, 0, [], 0, ⟨some 18, none, .mov (.t 2)⟩⟩,
              ⟨2, 0, [], 3, ⟨some 19, none, .int .lss (.t 17) (.t 18)⟩⟩,
              ⟨3, 0, [], 7, ⟨some 20, none, .mov (.t 19)⟩⟩,
              ⟨4, 0, [], 15, ⟨some 21, some (20, true), .mov (.t 0)⟩⟩,
              ⟨5, 0, [], 15, ⟨some 22, some (20, true), .mov (.t 7)⟩⟩,
              ⟨6, 0, [], 63, ⟨some 23, some (20, true), .ia 1 (.t 21) (.t 22)⟩⟩,
              ⟨7, 0, [], 127, ⟨some 24, some (20, true), .load 1 false (.t 23)⟩⟩,
              ⟨8, 0, [], 15, ⟨some 25, some (20, true), .mov (.t 0)⟩⟩,
              ⟨9, 0, [], 15, ⟨some 26, some (20, true), .mov (.t 7)⟩⟩,
              ⟨10, 0, [], 527, ⟨some 27, some (20, true), .int .sub (.t 26) (.c (.int .i64 1))⟩⟩,
              ⟨11, 0, [], 1807, ⟨some 28, some (20, true), .ia 1 (.t 25) (.t 27)⟩⟩,
              ⟨12, 0, [], 3855, ⟨some 29, some (20, true), .load 1 false (.t 28)⟩⟩,
              ⟨13, 1, [], 8191, ⟨some 30, some (20, true), .call (.c (.fn 79 [])) [.t 24, .t 29]⟩⟩,
              ⟨14, 0, [], 16383, ⟨some 31, some (20, true), .not (.t 30)⟩⟩,
              ⟨15, 0, [], 32767, ⟨some 32, none, .pick (.t 20) (.t 31) (.c (.bool false))⟩⟩])
            (.cond (.t 32)
              .skip
              (.exit 2)))
            (.block 3
              (.reg [
                ⟨some 33, none, .mov (.t 7)⟩,
                ⟨some 34, none, .int .add (.t 33) (.c (.int .i64 1))⟩,
                ⟨some 7, none, .mov (.t 34)⟩])))))
        (.seq
        (.seq
        (.reg [
          ⟨some 35, none, .mov (.t 7)⟩,
          ⟨some 36, none, .mov (.t 2)⟩,
          ⟨some 37, none, .int .eql (.t 35) (.t 36)⟩])
        (.cond (.t 37)
          (.seq
          (.reg [
            ⟨some 6, none, .mov (.c (.bool true))⟩])
          .ret)
          .skip))
        (.seq
        (.seq
        (.reg [
          ⟨some 38, none, .mov (.t 2)⟩,
          ⟨some 39, none, .mov (.t 1)⟩,
          ⟨some 40, none, .int .sub (.t 38) (.t 39)⟩,
          ⟨some 41, none, .int .lss (.t 40) (.c (.int .i64 50))⟩])
        (.cond (.t 41)
          (.seq
          (.reg [
            ⟨some 6, none, .mov (.c (.bool false))⟩])
          .ret)
          .skip))
        (.seq
        (.dreg [
          ⟨0, 0, [], 0, ⟨some 42, none, .mov (.t 0)⟩⟩,
          ⟨1, 0, [], 0, ⟨some 43, none, .mov (.t 7)⟩⟩,
          ⟨2, 0, [], 0, ⟨some 44, none, .mov (.t 0)⟩⟩,
          ⟨3, 0, [], 0, ⟨some 45, none, .mov (.t 7)⟩⟩,
          ⟨4, 0, [], 8, ⟨some 46, none, .int .sub (.t 45) (.c (.int .i64 1))⟩⟩,
          ⟨5, 0, [], 0, ⟨some 47, none, .mov (.t 0)⟩⟩,
          ⟨6, 0, [], 0, ⟨some 48, none, .mov (.t 7)⟩⟩,
          ⟨7, 0, [], 64, ⟨some 49, none, .int .sub (.t 48) (.c (.int .i64 1))⟩⟩,
          ⟨8, 0, [], 224, ⟨some 50, none, .ia 1 (.t 47) (.t 49)⟩⟩,
          ⟨9, 0, [], 480, ⟨some 51, none, .load 1 false (.t 50)⟩⟩,
          ⟨10, 0, [], 0, ⟨some 52, none, .mov (.t 0)⟩⟩,
          ⟨11, 0, [], 0, ⟨some 53, none, .mov (.t 7)⟩⟩,
          ⟨12, 0, [], 3072, ⟨some 54, none, .ia 1 (.t 52) (.t 53)⟩⟩,
          ⟨13, 0, [], 7168, ⟨some 55, none, .load 1 false (.t 54)⟩⟩,
          ⟨14, 0, [], 16355, ⟨some 56, none, .ia 1 (.t 42) (.t 43)⟩⟩,
          ⟨15, 1, [2, 3, 4], 32739, ⟨none, none, .store 1 (.t 56) (.t 51)⟩⟩,
          ⟨16, 0, [], 65535, ⟨some 57, none, .ia 1 (.t 44) (.t 46)⟩⟩,
          ⟨17, 1, [], 131071, ⟨none, none, .store 1 (.t 57) (.t 55)⟩⟩])
        (.seq
        (.seq
        (.reg [
          ⟨some 58, none, .mov (.t 7)⟩,
          ⟨some 59, none, .mov (.t 1)⟩,
          ⟨some 60, none, .int .sub (.t 58) (.t 59)⟩,
          ⟨some 61, none, .int .geq (.t 60) (.c (.int .i64 2))⟩])
        (.cond (.t 61)
          (.seq
          (.reg [
            ⟨some 62, none, .mov (.t 7)⟩,
            ⟨some 63, none, .int .sub (.t 62) (.c (.int .i64 1))⟩,
            ⟨some 9, none, .mov (.t 63)⟩])
          (.block 4
            (.loop
              (.seq
              (.seq
              (.reg [
                ⟨some 64, none, .mov (.t 9)⟩,
                ⟨some 65, none, .int .geq (.t 64) (.c (.int .i64 1))⟩])
              (.cond (.t 65)
                .skip
                (.exit 4)))
              (.seq
              (.block 5
                (.seq
                (.seq
                (.dreg [
                  ⟨0, 0, [], 0, ⟨some 68, none, .mov (.t 0)⟩⟩,
                  ⟨1, 0, [], 0, ⟨some 69, none, .mov (.t 9)⟩⟩,
                  ⟨2, 0, [], 3, ⟨some 70, none, .ia 1 (.t 68) (.t 69)⟩⟩,
                  ⟨3, 0, [], 7, ⟨some 71, none, .load 1 false (.t 70)⟩⟩,
                  ⟨4, 0, [], 0, ⟨some 72, none, .mov (.t 0)⟩⟩,
                  ⟨5, 0, [], 0, ⟨some 73, none, .mov (.t 9)⟩⟩,
                  ⟨6, 0, [], 32, ⟨some 74, none, .int .sub (.t 73) (.c (.int .i64 1))⟩⟩,
                  ⟨7, 0, [], 112, ⟨some 75, none, .ia 1 (.t 72) (.t 74)⟩⟩,
                  ⟨8, 0, [], 240, ⟨some 76, none, .load 1 false (.t 75)⟩⟩,
                  ⟨9, 1, [], 511, ⟨some 77, none, .call (.c (.fn 79 [])) [.t 71, .t 76]⟩⟩,
                  ⟨10, 0, [], 1023, ⟨some 78, none, .not (.t 77)⟩⟩])
                (.cond (.t 78)
                  (.exit 4)
                  .skip))
                (.dreg [
                  ⟨0, 0, [], 0, ⟨some 79, none, .mov (.t 0)⟩⟩,
                  ⟨1, 0, [], 0, ⟨some 80, none, .mov (.t 9)⟩⟩,
                  ⟨2, 0, [], 0, ⟨some 81, none, .mov (.t 0)⟩⟩,
                  ⟨3, 0, [], 0, ⟨some 82, none, .mov (.t 9)⟩⟩,
                  ⟨4, 0, [], 8, ⟨some 83, none, .int .sub (.t 82) (.c (.int .i64 1))⟩⟩,
                  ⟨5, 0, [], 0, ⟨some 84, none, .mov (.t 0)⟩⟩,
                  ⟨6, 0, [], 0, ⟨some 85, none, .mov (.t 9)⟩⟩,
                  ⟨7, 0, [], 64, ⟨some 86, none, .int .sub (.t 85) (.c (.int .i64 1))⟩⟩,
                  ⟨8, 0, [], 224, ⟨some 87, none, .ia 1 (.t 84) (.t 86)⟩⟩,
                  ⟨9, 0, [], 480, ⟨some 88, none, .load 1 false (.t 87)⟩⟩,
                  ⟨10, 0, [], 0, ⟨some 89, none, .mov (.t 0)⟩⟩,
                  ⟨11, 0, [], 0, ⟨some 90, none, .mov (.t 9)⟩⟩,
                  ⟨12, 0, [], 3072, ⟨some 91, none, .ia 1 (.t 89) (.t 90)⟩⟩,
                  ⟨13, 0, [], 7168, ⟨some 92, none, .load 1 false (.t 91)⟩⟩,
                  ⟨14, 0, [], 16355, ⟨some 93, none, .ia 1 (.t 79) (.t 80)⟩⟩,
                  ⟨15, 1, [2, 3, 4], 32739, ⟨none, none, .store 1 (.t 93) (.t 88)⟩⟩,
                  ⟨16, 0, [], 65535, ⟨some 94, none, .ia 1 (.t 81) (.t 83)⟩⟩,
                  ⟨17, 1, [], 131071, ⟨none, none, .store 1 (.t 94) (.t 92)⟩⟩])))
              (.reg [
                ⟨some 66, none, .mov (.t 9)⟩,
                ⟨some 67, none, .int .sub (.t 66) (.c (.int .i64 1))⟩,
                ⟨some 9, none, .mov (.t 67)⟩]))))))
          .skip))
        (.seq
        (.reg [
          ⟨some 95, none, .mov (.t 2)⟩,
          ⟨some 96, none, .mov (.t 7)⟩,
          ⟨some 97, none, .int .sub (.t 95) (.t 96)⟩,
          ⟨some 98, none, .int .geq (.t 97) (.c (.int .i64 2))⟩])
        (.cond (.t 98)
          (.seq
          (.reg [
            ⟨some 99, none, .mov (.t 7)⟩,
            ⟨some 100, none, .int .add (.t 99) (.c (.int .i64 1))⟩,
            ⟨some 10, none, .mov (.t 100)⟩])
          (.block 6
            (.loop
              (.seq
              (.seq
              (.reg [
                ⟨some 101, none, .mov (.t 10)⟩,
                ⟨some 102, none, .mov (.t 2)⟩,
                ⟨some 103, none, .int .lss (.t 101) (.t 102)⟩])
              (.cond (.t 103)
                .skip
                (.exit 6)))
              (.seq
              (.block 7
                (.seq
                (.seq
                (.dreg [
                  ⟨0, 0, [], 0, ⟨some 106, none, .mov (.t 0)⟩⟩,
                  ⟨1, 0, [], 0, ⟨some 107, none, .mov (.t 10)⟩⟩,
                  ⟨2, 0, [], 3, ⟨some 108, none, .ia 1 (.t 106) (.t 107)⟩⟩,
                  ⟨3, 0, [], 7, ⟨some 109, none, .load 1 false (.t 108)⟩⟩,
                  ⟨4, 0, [], 0, ⟨some 110, none, .mov (.t 0)⟩⟩,
                  ⟨5, 0, [], 0, ⟨some 111, none, .mov (.t 10)⟩⟩,
                  ⟨6, 0, [], 32, ⟨some 112, none, .int .sub (.t 111) (.c (.int .i64 1))⟩⟩,
                  ⟨7, 0, [], 112, ⟨some 113, none, .ia 1 (.t 110) (.t 112)⟩⟩,
                  ⟨8, 0, [], 240, ⟨some 114, none, .load 1 false (.t 113)⟩⟩,
                  ⟨9, 1, [], 511, ⟨some 115, none, .call (.c (.fn 79 [])) [.t 109, .t 114]⟩⟩,
                  ⟨10, 0, [], 1023, ⟨some 116, none, .not (.t 115)⟩⟩])
                (.cond (.t 116)
                  (.exit 6)
                  .skip))
                (.dreg [
                  ⟨0, 0, [], 0, ⟨some 117, none, .mov (.t 0)⟩⟩,
                  ⟨1, 0, [], 0, ⟨some 118, none, .mov (.t 10)⟩⟩,
                  ⟨2, 0, [], 0, ⟨some 119, none, .mov (.t 0)⟩⟩,
                  ⟨3, 0, [], 0, ⟨some 120, none, .mov (.t 10)⟩⟩,
                  ⟨4, 0, [], 8, ⟨some 121, none, .int .sub (.t 120) (.c (.int .i64 1))⟩⟩,
                  ⟨5, 0, [], 0, ⟨some 122, none, .mov (.t 0)⟩⟩,
                  ⟨6, 0, [], 0, ⟨some 123, none, .mov (.t 10)⟩⟩,
                  ⟨7, 0, [], 64, ⟨some 124, none, .int .sub (.t 123) (.c (.int .i64 1))⟩⟩,
                  ⟨8, 0, [], 224, ⟨some 125, none, .ia 1 (.t 122) (.t 124)⟩⟩,
                  ⟨9, 0, [], 480, ⟨some 126, none, .load 1 false (.t 125)⟩⟩,
                  ⟨10, 0, [], 0, ⟨some 127, none, .mov (.t 0)⟩⟩,
                  ⟨11, 0, [], 0, ⟨some 128, none, .mov (.t 10)⟩⟩,
                  ⟨12, 0, [], 3072, ⟨some 129, none, .ia 1 (.t 127) (.t 128)⟩⟩,
                  ⟨13, 0, [], 7168, ⟨some 130, none, .load 1 false (.t 129)⟩⟩,
                  ⟨14, 0, [], 16355, ⟨some 131, none, .ia 1 (.t 117) (.t 118)⟩⟩,
                  ⟨15, 1, [2, 3, 4], 32739, ⟨none, none, .store 1 (.t 131) (.t 126)⟩⟩,
                  ⟨16, 0, [], 65535, ⟨some 132, none, .ia 1 (.t 119) (.t 121)⟩⟩,
                  ⟨17, 1, [], 131071, ⟨none, none, .store 1 (.t 132) (.t 130)⟩⟩])))
              (.reg [
                ⟨some 104, none, .mov (.t 10)⟩,
                ⟨some 105, none, .int .add (.t 104) (.c (.int .i64 1))⟩,
                ⟨some 10, none, .mov (.t 105)⟩]))))))
          .skip))))))))
      (.reg [
        ⟨some 15, none, .mov (.t 8)⟩,
        ⟨some 16, none, .int .add (.t 15) (.c (.int .i64 1))⟩,
        ⟨some 8, none, .mov (.t 16)⟩]))))))
  (.seq
  (.reg [
    ⟨some 6, none, .mov (.c (.bool false))⟩])
  .ret))))⟩

theorem c78 : chkF Go.Proofs.Tryz.prog Go.Proofs.Tryz.f78 m78 = true := by kernel_rfl

/-- cmp.Less[int] -/
def m79 : MFn := ⟨2, 17, [.tmp 4], 0,
  (.seq
  (.reg [
    ⟨some 4, none, .mov (.c (.bool false))⟩])
  (.seq
  (.reg [
    ⟨some 5, none, .mov (.t 0)⟩,
    ⟨some 6, none, .call (.c (.fn 117 [])) [.t 5]⟩,
    ⟨some 7, none, .mov (.t 6)⟩,
    ⟨some 8, some (7, true), .mov (.t 1)⟩,
    ⟨some 9, some (7, true), .call (.c (.fn 117 [])) [.t 8]⟩,
    ⟨some 10, some (7, true), .not (.t 9)⟩,
    ⟨some 11, none, .pick (.t 7) (.t 10) (.c (.bool false))⟩,
    ⟨some 12, none, .mov (.t 11)⟩,
    ⟨some 13, some (12, false), .mov (.t 0)⟩,
    ⟨some 14, some (12, false), .mov (.t 1)⟩,
    ⟨some 15, some (12, false), .int .lss (.t 13) (.t 14)⟩,
    ⟨some 16, none, .pick (.t 12) (.c (.bool true)) (.t 15)⟩,
    ⟨some 4, none, .mov (.t 16)⟩])
  .ret))⟩

theorem c79 : chkF Go.Proofs.Tryz.prog Go.Proofs.Tryz.f79 m79 = true := by kernel_rfl

/-- slices.partitionEqualOrdered[int] -/
def m80 : MFn := ⟨4, 84, [.tmp 8], 0,
  (.seq
  (.reg [
    ⟨some 8, none, .mov (.c (.int .i64 0))⟩])
  (.seq
  (.dreg [
    ⟨0, 0, [], 0, ⟨some 11, none, .mov (.t 0)⟩⟩,
    ⟨1, 0, [], 0, ⟨some 12, none, .mov (.t 1)⟩⟩,
    ⟨2, 0, [], 0, ⟨some 13, none, .mov (.t 0)⟩⟩,
    ⟨3, 0, [], 0, ⟨some 14, none, .mov (.t 3)⟩⟩,
    ⟨4, 0, [], 0, ⟨some 15, none, .mov (.t 0)⟩⟩,
    ⟨5, 0, [], 0, ⟨some 16, none, .mov (.t 3)⟩⟩,
    ⟨6, 0, [], 48, ⟨some 17, none, .ia 1 (.t 15) (.t 16)⟩⟩,
    ⟨7, 0, [], 112, ⟨some 18, none, .load 1 false (.t 17)⟩⟩,
    ⟨8, 0, [], 0, ⟨some 19, none, .mov (.t 0)⟩⟩,
    ⟨9, 0, [], 0, ⟨some 20, none, .mov (.t 1)⟩⟩,
    ⟨10, 0, [], 768, ⟨some 21, none, .ia 1 (.t 19) (.t 20)⟩⟩,
    ⟨11, 0, [], 1792, ⟨some 22, none, .load 1 false (.t 21)⟩⟩,
    ⟨12, 0, [], 4083, ⟨some 23, none, .ia 1 (.t 11) (.t 12)⟩⟩,
    ⟨13, 1, [2, 3], 8179, ⟨none, none, .store 1 (.t 23) (.t 18)⟩⟩,
    ⟨14, 0, [], 16383, ⟨some 24, none, .ia 1 (.t 13) (.t 14)⟩⟩,
    ⟨15, 1, [], 32767, ⟨none, none, .store 1 (.t 24) (.t 22)⟩⟩])
  (.seq
  (.reg [
    ⟨some 25, none, .mov (.t 1)⟩,
    ⟨some 26, none, .int .add (.t 25) (.c (.int .i64 1))⟩,
    ⟨some 27, none, .mov (.t 2)⟩,
    ⟨some 28, none, .int .sub (.t 27) (.c (.int .i64 1))⟩,
    ⟨some 9, none, .mov (.t 26)⟩,
    ⟨some 10, none, .mov (.t 28)⟩])
  (.seq
  (.block 0
    (.loop
      (.block 1
        (.seq
        (.block 2
          (.loop
            (.seq
            (.seq
            (.dreg [
              ⟨0, 0, [], 0, ⟨some 29, none, .mov (.t 9)⟩⟩,
              ⟨1, 0, [], 0, ⟨some 30, none, .mov (.t 10)⟩⟩,
              ⟨2, 0, [], 3, ⟨some 31, none, .int .leq (.t 29) (.t 30)⟩⟩,
              ⟨3, 0, [], 7, ⟨some 32, none, .mov (.t 31)⟩⟩,
              ⟨4, 0, [], 15, ⟨some 33, some (32, true), .mov (.t 0)⟩⟩,
              ⟨5, 0, [], 15, ⟨some 34, some (32, true), .mov (.t 1)⟩⟩,
              ⟨6, 0, [], 63, ⟨some 35, some (32, true), .ia 1 (.t 33) (.t 34)⟩⟩,
              ⟨7, 0, [], 127, ⟨some 36, some (32, true), .load 1 false (.t 35)⟩⟩,
              ⟨8, 0, [], 15, ⟨some 37, some (32, true), .mov (.t 0)⟩⟩,
              ⟨9, 0, [], 15, ⟨some 38, some (32, true), .mov (.t 9)⟩⟩,
              ⟨10, 0, [], 783, ⟨some 39, some (32, true), .ia 1 (.t 37) (.t 38)⟩⟩,
              ⟨11, 0, [], 1807, ⟨some 40, some (32, true), .load 1 false (.t 39)⟩⟩,
              ⟨12, 1, [], 4095, ⟨some 41, some (32, true), .call (.c (.fn 79 [])) [.t 36, .t 40]⟩⟩,
              ⟨13, 0, [], 8191, ⟨some 42, some (32, true), .not (.t 41)⟩⟩,
              ⟨14, 0, [], 16383, ⟨some 43, none, .pick (.t 32) (.t 42) (.c (.bool false))⟩⟩])
            (.cond (.t 43)
              .skip
              (.exit 2)))
            (.block 3
              (.reg [
                ⟨some 44, none, .mov (.t 9)⟩,
                ⟨some 45, none, .int .add (.t 44) (.c (.int .i64 1))⟩,
                ⟨some 9, none, .mov (.t 45)⟩])))))
        (.seq
        (.block 4
          (.loop
            (.seq
            (.seq
            (.dreg [
              ⟨0, 0, [], 0, ⟨some 46, none, .mov (.t 9)⟩⟩,
              ⟨1, 0, [], 0, ⟨some 47, none, .mov (.t 10)⟩⟩,
              ⟨2, 0, [], 3, ⟨some 48, none, .int .leq (.t 46) (.t 47)⟩⟩,
              ⟨3, 0, [], 7, ⟨some 49, none, .mov (.t 48)⟩⟩,
              ⟨4, 0, [], 15, ⟨some 50, some (49, true), .mov (.t 0)⟩⟩,
              ⟨5, 0, [], 15, ⟨some 51, some (49, true), .mov (.t 1)⟩⟩,
              ⟨6, 0, [], 63, ⟨some 52, some (49, true), .ia 1 (.t 50) (.t 51)⟩⟩,
              ⟨7, 0, [], 127, ⟨some 53, some (49, true), .load 1 false (.t 52)⟩⟩,
              ⟨8, 0, [], 15, ⟨some 54, some (49, true), .mov (.t 0)⟩⟩,
              ⟨9, 0, [], 15, ⟨some 55, some (49, true), .mov (.t 10)⟩⟩,
              ⟨10, 0, [], 783, ⟨some 56, some (49, true), .ia 1 (.t 54) (.t 55)⟩⟩,
              ⟨11, 0, [], 1807, ⟨some 57, some (49, true), .load 1 false (.t 56)⟩⟩,
              ⟨12, 1, [], 4095, ⟨some 58, some (49, true), .call (.c (.fn 79 [])) [.t 53, .t 57]⟩⟩,
              ⟨13, 0, [], 8191, ⟨some 59, none, .pick (.t 49) (.t 58) (.c (.bool false))⟩⟩])
            (.cond (.t 59)
              .skip
              (.exit 4)))
            (.block 5
              (.reg [
                ⟨some 60, none, .mov (.t 10)⟩,
                ⟨some 61, none, .int .sub (.t 60) (.c (.int .i64 1))⟩,
                ⟨some 10, none, .mov (.t 61)⟩])))))
        (.seq
        (.seq
        (.reg [
          ⟨some 62, none, .mov (.t 9)⟩,
          ⟨some 63, none, .mov (.t 10)⟩,
          ⟨some 64, none, .int .gtr (.t 62) (.t 63)⟩])
        (.cond (.t 64)
          (.exit 0)
          .skip))
        (.seq
        (.dreg [
          ⟨0, 0, [], 0, ⟨some 65, none, .mov (.t 0)⟩⟩,
          ⟨1, 0, [], 0, ⟨some 66, none, .mov (.t 9)⟩⟩,
          ⟨2, 0, [], 0, ⟨some 67, none, .mov (.t 0)⟩⟩,
          ⟨3, 0, [], 0, ⟨some 68, none, .mov (.t 10)⟩⟩,
          ⟨4, 0, [], 0, ⟨some 69, none, .mov (.t 0)⟩⟩,
          ⟨5, 0, [], 0, ⟨some 70, none, .mov (.t 10)⟩⟩,
          ⟨6, 0, [], 48, ⟨some 71, none, .ia 1 (.t 69) (.t 70)⟩⟩,
          ⟨7, 0, [], 112, ⟨some 72, none, .load 1 false (.t 71)⟩⟩,
          ⟨8, 0, [], 0, ⟨some 73, none, .mov (.t 0)⟩⟩,
          ⟨9, 0, [], 0, ⟨some 74, none, .mov (.t 9)⟩⟩,
          ⟨10, 0, [], 768, ⟨some 75, none, .ia 1 (.t 73) (.t 74)⟩⟩,
          ⟨11, 0, [], 1792, ⟨some 76, none, .load 1 false (.t 75)⟩⟩,
          ⟨12, 0, [], 4083, ⟨some 77, none, .ia 1 (.t 65) (.t 66)⟩⟩,
          ⟨13, 1, [2, 3], 8179, ⟨none, none, .store 1 (.t 77) (.t 72)⟩⟩,
          ⟨14, 0, [], 16383, ⟨some 78, none, .ia 1 (.t 67) (.t 68)⟩⟩,
          ⟨15, 1, [], 32767, ⟨none, none, .store 1 (.t 78) (.t 76)⟩⟩])
        (.seq
        (.reg [
          ⟨some 79, none, .mov (.t 9)⟩,
          ⟨some 80, none, .int .add (.t 79) (.c (.int .i64 1))⟩,
          ⟨some 9, none, .mov (.t 80)⟩])
        (.reg [
          ⟨some 81, none, .mov (.t 10)⟩,
          ⟨some 82, none, .int .sub (.t 81) (.c (.int .i64 1))⟩,
          ⟨some 10, none, .mov (.t 82)⟩])))))))))
  (.seq
  (.reg [
    ⟨some 83, none, .mov (.t 9)⟩,
    ⟨some 8, none, .mov (.t 83)⟩])
  .ret)))))⟩

theorem c80 : chkF Go.Proofs.Tryz.prog Go.Proofs.Tryz.f80 m80 = true := by kernel_rfl

end YtjeffeobdpganaaGreatDoor
end Go.Ab
