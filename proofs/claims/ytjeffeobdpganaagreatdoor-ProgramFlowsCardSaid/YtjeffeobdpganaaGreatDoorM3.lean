/- The abstract machine's texts of translated functions (printed by a program), each checked against the translation. -/
import Derived.Test.YtjeffeobdpganaaGreatDoorAbK
import Derived.Test.YtjeffeobdpganaaGreatDoorProg
import Derived.KernelRfl
set_option linter.unusedSimpArgs false
set_option linter.unusedVariables false
namespace Go.Ab
namespace YtjeffeobdpganaaGreatDoor
set_option maxRecDepth 100000
open Go.Proofs
/-- strings.makeASCIISet -/
def m129 : MFn := ⟨1, 21, [.cell 2 256 true, .tmp 3], 0,
  (.seq
  (.reg [
    ⟨some 2, none, .box 185 256 (.c (.agg [.bool false, .bool false, .bool false, .bool false, .bool false, .bool false, .bool false, .bool false, .bool false, .bool false, .bool false, .bool false, .bool false, .bool false, .bool false, .bool false, .bool false, .bool false, .bool false, .bool false, .bool false, .bool false, .bool false, .bool false, .bool false, .bool false, .bool false, .bool false, .bool false, .bool false, .bool false, .bool false, .bool false, .bool false, .bool false, .bool false, .bool false, .bool false, .bool false, .bool false, .bool false, .bool false, .bool false, .bool false, .bool false, .bool false, .bool false, .bool false, .bool false, .bool false, .bool false, .bool false, .bool false, .bool false, .bool false, .bool false, .bool false, .bool false, .bool false, .bool false, .bool false, .bool false, .bool false, .bool false, .bool false, .bool false, .bool false, .bool false, .bool false, .bool false, .bool false, .bool false, .bool false, .bool false, .bool false, .bool false, .bool false, .bool false, .bool false, .bool false, .bool false, .bool false, .bool false, .bool false, .bool false, .bool false, .bool false, .bool false, .bool false, .bool false, .bool false, .bool false, .bool false, .bool false, .bool false, .bool false, .bool false, .bool false, .bool false, .bool false, .bool false, .bool false, .bool false, .bool false, .bool false, .bool false, .bool false, .bool false, .bool false, .bool false, .bool false, .bool false, .bool false, .bool false, .bool false, .bool false, .bool false, .bool false, .bool false, .bool false, .bool false, .bool false, .bool false, .bool false, .bool false, .bool false, .bool false, .bool false, .bool false, .bool false, .bool false, .bool false, .bool false, .bool false, .bool false, .bool false, .bool false, .bool false, .bool false, .bool false, .bool false, .bool false, .bool false, .bool false, .bool false, .bool false, .bool false, .bool false, .bool false, .bool false, .bool false, .bool false, .bool false, .bool false, .bool false, .bool false, .bool false, .bool false, .bool false, .bool false, .bool false, .bool false, .bool false, .bool false, .bool false, .bool false, .bool false, .bool false, .bool false, .bool false, .bool false, .bool false, .bool false, .bool false, .bool false, .bool false, .bool false, .bool false, .bool false, .bool false, .bool false, .bool false, .bool false, .bool false, .bool false, .bool false, .bool false, .bool false, .bool false, .bool false, .bool false, .bool false, .bool false, .bool false, .bool false, .bool false, .bool false, .bool false, .bool false, .bool false, .bool false, .bool false, .bool false, .bool false, .bool false, .bool false, .bool false, .bool false, .bool false, .bool false, .bool false, .bool false, .bool false, .bool false, .bool false, .bool false, .bool false, .bool false, .bool false, .bool false, .bool false, .bool false, .bool false, .bool false, .bool false, .bool false, .bool false, .bool false, .bool false, .bool false, .bool false, .bool false, .bool false, .bool false, .bool false, .bool false, .bool false, .bool false, .bool false, .bool false, .bool false, .bool false, .bool false, .bool false, .bool false, .bool false, .bool false, .bool false, .bool false, .bool false, .bool false, .bool false, .bool false, .bool false, .bool false, .bool false]))⟩,
    ⟨some 3, none, .mov (.c (.bool false))⟩])
  (.seq
  (.seq
  (.reg [
    ⟨some 4, none, .mov (.c (.int .i64 0))⟩])
  (.block 0
    (.loop
      (.seq
      (.seq
      (.reg [
        ⟨some 6, none, .mov (.t 4)⟩,
        ⟨some 7, none, .mov (.t 0)⟩,
        ⟨some 8, none, .lenS (.t 7)⟩,
        ⟨some 9, none, .int .lss (.t 6) (.t 8)⟩])
      (.cond (.t 9)
        .skip
        (.exit 0)))
      (.seq
      (.block 1
        (.seq
        (.reg [
          ⟨some 12, none, .mov (.t 0)⟩,
          ⟨some 13, none, .mov (.t 4)⟩,
          ⟨some 14, none, .idx (.t 12) (.t 13)⟩,
          ⟨some 5, none, .mov (.t 14)⟩])
        (.seq
        (.seq
        (.reg [
          ⟨some 15, none, .mov (.t 5)⟩,
          ⟨some 16, none, .int .geq (.t 15) (.c (.int .u8 128))⟩])
        (.cond (.t 16)
          (.seq
          (.reg [
            ⟨some 17, none, .load 256 true (.t 2)⟩,
            ⟨none, none, .store 256 (.t 2) (.t 17)⟩,
            ⟨some 3, none, .mov (.c (.bool false))⟩])
          .ret)
          .skip))
        (.reg [
          ⟨some 18, none, .mov (.t 5)⟩,
          ⟨some 19, none, .iaa 1 256 (.t 2) (.t 18)⟩,
          ⟨none, none, .store 1 (.t 19) (.c (.bool true))⟩]))))
      (.reg [
        ⟨some 10, none, .mov (.t 4)⟩,
        ⟨some 11, none, .int .add (.t 10) (.c (.int .i64 1))⟩,
        ⟨some 4, none, .mov (.t 11)⟩]))))))
  (.seq
  (.reg [
    ⟨some 20, none, .load 256 true (.t 2)⟩,
    ⟨none, none, .store 256 (.t 2) (.t 20)⟩,
    ⟨some 3, none, .mov (.c (.bool true))⟩])
  .ret)))⟩

theorem c129 : chkF Go.Proofs.Tryz.prog Go.Proofs.Tryz.f129 m129 = true := by kernel_rfl

/-- strings.trimRightASCII -/
def m130 : MFn := ⟨2, 22, [.tmp 4], 0,
  (.seq
  (.reg [
    ⟨some 4, none, .mov (.c (.str []))⟩])
  (.seq
  (.block 0
    (.loop
      (.seq
      (.seq
      (.reg [
        ⟨some 5, none, .mov (.t 0)⟩,
        ⟨some 6, none, .lenS (.t 5)⟩,
        ⟨some 7, none, .int .gtr (.t 6) (.c (.int .i64 0))⟩])
      (.cond (.t 7)
        .skip
        (.exit 0)))
      (.block 1
        (.seq
        (.seq
        (.reg [
          ⟨some 8, none, .mov (.t 1)⟩,
          ⟨some 9, none, .mov (.t 0)⟩,
          ⟨some 10, none, .mov (.t 0)⟩,
          ⟨some 11, none, .lenS (.t 10)⟩,
          ⟨some 12, none, .int .sub (.t 11) (.c (.int .i64 1))⟩,
          ⟨some 13, none, .idx (.t 9) (.t 12)⟩,
          ⟨some 14, none, .call (.c (.fn 147 [])) [.t 8, .t 13]⟩,
          ⟨some 15, none, .not (.t 14)⟩])
        (.cond (.t 15)
          (.exit 0)
          .skip))
        (.reg [
          ⟨some 16, none, .mov (.t 0)⟩,
          ⟨some 17, none, .mov (.t 0)⟩,
          ⟨some 18, none, .lenS (.t 17)⟩,
          ⟨some 19, none, .int .sub (.t 18) (.c (.int .i64 1))⟩,
          ⟨some 20, none, .sstr (.t 16) none (some (.t 19))⟩,
          ⟨some 0, none, .mov (.t 20)⟩]))))))
  (.seq
  (.reg [
    ⟨some 21, none, .mov (.t 0)⟩,
    ⟨some 4, none, .mov (.t 21)⟩])
  .ret)))⟩

theorem c130 : chkF Go.Proofs.Tryz.prog Go.Proofs.Tryz.f130 m130 = true := by kernel_rfl

/-- strings.trimRightUnicode -/
def m131 : MFn := ⟨2, 34, [.tmp 4], 0,
  (.seq
  (.reg [
    ⟨some 4, none, .mov (.c (.str []))⟩])
  (.seq
  (.block 0
    (.loop
      (.seq
      (.seq
      (.reg [
        ⟨some 7, none, .mov (.t 0)⟩,
        ⟨some 8, none, .lenS (.t 7)⟩,
        ⟨some 9, none, .int .gtr (.t 8) (.c (.int .i64 0))⟩])
      (.cond (.t 9)
        .skip
        (.exit 0)))
      (.block 1
        (.seq
        (.reg [
          ⟨some 10, none, .mov (.t 0)⟩,
          ⟨some 11, none, .mov (.t 0)⟩,
          ⟨some 12, none, .lenS (.t 11)⟩,
          ⟨some 13, none, .int .sub (.t 12) (.c (.int .i64 1))⟩,
          ⟨some 14, none, .idx (.t 10) (.t 13)⟩,
          ⟨some 15, none, .conv .i32 (.t 14)⟩,
          ⟨some 5, none, .mov (.t 15)⟩,
          ⟨some 6, none, .mov (.c (.int .i64 1))⟩])
        (.seq
        (.seq
        (.reg [
          ⟨some 16, none, .mov (.t 5)⟩,
          ⟨some 17, none, .int .geq (.t 16) (.c (.int .i32 128))⟩])
        (.cond (.t 17)
          (.reg [
            ⟨some 19, none, .mov (.t 0)⟩,
            ⟨some 20, none, .call (.c (.fn 148 [])) [.t 19]⟩,
            ⟨some 18, none, .mov (.t 20)⟩,
            ⟨some 21, none, .ext (.t 18) 0⟩,
            ⟨some 22, none, .ext (.t 18) 1⟩,
            ⟨some 5, none, .mov (.t 21)⟩,
            ⟨some 6, none, .mov (.t 22)⟩])
          .skip))
        (.seq
        (.seq
        (.reg [
          ⟨some 23, none, .mov (.t 1)⟩,
          ⟨some 24, none, .mov (.t 5)⟩,
          ⟨some 25, none, .call (.c (.fn 149 [])) [.t 23, .t 24]⟩,
          ⟨some 26, none, .not (.t 25)⟩])
        (.cond (.t 26)
          (.exit 0)
          .skip))
        (.reg [
          ⟨some 27, none, .mov (.t 0)⟩,
          ⟨some 28, none, .mov (.t 0)⟩,
          ⟨some 29, none, .lenS (.t 28)⟩,
          ⟨some 30, none, .mov (.t 6)⟩,
          ⟨some 31, none, .int .sub (.t 29) (.t 30)⟩,
          ⟨some 32, none, .sstr (.t 27) none (some (.t 31))⟩,
          ⟨some 0, none, .mov (.t 32)⟩]))))))))
  (.seq
  (.reg [
    ⟨some 33, none, .mov (.t 0)⟩,
    ⟨some 4, none, .mov (.t 33)⟩])
  .ret)))⟩

theorem c131 : chkF Go.Proofs.Tryz.prog Go.Proofs.Tryz.f131 m131 = true := by kernel_rfl

/-- strings.IndexAny -/
def m132 : MFn := ⟨2, 55, [.tmp 4], 0,
  (.seq
  (.reg [
    ⟨some 4, none, .mov (.c (.int .i64 0))⟩])
  (.seq
  (.seq
  (.reg [
    ⟨some 11, none, .mov (.t 1)⟩,
    ⟨some 12, none, .strb .eql (.t 11) (.c (.str []))⟩])
  (.cond (.t 12)
    (.seq
    (.reg [
      ⟨some 4, none, .mov (.c (.int .i64 (-1)))⟩])
    .ret)
    .skip))
  (.seq
  (.seq
  (.reg [
    ⟨some 13, none, .mov (.t 1)⟩,
    ⟨some 14, none, .lenS (.t 13)⟩,
    ⟨some 15, none, .int .eql (.t 14) (.c (.int .i64 1))⟩])
  (.cond (.t 15)
    (.seq
    (.reg [
      ⟨some 16, none, .mov (.t 1)⟩,
      ⟨some 17, none, .idx (.t 16) (.c (.int .i64 0))⟩,
      ⟨some 18, none, .conv .i32 (.t 17)⟩,
      ⟨some 5, none, .mov (.t 18)⟩])
    (.seq
    (.seq
    (.reg [
      ⟨some 19, none, .mov (.t 5)⟩,
      ⟨some 20, none, .int .geq (.t 19) (.c (.int .i32 128))⟩])
    (.cond (.t 20)
      (.reg [
        ⟨some 5, none, .mov (.c (.int .i32 65533))⟩])
      .skip))
    (.seq
    (.reg [
      ⟨some 21, none, .mov (.t 0)⟩,
      ⟨some 22, none, .mov (.t 5)⟩,
      ⟨some 23, none, .call (.c (.fn 150 [])) [.t 21, .t 22]⟩,
      ⟨some 4, none, .mov (.t 23)⟩])
    .ret)))
    .skip))
  (.seq
  (.seq
  (.reg [
    ⟨some 24, none, .mov (.t 0)⟩,
    ⟨some 25, none, .lenS (.t 24)⟩,
    ⟨some 26, none, .call (.c (.fn 151 [])) [.t 25]⟩])
  (.cond (.t 26)
    (.seq
    (.reg [
      ⟨some 28, none, .mov (.t 1)⟩,
      ⟨some 29, none, .call (.c (.fn 129 [])) [.t 28]⟩,
      ⟨some 27, none, .mov (.t 29)⟩,
      ⟨some 30, none, .ext (.t 27) 0⟩,
      ⟨some 31, none, .ext (.t 27) 1⟩,
      ⟨some 6, none, .box 185 256 (.c (.agg [.bool false, .bool false, .bool false, .bool false, .bool false, .bool false, .bool false, .bool false, .bool false, .bool false, .bool false, .bool false, .bool false, .bool false, .bool false, .bool false, .bool false, .bool false, .bool false, .bool false, .bool false, .bool false, .bool false, .bool false, .bool false, .bool false, .bool false, .bool false, .bool false, .bool false, .bool false, .bool false, .bool false, .bool false, .bool false, .bool false, .bool false, .bool false, .bool false, .bool false, .bool false, .bool false, .bool false, .bool false, .bool false, .bool false, .bool false, .bool false, .bool false, .bool false, .bool false, .bool false, .bool false, .bool false, .bool false, .bool false, .bool false, .bool false, .bool false, .bool false, .bool false, .bool false, .bool false, .bool false, .bool false, .bool false, .bool false, .bool false, .bool false, .bool false, .bool false, .bool false, .bool false, .bool false, .bool false, .bool false, .bool false, .bool false, .bool false, .bool false, .bool false, .bool false, .bool false, .bool false, .bool false, .bool false, .bool false, .bool false, .bool false, .bool false, .bool false, .bool false, .bool false, .bool false, .bool false, .bool false, .bool false, .bool false, .bool false, .bool false, .bool false, .bool false, .bool false, .bool false, .bool false, .bool false, .bool false, .bool false, .bool false, .bool false, .bool false, .bool false, .bool false, .bool false, .bool false, .bool false, .bool false, .bool false, .bool false, .bool false, .bool false, .bool false, .bool false, .bool false, .bool false, .bool false, .bool false, .bool false, .bool false, .bool false, .bool false, .bool false, .bool false, .bool false, .bool false, .bool false, .bool false, .bool false, .bool false, .bool false, .bool false, .bool false, .bool false, .bool false, .bool false, .bool false, .bool false, .bool false, .bool false, .bool false, .bool false, .bool false, .bool false, .bool false, .bool false, .bool false, .bool false, .bool false, .bool false, .bool false, .bool false, .bool false, .bool false, .bool false, .bool false, .bool false, .bool false, .bool false, .bool false, .bool false, .bool false, .bool false, .bool false, .bool false, .bool false, .bool false, .bool false, .bool false, .bool false, .bool false, .bool false, .bool false, .bool false, .bool false, .bool false, .bool false, .bool false, .bool false, .bool false, .bool false, .bool false, .bool false, .bool false, .bool false, .bool false, .bool false, .bool false, .bool false, .bool false, .bool false, .bool false, .bool false, .bool false, .bool false, .bool false, .bool false, .bool false, .bool false, .bool false, .bool false, .bool false, .bool false, .bool false, .bool false, .bool false, .bool false, .bool false, .bool false, .bool false, .bool false, .bool false, .bool false, .bool false, .bool false, .bool false, .bool false, .bool false, .bool false, .bool false, .bool false, .bool false, .bool false, .bool false, .bool false, .bool false, .bool false, .bool false, .bool false, .bool false, .bool false, .bool false, .bool false, .bool false, .bool false, .bool false, .bool false, .bool false, .bool false, .bool false, .bool false, .bool false, .bool false, .bool false, .bool false, .bool false, .bool false]))⟩,
      ⟨none, none, .store 256 (.t 6) (.t 30)⟩,
      ⟨some 7, none, .mov (.t 31)⟩])
    (.seq
    (.reg [
      ⟨some 32, none, .mov (.t 7)⟩])
    (.cond (.t 32)
      (.seq
      (.seq
      (.reg [
        ⟨some 8, none, .mov (.c (.int .i64 0))⟩])
      (.block 0
        (.loop
          (.seq
          (.seq
          (.reg [
            ⟨some 33, none, .mov (.t 8)⟩,
            ⟨some 34, none, .mov (.t 0)⟩,
            ⟨some 35, none, .lenS (.t 34)⟩,
            ⟨some 36, none, .int .lss (.t 33) (.t 35)⟩])
          (.cond (.t 36)
            .skip
            (.exit 0)))
          (.seq
          (.block 1
            (.seq
            (.reg [
              ⟨some 39, none, .mov (.t 0)⟩,
              ⟨some 40, none, .mov (.t 8)⟩,
              ⟨some 41, none, .idx (.t 39) (.t 40)⟩,
              ⟨some 42, none, .call (.c (.fn 147 [])) [.t 6, .t 41]⟩])
            (.cond (.t 42)
              (.seq
              (.reg [
                ⟨some 43, none, .mov (.t 8)⟩,
                ⟨some 4, none, .mov (.t 43)⟩])
              .ret)
              .skip)))
          (.reg [
            ⟨some 37, none, .mov (.t 8)⟩,
            ⟨some 38, none, .int .add (.t 37) (.c (.int .i64 1))⟩,
            ⟨some 8, none, .mov (.t 38)⟩]))))))
      (.seq
      (.reg [
        ⟨some 4, none, .mov (.c (.int .i64 (-1)))⟩])
      .ret))
      .skip)))
    .skip))
  (.seq
  (.seq
  (.reg [
    ⟨some 44, none, .mov (.t 0)⟩,
    ⟨some 45, none, .rngs (.t 44)⟩])
  (.block 2
    (.loop
      (.seq
      (.reg [
        ⟨some 46, none, .nxts (.t 45)⟩,
        ⟨some 47, none, .ext (.t 46) 0⟩])
      (.seq
      (.cond (.t 47)
        .skip
        (.exit 2))
      (.block 3
        (.seq
        (.reg [
          ⟨some 48, none, .ext (.t 46) 1⟩,
          ⟨some 49, none, .ext (.t 46) 2⟩,
          ⟨some 9, none, .mov (.t 48)⟩,
          ⟨some 10, none, .mov (.t 49)⟩])
        (.seq
        (.reg [
          ⟨some 50, none, .mov (.t 1)⟩,
          ⟨some 51, none, .mov (.t 10)⟩,
          ⟨some 52, none, .call (.c (.fn 150 [])) [.t 50, .t 51]⟩,
          ⟨some 53, none, .int .geq (.t 52) (.c (.int .i64 0))⟩])
        (.cond (.t 53)
          (.seq
          (.reg [
            ⟨some 54, none, .mov (.t 9)⟩,
            ⟨some 4, none, .mov (.t 54)⟩])
          .ret)
          .skip)))))))))
  (.seq
  (.reg [
    ⟨some 4, none, .mov (.c (.int .i64 (-1)))⟩])
  .ret))))))⟩

theorem c132 : chkF Go.Proofs.Tryz.prog Go.Proofs.Tryz.f132 m132 = true := by kernel_rfl

/-- (*strings.Builder).copyCheck -/
def m134 : MFn := ⟨1, 20, [], 0,
  (.seq
  (.reg [
    ⟨some 2, none, .mov (.t 0)⟩,
    ⟨some 3, none, .nilc (.t 2)⟩,
    ⟨some 4, none, .fa 0 (.t 3)⟩,
    ⟨some 5, none, .load 1 false (.t 4)⟩,
    ⟨some 6, none, .nilb 0 false (.t 5)⟩])
  (.cond (.t 6)
    (.reg [
      ⟨some 7, none, .mov (.t 0)⟩,
      ⟨some 8, none, .mov (.t 0)⟩,
      ⟨some 9, none, .upc 146 2 (.t 8)⟩,
      ⟨some 10, none, .call (.c (.fn 152 [])) [.t 9]⟩,
      ⟨some 11, none, .upc 146 2 (.t 10)⟩,
      ⟨some 12, none, .nilc (.t 7)⟩,
      ⟨some 13, none, .fa 0 (.t 12)⟩,
      ⟨none, none, .store 1 (.t 13) (.t 11)⟩])
    (.seq
    (.reg [
      ⟨some 14, none, .mov (.t 0)⟩,
      ⟨some 15, none, .nilc (.t 14)⟩,
      ⟨some 16, none, .fa 0 (.t 15)⟩,
      ⟨some 17, none, .load 1 false (.t 16)⟩,
      ⟨some 18, none, .mov (.t 0)⟩,
      ⟨some 19, none, .psame true (.t 17) (.t 18)⟩])
    (.cond (.t 19)
      .bad
      .skip))))⟩

theorem c134 : chkF Go.Proofs.Tryz.prog Go.Proofs.Tryz.f134 m134 = true := by kernel_rfl

/-- (*paddock/script.reader).counted -/
def m135 : MFn := ⟨2, 22, [.tmp 4], 0,
  (.seq
  (.reg [
    ⟨some 4, none, .mov (.c (.int .i64 0))⟩])
  (.seq
  (.reg [
    ⟨some 8, none, .mov (.t 0)⟩,
    ⟨some 9, none, .call (.c (.fn 85 [])) [.t 8]⟩,
    ⟨some 7, none, .mov (.t 9)⟩,
    ⟨some 10, none, .ext (.t 7) 0⟩,
    ⟨some 11, none, .ext (.t 7) 1⟩,
    ⟨some 5, none, .mov (.t 10)⟩,
    ⟨some 6, none, .mov (.t 11)⟩])
  (.seq
  (.seq
  (.reg [
    ⟨some 12, none, .mov (.t 6)⟩,
    ⟨some 13, none, .not (.t 12)⟩,
    ⟨some 14, none, .mov (.t 13)⟩,
    ⟨some 15, some (14, false), .mov (.t 5)⟩,
    ⟨some 16, some (14, false), .int .gtr (.t 15) (.c (.int .i64 1073741824))⟩,
    ⟨some 17, none, .pick (.t 14) (.c (.bool true)) (.t 16)⟩])
  (.cond (.t 17)
    (.reg [
      ⟨some 18, none, .mov (.t 0)⟩,
      ⟨some 19, none, .mov (.t 1)⟩,
      ⟨some 20, none, .call (.c (.fn 22 [])) [.t 18, .c (.int .i64 2), .t 19]⟩])
    .skip))
  (.seq
  (.reg [
    ⟨some 21, none, .mov (.t 5)⟩,
    ⟨some 4, none, .mov (.t 21)⟩])
  .ret))))⟩

theorem c135 : chkF Go.Proofs.Tryz.prog Go.Proofs.Tryz.f135 m135 = true := by kernel_rfl

/-- paddock/script.address -/
def m136 : MFn := ⟨2, 52, [.tmp 4], 0,
  (.seq
  (.reg [
    ⟨some 2, none, .box 52 15 (.t 0)⟩,
    ⟨some 4, none, .mov (.c (.bool false))⟩])
  (.seq
  (.reg [
    ⟨some 6, none, .fa 0 (.t 2)⟩,
    ⟨some 7, none, .load 1 false (.t 6)⟩,
    ⟨some 8, none, .build [.int .u8 0, .int .i64 0, .int .i64 0, .str [], .bool false, .bool false, .int .u8 0, .int .u64 0, .int .u64 0, .int .u64 0, .int .u64 0, .int .i64 0, .int .i64 0, .int .i64 0, .vs true []] [(0, 1, .t 7)]⟩,
    ⟨some 5, none, .box 52 15 (.c (.agg [.int .u8 0, .int .i64 0, .int .i64 0, .str [], .bool false, .bool false, .int .u8 0, .int .u64 0, .int .u64 0, .int .u64 0, .int .u64 0, .int .i64 0, .int .i64 0, .int .i64 0, .vs true []]))⟩,
    ⟨none, none, .store 15 (.t 5) (.t 8)⟩])
  (.seq
  (.seq
  (.reg [
    ⟨some 9, none, .fa 0 (.t 2)⟩,
    ⟨some 10, none, .load 1 false (.t 9)⟩])
  (.block 0
    (.seq
    (.seq
    (.reg [
      ⟨some 12, none, .int .eql (.t 10) (.c (.int .u8 0))⟩,
      ⟨some 11, none, .mov (.t 12)⟩])
    (.cond (.t 11)
      .skip
      (.reg [
        ⟨some 13, none, .int .eql (.t 10) (.c (.int .u8 2))⟩,
        ⟨some 11, none, .mov (.t 13)⟩])))
    (.cond (.t 11)
      .skip
      (.seq
      (.seq
      (.reg [
        ⟨some 15, none, .int .eql (.t 10) (.c (.int .u8 1))⟩,
        ⟨some 14, none, .mov (.t 15)⟩])
      (.cond (.t 14)
        .skip
        (.seq
        (.reg [
          ⟨some 16, none, .int .eql (.t 10) (.c (.int .u8 5))⟩,
          ⟨some 14, none, .mov (.t 16)⟩])
        (.cond (.t 14)
          .skip
          (.reg [
            ⟨some 17, none, .int .eql (.t 10) (.c (.int .u8 6))⟩,
            ⟨some 14, none, .mov (.t 17)⟩])))))
      (.cond (.t 14)
        (.reg [
          ⟨some 18, none, .fa 1 (.t 2)⟩,
          ⟨some 19, none, .load 1 false (.t 18)⟩,
          ⟨some 20, none, .fa 1 (.t 5)⟩,
          ⟨none, none, .store 1 (.t 20) (.t 19)⟩])
        (.seq
        (.reg [
          ⟨some 22, none, .int .eql (.t 10) (.c (.int .u8 4))⟩,
          ⟨some 21, none, .mov (.t 22)⟩])
        (.cond (.t 21)
          (.dreg [
            ⟨0, 0, [], 0, ⟨some 23, none, .fa 1 (.t 2)⟩⟩,
            ⟨1, 0, [], 1, ⟨some 24, none, .load 1 false (.t 23)⟩⟩,
            ⟨2, 0, [], 0, ⟨some 25, none, .fa 2 (.t 2)⟩⟩,
            ⟨3, 0, [], 4, ⟨some 26, none, .load 1 false (.t 25)⟩⟩,
            ⟨4, 0, [], 3, ⟨some 27, none, .fa 1 (.t 5)⟩⟩,
            ⟨5, 1, [2, 3], 19, ⟨none, none, .store 1 (.t 27) (.t 24)⟩⟩,
            ⟨6, 0, [], 63, ⟨some 28, none, .fa 2 (.t 5)⟩⟩,
            ⟨7, 1, [], 127, ⟨none, none, .store 1 (.t 28) (.t 26)⟩⟩])
          (.seq
          (.reg [
            ⟨some 30, none, .int .eql (.t 10) (.c (.int .u8 3))⟩,
            ⟨some 29, none, .mov (.t 30)⟩])
          (.cond (.t 29)
            (.seq
            (.reg [
              ⟨some 31, none, .fa 3 (.t 2)⟩,
              ⟨some 32, none, .load 12 true (.t 31)⟩,
              ⟨some 33, none, .fa 3 (.t 5)⟩,
              ⟨none, none, .store 12 (.t 33) (.t 32)⟩])
            (.seq
            (.reg [
              ⟨some 34, none, .fa 3 (.t 2)⟩,
              ⟨some 35, none, .load 12 true (.t 34)⟩,
              ⟨some 36, none, .mov (.t 1)⟩,
              ⟨some 37, none, .call (.c (.fn 137 [])) [.t 35, .t 36]⟩,
              ⟨some 38, none, .not (.t 37)⟩])
            (.cond (.t 38)
              (.seq
              (.reg [
                ⟨some 4, none, .mov (.c (.bool false))⟩])
              .ret)
              .skip)))
            (.seq
            (.reg [
              ⟨some 4, none, .mov (.c (.bool false))⟩])
            .ret)))))))))))
  (.seq
  (.reg [
    ⟨some 39, none, .load 15 true (.t 2)⟩,
    ⟨some 40, none, .load 15 true (.t 5)⟩,
    ⟨some 41, none, .call (.c (.fn 153 [])) [.t 39, .t 40]⟩,
    ⟨some 42, none, .mov (.t 41)⟩,
    ⟨some 43, some (42, true), .fa 1 (.t 2)⟩,
    ⟨some 44, some (42, true), .load 1 false (.t 43)⟩,
    ⟨some 45, some (42, true), .call (.c (.fn 138 [])) [.t 44]⟩,
    ⟨some 46, none, .pick (.t 42) (.t 45) (.c (.bool false))⟩,
    ⟨some 47, none, .mov (.t 46)⟩,
    ⟨some 48, some (47, true), .fa 2 (.t 2)⟩,
    ⟨some 49, some (47, true), .load 1 false (.t 48)⟩,
    ⟨some 50, some (47, true), .call (.c (.fn 138 [])) [.t 49]⟩,
    ⟨some 51, none, .pick (.t 47) (.t 50) (.c (.bool false))⟩,
    ⟨some 4, none, .mov (.t 51)⟩])
  .ret))))⟩

theorem c136 : chkF Go.Proofs.Tryz.prog Go.Proofs.Tryz.f136 m136 = true := by kernel_rfl

/-- paddock/script.regex -/
def m137 : MFn := ⟨2, 41, [.tmp 4], 0,
  (.seq
  (.reg [
    ⟨some 2, none, .box 50 12 (.t 0)⟩,
    ⟨some 4, none, .mov (.c (.bool false))⟩])
  (.seq
  (.seq
  (.reg [
    ⟨some 7, none, .fa 1 (.t 2)⟩,
    ⟨some 8, none, .load 1 false (.t 7)⟩])
  (.cond (.t 8)
    (.seq
    (.reg [
      ⟨some 9, none, .load 12 true (.t 2)⟩,
      ⟨some 10, none, .build [.str [], .bool false, .bool false, .int .u8 0, .int .u64 0, .int .u64 0, .int .u64 0, .int .u64 0, .int .i64 0, .int .i64 0, .int .i64 0, .vs true []] [(1, 1, .c (.bool true))]⟩,
      ⟨some 11, none, .call (.c (.fn 105 [])) [.t 9, .t 10]⟩,
      ⟨some 4, none, .mov (.t 11)⟩])
    .ret)
    .skip))
  (.seq
  (.seq
  (.reg [
    ⟨some 12, none, .fa 0 (.t 2)⟩,
    ⟨some 13, none, .load 1 false (.t 12)⟩,
    ⟨some 14, none, .strb .eql (.t 13) (.c (.str []))⟩,
    ⟨some 15, none, .mov (.t 14)⟩,
    ⟨some 16, some (15, false), .fa 0 (.t 2)⟩,
    ⟨some 17, some (15, false), .load 1 false (.t 16)⟩,
    ⟨some 18, some (15, false), .lenS (.t 17)⟩,
    ⟨some 19, some (15, false), .int .gtr (.t 18) (.c (.int .i64 4096))⟩,
    ⟨some 20, none, .pick (.t 15) (.c (.bool true)) (.t 19)⟩,
    ⟨some 21, none, .mov (.t 20)⟩,
    ⟨some 22, some (21, false), .fa 0 (.t 2)⟩,
    ⟨some 23, some (21, false), .load 1 false (.t 22)⟩,
    ⟨some 24, some (21, false), .call (.c (.fn 51 [])) [.t 23, .c (.int .u8 10)]⟩,
    ⟨some 25, some (21, false), .int .geq (.t 24) (.c (.int .i64 0))⟩,
    ⟨some 26, none, .pick (.t 21) (.c (.bool true)) (.t 25)⟩])
  (.cond (.t 26)
    (.seq
    (.reg [
      ⟨some 4, none, .mov (.c (.bool false))⟩])
    .ret)
    .skip))
  (.seq
  (.reg [
    ⟨some 28, none, .fa 0 (.t 2)⟩,
    ⟨some 29, none, .load 1 false (.t 28)⟩,
    ⟨some 30, none, .mov (.t 1)⟩,
    ⟨some 31, none, .call (.c (.fn 120 [])) [.t 29, .t 30]⟩,
    ⟨some 27, none, .mov (.t 31)⟩,
    ⟨some 32, none, .ext (.t 27) 0⟩,
    ⟨some 33, none, .ext (.t 27) 1⟩,
    ⟨some 5, none, .box 48 9 (.c (.agg [.int .u8 0, .int .u64 0, .int .u64 0, .int .u64 0, .int .u64 0, .int .i64 0, .int .i64 0, .int .i64 0, .vs true []]))⟩,
    ⟨none, none, .store 9 (.t 5) (.t 32)⟩,
    ⟨some 6, none, .mov (.t 33)⟩])
  (.seq
  (.reg [
    ⟨some 34, none, .mov (.t 6)⟩,
    ⟨some 35, none, .mov (.t 34)⟩,
    ⟨some 36, some (35, true), .load 9 true (.t 5)⟩,
    ⟨some 37, some (35, true), .fa 3 (.t 2)⟩,
    ⟨some 38, some (35, true), .load 9 true (.t 37)⟩,
    ⟨some 39, some (35, true), .call (.c (.fn 139 [])) [.t 36, .t 38]⟩,
    ⟨some 40, none, .pick (.t 35) (.t 39) (.c (.bool false))⟩,
    ⟨some 4, none, .mov (.t 40)⟩])
  .ret)))))⟩

theorem c137 : chkF Go.Proofs.Tryz.prog Go.Proofs.Tryz.f137 m137 = true := by kernel_rfl

/-- paddock/script.number -/
def m138 : MFn := ⟨1, 9, [.tmp 2], 0,
  (.seq
  (.reg [
    ⟨some 2, none, .mov (.c (.bool false))⟩])
  (.seq
  (.reg [
    ⟨some 3, none, .mov (.t 0)⟩,
    ⟨some 4, none, .int .geq (.t 3) (.c (.int .i64 0))⟩,
    ⟨some 5, none, .mov (.t 4)⟩,
    ⟨some 6, some (5, true), .mov (.t 0)⟩,
    ⟨some 7, some (5, true), .int .leq (.t 6) (.c (.int .i64 1073741824))⟩,
    ⟨some 8, none, .pick (.t 5) (.t 7) (.c (.bool false))⟩,
    ⟨some 2, none, .mov (.t 8)⟩])
  .ret))⟩

theorem c138 : chkF Go.Proofs.Tryz.prog Go.Proofs.Tryz.f138 m138 = true := by kernel_rfl

/-- paddock/posix.Same -/
def m139 : MFn := ⟨2, 45, [.tmp 4], 0,
  (.seq
  (.reg [
    ⟨some 2, none, .box 48 9 (.t 0)⟩,
    ⟨some 3, none, .box 48 9 (.t 1)⟩,
    ⟨some 4, none, .mov (.c (.bool false))⟩])
  (.seq
  (.reg [
    ⟨some 5, none, .fa 0 (.t 2)⟩,
    ⟨some 6, none, .load 1 false (.t 5)⟩,
    ⟨some 7, none, .fa 0 (.t 3)⟩,
    ⟨some 8, none, .load 1 false (.t 7)⟩,
    ⟨some 9, none, .int .eql (.t 6) (.t 8)⟩,
    ⟨some 10, none, .mov (.t 9)⟩,
    ⟨some 11, some (10, true), .fa 1 (.t 2)⟩,
    ⟨some 12, some (10, true), .load 4 true (.t 11)⟩,
    ⟨some 13, some (10, true), .fa 1 (.t 3)⟩,
    ⟨some 14, some (10, true), .load 4 true (.t 13)⟩,
    ⟨some 15, some (10, true), .aggb false [.i, .i, .i, .i] (.t 12) (.t 14)⟩,
    ⟨some 16, none, .pick (.t 10) (.t 15) (.c (.bool false))⟩,
    ⟨some 17, none, .mov (.t 16)⟩,
    ⟨some 18, some (17, true), .fa 5 (.t 2)⟩,
    ⟨some 19, some (17, true), .load 1 false (.t 18)⟩,
    ⟨some 20, some (17, true), .fa 5 (.t 3)⟩,
    ⟨some 21, some (17, true), .load 1 false (.t 20)⟩,
    ⟨some 22, some (17, true), .int .eql (.t 19) (.t 21)⟩,
    ⟨some 23, none, .pick (.t 17) (.t 22) (.c (.bool false))⟩,
    ⟨some 24, none, .mov (.t 23)⟩,
    ⟨some 25, some (24, true), .fa 6 (.t 2)⟩,
    ⟨some 26, some (24, true), .load 1 false (.t 25)⟩,
    ⟨some 27, some (24, true), .fa 6 (.t 3)⟩,
    ⟨some 28, some (24, true), .load 1 false (.t 27)⟩,
    ⟨some 29, some (24, true), .int .eql (.t 26) (.t 28)⟩,
    ⟨some 30, none, .pick (.t 24) (.t 29) (.c (.bool false))⟩,
    ⟨some 31, none, .mov (.t 30)⟩,
    ⟨some 32, some (31, true), .fa 7 (.t 2)⟩,
    ⟨some 33, some (31, true), .load 1 false (.t 32)⟩,
    ⟨some 34, some (31, true), .fa 7 (.t 3)⟩,
    ⟨some 35, some (31, true), .load 1 false (.t 34)⟩,
    ⟨some 36, some (31, true), .int .eql (.t 33) (.t 35)⟩,
    ⟨some 37, none, .pick (.t 31) (.t 36) (.c (.bool false))⟩,
    ⟨some 38, none, .mov (.t 37)⟩,
    ⟨some 39, some (38, true), .fa 8 (.t 2)⟩,
    ⟨some 40, some (38, true), .load 1 false (.t 39)⟩,
    ⟨some 41, some (38, true), .fa 8 (.t 3)⟩,
    ⟨some 42, some (38, true), .load 1 false (.t 41)⟩,
    ⟨some 43, some (38, true), .call (.c (.fn 154 [])) [.t 40, .t 42, .c (.fn 139 [])]⟩,
    ⟨some 44, none, .pick (.t 38) (.t 43) (.c (.bool false))⟩,
    ⟨some 4, none, .mov (.t 44)⟩])
  .ret))⟩

theorem c139 : chkF Go.Proofs.Tryz.prog Go.Proofs.Tryz.f139 m139 = true := by kernel_rfl

/-- slices.Equal[[]paddock/api.Piece,paddock/api.Piece] -/
def m140 : MFn := ⟨2, 26, [.tmp 4], 0,
  (.seq
  (.reg [
    ⟨some 4, none, .mov (.c (.bool false))⟩])
  (.seq
  (.seq
  (.reg [
    ⟨some 6, none, .mov (.t 0)⟩,
    ⟨some 7, none, .lenL (.t 6)⟩,
    ⟨some 8, none, .mov (.t 1)⟩,
    ⟨some 9, none, .lenL (.t 8)⟩,
    ⟨some 10, none, .int .neq (.t 7) (.t 9)⟩])
  (.cond (.t 10)
    (.seq
    (.reg [
      ⟨some 4, none, .mov (.c (.bool false))⟩])
    .ret)
    .skip))
  (.seq
  (.seq
  (.reg [
    ⟨some 11, none, .mov (.t 0)⟩,
    ⟨some 12, none, .lenL (.t 11)⟩,
    ⟨some 13, none, .mov (.c (.int .i64 0))⟩])
  (.block 0
    (.loop
      (.seq
      (.reg [
        ⟨some 14, none, .int .lss (.t 13) (.t 12)⟩])
      (.seq
      (.cond (.t 14)
        .skip
        (.exit 0))
      (.seq
      (.block 1
        (.seq
        (.reg [
          ⟨some 15, none, .mov (.t 13)⟩,
          ⟨some 5, none, .mov (.t 15)⟩])
        (.seq
        (.dreg [
          ⟨0, 0, [], 0, ⟨some 16, none, .mov (.t 0)⟩⟩,
          ⟨1, 0, [], 0, ⟨some 17, none, .mov (.t 5)⟩⟩,
          ⟨2, 0, [], 3, ⟨some 18, none, .ia 3 (.t 16) (.t 17)⟩⟩,
          ⟨3, 0, [], 7, ⟨some 19, none, .load 3 true (.t 18)⟩⟩,
          ⟨4, 0, [], 0, ⟨some 20, none, .mov (.t 1)⟩⟩,
          ⟨5, 0, [], 0, ⟨some 21, none, .mov (.t 5)⟩⟩,
          ⟨6, 0, [], 48, ⟨some 22, none, .ia 3 (.t 20) (.t 21)⟩⟩,
          ⟨7, 0, [], 112, ⟨some 23, none, .load 3 true (.t 22)⟩⟩,
          ⟨8, 0, [], 255, ⟨some 24, none, .aggb true [.i, .i, .s] (.t 19) (.t 23)⟩⟩])
        (.cond (.t 24)
          (.seq
          (.reg [
            ⟨some 4, none, .mov (.c (.bool false))⟩])
          .ret)
          .skip))))
      (.reg [
        ⟨some 25, none, .int .add (.t 13) (.c (.int .i64 1))⟩,
        ⟨some 13, none, .mov (.t 25)⟩])))))))
  (.seq
  (.reg [
    ⟨some 4, none, .mov (.c (.bool true))⟩])
  .ret))))⟩

theorem c140 : chkF Go.Proofs.Tryz.prog Go.Proofs.Tryz.f140 m140 = true := by kernel_rfl

/-- internal/strconv.FormatInt -/
def m141 : MFn := ⟨2, 54, [.tmp 4], 0,
  (.seq
  (.reg [
    ⟨some 4, none, .mov (.c (.str []))⟩])
  (.seq
  (.seq
  (.reg [
    ⟨some 10, none, .mov (.t 1)⟩,
    ⟨some 11, none, .int .eql (.t 10) (.c (.int .i64 10))⟩])
  (.cond (.t 11)
    (.seq
    (.seq
    (.reg [
      ⟨some 12, none, .mov (.t 0)⟩,
      ⟨some 13, none, .int .leq (.c (.int .i64 0)) (.t 12)⟩,
      ⟨some 14, none, .mov (.t 13)⟩,
      ⟨some 15, some (14, true), .mov (.t 0)⟩,
      ⟨some 16, some (14, true), .int .lss (.t 15) (.c (.int .i64 100))⟩,
      ⟨some 17, none, .pick (.t 14) (.t 16) (.c (.bool false))⟩])
    (.cond (.t 17)
      (.seq
      (.reg [
        ⟨some 18, none, .mov (.t 0)⟩,
        ⟨some 19, none, .call (.c (.fn 155 [])) [.t 18]⟩,
        ⟨some 4, none, .mov (.t 19)⟩])
      .ret)
      .skip))
    (.seq
    (.reg [
      ⟨some 5, none, .box 214 24 (.c (.agg [.int .u8 0, .int .u8 0, .int .u8 0, .int .u8 0, .int .u8 0, .int .u8 0, .int .u8 0, .int .u8 0, .int .u8 0, .int .u8 0, .int .u8 0, .int .u8 0, .int .u8 0, .int .u8 0, .int .u8 0, .int .u8 0, .int .u8 0, .int .u8 0, .int .u8 0, .int .u8 0, .int .u8 0, .int .u8 0, .int .u8 0, .int .u8 0]))⟩])
    (.seq
    (.reg [
      ⟨some 20, none, .mov (.t 0)⟩,
      ⟨some 21, none, .conv .u64 (.t 20)⟩,
      ⟨some 6, none, .mov (.t 21)⟩])
    (.seq
    (.seq
    (.reg [
      ⟨some 22, none, .mov (.t 0)⟩,
      ⟨some 23, none, .int .lss (.t 22) (.c (.int .i64 0))⟩])
    (.cond (.t 23)
      (.reg [
        ⟨some 24, none, .mov (.t 6)⟩,
        ⟨some 25, none, .neg (.t 24)⟩,
        ⟨some 6, none, .mov (.t 25)⟩])
      .skip))
    (.seq
    (.reg [
      ⟨some 26, none, .mov (.t 6)⟩,
      ⟨some 27, none, .call (.c (.fn 156 [])) [.t 26]⟩,
      ⟨some 7, none, .mov (.t 27)⟩])
    (.seq
    (.reg [
      ⟨some 28, none, .mov (.t 7)⟩,
      ⟨some 29, none, .int .add (.c (.int .i64 1)) (.t 28)⟩,
      ⟨some 30, none, .bad⟩,
      ⟨some 31, none, .mov (.t 6)⟩,
      ⟨some 32, none, .call (.c (.fn 157 [])) [.t 30, .t 31]⟩])
    (.seq
    (.seq
    (.reg [
      ⟨some 33, none, .mov (.t 0)⟩,
      ⟨some 34, none, .int .lss (.t 33) (.c (.int .i64 0))⟩])
    (.cond (.t 34)
      (.seq
      (.reg [
        ⟨some 35, none, .iaa 1 24 (.t 5) (.c (.int .i64 0))⟩,
        ⟨none, none, .store 1 (.t 35) (.c (.int .u8 45))⟩])
      (.seq
      (.reg [
        ⟨some 36, none, .mov (.t 7)⟩,
        ⟨some 37, none, .int .add (.c (.int .i64 1)) (.t 36)⟩,
        ⟨some 38, none, .bad⟩,
        ⟨some 39, none, .bstr (.t 38)⟩,
        ⟨some 4, none, .mov (.t 39)⟩])
      .ret))
      .skip))
    (.seq
    (.reg [
      ⟨some 40, none, .mov (.t 7)⟩,
      ⟨some 41, none, .int .add (.c (.int .i64 1)) (.t 40)⟩,
      ⟨some 42, none, .bad⟩,
      ⟨some 43, none, .bstr (.t 42)⟩,
      ⟨some 4, none, .mov (.t 43)⟩])
    .ret))))))))
    .skip))
  (.seq
  (.reg [
    ⟨some 45, none, .mov (.t 0)⟩,
    ⟨some 46, none, .conv .u64 (.t 45)⟩,
    ⟨some 47, none, .mov (.t 1)⟩,
    ⟨some 48, none, .mov (.t 0)⟩,
    ⟨some 49, none, .int .lss (.t 48) (.c (.int .i64 0))⟩,
    ⟨some 50, none, .call (.c (.fn 158 [])) [.c (.vs true []), .t 46, .t 47, .t 49, .c (.bool false)]⟩,
    ⟨some 44, none, .mov (.t 50)⟩,
    ⟨some 51, none, .ext (.t 44) 0⟩,
    ⟨some 52, none, .ext (.t 44) 1⟩,
    ⟨some 8, none, .mov (.t 51)⟩,
    ⟨some 9, none, .mov (.t 52)⟩])
  (.seq
  (.reg [
    ⟨some 53, none, .mov (.t 9)⟩,
    ⟨some 4, none, .mov (.t 53)⟩])
  .ret))))⟩

theorem c141 : chkF Go.Proofs.Tryz.prog Go.Proofs.Tryz.f141 m141 = true := by kernel_rfl

/-- slices.order2Ordered[int] -/
def m142 : MFn := ⟨4, 28, [.tmp 8, .tmp 9], 0,
  (.seq
  (.reg [
    ⟨some 8, none, .mov (.c (.int .i64 0))⟩,
    ⟨some 9, none, .mov (.c (.int .i64 0))⟩])
  (.seq
  (.seq
  (.dreg [
    ⟨0, 0, [], 0, ⟨some 10, none, .mov (.t 0)⟩⟩,
    ⟨1, 0, [], 0, ⟨some 11, none, .mov (.t 2)⟩⟩,
    ⟨2, 0, [], 3, ⟨some 12, none, .ia 1 (.t 10) (.t 11)⟩⟩,
    ⟨3, 0, [], 7, ⟨some 13, none, .load 1 false (.t 12)⟩⟩,
    ⟨4, 0, [], 0, ⟨some 14, none, .mov (.t 0)⟩⟩,
    ⟨5, 0, [], 0, ⟨some 15, none, .mov (.t 1)⟩⟩,
    ⟨6, 0, [], 48, ⟨some 16, none, .ia 1 (.t 14) (.t 15)⟩⟩,
    ⟨7, 0, [], 112, ⟨some 17, none, .load 1 false (.t 16)⟩⟩,
    ⟨8, 1, [], 255, ⟨some 18, none, .call (.c (.fn 79 [])) [.t 13, .t 17]⟩⟩])
  (.cond (.t 18)
    (.seq
    (.reg [
      ⟨some 19, none, .mov (.t 3)⟩,
      ⟨some 20, none, .nilc (.t 19)⟩,
      ⟨some 21, none, .load 1 false (.t 20)⟩,
      ⟨some 22, none, .int .add (.t 21) (.c (.int .i64 1))⟩,
      ⟨some 23, none, .nilc (.t 19)⟩,
      ⟨none, none, .store 1 (.t 23) (.t 22)⟩])
    (.seq
    (.reg [
      ⟨some 24, none, .mov (.t 2)⟩,
      ⟨some 25, none, .mov (.t 1)⟩,
      ⟨some 8, none, .mov (.t 24)⟩,
      ⟨some 9, none, .mov (.t 25)⟩])
    .ret))
    .skip))
  (.seq
  (.reg [
    ⟨some 26, none, .mov (.t 1)⟩,
    ⟨some 27, none, .mov (.t 2)⟩,
    ⟨some 8, none, .mov (.t 26)⟩,
    ⟨some 9, none, .mov (.t 27)⟩])
  .ret)))⟩

theorem c142 : chkF Go.Proofs.Tryz.prog Go.Proofs.Tryz.f142 m142 = true := by kernel_rfl

/-- paddock/nfa.Size -/
def m144 : MFn := ⟨1, 17, [.tmp 2, .tmp 3], 0,
  (.seq
  (.reg [
    ⟨some 1, none, .box 48 9 (.t 0)⟩,
    ⟨some 2, none, .mov (.c (.int .i64 0))⟩,
    ⟨some 3, none, .mov (.c (.int .i64 0))⟩])
  (.seq
  (.seq
  (.reg [
    ⟨some 6, none, .load 9 true (.t 1)⟩,
    ⟨some 7, none, .call (.c (.fn 162 [])) [.t 6]⟩,
    ⟨some 4, none, .mov (.t 7)⟩])
  (.seq
  (.reg [
    ⟨some 8, none, .mov (.t 4)⟩,
    ⟨some 9, none, .int .neq (.t 8) (.c (.int .i64 0))⟩])
  (.cond (.t 9)
    (.seq
    (.reg [
      ⟨some 10, none, .mov (.t 4)⟩,
      ⟨some 2, none, .mov (.c (.int .i64 0))⟩,
      ⟨some 3, none, .mov (.t 10)⟩])
    .ret)
    .skip)))
  (.seq
  (.seq
  (.reg [
    ⟨some 11, none, .load 9 true (.t 1)⟩,
    ⟨some 12, none, .call (.c (.fn 163 [])) [.t 11]⟩,
    ⟨some 5, none, .mov (.t 12)⟩])
  (.seq
  (.reg [
    ⟨some 13, none, .mov (.t 5)⟩,
    ⟨some 14, none, .int .lss (.t 13) (.c (.int .i64 16384))⟩])
  (.cond (.t 14)
    (.seq
    (.reg [
      ⟨some 15, none, .mov (.t 5)⟩,
      ⟨some 16, none, .int .add (.t 15) (.c (.int .i64 1))⟩,
      ⟨some 2, none, .mov (.t 16)⟩,
      ⟨some 3, none, .mov (.c (.int .i64 0))⟩])
    .ret)
    .skip)))
  (.seq
  (.reg [
    ⟨some 2, none, .mov (.c (.int .i64 0))⟩,
    ⟨some 3, none, .mov (.c (.int .i64 3))⟩])
  .ret))))⟩

theorem c144 : chkF Go.Proofs.Tryz.prog Go.Proofs.Tryz.f144 m144 = true := by kernel_rfl

/-- paddock/posix.each -/
def m145 : MFn := ⟨1, 4, [.tmp 2], 0,
  (.seq
  (.reg [
    ⟨some 1, none, .box 204 1 (.t 0)⟩,
    ⟨some 2, none, .mov (.c (.nilf))⟩])
  (.seq
  (.reg [
    ⟨some 3, none, .mkf 164 [.t 1]⟩,
    ⟨some 2, none, .mov (.t 3)⟩])
  .ret))⟩

theorem c145 : chkF Go.Proofs.Tryz.prog Go.Proofs.Tryz.f145 m145 = true := by kernel_rfl

/-- slices.IndexFunc[[]paddock/api.Piece,paddock/api.Piece] -/
def m146 : MFn := ⟨2, 19, [.tmp 4], 0,
  (.seq
  (.reg [
    ⟨some 4, none, .mov (.c (.int .i64 0))⟩])
  (.seq
  (.seq
  (.reg [
    ⟨some 6, none, .mov (.t 0)⟩,
    ⟨some 7, none, .lenL (.t 6)⟩,
    ⟨some 8, none, .mov (.c (.int .i64 0))⟩])
  (.block 0
    (.loop
      (.seq
      (.reg [
        ⟨some 9, none, .int .lss (.t 8) (.t 7)⟩])
      (.seq
      (.cond (.t 9)
        .skip
        (.exit 0))
      (.seq
      (.block 1
        (.seq
        (.reg [
          ⟨some 10, none, .mov (.t 8)⟩,
          ⟨some 5, none, .mov (.t 10)⟩])
        (.seq
        (.reg [
          ⟨some 11, none, .mov (.t 1)⟩,
          ⟨some 12, none, .mov (.t 0)⟩,
          ⟨some 13, none, .mov (.t 5)⟩,
          ⟨some 14, none, .ia 3 (.t 12) (.t 13)⟩,
          ⟨some 15, none, .load 3 true (.t 14)⟩,
          ⟨some 16, none, .call (.t 11) [.t 15]⟩])
        (.cond (.t 16)
          (.seq
          (.reg [
            ⟨some 17, none, .mov (.t 5)⟩,
            ⟨some 4, none, .mov (.t 17)⟩])
          .ret)
          .skip))))
      (.reg [
        ⟨some 18, none, .int .add (.t 8) (.c (.int .i64 1))⟩,
        ⟨some 8, none, .mov (.t 18)⟩])))))))
  (.seq
  (.reg [
    ⟨some 4, none, .mov (.c (.int .i64 (-1)))⟩])
  .ret)))⟩

theorem c146 : chkF Go.Proofs.Tryz.prog Go.Proofs.Tryz.f146 m146 = true := by kernel_rfl

/-- (*strings.asciiSet).contains -/
def m147 : MFn := ⟨2, 10, [.tmp 4], 0,
  (.seq
  (.reg [
    ⟨some 4, none, .mov (.c (.bool false))⟩])
  (.seq
  (.reg [
    ⟨some 5, none, .mov (.t 0)⟩,
    ⟨some 6, none, .mov (.t 1)⟩,
    ⟨some 7, none, .nilc (.t 5)⟩,
    ⟨some 8, none, .iaa 1 256 (.t 7) (.t 6)⟩,
    ⟨some 9, none, .load 1 false (.t 8)⟩,
    ⟨some 4, none, .mov (.t 9)⟩])
  .ret))⟩

theorem c147 : chkF Go.Proofs.Tryz.prog Go.Proofs.Tryz.f147 m147 = true := by kernel_rfl

/-- unicode/utf8.DecodeLastRuneInString -/
def m148 : MFn := ⟨1, 51, [.tmp 2, .tmp 3], 0,
  (.seq
  (.reg [
    ⟨some 2, none, .mov (.c (.int .i32 0))⟩,
    ⟨some 3, none, .mov (.c (.int .i64 0))⟩])
  (.seq
  (.reg [
    ⟨some 7, none, .mov (.t 0)⟩,
    ⟨some 8, none, .lenS (.t 7)⟩,
    ⟨some 4, none, .mov (.t 8)⟩])
  (.seq
  (.seq
  (.reg [
    ⟨some 9, none, .mov (.t 4)⟩,
    ⟨some 10, none, .int .eql (.t 9) (.c (.int .i64 0))⟩])
  (.cond (.t 10)
    (.seq
    (.reg [
      ⟨some 2, none, .mov (.c (.int .i32 65533))⟩,
      ⟨some 3, none, .mov (.c (.int .i64 0))⟩])
    .ret)
    .skip))
  (.seq
  (.reg [
    ⟨some 11, none, .mov (.t 4)⟩,
    ⟨some 12, none, .int .sub (.t 11) (.c (.int .i64 1))⟩,
    ⟨some 5, none, .mov (.t 12)⟩])
  (.seq
  (.reg [
    ⟨some 13, none, .mov (.t 0)⟩,
    ⟨some 14, none, .mov (.t 5)⟩,
    ⟨some 15, none, .idx (.t 13) (.t 14)⟩,
    ⟨some 16, none, .conv .i32 (.t 15)⟩,
    ⟨some 2, none, .mov (.t 16)⟩])
  (.seq
  (.seq
  (.reg [
    ⟨some 17, none, .mov (.t 2)⟩,
    ⟨some 18, none, .int .lss (.t 17) (.c (.int .i32 128))⟩])
  (.cond (.t 18)
    (.seq
    (.reg [
      ⟨some 19, none, .mov (.t 2)⟩,
      ⟨some 2, none, .mov (.t 19)⟩,
      ⟨some 3, none, .mov (.c (.int .i64 1))⟩])
    .ret)
    .skip))
  (.seq
  (.reg [
    ⟨some 20, none, .mov (.t 4)⟩,
    ⟨some 21, none, .int .sub (.t 20) (.c (.int .i64 4))⟩,
    ⟨some 22, none, .minmax true (.t 21) (.c (.int .i64 0))⟩,
    ⟨some 6, none, .mov (.t 22)⟩])
  (.seq
  (.seq
  (.reg [
    ⟨some 23, none, .mov (.t 5)⟩,
    ⟨some 24, none, .int .sub (.t 23) (.c (.int .i64 1))⟩,
    ⟨some 5, none, .mov (.t 24)⟩])
  (.block 0
    (.loop
      (.seq
      (.seq
      (.reg [
        ⟨some 25, none, .mov (.t 5)⟩,
        ⟨some 26, none, .mov (.t 6)⟩,
        ⟨some 27, none, .int .geq (.t 25) (.t 26)⟩])
      (.cond (.t 27)
        .skip
        (.exit 0)))
      (.seq
      (.block 1
        (.seq
        (.reg [
          ⟨some 30, none, .mov (.t 0)⟩,
          ⟨some 31, none, .mov (.t 5)⟩,
          ⟨some 32, none, .idx (.t 30) (.t 31)⟩,
          ⟨some 33, none, .call (.c (.fn 166 [])) [.t 32]⟩])
        (.cond (.t 33)
          (.exit 0)
          .skip)))
      (.reg [
        ⟨some 28, none, .mov (.t 5)⟩,
        ⟨some 29, none, .int .sub (.t 28) (.c (.int .i64 1))⟩,
        ⟨some 5, none, .mov (.t 29)⟩]))))))
  (.seq
  (.seq
  (.reg [
    ⟨some 34, none, .mov (.t 5)⟩,
    ⟨some 35, none, .int .lss (.t 34) (.c (.int .i64 0))⟩])
  (.cond (.t 35)
    (.reg [
      ⟨some 5, none, .mov (.c (.int .i64 0))⟩])
    .skip))
  (.seq
  (.reg [
    ⟨some 37, none, .mov (.t 0)⟩,
    ⟨some 38, none, .mov (.t 5)⟩,
    ⟨some 39, none, .mov (.t 4)⟩,
    ⟨some 40, none, .sstr (.t 37) (some (.t 38)) (some (.t 39))⟩,
    ⟨some 41, none, .call (.c (.fn 167 [])) [.t 40]⟩,
    ⟨some 36, none, .mov (.t 41)⟩,
    ⟨some 42, none, .ext (.t 36) 0⟩,
    ⟨some 43, none, .ext (.t 36) 1⟩,
    ⟨some 2, none, .mov (.t 42)⟩,
    ⟨some 3, none, .mov (.t 43)⟩])
  (.seq
  (.seq
  (.reg [
    ⟨some 44, none, .mov (.t 5)⟩,
    ⟨some 45, none, .mov (.t 3)⟩,
    ⟨some 46, none, .int .add (.t 44) (.t 45)⟩,
    ⟨some 47, none, .mov (.t 4)⟩,
    ⟨some 48, none, .int .neq (.t 46) (.t 47)⟩])
  (.cond (.t 48)
    (.seq
    (.reg [
      ⟨some 2, none, .mov (.c (.int .i32 65533))⟩,
      ⟨some 3, none, .mov (.c (.int .i64 1))⟩])
    .ret)
    .skip))
  (.seq
  (.reg [
    ⟨some 49, none, .mov (.t 2)⟩,
    ⟨some 50, none, .mov (.t 3)⟩,
    ⟨some 2, none, .mov (.t 49)⟩,
    ⟨some 3, none, .mov (.t 50)⟩])
  .ret))))))))))))⟩

theorem c148 : chkF Go.Proofs.Tryz.prog Go.Proofs.Tryz.f148 m148 = true := by kernel_rfl

/-- strings.ContainsRune -/
def m149 : MFn := ⟨2, 9, [.tmp 4], 0,
  (.seq
  (.reg [
    ⟨some 4, none, .mov (.c (.bool false))⟩])
  (.seq
  (.reg [
    ⟨some 5, none, .mov (.t 0)⟩,
    ⟨some 6, none, .mov (.t 1)⟩,
    ⟨some 7, none, .call (.c (.fn 150 [])) [.t 5, .t 6]⟩,
    ⟨some 8, none, .int .geq (.t 7) (.c (.int .i64 0))⟩,
    ⟨some 4, none, .mov (.t 8)⟩])
  .ret))⟩

theorem c149 : chkF Go.Proofs.Tryz.prog Go.Proofs.Tryz.f149 m149 = true := by kernel_rfl

/-- strings.IndexRune -/
def m150 : MFn := ⟨2, 187, [.tmp 4], 0,
  (.seq
  (.reg [
    ⟨some 4, none, .mov (.c (.int .i64 0))⟩])
  (.block 0
    (.seq
    (.reg [
      ⟨some 161, none, .mov (.t 1)⟩,
      ⟨some 162, none, .int .leq (.c (.int .i32 0)) (.t 161)⟩,
      ⟨some 163, none, .mov (.t 162)⟩,
      ⟨some 164, some (163, true), .mov (.t 1)⟩,
      ⟨some 165, some (163, true), .int .lss (.t 164) (.c (.int .i32 128))⟩,
      ⟨some 166, none, .pick (.t 163) (.t 165) (.c (.bool false))⟩,
      ⟨some 160, none, .mov (.t 166)⟩])
    (.cond (.t 160)
      (.seq
      (.reg [
        ⟨some 167, none, .mov (.t 0)⟩,
        ⟨some 168, none, .mov (.t 1)⟩,
        ⟨some 169, none, .conv .u8 (.t 168)⟩,
        ⟨some 170, none, .call (.c (.fn 51 [])) [.t 167, .t 169]⟩,
        ⟨some 4, none, .mov (.t 170)⟩])
      .ret)
      (.seq
      (.reg [
        ⟨some 172, none, .mov (.t 1)⟩,
        ⟨some 173, none, .int .eql (.t 172) (.c (.int .i32 65533))⟩,
        ⟨some 171, none, .mov (.t 173)⟩])
      (.cond (.t 171)
        (.seq
        (.seq
        (.reg [
          ⟨some 174, none, .mov (.t 0)⟩,
          ⟨some 175, none, .rngs (.t 174)⟩])
        (.block 9
          (.loop
            (.seq
            (.reg [
              ⟨some 176, none, .nxts (.t 175)⟩,
              ⟨some 177, none, .ext (.t 176) 0⟩])
            (.seq
            (.cond (.t 177)
              .skip
              (.exit 9))
            (.block 10
              (.seq
              (.reg [
                ⟨some 178, none, .ext (.t 176) 1⟩,
                ⟨some 179, none, .ext (.t 176) 2⟩,
                ⟨some 5, none, .mov (.t 178)⟩,
                ⟨some 6, none, .mov (.t 179)⟩])
              (.seq
              (.reg [
                ⟨some 180, none, .mov (.t 6)⟩,
                ⟨some 181, none, .int .eql (.t 180) (.c (.int .i32 65533))⟩])
              (.cond (.t 181)
                (.seq
                (.reg [
                  ⟨some 182, none, .mov (.t 5)⟩,
                  ⟨some 4, none, .mov (.t 182)⟩])
                .ret)
                .skip)))))))))
        (.seq
        (.reg [
          ⟨some 4, none, .mov (.c (.int .i64 (-1)))⟩])
        .ret))
        (.seq
        (.reg [
          ⟨some 184, none, .mov (.t 1)⟩,
          ⟨some 185, none, .call (.c (.fn 168 [])) [.t 184]⟩,
          ⟨some 186, none, .not (.t 185)⟩,
          ⟨some 183, none, .mov (.t 186)⟩])
        (.cond (.t 183)
          (.seq
          (.reg [
            ⟨some 4, none, .mov (.c (.int .i64 (-1)))⟩])
          .ret)
          .bad))))))))⟩

theorem c150 : chkF Go.Proofs.Tryz.prog Go.Proofs.Tryz.f150 m150 = true := by kernel_rfl

/-- strings.shouldUseASCIISet -/
def m151 : MFn := ⟨1, 5, [.tmp 2], 0,
  (.seq
  (.reg [
    ⟨some 2, none, .mov (.c (.bool false))⟩])
  (.seq
  (.reg [
    ⟨some 3, none, .mov (.t 0)⟩,
    ⟨some 4, none, .int .gtr (.t 3) (.c (.int .i64 8))⟩,
    ⟨some 2, none, .mov (.t 4)⟩])
  .ret))⟩

theorem c151 : chkF Go.Proofs.Tryz.prog Go.Proofs.Tryz.f151 m151 = true := by kernel_rfl

/-- paddock/script.sameAddr -/
def m153 : MFn := ⟨2, 31, [.tmp 4], 0,
  (.seq
  (.reg [
    ⟨some 2, none, .box 52 15 (.t 0)⟩,
    ⟨some 3, none, .box 52 15 (.t 1)⟩,
    ⟨some 4, none, .mov (.c (.bool false))⟩])
  (.seq
  (.reg [
    ⟨some 5, none, .fa 0 (.t 2)⟩,
    ⟨some 6, none, .load 1 false (.t 5)⟩,
    ⟨some 7, none, .fa 0 (.t 3)⟩,
    ⟨some 8, none, .load 1 false (.t 7)⟩,
    ⟨some 9, none, .int .eql (.t 6) (.t 8)⟩,
    ⟨some 10, none, .mov (.t 9)⟩,
    ⟨some 11, some (10, true), .fa 1 (.t 2)⟩,
    ⟨some 12, some (10, true), .load 1 false (.t 11)⟩,
    ⟨some 13, some (10, true), .fa 1 (.t 3)⟩,
    ⟨some 14, some (10, true), .load 1 false (.t 13)⟩,
    ⟨some 15, some (10, true), .int .eql (.t 12) (.t 14)⟩,
    ⟨some 16, none, .pick (.t 10) (.t 15) (.c (.bool false))⟩,
    ⟨some 17, none, .mov (.t 16)⟩,
    ⟨some 18, some (17, true), .fa 2 (.t 2)⟩,
    ⟨some 19, some (17, true), .load 1 false (.t 18)⟩,
    ⟨some 20, some (17, true), .fa 2 (.t 3)⟩,
    ⟨some 21, some (17, true), .load 1 false (.t 20)⟩,
    ⟨some 22, some (17, true), .int .eql (.t 19) (.t 21)⟩,
    ⟨some 23, none, .pick (.t 17) (.t 22) (.c (.bool false))⟩,
    ⟨some 24, none, .mov (.t 23)⟩,
    ⟨some 25, some (24, true), .fa 3 (.t 2)⟩,
    ⟨some 26, some (24, true), .load 12 true (.t 25)⟩,
    ⟨some 27, some (24, true), .fa 3 (.t 3)⟩,
    ⟨some 28, some (24, true), .load 12 true (.t 27)⟩,
    ⟨some 29, some (24, true), .call (.c (.fn 105 [])) [.t 26, .t 28]⟩,
    ⟨some 30, none, .pick (.t 24) (.t 29) (.c (.bool false))⟩,
    ⟨some 4, none, .mov (.t 30)⟩])
  .ret))⟩

theorem c153 : chkF Go.Proofs.Tryz.prog Go.Proofs.Tryz.f153 m153 = true := by kernel_rfl

/-- slices.EqualFunc[[]paddock/api.Node,[]paddock/api.Node,paddock/api.Node,paddock/api.Node] -/
def m154 : MFn := ⟨3, 32, [.tmp 6], 0,
  (.seq
  (.reg [
    ⟨some 6, none, .mov (.c (.bool false))⟩])
  (.seq
  (.seq
  (.reg [
    ⟨some 10, none, .mov (.t 0)⟩,
    ⟨some 11, none, .lenL (.t 10)⟩,
    ⟨some 12, none, .mov (.t 1)⟩,
    ⟨some 13, none, .lenL (.t 12)⟩,
    ⟨some 14, none, .int .neq (.t 11) (.t 13)⟩])
  (.cond (.t 14)
    (.seq
    (.reg [
      ⟨some 6, none, .mov (.c (.bool false))⟩])
    .ret)
    .skip))
  (.seq
  (.seq
  (.reg [
    ⟨some 15, none, .mov (.t 0)⟩,
    ⟨some 16, none, .lenL (.t 15)⟩,
    ⟨some 17, none, .mov (.c (.int .i64 0))⟩])
  (.block 0
    (.loop
      (.seq
      (.reg [
        ⟨some 18, none, .int .lss (.t 17) (.t 16)⟩])
      (.seq
      (.cond (.t 18)
        .skip
        (.exit 0))
      (.seq
      (.block 1
        (.seq
        (.reg [
          ⟨some 19, none, .mov (.t 17)⟩,
          ⟨some 20, none, .ia 9 (.t 15) (.t 17)⟩,
          ⟨some 21, none, .load 9 true (.t 20)⟩,
          ⟨some 8, none, .box 48 9 (.c (.agg [.int .u8 0, .int .u64 0, .int .u64 0, .int .u64 0, .int .u64 0, .int .i64 0, .int .i64 0, .int .i64 0, .vs true []]))⟩,
          ⟨some 7, none, .mov (.t 19)⟩,
          ⟨none, none, .store 9 (.t 8) (.t 21)⟩])
        (.seq
        (.reg [
          ⟨some 22, none, .mov (.t 1)⟩,
          ⟨some 23, none, .mov (.t 7)⟩,
          ⟨some 24, none, .ia 9 (.t 22) (.t 23)⟩,
          ⟨some 25, none, .load 9 true (.t 24)⟩,
          ⟨some 9, none, .box 48 9 (.c (.agg [.int .u8 0, .int .u64 0, .int .u64 0, .int .u64 0, .int .u64 0, .int .i64 0, .int .i64 0, .int .i64 0, .vs true []]))⟩,
          ⟨none, none, .store 9 (.t 9) (.t 25)⟩])
        (.seq
        (.reg [
          ⟨some 26, none, .mov (.t 2)⟩,
          ⟨some 27, none, .load 9 true (.t 8)⟩,
          ⟨some 28, none, .load 9 true (.t 9)⟩,
          ⟨some 29, none, .call (.t 26) [.t 27, .t 28]⟩,
          ⟨some 30, none, .not (.t 29)⟩])
        (.cond (.t 30)
          (.seq
          (.reg [
            ⟨some 6, none, .mov (.c (.bool false))⟩])
          .ret)
          .skip)))))
      (.reg [
        ⟨some 31, none, .int .add (.t 17) (.c (.int .i64 1))⟩,
        ⟨some 17, none, .mov (.t 31)⟩])))))))
  (.seq
  (.reg [
    ⟨some 6, none, .mov (.c (.bool true))⟩])
  .ret))))⟩

theorem c154 : chkF Go.Proofs.Tryz.prog Go.Proofs.Tryz.f154 m154 = true := by kernel_rfl

/-- internal/strconv.small -/
def m155 : MFn := ⟨1, 15, [.tmp 2], 0,
  (.seq
  (.reg [
    ⟨some 2, none, .mov (.c (.str []))⟩])
  (.seq
  (.seq
  (.reg [
    ⟨some 3, none, .mov (.t 0)⟩,
    ⟨some 4, none, .int .lss (.t 3) (.c (.int .i64 10))⟩])
  (.cond (.t 4)
    (.seq
    (.reg [
      ⟨some 5, none, .mov (.t 0)⟩,
      ⟨some 6, none, .mov (.t 0)⟩,
      ⟨some 7, none, .int .add (.t 6) (.c (.int .i64 1))⟩,
      ⟨some 8, none, .sstr (.c (.str [48, 49, 50, 51, 52, 53, 54, 55, 56, 57, 97, 98, 99, 100, 101, 102, 103, 104, 105, 106, 107, 108, 109, 110, 111, 112, 113, 114, 115, 116, 117, 118, 119, 120, 121, 122])) (some (.t 5)) (some (.t 7))⟩,
      ⟨some 2, none, .mov (.t 8)⟩])
    .ret)
    .skip))
  (.seq
  (.reg [
    ⟨some 9, none, .mov (.t 0)⟩,
    ⟨some 10, none, .int .mul (.t 9) (.c (.int .i64 2))⟩,
    ⟨some 11, none, .mov (.t 0)⟩,
    ⟨some 12, none, .int .mul (.t 11) (.c (.int .i64 2))⟩,
    ⟨some 13, none, .int .add (.t 12) (.c (.int .i64 2))⟩,
    ⟨some 14, none, .sstr (.c (.str [48, 48, 48, 49, 48, 50, 48, 51, 48, 52, 48, 53, 48, 54, 48, 55, 48, 56, 48, 57, 49, 48, 49, 49, 49, 50, 49, 51, 49, 52, 49, 53, 49, 54, 49, 55, 49, 56, 49, 57, 50, 48, 50, 49, 50, 50, 50, 51, 50, 52, 50, 53, 50, 54, 50, 55, 50, 56, 50, 57, 51, 48, 51, 49, 51, 50, 51, 51, 51, 52, 51, 53, 51, 54, 51, 55, 51, 56, 51, 57, 52, 48, 52, 49, 52, 50, 52, 51, 52, 52, 52, 53, 52, 54, 52, 55, 52, 56, 52, 57, 53, 48, 53, 49, 53, 50, 53, 51, 53, 52, 53, 53, 53, 54, 53, 55, 53, 56, 53, 57, 54, 48, 54, 49, 54, 50, 54, 51, 54, 52, 54, 53, 54, 54, 54, 55, 54, 56, 54, 57, 55, 48, 55, 49, 55, 50, 55, 51, 55, 52, 55, 53, 55, 54, 55, 55, 55, 56, 55, 57, 56, 48, 56, 49, 56, 50, 56, 51, 56, 52, 56, 53, 56, 54, 56, 55, 56, 56, 56, 57, 57, 48, 57, 49, 57, 50, 57, 51, 57, 52, 57, 53, 57, 54, 57, 55, 57, 56, 57, 57])) (some (.t 10)) (some (.t 13))⟩,
    ⟨some 2, none, .mov (.t 14)⟩])
  .ret)))⟩

theorem c155 : chkF Go.Proofs.Tryz.prog Go.Proofs.Tryz.f155 m155 = true := by kernel_rfl

/-- internal/strconv.numDigits -/
def m156 : MFn := ⟨1, 15, [.tmp 2], 0,
  (.seq
  (.reg [
    ⟨some 2, none, .mov (.c (.int .i64 0))⟩])
  (.seq
  (.reg [
    ⟨some 4, none, .mov (.t 0)⟩,
    ⟨some 5, none, .call (.c (.fn 83 [])) [.t 4]⟩,
    ⟨some 6, none, .call (.c (.fn 171 [])) [.t 5]⟩,
    ⟨some 3, none, .mov (.t 6)⟩])
  (.seq
  (.reg [
    ⟨some 7, none, .mov (.t 3)⟩,
    ⟨some 8, none, .mov (.t 0)⟩,
    ⟨some 9, none, .mov (.t 3)⟩,
    ⟨some 10, none, .bad⟩,
    ⟨some 11, none, .load 1 false (.t 10)⟩,
    ⟨some 12, none, .int .geq (.t 8) (.t 11)⟩,
    ⟨some 13, none, .call (.c (.fn 172 [])) [.t 12]⟩,
    ⟨some 14, none, .int .add (.t 7) (.t 13)⟩,
    ⟨some 2, none, .mov (.t 14)⟩])
  .ret)))⟩

theorem c156 : chkF Go.Proofs.Tryz.prog Go.Proofs.Tryz.f156 m156 = true := by kernel_rfl

/-- internal/strconv.formatBase10 -/
def m157 : MFn := ⟨2, 167, [], 0,
  (.seq
  (.reg [
    ⟨some 17, none, .mov (.t 0)⟩,
    ⟨some 18, none, .lenL (.t 17)⟩,
    ⟨some 4, none, .mov (.t 18)⟩])
  (.seq
  (.block 0
    (.loop
      (.seq
      (.seq
      (.reg [
        ⟨some 19, none, .mov (.t 4)⟩,
        ⟨some 20, none, .int .geq (.t 19) (.c (.int .i64 8))⟩])
      (.cond (.t 20)
        .skip
        (.exit 0)))
      (.block 1
        (.seq
        (.reg [
          ⟨some 21, none, .mov (.t 1)⟩,
          ⟨some 22, none, .int .rem (.t 21) (.c (.int .u64 100000000))⟩,
          ⟨some 23, none, .conv .u32 (.t 22)⟩,
          ⟨some 5, none, .mov (.t 23)⟩])
        (.seq
        (.reg [
          ⟨some 24, none, .mov (.t 1)⟩,
          ⟨some 25, none, .int .quo (.t 24) (.c (.int .u64 100000000))⟩,
          ⟨some 1, none, .mov (.t 25)⟩])
        (.seq
        (.reg [
          ⟨some 26, none, .mov (.t 5)⟩,
          ⟨some 27, none, .int .quo (.t 26) (.c (.int .u32 10000))⟩,
          ⟨some 28, none, .mov (.t 5)⟩,
          ⟨some 29, none, .int .rem (.t 28) (.c (.int .u32 10000))⟩,
          ⟨some 6, none, .mov (.t 27)⟩,
          ⟨some 7, none, .mov (.t 29)⟩])
        (.seq
        (.reg [
          ⟨some 30, none, .mov (.t 7)⟩,
          ⟨some 31, none, .int .quo (.t 30) (.c (.int .u32 100))⟩,
          ⟨some 32, none, .int .mul (.t 31) (.c (.int .u32 2))⟩,
          ⟨some 33, none, .mov (.t 7)⟩,
          ⟨some 34, none, .int .rem (.t 33) (.c (.int .u32 100))⟩,
          ⟨some 35, none, .int .mul (.t 34) (.c (.int .u32 2))⟩,
          ⟨some 8, none, .mov (.t 32)⟩,
          ⟨some 9, none, .mov (.t 35)⟩])
        (.seq
        (.reg [
          ⟨some 36, none, .mov (.t 6)⟩,
          ⟨some 37, none, .int .quo (.t 36) (.c (.int .u32 100))⟩,
          ⟨some 38, none, .int .mul (.t 37) (.c (.int .u32 2))⟩,
          ⟨some 39, none, .mov (.t 6)⟩,
          ⟨some 40, none, .int .rem (.t 39) (.c (.int .u32 100))⟩,
          ⟨some 41, none, .int .mul (.t 40) (.c (.int .u32 2))⟩,
          ⟨some 10, none, .mov (.t 38)⟩,
          ⟨some 11, none, .mov (.t 41)⟩])
        (.seq
        (.dreg [
          ⟨0, 0, [], 0, ⟨some 42, none, .mov (.t 0)⟩⟩,
          ⟨1, 0, [], 0, ⟨some 43, none, .mov (.t 4)⟩⟩,
          ⟨2, 0, [], 2, ⟨some 44, none, .int .sub (.t 43) (.c (.int .i64 1))⟩⟩,
          ⟨3, 0, [], 0, ⟨some 45, none, .mov (.t 0)⟩⟩,
          ⟨4, 0, [], 0, ⟨some 46, none, .mov (.t 4)⟩⟩,
          ⟨5, 0, [], 16, ⟨some 47, none, .int .sub (.t 46) (.c (.int .i64 2))⟩⟩,
          ⟨6, 0, [], 0, ⟨some 48, none, .mov (.t 9)⟩⟩,
          ⟨7, 0, [], 64, ⟨some 49, none, .int .add (.t 48) (.c (.int .u32 1))⟩⟩,
          ⟨8, 0, [], 192, ⟨some 50, none, .idx (.c (.str [48, 48, 48, 49, 48, 50, 48, 51, 48, 52, 48, 53, 48, 54, 48, 55, 48, 56, 48, 57, 49, 48, 49, 49, 49, 50, 49, 51, 49, 52, 49, 53, 49, 54, 49, 55, 49, 56, 49, 57, 50, 48, 50, 49, 50, 50, 50, 51, 50, 52, 50, 53, 50, 54, 50, 55, 50, 56, 50, 57, 51, 48, 51, 49, 51, 50, 51, 51, 51, 52, 51, 53, 51, 54, 51, 55, 51, 56, 51, 57, 52, 48, 52, 49, 52, 50, 52, 51, 52, 52, 52, 53, 52, 54, 52, 55, 52, 56, 52, 57, 53, 48, 53, 49, 53, 50, 53, 51, 53, 52, 53, 53, 53, 54, 53, 55, 53, 56, 53, 57, 54, 48, 54, 49, 54, 50, 54, 51, 54, 52, 54, 53, 54, 54, 54, 55, 54, 56, 54, 57, 55, 48, 55, 49, 55, 50, 55, 51, 55, 52, 55, 53, 55, 54, 55, 55, 55, 56, 55, 57, 56, 48, 56, 49, 56, 50, 56, 51, 56, 52, 56, 53, 56, 54, 56, 55, 56, 56, 56, 57, 57, 48, 57, 49, 57, 50, 57, 51, 57, 52, 57, 53, 57, 54, 57, 55, 57, 56, 57, 57])) (.t 49)⟩⟩,
          ⟨9, 0, [], 0, ⟨some 51, none, .mov (.t 9)⟩⟩,
          ⟨10, 0, [], 512, ⟨some 52, none, .idx (.c (.str [48, 48, 48, 49, 48, 50, 48, 51, 48, 52, 48, 53, 48, 54, 48, 55, 48, 56, 48, 57, 49, 48, 49, 49, 49, 50, 49, 51, 49, 52, 49, 53, 49, 54, 49, 55, 49, 56, 49, 57, 50, 48, 50, 49, 50, 50, 50, 51, 50, 52, 50, 53, 50, 54, 50, 55, 50, 56, 50, 57, 51, 48, 51, 49, 51, 50, 51, 51, 51, 52, 51, 53, 51, 54, 51, 55, 51, 56, 51, 57, 52, 48, 52, 49, 52, 50, 52, 51, 52, 52, 52, 53, 52, 54, 52, 55, 52, 56, 52, 57, 53, 48, 53, 49, 53, 50, 53, 51, 53, 52, 53, 53, 53, 54, 53, 55, 53, 56, 53, 57, 54, 48, 54, 49, 54, 50, 54, 51, 54, 52, 54, 53, 54, 54, 54, 55, 54, 56, 54, 57, 55, 48, 55, 49, 55, 50, 55, 51, 55, 52, 55, 53, 55, 54, 55, 55, 55, 56, 55, 57, 56, 48, 56, 49, 56, 50, 56, 51, 56, 52, 56, 53, 56, 54, 56, 55, 56, 56, 56, 57, 57, 48, 57, 49, 57, 50, 57, 51, 57, 52, 57, 53, 57, 54, 57, 55, 57, 56, 57, 57])) (.t 51)⟩⟩,
          ⟨11, 0, [], 455, ⟨some 53, none, .ia 1 (.t 42) (.t 44)⟩⟩,
          ⟨12, 1, [3, 4, 5, 9, 10], 2503, ⟨none, none, .store 1 (.t 53) (.t 50)⟩⟩,
          ⟨13, 0, [], 8191, ⟨some 54, none, .ia 1 (.t 45) (.t 47)⟩⟩,
          ⟨14, 1, [], 16383, ⟨none, none, .store 1 (.t 54) (.t 52)⟩⟩])
        (.seq
        (.dreg [
          ⟨0, 0, [], 0, ⟨some 55, none, .mov (.t 0)⟩⟩,
          ⟨1, 0, [], 0, ⟨some 56, none, .mov (.t 4)⟩⟩,
          ⟨2, 0, [], 2, ⟨some 57, none, .int .sub (.t 56) (.c (.int .i64 3))⟩⟩,
          ⟨3, 0, [], 0, ⟨some 58, none, .mov (.t 0)⟩⟩,
          ⟨4, 0, [], 0, ⟨some 59, none, .mov (.t 4)⟩⟩,
          ⟨5, 0, [], 16, ⟨some 60, none, .int .sub (.t 59) (.c (.int .i64 4))⟩⟩,
          ⟨6, 0, [], 0, ⟨some 61, none, .mov (.t 8)⟩⟩,
          ⟨7, 0, [], 64, ⟨some 62, none, .int .add (.t 61) (.c (.int .u32 1))⟩⟩,
          ⟨8, 0, [], 192, ⟨some 63, none, .idx (.c (.str [48, 48, 48, 49, 48, 50, 48, 51, 48, 52, 48, 53, 48, 54, 48, 55, 48, 56, 48, 57, 49, 48, 49, 49, 49, 50, 49, 51, 49, 52, 49, 53, 49, 54, 49, 55, 49, 56, 49, 57, 50, 48, 50, 49, 50, 50, 50, 51, 50, 52, 50, 53, 50, 54, 50, 55, 50, 56, 50, 57, 51, 48, 51, 49, 51, 50, 51, 51, 51, 52, 51, 53, 51, 54, 51, 55, 51, 56, 51, 57, 52, 48, 52, 49, 52, 50, 52, 51, 52, 52, 52, 53, 52, 54, 52, 55, 52, 56, 52, 57, 53, 48, 53, 49, 53, 50, 53, 51, 53, 52, 53, 53, 53, 54, 53, 55, 53, 56, 53, 57, 54, 48, 54, 49, 54, 50, 54, 51, 54, 52, 54, 53, 54, 54, 54, 55, 54, 56, 54, 57, 55, 48, 55, 49, 55, 50, 55, 51, 55, 52, 55, 53, 55, 54, 55, 55, 55, 56, 55, 57, 56, 48, 56, 49, 56, 50, 56, 51, 56, 52, 56, 53, 56, 54, 56, 55, 56, 56, 56, 57, 57, 48, 57, 49, 57, 50, 57, 51, 57, 52, 57, 53, 57, 54, 57, 55, 57, 56, 57, 57])) (.t 62)⟩⟩,
          ⟨9, 0, [], 0, ⟨some 64, none, .mov (.t 8)⟩⟩,
          ⟨10, 0, [], 512, ⟨some 65, none, .idx (.c (.str [48, 48, 48, 49, 48, 50, 48, 51, 48, 52, 48, 53, 48, 54, 48, 55, 48, 56, 48, 57, 49, 48, 49, 49, 49, 50, 49, 51, 49, 52, 49, 53, 49, 54, 49, 55, 49, 56, 49, 57, 50, 48, 50, 49, 50, 50, 50, 51, 50, 52, 50, 53, 50, 54, 50, 55, 50, 56, 50, 57, 51, 48, 51, 49, 51, 50, 51, 51, 51, 52, 51, 53, 51, 54, 51, 55, 51, 56, 51, 57, 52, 48, 52, 49, 52, 50, 52, 51, 52, 52, 52, 53, 52, 54, 52, 55, 52, 56, 52, 57, 53, 48, 53, 49, 53, 50, 53, 51, 53, 52, 53, 53, 53, 54, 53, 55, 53, 56, 53, 57, 54, 48, 54, 49, 54, 50, 54, 51, 54, 52, 54, 53, 54, 54, 54, 55, 54, 56, 54, 57, 55, 48, 55, 49, 55, 50, 55, 51, 55, 52, 55, 53, 55, 54, 55, 55, 55, 56, 55, 57, 56, 48, 56, 49, 56, 50, 56, 51, 56, 52, 56, 53, 56, 54, 56, 55, 56, 56, 56, 57, 57, 48, 57, 49, 57, 50, 57, 51, 57, 52, 57, 53, 57, 54, 57, 55, 57, 56, 57, 57])) (.t 64)⟩⟩,
          ⟨11, 0, [], 455, ⟨some 66, none, .ia 1 (.t 55) (.t 57)⟩⟩,
          ⟨12, 1, [3, 4, 5, 9, 10], 2503, ⟨none, none, .store 1 (.t 66) (.t 63)⟩⟩,
          ⟨13, 0, [], 8191, ⟨some 67, none, .ia 1 (.t 58) (.t 60)⟩⟩,
          ⟨14, 1, [], 16383, ⟨none, none, .store 1 (.t 67) (.t 65)⟩⟩])
        (.seq
        (.dreg [
          ⟨0, 0, [], 0, ⟨some 68, none, .mov (.t 0)⟩⟩,
          ⟨1, 0, [], 0, ⟨some 69, none, .mov (.t 4)⟩⟩,
          ⟨2, 0, [], 2, ⟨some 70, none, .int .sub (.t 69) (.c (.int .i64 5))⟩⟩,
          ⟨3, 0, [], 0, ⟨some 71, none, .mov (.t 0)⟩⟩,
          ⟨4, 0, [], 0, ⟨some 72, none, .mov (.t 4)⟩⟩,
          ⟨5, 0, [], 16, ⟨some 73, none, .int .sub (.t 72) (.c (.int .i64 6))⟩⟩,
          ⟨6, 0, [], 0, ⟨some 74, none, .mov (.t 11)⟩⟩,
          ⟨7, 0, [], 64, ⟨some 75, none, .int .add (.t 74) (.c (.int .u32 1))⟩⟩,
          ⟨8, 0, [], 192, ⟨some 76, none, .idx (.c (.str [48, 48, 48, 49, 48, 50, 48, 51, 48, 52, 48, 53, 48, 54, 48, 55, 48, 56, 48, 57, 49, 48, 49, 49, 49, 50, 49, 51, 49, 52, 49, 53, 49, 54, 49, 55, 49, 56, 49, 57, 50, 48, 50, 49, 50, 50, 50, 51, 50, 52, 50, 53, 50, 54, 50, 55, 50, 56, 50, 57, 51, 48, 51, 49, 51, 50, 51, 51, 51, 52, 51, 53, 51, 54, 51, 55, 51, 56, 51, 57, 52, 48, 52, 49, 52, 50, 52, 51, 52, 52, 52, 53, 52, 54, 52, 55, 52, 56, 52, 57, 53, 48, 53, 49, 53, 50, 53, 51, 53, 52, 53, 53, 53, 54, 53, 55, 53, 56, 53, 57, 54, 48, 54, 49, 54, 50, 54, 51, 54, 52, 54, 53, 54, 54, 54, 55, 54, 56, 54, 57, 55, 48, 55, 49, 55, 50, 55, 51, 55, 52, 55, 53, 55, 54, 55, 55, 55, 56, 55, 57, 56, 48, 56, 49, 56, 50, 56, 51, 56, 52, 56, 53, 56, 54, 56, 55, 56, 56, 56, 57, 57, 48, 57, 49, 57, 50, 57, 51, 57, 52, 57, 53, 57, 54, 57, 55, 57, 56, 57, 57])) (.t 75)⟩⟩,
          ⟨9, 0, [], 0, ⟨some 77, none, .mov (.t 11)⟩⟩,
          ⟨10, 0, [], 512, ⟨some 78, none, .idx (.c (.str [48, 48, 48, 49, 48, 50, 48, 51, 48, 52, 48, 53, 48, 54, 48, 55, 48, 56, 48, 57, 49, 48, 49, 49, 49, 50, 49, 51, 49, 52, 49, 53, 49, 54, 49, 55, 49, 56, 49, 57, 50, 48, 50, 49, 50, 50, 50, 51, 50, 52, 50, 53, 50, 54, 50, 55, 50, 56, 50, 57, 51, 48, 51, 49, 51, 50, 51, 51, 51, 52, 51, 53, 51, 54, 51, 55, 51, 56, 51, 57, 52, 48, 52, 49, 52, 50, 52, 51, 52, 52, 52, 53, 52, 54, 52, 55, 52, 56, 52, 57, 53, 48, 53, 49, 53, 50, 53, 51, 53, 52, 53, 53, 53, 54, 53, 55, 53, 56, 53, 57, 54, 48, 54, 49, 54, 50, 54, 51, 54, 52, 54, 53, 54, 54, 54, 55, 54, 56, 54, 57, 55, 48, 55, 49, 55, 50, 55, 51, 55, 52, 55, 53, 55, 54, 55, 55, 55, 56, 55, 57, 56, 48, 56, 49, 56, 50, 56, 51, 56, 52, 56, 53, 56, 54, 56, 55, 56, 56, 56, 57, 57, 48, 57, 49, 57, 50, 57, 51, 57, 52, 57, 53, 57, 54, 57, 55, 57, 56, 57, 57])) (.t 77)⟩⟩,
          ⟨11, 0, [], 455, ⟨some 79, none, .ia 1 (.t 68) (.t 70)⟩⟩,
          ⟨12, 1, [3, 4, 5, 9, 10], 2503, ⟨none, none, .store 1 (.t 79) (.t 76)⟩⟩,
          ⟨13, 0, [], 8191, ⟨some 80, none, .ia 1 (.t 71) (.t 73)⟩⟩,
          ⟨14, 1, [], 16383, ⟨none, none, .store 1 (.t 80) (.t 78)⟩⟩])
        (.seq
        (.dreg [
          ⟨0, 0, [], 0, ⟨some 81, none, .mov (.t 0)⟩⟩,
          ⟨1, 0, [], 0, ⟨some 82, none, .mov (.t 4)⟩⟩,
          ⟨2, 0, [], 2, ⟨some 83, none, .int .sub (.t 82) (.c (.int .i64 7))⟩⟩,
          ⟨3, 0, [], 0, ⟨some 84, none, .mov (.t 0)⟩⟩,
          ⟨4, 0, [], 0, ⟨some 85, none, .mov (.t 4)⟩⟩,
          ⟨5, 0, [], 16, ⟨some 86, none, .int .sub (.t 85) (.c (.int .i64 8))⟩⟩,
          ⟨6, 0, [], 0, ⟨some 87, none, .mov (.t 10)⟩⟩,
          ⟨7, 0, [], 64, ⟨some 88, none, .int .add (.t 87) (.c (.int .u32 1))⟩⟩,
          ⟨8, 0, [], 192, ⟨some 89, none, .idx (.c (.str [48, 48, 48, 49, 48, 50, 48, 51, 48, 52, 48, 53, 48, 54, 48, 55, 48, 56, 48, 57, 49, 48, 49, 49, 49, 50, 49, 51, 49, 52, 49, 53, 49, 54, 49, 55, 49, 56, 49, 57, 50, 48, 50, 49, 50, 50, 50, 51, 50, 52, 50, 53, 50, 54, 50, 55, 50, 56, 50, 57, 51, 48, 51, 49, 51, 50, 51, 51, 51, 52, 51, 53, 51, 54, 51, 55, 51, 56, 51, 57, 52, 48, 52, 49, 52, 50, 52, 51, 52, 52, 52, 53, 52, 54, 52, 55, 52, 56, 52, 57, 53, 48, 53, 49, 53, 50, 53, 51, 53, 52, 53, 53, 53, 54, 53, 55, 53, 56, 53, 57, 54, 48, 54, 49, 54, 50, 54, 51, 54, 52, 54, 53, 54, 54, 54, 55, 54, 56, 54, 57, 55, 48, 55, 49, 55, 50, 55, 51, 55, 52, 55, 53, 55, 54, 55, 55, 55, 56, 55, 57, 56, 48, 56, 49, 56, 50, 56, 51, 56, 52, 56, 53, 56, 54, 56, 55, 56, 56, 56, 57, 57, 48, 57, 49, 57, 50, 57, 51, 57, 52, 57, 53, 57, 54, 57, 55, 57, 56, 57, 57])) (.t 88)⟩⟩,
          ⟨9, 0, [], 0, ⟨some 90, none, .mov (.t 10)⟩⟩,
          ⟨10, 0, [], 512, ⟨some 91, none, .idx (.c (.str [48, 48, 48, 49, 48, 50, 48, 51, 48, 52, 48, 53, 48, 54, 48, 55, 48, 56, 48, 57, 49, 48, 49, 49, 49, 50, 49, 51, 49, 52, 49, 53, 49, 54, 49, 55, 49, 56, 49, 57, 50, 48, 50, 49, 50, 50, 50, 51, 50, 52, 50, 53, 50, 54, 50, 55, 50, 56, 50, 57, 51, 48, 51, 49, 51, 50, 51, 51, 51, 52, 51, 53, 51, 54, 51, 55, 51, 56, 51, 57, 52, 48, 52, 49, 52, 50, 52, 51, 52, 52, 52, 53, 52, 54, 52, 55, 52, 56, 52, 57, 53, 48, 53, 49, 53, 50, 53, 51, 53, 52, 53, 53, 53, 54, 53, 55, 53, 56, 53, 57, 54, 48, 54, 49, 54, 50, 54, 51, 54, 52, 54, 53, 54, 54, 54, 55, 54, 56, 54, 57, 55, 48, 55, 49, 55, 50, 55, 51, 55, 52, 55, 53, 55, 54, 55, 55, 55, 56, 55, 57, 56, 48, 56, 49, 56, 50, 56, 51, 56, 52, 56, 53, 56, 54, 56, 55, 56, 56, 56, 57, 57, 48, 57, 49, 57, 50, 57, 51, 57, 52, 57, 53, 57, 54, 57, 55, 57, 56, 57, 57])) (.t 90)⟩⟩,
          ⟨11, 0, [], 455, ⟨some 92, none, .ia 1 (.t 81) (.t 83)⟩⟩,
          ⟨12, 1, [3, 4, 5, 9, 10], 2503, ⟨none, none, .store 1 (.t 92) (.t 89)⟩⟩,
          ⟨13, 0, [], 8191, ⟨some 93, none, .ia 1 (.t 84) (.t 86)⟩⟩,
          ⟨14, 1, [], 16383, ⟨none, none, .store 1 (.t 93) (.t 91)⟩⟩])
        (.reg [
          ⟨some 94, none, .mov (.t 4)⟩,
          ⟨some 95, none, .int .sub (.t 94) (.c (.int .i64 8))⟩,
          ⟨some 4, none, .mov (.t 95)⟩]))))))))))))))
  (.seq
  (.reg [
    ⟨some 96, none, .mov (.t 1)⟩,
    ⟨some 97, none, .conv .u32 (.t 96)⟩,
    ⟨some 12, none, .mov (.t 97)⟩])
  (.seq
  (.seq
  (.reg [
    ⟨some 98, none, .mov (.t 4)⟩,
    ⟨some 99, none, .int .geq (.t 98) (.c (.int .i64 4))⟩])
  (.cond (.t 99)
    (.seq
    (.reg [
      ⟨some 100, none, .mov (.t 12)⟩,
      ⟨some 101, none, .int .rem (.t 100) (.c (.int .u32 10000))⟩,
      ⟨some 13, none, .mov (.t 101)⟩])
    (.seq
    (.reg [
      ⟨some 102, none, .mov (.t 12)⟩,
      ⟨some 103, none, .int .quo (.t 102) (.c (.int .u32 10000))⟩,
      ⟨some 12, none, .mov (.t 103)⟩])
    (.seq
    (.reg [
      ⟨some 104, none, .mov (.t 13)⟩,
      ⟨some 105, none, .int .quo (.t 104) (.c (.int .u32 100))⟩,
      ⟨some 106, none, .int .mul (.t 105) (.c (.int .u32 2))⟩,
      ⟨some 107, none, .mov (.t 13)⟩,
      ⟨some 108, none, .int .rem (.t 107) (.c (.int .u32 100))⟩,
      ⟨some 109, none, .int .mul (.t 108) (.c (.int .u32 2))⟩,
      ⟨some 14, none, .mov (.t 106)⟩,
      ⟨some 15, none, .mov (.t 109)⟩])
    (.seq
    (.dreg [
      ⟨0, 0, [], 0, ⟨some 110, none, .mov (.t 0)⟩⟩,
      ⟨1, 0, [], 0, ⟨some 111, none, .mov (.t 4)⟩⟩,
      ⟨2, 0, [], 2, ⟨some 112, none, .int .sub (.t 111) (.c (.int .i64 1))⟩⟩,
      ⟨3, 0, [], 0, ⟨some 113, none, .mov (.t 0)⟩⟩,
      ⟨4, 0, [], 0, ⟨some 114, none, .mov (.t 4)⟩⟩,
      ⟨5, 0, [], 16, ⟨some 115, none, .int .sub (.t 114) (.c (.int .i64 2))⟩⟩,
      ⟨6, 0, [], 0, ⟨some 116, none, .mov (.t 15)⟩⟩,
      ⟨7, 0, [], 64, ⟨some 117, none, .int .add (.t 116) (.c (.int .u32 1))⟩⟩,
      ⟨8, 0, [], 192, ⟨some 118, none, .idx (.c (.str [48, 48, 48, 49, 48, 50, 48, 51, 48, 52, 48, 53, 48, 54, 48, 55, 48, 56, 48, 57, 49, 48, 49, 49, 49, 50, 49, 51, 49, 52, 49, 53, 49, 54, 49, 55, 49, 56, 49, 57, 50, 48, 50, 49, 50, 50, 50, 51, 50, 52, 50, 53, 50, 54, 50, 55, 50, 56, 50, 57, 51, 48, 51, 49, 51, 50, 51, 51, 51, 52, 51, 53, 51, 54, 51, 55, 51, 56, 51, 57, 52, 48, 52, 49, 52, 50, 52, 51, 52, 52, 52, 53, 52, 54, 52, 55, 52, 56, 52, 57, 53, 48, 53, 49, 53, 50, 53, 51, 53, 52, 53, 53, 53, 54, 53, 55, 53, 56, 53, 57, 54, 48, 54, 49, 54, 50, 54, 51, 54, 52, 54, 53, 54, 54, 54, 55, 54, 56, 54, 57, 55, 48, 55, 49, 55, 50, 55, 51, 55, 52, 55, 53, 55, 54, 55, 55, 55, 56, 55, 57, 56, 48, 56, 49, 56, 50, 56, 51, 56, 52, 56, 53, 56, 54, 56, 55, 56, 56, 56, 57, 57, 48, 57, 49, 57, 50, 57, 51, 57, 52, 57, 53, 57, 54, 57, 55, 57, 56, 57, 57])) (.t 117)⟩⟩,
      ⟨9, 0, [], 0, ⟨some 119, none, .mov (.t 15)⟩⟩,
      ⟨10, 0, [], 512, ⟨some 120, none, .idx (.c (.str [48, 48, 48, 49, 48, 50, 48, 51, 48, 52, 48, 53, 48, 54, 48, 55, 48, 56, 48, 57, 49, 48, 49, 49, 49, 50, 49, 51, 49, 52, 49, 53, 49, 54, 49, 55, 49, 56, 49, 57, 50, 48, 50, 49, 50, 50, 50, 51, 50, 52, 50, 53, 50, 54, 50, 55, 50, 56, 50, 57, 51, 48, 51, 49, 51, 50, 51, 51, 51, 52, 51, 53, 51, 54, 51, 55, 51, 56, 51, 57, 52, 48, 52, 49, 52, 50, 52, 51, 52, 52, 52, 53, 52, 54, 52, 55, 52, 56, 52, 57, 53, 48, 53, 49, 53, 50, 53, 51, 53, 52, 53, 53, 53, 54, 53, 55, 53, 56, 53, 57, 54, 48, 54, 49, 54, 50, 54, 51, 54, 52, 54, 53, 54, 54, 54, 55, 54, 56, 54, 57, 55, 48, 55, 49, 55, 50, 55, 51, 55, 52, 55, 53, 55, 54, 55, 55, 55, 56, 55, 57, 56, 48, 56, 49, 56, 50, 56, 51, 56, 52, 56, 53, 56, 54, 56, 55, 56, 56, 56, 57, 57, 48, 57, 49, 57, 50, 57, 51, 57, 52, 57, 53, 57, 54, 57, 55, 57, 56, 57, 57])) (.t 119)⟩⟩,
      ⟨11, 0, [], 455, ⟨some 121, none, .ia 1 (.t 110) (.t 112)⟩⟩,
      ⟨12, 1, [3, 4, 5, 9, 10], 2503, ⟨none, none, .store 1 (.t 121) (.t 118)⟩⟩,
      ⟨13, 0, [], 8191, ⟨some 122, none, .ia 1 (.t 113) (.t 115)⟩⟩,
      ⟨14, 1, [], 16383, ⟨none, none, .store 1 (.t 122) (.t 120)⟩⟩])
    (.seq
    (.dreg [
      ⟨0, 0, [], 0, ⟨some 123, none, .mov (.t 0)⟩⟩,
      ⟨1, 0, [], 0, ⟨some 124, none, .mov (.t 4)⟩⟩,
      ⟨2, 0, [], 2, ⟨some 125, none, .int .sub (.t 124) (.c (.int .i64 3))⟩⟩,
      ⟨3, 0, [], 0, ⟨some 126, none, .mov (.t 0)⟩⟩,
      ⟨4, 0, [], 0, ⟨some 127, none, .mov (.t 4)⟩⟩,
      ⟨5, 0, [], 16, ⟨some 128, none, .int .sub (.t 127) (.c (.int .i64 4))⟩⟩,
      ⟨6, 0, [], 0, ⟨some 129, none, .mov (.t 14)⟩⟩,
      ⟨7, 0, [], 64, ⟨some 130, none, .int .add (.t 129) (.c (.int .u32 1))⟩⟩,
      ⟨8, 0, [], 192, ⟨some 131, none, .idx (.c (.str [48, 48, 48, 49, 48, 50, 48, 51, 48, 52, 48, 53, 48, 54, 48, 55, 48, 56, 48, 57, 49, 48, 49, 49, 49, 50, 49, 51, 49, 52, 49, 53, 49, 54, 49, 55, 49, 56, 49, 57, 50, 48, 50, 49, 50, 50, 50, 51, 50, 52, 50, 53, 50, 54, 50, 55, 50, 56, 50, 57, 51, 48, 51, 49, 51, 50, 51, 51, 51, 52, 51, 53, 51, 54, 51, 55, 51, 56, 51, 57, 52, 48, 52, 49, 52, 50, 52, 51, 52, 52, 52, 53, 52, 54, 52, 55, 52, 56, 52, 57, 53, 48, 53, 49, 53, 50, 53, 51, 53, 52, 53, 53, 53, 54, 53, 55, 53, 56, 53, 57, 54, 48, 54, 49, 54, 50, 54, 51, 54, 52, 54, 53, 54, 54, 54, 55, 54, 56, 54, 57, 55, 48, 55, 49, 55, 50, 55, 51, 55, 52, 55, 53, 55, 54, 55, 55, 55, 56, 55, 57, 56, 48, 56, 49, 56, 50, 56, 51, 56, 52, 56, 53, 56, 54, 56, 55, 56, 56, 56, 57, 57, 48, 57, 49, 57, 50, 57, 51, 57, 52, 57, 53, 57, 54, 57, 55, 57, 56, 57, 57])) (.t 130)⟩⟩,
      ⟨9, 0, [], 0, ⟨some 132, none, .mov (.t 14)⟩⟩,
      ⟨10, 0, [], 512, ⟨some 133, none, .idx (.c (.str [48, 48, 48, 49, 48, 50, 48, 51, 48, 52, 48, 53, 48, 54, 48, 55, 48, 56, 48, 57, 49, 48, 49, 49, 49, 50, 49, 51, 49, 52, 49, 53, 49, 54, 49, 55, 49, 56, 49, 57, 50, 48, 50, 49, 50, 50, 50, 51, 50, 52, 50, 53, 50, 54, 50, 55, 50, 56, 50, 57, 51, 48, 51, 49, 51, 50, 51, 51, 51, 52, 51, 53, 51, 54, 51, 55, 51, 56, 51, 57, 52, 48, 52, 49, 52, 50, 52, 51, 52, 52, 52, 53, 52, 54, 52, 55, 52, 56, 52, 57, 53, 48, 53, 49, 53, 50, 53, 51, 53, 52, 53, 53, 53, 54, 53, 55, 53, 56, 53, 57, 54, 48, 54, 49, 54, 50, 54, 51, 54, 52, 54, 53, 54, 54, 54, 55, 54, 56, 54, 57, 55, 48, 55, 49, 55, 50, 55, 51, 55, 52, 55, 53, 55, 54, 55, 55, 55, 56, 55, 57, 56, 48, 56, 49, 56, 50, 56, 51, 56, 52, 56, 53, 56, 54, 56, 55, 56, 56, 56, 57, 57, 48, 57, 49, 57, 50, 57, 51, 57, 52, 57, 53, 57, 54, 57, 55, 57, 56, 57, 57])) (.t 132)⟩⟩,
      ⟨11, 0, [], 455, ⟨some 134, none, .ia 1 (.t 123) (.t 125)⟩⟩,
      ⟨12, 1, [3, 4, 5, 9, 10], 2503, ⟨none, none, .store 1 (.t 134) (.t 131)⟩⟩,
      ⟨13, 0, [], 8191, ⟨some 135, none, .ia 1 (.t 126) (.t 128)⟩⟩,
      ⟨14, 1, [], 16383, ⟨none, none, .store 1 (.t 135) (.t 133)⟩⟩])
    (.reg [
      ⟨some 136, none, .mov (.t 4)⟩,
      ⟨some 137, none, .int .sub (.t 136) (.c (.int .i64 4))⟩,
      ⟨some 4, none, .mov (.t 137)⟩]))))))
    .skip))
  (.seq
  (.seq
  (.reg [
    ⟨some 138, none, .mov (.t 4)⟩,
    ⟨some 139, none, .int .geq (.t 138) (.c (.int .i64 2))⟩])
  (.cond (.t 139)
    (.seq
    (.reg [
      ⟨some 140, none, .mov (.t 12)⟩,
      ⟨some 141, none, .int .rem (.t 140) (.c (.int .u32 100))⟩,
      ⟨some 142, none, .int .mul (.t 141) (.c (.int .u32 2))⟩,
      ⟨some 16, none, .mov (.t 142)⟩])
    (.seq
    (.reg [
      ⟨some 143, none, .mov (.t 12)⟩,
      ⟨some 144, none, .int .quo (.t 143) (.c (.int .u32 100))⟩,
      ⟨some 12, none, .mov (.t 144)⟩])
    (.seq
    (.dreg [
      ⟨0, 0, [], 0, ⟨some 145, none, .mov (.t 0)⟩⟩,
      ⟨1, 0, [], 0, ⟨some 146, none, .mov (.t 4)⟩⟩,
      ⟨2, 0, [], 2, ⟨some 147, none, .int .sub (.t 146) (.c (.int .i64 1))⟩⟩,
      ⟨3, 0, [], 0, ⟨some 148, none, .mov (.t 0)⟩⟩,
      ⟨4, 0, [], 0, ⟨some 149, none, .mov (.t 4)⟩⟩,
      ⟨5, 0, [], 16, ⟨some 150, none, .int .sub (.t 149) (.c (.int .i64 2))⟩⟩,
      ⟨6, 0, [], 0, ⟨some 151, none, .mov (.t 16)⟩⟩,
      ⟨7, 0, [], 64, ⟨some 152, none, .int .add (.t 151) (.c (.int .u32 1))⟩⟩,
      ⟨8, 0, [], 192, ⟨some 153, none, .idx (.c (.str [48, 48, 48, 49, 48, 50, 48, 51, 48, 52, 48, 53, 48, 54, 48, 55, 48, 56, 48, 57, 49, 48, 49, 49, 49, 50, 49, 51, 49, 52, 49, 53, 49, 54, 49, 55, 49, 56, 49, 57, 50, 48, 50, 49, 50, 50, 50, 51, 50, 52, 50, 53, 50, 54, 50, 55, 50, 56, 50, 57, 51, 48, 51, 49, 51, 50, 51, 51, 51, 52, 51, 53, 51, 54, 51, 55, 51, 56, 51, 57, 52, 48, 52, 49, 52, 50, 52, 51, 52, 52, 52, 53, 52, 54, 52, 55, 52, 56, 52, 57, 53, 48, 53, 49, 53, 50, 53, 51, 53, 52, 53, 53, 53, 54, 53, 55, 53, 56, 53, 57, 54, 48, 54, 49, 54, 50, 54, 51, 54, 52, 54, 53, 54, 54, 54, 55, 54, 56, 54, 57, 55, 48, 55, 49, 55, 50, 55, 51, 55, 52, 55, 53, 55, 54, 55, 55, 55, 56, 55, 57, 56, 48, 56, 49, 56, 50, 56, 51, 56, 52, 56, 53, 56, 54, 56, 55, 56, 56, 56, 57, 57, 48, 57, 49, 57, 50, 57, 51, 57, 52, 57, 53, 57, 54, 57, 55, 57, 56, 57, 57])) (.t 152)⟩⟩,
      ⟨9, 0, [], 0, ⟨some 154, none, .mov (.t 16)⟩⟩,
      ⟨10, 0, [], 512, ⟨some 155, none, .idx (.c (.str [48, 48, 48, 49, 48, 50, 48, 51, 48, 52, 48, 53, 48, 54, 48, 55, 48, 56, 48, 57, 49, 48, 49, 49, 49, 50, 49, 51, 49, 52, 49, 53, 49, 54, 49, 55, 49, 56, 49, 57, 50, 48, 50, 49, 50, 50, 50, 51, 50, 52, 50, 53, 50, 54, 50, 55, 50, 56, 50, 57, 51, 48, 51, 49, 51, 50, 51, 51, 51, 52, 51, 53, 51, 54, 51, 55, 51, 56, 51, 57, 52, 48, 52, 49, 52, 50, 52, 51, 52, 52, 52, 53, 52, 54, 52, 55, 52, 56, 52, 57, 53, 48, 53, 49, 53, 50, 53, 51, 53, 52, 53, 53, 53, 54, 53, 55, 53, 56, 53, 57, 54, 48, 54, 49, 54, 50, 54, 51, 54, 52, 54, 53, 54, 54, 54, 55, 54, 56, 54, 57, 55, 48, 55, 49, 55, 50, 55, 51, 55, 52, 55, 53, 55, 54, 55, 55, 55, 56, 55, 57, 56, 48, 56, 49, 56, 50, 56, 51, 56, 52, 56, 53, 56, 54, 56, 55, 56, 56, 56, 57, 57, 48, 57, 49, 57, 50, 57, 51, 57, 52, 57, 53, 57, 54, 57, 55, 57, 56, 57, 57])) (.t 154)⟩⟩,
      ⟨11, 0, [], 455, ⟨some 156, none, .ia 1 (.t 145) (.t 147)⟩⟩,
      ⟨12, 1, [3, 4, 5, 9, 10], 2503, ⟨none, none, .store 1 (.t 156) (.t 153)⟩⟩,
      ⟨13, 0, [], 8191, ⟨some 157, none, .ia 1 (.t 148) (.t 150)⟩⟩,
      ⟨14, 1, [], 16383, ⟨none, none, .store 1 (.t 157) (.t 155)⟩⟩])
    (.reg [
      ⟨some 158, none, .mov (.t 4)⟩,
      ⟨some 159, none, .int .sub (.t 158) (.c (.int .i64 2))⟩,
      ⟨some 4, none, .mov (.t 159)⟩]))))
    .skip))
  (.seq
  (.reg [
    ⟨some 160, none, .mov (.t 4)⟩,
    ⟨some 161, none, .int .gtr (.t 160) (.c (.int .i64 0))⟩])
  (.cond (.t 161)
    (.reg [
      ⟨some 162, none, .mov (.t 0)⟩,
      ⟨some 163, none, .mov (.t 12)⟩,
      ⟨some 164, none, .int .add (.c (.int .u32 48)) (.t 163)⟩,
      ⟨some 165, none, .conv .u8 (.t 164)⟩,
      ⟨some 166, none, .ia 1 (.t 162) (.c (.int .i64 0))⟩,
      ⟨none, none, .store 1 (.t 166) (.t 165)⟩])
    .skip)))))))⟩

theorem c157 : chkF Go.Proofs.Tryz.prog Go.Proofs.Tryz.f157 m157 = true := by kernel_rfl

/-- internal/strconv.formatBits -/
def m158 : MFn := ⟨5, 102, [.tmp 10, .tmp 11], 0,
  (.seq
  (.reg [
    ⟨some 10, none, .mov (.c (.vs true []))⟩,
    ⟨some 11, none, .mov (.c (.str []))⟩])
  (.seq
  (.seq
  (.reg [
    ⟨some 19, none, .mov (.t 2)⟩,
    ⟨some 20, none, .int .lss (.t 19) (.c (.int .i64 2))⟩,
    ⟨some 21, none, .mov (.t 20)⟩,
    ⟨some 22, some (21, false), .mov (.t 2)⟩,
    ⟨some 23, some (21, false), .int .eql (.t 22) (.c (.int .i64 10))⟩,
    ⟨some 24, none, .pick (.t 21) (.c (.bool true)) (.t 23)⟩,
    ⟨some 25, none, .mov (.t 24)⟩,
    ⟨some 26, some (25, false), .mov (.t 2)⟩,
    ⟨some 27, some (25, false), .int .gtr (.t 26) (.c (.int .i64 36))⟩,
    ⟨some 28, none, .pick (.t 25) (.c (.bool true)) (.t 27)⟩])
  (.cond (.t 28)
    (.reg [
      ⟨some 29, none, .mki 9 (.c (.str [115, 116, 114, 99, 111, 110, 118, 58, 32, 105, 108, 108, 101, 103, 97, 108, 32, 65, 112, 112, 101, 110, 100, 73, 110, 116, 47, 70, 111, 114, 109, 97, 116, 73, 110, 116, 32, 98, 97, 115, 101]))⟩,
      ⟨none, none, .pan (.t 29)⟩])
    .skip))
  (.seq
  (.reg [
    ⟨some 12, none, .box 232 65 (.c (.agg [.int .u8 0, .int .u8 0, .int .u8 0, .int .u8 0, .int .u8 0, .int .u8 0, .int .u8 0, .int .u8 0, .int .u8 0, .int .u8 0, .int .u8 0, .int .u8 0, .int .u8 0, .int .u8 0, .int .u8 0, .int .u8 0, .int .u8 0, .int .u8 0, .int .u8 0, .int .u8 0, .int .u8 0, .int .u8 0, .int .u8 0, .int .u8 0, .int .u8 0, .int .u8 0, .int .u8 0, .int .u8 0, .int .u8 0, .int .u8 0, .int .u8 0, .int .u8 0, .int .u8 0, .int .u8 0, .int .u8 0, .int .u8 0, .int .u8 0, .int .u8 0, .int .u8 0, .int .u8 0, .int .u8 0, .int .u8 0, .int .u8 0, .int .u8 0, .int .u8 0, .int .u8 0, .int .u8 0, .int .u8 0, .int .u8 0, .int .u8 0, .int .u8 0, .int .u8 0, .int .u8 0, .int .u8 0, .int .u8 0, .int .u8 0, .int .u8 0, .int .u8 0, .int .u8 0, .int .u8 0, .int .u8 0, .int .u8 0, .int .u8 0, .int .u8 0, .int .u8 0]))⟩])
  (.seq
  (.reg [
    ⟨some 13, none, .mov (.c (.int .i64 65))⟩])
  (.seq
  (.seq
  (.reg [
    ⟨some 30, none, .mov (.t 3)⟩])
  (.cond (.t 30)
    (.reg [
      ⟨some 31, none, .mov (.t 1)⟩,
      ⟨some 32, none, .neg (.t 31)⟩,
      ⟨some 1, none, .mov (.t 32)⟩])
    .skip))
  (.seq
  (.seq
  (.reg [
    ⟨some 33, none, .mov (.t 2)⟩,
    ⟨some 34, none, .call (.c (.fn 173 [])) [.t 33]⟩])
  (.cond (.t 34)
    (.seq
    (.reg [
      ⟨some 35, none, .mov (.t 2)⟩,
      ⟨some 36, none, .conv .u64 (.t 35)⟩,
      ⟨some 37, none, .call (.c (.fn 174 [])) [.t 36]⟩,
      ⟨some 38, none, .conv .u64 (.t 37)⟩,
      ⟨some 14, none, .mov (.t 38)⟩])
    (.seq
    (.reg [
      ⟨some 39, none, .mov (.t 2)⟩,
      ⟨some 40, none, .conv .u64 (.t 39)⟩,
      ⟨some 15, none, .mov (.t 40)⟩])
    (.seq
    (.reg [
      ⟨some 41, none, .mov (.t 2)⟩,
      ⟨some 42, none, .conv .u64 (.t 41)⟩,
      ⟨some 43, none, .int .sub (.t 42) (.c (.int .u64 1))⟩,
      ⟨some 16, none, .mov (.t 43)⟩])
    (.seq
    (.block 0
      (.loop
        (.seq
        (.seq
        (.reg [
          ⟨some 44, none, .mov (.t 1)⟩,
          ⟨some 45, none, .mov (.t 15)⟩,
          ⟨some 46, none, .int .geq (.t 44) (.t 45)⟩])
        (.cond (.t 46)
          .skip
          (.exit 0)))
        (.block 1
          (.seq
          (.reg [
            ⟨some 47, none, .mov (.t 13)⟩,
            ⟨some 48, none, .int .sub (.t 47) (.c (.int .i64 1))⟩,
            ⟨some 13, none, .mov (.t 48)⟩])
          (.seq
          (.reg [
            ⟨some 49, none, .mov (.t 13)⟩,
            ⟨some 50, none, .mov (.t 1)⟩,
            ⟨some 51, none, .mov (.t 16)⟩,
            ⟨some 52, none, .int .and (.t 50) (.t 51)⟩,
            ⟨some 53, none, .idx (.c (.str [48, 49, 50, 51, 52, 53, 54, 55, 56, 57, 97, 98, 99, 100, 101, 102, 103, 104, 105, 106, 107, 108, 109, 110, 111, 112, 113, 114, 115, 116, 117, 118, 119, 120, 121, 122])) (.t 52)⟩,
            ⟨some 54, none, .iaa 1 65 (.t 12) (.t 49)⟩,
            ⟨none, none, .store 1 (.t 54) (.t 53)⟩])
          (.reg [
            ⟨some 55, none, .mov (.t 1)⟩,
            ⟨some 56, none, .mov (.t 14)⟩,
            ⟨some 57, none, .int .shr (.t 55) (.t 56)⟩,
            ⟨some 1, none, .mov (.t 57)⟩])))))))
    (.seq
    (.reg [
      ⟨some 58, none, .mov (.t 13)⟩,
      ⟨some 59, none, .int .sub (.t 58) (.c (.int .i64 1))⟩,
      ⟨some 13, none, .mov (.t 59)⟩])
    (.reg [
      ⟨some 60, none, .mov (.t 13)⟩,
      ⟨some 61, none, .mov (.t 1)⟩,
      ⟨some 62, none, .idx (.c (.str [48, 49, 50, 51, 52, 53, 54, 55, 56, 57, 97, 98, 99, 100, 101, 102, 103, 104, 105, 106, 107, 108, 109, 110, 111, 112, 113, 114, 115, 116, 117, 118, 119, 120, 121, 122])) (.t 61)⟩,
      ⟨some 63, none, .iaa 1 65 (.t 12) (.t 60)⟩,
      ⟨none, none, .store 1 (.t 63) (.t 62)⟩]))))))
    (.seq
    (.reg [
      ⟨some 64, none, .mov (.t 2)⟩,
      ⟨some 65, none, .conv .u64 (.t 64)⟩,
      ⟨some 17, none, .mov (.t 65)⟩])
    (.seq
    (.block 2
      (.loop
        (.seq
        (.seq
        (.reg [
          ⟨some 66, none, .mov (.t 1)⟩,
          ⟨some 67, none, .mov (.t 17)⟩,
          ⟨some 68, none, .int .geq (.t 66) (.t 67)⟩])
        (.cond (.t 68)
          .skip
          (.exit 2)))
        (.block 3
          (.seq
          (.reg [
            ⟨some 69, none, .mov (.t 13)⟩,
            ⟨some 70, none, .int .sub (.t 69) (.c (.int .i64 1))⟩,
            ⟨some 13, none, .mov (.t 70)⟩])
          (.seq
          (.reg [
            ⟨some 71, none, .mov (.t 1)⟩,
            ⟨some 72, none, .mov (.t 17)⟩,
            ⟨some 73, none, .int .quo (.t 71) (.t 72)⟩,
            ⟨some 18, none, .mov (.t 73)⟩])
          (.seq
          (.reg [
            ⟨some 74, none, .mov (.t 13)⟩,
            ⟨some 75, none, .mov (.t 1)⟩,
            ⟨some 76, none, .mov (.t 18)⟩,
            ⟨some 77, none, .mov (.t 17)⟩,
            ⟨some 78, none, .int .mul (.t 76) (.t 77)⟩,
            ⟨some 79, none, .int .sub (.t 75) (.t 78)⟩,
            ⟨some 80, none, .idx (.c (.str [48, 49, 50, 51, 52, 53, 54, 55, 56, 57, 97, 98, 99, 100, 101, 102, 103, 104, 105, 106, 107, 108, 109, 110, 111, 112, 113, 114, 115, 116, 117, 118, 119, 120, 121, 122])) (.t 79)⟩,
            ⟨some 81, none, .iaa 1 65 (.t 12) (.t 74)⟩,
            ⟨none, none, .store 1 (.t 81) (.t 80)⟩])
          (.reg [
            ⟨some 82, none, .mov (.t 18)⟩,
            ⟨some 1, none, .mov (.t 82)⟩]))))))))
    (.seq
    (.reg [
      ⟨some 83, none, .mov (.t 13)⟩,
      ⟨some 84, none, .int .sub (.t 83) (.c (.int .i64 1))⟩,
      ⟨some 13, none, .mov (.t 84)⟩])
    (.reg [
      ⟨some 85, none, .mov (.t 13)⟩,
      ⟨some 86, none, .mov (.t 1)⟩,
      ⟨some 87, none, .idx (.c (.str [48, 49, 50, 51, 52, 53, 54, 55, 56, 57, 97, 98, 99, 100, 101, 102, 103, 104, 105, 106, 107, 108, 109, 110, 111, 112, 113, 114, 115, 116, 117, 118, 119, 120, 121, 122])) (.t 86)⟩,
      ⟨some 88, none, .iaa 1 65 (.t 12) (.t 85)⟩,
      ⟨none, none, .store 1 (.t 88) (.t 87)⟩]))))))
  (.seq
  (.seq
  (.reg [
    ⟨some 89, none, .mov (.t 3)⟩])
  (.cond (.t 89)
    (.seq
    (.reg [
      ⟨some 90, none, .mov (.t 13)⟩,
      ⟨some 91, none, .int .sub (.t 90) (.c (.int .i64 1))⟩,
      ⟨some 13, none, .mov (.t 91)⟩])
    (.reg [
      ⟨some 92, none, .mov (.t 13)⟩,
      ⟨some 93, none, .iaa 1 65 (.t 12) (.t 92)⟩,
      ⟨none, none, .store 1 (.t 93) (.c (.int .u8 45))⟩]))
    .skip))
  (.seq
  (.seq
  (.reg [
    ⟨some 94, none, .mov (.t 4)⟩])
  (.cond (.t 94)
    (.seq
    (.reg [
      ⟨some 95, none, .mov (.t 0)⟩,
      ⟨some 96, none, .mov (.t 13)⟩,
      ⟨some 97, none, .bad⟩,
      ⟨some 98, none, .app 5 1 1 (.t 95) (.t 97)⟩,
      ⟨some 10, none, .mov (.t 98)⟩])
    .ret)
    .skip))
  (.seq
  (.reg [
    ⟨some 99, none, .mov (.t 13)⟩,
    ⟨some 100, none, .bad⟩,
    ⟨some 101, none, .bstr (.t 100)⟩,
    ⟨some 11, none, .mov (.t 101)⟩])
  .ret)))))))))⟩

theorem c158 : chkF Go.Proofs.Tryz.prog Go.Proofs.Tryz.f158 m158 = true := by kernel_rfl

/-- (*paddock/syntax.parser).branches -/
def m160 : MFn := ⟨1, 24, [.cell 2 9 true], 0,
  (.seq
  (.reg [
    ⟨some 2, none, .box 48 9 (.c (.agg [.int .u8 0, .int .u64 0, .int .u64 0, .int .u64 0, .int .u64 0, .int .i64 0, .int .i64 0, .int .i64 0, .vs true []]))⟩])
  (.seq
  (.reg [
    ⟨some 4, none, .mov (.t 0)⟩,
    ⟨some 5, none, .call (.c (.fn 175 [])) [.t 4]⟩,
    ⟨some 6, none, .bslice [.int .u8 0, .int .u64 0, .int .u64 0, .int .u64 0, .int .u64 0, .int .i64 0, .int .i64 0, .int .i64 0, .vs true []] 1 [(0, .t 5)]⟩,
    ⟨some 3, none, .mov (.t 6)⟩])
  (.seq
  (.block 0
    (.loop
      (.seq
      (.seq
      (.reg [
        ⟨some 7, none, .mov (.t 0)⟩,
        ⟨some 8, none, .call (.c (.fn 176 [])) [.t 7, .c (.int .u8 124)]⟩])
      (.cond (.t 8)
        .skip
        (.exit 0)))
      (.block 1
        (.seq
        (.reg [
          ⟨some 9, none, .mov (.t 0)⟩,
          ⟨some 10, none, .call (.c (.fn 177 [])) [.t 9]⟩])
        (.reg [
          ⟨some 11, none, .mov (.t 3)⟩,
          ⟨some 12, none, .mov (.t 0)⟩,
          ⟨some 13, none, .call (.c (.fn 175 [])) [.t 12]⟩,
          ⟨some 14, none, .bslice [.int .u8 0, .int .u64 0, .int .u64 0, .int .u64 0, .int .u64 0, .int .i64 0, .int .i64 0, .int .i64 0, .vs true []] 1 [(0, .t 13)]⟩,
          ⟨some 15, none, .app 48 9 88 (.t 11) (.t 14)⟩,
          ⟨some 3, none, .mov (.t 15)⟩]))))))
  (.seq
  (.seq
  (.reg [
    ⟨some 16, none, .mov (.t 3)⟩,
    ⟨some 17, none, .lenL (.t 16)⟩,
    ⟨some 18, none, .int .eql (.t 17) (.c (.int .i64 1))⟩])
  (.cond (.t 18)
    (.seq
    (.reg [
      ⟨some 19, none, .mov (.t 3)⟩,
      ⟨some 20, none, .ia 9 (.t 19) (.c (.int .i64 0))⟩,
      ⟨some 21, none, .load 9 true (.t 20)⟩,
      ⟨none, none, .store 9 (.t 2) (.t 21)⟩])
    .ret)
    .skip))
  (.seq
  (.reg [
    ⟨some 22, none, .mov (.t 3)⟩,
    ⟨some 23, none, .build [.int .u8 0, .int .u64 0, .int .u64 0, .int .u64 0, .int .u64 0, .int .i64 0, .int .i64 0, .int .i64 0, .vs true []] [(0, 1, .c (.int .u8 4)), (8, 1, .t 22)]⟩,
    ⟨none, none, .store 9 (.t 2) (.t 23)⟩])
  .ret)))))⟩

theorem c160 : chkF Go.Proofs.Tryz.prog Go.Proofs.Tryz.f160 m160 = true := by kernel_rfl

/-- (*paddock/syntax.parser).fail -/
def m161 : MFn := ⟨3, 16, [], 0,
  (.reg [
    ⟨some 6, none, .mov (.t 1)⟩,
    ⟨some 7, none, .mov (.t 2)⟩,
    ⟨some 8, none, .mov (.t 0)⟩,
    ⟨some 9, none, .nilc (.t 8)⟩,
    ⟨some 10, none, .fa 0 (.t 9)⟩,
    ⟨some 11, none, .load 1 false (.t 10)⟩,
    ⟨some 12, none, .lenS (.t 11)⟩,
    ⟨some 13, none, .minmax false (.t 7) (.t 12)⟩,
    ⟨some 14, none, .build [.int .i64 0, .int .i64 0] [(0, 1, .t 6), (1, 1, .t 13)]⟩,
    ⟨some 15, none, .mki 219 (.t 14)⟩,
    ⟨none, none, .pan (.t 15)⟩])⟩

theorem c161 : chkF Go.Proofs.Tryz.prog Go.Proofs.Tryz.f161 m161 = true := by kernel_rfl

/-- paddock/posix.Check -/
def m162 : MFn := ⟨1, 19, [.cell 2 1 false], 0,
  (.seq
  (.reg [
    ⟨some 1, none, .box 48 9 (.t 0)⟩,
    ⟨some 2, none, .box 34 1 (.c (.int .i64 0))⟩])
  (.seq
  (.reg [
    ⟨some 3, none, .box 3 1 (.c (.int .i64 0))⟩,
    ⟨none, none, .store 1 (.t 3) (.c (.int .i64 0))⟩])
  (.seq
  (.seq
  (.reg [
    ⟨some 8, none, .call (.c (.fn 145 [])) [.t 1]⟩])
  (.block 0
    .bad))
  (.seq
  (.reg [
    ⟨some 4, none, .box 3 1 (.c (.int .i64 0))⟩,
    ⟨none, none, .store 1 (.t 4) (.c (.int .i64 0))⟩])
  (.seq
  (.reg [
    ⟨some 5, none, .box 233 1 (.c (.vs true []))⟩])
  (.seq
  (.reg [
    ⟨some 6, none, .box 4 1 (.c (.bool false))⟩,
    ⟨none, none, .store 1 (.t 6) (.c (.bool true))⟩])
  (.seq
  (.reg [
    ⟨some 7, none, .box 234 1 (.c (.nilf))⟩])
  (.seq
  (.reg [
    ⟨some 14, none, .mkf 178 [.t 6, .t 4, .t 5, .t 7]⟩,
    ⟨none, none, .store 1 (.t 7) (.t 14)⟩])
  (.seq
  (.reg [
    ⟨some 15, none, .load 1 false (.t 7)⟩,
    ⟨some 16, none, .call (.t 15) [.t 1]⟩])
  (.seq
  (.seq
  (.reg [
    ⟨some 17, none, .load 1 false (.t 6)⟩,
    ⟨some 18, none, .not (.t 17)⟩])
  (.cond (.t 18)
    (.seq
    (.reg [
      ⟨none, none, .store 1 (.t 2) (.c (.int .i64 90))⟩])
    .ret)
    .skip))
  (.seq
  (.reg [
    ⟨none, none, .store 1 (.t 2) (.c (.int .i64 0))⟩])
  .ret)))))))))))⟩

theorem c162 : chkF Go.Proofs.Tryz.prog Go.Proofs.Tryz.f162 m162 = true := by kernel_rfl

/-- paddock/nfa.size -/
def m163 : MFn := ⟨1, 92, [.tmp 2], 0,
  (.seq
  (.reg [
    ⟨some 1, none, .box 48 9 (.t 0)⟩,
    ⟨some 2, none, .mov (.c (.int .i64 0))⟩])
  (.seq
  (.reg [
    ⟨some 3, none, .box 3 1 (.c (.int .i64 0))⟩,
    ⟨none, none, .store 1 (.t 3) (.c (.int .i64 0))⟩])
  (.seq
  (.reg [
    ⟨some 10, none, .mkf 180 [.t 3]⟩,
    ⟨some 4, none, .mov (.t 10)⟩])
  (.seq
  (.seq
  (.reg [
    ⟨some 11, none, .fa 0 (.t 1)⟩,
    ⟨some 12, none, .load 1 false (.t 11)⟩])
  (.block 0
    (.seq
    (.reg [
      ⟨some 16, none, .int .eql (.t 12) (.c (.int .u8 1))⟩,
      ⟨some 15, none, .mov (.t 16)⟩])
    (.cond (.t 15)
      .skip
      (.seq
      (.seq
      (.reg [
        ⟨some 18, none, .int .eql (.t 12) (.c (.int .u8 3))⟩,
        ⟨some 17, none, .mov (.t 18)⟩])
      (.cond (.t 17)
        .skip
        (.seq
        (.reg [
          ⟨some 19, none, .int .eql (.t 12) (.c (.int .u8 4))⟩,
          ⟨some 17, none, .mov (.t 19)⟩])
        (.cond (.t 17)
          .skip
          (.reg [
            ⟨some 20, none, .int .eql (.t 12) (.c (.int .u8 6))⟩,
            ⟨some 17, none, .mov (.t 20)⟩])))))
      (.cond (.t 17)
        (.seq
        (.seq
        (.reg [
          ⟨some 21, none, .fa 8 (.t 1)⟩,
          ⟨some 22, none, .load 1 false (.t 21)⟩,
          ⟨some 23, none, .lenL (.t 22)⟩,
          ⟨some 24, none, .mov (.c (.int .i64 0))⟩])
        (.block 1
          (.loop
            (.seq
            (.reg [
              ⟨some 25, none, .int .lss (.t 24) (.t 23)⟩])
            (.seq
            (.cond (.t 25)
              .skip
              (.exit 1))
            (.seq
            (.block 2
              (.seq
              (.reg [
                ⟨some 26, none, .ia 9 (.t 22) (.t 24)⟩,
                ⟨some 27, none, .load 9 true (.t 26)⟩,
                ⟨some 6, none, .box 48 9 (.c (.agg [.int .u8 0, .int .u64 0, .int .u64 0, .int .u64 0, .int .u64 0, .int .i64 0, .int .i64 0, .int .i64 0, .vs true []]))⟩,
                ⟨none, none, .store 9 (.t 6) (.t 27)⟩])
              (.reg [
                ⟨some 28, none, .mov (.t 4)⟩,
                ⟨some 29, none, .load 9 true (.t 6)⟩,
                ⟨some 30, none, .call (.c (.fn 163 [])) [.t 29]⟩,
                ⟨some 31, none, .call (.t 28) [.t 30]⟩])))
            (.reg [
              ⟨some 32, none, .int .add (.t 24) (.c (.int .i64 1))⟩,
              ⟨some 24, none, .mov (.t 32)⟩])))))))
        (.seq
        (.seq
        (.reg [
          ⟨some 33, none, .fa 0 (.t 1)⟩,
          ⟨some 34, none, .load 1 false (.t 33)⟩,
          ⟨some 35, none, .int .eql (.t 34) (.c (.int .u8 4))⟩])
        (.cond (.t 35)
          (.reg [
            ⟨some 36, none, .mov (.t 4)⟩,
            ⟨some 37, none, .fa 8 (.t 1)⟩,
            ⟨some 38, none, .load 1 false (.t 37)⟩,
            ⟨some 39, none, .lenL (.t 38)⟩,
            ⟨some 40, none, .int .sub (.t 39) (.c (.int .i64 1))⟩,
            ⟨some 41, none, .int .mul (.c (.int .i64 2)) (.t 40)⟩,
            ⟨some 42, none, .call (.t 36) [.t 41]⟩])
          .skip))
        (.seq
        (.reg [
          ⟨some 43, none, .fa 0 (.t 1)⟩,
          ⟨some 44, none, .load 1 false (.t 43)⟩,
          ⟨some 45, none, .int .eql (.t 44) (.c (.int .u8 6))⟩])
        (.cond (.t 45)
          (.reg [
            ⟨some 46, none, .mov (.t 4)⟩,
            ⟨some 47, none, .call (.t 46) [.c (.int .i64 2)]⟩])
          .skip))))
        (.seq
        (.reg [
          ⟨some 49, none, .int .eql (.t 12) (.c (.int .u8 5))⟩,
          ⟨some 48, none, .mov (.t 49)⟩])
        (.cond (.t 48)
          (.seq
          (.reg [
            ⟨some 50, none, .fa 8 (.t 1)⟩,
            ⟨some 51, none, .load 1 false (.t 50)⟩,
            ⟨some 52, none, .ia 9 (.t 51) (.c (.int .i64 0))⟩,
            ⟨some 53, none, .load 9 true (.t 52)⟩,
            ⟨some 54, none, .call (.c (.fn 163 [])) [.t 53]⟩,
            ⟨some 7, none, .mov (.t 54)⟩])
          (.seq
          (.seq
          (.reg [
            ⟨some 56, none, .fa 8 (.t 1)⟩,
            ⟨some 57, none, .load 1 false (.t 56)⟩,
            ⟨some 58, none, .ia 9 (.t 57) (.c (.int .i64 0))⟩,
            ⟨some 59, none, .load 9 true (.t 58)⟩,
            ⟨some 60, none, .call (.c (.fn 181 [])) [.t 59]⟩,
            ⟨some 55, none, .mov (.t 60)⟩,
            ⟨some 61, none, .ext (.t 55) 0⟩,
            ⟨some 62, none, .ext (.t 55) 1⟩,
            ⟨some 8, none, .mov (.t 61)⟩,
            ⟨some 9, none, .mov (.t 62)⟩])
          (.seq
          (.reg [
            ⟨some 63, none, .mov (.t 8)⟩,
            ⟨some 64, none, .int .gtr (.t 63) (.c (.int .i64 0))⟩])
          (.cond (.t 64)
            (.reg [
              ⟨some 65, none, .mov (.t 7)⟩,
              ⟨some 66, none, .int .add (.t 65) (.c (.int .i64 1))⟩,
              ⟨some 67, none, .minmax false (.t 66) (.c (.int .i64 16385))⟩,
              ⟨some 7, none, .mov (.t 67)⟩])
            .skip)))
          (.seq
          (.reg [
            ⟨some 68, none, .mov (.t 4)⟩,
            ⟨some 69, none, .fa 5 (.t 1)⟩,
            ⟨some 70, none, .load 1 false (.t 69)⟩,
            ⟨some 71, none, .mov (.t 7)⟩,
            ⟨some 72, none, .int .mul (.t 70) (.t 71)⟩,
            ⟨some 73, none, .call (.t 68) [.t 72]⟩])
          (.seq
          (.reg [
            ⟨some 74, none, .fa 6 (.t 1)⟩,
            ⟨some 75, none, .load 1 false (.t 74)⟩,
            ⟨some 76, none, .int .eql (.t 75) (.c (.int .i64 (-1)))⟩])
          (.cond (.t 76)
            (.reg [
              ⟨some 77, none, .mov (.t 4)⟩,
              ⟨some 78, none, .mov (.t 7)⟩,
              ⟨some 79, none, .int .add (.t 78) (.c (.int .i64 4))⟩,
              ⟨some 80, none, .call (.t 77) [.t 79]⟩])
            (.reg [
              ⟨some 81, none, .mov (.t 4)⟩,
              ⟨some 82, none, .fa 6 (.t 1)⟩,
              ⟨some 83, none, .load 1 false (.t 82)⟩,
              ⟨some 84, none, .fa 5 (.t 1)⟩,
              ⟨some 85, none, .load 1 false (.t 84)⟩,
              ⟨some 86, none, .int .sub (.t 83) (.t 85)⟩,
              ⟨some 87, none, .mov (.t 7)⟩,
              ⟨some 88, none, .int .add (.t 87) (.c (.int .i64 3))⟩,
              ⟨some 89, none, .int .mul (.t 86) (.t 88)⟩,
              ⟨some 90, none, .call (.t 81) [.t 89]⟩]))))))
          (.reg [
            ⟨some 13, none, .mov (.t 4)⟩,
            ⟨some 14, none, .call (.t 13) [.c (.int .i64 1)]⟩])))))))))
  (.seq
  (.reg [
    ⟨some 91, none, .load 1 false (.t 3)⟩,
    ⟨some 2, none, .mov (.t 91)⟩])
  .ret)))))⟩

theorem c163 : chkF Go.Proofs.Tryz.prog Go.Proofs.Tryz.f163 m163 = true := by kernel_rfl

/-- paddock/posix.each$1 -/
def m164 : MFn := ⟨2, 8, [], 0,
  (.seq
  (.reg [
    ⟨some 2, none, .box 228 1 (.t 0)⟩])
  (.seq
  (.reg [
    ⟨some 3, none, .box 228 1 (.c (.nilf))⟩])
  (.seq
  (.reg [
    ⟨some 4, none, .mkf 165 [.t 2, .t 3]⟩,
    ⟨none, none, .store 1 (.t 3) (.t 4)⟩])
  (.reg [
    ⟨some 5, none, .load 1 false (.t 3)⟩,
    ⟨some 6, none, .load 1 false (.t 1)⟩,
    ⟨some 7, none, .call (.t 5) [.t 6]⟩]))))⟩

theorem c164 : chkF Go.Proofs.Tryz.prog Go.Proofs.Tryz.f164 m164 = true := by kernel_rfl

/-- paddock/posix.each$1$1 -/
def m165 : MFn := ⟨3, 28, [.tmp 4], 0,
  (.seq
  (.reg [
    ⟨some 4, none, .mov (.c (.bool false))⟩])
  (.seq
  (.seq
  (.reg [
    ⟨some 6, none, .load 1 false (.t 1)⟩,
    ⟨some 7, none, .mov (.t 0)⟩,
    ⟨some 8, none, .call (.t 6) [.t 7]⟩,
    ⟨some 9, none, .not (.t 8)⟩])
  (.cond (.t 9)
    (.seq
    (.reg [
      ⟨some 4, none, .mov (.c (.bool false))⟩])
    .ret)
    .skip))
  (.seq
  (.seq
  (.reg [
    ⟨some 10, none, .mov (.t 0)⟩,
    ⟨some 11, none, .nilc (.t 10)⟩,
    ⟨some 12, none, .fa 8 (.t 11)⟩,
    ⟨some 13, none, .load 1 false (.t 12)⟩,
    ⟨some 14, none, .lenL (.t 13)⟩,
    ⟨some 15, none, .mov (.c (.int .i64 0))⟩])
  (.block 0
    (.loop
      (.seq
      (.reg [
        ⟨some 16, none, .int .lss (.t 15) (.t 14)⟩])
      (.seq
      (.cond (.t 16)
        .skip
        (.exit 0))
      (.seq
      (.block 1
        (.seq
        (.reg [
          ⟨some 17, none, .mov (.t 15)⟩,
          ⟨some 5, none, .mov (.t 17)⟩])
        (.seq
        (.dreg [
          ⟨0, 0, [], 0, ⟨some 18, none, .load 1 false (.t 2)⟩⟩,
          ⟨1, 0, [], 0, ⟨some 19, none, .mov (.t 0)⟩⟩,
          ⟨2, 0, [], 2, ⟨some 20, none, .nilc (.t 19)⟩⟩,
          ⟨3, 0, [], 6, ⟨some 21, none, .fa 8 (.t 20)⟩⟩,
          ⟨4, 0, [], 14, ⟨some 22, none, .load 1 false (.t 21)⟩⟩,
          ⟨5, 0, [], 0, ⟨some 23, none, .mov (.t 5)⟩⟩,
          ⟨6, 0, [], 62, ⟨some 24, none, .ia 9 (.t 22) (.t 23)⟩⟩,
          ⟨7, 1, [], 127, ⟨some 25, none, .call (.t 18) [.t 24]⟩⟩,
          ⟨8, 0, [], 255, ⟨some 26, none, .not (.t 25)⟩⟩])
        (.cond (.t 26)
          (.seq
          (.reg [
            ⟨some 4, none, .mov (.c (.bool false))⟩])
          .ret)
          .skip))))
      (.reg [
        ⟨some 27, none, .int .add (.t 15) (.c (.int .i64 1))⟩,
        ⟨some 15, none, .mov (.t 27)⟩])))))))
  (.seq
  (.reg [
    ⟨some 4, none, .mov (.c (.bool true))⟩])
  .ret))))⟩

theorem c165 : chkF Go.Proofs.Tryz.prog Go.Proofs.Tryz.f165 m165 = true := by kernel_rfl

/-- unicode/utf8.RuneStart -/
def m166 : MFn := ⟨1, 6, [.tmp 2], 0,
  (.seq
  (.reg [
    ⟨some 2, none, .mov (.c (.bool false))⟩])
  (.seq
  (.reg [
    ⟨some 3, none, .mov (.t 0)⟩,
    ⟨some 4, none, .int .and (.t 3) (.c (.int .u8 192))⟩,
    ⟨some 5, none, .int .neq (.t 4) (.c (.int .u8 128))⟩,
    ⟨some 2, none, .mov (.t 5)⟩])
  .ret))⟩

theorem c166 : chkF Go.Proofs.Tryz.prog Go.Proofs.Tryz.f166 m166 = true := by kernel_rfl

/-- unicode/utf8.DecodeRuneInString -/
def m167 : MFn := ⟨1, 19, [.tmp 2, .tmp 3], 0,
  (.seq
  (.reg [
    ⟨some 2, none, .mov (.c (.int .i32 0))⟩,
    ⟨some 3, none, .mov (.c (.int .i64 0))⟩])
  (.seq
  (.seq
  (.reg [
    ⟨some 4, none, .mov (.t 0)⟩,
    ⟨some 5, none, .strb .neq (.t 4) (.c (.str []))⟩,
    ⟨some 6, none, .mov (.t 5)⟩,
    ⟨some 7, some (6, true), .mov (.t 0)⟩,
    ⟨some 8, some (6, true), .idx (.t 7) (.c (.int .i64 0))⟩,
    ⟨some 9, some (6, true), .int .lss (.t 8) (.c (.int .u8 128))⟩,
    ⟨some 10, none, .pick (.t 6) (.t 9) (.c (.bool false))⟩])
  (.cond (.t 10)
    (.seq
    (.reg [
      ⟨some 11, none, .mov (.t 0)⟩,
      ⟨some 12, none, .idx (.t 11) (.c (.int .i64 0))⟩,
      ⟨some 13, none, .conv .i32 (.t 12)⟩,
      ⟨some 2, none, .mov (.t 13)⟩,
      ⟨some 3, none, .mov (.c (.int .i64 1))⟩])
    .ret)
    (.reg [
      ⟨some 15, none, .mov (.t 0)⟩,
      ⟨some 16, none, .call (.c (.fn 182 [])) [.t 15]⟩,
      ⟨some 14, none, .mov (.t 16)⟩,
      ⟨some 17, none, .ext (.t 14) 0⟩,
      ⟨some 18, none, .ext (.t 14) 1⟩,
      ⟨some 2, none, .mov (.t 17)⟩,
      ⟨some 3, none, .mov (.t 18)⟩])))
  .ret))⟩

theorem c167 : chkF Go.Proofs.Tryz.prog Go.Proofs.Tryz.f167 m167 = true := by kernel_rfl

/-- unicode/utf8.ValidRune -/
def m168 : MFn := ⟨1, 17, [.tmp 2], 0,
  (.seq
  (.reg [
    ⟨some 2, none, .mov (.c (.bool false))⟩])
  (.seq
  (.block 0
    (.seq
    (.reg [
      ⟨some 4, none, .mov (.t 0)⟩,
      ⟨some 5, none, .int .leq (.c (.int .i32 0)) (.t 4)⟩,
      ⟨some 6, none, .mov (.t 5)⟩,
      ⟨some 7, some (6, true), .mov (.t 0)⟩,
      ⟨some 8, some (6, true), .int .lss (.t 7) (.c (.int .i32 55296))⟩,
      ⟨some 9, none, .pick (.t 6) (.t 8) (.c (.bool false))⟩,
      ⟨some 3, none, .mov (.t 9)⟩])
    (.cond (.t 3)
      (.seq
      (.reg [
        ⟨some 2, none, .mov (.c (.bool true))⟩])
      .ret)
      (.seq
      (.reg [
        ⟨some 11, none, .mov (.t 0)⟩,
        ⟨some 12, none, .int .lss (.c (.int .i32 57343)) (.t 11)⟩,
        ⟨some 13, none, .mov (.t 12)⟩,
        ⟨some 14, some (13, true), .mov (.t 0)⟩,
        ⟨some 15, some (13, true), .int .leq (.t 14) (.c (.int .i32 1114111))⟩,
        ⟨some 16, none, .pick (.t 13) (.t 15) (.c (.bool false))⟩,
        ⟨some 10, none, .mov (.t 16)⟩])
      (.cond (.t 10)
        (.seq
        (.reg [
          ⟨some 2, none, .mov (.c (.bool true))⟩])
        .ret)
        .skip)))))
  (.seq
  (.reg [
    ⟨some 2, none, .mov (.c (.bool false))⟩])
  .ret)))⟩

theorem c168 : chkF Go.Proofs.Tryz.prog Go.Proofs.Tryz.f168 m168 = true := by kernel_rfl

/-- internal/bytealg.Cutover -/
def m169 : MFn := ⟨1, 6, [.tmp 2], 0,
  (.seq
  (.reg [
    ⟨some 2, none, .mov (.c (.int .i64 0))⟩])
  (.seq
  (.reg [
    ⟨some 3, none, .mov (.t 0)⟩,
    ⟨some 4, none, .int .add (.t 3) (.c (.int .i64 16))⟩,
    ⟨some 5, none, .int .quo (.t 4) (.c (.int .i64 8))⟩,
    ⟨some 2, none, .mov (.t 5)⟩])
  .ret))⟩

theorem c169 : chkF Go.Proofs.Tryz.prog Go.Proofs.Tryz.f169 m169 = true := by kernel_rfl

/-- internal/strconv.log10Pow2 -/
def m171 : MFn := ⟨1, 6, [.tmp 2], 0,
  (.seq
  (.reg [
    ⟨some 2, none, .mov (.c (.int .i64 0))⟩])
  (.seq
  (.reg [
    ⟨some 3, none, .mov (.t 0)⟩,
    ⟨some 4, none, .int .mul (.t 3) (.c (.int .i64 78913))⟩,
    ⟨some 5, none, .int .shr (.t 4) (.c (.int .u64 18))⟩,
    ⟨some 2, none, .mov (.t 5)⟩])
  .ret))⟩

theorem c171 : chkF Go.Proofs.Tryz.prog Go.Proofs.Tryz.f171 m171 = true := by kernel_rfl

/-- internal/strconv.bool2[int] -/
def m172 : MFn := ⟨1, 4, [.tmp 2], 0,
  (.seq
  (.reg [
    ⟨some 2, none, .mov (.c (.int .i64 0))⟩])
  (.seq
  (.seq
  (.reg [
    ⟨some 3, none, .mov (.t 0)⟩])
  (.cond (.t 3)
    (.seq
    (.reg [
      ⟨some 2, none, .mov (.c (.int .i64 1))⟩])
    .ret)
    .skip))
  (.seq
  (.reg [
    ⟨some 2, none, .mov (.c (.int .i64 0))⟩])
  .ret)))⟩

theorem c172 : chkF Go.Proofs.Tryz.prog Go.Proofs.Tryz.f172 m172 = true := by kernel_rfl

/-- internal/strconv.isPowerOfTwo -/
def m173 : MFn := ⟨1, 8, [.tmp 2], 0,
  (.seq
  (.reg [
    ⟨some 2, none, .mov (.c (.bool false))⟩])
  (.seq
  (.reg [
    ⟨some 3, none, .mov (.t 0)⟩,
    ⟨some 4, none, .mov (.t 0)⟩,
    ⟨some 5, none, .int .sub (.t 4) (.c (.int .i64 1))⟩,
    ⟨some 6, none, .int .and (.t 3) (.t 5)⟩,
    ⟨some 7, none, .int .eql (.t 6) (.c (.int .i64 0))⟩,
    ⟨some 2, none, .mov (.t 7)⟩])
  .ret))⟩

theorem c173 : chkF Go.Proofs.Tryz.prog Go.Proofs.Tryz.f173 m173 = true := by kernel_rfl

/-- math/bits.TrailingZeros -/
def m174 : MFn := ⟨1, 8, [.tmp 2], 0,
  (.seq
  (.reg [
    ⟨some 2, none, .mov (.c (.int .i64 0))⟩])
  (.seq
  (.cond (.c (.bool false))
    (.seq
    (.reg [
      ⟨some 3, none, .mov (.t 0)⟩,
      ⟨some 4, none, .conv .u32 (.t 3)⟩,
      ⟨some 5, none, .call (.c (.fn 183 [])) [.t 4]⟩,
      ⟨some 2, none, .mov (.t 5)⟩])
    .ret)
    .skip)
  (.seq
  (.reg [
    ⟨some 6, none, .mov (.t 0)⟩,
    ⟨some 7, none, .call (.c (.fn 184 [])) [.t 6]⟩,
    ⟨some 2, none, .mov (.t 7)⟩])
  .ret)))⟩

theorem c174 : chkF Go.Proofs.Tryz.prog Go.Proofs.Tryz.f174 m174 = true := by kernel_rfl

/-- (*paddock/syntax.parser).branch -/
def m175 : MFn := ⟨1, 95, [.cell 2 9 true], 0,
  (.seq
  (.reg [
    ⟨some 2, none, .box 48 9 (.c (.agg [.int .u8 0, .int .u64 0, .int .u64 0, .int .u64 0, .int .u64 0, .int .i64 0, .int .i64 0, .int .i64 0, .vs true []]))⟩])
  (.seq
  (.reg [
    ⟨some 3, none, .mov (.c (.vs true []))⟩])
  (.seq
  (.reg [
    ⟨some 4, none, .mov (.c (.bool true))⟩])
  (.seq
  (.block 0
    (.loop
      (.seq
      (.seq
      (.reg [
        ⟨some 6, none, .mov (.t 0)⟩,
        ⟨some 7, none, .call (.c (.fn 185 [])) [.t 6]⟩,
        ⟨some 8, none, .not (.t 7)⟩])
      (.cond (.t 8)
        .skip
        (.exit 0)))
      (.block 1
        (.seq
        (.block 2
          (.seq
          (.dreg [
            ⟨0, 0, [], 0, ⟨some 10, none, .mov (.t 0)⟩⟩,
            ⟨1, 0, [], 1, ⟨some 11, none, .nilc (.t 10)⟩⟩,
            ⟨2, 0, [], 3, ⟨some 12, none, .fa 0 (.t 11)⟩⟩,
            ⟨3, 0, [], 7, ⟨some 13, none, .load 1 false (.t 12)⟩⟩,
            ⟨4, 0, [], 0, ⟨some 14, none, .mov (.t 0)⟩⟩,
            ⟨5, 0, [], 16, ⟨some 15, none, .nilc (.t 14)⟩⟩,
            ⟨6, 0, [], 48, ⟨some 16, none, .fa 1 (.t 15)⟩⟩,
            ⟨7, 0, [], 112, ⟨some 17, none, .load 1 false (.t 16)⟩⟩,
            ⟨8, 0, [], 255, ⟨some 18, none, .idx (.t 13) (.t 17)⟩⟩,
            ⟨9, 0, [], 511, ⟨some 19, none, .int .eql (.t 18) (.c (.int .u8 94))⟩⟩,
            ⟨10, 0, [], 1023, ⟨some 20, none, .mov (.t 19)⟩⟩,
            ⟨11, 0, [], 2047, ⟨some 21, some (20, true), .mov (.t 0)⟩⟩,
            ⟨12, 0, [], 4095, ⟨some 22, some (20, true), .nilc (.t 21)⟩⟩,
            ⟨13, 0, [], 8191, ⟨some 23, some (20, true), .fa 2 (.t 22)⟩⟩,
            ⟨14, 0, [], 16383, ⟨some 24, some (20, true), .load 1 false (.t 23)⟩⟩,
            ⟨15, 0, [], 32767, ⟨some 25, some (20, true), .mov (.t 24)⟩⟩,
            ⟨16, 0, [], 65535, ⟨some 26, some (25, false), .mov (.t 3)⟩⟩,
            ⟨17, 0, [], 131071, ⟨some 27, some (25, false), .lenL (.t 26)⟩⟩,
            ⟨18, 0, [], 262143, ⟨some 28, some (25, false), .int .eql (.t 27) (.c (.int .i64 0))⟩⟩,
            ⟨19, 0, [], 524287, ⟨some 29, some (20, true), .pick (.t 25) (.c (.bool true)) (.t 28)⟩⟩,
            ⟨20, 0, [], 1048575, ⟨some 30, none, .pick (.t 20) (.t 29) (.c (.bool false))⟩⟩,
            ⟨21, 0, [], 2097151, ⟨some 9, none, .mov (.t 30)⟩⟩])
          (.cond (.t 9)
            (.seq
            (.reg [
              ⟨some 31, none, .mov (.t 0)⟩,
              ⟨some 32, none, .nilc (.t 31)⟩,
              ⟨some 33, none, .fa 1 (.t 32)⟩,
              ⟨some 34, none, .load 1 false (.t 33)⟩,
              ⟨some 35, none, .int .add (.t 34) (.c (.int .i64 1))⟩,
              ⟨some 36, none, .nilc (.t 31)⟩,
              ⟨some 37, none, .fa 1 (.t 36)⟩,
              ⟨none, none, .store 1 (.t 37) (.t 35)⟩])
            (.seq
            (.reg [
              ⟨some 38, none, .mov (.t 3)⟩,
              ⟨some 39, none, .build [.int .u8 0, .int .u64 0, .int .u64 0, .int .u64 0, .int .u64 0, .int .i64 0, .int .i64 0, .int .i64 0, .vs true []] [(0, 1, .c (.int .u8 8))]⟩,
              ⟨some 40, none, .bslice [.int .u8 0, .int .u64 0, .int .u64 0, .int .u64 0, .int .u64 0, .int .i64 0, .int .i64 0, .int .i64 0, .vs true []] 1 [(0, .t 39)]⟩,
              ⟨some 41, none, .app 48 9 88 (.t 38) (.t 40)⟩,
              ⟨some 3, none, .mov (.t 41)⟩])
            (.exit 1)))
            (.seq
            (.dreg [
              ⟨0, 0, [], 0, ⟨some 43, none, .mov (.t 0)⟩⟩,
              ⟨1, 0, [], 1, ⟨some 44, none, .nilc (.t 43)⟩⟩,
              ⟨2, 0, [], 3, ⟨some 45, none, .fa 0 (.t 44)⟩⟩,
              ⟨3, 0, [], 7, ⟨some 46, none, .load 1 false (.t 45)⟩⟩,
              ⟨4, 0, [], 0, ⟨some 47, none, .mov (.t 0)⟩⟩,
              ⟨5, 0, [], 16, ⟨some 48, none, .nilc (.t 47)⟩⟩,
              ⟨6, 0, [], 48, ⟨some 49, none, .fa 1 (.t 48)⟩⟩,
              ⟨7, 0, [], 112, ⟨some 50, none, .load 1 false (.t 49)⟩⟩,
              ⟨8, 0, [], 255, ⟨some 51, none, .idx (.t 46) (.t 50)⟩⟩,
              ⟨9, 0, [], 511, ⟨some 52, none, .int .eql (.t 51) (.c (.int .u8 36))⟩⟩,
              ⟨10, 0, [], 1023, ⟨some 53, none, .mov (.t 52)⟩⟩,
              ⟨11, 0, [], 2047, ⟨some 54, some (53, true), .mov (.t 0)⟩⟩,
              ⟨12, 0, [], 4095, ⟨some 55, some (53, true), .nilc (.t 54)⟩⟩,
              ⟨13, 0, [], 8191, ⟨some 56, some (53, true), .fa 2 (.t 55)⟩⟩,
              ⟨14, 0, [], 16383, ⟨some 57, some (53, true), .load 1 false (.t 56)⟩⟩,
              ⟨15, 0, [], 32767, ⟨some 58, some (53, true), .mov (.t 57)⟩⟩,
              ⟨16, 0, [], 65535, ⟨some 59, some (58, false), .mov (.t 0)⟩⟩,
              ⟨17, 1, [], 131071, ⟨some 60, some (58, false), .call (.c (.fn 186 [])) [.t 59]⟩⟩,
              ⟨18, 0, [], 262143, ⟨some 61, some (53, true), .pick (.t 58) (.c (.bool true)) (.t 60)⟩⟩,
              ⟨19, 0, [], 524287, ⟨some 62, none, .pick (.t 53) (.t 61) (.c (.bool false))⟩⟩,
              ⟨20, 0, [], 1048575, ⟨some 42, none, .mov (.t 62)⟩⟩])
            (.cond (.t 42)
              (.seq
              (.reg [
                ⟨some 63, none, .mov (.t 0)⟩,
                ⟨some 64, none, .nilc (.t 63)⟩,
                ⟨some 65, none, .fa 1 (.t 64)⟩,
                ⟨some 66, none, .load 1 false (.t 65)⟩,
                ⟨some 67, none, .int .add (.t 66) (.c (.int .i64 1))⟩,
                ⟨some 68, none, .nilc (.t 63)⟩,
                ⟨some 69, none, .fa 1 (.t 68)⟩,
                ⟨none, none, .store 1 (.t 69) (.t 67)⟩])
              (.seq
              (.reg [
                ⟨some 70, none, .mov (.t 3)⟩,
                ⟨some 71, none, .build [.int .u8 0, .int .u64 0, .int .u64 0, .int .u64 0, .int .u64 0, .int .i64 0, .int .i64 0, .int .i64 0, .vs true []] [(0, 1, .c (.int .u8 9))]⟩,
                ⟨some 72, none, .bslice [.int .u8 0, .int .u64 0, .int .u64 0, .int .u64 0, .int .u64 0, .int .i64 0, .int .i64 0, .int .i64 0, .vs true []] 1 [(0, .t 71)]⟩,
                ⟨some 73, none, .app 48 9 88 (.t 70) (.t 72)⟩,
                ⟨some 3, none, .mov (.t 73)⟩])
              (.exit 1)))
              .skip)))))
        (.seq
        (.reg [
          ⟨some 74, none, .mov (.t 0)⟩,
          ⟨some 75, none, .mov (.t 4)⟩,
          ⟨some 76, none, .call (.c (.fn 187 [])) [.t 74, .t 75]⟩,
          ⟨some 5, none, .box 48 9 (.c (.agg [.int .u8 0, .int .u64 0, .int .u64 0, .int .u64 0, .int .u64 0, .int .i64 0, .int .i64 0, .int .i64 0, .vs true []]))⟩,
          ⟨none, none, .store 9 (.t 5) (.t 76)⟩])
        (.seq
        (.reg [
          ⟨some 4, none, .mov (.c (.bool false))⟩])
        (.reg [
          ⟨some 77, none, .mov (.t 3)⟩,
          ⟨some 78, none, .mov (.t 0)⟩,
          ⟨some 79, none, .load 9 true (.t 5)⟩,
          ⟨some 80, none, .call (.c (.fn 188 [])) [.t 78, .t 79]⟩,
          ⟨some 81, none, .bslice [.int .u8 0, .int .u64 0, .int .u64 0, .int .u64 0, .int .u64 0, .int .i64 0, .int .i64 0, .int .i64 0, .vs true []] 1 [(0, .t 80)]⟩,
          ⟨some 82, none, .app 48 9 88 (.t 77) (.t 81)⟩,
          ⟨some 3, none, .mov (.t 82)⟩]))))))))
  (.seq
  (.seq
  (.reg [
    ⟨some 83, none, .mov (.t 3)⟩,
    ⟨some 84, none, .lenL (.t 83)⟩])
  (.block 3
    (.seq
    (.reg [
      ⟨some 86, none, .int .eql (.t 84) (.c (.int .i64 0))⟩,
      ⟨some 85, none, .mov (.t 86)⟩])
    (.cond (.t 85)
      (.seq
      (.reg [
        ⟨some 87, none, .build [.int .u8 0, .int .u64 0, .int .u64 0, .int .u64 0, .int .u64 0, .int .i64 0, .int .i64 0, .int .i64 0, .vs true []] [(0, 1, .c (.int .u8 1))]⟩,
        ⟨none, none, .store 9 (.t 2) (.t 87)⟩])
      .ret)
      (.seq
      (.reg [
        ⟨some 89, none, .int .eql (.t 84) (.c (.int .i64 1))⟩,
        ⟨some 88, none, .mov (.t 89)⟩])
      (.cond (.t 88)
        (.seq
        (.reg [
          ⟨some 90, none, .mov (.t 3)⟩,
          ⟨some 91, none, .ia 9 (.t 90) (.c (.int .i64 0))⟩,
          ⟨some 92, none, .load 9 true (.t 91)⟩,
          ⟨none, none, .store 9 (.t 2) (.t 92)⟩])
        .ret)
        .skip))))))
  (.seq
  (.reg [
    ⟨some 93, none, .mov (.t 3)⟩,
    ⟨some 94, none, .build [.int .u8 0, .int .u64 0, .int .u64 0, .int .u64 0, .int .u64 0, .int .i64 0, .int .i64 0, .int .i64 0, .vs true []] [(0, 1, .c (.int .u8 3)), (8, 1, .t 93)]⟩,
    ⟨none, none, .store 9 (.t 2) (.t 94)⟩])
  .ret))))))⟩

theorem c175 : chkF Go.Proofs.Tryz.prog Go.Proofs.Tryz.f175 m175 = true := by kernel_rfl

/-- (*paddock/syntax.parser).sign -/
def m176 : MFn := ⟨2, 69, [.tmp 4], 0,
  (.seq
  (.reg [
    ⟨some 4, none, .mov (.c (.bool false))⟩])
  (.seq
  (.seq
  (.reg [
    ⟨some 5, none, .mov (.t 0)⟩,
    ⟨some 6, none, .nilc (.t 5)⟩,
    ⟨some 7, none, .fa 2 (.t 6)⟩,
    ⟨some 8, none, .load 1 false (.t 7)⟩])
  (.cond (.t 8)
    (.seq
    (.dreg [
      ⟨0, 0, [], 0, ⟨some 9, none, .mov (.t 0)⟩⟩,
      ⟨1, 0, [], 1, ⟨some 10, none, .nilc (.t 9)⟩⟩,
      ⟨2, 0, [], 3, ⟨some 11, none, .fa 1 (.t 10)⟩⟩,
      ⟨3, 0, [], 7, ⟨some 12, none, .load 1 false (.t 11)⟩⟩,
      ⟨4, 0, [], 0, ⟨some 13, none, .mov (.t 0)⟩⟩,
      ⟨5, 0, [], 16, ⟨some 14, none, .nilc (.t 13)⟩⟩,
      ⟨6, 0, [], 48, ⟨some 15, none, .fa 0 (.t 14)⟩⟩,
      ⟨7, 0, [], 112, ⟨some 16, none, .load 1 false (.t 15)⟩⟩,
      ⟨8, 0, [], 240, ⟨some 17, none, .lenS (.t 16)⟩⟩,
      ⟨9, 0, [], 511, ⟨some 18, none, .int .lss (.t 12) (.t 17)⟩⟩,
      ⟨10, 0, [], 1023, ⟨some 19, none, .mov (.t 18)⟩⟩,
      ⟨11, 0, [], 2047, ⟨some 20, some (19, true), .mov (.t 0)⟩⟩,
      ⟨12, 0, [], 4095, ⟨some 21, some (19, true), .nilc (.t 20)⟩⟩,
      ⟨13, 0, [], 8191, ⟨some 22, some (19, true), .fa 0 (.t 21)⟩⟩,
      ⟨14, 0, [], 16383, ⟨some 23, some (19, true), .load 1 false (.t 22)⟩⟩,
      ⟨15, 0, [], 2047, ⟨some 24, some (19, true), .mov (.t 0)⟩⟩,
      ⟨16, 0, [], 34815, ⟨some 25, some (19, true), .nilc (.t 24)⟩⟩,
      ⟨17, 0, [], 100351, ⟨some 26, some (19, true), .fa 1 (.t 25)⟩⟩,
      ⟨18, 0, [], 231423, ⟨some 27, some (19, true), .load 1 false (.t 26)⟩⟩,
      ⟨19, 0, [], 524287, ⟨some 28, some (19, true), .idx (.t 23) (.t 27)⟩⟩,
      ⟨20, 0, [], 2047, ⟨some 29, some (19, true), .mov (.t 1)⟩⟩,
      ⟨21, 0, [], 2097151, ⟨some 30, some (19, true), .int .eql (.t 28) (.t 29)⟩⟩,
      ⟨22, 0, [], 4194303, ⟨some 31, none, .pick (.t 19) (.t 30) (.c (.bool false))⟩⟩,
      ⟨23, 0, [], 8388607, ⟨some 4, none, .mov (.t 31)⟩⟩])
    .ret)
    .skip))
  (.seq
  (.dreg [
    ⟨0, 0, [], 0, ⟨some 32, none, .mov (.t 0)⟩⟩,
    ⟨1, 0, [], 1, ⟨some 33, none, .nilc (.t 32)⟩⟩,
    ⟨2, 0, [], 3, ⟨some 34, none, .fa 1 (.t 33)⟩⟩,
    ⟨3, 0, [], 7, ⟨some 35, none, .load 1 false (.t 34)⟩⟩,
    ⟨4, 0, [], 15, ⟨some 36, none, .int .add (.t 35) (.c (.int .i64 1))⟩⟩,
    ⟨5, 0, [], 0, ⟨some 37, none, .mov (.t 0)⟩⟩,
    ⟨6, 0, [], 32, ⟨some 38, none, .nilc (.t 37)⟩⟩,
    ⟨7, 0, [], 96, ⟨some 39, none, .fa 0 (.t 38)⟩⟩,
    ⟨8, 0, [], 224, ⟨some 40, none, .load 1 false (.t 39)⟩⟩,
    ⟨9, 0, [], 480, ⟨some 41, none, .lenS (.t 40)⟩⟩,
    ⟨10, 0, [], 1023, ⟨some 42, none, .int .lss (.t 36) (.t 41)⟩⟩,
    ⟨11, 0, [], 2047, ⟨some 43, none, .mov (.t 42)⟩⟩,
    ⟨12, 0, [], 4095, ⟨some 44, some (43, true), .mov (.t 0)⟩⟩,
    ⟨13, 0, [], 8191, ⟨some 45, some (43, true), .nilc (.t 44)⟩⟩,
    ⟨14, 0, [], 16383, ⟨some 46, some (43, true), .fa 0 (.t 45)⟩⟩,
    ⟨15, 0, [], 32767, ⟨some 47, some (43, true), .load 1 false (.t 46)⟩⟩,
    ⟨16, 0, [], 4095, ⟨some 48, some (43, true), .mov (.t 0)⟩⟩,
    ⟨17, 0, [], 69631, ⟨some 49, some (43, true), .nilc (.t 48)⟩⟩,
    ⟨18, 0, [], 200703, ⟨some 50, some (43, true), .fa 1 (.t 49)⟩⟩,
    ⟨19, 0, [], 462847, ⟨some 51, some (43, true), .load 1 false (.t 50)⟩⟩,
    ⟨20, 0, [], 1048575, ⟨some 52, some (43, true), .idx (.t 47) (.t 51)⟩⟩,
    ⟨21, 0, [], 2097151, ⟨some 53, some (43, true), .int .eql (.t 52) (.c (.int .u8 92))⟩⟩,
    ⟨22, 0, [], 4194303, ⟨some 54, none, .pick (.t 43) (.t 53) (.c (.bool false))⟩⟩,
    ⟨23, 0, [], 8388607, ⟨some 55, none, .mov (.t 54)⟩⟩,
    ⟨24, 0, [], 16777215, ⟨some 56, some (55, true), .mov (.t 0)⟩⟩,
    ⟨25, 0, [], 33554431, ⟨some 57, some (55, true), .nilc (.t 56)⟩⟩,
    ⟨26, 0, [], 67108863, ⟨some 58, some (55, true), .fa 0 (.t 57)⟩⟩,
    ⟨27, 0, [], 134217727, ⟨some 59, some (55, true), .load 1 false (.t 58)⟩⟩,
    ⟨28, 0, [], 16777215, ⟨some 60, some (55, true), .mov (.t 0)⟩⟩,
    ⟨29, 0, [], 285212671, ⟨some 61, some (55, true), .nilc (.t 60)⟩⟩,
    ⟨30, 0, [], 822083583, ⟨some 62, some (55, true), .fa 1 (.t 61)⟩⟩,
    ⟨31, 0, [], 1895825407, ⟨some 63, some (55, true), .load 1 false (.t 62)⟩⟩,
    ⟨32, 0, [], 4043309055, ⟨some 64, some (55, true), .int .add (.t 63) (.c (.int .i64 1))⟩⟩,
    ⟨33, 0, [], 8589934591, ⟨some 65, some (55, true), .idx (.t 59) (.t 64)⟩⟩,
    ⟨34, 0, [], 16777215, ⟨some 66, some (55, true), .mov (.t 1)⟩⟩,
    ⟨35, 0, [], 34359738367, ⟨some 67, some (55, true), .int .eql (.t 65) (.t 66)⟩⟩,
    ⟨36, 0, [], 68719476735, ⟨some 68, none, .pick (.t 55) (.t 67) (.c (.bool false))⟩⟩,
    ⟨37, 0, [], 137438953471, ⟨some 4, none, .mov (.t 68)⟩⟩])
  .ret)))⟩

theorem c176 : chkF Go.Proofs.Tryz.prog Go.Proofs.Tryz.f176 m176 = true := by kernel_rfl

end YtjeffeobdpganaaGreatDoor
end Go.Ab
