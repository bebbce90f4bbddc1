/- The abstract machine's texts of translated functions (printed by a program), each checked against the translation. -/
import Derived.Test.YtjeffeobdpganaaGreatDoorAbK
import Derived.Test.YtjeffeobdpganaaGreatDoorProg
import Derived.KernelRfl
set_option linter.unusedSimpArgs false
set_option linter.unusedVariables false
namespace Go.Ab
namespace YtjeffeobdpganaaGreatDoor
set_option maxRecDepth 100000
open Go.Proofs
/-- paddock/sets.classes -/
def m207 : MFn := ⟨0, 46, [.tmp 0], 0,
  (.seq
  (.reg [
    ⟨some 0, none, .mov (.c (.nilm))⟩])
  (.seq
  (.reg [
    ⟨some 7, none, .call (.c (.fn 198 [])) [.c (.int .u8 65), .c (.int .u8 90)]⟩,
    ⟨some 8, none, .call (.c (.fn 198 [])) [.c (.int .u8 97), .c (.int .u8 122)]⟩,
    ⟨some 9, none, .call (.c (.fn 198 [])) [.c (.int .u8 48), .c (.int .u8 57)]⟩,
    ⟨some 1, none, .box 45 4 (.c (.agg [.int .u64 0, .int .u64 0, .int .u64 0, .int .u64 0]))⟩,
    ⟨some 2, none, .box 45 4 (.c (.agg [.int .u64 0, .int .u64 0, .int .u64 0, .int .u64 0]))⟩,
    ⟨some 3, none, .box 45 4 (.c (.agg [.int .u64 0, .int .u64 0, .int .u64 0, .int .u64 0]))⟩,
    ⟨none, none, .store 4 (.t 1) (.t 7)⟩,
    ⟨none, none, .store 4 (.t 2) (.t 8)⟩,
    ⟨none, none, .store 4 (.t 3) (.t 9)⟩])
  (.seq
  (.reg [
    ⟨some 10, none, .load 4 true (.t 1)⟩,
    ⟨some 11, none, .load 4 true (.t 2)⟩,
    ⟨some 12, none, .call (.c (.fn 199 [])) [.t 10, .t 11]⟩,
    ⟨some 4, none, .box 45 4 (.c (.agg [.int .u64 0, .int .u64 0, .int .u64 0, .int .u64 0]))⟩,
    ⟨none, none, .store 4 (.t 4) (.t 12)⟩])
  (.seq
  (.reg [
    ⟨some 13, none, .load 4 true (.t 4)⟩,
    ⟨some 14, none, .load 4 true (.t 3)⟩,
    ⟨some 15, none, .call (.c (.fn 199 [])) [.t 13, .t 14]⟩,
    ⟨some 5, none, .box 45 4 (.c (.agg [.int .u64 0, .int .u64 0, .int .u64 0, .int .u64 0]))⟩,
    ⟨none, none, .store 4 (.t 5) (.t 15)⟩])
  (.seq
  (.reg [
    ⟨some 16, none, .call (.c (.fn 198 [])) [.c (.int .u8 33), .c (.int .u8 126)]⟩,
    ⟨some 6, none, .box 45 4 (.c (.agg [.int .u64 0, .int .u64 0, .int .u64 0, .int .u64 0]))⟩,
    ⟨none, none, .store 4 (.t 6) (.t 16)⟩])
  (.seq
  (.dreg [
    ⟨1, 0, [], 0, ⟨some 18, none, .load 4 true (.t 1)⟩⟩,
    ⟨3, 0, [], 0, ⟨some 19, none, .load 4 true (.t 2)⟩⟩,
    ⟨5, 0, [], 0, ⟨some 20, none, .load 4 true (.t 4)⟩⟩,
    ⟨7, 0, [], 0, ⟨some 21, none, .load 4 true (.t 3)⟩⟩,
    ⟨9, 0, [], 0, ⟨some 22, none, .load 4 true (.t 5)⟩⟩,
    ⟨11, 0, [], 0, ⟨some 23, none, .load 4 true (.t 3)⟩⟩,
    ⟨17, 0, [], 0, ⟨some 28, none, .bslice [.int .u8 0] 2 [(0, .c (.int .u8 32)), (1, .c (.int .u8 9))]⟩⟩,
    ⟨18, 0, [], 131072, ⟨some 29, none, .lit (.t 28)⟩⟩,
    ⟨22, 0, [], 0, ⟨some 32, none, .bslice [.int .u8 0] 1 [(0, .c (.int .u8 32))]⟩⟩,
    ⟨27, 0, [], 0, ⟨some 36, none, .bslice [.int .u8 0] 1 [(0, .c (.int .u8 127))]⟩⟩,
    ⟨33, 0, [], 0, ⟨some 40, none, .load 4 true (.t 6)⟩⟩,
    ⟨35, 0, [], 0, ⟨some 41, none, .load 4 true (.t 6)⟩⟩,
    ⟨36, 0, [], 0, ⟨some 42, none, .load 4 true (.t 5)⟩⟩,
    ⟨12, 1, [0, 1, 2, 3, 4, 5, 6, 7, 8, 9, 10, 11, 12], 0, ⟨some 24, none, .call (.c (.fn 198 [])) [.c (.int .u8 65), .c (.int .u8 70)]⟩⟩,
    ⟨13, 1, [0, 1, 2, 3, 4, 5, 6, 7, 8, 9, 10, 11, 12], 4096, ⟨some 25, none, .call (.c (.fn 198 [])) [.c (.int .u8 97), .c (.int .u8 102)]⟩⟩,
    ⟨14, 1, [0, 1, 2, 3, 4, 5, 6, 7, 8, 9, 10, 11, 12], 12288, ⟨some 26, none, .call (.c (.fn 199 [])) [.t 24, .t 25]⟩⟩,
    ⟨15, 1, [0, 1, 2, 3, 4, 6, 7, 8, 9, 10, 11, 12], 30720, ⟨some 27, none, .call (.c (.fn 199 [])) [.t 23, .t 26]⟩⟩,
    ⟨19, 1, [0, 1, 2, 3, 4, 8, 9, 10, 11, 12], 456704, ⟨some 30, none, .call (.c (.fn 194 [])) [.t 29]⟩⟩,
    ⟨21, 1, [0, 1, 2, 3, 4, 8, 9, 10, 11, 12], 980992, ⟨some 31, none, .call (.c (.fn 198 [])) [.c (.int .u8 9), .c (.int .u8 13)]⟩⟩,
    ⟨23, 1, [0, 1, 2, 3, 4, 9, 10, 11, 12], 7272448, ⟨some 33, none, .call (.c (.fn 194 [])) [.t 32]⟩⟩,
    ⟨24, 1, [0, 1, 2, 3, 4, 9, 10, 11, 12], 15661056, ⟨some 34, none, .call (.c (.fn 199 [])) [.t 31, .t 33]⟩⟩,
    ⟨26, 1, [0, 1, 2, 3, 4, 9, 10, 11, 12], 32438272, ⟨some 35, none, .call (.c (.fn 198 [])) [.c (.int .u8 0), .c (.int .u8 31)]⟩⟩,
    ⟨28, 1, [0, 1, 2, 3, 4, 10, 11, 12], 233764864, ⟨some 37, none, .call (.c (.fn 194 [])) [.t 36]⟩⟩,
    ⟨29, 1, [0, 1, 2, 3, 4, 10, 11, 12], 502200320, ⟨some 38, none, .call (.c (.fn 199 [])) [.t 35, .t 37]⟩⟩,
    ⟨31, 1, [0, 1, 2, 3, 4, 10, 11, 12], 1039071232, ⟨some 39, none, .call (.c (.fn 198 [])) [.c (.int .u8 32), .c (.int .u8 126)]⟩⟩,
    ⟨37, 1, [0, 1, 2, 3, 4, 10, 11], 71906031616, ⟨some 43, none, .call (.c (.fn 192 [])) [.t 42]⟩⟩,
    ⟨38, 1, [0, 1, 2, 3, 4, 10], 243704723456, ⟨some 44, none, .call (.c (.fn 208 [])) [.t 41, .t 43]⟩⟩,
    ⟨0, 3, [0, 1, 2, 3, 4, 5, 6, 7, 8, 9, 10, 11, 12], 0, ⟨some 17, none, .mkml true [(.str [117, 112, 112, 101, 114], 18), (.str [108, 111, 119, 101, 114], 19), (.str [97, 108, 112, 104, 97], 20), (.str [100, 105, 103, 105, 116], 21), (.str [97, 108, 110, 117, 109], 22), (.str [120, 100, 105, 103, 105, 116], 27), (.str [98, 108, 97, 110, 107], 30), (.str [115, 112, 97, 99, 101], 34), (.str [99, 110, 116, 114, 108], 38), (.str [112, 114, 105, 110, 116], 39), (.str [103, 114, 97, 112, 104], 40), (.str [112, 117, 110, 99, 116], 44)]⟩⟩,
    ⟨2, 4, [], 3, ⟨none, none, .nop 0⟩⟩,
    ⟨4, 4, [], 9, ⟨none, none, .nop 1⟩⟩,
    ⟨6, 4, [], 33, ⟨none, none, .nop 2⟩⟩,
    ⟨8, 4, [], 129, ⟨none, none, .nop 3⟩⟩,
    ⟨10, 4, [], 513, ⟨none, none, .nop 4⟩⟩,
    ⟨16, 4, [], 63489, ⟨none, none, .nop 5⟩⟩,
    ⟨20, 4, [], 980993, ⟨none, none, .nop 6⟩⟩,
    ⟨25, 4, [], 32438273, ⟨none, none, .nop 7⟩⟩,
    ⟨30, 4, [], 1039071233, ⟨none, none, .nop 8⟩⟩,
    ⟨32, 4, [], 3186554881, ⟨none, none, .nop 9⟩⟩,
    ⟨34, 4, [], 8589934593, ⟨none, none, .nop 10⟩⟩,
    ⟨39, 4, [], 518582630401, ⟨none, none, .nop 11⟩⟩,
    ⟨40, 0, [], 1099511627775, ⟨some 45, none, .mov (.t 17)⟩⟩,
    ⟨41, 0, [], 2199023255551, ⟨some 0, none, .mov (.t 45)⟩⟩])
  .ret))))))⟩

theorem c207 : chkF Go.Proofs.Tryz.prog Go.Proofs.Tryz.f207 m207 = true := by kernel_rfl

/-- paddock/sets.And -/
def m208 : MFn := ⟨2, 19, [.cell 4 4 true], 0,
  (.seq
  (.reg [
    ⟨some 2, none, .box 45 4 (.t 0)⟩,
    ⟨some 3, none, .box 45 4 (.t 1)⟩,
    ⟨some 4, none, .box 45 4 (.c (.agg [.int .u64 0, .int .u64 0, .int .u64 0, .int .u64 0]))⟩])
  (.seq
  (.seq
  (.reg [
    ⟨some 6, none, .mov (.c (.int .i64 0))⟩])
  (.block 0
    (.loop
      (.seq
      (.reg [
        ⟨some 7, none, .int .lss (.t 6) (.c (.int .i64 4))⟩])
      (.seq
      (.cond (.t 7)
        .skip
        (.exit 0))
      (.seq
      (.block 1
        (.seq
        (.reg [
          ⟨some 8, none, .mov (.t 6)⟩,
          ⟨some 5, none, .mov (.t 8)⟩])
        (.dreg [
          ⟨0, 0, [], 0, ⟨some 9, none, .mov (.t 5)⟩⟩,
          ⟨1, 0, [], 1, ⟨some 10, none, .iaa 1 4 (.t 2) (.t 9)⟩⟩,
          ⟨2, 0, [], 3, ⟨some 11, none, .load 1 false (.t 10)⟩⟩,
          ⟨3, 0, [], 0, ⟨some 12, none, .mov (.t 5)⟩⟩,
          ⟨4, 0, [], 8, ⟨some 13, none, .iaa 1 4 (.t 3) (.t 12)⟩⟩,
          ⟨5, 0, [], 24, ⟨some 14, none, .load 1 false (.t 13)⟩⟩,
          ⟨6, 0, [], 63, ⟨some 15, none, .int .and (.t 11) (.t 14)⟩⟩,
          ⟨7, 0, [], 127, ⟨some 16, none, .iaa 1 4 (.t 2) (.t 9)⟩⟩,
          ⟨8, 1, [], 255, ⟨none, none, .store 1 (.t 16) (.t 15)⟩⟩])))
      (.reg [
        ⟨some 17, none, .int .add (.t 6) (.c (.int .i64 1))⟩,
        ⟨some 6, none, .mov (.t 17)⟩])))))))
  (.seq
  (.reg [
    ⟨some 18, none, .load 4 true (.t 2)⟩,
    ⟨none, none, .store 4 (.t 4) (.t 18)⟩])
  .ret)))⟩

theorem c208 : chkF Go.Proofs.Tryz.prog Go.Proofs.Tryz.f208 m208 = true := by kernel_rfl

/-- paddock/script.Parse -/
def d8 : DFn := ⟨2, 90, [.cell 4 3 true, .cell 5 1 false, .cell 6 2 true], 0,
  (.reg [
    ⟨some 4, none, .box 33 3 (.c (.agg [.vs true [], .bool false, .bool false]))⟩,
    ⟨some 5, none, .box 34 1 (.c (.int .i64 0))⟩,
    ⟨some 6, none, .box 36 2 (.c (.agg [.int .i64 0, .int .i64 0]))⟩]),
  (.seq
  (.reg [
    ⟨some 11, none, .mov (.t 0)⟩,
    ⟨some 12, none, .lenS (.t 11)⟩,
    ⟨some 13, none, .int .gtr (.t 12) (.c (.int .i64 65536))⟩])
  (.cond (.t 13)
    (.seq
    (.reg [
      ⟨some 14, none, .build [.vs true [], .bool false, .bool false] []⟩,
      ⟨some 15, none, .build [.int .i64 0, .int .i64 0] []⟩,
      ⟨none, none, .store 3 (.t 4) (.t 14)⟩,
      ⟨none, none, .store 1 (.t 5) (.c (.int .i64 4))⟩,
      ⟨none, none, .store 2 (.t 6) (.t 15)⟩])
    .ret)
    .skip)),
  16, [.t 4, .t 5, .t 6],
  (.seq
  (.reg [
    ⟨some 17, none, .mov (.t 0)⟩,
    ⟨some 18, none, .mov (.t 1)⟩,
    ⟨some 19, none, .call (.c (.fn 16 [])) []⟩,
    ⟨some 20, none, .build [.str [], .int .i64 0, .bool false, .vs true [], .int .i64 0, .nilm] [(0, 1, .t 17), (2, 1, .t 18), (5, 1, .t 19)]⟩,
    ⟨some 21, none, .box 71 6 (.t 20)⟩,
    ⟨some 7, none, .mov (.t 21)⟩])
  (.seq
  (.block 0
    (.loop
      (.seq
      (.seq
      (.reg [
        ⟨some 22, none, .mov (.t 7)⟩,
        ⟨some 23, none, .nilc (.t 22)⟩,
        ⟨some 24, none, .fa 1 (.t 23)⟩,
        ⟨some 25, none, .load 1 false (.t 24)⟩,
        ⟨some 26, none, .mov (.t 0)⟩,
        ⟨some 27, none, .lenS (.t 26)⟩,
        ⟨some 28, none, .int .lss (.t 25) (.t 27)⟩])
      (.cond (.t 28)
        .skip
        (.exit 0)))
      (.block 1
        (.seq
        (.reg [
          ⟨some 29, none, .mov (.t 7)⟩,
          ⟨some 30, none, .call (.c (.fn 17 [])) [.t 29]⟩,
          ⟨some 8, none, .mov (.t 30)⟩])
        (.block 2
          (.seq
          (.reg [
            ⟨some 34, none, .mov (.t 8)⟩,
            ⟨some 35, none, .call (.c (.fn 18 [])) [.t 34]⟩,
            ⟨some 36, none, .mov (.t 35)⟩,
            ⟨some 37, some (36, false), .mov (.t 8)⟩,
            ⟨some 38, some (36, false), .int .eql (.t 37) (.c (.int .i64 10))⟩,
            ⟨some 39, none, .pick (.t 36) (.c (.bool true)) (.t 38)⟩,
            ⟨some 40, none, .mov (.t 39)⟩,
            ⟨some 41, some (40, false), .mov (.t 8)⟩,
            ⟨some 42, some (40, false), .int .eql (.t 41) (.c (.int .i64 59))⟩,
            ⟨some 43, none, .pick (.t 40) (.c (.bool true)) (.t 42)⟩,
            ⟨some 33, none, .mov (.t 43)⟩])
          (.cond (.t 33)
            (.reg [
              ⟨some 44, none, .mov (.t 7)⟩,
              ⟨some 45, none, .nilc (.t 44)⟩,
              ⟨some 46, none, .fa 1 (.t 45)⟩,
              ⟨some 47, none, .load 1 false (.t 46)⟩,
              ⟨some 48, none, .int .add (.t 47) (.c (.int .i64 1))⟩,
              ⟨some 49, none, .nilc (.t 44)⟩,
              ⟨some 50, none, .fa 1 (.t 49)⟩,
              ⟨none, none, .store 1 (.t 50) (.t 48)⟩])
            (.seq
            (.reg [
              ⟨some 52, none, .mov (.t 8)⟩,
              ⟨some 53, none, .int .eql (.t 52) (.c (.int .i64 35))⟩,
              ⟨some 51, none, .mov (.t 53)⟩])
            (.cond (.t 51)
              (.reg [
                ⟨some 54, none, .mov (.t 7)⟩,
                ⟨some 55, none, .call (.c (.fn 19 [])) [.t 54, .c (.str [])]⟩])
              (.reg [
                ⟨some 31, none, .mov (.t 7)⟩,
                ⟨some 32, none, .call (.c (.fn 20 [])) [.t 31]⟩])))))))))))
  (.seq
  (.seq
  (.reg [
    ⟨some 57, none, .mov (.t 7)⟩,
    ⟨some 58, none, .nilc (.t 57)⟩,
    ⟨some 59, none, .fa 3 (.t 58)⟩,
    ⟨some 60, none, .load 1 false (.t 59)⟩,
    ⟨some 61, none, .call (.c (.fn 21 [])) [.t 60]⟩,
    ⟨some 56, none, .mov (.t 61)⟩,
    ⟨some 62, none, .ext (.t 56) 0⟩,
    ⟨some 63, none, .ext (.t 56) 1⟩,
    ⟨some 9, none, .mov (.t 62)⟩,
    ⟨some 10, none, .mov (.t 63)⟩])
  (.seq
  (.reg [
    ⟨some 64, none, .mov (.t 9)⟩,
    ⟨some 65, none, .int .gtr (.t 64) (.c (.int .i64 0))⟩])
  (.cond (.t 65)
    (.reg [
      ⟨some 66, none, .mov (.t 7)⟩,
      ⟨some 67, none, .mov (.t 9)⟩,
      ⟨some 68, none, .mov (.t 7)⟩,
      ⟨some 69, none, .nilc (.t 68)⟩,
      ⟨some 70, none, .fa 3 (.t 69)⟩,
      ⟨some 71, none, .load 1 false (.t 70)⟩,
      ⟨some 72, none, .mov (.t 10)⟩,
      ⟨some 73, none, .ia 54 (.t 71) (.t 72)⟩,
      ⟨some 74, none, .fa 0 (.t 73)⟩,
      ⟨some 75, none, .load 1 false (.t 74)⟩,
      ⟨some 76, none, .call (.c (.fn 22 [])) [.t 66, .t 67, .t 75]⟩])
    .skip)))
  (.seq
  (.dreg [
    ⟨0, 0, [], 0, ⟨some 77, none, .mov (.t 7)⟩⟩,
    ⟨1, 0, [], 1, ⟨some 78, none, .nilc (.t 77)⟩⟩,
    ⟨2, 0, [], 3, ⟨some 79, none, .fa 3 (.t 78)⟩⟩,
    ⟨3, 0, [], 7, ⟨some 80, none, .load 1 false (.t 79)⟩⟩,
    ⟨4, 0, [], 0, ⟨some 81, none, .mov (.t 0)⟩⟩,
    ⟨5, 0, [], 16, ⟨some 82, none, .strb .eql (.t 81) (.c (.str [35, 110]))⟩⟩,
    ⟨6, 0, [], 48, ⟨some 83, none, .mov (.t 82)⟩⟩,
    ⟨7, 0, [], 112, ⟨some 84, some (83, false), .mov (.t 0)⟩⟩,
    ⟨10, 0, [], 0, ⟨some 87, none, .mov (.t 1)⟩⟩,
    ⟨12, 0, [], 0, ⟨some 89, none, .build [.int .i64 0, .int .i64 0] []⟩⟩,
    ⟨8, 1, [0, 1, 2, 3, 8, 9], 240, ⟨some 85, some (83, false), .call (.c (.fn 23 [])) [.t 84, .c (.str [35, 110, 10])]⟩⟩,
    ⟨9, 0, [], 496, ⟨some 86, none, .pick (.t 83) (.c (.bool true)) (.t 85)⟩⟩,
    ⟨11, 0, [], 2047, ⟨some 88, none, .build [.vs true [], .bool false, .bool false] [(0, 1, .t 80), (1, 1, .t 86), (2, 1, .t 87)]⟩⟩,
    ⟨13, 1, [9], 4095, ⟨none, none, .store 3 (.t 4) (.t 88)⟩⟩,
    ⟨14, 1, [9], 12287, ⟨none, none, .store 1 (.t 5) (.c (.int .i64 0))⟩⟩,
    ⟨15, 1, [], 32767, ⟨none, none, .store 2 (.t 6) (.t 89)⟩⟩])
  .ret)))),
  ⟨15, 3, 19, 6, [⟨some 3, none, .mov (.t 6)⟩],
    (.seq
    (.reg [
      ⟨some 7, none, .mov (.t 3)⟩,
      ⟨some 8, none, .nilb 1 true (.t 7)⟩])
    (.cond (.t 8)
      (.seq
      (.reg [
        ⟨some 10, none, .mov (.t 3)⟩,
        ⟨some 11, none, .tas 36 (.agg [.int .i64 0, .int .i64 0]) (.t 10)⟩,
        ⟨some 9, none, .mov (.t 11)⟩,
        ⟨some 12, none, .ext (.t 9) 0⟩,
        ⟨some 13, none, .ext (.t 9) 1⟩,
        ⟨some 4, none, .box 36 2 (.c (.agg [.int .i64 0, .int .i64 0]))⟩,
        ⟨none, none, .store 2 (.t 4) (.t 12)⟩,
        ⟨some 5, none, .mov (.t 13)⟩])
      (.seq
      (.seq
      (.reg [
        ⟨some 14, none, .mov (.t 5)⟩,
        ⟨some 15, none, .not (.t 14)⟩])
      (.cond (.t 15)
        (.reg [
          ⟨some 16, none, .mov (.t 3)⟩,
          ⟨none, none, .pan (.t 16)⟩])
        .skip))
      (.dreg [
        ⟨0, 0, [], 0, ⟨some 17, none, .build [.vs true [], .bool false, .bool false] []⟩⟩,
        ⟨1, 0, [], 0, ⟨some 18, none, .load 2 true (.t 4)⟩⟩,
        ⟨2, 1, [1], 1, ⟨none, none, .store 3 (.t 0) (.t 17)⟩⟩,
        ⟨3, 1, [1], 5, ⟨none, none, .store 1 (.t 1) (.c (.int .i64 130))⟩⟩,
        ⟨4, 1, [], 15, ⟨none, none, .store 2 (.t 2) (.t 18)⟩⟩])))
      .skip))⟩⟩

theorem c8 : chkDf Go.Proofs.Tryz.prog Go.Proofs.Tryz.f8 d8 = true := by kernel_rfl

/-- paddock/syntax.Parse -/
def d143 : DFn := ⟨2, 43, [.cell 4 9 true, .cell 5 1 false, .cell 6 1 false], 0,
  (.reg [
    ⟨some 4, none, .box 48 9 (.c (.agg [.int .u8 0, .int .u64 0, .int .u64 0, .int .u64 0, .int .u64 0, .int .i64 0, .int .i64 0, .int .i64 0, .vs true []]))⟩,
    ⟨some 5, none, .box 34 1 (.c (.int .i64 0))⟩,
    ⟨some 6, none, .box 3 1 (.c (.int .i64 0))⟩]),
  (.seq
  (.reg [
    ⟨some 8, none, .mov (.t 0)⟩,
    ⟨some 9, none, .lenS (.t 8)⟩,
    ⟨some 10, none, .int .gtr (.t 9) (.c (.int .i64 4096))⟩])
  (.cond (.t 10)
    (.seq
    (.reg [
      ⟨some 11, none, .build [.int .u8 0, .int .u64 0, .int .u64 0, .int .u64 0, .int .u64 0, .int .i64 0, .int .i64 0, .int .i64 0, .vs true []] []⟩,
      ⟨none, none, .store 9 (.t 4) (.t 11)⟩,
      ⟨none, none, .store 1 (.t 5) (.c (.int .i64 4))⟩,
      ⟨none, none, .store 1 (.t 6) (.c (.int .i64 0))⟩])
    .ret)
    .skip)),
  12, [.t 4, .t 5, .t 6],
  (.seq
  (.reg [
    ⟨some 13, none, .mov (.t 0)⟩,
    ⟨some 14, none, .mov (.t 1)⟩,
    ⟨some 15, none, .mkm⟩,
    ⟨some 16, none, .build [.str [], .int .i64 0, .bool false, .int .i64 0, .nilm, .int .i64 0] [(0, 1, .t 13), (2, 1, .t 14), (4, 1, .t 15)]⟩,
    ⟨some 17, none, .box 224 6 (.t 16)⟩,
    ⟨some 7, none, .mov (.t 17)⟩])
  (.seq
  (.reg [
    ⟨some 18, none, .mov (.t 7)⟩,
    ⟨some 19, none, .call (.c (.fn 160 [])) [.t 18]⟩,
    ⟨none, none, .store 9 (.t 4) (.t 19)⟩])
  (.seq
  (.seq
  (.reg [
    ⟨some 20, none, .mov (.t 7)⟩,
    ⟨some 21, none, .nilc (.t 20)⟩,
    ⟨some 22, none, .fa 1 (.t 21)⟩,
    ⟨some 23, none, .load 1 false (.t 22)⟩,
    ⟨some 24, none, .mov (.t 0)⟩,
    ⟨some 25, none, .lenS (.t 24)⟩,
    ⟨some 26, none, .int .lss (.t 23) (.t 25)⟩])
  (.cond (.t 26)
    (.seq
    (.seq
    (.reg [
      ⟨some 27, none, .mov (.t 1)⟩,
      ⟨some 28, none, .not (.t 27)⟩])
    (.cond (.t 28)
      (.reg [
        ⟨some 29, none, .mov (.t 7)⟩,
        ⟨some 30, none, .nilc (.t 29)⟩,
        ⟨some 31, none, .fa 1 (.t 30)⟩,
        ⟨some 32, none, .load 1 false (.t 31)⟩,
        ⟨some 33, none, .int .add (.t 32) (.c (.int .i64 1))⟩,
        ⟨some 34, none, .nilc (.t 29)⟩,
        ⟨some 35, none, .fa 1 (.t 34)⟩,
        ⟨none, none, .store 1 (.t 35) (.t 33)⟩])
      .skip))
    (.reg [
      ⟨some 36, none, .mov (.t 7)⟩,
      ⟨some 37, none, .mov (.t 7)⟩,
      ⟨some 38, none, .nilc (.t 37)⟩,
      ⟨some 39, none, .fa 1 (.t 38)⟩,
      ⟨some 40, none, .load 1 false (.t 39)⟩,
      ⟨some 41, none, .call (.c (.fn 161 [])) [.t 36, .c (.int .i64 80), .t 40]⟩]))
    .skip))
  (.seq
  (.reg [
    ⟨some 42, none, .load 9 true (.t 4)⟩,
    ⟨none, none, .store 9 (.t 4) (.t 42)⟩,
    ⟨none, none, .store 1 (.t 5) (.c (.int .i64 0))⟩,
    ⟨none, none, .store 1 (.t 6) (.c (.int .i64 0))⟩])
  .ret)))),
  ⟨159, 3, 22, 6, [⟨some 3, none, .mov (.t 6)⟩],
    (.seq
    (.reg [
      ⟨some 7, none, .mov (.t 3)⟩,
      ⟨some 8, none, .nilb 1 true (.t 7)⟩])
    (.cond (.t 8)
      (.seq
      (.reg [
        ⟨some 10, none, .mov (.t 3)⟩,
        ⟨some 11, none, .tas 219 (.agg [.int .i64 0, .int .i64 0]) (.t 10)⟩,
        ⟨some 9, none, .mov (.t 11)⟩,
        ⟨some 12, none, .ext (.t 9) 0⟩,
        ⟨some 13, none, .ext (.t 9) 1⟩,
        ⟨some 4, none, .box 219 2 (.c (.agg [.int .i64 0, .int .i64 0]))⟩,
        ⟨none, none, .store 2 (.t 4) (.t 12)⟩,
        ⟨some 5, none, .mov (.t 13)⟩])
      (.seq
      (.seq
      (.reg [
        ⟨some 14, none, .mov (.t 5)⟩,
        ⟨some 15, none, .not (.t 14)⟩])
      (.cond (.t 15)
        (.reg [
          ⟨some 16, none, .mov (.t 3)⟩,
          ⟨none, none, .pan (.t 16)⟩])
        .skip))
      (.dreg [
        ⟨0, 0, [], 0, ⟨some 17, none, .build [.int .u8 0, .int .u64 0, .int .u64 0, .int .u64 0, .int .u64 0, .int .i64 0, .int .i64 0, .int .i64 0, .vs true []] []⟩⟩,
        ⟨1, 0, [], 0, ⟨some 18, none, .fa 0 (.t 4)⟩⟩,
        ⟨2, 0, [], 2, ⟨some 19, none, .load 1 false (.t 18)⟩⟩,
        ⟨3, 0, [], 0, ⟨some 20, none, .fa 1 (.t 4)⟩⟩,
        ⟨4, 0, [], 8, ⟨some 21, none, .load 1 false (.t 20)⟩⟩,
        ⟨5, 1, [1, 2, 3, 4], 1, ⟨none, none, .store 9 (.t 0) (.t 17)⟩⟩,
        ⟨6, 1, [3, 4], 39, ⟨none, none, .store 1 (.t 1) (.t 19)⟩⟩,
        ⟨7, 1, [], 127, ⟨none, none, .store 1 (.t 2) (.t 21)⟩⟩])))
      .skip))⟩⟩

theorem c143 : chkDf Go.Proofs.Tryz.prog Go.Proofs.Tryz.f143 d143 = true := by kernel_rfl

end YtjeffeobdpganaaGreatDoor
end Go.Ab
