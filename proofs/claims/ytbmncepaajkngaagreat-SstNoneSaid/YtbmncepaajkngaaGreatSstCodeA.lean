/- The code of functions, their operations looked up (printed by a program of this work), and that it is so. -/
import Derived.Test.YtbmncepaajkngaaGreatProg
import Derived.Test.YtbmncepaajkngaaGreatLxTop
import Derived.KernelRfl
namespace Go.Proofs.YtbmncepaajkngaaGreat
open Go.Lx
set_option maxRecDepth 100000

-- 3: lectern/lecternlaw21.SstNone
def R3_0 : RC := .reg [⟨some 2, none, .mov (.const (.bool false))⟩]
def R3_1 : RC := .reg [⟨some 13, none, .call 6 []⟩,
    ⟨some 14, none, .un .not (.tmp 13)⟩]
def R3_2 : RC := .reg [⟨some 2, none, .mov (.const (.bool false))⟩]
def R3_3 : RC := .seq R3_2 (.ret)
def R3_4 : RC := .cond (.tmp 14) R3_3 (.skip)
def R3_5 : RC := .seq R3_1 R3_4
def R3_6 : RC := .reg [⟨some 3, none, .mov (.const (.pointer none))⟩]
def R3_7 : RC := .reg [⟨some 15, none, .mov (.tmp 3)⟩,
    ⟨some 16, none, .build [(0, 1), (1, 1), (2, 1), (3, 3), (6, 1), (7, 1), (8, 1), (9, 1), (10, 1)] #[.int .i64 0, .slice none 0 0, .pointer none, .int .i64 0, .int .i64 0, .int .i64 0, .int .i64 0, .slice none 0 0, .slice none 0 0, .slice none 0 0, .int .i64 0] []⟩,
    ⟨some 17, none, .box 36 (.tmp 16)⟩,
    ⟨some 18, none, .mkSl 24 1 2 #[.pointer none, .pointer none] [(0, (.tmp 15)), (1, (.tmp 17))]⟩,
    ⟨some 19, none, .lenS (.tmp 18)⟩,
    ⟨some 20, none, .mov (.const (.int .i64 0))⟩]
def R3_8 : RC := .reg [⟨some 21, none, .bin .lss 3 (.tmp 20) (.tmp 19)⟩]
def R3_9 : RC := .cond (.tmp 21) (.skip) (.exit 0)
def R3_10 : RC := .reg [⟨some 22, none, .ixS 1 (.tmp 18) (.tmp 20)⟩,
    ⟨some 23, none, .load1 (.tmp 22)⟩,
    ⟨some 5, none, .mov (.tmp 23)⟩]
def R3_11 : RC := .reg [⟨some 25, none, .mov (.tmp 5)⟩,
    ⟨some 26, none, .mov (.tmp 0)⟩,
    ⟨some 27, none, .call 7 [(.tmp 25), (.tmp 26)]⟩,
    ⟨some 24, none, .mov (.tmp 27)⟩,
    ⟨some 28, none, .extr (.tmp 24) 0⟩,
    ⟨some 29, none, .extr (.tmp 24) 1⟩,
    ⟨some 6, none, .mov (.tmp 28)⟩,
    ⟨some 7, none, .mov (.tmp 29)⟩]
def R3_12 : RC := .reg [⟨some 30, none, .mov (.tmp 5)⟩,
    ⟨some 31, none, .call 8 [(.tmp 30)]⟩,
    ⟨some 32, none, .bin .neq 3 (.tmp 31) (.const (.int .i64 0))⟩,
    ⟨some 33, none, .mov (.tmp 32)⟩,
    ⟨some 34, some (33, false), .mov (.tmp 5)⟩,
    ⟨some 35, some (33, false), .call 9 [(.tmp 34)]⟩,
    ⟨some 36, some (33, false), .bin .neq 3 (.tmp 35) (.const (.int .i64 0))⟩,
    ⟨some 37, none, .pick (.tmp 33) (.const (.bool true)) (.tmp 36)⟩,
    ⟨some 38, none, .mov (.tmp 37)⟩,
    ⟨some 39, some (38, false), .mov (.tmp 5)⟩,
    ⟨some 40, some (38, false), .call 10 [(.tmp 39)]⟩,
    ⟨some 41, some (38, false), .lenS (.tmp 40)⟩,
    ⟨some 42, some (38, false), .bin .neq 3 (.tmp 41) (.const (.int .i64 0))⟩,
    ⟨some 43, none, .pick (.tmp 38) (.const (.bool true)) (.tmp 42)⟩,
    ⟨some 44, none, .mov (.tmp 43)⟩,
    ⟨some 45, some (44, false), .mov (.tmp 5)⟩,
    ⟨some 46, some (44, false), .call 11 [(.tmp 45)]⟩,
    ⟨some 47, some (44, false), .lenS (.tmp 46)⟩,
    ⟨some 48, some (44, false), .bin .neq 3 (.tmp 47) (.const (.int .i64 0))⟩,
    ⟨some 49, none, .pick (.tmp 44) (.const (.bool true)) (.tmp 48)⟩,
    ⟨some 50, none, .mov (.tmp 49)⟩,
    ⟨some 51, some (50, false), .mov (.tmp 7)⟩,
    ⟨some 52, none, .pick (.tmp 50) (.const (.bool true)) (.tmp 51)⟩,
    ⟨some 53, none, .mov (.tmp 52)⟩,
    ⟨some 54, some (53, false), .mov (.tmp 5)⟩,
    ⟨some 55, some (53, false), .mov (.tmp 0)⟩,
    ⟨some 56, some (53, false), .call 12 [(.tmp 54), (.tmp 55)]⟩,
    ⟨some 57, none, .pick (.tmp 53) (.const (.bool true)) (.tmp 56)⟩,
    ⟨some 58, none, .mov (.tmp 57)⟩,
    ⟨some 59, some (58, false), .mov (.tmp 5)⟩,
    ⟨some 60, some (58, false), .call 13 [(.tmp 59)]⟩,
    ⟨some 61, some (58, false), .bin .neq 3 (.tmp 60) (.const (.int .i64 0))⟩,
    ⟨some 62, none, .pick (.tmp 58) (.const (.bool true)) (.tmp 61)⟩,
    ⟨some 63, none, .mov (.tmp 62)⟩,
    ⟨some 64, some (63, false), .mov (.tmp 5)⟩,
    ⟨some 65, some (63, false), .call 14 [(.tmp 64)]⟩,
    ⟨some 66, some (63, false), .lenS (.tmp 65)⟩,
    ⟨some 67, some (63, false), .bin .neq 3 (.tmp 66) (.const (.int .i64 0))⟩,
    ⟨some 68, none, .pick (.tmp 63) (.const (.bool true)) (.tmp 67)⟩,
    ⟨some 69, none, .mov (.tmp 68)⟩,
    ⟨some 70, some (69, false), .mov (.tmp 5)⟩,
    ⟨some 71, some (69, false), .call 15 [(.tmp 70)]⟩,
    ⟨some 72, some (69, false), .eqP true (.tmp 71) (.const (.pointer none))⟩,
    ⟨some 73, none, .pick (.tmp 69) (.const (.bool true)) (.tmp 72)⟩]
def R3_13 : RC := .reg [⟨some 2, none, .mov (.const (.bool false))⟩]
def R3_14 : RC := .seq R3_13 (.ret)
def R3_15 : RC := .cond (.tmp 73) R3_14 (.skip)
def R3_16 : RC := .seq R3_12 R3_15
def R3_17 : RC := .seq R3_11 R3_16
def R3_18 : RC := .seq R3_10 R3_17
def R3_19 : RC := .block 1 R3_18
def R3_20 : RC := .reg [⟨some 74, none, .bin .add 3 (.tmp 20) (.const (.int .i64 1))⟩,
    ⟨some 20, none, .mov (.tmp 74)⟩]
def R3_21 : RC := .seq R3_19 R3_20
def R3_22 : RC := .seq R3_9 R3_21
def R3_23 : RC := .seq R3_8 R3_22
def R3_24 : RC := .loop R3_23
def R3_25 : RC := .block 0 R3_24
def R3_26 : RC := .seq R3_7 R3_25
def R3_27 : RC := .reg [⟨some 8, none, .mov (.const (.pointer none))⟩]
def R3_28 : RC := .reg [⟨some 75, none, .mov (.tmp 8)⟩,
    ⟨some 76, none, .build [(0, 1), (1, 1), (2, 1), (3, 1), (4, 1)] #[.pointer none, .int .i64 0, .int .i64 0, .int .i64 0, .slice none 0 0] []⟩,
    ⟨some 77, none, .box 48 (.tmp 76)⟩,
    ⟨some 78, none, .mkSl 45 1 2 #[.pointer none, .pointer none] [(0, (.tmp 75)), (1, (.tmp 77))]⟩,
    ⟨some 79, none, .lenS (.tmp 78)⟩,
    ⟨some 80, none, .mov (.const (.int .i64 0))⟩]
def R3_29 : RC := .reg [⟨some 81, none, .bin .lss 3 (.tmp 80) (.tmp 79)⟩]
def R3_30 : RC := .cond (.tmp 81) (.skip) (.exit 2)
def R3_31 : RC := .reg [⟨some 82, none, .ixS 1 (.tmp 78) (.tmp 80)⟩,
    ⟨some 83, none, .load1 (.tmp 82)⟩,
    ⟨some 10, none, .mov (.tmp 83)⟩]
def R3_32 : RC := .reg [⟨some 85, none, .mov (.tmp 10)⟩,
    ⟨some 86, none, .call 16 [(.tmp 85)]⟩,
    ⟨some 84, none, .mov (.tmp 86)⟩,
    ⟨some 87, none, .extr (.tmp 84) 0⟩,
    ⟨some 88, none, .extr (.tmp 84) 1⟩,
    ⟨some 11, none, .newv 51 (.agg #[.slice none 0 0, .slice none 0 0])⟩,
    ⟨none, none, .store 2 (.tmp 11) (.tmp 87)⟩,
    ⟨some 12, none, .mov (.tmp 88)⟩]
def R3_33 : RC := .reg [⟨some 89, none, .mov (.tmp 10)⟩,
    ⟨some 90, none, .call 17 [(.tmp 89)]⟩,
    ⟨some 91, none, .mov (.tmp 90)⟩,
    ⟨some 92, some (91, false), .mov (.tmp 10)⟩,
    ⟨some 93, some (91, false), .call 18 [(.tmp 92)]⟩,
    ⟨some 94, none, .pick (.tmp 91) (.const (.bool true)) (.tmp 93)⟩,
    ⟨some 95, none, .mov (.tmp 94)⟩,
    ⟨some 96, some (95, false), .mov (.tmp 10)⟩,
    ⟨some 97, some (95, false), .mov (.tmp 0)⟩,
    ⟨some 98, some (95, false), .call 19 [(.tmp 96), (.tmp 97)]⟩,
    ⟨some 99, none, .pick (.tmp 95) (.const (.bool true)) (.tmp 98)⟩,
    ⟨some 100, none, .mov (.tmp 99)⟩,
    ⟨some 101, some (100, false), .mov (.tmp 12)⟩,
    ⟨some 102, none, .pick (.tmp 100) (.const (.bool true)) (.tmp 101)⟩]
def R3_34 : RC := .reg [⟨some 2, none, .mov (.const (.bool false))⟩]
def R3_35 : RC := .seq R3_34 (.ret)
def R3_36 : RC := .cond (.tmp 102) R3_35 (.skip)
def R3_37 : RC := .seq R3_33 R3_36
def R3_38 : RC := .seq R3_32 R3_37
def R3_39 : RC := .seq R3_31 R3_38
def R3_40 : RC := .block 3 R3_39
def R3_41 : RC := .reg [⟨some 103, none, .bin .add 3 (.tmp 80) (.const (.int .i64 1))⟩,
    ⟨some 80, none, .mov (.tmp 103)⟩]
def R3_42 : RC := .seq R3_40 R3_41
def R3_43 : RC := .seq R3_30 R3_42
def R3_44 : RC := .seq R3_29 R3_43
def R3_45 : RC := .loop R3_44
def R3_46 : RC := .block 2 R3_45
def R3_47 : RC := .seq R3_28 R3_46
def R3_48 : RC := .reg [⟨some 2, none, .mov (.const (.bool true))⟩]
def R3_49 : RC := .seq R3_48 (.ret)
def R3_50 : RC := .seq R3_47 R3_49
def R3_51 : RC := .seq R3_27 R3_50
def R3_52 : RC := .seq R3_26 R3_51
def R3_53 : RC := .seq R3_6 R3_52
def R3_54 : RC := .seq R3_5 R3_53
def R3_55 : RC := .seq R3_0 R3_54

theorem fn3 : FnOK Tryz.prog 3 ⟨R3_55, [.tmp 2], 104⟩ :=
  ⟨Tryz.f3, Tryz.f3.body.getD .skip, Tryz.func3, by kernel_rfl, by kernel_rfl, by kernel_rfl, by kernel_rfl, by kernel_rfl⟩
-- 6: lectern/lecternlaw21.awake
def R6_0 : RC := .reg [⟨some 0, none, .mov (.const (.bool false))⟩]
def R6_1 : RC := .reg [⟨some 12, none, .build [(0, 1), (1, 1), (2, 1)] #[.int .i64 0, .int .i64 0, .int .i64 0] [(0, (.const (.int .i64 64))), (1, (.const (.int .i64 4))), (2, (.const (.int .i64 10)))]⟩,
    ⟨some 13, none, .call 34 [(.const (.slice none 0 0)), (.tmp 12)]⟩,
    ⟨some 11, none, .mov (.tmp 13)⟩,
    ⟨some 14, none, .extr (.tmp 11) 0⟩,
    ⟨some 15, none, .extr (.tmp 11) 1⟩,
    ⟨some 1, none, .mov (.tmp 14)⟩,
    ⟨some 2, none, .mov (.tmp 15)⟩]
def R6_2 : RC := .reg [⟨some 17, none, .mkSl 5 1 1 #[.int .u8 0] [(0, (.const (.int .u8 115)))]⟩,
    ⟨some 18, none, .cvMark (.tmp 17)⟩,
    ⟨some 19, none, .build [(0, 1), (1, 1), (2, 1), (3, 1), (4, 1)] #[.int .i64 0, .slice none 0 0, .int .i64 0, .int .i64 0, .string ⟨#[]⟩] [(0, (.const (.int .i64 1))), (1, (.tmp 18)), (2, (.const (.int .i64 1))), (3, (.const (.int .i64 1))), (4, (.const (.string ⟨#[116]⟩)))]⟩,
    ⟨some 20, none, .call 35 [(.tmp 19)]⟩,
    ⟨some 16, none, .mov (.tmp 20)⟩,
    ⟨some 21, none, .extr (.tmp 16) 0⟩,
    ⟨some 22, none, .extr (.tmp 16) 1⟩,
    ⟨some 3, none, .mov (.tmp 21)⟩,
    ⟨some 4, none, .mov (.tmp 22)⟩]
def R6_3 : RC := .reg [⟨some 24, none, .mov (.tmp 3)⟩,
    ⟨some 25, none, .mkSl 5 1 1 #[.int .u8 0] [(0, (.const (.int .u8 118)))]⟩,
    ⟨some 26, none, .cvMark (.tmp 25)⟩,
    ⟨some 27, none, .build [(0, 1), (1, 1)] #[.slice none 0 0, .slice none 0 0] [(0, (.tmp 24)), (1, (.tmp 26))]⟩,
    ⟨some 28, none, .mkSl 51 2 1 #[.slice none 0 0, .slice none 0 0] [(0, (.tmp 27))]⟩,
    ⟨some 29, none, .build [(0, 1), (1, 1), (2, 1)] #[.int .i64 0, .int .i64 0, .int .i64 0] [(0, (.const (.int .i64 64))), (1, (.const (.int .i64 4))), (2, (.const (.int .i64 10)))]⟩,
    ⟨some 30, none, .call 34 [(.tmp 28), (.tmp 29)]⟩,
    ⟨some 23, none, .mov (.tmp 30)⟩,
    ⟨some 31, none, .extr (.tmp 23) 0⟩,
    ⟨some 32, none, .extr (.tmp 23) 1⟩,
    ⟨some 5, none, .mov (.tmp 31)⟩,
    ⟨some 6, none, .mov (.tmp 32)⟩]
def R6_4 : RC := .reg [⟨some 34, none, .mov (.tmp 5)⟩,
    ⟨some 35, none, .call 36 [(.tmp 34)]⟩,
    ⟨some 33, none, .mov (.tmp 35)⟩,
    ⟨some 36, none, .extr (.tmp 33) 0⟩,
    ⟨some 37, none, .extr (.tmp 33) 1⟩,
    ⟨some 7, none, .mov (.tmp 36)⟩,
    ⟨some 8, none, .mov (.tmp 37)⟩]
def R6_5 : RC := .reg [⟨some 38, none, .mov (.tmp 2)⟩,
    ⟨some 39, none, .bin .neq 59 (.tmp 38) (.const (.int .i64 0))⟩,
    ⟨some 40, none, .mov (.tmp 39)⟩,
    ⟨some 41, some (40, false), .mov (.tmp 1)⟩,
    ⟨some 42, some (40, false), .lenS (.tmp 41)⟩,
    ⟨some 43, some (40, false), .bin .neq 3 (.tmp 42) (.const (.int .i64 71))⟩,
    ⟨some 44, none, .pick (.tmp 40) (.const (.bool true)) (.tmp 43)⟩,
    ⟨some 45, none, .mov (.tmp 44)⟩,
    ⟨some 46, some (45, false), .mov (.tmp 6)⟩,
    ⟨some 47, some (45, false), .bin .neq 59 (.tmp 46) (.const (.int .i64 0))⟩,
    ⟨some 48, none, .pick (.tmp 45) (.const (.bool true)) (.tmp 47)⟩,
    ⟨some 49, none, .mov (.tmp 48)⟩,
    ⟨some 50, some (49, false), .mov (.tmp 8)⟩,
    ⟨some 51, some (49, false), .bin .neq 59 (.tmp 50) (.const (.int .i64 0))⟩,
    ⟨some 52, none, .pick (.tmp 49) (.const (.bool true)) (.tmp 51)⟩,
    ⟨some 53, none, .mov (.tmp 52)⟩,
    ⟨some 54, some (53, false), .mov (.tmp 7)⟩,
    ⟨some 55, some (53, false), .eqP false (.tmp 54) (.const (.pointer none))⟩,
    ⟨some 56, none, .pick (.tmp 53) (.const (.bool true)) (.tmp 55)⟩]
def R6_6 : RC := .reg [⟨some 0, none, .mov (.const (.bool false))⟩]
def R6_7 : RC := .seq R6_6 (.ret)
def R6_8 : RC := .cond (.tmp 56) R6_7 (.skip)
def R6_9 : RC := .seq R6_5 R6_8
def R6_10 : RC := .reg [⟨some 58, none, .mov (.tmp 7)⟩,
    ⟨some 59, none, .mov (.tmp 3)⟩,
    ⟨some 60, none, .call 7 [(.tmp 58), (.tmp 59)]⟩,
    ⟨some 57, none, .mov (.tmp 60)⟩,
    ⟨some 61, none, .extr (.tmp 57) 0⟩,
    ⟨some 62, none, .extr (.tmp 57) 1⟩,
    ⟨some 9, none, .mov (.tmp 61)⟩,
    ⟨some 10, none, .mov (.tmp 62)⟩]
def R6_11 : RC := .reg [⟨some 63, none, .mov (.tmp 10)⟩,
    ⟨some 64, none, .mov (.tmp 63)⟩,
    ⟨some 65, some (64, true), .mov (.tmp 9)⟩,
    ⟨some 66, some (64, true), .cvB2S (.tmp 65)⟩,
    ⟨some 67, some (64, true), .bin .eql 9 (.tmp 66) (.const (.string ⟨#[118]⟩))⟩,
    ⟨some 68, none, .pick (.tmp 64) (.tmp 67) (.const (.bool false))⟩,
    ⟨some 69, none, .mov (.tmp 68)⟩,
    ⟨some 70, some (69, true), .mov (.tmp 7)⟩,
    ⟨some 71, some (69, true), .call 8 [(.tmp 70)]⟩,
    ⟨some 72, some (69, true), .bin .eql 3 (.tmp 71) (.const (.int .i64 1))⟩,
    ⟨some 73, none, .pick (.tmp 69) (.tmp 72) (.const (.bool false))⟩,
    ⟨some 74, none, .mov (.tmp 73)⟩,
    ⟨some 75, some (74, true), .mov (.tmp 7)⟩,
    ⟨some 76, some (74, true), .call 9 [(.tmp 75)]⟩,
    ⟨some 77, some (74, true), .bin .eql 3 (.tmp 76) (.const (.int .i64 1))⟩,
    ⟨some 78, none, .pick (.tmp 74) (.tmp 77) (.const (.bool false))⟩,
    ⟨some 0, none, .mov (.tmp 78)⟩]
def R6_12 : RC := .seq R6_11 (.ret)
def R6_13 : RC := .seq R6_10 R6_12
def R6_14 : RC := .seq R6_9 R6_13
def R6_15 : RC := .seq R6_4 R6_14
def R6_16 : RC := .seq R6_3 R6_15
def R6_17 : RC := .seq R6_2 R6_16
def R6_18 : RC := .seq R6_1 R6_17
def R6_19 : RC := .seq R6_0 R6_18

theorem fn6 : FnOK Tryz.prog 6 ⟨R6_19, [.tmp 0], 79⟩ :=
  ⟨Tryz.f6, Tryz.f6.body.getD .skip, Tryz.func6, by kernel_rfl, by kernel_rfl, by kernel_rfl, by kernel_rfl, by kernel_rfl⟩
-- 7: (*lectern/sst.Table).Get
def R7_0 : RC := .reg [⟨some 4, none, .mov (.const (.slice none 0 0))⟩,
    ⟨some 5, none, .mov (.const (.bool false))⟩]
def R7_1 : RC := .reg [⟨some 10, none, .mov (.tmp 0)⟩,
    ⟨some 11, none, .call 37 [(.tmp 10)]⟩,
    ⟨some 12, none, .un .not (.tmp 11)⟩]
def R7_2 : RC := .reg [⟨some 4, none, .mov (.const (.slice none 0 0))⟩,
    ⟨some 5, none, .mov (.const (.bool false))⟩]
def R7_3 : RC := .seq R7_2 (.ret)
def R7_4 : RC := .cond (.tmp 12) R7_3 (.skip)
def R7_5 : RC := .seq R7_1 R7_4
def R7_6 : RC := .reg [⟨some 13, none, .mov (.tmp 0)⟩,
    ⟨some 14, none, .mov (.tmp 1)⟩,
    ⟨some 15, none, .call 38 [(.tmp 13), (.tmp 14)]⟩,
    ⟨some 6, none, .mov (.tmp 15)⟩]
def R7_7 : RC := .reg [⟨some 16, none, .mov (.tmp 6)⟩,
    ⟨some 17, none, .mov (.tmp 0)⟩,
    ⟨some 18, none, .nilck (.tmp 17)⟩,
    ⟨some 19, none, .faddr 9 (.tmp 18)⟩,
    ⟨some 20, none, .load1 (.tmp 19)⟩,
    ⟨some 21, none, .lenS (.tmp 20)⟩,
    ⟨some 22, none, .bin .eql 3 (.tmp 16) (.tmp 21)⟩]
def R7_8 : RC := .reg [⟨some 4, none, .mov (.const (.slice none 0 0))⟩,
    ⟨some 5, none, .mov (.const (.bool false))⟩]
def R7_9 : RC := .seq R7_8 (.ret)
def R7_10 : RC := .cond (.tmp 22) R7_9 (.skip)
def R7_11 : RC := .seq R7_7 R7_10
def R7_12 : RC := .reg [⟨some 23, none, .mov (.tmp 0)⟩,
    ⟨some 24, none, .mov (.tmp 6)⟩,
    ⟨some 25, none, .call 39 [(.tmp 23), (.tmp 24)]⟩,
    ⟨some 7, none, .mov (.tmp 25)⟩]
def R7_13 : RC := .reg [⟨some 27, none, .mov (.tmp 7)⟩,
    ⟨some 28, none, .mov (.tmp 1)⟩,
    ⟨some 29, none, .call 40 [(.tmp 27), (.tmp 28)]⟩,
    ⟨some 26, none, .mov (.tmp 29)⟩,
    ⟨some 30, none, .extr (.tmp 26) 0⟩,
    ⟨some 31, none, .extr (.tmp 26) 1⟩,
    ⟨some 8, none, .mov (.tmp 30)⟩,
    ⟨some 9, none, .mov (.tmp 31)⟩]
def R7_14 : RC := .reg [⟨some 32, none, .mov (.tmp 9)⟩,
    ⟨some 33, none, .un .not (.tmp 32)⟩]
def R7_15 : RC := .reg [⟨some 4, none, .mov (.const (.slice none 0 0))⟩,
    ⟨some 5, none, .mov (.const (.bool false))⟩]
def R7_16 : RC := .seq R7_15 (.ret)
def R7_17 : RC := .cond (.tmp 33) R7_16 (.skip)
def R7_18 : RC := .seq R7_14 R7_17
def R7_19 : RC := .reg [⟨some 34, none, .mov (.tmp 7)⟩,
    ⟨some 35, none, .mov (.tmp 8)⟩,
    ⟨some 36, none, .ixS 2 (.tmp 34) (.tmp 35)⟩,
    ⟨some 37, none, .faddr 1 (.tmp 36)⟩,
    ⟨some 38, none, .load1 (.tmp 37)⟩,
    ⟨some 4, none, .mov (.tmp 38)⟩,
    ⟨some 5, none, .mov (.const (.bool true))⟩]
def R7_20 : RC := .seq R7_19 (.ret)
def R7_21 : RC := .seq R7_18 R7_20
def R7_22 : RC := .seq R7_13 R7_21
def R7_23 : RC := .seq R7_12 R7_22
def R7_24 : RC := .seq R7_11 R7_23
def R7_25 : RC := .seq R7_6 R7_24
def R7_26 : RC := .seq R7_5 R7_25
def R7_27 : RC := .seq R7_0 R7_26

theorem fn7 : FnOK Tryz.prog 7 ⟨R7_27, [.tmp 4, .tmp 5], 39⟩ :=
  ⟨Tryz.f7, Tryz.f7.body.getD .skip, Tryz.func7, by kernel_rfl, by kernel_rfl, by kernel_rfl, by kernel_rfl, by kernel_rfl⟩
-- 8: (*lectern/sst.Table).Len
def R8_0 : RC := .reg [⟨some 2, none, .mov (.const (.int .i64 0))⟩]
def R8_1 : RC := .reg [⟨some 3, none, .mov (.tmp 0)⟩,
    ⟨some 4, none, .call 37 [(.tmp 3)]⟩,
    ⟨some 5, none, .un .not (.tmp 4)⟩]
def R8_2 : RC := .reg [⟨some 2, none, .mov (.const (.int .i64 0))⟩]
def R8_3 : RC := .seq R8_2 (.ret)
def R8_4 : RC := .cond (.tmp 5) R8_3 (.skip)
def R8_5 : RC := .seq R8_1 R8_4
def R8_6 : RC := .reg [⟨some 6, none, .mov (.tmp 0)⟩,
    ⟨some 7, none, .nilck (.tmp 6)⟩,
    ⟨some 8, none, .faddr 6 (.tmp 7)⟩,
    ⟨some 9, none, .load1 (.tmp 8)⟩,
    ⟨some 2, none, .mov (.tmp 9)⟩]
def R8_7 : RC := .seq R8_6 (.ret)
def R8_8 : RC := .seq R8_5 R8_7
def R8_9 : RC := .seq R8_0 R8_8

theorem fn8 : FnOK Tryz.prog 8 ⟨R8_9, [.tmp 2], 10⟩ :=
  ⟨Tryz.f8, Tryz.f8.body.getD .skip, Tryz.func8, by kernel_rfl, by kernel_rfl, by kernel_rfl, by kernel_rfl, by kernel_rfl⟩
-- 9: (*lectern/sst.Table).Blocks
def R9_0 : RC := .reg [⟨some 2, none, .mov (.const (.int .i64 0))⟩]
def R9_1 : RC := .reg [⟨some 3, none, .mov (.tmp 0)⟩,
    ⟨some 4, none, .call 37 [(.tmp 3)]⟩,
    ⟨some 5, none, .un .not (.tmp 4)⟩]
def R9_2 : RC := .reg [⟨some 2, none, .mov (.const (.int .i64 0))⟩]
def R9_3 : RC := .seq R9_2 (.ret)
def R9_4 : RC := .cond (.tmp 5) R9_3 (.skip)
def R9_5 : RC := .seq R9_1 R9_4
def R9_6 : RC := .reg [⟨some 6, none, .mov (.tmp 0)⟩,
    ⟨some 7, none, .nilck (.tmp 6)⟩,
    ⟨some 8, none, .faddr 9 (.tmp 7)⟩,
    ⟨some 9, none, .load1 (.tmp 8)⟩,
    ⟨some 10, none, .lenS (.tmp 9)⟩,
    ⟨some 2, none, .mov (.tmp 10)⟩]
def R9_7 : RC := .seq R9_6 (.ret)
def R9_8 : RC := .seq R9_5 R9_7
def R9_9 : RC := .seq R9_0 R9_8

theorem fn9 : FnOK Tryz.prog 9 ⟨R9_9, [.tmp 2], 11⟩ :=
  ⟨Tryz.f9, Tryz.f9.body.getD .skip, Tryz.func9, by kernel_rfl, by kernel_rfl, by kernel_rfl, by kernel_rfl, by kernel_rfl⟩
-- 10: (*lectern/sst.Table).First
def R10_0 : RC := .reg [⟨some 2, none, .mov (.const (.slice none 0 0))⟩]
def R10_1 : RC := .reg [⟨some 4, none, .mov (.tmp 0)⟩,
    ⟨some 5, none, .call 37 [(.tmp 4)]⟩,
    ⟨some 6, none, .un .not (.tmp 5)⟩,
    ⟨some 7, none, .mov (.tmp 6)⟩,
    ⟨some 8, some (7, false), .mov (.tmp 0)⟩,
    ⟨some 9, some (7, false), .nilck (.tmp 8)⟩,
    ⟨some 10, some (7, false), .faddr 9 (.tmp 9)⟩,
    ⟨some 11, some (7, false), .load1 (.tmp 10)⟩,
    ⟨some 12, some (7, false), .lenS (.tmp 11)⟩,
    ⟨some 13, some (7, false), .bin .eql 3 (.tmp 12) (.const (.int .i64 0))⟩,
    ⟨some 14, none, .pick (.tmp 7) (.const (.bool true)) (.tmp 13)⟩]
def R10_2 : RC := .reg [⟨some 2, none, .mov (.const (.slice none 0 0))⟩]
def R10_3 : RC := .seq R10_2 (.ret)
def R10_4 : RC := .cond (.tmp 14) R10_3 (.skip)
def R10_5 : RC := .seq R10_1 R10_4
def R10_6 : RC := .reg [⟨some 15, none, .mov (.tmp 0)⟩,
    ⟨some 16, none, .call 39 [(.tmp 15), (.const (.int .i64 0))]⟩,
    ⟨some 3, none, .mov (.tmp 16)⟩]
def R10_7 : RC := .reg [⟨some 17, none, .mov (.tmp 3)⟩,
    ⟨some 18, none, .lenS (.tmp 17)⟩,
    ⟨some 19, none, .bin .eql 3 (.tmp 18) (.const (.int .i64 0))⟩]
def R10_8 : RC := .reg [⟨some 2, none, .mov (.const (.slice none 0 0))⟩]
def R10_9 : RC := .seq R10_8 (.ret)
def R10_10 : RC := .cond (.tmp 19) R10_9 (.skip)
def R10_11 : RC := .seq R10_7 R10_10
def R10_12 : RC := .reg [⟨some 20, none, .mov (.tmp 3)⟩,
    ⟨some 21, none, .ixS 2 (.tmp 20) (.const (.int .i64 0))⟩,
    ⟨some 22, none, .faddr 0 (.tmp 21)⟩,
    ⟨some 23, none, .load1 (.tmp 22)⟩,
    ⟨some 2, none, .mov (.tmp 23)⟩]
def R10_13 : RC := .seq R10_12 (.ret)
def R10_14 : RC := .seq R10_11 R10_13
def R10_15 : RC := .seq R10_6 R10_14
def R10_16 : RC := .seq R10_5 R10_15
def R10_17 : RC := .seq R10_0 R10_16

theorem fn10 : FnOK Tryz.prog 10 ⟨R10_17, [.tmp 2], 24⟩ :=
  ⟨Tryz.f10, Tryz.f10.body.getD .skip, Tryz.func10, by kernel_rfl, by kernel_rfl, by kernel_rfl, by kernel_rfl, by kernel_rfl⟩
-- 11: (*lectern/sst.Table).Last
def R11_0 : RC := .reg [⟨some 2, none, .mov (.const (.slice none 0 0))⟩]
def R11_1 : RC := .reg [⟨some 3, none, .mov (.tmp 0)⟩,
    ⟨some 4, none, .call 37 [(.tmp 3)]⟩,
    ⟨some 5, none, .un .not (.tmp 4)⟩,
    ⟨some 6, none, .mov (.tmp 5)⟩,
    ⟨some 7, some (6, false), .mov (.tmp 0)⟩,
    ⟨some 8, some (6, false), .nilck (.tmp 7)⟩,
    ⟨some 9, some (6, false), .faddr 8 (.tmp 8)⟩,
    ⟨some 10, some (6, false), .load1 (.tmp 9)⟩,
    ⟨some 11, some (6, false), .lenS (.tmp 10)⟩,
    ⟨some 12, some (6, false), .bin .eql 3 (.tmp 11) (.const (.int .i64 0))⟩,
    ⟨some 13, none, .pick (.tmp 6) (.const (.bool true)) (.tmp 12)⟩]
def R11_2 : RC := .reg [⟨some 2, none, .mov (.const (.slice none 0 0))⟩]
def R11_3 : RC := .seq R11_2 (.ret)
def R11_4 : RC := .cond (.tmp 13) R11_3 (.skip)
def R11_5 : RC := .seq R11_1 R11_4
def R11_6 : RC := .draw [⟨some 14, none, .mov (.tmp 0)⟩,
    ⟨some 15, none, .nilck (.tmp 14)⟩,
    ⟨some 16, none, .faddr 8 (.tmp 15)⟩,
    ⟨some 17, none, .load1 (.tmp 16)⟩,
    ⟨some 18, none, .mov (.tmp 0)⟩,
    ⟨some 19, none, .nilck (.tmp 18)⟩,
    ⟨some 20, none, .faddr 8 (.tmp 19)⟩,
    ⟨some 21, none, .load1 (.tmp 20)⟩,
    ⟨some 22, none, .lenS (.tmp 21)⟩,
    ⟨some 23, none, .bin .sub 3 (.tmp 22) (.const (.int .i64 1))⟩,
    ⟨some 24, none, .ixS 1 (.tmp 17) (.tmp 23)⟩,
    ⟨some 25, none, .load1 (.tmp 24)⟩,
    ⟨some 26, none, .call 41 [(.tmp 25)]⟩,
    ⟨some 2, none, .mov (.tmp 26)⟩] [[⟨0, ⟨some 14, none, .mov (.tmp 0)⟩, false, []⟩,
    ⟨1, ⟨some 15, none, .nilck (.tmp 14)⟩, false, []⟩,
    ⟨2, ⟨some 16, none, .faddr 8 (.tmp 15)⟩, false, []⟩,
    ⟨3, ⟨some 17, none, .load1 (.tmp 16)⟩, true, []⟩,
    ⟨4, ⟨some 18, none, .mov (.tmp 0)⟩, false, []⟩,
    ⟨5, ⟨some 19, none, .nilck (.tmp 18)⟩, false, []⟩,
    ⟨6, ⟨some 20, none, .faddr 8 (.tmp 19)⟩, false, []⟩,
    ⟨7, ⟨some 21, none, .load1 (.tmp 20)⟩, true, []⟩,
    ⟨8, ⟨some 22, none, .lenS (.tmp 21)⟩, false, []⟩,
    ⟨9, ⟨some 23, none, .bin .sub 3 (.tmp 22) (.const (.int .i64 1))⟩, false, []⟩],
   [⟨10, ⟨some 24, none, .ixS 1 (.tmp 17) (.tmp 23)⟩, false, []⟩],
   [⟨11, ⟨some 25, none, .load1 (.tmp 24)⟩, true, []⟩],
   [⟨12, ⟨some 26, none, .call 41 [(.tmp 25)]⟩, false, []⟩],
   [⟨13, ⟨some 2, none, .mov (.tmp 26)⟩, false, []⟩]]
def R11_7 : RC := .seq R11_6 (.ret)
def R11_8 : RC := .seq R11_5 R11_7
def R11_9 : RC := .seq R11_0 R11_8

theorem fn11 : FnOK Tryz.prog 11 ⟨R11_9, [.tmp 2], 27⟩ :=
  ⟨Tryz.f11, Tryz.f11.body.getD .skip, Tryz.func11, by kernel_rfl, by kernel_rfl, by kernel_rfl, by kernel_rfl, by kernel_rfl⟩
-- 12: (*lectern/sst.Table).May
def R12_0 : RC := .reg [⟨some 4, none, .mov (.const (.bool false))⟩]
def R12_1 : RC := .reg [⟨some 5, none, .mov (.tmp 0)⟩,
    ⟨some 6, none, .call 37 [(.tmp 5)]⟩,
    ⟨some 7, none, .mov (.tmp 6)⟩,
    ⟨some 8, some (7, true), .mov (.tmp 0)⟩,
    ⟨some 9, some (7, true), .nilck (.tmp 8)⟩,
    ⟨some 10, some (7, true), .faddr 7 (.tmp 9)⟩,
    ⟨some 11, some (7, true), .load1 (.tmp 10)⟩,
    ⟨some 12, some (7, true), .mov (.tmp 1)⟩,
    ⟨some 13, some (7, true), .call 42 [(.tmp 11), (.tmp 12)]⟩,
    ⟨some 14, none, .pick (.tmp 7) (.tmp 13) (.const (.bool false))⟩,
    ⟨some 4, none, .mov (.tmp 14)⟩]
def R12_2 : RC := .seq R12_1 (.ret)
def R12_3 : RC := .seq R12_0 R12_2

theorem fn12 : FnOK Tryz.prog 12 ⟨R12_3, [.tmp 4], 15⟩ :=
  ⟨Tryz.f12, Tryz.f12.body.getD .skip, Tryz.func12, by kernel_rfl, by kernel_rfl, by kernel_rfl, by kernel_rfl, by kernel_rfl⟩
-- 13: (*lectern/sst.Table).Read
def R13_0 : RC := .reg [⟨some 2, none, .mov (.const (.int .i64 0))⟩]
def R13_1 : RC := .reg [⟨some 3, none, .mov (.tmp 0)⟩,
    ⟨some 4, none, .call 37 [(.tmp 3)]⟩,
    ⟨some 5, none, .un .not (.tmp 4)⟩]
def R13_2 : RC := .reg [⟨some 2, none, .mov (.const (.int .i64 0))⟩]
def R13_3 : RC := .seq R13_2 (.ret)
def R13_4 : RC := .cond (.tmp 5) R13_3 (.skip)
def R13_5 : RC := .seq R13_1 R13_4
def R13_6 : RC := .reg [⟨some 6, none, .mov (.tmp 0)⟩,
    ⟨some 7, none, .nilck (.tmp 6)⟩,
    ⟨some 8, none, .faddr 10 (.tmp 7)⟩,
    ⟨some 9, none, .call 43 [(.tmp 8)]⟩,
    ⟨some 2, none, .mov (.tmp 9)⟩]
def R13_7 : RC := .seq R13_6 (.ret)
def R13_8 : RC := .seq R13_5 R13_7
def R13_9 : RC := .seq R13_0 R13_8

theorem fn13 : FnOK Tryz.prog 13 ⟨R13_9, [.tmp 2], 10⟩ :=
  ⟨Tryz.f13, Tryz.f13.body.getD .skip, Tryz.func13, by kernel_rfl, by kernel_rfl, by kernel_rfl, by kernel_rfl, by kernel_rfl⟩
-- 14: (*lectern/sst.Table).Pairs
def R14_0 : RC := .reg [⟨some 2, none, .mov (.const (.slice none 0 0))⟩]
def R14_1 : RC := .reg [⟨some 6, none, .mov (.tmp 0)⟩,
    ⟨some 7, none, .call 37 [(.tmp 6)]⟩,
    ⟨some 8, none, .un .not (.tmp 7)⟩]
def R14_2 : RC := .reg [⟨some 2, none, .mov (.const (.slice none 0 0))⟩]
def R14_3 : RC := .seq R14_2 (.ret)
def R14_4 : RC := .cond (.tmp 8) R14_3 (.skip)
def R14_5 : RC := .seq R14_1 R14_4
def R14_6 : RC := .reg [⟨some 3, none, .mov (.const (.slice none 0 0))⟩]
def R14_7 : RC := .reg [⟨some 9, none, .mov (.tmp 0)⟩,
    ⟨some 10, none, .mkFn (.func 39) [(.tmp 9)] []⟩,
    ⟨some 4, none, .mov (.tmp 10)⟩]
def R14_8 : RC := .reg [⟨some 11, none, .mov (.tmp 0)⟩,
    ⟨some 12, none, .nilck (.tmp 11)⟩,
    ⟨some 13, none, .faddr 9 (.tmp 12)⟩,
    ⟨some 14, none, .load1 (.tmp 13)⟩,
    ⟨some 15, none, .lenS (.tmp 14)⟩,
    ⟨some 16, none, .mov (.const (.int .i64 0))⟩]
def R14_9 : RC := .reg [⟨some 17, none, .bin .lss 3 (.tmp 16) (.tmp 15)⟩]
def R14_10 : RC := .cond (.tmp 17) (.skip) (.exit 0)
def R14_11 : RC := .reg [⟨some 18, none, .mov (.tmp 16)⟩,
    ⟨some 5, none, .mov (.tmp 18)⟩]
def R14_12 : RC := .reg [⟨some 19, none, .mov (.tmp 3)⟩,
    ⟨some 20, none, .mov (.tmp 4)⟩,
    ⟨some 21, none, .mov (.tmp 5)⟩,
    ⟨some 22, none, .callV (.tmp 20) [(.tmp 21)]⟩,
    ⟨some 23, none, .app 51 2 48 (.agg #[.slice none 0 0, .slice none 0 0]) (.tmp 19) (.tmp 22)⟩,
    ⟨some 3, none, .mov (.tmp 23)⟩]
def R14_13 : RC := .seq R14_11 R14_12
def R14_14 : RC := .block 1 R14_13
def R14_15 : RC := .reg [⟨some 24, none, .bin .add 3 (.tmp 16) (.const (.int .i64 1))⟩,
    ⟨some 16, none, .mov (.tmp 24)⟩]
def R14_16 : RC := .seq R14_14 R14_15
def R14_17 : RC := .seq R14_10 R14_16
def R14_18 : RC := .seq R14_9 R14_17
def R14_19 : RC := .loop R14_18
def R14_20 : RC := .block 0 R14_19
def R14_21 : RC := .seq R14_8 R14_20
def R14_22 : RC := .reg [⟨some 25, none, .mov (.tmp 3)⟩,
    ⟨some 2, none, .mov (.tmp 25)⟩]
def R14_23 : RC := .seq R14_22 (.ret)
def R14_24 : RC := .seq R14_21 R14_23
def R14_25 : RC := .seq R14_7 R14_24
def R14_26 : RC := .seq R14_6 R14_25
def R14_27 : RC := .seq R14_5 R14_26
def R14_28 : RC := .seq R14_0 R14_27

theorem fn14 : FnOK Tryz.prog 14 ⟨R14_28, [.tmp 2], 26⟩ :=
  ⟨Tryz.f14, Tryz.f14.body.getD .skip, Tryz.func14, by kernel_rfl, by kernel_rfl, by kernel_rfl, by kernel_rfl, by kernel_rfl⟩
-- 15: (*lectern/sst.Table).Iter
def R15_0 : RC := .reg [⟨some 2, none, .mov (.const (.pointer none))⟩]
def R15_1 : RC := .reg [⟨some 3, none, .mov (.tmp 0)⟩,
    ⟨some 4, none, .call 37 [(.tmp 3)]⟩,
    ⟨some 5, none, .un .not (.tmp 4)⟩]
def R15_2 : RC := .reg [⟨some 2, none, .mov (.const (.pointer none))⟩]
def R15_3 : RC := .seq R15_2 (.ret)
def R15_4 : RC := .cond (.tmp 5) R15_3 (.skip)
def R15_5 : RC := .seq R15_1 R15_4
def R15_6 : RC := .reg [⟨some 6, none, .mov (.tmp 0)⟩,
    ⟨some 7, none, .build [(0, 1), (1, 1), (2, 1), (3, 1), (4, 1)] #[.pointer none, .int .i64 0, .int .i64 0, .int .i64 0, .slice none 0 0] [(0, (.tmp 6))]⟩,
    ⟨some 8, none, .box 48 (.tmp 7)⟩,
    ⟨some 2, none, .mov (.tmp 8)⟩]
def R15_7 : RC := .seq R15_6 (.ret)
def R15_8 : RC := .seq R15_5 R15_7
def R15_9 : RC := .seq R15_0 R15_8

theorem fn15 : FnOK Tryz.prog 15 ⟨R15_9, [.tmp 2], 9⟩ :=
  ⟨Tryz.f15, Tryz.f15.body.getD .skip, Tryz.func15, by kernel_rfl, by kernel_rfl, by kernel_rfl, by kernel_rfl, by kernel_rfl⟩
-- 16: (*lectern/sst.Iter).Pair
def R16_0 : RC := .reg [⟨some 2, none, .newv 51 (.agg #[.slice none 0 0, .slice none 0 0])⟩,
    ⟨some 3, none, .mov (.const (.bool false))⟩]
def R16_1 : RC := .reg [⟨some 5, none, .mov (.tmp 0)⟩,
    ⟨some 6, none, .call 44 [(.tmp 5)]⟩,
    ⟨some 7, none, .un .not (.tmp 6)⟩,
    ⟨some 8, none, .mov (.tmp 7)⟩,
    ⟨some 9, some (8, false), .mov (.tmp 0)⟩,
    ⟨some 10, some (8, false), .nilck (.tmp 9)⟩,
    ⟨some 11, some (8, false), .faddr 1 (.tmp 10)⟩,
    ⟨some 12, some (8, false), .load1 (.tmp 11)⟩,
    ⟨some 13, some (8, false), .bin .neq 3 (.tmp 12) (.const (.int .i64 1))⟩,
    ⟨some 14, none, .pick (.tmp 8) (.const (.bool true)) (.tmp 13)⟩]
def R16_2 : RC := .reg [⟨some 15, none, .build [(0, 1), (1, 1)] #[.slice none 0 0, .slice none 0 0] []⟩,
    ⟨none, none, .store 2 (.tmp 2) (.tmp 15)⟩,
    ⟨some 3, none, .mov (.const (.bool false))⟩]
def R16_3 : RC := .seq R16_2 (.ret)
def R16_4 : RC := .cond (.tmp 14) R16_3 (.skip)
def R16_5 : RC := .seq R16_1 R16_4
def R16_6 : RC := .draw [⟨some 16, none, .mov (.tmp 0)⟩,
    ⟨some 17, none, .nilck (.tmp 16)⟩,
    ⟨some 18, none, .faddr 4 (.tmp 17)⟩,
    ⟨some 19, none, .load1 (.tmp 18)⟩,
    ⟨some 20, none, .mov (.tmp 0)⟩,
    ⟨some 21, none, .nilck (.tmp 20)⟩,
    ⟨some 22, none, .faddr 3 (.tmp 21)⟩,
    ⟨some 23, none, .load1 (.tmp 22)⟩,
    ⟨some 24, none, .ixS 2 (.tmp 19) (.tmp 23)⟩,
    ⟨some 25, none, .loadN 2 (.tmp 24)⟩,
    ⟨some 4, none, .newv 51 (.agg #[.slice none 0 0, .slice none 0 0])⟩,
    ⟨none, none, .store 2 (.tmp 4) (.tmp 25)⟩] [[⟨0, ⟨some 16, none, .mov (.tmp 0)⟩, false, []⟩,
    ⟨1, ⟨some 17, none, .nilck (.tmp 16)⟩, false, []⟩,
    ⟨2, ⟨some 18, none, .faddr 4 (.tmp 17)⟩, false, []⟩,
    ⟨3, ⟨some 19, none, .load1 (.tmp 18)⟩, true, []⟩,
    ⟨4, ⟨some 20, none, .mov (.tmp 0)⟩, false, []⟩,
    ⟨5, ⟨some 21, none, .nilck (.tmp 20)⟩, false, []⟩,
    ⟨6, ⟨some 22, none, .faddr 3 (.tmp 21)⟩, false, []⟩,
    ⟨7, ⟨some 23, none, .load1 (.tmp 22)⟩, true, []⟩,
    ⟨8, ⟨some 24, none, .ixS 2 (.tmp 19) (.tmp 23)⟩, false, []⟩,
    ⟨9, ⟨some 25, none, .loadN 2 (.tmp 24)⟩, true, []⟩,
    ⟨10, ⟨some 4, none, .newv 51 (.agg #[.slice none 0 0, .slice none 0 0])⟩, false, []⟩],
   [⟨11, ⟨none, none, .store 2 (.tmp 4) (.tmp 25)⟩, false, []⟩]]
def R16_7 : RC := .draw [⟨some 26, none, .faddr 0 (.tmp 4)⟩,
    ⟨some 27, none, .load1 (.tmp 26)⟩,
    ⟨some 28, none, .call 41 [(.tmp 27)]⟩,
    ⟨some 29, none, .faddr 1 (.tmp 4)⟩,
    ⟨some 30, none, .load1 (.tmp 29)⟩,
    ⟨some 31, none, .call 41 [(.tmp 30)]⟩,
    ⟨some 32, none, .build [(0, 1), (1, 1)] #[.slice none 0 0, .slice none 0 0] [(0, (.tmp 28)), (1, (.tmp 31))]⟩,
    ⟨none, none, .store 2 (.tmp 2) (.tmp 32)⟩,
    ⟨some 3, none, .mov (.const (.bool true))⟩] [[⟨0, ⟨some 26, none, .faddr 0 (.tmp 4)⟩, false, []⟩,
    ⟨1, ⟨some 27, none, .load1 (.tmp 26)⟩, true, []⟩,
    ⟨3, ⟨some 29, none, .faddr 1 (.tmp 4)⟩, false, []⟩,
    ⟨4, ⟨some 30, none, .load1 (.tmp 29)⟩, true, []⟩,
    ⟨2, ⟨some 28, none, .call 41 [(.tmp 27)]⟩, false, [4]⟩],
   [⟨5, ⟨some 31, none, .call 41 [(.tmp 30)]⟩, false, []⟩],
   [⟨6, ⟨some 32, none, .build [(0, 1), (1, 1)] #[.slice none 0 0, .slice none 0 0] [(0, (.tmp 28)), (1, (.tmp 31))]⟩, false, []⟩],
   [⟨7, ⟨none, none, .store 2 (.tmp 2) (.tmp 32)⟩, false, []⟩],
   [⟨8, ⟨some 3, none, .mov (.const (.bool true))⟩, false, []⟩]]
def R16_8 : RC := .seq R16_7 (.ret)
def R16_9 : RC := .seq R16_6 R16_8
def R16_10 : RC := .seq R16_5 R16_9
def R16_11 : RC := .seq R16_0 R16_10

theorem fn16 : FnOK Tryz.prog 16 ⟨R16_11, [.cellN 2 2, .tmp 3], 33⟩ :=
  ⟨Tryz.f16, Tryz.f16.body.getD .skip, Tryz.func16, by kernel_rfl, by kernel_rfl, by kernel_rfl, by kernel_rfl, by kernel_rfl⟩
-- 17: (*lectern/sst.Iter).First
def R17_0 : RC := .reg [⟨some 2, none, .mov (.const (.bool false))⟩]
def R17_1 : RC := .reg [⟨some 3, none, .mov (.tmp 0)⟩,
    ⟨some 4, none, .call 44 [(.tmp 3)]⟩,
    ⟨some 5, none, .mov (.tmp 4)⟩,
    ⟨some 6, some (5, true), .mov (.tmp 0)⟩,
    ⟨some 7, some (5, true), .call 45 [(.tmp 6), (.const (.int .i64 0)), (.func 46)]⟩,
    ⟨some 8, none, .pick (.tmp 5) (.tmp 7) (.const (.bool false))⟩,
    ⟨some 2, none, .mov (.tmp 8)⟩]
def R17_2 : RC := .seq R17_1 (.ret)
def R17_3 : RC := .seq R17_0 R17_2

theorem fn17 : FnOK Tryz.prog 17 ⟨R17_3, [.tmp 2], 9⟩ :=
  ⟨Tryz.f17, Tryz.f17.body.getD .skip, Tryz.func17, by kernel_rfl, by kernel_rfl, by kernel_rfl, by kernel_rfl, by kernel_rfl⟩
-- 18: (*lectern/sst.Iter).Next
def R18_0 : RC := .reg [⟨some 2, none, .mov (.const (.bool false))⟩]
def R18_1 : RC := .reg [⟨some 4, none, .mov (.tmp 0)⟩,
    ⟨some 5, none, .call 44 [(.tmp 4)]⟩,
    ⟨some 6, none, .un .not (.tmp 5)⟩,
    ⟨some 7, none, .mov (.tmp 6)⟩,
    ⟨some 8, some (7, false), .mov (.tmp 0)⟩,
    ⟨some 9, some (7, false), .nilck (.tmp 8)⟩,
    ⟨some 10, some (7, false), .faddr 1 (.tmp 9)⟩,
    ⟨some 11, some (7, false), .load1 (.tmp 10)⟩,
    ⟨some 12, some (7, false), .bin .eql 3 (.tmp 11) (.const (.int .i64 2))⟩,
    ⟨some 13, none, .pick (.tmp 7) (.const (.bool true)) (.tmp 12)⟩,
    ⟨some 3, none, .mov (.tmp 13)⟩]
def R18_2 : RC := .reg [⟨some 2, none, .mov (.const (.bool false))⟩]
def R18_3 : RC := .seq R18_2 (.ret)
def R18_4 : RC := .reg [⟨some 15, none, .mov (.tmp 0)⟩,
    ⟨some 16, none, .nilck (.tmp 15)⟩,
    ⟨some 17, none, .faddr 1 (.tmp 16)⟩,
    ⟨some 18, none, .load1 (.tmp 17)⟩,
    ⟨some 19, none, .bin .eql 3 (.tmp 18) (.const (.int .i64 0))⟩,
    ⟨some 14, none, .mov (.tmp 19)⟩]
def R18_5 : RC := .reg [⟨some 20, none, .mov (.tmp 0)⟩,
    ⟨some 21, none, .call 17 [(.tmp 20)]⟩,
    ⟨some 2, none, .mov (.tmp 21)⟩]
def R18_6 : RC := .seq R18_5 (.ret)
def R18_7 : RC := .cond (.tmp 14) R18_6 (.skip)
def R18_8 : RC := .seq R18_4 R18_7
def R18_9 : RC := .cond (.tmp 3) R18_3 R18_8
def R18_10 : RC := .seq R18_1 R18_9
def R18_11 : RC := .block 0 R18_10
def R18_12 : RC := .reg [⟨some 22, none, .mov (.tmp 0)⟩,
    ⟨some 23, none, .nilck (.tmp 22)⟩,
    ⟨some 24, none, .faddr 3 (.tmp 23)⟩,
    ⟨some 25, none, .load1 (.tmp 24)⟩,
    ⟨some 26, none, .bin .add 3 (.tmp 25) (.const (.int .i64 1))⟩,
    ⟨some 27, none, .nilck (.tmp 22)⟩,
    ⟨some 28, none, .faddr 3 (.tmp 27)⟩,
    ⟨none, none, .store 1 (.tmp 28) (.tmp 26)⟩]
def R18_13 : RC := .draw [⟨some 29, none, .mov (.tmp 0)⟩,
    ⟨some 30, none, .nilck (.tmp 29)⟩,
    ⟨some 31, none, .faddr 3 (.tmp 30)⟩,
    ⟨some 32, none, .load1 (.tmp 31)⟩,
    ⟨some 33, none, .mov (.tmp 0)⟩,
    ⟨some 34, none, .nilck (.tmp 33)⟩,
    ⟨some 35, none, .faddr 4 (.tmp 34)⟩,
    ⟨some 36, none, .load1 (.tmp 35)⟩,
    ⟨some 37, none, .lenS (.tmp 36)⟩,
    ⟨some 38, none, .bin .lss 3 (.tmp 32) (.tmp 37)⟩] [[⟨0, ⟨some 29, none, .mov (.tmp 0)⟩, false, []⟩,
    ⟨1, ⟨some 30, none, .nilck (.tmp 29)⟩, false, []⟩,
    ⟨2, ⟨some 31, none, .faddr 3 (.tmp 30)⟩, false, []⟩,
    ⟨3, ⟨some 32, none, .load1 (.tmp 31)⟩, true, []⟩,
    ⟨4, ⟨some 33, none, .mov (.tmp 0)⟩, false, []⟩,
    ⟨5, ⟨some 34, none, .nilck (.tmp 33)⟩, false, []⟩,
    ⟨6, ⟨some 35, none, .faddr 4 (.tmp 34)⟩, false, []⟩,
    ⟨7, ⟨some 36, none, .load1 (.tmp 35)⟩, true, []⟩,
    ⟨8, ⟨some 37, none, .lenS (.tmp 36)⟩, false, []⟩],
   [⟨9, ⟨some 38, none, .bin .lss 3 (.tmp 32) (.tmp 37)⟩, false, []⟩]]
def R18_14 : RC := .reg [⟨some 2, none, .mov (.const (.bool true))⟩]
def R18_15 : RC := .seq R18_14 (.ret)
def R18_16 : RC := .cond (.tmp 38) R18_15 (.skip)
def R18_17 : RC := .seq R18_13 R18_16
def R18_18 : RC := .reg [⟨some 39, none, .mov (.tmp 0)⟩,
    ⟨some 40, none, .mov (.tmp 0)⟩,
    ⟨some 41, none, .nilck (.tmp 40)⟩,
    ⟨some 42, none, .faddr 2 (.tmp 41)⟩,
    ⟨some 43, none, .load1 (.tmp 42)⟩,
    ⟨some 44, none, .bin .add 3 (.tmp 43) (.const (.int .i64 1))⟩,
    ⟨some 45, none, .call 45 [(.tmp 39), (.tmp 44), (.func 46)]⟩,
    ⟨some 2, none, .mov (.tmp 45)⟩]
def R18_19 : RC := .seq R18_18 (.ret)
def R18_20 : RC := .seq R18_17 R18_19
def R18_21 : RC := .seq R18_12 R18_20
def R18_22 : RC := .seq R18_11 R18_21
def R18_23 : RC := .seq R18_0 R18_22

theorem fn18 : FnOK Tryz.prog 18 ⟨R18_23, [.tmp 2], 46⟩ :=
  ⟨Tryz.f18, Tryz.f18.body.getD .skip, Tryz.func18, by kernel_rfl, by kernel_rfl, by kernel_rfl, by kernel_rfl, by kernel_rfl⟩
-- 19: (*lectern/sst.Iter).Seek
def R19_0 : RC := .reg [⟨some 3, none, .box 22 (.tmp 1)⟩,
    ⟨some 4, none, .mov (.const (.bool false))⟩]
def R19_1 : RC := .draw [⟨some 5, none, .mov (.tmp 0)⟩,
    ⟨some 6, none, .call 44 [(.tmp 5)]⟩,
    ⟨some 7, none, .mov (.tmp 6)⟩,
    ⟨some 8, some (7, true), .mov (.tmp 0)⟩,
    ⟨some 9, some (7, true), .mov (.tmp 0)⟩,
    ⟨some 10, some (7, true), .nilck (.tmp 9)⟩,
    ⟨some 11, some (7, true), .faddr 0 (.tmp 10)⟩,
    ⟨some 12, some (7, true), .load1 (.tmp 11)⟩,
    ⟨some 13, some (7, true), .load1 (.tmp 3)⟩,
    ⟨some 14, some (7, true), .call 38 [(.tmp 12), (.tmp 13)]⟩,
    ⟨some 15, some (7, true), .mkFn (.func 47) [] [(.tmp 3)]⟩,
    ⟨some 16, some (7, true), .call 45 [(.tmp 8), (.tmp 14), (.tmp 15)]⟩,
    ⟨some 17, none, .pick (.tmp 7) (.tmp 16) (.const (.bool false))⟩,
    ⟨some 4, none, .mov (.tmp 17)⟩] [[⟨0, ⟨some 5, none, .mov (.tmp 0)⟩, false, []⟩],
   [⟨1, ⟨some 6, none, .call 44 [(.tmp 5)]⟩, false, [7, 8]⟩],
   [⟨2, ⟨some 7, none, .mov (.tmp 6)⟩, false, []⟩],
   [⟨3, ⟨some 8, some (7, true), .mov (.tmp 0)⟩, false, []⟩,
    ⟨4, ⟨some 9, some (7, true), .mov (.tmp 0)⟩, false, []⟩,
    ⟨5, ⟨some 10, some (7, true), .nilck (.tmp 9)⟩, false, []⟩,
    ⟨6, ⟨some 11, some (7, true), .faddr 0 (.tmp 10)⟩, false, []⟩,
    ⟨7, ⟨some 12, some (7, true), .load1 (.tmp 11)⟩, true, []⟩,
    ⟨8, ⟨some 13, some (7, true), .load1 (.tmp 3)⟩, true, []⟩,
    ⟨10, ⟨some 15, some (7, true), .mkFn (.func 47) [] [(.tmp 3)]⟩, false, []⟩,
    ⟨9, ⟨some 14, some (7, true), .call 38 [(.tmp 12), (.tmp 13)]⟩, false, []⟩],
   [⟨11, ⟨some 16, some (7, true), .call 45 [(.tmp 8), (.tmp 14), (.tmp 15)]⟩, false, []⟩],
   [⟨12, ⟨some 17, none, .pick (.tmp 7) (.tmp 16) (.const (.bool false))⟩, false, []⟩],
   [⟨13, ⟨some 4, none, .mov (.tmp 17)⟩, false, []⟩]]
def R19_2 : RC := .seq R19_1 (.ret)
def R19_3 : RC := .seq R19_0 R19_2

theorem fn19 : FnOK Tryz.prog 19 ⟨R19_3, [.tmp 4], 18⟩ :=
  ⟨Tryz.f19, Tryz.f19.body.getD .skip, Tryz.func19, by kernel_rfl, by kernel_rfl, by kernel_rfl, by kernel_rfl, by kernel_rfl⟩
-- 34: lectern/sst.Build
def R34_0 : RC := .reg [⟨some 3, none, .box 27 (.tmp 1)⟩,
    ⟨some 4, none, .mov (.const (.slice none 0 0))⟩,
    ⟨some 5, none, .mov (.const (.int .i64 0))⟩]
def R34_1 : RC := .reg [⟨some 16, none, .loadN 3 (.tmp 3)⟩,
    ⟨some 17, none, .call 63 [(.tmp 16)]⟩,
    ⟨some 18, none, .un .not (.tmp 17)⟩]
def R34_2 : RC := .reg [⟨some 4, none, .mov (.const (.slice none 0 0))⟩,
    ⟨some 5, none, .mov (.const (.int .i64 1))⟩]
def R34_3 : RC := .seq R34_2 (.ret)
def R34_4 : RC := .cond (.tmp 18) R34_3 (.skip)
def R34_5 : RC := .seq R34_1 R34_4
def R34_6 : RC := .reg [⟨some 20, none, .mov (.tmp 0)⟩,
    ⟨some 21, none, .call 64 [(.tmp 20)]⟩,
    ⟨some 19, none, .mov (.tmp 21)⟩,
    ⟨some 22, none, .extr (.tmp 19) 0⟩,
    ⟨some 23, none, .extr (.tmp 19) 1⟩,
    ⟨some 6, none, .mov (.tmp 22)⟩,
    ⟨some 7, none, .mov (.tmp 23)⟩]
def R34_7 : RC := .reg [⟨some 24, none, .mov (.tmp 7)⟩,
    ⟨some 25, none, .bin .neq 59 (.tmp 24) (.const (.int .i64 0))⟩]
def R34_8 : RC := .reg [⟨some 26, none, .mov (.tmp 7)⟩,
    ⟨some 4, none, .mov (.const (.slice none 0 0))⟩,
    ⟨some 5, none, .mov (.tmp 26)⟩]
def R34_9 : RC := .seq R34_8 (.ret)
def R34_10 : RC := .cond (.tmp 25) R34_9 (.skip)
def R34_11 : RC := .seq R34_7 R34_10
def R34_12 : RC := .reg [⟨some 27, none, .call 65 []⟩,
    ⟨some 28, none, .build [(0, 1), (1, 1), (2, 1)] #[.pointer none, .slice none 0 0, .slice none 0 0] [(0, (.tmp 27))]⟩,
    ⟨some 29, none, .box 119 (.tmp 28)⟩,
    ⟨some 8, none, .mov (.tmp 29)⟩]
def R34_13 : RC := .reg [⟨some 9, none, .mov (.const (.int .i64 0))⟩]
def R34_14 : RC := .reg [⟨some 30, none, .mov (.tmp 0)⟩,
    ⟨some 31, none, .lenS (.tmp 30)⟩,
    ⟨some 32, none, .mov (.const (.int .i64 0))⟩]
def R34_15 : RC := .reg [⟨some 33, none, .bin .lss 3 (.tmp 32) (.tmp 31)⟩]
def R34_16 : RC := .cond (.tmp 33) (.skip) (.exit 0)
def R34_17 : RC := .reg [⟨some 34, none, .mov (.tmp 32)⟩,
    ⟨some 10, none, .mov (.tmp 34)⟩]
def R34_18 : RC := .draw [⟨some 35, none, .mov (.tmp 0)⟩,
    ⟨some 36, none, .mov (.tmp 9)⟩,
    ⟨some 37, none, .mov (.tmp 10)⟩,
    ⟨some 38, none, .bin .add 3 (.tmp 37) (.const (.int .i64 1))⟩,
    ⟨some 39, none, .slcL 2 (.tmp 35) (some (.tmp 36)) (some (.tmp 38)) none⟩,
    ⟨some 40, none, .faddr 1 (.tmp 3)⟩,
    ⟨some 41, none, .load1 (.tmp 40)⟩,
    ⟨some 42, none, .call 66 [(.tmp 39), (.tmp 41)]⟩,
    ⟨some 43, none, .faddr 0 (.tmp 3)⟩,
    ⟨some 44, none, .load1 (.tmp 43)⟩,
    ⟨some 45, none, .bin .lss 3 (.tmp 42) (.tmp 44)⟩,
    ⟨some 46, none, .mov (.tmp 45)⟩,
    ⟨some 47, some (46, true), .mov (.tmp 0)⟩,
    ⟨some 48, some (46, true), .mov (.tmp 9)⟩,
    ⟨some 49, some (46, true), .mov (.tmp 10)⟩,
    ⟨some 50, some (46, true), .bin .add 3 (.tmp 49) (.const (.int .i64 1))⟩,
    ⟨some 51, some (46, true), .slcL 2 (.tmp 47) (some (.tmp 48)) (some (.tmp 50)) none⟩,
    ⟨some 52, some (46, true), .faddr 1 (.tmp 3)⟩,
    ⟨some 53, some (46, true), .load1 (.tmp 52)⟩,
    ⟨some 54, some (46, true), .call 66 [(.tmp 51), (.tmp 53)]⟩,
    ⟨some 55, some (46, true), .bin .geq 3 (.tmp 54) (.const (.int .i64 0))⟩,
    ⟨some 56, none, .pick (.tmp 46) (.tmp 55) (.const (.bool false))⟩,
    ⟨some 57, none, .mov (.tmp 56)⟩,
    ⟨some 58, some (57, true), .mov (.tmp 10)⟩,
    ⟨some 59, some (57, true), .bin .add 3 (.tmp 58) (.const (.int .i64 1))⟩,
    ⟨some 60, some (57, true), .mov (.tmp 0)⟩,
    ⟨some 61, some (57, true), .lenS (.tmp 60)⟩,
    ⟨some 62, some (57, true), .bin .lss 3 (.tmp 59) (.tmp 61)⟩,
    ⟨some 63, none, .pick (.tmp 57) (.tmp 62) (.const (.bool false))⟩] [[⟨0, ⟨some 35, none, .mov (.tmp 0)⟩, false, []⟩,
    ⟨1, ⟨some 36, none, .mov (.tmp 9)⟩, false, []⟩,
    ⟨2, ⟨some 37, none, .mov (.tmp 10)⟩, false, []⟩,
    ⟨3, ⟨some 38, none, .bin .add 3 (.tmp 37) (.const (.int .i64 1))⟩, false, []⟩,
    ⟨4, ⟨some 39, none, .slcL 2 (.tmp 35) (some (.tmp 36)) (some (.tmp 38)) none⟩, false, []⟩,
    ⟨5, ⟨some 40, none, .faddr 1 (.tmp 3)⟩, false, []⟩,
    ⟨6, ⟨some 41, none, .load1 (.tmp 40)⟩, true, []⟩,
    ⟨8, ⟨some 43, none, .faddr 0 (.tmp 3)⟩, false, []⟩,
    ⟨9, ⟨some 44, none, .load1 (.tmp 43)⟩, true, []⟩,
    ⟨7, ⟨some 42, none, .call 66 [(.tmp 39), (.tmp 41)]⟩, false, [9, 18]⟩],
   [⟨10, ⟨some 45, none, .bin .lss 3 (.tmp 42) (.tmp 44)⟩, false, []⟩],
   [⟨11, ⟨some 46, none, .mov (.tmp 45)⟩, false, []⟩],
   [⟨12, ⟨some 47, some (46, true), .mov (.tmp 0)⟩, false, []⟩,
    ⟨13, ⟨some 48, some (46, true), .mov (.tmp 9)⟩, false, []⟩,
    ⟨14, ⟨some 49, some (46, true), .mov (.tmp 10)⟩, false, []⟩,
    ⟨15, ⟨some 50, some (46, true), .bin .add 3 (.tmp 49) (.const (.int .i64 1))⟩, false, []⟩,
    ⟨16, ⟨some 51, some (46, true), .slcL 2 (.tmp 47) (some (.tmp 48)) (some (.tmp 50)) none⟩, false, []⟩,
    ⟨17, ⟨some 52, some (46, true), .faddr 1 (.tmp 3)⟩, false, []⟩,
    ⟨18, ⟨some 53, some (46, true), .load1 (.tmp 52)⟩, true, []⟩],
   [⟨19, ⟨some 54, some (46, true), .call 66 [(.tmp 51), (.tmp 53)]⟩, false, []⟩],
   [⟨20, ⟨some 55, some (46, true), .bin .geq 3 (.tmp 54) (.const (.int .i64 0))⟩, false, []⟩],
   [⟨21, ⟨some 56, none, .pick (.tmp 46) (.tmp 55) (.const (.bool false))⟩, false, []⟩],
   [⟨22, ⟨some 57, none, .mov (.tmp 56)⟩, false, []⟩],
   [⟨23, ⟨some 58, some (57, true), .mov (.tmp 10)⟩, false, []⟩,
    ⟨24, ⟨some 59, some (57, true), .bin .add 3 (.tmp 58) (.const (.int .i64 1))⟩, false, []⟩,
    ⟨25, ⟨some 60, some (57, true), .mov (.tmp 0)⟩, false, []⟩,
    ⟨26, ⟨some 61, some (57, true), .lenS (.tmp 60)⟩, false, []⟩],
   [⟨27, ⟨some 62, some (57, true), .bin .lss 3 (.tmp 59) (.tmp 61)⟩, false, []⟩],
   [⟨28, ⟨some 63, none, .pick (.tmp 57) (.tmp 62) (.const (.bool false))⟩, false, []⟩]]
def R34_19 : RC := .cond (.tmp 63) (.exit 1) (.skip)
def R34_20 : RC := .seq R34_18 R34_19
def R34_21 : RC := .draw [⟨some 65, none, .mov (.tmp 0)⟩,
    ⟨some 66, none, .mov (.tmp 9)⟩,
    ⟨some 67, none, .mov (.tmp 10)⟩,
    ⟨some 68, none, .bin .add 3 (.tmp 67) (.const (.int .i64 1))⟩,
    ⟨some 69, none, .slcL 2 (.tmp 65) (some (.tmp 66)) (some (.tmp 68)) none⟩,
    ⟨some 70, none, .faddr 1 (.tmp 3)⟩,
    ⟨some 71, none, .load1 (.tmp 70)⟩,
    ⟨some 72, none, .call 67 [(.tmp 69), (.tmp 71)]⟩,
    ⟨some 64, none, .mov (.tmp 72)⟩,
    ⟨some 73, none, .extr (.tmp 64) 0⟩,
    ⟨some 74, none, .extr (.tmp 64) 1⟩,
    ⟨some 11, none, .mov (.tmp 73)⟩,
    ⟨some 12, none, .mov (.tmp 74)⟩] [[⟨0, ⟨some 65, none, .mov (.tmp 0)⟩, false, []⟩,
    ⟨1, ⟨some 66, none, .mov (.tmp 9)⟩, false, []⟩,
    ⟨2, ⟨some 67, none, .mov (.tmp 10)⟩, false, []⟩,
    ⟨3, ⟨some 68, none, .bin .add 3 (.tmp 67) (.const (.int .i64 1))⟩, false, []⟩,
    ⟨4, ⟨some 69, none, .slcL 2 (.tmp 65) (some (.tmp 66)) (some (.tmp 68)) none⟩, false, []⟩,
    ⟨5, ⟨some 70, none, .faddr 1 (.tmp 3)⟩, false, []⟩,
    ⟨6, ⟨some 71, none, .load1 (.tmp 70)⟩, true, []⟩],
   [⟨7, ⟨some 72, none, .call 67 [(.tmp 69), (.tmp 71)]⟩, false, []⟩],
   [⟨8, ⟨some 64, none, .mov (.tmp 72)⟩, false, []⟩],
   [⟨9, ⟨some 73, none, .extr (.tmp 64) 0⟩, false, []⟩,
    ⟨10, ⟨some 74, none, .extr (.tmp 64) 1⟩, false, []⟩,
    ⟨11, ⟨some 11, none, .mov (.tmp 73)⟩, false, []⟩],
   [⟨12, ⟨some 12, none, .mov (.tmp 74)⟩, false, []⟩]]
def R34_22 : RC := .reg [⟨some 75, none, .mov (.tmp 12)⟩,
    ⟨some 76, none, .bin .neq 59 (.tmp 75) (.const (.int .i64 0))⟩,
    ⟨some 77, none, .mov (.tmp 76)⟩,
    ⟨some 78, some (77, false), .mov (.tmp 8)⟩,
    ⟨some 79, some (77, false), .nilck (.tmp 78)⟩,
    ⟨some 80, some (77, false), .faddr 1 (.tmp 79)⟩,
    ⟨some 81, some (77, false), .load1 (.tmp 80)⟩,
    ⟨some 82, some (77, false), .lenS (.tmp 81)⟩,
    ⟨some 83, some (77, false), .bin .gtr 3 (.tmp 82) (.const (.int .i64 16777216))⟩,
    ⟨some 84, none, .pick (.tmp 77) (.const (.bool true)) (.tmp 83)⟩]
def R34_23 : RC := .reg [⟨some 4, none, .mov (.const (.slice none 0 0))⟩,
    ⟨some 5, none, .mov (.const (.int .i64 2))⟩]
def R34_24 : RC := .seq R34_23 (.ret)
def R34_25 : RC := .cond (.tmp 84) R34_24 (.skip)
def R34_26 : RC := .seq R34_22 R34_25
def R34_27 : RC := .draw [⟨some 85, none, .mov (.tmp 8)⟩,
    ⟨some 86, none, .mov (.tmp 8)⟩,
    ⟨some 87, none, .nilck (.tmp 86)⟩,
    ⟨some 88, none, .faddr 2 (.tmp 87)⟩,
    ⟨some 89, none, .load1 (.tmp 88)⟩,
    ⟨some 90, none, .mov (.tmp 0)⟩,
    ⟨some 91, none, .mov (.tmp 10)⟩,
    ⟨some 92, none, .ixS 2 (.tmp 90) (.tmp 91)⟩,
    ⟨some 93, none, .faddr 0 (.tmp 92)⟩,
    ⟨some 94, none, .load1 (.tmp 93)⟩,
    ⟨some 95, none, .mov (.tmp 8)⟩,
    ⟨some 96, none, .mov (.tmp 11)⟩,
    ⟨some 97, none, .call 68 [(.tmp 95), (.tmp 96)]⟩,
    ⟨some 98, none, .call 69 [(.tmp 97)]⟩,
    ⟨some 99, none, .build [(0, 1), (1, 1)] #[.slice none 0 0, .slice none 0 0] [(0, (.tmp 94)), (1, (.tmp 98))]⟩,
    ⟨some 100, none, .mkSl 51 2 1 #[.slice none 0 0, .slice none 0 0] [(0, (.tmp 99))]⟩,
    ⟨some 101, none, .app 51 2 48 (.agg #[.slice none 0 0, .slice none 0 0]) (.tmp 89) (.tmp 100)⟩,
    ⟨some 102, none, .nilck (.tmp 85)⟩,
    ⟨some 103, none, .faddr 2 (.tmp 102)⟩,
    ⟨none, none, .store 1 (.tmp 103) (.tmp 101)⟩] [[⟨0, ⟨some 85, none, .mov (.tmp 8)⟩, false, []⟩,
    ⟨1, ⟨some 86, none, .mov (.tmp 8)⟩, false, []⟩,
    ⟨2, ⟨some 87, none, .nilck (.tmp 86)⟩, false, []⟩,
    ⟨3, ⟨some 88, none, .faddr 2 (.tmp 87)⟩, false, []⟩,
    ⟨4, ⟨some 89, none, .load1 (.tmp 88)⟩, true, []⟩,
    ⟨5, ⟨some 90, none, .mov (.tmp 0)⟩, false, []⟩,
    ⟨6, ⟨some 91, none, .mov (.tmp 10)⟩, false, []⟩,
    ⟨7, ⟨some 92, none, .ixS 2 (.tmp 90) (.tmp 91)⟩, false, []⟩,
    ⟨8, ⟨some 93, none, .faddr 0 (.tmp 92)⟩, false, []⟩,
    ⟨9, ⟨some 94, none, .load1 (.tmp 93)⟩, true, []⟩,
    ⟨10, ⟨some 95, none, .mov (.tmp 8)⟩, false, []⟩,
    ⟨11, ⟨some 96, none, .mov (.tmp 11)⟩, false, []⟩,
    ⟨12, ⟨some 97, none, .call 68 [(.tmp 95), (.tmp 96)]⟩, false, [4, 9, 15]⟩,
    ⟨13, ⟨some 98, none, .call 69 [(.tmp 97)]⟩, false, [4, 9, 15]⟩,
    ⟨14, ⟨some 99, none, .build [(0, 1), (1, 1)] #[.slice none 0 0, .slice none 0 0] [(0, (.tmp 94)), (1, (.tmp 98))]⟩, false, []⟩,
    ⟨15, ⟨some 100, none, .mkSl 51 2 1 #[.slice none 0 0, .slice none 0 0] [(0, (.tmp 99))]⟩, false, []⟩,
    ⟨16, ⟨some 101, none, .app 51 2 48 (.agg #[.slice none 0 0, .slice none 0 0]) (.tmp 89) (.tmp 100)⟩, false, []⟩],
   [⟨17, ⟨some 102, none, .nilck (.tmp 85)⟩, false, []⟩],
   [⟨18, ⟨some 103, none, .faddr 2 (.tmp 102)⟩, false, []⟩],
   [⟨19, ⟨none, none, .store 1 (.tmp 103) (.tmp 101)⟩, false, []⟩]]
def R34_28 : RC := .reg [⟨some 104, none, .mov (.tmp 10)⟩,
    ⟨some 105, none, .bin .add 3 (.tmp 104) (.const (.int .i64 1))⟩,
    ⟨some 9, none, .mov (.tmp 105)⟩]
def R34_29 : RC := .seq R34_27 R34_28
def R34_30 : RC := .seq R34_26 R34_29
def R34_31 : RC := .seq R34_21 R34_30
def R34_32 : RC := .seq R34_20 R34_31
def R34_33 : RC := .seq R34_17 R34_32
def R34_34 : RC := .block 1 R34_33
def R34_35 : RC := .reg [⟨some 106, none, .bin .add 3 (.tmp 32) (.const (.int .i64 1))⟩,
    ⟨some 32, none, .mov (.tmp 106)⟩]
def R34_36 : RC := .seq R34_34 R34_35
def R34_37 : RC := .seq R34_16 R34_36
def R34_38 : RC := .seq R34_15 R34_37
def R34_39 : RC := .loop R34_38
def R34_40 : RC := .block 0 R34_39
def R34_41 : RC := .seq R34_14 R34_40
def R34_42 : RC := .reg [⟨some 108, none, .mov (.tmp 6)⟩,
    ⟨some 109, none, .faddr 2 (.tmp 3)⟩,
    ⟨some 110, none, .load1 (.tmp 109)⟩,
    ⟨some 111, none, .call 70 [(.tmp 108), (.tmp 110)]⟩,
    ⟨some 107, none, .mov (.tmp 111)⟩,
    ⟨some 112, none, .extr (.tmp 107) 0⟩,
    ⟨some 113, none, .extr (.tmp 107) 1⟩,
    ⟨some 13, none, .mov (.tmp 112)⟩,
    ⟨some 7, none, .mov (.tmp 113)⟩]
def R34_43 : RC := .reg [⟨some 114, none, .mov (.tmp 7)⟩,
    ⟨some 115, none, .bin .neq 59 (.tmp 114) (.const (.int .i64 0))⟩]
def R34_44 : RC := .reg [⟨some 4, none, .mov (.const (.slice none 0 0))⟩,
    ⟨some 5, none, .mov (.const (.int .i64 2))⟩]
def R34_45 : RC := .seq R34_44 (.ret)
def R34_46 : RC := .cond (.tmp 115) R34_45 (.skip)
def R34_47 : RC := .seq R34_43 R34_46
def R34_48 : RC := .reg [⟨some 116, none, .mov (.tmp 8)⟩,
    ⟨some 117, none, .mov (.tmp 13)⟩,
    ⟨some 118, none, .call 68 [(.tmp 116), (.tmp 117)]⟩,
    ⟨some 14, none, .newv 123 (.agg #[.int .i64 0, .int .i64 0])⟩,
    ⟨none, none, .store 2 (.tmp 14) (.tmp 118)⟩]
def R34_49 : RC := .reg [⟨some 120, none, .mov (.tmp 8)⟩,
    ⟨some 121, none, .nilck (.tmp 120)⟩,
    ⟨some 122, none, .faddr 2 (.tmp 121)⟩,
    ⟨some 123, none, .load1 (.tmp 122)⟩,
    ⟨some 124, none, .call 67 [(.tmp 123), (.const (.int .i64 1))]⟩,
    ⟨some 119, none, .mov (.tmp 124)⟩,
    ⟨some 125, none, .extr (.tmp 119) 0⟩,
    ⟨some 126, none, .extr (.tmp 119) 1⟩,
    ⟨some 15, none, .mov (.tmp 125)⟩,
    ⟨some 7, none, .mov (.tmp 126)⟩]
def R34_50 : RC := .reg [⟨some 127, none, .mov (.tmp 7)⟩,
    ⟨some 128, none, .bin .neq 59 (.tmp 127) (.const (.int .i64 0))⟩]
def R34_51 : RC := .reg [⟨some 4, none, .mov (.const (.slice none 0 0))⟩,
    ⟨some 5, none, .mov (.const (.int .i64 2))⟩]
def R34_52 : RC := .seq R34_51 (.ret)
def R34_53 : RC := .cond (.tmp 128) R34_52 (.skip)
def R34_54 : RC := .seq R34_50 R34_53
def R34_55 : RC := .draw [⟨some 129, none, .mov (.tmp 8)⟩,
    ⟨some 130, none, .loadN 2 (.tmp 14)⟩,
    ⟨some 131, none, .mov (.tmp 8)⟩,
    ⟨some 132, none, .mov (.tmp 15)⟩,
    ⟨some 133, none, .call 68 [(.tmp 131), (.tmp 132)]⟩,
    ⟨some 134, none, .mov (.tmp 0)⟩,
    ⟨some 135, none, .lenS (.tmp 134)⟩,
    ⟨some 136, none, .loadN 3 (.tmp 3)⟩,
    ⟨some 137, none, .call 71 [(.tmp 129), (.tmp 130), (.tmp 133), (.tmp 135), (.tmp 136)]⟩] [[⟨0, ⟨some 129, none, .mov (.tmp 8)⟩, false, []⟩,
    ⟨1, ⟨some 130, none, .loadN 2 (.tmp 14)⟩, true, []⟩,
    ⟨2, ⟨some 131, none, .mov (.tmp 8)⟩, false, []⟩,
    ⟨3, ⟨some 132, none, .mov (.tmp 15)⟩, false, []⟩,
    ⟨5, ⟨some 134, none, .mov (.tmp 0)⟩, false, []⟩,
    ⟨6, ⟨some 135, none, .lenS (.tmp 134)⟩, false, []⟩,
    ⟨7, ⟨some 136, none, .loadN 3 (.tmp 3)⟩, true, []⟩,
    ⟨4, ⟨some 133, none, .call 68 [(.tmp 131), (.tmp 132)]⟩, false, [1, 7]⟩],
   [⟨8, ⟨some 137, none, .call 71 [(.tmp 129), (.tmp 130), (.tmp 133), (.tmp 135), (.tmp 136)]⟩, false, []⟩]]
def R34_56 : RC := .reg [⟨some 138, none, .mov (.tmp 8)⟩,
    ⟨some 139, none, .nilck (.tmp 138)⟩,
    ⟨some 140, none, .faddr 1 (.tmp 139)⟩,
    ⟨some 141, none, .load1 (.tmp 140)⟩,
    ⟨some 142, none, .lenS (.tmp 141)⟩,
    ⟨some 143, none, .bin .gtr 3 (.tmp 142) (.const (.int .i64 16777216))⟩]
def R34_57 : RC := .reg [⟨some 4, none, .mov (.const (.slice none 0 0))⟩,
    ⟨some 5, none, .mov (.const (.int .i64 2))⟩]
def R34_58 : RC := .seq R34_57 (.ret)
def R34_59 : RC := .cond (.tmp 143) R34_58 (.skip)
def R34_60 : RC := .seq R34_56 R34_59
def R34_61 : RC := .reg [⟨some 144, none, .mov (.tmp 8)⟩,
    ⟨some 145, none, .nilck (.tmp 144)⟩,
    ⟨some 146, none, .faddr 1 (.tmp 145)⟩,
    ⟨some 147, none, .load1 (.tmp 146)⟩,
    ⟨some 4, none, .mov (.tmp 147)⟩,
    ⟨some 5, none, .mov (.const (.int .i64 0))⟩]
def R34_62 : RC := .seq R34_61 (.ret)
def R34_63 : RC := .seq R34_60 R34_62
def R34_64 : RC := .seq R34_55 R34_63
def R34_65 : RC := .seq R34_54 R34_64
def R34_66 : RC := .seq R34_49 R34_65
def R34_67 : RC := .seq R34_48 R34_66
def R34_68 : RC := .seq R34_47 R34_67
def R34_69 : RC := .seq R34_42 R34_68
def R34_70 : RC := .seq R34_41 R34_69
def R34_71 : RC := .seq R34_13 R34_70
def R34_72 : RC := .seq R34_12 R34_71
def R34_73 : RC := .seq R34_11 R34_72
def R34_74 : RC := .seq R34_6 R34_73
def R34_75 : RC := .seq R34_5 R34_74
def R34_76 : RC := .seq R34_0 R34_75

theorem fn34 : FnOK Tryz.prog 34 ⟨R34_76, [.tmp 4, .tmp 5], 148⟩ :=
  ⟨Tryz.f34, Tryz.f34.body.getD .skip, Tryz.func34, by kernel_rfl, by kernel_rfl, by kernel_rfl, by kernel_rfl, by kernel_rfl⟩
-- 35: lectern/lecternref16.Encode
def R35_0 : RC := .reg [⟨some 1, none, .box 85 (.tmp 0)⟩,
    ⟨some 2, none, .mov (.const (.slice none 0 0))⟩,
    ⟨some 3, none, .mov (.const (.int .i64 0))⟩]
def R35_1 : RC := .reg [⟨some 5, none, .faddr 0 (.tmp 1)⟩,
    ⟨some 6, none, .load1 (.tmp 5)⟩,
    ⟨some 7, none, .bin .lss 3 (.tmp 6) (.const (.int .i64 0))⟩,
    ⟨some 8, none, .mov (.tmp 7)⟩,
    ⟨some 9, some (8, false), .faddr 0 (.tmp 1)⟩,
    ⟨some 10, some (8, false), .load1 (.tmp 9)⟩,
    ⟨some 11, some (8, false), .bin .gtr 3 (.tmp 10) (.const (.int .i64 65535))⟩,
    ⟨some 12, none, .pick (.tmp 8) (.const (.bool true)) (.tmp 11)⟩,
    ⟨some 13, none, .mov (.tmp 12)⟩,
    ⟨some 14, some (13, false), .faddr 2 (.tmp 1)⟩,
    ⟨some 15, some (13, false), .load1 (.tmp 14)⟩,
    ⟨some 16, some (13, false), .bin .lss 3 (.tmp 15) (.const (.int .i64 0))⟩,
    ⟨some 17, none, .pick (.tmp 13) (.const (.bool true)) (.tmp 16)⟩,
    ⟨some 18, none, .mov (.tmp 17)⟩,
    ⟨some 19, some (18, false), .faddr 2 (.tmp 1)⟩,
    ⟨some 20, some (18, false), .load1 (.tmp 19)⟩,
    ⟨some 21, some (18, false), .bin .gtr 3 (.tmp 20) (.const (.int .i64 281474976710655))⟩,
    ⟨some 22, none, .pick (.tmp 18) (.const (.bool true)) (.tmp 21)⟩,
    ⟨some 23, none, .mov (.tmp 22)⟩,
    ⟨some 24, some (23, false), .faddr 3 (.tmp 1)⟩,
    ⟨some 25, some (23, false), .load1 (.tmp 24)⟩,
    ⟨some 26, some (23, false), .bin .lss 3 (.tmp 25) (.const (.int .i64 0))⟩,
    ⟨some 27, none, .pick (.tmp 23) (.const (.bool true)) (.tmp 26)⟩,
    ⟨some 28, none, .mov (.tmp 27)⟩,
    ⟨some 29, some (28, false), .faddr 3 (.tmp 1)⟩,
    ⟨some 30, some (28, false), .load1 (.tmp 29)⟩,
    ⟨some 31, some (28, false), .bin .gtr 3 (.tmp 30) (.const (.int .i64 1))⟩,
    ⟨some 32, none, .pick (.tmp 28) (.const (.bool true)) (.tmp 31)⟩]
def R35_2 : RC := .reg [⟨some 2, none, .mov (.const (.slice none 0 0))⟩,
    ⟨some 3, none, .mov (.const (.int .i64 1))⟩]
def R35_3 : RC := .seq R35_2 (.ret)
def R35_4 : RC := .cond (.tmp 32) R35_3 (.skip)
def R35_5 : RC := .seq R35_1 R35_4
def R35_6 : RC := .reg [⟨some 33, none, .faddr 1 (.tmp 1)⟩,
    ⟨some 34, none, .load1 (.tmp 33)⟩,
    ⟨some 35, none, .lenS (.tmp 34)⟩,
    ⟨some 36, none, .bin .gtr 3 (.tmp 35) (.const (.int .i64 65536))⟩,
    ⟨some 37, none, .mov (.tmp 36)⟩,
    ⟨some 38, some (37, false), .faddr 4 (.tmp 1)⟩,
    ⟨some 39, some (37, false), .load1 (.tmp 38)⟩,
    ⟨some 40, some (37, false), .lenT (.tmp 39)⟩,
    ⟨some 41, some (37, false), .bin .gtr 3 (.tmp 40) (.const (.int .i64 1024))⟩,
    ⟨some 42, none, .pick (.tmp 37) (.const (.bool true)) (.tmp 41)⟩]
def R35_7 : RC := .reg [⟨some 2, none, .mov (.const (.slice none 0 0))⟩,
    ⟨some 3, none, .mov (.const (.int .i64 2))⟩]
def R35_8 : RC := .seq R35_7 (.ret)
def R35_9 : RC := .cond (.tmp 42) R35_8 (.skip)
def R35_10 : RC := .seq R35_6 R35_9
def R35_11 : RC := .draw [⟨some 43, none, .faddr 0 (.tmp 1)⟩,
    ⟨some 44, none, .load1 (.tmp 43)⟩,
    ⟨some 45, none, .call 72 [(.tmp 44), (.const (.int .i64 2))]⟩,
    ⟨some 46, none, .faddr 1 (.tmp 1)⟩,
    ⟨some 47, none, .load1 (.tmp 46)⟩,
    ⟨some 48, none, .call 73 [(.tmp 47)]⟩,
    ⟨some 49, none, .app 5 1 1 (.int .u8 0) (.tmp 45) (.tmp 48)⟩,
    ⟨some 4, none, .mov (.tmp 49)⟩] [[⟨0, ⟨some 43, none, .faddr 0 (.tmp 1)⟩, false, []⟩,
    ⟨1, ⟨some 44, none, .load1 (.tmp 43)⟩, true, []⟩,
    ⟨3, ⟨some 46, none, .faddr 1 (.tmp 1)⟩, false, []⟩,
    ⟨4, ⟨some 47, none, .load1 (.tmp 46)⟩, true, []⟩,
    ⟨2, ⟨some 45, none, .call 72 [(.tmp 44), (.const (.int .i64 2))]⟩, false, [4]⟩],
   [⟨5, ⟨some 48, none, .call 73 [(.tmp 47)]⟩, false, []⟩],
   [⟨6, ⟨some 49, none, .app 5 1 1 (.int .u8 0) (.tmp 45) (.tmp 48)⟩, false, []⟩],
   [⟨7, ⟨some 4, none, .mov (.tmp 49)⟩, false, []⟩]]
def R35_12 : RC := .reg [⟨some 50, none, .mov (.tmp 4)⟩,
    ⟨some 51, none, .faddr 2 (.tmp 1)⟩,
    ⟨some 52, none, .load1 (.tmp 51)⟩,
    ⟨some 53, none, .bin .sub 3 (.const (.int .i64 281474976710655)) (.tmp 52)⟩,
    ⟨some 54, none, .call 72 [(.tmp 53), (.const (.int .i64 6))]⟩,
    ⟨some 55, none, .app 5 1 1 (.int .u8 0) (.tmp 50) (.tmp 54)⟩,
    ⟨some 4, none, .mov (.tmp 55)⟩]
def R35_13 : RC := .draw [⟨some 56, none, .mov (.tmp 4)⟩,
    ⟨some 57, none, .faddr 3 (.tmp 1)⟩,
    ⟨some 58, none, .load1 (.tmp 57)⟩,
    ⟨some 59, none, .bin .sub 3 (.const (.int .i64 1)) (.tmp 58)⟩,
    ⟨some 60, none, .cvInt .u8 (.tmp 59)⟩,
    ⟨some 61, none, .mkSl 5 1 1 #[.int .u8 0] [(0, (.tmp 60))]⟩,
    ⟨some 62, none, .app 5 1 1 (.int .u8 0) (.tmp 56) (.tmp 61)⟩,
    ⟨some 63, none, .faddr 4 (.tmp 1)⟩,
    ⟨some 64, none, .load1 (.tmp 63)⟩,
    ⟨some 65, none, .app 5 1 1 (.int .u8 0) (.tmp 62) (.tmp 64)⟩,
    ⟨some 2, none, .mov (.tmp 65)⟩,
    ⟨some 3, none, .mov (.const (.int .i64 0))⟩] [[⟨0, ⟨some 56, none, .mov (.tmp 4)⟩, false, []⟩,
    ⟨1, ⟨some 57, none, .faddr 3 (.tmp 1)⟩, false, []⟩,
    ⟨2, ⟨some 58, none, .load1 (.tmp 57)⟩, true, []⟩,
    ⟨3, ⟨some 59, none, .bin .sub 3 (.const (.int .i64 1)) (.tmp 58)⟩, false, []⟩,
    ⟨4, ⟨some 60, none, .cvInt .u8 (.tmp 59)⟩, false, []⟩,
    ⟨5, ⟨some 61, none, .mkSl 5 1 1 #[.int .u8 0] [(0, (.tmp 60))]⟩, false, []⟩,
    ⟨7, ⟨some 63, none, .faddr 4 (.tmp 1)⟩, false, []⟩,
    ⟨8, ⟨some 64, none, .load1 (.tmp 63)⟩, true, []⟩,
    ⟨6, ⟨some 62, none, .app 5 1 1 (.int .u8 0) (.tmp 56) (.tmp 61)⟩, false, [8]⟩],
   [⟨9, ⟨some 65, none, .app 5 1 1 (.int .u8 0) (.tmp 62) (.tmp 64)⟩, false, []⟩],
   [⟨10, ⟨some 2, none, .mov (.tmp 65)⟩, false, []⟩],
   [⟨11, ⟨some 3, none, .mov (.const (.int .i64 0))⟩, false, []⟩]]
def R35_14 : RC := .seq R35_13 (.ret)
def R35_15 : RC := .seq R35_12 R35_14
def R35_16 : RC := .seq R35_11 R35_15
def R35_17 : RC := .seq R35_10 R35_16
def R35_18 : RC := .seq R35_5 R35_17
def R35_19 : RC := .seq R35_0 R35_18

theorem fn35 : FnOK Tryz.prog 35 ⟨R35_19, [.tmp 2, .tmp 3], 66⟩ :=
  ⟨Tryz.f35, Tryz.f35.body.getD .skip, Tryz.func35, by kernel_rfl, by kernel_rfl, by kernel_rfl, by kernel_rfl, by kernel_rfl⟩
-- 36: lectern/sst.Open
def R36_0 : RC := .reg [⟨some 2, none, .newv 24 (.pointer none)⟩,
    ⟨some 3, none, .newv 59 (.int .i64 0)⟩]
def R36_1 : RC := .reg [⟨some 5, none, .mkFn (.func 74) [] [(.tmp 2), (.tmp 3)]⟩,
    ⟨none, none, .defr ⟨.value (.tmp 5), #[], #[]⟩ 0⟩]
def R36_2 : RC := .reg [⟨some 6, none, .mov (.tmp 0)⟩,
    ⟨some 7, none, .lenS (.tmp 6)⟩,
    ⟨some 8, none, .bin .leq 3 (.tmp 7) (.const (.int .i64 16777216))⟩,
    ⟨some 9, none, .call 75 [(.tmp 8), (.const (.int .i64 2))]⟩]
def R36_3 : RC := .reg [⟨some 10, none, .mov (.tmp 0)⟩,
    ⟨some 11, none, .call 41 [(.tmp 10)]⟩,
    ⟨some 12, none, .call 65 []⟩,
    ⟨some 13, none, .build [(0, 1), (1, 1), (2, 1), (3, 3), (6, 1), (7, 1), (8, 1), (9, 1), (10, 1)] #[.int .i64 0, .slice none 0 0, .pointer none, .int .i64 0, .int .i64 0, .int .i64 0, .int .i64 0, .slice none 0 0, .slice none 0 0, .slice none 0 0, .int .i64 0] [(0, (.const (.int .i64 1))), (1, (.tmp 11)), (2, (.tmp 12))]⟩,
    ⟨some 14, none, .box 36 (.tmp 13)⟩,
    ⟨some 4, none, .mov (.tmp 14)⟩]
def R36_4 : RC := .reg [⟨some 15, none, .mov (.tmp 4)⟩,
    ⟨some 16, none, .call 76 [(.tmp 15)]⟩]
def R36_5 : RC := .reg [⟨some 17, none, .mov (.tmp 4)⟩,
    ⟨none, none, .store 1 (.tmp 2) (.tmp 17)⟩,
    ⟨none, none, .store 1 (.tmp 3) (.const (.int .i64 0))⟩]
def R36_6 : RC := .seq R36_5 (.ret)
def R36_7 : RC := .seq R36_4 R36_6
def R36_8 : RC := .seq R36_3 R36_7
def R36_9 : RC := .seq R36_2 R36_8
def R36_10 : RC := .seq R36_1 R36_9
def R36_11 : RC := .seq R36_0 R36_10

theorem fn36 : FnOK Tryz.prog 36 ⟨R36_11, [.cell1 2, .cell1 3], 18⟩ :=
  ⟨Tryz.f36, Tryz.f36.body.getD .skip, Tryz.func36, by kernel_rfl, by kernel_rfl, by kernel_rfl, by kernel_rfl, by kernel_rfl⟩
-- 37: (*lectern/sst.Table).is
def R37_0 : RC := .reg [⟨some 2, none, .mov (.const (.bool false))⟩]
def R37_1 : RC := .reg [⟨some 3, none, .mov (.tmp 0)⟩,
    ⟨some 4, none, .eqP true (.tmp 3) (.const (.pointer none))⟩,
    ⟨some 5, none, .mov (.tmp 4)⟩,
    ⟨some 6, some (5, true), .mov (.tmp 0)⟩,
    ⟨some 7, some (5, true), .nilck (.tmp 6)⟩,
    ⟨some 8, some (5, true), .faddr 0 (.tmp 7)⟩,
    ⟨some 9, some (5, true), .load1 (.tmp 8)⟩,
    ⟨some 10, some (5, true), .bin .eql 3 (.tmp 9) (.const (.int .i64 1))⟩,
    ⟨some 11, none, .pick (.tmp 5) (.tmp 10) (.const (.bool false))⟩,
    ⟨some 2, none, .mov (.tmp 11)⟩]
def R37_2 : RC := .seq R37_1 (.ret)
def R37_3 : RC := .seq R37_0 R37_2

theorem fn37 : FnOK Tryz.prog 37 ⟨R37_3, [.tmp 2], 12⟩ :=
  ⟨Tryz.f37, Tryz.f37.body.getD .skip, Tryz.func37, by kernel_rfl, by kernel_rfl, by kernel_rfl, by kernel_rfl, by kernel_rfl⟩
-- 38: (*lectern/sst.Table).place
def R38_0 : RC := .reg [⟨some 4, none, .mov (.const (.int .i64 0))⟩]
def R38_1 : RC := .reg [⟨some 8, none, .mov (.tmp 0)⟩,
    ⟨some 9, none, .nilck (.tmp 8)⟩,
    ⟨some 10, none, .faddr 8 (.tmp 9)⟩,
    ⟨some 11, none, .load1 (.tmp 10)⟩,
    ⟨some 12, none, .mov (.tmp 1)⟩,
    ⟨some 13, none, .call 77 [(.tmp 11), (.tmp 12), (.func 78)]⟩,
    ⟨some 7, none, .mov (.tmp 13)⟩,
    ⟨some 14, none, .extr (.tmp 7) 0⟩,
    ⟨some 15, none, .extr (.tmp 7) 1⟩,
    ⟨some 5, none, .mov (.tmp 14)⟩,
    ⟨some 6, none, .mov (.tmp 15)⟩]
def R38_2 : RC := .reg [⟨some 16, none, .mov (.tmp 5)⟩,
    ⟨some 4, none, .mov (.tmp 16)⟩]
def R38_3 : RC := .seq R38_2 (.ret)
def R38_4 : RC := .seq R38_1 R38_3
def R38_5 : RC := .seq R38_0 R38_4

theorem fn38 : FnOK Tryz.prog 38 ⟨R38_5, [.tmp 4], 17⟩ :=
  ⟨Tryz.f38, Tryz.f38.body.getD .skip, Tryz.func38, by kernel_rfl, by kernel_rfl, by kernel_rfl, by kernel_rfl, by kernel_rfl⟩
-- 39: (*lectern/sst.Table).block
def R39_0 : RC := .reg [⟨some 4, none, .mov (.const (.slice none 0 0))⟩]
def R39_1 : RC := .reg [⟨some 9, none, .mov (.tmp 0)⟩,
    ⟨some 10, none, .nilck (.tmp 9)⟩,
    ⟨some 11, none, .faddr 10 (.tmp 10)⟩,
    ⟨some 12, none, .call 79 [(.tmp 11), (.const (.int .i64 1))]⟩]
def R39_2 : RC := .reg [⟨some 14, none, .mov (.tmp 0)⟩,
    ⟨some 15, none, .mov (.tmp 0)⟩,
    ⟨some 16, none, .nilck (.tmp 15)⟩,
    ⟨some 17, none, .faddr 9 (.tmp 16)⟩,
    ⟨some 18, none, .load1 (.tmp 17)⟩,
    ⟨some 19, none, .mov (.tmp 1)⟩,
    ⟨some 20, none, .ixS 2 (.tmp 18) (.tmp 19)⟩,
    ⟨some 21, none, .loadN 2 (.tmp 20)⟩,
    ⟨some 22, none, .call 80 [(.tmp 14), (.tmp 21)]⟩,
    ⟨some 13, none, .mov (.tmp 22)⟩,
    ⟨some 23, none, .extr (.tmp 13) 0⟩,
    ⟨some 24, none, .extr (.tmp 13) 1⟩,
    ⟨some 5, none, .mov (.tmp 23)⟩,
    ⟨some 6, none, .mov (.tmp 24)⟩]
def R39_3 : RC := .reg [⟨some 25, none, .mov (.tmp 6)⟩,
    ⟨some 26, none, .un .not (.tmp 25)⟩]
def R39_4 : RC := .reg [⟨some 4, none, .mov (.const (.slice none 0 0))⟩]
def R39_5 : RC := .seq R39_4 (.ret)
def R39_6 : RC := .cond (.tmp 26) R39_5 (.skip)
def R39_7 : RC := .seq R39_3 R39_6
def R39_8 : RC := .reg [⟨some 28, none, .mov (.tmp 5)⟩,
    ⟨some 29, none, .call 81 [(.tmp 28)]⟩,
    ⟨some 27, none, .mov (.tmp 29)⟩,
    ⟨some 30, none, .extr (.tmp 27) 0⟩,
    ⟨some 31, none, .extr (.tmp 27) 1⟩,
    ⟨some 7, none, .mov (.tmp 30)⟩,
    ⟨some 8, none, .mov (.tmp 31)⟩]
def R39_9 : RC := .draw [⟨some 32, none, .mov (.tmp 8)⟩,
    ⟨some 33, none, .bin .neq 59 (.tmp 32) (.const (.int .i64 0))⟩,
    ⟨some 34, none, .mov (.tmp 33)⟩,
    ⟨some 35, some (34, false), .mov (.tmp 7)⟩,
    ⟨some 36, some (34, false), .lenS (.tmp 35)⟩,
    ⟨some 37, some (34, false), .bin .eql 3 (.tmp 36) (.const (.int .i64 0))⟩,
    ⟨some 38, none, .pick (.tmp 34) (.const (.bool true)) (.tmp 37)⟩,
    ⟨some 39, none, .mov (.tmp 38)⟩,
    ⟨some 40, some (39, false), .mov (.tmp 7)⟩,
    ⟨some 41, some (39, false), .mov (.tmp 7)⟩,
    ⟨some 42, some (39, false), .lenS (.tmp 41)⟩,
    ⟨some 43, some (39, false), .bin .sub 3 (.tmp 42) (.const (.int .i64 1))⟩,
    ⟨some 44, some (39, false), .ixS 2 (.tmp 40) (.tmp 43)⟩,
    ⟨some 45, some (39, false), .faddr 0 (.tmp 44)⟩,
    ⟨some 46, some (39, false), .load1 (.tmp 45)⟩,
    ⟨some 47, some (39, false), .mov (.tmp 0)⟩,
    ⟨some 48, some (39, false), .nilck (.tmp 47)⟩,
    ⟨some 49, some (39, false), .faddr 8 (.tmp 48)⟩,
    ⟨some 50, some (39, false), .load1 (.tmp 49)⟩,
    ⟨some 51, some (39, false), .mov (.tmp 1)⟩,
    ⟨some 52, some (39, false), .ixS 1 (.tmp 50) (.tmp 51)⟩,
    ⟨some 53, some (39, false), .load1 (.tmp 52)⟩,
    ⟨some 54, some (39, false), .call 82 [(.tmp 46), (.tmp 53)]⟩,
    ⟨some 55, some (39, false), .un .not (.tmp 54)⟩,
    ⟨some 56, none, .pick (.tmp 39) (.const (.bool true)) (.tmp 55)⟩,
    ⟨some 57, none, .mov (.tmp 56)⟩,
    ⟨some 58, some (57, false), .mov (.tmp 1)⟩,
    ⟨some 59, some (57, false), .bin .gtr 3 (.tmp 58) (.const (.int .i64 0))⟩,
    ⟨some 60, some (57, false), .mov (.tmp 59)⟩,
    ⟨some 61, some (60, true), .mov (.tmp 7)⟩,
    ⟨some 62, some (60, true), .ixS 2 (.tmp 61) (.const (.int .i64 0))⟩,
    ⟨some 63, some (60, true), .faddr 0 (.tmp 62)⟩,
    ⟨some 64, some (60, true), .load1 (.tmp 63)⟩,
    ⟨some 65, some (60, true), .mov (.tmp 0)⟩,
    ⟨some 66, some (60, true), .nilck (.tmp 65)⟩,
    ⟨some 67, some (60, true), .faddr 8 (.tmp 66)⟩,
    ⟨some 68, some (60, true), .load1 (.tmp 67)⟩,
    ⟨some 69, some (60, true), .mov (.tmp 1)⟩,
    ⟨some 70, some (60, true), .bin .sub 3 (.tmp 69) (.const (.int .i64 1))⟩,
    ⟨some 71, some (60, true), .ixS 1 (.tmp 68) (.tmp 70)⟩,
    ⟨some 72, some (60, true), .load1 (.tmp 71)⟩,
    ⟨some 73, some (60, true), .call 78 [(.tmp 64), (.tmp 72)]⟩,
    ⟨some 74, some (60, true), .bin .leq 3 (.tmp 73) (.const (.int .i64 0))⟩,
    ⟨some 75, some (57, false), .pick (.tmp 60) (.tmp 74) (.const (.bool false))⟩,
    ⟨some 76, none, .pick (.tmp 57) (.const (.bool true)) (.tmp 75)⟩] [[⟨0, ⟨some 32, none, .mov (.tmp 8)⟩, false, []⟩],
   [⟨1, ⟨some 33, none, .bin .neq 59 (.tmp 32) (.const (.int .i64 0))⟩, false, []⟩],
   [⟨2, ⟨some 34, none, .mov (.tmp 33)⟩, false, []⟩],
   [⟨3, ⟨some 35, some (34, false), .mov (.tmp 7)⟩, false, []⟩],
   [⟨4, ⟨some 36, some (34, false), .lenS (.tmp 35)⟩, false, []⟩],
   [⟨5, ⟨some 37, some (34, false), .bin .eql 3 (.tmp 36) (.const (.int .i64 0))⟩, false, []⟩],
   [⟨6, ⟨some 38, none, .pick (.tmp 34) (.const (.bool true)) (.tmp 37)⟩, false, []⟩],
   [⟨7, ⟨some 39, none, .mov (.tmp 38)⟩, false, []⟩],
   [⟨8, ⟨some 40, some (39, false), .mov (.tmp 7)⟩, false, []⟩,
    ⟨9, ⟨some 41, some (39, false), .mov (.tmp 7)⟩, false, []⟩,
    ⟨10, ⟨some 42, some (39, false), .lenS (.tmp 41)⟩, false, []⟩,
    ⟨11, ⟨some 43, some (39, false), .bin .sub 3 (.tmp 42) (.const (.int .i64 1))⟩, false, []⟩,
    ⟨12, ⟨some 44, some (39, false), .ixS 2 (.tmp 40) (.tmp 43)⟩, false, []⟩,
    ⟨13, ⟨some 45, some (39, false), .faddr 0 (.tmp 44)⟩, false, []⟩,
    ⟨14, ⟨some 46, some (39, false), .load1 (.tmp 45)⟩, true, []⟩,
    ⟨15, ⟨some 47, some (39, false), .mov (.tmp 0)⟩, false, []⟩,
    ⟨16, ⟨some 48, some (39, false), .nilck (.tmp 47)⟩, false, []⟩,
    ⟨17, ⟨some 49, some (39, false), .faddr 8 (.tmp 48)⟩, false, []⟩,
    ⟨18, ⟨some 50, some (39, false), .load1 (.tmp 49)⟩, true, []⟩,
    ⟨19, ⟨some 51, some (39, false), .mov (.tmp 1)⟩, false, []⟩,
    ⟨20, ⟨some 52, some (39, false), .ixS 1 (.tmp 50) (.tmp 51)⟩, false, []⟩,
    ⟨21, ⟨some 53, some (39, false), .load1 (.tmp 52)⟩, true, []⟩],
   [⟨22, ⟨some 54, some (39, false), .call 82 [(.tmp 46), (.tmp 53)]⟩, false, [32, 36, 40]⟩],
   [⟨23, ⟨some 55, some (39, false), .un .not (.tmp 54)⟩, false, []⟩],
   [⟨24, ⟨some 56, none, .pick (.tmp 39) (.const (.bool true)) (.tmp 55)⟩, false, []⟩],
   [⟨25, ⟨some 57, none, .mov (.tmp 56)⟩, false, []⟩],
   [⟨26, ⟨some 58, some (57, false), .mov (.tmp 1)⟩, false, []⟩],
   [⟨27, ⟨some 59, some (57, false), .bin .gtr 3 (.tmp 58) (.const (.int .i64 0))⟩, false, []⟩],
   [⟨28, ⟨some 60, some (57, false), .mov (.tmp 59)⟩, false, []⟩],
   [⟨29, ⟨some 61, some (60, true), .mov (.tmp 7)⟩, false, []⟩,
    ⟨30, ⟨some 62, some (60, true), .ixS 2 (.tmp 61) (.const (.int .i64 0))⟩, false, []⟩,
    ⟨31, ⟨some 63, some (60, true), .faddr 0 (.tmp 62)⟩, false, []⟩,
    ⟨32, ⟨some 64, some (60, true), .load1 (.tmp 63)⟩, true, []⟩,
    ⟨33, ⟨some 65, some (60, true), .mov (.tmp 0)⟩, false, []⟩,
    ⟨34, ⟨some 66, some (60, true), .nilck (.tmp 65)⟩, false, []⟩,
    ⟨35, ⟨some 67, some (60, true), .faddr 8 (.tmp 66)⟩, false, []⟩,
    ⟨36, ⟨some 68, some (60, true), .load1 (.tmp 67)⟩, true, []⟩,
    ⟨37, ⟨some 69, some (60, true), .mov (.tmp 1)⟩, false, []⟩,
    ⟨38, ⟨some 70, some (60, true), .bin .sub 3 (.tmp 69) (.const (.int .i64 1))⟩, false, []⟩,
    ⟨39, ⟨some 71, some (60, true), .ixS 1 (.tmp 68) (.tmp 70)⟩, false, []⟩,
    ⟨40, ⟨some 72, some (60, true), .load1 (.tmp 71)⟩, true, []⟩],
   [⟨41, ⟨some 73, some (60, true), .call 78 [(.tmp 64), (.tmp 72)]⟩, false, []⟩],
   [⟨42, ⟨some 74, some (60, true), .bin .leq 3 (.tmp 73) (.const (.int .i64 0))⟩, false, []⟩],
   [⟨43, ⟨some 75, some (57, false), .pick (.tmp 60) (.tmp 74) (.const (.bool false))⟩, false, []⟩],
   [⟨44, ⟨some 76, none, .pick (.tmp 57) (.const (.bool true)) (.tmp 75)⟩, false, []⟩]]
def R39_10 : RC := .reg [⟨some 4, none, .mov (.const (.slice none 0 0))⟩]
def R39_11 : RC := .seq R39_10 (.ret)
def R39_12 : RC := .cond (.tmp 76) R39_11 (.skip)
def R39_13 : RC := .seq R39_9 R39_12
def R39_14 : RC := .reg [⟨some 77, none, .mov (.tmp 7)⟩,
    ⟨some 4, none, .mov (.tmp 77)⟩]
def R39_15 : RC := .seq R39_14 (.ret)
def R39_16 : RC := .seq R39_13 R39_15
def R39_17 : RC := .seq R39_8 R39_16
def R39_18 : RC := .seq R39_7 R39_17
def R39_19 : RC := .seq R39_2 R39_18
def R39_20 : RC := .seq R39_1 R39_19
def R39_21 : RC := .seq R39_0 R39_20

theorem fn39 : FnOK Tryz.prog 39 ⟨R39_21, [.tmp 4], 78⟩ :=
  ⟨Tryz.f39, Tryz.f39.body.getD .skip, Tryz.func39, by kernel_rfl, by kernel_rfl, by kernel_rfl, by kernel_rfl, by kernel_rfl⟩
-- 40: lectern/sst.find
def R40_0 : RC := .reg [⟨some 4, none, .mov (.const (.int .i64 0))⟩,
    ⟨some 5, none, .mov (.const (.bool false))⟩]
def R40_1 : RC := .reg [⟨some 6, none, .mov (.tmp 0)⟩,
    ⟨some 7, none, .mov (.tmp 1)⟩,
    ⟨some 8, none, .call 83 [(.tmp 6), (.tmp 7), (.func 84)]⟩,
    ⟨some 9, none, .extr (.tmp 8) 0⟩,
    ⟨some 10, none, .extr (.tmp 8) 1⟩,
    ⟨some 4, none, .mov (.tmp 9)⟩,
    ⟨some 5, none, .mov (.tmp 10)⟩]
def R40_2 : RC := .seq R40_1 (.ret)
def R40_3 : RC := .seq R40_0 R40_2

theorem fn40 : FnOK Tryz.prog 40 ⟨R40_3, [.tmp 4, .tmp 5], 11⟩ :=
  ⟨Tryz.f40, Tryz.f40.body.getD .skip, Tryz.func40, by kernel_rfl, by kernel_rfl, by kernel_rfl, by kernel_rfl, by kernel_rfl⟩
-- 41: slices.Clone[[]byte,byte]
def R41_0 : RC := .reg [⟨some 2, none, .mov (.const (.slice none 0 0))⟩]
def R41_1 : RC := .reg [⟨some 3, none, .mov (.tmp 0)⟩,
    ⟨some 4, none, .eqS false (.tmp 3) (.const (.slice none 0 0))⟩]
def R41_2 : RC := .reg [⟨some 2, none, .mov (.const (.slice none 0 0))⟩]
def R41_3 : RC := .seq R41_2 (.ret)
def R41_4 : RC := .cond (.tmp 4) R41_3 (.skip)
def R41_5 : RC := .seq R41_1 R41_4
def R41_6 : RC := .reg [⟨some 5, none, .mkSl 5 1 0 #[] []⟩,
    ⟨some 6, none, .mov (.tmp 0)⟩,
    ⟨some 7, none, .app 5 1 1 (.int .u8 0) (.tmp 5) (.tmp 6)⟩,
    ⟨some 2, none, .mov (.tmp 7)⟩]
def R41_7 : RC := .seq R41_6 (.ret)
def R41_8 : RC := .seq R41_5 R41_7
def R41_9 : RC := .seq R41_0 R41_8

theorem fn41 : FnOK Tryz.prog 41 ⟨R41_9, [.tmp 2], 8⟩ :=
  ⟨Tryz.f41, Tryz.f41.body.getD .skip, Tryz.func41, by kernel_rfl, by kernel_rfl, by kernel_rfl, by kernel_rfl, by kernel_rfl⟩
-- 42: lectern/bloom.May
def R42_0 : RC := .reg [⟨some 2, none, .box 22 (.tmp 0)⟩,
    ⟨some 4, none, .newv 4 (.bool false)⟩]
def R42_1 : RC := .reg [⟨some 8, none, .load1 (.tmp 2)⟩,
    ⟨some 9, none, .lenS (.tmp 8)⟩,
    ⟨some 10, none, .bin .sub 3 (.tmp 9) (.const (.int .i64 1))⟩,
    ⟨some 5, none, .mov (.tmp 10)⟩]
def R42_2 : RC := .reg [⟨some 11, none, .mov (.tmp 5)⟩,
    ⟨some 12, none, .bin .lss 3 (.tmp 11) (.const (.int .i64 1))⟩]
def R42_3 : RC := .reg [⟨none, none, .store 1 (.tmp 4) (.const (.bool false))⟩]
def R42_4 : RC := .seq R42_3 (.ret)
def R42_5 : RC := .cond (.tmp 12) R42_4 (.skip)
def R42_6 : RC := .seq R42_2 R42_5
def R42_7 : RC := .reg [⟨some 13, none, .load1 (.tmp 2)⟩,
    ⟨some 14, none, .mov (.tmp 5)⟩,
    ⟨some 15, none, .ixS 1 (.tmp 13) (.tmp 14)⟩,
    ⟨some 16, none, .load1 (.tmp 15)⟩,
    ⟨some 17, none, .cvInt .i64 (.tmp 16)⟩,
    ⟨some 6, none, .mov (.tmp 17)⟩]
def R42_8 : RC := .reg [⟨some 18, none, .mov (.tmp 6)⟩,
    ⟨some 19, none, .bin .gtr 3 (.tmp 18) (.const (.int .i64 30))⟩]
def R42_9 : RC := .reg [⟨none, none, .store 1 (.tmp 4) (.const (.bool true))⟩]
def R42_10 : RC := .seq R42_9 (.ret)
def R42_11 : RC := .cond (.tmp 19) R42_10 (.skip)
def R42_12 : RC := .seq R42_8 R42_11
def R42_13 : RC := .reg [⟨some 20, none, .mov (.tmp 1)⟩,
    ⟨some 21, none, .mov (.tmp 6)⟩,
    ⟨some 22, none, .mov (.tmp 5)⟩,
    ⟨some 23, none, .bin .mul 3 (.const (.int .i64 8)) (.tmp 22)⟩,
    ⟨some 24, none, .cvInt .u32 (.tmp 23)⟩,
    ⟨some 25, none, .call 85 [(.tmp 20), (.tmp 21), (.tmp 24)]⟩]
def R42_14 : RC := .reg [⟨some 7, none, .mov (.tmp 26)⟩]
def R42_15 : RC := .reg [⟨some 27, none, .load1 (.tmp 2)⟩,
    ⟨some 28, none, .mov (.tmp 7)⟩,
    ⟨some 29, none, .bin .quo 142 (.tmp 28) (.const (.int .u32 8))⟩,
    ⟨some 30, none, .ixS 1 (.tmp 27) (.tmp 29)⟩,
    ⟨some 31, none, .load1 (.tmp 30)⟩,
    ⟨some 32, none, .mov (.tmp 7)⟩,
    ⟨some 33, none, .bin .rem 142 (.tmp 32) (.const (.int .u32 8))⟩,
    ⟨some 34, none, .bin .shr 5 (.tmp 31) (.tmp 33)⟩,
    ⟨some 35, none, .bin .and 5 (.tmp 34) (.const (.int .u8 1))⟩,
    ⟨some 36, none, .bin .eql 5 (.tmp 35) (.const (.int .u8 0))⟩]
def R42_16 : RC := .reg [⟨none, none, .store 1 (.tmp 4) (.const (.bool false))⟩]
def R42_17 : RC := .seq R42_16 (.ret)
def R42_18 : RC := .cond (.tmp 36) R42_17 (.skip)
def R42_19 : RC := .seq R42_15 R42_18
def R42_20 : RC := .block 1 R42_19
def R42_21 : RC := .range (.tmp 25) #[26] R42_14 R42_20
def R42_22 : RC := .block 0 R42_21
def R42_23 : RC := .seq R42_13 R42_22
def R42_24 : RC := .reg [⟨none, none, .store 1 (.tmp 4) (.const (.bool true))⟩]
def R42_25 : RC := .seq R42_24 (.ret)
def R42_26 : RC := .seq R42_23 R42_25
def R42_27 : RC := .seq R42_12 R42_26
def R42_28 : RC := .seq R42_7 R42_27
def R42_29 : RC := .seq R42_6 R42_28
def R42_30 : RC := .seq R42_1 R42_29
def R42_31 : RC := .seq R42_0 R42_30

theorem fn42 : FnOK Tryz.prog 42 ⟨R42_31, [.cell1 4], 37⟩ :=
  ⟨Tryz.f42, Tryz.f42.body.getD .skip, Tryz.func42, by kernel_rfl, by kernel_rfl, by kernel_rfl, by kernel_rfl, by kernel_rfl⟩
-- 43: (*sync/atomic.Int64).Load
def R43_0 : RC := .reg [⟨some 2, none, .mov (.const (.int .i64 0))⟩]
def R43_1 : RC := .reg [⟨some 3, none, .mov (.tmp 0)⟩,
    ⟨some 4, none, .nilck (.tmp 3)⟩,
    ⟨some 5, none, .faddr 0 (.tmp 4)⟩,
    ⟨some 6, none, .ext 86 [(.tmp 5)]⟩,
    ⟨some 2, none, .mov (.tmp 6)⟩]
def R43_2 : RC := .seq R43_1 (.ret)
def R43_3 : RC := .seq R43_0 R43_2

theorem fn43 : FnOK Tryz.prog 43 ⟨R43_3, [.tmp 2], 7⟩ :=
  ⟨Tryz.f43, Tryz.f43.body.getD .skip, Tryz.func43, by kernel_rfl, by kernel_rfl, by kernel_rfl, by kernel_rfl, by kernel_rfl⟩
-- 44: (*lectern/sst.Iter).is
def R44_0 : RC := .reg [⟨some 2, none, .mov (.const (.bool false))⟩]
def R44_1 : RC := .reg [⟨some 3, none, .mov (.tmp 0)⟩,
    ⟨some 4, none, .eqP true (.tmp 3) (.const (.pointer none))⟩,
    ⟨some 5, none, .mov (.tmp 4)⟩,
    ⟨some 6, some (5, true), .mov (.tmp 0)⟩,
    ⟨some 7, some (5, true), .nilck (.tmp 6)⟩,
    ⟨some 8, some (5, true), .faddr 0 (.tmp 7)⟩,
    ⟨some 9, some (5, true), .load1 (.tmp 8)⟩,
    ⟨some 10, some (5, true), .call 37 [(.tmp 9)]⟩,
    ⟨some 11, none, .pick (.tmp 5) (.tmp 10) (.const (.bool false))⟩,
    ⟨some 2, none, .mov (.tmp 11)⟩]
def R44_2 : RC := .seq R44_1 (.ret)
def R44_3 : RC := .seq R44_0 R44_2

theorem fn44 : FnOK Tryz.prog 44 ⟨R44_3, [.tmp 2], 12⟩ :=
  ⟨Tryz.f44, Tryz.f44.body.getD .skip, Tryz.func44, by kernel_rfl, by kernel_rfl, by kernel_rfl, by kernel_rfl, by kernel_rfl⟩
-- 45: (*lectern/sst.Iter).from
def R45_0 : RC := .reg [⟨some 6, none, .mov (.const (.bool false))⟩]
def R45_1 : RC := .reg [⟨some 7, none, .mov (.tmp 0)⟩,
    ⟨some 8, none, .mov (.tmp 1)⟩,
    ⟨some 9, none, .nilck (.tmp 7)⟩,
    ⟨some 10, none, .faddr 2 (.tmp 9)⟩,
    ⟨none, none, .store 1 (.tmp 10) (.tmp 8)⟩]
def R45_2 : RC := .draw [⟨some 11, none, .mov (.tmp 0)⟩,
    ⟨some 12, none, .nilck (.tmp 11)⟩,
    ⟨some 13, none, .faddr 2 (.tmp 12)⟩,
    ⟨some 14, none, .load1 (.tmp 13)⟩,
    ⟨some 15, none, .mov (.tmp 0)⟩,
    ⟨some 16, none, .nilck (.tmp 15)⟩,
    ⟨some 17, none, .faddr 0 (.tmp 16)⟩,
    ⟨some 18, none, .load1 (.tmp 17)⟩,
    ⟨some 19, none, .nilck (.tmp 18)⟩,
    ⟨some 20, none, .faddr 9 (.tmp 19)⟩,
    ⟨some 21, none, .load1 (.tmp 20)⟩,
    ⟨some 22, none, .lenS (.tmp 21)⟩,
    ⟨some 23, none, .bin .lss 3 (.tmp 14) (.tmp 22)⟩] [[⟨0, ⟨some 11, none, .mov (.tmp 0)⟩, false, []⟩,
    ⟨1, ⟨some 12, none, .nilck (.tmp 11)⟩, false, []⟩,
    ⟨2, ⟨some 13, none, .faddr 2 (.tmp 12)⟩, false, []⟩,
    ⟨3, ⟨some 14, none, .load1 (.tmp 13)⟩, true, []⟩,
    ⟨4, ⟨some 15, none, .mov (.tmp 0)⟩, false, []⟩,
    ⟨5, ⟨some 16, none, .nilck (.tmp 15)⟩, false, []⟩,
    ⟨6, ⟨some 17, none, .faddr 0 (.tmp 16)⟩, false, []⟩,
    ⟨7, ⟨some 18, none, .load1 (.tmp 17)⟩, true, []⟩,
    ⟨8, ⟨some 19, none, .nilck (.tmp 18)⟩, false, []⟩,
    ⟨9, ⟨some 20, none, .faddr 9 (.tmp 19)⟩, false, []⟩,
    ⟨10, ⟨some 21, none, .load1 (.tmp 20)⟩, true, []⟩,
    ⟨11, ⟨some 22, none, .lenS (.tmp 21)⟩, false, []⟩],
   [⟨12, ⟨some 23, none, .bin .lss 3 (.tmp 14) (.tmp 22)⟩, false, []⟩]]
def R45_3 : RC := .cond (.tmp 23) (.skip) (.exit 0)
def R45_4 : RC := .seq R45_2 R45_3
def R45_5 : RC := .draw [⟨some 31, none, .mov (.tmp 0)⟩,
    ⟨some 32, none, .mov (.tmp 0)⟩,
    ⟨some 33, none, .nilck (.tmp 32)⟩,
    ⟨some 34, none, .faddr 0 (.tmp 33)⟩,
    ⟨some 35, none, .load1 (.tmp 34)⟩,
    ⟨some 36, none, .mov (.tmp 0)⟩,
    ⟨some 37, none, .nilck (.tmp 36)⟩,
    ⟨some 38, none, .faddr 2 (.tmp 37)⟩,
    ⟨some 39, none, .load1 (.tmp 38)⟩,
    ⟨some 40, none, .call 39 [(.tmp 35), (.tmp 39)]⟩,
    ⟨some 41, none, .nilck (.tmp 31)⟩,
    ⟨some 42, none, .faddr 4 (.tmp 41)⟩,
    ⟨none, none, .store 1 (.tmp 42) (.tmp 40)⟩] [[⟨0, ⟨some 31, none, .mov (.tmp 0)⟩, false, []⟩,
    ⟨1, ⟨some 32, none, .mov (.tmp 0)⟩, false, []⟩,
    ⟨2, ⟨some 33, none, .nilck (.tmp 32)⟩, false, []⟩,
    ⟨3, ⟨some 34, none, .faddr 0 (.tmp 33)⟩, false, []⟩,
    ⟨4, ⟨some 35, none, .load1 (.tmp 34)⟩, true, []⟩,
    ⟨5, ⟨some 36, none, .mov (.tmp 0)⟩, false, []⟩,
    ⟨6, ⟨some 37, none, .nilck (.tmp 36)⟩, false, []⟩,
    ⟨7, ⟨some 38, none, .faddr 2 (.tmp 37)⟩, false, []⟩,
    ⟨8, ⟨some 39, none, .load1 (.tmp 38)⟩, true, []⟩,
    ⟨9, ⟨some 40, none, .call 39 [(.tmp 35), (.tmp 39)]⟩, false, []⟩],
   [⟨10, ⟨some 41, none, .nilck (.tmp 31)⟩, false, []⟩],
   [⟨11, ⟨some 42, none, .faddr 4 (.tmp 41)⟩, false, []⟩],
   [⟨12, ⟨none, none, .store 1 (.tmp 42) (.tmp 40)⟩, false, []⟩]]
def R45_6 : RC := .reg [⟨some 43, none, .mov (.tmp 0)⟩,
    ⟨some 44, none, .mov (.tmp 2)⟩,
    ⟨some 45, none, .mov (.tmp 0)⟩,
    ⟨some 46, none, .nilck (.tmp 45)⟩,
    ⟨some 47, none, .faddr 4 (.tmp 46)⟩,
    ⟨some 48, none, .load1 (.tmp 47)⟩,
    ⟨some 49, none, .callV (.tmp 44) [(.tmp 48)]⟩,
    ⟨some 50, none, .nilck (.tmp 43)⟩,
    ⟨some 51, none, .faddr 3 (.tmp 50)⟩,
    ⟨none, none, .store 1 (.tmp 51) (.tmp 49)⟩]
def R45_7 : RC := .draw [⟨some 52, none, .mov (.tmp 0)⟩,
    ⟨some 53, none, .nilck (.tmp 52)⟩,
    ⟨some 54, none, .faddr 3 (.tmp 53)⟩,
    ⟨some 55, none, .load1 (.tmp 54)⟩,
    ⟨some 56, none, .mov (.tmp 0)⟩,
    ⟨some 57, none, .nilck (.tmp 56)⟩,
    ⟨some 58, none, .faddr 4 (.tmp 57)⟩,
    ⟨some 59, none, .load1 (.tmp 58)⟩,
    ⟨some 60, none, .lenS (.tmp 59)⟩,
    ⟨some 61, none, .bin .lss 3 (.tmp 55) (.tmp 60)⟩] [[⟨0, ⟨some 52, none, .mov (.tmp 0)⟩, false, []⟩,
    ⟨1, ⟨some 53, none, .nilck (.tmp 52)⟩, false, []⟩,
    ⟨2, ⟨some 54, none, .faddr 3 (.tmp 53)⟩, false, []⟩,
    ⟨3, ⟨some 55, none, .load1 (.tmp 54)⟩, true, []⟩,
    ⟨4, ⟨some 56, none, .mov (.tmp 0)⟩, false, []⟩,
    ⟨5, ⟨some 57, none, .nilck (.tmp 56)⟩, false, []⟩,
    ⟨6, ⟨some 58, none, .faddr 4 (.tmp 57)⟩, false, []⟩,
    ⟨7, ⟨some 59, none, .load1 (.tmp 58)⟩, true, []⟩,
    ⟨8, ⟨some 60, none, .lenS (.tmp 59)⟩, false, []⟩],
   [⟨9, ⟨some 61, none, .bin .lss 3 (.tmp 55) (.tmp 60)⟩, false, []⟩]]
def R45_8 : RC := .reg [⟨some 62, none, .mov (.tmp 0)⟩,
    ⟨some 63, none, .nilck (.tmp 62)⟩,
    ⟨some 64, none, .faddr 1 (.tmp 63)⟩,
    ⟨none, none, .store 1 (.tmp 64) (.const (.int .i64 1))⟩]
def R45_9 : RC := .reg [⟨some 6, none, .mov (.const (.bool true))⟩]
def R45_10 : RC := .seq R45_9 (.ret)
def R45_11 : RC := .seq R45_8 R45_10
def R45_12 : RC := .cond (.tmp 61) R45_11 (.skip)
def R45_13 : RC := .seq R45_7 R45_12
def R45_14 : RC := .seq R45_6 R45_13
def R45_15 : RC := .seq R45_5 R45_14
def R45_16 : RC := .block 1 R45_15
def R45_17 : RC := .reg [⟨some 24, none, .mov (.tmp 0)⟩,
    ⟨some 25, none, .nilck (.tmp 24)⟩,
    ⟨some 26, none, .faddr 2 (.tmp 25)⟩,
    ⟨some 27, none, .load1 (.tmp 26)⟩,
    ⟨some 28, none, .bin .add 3 (.tmp 27) (.const (.int .i64 1))⟩,
    ⟨some 29, none, .nilck (.tmp 24)⟩,
    ⟨some 30, none, .faddr 2 (.tmp 29)⟩,
    ⟨none, none, .store 1 (.tmp 30) (.tmp 28)⟩]
def R45_18 : RC := .seq R45_16 R45_17
def R45_19 : RC := .seq R45_4 R45_18
def R45_20 : RC := .loop R45_19
def R45_21 : RC := .block 0 R45_20
def R45_22 : RC := .seq R45_1 R45_21
def R45_23 : RC := .reg [⟨some 65, none, .mov (.tmp 0)⟩,
    ⟨some 66, none, .mov (.tmp 0)⟩,
    ⟨some 67, none, .nilck (.tmp 65)⟩,
    ⟨some 68, none, .faddr 1 (.tmp 67)⟩,
    ⟨none, none, .store 1 (.tmp 68) (.const (.int .i64 2))⟩,
    ⟨some 69, none, .nilck (.tmp 66)⟩,
    ⟨some 70, none, .faddr 4 (.tmp 69)⟩,
    ⟨none, none, .store 1 (.tmp 70) (.const (.slice none 0 0))⟩]
def R45_24 : RC := .reg [⟨some 6, none, .mov (.const (.bool false))⟩]
def R45_25 : RC := .seq R45_24 (.ret)
def R45_26 : RC := .seq R45_23 R45_25
def R45_27 : RC := .seq R45_22 R45_26
def R45_28 : RC := .seq R45_0 R45_27

theorem fn45 : FnOK Tryz.prog 45 ⟨R45_28, [.tmp 6], 71⟩ :=
  ⟨Tryz.f45, Tryz.f45.body.getD .skip, Tryz.func45, by kernel_rfl, by kernel_rfl, by kernel_rfl, by kernel_rfl, by kernel_rfl⟩
-- 46: lectern/sst.begin
def R46_0 : RC := .reg [⟨some 2, none, .mov (.const (.int .i64 0))⟩]
def R46_1 : RC := .reg [⟨some 2, none, .mov (.const (.int .i64 0))⟩]
def R46_2 : RC := .seq R46_1 (.ret)
def R46_3 : RC := .seq R46_0 R46_2

theorem fn46 : FnOK Tryz.prog 46 ⟨R46_3, [.tmp 2], 3⟩ :=
  ⟨Tryz.f46, Tryz.f46.body.getD .skip, Tryz.func46, by kernel_rfl, by kernel_rfl, by kernel_rfl, by kernel_rfl, by kernel_rfl⟩
-- 47: (*lectern/sst.Iter).Seek$1
def R47_0 : RC := .reg [⟨some 3, none, .mov (.const (.int .i64 0))⟩]
def R47_1 : RC := .reg [⟨some 7, none, .mov (.tmp 0)⟩,
    ⟨some 8, none, .load1 (.tmp 1)⟩,
    ⟨some 9, none, .call 40 [(.tmp 7), (.tmp 8)]⟩,
    ⟨some 6, none, .mov (.tmp 9)⟩,
    ⟨some 10, none, .extr (.tmp 6) 0⟩,
    ⟨some 11, none, .extr (.tmp 6) 1⟩,
    ⟨some 4, none, .mov (.tmp 10)⟩,
    ⟨some 5, none, .mov (.tmp 11)⟩]
def R47_2 : RC := .reg [⟨some 12, none, .mov (.tmp 4)⟩,
    ⟨some 3, none, .mov (.tmp 12)⟩]
def R47_3 : RC := .seq R47_2 (.ret)
def R47_4 : RC := .seq R47_1 R47_3
def R47_5 : RC := .seq R47_0 R47_4

theorem fn47 : FnOK Tryz.prog 47 ⟨R47_5, [.tmp 3], 13⟩ :=
  ⟨Tryz.f47, Tryz.f47.body.getD .skip, Tryz.func47, by kernel_rfl, by kernel_rfl, by kernel_rfl, by kernel_rfl, by kernel_rfl⟩
-- 63: lectern/sst.planMay
def R63_0 : RC := .reg [⟨some 1, none, .box 27 (.tmp 0)⟩,
    ⟨some 2, none, .mov (.const (.bool false))⟩]
def R63_1 : RC := .reg [⟨some 3, none, .faddr 0 (.tmp 1)⟩,
    ⟨some 4, none, .load1 (.tmp 3)⟩,
    ⟨some 5, none, .call 101 [(.tmp 4), (.const (.int .i64 64)), (.const (.int .i64 65536))]⟩,
    ⟨some 6, none, .mov (.tmp 5)⟩,
    ⟨some 7, some (6, true), .faddr 1 (.tmp 1)⟩,
    ⟨some 8, some (6, true), .load1 (.tmp 7)⟩,
    ⟨some 9, some (6, true), .call 101 [(.tmp 8), (.const (.int .i64 1)), (.const (.int .i64 1024))]⟩,
    ⟨some 10, none, .pick (.tmp 6) (.tmp 9) (.const (.bool false))⟩,
    ⟨some 11, none, .mov (.tmp 10)⟩,
    ⟨some 12, some (11, true), .faddr 2 (.tmp 1)⟩,
    ⟨some 13, some (11, true), .load1 (.tmp 12)⟩,
    ⟨some 14, some (11, true), .call 101 [(.tmp 13), (.const (.int .i64 1)), (.const (.int .i64 64))]⟩,
    ⟨some 15, none, .pick (.tmp 11) (.tmp 14) (.const (.bool false))⟩,
    ⟨some 2, none, .mov (.tmp 15)⟩]
def R63_2 : RC := .seq R63_1 (.ret)
def R63_3 : RC := .seq R63_0 R63_2

theorem fn63 : FnOK Tryz.prog 63 ⟨R63_3, [.tmp 2], 16⟩ :=
  ⟨Tryz.f63, Tryz.f63.body.getD .skip, Tryz.func63, by kernel_rfl, by kernel_rfl, by kernel_rfl, by kernel_rfl, by kernel_rfl⟩
-- 64: lectern/sst.check
def R64_0 : RC := .reg [⟨some 2, none, .mov (.const (.slice none 0 0))⟩,
    ⟨some 3, none, .mov (.const (.int .i64 0))⟩]
def R64_1 : RC := .reg [⟨some 4, none, .mov (.const (.slice none 0 0))⟩]
def R64_2 : RC := .reg [⟨some 12, none, .mov (.tmp 0)⟩,
    ⟨some 13, none, .lenS (.tmp 12)⟩,
    ⟨some 14, none, .mov (.const (.int .i64 0))⟩]
def R64_3 : RC := .reg [⟨some 15, none, .bin .lss 3 (.tmp 14) (.tmp 13)⟩]
def R64_4 : RC := .cond (.tmp 15) (.skip) (.exit 0)
def R64_5 : RC := .reg [⟨some 16, none, .mov (.tmp 14)⟩,
    ⟨some 17, none, .ixS 2 (.tmp 12) (.tmp 14)⟩,
    ⟨some 18, none, .loadN 2 (.tmp 17)⟩,
    ⟨some 6, none, .newv 51 (.agg #[.slice none 0 0, .slice none 0 0])⟩,
    ⟨some 5, none, .mov (.tmp 16)⟩,
    ⟨none, none, .store 2 (.tmp 6) (.tmp 18)⟩]
def R64_6 : RC := .reg [⟨some 20, none, .faddr 0 (.tmp 6)⟩,
    ⟨some 21, none, .load1 (.tmp 20)⟩,
    ⟨some 22, none, .call 102 [(.tmp 21)]⟩,
    ⟨some 19, none, .mov (.tmp 22)⟩,
    ⟨some 23, none, .extr (.tmp 19) 0⟩,
    ⟨some 24, none, .extr (.tmp 19) 1⟩,
    ⟨some 25, none, .extr (.tmp 19) 2⟩,
    ⟨some 26, none, .extr (.tmp 19) 3⟩,
    ⟨some 7, none, .mov (.tmp 23)⟩,
    ⟨some 8, none, .mov (.tmp 24)⟩,
    ⟨some 9, none, .mov (.tmp 25)⟩,
    ⟨some 10, none, .mov (.tmp 26)⟩]
def R64_7 : RC := .draw [⟨some 27, none, .mov (.tmp 10)⟩,
    ⟨some 28, none, .bin .neq 59 (.tmp 27) (.const (.int .i64 0))⟩,
    ⟨some 29, none, .mov (.tmp 28)⟩,
    ⟨some 30, some (29, false), .mov (.tmp 5)⟩,
    ⟨some 31, some (29, false), .bin .gtr 3 (.tmp 30) (.const (.int .i64 0))⟩,
    ⟨some 32, some (29, false), .mov (.tmp 31)⟩,
    ⟨some 33, some (32, true), .mov (.tmp 0)⟩,
    ⟨some 34, some (32, true), .mov (.tmp 5)⟩,
    ⟨some 35, some (32, true), .bin .sub 3 (.tmp 34) (.const (.int .i64 1))⟩,
    ⟨some 36, some (32, true), .ixS 2 (.tmp 33) (.tmp 35)⟩,
    ⟨some 37, some (32, true), .faddr 0 (.tmp 36)⟩,
    ⟨some 38, some (32, true), .load1 (.tmp 37)⟩,
    ⟨some 39, some (32, true), .faddr 0 (.tmp 6)⟩,
    ⟨some 40, some (32, true), .load1 (.tmp 39)⟩,
    ⟨some 41, some (32, true), .call 78 [(.tmp 38), (.tmp 40)]⟩,
    ⟨some 42, some (32, true), .bin .geq 3 (.tmp 41) (.const (.int .i64 0))⟩,
    ⟨some 43, some (29, false), .pick (.tmp 32) (.tmp 42) (.const (.bool false))⟩,
    ⟨some 44, none, .pick (.tmp 29) (.const (.bool true)) (.tmp 43)⟩] [[⟨0, ⟨some 27, none, .mov (.tmp 10)⟩, false, []⟩],
   [⟨1, ⟨some 28, none, .bin .neq 59 (.tmp 27) (.const (.int .i64 0))⟩, false, []⟩],
   [⟨2, ⟨some 29, none, .mov (.tmp 28)⟩, false, []⟩],
   [⟨3, ⟨some 30, some (29, false), .mov (.tmp 5)⟩, false, []⟩],
   [⟨4, ⟨some 31, some (29, false), .bin .gtr 3 (.tmp 30) (.const (.int .i64 0))⟩, false, []⟩],
   [⟨5, ⟨some 32, some (29, false), .mov (.tmp 31)⟩, false, []⟩],
   [⟨6, ⟨some 33, some (32, true), .mov (.tmp 0)⟩, false, []⟩,
    ⟨7, ⟨some 34, some (32, true), .mov (.tmp 5)⟩, false, []⟩,
    ⟨8, ⟨some 35, some (32, true), .bin .sub 3 (.tmp 34) (.const (.int .i64 1))⟩, false, []⟩,
    ⟨9, ⟨some 36, some (32, true), .ixS 2 (.tmp 33) (.tmp 35)⟩, false, []⟩,
    ⟨10, ⟨some 37, some (32, true), .faddr 0 (.tmp 36)⟩, false, []⟩,
    ⟨11, ⟨some 38, some (32, true), .load1 (.tmp 37)⟩, true, []⟩,
    ⟨12, ⟨some 39, some (32, true), .faddr 0 (.tmp 6)⟩, false, []⟩,
    ⟨13, ⟨some 40, some (32, true), .load1 (.tmp 39)⟩, true, []⟩],
   [⟨14, ⟨some 41, some (32, true), .call 78 [(.tmp 38), (.tmp 40)]⟩, false, []⟩],
   [⟨15, ⟨some 42, some (32, true), .bin .geq 3 (.tmp 41) (.const (.int .i64 0))⟩, false, []⟩],
   [⟨16, ⟨some 43, some (29, false), .pick (.tmp 32) (.tmp 42) (.const (.bool false))⟩, false, []⟩],
   [⟨17, ⟨some 44, none, .pick (.tmp 29) (.const (.bool true)) (.tmp 43)⟩, false, []⟩]]
def R64_8 : RC := .reg [⟨some 2, none, .mov (.const (.slice none 0 0))⟩,
    ⟨some 3, none, .mov (.const (.int .i64 212))⟩]
def R64_9 : RC := .seq R64_8 (.ret)
def R64_10 : RC := .cond (.tmp 44) R64_9 (.skip)
def R64_11 : RC := .seq R64_7 R64_10
def R64_12 : RC := .reg [⟨some 45, none, .mov (.tmp 4)⟩,
    ⟨some 46, none, .lenS (.tmp 45)⟩,
    ⟨some 11, none, .mov (.tmp 46)⟩]
def R64_13 : RC := .reg [⟨some 47, none, .mov (.tmp 11)⟩,
    ⟨some 48, none, .bin .eql 3 (.tmp 47) (.const (.int .i64 0))⟩,
    ⟨some 49, none, .mov (.tmp 48)⟩,
    ⟨some 50, some (49, false), .mov (.tmp 4)⟩,
    ⟨some 51, some (49, false), .mov (.tmp 11)⟩,
    ⟨some 52, some (49, false), .bin .sub 3 (.tmp 51) (.const (.int .i64 1))⟩,
    ⟨some 53, some (49, false), .ixS 1 (.tmp 50) (.tmp 52)⟩,
    ⟨some 54, some (49, false), .load1 (.tmp 53)⟩,
    ⟨some 55, some (49, false), .mov (.tmp 7)⟩,
    ⟨some 56, some (49, false), .call 82 [(.tmp 54), (.tmp 55)]⟩,
    ⟨some 57, some (49, false), .un .not (.tmp 56)⟩,
    ⟨some 58, none, .pick (.tmp 49) (.const (.bool true)) (.tmp 57)⟩]
def R64_14 : RC := .reg [⟨some 59, none, .mov (.tmp 4)⟩,
    ⟨some 60, none, .mov (.tmp 7)⟩,
    ⟨some 61, none, .mkSl 22 1 1 #[.slice none 0 0] [(0, (.tmp 60))]⟩,
    ⟨some 62, none, .app 22 1 24 (.slice none 0 0) (.tmp 59) (.tmp 61)⟩,
    ⟨some 4, none, .mov (.tmp 62)⟩]
def R64_15 : RC := .cond (.tmp 58) R64_14 (.skip)
def R64_16 : RC := .seq R64_13 R64_15
def R64_17 : RC := .seq R64_12 R64_16
def R64_18 : RC := .seq R64_11 R64_17
def R64_19 : RC := .seq R64_6 R64_18
def R64_20 : RC := .seq R64_5 R64_19
def R64_21 : RC := .block 1 R64_20
def R64_22 : RC := .reg [⟨some 63, none, .bin .add 3 (.tmp 14) (.const (.int .i64 1))⟩,
    ⟨some 14, none, .mov (.tmp 63)⟩]
def R64_23 : RC := .seq R64_21 R64_22
def R64_24 : RC := .seq R64_4 R64_23
def R64_25 : RC := .seq R64_3 R64_24
def R64_26 : RC := .loop R64_25
def R64_27 : RC := .block 0 R64_26
def R64_28 : RC := .seq R64_2 R64_27
def R64_29 : RC := .reg [⟨some 64, none, .mov (.tmp 4)⟩,
    ⟨some 2, none, .mov (.tmp 64)⟩,
    ⟨some 3, none, .mov (.const (.int .i64 0))⟩]
def R64_30 : RC := .seq R64_29 (.ret)
def R64_31 : RC := .seq R64_28 R64_30
def R64_32 : RC := .seq R64_1 R64_31
def R64_33 : RC := .seq R64_0 R64_32

theorem fn64 : FnOK Tryz.prog 64 ⟨R64_33, [.tmp 2, .tmp 3], 65⟩ :=
  ⟨Tryz.f64, Tryz.f64.body.getD .skip, Tryz.func64, by kernel_rfl, by kernel_rfl, by kernel_rfl, by kernel_rfl, by kernel_rfl⟩
-- 65: lectern/crc.New
def R65_0 : RC := .reg [⟨some 0, none, .mov (.const (.pointer none))⟩]
def R65_1 : RC := .reg [⟨some 1, none, .build [(0, 1), (1, 3), (4, 1), (5, 256)] #[.int .i64 0, .int .u32 0, .int .i32 0, .int .u32 0, .int .i32 0, .int .u32 0, .int .u32 0, .int .u32 0, .int .u32 0, .int .u32 0, .int .u32 0, .int .u32 0, .int .u32 0, .int .u32 0, .int .u32 0, .int .u32 0, .int .u32 0, .int .u32 0, .int .u32 0, .int .u32 0, .int .u32 0, .int .u32 0, .int .u32 0, .int .u32 0, .int .u32 0, .int .u32 0, .int .u32 0, .int .u32 0, .int .u32 0, .int .u32 0, .int .u32 0, .int .u32 0, .int .u32 0, .int .u32 0, .int .u32 0, .int .u32 0, .int .u32 0, .int .u32 0, .int .u32 0, .int .u32 0, .int .u32 0, .int .u32 0, .int .u32 0, .int .u32 0, .int .u32 0, .int .u32 0, .int .u32 0, .int .u32 0, .int .u32 0, .int .u32 0, .int .u32 0, .int .u32 0, .int .u32 0, .int .u32 0, .int .u32 0, .int .u32 0, .int .u32 0, .int .u32 0, .int .u32 0, .int .u32 0, .int .u32 0, .int .u32 0, .int .u32 0, .int .u32 0, .int .u32 0, .int .u32 0, .int .u32 0, .int .u32 0, .int .u32 0, .int .u32 0, .int .u32 0, .int .u32 0, .int .u32 0, .int .u32 0, .int .u32 0, .int .u32 0, .int .u32 0, .int .u32 0, .int .u32 0, .int .u32 0, .int .u32 0, .int .u32 0, .int .u32 0, .int .u32 0, .int .u32 0, .int .u32 0, .int .u32 0, .int .u32 0, .int .u32 0, .int .u32 0, .int .u32 0, .int .u32 0, .int .u32 0, .int .u32 0, .int .u32 0, .int .u32 0, .int .u32 0, .int .u32 0, .int .u32 0, .int .u32 0, .int .u32 0, .int .u32 0, .int .u32 0, .int .u32 0, .int .u32 0, .int .u32 0, .int .u32 0, .int .u32 0, .int .u32 0, .int .u32 0, .int .u32 0, .int .u32 0, .int .u32 0, .int .u32 0, .int .u32 0, .int .u32 0, .int .u32 0, .int .u32 0, .int .u32 0, .int .u32 0, .int .u32 0, .int .u32 0, .int .u32 0, .int .u32 0, .int .u32 0, .int .u32 0, .int .u32 0, .int .u32 0, .int .u32 0, .int .u32 0, .int .u32 0, .int .u32 0, .int .u32 0, .int .u32 0, .int .u32 0, .int .u32 0, .int .u32 0, .int .u32 0, .int .u32 0, .int .u32 0, .int .u32 0, .int .u32 0, .int .u32 0, .int .u32 0, .int .u32 0, .int .u32 0, .int .u32 0, .int .u32 0, .int .u32 0, .int .u32 0, .int .u32 0, .int .u32 0, .int .u32 0, .int .u32 0, .int .u32 0, .int .u32 0, .int .u32 0, .int .u32 0, .int .u32 0, .int .u32 0, .int .u32 0, .int .u32 0, .int .u32 0, .int .u32 0, .int .u32 0, .int .u32 0, .int .u32 0, .int .u32 0, .int .u32 0, .int .u32 0, .int .u32 0, .int .u32 0, .int .u32 0, .int .u32 0, .int .u32 0, .int .u32 0, .int .u32 0, .int .u32 0, .int .u32 0, .int .u32 0, .int .u32 0, .int .u32 0, .int .u32 0, .int .u32 0, .int .u32 0, .int .u32 0, .int .u32 0, .int .u32 0, .int .u32 0, .int .u32 0, .int .u32 0, .int .u32 0, .int .u32 0, .int .u32 0, .int .u32 0, .int .u32 0, .int .u32 0, .int .u32 0, .int .u32 0, .int .u32 0, .int .u32 0, .int .u32 0, .int .u32 0, .int .u32 0, .int .u32 0, .int .u32 0, .int .u32 0, .int .u32 0, .int .u32 0, .int .u32 0, .int .u32 0, .int .u32 0, .int .u32 0, .int .u32 0, .int .u32 0, .int .u32 0, .int .u32 0, .int .u32 0, .int .u32 0, .int .u32 0, .int .u32 0, .int .u32 0, .int .u32 0, .int .u32 0, .int .u32 0, .int .u32 0, .int .u32 0, .int .u32 0, .int .u32 0, .int .u32 0, .int .u32 0, .int .u32 0, .int .u32 0, .int .u32 0, .int .u32 0, .int .u32 0, .int .u32 0, .int .u32 0, .int .u32 0, .int .u32 0, .int .u32 0, .int .u32 0, .int .u32 0, .int .u32 0, .int .u32 0, .int .u32 0, .int .u32 0, .int .u32 0, .int .u32 0, .int .u32 0, .int .u32 0, .int .u32 0, .int .u32 0, .int .u32 0, .int .u32 0, .int .u32 0, .int .u32 0, .int .u32 0, .int .u32 0, .int .u32 0, .int .u32 0] [(0, (.const (.int .i64 1)))]⟩,
    ⟨some 2, none, .box 195 (.tmp 1)⟩,
    ⟨some 0, none, .mov (.tmp 2)⟩]
def R65_2 : RC := .seq R65_1 (.ret)
def R65_3 : RC := .seq R65_0 R65_2

theorem fn65 : FnOK Tryz.prog 65 ⟨R65_3, [.tmp 0], 3⟩ :=
  ⟨Tryz.f65, Tryz.f65.body.getD .skip, Tryz.func65, by kernel_rfl, by kernel_rfl, by kernel_rfl, by kernel_rfl, by kernel_rfl⟩
-- 66: lectern/block.Size
def R66_0 : RC := .reg [⟨some 4, none, .mov (.const (.int .i64 0))⟩]
def R66_1 : RC := .reg [⟨some 8, none, .mov (.tmp 0)⟩,
    ⟨some 9, none, .mov (.tmp 1)⟩,
    ⟨some 10, none, .call 67 [(.tmp 8), (.tmp 9)]⟩,
    ⟨some 7, none, .mov (.tmp 10)⟩,
    ⟨some 11, none, .extr (.tmp 7) 0⟩,
    ⟨some 12, none, .extr (.tmp 7) 1⟩,
    ⟨some 5, none, .mov (.tmp 11)⟩,
    ⟨some 6, none, .mov (.tmp 12)⟩]
def R66_2 : RC := .reg [⟨some 13, none, .mov (.tmp 6)⟩,
    ⟨some 14, none, .bin .neq 59 (.tmp 13) (.const (.int .i64 0))⟩]
def R66_3 : RC := .reg [⟨some 4, none, .mov (.const (.int .i64 (-1)))⟩]
def R66_4 : RC := .seq R66_3 (.ret)
def R66_5 : RC := .cond (.tmp 14) R66_4 (.skip)
def R66_6 : RC := .seq R66_2 R66_5
def R66_7 : RC := .reg [⟨some 15, none, .mov (.tmp 5)⟩,
    ⟨some 16, none, .lenS (.tmp 15)⟩,
    ⟨some 4, none, .mov (.tmp 16)⟩]
def R66_8 : RC := .seq R66_7 (.ret)
def R66_9 : RC := .seq R66_6 R66_8
def R66_10 : RC := .seq R66_1 R66_9
def R66_11 : RC := .seq R66_0 R66_10

theorem fn66 : FnOK Tryz.prog 66 ⟨R66_11, [.tmp 4], 17⟩ :=
  ⟨Tryz.f66, Tryz.f66.body.getD .skip, Tryz.func66, by kernel_rfl, by kernel_rfl, by kernel_rfl, by kernel_rfl, by kernel_rfl⟩
-- 67: lectern/block.Build
def R67_0 : RC := .reg [⟨some 2, none, .box 43 (.tmp 0)⟩,
    ⟨some 3, none, .box 3 (.tmp 1)⟩,
    ⟨some 4, none, .mov (.const (.slice none 0 0))⟩,
    ⟨some 5, none, .mov (.const (.int .i64 0))⟩]
def R67_1 : RC := .reg [⟨some 6, none, .newv 22 (.slice none 0 0)⟩]
def R67_2 : RC := .reg [⟨some 8, none, .mkFn (.func 104) [] [(.tmp 2), (.tmp 3), (.tmp 6)]⟩,
    ⟨some 9, none, .call 103 [(.tmp 8)]⟩,
    ⟨some 7, none, .mov (.tmp 9)⟩]
def R67_3 : RC := .reg [⟨some 10, none, .mov (.tmp 7)⟩,
    ⟨some 11, none, .bin .neq 59 (.tmp 10) (.const (.int .i64 0))⟩]
def R67_4 : RC := .reg [⟨some 12, none, .mov (.tmp 7)⟩,
    ⟨some 4, none, .mov (.const (.slice none 0 0))⟩,
    ⟨some 5, none, .mov (.tmp 12)⟩]
def R67_5 : RC := .seq R67_4 (.ret)
def R67_6 : RC := .cond (.tmp 11) R67_5 (.skip)
def R67_7 : RC := .seq R67_3 R67_6
def R67_8 : RC := .seq R67_2 R67_7
def R67_9 : RC := .reg [⟨some 13, none, .load1 (.tmp 6)⟩,
    ⟨some 4, none, .mov (.tmp 13)⟩,
    ⟨some 5, none, .mov (.const (.int .i64 0))⟩]
def R67_10 : RC := .seq R67_9 (.ret)
def R67_11 : RC := .seq R67_8 R67_10
def R67_12 : RC := .seq R67_1 R67_11
def R67_13 : RC := .seq R67_0 R67_12

theorem fn67 : FnOK Tryz.prog 67 ⟨R67_13, [.tmp 4, .tmp 5], 14⟩ :=
  ⟨Tryz.f67, Tryz.f67.body.getD .skip, Tryz.func67, by kernel_rfl, by kernel_rfl, by kernel_rfl, by kernel_rfl, by kernel_rfl⟩
-- 68: (*lectern/sst.builder).lay
def R68_0 : RC := .reg [⟨some 4, none, .newv 123 (.agg #[.int .i64 0, .int .i64 0])⟩]
def R68_1 : RC := .reg [⟨some 6, none, .mov (.tmp 0)⟩,
    ⟨some 7, none, .nilck (.tmp 6)⟩,
    ⟨some 8, none, .faddr 1 (.tmp 7)⟩,
    ⟨some 9, none, .load1 (.tmp 8)⟩,
    ⟨some 10, none, .lenS (.tmp 9)⟩,
    ⟨some 11, none, .mov (.tmp 1)⟩,
    ⟨some 12, none, .lenS (.tmp 11)⟩,
    ⟨some 13, none, .build [(0, 1), (1, 1)] #[.int .i64 0, .int .i64 0] [(0, (.tmp 10)), (1, (.tmp 12))]⟩,
    ⟨some 5, none, .newv 123 (.agg #[.int .i64 0, .int .i64 0])⟩,
    ⟨none, none, .store 2 (.tmp 5) (.tmp 13)⟩]
def R68_2 : RC := .draw [⟨some 14, none, .mov (.tmp 0)⟩,
    ⟨some 15, none, .mov (.tmp 0)⟩,
    ⟨some 16, none, .nilck (.tmp 15)⟩,
    ⟨some 17, none, .faddr 1 (.tmp 16)⟩,
    ⟨some 18, none, .load1 (.tmp 17)⟩,
    ⟨some 19, none, .mov (.tmp 1)⟩,
    ⟨some 20, none, .app 5 1 1 (.int .u8 0) (.tmp 18) (.tmp 19)⟩,
    ⟨some 21, none, .mov (.tmp 0)⟩,
    ⟨some 22, none, .nilck (.tmp 21)⟩,
    ⟨some 23, none, .faddr 0 (.tmp 22)⟩,
    ⟨some 24, none, .load1 (.tmp 23)⟩,
    ⟨some 25, none, .mov (.tmp 1)⟩,
    ⟨some 26, none, .call 106 [(.tmp 24), (.tmp 25)]⟩,
    ⟨some 27, none, .app 5 1 1 (.int .u8 0) (.tmp 20) (.tmp 26)⟩,
    ⟨some 28, none, .nilck (.tmp 14)⟩,
    ⟨some 29, none, .faddr 1 (.tmp 28)⟩,
    ⟨none, none, .store 1 (.tmp 29) (.tmp 27)⟩] [[⟨0, ⟨some 14, none, .mov (.tmp 0)⟩, false, []⟩,
    ⟨1, ⟨some 15, none, .mov (.tmp 0)⟩, false, []⟩,
    ⟨2, ⟨some 16, none, .nilck (.tmp 15)⟩, false, []⟩,
    ⟨3, ⟨some 17, none, .faddr 1 (.tmp 16)⟩, false, []⟩,
    ⟨4, ⟨some 18, none, .load1 (.tmp 17)⟩, true, []⟩,
    ⟨5, ⟨some 19, none, .mov (.tmp 1)⟩, false, []⟩,
    ⟨7, ⟨some 21, none, .mov (.tmp 0)⟩, false, []⟩,
    ⟨8, ⟨some 22, none, .nilck (.tmp 21)⟩, false, []⟩,
    ⟨9, ⟨some 23, none, .faddr 0 (.tmp 22)⟩, false, []⟩,
    ⟨10, ⟨some 24, none, .load1 (.tmp 23)⟩, true, []⟩,
    ⟨11, ⟨some 25, none, .mov (.tmp 1)⟩, false, []⟩,
    ⟨6, ⟨some 20, none, .app 5 1 1 (.int .u8 0) (.tmp 18) (.tmp 19)⟩, false, [10]⟩,
    ⟨12, ⟨some 26, none, .call 106 [(.tmp 24), (.tmp 25)]⟩, false, []⟩,
    ⟨13, ⟨some 27, none, .app 5 1 1 (.int .u8 0) (.tmp 20) (.tmp 26)⟩, false, []⟩],
   [⟨14, ⟨some 28, none, .nilck (.tmp 14)⟩, false, []⟩],
   [⟨15, ⟨some 29, none, .faddr 1 (.tmp 28)⟩, false, []⟩],
   [⟨16, ⟨none, none, .store 1 (.tmp 29) (.tmp 27)⟩, false, []⟩]]
def R68_3 : RC := .reg [⟨some 30, none, .loadN 2 (.tmp 5)⟩,
    ⟨none, none, .store 2 (.tmp 4) (.tmp 30)⟩]
def R68_4 : RC := .seq R68_3 (.ret)
def R68_5 : RC := .seq R68_2 R68_4
def R68_6 : RC := .seq R68_1 R68_5
def R68_7 : RC := .seq R68_0 R68_6

theorem fn68 : FnOK Tryz.prog 68 ⟨R68_7, [.cellN 4 2], 31⟩ :=
  ⟨Tryz.f68, Tryz.f68.body.getD .skip, Tryz.func68, by kernel_rfl, by kernel_rfl, by kernel_rfl, by kernel_rfl, by kernel_rfl⟩
-- 69: (lectern/sst.span).pair
def R69_0 : RC := .reg [⟨some 1, none, .box 123 (.tmp 0)⟩,
    ⟨some 2, none, .mov (.const (.slice none 0 0))⟩]
def R69_1 : RC := .draw [⟨some 3, none, .faddr 0 (.tmp 1)⟩,
    ⟨some 4, none, .load1 (.tmp 3)⟩,
    ⟨some 5, none, .cvInt .u64 (.tmp 4)⟩,
    ⟨some 6, none, .call 107 [(.tmp 5)]⟩,
    ⟨some 7, none, .faddr 1 (.tmp 1)⟩,
    ⟨some 8, none, .load1 (.tmp 7)⟩,
    ⟨some 9, none, .cvInt .u64 (.tmp 8)⟩,
    ⟨some 10, none, .call 107 [(.tmp 9)]⟩,
    ⟨some 11, none, .app 5 1 1 (.int .u8 0) (.tmp 6) (.tmp 10)⟩,
    ⟨some 2, none, .mov (.tmp 11)⟩] [[⟨0, ⟨some 3, none, .faddr 0 (.tmp 1)⟩, false, []⟩,
    ⟨1, ⟨some 4, none, .load1 (.tmp 3)⟩, true, []⟩,
    ⟨2, ⟨some 5, none, .cvInt .u64 (.tmp 4)⟩, false, []⟩,
    ⟨4, ⟨some 7, none, .faddr 1 (.tmp 1)⟩, false, []⟩,
    ⟨5, ⟨some 8, none, .load1 (.tmp 7)⟩, true, []⟩,
    ⟨6, ⟨some 9, none, .cvInt .u64 (.tmp 8)⟩, false, []⟩,
    ⟨3, ⟨some 6, none, .call 107 [(.tmp 5)]⟩, false, [5]⟩],
   [⟨7, ⟨some 10, none, .call 107 [(.tmp 9)]⟩, false, []⟩],
   [⟨8, ⟨some 11, none, .app 5 1 1 (.int .u8 0) (.tmp 6) (.tmp 10)⟩, false, []⟩],
   [⟨9, ⟨some 2, none, .mov (.tmp 11)⟩, false, []⟩]]
def R69_2 : RC := .seq R69_1 (.ret)
def R69_3 : RC := .seq R69_0 R69_2

theorem fn69 : FnOK Tryz.prog 69 ⟨R69_3, [.tmp 2], 12⟩ :=
  ⟨Tryz.f69, Tryz.f69.body.getD .skip, Tryz.func69, by kernel_rfl, by kernel_rfl, by kernel_rfl, by kernel_rfl, by kernel_rfl⟩
-- 70: lectern/bloom.Build
def R70_0 : RC := .reg [⟨some 4, none, .mov (.const (.slice none 0 0))⟩,
    ⟨some 5, none, .mov (.const (.int .i64 0))⟩]
def R70_1 : RC := .reg [⟨some 12, none, .mov (.tmp 1)⟩,
    ⟨some 13, none, .bin .lss 3 (.tmp 12) (.const (.int .i64 1))⟩,
    ⟨some 14, none, .mov (.tmp 13)⟩,
    ⟨some 15, some (14, false), .mov (.tmp 1)⟩,
    ⟨some 16, some (14, false), .bin .gtr 3 (.tmp 15) (.const (.int .i64 64))⟩,
    ⟨some 17, none, .pick (.tmp 14) (.const (.bool true)) (.tmp 16)⟩]
def R70_2 : RC := .reg [⟨some 4, none, .mov (.const (.slice none 0 0))⟩,
    ⟨some 5, none, .mov (.const (.int .i64 1))⟩]
def R70_3 : RC := .seq R70_2 (.ret)
def R70_4 : RC := .cond (.tmp 17) R70_3 (.skip)
def R70_5 : RC := .seq R70_1 R70_4
def R70_6 : RC := .reg [⟨some 18, none, .mov (.tmp 1)⟩,
    ⟨some 19, none, .mov (.tmp 0)⟩,
    ⟨some 20, none, .lenS (.tmp 19)⟩,
    ⟨some 21, none, .bin .mul 3 (.tmp 18) (.tmp 20)⟩,
    ⟨some 22, none, .bi .max #[3, 3] 3 #[true, false] [(.const (.int .i64 64)), (.tmp 21)]⟩,
    ⟨some 23, none, .bin .add 3 (.tmp 22) (.const (.int .i64 7))⟩,
    ⟨some 24, none, .bin .quo 3 (.tmp 23) (.const (.int .i64 8))⟩,
    ⟨some 6, none, .mov (.tmp 24)⟩]
def R70_7 : RC := .reg [⟨some 25, none, .mov (.tmp 6)⟩,
    ⟨some 26, none, .bin .gtr 3 (.tmp 25) (.const (.int .i64 16777216))⟩]
def R70_8 : RC := .reg [⟨some 4, none, .mov (.const (.slice none 0 0))⟩,
    ⟨some 5, none, .mov (.const (.int .i64 2))⟩]
def R70_9 : RC := .seq R70_8 (.ret)
def R70_10 : RC := .cond (.tmp 26) R70_9 (.skip)
def R70_11 : RC := .seq R70_7 R70_10
def R70_12 : RC := .reg [⟨some 27, none, .mov (.tmp 6)⟩,
    ⟨some 28, none, .bin .add 3 (.tmp 27) (.const (.int .i64 1))⟩,
    ⟨some 29, none, .mkSlice 5 1 1 (.int .u8 0) (.tmp 28) (.tmp 28)⟩,
    ⟨some 7, none, .newv 22 (.slice none 0 0)⟩,
    ⟨none, none, .store 1 (.tmp 7) (.tmp 29)⟩]
def R70_13 : RC := .reg [⟨some 30, none, .mov (.tmp 1)⟩,
    ⟨some 31, none, .call 108 [(.tmp 30)]⟩,
    ⟨some 8, none, .mov (.tmp 31)⟩]
def R70_14 : RC := .reg [⟨some 32, none, .mov (.tmp 0)⟩,
    ⟨some 33, none, .lenS (.tmp 32)⟩,
    ⟨some 34, none, .mov (.const (.int .i64 0))⟩]
def R70_15 : RC := .reg [⟨some 35, none, .bin .lss 3 (.tmp 34) (.tmp 33)⟩]
def R70_16 : RC := .cond (.tmp 35) (.skip) (.exit 0)
def R70_17 : RC := .reg [⟨some 36, none, .ixS 1 (.tmp 32) (.tmp 34)⟩,
    ⟨some 37, none, .load1 (.tmp 36)⟩,
    ⟨some 10, none, .mov (.tmp 37)⟩]
def R70_18 : RC := .reg [⟨some 38, none, .mov (.tmp 10)⟩,
    ⟨some 39, none, .mov (.tmp 8)⟩,
    ⟨some 40, none, .mov (.tmp 6)⟩,
    ⟨some 41, none, .bin .mul 3 (.const (.int .i64 8)) (.tmp 40)⟩,
    ⟨some 42, none, .cvInt .u32 (.tmp 41)⟩,
    ⟨some 43, none, .call 85 [(.tmp 38), (.tmp 39), (.tmp 42)]⟩]
def R70_19 : RC := .reg [⟨some 11, none, .mov (.tmp 44)⟩]
def R70_20 : RC := .reg [⟨some 45, none, .load1 (.tmp 7)⟩,
    ⟨some 46, none, .mov (.tmp 11)⟩,
    ⟨some 47, none, .bin .quo 142 (.tmp 46) (.const (.int .u32 8))⟩,
    ⟨some 48, none, .ixS 1 (.tmp 45) (.tmp 47)⟩,
    ⟨some 49, none, .load1 (.tmp 48)⟩,
    ⟨some 50, none, .mov (.tmp 11)⟩,
    ⟨some 51, none, .bin .rem 142 (.tmp 50) (.const (.int .u32 8))⟩,
    ⟨some 52, none, .bin .shl 5 (.const (.int .u8 1)) (.tmp 51)⟩,
    ⟨some 53, none, .bin .or 5 (.tmp 49) (.tmp 52)⟩,
    ⟨some 54, none, .ixS 1 (.tmp 45) (.tmp 47)⟩,
    ⟨none, none, .store 1 (.tmp 54) (.tmp 53)⟩]
def R70_21 : RC := .block 3 R70_20
def R70_22 : RC := .range (.tmp 43) #[44] R70_19 R70_21
def R70_23 : RC := .block 2 R70_22
def R70_24 : RC := .seq R70_18 R70_23
def R70_25 : RC := .seq R70_17 R70_24
def R70_26 : RC := .block 1 R70_25
def R70_27 : RC := .reg [⟨some 55, none, .bin .add 3 (.tmp 34) (.const (.int .i64 1))⟩,
    ⟨some 34, none, .mov (.tmp 55)⟩]
def R70_28 : RC := .seq R70_26 R70_27
def R70_29 : RC := .seq R70_16 R70_28
def R70_30 : RC := .seq R70_15 R70_29
def R70_31 : RC := .loop R70_30
def R70_32 : RC := .block 0 R70_31
def R70_33 : RC := .seq R70_14 R70_32
def R70_34 : RC := .reg [⟨some 56, none, .load1 (.tmp 7)⟩,
    ⟨some 57, none, .mov (.tmp 6)⟩,
    ⟨some 58, none, .mov (.tmp 8)⟩,
    ⟨some 59, none, .cvInt .u8 (.tmp 58)⟩,
    ⟨some 60, none, .ixS 1 (.tmp 56) (.tmp 57)⟩,
    ⟨none, none, .store 1 (.tmp 60) (.tmp 59)⟩]
def R70_35 : RC := .reg [⟨some 61, none, .load1 (.tmp 7)⟩,
    ⟨some 4, none, .mov (.tmp 61)⟩,
    ⟨some 5, none, .mov (.const (.int .i64 0))⟩]
def R70_36 : RC := .seq R70_35 (.ret)
def R70_37 : RC := .seq R70_34 R70_36
def R70_38 : RC := .seq R70_33 R70_37
def R70_39 : RC := .seq R70_13 R70_38
def R70_40 : RC := .seq R70_12 R70_39
def R70_41 : RC := .seq R70_11 R70_40
def R70_42 : RC := .seq R70_6 R70_41
def R70_43 : RC := .seq R70_5 R70_42
def R70_44 : RC := .seq R70_0 R70_43

theorem fn70 : FnOK Tryz.prog 70 ⟨R70_44, [.tmp 4, .tmp 5], 62⟩ :=
  ⟨Tryz.f70, Tryz.f70.body.getD .skip, Tryz.func70, by kernel_rfl, by kernel_rfl, by kernel_rfl, by kernel_rfl, by kernel_rfl⟩
-- 71: (*lectern/sst.builder).foot
def R71_0 : RC := .reg [⟨some 6, none, .box 123 (.tmp 1)⟩,
    ⟨some 7, none, .box 123 (.tmp 2)⟩,
    ⟨some 9, none, .box 27 (.tmp 4)⟩]
def R71_1 : RC := .draw [⟨some 13, none, .loadN 2 (.tmp 6)⟩,
    ⟨some 14, none, .call 69 [(.tmp 13)]⟩,
    ⟨some 15, none, .loadN 2 (.tmp 7)⟩,
    ⟨some 16, none, .call 69 [(.tmp 15)]⟩,
    ⟨some 17, none, .app 5 1 1 (.int .u8 0) (.tmp 14) (.tmp 16)⟩,
    ⟨some 10, none, .mov (.tmp 17)⟩] [[⟨0, ⟨some 13, none, .loadN 2 (.tmp 6)⟩, true, []⟩,
    ⟨2, ⟨some 15, none, .loadN 2 (.tmp 7)⟩, true, []⟩,
    ⟨1, ⟨some 14, none, .call 69 [(.tmp 13)]⟩, false, [2]⟩],
   [⟨3, ⟨some 16, none, .call 69 [(.tmp 15)]⟩, false, []⟩],
   [⟨4, ⟨some 17, none, .app 5 1 1 (.int .u8 0) (.tmp 14) (.tmp 16)⟩, false, []⟩],
   [⟨5, ⟨some 10, none, .mov (.tmp 17)⟩, false, []⟩]]
def R71_2 : RC := .reg [⟨some 18, none, .mov (.tmp 3)⟩,
    ⟨some 19, none, .faddr 0 (.tmp 9)⟩,
    ⟨some 20, none, .load1 (.tmp 19)⟩,
    ⟨some 21, none, .faddr 1 (.tmp 9)⟩,
    ⟨some 22, none, .load1 (.tmp 21)⟩,
    ⟨some 23, none, .faddr 2 (.tmp 9)⟩,
    ⟨some 24, none, .load1 (.tmp 23)⟩,
    ⟨some 25, none, .buildA 1 #[.int .i64 0, .int .i64 0, .int .i64 0, .int .i64 0] [(0, (.tmp 18)), (1, (.tmp 20)), (2, (.tmp 22)), (3, (.tmp 24))]⟩,
    ⟨some 26, none, .mov (.const (.int .i64 0))⟩]
def R71_3 : RC := .reg [⟨some 27, none, .bin .lss 3 (.tmp 26) (.const (.int .i64 4))⟩]
def R71_4 : RC := .cond (.tmp 27) (.skip) (.exit 0)
def R71_5 : RC := .reg [⟨some 28, none, .ixAg 1 4 (.tmp 25) (.tmp 26)⟩,
    ⟨some 12, none, .mov (.tmp 28)⟩]
def R71_6 : RC := .reg [⟨some 29, none, .mov (.tmp 10)⟩,
    ⟨some 30, none, .mov (.tmp 12)⟩,
    ⟨some 31, none, .cvInt .u64 (.tmp 30)⟩,
    ⟨some 32, none, .call 107 [(.tmp 31)]⟩,
    ⟨some 33, none, .app 5 1 1 (.int .u8 0) (.tmp 29) (.tmp 32)⟩,
    ⟨some 10, none, .mov (.tmp 33)⟩]
def R71_7 : RC := .seq R71_5 R71_6
def R71_8 : RC := .block 1 R71_7
def R71_9 : RC := .reg [⟨some 34, none, .bin .add 3 (.tmp 26) (.const (.int .i64 1))⟩,
    ⟨some 26, none, .mov (.tmp 34)⟩]
def R71_10 : RC := .seq R71_8 R71_9
def R71_11 : RC := .seq R71_4 R71_10
def R71_12 : RC := .seq R71_3 R71_11
def R71_13 : RC := .loop R71_12
def R71_14 : RC := .block 0 R71_13
def R71_15 : RC := .seq R71_2 R71_14
def R71_16 : RC := .reg [⟨some 35, none, .mov (.tmp 10)⟩,
    ⟨some 36, none, .mov (.tmp 10)⟩,
    ⟨some 37, none, .lenS (.tmp 36)⟩,
    ⟨some 38, none, .bin .sub 3 (.const (.int .i64 40)) (.tmp 37)⟩,
    ⟨some 39, none, .appZ 5 1 1 (.int .u8 0) (.tmp 35) (.tmp 38)⟩,
    ⟨some 10, none, .mov (.tmp 39)⟩]
def R71_17 : RC := .reg [⟨some 40, none, .mov (.tmp 0)⟩,
    ⟨some 41, none, .mov (.tmp 0)⟩,
    ⟨some 42, none, .nilck (.tmp 41)⟩,
    ⟨some 43, none, .faddr 1 (.tmp 42)⟩,
    ⟨some 44, none, .load1 (.tmp 43)⟩,
    ⟨some 45, none, .mov (.tmp 10)⟩,
    ⟨some 46, none, .app 5 1 1 (.int .u8 0) (.tmp 44) (.tmp 45)⟩,
    ⟨some 47, none, .app 5 1 1 (.int .u8 0) (.tmp 46) (.const (.string ⟨#[108, 101, 99, 116, 101, 114, 110, 49]⟩))⟩,
    ⟨some 48, none, .nilck (.tmp 40)⟩,
    ⟨some 49, none, .faddr 1 (.tmp 48)⟩,
    ⟨none, none, .store 1 (.tmp 49) (.tmp 47)⟩]
def R71_18 : RC := .seq R71_16 R71_17
def R71_19 : RC := .seq R71_15 R71_18
def R71_20 : RC := .seq R71_1 R71_19
def R71_21 : RC := .seq R71_0 R71_20

theorem fn71 : FnOK Tryz.prog 71 ⟨R71_21, [], 50⟩ :=
  ⟨Tryz.f71, Tryz.f71.body.getD .skip, Tryz.func71, by kernel_rfl, by kernel_rfl, by kernel_rfl, by kernel_rfl, by kernel_rfl⟩
-- 72: lectern/lecternref16.high
def R72_0 : RC := .reg [⟨some 4, none, .mov (.const (.slice none 0 0))⟩]
def R72_1 : RC := .reg [⟨some 7, none, .mov (.tmp 1)⟩,
    ⟨some 8, none, .mkSlice 5 1 1 (.int .u8 0) (.tmp 7) (.tmp 7)⟩,
    ⟨some 5, none, .mov (.tmp 8)⟩]
def R72_2 : RC := .reg [⟨some 9, none, .mov (.tmp 1)⟩,
    ⟨some 10, none, .bin .sub 3 (.tmp 9) (.const (.int .i64 1))⟩,
    ⟨some 6, none, .mov (.tmp 10)⟩]
def R72_3 : RC := .reg [⟨some 11, none, .mov (.tmp 6)⟩,
    ⟨some 12, none, .bin .geq 3 (.tmp 11) (.const (.int .i64 0))⟩]
def R72_4 : RC := .cond (.tmp 12) (.skip) (.exit 0)
def R72_5 : RC := .seq R72_3 R72_4
def R72_6 : RC := .reg [⟨some 15, none, .mov (.tmp 5)⟩,
    ⟨some 16, none, .mov (.tmp 6)⟩,
    ⟨some 17, none, .mov (.tmp 0)⟩,
    ⟨some 18, none, .bin .rem 3 (.tmp 17) (.const (.int .i64 256))⟩,
    ⟨some 19, none, .cvInt .u8 (.tmp 18)⟩,
    ⟨some 20, none, .ixS 1 (.tmp 15) (.tmp 16)⟩,
    ⟨none, none, .store 1 (.tmp 20) (.tmp 19)⟩]
def R72_7 : RC := .reg [⟨some 21, none, .mov (.tmp 0)⟩,
    ⟨some 22, none, .bin .quo 3 (.tmp 21) (.const (.int .i64 256))⟩,
    ⟨some 0, none, .mov (.tmp 22)⟩]
def R72_8 : RC := .seq R72_6 R72_7
def R72_9 : RC := .block 1 R72_8
def R72_10 : RC := .reg [⟨some 13, none, .mov (.tmp 6)⟩,
    ⟨some 14, none, .bin .sub 3 (.tmp 13) (.const (.int .i64 1))⟩,
    ⟨some 6, none, .mov (.tmp 14)⟩]
def R72_11 : RC := .seq R72_9 R72_10
def R72_12 : RC := .seq R72_5 R72_11
def R72_13 : RC := .loop R72_12
def R72_14 : RC := .block 0 R72_13
def R72_15 : RC := .seq R72_2 R72_14
def R72_16 : RC := .reg [⟨some 23, none, .mov (.tmp 5)⟩,
    ⟨some 4, none, .mov (.tmp 23)⟩]
def R72_17 : RC := .seq R72_16 (.ret)
def R72_18 : RC := .seq R72_15 R72_17
def R72_19 : RC := .seq R72_1 R72_18
def R72_20 : RC := .seq R72_0 R72_19

theorem fn72 : FnOK Tryz.prog 72 ⟨R72_20, [.tmp 4], 24⟩ :=
  ⟨Tryz.f72, Tryz.f72.body.getD .skip, Tryz.func72, by kernel_rfl, by kernel_rfl, by kernel_rfl, by kernel_rfl, by kernel_rfl⟩
-- 73: lectern/lecternref16.Escape
def R73_0 : RC := .reg [⟨some 2, none, .mov (.const (.slice none 0 0))⟩]
def R73_1 : RC := .reg [⟨some 3, none, .mov (.const (.slice none 0 0))⟩]
def R73_2 : RC := .reg [⟨some 4, none, .mov (.const (.int .i64 0))⟩]
def R73_3 : RC := .reg [⟨some 5, none, .mov (.tmp 4)⟩,
    ⟨some 6, none, .mov (.tmp 0)⟩,
    ⟨some 7, none, .lenS (.tmp 6)⟩,
    ⟨some 8, none, .bin .lss 3 (.tmp 5) (.tmp 7)⟩]
def R73_4 : RC := .cond (.tmp 8) (.skip) (.exit 0)
def R73_5 : RC := .seq R73_3 R73_4
def R73_6 : RC := .reg [⟨some 11, none, .mov (.tmp 3)⟩,
    ⟨some 12, none, .mov (.tmp 0)⟩,
    ⟨some 13, none, .mov (.tmp 4)⟩,
    ⟨some 14, none, .ixS 1 (.tmp 12) (.tmp 13)⟩,
    ⟨some 15, none, .load1 (.tmp 14)⟩,
    ⟨some 16, none, .mkSl 5 1 1 #[.int .u8 0] [(0, (.tmp 15))]⟩,
    ⟨some 17, none, .app 5 1 1 (.int .u8 0) (.tmp 11) (.tmp 16)⟩,
    ⟨some 3, none, .mov (.tmp 17)⟩]
def R73_7 : RC := .reg [⟨some 18, none, .mov (.tmp 0)⟩,
    ⟨some 19, none, .mov (.tmp 4)⟩,
    ⟨some 20, none, .ixS 1 (.tmp 18) (.tmp 19)⟩,
    ⟨some 21, none, .load1 (.tmp 20)⟩,
    ⟨some 22, none, .bin .eql 5 (.tmp 21) (.const (.int .u8 0))⟩]
def R73_8 : RC := .reg [⟨some 23, none, .mov (.tmp 3)⟩,
    ⟨some 24, none, .mkSl 5 1 1 #[.int .u8 0] [(0, (.const (.int .u8 255)))]⟩,
    ⟨some 25, none, .app 5 1 1 (.int .u8 0) (.tmp 23) (.tmp 24)⟩,
    ⟨some 3, none, .mov (.tmp 25)⟩]
def R73_9 : RC := .cond (.tmp 22) R73_8 (.skip)
def R73_10 : RC := .seq R73_7 R73_9
def R73_11 : RC := .seq R73_6 R73_10
def R73_12 : RC := .block 1 R73_11
def R73_13 : RC := .reg [⟨some 9, none, .mov (.tmp 4)⟩,
    ⟨some 10, none, .bin .add 3 (.tmp 9) (.const (.int .i64 1))⟩,
    ⟨some 4, none, .mov (.tmp 10)⟩]
def R73_14 : RC := .seq R73_12 R73_13
def R73_15 : RC := .seq R73_5 R73_14
def R73_16 : RC := .loop R73_15
def R73_17 : RC := .block 0 R73_16
def R73_18 : RC := .seq R73_2 R73_17
def R73_19 : RC := .reg [⟨some 26, none, .mov (.tmp 3)⟩,
    ⟨some 27, none, .mkSl 5 1 2 #[.int .u8 0, .int .u8 0] [(0, (.const (.int .u8 0))), (1, (.const (.int .u8 1)))]⟩,
    ⟨some 28, none, .app 5 1 1 (.int .u8 0) (.tmp 26) (.tmp 27)⟩,
    ⟨some 2, none, .mov (.tmp 28)⟩]
def R73_20 : RC := .seq R73_19 (.ret)
def R73_21 : RC := .seq R73_18 R73_20
def R73_22 : RC := .seq R73_1 R73_21
def R73_23 : RC := .seq R73_0 R73_22

theorem fn73 : FnOK Tryz.prog 73 ⟨R73_23, [.tmp 2], 29⟩ :=
  ⟨Tryz.f73, Tryz.f73.body.getD .skip, Tryz.func73, by kernel_rfl, by kernel_rfl, by kernel_rfl, by kernel_rfl, by kernel_rfl⟩
-- 74: lectern/sst.Open$1
def R74_0 : RC := .reg [⟨some 5, none, .bi .recover #[] 20 #[] []⟩]
def R74_1 : RC := .reg [⟨some 7, none, .eqI false (.tmp 5) (.const (.nilIface))⟩]
def R74_2 : RC := .reg [⟨some 2, none, .mov (.tmp 5)⟩]
def R74_3 : RC := .reg [⟨some 8, none, .tass (.tmp 5) 20 129 true⟩,
    ⟨some 9, none, .extr (.tmp 8) 1⟩,
    ⟨some 10, none, .extr (.tmp 8) 0⟩]
def R74_4 : RC := .reg [⟨some 3, none, .newv 129 (.agg #[.int .i64 0])⟩,
    ⟨none, none, .store 1 (.tmp 3) (.tmp 10)⟩]
def R74_5 : RC := .draw [⟨some 11, none, .faddr 0 (.tmp 3)⟩,
    ⟨some 12, none, .load1 (.tmp 11)⟩,
    ⟨none, none, .store 1 (.tmp 0) (.const (.pointer none))⟩,
    ⟨none, none, .store 1 (.tmp 1) (.tmp 12)⟩] [[⟨0, ⟨some 11, none, .faddr 0 (.tmp 3)⟩, false, []⟩,
    ⟨1, ⟨some 12, none, .load1 (.tmp 11)⟩, true, []⟩,
    ⟨2, ⟨none, none, .store 1 (.tmp 0) (.const (.pointer none))⟩, false, [1]⟩],
   [⟨3, ⟨none, none, .store 1 (.tmp 1) (.tmp 12)⟩, false, []⟩]]
def R74_6 : RC := .seq R74_4 R74_5
def R74_7 : RC := .reg [⟨some 4, none, .mov (.tmp 5)⟩]
def R74_8 : RC := .reg [⟨some 6, none, .mov (.tmp 4)⟩,
    ⟨none, none, .panic (.tmp 6)⟩]
def R74_9 : RC := .seq R74_7 R74_8
def R74_10 : RC := .cond (.tmp 9) R74_6 R74_9
def R74_11 : RC := .seq R74_3 R74_10
def R74_12 : RC := .cond (.tmp 7) R74_2 R74_11
def R74_13 : RC := .seq R74_1 R74_12
def R74_14 : RC := .block 0 R74_13
def R74_15 : RC := .seq R74_0 R74_14

theorem fn74 : FnOK Tryz.prog 74 ⟨R74_15, [], 13⟩ :=
  ⟨Tryz.f74, Tryz.f74.body.getD .skip, Tryz.func74, by kernel_rfl, by kernel_rfl, by kernel_rfl, by kernel_rfl, by kernel_rfl⟩
-- 75: lectern/sst.must
def R75_0 : RC := .reg [⟨some 4, none, .mov (.tmp 0)⟩,
    ⟨some 5, none, .un .not (.tmp 4)⟩]
def R75_1 : RC := .reg [⟨some 6, none, .mov (.tmp 1)⟩,
    ⟨some 7, none, .build [(0, 1)] #[.int .i64 0] [(0, (.tmp 6))]⟩,
    ⟨some 8, none, .mkIf 129 (.tmp 7)⟩,
    ⟨none, none, .panic (.tmp 8)⟩]
def R75_2 : RC := .cond (.tmp 5) R75_1 (.skip)
def R75_3 : RC := .seq R75_0 R75_2

theorem fn75 : FnOK Tryz.prog 75 ⟨R75_3, [], 9⟩ :=
  ⟨Tryz.f75, Tryz.f75.body.getD .skip, Tryz.func75, by kernel_rfl, by kernel_rfl, by kernel_rfl, by kernel_rfl, by kernel_rfl⟩
-- 76: (*lectern/sst.Table).open
def R76_0 : RC := .reg [⟨some 20, none, .mov (.tmp 0)⟩,
    ⟨some 21, none, .nilck (.tmp 20)⟩,
    ⟨some 22, none, .faddr 1 (.tmp 21)⟩,
    ⟨some 23, none, .load1 (.tmp 22)⟩,
    ⟨some 24, none, .lenS (.tmp 23)⟩,
    ⟨some 25, none, .bin .sub 3 (.tmp 24) (.const (.int .i64 48))⟩,
    ⟨some 2, none, .mov (.tmp 25)⟩]
def R76_1 : RC := .draw [⟨some 26, none, .mov (.tmp 2)⟩,
    ⟨some 27, none, .bin .geq 3 (.tmp 26) (.const (.int .i64 0))⟩,
    ⟨some 28, none, .mov (.tmp 27)⟩,
    ⟨some 29, some (28, true), .mov (.tmp 0)⟩,
    ⟨some 30, some (28, true), .nilck (.tmp 29)⟩,
    ⟨some 31, some (28, true), .faddr 1 (.tmp 30)⟩,
    ⟨some 32, some (28, true), .load1 (.tmp 31)⟩,
    ⟨some 33, some (28, true), .mov (.tmp 0)⟩,
    ⟨some 34, some (28, true), .nilck (.tmp 33)⟩,
    ⟨some 35, some (28, true), .faddr 1 (.tmp 34)⟩,
    ⟨some 36, some (28, true), .load1 (.tmp 35)⟩,
    ⟨some 37, some (28, true), .lenS (.tmp 36)⟩,
    ⟨some 38, some (28, true), .bin .sub 3 (.tmp 37) (.const (.int .i64 8))⟩,
    ⟨some 39, some (28, true), .slcL 1 (.tmp 32) (some (.tmp 38)) none none⟩,
    ⟨some 40, some (28, true), .cvB2S (.tmp 39)⟩,
    ⟨some 41, some (28, true), .bin .eql 9 (.tmp 40) (.const (.string ⟨#[108, 101, 99, 116, 101, 114, 110, 49]⟩))⟩,
    ⟨some 42, none, .pick (.tmp 28) (.tmp 41) (.const (.bool false))⟩,
    ⟨some 43, none, .call 75 [(.tmp 42), (.const (.int .i64 210))]⟩] [[⟨0, ⟨some 26, none, .mov (.tmp 2)⟩, false, []⟩],
   [⟨1, ⟨some 27, none, .bin .geq 3 (.tmp 26) (.const (.int .i64 0))⟩, false, []⟩],
   [⟨2, ⟨some 28, none, .mov (.tmp 27)⟩, false, []⟩],
   [⟨3, ⟨some 29, some (28, true), .mov (.tmp 0)⟩, false, []⟩,
    ⟨4, ⟨some 30, some (28, true), .nilck (.tmp 29)⟩, false, []⟩,
    ⟨5, ⟨some 31, some (28, true), .faddr 1 (.tmp 30)⟩, false, []⟩,
    ⟨6, ⟨some 32, some (28, true), .load1 (.tmp 31)⟩, true, []⟩,
    ⟨7, ⟨some 33, some (28, true), .mov (.tmp 0)⟩, false, []⟩,
    ⟨8, ⟨some 34, some (28, true), .nilck (.tmp 33)⟩, false, []⟩,
    ⟨9, ⟨some 35, some (28, true), .faddr 1 (.tmp 34)⟩, false, []⟩,
    ⟨10, ⟨some 36, some (28, true), .load1 (.tmp 35)⟩, true, []⟩,
    ⟨11, ⟨some 37, some (28, true), .lenS (.tmp 36)⟩, false, []⟩,
    ⟨12, ⟨some 38, some (28, true), .bin .sub 3 (.tmp 37) (.const (.int .i64 8))⟩, false, []⟩],
   [⟨13, ⟨some 39, some (28, true), .slcL 1 (.tmp 32) (some (.tmp 38)) none none⟩, false, []⟩],
   [⟨14, ⟨some 40, some (28, true), .cvB2S (.tmp 39)⟩, true, []⟩],
   [⟨15, ⟨some 41, some (28, true), .bin .eql 9 (.tmp 40) (.const (.string ⟨#[108, 101, 99, 116, 101, 114, 110, 49]⟩))⟩, false, []⟩],
   [⟨16, ⟨some 42, none, .pick (.tmp 28) (.tmp 41) (.const (.bool false))⟩, false, []⟩],
   [⟨17, ⟨some 43, none, .call 75 [(.tmp 42), (.const (.int .i64 210))]⟩, false, []⟩]]
def R76_2 : RC := .draw [⟨some 44, none, .mov (.tmp 0)⟩,
    ⟨some 45, none, .nilck (.tmp 44)⟩,
    ⟨some 46, none, .faddr 1 (.tmp 45)⟩,
    ⟨some 47, none, .load1 (.tmp 46)⟩,
    ⟨some 48, none, .mov (.tmp 2)⟩,
    ⟨some 49, none, .mov (.tmp 0)⟩,
    ⟨some 50, none, .nilck (.tmp 49)⟩,
    ⟨some 51, none, .faddr 1 (.tmp 50)⟩,
    ⟨some 52, none, .load1 (.tmp 51)⟩,
    ⟨some 53, none, .lenS (.tmp 52)⟩,
    ⟨some 54, none, .bin .sub 3 (.tmp 53) (.const (.int .i64 8))⟩,
    ⟨some 55, none, .slcL 1 (.tmp 47) (some (.tmp 48)) (some (.tmp 54)) none⟩,
    ⟨some 56, none, .call 109 [(.tmp 55)]⟩,
    ⟨some 3, none, .newv 203 (.pointer none)⟩,
    ⟨none, none, .store 1 (.tmp 3) (.tmp 56)⟩] [[⟨0, ⟨some 44, none, .mov (.tmp 0)⟩, false, []⟩,
    ⟨1, ⟨some 45, none, .nilck (.tmp 44)⟩, false, []⟩,
    ⟨2, ⟨some 46, none, .faddr 1 (.tmp 45)⟩, false, []⟩,
    ⟨3, ⟨some 47, none, .load1 (.tmp 46)⟩, true, []⟩,
    ⟨4, ⟨some 48, none, .mov (.tmp 2)⟩, false, []⟩,
    ⟨5, ⟨some 49, none, .mov (.tmp 0)⟩, false, []⟩,
    ⟨6, ⟨some 50, none, .nilck (.tmp 49)⟩, false, []⟩,
    ⟨7, ⟨some 51, none, .faddr 1 (.tmp 50)⟩, false, []⟩,
    ⟨8, ⟨some 52, none, .load1 (.tmp 51)⟩, true, []⟩,
    ⟨9, ⟨some 53, none, .lenS (.tmp 52)⟩, false, []⟩,
    ⟨10, ⟨some 54, none, .bin .sub 3 (.tmp 53) (.const (.int .i64 8))⟩, false, []⟩,
    ⟨11, ⟨some 55, none, .slcL 1 (.tmp 47) (some (.tmp 48)) (some (.tmp 54)) none⟩, false, []⟩,
    ⟨13, ⟨some 3, none, .newv 203 (.pointer none)⟩, false, []⟩,
    ⟨12, ⟨some 56, none, .call 109 [(.tmp 55)]⟩, false, [13]⟩],
   [⟨14, ⟨none, none, .store 1 (.tmp 3) (.tmp 56)⟩, false, []⟩]]
def R76_3 : RC := .reg [⟨some 57, none, .mkFn (.func 110) [] [(.tmp 3)]⟩,
    ⟨some 4, none, .mov (.tmp 57)⟩]
def R76_4 : RC := .reg [⟨some 58, none, .mov (.tmp 4)⟩,
    ⟨some 59, none, .callV (.tmp 58) []⟩,
    ⟨some 60, none, .mov (.tmp 4)⟩,
    ⟨some 61, none, .callV (.tmp 60) []⟩,
    ⟨some 62, none, .build [(0, 1), (1, 1)] #[.int .i64 0, .int .i64 0] [(0, (.tmp 59)), (1, (.tmp 61))]⟩,
    ⟨some 63, none, .mov (.tmp 4)⟩,
    ⟨some 64, none, .callV (.tmp 63) []⟩,
    ⟨some 65, none, .mov (.tmp 4)⟩,
    ⟨some 66, none, .callV (.tmp 65) []⟩,
    ⟨some 67, none, .build [(0, 1), (1, 1)] #[.int .i64 0, .int .i64 0] [(0, (.tmp 64)), (1, (.tmp 66))]⟩,
    ⟨some 5, none, .newv 123 (.agg #[.int .i64 0, .int .i64 0])⟩,
    ⟨some 6, none, .newv 123 (.agg #[.int .i64 0, .int .i64 0])⟩,
    ⟨none, none, .store 2 (.tmp 5) (.tmp 62)⟩,
    ⟨none, none, .store 2 (.tmp 6) (.tmp 67)⟩]
def R76_5 : RC := .reg [⟨some 68, none, .mov (.tmp 0)⟩,
    ⟨some 69, none, .mov (.tmp 4)⟩,
    ⟨some 70, none, .callV (.tmp 69) []⟩,
    ⟨some 71, none, .nilck (.tmp 68)⟩,
    ⟨some 72, none, .faddr 6 (.tmp 71)⟩,
    ⟨none, none, .store 1 (.tmp 72) (.tmp 70)⟩]
def R76_6 : RC := .reg [⟨some 73, none, .mov (.tmp 0)⟩,
    ⟨some 74, none, .mov (.tmp 4)⟩,
    ⟨some 75, none, .callV (.tmp 74) []⟩,
    ⟨some 76, none, .mov (.tmp 4)⟩,
    ⟨some 77, none, .callV (.tmp 76) []⟩,
    ⟨some 78, none, .mov (.tmp 4)⟩,
    ⟨some 79, none, .callV (.tmp 78) []⟩,
    ⟨some 80, none, .build [(0, 1), (1, 1), (2, 1)] #[.int .i64 0, .int .i64 0, .int .i64 0] [(0, (.tmp 75)), (1, (.tmp 77)), (2, (.tmp 79))]⟩,
    ⟨some 81, none, .nilck (.tmp 73)⟩,
    ⟨some 82, none, .faddr 3 (.tmp 81)⟩,
    ⟨none, none, .store 3 (.tmp 82) (.tmp 80)⟩]
def R76_7 : RC := .reg [⟨some 83, none, .load1 (.tmp 3)⟩,
    ⟨some 84, none, .call 112 [(.tmp 83)]⟩,
    ⟨some 85, none, .bin .eql 59 (.tmp 84) (.const (.int .i64 0))⟩,
    ⟨some 86, none, .mov (.tmp 85)⟩,
    ⟨some 87, some (86, true), .mov (.tmp 0)⟩,
    ⟨some 88, some (86, true), .nilck (.tmp 87)⟩,
    ⟨some 89, some (86, true), .faddr 3 (.tmp 88)⟩,
    ⟨some 90, some (86, true), .loadN 3 (.tmp 89)⟩,
    ⟨some 91, some (86, true), .call 63 [(.tmp 90)]⟩,
    ⟨some 92, none, .pick (.tmp 86) (.tmp 91) (.const (.bool false))⟩,
    ⟨some 93, none, .call 75 [(.tmp 92), (.const (.int .i64 210))]⟩]
def R76_8 : RC := .draw [⟨some 94, none, .mov (.tmp 0)⟩,
    ⟨some 95, none, .nilck (.tmp 94)⟩,
    ⟨some 96, none, .faddr 1 (.tmp 95)⟩,
    ⟨some 97, none, .load1 (.tmp 96)⟩,
    ⟨some 98, none, .mov (.tmp 2)⟩,
    ⟨some 99, none, .load1 (.tmp 3)⟩,
    ⟨some 100, none, .call 113 [(.tmp 99)]⟩,
    ⟨some 101, none, .bin .add 3 (.tmp 98) (.tmp 100)⟩,
    ⟨some 102, none, .mov (.tmp 0)⟩,
    ⟨some 103, none, .nilck (.tmp 102)⟩,
    ⟨some 104, none, .faddr 1 (.tmp 103)⟩,
    ⟨some 105, none, .load1 (.tmp 104)⟩,
    ⟨some 106, none, .lenS (.tmp 105)⟩,
    ⟨some 107, none, .bin .sub 3 (.tmp 106) (.const (.int .i64 8))⟩,
    ⟨some 108, none, .slcL 1 (.tmp 97) (some (.tmp 101)) (some (.tmp 107)) none⟩,
    ⟨some 109, none, .lenS (.tmp 108)⟩,
    ⟨some 110, none, .mov (.const (.int .i64 0))⟩] [[⟨0, ⟨some 94, none, .mov (.tmp 0)⟩, false, []⟩,
    ⟨1, ⟨some 95, none, .nilck (.tmp 94)⟩, false, []⟩,
    ⟨2, ⟨some 96, none, .faddr 1 (.tmp 95)⟩, false, []⟩,
    ⟨3, ⟨some 97, none, .load1 (.tmp 96)⟩, true, []⟩,
    ⟨4, ⟨some 98, none, .mov (.tmp 2)⟩, false, []⟩,
    ⟨5, ⟨some 99, none, .load1 (.tmp 3)⟩, true, []⟩,
    ⟨8, ⟨some 102, none, .mov (.tmp 0)⟩, false, []⟩,
    ⟨9, ⟨some 103, none, .nilck (.tmp 102)⟩, false, []⟩,
    ⟨10, ⟨some 104, none, .faddr 1 (.tmp 103)⟩, false, []⟩,
    ⟨11, ⟨some 105, none, .load1 (.tmp 104)⟩, true, []⟩,
    ⟨12, ⟨some 106, none, .lenS (.tmp 105)⟩, false, []⟩,
    ⟨13, ⟨some 107, none, .bin .sub 3 (.tmp 106) (.const (.int .i64 8))⟩, false, []⟩,
    ⟨16, ⟨some 110, none, .mov (.const (.int .i64 0))⟩, false, []⟩,
    ⟨6, ⟨some 100, none, .call 113 [(.tmp 99)]⟩, false, [3, 11]⟩,
    ⟨7, ⟨some 101, none, .bin .add 3 (.tmp 98) (.tmp 100)⟩, false, []⟩,
    ⟨14, ⟨some 108, none, .slcL 1 (.tmp 97) (some (.tmp 101)) (some (.tmp 107)) none⟩, false, []⟩,
    ⟨15, ⟨some 109, none, .lenS (.tmp 108)⟩, false, []⟩]]
def R76_9 : RC := .reg [⟨some 111, none, .bin .lss 3 (.tmp 110) (.tmp 109)⟩]
def R76_10 : RC := .cond (.tmp 111) (.skip) (.exit 0)
def R76_11 : RC := .reg [⟨some 112, none, .ixS 1 (.tmp 108) (.tmp 110)⟩,
    ⟨some 113, none, .load1 (.tmp 112)⟩,
    ⟨some 8, none, .mov (.tmp 113)⟩]
def R76_12 : RC := .reg [⟨some 114, none, .mov (.tmp 8)⟩,
    ⟨some 115, none, .bin .eql 5 (.tmp 114) (.const (.int .u8 0))⟩,
    ⟨some 116, none, .call 75 [(.tmp 115), (.const (.int .i64 210))]⟩]
def R76_13 : RC := .seq R76_11 R76_12
def R76_14 : RC := .block 1 R76_13
def R76_15 : RC := .reg [⟨some 117, none, .bin .add 3 (.tmp 110) (.const (.int .i64 1))⟩,
    ⟨some 110, none, .mov (.tmp 117)⟩]
def R76_16 : RC := .seq R76_14 R76_15
def R76_17 : RC := .seq R76_10 R76_16
def R76_18 : RC := .seq R76_9 R76_17
def R76_19 : RC := .loop R76_18
def R76_20 : RC := .block 0 R76_19
def R76_21 : RC := .seq R76_8 R76_20
def R76_22 : RC := .reg [⟨some 118, none, .faddr 0 (.tmp 5)⟩,
    ⟨some 119, none, .load1 (.tmp 118)⟩,
    ⟨some 120, none, .faddr 1 (.tmp 5)⟩,
    ⟨some 121, none, .load1 (.tmp 120)⟩,
    ⟨some 122, none, .bin .add 3 (.tmp 119) (.tmp 121)⟩,
    ⟨some 123, none, .bin .add 3 (.tmp 122) (.const (.int .i64 5))⟩,
    ⟨some 124, none, .faddr 0 (.tmp 6)⟩,
    ⟨some 125, none, .load1 (.tmp 124)⟩,
    ⟨some 126, none, .bin .eql 3 (.tmp 123) (.tmp 125)⟩,
    ⟨some 127, none, .mov (.tmp 126)⟩,
    ⟨some 128, some (127, true), .faddr 0 (.tmp 6)⟩,
    ⟨some 129, some (127, true), .load1 (.tmp 128)⟩,
    ⟨some 130, some (127, true), .faddr 1 (.tmp 6)⟩,
    ⟨some 131, some (127, true), .load1 (.tmp 130)⟩,
    ⟨some 132, some (127, true), .bin .add 3 (.tmp 129) (.tmp 131)⟩,
    ⟨some 133, some (127, true), .bin .add 3 (.tmp 132) (.const (.int .i64 5))⟩,
    ⟨some 134, some (127, true), .mov (.tmp 2)⟩,
    ⟨some 135, some (127, true), .bin .eql 3 (.tmp 133) (.tmp 134)⟩,
    ⟨some 136, none, .pick (.tmp 127) (.tmp 135) (.const (.bool false))⟩,
    ⟨some 137, none, .call 75 [(.tmp 136), (.const (.int .i64 210))]⟩]
def R76_23 : RC := .reg [⟨some 139, none, .mov (.tmp 0)⟩,
    ⟨some 140, none, .loadN 2 (.tmp 5)⟩,
    ⟨some 141, none, .call 80 [(.tmp 139), (.tmp 140)]⟩,
    ⟨some 138, none, .mov (.tmp 141)⟩,
    ⟨some 142, none, .extr (.tmp 138) 0⟩,
    ⟨some 143, none, .extr (.tmp 138) 1⟩,
    ⟨some 9, none, .mov (.tmp 142)⟩,
    ⟨some 10, none, .mov (.tmp 143)⟩]
def R76_24 : RC := .reg [⟨some 144, none, .mov (.tmp 10)⟩,
    ⟨some 145, none, .call 75 [(.tmp 144), (.const (.int .i64 211))]⟩]
def R76_25 : RC := .reg [⟨some 146, none, .mov (.tmp 0)⟩,
    ⟨some 147, none, .mov (.tmp 9)⟩,
    ⟨some 148, none, .nilck (.tmp 146)⟩,
    ⟨some 149, none, .faddr 7 (.tmp 148)⟩,
    ⟨none, none, .store 1 (.tmp 149) (.tmp 147)⟩]
def R76_26 : RC := .reg [⟨some 151, none, .mov (.tmp 0)⟩,
    ⟨some 152, none, .loadN 2 (.tmp 6)⟩,
    ⟨some 153, none, .call 80 [(.tmp 151), (.tmp 152)]⟩,
    ⟨some 150, none, .mov (.tmp 153)⟩,
    ⟨some 154, none, .extr (.tmp 150) 0⟩,
    ⟨some 155, none, .extr (.tmp 150) 1⟩,
    ⟨some 11, none, .mov (.tmp 154)⟩,
    ⟨some 10, none, .mov (.tmp 155)⟩]
def R76_27 : RC := .reg [⟨some 156, none, .mov (.tmp 10)⟩,
    ⟨some 157, none, .call 75 [(.tmp 156), (.const (.int .i64 211))]⟩]
def R76_28 : RC := .reg [⟨some 159, none, .mov (.tmp 11)⟩,
    ⟨some 160, none, .call 81 [(.tmp 159)]⟩,
    ⟨some 158, none, .mov (.tmp 160)⟩,
    ⟨some 161, none, .extr (.tmp 158) 0⟩,
    ⟨some 162, none, .extr (.tmp 158) 1⟩,
    ⟨some 12, none, .mov (.tmp 161)⟩,
    ⟨some 13, none, .mov (.tmp 162)⟩]
def R76_29 : RC := .reg [⟨some 163, none, .mov (.tmp 13)⟩,
    ⟨some 164, none, .bin .eql 59 (.tmp 163) (.const (.int .i64 0))⟩,
    ⟨some 165, none, .call 75 [(.tmp 164), (.const (.int .i64 210))]⟩]
def R76_30 : RC := .reg [⟨some 167, none, .mov (.tmp 12)⟩,
    ⟨some 168, none, .call 67 [(.tmp 167), (.const (.int .i64 1))]⟩,
    ⟨some 166, none, .mov (.tmp 168)⟩,
    ⟨some 169, none, .extr (.tmp 166) 0⟩,
    ⟨some 170, none, .extr (.tmp 166) 1⟩,
    ⟨some 14, none, .mov (.tmp 169)⟩,
    ⟨some 13, none, .mov (.tmp 170)⟩]
def R76_31 : RC := .reg [⟨some 171, none, .mov (.tmp 13)⟩,
    ⟨some 172, none, .bin .eql 59 (.tmp 171) (.const (.int .i64 0))⟩,
    ⟨some 173, none, .mov (.tmp 172)⟩,
    ⟨some 174, some (173, true), .mov (.tmp 14)⟩,
    ⟨some 175, some (173, true), .mov (.tmp 11)⟩,
    ⟨some 176, some (173, true), .call 82 [(.tmp 174), (.tmp 175)]⟩,
    ⟨some 177, none, .pick (.tmp 173) (.tmp 176) (.const (.bool false))⟩,
    ⟨some 178, none, .call 75 [(.tmp 177), (.const (.int .i64 210))]⟩]
def R76_32 : RC := .reg [⟨some 15, none, .mov (.const (.int .i64 0))⟩]
def R76_33 : RC := .reg [⟨some 179, none, .mov (.tmp 12)⟩,
    ⟨some 180, none, .lenS (.tmp 179)⟩,
    ⟨some 181, none, .mov (.const (.int .i64 0))⟩]
def R76_34 : RC := .reg [⟨some 182, none, .bin .lss 3 (.tmp 181) (.tmp 180)⟩]
def R76_35 : RC := .cond (.tmp 182) (.skip) (.exit 2)
def R76_36 : RC := .reg [⟨some 183, none, .ixS 2 (.tmp 179) (.tmp 181)⟩,
    ⟨some 184, none, .loadN 2 (.tmp 183)⟩,
    ⟨some 17, none, .newv 51 (.agg #[.slice none 0 0, .slice none 0 0])⟩,
    ⟨none, none, .store 2 (.tmp 17) (.tmp 184)⟩]
def R76_37 : RC := .reg [⟨some 185, none, .faddr 1 (.tmp 17)⟩,
    ⟨some 186, none, .load1 (.tmp 185)⟩,
    ⟨some 187, none, .call 109 [(.tmp 186)]⟩,
    ⟨some 18, none, .mov (.tmp 187)⟩]
def R76_38 : RC := .reg [⟨some 188, none, .mov (.tmp 18)⟩,
    ⟨some 189, none, .call 111 [(.tmp 188)]⟩,
    ⟨some 190, none, .bi .min #[200, 200] 200 #[false, true] [(.tmp 189), (.const (.int .u64 16777216))]⟩,
    ⟨some 191, none, .cvInt .i64 (.tmp 190)⟩,
    ⟨some 192, none, .mov (.tmp 18)⟩,
    ⟨some 193, none, .call 111 [(.tmp 192)]⟩,
    ⟨some 194, none, .bi .min #[200, 200] 200 #[false, true] [(.tmp 193), (.const (.int .u64 16777216))]⟩,
    ⟨some 195, none, .cvInt .i64 (.tmp 194)⟩,
    ⟨some 196, none, .build [(0, 1), (1, 1)] #[.int .i64 0, .int .i64 0] [(0, (.tmp 191)), (1, (.tmp 195))]⟩,
    ⟨some 19, none, .newv 123 (.agg #[.int .i64 0, .int .i64 0])⟩,
    ⟨none, none, .store 2 (.tmp 19) (.tmp 196)⟩]
def R76_39 : RC := .reg [⟨some 197, none, .mov (.tmp 18)⟩,
    ⟨some 198, none, .call 114 [(.tmp 197)]⟩,
    ⟨some 199, none, .bin .eql 59 (.tmp 198) (.const (.int .i64 0))⟩,
    ⟨some 200, none, .mov (.tmp 199)⟩,
    ⟨some 201, some (200, true), .faddr 0 (.tmp 19)⟩,
    ⟨some 202, some (200, true), .load1 (.tmp 201)⟩,
    ⟨some 203, some (200, true), .mov (.tmp 15)⟩,
    ⟨some 204, some (200, true), .bin .eql 3 (.tmp 202) (.tmp 203)⟩,
    ⟨some 205, none, .pick (.tmp 200) (.tmp 204) (.const (.bool false))⟩,
    ⟨some 206, none, .mov (.tmp 205)⟩,
    ⟨some 207, some (206, true), .faddr 1 (.tmp 19)⟩,
    ⟨some 208, some (206, true), .load1 (.tmp 207)⟩,
    ⟨some 209, some (206, true), .faddr 0 (.tmp 5)⟩,
    ⟨some 210, some (206, true), .load1 (.tmp 209)⟩,
    ⟨some 211, some (206, true), .bin .sub 3 (.tmp 210) (.const (.int .i64 5))⟩,
    ⟨some 212, some (206, true), .mov (.tmp 15)⟩,
    ⟨some 213, some (206, true), .bin .sub 3 (.tmp 211) (.tmp 212)⟩,
    ⟨some 214, some (206, true), .bin .leq 3 (.tmp 208) (.tmp 213)⟩,
    ⟨some 215, none, .pick (.tmp 206) (.tmp 214) (.const (.bool false))⟩,
    ⟨some 216, none, .call 75 [(.tmp 215), (.const (.int .i64 210))]⟩]
def R76_40 : RC := .reg [⟨some 217, none, .mov (.tmp 15)⟩,
    ⟨some 218, none, .faddr 1 (.tmp 19)⟩,
    ⟨some 219, none, .load1 (.tmp 218)⟩,
    ⟨some 220, none, .bin .add 3 (.tmp 219) (.const (.int .i64 5))⟩,
    ⟨some 221, none, .bin .add 3 (.tmp 217) (.tmp 220)⟩,
    ⟨some 15, none, .mov (.tmp 221)⟩]
def R76_41 : RC := .draw [⟨some 222, none, .mov (.tmp 0)⟩,
    ⟨some 223, none, .mov (.tmp 0)⟩,
    ⟨some 224, none, .mov (.tmp 0)⟩,
    ⟨some 225, none, .nilck (.tmp 224)⟩,
    ⟨some 226, none, .faddr 8 (.tmp 225)⟩,
    ⟨some 227, none, .load1 (.tmp 226)⟩,
    ⟨some 228, none, .faddr 0 (.tmp 17)⟩,
    ⟨some 229, none, .load1 (.tmp 228)⟩,
    ⟨some 230, none, .mkSl 22 1 1 #[.slice none 0 0] [(0, (.tmp 229))]⟩,
    ⟨some 231, none, .app 22 1 24 (.slice none 0 0) (.tmp 227) (.tmp 230)⟩,
    ⟨some 232, none, .mov (.tmp 0)⟩,
    ⟨some 233, none, .nilck (.tmp 232)⟩,
    ⟨some 234, none, .faddr 9 (.tmp 233)⟩,
    ⟨some 235, none, .load1 (.tmp 234)⟩,
    ⟨some 236, none, .loadN 2 (.tmp 19)⟩,
    ⟨some 237, none, .mkSl 123 2 1 #[.int .i64 0, .int .i64 0] [(0, (.tmp 236))]⟩,
    ⟨some 238, none, .app 123 2 16 (.agg #[.int .i64 0, .int .i64 0]) (.tmp 235) (.tmp 237)⟩,
    ⟨some 239, none, .nilck (.tmp 222)⟩,
    ⟨some 240, none, .faddr 8 (.tmp 239)⟩,
    ⟨none, none, .store 1 (.tmp 240) (.tmp 231)⟩,
    ⟨some 241, none, .nilck (.tmp 223)⟩,
    ⟨some 242, none, .faddr 9 (.tmp 241)⟩,
    ⟨none, none, .store 1 (.tmp 242) (.tmp 238)⟩] [[⟨0, ⟨some 222, none, .mov (.tmp 0)⟩, false, []⟩,
    ⟨1, ⟨some 223, none, .mov (.tmp 0)⟩, false, []⟩,
    ⟨2, ⟨some 224, none, .mov (.tmp 0)⟩, false, []⟩,
    ⟨3, ⟨some 225, none, .nilck (.tmp 224)⟩, false, []⟩,
    ⟨4, ⟨some 226, none, .faddr 8 (.tmp 225)⟩, false, []⟩,
    ⟨5, ⟨some 227, none, .load1 (.tmp 226)⟩, true, []⟩,
    ⟨6, ⟨some 228, none, .faddr 0 (.tmp 17)⟩, false, []⟩,
    ⟨7, ⟨some 229, none, .load1 (.tmp 228)⟩, true, []⟩,
    ⟨8, ⟨some 230, none, .mkSl 22 1 1 #[.slice none 0 0] [(0, (.tmp 229))]⟩, false, []⟩,
    ⟨10, ⟨some 232, none, .mov (.tmp 0)⟩, false, []⟩,
    ⟨11, ⟨some 233, none, .nilck (.tmp 232)⟩, false, []⟩,
    ⟨12, ⟨some 234, none, .faddr 9 (.tmp 233)⟩, false, []⟩,
    ⟨13, ⟨some 235, none, .load1 (.tmp 234)⟩, true, []⟩,
    ⟨14, ⟨some 236, none, .loadN 2 (.tmp 19)⟩, true, []⟩,
    ⟨15, ⟨some 237, none, .mkSl 123 2 1 #[.int .i64 0, .int .i64 0] [(0, (.tmp 236))]⟩, false, []⟩,
    ⟨9, ⟨some 231, none, .app 22 1 24 (.slice none 0 0) (.tmp 227) (.tmp 230)⟩, false, [13, 14, 15]⟩,
    ⟨16, ⟨some 238, none, .app 123 2 16 (.agg #[.int .i64 0, .int .i64 0]) (.tmp 235) (.tmp 237)⟩, false, []⟩,
    ⟨17, ⟨some 239, none, .nilck (.tmp 222)⟩, false, []⟩,
    ⟨18, ⟨some 240, none, .faddr 8 (.tmp 239)⟩, false, []⟩,
    ⟨19, ⟨none, none, .store 1 (.tmp 240) (.tmp 231)⟩, false, []⟩],
   [⟨20, ⟨some 241, none, .nilck (.tmp 223)⟩, false, []⟩],
   [⟨21, ⟨some 242, none, .faddr 9 (.tmp 241)⟩, false, []⟩],
   [⟨22, ⟨none, none, .store 1 (.tmp 242) (.tmp 238)⟩, false, []⟩]]
def R76_42 : RC := .seq R76_40 R76_41
def R76_43 : RC := .seq R76_39 R76_42
def R76_44 : RC := .seq R76_38 R76_43
def R76_45 : RC := .seq R76_37 R76_44
def R76_46 : RC := .seq R76_36 R76_45
def R76_47 : RC := .block 3 R76_46
def R76_48 : RC := .reg [⟨some 243, none, .bin .add 3 (.tmp 181) (.const (.int .i64 1))⟩,
    ⟨some 181, none, .mov (.tmp 243)⟩]
def R76_49 : RC := .seq R76_47 R76_48
def R76_50 : RC := .seq R76_35 R76_49
def R76_51 : RC := .seq R76_34 R76_50
def R76_52 : RC := .loop R76_51
def R76_53 : RC := .block 2 R76_52
def R76_54 : RC := .seq R76_33 R76_53
def R76_55 : RC := .reg [⟨some 244, none, .mov (.tmp 15)⟩,
    ⟨some 245, none, .faddr 0 (.tmp 5)⟩,
    ⟨some 246, none, .load1 (.tmp 245)⟩,
    ⟨some 247, none, .bin .eql 3 (.tmp 244) (.tmp 246)⟩,
    ⟨some 248, none, .call 75 [(.tmp 247), (.const (.int .i64 210))]⟩]
def R76_56 : RC := .seq R76_54 R76_55
def R76_57 : RC := .seq R76_32 R76_56
def R76_58 : RC := .seq R76_31 R76_57
def R76_59 : RC := .seq R76_30 R76_58
def R76_60 : RC := .seq R76_29 R76_59
def R76_61 : RC := .seq R76_28 R76_60
def R76_62 : RC := .seq R76_27 R76_61
def R76_63 : RC := .seq R76_26 R76_62
def R76_64 : RC := .seq R76_25 R76_63
def R76_65 : RC := .seq R76_24 R76_64
def R76_66 : RC := .seq R76_23 R76_65
def R76_67 : RC := .seq R76_22 R76_66
def R76_68 : RC := .seq R76_21 R76_67
def R76_69 : RC := .seq R76_7 R76_68
def R76_70 : RC := .seq R76_6 R76_69
def R76_71 : RC := .seq R76_5 R76_70
def R76_72 : RC := .seq R76_4 R76_71
def R76_73 : RC := .seq R76_3 R76_72
def R76_74 : RC := .seq R76_2 R76_73
def R76_75 : RC := .seq R76_1 R76_74
def R76_76 : RC := .seq R76_0 R76_75

theorem fn76 : FnOK Tryz.prog 76 ⟨R76_76, [], 249⟩ :=
  ⟨Tryz.f76, Tryz.f76.body.getD .skip, Tryz.func76, by kernel_rfl, by kernel_rfl, by kernel_rfl, by kernel_rfl, by kernel_rfl⟩
-- 77: slices.BinarySearchFunc[[][]byte,[]byte,[]byte]
def R77_0 : RC := .reg [⟨some 6, none, .mov (.const (.int .i64 0))⟩,
    ⟨some 7, none, .mov (.const (.bool false))⟩]
def R77_1 : RC := .reg [⟨some 12, none, .mov (.tmp 0)⟩,
    ⟨some 13, none, .lenS (.tmp 12)⟩,
    ⟨some 8, none, .mov (.tmp 13)⟩]
def R77_2 : RC := .reg [⟨some 14, none, .mov (.tmp 8)⟩,
    ⟨some 9, none, .mov (.const (.int .i64 0))⟩,
    ⟨some 10, none, .mov (.tmp 14)⟩]
def R77_3 : RC := .reg [⟨some 15, none, .mov (.tmp 9)⟩,
    ⟨some 16, none, .mov (.tmp 10)⟩,
    ⟨some 17, none, .bin .lss 3 (.tmp 15) (.tmp 16)⟩]
def R77_4 : RC := .cond (.tmp 17) (.skip) (.exit 0)
def R77_5 : RC := .seq R77_3 R77_4
def R77_6 : RC := .reg [⟨some 18, none, .mov (.tmp 9)⟩,
    ⟨some 19, none, .mov (.tmp 10)⟩,
    ⟨some 20, none, .bin .add 3 (.tmp 18) (.tmp 19)⟩,
    ⟨some 21, none, .cvInt .u64 (.tmp 20)⟩,
    ⟨some 22, none, .bin .shr 206 (.tmp 21) (.const (.int .u64 1))⟩,
    ⟨some 23, none, .cvInt .i64 (.tmp 22)⟩,
    ⟨some 11, none, .mov (.tmp 23)⟩]
def R77_7 : RC := .reg [⟨some 24, none, .mov (.tmp 2)⟩,
    ⟨some 25, none, .mov (.tmp 0)⟩,
    ⟨some 26, none, .mov (.tmp 11)⟩,
    ⟨some 27, none, .ixS 1 (.tmp 25) (.tmp 26)⟩,
    ⟨some 28, none, .load1 (.tmp 27)⟩,
    ⟨some 29, none, .mov (.tmp 1)⟩,
    ⟨some 30, none, .callV (.tmp 24) [(.tmp 28), (.tmp 29)]⟩,
    ⟨some 31, none, .bin .lss 3 (.tmp 30) (.const (.int .i64 0))⟩]
def R77_8 : RC := .reg [⟨some 32, none, .mov (.tmp 11)⟩,
    ⟨some 33, none, .bin .add 3 (.tmp 32) (.const (.int .i64 1))⟩,
    ⟨some 9, none, .mov (.tmp 33)⟩]
def R77_9 : RC := .reg [⟨some 34, none, .mov (.tmp 11)⟩,
    ⟨some 10, none, .mov (.tmp 34)⟩]
def R77_10 : RC := .cond (.tmp 31) R77_8 R77_9
def R77_11 : RC := .seq R77_7 R77_10
def R77_12 : RC := .seq R77_6 R77_11
def R77_13 : RC := .block 1 R77_12
def R77_14 : RC := .seq R77_5 R77_13
def R77_15 : RC := .loop R77_14
def R77_16 : RC := .block 0 R77_15
def R77_17 : RC := .reg [⟨some 35, none, .mov (.tmp 9)⟩,
    ⟨some 36, none, .mov (.tmp 9)⟩,
    ⟨some 37, none, .mov (.tmp 8)⟩,
    ⟨some 38, none, .bin .lss 3 (.tmp 36) (.tmp 37)⟩,
    ⟨some 39, none, .mov (.tmp 38)⟩,
    ⟨some 40, some (39, true), .mov (.tmp 2)⟩,
    ⟨some 41, some (39, true), .mov (.tmp 0)⟩,
    ⟨some 42, some (39, true), .mov (.tmp 9)⟩,
    ⟨some 43, some (39, true), .ixS 1 (.tmp 41) (.tmp 42)⟩,
    ⟨some 44, some (39, true), .load1 (.tmp 43)⟩,
    ⟨some 45, some (39, true), .mov (.tmp 1)⟩,
    ⟨some 46, some (39, true), .callV (.tmp 40) [(.tmp 44), (.tmp 45)]⟩,
    ⟨some 47, some (39, true), .bin .eql 3 (.tmp 46) (.const (.int .i64 0))⟩,
    ⟨some 48, none, .pick (.tmp 39) (.tmp 47) (.const (.bool false))⟩,
    ⟨some 6, none, .mov (.tmp 35)⟩,
    ⟨some 7, none, .mov (.tmp 48)⟩]
def R77_18 : RC := .seq R77_17 (.ret)
def R77_19 : RC := .seq R77_16 R77_18
def R77_20 : RC := .seq R77_2 R77_19
def R77_21 : RC := .seq R77_1 R77_20
def R77_22 : RC := .seq R77_0 R77_21

theorem fn77 : FnOK Tryz.prog 77 ⟨R77_22, [.tmp 6, .tmp 7], 49⟩ :=
  ⟨Tryz.f77, Tryz.f77.body.getD .skip, Tryz.func77, by kernel_rfl, by kernel_rfl, by kernel_rfl, by kernel_rfl, by kernel_rfl⟩
-- 78: bytes.Compare
def R78_0 : RC := .reg [⟨some 4, none, .mov (.const (.int .i64 0))⟩]
def R78_1 : RC := .reg [⟨some 5, none, .mov (.tmp 0)⟩,
    ⟨some 6, none, .mov (.tmp 1)⟩,
    ⟨some 7, none, .ext 115 [(.tmp 5), (.tmp 6)]⟩,
    ⟨some 4, none, .mov (.tmp 7)⟩]
def R78_2 : RC := .seq R78_1 (.ret)
def R78_3 : RC := .seq R78_0 R78_2

theorem fn78 : FnOK Tryz.prog 78 ⟨R78_3, [.tmp 4], 8⟩ :=
  ⟨Tryz.f78, Tryz.f78.body.getD .skip, Tryz.func78, by kernel_rfl, by kernel_rfl, by kernel_rfl, by kernel_rfl, by kernel_rfl⟩
-- 79: (*sync/atomic.Int64).Add
def R79_0 : RC := .reg [⟨some 4, none, .mov (.const (.int .i64 0))⟩]
def R79_1 : RC := .reg [⟨some 5, none, .mov (.tmp 0)⟩,
    ⟨some 6, none, .nilck (.tmp 5)⟩,
    ⟨some 7, none, .faddr 0 (.tmp 6)⟩,
    ⟨some 8, none, .mov (.tmp 1)⟩,
    ⟨some 9, none, .ext 116 [(.tmp 7), (.tmp 8)]⟩,
    ⟨some 4, none, .mov (.tmp 9)⟩]
def R79_2 : RC := .seq R79_1 (.ret)
def R79_3 : RC := .seq R79_0 R79_2

theorem fn79 : FnOK Tryz.prog 79 ⟨R79_3, [.tmp 4], 10⟩ :=
  ⟨Tryz.f79, Tryz.f79.body.getD .skip, Tryz.func79, by kernel_rfl, by kernel_rfl, by kernel_rfl, by kernel_rfl, by kernel_rfl⟩
-- 80: (*lectern/sst.Table).summed
def R80_0 : RC := .reg [⟨some 3, none, .box 123 (.tmp 1)⟩,
    ⟨some 4, none, .mov (.const (.slice none 0 0))⟩,
    ⟨some 5, none, .mov (.const (.bool false))⟩]
def R80_1 : RC := .draw [⟨some 7, none, .mov (.tmp 0)⟩,
    ⟨some 8, none, .nilck (.tmp 7)⟩,
    ⟨some 9, none, .faddr 1 (.tmp 8)⟩,
    ⟨some 10, none, .load1 (.tmp 9)⟩,
    ⟨some 11, none, .faddr 0 (.tmp 3)⟩,
    ⟨some 12, none, .load1 (.tmp 11)⟩,
    ⟨some 13, none, .faddr 0 (.tmp 3)⟩,
    ⟨some 14, none, .load1 (.tmp 13)⟩,
    ⟨some 15, none, .faddr 1 (.tmp 3)⟩,
    ⟨some 16, none, .load1 (.tmp 15)⟩,
    ⟨some 17, none, .bin .add 3 (.tmp 14) (.tmp 16)⟩,
    ⟨some 18, none, .slcL 1 (.tmp 10) (some (.tmp 12)) (some (.tmp 17)) none⟩,
    ⟨some 6, none, .mov (.tmp 18)⟩] [[⟨0, ⟨some 7, none, .mov (.tmp 0)⟩, false, []⟩,
    ⟨1, ⟨some 8, none, .nilck (.tmp 7)⟩, false, []⟩,
    ⟨2, ⟨some 9, none, .faddr 1 (.tmp 8)⟩, false, []⟩,
    ⟨3, ⟨some 10, none, .load1 (.tmp 9)⟩, true, []⟩,
    ⟨4, ⟨some 11, none, .faddr 0 (.tmp 3)⟩, false, []⟩,
    ⟨5, ⟨some 12, none, .load1 (.tmp 11)⟩, true, []⟩,
    ⟨6, ⟨some 13, none, .faddr 0 (.tmp 3)⟩, false, []⟩,
    ⟨7, ⟨some 14, none, .load1 (.tmp 13)⟩, true, []⟩,
    ⟨8, ⟨some 15, none, .faddr 1 (.tmp 3)⟩, false, []⟩,
    ⟨9, ⟨some 16, none, .load1 (.tmp 15)⟩, true, []⟩,
    ⟨10, ⟨some 17, none, .bin .add 3 (.tmp 14) (.tmp 16)⟩, false, []⟩],
   [⟨11, ⟨some 18, none, .slcL 1 (.tmp 10) (some (.tmp 12)) (some (.tmp 17)) none⟩, false, []⟩],
   [⟨12, ⟨some 6, none, .mov (.tmp 18)⟩, false, []⟩]]
def R80_2 : RC := .draw [⟨some 19, none, .mov (.tmp 6)⟩,
    ⟨some 20, none, .mov (.tmp 0)⟩,
    ⟨some 21, none, .nilck (.tmp 20)⟩,
    ⟨some 22, none, .faddr 2 (.tmp 21)⟩,
    ⟨some 23, none, .load1 (.tmp 22)⟩,
    ⟨some 24, none, .mov (.tmp 6)⟩,
    ⟨some 25, none, .call 106 [(.tmp 23), (.tmp 24)]⟩,
    ⟨some 26, none, .mov (.tmp 0)⟩,
    ⟨some 27, none, .nilck (.tmp 26)⟩,
    ⟨some 28, none, .faddr 1 (.tmp 27)⟩,
    ⟨some 29, none, .load1 (.tmp 28)⟩,
    ⟨some 30, none, .faddr 0 (.tmp 3)⟩,
    ⟨some 31, none, .load1 (.tmp 30)⟩,
    ⟨some 32, none, .faddr 1 (.tmp 3)⟩,
    ⟨some 33, none, .load1 (.tmp 32)⟩,
    ⟨some 34, none, .bin .add 3 (.tmp 31) (.tmp 33)⟩,
    ⟨some 35, none, .faddr 0 (.tmp 3)⟩,
    ⟨some 36, none, .load1 (.tmp 35)⟩,
    ⟨some 37, none, .faddr 1 (.tmp 3)⟩,
    ⟨some 38, none, .load1 (.tmp 37)⟩,
    ⟨some 39, none, .bin .add 3 (.tmp 36) (.tmp 38)⟩,
    ⟨some 40, none, .bin .add 3 (.tmp 39) (.const (.int .i64 5))⟩,
    ⟨some 41, none, .slcL 1 (.tmp 29) (some (.tmp 34)) (some (.tmp 40)) none⟩,
    ⟨some 42, none, .call 82 [(.tmp 25), (.tmp 41)]⟩,
    ⟨some 4, none, .mov (.tmp 19)⟩,
    ⟨some 5, none, .mov (.tmp 42)⟩] [[⟨0, ⟨some 19, none, .mov (.tmp 6)⟩, false, []⟩,
    ⟨1, ⟨some 20, none, .mov (.tmp 0)⟩, false, []⟩,
    ⟨2, ⟨some 21, none, .nilck (.tmp 20)⟩, false, []⟩,
    ⟨3, ⟨some 22, none, .faddr 2 (.tmp 21)⟩, false, []⟩,
    ⟨4, ⟨some 23, none, .load1 (.tmp 22)⟩, true, []⟩,
    ⟨5, ⟨some 24, none, .mov (.tmp 6)⟩, false, []⟩,
    ⟨7, ⟨some 26, none, .mov (.tmp 0)⟩, false, []⟩,
    ⟨8, ⟨some 27, none, .nilck (.tmp 26)⟩, false, []⟩,
    ⟨9, ⟨some 28, none, .faddr 1 (.tmp 27)⟩, false, []⟩,
    ⟨10, ⟨some 29, none, .load1 (.tmp 28)⟩, true, []⟩,
    ⟨11, ⟨some 30, none, .faddr 0 (.tmp 3)⟩, false, []⟩,
    ⟨12, ⟨some 31, none, .load1 (.tmp 30)⟩, true, []⟩,
    ⟨13, ⟨some 32, none, .faddr 1 (.tmp 3)⟩, false, []⟩,
    ⟨14, ⟨some 33, none, .load1 (.tmp 32)⟩, true, []⟩,
    ⟨15, ⟨some 34, none, .bin .add 3 (.tmp 31) (.tmp 33)⟩, false, []⟩,
    ⟨16, ⟨some 35, none, .faddr 0 (.tmp 3)⟩, false, []⟩,
    ⟨17, ⟨some 36, none, .load1 (.tmp 35)⟩, true, []⟩,
    ⟨18, ⟨some 37, none, .faddr 1 (.tmp 3)⟩, false, []⟩,
    ⟨19, ⟨some 38, none, .load1 (.tmp 37)⟩, true, []⟩,
    ⟨20, ⟨some 39, none, .bin .add 3 (.tmp 36) (.tmp 38)⟩, false, []⟩,
    ⟨21, ⟨some 40, none, .bin .add 3 (.tmp 39) (.const (.int .i64 5))⟩, false, []⟩,
    ⟨22, ⟨some 41, none, .slcL 1 (.tmp 29) (some (.tmp 34)) (some (.tmp 40)) none⟩, false, []⟩,
    ⟨6, ⟨some 25, none, .call 106 [(.tmp 23), (.tmp 24)]⟩, false, [10, 12, 14, 17, 19]⟩,
    ⟨23, ⟨some 42, none, .call 82 [(.tmp 25), (.tmp 41)]⟩, false, []⟩],
   [⟨24, ⟨some 4, none, .mov (.tmp 19)⟩, false, []⟩],
   [⟨25, ⟨some 5, none, .mov (.tmp 42)⟩, false, []⟩]]
def R80_3 : RC := .seq R80_2 (.ret)
def R80_4 : RC := .seq R80_1 R80_3
def R80_5 : RC := .seq R80_0 R80_4

theorem fn80 : FnOK Tryz.prog 80 ⟨R80_5, [.tmp 4, .tmp 5], 43⟩ :=
  ⟨Tryz.f80, Tryz.f80.body.getD .skip, Tryz.func80, by kernel_rfl, by kernel_rfl, by kernel_rfl, by kernel_rfl, by kernel_rfl⟩
-- 81: lectern/block.Read
def R81_0 : RC := .reg [⟨some 1, none, .box 22 (.tmp 0)⟩,
    ⟨some 2, none, .mov (.const (.slice none 0 0))⟩,
    ⟨some 3, none, .mov (.const (.int .i64 0))⟩]
def R81_1 : RC := .reg [⟨some 4, none, .newv 43 (.slice none 0 0)⟩]
def R81_2 : RC := .reg [⟨some 6, none, .mkFn (.func 117) [] [(.tmp 1), (.tmp 4)]⟩,
    ⟨some 7, none, .call 103 [(.tmp 6)]⟩,
    ⟨some 5, none, .mov (.tmp 7)⟩]
def R81_3 : RC := .reg [⟨some 8, none, .mov (.tmp 5)⟩,
    ⟨some 9, none, .bin .neq 59 (.tmp 8) (.const (.int .i64 0))⟩]
def R81_4 : RC := .reg [⟨some 10, none, .mov (.tmp 5)⟩,
    ⟨some 2, none, .mov (.const (.slice none 0 0))⟩,
    ⟨some 3, none, .mov (.tmp 10)⟩]
def R81_5 : RC := .seq R81_4 (.ret)
def R81_6 : RC := .cond (.tmp 9) R81_5 (.skip)
def R81_7 : RC := .seq R81_3 R81_6
def R81_8 : RC := .reg [⟨some 11, none, .load1 (.tmp 4)⟩,
    ⟨some 2, none, .mov (.tmp 11)⟩,
    ⟨some 3, none, .mov (.const (.int .i64 0))⟩]
def R81_9 : RC := .seq R81_8 (.ret)
def R81_10 : RC := .seq R81_7 R81_9
def R81_11 : RC := .seq R81_2 R81_10
def R81_12 : RC := .seq R81_1 R81_11
def R81_13 : RC := .seq R81_0 R81_12

theorem fn81 : FnOK Tryz.prog 81 ⟨R81_13, [.tmp 2, .tmp 3], 12⟩ :=
  ⟨Tryz.f81, Tryz.f81.body.getD .skip, Tryz.func81, by kernel_rfl, by kernel_rfl, by kernel_rfl, by kernel_rfl, by kernel_rfl⟩
-- 82: bytes.Equal
def R82_0 : RC := .reg [⟨some 4, none, .mov (.const (.bool false))⟩]
def R82_1 : RC := .reg [⟨some 5, none, .mov (.tmp 0)⟩,
    ⟨some 6, none, .cvB2S (.tmp 5)⟩,
    ⟨some 7, none, .mov (.tmp 1)⟩,
    ⟨some 8, none, .cvB2S (.tmp 7)⟩,
    ⟨some 9, none, .bin .eql 9 (.tmp 6) (.tmp 8)⟩,
    ⟨some 4, none, .mov (.tmp 9)⟩]
def R82_2 : RC := .seq R82_1 (.ret)
def R82_3 : RC := .seq R82_0 R82_2

theorem fn82 : FnOK Tryz.prog 82 ⟨R82_3, [.tmp 4], 10⟩ :=
  ⟨Tryz.f82, Tryz.f82.body.getD .skip, Tryz.func82, by kernel_rfl, by kernel_rfl, by kernel_rfl, by kernel_rfl, by kernel_rfl⟩
-- 83: slices.BinarySearchFunc[[]lectern/api.Pair,lectern/api.Pair,[]byte]
def R83_0 : RC := .reg [⟨some 6, none, .mov (.const (.int .i64 0))⟩,
    ⟨some 7, none, .mov (.const (.bool false))⟩]
def R83_1 : RC := .reg [⟨some 12, none, .mov (.tmp 0)⟩,
    ⟨some 13, none, .lenS (.tmp 12)⟩,
    ⟨some 8, none, .mov (.tmp 13)⟩]
def R83_2 : RC := .reg [⟨some 14, none, .mov (.tmp 8)⟩,
    ⟨some 9, none, .mov (.const (.int .i64 0))⟩,
    ⟨some 10, none, .mov (.tmp 14)⟩]
def R83_3 : RC := .reg [⟨some 15, none, .mov (.tmp 9)⟩,
    ⟨some 16, none, .mov (.tmp 10)⟩,
    ⟨some 17, none, .bin .lss 3 (.tmp 15) (.tmp 16)⟩]
def R83_4 : RC := .cond (.tmp 17) (.skip) (.exit 0)
def R83_5 : RC := .seq R83_3 R83_4
def R83_6 : RC := .reg [⟨some 18, none, .mov (.tmp 9)⟩,
    ⟨some 19, none, .mov (.tmp 10)⟩,
    ⟨some 20, none, .bin .add 3 (.tmp 18) (.tmp 19)⟩,
    ⟨some 21, none, .cvInt .u64 (.tmp 20)⟩,
    ⟨some 22, none, .bin .shr 206 (.tmp 21) (.const (.int .u64 1))⟩,
    ⟨some 23, none, .cvInt .i64 (.tmp 22)⟩,
    ⟨some 11, none, .mov (.tmp 23)⟩]
def R83_7 : RC := .reg [⟨some 24, none, .mov (.tmp 2)⟩,
    ⟨some 25, none, .mov (.tmp 0)⟩,
    ⟨some 26, none, .mov (.tmp 11)⟩,
    ⟨some 27, none, .ixS 2 (.tmp 25) (.tmp 26)⟩,
    ⟨some 28, none, .loadN 2 (.tmp 27)⟩,
    ⟨some 29, none, .mov (.tmp 1)⟩,
    ⟨some 30, none, .callV (.tmp 24) [(.tmp 28), (.tmp 29)]⟩,
    ⟨some 31, none, .bin .lss 3 (.tmp 30) (.const (.int .i64 0))⟩]
def R83_8 : RC := .reg [⟨some 32, none, .mov (.tmp 11)⟩,
    ⟨some 33, none, .bin .add 3 (.tmp 32) (.const (.int .i64 1))⟩,
    ⟨some 9, none, .mov (.tmp 33)⟩]
def R83_9 : RC := .reg [⟨some 34, none, .mov (.tmp 11)⟩,
    ⟨some 10, none, .mov (.tmp 34)⟩]
def R83_10 : RC := .cond (.tmp 31) R83_8 R83_9
def R83_11 : RC := .seq R83_7 R83_10
def R83_12 : RC := .seq R83_6 R83_11
def R83_13 : RC := .block 1 R83_12
def R83_14 : RC := .seq R83_5 R83_13
def R83_15 : RC := .loop R83_14
def R83_16 : RC := .block 0 R83_15
def R83_17 : RC := .reg [⟨some 35, none, .mov (.tmp 9)⟩,
    ⟨some 36, none, .mov (.tmp 9)⟩,
    ⟨some 37, none, .mov (.tmp 8)⟩,
    ⟨some 38, none, .bin .lss 3 (.tmp 36) (.tmp 37)⟩,
    ⟨some 39, none, .mov (.tmp 38)⟩,
    ⟨some 40, some (39, true), .mov (.tmp 2)⟩,
    ⟨some 41, some (39, true), .mov (.tmp 0)⟩,
    ⟨some 42, some (39, true), .mov (.tmp 9)⟩,
    ⟨some 43, some (39, true), .ixS 2 (.tmp 41) (.tmp 42)⟩,
    ⟨some 44, some (39, true), .loadN 2 (.tmp 43)⟩,
    ⟨some 45, some (39, true), .mov (.tmp 1)⟩,
    ⟨some 46, some (39, true), .callV (.tmp 40) [(.tmp 44), (.tmp 45)]⟩,
    ⟨some 47, some (39, true), .bin .eql 3 (.tmp 46) (.const (.int .i64 0))⟩,
    ⟨some 48, none, .pick (.tmp 39) (.tmp 47) (.const (.bool false))⟩,
    ⟨some 6, none, .mov (.tmp 35)⟩,
    ⟨some 7, none, .mov (.tmp 48)⟩]
def R83_18 : RC := .seq R83_17 (.ret)
def R83_19 : RC := .seq R83_16 R83_18
def R83_20 : RC := .seq R83_2 R83_19
def R83_21 : RC := .seq R83_1 R83_20
def R83_22 : RC := .seq R83_0 R83_21

theorem fn83 : FnOK Tryz.prog 83 ⟨R83_22, [.tmp 6, .tmp 7], 49⟩ :=
  ⟨Tryz.f83, Tryz.f83.body.getD .skip, Tryz.func83, by kernel_rfl, by kernel_rfl, by kernel_rfl, by kernel_rfl, by kernel_rfl⟩
-- 84: lectern/sst.find$1
def R84_0 : RC := .reg [⟨some 2, none, .box 51 (.tmp 0)⟩,
    ⟨some 4, none, .mov (.const (.int .i64 0))⟩]
def R84_1 : RC := .reg [⟨some 5, none, .faddr 0 (.tmp 2)⟩,
    ⟨some 6, none, .load1 (.tmp 5)⟩,
    ⟨some 7, none, .mov (.tmp 1)⟩,
    ⟨some 8, none, .call 78 [(.tmp 6), (.tmp 7)]⟩,
    ⟨some 4, none, .mov (.tmp 8)⟩]
def R84_2 : RC := .seq R84_1 (.ret)
def R84_3 : RC := .seq R84_0 R84_2

theorem fn84 : FnOK Tryz.prog 84 ⟨R84_3, [.tmp 4], 9⟩ :=
  ⟨Tryz.f84, Tryz.f84.body.getD .skip, Tryz.func84, by kernel_rfl, by kernel_rfl, by kernel_rfl, by kernel_rfl, by kernel_rfl⟩
-- 85: lectern/bloom.probes
def R85_0 : RC := .reg [⟨some 3, none, .box 22 (.tmp 0)⟩,
    ⟨some 4, none, .box 3 (.tmp 1)⟩,
    ⟨some 5, none, .box 142 (.tmp 2)⟩,
    ⟨some 6, none, .mov (.const (.nilFunc))⟩]
def R85_1 : RC := .reg [⟨some 7, none, .mkFn (.func 119) [] [(.tmp 3), (.tmp 4), (.tmp 5)]⟩,
    ⟨some 6, none, .mov (.tmp 7)⟩]
def R85_2 : RC := .seq R85_1 (.ret)
def R85_3 : RC := .seq R85_0 R85_2

theorem fn85 : FnOK Tryz.prog 85 ⟨R85_3, [.tmp 6], 8⟩ :=
  ⟨Tryz.f85, Tryz.f85.body.getD .skip, Tryz.func85, by kernel_rfl, by kernel_rfl, by kernel_rfl, by kernel_rfl, by kernel_rfl⟩
-- 86: sync/atomic.LoadInt64
theorem xf86 : XfOK Tryz.prog 86 (.ld .i64) := xf_of Tryz.func86 (by kernel_rfl) (by kernel_rfl) (by kernel_rfl) (by kernel_rfl)
-- 101: lectern/sst.within
def R101_0 : RC := .reg [⟨some 6, none, .mov (.const (.bool false))⟩]
def R101_1 : RC := .reg [⟨some 7, none, .mov (.tmp 0)⟩,
    ⟨some 8, none, .mov (.tmp 1)⟩,
    ⟨some 9, none, .bin .geq 3 (.tmp 7) (.tmp 8)⟩,
    ⟨some 10, none, .mov (.tmp 9)⟩,
    ⟨some 11, some (10, true), .mov (.tmp 0)⟩,
    ⟨some 12, some (10, true), .mov (.tmp 2)⟩,
    ⟨some 13, some (10, true), .bin .leq 3 (.tmp 11) (.tmp 12)⟩,
    ⟨some 14, none, .pick (.tmp 10) (.tmp 13) (.const (.bool false))⟩,
    ⟨some 6, none, .mov (.tmp 14)⟩]
def R101_2 : RC := .seq R101_1 (.ret)
def R101_3 : RC := .seq R101_0 R101_2

theorem fn101 : FnOK Tryz.prog 101 ⟨R101_3, [.tmp 6], 15⟩ :=
  ⟨Tryz.f101, Tryz.f101.body.getD .skip, Tryz.func101, by kernel_rfl, by kernel_rfl, by kernel_rfl, by kernel_rfl, by kernel_rfl⟩
-- 102: lectern/ikey.Split
def R102_0 : RC := .reg [⟨some 2, none, .mov (.const (.slice none 0 0))⟩,
    ⟨some 3, none, .mov (.const (.int .i64 0))⟩,
    ⟨some 4, none, .mov (.const (.int .i64 0))⟩,
    ⟨some 5, none, .mov (.const (.int .i64 0))⟩]
def R102_1 : RC := .reg [⟨some 10, none, .mov (.tmp 0)⟩,
    ⟨some 11, none, .call 132 [(.tmp 10)]⟩,
    ⟨some 9, none, .mov (.tmp 11)⟩,
    ⟨some 12, none, .extr (.tmp 9) 0⟩,
    ⟨some 13, none, .extr (.tmp 9) 1⟩,
    ⟨some 6, none, .newv 85 (.agg #[.int .i64 0, .slice none 0 0, .int .i64 0, .int .i64 0, .string ⟨#[]⟩])⟩,
    ⟨none, none, .store 5 (.tmp 6) (.tmp 12)⟩,
    ⟨some 7, none, .mov (.tmp 13)⟩]
def R102_2 : RC := .reg [⟨some 14, none, .mov (.tmp 7)⟩,
    ⟨some 15, none, .bin .neq 59 (.tmp 14) (.const (.int .i64 0))⟩]
def R102_3 : RC := .reg [⟨some 16, none, .mov (.tmp 7)⟩,
    ⟨some 2, none, .mov (.const (.slice none 0 0))⟩,
    ⟨some 3, none, .mov (.const (.int .i64 0))⟩,
    ⟨some 4, none, .mov (.const (.int .i64 0))⟩,
    ⟨some 5, none, .mov (.tmp 16)⟩]
def R102_4 : RC := .seq R102_3 (.ret)
def R102_5 : RC := .cond (.tmp 15) R102_4 (.skip)
def R102_6 : RC := .seq R102_2 R102_5
def R102_7 : RC := .reg [⟨some 18, none, .faddr 0 (.tmp 6)⟩,
    ⟨some 19, none, .load1 (.tmp 18)⟩,
    ⟨some 20, none, .faddr 1 (.tmp 6)⟩,
    ⟨some 21, none, .load1 (.tmp 20)⟩,
    ⟨some 22, none, .call 133 [(.tmp 19), (.tmp 21)]⟩,
    ⟨some 17, none, .mov (.tmp 22)⟩,
    ⟨some 23, none, .extr (.tmp 17) 0⟩,
    ⟨some 24, none, .extr (.tmp 17) 1⟩,
    ⟨some 8, none, .mov (.tmp 23)⟩,
    ⟨some 7, none, .mov (.tmp 24)⟩]
def R102_8 : RC := .draw [⟨some 25, none, .mov (.tmp 8)⟩,
    ⟨some 26, none, .faddr 2 (.tmp 6)⟩,
    ⟨some 27, none, .load1 (.tmp 26)⟩,
    ⟨some 28, none, .faddr 3 (.tmp 6)⟩,
    ⟨some 29, none, .load1 (.tmp 28)⟩,
    ⟨some 30, none, .mov (.tmp 7)⟩,
    ⟨some 2, none, .mov (.tmp 25)⟩,
    ⟨some 3, none, .mov (.tmp 27)⟩,
    ⟨some 4, none, .mov (.tmp 29)⟩,
    ⟨some 5, none, .mov (.tmp 30)⟩] [[⟨0, ⟨some 25, none, .mov (.tmp 8)⟩, false, []⟩,
    ⟨1, ⟨some 26, none, .faddr 2 (.tmp 6)⟩, false, []⟩,
    ⟨2, ⟨some 27, none, .load1 (.tmp 26)⟩, true, []⟩,
    ⟨3, ⟨some 28, none, .faddr 3 (.tmp 6)⟩, false, []⟩,
    ⟨4, ⟨some 29, none, .load1 (.tmp 28)⟩, true, []⟩,
    ⟨5, ⟨some 30, none, .mov (.tmp 7)⟩, false, []⟩,
    ⟨6, ⟨some 2, none, .mov (.tmp 25)⟩, false, []⟩,
    ⟨7, ⟨some 3, none, .mov (.tmp 27)⟩, false, []⟩,
    ⟨8, ⟨some 4, none, .mov (.tmp 29)⟩, false, []⟩],
   [⟨9, ⟨some 5, none, .mov (.tmp 30)⟩, false, []⟩]]
def R102_9 : RC := .seq R102_8 (.ret)
def R102_10 : RC := .seq R102_7 R102_9
def R102_11 : RC := .seq R102_6 R102_10
def R102_12 : RC := .seq R102_1 R102_11
def R102_13 : RC := .seq R102_0 R102_12

theorem fn102 : FnOK Tryz.prog 102 ⟨R102_13, [.tmp 2, .tmp 3, .tmp 4, .tmp 5], 31⟩ :=
  ⟨Tryz.f102, Tryz.f102.body.getD .skip, Tryz.func102, by kernel_rfl, by kernel_rfl, by kernel_rfl, by kernel_rfl, by kernel_rfl⟩
-- 104: lectern/block.Build$1
def R104_0 : RC := .reg [⟨some 3, none, .load1 (.tmp 0)⟩,
    ⟨some 4, none, .load1 (.tmp 1)⟩,
    ⟨some 5, none, .call 105 [(.tmp 3), (.tmp 4)]⟩,
    ⟨none, none, .store 1 (.tmp 2) (.tmp 5)⟩]

theorem fn104 : FnOK Tryz.prog 104 ⟨R104_0, [], 6⟩ :=
  ⟨Tryz.f104, Tryz.f104.body.getD .skip, Tryz.func104, by kernel_rfl, by kernel_rfl, by kernel_rfl, by kernel_rfl, by kernel_rfl⟩
-- 103: lectern/block.guarded
def R103_0 : RC := .reg [⟨some 2, none, .newv 59 (.int .i64 0)⟩]
def R103_1 : RC := .reg [⟨some 3, none, .mkFn (.func 134) [] [(.tmp 2)]⟩,
    ⟨none, none, .defr ⟨.value (.tmp 3), #[], #[]⟩ 0⟩]
def R103_2 : RC := .reg [⟨some 4, none, .mov (.tmp 0)⟩,
    ⟨some 5, none, .callV (.tmp 4) []⟩]
def R103_3 : RC := .reg [⟨none, none, .store 1 (.tmp 2) (.const (.int .i64 0))⟩]
def R103_4 : RC := .seq R103_3 (.ret)
def R103_5 : RC := .seq R103_2 R103_4
def R103_6 : RC := .seq R103_1 R103_5
def R103_7 : RC := .seq R103_0 R103_6

theorem fn103 : FnOK Tryz.prog 103 ⟨R103_7, [.cell1 2], 6⟩ :=
  ⟨Tryz.f103, Tryz.f103.body.getD .skip, Tryz.func103, by kernel_rfl, by kernel_rfl, by kernel_rfl, by kernel_rfl, by kernel_rfl⟩
-- 106: lectern/sst.tailOf
def R106_0 : RC := .reg [⟨some 4, none, .mov (.const (.slice none 0 0))⟩]
def R106_1 : RC := .reg [⟨some 6, none, .mov (.tmp 0)⟩,
    ⟨some 7, none, .mov (.tmp 0)⟩,
    ⟨some 8, none, .mov (.tmp 1)⟩,
    ⟨some 9, none, .call 124 [(.tmp 7), (.tmp 8)]⟩,
    ⟨some 10, none, .mkSl 5 1 1 #[.int .u8 0] [(0, (.const (.int .u8 0)))]⟩,
    ⟨some 11, none, .call 140 [(.tmp 6), (.tmp 9), (.tmp 10)]⟩,
    ⟨some 12, none, .call 123 [(.tmp 11)]⟩,
    ⟨some 5, none, .mov (.tmp 12)⟩]
def R106_2 : RC := .reg [⟨some 13, none, .mov (.tmp 5)⟩,
    ⟨some 14, none, .cvInt .u8 (.tmp 13)⟩,
    ⟨some 15, none, .mov (.tmp 5)⟩,
    ⟨some 16, none, .bin .shr 142 (.tmp 15) (.const (.int .u64 8))⟩,
    ⟨some 17, none, .cvInt .u8 (.tmp 16)⟩,
    ⟨some 18, none, .mov (.tmp 5)⟩,
    ⟨some 19, none, .bin .shr 142 (.tmp 18) (.const (.int .u64 16))⟩,
    ⟨some 20, none, .cvInt .u8 (.tmp 19)⟩,
    ⟨some 21, none, .mov (.tmp 5)⟩,
    ⟨some 22, none, .bin .shr 142 (.tmp 21) (.const (.int .u64 24))⟩,
    ⟨some 23, none, .cvInt .u8 (.tmp 22)⟩,
    ⟨some 24, none, .mkSl 5 1 5 #[.int .u8 0, .int .u8 0, .int .u8 0, .int .u8 0, .int .u8 0] [(0, (.const (.int .u8 0))), (1, (.tmp 14)), (2, (.tmp 17)), (3, (.tmp 20)), (4, (.tmp 23))]⟩,
    ⟨some 4, none, .mov (.tmp 24)⟩]
def R106_3 : RC := .seq R106_2 (.ret)
def R106_4 : RC := .seq R106_1 R106_3
def R106_5 : RC := .seq R106_0 R106_4

theorem fn106 : FnOK Tryz.prog 106 ⟨R106_5, [.tmp 4], 25⟩ :=
  ⟨Tryz.f106, Tryz.f106.body.getD .skip, Tryz.func106, by kernel_rfl, by kernel_rfl, by kernel_rfl, by kernel_rfl, by kernel_rfl⟩
-- 107: lectern/codec.Uint
def R107_0 : RC := .reg [⟨some 2, none, .mov (.const (.slice none 0 0))⟩]
def R107_1 : RC := .reg [⟨some 3, none, .mov (.const (.slice none 0 0))⟩]
def R107_2 : RC := .reg [⟨some 4, none, .mov (.tmp 0)⟩,
    ⟨some 5, none, .bin .geq 200 (.tmp 4) (.const (.int .u64 128))⟩]
def R107_3 : RC := .cond (.tmp 5) (.skip) (.exit 0)
def R107_4 : RC := .seq R107_2 R107_3
def R107_5 : RC := .reg [⟨some 6, none, .mov (.tmp 3)⟩,
    ⟨some 7, none, .mov (.tmp 0)⟩,
    ⟨some 8, none, .cvInt .u8 (.tmp 7)⟩,
    ⟨some 9, none, .bin .or 5 (.tmp 8) (.const (.int .u8 128))⟩,
    ⟨some 10, none, .mkSl 5 1 1 #[.int .u8 0] [(0, (.tmp 9))]⟩,
    ⟨some 11, none, .app 5 1 1 (.int .u8 0) (.tmp 6) (.tmp 10)⟩,
    ⟨some 3, none, .mov (.tmp 11)⟩]
def R107_6 : RC := .reg [⟨some 12, none, .mov (.tmp 0)⟩,
    ⟨some 13, none, .bin .shr 200 (.tmp 12) (.const (.int .u64 7))⟩,
    ⟨some 0, none, .mov (.tmp 13)⟩]
def R107_7 : RC := .seq R107_5 R107_6
def R107_8 : RC := .block 1 R107_7
def R107_9 : RC := .seq R107_4 R107_8
def R107_10 : RC := .loop R107_9
def R107_11 : RC := .block 0 R107_10
def R107_12 : RC := .reg [⟨some 14, none, .mov (.tmp 3)⟩,
    ⟨some 15, none, .mov (.tmp 0)⟩,
    ⟨some 16, none, .cvInt .u8 (.tmp 15)⟩,
    ⟨some 17, none, .mkSl 5 1 1 #[.int .u8 0] [(0, (.tmp 16))]⟩,
    ⟨some 18, none, .app 5 1 1 (.int .u8 0) (.tmp 14) (.tmp 17)⟩,
    ⟨some 2, none, .mov (.tmp 18)⟩]
def R107_13 : RC := .seq R107_12 (.ret)
def R107_14 : RC := .seq R107_11 R107_13
def R107_15 : RC := .seq R107_1 R107_14
def R107_16 : RC := .seq R107_0 R107_15

theorem fn107 : FnOK Tryz.prog 107 ⟨R107_16, [.tmp 2], 19⟩ :=
  ⟨Tryz.f107, Tryz.f107.body.getD .skip, Tryz.func107, by kernel_rfl, by kernel_rfl, by kernel_rfl, by kernel_rfl, by kernel_rfl⟩
-- 108: lectern/bloom.Probes
def R108_0 : RC := .reg [⟨some 2, none, .mov (.const (.int .i64 0))⟩]
def R108_1 : RC := .reg [⟨some 3, none, .mov (.tmp 0)⟩,
    ⟨some 4, none, .bin .lss 3 (.tmp 3) (.const (.int .i64 1))⟩]
def R108_2 : RC := .reg [⟨some 2, none, .mov (.const (.int .i64 1))⟩]
def R108_3 : RC := .seq R108_2 (.ret)
def R108_4 : RC := .cond (.tmp 4) R108_3 (.skip)
def R108_5 : RC := .seq R108_1 R108_4
def R108_6 : RC := .reg [⟨some 5, none, .mov (.tmp 0)⟩,
    ⟨some 6, none, .bin .gtr 3 (.tmp 5) (.const (.int .i64 64))⟩]
def R108_7 : RC := .reg [⟨some 2, none, .mov (.const (.int .i64 30))⟩]
def R108_8 : RC := .seq R108_7 (.ret)
def R108_9 : RC := .cond (.tmp 6) R108_8 (.skip)
def R108_10 : RC := .seq R108_6 R108_9
def R108_11 : RC := .reg [⟨some 7, none, .mov (.tmp 0)⟩,
    ⟨some 8, none, .bin .mul 3 (.const (.int .i64 69)) (.tmp 7)⟩,
    ⟨some 9, none, .bin .quo 3 (.tmp 8) (.const (.int .i64 100))⟩,
    ⟨some 10, none, .bi .min #[3, 3] 3 #[true, false] [(.const (.int .i64 30)), (.tmp 9)]⟩,
    ⟨some 11, none, .bi .max #[3, 3] 3 #[true, false] [(.const (.int .i64 1)), (.tmp 10)]⟩,
    ⟨some 2, none, .mov (.tmp 11)⟩]
def R108_12 : RC := .seq R108_11 (.ret)
def R108_13 : RC := .seq R108_10 R108_12
def R108_14 : RC := .seq R108_5 R108_13
def R108_15 : RC := .seq R108_0 R108_14

theorem fn108 : FnOK Tryz.prog 108 ⟨R108_15, [.tmp 2], 12⟩ :=
  ⟨Tryz.f108, Tryz.f108.body.getD .skip, Tryz.func108, by kernel_rfl, by kernel_rfl, by kernel_rfl, by kernel_rfl, by kernel_rfl⟩
-- 109: lectern/codec.New
def R109_0 : RC := .reg [⟨some 2, none, .mov (.const (.pointer none))⟩]
def R109_1 : RC := .reg [⟨some 3, none, .mov (.tmp 0)⟩,
    ⟨some 4, none, .call 141 [(.tmp 3)]⟩,
    ⟨some 5, none, .build [(0, 1), (1, 1), (2, 1), (3, 1)] #[.int .i64 0, .slice none 0 0, .int .i64 0, .int .i64 0] [(0, (.const (.int .i64 1))), (1, (.tmp 4))]⟩,
    ⟨some 6, none, .box 236 (.tmp 5)⟩,
    ⟨some 2, none, .mov (.tmp 6)⟩]
def R109_2 : RC := .seq R109_1 (.ret)
def R109_3 : RC := .seq R109_0 R109_2

theorem fn109 : FnOK Tryz.prog 109 ⟨R109_3, [.tmp 2], 7⟩ :=
  ⟨Tryz.f109, Tryz.f109.body.getD .skip, Tryz.func109, by kernel_rfl, by kernel_rfl, by kernel_rfl, by kernel_rfl, by kernel_rfl⟩
-- 110: (*lectern/sst.Table).open$1
def R110_0 : RC := .reg [⟨some 1, none, .mov (.const (.int .i64 0))⟩]
def R110_1 : RC := .reg [⟨some 3, none, .load1 (.tmp 0)⟩,
    ⟨some 4, none, .call 111 [(.tmp 3)]⟩,
    ⟨some 2, none, .mov (.tmp 4)⟩]
def R110_2 : RC := .reg [⟨some 5, none, .mov (.tmp 2)⟩,
    ⟨some 6, none, .bin .leq 200 (.tmp 5) (.const (.int .u64 16777216))⟩,
    ⟨some 7, none, .call 75 [(.tmp 6), (.const (.int .i64 210))]⟩]
def R110_3 : RC := .reg [⟨some 8, none, .mov (.tmp 2)⟩,
    ⟨some 9, none, .cvInt .i64 (.tmp 8)⟩,
    ⟨some 1, none, .mov (.tmp 9)⟩]
def R110_4 : RC := .seq R110_3 (.ret)
def R110_5 : RC := .seq R110_2 R110_4
def R110_6 : RC := .seq R110_1 R110_5
def R110_7 : RC := .seq R110_0 R110_6

theorem fn110 : FnOK Tryz.prog 110 ⟨R110_7, [.tmp 1], 10⟩ :=
  ⟨Tryz.f110, Tryz.f110.body.getD .skip, Tryz.func110, by kernel_rfl, by kernel_rfl, by kernel_rfl, by kernel_rfl, by kernel_rfl⟩
-- 112: (*lectern/codec.Reader).Err
def R112_0 : RC := .reg [⟨some 2, none, .mov (.const (.int .i64 0))⟩]
def R112_1 : RC := .reg [⟨some 3, none, .mov (.tmp 0)⟩,
    ⟨some 4, none, .call 144 [(.tmp 3)]⟩,
    ⟨some 5, none, .un .not (.tmp 4)⟩]
def R112_2 : RC := .reg [⟨some 2, none, .mov (.const (.int .i64 23))⟩]
def R112_3 : RC := .seq R112_2 (.ret)
def R112_4 : RC := .cond (.tmp 5) R112_3 (.skip)
def R112_5 : RC := .seq R112_1 R112_4
def R112_6 : RC := .reg [⟨some 6, none, .mov (.tmp 0)⟩,
    ⟨some 7, none, .nilck (.tmp 6)⟩,
    ⟨some 8, none, .faddr 3 (.tmp 7)⟩,
    ⟨some 9, none, .load1 (.tmp 8)⟩,
    ⟨some 2, none, .mov (.tmp 9)⟩]
def R112_7 : RC := .seq R112_6 (.ret)
def R112_8 : RC := .seq R112_5 R112_7
def R112_9 : RC := .seq R112_0 R112_8

theorem fn112 : FnOK Tryz.prog 112 ⟨R112_9, [.tmp 2], 10⟩ :=
  ⟨Tryz.f112, Tryz.f112.body.getD .skip, Tryz.func112, by kernel_rfl, by kernel_rfl, by kernel_rfl, by kernel_rfl, by kernel_rfl⟩
-- 113: (*lectern/codec.Reader).At
def R113_0 : RC := .reg [⟨some 2, none, .mov (.const (.int .i64 0))⟩]
def R113_1 : RC := .reg [⟨some 3, none, .mov (.tmp 0)⟩,
    ⟨some 4, none, .call 144 [(.tmp 3)]⟩,
    ⟨some 5, none, .un .not (.tmp 4)⟩]
def R113_2 : RC := .reg [⟨some 2, none, .mov (.const (.int .i64 0))⟩]
def R113_3 : RC := .seq R113_2 (.ret)
def R113_4 : RC := .cond (.tmp 5) R113_3 (.skip)
def R113_5 : RC := .seq R113_1 R113_4
def R113_6 : RC := .reg [⟨some 6, none, .mov (.tmp 0)⟩,
    ⟨some 7, none, .nilck (.tmp 6)⟩,
    ⟨some 8, none, .faddr 2 (.tmp 7)⟩,
    ⟨some 9, none, .load1 (.tmp 8)⟩,
    ⟨some 2, none, .mov (.tmp 9)⟩]
def R113_7 : RC := .seq R113_6 (.ret)
def R113_8 : RC := .seq R113_5 R113_7
def R113_9 : RC := .seq R113_0 R113_8

theorem fn113 : FnOK Tryz.prog 113 ⟨R113_9, [.tmp 2], 10⟩ :=
  ⟨Tryz.f113, Tryz.f113.body.getD .skip, Tryz.func113, by kernel_rfl, by kernel_rfl, by kernel_rfl, by kernel_rfl, by kernel_rfl⟩
-- 111: (*lectern/codec.Reader).Uint
def R111_0 : RC := .reg [⟨some 2, none, .mov (.const (.int .u64 0))⟩]
def R111_1 : RC := .reg [⟨some 3, none, .mov (.tmp 0)⟩,
    ⟨some 4, none, .call 142 [(.tmp 3), (.func 143)]⟩,
    ⟨some 2, none, .mov (.tmp 4)⟩]
def R111_2 : RC := .seq R111_1 (.ret)
def R111_3 : RC := .seq R111_0 R111_2

theorem fn111 : FnOK Tryz.prog 111 ⟨R111_3, [.tmp 2], 5⟩ :=
  ⟨Tryz.f111, Tryz.f111.body.getD .skip, Tryz.func111, by kernel_rfl, by kernel_rfl, by kernel_rfl, by kernel_rfl, by kernel_rfl⟩
-- 114: (*lectern/codec.Reader).Done
def R114_0 : RC := .reg [⟨some 2, none, .mov (.const (.int .i64 0))⟩]
def R114_1 : RC := .reg [⟨some 4, none, .mov (.tmp 0)⟩,
    ⟨some 5, none, .call 112 [(.tmp 4)]⟩,
    ⟨some 3, none, .mov (.tmp 5)⟩]
def R114_2 : RC := .reg [⟨some 6, none, .mov (.tmp 3)⟩,
    ⟨some 7, none, .bin .neq 59 (.tmp 6) (.const (.int .i64 0))⟩]
def R114_3 : RC := .reg [⟨some 8, none, .mov (.tmp 3)⟩,
    ⟨some 2, none, .mov (.tmp 8)⟩]
def R114_4 : RC := .seq R114_3 (.ret)
def R114_5 : RC := .cond (.tmp 7) R114_4 (.skip)
def R114_6 : RC := .seq R114_2 R114_5
def R114_7 : RC := .seq R114_1 R114_6
def R114_8 : RC := .draw [⟨some 9, none, .mov (.tmp 0)⟩,
    ⟨some 10, none, .nilck (.tmp 9)⟩,
    ⟨some 11, none, .faddr 2 (.tmp 10)⟩,
    ⟨some 12, none, .load1 (.tmp 11)⟩,
    ⟨some 13, none, .mov (.tmp 0)⟩,
    ⟨some 14, none, .nilck (.tmp 13)⟩,
    ⟨some 15, none, .faddr 1 (.tmp 14)⟩,
    ⟨some 16, none, .load1 (.tmp 15)⟩,
    ⟨some 17, none, .lenS (.tmp 16)⟩,
    ⟨some 18, none, .bin .lss 3 (.tmp 12) (.tmp 17)⟩] [[⟨0, ⟨some 9, none, .mov (.tmp 0)⟩, false, []⟩,
    ⟨1, ⟨some 10, none, .nilck (.tmp 9)⟩, false, []⟩,
    ⟨2, ⟨some 11, none, .faddr 2 (.tmp 10)⟩, false, []⟩,
    ⟨3, ⟨some 12, none, .load1 (.tmp 11)⟩, true, []⟩,
    ⟨4, ⟨some 13, none, .mov (.tmp 0)⟩, false, []⟩,
    ⟨5, ⟨some 14, none, .nilck (.tmp 13)⟩, false, []⟩,
    ⟨6, ⟨some 15, none, .faddr 1 (.tmp 14)⟩, false, []⟩,
    ⟨7, ⟨some 16, none, .load1 (.tmp 15)⟩, true, []⟩,
    ⟨8, ⟨some 17, none, .lenS (.tmp 16)⟩, false, []⟩],
   [⟨9, ⟨some 18, none, .bin .lss 3 (.tmp 12) (.tmp 17)⟩, false, []⟩]]
def R114_9 : RC := .reg [⟨some 2, none, .mov (.const (.int .i64 22))⟩]
def R114_10 : RC := .seq R114_9 (.ret)
def R114_11 : RC := .cond (.tmp 18) R114_10 (.skip)
def R114_12 : RC := .seq R114_8 R114_11
def R114_13 : RC := .reg [⟨some 2, none, .mov (.const (.int .i64 0))⟩]
def R114_14 : RC := .seq R114_13 (.ret)
def R114_15 : RC := .seq R114_12 R114_14
def R114_16 : RC := .seq R114_7 R114_15
def R114_17 : RC := .seq R114_0 R114_16

theorem fn114 : FnOK Tryz.prog 114 ⟨R114_17, [.tmp 2], 19⟩ :=
  ⟨Tryz.f114, Tryz.f114.body.getD .skip, Tryz.func114, by kernel_rfl, by kernel_rfl, by kernel_rfl, by kernel_rfl, by kernel_rfl⟩
-- 115: internal/bytealg.Compare
theorem xf115 : XfOK Tryz.prog 115 (.cmp) := xf_of Tryz.func115 (by kernel_rfl) (by kernel_rfl) (by kernel_rfl) (by kernel_rfl)
-- 116: sync/atomic.AddInt64
theorem xf116 : XfOK Tryz.prog 116 (.add .i64) := xf_of Tryz.func116 (by kernel_rfl) (by kernel_rfl) (by kernel_rfl) (by kernel_rfl)
-- 117: lectern/block.Read$1
def R117_0 : RC := .reg [⟨some 7, none, .load1 (.tmp 0)⟩,
    ⟨some 8, none, .call 118 [(.tmp 7)]⟩,
    ⟨some 6, none, .mov (.tmp 8)⟩,
    ⟨some 9, none, .extr (.tmp 6) 0⟩,
    ⟨some 10, none, .extr (.tmp 6) 1⟩,
    ⟨some 2, none, .mov (.tmp 9)⟩,
    ⟨some 3, none, .mov (.tmp 10)⟩]
def R117_1 : RC := .reg [⟨some 11, none, .mov (.tmp 2)⟩,
    ⟨some 12, none, .lenS (.tmp 11)⟩,
    ⟨some 13, none, .mov (.const (.int .i64 0))⟩]
def R117_2 : RC := .reg [⟨some 14, none, .bin .lss 3 (.tmp 13) (.tmp 12)⟩]
def R117_3 : RC := .cond (.tmp 14) (.skip) (.exit 0)
def R117_4 : RC := .reg [⟨some 15, none, .ixS 5 (.tmp 11) (.tmp 13)⟩,
    ⟨some 16, none, .loadN 5 (.tmp 15)⟩,
    ⟨some 5, none, .newv 212 (.agg #[.int .i64 0, .slice none 0 0, .slice none 0 0, .int .i64 0, .int .i64 0])⟩,
    ⟨none, none, .store 5 (.tmp 5) (.tmp 16)⟩]
def R117_5 : RC := .reg [⟨some 17, none, .load1 (.tmp 1)⟩,
    ⟨some 18, none, .faddr 1 (.tmp 5)⟩,
    ⟨some 19, none, .loadN 2 (.tmp 18)⟩,
    ⟨some 20, none, .mkSl 51 2 1 #[.slice none 0 0, .slice none 0 0] [(0, (.tmp 19))]⟩,
    ⟨some 21, none, .app 51 2 48 (.agg #[.slice none 0 0, .slice none 0 0]) (.tmp 17) (.tmp 20)⟩,
    ⟨none, none, .store 1 (.tmp 1) (.tmp 21)⟩]
def R117_6 : RC := .seq R117_4 R117_5
def R117_7 : RC := .block 1 R117_6
def R117_8 : RC := .reg [⟨some 22, none, .bin .add 3 (.tmp 13) (.const (.int .i64 1))⟩,
    ⟨some 13, none, .mov (.tmp 22)⟩]
def R117_9 : RC := .seq R117_7 R117_8
def R117_10 : RC := .seq R117_3 R117_9
def R117_11 : RC := .seq R117_2 R117_10
def R117_12 : RC := .loop R117_11
def R117_13 : RC := .block 0 R117_12
def R117_14 : RC := .seq R117_1 R117_13
def R117_15 : RC := .seq R117_0 R117_14

theorem fn117 : FnOK Tryz.prog 117 ⟨R117_15, [], 23⟩ :=
  ⟨Tryz.f117, Tryz.f117.body.getD .skip, Tryz.func117, by kernel_rfl, by kernel_rfl, by kernel_rfl, by kernel_rfl, by kernel_rfl⟩
-- 119: lectern/bloom.probes$1
def R119_0 : RC := .reg [⟨some 7, none, .load1 (.tmp 1)⟩,
    ⟨some 8, none, .call 120 [(.tmp 7)]⟩,
    ⟨some 5, none, .mov (.tmp 8)⟩]
def R119_1 : RC := .reg [⟨some 9, none, .mov (.tmp 5)⟩,
    ⟨some 10, none, .call 121 [(.tmp 9), (.const (.int .i64 (-17)))]⟩,
    ⟨some 6, none, .mov (.tmp 10)⟩]
def R119_2 : RC := .reg [⟨some 11, none, .load1 (.tmp 2)⟩,
    ⟨some 12, none, .mov (.const (.int .i64 0))⟩]
def R119_3 : RC := .reg [⟨some 13, none, .bin .lss 3 (.tmp 12) (.tmp 11)⟩]
def R119_4 : RC := .cond (.tmp 13) (.skip) (.exit 0)
def R119_5 : RC := .reg [⟨some 14, none, .mov (.tmp 0)⟩,
    ⟨some 15, none, .mov (.tmp 5)⟩,
    ⟨some 16, none, .load1 (.tmp 3)⟩,
    ⟨some 17, none, .bin .rem 142 (.tmp 15) (.tmp 16)⟩,
    ⟨some 18, none, .callV (.tmp 14) [(.tmp 17)]⟩,
    ⟨some 19, none, .un .not (.tmp 18)⟩]
def R119_6 : RC := .cond (.tmp 19) (.ret) (.skip)
def R119_7 : RC := .seq R119_5 R119_6
def R119_8 : RC := .reg [⟨some 20, none, .mov (.tmp 5)⟩,
    ⟨some 21, none, .mov (.tmp 6)⟩,
    ⟨some 22, none, .bin .add 142 (.tmp 20) (.tmp 21)⟩,
    ⟨some 5, none, .mov (.tmp 22)⟩]
def R119_9 : RC := .seq R119_7 R119_8
def R119_10 : RC := .block 1 R119_9
def R119_11 : RC := .reg [⟨some 23, none, .bin .add 3 (.tmp 12) (.const (.int .i64 1))⟩,
    ⟨some 12, none, .mov (.tmp 23)⟩]
def R119_12 : RC := .seq R119_10 R119_11
def R119_13 : RC := .seq R119_4 R119_12
def R119_14 : RC := .seq R119_3 R119_13
def R119_15 : RC := .loop R119_14
def R119_16 : RC := .block 0 R119_15
def R119_17 : RC := .seq R119_2 R119_16
def R119_18 : RC := .seq R119_1 R119_17
def R119_19 : RC := .seq R119_0 R119_18

theorem fn119 : FnOK Tryz.prog 119 ⟨R119_19, [], 24⟩ :=
  ⟨Tryz.f119, Tryz.f119.body.getD .skip, Tryz.func119, by kernel_rfl, by kernel_rfl, by kernel_rfl, by kernel_rfl, by kernel_rfl⟩
-- 132: lectern/ikey.Decode
def R132_0 : RC := .reg [⟨some 1, none, .box 22 (.tmp 0)⟩,
    ⟨some 2, none, .newv 85 (.agg #[.int .i64 0, .slice none 0 0, .int .i64 0, .int .i64 0, .string ⟨#[]⟩])⟩,
    ⟨some 3, none, .mov (.const (.int .i64 0))⟩]
def R132_1 : RC := .reg [⟨some 4, none, .newv 85 (.agg #[.int .i64 0, .slice none 0 0, .int .i64 0, .int .i64 0, .string ⟨#[]⟩])⟩]
def R132_2 : RC := .reg [⟨some 6, none, .mkFn (.func 153) [] [(.tmp 1), (.tmp 4)]⟩,
    ⟨some 7, none, .call 152 [(.tmp 6)]⟩,
    ⟨some 5, none, .mov (.tmp 7)⟩]
def R132_3 : RC := .reg [⟨some 8, none, .mov (.tmp 5)⟩,
    ⟨some 9, none, .bin .neq 59 (.tmp 8) (.const (.int .i64 0))⟩]
def R132_4 : RC := .reg [⟨some 10, none, .build [(0, 1), (1, 1), (2, 1), (3, 1), (4, 1)] #[.int .i64 0, .slice none 0 0, .int .i64 0, .int .i64 0, .string ⟨#[]⟩] []⟩,
    ⟨some 11, none, .mov (.tmp 5)⟩,
    ⟨none, none, .store 5 (.tmp 2) (.tmp 10)⟩,
    ⟨some 3, none, .mov (.tmp 11)⟩]
def R132_5 : RC := .seq R132_4 (.ret)
def R132_6 : RC := .cond (.tmp 9) R132_5 (.skip)
def R132_7 : RC := .seq R132_3 R132_6
def R132_8 : RC := .seq R132_2 R132_7
def R132_9 : RC := .reg [⟨some 12, none, .loadN 5 (.tmp 4)⟩,
    ⟨none, none, .store 5 (.tmp 2) (.tmp 12)⟩,
    ⟨some 3, none, .mov (.const (.int .i64 0))⟩]
def R132_10 : RC := .seq R132_9 (.ret)
def R132_11 : RC := .seq R132_8 R132_10
def R132_12 : RC := .seq R132_1 R132_11
def R132_13 : RC := .seq R132_0 R132_12

theorem fn132 : FnOK Tryz.prog 132 ⟨R132_13, [.cellN 2 5, .tmp 3], 13⟩ :=
  ⟨Tryz.f132, Tryz.f132.body.getD .skip, Tryz.func132, by kernel_rfl, by kernel_rfl, by kernel_rfl, by kernel_rfl, by kernel_rfl⟩
-- 133: lectern/ikey.Prefix
def R133_0 : RC := .reg [⟨some 4, none, .mov (.const (.slice none 0 0))⟩,
    ⟨some 5, none, .mov (.const (.int .i64 0))⟩]
def R133_1 : RC := .reg [⟨some 9, none, .mov (.tmp 0)⟩,
    ⟨some 10, none, .call 155 [(.tmp 9)]⟩,
    ⟨some 8, none, .mov (.tmp 10)⟩,
    ⟨some 11, none, .extr (.tmp 8) 0⟩,
    ⟨some 12, none, .extr (.tmp 8) 1⟩,
    ⟨some 6, none, .mov (.tmp 11)⟩,
    ⟨some 7, none, .mov (.tmp 12)⟩]
def R133_2 : RC := .reg [⟨some 13, none, .mov (.tmp 7)⟩,
    ⟨some 14, none, .bin .neq 59 (.tmp 13) (.const (.int .i64 0))⟩]
def R133_3 : RC := .reg [⟨some 15, none, .mov (.tmp 7)⟩,
    ⟨some 4, none, .mov (.const (.slice none 0 0))⟩,
    ⟨some 5, none, .mov (.tmp 15)⟩]
def R133_4 : RC := .seq R133_3 (.ret)
def R133_5 : RC := .cond (.tmp 14) R133_4 (.skip)
def R133_6 : RC := .seq R133_2 R133_5
def R133_7 : RC := .reg [⟨some 16, none, .mov (.tmp 1)⟩,
    ⟨some 17, none, .lenS (.tmp 16)⟩,
    ⟨some 18, none, .bin .gtr 3 (.tmp 17) (.const (.int .i64 65536))⟩]
def R133_8 : RC := .reg [⟨some 4, none, .mov (.const (.slice none 0 0))⟩,
    ⟨some 5, none, .mov (.const (.int .i64 2))⟩]
def R133_9 : RC := .seq R133_8 (.ret)
def R133_10 : RC := .cond (.tmp 18) R133_9 (.skip)
def R133_11 : RC := .seq R133_7 R133_10
def R133_12 : RC := .reg [⟨some 19, none, .mov (.tmp 6)⟩,
    ⟨some 20, none, .mov (.tmp 1)⟩,
    ⟨some 21, none, .call 156 [(.tmp 20)]⟩,
    ⟨some 22, none, .app 5 1 1 (.int .u8 0) (.tmp 19) (.tmp 21)⟩,
    ⟨some 4, none, .mov (.tmp 22)⟩,
    ⟨some 5, none, .mov (.const (.int .i64 0))⟩]
def R133_13 : RC := .seq R133_12 (.ret)
def R133_14 : RC := .seq R133_11 R133_13
def R133_15 : RC := .seq R133_6 R133_14
def R133_16 : RC := .seq R133_1 R133_15
def R133_17 : RC := .seq R133_0 R133_16

theorem fn133 : FnOK Tryz.prog 133 ⟨R133_17, [.tmp 4, .tmp 5], 23⟩ :=
  ⟨Tryz.f133, Tryz.f133.body.getD .skip, Tryz.func133, by kernel_rfl, by kernel_rfl, by kernel_rfl, by kernel_rfl, by kernel_rfl⟩
-- 105: lectern/block.build
def R105_0 : RC := .reg [⟨some 2, none, .box 43 (.tmp 0)⟩,
    ⟨some 4, none, .mov (.const (.slice none 0 0))⟩]
def R105_1 : RC := .reg [⟨some 18, none, .mov (.tmp 1)⟩,
    ⟨some 19, none, .bin .geq 3 (.tmp 18) (.const (.int .i64 1))⟩,
    ⟨some 20, none, .mov (.tmp 19)⟩,
    ⟨some 21, some (20, true), .mov (.tmp 1)⟩,
    ⟨some 22, some (20, true), .bin .leq 3 (.tmp 21) (.const (.int .i64 1024))⟩,
    ⟨some 23, none, .pick (.tmp 20) (.tmp 22) (.const (.bool false))⟩,
    ⟨some 24, none, .call 135 [(.tmp 23), (.const (.int .i64 1))]⟩]
def R105_2 : RC := .reg [⟨some 5, none, .mov (.const (.slice none 0 0))⟩]
def R105_3 : RC := .reg [⟨some 6, none, .mov (.const (.slice none 0 0))⟩]
def R105_4 : RC := .reg [⟨some 25, none, .load1 (.tmp 2)⟩,
    ⟨some 26, none, .call 136 [(.tmp 25)]⟩]
def R105_5 : RC := .reg [⟨some 7, none, .mov (.tmp 27)⟩]
def R105_6 : RC := .reg [⟨some 8, none, .newv 51 (.agg #[.slice none 0 0, .slice none 0 0])⟩,
    ⟨none, none, .store 2 (.tmp 8) (.tmp 28)⟩]
def R105_7 : RC := .seq R105_5 R105_6
def R105_8 : RC := .draw [⟨some 29, none, .mov (.tmp 7)⟩,
    ⟨some 30, none, .bin .eql 3 (.tmp 29) (.const (.int .i64 0))⟩,
    ⟨some 31, none, .mov (.tmp 30)⟩,
    ⟨some 32, some (31, false), .load1 (.tmp 2)⟩,
    ⟨some 33, some (31, false), .mov (.tmp 7)⟩,
    ⟨some 34, some (31, false), .bin .sub 3 (.tmp 33) (.const (.int .i64 1))⟩,
    ⟨some 35, some (31, false), .ixS 2 (.tmp 32) (.tmp 34)⟩,
    ⟨some 36, some (31, false), .faddr 0 (.tmp 35)⟩,
    ⟨some 37, some (31, false), .load1 (.tmp 36)⟩,
    ⟨some 38, some (31, false), .faddr 0 (.tmp 8)⟩,
    ⟨some 39, some (31, false), .load1 (.tmp 38)⟩,
    ⟨some 40, some (31, false), .call 78 [(.tmp 37), (.tmp 39)]⟩,
    ⟨some 41, some (31, false), .bin .lss 3 (.tmp 40) (.const (.int .i64 0))⟩,
    ⟨some 42, none, .pick (.tmp 31) (.const (.bool true)) (.tmp 41)⟩,
    ⟨some 43, none, .call 135 [(.tmp 42), (.const (.int .i64 200))]⟩] [[⟨0, ⟨some 29, none, .mov (.tmp 7)⟩, false, []⟩],
   [⟨1, ⟨some 30, none, .bin .eql 3 (.tmp 29) (.const (.int .i64 0))⟩, false, []⟩],
   [⟨2, ⟨some 31, none, .mov (.tmp 30)⟩, false, []⟩],
   [⟨3, ⟨some 32, some (31, false), .load1 (.tmp 2)⟩, true, []⟩,
    ⟨4, ⟨some 33, some (31, false), .mov (.tmp 7)⟩, false, []⟩,
    ⟨5, ⟨some 34, some (31, false), .bin .sub 3 (.tmp 33) (.const (.int .i64 1))⟩, false, []⟩,
    ⟨6, ⟨some 35, some (31, false), .ixS 2 (.tmp 32) (.tmp 34)⟩, false, []⟩,
    ⟨7, ⟨some 36, some (31, false), .faddr 0 (.tmp 35)⟩, false, []⟩,
    ⟨8, ⟨some 37, some (31, false), .load1 (.tmp 36)⟩, true, []⟩,
    ⟨9, ⟨some 38, some (31, false), .faddr 0 (.tmp 8)⟩, false, []⟩,
    ⟨10, ⟨some 39, some (31, false), .load1 (.tmp 38)⟩, true, []⟩],
   [⟨11, ⟨some 40, some (31, false), .call 78 [(.tmp 37), (.tmp 39)]⟩, false, []⟩],
   [⟨12, ⟨some 41, some (31, false), .bin .lss 3 (.tmp 40) (.const (.int .i64 0))⟩, false, []⟩],
   [⟨13, ⟨some 42, none, .pick (.tmp 31) (.const (.bool true)) (.tmp 41)⟩, false, []⟩],
   [⟨14, ⟨some 43, none, .call 135 [(.tmp 42), (.const (.int .i64 200))]⟩, false, []⟩]]
def R105_9 : RC := .block 1 R105_8
def R105_10 : RC := .range (.tmp 26) #[27, 28] R105_7 R105_9
def R105_11 : RC := .block 0 R105_10
def R105_12 : RC := .seq R105_4 R105_11
def R105_13 : RC := .reg [⟨some 44, none, .load1 (.tmp 2)⟩,
    ⟨some 45, none, .lenS (.tmp 44)⟩,
    ⟨some 46, none, .mov (.const (.int .i64 0))⟩]
def R105_14 : RC := .reg [⟨some 47, none, .bin .lss 3 (.tmp 46) (.tmp 45)⟩]
def R105_15 : RC := .cond (.tmp 47) (.skip) (.exit 2)
def R105_16 : RC := .reg [⟨some 48, none, .mov (.tmp 46)⟩,
    ⟨some 49, none, .ixS 2 (.tmp 44) (.tmp 46)⟩,
    ⟨some 50, none, .loadN 2 (.tmp 49)⟩,
    ⟨some 10, none, .newv 51 (.agg #[.slice none 0 0, .slice none 0 0])⟩,
    ⟨some 9, none, .mov (.tmp 48)⟩,
    ⟨none, none, .store 2 (.tmp 10) (.tmp 50)⟩]
def R105_17 : RC := .reg [⟨some 11, none, .mov (.const (.int .i64 0))⟩]
def R105_18 : RC := .reg [⟨some 51, none, .mov (.tmp 9)⟩,
    ⟨some 52, none, .mov (.tmp 1)⟩,
    ⟨some 53, none, .bin .rem 3 (.tmp 51) (.tmp 52)⟩,
    ⟨some 54, none, .bin .eql 3 (.tmp 53) (.const (.int .i64 0))⟩]
def R105_19 : RC := .reg [⟨some 55, none, .mov (.tmp 6)⟩,
    ⟨some 56, none, .mov (.tmp 5)⟩,
    ⟨some 57, none, .lenS (.tmp 56)⟩,
    ⟨some 58, none, .mkSl 3 1 1 #[.int .i64 0] [(0, (.tmp 57))]⟩,
    ⟨some 59, none, .app 3 1 8 (.int .i64 0) (.tmp 55) (.tmp 58)⟩,
    ⟨some 6, none, .mov (.tmp 59)⟩]
def R105_20 : RC := .draw [⟨some 60, none, .load1 (.tmp 2)⟩,
    ⟨some 61, none, .mov (.tmp 9)⟩,
    ⟨some 62, none, .bin .sub 3 (.tmp 61) (.const (.int .i64 1))⟩,
    ⟨some 63, none, .ixS 2 (.tmp 60) (.tmp 62)⟩,
    ⟨some 64, none, .faddr 0 (.tmp 63)⟩,
    ⟨some 65, none, .load1 (.tmp 64)⟩,
    ⟨some 66, none, .faddr 0 (.tmp 10)⟩,
    ⟨some 67, none, .load1 (.tmp 66)⟩,
    ⟨some 68, none, .call 137 [(.tmp 65), (.tmp 67)]⟩,
    ⟨some 11, none, .mov (.tmp 68)⟩] [[⟨0, ⟨some 60, none, .load1 (.tmp 2)⟩, true, []⟩,
    ⟨1, ⟨some 61, none, .mov (.tmp 9)⟩, false, []⟩,
    ⟨2, ⟨some 62, none, .bin .sub 3 (.tmp 61) (.const (.int .i64 1))⟩, false, []⟩,
    ⟨3, ⟨some 63, none, .ixS 2 (.tmp 60) (.tmp 62)⟩, false, []⟩,
    ⟨4, ⟨some 64, none, .faddr 0 (.tmp 63)⟩, false, []⟩,
    ⟨5, ⟨some 65, none, .load1 (.tmp 64)⟩, true, []⟩,
    ⟨6, ⟨some 66, none, .faddr 0 (.tmp 10)⟩, false, []⟩,
    ⟨7, ⟨some 67, none, .load1 (.tmp 66)⟩, true, []⟩],
   [⟨8, ⟨some 68, none, .call 137 [(.tmp 65), (.tmp 67)]⟩, false, []⟩],
   [⟨9, ⟨some 11, none, .mov (.tmp 68)⟩, false, []⟩]]
def R105_21 : RC := .cond (.tmp 54) R105_19 R105_20
def R105_22 : RC := .seq R105_18 R105_21
def R105_23 : RC := .reg [⟨some 69, none, .mov (.tmp 11)⟩,
    ⟨some 70, none, .faddr 0 (.tmp 10)⟩,
    ⟨some 71, none, .load1 (.tmp 70)⟩,
    ⟨some 72, none, .lenS (.tmp 71)⟩,
    ⟨some 73, none, .mov (.tmp 11)⟩,
    ⟨some 74, none, .bin .sub 3 (.tmp 72) (.tmp 73)⟩,
    ⟨some 75, none, .faddr 1 (.tmp 10)⟩,
    ⟨some 76, none, .load1 (.tmp 75)⟩,
    ⟨some 77, none, .lenS (.tmp 76)⟩,
    ⟨some 78, none, .mkSl 3 1 3 #[.int .i64 0, .int .i64 0, .int .i64 0] [(0, (.tmp 69)), (1, (.tmp 74)), (2, (.tmp 77))]⟩,
    ⟨some 79, none, .lenS (.tmp 78)⟩,
    ⟨some 80, none, .mov (.const (.int .i64 0))⟩]
def R105_24 : RC := .reg [⟨some 81, none, .bin .lss 3 (.tmp 80) (.tmp 79)⟩]
def R105_25 : RC := .cond (.tmp 81) (.skip) (.exit 4)
def R105_26 : RC := .reg [⟨some 82, none, .ixS 1 (.tmp 78) (.tmp 80)⟩,
    ⟨some 83, none, .load1 (.tmp 82)⟩,
    ⟨some 13, none, .mov (.tmp 83)⟩]
def R105_27 : RC := .reg [⟨some 84, none, .mov (.tmp 5)⟩,
    ⟨some 85, none, .mov (.tmp 13)⟩,
    ⟨some 86, none, .call 138 [(.tmp 85)]⟩,
    ⟨some 87, none, .app 5 1 1 (.int .u8 0) (.tmp 84) (.tmp 86)⟩,
    ⟨some 5, none, .mov (.tmp 87)⟩]
def R105_28 : RC := .seq R105_26 R105_27
def R105_29 : RC := .block 5 R105_28
def R105_30 : RC := .reg [⟨some 88, none, .bin .add 3 (.tmp 80) (.const (.int .i64 1))⟩,
    ⟨some 80, none, .mov (.tmp 88)⟩]
def R105_31 : RC := .seq R105_29 R105_30
def R105_32 : RC := .seq R105_25 R105_31
def R105_33 : RC := .seq R105_24 R105_32
def R105_34 : RC := .loop R105_33
def R105_35 : RC := .block 4 R105_34
def R105_36 : RC := .seq R105_23 R105_35
def R105_37 : RC := .draw [⟨some 89, none, .mov (.tmp 5)⟩,
    ⟨some 90, none, .faddr 0 (.tmp 10)⟩,
    ⟨some 91, none, .load1 (.tmp 90)⟩,
    ⟨some 92, none, .mov (.tmp 11)⟩,
    ⟨some 93, none, .slcL 1 (.tmp 91) (some (.tmp 92)) none none⟩,
    ⟨some 94, none, .app 5 1 1 (.int .u8 0) (.tmp 89) (.tmp 93)⟩,
    ⟨some 95, none, .faddr 1 (.tmp 10)⟩,
    ⟨some 96, none, .load1 (.tmp 95)⟩,
    ⟨some 97, none, .app 5 1 1 (.int .u8 0) (.tmp 94) (.tmp 96)⟩,
    ⟨some 5, none, .mov (.tmp 97)⟩] [[⟨0, ⟨some 89, none, .mov (.tmp 5)⟩, false, []⟩,
    ⟨1, ⟨some 90, none, .faddr 0 (.tmp 10)⟩, false, []⟩,
    ⟨2, ⟨some 91, none, .load1 (.tmp 90)⟩, true, []⟩,
    ⟨3, ⟨some 92, none, .mov (.tmp 11)⟩, false, []⟩,
    ⟨4, ⟨some 93, none, .slcL 1 (.tmp 91) (some (.tmp 92)) none none⟩, false, []⟩,
    ⟨6, ⟨some 95, none, .faddr 1 (.tmp 10)⟩, false, []⟩,
    ⟨7, ⟨some 96, none, .load1 (.tmp 95)⟩, true, []⟩,
    ⟨5, ⟨some 94, none, .app 5 1 1 (.int .u8 0) (.tmp 89) (.tmp 93)⟩, false, [7]⟩],
   [⟨8, ⟨some 97, none, .app 5 1 1 (.int .u8 0) (.tmp 94) (.tmp 96)⟩, false, []⟩],
   [⟨9, ⟨some 5, none, .mov (.tmp 97)⟩, false, []⟩]]
def R105_38 : RC := .reg [⟨some 98, none, .mov (.tmp 5)⟩,
    ⟨some 99, none, .lenS (.tmp 98)⟩,
    ⟨some 100, none, .bin .leq 3 (.tmp 99) (.const (.int .i64 1048576))⟩,
    ⟨some 101, none, .call 135 [(.tmp 100), (.const (.int .i64 2))]⟩]
def R105_39 : RC := .seq R105_37 R105_38
def R105_40 : RC := .seq R105_36 R105_39
def R105_41 : RC := .seq R105_22 R105_40
def R105_42 : RC := .seq R105_17 R105_41
def R105_43 : RC := .seq R105_16 R105_42
def R105_44 : RC := .block 3 R105_43
def R105_45 : RC := .reg [⟨some 102, none, .bin .add 3 (.tmp 46) (.const (.int .i64 1))⟩,
    ⟨some 46, none, .mov (.tmp 102)⟩]
def R105_46 : RC := .seq R105_44 R105_45
def R105_47 : RC := .seq R105_15 R105_46
def R105_48 : RC := .seq R105_14 R105_47
def R105_49 : RC := .loop R105_48
def R105_50 : RC := .block 2 R105_49
def R105_51 : RC := .seq R105_13 R105_50
def R105_52 : RC := .reg [⟨some 103, none, .mov (.tmp 6)⟩,
    ⟨some 104, none, .mov (.tmp 6)⟩,
    ⟨some 105, none, .lenS (.tmp 104)⟩,
    ⟨some 106, none, .mkSl 3 1 1 #[.int .i64 0] [(0, (.tmp 105))]⟩,
    ⟨some 107, none, .app 3 1 8 (.int .i64 0) (.tmp 103) (.tmp 106)⟩,
    ⟨some 108, none, .lenS (.tmp 107)⟩,
    ⟨some 109, none, .mov (.const (.int .i64 0))⟩]
def R105_53 : RC := .reg [⟨some 110, none, .bin .lss 3 (.tmp 109) (.tmp 108)⟩]
def R105_54 : RC := .cond (.tmp 110) (.skip) (.exit 6)
def R105_55 : RC := .reg [⟨some 111, none, .ixS 1 (.tmp 107) (.tmp 109)⟩,
    ⟨some 112, none, .load1 (.tmp 111)⟩,
    ⟨some 15, none, .mov (.tmp 112)⟩]
def R105_56 : RC := .reg [⟨some 114, none, .mov (.tmp 15)⟩,
    ⟨some 115, none, .cvInt .u64 (.tmp 114)⟩,
    ⟨some 116, none, .call 139 [(.tmp 115), (.const (.int .i64 4))]⟩,
    ⟨some 113, none, .mov (.tmp 116)⟩,
    ⟨some 117, none, .extr (.tmp 113) 0⟩,
    ⟨some 118, none, .extr (.tmp 113) 1⟩,
    ⟨some 16, none, .mov (.tmp 117)⟩,
    ⟨some 17, none, .mov (.tmp 118)⟩]
def R105_57 : RC := .reg [⟨some 119, none, .mov (.tmp 5)⟩,
    ⟨some 120, none, .mov (.tmp 16)⟩,
    ⟨some 121, none, .app 5 1 1 (.int .u8 0) (.tmp 119) (.tmp 120)⟩,
    ⟨some 5, none, .mov (.tmp 121)⟩]
def R105_58 : RC := .seq R105_56 R105_57
def R105_59 : RC := .seq R105_55 R105_58
def R105_60 : RC := .block 7 R105_59
def R105_61 : RC := .reg [⟨some 122, none, .bin .add 3 (.tmp 109) (.const (.int .i64 1))⟩,
    ⟨some 109, none, .mov (.tmp 122)⟩]
def R105_62 : RC := .seq R105_60 R105_61
def R105_63 : RC := .seq R105_54 R105_62
def R105_64 : RC := .seq R105_53 R105_63
def R105_65 : RC := .loop R105_64
def R105_66 : RC := .block 6 R105_65
def R105_67 : RC := .seq R105_52 R105_66
def R105_68 : RC := .reg [⟨some 123, none, .mov (.tmp 5)⟩,
    ⟨some 124, none, .lenS (.tmp 123)⟩,
    ⟨some 125, none, .bin .leq 3 (.tmp 124) (.const (.int .i64 1048576))⟩,
    ⟨some 126, none, .call 135 [(.tmp 125), (.const (.int .i64 2))]⟩]
def R105_69 : RC := .reg [⟨some 127, none, .mov (.tmp 5)⟩,
    ⟨some 4, none, .mov (.tmp 127)⟩]
def R105_70 : RC := .seq R105_69 (.ret)
def R105_71 : RC := .seq R105_68 R105_70
def R105_72 : RC := .seq R105_67 R105_71
def R105_73 : RC := .seq R105_51 R105_72
def R105_74 : RC := .seq R105_12 R105_73
def R105_75 : RC := .seq R105_3 R105_74
def R105_76 : RC := .seq R105_2 R105_75
def R105_77 : RC := .seq R105_1 R105_76
def R105_78 : RC := .seq R105_0 R105_77

theorem fn105 : FnOK Tryz.prog 105 ⟨R105_78, [.tmp 4], 128⟩ :=
  ⟨Tryz.f105, Tryz.f105.body.getD .skip, Tryz.func105, by kernel_rfl, by kernel_rfl, by kernel_rfl, by kernel_rfl, by kernel_rfl⟩
-- 134: lectern/block.guarded$1
def R134_0 : RC := .reg [⟨some 2, none, .bi .recover #[] 20 #[] []⟩,
    ⟨some 1, none, .mov (.tmp 2)⟩]
def R134_1 : RC := .reg [⟨some 3, none, .mov (.tmp 1)⟩,
    ⟨some 4, none, .eqI true (.tmp 3) (.const (.nilIface))⟩]
def R134_2 : RC := .reg [⟨some 5, none, .mov (.tmp 1)⟩,
    ⟨some 6, none, .tass (.tmp 5) 20 228 false⟩,
    ⟨some 7, none, .fld1 0 (.tmp 6)⟩,
    ⟨none, none, .store 1 (.tmp 0) (.tmp 7)⟩]
def R134_3 : RC := .cond (.tmp 4) R134_2 (.skip)
def R134_4 : RC := .seq R134_1 R134_3
def R134_5 : RC := .seq R134_0 R134_4

theorem fn134 : FnOK Tryz.prog 134 ⟨R134_5, [], 8⟩ :=
  ⟨Tryz.f134, Tryz.f134.body.getD .skip, Tryz.func134, by kernel_rfl, by kernel_rfl, by kernel_rfl, by kernel_rfl, by kernel_rfl⟩
-- 124: (*lectern/crc.Table).Sum
def R124_0 : RC := .reg [⟨some 4, none, .mov (.const (.int .u32 0))⟩]
def R124_1 : RC := .reg [⟨some 5, none, .mov (.tmp 0)⟩,
    ⟨some 6, none, .mov (.tmp 1)⟩,
    ⟨some 7, none, .call 140 [(.tmp 5), (.const (.int .u32 0)), (.tmp 6)]⟩,
    ⟨some 4, none, .mov (.tmp 7)⟩]
def R124_2 : RC := .seq R124_1 (.ret)
def R124_3 : RC := .seq R124_0 R124_2

theorem fn124 : FnOK Tryz.prog 124 ⟨R124_3, [.tmp 4], 8⟩ :=
  ⟨Tryz.f124, Tryz.f124.body.getD .skip, Tryz.func124, by kernel_rfl, by kernel_rfl, by kernel_rfl, by kernel_rfl, by kernel_rfl⟩
-- 140: (*lectern/crc.Table).Extend
def R140_0 : RC := .reg [⟨some 3, none, .box 25 (.tmp 0)⟩,
    ⟨some 6, none, .mov (.const (.int .u32 0))⟩]
def R140_1 : RC := .reg [⟨some 9, none, .load1 (.tmp 3)⟩,
    ⟨some 10, none, .eqP false (.tmp 9) (.const (.pointer none))⟩,
    ⟨some 11, none, .mov (.tmp 10)⟩,
    ⟨some 12, some (11, false), .load1 (.tmp 3)⟩,
    ⟨some 13, some (11, false), .nilck (.tmp 12)⟩,
    ⟨some 14, some (11, false), .faddr 0 (.tmp 13)⟩,
    ⟨some 15, some (11, false), .load1 (.tmp 14)⟩,
    ⟨some 16, some (11, false), .bin .neq 3 (.tmp 15) (.const (.int .i64 1))⟩,
    ⟨some 17, none, .pick (.tmp 11) (.const (.bool true)) (.tmp 16)⟩]
def R140_2 : RC := .reg [⟨some 6, none, .mov (.const (.int .u32 0))⟩]
def R140_3 : RC := .seq R140_2 (.ret)
def R140_4 : RC := .cond (.tmp 17) R140_3 (.skip)
def R140_5 : RC := .seq R140_1 R140_4
def R140_6 : RC := .reg [⟨some 18, none, .mov (.tmp 2)⟩,
    ⟨some 19, none, .lenS (.tmp 18)⟩,
    ⟨some 20, none, .bin .eql 3 (.tmp 19) (.const (.int .i64 0))⟩]
def R140_7 : RC := .reg [⟨some 21, none, .mov (.tmp 1)⟩,
    ⟨some 6, none, .mov (.tmp 21)⟩]
def R140_8 : RC := .seq R140_7 (.ret)
def R140_9 : RC := .cond (.tmp 20) R140_8 (.skip)
def R140_10 : RC := .seq R140_6 R140_9
def R140_11 : RC := .reg [⟨some 22, none, .load1 (.tmp 3)⟩,
    ⟨some 23, none, .call 158 [(.tmp 22)]⟩]
def R140_12 : RC := .reg [⟨some 24, none, .mov (.tmp 1)⟩,
    ⟨some 25, none, .un .xor (.tmp 24)⟩,
    ⟨some 7, none, .newv 142 (.int .u32 0)⟩,
    ⟨none, none, .store 1 (.tmp 7) (.tmp 25)⟩]
def R140_13 : RC := .reg [⟨some 26, none, .mov (.tmp 2)⟩,
    ⟨some 27, none, .call 159 [(.tmp 26)]⟩]
def R140_14 : RC := .reg [⟨some 8, none, .mov (.tmp 28)⟩]
def R140_15 : RC := .draw [⟨some 29, none, .load1 (.tmp 3)⟩,
    ⟨some 30, none, .load1 (.tmp 7)⟩,
    ⟨some 31, none, .cvInt .u8 (.tmp 30)⟩,
    ⟨some 32, none, .mov (.tmp 8)⟩,
    ⟨some 33, none, .bin .xor 5 (.tmp 31) (.tmp 32)⟩,
    ⟨some 34, none, .nilck (.tmp 29)⟩,
    ⟨some 35, none, .faddr 5 (.tmp 34)⟩,
    ⟨some 36, none, .ixA 1 256 (.tmp 35) (.tmp 33)⟩,
    ⟨some 37, none, .load1 (.tmp 36)⟩,
    ⟨some 38, none, .load1 (.tmp 7)⟩,
    ⟨some 39, none, .bin .shr 142 (.tmp 38) (.const (.int .u64 8))⟩,
    ⟨some 40, none, .bin .xor 142 (.tmp 37) (.tmp 39)⟩,
    ⟨none, none, .store 1 (.tmp 7) (.tmp 40)⟩] [[⟨0, ⟨some 29, none, .load1 (.tmp 3)⟩, true, []⟩,
    ⟨1, ⟨some 30, none, .load1 (.tmp 7)⟩, true, []⟩,
    ⟨2, ⟨some 31, none, .cvInt .u8 (.tmp 30)⟩, false, []⟩,
    ⟨3, ⟨some 32, none, .mov (.tmp 8)⟩, false, []⟩,
    ⟨4, ⟨some 33, none, .bin .xor 5 (.tmp 31) (.tmp 32)⟩, false, []⟩,
    ⟨5, ⟨some 34, none, .nilck (.tmp 29)⟩, false, []⟩,
    ⟨6, ⟨some 35, none, .faddr 5 (.tmp 34)⟩, false, []⟩,
    ⟨7, ⟨some 36, none, .ixA 1 256 (.tmp 35) (.tmp 33)⟩, false, []⟩,
    ⟨8, ⟨some 37, none, .load1 (.tmp 36)⟩, true, []⟩,
    ⟨9, ⟨some 38, none, .load1 (.tmp 7)⟩, true, []⟩,
    ⟨10, ⟨some 39, none, .bin .shr 142 (.tmp 38) (.const (.int .u64 8))⟩, false, []⟩],
   [⟨11, ⟨some 40, none, .bin .xor 142 (.tmp 37) (.tmp 39)⟩, false, []⟩],
   [⟨12, ⟨none, none, .store 1 (.tmp 7) (.tmp 40)⟩, false, []⟩]]
def R140_16 : RC := .block 1 R140_15
def R140_17 : RC := .range (.tmp 27) #[28] R140_14 R140_16
def R140_18 : RC := .block 0 R140_17
def R140_19 : RC := .seq R140_13 R140_18
def R140_20 : RC := .reg [⟨some 41, none, .load1 (.tmp 7)⟩,
    ⟨some 42, none, .un .xor (.tmp 41)⟩,
    ⟨some 6, none, .mov (.tmp 42)⟩]
def R140_21 : RC := .seq R140_20 (.ret)
def R140_22 : RC := .seq R140_19 R140_21
def R140_23 : RC := .seq R140_12 R140_22
def R140_24 : RC := .seq R140_11 R140_23
def R140_25 : RC := .seq R140_10 R140_24
def R140_26 : RC := .seq R140_5 R140_25
def R140_27 : RC := .seq R140_0 R140_26

theorem fn140 : FnOK Tryz.prog 140 ⟨R140_27, [.tmp 6], 43⟩ :=
  ⟨Tryz.f140, Tryz.f140.body.getD .skip, Tryz.func140, by kernel_rfl, by kernel_rfl, by kernel_rfl, by kernel_rfl, by kernel_rfl⟩
-- 123: lectern/crc.Mask
def R123_0 : RC := .reg [⟨some 2, none, .mov (.const (.int .u32 0))⟩]
def R123_1 : RC := .reg [⟨some 3, none, .mov (.tmp 0)⟩,
    ⟨some 4, none, .call 121 [(.tmp 3), (.const (.int .i64 (-15)))]⟩,
    ⟨some 5, none, .bin .add 142 (.tmp 4) (.const (.int .u32 2726488792))⟩,
    ⟨some 2, none, .mov (.tmp 5)⟩]
def R123_2 : RC := .seq R123_1 (.ret)
def R123_3 : RC := .seq R123_0 R123_2

theorem fn123 : FnOK Tryz.prog 123 ⟨R123_3, [.tmp 2], 6⟩ :=
  ⟨Tryz.f123, Tryz.f123.body.getD .skip, Tryz.func123, by kernel_rfl, by kernel_rfl, by kernel_rfl, by kernel_rfl, by kernel_rfl⟩
-- 141: bytes.Clone
def R141_0 : RC := .reg [⟨some 2, none, .mov (.const (.slice none 0 0))⟩]
def R141_1 : RC := .reg [⟨some 3, none, .mov (.tmp 0)⟩,
    ⟨some 4, none, .eqS false (.tmp 3) (.const (.slice none 0 0))⟩]
def R141_2 : RC := .reg [⟨some 2, none, .mov (.const (.slice none 0 0))⟩]
def R141_3 : RC := .seq R141_2 (.ret)
def R141_4 : RC := .cond (.tmp 4) R141_3 (.skip)
def R141_5 : RC := .seq R141_1 R141_4
def R141_6 : RC := .reg [⟨some 5, none, .mkSl 5 1 0 #[] []⟩,
    ⟨some 6, none, .mov (.tmp 0)⟩,
    ⟨some 7, none, .app 5 1 1 (.int .u8 0) (.tmp 5) (.tmp 6)⟩,
    ⟨some 2, none, .mov (.tmp 7)⟩]
def R141_7 : RC := .seq R141_6 (.ret)
def R141_8 : RC := .seq R141_5 R141_7
def R141_9 : RC := .seq R141_0 R141_8

theorem fn141 : FnOK Tryz.prog 141 ⟨R141_9, [.tmp 2], 8⟩ :=
  ⟨Tryz.f141, Tryz.f141.body.getD .skip, Tryz.func141, by kernel_rfl, by kernel_rfl, by kernel_rfl, by kernel_rfl, by kernel_rfl⟩
-- 144: (*lectern/codec.Reader).is
def R144_0 : RC := .reg [⟨some 2, none, .mov (.const (.bool false))⟩]
def R144_1 : RC := .reg [⟨some 3, none, .mov (.tmp 0)⟩,
    ⟨some 4, none, .eqP true (.tmp 3) (.const (.pointer none))⟩,
    ⟨some 5, none, .mov (.tmp 4)⟩,
    ⟨some 6, some (5, true), .mov (.tmp 0)⟩,
    ⟨some 7, some (5, true), .nilck (.tmp 6)⟩,
    ⟨some 8, some (5, true), .faddr 0 (.tmp 7)⟩,
    ⟨some 9, some (5, true), .load1 (.tmp 8)⟩,
    ⟨some 10, some (5, true), .bin .eql 3 (.tmp 9) (.const (.int .i64 1))⟩,
    ⟨some 11, none, .pick (.tmp 5) (.tmp 10) (.const (.bool false))⟩,
    ⟨some 2, none, .mov (.tmp 11)⟩]
def R144_2 : RC := .seq R144_1 (.ret)
def R144_3 : RC := .seq R144_0 R144_2

theorem fn144 : FnOK Tryz.prog 144 ⟨R144_3, [.tmp 2], 12⟩ :=
  ⟨Tryz.f144, Tryz.f144.body.getD .skip, Tryz.func144, by kernel_rfl, by kernel_rfl, by kernel_rfl, by kernel_rfl, by kernel_rfl⟩
-- 142: lectern/codec.on[uint64]
def R142_0 : RC := .reg [⟨some 2, none, .box 203 (.tmp 0)⟩,
    ⟨some 3, none, .box 238 (.tmp 1)⟩,
    ⟨some 4, none, .mov (.const (.int .u64 0))⟩]
def R142_1 : RC := .reg [⟨some 5, none, .newv 200 (.int .u64 0)⟩,
    ⟨some 6, none, .mov (.const (.int .u64 0))⟩]
def R142_2 : RC := .reg [⟨some 8, none, .load1 (.tmp 2)⟩,
    ⟨some 9, none, .call 144 [(.tmp 8)]⟩,
    ⟨some 10, none, .un .not (.tmp 9)⟩,
    ⟨some 11, none, .mov (.tmp 10)⟩,
    ⟨some 12, some (11, false), .load1 (.tmp 2)⟩,
    ⟨some 13, some (11, false), .nilck (.tmp 12)⟩,
    ⟨some 14, some (11, false), .faddr 3 (.tmp 13)⟩,
    ⟨some 15, some (11, false), .load1 (.tmp 14)⟩,
    ⟨some 16, some (11, false), .bin .neq 59 (.tmp 15) (.const (.int .i64 0))⟩,
    ⟨some 17, none, .pick (.tmp 11) (.const (.bool true)) (.tmp 16)⟩]
def R142_3 : RC := .reg [⟨some 18, none, .mov (.tmp 6)⟩,
    ⟨some 4, none, .mov (.tmp 18)⟩]
def R142_4 : RC := .seq R142_3 (.ret)
def R142_5 : RC := .cond (.tmp 17) R142_4 (.skip)
def R142_6 : RC := .seq R142_2 R142_5
def R142_7 : RC := .reg [⟨some 7, none, .newv 3 (.int .i64 0)⟩,
    ⟨none, none, .store 1 (.tmp 7) (.const (.int .i64 0))⟩]
def R142_8 : RC := .draw [⟨some 19, none, .load1 (.tmp 2)⟩,
    ⟨some 20, none, .mkFn (.func 161) [] [(.tmp 3), (.tmp 2), (.tmp 5), (.tmp 7)]⟩,
    ⟨some 21, none, .call 160 [(.tmp 20)]⟩,
    ⟨some 22, none, .nilck (.tmp 19)⟩,
    ⟨some 23, none, .faddr 3 (.tmp 22)⟩,
    ⟨none, none, .store 1 (.tmp 23) (.tmp 21)⟩] [[⟨0, ⟨some 19, none, .load1 (.tmp 2)⟩, true, []⟩,
    ⟨1, ⟨some 20, none, .mkFn (.func 161) [] [(.tmp 3), (.tmp 2), (.tmp 5), (.tmp 7)]⟩, false, []⟩,
    ⟨2, ⟨some 21, none, .call 160 [(.tmp 20)]⟩, false, [0]⟩],
   [⟨3, ⟨some 22, none, .nilck (.tmp 19)⟩, false, []⟩],
   [⟨4, ⟨some 23, none, .faddr 3 (.tmp 22)⟩, false, []⟩],
   [⟨5, ⟨none, none, .store 1 (.tmp 23) (.tmp 21)⟩, false, []⟩]]
def R142_9 : RC := .reg [⟨some 24, none, .load1 (.tmp 2)⟩,
    ⟨some 25, none, .nilck (.tmp 24)⟩,
    ⟨some 26, none, .faddr 3 (.tmp 25)⟩,
    ⟨some 27, none, .load1 (.tmp 26)⟩,
    ⟨some 28, none, .bin .neq 59 (.tmp 27) (.const (.int .i64 0))⟩]
def R142_10 : RC := .reg [⟨some 29, none, .mov (.tmp 6)⟩,
    ⟨some 4, none, .mov (.tmp 29)⟩]
def R142_11 : RC := .seq R142_10 (.ret)
def R142_12 : RC := .cond (.tmp 28) R142_11 (.skip)
def R142_13 : RC := .seq R142_9 R142_12
def R142_14 : RC := .seq R142_8 R142_13
def R142_15 : RC := .draw [⟨some 30, none, .load1 (.tmp 2)⟩,
    ⟨some 31, none, .nilck (.tmp 30)⟩,
    ⟨some 32, none, .faddr 2 (.tmp 31)⟩,
    ⟨some 33, none, .load1 (.tmp 32)⟩,
    ⟨some 34, none, .load1 (.tmp 7)⟩,
    ⟨some 35, none, .bin .add 3 (.tmp 33) (.tmp 34)⟩,
    ⟨some 36, none, .nilck (.tmp 30)⟩,
    ⟨some 37, none, .faddr 2 (.tmp 36)⟩,
    ⟨none, none, .store 1 (.tmp 37) (.tmp 35)⟩] [[⟨0, ⟨some 30, none, .load1 (.tmp 2)⟩, true, []⟩,
    ⟨1, ⟨some 31, none, .nilck (.tmp 30)⟩, false, []⟩,
    ⟨2, ⟨some 32, none, .faddr 2 (.tmp 31)⟩, false, []⟩,
    ⟨3, ⟨some 33, none, .load1 (.tmp 32)⟩, true, []⟩,
    ⟨4, ⟨some 34, none, .load1 (.tmp 7)⟩, true, []⟩],
   [⟨5, ⟨some 35, none, .bin .add 3 (.tmp 33) (.tmp 34)⟩, false, []⟩],
   [⟨6, ⟨some 36, none, .nilck (.tmp 30)⟩, false, []⟩],
   [⟨7, ⟨some 37, none, .faddr 2 (.tmp 36)⟩, false, []⟩],
   [⟨8, ⟨none, none, .store 1 (.tmp 37) (.tmp 35)⟩, false, []⟩]]
def R142_16 : RC := .reg [⟨some 38, none, .load1 (.tmp 5)⟩,
    ⟨some 4, none, .mov (.tmp 38)⟩]
def R142_17 : RC := .seq R142_16 (.ret)
def R142_18 : RC := .seq R142_15 R142_17
def R142_19 : RC := .seq R142_14 R142_18
def R142_20 : RC := .seq R142_7 R142_19
def R142_21 : RC := .seq R142_6 R142_20
def R142_22 : RC := .seq R142_1 R142_21
def R142_23 : RC := .seq R142_0 R142_22

theorem fn142 : FnOK Tryz.prog 142 ⟨R142_23, [.tmp 4], 39⟩ :=
  ⟨Tryz.f142, Tryz.f142.body.getD .skip, Tryz.func142, by kernel_rfl, by kernel_rfl, by kernel_rfl, by kernel_rfl, by kernel_rfl⟩
-- 143: lectern/codec.readUint
def R143_0 : RC := .reg [⟨some 2, none, .mov (.const (.int .u64 0))⟩,
    ⟨some 3, none, .mov (.const (.int .i64 0))⟩]
def R143_1 : RC := .reg [⟨some 4, none, .mov (.const (.int .u64 0))⟩]
def R143_2 : RC := .reg [⟨some 6, none, .mov (.const (.int .i64 0))⟩]
def R143_3 : RC := .reg [⟨some 7, none, .bin .lss 3 (.tmp 6) (.const (.int .i64 10))⟩]
def R143_4 : RC := .cond (.tmp 7) (.skip) (.exit 0)
def R143_5 : RC := .reg [⟨some 8, none, .mov (.tmp 6)⟩,
    ⟨some 5, none, .mov (.tmp 8)⟩]
def R143_6 : RC := .reg [⟨some 9, none, .mov (.tmp 5)⟩,
    ⟨some 10, none, .mov (.tmp 0)⟩,
    ⟨some 11, none, .lenS (.tmp 10)⟩,
    ⟨some 12, none, .bin .lss 3 (.tmp 9) (.tmp 11)⟩,
    ⟨some 13, none, .call 162 [(.tmp 12), (.const (.int .i64 20))]⟩]
def R143_7 : RC := .reg [⟨some 14, none, .mov (.tmp 5)⟩,
    ⟨some 15, none, .bin .lss 3 (.tmp 14) (.const (.int .i64 9))⟩,
    ⟨some 16, none, .mov (.tmp 15)⟩,
    ⟨some 17, some (16, false), .mov (.tmp 0)⟩,
    ⟨some 18, some (16, false), .mov (.tmp 5)⟩,
    ⟨some 19, some (16, false), .ixS 1 (.tmp 17) (.tmp 18)⟩,
    ⟨some 20, some (16, false), .load1 (.tmp 19)⟩,
    ⟨some 21, some (16, false), .bin .leq 5 (.tmp 20) (.const (.int .u8 1))⟩,
    ⟨some 22, none, .pick (.tmp 16) (.const (.bool true)) (.tmp 21)⟩,
    ⟨some 23, none, .call 162 [(.tmp 22), (.const (.int .i64 21))]⟩]
def R143_8 : RC := .reg [⟨some 24, none, .mov (.tmp 4)⟩,
    ⟨some 25, none, .mov (.tmp 0)⟩,
    ⟨some 26, none, .mov (.tmp 5)⟩,
    ⟨some 27, none, .ixS 1 (.tmp 25) (.tmp 26)⟩,
    ⟨some 28, none, .load1 (.tmp 27)⟩,
    ⟨some 29, none, .bin .and 5 (.tmp 28) (.const (.int .u8 127))⟩,
    ⟨some 30, none, .cvInt .u64 (.tmp 29)⟩,
    ⟨some 31, none, .mov (.tmp 5)⟩,
    ⟨some 32, none, .bin .mul 3 (.const (.int .i64 7)) (.tmp 31)⟩,
    ⟨some 33, none, .bin .shl 200 (.tmp 30) (.tmp 32)⟩,
    ⟨some 34, none, .bin .or 200 (.tmp 24) (.tmp 33)⟩,
    ⟨some 4, none, .mov (.tmp 34)⟩]
def R143_9 : RC := .reg [⟨some 35, none, .mov (.tmp 0)⟩,
    ⟨some 36, none, .mov (.tmp 5)⟩,
    ⟨some 37, none, .ixS 1 (.tmp 35) (.tmp 36)⟩,
    ⟨some 38, none, .load1 (.tmp 37)⟩,
    ⟨some 39, none, .bin .lss 5 (.tmp 38) (.const (.int .u8 128))⟩]
def R143_10 : RC := .reg [⟨some 40, none, .mov (.tmp 5)⟩,
    ⟨some 41, none, .bin .eql 3 (.tmp 40) (.const (.int .i64 0))⟩,
    ⟨some 42, none, .mov (.tmp 41)⟩,
    ⟨some 43, some (42, false), .mov (.tmp 0)⟩,
    ⟨some 44, some (42, false), .mov (.tmp 5)⟩,
    ⟨some 45, some (42, false), .ixS 1 (.tmp 43) (.tmp 44)⟩,
    ⟨some 46, some (42, false), .load1 (.tmp 45)⟩,
    ⟨some 47, some (42, false), .bin .neq 5 (.tmp 46) (.const (.int .u8 0))⟩,
    ⟨some 48, none, .pick (.tmp 42) (.const (.bool true)) (.tmp 47)⟩,
    ⟨some 49, none, .call 162 [(.tmp 48), (.const (.int .i64 21))]⟩]
def R143_11 : RC := .reg [⟨some 50, none, .mov (.tmp 4)⟩,
    ⟨some 51, none, .mov (.tmp 5)⟩,
    ⟨some 52, none, .bin .add 3 (.tmp 51) (.const (.int .i64 1))⟩,
    ⟨some 2, none, .mov (.tmp 50)⟩,
    ⟨some 3, none, .mov (.tmp 52)⟩]
def R143_12 : RC := .seq R143_11 (.ret)
def R143_13 : RC := .seq R143_10 R143_12
def R143_14 : RC := .cond (.tmp 39) R143_13 (.skip)
def R143_15 : RC := .seq R143_9 R143_14
def R143_16 : RC := .seq R143_8 R143_15
def R143_17 : RC := .seq R143_7 R143_16
def R143_18 : RC := .seq R143_6 R143_17
def R143_19 : RC := .seq R143_5 R143_18
def R143_20 : RC := .block 1 R143_19
def R143_21 : RC := .reg [⟨some 53, none, .bin .add 3 (.tmp 6) (.const (.int .i64 1))⟩,
    ⟨some 6, none, .mov (.tmp 53)⟩]
def R143_22 : RC := .seq R143_20 R143_21
def R143_23 : RC := .seq R143_4 R143_22
def R143_24 : RC := .seq R143_3 R143_23
def R143_25 : RC := .loop R143_24
def R143_26 : RC := .block 0 R143_25
def R143_27 : RC := .seq R143_2 R143_26
def R143_28 : RC := .reg [⟨some 54, none, .build [(0, 1)] #[.int .i64 0] [(0, (.const (.int .i64 21)))]⟩,
    ⟨some 55, none, .mkIf 250 (.tmp 54)⟩,
    ⟨none, none, .panic (.tmp 55)⟩]
def R143_29 : RC := .seq R143_27 R143_28
def R143_30 : RC := .seq R143_1 R143_29
def R143_31 : RC := .seq R143_0 R143_30

theorem fn143 : FnOK Tryz.prog 143 ⟨R143_31, [.tmp 2, .tmp 3], 56⟩ :=
  ⟨Tryz.f143, Tryz.f143.body.getD .skip, Tryz.func143, by kernel_rfl, by kernel_rfl, by kernel_rfl, by kernel_rfl, by kernel_rfl⟩
-- 118: lectern/block.checked
def R118_0 : RC := .reg [⟨some 2, none, .mov (.const (.slice none 0 0))⟩,
    ⟨some 3, none, .mov (.const (.slice none 0 0))⟩]
def R118_1 : RC := .reg [⟨some 7, none, .mov (.tmp 0)⟩,
    ⟨some 8, none, .call 145 [(.tmp 7)]⟩,
    ⟨some 6, none, .mov (.tmp 8)⟩,
    ⟨some 9, none, .extr (.tmp 6) 0⟩,
    ⟨some 10, none, .extr (.tmp 6) 1⟩,
    ⟨some 4, none, .mov (.tmp 9)⟩,
    ⟨some 5, none, .mov (.tmp 10)⟩]
def R118_2 : RC := .reg [⟨some 11, none, .mov (.tmp 4)⟩,
    ⟨some 12, none, .mov (.tmp 5)⟩,
    ⟨some 13, none, .call 146 [(.tmp 11), (.tmp 12)]⟩,
    ⟨some 14, none, .call 135 [(.tmp 13), (.const (.int .i64 201))]⟩]
def R118_3 : RC := .reg [⟨some 15, none, .mov (.tmp 4)⟩,
    ⟨some 16, none, .mov (.tmp 5)⟩,
    ⟨some 2, none, .mov (.tmp 15)⟩,
    ⟨some 3, none, .mov (.tmp 16)⟩]
def R118_4 : RC := .seq R118_3 (.ret)
def R118_5 : RC := .seq R118_2 R118_4
def R118_6 : RC := .seq R118_1 R118_5
def R118_7 : RC := .seq R118_0 R118_6

theorem fn118 : FnOK Tryz.prog 118 ⟨R118_7, [.tmp 2, .tmp 3], 17⟩ :=
  ⟨Tryz.f118, Tryz.f118.body.getD .skip, Tryz.func118, by kernel_rfl, by kernel_rfl, by kernel_rfl, by kernel_rfl, by kernel_rfl⟩
-- 120: lectern/bloom.Hash
def R120_0 : RC := .reg [⟨some 2, none, .mov (.const (.int .u32 0))⟩]
def R120_1 : RC := .reg [⟨some 7, none, .mov (.tmp 0)⟩,
    ⟨some 8, none, .lenS (.tmp 7)⟩,
    ⟨some 9, none, .cvInt .u32 (.tmp 8)⟩,
    ⟨some 10, none, .bin .mul 142 (.tmp 9) (.const (.int .u32 3332679571))⟩,
    ⟨some 11, none, .bin .xor 142 (.const (.int .u32 3164544308)) (.tmp 10)⟩,
    ⟨some 3, none, .mov (.tmp 11)⟩]
def R120_2 : RC := .reg [⟨some 12, none, .mov (.tmp 0)⟩,
    ⟨some 13, none, .lenS (.tmp 12)⟩,
    ⟨some 14, none, .bin .geq 3 (.tmp 13) (.const (.int .i64 4))⟩]
def R120_3 : RC := .cond (.tmp 14) (.skip) (.exit 0)
def R120_4 : RC := .seq R120_2 R120_3
def R120_5 : RC := .reg [⟨some 15, none, .mov (.tmp 0)⟩,
    ⟨some 16, none, .slcL 1 (.tmp 15) none (some (.const (.int .i64 4))) (some (.const (.int .i64 4)))⟩,
    ⟨some 4, none, .mov (.tmp 16)⟩]
def R120_6 : RC := .reg [⟨some 17, none, .mov (.tmp 0)⟩,
    ⟨some 18, none, .slcL 1 (.tmp 17) (some (.const (.int .i64 4))) none none⟩,
    ⟨some 0, none, .mov (.tmp 18)⟩]
def R120_7 : RC := .draw [⟨some 19, none, .mov (.tmp 3)⟩,
    ⟨some 20, none, .mov (.tmp 4)⟩,
    ⟨some 21, none, .ixS 1 (.tmp 20) (.const (.int .i64 0))⟩,
    ⟨some 22, none, .load1 (.tmp 21)⟩,
    ⟨some 23, none, .cvInt .u32 (.tmp 22)⟩,
    ⟨some 24, none, .mov (.tmp 4)⟩,
    ⟨some 25, none, .ixS 1 (.tmp 24) (.const (.int .i64 1))⟩,
    ⟨some 26, none, .load1 (.tmp 25)⟩,
    ⟨some 27, none, .cvInt .u32 (.tmp 26)⟩,
    ⟨some 28, none, .bin .shl 142 (.tmp 27) (.const (.int .u64 8))⟩,
    ⟨some 29, none, .bin .or 142 (.tmp 23) (.tmp 28)⟩,
    ⟨some 30, none, .mov (.tmp 4)⟩,
    ⟨some 31, none, .ixS 1 (.tmp 30) (.const (.int .i64 2))⟩,
    ⟨some 32, none, .load1 (.tmp 31)⟩,
    ⟨some 33, none, .cvInt .u32 (.tmp 32)⟩,
    ⟨some 34, none, .bin .shl 142 (.tmp 33) (.const (.int .u64 16))⟩,
    ⟨some 35, none, .bin .or 142 (.tmp 29) (.tmp 34)⟩,
    ⟨some 36, none, .mov (.tmp 4)⟩,
    ⟨some 37, none, .ixS 1 (.tmp 36) (.const (.int .i64 3))⟩,
    ⟨some 38, none, .load1 (.tmp 37)⟩,
    ⟨some 39, none, .cvInt .u32 (.tmp 38)⟩,
    ⟨some 40, none, .bin .shl 142 (.tmp 39) (.const (.int .u64 24))⟩,
    ⟨some 41, none, .bin .or 142 (.tmp 35) (.tmp 40)⟩,
    ⟨some 42, none, .bin .add 142 (.tmp 19) (.tmp 41)⟩,
    ⟨some 3, none, .mov (.tmp 42)⟩] [[⟨0, ⟨some 19, none, .mov (.tmp 3)⟩, false, []⟩,
    ⟨1, ⟨some 20, none, .mov (.tmp 4)⟩, false, []⟩,
    ⟨2, ⟨some 21, none, .ixS 1 (.tmp 20) (.const (.int .i64 0))⟩, false, []⟩,
    ⟨3, ⟨some 22, none, .load1 (.tmp 21)⟩, true, []⟩,
    ⟨4, ⟨some 23, none, .cvInt .u32 (.tmp 22)⟩, false, []⟩,
    ⟨5, ⟨some 24, none, .mov (.tmp 4)⟩, false, []⟩,
    ⟨6, ⟨some 25, none, .ixS 1 (.tmp 24) (.const (.int .i64 1))⟩, false, []⟩,
    ⟨7, ⟨some 26, none, .load1 (.tmp 25)⟩, true, []⟩,
    ⟨8, ⟨some 27, none, .cvInt .u32 (.tmp 26)⟩, false, []⟩,
    ⟨9, ⟨some 28, none, .bin .shl 142 (.tmp 27) (.const (.int .u64 8))⟩, false, []⟩,
    ⟨10, ⟨some 29, none, .bin .or 142 (.tmp 23) (.tmp 28)⟩, false, []⟩,
    ⟨11, ⟨some 30, none, .mov (.tmp 4)⟩, false, []⟩,
    ⟨12, ⟨some 31, none, .ixS 1 (.tmp 30) (.const (.int .i64 2))⟩, false, []⟩,
    ⟨13, ⟨some 32, none, .load1 (.tmp 31)⟩, true, []⟩,
    ⟨14, ⟨some 33, none, .cvInt .u32 (.tmp 32)⟩, false, []⟩,
    ⟨15, ⟨some 34, none, .bin .shl 142 (.tmp 33) (.const (.int .u64 16))⟩, false, []⟩,
    ⟨16, ⟨some 35, none, .bin .or 142 (.tmp 29) (.tmp 34)⟩, false, []⟩,
    ⟨17, ⟨some 36, none, .mov (.tmp 4)⟩, false, []⟩,
    ⟨18, ⟨some 37, none, .ixS 1 (.tmp 36) (.const (.int .i64 3))⟩, false, []⟩,
    ⟨19, ⟨some 38, none, .load1 (.tmp 37)⟩, true, []⟩,
    ⟨20, ⟨some 39, none, .cvInt .u32 (.tmp 38)⟩, false, []⟩,
    ⟨21, ⟨some 40, none, .bin .shl 142 (.tmp 39) (.const (.int .u64 24))⟩, false, []⟩,
    ⟨22, ⟨some 41, none, .bin .or 142 (.tmp 35) (.tmp 40)⟩, false, []⟩],
   [⟨23, ⟨some 42, none, .bin .add 142 (.tmp 19) (.tmp 41)⟩, false, []⟩],
   [⟨24, ⟨some 3, none, .mov (.tmp 42)⟩, false, []⟩]]
def R120_8 : RC := .reg [⟨some 43, none, .mov (.tmp 3)⟩,
    ⟨some 44, none, .bin .mul 142 (.tmp 43) (.const (.int .u32 3332679571))⟩,
    ⟨some 3, none, .mov (.tmp 44)⟩]
def R120_9 : RC := .reg [⟨some 45, none, .mov (.tmp 3)⟩,
    ⟨some 46, none, .mov (.tmp 3)⟩,
    ⟨some 47, none, .bin .shr 142 (.tmp 46) (.const (.int .u64 16))⟩,
    ⟨some 48, none, .bin .xor 142 (.tmp 45) (.tmp 47)⟩,
    ⟨some 3, none, .mov (.tmp 48)⟩]
def R120_10 : RC := .seq R120_8 R120_9
def R120_11 : RC := .seq R120_7 R120_10
def R120_12 : RC := .seq R120_6 R120_11
def R120_13 : RC := .seq R120_5 R120_12
def R120_14 : RC := .block 1 R120_13
def R120_15 : RC := .seq R120_4 R120_14
def R120_16 : RC := .loop R120_15
def R120_17 : RC := .block 0 R120_16
def R120_18 : RC := .reg [⟨some 49, none, .mov (.tmp 0)⟩,
    ⟨some 50, none, .lenS (.tmp 49)⟩,
    ⟨some 51, none, .bin .eql 3 (.tmp 50) (.const (.int .i64 0))⟩]
def R120_19 : RC := .reg [⟨some 52, none, .mov (.tmp 3)⟩,
    ⟨some 2, none, .mov (.tmp 52)⟩]
def R120_20 : RC := .seq R120_19 (.ret)
def R120_21 : RC := .cond (.tmp 51) R120_20 (.skip)
def R120_22 : RC := .seq R120_18 R120_21
def R120_23 : RC := .reg [⟨some 53, none, .mov (.tmp 0)⟩,
    ⟨some 54, none, .lenS (.tmp 53)⟩,
    ⟨some 55, none, .mov (.const (.int .i64 0))⟩]
def R120_24 : RC := .reg [⟨some 56, none, .bin .lss 3 (.tmp 55) (.tmp 54)⟩]
def R120_25 : RC := .cond (.tmp 56) (.skip) (.exit 2)
def R120_26 : RC := .reg [⟨some 57, none, .mov (.tmp 55)⟩,
    ⟨some 58, none, .ixS 1 (.tmp 53) (.tmp 55)⟩,
    ⟨some 59, none, .load1 (.tmp 58)⟩,
    ⟨some 5, none, .mov (.tmp 57)⟩,
    ⟨some 6, none, .mov (.tmp 59)⟩]
def R120_27 : RC := .reg [⟨some 60, none, .mov (.tmp 3)⟩,
    ⟨some 61, none, .mov (.tmp 6)⟩,
    ⟨some 62, none, .cvInt .u32 (.tmp 61)⟩,
    ⟨some 63, none, .mov (.tmp 5)⟩,
    ⟨some 64, none, .bin .mul 3 (.const (.int .i64 8)) (.tmp 63)⟩,
    ⟨some 65, none, .bin .shl 142 (.tmp 62) (.tmp 64)⟩,
    ⟨some 66, none, .bin .add 142 (.tmp 60) (.tmp 65)⟩,
    ⟨some 3, none, .mov (.tmp 66)⟩]
def R120_28 : RC := .seq R120_26 R120_27
def R120_29 : RC := .block 3 R120_28
def R120_30 : RC := .reg [⟨some 67, none, .bin .add 3 (.tmp 55) (.const (.int .i64 1))⟩,
    ⟨some 55, none, .mov (.tmp 67)⟩]
def R120_31 : RC := .seq R120_29 R120_30
def R120_32 : RC := .seq R120_25 R120_31
def R120_33 : RC := .seq R120_24 R120_32
def R120_34 : RC := .loop R120_33
def R120_35 : RC := .block 2 R120_34
def R120_36 : RC := .seq R120_23 R120_35
def R120_37 : RC := .reg [⟨some 68, none, .mov (.tmp 3)⟩,
    ⟨some 69, none, .bin .mul 142 (.tmp 68) (.const (.int .u32 3332679571))⟩,
    ⟨some 3, none, .mov (.tmp 69)⟩]
def R120_38 : RC := .reg [⟨some 70, none, .mov (.tmp 3)⟩,
    ⟨some 71, none, .mov (.tmp 3)⟩,
    ⟨some 72, none, .bin .shr 142 (.tmp 71) (.const (.int .u64 24))⟩,
    ⟨some 73, none, .bin .xor 142 (.tmp 70) (.tmp 72)⟩,
    ⟨some 2, none, .mov (.tmp 73)⟩]
def R120_39 : RC := .seq R120_38 (.ret)
def R120_40 : RC := .seq R120_37 R120_39
def R120_41 : RC := .seq R120_36 R120_40
def R120_42 : RC := .seq R120_22 R120_41
def R120_43 : RC := .seq R120_17 R120_42
def R120_44 : RC := .seq R120_1 R120_43
def R120_45 : RC := .seq R120_0 R120_44

theorem fn120 : FnOK Tryz.prog 120 ⟨R120_45, [.tmp 2], 74⟩ :=
  ⟨Tryz.f120, Tryz.f120.body.getD .skip, Tryz.func120, by kernel_rfl, by kernel_rfl, by kernel_rfl, by kernel_rfl, by kernel_rfl⟩
-- 121: math/bits.RotateLeft32
def R121_0 : RC := .reg [⟨some 4, none, .mov (.const (.int .u32 0))⟩]
def R121_1 : RC := .reg [⟨some 6, none, .mov (.tmp 1)⟩,
    ⟨some 7, none, .cvInt .u64 (.tmp 6)⟩,
    ⟨some 8, none, .bin .and 206 (.tmp 7) (.const (.int .u64 31))⟩,
    ⟨some 5, none, .mov (.tmp 8)⟩]
def R121_2 : RC := .reg [⟨some 9, none, .mov (.tmp 0)⟩,
    ⟨some 10, none, .mov (.tmp 5)⟩,
    ⟨some 11, none, .bin .shl 142 (.tmp 9) (.tmp 10)⟩,
    ⟨some 12, none, .mov (.tmp 0)⟩,
    ⟨some 13, none, .mov (.tmp 5)⟩,
    ⟨some 14, none, .bin .sub 206 (.const (.int .u64 32)) (.tmp 13)⟩,
    ⟨some 15, none, .bin .shr 142 (.tmp 12) (.tmp 14)⟩,
    ⟨some 16, none, .bin .or 142 (.tmp 11) (.tmp 15)⟩,
    ⟨some 4, none, .mov (.tmp 16)⟩]
def R121_3 : RC := .seq R121_2 (.ret)
def R121_4 : RC := .seq R121_1 R121_3
def R121_5 : RC := .seq R121_0 R121_4

theorem fn121 : FnOK Tryz.prog 121 ⟨R121_5, [.tmp 4], 17⟩ :=
  ⟨Tryz.f121, Tryz.f121.body.getD .skip, Tryz.func121, by kernel_rfl, by kernel_rfl, by kernel_rfl, by kernel_rfl, by kernel_rfl⟩
-- 153: lectern/ikey.Decode$1
def R153_0 : RC := .reg [⟨some 2, none, .load1 (.tmp 0)⟩,
    ⟨some 3, none, .call 154 [(.tmp 2)]⟩,
    ⟨none, none, .store 5 (.tmp 1) (.tmp 3)⟩]

theorem fn153 : FnOK Tryz.prog 153 ⟨R153_0, [], 4⟩ :=
  ⟨Tryz.f153, Tryz.f153.body.getD .skip, Tryz.func153, by kernel_rfl, by kernel_rfl, by kernel_rfl, by kernel_rfl, by kernel_rfl⟩
-- 152: lectern/ikey.guarded
def R152_0 : RC := .reg [⟨some 2, none, .newv 59 (.int .i64 0)⟩]
def R152_1 : RC := .reg [⟨some 3, none, .mkFn (.func 169) [] [(.tmp 2)]⟩,
    ⟨none, none, .defr ⟨.value (.tmp 3), #[], #[]⟩ 0⟩]
def R152_2 : RC := .reg [⟨some 4, none, .mov (.tmp 0)⟩,
    ⟨some 5, none, .callV (.tmp 4) []⟩]
def R152_3 : RC := .reg [⟨none, none, .store 1 (.tmp 2) (.const (.int .i64 0))⟩]
def R152_4 : RC := .seq R152_3 (.ret)
def R152_5 : RC := .seq R152_2 R152_4
def R152_6 : RC := .seq R152_1 R152_5
def R152_7 : RC := .seq R152_0 R152_6

theorem fn152 : FnOK Tryz.prog 152 ⟨R152_7, [.cell1 2], 6⟩ :=
  ⟨Tryz.f152, Tryz.f152.body.getD .skip, Tryz.func152, by kernel_rfl, by kernel_rfl, by kernel_rfl, by kernel_rfl, by kernel_rfl⟩
-- 155: lectern/ikey.Begin
def R155_0 : RC := .reg [⟨some 2, none, .mov (.const (.slice none 0 0))⟩,
    ⟨some 3, none, .mov (.const (.int .i64 0))⟩]
def R155_1 : RC := .reg [⟨some 4, none, .mov (.tmp 0)⟩,
    ⟨some 5, none, .call 173 [(.tmp 4), (.const (.int .i64 65535))]⟩,
    ⟨some 6, none, .un .not (.tmp 5)⟩]
def R155_2 : RC := .reg [⟨some 2, none, .mov (.const (.slice none 0 0))⟩,
    ⟨some 3, none, .mov (.const (.int .i64 1))⟩]
def R155_3 : RC := .seq R155_2 (.ret)
def R155_4 : RC := .cond (.tmp 6) R155_3 (.skip)
def R155_5 : RC := .seq R155_1 R155_4
def R155_6 : RC := .reg [⟨some 7, none, .mov (.tmp 0)⟩,
    ⟨some 8, none, .bin .shr 3 (.tmp 7) (.const (.int .u64 8))⟩,
    ⟨some 9, none, .cvInt .u8 (.tmp 8)⟩,
    ⟨some 10, none, .mov (.tmp 0)⟩,
    ⟨some 11, none, .cvInt .u8 (.tmp 10)⟩,
    ⟨some 12, none, .mkSl 5 1 2 #[.int .u8 0, .int .u8 0] [(0, (.tmp 9)), (1, (.tmp 11))]⟩,
    ⟨some 2, none, .mov (.tmp 12)⟩,
    ⟨some 3, none, .mov (.const (.int .i64 0))⟩]
def R155_7 : RC := .seq R155_6 (.ret)
def R155_8 : RC := .seq R155_5 R155_7
def R155_9 : RC := .seq R155_0 R155_8

theorem fn155 : FnOK Tryz.prog 155 ⟨R155_9, [.tmp 2, .tmp 3], 13⟩ :=
  ⟨Tryz.f155, Tryz.f155.body.getD .skip, Tryz.func155, by kernel_rfl, by kernel_rfl, by kernel_rfl, by kernel_rfl, by kernel_rfl⟩
-- 156: lectern/ikey.Escape
def R156_0 : RC := .reg [⟨some 2, none, .mov (.const (.slice none 0 0))⟩]
def R156_1 : RC := .reg [⟨some 3, none, .mov (.const (.slice none 0 0))⟩]
def R156_2 : RC := .reg [⟨some 6, none, .mov (.tmp 0)⟩,
    ⟨some 7, none, .lenS (.tmp 6)⟩,
    ⟨some 8, none, .mov (.const (.int .i64 0))⟩]
def R156_3 : RC := .reg [⟨some 9, none, .bin .lss 3 (.tmp 8) (.tmp 7)⟩]
def R156_4 : RC := .cond (.tmp 9) (.skip) (.exit 0)
def R156_5 : RC := .reg [⟨some 10, none, .ixS 1 (.tmp 6) (.tmp 8)⟩,
    ⟨some 11, none, .load1 (.tmp 10)⟩,
    ⟨some 5, none, .mov (.tmp 11)⟩]
def R156_6 : RC := .reg [⟨some 12, none, .mov (.tmp 3)⟩,
    ⟨some 13, none, .mov (.tmp 5)⟩,
    ⟨some 14, none, .mkSl 5 1 1 #[.int .u8 0] [(0, (.tmp 13))]⟩,
    ⟨some 15, none, .app 5 1 1 (.int .u8 0) (.tmp 12) (.tmp 14)⟩,
    ⟨some 3, none, .mov (.tmp 15)⟩]
def R156_7 : RC := .reg [⟨some 16, none, .mov (.tmp 5)⟩,
    ⟨some 17, none, .bin .eql 5 (.tmp 16) (.const (.int .u8 0))⟩]
def R156_8 : RC := .reg [⟨some 18, none, .mov (.tmp 3)⟩,
    ⟨some 19, none, .mkSl 5 1 1 #[.int .u8 0] [(0, (.const (.int .u8 255)))]⟩,
    ⟨some 20, none, .app 5 1 1 (.int .u8 0) (.tmp 18) (.tmp 19)⟩,
    ⟨some 3, none, .mov (.tmp 20)⟩]
def R156_9 : RC := .cond (.tmp 17) R156_8 (.skip)
def R156_10 : RC := .seq R156_7 R156_9
def R156_11 : RC := .seq R156_6 R156_10
def R156_12 : RC := .seq R156_5 R156_11
def R156_13 : RC := .block 1 R156_12
def R156_14 : RC := .reg [⟨some 21, none, .bin .add 3 (.tmp 8) (.const (.int .i64 1))⟩,
    ⟨some 8, none, .mov (.tmp 21)⟩]
def R156_15 : RC := .seq R156_13 R156_14
def R156_16 : RC := .seq R156_4 R156_15
def R156_17 : RC := .seq R156_3 R156_16
def R156_18 : RC := .loop R156_17
def R156_19 : RC := .block 0 R156_18
def R156_20 : RC := .seq R156_2 R156_19
def R156_21 : RC := .reg [⟨some 22, none, .mov (.tmp 3)⟩,
    ⟨some 23, none, .mkSl 5 1 2 #[.int .u8 0, .int .u8 0] [(0, (.const (.int .u8 0))), (1, (.const (.int .u8 1)))]⟩,
    ⟨some 24, none, .app 5 1 1 (.int .u8 0) (.tmp 22) (.tmp 23)⟩,
    ⟨some 2, none, .mov (.tmp 24)⟩]
def R156_22 : RC := .seq R156_21 (.ret)
def R156_23 : RC := .seq R156_20 R156_22
def R156_24 : RC := .seq R156_1 R156_23
def R156_25 : RC := .seq R156_0 R156_24

theorem fn156 : FnOK Tryz.prog 156 ⟨R156_25, [.tmp 2], 25⟩ :=
  ⟨Tryz.f156, Tryz.f156.body.getD .skip, Tryz.func156, by kernel_rfl, by kernel_rfl, by kernel_rfl, by kernel_rfl, by kernel_rfl⟩
-- 135: lectern/block.must
def R135_0 : RC := .reg [⟨some 4, none, .mov (.tmp 0)⟩,
    ⟨some 5, none, .un .not (.tmp 4)⟩]
def R135_1 : RC := .reg [⟨some 6, none, .mov (.tmp 1)⟩,
    ⟨some 7, none, .build [(0, 1)] #[.int .i64 0] [(0, (.tmp 6))]⟩,
    ⟨some 8, none, .mkIf 228 (.tmp 7)⟩,
    ⟨none, none, .panic (.tmp 8)⟩]
def R135_2 : RC := .cond (.tmp 5) R135_1 (.skip)
def R135_3 : RC := .seq R135_0 R135_2

theorem fn135 : FnOK Tryz.prog 135 ⟨R135_3, [], 9⟩ :=
  ⟨Tryz.f135, Tryz.f135.body.getD .skip, Tryz.func135, by kernel_rfl, by kernel_rfl, by kernel_rfl, by kernel_rfl, by kernel_rfl⟩
-- 136: slices.All[[]lectern/api.Pair,lectern/api.Pair]
def R136_0 : RC := .reg [⟨some 1, none, .box 43 (.tmp 0)⟩,
    ⟨some 2, none, .mov (.const (.nilFunc))⟩]
def R136_1 : RC := .reg [⟨some 3, none, .mkFn (.func 157) [] [(.tmp 1)]⟩,
    ⟨some 2, none, .mov (.tmp 3)⟩]
def R136_2 : RC := .seq R136_1 (.ret)
def R136_3 : RC := .seq R136_0 R136_2

theorem fn136 : FnOK Tryz.prog 136 ⟨R136_3, [.tmp 2], 4⟩ :=
  ⟨Tryz.f136, Tryz.f136.body.getD .skip, Tryz.func136, by kernel_rfl, by kernel_rfl, by kernel_rfl, by kernel_rfl, by kernel_rfl⟩
-- 137: lectern/block.common
def R137_0 : RC := .reg [⟨some 4, none, .mov (.const (.int .i64 0))⟩]
def R137_1 : RC := .reg [⟨some 5, none, .mov (.const (.int .i64 0))⟩]
def R137_2 : RC := .draw [⟨some 6, none, .mov (.tmp 5)⟩,
    ⟨some 7, none, .mov (.tmp 0)⟩,
    ⟨some 8, none, .lenS (.tmp 7)⟩,
    ⟨some 9, none, .bin .lss 3 (.tmp 6) (.tmp 8)⟩,
    ⟨some 10, none, .mov (.tmp 9)⟩,
    ⟨some 11, some (10, true), .mov (.tmp 5)⟩,
    ⟨some 12, some (10, true), .mov (.tmp 1)⟩,
    ⟨some 13, some (10, true), .lenS (.tmp 12)⟩,
    ⟨some 14, some (10, true), .bin .lss 3 (.tmp 11) (.tmp 13)⟩,
    ⟨some 15, none, .pick (.tmp 10) (.tmp 14) (.const (.bool false))⟩,
    ⟨some 16, none, .mov (.tmp 15)⟩,
    ⟨some 17, some (16, true), .mov (.tmp 0)⟩,
    ⟨some 18, some (16, true), .mov (.tmp 5)⟩,
    ⟨some 19, some (16, true), .ixS 1 (.tmp 17) (.tmp 18)⟩,
    ⟨some 20, some (16, true), .load1 (.tmp 19)⟩,
    ⟨some 21, some (16, true), .mov (.tmp 1)⟩,
    ⟨some 22, some (16, true), .mov (.tmp 5)⟩,
    ⟨some 23, some (16, true), .ixS 1 (.tmp 21) (.tmp 22)⟩,
    ⟨some 24, some (16, true), .load1 (.tmp 23)⟩,
    ⟨some 25, some (16, true), .bin .eql 5 (.tmp 20) (.tmp 24)⟩,
    ⟨some 26, none, .pick (.tmp 16) (.tmp 25) (.const (.bool false))⟩] [[⟨0, ⟨some 6, none, .mov (.tmp 5)⟩, false, []⟩,
    ⟨1, ⟨some 7, none, .mov (.tmp 0)⟩, false, []⟩,
    ⟨2, ⟨some 8, none, .lenS (.tmp 7)⟩, false, []⟩],
   [⟨3, ⟨some 9, none, .bin .lss 3 (.tmp 6) (.tmp 8)⟩, false, []⟩],
   [⟨4, ⟨some 10, none, .mov (.tmp 9)⟩, false, []⟩],
   [⟨5, ⟨some 11, some (10, true), .mov (.tmp 5)⟩, false, []⟩,
    ⟨6, ⟨some 12, some (10, true), .mov (.tmp 1)⟩, false, []⟩,
    ⟨7, ⟨some 13, some (10, true), .lenS (.tmp 12)⟩, false, []⟩],
   [⟨8, ⟨some 14, some (10, true), .bin .lss 3 (.tmp 11) (.tmp 13)⟩, false, []⟩],
   [⟨9, ⟨some 15, none, .pick (.tmp 10) (.tmp 14) (.const (.bool false))⟩, false, []⟩],
   [⟨10, ⟨some 16, none, .mov (.tmp 15)⟩, false, []⟩],
   [⟨11, ⟨some 17, some (16, true), .mov (.tmp 0)⟩, false, []⟩,
    ⟨12, ⟨some 18, some (16, true), .mov (.tmp 5)⟩, false, []⟩,
    ⟨13, ⟨some 19, some (16, true), .ixS 1 (.tmp 17) (.tmp 18)⟩, false, []⟩,
    ⟨14, ⟨some 20, some (16, true), .load1 (.tmp 19)⟩, true, []⟩,
    ⟨15, ⟨some 21, some (16, true), .mov (.tmp 1)⟩, false, []⟩,
    ⟨16, ⟨some 22, some (16, true), .mov (.tmp 5)⟩, false, []⟩,
    ⟨17, ⟨some 23, some (16, true), .ixS 1 (.tmp 21) (.tmp 22)⟩, false, []⟩,
    ⟨18, ⟨some 24, some (16, true), .load1 (.tmp 23)⟩, true, []⟩],
   [⟨19, ⟨some 25, some (16, true), .bin .eql 5 (.tmp 20) (.tmp 24)⟩, false, []⟩],
   [⟨20, ⟨some 26, none, .pick (.tmp 16) (.tmp 25) (.const (.bool false))⟩, false, []⟩]]
def R137_3 : RC := .cond (.tmp 26) (.skip) (.exit 0)
def R137_4 : RC := .seq R137_2 R137_3
def R137_5 : RC := .reg [⟨some 27, none, .mov (.tmp 5)⟩,
    ⟨some 28, none, .bin .add 3 (.tmp 27) (.const (.int .i64 1))⟩,
    ⟨some 5, none, .mov (.tmp 28)⟩]
def R137_6 : RC := .block 1 R137_5
def R137_7 : RC := .seq R137_4 R137_6
def R137_8 : RC := .loop R137_7
def R137_9 : RC := .block 0 R137_8
def R137_10 : RC := .reg [⟨some 29, none, .mov (.tmp 5)⟩,
    ⟨some 4, none, .mov (.tmp 29)⟩]
def R137_11 : RC := .seq R137_10 (.ret)
def R137_12 : RC := .seq R137_9 R137_11
def R137_13 : RC := .seq R137_1 R137_12
def R137_14 : RC := .seq R137_0 R137_13

theorem fn137 : FnOK Tryz.prog 137 ⟨R137_14, [.tmp 4], 30⟩ :=
  ⟨Tryz.f137, Tryz.f137.body.getD .skip, Tryz.func137, by kernel_rfl, by kernel_rfl, by kernel_rfl, by kernel_rfl, by kernel_rfl⟩
-- 138: lectern/block.num
def R138_0 : RC := .reg [⟨some 2, none, .mov (.const (.slice none 0 0))⟩]
def R138_1 : RC := .reg [⟨some 3, none, .mov (.tmp 0)⟩,
    ⟨some 4, none, .cvInt .u64 (.tmp 3)⟩,
    ⟨some 5, none, .call 107 [(.tmp 4)]⟩,
    ⟨some 2, none, .mov (.tmp 5)⟩]
def R138_2 : RC := .seq R138_1 (.ret)
def R138_3 : RC := .seq R138_0 R138_2

theorem fn138 : FnOK Tryz.prog 138 ⟨R138_3, [.tmp 2], 6⟩ :=
  ⟨Tryz.f138, Tryz.f138.body.getD .skip, Tryz.func138, by kernel_rfl, by kernel_rfl, by kernel_rfl, by kernel_rfl, by kernel_rfl⟩
-- 139: lectern/codec.Fixed
def R139_0 : RC := .reg [⟨some 4, none, .mov (.const (.slice none 0 0))⟩,
    ⟨some 5, none, .mov (.const (.int .i64 0))⟩]
def R139_1 : RC := .reg [⟨some 8, none, .mov (.tmp 1)⟩,
    ⟨some 9, none, .bin .lss 3 (.tmp 8) (.const (.int .i64 1))⟩,
    ⟨some 10, none, .mov (.tmp 9)⟩,
    ⟨some 11, some (10, false), .mov (.tmp 1)⟩,
    ⟨some 12, some (10, false), .bin .gtr 3 (.tmp 11) (.const (.int .i64 8))⟩,
    ⟨some 13, none, .pick (.tmp 10) (.const (.bool true)) (.tmp 12)⟩,
    ⟨some 14, none, .mov (.tmp 13)⟩,
    ⟨some 15, some (14, false), .mov (.tmp 1)⟩,
    ⟨some 16, some (14, false), .bin .lss 3 (.tmp 15) (.const (.int .i64 8))⟩,
    ⟨some 17, some (14, false), .mov (.tmp 16)⟩,
    ⟨some 18, some (17, true), .mov (.tmp 0)⟩,
    ⟨some 19, some (17, true), .mov (.tmp 1)⟩,
    ⟨some 20, some (17, true), .bin .mul 3 (.const (.int .i64 8)) (.tmp 19)⟩,
    ⟨some 21, some (17, true), .bin .shr 200 (.tmp 18) (.tmp 20)⟩,
    ⟨some 22, some (17, true), .bin .neq 200 (.tmp 21) (.const (.int .u64 0))⟩,
    ⟨some 23, some (14, false), .pick (.tmp 17) (.tmp 22) (.const (.bool false))⟩,
    ⟨some 24, none, .pick (.tmp 14) (.const (.bool true)) (.tmp 23)⟩]
def R139_2 : RC := .reg [⟨some 4, none, .mov (.const (.slice none 0 0))⟩,
    ⟨some 5, none, .mov (.const (.int .i64 1))⟩]
def R139_3 : RC := .seq R139_2 (.ret)
def R139_4 : RC := .cond (.tmp 24) R139_3 (.skip)
def R139_5 : RC := .seq R139_1 R139_4
def R139_6 : RC := .reg [⟨some 25, none, .mov (.tmp 1)⟩,
    ⟨some 26, none, .mkSlice 5 1 1 (.int .u8 0) (.tmp 25) (.tmp 25)⟩,
    ⟨some 6, none, .mov (.tmp 26)⟩]
def R139_7 : RC := .reg [⟨some 27, none, .mov (.tmp 6)⟩,
    ⟨some 28, none, .lenS (.tmp 27)⟩,
    ⟨some 29, none, .mov (.const (.int .i64 0))⟩]
def R139_8 : RC := .reg [⟨some 30, none, .bin .lss 3 (.tmp 29) (.tmp 28)⟩]
def R139_9 : RC := .cond (.tmp 30) (.skip) (.exit 0)
def R139_10 : RC := .reg [⟨some 31, none, .mov (.tmp 29)⟩,
    ⟨some 7, none, .mov (.tmp 31)⟩]
def R139_11 : RC := .reg [⟨some 32, none, .mov (.tmp 6)⟩,
    ⟨some 33, none, .mov (.tmp 7)⟩,
    ⟨some 34, none, .mov (.tmp 0)⟩,
    ⟨some 35, none, .mov (.tmp 7)⟩,
    ⟨some 36, none, .bin .mul 3 (.const (.int .i64 8)) (.tmp 35)⟩,
    ⟨some 37, none, .bin .shr 200 (.tmp 34) (.tmp 36)⟩,
    ⟨some 38, none, .cvInt .u8 (.tmp 37)⟩,
    ⟨some 39, none, .ixS 1 (.tmp 32) (.tmp 33)⟩,
    ⟨none, none, .store 1 (.tmp 39) (.tmp 38)⟩]
def R139_12 : RC := .seq R139_10 R139_11
def R139_13 : RC := .block 1 R139_12
def R139_14 : RC := .reg [⟨some 40, none, .bin .add 3 (.tmp 29) (.const (.int .i64 1))⟩,
    ⟨some 29, none, .mov (.tmp 40)⟩]
def R139_15 : RC := .seq R139_13 R139_14
def R139_16 : RC := .seq R139_9 R139_15
def R139_17 : RC := .seq R139_8 R139_16
def R139_18 : RC := .loop R139_17
def R139_19 : RC := .block 0 R139_18
def R139_20 : RC := .seq R139_7 R139_19
def R139_21 : RC := .reg [⟨some 41, none, .mov (.tmp 6)⟩,
    ⟨some 4, none, .mov (.tmp 41)⟩,
    ⟨some 5, none, .mov (.const (.int .i64 0))⟩]
def R139_22 : RC := .seq R139_21 (.ret)
def R139_23 : RC := .seq R139_20 R139_22
def R139_24 : RC := .seq R139_6 R139_23
def R139_25 : RC := .seq R139_5 R139_24
def R139_26 : RC := .seq R139_0 R139_25

theorem fn139 : FnOK Tryz.prog 139 ⟨R139_26, [.tmp 4, .tmp 5], 42⟩ :=
  ⟨Tryz.f139, Tryz.f139.body.getD .skip, Tryz.func139, by kernel_rfl, by kernel_rfl, by kernel_rfl, by kernel_rfl, by kernel_rfl⟩
-- 158: (*lectern/crc.Table).ready
def R158_0 : RC := .reg [⟨some 2, none, .mov (.const (.bool false))⟩]
def R158_1 : RC := .reg [⟨some 3, none, .mov (.tmp 0)⟩,
    ⟨some 4, none, .eqP false (.tmp 3) (.const (.pointer none))⟩,
    ⟨some 5, none, .mov (.tmp 4)⟩,
    ⟨some 6, some (5, false), .mov (.tmp 0)⟩,
    ⟨some 7, some (5, false), .nilck (.tmp 6)⟩,
    ⟨some 8, some (5, false), .faddr 0 (.tmp 7)⟩,
    ⟨some 9, some (5, false), .load1 (.tmp 8)⟩,
    ⟨some 10, some (5, false), .bin .neq 3 (.tmp 9) (.const (.int .i64 1))⟩,
    ⟨some 11, none, .pick (.tmp 5) (.const (.bool true)) (.tmp 10)⟩]
def R158_2 : RC := .reg [⟨some 2, none, .mov (.const (.bool false))⟩]
def R158_3 : RC := .seq R158_2 (.ret)
def R158_4 : RC := .cond (.tmp 11) R158_3 (.skip)
def R158_5 : RC := .seq R158_1 R158_4
def R158_6 : RC := .reg [⟨some 12, none, .mov (.tmp 0)⟩,
    ⟨some 13, none, .nilck (.tmp 12)⟩,
    ⟨some 14, none, .faddr 1 (.tmp 13)⟩,
    ⟨some 15, none, .mov (.tmp 0)⟩,
    ⟨some 16, none, .mkFn (.func 175) [(.tmp 15)] []⟩,
    ⟨some 17, none, .call 174 [(.tmp 14), (.tmp 16)]⟩]
def R158_7 : RC := .reg [⟨some 2, none, .mov (.const (.bool true))⟩]
def R158_8 : RC := .seq R158_7 (.ret)
def R158_9 : RC := .seq R158_6 R158_8
def R158_10 : RC := .seq R158_5 R158_9
def R158_11 : RC := .seq R158_0 R158_10

theorem fn158 : FnOK Tryz.prog 158 ⟨R158_11, [.tmp 2], 18⟩ :=
  ⟨Tryz.f158, Tryz.f158.body.getD .skip, Tryz.func158, by kernel_rfl, by kernel_rfl, by kernel_rfl, by kernel_rfl, by kernel_rfl⟩
-- 159: slices.Values[[]byte,byte]
def R159_0 : RC := .reg [⟨some 1, none, .box 22 (.tmp 0)⟩,
    ⟨some 2, none, .mov (.const (.nilFunc))⟩]
def R159_1 : RC := .reg [⟨some 3, none, .mkFn (.func 176) [] [(.tmp 1)]⟩,
    ⟨some 2, none, .mov (.tmp 3)⟩]
def R159_2 : RC := .seq R159_1 (.ret)
def R159_3 : RC := .seq R159_0 R159_2

theorem fn159 : FnOK Tryz.prog 159 ⟨R159_3, [.tmp 2], 4⟩ :=
  ⟨Tryz.f159, Tryz.f159.body.getD .skip, Tryz.func159, by kernel_rfl, by kernel_rfl, by kernel_rfl, by kernel_rfl, by kernel_rfl⟩
-- 161: lectern/codec.on[uint64]$1
def R161_0 : RC := .draw [⟨some 5, none, .load1 (.tmp 0)⟩,
    ⟨some 6, none, .load1 (.tmp 1)⟩,
    ⟨some 7, none, .nilck (.tmp 6)⟩,
    ⟨some 8, none, .faddr 1 (.tmp 7)⟩,
    ⟨some 9, none, .load1 (.tmp 8)⟩,
    ⟨some 10, none, .load1 (.tmp 1)⟩,
    ⟨some 11, none, .nilck (.tmp 10)⟩,
    ⟨some 12, none, .faddr 2 (.tmp 11)⟩,
    ⟨some 13, none, .load1 (.tmp 12)⟩,
    ⟨some 14, none, .slcL 1 (.tmp 9) (some (.tmp 13)) none none⟩,
    ⟨some 15, none, .callV (.tmp 5) [(.tmp 14)]⟩,
    ⟨some 4, none, .mov (.tmp 15)⟩,
    ⟨some 16, none, .extr (.tmp 4) 0⟩,
    ⟨some 17, none, .extr (.tmp 4) 1⟩,
    ⟨none, none, .store 1 (.tmp 2) (.tmp 16)⟩,
    ⟨none, none, .store 1 (.tmp 3) (.tmp 17)⟩] [[⟨0, ⟨some 5, none, .load1 (.tmp 0)⟩, true, []⟩,
    ⟨1, ⟨some 6, none, .load1 (.tmp 1)⟩, true, []⟩,
    ⟨2, ⟨some 7, none, .nilck (.tmp 6)⟩, false, []⟩,
    ⟨3, ⟨some 8, none, .faddr 1 (.tmp 7)⟩, false, []⟩,
    ⟨4, ⟨some 9, none, .load1 (.tmp 8)⟩, true, []⟩,
    ⟨5, ⟨some 10, none, .load1 (.tmp 1)⟩, true, []⟩,
    ⟨6, ⟨some 11, none, .nilck (.tmp 10)⟩, false, []⟩,
    ⟨7, ⟨some 12, none, .faddr 2 (.tmp 11)⟩, false, []⟩,
    ⟨8, ⟨some 13, none, .load1 (.tmp 12)⟩, true, []⟩,
    ⟨9, ⟨some 14, none, .slcL 1 (.tmp 9) (some (.tmp 13)) none none⟩, false, []⟩],
   [⟨10, ⟨some 15, none, .callV (.tmp 5) [(.tmp 14)]⟩, false, []⟩],
   [⟨11, ⟨some 4, none, .mov (.tmp 15)⟩, false, []⟩],
   [⟨12, ⟨some 16, none, .extr (.tmp 4) 0⟩, false, []⟩,
    ⟨13, ⟨some 17, none, .extr (.tmp 4) 1⟩, false, []⟩,
    ⟨14, ⟨none, none, .store 1 (.tmp 2) (.tmp 16)⟩, false, []⟩],
   [⟨15, ⟨none, none, .store 1 (.tmp 3) (.tmp 17)⟩, false, []⟩]]

theorem fn161 : FnOK Tryz.prog 161 ⟨R161_0, [], 18⟩ :=
  ⟨Tryz.f161, Tryz.f161.body.getD .skip, Tryz.func161, by kernel_rfl, by kernel_rfl, by kernel_rfl, by kernel_rfl, by kernel_rfl⟩
-- 160: lectern/codec.guarded
def R160_0 : RC := .reg [⟨some 2, none, .newv 59 (.int .i64 0)⟩]
def R160_1 : RC := .reg [⟨some 3, none, .mkFn (.func 177) [] [(.tmp 2)]⟩,
    ⟨none, none, .defr ⟨.value (.tmp 3), #[], #[]⟩ 0⟩]
def R160_2 : RC := .reg [⟨some 4, none, .mov (.tmp 0)⟩,
    ⟨some 5, none, .callV (.tmp 4) []⟩]
def R160_3 : RC := .reg [⟨none, none, .store 1 (.tmp 2) (.const (.int .i64 0))⟩]
def R160_4 : RC := .seq R160_3 (.ret)
def R160_5 : RC := .seq R160_2 R160_4
def R160_6 : RC := .seq R160_1 R160_5
def R160_7 : RC := .seq R160_0 R160_6

theorem fn160 : FnOK Tryz.prog 160 ⟨R160_7, [.cell1 2], 6⟩ :=
  ⟨Tryz.f160, Tryz.f160.body.getD .skip, Tryz.func160, by kernel_rfl, by kernel_rfl, by kernel_rfl, by kernel_rfl, by kernel_rfl⟩
-- 162: lectern/codec.must
def R162_0 : RC := .reg [⟨some 4, none, .mov (.tmp 0)⟩,
    ⟨some 5, none, .un .not (.tmp 4)⟩]
def R162_1 : RC := .reg [⟨some 6, none, .mov (.tmp 1)⟩,
    ⟨some 7, none, .build [(0, 1)] #[.int .i64 0] [(0, (.tmp 6))]⟩,
    ⟨some 8, none, .mkIf 250 (.tmp 7)⟩,
    ⟨none, none, .panic (.tmp 8)⟩]
def R162_2 : RC := .cond (.tmp 5) R162_1 (.skip)
def R162_3 : RC := .seq R162_0 R162_2

theorem fn162 : FnOK Tryz.prog 162 ⟨R162_3, [], 9⟩ :=
  ⟨Tryz.f162, Tryz.f162.body.getD .skip, Tryz.func162, by kernel_rfl, by kernel_rfl, by kernel_rfl, by kernel_rfl, by kernel_rfl⟩
end Go.Proofs.YtbmncepaajkngaaGreat
