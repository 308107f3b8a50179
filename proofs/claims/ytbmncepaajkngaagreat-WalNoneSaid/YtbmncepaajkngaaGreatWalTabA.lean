/- The code of functions, their operations looked up (printed by a program of this work). -/
import Derived.Test.YtbmncepaajkngaaGreatLxFast
import Derived.KernelRfl
namespace Go.Proofs.YtbmncepaajkngaaGreat
open Go.Lx
set_option maxRecDepth 100000

-- 4: lectern/lecternlaw17.WalNone
def R4_0 : RC := .reg [⟨some 2, none, .newv 4 (.bool false)⟩]
def R4_1 : RC := .reg [⟨some 11, none, .call 20 []⟩,
    ⟨some 12, none, .un .not (.tmp 11)⟩]
def R4_2 : RC := .reg [⟨none, none, .store 1 (.tmp 2) (.const (.bool false))⟩]
def R4_3 : RC := .seq R4_2 (.ret)
def R4_4 : RC := .cond (.tmp 12) R4_3 (.skip)
def R4_5 : RC := .seq R4_1 R4_4
def R4_6 : RC := .reg [⟨some 3, none, .mov (.const (.pointer none))⟩]
def R4_7 : RC := .reg [⟨some 13, none, .mov (.tmp 3)⟩,
    ⟨some 14, none, .build [(0, 1), (1, 1), (2, 1), (3, 1), (4, 1), (5, 1)] #[.int .i64 0, .pointer none, .string ⟨#[]⟩, .slice none 0 0, .int .i64 0, .bool false] []⟩,
    ⟨some 15, none, .box 57 (.tmp 14)⟩,
    ⟨some 16, none, .mkSl 54 1 2 #[.pointer none, .pointer none] [(0, (.tmp 13)), (1, (.tmp 15))]⟩,
    ⟨some 17, none, .lenS (.tmp 16)⟩,
    ⟨some 18, none, .mov (.const (.int .i64 0))⟩]
def R4_8 : RC := .reg [⟨some 19, none, .bin .lss 3 (.tmp 18) (.tmp 17)⟩]
def R4_9 : RC := .cond (.tmp 19) (.skip) (.exit 0)
def R4_10 : RC := .reg [⟨some 20, none, .ixS 1 (.tmp 16) (.tmp 18)⟩,
    ⟨some 21, none, .load1 (.tmp 20)⟩,
    ⟨some 5, none, .mov (.tmp 21)⟩]
def R4_11 : RC := .reg [⟨some 22, none, .mov (.tmp 5)⟩,
    ⟨some 23, none, .mov (.tmp 0)⟩,
    ⟨some 24, none, .call 21 [(.tmp 22), (.tmp 23), (.const (.bool true))]⟩,
    ⟨some 25, none, .bin .neq 59 (.tmp 24) (.const (.int .i64 170))⟩,
    ⟨some 26, none, .mov (.tmp 25)⟩,
    ⟨some 27, some (26, false), .mov (.tmp 5)⟩,
    ⟨some 28, some (26, false), .call 22 [(.tmp 27)]⟩,
    ⟨some 29, some (26, false), .bin .neq 59 (.tmp 28) (.const (.int .i64 170))⟩,
    ⟨some 30, none, .pick (.tmp 26) (.const (.bool true)) (.tmp 29)⟩,
    ⟨some 31, none, .mov (.tmp 30)⟩,
    ⟨some 32, some (31, false), .mov (.tmp 5)⟩,
    ⟨some 33, some (31, false), .call 23 [(.tmp 32)]⟩,
    ⟨some 34, some (31, false), .lenS (.tmp 33)⟩,
    ⟨some 35, some (31, false), .bin .neq 3 (.tmp 34) (.const (.int .i64 0))⟩,
    ⟨some 36, none, .pick (.tmp 31) (.const (.bool true)) (.tmp 35)⟩,
    ⟨some 37, none, .mov (.tmp 36)⟩,
    ⟨some 38, some (37, false), .mov (.tmp 5)⟩,
    ⟨some 39, some (37, false), .call 24 [(.tmp 38)]⟩,
    ⟨some 40, some (37, false), .bin .neq 3 (.tmp 39) (.const (.int .i64 0))⟩,
    ⟨some 41, none, .pick (.tmp 37) (.const (.bool true)) (.tmp 40)⟩,
    ⟨some 42, none, .mov (.tmp 41)⟩,
    ⟨some 43, some (42, false), .mov (.tmp 5)⟩,
    ⟨some 44, some (42, false), .call 25 [(.tmp 43)]⟩,
    ⟨some 45, some (42, false), .bin .neq 3 (.tmp 44) (.const (.int .i64 0))⟩,
    ⟨some 46, none, .pick (.tmp 42) (.const (.bool true)) (.tmp 45)⟩,
    ⟨some 47, none, .mov (.tmp 46)⟩,
    ⟨some 48, some (47, false), .mov (.tmp 5)⟩,
    ⟨some 49, some (47, false), .call 26 [(.tmp 48)]⟩,
    ⟨some 50, some (47, false), .bin .neq 9 (.tmp 49) (.const (.string ⟨#[]⟩))⟩,
    ⟨some 51, none, .pick (.tmp 47) (.const (.bool true)) (.tmp 50)⟩]
def R4_12 : RC := .reg [⟨none, none, .store 1 (.tmp 2) (.const (.bool false))⟩]
def R4_13 : RC := .seq R4_12 (.ret)
def R4_14 : RC := .cond (.tmp 51) R4_13 (.skip)
def R4_15 : RC := .seq R4_11 R4_14
def R4_16 : RC := .reg [⟨some 52, none, .mov (.tmp 5)⟩,
    ⟨some 53, none, .call 27 [(.tmp 52)]⟩,
    ⟨some 6, none, .mov (.tmp 53)⟩]
def R4_17 : RC := .reg [⟨some 54, none, .mov (.tmp 6)⟩,
    ⟨some 55, none, .eqF true (.tmp 54) (.const (.nilFunc))⟩]
def R4_18 : RC := .reg [⟨some 56, none, .mov (.tmp 6)⟩]
def R4_19 : RC := .reg [⟨none, none, .store 1 (.tmp 2) (.const (.bool false))⟩]
def R4_20 : RC := .seq R4_19 (.ret)
def R4_21 : RC := .block 3 R4_20
def R4_22 : RC := .range (.tmp 56) #[57, 58] (.skip) R4_21
def R4_23 : RC := .block 2 R4_22
def R4_24 : RC := .seq R4_18 R4_23
def R4_25 : RC := .cond (.tmp 55) R4_24 (.skip)
def R4_26 : RC := .seq R4_17 R4_25
def R4_27 : RC := .seq R4_16 R4_26
def R4_28 : RC := .seq R4_15 R4_27
def R4_29 : RC := .seq R4_10 R4_28
def R4_30 : RC := .block 1 R4_29
def R4_31 : RC := .reg [⟨some 59, none, .bin .add 3 (.tmp 18) (.const (.int .i64 1))⟩,
    ⟨some 18, none, .mov (.tmp 59)⟩]
def R4_32 : RC := .seq R4_30 R4_31
def R4_33 : RC := .seq R4_9 R4_32
def R4_34 : RC := .seq R4_8 R4_33
def R4_35 : RC := .loop R4_34
def R4_36 : RC := .block 0 R4_35
def R4_37 : RC := .seq R4_7 R4_36
def R4_38 : RC := .reg [⟨some 61, none, .call 28 [(.const (.pointer none)), (.const (.string ⟨#[76]⟩))]⟩,
    ⟨some 60, none, .mov (.tmp 61)⟩,
    ⟨some 62, none, .extr (.tmp 60) 0⟩,
    ⟨some 63, none, .extr (.tmp 60) 1⟩,
    ⟨some 7, none, .mov (.tmp 62)⟩,
    ⟨some 8, none, .mov (.tmp 63)⟩]
def R4_39 : RC := .reg [⟨some 65, none, .call 29 [(.const (.pointer none)), (.const (.string ⟨#[76]⟩))]⟩,
    ⟨some 64, none, .mov (.tmp 65)⟩,
    ⟨some 66, none, .extr (.tmp 64) 0⟩,
    ⟨some 67, none, .extr (.tmp 64) 1⟩,
    ⟨some 9, none, .mov (.tmp 66)⟩,
    ⟨some 10, none, .mov (.tmp 67)⟩]
def R4_40 : RC := .reg [⟨some 68, none, .mov (.tmp 8)⟩,
    ⟨some 69, none, .bin .eql 59 (.tmp 68) (.const (.int .i64 12))⟩,
    ⟨some 70, none, .mov (.tmp 69)⟩,
    ⟨some 71, some (70, true), .mov (.tmp 10)⟩,
    ⟨some 72, some (70, true), .bin .eql 59 (.tmp 71) (.const (.int .i64 12))⟩,
    ⟨some 73, none, .pick (.tmp 70) (.tmp 72) (.const (.bool false))⟩,
    ⟨none, none, .store 1 (.tmp 2) (.tmp 73)⟩]
def R4_41 : RC := .seq R4_40 (.ret)
def R4_42 : RC := .seq R4_39 R4_41
def R4_43 : RC := .seq R4_38 R4_42
def R4_44 : RC := .seq R4_37 R4_43
def R4_45 : RC := .seq R4_6 R4_44
def R4_46 : RC := .seq R4_5 R4_45
def R4_47 : RC := .seq R4_0 R4_46

-- 20: lectern/lecternlaw17.awake
def R20_0 : RC := .reg [⟨some 0, none, .mov (.const (.bool false))⟩]
def R20_1 : RC := .reg [⟨some 10, none, .mkSl 5 1 1 #[.int .u8 0] [(0, (.const (.int .u8 97)))]⟩,
    ⟨some 11, none, .cvMark (.tmp 10)⟩,
    ⟨some 12, none, .call 48 [(.const (.int .i64 0)), (.tmp 11)]⟩,
    ⟨some 9, none, .mov (.tmp 12)⟩,
    ⟨some 13, none, .extr (.tmp 9) 0⟩,
    ⟨some 14, none, .extr (.tmp 9) 1⟩,
    ⟨some 1, none, .mov (.tmp 13)⟩,
    ⟨some 2, none, .mov (.tmp 14)⟩]
def R20_2 : RC := .reg [⟨some 16, none, .mkSl 5 1 2 #[.int .u8 0, .int .u8 0] [(0, (.const (.int .u8 97))), (1, (.const (.int .u8 98)))]⟩,
    ⟨some 17, none, .cvMark (.tmp 16)⟩,
    ⟨some 18, none, .call 48 [(.const (.int .i64 505)), (.tmp 17)]⟩,
    ⟨some 15, none, .mov (.tmp 18)⟩,
    ⟨some 19, none, .extr (.tmp 15) 0⟩,
    ⟨some 20, none, .extr (.tmp 15) 1⟩,
    ⟨some 3, none, .mov (.tmp 19)⟩,
    ⟨some 4, none, .mov (.tmp 20)⟩]
def R20_3 : RC := .reg [⟨some 22, none, .mkSl 5 1 1 #[.int .u8 0] [(0, (.const (.int .u8 97)))]⟩,
    ⟨some 23, none, .cvMark (.tmp 22)⟩,
    ⟨some 24, none, .call 48 [(.const (.int .i64 508)), (.tmp 23)]⟩,
    ⟨some 21, none, .mov (.tmp 24)⟩,
    ⟨some 25, none, .extr (.tmp 21) 0⟩,
    ⟨some 26, none, .extr (.tmp 21) 1⟩,
    ⟨some 5, none, .mov (.tmp 25)⟩,
    ⟨some 6, none, .mov (.tmp 26)⟩]
def R20_4 : RC := .reg [⟨some 28, none, .mov (.tmp 1)⟩,
    ⟨some 29, none, .call 49 [(.tmp 28)]⟩,
    ⟨some 27, none, .mov (.tmp 29)⟩,
    ⟨some 30, none, .extr (.tmp 27) 0⟩,
    ⟨some 31, none, .extr (.tmp 27) 1⟩,
    ⟨some 7, none, .mov (.tmp 30)⟩,
    ⟨some 8, none, .mov (.tmp 31)⟩]
def R20_5 : RC := .reg [⟨some 32, none, .mov (.tmp 2)⟩,
    ⟨some 33, none, .bin .eql 59 (.tmp 32) (.const (.int .i64 0))⟩,
    ⟨some 34, none, .mov (.tmp 33)⟩,
    ⟨some 35, some (34, true), .mov (.tmp 1)⟩,
    ⟨some 36, some (34, true), .lenS (.tmp 35)⟩,
    ⟨some 37, some (34, true), .bin .eql 3 (.tmp 36) (.const (.int .i64 8))⟩,
    ⟨some 38, none, .pick (.tmp 34) (.tmp 37) (.const (.bool false))⟩,
    ⟨some 39, none, .mov (.tmp 38)⟩,
    ⟨some 40, some (39, true), .mov (.tmp 4)⟩,
    ⟨some 41, some (39, true), .bin .eql 59 (.tmp 40) (.const (.int .i64 0))⟩,
    ⟨some 42, none, .pick (.tmp 39) (.tmp 41) (.const (.bool false))⟩,
    ⟨some 43, none, .mov (.tmp 42)⟩,
    ⟨some 44, some (43, true), .mov (.tmp 3)⟩,
    ⟨some 45, some (43, true), .lenS (.tmp 44)⟩,
    ⟨some 46, some (43, true), .bin .eql 3 (.tmp 45) (.const (.int .i64 16))⟩,
    ⟨some 47, none, .pick (.tmp 43) (.tmp 46) (.const (.bool false))⟩,
    ⟨some 48, none, .mov (.tmp 47)⟩,
    ⟨some 49, some (48, true), .mov (.tmp 6)⟩,
    ⟨some 50, some (48, true), .bin .eql 59 (.tmp 49) (.const (.int .i64 0))⟩,
    ⟨some 51, none, .pick (.tmp 48) (.tmp 50) (.const (.bool false))⟩,
    ⟨some 52, none, .mov (.tmp 51)⟩,
    ⟨some 53, some (52, true), .mov (.tmp 5)⟩,
    ⟨some 54, some (52, true), .lenS (.tmp 53)⟩,
    ⟨some 55, some (52, true), .bin .eql 3 (.tmp 54) (.const (.int .i64 12))⟩,
    ⟨some 56, none, .pick (.tmp 52) (.tmp 55) (.const (.bool false))⟩,
    ⟨some 57, none, .mov (.tmp 56)⟩,
    ⟨some 58, some (57, true), .mov (.tmp 7)⟩,
    ⟨some 59, some (57, true), .lenS (.tmp 58)⟩,
    ⟨some 60, some (57, true), .bin .eql 3 (.tmp 59) (.const (.int .i64 1))⟩,
    ⟨some 61, none, .pick (.tmp 57) (.tmp 60) (.const (.bool false))⟩,
    ⟨some 62, none, .mov (.tmp 61)⟩,
    ⟨some 63, some (62, true), .mov (.tmp 8)⟩,
    ⟨some 64, some (62, true), .bin .eql 3 (.tmp 63) (.const (.int .i64 8))⟩,
    ⟨some 65, none, .pick (.tmp 62) (.tmp 64) (.const (.bool false))⟩,
    ⟨some 0, none, .mov (.tmp 65)⟩]
def R20_6 : RC := .seq R20_5 (.ret)
def R20_7 : RC := .seq R20_4 R20_6
def R20_8 : RC := .seq R20_3 R20_7
def R20_9 : RC := .seq R20_2 R20_8
def R20_10 : RC := .seq R20_1 R20_9
def R20_11 : RC := .seq R20_0 R20_10

-- 21: (*lectern/wal.Log).Append
def R21_0 : RC := .reg [⟨some 6, none, .mov (.const (.int .i64 0))⟩]
def R21_1 : RC := .reg [⟨some 12, none, .mov (.tmp 0)⟩,
    ⟨some 13, none, .call 50 [(.tmp 12)]⟩,
    ⟨some 14, none, .un .not (.tmp 13)⟩]
def R21_2 : RC := .reg [⟨some 6, none, .mov (.const (.int .i64 170))⟩]
def R21_3 : RC := .seq R21_2 (.ret)
def R21_4 : RC := .cond (.tmp 14) R21_3 (.skip)
def R21_5 : RC := .seq R21_1 R21_4
def R21_6 : RC := .reg [⟨some 16, none, .mov (.tmp 0)⟩,
    ⟨some 17, none, .nilck (.tmp 16)⟩,
    ⟨some 18, none, .faddr 4 (.tmp 17)⟩,
    ⟨some 19, none, .load1 (.tmp 18)⟩,
    ⟨some 20, none, .mov (.tmp 1)⟩,
    ⟨some 21, none, .call 48 [(.tmp 19), (.tmp 20)]⟩,
    ⟨some 15, none, .mov (.tmp 21)⟩,
    ⟨some 22, none, .extr (.tmp 15) 0⟩,
    ⟨some 23, none, .extr (.tmp 15) 1⟩,
    ⟨some 7, none, .mov (.tmp 22)⟩,
    ⟨some 8, none, .mov (.tmp 23)⟩]
def R21_7 : RC := .reg [⟨some 24, none, .mov (.tmp 8)⟩,
    ⟨some 25, none, .bin .neq 59 (.tmp 24) (.const (.int .i64 0))⟩]
def R21_8 : RC := .reg [⟨some 26, none, .mov (.tmp 8)⟩,
    ⟨some 6, none, .mov (.tmp 26)⟩]
def R21_9 : RC := .seq R21_8 (.ret)
def R21_10 : RC := .cond (.tmp 25) R21_9 (.skip)
def R21_11 : RC := .seq R21_7 R21_10
def R21_12 : RC := .reg [⟨some 27, none, .mov (.tmp 0)⟩,
    ⟨some 28, none, .nilck (.tmp 27)⟩,
    ⟨some 29, none, .faddr 5 (.tmp 28)⟩,
    ⟨some 30, none, .load1 (.tmp 29)⟩]
def R21_13 : RC := .draw [⟨some 31, none, .mov (.tmp 0)⟩,
    ⟨some 32, none, .nilck (.tmp 31)⟩,
    ⟨some 33, none, .faddr 1 (.tmp 32)⟩,
    ⟨some 34, none, .load1 (.tmp 33)⟩,
    ⟨some 35, none, .mov (.tmp 0)⟩,
    ⟨some 36, none, .nilck (.tmp 35)⟩,
    ⟨some 37, none, .faddr 2 (.tmp 36)⟩,
    ⟨some 38, none, .load1 (.tmp 37)⟩,
    ⟨some 39, none, .mov (.tmp 0)⟩,
    ⟨some 40, none, .nilck (.tmp 39)⟩,
    ⟨some 41, none, .faddr 4 (.tmp 40)⟩,
    ⟨some 42, none, .load1 (.tmp 41)⟩,
    ⟨some 43, none, .call 51 [(.tmp 34), (.tmp 38), (.tmp 42)]⟩,
    ⟨some 9, none, .mov (.tmp 43)⟩] [[⟨0, ⟨some 31, none, .mov (.tmp 0)⟩, false, []⟩,
    ⟨1, ⟨some 32, none, .nilck (.tmp 31)⟩, false, []⟩,
    ⟨2, ⟨some 33, none, .faddr 1 (.tmp 32)⟩, false, []⟩,
    ⟨3, ⟨some 34, none, .load1 (.tmp 33)⟩, true, []⟩,
    ⟨4, ⟨some 35, none, .mov (.tmp 0)⟩, false, []⟩,
    ⟨5, ⟨some 36, none, .nilck (.tmp 35)⟩, false, []⟩,
    ⟨6, ⟨some 37, none, .faddr 2 (.tmp 36)⟩, false, []⟩,
    ⟨7, ⟨some 38, none, .load1 (.tmp 37)⟩, true, []⟩,
    ⟨8, ⟨some 39, none, .mov (.tmp 0)⟩, false, []⟩,
    ⟨9, ⟨some 40, none, .nilck (.tmp 39)⟩, false, []⟩,
    ⟨10, ⟨some 41, none, .faddr 4 (.tmp 40)⟩, false, []⟩,
    ⟨11, ⟨some 42, none, .load1 (.tmp 41)⟩, true, []⟩],
   [⟨12, ⟨some 43, none, .call 51 [(.tmp 34), (.tmp 38), (.tmp 42)]⟩, false, []⟩],
   [⟨13, ⟨some 9, none, .mov (.tmp 43)⟩, false, []⟩]]
def R21_14 : RC := .reg [⟨some 44, none, .mov (.tmp 9)⟩,
    ⟨some 45, none, .bin .neq 59 (.tmp 44) (.const (.int .i64 0))⟩]
def R21_15 : RC := .reg [⟨some 46, none, .mov (.tmp 9)⟩,
    ⟨some 6, none, .mov (.tmp 46)⟩]
def R21_16 : RC := .seq R21_15 (.ret)
def R21_17 : RC := .cond (.tmp 45) R21_16 (.skip)
def R21_18 : RC := .seq R21_14 R21_17
def R21_19 : RC := .seq R21_13 R21_18
def R21_20 : RC := .cond (.tmp 30) R21_19 (.skip)
def R21_21 : RC := .seq R21_12 R21_20
def R21_22 : RC := .reg [⟨some 47, none, .mov (.tmp 0)⟩,
    ⟨some 48, none, .nilck (.tmp 47)⟩,
    ⟨some 49, none, .faddr 5 (.tmp 48)⟩,
    ⟨none, none, .store 1 (.tmp 49) (.const (.bool true))⟩]
def R21_23 : RC := .draw [⟨some 50, none, .mov (.tmp 0)⟩,
    ⟨some 51, none, .nilck (.tmp 50)⟩,
    ⟨some 52, none, .faddr 1 (.tmp 51)⟩,
    ⟨some 53, none, .load1 (.tmp 52)⟩,
    ⟨some 54, none, .mov (.tmp 0)⟩,
    ⟨some 55, none, .nilck (.tmp 54)⟩,
    ⟨some 56, none, .faddr 2 (.tmp 55)⟩,
    ⟨some 57, none, .load1 (.tmp 56)⟩,
    ⟨some 58, none, .mov (.tmp 7)⟩,
    ⟨some 59, none, .call 52 [(.tmp 53), (.tmp 57), (.tmp 58)]⟩,
    ⟨some 10, none, .mov (.tmp 59)⟩] [[⟨0, ⟨some 50, none, .mov (.tmp 0)⟩, false, []⟩,
    ⟨1, ⟨some 51, none, .nilck (.tmp 50)⟩, false, []⟩,
    ⟨2, ⟨some 52, none, .faddr 1 (.tmp 51)⟩, false, []⟩,
    ⟨3, ⟨some 53, none, .load1 (.tmp 52)⟩, true, []⟩,
    ⟨4, ⟨some 54, none, .mov (.tmp 0)⟩, false, []⟩,
    ⟨5, ⟨some 55, none, .nilck (.tmp 54)⟩, false, []⟩,
    ⟨6, ⟨some 56, none, .faddr 2 (.tmp 55)⟩, false, []⟩,
    ⟨7, ⟨some 57, none, .load1 (.tmp 56)⟩, true, []⟩,
    ⟨8, ⟨some 58, none, .mov (.tmp 7)⟩, false, []⟩],
   [⟨9, ⟨some 59, none, .call 52 [(.tmp 53), (.tmp 57), (.tmp 58)]⟩, false, []⟩],
   [⟨10, ⟨some 10, none, .mov (.tmp 59)⟩, false, []⟩]]
def R21_24 : RC := .reg [⟨some 60, none, .mov (.tmp 10)⟩,
    ⟨some 61, none, .bin .neq 59 (.tmp 60) (.const (.int .i64 0))⟩]
def R21_25 : RC := .reg [⟨some 62, none, .mov (.tmp 10)⟩,
    ⟨some 6, none, .mov (.tmp 62)⟩]
def R21_26 : RC := .seq R21_25 (.ret)
def R21_27 : RC := .cond (.tmp 61) R21_26 (.skip)
def R21_28 : RC := .seq R21_24 R21_27
def R21_29 : RC := .seq R21_23 R21_28
def R21_30 : RC := .reg [⟨some 63, none, .mov (.tmp 2)⟩]
def R21_31 : RC := .draw [⟨some 64, none, .mov (.tmp 0)⟩,
    ⟨some 65, none, .nilck (.tmp 64)⟩,
    ⟨some 66, none, .faddr 1 (.tmp 65)⟩,
    ⟨some 67, none, .load1 (.tmp 66)⟩,
    ⟨some 68, none, .mov (.tmp 0)⟩,
    ⟨some 69, none, .nilck (.tmp 68)⟩,
    ⟨some 70, none, .faddr 2 (.tmp 69)⟩,
    ⟨some 71, none, .load1 (.tmp 70)⟩,
    ⟨some 72, none, .call 53 [(.tmp 67), (.tmp 71)]⟩,
    ⟨some 11, none, .mov (.tmp 72)⟩] [[⟨0, ⟨some 64, none, .mov (.tmp 0)⟩, false, []⟩,
    ⟨1, ⟨some 65, none, .nilck (.tmp 64)⟩, false, []⟩,
    ⟨2, ⟨some 66, none, .faddr 1 (.tmp 65)⟩, false, []⟩,
    ⟨3, ⟨some 67, none, .load1 (.tmp 66)⟩, true, []⟩,
    ⟨4, ⟨some 68, none, .mov (.tmp 0)⟩, false, []⟩,
    ⟨5, ⟨some 69, none, .nilck (.tmp 68)⟩, false, []⟩,
    ⟨6, ⟨some 70, none, .faddr 2 (.tmp 69)⟩, false, []⟩,
    ⟨7, ⟨some 71, none, .load1 (.tmp 70)⟩, true, []⟩],
   [⟨8, ⟨some 72, none, .call 53 [(.tmp 67), (.tmp 71)]⟩, false, []⟩],
   [⟨9, ⟨some 11, none, .mov (.tmp 72)⟩, false, []⟩]]
def R21_32 : RC := .reg [⟨some 73, none, .mov (.tmp 11)⟩,
    ⟨some 74, none, .bin .neq 59 (.tmp 73) (.const (.int .i64 0))⟩]
def R21_33 : RC := .reg [⟨some 75, none, .mov (.tmp 11)⟩,
    ⟨some 6, none, .mov (.tmp 75)⟩]
def R21_34 : RC := .seq R21_33 (.ret)
def R21_35 : RC := .cond (.tmp 74) R21_34 (.skip)
def R21_36 : RC := .seq R21_32 R21_35
def R21_37 : RC := .seq R21_31 R21_36
def R21_38 : RC := .cond (.tmp 63) R21_37 (.skip)
def R21_39 : RC := .seq R21_30 R21_38
def R21_40 : RC := .reg [⟨some 76, none, .mov (.tmp 0)⟩,
    ⟨some 77, none, .nilck (.tmp 76)⟩,
    ⟨some 78, none, .faddr 5 (.tmp 77)⟩,
    ⟨none, none, .store 1 (.tmp 78) (.const (.bool false))⟩]
def R21_41 : RC := .draw [⟨some 79, none, .mov (.tmp 0)⟩,
    ⟨some 80, none, .mov (.tmp 0)⟩,
    ⟨some 81, none, .mov (.tmp 0)⟩,
    ⟨some 82, none, .nilck (.tmp 81)⟩,
    ⟨some 83, none, .faddr 3 (.tmp 82)⟩,
    ⟨some 84, none, .load1 (.tmp 83)⟩,
    ⟨some 85, none, .mov (.tmp 1)⟩,
    ⟨some 86, none, .call 41 [(.tmp 85)]⟩,
    ⟨some 87, none, .mkSl 22 1 1 #[.slice none 0 0] [(0, (.tmp 86))]⟩,
    ⟨some 88, none, .app 22 1 24 (.slice none 0 0) (.tmp 84) (.tmp 87)⟩,
    ⟨some 89, none, .mov (.tmp 0)⟩,
    ⟨some 90, none, .nilck (.tmp 89)⟩,
    ⟨some 91, none, .faddr 4 (.tmp 90)⟩,
    ⟨some 92, none, .load1 (.tmp 91)⟩,
    ⟨some 93, none, .mov (.tmp 7)⟩,
    ⟨some 94, none, .lenS (.tmp 93)⟩,
    ⟨some 95, none, .bin .add 3 (.tmp 92) (.tmp 94)⟩,
    ⟨some 96, none, .nilck (.tmp 79)⟩,
    ⟨some 97, none, .faddr 3 (.tmp 96)⟩,
    ⟨none, none, .store 1 (.tmp 97) (.tmp 88)⟩,
    ⟨some 98, none, .nilck (.tmp 80)⟩,
    ⟨some 99, none, .faddr 4 (.tmp 98)⟩,
    ⟨none, none, .store 1 (.tmp 99) (.tmp 95)⟩] [[⟨0, ⟨some 79, none, .mov (.tmp 0)⟩, false, []⟩,
    ⟨1, ⟨some 80, none, .mov (.tmp 0)⟩, false, []⟩,
    ⟨2, ⟨some 81, none, .mov (.tmp 0)⟩, false, []⟩,
    ⟨3, ⟨some 82, none, .nilck (.tmp 81)⟩, false, []⟩,
    ⟨4, ⟨some 83, none, .faddr 3 (.tmp 82)⟩, false, []⟩,
    ⟨5, ⟨some 84, none, .load1 (.tmp 83)⟩, true, []⟩,
    ⟨6, ⟨some 85, none, .mov (.tmp 1)⟩, false, []⟩,
    ⟨10, ⟨some 89, none, .mov (.tmp 0)⟩, false, []⟩,
    ⟨11, ⟨some 90, none, .nilck (.tmp 89)⟩, false, []⟩,
    ⟨12, ⟨some 91, none, .faddr 4 (.tmp 90)⟩, false, []⟩,
    ⟨13, ⟨some 92, none, .load1 (.tmp 91)⟩, true, []⟩,
    ⟨14, ⟨some 93, none, .mov (.tmp 7)⟩, false, []⟩,
    ⟨15, ⟨some 94, none, .lenS (.tmp 93)⟩, false, []⟩,
    ⟨16, ⟨some 95, none, .bin .add 3 (.tmp 92) (.tmp 94)⟩, false, []⟩,
    ⟨7, ⟨some 86, none, .call 41 [(.tmp 85)]⟩, false, [5, 8, 13]⟩,
    ⟨8, ⟨some 87, none, .mkSl 22 1 1 #[.slice none 0 0] [(0, (.tmp 86))]⟩, false, []⟩,
    ⟨9, ⟨some 88, none, .app 22 1 24 (.slice none 0 0) (.tmp 84) (.tmp 87)⟩, false, [13]⟩,
    ⟨17, ⟨some 96, none, .nilck (.tmp 79)⟩, false, []⟩,
    ⟨18, ⟨some 97, none, .faddr 3 (.tmp 96)⟩, false, []⟩,
    ⟨19, ⟨none, none, .store 1 (.tmp 97) (.tmp 88)⟩, false, []⟩],
   [⟨20, ⟨some 98, none, .nilck (.tmp 80)⟩, false, []⟩],
   [⟨21, ⟨some 99, none, .faddr 4 (.tmp 98)⟩, false, []⟩],
   [⟨22, ⟨none, none, .store 1 (.tmp 99) (.tmp 95)⟩, false, []⟩]]
def R21_42 : RC := .reg [⟨some 6, none, .mov (.const (.int .i64 0))⟩]
def R21_43 : RC := .seq R21_42 (.ret)
def R21_44 : RC := .seq R21_41 R21_43
def R21_45 : RC := .seq R21_40 R21_44
def R21_46 : RC := .seq R21_39 R21_45
def R21_47 : RC := .seq R21_29 R21_46
def R21_48 : RC := .seq R21_22 R21_47
def R21_49 : RC := .seq R21_21 R21_48
def R21_50 : RC := .seq R21_11 R21_49
def R21_51 : RC := .seq R21_6 R21_50
def R21_52 : RC := .seq R21_5 R21_51
def R21_53 : RC := .seq R21_0 R21_52

-- 22: (*lectern/wal.Log).Sync
def R22_0 : RC := .reg [⟨some 2, none, .mov (.const (.int .i64 0))⟩]
def R22_1 : RC := .reg [⟨some 4, none, .mov (.tmp 0)⟩,
    ⟨some 5, none, .call 50 [(.tmp 4)]⟩,
    ⟨some 6, none, .un .not (.tmp 5)⟩]
def R22_2 : RC := .reg [⟨some 2, none, .mov (.const (.int .i64 170))⟩]
def R22_3 : RC := .seq R22_2 (.ret)
def R22_4 : RC := .cond (.tmp 6) R22_3 (.skip)
def R22_5 : RC := .seq R22_1 R22_4
def R22_6 : RC := .draw [⟨some 7, none, .mov (.tmp 0)⟩,
    ⟨some 8, none, .nilck (.tmp 7)⟩,
    ⟨some 9, none, .faddr 1 (.tmp 8)⟩,
    ⟨some 10, none, .load1 (.tmp 9)⟩,
    ⟨some 11, none, .mov (.tmp 0)⟩,
    ⟨some 12, none, .nilck (.tmp 11)⟩,
    ⟨some 13, none, .faddr 2 (.tmp 12)⟩,
    ⟨some 14, none, .load1 (.tmp 13)⟩,
    ⟨some 15, none, .call 53 [(.tmp 10), (.tmp 14)]⟩,
    ⟨some 3, none, .mov (.tmp 15)⟩] [[⟨0, ⟨some 7, none, .mov (.tmp 0)⟩, false, []⟩,
    ⟨1, ⟨some 8, none, .nilck (.tmp 7)⟩, false, []⟩,
    ⟨2, ⟨some 9, none, .faddr 1 (.tmp 8)⟩, false, []⟩,
    ⟨3, ⟨some 10, none, .load1 (.tmp 9)⟩, true, []⟩,
    ⟨4, ⟨some 11, none, .mov (.tmp 0)⟩, false, []⟩,
    ⟨5, ⟨some 12, none, .nilck (.tmp 11)⟩, false, []⟩,
    ⟨6, ⟨some 13, none, .faddr 2 (.tmp 12)⟩, false, []⟩,
    ⟨7, ⟨some 14, none, .load1 (.tmp 13)⟩, true, []⟩],
   [⟨8, ⟨some 15, none, .call 53 [(.tmp 10), (.tmp 14)]⟩, false, []⟩],
   [⟨9, ⟨some 3, none, .mov (.tmp 15)⟩, false, []⟩]]
def R22_7 : RC := .reg [⟨some 16, none, .mov (.tmp 0)⟩,
    ⟨some 17, none, .mov (.tmp 0)⟩,
    ⟨some 18, none, .nilck (.tmp 17)⟩,
    ⟨some 19, none, .faddr 5 (.tmp 18)⟩,
    ⟨some 20, none, .load1 (.tmp 19)⟩,
    ⟨some 21, none, .mov (.tmp 20)⟩,
    ⟨some 22, some (21, false), .mov (.tmp 3)⟩,
    ⟨some 23, some (21, false), .bin .neq 59 (.tmp 22) (.const (.int .i64 0))⟩,
    ⟨some 24, none, .pick (.tmp 21) (.const (.bool true)) (.tmp 23)⟩,
    ⟨some 25, none, .nilck (.tmp 16)⟩,
    ⟨some 26, none, .faddr 5 (.tmp 25)⟩,
    ⟨none, none, .store 1 (.tmp 26) (.tmp 24)⟩]
def R22_8 : RC := .reg [⟨some 27, none, .mov (.tmp 3)⟩,
    ⟨some 2, none, .mov (.tmp 27)⟩]
def R22_9 : RC := .seq R22_8 (.ret)
def R22_10 : RC := .seq R22_7 R22_9
def R22_11 : RC := .seq R22_6 R22_10
def R22_12 : RC := .seq R22_5 R22_11
def R22_13 : RC := .seq R22_0 R22_12

-- 23: (*lectern/wal.Log).Records
def R23_0 : RC := .reg [⟨some 2, none, .mov (.const (.slice none 0 0))⟩]
def R23_1 : RC := .reg [⟨some 3, none, .newv 28 (.slice none 0 0)⟩]
def R23_2 : RC := .reg [⟨some 6, none, .mov (.tmp 0)⟩,
    ⟨some 7, none, .call 27 [(.tmp 6)]⟩]
def R23_3 : RC := .reg [⟨some 5, none, .mov (.tmp 9)⟩]
def R23_4 : RC := .reg [⟨some 10, none, .load1 (.tmp 3)⟩,
    ⟨some 11, none, .mov (.tmp 5)⟩,
    ⟨some 12, none, .mkSl 22 1 1 #[.slice none 0 0] [(0, (.tmp 11))]⟩,
    ⟨some 13, none, .app 22 1 24 (.slice none 0 0) (.tmp 10) (.tmp 12)⟩,
    ⟨none, none, .store 1 (.tmp 3) (.tmp 13)⟩]
def R23_5 : RC := .block 1 R23_4
def R23_6 : RC := .range (.tmp 7) #[8, 9] R23_3 R23_5
def R23_7 : RC := .block 0 R23_6
def R23_8 : RC := .seq R23_2 R23_7
def R23_9 : RC := .reg [⟨some 14, none, .load1 (.tmp 3)⟩,
    ⟨some 2, none, .mov (.tmp 14)⟩]
def R23_10 : RC := .seq R23_9 (.ret)
def R23_11 : RC := .seq R23_8 R23_10
def R23_12 : RC := .seq R23_1 R23_11
def R23_13 : RC := .seq R23_0 R23_12

-- 24: (*lectern/wal.Log).Count
def R24_0 : RC := .reg [⟨some 2, none, .mov (.const (.int .i64 0))⟩]
def R24_1 : RC := .reg [⟨some 3, none, .mov (.tmp 0)⟩,
    ⟨some 4, none, .call 50 [(.tmp 3)]⟩,
    ⟨some 5, none, .un .not (.tmp 4)⟩]
def R24_2 : RC := .reg [⟨some 2, none, .mov (.const (.int .i64 0))⟩]
def R24_3 : RC := .seq R24_2 (.ret)
def R24_4 : RC := .cond (.tmp 5) R24_3 (.skip)
def R24_5 : RC := .seq R24_1 R24_4
def R24_6 : RC := .reg [⟨some 6, none, .mov (.tmp 0)⟩,
    ⟨some 7, none, .nilck (.tmp 6)⟩,
    ⟨some 8, none, .faddr 3 (.tmp 7)⟩,
    ⟨some 9, none, .load1 (.tmp 8)⟩,
    ⟨some 10, none, .lenS (.tmp 9)⟩,
    ⟨some 2, none, .mov (.tmp 10)⟩]
def R24_7 : RC := .seq R24_6 (.ret)
def R24_8 : RC := .seq R24_5 R24_7
def R24_9 : RC := .seq R24_0 R24_8

-- 25: (*lectern/wal.Log).Size
def R25_0 : RC := .reg [⟨some 2, none, .mov (.const (.int .i64 0))⟩]
def R25_1 : RC := .reg [⟨some 3, none, .mov (.tmp 0)⟩,
    ⟨some 4, none, .call 50 [(.tmp 3)]⟩,
    ⟨some 5, none, .un .not (.tmp 4)⟩]
def R25_2 : RC := .reg [⟨some 2, none, .mov (.const (.int .i64 0))⟩]
def R25_3 : RC := .seq R25_2 (.ret)
def R25_4 : RC := .cond (.tmp 5) R25_3 (.skip)
def R25_5 : RC := .seq R25_1 R25_4
def R25_6 : RC := .reg [⟨some 6, none, .mov (.tmp 0)⟩,
    ⟨some 7, none, .nilck (.tmp 6)⟩,
    ⟨some 8, none, .faddr 4 (.tmp 7)⟩,
    ⟨some 9, none, .load1 (.tmp 8)⟩,
    ⟨some 2, none, .mov (.tmp 9)⟩]
def R25_7 : RC := .seq R25_6 (.ret)
def R25_8 : RC := .seq R25_5 R25_7
def R25_9 : RC := .seq R25_0 R25_8

-- 26: (*lectern/wal.Log).Name
def R26_0 : RC := .reg [⟨some 2, none, .mov (.const (.string ⟨#[]⟩))⟩]
def R26_1 : RC := .reg [⟨some 3, none, .mov (.tmp 0)⟩,
    ⟨some 4, none, .call 50 [(.tmp 3)]⟩,
    ⟨some 5, none, .un .not (.tmp 4)⟩]
def R26_2 : RC := .reg [⟨some 2, none, .mov (.const (.string ⟨#[]⟩))⟩]
def R26_3 : RC := .seq R26_2 (.ret)
def R26_4 : RC := .cond (.tmp 5) R26_3 (.skip)
def R26_5 : RC := .seq R26_1 R26_4
def R26_6 : RC := .reg [⟨some 6, none, .mov (.tmp 0)⟩,
    ⟨some 7, none, .nilck (.tmp 6)⟩,
    ⟨some 8, none, .faddr 2 (.tmp 7)⟩,
    ⟨some 9, none, .load1 (.tmp 8)⟩,
    ⟨some 2, none, .mov (.tmp 9)⟩]
def R26_7 : RC := .seq R26_6 (.ret)
def R26_8 : RC := .seq R26_5 R26_7
def R26_9 : RC := .seq R26_0 R26_8

-- 27: (*lectern/wal.Log).Each
def R27_0 : RC := .reg [⟨some 1, none, .box 54 (.tmp 0)⟩,
    ⟨some 2, none, .mov (.const (.nilFunc))⟩]
def R27_1 : RC := .reg [⟨some 3, none, .mkFn (.func 54) [] [(.tmp 1)]⟩,
    ⟨some 2, none, .mov (.tmp 3)⟩]
def R27_2 : RC := .seq R27_1 (.ret)
def R27_3 : RC := .seq R27_0 R27_2

-- 28: lectern/wal.Create
def R28_0 : RC := .reg [⟨some 4, none, .mov (.const (.pointer none))⟩,
    ⟨some 5, none, .mov (.const (.int .i64 0))⟩]
def R28_1 : RC := .reg [⟨some 9, none, .mov (.tmp 0)⟩,
    ⟨some 10, none, .mov (.tmp 1)⟩,
    ⟨some 11, none, .call 55 [(.tmp 9), (.tmp 10)]⟩,
    ⟨some 6, none, .mov (.tmp 11)⟩]
def R28_2 : RC := .reg [⟨some 12, none, .mov (.tmp 6)⟩,
    ⟨some 13, none, .bin .neq 59 (.tmp 12) (.const (.int .i64 0))⟩]
def R28_3 : RC := .reg [⟨some 14, none, .mov (.tmp 6)⟩,
    ⟨some 4, none, .mov (.const (.pointer none))⟩,
    ⟨some 5, none, .mov (.tmp 14)⟩]
def R28_4 : RC := .seq R28_3 (.ret)
def R28_5 : RC := .cond (.tmp 13) R28_4 (.skip)
def R28_6 : RC := .seq R28_2 R28_5
def R28_7 : RC := .seq R28_1 R28_6
def R28_8 : RC := .reg [⟨some 15, none, .mov (.tmp 0)⟩,
    ⟨some 16, none, .mov (.tmp 1)⟩,
    ⟨some 17, none, .call 53 [(.tmp 15), (.tmp 16)]⟩,
    ⟨some 7, none, .mov (.tmp 17)⟩]
def R28_9 : RC := .reg [⟨some 18, none, .mov (.tmp 7)⟩,
    ⟨some 19, none, .bin .neq 59 (.tmp 18) (.const (.int .i64 0))⟩]
def R28_10 : RC := .reg [⟨some 20, none, .mov (.tmp 7)⟩,
    ⟨some 4, none, .mov (.const (.pointer none))⟩,
    ⟨some 5, none, .mov (.tmp 20)⟩]
def R28_11 : RC := .seq R28_10 (.ret)
def R28_12 : RC := .cond (.tmp 19) R28_11 (.skip)
def R28_13 : RC := .seq R28_9 R28_12
def R28_14 : RC := .seq R28_8 R28_13
def R28_15 : RC := .reg [⟨some 21, none, .mov (.tmp 0)⟩,
    ⟨some 22, none, .call 56 [(.tmp 21)]⟩,
    ⟨some 8, none, .mov (.tmp 22)⟩]
def R28_16 : RC := .reg [⟨some 23, none, .mov (.tmp 8)⟩,
    ⟨some 24, none, .bin .neq 59 (.tmp 23) (.const (.int .i64 0))⟩]
def R28_17 : RC := .reg [⟨some 25, none, .mov (.tmp 8)⟩,
    ⟨some 4, none, .mov (.const (.pointer none))⟩,
    ⟨some 5, none, .mov (.tmp 25)⟩]
def R28_18 : RC := .seq R28_17 (.ret)
def R28_19 : RC := .cond (.tmp 24) R28_18 (.skip)
def R28_20 : RC := .seq R28_16 R28_19
def R28_21 : RC := .seq R28_15 R28_20
def R28_22 : RC := .reg [⟨some 26, none, .mov (.tmp 0)⟩,
    ⟨some 27, none, .mov (.tmp 1)⟩,
    ⟨some 28, none, .build [(0, 1), (1, 1), (2, 1), (3, 1), (4, 1), (5, 1)] #[.int .i64 0, .pointer none, .string ⟨#[]⟩, .slice none 0 0, .int .i64 0, .bool false] [(0, (.const (.int .i64 1))), (1, (.tmp 26)), (2, (.tmp 27))]⟩,
    ⟨some 29, none, .box 57 (.tmp 28)⟩,
    ⟨some 4, none, .mov (.tmp 29)⟩,
    ⟨some 5, none, .mov (.const (.int .i64 0))⟩]
def R28_23 : RC := .seq R28_22 (.ret)
def R28_24 : RC := .seq R28_21 R28_23
def R28_25 : RC := .seq R28_14 R28_24
def R28_26 : RC := .seq R28_7 R28_25
def R28_27 : RC := .seq R28_0 R28_26

-- 29: lectern/wal.Open
def R29_0 : RC := .reg [⟨some 4, none, .mov (.const (.pointer none))⟩,
    ⟨some 5, none, .mov (.const (.int .i64 0))⟩]
def R29_1 : RC := .reg [⟨some 13, none, .mov (.tmp 0)⟩,
    ⟨some 14, none, .mov (.tmp 1)⟩,
    ⟨some 15, none, .call 57 [(.tmp 13), (.tmp 14)]⟩,
    ⟨some 12, none, .mov (.tmp 15)⟩,
    ⟨some 16, none, .extr (.tmp 12) 0⟩,
    ⟨some 17, none, .extr (.tmp 12) 1⟩,
    ⟨some 6, none, .mov (.tmp 16)⟩,
    ⟨some 7, none, .mov (.tmp 17)⟩]
def R29_2 : RC := .reg [⟨some 18, none, .mov (.tmp 7)⟩,
    ⟨some 19, none, .bin .neq 59 (.tmp 18) (.const (.int .i64 0))⟩]
def R29_3 : RC := .reg [⟨some 20, none, .mov (.tmp 7)⟩,
    ⟨some 4, none, .mov (.const (.pointer none))⟩,
    ⟨some 5, none, .mov (.tmp 20)⟩]
def R29_4 : RC := .seq R29_3 (.ret)
def R29_5 : RC := .cond (.tmp 19) R29_4 (.skip)
def R29_6 : RC := .seq R29_2 R29_5
def R29_7 : RC := .reg [⟨some 22, none, .mov (.tmp 0)⟩,
    ⟨some 23, none, .mov (.tmp 1)⟩,
    ⟨some 24, none, .mov (.tmp 6)⟩,
    ⟨some 25, none, .call 58 [(.tmp 22), (.tmp 23), (.const (.int .i64 0)), (.tmp 24)]⟩,
    ⟨some 21, none, .mov (.tmp 25)⟩,
    ⟨some 26, none, .extr (.tmp 21) 0⟩,
    ⟨some 27, none, .extr (.tmp 21) 1⟩,
    ⟨some 8, none, .mov (.tmp 26)⟩,
    ⟨some 7, none, .mov (.tmp 27)⟩]
def R29_8 : RC := .reg [⟨some 28, none, .mov (.tmp 7)⟩,
    ⟨some 29, none, .bin .neq 59 (.tmp 28) (.const (.int .i64 0))⟩]
def R29_9 : RC := .reg [⟨some 30, none, .mov (.tmp 7)⟩,
    ⟨some 4, none, .mov (.const (.pointer none))⟩,
    ⟨some 5, none, .mov (.tmp 30)⟩]
def R29_10 : RC := .seq R29_9 (.ret)
def R29_11 : RC := .cond (.tmp 29) R29_10 (.skip)
def R29_12 : RC := .seq R29_8 R29_11
def R29_13 : RC := .reg [⟨some 31, none, .mov (.tmp 0)⟩,
    ⟨some 32, none, .mov (.tmp 1)⟩,
    ⟨some 33, none, .build [(0, 1), (1, 1), (2, 1), (3, 1), (4, 1), (5, 1)] #[.int .i64 0, .pointer none, .string ⟨#[]⟩, .slice none 0 0, .int .i64 0, .bool false] [(0, (.const (.int .i64 1))), (1, (.tmp 31)), (2, (.tmp 32))]⟩,
    ⟨some 34, none, .box 57 (.tmp 33)⟩,
    ⟨some 9, none, .mov (.tmp 34)⟩]
def R29_14 : RC := .reg [⟨some 36, none, .mov (.tmp 9)⟩,
    ⟨some 37, none, .mov (.tmp 9)⟩,
    ⟨some 38, none, .mov (.tmp 8)⟩,
    ⟨some 39, none, .call 49 [(.tmp 38)]⟩,
    ⟨some 35, none, .mov (.tmp 39)⟩,
    ⟨some 40, none, .extr (.tmp 35) 0⟩,
    ⟨some 41, none, .extr (.tmp 35) 1⟩,
    ⟨some 42, none, .nilck (.tmp 36)⟩,
    ⟨some 43, none, .faddr 3 (.tmp 42)⟩,
    ⟨none, none, .store 1 (.tmp 43) (.tmp 40)⟩,
    ⟨some 44, none, .nilck (.tmp 37)⟩,
    ⟨some 45, none, .faddr 4 (.tmp 44)⟩,
    ⟨none, none, .store 1 (.tmp 45) (.tmp 41)⟩]
def R29_15 : RC := .reg [⟨some 46, none, .mov (.tmp 9)⟩,
    ⟨some 47, none, .nilck (.tmp 46)⟩,
    ⟨some 48, none, .faddr 4 (.tmp 47)⟩,
    ⟨some 49, none, .load1 (.tmp 48)⟩,
    ⟨some 50, none, .mov (.tmp 6)⟩,
    ⟨some 51, none, .bin .lss 3 (.tmp 49) (.tmp 50)⟩]
def R29_16 : RC := .reg [⟨some 52, none, .mov (.tmp 0)⟩,
    ⟨some 53, none, .mov (.tmp 1)⟩,
    ⟨some 54, none, .mov (.tmp 9)⟩,
    ⟨some 55, none, .nilck (.tmp 54)⟩,
    ⟨some 56, none, .faddr 4 (.tmp 55)⟩,
    ⟨some 57, none, .load1 (.tmp 56)⟩,
    ⟨some 58, none, .call 51 [(.tmp 52), (.tmp 53), (.tmp 57)]⟩,
    ⟨some 10, none, .mov (.tmp 58)⟩]
def R29_17 : RC := .reg [⟨some 59, none, .mov (.tmp 10)⟩,
    ⟨some 60, none, .bin .neq 59 (.tmp 59) (.const (.int .i64 0))⟩]
def R29_18 : RC := .reg [⟨some 61, none, .mov (.tmp 10)⟩,
    ⟨some 4, none, .mov (.const (.pointer none))⟩,
    ⟨some 5, none, .mov (.tmp 61)⟩]
def R29_19 : RC := .seq R29_18 (.ret)
def R29_20 : RC := .cond (.tmp 60) R29_19 (.skip)
def R29_21 : RC := .seq R29_17 R29_20
def R29_22 : RC := .seq R29_16 R29_21
def R29_23 : RC := .reg [⟨some 62, none, .mov (.tmp 0)⟩,
    ⟨some 63, none, .mov (.tmp 1)⟩,
    ⟨some 64, none, .call 53 [(.tmp 62), (.tmp 63)]⟩,
    ⟨some 11, none, .mov (.tmp 64)⟩]
def R29_24 : RC := .reg [⟨some 65, none, .mov (.tmp 11)⟩,
    ⟨some 66, none, .bin .neq 59 (.tmp 65) (.const (.int .i64 0))⟩]
def R29_25 : RC := .reg [⟨some 67, none, .mov (.tmp 11)⟩,
    ⟨some 4, none, .mov (.const (.pointer none))⟩,
    ⟨some 5, none, .mov (.tmp 67)⟩]
def R29_26 : RC := .seq R29_25 (.ret)
def R29_27 : RC := .cond (.tmp 66) R29_26 (.skip)
def R29_28 : RC := .seq R29_24 R29_27
def R29_29 : RC := .seq R29_23 R29_28
def R29_30 : RC := .seq R29_22 R29_29
def R29_31 : RC := .cond (.tmp 51) R29_30 (.skip)
def R29_32 : RC := .seq R29_15 R29_31
def R29_33 : RC := .reg [⟨some 68, none, .mov (.tmp 9)⟩,
    ⟨some 4, none, .mov (.tmp 68)⟩,
    ⟨some 5, none, .mov (.const (.int .i64 0))⟩]
def R29_34 : RC := .seq R29_33 (.ret)
def R29_35 : RC := .seq R29_32 R29_34
def R29_36 : RC := .seq R29_14 R29_35
def R29_37 : RC := .seq R29_13 R29_36
def R29_38 : RC := .seq R29_12 R29_37
def R29_39 : RC := .seq R29_7 R29_38
def R29_40 : RC := .seq R29_6 R29_39
def R29_41 : RC := .seq R29_1 R29_40
def R29_42 : RC := .seq R29_0 R29_41

-- 48: lectern/wal.Encode
def R48_0 : RC := .reg [⟨some 4, none, .mov (.const (.slice none 0 0))⟩,
    ⟨some 5, none, .mov (.const (.int .i64 0))⟩]
def R48_1 : RC := .reg [⟨some 14, none, .mov (.tmp 0)⟩,
    ⟨some 15, none, .bin .lss 3 (.tmp 14) (.const (.int .i64 0))⟩]
def R48_2 : RC := .reg [⟨some 4, none, .mov (.const (.slice none 0 0))⟩,
    ⟨some 5, none, .mov (.const (.int .i64 1))⟩]
def R48_3 : RC := .seq R48_2 (.ret)
def R48_4 : RC := .cond (.tmp 15) R48_3 (.skip)
def R48_5 : RC := .seq R48_1 R48_4
def R48_6 : RC := .reg [⟨some 16, none, .mov (.tmp 1)⟩,
    ⟨some 17, none, .lenS (.tmp 16)⟩,
    ⟨some 18, none, .bin .gtr 3 (.tmp 17) (.const (.int .i64 1048576))⟩]
def R48_7 : RC := .reg [⟨some 4, none, .mov (.const (.slice none 0 0))⟩,
    ⟨some 5, none, .mov (.const (.int .i64 171))⟩]
def R48_8 : RC := .seq R48_7 (.ret)
def R48_9 : RC := .cond (.tmp 18) R48_8 (.skip)
def R48_10 : RC := .seq R48_6 R48_9
def R48_11 : RC := .reg [⟨some 19, none, .call 65 []⟩,
    ⟨some 6, none, .mov (.tmp 19)⟩]
def R48_12 : RC := .reg [⟨some 7, none, .mov (.const (.slice none 0 0))⟩]
def R48_13 : RC := .reg [⟨some 20, none, .mov (.tmp 0)⟩,
    ⟨some 21, none, .bin .rem 3 (.tmp 20) (.const (.int .i64 512))⟩,
    ⟨some 8, none, .mov (.tmp 21)⟩]
def R48_14 : RC := .reg [⟨some 9, none, .mov (.const (.bool true))⟩]
def R48_15 : RC := .reg [⟨some 22, none, .mov (.tmp 8)⟩,
    ⟨some 23, none, .bin .sub 3 (.const (.int .i64 512)) (.tmp 22)⟩,
    ⟨some 10, none, .mov (.tmp 23)⟩]
def R48_16 : RC := .reg [⟨some 24, none, .mov (.tmp 10)⟩,
    ⟨some 25, none, .bin .lss 3 (.tmp 24) (.const (.int .i64 7))⟩]
def R48_17 : RC := .reg [⟨some 26, none, .mov (.tmp 7)⟩,
    ⟨some 27, none, .mov (.tmp 10)⟩,
    ⟨some 28, none, .appZ 5 1 1 (.int .u8 0) (.tmp 26) (.tmp 27)⟩,
    ⟨some 7, none, .mov (.tmp 28)⟩]
def R48_18 : RC := .reg [⟨some 10, none, .mov (.const (.int .i64 512))⟩]
def R48_19 : RC := .seq R48_17 R48_18
def R48_20 : RC := .cond (.tmp 25) R48_19 (.skip)
def R48_21 : RC := .seq R48_16 R48_20
def R48_22 : RC := .reg [⟨some 29, none, .mov (.tmp 1)⟩,
    ⟨some 30, none, .lenS (.tmp 29)⟩,
    ⟨some 31, none, .mov (.tmp 10)⟩,
    ⟨some 32, none, .bin .sub 3 (.tmp 31) (.const (.int .i64 7))⟩,
    ⟨some 33, none, .bi .min #[3, 3] 3 #[false, false] [(.tmp 30), (.tmp 32)]⟩,
    ⟨some 11, none, .mov (.tmp 33)⟩]
def R48_23 : RC := .reg [⟨some 12, none, .mov (.const (.int .u8 3))⟩]
def R48_24 : RC := .reg [⟨some 34, none, .mov (.tmp 11)⟩,
    ⟨some 35, none, .mov (.tmp 1)⟩,
    ⟨some 36, none, .lenS (.tmp 35)⟩,
    ⟨some 37, none, .bin .eql 3 (.tmp 34) (.tmp 36)⟩,
    ⟨some 13, none, .mov (.tmp 37)⟩]
def R48_25 : RC := .reg [⟨some 39, none, .mov (.tmp 9)⟩,
    ⟨some 40, none, .mov (.tmp 39)⟩,
    ⟨some 41, some (40, true), .mov (.tmp 13)⟩,
    ⟨some 42, none, .pick (.tmp 40) (.tmp 41) (.const (.bool false))⟩,
    ⟨some 38, none, .mov (.tmp 42)⟩]
def R48_26 : RC := .reg [⟨some 12, none, .mov (.const (.int .u8 1))⟩]
def R48_27 : RC := .reg [⟨some 44, none, .mov (.tmp 9)⟩,
    ⟨some 43, none, .mov (.tmp 44)⟩]
def R48_28 : RC := .reg [⟨some 12, none, .mov (.const (.int .u8 2))⟩]
def R48_29 : RC := .reg [⟨some 46, none, .mov (.tmp 13)⟩,
    ⟨some 45, none, .mov (.tmp 46)⟩]
def R48_30 : RC := .reg [⟨some 12, none, .mov (.const (.int .u8 4))⟩]
def R48_31 : RC := .cond (.tmp 45) R48_30 (.skip)
def R48_32 : RC := .seq R48_29 R48_31
def R48_33 : RC := .cond (.tmp 43) R48_28 R48_32
def R48_34 : RC := .seq R48_27 R48_33
def R48_35 : RC := .cond (.tmp 38) R48_26 R48_34
def R48_36 : RC := .seq R48_25 R48_35
def R48_37 : RC := .block 2 R48_36
def R48_38 : RC := .seq R48_24 R48_37
def R48_39 : RC := .reg [⟨some 47, none, .mov (.tmp 7)⟩,
    ⟨some 48, none, .mov (.tmp 6)⟩,
    ⟨some 49, none, .mov (.tmp 12)⟩,
    ⟨some 50, none, .mov (.tmp 1)⟩,
    ⟨some 51, none, .mov (.tmp 11)⟩,
    ⟨some 52, none, .slcL 1 (.tmp 50) none (some (.tmp 51)) none⟩,
    ⟨some 53, none, .call 87 [(.tmp 48), (.tmp 49), (.tmp 52)]⟩,
    ⟨some 54, none, .app 5 1 1 (.int .u8 0) (.tmp 47) (.tmp 53)⟩,
    ⟨some 7, none, .mov (.tmp 54)⟩]
def R48_40 : RC := .reg [⟨some 55, none, .mov (.tmp 1)⟩,
    ⟨some 56, none, .mov (.tmp 11)⟩,
    ⟨some 57, none, .slcL 1 (.tmp 55) (some (.tmp 56)) none none⟩,
    ⟨some 1, none, .mov (.tmp 57)⟩]
def R48_41 : RC := .reg [⟨some 58, none, .mov (.tmp 10)⟩,
    ⟨some 59, none, .bin .sub 3 (.const (.int .i64 512)) (.tmp 58)⟩,
    ⟨some 60, none, .bin .add 3 (.tmp 59) (.const (.int .i64 7))⟩,
    ⟨some 61, none, .mov (.tmp 11)⟩,
    ⟨some 62, none, .bin .add 3 (.tmp 60) (.tmp 61)⟩,
    ⟨some 63, none, .bin .rem 3 (.tmp 62) (.const (.int .i64 512))⟩,
    ⟨some 8, none, .mov (.tmp 63)⟩]
def R48_42 : RC := .reg [⟨some 64, none, .mov (.tmp 12)⟩,
    ⟨some 65, none, .bin .eql 5 (.tmp 64) (.const (.int .u8 1))⟩,
    ⟨some 66, none, .mov (.tmp 65)⟩,
    ⟨some 67, some (66, false), .mov (.tmp 12)⟩,
    ⟨some 68, some (66, false), .bin .eql 5 (.tmp 67) (.const (.int .u8 4))⟩,
    ⟨some 69, none, .pick (.tmp 66) (.const (.bool true)) (.tmp 68)⟩]
def R48_43 : RC := .reg [⟨some 70, none, .mov (.tmp 7)⟩,
    ⟨some 4, none, .mov (.tmp 70)⟩,
    ⟨some 5, none, .mov (.const (.int .i64 0))⟩]
def R48_44 : RC := .seq R48_43 (.ret)
def R48_45 : RC := .cond (.tmp 69) R48_44 (.skip)
def R48_46 : RC := .seq R48_42 R48_45
def R48_47 : RC := .seq R48_41 R48_46
def R48_48 : RC := .seq R48_40 R48_47
def R48_49 : RC := .seq R48_39 R48_48
def R48_50 : RC := .seq R48_38 R48_49
def R48_51 : RC := .seq R48_23 R48_50
def R48_52 : RC := .seq R48_22 R48_51
def R48_53 : RC := .seq R48_21 R48_52
def R48_54 : RC := .seq R48_15 R48_53
def R48_55 : RC := .block 1 R48_54
def R48_56 : RC := .reg [⟨some 9, none, .mov (.const (.bool false))⟩]
def R48_57 : RC := .seq R48_55 R48_56
def R48_58 : RC := .loop R48_57
def R48_59 : RC := .block 0 R48_58
def R48_60 : RC := .seq R48_14 R48_59
def R48_61 : RC := .seq R48_13 R48_60
def R48_62 : RC := .seq R48_12 R48_61
def R48_63 : RC := .seq R48_11 R48_62
def R48_64 : RC := .seq R48_10 R48_63
def R48_65 : RC := .seq R48_5 R48_64
def R48_66 : RC := .seq R48_0 R48_65

-- 49: lectern/wal.Read
def R49_0 : RC := .reg [⟨some 2, none, .mov (.const (.slice none 0 0))⟩,
    ⟨some 3, none, .mov (.const (.int .i64 0))⟩]
def R49_1 : RC := .reg [⟨some 4, none, .newv 28 (.slice none 0 0)⟩]
def R49_2 : RC := .reg [⟨some 5, none, .newv 3 (.int .i64 0)⟩,
    ⟨none, none, .store 1 (.tmp 5) (.const (.int .i64 0))⟩]
def R49_3 : RC := .reg [⟨some 6, none, .newv 22 (.slice none 0 0)⟩]
def R49_4 : RC := .reg [⟨some 7, none, .newv 4 (.bool false)⟩,
    ⟨none, none, .store 1 (.tmp 7) (.const (.bool false))⟩]
def R49_5 : RC := .reg [⟨some 10, none, .mov (.tmp 0)⟩,
    ⟨some 11, none, .call 88 [(.tmp 10)]⟩]
def R49_6 : RC := .reg [⟨some 8, none, .newv 151 (.agg #[.int .u8 0, .slice none 0 0, .int .i64 0])⟩,
    ⟨none, none, .store 3 (.tmp 8) (.tmp 12)⟩]
def R49_7 : RC := .reg [⟨some 13, none, .faddr 0 (.tmp 8)⟩,
    ⟨some 14, none, .load1 (.tmp 13)⟩,
    ⟨some 15, none, .bin .eql 5 (.tmp 14) (.const (.int .u8 1))⟩,
    ⟨some 16, none, .mov (.tmp 15)⟩,
    ⟨some 17, some (16, false), .faddr 0 (.tmp 8)⟩,
    ⟨some 18, some (16, false), .load1 (.tmp 17)⟩,
    ⟨some 19, some (16, false), .bin .eql 5 (.tmp 18) (.const (.int .u8 2))⟩,
    ⟨some 20, none, .pick (.tmp 16) (.const (.bool true)) (.tmp 19)⟩,
    ⟨some 9, none, .mov (.tmp 20)⟩]
def R49_8 : RC := .reg [⟨some 21, none, .mov (.tmp 9)⟩,
    ⟨some 22, none, .load1 (.tmp 7)⟩,
    ⟨some 23, none, .eqB false (.tmp 21) (.tmp 22)⟩]
def R49_9 : RC := .cond (.tmp 23) (.exit 0) (.skip)
def R49_10 : RC := .seq R49_8 R49_9
def R49_11 : RC := .reg [⟨some 24, none, .mov (.tmp 9)⟩]
def R49_12 : RC := .reg [⟨some 25, none, .mkSl 5 1 0 #[] []⟩,
    ⟨none, none, .store 1 (.tmp 6) (.tmp 25)⟩]
def R49_13 : RC := .cond (.tmp 24) R49_12 (.skip)
def R49_14 : RC := .seq R49_11 R49_13
def R49_15 : RC := .reg [⟨some 26, none, .load1 (.tmp 6)⟩,
    ⟨some 27, none, .faddr 1 (.tmp 8)⟩,
    ⟨some 28, none, .load1 (.tmp 27)⟩,
    ⟨some 29, none, .app 5 1 1 (.int .u8 0) (.tmp 26) (.tmp 28)⟩,
    ⟨none, none, .store 1 (.tmp 6) (.tmp 29)⟩]
def R49_16 : RC := .reg [⟨some 30, none, .load1 (.tmp 6)⟩,
    ⟨some 31, none, .lenS (.tmp 30)⟩,
    ⟨some 32, none, .bin .gtr 3 (.tmp 31) (.const (.int .i64 1048576))⟩]
def R49_17 : RC := .cond (.tmp 32) (.exit 0) (.skip)
def R49_18 : RC := .seq R49_16 R49_17
def R49_19 : RC := .reg [⟨some 33, none, .faddr 0 (.tmp 8)⟩,
    ⟨some 34, none, .load1 (.tmp 33)⟩,
    ⟨some 35, none, .bin .eql 5 (.tmp 34) (.const (.int .u8 2))⟩,
    ⟨some 36, none, .mov (.tmp 35)⟩,
    ⟨some 37, some (36, false), .faddr 0 (.tmp 8)⟩,
    ⟨some 38, some (36, false), .load1 (.tmp 37)⟩,
    ⟨some 39, some (36, false), .bin .eql 5 (.tmp 38) (.const (.int .u8 3))⟩,
    ⟨some 40, none, .pick (.tmp 36) (.const (.bool true)) (.tmp 39)⟩,
    ⟨none, none, .store 1 (.tmp 7) (.tmp 40)⟩]
def R49_20 : RC := .reg [⟨some 41, none, .load1 (.tmp 7)⟩,
    ⟨some 42, none, .un .not (.tmp 41)⟩]
def R49_21 : RC := .reg [⟨some 43, none, .load1 (.tmp 4)⟩,
    ⟨some 44, none, .load1 (.tmp 6)⟩,
    ⟨some 45, none, .mkSl 22 1 1 #[.slice none 0 0] [(0, (.tmp 44))]⟩,
    ⟨some 46, none, .app 22 1 24 (.slice none 0 0) (.tmp 43) (.tmp 45)⟩,
    ⟨none, none, .store 1 (.tmp 4) (.tmp 46)⟩]
def R49_22 : RC := .reg [⟨some 47, none, .faddr 2 (.tmp 8)⟩,
    ⟨some 48, none, .load1 (.tmp 47)⟩,
    ⟨none, none, .store 1 (.tmp 5) (.tmp 48)⟩]
def R49_23 : RC := .seq R49_21 R49_22
def R49_24 : RC := .cond (.tmp 42) R49_23 (.skip)
def R49_25 : RC := .seq R49_20 R49_24
def R49_26 : RC := .seq R49_19 R49_25
def R49_27 : RC := .seq R49_18 R49_26
def R49_28 : RC := .seq R49_15 R49_27
def R49_29 : RC := .seq R49_14 R49_28
def R49_30 : RC := .seq R49_10 R49_29
def R49_31 : RC := .seq R49_7 R49_30
def R49_32 : RC := .block 1 R49_31
def R49_33 : RC := .range (.tmp 11) #[12] R49_6 R49_32
def R49_34 : RC := .block 0 R49_33
def R49_35 : RC := .seq R49_5 R49_34
def R49_36 : RC := .draw [⟨some 49, none, .load1 (.tmp 4)⟩,
    ⟨some 50, none, .load1 (.tmp 5)⟩,
    ⟨some 2, none, .mov (.tmp 49)⟩,
    ⟨some 3, none, .mov (.tmp 50)⟩] [[⟨0, ⟨some 49, none, .load1 (.tmp 4)⟩, true, []⟩,
    ⟨1, ⟨some 50, none, .load1 (.tmp 5)⟩, true, []⟩,
    ⟨2, ⟨some 2, none, .mov (.tmp 49)⟩, false, []⟩],
   [⟨3, ⟨some 3, none, .mov (.tmp 50)⟩, false, []⟩]]
def R49_37 : RC := .seq R49_36 (.ret)
def R49_38 : RC := .seq R49_35 R49_37
def R49_39 : RC := .seq R49_4 R49_38
def R49_40 : RC := .seq R49_3 R49_39
def R49_41 : RC := .seq R49_2 R49_40
def R49_42 : RC := .seq R49_1 R49_41
def R49_43 : RC := .seq R49_0 R49_42

-- 50: (*lectern/wal.Log).is
def R50_0 : RC := .reg [⟨some 2, none, .mov (.const (.bool false))⟩]
def R50_1 : RC := .reg [⟨some 3, none, .mov (.tmp 0)⟩,
    ⟨some 4, none, .eqP true (.tmp 3) (.const (.pointer none))⟩,
    ⟨some 5, none, .mov (.tmp 4)⟩,
    ⟨some 6, some (5, true), .mov (.tmp 0)⟩,
    ⟨some 7, some (5, true), .nilck (.tmp 6)⟩,
    ⟨some 8, some (5, true), .faddr 0 (.tmp 7)⟩,
    ⟨some 9, some (5, true), .load1 (.tmp 8)⟩,
    ⟨some 10, some (5, true), .bin .eql 3 (.tmp 9) (.const (.int .i64 1))⟩,
    ⟨some 11, none, .pick (.tmp 5) (.tmp 10) (.const (.bool false))⟩,
    ⟨some 2, none, .mov (.tmp 11)⟩]
def R50_2 : RC := .seq R50_1 (.ret)
def R50_3 : RC := .seq R50_0 R50_2

-- 51: (*lectern/fs.FS).Cut
def R51_0 : RC := .reg [⟨some 6, none, .mov (.const (.int .i64 0))⟩]
def R51_1 : RC := .reg [⟨some 12, none, .mov (.tmp 0)⟩,
    ⟨some 13, none, .call 89 [(.tmp 12)]⟩,
    ⟨some 11, none, .mov (.tmp 13)⟩,
    ⟨some 14, none, .extr (.tmp 11) 0⟩,
    ⟨some 15, none, .extr (.tmp 11) 1⟩,
    ⟨some 7, none, .mov (.tmp 14)⟩,
    ⟨some 8, none, .mov (.tmp 15)⟩]
def R51_2 : RC := .reg [⟨some 16, none, .mov (.tmp 8)⟩,
    ⟨some 17, none, .bin .neq 59 (.tmp 16) (.const (.int .i64 0))⟩]
def R51_3 : RC := .reg [⟨some 18, none, .mov (.tmp 8)⟩,
    ⟨some 6, none, .mov (.tmp 18)⟩]
def R51_4 : RC := .seq R51_3 (.ret)
def R51_5 : RC := .cond (.tmp 17) R51_4 (.skip)
def R51_6 : RC := .seq R51_2 R51_5
def R51_7 : RC := .seq R51_1 R51_6
def R51_8 : RC := .reg [⟨some 20, none, .mov (.tmp 0)⟩,
    ⟨some 21, none, .nilck (.tmp 20)⟩,
    ⟨some 22, none, .faddr 8 (.tmp 21)⟩,
    ⟨some 23, none, .load1 (.tmp 22)⟩,
    ⟨some 24, none, .mov (.tmp 1)⟩,
    ⟨some 25, none, .raw (.lookup 108 (.tmp 23) (.tmp 24) true) 154⟩,
    ⟨some 19, none, .mov (.tmp 25)⟩,
    ⟨some 26, none, .extr (.tmp 19) 0⟩,
    ⟨some 27, none, .extr (.tmp 19) 1⟩,
    ⟨some 9, none, .mov (.tmp 26)⟩,
    ⟨some 10, none, .mov (.tmp 27)⟩]
def R51_9 : RC := .reg [⟨some 29, none, .mov (.tmp 10)⟩,
    ⟨some 30, none, .un .not (.tmp 29)⟩,
    ⟨some 28, none, .mov (.tmp 30)⟩]
def R51_10 : RC := .reg [⟨some 6, none, .mov (.const (.int .i64 14))⟩]
def R51_11 : RC := .seq R51_10 (.ret)
def R51_12 : RC := .reg [⟨some 32, none, .mov (.tmp 2)⟩,
    ⟨some 33, none, .bin .lss 3 (.tmp 32) (.const (.int .i64 0))⟩,
    ⟨some 34, none, .mov (.tmp 33)⟩,
    ⟨some 35, some (34, false), .mov (.tmp 2)⟩,
    ⟨some 36, some (34, false), .mov (.tmp 9)⟩,
    ⟨some 37, some (34, false), .nilck (.tmp 36)⟩,
    ⟨some 38, some (34, false), .faddr 2 (.tmp 37)⟩,
    ⟨some 39, some (34, false), .load1 (.tmp 38)⟩,
    ⟨some 40, some (34, false), .lenS (.tmp 39)⟩,
    ⟨some 41, some (34, false), .bin .gtr 3 (.tmp 35) (.tmp 40)⟩,
    ⟨some 42, none, .pick (.tmp 34) (.const (.bool true)) (.tmp 41)⟩,
    ⟨some 31, none, .mov (.tmp 42)⟩]
def R51_13 : RC := .reg [⟨some 6, none, .mov (.const (.int .i64 1))⟩]
def R51_14 : RC := .seq R51_13 (.ret)
def R51_15 : RC := .reg [⟨some 44, none, .mov (.tmp 2)⟩,
    ⟨some 45, none, .mov (.tmp 9)⟩,
    ⟨some 46, none, .nilck (.tmp 45)⟩,
    ⟨some 47, none, .faddr 2 (.tmp 46)⟩,
    ⟨some 48, none, .load1 (.tmp 47)⟩,
    ⟨some 49, none, .lenS (.tmp 48)⟩,
    ⟨some 50, none, .bin .lss 3 (.tmp 44) (.tmp 49)⟩,
    ⟨some 43, none, .mov (.tmp 50)⟩]
def R51_16 : RC := .reg [⟨some 51, none, .mov (.tmp 9)⟩,
    ⟨some 52, none, .mov (.tmp 2)⟩,
    ⟨some 53, none, .build [(0, 1)] #[.int .i64 0] [(0, (.tmp 52))]⟩,
    ⟨some 54, none, .mkIf 160 (.tmp 53)⟩,
    ⟨some 55, none, .call 90 [(.tmp 51), (.tmp 54)]⟩]
def R51_17 : RC := .cond (.tmp 43) R51_16 (.skip)
def R51_18 : RC := .seq R51_15 R51_17
def R51_19 : RC := .cond (.tmp 31) R51_14 R51_18
def R51_20 : RC := .seq R51_12 R51_19
def R51_21 : RC := .cond (.tmp 28) R51_11 R51_20
def R51_22 : RC := .seq R51_9 R51_21
def R51_23 : RC := .block 0 R51_22
def R51_24 : RC := .reg [⟨some 6, none, .mov (.const (.int .i64 0))⟩]
def R51_25 : RC := .seq R51_24 (.ret)
def R51_26 : RC := .seq R51_23 R51_25
def R51_27 : RC := .seq R51_8 R51_26
def R51_28 : RC := .seq R51_7 R51_27
def R51_29 : RC := .seq R51_0 R51_28

-- 52: (*lectern/fs.FS).Append
def R52_0 : RC := .reg [⟨some 6, none, .mov (.const (.int .i64 0))⟩]
def R52_1 : RC := .reg [⟨some 12, none, .mov (.tmp 0)⟩,
    ⟨some 13, none, .call 89 [(.tmp 12)]⟩,
    ⟨some 11, none, .mov (.tmp 13)⟩,
    ⟨some 14, none, .extr (.tmp 11) 0⟩,
    ⟨some 15, none, .extr (.tmp 11) 1⟩,
    ⟨some 7, none, .mov (.tmp 14)⟩,
    ⟨some 8, none, .mov (.tmp 15)⟩]
def R52_2 : RC := .reg [⟨some 16, none, .mov (.tmp 8)⟩,
    ⟨some 17, none, .bin .neq 59 (.tmp 16) (.const (.int .i64 0))⟩]
def R52_3 : RC := .reg [⟨some 18, none, .mov (.tmp 8)⟩,
    ⟨some 6, none, .mov (.tmp 18)⟩]
def R52_4 : RC := .seq R52_3 (.ret)
def R52_5 : RC := .cond (.tmp 17) R52_4 (.skip)
def R52_6 : RC := .seq R52_2 R52_5
def R52_7 : RC := .reg [⟨some 20, none, .mov (.tmp 0)⟩,
    ⟨some 21, none, .nilck (.tmp 20)⟩,
    ⟨some 22, none, .faddr 8 (.tmp 21)⟩,
    ⟨some 23, none, .load1 (.tmp 22)⟩,
    ⟨some 24, none, .mov (.tmp 1)⟩,
    ⟨some 25, none, .raw (.lookup 108 (.tmp 23) (.tmp 24) true) 154⟩,
    ⟨some 19, none, .mov (.tmp 25)⟩,
    ⟨some 26, none, .extr (.tmp 19) 0⟩,
    ⟨some 27, none, .extr (.tmp 19) 1⟩,
    ⟨some 9, none, .mov (.tmp 26)⟩,
    ⟨some 10, none, .mov (.tmp 27)⟩]
def R52_8 : RC := .reg [⟨some 29, none, .mov (.tmp 10)⟩,
    ⟨some 30, none, .un .not (.tmp 29)⟩,
    ⟨some 28, none, .mov (.tmp 30)⟩]
def R52_9 : RC := .reg [⟨some 6, none, .mov (.const (.int .i64 14))⟩]
def R52_10 : RC := .seq R52_9 (.ret)
def R52_11 : RC := .reg [⟨some 32, none, .mov (.tmp 2)⟩,
    ⟨some 33, none, .lenS (.tmp 32)⟩,
    ⟨some 34, none, .mov (.tmp 9)⟩,
    ⟨some 35, none, .nilck (.tmp 34)⟩,
    ⟨some 36, none, .faddr 2 (.tmp 35)⟩,
    ⟨some 37, none, .load1 (.tmp 36)⟩,
    ⟨some 38, none, .lenS (.tmp 37)⟩,
    ⟨some 39, none, .bin .sub 3 (.const (.int .i64 268435456)) (.tmp 38)⟩,
    ⟨some 40, none, .bin .gtr 3 (.tmp 33) (.tmp 39)⟩,
    ⟨some 31, none, .mov (.tmp 40)⟩]
def R52_12 : RC := .reg [⟨some 6, none, .mov (.const (.int .i64 2))⟩]
def R52_13 : RC := .seq R52_12 (.ret)
def R52_14 : RC := .reg [⟨some 42, none, .mov (.tmp 0)⟩,
    ⟨some 43, none, .mov (.tmp 7)⟩,
    ⟨some 44, none, .mov (.tmp 2)⟩,
    ⟨some 45, none, .lenS (.tmp 44)⟩,
    ⟨some 46, none, .call 91 [(.tmp 42), (.tmp 43), (.tmp 45)]⟩,
    ⟨some 41, none, .mov (.tmp 46)⟩]
def R52_15 : RC := .reg [⟨some 6, none, .mov (.const (.int .i64 11))⟩]
def R52_16 : RC := .seq R52_15 (.ret)
def R52_17 : RC := .reg [⟨some 48, none, .mov (.tmp 2)⟩,
    ⟨some 49, none, .lenS (.tmp 48)⟩,
    ⟨some 50, none, .bin .gtr 3 (.tmp 49) (.const (.int .i64 0))⟩,
    ⟨some 47, none, .mov (.tmp 50)⟩]
def R52_18 : RC := .reg [⟨some 51, none, .mov (.tmp 9)⟩,
    ⟨some 52, none, .mov (.tmp 2)⟩,
    ⟨some 53, none, .call 41 [(.tmp 52)]⟩,
    ⟨some 54, none, .build [(0, 1)] #[.slice none 0 0] [(0, (.tmp 53))]⟩,
    ⟨some 55, none, .mkIf 163 (.tmp 54)⟩,
    ⟨some 56, none, .call 90 [(.tmp 51), (.tmp 55)]⟩]
def R52_19 : RC := .cond (.tmp 47) R52_18 (.skip)
def R52_20 : RC := .seq R52_17 R52_19
def R52_21 : RC := .cond (.tmp 41) R52_16 R52_20
def R52_22 : RC := .seq R52_14 R52_21
def R52_23 : RC := .cond (.tmp 31) R52_13 R52_22
def R52_24 : RC := .seq R52_11 R52_23
def R52_25 : RC := .cond (.tmp 28) R52_10 R52_24
def R52_26 : RC := .seq R52_8 R52_25
def R52_27 : RC := .block 0 R52_26
def R52_28 : RC := .reg [⟨some 6, none, .mov (.const (.int .i64 0))⟩]
def R52_29 : RC := .seq R52_28 (.ret)
def R52_30 : RC := .seq R52_27 R52_29
def R52_31 : RC := .seq R52_7 R52_30
def R52_32 : RC := .seq R52_6 R52_31
def R52_33 : RC := .seq R52_1 R52_32
def R52_34 : RC := .seq R52_0 R52_33

-- 53: (*lectern/fs.FS).Sync
def R53_0 : RC := .reg [⟨some 4, none, .mov (.const (.int .i64 0))⟩]
def R53_1 : RC := .reg [⟨some 10, none, .mov (.tmp 0)⟩,
    ⟨some 11, none, .call 89 [(.tmp 10)]⟩,
    ⟨some 9, none, .mov (.tmp 11)⟩,
    ⟨some 12, none, .extr (.tmp 9) 0⟩,
    ⟨some 13, none, .extr (.tmp 9) 1⟩,
    ⟨some 5, none, .mov (.tmp 12)⟩,
    ⟨some 6, none, .mov (.tmp 13)⟩]
def R53_2 : RC := .reg [⟨some 14, none, .mov (.tmp 6)⟩,
    ⟨some 15, none, .bin .neq 59 (.tmp 14) (.const (.int .i64 0))⟩]
def R53_3 : RC := .reg [⟨some 16, none, .mov (.tmp 6)⟩,
    ⟨some 4, none, .mov (.tmp 16)⟩]
def R53_4 : RC := .seq R53_3 (.ret)
def R53_5 : RC := .cond (.tmp 15) R53_4 (.skip)
def R53_6 : RC := .seq R53_2 R53_5
def R53_7 : RC := .seq R53_1 R53_6
def R53_8 : RC := .reg [⟨some 18, none, .mov (.tmp 0)⟩,
    ⟨some 19, none, .nilck (.tmp 18)⟩,
    ⟨some 20, none, .faddr 8 (.tmp 19)⟩,
    ⟨some 21, none, .load1 (.tmp 20)⟩,
    ⟨some 22, none, .mov (.tmp 1)⟩,
    ⟨some 23, none, .raw (.lookup 108 (.tmp 21) (.tmp 22) true) 154⟩,
    ⟨some 17, none, .mov (.tmp 23)⟩,
    ⟨some 24, none, .extr (.tmp 17) 0⟩,
    ⟨some 25, none, .extr (.tmp 17) 1⟩,
    ⟨some 7, none, .mov (.tmp 24)⟩,
    ⟨some 8, none, .mov (.tmp 25)⟩]
def R53_9 : RC := .reg [⟨some 26, none, .mov (.tmp 8)⟩,
    ⟨some 27, none, .un .not (.tmp 26)⟩]
def R53_10 : RC := .reg [⟨some 4, none, .mov (.const (.int .i64 14))⟩]
def R53_11 : RC := .seq R53_10 (.ret)
def R53_12 : RC := .cond (.tmp 27) R53_11 (.skip)
def R53_13 : RC := .seq R53_9 R53_12
def R53_14 : RC := .reg [⟨some 28, none, .mov (.tmp 7)⟩,
    ⟨some 29, none, .mov (.tmp 7)⟩,
    ⟨some 30, none, .mov (.tmp 7)⟩,
    ⟨some 31, none, .nilck (.tmp 30)⟩,
    ⟨some 32, none, .faddr 2 (.tmp 31)⟩,
    ⟨some 33, none, .load1 (.tmp 32)⟩,
    ⟨some 34, none, .call 41 [(.tmp 33)]⟩,
    ⟨some 35, none, .nilck (.tmp 28)⟩,
    ⟨some 36, none, .faddr 0 (.tmp 35)⟩,
    ⟨none, none, .store 1 (.tmp 36) (.tmp 34)⟩,
    ⟨some 37, none, .nilck (.tmp 29)⟩,
    ⟨some 38, none, .faddr 1 (.tmp 37)⟩,
    ⟨none, none, .store 1 (.tmp 38) (.const (.slice none 0 0))⟩]
def R53_15 : RC := .reg [⟨some 4, none, .mov (.const (.int .i64 0))⟩]
def R53_16 : RC := .seq R53_15 (.ret)
def R53_17 : RC := .seq R53_14 R53_16
def R53_18 : RC := .seq R53_13 R53_17
def R53_19 : RC := .seq R53_8 R53_18
def R53_20 : RC := .seq R53_7 R53_19
def R53_21 : RC := .seq R53_0 R53_20

-- 41: slices.Clone[[]byte,byte]
def R41_0 : RC := .reg [⟨some 2, none, .mov (.const (.slice none 0 0))⟩]
def R41_1 : RC := .reg [⟨some 3, none, .mov (.tmp 0)⟩,
    ⟨some 4, none, .eqS false (.tmp 3) (.const (.slice none 0 0))⟩]
def R41_2 : RC := .reg [⟨some 2, none, .mov (.const (.slice none 0 0))⟩]
def R41_3 : RC := .seq R41_2 (.ret)
def R41_4 : RC := .cond (.tmp 4) R41_3 (.skip)
def R41_5 : RC := .seq R41_1 R41_4
def R41_6 : RC := .reg [⟨some 5, none, .mkSl 5 1 0 #[] []⟩,
    ⟨some 6, none, .mov (.tmp 0)⟩,
    ⟨some 7, none, .app 5 1 1 (.int .u8 0) (.tmp 5) (.tmp 6)⟩,
    ⟨some 2, none, .mov (.tmp 7)⟩]
def R41_7 : RC := .seq R41_6 (.ret)
def R41_8 : RC := .seq R41_5 R41_7
def R41_9 : RC := .seq R41_0 R41_8

-- 54: (*lectern/wal.Log).Each$1
def R54_0 : RC := .reg [⟨some 5, none, .load1 (.tmp 1)⟩,
    ⟨some 6, none, .call 50 [(.tmp 5)]⟩,
    ⟨some 7, none, .un .not (.tmp 6)⟩]
def R54_1 : RC := .cond (.tmp 7) (.ret) (.skip)
def R54_2 : RC := .seq R54_0 R54_1
def R54_3 : RC := .reg [⟨some 8, none, .load1 (.tmp 1)⟩,
    ⟨some 9, none, .nilck (.tmp 8)⟩,
    ⟨some 10, none, .faddr 3 (.tmp 9)⟩,
    ⟨some 11, none, .load1 (.tmp 10)⟩,
    ⟨some 12, none, .lenS (.tmp 11)⟩,
    ⟨some 13, none, .mov (.const (.int .i64 0))⟩]
def R54_4 : RC := .reg [⟨some 14, none, .bin .lss 3 (.tmp 13) (.tmp 12)⟩]
def R54_5 : RC := .cond (.tmp 14) (.skip) (.exit 0)
def R54_6 : RC := .reg [⟨some 15, none, .mov (.tmp 13)⟩,
    ⟨some 16, none, .ixS 1 (.tmp 11) (.tmp 13)⟩,
    ⟨some 17, none, .load1 (.tmp 16)⟩,
    ⟨some 3, none, .mov (.tmp 15)⟩,
    ⟨some 4, none, .mov (.tmp 17)⟩]
def R54_7 : RC := .reg [⟨some 18, none, .mov (.tmp 0)⟩,
    ⟨some 19, none, .mov (.tmp 3)⟩,
    ⟨some 20, none, .mov (.tmp 4)⟩,
    ⟨some 21, none, .call 41 [(.tmp 20)]⟩,
    ⟨some 22, none, .callV (.tmp 18) [(.tmp 19), (.tmp 21)]⟩,
    ⟨some 23, none, .un .not (.tmp 22)⟩]
def R54_8 : RC := .cond (.tmp 23) (.ret) (.skip)
def R54_9 : RC := .seq R54_7 R54_8
def R54_10 : RC := .seq R54_6 R54_9
def R54_11 : RC := .block 1 R54_10
def R54_12 : RC := .reg [⟨some 24, none, .bin .add 3 (.tmp 13) (.const (.int .i64 1))⟩,
    ⟨some 13, none, .mov (.tmp 24)⟩]
def R54_13 : RC := .seq R54_11 R54_12
def R54_14 : RC := .seq R54_5 R54_13
def R54_15 : RC := .seq R54_4 R54_14
def R54_16 : RC := .loop R54_15
def R54_17 : RC := .block 0 R54_16
def R54_18 : RC := .seq R54_3 R54_17
def R54_19 : RC := .seq R54_2 R54_18

-- 55: (*lectern/fs.FS).Create
def R55_0 : RC := .reg [⟨some 4, none, .mov (.const (.int .i64 0))⟩]
def R55_1 : RC := .reg [⟨some 10, none, .mov (.tmp 0)⟩,
    ⟨some 11, none, .call 89 [(.tmp 10)]⟩,
    ⟨some 9, none, .mov (.tmp 11)⟩,
    ⟨some 12, none, .extr (.tmp 9) 0⟩,
    ⟨some 13, none, .extr (.tmp 9) 1⟩,
    ⟨some 5, none, .mov (.tmp 12)⟩,
    ⟨some 6, none, .mov (.tmp 13)⟩]
def R55_2 : RC := .reg [⟨some 14, none, .mov (.tmp 6)⟩,
    ⟨some 15, none, .bin .neq 59 (.tmp 14) (.const (.int .i64 0))⟩]
def R55_3 : RC := .reg [⟨some 16, none, .mov (.tmp 6)⟩,
    ⟨some 4, none, .mov (.tmp 16)⟩]
def R55_4 : RC := .seq R55_3 (.ret)
def R55_5 : RC := .cond (.tmp 15) R55_4 (.skip)
def R55_6 : RC := .seq R55_2 R55_5
def R55_7 : RC := .reg [⟨some 18, none, .mov (.tmp 0)⟩,
    ⟨some 19, none, .nilck (.tmp 18)⟩,
    ⟨some 20, none, .faddr 8 (.tmp 19)⟩,
    ⟨some 21, none, .load1 (.tmp 20)⟩,
    ⟨some 22, none, .mov (.tmp 1)⟩,
    ⟨some 23, none, .raw (.lookup 108 (.tmp 21) (.tmp 22) true) 154⟩,
    ⟨some 17, none, .mov (.tmp 23)⟩,
    ⟨some 24, none, .extr (.tmp 17) 0⟩,
    ⟨some 25, none, .extr (.tmp 17) 1⟩,
    ⟨some 7, none, .mov (.tmp 24)⟩,
    ⟨some 8, none, .mov (.tmp 25)⟩]
def R55_8 : RC := .reg [⟨some 27, none, .mov (.tmp 1)⟩,
    ⟨some 28, none, .call 92 [(.tmp 27)]⟩,
    ⟨some 29, none, .un .not (.tmp 28)⟩,
    ⟨some 26, none, .mov (.tmp 29)⟩]
def R55_9 : RC := .reg [⟨some 4, none, .mov (.const (.int .i64 15))⟩]
def R55_10 : RC := .seq R55_9 (.ret)
def R55_11 : RC := .reg [⟨some 31, none, .mov (.tmp 8)⟩,
    ⟨some 30, none, .mov (.tmp 31)⟩]
def R55_12 : RC := .reg [⟨some 4, none, .mov (.const (.int .i64 13))⟩]
def R55_13 : RC := .seq R55_12 (.ret)
def R55_14 : RC := .reg [⟨some 33, none, .mov (.tmp 0)⟩,
    ⟨some 34, none, .nilck (.tmp 33)⟩,
    ⟨some 35, none, .faddr 8 (.tmp 34)⟩,
    ⟨some 36, none, .load1 (.tmp 35)⟩,
    ⟨some 37, none, .lenM (.tmp 36)⟩,
    ⟨some 38, none, .bin .geq 3 (.tmp 37) (.const (.int .i64 4096))⟩,
    ⟨some 32, none, .mov (.tmp 38)⟩]
def R55_15 : RC := .reg [⟨some 4, none, .mov (.const (.int .i64 2))⟩]
def R55_16 : RC := .seq R55_15 (.ret)
def R55_17 : RC := .reg [⟨some 40, none, .mov (.tmp 0)⟩,
    ⟨some 41, none, .mov (.tmp 5)⟩,
    ⟨some 42, none, .call 91 [(.tmp 40), (.tmp 41), (.const (.int .i64 0))]⟩,
    ⟨some 39, none, .mov (.tmp 42)⟩]
def R55_18 : RC := .reg [⟨some 4, none, .mov (.const (.int .i64 11))⟩]
def R55_19 : RC := .seq R55_18 (.ret)
def R55_20 : RC := .cond (.tmp 39) R55_19 (.skip)
def R55_21 : RC := .seq R55_17 R55_20
def R55_22 : RC := .cond (.tmp 32) R55_16 R55_21
def R55_23 : RC := .seq R55_14 R55_22
def R55_24 : RC := .cond (.tmp 30) R55_13 R55_23
def R55_25 : RC := .seq R55_11 R55_24
def R55_26 : RC := .cond (.tmp 26) R55_10 R55_25
def R55_27 : RC := .seq R55_8 R55_26
def R55_28 : RC := .block 0 R55_27
def R55_29 : RC := .reg [⟨some 43, none, .mov (.tmp 0)⟩,
    ⟨some 44, none, .mov (.tmp 1)⟩,
    ⟨some 45, none, .build [(0, 1), (1, 1), (2, 1)] #[.slice none 0 0, .slice none 0 0, .slice none 0 0] []⟩,
    ⟨some 46, none, .box 157 (.tmp 45)⟩,
    ⟨some 47, none, .build [(0, 1), (1, 1), (2, 1)] #[.string ⟨#[]⟩, .string ⟨#[]⟩, .pointer none] [(1, (.tmp 44)), (2, (.tmp 46))]⟩,
    ⟨some 48, none, .call 93 [(.tmp 43), (.tmp 47)]⟩]
def R55_30 : RC := .reg [⟨some 4, none, .mov (.const (.int .i64 0))⟩]
def R55_31 : RC := .seq R55_30 (.ret)
def R55_32 : RC := .seq R55_29 R55_31
def R55_33 : RC := .seq R55_28 R55_32
def R55_34 : RC := .seq R55_7 R55_33
def R55_35 : RC := .seq R55_6 R55_34
def R55_36 : RC := .seq R55_1 R55_35
def R55_37 : RC := .seq R55_0 R55_36

-- 56: (*lectern/fs.FS).SyncDir
def R56_0 : RC := .reg [⟨some 2, none, .mov (.const (.int .i64 0))⟩]
def R56_1 : RC := .reg [⟨some 6, none, .mov (.tmp 0)⟩,
    ⟨some 7, none, .call 89 [(.tmp 6)]⟩,
    ⟨some 5, none, .mov (.tmp 7)⟩,
    ⟨some 8, none, .extr (.tmp 5) 0⟩,
    ⟨some 9, none, .extr (.tmp 5) 1⟩,
    ⟨some 3, none, .mov (.tmp 8)⟩,
    ⟨some 4, none, .mov (.tmp 9)⟩]
def R56_2 : RC := .reg [⟨some 10, none, .mov (.tmp 4)⟩,
    ⟨some 11, none, .bin .neq 59 (.tmp 10) (.const (.int .i64 0))⟩]
def R56_3 : RC := .reg [⟨some 12, none, .mov (.tmp 4)⟩,
    ⟨some 2, none, .mov (.tmp 12)⟩]
def R56_4 : RC := .seq R56_3 (.ret)
def R56_5 : RC := .cond (.tmp 11) R56_4 (.skip)
def R56_6 : RC := .seq R56_2 R56_5
def R56_7 : RC := .reg [⟨some 13, none, .mov (.tmp 0)⟩,
    ⟨some 14, none, .mov (.tmp 3)⟩,
    ⟨some 15, none, .call 91 [(.tmp 13), (.tmp 14), (.const (.int .i64 0))]⟩]
def R56_8 : RC := .reg [⟨some 2, none, .mov (.const (.int .i64 11))⟩]
def R56_9 : RC := .seq R56_8 (.ret)
def R56_10 : RC := .cond (.tmp 15) R56_9 (.skip)
def R56_11 : RC := .seq R56_7 R56_10
def R56_12 : RC := .reg [⟨some 16, none, .mov (.tmp 0)⟩,
    ⟨some 17, none, .mov (.tmp 0)⟩,
    ⟨some 18, none, .mov (.tmp 0)⟩,
    ⟨some 19, none, .nilck (.tmp 18)⟩,
    ⟨some 20, none, .faddr 8 (.tmp 19)⟩,
    ⟨some 21, none, .load1 (.tmp 20)⟩,
    ⟨some 22, none, .call 94 [(.tmp 21)]⟩,
    ⟨some 23, none, .nilck (.tmp 16)⟩,
    ⟨some 24, none, .faddr 9 (.tmp 23)⟩,
    ⟨none, none, .store 1 (.tmp 24) (.tmp 22)⟩,
    ⟨some 25, none, .nilck (.tmp 17)⟩,
    ⟨some 26, none, .faddr 10 (.tmp 25)⟩,
    ⟨none, none, .store 1 (.tmp 26) (.const (.slice none 0 0))⟩]
def R56_13 : RC := .reg [⟨some 2, none, .mov (.const (.int .i64 0))⟩]
def R56_14 : RC := .seq R56_13 (.ret)
def R56_15 : RC := .seq R56_12 R56_14
def R56_16 : RC := .seq R56_11 R56_15
def R56_17 : RC := .seq R56_6 R56_16
def R56_18 : RC := .seq R56_1 R56_17
def R56_19 : RC := .seq R56_0 R56_18

-- 57: (*lectern/fs.FS).Size
def R57_0 : RC := .reg [⟨some 4, none, .mov (.const (.int .i64 0))⟩,
    ⟨some 5, none, .mov (.const (.int .i64 0))⟩]
def R57_1 : RC := .reg [⟨some 8, none, .mov (.tmp 0)⟩,
    ⟨some 9, none, .call 60 [(.tmp 8)]⟩,
    ⟨some 10, none, .un .not (.tmp 9)⟩,
    ⟨some 11, none, .mov (.tmp 10)⟩,
    ⟨some 12, some (11, false), .mov (.tmp 0)⟩,
    ⟨some 13, some (11, false), .nilck (.tmp 12)⟩,
    ⟨some 14, some (11, false), .faddr 7 (.tmp 13)⟩,
    ⟨some 15, some (11, false), .load1 (.tmp 14)⟩,
    ⟨some 16, none, .pick (.tmp 11) (.const (.bool true)) (.tmp 15)⟩]
def R57_2 : RC := .reg [⟨some 4, none, .mov (.const (.int .i64 0))⟩,
    ⟨some 5, none, .mov (.const (.int .i64 12))⟩]
def R57_3 : RC := .seq R57_2 (.ret)
def R57_4 : RC := .cond (.tmp 16) R57_3 (.skip)
def R57_5 : RC := .seq R57_1 R57_4
def R57_6 : RC := .reg [⟨some 18, none, .mov (.tmp 0)⟩,
    ⟨some 19, none, .nilck (.tmp 18)⟩,
    ⟨some 20, none, .faddr 8 (.tmp 19)⟩,
    ⟨some 21, none, .load1 (.tmp 20)⟩,
    ⟨some 22, none, .mov (.tmp 1)⟩,
    ⟨some 23, none, .raw (.lookup 108 (.tmp 21) (.tmp 22) true) 154⟩,
    ⟨some 17, none, .mov (.tmp 23)⟩,
    ⟨some 24, none, .extr (.tmp 17) 0⟩,
    ⟨some 25, none, .extr (.tmp 17) 1⟩,
    ⟨some 6, none, .mov (.tmp 24)⟩,
    ⟨some 7, none, .mov (.tmp 25)⟩]
def R57_7 : RC := .reg [⟨some 26, none, .mov (.tmp 7)⟩,
    ⟨some 27, none, .un .not (.tmp 26)⟩]
def R57_8 : RC := .reg [⟨some 4, none, .mov (.const (.int .i64 0))⟩,
    ⟨some 5, none, .mov (.const (.int .i64 14))⟩]
def R57_9 : RC := .seq R57_8 (.ret)
def R57_10 : RC := .cond (.tmp 27) R57_9 (.skip)
def R57_11 : RC := .seq R57_7 R57_10
def R57_12 : RC := .reg [⟨some 28, none, .mov (.tmp 6)⟩,
    ⟨some 29, none, .nilck (.tmp 28)⟩,
    ⟨some 30, none, .faddr 2 (.tmp 29)⟩,
    ⟨some 31, none, .load1 (.tmp 30)⟩,
    ⟨some 32, none, .lenS (.tmp 31)⟩,
    ⟨some 4, none, .mov (.tmp 32)⟩,
    ⟨some 5, none, .mov (.const (.int .i64 0))⟩]
def R57_13 : RC := .seq R57_12 (.ret)
def R57_14 : RC := .seq R57_11 R57_13
def R57_15 : RC := .seq R57_6 R57_14
def R57_16 : RC := .seq R57_5 R57_15
def R57_17 : RC := .seq R57_0 R57_16

-- 58: (*lectern/fs.FS).Read
def R58_0 : RC := .reg [⟨some 8, none, .mov (.const (.slice none 0 0))⟩,
    ⟨some 9, none, .mov (.const (.int .i64 0))⟩]
def R58_1 : RC := .reg [⟨some 12, none, .mov (.tmp 0)⟩,
    ⟨some 13, none, .call 60 [(.tmp 12)]⟩,
    ⟨some 14, none, .un .not (.tmp 13)⟩,
    ⟨some 15, none, .mov (.tmp 14)⟩,
    ⟨some 16, some (15, false), .mov (.tmp 0)⟩,
    ⟨some 17, some (15, false), .nilck (.tmp 16)⟩,
    ⟨some 18, some (15, false), .faddr 7 (.tmp 17)⟩,
    ⟨some 19, some (15, false), .load1 (.tmp 18)⟩,
    ⟨some 20, none, .pick (.tmp 15) (.const (.bool true)) (.tmp 19)⟩]
def R58_2 : RC := .reg [⟨some 8, none, .mov (.const (.slice none 0 0))⟩,
    ⟨some 9, none, .mov (.const (.int .i64 12))⟩]
def R58_3 : RC := .seq R58_2 (.ret)
def R58_4 : RC := .cond (.tmp 20) R58_3 (.skip)
def R58_5 : RC := .seq R58_1 R58_4
def R58_6 : RC := .reg [⟨some 22, none, .mov (.tmp 0)⟩,
    ⟨some 23, none, .nilck (.tmp 22)⟩,
    ⟨some 24, none, .faddr 8 (.tmp 23)⟩,
    ⟨some 25, none, .load1 (.tmp 24)⟩,
    ⟨some 26, none, .mov (.tmp 1)⟩,
    ⟨some 27, none, .raw (.lookup 108 (.tmp 25) (.tmp 26) true) 154⟩,
    ⟨some 21, none, .mov (.tmp 27)⟩,
    ⟨some 28, none, .extr (.tmp 21) 0⟩,
    ⟨some 29, none, .extr (.tmp 21) 1⟩,
    ⟨some 10, none, .mov (.tmp 28)⟩,
    ⟨some 11, none, .mov (.tmp 29)⟩]
def R58_7 : RC := .reg [⟨some 30, none, .mov (.tmp 11)⟩,
    ⟨some 31, none, .un .not (.tmp 30)⟩]
def R58_8 : RC := .reg [⟨some 8, none, .mov (.const (.slice none 0 0))⟩,
    ⟨some 9, none, .mov (.const (.int .i64 14))⟩]
def R58_9 : RC := .seq R58_8 (.ret)
def R58_10 : RC := .cond (.tmp 31) R58_9 (.skip)
def R58_11 : RC := .seq R58_7 R58_10
def R58_12 : RC := .reg [⟨some 32, none, .mov (.tmp 2)⟩,
    ⟨some 33, none, .bin .lss 3 (.tmp 32) (.const (.int .i64 0))⟩,
    ⟨some 34, none, .mov (.tmp 33)⟩,
    ⟨some 35, some (34, false), .mov (.tmp 3)⟩,
    ⟨some 36, some (34, false), .bin .lss 3 (.tmp 35) (.const (.int .i64 0))⟩,
    ⟨some 37, none, .pick (.tmp 34) (.const (.bool true)) (.tmp 36)⟩,
    ⟨some 38, none, .mov (.tmp 37)⟩,
    ⟨some 39, some (38, false), .mov (.tmp 2)⟩,
    ⟨some 40, some (38, false), .mov (.tmp 10)⟩,
    ⟨some 41, some (38, false), .nilck (.tmp 40)⟩,
    ⟨some 42, some (38, false), .faddr 2 (.tmp 41)⟩,
    ⟨some 43, some (38, false), .load1 (.tmp 42)⟩,
    ⟨some 44, some (38, false), .lenS (.tmp 43)⟩,
    ⟨some 45, some (38, false), .bin .gtr 3 (.tmp 39) (.tmp 44)⟩,
    ⟨some 46, none, .pick (.tmp 38) (.const (.bool true)) (.tmp 45)⟩,
    ⟨some 47, none, .mov (.tmp 46)⟩,
    ⟨some 48, some (47, false), .mov (.tmp 3)⟩,
    ⟨some 49, some (47, false), .mov (.tmp 10)⟩,
    ⟨some 50, some (47, false), .nilck (.tmp 49)⟩,
    ⟨some 51, some (47, false), .faddr 2 (.tmp 50)⟩,
    ⟨some 52, some (47, false), .load1 (.tmp 51)⟩,
    ⟨some 53, some (47, false), .lenS (.tmp 52)⟩,
    ⟨some 54, some (47, false), .mov (.tmp 2)⟩,
    ⟨some 55, some (47, false), .bin .sub 3 (.tmp 53) (.tmp 54)⟩,
    ⟨some 56, some (47, false), .bin .gtr 3 (.tmp 48) (.tmp 55)⟩,
    ⟨some 57, none, .pick (.tmp 47) (.const (.bool true)) (.tmp 56)⟩]
def R58_13 : RC := .reg [⟨some 8, none, .mov (.const (.slice none 0 0))⟩,
    ⟨some 9, none, .mov (.const (.int .i64 1))⟩]
def R58_14 : RC := .seq R58_13 (.ret)
def R58_15 : RC := .cond (.tmp 57) R58_14 (.skip)
def R58_16 : RC := .seq R58_12 R58_15
def R58_17 : RC := .reg [⟨some 58, none, .mov (.tmp 10)⟩,
    ⟨some 59, none, .nilck (.tmp 58)⟩,
    ⟨some 60, none, .faddr 2 (.tmp 59)⟩,
    ⟨some 61, none, .load1 (.tmp 60)⟩,
    ⟨some 62, none, .mov (.tmp 2)⟩,
    ⟨some 63, none, .mov (.tmp 2)⟩,
    ⟨some 64, none, .mov (.tmp 3)⟩,
    ⟨some 65, none, .bin .add 3 (.tmp 63) (.tmp 64)⟩,
    ⟨some 66, none, .slcL 1 (.tmp 61) (some (.tmp 62)) (some (.tmp 65)) none⟩,
    ⟨some 67, none, .call 41 [(.tmp 66)]⟩,
    ⟨some 8, none, .mov (.tmp 67)⟩,
    ⟨some 9, none, .mov (.const (.int .i64 0))⟩]
def R58_18 : RC := .seq R58_17 (.ret)
def R58_19 : RC := .seq R58_16 R58_18
def R58_20 : RC := .seq R58_11 R58_19
def R58_21 : RC := .seq R58_6 R58_20
def R58_22 : RC := .seq R58_5 R58_21
def R58_23 : RC := .seq R58_0 R58_22

-- 65: lectern/crc.New
def R65_0 : RC := .reg [⟨some 0, none, .mov (.const (.pointer none))⟩]
def R65_1 : RC := .reg [⟨some 1, none, .build [(0, 1), (1, 3), (4, 1), (5, 256)] #[.int .i64 0, .int .u32 0, .int .i32 0, .int .u32 0, .int .i32 0, .int .u32 0, .int .u32 0, .int .u32 0, .int .u32 0, .int .u32 0, .int .u32 0, .int .u32 0, .int .u32 0, .int .u32 0, .int .u32 0, .int .u32 0, .int .u32 0, .int .u32 0, .int .u32 0, .int .u32 0, .int .u32 0, .int .u32 0, .int .u32 0, .int .u32 0, .int .u32 0, .int .u32 0, .int .u32 0, .int .u32 0, .int .u32 0, .int .u32 0, .int .u32 0, .int .u32 0, .int .u32 0, .int .u32 0, .int .u32 0, .int .u32 0, .int .u32 0, .int .u32 0, .int .u32 0, .int .u32 0, .int .u32 0, .int .u32 0, .int .u32 0, .int .u32 0, .int .u32 0, .int .u32 0, .int .u32 0, .int .u32 0, .int .u32 0, .int .u32 0, .int .u32 0, .int .u32 0, .int .u32 0, .int .u32 0, .int .u32 0, .int .u32 0, .int .u32 0, .int .u32 0, .int .u32 0, .int .u32 0, .int .u32 0, .int .u32 0, .int .u32 0, .int .u32 0, .int .u32 0, .int .u32 0, .int .u32 0, .int .u32 0, .int .u32 0, .int .u32 0, .int .u32 0, .int .u32 0, .int .u32 0, .int .u32 0, .int .u32 0, .int .u32 0, .int .u32 0, .int .u32 0, .int .u32 0, .int .u32 0, .int .u32 0, .int .u32 0, .int .u32 0, .int .u32 0, .int .u32 0, .int .u32 0, .int .u32 0, .int .u32 0, .int .u32 0, .int .u32 0, .int .u32 0, .int .u32 0, .int .u32 0, .int .u32 0, .int .u32 0, .int .u32 0, .int .u32 0, .int .u32 0, .int .u32 0, .int .u32 0, .int .u32 0, .int .u32 0, .int .u32 0, .int .u32 0, .int .u32 0, .int .u32 0, .int .u32 0, .int .u32 0, .int .u32 0, .int .u32 0, .int .u32 0, .int .u32 0, .int .u32 0, .int .u32 0, .int .u32 0, .int .u32 0, .int .u32 0, .int .u32 0, .int .u32 0, .int .u32 0, .int .u32 0, .int .u32 0, .int .u32 0, .int .u32 0, .int .u32 0, .int .u32 0, .int .u32 0, .int .u32 0, .int .u32 0, .int .u32 0, .int .u32 0, .int .u32 0, .int .u32 0, .int .u32 0, .int .u32 0, .int .u32 0, .int .u32 0, .int .u32 0, .int .u32 0, .int .u32 0, .int .u32 0, .int .u32 0, .int .u32 0, .int .u32 0, .int .u32 0, .int .u32 0, .int .u32 0, .int .u32 0, .int .u32 0, .int .u32 0, .int .u32 0, .int .u32 0, .int .u32 0, .int .u32 0, .int .u32 0, .int .u32 0, .int .u32 0, .int .u32 0, .int .u32 0, .int .u32 0, .int .u32 0, .int .u32 0, .int .u32 0, .int .u32 0, .int .u32 0, .int .u32 0, .int .u32 0, .int .u32 0, .int .u32 0, .int .u32 0, .int .u32 0, .int .u32 0, .int .u32 0, .int .u32 0, .int .u32 0, .int .u32 0, .int .u32 0, .int .u32 0, .int .u32 0, .int .u32 0, .int .u32 0, .int .u32 0, .int .u32 0, .int .u32 0, .int .u32 0, .int .u32 0, .int .u32 0, .int .u32 0, .int .u32 0, .int .u32 0, .int .u32 0, .int .u32 0, .int .u32 0, .int .u32 0, .int .u32 0, .int .u32 0, .int .u32 0, .int .u32 0, .int .u32 0, .int .u32 0, .int .u32 0, .int .u32 0, .int .u32 0, .int .u32 0, .int .u32 0, .int .u32 0, .int .u32 0, .int .u32 0, .int .u32 0, .int .u32 0, .int .u32 0, .int .u32 0, .int .u32 0, .int .u32 0, .int .u32 0, .int .u32 0, .int .u32 0, .int .u32 0, .int .u32 0, .int .u32 0, .int .u32 0, .int .u32 0, .int .u32 0, .int .u32 0, .int .u32 0, .int .u32 0, .int .u32 0, .int .u32 0, .int .u32 0, .int .u32 0, .int .u32 0, .int .u32 0, .int .u32 0, .int .u32 0, .int .u32 0, .int .u32 0, .int .u32 0, .int .u32 0, .int .u32 0, .int .u32 0, .int .u32 0, .int .u32 0, .int .u32 0, .int .u32 0, .int .u32 0, .int .u32 0, .int .u32 0, .int .u32 0, .int .u32 0, .int .u32 0, .int .u32 0, .int .u32 0, .int .u32 0, .int .u32 0, .int .u32 0, .int .u32 0, .int .u32 0, .int .u32 0, .int .u32 0, .int .u32 0, .int .u32 0] [(0, (.const (.int .i64 1)))]⟩,
    ⟨some 2, none, .box 195 (.tmp 1)⟩,
    ⟨some 0, none, .mov (.tmp 2)⟩]
def R65_2 : RC := .seq R65_1 (.ret)
def R65_3 : RC := .seq R65_0 R65_2

-- 87: lectern/wal.piece
def R87_0 : RC := .reg [⟨some 6, none, .mov (.const (.slice none 0 0))⟩]
def R87_1 : RC := .reg [⟨some 9, none, .mov (.tmp 2)⟩,
    ⟨some 10, none, .lenS (.tmp 9)⟩,
    ⟨some 11, none, .bin .add 3 (.const (.int .i64 1)) (.tmp 10)⟩,
    ⟨some 12, none, .mkSlice 5 1 1 (.int .u8 0) (.tmp 11) (.tmp 11)⟩,
    ⟨some 7, none, .mov (.tmp 12)⟩]
def R87_2 : RC := .reg [⟨some 13, none, .mov (.tmp 7)⟩,
    ⟨some 14, none, .mov (.tmp 1)⟩,
    ⟨some 15, none, .ixS 1 (.tmp 13) (.const (.int .i64 0))⟩,
    ⟨none, none, .store 1 (.tmp 15) (.tmp 14)⟩]
def R87_3 : RC := .reg [⟨some 16, none, .mov (.tmp 7)⟩,
    ⟨some 17, none, .slcL 1 (.tmp 16) (some (.const (.int .i64 1))) none none⟩,
    ⟨some 18, none, .mov (.tmp 2)⟩,
    ⟨some 19, none, .copy 1 (.tmp 17) (.tmp 18)⟩]
def R87_4 : RC := .reg [⟨some 20, none, .mov (.tmp 0)⟩,
    ⟨some 21, none, .mov (.tmp 7)⟩,
    ⟨some 22, none, .call 124 [(.tmp 20), (.tmp 21)]⟩,
    ⟨some 23, none, .call 123 [(.tmp 22)]⟩,
    ⟨some 24, none, .call 122 [(.tmp 23), (.const (.int .i64 4))]⟩,
    ⟨some 25, none, .mov (.tmp 2)⟩,
    ⟨some 26, none, .lenS (.tmp 25)⟩,
    ⟨some 27, none, .cvInt .u32 (.tmp 26)⟩,
    ⟨some 28, none, .call 122 [(.tmp 27), (.const (.int .i64 2))]⟩,
    ⟨some 29, none, .app 5 1 1 (.int .u8 0) (.tmp 24) (.tmp 28)⟩,
    ⟨some 8, none, .mov (.tmp 29)⟩]
def R87_5 : RC := .reg [⟨some 30, none, .mov (.tmp 8)⟩,
    ⟨some 31, none, .mov (.tmp 7)⟩,
    ⟨some 32, none, .app 5 1 1 (.int .u8 0) (.tmp 30) (.tmp 31)⟩,
    ⟨some 6, none, .mov (.tmp 32)⟩]
def R87_6 : RC := .seq R87_5 (.ret)
def R87_7 : RC := .seq R87_4 R87_6
def R87_8 : RC := .seq R87_3 R87_7
def R87_9 : RC := .seq R87_2 R87_8
def R87_10 : RC := .seq R87_1 R87_9
def R87_11 : RC := .seq R87_0 R87_10

-- 88: lectern/wal.parts
def R88_0 : RC := .reg [⟨some 1, none, .box 22 (.tmp 0)⟩,
    ⟨some 2, none, .mov (.const (.nilFunc))⟩]
def R88_1 : RC := .reg [⟨some 3, none, .mkFn (.func 125) [] [(.tmp 1)]⟩,
    ⟨some 2, none, .mov (.tmp 3)⟩]
def R88_2 : RC := .seq R88_1 (.ret)
def R88_3 : RC := .seq R88_0 R88_2

-- 89: (*lectern/fs.FS).op
def R89_0 : RC := .reg [⟨some 2, none, .mov (.const (.int .i64 0))⟩,
    ⟨some 3, none, .mov (.const (.int .i64 0))⟩]
def R89_1 : RC := .reg [⟨some 5, none, .mov (.tmp 0)⟩,
    ⟨some 6, none, .call 60 [(.tmp 5)]⟩,
    ⟨some 7, none, .un .not (.tmp 6)⟩,
    ⟨some 8, none, .mov (.tmp 7)⟩,
    ⟨some 9, some (8, false), .mov (.tmp 0)⟩,
    ⟨some 10, some (8, false), .nilck (.tmp 9)⟩,
    ⟨some 11, some (8, false), .faddr 7 (.tmp 10)⟩,
    ⟨some 12, some (8, false), .load1 (.tmp 11)⟩,
    ⟨some 13, none, .pick (.tmp 8) (.const (.bool true)) (.tmp 12)⟩]
def R89_2 : RC := .reg [⟨some 2, none, .mov (.const (.int .i64 0))⟩,
    ⟨some 3, none, .mov (.const (.int .i64 12))⟩]
def R89_3 : RC := .seq R89_2 (.ret)
def R89_4 : RC := .cond (.tmp 13) R89_3 (.skip)
def R89_5 : RC := .seq R89_1 R89_4
def R89_6 : RC := .reg [⟨some 14, none, .mov (.tmp 0)⟩,
    ⟨some 15, none, .nilck (.tmp 14)⟩,
    ⟨some 16, none, .faddr 6 (.tmp 15)⟩,
    ⟨some 17, none, .call 79 [(.tmp 16), (.const (.int .i64 1))]⟩,
    ⟨some 4, none, .mov (.tmp 17)⟩]
def R89_7 : RC := .reg [⟨some 18, none, .mov (.tmp 4)⟩,
    ⟨some 19, none, .mov (.tmp 0)⟩,
    ⟨some 20, none, .nilck (.tmp 19)⟩,
    ⟨some 21, none, .faddr 1 (.tmp 20)⟩,
    ⟨some 22, none, .faddr 0 (.tmp 21)⟩,
    ⟨some 23, none, .load1 (.tmp 22)⟩,
    ⟨some 24, none, .bin .eql 3 (.tmp 18) (.tmp 23)⟩]
def R89_8 : RC := .reg [⟨some 25, none, .mov (.tmp 0)⟩,
    ⟨some 26, none, .call 61 [(.tmp 25)]⟩]
def R89_9 : RC := .reg [⟨some 27, none, .mov (.tmp 4)⟩,
    ⟨some 2, none, .mov (.tmp 27)⟩,
    ⟨some 3, none, .mov (.const (.int .i64 12))⟩]
def R89_10 : RC := .seq R89_9 (.ret)
def R89_11 : RC := .seq R89_8 R89_10
def R89_12 : RC := .cond (.tmp 24) R89_11 (.skip)
def R89_13 : RC := .seq R89_7 R89_12
def R89_14 : RC := .reg [⟨some 28, none, .mov (.tmp 0)⟩,
    ⟨some 29, none, .nilck (.tmp 28)⟩,
    ⟨some 30, none, .faddr 1 (.tmp 29)⟩,
    ⟨some 31, none, .faddr 2 (.tmp 30)⟩,
    ⟨some 32, none, .load1 (.tmp 31)⟩,
    ⟨some 33, none, .mov (.tmp 4)⟩,
    ⟨some 34, none, .call 127 [(.tmp 32), (.tmp 33)]⟩]
def R89_15 : RC := .reg [⟨some 35, none, .mov (.tmp 4)⟩,
    ⟨some 2, none, .mov (.tmp 35)⟩,
    ⟨some 3, none, .mov (.const (.int .i64 10))⟩]
def R89_16 : RC := .seq R89_15 (.ret)
def R89_17 : RC := .cond (.tmp 34) R89_16 (.skip)
def R89_18 : RC := .seq R89_14 R89_17
def R89_19 : RC := .reg [⟨some 36, none, .mov (.tmp 4)⟩,
    ⟨some 2, none, .mov (.tmp 36)⟩,
    ⟨some 3, none, .mov (.const (.int .i64 0))⟩]
def R89_20 : RC := .seq R89_19 (.ret)
def R89_21 : RC := .seq R89_18 R89_20
def R89_22 : RC := .seq R89_13 R89_21
def R89_23 : RC := .seq R89_6 R89_22
def R89_24 : RC := .seq R89_5 R89_23
def R89_25 : RC := .seq R89_0 R89_24

-- 90: (*lectern/fs.file).do
def R90_0 : RC := .reg [⟨some 4, none, .mov (.tmp 0)⟩,
    ⟨some 5, none, .mov (.tmp 0)⟩,
    ⟨some 6, none, .nilck (.tmp 5)⟩,
    ⟨some 7, none, .faddr 1 (.tmp 6)⟩,
    ⟨some 8, none, .load1 (.tmp 7)⟩,
    ⟨some 9, none, .mov (.tmp 1)⟩,
    ⟨some 10, none, .mkSl 176 1 1 #[.nilIface] [(0, (.tmp 9))]⟩,
    ⟨some 11, none, .app 176 1 16 (.nilIface) (.tmp 8) (.tmp 10)⟩,
    ⟨some 12, none, .nilck (.tmp 4)⟩,
    ⟨some 13, none, .faddr 1 (.tmp 12)⟩,
    ⟨none, none, .store 1 (.tmp 13) (.tmp 11)⟩]
def R90_1 : RC := .draw [⟨some 14, none, .mov (.tmp 0)⟩,
    ⟨some 15, none, .mov (.tmp 1)⟩,
    ⟨some 16, none, .mov (.tmp 0)⟩,
    ⟨some 17, none, .nilck (.tmp 16)⟩,
    ⟨some 18, none, .faddr 2 (.tmp 17)⟩,
    ⟨some 19, none, .load1 (.tmp 18)⟩,
    ⟨some 20, none, .mkFn (.method "lectern/fs.lay") [(.tmp 15)] []⟩,
    ⟨some 21, none, .nilck (.tmp 20)⟩,
    ⟨some 22, none, .mov (.tmp 15)⟩,
    ⟨some 23, none, .inv (.tmp 22) "lectern/fs.lay" [(.tmp 19)]⟩,
    ⟨some 24, none, .nilck (.tmp 14)⟩,
    ⟨some 25, none, .faddr 2 (.tmp 24)⟩,
    ⟨none, none, .store 1 (.tmp 25) (.tmp 23)⟩] [[⟨0, ⟨some 14, none, .mov (.tmp 0)⟩, false, []⟩,
    ⟨1, ⟨some 15, none, .mov (.tmp 1)⟩, false, []⟩,
    ⟨2, ⟨some 16, none, .mov (.tmp 0)⟩, false, []⟩,
    ⟨3, ⟨some 17, none, .nilck (.tmp 16)⟩, false, []⟩,
    ⟨4, ⟨some 18, none, .faddr 2 (.tmp 17)⟩, false, []⟩,
    ⟨5, ⟨some 19, none, .load1 (.tmp 18)⟩, true, []⟩,
    ⟨6, ⟨some 20, none, .mkFn (.method "lectern/fs.lay") [(.tmp 15)] []⟩, false, []⟩,
    ⟨7, ⟨some 21, none, .nilck (.tmp 20)⟩, false, []⟩,
    ⟨8, ⟨some 22, none, .mov (.tmp 15)⟩, false, []⟩,
    ⟨9, ⟨some 23, none, .inv (.tmp 22) "lectern/fs.lay" [(.tmp 19)]⟩, false, []⟩],
   [⟨10, ⟨some 24, none, .nilck (.tmp 14)⟩, false, []⟩],
   [⟨11, ⟨some 25, none, .faddr 2 (.tmp 24)⟩, false, []⟩],
   [⟨12, ⟨none, none, .store 1 (.tmp 25) (.tmp 23)⟩, false, []⟩]]
def R90_2 : RC := .seq R90_0 R90_1

-- 91: (*lectern/fs.FS).full
def R91_0 : RC := .reg [⟨some 6, none, .mov (.const (.bool false))⟩]
def R91_1 : RC := .draw [⟨some 7, none, .mov (.tmp 0)⟩,
    ⟨some 8, none, .nilck (.tmp 7)⟩,
    ⟨some 9, none, .faddr 1 (.tmp 8)⟩,
    ⟨some 10, none, .faddr 3 (.tmp 9)⟩,
    ⟨some 11, none, .load1 (.tmp 10)⟩,
    ⟨some 12, none, .mov (.tmp 1)⟩,
    ⟨some 13, none, .call 127 [(.tmp 11), (.tmp 12)]⟩,
    ⟨some 14, none, .mov (.tmp 13)⟩,
    ⟨some 15, some (14, false), .mov (.tmp 0)⟩,
    ⟨some 16, some (14, false), .nilck (.tmp 15)⟩,
    ⟨some 17, some (14, false), .faddr 1 (.tmp 16)⟩,
    ⟨some 18, some (14, false), .faddr 4 (.tmp 17)⟩,
    ⟨some 19, some (14, false), .load1 (.tmp 18)⟩,
    ⟨some 20, some (14, false), .bin .gtr 3 (.tmp 19) (.const (.int .i64 0))⟩,
    ⟨some 21, some (14, false), .mov (.tmp 20)⟩,
    ⟨some 22, some (21, true), .mov (.tmp 2)⟩,
    ⟨some 23, some (21, true), .bin .gtr 3 (.tmp 22) (.const (.int .i64 0))⟩,
    ⟨some 24, some (14, false), .pick (.tmp 21) (.tmp 23) (.const (.bool false))⟩,
    ⟨some 25, some (14, false), .mov (.tmp 24)⟩,
    ⟨some 26, some (25, true), .mov (.tmp 0)⟩,
    ⟨some 27, some (25, true), .call 128 [(.tmp 26)]⟩,
    ⟨some 28, some (25, true), .mov (.tmp 0)⟩,
    ⟨some 29, some (25, true), .nilck (.tmp 28)⟩,
    ⟨some 30, some (25, true), .faddr 1 (.tmp 29)⟩,
    ⟨some 31, some (25, true), .faddr 4 (.tmp 30)⟩,
    ⟨some 32, some (25, true), .load1 (.tmp 31)⟩,
    ⟨some 33, some (25, true), .mov (.tmp 2)⟩,
    ⟨some 34, some (25, true), .bin .sub 3 (.tmp 32) (.tmp 33)⟩,
    ⟨some 35, some (25, true), .bin .gtr 3 (.tmp 27) (.tmp 34)⟩,
    ⟨some 36, some (14, false), .pick (.tmp 25) (.tmp 35) (.const (.bool false))⟩,
    ⟨some 37, none, .pick (.tmp 14) (.const (.bool true)) (.tmp 36)⟩,
    ⟨some 6, none, .mov (.tmp 37)⟩] [[⟨0, ⟨some 7, none, .mov (.tmp 0)⟩, false, []⟩,
    ⟨1, ⟨some 8, none, .nilck (.tmp 7)⟩, false, []⟩,
    ⟨2, ⟨some 9, none, .faddr 1 (.tmp 8)⟩, false, []⟩,
    ⟨3, ⟨some 10, none, .faddr 3 (.tmp 9)⟩, false, []⟩,
    ⟨4, ⟨some 11, none, .load1 (.tmp 10)⟩, true, []⟩,
    ⟨5, ⟨some 12, none, .mov (.tmp 1)⟩, false, []⟩],
   [⟨6, ⟨some 13, none, .call 127 [(.tmp 11), (.tmp 12)]⟩, false, [12, 25]⟩],
   [⟨7, ⟨some 14, none, .mov (.tmp 13)⟩, false, []⟩],
   [⟨8, ⟨some 15, some (14, false), .mov (.tmp 0)⟩, false, []⟩],
   [⟨9, ⟨some 16, some (14, false), .nilck (.tmp 15)⟩, false, []⟩],
   [⟨10, ⟨some 17, some (14, false), .faddr 1 (.tmp 16)⟩, false, []⟩],
   [⟨11, ⟨some 18, some (14, false), .faddr 4 (.tmp 17)⟩, false, []⟩],
   [⟨12, ⟨some 19, some (14, false), .load1 (.tmp 18)⟩, true, []⟩],
   [⟨13, ⟨some 20, some (14, false), .bin .gtr 3 (.tmp 19) (.const (.int .i64 0))⟩, false, []⟩],
   [⟨14, ⟨some 21, some (14, false), .mov (.tmp 20)⟩, false, []⟩],
   [⟨15, ⟨some 22, some (21, true), .mov (.tmp 2)⟩, false, []⟩],
   [⟨16, ⟨some 23, some (21, true), .bin .gtr 3 (.tmp 22) (.const (.int .i64 0))⟩, false, []⟩],
   [⟨17, ⟨some 24, some (14, false), .pick (.tmp 21) (.tmp 23) (.const (.bool false))⟩, false, []⟩],
   [⟨18, ⟨some 25, some (14, false), .mov (.tmp 24)⟩, false, []⟩],
   [⟨19, ⟨some 26, some (25, true), .mov (.tmp 0)⟩, false, []⟩,
    ⟨21, ⟨some 28, some (25, true), .mov (.tmp 0)⟩, false, []⟩,
    ⟨22, ⟨some 29, some (25, true), .nilck (.tmp 28)⟩, false, []⟩,
    ⟨23, ⟨some 30, some (25, true), .faddr 1 (.tmp 29)⟩, false, []⟩,
    ⟨24, ⟨some 31, some (25, true), .faddr 4 (.tmp 30)⟩, false, []⟩,
    ⟨25, ⟨some 32, some (25, true), .load1 (.tmp 31)⟩, true, []⟩,
    ⟨26, ⟨some 33, some (25, true), .mov (.tmp 2)⟩, false, []⟩,
    ⟨27, ⟨some 34, some (25, true), .bin .sub 3 (.tmp 32) (.tmp 33)⟩, false, []⟩,
    ⟨20, ⟨some 27, some (25, true), .call 128 [(.tmp 26)]⟩, false, [25]⟩],
   [⟨28, ⟨some 35, some (25, true), .bin .gtr 3 (.tmp 27) (.tmp 34)⟩, false, []⟩],
   [⟨29, ⟨some 36, some (14, false), .pick (.tmp 25) (.tmp 35) (.const (.bool false))⟩, false, []⟩],
   [⟨30, ⟨some 37, none, .pick (.tmp 14) (.const (.bool true)) (.tmp 36)⟩, false, []⟩],
   [⟨31, ⟨some 6, none, .mov (.tmp 37)⟩, false, []⟩]]
def R91_2 : RC := .seq R91_1 (.ret)
def R91_3 : RC := .seq R91_0 R91_2

-- 92: lectern/fs.may
def R92_0 : RC := .reg [⟨some 2, none, .mov (.const (.bool false))⟩]
def R92_1 : RC := .reg [⟨some 4, none, .mov (.tmp 0)⟩,
    ⟨some 5, none, .lenT (.tmp 4)⟩,
    ⟨some 6, none, .bin .lss 3 (.tmp 5) (.const (.int .i64 1))⟩,
    ⟨some 7, none, .mov (.tmp 6)⟩,
    ⟨some 8, some (7, false), .mov (.tmp 0)⟩,
    ⟨some 9, some (7, false), .lenT (.tmp 8)⟩,
    ⟨some 10, some (7, false), .bin .gtr 3 (.tmp 9) (.const (.int .i64 32))⟩,
    ⟨some 11, none, .pick (.tmp 7) (.const (.bool true)) (.tmp 10)⟩]
def R92_2 : RC := .reg [⟨some 2, none, .mov (.const (.bool false))⟩]
def R92_3 : RC := .seq R92_2 (.ret)
def R92_4 : RC := .cond (.tmp 11) R92_3 (.skip)
def R92_5 : RC := .seq R92_1 R92_4
def R92_6 : RC := .reg [⟨some 12, none, .mov (.tmp 0)⟩,
    ⟨some 13, none, .lenT (.tmp 12)⟩,
    ⟨some 14, none, .mov (.const (.int .i64 0))⟩]
def R92_7 : RC := .reg [⟨some 15, none, .bin .lss 3 (.tmp 14) (.tmp 13)⟩]
def R92_8 : RC := .cond (.tmp 15) (.skip) (.exit 0)
def R92_9 : RC := .reg [⟨some 16, none, .mov (.tmp 14)⟩,
    ⟨some 3, none, .mov (.tmp 16)⟩]
def R92_10 : RC := .reg [⟨some 17, none, .mov (.tmp 0)⟩,
    ⟨some 18, none, .mov (.tmp 3)⟩,
    ⟨some 19, none, .ixStr (.tmp 17) (.tmp 18)⟩,
    ⟨some 20, none, .bin .lss 5 (.tmp 19) (.const (.int .u8 33))⟩,
    ⟨some 21, none, .mov (.tmp 20)⟩,
    ⟨some 22, some (21, false), .mov (.tmp 0)⟩,
    ⟨some 23, some (21, false), .mov (.tmp 3)⟩,
    ⟨some 24, some (21, false), .ixStr (.tmp 22) (.tmp 23)⟩,
    ⟨some 25, some (21, false), .bin .gtr 5 (.tmp 24) (.const (.int .u8 126))⟩,
    ⟨some 26, none, .pick (.tmp 21) (.const (.bool true)) (.tmp 25)⟩,
    ⟨some 27, none, .mov (.tmp 26)⟩,
    ⟨some 28, some (27, false), .mov (.tmp 0)⟩,
    ⟨some 29, some (27, false), .mov (.tmp 3)⟩,
    ⟨some 30, some (27, false), .ixStr (.tmp 28) (.tmp 29)⟩,
    ⟨some 31, some (27, false), .bin .eql 5 (.tmp 30) (.const (.int .u8 47))⟩,
    ⟨some 32, none, .pick (.tmp 27) (.const (.bool true)) (.tmp 31)⟩]
def R92_11 : RC := .reg [⟨some 2, none, .mov (.const (.bool false))⟩]
def R92_12 : RC := .seq R92_11 (.ret)
def R92_13 : RC := .cond (.tmp 32) R92_12 (.skip)
def R92_14 : RC := .seq R92_10 R92_13
def R92_15 : RC := .seq R92_9 R92_14
def R92_16 : RC := .block 1 R92_15
def R92_17 : RC := .reg [⟨some 33, none, .bin .add 3 (.tmp 14) (.const (.int .i64 1))⟩,
    ⟨some 14, none, .mov (.tmp 33)⟩]
def R92_18 : RC := .seq R92_16 R92_17
def R92_19 : RC := .seq R92_8 R92_18
def R92_20 : RC := .seq R92_7 R92_19
def R92_21 : RC := .loop R92_20
def R92_22 : RC := .block 0 R92_21
def R92_23 : RC := .seq R92_6 R92_22
def R92_24 : RC := .reg [⟨some 2, none, .mov (.const (.bool true))⟩]
def R92_25 : RC := .seq R92_24 (.ret)
def R92_26 : RC := .seq R92_23 R92_25
def R92_27 : RC := .seq R92_5 R92_26
def R92_28 : RC := .seq R92_0 R92_27

-- 93: (*lectern/fs.FS).step
def R93_0 : RC := .reg [⟨some 3, none, .box 167 (.tmp 1)⟩]
def R93_1 : RC := .draw [⟨some 4, none, .loadN 3 (.tmp 3)⟩,
    ⟨some 5, none, .mov (.tmp 0)⟩,
    ⟨some 6, none, .nilck (.tmp 5)⟩,
    ⟨some 7, none, .faddr 8 (.tmp 6)⟩,
    ⟨some 8, none, .load1 (.tmp 7)⟩,
    ⟨some 9, none, .call 98 [(.tmp 4), (.tmp 8)]⟩] [[⟨0, ⟨some 4, none, .loadN 3 (.tmp 3)⟩, true, []⟩,
    ⟨1, ⟨some 5, none, .mov (.tmp 0)⟩, false, []⟩,
    ⟨2, ⟨some 6, none, .nilck (.tmp 5)⟩, false, []⟩,
    ⟨3, ⟨some 7, none, .faddr 8 (.tmp 6)⟩, false, []⟩,
    ⟨4, ⟨some 8, none, .load1 (.tmp 7)⟩, true, []⟩],
   [⟨5, ⟨some 9, none, .call 98 [(.tmp 4), (.tmp 8)]⟩, false, []⟩]]
def R93_2 : RC := .draw [⟨some 10, none, .mov (.tmp 0)⟩,
    ⟨some 11, none, .mov (.tmp 0)⟩,
    ⟨some 12, none, .nilck (.tmp 11)⟩,
    ⟨some 13, none, .faddr 10 (.tmp 12)⟩,
    ⟨some 14, none, .load1 (.tmp 13)⟩,
    ⟨some 15, none, .loadN 3 (.tmp 3)⟩,
    ⟨some 16, none, .mkSl 167 3 1 #[.string ⟨#[]⟩, .string ⟨#[]⟩, .pointer none] [(0, (.tmp 15))]⟩,
    ⟨some 17, none, .app 167 3 40 (.agg #[.string ⟨#[]⟩, .string ⟨#[]⟩, .pointer none]) (.tmp 14) (.tmp 16)⟩,
    ⟨some 18, none, .nilck (.tmp 10)⟩,
    ⟨some 19, none, .faddr 10 (.tmp 18)⟩,
    ⟨none, none, .store 1 (.tmp 19) (.tmp 17)⟩] [[⟨0, ⟨some 10, none, .mov (.tmp 0)⟩, false, []⟩,
    ⟨1, ⟨some 11, none, .mov (.tmp 0)⟩, false, []⟩,
    ⟨2, ⟨some 12, none, .nilck (.tmp 11)⟩, false, []⟩,
    ⟨3, ⟨some 13, none, .faddr 10 (.tmp 12)⟩, false, []⟩,
    ⟨4, ⟨some 14, none, .load1 (.tmp 13)⟩, true, []⟩,
    ⟨5, ⟨some 15, none, .loadN 3 (.tmp 3)⟩, true, []⟩,
    ⟨6, ⟨some 16, none, .mkSl 167 3 1 #[.string ⟨#[]⟩, .string ⟨#[]⟩, .pointer none] [(0, (.tmp 15))]⟩, false, []⟩,
    ⟨7, ⟨some 17, none, .app 167 3 40 (.agg #[.string ⟨#[]⟩, .string ⟨#[]⟩, .pointer none]) (.tmp 14) (.tmp 16)⟩, false, []⟩],
   [⟨8, ⟨some 18, none, .nilck (.tmp 10)⟩, false, []⟩],
   [⟨9, ⟨some 19, none, .faddr 10 (.tmp 18)⟩, false, []⟩],
   [⟨10, ⟨none, none, .store 1 (.tmp 19) (.tmp 17)⟩, false, []⟩]]
def R93_3 : RC := .seq R93_1 R93_2
def R93_4 : RC := .seq R93_0 R93_3

-- 94: maps.Clone[map[string]*lectern/fs.file,string,*lectern/fs.file]
def R94_0 : RC := .reg [⟨some 2, none, .mov (.const (.map none))⟩]
def R94_1 : RC := .reg [⟨some 3, none, .mov (.tmp 0)⟩,
    ⟨some 4, none, .eqM false (.tmp 3) (.const (.map none))⟩]
def R94_2 : RC := .reg [⟨some 2, none, .mov (.const (.map none))⟩]
def R94_3 : RC := .seq R94_2 (.ret)
def R94_4 : RC := .cond (.tmp 4) R94_3 (.skip)
def R94_5 : RC := .seq R94_1 R94_4
def R94_6 : RC := .reg [⟨some 5, none, .mov (.tmp 0)⟩,
    ⟨some 6, none, .mkIf 108 (.tmp 5)⟩,
    ⟨some 7, none, .ext 129 [(.tmp 6)]⟩,
    ⟨some 8, none, .tass (.tmp 7) 20 108 false⟩,
    ⟨some 2, none, .mov (.tmp 8)⟩]
def R94_7 : RC := .seq R94_6 (.ret)
def R94_8 : RC := .seq R94_5 R94_7
def R94_9 : RC := .seq R94_0 R94_8

-- 60: (*lectern/fs.FS).is
def R60_0 : RC := .reg [⟨some 2, none, .mov (.const (.bool false))⟩]
def R60_1 : RC := .reg [⟨some 3, none, .mov (.tmp 0)⟩,
    ⟨some 4, none, .eqP true (.tmp 3) (.const (.pointer none))⟩,
    ⟨some 5, none, .mov (.tmp 4)⟩,
    ⟨some 6, some (5, true), .mov (.tmp 0)⟩,
    ⟨some 7, some (5, true), .nilck (.tmp 6)⟩,
    ⟨some 8, some (5, true), .faddr 0 (.tmp 7)⟩,
    ⟨some 9, some (5, true), .load1 (.tmp 8)⟩,
    ⟨some 10, some (5, true), .bin .eql 3 (.tmp 9) (.const (.int .i64 1))⟩,
    ⟨some 11, none, .pick (.tmp 5) (.tmp 10) (.const (.bool false))⟩,
    ⟨some 2, none, .mov (.tmp 11)⟩]
def R60_2 : RC := .seq R60_1 (.ret)
def R60_3 : RC := .seq R60_0 R60_2

-- 124: (*lectern/crc.Table).Sum
def R124_0 : RC := .reg [⟨some 4, none, .mov (.const (.int .u32 0))⟩]
def R124_1 : RC := .reg [⟨some 5, none, .mov (.tmp 0)⟩,
    ⟨some 6, none, .mov (.tmp 1)⟩,
    ⟨some 7, none, .call 140 [(.tmp 5), (.const (.int .u32 0)), (.tmp 6)]⟩,
    ⟨some 4, none, .mov (.tmp 7)⟩]
def R124_2 : RC := .seq R124_1 (.ret)
def R124_3 : RC := .seq R124_0 R124_2

-- 123: lectern/crc.Mask
def R123_0 : RC := .reg [⟨some 2, none, .mov (.const (.int .u32 0))⟩]
def R123_1 : RC := .reg [⟨some 3, none, .mov (.tmp 0)⟩,
    ⟨some 4, none, .call 121 [(.tmp 3), (.const (.int .i64 (-15)))]⟩,
    ⟨some 5, none, .bin .add 142 (.tmp 4) (.const (.int .u32 2726488792))⟩,
    ⟨some 2, none, .mov (.tmp 5)⟩]
def R123_2 : RC := .seq R123_1 (.ret)
def R123_3 : RC := .seq R123_0 R123_2

-- 122: lectern/wal.number
def R122_0 : RC := .reg [⟨some 4, none, .mov (.const (.slice none 0 0))⟩]
def R122_1 : RC := .reg [⟨some 7, none, .mov (.tmp 1)⟩,
    ⟨some 8, none, .mkSlice 5 1 1 (.int .u8 0) (.tmp 7) (.tmp 7)⟩,
    ⟨some 5, none, .mov (.tmp 8)⟩]
def R122_2 : RC := .reg [⟨some 9, none, .mov (.tmp 5)⟩,
    ⟨some 10, none, .lenS (.tmp 9)⟩,
    ⟨some 11, none, .mov (.const (.int .i64 0))⟩]
def R122_3 : RC := .reg [⟨some 12, none, .bin .lss 3 (.tmp 11) (.tmp 10)⟩]
def R122_4 : RC := .cond (.tmp 12) (.skip) (.exit 0)
def R122_5 : RC := .reg [⟨some 13, none, .mov (.tmp 11)⟩,
    ⟨some 6, none, .mov (.tmp 13)⟩]
def R122_6 : RC := .reg [⟨some 14, none, .mov (.tmp 5)⟩,
    ⟨some 15, none, .mov (.tmp 6)⟩,
    ⟨some 16, none, .mov (.tmp 0)⟩,
    ⟨some 17, none, .mov (.tmp 6)⟩,
    ⟨some 18, none, .bin .mul 3 (.const (.int .i64 8)) (.tmp 17)⟩,
    ⟨some 19, none, .bin .shr 142 (.tmp 16) (.tmp 18)⟩,
    ⟨some 20, none, .cvInt .u8 (.tmp 19)⟩,
    ⟨some 21, none, .ixS 1 (.tmp 14) (.tmp 15)⟩,
    ⟨none, none, .store 1 (.tmp 21) (.tmp 20)⟩]
def R122_7 : RC := .seq R122_5 R122_6
def R122_8 : RC := .block 1 R122_7
def R122_9 : RC := .reg [⟨some 22, none, .bin .add 3 (.tmp 11) (.const (.int .i64 1))⟩,
    ⟨some 11, none, .mov (.tmp 22)⟩]
def R122_10 : RC := .seq R122_8 R122_9
def R122_11 : RC := .seq R122_4 R122_10
def R122_12 : RC := .seq R122_3 R122_11
def R122_13 : RC := .loop R122_12
def R122_14 : RC := .block 0 R122_13
def R122_15 : RC := .seq R122_2 R122_14
def R122_16 : RC := .reg [⟨some 23, none, .mov (.tmp 5)⟩,
    ⟨some 4, none, .mov (.tmp 23)⟩]
def R122_17 : RC := .seq R122_16 (.ret)
def R122_18 : RC := .seq R122_15 R122_17
def R122_19 : RC := .seq R122_1 R122_18
def R122_20 : RC := .seq R122_0 R122_19

-- 125: lectern/wal.parts$1
def R125_0 : RC := .reg [⟨some 9, none, .call 65 []⟩,
    ⟨some 3, none, .mov (.tmp 9)⟩]
def R125_1 : RC := .reg [⟨some 4, none, .mov (.const (.int .i64 0))⟩]
def R125_2 : RC := .reg [⟨some 10, none, .mov (.tmp 4)⟩,
    ⟨some 11, none, .load1 (.tmp 1)⟩,
    ⟨some 12, none, .lenS (.tmp 11)⟩,
    ⟨some 13, none, .bin .lss 3 (.tmp 10) (.tmp 12)⟩]
def R125_3 : RC := .cond (.tmp 13) (.skip) (.exit 0)
def R125_4 : RC := .seq R125_2 R125_3
def R125_5 : RC := .reg [⟨some 14, none, .mov (.tmp 4)⟩,
    ⟨some 15, none, .bin .rem 3 (.tmp 14) (.const (.int .i64 512))⟩,
    ⟨some 16, none, .bin .sub 3 (.const (.int .i64 512)) (.tmp 15)⟩,
    ⟨some 5, none, .mov (.tmp 16)⟩]
def R125_6 : RC := .reg [⟨some 17, none, .mov (.tmp 5)⟩,
    ⟨some 18, none, .bin .lss 3 (.tmp 17) (.const (.int .i64 7))⟩]
def R125_7 : RC := .reg [⟨some 19, none, .mov (.tmp 4)⟩,
    ⟨some 6, none, .mov (.tmp 19)⟩]
def R125_8 : RC := .reg [⟨some 20, none, .mov (.tmp 6)⟩,
    ⟨some 21, none, .mov (.tmp 4)⟩,
    ⟨some 22, none, .mov (.tmp 5)⟩,
    ⟨some 23, none, .bin .add 3 (.tmp 21) (.tmp 22)⟩,
    ⟨some 24, none, .bin .lss 3 (.tmp 20) (.tmp 23)⟩]
def R125_9 : RC := .cond (.tmp 24) (.skip) (.exit 2)
def R125_10 : RC := .seq R125_8 R125_9
def R125_11 : RC := .reg [⟨some 27, none, .mov (.tmp 6)⟩,
    ⟨some 28, none, .load1 (.tmp 1)⟩,
    ⟨some 29, none, .lenS (.tmp 28)⟩,
    ⟨some 30, none, .bin .geq 3 (.tmp 27) (.tmp 29)⟩,
    ⟨some 31, none, .mov (.tmp 30)⟩,
    ⟨some 32, some (31, false), .load1 (.tmp 1)⟩,
    ⟨some 33, some (31, false), .mov (.tmp 6)⟩,
    ⟨some 34, some (31, false), .ixS 1 (.tmp 32) (.tmp 33)⟩,
    ⟨some 35, some (31, false), .load1 (.tmp 34)⟩,
    ⟨some 36, some (31, false), .bin .neq 5 (.tmp 35) (.const (.int .u8 0))⟩,
    ⟨some 37, none, .pick (.tmp 31) (.const (.bool true)) (.tmp 36)⟩]
def R125_12 : RC := .cond (.tmp 37) (.exit 0) (.skip)
def R125_13 : RC := .seq R125_11 R125_12
def R125_14 : RC := .block 3 R125_13
def R125_15 : RC := .reg [⟨some 25, none, .mov (.tmp 6)⟩,
    ⟨some 26, none, .bin .add 3 (.tmp 25) (.const (.int .i64 1))⟩,
    ⟨some 6, none, .mov (.tmp 26)⟩]
def R125_16 : RC := .seq R125_14 R125_15
def R125_17 : RC := .seq R125_10 R125_16
def R125_18 : RC := .loop R125_17
def R125_19 : RC := .block 2 R125_18
def R125_20 : RC := .seq R125_7 R125_19
def R125_21 : RC := .reg [⟨some 38, none, .mov (.tmp 4)⟩,
    ⟨some 39, none, .mov (.tmp 5)⟩,
    ⟨some 40, none, .bin .add 3 (.tmp 38) (.tmp 39)⟩,
    ⟨some 4, none, .mov (.tmp 40)⟩]
def R125_22 : RC := .seq R125_21 (.exit 1)
def R125_23 : RC := .seq R125_20 R125_22
def R125_24 : RC := .cond (.tmp 18) R125_23 (.skip)
def R125_25 : RC := .seq R125_6 R125_24
def R125_26 : RC := .reg [⟨some 41, none, .load1 (.tmp 1)⟩,
    ⟨some 42, none, .lenS (.tmp 41)⟩,
    ⟨some 43, none, .mov (.tmp 4)⟩,
    ⟨some 44, none, .bin .sub 3 (.tmp 42) (.tmp 43)⟩,
    ⟨some 45, none, .bin .lss 3 (.tmp 44) (.const (.int .i64 7))⟩]
def R125_27 : RC := .cond (.tmp 45) (.exit 0) (.skip)
def R125_28 : RC := .seq R125_26 R125_27
def R125_29 : RC := .draw [⟨some 46, none, .load1 (.tmp 1)⟩,
    ⟨some 47, none, .mov (.tmp 4)⟩,
    ⟨some 48, none, .bin .add 3 (.tmp 47) (.const (.int .i64 4))⟩,
    ⟨some 49, none, .ixS 1 (.tmp 46) (.tmp 48)⟩,
    ⟨some 50, none, .load1 (.tmp 49)⟩,
    ⟨some 51, none, .cvInt .i64 (.tmp 50)⟩,
    ⟨some 52, none, .load1 (.tmp 1)⟩,
    ⟨some 53, none, .mov (.tmp 4)⟩,
    ⟨some 54, none, .bin .add 3 (.tmp 53) (.const (.int .i64 5))⟩,
    ⟨some 55, none, .ixS 1 (.tmp 52) (.tmp 54)⟩,
    ⟨some 56, none, .load1 (.tmp 55)⟩,
    ⟨some 57, none, .cvInt .i64 (.tmp 56)⟩,
    ⟨some 58, none, .bin .shl 3 (.tmp 57) (.const (.int .u64 8))⟩,
    ⟨some 59, none, .bin .or 3 (.tmp 51) (.tmp 58)⟩,
    ⟨some 7, none, .mov (.tmp 59)⟩] [[⟨0, ⟨some 46, none, .load1 (.tmp 1)⟩, true, []⟩,
    ⟨1, ⟨some 47, none, .mov (.tmp 4)⟩, false, []⟩,
    ⟨2, ⟨some 48, none, .bin .add 3 (.tmp 47) (.const (.int .i64 4))⟩, false, []⟩,
    ⟨3, ⟨some 49, none, .ixS 1 (.tmp 46) (.tmp 48)⟩, false, []⟩,
    ⟨4, ⟨some 50, none, .load1 (.tmp 49)⟩, true, []⟩,
    ⟨5, ⟨some 51, none, .cvInt .i64 (.tmp 50)⟩, false, []⟩,
    ⟨6, ⟨some 52, none, .load1 (.tmp 1)⟩, true, []⟩,
    ⟨7, ⟨some 53, none, .mov (.tmp 4)⟩, false, []⟩,
    ⟨8, ⟨some 54, none, .bin .add 3 (.tmp 53) (.const (.int .i64 5))⟩, false, []⟩,
    ⟨9, ⟨some 55, none, .ixS 1 (.tmp 52) (.tmp 54)⟩, false, []⟩,
    ⟨10, ⟨some 56, none, .load1 (.tmp 55)⟩, true, []⟩,
    ⟨11, ⟨some 57, none, .cvInt .i64 (.tmp 56)⟩, false, []⟩,
    ⟨12, ⟨some 58, none, .bin .shl 3 (.tmp 57) (.const (.int .u64 8))⟩, false, []⟩],
   [⟨13, ⟨some 59, none, .bin .or 3 (.tmp 51) (.tmp 58)⟩, false, []⟩],
   [⟨14, ⟨some 7, none, .mov (.tmp 59)⟩, false, []⟩]]
def R125_30 : RC := .reg [⟨some 60, none, .mov (.tmp 7)⟩,
    ⟨some 61, none, .mov (.tmp 5)⟩,
    ⟨some 62, none, .bin .sub 3 (.tmp 61) (.const (.int .i64 7))⟩,
    ⟨some 63, none, .bin .gtr 3 (.tmp 60) (.tmp 62)⟩,
    ⟨some 64, none, .mov (.tmp 63)⟩,
    ⟨some 65, some (64, false), .load1 (.tmp 1)⟩,
    ⟨some 66, some (64, false), .lenS (.tmp 65)⟩,
    ⟨some 67, some (64, false), .mov (.tmp 4)⟩,
    ⟨some 68, some (64, false), .bin .sub 3 (.tmp 66) (.tmp 67)⟩,
    ⟨some 69, some (64, false), .bin .sub 3 (.tmp 68) (.const (.int .i64 7))⟩,
    ⟨some 70, some (64, false), .mov (.tmp 7)⟩,
    ⟨some 71, some (64, false), .bin .lss 3 (.tmp 69) (.tmp 70)⟩,
    ⟨some 72, none, .pick (.tmp 64) (.const (.bool true)) (.tmp 71)⟩]
def R125_31 : RC := .cond (.tmp 72) (.exit 0) (.skip)
def R125_32 : RC := .seq R125_30 R125_31
def R125_33 : RC := .reg [⟨some 73, none, .load1 (.tmp 1)⟩,
    ⟨some 74, none, .mov (.tmp 4)⟩,
    ⟨some 75, none, .bin .add 3 (.tmp 74) (.const (.int .i64 6))⟩,
    ⟨some 76, none, .mov (.tmp 4)⟩,
    ⟨some 77, none, .bin .add 3 (.tmp 76) (.const (.int .i64 7))⟩,
    ⟨some 78, none, .mov (.tmp 7)⟩,
    ⟨some 79, none, .bin .add 3 (.tmp 77) (.tmp 78)⟩,
    ⟨some 80, none, .slcL 1 (.tmp 73) (some (.tmp 75)) (some (.tmp 79)) none⟩,
    ⟨some 8, none, .mov (.tmp 80)⟩]
def R125_34 : RC := .draw [⟨some 81, none, .mov (.tmp 3)⟩,
    ⟨some 82, none, .mov (.tmp 8)⟩,
    ⟨some 83, none, .call 124 [(.tmp 81), (.tmp 82)]⟩,
    ⟨some 84, none, .call 123 [(.tmp 83)]⟩,
    ⟨some 85, none, .call 122 [(.tmp 84), (.const (.int .i64 4))]⟩,
    ⟨some 86, none, .load1 (.tmp 1)⟩,
    ⟨some 87, none, .mov (.tmp 4)⟩,
    ⟨some 88, none, .mov (.tmp 4)⟩,
    ⟨some 89, none, .bin .add 3 (.tmp 88) (.const (.int .i64 4))⟩,
    ⟨some 90, none, .slcL 1 (.tmp 86) (some (.tmp 87)) (some (.tmp 89)) none⟩,
    ⟨some 91, none, .call 126 [(.tmp 85), (.tmp 90)]⟩,
    ⟨some 92, none, .un .not (.tmp 91)⟩,
    ⟨some 93, none, .mov (.tmp 92)⟩,
    ⟨some 94, some (93, false), .mov (.tmp 8)⟩,
    ⟨some 95, some (93, false), .ixS 1 (.tmp 94) (.const (.int .i64 0))⟩,
    ⟨some 96, some (93, false), .load1 (.tmp 95)⟩,
    ⟨some 97, some (93, false), .bin .lss 5 (.tmp 96) (.const (.int .u8 1))⟩,
    ⟨some 98, none, .pick (.tmp 93) (.const (.bool true)) (.tmp 97)⟩,
    ⟨some 99, none, .mov (.tmp 98)⟩,
    ⟨some 100, some (99, false), .mov (.tmp 8)⟩,
    ⟨some 101, some (99, false), .ixS 1 (.tmp 100) (.const (.int .i64 0))⟩,
    ⟨some 102, some (99, false), .load1 (.tmp 101)⟩,
    ⟨some 103, some (99, false), .bin .gtr 5 (.tmp 102) (.const (.int .u8 4))⟩,
    ⟨some 104, none, .pick (.tmp 99) (.const (.bool true)) (.tmp 103)⟩] [[⟨0, ⟨some 81, none, .mov (.tmp 3)⟩, false, []⟩,
    ⟨1, ⟨some 82, none, .mov (.tmp 8)⟩, false, []⟩,
    ⟨5, ⟨some 86, none, .load1 (.tmp 1)⟩, true, []⟩,
    ⟨6, ⟨some 87, none, .mov (.tmp 4)⟩, false, []⟩,
    ⟨7, ⟨some 88, none, .mov (.tmp 4)⟩, false, []⟩,
    ⟨8, ⟨some 89, none, .bin .add 3 (.tmp 88) (.const (.int .i64 4))⟩, false, []⟩,
    ⟨9, ⟨some 90, none, .slcL 1 (.tmp 86) (some (.tmp 87)) (some (.tmp 89)) none⟩, false, []⟩,
    ⟨2, ⟨some 83, none, .call 124 [(.tmp 81), (.tmp 82)]⟩, false, [5, 15, 21]⟩,
    ⟨3, ⟨some 84, none, .call 123 [(.tmp 83)]⟩, false, [5, 15, 21]⟩,
    ⟨4, ⟨some 85, none, .call 122 [(.tmp 84), (.const (.int .i64 4))]⟩, false, [5, 15, 21]⟩],
   [⟨10, ⟨some 91, none, .call 126 [(.tmp 85), (.tmp 90)]⟩, false, [15, 21]⟩],
   [⟨11, ⟨some 92, none, .un .not (.tmp 91)⟩, false, []⟩],
   [⟨12, ⟨some 93, none, .mov (.tmp 92)⟩, false, []⟩],
   [⟨13, ⟨some 94, some (93, false), .mov (.tmp 8)⟩, false, []⟩],
   [⟨14, ⟨some 95, some (93, false), .ixS 1 (.tmp 94) (.const (.int .i64 0))⟩, false, []⟩],
   [⟨15, ⟨some 96, some (93, false), .load1 (.tmp 95)⟩, true, []⟩],
   [⟨16, ⟨some 97, some (93, false), .bin .lss 5 (.tmp 96) (.const (.int .u8 1))⟩, false, []⟩],
   [⟨17, ⟨some 98, none, .pick (.tmp 93) (.const (.bool true)) (.tmp 97)⟩, false, []⟩],
   [⟨18, ⟨some 99, none, .mov (.tmp 98)⟩, false, []⟩],
   [⟨19, ⟨some 100, some (99, false), .mov (.tmp 8)⟩, false, []⟩],
   [⟨20, ⟨some 101, some (99, false), .ixS 1 (.tmp 100) (.const (.int .i64 0))⟩, false, []⟩],
   [⟨21, ⟨some 102, some (99, false), .load1 (.tmp 101)⟩, true, []⟩],
   [⟨22, ⟨some 103, some (99, false), .bin .gtr 5 (.tmp 102) (.const (.int .u8 4))⟩, false, []⟩],
   [⟨23, ⟨some 104, none, .pick (.tmp 99) (.const (.bool true)) (.tmp 103)⟩, false, []⟩]]
def R125_35 : RC := .cond (.tmp 104) (.exit 0) (.skip)
def R125_36 : RC := .seq R125_34 R125_35
def R125_37 : RC := .reg [⟨some 105, none, .mov (.tmp 4)⟩,
    ⟨some 106, none, .mov (.tmp 7)⟩,
    ⟨some 107, none, .bin .add 3 (.const (.int .i64 7)) (.tmp 106)⟩,
    ⟨some 108, none, .bin .add 3 (.tmp 105) (.tmp 107)⟩,
    ⟨some 4, none, .mov (.tmp 108)⟩]
def R125_38 : RC := .draw [⟨some 109, none, .mov (.tmp 0)⟩,
    ⟨some 110, none, .mov (.tmp 8)⟩,
    ⟨some 111, none, .ixS 1 (.tmp 110) (.const (.int .i64 0))⟩,
    ⟨some 112, none, .load1 (.tmp 111)⟩,
    ⟨some 113, none, .mov (.tmp 8)⟩,
    ⟨some 114, none, .slcL 1 (.tmp 113) (some (.const (.int .i64 1))) none none⟩,
    ⟨some 115, none, .mov (.tmp 4)⟩,
    ⟨some 116, none, .build [(0, 1), (1, 1), (2, 1)] #[.int .u8 0, .slice none 0 0, .int .i64 0] [(0, (.tmp 112)), (1, (.tmp 114)), (2, (.tmp 115))]⟩,
    ⟨some 117, none, .callV (.tmp 109) [(.tmp 116)]⟩,
    ⟨some 118, none, .un .not (.tmp 117)⟩] [[⟨0, ⟨some 109, none, .mov (.tmp 0)⟩, false, []⟩,
    ⟨1, ⟨some 110, none, .mov (.tmp 8)⟩, false, []⟩,
    ⟨2, ⟨some 111, none, .ixS 1 (.tmp 110) (.const (.int .i64 0))⟩, false, []⟩,
    ⟨3, ⟨some 112, none, .load1 (.tmp 111)⟩, true, []⟩,
    ⟨4, ⟨some 113, none, .mov (.tmp 8)⟩, false, []⟩,
    ⟨5, ⟨some 114, none, .slcL 1 (.tmp 113) (some (.const (.int .i64 1))) none none⟩, false, []⟩,
    ⟨6, ⟨some 115, none, .mov (.tmp 4)⟩, false, []⟩,
    ⟨7, ⟨some 116, none, .build [(0, 1), (1, 1), (2, 1)] #[.int .u8 0, .slice none 0 0, .int .i64 0] [(0, (.tmp 112)), (1, (.tmp 114)), (2, (.tmp 115))]⟩, false, []⟩],
   [⟨8, ⟨some 117, none, .callV (.tmp 109) [(.tmp 116)]⟩, false, []⟩],
   [⟨9, ⟨some 118, none, .un .not (.tmp 117)⟩, false, []⟩]]
def R125_39 : RC := .cond (.tmp 118) (.ret) (.skip)
def R125_40 : RC := .seq R125_38 R125_39
def R125_41 : RC := .seq R125_37 R125_40
def R125_42 : RC := .seq R125_36 R125_41
def R125_43 : RC := .seq R125_33 R125_42
def R125_44 : RC := .seq R125_32 R125_43
def R125_45 : RC := .seq R125_29 R125_44
def R125_46 : RC := .seq R125_28 R125_45
def R125_47 : RC := .seq R125_25 R125_46
def R125_48 : RC := .seq R125_5 R125_47
def R125_49 : RC := .block 1 R125_48
def R125_50 : RC := .seq R125_4 R125_49
def R125_51 : RC := .loop R125_50
def R125_52 : RC := .block 0 R125_51
def R125_53 : RC := .seq (.label 0) R125_52
def R125_54 : RC := .seq R125_1 R125_53
def R125_55 : RC := .seq R125_0 R125_54
def R125_56 : RC := .scope R125_55

-- 79: (*sync/atomic.Int64).Add
def R79_0 : RC := .reg [⟨some 4, none, .mov (.const (.int .i64 0))⟩]
def R79_1 : RC := .reg [⟨some 5, none, .mov (.tmp 0)⟩,
    ⟨some 6, none, .nilck (.tmp 5)⟩,
    ⟨some 7, none, .faddr 0 (.tmp 6)⟩,
    ⟨some 8, none, .mov (.tmp 1)⟩,
    ⟨some 9, none, .ext 116 [(.tmp 7), (.tmp 8)]⟩,
    ⟨some 4, none, .mov (.tmp 9)⟩]
def R79_2 : RC := .seq R79_1 (.ret)
def R79_3 : RC := .seq R79_0 R79_2

-- 61: (*lectern/fs.FS).die
def R61_0 : RC := .reg [⟨some 1, none, .box 55 (.tmp 0)⟩]
def R61_1 : RC := .reg [⟨some 15, none, .load1 (.tmp 1)⟩,
    ⟨some 16, none, .nilck (.tmp 15)⟩,
    ⟨some 17, none, .faddr 7 (.tmp 16)⟩,
    ⟨none, none, .store 1 (.tmp 17) (.const (.bool true))⟩]
def R61_2 : RC := .reg [⟨some 2, none, .newv 3 (.int .i64 0)⟩,
    ⟨none, none, .store 1 (.tmp 2) (.const (.int .i64 0))⟩]
def R61_3 : RC := .reg [⟨some 18, none, .mkFn (.func 96) [] [(.tmp 1), (.tmp 2)]⟩,
    ⟨some 3, none, .mov (.tmp 18)⟩]
def R61_4 : RC := .draw [⟨some 19, none, .load1 (.tmp 1)⟩,
    ⟨some 20, none, .nilck (.tmp 19)⟩,
    ⟨some 21, none, .faddr 10 (.tmp 20)⟩,
    ⟨some 22, none, .load1 (.tmp 21)⟩,
    ⟨some 23, none, .mov (.tmp 3)⟩,
    ⟨some 24, none, .callV (.tmp 23) []⟩,
    ⟨some 25, none, .load1 (.tmp 1)⟩,
    ⟨some 26, none, .nilck (.tmp 25)⟩,
    ⟨some 27, none, .faddr 10 (.tmp 26)⟩,
    ⟨some 28, none, .load1 (.tmp 27)⟩,
    ⟨some 29, none, .lenS (.tmp 28)⟩,
    ⟨some 30, none, .call 97 [(.tmp 24), (.tmp 29)]⟩,
    ⟨some 31, none, .slcL 3 (.tmp 22) none (some (.tmp 30)) none⟩,
    ⟨some 32, none, .lenS (.tmp 31)⟩,
    ⟨some 33, none, .mov (.const (.int .i64 0))⟩] [[⟨0, ⟨some 19, none, .load1 (.tmp 1)⟩, true, []⟩,
    ⟨1, ⟨some 20, none, .nilck (.tmp 19)⟩, false, []⟩,
    ⟨2, ⟨some 21, none, .faddr 10 (.tmp 20)⟩, false, []⟩,
    ⟨3, ⟨some 22, none, .load1 (.tmp 21)⟩, true, []⟩,
    ⟨4, ⟨some 23, none, .mov (.tmp 3)⟩, false, []⟩,
    ⟨6, ⟨some 25, none, .load1 (.tmp 1)⟩, true, []⟩,
    ⟨7, ⟨some 26, none, .nilck (.tmp 25)⟩, false, []⟩,
    ⟨8, ⟨some 27, none, .faddr 10 (.tmp 26)⟩, false, []⟩,
    ⟨9, ⟨some 28, none, .load1 (.tmp 27)⟩, true, []⟩,
    ⟨10, ⟨some 29, none, .lenS (.tmp 28)⟩, false, []⟩,
    ⟨14, ⟨some 33, none, .mov (.const (.int .i64 0))⟩, false, []⟩,
    ⟨5, ⟨some 24, none, .callV (.tmp 23) []⟩, false, [0, 3, 6, 9]⟩,
    ⟨11, ⟨some 30, none, .call 97 [(.tmp 24), (.tmp 29)]⟩, false, [0, 3]⟩,
    ⟨12, ⟨some 31, none, .slcL 3 (.tmp 22) none (some (.tmp 30)) none⟩, false, []⟩,
    ⟨13, ⟨some 32, none, .lenS (.tmp 31)⟩, false, []⟩]]
def R61_5 : RC := .reg [⟨some 34, none, .bin .lss 3 (.tmp 33) (.tmp 32)⟩]
def R61_6 : RC := .cond (.tmp 34) (.skip) (.exit 0)
def R61_7 : RC := .reg [⟨some 35, none, .ixS 3 (.tmp 31) (.tmp 33)⟩,
    ⟨some 36, none, .loadN 3 (.tmp 35)⟩,
    ⟨some 5, none, .newv 167 (.agg #[.string ⟨#[]⟩, .string ⟨#[]⟩, .pointer none])⟩,
    ⟨none, none, .store 3 (.tmp 5) (.tmp 36)⟩]
def R61_8 : RC := .draw [⟨some 37, none, .loadN 3 (.tmp 5)⟩,
    ⟨some 38, none, .load1 (.tmp 1)⟩,
    ⟨some 39, none, .nilck (.tmp 38)⟩,
    ⟨some 40, none, .faddr 9 (.tmp 39)⟩,
    ⟨some 41, none, .load1 (.tmp 40)⟩,
    ⟨some 42, none, .call 98 [(.tmp 37), (.tmp 41)]⟩] [[⟨0, ⟨some 37, none, .loadN 3 (.tmp 5)⟩, true, []⟩,
    ⟨1, ⟨some 38, none, .load1 (.tmp 1)⟩, true, []⟩,
    ⟨2, ⟨some 39, none, .nilck (.tmp 38)⟩, false, []⟩,
    ⟨3, ⟨some 40, none, .faddr 9 (.tmp 39)⟩, false, []⟩,
    ⟨4, ⟨some 41, none, .load1 (.tmp 40)⟩, true, []⟩],
   [⟨5, ⟨some 42, none, .call 98 [(.tmp 37), (.tmp 41)]⟩, false, []⟩]]
def R61_9 : RC := .seq R61_7 R61_8
def R61_10 : RC := .block 1 R61_9
def R61_11 : RC := .reg [⟨some 43, none, .bin .add 3 (.tmp 33) (.const (.int .i64 1))⟩,
    ⟨some 33, none, .mov (.tmp 43)⟩]
def R61_12 : RC := .seq R61_10 R61_11
def R61_13 : RC := .seq R61_6 R61_12
def R61_14 : RC := .seq R61_5 R61_13
def R61_15 : RC := .loop R61_14
def R61_16 : RC := .block 0 R61_15
def R61_17 : RC := .seq R61_4 R61_16
def R61_18 : RC := .reg [⟨some 44, none, .mkMap⟩,
    ⟨some 6, none, .mov (.tmp 44)⟩]
def R61_19 : RC := .reg [⟨some 45, none, .load1 (.tmp 1)⟩,
    ⟨some 46, none, .nilck (.tmp 45)⟩,
    ⟨some 47, none, .faddr 9 (.tmp 46)⟩,
    ⟨some 48, none, .load1 (.tmp 47)⟩,
    ⟨some 49, none, .call 99 [(.tmp 48)]⟩,
    ⟨some 50, none, .lenS (.tmp 49)⟩,
    ⟨some 51, none, .mov (.const (.int .i64 0))⟩]
def R61_20 : RC := .reg [⟨some 52, none, .bin .lss 3 (.tmp 51) (.tmp 50)⟩]
def R61_21 : RC := .cond (.tmp 52) (.skip) (.exit 2)
def R61_22 : RC := .reg [⟨some 53, none, .ixS 1 (.tmp 49) (.tmp 51)⟩,
    ⟨some 54, none, .load1 (.tmp 53)⟩,
    ⟨some 8, none, .mov (.tmp 54)⟩]
def R61_23 : RC := .reg [⟨some 55, none, .load1 (.tmp 1)⟩,
    ⟨some 56, none, .nilck (.tmp 55)⟩,
    ⟨some 57, none, .faddr 9 (.tmp 56)⟩,
    ⟨some 58, none, .load1 (.tmp 57)⟩,
    ⟨some 59, none, .mov (.tmp 8)⟩,
    ⟨some 60, none, .raw (.lookup 108 (.tmp 58) (.tmp 59) false) 153⟩,
    ⟨some 9, none, .mov (.tmp 60)⟩]
def R61_24 : RC := .reg [⟨some 61, none, .mov (.tmp 6)⟩,
    ⟨some 62, none, .mov (.tmp 9)⟩,
    ⟨some 63, none, .raw (.lookup 172 (.tmp 61) (.tmp 62) false) 3⟩,
    ⟨some 64, none, .bin .gtr 3 (.tmp 63) (.const (.int .i64 0))⟩]
def R61_25 : RC := .cond (.tmp 64) (.exit 3) (.skip)
def R61_26 : RC := .seq R61_24 R61_25
def R61_27 : RC := .reg [⟨some 65, none, .mov (.tmp 6)⟩,
    ⟨some 66, none, .mov (.tmp 9)⟩,
    ⟨some 67, none, .raw (.lookup 172 (.tmp 65) (.tmp 66) false) 3⟩,
    ⟨some 68, none, .bin .add 3 (.tmp 67) (.const (.int .i64 1))⟩,
    ⟨none, none, .raw (.mapUpdate 172 (.tmp 65) (.tmp 66) (.tmp 68)) 0⟩]
def R61_28 : RC := .reg [⟨some 10, none, .mov (.const (.bool true))⟩]
def R61_29 : RC := .reg [⟨some 69, none, .mov (.tmp 9)⟩,
    ⟨some 70, none, .nilck (.tmp 69)⟩,
    ⟨some 71, none, .faddr 0 (.tmp 70)⟩,
    ⟨some 72, none, .load1 (.tmp 71)⟩,
    ⟨some 11, none, .mov (.tmp 72)⟩]
def R61_30 : RC := .reg [⟨some 73, none, .mov (.tmp 9)⟩,
    ⟨some 74, none, .nilck (.tmp 73)⟩,
    ⟨some 75, none, .faddr 1 (.tmp 74)⟩,
    ⟨some 76, none, .load1 (.tmp 75)⟩,
    ⟨some 77, none, .lenS (.tmp 76)⟩,
    ⟨some 78, none, .mov (.const (.int .i64 0))⟩]
def R61_31 : RC := .reg [⟨some 79, none, .bin .lss 3 (.tmp 78) (.tmp 77)⟩]
def R61_32 : RC := .cond (.tmp 79) (.skip) (.exit 4)
def R61_33 : RC := .reg [⟨some 80, none, .ixS 1 (.tmp 76) (.tmp 78)⟩,
    ⟨some 81, none, .load1 (.tmp 80)⟩,
    ⟨some 13, none, .mov (.tmp 81)⟩]
def R61_34 : RC := .reg [⟨some 82, none, .mov (.tmp 3)⟩,
    ⟨some 83, none, .callV (.tmp 82) []⟩,
    ⟨some 14, none, .mov (.tmp 83)⟩]
def R61_35 : RC := .reg [⟨some 84, none, .mov (.tmp 10)⟩]
def R61_36 : RC := .reg [⟨some 86, none, .mov (.tmp 13)⟩,
    ⟨some 87, none, .mov (.tmp 11)⟩,
    ⟨some 88, none, .mov (.tmp 14)⟩,
    ⟨some 89, none, .inv (.tmp 86) "lectern/fs.part" [(.tmp 87), (.tmp 88)]⟩,
    ⟨some 85, none, .mov (.tmp 89)⟩,
    ⟨some 90, none, .extr (.tmp 85) 0⟩,
    ⟨some 91, none, .extr (.tmp 85) 1⟩,
    ⟨some 11, none, .mov (.tmp 90)⟩,
    ⟨some 10, none, .mov (.tmp 91)⟩]
def R61_37 : RC := .cond (.tmp 84) R61_36 (.skip)
def R61_38 : RC := .seq R61_35 R61_37
def R61_39 : RC := .seq R61_34 R61_38
def R61_40 : RC := .seq R61_33 R61_39
def R61_41 : RC := .block 5 R61_40
def R61_42 : RC := .reg [⟨some 92, none, .bin .add 3 (.tmp 78) (.const (.int .i64 1))⟩,
    ⟨some 78, none, .mov (.tmp 92)⟩]
def R61_43 : RC := .seq R61_41 R61_42
def R61_44 : RC := .seq R61_32 R61_43
def R61_45 : RC := .seq R61_31 R61_44
def R61_46 : RC := .loop R61_45
def R61_47 : RC := .block 4 R61_46
def R61_48 : RC := .seq R61_30 R61_47
def R61_49 : RC := .reg [⟨some 93, none, .mov (.tmp 9)⟩,
    ⟨some 94, none, .mov (.tmp 9)⟩,
    ⟨some 95, none, .mov (.tmp 9)⟩,
    ⟨some 96, none, .mov (.tmp 11)⟩,
    ⟨some 97, none, .call 41 [(.tmp 96)]⟩,
    ⟨some 98, none, .mov (.tmp 11)⟩,
    ⟨some 99, none, .call 41 [(.tmp 98)]⟩,
    ⟨some 100, none, .nilck (.tmp 93)⟩,
    ⟨some 101, none, .faddr 0 (.tmp 100)⟩,
    ⟨none, none, .store 1 (.tmp 101) (.tmp 97)⟩,
    ⟨some 102, none, .nilck (.tmp 94)⟩,
    ⟨some 103, none, .faddr 2 (.tmp 102)⟩,
    ⟨none, none, .store 1 (.tmp 103) (.tmp 99)⟩,
    ⟨some 104, none, .nilck (.tmp 95)⟩,
    ⟨some 105, none, .faddr 1 (.tmp 104)⟩,
    ⟨none, none, .store 1 (.tmp 105) (.const (.slice none 0 0))⟩]
def R61_50 : RC := .seq R61_48 R61_49
def R61_51 : RC := .seq R61_29 R61_50
def R61_52 : RC := .seq R61_28 R61_51
def R61_53 : RC := .seq R61_27 R61_52
def R61_54 : RC := .seq R61_26 R61_53
def R61_55 : RC := .seq R61_23 R61_54
def R61_56 : RC := .seq R61_22 R61_55
def R61_57 : RC := .block 3 R61_56
def R61_58 : RC := .reg [⟨some 106, none, .bin .add 3 (.tmp 51) (.const (.int .i64 1))⟩,
    ⟨some 51, none, .mov (.tmp 106)⟩]
def R61_59 : RC := .seq R61_57 R61_58
def R61_60 : RC := .seq R61_21 R61_59
def R61_61 : RC := .seq R61_20 R61_60
def R61_62 : RC := .loop R61_61
def R61_63 : RC := .block 2 R61_62
def R61_64 : RC := .seq R61_19 R61_63
def R61_65 : RC := .draw [⟨some 107, none, .load1 (.tmp 1)⟩,
    ⟨some 108, none, .load1 (.tmp 1)⟩,
    ⟨some 109, none, .load1 (.tmp 1)⟩,
    ⟨some 110, none, .nilck (.tmp 109)⟩,
    ⟨some 111, none, .faddr 9 (.tmp 110)⟩,
    ⟨some 112, none, .load1 (.tmp 111)⟩,
    ⟨some 113, none, .call 94 [(.tmp 112)]⟩,
    ⟨some 114, none, .nilck (.tmp 107)⟩,
    ⟨some 115, none, .faddr 8 (.tmp 114)⟩,
    ⟨none, none, .store 1 (.tmp 115) (.tmp 113)⟩,
    ⟨some 116, none, .nilck (.tmp 108)⟩,
    ⟨some 117, none, .faddr 10 (.tmp 116)⟩,
    ⟨none, none, .store 1 (.tmp 117) (.const (.slice none 0 0))⟩] [[⟨0, ⟨some 107, none, .load1 (.tmp 1)⟩, true, []⟩,
    ⟨1, ⟨some 108, none, .load1 (.tmp 1)⟩, true, []⟩,
    ⟨2, ⟨some 109, none, .load1 (.tmp 1)⟩, true, []⟩,
    ⟨3, ⟨some 110, none, .nilck (.tmp 109)⟩, false, []⟩,
    ⟨4, ⟨some 111, none, .faddr 9 (.tmp 110)⟩, false, []⟩,
    ⟨5, ⟨some 112, none, .load1 (.tmp 111)⟩, true, []⟩,
    ⟨6, ⟨some 113, none, .call 94 [(.tmp 112)]⟩, false, [0, 1]⟩,
    ⟨7, ⟨some 114, none, .nilck (.tmp 107)⟩, false, []⟩,
    ⟨8, ⟨some 115, none, .faddr 8 (.tmp 114)⟩, false, []⟩,
    ⟨9, ⟨none, none, .store 1 (.tmp 115) (.tmp 113)⟩, false, [1]⟩],
   [⟨10, ⟨some 116, none, .nilck (.tmp 108)⟩, false, []⟩],
   [⟨11, ⟨some 117, none, .faddr 10 (.tmp 116)⟩, false, []⟩],
   [⟨12, ⟨none, none, .store 1 (.tmp 117) (.const (.slice none 0 0))⟩, false, []⟩]]
def R61_66 : RC := .seq R61_64 R61_65
def R61_67 : RC := .seq R61_18 R61_66
def R61_68 : RC := .seq R61_17 R61_67
def R61_69 : RC := .seq R61_3 R61_68
def R61_70 : RC := .seq R61_2 R61_69
def R61_71 : RC := .seq R61_1 R61_70
def R61_72 : RC := .seq R61_0 R61_71

-- 127: slices.Contains[[]int,int]
def R127_0 : RC := .reg [⟨some 4, none, .mov (.const (.bool false))⟩]
def R127_1 : RC := .reg [⟨some 5, none, .mov (.tmp 0)⟩,
    ⟨some 6, none, .mov (.tmp 1)⟩,
    ⟨some 7, none, .call 147 [(.tmp 5), (.tmp 6)]⟩,
    ⟨some 8, none, .bin .geq 3 (.tmp 7) (.const (.int .i64 0))⟩,
    ⟨some 4, none, .mov (.tmp 8)⟩]
def R127_2 : RC := .seq R127_1 (.ret)
def R127_3 : RC := .seq R127_0 R127_2

-- 128: (*lectern/fs.FS).Used
def R128_0 : RC := .reg [⟨some 2, none, .mov (.const (.int .i64 0))⟩]
def R128_1 : RC := .reg [⟨some 3, none, .mov (.const (.int .i64 0))⟩]
def R128_2 : RC := .reg [⟨some 6, none, .mov (.tmp 0)⟩,
    ⟨some 7, none, .call 148 [(.tmp 6)]⟩,
    ⟨some 8, none, .un .not (.tmp 7)⟩]
def R128_3 : RC := .reg [⟨some 9, none, .mov (.tmp 0)⟩,
    ⟨some 10, none, .nilck (.tmp 9)⟩,
    ⟨some 11, none, .faddr 8 (.tmp 10)⟩,
    ⟨some 12, none, .load1 (.tmp 11)⟩,
    ⟨some 13, none, .raw (.range 108 (.tmp 12)) 0⟩]
def R128_4 : RC := .reg [⟨some 14, none, .raw (.next (.tmp 13) false) 0⟩,
    ⟨some 15, none, .extr (.tmp 14) 0⟩]
def R128_5 : RC := .cond (.tmp 15) (.skip) (.exit 0)
def R128_6 : RC := .reg [⟨some 16, none, .raw (.entry (.tmp 13)) 0⟩,
    ⟨some 17, none, .extr (.tmp 16) 1⟩,
    ⟨some 5, none, .mov (.tmp 17)⟩]
def R128_7 : RC := .reg [⟨some 18, none, .mov (.tmp 3)⟩,
    ⟨some 19, none, .mov (.tmp 5)⟩,
    ⟨some 20, none, .nilck (.tmp 19)⟩,
    ⟨some 21, none, .faddr 2 (.tmp 20)⟩,
    ⟨some 22, none, .load1 (.tmp 21)⟩,
    ⟨some 23, none, .lenS (.tmp 22)⟩,
    ⟨some 24, none, .bin .add 3 (.tmp 18) (.tmp 23)⟩,
    ⟨some 3, none, .mov (.tmp 24)⟩]
def R128_8 : RC := .seq R128_6 R128_7
def R128_9 : RC := .block 1 R128_8
def R128_10 : RC := .seq R128_5 R128_9
def R128_11 : RC := .seq R128_4 R128_10
def R128_12 : RC := .loop R128_11
def R128_13 : RC := .block 0 R128_12
def R128_14 : RC := .seq R128_3 R128_13
def R128_15 : RC := .cond (.tmp 8) R128_14 (.skip)
def R128_16 : RC := .seq R128_2 R128_15
def R128_17 : RC := .reg [⟨some 25, none, .mov (.tmp 3)⟩,
    ⟨some 2, none, .mov (.tmp 25)⟩]
def R128_18 : RC := .seq R128_17 (.ret)
def R128_19 : RC := .seq R128_16 R128_18
def R128_20 : RC := .seq R128_1 R128_19
def R128_21 : RC := .seq R128_0 R128_20

-- 98: (lectern/fs.move).lay
def R98_0 : RC := .reg [⟨some 2, none, .box 167 (.tmp 0)⟩]
def R98_1 : RC := .reg [⟨some 4, none, .faddr 0 (.tmp 2)⟩,
    ⟨some 5, none, .load1 (.tmp 4)⟩,
    ⟨some 6, none, .bin .neq 9 (.tmp 5) (.const (.string ⟨#[]⟩))⟩]
def R98_2 : RC := .reg [⟨some 7, none, .mov (.tmp 1)⟩,
    ⟨some 8, none, .faddr 0 (.tmp 2)⟩,
    ⟨some 9, none, .load1 (.tmp 8)⟩,
    ⟨none, none, .bi .delete #[108, 9] 0 #[false, false] [(.tmp 7), (.tmp 9)]⟩]
def R98_3 : RC := .cond (.tmp 6) R98_2 (.skip)
def R98_4 : RC := .seq R98_1 R98_3
def R98_5 : RC := .reg [⟨some 10, none, .faddr 1 (.tmp 2)⟩,
    ⟨some 11, none, .load1 (.tmp 10)⟩,
    ⟨some 12, none, .bin .neq 9 (.tmp 11) (.const (.string ⟨#[]⟩))⟩]
def R98_6 : RC := .reg [⟨some 13, none, .mov (.tmp 1)⟩,
    ⟨some 14, none, .faddr 1 (.tmp 2)⟩,
    ⟨some 15, none, .load1 (.tmp 14)⟩,
    ⟨some 16, none, .faddr 2 (.tmp 2)⟩,
    ⟨some 17, none, .load1 (.tmp 16)⟩,
    ⟨none, none, .raw (.mapUpdate 108 (.tmp 13) (.tmp 15) (.tmp 17)) 0⟩]
def R98_7 : RC := .cond (.tmp 12) R98_6 (.skip)
def R98_8 : RC := .seq R98_5 R98_7
def R98_9 : RC := .seq R98_4 R98_8
def R98_10 : RC := .seq R98_0 R98_9

-- 140: (*lectern/crc.Table).Extend
def R140_0 : RC := .reg [⟨some 3, none, .box 25 (.tmp 0)⟩,
    ⟨some 6, none, .mov (.const (.int .u32 0))⟩]
def R140_1 : RC := .reg [⟨some 9, none, .load1 (.tmp 3)⟩,
    ⟨some 10, none, .eqP false (.tmp 9) (.const (.pointer none))⟩,
    ⟨some 11, none, .mov (.tmp 10)⟩,
    ⟨some 12, some (11, false), .load1 (.tmp 3)⟩,
    ⟨some 13, some (11, false), .nilck (.tmp 12)⟩,
    ⟨some 14, some (11, false), .faddr 0 (.tmp 13)⟩,
    ⟨some 15, some (11, false), .load1 (.tmp 14)⟩,
    ⟨some 16, some (11, false), .bin .neq 3 (.tmp 15) (.const (.int .i64 1))⟩,
    ⟨some 17, none, .pick (.tmp 11) (.const (.bool true)) (.tmp 16)⟩]
def R140_2 : RC := .reg [⟨some 6, none, .mov (.const (.int .u32 0))⟩]
def R140_3 : RC := .seq R140_2 (.ret)
def R140_4 : RC := .cond (.tmp 17) R140_3 (.skip)
def R140_5 : RC := .seq R140_1 R140_4
def R140_6 : RC := .reg [⟨some 18, none, .mov (.tmp 2)⟩,
    ⟨some 19, none, .lenS (.tmp 18)⟩,
    ⟨some 20, none, .bin .eql 3 (.tmp 19) (.const (.int .i64 0))⟩]
def R140_7 : RC := .reg [⟨some 21, none, .mov (.tmp 1)⟩,
    ⟨some 6, none, .mov (.tmp 21)⟩]
def R140_8 : RC := .seq R140_7 (.ret)
def R140_9 : RC := .cond (.tmp 20) R140_8 (.skip)
def R140_10 : RC := .seq R140_6 R140_9
def R140_11 : RC := .reg [⟨some 22, none, .load1 (.tmp 3)⟩,
    ⟨some 23, none, .call 158 [(.tmp 22)]⟩]
def R140_12 : RC := .reg [⟨some 24, none, .mov (.tmp 1)⟩,
    ⟨some 25, none, .un .xor (.tmp 24)⟩,
    ⟨some 7, none, .newv 142 (.int .u32 0)⟩,
    ⟨none, none, .store 1 (.tmp 7) (.tmp 25)⟩]
def R140_13 : RC := .reg [⟨some 26, none, .mov (.tmp 2)⟩,
    ⟨some 27, none, .call 159 [(.tmp 26)]⟩]
def R140_14 : RC := .reg [⟨some 8, none, .mov (.tmp 28)⟩]
def R140_15 : RC := .draw [⟨some 29, none, .load1 (.tmp 3)⟩,
    ⟨some 30, none, .load1 (.tmp 7)⟩,
    ⟨some 31, none, .cvInt .u8 (.tmp 30)⟩,
    ⟨some 32, none, .mov (.tmp 8)⟩,
    ⟨some 33, none, .bin .xor 5 (.tmp 31) (.tmp 32)⟩,
    ⟨some 34, none, .nilck (.tmp 29)⟩,
    ⟨some 35, none, .faddr 5 (.tmp 34)⟩,
    ⟨some 36, none, .ixA 1 256 (.tmp 35) (.tmp 33)⟩,
    ⟨some 37, none, .load1 (.tmp 36)⟩,
    ⟨some 38, none, .load1 (.tmp 7)⟩,
    ⟨some 39, none, .bin .shr 142 (.tmp 38) (.const (.int .u64 8))⟩,
    ⟨some 40, none, .bin .xor 142 (.tmp 37) (.tmp 39)⟩,
    ⟨none, none, .store 1 (.tmp 7) (.tmp 40)⟩] [[⟨0, ⟨some 29, none, .load1 (.tmp 3)⟩, true, []⟩,
    ⟨1, ⟨some 30, none, .load1 (.tmp 7)⟩, true, []⟩,
    ⟨2, ⟨some 31, none, .cvInt .u8 (.tmp 30)⟩, false, []⟩,
    ⟨3, ⟨some 32, none, .mov (.tmp 8)⟩, false, []⟩,
    ⟨4, ⟨some 33, none, .bin .xor 5 (.tmp 31) (.tmp 32)⟩, false, []⟩,
    ⟨5, ⟨some 34, none, .nilck (.tmp 29)⟩, false, []⟩,
    ⟨6, ⟨some 35, none, .faddr 5 (.tmp 34)⟩, false, []⟩,
    ⟨7, ⟨some 36, none, .ixA 1 256 (.tmp 35) (.tmp 33)⟩, false, []⟩,
    ⟨8, ⟨some 37, none, .load1 (.tmp 36)⟩, true, []⟩,
    ⟨9, ⟨some 38, none, .load1 (.tmp 7)⟩, true, []⟩,
    ⟨10, ⟨some 39, none, .bin .shr 142 (.tmp 38) (.const (.int .u64 8))⟩, false, []⟩],
   [⟨11, ⟨some 40, none, .bin .xor 142 (.tmp 37) (.tmp 39)⟩, false, []⟩],
   [⟨12, ⟨none, none, .store 1 (.tmp 7) (.tmp 40)⟩, false, []⟩]]
def R140_16 : RC := .block 1 R140_15
def R140_17 : RC := .range (.tmp 27) #[28] R140_14 R140_16
def R140_18 : RC := .block 0 R140_17
def R140_19 : RC := .seq R140_13 R140_18
def R140_20 : RC := .reg [⟨some 41, none, .load1 (.tmp 7)⟩,
    ⟨some 42, none, .un .xor (.tmp 41)⟩,
    ⟨some 6, none, .mov (.tmp 42)⟩]
def R140_21 : RC := .seq R140_20 (.ret)
def R140_22 : RC := .seq R140_19 R140_21
def R140_23 : RC := .seq R140_12 R140_22
def R140_24 : RC := .seq R140_11 R140_23
def R140_25 : RC := .seq R140_10 R140_24
def R140_26 : RC := .seq R140_5 R140_25
def R140_27 : RC := .seq R140_0 R140_26

-- 121: math/bits.RotateLeft32
def R121_0 : RC := .reg [⟨some 4, none, .mov (.const (.int .u32 0))⟩]
def R121_1 : RC := .reg [⟨some 6, none, .mov (.tmp 1)⟩,
    ⟨some 7, none, .cvInt .u64 (.tmp 6)⟩,
    ⟨some 8, none, .bin .and 206 (.tmp 7) (.const (.int .u64 31))⟩,
    ⟨some 5, none, .mov (.tmp 8)⟩]
def R121_2 : RC := .reg [⟨some 9, none, .mov (.tmp 0)⟩,
    ⟨some 10, none, .mov (.tmp 5)⟩,
    ⟨some 11, none, .bin .shl 142 (.tmp 9) (.tmp 10)⟩,
    ⟨some 12, none, .mov (.tmp 0)⟩,
    ⟨some 13, none, .mov (.tmp 5)⟩,
    ⟨some 14, none, .bin .sub 206 (.const (.int .u64 32)) (.tmp 13)⟩,
    ⟨some 15, none, .bin .shr 142 (.tmp 12) (.tmp 14)⟩,
    ⟨some 16, none, .bin .or 142 (.tmp 11) (.tmp 15)⟩,
    ⟨some 4, none, .mov (.tmp 16)⟩]
def R121_3 : RC := .seq R121_2 (.ret)
def R121_4 : RC := .seq R121_1 R121_3
def R121_5 : RC := .seq R121_0 R121_4

-- 126: slices.Equal[[]byte,byte]
def R126_0 : RC := .reg [⟨some 4, none, .mov (.const (.bool false))⟩]
def R126_1 : RC := .reg [⟨some 6, none, .mov (.tmp 0)⟩,
    ⟨some 7, none, .lenS (.tmp 6)⟩,
    ⟨some 8, none, .mov (.tmp 1)⟩,
    ⟨some 9, none, .lenS (.tmp 8)⟩,
    ⟨some 10, none, .bin .neq 3 (.tmp 7) (.tmp 9)⟩]
def R126_2 : RC := .reg [⟨some 4, none, .mov (.const (.bool false))⟩]
def R126_3 : RC := .seq R126_2 (.ret)
def R126_4 : RC := .cond (.tmp 10) R126_3 (.skip)
def R126_5 : RC := .seq R126_1 R126_4
def R126_6 : RC := .reg [⟨some 11, none, .mov (.tmp 0)⟩,
    ⟨some 12, none, .lenS (.tmp 11)⟩,
    ⟨some 13, none, .mov (.const (.int .i64 0))⟩]
def R126_7 : RC := .reg [⟨some 14, none, .bin .lss 3 (.tmp 13) (.tmp 12)⟩]
def R126_8 : RC := .cond (.tmp 14) (.skip) (.exit 0)
def R126_9 : RC := .reg [⟨some 15, none, .mov (.tmp 13)⟩,
    ⟨some 5, none, .mov (.tmp 15)⟩]
def R126_10 : RC := .draw [⟨some 16, none, .mov (.tmp 0)⟩,
    ⟨some 17, none, .mov (.tmp 5)⟩,
    ⟨some 18, none, .ixS 1 (.tmp 16) (.tmp 17)⟩,
    ⟨some 19, none, .load1 (.tmp 18)⟩,
    ⟨some 20, none, .mov (.tmp 1)⟩,
    ⟨some 21, none, .mov (.tmp 5)⟩,
    ⟨some 22, none, .ixS 1 (.tmp 20) (.tmp 21)⟩,
    ⟨some 23, none, .load1 (.tmp 22)⟩,
    ⟨some 24, none, .bin .neq 5 (.tmp 19) (.tmp 23)⟩] [[⟨0, ⟨some 16, none, .mov (.tmp 0)⟩, false, []⟩,
    ⟨1, ⟨some 17, none, .mov (.tmp 5)⟩, false, []⟩,
    ⟨2, ⟨some 18, none, .ixS 1 (.tmp 16) (.tmp 17)⟩, false, []⟩,
    ⟨3, ⟨some 19, none, .load1 (.tmp 18)⟩, true, []⟩,
    ⟨4, ⟨some 20, none, .mov (.tmp 1)⟩, false, []⟩,
    ⟨5, ⟨some 21, none, .mov (.tmp 5)⟩, false, []⟩,
    ⟨6, ⟨some 22, none, .ixS 1 (.tmp 20) (.tmp 21)⟩, false, []⟩,
    ⟨7, ⟨some 23, none, .load1 (.tmp 22)⟩, true, []⟩],
   [⟨8, ⟨some 24, none, .bin .neq 5 (.tmp 19) (.tmp 23)⟩, false, []⟩]]
def R126_11 : RC := .reg [⟨some 4, none, .mov (.const (.bool false))⟩]
def R126_12 : RC := .seq R126_11 (.ret)
def R126_13 : RC := .cond (.tmp 24) R126_12 (.skip)
def R126_14 : RC := .seq R126_10 R126_13
def R126_15 : RC := .seq R126_9 R126_14
def R126_16 : RC := .block 1 R126_15
def R126_17 : RC := .reg [⟨some 25, none, .bin .add 3 (.tmp 13) (.const (.int .i64 1))⟩,
    ⟨some 13, none, .mov (.tmp 25)⟩]
def R126_18 : RC := .seq R126_16 R126_17
def R126_19 : RC := .seq R126_8 R126_18
def R126_20 : RC := .seq R126_7 R126_19
def R126_21 : RC := .loop R126_20
def R126_22 : RC := .block 0 R126_21
def R126_23 : RC := .seq R126_6 R126_22
def R126_24 : RC := .reg [⟨some 4, none, .mov (.const (.bool true))⟩]
def R126_25 : RC := .seq R126_24 (.ret)
def R126_26 : RC := .seq R126_23 R126_25
def R126_27 : RC := .seq R126_5 R126_26
def R126_28 : RC := .seq R126_0 R126_27

-- 116: sync/atomic.AddInt64
-- 96: (*lectern/fs.FS).die$1
def R96_0 : RC := .reg [⟨some 2, none, .mov (.const (.int .i64 0))⟩]
def R96_1 : RC := .reg [⟨some 4, none, .load1 (.tmp 0)⟩,
    ⟨some 5, none, .nilck (.tmp 4)⟩,
    ⟨some 6, none, .faddr 1 (.tmp 5)⟩,
    ⟨some 7, none, .faddr 1 (.tmp 6)⟩,
    ⟨some 8, none, .load1 (.tmp 7)⟩,
    ⟨some 9, none, .lenS (.tmp 8)⟩,
    ⟨some 10, none, .bin .eql 3 (.tmp 9) (.const (.int .i64 0))⟩]
def R96_2 : RC := .reg [⟨some 2, none, .mov (.const (.int .i64 0))⟩]
def R96_3 : RC := .seq R96_2 (.ret)
def R96_4 : RC := .cond (.tmp 10) R96_3 (.skip)
def R96_5 : RC := .seq R96_1 R96_4
def R96_6 : RC := .draw [⟨some 11, none, .load1 (.tmp 0)⟩,
    ⟨some 12, none, .nilck (.tmp 11)⟩,
    ⟨some 13, none, .faddr 1 (.tmp 12)⟩,
    ⟨some 14, none, .faddr 1 (.tmp 13)⟩,
    ⟨some 15, none, .load1 (.tmp 14)⟩,
    ⟨some 16, none, .load1 (.tmp 1)⟩,
    ⟨some 17, none, .load1 (.tmp 0)⟩,
    ⟨some 18, none, .nilck (.tmp 17)⟩,
    ⟨some 19, none, .faddr 1 (.tmp 18)⟩,
    ⟨some 20, none, .faddr 1 (.tmp 19)⟩,
    ⟨some 21, none, .load1 (.tmp 20)⟩,
    ⟨some 22, none, .lenS (.tmp 21)⟩,
    ⟨some 23, none, .bin .rem 3 (.tmp 16) (.tmp 22)⟩,
    ⟨some 24, none, .ixS 1 (.tmp 15) (.tmp 23)⟩,
    ⟨some 25, none, .load1 (.tmp 24)⟩,
    ⟨some 3, none, .mov (.tmp 25)⟩] [[⟨0, ⟨some 11, none, .load1 (.tmp 0)⟩, true, []⟩,
    ⟨1, ⟨some 12, none, .nilck (.tmp 11)⟩, false, []⟩,
    ⟨2, ⟨some 13, none, .faddr 1 (.tmp 12)⟩, false, []⟩,
    ⟨3, ⟨some 14, none, .faddr 1 (.tmp 13)⟩, false, []⟩,
    ⟨4, ⟨some 15, none, .load1 (.tmp 14)⟩, true, []⟩,
    ⟨5, ⟨some 16, none, .load1 (.tmp 1)⟩, true, []⟩,
    ⟨6, ⟨some 17, none, .load1 (.tmp 0)⟩, true, []⟩,
    ⟨7, ⟨some 18, none, .nilck (.tmp 17)⟩, false, []⟩,
    ⟨8, ⟨some 19, none, .faddr 1 (.tmp 18)⟩, false, []⟩,
    ⟨9, ⟨some 20, none, .faddr 1 (.tmp 19)⟩, false, []⟩,
    ⟨10, ⟨some 21, none, .load1 (.tmp 20)⟩, true, []⟩,
    ⟨11, ⟨some 22, none, .lenS (.tmp 21)⟩, false, []⟩,
    ⟨12, ⟨some 23, none, .bin .rem 3 (.tmp 16) (.tmp 22)⟩, false, []⟩],
   [⟨13, ⟨some 24, none, .ixS 1 (.tmp 15) (.tmp 23)⟩, false, []⟩],
   [⟨14, ⟨some 25, none, .load1 (.tmp 24)⟩, true, []⟩],
   [⟨15, ⟨some 3, none, .mov (.tmp 25)⟩, false, []⟩]]
def R96_7 : RC := .reg [⟨some 26, none, .load1 (.tmp 1)⟩,
    ⟨some 27, none, .bin .add 3 (.tmp 26) (.const (.int .i64 1))⟩,
    ⟨none, none, .store 1 (.tmp 1) (.tmp 27)⟩]
def R96_8 : RC := .reg [⟨some 28, none, .mov (.tmp 3)⟩,
    ⟨some 2, none, .mov (.tmp 28)⟩]
def R96_9 : RC := .seq R96_8 (.ret)
def R96_10 : RC := .seq R96_7 R96_9
def R96_11 : RC := .seq R96_6 R96_10
def R96_12 : RC := .seq R96_5 R96_11
def R96_13 : RC := .seq R96_0 R96_12

-- 97: lectern/fs.survive
def R97_0 : RC := .reg [⟨some 4, none, .mov (.const (.int .i64 0))⟩]
def R97_1 : RC := .reg [⟨some 5, none, .mov (.tmp 0)⟩,
    ⟨some 6, none, .bin .lss 3 (.tmp 5) (.const (.int .i64 0))⟩]
def R97_2 : RC := .reg [⟨some 7, none, .mov (.tmp 1)⟩,
    ⟨some 4, none, .mov (.tmp 7)⟩]
def R97_3 : RC := .seq R97_2 (.ret)
def R97_4 : RC := .cond (.tmp 6) R97_3 (.skip)
def R97_5 : RC := .seq R97_1 R97_4
def R97_6 : RC := .reg [⟨some 8, none, .mov (.tmp 0)⟩,
    ⟨some 9, none, .mov (.tmp 1)⟩,
    ⟨some 10, none, .bin .add 3 (.tmp 9) (.const (.int .i64 1))⟩,
    ⟨some 11, none, .bin .rem 3 (.tmp 8) (.tmp 10)⟩,
    ⟨some 4, none, .mov (.tmp 11)⟩]
def R97_7 : RC := .seq R97_6 (.ret)
def R97_8 : RC := .seq R97_5 R97_7
def R97_9 : RC := .seq R97_0 R97_8

-- 99: lectern/fs.names
def R99_0 : RC := .reg [⟨some 2, none, .mov (.const (.slice none 0 0))⟩]
def R99_1 : RC := .reg [⟨some 3, none, .mov (.tmp 0)⟩,
    ⟨some 4, none, .call 131 [(.tmp 3)]⟩,
    ⟨some 5, none, .call 130 [(.tmp 4)]⟩,
    ⟨some 2, none, .mov (.tmp 5)⟩]
def R99_2 : RC := .seq R99_1 (.ret)
def R99_3 : RC := .seq R99_0 R99_2

-- 147: slices.Index[[]int,int]
def R147_0 : RC := .reg [⟨some 4, none, .mov (.const (.int .i64 0))⟩]
def R147_1 : RC := .reg [⟨some 6, none, .mov (.tmp 0)⟩,
    ⟨some 7, none, .lenS (.tmp 6)⟩,
    ⟨some 8, none, .mov (.const (.int .i64 0))⟩]
def R147_2 : RC := .reg [⟨some 9, none, .bin .lss 3 (.tmp 8) (.tmp 7)⟩]
def R147_3 : RC := .cond (.tmp 9) (.skip) (.exit 0)
def R147_4 : RC := .reg [⟨some 10, none, .mov (.tmp 8)⟩,
    ⟨some 5, none, .mov (.tmp 10)⟩]
def R147_5 : RC := .reg [⟨some 11, none, .mov (.tmp 1)⟩,
    ⟨some 12, none, .mov (.tmp 0)⟩,
    ⟨some 13, none, .mov (.tmp 5)⟩,
    ⟨some 14, none, .ixS 1 (.tmp 12) (.tmp 13)⟩,
    ⟨some 15, none, .load1 (.tmp 14)⟩,
    ⟨some 16, none, .bin .eql 3 (.tmp 11) (.tmp 15)⟩]
def R147_6 : RC := .reg [⟨some 17, none, .mov (.tmp 5)⟩,
    ⟨some 4, none, .mov (.tmp 17)⟩]
def R147_7 : RC := .seq R147_6 (.ret)
def R147_8 : RC := .cond (.tmp 16) R147_7 (.skip)
def R147_9 : RC := .seq R147_5 R147_8
def R147_10 : RC := .seq R147_4 R147_9
def R147_11 : RC := .block 1 R147_10
def R147_12 : RC := .reg [⟨some 18, none, .bin .add 3 (.tmp 8) (.const (.int .i64 1))⟩,
    ⟨some 8, none, .mov (.tmp 18)⟩]
def R147_13 : RC := .seq R147_11 R147_12
def R147_14 : RC := .seq R147_3 R147_13
def R147_15 : RC := .seq R147_2 R147_14
def R147_16 : RC := .loop R147_15
def R147_17 : RC := .block 0 R147_16
def R147_18 : RC := .seq R147_1 R147_17
def R147_19 : RC := .reg [⟨some 4, none, .mov (.const (.int .i64 (-1)))⟩]
def R147_20 : RC := .seq R147_19 (.ret)
def R147_21 : RC := .seq R147_18 R147_20
def R147_22 : RC := .seq R147_0 R147_21

-- 148: (*lectern/fs.FS).Dead
def R148_0 : RC := .reg [⟨some 2, none, .mov (.const (.bool false))⟩]
def R148_1 : RC := .reg [⟨some 3, none, .mov (.tmp 0)⟩,
    ⟨some 4, none, .call 60 [(.tmp 3)]⟩,
    ⟨some 5, none, .un .not (.tmp 4)⟩,
    ⟨some 6, none, .mov (.tmp 5)⟩,
    ⟨some 7, some (6, false), .mov (.tmp 0)⟩,
    ⟨some 8, some (6, false), .nilck (.tmp 7)⟩,
    ⟨some 9, some (6, false), .faddr 7 (.tmp 8)⟩,
    ⟨some 10, some (6, false), .load1 (.tmp 9)⟩,
    ⟨some 11, none, .pick (.tmp 6) (.const (.bool true)) (.tmp 10)⟩,
    ⟨some 2, none, .mov (.tmp 11)⟩]
def R148_2 : RC := .seq R148_1 (.ret)
def R148_3 : RC := .seq R148_0 R148_2

-- 158: (*lectern/crc.Table).ready
def R158_0 : RC := .reg [⟨some 2, none, .mov (.const (.bool false))⟩]
def R158_1 : RC := .reg [⟨some 3, none, .mov (.tmp 0)⟩,
    ⟨some 4, none, .eqP false (.tmp 3) (.const (.pointer none))⟩,
    ⟨some 5, none, .mov (.tmp 4)⟩,
    ⟨some 6, some (5, false), .mov (.tmp 0)⟩,
    ⟨some 7, some (5, false), .nilck (.tmp 6)⟩,
    ⟨some 8, some (5, false), .faddr 0 (.tmp 7)⟩,
    ⟨some 9, some (5, false), .load1 (.tmp 8)⟩,
    ⟨some 10, some (5, false), .bin .neq 3 (.tmp 9) (.const (.int .i64 1))⟩,
    ⟨some 11, none, .pick (.tmp 5) (.const (.bool true)) (.tmp 10)⟩]
def R158_2 : RC := .reg [⟨some 2, none, .mov (.const (.bool false))⟩]
def R158_3 : RC := .seq R158_2 (.ret)
def R158_4 : RC := .cond (.tmp 11) R158_3 (.skip)
def R158_5 : RC := .seq R158_1 R158_4
def R158_6 : RC := .reg [⟨some 12, none, .mov (.tmp 0)⟩,
    ⟨some 13, none, .nilck (.tmp 12)⟩,
    ⟨some 14, none, .faddr 1 (.tmp 13)⟩,
    ⟨some 15, none, .mov (.tmp 0)⟩,
    ⟨some 16, none, .mkFn (.func 175) [(.tmp 15)] []⟩,
    ⟨some 17, none, .call 174 [(.tmp 14), (.tmp 16)]⟩]
def R158_7 : RC := .reg [⟨some 2, none, .mov (.const (.bool true))⟩]
def R158_8 : RC := .seq R158_7 (.ret)
def R158_9 : RC := .seq R158_6 R158_8
def R158_10 : RC := .seq R158_5 R158_9
def R158_11 : RC := .seq R158_0 R158_10

-- 159: slices.Values[[]byte,byte]
def R159_0 : RC := .reg [⟨some 1, none, .box 22 (.tmp 0)⟩,
    ⟨some 2, none, .mov (.const (.nilFunc))⟩]
def R159_1 : RC := .reg [⟨some 3, none, .mkFn (.func 176) [] [(.tmp 1)]⟩,
    ⟨some 2, none, .mov (.tmp 3)⟩]
def R159_2 : RC := .seq R159_1 (.ret)
def R159_3 : RC := .seq R159_0 R159_2

-- 131: maps.Keys[map[string]*lectern/fs.file,string,*lectern/fs.file]
def R131_0 : RC := .reg [⟨some 1, none, .box 108 (.tmp 0)⟩,
    ⟨some 2, none, .mov (.const (.nilFunc))⟩]
def R131_1 : RC := .reg [⟨some 3, none, .mkFn (.func 151) [] [(.tmp 1)]⟩,
    ⟨some 2, none, .mov (.tmp 3)⟩]
def R131_2 : RC := .seq R131_1 (.ret)
def R131_3 : RC := .seq R131_0 R131_2

-- 130: slices.Sorted[string]
def R130_0 : RC := .reg [⟨some 2, none, .mov (.const (.slice none 0 0))⟩]
def R130_1 : RC := .reg [⟨some 4, none, .mov (.tmp 0)⟩,
    ⟨some 5, none, .call 149 [(.tmp 4)]⟩,
    ⟨some 3, none, .mov (.tmp 5)⟩]
def R130_2 : RC := .reg [⟨some 6, none, .mov (.tmp 3)⟩,
    ⟨some 7, none, .call 150 [(.tmp 6)]⟩]
def R130_3 : RC := .reg [⟨some 8, none, .mov (.tmp 3)⟩,
    ⟨some 2, none, .mov (.tmp 8)⟩]
def R130_4 : RC := .seq R130_3 (.ret)
def R130_5 : RC := .seq R130_2 R130_4
def R130_6 : RC := .seq R130_1 R130_5
def R130_7 : RC := .seq R130_0 R130_6

-- 175: (*lectern/crc.Table).reckon
def R175_0 : RC := .reg [⟨some 5, none, .mov (.const (.int .i64 0))⟩]
def R175_1 : RC := .reg [⟨some 6, none, .bin .lss 3 (.tmp 5) (.const (.int .i64 256))⟩]
def R175_2 : RC := .cond (.tmp 6) (.skip) (.exit 0)
def R175_3 : RC := .reg [⟨some 7, none, .mov (.tmp 5)⟩,
    ⟨some 2, none, .mov (.tmp 7)⟩]
def R175_4 : RC := .reg [⟨some 8, none, .mov (.tmp 2)⟩,
    ⟨some 9, none, .cvInt .u32 (.tmp 8)⟩,
    ⟨some 3, none, .mov (.tmp 9)⟩]
def R175_5 : RC := .reg [⟨some 10, none, .mov (.const (.int .i64 0))⟩]
def R175_6 : RC := .reg [⟨some 11, none, .bin .lss 3 (.tmp 10) (.const (.int .i64 8))⟩]
def R175_7 : RC := .cond (.tmp 11) (.skip) (.exit 2)
def R175_8 : RC := .reg [⟨some 12, none, .mov (.tmp 3)⟩,
    ⟨some 13, none, .bin .and 142 (.tmp 12) (.const (.int .u32 1))⟩,
    ⟨some 4, none, .mov (.tmp 13)⟩]
def R175_9 : RC := .reg [⟨some 14, none, .mov (.tmp 3)⟩,
    ⟨some 15, none, .bin .shr 142 (.tmp 14) (.const (.int .u64 1))⟩,
    ⟨some 3, none, .mov (.tmp 15)⟩]
def R175_10 : RC := .reg [⟨some 16, none, .mov (.tmp 4)⟩,
    ⟨some 17, none, .bin .eql 142 (.tmp 16) (.const (.int .u32 1))⟩]
def R175_11 : RC := .reg [⟨some 18, none, .mov (.tmp 3)⟩,
    ⟨some 19, none, .bin .xor 142 (.tmp 18) (.const (.int .u32 2197175160))⟩,
    ⟨some 3, none, .mov (.tmp 19)⟩]
def R175_12 : RC := .cond (.tmp 17) R175_11 (.skip)
def R175_13 : RC := .seq R175_10 R175_12
def R175_14 : RC := .seq R175_9 R175_13
def R175_15 : RC := .seq R175_8 R175_14
def R175_16 : RC := .block 3 R175_15
def R175_17 : RC := .reg [⟨some 20, none, .bin .add 3 (.tmp 10) (.const (.int .i64 1))⟩,
    ⟨some 10, none, .mov (.tmp 20)⟩]
def R175_18 : RC := .seq R175_16 R175_17
def R175_19 : RC := .seq R175_7 R175_18
def R175_20 : RC := .seq R175_6 R175_19
def R175_21 : RC := .loop R175_20
def R175_22 : RC := .block 2 R175_21
def R175_23 : RC := .seq R175_5 R175_22
def R175_24 : RC := .reg [⟨some 21, none, .mov (.tmp 0)⟩,
    ⟨some 22, none, .mov (.tmp 2)⟩,
    ⟨some 23, none, .mov (.tmp 3)⟩,
    ⟨some 24, none, .nilck (.tmp 21)⟩,
    ⟨some 25, none, .faddr 5 (.tmp 24)⟩,
    ⟨some 26, none, .ixA 1 256 (.tmp 25) (.tmp 22)⟩,
    ⟨none, none, .store 1 (.tmp 26) (.tmp 23)⟩]
def R175_25 : RC := .seq R175_23 R175_24
def R175_26 : RC := .seq R175_4 R175_25
def R175_27 : RC := .seq R175_3 R175_26
def R175_28 : RC := .block 1 R175_27
def R175_29 : RC := .reg [⟨some 27, none, .bin .add 3 (.tmp 5) (.const (.int .i64 1))⟩,
    ⟨some 5, none, .mov (.tmp 27)⟩]
def R175_30 : RC := .seq R175_28 R175_29
def R175_31 : RC := .seq R175_2 R175_30
def R175_32 : RC := .seq R175_1 R175_31
def R175_33 : RC := .loop R175_32
def R175_34 : RC := .block 0 R175_33
def R175_35 : RC := .seq R175_0 R175_34
def R175_36 : RC := .reg [⟨some 28, none, .mov (.tmp 0)⟩,
    ⟨some 29, none, .nilck (.tmp 28)⟩,
    ⟨some 30, none, .faddr 4 (.tmp 29)⟩,
    ⟨some 31, none, .call 196 [(.tmp 30), (.const (.int .i32 1))]⟩]
def R175_37 : RC := .seq R175_35 R175_36

-- 174: (*sync.Once).Do
def R174_0 : RC := .reg [⟨some 4, none, .mov (.tmp 0)⟩,
    ⟨some 5, none, .nilck (.tmp 4)⟩,
    ⟨some 6, none, .faddr 0 (.tmp 5)⟩,
    ⟨some 7, none, .call 194 [(.tmp 6)]⟩,
    ⟨some 8, none, .un .not (.tmp 7)⟩]
def R174_1 : RC := .reg [⟨some 9, none, .mov (.tmp 0)⟩,
    ⟨some 10, none, .mov (.tmp 1)⟩,
    ⟨some 11, none, .call 195 [(.tmp 9), (.tmp 10)]⟩]
def R174_2 : RC := .cond (.tmp 8) R174_1 (.skip)
def R174_3 : RC := .seq R174_0 R174_2

-- 176: slices.Values[[]byte,byte]$1
def R176_0 : RC := .reg [⟨some 5, none, .load1 (.tmp 1)⟩,
    ⟨some 6, none, .lenS (.tmp 5)⟩,
    ⟨some 7, none, .mov (.const (.int .i64 0))⟩]
def R176_1 : RC := .reg [⟨some 8, none, .bin .lss 3 (.tmp 7) (.tmp 6)⟩]
def R176_2 : RC := .cond (.tmp 8) (.skip) (.exit 0)
def R176_3 : RC := .reg [⟨some 9, none, .ixS 1 (.tmp 5) (.tmp 7)⟩,
    ⟨some 10, none, .load1 (.tmp 9)⟩,
    ⟨some 4, none, .mov (.tmp 10)⟩]
def R176_4 : RC := .reg [⟨some 11, none, .mov (.tmp 0)⟩,
    ⟨some 12, none, .mov (.tmp 4)⟩,
    ⟨some 13, none, .callV (.tmp 11) [(.tmp 12)]⟩,
    ⟨some 14, none, .un .not (.tmp 13)⟩]
def R176_5 : RC := .cond (.tmp 14) (.ret) (.skip)
def R176_6 : RC := .seq R176_4 R176_5
def R176_7 : RC := .seq R176_3 R176_6
def R176_8 : RC := .block 1 R176_7
def R176_9 : RC := .reg [⟨some 15, none, .bin .add 3 (.tmp 7) (.const (.int .i64 1))⟩,
    ⟨some 7, none, .mov (.tmp 15)⟩]
def R176_10 : RC := .seq R176_8 R176_9
def R176_11 : RC := .seq R176_2 R176_10
def R176_12 : RC := .seq R176_1 R176_11
def R176_13 : RC := .loop R176_12
def R176_14 : RC := .block 0 R176_13
def R176_15 : RC := .seq R176_0 R176_14

-- 151: maps.Keys[map[string]*lectern/fs.file,string,*lectern/fs.file]$1
def R151_0 : RC := .reg [⟨some 4, none, .load1 (.tmp 1)⟩,
    ⟨some 5, none, .raw (.range 108 (.tmp 4)) 0⟩]
def R151_1 : RC := .reg [⟨some 6, none, .raw (.next (.tmp 5) false) 0⟩,
    ⟨some 7, none, .extr (.tmp 6) 0⟩]
def R151_2 : RC := .cond (.tmp 7) (.skip) (.exit 0)
def R151_3 : RC := .reg [⟨some 8, none, .raw (.entry (.tmp 5)) 0⟩,
    ⟨some 9, none, .extr (.tmp 8) 0⟩,
    ⟨some 3, none, .mov (.tmp 9)⟩]
def R151_4 : RC := .reg [⟨some 10, none, .mov (.tmp 0)⟩,
    ⟨some 11, none, .mov (.tmp 3)⟩,
    ⟨some 12, none, .callV (.tmp 10) [(.tmp 11)]⟩,
    ⟨some 13, none, .un .not (.tmp 12)⟩]
def R151_5 : RC := .cond (.tmp 13) (.ret) (.skip)
def R151_6 : RC := .seq R151_4 R151_5
def R151_7 : RC := .seq R151_3 R151_6
def R151_8 : RC := .block 1 R151_7
def R151_9 : RC := .seq R151_2 R151_8
def R151_10 : RC := .seq R151_1 R151_9
def R151_11 : RC := .loop R151_10
def R151_12 : RC := .block 0 R151_11
def R151_13 : RC := .seq R151_0 R151_12

-- 149: slices.Collect[string]
def R149_0 : RC := .reg [⟨some 2, none, .mov (.const (.slice none 0 0))⟩]
def R149_1 : RC := .reg [⟨some 3, none, .mov (.tmp 0)⟩,
    ⟨some 4, none, .call 166 [(.const (.slice none 0 0)), (.tmp 3)]⟩,
    ⟨some 2, none, .mov (.tmp 4)⟩]
def R149_2 : RC := .seq R149_1 (.ret)
def R149_3 : RC := .seq R149_0 R149_2

-- 150: slices.Sort[[]string,string]
def R150_0 : RC := .reg [⟨some 3, none, .mov (.tmp 0)⟩,
    ⟨some 4, none, .lenS (.tmp 3)⟩,
    ⟨some 2, none, .mov (.tmp 4)⟩]
def R150_1 : RC := .reg [⟨some 5, none, .mov (.tmp 0)⟩,
    ⟨some 6, none, .mov (.tmp 2)⟩,
    ⟨some 7, none, .mov (.tmp 2)⟩,
    ⟨some 8, none, .cvInt .u64 (.tmp 7)⟩,
    ⟨some 9, none, .call 168 [(.tmp 8)]⟩,
    ⟨some 10, none, .call 167 [(.tmp 5), (.const (.int .i64 0)), (.tmp 6), (.tmp 9)]⟩]
def R150_2 : RC := .seq R150_0 R150_1

-- 196: (*sync/atomic.Int32).Add
def R196_0 : RC := .reg [⟨some 4, none, .mov (.const (.int .i32 0))⟩]
def R196_1 : RC := .reg [⟨some 5, none, .mov (.tmp 0)⟩,
    ⟨some 6, none, .nilck (.tmp 5)⟩,
    ⟨some 7, none, .faddr 0 (.tmp 6)⟩,
    ⟨some 8, none, .mov (.tmp 1)⟩,
    ⟨some 9, none, .ext 209 [(.tmp 7), (.tmp 8)]⟩,
    ⟨some 4, none, .mov (.tmp 9)⟩]
def R196_2 : RC := .seq R196_1 (.ret)
def R196_3 : RC := .seq R196_0 R196_2

-- 194: (*sync/atomic.Bool).Load
def R194_0 : RC := .reg [⟨some 2, none, .mov (.const (.bool false))⟩]
def R194_1 : RC := .reg [⟨some 3, none, .mov (.tmp 0)⟩,
    ⟨some 4, none, .nilck (.tmp 3)⟩,
    ⟨some 5, none, .faddr 0 (.tmp 4)⟩,
    ⟨some 6, none, .ext 205 [(.tmp 5)]⟩,
    ⟨some 7, none, .bin .neq 142 (.tmp 6) (.const (.int .u32 0))⟩,
    ⟨some 2, none, .mov (.tmp 7)⟩]
def R194_2 : RC := .seq R194_1 (.ret)
def R194_3 : RC := .seq R194_0 R194_2

-- 195: (*sync.Once).doSlow
def R195_0 : RC := .reg [⟨some 4, none, .mov (.tmp 0)⟩,
    ⟨some 5, none, .nilck (.tmp 4)⟩,
    ⟨some 6, none, .faddr 1 (.tmp 5)⟩,
    ⟨some 7, none, .call 206 [(.tmp 6)]⟩]
def R195_1 : RC := .reg [⟨some 8, none, .mov (.tmp 0)⟩,
    ⟨some 9, none, .nilck (.tmp 8)⟩,
    ⟨some 10, none, .faddr 1 (.tmp 9)⟩,
    ⟨none, none, .defr ⟨.value (.func 207), #[(.tmp 10)], #[188]⟩ 0⟩]
def R195_2 : RC := .reg [⟨some 11, none, .mov (.tmp 0)⟩,
    ⟨some 12, none, .nilck (.tmp 11)⟩,
    ⟨some 13, none, .faddr 0 (.tmp 12)⟩,
    ⟨some 14, none, .call 194 [(.tmp 13)]⟩,
    ⟨some 15, none, .un .not (.tmp 14)⟩]
def R195_3 : RC := .reg [⟨some 16, none, .mov (.tmp 0)⟩,
    ⟨some 17, none, .nilck (.tmp 16)⟩,
    ⟨some 18, none, .faddr 0 (.tmp 17)⟩,
    ⟨none, none, .defr ⟨.value (.func 208), #[(.tmp 18), (.const (.bool true))], #[184, 4]⟩ 0⟩]
def R195_4 : RC := .reg [⟨some 19, none, .mov (.tmp 1)⟩,
    ⟨some 20, none, .callV (.tmp 19) []⟩]
def R195_5 : RC := .seq R195_3 R195_4
def R195_6 : RC := .cond (.tmp 15) R195_5 (.skip)
def R195_7 : RC := .seq R195_2 R195_6
def R195_8 : RC := .seq R195_1 R195_7
def R195_9 : RC := .seq R195_0 R195_8

-- 166: slices.AppendSeq[[]string,string]
def R166_0 : RC := .reg [⟨some 2, none, .box 173 (.tmp 0)⟩,
    ⟨some 4, none, .mov (.const (.slice none 0 0))⟩]
def R166_1 : RC := .reg [⟨some 6, none, .mov (.tmp 1)⟩]
def R166_2 : RC := .reg [⟨some 5, none, .mov (.tmp 7)⟩]
def R166_3 : RC := .reg [⟨some 8, none, .load1 (.tmp 2)⟩,
    ⟨some 9, none, .mov (.tmp 5)⟩,
    ⟨some 10, none, .mkSl 9 1 1 #[.string ⟨#[]⟩] [(0, (.tmp 9))]⟩,
    ⟨some 11, none, .app 9 1 16 (.string ⟨#[]⟩) (.tmp 8) (.tmp 10)⟩,
    ⟨none, none, .store 1 (.tmp 2) (.tmp 11)⟩]
def R166_4 : RC := .block 1 R166_3
def R166_5 : RC := .range (.tmp 6) #[7] R166_2 R166_4
def R166_6 : RC := .block 0 R166_5
def R166_7 : RC := .seq R166_1 R166_6
def R166_8 : RC := .reg [⟨some 12, none, .load1 (.tmp 2)⟩,
    ⟨some 4, none, .mov (.tmp 12)⟩]
def R166_9 : RC := .seq R166_8 (.ret)
def R166_10 : RC := .seq R166_7 R166_9
def R166_11 : RC := .seq R166_0 R166_10

-- 168: math/bits.Len
def R168_0 : RC := .reg [⟨some 2, none, .mov (.const (.int .i64 0))⟩]
def R168_1 : RC := .reg [⟨some 3, none, .mov (.tmp 0)⟩,
    ⟨some 4, none, .cvInt .u32 (.tmp 3)⟩,
    ⟨some 5, none, .call 192 [(.tmp 4)]⟩,
    ⟨some 2, none, .mov (.tmp 5)⟩]
def R168_2 : RC := .seq R168_1 (.ret)
def R168_3 : RC := .cond (.const (.bool false)) R168_2 (.skip)
def R168_4 : RC := .reg [⟨some 6, none, .mov (.tmp 0)⟩,
    ⟨some 7, none, .call 193 [(.tmp 6)]⟩,
    ⟨some 2, none, .mov (.tmp 7)⟩]
def R168_5 : RC := .seq R168_4 (.ret)
def R168_6 : RC := .seq R168_3 R168_5
def R168_7 : RC := .seq R168_0 R168_6

-- 167: slices.pdqsortOrdered[string]
def R167_0 : RC := .reg [⟨some 8, none, .mov (.const (.bool true))⟩]
def R167_1 : RC := .reg [⟨some 9, none, .mov (.const (.bool true))⟩]
def R167_2 : RC := .reg [⟨some 19, none, .mov (.tmp 2)⟩,
    ⟨some 20, none, .mov (.tmp 1)⟩,
    ⟨some 21, none, .bin .sub 3 (.tmp 19) (.tmp 20)⟩,
    ⟨some 10, none, .mov (.tmp 21)⟩]
def R167_3 : RC := .reg [⟨some 22, none, .mov (.tmp 10)⟩,
    ⟨some 23, none, .bin .leq 3 (.tmp 22) (.const (.int .i64 12))⟩]
def R167_4 : RC := .reg [⟨some 24, none, .mov (.tmp 0)⟩,
    ⟨some 25, none, .mov (.tmp 1)⟩,
    ⟨some 26, none, .mov (.tmp 2)⟩,
    ⟨some 27, none, .call 183 [(.tmp 24), (.tmp 25), (.tmp 26)]⟩]
def R167_5 : RC := .seq R167_4 (.ret)
def R167_6 : RC := .cond (.tmp 23) R167_5 (.skip)
def R167_7 : RC := .seq R167_3 R167_6
def R167_8 : RC := .reg [⟨some 28, none, .mov (.tmp 3)⟩,
    ⟨some 29, none, .bin .eql 3 (.tmp 28) (.const (.int .i64 0))⟩]
def R167_9 : RC := .reg [⟨some 30, none, .mov (.tmp 0)⟩,
    ⟨some 31, none, .mov (.tmp 1)⟩,
    ⟨some 32, none, .mov (.tmp 2)⟩,
    ⟨some 33, none, .call 184 [(.tmp 30), (.tmp 31), (.tmp 32)]⟩]
def R167_10 : RC := .seq R167_9 (.ret)
def R167_11 : RC := .cond (.tmp 29) R167_10 (.skip)
def R167_12 : RC := .seq R167_8 R167_11
def R167_13 : RC := .reg [⟨some 34, none, .mov (.tmp 8)⟩,
    ⟨some 35, none, .un .not (.tmp 34)⟩]
def R167_14 : RC := .reg [⟨some 36, none, .mov (.tmp 0)⟩,
    ⟨some 37, none, .mov (.tmp 1)⟩,
    ⟨some 38, none, .mov (.tmp 2)⟩,
    ⟨some 39, none, .call 185 [(.tmp 36), (.tmp 37), (.tmp 38)]⟩]
def R167_15 : RC := .reg [⟨some 40, none, .mov (.tmp 3)⟩,
    ⟨some 41, none, .bin .sub 3 (.tmp 40) (.const (.int .i64 1))⟩,
    ⟨some 3, none, .mov (.tmp 41)⟩]
def R167_16 : RC := .seq R167_14 R167_15
def R167_17 : RC := .cond (.tmp 35) R167_16 (.skip)
def R167_18 : RC := .seq R167_13 R167_17
def R167_19 : RC := .reg [⟨some 43, none, .mov (.tmp 0)⟩,
    ⟨some 44, none, .mov (.tmp 1)⟩,
    ⟨some 45, none, .mov (.tmp 2)⟩,
    ⟨some 46, none, .call 186 [(.tmp 43), (.tmp 44), (.tmp 45)]⟩,
    ⟨some 42, none, .mov (.tmp 46)⟩,
    ⟨some 47, none, .extr (.tmp 42) 0⟩,
    ⟨some 48, none, .extr (.tmp 42) 1⟩,
    ⟨some 11, none, .mov (.tmp 47)⟩,
    ⟨some 12, none, .mov (.tmp 48)⟩]
def R167_20 : RC := .reg [⟨some 49, none, .mov (.tmp 12)⟩,
    ⟨some 50, none, .bin .eql 270 (.tmp 49) (.const (.int .i64 2))⟩]
def R167_21 : RC := .reg [⟨some 51, none, .mov (.tmp 0)⟩,
    ⟨some 52, none, .mov (.tmp 1)⟩,
    ⟨some 53, none, .mov (.tmp 2)⟩,
    ⟨some 54, none, .call 187 [(.tmp 51), (.tmp 52), (.tmp 53)]⟩]
def R167_22 : RC := .reg [⟨some 55, none, .mov (.tmp 2)⟩,
    ⟨some 56, none, .bin .sub 3 (.tmp 55) (.const (.int .i64 1))⟩,
    ⟨some 57, none, .mov (.tmp 11)⟩,
    ⟨some 58, none, .mov (.tmp 1)⟩,
    ⟨some 59, none, .bin .sub 3 (.tmp 57) (.tmp 58)⟩,
    ⟨some 60, none, .bin .sub 3 (.tmp 56) (.tmp 59)⟩,
    ⟨some 11, none, .mov (.tmp 60)⟩]
def R167_23 : RC := .reg [⟨some 12, none, .mov (.const (.int .i64 1))⟩]
def R167_24 : RC := .seq R167_22 R167_23
def R167_25 : RC := .seq R167_21 R167_24
def R167_26 : RC := .cond (.tmp 50) R167_25 (.skip)
def R167_27 : RC := .seq R167_20 R167_26
def R167_28 : RC := .reg [⟨some 61, none, .mov (.tmp 8)⟩,
    ⟨some 62, none, .mov (.tmp 61)⟩,
    ⟨some 63, some (62, true), .mov (.tmp 9)⟩,
    ⟨some 64, none, .pick (.tmp 62) (.tmp 63) (.const (.bool false))⟩,
    ⟨some 65, none, .mov (.tmp 64)⟩,
    ⟨some 66, some (65, true), .mov (.tmp 12)⟩,
    ⟨some 67, some (65, true), .bin .eql 270 (.tmp 66) (.const (.int .i64 1))⟩,
    ⟨some 68, none, .pick (.tmp 65) (.tmp 67) (.const (.bool false))⟩]
def R167_29 : RC := .reg [⟨some 69, none, .mov (.tmp 0)⟩,
    ⟨some 70, none, .mov (.tmp 1)⟩,
    ⟨some 71, none, .mov (.tmp 2)⟩,
    ⟨some 72, none, .call 188 [(.tmp 69), (.tmp 70), (.tmp 71)]⟩]
def R167_30 : RC := .cond (.tmp 72) (.ret) (.skip)
def R167_31 : RC := .seq R167_29 R167_30
def R167_32 : RC := .cond (.tmp 68) R167_31 (.skip)
def R167_33 : RC := .seq R167_28 R167_32
def R167_34 : RC := .draw [⟨some 73, none, .mov (.tmp 1)⟩,
    ⟨some 74, none, .bin .gtr 3 (.tmp 73) (.const (.int .i64 0))⟩,
    ⟨some 75, none, .mov (.tmp 74)⟩,
    ⟨some 76, some (75, true), .mov (.tmp 0)⟩,
    ⟨some 77, some (75, true), .mov (.tmp 1)⟩,
    ⟨some 78, some (75, true), .bin .sub 3 (.tmp 77) (.const (.int .i64 1))⟩,
    ⟨some 79, some (75, true), .ixS 1 (.tmp 76) (.tmp 78)⟩,
    ⟨some 80, some (75, true), .load1 (.tmp 79)⟩,
    ⟨some 81, some (75, true), .mov (.tmp 0)⟩,
    ⟨some 82, some (75, true), .mov (.tmp 11)⟩,
    ⟨some 83, some (75, true), .ixS 1 (.tmp 81) (.tmp 82)⟩,
    ⟨some 84, some (75, true), .load1 (.tmp 83)⟩,
    ⟨some 85, some (75, true), .call 189 [(.tmp 80), (.tmp 84)]⟩,
    ⟨some 86, some (75, true), .un .not (.tmp 85)⟩,
    ⟨some 87, none, .pick (.tmp 75) (.tmp 86) (.const (.bool false))⟩] [[⟨0, ⟨some 73, none, .mov (.tmp 1)⟩, false, []⟩],
   [⟨1, ⟨some 74, none, .bin .gtr 3 (.tmp 73) (.const (.int .i64 0))⟩, false, []⟩],
   [⟨2, ⟨some 75, none, .mov (.tmp 74)⟩, false, []⟩],
   [⟨3, ⟨some 76, some (75, true), .mov (.tmp 0)⟩, false, []⟩,
    ⟨4, ⟨some 77, some (75, true), .mov (.tmp 1)⟩, false, []⟩,
    ⟨5, ⟨some 78, some (75, true), .bin .sub 3 (.tmp 77) (.const (.int .i64 1))⟩, false, []⟩,
    ⟨6, ⟨some 79, some (75, true), .ixS 1 (.tmp 76) (.tmp 78)⟩, false, []⟩,
    ⟨7, ⟨some 80, some (75, true), .load1 (.tmp 79)⟩, true, []⟩,
    ⟨8, ⟨some 81, some (75, true), .mov (.tmp 0)⟩, false, []⟩,
    ⟨9, ⟨some 82, some (75, true), .mov (.tmp 11)⟩, false, []⟩,
    ⟨10, ⟨some 83, some (75, true), .ixS 1 (.tmp 81) (.tmp 82)⟩, false, []⟩,
    ⟨11, ⟨some 84, some (75, true), .load1 (.tmp 83)⟩, true, []⟩],
   [⟨12, ⟨some 85, some (75, true), .call 189 [(.tmp 80), (.tmp 84)]⟩, false, []⟩],
   [⟨13, ⟨some 86, some (75, true), .un .not (.tmp 85)⟩, false, []⟩],
   [⟨14, ⟨some 87, none, .pick (.tmp 75) (.tmp 86) (.const (.bool false))⟩, false, []⟩]]
def R167_35 : RC := .reg [⟨some 88, none, .mov (.tmp 0)⟩,
    ⟨some 89, none, .mov (.tmp 1)⟩,
    ⟨some 90, none, .mov (.tmp 2)⟩,
    ⟨some 91, none, .mov (.tmp 11)⟩,
    ⟨some 92, none, .call 190 [(.tmp 88), (.tmp 89), (.tmp 90), (.tmp 91)]⟩,
    ⟨some 13, none, .mov (.tmp 92)⟩]
def R167_36 : RC := .reg [⟨some 93, none, .mov (.tmp 13)⟩,
    ⟨some 1, none, .mov (.tmp 93)⟩]
def R167_37 : RC := .seq R167_36 (.exit 1)
def R167_38 : RC := .seq R167_35 R167_37
def R167_39 : RC := .cond (.tmp 87) R167_38 (.skip)
def R167_40 : RC := .seq R167_34 R167_39
def R167_41 : RC := .reg [⟨some 95, none, .mov (.tmp 0)⟩,
    ⟨some 96, none, .mov (.tmp 1)⟩,
    ⟨some 97, none, .mov (.tmp 2)⟩,
    ⟨some 98, none, .mov (.tmp 11)⟩,
    ⟨some 99, none, .call 191 [(.tmp 95), (.tmp 96), (.tmp 97), (.tmp 98)]⟩,
    ⟨some 94, none, .mov (.tmp 99)⟩,
    ⟨some 100, none, .extr (.tmp 94) 0⟩,
    ⟨some 101, none, .extr (.tmp 94) 1⟩,
    ⟨some 14, none, .mov (.tmp 100)⟩,
    ⟨some 15, none, .mov (.tmp 101)⟩]
def R167_42 : RC := .reg [⟨some 102, none, .mov (.tmp 15)⟩,
    ⟨some 9, none, .mov (.tmp 102)⟩]
def R167_43 : RC := .reg [⟨some 103, none, .mov (.tmp 14)⟩,
    ⟨some 104, none, .mov (.tmp 1)⟩,
    ⟨some 105, none, .bin .sub 3 (.tmp 103) (.tmp 104)⟩,
    ⟨some 106, none, .mov (.tmp 2)⟩,
    ⟨some 107, none, .mov (.tmp 14)⟩,
    ⟨some 108, none, .bin .sub 3 (.tmp 106) (.tmp 107)⟩,
    ⟨some 16, none, .mov (.tmp 105)⟩,
    ⟨some 17, none, .mov (.tmp 108)⟩]
def R167_44 : RC := .reg [⟨some 109, none, .mov (.tmp 10)⟩,
    ⟨some 110, none, .bin .quo 3 (.tmp 109) (.const (.int .i64 8))⟩,
    ⟨some 18, none, .mov (.tmp 110)⟩]
def R167_45 : RC := .reg [⟨some 111, none, .mov (.tmp 16)⟩,
    ⟨some 112, none, .mov (.tmp 17)⟩,
    ⟨some 113, none, .bin .lss 3 (.tmp 111) (.tmp 112)⟩]
def R167_46 : RC := .reg [⟨some 114, none, .mov (.tmp 16)⟩,
    ⟨some 115, none, .mov (.tmp 18)⟩,
    ⟨some 116, none, .bin .geq 3 (.tmp 114) (.tmp 115)⟩,
    ⟨some 8, none, .mov (.tmp 116)⟩]
def R167_47 : RC := .reg [⟨some 117, none, .mov (.tmp 0)⟩,
    ⟨some 118, none, .mov (.tmp 1)⟩,
    ⟨some 119, none, .mov (.tmp 14)⟩,
    ⟨some 120, none, .mov (.tmp 3)⟩,
    ⟨some 121, none, .call 167 [(.tmp 117), (.tmp 118), (.tmp 119), (.tmp 120)]⟩]
def R167_48 : RC := .reg [⟨some 122, none, .mov (.tmp 14)⟩,
    ⟨some 123, none, .bin .add 3 (.tmp 122) (.const (.int .i64 1))⟩,
    ⟨some 1, none, .mov (.tmp 123)⟩]
def R167_49 : RC := .seq R167_47 R167_48
def R167_50 : RC := .seq R167_46 R167_49
def R167_51 : RC := .reg [⟨some 124, none, .mov (.tmp 17)⟩,
    ⟨some 125, none, .mov (.tmp 18)⟩,
    ⟨some 126, none, .bin .geq 3 (.tmp 124) (.tmp 125)⟩,
    ⟨some 8, none, .mov (.tmp 126)⟩]
def R167_52 : RC := .reg [⟨some 127, none, .mov (.tmp 0)⟩,
    ⟨some 128, none, .mov (.tmp 14)⟩,
    ⟨some 129, none, .bin .add 3 (.tmp 128) (.const (.int .i64 1))⟩,
    ⟨some 130, none, .mov (.tmp 2)⟩,
    ⟨some 131, none, .mov (.tmp 3)⟩,
    ⟨some 132, none, .call 167 [(.tmp 127), (.tmp 129), (.tmp 130), (.tmp 131)]⟩]
def R167_53 : RC := .reg [⟨some 133, none, .mov (.tmp 14)⟩,
    ⟨some 2, none, .mov (.tmp 133)⟩]
def R167_54 : RC := .seq R167_52 R167_53
def R167_55 : RC := .seq R167_51 R167_54
def R167_56 : RC := .cond (.tmp 113) R167_50 R167_55
def R167_57 : RC := .seq R167_45 R167_56
def R167_58 : RC := .seq R167_44 R167_57
def R167_59 : RC := .seq R167_43 R167_58
def R167_60 : RC := .seq R167_42 R167_59
def R167_61 : RC := .seq R167_41 R167_60
def R167_62 : RC := .seq R167_40 R167_61
def R167_63 : RC := .seq R167_33 R167_62
def R167_64 : RC := .seq R167_27 R167_63
def R167_65 : RC := .seq R167_19 R167_64
def R167_66 : RC := .seq R167_18 R167_65
def R167_67 : RC := .seq R167_12 R167_66
def R167_68 : RC := .seq R167_7 R167_67
def R167_69 : RC := .seq R167_2 R167_68
def R167_70 : RC := .block 1 R167_69
def R167_71 : RC := .loop R167_70
def R167_72 : RC := .block 0 R167_71
def R167_73 : RC := .seq R167_1 R167_72
def R167_74 : RC := .seq R167_0 R167_73

-- 209: sync/atomic.AddInt32
-- 205: sync/atomic.LoadUint32
-- 206: (*sync.Mutex).Lock
def R206_0 : RC := .reg [⟨some 2, none, .mov (.tmp 0)⟩,
    ⟨some 3, none, .nilck (.tmp 2)⟩,
    ⟨some 4, none, .faddr 0 (.tmp 3)⟩,
    ⟨some 5, none, .call 211 [(.tmp 4)]⟩]

-- 207: (*sync.Mutex).Unlock
def R207_0 : RC := .reg [⟨some 2, none, .mov (.tmp 0)⟩,
    ⟨some 3, none, .nilck (.tmp 2)⟩,
    ⟨some 4, none, .faddr 0 (.tmp 3)⟩,
    ⟨some 5, none, .call 212 [(.tmp 4)]⟩]

-- 208: (*sync/atomic.Bool).Store
def R208_0 : RC := .draw [⟨some 4, none, .mov (.tmp 0)⟩,
    ⟨some 5, none, .nilck (.tmp 4)⟩,
    ⟨some 6, none, .faddr 0 (.tmp 5)⟩,
    ⟨some 7, none, .mov (.tmp 1)⟩,
    ⟨some 8, none, .call 214 [(.tmp 7)]⟩,
    ⟨some 9, none, .ext 213 [(.tmp 6), (.tmp 8)]⟩] [[⟨0, ⟨some 4, none, .mov (.tmp 0)⟩, false, []⟩,
    ⟨1, ⟨some 5, none, .nilck (.tmp 4)⟩, false, []⟩,
    ⟨2, ⟨some 6, none, .faddr 0 (.tmp 5)⟩, false, []⟩,
    ⟨3, ⟨some 7, none, .mov (.tmp 1)⟩, false, []⟩,
    ⟨4, ⟨some 8, none, .call 214 [(.tmp 7)]⟩, false, []⟩],
   [⟨5, ⟨some 9, none, .ext 213 [(.tmp 6), (.tmp 8)]⟩, false, []⟩]]

-- 192: math/bits.Len32
def R192_0 : RC := .reg [⟨some 2, none, .mov (.const (.int .i64 0))⟩]
def R192_1 : RC := .reg [⟨some 3, none, .mov (.tmp 0)⟩,
    ⟨some 4, none, .bin .geq 142 (.tmp 3) (.const (.int .u32 65536))⟩]
def R192_2 : RC := .reg [⟨some 5, none, .mov (.tmp 0)⟩,
    ⟨some 6, none, .bin .shr 142 (.tmp 5) (.const (.int .u64 16))⟩,
    ⟨some 0, none, .mov (.tmp 6)⟩]
def R192_3 : RC := .reg [⟨some 2, none, .mov (.const (.int .i64 16))⟩]
def R192_4 : RC := .seq R192_2 R192_3
def R192_5 : RC := .cond (.tmp 4) R192_4 (.skip)
def R192_6 : RC := .seq R192_1 R192_5
def R192_7 : RC := .reg [⟨some 7, none, .mov (.tmp 0)⟩,
    ⟨some 8, none, .bin .geq 142 (.tmp 7) (.const (.int .u32 256))⟩]
def R192_8 : RC := .reg [⟨some 9, none, .mov (.tmp 0)⟩,
    ⟨some 10, none, .bin .shr 142 (.tmp 9) (.const (.int .u64 8))⟩,
    ⟨some 0, none, .mov (.tmp 10)⟩]
def R192_9 : RC := .reg [⟨some 11, none, .mov (.tmp 2)⟩,
    ⟨some 12, none, .bin .add 3 (.tmp 11) (.const (.int .i64 8))⟩,
    ⟨some 2, none, .mov (.tmp 12)⟩]
def R192_10 : RC := .seq R192_8 R192_9
def R192_11 : RC := .cond (.tmp 8) R192_10 (.skip)
def R192_12 : RC := .seq R192_7 R192_11
def R192_13 : RC := .reg [⟨some 13, none, .mov (.tmp 2)⟩,
    ⟨some 14, none, .mov (.tmp 0)⟩,
    ⟨some 15, none, .cvInt .u8 (.tmp 14)⟩,
    ⟨some 16, none, .ixStr (.const (.string ⟨#[0, 1, 2, 2, 3, 3, 3, 3, 4, 4, 4, 4, 4, 4, 4, 4, 5, 5, 5, 5, 5, 5, 5, 5, 5, 5, 5, 5, 5, 5, 5, 5, 6, 6, 6, 6, 6, 6, 6, 6, 6, 6, 6, 6, 6, 6, 6, 6, 6, 6, 6, 6, 6, 6, 6, 6, 6, 6, 6, 6, 6, 6, 6, 6, 7, 7, 7, 7, 7, 7, 7, 7, 7, 7, 7, 7, 7, 7, 7, 7, 7, 7, 7, 7, 7, 7, 7, 7, 7, 7, 7, 7, 7, 7, 7, 7, 7, 7, 7, 7, 7, 7, 7, 7, 7, 7, 7, 7, 7, 7, 7, 7, 7, 7, 7, 7, 7, 7, 7, 7, 7, 7, 7, 7, 7, 7, 7, 7, 8, 8, 8, 8, 8, 8, 8, 8, 8, 8, 8, 8, 8, 8, 8, 8, 8, 8, 8, 8, 8, 8, 8, 8, 8, 8, 8, 8, 8, 8, 8, 8, 8, 8, 8, 8, 8, 8, 8, 8, 8, 8, 8, 8, 8, 8, 8, 8, 8, 8, 8, 8, 8, 8, 8, 8, 8, 8, 8, 8, 8, 8, 8, 8, 8, 8, 8, 8, 8, 8, 8, 8, 8, 8, 8, 8, 8, 8, 8, 8, 8, 8, 8, 8, 8, 8, 8, 8, 8, 8, 8, 8, 8, 8, 8, 8, 8, 8, 8, 8, 8, 8, 8, 8, 8, 8, 8, 8, 8, 8, 8, 8, 8, 8, 8, 8, 8, 8, 8, 8, 8, 8, 8, 8, 8, 8, 8, 8]⟩)) (.tmp 15)⟩,
    ⟨some 17, none, .cvInt .i64 (.tmp 16)⟩,
    ⟨some 18, none, .bin .add 3 (.tmp 13) (.tmp 17)⟩,
    ⟨some 2, none, .mov (.tmp 18)⟩]
def R192_14 : RC := .seq R192_13 (.ret)
def R192_15 : RC := .seq R192_12 R192_14
def R192_16 : RC := .seq R192_6 R192_15
def R192_17 : RC := .seq R192_0 R192_16

-- 193: math/bits.Len64
def R193_0 : RC := .reg [⟨some 2, none, .mov (.const (.int .i64 0))⟩]
def R193_1 : RC := .reg [⟨some 3, none, .mov (.tmp 0)⟩,
    ⟨some 4, none, .bin .geq 200 (.tmp 3) (.const (.int .u64 4294967296))⟩]
def R193_2 : RC := .reg [⟨some 5, none, .mov (.tmp 0)⟩,
    ⟨some 6, none, .bin .shr 200 (.tmp 5) (.const (.int .u64 32))⟩,
    ⟨some 0, none, .mov (.tmp 6)⟩]
def R193_3 : RC := .reg [⟨some 2, none, .mov (.const (.int .i64 32))⟩]
def R193_4 : RC := .seq R193_2 R193_3
def R193_5 : RC := .cond (.tmp 4) R193_4 (.skip)
def R193_6 : RC := .seq R193_1 R193_5
def R193_7 : RC := .reg [⟨some 7, none, .mov (.tmp 0)⟩,
    ⟨some 8, none, .bin .geq 200 (.tmp 7) (.const (.int .u64 65536))⟩]
def R193_8 : RC := .reg [⟨some 9, none, .mov (.tmp 0)⟩,
    ⟨some 10, none, .bin .shr 200 (.tmp 9) (.const (.int .u64 16))⟩,
    ⟨some 0, none, .mov (.tmp 10)⟩]
def R193_9 : RC := .reg [⟨some 11, none, .mov (.tmp 2)⟩,
    ⟨some 12, none, .bin .add 3 (.tmp 11) (.const (.int .i64 16))⟩,
    ⟨some 2, none, .mov (.tmp 12)⟩]
def R193_10 : RC := .seq R193_8 R193_9
def R193_11 : RC := .cond (.tmp 8) R193_10 (.skip)
def R193_12 : RC := .seq R193_7 R193_11
def R193_13 : RC := .reg [⟨some 13, none, .mov (.tmp 0)⟩,
    ⟨some 14, none, .bin .geq 200 (.tmp 13) (.const (.int .u64 256))⟩]
def R193_14 : RC := .reg [⟨some 15, none, .mov (.tmp 0)⟩,
    ⟨some 16, none, .bin .shr 200 (.tmp 15) (.const (.int .u64 8))⟩,
    ⟨some 0, none, .mov (.tmp 16)⟩]
def R193_15 : RC := .reg [⟨some 17, none, .mov (.tmp 2)⟩,
    ⟨some 18, none, .bin .add 3 (.tmp 17) (.const (.int .i64 8))⟩,
    ⟨some 2, none, .mov (.tmp 18)⟩]
def R193_16 : RC := .seq R193_14 R193_15
def R193_17 : RC := .cond (.tmp 14) R193_16 (.skip)
def R193_18 : RC := .seq R193_13 R193_17
def R193_19 : RC := .reg [⟨some 19, none, .mov (.tmp 2)⟩,
    ⟨some 20, none, .mov (.tmp 0)⟩,
    ⟨some 21, none, .cvInt .u8 (.tmp 20)⟩,
    ⟨some 22, none, .ixStr (.const (.string ⟨#[0, 1, 2, 2, 3, 3, 3, 3, 4, 4, 4, 4, 4, 4, 4, 4, 5, 5, 5, 5, 5, 5, 5, 5, 5, 5, 5, 5, 5, 5, 5, 5, 6, 6, 6, 6, 6, 6, 6, 6, 6, 6, 6, 6, 6, 6, 6, 6, 6, 6, 6, 6, 6, 6, 6, 6, 6, 6, 6, 6, 6, 6, 6, 6, 7, 7, 7, 7, 7, 7, 7, 7, 7, 7, 7, 7, 7, 7, 7, 7, 7, 7, 7, 7, 7, 7, 7, 7, 7, 7, 7, 7, 7, 7, 7, 7, 7, 7, 7, 7, 7, 7, 7, 7, 7, 7, 7, 7, 7, 7, 7, 7, 7, 7, 7, 7, 7, 7, 7, 7, 7, 7, 7, 7, 7, 7, 7, 7, 8, 8, 8, 8, 8, 8, 8, 8, 8, 8, 8, 8, 8, 8, 8, 8, 8, 8, 8, 8, 8, 8, 8, 8, 8, 8, 8, 8, 8, 8, 8, 8, 8, 8, 8, 8, 8, 8, 8, 8, 8, 8, 8, 8, 8, 8, 8, 8, 8, 8, 8, 8, 8, 8, 8, 8, 8, 8, 8, 8, 8, 8, 8, 8, 8, 8, 8, 8, 8, 8, 8, 8, 8, 8, 8, 8, 8, 8, 8, 8, 8, 8, 8, 8, 8, 8, 8, 8, 8, 8, 8, 8, 8, 8, 8, 8, 8, 8, 8, 8, 8, 8, 8, 8, 8, 8, 8, 8, 8, 8, 8, 8, 8, 8, 8, 8, 8, 8, 8, 8, 8, 8, 8, 8, 8, 8, 8, 8]⟩)) (.tmp 21)⟩,
    ⟨some 23, none, .cvInt .i64 (.tmp 22)⟩,
    ⟨some 24, none, .bin .add 3 (.tmp 19) (.tmp 23)⟩,
    ⟨some 2, none, .mov (.tmp 24)⟩]
def R193_20 : RC := .seq R193_19 (.ret)
def R193_21 : RC := .seq R193_18 R193_20
def R193_22 : RC := .seq R193_12 R193_21
def R193_23 : RC := .seq R193_6 R193_22
def R193_24 : RC := .seq R193_0 R193_23

-- 183: slices.insertionSortOrdered[string]
def R183_0 : RC := .reg [⟨some 8, none, .mov (.tmp 1)⟩,
    ⟨some 9, none, .bin .add 3 (.tmp 8) (.const (.int .i64 1))⟩,
    ⟨some 6, none, .mov (.tmp 9)⟩]
def R183_1 : RC := .reg [⟨some 10, none, .mov (.tmp 6)⟩,
    ⟨some 11, none, .mov (.tmp 2)⟩,
    ⟨some 12, none, .bin .lss 3 (.tmp 10) (.tmp 11)⟩]
def R183_2 : RC := .cond (.tmp 12) (.skip) (.exit 0)
def R183_3 : RC := .seq R183_1 R183_2
def R183_4 : RC := .reg [⟨some 15, none, .mov (.tmp 6)⟩,
    ⟨some 7, none, .mov (.tmp 15)⟩]
def R183_5 : RC := .draw [⟨some 16, none, .mov (.tmp 7)⟩,
    ⟨some 17, none, .mov (.tmp 1)⟩,
    ⟨some 18, none, .bin .gtr 3 (.tmp 16) (.tmp 17)⟩,
    ⟨some 19, none, .mov (.tmp 18)⟩,
    ⟨some 20, some (19, true), .mov (.tmp 0)⟩,
    ⟨some 21, some (19, true), .mov (.tmp 7)⟩,
    ⟨some 22, some (19, true), .ixS 1 (.tmp 20) (.tmp 21)⟩,
    ⟨some 23, some (19, true), .load1 (.tmp 22)⟩,
    ⟨some 24, some (19, true), .mov (.tmp 0)⟩,
    ⟨some 25, some (19, true), .mov (.tmp 7)⟩,
    ⟨some 26, some (19, true), .bin .sub 3 (.tmp 25) (.const (.int .i64 1))⟩,
    ⟨some 27, some (19, true), .ixS 1 (.tmp 24) (.tmp 26)⟩,
    ⟨some 28, some (19, true), .load1 (.tmp 27)⟩,
    ⟨some 29, some (19, true), .call 189 [(.tmp 23), (.tmp 28)]⟩,
    ⟨some 30, none, .pick (.tmp 19) (.tmp 29) (.const (.bool false))⟩] [[⟨0, ⟨some 16, none, .mov (.tmp 7)⟩, false, []⟩,
    ⟨1, ⟨some 17, none, .mov (.tmp 1)⟩, false, []⟩],
   [⟨2, ⟨some 18, none, .bin .gtr 3 (.tmp 16) (.tmp 17)⟩, false, []⟩],
   [⟨3, ⟨some 19, none, .mov (.tmp 18)⟩, false, []⟩],
   [⟨4, ⟨some 20, some (19, true), .mov (.tmp 0)⟩, false, []⟩,
    ⟨5, ⟨some 21, some (19, true), .mov (.tmp 7)⟩, false, []⟩,
    ⟨6, ⟨some 22, some (19, true), .ixS 1 (.tmp 20) (.tmp 21)⟩, false, []⟩,
    ⟨7, ⟨some 23, some (19, true), .load1 (.tmp 22)⟩, true, []⟩,
    ⟨8, ⟨some 24, some (19, true), .mov (.tmp 0)⟩, false, []⟩,
    ⟨9, ⟨some 25, some (19, true), .mov (.tmp 7)⟩, false, []⟩,
    ⟨10, ⟨some 26, some (19, true), .bin .sub 3 (.tmp 25) (.const (.int .i64 1))⟩, false, []⟩,
    ⟨11, ⟨some 27, some (19, true), .ixS 1 (.tmp 24) (.tmp 26)⟩, false, []⟩,
    ⟨12, ⟨some 28, some (19, true), .load1 (.tmp 27)⟩, true, []⟩],
   [⟨13, ⟨some 29, some (19, true), .call 189 [(.tmp 23), (.tmp 28)]⟩, false, []⟩],
   [⟨14, ⟨some 30, none, .pick (.tmp 19) (.tmp 29) (.const (.bool false))⟩, false, []⟩]]
def R183_6 : RC := .cond (.tmp 30) (.skip) (.exit 2)
def R183_7 : RC := .seq R183_5 R183_6
def R183_8 : RC := .draw [⟨some 33, none, .mov (.tmp 0)⟩,
    ⟨some 34, none, .mov (.tmp 7)⟩,
    ⟨some 35, none, .mov (.tmp 0)⟩,
    ⟨some 36, none, .mov (.tmp 7)⟩,
    ⟨some 37, none, .bin .sub 3 (.tmp 36) (.const (.int .i64 1))⟩,
    ⟨some 38, none, .mov (.tmp 0)⟩,
    ⟨some 39, none, .mov (.tmp 7)⟩,
    ⟨some 40, none, .bin .sub 3 (.tmp 39) (.const (.int .i64 1))⟩,
    ⟨some 41, none, .ixS 1 (.tmp 38) (.tmp 40)⟩,
    ⟨some 42, none, .load1 (.tmp 41)⟩,
    ⟨some 43, none, .mov (.tmp 0)⟩,
    ⟨some 44, none, .mov (.tmp 7)⟩,
    ⟨some 45, none, .ixS 1 (.tmp 43) (.tmp 44)⟩,
    ⟨some 46, none, .load1 (.tmp 45)⟩,
    ⟨some 47, none, .ixS 1 (.tmp 33) (.tmp 34)⟩,
    ⟨none, none, .store 1 (.tmp 47) (.tmp 42)⟩,
    ⟨some 48, none, .ixS 1 (.tmp 35) (.tmp 37)⟩,
    ⟨none, none, .store 1 (.tmp 48) (.tmp 46)⟩] [[⟨0, ⟨some 33, none, .mov (.tmp 0)⟩, false, []⟩,
    ⟨1, ⟨some 34, none, .mov (.tmp 7)⟩, false, []⟩,
    ⟨2, ⟨some 35, none, .mov (.tmp 0)⟩, false, []⟩,
    ⟨3, ⟨some 36, none, .mov (.tmp 7)⟩, false, []⟩,
    ⟨4, ⟨some 37, none, .bin .sub 3 (.tmp 36) (.const (.int .i64 1))⟩, false, []⟩,
    ⟨5, ⟨some 38, none, .mov (.tmp 0)⟩, false, []⟩,
    ⟨6, ⟨some 39, none, .mov (.tmp 7)⟩, false, []⟩,
    ⟨7, ⟨some 40, none, .bin .sub 3 (.tmp 39) (.const (.int .i64 1))⟩, false, []⟩,
    ⟨8, ⟨some 41, none, .ixS 1 (.tmp 38) (.tmp 40)⟩, false, []⟩,
    ⟨9, ⟨some 42, none, .load1 (.tmp 41)⟩, true, []⟩,
    ⟨10, ⟨some 43, none, .mov (.tmp 0)⟩, false, []⟩,
    ⟨11, ⟨some 44, none, .mov (.tmp 7)⟩, false, []⟩,
    ⟨12, ⟨some 45, none, .ixS 1 (.tmp 43) (.tmp 44)⟩, false, []⟩,
    ⟨13, ⟨some 46, none, .load1 (.tmp 45)⟩, true, []⟩,
    ⟨14, ⟨some 47, none, .ixS 1 (.tmp 33) (.tmp 34)⟩, false, []⟩,
    ⟨15, ⟨none, none, .store 1 (.tmp 47) (.tmp 42)⟩, false, []⟩],
   [⟨16, ⟨some 48, none, .ixS 1 (.tmp 35) (.tmp 37)⟩, false, []⟩],
   [⟨17, ⟨none, none, .store 1 (.tmp 48) (.tmp 46)⟩, false, []⟩]]
def R183_9 : RC := .block 3 R183_8
def R183_10 : RC := .reg [⟨some 31, none, .mov (.tmp 7)⟩,
    ⟨some 32, none, .bin .sub 3 (.tmp 31) (.const (.int .i64 1))⟩,
    ⟨some 7, none, .mov (.tmp 32)⟩]
def R183_11 : RC := .seq R183_9 R183_10
def R183_12 : RC := .seq R183_7 R183_11
def R183_13 : RC := .loop R183_12
def R183_14 : RC := .block 2 R183_13
def R183_15 : RC := .seq R183_4 R183_14
def R183_16 : RC := .block 1 R183_15
def R183_17 : RC := .reg [⟨some 13, none, .mov (.tmp 6)⟩,
    ⟨some 14, none, .bin .add 3 (.tmp 13) (.const (.int .i64 1))⟩,
    ⟨some 6, none, .mov (.tmp 14)⟩]
def R183_18 : RC := .seq R183_16 R183_17
def R183_19 : RC := .seq R183_3 R183_18
def R183_20 : RC := .loop R183_19
def R183_21 : RC := .block 0 R183_20
def R183_22 : RC := .seq R183_0 R183_21

-- 184: slices.heapSortOrdered[string]
def R184_0 : RC := .reg [⟨some 11, none, .mov (.tmp 1)⟩,
    ⟨some 6, none, .mov (.tmp 11)⟩]
def R184_1 : RC := .reg [⟨some 7, none, .mov (.const (.int .i64 0))⟩]
def R184_2 : RC := .reg [⟨some 12, none, .mov (.tmp 2)⟩,
    ⟨some 13, none, .mov (.tmp 1)⟩,
    ⟨some 14, none, .bin .sub 3 (.tmp 12) (.tmp 13)⟩,
    ⟨some 8, none, .mov (.tmp 14)⟩]
def R184_3 : RC := .reg [⟨some 15, none, .mov (.tmp 8)⟩,
    ⟨some 16, none, .bin .sub 3 (.tmp 15) (.const (.int .i64 1))⟩,
    ⟨some 17, none, .bin .quo 3 (.tmp 16) (.const (.int .i64 2))⟩,
    ⟨some 9, none, .mov (.tmp 17)⟩]
def R184_4 : RC := .reg [⟨some 18, none, .mov (.tmp 9)⟩,
    ⟨some 19, none, .bin .geq 3 (.tmp 18) (.const (.int .i64 0))⟩]
def R184_5 : RC := .cond (.tmp 19) (.skip) (.exit 0)
def R184_6 : RC := .seq R184_4 R184_5
def R184_7 : RC := .reg [⟨some 22, none, .mov (.tmp 0)⟩,
    ⟨some 23, none, .mov (.tmp 9)⟩,
    ⟨some 24, none, .mov (.tmp 8)⟩,
    ⟨some 25, none, .mov (.tmp 6)⟩,
    ⟨some 26, none, .call 199 [(.tmp 22), (.tmp 23), (.tmp 24), (.tmp 25)]⟩]
def R184_8 : RC := .block 1 R184_7
def R184_9 : RC := .reg [⟨some 20, none, .mov (.tmp 9)⟩,
    ⟨some 21, none, .bin .sub 3 (.tmp 20) (.const (.int .i64 1))⟩,
    ⟨some 9, none, .mov (.tmp 21)⟩]
def R184_10 : RC := .seq R184_8 R184_9
def R184_11 : RC := .seq R184_6 R184_10
def R184_12 : RC := .loop R184_11
def R184_13 : RC := .block 0 R184_12
def R184_14 : RC := .seq R184_3 R184_13
def R184_15 : RC := .reg [⟨some 27, none, .mov (.tmp 8)⟩,
    ⟨some 28, none, .bin .sub 3 (.tmp 27) (.const (.int .i64 1))⟩,
    ⟨some 10, none, .mov (.tmp 28)⟩]
def R184_16 : RC := .reg [⟨some 29, none, .mov (.tmp 10)⟩,
    ⟨some 30, none, .bin .geq 3 (.tmp 29) (.const (.int .i64 0))⟩]
def R184_17 : RC := .cond (.tmp 30) (.skip) (.exit 2)
def R184_18 : RC := .seq R184_16 R184_17
def R184_19 : RC := .draw [⟨some 33, none, .mov (.tmp 0)⟩,
    ⟨some 34, none, .mov (.tmp 6)⟩,
    ⟨some 35, none, .mov (.tmp 0)⟩,
    ⟨some 36, none, .mov (.tmp 6)⟩,
    ⟨some 37, none, .mov (.tmp 10)⟩,
    ⟨some 38, none, .bin .add 3 (.tmp 36) (.tmp 37)⟩,
    ⟨some 39, none, .mov (.tmp 0)⟩,
    ⟨some 40, none, .mov (.tmp 6)⟩,
    ⟨some 41, none, .mov (.tmp 10)⟩,
    ⟨some 42, none, .bin .add 3 (.tmp 40) (.tmp 41)⟩,
    ⟨some 43, none, .ixS 1 (.tmp 39) (.tmp 42)⟩,
    ⟨some 44, none, .load1 (.tmp 43)⟩,
    ⟨some 45, none, .mov (.tmp 0)⟩,
    ⟨some 46, none, .mov (.tmp 6)⟩,
    ⟨some 47, none, .ixS 1 (.tmp 45) (.tmp 46)⟩,
    ⟨some 48, none, .load1 (.tmp 47)⟩,
    ⟨some 49, none, .ixS 1 (.tmp 33) (.tmp 34)⟩,
    ⟨none, none, .store 1 (.tmp 49) (.tmp 44)⟩,
    ⟨some 50, none, .ixS 1 (.tmp 35) (.tmp 38)⟩,
    ⟨none, none, .store 1 (.tmp 50) (.tmp 48)⟩] [[⟨0, ⟨some 33, none, .mov (.tmp 0)⟩, false, []⟩,
    ⟨1, ⟨some 34, none, .mov (.tmp 6)⟩, false, []⟩,
    ⟨2, ⟨some 35, none, .mov (.tmp 0)⟩, false, []⟩,
    ⟨3, ⟨some 36, none, .mov (.tmp 6)⟩, false, []⟩,
    ⟨4, ⟨some 37, none, .mov (.tmp 10)⟩, false, []⟩,
    ⟨5, ⟨some 38, none, .bin .add 3 (.tmp 36) (.tmp 37)⟩, false, []⟩,
    ⟨6, ⟨some 39, none, .mov (.tmp 0)⟩, false, []⟩,
    ⟨7, ⟨some 40, none, .mov (.tmp 6)⟩, false, []⟩,
    ⟨8, ⟨some 41, none, .mov (.tmp 10)⟩, false, []⟩,
    ⟨9, ⟨some 42, none, .bin .add 3 (.tmp 40) (.tmp 41)⟩, false, []⟩,
    ⟨10, ⟨some 43, none, .ixS 1 (.tmp 39) (.tmp 42)⟩, false, []⟩,
    ⟨11, ⟨some 44, none, .load1 (.tmp 43)⟩, true, []⟩,
    ⟨12, ⟨some 45, none, .mov (.tmp 0)⟩, false, []⟩,
    ⟨13, ⟨some 46, none, .mov (.tmp 6)⟩, false, []⟩,
    ⟨14, ⟨some 47, none, .ixS 1 (.tmp 45) (.tmp 46)⟩, false, []⟩,
    ⟨15, ⟨some 48, none, .load1 (.tmp 47)⟩, true, []⟩,
    ⟨16, ⟨some 49, none, .ixS 1 (.tmp 33) (.tmp 34)⟩, false, []⟩,
    ⟨17, ⟨none, none, .store 1 (.tmp 49) (.tmp 44)⟩, false, []⟩],
   [⟨18, ⟨some 50, none, .ixS 1 (.tmp 35) (.tmp 38)⟩, false, []⟩],
   [⟨19, ⟨none, none, .store 1 (.tmp 50) (.tmp 48)⟩, false, []⟩]]
def R184_20 : RC := .reg [⟨some 51, none, .mov (.tmp 0)⟩,
    ⟨some 52, none, .mov (.tmp 7)⟩,
    ⟨some 53, none, .mov (.tmp 10)⟩,
    ⟨some 54, none, .mov (.tmp 6)⟩,
    ⟨some 55, none, .call 199 [(.tmp 51), (.tmp 52), (.tmp 53), (.tmp 54)]⟩]
def R184_21 : RC := .seq R184_19 R184_20
def R184_22 : RC := .block 3 R184_21
def R184_23 : RC := .reg [⟨some 31, none, .mov (.tmp 10)⟩,
    ⟨some 32, none, .bin .sub 3 (.tmp 31) (.const (.int .i64 1))⟩,
    ⟨some 10, none, .mov (.tmp 32)⟩]
def R184_24 : RC := .seq R184_22 R184_23
def R184_25 : RC := .seq R184_18 R184_24
def R184_26 : RC := .loop R184_25
def R184_27 : RC := .block 2 R184_26
def R184_28 : RC := .seq R184_15 R184_27
def R184_29 : RC := .seq R184_14 R184_28
def R184_30 : RC := .seq R184_2 R184_29
def R184_31 : RC := .seq R184_1 R184_30
def R184_32 : RC := .seq R184_0 R184_31

-- 185: slices.breakPatternsOrdered[string]
def R185_0 : RC := .reg [⟨some 11, none, .mov (.tmp 2)⟩,
    ⟨some 12, none, .mov (.tmp 1)⟩,
    ⟨some 13, none, .bin .sub 3 (.tmp 11) (.tmp 12)⟩,
    ⟨some 6, none, .mov (.tmp 13)⟩]
def R185_1 : RC := .reg [⟨some 14, none, .mov (.tmp 6)⟩,
    ⟨some 15, none, .bin .geq 3 (.tmp 14) (.const (.int .i64 8))⟩]
def R185_2 : RC := .reg [⟨some 16, none, .mov (.tmp 6)⟩,
    ⟨some 17, none, .cvInt .u64 (.tmp 16)⟩,
    ⟨some 7, none, .newv 281 (.int .u64 0)⟩,
    ⟨none, none, .store 1 (.tmp 7) (.tmp 17)⟩]
def R185_3 : RC := .reg [⟨some 18, none, .mov (.tmp 6)⟩,
    ⟨some 19, none, .call 200 [(.tmp 18)]⟩,
    ⟨some 8, none, .mov (.tmp 19)⟩]
def R185_4 : RC := .reg [⟨some 20, none, .mov (.tmp 1)⟩,
    ⟨some 21, none, .mov (.tmp 6)⟩,
    ⟨some 22, none, .bin .quo 3 (.tmp 21) (.const (.int .i64 4))⟩,
    ⟨some 23, none, .bin .mul 3 (.tmp 22) (.const (.int .i64 2))⟩,
    ⟨some 24, none, .bin .add 3 (.tmp 20) (.tmp 23)⟩,
    ⟨some 25, none, .bin .sub 3 (.tmp 24) (.const (.int .i64 1))⟩,
    ⟨some 9, none, .mov (.tmp 25)⟩]
def R185_5 : RC := .reg [⟨some 26, none, .mov (.tmp 9)⟩,
    ⟨some 27, none, .mov (.tmp 1)⟩,
    ⟨some 28, none, .mov (.tmp 6)⟩,
    ⟨some 29, none, .bin .quo 3 (.tmp 28) (.const (.int .i64 4))⟩,
    ⟨some 30, none, .bin .mul 3 (.tmp 29) (.const (.int .i64 2))⟩,
    ⟨some 31, none, .bin .add 3 (.tmp 27) (.tmp 30)⟩,
    ⟨some 32, none, .bin .add 3 (.tmp 31) (.const (.int .i64 1))⟩,
    ⟨some 33, none, .bin .leq 3 (.tmp 26) (.tmp 32)⟩]
def R185_6 : RC := .cond (.tmp 33) (.skip) (.exit 0)
def R185_7 : RC := .seq R185_5 R185_6
def R185_8 : RC := .reg [⟨some 36, none, .call 201 [(.tmp 7)]⟩,
    ⟨some 37, none, .mov (.tmp 8)⟩,
    ⟨some 38, none, .bin .sub 206 (.tmp 37) (.const (.int .u64 1))⟩,
    ⟨some 39, none, .bin .and 206 (.tmp 36) (.tmp 38)⟩,
    ⟨some 40, none, .cvInt .i64 (.tmp 39)⟩,
    ⟨some 10, none, .mov (.tmp 40)⟩]
def R185_9 : RC := .reg [⟨some 41, none, .mov (.tmp 10)⟩,
    ⟨some 42, none, .mov (.tmp 6)⟩,
    ⟨some 43, none, .bin .geq 3 (.tmp 41) (.tmp 42)⟩]
def R185_10 : RC := .reg [⟨some 44, none, .mov (.tmp 10)⟩,
    ⟨some 45, none, .mov (.tmp 6)⟩,
    ⟨some 46, none, .bin .sub 3 (.tmp 44) (.tmp 45)⟩,
    ⟨some 10, none, .mov (.tmp 46)⟩]
def R185_11 : RC := .cond (.tmp 43) R185_10 (.skip)
def R185_12 : RC := .seq R185_9 R185_11
def R185_13 : RC := .draw [⟨some 47, none, .mov (.tmp 0)⟩,
    ⟨some 48, none, .mov (.tmp 9)⟩,
    ⟨some 49, none, .mov (.tmp 0)⟩,
    ⟨some 50, none, .mov (.tmp 1)⟩,
    ⟨some 51, none, .mov (.tmp 10)⟩,
    ⟨some 52, none, .bin .add 3 (.tmp 50) (.tmp 51)⟩,
    ⟨some 53, none, .mov (.tmp 0)⟩,
    ⟨some 54, none, .mov (.tmp 1)⟩,
    ⟨some 55, none, .mov (.tmp 10)⟩,
    ⟨some 56, none, .bin .add 3 (.tmp 54) (.tmp 55)⟩,
    ⟨some 57, none, .ixS 1 (.tmp 53) (.tmp 56)⟩,
    ⟨some 58, none, .load1 (.tmp 57)⟩,
    ⟨some 59, none, .mov (.tmp 0)⟩,
    ⟨some 60, none, .mov (.tmp 9)⟩,
    ⟨some 61, none, .ixS 1 (.tmp 59) (.tmp 60)⟩,
    ⟨some 62, none, .load1 (.tmp 61)⟩,
    ⟨some 63, none, .ixS 1 (.tmp 47) (.tmp 48)⟩,
    ⟨none, none, .store 1 (.tmp 63) (.tmp 58)⟩,
    ⟨some 64, none, .ixS 1 (.tmp 49) (.tmp 52)⟩,
    ⟨none, none, .store 1 (.tmp 64) (.tmp 62)⟩] [[⟨0, ⟨some 47, none, .mov (.tmp 0)⟩, false, []⟩,
    ⟨1, ⟨some 48, none, .mov (.tmp 9)⟩, false, []⟩,
    ⟨2, ⟨some 49, none, .mov (.tmp 0)⟩, false, []⟩,
    ⟨3, ⟨some 50, none, .mov (.tmp 1)⟩, false, []⟩,
    ⟨4, ⟨some 51, none, .mov (.tmp 10)⟩, false, []⟩,
    ⟨5, ⟨some 52, none, .bin .add 3 (.tmp 50) (.tmp 51)⟩, false, []⟩,
    ⟨6, ⟨some 53, none, .mov (.tmp 0)⟩, false, []⟩,
    ⟨7, ⟨some 54, none, .mov (.tmp 1)⟩, false, []⟩,
    ⟨8, ⟨some 55, none, .mov (.tmp 10)⟩, false, []⟩,
    ⟨9, ⟨some 56, none, .bin .add 3 (.tmp 54) (.tmp 55)⟩, false, []⟩,
    ⟨10, ⟨some 57, none, .ixS 1 (.tmp 53) (.tmp 56)⟩, false, []⟩,
    ⟨11, ⟨some 58, none, .load1 (.tmp 57)⟩, true, []⟩,
    ⟨12, ⟨some 59, none, .mov (.tmp 0)⟩, false, []⟩,
    ⟨13, ⟨some 60, none, .mov (.tmp 9)⟩, false, []⟩,
    ⟨14, ⟨some 61, none, .ixS 1 (.tmp 59) (.tmp 60)⟩, false, []⟩,
    ⟨15, ⟨some 62, none, .load1 (.tmp 61)⟩, true, []⟩,
    ⟨16, ⟨some 63, none, .ixS 1 (.tmp 47) (.tmp 48)⟩, false, []⟩,
    ⟨17, ⟨none, none, .store 1 (.tmp 63) (.tmp 58)⟩, false, []⟩],
   [⟨18, ⟨some 64, none, .ixS 1 (.tmp 49) (.tmp 52)⟩, false, []⟩],
   [⟨19, ⟨none, none, .store 1 (.tmp 64) (.tmp 62)⟩, false, []⟩]]
def R185_14 : RC := .seq R185_12 R185_13
def R185_15 : RC := .seq R185_8 R185_14
def R185_16 : RC := .block 1 R185_15
def R185_17 : RC := .reg [⟨some 34, none, .mov (.tmp 9)⟩,
    ⟨some 35, none, .bin .add 3 (.tmp 34) (.const (.int .i64 1))⟩,
    ⟨some 9, none, .mov (.tmp 35)⟩]
def R185_18 : RC := .seq R185_16 R185_17
def R185_19 : RC := .seq R185_7 R185_18
def R185_20 : RC := .loop R185_19
def R185_21 : RC := .block 0 R185_20
def R185_22 : RC := .seq R185_4 R185_21
def R185_23 : RC := .seq R185_3 R185_22
def R185_24 : RC := .seq R185_2 R185_23
def R185_25 : RC := .cond (.tmp 15) R185_24 (.skip)
def R185_26 : RC := .seq R185_1 R185_25
def R185_27 : RC := .seq R185_0 R185_26

-- 186: slices.choosePivotOrdered[string]
def R186_0 : RC := .reg [⟨some 6, none, .mov (.const (.int .i64 0))⟩,
    ⟨some 7, none, .mov (.const (.int .i64 0))⟩]
def R186_1 : RC := .reg [⟨some 13, none, .mov (.tmp 2)⟩,
    ⟨some 14, none, .mov (.tmp 1)⟩,
    ⟨some 15, none, .bin .sub 3 (.tmp 13) (.tmp 14)⟩,
    ⟨some 8, none, .mov (.tmp 15)⟩]
def R186_2 : RC := .reg [⟨some 9, none, .newv 3 (.int .i64 0)⟩]
def R186_3 : RC := .reg [⟨some 16, none, .mov (.tmp 1)⟩,
    ⟨some 17, none, .mov (.tmp 8)⟩,
    ⟨some 18, none, .bin .quo 3 (.tmp 17) (.const (.int .i64 4))⟩,
    ⟨some 19, none, .bin .mul 3 (.tmp 18) (.const (.int .i64 1))⟩,
    ⟨some 20, none, .bin .add 3 (.tmp 16) (.tmp 19)⟩,
    ⟨some 10, none, .mov (.tmp 20)⟩]
def R186_4 : RC := .reg [⟨some 21, none, .mov (.tmp 1)⟩,
    ⟨some 22, none, .mov (.tmp 8)⟩,
    ⟨some 23, none, .bin .quo 3 (.tmp 22) (.const (.int .i64 4))⟩,
    ⟨some 24, none, .bin .mul 3 (.tmp 23) (.const (.int .i64 2))⟩,
    ⟨some 25, none, .bin .add 3 (.tmp 21) (.tmp 24)⟩,
    ⟨some 11, none, .mov (.tmp 25)⟩]
def R186_5 : RC := .reg [⟨some 26, none, .mov (.tmp 1)⟩,
    ⟨some 27, none, .mov (.tmp 8)⟩,
    ⟨some 28, none, .bin .quo 3 (.tmp 27) (.const (.int .i64 4))⟩,
    ⟨some 29, none, .bin .mul 3 (.tmp 28) (.const (.int .i64 3))⟩,
    ⟨some 30, none, .bin .add 3 (.tmp 26) (.tmp 29)⟩,
    ⟨some 12, none, .mov (.tmp 30)⟩]
def R186_6 : RC := .reg [⟨some 31, none, .mov (.tmp 8)⟩,
    ⟨some 32, none, .bin .geq 3 (.tmp 31) (.const (.int .i64 8))⟩]
def R186_7 : RC := .reg [⟨some 33, none, .mov (.tmp 8)⟩,
    ⟨some 34, none, .bin .geq 3 (.tmp 33) (.const (.int .i64 50))⟩]
def R186_8 : RC := .reg [⟨some 35, none, .mov (.tmp 0)⟩,
    ⟨some 36, none, .mov (.tmp 10)⟩,
    ⟨some 37, none, .call 202 [(.tmp 35), (.tmp 36), (.tmp 9)]⟩,
    ⟨some 10, none, .mov (.tmp 37)⟩]
def R186_9 : RC := .reg [⟨some 38, none, .mov (.tmp 0)⟩,
    ⟨some 39, none, .mov (.tmp 11)⟩,
    ⟨some 40, none, .call 202 [(.tmp 38), (.tmp 39), (.tmp 9)]⟩,
    ⟨some 11, none, .mov (.tmp 40)⟩]
def R186_10 : RC := .reg [⟨some 41, none, .mov (.tmp 0)⟩,
    ⟨some 42, none, .mov (.tmp 12)⟩,
    ⟨some 43, none, .call 202 [(.tmp 41), (.tmp 42), (.tmp 9)]⟩,
    ⟨some 12, none, .mov (.tmp 43)⟩]
def R186_11 : RC := .seq R186_9 R186_10
def R186_12 : RC := .seq R186_8 R186_11
def R186_13 : RC := .cond (.tmp 34) R186_12 (.skip)
def R186_14 : RC := .seq R186_7 R186_13
def R186_15 : RC := .reg [⟨some 44, none, .mov (.tmp 0)⟩,
    ⟨some 45, none, .mov (.tmp 10)⟩,
    ⟨some 46, none, .mov (.tmp 11)⟩,
    ⟨some 47, none, .mov (.tmp 12)⟩,
    ⟨some 48, none, .call 203 [(.tmp 44), (.tmp 45), (.tmp 46), (.tmp 47), (.tmp 9)]⟩,
    ⟨some 11, none, .mov (.tmp 48)⟩]
def R186_16 : RC := .seq R186_14 R186_15
def R186_17 : RC := .cond (.tmp 32) R186_16 (.skip)
def R186_18 : RC := .seq R186_6 R186_17
def R186_19 : RC := .reg [⟨some 49, none, .load1 (.tmp 9)⟩]
def R186_20 : RC := .reg [⟨some 52, none, .bin .eql 3 (.tmp 49) (.const (.int .i64 0))⟩,
    ⟨some 51, none, .mov (.tmp 52)⟩]
def R186_21 : RC := .reg [⟨some 53, none, .mov (.tmp 11)⟩,
    ⟨some 6, none, .mov (.tmp 53)⟩,
    ⟨some 7, none, .mov (.const (.int .i64 1))⟩]
def R186_22 : RC := .seq R186_21 (.ret)
def R186_23 : RC := .reg [⟨some 55, none, .bin .eql 3 (.tmp 49) (.const (.int .i64 12))⟩,
    ⟨some 54, none, .mov (.tmp 55)⟩]
def R186_24 : RC := .reg [⟨some 56, none, .mov (.tmp 11)⟩,
    ⟨some 6, none, .mov (.tmp 56)⟩,
    ⟨some 7, none, .mov (.const (.int .i64 2))⟩]
def R186_25 : RC := .seq R186_24 (.ret)
def R186_26 : RC := .reg [⟨some 50, none, .mov (.tmp 11)⟩,
    ⟨some 6, none, .mov (.tmp 50)⟩,
    ⟨some 7, none, .mov (.const (.int .i64 0))⟩]
def R186_27 : RC := .seq R186_26 (.ret)
def R186_28 : RC := .cond (.tmp 54) R186_25 R186_27
def R186_29 : RC := .seq R186_23 R186_28
def R186_30 : RC := .cond (.tmp 51) R186_22 R186_29
def R186_31 : RC := .seq R186_20 R186_30
def R186_32 : RC := .block 0 R186_31
def R186_33 : RC := .seq R186_19 R186_32
def R186_34 : RC := .seq R186_18 R186_33
def R186_35 : RC := .seq R186_5 R186_34
def R186_36 : RC := .seq R186_4 R186_35
def R186_37 : RC := .seq R186_3 R186_36
def R186_38 : RC := .seq R186_2 R186_37
def R186_39 : RC := .seq R186_1 R186_38
def R186_40 : RC := .seq R186_0 R186_39

-- 187: slices.reverseRangeOrdered[string]
def R187_0 : RC := .reg [⟨some 8, none, .mov (.tmp 1)⟩,
    ⟨some 6, none, .mov (.tmp 8)⟩]
def R187_1 : RC := .reg [⟨some 9, none, .mov (.tmp 2)⟩,
    ⟨some 10, none, .bin .sub 3 (.tmp 9) (.const (.int .i64 1))⟩,
    ⟨some 7, none, .mov (.tmp 10)⟩]
def R187_2 : RC := .reg [⟨some 11, none, .mov (.tmp 6)⟩,
    ⟨some 12, none, .mov (.tmp 7)⟩,
    ⟨some 13, none, .bin .lss 3 (.tmp 11) (.tmp 12)⟩]
def R187_3 : RC := .cond (.tmp 13) (.skip) (.exit 0)
def R187_4 : RC := .seq R187_2 R187_3
def R187_5 : RC := .draw [⟨some 14, none, .mov (.tmp 0)⟩,
    ⟨some 15, none, .mov (.tmp 6)⟩,
    ⟨some 16, none, .mov (.tmp 0)⟩,
    ⟨some 17, none, .mov (.tmp 7)⟩,
    ⟨some 18, none, .mov (.tmp 0)⟩,
    ⟨some 19, none, .mov (.tmp 7)⟩,
    ⟨some 20, none, .ixS 1 (.tmp 18) (.tmp 19)⟩,
    ⟨some 21, none, .load1 (.tmp 20)⟩,
    ⟨some 22, none, .mov (.tmp 0)⟩,
    ⟨some 23, none, .mov (.tmp 6)⟩,
    ⟨some 24, none, .ixS 1 (.tmp 22) (.tmp 23)⟩,
    ⟨some 25, none, .load1 (.tmp 24)⟩,
    ⟨some 26, none, .ixS 1 (.tmp 14) (.tmp 15)⟩,
    ⟨none, none, .store 1 (.tmp 26) (.tmp 21)⟩,
    ⟨some 27, none, .ixS 1 (.tmp 16) (.tmp 17)⟩,
    ⟨none, none, .store 1 (.tmp 27) (.tmp 25)⟩] [[⟨0, ⟨some 14, none, .mov (.tmp 0)⟩, false, []⟩,
    ⟨1, ⟨some 15, none, .mov (.tmp 6)⟩, false, []⟩,
    ⟨2, ⟨some 16, none, .mov (.tmp 0)⟩, false, []⟩,
    ⟨3, ⟨some 17, none, .mov (.tmp 7)⟩, false, []⟩,
    ⟨4, ⟨some 18, none, .mov (.tmp 0)⟩, false, []⟩,
    ⟨5, ⟨some 19, none, .mov (.tmp 7)⟩, false, []⟩,
    ⟨6, ⟨some 20, none, .ixS 1 (.tmp 18) (.tmp 19)⟩, false, []⟩,
    ⟨7, ⟨some 21, none, .load1 (.tmp 20)⟩, true, []⟩,
    ⟨8, ⟨some 22, none, .mov (.tmp 0)⟩, false, []⟩,
    ⟨9, ⟨some 23, none, .mov (.tmp 6)⟩, false, []⟩,
    ⟨10, ⟨some 24, none, .ixS 1 (.tmp 22) (.tmp 23)⟩, false, []⟩,
    ⟨11, ⟨some 25, none, .load1 (.tmp 24)⟩, true, []⟩,
    ⟨12, ⟨some 26, none, .ixS 1 (.tmp 14) (.tmp 15)⟩, false, []⟩,
    ⟨13, ⟨none, none, .store 1 (.tmp 26) (.tmp 21)⟩, false, []⟩],
   [⟨14, ⟨some 27, none, .ixS 1 (.tmp 16) (.tmp 17)⟩, false, []⟩],
   [⟨15, ⟨none, none, .store 1 (.tmp 27) (.tmp 25)⟩, false, []⟩]]
def R187_6 : RC := .reg [⟨some 28, none, .mov (.tmp 6)⟩,
    ⟨some 29, none, .bin .add 3 (.tmp 28) (.const (.int .i64 1))⟩,
    ⟨some 6, none, .mov (.tmp 29)⟩]
def R187_7 : RC := .reg [⟨some 30, none, .mov (.tmp 7)⟩,
    ⟨some 31, none, .bin .sub 3 (.tmp 30) (.const (.int .i64 1))⟩,
    ⟨some 7, none, .mov (.tmp 31)⟩]
def R187_8 : RC := .seq R187_6 R187_7
def R187_9 : RC := .seq R187_5 R187_8
def R187_10 : RC := .block 1 R187_9
def R187_11 : RC := .seq R187_4 R187_10
def R187_12 : RC := .loop R187_11
def R187_13 : RC := .block 0 R187_12
def R187_14 : RC := .seq R187_1 R187_13
def R187_15 : RC := .seq R187_0 R187_14

-- 188: slices.partialInsertionSortOrdered[string]
def R188_0 : RC := .reg [⟨some 6, none, .mov (.const (.bool false))⟩]
def R188_1 : RC := .reg [⟨some 11, none, .mov (.tmp 1)⟩,
    ⟨some 12, none, .bin .add 3 (.tmp 11) (.const (.int .i64 1))⟩,
    ⟨some 7, none, .mov (.tmp 12)⟩]
def R188_2 : RC := .reg [⟨some 8, none, .mov (.const (.int .i64 0))⟩]
def R188_3 : RC := .reg [⟨some 13, none, .mov (.tmp 8)⟩,
    ⟨some 14, none, .bin .lss 3 (.tmp 13) (.const (.int .i64 5))⟩]
def R188_4 : RC := .cond (.tmp 14) (.skip) (.exit 0)
def R188_5 : RC := .seq R188_3 R188_4
def R188_6 : RC := .draw [⟨some 17, none, .mov (.tmp 7)⟩,
    ⟨some 18, none, .mov (.tmp 2)⟩,
    ⟨some 19, none, .bin .lss 3 (.tmp 17) (.tmp 18)⟩,
    ⟨some 20, none, .mov (.tmp 19)⟩,
    ⟨some 21, some (20, true), .mov (.tmp 0)⟩,
    ⟨some 22, some (20, true), .mov (.tmp 7)⟩,
    ⟨some 23, some (20, true), .ixS 1 (.tmp 21) (.tmp 22)⟩,
    ⟨some 24, some (20, true), .load1 (.tmp 23)⟩,
    ⟨some 25, some (20, true), .mov (.tmp 0)⟩,
    ⟨some 26, some (20, true), .mov (.tmp 7)⟩,
    ⟨some 27, some (20, true), .bin .sub 3 (.tmp 26) (.const (.int .i64 1))⟩,
    ⟨some 28, some (20, true), .ixS 1 (.tmp 25) (.tmp 27)⟩,
    ⟨some 29, some (20, true), .load1 (.tmp 28)⟩,
    ⟨some 30, some (20, true), .call 189 [(.tmp 24), (.tmp 29)]⟩,
    ⟨some 31, some (20, true), .un .not (.tmp 30)⟩,
    ⟨some 32, none, .pick (.tmp 20) (.tmp 31) (.const (.bool false))⟩] [[⟨0, ⟨some 17, none, .mov (.tmp 7)⟩, false, []⟩,
    ⟨1, ⟨some 18, none, .mov (.tmp 2)⟩, false, []⟩],
   [⟨2, ⟨some 19, none, .bin .lss 3 (.tmp 17) (.tmp 18)⟩, false, []⟩],
   [⟨3, ⟨some 20, none, .mov (.tmp 19)⟩, false, []⟩],
   [⟨4, ⟨some 21, some (20, true), .mov (.tmp 0)⟩, false, []⟩,
    ⟨5, ⟨some 22, some (20, true), .mov (.tmp 7)⟩, false, []⟩,
    ⟨6, ⟨some 23, some (20, true), .ixS 1 (.tmp 21) (.tmp 22)⟩, false, []⟩,
    ⟨7, ⟨some 24, some (20, true), .load1 (.tmp 23)⟩, true, []⟩,
    ⟨8, ⟨some 25, some (20, true), .mov (.tmp 0)⟩, false, []⟩,
    ⟨9, ⟨some 26, some (20, true), .mov (.tmp 7)⟩, false, []⟩,
    ⟨10, ⟨some 27, some (20, true), .bin .sub 3 (.tmp 26) (.const (.int .i64 1))⟩, false, []⟩,
    ⟨11, ⟨some 28, some (20, true), .ixS 1 (.tmp 25) (.tmp 27)⟩, false, []⟩,
    ⟨12, ⟨some 29, some (20, true), .load1 (.tmp 28)⟩, true, []⟩],
   [⟨13, ⟨some 30, some (20, true), .call 189 [(.tmp 24), (.tmp 29)]⟩, false, []⟩],
   [⟨14, ⟨some 31, some (20, true), .un .not (.tmp 30)⟩, false, []⟩],
   [⟨15, ⟨some 32, none, .pick (.tmp 20) (.tmp 31) (.const (.bool false))⟩, false, []⟩]]
def R188_7 : RC := .cond (.tmp 32) (.skip) (.exit 2)
def R188_8 : RC := .seq R188_6 R188_7
def R188_9 : RC := .reg [⟨some 33, none, .mov (.tmp 7)⟩,
    ⟨some 34, none, .bin .add 3 (.tmp 33) (.const (.int .i64 1))⟩,
    ⟨some 7, none, .mov (.tmp 34)⟩]
def R188_10 : RC := .block 3 R188_9
def R188_11 : RC := .seq R188_8 R188_10
def R188_12 : RC := .loop R188_11
def R188_13 : RC := .block 2 R188_12
def R188_14 : RC := .reg [⟨some 35, none, .mov (.tmp 7)⟩,
    ⟨some 36, none, .mov (.tmp 2)⟩,
    ⟨some 37, none, .bin .eql 3 (.tmp 35) (.tmp 36)⟩]
def R188_15 : RC := .reg [⟨some 6, none, .mov (.const (.bool true))⟩]
def R188_16 : RC := .seq R188_15 (.ret)
def R188_17 : RC := .cond (.tmp 37) R188_16 (.skip)
def R188_18 : RC := .seq R188_14 R188_17
def R188_19 : RC := .reg [⟨some 38, none, .mov (.tmp 2)⟩,
    ⟨some 39, none, .mov (.tmp 1)⟩,
    ⟨some 40, none, .bin .sub 3 (.tmp 38) (.tmp 39)⟩,
    ⟨some 41, none, .bin .lss 3 (.tmp 40) (.const (.int .i64 50))⟩]
def R188_20 : RC := .reg [⟨some 6, none, .mov (.const (.bool false))⟩]
def R188_21 : RC := .seq R188_20 (.ret)
def R188_22 : RC := .cond (.tmp 41) R188_21 (.skip)
def R188_23 : RC := .seq R188_19 R188_22
def R188_24 : RC := .draw [⟨some 42, none, .mov (.tmp 0)⟩,
    ⟨some 43, none, .mov (.tmp 7)⟩,
    ⟨some 44, none, .mov (.tmp 0)⟩,
    ⟨some 45, none, .mov (.tmp 7)⟩,
    ⟨some 46, none, .bin .sub 3 (.tmp 45) (.const (.int .i64 1))⟩,
    ⟨some 47, none, .mov (.tmp 0)⟩,
    ⟨some 48, none, .mov (.tmp 7)⟩,
    ⟨some 49, none, .bin .sub 3 (.tmp 48) (.const (.int .i64 1))⟩,
    ⟨some 50, none, .ixS 1 (.tmp 47) (.tmp 49)⟩,
    ⟨some 51, none, .load1 (.tmp 50)⟩,
    ⟨some 52, none, .mov (.tmp 0)⟩,
    ⟨some 53, none, .mov (.tmp 7)⟩,
    ⟨some 54, none, .ixS 1 (.tmp 52) (.tmp 53)⟩,
    ⟨some 55, none, .load1 (.tmp 54)⟩,
    ⟨some 56, none, .ixS 1 (.tmp 42) (.tmp 43)⟩,
    ⟨none, none, .store 1 (.tmp 56) (.tmp 51)⟩,
    ⟨some 57, none, .ixS 1 (.tmp 44) (.tmp 46)⟩,
    ⟨none, none, .store 1 (.tmp 57) (.tmp 55)⟩] [[⟨0, ⟨some 42, none, .mov (.tmp 0)⟩, false, []⟩,
    ⟨1, ⟨some 43, none, .mov (.tmp 7)⟩, false, []⟩,
    ⟨2, ⟨some 44, none, .mov (.tmp 0)⟩, false, []⟩,
    ⟨3, ⟨some 45, none, .mov (.tmp 7)⟩, false, []⟩,
    ⟨4, ⟨some 46, none, .bin .sub 3 (.tmp 45) (.const (.int .i64 1))⟩, false, []⟩,
    ⟨5, ⟨some 47, none, .mov (.tmp 0)⟩, false, []⟩,
    ⟨6, ⟨some 48, none, .mov (.tmp 7)⟩, false, []⟩,
    ⟨7, ⟨some 49, none, .bin .sub 3 (.tmp 48) (.const (.int .i64 1))⟩, false, []⟩,
    ⟨8, ⟨some 50, none, .ixS 1 (.tmp 47) (.tmp 49)⟩, false, []⟩,
    ⟨9, ⟨some 51, none, .load1 (.tmp 50)⟩, true, []⟩,
    ⟨10, ⟨some 52, none, .mov (.tmp 0)⟩, false, []⟩,
    ⟨11, ⟨some 53, none, .mov (.tmp 7)⟩, false, []⟩,
    ⟨12, ⟨some 54, none, .ixS 1 (.tmp 52) (.tmp 53)⟩, false, []⟩,
    ⟨13, ⟨some 55, none, .load1 (.tmp 54)⟩, true, []⟩,
    ⟨14, ⟨some 56, none, .ixS 1 (.tmp 42) (.tmp 43)⟩, false, []⟩,
    ⟨15, ⟨none, none, .store 1 (.tmp 56) (.tmp 51)⟩, false, []⟩],
   [⟨16, ⟨some 57, none, .ixS 1 (.tmp 44) (.tmp 46)⟩, false, []⟩],
   [⟨17, ⟨none, none, .store 1 (.tmp 57) (.tmp 55)⟩, false, []⟩]]
def R188_25 : RC := .reg [⟨some 58, none, .mov (.tmp 7)⟩,
    ⟨some 59, none, .mov (.tmp 1)⟩,
    ⟨some 60, none, .bin .sub 3 (.tmp 58) (.tmp 59)⟩,
    ⟨some 61, none, .bin .geq 3 (.tmp 60) (.const (.int .i64 2))⟩]
def R188_26 : RC := .reg [⟨some 62, none, .mov (.tmp 7)⟩,
    ⟨some 63, none, .bin .sub 3 (.tmp 62) (.const (.int .i64 1))⟩,
    ⟨some 9, none, .mov (.tmp 63)⟩]
def R188_27 : RC := .reg [⟨some 64, none, .mov (.tmp 9)⟩,
    ⟨some 65, none, .bin .geq 3 (.tmp 64) (.const (.int .i64 1))⟩]
def R188_28 : RC := .cond (.tmp 65) (.skip) (.exit 4)
def R188_29 : RC := .seq R188_27 R188_28
def R188_30 : RC := .draw [⟨some 68, none, .mov (.tmp 0)⟩,
    ⟨some 69, none, .mov (.tmp 9)⟩,
    ⟨some 70, none, .ixS 1 (.tmp 68) (.tmp 69)⟩,
    ⟨some 71, none, .load1 (.tmp 70)⟩,
    ⟨some 72, none, .mov (.tmp 0)⟩,
    ⟨some 73, none, .mov (.tmp 9)⟩,
    ⟨some 74, none, .bin .sub 3 (.tmp 73) (.const (.int .i64 1))⟩,
    ⟨some 75, none, .ixS 1 (.tmp 72) (.tmp 74)⟩,
    ⟨some 76, none, .load1 (.tmp 75)⟩,
    ⟨some 77, none, .call 189 [(.tmp 71), (.tmp 76)]⟩,
    ⟨some 78, none, .un .not (.tmp 77)⟩] [[⟨0, ⟨some 68, none, .mov (.tmp 0)⟩, false, []⟩,
    ⟨1, ⟨some 69, none, .mov (.tmp 9)⟩, false, []⟩,
    ⟨2, ⟨some 70, none, .ixS 1 (.tmp 68) (.tmp 69)⟩, false, []⟩,
    ⟨3, ⟨some 71, none, .load1 (.tmp 70)⟩, true, []⟩,
    ⟨4, ⟨some 72, none, .mov (.tmp 0)⟩, false, []⟩,
    ⟨5, ⟨some 73, none, .mov (.tmp 9)⟩, false, []⟩,
    ⟨6, ⟨some 74, none, .bin .sub 3 (.tmp 73) (.const (.int .i64 1))⟩, false, []⟩,
    ⟨7, ⟨some 75, none, .ixS 1 (.tmp 72) (.tmp 74)⟩, false, []⟩,
    ⟨8, ⟨some 76, none, .load1 (.tmp 75)⟩, true, []⟩],
   [⟨9, ⟨some 77, none, .call 189 [(.tmp 71), (.tmp 76)]⟩, false, []⟩],
   [⟨10, ⟨some 78, none, .un .not (.tmp 77)⟩, false, []⟩]]
def R188_31 : RC := .cond (.tmp 78) (.exit 4) (.skip)
def R188_32 : RC := .seq R188_30 R188_31
def R188_33 : RC := .draw [⟨some 79, none, .mov (.tmp 0)⟩,
    ⟨some 80, none, .mov (.tmp 9)⟩,
    ⟨some 81, none, .mov (.tmp 0)⟩,
    ⟨some 82, none, .mov (.tmp 9)⟩,
    ⟨some 83, none, .bin .sub 3 (.tmp 82) (.const (.int .i64 1))⟩,
    ⟨some 84, none, .mov (.tmp 0)⟩,
    ⟨some 85, none, .mov (.tmp 9)⟩,
    ⟨some 86, none, .bin .sub 3 (.tmp 85) (.const (.int .i64 1))⟩,
    ⟨some 87, none, .ixS 1 (.tmp 84) (.tmp 86)⟩,
    ⟨some 88, none, .load1 (.tmp 87)⟩,
    ⟨some 89, none, .mov (.tmp 0)⟩,
    ⟨some 90, none, .mov (.tmp 9)⟩,
    ⟨some 91, none, .ixS 1 (.tmp 89) (.tmp 90)⟩,
    ⟨some 92, none, .load1 (.tmp 91)⟩,
    ⟨some 93, none, .ixS 1 (.tmp 79) (.tmp 80)⟩,
    ⟨none, none, .store 1 (.tmp 93) (.tmp 88)⟩,
    ⟨some 94, none, .ixS 1 (.tmp 81) (.tmp 83)⟩,
    ⟨none, none, .store 1 (.tmp 94) (.tmp 92)⟩] [[⟨0, ⟨some 79, none, .mov (.tmp 0)⟩, false, []⟩,
    ⟨1, ⟨some 80, none, .mov (.tmp 9)⟩, false, []⟩,
    ⟨2, ⟨some 81, none, .mov (.tmp 0)⟩, false, []⟩,
    ⟨3, ⟨some 82, none, .mov (.tmp 9)⟩, false, []⟩,
    ⟨4, ⟨some 83, none, .bin .sub 3 (.tmp 82) (.const (.int .i64 1))⟩, false, []⟩,
    ⟨5, ⟨some 84, none, .mov (.tmp 0)⟩, false, []⟩,
    ⟨6, ⟨some 85, none, .mov (.tmp 9)⟩, false, []⟩,
    ⟨7, ⟨some 86, none, .bin .sub 3 (.tmp 85) (.const (.int .i64 1))⟩, false, []⟩,
    ⟨8, ⟨some 87, none, .ixS 1 (.tmp 84) (.tmp 86)⟩, false, []⟩,
    ⟨9, ⟨some 88, none, .load1 (.tmp 87)⟩, true, []⟩,
    ⟨10, ⟨some 89, none, .mov (.tmp 0)⟩, false, []⟩,
    ⟨11, ⟨some 90, none, .mov (.tmp 9)⟩, false, []⟩,
    ⟨12, ⟨some 91, none, .ixS 1 (.tmp 89) (.tmp 90)⟩, false, []⟩,
    ⟨13, ⟨some 92, none, .load1 (.tmp 91)⟩, true, []⟩,
    ⟨14, ⟨some 93, none, .ixS 1 (.tmp 79) (.tmp 80)⟩, false, []⟩,
    ⟨15, ⟨none, none, .store 1 (.tmp 93) (.tmp 88)⟩, false, []⟩],
   [⟨16, ⟨some 94, none, .ixS 1 (.tmp 81) (.tmp 83)⟩, false, []⟩],
   [⟨17, ⟨none, none, .store 1 (.tmp 94) (.tmp 92)⟩, false, []⟩]]
def R188_34 : RC := .seq R188_32 R188_33
def R188_35 : RC := .block 5 R188_34
def R188_36 : RC := .reg [⟨some 66, none, .mov (.tmp 9)⟩,
    ⟨some 67, none, .bin .sub 3 (.tmp 66) (.const (.int .i64 1))⟩,
    ⟨some 9, none, .mov (.tmp 67)⟩]
def R188_37 : RC := .seq R188_35 R188_36
def R188_38 : RC := .seq R188_29 R188_37
def R188_39 : RC := .loop R188_38
def R188_40 : RC := .block 4 R188_39
def R188_41 : RC := .seq R188_26 R188_40
def R188_42 : RC := .cond (.tmp 61) R188_41 (.skip)
def R188_43 : RC := .seq R188_25 R188_42
def R188_44 : RC := .reg [⟨some 95, none, .mov (.tmp 2)⟩,
    ⟨some 96, none, .mov (.tmp 7)⟩,
    ⟨some 97, none, .bin .sub 3 (.tmp 95) (.tmp 96)⟩,
    ⟨some 98, none, .bin .geq 3 (.tmp 97) (.const (.int .i64 2))⟩]
def R188_45 : RC := .reg [⟨some 99, none, .mov (.tmp 7)⟩,
    ⟨some 100, none, .bin .add 3 (.tmp 99) (.const (.int .i64 1))⟩,
    ⟨some 10, none, .mov (.tmp 100)⟩]
def R188_46 : RC := .reg [⟨some 101, none, .mov (.tmp 10)⟩,
    ⟨some 102, none, .mov (.tmp 2)⟩,
    ⟨some 103, none, .bin .lss 3 (.tmp 101) (.tmp 102)⟩]
def R188_47 : RC := .cond (.tmp 103) (.skip) (.exit 6)
def R188_48 : RC := .seq R188_46 R188_47
def R188_49 : RC := .draw [⟨some 106, none, .mov (.tmp 0)⟩,
    ⟨some 107, none, .mov (.tmp 10)⟩,
    ⟨some 108, none, .ixS 1 (.tmp 106) (.tmp 107)⟩,
    ⟨some 109, none, .load1 (.tmp 108)⟩,
    ⟨some 110, none, .mov (.tmp 0)⟩,
    ⟨some 111, none, .mov (.tmp 10)⟩,
    ⟨some 112, none, .bin .sub 3 (.tmp 111) (.const (.int .i64 1))⟩,
    ⟨some 113, none, .ixS 1 (.tmp 110) (.tmp 112)⟩,
    ⟨some 114, none, .load1 (.tmp 113)⟩,
    ⟨some 115, none, .call 189 [(.tmp 109), (.tmp 114)]⟩,
    ⟨some 116, none, .un .not (.tmp 115)⟩] [[⟨0, ⟨some 106, none, .mov (.tmp 0)⟩, false, []⟩,
    ⟨1, ⟨some 107, none, .mov (.tmp 10)⟩, false, []⟩,
    ⟨2, ⟨some 108, none, .ixS 1 (.tmp 106) (.tmp 107)⟩, false, []⟩,
    ⟨3, ⟨some 109, none, .load1 (.tmp 108)⟩, true, []⟩,
    ⟨4, ⟨some 110, none, .mov (.tmp 0)⟩, false, []⟩,
    ⟨5, ⟨some 111, none, .mov (.tmp 10)⟩, false, []⟩,
    ⟨6, ⟨some 112, none, .bin .sub 3 (.tmp 111) (.const (.int .i64 1))⟩, false, []⟩,
    ⟨7, ⟨some 113, none, .ixS 1 (.tmp 110) (.tmp 112)⟩, false, []⟩,
    ⟨8, ⟨some 114, none, .load1 (.tmp 113)⟩, true, []⟩],
   [⟨9, ⟨some 115, none, .call 189 [(.tmp 109), (.tmp 114)]⟩, false, []⟩],
   [⟨10, ⟨some 116, none, .un .not (.tmp 115)⟩, false, []⟩]]
def R188_50 : RC := .cond (.tmp 116) (.exit 6) (.skip)
def R188_51 : RC := .seq R188_49 R188_50
def R188_52 : RC := .draw [⟨some 117, none, .mov (.tmp 0)⟩,
    ⟨some 118, none, .mov (.tmp 10)⟩,
    ⟨some 119, none, .mov (.tmp 0)⟩,
    ⟨some 120, none, .mov (.tmp 10)⟩,
    ⟨some 121, none, .bin .sub 3 (.tmp 120) (.const (.int .i64 1))⟩,
    ⟨some 122, none, .mov (.tmp 0)⟩,
    ⟨some 123, none, .mov (.tmp 10)⟩,
    ⟨some 124, none, .bin .sub 3 (.tmp 123) (.const (.int .i64 1))⟩,
    ⟨some 125, none, .ixS 1 (.tmp 122) (.tmp 124)⟩,
    ⟨some 126, none, .load1 (.tmp 125)⟩,
    ⟨some 127, none, .mov (.tmp 0)⟩,
    ⟨some 128, none, .mov (.tmp 10)⟩,
    ⟨some 129, none, .ixS 1 (.tmp 127) (.tmp 128)⟩,
    ⟨some 130, none, .load1 (.tmp 129)⟩,
    ⟨some 131, none, .ixS 1 (.tmp 117) (.tmp 118)⟩,
    ⟨none, none, .store 1 (.tmp 131) (.tmp 126)⟩,
    ⟨some 132, none, .ixS 1 (.tmp 119) (.tmp 121)⟩,
    ⟨none, none, .store 1 (.tmp 132) (.tmp 130)⟩] [[⟨0, ⟨some 117, none, .mov (.tmp 0)⟩, false, []⟩,
    ⟨1, ⟨some 118, none, .mov (.tmp 10)⟩, false, []⟩,
    ⟨2, ⟨some 119, none, .mov (.tmp 0)⟩, false, []⟩,
    ⟨3, ⟨some 120, none, .mov (.tmp 10)⟩, false, []⟩,
    ⟨4, ⟨some 121, none, .bin .sub 3 (.tmp 120) (.const (.int .i64 1))⟩, false, []⟩,
    ⟨5, ⟨some 122, none, .mov (.tmp 0)⟩, false, []⟩,
    ⟨6, ⟨some 123, none, .mov (.tmp 10)⟩, false, []⟩,
    ⟨7, ⟨some 124, none, .bin .sub 3 (.tmp 123) (.const (.int .i64 1))⟩, false, []⟩,
    ⟨8, ⟨some 125, none, .ixS 1 (.tmp 122) (.tmp 124)⟩, false, []⟩,
    ⟨9, ⟨some 126, none, .load1 (.tmp 125)⟩, true, []⟩,
    ⟨10, ⟨some 127, none, .mov (.tmp 0)⟩, false, []⟩,
    ⟨11, ⟨some 128, none, .mov (.tmp 10)⟩, false, []⟩,
    ⟨12, ⟨some 129, none, .ixS 1 (.tmp 127) (.tmp 128)⟩, false, []⟩,
    ⟨13, ⟨some 130, none, .load1 (.tmp 129)⟩, true, []⟩,
    ⟨14, ⟨some 131, none, .ixS 1 (.tmp 117) (.tmp 118)⟩, false, []⟩,
    ⟨15, ⟨none, none, .store 1 (.tmp 131) (.tmp 126)⟩, false, []⟩],
   [⟨16, ⟨some 132, none, .ixS 1 (.tmp 119) (.tmp 121)⟩, false, []⟩],
   [⟨17, ⟨none, none, .store 1 (.tmp 132) (.tmp 130)⟩, false, []⟩]]
def R188_53 : RC := .seq R188_51 R188_52
def R188_54 : RC := .block 7 R188_53
def R188_55 : RC := .reg [⟨some 104, none, .mov (.tmp 10)⟩,
    ⟨some 105, none, .bin .add 3 (.tmp 104) (.const (.int .i64 1))⟩,
    ⟨some 10, none, .mov (.tmp 105)⟩]
def R188_56 : RC := .seq R188_54 R188_55
def R188_57 : RC := .seq R188_48 R188_56
def R188_58 : RC := .loop R188_57
def R188_59 : RC := .block 6 R188_58
def R188_60 : RC := .seq R188_45 R188_59
def R188_61 : RC := .cond (.tmp 98) R188_60 (.skip)
def R188_62 : RC := .seq R188_44 R188_61
def R188_63 : RC := .seq R188_43 R188_62
def R188_64 : RC := .seq R188_24 R188_63
def R188_65 : RC := .seq R188_23 R188_64
def R188_66 : RC := .seq R188_18 R188_65
def R188_67 : RC := .seq R188_13 R188_66
def R188_68 : RC := .block 1 R188_67
def R188_69 : RC := .reg [⟨some 15, none, .mov (.tmp 8)⟩,
    ⟨some 16, none, .bin .add 3 (.tmp 15) (.const (.int .i64 1))⟩,
    ⟨some 8, none, .mov (.tmp 16)⟩]
def R188_70 : RC := .seq R188_68 R188_69
def R188_71 : RC := .seq R188_5 R188_70
def R188_72 : RC := .loop R188_71
def R188_73 : RC := .block 0 R188_72
def R188_74 : RC := .seq R188_2 R188_73
def R188_75 : RC := .reg [⟨some 6, none, .mov (.const (.bool false))⟩]
def R188_76 : RC := .seq R188_75 (.ret)
def R188_77 : RC := .seq R188_74 R188_76
def R188_78 : RC := .seq R188_1 R188_77
def R188_79 : RC := .seq R188_0 R188_78

-- 189: cmp.Less[string]
def R189_0 : RC := .reg [⟨some 4, none, .mov (.const (.bool false))⟩]
def R189_1 : RC := .reg [⟨some 5, none, .mov (.tmp 0)⟩,
    ⟨some 6, none, .call 204 [(.tmp 5)]⟩,
    ⟨some 7, none, .mov (.tmp 6)⟩,
    ⟨some 8, some (7, true), .mov (.tmp 1)⟩,
    ⟨some 9, some (7, true), .call 204 [(.tmp 8)]⟩,
    ⟨some 10, some (7, true), .un .not (.tmp 9)⟩,
    ⟨some 11, none, .pick (.tmp 7) (.tmp 10) (.const (.bool false))⟩,
    ⟨some 12, none, .mov (.tmp 11)⟩,
    ⟨some 13, some (12, false), .mov (.tmp 0)⟩,
    ⟨some 14, some (12, false), .mov (.tmp 1)⟩,
    ⟨some 15, some (12, false), .bin .lss 9 (.tmp 13) (.tmp 14)⟩,
    ⟨some 16, none, .pick (.tmp 12) (.const (.bool true)) (.tmp 15)⟩,
    ⟨some 4, none, .mov (.tmp 16)⟩]
def R189_2 : RC := .seq R189_1 (.ret)
def R189_3 : RC := .seq R189_0 R189_2

-- 190: slices.partitionEqualOrdered[string]
def R190_0 : RC := .reg [⟨some 8, none, .mov (.const (.int .i64 0))⟩]
def R190_1 : RC := .draw [⟨some 11, none, .mov (.tmp 0)⟩,
    ⟨some 12, none, .mov (.tmp 1)⟩,
    ⟨some 13, none, .mov (.tmp 0)⟩,
    ⟨some 14, none, .mov (.tmp 3)⟩,
    ⟨some 15, none, .mov (.tmp 0)⟩,
    ⟨some 16, none, .mov (.tmp 3)⟩,
    ⟨some 17, none, .ixS 1 (.tmp 15) (.tmp 16)⟩,
    ⟨some 18, none, .load1 (.tmp 17)⟩,
    ⟨some 19, none, .mov (.tmp 0)⟩,
    ⟨some 20, none, .mov (.tmp 1)⟩,
    ⟨some 21, none, .ixS 1 (.tmp 19) (.tmp 20)⟩,
    ⟨some 22, none, .load1 (.tmp 21)⟩,
    ⟨some 23, none, .ixS 1 (.tmp 11) (.tmp 12)⟩,
    ⟨none, none, .store 1 (.tmp 23) (.tmp 18)⟩,
    ⟨some 24, none, .ixS 1 (.tmp 13) (.tmp 14)⟩,
    ⟨none, none, .store 1 (.tmp 24) (.tmp 22)⟩] [[⟨0, ⟨some 11, none, .mov (.tmp 0)⟩, false, []⟩,
    ⟨1, ⟨some 12, none, .mov (.tmp 1)⟩, false, []⟩,
    ⟨2, ⟨some 13, none, .mov (.tmp 0)⟩, false, []⟩,
    ⟨3, ⟨some 14, none, .mov (.tmp 3)⟩, false, []⟩,
    ⟨4, ⟨some 15, none, .mov (.tmp 0)⟩, false, []⟩,
    ⟨5, ⟨some 16, none, .mov (.tmp 3)⟩, false, []⟩,
    ⟨6, ⟨some 17, none, .ixS 1 (.tmp 15) (.tmp 16)⟩, false, []⟩,
    ⟨7, ⟨some 18, none, .load1 (.tmp 17)⟩, true, []⟩,
    ⟨8, ⟨some 19, none, .mov (.tmp 0)⟩, false, []⟩,
    ⟨9, ⟨some 20, none, .mov (.tmp 1)⟩, false, []⟩,
    ⟨10, ⟨some 21, none, .ixS 1 (.tmp 19) (.tmp 20)⟩, false, []⟩,
    ⟨11, ⟨some 22, none, .load1 (.tmp 21)⟩, true, []⟩,
    ⟨12, ⟨some 23, none, .ixS 1 (.tmp 11) (.tmp 12)⟩, false, []⟩,
    ⟨13, ⟨none, none, .store 1 (.tmp 23) (.tmp 18)⟩, false, []⟩],
   [⟨14, ⟨some 24, none, .ixS 1 (.tmp 13) (.tmp 14)⟩, false, []⟩],
   [⟨15, ⟨none, none, .store 1 (.tmp 24) (.tmp 22)⟩, false, []⟩]]
def R190_2 : RC := .reg [⟨some 25, none, .mov (.tmp 1)⟩,
    ⟨some 26, none, .bin .add 3 (.tmp 25) (.const (.int .i64 1))⟩,
    ⟨some 27, none, .mov (.tmp 2)⟩,
    ⟨some 28, none, .bin .sub 3 (.tmp 27) (.const (.int .i64 1))⟩,
    ⟨some 9, none, .mov (.tmp 26)⟩,
    ⟨some 10, none, .mov (.tmp 28)⟩]
def R190_3 : RC := .draw [⟨some 29, none, .mov (.tmp 9)⟩,
    ⟨some 30, none, .mov (.tmp 10)⟩,
    ⟨some 31, none, .bin .leq 3 (.tmp 29) (.tmp 30)⟩,
    ⟨some 32, none, .mov (.tmp 31)⟩,
    ⟨some 33, some (32, true), .mov (.tmp 0)⟩,
    ⟨some 34, some (32, true), .mov (.tmp 1)⟩,
    ⟨some 35, some (32, true), .ixS 1 (.tmp 33) (.tmp 34)⟩,
    ⟨some 36, some (32, true), .load1 (.tmp 35)⟩,
    ⟨some 37, some (32, true), .mov (.tmp 0)⟩,
    ⟨some 38, some (32, true), .mov (.tmp 9)⟩,
    ⟨some 39, some (32, true), .ixS 1 (.tmp 37) (.tmp 38)⟩,
    ⟨some 40, some (32, true), .load1 (.tmp 39)⟩,
    ⟨some 41, some (32, true), .call 189 [(.tmp 36), (.tmp 40)]⟩,
    ⟨some 42, some (32, true), .un .not (.tmp 41)⟩,
    ⟨some 43, none, .pick (.tmp 32) (.tmp 42) (.const (.bool false))⟩] [[⟨0, ⟨some 29, none, .mov (.tmp 9)⟩, false, []⟩,
    ⟨1, ⟨some 30, none, .mov (.tmp 10)⟩, false, []⟩],
   [⟨2, ⟨some 31, none, .bin .leq 3 (.tmp 29) (.tmp 30)⟩, false, []⟩],
   [⟨3, ⟨some 32, none, .mov (.tmp 31)⟩, false, []⟩],
   [⟨4, ⟨some 33, some (32, true), .mov (.tmp 0)⟩, false, []⟩,
    ⟨5, ⟨some 34, some (32, true), .mov (.tmp 1)⟩, false, []⟩,
    ⟨6, ⟨some 35, some (32, true), .ixS 1 (.tmp 33) (.tmp 34)⟩, false, []⟩,
    ⟨7, ⟨some 36, some (32, true), .load1 (.tmp 35)⟩, true, []⟩,
    ⟨8, ⟨some 37, some (32, true), .mov (.tmp 0)⟩, false, []⟩,
    ⟨9, ⟨some 38, some (32, true), .mov (.tmp 9)⟩, false, []⟩,
    ⟨10, ⟨some 39, some (32, true), .ixS 1 (.tmp 37) (.tmp 38)⟩, false, []⟩,
    ⟨11, ⟨some 40, some (32, true), .load1 (.tmp 39)⟩, true, []⟩],
   [⟨12, ⟨some 41, some (32, true), .call 189 [(.tmp 36), (.tmp 40)]⟩, false, []⟩],
   [⟨13, ⟨some 42, some (32, true), .un .not (.tmp 41)⟩, false, []⟩],
   [⟨14, ⟨some 43, none, .pick (.tmp 32) (.tmp 42) (.const (.bool false))⟩, false, []⟩]]
def R190_4 : RC := .cond (.tmp 43) (.skip) (.exit 2)
def R190_5 : RC := .seq R190_3 R190_4
def R190_6 : RC := .reg [⟨some 44, none, .mov (.tmp 9)⟩,
    ⟨some 45, none, .bin .add 3 (.tmp 44) (.const (.int .i64 1))⟩,
    ⟨some 9, none, .mov (.tmp 45)⟩]
def R190_7 : RC := .block 3 R190_6
def R190_8 : RC := .seq R190_5 R190_7
def R190_9 : RC := .loop R190_8
def R190_10 : RC := .block 2 R190_9
def R190_11 : RC := .draw [⟨some 46, none, .mov (.tmp 9)⟩,
    ⟨some 47, none, .mov (.tmp 10)⟩,
    ⟨some 48, none, .bin .leq 3 (.tmp 46) (.tmp 47)⟩,
    ⟨some 49, none, .mov (.tmp 48)⟩,
    ⟨some 50, some (49, true), .mov (.tmp 0)⟩,
    ⟨some 51, some (49, true), .mov (.tmp 1)⟩,
    ⟨some 52, some (49, true), .ixS 1 (.tmp 50) (.tmp 51)⟩,
    ⟨some 53, some (49, true), .load1 (.tmp 52)⟩,
    ⟨some 54, some (49, true), .mov (.tmp 0)⟩,
    ⟨some 55, some (49, true), .mov (.tmp 10)⟩,
    ⟨some 56, some (49, true), .ixS 1 (.tmp 54) (.tmp 55)⟩,
    ⟨some 57, some (49, true), .load1 (.tmp 56)⟩,
    ⟨some 58, some (49, true), .call 189 [(.tmp 53), (.tmp 57)]⟩,
    ⟨some 59, none, .pick (.tmp 49) (.tmp 58) (.const (.bool false))⟩] [[⟨0, ⟨some 46, none, .mov (.tmp 9)⟩, false, []⟩,
    ⟨1, ⟨some 47, none, .mov (.tmp 10)⟩, false, []⟩],
   [⟨2, ⟨some 48, none, .bin .leq 3 (.tmp 46) (.tmp 47)⟩, false, []⟩],
   [⟨3, ⟨some 49, none, .mov (.tmp 48)⟩, false, []⟩],
   [⟨4, ⟨some 50, some (49, true), .mov (.tmp 0)⟩, false, []⟩,
    ⟨5, ⟨some 51, some (49, true), .mov (.tmp 1)⟩, false, []⟩,
    ⟨6, ⟨some 52, some (49, true), .ixS 1 (.tmp 50) (.tmp 51)⟩, false, []⟩,
    ⟨7, ⟨some 53, some (49, true), .load1 (.tmp 52)⟩, true, []⟩,
    ⟨8, ⟨some 54, some (49, true), .mov (.tmp 0)⟩, false, []⟩,
    ⟨9, ⟨some 55, some (49, true), .mov (.tmp 10)⟩, false, []⟩,
    ⟨10, ⟨some 56, some (49, true), .ixS 1 (.tmp 54) (.tmp 55)⟩, false, []⟩,
    ⟨11, ⟨some 57, some (49, true), .load1 (.tmp 56)⟩, true, []⟩],
   [⟨12, ⟨some 58, some (49, true), .call 189 [(.tmp 53), (.tmp 57)]⟩, false, []⟩],
   [⟨13, ⟨some 59, none, .pick (.tmp 49) (.tmp 58) (.const (.bool false))⟩, false, []⟩]]
def R190_12 : RC := .cond (.tmp 59) (.skip) (.exit 4)
def R190_13 : RC := .seq R190_11 R190_12
def R190_14 : RC := .reg [⟨some 60, none, .mov (.tmp 10)⟩,
    ⟨some 61, none, .bin .sub 3 (.tmp 60) (.const (.int .i64 1))⟩,
    ⟨some 10, none, .mov (.tmp 61)⟩]
def R190_15 : RC := .block 5 R190_14
def R190_16 : RC := .seq R190_13 R190_15
def R190_17 : RC := .loop R190_16
def R190_18 : RC := .block 4 R190_17
def R190_19 : RC := .reg [⟨some 62, none, .mov (.tmp 9)⟩,
    ⟨some 63, none, .mov (.tmp 10)⟩,
    ⟨some 64, none, .bin .gtr 3 (.tmp 62) (.tmp 63)⟩]
def R190_20 : RC := .cond (.tmp 64) (.exit 0) (.skip)
def R190_21 : RC := .seq R190_19 R190_20
def R190_22 : RC := .draw [⟨some 65, none, .mov (.tmp 0)⟩,
    ⟨some 66, none, .mov (.tmp 9)⟩,
    ⟨some 67, none, .mov (.tmp 0)⟩,
    ⟨some 68, none, .mov (.tmp 10)⟩,
    ⟨some 69, none, .mov (.tmp 0)⟩,
    ⟨some 70, none, .mov (.tmp 10)⟩,
    ⟨some 71, none, .ixS 1 (.tmp 69) (.tmp 70)⟩,
    ⟨some 72, none, .load1 (.tmp 71)⟩,
    ⟨some 73, none, .mov (.tmp 0)⟩,
    ⟨some 74, none, .mov (.tmp 9)⟩,
    ⟨some 75, none, .ixS 1 (.tmp 73) (.tmp 74)⟩,
    ⟨some 76, none, .load1 (.tmp 75)⟩,
    ⟨some 77, none, .ixS 1 (.tmp 65) (.tmp 66)⟩,
    ⟨none, none, .store 1 (.tmp 77) (.tmp 72)⟩,
    ⟨some 78, none, .ixS 1 (.tmp 67) (.tmp 68)⟩,
    ⟨none, none, .store 1 (.tmp 78) (.tmp 76)⟩] [[⟨0, ⟨some 65, none, .mov (.tmp 0)⟩, false, []⟩,
    ⟨1, ⟨some 66, none, .mov (.tmp 9)⟩, false, []⟩,
    ⟨2, ⟨some 67, none, .mov (.tmp 0)⟩, false, []⟩,
    ⟨3, ⟨some 68, none, .mov (.tmp 10)⟩, false, []⟩,
    ⟨4, ⟨some 69, none, .mov (.tmp 0)⟩, false, []⟩,
    ⟨5, ⟨some 70, none, .mov (.tmp 10)⟩, false, []⟩,
    ⟨6, ⟨some 71, none, .ixS 1 (.tmp 69) (.tmp 70)⟩, false, []⟩,
    ⟨7, ⟨some 72, none, .load1 (.tmp 71)⟩, true, []⟩,
    ⟨8, ⟨some 73, none, .mov (.tmp 0)⟩, false, []⟩,
    ⟨9, ⟨some 74, none, .mov (.tmp 9)⟩, false, []⟩,
    ⟨10, ⟨some 75, none, .ixS 1 (.tmp 73) (.tmp 74)⟩, false, []⟩,
    ⟨11, ⟨some 76, none, .load1 (.tmp 75)⟩, true, []⟩,
    ⟨12, ⟨some 77, none, .ixS 1 (.tmp 65) (.tmp 66)⟩, false, []⟩,
    ⟨13, ⟨none, none, .store 1 (.tmp 77) (.tmp 72)⟩, false, []⟩],
   [⟨14, ⟨some 78, none, .ixS 1 (.tmp 67) (.tmp 68)⟩, false, []⟩],
   [⟨15, ⟨none, none, .store 1 (.tmp 78) (.tmp 76)⟩, false, []⟩]]
def R190_23 : RC := .reg [⟨some 79, none, .mov (.tmp 9)⟩,
    ⟨some 80, none, .bin .add 3 (.tmp 79) (.const (.int .i64 1))⟩,
    ⟨some 9, none, .mov (.tmp 80)⟩]
def R190_24 : RC := .reg [⟨some 81, none, .mov (.tmp 10)⟩,
    ⟨some 82, none, .bin .sub 3 (.tmp 81) (.const (.int .i64 1))⟩,
    ⟨some 10, none, .mov (.tmp 82)⟩]
def R190_25 : RC := .seq R190_23 R190_24
def R190_26 : RC := .seq R190_22 R190_25
def R190_27 : RC := .seq R190_21 R190_26
def R190_28 : RC := .seq R190_18 R190_27
def R190_29 : RC := .seq R190_10 R190_28
def R190_30 : RC := .block 1 R190_29
def R190_31 : RC := .loop R190_30
def R190_32 : RC := .block 0 R190_31
def R190_33 : RC := .reg [⟨some 83, none, .mov (.tmp 9)⟩,
    ⟨some 8, none, .mov (.tmp 83)⟩]
def R190_34 : RC := .seq R190_33 (.ret)
def R190_35 : RC := .seq R190_32 R190_34
def R190_36 : RC := .seq R190_2 R190_35
def R190_37 : RC := .seq R190_1 R190_36
def R190_38 : RC := .seq R190_0 R190_37

-- 191: slices.partitionOrdered[string]
def R191_0 : RC := .reg [⟨some 8, none, .mov (.const (.int .i64 0))⟩,
    ⟨some 9, none, .mov (.const (.bool false))⟩]
def R191_1 : RC := .draw [⟨some 12, none, .mov (.tmp 0)⟩,
    ⟨some 13, none, .mov (.tmp 1)⟩,
    ⟨some 14, none, .mov (.tmp 0)⟩,
    ⟨some 15, none, .mov (.tmp 3)⟩,
    ⟨some 16, none, .mov (.tmp 0)⟩,
    ⟨some 17, none, .mov (.tmp 3)⟩,
    ⟨some 18, none, .ixS 1 (.tmp 16) (.tmp 17)⟩,
    ⟨some 19, none, .load1 (.tmp 18)⟩,
    ⟨some 20, none, .mov (.tmp 0)⟩,
    ⟨some 21, none, .mov (.tmp 1)⟩,
    ⟨some 22, none, .ixS 1 (.tmp 20) (.tmp 21)⟩,
    ⟨some 23, none, .load1 (.tmp 22)⟩,
    ⟨some 24, none, .ixS 1 (.tmp 12) (.tmp 13)⟩,
    ⟨none, none, .store 1 (.tmp 24) (.tmp 19)⟩,
    ⟨some 25, none, .ixS 1 (.tmp 14) (.tmp 15)⟩,
    ⟨none, none, .store 1 (.tmp 25) (.tmp 23)⟩] [[⟨0, ⟨some 12, none, .mov (.tmp 0)⟩, false, []⟩,
    ⟨1, ⟨some 13, none, .mov (.tmp 1)⟩, false, []⟩,
    ⟨2, ⟨some 14, none, .mov (.tmp 0)⟩, false, []⟩,
    ⟨3, ⟨some 15, none, .mov (.tmp 3)⟩, false, []⟩,
    ⟨4, ⟨some 16, none, .mov (.tmp 0)⟩, false, []⟩,
    ⟨5, ⟨some 17, none, .mov (.tmp 3)⟩, false, []⟩,
    ⟨6, ⟨some 18, none, .ixS 1 (.tmp 16) (.tmp 17)⟩, false, []⟩,
    ⟨7, ⟨some 19, none, .load1 (.tmp 18)⟩, true, []⟩,
    ⟨8, ⟨some 20, none, .mov (.tmp 0)⟩, false, []⟩,
    ⟨9, ⟨some 21, none, .mov (.tmp 1)⟩, false, []⟩,
    ⟨10, ⟨some 22, none, .ixS 1 (.tmp 20) (.tmp 21)⟩, false, []⟩,
    ⟨11, ⟨some 23, none, .load1 (.tmp 22)⟩, true, []⟩,
    ⟨12, ⟨some 24, none, .ixS 1 (.tmp 12) (.tmp 13)⟩, false, []⟩,
    ⟨13, ⟨none, none, .store 1 (.tmp 24) (.tmp 19)⟩, false, []⟩],
   [⟨14, ⟨some 25, none, .ixS 1 (.tmp 14) (.tmp 15)⟩, false, []⟩],
   [⟨15, ⟨none, none, .store 1 (.tmp 25) (.tmp 23)⟩, false, []⟩]]
def R191_2 : RC := .reg [⟨some 26, none, .mov (.tmp 1)⟩,
    ⟨some 27, none, .bin .add 3 (.tmp 26) (.const (.int .i64 1))⟩,
    ⟨some 28, none, .mov (.tmp 2)⟩,
    ⟨some 29, none, .bin .sub 3 (.tmp 28) (.const (.int .i64 1))⟩,
    ⟨some 10, none, .mov (.tmp 27)⟩,
    ⟨some 11, none, .mov (.tmp 29)⟩]
def R191_3 : RC := .draw [⟨some 30, none, .mov (.tmp 10)⟩,
    ⟨some 31, none, .mov (.tmp 11)⟩,
    ⟨some 32, none, .bin .leq 3 (.tmp 30) (.tmp 31)⟩,
    ⟨some 33, none, .mov (.tmp 32)⟩,
    ⟨some 34, some (33, true), .mov (.tmp 0)⟩,
    ⟨some 35, some (33, true), .mov (.tmp 10)⟩,
    ⟨some 36, some (33, true), .ixS 1 (.tmp 34) (.tmp 35)⟩,
    ⟨some 37, some (33, true), .load1 (.tmp 36)⟩,
    ⟨some 38, some (33, true), .mov (.tmp 0)⟩,
    ⟨some 39, some (33, true), .mov (.tmp 1)⟩,
    ⟨some 40, some (33, true), .ixS 1 (.tmp 38) (.tmp 39)⟩,
    ⟨some 41, some (33, true), .load1 (.tmp 40)⟩,
    ⟨some 42, some (33, true), .call 189 [(.tmp 37), (.tmp 41)]⟩,
    ⟨some 43, none, .pick (.tmp 33) (.tmp 42) (.const (.bool false))⟩] [[⟨0, ⟨some 30, none, .mov (.tmp 10)⟩, false, []⟩,
    ⟨1, ⟨some 31, none, .mov (.tmp 11)⟩, false, []⟩],
   [⟨2, ⟨some 32, none, .bin .leq 3 (.tmp 30) (.tmp 31)⟩, false, []⟩],
   [⟨3, ⟨some 33, none, .mov (.tmp 32)⟩, false, []⟩],
   [⟨4, ⟨some 34, some (33, true), .mov (.tmp 0)⟩, false, []⟩,
    ⟨5, ⟨some 35, some (33, true), .mov (.tmp 10)⟩, false, []⟩,
    ⟨6, ⟨some 36, some (33, true), .ixS 1 (.tmp 34) (.tmp 35)⟩, false, []⟩,
    ⟨7, ⟨some 37, some (33, true), .load1 (.tmp 36)⟩, true, []⟩,
    ⟨8, ⟨some 38, some (33, true), .mov (.tmp 0)⟩, false, []⟩,
    ⟨9, ⟨some 39, some (33, true), .mov (.tmp 1)⟩, false, []⟩,
    ⟨10, ⟨some 40, some (33, true), .ixS 1 (.tmp 38) (.tmp 39)⟩, false, []⟩,
    ⟨11, ⟨some 41, some (33, true), .load1 (.tmp 40)⟩, true, []⟩],
   [⟨12, ⟨some 42, some (33, true), .call 189 [(.tmp 37), (.tmp 41)]⟩, false, []⟩],
   [⟨13, ⟨some 43, none, .pick (.tmp 33) (.tmp 42) (.const (.bool false))⟩, false, []⟩]]
def R191_4 : RC := .cond (.tmp 43) (.skip) (.exit 0)
def R191_5 : RC := .seq R191_3 R191_4
def R191_6 : RC := .reg [⟨some 44, none, .mov (.tmp 10)⟩,
    ⟨some 45, none, .bin .add 3 (.tmp 44) (.const (.int .i64 1))⟩,
    ⟨some 10, none, .mov (.tmp 45)⟩]
def R191_7 : RC := .block 1 R191_6
def R191_8 : RC := .seq R191_5 R191_7
def R191_9 : RC := .loop R191_8
def R191_10 : RC := .block 0 R191_9
def R191_11 : RC := .draw [⟨some 46, none, .mov (.tmp 10)⟩,
    ⟨some 47, none, .mov (.tmp 11)⟩,
    ⟨some 48, none, .bin .leq 3 (.tmp 46) (.tmp 47)⟩,
    ⟨some 49, none, .mov (.tmp 48)⟩,
    ⟨some 50, some (49, true), .mov (.tmp 0)⟩,
    ⟨some 51, some (49, true), .mov (.tmp 11)⟩,
    ⟨some 52, some (49, true), .ixS 1 (.tmp 50) (.tmp 51)⟩,
    ⟨some 53, some (49, true), .load1 (.tmp 52)⟩,
    ⟨some 54, some (49, true), .mov (.tmp 0)⟩,
    ⟨some 55, some (49, true), .mov (.tmp 1)⟩,
    ⟨some 56, some (49, true), .ixS 1 (.tmp 54) (.tmp 55)⟩,
    ⟨some 57, some (49, true), .load1 (.tmp 56)⟩,
    ⟨some 58, some (49, true), .call 189 [(.tmp 53), (.tmp 57)]⟩,
    ⟨some 59, some (49, true), .un .not (.tmp 58)⟩,
    ⟨some 60, none, .pick (.tmp 49) (.tmp 59) (.const (.bool false))⟩] [[⟨0, ⟨some 46, none, .mov (.tmp 10)⟩, false, []⟩,
    ⟨1, ⟨some 47, none, .mov (.tmp 11)⟩, false, []⟩],
   [⟨2, ⟨some 48, none, .bin .leq 3 (.tmp 46) (.tmp 47)⟩, false, []⟩],
   [⟨3, ⟨some 49, none, .mov (.tmp 48)⟩, false, []⟩],
   [⟨4, ⟨some 50, some (49, true), .mov (.tmp 0)⟩, false, []⟩,
    ⟨5, ⟨some 51, some (49, true), .mov (.tmp 11)⟩, false, []⟩,
    ⟨6, ⟨some 52, some (49, true), .ixS 1 (.tmp 50) (.tmp 51)⟩, false, []⟩,
    ⟨7, ⟨some 53, some (49, true), .load1 (.tmp 52)⟩, true, []⟩,
    ⟨8, ⟨some 54, some (49, true), .mov (.tmp 0)⟩, false, []⟩,
    ⟨9, ⟨some 55, some (49, true), .mov (.tmp 1)⟩, false, []⟩,
    ⟨10, ⟨some 56, some (49, true), .ixS 1 (.tmp 54) (.tmp 55)⟩, false, []⟩,
    ⟨11, ⟨some 57, some (49, true), .load1 (.tmp 56)⟩, true, []⟩],
   [⟨12, ⟨some 58, some (49, true), .call 189 [(.tmp 53), (.tmp 57)]⟩, false, []⟩],
   [⟨13, ⟨some 59, some (49, true), .un .not (.tmp 58)⟩, false, []⟩],
   [⟨14, ⟨some 60, none, .pick (.tmp 49) (.tmp 59) (.const (.bool false))⟩, false, []⟩]]
def R191_12 : RC := .cond (.tmp 60) (.skip) (.exit 2)
def R191_13 : RC := .seq R191_11 R191_12
def R191_14 : RC := .reg [⟨some 61, none, .mov (.tmp 11)⟩,
    ⟨some 62, none, .bin .sub 3 (.tmp 61) (.const (.int .i64 1))⟩,
    ⟨some 11, none, .mov (.tmp 62)⟩]
def R191_15 : RC := .block 3 R191_14
def R191_16 : RC := .seq R191_13 R191_15
def R191_17 : RC := .loop R191_16
def R191_18 : RC := .block 2 R191_17
def R191_19 : RC := .reg [⟨some 63, none, .mov (.tmp 10)⟩,
    ⟨some 64, none, .mov (.tmp 11)⟩,
    ⟨some 65, none, .bin .gtr 3 (.tmp 63) (.tmp 64)⟩]
def R191_20 : RC := .draw [⟨some 66, none, .mov (.tmp 0)⟩,
    ⟨some 67, none, .mov (.tmp 11)⟩,
    ⟨some 68, none, .mov (.tmp 0)⟩,
    ⟨some 69, none, .mov (.tmp 1)⟩,
    ⟨some 70, none, .mov (.tmp 0)⟩,
    ⟨some 71, none, .mov (.tmp 1)⟩,
    ⟨some 72, none, .ixS 1 (.tmp 70) (.tmp 71)⟩,
    ⟨some 73, none, .load1 (.tmp 72)⟩,
    ⟨some 74, none, .mov (.tmp 0)⟩,
    ⟨some 75, none, .mov (.tmp 11)⟩,
    ⟨some 76, none, .ixS 1 (.tmp 74) (.tmp 75)⟩,
    ⟨some 77, none, .load1 (.tmp 76)⟩,
    ⟨some 78, none, .ixS 1 (.tmp 66) (.tmp 67)⟩,
    ⟨none, none, .store 1 (.tmp 78) (.tmp 73)⟩,
    ⟨some 79, none, .ixS 1 (.tmp 68) (.tmp 69)⟩,
    ⟨none, none, .store 1 (.tmp 79) (.tmp 77)⟩] [[⟨0, ⟨some 66, none, .mov (.tmp 0)⟩, false, []⟩,
    ⟨1, ⟨some 67, none, .mov (.tmp 11)⟩, false, []⟩,
    ⟨2, ⟨some 68, none, .mov (.tmp 0)⟩, false, []⟩,
    ⟨3, ⟨some 69, none, .mov (.tmp 1)⟩, false, []⟩,
    ⟨4, ⟨some 70, none, .mov (.tmp 0)⟩, false, []⟩,
    ⟨5, ⟨some 71, none, .mov (.tmp 1)⟩, false, []⟩,
    ⟨6, ⟨some 72, none, .ixS 1 (.tmp 70) (.tmp 71)⟩, false, []⟩,
    ⟨7, ⟨some 73, none, .load1 (.tmp 72)⟩, true, []⟩,
    ⟨8, ⟨some 74, none, .mov (.tmp 0)⟩, false, []⟩,
    ⟨9, ⟨some 75, none, .mov (.tmp 11)⟩, false, []⟩,
    ⟨10, ⟨some 76, none, .ixS 1 (.tmp 74) (.tmp 75)⟩, false, []⟩,
    ⟨11, ⟨some 77, none, .load1 (.tmp 76)⟩, true, []⟩,
    ⟨12, ⟨some 78, none, .ixS 1 (.tmp 66) (.tmp 67)⟩, false, []⟩,
    ⟨13, ⟨none, none, .store 1 (.tmp 78) (.tmp 73)⟩, false, []⟩],
   [⟨14, ⟨some 79, none, .ixS 1 (.tmp 68) (.tmp 69)⟩, false, []⟩],
   [⟨15, ⟨none, none, .store 1 (.tmp 79) (.tmp 77)⟩, false, []⟩]]
def R191_21 : RC := .reg [⟨some 80, none, .mov (.tmp 11)⟩,
    ⟨some 8, none, .mov (.tmp 80)⟩,
    ⟨some 9, none, .mov (.const (.bool true))⟩]
def R191_22 : RC := .seq R191_21 (.ret)
def R191_23 : RC := .seq R191_20 R191_22
def R191_24 : RC := .cond (.tmp 65) R191_23 (.skip)
def R191_25 : RC := .seq R191_19 R191_24
def R191_26 : RC := .draw [⟨some 81, none, .mov (.tmp 0)⟩,
    ⟨some 82, none, .mov (.tmp 10)⟩,
    ⟨some 83, none, .mov (.tmp 0)⟩,
    ⟨some 84, none, .mov (.tmp 11)⟩,
    ⟨some 85, none, .mov (.tmp 0)⟩,
    ⟨some 86, none, .mov (.tmp 11)⟩,
    ⟨some 87, none, .ixS 1 (.tmp 85) (.tmp 86)⟩,
    ⟨some 88, none, .load1 (.tmp 87)⟩,
    ⟨some 89, none, .mov (.tmp 0)⟩,
    ⟨some 90, none, .mov (.tmp 10)⟩,
    ⟨some 91, none, .ixS 1 (.tmp 89) (.tmp 90)⟩,
    ⟨some 92, none, .load1 (.tmp 91)⟩,
    ⟨some 93, none, .ixS 1 (.tmp 81) (.tmp 82)⟩,
    ⟨none, none, .store 1 (.tmp 93) (.tmp 88)⟩,
    ⟨some 94, none, .ixS 1 (.tmp 83) (.tmp 84)⟩,
    ⟨none, none, .store 1 (.tmp 94) (.tmp 92)⟩] [[⟨0, ⟨some 81, none, .mov (.tmp 0)⟩, false, []⟩,
    ⟨1, ⟨some 82, none, .mov (.tmp 10)⟩, false, []⟩,
    ⟨2, ⟨some 83, none, .mov (.tmp 0)⟩, false, []⟩,
    ⟨3, ⟨some 84, none, .mov (.tmp 11)⟩, false, []⟩,
    ⟨4, ⟨some 85, none, .mov (.tmp 0)⟩, false, []⟩,
    ⟨5, ⟨some 86, none, .mov (.tmp 11)⟩, false, []⟩,
    ⟨6, ⟨some 87, none, .ixS 1 (.tmp 85) (.tmp 86)⟩, false, []⟩,
    ⟨7, ⟨some 88, none, .load1 (.tmp 87)⟩, true, []⟩,
    ⟨8, ⟨some 89, none, .mov (.tmp 0)⟩, false, []⟩,
    ⟨9, ⟨some 90, none, .mov (.tmp 10)⟩, false, []⟩,
    ⟨10, ⟨some 91, none, .ixS 1 (.tmp 89) (.tmp 90)⟩, false, []⟩,
    ⟨11, ⟨some 92, none, .load1 (.tmp 91)⟩, true, []⟩,
    ⟨12, ⟨some 93, none, .ixS 1 (.tmp 81) (.tmp 82)⟩, false, []⟩,
    ⟨13, ⟨none, none, .store 1 (.tmp 93) (.tmp 88)⟩, false, []⟩],
   [⟨14, ⟨some 94, none, .ixS 1 (.tmp 83) (.tmp 84)⟩, false, []⟩],
   [⟨15, ⟨none, none, .store 1 (.tmp 94) (.tmp 92)⟩, false, []⟩]]
def R191_27 : RC := .reg [⟨some 95, none, .mov (.tmp 10)⟩,
    ⟨some 96, none, .bin .add 3 (.tmp 95) (.const (.int .i64 1))⟩,
    ⟨some 10, none, .mov (.tmp 96)⟩]
def R191_28 : RC := .reg [⟨some 97, none, .mov (.tmp 11)⟩,
    ⟨some 98, none, .bin .sub 3 (.tmp 97) (.const (.int .i64 1))⟩,
    ⟨some 11, none, .mov (.tmp 98)⟩]
def R191_29 : RC := .draw [⟨some 99, none, .mov (.tmp 10)⟩,
    ⟨some 100, none, .mov (.tmp 11)⟩,
    ⟨some 101, none, .bin .leq 3 (.tmp 99) (.tmp 100)⟩,
    ⟨some 102, none, .mov (.tmp 101)⟩,
    ⟨some 103, some (102, true), .mov (.tmp 0)⟩,
    ⟨some 104, some (102, true), .mov (.tmp 10)⟩,
    ⟨some 105, some (102, true), .ixS 1 (.tmp 103) (.tmp 104)⟩,
    ⟨some 106, some (102, true), .load1 (.tmp 105)⟩,
    ⟨some 107, some (102, true), .mov (.tmp 0)⟩,
    ⟨some 108, some (102, true), .mov (.tmp 1)⟩,
    ⟨some 109, some (102, true), .ixS 1 (.tmp 107) (.tmp 108)⟩,
    ⟨some 110, some (102, true), .load1 (.tmp 109)⟩,
    ⟨some 111, some (102, true), .call 189 [(.tmp 106), (.tmp 110)]⟩,
    ⟨some 112, none, .pick (.tmp 102) (.tmp 111) (.const (.bool false))⟩] [[⟨0, ⟨some 99, none, .mov (.tmp 10)⟩, false, []⟩,
    ⟨1, ⟨some 100, none, .mov (.tmp 11)⟩, false, []⟩],
   [⟨2, ⟨some 101, none, .bin .leq 3 (.tmp 99) (.tmp 100)⟩, false, []⟩],
   [⟨3, ⟨some 102, none, .mov (.tmp 101)⟩, false, []⟩],
   [⟨4, ⟨some 103, some (102, true), .mov (.tmp 0)⟩, false, []⟩,
    ⟨5, ⟨some 104, some (102, true), .mov (.tmp 10)⟩, false, []⟩,
    ⟨6, ⟨some 105, some (102, true), .ixS 1 (.tmp 103) (.tmp 104)⟩, false, []⟩,
    ⟨7, ⟨some 106, some (102, true), .load1 (.tmp 105)⟩, true, []⟩,
    ⟨8, ⟨some 107, some (102, true), .mov (.tmp 0)⟩, false, []⟩,
    ⟨9, ⟨some 108, some (102, true), .mov (.tmp 1)⟩, false, []⟩,
    ⟨10, ⟨some 109, some (102, true), .ixS 1 (.tmp 107) (.tmp 108)⟩, false, []⟩,
    ⟨11, ⟨some 110, some (102, true), .load1 (.tmp 109)⟩, true, []⟩],
   [⟨12, ⟨some 111, some (102, true), .call 189 [(.tmp 106), (.tmp 110)]⟩, false, []⟩],
   [⟨13, ⟨some 112, none, .pick (.tmp 102) (.tmp 111) (.const (.bool false))⟩, false, []⟩]]
def R191_30 : RC := .cond (.tmp 112) (.skip) (.exit 6)
def R191_31 : RC := .seq R191_29 R191_30
def R191_32 : RC := .reg [⟨some 113, none, .mov (.tmp 10)⟩,
    ⟨some 114, none, .bin .add 3 (.tmp 113) (.const (.int .i64 1))⟩,
    ⟨some 10, none, .mov (.tmp 114)⟩]
def R191_33 : RC := .block 7 R191_32
def R191_34 : RC := .seq R191_31 R191_33
def R191_35 : RC := .loop R191_34
def R191_36 : RC := .block 6 R191_35
def R191_37 : RC := .draw [⟨some 115, none, .mov (.tmp 10)⟩,
    ⟨some 116, none, .mov (.tmp 11)⟩,
    ⟨some 117, none, .bin .leq 3 (.tmp 115) (.tmp 116)⟩,
    ⟨some 118, none, .mov (.tmp 117)⟩,
    ⟨some 119, some (118, true), .mov (.tmp 0)⟩,
    ⟨some 120, some (118, true), .mov (.tmp 11)⟩,
    ⟨some 121, some (118, true), .ixS 1 (.tmp 119) (.tmp 120)⟩,
    ⟨some 122, some (118, true), .load1 (.tmp 121)⟩,
    ⟨some 123, some (118, true), .mov (.tmp 0)⟩,
    ⟨some 124, some (118, true), .mov (.tmp 1)⟩,
    ⟨some 125, some (118, true), .ixS 1 (.tmp 123) (.tmp 124)⟩,
    ⟨some 126, some (118, true), .load1 (.tmp 125)⟩,
    ⟨some 127, some (118, true), .call 189 [(.tmp 122), (.tmp 126)]⟩,
    ⟨some 128, some (118, true), .un .not (.tmp 127)⟩,
    ⟨some 129, none, .pick (.tmp 118) (.tmp 128) (.const (.bool false))⟩] [[⟨0, ⟨some 115, none, .mov (.tmp 10)⟩, false, []⟩,
    ⟨1, ⟨some 116, none, .mov (.tmp 11)⟩, false, []⟩],
   [⟨2, ⟨some 117, none, .bin .leq 3 (.tmp 115) (.tmp 116)⟩, false, []⟩],
   [⟨3, ⟨some 118, none, .mov (.tmp 117)⟩, false, []⟩],
   [⟨4, ⟨some 119, some (118, true), .mov (.tmp 0)⟩, false, []⟩,
    ⟨5, ⟨some 120, some (118, true), .mov (.tmp 11)⟩, false, []⟩,
    ⟨6, ⟨some 121, some (118, true), .ixS 1 (.tmp 119) (.tmp 120)⟩, false, []⟩,
    ⟨7, ⟨some 122, some (118, true), .load1 (.tmp 121)⟩, true, []⟩,
    ⟨8, ⟨some 123, some (118, true), .mov (.tmp 0)⟩, false, []⟩,
    ⟨9, ⟨some 124, some (118, true), .mov (.tmp 1)⟩, false, []⟩,
    ⟨10, ⟨some 125, some (118, true), .ixS 1 (.tmp 123) (.tmp 124)⟩, false, []⟩,
    ⟨11, ⟨some 126, some (118, true), .load1 (.tmp 125)⟩, true, []⟩],
   [⟨12, ⟨some 127, some (118, true), .call 189 [(.tmp 122), (.tmp 126)]⟩, false, []⟩],
   [⟨13, ⟨some 128, some (118, true), .un .not (.tmp 127)⟩, false, []⟩],
   [⟨14, ⟨some 129, none, .pick (.tmp 118) (.tmp 128) (.const (.bool false))⟩, false, []⟩]]
def R191_38 : RC := .cond (.tmp 129) (.skip) (.exit 8)
def R191_39 : RC := .seq R191_37 R191_38
def R191_40 : RC := .reg [⟨some 130, none, .mov (.tmp 11)⟩,
    ⟨some 131, none, .bin .sub 3 (.tmp 130) (.const (.int .i64 1))⟩,
    ⟨some 11, none, .mov (.tmp 131)⟩]
def R191_41 : RC := .block 9 R191_40
def R191_42 : RC := .seq R191_39 R191_41
def R191_43 : RC := .loop R191_42
def R191_44 : RC := .block 8 R191_43
def R191_45 : RC := .reg [⟨some 132, none, .mov (.tmp 10)⟩,
    ⟨some 133, none, .mov (.tmp 11)⟩,
    ⟨some 134, none, .bin .gtr 3 (.tmp 132) (.tmp 133)⟩]
def R191_46 : RC := .cond (.tmp 134) (.exit 4) (.skip)
def R191_47 : RC := .seq R191_45 R191_46
def R191_48 : RC := .draw [⟨some 135, none, .mov (.tmp 0)⟩,
    ⟨some 136, none, .mov (.tmp 10)⟩,
    ⟨some 137, none, .mov (.tmp 0)⟩,
    ⟨some 138, none, .mov (.tmp 11)⟩,
    ⟨some 139, none, .mov (.tmp 0)⟩,
    ⟨some 140, none, .mov (.tmp 11)⟩,
    ⟨some 141, none, .ixS 1 (.tmp 139) (.tmp 140)⟩,
    ⟨some 142, none, .load1 (.tmp 141)⟩,
    ⟨some 143, none, .mov (.tmp 0)⟩,
    ⟨some 144, none, .mov (.tmp 10)⟩,
    ⟨some 145, none, .ixS 1 (.tmp 143) (.tmp 144)⟩,
    ⟨some 146, none, .load1 (.tmp 145)⟩,
    ⟨some 147, none, .ixS 1 (.tmp 135) (.tmp 136)⟩,
    ⟨none, none, .store 1 (.tmp 147) (.tmp 142)⟩,
    ⟨some 148, none, .ixS 1 (.tmp 137) (.tmp 138)⟩,
    ⟨none, none, .store 1 (.tmp 148) (.tmp 146)⟩] [[⟨0, ⟨some 135, none, .mov (.tmp 0)⟩, false, []⟩,
    ⟨1, ⟨some 136, none, .mov (.tmp 10)⟩, false, []⟩,
    ⟨2, ⟨some 137, none, .mov (.tmp 0)⟩, false, []⟩,
    ⟨3, ⟨some 138, none, .mov (.tmp 11)⟩, false, []⟩,
    ⟨4, ⟨some 139, none, .mov (.tmp 0)⟩, false, []⟩,
    ⟨5, ⟨some 140, none, .mov (.tmp 11)⟩, false, []⟩,
    ⟨6, ⟨some 141, none, .ixS 1 (.tmp 139) (.tmp 140)⟩, false, []⟩,
    ⟨7, ⟨some 142, none, .load1 (.tmp 141)⟩, true, []⟩,
    ⟨8, ⟨some 143, none, .mov (.tmp 0)⟩, false, []⟩,
    ⟨9, ⟨some 144, none, .mov (.tmp 10)⟩, false, []⟩,
    ⟨10, ⟨some 145, none, .ixS 1 (.tmp 143) (.tmp 144)⟩, false, []⟩,
    ⟨11, ⟨some 146, none, .load1 (.tmp 145)⟩, true, []⟩,
    ⟨12, ⟨some 147, none, .ixS 1 (.tmp 135) (.tmp 136)⟩, false, []⟩,
    ⟨13, ⟨none, none, .store 1 (.tmp 147) (.tmp 142)⟩, false, []⟩],
   [⟨14, ⟨some 148, none, .ixS 1 (.tmp 137) (.tmp 138)⟩, false, []⟩],
   [⟨15, ⟨none, none, .store 1 (.tmp 148) (.tmp 146)⟩, false, []⟩]]
def R191_49 : RC := .reg [⟨some 149, none, .mov (.tmp 10)⟩,
    ⟨some 150, none, .bin .add 3 (.tmp 149) (.const (.int .i64 1))⟩,
    ⟨some 10, none, .mov (.tmp 150)⟩]
def R191_50 : RC := .reg [⟨some 151, none, .mov (.tmp 11)⟩,
    ⟨some 152, none, .bin .sub 3 (.tmp 151) (.const (.int .i64 1))⟩,
    ⟨some 11, none, .mov (.tmp 152)⟩]
def R191_51 : RC := .seq R191_49 R191_50
def R191_52 : RC := .seq R191_48 R191_51
def R191_53 : RC := .seq R191_47 R191_52
def R191_54 : RC := .seq R191_44 R191_53
def R191_55 : RC := .seq R191_36 R191_54
def R191_56 : RC := .block 5 R191_55
def R191_57 : RC := .loop R191_56
def R191_58 : RC := .block 4 R191_57
def R191_59 : RC := .draw [⟨some 153, none, .mov (.tmp 0)⟩,
    ⟨some 154, none, .mov (.tmp 11)⟩,
    ⟨some 155, none, .mov (.tmp 0)⟩,
    ⟨some 156, none, .mov (.tmp 1)⟩,
    ⟨some 157, none, .mov (.tmp 0)⟩,
    ⟨some 158, none, .mov (.tmp 1)⟩,
    ⟨some 159, none, .ixS 1 (.tmp 157) (.tmp 158)⟩,
    ⟨some 160, none, .load1 (.tmp 159)⟩,
    ⟨some 161, none, .mov (.tmp 0)⟩,
    ⟨some 162, none, .mov (.tmp 11)⟩,
    ⟨some 163, none, .ixS 1 (.tmp 161) (.tmp 162)⟩,
    ⟨some 164, none, .load1 (.tmp 163)⟩,
    ⟨some 165, none, .ixS 1 (.tmp 153) (.tmp 154)⟩,
    ⟨none, none, .store 1 (.tmp 165) (.tmp 160)⟩,
    ⟨some 166, none, .ixS 1 (.tmp 155) (.tmp 156)⟩,
    ⟨none, none, .store 1 (.tmp 166) (.tmp 164)⟩] [[⟨0, ⟨some 153, none, .mov (.tmp 0)⟩, false, []⟩,
    ⟨1, ⟨some 154, none, .mov (.tmp 11)⟩, false, []⟩,
    ⟨2, ⟨some 155, none, .mov (.tmp 0)⟩, false, []⟩,
    ⟨3, ⟨some 156, none, .mov (.tmp 1)⟩, false, []⟩,
    ⟨4, ⟨some 157, none, .mov (.tmp 0)⟩, false, []⟩,
    ⟨5, ⟨some 158, none, .mov (.tmp 1)⟩, false, []⟩,
    ⟨6, ⟨some 159, none, .ixS 1 (.tmp 157) (.tmp 158)⟩, false, []⟩,
    ⟨7, ⟨some 160, none, .load1 (.tmp 159)⟩, true, []⟩,
    ⟨8, ⟨some 161, none, .mov (.tmp 0)⟩, false, []⟩,
    ⟨9, ⟨some 162, none, .mov (.tmp 11)⟩, false, []⟩,
    ⟨10, ⟨some 163, none, .ixS 1 (.tmp 161) (.tmp 162)⟩, false, []⟩,
    ⟨11, ⟨some 164, none, .load1 (.tmp 163)⟩, true, []⟩,
    ⟨12, ⟨some 165, none, .ixS 1 (.tmp 153) (.tmp 154)⟩, false, []⟩,
    ⟨13, ⟨none, none, .store 1 (.tmp 165) (.tmp 160)⟩, false, []⟩],
   [⟨14, ⟨some 166, none, .ixS 1 (.tmp 155) (.tmp 156)⟩, false, []⟩],
   [⟨15, ⟨none, none, .store 1 (.tmp 166) (.tmp 164)⟩, false, []⟩]]
def R191_60 : RC := .reg [⟨some 167, none, .mov (.tmp 11)⟩,
    ⟨some 8, none, .mov (.tmp 167)⟩,
    ⟨some 9, none, .mov (.const (.bool false))⟩]
def R191_61 : RC := .seq R191_60 (.ret)
def R191_62 : RC := .seq R191_59 R191_61
def R191_63 : RC := .seq R191_58 R191_62
def R191_64 : RC := .seq R191_28 R191_63
def R191_65 : RC := .seq R191_27 R191_64
def R191_66 : RC := .seq R191_26 R191_65
def R191_67 : RC := .seq R191_25 R191_66
def R191_68 : RC := .seq R191_18 R191_67
def R191_69 : RC := .seq R191_10 R191_68
def R191_70 : RC := .seq R191_2 R191_69
def R191_71 : RC := .seq R191_1 R191_70
def R191_72 : RC := .seq R191_0 R191_71

-- 211: (*internal/sync.Mutex).Lock
def R211_0 : RC := .reg [⟨some 2, none, .ext 215 []⟩]
def R211_1 : RC := .reg [⟨some 3, none, .mov (.tmp 0)⟩,
    ⟨some 4, none, .nilck (.tmp 3)⟩,
    ⟨some 5, none, .faddr 0 (.tmp 4)⟩,
    ⟨some 6, none, .ext 216 [(.tmp 5), (.const (.int .i32 0)), (.const (.int .i32 1))]⟩]
def R211_2 : RC := .reg [⟨some 7, none, .ext 217 []⟩]
def R211_3 : RC := .reg [⟨some 8, none, .mov (.tmp 0)⟩,
    ⟨some 9, none, .cvUP (.tmp 8)⟩,
    ⟨some 10, none, .ext 218 [(.tmp 9)]⟩]
def R211_4 : RC := .seq R211_2 R211_3
def R211_5 : RC := .cond (.const (.bool true)) R211_4 (.skip)
def R211_6 : RC := .seq R211_5 (.ret)
def R211_7 : RC := .cond (.tmp 6) R211_6 (.skip)
def R211_8 : RC := .seq R211_1 R211_7
def R211_9 : RC := .reg [⟨some 11, none, .mov (.tmp 0)⟩,
    ⟨some 12, none, .call 219 [(.tmp 11)]⟩]
def R211_10 : RC := .seq R211_8 R211_9
def R211_11 : RC := .seq R211_0 R211_10

-- 212: (*internal/sync.Mutex).Unlock
def R212_0 : RC := .reg [⟨some 3, none, .mov (.tmp 0)⟩,
    ⟨some 4, none, .nilck (.tmp 3)⟩,
    ⟨some 5, none, .faddr 0 (.tmp 4)⟩,
    ⟨some 6, none, .load1 (.tmp 5)⟩]
def R212_1 : RC := .reg [⟨some 7, none, .mov (.tmp 0)⟩,
    ⟨some 8, none, .cvUP (.tmp 7)⟩,
    ⟨some 9, none, .ext 220 [(.tmp 8)]⟩]
def R212_2 : RC := .reg [⟨some 10, none, .ext 215 []⟩]
def R212_3 : RC := .seq R212_1 R212_2
def R212_4 : RC := .seq R212_0 R212_3
def R212_5 : RC := .cond (.const (.bool true)) R212_4 (.skip)
def R212_6 : RC := .reg [⟨some 11, none, .mov (.tmp 0)⟩,
    ⟨some 12, none, .nilck (.tmp 11)⟩,
    ⟨some 13, none, .faddr 0 (.tmp 12)⟩,
    ⟨some 14, none, .ext 209 [(.tmp 13), (.const (.int .i32 (-1)))]⟩,
    ⟨some 2, none, .mov (.tmp 14)⟩]
def R212_7 : RC := .reg [⟨some 15, none, .mov (.tmp 2)⟩,
    ⟨some 16, none, .bin .neq 21 (.tmp 15) (.const (.int .i32 0))⟩]
def R212_8 : RC := .reg [⟨some 17, none, .mov (.tmp 0)⟩,
    ⟨some 18, none, .mov (.tmp 2)⟩,
    ⟨some 19, none, .call 221 [(.tmp 17), (.tmp 18)]⟩]
def R212_9 : RC := .cond (.tmp 16) R212_8 (.skip)
def R212_10 : RC := .seq R212_7 R212_9
def R212_11 : RC := .reg [⟨some 20, none, .ext 217 []⟩]
def R212_12 : RC := .seq R212_10 R212_11
def R212_13 : RC := .seq R212_6 R212_12
def R212_14 : RC := .seq R212_5 R212_13

-- 214: sync/atomic.b32
def R214_0 : RC := .reg [⟨some 2, none, .mov (.const (.int .u32 0))⟩]
def R214_1 : RC := .reg [⟨some 3, none, .mov (.tmp 0)⟩]
def R214_2 : RC := .reg [⟨some 2, none, .mov (.const (.int .u32 1))⟩]
def R214_3 : RC := .seq R214_2 (.ret)
def R214_4 : RC := .cond (.tmp 3) R214_3 (.skip)
def R214_5 : RC := .seq R214_1 R214_4
def R214_6 : RC := .reg [⟨some 2, none, .mov (.const (.int .u32 0))⟩]
def R214_7 : RC := .seq R214_6 (.ret)
def R214_8 : RC := .seq R214_5 R214_7
def R214_9 : RC := .seq R214_0 R214_8

-- 213: sync/atomic.StoreUint32
-- 199: slices.siftDownOrdered[string]
def R199_0 : RC := .reg [⟨some 10, none, .mov (.tmp 1)⟩,
    ⟨some 8, none, .mov (.tmp 10)⟩]
def R199_1 : RC := .reg [⟨some 11, none, .mov (.tmp 8)⟩,
    ⟨some 12, none, .bin .mul 3 (.const (.int .i64 2)) (.tmp 11)⟩,
    ⟨some 13, none, .bin .add 3 (.tmp 12) (.const (.int .i64 1))⟩,
    ⟨some 9, none, .mov (.tmp 13)⟩]
def R199_2 : RC := .reg [⟨some 14, none, .mov (.tmp 9)⟩,
    ⟨some 15, none, .mov (.tmp 2)⟩,
    ⟨some 16, none, .bin .geq 3 (.tmp 14) (.tmp 15)⟩]
def R199_3 : RC := .cond (.tmp 16) (.exit 0) (.skip)
def R199_4 : RC := .seq R199_2 R199_3
def R199_5 : RC := .draw [⟨some 17, none, .mov (.tmp 9)⟩,
    ⟨some 18, none, .bin .add 3 (.tmp 17) (.const (.int .i64 1))⟩,
    ⟨some 19, none, .mov (.tmp 2)⟩,
    ⟨some 20, none, .bin .lss 3 (.tmp 18) (.tmp 19)⟩,
    ⟨some 21, none, .mov (.tmp 20)⟩,
    ⟨some 22, some (21, true), .mov (.tmp 0)⟩,
    ⟨some 23, some (21, true), .mov (.tmp 3)⟩,
    ⟨some 24, some (21, true), .mov (.tmp 9)⟩,
    ⟨some 25, some (21, true), .bin .add 3 (.tmp 23) (.tmp 24)⟩,
    ⟨some 26, some (21, true), .ixS 1 (.tmp 22) (.tmp 25)⟩,
    ⟨some 27, some (21, true), .load1 (.tmp 26)⟩,
    ⟨some 28, some (21, true), .mov (.tmp 0)⟩,
    ⟨some 29, some (21, true), .mov (.tmp 3)⟩,
    ⟨some 30, some (21, true), .mov (.tmp 9)⟩,
    ⟨some 31, some (21, true), .bin .add 3 (.tmp 29) (.tmp 30)⟩,
    ⟨some 32, some (21, true), .bin .add 3 (.tmp 31) (.const (.int .i64 1))⟩,
    ⟨some 33, some (21, true), .ixS 1 (.tmp 28) (.tmp 32)⟩,
    ⟨some 34, some (21, true), .load1 (.tmp 33)⟩,
    ⟨some 35, some (21, true), .call 189 [(.tmp 27), (.tmp 34)]⟩,
    ⟨some 36, none, .pick (.tmp 21) (.tmp 35) (.const (.bool false))⟩] [[⟨0, ⟨some 17, none, .mov (.tmp 9)⟩, false, []⟩,
    ⟨1, ⟨some 18, none, .bin .add 3 (.tmp 17) (.const (.int .i64 1))⟩, false, []⟩,
    ⟨2, ⟨some 19, none, .mov (.tmp 2)⟩, false, []⟩],
   [⟨3, ⟨some 20, none, .bin .lss 3 (.tmp 18) (.tmp 19)⟩, false, []⟩],
   [⟨4, ⟨some 21, none, .mov (.tmp 20)⟩, false, []⟩],
   [⟨5, ⟨some 22, some (21, true), .mov (.tmp 0)⟩, false, []⟩,
    ⟨6, ⟨some 23, some (21, true), .mov (.tmp 3)⟩, false, []⟩,
    ⟨7, ⟨some 24, some (21, true), .mov (.tmp 9)⟩, false, []⟩,
    ⟨8, ⟨some 25, some (21, true), .bin .add 3 (.tmp 23) (.tmp 24)⟩, false, []⟩,
    ⟨9, ⟨some 26, some (21, true), .ixS 1 (.tmp 22) (.tmp 25)⟩, false, []⟩,
    ⟨10, ⟨some 27, some (21, true), .load1 (.tmp 26)⟩, true, []⟩,
    ⟨11, ⟨some 28, some (21, true), .mov (.tmp 0)⟩, false, []⟩,
    ⟨12, ⟨some 29, some (21, true), .mov (.tmp 3)⟩, false, []⟩,
    ⟨13, ⟨some 30, some (21, true), .mov (.tmp 9)⟩, false, []⟩,
    ⟨14, ⟨some 31, some (21, true), .bin .add 3 (.tmp 29) (.tmp 30)⟩, false, []⟩,
    ⟨15, ⟨some 32, some (21, true), .bin .add 3 (.tmp 31) (.const (.int .i64 1))⟩, false, []⟩,
    ⟨16, ⟨some 33, some (21, true), .ixS 1 (.tmp 28) (.tmp 32)⟩, false, []⟩,
    ⟨17, ⟨some 34, some (21, true), .load1 (.tmp 33)⟩, true, []⟩],
   [⟨18, ⟨some 35, some (21, true), .call 189 [(.tmp 27), (.tmp 34)]⟩, false, []⟩],
   [⟨19, ⟨some 36, none, .pick (.tmp 21) (.tmp 35) (.const (.bool false))⟩, false, []⟩]]
def R199_6 : RC := .reg [⟨some 37, none, .mov (.tmp 9)⟩,
    ⟨some 38, none, .bin .add 3 (.tmp 37) (.const (.int .i64 1))⟩,
    ⟨some 9, none, .mov (.tmp 38)⟩]
def R199_7 : RC := .cond (.tmp 36) R199_6 (.skip)
def R199_8 : RC := .seq R199_5 R199_7
def R199_9 : RC := .draw [⟨some 39, none, .mov (.tmp 0)⟩,
    ⟨some 40, none, .mov (.tmp 3)⟩,
    ⟨some 41, none, .mov (.tmp 8)⟩,
    ⟨some 42, none, .bin .add 3 (.tmp 40) (.tmp 41)⟩,
    ⟨some 43, none, .ixS 1 (.tmp 39) (.tmp 42)⟩,
    ⟨some 44, none, .load1 (.tmp 43)⟩,
    ⟨some 45, none, .mov (.tmp 0)⟩,
    ⟨some 46, none, .mov (.tmp 3)⟩,
    ⟨some 47, none, .mov (.tmp 9)⟩,
    ⟨some 48, none, .bin .add 3 (.tmp 46) (.tmp 47)⟩,
    ⟨some 49, none, .ixS 1 (.tmp 45) (.tmp 48)⟩,
    ⟨some 50, none, .load1 (.tmp 49)⟩,
    ⟨some 51, none, .call 189 [(.tmp 44), (.tmp 50)]⟩,
    ⟨some 52, none, .un .not (.tmp 51)⟩] [[⟨0, ⟨some 39, none, .mov (.tmp 0)⟩, false, []⟩,
    ⟨1, ⟨some 40, none, .mov (.tmp 3)⟩, false, []⟩,
    ⟨2, ⟨some 41, none, .mov (.tmp 8)⟩, false, []⟩,
    ⟨3, ⟨some 42, none, .bin .add 3 (.tmp 40) (.tmp 41)⟩, false, []⟩,
    ⟨4, ⟨some 43, none, .ixS 1 (.tmp 39) (.tmp 42)⟩, false, []⟩,
    ⟨5, ⟨some 44, none, .load1 (.tmp 43)⟩, true, []⟩,
    ⟨6, ⟨some 45, none, .mov (.tmp 0)⟩, false, []⟩,
    ⟨7, ⟨some 46, none, .mov (.tmp 3)⟩, false, []⟩,
    ⟨8, ⟨some 47, none, .mov (.tmp 9)⟩, false, []⟩,
    ⟨9, ⟨some 48, none, .bin .add 3 (.tmp 46) (.tmp 47)⟩, false, []⟩,
    ⟨10, ⟨some 49, none, .ixS 1 (.tmp 45) (.tmp 48)⟩, false, []⟩,
    ⟨11, ⟨some 50, none, .load1 (.tmp 49)⟩, true, []⟩],
   [⟨12, ⟨some 51, none, .call 189 [(.tmp 44), (.tmp 50)]⟩, false, []⟩],
   [⟨13, ⟨some 52, none, .un .not (.tmp 51)⟩, false, []⟩]]
def R199_10 : RC := .cond (.tmp 52) (.ret) (.skip)
def R199_11 : RC := .seq R199_9 R199_10
def R199_12 : RC := .draw [⟨some 53, none, .mov (.tmp 0)⟩,
    ⟨some 54, none, .mov (.tmp 3)⟩,
    ⟨some 55, none, .mov (.tmp 8)⟩,
    ⟨some 56, none, .bin .add 3 (.tmp 54) (.tmp 55)⟩,
    ⟨some 57, none, .mov (.tmp 0)⟩,
    ⟨some 58, none, .mov (.tmp 3)⟩,
    ⟨some 59, none, .mov (.tmp 9)⟩,
    ⟨some 60, none, .bin .add 3 (.tmp 58) (.tmp 59)⟩,
    ⟨some 61, none, .mov (.tmp 0)⟩,
    ⟨some 62, none, .mov (.tmp 3)⟩,
    ⟨some 63, none, .mov (.tmp 9)⟩,
    ⟨some 64, none, .bin .add 3 (.tmp 62) (.tmp 63)⟩,
    ⟨some 65, none, .ixS 1 (.tmp 61) (.tmp 64)⟩,
    ⟨some 66, none, .load1 (.tmp 65)⟩,
    ⟨some 67, none, .mov (.tmp 0)⟩,
    ⟨some 68, none, .mov (.tmp 3)⟩,
    ⟨some 69, none, .mov (.tmp 8)⟩,
    ⟨some 70, none, .bin .add 3 (.tmp 68) (.tmp 69)⟩,
    ⟨some 71, none, .ixS 1 (.tmp 67) (.tmp 70)⟩,
    ⟨some 72, none, .load1 (.tmp 71)⟩,
    ⟨some 73, none, .ixS 1 (.tmp 53) (.tmp 56)⟩,
    ⟨none, none, .store 1 (.tmp 73) (.tmp 66)⟩,
    ⟨some 74, none, .ixS 1 (.tmp 57) (.tmp 60)⟩,
    ⟨none, none, .store 1 (.tmp 74) (.tmp 72)⟩] [[⟨0, ⟨some 53, none, .mov (.tmp 0)⟩, false, []⟩,
    ⟨1, ⟨some 54, none, .mov (.tmp 3)⟩, false, []⟩,
    ⟨2, ⟨some 55, none, .mov (.tmp 8)⟩, false, []⟩,
    ⟨3, ⟨some 56, none, .bin .add 3 (.tmp 54) (.tmp 55)⟩, false, []⟩,
    ⟨4, ⟨some 57, none, .mov (.tmp 0)⟩, false, []⟩,
    ⟨5, ⟨some 58, none, .mov (.tmp 3)⟩, false, []⟩,
    ⟨6, ⟨some 59, none, .mov (.tmp 9)⟩, false, []⟩,
    ⟨7, ⟨some 60, none, .bin .add 3 (.tmp 58) (.tmp 59)⟩, false, []⟩,
    ⟨8, ⟨some 61, none, .mov (.tmp 0)⟩, false, []⟩,
    ⟨9, ⟨some 62, none, .mov (.tmp 3)⟩, false, []⟩,
    ⟨10, ⟨some 63, none, .mov (.tmp 9)⟩, false, []⟩,
    ⟨11, ⟨some 64, none, .bin .add 3 (.tmp 62) (.tmp 63)⟩, false, []⟩,
    ⟨12, ⟨some 65, none, .ixS 1 (.tmp 61) (.tmp 64)⟩, false, []⟩,
    ⟨13, ⟨some 66, none, .load1 (.tmp 65)⟩, true, []⟩,
    ⟨14, ⟨some 67, none, .mov (.tmp 0)⟩, false, []⟩,
    ⟨15, ⟨some 68, none, .mov (.tmp 3)⟩, false, []⟩,
    ⟨16, ⟨some 69, none, .mov (.tmp 8)⟩, false, []⟩,
    ⟨17, ⟨some 70, none, .bin .add 3 (.tmp 68) (.tmp 69)⟩, false, []⟩,
    ⟨18, ⟨some 71, none, .ixS 1 (.tmp 67) (.tmp 70)⟩, false, []⟩,
    ⟨19, ⟨some 72, none, .load1 (.tmp 71)⟩, true, []⟩,
    ⟨20, ⟨some 73, none, .ixS 1 (.tmp 53) (.tmp 56)⟩, false, []⟩,
    ⟨21, ⟨none, none, .store 1 (.tmp 73) (.tmp 66)⟩, false, []⟩],
   [⟨22, ⟨some 74, none, .ixS 1 (.tmp 57) (.tmp 60)⟩, false, []⟩],
   [⟨23, ⟨none, none, .store 1 (.tmp 74) (.tmp 72)⟩, false, []⟩]]
def R199_13 : RC := .reg [⟨some 75, none, .mov (.tmp 9)⟩,
    ⟨some 8, none, .mov (.tmp 75)⟩]
def R199_14 : RC := .seq R199_12 R199_13
def R199_15 : RC := .seq R199_11 R199_14
def R199_16 : RC := .seq R199_8 R199_15
def R199_17 : RC := .seq R199_4 R199_16
def R199_18 : RC := .seq R199_1 R199_17
def R199_19 : RC := .block 1 R199_18
def R199_20 : RC := .loop R199_19
def R199_21 : RC := .block 0 R199_20
def R199_22 : RC := .seq R199_0 R199_21

-- 200: slices.nextPowerOfTwo
def R200_0 : RC := .reg [⟨some 2, none, .mov (.const (.int .u64 0))⟩]
def R200_1 : RC := .reg [⟨some 3, none, .mov (.tmp 0)⟩,
    ⟨some 4, none, .cvInt .u64 (.tmp 3)⟩,
    ⟨some 5, none, .call 168 [(.tmp 4)]⟩,
    ⟨some 6, none, .bin .shl 206 (.const (.int .u64 1)) (.tmp 5)⟩,
    ⟨some 2, none, .mov (.tmp 6)⟩]
def R200_2 : RC := .seq R200_1 (.ret)
def R200_3 : RC := .seq R200_0 R200_2

-- 201: (*slices.xorshift).Next
def R201_0 : RC := .reg [⟨some 2, none, .mov (.const (.int .u64 0))⟩]
def R201_1 : RC := .draw [⟨some 3, none, .mov (.tmp 0)⟩,
    ⟨some 4, none, .nilck (.tmp 3)⟩,
    ⟨some 5, none, .load1 (.tmp 4)⟩,
    ⟨some 6, none, .mov (.tmp 0)⟩,
    ⟨some 7, none, .nilck (.tmp 6)⟩,
    ⟨some 8, none, .load1 (.tmp 7)⟩,
    ⟨some 9, none, .bin .shl 281 (.tmp 8) (.const (.int .u64 13))⟩,
    ⟨some 10, none, .bin .xor 281 (.tmp 5) (.tmp 9)⟩,
    ⟨some 11, none, .nilck (.tmp 3)⟩,
    ⟨none, none, .store 1 (.tmp 11) (.tmp 10)⟩] [[⟨0, ⟨some 3, none, .mov (.tmp 0)⟩, false, []⟩,
    ⟨1, ⟨some 4, none, .nilck (.tmp 3)⟩, false, []⟩,
    ⟨2, ⟨some 5, none, .load1 (.tmp 4)⟩, true, []⟩,
    ⟨3, ⟨some 6, none, .mov (.tmp 0)⟩, false, []⟩,
    ⟨4, ⟨some 7, none, .nilck (.tmp 6)⟩, false, []⟩,
    ⟨5, ⟨some 8, none, .load1 (.tmp 7)⟩, true, []⟩,
    ⟨6, ⟨some 9, none, .bin .shl 281 (.tmp 8) (.const (.int .u64 13))⟩, false, []⟩],
   [⟨7, ⟨some 10, none, .bin .xor 281 (.tmp 5) (.tmp 9)⟩, false, []⟩],
   [⟨8, ⟨some 11, none, .nilck (.tmp 3)⟩, false, []⟩],
   [⟨9, ⟨none, none, .store 1 (.tmp 11) (.tmp 10)⟩, false, []⟩]]
def R201_2 : RC := .draw [⟨some 12, none, .mov (.tmp 0)⟩,
    ⟨some 13, none, .nilck (.tmp 12)⟩,
    ⟨some 14, none, .load1 (.tmp 13)⟩,
    ⟨some 15, none, .mov (.tmp 0)⟩,
    ⟨some 16, none, .nilck (.tmp 15)⟩,
    ⟨some 17, none, .load1 (.tmp 16)⟩,
    ⟨some 18, none, .bin .shr 281 (.tmp 17) (.const (.int .u64 7))⟩,
    ⟨some 19, none, .bin .xor 281 (.tmp 14) (.tmp 18)⟩,
    ⟨some 20, none, .nilck (.tmp 12)⟩,
    ⟨none, none, .store 1 (.tmp 20) (.tmp 19)⟩] [[⟨0, ⟨some 12, none, .mov (.tmp 0)⟩, false, []⟩,
    ⟨1, ⟨some 13, none, .nilck (.tmp 12)⟩, false, []⟩,
    ⟨2, ⟨some 14, none, .load1 (.tmp 13)⟩, true, []⟩,
    ⟨3, ⟨some 15, none, .mov (.tmp 0)⟩, false, []⟩,
    ⟨4, ⟨some 16, none, .nilck (.tmp 15)⟩, false, []⟩,
    ⟨5, ⟨some 17, none, .load1 (.tmp 16)⟩, true, []⟩,
    ⟨6, ⟨some 18, none, .bin .shr 281 (.tmp 17) (.const (.int .u64 7))⟩, false, []⟩],
   [⟨7, ⟨some 19, none, .bin .xor 281 (.tmp 14) (.tmp 18)⟩, false, []⟩],
   [⟨8, ⟨some 20, none, .nilck (.tmp 12)⟩, false, []⟩],
   [⟨9, ⟨none, none, .store 1 (.tmp 20) (.tmp 19)⟩, false, []⟩]]
def R201_3 : RC := .draw [⟨some 21, none, .mov (.tmp 0)⟩,
    ⟨some 22, none, .nilck (.tmp 21)⟩,
    ⟨some 23, none, .load1 (.tmp 22)⟩,
    ⟨some 24, none, .mov (.tmp 0)⟩,
    ⟨some 25, none, .nilck (.tmp 24)⟩,
    ⟨some 26, none, .load1 (.tmp 25)⟩,
    ⟨some 27, none, .bin .shl 281 (.tmp 26) (.const (.int .u64 17))⟩,
    ⟨some 28, none, .bin .xor 281 (.tmp 23) (.tmp 27)⟩,
    ⟨some 29, none, .nilck (.tmp 21)⟩,
    ⟨none, none, .store 1 (.tmp 29) (.tmp 28)⟩] [[⟨0, ⟨some 21, none, .mov (.tmp 0)⟩, false, []⟩,
    ⟨1, ⟨some 22, none, .nilck (.tmp 21)⟩, false, []⟩,
    ⟨2, ⟨some 23, none, .load1 (.tmp 22)⟩, true, []⟩,
    ⟨3, ⟨some 24, none, .mov (.tmp 0)⟩, false, []⟩,
    ⟨4, ⟨some 25, none, .nilck (.tmp 24)⟩, false, []⟩,
    ⟨5, ⟨some 26, none, .load1 (.tmp 25)⟩, true, []⟩,
    ⟨6, ⟨some 27, none, .bin .shl 281 (.tmp 26) (.const (.int .u64 17))⟩, false, []⟩],
   [⟨7, ⟨some 28, none, .bin .xor 281 (.tmp 23) (.tmp 27)⟩, false, []⟩],
   [⟨8, ⟨some 29, none, .nilck (.tmp 21)⟩, false, []⟩],
   [⟨9, ⟨none, none, .store 1 (.tmp 29) (.tmp 28)⟩, false, []⟩]]
def R201_4 : RC := .reg [⟨some 30, none, .mov (.tmp 0)⟩,
    ⟨some 31, none, .nilck (.tmp 30)⟩,
    ⟨some 32, none, .load1 (.tmp 31)⟩,
    ⟨some 2, none, .mov (.tmp 32)⟩]
def R201_5 : RC := .seq R201_4 (.ret)
def R201_6 : RC := .seq R201_3 R201_5
def R201_7 : RC := .seq R201_2 R201_6
def R201_8 : RC := .seq R201_1 R201_7
def R201_9 : RC := .seq R201_0 R201_8

-- 202: slices.medianAdjacentOrdered[string]
def R202_0 : RC := .reg [⟨some 6, none, .mov (.const (.int .i64 0))⟩]
def R202_1 : RC := .reg [⟨some 7, none, .mov (.tmp 0)⟩,
    ⟨some 8, none, .mov (.tmp 1)⟩,
    ⟨some 9, none, .bin .sub 3 (.tmp 8) (.const (.int .i64 1))⟩,
    ⟨some 10, none, .mov (.tmp 1)⟩,
    ⟨some 11, none, .mov (.tmp 1)⟩,
    ⟨some 12, none, .bin .add 3 (.tmp 11) (.const (.int .i64 1))⟩,
    ⟨some 13, none, .mov (.tmp 2)⟩,
    ⟨some 14, none, .call 203 [(.tmp 7), (.tmp 9), (.tmp 10), (.tmp 12), (.tmp 13)]⟩,
    ⟨some 6, none, .mov (.tmp 14)⟩]
def R202_2 : RC := .seq R202_1 (.ret)
def R202_3 : RC := .seq R202_0 R202_2

-- 203: slices.medianOrdered[string]
def R203_0 : RC := .reg [⟨some 10, none, .mov (.const (.int .i64 0))⟩]
def R203_1 : RC := .reg [⟨some 12, none, .mov (.tmp 0)⟩,
    ⟨some 13, none, .mov (.tmp 1)⟩,
    ⟨some 14, none, .mov (.tmp 2)⟩,
    ⟨some 15, none, .mov (.tmp 4)⟩,
    ⟨some 16, none, .call 210 [(.tmp 12), (.tmp 13), (.tmp 14), (.tmp 15)]⟩,
    ⟨some 11, none, .mov (.tmp 16)⟩,
    ⟨some 17, none, .extr (.tmp 11) 0⟩,
    ⟨some 18, none, .extr (.tmp 11) 1⟩,
    ⟨some 1, none, .mov (.tmp 17)⟩,
    ⟨some 2, none, .mov (.tmp 18)⟩]
def R203_2 : RC := .reg [⟨some 20, none, .mov (.tmp 0)⟩,
    ⟨some 21, none, .mov (.tmp 2)⟩,
    ⟨some 22, none, .mov (.tmp 3)⟩,
    ⟨some 23, none, .mov (.tmp 4)⟩,
    ⟨some 24, none, .call 210 [(.tmp 20), (.tmp 21), (.tmp 22), (.tmp 23)]⟩,
    ⟨some 19, none, .mov (.tmp 24)⟩,
    ⟨some 25, none, .extr (.tmp 19) 0⟩,
    ⟨some 26, none, .extr (.tmp 19) 1⟩,
    ⟨some 2, none, .mov (.tmp 25)⟩,
    ⟨some 3, none, .mov (.tmp 26)⟩]
def R203_3 : RC := .reg [⟨some 28, none, .mov (.tmp 0)⟩,
    ⟨some 29, none, .mov (.tmp 1)⟩,
    ⟨some 30, none, .mov (.tmp 2)⟩,
    ⟨some 31, none, .mov (.tmp 4)⟩,
    ⟨some 32, none, .call 210 [(.tmp 28), (.tmp 29), (.tmp 30), (.tmp 31)]⟩,
    ⟨some 27, none, .mov (.tmp 32)⟩,
    ⟨some 33, none, .extr (.tmp 27) 0⟩,
    ⟨some 34, none, .extr (.tmp 27) 1⟩,
    ⟨some 1, none, .mov (.tmp 33)⟩,
    ⟨some 2, none, .mov (.tmp 34)⟩]
def R203_4 : RC := .reg [⟨some 35, none, .mov (.tmp 2)⟩,
    ⟨some 10, none, .mov (.tmp 35)⟩]
def R203_5 : RC := .seq R203_4 (.ret)
def R203_6 : RC := .seq R203_3 R203_5
def R203_7 : RC := .seq R203_2 R203_6
def R203_8 : RC := .seq R203_1 R203_7
def R203_9 : RC := .seq R203_0 R203_8

-- 204: cmp.isNaN[string]
def R204_0 : RC := .reg [⟨some 2, none, .mov (.const (.bool false))⟩]
def R204_1 : RC := .reg [⟨some 3, none, .mov (.tmp 0)⟩,
    ⟨some 4, none, .mov (.tmp 0)⟩,
    ⟨some 5, none, .bin .neq 9 (.tmp 3) (.tmp 4)⟩,
    ⟨some 2, none, .mov (.tmp 5)⟩]
def R204_2 : RC := .seq R204_1 (.ret)
def R204_3 : RC := .seq R204_0 R204_2

-- 215: internal/race.Disable
-- 216: sync/atomic.CompareAndSwapInt32
-- 217: internal/race.Enable
-- 218: internal/race.Acquire
-- 219: (*internal/sync.Mutex).lockSlow
def R219_0 : RC := .reg [⟨some 2, none, .mov (.const (.int .i64 0))⟩]
def R219_1 : RC := .reg [⟨some 3, none, .mov (.const (.bool false))⟩]
def R219_2 : RC := .reg [⟨some 4, none, .mov (.const (.bool false))⟩]
def R219_3 : RC := .reg [⟨some 5, none, .mov (.const (.int .i64 0))⟩]
def R219_4 : RC := .reg [⟨some 10, none, .mov (.tmp 0)⟩,
    ⟨some 11, none, .nilck (.tmp 10)⟩,
    ⟨some 12, none, .faddr 0 (.tmp 11)⟩,
    ⟨some 13, none, .load1 (.tmp 12)⟩,
    ⟨some 6, none, .mov (.tmp 13)⟩]
def R219_5 : RC := .reg [⟨some 14, none, .mov (.tmp 6)⟩,
    ⟨some 15, none, .bin .and 21 (.tmp 14) (.const (.int .i32 5))⟩,
    ⟨some 16, none, .bin .eql 21 (.tmp 15) (.const (.int .i32 1))⟩,
    ⟨some 17, none, .mov (.tmp 16)⟩,
    ⟨some 18, some (17, true), .mov (.tmp 5)⟩,
    ⟨some 19, some (17, true), .ext 222 [(.tmp 18)]⟩,
    ⟨some 20, none, .pick (.tmp 17) (.tmp 19) (.const (.bool false))⟩]
def R219_6 : RC := .reg [⟨some 21, none, .mov (.tmp 4)⟩,
    ⟨some 22, none, .un .not (.tmp 21)⟩,
    ⟨some 23, none, .mov (.tmp 22)⟩,
    ⟨some 24, some (23, true), .mov (.tmp 6)⟩,
    ⟨some 25, some (23, true), .bin .and 21 (.tmp 24) (.const (.int .i32 2))⟩,
    ⟨some 26, some (23, true), .bin .eql 21 (.tmp 25) (.const (.int .i32 0))⟩,
    ⟨some 27, none, .pick (.tmp 23) (.tmp 26) (.const (.bool false))⟩,
    ⟨some 28, none, .mov (.tmp 27)⟩,
    ⟨some 29, some (28, true), .mov (.tmp 6)⟩,
    ⟨some 30, some (28, true), .bin .shr 21 (.tmp 29) (.const (.int .u64 3))⟩,
    ⟨some 31, some (28, true), .bin .neq 21 (.tmp 30) (.const (.int .i32 0))⟩,
    ⟨some 32, none, .pick (.tmp 28) (.tmp 31) (.const (.bool false))⟩,
    ⟨some 33, none, .mov (.tmp 32)⟩,
    ⟨some 34, some (33, true), .mov (.tmp 0)⟩,
    ⟨some 35, some (33, true), .nilck (.tmp 34)⟩,
    ⟨some 36, some (33, true), .faddr 0 (.tmp 35)⟩,
    ⟨some 37, some (33, true), .mov (.tmp 6)⟩,
    ⟨some 38, some (33, true), .mov (.tmp 6)⟩,
    ⟨some 39, some (33, true), .bin .or 21 (.tmp 38) (.const (.int .i32 2))⟩,
    ⟨some 40, some (33, true), .ext 216 [(.tmp 36), (.tmp 37), (.tmp 39)]⟩,
    ⟨some 41, none, .pick (.tmp 33) (.tmp 40) (.const (.bool false))⟩]
def R219_7 : RC := .reg [⟨some 4, none, .mov (.const (.bool true))⟩]
def R219_8 : RC := .cond (.tmp 41) R219_7 (.skip)
def R219_9 : RC := .seq R219_6 R219_8
def R219_10 : RC := .reg [⟨some 42, none, .ext 223 []⟩]
def R219_11 : RC := .reg [⟨some 43, none, .mov (.tmp 5)⟩,
    ⟨some 44, none, .bin .add 3 (.tmp 43) (.const (.int .i64 1))⟩,
    ⟨some 5, none, .mov (.tmp 44)⟩]
def R219_12 : RC := .reg [⟨some 45, none, .mov (.tmp 0)⟩,
    ⟨some 46, none, .nilck (.tmp 45)⟩,
    ⟨some 47, none, .faddr 0 (.tmp 46)⟩,
    ⟨some 48, none, .load1 (.tmp 47)⟩,
    ⟨some 6, none, .mov (.tmp 48)⟩]
def R219_13 : RC := .seq R219_12 (.exit 1)
def R219_14 : RC := .seq R219_11 R219_13
def R219_15 : RC := .seq R219_10 R219_14
def R219_16 : RC := .seq R219_9 R219_15
def R219_17 : RC := .cond (.tmp 20) R219_16 (.skip)
def R219_18 : RC := .seq R219_5 R219_17
def R219_19 : RC := .reg [⟨some 49, none, .mov (.tmp 6)⟩,
    ⟨some 7, none, .mov (.tmp 49)⟩]
def R219_20 : RC := .reg [⟨some 50, none, .mov (.tmp 6)⟩,
    ⟨some 51, none, .bin .and 21 (.tmp 50) (.const (.int .i32 4))⟩,
    ⟨some 52, none, .bin .eql 21 (.tmp 51) (.const (.int .i32 0))⟩]
def R219_21 : RC := .reg [⟨some 53, none, .mov (.tmp 7)⟩,
    ⟨some 54, none, .bin .or 21 (.tmp 53) (.const (.int .i32 1))⟩,
    ⟨some 7, none, .mov (.tmp 54)⟩]
def R219_22 : RC := .cond (.tmp 52) R219_21 (.skip)
def R219_23 : RC := .seq R219_20 R219_22
def R219_24 : RC := .reg [⟨some 55, none, .mov (.tmp 6)⟩,
    ⟨some 56, none, .bin .and 21 (.tmp 55) (.const (.int .i32 5))⟩,
    ⟨some 57, none, .bin .neq 21 (.tmp 56) (.const (.int .i32 0))⟩]
def R219_25 : RC := .reg [⟨some 58, none, .mov (.tmp 7)⟩,
    ⟨some 59, none, .bin .add 21 (.tmp 58) (.const (.int .i32 8))⟩,
    ⟨some 7, none, .mov (.tmp 59)⟩]
def R219_26 : RC := .cond (.tmp 57) R219_25 (.skip)
def R219_27 : RC := .seq R219_24 R219_26
def R219_28 : RC := .reg [⟨some 60, none, .mov (.tmp 3)⟩,
    ⟨some 61, none, .mov (.tmp 60)⟩,
    ⟨some 62, some (61, true), .mov (.tmp 6)⟩,
    ⟨some 63, some (61, true), .bin .and 21 (.tmp 62) (.const (.int .i32 1))⟩,
    ⟨some 64, some (61, true), .bin .neq 21 (.tmp 63) (.const (.int .i32 0))⟩,
    ⟨some 65, none, .pick (.tmp 61) (.tmp 64) (.const (.bool false))⟩]
def R219_29 : RC := .reg [⟨some 66, none, .mov (.tmp 7)⟩,
    ⟨some 67, none, .bin .or 21 (.tmp 66) (.const (.int .i32 4))⟩,
    ⟨some 7, none, .mov (.tmp 67)⟩]
def R219_30 : RC := .cond (.tmp 65) R219_29 (.skip)
def R219_31 : RC := .seq R219_28 R219_30
def R219_32 : RC := .reg [⟨some 68, none, .mov (.tmp 4)⟩]
def R219_33 : RC := .reg [⟨some 69, none, .mov (.tmp 7)⟩,
    ⟨some 70, none, .bin .and 21 (.tmp 69) (.const (.int .i32 2))⟩,
    ⟨some 71, none, .bin .eql 21 (.tmp 70) (.const (.int .i32 0))⟩]
def R219_34 : RC := .reg [⟨some 72, none, .ext 224 [(.const (.string ⟨#[115, 121, 110, 99, 58, 32, 105, 110, 99, 111, 110, 115, 105, 115, 116, 101, 110, 116, 32, 109, 117, 116, 101, 120, 32, 115, 116, 97, 116, 101]⟩))]⟩]
def R219_35 : RC := .cond (.tmp 71) R219_34 (.skip)
def R219_36 : RC := .seq R219_33 R219_35
def R219_37 : RC := .reg [⟨some 73, none, .mov (.tmp 7)⟩,
    ⟨some 74, none, .bin .andNot 21 (.tmp 73) (.const (.int .i32 2))⟩,
    ⟨some 7, none, .mov (.tmp 74)⟩]
def R219_38 : RC := .seq R219_36 R219_37
def R219_39 : RC := .cond (.tmp 68) R219_38 (.skip)
def R219_40 : RC := .seq R219_32 R219_39
def R219_41 : RC := .reg [⟨some 75, none, .mov (.tmp 0)⟩,
    ⟨some 76, none, .nilck (.tmp 75)⟩,
    ⟨some 77, none, .faddr 0 (.tmp 76)⟩,
    ⟨some 78, none, .mov (.tmp 6)⟩,
    ⟨some 79, none, .mov (.tmp 7)⟩,
    ⟨some 80, none, .ext 216 [(.tmp 77), (.tmp 78), (.tmp 79)]⟩]
def R219_42 : RC := .reg [⟨some 81, none, .mov (.tmp 6)⟩,
    ⟨some 82, none, .bin .and 21 (.tmp 81) (.const (.int .i32 5))⟩,
    ⟨some 83, none, .bin .eql 21 (.tmp 82) (.const (.int .i32 0))⟩]
def R219_43 : RC := .cond (.tmp 83) (.exit 0) (.skip)
def R219_44 : RC := .seq R219_42 R219_43
def R219_45 : RC := .reg [⟨some 84, none, .mov (.tmp 2)⟩,
    ⟨some 85, none, .bin .neq 2 (.tmp 84) (.const (.int .i64 0))⟩,
    ⟨some 8, none, .mov (.tmp 85)⟩]
def R219_46 : RC := .reg [⟨some 86, none, .mov (.tmp 2)⟩,
    ⟨some 87, none, .bin .eql 2 (.tmp 86) (.const (.int .i64 0))⟩]
def R219_47 : RC := .reg [⟨some 88, none, .ext 225 []⟩,
    ⟨some 2, none, .mov (.tmp 88)⟩]
def R219_48 : RC := .cond (.tmp 87) R219_47 (.skip)
def R219_49 : RC := .seq R219_46 R219_48
def R219_50 : RC := .reg [⟨some 89, none, .mov (.tmp 0)⟩,
    ⟨some 90, none, .nilck (.tmp 89)⟩,
    ⟨some 91, none, .faddr 1 (.tmp 90)⟩,
    ⟨some 92, none, .mov (.tmp 8)⟩,
    ⟨some 93, none, .ext 226 [(.tmp 91), (.tmp 92), (.const (.int .i64 2))]⟩]
def R219_51 : RC := .reg [⟨some 94, none, .mov (.tmp 3)⟩,
    ⟨some 95, none, .mov (.tmp 94)⟩,
    ⟨some 96, some (95, false), .ext 225 []⟩,
    ⟨some 97, some (95, false), .mov (.tmp 2)⟩,
    ⟨some 98, some (95, false), .bin .sub 2 (.tmp 96) (.tmp 97)⟩,
    ⟨some 99, some (95, false), .bin .gtr 2 (.tmp 98) (.const (.int .i64 1000000))⟩,
    ⟨some 100, none, .pick (.tmp 95) (.const (.bool true)) (.tmp 99)⟩,
    ⟨some 3, none, .mov (.tmp 100)⟩]
def R219_52 : RC := .reg [⟨some 101, none, .mov (.tmp 0)⟩,
    ⟨some 102, none, .nilck (.tmp 101)⟩,
    ⟨some 103, none, .faddr 0 (.tmp 102)⟩,
    ⟨some 104, none, .load1 (.tmp 103)⟩,
    ⟨some 6, none, .mov (.tmp 104)⟩]
def R219_53 : RC := .reg [⟨some 105, none, .mov (.tmp 6)⟩,
    ⟨some 106, none, .bin .and 21 (.tmp 105) (.const (.int .i32 4))⟩,
    ⟨some 107, none, .bin .neq 21 (.tmp 106) (.const (.int .i32 0))⟩]
def R219_54 : RC := .reg [⟨some 108, none, .mov (.tmp 6)⟩,
    ⟨some 109, none, .bin .and 21 (.tmp 108) (.const (.int .i32 3))⟩,
    ⟨some 110, none, .bin .neq 21 (.tmp 109) (.const (.int .i32 0))⟩,
    ⟨some 111, none, .mov (.tmp 110)⟩,
    ⟨some 112, some (111, false), .mov (.tmp 6)⟩,
    ⟨some 113, some (111, false), .bin .shr 21 (.tmp 112) (.const (.int .u64 3))⟩,
    ⟨some 114, some (111, false), .bin .eql 21 (.tmp 113) (.const (.int .i32 0))⟩,
    ⟨some 115, none, .pick (.tmp 111) (.const (.bool true)) (.tmp 114)⟩]
def R219_55 : RC := .reg [⟨some 116, none, .ext 224 [(.const (.string ⟨#[115, 121, 110, 99, 58, 32, 105, 110, 99, 111, 110, 115, 105, 115, 116, 101, 110, 116, 32, 109, 117, 116, 101, 120, 32, 115, 116, 97, 116, 101]⟩))]⟩]
def R219_56 : RC := .cond (.tmp 115) R219_55 (.skip)
def R219_57 : RC := .seq R219_54 R219_56
def R219_58 : RC := .reg [⟨some 9, none, .mov (.const (.int .i32 (-7)))⟩]
def R219_59 : RC := .reg [⟨some 117, none, .mov (.tmp 3)⟩,
    ⟨some 118, none, .un .not (.tmp 117)⟩,
    ⟨some 119, none, .mov (.tmp 118)⟩,
    ⟨some 120, some (119, false), .mov (.tmp 6)⟩,
    ⟨some 121, some (119, false), .bin .shr 21 (.tmp 120) (.const (.int .u64 3))⟩,
    ⟨some 122, some (119, false), .bin .eql 21 (.tmp 121) (.const (.int .i32 1))⟩,
    ⟨some 123, none, .pick (.tmp 119) (.const (.bool true)) (.tmp 122)⟩]
def R219_60 : RC := .reg [⟨some 124, none, .mov (.tmp 9)⟩,
    ⟨some 125, none, .bin .sub 21 (.tmp 124) (.const (.int .i32 4))⟩,
    ⟨some 9, none, .mov (.tmp 125)⟩]
def R219_61 : RC := .cond (.tmp 123) R219_60 (.skip)
def R219_62 : RC := .seq R219_59 R219_61
def R219_63 : RC := .reg [⟨some 126, none, .mov (.tmp 0)⟩,
    ⟨some 127, none, .nilck (.tmp 126)⟩,
    ⟨some 128, none, .faddr 0 (.tmp 127)⟩,
    ⟨some 129, none, .mov (.tmp 9)⟩,
    ⟨some 130, none, .ext 209 [(.tmp 128), (.tmp 129)]⟩]
def R219_64 : RC := .seq R219_63 (.exit 0)
def R219_65 : RC := .seq R219_62 R219_64
def R219_66 : RC := .seq R219_58 R219_65
def R219_67 : RC := .seq R219_57 R219_66
def R219_68 : RC := .cond (.tmp 107) R219_67 (.skip)
def R219_69 : RC := .seq R219_53 R219_68
def R219_70 : RC := .reg [⟨some 4, none, .mov (.const (.bool true))⟩]
def R219_71 : RC := .reg [⟨some 5, none, .mov (.const (.int .i64 0))⟩]
def R219_72 : RC := .seq R219_70 R219_71
def R219_73 : RC := .seq R219_69 R219_72
def R219_74 : RC := .seq R219_52 R219_73
def R219_75 : RC := .seq R219_51 R219_74
def R219_76 : RC := .seq R219_50 R219_75
def R219_77 : RC := .seq R219_49 R219_76
def R219_78 : RC := .seq R219_45 R219_77
def R219_79 : RC := .seq R219_44 R219_78
end Go.Proofs.YtbmncepaajkngaaGreat
