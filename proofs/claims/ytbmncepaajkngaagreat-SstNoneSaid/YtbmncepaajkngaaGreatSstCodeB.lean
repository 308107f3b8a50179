/- The code of functions, their operations looked up (printed by a program of this work), and that it is so. -/
import Derived.Test.YtbmncepaajkngaaGreatSstCodeA
import Derived.KernelRfl
namespace Go.Proofs.YtbmncepaajkngaaGreat
open Go.Lx
set_option maxRecDepth 100000
-- 145: lectern/block.read
def R145_0 : RC := .reg [⟨some 2, none, .mov (.const (.slice none 0 0))⟩,
    ⟨some 3, none, .mov (.const (.slice none 0 0))⟩]
def R145_1 : RC := .reg [⟨some 22, none, .mov (.tmp 0)⟩,
    ⟨some 23, none, .lenS (.tmp 22)⟩,
    ⟨some 24, none, .bin .leq 3 (.tmp 23) (.const (.int .i64 1048576))⟩,
    ⟨some 25, none, .call 135 [(.tmp 24), (.const (.int .i64 2))]⟩]
def R145_2 : RC := .reg [⟨some 26, none, .mov (.tmp 0)⟩,
    ⟨some 27, none, .lenS (.tmp 26)⟩,
    ⟨some 28, none, .bin .geq 3 (.tmp 27) (.const (.int .i64 4))⟩,
    ⟨some 29, none, .call 135 [(.tmp 28), (.const (.int .i64 201))]⟩]
def R145_3 : RC := .reg [⟨some 31, none, .mov (.tmp 0)⟩,
    ⟨some 32, none, .mov (.tmp 0)⟩,
    ⟨some 33, none, .lenS (.tmp 32)⟩,
    ⟨some 34, none, .bin .sub 3 (.tmp 33) (.const (.int .i64 4))⟩,
    ⟨some 35, none, .slcL 1 (.tmp 31) (some (.tmp 34)) none none⟩,
    ⟨some 36, none, .call 163 [(.tmp 35), (.const (.int .i64 4))]⟩,
    ⟨some 30, none, .mov (.tmp 36)⟩,
    ⟨some 37, none, .extr (.tmp 30) 0⟩,
    ⟨some 38, none, .extr (.tmp 30) 1⟩,
    ⟨some 39, none, .extr (.tmp 30) 2⟩,
    ⟨some 4, none, .mov (.tmp 37)⟩,
    ⟨some 5, none, .mov (.tmp 38)⟩,
    ⟨some 6, none, .mov (.tmp 39)⟩]
def R145_4 : RC := .reg [⟨some 40, none, .mov (.tmp 4)⟩,
    ⟨some 41, none, .mov (.tmp 0)⟩,
    ⟨some 42, none, .lenS (.tmp 41)⟩,
    ⟨some 43, none, .bin .sub 3 (.tmp 42) (.const (.int .i64 4))⟩,
    ⟨some 44, none, .cvInt .u64 (.tmp 43)⟩,
    ⟨some 45, none, .bin .quo 200 (.tmp 44) (.const (.int .u64 4))⟩,
    ⟨some 46, none, .bin .leq 200 (.tmp 40) (.tmp 45)⟩,
    ⟨some 47, none, .call 135 [(.tmp 46), (.const (.int .i64 201))]⟩]
def R145_5 : RC := .reg [⟨some 48, none, .mov (.tmp 0)⟩,
    ⟨some 49, none, .lenS (.tmp 48)⟩,
    ⟨some 50, none, .bin .sub 3 (.tmp 49) (.const (.int .i64 4))⟩,
    ⟨some 51, none, .mov (.tmp 4)⟩,
    ⟨some 52, none, .cvInt .i64 (.tmp 51)⟩,
    ⟨some 53, none, .bin .mul 3 (.const (.int .i64 4)) (.tmp 52)⟩,
    ⟨some 54, none, .bin .sub 3 (.tmp 50) (.tmp 53)⟩,
    ⟨some 7, none, .mov (.tmp 54)⟩]
def R145_6 : RC := .reg [⟨some 8, none, .mov (.const (.slice none 0 0))⟩]
def R145_7 : RC := .reg [⟨some 55, none, .mov (.tmp 4)⟩,
    ⟨some 56, none, .cvInt .i64 (.tmp 55)⟩,
    ⟨some 57, none, .mov (.const (.int .i64 0))⟩]
def R145_8 : RC := .reg [⟨some 58, none, .bin .lss 3 (.tmp 57) (.tmp 56)⟩]
def R145_9 : RC := .cond (.tmp 58) (.skip) (.exit 0)
def R145_10 : RC := .reg [⟨some 59, none, .mov (.tmp 57)⟩,
    ⟨some 9, none, .mov (.tmp 59)⟩]
def R145_11 : RC := .reg [⟨some 61, none, .mov (.tmp 0)⟩,
    ⟨some 62, none, .mov (.tmp 7)⟩,
    ⟨some 63, none, .mov (.tmp 9)⟩,
    ⟨some 64, none, .bin .mul 3 (.const (.int .i64 4)) (.tmp 63)⟩,
    ⟨some 65, none, .bin .add 3 (.tmp 62) (.tmp 64)⟩,
    ⟨some 66, none, .slcL 1 (.tmp 61) (some (.tmp 65)) none none⟩,
    ⟨some 67, none, .call 163 [(.tmp 66), (.const (.int .i64 4))]⟩,
    ⟨some 60, none, .mov (.tmp 67)⟩,
    ⟨some 68, none, .extr (.tmp 60) 0⟩,
    ⟨some 69, none, .extr (.tmp 60) 1⟩,
    ⟨some 70, none, .extr (.tmp 60) 2⟩,
    ⟨some 10, none, .mov (.tmp 68)⟩,
    ⟨some 11, none, .mov (.tmp 69)⟩,
    ⟨some 12, none, .mov (.tmp 70)⟩]
def R145_12 : RC := .reg [⟨some 71, none, .mov (.tmp 8)⟩,
    ⟨some 72, none, .mov (.tmp 10)⟩,
    ⟨some 73, none, .cvInt .i64 (.tmp 72)⟩,
    ⟨some 74, none, .mkSl 3 1 1 #[.int .i64 0] [(0, (.tmp 73))]⟩,
    ⟨some 75, none, .app 3 1 8 (.int .i64 0) (.tmp 71) (.tmp 74)⟩,
    ⟨some 8, none, .mov (.tmp 75)⟩]
def R145_13 : RC := .seq R145_11 R145_12
def R145_14 : RC := .seq R145_10 R145_13
def R145_15 : RC := .block 1 R145_14
def R145_16 : RC := .reg [⟨some 76, none, .bin .add 3 (.tmp 57) (.const (.int .i64 1))⟩,
    ⟨some 57, none, .mov (.tmp 76)⟩]
def R145_17 : RC := .seq R145_15 R145_16
def R145_18 : RC := .seq R145_9 R145_17
def R145_19 : RC := .seq R145_8 R145_18
def R145_20 : RC := .loop R145_19
def R145_21 : RC := .block 0 R145_20
def R145_22 : RC := .seq R145_7 R145_21
def R145_23 : RC := .reg [⟨some 77, none, .mov (.tmp 0)⟩,
    ⟨some 78, none, .mov (.tmp 7)⟩,
    ⟨some 79, none, .slcL 1 (.tmp 77) none (some (.tmp 78)) none⟩,
    ⟨some 80, none, .call 109 [(.tmp 79)]⟩,
    ⟨some 13, none, .mov (.tmp 80)⟩]
def R145_24 : RC := .reg [⟨some 14, none, .mov (.const (.slice none 0 0))⟩]
def R145_25 : RC := .reg [⟨some 15, none, .mov (.const (.slice none 0 0))⟩]
def R145_26 : RC := .reg [⟨some 81, none, .mov (.tmp 13)⟩,
    ⟨some 82, none, .call 113 [(.tmp 81)]⟩,
    ⟨some 83, none, .mov (.tmp 7)⟩,
    ⟨some 84, none, .bin .lss 3 (.tmp 82) (.tmp 83)⟩]
def R145_27 : RC := .cond (.tmp 84) (.skip) (.exit 2)
def R145_28 : RC := .seq R145_26 R145_27
def R145_29 : RC := .reg [⟨some 85, none, .mov (.tmp 13)⟩,
    ⟨some 86, none, .call 113 [(.tmp 85)]⟩,
    ⟨some 87, none, .build [(0, 1), (1, 2), (3, 1), (4, 1)] #[.int .i64 0, .slice none 0 0, .slice none 0 0, .int .i64 0, .int .i64 0] [(0, (.tmp 86))]⟩,
    ⟨some 16, none, .newv 212 (.agg #[.int .i64 0, .slice none 0 0, .slice none 0 0, .int .i64 0, .int .i64 0])⟩,
    ⟨none, none, .store 5 (.tmp 16) (.tmp 87)⟩]
def R145_30 : RC := .reg [⟨some 88, none, .mov (.tmp 13)⟩,
    ⟨some 89, none, .call 111 [(.tmp 88)]⟩,
    ⟨some 90, none, .mov (.tmp 13)⟩,
    ⟨some 91, none, .call 111 [(.tmp 90)]⟩,
    ⟨some 92, none, .mov (.tmp 13)⟩,
    ⟨some 93, none, .call 111 [(.tmp 92)]⟩,
    ⟨some 17, none, .mov (.tmp 89)⟩,
    ⟨some 18, none, .mov (.tmp 91)⟩,
    ⟨some 19, none, .mov (.tmp 93)⟩]
def R145_31 : RC := .reg [⟨some 94, none, .mov (.tmp 13)⟩,
    ⟨some 95, none, .call 112 [(.tmp 94)]⟩,
    ⟨some 96, none, .bin .eql 59 (.tmp 95) (.const (.int .i64 0))⟩,
    ⟨some 97, none, .mov (.tmp 96)⟩,
    ⟨some 98, some (97, true), .mov (.tmp 17)⟩,
    ⟨some 99, some (97, true), .mov (.tmp 15)⟩,
    ⟨some 100, some (97, true), .lenS (.tmp 99)⟩,
    ⟨some 101, some (97, true), .cvInt .u64 (.tmp 100)⟩,
    ⟨some 102, some (97, true), .bin .leq 200 (.tmp 98) (.tmp 101)⟩,
    ⟨some 103, none, .pick (.tmp 97) (.tmp 102) (.const (.bool false))⟩,
    ⟨some 104, none, .mov (.tmp 103)⟩,
    ⟨some 105, some (104, true), .mov (.tmp 18)⟩,
    ⟨some 106, some (104, true), .bin .leq 200 (.tmp 105) (.const (.int .u64 1048576))⟩,
    ⟨some 107, none, .pick (.tmp 104) (.tmp 106) (.const (.bool false))⟩,
    ⟨some 108, none, .mov (.tmp 107)⟩,
    ⟨some 109, some (108, true), .mov (.tmp 19)⟩,
    ⟨some 110, some (108, true), .bin .leq 200 (.tmp 109) (.const (.int .u64 1048576))⟩,
    ⟨some 111, none, .pick (.tmp 108) (.tmp 110) (.const (.bool false))⟩,
    ⟨some 112, none, .call 135 [(.tmp 111), (.const (.int .i64 201))]⟩]
def R145_32 : RC := .reg [⟨some 113, none, .mov (.tmp 13)⟩,
    ⟨some 114, none, .mov (.tmp 18)⟩,
    ⟨some 115, none, .cvInt .i64 (.tmp 114)⟩,
    ⟨some 116, none, .call 164 [(.tmp 113), (.tmp 115)]⟩,
    ⟨some 117, none, .mov (.tmp 13)⟩,
    ⟨some 118, none, .mov (.tmp 19)⟩,
    ⟨some 119, none, .cvInt .i64 (.tmp 118)⟩,
    ⟨some 120, none, .call 164 [(.tmp 117), (.tmp 119)]⟩,
    ⟨some 20, none, .mov (.tmp 116)⟩,
    ⟨some 21, none, .mov (.tmp 120)⟩]
def R145_33 : RC := .reg [⟨some 121, none, .mov (.tmp 13)⟩,
    ⟨some 122, none, .call 112 [(.tmp 121)]⟩,
    ⟨some 123, none, .bin .eql 59 (.tmp 122) (.const (.int .i64 0))⟩,
    ⟨some 124, none, .call 135 [(.tmp 123), (.const (.int .i64 201))]⟩]
def R145_34 : RC := .reg [⟨some 125, none, .mov (.tmp 17)⟩,
    ⟨some 126, none, .cvInt .i64 (.tmp 125)⟩,
    ⟨some 127, none, .faddr 3 (.tmp 16)⟩,
    ⟨none, none, .store 1 (.tmp 127) (.tmp 126)⟩]
def R145_35 : RC := .reg [⟨some 128, none, .mov (.tmp 15)⟩,
    ⟨some 129, none, .mov (.tmp 17)⟩,
    ⟨some 130, none, .slcL 1 (.tmp 128) none (some (.tmp 129)) none⟩,
    ⟨some 131, none, .call 141 [(.tmp 130)]⟩,
    ⟨some 132, none, .mov (.tmp 20)⟩,
    ⟨some 133, none, .app 5 1 1 (.int .u8 0) (.tmp 131) (.tmp 132)⟩,
    ⟨some 134, none, .mov (.tmp 21)⟩,
    ⟨some 135, none, .build [(0, 1), (1, 1)] #[.slice none 0 0, .slice none 0 0] [(0, (.tmp 133)), (1, (.tmp 134))]⟩,
    ⟨some 136, none, .faddr 1 (.tmp 16)⟩,
    ⟨none, none, .store 2 (.tmp 136) (.tmp 135)⟩]
def R145_36 : RC := .reg [⟨some 137, none, .mov (.tmp 15)⟩,
    ⟨some 138, none, .faddr 1 (.tmp 16)⟩,
    ⟨some 139, none, .faddr 0 (.tmp 138)⟩,
    ⟨some 140, none, .load1 (.tmp 139)⟩,
    ⟨some 141, none, .call 137 [(.tmp 137), (.tmp 140)]⟩,
    ⟨some 142, none, .faddr 4 (.tmp 16)⟩,
    ⟨none, none, .store 1 (.tmp 142) (.tmp 141)⟩]
def R145_37 : RC := .reg [⟨some 143, none, .mov (.tmp 14)⟩,
    ⟨some 144, none, .lenS (.tmp 143)⟩,
    ⟨some 145, none, .bin .eql 3 (.tmp 144) (.const (.int .i64 0))⟩,
    ⟨some 146, none, .mov (.tmp 145)⟩,
    ⟨some 147, some (146, false), .mov (.tmp 15)⟩,
    ⟨some 148, some (146, false), .faddr 1 (.tmp 16)⟩,
    ⟨some 149, some (146, false), .faddr 0 (.tmp 148)⟩,
    ⟨some 150, some (146, false), .load1 (.tmp 149)⟩,
    ⟨some 151, some (146, false), .call 78 [(.tmp 147), (.tmp 150)]⟩,
    ⟨some 152, some (146, false), .bin .lss 3 (.tmp 151) (.const (.int .i64 0))⟩,
    ⟨some 153, none, .pick (.tmp 146) (.const (.bool true)) (.tmp 152)⟩,
    ⟨some 154, none, .call 135 [(.tmp 153), (.const (.int .i64 201))]⟩]
def R145_38 : RC := .reg [⟨some 155, none, .mov (.tmp 14)⟩,
    ⟨some 156, none, .loadN 5 (.tmp 16)⟩,
    ⟨some 157, none, .mkSl 212 5 1 #[.int .i64 0, .slice none 0 0, .slice none 0 0, .int .i64 0, .int .i64 0] [(0, (.tmp 156))]⟩,
    ⟨some 158, none, .app 212 5 72 (.agg #[.int .i64 0, .slice none 0 0, .slice none 0 0, .int .i64 0, .int .i64 0]) (.tmp 155) (.tmp 157)⟩,
    ⟨some 14, none, .mov (.tmp 158)⟩]
def R145_39 : RC := .reg [⟨some 159, none, .faddr 1 (.tmp 16)⟩,
    ⟨some 160, none, .faddr 0 (.tmp 159)⟩,
    ⟨some 161, none, .load1 (.tmp 160)⟩,
    ⟨some 15, none, .mov (.tmp 161)⟩]
def R145_40 : RC := .seq R145_38 R145_39
def R145_41 : RC := .seq R145_37 R145_40
def R145_42 : RC := .seq R145_36 R145_41
def R145_43 : RC := .seq R145_35 R145_42
def R145_44 : RC := .seq R145_34 R145_43
def R145_45 : RC := .seq R145_33 R145_44
def R145_46 : RC := .seq R145_32 R145_45
def R145_47 : RC := .seq R145_31 R145_46
def R145_48 : RC := .seq R145_30 R145_47
def R145_49 : RC := .seq R145_29 R145_48
def R145_50 : RC := .block 3 R145_49
def R145_51 : RC := .seq R145_28 R145_50
def R145_52 : RC := .loop R145_51
def R145_53 : RC := .block 2 R145_52
def R145_54 : RC := .reg [⟨some 162, none, .mov (.tmp 14)⟩,
    ⟨some 163, none, .mov (.tmp 8)⟩,
    ⟨some 2, none, .mov (.tmp 162)⟩,
    ⟨some 3, none, .mov (.tmp 163)⟩]
def R145_55 : RC := .seq R145_54 (.ret)
def R145_56 : RC := .seq R145_53 R145_55
def R145_57 : RC := .seq R145_25 R145_56
def R145_58 : RC := .seq R145_24 R145_57
def R145_59 : RC := .seq R145_23 R145_58
def R145_60 : RC := .seq R145_22 R145_59
def R145_61 : RC := .seq R145_6 R145_60
def R145_62 : RC := .seq R145_5 R145_61
def R145_63 : RC := .seq R145_4 R145_62
def R145_64 : RC := .seq R145_3 R145_63
def R145_65 : RC := .seq R145_2 R145_64
def R145_66 : RC := .seq R145_1 R145_65
def R145_67 : RC := .seq R145_0 R145_66

theorem fn145 : FnOK Tryz.prog 145 ⟨R145_67, [.tmp 2, .tmp 3], 164⟩ :=
  ⟨Tryz.f145, Tryz.f145.body.getD .skip, Tryz.func145, by kernel_rfl, by kernel_rfl, by kernel_rfl, by kernel_rfl, by kernel_rfl⟩
-- 146: lectern/block.whole
def R146_0 : RC := .reg [⟨some 2, none, .box 208 (.tmp 0)⟩,
    ⟨some 3, none, .box 69 (.tmp 1)⟩,
    ⟨some 4, none, .mov (.const (.bool false))⟩]
def R146_1 : RC := .reg [⟨some 9, none, .load1 (.tmp 2)⟩,
    ⟨some 10, none, .lenS (.tmp 9)⟩,
    ⟨some 11, none, .bin .eql 3 (.tmp 10) (.const (.int .i64 0))⟩,
    ⟨some 12, none, .mov (.tmp 11)⟩,
    ⟨some 13, some (12, false), .load1 (.tmp 3)⟩,
    ⟨some 14, some (12, false), .lenS (.tmp 13)⟩,
    ⟨some 15, some (12, false), .bin .eql 3 (.tmp 14) (.const (.int .i64 0))⟩,
    ⟨some 16, none, .pick (.tmp 12) (.const (.bool true)) (.tmp 15)⟩]
def R146_2 : RC := .reg [⟨some 17, none, .load1 (.tmp 2)⟩,
    ⟨some 18, none, .lenS (.tmp 17)⟩,
    ⟨some 19, none, .bin .eql 3 (.tmp 18) (.const (.int .i64 0))⟩,
    ⟨some 20, none, .mov (.tmp 19)⟩,
    ⟨some 21, some (20, true), .load1 (.tmp 3)⟩,
    ⟨some 22, some (20, true), .lenS (.tmp 21)⟩,
    ⟨some 23, some (20, true), .bin .eql 3 (.tmp 22) (.const (.int .i64 0))⟩,
    ⟨some 24, none, .pick (.tmp 20) (.tmp 23) (.const (.bool false))⟩,
    ⟨some 4, none, .mov (.tmp 24)⟩]
def R146_3 : RC := .seq R146_2 (.ret)
def R146_4 : RC := .cond (.tmp 16) R146_3 (.skip)
def R146_5 : RC := .seq R146_1 R146_4
def R146_6 : RC := .reg [⟨some 25, none, .mkFn (.func 165) [] [(.tmp 2), (.tmp 3)]⟩,
    ⟨some 5, none, .mov (.tmp 25)⟩]
def R146_7 : RC := .reg [⟨some 26, none, .load1 (.tmp 2)⟩,
    ⟨some 27, none, .lenS (.tmp 26)⟩,
    ⟨some 6, none, .mov (.tmp 27)⟩]
def R146_8 : RC := .reg [⟨some 28, none, .load1 (.tmp 3)⟩,
    ⟨some 29, none, .lenS (.tmp 28)⟩,
    ⟨some 30, none, .bin .gtr 3 (.tmp 29) (.const (.int .i64 1))⟩]
def R146_9 : RC := .reg [⟨some 31, none, .load1 (.tmp 2)⟩,
    ⟨some 32, none, .lenS (.tmp 31)⟩,
    ⟨some 33, none, .mov (.const (.int .i64 0))⟩]
def R146_10 : RC := .reg [⟨some 34, none, .bin .lss 3 (.tmp 33) (.tmp 32)⟩]
def R146_11 : RC := .cond (.tmp 34) (.skip) (.exit 0)
def R146_12 : RC := .reg [⟨some 35, none, .mov (.tmp 33)⟩,
    ⟨some 36, none, .ixS 5 (.tmp 31) (.tmp 33)⟩,
    ⟨some 37, none, .loadN 5 (.tmp 36)⟩,
    ⟨some 8, none, .newv 212 (.agg #[.int .i64 0, .slice none 0 0, .slice none 0 0, .int .i64 0, .int .i64 0])⟩,
    ⟨some 7, none, .mov (.tmp 35)⟩,
    ⟨none, none, .store 5 (.tmp 8) (.tmp 37)⟩]
def R146_13 : RC := .draw [⟨some 38, none, .faddr 0 (.tmp 8)⟩,
    ⟨some 39, none, .load1 (.tmp 38)⟩,
    ⟨some 40, none, .load1 (.tmp 3)⟩,
    ⟨some 41, none, .ixS 1 (.tmp 40) (.const (.int .i64 1))⟩,
    ⟨some 42, none, .load1 (.tmp 41)⟩,
    ⟨some 43, none, .bin .eql 3 (.tmp 39) (.tmp 42)⟩] [[⟨0, ⟨some 38, none, .faddr 0 (.tmp 8)⟩, false, []⟩,
    ⟨1, ⟨some 39, none, .load1 (.tmp 38)⟩, true, []⟩,
    ⟨2, ⟨some 40, none, .load1 (.tmp 3)⟩, true, []⟩,
    ⟨3, ⟨some 41, none, .ixS 1 (.tmp 40) (.const (.int .i64 1))⟩, false, []⟩,
    ⟨4, ⟨some 42, none, .load1 (.tmp 41)⟩, true, []⟩],
   [⟨5, ⟨some 43, none, .bin .eql 3 (.tmp 39) (.tmp 42)⟩, false, []⟩]]
def R146_14 : RC := .reg [⟨some 44, none, .mov (.tmp 7)⟩,
    ⟨some 6, none, .mov (.tmp 44)⟩]
def R146_15 : RC := .cond (.tmp 43) R146_14 (.skip)
def R146_16 : RC := .seq R146_13 R146_15
def R146_17 : RC := .seq R146_12 R146_16
def R146_18 : RC := .block 1 R146_17
def R146_19 : RC := .reg [⟨some 45, none, .bin .add 3 (.tmp 33) (.const (.int .i64 1))⟩,
    ⟨some 33, none, .mov (.tmp 45)⟩]
def R146_20 : RC := .seq R146_18 R146_19
def R146_21 : RC := .seq R146_11 R146_20
def R146_22 : RC := .seq R146_10 R146_21
def R146_23 : RC := .loop R146_22
def R146_24 : RC := .block 0 R146_23
def R146_25 : RC := .seq R146_9 R146_24
def R146_26 : RC := .cond (.tmp 30) R146_25 (.skip)
def R146_27 : RC := .seq R146_8 R146_26
def R146_28 : RC := .reg [⟨some 46, none, .mov (.tmp 6)⟩,
    ⟨some 47, none, .bin .geq 3 (.tmp 46) (.const (.int .i64 1))⟩,
    ⟨some 48, none, .mov (.tmp 47)⟩,
    ⟨some 49, some (48, true), .mov (.tmp 6)⟩,
    ⟨some 50, some (48, true), .bin .leq 3 (.tmp 49) (.const (.int .i64 1024))⟩,
    ⟨some 51, none, .pick (.tmp 48) (.tmp 50) (.const (.bool false))⟩,
    ⟨some 52, none, .mov (.tmp 51)⟩,
    ⟨some 53, some (52, true), .mov (.tmp 5)⟩,
    ⟨some 54, some (52, true), .mov (.tmp 6)⟩,
    ⟨some 55, some (52, true), .callV (.tmp 53) [(.tmp 54)]⟩,
    ⟨some 56, none, .pick (.tmp 52) (.tmp 55) (.const (.bool false))⟩,
    ⟨some 4, none, .mov (.tmp 56)⟩]
def R146_29 : RC := .seq R146_28 (.ret)
def R146_30 : RC := .seq R146_27 R146_29
def R146_31 : RC := .seq R146_7 R146_30
def R146_32 : RC := .seq R146_6 R146_31
def R146_33 : RC := .seq R146_5 R146_32
def R146_34 : RC := .seq R146_0 R146_33

theorem fn146 : FnOK Tryz.prog 146 ⟨R146_34, [.tmp 4], 57⟩ :=
  ⟨Tryz.f146, Tryz.f146.body.getD .skip, Tryz.func146, by kernel_rfl, by kernel_rfl, by kernel_rfl, by kernel_rfl, by kernel_rfl⟩
-- 154: lectern/ikey.decode
def R154_0 : RC := .reg [⟨some 2, none, .newv 85 (.agg #[.int .i64 0, .slice none 0 0, .int .i64 0, .int .i64 0, .string ⟨#[]⟩])⟩]
def R154_1 : RC := .reg [⟨some 9, none, .mov (.tmp 0)⟩,
    ⟨some 10, none, .build [(0, 1)] #[.slice none 0 0] [(0, (.tmp 9))]⟩,
    ⟨some 11, none, .box 261 (.tmp 10)⟩,
    ⟨some 3, none, .mov (.tmp 11)⟩]
def R154_2 : RC := .reg [⟨some 12, none, .mov (.tmp 3)⟩,
    ⟨some 13, none, .mkFn (.func 170) [(.tmp 12)] []⟩,
    ⟨some 4, none, .mov (.tmp 13)⟩]
def R154_3 : RC := .reg [⟨some 14, none, .mov (.tmp 4)⟩,
    ⟨some 15, none, .callV (.tmp 14) [(.const (.int .i64 2))]⟩,
    ⟨some 16, none, .build [(0, 1), (1, 1), (2, 1), (3, 1), (4, 1)] #[.int .i64 0, .slice none 0 0, .int .i64 0, .int .i64 0, .string ⟨#[]⟩] [(0, (.tmp 15))]⟩,
    ⟨some 5, none, .newv 85 (.agg #[.int .i64 0, .slice none 0 0, .int .i64 0, .int .i64 0, .string ⟨#[]⟩])⟩,
    ⟨none, none, .store 5 (.tmp 5) (.tmp 16)⟩]
def R154_4 : RC := .reg [⟨some 18, none, .mov (.tmp 3)⟩,
    ⟨some 19, none, .nilck (.tmp 18)⟩,
    ⟨some 20, none, .faddr 0 (.tmp 19)⟩,
    ⟨some 21, none, .load1 (.tmp 20)⟩,
    ⟨some 22, none, .call 171 [(.tmp 21)]⟩,
    ⟨some 17, none, .mov (.tmp 22)⟩,
    ⟨some 23, none, .extr (.tmp 17) 0⟩,
    ⟨some 24, none, .extr (.tmp 17) 1⟩,
    ⟨some 6, none, .mov (.tmp 23)⟩,
    ⟨some 7, none, .mov (.tmp 24)⟩]
def R154_5 : RC := .reg [⟨some 25, none, .mov (.tmp 3)⟩,
    ⟨some 26, none, .mov (.tmp 3)⟩,
    ⟨some 27, none, .nilck (.tmp 26)⟩,
    ⟨some 28, none, .faddr 0 (.tmp 27)⟩,
    ⟨some 29, none, .load1 (.tmp 28)⟩,
    ⟨some 30, none, .mov (.tmp 7)⟩,
    ⟨some 31, none, .slcL 1 (.tmp 29) (some (.tmp 30)) none none⟩,
    ⟨some 32, none, .nilck (.tmp 25)⟩,
    ⟨some 33, none, .faddr 0 (.tmp 32)⟩,
    ⟨none, none, .store 1 (.tmp 33) (.tmp 31)⟩]
def R154_6 : RC := .reg [⟨some 34, none, .mov (.tmp 6)⟩,
    ⟨some 35, none, .faddr 1 (.tmp 5)⟩,
    ⟨none, none, .store 1 (.tmp 35) (.tmp 34)⟩]
def R154_7 : RC := .reg [⟨some 36, none, .mov (.tmp 4)⟩,
    ⟨some 37, none, .callV (.tmp 36) [(.const (.int .i64 6))]⟩,
    ⟨some 38, none, .bin .sub 3 (.const (.int .i64 281474976710655)) (.tmp 37)⟩,
    ⟨some 39, none, .faddr 2 (.tmp 5)⟩,
    ⟨none, none, .store 1 (.tmp 39) (.tmp 38)⟩]
def R154_8 : RC := .reg [⟨some 40, none, .mov (.tmp 4)⟩,
    ⟨some 41, none, .callV (.tmp 40) [(.const (.int .i64 1))]⟩,
    ⟨some 8, none, .mov (.tmp 41)⟩]
def R154_9 : RC := .reg [⟨some 42, none, .mov (.tmp 8)⟩,
    ⟨some 43, none, .bin .leq 3 (.tmp 42) (.const (.int .i64 1))⟩,
    ⟨some 44, none, .call 172 [(.tmp 43), (.const (.int .i64 160))]⟩]
def R154_10 : RC := .reg [⟨some 45, none, .mov (.tmp 8)⟩,
    ⟨some 46, none, .bin .sub 3 (.const (.int .i64 1)) (.tmp 45)⟩,
    ⟨some 47, none, .faddr 3 (.tmp 5)⟩,
    ⟨none, none, .store 1 (.tmp 47) (.tmp 46)⟩]
def R154_11 : RC := .reg [⟨some 48, none, .faddr 1 (.tmp 5)⟩,
    ⟨some 49, none, .load1 (.tmp 48)⟩,
    ⟨some 50, none, .lenS (.tmp 49)⟩,
    ⟨some 51, none, .bin .leq 3 (.tmp 50) (.const (.int .i64 65536))⟩,
    ⟨some 52, none, .mov (.tmp 51)⟩,
    ⟨some 53, some (52, true), .mov (.tmp 3)⟩,
    ⟨some 54, some (52, true), .nilck (.tmp 53)⟩,
    ⟨some 55, some (52, true), .faddr 0 (.tmp 54)⟩,
    ⟨some 56, some (52, true), .load1 (.tmp 55)⟩,
    ⟨some 57, some (52, true), .lenS (.tmp 56)⟩,
    ⟨some 58, some (52, true), .bin .leq 3 (.tmp 57) (.const (.int .i64 1024))⟩,
    ⟨some 59, none, .pick (.tmp 52) (.tmp 58) (.const (.bool false))⟩,
    ⟨some 60, none, .call 172 [(.tmp 59), (.const (.int .i64 2))]⟩]
def R154_12 : RC := .reg [⟨some 61, none, .mov (.tmp 3)⟩,
    ⟨some 62, none, .nilck (.tmp 61)⟩,
    ⟨some 63, none, .faddr 0 (.tmp 62)⟩,
    ⟨some 64, none, .load1 (.tmp 63)⟩,
    ⟨some 65, none, .cvB2S (.tmp 64)⟩,
    ⟨some 66, none, .faddr 4 (.tmp 5)⟩,
    ⟨none, none, .store 1 (.tmp 66) (.tmp 65)⟩]
def R154_13 : RC := .reg [⟨some 67, none, .loadN 5 (.tmp 5)⟩,
    ⟨none, none, .store 5 (.tmp 2) (.tmp 67)⟩]
def R154_14 : RC := .seq R154_13 (.ret)
def R154_15 : RC := .seq R154_12 R154_14
def R154_16 : RC := .seq R154_11 R154_15
def R154_17 : RC := .seq R154_10 R154_16
def R154_18 : RC := .seq R154_9 R154_17
def R154_19 : RC := .seq R154_8 R154_18
def R154_20 : RC := .seq R154_7 R154_19
def R154_21 : RC := .seq R154_6 R154_20
def R154_22 : RC := .seq R154_5 R154_21
def R154_23 : RC := .seq R154_4 R154_22
def R154_24 : RC := .seq R154_3 R154_23
def R154_25 : RC := .seq R154_2 R154_24
def R154_26 : RC := .seq R154_1 R154_25
def R154_27 : RC := .seq R154_0 R154_26

theorem fn154 : FnOK Tryz.prog 154 ⟨R154_27, [.cellN 2 5], 68⟩ :=
  ⟨Tryz.f154, Tryz.f154.body.getD .skip, Tryz.func154, by kernel_rfl, by kernel_rfl, by kernel_rfl, by kernel_rfl, by kernel_rfl⟩
-- 169: lectern/ikey.guarded$1
def R169_0 : RC := .reg [⟨some 2, none, .bi .recover #[] 20 #[] []⟩,
    ⟨some 1, none, .mov (.tmp 2)⟩]
def R169_1 : RC := .reg [⟨some 3, none, .mov (.tmp 1)⟩,
    ⟨some 4, none, .eqI true (.tmp 3) (.const (.nilIface))⟩]
def R169_2 : RC := .reg [⟨some 5, none, .mov (.tmp 1)⟩,
    ⟨some 6, none, .tass (.tmp 5) 20 258 false⟩,
    ⟨some 7, none, .fld1 0 (.tmp 6)⟩,
    ⟨none, none, .store 1 (.tmp 0) (.tmp 7)⟩]
def R169_3 : RC := .cond (.tmp 4) R169_2 (.skip)
def R169_4 : RC := .seq R169_1 R169_3
def R169_5 : RC := .seq R169_0 R169_4

theorem fn169 : FnOK Tryz.prog 169 ⟨R169_5, [], 8⟩ :=
  ⟨Tryz.f169, Tryz.f169.body.getD .skip, Tryz.func169, by kernel_rfl, by kernel_rfl, by kernel_rfl, by kernel_rfl, by kernel_rfl⟩
-- 173: lectern/ikey.within[int]
def R173_0 : RC := .reg [⟨some 4, none, .mov (.const (.bool false))⟩]
def R173_1 : RC := .reg [⟨some 5, none, .mov (.const (.int .i64 0))⟩]
def R173_2 : RC := .reg [⟨some 6, none, .mov (.tmp 0)⟩,
    ⟨some 7, none, .mov (.tmp 5)⟩,
    ⟨some 8, none, .bin .geq 3 (.tmp 6) (.tmp 7)⟩,
    ⟨some 9, none, .mov (.tmp 8)⟩,
    ⟨some 10, some (9, true), .mov (.tmp 0)⟩,
    ⟨some 11, some (9, true), .mov (.tmp 1)⟩,
    ⟨some 12, some (9, true), .bin .leq 3 (.tmp 10) (.tmp 11)⟩,
    ⟨some 13, none, .pick (.tmp 9) (.tmp 12) (.const (.bool false))⟩,
    ⟨some 4, none, .mov (.tmp 13)⟩]
def R173_3 : RC := .seq R173_2 (.ret)
def R173_4 : RC := .seq R173_1 R173_3
def R173_5 : RC := .seq R173_0 R173_4

theorem fn173 : FnOK Tryz.prog 173 ⟨R173_5, [.tmp 4], 14⟩ :=
  ⟨Tryz.f173, Tryz.f173.body.getD .skip, Tryz.func173, by kernel_rfl, by kernel_rfl, by kernel_rfl, by kernel_rfl, by kernel_rfl⟩
-- 157: slices.All[[]lectern/api.Pair,lectern/api.Pair]$1
def R157_0 : RC := .reg [⟨some 5, none, .load1 (.tmp 1)⟩,
    ⟨some 6, none, .lenS (.tmp 5)⟩,
    ⟨some 7, none, .mov (.const (.int .i64 0))⟩]
def R157_1 : RC := .reg [⟨some 8, none, .bin .lss 3 (.tmp 7) (.tmp 6)⟩]
def R157_2 : RC := .cond (.tmp 8) (.skip) (.exit 0)
def R157_3 : RC := .reg [⟨some 9, none, .mov (.tmp 7)⟩,
    ⟨some 10, none, .ixS 2 (.tmp 5) (.tmp 7)⟩,
    ⟨some 11, none, .loadN 2 (.tmp 10)⟩,
    ⟨some 4, none, .newv 51 (.agg #[.slice none 0 0, .slice none 0 0])⟩,
    ⟨some 3, none, .mov (.tmp 9)⟩,
    ⟨none, none, .store 2 (.tmp 4) (.tmp 11)⟩]
def R157_4 : RC := .reg [⟨some 12, none, .mov (.tmp 0)⟩,
    ⟨some 13, none, .mov (.tmp 3)⟩,
    ⟨some 14, none, .loadN 2 (.tmp 4)⟩,
    ⟨some 15, none, .callV (.tmp 12) [(.tmp 13), (.tmp 14)]⟩,
    ⟨some 16, none, .un .not (.tmp 15)⟩]
def R157_5 : RC := .cond (.tmp 16) (.ret) (.skip)
def R157_6 : RC := .seq R157_4 R157_5
def R157_7 : RC := .seq R157_3 R157_6
def R157_8 : RC := .block 1 R157_7
def R157_9 : RC := .reg [⟨some 17, none, .bin .add 3 (.tmp 7) (.const (.int .i64 1))⟩,
    ⟨some 7, none, .mov (.tmp 17)⟩]
def R157_10 : RC := .seq R157_8 R157_9
def R157_11 : RC := .seq R157_2 R157_10
def R157_12 : RC := .seq R157_1 R157_11
def R157_13 : RC := .loop R157_12
def R157_14 : RC := .block 0 R157_13
def R157_15 : RC := .seq R157_0 R157_14

theorem fn157 : FnOK Tryz.prog 157 ⟨R157_15, [], 18⟩ :=
  ⟨Tryz.f157, Tryz.f157.body.getD .skip, Tryz.func157, by kernel_rfl, by kernel_rfl, by kernel_rfl, by kernel_rfl, by kernel_rfl⟩
-- 175: (*lectern/crc.Table).reckon
def R175_0 : RC := .reg [⟨some 5, none, .mov (.const (.int .i64 0))⟩]
def R175_1 : RC := .reg [⟨some 6, none, .bin .lss 3 (.tmp 5) (.const (.int .i64 256))⟩]
def R175_2 : RC := .cond (.tmp 6) (.skip) (.exit 0)
def R175_3 : RC := .reg [⟨some 7, none, .mov (.tmp 5)⟩,
    ⟨some 2, none, .mov (.tmp 7)⟩]
def R175_4 : RC := .reg [⟨some 8, none, .mov (.tmp 2)⟩,
    ⟨some 9, none, .cvInt .u32 (.tmp 8)⟩,
    ⟨some 3, none, .mov (.tmp 9)⟩]
def R175_5 : RC := .reg [⟨some 10, none, .mov (.const (.int .i64 0))⟩]
def R175_6 : RC := .reg [⟨some 11, none, .bin .lss 3 (.tmp 10) (.const (.int .i64 8))⟩]
def R175_7 : RC := .cond (.tmp 11) (.skip) (.exit 2)
def R175_8 : RC := .reg [⟨some 12, none, .mov (.tmp 3)⟩,
    ⟨some 13, none, .bin .and 142 (.tmp 12) (.const (.int .u32 1))⟩,
    ⟨some 4, none, .mov (.tmp 13)⟩]
def R175_9 : RC := .reg [⟨some 14, none, .mov (.tmp 3)⟩,
    ⟨some 15, none, .bin .shr 142 (.tmp 14) (.const (.int .u64 1))⟩,
    ⟨some 3, none, .mov (.tmp 15)⟩]
def R175_10 : RC := .reg [⟨some 16, none, .mov (.tmp 4)⟩,
    ⟨some 17, none, .bin .eql 142 (.tmp 16) (.const (.int .u32 1))⟩]
def R175_11 : RC := .reg [⟨some 18, none, .mov (.tmp 3)⟩,
    ⟨some 19, none, .bin .xor 142 (.tmp 18) (.const (.int .u32 2197175160))⟩,
    ⟨some 3, none, .mov (.tmp 19)⟩]
def R175_12 : RC := .cond (.tmp 17) R175_11 (.skip)
def R175_13 : RC := .seq R175_10 R175_12
def R175_14 : RC := .seq R175_9 R175_13
def R175_15 : RC := .seq R175_8 R175_14
def R175_16 : RC := .block 3 R175_15
def R175_17 : RC := .reg [⟨some 20, none, .bin .add 3 (.tmp 10) (.const (.int .i64 1))⟩,
    ⟨some 10, none, .mov (.tmp 20)⟩]
def R175_18 : RC := .seq R175_16 R175_17
def R175_19 : RC := .seq R175_7 R175_18
def R175_20 : RC := .seq R175_6 R175_19
def R175_21 : RC := .loop R175_20
def R175_22 : RC := .block 2 R175_21
def R175_23 : RC := .seq R175_5 R175_22
def R175_24 : RC := .reg [⟨some 21, none, .mov (.tmp 0)⟩,
    ⟨some 22, none, .mov (.tmp 2)⟩,
    ⟨some 23, none, .mov (.tmp 3)⟩,
    ⟨some 24, none, .nilck (.tmp 21)⟩,
    ⟨some 25, none, .faddr 5 (.tmp 24)⟩,
    ⟨some 26, none, .ixA 1 256 (.tmp 25) (.tmp 22)⟩,
    ⟨none, none, .store 1 (.tmp 26) (.tmp 23)⟩]
def R175_25 : RC := .seq R175_23 R175_24
def R175_26 : RC := .seq R175_4 R175_25
def R175_27 : RC := .seq R175_3 R175_26
def R175_28 : RC := .block 1 R175_27
def R175_29 : RC := .reg [⟨some 27, none, .bin .add 3 (.tmp 5) (.const (.int .i64 1))⟩,
    ⟨some 5, none, .mov (.tmp 27)⟩]
def R175_30 : RC := .seq R175_28 R175_29
def R175_31 : RC := .seq R175_2 R175_30
def R175_32 : RC := .seq R175_1 R175_31
def R175_33 : RC := .loop R175_32
def R175_34 : RC := .block 0 R175_33
def R175_35 : RC := .seq R175_0 R175_34
def R175_36 : RC := .reg [⟨some 28, none, .mov (.tmp 0)⟩,
    ⟨some 29, none, .nilck (.tmp 28)⟩,
    ⟨some 30, none, .faddr 4 (.tmp 29)⟩,
    ⟨some 31, none, .call 196 [(.tmp 30), (.const (.int .i32 1))]⟩]
def R175_37 : RC := .seq R175_35 R175_36

theorem fn175 : FnOK Tryz.prog 175 ⟨R175_37, [], 32⟩ :=
  ⟨Tryz.f175, Tryz.f175.body.getD .skip, Tryz.func175, by kernel_rfl, by kernel_rfl, by kernel_rfl, by kernel_rfl, by kernel_rfl⟩
-- 174: (*sync.Once).Do
def R174_0 : RC := .reg [⟨some 4, none, .mov (.tmp 0)⟩,
    ⟨some 5, none, .nilck (.tmp 4)⟩,
    ⟨some 6, none, .faddr 0 (.tmp 5)⟩,
    ⟨some 7, none, .call 194 [(.tmp 6)]⟩,
    ⟨some 8, none, .un .not (.tmp 7)⟩]
def R174_1 : RC := .reg [⟨some 9, none, .mov (.tmp 0)⟩,
    ⟨some 10, none, .mov (.tmp 1)⟩,
    ⟨some 11, none, .call 195 [(.tmp 9), (.tmp 10)]⟩]
def R174_2 : RC := .cond (.tmp 8) R174_1 (.skip)
def R174_3 : RC := .seq R174_0 R174_2

theorem fn174 : FnOK Tryz.prog 174 ⟨R174_3, [], 12⟩ :=
  ⟨Tryz.f174, Tryz.f174.body.getD .skip, Tryz.func174, by kernel_rfl, by kernel_rfl, by kernel_rfl, by kernel_rfl, by kernel_rfl⟩
-- 176: slices.Values[[]byte,byte]$1
def R176_0 : RC := .reg [⟨some 5, none, .load1 (.tmp 1)⟩,
    ⟨some 6, none, .lenS (.tmp 5)⟩,
    ⟨some 7, none, .mov (.const (.int .i64 0))⟩]
def R176_1 : RC := .reg [⟨some 8, none, .bin .lss 3 (.tmp 7) (.tmp 6)⟩]
def R176_2 : RC := .cond (.tmp 8) (.skip) (.exit 0)
def R176_3 : RC := .reg [⟨some 9, none, .ixS 1 (.tmp 5) (.tmp 7)⟩,
    ⟨some 10, none, .load1 (.tmp 9)⟩,
    ⟨some 4, none, .mov (.tmp 10)⟩]
def R176_4 : RC := .reg [⟨some 11, none, .mov (.tmp 0)⟩,
    ⟨some 12, none, .mov (.tmp 4)⟩,
    ⟨some 13, none, .callV (.tmp 11) [(.tmp 12)]⟩,
    ⟨some 14, none, .un .not (.tmp 13)⟩]
def R176_5 : RC := .cond (.tmp 14) (.ret) (.skip)
def R176_6 : RC := .seq R176_4 R176_5
def R176_7 : RC := .seq R176_3 R176_6
def R176_8 : RC := .block 1 R176_7
def R176_9 : RC := .reg [⟨some 15, none, .bin .add 3 (.tmp 7) (.const (.int .i64 1))⟩,
    ⟨some 7, none, .mov (.tmp 15)⟩]
def R176_10 : RC := .seq R176_8 R176_9
def R176_11 : RC := .seq R176_2 R176_10
def R176_12 : RC := .seq R176_1 R176_11
def R176_13 : RC := .loop R176_12
def R176_14 : RC := .block 0 R176_13
def R176_15 : RC := .seq R176_0 R176_14

theorem fn176 : FnOK Tryz.prog 176 ⟨R176_15, [], 16⟩ :=
  ⟨Tryz.f176, Tryz.f176.body.getD .skip, Tryz.func176, by kernel_rfl, by kernel_rfl, by kernel_rfl, by kernel_rfl, by kernel_rfl⟩
-- 177: lectern/codec.guarded$1
def R177_0 : RC := .reg [⟨some 2, none, .bi .recover #[] 20 #[] []⟩,
    ⟨some 1, none, .mov (.tmp 2)⟩]
def R177_1 : RC := .reg [⟨some 3, none, .mov (.tmp 1)⟩,
    ⟨some 4, none, .eqI true (.tmp 3) (.const (.nilIface))⟩]
def R177_2 : RC := .reg [⟨some 5, none, .mov (.tmp 1)⟩,
    ⟨some 6, none, .tass (.tmp 5) 20 250 false⟩,
    ⟨some 7, none, .fld1 0 (.tmp 6)⟩,
    ⟨none, none, .store 1 (.tmp 0) (.tmp 7)⟩]
def R177_3 : RC := .cond (.tmp 4) R177_2 (.skip)
def R177_4 : RC := .seq R177_1 R177_3
def R177_5 : RC := .seq R177_0 R177_4

theorem fn177 : FnOK Tryz.prog 177 ⟨R177_5, [], 8⟩ :=
  ⟨Tryz.f177, Tryz.f177.body.getD .skip, Tryz.func177, by kernel_rfl, by kernel_rfl, by kernel_rfl, by kernel_rfl, by kernel_rfl⟩
-- 163: lectern/codec.ReadFixed
def R163_0 : RC := .reg [⟨some 2, none, .box 22 (.tmp 0)⟩,
    ⟨some 3, none, .box 3 (.tmp 1)⟩,
    ⟨some 4, none, .mov (.const (.int .u64 0))⟩,
    ⟨some 5, none, .mov (.const (.int .i64 0))⟩,
    ⟨some 6, none, .mov (.const (.int .i64 0))⟩]
def R163_1 : RC := .reg [⟨some 7, none, .mkFn (.func 179) [] [(.tmp 2), (.tmp 3)]⟩,
    ⟨some 8, none, .call 178 [(.tmp 7)]⟩,
    ⟨some 9, none, .extr (.tmp 8) 0⟩,
    ⟨some 10, none, .extr (.tmp 8) 1⟩,
    ⟨some 11, none, .extr (.tmp 8) 2⟩,
    ⟨some 4, none, .mov (.tmp 9)⟩,
    ⟨some 5, none, .mov (.tmp 10)⟩,
    ⟨some 6, none, .mov (.tmp 11)⟩]
def R163_2 : RC := .seq R163_1 (.ret)
def R163_3 : RC := .seq R163_0 R163_2

theorem fn163 : FnOK Tryz.prog 163 ⟨R163_3, [.tmp 4, .tmp 5, .tmp 6], 12⟩ :=
  ⟨Tryz.f163, Tryz.f163.body.getD .skip, Tryz.func163, by kernel_rfl, by kernel_rfl, by kernel_rfl, by kernel_rfl, by kernel_rfl⟩
-- 164: (*lectern/codec.Reader).Take
def R164_0 : RC := .reg [⟨some 3, none, .box 3 (.tmp 1)⟩,
    ⟨some 4, none, .mov (.const (.slice none 0 0))⟩]
def R164_1 : RC := .reg [⟨some 5, none, .mov (.tmp 0)⟩,
    ⟨some 6, none, .mkFn (.func 182) [] [(.tmp 3)]⟩,
    ⟨some 7, none, .call 181 [(.tmp 5), (.tmp 6)]⟩,
    ⟨some 4, none, .mov (.tmp 7)⟩]
def R164_2 : RC := .seq R164_1 (.ret)
def R164_3 : RC := .seq R164_0 R164_2

theorem fn164 : FnOK Tryz.prog 164 ⟨R164_3, [.tmp 4], 8⟩ :=
  ⟨Tryz.f164, Tryz.f164.body.getD .skip, Tryz.func164, by kernel_rfl, by kernel_rfl, by kernel_rfl, by kernel_rfl, by kernel_rfl⟩
-- 165: lectern/block.whole$1
def R165_0 : RC := .reg [⟨some 4, none, .mov (.const (.bool false))⟩]
def R165_1 : RC := .draw [⟨some 7, none, .load1 (.tmp 1)⟩,
    ⟨some 8, none, .lenS (.tmp 7)⟩,
    ⟨some 9, none, .mov (.tmp 0)⟩,
    ⟨some 10, none, .bin .add 3 (.tmp 8) (.tmp 9)⟩,
    ⟨some 11, none, .bin .sub 3 (.tmp 10) (.const (.int .i64 1))⟩,
    ⟨some 12, none, .mov (.tmp 0)⟩,
    ⟨some 13, none, .bin .quo 3 (.tmp 11) (.tmp 12)⟩,
    ⟨some 14, none, .load1 (.tmp 2)⟩,
    ⟨some 15, none, .lenS (.tmp 14)⟩,
    ⟨some 16, none, .bin .neq 3 (.tmp 13) (.tmp 15)⟩] [[⟨0, ⟨some 7, none, .load1 (.tmp 1)⟩, true, []⟩,
    ⟨1, ⟨some 8, none, .lenS (.tmp 7)⟩, false, []⟩,
    ⟨2, ⟨some 9, none, .mov (.tmp 0)⟩, false, []⟩,
    ⟨3, ⟨some 10, none, .bin .add 3 (.tmp 8) (.tmp 9)⟩, false, []⟩,
    ⟨4, ⟨some 11, none, .bin .sub 3 (.tmp 10) (.const (.int .i64 1))⟩, false, []⟩,
    ⟨5, ⟨some 12, none, .mov (.tmp 0)⟩, false, []⟩,
    ⟨6, ⟨some 13, none, .bin .quo 3 (.tmp 11) (.tmp 12)⟩, false, []⟩,
    ⟨7, ⟨some 14, none, .load1 (.tmp 2)⟩, true, []⟩,
    ⟨8, ⟨some 15, none, .lenS (.tmp 14)⟩, false, []⟩],
   [⟨9, ⟨some 16, none, .bin .neq 3 (.tmp 13) (.tmp 15)⟩, false, []⟩]]
def R165_2 : RC := .reg [⟨some 4, none, .mov (.const (.bool false))⟩]
def R165_3 : RC := .seq R165_2 (.ret)
def R165_4 : RC := .cond (.tmp 16) R165_3 (.skip)
def R165_5 : RC := .seq R165_1 R165_4
def R165_6 : RC := .reg [⟨some 17, none, .load1 (.tmp 1)⟩,
    ⟨some 18, none, .lenS (.tmp 17)⟩,
    ⟨some 19, none, .mov (.const (.int .i64 0))⟩]
def R165_7 : RC := .reg [⟨some 20, none, .bin .lss 3 (.tmp 19) (.tmp 18)⟩]
def R165_8 : RC := .cond (.tmp 20) (.skip) (.exit 0)
def R165_9 : RC := .reg [⟨some 21, none, .mov (.tmp 19)⟩,
    ⟨some 22, none, .ixS 5 (.tmp 17) (.tmp 19)⟩,
    ⟨some 23, none, .loadN 5 (.tmp 22)⟩,
    ⟨some 6, none, .newv 212 (.agg #[.int .i64 0, .slice none 0 0, .slice none 0 0, .int .i64 0, .int .i64 0])⟩,
    ⟨some 5, none, .mov (.tmp 21)⟩,
    ⟨none, none, .store 5 (.tmp 6) (.tmp 23)⟩]
def R165_10 : RC := .reg [⟨some 24, none, .mov (.tmp 5)⟩,
    ⟨some 25, none, .mov (.tmp 0)⟩,
    ⟨some 26, none, .bin .rem 3 (.tmp 24) (.tmp 25)⟩,
    ⟨some 27, none, .bin .eql 3 (.tmp 26) (.const (.int .i64 0))⟩]
def R165_11 : RC := .draw [⟨some 28, none, .faddr 3 (.tmp 6)⟩,
    ⟨some 29, none, .load1 (.tmp 28)⟩,
    ⟨some 30, none, .bin .neq 3 (.tmp 29) (.const (.int .i64 0))⟩,
    ⟨some 31, none, .mov (.tmp 30)⟩,
    ⟨some 32, some (31, false), .load1 (.tmp 2)⟩,
    ⟨some 33, some (31, false), .mov (.tmp 5)⟩,
    ⟨some 34, some (31, false), .mov (.tmp 0)⟩,
    ⟨some 35, some (31, false), .bin .quo 3 (.tmp 33) (.tmp 34)⟩,
    ⟨some 36, some (31, false), .ixS 1 (.tmp 32) (.tmp 35)⟩,
    ⟨some 37, some (31, false), .load1 (.tmp 36)⟩,
    ⟨some 38, some (31, false), .faddr 0 (.tmp 6)⟩,
    ⟨some 39, some (31, false), .load1 (.tmp 38)⟩,
    ⟨some 40, some (31, false), .bin .neq 3 (.tmp 37) (.tmp 39)⟩,
    ⟨some 41, none, .pick (.tmp 31) (.const (.bool true)) (.tmp 40)⟩] [[⟨0, ⟨some 28, none, .faddr 3 (.tmp 6)⟩, false, []⟩],
   [⟨1, ⟨some 29, none, .load1 (.tmp 28)⟩, true, []⟩],
   [⟨2, ⟨some 30, none, .bin .neq 3 (.tmp 29) (.const (.int .i64 0))⟩, false, []⟩],
   [⟨3, ⟨some 31, none, .mov (.tmp 30)⟩, false, []⟩],
   [⟨4, ⟨some 32, some (31, false), .load1 (.tmp 2)⟩, true, []⟩,
    ⟨5, ⟨some 33, some (31, false), .mov (.tmp 5)⟩, false, []⟩,
    ⟨6, ⟨some 34, some (31, false), .mov (.tmp 0)⟩, false, []⟩,
    ⟨7, ⟨some 35, some (31, false), .bin .quo 3 (.tmp 33) (.tmp 34)⟩, false, []⟩,
    ⟨8, ⟨some 36, some (31, false), .ixS 1 (.tmp 32) (.tmp 35)⟩, false, []⟩,
    ⟨9, ⟨some 37, some (31, false), .load1 (.tmp 36)⟩, true, []⟩,
    ⟨10, ⟨some 38, some (31, false), .faddr 0 (.tmp 6)⟩, false, []⟩,
    ⟨11, ⟨some 39, some (31, false), .load1 (.tmp 38)⟩, true, []⟩],
   [⟨12, ⟨some 40, some (31, false), .bin .neq 3 (.tmp 37) (.tmp 39)⟩, false, []⟩],
   [⟨13, ⟨some 41, none, .pick (.tmp 31) (.const (.bool true)) (.tmp 40)⟩, false, []⟩]]
def R165_12 : RC := .reg [⟨some 4, none, .mov (.const (.bool false))⟩]
def R165_13 : RC := .seq R165_12 (.ret)
def R165_14 : RC := .cond (.tmp 41) R165_13 (.skip)
def R165_15 : RC := .seq R165_11 R165_14
def R165_16 : RC := .reg [⟨some 42, none, .faddr 3 (.tmp 6)⟩,
    ⟨some 43, none, .load1 (.tmp 42)⟩,
    ⟨some 44, none, .faddr 4 (.tmp 6)⟩,
    ⟨some 45, none, .load1 (.tmp 44)⟩,
    ⟨some 46, none, .bin .neq 3 (.tmp 43) (.tmp 45)⟩]
def R165_17 : RC := .reg [⟨some 4, none, .mov (.const (.bool false))⟩]
def R165_18 : RC := .seq R165_17 (.ret)
def R165_19 : RC := .cond (.tmp 46) R165_18 (.skip)
def R165_20 : RC := .seq R165_16 R165_19
def R165_21 : RC := .cond (.tmp 27) R165_15 R165_20
def R165_22 : RC := .seq R165_10 R165_21
def R165_23 : RC := .seq R165_9 R165_22
def R165_24 : RC := .block 1 R165_23
def R165_25 : RC := .reg [⟨some 47, none, .bin .add 3 (.tmp 19) (.const (.int .i64 1))⟩,
    ⟨some 19, none, .mov (.tmp 47)⟩]
def R165_26 : RC := .seq R165_24 R165_25
def R165_27 : RC := .seq R165_8 R165_26
def R165_28 : RC := .seq R165_7 R165_27
def R165_29 : RC := .loop R165_28
def R165_30 : RC := .block 0 R165_29
def R165_31 : RC := .seq R165_6 R165_30
def R165_32 : RC := .reg [⟨some 4, none, .mov (.const (.bool true))⟩]
def R165_33 : RC := .seq R165_32 (.ret)
def R165_34 : RC := .seq R165_31 R165_33
def R165_35 : RC := .seq R165_5 R165_34
def R165_36 : RC := .seq R165_0 R165_35

theorem fn165 : FnOK Tryz.prog 165 ⟨R165_36, [.tmp 4], 48⟩ :=
  ⟨Tryz.f165, Tryz.f165.body.getD .skip, Tryz.func165, by kernel_rfl, by kernel_rfl, by kernel_rfl, by kernel_rfl, by kernel_rfl⟩
-- 170: (*lectern/ikey.reader).number
def R170_0 : RC := .reg [⟨some 4, none, .mov (.const (.int .i64 0))⟩]
def R170_1 : RC := .reg [⟨some 8, none, .mov (.tmp 0)⟩,
    ⟨some 9, none, .nilck (.tmp 8)⟩,
    ⟨some 10, none, .faddr 0 (.tmp 9)⟩,
    ⟨some 11, none, .load1 (.tmp 10)⟩,
    ⟨some 12, none, .lenS (.tmp 11)⟩,
    ⟨some 13, none, .mov (.tmp 1)⟩,
    ⟨some 14, none, .bin .geq 3 (.tmp 12) (.tmp 13)⟩,
    ⟨some 15, none, .call 172 [(.tmp 14), (.const (.int .i64 160))]⟩]
def R170_2 : RC := .reg [⟨some 5, none, .mov (.const (.int .i64 0))⟩]
def R170_3 : RC := .reg [⟨some 16, none, .mov (.tmp 0)⟩,
    ⟨some 17, none, .nilck (.tmp 16)⟩,
    ⟨some 18, none, .faddr 0 (.tmp 17)⟩,
    ⟨some 19, none, .load1 (.tmp 18)⟩,
    ⟨some 20, none, .mov (.tmp 1)⟩,
    ⟨some 21, none, .slcL 1 (.tmp 19) none (some (.tmp 20)) none⟩,
    ⟨some 22, none, .lenS (.tmp 21)⟩,
    ⟨some 23, none, .mov (.const (.int .i64 0))⟩]
def R170_4 : RC := .reg [⟨some 24, none, .bin .lss 3 (.tmp 23) (.tmp 22)⟩]
def R170_5 : RC := .cond (.tmp 24) (.skip) (.exit 0)
def R170_6 : RC := .reg [⟨some 25, none, .ixS 1 (.tmp 21) (.tmp 23)⟩,
    ⟨some 26, none, .load1 (.tmp 25)⟩,
    ⟨some 7, none, .mov (.tmp 26)⟩]
def R170_7 : RC := .reg [⟨some 27, none, .mov (.tmp 5)⟩,
    ⟨some 28, none, .bin .shl 3 (.tmp 27) (.const (.int .u64 8))⟩,
    ⟨some 29, none, .mov (.tmp 7)⟩,
    ⟨some 30, none, .cvInt .i64 (.tmp 29)⟩,
    ⟨some 31, none, .bin .or 3 (.tmp 28) (.tmp 30)⟩,
    ⟨some 5, none, .mov (.tmp 31)⟩]
def R170_8 : RC := .seq R170_6 R170_7
def R170_9 : RC := .block 1 R170_8
def R170_10 : RC := .reg [⟨some 32, none, .bin .add 3 (.tmp 23) (.const (.int .i64 1))⟩,
    ⟨some 23, none, .mov (.tmp 32)⟩]
def R170_11 : RC := .seq R170_9 R170_10
def R170_12 : RC := .seq R170_5 R170_11
def R170_13 : RC := .seq R170_4 R170_12
def R170_14 : RC := .loop R170_13
def R170_15 : RC := .block 0 R170_14
def R170_16 : RC := .seq R170_3 R170_15
def R170_17 : RC := .reg [⟨some 33, none, .mov (.tmp 0)⟩,
    ⟨some 34, none, .mov (.tmp 0)⟩,
    ⟨some 35, none, .nilck (.tmp 34)⟩,
    ⟨some 36, none, .faddr 0 (.tmp 35)⟩,
    ⟨some 37, none, .load1 (.tmp 36)⟩,
    ⟨some 38, none, .mov (.tmp 1)⟩,
    ⟨some 39, none, .slcL 1 (.tmp 37) (some (.tmp 38)) none none⟩,
    ⟨some 40, none, .nilck (.tmp 33)⟩,
    ⟨some 41, none, .faddr 0 (.tmp 40)⟩,
    ⟨none, none, .store 1 (.tmp 41) (.tmp 39)⟩]
def R170_18 : RC := .reg [⟨some 42, none, .mov (.tmp 5)⟩,
    ⟨some 4, none, .mov (.tmp 42)⟩]
def R170_19 : RC := .seq R170_18 (.ret)
def R170_20 : RC := .seq R170_17 R170_19
def R170_21 : RC := .seq R170_16 R170_20
def R170_22 : RC := .seq R170_2 R170_21
def R170_23 : RC := .seq R170_1 R170_22
def R170_24 : RC := .seq R170_0 R170_23

theorem fn170 : FnOK Tryz.prog 170 ⟨R170_24, [.tmp 4], 43⟩ :=
  ⟨Tryz.f170, Tryz.f170.body.getD .skip, Tryz.func170, by kernel_rfl, by kernel_rfl, by kernel_rfl, by kernel_rfl, by kernel_rfl⟩
-- 171: lectern/ikey.unescape
def R171_0 : RC := .reg [⟨some 2, none, .mov (.const (.slice none 0 0))⟩,
    ⟨some 3, none, .mov (.const (.int .i64 0))⟩]
def R171_1 : RC := .reg [⟨some 4, none, .mov (.const (.slice none 0 0))⟩]
def R171_2 : RC := .reg [⟨some 5, none, .mov (.const (.int .i64 0))⟩]
def R171_3 : RC := .reg [⟨some 8, none, .mov (.tmp 5)⟩,
    ⟨some 9, none, .mov (.tmp 0)⟩,
    ⟨some 10, none, .lenS (.tmp 9)⟩,
    ⟨some 11, none, .bin .lss 3 (.tmp 8) (.tmp 10)⟩,
    ⟨some 12, none, .call 172 [(.tmp 11), (.const (.int .i64 160))]⟩]
def R171_4 : RC := .reg [⟨some 13, none, .mov (.tmp 0)⟩,
    ⟨some 14, none, .mov (.tmp 5)⟩,
    ⟨some 15, none, .ixS 1 (.tmp 13) (.tmp 14)⟩,
    ⟨some 16, none, .load1 (.tmp 15)⟩,
    ⟨some 17, none, .bin .neq 5 (.tmp 16) (.const (.int .u8 0))⟩]
def R171_5 : RC := .reg [⟨some 18, none, .mov (.tmp 4)⟩,
    ⟨some 19, none, .mov (.tmp 0)⟩,
    ⟨some 20, none, .mov (.tmp 5)⟩,
    ⟨some 21, none, .ixS 1 (.tmp 19) (.tmp 20)⟩,
    ⟨some 22, none, .load1 (.tmp 21)⟩,
    ⟨some 23, none, .mkSl 5 1 1 #[.int .u8 0] [(0, (.tmp 22))]⟩,
    ⟨some 24, none, .app 5 1 1 (.int .u8 0) (.tmp 18) (.tmp 23)⟩,
    ⟨some 4, none, .mov (.tmp 24)⟩]
def R171_6 : RC := .seq R171_5 (.exit 1)
def R171_7 : RC := .cond (.tmp 17) R171_6 (.skip)
def R171_8 : RC := .seq R171_4 R171_7
def R171_9 : RC := .reg [⟨some 25, none, .mov (.tmp 5)⟩,
    ⟨some 26, none, .bin .add 3 (.tmp 25) (.const (.int .i64 1))⟩,
    ⟨some 5, none, .mov (.tmp 26)⟩]
def R171_10 : RC := .reg [⟨some 27, none, .mov (.tmp 5)⟩,
    ⟨some 28, none, .mov (.tmp 0)⟩,
    ⟨some 29, none, .lenS (.tmp 28)⟩,
    ⟨some 30, none, .bin .lss 3 (.tmp 27) (.tmp 29)⟩,
    ⟨some 31, none, .mov (.tmp 30)⟩,
    ⟨some 32, some (31, true), .mov (.tmp 0)⟩,
    ⟨some 33, some (31, true), .mov (.tmp 5)⟩,
    ⟨some 34, some (31, true), .ixS 1 (.tmp 32) (.tmp 33)⟩,
    ⟨some 35, some (31, true), .load1 (.tmp 34)⟩,
    ⟨some 36, some (31, true), .bin .eql 5 (.tmp 35) (.const (.int .u8 1))⟩,
    ⟨some 37, some (31, true), .mov (.tmp 36)⟩,
    ⟨some 38, some (37, false), .mov (.tmp 0)⟩,
    ⟨some 39, some (37, false), .mov (.tmp 5)⟩,
    ⟨some 40, some (37, false), .ixS 1 (.tmp 38) (.tmp 39)⟩,
    ⟨some 41, some (37, false), .load1 (.tmp 40)⟩,
    ⟨some 42, some (37, false), .bin .eql 5 (.tmp 41) (.const (.int .u8 255))⟩,
    ⟨some 43, some (31, true), .pick (.tmp 37) (.const (.bool true)) (.tmp 42)⟩,
    ⟨some 44, none, .pick (.tmp 31) (.tmp 43) (.const (.bool false))⟩,
    ⟨some 45, none, .call 172 [(.tmp 44), (.const (.int .i64 160))]⟩]
def R171_11 : RC := .reg [⟨some 46, none, .mov (.tmp 0)⟩,
    ⟨some 47, none, .mov (.tmp 5)⟩,
    ⟨some 48, none, .ixS 1 (.tmp 46) (.tmp 47)⟩,
    ⟨some 49, none, .load1 (.tmp 48)⟩,
    ⟨some 50, none, .bin .eql 5 (.tmp 49) (.const (.int .u8 1))⟩]
def R171_12 : RC := .reg [⟨some 51, none, .mov (.tmp 4)⟩,
    ⟨some 52, none, .mov (.tmp 5)⟩,
    ⟨some 53, none, .bin .add 3 (.tmp 52) (.const (.int .i64 1))⟩,
    ⟨some 2, none, .mov (.tmp 51)⟩,
    ⟨some 3, none, .mov (.tmp 53)⟩]
def R171_13 : RC := .seq R171_12 (.ret)
def R171_14 : RC := .cond (.tmp 50) R171_13 (.skip)
def R171_15 : RC := .seq R171_11 R171_14
def R171_16 : RC := .reg [⟨some 54, none, .mov (.tmp 4)⟩,
    ⟨some 55, none, .mkSl 5 1 1 #[.int .u8 0] [(0, (.const (.int .u8 0)))]⟩,
    ⟨some 56, none, .app 5 1 1 (.int .u8 0) (.tmp 54) (.tmp 55)⟩,
    ⟨some 4, none, .mov (.tmp 56)⟩]
def R171_17 : RC := .seq R171_15 R171_16
def R171_18 : RC := .seq R171_10 R171_17
def R171_19 : RC := .seq R171_9 R171_18
def R171_20 : RC := .seq R171_8 R171_19
def R171_21 : RC := .seq R171_3 R171_20
def R171_22 : RC := .block 1 R171_21
def R171_23 : RC := .reg [⟨some 6, none, .mov (.tmp 5)⟩,
    ⟨some 7, none, .bin .add 3 (.tmp 6) (.const (.int .i64 1))⟩,
    ⟨some 5, none, .mov (.tmp 7)⟩]
def R171_24 : RC := .seq R171_22 R171_23
def R171_25 : RC := .loop R171_24
def R171_26 : RC := .block 0 R171_25
def R171_27 : RC := .seq R171_2 R171_26
def R171_28 : RC := .seq R171_1 R171_27
def R171_29 : RC := .seq R171_0 R171_28

theorem fn171 : FnOK Tryz.prog 171 ⟨R171_29, [.tmp 2, .tmp 3], 57⟩ :=
  ⟨Tryz.f171, Tryz.f171.body.getD .skip, Tryz.func171, by kernel_rfl, by kernel_rfl, by kernel_rfl, by kernel_rfl, by kernel_rfl⟩
-- 172: lectern/ikey.must
def R172_0 : RC := .reg [⟨some 4, none, .mov (.tmp 0)⟩,
    ⟨some 5, none, .un .not (.tmp 4)⟩]
def R172_1 : RC := .reg [⟨some 6, none, .mov (.tmp 1)⟩,
    ⟨some 7, none, .build [(0, 1)] #[.int .i64 0] [(0, (.tmp 6))]⟩,
    ⟨some 8, none, .mkIf 258 (.tmp 7)⟩,
    ⟨none, none, .panic (.tmp 8)⟩]
def R172_2 : RC := .cond (.tmp 5) R172_1 (.skip)
def R172_3 : RC := .seq R172_0 R172_2

theorem fn172 : FnOK Tryz.prog 172 ⟨R172_3, [], 9⟩ :=
  ⟨Tryz.f172, Tryz.f172.body.getD .skip, Tryz.func172, by kernel_rfl, by kernel_rfl, by kernel_rfl, by kernel_rfl, by kernel_rfl⟩
-- 196: (*sync/atomic.Int32).Add
def R196_0 : RC := .reg [⟨some 4, none, .mov (.const (.int .i32 0))⟩]
def R196_1 : RC := .reg [⟨some 5, none, .mov (.tmp 0)⟩,
    ⟨some 6, none, .nilck (.tmp 5)⟩,
    ⟨some 7, none, .faddr 0 (.tmp 6)⟩,
    ⟨some 8, none, .mov (.tmp 1)⟩,
    ⟨some 9, none, .ext 209 [(.tmp 7), (.tmp 8)]⟩,
    ⟨some 4, none, .mov (.tmp 9)⟩]
def R196_2 : RC := .seq R196_1 (.ret)
def R196_3 : RC := .seq R196_0 R196_2

theorem fn196 : FnOK Tryz.prog 196 ⟨R196_3, [.tmp 4], 10⟩ :=
  ⟨Tryz.f196, Tryz.f196.body.getD .skip, Tryz.func196, by kernel_rfl, by kernel_rfl, by kernel_rfl, by kernel_rfl, by kernel_rfl⟩
-- 194: (*sync/atomic.Bool).Load
def R194_0 : RC := .reg [⟨some 2, none, .mov (.const (.bool false))⟩]
def R194_1 : RC := .reg [⟨some 3, none, .mov (.tmp 0)⟩,
    ⟨some 4, none, .nilck (.tmp 3)⟩,
    ⟨some 5, none, .faddr 0 (.tmp 4)⟩,
    ⟨some 6, none, .ext 205 [(.tmp 5)]⟩,
    ⟨some 7, none, .bin .neq 142 (.tmp 6) (.const (.int .u32 0))⟩,
    ⟨some 2, none, .mov (.tmp 7)⟩]
def R194_2 : RC := .seq R194_1 (.ret)
def R194_3 : RC := .seq R194_0 R194_2

theorem fn194 : FnOK Tryz.prog 194 ⟨R194_3, [.tmp 2], 8⟩ :=
  ⟨Tryz.f194, Tryz.f194.body.getD .skip, Tryz.func194, by kernel_rfl, by kernel_rfl, by kernel_rfl, by kernel_rfl, by kernel_rfl⟩
-- 195: (*sync.Once).doSlow
def R195_0 : RC := .reg [⟨some 4, none, .mov (.tmp 0)⟩,
    ⟨some 5, none, .nilck (.tmp 4)⟩,
    ⟨some 6, none, .faddr 1 (.tmp 5)⟩,
    ⟨some 7, none, .call 206 [(.tmp 6)]⟩]
def R195_1 : RC := .reg [⟨some 8, none, .mov (.tmp 0)⟩,
    ⟨some 9, none, .nilck (.tmp 8)⟩,
    ⟨some 10, none, .faddr 1 (.tmp 9)⟩,
    ⟨none, none, .defr ⟨.value (.func 207), #[(.tmp 10)], #[188]⟩ 0⟩]
def R195_2 : RC := .reg [⟨some 11, none, .mov (.tmp 0)⟩,
    ⟨some 12, none, .nilck (.tmp 11)⟩,
    ⟨some 13, none, .faddr 0 (.tmp 12)⟩,
    ⟨some 14, none, .call 194 [(.tmp 13)]⟩,
    ⟨some 15, none, .un .not (.tmp 14)⟩]
def R195_3 : RC := .reg [⟨some 16, none, .mov (.tmp 0)⟩,
    ⟨some 17, none, .nilck (.tmp 16)⟩,
    ⟨some 18, none, .faddr 0 (.tmp 17)⟩,
    ⟨none, none, .defr ⟨.value (.func 208), #[(.tmp 18), (.const (.bool true))], #[184, 4]⟩ 0⟩]
def R195_4 : RC := .reg [⟨some 19, none, .mov (.tmp 1)⟩,
    ⟨some 20, none, .callV (.tmp 19) []⟩]
def R195_5 : RC := .seq R195_3 R195_4
def R195_6 : RC := .cond (.tmp 15) R195_5 (.skip)
def R195_7 : RC := .seq R195_2 R195_6
def R195_8 : RC := .seq R195_1 R195_7
def R195_9 : RC := .seq R195_0 R195_8

theorem fn195 : FnOK Tryz.prog 195 ⟨R195_9, [], 21⟩ :=
  ⟨Tryz.f195, Tryz.f195.body.getD .skip, Tryz.func195, by kernel_rfl, by kernel_rfl, by kernel_rfl, by kernel_rfl, by kernel_rfl⟩
-- 179: lectern/codec.ReadFixed$1
def R179_0 : RC := .reg [⟨some 2, none, .mov (.const (.int .u64 0))⟩,
    ⟨some 3, none, .mov (.const (.int .i64 0))⟩]
def R179_1 : RC := .reg [⟨some 4, none, .load1 (.tmp 0)⟩,
    ⟨some 5, none, .load1 (.tmp 1)⟩,
    ⟨some 6, none, .call 180 [(.tmp 4), (.tmp 5)]⟩,
    ⟨some 7, none, .extr (.tmp 6) 0⟩,
    ⟨some 8, none, .extr (.tmp 6) 1⟩,
    ⟨some 2, none, .mov (.tmp 7)⟩,
    ⟨some 3, none, .mov (.tmp 8)⟩]
def R179_2 : RC := .seq R179_1 (.ret)
def R179_3 : RC := .seq R179_0 R179_2

theorem fn179 : FnOK Tryz.prog 179 ⟨R179_3, [.tmp 2, .tmp 3], 9⟩ :=
  ⟨Tryz.f179, Tryz.f179.body.getD .skip, Tryz.func179, by kernel_rfl, by kernel_rfl, by kernel_rfl, by kernel_rfl, by kernel_rfl⟩
-- 178: lectern/codec.read[uint64]
def R178_0 : RC := .reg [⟨some 1, none, .box 267 (.tmp 0)⟩,
    ⟨some 2, none, .mov (.const (.int .u64 0))⟩,
    ⟨some 3, none, .mov (.const (.int .i64 0))⟩,
    ⟨some 4, none, .mov (.const (.int .i64 0))⟩]
def R178_1 : RC := .reg [⟨some 5, none, .newv 200 (.int .u64 0)⟩,
    ⟨some 6, none, .mov (.const (.int .u64 0))⟩]
def R178_2 : RC := .reg [⟨some 7, none, .newv 3 (.int .i64 0)⟩,
    ⟨none, none, .store 1 (.tmp 7) (.const (.int .i64 0))⟩]
def R178_3 : RC := .reg [⟨some 9, none, .mkFn (.func 197) [] [(.tmp 1), (.tmp 5), (.tmp 7)]⟩,
    ⟨some 10, none, .call 160 [(.tmp 9)]⟩,
    ⟨some 8, none, .mov (.tmp 10)⟩]
def R178_4 : RC := .reg [⟨some 11, none, .mov (.tmp 8)⟩,
    ⟨some 12, none, .bin .neq 59 (.tmp 11) (.const (.int .i64 0))⟩]
def R178_5 : RC := .reg [⟨some 13, none, .mov (.tmp 6)⟩,
    ⟨some 14, none, .mov (.tmp 8)⟩,
    ⟨some 2, none, .mov (.tmp 13)⟩,
    ⟨some 3, none, .mov (.const (.int .i64 0))⟩,
    ⟨some 4, none, .mov (.tmp 14)⟩]
def R178_6 : RC := .seq R178_5 (.ret)
def R178_7 : RC := .cond (.tmp 12) R178_6 (.skip)
def R178_8 : RC := .seq R178_4 R178_7
def R178_9 : RC := .seq R178_3 R178_8
def R178_10 : RC := .draw [⟨some 15, none, .load1 (.tmp 5)⟩,
    ⟨some 16, none, .load1 (.tmp 7)⟩,
    ⟨some 2, none, .mov (.tmp 15)⟩,
    ⟨some 3, none, .mov (.tmp 16)⟩,
    ⟨some 4, none, .mov (.const (.int .i64 0))⟩] [[⟨0, ⟨some 15, none, .load1 (.tmp 5)⟩, true, []⟩,
    ⟨1, ⟨some 16, none, .load1 (.tmp 7)⟩, true, []⟩,
    ⟨2, ⟨some 2, none, .mov (.tmp 15)⟩, false, []⟩],
   [⟨3, ⟨some 3, none, .mov (.tmp 16)⟩, false, []⟩],
   [⟨4, ⟨some 4, none, .mov (.const (.int .i64 0))⟩, false, []⟩]]
def R178_11 : RC := .seq R178_10 (.ret)
def R178_12 : RC := .seq R178_9 R178_11
def R178_13 : RC := .seq R178_2 R178_12
def R178_14 : RC := .seq R178_1 R178_13
def R178_15 : RC := .seq R178_0 R178_14

theorem fn178 : FnOK Tryz.prog 178 ⟨R178_15, [.tmp 2, .tmp 3, .tmp 4], 17⟩ :=
  ⟨Tryz.f178, Tryz.f178.body.getD .skip, Tryz.func178, by kernel_rfl, by kernel_rfl, by kernel_rfl, by kernel_rfl, by kernel_rfl⟩
-- 182: (*lectern/codec.Reader).Take$1
def R182_0 : RC := .reg [⟨some 3, none, .mov (.const (.slice none 0 0))⟩,
    ⟨some 4, none, .mov (.const (.int .i64 0))⟩]
def R182_1 : RC := .reg [⟨some 5, none, .load1 (.tmp 1)⟩,
    ⟨some 6, none, .bin .geq 3 (.tmp 5) (.const (.int .i64 0))⟩,
    ⟨some 7, none, .call 162 [(.tmp 6), (.const (.int .i64 1))]⟩]
def R182_2 : RC := .reg [⟨some 8, none, .load1 (.tmp 1)⟩,
    ⟨some 9, none, .mov (.tmp 0)⟩,
    ⟨some 10, none, .lenS (.tmp 9)⟩,
    ⟨some 11, none, .bin .leq 3 (.tmp 8) (.tmp 10)⟩,
    ⟨some 12, none, .call 162 [(.tmp 11), (.const (.int .i64 20))]⟩]
def R182_3 : RC := .draw [⟨some 13, none, .mov (.tmp 0)⟩,
    ⟨some 14, none, .load1 (.tmp 1)⟩,
    ⟨some 15, none, .slcL 1 (.tmp 13) none (some (.tmp 14)) none⟩,
    ⟨some 16, none, .call 141 [(.tmp 15)]⟩,
    ⟨some 17, none, .load1 (.tmp 1)⟩,
    ⟨some 3, none, .mov (.tmp 16)⟩,
    ⟨some 4, none, .mov (.tmp 17)⟩] [[⟨0, ⟨some 13, none, .mov (.tmp 0)⟩, false, []⟩,
    ⟨1, ⟨some 14, none, .load1 (.tmp 1)⟩, true, []⟩,
    ⟨2, ⟨some 15, none, .slcL 1 (.tmp 13) none (some (.tmp 14)) none⟩, false, []⟩,
    ⟨4, ⟨some 17, none, .load1 (.tmp 1)⟩, true, []⟩,
    ⟨3, ⟨some 16, none, .call 141 [(.tmp 15)]⟩, false, [4]⟩,
    ⟨5, ⟨some 3, none, .mov (.tmp 16)⟩, false, []⟩],
   [⟨6, ⟨some 4, none, .mov (.tmp 17)⟩, false, []⟩]]
def R182_4 : RC := .seq R182_3 (.ret)
def R182_5 : RC := .seq R182_2 R182_4
def R182_6 : RC := .seq R182_1 R182_5
def R182_7 : RC := .seq R182_0 R182_6

theorem fn182 : FnOK Tryz.prog 182 ⟨R182_7, [.tmp 3, .tmp 4], 18⟩ :=
  ⟨Tryz.f182, Tryz.f182.body.getD .skip, Tryz.func182, by kernel_rfl, by kernel_rfl, by kernel_rfl, by kernel_rfl, by kernel_rfl⟩
-- 181: lectern/codec.on[[]byte]
def R181_0 : RC := .reg [⟨some 2, none, .box 203 (.tmp 0)⟩,
    ⟨some 3, none, .box 262 (.tmp 1)⟩,
    ⟨some 4, none, .mov (.const (.slice none 0 0))⟩]
def R181_1 : RC := .reg [⟨some 5, none, .newv 22 (.slice none 0 0)⟩,
    ⟨some 6, none, .mov (.const (.slice none 0 0))⟩]
def R181_2 : RC := .reg [⟨some 8, none, .load1 (.tmp 2)⟩,
    ⟨some 9, none, .call 144 [(.tmp 8)]⟩,
    ⟨some 10, none, .un .not (.tmp 9)⟩,
    ⟨some 11, none, .mov (.tmp 10)⟩,
    ⟨some 12, some (11, false), .load1 (.tmp 2)⟩,
    ⟨some 13, some (11, false), .nilck (.tmp 12)⟩,
    ⟨some 14, some (11, false), .faddr 3 (.tmp 13)⟩,
    ⟨some 15, some (11, false), .load1 (.tmp 14)⟩,
    ⟨some 16, some (11, false), .bin .neq 59 (.tmp 15) (.const (.int .i64 0))⟩,
    ⟨some 17, none, .pick (.tmp 11) (.const (.bool true)) (.tmp 16)⟩]
def R181_3 : RC := .reg [⟨some 18, none, .mov (.tmp 6)⟩,
    ⟨some 4, none, .mov (.tmp 18)⟩]
def R181_4 : RC := .seq R181_3 (.ret)
def R181_5 : RC := .cond (.tmp 17) R181_4 (.skip)
def R181_6 : RC := .seq R181_2 R181_5
def R181_7 : RC := .reg [⟨some 7, none, .newv 3 (.int .i64 0)⟩,
    ⟨none, none, .store 1 (.tmp 7) (.const (.int .i64 0))⟩]
def R181_8 : RC := .draw [⟨some 19, none, .load1 (.tmp 2)⟩,
    ⟨some 20, none, .mkFn (.func 198) [] [(.tmp 3), (.tmp 2), (.tmp 5), (.tmp 7)]⟩,
    ⟨some 21, none, .call 160 [(.tmp 20)]⟩,
    ⟨some 22, none, .nilck (.tmp 19)⟩,
    ⟨some 23, none, .faddr 3 (.tmp 22)⟩,
    ⟨none, none, .store 1 (.tmp 23) (.tmp 21)⟩] [[⟨0, ⟨some 19, none, .load1 (.tmp 2)⟩, true, []⟩,
    ⟨1, ⟨some 20, none, .mkFn (.func 198) [] [(.tmp 3), (.tmp 2), (.tmp 5), (.tmp 7)]⟩, false, []⟩,
    ⟨2, ⟨some 21, none, .call 160 [(.tmp 20)]⟩, false, [0]⟩],
   [⟨3, ⟨some 22, none, .nilck (.tmp 19)⟩, false, []⟩],
   [⟨4, ⟨some 23, none, .faddr 3 (.tmp 22)⟩, false, []⟩],
   [⟨5, ⟨none, none, .store 1 (.tmp 23) (.tmp 21)⟩, false, []⟩]]
def R181_9 : RC := .reg [⟨some 24, none, .load1 (.tmp 2)⟩,
    ⟨some 25, none, .nilck (.tmp 24)⟩,
    ⟨some 26, none, .faddr 3 (.tmp 25)⟩,
    ⟨some 27, none, .load1 (.tmp 26)⟩,
    ⟨some 28, none, .bin .neq 59 (.tmp 27) (.const (.int .i64 0))⟩]
def R181_10 : RC := .reg [⟨some 29, none, .mov (.tmp 6)⟩,
    ⟨some 4, none, .mov (.tmp 29)⟩]
def R181_11 : RC := .seq R181_10 (.ret)
def R181_12 : RC := .cond (.tmp 28) R181_11 (.skip)
def R181_13 : RC := .seq R181_9 R181_12
def R181_14 : RC := .seq R181_8 R181_13
def R181_15 : RC := .draw [⟨some 30, none, .load1 (.tmp 2)⟩,
    ⟨some 31, none, .nilck (.tmp 30)⟩,
    ⟨some 32, none, .faddr 2 (.tmp 31)⟩,
    ⟨some 33, none, .load1 (.tmp 32)⟩,
    ⟨some 34, none, .load1 (.tmp 7)⟩,
    ⟨some 35, none, .bin .add 3 (.tmp 33) (.tmp 34)⟩,
    ⟨some 36, none, .nilck (.tmp 30)⟩,
    ⟨some 37, none, .faddr 2 (.tmp 36)⟩,
    ⟨none, none, .store 1 (.tmp 37) (.tmp 35)⟩] [[⟨0, ⟨some 30, none, .load1 (.tmp 2)⟩, true, []⟩,
    ⟨1, ⟨some 31, none, .nilck (.tmp 30)⟩, false, []⟩,
    ⟨2, ⟨some 32, none, .faddr 2 (.tmp 31)⟩, false, []⟩,
    ⟨3, ⟨some 33, none, .load1 (.tmp 32)⟩, true, []⟩,
    ⟨4, ⟨some 34, none, .load1 (.tmp 7)⟩, true, []⟩],
   [⟨5, ⟨some 35, none, .bin .add 3 (.tmp 33) (.tmp 34)⟩, false, []⟩],
   [⟨6, ⟨some 36, none, .nilck (.tmp 30)⟩, false, []⟩],
   [⟨7, ⟨some 37, none, .faddr 2 (.tmp 36)⟩, false, []⟩],
   [⟨8, ⟨none, none, .store 1 (.tmp 37) (.tmp 35)⟩, false, []⟩]]
def R181_16 : RC := .reg [⟨some 38, none, .load1 (.tmp 5)⟩,
    ⟨some 4, none, .mov (.tmp 38)⟩]
def R181_17 : RC := .seq R181_16 (.ret)
def R181_18 : RC := .seq R181_15 R181_17
def R181_19 : RC := .seq R181_14 R181_18
def R181_20 : RC := .seq R181_7 R181_19
def R181_21 : RC := .seq R181_6 R181_20
def R181_22 : RC := .seq R181_1 R181_21
def R181_23 : RC := .seq R181_0 R181_22

theorem fn181 : FnOK Tryz.prog 181 ⟨R181_23, [.tmp 4], 39⟩ :=
  ⟨Tryz.f181, Tryz.f181.body.getD .skip, Tryz.func181, by kernel_rfl, by kernel_rfl, by kernel_rfl, by kernel_rfl, by kernel_rfl⟩
-- 209: sync/atomic.AddInt32
theorem xf209 : XfOK Tryz.prog 209 (.add .i32) := xf_of Tryz.func209 (by kernel_rfl) (by kernel_rfl) (by kernel_rfl) (by kernel_rfl)
-- 205: sync/atomic.LoadUint32
theorem xf205 : XfOK Tryz.prog 205 (.ld .u32) := xf_of Tryz.func205 (by kernel_rfl) (by kernel_rfl) (by kernel_rfl) (by kernel_rfl)
-- 206: (*sync.Mutex).Lock
def R206_0 : RC := .reg [⟨some 2, none, .mov (.tmp 0)⟩,
    ⟨some 3, none, .nilck (.tmp 2)⟩,
    ⟨some 4, none, .faddr 0 (.tmp 3)⟩,
    ⟨some 5, none, .call 211 [(.tmp 4)]⟩]

theorem fn206 : FnOK Tryz.prog 206 ⟨R206_0, [], 6⟩ :=
  ⟨Tryz.f206, Tryz.f206.body.getD .skip, Tryz.func206, by kernel_rfl, by kernel_rfl, by kernel_rfl, by kernel_rfl, by kernel_rfl⟩
-- 207: (*sync.Mutex).Unlock
def R207_0 : RC := .reg [⟨some 2, none, .mov (.tmp 0)⟩,
    ⟨some 3, none, .nilck (.tmp 2)⟩,
    ⟨some 4, none, .faddr 0 (.tmp 3)⟩,
    ⟨some 5, none, .call 212 [(.tmp 4)]⟩]

theorem fn207 : FnOK Tryz.prog 207 ⟨R207_0, [], 6⟩ :=
  ⟨Tryz.f207, Tryz.f207.body.getD .skip, Tryz.func207, by kernel_rfl, by kernel_rfl, by kernel_rfl, by kernel_rfl, by kernel_rfl⟩
-- 208: (*sync/atomic.Bool).Store
def R208_0 : RC := .draw [⟨some 4, none, .mov (.tmp 0)⟩,
    ⟨some 5, none, .nilck (.tmp 4)⟩,
    ⟨some 6, none, .faddr 0 (.tmp 5)⟩,
    ⟨some 7, none, .mov (.tmp 1)⟩,
    ⟨some 8, none, .call 214 [(.tmp 7)]⟩,
    ⟨some 9, none, .ext 213 [(.tmp 6), (.tmp 8)]⟩] [[⟨0, ⟨some 4, none, .mov (.tmp 0)⟩, false, []⟩,
    ⟨1, ⟨some 5, none, .nilck (.tmp 4)⟩, false, []⟩,
    ⟨2, ⟨some 6, none, .faddr 0 (.tmp 5)⟩, false, []⟩,
    ⟨3, ⟨some 7, none, .mov (.tmp 1)⟩, false, []⟩,
    ⟨4, ⟨some 8, none, .call 214 [(.tmp 7)]⟩, false, []⟩],
   [⟨5, ⟨some 9, none, .ext 213 [(.tmp 6), (.tmp 8)]⟩, false, []⟩]]

theorem fn208 : FnOK Tryz.prog 208 ⟨R208_0, [], 10⟩ :=
  ⟨Tryz.f208, Tryz.f208.body.getD .skip, Tryz.func208, by kernel_rfl, by kernel_rfl, by kernel_rfl, by kernel_rfl, by kernel_rfl⟩
-- 180: lectern/codec.readFixed
def R180_0 : RC := .reg [⟨some 4, none, .mov (.const (.int .u64 0))⟩,
    ⟨some 5, none, .mov (.const (.int .i64 0))⟩]
def R180_1 : RC := .reg [⟨some 8, none, .mov (.tmp 1)⟩,
    ⟨some 9, none, .bin .geq 3 (.tmp 8) (.const (.int .i64 1))⟩,
    ⟨some 10, none, .mov (.tmp 9)⟩,
    ⟨some 11, some (10, true), .mov (.tmp 1)⟩,
    ⟨some 12, some (10, true), .bin .leq 3 (.tmp 11) (.const (.int .i64 8))⟩,
    ⟨some 13, none, .pick (.tmp 10) (.tmp 12) (.const (.bool false))⟩,
    ⟨some 14, none, .call 162 [(.tmp 13), (.const (.int .i64 1))]⟩]
def R180_2 : RC := .reg [⟨some 15, none, .mov (.tmp 0)⟩,
    ⟨some 16, none, .lenS (.tmp 15)⟩,
    ⟨some 17, none, .mov (.tmp 1)⟩,
    ⟨some 18, none, .bin .geq 3 (.tmp 16) (.tmp 17)⟩,
    ⟨some 19, none, .call 162 [(.tmp 18), (.const (.int .i64 20))]⟩]
def R180_3 : RC := .reg [⟨some 6, none, .mov (.const (.int .u64 0))⟩]
def R180_4 : RC := .reg [⟨some 20, none, .mov (.tmp 1)⟩,
    ⟨some 21, none, .mov (.const (.int .i64 0))⟩]
def R180_5 : RC := .reg [⟨some 22, none, .bin .lss 3 (.tmp 21) (.tmp 20)⟩]
def R180_6 : RC := .cond (.tmp 22) (.skip) (.exit 0)
def R180_7 : RC := .reg [⟨some 23, none, .mov (.tmp 21)⟩,
    ⟨some 7, none, .mov (.tmp 23)⟩]
def R180_8 : RC := .reg [⟨some 24, none, .mov (.tmp 6)⟩,
    ⟨some 25, none, .mov (.tmp 0)⟩,
    ⟨some 26, none, .mov (.tmp 7)⟩,
    ⟨some 27, none, .ixS 1 (.tmp 25) (.tmp 26)⟩,
    ⟨some 28, none, .load1 (.tmp 27)⟩,
    ⟨some 29, none, .cvInt .u64 (.tmp 28)⟩,
    ⟨some 30, none, .mov (.tmp 7)⟩,
    ⟨some 31, none, .bin .mul 3 (.const (.int .i64 8)) (.tmp 30)⟩,
    ⟨some 32, none, .bin .shl 200 (.tmp 29) (.tmp 31)⟩,
    ⟨some 33, none, .bin .or 200 (.tmp 24) (.tmp 32)⟩,
    ⟨some 6, none, .mov (.tmp 33)⟩]
def R180_9 : RC := .seq R180_7 R180_8
def R180_10 : RC := .block 1 R180_9
def R180_11 : RC := .reg [⟨some 34, none, .bin .add 3 (.tmp 21) (.const (.int .i64 1))⟩,
    ⟨some 21, none, .mov (.tmp 34)⟩]
def R180_12 : RC := .seq R180_10 R180_11
def R180_13 : RC := .seq R180_6 R180_12
def R180_14 : RC := .seq R180_5 R180_13
def R180_15 : RC := .loop R180_14
def R180_16 : RC := .block 0 R180_15
def R180_17 : RC := .seq R180_4 R180_16
def R180_18 : RC := .reg [⟨some 35, none, .mov (.tmp 6)⟩,
    ⟨some 36, none, .mov (.tmp 1)⟩,
    ⟨some 4, none, .mov (.tmp 35)⟩,
    ⟨some 5, none, .mov (.tmp 36)⟩]
def R180_19 : RC := .seq R180_18 (.ret)
def R180_20 : RC := .seq R180_17 R180_19
def R180_21 : RC := .seq R180_3 R180_20
def R180_22 : RC := .seq R180_2 R180_21
def R180_23 : RC := .seq R180_1 R180_22
def R180_24 : RC := .seq R180_0 R180_23

theorem fn180 : FnOK Tryz.prog 180 ⟨R180_24, [.tmp 4, .tmp 5], 37⟩ :=
  ⟨Tryz.f180, Tryz.f180.body.getD .skip, Tryz.func180, by kernel_rfl, by kernel_rfl, by kernel_rfl, by kernel_rfl, by kernel_rfl⟩
-- 197: lectern/codec.read[uint64]$1
def R197_0 : RC := .reg [⟨some 4, none, .load1 (.tmp 0)⟩,
    ⟨some 5, none, .callV (.tmp 4) []⟩,
    ⟨some 3, none, .mov (.tmp 5)⟩,
    ⟨some 6, none, .extr (.tmp 3) 0⟩,
    ⟨some 7, none, .extr (.tmp 3) 1⟩,
    ⟨none, none, .store 1 (.tmp 1) (.tmp 6)⟩,
    ⟨none, none, .store 1 (.tmp 2) (.tmp 7)⟩]

theorem fn197 : FnOK Tryz.prog 197 ⟨R197_0, [], 8⟩ :=
  ⟨Tryz.f197, Tryz.f197.body.getD .skip, Tryz.func197, by kernel_rfl, by kernel_rfl, by kernel_rfl, by kernel_rfl, by kernel_rfl⟩
-- 198: lectern/codec.on[[]byte]$1
def R198_0 : RC := .draw [⟨some 5, none, .load1 (.tmp 0)⟩,
    ⟨some 6, none, .load1 (.tmp 1)⟩,
    ⟨some 7, none, .nilck (.tmp 6)⟩,
    ⟨some 8, none, .faddr 1 (.tmp 7)⟩,
    ⟨some 9, none, .load1 (.tmp 8)⟩,
    ⟨some 10, none, .load1 (.tmp 1)⟩,
    ⟨some 11, none, .nilck (.tmp 10)⟩,
    ⟨some 12, none, .faddr 2 (.tmp 11)⟩,
    ⟨some 13, none, .load1 (.tmp 12)⟩,
    ⟨some 14, none, .slcL 1 (.tmp 9) (some (.tmp 13)) none none⟩,
    ⟨some 15, none, .callV (.tmp 5) [(.tmp 14)]⟩,
    ⟨some 4, none, .mov (.tmp 15)⟩,
    ⟨some 16, none, .extr (.tmp 4) 0⟩,
    ⟨some 17, none, .extr (.tmp 4) 1⟩,
    ⟨none, none, .store 1 (.tmp 2) (.tmp 16)⟩,
    ⟨none, none, .store 1 (.tmp 3) (.tmp 17)⟩] [[⟨0, ⟨some 5, none, .load1 (.tmp 0)⟩, true, []⟩,
    ⟨1, ⟨some 6, none, .load1 (.tmp 1)⟩, true, []⟩,
    ⟨2, ⟨some 7, none, .nilck (.tmp 6)⟩, false, []⟩,
    ⟨3, ⟨some 8, none, .faddr 1 (.tmp 7)⟩, false, []⟩,
    ⟨4, ⟨some 9, none, .load1 (.tmp 8)⟩, true, []⟩,
    ⟨5, ⟨some 10, none, .load1 (.tmp 1)⟩, true, []⟩,
    ⟨6, ⟨some 11, none, .nilck (.tmp 10)⟩, false, []⟩,
    ⟨7, ⟨some 12, none, .faddr 2 (.tmp 11)⟩, false, []⟩,
    ⟨8, ⟨some 13, none, .load1 (.tmp 12)⟩, true, []⟩,
    ⟨9, ⟨some 14, none, .slcL 1 (.tmp 9) (some (.tmp 13)) none none⟩, false, []⟩],
   [⟨10, ⟨some 15, none, .callV (.tmp 5) [(.tmp 14)]⟩, false, []⟩],
   [⟨11, ⟨some 4, none, .mov (.tmp 15)⟩, false, []⟩],
   [⟨12, ⟨some 16, none, .extr (.tmp 4) 0⟩, false, []⟩,
    ⟨13, ⟨some 17, none, .extr (.tmp 4) 1⟩, false, []⟩,
    ⟨14, ⟨none, none, .store 1 (.tmp 2) (.tmp 16)⟩, false, []⟩],
   [⟨15, ⟨none, none, .store 1 (.tmp 3) (.tmp 17)⟩, false, []⟩]]

theorem fn198 : FnOK Tryz.prog 198 ⟨R198_0, [], 18⟩ :=
  ⟨Tryz.f198, Tryz.f198.body.getD .skip, Tryz.func198, by kernel_rfl, by kernel_rfl, by kernel_rfl, by kernel_rfl, by kernel_rfl⟩
-- 211: (*internal/sync.Mutex).Lock
def R211_0 : RC := .reg [⟨some 2, none, .ext 215 []⟩]
def R211_1 : RC := .reg [⟨some 3, none, .mov (.tmp 0)⟩,
    ⟨some 4, none, .nilck (.tmp 3)⟩,
    ⟨some 5, none, .faddr 0 (.tmp 4)⟩,
    ⟨some 6, none, .ext 216 [(.tmp 5), (.const (.int .i32 0)), (.const (.int .i32 1))]⟩]
def R211_2 : RC := .reg [⟨some 7, none, .ext 217 []⟩]
def R211_3 : RC := .reg [⟨some 8, none, .mov (.tmp 0)⟩,
    ⟨some 9, none, .cvUP (.tmp 8)⟩,
    ⟨some 10, none, .ext 218 [(.tmp 9)]⟩]
def R211_4 : RC := .seq R211_2 R211_3
def R211_5 : RC := .cond (.const (.bool true)) R211_4 (.skip)
def R211_6 : RC := .seq R211_5 (.ret)
def R211_7 : RC := .cond (.tmp 6) R211_6 (.skip)
def R211_8 : RC := .seq R211_1 R211_7
def R211_9 : RC := .reg [⟨some 11, none, .mov (.tmp 0)⟩,
    ⟨some 12, none, .call 219 [(.tmp 11)]⟩]
def R211_10 : RC := .seq R211_8 R211_9
def R211_11 : RC := .seq R211_0 R211_10

theorem fn211 : FnOK Tryz.prog 211 ⟨R211_11, [], 13⟩ :=
  ⟨Tryz.f211, Tryz.f211.body.getD .skip, Tryz.func211, by kernel_rfl, by kernel_rfl, by kernel_rfl, by kernel_rfl, by kernel_rfl⟩
-- 212: (*internal/sync.Mutex).Unlock
def R212_0 : RC := .reg [⟨some 3, none, .mov (.tmp 0)⟩,
    ⟨some 4, none, .nilck (.tmp 3)⟩,
    ⟨some 5, none, .faddr 0 (.tmp 4)⟩,
    ⟨some 6, none, .load1 (.tmp 5)⟩]
def R212_1 : RC := .reg [⟨some 7, none, .mov (.tmp 0)⟩,
    ⟨some 8, none, .cvUP (.tmp 7)⟩,
    ⟨some 9, none, .ext 220 [(.tmp 8)]⟩]
def R212_2 : RC := .reg [⟨some 10, none, .ext 215 []⟩]
def R212_3 : RC := .seq R212_1 R212_2
def R212_4 : RC := .seq R212_0 R212_3
def R212_5 : RC := .cond (.const (.bool true)) R212_4 (.skip)
def R212_6 : RC := .reg [⟨some 11, none, .mov (.tmp 0)⟩,
    ⟨some 12, none, .nilck (.tmp 11)⟩,
    ⟨some 13, none, .faddr 0 (.tmp 12)⟩,
    ⟨some 14, none, .ext 209 [(.tmp 13), (.const (.int .i32 (-1)))]⟩,
    ⟨some 2, none, .mov (.tmp 14)⟩]
def R212_7 : RC := .reg [⟨some 15, none, .mov (.tmp 2)⟩,
    ⟨some 16, none, .bin .neq 21 (.tmp 15) (.const (.int .i32 0))⟩]
def R212_8 : RC := .reg [⟨some 17, none, .mov (.tmp 0)⟩,
    ⟨some 18, none, .mov (.tmp 2)⟩,
    ⟨some 19, none, .call 221 [(.tmp 17), (.tmp 18)]⟩]
def R212_9 : RC := .cond (.tmp 16) R212_8 (.skip)
def R212_10 : RC := .seq R212_7 R212_9
def R212_11 : RC := .reg [⟨some 20, none, .ext 217 []⟩]
def R212_12 : RC := .seq R212_10 R212_11
def R212_13 : RC := .seq R212_6 R212_12
def R212_14 : RC := .seq R212_5 R212_13

theorem fn212 : FnOK Tryz.prog 212 ⟨R212_14, [], 21⟩ :=
  ⟨Tryz.f212, Tryz.f212.body.getD .skip, Tryz.func212, by kernel_rfl, by kernel_rfl, by kernel_rfl, by kernel_rfl, by kernel_rfl⟩
-- 214: sync/atomic.b32
def R214_0 : RC := .reg [⟨some 2, none, .mov (.const (.int .u32 0))⟩]
def R214_1 : RC := .reg [⟨some 3, none, .mov (.tmp 0)⟩]
def R214_2 : RC := .reg [⟨some 2, none, .mov (.const (.int .u32 1))⟩]
def R214_3 : RC := .seq R214_2 (.ret)
def R214_4 : RC := .cond (.tmp 3) R214_3 (.skip)
def R214_5 : RC := .seq R214_1 R214_4
def R214_6 : RC := .reg [⟨some 2, none, .mov (.const (.int .u32 0))⟩]
def R214_7 : RC := .seq R214_6 (.ret)
def R214_8 : RC := .seq R214_5 R214_7
def R214_9 : RC := .seq R214_0 R214_8

theorem fn214 : FnOK Tryz.prog 214 ⟨R214_9, [.tmp 2], 4⟩ :=
  ⟨Tryz.f214, Tryz.f214.body.getD .skip, Tryz.func214, by kernel_rfl, by kernel_rfl, by kernel_rfl, by kernel_rfl, by kernel_rfl⟩
-- 213: sync/atomic.StoreUint32
theorem xf213 : XfOK Tryz.prog 213 (.st) := xf_of Tryz.func213 (by kernel_rfl) (by kernel_rfl) (by kernel_rfl) (by kernel_rfl)
-- 215: internal/race.Disable
theorem xf215 : XfOK Tryz.prog 215 (.nop) := xf_nop (m := .disable) Tryz.func215 (by kernel_rfl) (by kernel_rfl) (by kernel_rfl) (by kernel_rfl)
-- 216: sync/atomic.CompareAndSwapInt32
theorem xf216 : XfOK Tryz.prog 216 (.cas .i32) := xf_of Tryz.func216 (by kernel_rfl) (by kernel_rfl) (by kernel_rfl) (by kernel_rfl)
-- 217: internal/race.Enable
theorem xf217 : XfOK Tryz.prog 217 (.nop) := xf_nop (m := .enable) Tryz.func217 (by kernel_rfl) (by kernel_rfl) (by kernel_rfl) (by kernel_rfl)
-- 218: internal/race.Acquire
theorem xf218 : XfOK Tryz.prog 218 (.mrk) := xf_mrk (m := .acquire) Tryz.func218 (by kernel_rfl) (by kernel_rfl) (by kernel_rfl) (by kernel_rfl)
-- 219: (*internal/sync.Mutex).lockSlow
def R219_0 : RC := .reg [⟨some 2, none, .mov (.const (.int .i64 0))⟩]
def R219_1 : RC := .reg [⟨some 3, none, .mov (.const (.bool false))⟩]
def R219_2 : RC := .reg [⟨some 4, none, .mov (.const (.bool false))⟩]
def R219_3 : RC := .reg [⟨some 5, none, .mov (.const (.int .i64 0))⟩]
def R219_4 : RC := .reg [⟨some 10, none, .mov (.tmp 0)⟩,
    ⟨some 11, none, .nilck (.tmp 10)⟩,
    ⟨some 12, none, .faddr 0 (.tmp 11)⟩,
    ⟨some 13, none, .load1 (.tmp 12)⟩,
    ⟨some 6, none, .mov (.tmp 13)⟩]
def R219_5 : RC := .reg [⟨some 14, none, .mov (.tmp 6)⟩,
    ⟨some 15, none, .bin .and 21 (.tmp 14) (.const (.int .i32 5))⟩,
    ⟨some 16, none, .bin .eql 21 (.tmp 15) (.const (.int .i32 1))⟩,
    ⟨some 17, none, .mov (.tmp 16)⟩,
    ⟨some 18, some (17, true), .mov (.tmp 5)⟩,
    ⟨some 19, some (17, true), .ext 222 [(.tmp 18)]⟩,
    ⟨some 20, none, .pick (.tmp 17) (.tmp 19) (.const (.bool false))⟩]
def R219_6 : RC := .reg [⟨some 21, none, .mov (.tmp 4)⟩,
    ⟨some 22, none, .un .not (.tmp 21)⟩,
    ⟨some 23, none, .mov (.tmp 22)⟩,
    ⟨some 24, some (23, true), .mov (.tmp 6)⟩,
    ⟨some 25, some (23, true), .bin .and 21 (.tmp 24) (.const (.int .i32 2))⟩,
    ⟨some 26, some (23, true), .bin .eql 21 (.tmp 25) (.const (.int .i32 0))⟩,
    ⟨some 27, none, .pick (.tmp 23) (.tmp 26) (.const (.bool false))⟩,
    ⟨some 28, none, .mov (.tmp 27)⟩,
    ⟨some 29, some (28, true), .mov (.tmp 6)⟩,
    ⟨some 30, some (28, true), .bin .shr 21 (.tmp 29) (.const (.int .u64 3))⟩,
    ⟨some 31, some (28, true), .bin .neq 21 (.tmp 30) (.const (.int .i32 0))⟩,
    ⟨some 32, none, .pick (.tmp 28) (.tmp 31) (.const (.bool false))⟩,
    ⟨some 33, none, .mov (.tmp 32)⟩,
    ⟨some 34, some (33, true), .mov (.tmp 0)⟩,
    ⟨some 35, some (33, true), .nilck (.tmp 34)⟩,
    ⟨some 36, some (33, true), .faddr 0 (.tmp 35)⟩,
    ⟨some 37, some (33, true), .mov (.tmp 6)⟩,
    ⟨some 38, some (33, true), .mov (.tmp 6)⟩,
    ⟨some 39, some (33, true), .bin .or 21 (.tmp 38) (.const (.int .i32 2))⟩,
    ⟨some 40, some (33, true), .ext 216 [(.tmp 36), (.tmp 37), (.tmp 39)]⟩,
    ⟨some 41, none, .pick (.tmp 33) (.tmp 40) (.const (.bool false))⟩]
def R219_7 : RC := .reg [⟨some 4, none, .mov (.const (.bool true))⟩]
def R219_8 : RC := .cond (.tmp 41) R219_7 (.skip)
def R219_9 : RC := .seq R219_6 R219_8
def R219_10 : RC := .reg [⟨some 42, none, .ext 223 []⟩]
def R219_11 : RC := .reg [⟨some 43, none, .mov (.tmp 5)⟩,
    ⟨some 44, none, .bin .add 3 (.tmp 43) (.const (.int .i64 1))⟩,
    ⟨some 5, none, .mov (.tmp 44)⟩]
def R219_12 : RC := .reg [⟨some 45, none, .mov (.tmp 0)⟩,
    ⟨some 46, none, .nilck (.tmp 45)⟩,
    ⟨some 47, none, .faddr 0 (.tmp 46)⟩,
    ⟨some 48, none, .load1 (.tmp 47)⟩,
    ⟨some 6, none, .mov (.tmp 48)⟩]
def R219_13 : RC := .seq R219_12 (.exit 1)
def R219_14 : RC := .seq R219_11 R219_13
def R219_15 : RC := .seq R219_10 R219_14
def R219_16 : RC := .seq R219_9 R219_15
def R219_17 : RC := .cond (.tmp 20) R219_16 (.skip)
def R219_18 : RC := .seq R219_5 R219_17
def R219_19 : RC := .reg [⟨some 49, none, .mov (.tmp 6)⟩,
    ⟨some 7, none, .mov (.tmp 49)⟩]
def R219_20 : RC := .reg [⟨some 50, none, .mov (.tmp 6)⟩,
    ⟨some 51, none, .bin .and 21 (.tmp 50) (.const (.int .i32 4))⟩,
    ⟨some 52, none, .bin .eql 21 (.tmp 51) (.const (.int .i32 0))⟩]
def R219_21 : RC := .reg [⟨some 53, none, .mov (.tmp 7)⟩,
    ⟨some 54, none, .bin .or 21 (.tmp 53) (.const (.int .i32 1))⟩,
    ⟨some 7, none, .mov (.tmp 54)⟩]
def R219_22 : RC := .cond (.tmp 52) R219_21 (.skip)
def R219_23 : RC := .seq R219_20 R219_22
def R219_24 : RC := .reg [⟨some 55, none, .mov (.tmp 6)⟩,
    ⟨some 56, none, .bin .and 21 (.tmp 55) (.const (.int .i32 5))⟩,
    ⟨some 57, none, .bin .neq 21 (.tmp 56) (.const (.int .i32 0))⟩]
def R219_25 : RC := .reg [⟨some 58, none, .mov (.tmp 7)⟩,
    ⟨some 59, none, .bin .add 21 (.tmp 58) (.const (.int .i32 8))⟩,
    ⟨some 7, none, .mov (.tmp 59)⟩]
def R219_26 : RC := .cond (.tmp 57) R219_25 (.skip)
def R219_27 : RC := .seq R219_24 R219_26
def R219_28 : RC := .reg [⟨some 60, none, .mov (.tmp 3)⟩,
    ⟨some 61, none, .mov (.tmp 60)⟩,
    ⟨some 62, some (61, true), .mov (.tmp 6)⟩,
    ⟨some 63, some (61, true), .bin .and 21 (.tmp 62) (.const (.int .i32 1))⟩,
    ⟨some 64, some (61, true), .bin .neq 21 (.tmp 63) (.const (.int .i32 0))⟩,
    ⟨some 65, none, .pick (.tmp 61) (.tmp 64) (.const (.bool false))⟩]
def R219_29 : RC := .reg [⟨some 66, none, .mov (.tmp 7)⟩,
    ⟨some 67, none, .bin .or 21 (.tmp 66) (.const (.int .i32 4))⟩,
    ⟨some 7, none, .mov (.tmp 67)⟩]
def R219_30 : RC := .cond (.tmp 65) R219_29 (.skip)
def R219_31 : RC := .seq R219_28 R219_30
def R219_32 : RC := .reg [⟨some 68, none, .mov (.tmp 4)⟩]
def R219_33 : RC := .reg [⟨some 69, none, .mov (.tmp 7)⟩,
    ⟨some 70, none, .bin .and 21 (.tmp 69) (.const (.int .i32 2))⟩,
    ⟨some 71, none, .bin .eql 21 (.tmp 70) (.const (.int .i32 0))⟩]
def R219_34 : RC := .reg [⟨some 72, none, .ext 224 [(.const (.string ⟨#[115, 121, 110, 99, 58, 32, 105, 110, 99, 111, 110, 115, 105, 115, 116, 101, 110, 116, 32, 109, 117, 116, 101, 120, 32, 115, 116, 97, 116, 101]⟩))]⟩]
def R219_35 : RC := .cond (.tmp 71) R219_34 (.skip)
def R219_36 : RC := .seq R219_33 R219_35
def R219_37 : RC := .reg [⟨some 73, none, .mov (.tmp 7)⟩,
    ⟨some 74, none, .bin .andNot 21 (.tmp 73) (.const (.int .i32 2))⟩,
    ⟨some 7, none, .mov (.tmp 74)⟩]
def R219_38 : RC := .seq R219_36 R219_37
def R219_39 : RC := .cond (.tmp 68) R219_38 (.skip)
def R219_40 : RC := .seq R219_32 R219_39
def R219_41 : RC := .reg [⟨some 75, none, .mov (.tmp 0)⟩,
    ⟨some 76, none, .nilck (.tmp 75)⟩,
    ⟨some 77, none, .faddr 0 (.tmp 76)⟩,
    ⟨some 78, none, .mov (.tmp 6)⟩,
    ⟨some 79, none, .mov (.tmp 7)⟩,
    ⟨some 80, none, .ext 216 [(.tmp 77), (.tmp 78), (.tmp 79)]⟩]
def R219_42 : RC := .reg [⟨some 81, none, .mov (.tmp 6)⟩,
    ⟨some 82, none, .bin .and 21 (.tmp 81) (.const (.int .i32 5))⟩,
    ⟨some 83, none, .bin .eql 21 (.tmp 82) (.const (.int .i32 0))⟩]
def R219_43 : RC := .cond (.tmp 83) (.exit 0) (.skip)
def R219_44 : RC := .seq R219_42 R219_43
def R219_45 : RC := .reg [⟨some 84, none, .mov (.tmp 2)⟩,
    ⟨some 85, none, .bin .neq 2 (.tmp 84) (.const (.int .i64 0))⟩,
    ⟨some 8, none, .mov (.tmp 85)⟩]
def R219_46 : RC := .reg [⟨some 86, none, .mov (.tmp 2)⟩,
    ⟨some 87, none, .bin .eql 2 (.tmp 86) (.const (.int .i64 0))⟩]
def R219_47 : RC := .reg [⟨some 88, none, .ext 225 []⟩,
    ⟨some 2, none, .mov (.tmp 88)⟩]
def R219_48 : RC := .cond (.tmp 87) R219_47 (.skip)
def R219_49 : RC := .seq R219_46 R219_48
def R219_50 : RC := .reg [⟨some 89, none, .mov (.tmp 0)⟩,
    ⟨some 90, none, .nilck (.tmp 89)⟩,
    ⟨some 91, none, .faddr 1 (.tmp 90)⟩,
    ⟨some 92, none, .mov (.tmp 8)⟩,
    ⟨some 93, none, .ext 226 [(.tmp 91), (.tmp 92), (.const (.int .i64 2))]⟩]
def R219_51 : RC := .reg [⟨some 94, none, .mov (.tmp 3)⟩,
    ⟨some 95, none, .mov (.tmp 94)⟩,
    ⟨some 96, some (95, false), .ext 225 []⟩,
    ⟨some 97, some (95, false), .mov (.tmp 2)⟩,
    ⟨some 98, some (95, false), .bin .sub 2 (.tmp 96) (.tmp 97)⟩,
    ⟨some 99, some (95, false), .bin .gtr 2 (.tmp 98) (.const (.int .i64 1000000))⟩,
    ⟨some 100, none, .pick (.tmp 95) (.const (.bool true)) (.tmp 99)⟩,
    ⟨some 3, none, .mov (.tmp 100)⟩]
def R219_52 : RC := .reg [⟨some 101, none, .mov (.tmp 0)⟩,
    ⟨some 102, none, .nilck (.tmp 101)⟩,
    ⟨some 103, none, .faddr 0 (.tmp 102)⟩,
    ⟨some 104, none, .load1 (.tmp 103)⟩,
    ⟨some 6, none, .mov (.tmp 104)⟩]
def R219_53 : RC := .reg [⟨some 105, none, .mov (.tmp 6)⟩,
    ⟨some 106, none, .bin .and 21 (.tmp 105) (.const (.int .i32 4))⟩,
    ⟨some 107, none, .bin .neq 21 (.tmp 106) (.const (.int .i32 0))⟩]
def R219_54 : RC := .reg [⟨some 108, none, .mov (.tmp 6)⟩,
    ⟨some 109, none, .bin .and 21 (.tmp 108) (.const (.int .i32 3))⟩,
    ⟨some 110, none, .bin .neq 21 (.tmp 109) (.const (.int .i32 0))⟩,
    ⟨some 111, none, .mov (.tmp 110)⟩,
    ⟨some 112, some (111, false), .mov (.tmp 6)⟩,
    ⟨some 113, some (111, false), .bin .shr 21 (.tmp 112) (.const (.int .u64 3))⟩,
    ⟨some 114, some (111, false), .bin .eql 21 (.tmp 113) (.const (.int .i32 0))⟩,
    ⟨some 115, none, .pick (.tmp 111) (.const (.bool true)) (.tmp 114)⟩]
def R219_55 : RC := .reg [⟨some 116, none, .ext 224 [(.const (.string ⟨#[115, 121, 110, 99, 58, 32, 105, 110, 99, 111, 110, 115, 105, 115, 116, 101, 110, 116, 32, 109, 117, 116, 101, 120, 32, 115, 116, 97, 116, 101]⟩))]⟩]
def R219_56 : RC := .cond (.tmp 115) R219_55 (.skip)
def R219_57 : RC := .seq R219_54 R219_56
def R219_58 : RC := .reg [⟨some 9, none, .mov (.const (.int .i32 (-7)))⟩]
def R219_59 : RC := .reg [⟨some 117, none, .mov (.tmp 3)⟩,
    ⟨some 118, none, .un .not (.tmp 117)⟩,
    ⟨some 119, none, .mov (.tmp 118)⟩,
    ⟨some 120, some (119, false), .mov (.tmp 6)⟩,
    ⟨some 121, some (119, false), .bin .shr 21 (.tmp 120) (.const (.int .u64 3))⟩,
    ⟨some 122, some (119, false), .bin .eql 21 (.tmp 121) (.const (.int .i32 1))⟩,
    ⟨some 123, none, .pick (.tmp 119) (.const (.bool true)) (.tmp 122)⟩]
def R219_60 : RC := .reg [⟨some 124, none, .mov (.tmp 9)⟩,
    ⟨some 125, none, .bin .sub 21 (.tmp 124) (.const (.int .i32 4))⟩,
    ⟨some 9, none, .mov (.tmp 125)⟩]
def R219_61 : RC := .cond (.tmp 123) R219_60 (.skip)
def R219_62 : RC := .seq R219_59 R219_61
def R219_63 : RC := .reg [⟨some 126, none, .mov (.tmp 0)⟩,
    ⟨some 127, none, .nilck (.tmp 126)⟩,
    ⟨some 128, none, .faddr 0 (.tmp 127)⟩,
    ⟨some 129, none, .mov (.tmp 9)⟩,
    ⟨some 130, none, .ext 209 [(.tmp 128), (.tmp 129)]⟩]
def R219_64 : RC := .seq R219_63 (.exit 0)
def R219_65 : RC := .seq R219_62 R219_64
def R219_66 : RC := .seq R219_58 R219_65
def R219_67 : RC := .seq R219_57 R219_66
def R219_68 : RC := .cond (.tmp 107) R219_67 (.skip)
def R219_69 : RC := .seq R219_53 R219_68
def R219_70 : RC := .reg [⟨some 4, none, .mov (.const (.bool true))⟩]
def R219_71 : RC := .reg [⟨some 5, none, .mov (.const (.int .i64 0))⟩]
def R219_72 : RC := .seq R219_70 R219_71
def R219_73 : RC := .seq R219_69 R219_72
def R219_74 : RC := .seq R219_52 R219_73
def R219_75 : RC := .seq R219_51 R219_74
def R219_76 : RC := .seq R219_50 R219_75
def R219_77 : RC := .seq R219_49 R219_76
def R219_78 : RC := .seq R219_45 R219_77
def R219_79 : RC := .seq R219_44 R219_78
def R219_80 : RC := .reg [⟨some 131, none, .mov (.tmp 0)⟩,
    ⟨some 132, none, .nilck (.tmp 131)⟩,
    ⟨some 133, none, .faddr 0 (.tmp 132)⟩,
    ⟨some 134, none, .load1 (.tmp 133)⟩,
    ⟨some 6, none, .mov (.tmp 134)⟩]
def R219_81 : RC := .cond (.tmp 80) R219_79 R219_80
def R219_82 : RC := .seq R219_41 R219_81
def R219_83 : RC := .seq R219_40 R219_82
def R219_84 : RC := .seq R219_31 R219_83
def R219_85 : RC := .seq R219_27 R219_84
def R219_86 : RC := .seq R219_23 R219_85
def R219_87 : RC := .seq R219_19 R219_86
def R219_88 : RC := .seq R219_18 R219_87
def R219_89 : RC := .block 1 R219_88
def R219_90 : RC := .loop R219_89
def R219_91 : RC := .block 0 R219_90
def R219_92 : RC := .reg [⟨some 135, none, .ext 217 []⟩]
def R219_93 : RC := .reg [⟨some 136, none, .mov (.tmp 0)⟩,
    ⟨some 137, none, .cvUP (.tmp 136)⟩,
    ⟨some 138, none, .ext 218 [(.tmp 137)]⟩]
def R219_94 : RC := .seq R219_92 R219_93
def R219_95 : RC := .cond (.const (.bool true)) R219_94 (.skip)
def R219_96 : RC := .seq R219_91 R219_95
def R219_97 : RC := .seq R219_4 R219_96
def R219_98 : RC := .seq R219_3 R219_97
def R219_99 : RC := .seq R219_2 R219_98
def R219_100 : RC := .seq R219_1 R219_99
def R219_101 : RC := .seq R219_0 R219_100

theorem fn219 : FnOK Tryz.prog 219 ⟨R219_101, [], 139⟩ :=
  ⟨Tryz.f219, Tryz.f219.body.getD .skip, Tryz.func219, by kernel_rfl, by kernel_rfl, by kernel_rfl, by kernel_rfl, by kernel_rfl⟩
-- 220: internal/race.ReleaseMerge
theorem xf220 : XfOK Tryz.prog 220 (.mrk) := xf_mrk (m := .releaseMerge) Tryz.func220 (by kernel_rfl) (by kernel_rfl) (by kernel_rfl) (by kernel_rfl)
-- 221: (*internal/sync.Mutex).unlockSlow
def R221_0 : RC := .reg [⟨some 5, none, .mov (.tmp 1)⟩,
    ⟨some 6, none, .bin .add 21 (.tmp 5) (.const (.int .i32 1))⟩,
    ⟨some 7, none, .bin .and 21 (.tmp 6) (.const (.int .i32 1))⟩,
    ⟨some 8, none, .bin .eql 21 (.tmp 7) (.const (.int .i32 0))⟩]
def R221_1 : RC := .reg [⟨some 9, none, .ext 227 [(.const (.string ⟨#[115, 121, 110, 99, 58, 32, 117, 110, 108, 111, 99, 107, 32, 111, 102, 32, 117, 110, 108, 111, 99, 107, 101, 100, 32, 109, 117, 116, 101, 120]⟩))]⟩]
def R221_2 : RC := .cond (.tmp 8) R221_1 (.skip)
def R221_3 : RC := .seq R221_0 R221_2
def R221_4 : RC := .reg [⟨some 10, none, .mov (.tmp 1)⟩,
    ⟨some 11, none, .bin .and 21 (.tmp 10) (.const (.int .i32 4))⟩,
    ⟨some 12, none, .bin .eql 21 (.tmp 11) (.const (.int .i32 0))⟩]
def R221_5 : RC := .reg [⟨some 13, none, .mov (.tmp 1)⟩,
    ⟨some 4, none, .mov (.tmp 13)⟩]
def R221_6 : RC := .reg [⟨some 14, none, .mov (.tmp 4)⟩,
    ⟨some 15, none, .bin .shr 21 (.tmp 14) (.const (.int .u64 3))⟩,
    ⟨some 16, none, .bin .eql 21 (.tmp 15) (.const (.int .i32 0))⟩,
    ⟨some 17, none, .mov (.tmp 16)⟩,
    ⟨some 18, some (17, false), .mov (.tmp 4)⟩,
    ⟨some 19, some (17, false), .bin .and 21 (.tmp 18) (.const (.int .i32 7))⟩,
    ⟨some 20, some (17, false), .bin .neq 21 (.tmp 19) (.const (.int .i32 0))⟩,
    ⟨some 21, none, .pick (.tmp 17) (.const (.bool true)) (.tmp 20)⟩]
def R221_7 : RC := .cond (.tmp 21) (.ret) (.skip)
def R221_8 : RC := .seq R221_6 R221_7
def R221_9 : RC := .reg [⟨some 22, none, .mov (.tmp 4)⟩,
    ⟨some 23, none, .bin .sub 21 (.tmp 22) (.const (.int .i32 8))⟩,
    ⟨some 24, none, .bin .or 21 (.tmp 23) (.const (.int .i32 2))⟩,
    ⟨some 1, none, .mov (.tmp 24)⟩]
def R221_10 : RC := .reg [⟨some 25, none, .mov (.tmp 0)⟩,
    ⟨some 26, none, .nilck (.tmp 25)⟩,
    ⟨some 27, none, .faddr 0 (.tmp 26)⟩,
    ⟨some 28, none, .mov (.tmp 4)⟩,
    ⟨some 29, none, .mov (.tmp 1)⟩,
    ⟨some 30, none, .ext 216 [(.tmp 27), (.tmp 28), (.tmp 29)]⟩]
def R221_11 : RC := .reg [⟨some 31, none, .mov (.tmp 0)⟩,
    ⟨some 32, none, .nilck (.tmp 31)⟩,
    ⟨some 33, none, .faddr 1 (.tmp 32)⟩,
    ⟨some 34, none, .ext 228 [(.tmp 33), (.const (.bool false)), (.const (.int .i64 2))]⟩]
def R221_12 : RC := .seq R221_11 (.ret)
def R221_13 : RC := .cond (.tmp 30) R221_12 (.skip)
def R221_14 : RC := .seq R221_10 R221_13
def R221_15 : RC := .reg [⟨some 35, none, .mov (.tmp 0)⟩,
    ⟨some 36, none, .nilck (.tmp 35)⟩,
    ⟨some 37, none, .faddr 0 (.tmp 36)⟩,
    ⟨some 38, none, .load1 (.tmp 37)⟩,
    ⟨some 4, none, .mov (.tmp 38)⟩]
def R221_16 : RC := .seq R221_14 R221_15
def R221_17 : RC := .seq R221_9 R221_16
def R221_18 : RC := .seq R221_8 R221_17
def R221_19 : RC := .block 1 R221_18
def R221_20 : RC := .loop R221_19
def R221_21 : RC := .block 0 R221_20
def R221_22 : RC := .seq R221_5 R221_21
def R221_23 : RC := .reg [⟨some 39, none, .mov (.tmp 0)⟩,
    ⟨some 40, none, .nilck (.tmp 39)⟩,
    ⟨some 41, none, .faddr 1 (.tmp 40)⟩,
    ⟨some 42, none, .ext 228 [(.tmp 41), (.const (.bool true)), (.const (.int .i64 2))]⟩]
def R221_24 : RC := .cond (.tmp 12) R221_22 R221_23
def R221_25 : RC := .seq R221_4 R221_24
def R221_26 : RC := .seq R221_3 R221_25

theorem fn221 : FnOK Tryz.prog 221 ⟨R221_26, [], 43⟩ :=
  ⟨Tryz.f221, Tryz.f221.body.getD .skip, Tryz.func221, by kernel_rfl, by kernel_rfl, by kernel_rfl, by kernel_rfl, by kernel_rfl⟩
noncomputable def tab : T Fn' := (.nd none (.nd none (.nd (some ⟨R9_9, [.tmp 2], 11⟩) (.nd (some ⟨R73_23, [.tmp 2], 29⟩) .nil .nil .nil .nil .nil .nil .nil .nil) (.nd (some ⟨R137_14, [.tmp 4], 30⟩) .nil .nil .nil .nil .nil .nil .nil .nil) .nil .nil .nil .nil .nil .nil) (.nd (some ⟨R17_3, [.tmp 2], 9⟩) (.nd (some ⟨R81_13, [.tmp 2, .tmp 3], 12⟩) .nil .nil .nil .nil .nil .nil .nil .nil) (.nd (some ⟨R145_67, [.tmp 2, .tmp 3], 164⟩) .nil .nil .nil .nil .nil .nil .nil .nil) .nil .nil .nil .nil .nil .nil) (.nd none .nil (.nd (some ⟨R153_0, [], 4⟩) .nil .nil .nil .nil .nil .nil .nil .nil) .nil .nil .nil .nil .nil .nil) (.nd none .nil (.nd (some ⟨R161_0, [], 18⟩) .nil .nil .nil .nil .nil .nil .nil .nil) .nil .nil .nil .nil .nil .nil) (.nd (some ⟨R41_9, [.tmp 2], 8⟩) (.nd (some ⟨R105_78, [.tmp 4], 128⟩) .nil .nil .nil .nil .nil .nil .nil .nil) (.nd (some ⟨R169_5, [], 8⟩) .nil .nil .nil .nil .nil .nil .nil .nil) .nil .nil .nil .nil .nil .nil) (.nd none (.nd (some ⟨R113_9, [.tmp 2], 10⟩) .nil .nil .nil .nil .nil .nil .nil .nil) (.nd (some ⟨R177_5, [], 8⟩) .nil .nil .nil .nil .nil .nil .nil .nil) .nil .nil .nil .nil .nil .nil) (.nd none (.nd (some ⟨R121_5, [.tmp 4], 17⟩) .nil .nil .nil .nil .nil .nil .nil .nil) .nil .nil .nil .nil .nil .nil .nil) (.nd (some ⟨R65_3, [.tmp 0], 3⟩) .nil .nil .nil .nil .nil .nil .nil .nil)) (.nd none (.nd (some ⟨R10_17, [.tmp 2], 24⟩) (.nd (some ⟨R74_15, [], 13⟩) .nil .nil .nil .nil .nil .nil .nil .nil) (.nd (some ⟨R138_3, [.tmp 2], 6⟩) .nil .nil .nil .nil .nil .nil .nil .nil) .nil .nil .nil .nil .nil .nil) (.nd (some ⟨R18_23, [.tmp 2], 46⟩) (.nd (some ⟨R82_3, [.tmp 4], 10⟩) .nil .nil .nil .nil .nil .nil .nil .nil) (.nd (some ⟨R146_34, [.tmp 4], 57⟩) .nil .nil .nil .nil .nil .nil .nil .nil) .nil .nil .nil .nil .nil .nil) (.nd none .nil (.nd (some ⟨R154_27, [.cellN 2 5], 68⟩) .nil .nil .nil .nil .nil .nil .nil .nil) .nil .nil .nil .nil .nil .nil) (.nd (some ⟨R34_76, [.tmp 4, .tmp 5], 148⟩) .nil (.nd (some ⟨R162_3, [], 9⟩) .nil .nil .nil .nil .nil .nil .nil .nil) .nil .nil .nil .nil .nil .nil) (.nd (some ⟨R42_31, [.cell1 4], 37⟩) (.nd (some ⟨R106_5, [.tmp 4], 25⟩) .nil .nil .nil .nil .nil .nil .nil .nil) (.nd (some ⟨R170_24, [.tmp 4], 43⟩) .nil .nil .nil .nil .nil .nil .nil .nil) .nil .nil .nil .nil .nil .nil) (.nd none (.nd (some ⟨R114_17, [.tmp 2], 19⟩) .nil .nil .nil .nil .nil .nil .nil .nil) (.nd (some ⟨R178_15, [.tmp 2, .tmp 3, .tmp 4], 17⟩) .nil .nil .nil .nil .nil .nil .nil .nil) .nil .nil .nil .nil .nil .nil) .nil (.nd (some ⟨R66_11, [.tmp 4], 17⟩) .nil (.nd (some ⟨R194_3, [.tmp 2], 8⟩) .nil .nil .nil .nil .nil .nil .nil .nil) .nil .nil .nil .nil .nil .nil)) (.nd (some ⟨R3_55, [.tmp 2], 104⟩) (.nd (some ⟨R11_9, [.tmp 2], 27⟩) (.nd (some ⟨R75_3, [], 9⟩) .nil .nil .nil .nil .nil .nil .nil .nil) (.nd (some ⟨R139_26, [.tmp 4, .tmp 5], 42⟩) .nil .nil .nil .nil .nil .nil .nil .nil) .nil .nil .nil .nil .nil .nil) (.nd (some ⟨R19_3, [.tmp 4], 18⟩) (.nd (some ⟨R83_22, [.tmp 6, .tmp 7], 49⟩) .nil .nil .nil .nil .nil .nil .nil .nil) .nil (.nd (some ⟨R211_11, [], 13⟩) .nil .nil .nil .nil .nil .nil .nil .nil) .nil .nil .nil .nil .nil) (.nd none .nil (.nd (some ⟨R155_9, [.tmp 2, .tmp 3], 13⟩) .nil .nil .nil .nil .nil .nil .nil .nil) (.nd (some ⟨R219_101, [], 139⟩) .nil .nil .nil .nil .nil .nil .nil .nil) .nil .nil .nil .nil .nil) (.nd (some ⟨R35_19, [.tmp 2, .tmp 3], 66⟩) .nil (.nd (some ⟨R163_3, [.tmp 4, .tmp 5, .tmp 6], 12⟩) .nil .nil .nil .nil .nil .nil .nil .nil) .nil .nil .nil .nil .nil .nil) (.nd (some ⟨R43_3, [.tmp 2], 7⟩) (.nd (some ⟨R107_16, [.tmp 2], 19⟩) .nil .nil .nil .nil .nil .nil .nil .nil) (.nd (some ⟨R171_29, [.tmp 2, .tmp 3], 57⟩) .nil .nil .nil .nil .nil .nil .nil .nil) .nil .nil .nil .nil .nil .nil) (.nd none .nil (.nd (some ⟨R179_3, [.tmp 2, .tmp 3], 9⟩) .nil .nil .nil .nil .nil .nil .nil .nil) .nil .nil .nil .nil .nil .nil) (.nd none (.nd (some ⟨R123_3, [.tmp 2], 6⟩) .nil .nil .nil .nil .nil .nil .nil .nil) .nil .nil .nil .nil .nil .nil .nil) (.nd (some ⟨R67_13, [.tmp 4, .tmp 5], 14⟩) .nil (.nd (some ⟨R195_9, [], 21⟩) .nil .nil .nil .nil .nil .nil .nil .nil) .nil .nil .nil .nil .nil .nil)) (.nd none (.nd (some ⟨R12_3, [.tmp 4], 15⟩) (.nd (some ⟨R76_76, [], 249⟩) .nil .nil .nil .nil .nil .nil .nil .nil) (.nd (some ⟨R140_27, [.tmp 6], 43⟩) .nil .nil .nil .nil .nil .nil .nil .nil) .nil .nil .nil .nil .nil .nil) (.nd none (.nd (some ⟨R84_3, [.tmp 4], 9⟩) .nil .nil .nil .nil .nil .nil .nil .nil) .nil (.nd (some ⟨R212_14, [], 21⟩) .nil .nil .nil .nil .nil .nil .nil .nil) .nil .nil .nil .nil .nil) (.nd none .nil (.nd (some ⟨R156_25, [.tmp 2], 25⟩) .nil .nil .nil .nil .nil .nil .nil .nil) .nil .nil .nil .nil .nil .nil) (.nd (some ⟨R36_11, [.cell1 2, .cell1 3], 18⟩) .nil (.nd (some ⟨R164_3, [.tmp 4], 8⟩) .nil .nil .nil .nil .nil .nil .nil .nil) .nil .nil .nil .nil .nil .nil) (.nd (some ⟨R44_3, [.tmp 2], 12⟩) (.nd (some ⟨R108_15, [.tmp 2], 12⟩) .nil .nil .nil .nil .nil .nil .nil .nil) (.nd (some ⟨R172_3, [], 9⟩) .nil .nil .nil .nil .nil .nil .nil .nil) .nil .nil .nil .nil .nil .nil) (.nd none .nil (.nd (some ⟨R180_24, [.tmp 4, .tmp 5], 37⟩) .nil .nil .nil .nil .nil .nil .nil .nil) .nil .nil .nil .nil .nil .nil) (.nd none (.nd (some ⟨R124_3, [.tmp 4], 8⟩) .nil .nil .nil .nil .nil .nil .nil .nil) .nil .nil .nil .nil .nil .nil .nil) (.nd (some ⟨R68_7, [.cellN 4 2], 31⟩) (.nd (some ⟨R132_13, [.cellN 2 5, .tmp 3], 13⟩) .nil .nil .nil .nil .nil .nil .nil .nil) (.nd (some ⟨R196_3, [.tmp 4], 10⟩) .nil .nil .nil .nil .nil .nil .nil .nil) .nil .nil .nil .nil .nil .nil)) (.nd none (.nd (some ⟨R13_9, [.tmp 2], 10⟩) (.nd (some ⟨R77_22, [.tmp 6, .tmp 7], 49⟩) .nil .nil .nil .nil .nil .nil .nil .nil) (.nd (some ⟨R141_9, [.tmp 2], 8⟩) .nil .nil .nil .nil .nil .nil .nil .nil) .nil .nil .nil .nil .nil .nil) (.nd none (.nd (some ⟨R85_3, [.tmp 6], 8⟩) .nil .nil .nil .nil .nil .nil .nil .nil) .nil .nil .nil .nil .nil .nil .nil) (.nd none .nil (.nd (some ⟨R157_15, [], 18⟩) .nil .nil .nil .nil .nil .nil .nil .nil) (.nd (some ⟨R221_26, [], 43⟩) .nil .nil .nil .nil .nil .nil .nil .nil) .nil .nil .nil .nil .nil) (.nd (some ⟨R37_3, [.tmp 2], 12⟩) (.nd (some ⟨R101_3, [.tmp 6], 15⟩) .nil .nil .nil .nil .nil .nil .nil .nil) (.nd (some ⟨R165_36, [.tmp 4], 48⟩) .nil .nil .nil .nil .nil .nil .nil .nil) .nil .nil .nil .nil .nil .nil) (.nd (some ⟨R45_28, [.tmp 6], 71⟩) (.nd (some ⟨R109_3, [.tmp 2], 7⟩) .nil .nil .nil .nil .nil .nil .nil .nil) (.nd (some ⟨R173_5, [.tmp 4], 14⟩) .nil .nil .nil .nil .nil .nil .nil .nil) .nil .nil .nil .nil .nil .nil) (.nd none (.nd (some ⟨R117_15, [], 23⟩) .nil .nil .nil .nil .nil .nil .nil .nil) (.nd (some ⟨R181_23, [.tmp 4], 39⟩) .nil .nil .nil .nil .nil .nil .nil .nil) .nil .nil .nil .nil .nil .nil) .nil (.nd (some ⟨R69_3, [.tmp 2], 12⟩) (.nd (some ⟨R133_17, [.tmp 4, .tmp 5], 23⟩) .nil .nil .nil .nil .nil .nil .nil .nil) (.nd (some ⟨R197_0, [], 8⟩) .nil .nil .nil .nil .nil .nil .nil .nil) .nil .nil .nil .nil .nil .nil)) (.nd (some ⟨R6_19, [.tmp 0], 79⟩) (.nd (some ⟨R14_28, [.tmp 2], 26⟩) (.nd (some ⟨R78_3, [.tmp 4], 8⟩) .nil .nil .nil .nil .nil .nil .nil .nil) (.nd (some ⟨R142_23, [.tmp 4], 39⟩) .nil .nil .nil .nil .nil .nil .nil .nil) (.nd (some ⟨R206_0, [], 6⟩) .nil .nil .nil .nil .nil .nil .nil .nil) .nil .nil .nil .nil .nil) (.nd none .nil .nil (.nd (some ⟨R214_9, [.tmp 2], 4⟩) .nil .nil .nil .nil .nil .nil .nil .nil) .nil .nil .nil .nil .nil) (.nd none .nil (.nd (some ⟨R158_11, [.tmp 2], 18⟩) .nil .nil .nil .nil .nil .nil .nil .nil) .nil .nil .nil .nil .nil .nil) (.nd (some ⟨R38_5, [.tmp 4], 17⟩) (.nd (some ⟨R102_13, [.tmp 2, .tmp 3, .tmp 4, .tmp 5], 31⟩) .nil .nil .nil .nil .nil .nil .nil .nil) .nil .nil .nil .nil .nil .nil .nil) (.nd (some ⟨R46_3, [.tmp 2], 3⟩) (.nd (some ⟨R110_7, [.tmp 1], 10⟩) .nil .nil .nil .nil .nil .nil .nil .nil) (.nd (some ⟨R174_3, [], 12⟩) .nil .nil .nil .nil .nil .nil .nil .nil) .nil .nil .nil .nil .nil .nil) (.nd none (.nd (some ⟨R118_7, [.tmp 2, .tmp 3], 17⟩) .nil .nil .nil .nil .nil .nil .nil .nil) (.nd (some ⟨R182_7, [.tmp 3, .tmp 4], 18⟩) .nil .nil .nil .nil .nil .nil .nil .nil) .nil .nil .nil .nil .nil .nil) .nil (.nd (some ⟨R70_44, [.tmp 4, .tmp 5], 62⟩) (.nd (some ⟨R134_5, [], 8⟩) .nil .nil .nil .nil .nil .nil .nil .nil) (.nd (some ⟨R198_0, [], 18⟩) .nil .nil .nil .nil .nil .nil .nil .nil) .nil .nil .nil .nil .nil .nil)) (.nd (some ⟨R7_27, [.tmp 4, .tmp 5], 39⟩) (.nd (some ⟨R15_9, [.tmp 2], 9⟩) (.nd (some ⟨R79_3, [.tmp 4], 10⟩) .nil .nil .nil .nil .nil .nil .nil .nil) (.nd (some ⟨R143_31, [.tmp 2, .tmp 3], 56⟩) .nil .nil .nil .nil .nil .nil .nil .nil) (.nd (some ⟨R207_0, [], 6⟩) .nil .nil .nil .nil .nil .nil .nil .nil) .nil .nil .nil .nil .nil) .nil (.nd none .nil (.nd (some ⟨R159_3, [.tmp 2], 4⟩) .nil .nil .nil .nil .nil .nil .nil .nil) .nil .nil .nil .nil .nil .nil) (.nd (some ⟨R39_21, [.tmp 4], 78⟩) (.nd (some ⟨R103_7, [.cell1 2], 6⟩) .nil .nil .nil .nil .nil .nil .nil .nil) .nil .nil .nil .nil .nil .nil .nil) (.nd (some ⟨R47_5, [.tmp 3], 13⟩) (.nd (some ⟨R111_3, [.tmp 2], 5⟩) .nil .nil .nil .nil .nil .nil .nil .nil) (.nd (some ⟨R175_37, [], 32⟩) .nil .nil .nil .nil .nil .nil .nil .nil) .nil .nil .nil .nil .nil .nil) (.nd none (.nd (some ⟨R119_19, [], 24⟩) .nil .nil .nil .nil .nil .nil .nil .nil) .nil .nil .nil .nil .nil .nil .nil) (.nd (some ⟨R63_3, [.tmp 2], 16⟩) .nil .nil .nil .nil .nil .nil .nil .nil) (.nd (some ⟨R71_21, [], 50⟩) (.nd (some ⟨R135_3, [], 9⟩) .nil .nil .nil .nil .nil .nil .nil .nil) .nil .nil .nil .nil .nil .nil .nil)) (.nd (some ⟨R8_9, [.tmp 2], 10⟩) (.nd (some ⟨R16_11, [.cellN 2 2, .tmp 3], 33⟩) (.nd (some ⟨R80_5, [.tmp 4, .tmp 5], 43⟩) .nil .nil .nil .nil .nil .nil .nil .nil) (.nd (some ⟨R144_3, [.tmp 2], 12⟩) .nil .nil .nil .nil .nil .nil .nil .nil) (.nd (some ⟨R208_0, [], 10⟩) .nil .nil .nil .nil .nil .nil .nil .nil) .nil .nil .nil .nil .nil) (.nd none .nil (.nd (some ⟨R152_7, [.cell1 2], 6⟩) .nil .nil .nil .nil .nil .nil .nil .nil) .nil .nil .nil .nil .nil .nil) (.nd none .nil (.nd (some ⟨R160_7, [.cell1 2], 6⟩) .nil .nil .nil .nil .nil .nil .nil .nil) .nil .nil .nil .nil .nil .nil) (.nd (some ⟨R40_3, [.tmp 4, .tmp 5], 11⟩) (.nd (some ⟨R104_0, [], 6⟩) .nil .nil .nil .nil .nil .nil .nil .nil) .nil .nil .nil .nil .nil .nil .nil) (.nd none (.nd (some ⟨R112_9, [.tmp 2], 10⟩) .nil .nil .nil .nil .nil .nil .nil .nil) (.nd (some ⟨R176_15, [], 16⟩) .nil .nil .nil .nil .nil .nil .nil .nil) .nil .nil .nil .nil .nil .nil) (.nd none (.nd (some ⟨R120_45, [.tmp 2], 74⟩) .nil .nil .nil .nil .nil .nil .nil .nil) .nil .nil .nil .nil .nil .nil .nil) (.nd (some ⟨R64_33, [.tmp 2, .tmp 3], 65⟩) .nil .nil .nil .nil .nil .nil .nil .nil) (.nd (some ⟨R72_20, [.tmp 4], 24⟩) (.nd (some ⟨R136_3, [.tmp 2], 4⟩) .nil .nil .nil .nil .nil .nil .nil .nil) .nil .nil .nil .nil .nil .nil .nil)))
noncomputable def xfT : T Xf := (.nd none (.nd none .nil (.nd none .nil .nil (.nd (some (.add .i32)) .nil .nil .nil .nil .nil .nil .nil .nil) .nil .nil .nil .nil .nil) (.nd none .nil .nil (.nd (some (.nop)) .nil .nil .nil .nil .nil .nil .nil .nil) .nil .nil .nil .nil .nil) .nil .nil .nil .nil .nil) (.nd none .nil .nil (.nd none .nil .nil (.nd (some (.mrk)) .nil .nil .nil .nil .nil .nil .nil .nil) .nil .nil .nil .nil .nil) .nil .nil .nil .nil .nil) (.nd none .nil .nil .nil .nil .nil (.nd none (.nd (some (.cmp)) .nil .nil .nil .nil .nil .nil .nil .nil) .nil .nil .nil .nil .nil .nil .nil) .nil .nil) (.nd none .nil .nil (.nd none .nil .nil (.nd (some (.mrk)) .nil .nil .nil .nil .nil .nil .nil .nil) .nil .nil .nil .nil .nil) .nil .nil (.nd none (.nd (some (.add .i64)) .nil .nil .nil .nil .nil .nil .nil .nil) .nil .nil .nil .nil .nil .nil .nil) .nil .nil) (.nd none (.nd none .nil .nil (.nd (some (.ld .u32)) .nil .nil .nil .nil .nil .nil .nil .nil) .nil .nil .nil .nil .nil) (.nd none .nil .nil (.nd (some (.st)) .nil .nil .nil .nil .nil .nil .nil .nil) .nil .nil .nil .nil .nil) .nil .nil .nil .nil .nil .nil) (.nd none .nil (.nd none (.nd (some (.ld .i64)) .nil .nil .nil .nil .nil .nil .nil .nil) .nil .nil .nil .nil .nil .nil .nil) .nil .nil .nil .nil .nil .nil) (.nd none .nil (.nd none .nil .nil (.nd (some (.nop)) .nil .nil .nil .nil .nil .nil .nil .nil) .nil .nil .nil .nil .nil) .nil .nil .nil .nil .nil .nil) (.nd none .nil (.nd none .nil .nil (.nd (some (.cas .i32)) .nil .nil .nil .nil .nil .nil .nil .nil) .nil .nil .nil .nil .nil) .nil .nil .nil .nil .nil .nil))
theorem tab_ok : TAll (fun f x => FnOK Tryz.prog f x) dec tab := ⟨okN, ⟨okN, ⟨(okS fn9), ⟨(okS fn73), trivial, trivial, trivial, trivial, trivial, trivial, trivial, trivial⟩, ⟨(okS fn137), trivial, trivial, trivial, trivial, trivial, trivial, trivial, trivial⟩, trivial, trivial, trivial, trivial, trivial, trivial⟩, ⟨(okS fn17), ⟨(okS fn81), trivial, trivial, trivial, trivial, trivial, trivial, trivial, trivial⟩, ⟨(okS fn145), trivial, trivial, trivial, trivial, trivial, trivial, trivial, trivial⟩, trivial, trivial, trivial, trivial, trivial, trivial⟩, ⟨okN, trivial, ⟨(okS fn153), trivial, trivial, trivial, trivial, trivial, trivial, trivial, trivial⟩, trivial, trivial, trivial, trivial, trivial, trivial⟩, ⟨okN, trivial, ⟨(okS fn161), trivial, trivial, trivial, trivial, trivial, trivial, trivial, trivial⟩, trivial, trivial, trivial, trivial, trivial, trivial⟩, ⟨(okS fn41), ⟨(okS fn105), trivial, trivial, trivial, trivial, trivial, trivial, trivial, trivial⟩, ⟨(okS fn169), trivial, trivial, trivial, trivial, trivial, trivial, trivial, trivial⟩, trivial, trivial, trivial, trivial, trivial, trivial⟩, ⟨okN, ⟨(okS fn113), trivial, trivial, trivial, trivial, trivial, trivial, trivial, trivial⟩, ⟨(okS fn177), trivial, trivial, trivial, trivial, trivial, trivial, trivial, trivial⟩, trivial, trivial, trivial, trivial, trivial, trivial⟩, ⟨okN, ⟨(okS fn121), trivial, trivial, trivial, trivial, trivial, trivial, trivial, trivial⟩, trivial, trivial, trivial, trivial, trivial, trivial, trivial⟩, ⟨(okS fn65), trivial, trivial, trivial, trivial, trivial, trivial, trivial, trivial⟩⟩, ⟨okN, ⟨(okS fn10), ⟨(okS fn74), trivial, trivial, trivial, trivial, trivial, trivial, trivial, trivial⟩, ⟨(okS fn138), trivial, trivial, trivial, trivial, trivial, trivial, trivial, trivial⟩, trivial, trivial, trivial, trivial, trivial, trivial⟩, ⟨(okS fn18), ⟨(okS fn82), trivial, trivial, trivial, trivial, trivial, trivial, trivial, trivial⟩, ⟨(okS fn146), trivial, trivial, trivial, trivial, trivial, trivial, trivial, trivial⟩, trivial, trivial, trivial, trivial, trivial, trivial⟩, ⟨okN, trivial, ⟨(okS fn154), trivial, trivial, trivial, trivial, trivial, trivial, trivial, trivial⟩, trivial, trivial, trivial, trivial, trivial, trivial⟩, ⟨(okS fn34), trivial, ⟨(okS fn162), trivial, trivial, trivial, trivial, trivial, trivial, trivial, trivial⟩, trivial, trivial, trivial, trivial, trivial, trivial⟩, ⟨(okS fn42), ⟨(okS fn106), trivial, trivial, trivial, trivial, trivial, trivial, trivial, trivial⟩, ⟨(okS fn170), trivial, trivial, trivial, trivial, trivial, trivial, trivial, trivial⟩, trivial, trivial, trivial, trivial, trivial, trivial⟩, ⟨okN, ⟨(okS fn114), trivial, trivial, trivial, trivial, trivial, trivial, trivial, trivial⟩, ⟨(okS fn178), trivial, trivial, trivial, trivial, trivial, trivial, trivial, trivial⟩, trivial, trivial, trivial, trivial, trivial, trivial⟩, trivial, ⟨(okS fn66), trivial, ⟨(okS fn194), trivial, trivial, trivial, trivial, trivial, trivial, trivial, trivial⟩, trivial, trivial, trivial, trivial, trivial, trivial⟩⟩, ⟨(okS fn3), ⟨(okS fn11), ⟨(okS fn75), trivial, trivial, trivial, trivial, trivial, trivial, trivial, trivial⟩, ⟨(okS fn139), trivial, trivial, trivial, trivial, trivial, trivial, trivial, trivial⟩, trivial, trivial, trivial, trivial, trivial, trivial⟩, ⟨(okS fn19), ⟨(okS fn83), trivial, trivial, trivial, trivial, trivial, trivial, trivial, trivial⟩, trivial, ⟨(okS fn211), trivial, trivial, trivial, trivial, trivial, trivial, trivial, trivial⟩, trivial, trivial, trivial, trivial, trivial⟩, ⟨okN, trivial, ⟨(okS fn155), trivial, trivial, trivial, trivial, trivial, trivial, trivial, trivial⟩, ⟨(okS fn219), trivial, trivial, trivial, trivial, trivial, trivial, trivial, trivial⟩, trivial, trivial, trivial, trivial, trivial⟩, ⟨(okS fn35), trivial, ⟨(okS fn163), trivial, trivial, trivial, trivial, trivial, trivial, trivial, trivial⟩, trivial, trivial, trivial, trivial, trivial, trivial⟩, ⟨(okS fn43), ⟨(okS fn107), trivial, trivial, trivial, trivial, trivial, trivial, trivial, trivial⟩, ⟨(okS fn171), trivial, trivial, trivial, trivial, trivial, trivial, trivial, trivial⟩, trivial, trivial, trivial, trivial, trivial, trivial⟩, ⟨okN, trivial, ⟨(okS fn179), trivial, trivial, trivial, trivial, trivial, trivial, trivial, trivial⟩, trivial, trivial, trivial, trivial, trivial, trivial⟩, ⟨okN, ⟨(okS fn123), trivial, trivial, trivial, trivial, trivial, trivial, trivial, trivial⟩, trivial, trivial, trivial, trivial, trivial, trivial, trivial⟩, ⟨(okS fn67), trivial, ⟨(okS fn195), trivial, trivial, trivial, trivial, trivial, trivial, trivial, trivial⟩, trivial, trivial, trivial, trivial, trivial, trivial⟩⟩, ⟨okN, ⟨(okS fn12), ⟨(okS fn76), trivial, trivial, trivial, trivial, trivial, trivial, trivial, trivial⟩, ⟨(okS fn140), trivial, trivial, trivial, trivial, trivial, trivial, trivial, trivial⟩, trivial, trivial, trivial, trivial, trivial, trivial⟩, ⟨okN, ⟨(okS fn84), trivial, trivial, trivial, trivial, trivial, trivial, trivial, trivial⟩, trivial, ⟨(okS fn212), trivial, trivial, trivial, trivial, trivial, trivial, trivial, trivial⟩, trivial, trivial, trivial, trivial, trivial⟩, ⟨okN, trivial, ⟨(okS fn156), trivial, trivial, trivial, trivial, trivial, trivial, trivial, trivial⟩, trivial, trivial, trivial, trivial, trivial, trivial⟩, ⟨(okS fn36), trivial, ⟨(okS fn164), trivial, trivial, trivial, trivial, trivial, trivial, trivial, trivial⟩, trivial, trivial, trivial, trivial, trivial, trivial⟩, ⟨(okS fn44), ⟨(okS fn108), trivial, trivial, trivial, trivial, trivial, trivial, trivial, trivial⟩, ⟨(okS fn172), trivial, trivial, trivial, trivial, trivial, trivial, trivial, trivial⟩, trivial, trivial, trivial, trivial, trivial, trivial⟩, ⟨okN, trivial, ⟨(okS fn180), trivial, trivial, trivial, trivial, trivial, trivial, trivial, trivial⟩, trivial, trivial, trivial, trivial, trivial, trivial⟩, ⟨okN, ⟨(okS fn124), trivial, trivial, trivial, trivial, trivial, trivial, trivial, trivial⟩, trivial, trivial, trivial, trivial, trivial, trivial, trivial⟩, ⟨(okS fn68), ⟨(okS fn132), trivial, trivial, trivial, trivial, trivial, trivial, trivial, trivial⟩, ⟨(okS fn196), trivial, trivial, trivial, trivial, trivial, trivial, trivial, trivial⟩, trivial, trivial, trivial, trivial, trivial, trivial⟩⟩, ⟨okN, ⟨(okS fn13), ⟨(okS fn77), trivial, trivial, trivial, trivial, trivial, trivial, trivial, trivial⟩, ⟨(okS fn141), trivial, trivial, trivial, trivial, trivial, trivial, trivial, trivial⟩, trivial, trivial, trivial, trivial, trivial, trivial⟩, ⟨okN, ⟨(okS fn85), trivial, trivial, trivial, trivial, trivial, trivial, trivial, trivial⟩, trivial, trivial, trivial, trivial, trivial, trivial, trivial⟩, ⟨okN, trivial, ⟨(okS fn157), trivial, trivial, trivial, trivial, trivial, trivial, trivial, trivial⟩, ⟨(okS fn221), trivial, trivial, trivial, trivial, trivial, trivial, trivial, trivial⟩, trivial, trivial, trivial, trivial, trivial⟩, ⟨(okS fn37), ⟨(okS fn101), trivial, trivial, trivial, trivial, trivial, trivial, trivial, trivial⟩, ⟨(okS fn165), trivial, trivial, trivial, trivial, trivial, trivial, trivial, trivial⟩, trivial, trivial, trivial, trivial, trivial, trivial⟩, ⟨(okS fn45), ⟨(okS fn109), trivial, trivial, trivial, trivial, trivial, trivial, trivial, trivial⟩, ⟨(okS fn173), trivial, trivial, trivial, trivial, trivial, trivial, trivial, trivial⟩, trivial, trivial, trivial, trivial, trivial, trivial⟩, ⟨okN, ⟨(okS fn117), trivial, trivial, trivial, trivial, trivial, trivial, trivial, trivial⟩, ⟨(okS fn181), trivial, trivial, trivial, trivial, trivial, trivial, trivial, trivial⟩, trivial, trivial, trivial, trivial, trivial, trivial⟩, trivial, ⟨(okS fn69), ⟨(okS fn133), trivial, trivial, trivial, trivial, trivial, trivial, trivial, trivial⟩, ⟨(okS fn197), trivial, trivial, trivial, trivial, trivial, trivial, trivial, trivial⟩, trivial, trivial, trivial, trivial, trivial, trivial⟩⟩, ⟨(okS fn6), ⟨(okS fn14), ⟨(okS fn78), trivial, trivial, trivial, trivial, trivial, trivial, trivial, trivial⟩, ⟨(okS fn142), trivial, trivial, trivial, trivial, trivial, trivial, trivial, trivial⟩, ⟨(okS fn206), trivial, trivial, trivial, trivial, trivial, trivial, trivial, trivial⟩, trivial, trivial, trivial, trivial, trivial⟩, ⟨okN, trivial, trivial, ⟨(okS fn214), trivial, trivial, trivial, trivial, trivial, trivial, trivial, trivial⟩, trivial, trivial, trivial, trivial, trivial⟩, ⟨okN, trivial, ⟨(okS fn158), trivial, trivial, trivial, trivial, trivial, trivial, trivial, trivial⟩, trivial, trivial, trivial, trivial, trivial, trivial⟩, ⟨(okS fn38), ⟨(okS fn102), trivial, trivial, trivial, trivial, trivial, trivial, trivial, trivial⟩, trivial, trivial, trivial, trivial, trivial, trivial, trivial⟩, ⟨(okS fn46), ⟨(okS fn110), trivial, trivial, trivial, trivial, trivial, trivial, trivial, trivial⟩, ⟨(okS fn174), trivial, trivial, trivial, trivial, trivial, trivial, trivial, trivial⟩, trivial, trivial, trivial, trivial, trivial, trivial⟩, ⟨okN, ⟨(okS fn118), trivial, trivial, trivial, trivial, trivial, trivial, trivial, trivial⟩, ⟨(okS fn182), trivial, trivial, trivial, trivial, trivial, trivial, trivial, trivial⟩, trivial, trivial, trivial, trivial, trivial, trivial⟩, trivial, ⟨(okS fn70), ⟨(okS fn134), trivial, trivial, trivial, trivial, trivial, trivial, trivial, trivial⟩, ⟨(okS fn198), trivial, trivial, trivial, trivial, trivial, trivial, trivial, trivial⟩, trivial, trivial, trivial, trivial, trivial, trivial⟩⟩, ⟨(okS fn7), ⟨(okS fn15), ⟨(okS fn79), trivial, trivial, trivial, trivial, trivial, trivial, trivial, trivial⟩, ⟨(okS fn143), trivial, trivial, trivial, trivial, trivial, trivial, trivial, trivial⟩, ⟨(okS fn207), trivial, trivial, trivial, trivial, trivial, trivial, trivial, trivial⟩, trivial, trivial, trivial, trivial, trivial⟩, trivial, ⟨okN, trivial, ⟨(okS fn159), trivial, trivial, trivial, trivial, trivial, trivial, trivial, trivial⟩, trivial, trivial, trivial, trivial, trivial, trivial⟩, ⟨(okS fn39), ⟨(okS fn103), trivial, trivial, trivial, trivial, trivial, trivial, trivial, trivial⟩, trivial, trivial, trivial, trivial, trivial, trivial, trivial⟩, ⟨(okS fn47), ⟨(okS fn111), trivial, trivial, trivial, trivial, trivial, trivial, trivial, trivial⟩, ⟨(okS fn175), trivial, trivial, trivial, trivial, trivial, trivial, trivial, trivial⟩, trivial, trivial, trivial, trivial, trivial, trivial⟩, ⟨okN, ⟨(okS fn119), trivial, trivial, trivial, trivial, trivial, trivial, trivial, trivial⟩, trivial, trivial, trivial, trivial, trivial, trivial, trivial⟩, ⟨(okS fn63), trivial, trivial, trivial, trivial, trivial, trivial, trivial, trivial⟩, ⟨(okS fn71), ⟨(okS fn135), trivial, trivial, trivial, trivial, trivial, trivial, trivial, trivial⟩, trivial, trivial, trivial, trivial, trivial, trivial, trivial⟩⟩, ⟨(okS fn8), ⟨(okS fn16), ⟨(okS fn80), trivial, trivial, trivial, trivial, trivial, trivial, trivial, trivial⟩, ⟨(okS fn144), trivial, trivial, trivial, trivial, trivial, trivial, trivial, trivial⟩, ⟨(okS fn208), trivial, trivial, trivial, trivial, trivial, trivial, trivial, trivial⟩, trivial, trivial, trivial, trivial, trivial⟩, ⟨okN, trivial, ⟨(okS fn152), trivial, trivial, trivial, trivial, trivial, trivial, trivial, trivial⟩, trivial, trivial, trivial, trivial, trivial, trivial⟩, ⟨okN, trivial, ⟨(okS fn160), trivial, trivial, trivial, trivial, trivial, trivial, trivial, trivial⟩, trivial, trivial, trivial, trivial, trivial, trivial⟩, ⟨(okS fn40), ⟨(okS fn104), trivial, trivial, trivial, trivial, trivial, trivial, trivial, trivial⟩, trivial, trivial, trivial, trivial, trivial, trivial, trivial⟩, ⟨okN, ⟨(okS fn112), trivial, trivial, trivial, trivial, trivial, trivial, trivial, trivial⟩, ⟨(okS fn176), trivial, trivial, trivial, trivial, trivial, trivial, trivial, trivial⟩, trivial, trivial, trivial, trivial, trivial, trivial⟩, ⟨okN, ⟨(okS fn120), trivial, trivial, trivial, trivial, trivial, trivial, trivial, trivial⟩, trivial, trivial, trivial, trivial, trivial, trivial, trivial⟩, ⟨(okS fn64), trivial, trivial, trivial, trivial, trivial, trivial, trivial, trivial⟩, ⟨(okS fn72), ⟨(okS fn136), trivial, trivial, trivial, trivial, trivial, trivial, trivial, trivial⟩, trivial, trivial, trivial, trivial, trivial, trivial, trivial⟩⟩⟩
theorem xfT_ok : TAll (fun f x => XfOK Tryz.prog f x) dec xfT := ⟨okN, ⟨okN, trivial, ⟨okN, trivial, trivial, ⟨(okS xf209), trivial, trivial, trivial, trivial, trivial, trivial, trivial, trivial⟩, trivial, trivial, trivial, trivial, trivial⟩, ⟨okN, trivial, trivial, ⟨(okS xf217), trivial, trivial, trivial, trivial, trivial, trivial, trivial, trivial⟩, trivial, trivial, trivial, trivial, trivial⟩, trivial, trivial, trivial, trivial, trivial⟩, ⟨okN, trivial, trivial, ⟨okN, trivial, trivial, ⟨(okS xf218), trivial, trivial, trivial, trivial, trivial, trivial, trivial, trivial⟩, trivial, trivial, trivial, trivial, trivial⟩, trivial, trivial, trivial, trivial, trivial⟩, ⟨okN, trivial, trivial, trivial, trivial, trivial, ⟨okN, ⟨(okS xf115), trivial, trivial, trivial, trivial, trivial, trivial, trivial, trivial⟩, trivial, trivial, trivial, trivial, trivial, trivial, trivial⟩, trivial, trivial⟩, ⟨okN, trivial, trivial, ⟨okN, trivial, trivial, ⟨(okS xf220), trivial, trivial, trivial, trivial, trivial, trivial, trivial, trivial⟩, trivial, trivial, trivial, trivial, trivial⟩, trivial, trivial, ⟨okN, ⟨(okS xf116), trivial, trivial, trivial, trivial, trivial, trivial, trivial, trivial⟩, trivial, trivial, trivial, trivial, trivial, trivial, trivial⟩, trivial, trivial⟩, ⟨okN, ⟨okN, trivial, trivial, ⟨(okS xf205), trivial, trivial, trivial, trivial, trivial, trivial, trivial, trivial⟩, trivial, trivial, trivial, trivial, trivial⟩, ⟨okN, trivial, trivial, ⟨(okS xf213), trivial, trivial, trivial, trivial, trivial, trivial, trivial, trivial⟩, trivial, trivial, trivial, trivial, trivial⟩, trivial, trivial, trivial, trivial, trivial, trivial⟩, ⟨okN, trivial, ⟨okN, ⟨(okS xf86), trivial, trivial, trivial, trivial, trivial, trivial, trivial, trivial⟩, trivial, trivial, trivial, trivial, trivial, trivial, trivial⟩, trivial, trivial, trivial, trivial, trivial, trivial⟩, ⟨okN, trivial, ⟨okN, trivial, trivial, ⟨(okS xf215), trivial, trivial, trivial, trivial, trivial, trivial, trivial, trivial⟩, trivial, trivial, trivial, trivial, trivial⟩, trivial, trivial, trivial, trivial, trivial, trivial⟩, ⟨okN, trivial, ⟨okN, trivial, trivial, ⟨(okS xf216), trivial, trivial, trivial, trivial, trivial, trivial, trivial, trivial⟩, trivial, trivial, trivial, trivial, trivial⟩, trivial, trivial, trivial, trivial, trivial, trivial⟩⟩
end Go.Proofs.YtbmncepaajkngaaGreat
