/- The code of functions, their operations looked up (printed by a program of this work). -/
import Derived.Test.YtbmncepaajkngaaGreatWalTabA
import Derived.KernelRfl
namespace Go.Proofs.YtbmncepaajkngaaGreat
open Go.Lx
set_option maxRecDepth 100000
def R219_80 : RC := .reg [⟨some 131, none, .mov (.tmp 0)⟩,
    ⟨some 132, none, .nilck (.tmp 131)⟩,
    ⟨some 133, none, .faddr 0 (.tmp 132)⟩,
    ⟨some 134, none, .load1 (.tmp 133)⟩,
    ⟨some 6, none, .mov (.tmp 134)⟩]
def R219_81 : RC := .cond (.tmp 80) R219_79 R219_80
def R219_82 : RC := .seq R219_41 R219_81
def R219_83 : RC := .seq R219_40 R219_82
def R219_84 : RC := .seq R219_31 R219_83
def R219_85 : RC := .seq R219_27 R219_84
def R219_86 : RC := .seq R219_23 R219_85
def R219_87 : RC := .seq R219_19 R219_86
def R219_88 : RC := .seq R219_18 R219_87
def R219_89 : RC := .block 1 R219_88
def R219_90 : RC := .loop R219_89
def R219_91 : RC := .block 0 R219_90
def R219_92 : RC := .reg [⟨some 135, none, .ext 217 []⟩]
def R219_93 : RC := .reg [⟨some 136, none, .mov (.tmp 0)⟩,
    ⟨some 137, none, .cvUP (.tmp 136)⟩,
    ⟨some 138, none, .ext 218 [(.tmp 137)]⟩]
def R219_94 : RC := .seq R219_92 R219_93
def R219_95 : RC := .cond (.const (.bool true)) R219_94 (.skip)
def R219_96 : RC := .seq R219_91 R219_95
def R219_97 : RC := .seq R219_4 R219_96
def R219_98 : RC := .seq R219_3 R219_97
def R219_99 : RC := .seq R219_2 R219_98
def R219_100 : RC := .seq R219_1 R219_99
def R219_101 : RC := .seq R219_0 R219_100

-- 220: internal/race.ReleaseMerge
-- 221: (*internal/sync.Mutex).unlockSlow
def R221_0 : RC := .reg [⟨some 5, none, .mov (.tmp 1)⟩,
    ⟨some 6, none, .bin .add 21 (.tmp 5) (.const (.int .i32 1))⟩,
    ⟨some 7, none, .bin .and 21 (.tmp 6) (.const (.int .i32 1))⟩,
    ⟨some 8, none, .bin .eql 21 (.tmp 7) (.const (.int .i32 0))⟩]
def R221_1 : RC := .reg [⟨some 9, none, .ext 227 [(.const (.string ⟨#[115, 121, 110, 99, 58, 32, 117, 110, 108, 111, 99, 107, 32, 111, 102, 32, 117, 110, 108, 111, 99, 107, 101, 100, 32, 109, 117, 116, 101, 120]⟩))]⟩]
def R221_2 : RC := .cond (.tmp 8) R221_1 (.skip)
def R221_3 : RC := .seq R221_0 R221_2
def R221_4 : RC := .reg [⟨some 10, none, .mov (.tmp 1)⟩,
    ⟨some 11, none, .bin .and 21 (.tmp 10) (.const (.int .i32 4))⟩,
    ⟨some 12, none, .bin .eql 21 (.tmp 11) (.const (.int .i32 0))⟩]
def R221_5 : RC := .reg [⟨some 13, none, .mov (.tmp 1)⟩,
    ⟨some 4, none, .mov (.tmp 13)⟩]
def R221_6 : RC := .reg [⟨some 14, none, .mov (.tmp 4)⟩,
    ⟨some 15, none, .bin .shr 21 (.tmp 14) (.const (.int .u64 3))⟩,
    ⟨some 16, none, .bin .eql 21 (.tmp 15) (.const (.int .i32 0))⟩,
    ⟨some 17, none, .mov (.tmp 16)⟩,
    ⟨some 18, some (17, false), .mov (.tmp 4)⟩,
    ⟨some 19, some (17, false), .bin .and 21 (.tmp 18) (.const (.int .i32 7))⟩,
    ⟨some 20, some (17, false), .bin .neq 21 (.tmp 19) (.const (.int .i32 0))⟩,
    ⟨some 21, none, .pick (.tmp 17) (.const (.bool true)) (.tmp 20)⟩]
def R221_7 : RC := .cond (.tmp 21) (.ret) (.skip)
def R221_8 : RC := .seq R221_6 R221_7
def R221_9 : RC := .reg [⟨some 22, none, .mov (.tmp 4)⟩,
    ⟨some 23, none, .bin .sub 21 (.tmp 22) (.const (.int .i32 8))⟩,
    ⟨some 24, none, .bin .or 21 (.tmp 23) (.const (.int .i32 2))⟩,
    ⟨some 1, none, .mov (.tmp 24)⟩]
def R221_10 : RC := .reg [⟨some 25, none, .mov (.tmp 0)⟩,
    ⟨some 26, none, .nilck (.tmp 25)⟩,
    ⟨some 27, none, .faddr 0 (.tmp 26)⟩,
    ⟨some 28, none, .mov (.tmp 4)⟩,
    ⟨some 29, none, .mov (.tmp 1)⟩,
    ⟨some 30, none, .ext 216 [(.tmp 27), (.tmp 28), (.tmp 29)]⟩]
def R221_11 : RC := .reg [⟨some 31, none, .mov (.tmp 0)⟩,
    ⟨some 32, none, .nilck (.tmp 31)⟩,
    ⟨some 33, none, .faddr 1 (.tmp 32)⟩,
    ⟨some 34, none, .ext 228 [(.tmp 33), (.const (.bool false)), (.const (.int .i64 2))]⟩]
def R221_12 : RC := .seq R221_11 (.ret)
def R221_13 : RC := .cond (.tmp 30) R221_12 (.skip)
def R221_14 : RC := .seq R221_10 R221_13
def R221_15 : RC := .reg [⟨some 35, none, .mov (.tmp 0)⟩,
    ⟨some 36, none, .nilck (.tmp 35)⟩,
    ⟨some 37, none, .faddr 0 (.tmp 36)⟩,
    ⟨some 38, none, .load1 (.tmp 37)⟩,
    ⟨some 4, none, .mov (.tmp 38)⟩]
def R221_16 : RC := .seq R221_14 R221_15
def R221_17 : RC := .seq R221_9 R221_16
def R221_18 : RC := .seq R221_8 R221_17
def R221_19 : RC := .block 1 R221_18
def R221_20 : RC := .loop R221_19
def R221_21 : RC := .block 0 R221_20
def R221_22 : RC := .seq R221_5 R221_21
def R221_23 : RC := .reg [⟨some 39, none, .mov (.tmp 0)⟩,
    ⟨some 40, none, .nilck (.tmp 39)⟩,
    ⟨some 41, none, .faddr 1 (.tmp 40)⟩,
    ⟨some 42, none, .ext 228 [(.tmp 41), (.const (.bool true)), (.const (.int .i64 2))]⟩]
def R221_24 : RC := .cond (.tmp 12) R221_22 R221_23
def R221_25 : RC := .seq R221_4 R221_24
def R221_26 : RC := .seq R221_3 R221_25

-- 210: slices.order2Ordered[string]
def R210_0 : RC := .reg [⟨some 8, none, .mov (.const (.int .i64 0))⟩,
    ⟨some 9, none, .mov (.const (.int .i64 0))⟩]
def R210_1 : RC := .draw [⟨some 10, none, .mov (.tmp 0)⟩,
    ⟨some 11, none, .mov (.tmp 2)⟩,
    ⟨some 12, none, .ixS 1 (.tmp 10) (.tmp 11)⟩,
    ⟨some 13, none, .load1 (.tmp 12)⟩,
    ⟨some 14, none, .mov (.tmp 0)⟩,
    ⟨some 15, none, .mov (.tmp 1)⟩,
    ⟨some 16, none, .ixS 1 (.tmp 14) (.tmp 15)⟩,
    ⟨some 17, none, .load1 (.tmp 16)⟩,
    ⟨some 18, none, .call 189 [(.tmp 13), (.tmp 17)]⟩] [[⟨0, ⟨some 10, none, .mov (.tmp 0)⟩, false, []⟩,
    ⟨1, ⟨some 11, none, .mov (.tmp 2)⟩, false, []⟩,
    ⟨2, ⟨some 12, none, .ixS 1 (.tmp 10) (.tmp 11)⟩, false, []⟩,
    ⟨3, ⟨some 13, none, .load1 (.tmp 12)⟩, true, []⟩,
    ⟨4, ⟨some 14, none, .mov (.tmp 0)⟩, false, []⟩,
    ⟨5, ⟨some 15, none, .mov (.tmp 1)⟩, false, []⟩,
    ⟨6, ⟨some 16, none, .ixS 1 (.tmp 14) (.tmp 15)⟩, false, []⟩,
    ⟨7, ⟨some 17, none, .load1 (.tmp 16)⟩, true, []⟩],
   [⟨8, ⟨some 18, none, .call 189 [(.tmp 13), (.tmp 17)]⟩, false, []⟩]]
def R210_2 : RC := .reg [⟨some 19, none, .mov (.tmp 3)⟩,
    ⟨some 20, none, .nilck (.tmp 19)⟩,
    ⟨some 21, none, .load1 (.tmp 20)⟩,
    ⟨some 22, none, .bin .add 3 (.tmp 21) (.const (.int .i64 1))⟩,
    ⟨some 23, none, .nilck (.tmp 19)⟩,
    ⟨none, none, .store 1 (.tmp 23) (.tmp 22)⟩]
def R210_3 : RC := .reg [⟨some 24, none, .mov (.tmp 2)⟩,
    ⟨some 25, none, .mov (.tmp 1)⟩,
    ⟨some 8, none, .mov (.tmp 24)⟩,
    ⟨some 9, none, .mov (.tmp 25)⟩]
def R210_4 : RC := .seq R210_3 (.ret)
def R210_5 : RC := .seq R210_2 R210_4
def R210_6 : RC := .cond (.tmp 18) R210_5 (.skip)
def R210_7 : RC := .seq R210_1 R210_6
def R210_8 : RC := .reg [⟨some 26, none, .mov (.tmp 1)⟩,
    ⟨some 27, none, .mov (.tmp 2)⟩,
    ⟨some 8, none, .mov (.tmp 26)⟩,
    ⟨some 9, none, .mov (.tmp 27)⟩]
def R210_9 : RC := .seq R210_8 (.ret)
def R210_10 : RC := .seq R210_7 R210_9
def R210_11 : RC := .seq R210_0 R210_10

noncomputable def tab : T Fn' := (.nd none (.nd none (.nd none .nil .nil (.nd (some ⟨R201_9, [.tmp 2], 33⟩) .nil .nil .nil .nil .nil .nil .nil .nil) .nil .nil .nil .nil .nil) .nil (.nd (some ⟨R25_9, [.tmp 2], 10⟩) (.nd (some ⟨R89_25, [.tmp 2, .tmp 3], 37⟩) .nil .nil .nil .nil .nil .nil .nil .nil) .nil .nil .nil .nil .nil .nil .nil) (.nd none (.nd (some ⟨R97_9, [.tmp 4], 12⟩) .nil .nil .nil .nil .nil .nil .nil .nil) .nil .nil .nil .nil .nil .nil .nil) (.nd (some ⟨R41_9, [.tmp 2], 8⟩) .nil .nil .nil .nil .nil .nil .nil .nil) (.nd (some ⟨R49_43, [.tmp 2, .tmp 3], 51⟩) .nil .nil .nil .nil .nil .nil .nil .nil) (.nd (some ⟨R57_17, [.tmp 4, .tmp 5], 33⟩) (.nd (some ⟨R121_5, [.tmp 4], 17⟩) .nil .nil .nil .nil .nil .nil .nil .nil) (.nd (some ⟨R185_27, [], 65⟩) .nil .nil .nil .nil .nil .nil .nil .nil) .nil .nil .nil .nil .nil .nil) (.nd (some ⟨R65_3, [.tmp 0], 3⟩) .nil (.nd (some ⟨R193_24, [.tmp 2], 25⟩) .nil .nil .nil .nil .nil .nil .nil .nil) .nil .nil .nil .nil .nil .nil)) (.nd none (.nd none .nil .nil (.nd (some ⟨R202_3, [.tmp 6], 15⟩) .nil .nil .nil .nil .nil .nil .nil .nil) .nil .nil .nil .nil .nil) (.nd none .nil .nil (.nd (some ⟨R210_11, [.tmp 8, .tmp 9], 28⟩) .nil .nil .nil .nil .nil .nil .nil .nil) .nil .nil .nil .nil .nil) (.nd (some ⟨R26_9, [.tmp 2], 10⟩) (.nd (some ⟨R90_2, [], 26⟩) .nil .nil .nil .nil .nil .nil .nil .nil) .nil .nil .nil .nil .nil .nil .nil) (.nd none (.nd (some ⟨R98_10, [], 18⟩) .nil .nil .nil .nil .nil .nil .nil .nil) .nil .nil .nil .nil .nil .nil .nil) .nil (.nd (some ⟨R50_3, [.tmp 2], 12⟩) .nil .nil .nil .nil .nil .nil .nil .nil) (.nd (some ⟨R58_23, [.tmp 8, .tmp 9], 68⟩) (.nd (some ⟨R122_20, [.tmp 4], 24⟩) .nil .nil .nil .nil .nil .nil .nil .nil) (.nd (some ⟨R186_40, [.tmp 6, .tmp 7], 57⟩) .nil .nil .nil .nil .nil .nil .nil .nil) .nil .nil .nil .nil .nil .nil) (.nd none (.nd (some ⟨R130_7, [.tmp 2], 9⟩) .nil .nil .nil .nil .nil .nil .nil .nil) (.nd (some ⟨R194_3, [.tmp 2], 8⟩) .nil .nil .nil .nil .nil .nil .nil .nil) .nil .nil .nil .nil .nil .nil)) (.nd none (.nd none .nil .nil (.nd (some ⟨R203_9, [.tmp 10], 36⟩) .nil .nil .nil .nil .nil .nil .nil .nil) .nil .nil .nil .nil .nil) (.nd none .nil (.nd (some ⟨R147_22, [.tmp 4], 19⟩) .nil .nil .nil .nil .nil .nil .nil .nil) (.nd (some ⟨R211_11, [], 13⟩) .nil .nil .nil .nil .nil .nil .nil .nil) .nil .nil .nil .nil .nil) (.nd (some ⟨R27_3, [.tmp 2], 4⟩) (.nd (some ⟨R91_3, [.tmp 6], 38⟩) .nil .nil .nil .nil .nil .nil .nil .nil) .nil (.nd (some ⟨R219_101, [], 139⟩) .nil .nil .nil .nil .nil .nil .nil .nil) .nil .nil .nil .nil .nil) (.nd none (.nd (some ⟨R99_3, [.tmp 2], 6⟩) .nil .nil .nil .nil .nil .nil .nil .nil) .nil .nil .nil .nil .nil .nil .nil) .nil (.nd (some ⟨R51_29, [.tmp 6], 56⟩) .nil .nil .nil .nil .nil .nil .nil .nil) (.nd none (.nd (some ⟨R123_3, [.tmp 2], 6⟩) .nil .nil .nil .nil .nil .nil .nil .nil) (.nd (some ⟨R187_15, [], 32⟩) .nil .nil .nil .nil .nil .nil .nil .nil) .nil .nil .nil .nil .nil .nil) (.nd none (.nd (some ⟨R131_3, [.tmp 2], 4⟩) .nil .nil .nil .nil .nil .nil .nil .nil) (.nd (some ⟨R195_9, [], 21⟩) .nil .nil .nil .nil .nil .nil .nil .nil) .nil .nil .nil .nil .nil .nil)) (.nd (some ⟨R4_47, [.cell1 2], 74⟩) (.nd none .nil (.nd (some ⟨R140_27, [.tmp 6], 43⟩) .nil .nil .nil .nil .nil .nil .nil .nil) (.nd (some ⟨R204_3, [.tmp 2], 6⟩) .nil .nil .nil .nil .nil .nil .nil .nil) .nil .nil .nil .nil .nil) (.nd (some ⟨R20_11, [.tmp 0], 66⟩) .nil (.nd (some ⟨R148_3, [.tmp 2], 12⟩) .nil .nil .nil .nil .nil .nil .nil .nil) (.nd (some ⟨R212_14, [], 21⟩) .nil .nil .nil .nil .nil .nil .nil .nil) .nil .nil .nil .nil .nil) (.nd (some ⟨R28_27, [.tmp 4, .tmp 5], 30⟩) (.nd (some ⟨R92_28, [.tmp 2], 34⟩) .nil .nil .nil .nil .nil .nil .nil .nil) .nil .nil .nil .nil .nil .nil .nil) .nil .nil (.nd (some ⟨R52_34, [.tmp 6], 57⟩) .nil .nil .nil .nil .nil .nil .nil .nil) (.nd (some ⟨R60_3, [.tmp 2], 12⟩) (.nd (some ⟨R124_3, [.tmp 4], 8⟩) .nil .nil .nil .nil .nil .nil .nil .nil) (.nd (some ⟨R188_79, [.tmp 6], 133⟩) .nil .nil .nil .nil .nil .nil .nil .nil) .nil .nil .nil .nil .nil .nil) (.nd none .nil (.nd (some ⟨R196_3, [.tmp 4], 10⟩) .nil .nil .nil .nil .nil .nil .nil .nil) .nil .nil .nil .nil .nil .nil)) (.nd none .nil (.nd (some ⟨R21_53, [.tmp 6], 100⟩) .nil (.nd (some ⟨R149_3, [.tmp 2], 5⟩) .nil .nil .nil .nil .nil .nil .nil .nil) .nil .nil .nil .nil .nil .nil) (.nd (some ⟨R29_42, [.tmp 4, .tmp 5], 69⟩) (.nd (some ⟨R93_4, [], 20⟩) .nil .nil .nil .nil .nil .nil .nil .nil) .nil (.nd (some ⟨R221_26, [], 43⟩) .nil .nil .nil .nil .nil .nil .nil .nil) .nil .nil .nil .nil .nil) .nil .nil (.nd (some ⟨R53_21, [.tmp 4], 39⟩) .nil .nil .nil .nil .nil .nil .nil .nil) (.nd (some ⟨R61_72, [], 118⟩) (.nd (some ⟨R125_56, [], 119⟩) .nil .nil .nil .nil .nil .nil .nil .nil) (.nd (some ⟨R189_3, [.tmp 4], 17⟩) .nil .nil .nil .nil .nil .nil .nil .nil) .nil .nil .nil .nil .nil .nil) .nil) (.nd none (.nd none .nil .nil (.nd (some ⟨R206_0, [], 6⟩) .nil .nil .nil .nil .nil .nil .nil .nil) .nil .nil .nil .nil .nil) (.nd (some ⟨R22_13, [.tmp 2], 28⟩) .nil (.nd (some ⟨R150_2, [], 11⟩) .nil .nil .nil .nil .nil .nil .nil .nil) (.nd (some ⟨R214_9, [.tmp 2], 4⟩) .nil .nil .nil .nil .nil .nil .nil .nil) .nil .nil .nil .nil .nil) (.nd none (.nd (some ⟨R94_9, [.tmp 2], 9⟩) .nil .nil .nil .nil .nil .nil .nil .nil) (.nd (some ⟨R158_11, [.tmp 2], 18⟩) .nil .nil .nil .nil .nil .nil .nil .nil) .nil .nil .nil .nil .nil .nil) (.nd none .nil (.nd (some ⟨R166_11, [.tmp 4], 13⟩) .nil .nil .nil .nil .nil .nil .nil .nil) .nil .nil .nil .nil .nil .nil) (.nd none .nil (.nd (some ⟨R174_3, [], 12⟩) .nil .nil .nil .nil .nil .nil .nil .nil) .nil .nil .nil .nil .nil .nil) (.nd (some ⟨R54_19, [], 25⟩) .nil .nil .nil .nil .nil .nil .nil .nil) (.nd none (.nd (some ⟨R126_28, [.tmp 4], 26⟩) .nil .nil .nil .nil .nil .nil .nil .nil) (.nd (some ⟨R190_38, [.tmp 8], 84⟩) .nil .nil .nil .nil .nil .nil .nil .nil) .nil .nil .nil .nil .nil .nil) .nil) (.nd none (.nd none (.nd (some ⟨R79_3, [.tmp 4], 10⟩) .nil .nil .nil .nil .nil .nil .nil .nil) .nil (.nd (some ⟨R207_0, [], 6⟩) .nil .nil .nil .nil .nil .nil .nil .nil) .nil .nil .nil .nil .nil) (.nd (some ⟨R23_13, [.tmp 2], 15⟩) (.nd (some ⟨R87_11, [.tmp 6], 33⟩) .nil .nil .nil .nil .nil .nil .nil .nil) (.nd (some ⟨R151_13, [], 14⟩) .nil .nil .nil .nil .nil .nil .nil .nil) .nil .nil .nil .nil .nil .nil) (.nd none .nil (.nd (some ⟨R159_3, [.tmp 2], 4⟩) .nil .nil .nil .nil .nil .nil .nil .nil) .nil .nil .nil .nil .nil .nil) (.nd none .nil (.nd (some ⟨R167_74, [], 134⟩) .nil .nil .nil .nil .nil .nil .nil .nil) .nil .nil .nil .nil .nil .nil) (.nd none .nil (.nd (some ⟨R175_37, [], 32⟩) .nil .nil .nil .nil .nil .nil .nil .nil) .nil .nil .nil .nil .nil .nil) (.nd (some ⟨R55_37, [.tmp 4], 49⟩) .nil (.nd (some ⟨R183_22, [], 49⟩) .nil .nil .nil .nil .nil .nil .nil .nil) .nil .nil .nil .nil .nil .nil) (.nd none (.nd (some ⟨R127_3, [.tmp 4], 9⟩) .nil .nil .nil .nil .nil .nil .nil .nil) (.nd (some ⟨R191_72, [.tmp 8, .tmp 9], 168⟩) .nil .nil .nil .nil .nil .nil .nil .nil) .nil .nil .nil .nil .nil .nil) (.nd none .nil (.nd (some ⟨R199_22, [], 76⟩) .nil .nil .nil .nil .nil .nil .nil .nil) .nil .nil .nil .nil .nil .nil)) (.nd none (.nd none .nil .nil (.nd (some ⟨R208_0, [], 10⟩) .nil .nil .nil .nil .nil .nil .nil .nil) .nil .nil .nil .nil .nil) (.nd (some ⟨R24_9, [.tmp 2], 11⟩) (.nd (some ⟨R88_3, [.tmp 2], 4⟩) .nil .nil .nil .nil .nil .nil .nil .nil) .nil .nil .nil .nil .nil .nil .nil) (.nd none (.nd (some ⟨R96_13, [.tmp 2], 29⟩) .nil .nil .nil .nil .nil .nil .nil .nil) .nil .nil .nil .nil .nil .nil .nil) (.nd none .nil (.nd (some ⟨R168_7, [.tmp 2], 8⟩) .nil .nil .nil .nil .nil .nil .nil .nil) .nil .nil .nil .nil .nil .nil) (.nd (some ⟨R48_66, [.tmp 4, .tmp 5], 71⟩) .nil (.nd (some ⟨R176_15, [], 16⟩) .nil .nil .nil .nil .nil .nil .nil .nil) .nil .nil .nil .nil .nil .nil) (.nd (some ⟨R56_19, [.tmp 2], 27⟩) .nil (.nd (some ⟨R184_32, [], 56⟩) .nil .nil .nil .nil .nil .nil .nil .nil) .nil .nil .nil .nil .nil .nil) (.nd none (.nd (some ⟨R128_21, [.tmp 2], 26⟩) .nil .nil .nil .nil .nil .nil .nil .nil) (.nd (some ⟨R192_17, [.tmp 2], 19⟩) .nil .nil .nil .nil .nil .nil .nil .nil) .nil .nil .nil .nil .nil .nil) (.nd none .nil (.nd (some ⟨R200_3, [.tmp 2], 7⟩) .nil .nil .nil .nil .nil .nil .nil .nil) .nil .nil .nil .nil .nil .nil)))
noncomputable def xfT : T Xf := (.nd none (.nd none .nil (.nd none .nil .nil (.nd (some (.add .i32)) .nil .nil .nil .nil .nil .nil .nil .nil) .nil .nil .nil .nil .nil) (.nd none .nil .nil (.nd (some (.nop)) .nil .nil .nil .nil .nil .nil .nil .nil) .nil .nil .nil .nil .nil) .nil .nil .nil .nil .nil) (.nd none .nil .nil (.nd none .nil .nil (.nd (some (.mrk)) .nil .nil .nil .nil .nil .nil .nil .nil) .nil .nil .nil .nil .nil) .nil .nil .nil .nil .nil) .nil (.nd none .nil .nil (.nd none .nil .nil (.nd (some (.mrk)) .nil .nil .nil .nil .nil .nil .nil .nil) .nil .nil .nil .nil .nil) .nil .nil (.nd none (.nd (some (.add .i64)) .nil .nil .nil .nil .nil .nil .nil .nil) .nil .nil .nil .nil .nil .nil .nil) .nil .nil) (.nd none (.nd none .nil .nil (.nd (some (.ld .u32)) .nil .nil .nil .nil .nil .nil .nil .nil) .nil .nil .nil .nil .nil) (.nd none .nil .nil (.nd (some (.st)) .nil .nil .nil .nil .nil .nil .nil .nil) .nil .nil .nil .nil .nil) .nil .nil .nil .nil .nil .nil) .nil (.nd none .nil (.nd none .nil .nil (.nd (some (.nop)) .nil .nil .nil .nil .nil .nil .nil .nil) .nil .nil .nil .nil .nil) .nil .nil .nil .nil .nil .nil) (.nd none .nil (.nd none .nil .nil (.nd (some (.cas .i32)) .nil .nil .nil .nil .nil .nil .nil .nil) .nil .nil .nil .nil .nil) .nil .nil .nil .nil .nil .nil))
end Go.Proofs.YtbmncepaajkngaaGreat
