/- The code of functions, their operations looked up (printed by a program of this work): it is so. -/
import Derived.Test.YtbmncepaajkngaaGreatWalTabB
import Derived.Test.YtbmncepaajkngaaGreatProg
import Derived.KernelRfl
namespace Go.Proofs.YtbmncepaajkngaaGreat
open Go.Lx
set_option maxRecDepth 100000
theorem fn4 : FnOK Tryz.prog 4 ⟨R4_47, [.cell1 2], 74⟩ :=
  ⟨Tryz.f4, Tryz.f4.body.getD .skip, Tryz.func4, by kernel_rfl, by kernel_rfl, by kernel_rfl, by kernel_rfl, by kernel_rfl⟩
theorem fn20 : FnOK Tryz.prog 20 ⟨R20_11, [.tmp 0], 66⟩ :=
  ⟨Tryz.f20, Tryz.f20.body.getD .skip, Tryz.func20, by kernel_rfl, by kernel_rfl, by kernel_rfl, by kernel_rfl, by kernel_rfl⟩
theorem fn21 : FnOK Tryz.prog 21 ⟨R21_53, [.tmp 6], 100⟩ :=
  ⟨Tryz.f21, Tryz.f21.body.getD .skip, Tryz.func21, by kernel_rfl, by kernel_rfl, by kernel_rfl, by kernel_rfl, by kernel_rfl⟩
theorem fn22 : FnOK Tryz.prog 22 ⟨R22_13, [.tmp 2], 28⟩ :=
  ⟨Tryz.f22, Tryz.f22.body.getD .skip, Tryz.func22, by kernel_rfl, by kernel_rfl, by kernel_rfl, by kernel_rfl, by kernel_rfl⟩
theorem fn23 : FnOK Tryz.prog 23 ⟨R23_13, [.tmp 2], 15⟩ :=
  ⟨Tryz.f23, Tryz.f23.body.getD .skip, Tryz.func23, by kernel_rfl, by kernel_rfl, by kernel_rfl, by kernel_rfl, by kernel_rfl⟩
theorem fn24 : FnOK Tryz.prog 24 ⟨R24_9, [.tmp 2], 11⟩ :=
  ⟨Tryz.f24, Tryz.f24.body.getD .skip, Tryz.func24, by kernel_rfl, by kernel_rfl, by kernel_rfl, by kernel_rfl, by kernel_rfl⟩
theorem fn25 : FnOK Tryz.prog 25 ⟨R25_9, [.tmp 2], 10⟩ :=
  ⟨Tryz.f25, Tryz.f25.body.getD .skip, Tryz.func25, by kernel_rfl, by kernel_rfl, by kernel_rfl, by kernel_rfl, by kernel_rfl⟩
theorem fn26 : FnOK Tryz.prog 26 ⟨R26_9, [.tmp 2], 10⟩ :=
  ⟨Tryz.f26, Tryz.f26.body.getD .skip, Tryz.func26, by kernel_rfl, by kernel_rfl, by kernel_rfl, by kernel_rfl, by kernel_rfl⟩
theorem fn27 : FnOK Tryz.prog 27 ⟨R27_3, [.tmp 2], 4⟩ :=
  ⟨Tryz.f27, Tryz.f27.body.getD .skip, Tryz.func27, by kernel_rfl, by kernel_rfl, by kernel_rfl, by kernel_rfl, by kernel_rfl⟩
theorem fn28 : FnOK Tryz.prog 28 ⟨R28_27, [.tmp 4, .tmp 5], 30⟩ :=
  ⟨Tryz.f28, Tryz.f28.body.getD .skip, Tryz.func28, by kernel_rfl, by kernel_rfl, by kernel_rfl, by kernel_rfl, by kernel_rfl⟩
theorem fn29 : FnOK Tryz.prog 29 ⟨R29_42, [.tmp 4, .tmp 5], 69⟩ :=
  ⟨Tryz.f29, Tryz.f29.body.getD .skip, Tryz.func29, by kernel_rfl, by kernel_rfl, by kernel_rfl, by kernel_rfl, by kernel_rfl⟩
theorem fn48 : FnOK Tryz.prog 48 ⟨R48_66, [.tmp 4, .tmp 5], 71⟩ :=
  ⟨Tryz.f48, Tryz.f48.body.getD .skip, Tryz.func48, by kernel_rfl, by kernel_rfl, by kernel_rfl, by kernel_rfl, by kernel_rfl⟩
theorem fn49 : FnOK Tryz.prog 49 ⟨R49_43, [.tmp 2, .tmp 3], 51⟩ :=
  ⟨Tryz.f49, Tryz.f49.body.getD .skip, Tryz.func49, by kernel_rfl, by kernel_rfl, by kernel_rfl, by kernel_rfl, by kernel_rfl⟩
theorem fn50 : FnOK Tryz.prog 50 ⟨R50_3, [.tmp 2], 12⟩ :=
  ⟨Tryz.f50, Tryz.f50.body.getD .skip, Tryz.func50, by kernel_rfl, by kernel_rfl, by kernel_rfl, by kernel_rfl, by kernel_rfl⟩
theorem fn51 : FnOK Tryz.prog 51 ⟨R51_29, [.tmp 6], 56⟩ :=
  ⟨Tryz.f51, Tryz.f51.body.getD .skip, Tryz.func51, by kernel_rfl, by kernel_rfl, by kernel_rfl, by kernel_rfl, by kernel_rfl⟩
theorem fn52 : FnOK Tryz.prog 52 ⟨R52_34, [.tmp 6], 57⟩ :=
  ⟨Tryz.f52, Tryz.f52.body.getD .skip, Tryz.func52, by kernel_rfl, by kernel_rfl, by kernel_rfl, by kernel_rfl, by kernel_rfl⟩
theorem fn53 : FnOK Tryz.prog 53 ⟨R53_21, [.tmp 4], 39⟩ :=
  ⟨Tryz.f53, Tryz.f53.body.getD .skip, Tryz.func53, by kernel_rfl, by kernel_rfl, by kernel_rfl, by kernel_rfl, by kernel_rfl⟩
theorem fn41 : FnOK Tryz.prog 41 ⟨R41_9, [.tmp 2], 8⟩ :=
  ⟨Tryz.f41, Tryz.f41.body.getD .skip, Tryz.func41, by kernel_rfl, by kernel_rfl, by kernel_rfl, by kernel_rfl, by kernel_rfl⟩
theorem fn54 : FnOK Tryz.prog 54 ⟨R54_19, [], 25⟩ :=
  ⟨Tryz.f54, Tryz.f54.body.getD .skip, Tryz.func54, by kernel_rfl, by kernel_rfl, by kernel_rfl, by kernel_rfl, by kernel_rfl⟩
theorem fn55 : FnOK Tryz.prog 55 ⟨R55_37, [.tmp 4], 49⟩ :=
  ⟨Tryz.f55, Tryz.f55.body.getD .skip, Tryz.func55, by kernel_rfl, by kernel_rfl, by kernel_rfl, by kernel_rfl, by kernel_rfl⟩
theorem fn56 : FnOK Tryz.prog 56 ⟨R56_19, [.tmp 2], 27⟩ :=
  ⟨Tryz.f56, Tryz.f56.body.getD .skip, Tryz.func56, by kernel_rfl, by kernel_rfl, by kernel_rfl, by kernel_rfl, by kernel_rfl⟩
theorem fn57 : FnOK Tryz.prog 57 ⟨R57_17, [.tmp 4, .tmp 5], 33⟩ :=
  ⟨Tryz.f57, Tryz.f57.body.getD .skip, Tryz.func57, by kernel_rfl, by kernel_rfl, by kernel_rfl, by kernel_rfl, by kernel_rfl⟩
theorem fn58 : FnOK Tryz.prog 58 ⟨R58_23, [.tmp 8, .tmp 9], 68⟩ :=
  ⟨Tryz.f58, Tryz.f58.body.getD .skip, Tryz.func58, by kernel_rfl, by kernel_rfl, by kernel_rfl, by kernel_rfl, by kernel_rfl⟩
theorem fn65 : FnOK Tryz.prog 65 ⟨R65_3, [.tmp 0], 3⟩ :=
  ⟨Tryz.f65, Tryz.f65.body.getD .skip, Tryz.func65, by kernel_rfl, by kernel_rfl, by kernel_rfl, by kernel_rfl, by kernel_rfl⟩
theorem fn87 : FnOK Tryz.prog 87 ⟨R87_11, [.tmp 6], 33⟩ :=
  ⟨Tryz.f87, Tryz.f87.body.getD .skip, Tryz.func87, by kernel_rfl, by kernel_rfl, by kernel_rfl, by kernel_rfl, by kernel_rfl⟩
theorem fn88 : FnOK Tryz.prog 88 ⟨R88_3, [.tmp 2], 4⟩ :=
  ⟨Tryz.f88, Tryz.f88.body.getD .skip, Tryz.func88, by kernel_rfl, by kernel_rfl, by kernel_rfl, by kernel_rfl, by kernel_rfl⟩
theorem fn89 : FnOK Tryz.prog 89 ⟨R89_25, [.tmp 2, .tmp 3], 37⟩ :=
  ⟨Tryz.f89, Tryz.f89.body.getD .skip, Tryz.func89, by kernel_rfl, by kernel_rfl, by kernel_rfl, by kernel_rfl, by kernel_rfl⟩
theorem fn90 : FnOK Tryz.prog 90 ⟨R90_2, [], 26⟩ :=
  ⟨Tryz.f90, Tryz.f90.body.getD .skip, Tryz.func90, by kernel_rfl, by kernel_rfl, by kernel_rfl, by kernel_rfl, by kernel_rfl⟩
theorem fn91 : FnOK Tryz.prog 91 ⟨R91_3, [.tmp 6], 38⟩ :=
  ⟨Tryz.f91, Tryz.f91.body.getD .skip, Tryz.func91, by kernel_rfl, by kernel_rfl, by kernel_rfl, by kernel_rfl, by kernel_rfl⟩
theorem fn92 : FnOK Tryz.prog 92 ⟨R92_28, [.tmp 2], 34⟩ :=
  ⟨Tryz.f92, Tryz.f92.body.getD .skip, Tryz.func92, by kernel_rfl, by kernel_rfl, by kernel_rfl, by kernel_rfl, by kernel_rfl⟩
theorem fn93 : FnOK Tryz.prog 93 ⟨R93_4, [], 20⟩ :=
  ⟨Tryz.f93, Tryz.f93.body.getD .skip, Tryz.func93, by kernel_rfl, by kernel_rfl, by kernel_rfl, by kernel_rfl, by kernel_rfl⟩
theorem fn94 : FnOK Tryz.prog 94 ⟨R94_9, [.tmp 2], 9⟩ :=
  ⟨Tryz.f94, Tryz.f94.body.getD .skip, Tryz.func94, by kernel_rfl, by kernel_rfl, by kernel_rfl, by kernel_rfl, by kernel_rfl⟩
theorem fn60 : FnOK Tryz.prog 60 ⟨R60_3, [.tmp 2], 12⟩ :=
  ⟨Tryz.f60, Tryz.f60.body.getD .skip, Tryz.func60, by kernel_rfl, by kernel_rfl, by kernel_rfl, by kernel_rfl, by kernel_rfl⟩
theorem fn124 : FnOK Tryz.prog 124 ⟨R124_3, [.tmp 4], 8⟩ :=
  ⟨Tryz.f124, Tryz.f124.body.getD .skip, Tryz.func124, by kernel_rfl, by kernel_rfl, by kernel_rfl, by kernel_rfl, by kernel_rfl⟩
theorem fn123 : FnOK Tryz.prog 123 ⟨R123_3, [.tmp 2], 6⟩ :=
  ⟨Tryz.f123, Tryz.f123.body.getD .skip, Tryz.func123, by kernel_rfl, by kernel_rfl, by kernel_rfl, by kernel_rfl, by kernel_rfl⟩
theorem fn122 : FnOK Tryz.prog 122 ⟨R122_20, [.tmp 4], 24⟩ :=
  ⟨Tryz.f122, Tryz.f122.body.getD .skip, Tryz.func122, by kernel_rfl, by kernel_rfl, by kernel_rfl, by kernel_rfl, by kernel_rfl⟩
theorem fn125 : FnOK Tryz.prog 125 ⟨R125_56, [], 119⟩ :=
  ⟨Tryz.f125, Tryz.f125.body.getD .skip, Tryz.func125, by kernel_rfl, by kernel_rfl, by kernel_rfl, by kernel_rfl, by kernel_rfl⟩
theorem fn79 : FnOK Tryz.prog 79 ⟨R79_3, [.tmp 4], 10⟩ :=
  ⟨Tryz.f79, Tryz.f79.body.getD .skip, Tryz.func79, by kernel_rfl, by kernel_rfl, by kernel_rfl, by kernel_rfl, by kernel_rfl⟩
theorem fn61 : FnOK Tryz.prog 61 ⟨R61_72, [], 118⟩ :=
  ⟨Tryz.f61, Tryz.f61.body.getD .skip, Tryz.func61, by kernel_rfl, by kernel_rfl, by kernel_rfl, by kernel_rfl, by kernel_rfl⟩
theorem fn127 : FnOK Tryz.prog 127 ⟨R127_3, [.tmp 4], 9⟩ :=
  ⟨Tryz.f127, Tryz.f127.body.getD .skip, Tryz.func127, by kernel_rfl, by kernel_rfl, by kernel_rfl, by kernel_rfl, by kernel_rfl⟩
theorem fn128 : FnOK Tryz.prog 128 ⟨R128_21, [.tmp 2], 26⟩ :=
  ⟨Tryz.f128, Tryz.f128.body.getD .skip, Tryz.func128, by kernel_rfl, by kernel_rfl, by kernel_rfl, by kernel_rfl, by kernel_rfl⟩
theorem fn98 : FnOK Tryz.prog 98 ⟨R98_10, [], 18⟩ :=
  ⟨Tryz.f98, Tryz.f98.body.getD .skip, Tryz.func98, by kernel_rfl, by kernel_rfl, by kernel_rfl, by kernel_rfl, by kernel_rfl⟩
theorem fn140 : FnOK Tryz.prog 140 ⟨R140_27, [.tmp 6], 43⟩ :=
  ⟨Tryz.f140, Tryz.f140.body.getD .skip, Tryz.func140, by kernel_rfl, by kernel_rfl, by kernel_rfl, by kernel_rfl, by kernel_rfl⟩
theorem fn121 : FnOK Tryz.prog 121 ⟨R121_5, [.tmp 4], 17⟩ :=
  ⟨Tryz.f121, Tryz.f121.body.getD .skip, Tryz.func121, by kernel_rfl, by kernel_rfl, by kernel_rfl, by kernel_rfl, by kernel_rfl⟩
theorem fn126 : FnOK Tryz.prog 126 ⟨R126_28, [.tmp 4], 26⟩ :=
  ⟨Tryz.f126, Tryz.f126.body.getD .skip, Tryz.func126, by kernel_rfl, by kernel_rfl, by kernel_rfl, by kernel_rfl, by kernel_rfl⟩
theorem xf116 : XfOK Tryz.prog 116 (.add .i64) := xf_of Tryz.func116 (by kernel_rfl) (by kernel_rfl) (by kernel_rfl) (by kernel_rfl)
theorem fn96 : FnOK Tryz.prog 96 ⟨R96_13, [.tmp 2], 29⟩ :=
  ⟨Tryz.f96, Tryz.f96.body.getD .skip, Tryz.func96, by kernel_rfl, by kernel_rfl, by kernel_rfl, by kernel_rfl, by kernel_rfl⟩
theorem fn97 : FnOK Tryz.prog 97 ⟨R97_9, [.tmp 4], 12⟩ :=
  ⟨Tryz.f97, Tryz.f97.body.getD .skip, Tryz.func97, by kernel_rfl, by kernel_rfl, by kernel_rfl, by kernel_rfl, by kernel_rfl⟩
theorem fn99 : FnOK Tryz.prog 99 ⟨R99_3, [.tmp 2], 6⟩ :=
  ⟨Tryz.f99, Tryz.f99.body.getD .skip, Tryz.func99, by kernel_rfl, by kernel_rfl, by kernel_rfl, by kernel_rfl, by kernel_rfl⟩
theorem fn147 : FnOK Tryz.prog 147 ⟨R147_22, [.tmp 4], 19⟩ :=
  ⟨Tryz.f147, Tryz.f147.body.getD .skip, Tryz.func147, by kernel_rfl, by kernel_rfl, by kernel_rfl, by kernel_rfl, by kernel_rfl⟩
theorem fn148 : FnOK Tryz.prog 148 ⟨R148_3, [.tmp 2], 12⟩ :=
  ⟨Tryz.f148, Tryz.f148.body.getD .skip, Tryz.func148, by kernel_rfl, by kernel_rfl, by kernel_rfl, by kernel_rfl, by kernel_rfl⟩
theorem fn158 : FnOK Tryz.prog 158 ⟨R158_11, [.tmp 2], 18⟩ :=
  ⟨Tryz.f158, Tryz.f158.body.getD .skip, Tryz.func158, by kernel_rfl, by kernel_rfl, by kernel_rfl, by kernel_rfl, by kernel_rfl⟩
theorem fn159 : FnOK Tryz.prog 159 ⟨R159_3, [.tmp 2], 4⟩ :=
  ⟨Tryz.f159, Tryz.f159.body.getD .skip, Tryz.func159, by kernel_rfl, by kernel_rfl, by kernel_rfl, by kernel_rfl, by kernel_rfl⟩
theorem fn131 : FnOK Tryz.prog 131 ⟨R131_3, [.tmp 2], 4⟩ :=
  ⟨Tryz.f131, Tryz.f131.body.getD .skip, Tryz.func131, by kernel_rfl, by kernel_rfl, by kernel_rfl, by kernel_rfl, by kernel_rfl⟩
theorem fn130 : FnOK Tryz.prog 130 ⟨R130_7, [.tmp 2], 9⟩ :=
  ⟨Tryz.f130, Tryz.f130.body.getD .skip, Tryz.func130, by kernel_rfl, by kernel_rfl, by kernel_rfl, by kernel_rfl, by kernel_rfl⟩
theorem fn175 : FnOK Tryz.prog 175 ⟨R175_37, [], 32⟩ :=
  ⟨Tryz.f175, Tryz.f175.body.getD .skip, Tryz.func175, by kernel_rfl, by kernel_rfl, by kernel_rfl, by kernel_rfl, by kernel_rfl⟩
theorem fn174 : FnOK Tryz.prog 174 ⟨R174_3, [], 12⟩ :=
  ⟨Tryz.f174, Tryz.f174.body.getD .skip, Tryz.func174, by kernel_rfl, by kernel_rfl, by kernel_rfl, by kernel_rfl, by kernel_rfl⟩
theorem fn176 : FnOK Tryz.prog 176 ⟨R176_15, [], 16⟩ :=
  ⟨Tryz.f176, Tryz.f176.body.getD .skip, Tryz.func176, by kernel_rfl, by kernel_rfl, by kernel_rfl, by kernel_rfl, by kernel_rfl⟩
theorem fn151 : FnOK Tryz.prog 151 ⟨R151_13, [], 14⟩ :=
  ⟨Tryz.f151, Tryz.f151.body.getD .skip, Tryz.func151, by kernel_rfl, by kernel_rfl, by kernel_rfl, by kernel_rfl, by kernel_rfl⟩
theorem fn149 : FnOK Tryz.prog 149 ⟨R149_3, [.tmp 2], 5⟩ :=
  ⟨Tryz.f149, Tryz.f149.body.getD .skip, Tryz.func149, by kernel_rfl, by kernel_rfl, by kernel_rfl, by kernel_rfl, by kernel_rfl⟩
theorem fn150 : FnOK Tryz.prog 150 ⟨R150_2, [], 11⟩ :=
  ⟨Tryz.f150, Tryz.f150.body.getD .skip, Tryz.func150, by kernel_rfl, by kernel_rfl, by kernel_rfl, by kernel_rfl, by kernel_rfl⟩
theorem fn196 : FnOK Tryz.prog 196 ⟨R196_3, [.tmp 4], 10⟩ :=
  ⟨Tryz.f196, Tryz.f196.body.getD .skip, Tryz.func196, by kernel_rfl, by kernel_rfl, by kernel_rfl, by kernel_rfl, by kernel_rfl⟩
theorem fn194 : FnOK Tryz.prog 194 ⟨R194_3, [.tmp 2], 8⟩ :=
  ⟨Tryz.f194, Tryz.f194.body.getD .skip, Tryz.func194, by kernel_rfl, by kernel_rfl, by kernel_rfl, by kernel_rfl, by kernel_rfl⟩
theorem fn195 : FnOK Tryz.prog 195 ⟨R195_9, [], 21⟩ :=
  ⟨Tryz.f195, Tryz.f195.body.getD .skip, Tryz.func195, by kernel_rfl, by kernel_rfl, by kernel_rfl, by kernel_rfl, by kernel_rfl⟩
theorem fn166 : FnOK Tryz.prog 166 ⟨R166_11, [.tmp 4], 13⟩ :=
  ⟨Tryz.f166, Tryz.f166.body.getD .skip, Tryz.func166, by kernel_rfl, by kernel_rfl, by kernel_rfl, by kernel_rfl, by kernel_rfl⟩
theorem fn168 : FnOK Tryz.prog 168 ⟨R168_7, [.tmp 2], 8⟩ :=
  ⟨Tryz.f168, Tryz.f168.body.getD .skip, Tryz.func168, by kernel_rfl, by kernel_rfl, by kernel_rfl, by kernel_rfl, by kernel_rfl⟩
theorem fn167 : FnOK Tryz.prog 167 ⟨R167_74, [], 134⟩ :=
  ⟨Tryz.f167, Tryz.f167.body.getD .skip, Tryz.func167, by kernel_rfl, by kernel_rfl, by kernel_rfl, by kernel_rfl, by kernel_rfl⟩
theorem xf209 : XfOK Tryz.prog 209 (.add .i32) := xf_of Tryz.func209 (by kernel_rfl) (by kernel_rfl) (by kernel_rfl) (by kernel_rfl)
theorem xf205 : XfOK Tryz.prog 205 (.ld .u32) := xf_of Tryz.func205 (by kernel_rfl) (by kernel_rfl) (by kernel_rfl) (by kernel_rfl)
theorem fn206 : FnOK Tryz.prog 206 ⟨R206_0, [], 6⟩ :=
  ⟨Tryz.f206, Tryz.f206.body.getD .skip, Tryz.func206, by kernel_rfl, by kernel_rfl, by kernel_rfl, by kernel_rfl, by kernel_rfl⟩
theorem fn207 : FnOK Tryz.prog 207 ⟨R207_0, [], 6⟩ :=
  ⟨Tryz.f207, Tryz.f207.body.getD .skip, Tryz.func207, by kernel_rfl, by kernel_rfl, by kernel_rfl, by kernel_rfl, by kernel_rfl⟩
theorem fn208 : FnOK Tryz.prog 208 ⟨R208_0, [], 10⟩ :=
  ⟨Tryz.f208, Tryz.f208.body.getD .skip, Tryz.func208, by kernel_rfl, by kernel_rfl, by kernel_rfl, by kernel_rfl, by kernel_rfl⟩
theorem fn192 : FnOK Tryz.prog 192 ⟨R192_17, [.tmp 2], 19⟩ :=
  ⟨Tryz.f192, Tryz.f192.body.getD .skip, Tryz.func192, by kernel_rfl, by kernel_rfl, by kernel_rfl, by kernel_rfl, by kernel_rfl⟩
theorem fn193 : FnOK Tryz.prog 193 ⟨R193_24, [.tmp 2], 25⟩ :=
  ⟨Tryz.f193, Tryz.f193.body.getD .skip, Tryz.func193, by kernel_rfl, by kernel_rfl, by kernel_rfl, by kernel_rfl, by kernel_rfl⟩
theorem fn183 : FnOK Tryz.prog 183 ⟨R183_22, [], 49⟩ :=
  ⟨Tryz.f183, Tryz.f183.body.getD .skip, Tryz.func183, by kernel_rfl, by kernel_rfl, by kernel_rfl, by kernel_rfl, by kernel_rfl⟩
theorem fn184 : FnOK Tryz.prog 184 ⟨R184_32, [], 56⟩ :=
  ⟨Tryz.f184, Tryz.f184.body.getD .skip, Tryz.func184, by kernel_rfl, by kernel_rfl, by kernel_rfl, by kernel_rfl, by kernel_rfl⟩
theorem fn185 : FnOK Tryz.prog 185 ⟨R185_27, [], 65⟩ :=
  ⟨Tryz.f185, Tryz.f185.body.getD .skip, Tryz.func185, by kernel_rfl, by kernel_rfl, by kernel_rfl, by kernel_rfl, by kernel_rfl⟩
theorem fn186 : FnOK Tryz.prog 186 ⟨R186_40, [.tmp 6, .tmp 7], 57⟩ :=
  ⟨Tryz.f186, Tryz.f186.body.getD .skip, Tryz.func186, by kernel_rfl, by kernel_rfl, by kernel_rfl, by kernel_rfl, by kernel_rfl⟩
theorem fn187 : FnOK Tryz.prog 187 ⟨R187_15, [], 32⟩ :=
  ⟨Tryz.f187, Tryz.f187.body.getD .skip, Tryz.func187, by kernel_rfl, by kernel_rfl, by kernel_rfl, by kernel_rfl, by kernel_rfl⟩
theorem fn188 : FnOK Tryz.prog 188 ⟨R188_79, [.tmp 6], 133⟩ :=
  ⟨Tryz.f188, Tryz.f188.body.getD .skip, Tryz.func188, by kernel_rfl, by kernel_rfl, by kernel_rfl, by kernel_rfl, by kernel_rfl⟩
theorem fn189 : FnOK Tryz.prog 189 ⟨R189_3, [.tmp 4], 17⟩ :=
  ⟨Tryz.f189, Tryz.f189.body.getD .skip, Tryz.func189, by kernel_rfl, by kernel_rfl, by kernel_rfl, by kernel_rfl, by kernel_rfl⟩
theorem fn190 : FnOK Tryz.prog 190 ⟨R190_38, [.tmp 8], 84⟩ :=
  ⟨Tryz.f190, Tryz.f190.body.getD .skip, Tryz.func190, by kernel_rfl, by kernel_rfl, by kernel_rfl, by kernel_rfl, by kernel_rfl⟩
theorem fn191 : FnOK Tryz.prog 191 ⟨R191_72, [.tmp 8, .tmp 9], 168⟩ :=
  ⟨Tryz.f191, Tryz.f191.body.getD .skip, Tryz.func191, by kernel_rfl, by kernel_rfl, by kernel_rfl, by kernel_rfl, by kernel_rfl⟩
theorem fn211 : FnOK Tryz.prog 211 ⟨R211_11, [], 13⟩ :=
  ⟨Tryz.f211, Tryz.f211.body.getD .skip, Tryz.func211, by kernel_rfl, by kernel_rfl, by kernel_rfl, by kernel_rfl, by kernel_rfl⟩
theorem fn212 : FnOK Tryz.prog 212 ⟨R212_14, [], 21⟩ :=
  ⟨Tryz.f212, Tryz.f212.body.getD .skip, Tryz.func212, by kernel_rfl, by kernel_rfl, by kernel_rfl, by kernel_rfl, by kernel_rfl⟩
theorem fn214 : FnOK Tryz.prog 214 ⟨R214_9, [.tmp 2], 4⟩ :=
  ⟨Tryz.f214, Tryz.f214.body.getD .skip, Tryz.func214, by kernel_rfl, by kernel_rfl, by kernel_rfl, by kernel_rfl, by kernel_rfl⟩
theorem xf213 : XfOK Tryz.prog 213 (.st) := xf_of Tryz.func213 (by kernel_rfl) (by kernel_rfl) (by kernel_rfl) (by kernel_rfl)
theorem fn199 : FnOK Tryz.prog 199 ⟨R199_22, [], 76⟩ :=
  ⟨Tryz.f199, Tryz.f199.body.getD .skip, Tryz.func199, by kernel_rfl, by kernel_rfl, by kernel_rfl, by kernel_rfl, by kernel_rfl⟩
theorem fn200 : FnOK Tryz.prog 200 ⟨R200_3, [.tmp 2], 7⟩ :=
  ⟨Tryz.f200, Tryz.f200.body.getD .skip, Tryz.func200, by kernel_rfl, by kernel_rfl, by kernel_rfl, by kernel_rfl, by kernel_rfl⟩
theorem fn201 : FnOK Tryz.prog 201 ⟨R201_9, [.tmp 2], 33⟩ :=
  ⟨Tryz.f201, Tryz.f201.body.getD .skip, Tryz.func201, by kernel_rfl, by kernel_rfl, by kernel_rfl, by kernel_rfl, by kernel_rfl⟩
theorem fn202 : FnOK Tryz.prog 202 ⟨R202_3, [.tmp 6], 15⟩ :=
  ⟨Tryz.f202, Tryz.f202.body.getD .skip, Tryz.func202, by kernel_rfl, by kernel_rfl, by kernel_rfl, by kernel_rfl, by kernel_rfl⟩
theorem fn203 : FnOK Tryz.prog 203 ⟨R203_9, [.tmp 10], 36⟩ :=
  ⟨Tryz.f203, Tryz.f203.body.getD .skip, Tryz.func203, by kernel_rfl, by kernel_rfl, by kernel_rfl, by kernel_rfl, by kernel_rfl⟩
theorem fn204 : FnOK Tryz.prog 204 ⟨R204_3, [.tmp 2], 6⟩ :=
  ⟨Tryz.f204, Tryz.f204.body.getD .skip, Tryz.func204, by kernel_rfl, by kernel_rfl, by kernel_rfl, by kernel_rfl, by kernel_rfl⟩
theorem xf215 : XfOK Tryz.prog 215 (.nop) := xf_nop (m := .disable) Tryz.func215 (by kernel_rfl) (by kernel_rfl) (by kernel_rfl) (by kernel_rfl)
theorem xf216 : XfOK Tryz.prog 216 (.cas .i32) := xf_of Tryz.func216 (by kernel_rfl) (by kernel_rfl) (by kernel_rfl) (by kernel_rfl)
theorem xf217 : XfOK Tryz.prog 217 (.nop) := xf_nop (m := .enable) Tryz.func217 (by kernel_rfl) (by kernel_rfl) (by kernel_rfl) (by kernel_rfl)
theorem xf218 : XfOK Tryz.prog 218 (.mrk) := xf_mrk (m := .acquire) Tryz.func218 (by kernel_rfl) (by kernel_rfl) (by kernel_rfl) (by kernel_rfl)
theorem fn219 : FnOK Tryz.prog 219 ⟨R219_101, [], 139⟩ :=
  ⟨Tryz.f219, Tryz.f219.body.getD .skip, Tryz.func219, by kernel_rfl, by kernel_rfl, by kernel_rfl, by kernel_rfl, by kernel_rfl⟩
theorem xf220 : XfOK Tryz.prog 220 (.mrk) := xf_mrk (m := .releaseMerge) Tryz.func220 (by kernel_rfl) (by kernel_rfl) (by kernel_rfl) (by kernel_rfl)
theorem fn221 : FnOK Tryz.prog 221 ⟨R221_26, [], 43⟩ :=
  ⟨Tryz.f221, Tryz.f221.body.getD .skip, Tryz.func221, by kernel_rfl, by kernel_rfl, by kernel_rfl, by kernel_rfl, by kernel_rfl⟩
theorem fn210 : FnOK Tryz.prog 210 ⟨R210_11, [.tmp 8, .tmp 9], 28⟩ :=
  ⟨Tryz.f210, Tryz.f210.body.getD .skip, Tryz.func210, by kernel_rfl, by kernel_rfl, by kernel_rfl, by kernel_rfl, by kernel_rfl⟩
theorem tab_ok : TAll (fun f x => FnOK Tryz.prog f x) dec tab := ⟨okN, ⟨okN, ⟨okN, trivial, trivial, ⟨(okS fn201), trivial, trivial, trivial, trivial, trivial, trivial, trivial, trivial⟩, trivial, trivial, trivial, trivial, trivial⟩, trivial, ⟨(okS fn25), ⟨(okS fn89), trivial, trivial, trivial, trivial, trivial, trivial, trivial, trivial⟩, trivial, trivial, trivial, trivial, trivial, trivial, trivial⟩, ⟨okN, ⟨(okS fn97), trivial, trivial, trivial, trivial, trivial, trivial, trivial, trivial⟩, trivial, trivial, trivial, trivial, trivial, trivial, trivial⟩, ⟨(okS fn41), trivial, trivial, trivial, trivial, trivial, trivial, trivial, trivial⟩, ⟨(okS fn49), trivial, trivial, trivial, trivial, trivial, trivial, trivial, trivial⟩, ⟨(okS fn57), ⟨(okS fn121), trivial, trivial, trivial, trivial, trivial, trivial, trivial, trivial⟩, ⟨(okS fn185), trivial, trivial, trivial, trivial, trivial, trivial, trivial, trivial⟩, trivial, trivial, trivial, trivial, trivial, trivial⟩, ⟨(okS fn65), trivial, ⟨(okS fn193), trivial, trivial, trivial, trivial, trivial, trivial, trivial, trivial⟩, trivial, trivial, trivial, trivial, trivial, trivial⟩⟩, ⟨okN, ⟨okN, trivial, trivial, ⟨(okS fn202), trivial, trivial, trivial, trivial, trivial, trivial, trivial, trivial⟩, trivial, trivial, trivial, trivial, trivial⟩, ⟨okN, trivial, trivial, ⟨(okS fn210), trivial, trivial, trivial, trivial, trivial, trivial, trivial, trivial⟩, trivial, trivial, trivial, trivial, trivial⟩, ⟨(okS fn26), ⟨(okS fn90), trivial, trivial, trivial, trivial, trivial, trivial, trivial, trivial⟩, trivial, trivial, trivial, trivial, trivial, trivial, trivial⟩, ⟨okN, ⟨(okS fn98), trivial, trivial, trivial, trivial, trivial, trivial, trivial, trivial⟩, trivial, trivial, trivial, trivial, trivial, trivial, trivial⟩, trivial, ⟨(okS fn50), trivial, trivial, trivial, trivial, trivial, trivial, trivial, trivial⟩, ⟨(okS fn58), ⟨(okS fn122), trivial, trivial, trivial, trivial, trivial, trivial, trivial, trivial⟩, ⟨(okS fn186), trivial, trivial, trivial, trivial, trivial, trivial, trivial, trivial⟩, trivial, trivial, trivial, trivial, trivial, trivial⟩, ⟨okN, ⟨(okS fn130), trivial, trivial, trivial, trivial, trivial, trivial, trivial, trivial⟩, ⟨(okS fn194), trivial, trivial, trivial, trivial, trivial, trivial, trivial, trivial⟩, trivial, trivial, trivial, trivial, trivial, trivial⟩⟩, ⟨okN, ⟨okN, trivial, trivial, ⟨(okS fn203), trivial, trivial, trivial, trivial, trivial, trivial, trivial, trivial⟩, trivial, trivial, trivial, trivial, trivial⟩, ⟨okN, trivial, ⟨(okS fn147), trivial, trivial, trivial, trivial, trivial, trivial, trivial, trivial⟩, ⟨(okS fn211), trivial, trivial, trivial, trivial, trivial, trivial, trivial, trivial⟩, trivial, trivial, trivial, trivial, trivial⟩, ⟨(okS fn27), ⟨(okS fn91), trivial, trivial, trivial, trivial, trivial, trivial, trivial, trivial⟩, trivial, ⟨(okS fn219), trivial, trivial, trivial, trivial, trivial, trivial, trivial, trivial⟩, trivial, trivial, trivial, trivial, trivial⟩, ⟨okN, ⟨(okS fn99), trivial, trivial, trivial, trivial, trivial, trivial, trivial, trivial⟩, trivial, trivial, trivial, trivial, trivial, trivial, trivial⟩, trivial, ⟨(okS fn51), trivial, trivial, trivial, trivial, trivial, trivial, trivial, trivial⟩, ⟨okN, ⟨(okS fn123), trivial, trivial, trivial, trivial, trivial, trivial, trivial, trivial⟩, ⟨(okS fn187), trivial, trivial, trivial, trivial, trivial, trivial, trivial, trivial⟩, trivial, trivial, trivial, trivial, trivial, trivial⟩, ⟨okN, ⟨(okS fn131), trivial, trivial, trivial, trivial, trivial, trivial, trivial, trivial⟩, ⟨(okS fn195), trivial, trivial, trivial, trivial, trivial, trivial, trivial, trivial⟩, trivial, trivial, trivial, trivial, trivial, trivial⟩⟩, ⟨(okS fn4), ⟨okN, trivial, ⟨(okS fn140), trivial, trivial, trivial, trivial, trivial, trivial, trivial, trivial⟩, ⟨(okS fn204), trivial, trivial, trivial, trivial, trivial, trivial, trivial, trivial⟩, trivial, trivial, trivial, trivial, trivial⟩, ⟨(okS fn20), trivial, ⟨(okS fn148), trivial, trivial, trivial, trivial, trivial, trivial, trivial, trivial⟩, ⟨(okS fn212), trivial, trivial, trivial, trivial, trivial, trivial, trivial, trivial⟩, trivial, trivial, trivial, trivial, trivial⟩, ⟨(okS fn28), ⟨(okS fn92), trivial, trivial, trivial, trivial, trivial, trivial, trivial, trivial⟩, trivial, trivial, trivial, trivial, trivial, trivial, trivial⟩, trivial, trivial, ⟨(okS fn52), trivial, trivial, trivial, trivial, trivial, trivial, trivial, trivial⟩, ⟨(okS fn60), ⟨(okS fn124), trivial, trivial, trivial, trivial, trivial, trivial, trivial, trivial⟩, ⟨(okS fn188), trivial, trivial, trivial, trivial, trivial, trivial, trivial, trivial⟩, trivial, trivial, trivial, trivial, trivial, trivial⟩, ⟨okN, trivial, ⟨(okS fn196), trivial, trivial, trivial, trivial, trivial, trivial, trivial, trivial⟩, trivial, trivial, trivial, trivial, trivial, trivial⟩⟩, ⟨okN, trivial, ⟨(okS fn21), trivial, ⟨(okS fn149), trivial, trivial, trivial, trivial, trivial, trivial, trivial, trivial⟩, trivial, trivial, trivial, trivial, trivial, trivial⟩, ⟨(okS fn29), ⟨(okS fn93), trivial, trivial, trivial, trivial, trivial, trivial, trivial, trivial⟩, trivial, ⟨(okS fn221), trivial, trivial, trivial, trivial, trivial, trivial, trivial, trivial⟩, trivial, trivial, trivial, trivial, trivial⟩, trivial, trivial, ⟨(okS fn53), trivial, trivial, trivial, trivial, trivial, trivial, trivial, trivial⟩, ⟨(okS fn61), ⟨(okS fn125), trivial, trivial, trivial, trivial, trivial, trivial, trivial, trivial⟩, ⟨(okS fn189), trivial, trivial, trivial, trivial, trivial, trivial, trivial, trivial⟩, trivial, trivial, trivial, trivial, trivial, trivial⟩, trivial⟩, ⟨okN, ⟨okN, trivial, trivial, ⟨(okS fn206), trivial, trivial, trivial, trivial, trivial, trivial, trivial, trivial⟩, trivial, trivial, trivial, trivial, trivial⟩, ⟨(okS fn22), trivial, ⟨(okS fn150), trivial, trivial, trivial, trivial, trivial, trivial, trivial, trivial⟩, ⟨(okS fn214), trivial, trivial, trivial, trivial, trivial, trivial, trivial, trivial⟩, trivial, trivial, trivial, trivial, trivial⟩, ⟨okN, ⟨(okS fn94), trivial, trivial, trivial, trivial, trivial, trivial, trivial, trivial⟩, ⟨(okS fn158), trivial, trivial, trivial, trivial, trivial, trivial, trivial, trivial⟩, trivial, trivial, trivial, trivial, trivial, trivial⟩, ⟨okN, trivial, ⟨(okS fn166), trivial, trivial, trivial, trivial, trivial, trivial, trivial, trivial⟩, trivial, trivial, trivial, trivial, trivial, trivial⟩, ⟨okN, trivial, ⟨(okS fn174), trivial, trivial, trivial, trivial, trivial, trivial, trivial, trivial⟩, trivial, trivial, trivial, trivial, trivial, trivial⟩, ⟨(okS fn54), trivial, trivial, trivial, trivial, trivial, trivial, trivial, trivial⟩, ⟨okN, ⟨(okS fn126), trivial, trivial, trivial, trivial, trivial, trivial, trivial, trivial⟩, ⟨(okS fn190), trivial, trivial, trivial, trivial, trivial, trivial, trivial, trivial⟩, trivial, trivial, trivial, trivial, trivial, trivial⟩, trivial⟩, ⟨okN, ⟨okN, ⟨(okS fn79), trivial, trivial, trivial, trivial, trivial, trivial, trivial, trivial⟩, trivial, ⟨(okS fn207), trivial, trivial, trivial, trivial, trivial, trivial, trivial, trivial⟩, trivial, trivial, trivial, trivial, trivial⟩, ⟨(okS fn23), ⟨(okS fn87), trivial, trivial, trivial, trivial, trivial, trivial, trivial, trivial⟩, ⟨(okS fn151), trivial, trivial, trivial, trivial, trivial, trivial, trivial, trivial⟩, trivial, trivial, trivial, trivial, trivial, trivial⟩, ⟨okN, trivial, ⟨(okS fn159), trivial, trivial, trivial, trivial, trivial, trivial, trivial, trivial⟩, trivial, trivial, trivial, trivial, trivial, trivial⟩, ⟨okN, trivial, ⟨(okS fn167), trivial, trivial, trivial, trivial, trivial, trivial, trivial, trivial⟩, trivial, trivial, trivial, trivial, trivial, trivial⟩, ⟨okN, trivial, ⟨(okS fn175), trivial, trivial, trivial, trivial, trivial, trivial, trivial, trivial⟩, trivial, trivial, trivial, trivial, trivial, trivial⟩, ⟨(okS fn55), trivial, ⟨(okS fn183), trivial, trivial, trivial, trivial, trivial, trivial, trivial, trivial⟩, trivial, trivial, trivial, trivial, trivial, trivial⟩, ⟨okN, ⟨(okS fn127), trivial, trivial, trivial, trivial, trivial, trivial, trivial, trivial⟩, ⟨(okS fn191), trivial, trivial, trivial, trivial, trivial, trivial, trivial, trivial⟩, trivial, trivial, trivial, trivial, trivial, trivial⟩, ⟨okN, trivial, ⟨(okS fn199), trivial, trivial, trivial, trivial, trivial, trivial, trivial, trivial⟩, trivial, trivial, trivial, trivial, trivial, trivial⟩⟩, ⟨okN, ⟨okN, trivial, trivial, ⟨(okS fn208), trivial, trivial, trivial, trivial, trivial, trivial, trivial, trivial⟩, trivial, trivial, trivial, trivial, trivial⟩, ⟨(okS fn24), ⟨(okS fn88), trivial, trivial, trivial, trivial, trivial, trivial, trivial, trivial⟩, trivial, trivial, trivial, trivial, trivial, trivial, trivial⟩, ⟨okN, ⟨(okS fn96), trivial, trivial, trivial, trivial, trivial, trivial, trivial, trivial⟩, trivial, trivial, trivial, trivial, trivial, trivial, trivial⟩, ⟨okN, trivial, ⟨(okS fn168), trivial, trivial, trivial, trivial, trivial, trivial, trivial, trivial⟩, trivial, trivial, trivial, trivial, trivial, trivial⟩, ⟨(okS fn48), trivial, ⟨(okS fn176), trivial, trivial, trivial, trivial, trivial, trivial, trivial, trivial⟩, trivial, trivial, trivial, trivial, trivial, trivial⟩, ⟨(okS fn56), trivial, ⟨(okS fn184), trivial, trivial, trivial, trivial, trivial, trivial, trivial, trivial⟩, trivial, trivial, trivial, trivial, trivial, trivial⟩, ⟨okN, ⟨(okS fn128), trivial, trivial, trivial, trivial, trivial, trivial, trivial, trivial⟩, ⟨(okS fn192), trivial, trivial, trivial, trivial, trivial, trivial, trivial, trivial⟩, trivial, trivial, trivial, trivial, trivial, trivial⟩, ⟨okN, trivial, ⟨(okS fn200), trivial, trivial, trivial, trivial, trivial, trivial, trivial, trivial⟩, trivial, trivial, trivial, trivial, trivial, trivial⟩⟩⟩
theorem xfT_ok : TAll (fun f x => XfOK Tryz.prog f x) dec xfT := ⟨okN, ⟨okN, trivial, ⟨okN, trivial, trivial, ⟨(okS xf209), trivial, trivial, trivial, trivial, trivial, trivial, trivial, trivial⟩, trivial, trivial, trivial, trivial, trivial⟩, ⟨okN, trivial, trivial, ⟨(okS xf217), trivial, trivial, trivial, trivial, trivial, trivial, trivial, trivial⟩, trivial, trivial, trivial, trivial, trivial⟩, trivial, trivial, trivial, trivial, trivial⟩, ⟨okN, trivial, trivial, ⟨okN, trivial, trivial, ⟨(okS xf218), trivial, trivial, trivial, trivial, trivial, trivial, trivial, trivial⟩, trivial, trivial, trivial, trivial, trivial⟩, trivial, trivial, trivial, trivial, trivial⟩, trivial, ⟨okN, trivial, trivial, ⟨okN, trivial, trivial, ⟨(okS xf220), trivial, trivial, trivial, trivial, trivial, trivial, trivial, trivial⟩, trivial, trivial, trivial, trivial, trivial⟩, trivial, trivial, ⟨okN, ⟨(okS xf116), trivial, trivial, trivial, trivial, trivial, trivial, trivial, trivial⟩, trivial, trivial, trivial, trivial, trivial, trivial, trivial⟩, trivial, trivial⟩, ⟨okN, ⟨okN, trivial, trivial, ⟨(okS xf205), trivial, trivial, trivial, trivial, trivial, trivial, trivial, trivial⟩, trivial, trivial, trivial, trivial, trivial⟩, ⟨okN, trivial, trivial, ⟨(okS xf213), trivial, trivial, trivial, trivial, trivial, trivial, trivial, trivial⟩, trivial, trivial, trivial, trivial, trivial⟩, trivial, trivial, trivial, trivial, trivial, trivial⟩, trivial, ⟨okN, trivial, ⟨okN, trivial, trivial, ⟨(okS xf215), trivial, trivial, trivial, trivial, trivial, trivial, trivial, trivial⟩, trivial, trivial, trivial, trivial, trivial⟩, trivial, trivial, trivial, trivial, trivial, trivial⟩, ⟨okN, trivial, ⟨okN, trivial, trivial, ⟨(okS xf216), trivial, trivial, trivial, trivial, trivial, trivial, trivial, trivial⟩, trivial, trivial, trivial, trivial, trivial⟩, trivial, trivial, trivial, trivial, trivial, trivial⟩⟩
end Go.Proofs.YtbmncepaajkngaaGreat
