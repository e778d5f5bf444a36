/- The functions in the interpreter's words. -/
import Derived.Test.YtdkbhidfiplncaaAbsEnc
import Derived.Test.YtdkbhidfiplncaaProg
namespace Go.Abs.Det
open Go Go.Abs
def xQo : ACode :=
 .seq (.seq (.region [⟨some 15,.mov (.t 6),none⟩,
 ⟨some 16,.bin .lss (.t 15) (.c (.int Go.IntKind.i64 2)),none⟩])
 (.cond (.t 16)
 (.skip)
 (.exit 0)))
 (.seq (.block 1 (.seq (.region [⟨some 20,.load true 5 (.t 5),none⟩,
 ⟨some 21,.mov (.t 1),none⟩,
 ⟨some 22,.ocallw 37 [(.t 20),(.t 21)],none⟩,
 ⟨some 19,.mov (.t 22),none⟩,
 ⟨some 23,.ext 0 (.t 19),none⟩,
 ⟨some 24,.ext 1 (.t 19),none⟩,
 ⟨some 25,.ext 2 (.t 19),none⟩,
 ⟨some 7,.box (.c (.agg [.int Go.IntKind.i64 0,.int Go.IntKind.i64 0,.sl true 0 [],.sl true 0 []])),none⟩,
 ⟨none,.store 4 (.t 7) (.t 23),none⟩,
 ⟨some 8,.mov (.t 24),none⟩,
 ⟨some 9,.mov (.t 25),none⟩])
 (.seq (.region [⟨some 27,.load true 5 (.t 5),none⟩,
 ⟨some 28,.mov (.t 1),none⟩,
 ⟨some 29,.call 38 [(.t 27),(.t 28)],none⟩,
 ⟨some 26,.mov (.t 29),none⟩,
 ⟨some 30,.ext 0 (.t 26),none⟩,
 ⟨some 31,.ext 1 (.t 26),none⟩,
 ⟨some 32,.ext 2 (.t 26),none⟩,
 ⟨some 10,.box (.c (.agg [.int Go.IntKind.i64 0,.int Go.IntKind.i64 0,.sl true 0 [],.sl true 0 []])),none⟩,
 ⟨none,.store 4 (.t 10) (.t 30),none⟩,
 ⟨some 11,.mov (.t 31),none⟩,
 ⟨some 12,.mov (.t 32),none⟩])
 (.seq (.seq (.draw 19 [⟨some 33,.load true 4 (.t 7),none⟩,
 ⟨some 34,.load true 4 (.t 10),none⟩,
 ⟨some 35,.call 29 [(.t 33),(.t 34)],none⟩,
 ⟨some 36,.un .not (.t 35),none⟩,
 ⟨some 37,.mov (.t 36),none⟩,
 ⟨some 38,.mov (.t 8),some (37,false)⟩,
 ⟨some 39,.mov (.t 11),some (37,false)⟩,
 ⟨some 40,.call 39 [(.t 38),(.t 39)],some (37,false)⟩,
 ⟨some 41,.un .not (.t 40),some (37,false)⟩,
 ⟨some 42,.pick (.t 37) (.c (.bool true)) (.t 41),none⟩,
 ⟨some 43,.mov (.t 42),none⟩,
 ⟨some 44,.mov (.t 9),some (43,false)⟩,
 ⟨some 45,.mov (.t 12),some (43,false)⟩,
 ⟨some 46,.bin .neq (.t 44) (.t 45),some (43,false)⟩,
 ⟨some 47,.pick (.t 43) (.c (.bool true)) (.t 46),none⟩,
 ⟨some 48,.mov (.t 47),none⟩,
 ⟨some 49,.load true 5 (.t 5),some (48,false)⟩,
 ⟨some 50,.load true 5 (.t 2),some (48,false)⟩,
 ⟨some 51,.call 36 [(.t 50)],some (48,false)⟩,
 ⟨some 52,.call 30 [(.t 49),(.t 51)],some (48,false)⟩,
 ⟨some 53,.un .not (.t 52),some (48,false)⟩,
 ⟨some 54,.pick (.t 48) (.c (.bool true)) (.t 53),none⟩])
 (.cond (.t 54)
 (.seq (.region [⟨some 4,.mov (.c (.bool false)),none⟩])
 (.ret))
 (.skip)))
 (.seq (.region [⟨some 55,.load true 4 (.t 7),none⟩,
 ⟨some 56,.icall (.c (.func 33 [])) [(.t 55)],none⟩])
 (.region [⟨some 57,.mov (.t 8),none⟩,
 ⟨some 58,.icall (.c (.func 40 [])) [(.t 57)],none⟩]))))))
 (.region [⟨some 17,.mov (.t 6),none⟩,
 ⟨some 18,.bin .add (.t 17) (.c (.int Go.IntKind.i64 1)),none⟩,
 ⟨some 6,.mov (.t 18),none⟩]))

def xS9 : ACode := xQo
def xIa : List Nat := [0,3,7,8,9,10,11,12,13,14,15,16,17,18,19,20,21,22,23,24,25,26,27,28,29,30,31,32,33,34,35,36,37,38,39,40,41,42,43,44,45,46,47,48,49,50,51,52,53,54,55,56,57,58,59]
abbrev xIb (s1 s2 s4 s5 s6 : AV) : List AV := [.any,s1,s2,.any,s4,s5,s6,.any,.any,.any,.any,.any,.any,.any,.any,.any,.any,.any,.any,.any,.any,.any,.any,.any,.any,.any,.any,.any,.any,.any,.any,.any,.any,.any,.any,.any,.any,.any,.any,.any,.any,.any,.any,.any,.any,.any,.any,.any,.any,.any,.any,.any,.any,.any,.any,.any,.any,.any,.any,.any]
theorem xTd (s0 s1 s2 s3 s4 s5 s6 s7 s8 s9 s10 s11 s12 s13 s14 s15 s16 s17 s18 s19 s20 s21 s22 s23 s24 s25 s26 s27 s28 s29 s30 s31 s32 s33 s34 s35 s36 s37 s38 s39 s40 s41 s42 s43 s44 s45 s46 s47 s48 s49 s50 s51 s52 s53 s54 s55 s56 s57 s58 s59 : AV) : xBs xIa [s0,s1,s2,s3,s4,s5,s6,s7,s8,s9,s10,s11,s12,s13,s14,s15,s16,s17,s18,s19,s20,s21,s22,s23,s24,s25,s26,s27,s28,s29,s30,s31,s32,s33,s34,s35,s36,s37,s38,s39,s40,s41,s42,s43,s44,s45,s46,s47,s48,s49,s50,s51,s52,s53,s54,s55,s56,s57,s58,s59] = xIb s1 s2 s4 s5 s6 := by kernel_rfl
theorem xV0 {prog : Nat → Option AFunc} (s1 s2 s4 s5 s6 : AV) (H : xAv) : (lim prog).loop xIa xS9 ⟨xIb s1 s2 s4 s5 s6,H⟩ = xB9 (lim prog) xIa xS9 (run (lim prog) xQo ⟨xIb s1 s2 s4 s5 s6,H⟩) := xAI _ _ _ _ (by kernel_rfl)

def a4 : AFunc := ⟨60,
 .seq (.region [⟨some 2,.box (.t 0),none⟩,
 ⟨some 4,.mov (.c (.bool false)),none⟩])
 (.seq (.region [⟨some 13,.load true 5 (.t 2),none⟩,
 ⟨some 14,.call 36 [(.t 13)],none⟩,
 ⟨some 5,.box (.c (.agg [.int Go.IntKind.i64 0,.int Go.IntKind.i64 0,.sl true 0 [],.sl true 0 [],.sl true 0 []])),none⟩,
 ⟨none,.store 5 (.t 5) (.t 14),none⟩])
 (.seq (.seq (.region [⟨some 6,.mov (.c (.int Go.IntKind.i64 0)),none⟩])
 (.block 0 (.loop xIa xS9)))
 (.seq (.region [⟨some 59,.call 35 [],none⟩,
 ⟨some 4,.mov (.t 59),none⟩])
 (.ret)))),
 [.tmp 4]⟩

def xUW : ACode :=
 .seq (.region [⟨some 68,.bin .lss (.t 67) (.t 66),none⟩])
 (.seq (.cond (.t 68)
 (.skip)
 (.exit 5))
 (.seq (.block 6 (.seq (.region [⟨some 69,.iaddr 1 (.t 65) (.t 67),none⟩,
 ⟨some 70,.load false 1 (.t 69),none⟩,
 ⟨some 10,.mov (.t 70),none⟩])
 (.seq (.region [⟨some 71,.mov (.t 4),none⟩,
 ⟨some 72,.mov (.t 10),none⟩,
 ⟨some 73,.icall (.t 71) [(.t 72)],none⟩,
 ⟨some 74,.un .not (.t 73),none⟩])
 (.cond (.t 74)
 (.seq (.region [⟨some 2,.mov (.c (.int Go.IntKind.i64 8)),none⟩])
 (.ret))
 (.skip)))))
 (.region [⟨some 75,.bin .add (.t 67) (.c (.int Go.IntKind.i64 1)),none⟩,
 ⟨some 67,.mov (.t 75),none⟩])))

def xV1 : ACode := xUW
def xOd : List Nat := [0,5,6,7,8,9,10,11,12,13,14,15,16,17,18,19,20,21,22,23,24,25,26,27,28,29,30,31,32,33,34,35,36,37,38,39,40,41,42,46,47,48,49,50,51,52,56,57,58,59,60,61,62,63,64,68,69,70,71,72,73,74,75,76,77]
abbrev xQp (s1 s2 s3 s4 s43 s44 s45 s53 s54 s55 s65 s66 s67 : AV) : List AV := [.any,s1,s2,s3,s4,.any,.any,.any,.any,.any,.any,.any,.any,.any,.any,.any,.any,.any,.any,.any,.any,.any,.any,.any,.any,.any,.any,.any,.any,.any,.any,.any,.any,.any,.any,.any,.any,.any,.any,.any,.any,.any,.any,s43,s44,s45,.any,.any,.any,.any,.any,.any,.any,s53,s54,s55,.any,.any,.any,.any,.any,.any,.any,.any,.any,s65,s66,s67,.any,.any,.any,.any,.any,.any,.any,.any,.any,.any]
theorem yCU (s0 s1 s2 s3 s4 s5 s6 s7 s8 s9 s10 s11 s12 s13 s14 s15 s16 s17 s18 s19 s20 s21 s22 s23 s24 s25 s26 s27 s28 s29 s30 s31 s32 s33 s34 s35 s36 s37 s38 s39 s40 s41 s42 s43 s44 s45 s46 s47 s48 s49 s50 s51 s52 s53 s54 s55 s56 s57 s58 s59 s60 s61 s62 s63 s64 s65 s66 s67 s68 s69 s70 s71 s72 s73 s74 s75 s76 s77 : AV) : xBs xOd [s0,s1,s2,s3,s4,s5,s6,s7,s8,s9,s10,s11,s12,s13,s14,s15,s16,s17,s18,s19,s20,s21,s22,s23,s24,s25,s26,s27,s28,s29,s30,s31,s32,s33,s34,s35,s36,s37,s38,s39,s40,s41,s42,s43,s44,s45,s46,s47,s48,s49,s50,s51,s52,s53,s54,s55,s56,s57,s58,s59,s60,s61,s62,s63,s64,s65,s66,s67,s68,s69,s70,s71,s72,s73,s74,s75,s76,s77] = xQp s1 s2 s3 s4 s43 s44 s45 s53 s54 s55 s65 s66 s67 := by kernel_rfl
theorem yCV {prog : Nat → Option AFunc} (s1 s2 s3 s4 s43 s44 s45 s53 s54 s55 s65 s66 s67 : AV) (H : xAv) : (lim prog).loop xOd xV1 ⟨xQp s1 s2 s3 s4 s43 s44 s45 s53 s54 s55 s65 s66 s67,H⟩ = xB9 (lim prog) xOd xV1 (run (lim prog) xUW ⟨xQp s1 s2 s3 s4 s43 s44 s45 s53 s54 s55 s65 s66 s67,H⟩) := xAI _ _ _ _ (by kernel_rfl)

def xUX : ACode :=
 .seq (.region [⟨some 56,.bin .lss (.t 55) (.t 54),none⟩])
 (.seq (.cond (.t 56)
 (.skip)
 (.exit 3))
 (.seq (.block 4 (.seq (.region [⟨some 57,.iaddr 1 (.t 53) (.t 55),none⟩,
 ⟨some 58,.load false 1 (.t 57),none⟩,
 ⟨some 8,.mov (.t 58),none⟩])
 (.seq (.seq (.region [⟨some 59,.mov (.t 8),none⟩,
 ⟨some 60,.len (.t 59),none⟩,
 ⟨some 61,.faddr 0 (.t 1),none⟩,
 ⟨some 62,.load false 1 (.t 61),none⟩,
 ⟨some 63,.bin .shl (.c (.int Go.IntKind.i64 1)) (.t 62),none⟩,
 ⟨some 64,.bin .neq (.t 60) (.t 63),none⟩])
 (.cond (.t 64)
 (.seq (.region [⟨some 2,.mov (.c (.int Go.IntKind.i64 2)),none⟩])
 (.ret))
 (.skip)))
 (.seq (.region [⟨some 65,.mov (.t 8),none⟩,
 ⟨some 66,.len (.t 65),none⟩,
 ⟨some 67,.mov (.c (.int Go.IntKind.i64 0)),none⟩])
 (.block 5 (.loop xOd xV1))))))
 (.region [⟨some 76,.bin .add (.t 55) (.c (.int Go.IntKind.i64 1)),none⟩,
 ⟨some 55,.mov (.t 76),none⟩])))

def xV2 : ACode := xUX
def xOe : List Nat := [0,5,6,7,8,9,10,11,12,13,14,15,16,17,18,19,20,21,22,23,24,25,26,27,28,29,30,31,32,33,34,35,36,37,38,39,40,41,42,46,47,48,49,50,51,52,56,57,58,59,60,61,62,63,64,65,66,67,68,69,70,71,72,73,74,75,76,77]
abbrev xQq (s1 s2 s3 s4 s43 s44 s45 s53 s54 s55 : AV) : List AV := [.any,s1,s2,s3,s4,.any,.any,.any,.any,.any,.any,.any,.any,.any,.any,.any,.any,.any,.any,.any,.any,.any,.any,.any,.any,.any,.any,.any,.any,.any,.any,.any,.any,.any,.any,.any,.any,.any,.any,.any,.any,.any,.any,s43,s44,s45,.any,.any,.any,.any,.any,.any,.any,s53,s54,s55,.any,.any,.any,.any,.any,.any,.any,.any,.any,.any,.any,.any,.any,.any,.any,.any,.any,.any,.any,.any,.any,.any]
theorem yCW (s0 s1 s2 s3 s4 s5 s6 s7 s8 s9 s10 s11 s12 s13 s14 s15 s16 s17 s18 s19 s20 s21 s22 s23 s24 s25 s26 s27 s28 s29 s30 s31 s32 s33 s34 s35 s36 s37 s38 s39 s40 s41 s42 s43 s44 s45 s46 s47 s48 s49 s50 s51 s52 s53 s54 s55 s56 s57 s58 s59 s60 s61 s62 s63 s64 s65 s66 s67 s68 s69 s70 s71 s72 s73 s74 s75 s76 s77 : AV) : xBs xOe [s0,s1,s2,s3,s4,s5,s6,s7,s8,s9,s10,s11,s12,s13,s14,s15,s16,s17,s18,s19,s20,s21,s22,s23,s24,s25,s26,s27,s28,s29,s30,s31,s32,s33,s34,s35,s36,s37,s38,s39,s40,s41,s42,s43,s44,s45,s46,s47,s48,s49,s50,s51,s52,s53,s54,s55,s56,s57,s58,s59,s60,s61,s62,s63,s64,s65,s66,s67,s68,s69,s70,s71,s72,s73,s74,s75,s76,s77] = xQq s1 s2 s3 s4 s43 s44 s45 s53 s54 s55 := by kernel_rfl
theorem yCX {prog : Nat → Option AFunc} (s1 s2 s3 s4 s43 s44 s45 s53 s54 s55 : AV) (H : xAv) : (lim prog).loop xOe xV2 ⟨xQq s1 s2 s3 s4 s43 s44 s45 s53 s54 s55,H⟩ = xB9 (lim prog) xOe xV2 (run (lim prog) xUX ⟨xQq s1 s2 s3 s4 s43 s44 s45 s53 s54 s55,H⟩) := xAI _ _ _ _ (by kernel_rfl)

def xUY : ACode :=
 .seq (.region [⟨some 46,.bin .lss (.t 45) (.t 44),none⟩])
 (.seq (.cond (.t 46)
 (.skip)
 (.exit 1))
 (.seq (.block 2 (.seq (.region [⟨some 47,.iaddr 1 (.t 43) (.t 45),none⟩,
 ⟨some 48,.load false 1 (.t 47),none⟩,
 ⟨some 6,.mov (.t 48),none⟩])
 (.seq (.seq (.region [⟨some 49,.mov (.t 6),none⟩,
 ⟨some 50,.len (.t 49),none⟩,
 ⟨some 51,.load false 1 (.t 3),none⟩,
 ⟨some 52,.bin .neq (.t 50) (.t 51),none⟩])
 (.cond (.t 52)
 (.seq (.region [⟨some 2,.mov (.c (.int Go.IntKind.i64 2)),none⟩])
 (.ret))
 (.skip)))
 (.seq (.region [⟨some 53,.mov (.t 6),none⟩,
 ⟨some 54,.len (.t 53),none⟩,
 ⟨some 55,.mov (.c (.int Go.IntKind.i64 0)),none⟩])
 (.block 3 (.loop xOe xV2))))))
 (.region [⟨some 77,.bin .add (.t 45) (.c (.int Go.IntKind.i64 1)),none⟩,
 ⟨some 45,.mov (.t 77),none⟩])))

def xV3 : ACode := xUY
def xOf : List Nat := [0,5,6,7,8,9,10,11,12,13,14,15,16,17,18,19,20,21,22,23,24,25,26,27,28,29,30,31,32,33,34,35,36,37,38,39,40,41,42,46,47,48,49,50,51,52,53,54,55,56,57,58,59,60,61,62,63,64,65,66,67,68,69,70,71,72,73,74,75,76,77]
abbrev xQr (s1 s2 s3 s4 s43 s44 s45 : AV) : List AV := [.any,s1,s2,s3,s4,.any,.any,.any,.any,.any,.any,.any,.any,.any,.any,.any,.any,.any,.any,.any,.any,.any,.any,.any,.any,.any,.any,.any,.any,.any,.any,.any,.any,.any,.any,.any,.any,.any,.any,.any,.any,.any,.any,s43,s44,s45,.any,.any,.any,.any,.any,.any,.any,.any,.any,.any,.any,.any,.any,.any,.any,.any,.any,.any,.any,.any,.any,.any,.any,.any,.any,.any,.any,.any,.any,.any,.any,.any]
theorem yCY (s0 s1 s2 s3 s4 s5 s6 s7 s8 s9 s10 s11 s12 s13 s14 s15 s16 s17 s18 s19 s20 s21 s22 s23 s24 s25 s26 s27 s28 s29 s30 s31 s32 s33 s34 s35 s36 s37 s38 s39 s40 s41 s42 s43 s44 s45 s46 s47 s48 s49 s50 s51 s52 s53 s54 s55 s56 s57 s58 s59 s60 s61 s62 s63 s64 s65 s66 s67 s68 s69 s70 s71 s72 s73 s74 s75 s76 s77 : AV) : xBs xOf [s0,s1,s2,s3,s4,s5,s6,s7,s8,s9,s10,s11,s12,s13,s14,s15,s16,s17,s18,s19,s20,s21,s22,s23,s24,s25,s26,s27,s28,s29,s30,s31,s32,s33,s34,s35,s36,s37,s38,s39,s40,s41,s42,s43,s44,s45,s46,s47,s48,s49,s50,s51,s52,s53,s54,s55,s56,s57,s58,s59,s60,s61,s62,s63,s64,s65,s66,s67,s68,s69,s70,s71,s72,s73,s74,s75,s76,s77] = xQr s1 s2 s3 s4 s43 s44 s45 := by kernel_rfl
theorem yCZ {prog : Nat → Option AFunc} (s1 s2 s3 s4 s43 s44 s45 : AV) (H : xAv) : (lim prog).loop xOf xV3 ⟨xQr s1 s2 s3 s4 s43 s44 s45,H⟩ = xB9 (lim prog) xOf xV3 (run (lim prog) xUY ⟨xQr s1 s2 s3 s4 s43 s44 s45,H⟩) := xAI _ _ _ _ (by kernel_rfl)

def a14 : AFunc := ⟨78,
 .seq (.region [⟨some 1,.box (.t 0),none⟩,
 ⟨some 2,.mov (.c (.int Go.IntKind.i64 0)),none⟩])
 (.seq (.region [⟨some 11,.faddr 2 (.t 1),none⟩,
 ⟨some 12,.load false 1 (.t 11),none⟩,
 ⟨some 13,.len (.t 12),none⟩,
 ⟨some 3,.box (.c (.int Go.IntKind.i64 0)),none⟩,
 ⟨none,.store 1 (.t 3) (.t 13),none⟩])
 (.seq (.region [⟨some 14,.mkfunc 52 [(.t 3)],none⟩,
 ⟨some 4,.mov (.t 14),none⟩])
 (.seq (.block 0 (.seq (.region [⟨some 16,.faddr 0 (.t 1),none⟩,
 ⟨some 17,.load false 1 (.t 16),none⟩,
 ⟨some 18,.bin .lss (.t 17) (.c (.int Go.IntKind.i64 0)),none⟩,
 ⟨some 19,.mov (.t 18),none⟩,
 ⟨some 20,.faddr 0 (.t 1),some (19,false)⟩,
 ⟨some 21,.load false 1 (.t 20),some (19,false)⟩,
 ⟨some 22,.bin .gtr (.t 21) (.c (.int Go.IntKind.i64 3)),some (19,false)⟩,
 ⟨some 23,.pick (.t 19) (.c (.bool true)) (.t 22),none⟩,
 ⟨some 15,.mov (.t 23),none⟩])
 (.cond (.t 15)
 (.seq (.region [⟨some 2,.mov (.c (.int Go.IntKind.i64 7)),none⟩])
 (.ret))
 (.seq (.region [⟨some 25,.load false 1 (.t 3),none⟩,
 ⟨some 26,.bin .eql (.t 25) (.c (.int Go.IntKind.i64 0)),none⟩,
 ⟨some 24,.mov (.t 26),none⟩])
 (.cond (.t 24)
 (.seq (.region [⟨some 2,.mov (.c (.int Go.IntKind.i64 3)),none⟩])
 (.ret))
 (.seq (.region [⟨some 28,.load false 1 (.t 3),none⟩,
 ⟨some 29,.bin .gtr (.t 28) (.c (.int Go.IntKind.i64 64)),none⟩,
 ⟨some 27,.mov (.t 29),none⟩])
 (.cond (.t 27)
 (.seq (.region [⟨some 2,.mov (.c (.int Go.IntKind.i64 4)),none⟩])
 (.ret))
 (.seq (.region [⟨some 31,.faddr 3 (.t 1),none⟩,
 ⟨some 32,.load false 1 (.t 31),none⟩,
 ⟨some 33,.len (.t 32),none⟩,
 ⟨some 34,.load false 1 (.t 3),none⟩,
 ⟨some 35,.bin .neq (.t 33) (.t 34),none⟩,
 ⟨some 30,.mov (.t 35),none⟩])
 (.cond (.t 30)
 (.seq (.region [⟨some 2,.mov (.c (.int Go.IntKind.i64 2)),none⟩])
 (.ret))
 (.seq (.region [⟨some 37,.mov (.t 4),none⟩,
 ⟨some 38,.faddr 1 (.t 1),none⟩,
 ⟨some 39,.load false 1 (.t 38),none⟩,
 ⟨some 40,.icall (.t 37) [(.t 39)],none⟩,
 ⟨some 41,.un .not (.t 40),none⟩,
 ⟨some 36,.mov (.t 41),none⟩])
 (.cond (.t 36)
 (.seq (.region [⟨some 2,.mov (.c (.int Go.IntKind.i64 8)),none⟩])
 (.ret))
 (.skip))))))))))))
 (.seq (.seq (.region [⟨some 42,.faddr 2 (.t 1),none⟩,
 ⟨some 43,.load false 1 (.t 42),none⟩,
 ⟨some 44,.len (.t 43),none⟩,
 ⟨some 45,.mov (.c (.int Go.IntKind.i64 0)),none⟩])
 (.block 1 (.loop xOf xV3)))
 (.seq (.region [⟨some 2,.mov (.c (.int Go.IntKind.i64 0)),none⟩])
 (.ret)))))),
 [.tmp 2]⟩

def a16 : AFunc := ⟨21,
 .seq (.region [⟨some 2,.box (.t 0),none⟩,
 ⟨some 4,.mov (.c (.sl true 0 [])),none⟩,
 ⟨some 5,.mov (.c (.int Go.IntKind.i64 0)),none⟩])
 (.seq (.seq (.region [⟨some 7,.load true 4 (.t 2),none⟩,
 ⟨some 8,.mov (.t 1),none⟩,
 ⟨some 9,.call 53 [(.t 7),(.t 8)],none⟩,
 ⟨some 6,.mov (.t 9),none⟩])
 (.seq (.region [⟨some 10,.mov (.t 6),none⟩,
 ⟨some 11,.bin .neq (.t 10) (.c (.int Go.IntKind.i64 0)),none⟩])
 (.cond (.t 11)
 (.seq (.region [⟨some 12,.mov (.t 6),none⟩,
 ⟨some 4,.mov (.c (.sl true 0 [])),none⟩,
 ⟨some 5,.mov (.t 12),none⟩])
 (.ret))
 (.skip))))
 (.seq (.region [⟨some 13,.load true 4 (.t 2),none⟩,
 ⟨some 14,.mov (.t 1),none⟩,
 ⟨some 15,.call 54 [(.t 13),(.t 14)],none⟩,
 ⟨some 16,.mov (.t 1),none⟩,
 ⟨some 17,.len (.t 16),none⟩,
 ⟨some 18,.mov (.t 1),none⟩,
 ⟨some 19,.len (.t 18),none⟩,
 ⟨some 20,.slice 1 (.t 15) none (some (.t 17)) (some (.t 19)),none⟩,
 ⟨some 4,.mov (.t 20),none⟩,
 ⟨some 5,.mov (.c (.int Go.IntKind.i64 0)),none⟩])
 (.ret))),
 [.tmp 4,.tmp 5]⟩

def a18 : AFunc := ⟨22,
 .seq (.region [⟨some 2,.box (.t 0),none⟩,
 ⟨some 4,.mov (.c (.bool false)),none⟩,
 ⟨some 5,.mov (.c (.int Go.IntKind.i64 0)),none⟩])
 (.seq (.seq (.region [⟨some 7,.load true 4 (.t 2),none⟩,
 ⟨some 8,.mov (.t 1),none⟩,
 ⟨some 9,.call 53 [(.t 7),(.t 8)],none⟩,
 ⟨some 6,.mov (.t 9),none⟩])
 (.seq (.region [⟨some 10,.mov (.t 6),none⟩,
 ⟨some 11,.bin .neq (.t 10) (.c (.int Go.IntKind.i64 0)),none⟩])
 (.cond (.t 11)
 (.seq (.region [⟨some 12,.mov (.t 6),none⟩,
 ⟨some 4,.mov (.c (.bool false)),none⟩,
 ⟨some 5,.mov (.t 12),none⟩])
 (.ret))
 (.skip))))
 (.seq (.draw 5 [⟨some 13,.faddr 3 (.t 2),none⟩,
 ⟨some 14,.load false 1 (.t 13),none⟩,
 ⟨some 15,.load true 4 (.t 2),none⟩,
 ⟨some 16,.mov (.t 1),none⟩,
 ⟨some 17,.call 54 [(.t 15),(.t 16)],none⟩,
 ⟨some 18,.iaddr 1 (.t 17) (.c (.int Go.IntKind.i64 0)),none⟩,
 ⟨some 19,.load false 1 (.t 18),none⟩,
 ⟨some 20,.iaddr 1 (.t 14) (.t 19),none⟩,
 ⟨some 21,.load false 1 (.t 20),none⟩,
 ⟨some 4,.mov (.t 21),none⟩,
 ⟨some 5,.mov (.c (.int Go.IntKind.i64 0)),none⟩])
 (.ret))),
 [.tmp 4,.tmp 5]⟩

def xIc : ACode :=
 .seq (.seq (.region [⟨some 11,.mov (.t 5),none⟩,
 ⟨some 12,.mov (.t 0),none⟩,
 ⟨some 13,.len (.t 12),none⟩,
 ⟨some 14,.bin .lss (.t 11) (.t 13),none⟩])
 (.cond (.t 14)
 (.skip)
 (.exit 0)))
 (.seq (.block 1 (.seq (.draw 5 [⟨some 17,.mov (.t 0),none⟩,
 ⟨some 18,.mov (.t 5),none⟩,
 ⟨some 19,.iaddr 1 (.t 17) (.t 18),none⟩,
 ⟨some 20,.load false 1 (.t 19),none⟩,
 ⟨some 21,.mov (.t 1),none⟩,
 ⟨some 22,.mov (.t 5),none⟩,
 ⟨some 23,.iaddr 1 (.t 21) (.t 22),none⟩,
 ⟨some 24,.load false 1 (.t 23),none⟩,
 ⟨some 25,.bin .neq (.t 20) (.t 24),none⟩])
 (.cond (.t 25)
 (.seq (.region [⟨some 4,.mov (.c (.bool false)),none⟩])
 (.ret))
 (.skip))))
 (.region [⟨some 15,.mov (.t 5),none⟩,
 ⟨some 16,.bin .add (.t 15) (.c (.int Go.IntKind.i64 1)),none⟩,
 ⟨some 5,.mov (.t 16),none⟩]))

def xQs : ACode := xIc
def xJD : List Nat := [2,3,6,7,8,9,10,11,12,13,14,15,16,17,18,19,20,21,22,23,24,25]
abbrev xId (s0 s1 s4 s5 : AV) : List AV := [s0,s1,.any,.any,s4,s5,.any,.any,.any,.any,.any,.any,.any,.any,.any,.any,.any,.any,.any,.any,.any,.any,.any,.any,.any,.any]
theorem xHy (s0 s1 s2 s3 s4 s5 s6 s7 s8 s9 s10 s11 s12 s13 s14 s15 s16 s17 s18 s19 s20 s21 s22 s23 s24 s25 : AV) : xBs xJD [s0,s1,s2,s3,s4,s5,s6,s7,s8,s9,s10,s11,s12,s13,s14,s15,s16,s17,s18,s19,s20,s21,s22,s23,s24,s25] = xId s0 s1 s4 s5 := by kernel_rfl
theorem xK6 {prog : Nat → Option AFunc} (s0 s1 s4 s5 : AV) (H : xAv) : (lim prog).loop xJD xQs ⟨xId s0 s1 s4 s5,H⟩ = xB9 (lim prog) xJD xQs (run (lim prog) xIc ⟨xId s0 s1 s4 s5,H⟩) := xAI _ _ _ _ (by kernel_rfl)

def a20 : AFunc := ⟨26,
 .seq (.region [⟨some 4,.mov (.c (.bool false)),none⟩])
 (.seq (.seq (.region [⟨some 6,.mov (.t 0),none⟩,
 ⟨some 7,.len (.t 6),none⟩,
 ⟨some 8,.mov (.t 1),none⟩,
 ⟨some 9,.len (.t 8),none⟩,
 ⟨some 10,.bin .neq (.t 7) (.t 9),none⟩])
 (.cond (.t 10)
 (.seq (.region [⟨some 4,.mov (.c (.bool false)),none⟩])
 (.ret))
 (.skip)))
 (.seq (.seq (.region [⟨some 5,.mov (.c (.int Go.IntKind.i64 0)),none⟩])
 (.block 0 (.loop xJD xQs)))
 (.seq (.region [⟨some 4,.mov (.c (.bool true)),none⟩])
 (.ret)))),
 [.tmp 4]⟩

def a21 : AFunc := ⟨13,
 .seq (.region [⟨some 1,.box (.t 0),none⟩,
 ⟨some 2,.box (.c (.agg [.int Go.IntKind.i64 0,.int Go.IntKind.i64 0,.sl true 0 [],.sl true 0 []])),none⟩,
 ⟨some 3,.mov (.c (.int Go.IntKind.i64 0)),none⟩])
 (.seq (.seq (.region [⟨some 5,.load true 4 (.t 1),none⟩,
 ⟨some 6,.call 14 [(.t 5)],none⟩,
 ⟨some 4,.mov (.t 6),none⟩])
 (.seq (.region [⟨some 7,.mov (.t 4),none⟩,
 ⟨some 8,.bin .neq (.t 7) (.c (.int Go.IntKind.i64 0)),none⟩])
 (.cond (.t 8)
 (.seq (.region [⟨some 9,.build [.int Go.IntKind.i64 0,.int Go.IntKind.i64 0,.sl true 0 [],.sl true 0 []] [],none⟩,
 ⟨some 10,.mov (.t 4),none⟩,
 ⟨none,.store 4 (.t 2) (.t 9),none⟩,
 ⟨some 3,.mov (.t 10),none⟩])
 (.ret))
 (.skip))))
 (.seq (.region [⟨some 11,.load true 4 (.t 1),none⟩,
 ⟨some 12,.call 56 [(.t 11)],none⟩,
 ⟨none,.store 4 (.t 2) (.t 12),none⟩,
 ⟨some 3,.mov (.c (.int Go.IntKind.i64 0)),none⟩])
 (.ret))),
 [.cell 2 true 4,.tmp 3]⟩

def xUZ : ACode :=
 .seq (.seq (.region [⟨some 29,.mov (.t 9),none⟩,
 ⟨some 30,.bin .geq (.t 29) (.c (.int Go.IntKind.i64 0)),none⟩])
 (.cond (.t 30)
 (.skip)
 (.exit 0)))
 (.seq (.block 1 (.draw 5 [⟨some 33,.load false 1 (.t 8),none⟩,
 ⟨some 34,.load false 1 (.t 6),none⟩,
 ⟨some 35,.mov (.t 9),none⟩,
 ⟨some 36,.iaddr 1 (.t 34) (.t 35),none⟩,
 ⟨some 37,.load false 1 (.t 36),none⟩,
 ⟨some 38,.mov (.t 9),none⟩,
 ⟨some 39,.iaddr 1 (.t 33) (.t 37),none⟩,
 ⟨none,.store 1 (.t 39) (.t 38),none⟩]))
 (.region [⟨some 31,.mov (.t 9),none⟩,
 ⟨some 32,.bin .sub (.t 31) (.c (.int Go.IntKind.i64 1)),none⟩,
 ⟨some 9,.mov (.t 32),none⟩]))

def xV4 : ACode := xUZ
def xOg : List Nat := [0,1,3,4,10,11,12,13,14,15,16,17,18,19,20,21,22,23,24,25,26,27,28,29,30,31,32,33,34,35,36,37,38,39,40,41,42,43,44,45,46,47,48,49,50,51,52,53]
abbrev xQt (s2 s5 s6 s7 s8 s9 : AV) : List AV := [.any,.any,s2,.any,.any,s5,s6,s7,s8,s9,.any,.any,.any,.any,.any,.any,.any,.any,.any,.any,.any,.any,.any,.any,.any,.any,.any,.any,.any,.any,.any,.any,.any,.any,.any,.any,.any,.any,.any,.any,.any,.any,.any,.any,.any,.any,.any,.any,.any,.any,.any,.any,.any,.any]
theorem yC0 (s0 s1 s2 s3 s4 s5 s6 s7 s8 s9 s10 s11 s12 s13 s14 s15 s16 s17 s18 s19 s20 s21 s22 s23 s24 s25 s26 s27 s28 s29 s30 s31 s32 s33 s34 s35 s36 s37 s38 s39 s40 s41 s42 s43 s44 s45 s46 s47 s48 s49 s50 s51 s52 s53 : AV) : xBs xOg [s0,s1,s2,s3,s4,s5,s6,s7,s8,s9,s10,s11,s12,s13,s14,s15,s16,s17,s18,s19,s20,s21,s22,s23,s24,s25,s26,s27,s28,s29,s30,s31,s32,s33,s34,s35,s36,s37,s38,s39,s40,s41,s42,s43,s44,s45,s46,s47,s48,s49,s50,s51,s52,s53] = xQt s2 s5 s6 s7 s8 s9 := by kernel_rfl
theorem yC1 {prog : Nat → Option AFunc} (s2 s5 s6 s7 s8 s9 : AV) (H : xAv) : (lim prog).loop xOg xV4 ⟨xQt s2 s5 s6 s7 s8 s9,H⟩ = xB9 (lim prog) xOg xV4 (run (lim prog) xUZ ⟨xQt s2 s5 s6 s7 s8 s9,H⟩) := xAI _ _ _ _ (by kernel_rfl)

def a23 : AFunc := ⟨54,
 .seq (.region [⟨some 1,.box (.t 0),none⟩,
 ⟨some 2,.box (.c (.agg [.int Go.IntKind.i64 0,.int Go.IntKind.i64 0,.sl true 0 [],.sl true 0 []])),none⟩,
 ⟨some 3,.mov (.c (.int Go.IntKind.i64 0)),none⟩])
 (.seq (.seq (.region [⟨some 11,.load true 4 (.t 1),none⟩,
 ⟨some 12,.call 14 [(.t 11)],none⟩,
 ⟨some 4,.mov (.t 12),none⟩])
 (.seq (.region [⟨some 13,.mov (.t 4),none⟩,
 ⟨some 14,.bin .neq (.t 13) (.c (.int Go.IntKind.i64 0)),none⟩])
 (.cond (.t 14)
 (.seq (.region [⟨some 15,.build [.int Go.IntKind.i64 0,.int Go.IntKind.i64 0,.sl true 0 [],.sl true 0 []] [],none⟩,
 ⟨some 16,.mov (.t 4),none⟩,
 ⟨none,.store 4 (.t 2) (.t 15),none⟩,
 ⟨some 3,.mov (.t 16),none⟩])
 (.ret))
 (.skip))))
 (.seq (.region [⟨some 17,.load true 4 (.t 1),none⟩,
 ⟨some 18,.call 56 [(.t 17)],none⟩,
 ⟨some 5,.box (.c (.agg [.int Go.IntKind.i64 0,.int Go.IntKind.i64 0,.sl true 0 [],.sl true 0 []])),none⟩,
 ⟨none,.store 4 (.t 5) (.t 18),none⟩])
 (.seq (.region [⟨some 20,.load true 4 (.t 5),none⟩,
 ⟨some 21,.call 60 [(.t 20)],none⟩,
 ⟨some 19,.mov (.t 21),none⟩,
 ⟨some 22,.ext 0 (.t 19),none⟩,
 ⟨some 23,.ext 1 (.t 19),none⟩,
 ⟨some 6,.box (.c (.sl true 0 [])),none⟩,
 ⟨none,.store 1 (.t 6) (.t 22),none⟩,
 ⟨some 7,.mov (.t 23),none⟩])
 (.seq (.region [⟨some 24,.mov (.t 7),none⟩,
 ⟨some 25,.mkslice false [.int Go.IntKind.i64 0] 8 (.t 24) (.t 24),none⟩,
 ⟨some 8,.box (.c (.sl true 0 [])),none⟩,
 ⟨none,.store 1 (.t 8) (.t 25),none⟩])
 (.seq (.seq (.region [⟨some 26,.load false 1 (.t 6),none⟩,
 ⟨some 27,.len (.t 26),none⟩,
 ⟨some 28,.bin .sub (.t 27) (.c (.int Go.IntKind.i64 1)),none⟩,
 ⟨some 9,.mov (.t 28),none⟩])
 (.block 0 (.loop xOg xV4)))
 (.seq (.region [⟨some 40,.faddr 0 (.t 5),none⟩,
 ⟨some 41,.load false 1 (.t 40),none⟩,
 ⟨some 42,.mov (.t 7),none⟩,
 ⟨some 43,.mkfunc 62 [(.t 6),(.t 5),(.t 8)],none⟩,
 ⟨some 44,.mkfunc 63 [(.t 5),(.t 8)],none⟩,
 ⟨some 45,.icall (.c (.func 61 [])) [(.t 41),(.t 42),(.t 43),(.t 44)],none⟩,
 ⟨some 10,.box (.c (.agg [.int Go.IntKind.i64 0,.int Go.IntKind.i64 0,.sl true 0 [],.sl true 0 []])),none⟩,
 ⟨none,.store 4 (.t 10) (.t 45),none⟩])
 (.seq (.region [⟨some 46,.load false 1 (.t 6),none⟩,
 ⟨some 47,.faddr 1 (.t 5),none⟩,
 ⟨some 48,.load false 1 (.t 47),none⟩,
 ⟨some 49,.iaddr 1 (.t 46) (.t 48),none⟩,
 ⟨some 50,.load false 1 (.t 49),none⟩,
 ⟨some 51,.faddr 1 (.t 10),none⟩,
 ⟨none,.store 1 (.t 51) (.t 50),none⟩])
 (.seq (.region [⟨some 52,.load true 4 (.t 10),none⟩,
 ⟨some 53,.call 56 [(.t 52)],none⟩,
 ⟨none,.store 4 (.t 2) (.t 53),none⟩,
 ⟨some 3,.mov (.c (.int Go.IntKind.i64 0)),none⟩])
 (.ret))))))))),
 [.cell 2 true 4,.tmp 3]⟩

def a25 : AFunc := ⟨18,
 .seq (.region [⟨some 1,.box (.t 0),none⟩,
 ⟨some 2,.mov (.c (.sl true 0 [])),none⟩,
 ⟨some 3,.mov (.c (.int Go.IntKind.i64 0)),none⟩])
 (.seq (.seq (.region [⟨some 7,.load true 4 (.t 1),none⟩,
 ⟨some 8,.call 14 [(.t 7)],none⟩,
 ⟨some 4,.mov (.t 8),none⟩])
 (.seq (.region [⟨some 9,.mov (.t 4),none⟩,
 ⟨some 10,.bin .neq (.t 9) (.c (.int Go.IntKind.i64 0)),none⟩])
 (.cond (.t 10)
 (.seq (.region [⟨some 11,.mov (.t 4),none⟩,
 ⟨some 2,.mov (.c (.sl true 0 [])),none⟩,
 ⟨some 3,.mov (.t 11),none⟩])
 (.ret))
 (.skip))))
 (.seq (.region [⟨some 13,.load true 4 (.t 1),none⟩,
 ⟨some 14,.call 60 [(.t 13)],none⟩,
 ⟨some 12,.mov (.t 14),none⟩,
 ⟨some 15,.ext 0 (.t 12),none⟩,
 ⟨some 16,.ext 1 (.t 12),none⟩,
 ⟨some 5,.mov (.t 15),none⟩,
 ⟨some 6,.mov (.t 16),none⟩])
 (.seq (.region [⟨some 17,.mov (.t 5),none⟩,
 ⟨some 2,.mov (.t 17),none⟩,
 ⟨some 3,.mov (.c (.int Go.IntKind.i64 0)),none⟩])
 (.ret)))),
 [.tmp 2,.tmp 3]⟩

def xU0 : ACode :=
 .seq (.region [⟨some 69,.bin .lss (.t 68) (.t 67),none⟩])
 (.seq (.cond (.t 69)
 (.skip)
 (.exit 4))
 (.seq (.block 5 (.seq (.region [⟨some 70,.mov (.t 68),none⟩,
 ⟨some 71,.iaddr 1 (.t 66) (.t 68),none⟩,
 ⟨some 72,.load false 1 (.t 71),none⟩,
 ⟨some 12,.mov (.t 70),none⟩,
 ⟨some 13,.mov (.t 72),none⟩])
 (.region [⟨some 73,.faddr 4 (.t 7),none⟩,
 ⟨some 74,.load false 1 (.t 73),none⟩,
 ⟨some 75,.mov (.t 8),none⟩,
 ⟨some 76,.mov (.t 10),none⟩,
 ⟨some 77,.mov (.t 13),none⟩,
 ⟨some 78,.mov (.t 12),none⟩,
 ⟨some 79,.conv Go.IntKind.u8 (.t 78),none⟩,
 ⟨some 80,.mov (.t 6),none⟩,
 ⟨some 81,.bin .sub (.t 80) (.c (.int Go.IntKind.i64 1)),none⟩,
 ⟨some 82,.mov (.t 12),none⟩,
 ⟨some 83,.bin .sub (.t 81) (.t 82),none⟩,
 ⟨some 84,.conv Go.IntKind.u8 (.t 83),none⟩,
 ⟨some 85,.build [.int Go.IntKind.i64 0,.int Go.IntKind.i64 0,.int Go.IntKind.i64 0,.int Go.IntKind.u8 0,.int Go.IntKind.u8 0] [(0,1,(.t 75)),(1,1,(.t 76)),(2,1,(.t 77)),(3,1,(.t 79)),(4,1,(.t 84))],none⟩,
 ⟨some 86,.bslice true [.int Go.IntKind.i64 0,.int Go.IntKind.i64 0,.int Go.IntKind.i64 0,.int Go.IntKind.u8 0,.int Go.IntKind.u8 0] 5 1 [(0,(.t 85))],none⟩,
 ⟨some 87,.append false 5 32 (.t 74) (.t 86),none⟩,
 ⟨some 88,.faddr 4 (.t 7),none⟩,
 ⟨none,.store 1 (.t 88) (.t 87),none⟩])))
 (.region [⟨some 89,.bin .add (.t 68) (.c (.int Go.IntKind.i64 1)),none⟩,
 ⟨some 68,.mov (.t 89),none⟩])))

def xV5 : ACode := xU0
def xOh : List Nat := [0,3,4,5,9,11,12,13,14,15,16,17,18,19,20,21,22,23,24,25,26,27,28,29,30,31,32,33,34,35,36,37,38,39,40,44,45,46,47,48,49,50,51,52,53,54,55,56,57,58,62,63,64,65,69,70,71,72,73,74,75,76,77,78,79,80,81,82,83,84,85,86,87,88,89,90,91,92]
abbrev xQu (s1 s2 s6 s7 s8 s10 s41 s42 s43 s59 s60 s61 s66 s67 s68 : AV) : List AV := [.any,s1,s2,.any,.any,.any,s6,s7,s8,.any,s10,.any,.any,.any,.any,.any,.any,.any,.any,.any,.any,.any,.any,.any,.any,.any,.any,.any,.any,.any,.any,.any,.any,.any,.any,.any,.any,.any,.any,.any,.any,s41,s42,s43,.any,.any,.any,.any,.any,.any,.any,.any,.any,.any,.any,.any,.any,.any,.any,s59,s60,s61,.any,.any,.any,.any,s66,s67,s68,.any,.any,.any,.any,.any,.any,.any,.any,.any,.any,.any,.any,.any,.any,.any,.any,.any,.any,.any,.any,.any,.any,.any,.any]
theorem yC2 (s0 s1 s2 s3 s4 s5 s6 s7 s8 s9 s10 s11 s12 s13 s14 s15 s16 s17 s18 s19 s20 s21 s22 s23 s24 s25 s26 s27 s28 s29 s30 s31 s32 s33 s34 s35 s36 s37 s38 s39 s40 s41 s42 s43 s44 s45 s46 s47 s48 s49 s50 s51 s52 s53 s54 s55 s56 s57 s58 s59 s60 s61 s62 s63 s64 s65 s66 s67 s68 s69 s70 s71 s72 s73 s74 s75 s76 s77 s78 s79 s80 s81 s82 s83 s84 s85 s86 s87 s88 s89 s90 s91 s92 : AV) : xBs xOh [s0,s1,s2,s3,s4,s5,s6,s7,s8,s9,s10,s11,s12,s13,s14,s15,s16,s17,s18,s19,s20,s21,s22,s23,s24,s25,s26,s27,s28,s29,s30,s31,s32,s33,s34,s35,s36,s37,s38,s39,s40,s41,s42,s43,s44,s45,s46,s47,s48,s49,s50,s51,s52,s53,s54,s55,s56,s57,s58,s59,s60,s61,s62,s63,s64,s65,s66,s67,s68,s69,s70,s71,s72,s73,s74,s75,s76,s77,s78,s79,s80,s81,s82,s83,s84,s85,s86,s87,s88,s89,s90,s91,s92] = xQu s1 s2 s6 s7 s8 s10 s41 s42 s43 s59 s60 s61 s66 s67 s68 := by kernel_rfl
theorem yC3 {prog : Nat → Option AFunc} (s1 s2 s6 s7 s8 s10 s41 s42 s43 s59 s60 s61 s66 s67 s68 : AV) (H : xAv) : (lim prog).loop xOh xV5 ⟨xQu s1 s2 s6 s7 s8 s10 s41 s42 s43 s59 s60 s61 s66 s67 s68,H⟩ = xB9 (lim prog) xOh xV5 (run (lim prog) xU0 ⟨xQu s1 s2 s6 s7 s8 s10 s41 s42 s43 s59 s60 s61 s66 s67 s68,H⟩) := xAI _ _ _ _ (by kernel_rfl)

def xU1 : ACode :=
 .seq (.region [⟨some 62,.bin .lss (.t 61) (.t 60),none⟩])
 (.seq (.cond (.t 62)
 (.skip)
 (.exit 2))
 (.seq (.block 3 (.seq (.region [⟨some 63,.mov (.t 61),none⟩,
 ⟨some 64,.iaddr 1 (.t 59) (.t 61),none⟩,
 ⟨some 65,.load false 1 (.t 64),none⟩,
 ⟨some 10,.mov (.t 63),none⟩,
 ⟨some 11,.mov (.t 65),none⟩])
 (.seq (.region [⟨some 66,.mov (.t 11),none⟩,
 ⟨some 67,.len (.t 66),none⟩,
 ⟨some 68,.mov (.c (.int Go.IntKind.i64 0)),none⟩])
 (.block 4 (.loop xOh xV5)))))
 (.region [⟨some 90,.bin .add (.t 61) (.c (.int Go.IntKind.i64 1)),none⟩,
 ⟨some 61,.mov (.t 90),none⟩])))

def xV6 : ACode := xU1
def xOi : List Nat := [0,3,4,5,9,10,11,12,13,14,15,16,17,18,19,20,21,22,23,24,25,26,27,28,29,30,31,32,33,34,35,36,37,38,39,40,44,45,46,47,48,49,50,51,52,53,54,55,56,57,58,62,63,64,65,66,67,68,69,70,71,72,73,74,75,76,77,78,79,80,81,82,83,84,85,86,87,88,89,90,91,92]
abbrev xQv (s1 s2 s6 s7 s8 s41 s42 s43 s59 s60 s61 : AV) : List AV := [.any,s1,s2,.any,.any,.any,s6,s7,s8,.any,.any,.any,.any,.any,.any,.any,.any,.any,.any,.any,.any,.any,.any,.any,.any,.any,.any,.any,.any,.any,.any,.any,.any,.any,.any,.any,.any,.any,.any,.any,.any,s41,s42,s43,.any,.any,.any,.any,.any,.any,.any,.any,.any,.any,.any,.any,.any,.any,.any,s59,s60,s61,.any,.any,.any,.any,.any,.any,.any,.any,.any,.any,.any,.any,.any,.any,.any,.any,.any,.any,.any,.any,.any,.any,.any,.any,.any,.any,.any,.any,.any,.any,.any]
theorem yC4 (s0 s1 s2 s3 s4 s5 s6 s7 s8 s9 s10 s11 s12 s13 s14 s15 s16 s17 s18 s19 s20 s21 s22 s23 s24 s25 s26 s27 s28 s29 s30 s31 s32 s33 s34 s35 s36 s37 s38 s39 s40 s41 s42 s43 s44 s45 s46 s47 s48 s49 s50 s51 s52 s53 s54 s55 s56 s57 s58 s59 s60 s61 s62 s63 s64 s65 s66 s67 s68 s69 s70 s71 s72 s73 s74 s75 s76 s77 s78 s79 s80 s81 s82 s83 s84 s85 s86 s87 s88 s89 s90 s91 s92 : AV) : xBs xOi [s0,s1,s2,s3,s4,s5,s6,s7,s8,s9,s10,s11,s12,s13,s14,s15,s16,s17,s18,s19,s20,s21,s22,s23,s24,s25,s26,s27,s28,s29,s30,s31,s32,s33,s34,s35,s36,s37,s38,s39,s40,s41,s42,s43,s44,s45,s46,s47,s48,s49,s50,s51,s52,s53,s54,s55,s56,s57,s58,s59,s60,s61,s62,s63,s64,s65,s66,s67,s68,s69,s70,s71,s72,s73,s74,s75,s76,s77,s78,s79,s80,s81,s82,s83,s84,s85,s86,s87,s88,s89,s90,s91,s92] = xQv s1 s2 s6 s7 s8 s41 s42 s43 s59 s60 s61 := by kernel_rfl
theorem yC5 {prog : Nat → Option AFunc} (s1 s2 s6 s7 s8 s41 s42 s43 s59 s60 s61 : AV) (H : xAv) : (lim prog).loop xOi xV6 ⟨xQv s1 s2 s6 s7 s8 s41 s42 s43 s59 s60 s61,H⟩ = xB9 (lim prog) xOi xV6 (run (lim prog) xU1 ⟨xQv s1 s2 s6 s7 s8 s41 s42 s43 s59 s60 s61,H⟩) := xAI _ _ _ _ (by kernel_rfl)

def xU2 : ACode :=
 .seq (.region [⟨some 44,.bin .lss (.t 43) (.t 42),none⟩])
 (.seq (.cond (.t 44)
 (.skip)
 (.exit 0))
 (.seq (.block 1 (.seq (.region [⟨some 45,.mov (.t 43),none⟩,
 ⟨some 46,.iaddr 1 (.t 41) (.t 43),none⟩,
 ⟨some 47,.load false 1 (.t 46),none⟩,
 ⟨some 8,.mov (.t 45),none⟩,
 ⟨some 9,.mov (.t 47),none⟩])
 (.seq (.seq (.region [⟨some 48,.faddr 3 (.t 1),none⟩,
 ⟨some 49,.load false 1 (.t 48),none⟩,
 ⟨some 50,.mov (.t 8),none⟩,
 ⟨some 51,.iaddr 1 (.t 49) (.t 50),none⟩,
 ⟨some 52,.load false 1 (.t 51),none⟩])
 (.cond (.t 52)
 (.region [⟨some 53,.faddr 3 (.t 7),none⟩,
 ⟨some 54,.load false 1 (.t 53),none⟩,
 ⟨some 55,.mov (.t 8),none⟩,
 ⟨some 56,.bslice true [.int Go.IntKind.i64 0] 1 1 [(0,(.t 55))],none⟩,
 ⟨some 57,.append false 1 8 (.t 54) (.t 56),none⟩,
 ⟨some 58,.faddr 3 (.t 7),none⟩,
 ⟨none,.store 1 (.t 58) (.t 57),none⟩])
 (.skip)))
 (.seq (.region [⟨some 59,.mov (.t 9),none⟩,
 ⟨some 60,.len (.t 59),none⟩,
 ⟨some 61,.mov (.c (.int Go.IntKind.i64 0)),none⟩])
 (.block 2 (.loop xOi xV6))))))
 (.region [⟨some 91,.bin .add (.t 43) (.c (.int Go.IntKind.i64 1)),none⟩,
 ⟨some 43,.mov (.t 91),none⟩])))

def xV7 : ACode := xU2
def xOj : List Nat := [0,3,4,5,8,9,10,11,12,13,14,15,16,17,18,19,20,21,22,23,24,25,26,27,28,29,30,31,32,33,34,35,36,37,38,39,40,44,45,46,47,48,49,50,51,52,53,54,55,56,57,58,59,60,61,62,63,64,65,66,67,68,69,70,71,72,73,74,75,76,77,78,79,80,81,82,83,84,85,86,87,88,89,90,91,92]
abbrev xQw (s1 s2 s6 s7 s41 s42 s43 : AV) : List AV := [.any,s1,s2,.any,.any,.any,s6,s7,.any,.any,.any,.any,.any,.any,.any,.any,.any,.any,.any,.any,.any,.any,.any,.any,.any,.any,.any,.any,.any,.any,.any,.any,.any,.any,.any,.any,.any,.any,.any,.any,.any,s41,s42,s43,.any,.any,.any,.any,.any,.any,.any,.any,.any,.any,.any,.any,.any,.any,.any,.any,.any,.any,.any,.any,.any,.any,.any,.any,.any,.any,.any,.any,.any,.any,.any,.any,.any,.any,.any,.any,.any,.any,.any,.any,.any,.any,.any,.any,.any,.any,.any,.any,.any]
theorem yC6 (s0 s1 s2 s3 s4 s5 s6 s7 s8 s9 s10 s11 s12 s13 s14 s15 s16 s17 s18 s19 s20 s21 s22 s23 s24 s25 s26 s27 s28 s29 s30 s31 s32 s33 s34 s35 s36 s37 s38 s39 s40 s41 s42 s43 s44 s45 s46 s47 s48 s49 s50 s51 s52 s53 s54 s55 s56 s57 s58 s59 s60 s61 s62 s63 s64 s65 s66 s67 s68 s69 s70 s71 s72 s73 s74 s75 s76 s77 s78 s79 s80 s81 s82 s83 s84 s85 s86 s87 s88 s89 s90 s91 s92 : AV) : xBs xOj [s0,s1,s2,s3,s4,s5,s6,s7,s8,s9,s10,s11,s12,s13,s14,s15,s16,s17,s18,s19,s20,s21,s22,s23,s24,s25,s26,s27,s28,s29,s30,s31,s32,s33,s34,s35,s36,s37,s38,s39,s40,s41,s42,s43,s44,s45,s46,s47,s48,s49,s50,s51,s52,s53,s54,s55,s56,s57,s58,s59,s60,s61,s62,s63,s64,s65,s66,s67,s68,s69,s70,s71,s72,s73,s74,s75,s76,s77,s78,s79,s80,s81,s82,s83,s84,s85,s86,s87,s88,s89,s90,s91,s92] = xQw s1 s2 s6 s7 s41 s42 s43 := by kernel_rfl
theorem yC7 {prog : Nat → Option AFunc} (s1 s2 s6 s7 s41 s42 s43 : AV) (H : xAv) : (lim prog).loop xOj xV7 ⟨xQw s1 s2 s6 s7 s41 s42 s43,H⟩ = xB9 (lim prog) xOj xV7 (run (lim prog) xU2 ⟨xQw s1 s2 s6 s7 s41 s42 s43,H⟩) := xAI _ _ _ _ (by kernel_rfl)

def a27 : AFunc := ⟨93,
 .seq (.region [⟨some 1,.box (.t 0),none⟩,
 ⟨some 2,.box (.c (.agg [.int Go.IntKind.i64 0,.int Go.IntKind.i64 0,.sl true 0 [],.sl true 0 [],.sl true 0 []])),none⟩,
 ⟨some 3,.mov (.c (.int Go.IntKind.i64 0)),none⟩])
 (.seq (.seq (.region [⟨some 14,.load true 4 (.t 1),none⟩,
 ⟨some 15,.call 14 [(.t 14)],none⟩,
 ⟨some 4,.mov (.t 15),none⟩])
 (.seq (.region [⟨some 16,.mov (.t 4),none⟩,
 ⟨some 17,.bin .neq (.t 16) (.c (.int Go.IntKind.i64 0)),none⟩])
 (.cond (.t 17)
 (.seq (.region [⟨some 18,.build [.int Go.IntKind.i64 0,.int Go.IntKind.i64 0,.sl true 0 [],.sl true 0 [],.sl true 0 []] [],none⟩,
 ⟨some 19,.mov (.t 4),none⟩,
 ⟨none,.store 5 (.t 2) (.t 18),none⟩,
 ⟨some 3,.mov (.t 19),none⟩])
 (.ret))
 (.skip))))
 (.seq (.draw 6 [⟨some 20,.faddr 2 (.t 1),none⟩,
 ⟨some 21,.load false 1 (.t 20),none⟩,
 ⟨some 22,.len (.t 21),none⟩,
 ⟨some 23,.faddr 0 (.t 1),none⟩,
 ⟨some 24,.load false 1 (.t 23),none⟩,
 ⟨some 25,.bin .shl (.c (.int Go.IntKind.i64 1)) (.t 24),none⟩,
 ⟨some 5,.mov (.t 22),none⟩,
 ⟨some 6,.mov (.t 25),none⟩])
 (.seq (.seq (.region [⟨some 26,.mov (.t 5),none⟩,
 ⟨some 27,.mov (.t 5),none⟩,
 ⟨some 28,.bin .mul (.t 26) (.t 27),none⟩,
 ⟨some 29,.mov (.t 6),none⟩,
 ⟨some 30,.bin .mul (.t 28) (.t 29),none⟩,
 ⟨some 31,.bin .gtr (.t 30) (.c (.int Go.IntKind.i64 512)),none⟩])
 (.cond (.t 31)
 (.seq (.region [⟨some 32,.build [.int Go.IntKind.i64 0,.int Go.IntKind.i64 0,.sl true 0 [],.sl true 0 [],.sl true 0 []] [],none⟩,
 ⟨none,.store 5 (.t 2) (.t 32),none⟩,
 ⟨some 3,.mov (.c (.int Go.IntKind.i64 4)),none⟩])
 (.ret))
 (.skip)))
 (.seq (.region [⟨some 33,.faddr 0 (.t 1),none⟩,
 ⟨some 34,.load false 1 (.t 33),none⟩,
 ⟨some 35,.mov (.t 5),none⟩,
 ⟨some 36,.faddr 1 (.t 1),none⟩,
 ⟨some 37,.load false 1 (.t 36),none⟩,
 ⟨some 38,.bslice true [.int Go.IntKind.i64 0] 1 1 [(0,(.t 37))],none⟩,
 ⟨some 39,.build [.int Go.IntKind.i64 0,.int Go.IntKind.i64 0,.sl true 0 [],.sl true 0 [],.sl true 0 []] [(0,1,(.t 34)),(1,1,(.t 35)),(2,1,(.t 38))],none⟩,
 ⟨some 7,.box (.c (.agg [.int Go.IntKind.i64 0,.int Go.IntKind.i64 0,.sl true 0 [],.sl true 0 [],.sl true 0 []])),none⟩,
 ⟨none,.store 5 (.t 7) (.t 39),none⟩])
 (.seq (.seq (.region [⟨some 40,.faddr 2 (.t 1),none⟩,
 ⟨some 41,.load false 1 (.t 40),none⟩,
 ⟨some 42,.len (.t 41),none⟩,
 ⟨some 43,.mov (.c (.int Go.IntKind.i64 0)),none⟩])
 (.block 0 (.loop xOj xV7)))
 (.seq (.region [⟨some 92,.load true 5 (.t 7),none⟩,
 ⟨none,.store 5 (.t 2) (.t 92),none⟩,
 ⟨some 3,.mov (.c (.int Go.IntKind.i64 0)),none⟩])
 (.ret))))))),
 [.cell 2 true 5,.tmp 3]⟩

def a29 : AFunc := ⟨31,
 .seq (.region [⟨some 2,.box (.t 0),none⟩,
 ⟨some 3,.box (.t 1),none⟩,
 ⟨some 4,.mov (.c (.bool false)),none⟩])
 (.seq (.region [⟨some 5,.faddr 0 (.t 2),none⟩,
 ⟨some 6,.load false 1 (.t 5),none⟩,
 ⟨some 7,.faddr 0 (.t 3),none⟩,
 ⟨some 8,.load false 1 (.t 7),none⟩,
 ⟨some 9,.bin .eql (.t 6) (.t 8),none⟩,
 ⟨some 10,.mov (.t 9),none⟩,
 ⟨some 11,.faddr 1 (.t 2),some (10,true)⟩,
 ⟨some 12,.load false 1 (.t 11),some (10,true)⟩,
 ⟨some 13,.faddr 1 (.t 3),some (10,true)⟩,
 ⟨some 14,.load false 1 (.t 13),some (10,true)⟩,
 ⟨some 15,.bin .eql (.t 12) (.t 14),some (10,true)⟩,
 ⟨some 16,.pick (.t 10) (.t 15) (.c (.bool false)),none⟩,
 ⟨some 17,.mov (.t 16),none⟩,
 ⟨some 18,.faddr 2 (.t 2),some (17,true)⟩,
 ⟨some 19,.load false 1 (.t 18),some (17,true)⟩,
 ⟨some 20,.faddr 2 (.t 3),some (17,true)⟩,
 ⟨some 21,.load false 1 (.t 20),some (17,true)⟩,
 ⟨some 22,.call 66 [(.t 19),(.t 21)],some (17,true)⟩,
 ⟨some 23,.pick (.t 17) (.t 22) (.c (.bool false)),none⟩,
 ⟨some 24,.mov (.t 23),none⟩,
 ⟨some 25,.faddr 3 (.t 2),some (24,true)⟩,
 ⟨some 26,.load false 1 (.t 25),some (24,true)⟩,
 ⟨some 27,.faddr 3 (.t 3),some (24,true)⟩,
 ⟨some 28,.load false 1 (.t 27),some (24,true)⟩,
 ⟨some 29,.call 67 [(.t 26),(.t 28)],some (24,true)⟩,
 ⟨some 30,.pick (.t 24) (.t 29) (.c (.bool false)),none⟩,
 ⟨some 4,.mov (.t 30),none⟩])
 (.ret)),
 [.tmp 4]⟩

def a30 : AFunc := ⟨38,
 .seq (.region [⟨some 2,.box (.t 0),none⟩,
 ⟨some 3,.box (.t 1),none⟩,
 ⟨some 4,.mov (.c (.bool false)),none⟩])
 (.seq (.region [⟨some 5,.faddr 0 (.t 2),none⟩,
 ⟨some 6,.load false 1 (.t 5),none⟩,
 ⟨some 7,.faddr 0 (.t 3),none⟩,
 ⟨some 8,.load false 1 (.t 7),none⟩,
 ⟨some 9,.bin .eql (.t 6) (.t 8),none⟩,
 ⟨some 10,.mov (.t 9),none⟩,
 ⟨some 11,.faddr 1 (.t 2),some (10,true)⟩,
 ⟨some 12,.load false 1 (.t 11),some (10,true)⟩,
 ⟨some 13,.faddr 1 (.t 3),some (10,true)⟩,
 ⟨some 14,.load false 1 (.t 13),some (10,true)⟩,
 ⟨some 15,.bin .eql (.t 12) (.t 14),some (10,true)⟩,
 ⟨some 16,.pick (.t 10) (.t 15) (.c (.bool false)),none⟩,
 ⟨some 17,.mov (.t 16),none⟩,
 ⟨some 18,.faddr 2 (.t 2),some (17,true)⟩,
 ⟨some 19,.load false 1 (.t 18),some (17,true)⟩,
 ⟨some 20,.faddr 2 (.t 3),some (17,true)⟩,
 ⟨some 21,.load false 1 (.t 20),some (17,true)⟩,
 ⟨some 22,.call 20 [(.t 19),(.t 21)],some (17,true)⟩,
 ⟨some 23,.pick (.t 17) (.t 22) (.c (.bool false)),none⟩,
 ⟨some 24,.mov (.t 23),none⟩,
 ⟨some 25,.faddr 3 (.t 2),some (24,true)⟩,
 ⟨some 26,.load false 1 (.t 25),some (24,true)⟩,
 ⟨some 27,.faddr 3 (.t 3),some (24,true)⟩,
 ⟨some 28,.load false 1 (.t 27),some (24,true)⟩,
 ⟨some 29,.call 20 [(.t 26),(.t 28)],some (24,true)⟩,
 ⟨some 30,.pick (.t 24) (.t 29) (.c (.bool false)),none⟩,
 ⟨some 31,.mov (.t 30),none⟩,
 ⟨some 32,.faddr 4 (.t 2),some (31,true)⟩,
 ⟨some 33,.load false 1 (.t 32),some (31,true)⟩,
 ⟨some 34,.faddr 4 (.t 3),some (31,true)⟩,
 ⟨some 35,.load false 1 (.t 34),some (31,true)⟩,
 ⟨some 36,.call 68 [(.t 33),(.t 35)],some (31,true)⟩,
 ⟨some 37,.pick (.t 31) (.t 36) (.c (.bool false)),none⟩,
 ⟨some 4,.mov (.t 37),none⟩])
 (.ret)),
 [.tmp 4]⟩

def xK7 : ACode :=
 .seq (.seq (.region [⟨some 3,.mov (.t 2),none⟩,
 ⟨some 4,.mov (.t 0),none⟩,
 ⟨some 5,.len (.t 4),none⟩,
 ⟨some 6,.bin .lss (.t 3) (.t 5),none⟩])
 (.cond (.t 6)
 (.skip)
 (.exit 0)))
 (.seq (.block 1 (.region [⟨some 9,.mov (.t 0),none⟩,
 ⟨some 10,.mov (.t 2),none⟩,
 ⟨some 11,.iaddr 1 (.t 9) (.t 10),none⟩,
 ⟨none,.store 1 (.t 11) (.c (.int Go.IntKind.i64 (-77))),none⟩]))
 (.region [⟨some 7,.mov (.t 2),none⟩,
 ⟨some 8,.bin .add (.t 7) (.c (.int Go.IntKind.i64 1)),none⟩,
 ⟨some 2,.mov (.t 8),none⟩]))

def xQx : ACode := xK7
def xJE : List Nat := [1,3,4,5,6,7,8,9,10,11]
abbrev xIe (s0 s2 : AV) : List AV := [s0,.any,s2,.any,.any,.any,.any,.any,.any,.any,.any,.any]
theorem xK8 (s0 s1 s2 s3 s4 s5 s6 s7 s8 s9 s10 s11 : AV) : xBs xJE [s0,s1,s2,s3,s4,s5,s6,s7,s8,s9,s10,s11] = xIe s0 s2 := by kernel_rfl
theorem xQy {prog : Nat → Option AFunc} (s0 s2 : AV) (H : xAv) : (lim prog).loop xJE xQx ⟨xIe s0 s2,H⟩ = xB9 (lim prog) xJE xQx (run (lim prog) xK7 ⟨xIe s0 s2,H⟩) := xAI _ _ _ _ (by kernel_rfl)

def a32 : AFunc := ⟨12,
 .seq (.region [⟨some 2,.mov (.c (.int Go.IntKind.i64 0)),none⟩])
 (.block 0 (.loop xJE xQx)),
 []⟩

def a33 : AFunc := ⟨8,
 .seq (.region [⟨some 1,.box (.t 0),none⟩])
 (.seq (.region [⟨some 2,.faddr 2 (.t 1),none⟩,
 ⟨some 3,.load false 1 (.t 2),none⟩,
 ⟨some 4,.icall (.c (.func 69 [])) [(.t 3)],none⟩])
 (.region [⟨some 5,.faddr 3 (.t 1),none⟩,
 ⟨some 6,.load false 1 (.t 5),none⟩,
 ⟨some 7,.icall (.c (.func 70 [])) [(.t 6)],none⟩])),
 []⟩

def a35 : AFunc := ⟨211,
 .seq (.region [⟨some 0,.mov (.c (.bool false)),none⟩])
 (.seq (.region [⟨some 28,.call 41 [],none⟩,
 ⟨some 1,.box (.c (.agg [.int Go.IntKind.i64 0,.int Go.IntKind.i64 0,.sl true 0 [],.sl true 0 []])),none⟩,
 ⟨none,.store 4 (.t 1) (.t 28),none⟩])
 (.seq (.region [⟨some 29,.build [.int Go.IntKind.u8 0,.int Go.IntKind.i64 0,.int Go.IntKind.i64 0] [(0,1,(.c (.int Go.IntKind.u8 1))),(1,1,(.c (.int Go.IntKind.i64 (-1)))),(2,1,(.c (.int Go.IntKind.i64 (-1))))],none⟩,
 ⟨some 30,.bslice true [.int Go.IntKind.u8 0,.int Go.IntKind.i64 0,.int Go.IntKind.i64 0] 3 1 [(0,(.t 29))],none⟩,
 ⟨some 2,.mov (.t 30),none⟩])
 (.seq (.region [⟨some 32,.load true 4 (.t 1),none⟩,
 ⟨some 33,.build [.int Go.IntKind.u8 0,.int Go.IntKind.i64 0,.int Go.IntKind.i64 0] [(1,1,(.c (.int Go.IntKind.i64 1))),(2,1,(.c (.int Go.IntKind.i64 2)))],none⟩,
 ⟨some 34,.build [.int Go.IntKind.u8 0,.int Go.IntKind.i64 0,.int Go.IntKind.i64 0] [(0,1,(.c (.int Go.IntKind.u8 1))),(1,1,(.c (.int Go.IntKind.i64 (-1)))),(2,1,(.c (.int Go.IntKind.i64 (-1))))],none⟩,
 ⟨some 35,.build [.int Go.IntKind.u8 0,.int Go.IntKind.i64 0,.int Go.IntKind.i64 0] [(1,1,(.c (.int Go.IntKind.i64 (-1)))),(2,1,(.c (.int Go.IntKind.i64 (-1))))],none⟩,
 ⟨some 36,.bslice true [.int Go.IntKind.u8 0,.int Go.IntKind.i64 0,.int Go.IntKind.i64 0] 3 3 [(0,(.t 33)),(1,(.t 34)),(2,(.t 35))],none⟩,
 ⟨some 37,.call 16 [(.t 32),(.t 36)],none⟩,
 ⟨some 31,.mov (.t 37),none⟩,
 ⟨some 38,.ext 0 (.t 31),none⟩,
 ⟨some 39,.ext 1 (.t 31),none⟩,
 ⟨some 3,.mov (.t 38),none⟩,
 ⟨some 4,.mov (.t 39),none⟩])
 (.seq (.region [⟨some 41,.load true 4 (.t 1),none⟩,
 ⟨some 42,.call 18 [(.t 41),(.c (.sl true 0 []))],none⟩,
 ⟨some 40,.mov (.t 42),none⟩,
 ⟨some 43,.ext 0 (.t 40),none⟩,
 ⟨some 44,.ext 1 (.t 40),none⟩,
 ⟨some 5,.mov (.t 43),none⟩,
 ⟨some 6,.mov (.t 44),none⟩])
 (.seq (.region [⟨some 46,.load true 4 (.t 1),none⟩,
 ⟨some 47,.mov (.t 2),none⟩,
 ⟨some 48,.call 18 [(.t 46),(.t 47)],none⟩,
 ⟨some 45,.mov (.t 48),none⟩,
 ⟨some 49,.ext 0 (.t 45),none⟩,
 ⟨some 50,.ext 1 (.t 45),none⟩,
 ⟨some 7,.mov (.t 49),none⟩,
 ⟨some 8,.mov (.t 50),none⟩])
 (.seq (.region [⟨some 52,.load true 4 (.t 1),none⟩,
 ⟨some 53,.call 25 [(.t 52)],none⟩,
 ⟨some 51,.mov (.t 53),none⟩,
 ⟨some 54,.ext 0 (.t 51),none⟩,
 ⟨some 55,.ext 1 (.t 51),none⟩,
 ⟨some 9,.mov (.t 54),none⟩,
 ⟨some 10,.mov (.t 55),none⟩])
 (.seq (.region [⟨some 56,.bslice true [.bool false] 1 2 [(0,(.c (.bool false))),(1,(.c (.bool true)))],none⟩,
 ⟨some 57,.bslice true [.int Go.IntKind.i64 0] 1 2 [(0,(.c (.int Go.IntKind.i64 0))),(1,(.c (.int Go.IntKind.i64 1)))],none⟩,
 ⟨some 58,.bslice true [.int Go.IntKind.i64 0] 1 2 [(0,(.c (.int Go.IntKind.i64 1))),(1,(.c (.int Go.IntKind.i64 1)))],none⟩,
 ⟨some 59,.bslice true [.sl true 0 []] 1 2 [(0,(.t 57)),(1,(.t 58))],none⟩,
 ⟨some 60,.bslice true [.int Go.IntKind.i64 0] 1 2 [(0,(.c (.int Go.IntKind.i64 1))),(1,(.c (.int Go.IntKind.i64 1)))],none⟩,
 ⟨some 61,.bslice true [.int Go.IntKind.i64 0] 1 2 [(0,(.c (.int Go.IntKind.i64 1))),(1,(.c (.int Go.IntKind.i64 1)))],none⟩,
 ⟨some 62,.bslice true [.sl true 0 []] 1 2 [(0,(.t 60)),(1,(.t 61))],none⟩,
 ⟨some 63,.bslice true [.sl true 0 []] 1 2 [(0,(.t 59)),(1,(.t 62))],none⟩,
 ⟨some 64,.build [.int Go.IntKind.i64 0,.int Go.IntKind.i64 0,.sl true 0 [],.sl true 0 []] [(0,1,(.c (.int Go.IntKind.i64 1))),(3,1,(.t 56)),(2,1,(.t 63))],none⟩,
 ⟨some 11,.box (.c (.agg [.int Go.IntKind.i64 0,.int Go.IntKind.i64 0,.sl true 0 [],.sl true 0 []])),none⟩,
 ⟨none,.store 4 (.t 11) (.t 64),none⟩])
 (.seq (.region [⟨some 66,.load true 4 (.t 1),none⟩,
 ⟨some 67,.call 21 [(.t 66)],none⟩,
 ⟨some 65,.mov (.t 67),none⟩,
 ⟨some 68,.ext 0 (.t 65),none⟩,
 ⟨some 69,.ext 1 (.t 65),none⟩,
 ⟨some 12,.box (.c (.agg [.int Go.IntKind.i64 0,.int Go.IntKind.i64 0,.sl true 0 [],.sl true 0 []])),none⟩,
 ⟨none,.store 4 (.t 12) (.t 68),none⟩,
 ⟨some 13,.mov (.t 69),none⟩])
 (.seq (.region [⟨some 71,.load true 4 (.t 1),none⟩,
 ⟨some 72,.call 23 [(.t 71)],none⟩,
 ⟨some 70,.mov (.t 72),none⟩,
 ⟨some 73,.ext 0 (.t 70),none⟩,
 ⟨some 74,.ext 1 (.t 70),none⟩,
 ⟨some 14,.box (.c (.agg [.int Go.IntKind.i64 0,.int Go.IntKind.i64 0,.sl true 0 [],.sl true 0 []])),none⟩,
 ⟨none,.store 4 (.t 14) (.t 73),none⟩,
 ⟨some 15,.mov (.t 74),none⟩])
 (.seq (.seq (.region [⟨some 75,.mov (.t 3),none⟩,
 ⟨some 76,.bslice true [.int Go.IntKind.i64 0] 1 3 [(0,(.c (.int Go.IntKind.i64 1))),(1,(.c (.int Go.IntKind.i64 1))),(2,(.c (.int Go.IntKind.i64 0)))],none⟩,
 ⟨some 77,.call 20 [(.t 75),(.t 76)],none⟩,
 ⟨some 78,.un .not (.t 77),none⟩,
 ⟨some 79,.mov (.t 78),none⟩,
 ⟨some 80,.mov (.t 4),some (79,false)⟩,
 ⟨some 81,.bin .neq (.t 80) (.c (.int Go.IntKind.i64 0)),some (79,false)⟩,
 ⟨some 82,.pick (.t 79) (.c (.bool true)) (.t 81),none⟩,
 ⟨some 83,.mov (.t 82),none⟩,
 ⟨some 84,.mov (.t 5),some (83,false)⟩,
 ⟨some 85,.pick (.t 83) (.c (.bool true)) (.t 84),none⟩,
 ⟨some 86,.mov (.t 85),none⟩,
 ⟨some 87,.mov (.t 6),some (86,false)⟩,
 ⟨some 88,.bin .neq (.t 87) (.c (.int Go.IntKind.i64 0)),some (86,false)⟩,
 ⟨some 89,.pick (.t 86) (.c (.bool true)) (.t 88),none⟩,
 ⟨some 90,.mov (.t 89),none⟩,
 ⟨some 91,.mov (.t 7),some (90,false)⟩,
 ⟨some 92,.un .not (.t 91),some (90,false)⟩,
 ⟨some 93,.pick (.t 90) (.c (.bool true)) (.t 92),none⟩,
 ⟨some 94,.mov (.t 93),none⟩,
 ⟨some 95,.mov (.t 8),some (94,false)⟩,
 ⟨some 96,.bin .neq (.t 95) (.c (.int Go.IntKind.i64 0)),some (94,false)⟩,
 ⟨some 97,.pick (.t 94) (.c (.bool true)) (.t 96),none⟩,
 ⟨some 98,.mov (.t 97),none⟩,
 ⟨some 99,.mov (.t 9),some (98,false)⟩,
 ⟨some 100,.bslice true [.int Go.IntKind.i64 0] 1 3 [(0,(.c (.int Go.IntKind.i64 0))),(1,(.c (.int Go.IntKind.i64 1))),(2,(.c (.int Go.IntKind.i64 1)))],some (98,false)⟩,
 ⟨some 101,.call 20 [(.t 99),(.t 100)],some (98,false)⟩,
 ⟨some 102,.un .not (.t 101),some (98,false)⟩,
 ⟨some 103,.pick (.t 98) (.c (.bool true)) (.t 102),none⟩,
 ⟨some 104,.mov (.t 103),none⟩,
 ⟨some 105,.mov (.t 10),some (104,false)⟩,
 ⟨some 106,.bin .neq (.t 105) (.c (.int Go.IntKind.i64 0)),some (104,false)⟩,
 ⟨some 107,.pick (.t 104) (.c (.bool true)) (.t 106),none⟩,
 ⟨some 108,.mov (.t 107),none⟩,
 ⟨some 109,.load true 4 (.t 12),some (108,false)⟩,
 ⟨some 110,.load true 4 (.t 11),some (108,false)⟩,
 ⟨some 111,.call 29 [(.t 109),(.t 110)],some (108,false)⟩,
 ⟨some 112,.un .not (.t 111),some (108,false)⟩,
 ⟨some 113,.pick (.t 108) (.c (.bool true)) (.t 112),none⟩,
 ⟨some 114,.mov (.t 113),none⟩,
 ⟨some 115,.mov (.t 13),some (114,false)⟩,
 ⟨some 116,.bin .neq (.t 115) (.c (.int Go.IntKind.i64 0)),some (114,false)⟩,
 ⟨some 117,.pick (.t 114) (.c (.bool true)) (.t 116),none⟩,
 ⟨some 118,.mov (.t 117),none⟩,
 ⟨some 119,.load true 4 (.t 14),some (118,false)⟩,
 ⟨some 120,.load true 4 (.t 11),some (118,false)⟩,
 ⟨some 121,.call 29 [(.t 119),(.t 120)],some (118,false)⟩,
 ⟨some 122,.un .not (.t 121),some (118,false)⟩,
 ⟨some 123,.pick (.t 118) (.c (.bool true)) (.t 122),none⟩,
 ⟨some 124,.mov (.t 123),none⟩,
 ⟨some 125,.mov (.t 15),some (124,false)⟩,
 ⟨some 126,.bin .neq (.t 125) (.c (.int Go.IntKind.i64 0)),some (124,false)⟩,
 ⟨some 127,.pick (.t 124) (.c (.bool true)) (.t 126),none⟩])
 (.cond (.t 127)
 (.seq (.region [⟨some 0,.mov (.c (.bool false)),none⟩])
 (.ret))
 (.skip)))
 (.seq (.region [⟨some 128,.bslice true [.int Go.IntKind.i64 0] 1 1 [(0,(.c (.int Go.IntKind.i64 0)))],none⟩,
 ⟨some 129,.bslice true [.int Go.IntKind.i64 0] 1 1 [(0,(.c (.int Go.IntKind.i64 1)))],none⟩,
 ⟨some 130,.build [.int Go.IntKind.i64 0,.int Go.IntKind.i64 0,.int Go.IntKind.i64 0,.int Go.IntKind.u8 0,.int Go.IntKind.u8 0] [(2,1,(.c (.int Go.IntKind.i64 1))),(3,1,(.c (.int Go.IntKind.u8 1)))],none⟩,
 ⟨some 131,.build [.int Go.IntKind.i64 0,.int Go.IntKind.i64 0,.int Go.IntKind.i64 0,.int Go.IntKind.u8 0,.int Go.IntKind.u8 0] [(0,1,(.c (.int Go.IntKind.i64 1))),(2,1,(.c (.int Go.IntKind.i64 1)))],none⟩,
 ⟨some 132,.build [.int Go.IntKind.i64 0,.int Go.IntKind.i64 0,.int Go.IntKind.i64 0,.int Go.IntKind.u8 0,.int Go.IntKind.u8 0] [(1,1,(.c (.int Go.IntKind.i64 1))),(2,1,(.c (.int Go.IntKind.i64 1)))],none⟩,
 ⟨some 133,.build [.int Go.IntKind.i64 0,.int Go.IntKind.i64 0,.int Go.IntKind.i64 0,.int Go.IntKind.u8 0,.int Go.IntKind.u8 0] [],none⟩,
 ⟨some 134,.bslice true [.int Go.IntKind.i64 0,.int Go.IntKind.i64 0,.int Go.IntKind.i64 0,.int Go.IntKind.u8 0,.int Go.IntKind.u8 0] 5 4 [(0,(.t 130)),(1,(.t 131)),(2,(.t 132)),(3,(.t 133))],none⟩,
 ⟨some 135,.build [.int Go.IntKind.i64 0,.int Go.IntKind.i64 0,.sl true 0 [],.sl true 0 [],.sl true 0 []] [(0,1,(.c (.int Go.IntKind.i64 2))),(1,1,(.c (.int Go.IntKind.i64 2))),(2,1,(.t 128)),(3,1,(.t 129)),(4,1,(.t 134))],none⟩,
 ⟨some 16,.box (.c (.agg [.int Go.IntKind.i64 0,.int Go.IntKind.i64 0,.sl true 0 [],.sl true 0 [],.sl true 0 []])),none⟩,
 ⟨none,.store 5 (.t 16) (.t 135),none⟩])
 (.seq (.region [⟨some 137,.load true 5 (.t 16),none⟩,
 ⟨some 138,.call 37 [(.t 137),(.c (.int Go.IntKind.i64 2))],none⟩,
 ⟨some 136,.mov (.t 138),none⟩,
 ⟨some 139,.ext 0 (.t 136),none⟩,
 ⟨some 140,.ext 1 (.t 136),none⟩,
 ⟨some 141,.ext 2 (.t 136),none⟩,
 ⟨some 17,.box (.c (.agg [.int Go.IntKind.i64 0,.int Go.IntKind.i64 0,.sl true 0 [],.sl true 0 []])),none⟩,
 ⟨none,.store 4 (.t 17) (.t 139),none⟩,
 ⟨some 18,.mov (.t 140),none⟩,
 ⟨some 19,.mov (.t 141),none⟩])
 (.seq (.region [⟨some 143,.load true 5 (.t 16),none⟩,
 ⟨some 144,.call 37 [(.t 143),(.c (.int Go.IntKind.i64 1))],none⟩,
 ⟨some 142,.mov (.t 144),none⟩,
 ⟨some 145,.ext 0 (.t 142),none⟩,
 ⟨some 146,.ext 1 (.t 142),none⟩,
 ⟨some 147,.ext 2 (.t 142),none⟩,
 ⟨some 20,.box (.c (.agg [.int Go.IntKind.i64 0,.int Go.IntKind.i64 0,.sl true 0 [],.sl true 0 []])),none⟩,
 ⟨none,.store 4 (.t 20) (.t 145),none⟩,
 ⟨some 21,.mov (.t 146),none⟩,
 ⟨some 22,.mov (.t 147),none⟩])
 (.seq (.region [⟨some 149,.load true 5 (.t 16),none⟩,
 ⟨some 150,.call 37 [(.t 149),(.c (.int Go.IntKind.i64 65))],none⟩,
 ⟨some 148,.mov (.t 150),none⟩,
 ⟨some 151,.ext 0 (.t 148),none⟩,
 ⟨some 152,.ext 1 (.t 148),none⟩,
 ⟨some 153,.ext 2 (.t 148),none⟩,
 ⟨some 23,.box (.c (.agg [.int Go.IntKind.i64 0,.int Go.IntKind.i64 0,.sl true 0 [],.sl true 0 []])),none⟩,
 ⟨none,.store 4 (.t 23) (.t 151),none⟩,
 ⟨some 24,.mov (.t 152),none⟩,
 ⟨some 25,.mov (.t 153),none⟩])
 (.seq (.region [⟨some 155,.load true 4 (.t 11),none⟩,
 ⟨some 156,.call 27 [(.t 155)],none⟩,
 ⟨some 154,.mov (.t 156),none⟩,
 ⟨some 157,.ext 0 (.t 154),none⟩,
 ⟨some 158,.ext 1 (.t 154),none⟩,
 ⟨some 26,.box (.c (.agg [.int Go.IntKind.i64 0,.int Go.IntKind.i64 0,.sl true 0 [],.sl true 0 [],.sl true 0 []])),none⟩,
 ⟨none,.store 5 (.t 26) (.t 157),none⟩,
 ⟨some 27,.mov (.t 158),none⟩])
 (.seq (.region [⟨some 159,.mov (.t 18),none⟩,
 ⟨some 160,.bslice true [.int Go.IntKind.i64 0] 1 1 [(0,(.c (.int Go.IntKind.i64 0)))],none⟩,
 ⟨some 161,.bslice true [.int Go.IntKind.i64 0] 1 2 [(0,(.c (.int Go.IntKind.i64 0))),(1,(.c (.int Go.IntKind.i64 1)))],none⟩,
 ⟨some 162,.bslice true [.sl true 0 []] 1 2 [(0,(.t 160)),(1,(.t 161))],none⟩,
 ⟨some 163,.call 39 [(.t 159),(.t 162)],none⟩,
 ⟨some 164,.mov (.t 163),none⟩,
 ⟨some 165,.mov (.t 19),some (164,true)⟩,
 ⟨some 166,.bin .eql (.t 165) (.c (.int Go.IntKind.i64 0)),some (164,true)⟩,
 ⟨some 167,.pick (.t 164) (.t 166) (.c (.bool false)),none⟩,
 ⟨some 168,.mov (.t 167),none⟩,
 ⟨some 169,.mov (.t 22),some (168,true)⟩,
 ⟨some 170,.bin .eql (.t 169) (.c (.int Go.IntKind.i64 10)),some (168,true)⟩,
 ⟨some 171,.pick (.t 168) (.t 170) (.c (.bool false)),none⟩,
 ⟨some 172,.mov (.t 171),none⟩,
 ⟨some 173,.mov (.t 25),some (172,true)⟩,
 ⟨some 174,.bin .eql (.t 173) (.c (.int Go.IntKind.i64 1)),some (172,true)⟩,
 ⟨some 175,.pick (.t 172) (.t 174) (.c (.bool false)),none⟩,
 ⟨some 176,.mov (.t 175),none⟩,
 ⟨some 177,.mov (.t 27),some (176,true)⟩,
 ⟨some 178,.bin .eql (.t 177) (.c (.int Go.IntKind.i64 0)),some (176,true)⟩,
 ⟨some 179,.pick (.t 176) (.t 178) (.c (.bool false)),none⟩,
 ⟨some 180,.mov (.t 179),none⟩,
 ⟨some 181,.faddr 1 (.t 26),some (180,true)⟩,
 ⟨some 182,.load false 1 (.t 181),some (180,true)⟩,
 ⟨some 183,.bin .eql (.t 182) (.c (.int Go.IntKind.i64 2)),some (180,true)⟩,
 ⟨some 184,.pick (.t 180) (.t 183) (.c (.bool false)),none⟩,
 ⟨some 185,.mov (.t 184),none⟩,
 ⟨some 186,.faddr 2 (.t 26),some (185,true)⟩,
 ⟨some 187,.load false 1 (.t 186),some (185,true)⟩,
 ⟨some 188,.bslice true [.int Go.IntKind.i64 0] 1 1 [(0,(.c (.int Go.IntKind.i64 0)))],some (185,true)⟩,
 ⟨some 189,.call 20 [(.t 187),(.t 188)],some (185,true)⟩,
 ⟨some 190,.pick (.t 185) (.t 189) (.c (.bool false)),none⟩,
 ⟨some 191,.mov (.t 190),none⟩,
 ⟨some 192,.faddr 3 (.t 26),some (191,true)⟩,
 ⟨some 193,.load false 1 (.t 192),some (191,true)⟩,
 ⟨some 194,.bslice true [.int Go.IntKind.i64 0] 1 1 [(0,(.c (.int Go.IntKind.i64 1)))],some (191,true)⟩,
 ⟨some 195,.call 20 [(.t 193),(.t 194)],some (191,true)⟩,
 ⟨some 196,.pick (.t 191) (.t 195) (.c (.bool false)),none⟩,
 ⟨some 197,.mov (.t 196),none⟩,
 ⟨some 198,.faddr 4 (.t 26),some (197,true)⟩,
 ⟨some 199,.load false 1 (.t 198),some (197,true)⟩,
 ⟨some 200,.len (.t 199),some (197,true)⟩,
 ⟨some 201,.bin .eql (.t 200) (.c (.int Go.IntKind.i64 8)),some (197,true)⟩,
 ⟨some 202,.pick (.t 197) (.t 201) (.c (.bool false)),none⟩,
 ⟨some 203,.mov (.t 202),none⟩,
 ⟨some 204,.faddr 4 (.t 26),some (203,true)⟩,
 ⟨some 205,.load false 1 (.t 204),some (203,true)⟩,
 ⟨some 206,.iaddr 5 (.t 205) (.c (.int Go.IntKind.i64 0)),some (203,true)⟩,
 ⟨some 207,.load true 5 (.t 206),some (203,true)⟩,
 ⟨some 208,.build [.int Go.IntKind.i64 0,.int Go.IntKind.i64 0,.int Go.IntKind.i64 0,.int Go.IntKind.u8 0,.int Go.IntKind.u8 0] [(4,1,(.c (.int Go.IntKind.u8 1)))],some (203,true)⟩,
 ⟨some 209,.aeq false 5 (.t 207) (.t 208),some (203,true)⟩,
 ⟨some 210,.pick (.t 203) (.t 209) (.c (.bool false)),none⟩,
 ⟨some 0,.mov (.t 210),none⟩])
 (.ret))))))))))))))))),
 [.tmp 0]⟩

def a36 : AFunc := ⟨29,
 .seq (.region [⟨some 1,.box (.t 0),none⟩,
 ⟨some 2,.box (.c (.agg [.int Go.IntKind.i64 0,.int Go.IntKind.i64 0,.sl true 0 [],.sl true 0 [],.sl true 0 []])),none⟩])
 (.seq (.region [⟨some 3,.faddr 2 (.t 1),none⟩,
 ⟨some 4,.load false 1 (.t 3),none⟩,
 ⟨some 5,.faddr 2 (.t 1),none⟩,
 ⟨some 6,.load false 1 (.t 5),none⟩,
 ⟨some 7,.len (.t 6),none⟩,
 ⟨some 8,.mini (.t 7) (.c (.int Go.IntKind.i64 70)),none⟩,
 ⟨some 9,.slice 1 (.t 4) none (some (.t 8)) none,none⟩,
 ⟨some 10,.faddr 2 (.t 1),none⟩,
 ⟨none,.store 1 (.t 10) (.t 9),none⟩])
 (.seq (.region [⟨some 11,.faddr 3 (.t 1),none⟩,
 ⟨some 12,.load false 1 (.t 11),none⟩,
 ⟨some 13,.faddr 3 (.t 1),none⟩,
 ⟨some 14,.load false 1 (.t 13),none⟩,
 ⟨some 15,.len (.t 14),none⟩,
 ⟨some 16,.mini (.t 15) (.c (.int Go.IntKind.i64 70)),none⟩,
 ⟨some 17,.slice 1 (.t 12) none (some (.t 16)) none,none⟩,
 ⟨some 18,.faddr 3 (.t 1),none⟩,
 ⟨none,.store 1 (.t 18) (.t 17),none⟩])
 (.seq (.region [⟨some 19,.faddr 4 (.t 1),none⟩,
 ⟨some 20,.load false 1 (.t 19),none⟩,
 ⟨some 21,.faddr 4 (.t 1),none⟩,
 ⟨some 22,.load false 1 (.t 21),none⟩,
 ⟨some 23,.len (.t 22),none⟩,
 ⟨some 24,.mini (.t 23) (.c (.int Go.IntKind.i64 60)),none⟩,
 ⟨some 25,.slice 5 (.t 20) none (some (.t 24)) none,none⟩,
 ⟨some 26,.faddr 4 (.t 1),none⟩,
 ⟨none,.store 1 (.t 26) (.t 25),none⟩])
 (.seq (.region [⟨some 27,.load true 5 (.t 1),none⟩,
 ⟨some 28,.call 72 [(.t 27)],none⟩,
 ⟨none,.store 5 (.t 2) (.t 28),none⟩])
 (.ret))))),
 [.cell 2 true 5]⟩

def xK9 : ACode :=
 .seq (.region [⟨some 46,.bin .lss (.t 45) (.t 44),none⟩])
 (.seq (.cond (.t 46)
 (.skip)
 (.exit 0))
 (.seq (.block 1 (.seq (.region [⟨some 47,.iaddr 1 (.t 43) (.t 45),none⟩,
 ⟨some 48,.load false 1 (.t 47),none⟩,
 ⟨some 13,.mov (.t 48),none⟩])
 (.region [⟨some 49,.mov (.t 5),none⟩,
 ⟨some 50,.mov (.t 13),none⟩,
 ⟨some 51,.ocall 77 [(.t 50)],none⟩,
 ⟨some 52,.bslice false [.sl true 0 []] 1 1 [(0,(.t 51))],none⟩,
 ⟨some 53,.append false 1 24 (.t 49) (.t 52),none⟩,
 ⟨some 5,.mov (.t 53),none⟩])))
 (.region [⟨some 54,.bin .add (.t 45) (.c (.int Go.IntKind.i64 1)),none⟩,
 ⟨some 45,.mov (.t 54),none⟩])))

def xTe : ACode := xK9
def xLa : List Nat := [0,1,3,6,7,11,12,13,14,15,16,17,18,19,20,21,22,23,24,25,26,27,28,29,30,31,32,33,34,35,36,37,38,39,40,41,42,46,47,48,49,50,51,52,53,54,55,56,57,58,59,60,61,62,63]
abbrev xLb (s2 s4 s5 s8 s9 s10 s43 s44 s45 : AV) : List AV := [.any,.any,s2,.any,s4,s5,.any,.any,s8,s9,s10,.any,.any,.any,.any,.any,.any,.any,.any,.any,.any,.any,.any,.any,.any,.any,.any,.any,.any,.any,.any,.any,.any,.any,.any,.any,.any,.any,.any,.any,.any,.any,.any,s43,s44,s45,.any,.any,.any,.any,.any,.any,.any,.any,.any,.any,.any,.any,.any,.any,.any,.any,.any,.any]
theorem xOk (s0 s1 s2 s3 s4 s5 s6 s7 s8 s9 s10 s11 s12 s13 s14 s15 s16 s17 s18 s19 s20 s21 s22 s23 s24 s25 s26 s27 s28 s29 s30 s31 s32 s33 s34 s35 s36 s37 s38 s39 s40 s41 s42 s43 s44 s45 s46 s47 s48 s49 s50 s51 s52 s53 s54 s55 s56 s57 s58 s59 s60 s61 s62 s63 : AV) : xBs xLa [s0,s1,s2,s3,s4,s5,s6,s7,s8,s9,s10,s11,s12,s13,s14,s15,s16,s17,s18,s19,s20,s21,s22,s23,s24,s25,s26,s27,s28,s29,s30,s31,s32,s33,s34,s35,s36,s37,s38,s39,s40,s41,s42,s43,s44,s45,s46,s47,s48,s49,s50,s51,s52,s53,s54,s55,s56,s57,s58,s59,s60,s61,s62,s63] = xLb s2 s4 s5 s8 s9 s10 s43 s44 s45 := by kernel_rfl
theorem xQz {prog : Nat → Option AFunc} (s2 s4 s5 s8 s9 s10 s43 s44 s45 : AV) (H : xAv) : (lim prog).loop xLa xTe ⟨xLb s2 s4 s5 s8 s9 s10 s43 s44 s45,H⟩ = xB9 (lim prog) xLa xTe (run (lim prog) xK9 ⟨xLb s2 s4 s5 s8 s9 s10 s43 s44 s45,H⟩) := xAI _ _ _ _ (by kernel_rfl)

def a37 : AFunc := ⟨64,
 .seq (.region [⟨some 2,.box (.t 0),none⟩,
 ⟨some 3,.box (.t 1),none⟩,
 ⟨some 4,.box (.c (.agg [.int Go.IntKind.i64 0,.int Go.IntKind.i64 0,.sl true 0 [],.sl true 0 []])),none⟩,
 ⟨some 5,.mov (.c (.sl true 0 [])),none⟩,
 ⟨some 6,.mov (.c (.int Go.IntKind.i64 0)),none⟩])
 (.seq (.seq (.region [⟨some 14,.load true 5 (.t 2),none⟩,
 ⟨some 15,.call 45 [(.t 14)],none⟩,
 ⟨some 7,.mov (.t 15),none⟩])
 (.seq (.region [⟨some 16,.mov (.t 7),none⟩,
 ⟨some 17,.bin .neq (.t 16) (.c (.int Go.IntKind.i64 0)),none⟩])
 (.cond (.t 17)
 (.seq (.region [⟨some 18,.build [.int Go.IntKind.i64 0,.int Go.IntKind.i64 0,.sl true 0 [],.sl true 0 []] [],none⟩,
 ⟨some 19,.mov (.t 7),none⟩,
 ⟨none,.store 4 (.t 4) (.t 18),none⟩,
 ⟨some 5,.mov (.c (.sl true 0 [])),none⟩,
 ⟨some 6,.mov (.t 19),none⟩])
 (.ret))
 (.skip))))
 (.seq (.seq (.region [⟨some 20,.load false 1 (.t 3),none⟩,
 ⟨some 21,.bin .lss (.t 20) (.c (.int Go.IntKind.i64 1)),none⟩,
 ⟨some 22,.mov (.t 21),none⟩,
 ⟨some 23,.load false 1 (.t 3),some (22,false)⟩,
 ⟨some 24,.bin .gtr (.t 23) (.c (.int Go.IntKind.i64 64)),some (22,false)⟩,
 ⟨some 25,.pick (.t 22) (.c (.bool true)) (.t 24),none⟩])
 (.cond (.t 25)
 (.seq (.region [⟨some 26,.build [.int Go.IntKind.i64 0,.int Go.IntKind.i64 0,.sl true 0 [],.sl true 0 []] [],none⟩,
 ⟨none,.store 4 (.t 4) (.t 26),none⟩,
 ⟨some 5,.mov (.c (.sl true 0 [])),none⟩,
 ⟨some 6,.mov (.c (.int Go.IntKind.i64 1)),none⟩])
 (.ret))
 (.skip)))
 (.seq (.region [⟨some 27,.faddr 2 (.t 2),none⟩,
 ⟨some 28,.load false 1 (.t 27),none⟩,
 ⟨some 29,.call 73 [(.t 28)],none⟩,
 ⟨some 30,.bslice false [.int Go.IntKind.u64 0] 1 1 [(0,(.t 29))],none⟩,
 ⟨some 8,.box (.c (.sl true 0 [])),none⟩,
 ⟨none,.store 1 (.t 8) (.t 30),none⟩])
 (.seq (.region [⟨some 31,.mkmap,none⟩,
 ⟨some 32,.load false 1 (.t 8),none⟩,
 ⟨some 33,.iaddr 1 (.t 32) (.c (.int Go.IntKind.i64 0)),none⟩,
 ⟨some 34,.load false 1 (.t 33),none⟩,
 ⟨none,.mupd [0] (.t 31) (.t 34) (.c (.int Go.IntKind.i64 0)),none⟩,
 ⟨some 35,.mov (.t 31),none⟩,
 ⟨some 9,.box (.c (.nilm)),none⟩,
 ⟨none,.store 1 (.t 9) (.t 35),none⟩])
 (.seq (.region [⟨some 36,.mkfunc 74 [(.t 2),(.t 8)],none⟩,
 ⟨some 10,.box (.c (.nilf)),none⟩,
 ⟨none,.store 1 (.t 10) (.t 36),none⟩])
 (.seq (.region [⟨some 11,.box (.c (.bool false)),none⟩,
 ⟨none,.store 1 (.t 11) (.c (.bool false)),none⟩])
 (.seq (.region [⟨some 37,.faddr 0 (.t 2),none⟩,
 ⟨some 38,.load false 1 (.t 37),none⟩,
 ⟨some 39,.mkfunc 76 [(.t 10),(.t 9),(.t 8),(.t 3),(.t 11)],none⟩,
 ⟨some 40,.icall (.c (.func 75 [])) [(.t 38),(.t 39)],none⟩])
 (.seq (.seq (.region [⟨some 41,.load false 1 (.t 11),none⟩])
 (.cond (.t 41)
 (.seq (.region [⟨some 42,.build [.int Go.IntKind.i64 0,.int Go.IntKind.i64 0,.sl true 0 [],.sl true 0 []] [],none⟩,
 ⟨none,.store 4 (.t 4) (.t 42),none⟩,
 ⟨some 5,.mov (.c (.sl true 0 [])),none⟩,
 ⟨some 6,.mov (.c (.int Go.IntKind.i64 10)),none⟩])
 (.ret))
 (.skip)))
 (.seq (.seq (.region [⟨some 43,.load false 1 (.t 8),none⟩,
 ⟨some 44,.len (.t 43),none⟩,
 ⟨some 45,.mov (.c (.int Go.IntKind.i64 0)),none⟩])
 (.block 0 (.loop xLa xTe)))
 (.seq (.region [⟨some 55,.faddr 0 (.t 2),none⟩,
 ⟨some 56,.load false 1 (.t 55),none⟩,
 ⟨some 57,.load false 1 (.t 8),none⟩,
 ⟨some 58,.len (.t 57),none⟩,
 ⟨some 59,.mkfunc 78 [(.t 9),(.t 10)],none⟩,
 ⟨some 60,.mkfunc 79 [(.t 2),(.t 8)],none⟩,
 ⟨some 61,.icall (.c (.func 61 [])) [(.t 56),(.t 58),(.t 59),(.t 60)],none⟩,
 ⟨none,.store 4 (.t 4) (.t 61),none⟩])
 (.seq (.region [⟨some 62,.load true 4 (.t 4),none⟩,
 ⟨some 63,.mov (.t 5),none⟩,
 ⟨none,.store 4 (.t 4) (.t 62),none⟩,
 ⟨some 5,.mov (.t 63),none⟩,
 ⟨some 6,.mov (.c (.int Go.IntKind.i64 0)),none⟩])
 (.ret)))))))))))),
 [.cell 4 true 4,.tmp 5,.tmp 6]⟩

def xGA : ACode :=
 .seq (.seq (.region [⟨some 62,.mov (.t 13),none⟩,
 ⟨some 63,.faddr 0 (.t 2),none⟩,
 ⟨some 64,.load false 1 (.t 63),none⟩,
 ⟨some 65,.bin .shl (.c (.int Go.IntKind.i64 1)) (.t 64),none⟩,
 ⟨some 66,.bin .lss (.t 62) (.t 65),none⟩])
 (.cond (.t 66)
 (.skip)
 (.exit 6)))
 (.seq (.block 7 (.seq (.draw 17 [⟨some 69,.load true 5 (.t 2),none⟩,
 ⟨some 70,.mov (.t 8),none⟩,
 ⟨some 71,.mov (.t 11),none⟩,
 ⟨some 72,.mov (.t 12),none⟩,
 ⟨some 73,.iaddr 2 (.t 71) (.t 72),none⟩,
 ⟨some 74,.arrat 1 2 (.t 73) (.c (.int Go.IntKind.i64 0)),none⟩,
 ⟨some 75,.load false 1 (.t 74),none⟩,
 ⟨some 76,.iaddr 1 (.t 70) (.t 75),none⟩,
 ⟨some 77,.load false 1 (.t 76),none⟩,
 ⟨some 78,.mov (.t 8),none⟩,
 ⟨some 79,.mov (.t 11),none⟩,
 ⟨some 80,.mov (.t 12),none⟩,
 ⟨some 81,.iaddr 2 (.t 79) (.t 80),none⟩,
 ⟨some 82,.arrat 1 2 (.t 81) (.c (.int Go.IntKind.i64 1)),none⟩,
 ⟨some 83,.load false 1 (.t 82),none⟩,
 ⟨some 84,.iaddr 1 (.t 78) (.t 83),none⟩,
 ⟨some 85,.load false 1 (.t 84),none⟩,
 ⟨some 86,.mov (.t 13),none⟩,
 ⟨some 87,.conv Go.IntKind.u8 (.t 86),none⟩,
 ⟨some 88,.call 83 [(.t 69),(.t 77),(.t 85),(.t 87)],none⟩,
 ⟨some 14,.mov (.t 88),none⟩])
 (.seq (.seq (.region [⟨some 89,.mov (.t 8),none⟩,
 ⟨some 90,.mov (.t 14),none⟩,
 ⟨some 91,.call 84 [(.t 89),(.t 90)],none⟩,
 ⟨some 92,.bin .lss (.t 91) (.c (.int Go.IntKind.i64 0)),none⟩])
 (.cond (.t 92)
 (.region [⟨some 93,.mov (.t 8),none⟩,
 ⟨some 94,.mov (.t 14),none⟩,
 ⟨some 95,.bslice true [.sl true 0 []] 1 1 [(0,(.t 94))],none⟩,
 ⟨some 96,.append false 1 24 (.t 93) (.t 95),none⟩,
 ⟨some 8,.mov (.t 96),none⟩])
 (.skip)))
 (.seq (.region [⟨some 97,.mov (.t 8),none⟩,
 ⟨some 98,.len (.t 97),none⟩,
 ⟨some 99,.mov (.t 1),none⟩,
 ⟨some 100,.bin .gtr (.t 98) (.t 99),none⟩])
 (.cond (.t 100)
 (.seq (.region [⟨some 101,.build [.int Go.IntKind.i64 0,.int Go.IntKind.i64 0,.sl true 0 [],.sl true 0 []] [],none⟩,
 ⟨none,.store 4 (.t 4) (.t 101),none⟩,
 ⟨some 5,.mov (.c (.sl true 0 [])),none⟩,
 ⟨some 6,.mov (.c (.int Go.IntKind.i64 10)),none⟩])
 (.ret))
 (.skip))))))
 (.region [⟨some 67,.mov (.t 13),none⟩,
 ⟨some 68,.bin .add (.t 67) (.c (.int Go.IntKind.i64 1)),none⟩,
 ⟨some 13,.mov (.t 68),none⟩]))

def xTf : ACode := xGA
def xLc : List Nat := [0,3,7,14,15,16,17,18,19,20,21,22,23,24,25,26,27,28,29,30,31,32,33,34,35,36,37,38,39,40,41,42,43,44,45,46,47,48,49,50,51,52,53,54,55,56,57,58,59,60,61,62,63,64,65,66,67,68,69,70,71,72,73,74,75,76,77,78,79,80,81,82,83,84,85,86,87,88,89,90,91,92,93,94,95,96,97,98,99,100,101,102,103,104,105,106,107,108,109,110,111,112,113,114,115,116,117,118,119,120,121,122,123,124,125,126,127,128,129,130,131,132,133,134,135,136,137,138,139,140,141,142,143,144,145,146,147,148,149,150,151,152,153,154,155,156,157,158,159,160,161,162,163,164,165,166,167,168,169,170,171,172,173,174,175,176,177,178]
abbrev xLd (s1 s2 s4 s5 s6 s8 s9 s10 s11 s12 s13 : AV) : List AV := [.any,s1,s2,.any,s4,s5,s6,.any,s8,s9,s10,s11,s12,s13,.any,.any,.any,.any,.any,.any,.any,.any,.any,.any,.any,.any,.any,.any,.any,.any,.any,.any,.any,.any,.any,.any,.any,.any,.any,.any,.any,.any,.any,.any,.any,.any,.any,.any,.any,.any,.any,.any,.any,.any,.any,.any,.any,.any,.any,.any,.any,.any,.any,.any,.any,.any,.any,.any,.any,.any,.any,.any,.any,.any,.any,.any,.any,.any,.any,.any,.any,.any,.any,.any,.any,.any,.any,.any,.any,.any,.any,.any,.any,.any,.any,.any,.any,.any,.any,.any,.any,.any,.any,.any,.any,.any,.any,.any,.any,.any,.any,.any,.any,.any,.any,.any,.any,.any,.any,.any,.any,.any,.any,.any,.any,.any,.any,.any,.any,.any,.any,.any,.any,.any,.any,.any,.any,.any,.any,.any,.any,.any,.any,.any,.any,.any,.any,.any,.any,.any,.any,.any,.any,.any,.any,.any,.any,.any,.any,.any,.any,.any,.any,.any,.any,.any,.any,.any,.any,.any,.any,.any,.any,.any,.any,.any,.any,.any,.any]
theorem xFk (s0 s1 s2 s3 s4 s5 s6 s7 s8 s9 s10 s11 s12 s13 s14 s15 s16 s17 s18 s19 s20 s21 s22 s23 s24 s25 s26 s27 s28 s29 s30 s31 s32 s33 s34 s35 s36 s37 s38 s39 s40 s41 s42 s43 s44 s45 s46 s47 s48 s49 s50 s51 s52 s53 s54 s55 s56 s57 s58 s59 s60 s61 s62 s63 s64 s65 s66 s67 s68 s69 s70 s71 s72 s73 s74 s75 s76 s77 s78 s79 s80 s81 s82 s83 s84 s85 s86 s87 s88 s89 s90 s91 s92 s93 s94 s95 s96 s97 s98 s99 s100 s101 s102 s103 s104 s105 s106 s107 s108 s109 s110 s111 s112 s113 s114 s115 s116 s117 s118 s119 s120 s121 s122 s123 s124 s125 s126 s127 s128 s129 s130 s131 s132 s133 s134 s135 s136 s137 s138 s139 s140 s141 s142 s143 s144 s145 s146 s147 s148 s149 s150 s151 s152 s153 s154 s155 s156 s157 s158 s159 s160 s161 s162 s163 s164 s165 s166 s167 s168 s169 s170 s171 s172 s173 s174 s175 s176 s177 s178 : AV) : xBs xLc [s0,s1,s2,s3,s4,s5,s6,s7,s8,s9,s10,s11,s12,s13,s14,s15,s16,s17,s18,s19,s20,s21,s22,s23,s24,s25,s26,s27,s28,s29,s30,s31,s32,s33,s34,s35,s36,s37,s38,s39,s40,s41,s42,s43,s44,s45,s46,s47,s48,s49,s50,s51,s52,s53,s54,s55,s56,s57,s58,s59,s60,s61,s62,s63,s64,s65,s66,s67,s68,s69,s70,s71,s72,s73,s74,s75,s76,s77,s78,s79,s80,s81,s82,s83,s84,s85,s86,s87,s88,s89,s90,s91,s92,s93,s94,s95,s96,s97,s98,s99,s100,s101,s102,s103,s104,s105,s106,s107,s108,s109,s110,s111,s112,s113,s114,s115,s116,s117,s118,s119,s120,s121,s122,s123,s124,s125,s126,s127,s128,s129,s130,s131,s132,s133,s134,s135,s136,s137,s138,s139,s140,s141,s142,s143,s144,s145,s146,s147,s148,s149,s150,s151,s152,s153,s154,s155,s156,s157,s158,s159,s160,s161,s162,s163,s164,s165,s166,s167,s168,s169,s170,s171,s172,s173,s174,s175,s176,s177,s178] = xLd s1 s2 s4 s5 s6 s8 s9 s10 s11 s12 s13 := by kernel_rfl
theorem xOl {prog : Nat → Option AFunc} (s1 s2 s4 s5 s6 s8 s9 s10 s11 s12 s13 : AV) (H : xAv) : (lim prog).loop xLc xTf ⟨xLd s1 s2 s4 s5 s6 s8 s9 s10 s11 s12 s13,H⟩ = xB9 (lim prog) xLc xTf (run (lim prog) xGA ⟨xLd s1 s2 s4 s5 s6 s8 s9 s10 s11 s12 s13,H⟩) := xAI _ _ _ _ (by kernel_rfl)

def xIf : ACode :=
 .seq (.seq (.region [⟨some 58,.mov (.t 12),none⟩,
 ⟨some 59,.bin .lss (.t 58) (.c (.int Go.IntKind.i64 2)),none⟩])
 (.cond (.t 59)
 (.skip)
 (.exit 4)))
 (.seq (.block 5 (.seq (.region [⟨some 13,.mov (.c (.int Go.IntKind.i64 0)),none⟩])
 (.block 6 (.loop xLc xTf))))
 (.region [⟨some 60,.mov (.t 12),none⟩,
 ⟨some 61,.bin .add (.t 60) (.c (.int Go.IntKind.i64 1)),none⟩,
 ⟨some 12,.mov (.t 61),none⟩]))

def xPt : ACode := xIf
def xIg : List Nat := [0,3,7,13,14,15,16,17,18,19,20,21,22,23,24,25,26,27,28,29,30,31,32,33,34,35,36,37,38,39,40,41,42,43,44,45,46,47,48,49,50,51,52,53,54,55,56,57,58,59,60,61,62,63,64,65,66,67,68,69,70,71,72,73,74,75,76,77,78,79,80,81,82,83,84,85,86,87,88,89,90,91,92,93,94,95,96,97,98,99,100,101,102,103,104,105,106,107,108,109,110,111,112,113,114,115,116,117,118,119,120,121,122,123,124,125,126,127,128,129,130,131,132,133,134,135,136,137,138,139,140,141,142,143,144,145,146,147,148,149,150,151,152,153,154,155,156,157,158,159,160,161,162,163,164,165,166,167,168,169,170,171,172,173,174,175,176,177,178]
abbrev xGB (s1 s2 s4 s5 s6 s8 s9 s10 s11 s12 : AV) : List AV := [.any,s1,s2,.any,s4,s5,s6,.any,s8,s9,s10,s11,s12,.any,.any,.any,.any,.any,.any,.any,.any,.any,.any,.any,.any,.any,.any,.any,.any,.any,.any,.any,.any,.any,.any,.any,.any,.any,.any,.any,.any,.any,.any,.any,.any,.any,.any,.any,.any,.any,.any,.any,.any,.any,.any,.any,.any,.any,.any,.any,.any,.any,.any,.any,.any,.any,.any,.any,.any,.any,.any,.any,.any,.any,.any,.any,.any,.any,.any,.any,.any,.any,.any,.any,.any,.any,.any,.any,.any,.any,.any,.any,.any,.any,.any,.any,.any,.any,.any,.any,.any,.any,.any,.any,.any,.any,.any,.any,.any,.any,.any,.any,.any,.any,.any,.any,.any,.any,.any,.any,.any,.any,.any,.any,.any,.any,.any,.any,.any,.any,.any,.any,.any,.any,.any,.any,.any,.any,.any,.any,.any,.any,.any,.any,.any,.any,.any,.any,.any,.any,.any,.any,.any,.any,.any,.any,.any,.any,.any,.any,.any,.any,.any,.any,.any,.any,.any,.any,.any,.any,.any,.any,.any,.any,.any,.any,.any,.any,.any]
theorem xIh (s0 s1 s2 s3 s4 s5 s6 s7 s8 s9 s10 s11 s12 s13 s14 s15 s16 s17 s18 s19 s20 s21 s22 s23 s24 s25 s26 s27 s28 s29 s30 s31 s32 s33 s34 s35 s36 s37 s38 s39 s40 s41 s42 s43 s44 s45 s46 s47 s48 s49 s50 s51 s52 s53 s54 s55 s56 s57 s58 s59 s60 s61 s62 s63 s64 s65 s66 s67 s68 s69 s70 s71 s72 s73 s74 s75 s76 s77 s78 s79 s80 s81 s82 s83 s84 s85 s86 s87 s88 s89 s90 s91 s92 s93 s94 s95 s96 s97 s98 s99 s100 s101 s102 s103 s104 s105 s106 s107 s108 s109 s110 s111 s112 s113 s114 s115 s116 s117 s118 s119 s120 s121 s122 s123 s124 s125 s126 s127 s128 s129 s130 s131 s132 s133 s134 s135 s136 s137 s138 s139 s140 s141 s142 s143 s144 s145 s146 s147 s148 s149 s150 s151 s152 s153 s154 s155 s156 s157 s158 s159 s160 s161 s162 s163 s164 s165 s166 s167 s168 s169 s170 s171 s172 s173 s174 s175 s176 s177 s178 : AV) : xBs xIg [s0,s1,s2,s3,s4,s5,s6,s7,s8,s9,s10,s11,s12,s13,s14,s15,s16,s17,s18,s19,s20,s21,s22,s23,s24,s25,s26,s27,s28,s29,s30,s31,s32,s33,s34,s35,s36,s37,s38,s39,s40,s41,s42,s43,s44,s45,s46,s47,s48,s49,s50,s51,s52,s53,s54,s55,s56,s57,s58,s59,s60,s61,s62,s63,s64,s65,s66,s67,s68,s69,s70,s71,s72,s73,s74,s75,s76,s77,s78,s79,s80,s81,s82,s83,s84,s85,s86,s87,s88,s89,s90,s91,s92,s93,s94,s95,s96,s97,s98,s99,s100,s101,s102,s103,s104,s105,s106,s107,s108,s109,s110,s111,s112,s113,s114,s115,s116,s117,s118,s119,s120,s121,s122,s123,s124,s125,s126,s127,s128,s129,s130,s131,s132,s133,s134,s135,s136,s137,s138,s139,s140,s141,s142,s143,s144,s145,s146,s147,s148,s149,s150,s151,s152,s153,s154,s155,s156,s157,s158,s159,s160,s161,s162,s163,s164,s165,s166,s167,s168,s169,s170,s171,s172,s173,s174,s175,s176,s177,s178] = xGB s1 s2 s4 s5 s6 s8 s9 s10 s11 s12 := by kernel_rfl
theorem xLe {prog : Nat → Option AFunc} (s1 s2 s4 s5 s6 s8 s9 s10 s11 s12 : AV) (H : xAv) : (lim prog).loop xIg xPt ⟨xGB s1 s2 s4 s5 s6 s8 s9 s10 s11 s12,H⟩ = xB9 (lim prog) xIg xPt (run (lim prog) xIf ⟨xGB s1 s2 s4 s5 s6 s8 s9 s10 s11 s12,H⟩) := xAI _ _ _ _ (by kernel_rfl)

def xLf : ACode :=
 .seq (.seq (.region [⟨some 46,.mov (.t 10),none⟩,
 ⟨some 47,.mov (.t 9),none⟩,
 ⟨some 48,.bin .leq (.t 46) (.t 47),none⟩])
 (.cond (.t 48)
 (.skip)
 (.exit 2)))
 (.seq (.block 3 (.seq (.region [⟨some 51,.mov (.t 10),none⟩,
 ⟨some 52,.mov (.t 9),none⟩,
 ⟨some 53,.build [.int Go.IntKind.i64 0,.int Go.IntKind.i64 0] [(0,1,(.t 51)),(1,1,(.t 52))],none⟩,
 ⟨some 54,.mov (.t 9),none⟩,
 ⟨some 55,.mov (.t 10),none⟩,
 ⟨some 56,.build [.int Go.IntKind.i64 0,.int Go.IntKind.i64 0] [(0,1,(.t 54)),(1,1,(.t 55))],none⟩,
 ⟨some 57,.bslice true [.int Go.IntKind.i64 0,.int Go.IntKind.i64 0] 2 2 [(0,(.t 53)),(1,(.t 56))],none⟩,
 ⟨some 11,.mov (.t 57),none⟩])
 (.seq (.region [⟨some 12,.mov (.c (.int Go.IntKind.i64 0)),none⟩])
 (.block 4 (.loop xIg xPt)))))
 (.region [⟨some 49,.mov (.t 10),none⟩,
 ⟨some 50,.bin .add (.t 49) (.c (.int Go.IntKind.i64 1)),none⟩,
 ⟨some 10,.mov (.t 50),none⟩]))

def xTg : ACode := xLf
def xLg : List Nat := [0,3,7,11,12,13,14,15,16,17,18,19,20,21,22,23,24,25,26,27,28,29,30,31,32,33,34,35,36,37,38,39,40,41,42,43,44,45,46,47,48,49,50,51,52,53,54,55,56,57,58,59,60,61,62,63,64,65,66,67,68,69,70,71,72,73,74,75,76,77,78,79,80,81,82,83,84,85,86,87,88,89,90,91,92,93,94,95,96,97,98,99,100,101,102,103,104,105,106,107,108,109,110,111,112,113,114,115,116,117,118,119,120,121,122,123,124,125,126,127,128,129,130,131,132,133,134,135,136,137,138,139,140,141,142,143,144,145,146,147,148,149,150,151,152,153,154,155,156,157,158,159,160,161,162,163,164,165,166,167,168,169,170,171,172,173,174,175,176,177,178]
abbrev xLh (s1 s2 s4 s5 s6 s8 s9 s10 : AV) : List AV := [.any,s1,s2,.any,s4,s5,s6,.any,s8,s9,s10,.any,.any,.any,.any,.any,.any,.any,.any,.any,.any,.any,.any,.any,.any,.any,.any,.any,.any,.any,.any,.any,.any,.any,.any,.any,.any,.any,.any,.any,.any,.any,.any,.any,.any,.any,.any,.any,.any,.any,.any,.any,.any,.any,.any,.any,.any,.any,.any,.any,.any,.any,.any,.any,.any,.any,.any,.any,.any,.any,.any,.any,.any,.any,.any,.any,.any,.any,.any,.any,.any,.any,.any,.any,.any,.any,.any,.any,.any,.any,.any,.any,.any,.any,.any,.any,.any,.any,.any,.any,.any,.any,.any,.any,.any,.any,.any,.any,.any,.any,.any,.any,.any,.any,.any,.any,.any,.any,.any,.any,.any,.any,.any,.any,.any,.any,.any,.any,.any,.any,.any,.any,.any,.any,.any,.any,.any,.any,.any,.any,.any,.any,.any,.any,.any,.any,.any,.any,.any,.any,.any,.any,.any,.any,.any,.any,.any,.any,.any,.any,.any,.any,.any,.any,.any,.any,.any,.any,.any,.any,.any,.any,.any,.any,.any,.any,.any,.any,.any]
theorem xLi (s0 s1 s2 s3 s4 s5 s6 s7 s8 s9 s10 s11 s12 s13 s14 s15 s16 s17 s18 s19 s20 s21 s22 s23 s24 s25 s26 s27 s28 s29 s30 s31 s32 s33 s34 s35 s36 s37 s38 s39 s40 s41 s42 s43 s44 s45 s46 s47 s48 s49 s50 s51 s52 s53 s54 s55 s56 s57 s58 s59 s60 s61 s62 s63 s64 s65 s66 s67 s68 s69 s70 s71 s72 s73 s74 s75 s76 s77 s78 s79 s80 s81 s82 s83 s84 s85 s86 s87 s88 s89 s90 s91 s92 s93 s94 s95 s96 s97 s98 s99 s100 s101 s102 s103 s104 s105 s106 s107 s108 s109 s110 s111 s112 s113 s114 s115 s116 s117 s118 s119 s120 s121 s122 s123 s124 s125 s126 s127 s128 s129 s130 s131 s132 s133 s134 s135 s136 s137 s138 s139 s140 s141 s142 s143 s144 s145 s146 s147 s148 s149 s150 s151 s152 s153 s154 s155 s156 s157 s158 s159 s160 s161 s162 s163 s164 s165 s166 s167 s168 s169 s170 s171 s172 s173 s174 s175 s176 s177 s178 : AV) : xBs xLg [s0,s1,s2,s3,s4,s5,s6,s7,s8,s9,s10,s11,s12,s13,s14,s15,s16,s17,s18,s19,s20,s21,s22,s23,s24,s25,s26,s27,s28,s29,s30,s31,s32,s33,s34,s35,s36,s37,s38,s39,s40,s41,s42,s43,s44,s45,s46,s47,s48,s49,s50,s51,s52,s53,s54,s55,s56,s57,s58,s59,s60,s61,s62,s63,s64,s65,s66,s67,s68,s69,s70,s71,s72,s73,s74,s75,s76,s77,s78,s79,s80,s81,s82,s83,s84,s85,s86,s87,s88,s89,s90,s91,s92,s93,s94,s95,s96,s97,s98,s99,s100,s101,s102,s103,s104,s105,s106,s107,s108,s109,s110,s111,s112,s113,s114,s115,s116,s117,s118,s119,s120,s121,s122,s123,s124,s125,s126,s127,s128,s129,s130,s131,s132,s133,s134,s135,s136,s137,s138,s139,s140,s141,s142,s143,s144,s145,s146,s147,s148,s149,s150,s151,s152,s153,s154,s155,s156,s157,s158,s159,s160,s161,s162,s163,s164,s165,s166,s167,s168,s169,s170,s171,s172,s173,s174,s175,s176,s177,s178] = xLh s1 s2 s4 s5 s6 s8 s9 s10 := by kernel_rfl
theorem xQA {prog : Nat → Option AFunc} (s1 s2 s4 s5 s6 s8 s9 s10 : AV) (H : xAv) : (lim prog).loop xLg xTg ⟨xLh s1 s2 s4 s5 s6 s8 s9 s10,H⟩ = xB9 (lim prog) xLg xTg (run (lim prog) xLf ⟨xLh s1 s2 s4 s5 s6 s8 s9 s10,H⟩) := xAI _ _ _ _ (by kernel_rfl)

def xLj : ACode :=
 .seq (.seq (.region [⟨some 40,.mov (.t 9),none⟩,
 ⟨some 41,.mov (.t 8),none⟩,
 ⟨some 42,.len (.t 41),none⟩,
 ⟨some 43,.bin .lss (.t 40) (.t 42),none⟩])
 (.cond (.t 43)
 (.skip)
 (.exit 0)))
 (.seq (.block 1 (.seq (.region [⟨some 10,.mov (.c (.int Go.IntKind.i64 0)),none⟩])
 (.block 2 (.loop xLg xTg))))
 (.region [⟨some 44,.mov (.t 9),none⟩,
 ⟨some 45,.bin .add (.t 44) (.c (.int Go.IntKind.i64 1)),none⟩,
 ⟨some 9,.mov (.t 45),none⟩]))

def xPu : ACode := xLj
def xIi : List Nat := [0,3,7,10,11,12,13,14,15,16,17,18,19,20,21,22,23,24,25,26,27,28,29,30,31,32,33,34,35,36,37,38,39,40,41,42,43,44,45,46,47,48,49,50,51,52,53,54,55,56,57,58,59,60,61,62,63,64,65,66,67,68,69,70,71,72,73,74,75,76,77,78,79,80,81,82,83,84,85,86,87,88,89,90,91,92,93,94,95,96,97,98,99,100,101,102,103,104,105,106,107,108,109,110,111,112,113,114,115,116,117,118,119,120,121,122,123,124,125,126,127,128,129,130,131,132,133,134,135,136,137,138,139,140,141,142,143,144,145,146,147,148,149,150,151,152,153,154,155,156,157,158,159,160,161,162,163,164,165,166,167,168,169,170,171,172,173,174,175,176,177,178]
abbrev xGC (s1 s2 s4 s5 s6 s8 s9 : AV) : List AV := [.any,s1,s2,.any,s4,s5,s6,.any,s8,s9,.any,.any,.any,.any,.any,.any,.any,.any,.any,.any,.any,.any,.any,.any,.any,.any,.any,.any,.any,.any,.any,.any,.any,.any,.any,.any,.any,.any,.any,.any,.any,.any,.any,.any,.any,.any,.any,.any,.any,.any,.any,.any,.any,.any,.any,.any,.any,.any,.any,.any,.any,.any,.any,.any,.any,.any,.any,.any,.any,.any,.any,.any,.any,.any,.any,.any,.any,.any,.any,.any,.any,.any,.any,.any,.any,.any,.any,.any,.any,.any,.any,.any,.any,.any,.any,.any,.any,.any,.any,.any,.any,.any,.any,.any,.any,.any,.any,.any,.any,.any,.any,.any,.any,.any,.any,.any,.any,.any,.any,.any,.any,.any,.any,.any,.any,.any,.any,.any,.any,.any,.any,.any,.any,.any,.any,.any,.any,.any,.any,.any,.any,.any,.any,.any,.any,.any,.any,.any,.any,.any,.any,.any,.any,.any,.any,.any,.any,.any,.any,.any,.any,.any,.any,.any,.any,.any,.any,.any,.any,.any,.any,.any,.any,.any,.any,.any,.any,.any,.any]
theorem xLk (s0 s1 s2 s3 s4 s5 s6 s7 s8 s9 s10 s11 s12 s13 s14 s15 s16 s17 s18 s19 s20 s21 s22 s23 s24 s25 s26 s27 s28 s29 s30 s31 s32 s33 s34 s35 s36 s37 s38 s39 s40 s41 s42 s43 s44 s45 s46 s47 s48 s49 s50 s51 s52 s53 s54 s55 s56 s57 s58 s59 s60 s61 s62 s63 s64 s65 s66 s67 s68 s69 s70 s71 s72 s73 s74 s75 s76 s77 s78 s79 s80 s81 s82 s83 s84 s85 s86 s87 s88 s89 s90 s91 s92 s93 s94 s95 s96 s97 s98 s99 s100 s101 s102 s103 s104 s105 s106 s107 s108 s109 s110 s111 s112 s113 s114 s115 s116 s117 s118 s119 s120 s121 s122 s123 s124 s125 s126 s127 s128 s129 s130 s131 s132 s133 s134 s135 s136 s137 s138 s139 s140 s141 s142 s143 s144 s145 s146 s147 s148 s149 s150 s151 s152 s153 s154 s155 s156 s157 s158 s159 s160 s161 s162 s163 s164 s165 s166 s167 s168 s169 s170 s171 s172 s173 s174 s175 s176 s177 s178 : AV) : xBs xIi [s0,s1,s2,s3,s4,s5,s6,s7,s8,s9,s10,s11,s12,s13,s14,s15,s16,s17,s18,s19,s20,s21,s22,s23,s24,s25,s26,s27,s28,s29,s30,s31,s32,s33,s34,s35,s36,s37,s38,s39,s40,s41,s42,s43,s44,s45,s46,s47,s48,s49,s50,s51,s52,s53,s54,s55,s56,s57,s58,s59,s60,s61,s62,s63,s64,s65,s66,s67,s68,s69,s70,s71,s72,s73,s74,s75,s76,s77,s78,s79,s80,s81,s82,s83,s84,s85,s86,s87,s88,s89,s90,s91,s92,s93,s94,s95,s96,s97,s98,s99,s100,s101,s102,s103,s104,s105,s106,s107,s108,s109,s110,s111,s112,s113,s114,s115,s116,s117,s118,s119,s120,s121,s122,s123,s124,s125,s126,s127,s128,s129,s130,s131,s132,s133,s134,s135,s136,s137,s138,s139,s140,s141,s142,s143,s144,s145,s146,s147,s148,s149,s150,s151,s152,s153,s154,s155,s156,s157,s158,s159,s160,s161,s162,s163,s164,s165,s166,s167,s168,s169,s170,s171,s172,s173,s174,s175,s176,s177,s178] = xGC s1 s2 s4 s5 s6 s8 s9 := by kernel_rfl
theorem xQB {prog : Nat → Option AFunc} (s1 s2 s4 s5 s6 s8 s9 : AV) (H : xAv) : (lim prog).loop xIi xPu ⟨xGC s1 s2 s4 s5 s6 s8 s9,H⟩ = xB9 (lim prog) xIi xPu (run (lim prog) xLj ⟨xGC s1 s2 s4 s5 s6 s8 s9,H⟩) := xAI _ _ _ _ (by kernel_rfl)

def xOm : ACode :=
 .seq (.seq (.region [⟨some 117,.mov (.t 20),none⟩,
 ⟨some 118,.faddr 0 (.t 2),none⟩,
 ⟨some 119,.load false 1 (.t 118),none⟩,
 ⟨some 120,.bin .shl (.c (.int Go.IntKind.i64 1)) (.t 119),none⟩,
 ⟨some 121,.bin .lss (.t 117) (.t 120),none⟩])
 (.cond (.t 121)
 (.skip)
 (.exit 12)))
 (.seq (.block 13 (.draw 11 [⟨some 124,.mov (.t 19),none⟩,
 ⟨some 125,.mov (.t 8),none⟩,
 ⟨some 126,.load true 5 (.t 2),none⟩,
 ⟨some 127,.mov (.t 8),none⟩,
 ⟨some 128,.mov (.t 16),none⟩,
 ⟨some 129,.iaddr 1 (.t 127) (.t 128),none⟩,
 ⟨some 130,.load false 1 (.t 129),none⟩,
 ⟨some 131,.mov (.t 8),none⟩,
 ⟨some 132,.mov (.t 18),none⟩,
 ⟨some 133,.iaddr 1 (.t 131) (.t 132),none⟩,
 ⟨some 134,.load false 1 (.t 133),none⟩,
 ⟨some 135,.mov (.t 20),none⟩,
 ⟨some 136,.conv Go.IntKind.u8 (.t 135),none⟩,
 ⟨some 137,.call 83 [(.t 126),(.t 130),(.t 134),(.t 136)],none⟩,
 ⟨some 138,.call 84 [(.t 125),(.t 137)],none⟩,
 ⟨some 139,.bslice true [.int Go.IntKind.i64 0] 1 1 [(0,(.t 138))],none⟩,
 ⟨some 140,.append false 1 8 (.t 124) (.t 139),none⟩,
 ⟨some 19,.mov (.t 140),none⟩]))
 (.region [⟨some 122,.mov (.t 20),none⟩,
 ⟨some 123,.bin .add (.t 122) (.c (.int Go.IntKind.i64 1)),none⟩,
 ⟨some 20,.mov (.t 123),none⟩]))

def xTh : ACode := xOm
def xLl : List Nat := [0,1,3,5,6,7,9,10,11,12,13,14,21,22,23,24,25,26,27,28,29,30,31,32,33,34,35,36,37,38,39,40,41,42,43,44,45,46,47,48,49,50,51,52,53,54,55,56,57,58,59,60,61,62,63,64,65,66,67,68,69,70,71,72,73,74,75,76,77,78,79,80,81,82,83,84,85,86,87,88,89,90,91,92,93,94,95,96,97,98,99,100,101,102,103,104,105,106,107,108,109,110,111,112,113,114,115,116,117,118,119,120,121,122,123,124,125,126,127,128,129,130,131,132,133,134,135,136,137,138,139,140,141,142,143,144,145,146,147,148,149,150,151,152,153,154,155,156,157,158,159,160,161,162,163,164,165,166,167,168,169,170,171,172,173,174,175,176,177,178]
abbrev xLm (s2 s4 s8 s15 s16 s17 s18 s19 s20 : AV) : List AV := [.any,.any,s2,.any,s4,.any,.any,.any,s8,.any,.any,.any,.any,.any,.any,s15,s16,s17,s18,s19,s20,.any,.any,.any,.any,.any,.any,.any,.any,.any,.any,.any,.any,.any,.any,.any,.any,.any,.any,.any,.any,.any,.any,.any,.any,.any,.any,.any,.any,.any,.any,.any,.any,.any,.any,.any,.any,.any,.any,.any,.any,.any,.any,.any,.any,.any,.any,.any,.any,.any,.any,.any,.any,.any,.any,.any,.any,.any,.any,.any,.any,.any,.any,.any,.any,.any,.any,.any,.any,.any,.any,.any,.any,.any,.any,.any,.any,.any,.any,.any,.any,.any,.any,.any,.any,.any,.any,.any,.any,.any,.any,.any,.any,.any,.any,.any,.any,.any,.any,.any,.any,.any,.any,.any,.any,.any,.any,.any,.any,.any,.any,.any,.any,.any,.any,.any,.any,.any,.any,.any,.any,.any,.any,.any,.any,.any,.any,.any,.any,.any,.any,.any,.any,.any,.any,.any,.any,.any,.any,.any,.any,.any,.any,.any,.any,.any,.any,.any,.any,.any,.any,.any,.any,.any,.any,.any,.any,.any,.any]
theorem xQC (s0 s1 s2 s3 s4 s5 s6 s7 s8 s9 s10 s11 s12 s13 s14 s15 s16 s17 s18 s19 s20 s21 s22 s23 s24 s25 s26 s27 s28 s29 s30 s31 s32 s33 s34 s35 s36 s37 s38 s39 s40 s41 s42 s43 s44 s45 s46 s47 s48 s49 s50 s51 s52 s53 s54 s55 s56 s57 s58 s59 s60 s61 s62 s63 s64 s65 s66 s67 s68 s69 s70 s71 s72 s73 s74 s75 s76 s77 s78 s79 s80 s81 s82 s83 s84 s85 s86 s87 s88 s89 s90 s91 s92 s93 s94 s95 s96 s97 s98 s99 s100 s101 s102 s103 s104 s105 s106 s107 s108 s109 s110 s111 s112 s113 s114 s115 s116 s117 s118 s119 s120 s121 s122 s123 s124 s125 s126 s127 s128 s129 s130 s131 s132 s133 s134 s135 s136 s137 s138 s139 s140 s141 s142 s143 s144 s145 s146 s147 s148 s149 s150 s151 s152 s153 s154 s155 s156 s157 s158 s159 s160 s161 s162 s163 s164 s165 s166 s167 s168 s169 s170 s171 s172 s173 s174 s175 s176 s177 s178 : AV) : xBs xLl [s0,s1,s2,s3,s4,s5,s6,s7,s8,s9,s10,s11,s12,s13,s14,s15,s16,s17,s18,s19,s20,s21,s22,s23,s24,s25,s26,s27,s28,s29,s30,s31,s32,s33,s34,s35,s36,s37,s38,s39,s40,s41,s42,s43,s44,s45,s46,s47,s48,s49,s50,s51,s52,s53,s54,s55,s56,s57,s58,s59,s60,s61,s62,s63,s64,s65,s66,s67,s68,s69,s70,s71,s72,s73,s74,s75,s76,s77,s78,s79,s80,s81,s82,s83,s84,s85,s86,s87,s88,s89,s90,s91,s92,s93,s94,s95,s96,s97,s98,s99,s100,s101,s102,s103,s104,s105,s106,s107,s108,s109,s110,s111,s112,s113,s114,s115,s116,s117,s118,s119,s120,s121,s122,s123,s124,s125,s126,s127,s128,s129,s130,s131,s132,s133,s134,s135,s136,s137,s138,s139,s140,s141,s142,s143,s144,s145,s146,s147,s148,s149,s150,s151,s152,s153,s154,s155,s156,s157,s158,s159,s160,s161,s162,s163,s164,s165,s166,s167,s168,s169,s170,s171,s172,s173,s174,s175,s176,s177,s178] = xLm s2 s4 s8 s15 s16 s17 s18 s19 s20 := by kernel_rfl
theorem xU3 {prog : Nat → Option AFunc} (s2 s4 s8 s15 s16 s17 s18 s19 s20 : AV) (H : xAv) : (lim prog).loop xLl xTh ⟨xLm s2 s4 s8 s15 s16 s17 s18 s19 s20,H⟩ = xB9 (lim prog) xLl xTh (run (lim prog) xOm ⟨xLm s2 s4 s8 s15 s16 s17 s18 s19 s20,H⟩) := xAI _ _ _ _ (by kernel_rfl)

def xOn : ACode :=
 .seq (.seq (.region [⟨some 111,.mov (.t 18),none⟩,
 ⟨some 112,.mov (.t 8),none⟩,
 ⟨some 113,.len (.t 112),none⟩,
 ⟨some 114,.bin .lss (.t 111) (.t 113),none⟩])
 (.cond (.t 114)
 (.skip)
 (.exit 10)))
 (.seq (.block 11 (.seq (.region [⟨some 19,.mov (.c (.sl true 0 [])),none⟩])
 (.seq (.seq (.region [⟨some 20,.mov (.c (.int Go.IntKind.i64 0)),none⟩])
 (.block 12 (.loop xLl xTh)))
 (.fzs 19 (.region [⟨some 141,.mov (.t 17),none⟩,
 ⟨some 142,.mov (.t 19),none⟩,
 ⟨some 143,.bslice true [.sl true 0 []] 1 1 [(0,(.t 142))],none⟩,
 ⟨some 144,.append false 1 24 (.t 141) (.t 143),none⟩,
 ⟨some 17,.mov (.t 144),none⟩])))))
 (.region [⟨some 115,.mov (.t 18),none⟩,
 ⟨some 116,.bin .add (.t 115) (.c (.int Go.IntKind.i64 1)),none⟩,
 ⟨some 18,.mov (.t 116),none⟩]))

def xTi : ACode := xOn
def xLn : List Nat := [0,1,3,5,6,7,9,10,11,12,13,14,19,20,21,22,23,24,25,26,27,28,29,30,31,32,33,34,35,36,37,38,39,40,41,42,43,44,45,46,47,48,49,50,51,52,53,54,55,56,57,58,59,60,61,62,63,64,65,66,67,68,69,70,71,72,73,74,75,76,77,78,79,80,81,82,83,84,85,86,87,88,89,90,91,92,93,94,95,96,97,98,99,100,101,102,103,104,105,106,107,108,109,110,111,112,113,114,115,116,117,118,119,120,121,122,123,124,125,126,127,128,129,130,131,132,133,134,135,136,137,138,139,140,141,142,143,144,145,146,147,148,149,150,151,152,153,154,155,156,157,158,159,160,161,162,163,164,165,166,167,168,169,170,171,172,173,174,175,176,177,178]
abbrev xLo (s2 s4 s8 s15 s16 s17 s18 : AV) : List AV := [.any,.any,s2,.any,s4,.any,.any,.any,s8,.any,.any,.any,.any,.any,.any,s15,s16,s17,s18,.any,.any,.any,.any,.any,.any,.any,.any,.any,.any,.any,.any,.any,.any,.any,.any,.any,.any,.any,.any,.any,.any,.any,.any,.any,.any,.any,.any,.any,.any,.any,.any,.any,.any,.any,.any,.any,.any,.any,.any,.any,.any,.any,.any,.any,.any,.any,.any,.any,.any,.any,.any,.any,.any,.any,.any,.any,.any,.any,.any,.any,.any,.any,.any,.any,.any,.any,.any,.any,.any,.any,.any,.any,.any,.any,.any,.any,.any,.any,.any,.any,.any,.any,.any,.any,.any,.any,.any,.any,.any,.any,.any,.any,.any,.any,.any,.any,.any,.any,.any,.any,.any,.any,.any,.any,.any,.any,.any,.any,.any,.any,.any,.any,.any,.any,.any,.any,.any,.any,.any,.any,.any,.any,.any,.any,.any,.any,.any,.any,.any,.any,.any,.any,.any,.any,.any,.any,.any,.any,.any,.any,.any,.any,.any,.any,.any,.any,.any,.any,.any,.any,.any,.any,.any,.any,.any,.any,.any,.any,.any]
theorem xQD (s0 s1 s2 s3 s4 s5 s6 s7 s8 s9 s10 s11 s12 s13 s14 s15 s16 s17 s18 s19 s20 s21 s22 s23 s24 s25 s26 s27 s28 s29 s30 s31 s32 s33 s34 s35 s36 s37 s38 s39 s40 s41 s42 s43 s44 s45 s46 s47 s48 s49 s50 s51 s52 s53 s54 s55 s56 s57 s58 s59 s60 s61 s62 s63 s64 s65 s66 s67 s68 s69 s70 s71 s72 s73 s74 s75 s76 s77 s78 s79 s80 s81 s82 s83 s84 s85 s86 s87 s88 s89 s90 s91 s92 s93 s94 s95 s96 s97 s98 s99 s100 s101 s102 s103 s104 s105 s106 s107 s108 s109 s110 s111 s112 s113 s114 s115 s116 s117 s118 s119 s120 s121 s122 s123 s124 s125 s126 s127 s128 s129 s130 s131 s132 s133 s134 s135 s136 s137 s138 s139 s140 s141 s142 s143 s144 s145 s146 s147 s148 s149 s150 s151 s152 s153 s154 s155 s156 s157 s158 s159 s160 s161 s162 s163 s164 s165 s166 s167 s168 s169 s170 s171 s172 s173 s174 s175 s176 s177 s178 : AV) : xBs xLn [s0,s1,s2,s3,s4,s5,s6,s7,s8,s9,s10,s11,s12,s13,s14,s15,s16,s17,s18,s19,s20,s21,s22,s23,s24,s25,s26,s27,s28,s29,s30,s31,s32,s33,s34,s35,s36,s37,s38,s39,s40,s41,s42,s43,s44,s45,s46,s47,s48,s49,s50,s51,s52,s53,s54,s55,s56,s57,s58,s59,s60,s61,s62,s63,s64,s65,s66,s67,s68,s69,s70,s71,s72,s73,s74,s75,s76,s77,s78,s79,s80,s81,s82,s83,s84,s85,s86,s87,s88,s89,s90,s91,s92,s93,s94,s95,s96,s97,s98,s99,s100,s101,s102,s103,s104,s105,s106,s107,s108,s109,s110,s111,s112,s113,s114,s115,s116,s117,s118,s119,s120,s121,s122,s123,s124,s125,s126,s127,s128,s129,s130,s131,s132,s133,s134,s135,s136,s137,s138,s139,s140,s141,s142,s143,s144,s145,s146,s147,s148,s149,s150,s151,s152,s153,s154,s155,s156,s157,s158,s159,s160,s161,s162,s163,s164,s165,s166,s167,s168,s169,s170,s171,s172,s173,s174,s175,s176,s177,s178] = xLo s2 s4 s8 s15 s16 s17 s18 := by kernel_rfl
theorem xU4 {prog : Nat → Option AFunc} (s2 s4 s8 s15 s16 s17 s18 : AV) (H : xAv) : (lim prog).loop xLn xTi ⟨xLo s2 s4 s8 s15 s16 s17 s18,H⟩ = xB9 (lim prog) xLn xTi (run (lim prog) xOn ⟨xLo s2 s4 s8 s15 s16 s17 s18,H⟩) := xAI _ _ _ _ (by kernel_rfl)

def xLp : ACode :=
 .seq (.seq (.region [⟨some 151,.mov (.t 22),none⟩,
 ⟨some 152,.faddr 3 (.t 2),none⟩,
 ⟨some 153,.load false 1 (.t 152),none⟩,
 ⟨some 154,.len (.t 153),none⟩,
 ⟨some 155,.bin .lss (.t 151) (.t 154),none⟩])
 (.cond (.t 155)
 (.skip)
 (.exit 14)))
 (.seq (.block 15 (.draw 11 [⟨some 158,.mov (.t 21),none⟩,
 ⟨some 159,.mov (.t 158),none⟩,
 ⟨some 160,.mov (.t 8),some (159,false)⟩,
 ⟨some 161,.mov (.t 16),some (159,false)⟩,
 ⟨some 162,.iaddr 1 (.t 160) (.t 161),some (159,false)⟩,
 ⟨some 163,.load false 1 (.t 162),some (159,false)⟩,
 ⟨some 164,.faddr 3 (.t 2),some (159,false)⟩,
 ⟨some 165,.load false 1 (.t 164),some (159,false)⟩,
 ⟨some 166,.mov (.t 22),some (159,false)⟩,
 ⟨some 167,.iaddr 1 (.t 165) (.t 166),some (159,false)⟩,
 ⟨some 168,.load false 1 (.t 167),some (159,false)⟩,
 ⟨some 169,.call 85 [(.t 163),(.t 168)],some (159,false)⟩,
 ⟨some 170,.pick (.t 159) (.c (.bool true)) (.t 169),none⟩,
 ⟨some 21,.mov (.t 170),none⟩]))
 (.region [⟨some 156,.mov (.t 22),none⟩,
 ⟨some 157,.bin .add (.t 156) (.c (.int Go.IntKind.i64 1)),none⟩,
 ⟨some 22,.mov (.t 157),none⟩]))

def xTj : ACode := xLp
def xLq : List Nat := [0,1,3,5,6,7,9,10,11,12,13,14,17,18,19,20,23,24,25,26,27,28,29,30,31,32,33,34,35,36,37,38,39,40,41,42,43,44,45,46,47,48,49,50,51,52,53,54,55,56,57,58,59,60,61,62,63,64,65,66,67,68,69,70,71,72,73,74,75,76,77,78,79,80,81,82,83,84,85,86,87,88,89,90,91,92,93,94,95,96,97,98,99,100,101,102,103,104,105,106,107,108,109,110,111,112,113,114,115,116,117,118,119,120,121,122,123,124,125,126,127,128,129,130,131,132,133,134,135,136,137,138,139,140,141,142,143,144,145,146,147,148,149,150,151,152,153,154,155,156,157,158,159,160,161,162,163,164,165,166,167,168,169,170,171,172,173,174,175,176,177,178]
abbrev xLr (s2 s4 s8 s15 s16 s21 s22 : AV) : List AV := [.any,.any,s2,.any,s4,.any,.any,.any,s8,.any,.any,.any,.any,.any,.any,s15,s16,.any,.any,.any,.any,s21,s22,.any,.any,.any,.any,.any,.any,.any,.any,.any,.any,.any,.any,.any,.any,.any,.any,.any,.any,.any,.any,.any,.any,.any,.any,.any,.any,.any,.any,.any,.any,.any,.any,.any,.any,.any,.any,.any,.any,.any,.any,.any,.any,.any,.any,.any,.any,.any,.any,.any,.any,.any,.any,.any,.any,.any,.any,.any,.any,.any,.any,.any,.any,.any,.any,.any,.any,.any,.any,.any,.any,.any,.any,.any,.any,.any,.any,.any,.any,.any,.any,.any,.any,.any,.any,.any,.any,.any,.any,.any,.any,.any,.any,.any,.any,.any,.any,.any,.any,.any,.any,.any,.any,.any,.any,.any,.any,.any,.any,.any,.any,.any,.any,.any,.any,.any,.any,.any,.any,.any,.any,.any,.any,.any,.any,.any,.any,.any,.any,.any,.any,.any,.any,.any,.any,.any,.any,.any,.any,.any,.any,.any,.any,.any,.any,.any,.any,.any,.any,.any,.any,.any,.any,.any,.any,.any,.any]
theorem xOo (s0 s1 s2 s3 s4 s5 s6 s7 s8 s9 s10 s11 s12 s13 s14 s15 s16 s17 s18 s19 s20 s21 s22 s23 s24 s25 s26 s27 s28 s29 s30 s31 s32 s33 s34 s35 s36 s37 s38 s39 s40 s41 s42 s43 s44 s45 s46 s47 s48 s49 s50 s51 s52 s53 s54 s55 s56 s57 s58 s59 s60 s61 s62 s63 s64 s65 s66 s67 s68 s69 s70 s71 s72 s73 s74 s75 s76 s77 s78 s79 s80 s81 s82 s83 s84 s85 s86 s87 s88 s89 s90 s91 s92 s93 s94 s95 s96 s97 s98 s99 s100 s101 s102 s103 s104 s105 s106 s107 s108 s109 s110 s111 s112 s113 s114 s115 s116 s117 s118 s119 s120 s121 s122 s123 s124 s125 s126 s127 s128 s129 s130 s131 s132 s133 s134 s135 s136 s137 s138 s139 s140 s141 s142 s143 s144 s145 s146 s147 s148 s149 s150 s151 s152 s153 s154 s155 s156 s157 s158 s159 s160 s161 s162 s163 s164 s165 s166 s167 s168 s169 s170 s171 s172 s173 s174 s175 s176 s177 s178 : AV) : xBs xLq [s0,s1,s2,s3,s4,s5,s6,s7,s8,s9,s10,s11,s12,s13,s14,s15,s16,s17,s18,s19,s20,s21,s22,s23,s24,s25,s26,s27,s28,s29,s30,s31,s32,s33,s34,s35,s36,s37,s38,s39,s40,s41,s42,s43,s44,s45,s46,s47,s48,s49,s50,s51,s52,s53,s54,s55,s56,s57,s58,s59,s60,s61,s62,s63,s64,s65,s66,s67,s68,s69,s70,s71,s72,s73,s74,s75,s76,s77,s78,s79,s80,s81,s82,s83,s84,s85,s86,s87,s88,s89,s90,s91,s92,s93,s94,s95,s96,s97,s98,s99,s100,s101,s102,s103,s104,s105,s106,s107,s108,s109,s110,s111,s112,s113,s114,s115,s116,s117,s118,s119,s120,s121,s122,s123,s124,s125,s126,s127,s128,s129,s130,s131,s132,s133,s134,s135,s136,s137,s138,s139,s140,s141,s142,s143,s144,s145,s146,s147,s148,s149,s150,s151,s152,s153,s154,s155,s156,s157,s158,s159,s160,s161,s162,s163,s164,s165,s166,s167,s168,s169,s170,s171,s172,s173,s174,s175,s176,s177,s178] = xLr s2 s4 s8 s15 s16 s21 s22 := by kernel_rfl
theorem xQE {prog : Nat → Option AFunc} (s2 s4 s8 s15 s16 s21 s22 : AV) (H : xAv) : (lim prog).loop xLq xTj ⟨xLr s2 s4 s8 s15 s16 s21 s22,H⟩ = xB9 (lim prog) xLq xTj (run (lim prog) xLp ⟨xLr s2 s4 s8 s15 s16 s21 s22,H⟩) := xAI _ _ _ _ (by kernel_rfl)

def xOp : ACode :=
 .seq (.seq (.region [⟨some 105,.mov (.t 16),none⟩,
 ⟨some 106,.mov (.t 8),none⟩,
 ⟨some 107,.len (.t 106),none⟩,
 ⟨some 108,.bin .lss (.t 105) (.t 107),none⟩])
 (.cond (.t 108)
 (.skip)
 (.exit 8)))
 (.seq (.block 9 (.seq (.region [⟨some 17,.mov (.c (.sl true 0 [])),none⟩])
 (.seq (.seq (.region [⟨some 18,.mov (.c (.int Go.IntKind.i64 0)),none⟩])
 (.block 10 (.loop xLn xTi)))
 (.seq (.fzs 17 (.region [⟨some 145,.faddr 2 (.t 15),none⟩,
 ⟨some 146,.load false 1 (.t 145),none⟩,
 ⟨some 147,.mov (.t 17),none⟩,
 ⟨some 148,.bslice true [.sl true 0 []] 1 1 [(0,(.t 147))],none⟩,
 ⟨some 149,.append false 1 24 (.t 146) (.t 148),none⟩,
 ⟨some 150,.faddr 2 (.t 15),none⟩,
 ⟨none,.store 1 (.t 150) (.t 149),none⟩]))
 (.seq (.region [⟨some 21,.mov (.c (.bool false)),none⟩])
 (.seq (.seq (.region [⟨some 22,.mov (.c (.int Go.IntKind.i64 0)),none⟩])
 (.block 14 (.loop xLq xTj)))
 (.region [⟨some 171,.faddr 3 (.t 15),none⟩,
 ⟨some 172,.load false 1 (.t 171),none⟩,
 ⟨some 173,.mov (.t 21),none⟩,
 ⟨some 174,.bslice true [.bool false] 1 1 [(0,(.t 173))],none⟩,
 ⟨some 175,.append false 1 1 (.t 172) (.t 174),none⟩,
 ⟨some 176,.faddr 3 (.t 15),none⟩,
 ⟨none,.store 1 (.t 176) (.t 175),none⟩])))))))
 (.region [⟨some 109,.mov (.t 16),none⟩,
 ⟨some 110,.bin .add (.t 109) (.c (.int Go.IntKind.i64 1)),none⟩,
 ⟨some 16,.mov (.t 110),none⟩]))

def xTk : ACode := xOp
def xLs : List Nat := [0,1,3,5,6,7,9,10,11,12,13,14,17,18,19,20,21,22,23,24,25,26,27,28,29,30,31,32,33,34,35,36,37,38,39,40,41,42,43,44,45,46,47,48,49,50,51,52,53,54,55,56,57,58,59,60,61,62,63,64,65,66,67,68,69,70,71,72,73,74,75,76,77,78,79,80,81,82,83,84,85,86,87,88,89,90,91,92,93,94,95,96,97,98,99,100,101,102,103,104,105,106,107,108,109,110,111,112,113,114,115,116,117,118,119,120,121,122,123,124,125,126,127,128,129,130,131,132,133,134,135,136,137,138,139,140,141,142,143,144,145,146,147,148,149,150,151,152,153,154,155,156,157,158,159,160,161,162,163,164,165,166,167,168,169,170,171,172,173,174,175,176,177,178]
abbrev xLt (s2 s4 s8 s15 s16 : AV) : List AV := [.any,.any,s2,.any,s4,.any,.any,.any,s8,.any,.any,.any,.any,.any,.any,s15,s16,.any,.any,.any,.any,.any,.any,.any,.any,.any,.any,.any,.any,.any,.any,.any,.any,.any,.any,.any,.any,.any,.any,.any,.any,.any,.any,.any,.any,.any,.any,.any,.any,.any,.any,.any,.any,.any,.any,.any,.any,.any,.any,.any,.any,.any,.any,.any,.any,.any,.any,.any,.any,.any,.any,.any,.any,.any,.any,.any,.any,.any,.any,.any,.any,.any,.any,.any,.any,.any,.any,.any,.any,.any,.any,.any,.any,.any,.any,.any,.any,.any,.any,.any,.any,.any,.any,.any,.any,.any,.any,.any,.any,.any,.any,.any,.any,.any,.any,.any,.any,.any,.any,.any,.any,.any,.any,.any,.any,.any,.any,.any,.any,.any,.any,.any,.any,.any,.any,.any,.any,.any,.any,.any,.any,.any,.any,.any,.any,.any,.any,.any,.any,.any,.any,.any,.any,.any,.any,.any,.any,.any,.any,.any,.any,.any,.any,.any,.any,.any,.any,.any,.any,.any,.any,.any,.any,.any,.any,.any,.any,.any,.any]
theorem xQF (s0 s1 s2 s3 s4 s5 s6 s7 s8 s9 s10 s11 s12 s13 s14 s15 s16 s17 s18 s19 s20 s21 s22 s23 s24 s25 s26 s27 s28 s29 s30 s31 s32 s33 s34 s35 s36 s37 s38 s39 s40 s41 s42 s43 s44 s45 s46 s47 s48 s49 s50 s51 s52 s53 s54 s55 s56 s57 s58 s59 s60 s61 s62 s63 s64 s65 s66 s67 s68 s69 s70 s71 s72 s73 s74 s75 s76 s77 s78 s79 s80 s81 s82 s83 s84 s85 s86 s87 s88 s89 s90 s91 s92 s93 s94 s95 s96 s97 s98 s99 s100 s101 s102 s103 s104 s105 s106 s107 s108 s109 s110 s111 s112 s113 s114 s115 s116 s117 s118 s119 s120 s121 s122 s123 s124 s125 s126 s127 s128 s129 s130 s131 s132 s133 s134 s135 s136 s137 s138 s139 s140 s141 s142 s143 s144 s145 s146 s147 s148 s149 s150 s151 s152 s153 s154 s155 s156 s157 s158 s159 s160 s161 s162 s163 s164 s165 s166 s167 s168 s169 s170 s171 s172 s173 s174 s175 s176 s177 s178 : AV) : xBs xLs [s0,s1,s2,s3,s4,s5,s6,s7,s8,s9,s10,s11,s12,s13,s14,s15,s16,s17,s18,s19,s20,s21,s22,s23,s24,s25,s26,s27,s28,s29,s30,s31,s32,s33,s34,s35,s36,s37,s38,s39,s40,s41,s42,s43,s44,s45,s46,s47,s48,s49,s50,s51,s52,s53,s54,s55,s56,s57,s58,s59,s60,s61,s62,s63,s64,s65,s66,s67,s68,s69,s70,s71,s72,s73,s74,s75,s76,s77,s78,s79,s80,s81,s82,s83,s84,s85,s86,s87,s88,s89,s90,s91,s92,s93,s94,s95,s96,s97,s98,s99,s100,s101,s102,s103,s104,s105,s106,s107,s108,s109,s110,s111,s112,s113,s114,s115,s116,s117,s118,s119,s120,s121,s122,s123,s124,s125,s126,s127,s128,s129,s130,s131,s132,s133,s134,s135,s136,s137,s138,s139,s140,s141,s142,s143,s144,s145,s146,s147,s148,s149,s150,s151,s152,s153,s154,s155,s156,s157,s158,s159,s160,s161,s162,s163,s164,s165,s166,s167,s168,s169,s170,s171,s172,s173,s174,s175,s176,s177,s178] = xLt s2 s4 s8 s15 s16 := by kernel_rfl
theorem xU5 {prog : Nat → Option AFunc} (s2 s4 s8 s15 s16 : AV) (H : xAv) : (lim prog).loop xLs xTk ⟨xLt s2 s4 s8 s15 s16,H⟩ = xB9 (lim prog) xLs xTk (run (lim prog) xOp ⟨xLt s2 s4 s8 s15 s16,H⟩) := xAI _ _ _ _ (by kernel_rfl)

def a38 : AFunc := ⟨179,
 .seq (.region [⟨some 2,.box (.t 0),none⟩,
 ⟨some 4,.box (.c (.agg [.int Go.IntKind.i64 0,.int Go.IntKind.i64 0,.sl true 0 [],.sl true 0 []])),none⟩,
 ⟨some 5,.mov (.c (.sl true 0 [])),none⟩,
 ⟨some 6,.mov (.c (.int Go.IntKind.i64 0)),none⟩])
 (.seq (.seq (.region [⟨some 23,.load true 5 (.t 2),none⟩,
 ⟨some 24,.call 82 [(.t 23)],none⟩,
 ⟨some 7,.mov (.t 24),none⟩])
 (.seq (.region [⟨some 25,.mov (.t 7),none⟩,
 ⟨some 26,.bin .neq (.t 25) (.c (.int Go.IntKind.i64 0)),none⟩])
 (.cond (.t 26)
 (.seq (.region [⟨some 27,.build [.int Go.IntKind.i64 0,.int Go.IntKind.i64 0,.sl true 0 [],.sl true 0 []] [],none⟩,
 ⟨some 28,.mov (.t 7),none⟩,
 ⟨none,.store 4 (.t 4) (.t 27),none⟩,
 ⟨some 5,.mov (.c (.sl true 0 [])),none⟩,
 ⟨some 6,.mov (.t 28),none⟩])
 (.ret))
 (.skip))))
 (.seq (.seq (.region [⟨some 29,.mov (.t 1),none⟩,
 ⟨some 30,.bin .lss (.t 29) (.c (.int Go.IntKind.i64 1)),none⟩,
 ⟨some 31,.mov (.t 30),none⟩,
 ⟨some 32,.mov (.t 1),some (31,false)⟩,
 ⟨some 33,.bin .gtr (.t 32) (.c (.int Go.IntKind.i64 64)),some (31,false)⟩,
 ⟨some 34,.pick (.t 31) (.c (.bool true)) (.t 33),none⟩])
 (.cond (.t 34)
 (.seq (.region [⟨some 35,.build [.int Go.IntKind.i64 0,.int Go.IntKind.i64 0,.sl true 0 [],.sl true 0 []] [],none⟩,
 ⟨none,.store 4 (.t 4) (.t 35),none⟩,
 ⟨some 5,.mov (.c (.sl true 0 [])),none⟩,
 ⟨some 6,.mov (.c (.int Go.IntKind.i64 1)),none⟩])
 (.ret))
 (.skip)))
 (.seq (.region [⟨some 36,.faddr 2 (.t 2),none⟩,
 ⟨some 37,.load false 1 (.t 36),none⟩,
 ⟨some 38,.call 47 [(.t 37)],none⟩,
 ⟨some 39,.bslice false [.sl true 0 []] 1 1 [(0,(.t 38))],none⟩,
 ⟨some 8,.mov (.t 39),none⟩])
 (.seq (.seq (.region [⟨some 9,.mov (.c (.int Go.IntKind.i64 0)),none⟩])
 (.block 0 (.loop xIi xPu)))
 (.seq (.region [⟨some 102,.faddr 0 (.t 2),none⟩,
 ⟨some 103,.load false 1 (.t 102),none⟩,
 ⟨some 104,.build [.int Go.IntKind.i64 0,.int Go.IntKind.i64 0,.sl true 0 [],.sl true 0 []] [(0,1,(.t 103))],none⟩,
 ⟨some 15,.box (.c (.agg [.int Go.IntKind.i64 0,.int Go.IntKind.i64 0,.sl true 0 [],.sl true 0 []])),none⟩,
 ⟨none,.store 4 (.t 15) (.t 104),none⟩])
 (.seq (.seq (.region [⟨some 16,.mov (.c (.int Go.IntKind.i64 0)),none⟩])
 (.block 8 (.loop xLs xTk)))
 (.seq (.region [⟨some 177,.load true 4 (.t 15),none⟩,
 ⟨some 178,.mov (.t 8),none⟩,
 ⟨none,.store 4 (.t 4) (.t 177),none⟩,
 ⟨some 5,.mov (.t 178),none⟩,
 ⟨some 6,.mov (.c (.int Go.IntKind.i64 0)),none⟩])
 (.ret)))))))),
 [.cell 4 true 4,.tmp 5,.tmp 6]⟩

def xIj : ACode :=
 .seq (.seq (.region [⟨some 11,.mov (.t 5),none⟩,
 ⟨some 12,.mov (.t 0),none⟩,
 ⟨some 13,.len (.t 12),none⟩,
 ⟨some 14,.bin .lss (.t 11) (.t 13),none⟩])
 (.cond (.t 14)
 (.skip)
 (.exit 0)))
 (.seq (.block 1 (.seq (.draw 5 [⟨some 17,.mov (.t 0),none⟩,
 ⟨some 18,.mov (.t 5),none⟩,
 ⟨some 19,.iaddr 1 (.t 17) (.t 18),none⟩,
 ⟨some 20,.load false 1 (.t 19),none⟩,
 ⟨some 21,.mov (.t 1),none⟩,
 ⟨some 22,.mov (.t 5),none⟩,
 ⟨some 23,.iaddr 1 (.t 21) (.t 22),none⟩,
 ⟨some 24,.load false 1 (.t 23),none⟩,
 ⟨some 25,.call 20 [(.t 20),(.t 24)],none⟩,
 ⟨some 26,.un .not (.t 25),none⟩])
 (.cond (.t 26)
 (.seq (.region [⟨some 4,.mov (.c (.bool false)),none⟩])
 (.ret))
 (.skip))))
 (.region [⟨some 15,.mov (.t 5),none⟩,
 ⟨some 16,.bin .add (.t 15) (.c (.int Go.IntKind.i64 1)),none⟩,
 ⟨some 5,.mov (.t 16),none⟩]))

def xPv : ACode := xIj
def xIk : List Nat := [2,3,6,7,8,9,10,11,12,13,14,15,16,17,18,19,20,21,22,23,24,25,26]
abbrev xGD (s0 s1 s4 s5 : AV) : List AV := [s0,s1,.any,.any,s4,s5,.any,.any,.any,.any,.any,.any,.any,.any,.any,.any,.any,.any,.any,.any,.any,.any,.any,.any,.any,.any,.any]
theorem xHz (s0 s1 s2 s3 s4 s5 s6 s7 s8 s9 s10 s11 s12 s13 s14 s15 s16 s17 s18 s19 s20 s21 s22 s23 s24 s25 s26 : AV) : xBs xIk [s0,s1,s2,s3,s4,s5,s6,s7,s8,s9,s10,s11,s12,s13,s14,s15,s16,s17,s18,s19,s20,s21,s22,s23,s24,s25,s26] = xGD s0 s1 s4 s5 := by kernel_rfl
theorem xLu {prog : Nat → Option AFunc} (s0 s1 s4 s5 : AV) (H : xAv) : (lim prog).loop xIk xPv ⟨xGD s0 s1 s4 s5,H⟩ = xB9 (lim prog) xIk xPv (run (lim prog) xIj ⟨xGD s0 s1 s4 s5,H⟩) := xAI _ _ _ _ (by kernel_rfl)

def a39 : AFunc := ⟨27,
 .seq (.region [⟨some 4,.mov (.c (.bool false)),none⟩])
 (.seq (.seq (.region [⟨some 6,.mov (.t 0),none⟩,
 ⟨some 7,.len (.t 6),none⟩,
 ⟨some 8,.mov (.t 1),none⟩,
 ⟨some 9,.len (.t 8),none⟩,
 ⟨some 10,.bin .neq (.t 7) (.t 9),none⟩])
 (.cond (.t 10)
 (.seq (.region [⟨some 4,.mov (.c (.bool false)),none⟩])
 (.ret))
 (.skip)))
 (.seq (.seq (.region [⟨some 5,.mov (.c (.int Go.IntKind.i64 0)),none⟩])
 (.block 0 (.loop xIk xPv)))
 (.seq (.region [⟨some 4,.mov (.c (.bool true)),none⟩])
 (.ret)))),
 [.tmp 4]⟩

def xJF : ACode :=
 .seq (.seq (.region [⟨some 3,.mov (.t 2),none⟩,
 ⟨some 4,.mov (.t 0),none⟩,
 ⟨some 5,.len (.t 4),none⟩,
 ⟨some 6,.bin .lss (.t 3) (.t 5),none⟩])
 (.cond (.t 6)
 (.skip)
 (.exit 0)))
 (.seq (.block 1 (.region [⟨some 9,.mov (.t 0),none⟩,
 ⟨some 10,.mov (.t 2),none⟩,
 ⟨some 11,.iaddr 1 (.t 9) (.t 10),none⟩,
 ⟨some 12,.load false 1 (.t 11),none⟩,
 ⟨some 13,.icall (.c (.func 32 [])) [(.t 12)],none⟩]))
 (.region [⟨some 7,.mov (.t 2),none⟩,
 ⟨some 8,.bin .add (.t 7) (.c (.int Go.IntKind.i64 1)),none⟩,
 ⟨some 2,.mov (.t 8),none⟩]))

def xQG : ACode := xJF
def xJG : List Nat := [1,3,4,5,6,7,8,9,10,11,12,13]
abbrev xIl (s0 s2 : AV) : List AV := [s0,.any,s2,.any,.any,.any,.any,.any,.any,.any,.any,.any,.any,.any]
theorem xJH (s0 s1 s2 s3 s4 s5 s6 s7 s8 s9 s10 s11 s12 s13 : AV) : xBs xJG [s0,s1,s2,s3,s4,s5,s6,s7,s8,s9,s10,s11,s12,s13] = xIl s0 s2 := by kernel_rfl
theorem xQH {prog : Nat → Option AFunc} (s0 s2 : AV) (H : xAv) : (lim prog).loop xJG xQG ⟨xIl s0 s2,H⟩ = xB9 (lim prog) xJG xQG (run (lim prog) xJF ⟨xIl s0 s2,H⟩) := xAI _ _ _ _ (by kernel_rfl)

def a40 : AFunc := ⟨14,
 .seq (.region [⟨some 2,.mov (.c (.int Go.IntKind.i64 0)),none⟩])
 (.block 0 (.loop xJG xQG)),
 []⟩

def xU6 : ACode :=
 .seq (.seq (.region [⟨some 12,.mov (.t 4),none⟩,
 ⟨some 13,.bin .lss (.t 12) (.c (.int Go.IntKind.i64 3)),none⟩])
 (.cond (.t 13)
 (.skip)
 (.exit 2)))
 (.seq (.block 3 (.seq (.region [⟨some 5,.mov (.c (.int Go.IntKind.i64 0)),none⟩])
 (.seq (.seq (.region [⟨some 16,.mov (.t 2),none⟩,
 ⟨some 17,.bin .eql (.t 16) (.c (.int Go.IntKind.i64 2)),none⟩,
 ⟨some 18,.mov (.t 17),none⟩,
 ⟨some 19,.mov (.t 4),some (18,false)⟩,
 ⟨some 20,.bin .eql (.t 19) (.c (.int Go.IntKind.i64 2)),some (18,false)⟩,
 ⟨some 21,.pick (.t 18) (.c (.bool true)) (.t 20),none⟩])
 (.cond (.t 21)
 (.region [⟨some 5,.mov (.c (.int Go.IntKind.i64 2)),none⟩])
 (.skip)))
 (.seq (.seq (.region [⟨some 22,.mov (.t 2),none⟩,
 ⟨some 23,.bin .eql (.t 22) (.c (.int Go.IntKind.i64 1)),none⟩,
 ⟨some 24,.mov (.t 23),none⟩,
 ⟨some 25,.mov (.t 4),some (24,false)⟩,
 ⟨some 26,.bin .eql (.t 25) (.c (.int Go.IntKind.i64 1)),some (24,false)⟩,
 ⟨some 27,.pick (.t 24) (.c (.bool true)) (.t 26),none⟩])
 (.cond (.t 27)
 (.region [⟨some 5,.mov (.c (.int Go.IntKind.i64 1)),none⟩])
 (.skip)))
 (.region [⟨some 28,.mov (.t 3),none⟩,
 ⟨some 29,.mov (.t 5),none⟩,
 ⟨some 30,.bslice true [.int Go.IntKind.i64 0] 1 2 [(0,(.t 29)),(1,(.c (.int Go.IntKind.i64 1)))],none⟩,
 ⟨some 31,.bslice true [.sl true 0 []] 1 1 [(0,(.t 30))],none⟩,
 ⟨some 32,.append false 1 24 (.t 28) (.t 31),none⟩,
 ⟨some 3,.mov (.t 32),none⟩])))))
 (.region [⟨some 14,.mov (.t 4),none⟩,
 ⟨some 15,.bin .add (.t 14) (.c (.int Go.IntKind.i64 1)),none⟩,
 ⟨some 4,.mov (.t 15),none⟩]))

def xV8 : ACode := xU6
def xOq : List Nat := [5,6,7,8,9,10,11,12,13,14,15,16,17,18,19,20,21,22,23,24,25,26,27,28,29,30,31,32,33,34,35,36,37,38,39]
abbrev xQI (s0 s1 s2 s3 s4 : AV) : List AV := [s0,s1,s2,s3,s4,.any,.any,.any,.any,.any,.any,.any,.any,.any,.any,.any,.any,.any,.any,.any,.any,.any,.any,.any,.any,.any,.any,.any,.any,.any,.any,.any,.any,.any,.any,.any,.any,.any,.any,.any]
theorem yC8 (s0 s1 s2 s3 s4 s5 s6 s7 s8 s9 s10 s11 s12 s13 s14 s15 s16 s17 s18 s19 s20 s21 s22 s23 s24 s25 s26 s27 s28 s29 s30 s31 s32 s33 s34 s35 s36 s37 s38 s39 : AV) : xBs xOq [s0,s1,s2,s3,s4,s5,s6,s7,s8,s9,s10,s11,s12,s13,s14,s15,s16,s17,s18,s19,s20,s21,s22,s23,s24,s25,s26,s27,s28,s29,s30,s31,s32,s33,s34,s35,s36,s37,s38,s39] = xQI s0 s1 s2 s3 s4 := by kernel_rfl
theorem yC9 {prog : Nat → Option AFunc} (s0 s1 s2 s3 s4 : AV) (H : xAv) : (lim prog).loop xOq xV8 ⟨xQI s0 s1 s2 s3 s4,H⟩ = xB9 (lim prog) xOq xV8 (run (lim prog) xU6 ⟨xQI s0 s1 s2 s3 s4,H⟩) := xAI _ _ _ _ (by kernel_rfl)

def xU7 : ACode :=
 .seq (.seq (.region [⟨some 8,.mov (.t 2),none⟩,
 ⟨some 9,.bin .lss (.t 8) (.c (.int Go.IntKind.i64 3)),none⟩])
 (.cond (.t 9)
 (.skip)
 (.exit 0)))
 (.seq (.block 1 (.seq (.region [⟨some 3,.mov (.c (.sl true 0 [])),none⟩])
 (.seq (.seq (.region [⟨some 4,.mov (.c (.int Go.IntKind.i64 0)),none⟩])
 (.block 2 (.loop xOq xV8)))
 (.region [⟨some 33,.faddr 2 (.t 1),none⟩,
 ⟨some 34,.load false 1 (.t 33),none⟩,
 ⟨some 35,.mov (.t 3),none⟩,
 ⟨some 36,.bslice false [.sl true 0 []] 1 1 [(0,(.t 35))],none⟩,
 ⟨some 37,.append false 1 24 (.t 34) (.t 36),none⟩,
 ⟨some 38,.faddr 2 (.t 1),none⟩,
 ⟨none,.store 1 (.t 38) (.t 37),none⟩]))))
 (.region [⟨some 10,.mov (.t 2),none⟩,
 ⟨some 11,.bin .add (.t 10) (.c (.int Go.IntKind.i64 1)),none⟩,
 ⟨some 2,.mov (.t 11),none⟩]))

def xV9 : ACode := xU7
def xOr : List Nat := [3,4,5,6,7,8,9,10,11,12,13,14,15,16,17,18,19,20,21,22,23,24,25,26,27,28,29,30,31,32,33,34,35,36,37,38,39]
abbrev xQJ (s0 s1 s2 : AV) : List AV := [s0,s1,s2,.any,.any,.any,.any,.any,.any,.any,.any,.any,.any,.any,.any,.any,.any,.any,.any,.any,.any,.any,.any,.any,.any,.any,.any,.any,.any,.any,.any,.any,.any,.any,.any,.any,.any,.any,.any,.any]
theorem yDa (s0 s1 s2 s3 s4 s5 s6 s7 s8 s9 s10 s11 s12 s13 s14 s15 s16 s17 s18 s19 s20 s21 s22 s23 s24 s25 s26 s27 s28 s29 s30 s31 s32 s33 s34 s35 s36 s37 s38 s39 : AV) : xBs xOr [s0,s1,s2,s3,s4,s5,s6,s7,s8,s9,s10,s11,s12,s13,s14,s15,s16,s17,s18,s19,s20,s21,s22,s23,s24,s25,s26,s27,s28,s29,s30,s31,s32,s33,s34,s35,s36,s37,s38,s39] = xQJ s0 s1 s2 := by kernel_rfl
theorem yDb {prog : Nat → Option AFunc} (s0 s1 s2 : AV) (H : xAv) : (lim prog).loop xOr xV9 ⟨xQJ s0 s1 s2,H⟩ = xB9 (lim prog) xOr xV9 (run (lim prog) xU7 ⟨xQJ s0 s1 s2,H⟩) := xAI _ _ _ _ (by kernel_rfl)

def a41 : AFunc := ⟨40,
 .seq (.region [⟨some 0,.box (.c (.agg [.int Go.IntKind.i64 0,.int Go.IntKind.i64 0,.sl true 0 [],.sl true 0 []])),none⟩])
 (.seq (.region [⟨some 6,.bslice true [.bool false] 1 3 [(0,(.c (.bool false))),(1,(.c (.bool true))),(2,(.c (.bool true)))],none⟩,
 ⟨some 7,.build [.int Go.IntKind.i64 0,.int Go.IntKind.i64 0,.sl true 0 [],.sl true 0 []] [(0,1,(.c (.int Go.IntKind.i64 1))),(3,1,(.t 6))],none⟩,
 ⟨some 1,.box (.c (.agg [.int Go.IntKind.i64 0,.int Go.IntKind.i64 0,.sl true 0 [],.sl true 0 []])),none⟩,
 ⟨none,.store 4 (.t 1) (.t 7),none⟩])
 (.seq (.seq (.region [⟨some 2,.mov (.c (.int Go.IntKind.i64 0)),none⟩])
 (.block 0 (.loop xOr xV9)))
 (.seq (.region [⟨some 39,.load true 4 (.t 1),none⟩,
 ⟨none,.store 4 (.t 0) (.t 39),none⟩])
 (.ret)))),
 [.cell 0 true 4]⟩

def xHA : ACode :=
 .seq (.region [⟨some 38,.bin .lss (.t 37) (.c (.int Go.IntKind.i64 2)),none⟩])
 (.seq (.cond (.t 38)
 (.skip)
 (.exit 1))
 (.seq (.block 2 (.seq (.region [⟨some 39,.idx false 1 2 (.t 36) (.t 37),none⟩,
 ⟨some 4,.mov (.t 39),none⟩])
 (.seq (.region [⟨some 40,.mov (.t 4),none⟩,
 ⟨some 41,.faddr 1 (.t 1),none⟩,
 ⟨some 42,.load false 1 (.t 41),none⟩,
 ⟨some 43,.call 89 [(.t 40),(.t 42)],none⟩,
 ⟨some 5,.mov (.t 43),none⟩])
 (.seq (.region [⟨some 44,.mov (.t 5),none⟩,
 ⟨some 45,.bin .neq (.t 44) (.c (.int Go.IntKind.i64 0)),none⟩])
 (.cond (.t 45)
 (.seq (.region [⟨some 46,.mov (.t 5),none⟩,
 ⟨some 2,.mov (.t 46),none⟩])
 (.ret))
 (.skip))))))
 (.region [⟨some 47,.bin .add (.t 37) (.c (.int Go.IntKind.i64 1)),none⟩,
 ⟨some 37,.mov (.t 47),none⟩])))

def xQK : ACode := xHA
def xJI : List Nat := [0,3,4,5,6,7,8,9,10,11,12,13,14,15,16,17,18,19,20,21,22,23,24,25,26,27,28,29,30,31,32,33,34,35,38,39,40,41,42,43,44,45,46,47,48,49,50,51,52,53,54,55,56,57,58,59,60,61,62,63,64,65,66,67,68,69,70,71,72,73,74,75,76,77,78,79,80,81,82,83,84,85,86]
abbrev xHB (s1 s2 s36 s37 : AV) : List AV := [.any,s1,s2,.any,.any,.any,.any,.any,.any,.any,.any,.any,.any,.any,.any,.any,.any,.any,.any,.any,.any,.any,.any,.any,.any,.any,.any,.any,.any,.any,.any,.any,.any,.any,.any,.any,s36,s37,.any,.any,.any,.any,.any,.any,.any,.any,.any,.any,.any,.any,.any,.any,.any,.any,.any,.any,.any,.any,.any,.any,.any,.any,.any,.any,.any,.any,.any,.any,.any,.any,.any,.any,.any,.any,.any,.any,.any,.any,.any,.any,.any,.any,.any,.any,.any,.any,.any]
theorem xGE (s0 s1 s2 s3 s4 s5 s6 s7 s8 s9 s10 s11 s12 s13 s14 s15 s16 s17 s18 s19 s20 s21 s22 s23 s24 s25 s26 s27 s28 s29 s30 s31 s32 s33 s34 s35 s36 s37 s38 s39 s40 s41 s42 s43 s44 s45 s46 s47 s48 s49 s50 s51 s52 s53 s54 s55 s56 s57 s58 s59 s60 s61 s62 s63 s64 s65 s66 s67 s68 s69 s70 s71 s72 s73 s74 s75 s76 s77 s78 s79 s80 s81 s82 s83 s84 s85 s86 : AV) : xBs xJI [s0,s1,s2,s3,s4,s5,s6,s7,s8,s9,s10,s11,s12,s13,s14,s15,s16,s17,s18,s19,s20,s21,s22,s23,s24,s25,s26,s27,s28,s29,s30,s31,s32,s33,s34,s35,s36,s37,s38,s39,s40,s41,s42,s43,s44,s45,s46,s47,s48,s49,s50,s51,s52,s53,s54,s55,s56,s57,s58,s59,s60,s61,s62,s63,s64,s65,s66,s67,s68,s69,s70,s71,s72,s73,s74,s75,s76,s77,s78,s79,s80,s81,s82,s83,s84,s85,s86] = xHB s1 s2 s36 s37 := by kernel_rfl
theorem xJJ {prog : Nat → Option AFunc} (s1 s2 s36 s37 : AV) (H : xAv) : (lim prog).loop xJI xQK ⟨xHB s1 s2 s36 s37,H⟩ = xB9 (lim prog) xJI xQK (run (lim prog) xHA ⟨xHB s1 s2 s36 s37,H⟩) := xAI _ _ _ _ (by kernel_rfl)

def xHC : ACode :=
 .seq (.region [⟨some 52,.bin .lss (.t 51) (.t 50),none⟩])
 (.seq (.cond (.t 52)
 (.skip)
 (.exit 3))
 (.seq (.block 4 (.seq (.region [⟨some 53,.iaddr 5 (.t 49) (.t 51),none⟩,
 ⟨some 54,.load true 5 (.t 53),none⟩,
 ⟨some 7,.box (.c (.agg [.int Go.IntKind.i64 0,.int Go.IntKind.i64 0,.int Go.IntKind.i64 0,.int Go.IntKind.u8 0,.int Go.IntKind.u8 0])),none⟩,
 ⟨none,.store 5 (.t 7) (.t 54),none⟩])
 (.seq (.seq (.region [⟨some 55,.faddr 0 (.t 7),none⟩,
 ⟨some 56,.load false 1 (.t 55),none⟩,
 ⟨some 57,.faddr 1 (.t 7),none⟩,
 ⟨some 58,.load false 1 (.t 57),none⟩,
 ⟨some 59,.faddr 2 (.t 7),none⟩,
 ⟨some 60,.load false 1 (.t 59),none⟩,
 ⟨some 61,.mm false [(.t 56),(.t 58),(.t 60)],none⟩,
 ⟨some 62,.bin .lss (.t 61) (.c (.int Go.IntKind.i64 0)),none⟩,
 ⟨some 63,.mov (.t 62),none⟩,
 ⟨some 64,.faddr 0 (.t 7),some (63,false)⟩,
 ⟨some 65,.load false 1 (.t 64),some (63,false)⟩,
 ⟨some 66,.faddr 1 (.t 7),some (63,false)⟩,
 ⟨some 67,.load false 1 (.t 66),some (63,false)⟩,
 ⟨some 68,.faddr 2 (.t 7),some (63,false)⟩,
 ⟨some 69,.load false 1 (.t 68),some (63,false)⟩,
 ⟨some 70,.mm true [(.t 65),(.t 67),(.t 69)],some (63,false)⟩,
 ⟨some 71,.faddr 1 (.t 1),some (63,false)⟩,
 ⟨some 72,.load false 1 (.t 71),some (63,false)⟩,
 ⟨some 73,.bin .geq (.t 70) (.t 72),some (63,false)⟩,
 ⟨some 74,.pick (.t 63) (.c (.bool true)) (.t 73),none⟩])
 (.cond (.t 74)
 (.seq (.region [⟨some 2,.mov (.c (.int Go.IntKind.i64 8)),none⟩])
 (.ret))
 (.skip)))
 (.seq (.region [⟨some 75,.faddr 3 (.t 7),none⟩,
 ⟨some 76,.load false 1 (.t 75),none⟩,
 ⟨some 77,.faddr 4 (.t 7),none⟩,
 ⟨some 78,.load false 1 (.t 77),none⟩,
 ⟨some 79,.build [.int Go.IntKind.u8 0,.int Go.IntKind.u8 0] [(0,1,(.t 76)),(1,1,(.t 78))],none⟩,
 ⟨some 80,.faddr 0 (.t 1),none⟩,
 ⟨some 81,.load false 1 (.t 80),none⟩,
 ⟨some 82,.call 90 [(.t 79),(.t 81)],none⟩,
 ⟨some 8,.mov (.t 82),none⟩])
 (.seq (.region [⟨some 83,.mov (.t 8),none⟩,
 ⟨some 84,.bin .neq (.t 83) (.c (.int Go.IntKind.i64 0)),none⟩])
 (.cond (.t 84)
 (.seq (.region [⟨some 85,.mov (.t 8),none⟩,
 ⟨some 2,.mov (.t 85),none⟩])
 (.ret))
 (.skip)))))))
 (.region [⟨some 86,.bin .add (.t 51) (.c (.int Go.IntKind.i64 1)),none⟩,
 ⟨some 51,.mov (.t 86),none⟩])))

def xTl : ACode := xHC
def xLv : List Nat := [0,3,4,5,6,7,8,9,10,11,12,13,14,15,16,17,18,19,20,21,22,23,24,25,26,27,28,29,30,31,32,33,34,35,36,37,38,39,40,41,42,43,44,45,46,47,48,52,53,54,55,56,57,58,59,60,61,62,63,64,65,66,67,68,69,70,71,72,73,74,75,76,77,78,79,80,81,82,83,84,85,86]
abbrev xJK (s1 s2 s49 s50 s51 : AV) : List AV := [.any,s1,s2,.any,.any,.any,.any,.any,.any,.any,.any,.any,.any,.any,.any,.any,.any,.any,.any,.any,.any,.any,.any,.any,.any,.any,.any,.any,.any,.any,.any,.any,.any,.any,.any,.any,.any,.any,.any,.any,.any,.any,.any,.any,.any,.any,.any,.any,.any,s49,s50,s51,.any,.any,.any,.any,.any,.any,.any,.any,.any,.any,.any,.any,.any,.any,.any,.any,.any,.any,.any,.any,.any,.any,.any,.any,.any,.any,.any,.any,.any,.any,.any,.any,.any,.any,.any]
theorem xHD (s0 s1 s2 s3 s4 s5 s6 s7 s8 s9 s10 s11 s12 s13 s14 s15 s16 s17 s18 s19 s20 s21 s22 s23 s24 s25 s26 s27 s28 s29 s30 s31 s32 s33 s34 s35 s36 s37 s38 s39 s40 s41 s42 s43 s44 s45 s46 s47 s48 s49 s50 s51 s52 s53 s54 s55 s56 s57 s58 s59 s60 s61 s62 s63 s64 s65 s66 s67 s68 s69 s70 s71 s72 s73 s74 s75 s76 s77 s78 s79 s80 s81 s82 s83 s84 s85 s86 : AV) : xBs xLv [s0,s1,s2,s3,s4,s5,s6,s7,s8,s9,s10,s11,s12,s13,s14,s15,s16,s17,s18,s19,s20,s21,s22,s23,s24,s25,s26,s27,s28,s29,s30,s31,s32,s33,s34,s35,s36,s37,s38,s39,s40,s41,s42,s43,s44,s45,s46,s47,s48,s49,s50,s51,s52,s53,s54,s55,s56,s57,s58,s59,s60,s61,s62,s63,s64,s65,s66,s67,s68,s69,s70,s71,s72,s73,s74,s75,s76,s77,s78,s79,s80,s81,s82,s83,s84,s85,s86] = xJK s1 s2 s49 s50 s51 := by kernel_rfl
theorem xLw {prog : Nat → Option AFunc} (s1 s2 s49 s50 s51 : AV) (H : xAv) : (lim prog).loop xLv xTl ⟨xJK s1 s2 s49 s50 s51,H⟩ = xB9 (lim prog) xLv xTl (run (lim prog) xHC ⟨xJK s1 s2 s49 s50 s51,H⟩) := xAI _ _ _ _ (by kernel_rfl)

def a45 : AFunc := ⟨87,
 .seq (.region [⟨some 1,.box (.t 0),none⟩,
 ⟨some 2,.mov (.c (.int Go.IntKind.i64 0)),none⟩])
 (.seq (.block 0 (.seq (.region [⟨some 10,.faddr 0 (.t 1),none⟩,
 ⟨some 11,.load false 1 (.t 10),none⟩,
 ⟨some 12,.bin .lss (.t 11) (.c (.int Go.IntKind.i64 0)),none⟩,
 ⟨some 13,.mov (.t 12),none⟩,
 ⟨some 14,.faddr 0 (.t 1),some (13,false)⟩,
 ⟨some 15,.load false 1 (.t 14),some (13,false)⟩,
 ⟨some 16,.bin .gtr (.t 15) (.c (.int Go.IntKind.i64 3)),some (13,false)⟩,
 ⟨some 17,.pick (.t 13) (.c (.bool true)) (.t 16),none⟩,
 ⟨some 9,.mov (.t 17),none⟩])
 (.cond (.t 9)
 (.seq (.region [⟨some 2,.mov (.c (.int Go.IntKind.i64 7)),none⟩])
 (.ret))
 (.seq (.region [⟨some 19,.faddr 1 (.t 1),none⟩,
 ⟨some 20,.load false 1 (.t 19),none⟩,
 ⟨some 21,.bin .lss (.t 20) (.c (.int Go.IntKind.i64 0)),none⟩,
 ⟨some 18,.mov (.t 21),none⟩])
 (.cond (.t 18)
 (.seq (.region [⟨some 2,.mov (.c (.int Go.IntKind.i64 1)),none⟩])
 (.ret))
 (.seq (.region [⟨some 23,.faddr 1 (.t 1),none⟩,
 ⟨some 24,.load false 1 (.t 23),none⟩,
 ⟨some 25,.bin .gtr (.t 24) (.c (.int Go.IntKind.i64 64)),none⟩,
 ⟨some 26,.mov (.t 25),none⟩,
 ⟨some 27,.faddr 4 (.t 1),some (26,false)⟩,
 ⟨some 28,.load false 1 (.t 27),some (26,false)⟩,
 ⟨some 29,.len (.t 28),some (26,false)⟩,
 ⟨some 30,.bin .gtr (.t 29) (.c (.int Go.IntKind.i64 512)),some (26,false)⟩,
 ⟨some 31,.pick (.t 26) (.c (.bool true)) (.t 30),none⟩,
 ⟨some 22,.mov (.t 31),none⟩])
 (.cond (.t 22)
 (.seq (.region [⟨some 2,.mov (.c (.int Go.IntKind.i64 4)),none⟩])
 (.ret))
 (.skip))))))))
 (.seq (.seq (.region [⟨some 32,.faddr 2 (.t 1),none⟩,
 ⟨some 33,.load false 1 (.t 32),none⟩,
 ⟨some 34,.faddr 3 (.t 1),none⟩,
 ⟨some 35,.load false 1 (.t 34),none⟩,
 ⟨some 36,.build [.sl true 0 [],.sl true 0 []] [(0,1,(.t 33)),(1,1,(.t 35))],none⟩,
 ⟨some 37,.mov (.c (.int Go.IntKind.i64 0)),none⟩])
 (.block 1 (.loop xJI xQK)))
 (.seq (.seq (.region [⟨some 48,.faddr 4 (.t 1),none⟩,
 ⟨some 49,.load false 1 (.t 48),none⟩,
 ⟨some 50,.len (.t 49),none⟩,
 ⟨some 51,.mov (.c (.int Go.IntKind.i64 0)),none⟩])
 (.block 3 (.loop xLv xTl)))
 (.seq (.region [⟨some 2,.mov (.c (.int Go.IntKind.i64 0)),none⟩])
 (.ret))))),
 [.tmp 2]⟩

def a47 : AFunc := ⟨5,
 .seq (.region [⟨some 2,.mov (.c (.sl true 0 [])),none⟩])
 (.seq (.region [⟨some 3,.mov (.t 0),none⟩,
 ⟨some 4,.append false 1 8 (.c (.sl true 0 [])) (.t 3),none⟩,
 ⟨some 2,.mov (.t 4),none⟩])
 (.ret)),
 [.tmp 2]⟩

def a52 : AFunc := ⟨11,
 .seq (.region [⟨some 3,.mov (.c (.bool false)),none⟩])
 (.seq (.region [⟨some 4,.mov (.t 0),none⟩,
 ⟨some 5,.bin .geq (.t 4) (.c (.int Go.IntKind.i64 0)),none⟩,
 ⟨some 6,.mov (.t 5),none⟩,
 ⟨some 7,.mov (.t 0),some (6,true)⟩,
 ⟨some 8,.load false 1 (.t 1),some (6,true)⟩,
 ⟨some 9,.bin .lss (.t 7) (.t 8),some (6,true)⟩,
 ⟨some 10,.pick (.t 6) (.t 9) (.c (.bool false)),none⟩,
 ⟨some 3,.mov (.t 10),none⟩])
 (.ret)),
 [.tmp 3]⟩

def a53 : AFunc := ⟨15,
 .seq (.region [⟨some 2,.box (.t 0),none⟩,
 ⟨some 4,.mov (.c (.int Go.IntKind.i64 0)),none⟩])
 (.seq (.seq (.region [⟨some 6,.load true 4 (.t 2),none⟩,
 ⟨some 7,.call 14 [(.t 6)],none⟩,
 ⟨some 5,.mov (.t 7),none⟩])
 (.seq (.region [⟨some 8,.mov (.t 5),none⟩,
 ⟨some 9,.bin .neq (.t 8) (.c (.int Go.IntKind.i64 0)),none⟩])
 (.cond (.t 9)
 (.seq (.region [⟨some 10,.mov (.t 5),none⟩,
 ⟨some 4,.mov (.t 10),none⟩])
 (.ret))
 (.skip))))
 (.seq (.region [⟨some 11,.mov (.t 1),none⟩,
 ⟨some 12,.faddr 0 (.t 2),none⟩,
 ⟨some 13,.load false 1 (.t 12),none⟩,
 ⟨some 14,.call 99 [(.t 11),(.t 13)],none⟩,
 ⟨some 4,.mov (.t 14),none⟩])
 (.ret))),
 [.tmp 4]⟩

def xU8 : ACode :=
 .seq (.seq (.region [⟨some 22,.mov (.t 8),none⟩,
 ⟨some 23,.bin .geq (.t 22) (.c (.int Go.IntKind.i64 0)),none⟩])
 (.cond (.t 23)
 (.skip)
 (.exit 0)))
 (.seq (.block 1 (.draw 27 [⟨some 26,.load false 1 (.t 6),none⟩,
 ⟨some 27,.mov (.t 8),none⟩,
 ⟨some 28,.faddr 2 (.t 2),none⟩,
 ⟨some 29,.load false 1 (.t 28),none⟩,
 ⟨some 30,.mov (.t 7),none⟩,
 ⟨some 31,.mov (.t 1),none⟩,
 ⟨some 32,.mov (.t 8),none⟩,
 ⟨some 33,.iaddr 3 (.t 31) (.t 32),none⟩,
 ⟨some 34,.faddr 1 (.t 33),none⟩,
 ⟨some 35,.load false 1 (.t 34),none⟩,
 ⟨some 36,.fcall (.t 30) [(.t 35)],none⟩,
 ⟨some 37,.iaddr 1 (.t 29) (.t 36),none⟩,
 ⟨some 38,.load false 1 (.t 37),none⟩,
 ⟨some 39,.mov (.t 7),none⟩,
 ⟨some 40,.mov (.t 1),none⟩,
 ⟨some 41,.mov (.t 8),none⟩,
 ⟨some 42,.iaddr 3 (.t 40) (.t 41),none⟩,
 ⟨some 43,.faddr 2 (.t 42),none⟩,
 ⟨some 44,.load false 1 (.t 43),none⟩,
 ⟨some 45,.fcall (.t 39) [(.t 44)],none⟩,
 ⟨some 46,.iaddr 1 (.t 38) (.t 45),none⟩,
 ⟨some 47,.load false 1 (.t 46),none⟩,
 ⟨some 48,.mov (.t 1),none⟩,
 ⟨some 49,.mov (.t 8),none⟩,
 ⟨some 50,.iaddr 3 (.t 48) (.t 49),none⟩,
 ⟨some 51,.faddr 0 (.t 50),none⟩,
 ⟨some 52,.load false 1 (.t 51),none⟩,
 ⟨some 53,.iaddr 1 (.t 47) (.t 52),none⟩,
 ⟨some 54,.load false 1 (.t 53),none⟩,
 ⟨some 55,.iaddr 1 (.t 26) (.t 27),none⟩,
 ⟨none,.store 1 (.t 55) (.t 54),none⟩]))
 (.region [⟨some 24,.mov (.t 8),none⟩,
 ⟨some 25,.bin .sub (.t 24) (.c (.int Go.IntKind.i64 1)),none⟩,
 ⟨some 8,.mov (.t 25),none⟩]))

def xWa : ACode := xU8
def xOs : List Nat := [0,3,4,5,9,10,11,12,13,14,15,16,17,18,19,20,21,22,23,24,25,26,27,28,29,30,31,32,33,34,35,36,37,38,39,40,41,42,43,44,45,46,47,48,49,50,51,52,53,54,55,56]
abbrev xQL (s1 s2 s6 s7 s8 : AV) : List AV := [.any,s1,s2,.any,.any,.any,s6,s7,s8,.any,.any,.any,.any,.any,.any,.any,.any,.any,.any,.any,.any,.any,.any,.any,.any,.any,.any,.any,.any,.any,.any,.any,.any,.any,.any,.any,.any,.any,.any,.any,.any,.any,.any,.any,.any,.any,.any,.any,.any,.any,.any,.any,.any,.any,.any,.any,.any]
theorem yDc (s0 s1 s2 s3 s4 s5 s6 s7 s8 s9 s10 s11 s12 s13 s14 s15 s16 s17 s18 s19 s20 s21 s22 s23 s24 s25 s26 s27 s28 s29 s30 s31 s32 s33 s34 s35 s36 s37 s38 s39 s40 s41 s42 s43 s44 s45 s46 s47 s48 s49 s50 s51 s52 s53 s54 s55 s56 : AV) : xBs xOs [s0,s1,s2,s3,s4,s5,s6,s7,s8,s9,s10,s11,s12,s13,s14,s15,s16,s17,s18,s19,s20,s21,s22,s23,s24,s25,s26,s27,s28,s29,s30,s31,s32,s33,s34,s35,s36,s37,s38,s39,s40,s41,s42,s43,s44,s45,s46,s47,s48,s49,s50,s51,s52,s53,s54,s55,s56] = xQL s1 s2 s6 s7 s8 := by kernel_rfl
theorem yDd {prog : Nat → Option AFunc} (s1 s2 s6 s7 s8 : AV) (H : xAv) : (lim prog).loop xOs xWa ⟨xQL s1 s2 s6 s7 s8,H⟩ = xB9 (lim prog) xOs xWa (run (lim prog) xU8 ⟨xQL s1 s2 s6 s7 s8,H⟩) := xAI _ _ _ _ (by kernel_rfl)

def a54 : AFunc := ⟨57,
 .seq (.region [⟨some 2,.box (.t 0),none⟩,
 ⟨some 4,.mov (.c (.sl true 0 [])),none⟩])
 (.seq (.region [⟨some 9,.mov (.t 1),none⟩,
 ⟨some 10,.len (.t 9),none⟩,
 ⟨some 5,.box (.c (.int Go.IntKind.i64 0)),none⟩,
 ⟨none,.store 1 (.t 5) (.t 10),none⟩])
 (.seq (.region [⟨some 11,.load false 1 (.t 5),none⟩,
 ⟨some 12,.bin .add (.t 11) (.c (.int Go.IntKind.i64 1)),none⟩,
 ⟨some 13,.mkslice false [.int Go.IntKind.i64 0] 8 (.t 12) (.t 12),none⟩,
 ⟨some 6,.box (.c (.sl true 0 [])),none⟩,
 ⟨none,.store 1 (.t 6) (.t 13),none⟩])
 (.seq (.region [⟨some 14,.load false 1 (.t 6),none⟩,
 ⟨some 15,.load false 1 (.t 5),none⟩,
 ⟨some 16,.faddr 1 (.t 2),none⟩,
 ⟨some 17,.load false 1 (.t 16),none⟩,
 ⟨some 18,.iaddr 1 (.t 14) (.t 15),none⟩,
 ⟨none,.store 1 (.t 18) (.t 17),none⟩])
 (.seq (.region [⟨some 19,.mkfunc 100 [(.t 5),(.t 6)],none⟩,
 ⟨some 7,.mov (.t 19),none⟩])
 (.seq (.seq (.region [⟨some 20,.load false 1 (.t 5),none⟩,
 ⟨some 21,.bin .sub (.t 20) (.c (.int Go.IntKind.i64 1)),none⟩,
 ⟨some 8,.mov (.t 21),none⟩])
 (.block 0 (.loop xOs xWa)))
 (.seq (.region [⟨some 56,.load false 1 (.t 6),none⟩,
 ⟨some 4,.mov (.t 56),none⟩])
 (.ret))))))),
 [.tmp 4]⟩

def a56 : AFunc := ⟨23,
 .seq (.region [⟨some 1,.box (.t 0),none⟩,
 ⟨some 2,.box (.c (.agg [.int Go.IntKind.i64 0,.int Go.IntKind.i64 0,.sl true 0 [],.sl true 0 []])),none⟩])
 (.seq (.region [⟨some 5,.mkmap,none⟩,
 ⟨some 6,.faddr 1 (.t 1),none⟩,
 ⟨some 7,.load false 1 (.t 6),none⟩,
 ⟨none,.mupd [0] (.t 5) (.t 7) (.c (.int Go.IntKind.i64 0)),none⟩,
 ⟨some 8,.mov (.t 5),none⟩,
 ⟨some 3,.box (.c (.nilm)),none⟩,
 ⟨none,.store 1 (.t 3) (.t 8),none⟩])
 (.seq (.region [⟨some 9,.faddr 1 (.t 1),none⟩,
 ⟨some 10,.load false 1 (.t 9),none⟩,
 ⟨some 11,.bslice false [.int Go.IntKind.i64 0] 1 1 [(0,(.t 10))],none⟩,
 ⟨some 4,.box (.c (.sl true 0 [])),none⟩,
 ⟨none,.store 1 (.t 4) (.t 11),none⟩])
 (.seq (.region [⟨some 12,.faddr 0 (.t 1),none⟩,
 ⟨some 13,.load false 1 (.t 12),none⟩,
 ⟨some 14,.mkfunc 102 [(.t 1),(.t 4),(.t 3)],none⟩,
 ⟨some 15,.icall (.c (.func 75 [])) [(.t 13),(.t 14)],none⟩])
 (.seq (.region [⟨some 16,.faddr 0 (.t 1),none⟩,
 ⟨some 17,.load false 1 (.t 16),none⟩,
 ⟨some 18,.load false 1 (.t 4),none⟩,
 ⟨some 19,.len (.t 18),none⟩,
 ⟨some 20,.mkfunc 103 [(.t 3),(.t 1),(.t 4)],none⟩,
 ⟨some 21,.mkfunc 104 [(.t 1),(.t 4)],none⟩,
 ⟨some 22,.icall (.c (.func 61 [])) [(.t 17),(.t 19),(.t 20),(.t 21)],none⟩,
 ⟨none,.store 4 (.t 2) (.t 22),none⟩])
 (.ret))))),
 [.cell 2 true 4]⟩

def xU9 : ACode :=
 .seq (.region [⟨some 52,.bin .lss (.t 51) (.t 50),none⟩])
 (.seq (.cond (.t 52)
 (.skip)
 (.exit 6))
 (.seq (.block 7 (.seq (.region [⟨some 53,.mov (.t 51),none⟩,
 ⟨some 10,.mov (.t 53),none⟩])
 (.seq (.region [⟨some 54,.mov (.t 8),none⟩,
 ⟨some 55,.faddr 2 (.t 1),none⟩,
 ⟨some 56,.load false 1 (.t 55),none⟩,
 ⟨some 57,.mov (.t 6),none⟩,
 ⟨some 58,.iaddr 1 (.t 56) (.t 57),none⟩,
 ⟨some 59,.load false 1 (.t 58),none⟩,
 ⟨some 60,.mov (.t 9),none⟩,
 ⟨some 61,.iaddr 1 (.t 59) (.t 60),none⟩,
 ⟨some 62,.load false 1 (.t 61),none⟩,
 ⟨some 63,.mov (.t 10),none⟩,
 ⟨some 64,.iaddr 1 (.t 62) (.t 63),none⟩,
 ⟨some 65,.load false 1 (.t 64),none⟩,
 ⟨some 66,.icall (.t 54) [(.t 65)],none⟩])
 (.region [⟨some 67,.mov (.t 8),none⟩,
 ⟨some 68,.faddr 2 (.t 1),none⟩,
 ⟨some 69,.load false 1 (.t 68),none⟩,
 ⟨some 70,.mov (.t 9),none⟩,
 ⟨some 71,.iaddr 1 (.t 69) (.t 70),none⟩,
 ⟨some 72,.load false 1 (.t 71),none⟩,
 ⟨some 73,.mov (.t 6),none⟩,
 ⟨some 74,.iaddr 1 (.t 72) (.t 73),none⟩,
 ⟨some 75,.load false 1 (.t 74),none⟩,
 ⟨some 76,.mov (.t 10),none⟩,
 ⟨some 77,.iaddr 1 (.t 75) (.t 76),none⟩,
 ⟨some 78,.load false 1 (.t 77),none⟩,
 ⟨some 79,.icall (.t 67) [(.t 78)],none⟩]))))
 (.region [⟨some 80,.bin .add (.t 51) (.c (.int Go.IntKind.i64 1)),none⟩,
 ⟨some 51,.mov (.t 80),none⟩])))

def xWb : ACode := xU9
def xOt : List Nat := [0,10,11,12,13,14,15,16,17,18,19,20,21,24,25,26,27,28,29,30,31,32,33,34,35,36,37,40,41,42,43,44,45,46,47,48,49,52,53,54,55,56,57,58,59,60,61,62,63,64,65,66,67,68,69,70,71,72,73,74,75,76,77,78,79,80,81,82,83,84,85,86,87,88,89,90,91,92,93,94,95,96,97,98,99,100,101,102,103,104,105,106,107,108,109,110]
abbrev xQM (s1 s2 s3 s4 s5 s6 s7 s8 s9 s22 s23 s38 s39 s50 s51 : AV) : List AV := [.any,s1,s2,s3,s4,s5,s6,s7,s8,s9,.any,.any,.any,.any,.any,.any,.any,.any,.any,.any,.any,.any,s22,s23,.any,.any,.any,.any,.any,.any,.any,.any,.any,.any,.any,.any,.any,.any,s38,s39,.any,.any,.any,.any,.any,.any,.any,.any,.any,.any,s50,s51,.any,.any,.any,.any,.any,.any,.any,.any,.any,.any,.any,.any,.any,.any,.any,.any,.any,.any,.any,.any,.any,.any,.any,.any,.any,.any,.any,.any,.any,.any,.any,.any,.any,.any,.any,.any,.any,.any,.any,.any,.any,.any,.any,.any,.any,.any,.any,.any,.any,.any,.any,.any,.any,.any,.any,.any,.any,.any,.any]
theorem yDe (s0 s1 s2 s3 s4 s5 s6 s7 s8 s9 s10 s11 s12 s13 s14 s15 s16 s17 s18 s19 s20 s21 s22 s23 s24 s25 s26 s27 s28 s29 s30 s31 s32 s33 s34 s35 s36 s37 s38 s39 s40 s41 s42 s43 s44 s45 s46 s47 s48 s49 s50 s51 s52 s53 s54 s55 s56 s57 s58 s59 s60 s61 s62 s63 s64 s65 s66 s67 s68 s69 s70 s71 s72 s73 s74 s75 s76 s77 s78 s79 s80 s81 s82 s83 s84 s85 s86 s87 s88 s89 s90 s91 s92 s93 s94 s95 s96 s97 s98 s99 s100 s101 s102 s103 s104 s105 s106 s107 s108 s109 s110 : AV) : xBs xOt [s0,s1,s2,s3,s4,s5,s6,s7,s8,s9,s10,s11,s12,s13,s14,s15,s16,s17,s18,s19,s20,s21,s22,s23,s24,s25,s26,s27,s28,s29,s30,s31,s32,s33,s34,s35,s36,s37,s38,s39,s40,s41,s42,s43,s44,s45,s46,s47,s48,s49,s50,s51,s52,s53,s54,s55,s56,s57,s58,s59,s60,s61,s62,s63,s64,s65,s66,s67,s68,s69,s70,s71,s72,s73,s74,s75,s76,s77,s78,s79,s80,s81,s82,s83,s84,s85,s86,s87,s88,s89,s90,s91,s92,s93,s94,s95,s96,s97,s98,s99,s100,s101,s102,s103,s104,s105,s106,s107,s108,s109,s110] = xQM s1 s2 s3 s4 s5 s6 s7 s8 s9 s22 s23 s38 s39 s50 s51 := by kernel_rfl
theorem yDf {prog : Nat → Option AFunc} (s1 s2 s3 s4 s5 s6 s7 s8 s9 s22 s23 s38 s39 s50 s51 : AV) (H : xAv) : (lim prog).loop xOt xWb ⟨xQM s1 s2 s3 s4 s5 s6 s7 s8 s9 s22 s23 s38 s39 s50 s51,H⟩ = xB9 (lim prog) xOt xWb (run (lim prog) xU9 ⟨xQM s1 s2 s3 s4 s5 s6 s7 s8 s9 s22 s23 s38 s39 s50 s51,H⟩) := xAI _ _ _ _ (by kernel_rfl)

def xVa : ACode :=
 .seq (.region [⟨some 40,.bin .lss (.t 39) (.t 38),none⟩])
 (.seq (.cond (.t 40)
 (.skip)
 (.exit 4))
 (.seq (.block 5 (.seq (.region [⟨some 41,.mov (.t 39),none⟩,
 ⟨some 9,.mov (.t 41),none⟩])
 (.seq (.region [⟨some 42,.faddr 2 (.t 1),none⟩,
 ⟨some 43,.load false 1 (.t 42),none⟩,
 ⟨some 44,.mov (.t 6),none⟩,
 ⟨some 45,.iaddr 1 (.t 43) (.t 44),none⟩,
 ⟨some 46,.load false 1 (.t 45),none⟩,
 ⟨some 47,.mov (.t 9),none⟩,
 ⟨some 48,.iaddr 1 (.t 46) (.t 47),none⟩,
 ⟨some 49,.load false 1 (.t 48),none⟩,
 ⟨some 50,.len (.t 49),none⟩,
 ⟨some 51,.mov (.c (.int Go.IntKind.i64 0)),none⟩])
 (.block 6 (.loop xOt xWb)))))
 (.region [⟨some 81,.bin .add (.t 39) (.c (.int Go.IntKind.i64 1)),none⟩,
 ⟨some 39,.mov (.t 81),none⟩])))

def xWc : ACode := xVa
def xOu : List Nat := [0,9,10,11,12,13,14,15,16,17,18,19,20,21,24,25,26,27,28,29,30,31,32,33,34,35,36,37,40,41,42,43,44,45,46,47,48,49,50,51,52,53,54,55,56,57,58,59,60,61,62,63,64,65,66,67,68,69,70,71,72,73,74,75,76,77,78,79,80,81,82,83,84,85,86,87,88,89,90,91,92,93,94,95,96,97,98,99,100,101,102,103,104,105,106,107,108,109,110]
abbrev xQN (s1 s2 s3 s4 s5 s6 s7 s8 s22 s23 s38 s39 : AV) : List AV := [.any,s1,s2,s3,s4,s5,s6,s7,s8,.any,.any,.any,.any,.any,.any,.any,.any,.any,.any,.any,.any,.any,s22,s23,.any,.any,.any,.any,.any,.any,.any,.any,.any,.any,.any,.any,.any,.any,s38,s39,.any,.any,.any,.any,.any,.any,.any,.any,.any,.any,.any,.any,.any,.any,.any,.any,.any,.any,.any,.any,.any,.any,.any,.any,.any,.any,.any,.any,.any,.any,.any,.any,.any,.any,.any,.any,.any,.any,.any,.any,.any,.any,.any,.any,.any,.any,.any,.any,.any,.any,.any,.any,.any,.any,.any,.any,.any,.any,.any,.any,.any,.any,.any,.any,.any,.any,.any,.any,.any,.any,.any]
theorem yDg (s0 s1 s2 s3 s4 s5 s6 s7 s8 s9 s10 s11 s12 s13 s14 s15 s16 s17 s18 s19 s20 s21 s22 s23 s24 s25 s26 s27 s28 s29 s30 s31 s32 s33 s34 s35 s36 s37 s38 s39 s40 s41 s42 s43 s44 s45 s46 s47 s48 s49 s50 s51 s52 s53 s54 s55 s56 s57 s58 s59 s60 s61 s62 s63 s64 s65 s66 s67 s68 s69 s70 s71 s72 s73 s74 s75 s76 s77 s78 s79 s80 s81 s82 s83 s84 s85 s86 s87 s88 s89 s90 s91 s92 s93 s94 s95 s96 s97 s98 s99 s100 s101 s102 s103 s104 s105 s106 s107 s108 s109 s110 : AV) : xBs xOu [s0,s1,s2,s3,s4,s5,s6,s7,s8,s9,s10,s11,s12,s13,s14,s15,s16,s17,s18,s19,s20,s21,s22,s23,s24,s25,s26,s27,s28,s29,s30,s31,s32,s33,s34,s35,s36,s37,s38,s39,s40,s41,s42,s43,s44,s45,s46,s47,s48,s49,s50,s51,s52,s53,s54,s55,s56,s57,s58,s59,s60,s61,s62,s63,s64,s65,s66,s67,s68,s69,s70,s71,s72,s73,s74,s75,s76,s77,s78,s79,s80,s81,s82,s83,s84,s85,s86,s87,s88,s89,s90,s91,s92,s93,s94,s95,s96,s97,s98,s99,s100,s101,s102,s103,s104,s105,s106,s107,s108,s109,s110] = xQN s1 s2 s3 s4 s5 s6 s7 s8 s22 s23 s38 s39 := by kernel_rfl
theorem yDh {prog : Nat → Option AFunc} (s1 s2 s3 s4 s5 s6 s7 s8 s22 s23 s38 s39 : AV) (H : xAv) : (lim prog).loop xOu xWc ⟨xQN s1 s2 s3 s4 s5 s6 s7 s8 s22 s23 s38 s39,H⟩ = xB9 (lim prog) xOu xWc (run (lim prog) xVa ⟨xQN s1 s2 s3 s4 s5 s6 s7 s8 s22 s23 s38 s39,H⟩) := xAI _ _ _ _ (by kernel_rfl)

def xVb : ACode :=
 .seq (.region [⟨some 24,.bin .lss (.t 23) (.t 22),none⟩])
 (.seq (.cond (.t 24)
 (.skip)
 (.exit 2))
 (.seq (.block 3 (.seq (.region [⟨some 25,.mov (.t 23),none⟩,
 ⟨some 6,.mov (.t 25),none⟩])
 (.seq (.region [⟨some 26,.faddr 3 (.t 1),none⟩,
 ⟨some 27,.load false 1 (.t 26),none⟩,
 ⟨some 28,.mov (.t 6),none⟩,
 ⟨some 29,.iaddr 1 (.t 27) (.t 28),none⟩,
 ⟨some 30,.load false 1 (.t 29),none⟩,
 ⟨some 31,.call 105 [(.t 30)],none⟩,
 ⟨some 32,.sbytes false (.t 31),none⟩,
 ⟨some 7,.box (.c (.sl true 0 [])),none⟩,
 ⟨none,.store 1 (.t 7) (.t 32),none⟩])
 (.seq (.region [⟨some 33,.mkfunc 106 [(.t 7),(.t 2)],none⟩,
 ⟨some 8,.mov (.t 33),none⟩])
 (.seq (.region [⟨some 34,.mov (.t 8),none⟩,
 ⟨some 35,.mov (.t 6),none⟩,
 ⟨some 36,.icall (.t 34) [(.t 35)],none⟩])
 (.seq (.seq (.region [⟨some 37,.load false 1 (.t 2),none⟩,
 ⟨some 38,.len (.t 37),none⟩,
 ⟨some 39,.mov (.c (.int Go.IntKind.i64 0)),none⟩])
 (.block 4 (.loop xOu xWc)))
 (.seq (.region [⟨some 83,.mov (.t 4),none⟩,
 ⟨some 84,.load false 1 (.t 7),none⟩,
 ⟨some 85,.bstr (.t 84),none⟩,
 ⟨some 86,.mlook [1] true (.int Go.IntKind.i64 0) (.t 83) (.t 85),none⟩,
 ⟨some 82,.mov (.t 86),none⟩,
 ⟨some 87,.ext 0 (.t 82),none⟩,
 ⟨some 88,.ext 1 (.t 82),none⟩,
 ⟨some 11,.mov (.t 87),none⟩,
 ⟨some 12,.mov (.t 88),none⟩])
 (.seq (.seq (.region [⟨some 89,.mov (.t 12),none⟩,
 ⟨some 90,.un .not (.t 89),none⟩])
 (.cond (.t 90)
 (.seq (.region [⟨some 91,.mov (.t 4),none⟩,
 ⟨some 92,.mlen (.t 91),none⟩,
 ⟨some 11,.mov (.t 92),none⟩])
 (.region [⟨some 93,.mov (.t 4),none⟩,
 ⟨some 94,.load false 1 (.t 7),none⟩,
 ⟨some 95,.bstr (.t 94),none⟩,
 ⟨some 96,.mov (.t 11),none⟩,
 ⟨none,.mupd [1] (.t 93) (.t 95) (.t 96),none⟩]))
 (.skip)))
 (.region [⟨some 97,.mov (.t 5),none⟩,
 ⟨some 98,.mov (.t 6),none⟩,
 ⟨some 99,.mov (.t 11),none⟩,
 ⟨some 100,.iaddr 1 (.t 97) (.t 98),none⟩,
 ⟨none,.store 1 (.t 100) (.t 99),none⟩])))))))))
 (.region [⟨some 101,.bin .add (.t 23) (.c (.int Go.IntKind.i64 1)),none⟩,
 ⟨some 23,.mov (.t 101),none⟩])))

def xWd : ACode := xVb
def xOv : List Nat := [0,6,7,8,9,10,11,12,13,14,15,16,17,18,19,20,21,24,25,26,27,28,29,30,31,32,33,34,35,36,37,38,39,40,41,42,43,44,45,46,47,48,49,50,51,52,53,54,55,56,57,58,59,60,61,62,63,64,65,66,67,68,69,70,71,72,73,74,75,76,77,78,79,80,81,82,83,84,85,86,87,88,89,90,91,92,93,94,95,96,97,98,99,100,101,102,103,104,105,106,107,108,109,110]
abbrev xQO (s1 s2 s3 s4 s5 s22 s23 : AV) : List AV := [.any,s1,s2,s3,s4,s5,.any,.any,.any,.any,.any,.any,.any,.any,.any,.any,.any,.any,.any,.any,.any,.any,s22,s23,.any,.any,.any,.any,.any,.any,.any,.any,.any,.any,.any,.any,.any,.any,.any,.any,.any,.any,.any,.any,.any,.any,.any,.any,.any,.any,.any,.any,.any,.any,.any,.any,.any,.any,.any,.any,.any,.any,.any,.any,.any,.any,.any,.any,.any,.any,.any,.any,.any,.any,.any,.any,.any,.any,.any,.any,.any,.any,.any,.any,.any,.any,.any,.any,.any,.any,.any,.any,.any,.any,.any,.any,.any,.any,.any,.any,.any,.any,.any,.any,.any,.any,.any,.any,.any,.any,.any]
theorem yDi (s0 s1 s2 s3 s4 s5 s6 s7 s8 s9 s10 s11 s12 s13 s14 s15 s16 s17 s18 s19 s20 s21 s22 s23 s24 s25 s26 s27 s28 s29 s30 s31 s32 s33 s34 s35 s36 s37 s38 s39 s40 s41 s42 s43 s44 s45 s46 s47 s48 s49 s50 s51 s52 s53 s54 s55 s56 s57 s58 s59 s60 s61 s62 s63 s64 s65 s66 s67 s68 s69 s70 s71 s72 s73 s74 s75 s76 s77 s78 s79 s80 s81 s82 s83 s84 s85 s86 s87 s88 s89 s90 s91 s92 s93 s94 s95 s96 s97 s98 s99 s100 s101 s102 s103 s104 s105 s106 s107 s108 s109 s110 : AV) : xBs xOv [s0,s1,s2,s3,s4,s5,s6,s7,s8,s9,s10,s11,s12,s13,s14,s15,s16,s17,s18,s19,s20,s21,s22,s23,s24,s25,s26,s27,s28,s29,s30,s31,s32,s33,s34,s35,s36,s37,s38,s39,s40,s41,s42,s43,s44,s45,s46,s47,s48,s49,s50,s51,s52,s53,s54,s55,s56,s57,s58,s59,s60,s61,s62,s63,s64,s65,s66,s67,s68,s69,s70,s71,s72,s73,s74,s75,s76,s77,s78,s79,s80,s81,s82,s83,s84,s85,s86,s87,s88,s89,s90,s91,s92,s93,s94,s95,s96,s97,s98,s99,s100,s101,s102,s103,s104,s105,s106,s107,s108,s109,s110] = xQO s1 s2 s3 s4 s5 s22 s23 := by kernel_rfl
theorem yDj {prog : Nat → Option AFunc} (s1 s2 s3 s4 s5 s22 s23 : AV) (H : xAv) : (lim prog).loop xOv xWd ⟨xQO s1 s2 s3 s4 s5 s22 s23,H⟩ = xB9 (lim prog) xOv xWd (run (lim prog) xVb ⟨xQO s1 s2 s3 s4 s5 s22 s23,H⟩) := xAI _ _ _ _ (by kernel_rfl)

def xVc : ACode :=
 .block 1 (.seq (.region [⟨some 17,.mkmap,none⟩,
 ⟨some 4,.mov (.t 17),none⟩])
 (.seq (.region [⟨some 18,.load false 1 (.t 2),none⟩,
 ⟨some 19,.len (.t 18),none⟩,
 ⟨some 20,.mkslice false [.int Go.IntKind.i64 0] 8 (.t 19) (.t 19),none⟩,
 ⟨some 5,.mov (.t 20),none⟩])
 (.seq (.seq (.region [⟨some 21,.load false 1 (.t 2),none⟩,
 ⟨some 22,.len (.t 21),none⟩,
 ⟨some 23,.mov (.c (.int Go.IntKind.i64 0)),none⟩])
 (.block 2 (.loop xOv xWd)))
 (.seq (.seq (.region [⟨some 102,.mov (.t 4),none⟩,
 ⟨some 103,.mlen (.t 102),none⟩,
 ⟨some 104,.mov (.t 3),none⟩,
 ⟨some 105,.bin .eql (.t 103) (.t 104),none⟩])
 (.cond (.t 105)
 (.seq (.region [⟨some 106,.mov (.t 5),none⟩,
 ⟨some 107,.mov (.t 3),none⟩,
 ⟨none,.store 1 (.t 2) (.t 106),none⟩,
 ⟨some 3,.mov (.t 107),none⟩])
 (.ret))
 (.skip)))
 (.region [⟨some 108,.mov (.t 5),none⟩,
 ⟨some 109,.mov (.t 4),none⟩,
 ⟨some 110,.mlen (.t 109),none⟩,
 ⟨none,.store 1 (.t 2) (.t 108),none⟩,
 ⟨some 3,.mov (.t 110),none⟩])))))

def xWe : ACode := xVc
def xOw : List Nat := [0,4,5,6,7,8,9,10,11,12,13,14,15,16,17,18,19,20,21,22,23,24,25,26,27,28,29,30,31,32,33,34,35,36,37,38,39,40,41,42,43,44,45,46,47,48,49,50,51,52,53,54,55,56,57,58,59,60,61,62,63,64,65,66,67,68,69,70,71,72,73,74,75,76,77,78,79,80,81,82,83,84,85,86,87,88,89,90,91,92,93,94,95,96,97,98,99,100,101,102,103,104,105,106,107,108,109,110]
abbrev xQP (s1 s2 s3 : AV) : List AV := [.any,s1,s2,s3,.any,.any,.any,.any,.any,.any,.any,.any,.any,.any,.any,.any,.any,.any,.any,.any,.any,.any,.any,.any,.any,.any,.any,.any,.any,.any,.any,.any,.any,.any,.any,.any,.any,.any,.any,.any,.any,.any,.any,.any,.any,.any,.any,.any,.any,.any,.any,.any,.any,.any,.any,.any,.any,.any,.any,.any,.any,.any,.any,.any,.any,.any,.any,.any,.any,.any,.any,.any,.any,.any,.any,.any,.any,.any,.any,.any,.any,.any,.any,.any,.any,.any,.any,.any,.any,.any,.any,.any,.any,.any,.any,.any,.any,.any,.any,.any,.any,.any,.any,.any,.any,.any,.any,.any,.any,.any,.any]
theorem yDk (s0 s1 s2 s3 s4 s5 s6 s7 s8 s9 s10 s11 s12 s13 s14 s15 s16 s17 s18 s19 s20 s21 s22 s23 s24 s25 s26 s27 s28 s29 s30 s31 s32 s33 s34 s35 s36 s37 s38 s39 s40 s41 s42 s43 s44 s45 s46 s47 s48 s49 s50 s51 s52 s53 s54 s55 s56 s57 s58 s59 s60 s61 s62 s63 s64 s65 s66 s67 s68 s69 s70 s71 s72 s73 s74 s75 s76 s77 s78 s79 s80 s81 s82 s83 s84 s85 s86 s87 s88 s89 s90 s91 s92 s93 s94 s95 s96 s97 s98 s99 s100 s101 s102 s103 s104 s105 s106 s107 s108 s109 s110 : AV) : xBs xOw [s0,s1,s2,s3,s4,s5,s6,s7,s8,s9,s10,s11,s12,s13,s14,s15,s16,s17,s18,s19,s20,s21,s22,s23,s24,s25,s26,s27,s28,s29,s30,s31,s32,s33,s34,s35,s36,s37,s38,s39,s40,s41,s42,s43,s44,s45,s46,s47,s48,s49,s50,s51,s52,s53,s54,s55,s56,s57,s58,s59,s60,s61,s62,s63,s64,s65,s66,s67,s68,s69,s70,s71,s72,s73,s74,s75,s76,s77,s78,s79,s80,s81,s82,s83,s84,s85,s86,s87,s88,s89,s90,s91,s92,s93,s94,s95,s96,s97,s98,s99,s100,s101,s102,s103,s104,s105,s106,s107,s108,s109,s110] = xQP s1 s2 s3 := by kernel_rfl
theorem yDl {prog : Nat → Option AFunc} (s1 s2 s3 : AV) (H : xAv) : (lim prog).loop xOw xWe ⟨xQP s1 s2 s3,H⟩ = xB9 (lim prog) xOw xWe (run (lim prog) xVc ⟨xQP s1 s2 s3,H⟩) := xAI _ _ _ _ (by kernel_rfl)

def a60 : AFunc := ⟨111,
 .seq (.region [⟨some 1,.box (.t 0),none⟩,
 ⟨some 2,.box (.c (.sl true 0 [])),none⟩,
 ⟨some 3,.mov (.c (.int Go.IntKind.i64 0)),none⟩])
 (.seq (.region [⟨some 13,.faddr 2 (.t 1),none⟩,
 ⟨some 14,.load false 1 (.t 13),none⟩,
 ⟨some 15,.len (.t 14),none⟩,
 ⟨some 16,.mkslice false [.int Go.IntKind.i64 0] 8 (.t 15) (.t 15),none⟩,
 ⟨none,.store 1 (.t 2) (.t 16),none⟩])
 (.block 0 (.loop xOw xWe))),
 [.cell 2 false 1,.tmp 3]⟩

def xLx : ACode :=
 .seq (.region [⟨some 30,.bin .lss (.t 29) (.t 28),none⟩])
 (.seq (.cond (.t 30)
 (.skip)
 (.exit 4))
 (.seq (.block 5 (.seq (.region [⟨some 31,.mov (.t 29),none⟩,
 ⟨some 13,.mov (.t 31),none⟩])
 (.drawh [(36,(1,10))] [] [] 6 [⟨some 32,.mov (.t 11),none⟩,
 ⟨some 33,.mov (.t 12),none⟩,
 ⟨some 34,.mov (.t 11),none⟩,
 ⟨some 35,.mov (.t 12),none⟩,
 ⟨some 36,.iaddr 1 (.t 34) (.t 35),none⟩,
 ⟨some 37,.load false 1 (.t 36),none⟩,
 ⟨some 38,.mov (.t 2),none⟩,
 ⟨some 39,.mov (.t 10),none⟩,
 ⟨some 40,.mov (.t 12),none⟩,
 ⟨some 41,.mov (.t 13),none⟩,
 ⟨some 42,.icall (.t 38) [(.t 39),(.t 40),(.t 41)],none⟩,
 ⟨some 43,.bslice true [.int Go.IntKind.i64 0] 1 1 [(0,(.t 42))],none⟩,
 ⟨some 44,.append false 1 8 (.t 37) (.t 43),none⟩,
 ⟨some 45,.iaddr 1 (.t 32) (.t 33),none⟩,
 ⟨none,.store 1 (.t 45) (.t 44),none⟩])))
 (.region [⟨some 46,.bin .add (.t 29) (.c (.int Go.IntKind.i64 1)),none⟩,
 ⟨some 29,.mov (.t 46),none⟩])))

def xQQ : ACode := xLx
def xJL : List Nat := [4,5,6,7,13,14,15,18,19,20,21,22,25,26,27,30,31,32,33,34,35,36,37,38,39,40,41,42,43,44,45,46,47,48,49,50,51,52,53,54,55,56,57,58,59,60,61,62,63]
abbrev xIm (s0 s1 s2 s3 s8 s9 s10 s11 s12 s16 s17 s23 s24 s28 s29 : AV) : List AV := [s0,s1,s2,s3,.any,.any,.any,.any,s8,s9,s10,s11,s12,.any,.any,.any,s16,s17,.any,.any,.any,.any,.any,s23,s24,.any,.any,.any,s28,s29,.any,.any,.any,.any,.any,.any,.any,.any,.any,.any,.any,.any,.any,.any,.any,.any,.any,.any,.any,.any,.any,.any,.any,.any,.any,.any,.any,.any,.any,.any,.any,.any,.any,.any]
theorem xOx (s0 s1 s2 s3 s4 s5 s6 s7 s8 s9 s10 s11 s12 s13 s14 s15 s16 s17 s18 s19 s20 s21 s22 s23 s24 s25 s26 s27 s28 s29 s30 s31 s32 s33 s34 s35 s36 s37 s38 s39 s40 s41 s42 s43 s44 s45 s46 s47 s48 s49 s50 s51 s52 s53 s54 s55 s56 s57 s58 s59 s60 s61 s62 s63 : AV) : xBs xJL [s0,s1,s2,s3,s4,s5,s6,s7,s8,s9,s10,s11,s12,s13,s14,s15,s16,s17,s18,s19,s20,s21,s22,s23,s24,s25,s26,s27,s28,s29,s30,s31,s32,s33,s34,s35,s36,s37,s38,s39,s40,s41,s42,s43,s44,s45,s46,s47,s48,s49,s50,s51,s52,s53,s54,s55,s56,s57,s58,s59,s60,s61,s62,s63] = xIm s0 s1 s2 s3 s8 s9 s10 s11 s12 s16 s17 s23 s24 s28 s29 := by kernel_rfl
theorem xQR {prog : Nat → Option AFunc} (s0 s1 s2 s3 s8 s9 s10 s11 s12 s16 s17 s23 s24 s28 s29 : AV) (H : xAv) : (lim prog).loop xJL xQQ ⟨xIm s0 s1 s2 s3 s8 s9 s10 s11 s12 s16 s17 s23 s24 s28 s29,H⟩ = xB9 (lim prog) xJL xQQ (run (lim prog) xLx ⟨xIm s0 s1 s2 s3 s8 s9 s10 s11 s12 s16 s17 s23 s24 s28 s29,H⟩) := xAI _ _ _ _ (by kernel_rfl)

def xOy : ACode :=
 .seq (.region [⟨some 25,.bin .lss (.t 24) (.t 23),none⟩])
 (.seq (.cond (.t 25)
 (.skip)
 (.exit 2))
 (.seq (.block 3 (.seq (.region [⟨some 26,.mov (.t 24),none⟩,
 ⟨some 12,.mov (.t 26),none⟩])
 (.seq (.region [⟨some 27,.mov (.t 0),none⟩,
 ⟨some 28,.bin .shl (.c (.int Go.IntKind.i64 1)) (.t 27),none⟩,
 ⟨some 29,.mov (.c (.int Go.IntKind.i64 0)),none⟩])
 (.block 4 (.loop xJL xQQ)))))
 (.region [⟨some 47,.bin .add (.t 24) (.c (.int Go.IntKind.i64 1)),none⟩,
 ⟨some 24,.mov (.t 47),none⟩])))

def xTm : ACode := xOy
def xLy : List Nat := [4,5,6,7,12,13,14,15,18,19,20,21,22,25,26,27,28,29,30,31,32,33,34,35,36,37,38,39,40,41,42,43,44,45,46,47,48,49,50,51,52,53,54,55,56,57,58,59,60,61,62,63]
abbrev xLz (s0 s1 s2 s3 s8 s9 s10 s11 s16 s17 s23 s24 : AV) : List AV := [s0,s1,s2,s3,.any,.any,.any,.any,s8,s9,s10,s11,.any,.any,.any,.any,s16,s17,.any,.any,.any,.any,.any,s23,s24,.any,.any,.any,.any,.any,.any,.any,.any,.any,.any,.any,.any,.any,.any,.any,.any,.any,.any,.any,.any,.any,.any,.any,.any,.any,.any,.any,.any,.any,.any,.any,.any,.any,.any,.any,.any,.any,.any,.any]
theorem xOz (s0 s1 s2 s3 s4 s5 s6 s7 s8 s9 s10 s11 s12 s13 s14 s15 s16 s17 s18 s19 s20 s21 s22 s23 s24 s25 s26 s27 s28 s29 s30 s31 s32 s33 s34 s35 s36 s37 s38 s39 s40 s41 s42 s43 s44 s45 s46 s47 s48 s49 s50 s51 s52 s53 s54 s55 s56 s57 s58 s59 s60 s61 s62 s63 : AV) : xBs xLy [s0,s1,s2,s3,s4,s5,s6,s7,s8,s9,s10,s11,s12,s13,s14,s15,s16,s17,s18,s19,s20,s21,s22,s23,s24,s25,s26,s27,s28,s29,s30,s31,s32,s33,s34,s35,s36,s37,s38,s39,s40,s41,s42,s43,s44,s45,s46,s47,s48,s49,s50,s51,s52,s53,s54,s55,s56,s57,s58,s59,s60,s61,s62,s63] = xLz s0 s1 s2 s3 s8 s9 s10 s11 s16 s17 s23 s24 := by kernel_rfl
theorem xVd {prog : Nat → Option AFunc} (s0 s1 s2 s3 s8 s9 s10 s11 s16 s17 s23 s24 : AV) (H : xAv) : (lim prog).loop xLy xTm ⟨xLz s0 s1 s2 s3 s8 s9 s10 s11 s16 s17 s23 s24,H⟩ = xB9 (lim prog) xLy xTm (run (lim prog) xOy ⟨xLz s0 s1 s2 s3 s8 s9 s10 s11 s16 s17 s23 s24,H⟩) := xAI _ _ _ _ (by kernel_rfl)

def xLA : ACode :=
 .seq (.region [⟨some 18,.bin .lss (.t 17) (.t 16),none⟩])
 (.seq (.cond (.t 18)
 (.skip)
 (.exit 0))
 (.seq (.block 1 (.seq (.region [⟨some 19,.mov (.t 17),none⟩,
 ⟨some 10,.mov (.t 19),none⟩])
 (.seq (.region [⟨some 20,.mov (.t 1),none⟩,
 ⟨some 21,.mkslice false [.sl true 0 []] 24 (.t 20) (.t 20),none⟩,
 ⟨some 11,.mov (.t 21),none⟩])
 (.seq (.seq (.region [⟨some 22,.mov (.t 11),none⟩,
 ⟨some 23,.len (.t 22),none⟩,
 ⟨some 24,.mov (.c (.int Go.IntKind.i64 0)),none⟩])
 (.block 2 (.loop xLy xTm)))
 (.seq (.region [⟨some 48,.faddr 2 (.t 9),none⟩,
 ⟨some 49,.load false 1 (.t 48),none⟩,
 ⟨some 50,.mov (.t 11),none⟩,
 ⟨some 51,.bslice false [.sl true 0 []] 1 1 [(0,(.t 50))],none⟩,
 ⟨some 52,.append false 1 24 (.t 49) (.t 51),none⟩,
 ⟨some 53,.faddr 2 (.t 9),none⟩,
 ⟨none,.store 1 (.t 53) (.t 52),none⟩])
 (.drawh [(54,(1,4))] [] [] 2 [⟨some 54,.faddr 3 (.t 9),none⟩,
 ⟨some 55,.load false 1 (.t 54),none⟩,
 ⟨some 56,.mov (.t 3),none⟩,
 ⟨some 57,.mov (.t 10),none⟩,
 ⟨some 58,.icall (.t 56) [(.t 57)],none⟩,
 ⟨some 59,.bslice true [.bool false] 1 1 [(0,(.t 58))],none⟩,
 ⟨some 60,.append false 1 1 (.t 55) (.t 59),none⟩,
 ⟨some 61,.faddr 3 (.t 9),none⟩,
 ⟨none,.store 1 (.t 61) (.t 60),none⟩]))))))
 (.region [⟨some 62,.bin .add (.t 17) (.c (.int Go.IntKind.i64 1)),none⟩,
 ⟨some 17,.mov (.t 62),none⟩])))

def xTn : ACode := xLA
def xLB : List Nat := [4,5,6,7,10,11,12,13,14,15,18,19,20,21,22,23,24,25,26,27,28,29,30,31,32,33,34,35,36,37,38,39,40,41,42,43,44,45,46,47,48,49,50,51,52,53,54,55,56,57,58,59,60,61,62,63]
abbrev xLC (s0 s1 s2 s3 s8 s9 s16 s17 : AV) : List AV := [s0,s1,s2,s3,.any,.any,.any,.any,s8,s9,.any,.any,.any,.any,.any,.any,s16,s17,.any,.any,.any,.any,.any,.any,.any,.any,.any,.any,.any,.any,.any,.any,.any,.any,.any,.any,.any,.any,.any,.any,.any,.any,.any,.any,.any,.any,.any,.any,.any,.any,.any,.any,.any,.any,.any,.any,.any,.any,.any,.any,.any,.any,.any,.any]
theorem xOA (s0 s1 s2 s3 s4 s5 s6 s7 s8 s9 s10 s11 s12 s13 s14 s15 s16 s17 s18 s19 s20 s21 s22 s23 s24 s25 s26 s27 s28 s29 s30 s31 s32 s33 s34 s35 s36 s37 s38 s39 s40 s41 s42 s43 s44 s45 s46 s47 s48 s49 s50 s51 s52 s53 s54 s55 s56 s57 s58 s59 s60 s61 s62 s63 : AV) : xBs xLB [s0,s1,s2,s3,s4,s5,s6,s7,s8,s9,s10,s11,s12,s13,s14,s15,s16,s17,s18,s19,s20,s21,s22,s23,s24,s25,s26,s27,s28,s29,s30,s31,s32,s33,s34,s35,s36,s37,s38,s39,s40,s41,s42,s43,s44,s45,s46,s47,s48,s49,s50,s51,s52,s53,s54,s55,s56,s57,s58,s59,s60,s61,s62,s63] = xLC s0 s1 s2 s3 s8 s9 s16 s17 := by kernel_rfl
theorem xQS {prog : Nat → Option AFunc} (s0 s1 s2 s3 s8 s9 s16 s17 : AV) (H : xAv) : (lim prog).loop xLB xTn ⟨xLC s0 s1 s2 s3 s8 s9 s16 s17,H⟩ = xB9 (lim prog) xLB xTn (run (lim prog) xLA ⟨xLC s0 s1 s2 s3 s8 s9 s16 s17,H⟩) := xAI _ _ _ _ (by kernel_rfl)

def a61 : AFunc := ⟨64,
 .seq (.region [⟨some 8,.box (.c (.agg [.int Go.IntKind.i64 0,.int Go.IntKind.i64 0,.sl true 0 [],.sl true 0 []])),none⟩])
 (.seq (.region [⟨some 14,.mov (.t 0),none⟩,
 ⟨some 15,.build [.int Go.IntKind.i64 0,.int Go.IntKind.i64 0,.sl true 0 [],.sl true 0 []] [(0,1,(.t 14))],none⟩,
 ⟨some 9,.box (.c (.agg [.int Go.IntKind.i64 0,.int Go.IntKind.i64 0,.sl true 0 [],.sl true 0 []])),none⟩,
 ⟨none,.store 4 (.t 9) (.t 15),none⟩])
 (.seq (.seq (.region [⟨some 16,.mov (.t 1),none⟩,
 ⟨some 17,.mov (.c (.int Go.IntKind.i64 0)),none⟩])
 (.block 0 (.loop xLB xTn)))
 (.seq (.region [⟨some 63,.load true 4 (.t 9),none⟩,
 ⟨none,.store 4 (.t 8) (.t 63),none⟩])
 (.ret)))),
 [.cell 8 true 4]⟩

def a62 : AFunc := ⟨30,
 .seq (.region [⟨some 9,.mov (.c (.int Go.IntKind.i64 0)),none⟩])
 (.seq (.draw 15 [⟨some 10,.load false 1 (.t 3),none⟩,
 ⟨some 11,.faddr 2 (.t 4),none⟩,
 ⟨some 12,.load false 1 (.t 11),none⟩,
 ⟨some 13,.load false 1 (.t 5),none⟩,
 ⟨some 14,.mov (.t 0),none⟩,
 ⟨some 15,.iaddr 1 (.t 13) (.t 14),none⟩,
 ⟨some 16,.load false 1 (.t 15),none⟩,
 ⟨some 17,.iaddr 1 (.t 12) (.t 16),none⟩,
 ⟨some 18,.load false 1 (.t 17),none⟩,
 ⟨some 19,.load false 1 (.t 5),none⟩,
 ⟨some 20,.mov (.t 1),none⟩,
 ⟨some 21,.iaddr 1 (.t 19) (.t 20),none⟩,
 ⟨some 22,.load false 1 (.t 21),none⟩,
 ⟨some 23,.iaddr 1 (.t 18) (.t 22),none⟩,
 ⟨some 24,.load false 1 (.t 23),none⟩,
 ⟨some 25,.mov (.t 2),none⟩,
 ⟨some 26,.iaddr 1 (.t 24) (.t 25),none⟩,
 ⟨some 27,.load false 1 (.t 26),none⟩,
 ⟨some 28,.iaddr 1 (.t 10) (.t 27),none⟩,
 ⟨some 29,.load false 1 (.t 28),none⟩,
 ⟨some 9,.mov (.t 29),none⟩])
 (.ret)),
 [.tmp 9]⟩

def a63 : AFunc := ⟨13,
 .seq (.region [⟨some 4,.mov (.c (.bool false)),none⟩])
 (.seq (.draw 3 [⟨some 5,.faddr 3 (.t 1),none⟩,
 ⟨some 6,.load false 1 (.t 5),none⟩,
 ⟨some 7,.load false 1 (.t 2),none⟩,
 ⟨some 8,.mov (.t 0),none⟩,
 ⟨some 9,.iaddr 1 (.t 7) (.t 8),none⟩,
 ⟨some 10,.load false 1 (.t 9),none⟩,
 ⟨some 11,.iaddr 1 (.t 6) (.t 10),none⟩,
 ⟨some 12,.load false 1 (.t 11),none⟩,
 ⟨some 4,.mov (.t 12),none⟩])
 (.ret)),
 [.tmp 4]⟩

def xOB : ACode :=
 .seq (.seq (.region [⟨some 11,.mov (.t 5),none⟩,
 ⟨some 12,.mov (.t 0),none⟩,
 ⟨some 13,.len (.t 12),none⟩,
 ⟨some 14,.bin .lss (.t 11) (.t 13),none⟩])
 (.cond (.t 14)
 (.skip)
 (.exit 0)))
 (.seq (.block 1 (.seq (.draw 5 [⟨some 17,.mov (.t 0),none⟩,
 ⟨some 18,.mov (.t 5),none⟩,
 ⟨some 19,.iaddr 1 (.t 17) (.t 18),none⟩,
 ⟨some 20,.load false 1 (.t 19),none⟩,
 ⟨some 21,.mov (.t 1),none⟩,
 ⟨some 22,.mov (.t 5),none⟩,
 ⟨some 23,.iaddr 1 (.t 21) (.t 22),none⟩,
 ⟨some 24,.load false 1 (.t 23),none⟩,
 ⟨some 25,.call 39 [(.t 20),(.t 24)],none⟩,
 ⟨some 26,.un .not (.t 25),none⟩])
 (.cond (.t 26)
 (.seq (.region [⟨some 4,.mov (.c (.bool false)),none⟩])
 (.ret))
 (.skip))))
 (.region [⟨some 15,.mov (.t 5),none⟩,
 ⟨some 16,.bin .add (.t 15) (.c (.int Go.IntKind.i64 1)),none⟩,
 ⟨some 5,.mov (.t 16),none⟩]))

def xTo : ACode := xOB
def xLD : List Nat := [2,3,6,7,8,9,10,11,12,13,14,15,16,17,18,19,20,21,22,23,24,25,26]
abbrev xLE (s0 s1 s4 s5 : AV) : List AV := [s0,s1,.any,.any,s4,s5,.any,.any,.any,.any,.any,.any,.any,.any,.any,.any,.any,.any,.any,.any,.any,.any,.any,.any,.any,.any,.any]
theorem xQT (s0 s1 s2 s3 s4 s5 s6 s7 s8 s9 s10 s11 s12 s13 s14 s15 s16 s17 s18 s19 s20 s21 s22 s23 s24 s25 s26 : AV) : xBs xLD [s0,s1,s2,s3,s4,s5,s6,s7,s8,s9,s10,s11,s12,s13,s14,s15,s16,s17,s18,s19,s20,s21,s22,s23,s24,s25,s26] = xLE s0 s1 s4 s5 := by kernel_rfl
theorem xVe {prog : Nat → Option AFunc} (s0 s1 s4 s5 : AV) (H : xAv) : (lim prog).loop xLD xTo ⟨xLE s0 s1 s4 s5,H⟩ = xB9 (lim prog) xLD xTo (run (lim prog) xOB ⟨xLE s0 s1 s4 s5,H⟩) := xAI _ _ _ _ (by kernel_rfl)

def a66 : AFunc := ⟨27,
 .seq (.region [⟨some 4,.mov (.c (.bool false)),none⟩])
 (.seq (.seq (.region [⟨some 6,.mov (.t 0),none⟩,
 ⟨some 7,.len (.t 6),none⟩,
 ⟨some 8,.mov (.t 1),none⟩,
 ⟨some 9,.len (.t 8),none⟩,
 ⟨some 10,.bin .neq (.t 7) (.t 9),none⟩])
 (.cond (.t 10)
 (.seq (.region [⟨some 4,.mov (.c (.bool false)),none⟩])
 (.ret))
 (.skip)))
 (.seq (.seq (.region [⟨some 5,.mov (.c (.int Go.IntKind.i64 0)),none⟩])
 (.block 0 (.loop xLD xTo)))
 (.seq (.region [⟨some 4,.mov (.c (.bool true)),none⟩])
 (.ret)))),
 [.tmp 4]⟩

def xLF : ACode :=
 .seq (.seq (.region [⟨some 11,.mov (.t 5),none⟩,
 ⟨some 12,.mov (.t 0),none⟩,
 ⟨some 13,.len (.t 12),none⟩,
 ⟨some 14,.bin .lss (.t 11) (.t 13),none⟩])
 (.cond (.t 14)
 (.skip)
 (.exit 0)))
 (.seq (.block 1 (.seq (.draw 5 [⟨some 17,.mov (.t 0),none⟩,
 ⟨some 18,.mov (.t 5),none⟩,
 ⟨some 19,.iaddr 1 (.t 17) (.t 18),none⟩,
 ⟨some 20,.load false 1 (.t 19),none⟩,
 ⟨some 21,.mov (.t 1),none⟩,
 ⟨some 22,.mov (.t 5),none⟩,
 ⟨some 23,.iaddr 1 (.t 21) (.t 22),none⟩,
 ⟨some 24,.load false 1 (.t 23),none⟩,
 ⟨some 25,.beq true (.t 20) (.t 24),none⟩])
 (.cond (.t 25)
 (.seq (.region [⟨some 4,.mov (.c (.bool false)),none⟩])
 (.ret))
 (.skip))))
 (.region [⟨some 15,.mov (.t 5),none⟩,
 ⟨some 16,.bin .add (.t 15) (.c (.int Go.IntKind.i64 1)),none⟩,
 ⟨some 5,.mov (.t 16),none⟩]))

def xTp : ACode := xLF
def xLG : List Nat := [2,3,6,7,8,9,10,11,12,13,14,15,16,17,18,19,20,21,22,23,24,25]
abbrev xLH (s0 s1 s4 s5 : AV) : List AV := [s0,s1,.any,.any,s4,s5,.any,.any,.any,.any,.any,.any,.any,.any,.any,.any,.any,.any,.any,.any,.any,.any,.any,.any,.any,.any]
theorem xOC (s0 s1 s2 s3 s4 s5 s6 s7 s8 s9 s10 s11 s12 s13 s14 s15 s16 s17 s18 s19 s20 s21 s22 s23 s24 s25 : AV) : xBs xLG [s0,s1,s2,s3,s4,s5,s6,s7,s8,s9,s10,s11,s12,s13,s14,s15,s16,s17,s18,s19,s20,s21,s22,s23,s24,s25] = xLH s0 s1 s4 s5 := by kernel_rfl
theorem xVf {prog : Nat → Option AFunc} (s0 s1 s4 s5 : AV) (H : xAv) : (lim prog).loop xLG xTp ⟨xLH s0 s1 s4 s5,H⟩ = xB9 (lim prog) xLG xTp (run (lim prog) xLF ⟨xLH s0 s1 s4 s5,H⟩) := xAI _ _ _ _ (by kernel_rfl)

def a67 : AFunc := ⟨26,
 .seq (.region [⟨some 4,.mov (.c (.bool false)),none⟩])
 (.seq (.seq (.region [⟨some 6,.mov (.t 0),none⟩,
 ⟨some 7,.len (.t 6),none⟩,
 ⟨some 8,.mov (.t 1),none⟩,
 ⟨some 9,.len (.t 8),none⟩,
 ⟨some 10,.bin .neq (.t 7) (.t 9),none⟩])
 (.cond (.t 10)
 (.seq (.region [⟨some 4,.mov (.c (.bool false)),none⟩])
 (.ret))
 (.skip)))
 (.seq (.seq (.region [⟨some 5,.mov (.c (.int Go.IntKind.i64 0)),none⟩])
 (.block 0 (.loop xLG xTp)))
 (.seq (.region [⟨some 4,.mov (.c (.bool true)),none⟩])
 (.ret)))),
 [.tmp 4]⟩

def xOD : ACode :=
 .seq (.seq (.region [⟨some 11,.mov (.t 5),none⟩,
 ⟨some 12,.mov (.t 0),none⟩,
 ⟨some 13,.len (.t 12),none⟩,
 ⟨some 14,.bin .lss (.t 11) (.t 13),none⟩])
 (.cond (.t 14)
 (.skip)
 (.exit 0)))
 (.seq (.block 1 (.seq (.draw 5 [⟨some 17,.mov (.t 0),none⟩,
 ⟨some 18,.mov (.t 5),none⟩,
 ⟨some 19,.iaddr 5 (.t 17) (.t 18),none⟩,
 ⟨some 20,.load true 5 (.t 19),none⟩,
 ⟨some 21,.mov (.t 1),none⟩,
 ⟨some 22,.mov (.t 5),none⟩,
 ⟨some 23,.iaddr 5 (.t 21) (.t 22),none⟩,
 ⟨some 24,.load true 5 (.t 23),none⟩,
 ⟨some 25,.aeq true 5 (.t 20) (.t 24),none⟩])
 (.cond (.t 25)
 (.seq (.region [⟨some 4,.mov (.c (.bool false)),none⟩])
 (.ret))
 (.skip))))
 (.region [⟨some 15,.mov (.t 5),none⟩,
 ⟨some 16,.bin .add (.t 15) (.c (.int Go.IntKind.i64 1)),none⟩,
 ⟨some 5,.mov (.t 16),none⟩]))

def xTq : ACode := xOD
def xLI : List Nat := [2,3,6,7,8,9,10,11,12,13,14,15,16,17,18,19,20,21,22,23,24,25]
abbrev xLJ (s0 s1 s4 s5 : AV) : List AV := [s0,s1,.any,.any,s4,s5,.any,.any,.any,.any,.any,.any,.any,.any,.any,.any,.any,.any,.any,.any,.any,.any,.any,.any,.any,.any]
theorem xQU (s0 s1 s2 s3 s4 s5 s6 s7 s8 s9 s10 s11 s12 s13 s14 s15 s16 s17 s18 s19 s20 s21 s22 s23 s24 s25 : AV) : xBs xLI [s0,s1,s2,s3,s4,s5,s6,s7,s8,s9,s10,s11,s12,s13,s14,s15,s16,s17,s18,s19,s20,s21,s22,s23,s24,s25] = xLJ s0 s1 s4 s5 := by kernel_rfl
theorem xVg {prog : Nat → Option AFunc} (s0 s1 s4 s5 : AV) (H : xAv) : (lim prog).loop xLI xTq ⟨xLJ s0 s1 s4 s5,H⟩ = xB9 (lim prog) xLI xTq (run (lim prog) xOD ⟨xLJ s0 s1 s4 s5,H⟩) := xAI _ _ _ _ (by kernel_rfl)

def a68 : AFunc := ⟨26,
 .seq (.region [⟨some 4,.mov (.c (.bool false)),none⟩])
 (.seq (.seq (.region [⟨some 6,.mov (.t 0),none⟩,
 ⟨some 7,.len (.t 6),none⟩,
 ⟨some 8,.mov (.t 1),none⟩,
 ⟨some 9,.len (.t 8),none⟩,
 ⟨some 10,.bin .neq (.t 7) (.t 9),none⟩])
 (.cond (.t 10)
 (.seq (.region [⟨some 4,.mov (.c (.bool false)),none⟩])
 (.ret))
 (.skip)))
 (.seq (.seq (.region [⟨some 5,.mov (.c (.int Go.IntKind.i64 0)),none⟩])
 (.block 0 (.loop xLI xTq)))
 (.seq (.region [⟨some 4,.mov (.c (.bool true)),none⟩])
 (.ret)))),
 [.tmp 4]⟩

def xJM : ACode :=
 .seq (.seq (.region [⟨some 3,.mov (.t 2),none⟩,
 ⟨some 4,.mov (.t 0),none⟩,
 ⟨some 5,.len (.t 4),none⟩,
 ⟨some 6,.bin .lss (.t 3) (.t 5),none⟩])
 (.cond (.t 6)
 (.skip)
 (.exit 0)))
 (.seq (.block 1 (.region [⟨some 9,.mov (.t 0),none⟩,
 ⟨some 10,.mov (.t 2),none⟩,
 ⟨some 11,.iaddr 1 (.t 9) (.t 10),none⟩,
 ⟨some 12,.load false 1 (.t 11),none⟩,
 ⟨some 13,.icall (.c (.func 40 [])) [(.t 12)],none⟩]))
 (.region [⟨some 7,.mov (.t 2),none⟩,
 ⟨some 8,.bin .add (.t 7) (.c (.int Go.IntKind.i64 1)),none⟩,
 ⟨some 2,.mov (.t 8),none⟩]))

def xQV : ACode := xJM
def xJN : List Nat := [1,3,4,5,6,7,8,9,10,11,12,13]
abbrev xIn (s0 s2 : AV) : List AV := [s0,.any,s2,.any,.any,.any,.any,.any,.any,.any,.any,.any,.any,.any]
theorem xJO (s0 s1 s2 s3 s4 s5 s6 s7 s8 s9 s10 s11 s12 s13 : AV) : xBs xJN [s0,s1,s2,s3,s4,s5,s6,s7,s8,s9,s10,s11,s12,s13] = xIn s0 s2 := by kernel_rfl
theorem xQW {prog : Nat → Option AFunc} (s0 s2 : AV) (H : xAv) : (lim prog).loop xJN xQV ⟨xIn s0 s2,H⟩ = xB9 (lim prog) xJN xQV (run (lim prog) xJM ⟨xIn s0 s2,H⟩) := xAI _ _ _ _ (by kernel_rfl)

def a69 : AFunc := ⟨14,
 .seq (.region [⟨some 2,.mov (.c (.int Go.IntKind.i64 0)),none⟩])
 (.block 0 (.loop xJN xQV)),
 []⟩

def xLK : ACode :=
 .seq (.seq (.region [⟨some 3,.mov (.t 2),none⟩,
 ⟨some 4,.mov (.t 0),none⟩,
 ⟨some 5,.len (.t 4),none⟩,
 ⟨some 6,.bin .lss (.t 3) (.t 5),none⟩])
 (.cond (.t 6)
 (.skip)
 (.exit 0)))
 (.seq (.block 1 (.region [⟨some 9,.mov (.t 0),none⟩,
 ⟨some 10,.mov (.t 2),none⟩,
 ⟨some 11,.mov (.t 0),none⟩,
 ⟨some 12,.mov (.t 2),none⟩,
 ⟨some 13,.iaddr 1 (.t 11) (.t 12),none⟩,
 ⟨some 14,.load false 1 (.t 13),none⟩,
 ⟨some 15,.un .not (.t 14),none⟩,
 ⟨some 16,.iaddr 1 (.t 9) (.t 10),none⟩,
 ⟨none,.store 1 (.t 16) (.t 15),none⟩]))
 (.region [⟨some 7,.mov (.t 2),none⟩,
 ⟨some 8,.bin .add (.t 7) (.c (.int Go.IntKind.i64 1)),none⟩,
 ⟨some 2,.mov (.t 8),none⟩]))

def xQX : ACode := xLK
def xJP : List Nat := [1,3,4,5,6,7,8,9,10,11,12,13,14,15,16]
abbrev xIo (s0 s2 : AV) : List AV := [s0,.any,s2,.any,.any,.any,.any,.any,.any,.any,.any,.any,.any,.any,.any,.any,.any]
theorem xLL (s0 s1 s2 s3 s4 s5 s6 s7 s8 s9 s10 s11 s12 s13 s14 s15 s16 : AV) : xBs xJP [s0,s1,s2,s3,s4,s5,s6,s7,s8,s9,s10,s11,s12,s13,s14,s15,s16] = xIo s0 s2 := by kernel_rfl
theorem xQY {prog : Nat → Option AFunc} (s0 s2 : AV) (H : xAv) : (lim prog).loop xJP xQX ⟨xIo s0 s2,H⟩ = xB9 (lim prog) xJP xQX (run (lim prog) xLK ⟨xIo s0 s2,H⟩) := xAI _ _ _ _ (by kernel_rfl)

def a70 : AFunc := ⟨17,
 .seq (.region [⟨some 2,.mov (.c (.int Go.IntKind.i64 0)),none⟩])
 (.block 0 (.loop xJP xQX)),
 []⟩

def a72 : AFunc := ⟨17,
 .seq (.region [⟨some 1,.box (.t 0),none⟩,
 ⟨some 2,.box (.c (.agg [.int Go.IntKind.i64 0,.int Go.IntKind.i64 0,.sl true 0 [],.sl true 0 [],.sl true 0 []])),none⟩])
 (.seq (.draw 13 [⟨some 3,.faddr 0 (.t 1),none⟩,
 ⟨some 4,.load false 1 (.t 3),none⟩,
 ⟨some 5,.faddr 1 (.t 1),none⟩,
 ⟨some 6,.load false 1 (.t 5),none⟩,
 ⟨some 7,.faddr 2 (.t 1),none⟩,
 ⟨some 8,.load false 1 (.t 7),none⟩,
 ⟨some 9,.call 47 [(.t 8)],none⟩,
 ⟨some 10,.faddr 3 (.t 1),none⟩,
 ⟨some 11,.load false 1 (.t 10),none⟩,
 ⟨some 12,.call 47 [(.t 11)],none⟩,
 ⟨some 13,.faddr 4 (.t 1),none⟩,
 ⟨some 14,.load false 1 (.t 13),none⟩,
 ⟨some 15,.call 108 [(.t 14)],none⟩,
 ⟨some 16,.build [.int Go.IntKind.i64 0,.int Go.IntKind.i64 0,.sl true 0 [],.sl true 0 [],.sl true 0 []] [(0,1,(.t 4)),(1,1,(.t 6)),(2,1,(.t 9)),(3,1,(.t 12)),(4,1,(.t 15))],none⟩,
 ⟨none,.store 5 (.t 2) (.t 16),none⟩])
 (.ret)),
 [.cell 2 true 5]⟩

def xOE : ACode :=
 .seq (.region [⟨some 8,.bin .lss (.t 7) (.t 6),none⟩])
 (.seq (.cond (.t 8)
 (.skip)
 (.exit 0))
 (.seq (.block 1 (.seq (.region [⟨some 9,.iaddr 1 (.t 5) (.t 7),none⟩,
 ⟨some 10,.load false 1 (.t 9),none⟩,
 ⟨some 4,.mov (.t 10),none⟩])
 (.region [⟨some 11,.mov (.t 2),none⟩,
 ⟨some 12,.mov (.t 4),none⟩,
 ⟨some 13,.bin .shl (.c (.int Go.IntKind.u64 1)) (.t 12),none⟩,
 ⟨some 14,.bin .or (.t 11) (.t 13),none⟩,
 ⟨some 2,.mov (.t 14),none⟩])))
 (.region [⟨some 15,.bin .add (.t 7) (.c (.int Go.IntKind.i64 1)),none⟩,
 ⟨some 7,.mov (.t 15),none⟩])))

def xTr : ACode := xOE
def xLM : List Nat := [0,1,3,4,8,9,10,11,12,13,14,15,16]
abbrev xLN (s2 s5 s6 s7 : AV) : List AV := [.any,.any,s2,.any,.any,s5,s6,s7,.any,.any,.any,.any,.any,.any,.any,.any,.any]
theorem xQZ (s0 s1 s2 s3 s4 s5 s6 s7 s8 s9 s10 s11 s12 s13 s14 s15 s16 : AV) : xBs xLM [s0,s1,s2,s3,s4,s5,s6,s7,s8,s9,s10,s11,s12,s13,s14,s15,s16] = xLN s2 s5 s6 s7 := by kernel_rfl
theorem xVh {prog : Nat → Option AFunc} (s2 s5 s6 s7 : AV) (H : xAv) : (lim prog).loop xLM xTr ⟨xLN s2 s5 s6 s7,H⟩ = xB9 (lim prog) xLM xTr (run (lim prog) xOE ⟨xLN s2 s5 s6 s7,H⟩) := xAI _ _ _ _ (by kernel_rfl)

def a73 : AFunc := ⟨17,
 .seq (.region [⟨some 2,.mov (.c (.int Go.IntKind.u64 0)),none⟩])
 (.seq (.seq (.region [⟨some 5,.mov (.t 0),none⟩,
 ⟨some 6,.len (.t 5),none⟩,
 ⟨some 7,.mov (.c (.int Go.IntKind.i64 0)),none⟩])
 (.block 0 (.loop xLM xTr)))
 (.seq (.region [⟨some 16,.mov (.t 2),none⟩,
 ⟨some 2,.mov (.t 16),none⟩])
 (.ret))),
 [.tmp 2]⟩

def xE8 : ACode :=
 .seq (.region [⟨some 15,.bin .lss (.t 14) (.t 13),none⟩])
 (.seq (.cond (.t 15)
 (.skip)
 (.exit 0))
 (.seq (.block 1 (.seq (.region [⟨some 16,.iaddr 5 (.t 12) (.t 14),none⟩,
 ⟨some 17,.load true 5 (.t 16),none⟩,
 ⟨some 10,.box (.c (.agg [.int Go.IntKind.i64 0,.int Go.IntKind.i64 0,.int Go.IntKind.i64 0,.int Go.IntKind.u8 0,.int Go.IntKind.u8 0])),none⟩,
 ⟨none,.store 5 (.t 10) (.t 17),none⟩])
 (.seq (.draw 30 [⟨some 18,.load false 1 (.t 4),none⟩,
 ⟨some 19,.mov (.t 0),none⟩,
 ⟨some 20,.iaddr 1 (.t 18) (.t 19),none⟩,
 ⟨some 21,.load false 1 (.t 20),none⟩,
 ⟨some 22,.faddr 0 (.t 10),none⟩,
 ⟨some 23,.load false 1 (.t 22),none⟩,
 ⟨some 24,.bin .shr (.t 21) (.t 23),none⟩,
 ⟨some 25,.load false 1 (.t 4),none⟩,
 ⟨some 26,.mov (.t 1),none⟩,
 ⟨some 27,.iaddr 1 (.t 25) (.t 26),none⟩,
 ⟨some 28,.load false 1 (.t 27),none⟩,
 ⟨some 29,.faddr 1 (.t 10),none⟩,
 ⟨some 30,.load false 1 (.t 29),none⟩,
 ⟨some 31,.bin .shr (.t 28) (.t 30),none⟩,
 ⟨some 32,.bin .and (.t 24) (.t 31),none⟩,
 ⟨some 33,.bin .and (.t 32) (.c (.int Go.IntKind.u64 1)),none⟩,
 ⟨some 34,.bin .neq (.t 33) (.c (.int Go.IntKind.u64 0)),none⟩,
 ⟨some 35,.mov (.t 34),none⟩,
 ⟨some 36,.mov (.t 2),some (35,true)⟩,
 ⟨some 37,.conv Go.IntKind.u8 (.t 36),some (35,true)⟩,
 ⟨some 38,.faddr 3 (.t 10),some (35,true)⟩,
 ⟨some 39,.load false 1 (.t 38),some (35,true)⟩,
 ⟨some 40,.bin .and (.t 37) (.t 39),some (35,true)⟩,
 ⟨some 41,.faddr 3 (.t 10),some (35,true)⟩,
 ⟨some 42,.load false 1 (.t 41),some (35,true)⟩,
 ⟨some 43,.bin .eql (.t 40) (.t 42),some (35,true)⟩,
 ⟨some 44,.pick (.t 35) (.t 43) (.c (.bool false)),none⟩,
 ⟨some 45,.mov (.t 44),none⟩,
 ⟨some 46,.mov (.t 2),some (45,true)⟩,
 ⟨some 47,.conv Go.IntKind.u8 (.t 46),some (45,true)⟩,
 ⟨some 48,.faddr 4 (.t 10),some (45,true)⟩,
 ⟨some 49,.load false 1 (.t 48),some (45,true)⟩,
 ⟨some 50,.bin .and (.t 47) (.t 49),some (45,true)⟩,
 ⟨some 51,.bin .eql (.t 50) (.c (.int Go.IntKind.u8 0)),some (45,true)⟩,
 ⟨some 52,.pick (.t 45) (.t 51) (.c (.bool false)),none⟩])
 (.cond (.t 52)
 (.region [⟨some 53,.mov (.t 8),none⟩,
 ⟨some 54,.faddr 2 (.t 10),none⟩,
 ⟨some 55,.load false 1 (.t 54),none⟩,
 ⟨some 56,.bin .shl (.c (.int Go.IntKind.u64 1)) (.t 55),none⟩,
 ⟨some 57,.bin .or (.t 53) (.t 56),none⟩,
 ⟨some 8,.mov (.t 57),none⟩])
 (.skip)))))
 (.region [⟨some 58,.bin .add (.t 14) (.c (.int Go.IntKind.i64 1)),none⟩,
 ⟨some 14,.mov (.t 58),none⟩])))

def xQ0 : ACode := xE8
def xJQ : List Nat := [3,5,6,7,9,10,11,15,16,17,18,19,20,21,22,23,24,25,26,27,28,29,30,31,32,33,34,35,36,37,38,39,40,41,42,43,44,45,46,47,48,49,50,51,52,53,54,55,56,57,58,59]
abbrev xIp (s0 s1 s2 s4 s8 s12 s13 s14 : AV) : List AV := [s0,s1,s2,.any,s4,.any,.any,.any,s8,.any,.any,.any,s12,s13,s14,.any,.any,.any,.any,.any,.any,.any,.any,.any,.any,.any,.any,.any,.any,.any,.any,.any,.any,.any,.any,.any,.any,.any,.any,.any,.any,.any,.any,.any,.any,.any,.any,.any,.any,.any,.any,.any,.any,.any,.any,.any,.any,.any,.any,.any]
theorem xE9 (s0 s1 s2 s3 s4 s5 s6 s7 s8 s9 s10 s11 s12 s13 s14 s15 s16 s17 s18 s19 s20 s21 s22 s23 s24 s25 s26 s27 s28 s29 s30 s31 s32 s33 s34 s35 s36 s37 s38 s39 s40 s41 s42 s43 s44 s45 s46 s47 s48 s49 s50 s51 s52 s53 s54 s55 s56 s57 s58 s59 : AV) : xBs xJQ [s0,s1,s2,s3,s4,s5,s6,s7,s8,s9,s10,s11,s12,s13,s14,s15,s16,s17,s18,s19,s20,s21,s22,s23,s24,s25,s26,s27,s28,s29,s30,s31,s32,s33,s34,s35,s36,s37,s38,s39,s40,s41,s42,s43,s44,s45,s46,s47,s48,s49,s50,s51,s52,s53,s54,s55,s56,s57,s58,s59] = xIp s0 s1 s2 s4 s8 s12 s13 s14 := by kernel_rfl
theorem xF7 {prog : Nat → Option AFunc} (s0 s1 s2 s4 s8 s12 s13 s14 : AV) (H : xAv) : (lim prog).loop xJQ xQ0 ⟨xIp s0 s1 s2 s4 s8 s12 s13 s14,H⟩ = xB9 (lim prog) xJQ xQ0 (run (lim prog) xE8 ⟨xIp s0 s1 s2 s4 s8 s12 s13 s14,H⟩) := xAI _ _ _ _ (by kernel_rfl)

def a74 : AFunc := ⟨60,
 .seq (.region [⟨some 8,.mov (.c (.int Go.IntKind.u64 0)),none⟩])
 (.seq (.seq (.region [⟨some 11,.faddr 4 (.t 3),none⟩,
 ⟨some 12,.load false 1 (.t 11),none⟩,
 ⟨some 13,.len (.t 12),none⟩,
 ⟨some 14,.mov (.c (.int Go.IntKind.i64 0)),none⟩])
 (.block 0 (.loop xJQ xQ0)))
 (.seq (.region [⟨some 59,.mov (.t 8),none⟩,
 ⟨some 8,.mov (.t 59),none⟩])
 (.ret))),
 [.tmp 8]⟩

def xLO : ACode :=
 .seq (.region [⟨some 33,.bin .lss (.t 32) (.t 31),none⟩])
 (.seq (.cond (.t 33)
 (.skip)
 (.exit 6))
 (.seq (.block 7 (.seq (.region [⟨some 34,.mov (.t 32),none⟩,
 ⟨some 9,.mov (.t 34),none⟩])
 (.seq (.region [⟨some 35,.mov (.t 1),none⟩,
 ⟨some 36,.arrat 1 2 (.t 8) (.c (.int Go.IntKind.i64 0)),none⟩,
 ⟨some 37,.load false 1 (.t 36),none⟩,
 ⟨some 38,.arrat 1 2 (.t 8) (.c (.int Go.IntKind.i64 1)),none⟩,
 ⟨some 39,.load false 1 (.t 38),none⟩,
 ⟨some 40,.mov (.t 9),none⟩,
 ⟨some 41,.icall (.t 35) [(.t 37),(.t 39),(.t 40)],none⟩,
 ⟨some 4,.mov (.t 41),none⟩])
 (.seq (.region [⟨some 42,.mov (.t 4),none⟩,
 ⟨some 43,.bin .lss (.t 42) (.c (.int Go.IntKind.i64 0)),none⟩])
 (.cond (.t 43)
 (.exit 0)
 (.skip))))))
 (.region [⟨some 44,.bin .add (.t 32) (.c (.int Go.IntKind.i64 1)),none⟩,
 ⟨some 32,.mov (.t 44),none⟩])))

def xTs : ACode := xLO
def xLP : List Nat := [2,3,7,9,10,11,12,13,14,15,16,17,18,19,20,21,22,23,24,25,28,29,30,33,34,35,36,37,38,39,40,41,42,43,44,45]
abbrev xLQ (s0 s1 s4 s5 s6 s8 s26 s27 s31 s32 : AV) : List AV := [s0,s1,.any,.any,s4,s5,s6,.any,s8,.any,.any,.any,.any,.any,.any,.any,.any,.any,.any,.any,.any,.any,.any,.any,.any,.any,s26,s27,.any,.any,.any,s31,s32,.any,.any,.any,.any,.any,.any,.any,.any,.any,.any,.any,.any,.any]
theorem xIq (s0 s1 s2 s3 s4 s5 s6 s7 s8 s9 s10 s11 s12 s13 s14 s15 s16 s17 s18 s19 s20 s21 s22 s23 s24 s25 s26 s27 s28 s29 s30 s31 s32 s33 s34 s35 s36 s37 s38 s39 s40 s41 s42 s43 s44 s45 : AV) : xBs xLP [s0,s1,s2,s3,s4,s5,s6,s7,s8,s9,s10,s11,s12,s13,s14,s15,s16,s17,s18,s19,s20,s21,s22,s23,s24,s25,s26,s27,s28,s29,s30,s31,s32,s33,s34,s35,s36,s37,s38,s39,s40,s41,s42,s43,s44,s45] = xLQ s0 s1 s4 s5 s6 s8 s26 s27 s31 s32 := by kernel_rfl
theorem xQ1 {prog : Nat → Option AFunc} (s0 s1 s4 s5 s6 s8 s26 s27 s31 s32 : AV) (H : xAv) : (lim prog).loop xLP xTs ⟨xLQ s0 s1 s4 s5 s6 s8 s26 s27 s31 s32,H⟩ = xB9 (lim prog) xLP xTs (run (lim prog) xLO ⟨xLQ s0 s1 s4 s5 s6 s8 s26 s27 s31 s32,H⟩) := xAI _ _ _ _ (by kernel_rfl)

def xIr : ACode :=
 .seq (.region [⟨some 28,.bin .lss (.t 27) (.c (.int Go.IntKind.i64 2)),none⟩])
 (.seq (.cond (.t 28)
 (.skip)
 (.exit 4))
 (.seq (.block 5 (.seq (.region [⟨some 29,.idx true 2 2 (.t 26) (.t 27),none⟩,
 ⟨some 8,.box (.c (.agg [.int Go.IntKind.i64 0,.int Go.IntKind.i64 0])),none⟩,
 ⟨none,.store 2 (.t 8) (.t 29),none⟩])
 (.seq (.region [⟨some 30,.mov (.t 0),none⟩,
 ⟨some 31,.bin .shl (.c (.int Go.IntKind.i64 1)) (.t 30),none⟩,
 ⟨some 32,.mov (.c (.int Go.IntKind.i64 0)),none⟩])
 (.block 6 (.loop xLP xTs)))))
 (.region [⟨some 45,.bin .add (.t 27) (.c (.int Go.IntKind.i64 1)),none⟩,
 ⟨some 27,.mov (.t 45),none⟩])))

def xPw : ACode := xIr
def xIs : List Nat := [2,3,7,8,9,10,11,12,13,14,15,16,17,18,19,20,21,22,23,24,25,28,29,30,31,32,33,34,35,36,37,38,39,40,41,42,43,44,45]
abbrev xGF (s0 s1 s4 s5 s6 s26 s27 : AV) : List AV := [s0,s1,.any,.any,s4,s5,s6,.any,.any,.any,.any,.any,.any,.any,.any,.any,.any,.any,.any,.any,.any,.any,.any,.any,.any,.any,s26,s27,.any,.any,.any,.any,.any,.any,.any,.any,.any,.any,.any,.any,.any,.any,.any,.any,.any,.any]
theorem xIt (s0 s1 s2 s3 s4 s5 s6 s7 s8 s9 s10 s11 s12 s13 s14 s15 s16 s17 s18 s19 s20 s21 s22 s23 s24 s25 s26 s27 s28 s29 s30 s31 s32 s33 s34 s35 s36 s37 s38 s39 s40 s41 s42 s43 s44 s45 : AV) : xBs xIs [s0,s1,s2,s3,s4,s5,s6,s7,s8,s9,s10,s11,s12,s13,s14,s15,s16,s17,s18,s19,s20,s21,s22,s23,s24,s25,s26,s27,s28,s29,s30,s31,s32,s33,s34,s35,s36,s37,s38,s39,s40,s41,s42,s43,s44,s45] = xGF s0 s1 s4 s5 s6 s26 s27 := by kernel_rfl
theorem xLR {prog : Nat → Option AFunc} (s0 s1 s4 s5 s6 s26 s27 : AV) (H : xAv) : (lim prog).loop xIs xPw ⟨xGF s0 s1 s4 s5 s6 s26 s27,H⟩ = xB9 (lim prog) xIs xPw (run (lim prog) xIr ⟨xGF s0 s1 s4 s5 s6 s26 s27,H⟩) := xAI _ _ _ _ (by kernel_rfl)

def xLS : ACode :=
 .seq (.seq (.region [⟨some 15,.mov (.t 6),none⟩,
 ⟨some 16,.mov (.t 5),none⟩,
 ⟨some 17,.bin .leq (.t 15) (.t 16),none⟩])
 (.cond (.t 17)
 (.skip)
 (.exit 2)))
 (.seq (.block 3 (.seq (.region [⟨some 20,.mov (.t 6),none⟩,
 ⟨some 21,.mov (.t 5),none⟩,
 ⟨some 22,.build [.int Go.IntKind.i64 0,.int Go.IntKind.i64 0] [(0,1,(.t 20)),(1,1,(.t 21))],none⟩,
 ⟨some 23,.mov (.t 5),none⟩,
 ⟨some 24,.mov (.t 6),none⟩,
 ⟨some 25,.build [.int Go.IntKind.i64 0,.int Go.IntKind.i64 0] [(0,1,(.t 23)),(1,1,(.t 24))],none⟩,
 ⟨some 26,.build [.int Go.IntKind.i64 0,.int Go.IntKind.i64 0,.int Go.IntKind.i64 0,.int Go.IntKind.i64 0] [(0,2,(.t 22)),(2,2,(.t 25))],none⟩,
 ⟨some 27,.mov (.c (.int Go.IntKind.i64 0)),none⟩])
 (.block 4 (.loop xIs xPw))))
 (.region [⟨some 18,.mov (.t 6),none⟩,
 ⟨some 19,.bin .add (.t 18) (.c (.int Go.IntKind.i64 1)),none⟩,
 ⟨some 6,.mov (.t 19),none⟩]))

def xTt : ACode := xLS
def xLT : List Nat := [2,3,7,8,9,10,11,12,13,14,15,16,17,18,19,20,21,22,23,24,25,26,27,28,29,30,31,32,33,34,35,36,37,38,39,40,41,42,43,44,45]
abbrev xLU (s0 s1 s4 s5 s6 : AV) : List AV := [s0,s1,.any,.any,s4,s5,s6,.any,.any,.any,.any,.any,.any,.any,.any,.any,.any,.any,.any,.any,.any,.any,.any,.any,.any,.any,.any,.any,.any,.any,.any,.any,.any,.any,.any,.any,.any,.any,.any,.any,.any,.any,.any,.any,.any,.any]
theorem xLV (s0 s1 s2 s3 s4 s5 s6 s7 s8 s9 s10 s11 s12 s13 s14 s15 s16 s17 s18 s19 s20 s21 s22 s23 s24 s25 s26 s27 s28 s29 s30 s31 s32 s33 s34 s35 s36 s37 s38 s39 s40 s41 s42 s43 s44 s45 : AV) : xBs xLT [s0,s1,s2,s3,s4,s5,s6,s7,s8,s9,s10,s11,s12,s13,s14,s15,s16,s17,s18,s19,s20,s21,s22,s23,s24,s25,s26,s27,s28,s29,s30,s31,s32,s33,s34,s35,s36,s37,s38,s39,s40,s41,s42,s43,s44,s45] = xLU s0 s1 s4 s5 s6 := by kernel_rfl
theorem xQ2 {prog : Nat → Option AFunc} (s0 s1 s4 s5 s6 : AV) (H : xAv) : (lim prog).loop xLT xTt ⟨xLU s0 s1 s4 s5 s6,H⟩ = xB9 (lim prog) xLT xTt (run (lim prog) xLS ⟨xLU s0 s1 s4 s5 s6,H⟩) := xAI _ _ _ _ (by kernel_rfl)

def xJR : ACode :=
 .seq (.seq (.region [⟨some 10,.mov (.t 5),none⟩,
 ⟨some 11,.mov (.t 4),none⟩,
 ⟨some 12,.bin .lss (.t 10) (.t 11),none⟩])
 (.cond (.t 12)
 (.skip)
 (.exit 0)))
 (.seq (.block 1 (.seq (.region [⟨some 6,.mov (.c (.int Go.IntKind.i64 0)),none⟩])
 (.block 2 (.loop xLT xTt))))
 (.region [⟨some 13,.mov (.t 5),none⟩,
 ⟨some 14,.bin .add (.t 13) (.c (.int Go.IntKind.i64 1)),none⟩,
 ⟨some 5,.mov (.t 14),none⟩]))

def xTu : ACode := xJR
def xLW : List Nat := [2,3,6,7,8,9,10,11,12,13,14,15,16,17,18,19,20,21,22,23,24,25,26,27,28,29,30,31,32,33,34,35,36,37,38,39,40,41,42,43,44,45]
abbrev xLX (s0 s1 s4 s5 : AV) : List AV := [s0,s1,.any,.any,s4,s5,.any,.any,.any,.any,.any,.any,.any,.any,.any,.any,.any,.any,.any,.any,.any,.any,.any,.any,.any,.any,.any,.any,.any,.any,.any,.any,.any,.any,.any,.any,.any,.any,.any,.any,.any,.any,.any,.any,.any,.any]
theorem xLY (s0 s1 s2 s3 s4 s5 s6 s7 s8 s9 s10 s11 s12 s13 s14 s15 s16 s17 s18 s19 s20 s21 s22 s23 s24 s25 s26 s27 s28 s29 s30 s31 s32 s33 s34 s35 s36 s37 s38 s39 s40 s41 s42 s43 s44 s45 : AV) : xBs xLW [s0,s1,s2,s3,s4,s5,s6,s7,s8,s9,s10,s11,s12,s13,s14,s15,s16,s17,s18,s19,s20,s21,s22,s23,s24,s25,s26,s27,s28,s29,s30,s31,s32,s33,s34,s35,s36,s37,s38,s39,s40,s41,s42,s43,s44,s45] = xLX s0 s1 s4 s5 := by kernel_rfl
theorem xOF {prog : Nat → Option AFunc} (s0 s1 s4 s5 : AV) (H : xAv) : (lim prog).loop xLW xTu ⟨xLX s0 s1 s4 s5,H⟩ = xB9 (lim prog) xLW xTu (run (lim prog) xJR ⟨xLX s0 s1 s4 s5,H⟩) := xAI _ _ _ _ (by kernel_rfl)

def a75 : AFunc := ⟨46,
 .scope (.seq (.region [⟨some 4,.mov (.c (.int Go.IntKind.i64 1)),none⟩])
 (.seq (.label)
 (.seq (.region [⟨some 5,.mov (.c (.int Go.IntKind.i64 0)),none⟩])
 (.block 0 (.loop xLW xTu))))),
 []⟩

def a76 : AFunc := ⟨43,
 .seq (.region [⟨some 11,.mov (.c (.int Go.IntKind.i64 0)),none⟩])
 (.seq (.region [⟨some 15,.load false 1 (.t 3),none⟩,
 ⟨some 16,.mov (.t 0),none⟩,
 ⟨some 17,.mov (.t 1),none⟩,
 ⟨some 18,.mov (.t 2),none⟩,
 ⟨some 19,.icall (.t 15) [(.t 16),(.t 17),(.t 18)],none⟩,
 ⟨some 12,.mov (.t 19),none⟩])
 (.seq (.seq (.region [⟨some 21,.load false 1 (.t 4),none⟩,
 ⟨some 22,.mov (.t 12),none⟩,
 ⟨some 23,.mlook [0] true (.int Go.IntKind.i64 0) (.t 21) (.t 22),none⟩,
 ⟨some 20,.mov (.t 23),none⟩,
 ⟨some 24,.ext 0 (.t 20),none⟩,
 ⟨some 25,.ext 1 (.t 20),none⟩,
 ⟨some 13,.mov (.t 24),none⟩,
 ⟨some 14,.mov (.t 25),none⟩])
 (.seq (.region [⟨some 26,.mov (.t 14),none⟩,
 ⟨some 27,.un .not (.t 26),none⟩])
 (.cond (.t 27)
 (.seq (.region [⟨some 28,.load false 1 (.t 4),none⟩,
 ⟨some 29,.mov (.t 12),none⟩,
 ⟨some 30,.load false 1 (.t 5),none⟩,
 ⟨some 31,.len (.t 30),none⟩,
 ⟨none,.mupd [0] (.t 28) (.t 29) (.t 31),none⟩])
 (.region [⟨some 32,.load false 1 (.t 5),none⟩,
 ⟨some 33,.mov (.t 12),none⟩,
 ⟨some 34,.bslice true [.int Go.IntKind.u64 0] 1 1 [(0,(.t 33))],none⟩,
 ⟨some 35,.append false 1 8 (.t 32) (.t 34),none⟩,
 ⟨none,.store 1 (.t 5) (.t 35),none⟩]))
 (.skip))))
 (.seq (.seq (.region [⟨some 36,.load false 1 (.t 5),none⟩,
 ⟨some 37,.len (.t 36),none⟩,
 ⟨some 38,.load false 1 (.t 6),none⟩,
 ⟨some 39,.bin .gtr (.t 37) (.t 38),none⟩,
 ⟨none,.store 1 (.t 7) (.t 39),none⟩])
 (.seq (.region [⟨some 40,.load false 1 (.t 7),none⟩])
 (.cond (.t 40)
 (.seq (.region [⟨some 11,.mov (.c (.int Go.IntKind.i64 (-1))),none⟩])
 (.ret))
 (.skip))))
 (.seq (.region [⟨some 41,.load false 1 (.t 5),none⟩,
 ⟨some 42,.len (.t 41),none⟩,
 ⟨some 11,.mov (.t 42),none⟩])
 (.ret))))),
 [.tmp 11]⟩

def xLZ : ACode :=
 .seq (.region [⟨some 5,.bin .lss (.t 4) (.c (.int Go.IntKind.i64 64)),none⟩])
 (.seq (.cond (.t 5)
 (.skip)
 (.exit 0))
 (.seq (.block 1 (.seq (.region [⟨some 6,.mov (.t 4),none⟩,
 ⟨some 3,.mov (.t 6),none⟩])
 (.seq (.region [⟨some 7,.mov (.t 0),none⟩,
 ⟨some 8,.mov (.t 3),none⟩,
 ⟨some 9,.bin .shr (.t 7) (.t 8),none⟩,
 ⟨some 10,.bin .and (.t 9) (.c (.int Go.IntKind.u64 1)),none⟩,
 ⟨some 11,.bin .neq (.t 10) (.c (.int Go.IntKind.u64 0)),none⟩])
 (.cond (.t 11)
 (.region [⟨some 12,.mov (.t 2),none⟩,
 ⟨some 13,.mov (.t 3),none⟩,
 ⟨some 14,.bslice true [.int Go.IntKind.i64 0] 1 1 [(0,(.t 13))],none⟩,
 ⟨some 15,.append false 1 8 (.t 12) (.t 14),none⟩,
 ⟨some 2,.mov (.t 15),none⟩])
 (.skip)))))
 (.region [⟨some 16,.bin .add (.t 4) (.c (.int Go.IntKind.i64 1)),none⟩,
 ⟨some 4,.mov (.t 16),none⟩])))

def xTv : ACode := xLZ
def xL0 : List Nat := [1,3,5,6,7,8,9,10,11,12,13,14,15,16,17]
abbrev xL1 (s0 s2 s4 : AV) : List AV := [s0,.any,s2,.any,s4,.any,.any,.any,.any,.any,.any,.any,.any,.any,.any,.any,.any,.any]
theorem xOG (s0 s1 s2 s3 s4 s5 s6 s7 s8 s9 s10 s11 s12 s13 s14 s15 s16 s17 : AV) : xBs xL0 [s0,s1,s2,s3,s4,s5,s6,s7,s8,s9,s10,s11,s12,s13,s14,s15,s16,s17] = xL1 s0 s2 s4 := by kernel_rfl
theorem xQ3 {prog : Nat → Option AFunc} (s0 s2 s4 : AV) (H : xAv) : (lim prog).loop xL0 xTv ⟨xL1 s0 s2 s4,H⟩ = xB9 (lim prog) xL0 xTv (run (lim prog) xLZ ⟨xL1 s0 s2 s4,H⟩) := xAI _ _ _ _ (by kernel_rfl)

def a77 : AFunc := ⟨18,
 .seq (.region [⟨some 2,.mov (.c (.sl true 0 [])),none⟩])
 (.seq (.seq (.region [⟨some 4,.mov (.c (.int Go.IntKind.i64 0)),none⟩])
 (.block 0 (.loop xL0 xTv)))
 (.seq (.region [⟨some 17,.mov (.t 2),none⟩,
 ⟨some 2,.mov (.t 17),none⟩])
 (.ret))),
 [.tmp 2]⟩

def a78 : AFunc := ⟨16,
 .seq (.region [⟨some 8,.mov (.c (.int Go.IntKind.i64 0)),none⟩])
 (.seq (.draw 6 [⟨some 9,.load false 1 (.t 3),none⟩,
 ⟨some 10,.load false 1 (.t 4),none⟩,
 ⟨some 11,.mov (.t 0),none⟩,
 ⟨some 12,.mov (.t 1),none⟩,
 ⟨some 13,.mov (.t 2),none⟩,
 ⟨some 14,.fcall (.t 10) [(.t 11),(.t 12),(.t 13)],none⟩,
 ⟨some 15,.mlook [0] false (.int Go.IntKind.i64 0) (.t 9) (.t 14),none⟩,
 ⟨some 8,.mov (.t 15),none⟩])
 (.ret)),
 [.tmp 8]⟩

def a79 : AFunc := ⟨9,
 .seq (.region [⟨some 3,.box (.t 0),none⟩,
 ⟨some 4,.mov (.c (.bool false)),none⟩])
 (.seq (.region [⟨some 5,.faddr 3 (.t 1),none⟩,
 ⟨some 6,.load false 1 (.t 5),none⟩,
 ⟨some 7,.mkfunc 81 [(.t 2),(.t 3)],none⟩,
 ⟨some 8,.icall (.c (.func 80 [])) [(.t 6),(.t 7)],none⟩,
 ⟨some 4,.mov (.t 8),none⟩])
 (.ret)),
 [.tmp 4]⟩

def a80 : AFunc := ⟨9,
 .seq (.region [⟨some 4,.mov (.c (.bool false)),none⟩])
 (.seq (.region [⟨some 5,.mov (.t 0),none⟩,
 ⟨some 6,.mov (.t 1),none⟩,
 ⟨some 7,.icall (.c (.func 109 [])) [(.t 5),(.t 6)],none⟩,
 ⟨some 8,.bin .geq (.t 7) (.c (.int Go.IntKind.i64 0)),none⟩,
 ⟨some 4,.mov (.t 8),none⟩])
 (.ret)),
 [.tmp 4]⟩

def a81 : AFunc := ⟨13,
 .seq (.region [⟨some 4,.mov (.c (.bool false)),none⟩])
 (.seq (.region [⟨some 5,.load false 1 (.t 1),none⟩,
 ⟨some 6,.load false 1 (.t 2),none⟩,
 ⟨some 7,.iaddr 1 (.t 5) (.t 6),none⟩,
 ⟨some 8,.load false 1 (.t 7),none⟩,
 ⟨some 9,.mov (.t 0),none⟩,
 ⟨some 10,.bin .shr (.t 8) (.t 9),none⟩,
 ⟨some 11,.bin .and (.t 10) (.c (.int Go.IntKind.u64 1)),none⟩,
 ⟨some 12,.bin .neq (.t 11) (.c (.int Go.IntKind.u64 0)),none⟩,
 ⟨some 4,.mov (.t 12),none⟩])
 (.ret)),
 [.tmp 4]⟩

def xEo : ACode :=
 .seq (.seq (.region [⟨some 43,.mov (.t 5),none⟩,
 ⟨some 44,.faddr 4 (.t 1),none⟩,
 ⟨some 45,.load false 1 (.t 44),none⟩,
 ⟨some 46,.len (.t 45),none⟩,
 ⟨some 47,.bin .lss (.t 43) (.t 46),none⟩])
 (.cond (.t 47)
 (.skip)
 (.exit 0)))
 (.seq (.block 1 (.seq (.region [⟨some 50,.faddr 4 (.t 1),none⟩,
 ⟨some 51,.load false 1 (.t 50),none⟩,
 ⟨some 52,.mov (.t 5),none⟩,
 ⟨some 53,.iaddr 5 (.t 51) (.t 52),none⟩,
 ⟨some 54,.load true 5 (.t 53),none⟩,
 ⟨some 6,.box (.c (.agg [.int Go.IntKind.i64 0,.int Go.IntKind.i64 0,.int Go.IntKind.i64 0,.int Go.IntKind.u8 0,.int Go.IntKind.u8 0])),none⟩,
 ⟨none,.store 5 (.t 6) (.t 54),none⟩])
 (.seq (.seq (.region [⟨some 55,.faddr 0 (.t 6),none⟩,
 ⟨some 56,.load false 1 (.t 55),none⟩,
 ⟨some 57,.bin .lss (.t 56) (.c (.int Go.IntKind.i64 0)),none⟩,
 ⟨some 58,.mov (.t 57),none⟩,
 ⟨some 59,.faddr 0 (.t 6),some (58,false)⟩,
 ⟨some 60,.load false 1 (.t 59),some (58,false)⟩,
 ⟨some 61,.faddr 1 (.t 1),some (58,false)⟩,
 ⟨some 62,.load false 1 (.t 61),some (58,false)⟩,
 ⟨some 63,.bin .geq (.t 60) (.t 62),some (58,false)⟩,
 ⟨some 64,.pick (.t 58) (.c (.bool true)) (.t 63),none⟩,
 ⟨some 65,.mov (.t 64),none⟩,
 ⟨some 66,.faddr 1 (.t 6),some (65,false)⟩,
 ⟨some 67,.load false 1 (.t 66),some (65,false)⟩,
 ⟨some 68,.bin .lss (.t 67) (.c (.int Go.IntKind.i64 0)),some (65,false)⟩,
 ⟨some 69,.pick (.t 65) (.c (.bool true)) (.t 68),none⟩,
 ⟨some 70,.mov (.t 69),none⟩,
 ⟨some 71,.faddr 1 (.t 6),some (70,false)⟩,
 ⟨some 72,.load false 1 (.t 71),some (70,false)⟩,
 ⟨some 73,.faddr 1 (.t 1),some (70,false)⟩,
 ⟨some 74,.load false 1 (.t 73),some (70,false)⟩,
 ⟨some 75,.bin .geq (.t 72) (.t 74),some (70,false)⟩,
 ⟨some 76,.pick (.t 70) (.c (.bool true)) (.t 75),none⟩,
 ⟨some 77,.mov (.t 76),none⟩,
 ⟨some 78,.faddr 2 (.t 6),some (77,false)⟩,
 ⟨some 79,.load false 1 (.t 78),some (77,false)⟩,
 ⟨some 80,.bin .lss (.t 79) (.c (.int Go.IntKind.i64 0)),some (77,false)⟩,
 ⟨some 81,.pick (.t 77) (.c (.bool true)) (.t 80),none⟩,
 ⟨some 82,.mov (.t 81),none⟩,
 ⟨some 83,.faddr 2 (.t 6),some (82,false)⟩,
 ⟨some 84,.load false 1 (.t 83),some (82,false)⟩,
 ⟨some 85,.faddr 1 (.t 1),some (82,false)⟩,
 ⟨some 86,.load false 1 (.t 85),some (82,false)⟩,
 ⟨some 87,.bin .geq (.t 84) (.t 86),some (82,false)⟩,
 ⟨some 88,.pick (.t 82) (.c (.bool true)) (.t 87),none⟩])
 (.cond (.t 88)
 (.seq (.region [⟨some 2,.mov (.c (.int Go.IntKind.i64 8)),none⟩])
 (.ret))
 (.skip)))
 (.seq (.seq (.draw 14 [⟨some 89,.faddr 3 (.t 6),none⟩,
 ⟨some 90,.load false 1 (.t 89),none⟩,
 ⟨some 91,.conv Go.IntKind.i64 (.t 90),none⟩,
 ⟨some 92,.faddr 0 (.t 1),none⟩,
 ⟨some 93,.load false 1 (.t 92),none⟩,
 ⟨some 94,.bin .shl (.c (.int Go.IntKind.i64 1)) (.t 93),none⟩,
 ⟨some 95,.bin .geq (.t 91) (.t 94),none⟩,
 ⟨some 96,.mov (.t 95),none⟩,
 ⟨some 97,.faddr 4 (.t 6),some (96,false)⟩,
 ⟨some 98,.load false 1 (.t 97),some (96,false)⟩,
 ⟨some 99,.conv Go.IntKind.i64 (.t 98),some (96,false)⟩,
 ⟨some 100,.faddr 0 (.t 1),some (96,false)⟩,
 ⟨some 101,.load false 1 (.t 100),some (96,false)⟩,
 ⟨some 102,.bin .shl (.c (.int Go.IntKind.i64 1)) (.t 101),some (96,false)⟩,
 ⟨some 103,.bin .geq (.t 99) (.t 102),some (96,false)⟩,
 ⟨some 104,.pick (.t 96) (.c (.bool true)) (.t 103),none⟩])
 (.cond (.t 104)
 (.seq (.region [⟨some 2,.mov (.c (.int Go.IntKind.i64 7)),none⟩])
 (.ret))
 (.skip)))
 (.seq (.region [⟨some 105,.faddr 3 (.t 6),none⟩,
 ⟨some 106,.load false 1 (.t 105),none⟩,
 ⟨some 107,.faddr 4 (.t 6),none⟩,
 ⟨some 108,.load false 1 (.t 107),none⟩,
 ⟨some 109,.bin .and (.t 106) (.t 108),none⟩,
 ⟨some 110,.bin .neq (.t 109) (.c (.int Go.IntKind.u8 0)),none⟩])
 (.cond (.t 110)
 (.seq (.region [⟨some 2,.mov (.c (.int Go.IntKind.i64 2)),none⟩])
 (.ret))
 (.skip)))))))
 (.region [⟨some 48,.mov (.t 5),none⟩,
 ⟨some 49,.bin .add (.t 48) (.c (.int Go.IntKind.i64 1)),none⟩,
 ⟨some 5,.mov (.t 49),none⟩]))

def xTw : ACode := xEo
def xL2 : List Nat := [0,3,4,6,7,8,9,10,11,12,13,14,15,16,17,18,19,20,21,22,23,24,25,26,27,28,29,30,31,32,33,34,35,36,37,38,39,40,41,42,43,44,45,46,47,48,49,50,51,52,53,54,55,56,57,58,59,60,61,62,63,64,65,66,67,68,69,70,71,72,73,74,75,76,77,78,79,80,81,82,83,84,85,86,87,88,89,90,91,92,93,94,95,96,97,98,99,100,101,102,103,104,105,106,107,108,109,110]
abbrev xJS (s1 s2 s5 : AV) : List AV := [.any,s1,s2,.any,.any,s5,.any,.any,.any,.any,.any,.any,.any,.any,.any,.any,.any,.any,.any,.any,.any,.any,.any,.any,.any,.any,.any,.any,.any,.any,.any,.any,.any,.any,.any,.any,.any,.any,.any,.any,.any,.any,.any,.any,.any,.any,.any,.any,.any,.any,.any,.any,.any,.any,.any,.any,.any,.any,.any,.any,.any,.any,.any,.any,.any,.any,.any,.any,.any,.any,.any,.any,.any,.any,.any,.any,.any,.any,.any,.any,.any,.any,.any,.any,.any,.any,.any,.any,.any,.any,.any,.any,.any,.any,.any,.any,.any,.any,.any,.any,.any,.any,.any,.any,.any,.any,.any,.any,.any,.any,.any]
theorem xEp (s0 s1 s2 s3 s4 s5 s6 s7 s8 s9 s10 s11 s12 s13 s14 s15 s16 s17 s18 s19 s20 s21 s22 s23 s24 s25 s26 s27 s28 s29 s30 s31 s32 s33 s34 s35 s36 s37 s38 s39 s40 s41 s42 s43 s44 s45 s46 s47 s48 s49 s50 s51 s52 s53 s54 s55 s56 s57 s58 s59 s60 s61 s62 s63 s64 s65 s66 s67 s68 s69 s70 s71 s72 s73 s74 s75 s76 s77 s78 s79 s80 s81 s82 s83 s84 s85 s86 s87 s88 s89 s90 s91 s92 s93 s94 s95 s96 s97 s98 s99 s100 s101 s102 s103 s104 s105 s106 s107 s108 s109 s110 : AV) : xBs xL2 [s0,s1,s2,s3,s4,s5,s6,s7,s8,s9,s10,s11,s12,s13,s14,s15,s16,s17,s18,s19,s20,s21,s22,s23,s24,s25,s26,s27,s28,s29,s30,s31,s32,s33,s34,s35,s36,s37,s38,s39,s40,s41,s42,s43,s44,s45,s46,s47,s48,s49,s50,s51,s52,s53,s54,s55,s56,s57,s58,s59,s60,s61,s62,s63,s64,s65,s66,s67,s68,s69,s70,s71,s72,s73,s74,s75,s76,s77,s78,s79,s80,s81,s82,s83,s84,s85,s86,s87,s88,s89,s90,s91,s92,s93,s94,s95,s96,s97,s98,s99,s100,s101,s102,s103,s104,s105,s106,s107,s108,s109,s110] = xJS s1 s2 s5 := by kernel_rfl
theorem xFl {prog : Nat → Option AFunc} (s1 s2 s5 : AV) (H : xAv) : (lim prog).loop xL2 xTw ⟨xJS s1 s2 s5,H⟩ = xB9 (lim prog) xL2 xTw (run (lim prog) xEo ⟨xJS s1 s2 s5,H⟩) := xAI _ _ _ _ (by kernel_rfl)

def a82 : AFunc := ⟨111,
 .seq (.region [⟨some 1,.box (.t 0),none⟩,
 ⟨some 2,.mov (.c (.int Go.IntKind.i64 0)),none⟩])
 (.seq (.seq (.region [⟨some 7,.faddr 0 (.t 1),none⟩,
 ⟨some 8,.load false 1 (.t 7),none⟩,
 ⟨some 9,.bin .lss (.t 8) (.c (.int Go.IntKind.i64 0)),none⟩,
 ⟨some 10,.mov (.t 9),none⟩,
 ⟨some 11,.faddr 0 (.t 1),some (10,false)⟩,
 ⟨some 12,.load false 1 (.t 11),some (10,false)⟩,
 ⟨some 13,.bin .gtr (.t 12) (.c (.int Go.IntKind.i64 3)),some (10,false)⟩,
 ⟨some 14,.pick (.t 10) (.c (.bool true)) (.t 13),none⟩])
 (.cond (.t 14)
 (.seq (.region [⟨some 2,.mov (.c (.int Go.IntKind.i64 7)),none⟩])
 (.ret))
 (.skip)))
 (.seq (.seq (.region [⟨some 15,.faddr 1 (.t 1),none⟩,
 ⟨some 16,.load false 1 (.t 15),none⟩,
 ⟨some 17,.bin .lss (.t 16) (.c (.int Go.IntKind.i64 0)),none⟩])
 (.cond (.t 17)
 (.seq (.region [⟨some 2,.mov (.c (.int Go.IntKind.i64 1)),none⟩])
 (.ret))
 (.skip)))
 (.seq (.seq (.region [⟨some 18,.faddr 1 (.t 1),none⟩,
 ⟨some 19,.load false 1 (.t 18),none⟩,
 ⟨some 20,.bin .gtr (.t 19) (.c (.int Go.IntKind.i64 64)),none⟩,
 ⟨some 21,.mov (.t 20),none⟩,
 ⟨some 22,.faddr 4 (.t 1),some (21,false)⟩,
 ⟨some 23,.load false 1 (.t 22),some (21,false)⟩,
 ⟨some 24,.len (.t 23),some (21,false)⟩,
 ⟨some 25,.bin .gtr (.t 24) (.c (.int Go.IntKind.i64 512)),some (21,false)⟩,
 ⟨some 26,.pick (.t 21) (.c (.bool true)) (.t 25),none⟩])
 (.cond (.t 26)
 (.seq (.region [⟨some 2,.mov (.c (.int Go.IntKind.i64 4)),none⟩])
 (.ret))
 (.skip)))
 (.seq (.seq (.region [⟨some 27,.faddr 2 (.t 1),none⟩,
 ⟨some 28,.load false 1 (.t 27),none⟩,
 ⟨some 29,.faddr 1 (.t 1),none⟩,
 ⟨some 30,.load false 1 (.t 29),none⟩,
 ⟨some 31,.call 110 [(.t 28),(.t 30)],none⟩,
 ⟨some 3,.mov (.t 31),none⟩])
 (.seq (.region [⟨some 32,.mov (.t 3),none⟩,
 ⟨some 33,.bin .neq (.t 32) (.c (.int Go.IntKind.i64 0)),none⟩])
 (.cond (.t 33)
 (.seq (.region [⟨some 34,.mov (.t 3),none⟩,
 ⟨some 2,.mov (.t 34),none⟩])
 (.ret))
 (.skip))))
 (.seq (.seq (.region [⟨some 35,.faddr 3 (.t 1),none⟩,
 ⟨some 36,.load false 1 (.t 35),none⟩,
 ⟨some 37,.faddr 1 (.t 1),none⟩,
 ⟨some 38,.load false 1 (.t 37),none⟩,
 ⟨some 39,.call 110 [(.t 36),(.t 38)],none⟩,
 ⟨some 4,.mov (.t 39),none⟩])
 (.seq (.region [⟨some 40,.mov (.t 4),none⟩,
 ⟨some 41,.bin .neq (.t 40) (.c (.int Go.IntKind.i64 0)),none⟩])
 (.cond (.t 41)
 (.seq (.region [⟨some 42,.mov (.t 4),none⟩,
 ⟨some 2,.mov (.t 42),none⟩])
 (.ret))
 (.skip))))
 (.seq (.seq (.region [⟨some 5,.mov (.c (.int Go.IntKind.i64 0)),none⟩])
 (.block 0 (.loop xL2 xTw)))
 (.seq (.region [⟨some 2,.mov (.c (.int Go.IntKind.i64 0)),none⟩])
 (.ret)))))))),
 [.tmp 2]⟩

def xF8 : ACode :=
 .seq (.seq (.region [⟨some 20,.mov (.t 12),none⟩,
 ⟨some 21,.faddr 4 (.t 4),none⟩,
 ⟨some 22,.load false 1 (.t 21),none⟩,
 ⟨some 23,.len (.t 22),none⟩,
 ⟨some 24,.bin .lss (.t 20) (.t 23),none⟩,
 ⟨some 25,.mov (.t 24),none⟩,
 ⟨some 26,.mov (.t 11),some (25,true)⟩,
 ⟨some 27,.un .not (.t 26),some (25,true)⟩,
 ⟨some 28,.pick (.t 25) (.t 27) (.c (.bool false)),none⟩])
 (.cond (.t 28)
 (.skip)
 (.exit 2)))
 (.seq (.block 3 (.seq (.region [⟨some 31,.faddr 4 (.t 4),none⟩,
 ⟨some 32,.load false 1 (.t 31),none⟩,
 ⟨some 33,.mov (.t 12),none⟩,
 ⟨some 34,.iaddr 5 (.t 32) (.t 33),none⟩,
 ⟨some 35,.load true 5 (.t 34),none⟩,
 ⟨some 13,.box (.c (.agg [.int Go.IntKind.i64 0,.int Go.IntKind.i64 0,.int Go.IntKind.i64 0,.int Go.IntKind.u8 0,.int Go.IntKind.u8 0])),none⟩,
 ⟨none,.store 5 (.t 13) (.t 35),none⟩])
 (.region [⟨some 36,.faddr 2 (.t 13),none⟩,
 ⟨some 37,.load false 1 (.t 36),none⟩,
 ⟨some 38,.mov (.t 10),none⟩,
 ⟨some 39,.bin .eql (.t 37) (.t 38),none⟩,
 ⟨some 40,.mov (.t 39),none⟩,
 ⟨some 41,.mov (.t 3),some (40,true)⟩,
 ⟨some 42,.faddr 3 (.t 13),some (40,true)⟩,
 ⟨some 43,.load false 1 (.t 42),some (40,true)⟩,
 ⟨some 44,.faddr 4 (.t 13),some (40,true)⟩,
 ⟨some 45,.load false 1 (.t 44),some (40,true)⟩,
 ⟨some 46,.call 111 [(.t 41),(.t 43),(.t 45)],some (40,true)⟩,
 ⟨some 47,.pick (.t 40) (.t 46) (.c (.bool false)),none⟩,
 ⟨some 48,.mov (.t 47),none⟩,
 ⟨some 49,.mov (.t 1),some (48,true)⟩,
 ⟨some 50,.faddr 0 (.t 13),some (48,true)⟩,
 ⟨some 51,.load false 1 (.t 50),some (48,true)⟩,
 ⟨some 52,.call 85 [(.t 49),(.t 51)],some (48,true)⟩,
 ⟨some 53,.pick (.t 48) (.t 52) (.c (.bool false)),none⟩,
 ⟨some 54,.mov (.t 53),none⟩,
 ⟨some 55,.mov (.t 2),some (54,true)⟩,
 ⟨some 56,.faddr 1 (.t 13),some (54,true)⟩,
 ⟨some 57,.load false 1 (.t 56),some (54,true)⟩,
 ⟨some 58,.call 85 [(.t 55),(.t 57)],some (54,true)⟩,
 ⟨some 59,.pick (.t 54) (.t 58) (.c (.bool false)),none⟩,
 ⟨some 11,.mov (.t 59),none⟩])))
 (.region [⟨some 29,.mov (.t 12),none⟩,
 ⟨some 30,.bin .add (.t 29) (.c (.int Go.IntKind.i64 1)),none⟩,
 ⟨some 12,.mov (.t 30),none⟩]))

def xQ4 : ACode := xF8
def xJT : List Nat := [0,5,6,7,8,13,14,15,16,17,18,19,20,21,22,23,24,25,26,27,28,29,30,31,32,33,34,35,36,37,38,39,40,41,42,43,44,45,46,47,48,49,50,51,52,53,54,55,56,57,58,59,60,61,62,63,64,65]
abbrev xIu (s1 s2 s3 s4 s9 s10 s11 s12 : AV) : List AV := [.any,s1,s2,s3,s4,.any,.any,.any,.any,s9,s10,s11,s12,.any,.any,.any,.any,.any,.any,.any,.any,.any,.any,.any,.any,.any,.any,.any,.any,.any,.any,.any,.any,.any,.any,.any,.any,.any,.any,.any,.any,.any,.any,.any,.any,.any,.any,.any,.any,.any,.any,.any,.any,.any,.any,.any,.any,.any,.any,.any,.any,.any,.any,.any,.any,.any]
theorem xF9 (s0 s1 s2 s3 s4 s5 s6 s7 s8 s9 s10 s11 s12 s13 s14 s15 s16 s17 s18 s19 s20 s21 s22 s23 s24 s25 s26 s27 s28 s29 s30 s31 s32 s33 s34 s35 s36 s37 s38 s39 s40 s41 s42 s43 s44 s45 s46 s47 s48 s49 s50 s51 s52 s53 s54 s55 s56 s57 s58 s59 s60 s61 s62 s63 s64 s65 : AV) : xBs xJT [s0,s1,s2,s3,s4,s5,s6,s7,s8,s9,s10,s11,s12,s13,s14,s15,s16,s17,s18,s19,s20,s21,s22,s23,s24,s25,s26,s27,s28,s29,s30,s31,s32,s33,s34,s35,s36,s37,s38,s39,s40,s41,s42,s43,s44,s45,s46,s47,s48,s49,s50,s51,s52,s53,s54,s55,s56,s57,s58,s59,s60,s61,s62,s63,s64,s65] = xIu s1 s2 s3 s4 s9 s10 s11 s12 := by kernel_rfl
theorem xHE {prog : Nat → Option AFunc} (s1 s2 s3 s4 s9 s10 s11 s12 : AV) (H : xAv) : (lim prog).loop xJT xQ4 ⟨xIu s1 s2 s3 s4 s9 s10 s11 s12,H⟩ = xB9 (lim prog) xJT xQ4 (run (lim prog) xF8 ⟨xIu s1 s2 s3 s4 s9 s10 s11 s12,H⟩) := xAI _ _ _ _ (by kernel_rfl)

def xL3 : ACode :=
 .seq (.seq (.region [⟨some 14,.mov (.t 10),none⟩,
 ⟨some 15,.faddr 1 (.t 4),none⟩,
 ⟨some 16,.load false 1 (.t 15),none⟩,
 ⟨some 17,.bin .lss (.t 14) (.t 16),none⟩])
 (.cond (.t 17)
 (.skip)
 (.exit 0)))
 (.seq (.block 1 (.seq (.region [⟨some 11,.mov (.c (.bool false)),none⟩])
 (.seq (.seq (.region [⟨some 12,.mov (.c (.int Go.IntKind.i64 0)),none⟩])
 (.block 2 (.loop xJT xQ4)))
 (.seq (.region [⟨some 60,.mov (.t 11),none⟩])
 (.cond (.t 60)
 (.region [⟨some 61,.mov (.t 9),none⟩,
 ⟨some 62,.mov (.t 10),none⟩,
 ⟨some 63,.bslice true [.int Go.IntKind.i64 0] 1 1 [(0,(.t 62))],none⟩,
 ⟨some 64,.append false 1 8 (.t 61) (.t 63),none⟩,
 ⟨some 9,.mov (.t 64),none⟩])
 (.skip))))))
 (.region [⟨some 18,.mov (.t 10),none⟩,
 ⟨some 19,.bin .add (.t 18) (.c (.int Go.IntKind.i64 1)),none⟩,
 ⟨some 10,.mov (.t 19),none⟩]))

def xTx : ACode := xL3
def xL4 : List Nat := [0,5,6,7,8,11,12,13,14,15,16,17,18,19,20,21,22,23,24,25,26,27,28,29,30,31,32,33,34,35,36,37,38,39,40,41,42,43,44,45,46,47,48,49,50,51,52,53,54,55,56,57,58,59,60,61,62,63,64,65]
abbrev xL5 (s1 s2 s3 s4 s9 s10 : AV) : List AV := [.any,s1,s2,s3,s4,.any,.any,.any,.any,s9,s10,.any,.any,.any,.any,.any,.any,.any,.any,.any,.any,.any,.any,.any,.any,.any,.any,.any,.any,.any,.any,.any,.any,.any,.any,.any,.any,.any,.any,.any,.any,.any,.any,.any,.any,.any,.any,.any,.any,.any,.any,.any,.any,.any,.any,.any,.any,.any,.any,.any,.any,.any,.any,.any,.any,.any]
theorem xOH (s0 s1 s2 s3 s4 s5 s6 s7 s8 s9 s10 s11 s12 s13 s14 s15 s16 s17 s18 s19 s20 s21 s22 s23 s24 s25 s26 s27 s28 s29 s30 s31 s32 s33 s34 s35 s36 s37 s38 s39 s40 s41 s42 s43 s44 s45 s46 s47 s48 s49 s50 s51 s52 s53 s54 s55 s56 s57 s58 s59 s60 s61 s62 s63 s64 s65 : AV) : xBs xL4 [s0,s1,s2,s3,s4,s5,s6,s7,s8,s9,s10,s11,s12,s13,s14,s15,s16,s17,s18,s19,s20,s21,s22,s23,s24,s25,s26,s27,s28,s29,s30,s31,s32,s33,s34,s35,s36,s37,s38,s39,s40,s41,s42,s43,s44,s45,s46,s47,s48,s49,s50,s51,s52,s53,s54,s55,s56,s57,s58,s59,s60,s61,s62,s63,s64,s65] = xL5 s1 s2 s3 s4 s9 s10 := by kernel_rfl
theorem xQ5 {prog : Nat → Option AFunc} (s1 s2 s3 s4 s9 s10 : AV) (H : xAv) : (lim prog).loop xL4 xTx ⟨xL5 s1 s2 s3 s4 s9 s10,H⟩ = xB9 (lim prog) xL4 xTx (run (lim prog) xL3 ⟨xL5 s1 s2 s3 s4 s9 s10,H⟩) := xAI _ _ _ _ (by kernel_rfl)

def a83 : AFunc := ⟨66,
 .seq (.region [⟨some 4,.box (.t 0),none⟩,
 ⟨some 8,.mov (.c (.sl true 0 [])),none⟩])
 (.seq (.region [⟨some 9,.mov (.c (.sl true 0 [])),none⟩])
 (.seq (.seq (.region [⟨some 10,.mov (.c (.int Go.IntKind.i64 0)),none⟩])
 (.block 0 (.loop xL4 xTx)))
 (.seq (.region [⟨some 65,.mov (.t 9),none⟩,
 ⟨some 8,.mov (.t 65),none⟩])
 (.ret)))),
 [.tmp 8]⟩

def xL6 : ACode :=
 .seq (.seq (.region [⟨some 6,.mov (.t 5),none⟩,
 ⟨some 7,.mov (.t 0),none⟩,
 ⟨some 8,.len (.t 7),none⟩,
 ⟨some 9,.bin .lss (.t 6) (.t 8),none⟩])
 (.cond (.t 9)
 (.skip)
 (.exit 0)))
 (.seq (.block 1 (.seq (.region [⟨some 12,.mov (.t 0),none⟩,
 ⟨some 13,.mov (.t 5),none⟩,
 ⟨some 14,.iaddr 1 (.t 12) (.t 13),none⟩,
 ⟨some 15,.load false 1 (.t 14),none⟩,
 ⟨some 16,.mov (.t 1),none⟩,
 ⟨some 17,.call 20 [(.t 15),(.t 16)],none⟩])
 (.cond (.t 17)
 (.seq (.region [⟨some 18,.mov (.t 5),none⟩,
 ⟨some 4,.mov (.t 18),none⟩])
 (.ret))
 (.skip))))
 (.region [⟨some 10,.mov (.t 5),none⟩,
 ⟨some 11,.bin .add (.t 10) (.c (.int Go.IntKind.i64 1)),none⟩,
 ⟨some 5,.mov (.t 11),none⟩]))

def xTy : ACode := xL6
def xL7 : List Nat := [2,3,6,7,8,9,10,11,12,13,14,15,16,17,18]
abbrev xL8 (s0 s1 s4 s5 : AV) : List AV := [s0,s1,.any,.any,s4,s5,.any,.any,.any,.any,.any,.any,.any,.any,.any,.any,.any,.any,.any]
theorem xL9 (s0 s1 s2 s3 s4 s5 s6 s7 s8 s9 s10 s11 s12 s13 s14 s15 s16 s17 s18 : AV) : xBs xL7 [s0,s1,s2,s3,s4,s5,s6,s7,s8,s9,s10,s11,s12,s13,s14,s15,s16,s17,s18] = xL8 s0 s1 s4 s5 := by kernel_rfl
theorem xQ6 {prog : Nat → Option AFunc} (s0 s1 s4 s5 : AV) (H : xAv) : (lim prog).loop xL7 xTy ⟨xL8 s0 s1 s4 s5,H⟩ = xB9 (lim prog) xL7 xTy (run (lim prog) xL6 ⟨xL8 s0 s1 s4 s5,H⟩) := xAI _ _ _ _ (by kernel_rfl)

def a84 : AFunc := ⟨19,
 .seq (.region [⟨some 4,.mov (.c (.int Go.IntKind.i64 0)),none⟩])
 (.seq (.seq (.region [⟨some 5,.mov (.c (.int Go.IntKind.i64 0)),none⟩])
 (.block 0 (.loop xL7 xTy)))
 (.seq (.region [⟨some 4,.mov (.c (.int Go.IntKind.i64 (-1))),none⟩])
 (.ret))),
 [.tmp 4]⟩

def xMa : ACode :=
 .seq (.seq (.region [⟨some 6,.mov (.t 5),none⟩,
 ⟨some 7,.mov (.t 0),none⟩,
 ⟨some 8,.len (.t 7),none⟩,
 ⟨some 9,.bin .lss (.t 6) (.t 8),none⟩])
 (.cond (.t 9)
 (.skip)
 (.exit 0)))
 (.seq (.block 1 (.seq (.region [⟨some 12,.mov (.t 0),none⟩,
 ⟨some 13,.mov (.t 5),none⟩,
 ⟨some 14,.iaddr 1 (.t 12) (.t 13),none⟩,
 ⟨some 15,.load false 1 (.t 14),none⟩,
 ⟨some 16,.mov (.t 1),none⟩,
 ⟨some 17,.bin .eql (.t 15) (.t 16),none⟩])
 (.cond (.t 17)
 (.seq (.region [⟨some 4,.mov (.c (.bool true)),none⟩])
 (.ret))
 (.skip))))
 (.region [⟨some 10,.mov (.t 5),none⟩,
 ⟨some 11,.bin .add (.t 10) (.c (.int Go.IntKind.i64 1)),none⟩,
 ⟨some 5,.mov (.t 11),none⟩]))

def xTz : ACode := xMa
def xMb : List Nat := [2,3,6,7,8,9,10,11,12,13,14,15,16,17]
abbrev xMc (s0 s1 s4 s5 : AV) : List AV := [s0,s1,.any,.any,s4,s5,.any,.any,.any,.any,.any,.any,.any,.any,.any,.any,.any,.any]
theorem xMd (s0 s1 s2 s3 s4 s5 s6 s7 s8 s9 s10 s11 s12 s13 s14 s15 s16 s17 : AV) : xBs xMb [s0,s1,s2,s3,s4,s5,s6,s7,s8,s9,s10,s11,s12,s13,s14,s15,s16,s17] = xMc s0 s1 s4 s5 := by kernel_rfl
theorem xQ7 {prog : Nat → Option AFunc} (s0 s1 s4 s5 : AV) (H : xAv) : (lim prog).loop xMb xTz ⟨xMc s0 s1 s4 s5,H⟩ = xB9 (lim prog) xMb xTz (run (lim prog) xMa ⟨xMc s0 s1 s4 s5,H⟩) := xAI _ _ _ _ (by kernel_rfl)

def a85 : AFunc := ⟨18,
 .seq (.region [⟨some 4,.mov (.c (.bool false)),none⟩])
 (.seq (.seq (.region [⟨some 5,.mov (.c (.int Go.IntKind.i64 0)),none⟩])
 (.block 0 (.loop xMb xTz)))
 (.seq (.region [⟨some 4,.mov (.c (.bool false)),none⟩])
 (.ret))),
 [.tmp 4]⟩

def xIv : ACode :=
 .seq (.region [⟨some 11,.bin .lss (.t 10) (.t 9),none⟩])
 (.seq (.cond (.t 11)
 (.skip)
 (.exit 0))
 (.seq (.block 1 (.seq (.region [⟨some 12,.iaddr 1 (.t 8) (.t 10),none⟩,
 ⟨some 13,.load false 1 (.t 12),none⟩,
 ⟨some 7,.mov (.t 13),none⟩])
 (.seq (.seq (.region [⟨some 14,.mov (.t 7),none⟩,
 ⟨some 15,.mov (.t 5),none⟩,
 ⟨some 16,.bin .leq (.t 14) (.t 15),none⟩,
 ⟨some 17,.mov (.t 16),none⟩,
 ⟨some 18,.mov (.t 7),some (17,false)⟩,
 ⟨some 19,.mov (.t 1),some (17,false)⟩,
 ⟨some 20,.bin .geq (.t 18) (.t 19),some (17,false)⟩,
 ⟨some 21,.pick (.t 17) (.c (.bool true)) (.t 20),none⟩])
 (.cond (.t 21)
 (.seq (.region [⟨some 4,.mov (.c (.int Go.IntKind.i64 8)),none⟩])
 (.ret))
 (.skip)))
 (.region [⟨some 22,.mov (.t 7),none⟩,
 ⟨some 5,.mov (.t 22),none⟩]))))
 (.region [⟨some 23,.bin .add (.t 10) (.c (.int Go.IntKind.i64 1)),none⟩,
 ⟨some 10,.mov (.t 23),none⟩])))

def xTA : ACode := xIv
def xMe : List Nat := [0,2,3,6,7,11,12,13,14,15,16,17,18,19,20,21,22,23]
abbrev xJU (s1 s4 s5 s8 s9 s10 : AV) : List AV := [.any,s1,.any,.any,s4,s5,.any,.any,s8,s9,s10,.any,.any,.any,.any,.any,.any,.any,.any,.any,.any,.any,.any,.any]
theorem xIw (s0 s1 s2 s3 s4 s5 s6 s7 s8 s9 s10 s11 s12 s13 s14 s15 s16 s17 s18 s19 s20 s21 s22 s23 : AV) : xBs xMe [s0,s1,s2,s3,s4,s5,s6,s7,s8,s9,s10,s11,s12,s13,s14,s15,s16,s17,s18,s19,s20,s21,s22,s23] = xJU s1 s4 s5 s8 s9 s10 := by kernel_rfl
theorem xOI {prog : Nat → Option AFunc} (s1 s4 s5 s8 s9 s10 : AV) (H : xAv) : (lim prog).loop xMe xTA ⟨xJU s1 s4 s5 s8 s9 s10,H⟩ = xB9 (lim prog) xMe xTA (run (lim prog) xIv ⟨xJU s1 s4 s5 s8 s9 s10,H⟩) := xAI _ _ _ _ (by kernel_rfl)

def a89 : AFunc := ⟨24,
 .seq (.region [⟨some 4,.mov (.c (.int Go.IntKind.i64 0)),none⟩])
 (.seq (.region [⟨some 5,.mov (.c (.int Go.IntKind.i64 (-1))),none⟩])
 (.seq (.seq (.region [⟨some 8,.mov (.t 0),none⟩,
 ⟨some 9,.len (.t 8),none⟩,
 ⟨some 10,.mov (.c (.int Go.IntKind.i64 0)),none⟩])
 (.block 0 (.loop xMe xTA)))
 (.seq (.region [⟨some 4,.mov (.c (.int Go.IntKind.i64 0)),none⟩])
 (.ret)))),
 [.tmp 4]⟩

def a90 : AFunc := ⟨28,
 .seq (.region [⟨some 2,.box (.t 0),none⟩,
 ⟨some 4,.mov (.c (.int Go.IntKind.i64 0)),none⟩])
 (.seq (.block 0 (.seq (.seq (.region [⟨some 6,.mov (.t 1),none⟩,
 ⟨some 7,.bin .lss (.t 6) (.c (.int Go.IntKind.i64 0)),none⟩,
 ⟨some 8,.mov (.t 7),none⟩,
 ⟨some 9,.mov (.t 1),some (8,false)⟩,
 ⟨some 10,.bin .gtr (.t 9) (.c (.int Go.IntKind.i64 6)),some (8,false)⟩,
 ⟨some 11,.pick (.t 8) (.c (.bool true)) (.t 10),none⟩,
 ⟨some 5,.mov (.t 11),none⟩])
 (.cond (.t 5)
 (.skip)
 (.draw 6 [⟨some 12,.faddr 0 (.t 2),none⟩,
 ⟨some 13,.load false 1 (.t 12),none⟩,
 ⟨some 14,.faddr 1 (.t 2),none⟩,
 ⟨some 15,.load false 1 (.t 14),none⟩,
 ⟨some 16,.bin .or (.t 13) (.t 15),none⟩,
 ⟨some 17,.conv Go.IntKind.i64 (.t 16),none⟩,
 ⟨some 18,.mov (.t 1),none⟩,
 ⟨some 19,.bin .shl (.c (.int Go.IntKind.i64 1)) (.t 18),none⟩,
 ⟨some 20,.bin .geq (.t 17) (.t 19),none⟩,
 ⟨some 5,.mov (.t 20),none⟩])))
 (.cond (.t 5)
 (.seq (.region [⟨some 4,.mov (.c (.int Go.IntKind.i64 7)),none⟩])
 (.ret))
 (.seq (.region [⟨some 22,.faddr 0 (.t 2),none⟩,
 ⟨some 23,.load false 1 (.t 22),none⟩,
 ⟨some 24,.faddr 1 (.t 2),none⟩,
 ⟨some 25,.load false 1 (.t 24),none⟩,
 ⟨some 26,.bin .and (.t 23) (.t 25),none⟩,
 ⟨some 27,.bin .neq (.t 26) (.c (.int Go.IntKind.u8 0)),none⟩,
 ⟨some 21,.mov (.t 27),none⟩])
 (.cond (.t 21)
 (.seq (.region [⟨some 4,.mov (.c (.int Go.IntKind.i64 2)),none⟩])
 (.ret))
 (.skip))))))
 (.seq (.region [⟨some 4,.mov (.c (.int Go.IntKind.i64 0)),none⟩])
 (.ret))),
 [.tmp 4]⟩

def a91 : AFunc := ⟨18,
 .seq (.region [⟨some 2,.mov (.c (.bool false)),none⟩])
 (.seq (.region [⟨some 3,.mov (.t 0),none⟩,
 ⟨some 4,.len (.t 3),none⟩,
 ⟨some 5,.bin .eql (.t 4) (.c (.int Go.IntKind.i64 0)),none⟩,
 ⟨some 6,.mov (.t 5),none⟩,
 ⟨some 7,.mov (.t 0),some (6,false)⟩,
 ⟨some 8,.len (.t 7),some (6,false)⟩,
 ⟨some 9,.bin .leq (.t 8) (.c (.int Go.IntKind.i64 31)),some (6,false)⟩,
 ⟨some 10,.mov (.t 9),some (6,false)⟩,
 ⟨some 11,.mov (.t 0),some (10,true)⟩,
 ⟨some 12,.call 114 [(.t 11),(.c (.int Go.IntKind.i64 0))],some (10,true)⟩,
 ⟨some 13,.mov (.t 0),some (10,true)⟩,
 ⟨some 14,.len (.t 13),some (10,true)⟩,
 ⟨some 15,.bin .eql (.t 12) (.t 14),some (10,true)⟩,
 ⟨some 16,.pick (.t 10) (.t 15) (.c (.bool false)),some (6,false)⟩,
 ⟨some 17,.pick (.t 6) (.c (.bool true)) (.t 16),none⟩,
 ⟨some 2,.mov (.t 17),none⟩])
 (.ret)),
 [.tmp 2]⟩

def xVi : ACode :=
 .seq (.region [⟨some 21,.bin .lss (.t 20) (.t 19),none⟩])
 (.seq (.cond (.t 21)
 (.skip)
 (.exit 1))
 (.seq (.block 2 (.seq (.region [⟨some 22,.iaddr 3 (.t 18) (.t 20),none⟩,
 ⟨some 23,.load true 3 (.t 22),none⟩,
 ⟨some 6,.box (.c (.agg [.int Go.IntKind.u8 0,.int Go.IntKind.i64 0,.int Go.IntKind.i64 0])),none⟩,
 ⟨none,.store 3 (.t 6) (.t 23),none⟩])
 (.seq (.region [⟨some 24,.faddr 0 (.t 6),none⟩,
 ⟨some 25,.load false 1 (.t 24),none⟩,
 ⟨some 26,.conv Go.IntKind.i64 (.t 25),none⟩,
 ⟨some 27,.mov (.t 1),none⟩,
 ⟨some 28,.bin .shr (.t 26) (.t 27),none⟩,
 ⟨some 29,.bin .neq (.t 28) (.c (.int Go.IntKind.i64 0)),none⟩])
 (.cond (.t 29)
 (.seq (.region [⟨some 4,.mov (.c (.int Go.IntKind.i64 1)),none⟩])
 (.ret))
 (.skip)))))
 (.region [⟨some 30,.bin .add (.t 20) (.c (.int Go.IntKind.i64 1)),none⟩,
 ⟨some 20,.mov (.t 30),none⟩])))

def xWf : ACode := xVi
def xOJ : List Nat := [2,3,5,6,7,8,9,10,11,12,13,14,15,16,17,21,22,23,24,25,26,27,28,29,30,31,32,33]
abbrev xQ8 (s0 s1 s4 s18 s19 s20 : AV) : List AV := [s0,s1,.any,.any,s4,.any,.any,.any,.any,.any,.any,.any,.any,.any,.any,.any,.any,.any,s18,s19,s20,.any,.any,.any,.any,.any,.any,.any,.any,.any,.any,.any,.any,.any]
theorem yDm (s0 s1 s2 s3 s4 s5 s6 s7 s8 s9 s10 s11 s12 s13 s14 s15 s16 s17 s18 s19 s20 s21 s22 s23 s24 s25 s26 s27 s28 s29 s30 s31 s32 s33 : AV) : xBs xOJ [s0,s1,s2,s3,s4,s5,s6,s7,s8,s9,s10,s11,s12,s13,s14,s15,s16,s17,s18,s19,s20,s21,s22,s23,s24,s25,s26,s27,s28,s29,s30,s31,s32,s33] = xQ8 s0 s1 s4 s18 s19 s20 := by kernel_rfl
theorem yDn {prog : Nat → Option AFunc} (s0 s1 s4 s18 s19 s20 : AV) (H : xAv) : (lim prog).loop xOJ xWf ⟨xQ8 s0 s1 s4 s18 s19 s20,H⟩ = xB9 (lim prog) xOJ xWf (run (lim prog) xVi ⟨xQ8 s0 s1 s4 s18 s19 s20,H⟩) := xAI _ _ _ _ (by kernel_rfl)

def a99 : AFunc := ⟨34,
 .seq (.region [⟨some 4,.mov (.c (.int Go.IntKind.i64 0)),none⟩])
 (.seq (.block 0 (.seq (.region [⟨some 8,.mov (.t 1),none⟩,
 ⟨some 9,.bin .lss (.t 8) (.c (.int Go.IntKind.i64 0)),none⟩,
 ⟨some 10,.mov (.t 9),none⟩,
 ⟨some 11,.mov (.t 1),some (10,false)⟩,
 ⟨some 12,.bin .gtr (.t 11) (.c (.int Go.IntKind.i64 3)),some (10,false)⟩,
 ⟨some 13,.pick (.t 10) (.c (.bool true)) (.t 12),none⟩,
 ⟨some 7,.mov (.t 13),none⟩])
 (.cond (.t 7)
 (.seq (.region [⟨some 4,.mov (.c (.int Go.IntKind.i64 7)),none⟩])
 (.ret))
 (.seq (.region [⟨some 15,.mov (.t 0),none⟩,
 ⟨some 16,.len (.t 15),none⟩,
 ⟨some 17,.bin .gtr (.t 16) (.c (.int Go.IntKind.i64 31)),none⟩,
 ⟨some 14,.mov (.t 17),none⟩])
 (.cond (.t 14)
 (.seq (.region [⟨some 4,.mov (.c (.int Go.IntKind.i64 4)),none⟩])
 (.ret))
 (.skip))))))
 (.seq (.seq (.region [⟨some 18,.mov (.t 0),none⟩,
 ⟨some 19,.len (.t 18),none⟩,
 ⟨some 20,.mov (.c (.int Go.IntKind.i64 0)),none⟩])
 (.block 1 (.loop xOJ xWf)))
 (.seq (.seq (.region [⟨some 31,.mov (.t 0),none⟩,
 ⟨some 32,.call 91 [(.t 31)],none⟩,
 ⟨some 33,.un .not (.t 32),none⟩])
 (.cond (.t 33)
 (.seq (.region [⟨some 4,.mov (.c (.int Go.IntKind.i64 2)),none⟩])
 (.ret))
 (.skip)))
 (.seq (.region [⟨some 4,.mov (.c (.int Go.IntKind.i64 0)),none⟩])
 (.ret))))),
 [.tmp 4]⟩

def yBw : AFunc := ⟨12,
 .seq (.region [⟨some 4,.mov (.c (.int Go.IntKind.i64 0)),none⟩])
 (.seq (.seq (.region [⟨some 5,.mov (.t 0),none⟩,
 ⟨some 6,.bin .lss (.t 5) (.c (.int Go.IntKind.i64 0)),none⟩])
 (.cond (.t 6)
 (.region [⟨some 7,.load false 1 (.t 1),none⟩,
 ⟨some 0,.mov (.t 7),none⟩])
 (.skip)))
 (.seq (.region [⟨some 8,.load false 1 (.t 2),none⟩,
 ⟨some 9,.mov (.t 0),none⟩,
 ⟨some 10,.iaddr 1 (.t 8) (.t 9),none⟩,
 ⟨some 11,.load false 1 (.t 10),none⟩,
 ⟨some 4,.mov (.t 11),none⟩])
 (.ret))),
 [.tmp 4]⟩

def yBx : AFunc := ⟨48,
 .seq (.region [⟨some 9,.mov (.c (.int Go.IntKind.i64 0)),none⟩])
 (.seq (.draw 14 [⟨some 13,.faddr 2 (.t 3),none⟩,
 ⟨some 14,.load false 1 (.t 13),none⟩,
 ⟨some 15,.load false 1 (.t 4),none⟩,
 ⟨some 16,.mov (.t 0),none⟩,
 ⟨some 17,.iaddr 1 (.t 15) (.t 16),none⟩,
 ⟨some 18,.load false 1 (.t 17),none⟩,
 ⟨some 19,.iaddr 1 (.t 14) (.t 18),none⟩,
 ⟨some 20,.load false 1 (.t 19),none⟩,
 ⟨some 21,.load false 1 (.t 4),none⟩,
 ⟨some 22,.mov (.t 1),none⟩,
 ⟨some 23,.iaddr 1 (.t 21) (.t 22),none⟩,
 ⟨some 24,.load false 1 (.t 23),none⟩,
 ⟨some 25,.iaddr 1 (.t 20) (.t 24),none⟩,
 ⟨some 26,.load false 1 (.t 25),none⟩,
 ⟨some 27,.mov (.t 2),none⟩,
 ⟨some 28,.iaddr 1 (.t 26) (.t 27),none⟩,
 ⟨some 29,.load false 1 (.t 28),none⟩,
 ⟨some 10,.mov (.t 29),none⟩])
 (.seq (.seq (.region [⟨some 31,.load false 1 (.t 5),none⟩,
 ⟨some 32,.mov (.t 10),none⟩,
 ⟨some 33,.mlook [0] true (.int Go.IntKind.i64 0) (.t 31) (.t 32),none⟩,
 ⟨some 30,.mov (.t 33),none⟩,
 ⟨some 34,.ext 0 (.t 30),none⟩,
 ⟨some 35,.ext 1 (.t 30),none⟩,
 ⟨some 11,.mov (.t 34),none⟩,
 ⟨some 12,.mov (.t 35),none⟩])
 (.seq (.region [⟨some 36,.mov (.t 12),none⟩,
 ⟨some 37,.un .not (.t 36),none⟩])
 (.cond (.t 37)
 (.seq (.region [⟨some 38,.load false 1 (.t 5),none⟩,
 ⟨some 39,.mov (.t 10),none⟩,
 ⟨some 40,.load false 1 (.t 4),none⟩,
 ⟨some 41,.len (.t 40),none⟩,
 ⟨none,.mupd [0] (.t 38) (.t 39) (.t 41),none⟩])
 (.region [⟨some 42,.load false 1 (.t 4),none⟩,
 ⟨some 43,.mov (.t 10),none⟩,
 ⟨some 44,.bslice true [.int Go.IntKind.i64 0] 1 1 [(0,(.t 43))],none⟩,
 ⟨some 45,.append false 1 8 (.t 42) (.t 44),none⟩,
 ⟨none,.store 1 (.t 4) (.t 45),none⟩]))
 (.skip))))
 (.seq (.region [⟨some 46,.load false 1 (.t 4),none⟩,
 ⟨some 47,.len (.t 46),none⟩,
 ⟨some 9,.mov (.t 47),none⟩])
 (.ret)))),
 [.tmp 9]⟩

def yBy : AFunc := ⟨29,
 .seq (.region [⟨some 9,.mov (.c (.int Go.IntKind.i64 0)),none⟩])
 (.seq (.draw 15 [⟨some 10,.load false 1 (.t 3),none⟩,
 ⟨some 11,.faddr 2 (.t 4),none⟩,
 ⟨some 12,.load false 1 (.t 11),none⟩,
 ⟨some 13,.load false 1 (.t 5),none⟩,
 ⟨some 14,.mov (.t 0),none⟩,
 ⟨some 15,.iaddr 1 (.t 13) (.t 14),none⟩,
 ⟨some 16,.load false 1 (.t 15),none⟩,
 ⟨some 17,.iaddr 1 (.t 12) (.t 16),none⟩,
 ⟨some 18,.load false 1 (.t 17),none⟩,
 ⟨some 19,.load false 1 (.t 5),none⟩,
 ⟨some 20,.mov (.t 1),none⟩,
 ⟨some 21,.iaddr 1 (.t 19) (.t 20),none⟩,
 ⟨some 22,.load false 1 (.t 21),none⟩,
 ⟨some 23,.iaddr 1 (.t 18) (.t 22),none⟩,
 ⟨some 24,.load false 1 (.t 23),none⟩,
 ⟨some 25,.mov (.t 2),none⟩,
 ⟨some 26,.iaddr 1 (.t 24) (.t 25),none⟩,
 ⟨some 27,.load false 1 (.t 26),none⟩,
 ⟨some 28,.mlook [0] false (.int Go.IntKind.i64 0) (.t 10) (.t 27),none⟩,
 ⟨some 9,.mov (.t 28),none⟩])
 (.ret)),
 [.tmp 9]⟩

def yBz : AFunc := ⟨13,
 .seq (.region [⟨some 4,.mov (.c (.bool false)),none⟩])
 (.seq (.draw 3 [⟨some 5,.faddr 3 (.t 1),none⟩,
 ⟨some 6,.load false 1 (.t 5),none⟩,
 ⟨some 7,.load false 1 (.t 2),none⟩,
 ⟨some 8,.mov (.t 0),none⟩,
 ⟨some 9,.iaddr 1 (.t 7) (.t 8),none⟩,
 ⟨some 10,.load false 1 (.t 9),none⟩,
 ⟨some 11,.iaddr 1 (.t 6) (.t 10),none⟩,
 ⟨some 12,.load false 1 (.t 11),none⟩,
 ⟨some 4,.mov (.t 12),none⟩])
 (.ret)),
 [.tmp 4]⟩

def yBA : AFunc := ⟨5,
 .seq (.region [⟨some 2,.mov (.c (.str ⟨#[]⟩)),none⟩])
 (.seq (.region [⟨some 3,.mov (.t 0),none⟩,
 ⟨some 4,.call 121 [(.t 3)],none⟩,
 ⟨some 2,.mov (.t 4),none⟩])
 (.ret)),
 [.tmp 2]⟩

def yBB : AFunc := ⟨12,
 .draw 2 [⟨some 4,.load false 1 (.t 1),none⟩,
 ⟨some 5,.load false 1 (.t 2),none⟩,
 ⟨some 6,.mov (.t 0),none⟩,
 ⟨some 7,.iaddr 1 (.t 5) (.t 6),none⟩,
 ⟨some 8,.load false 1 (.t 7),none⟩,
 ⟨some 9,.conv Go.IntKind.u8 (.t 8),none⟩,
 ⟨some 10,.bslice true [.int Go.IntKind.u8 0] 1 2 [(0,(.c (.int Go.IntKind.u8 32))),(1,(.t 9))],none⟩,
 ⟨some 11,.append false 1 1 (.t 4) (.t 10),none⟩,
 ⟨none,.store 1 (.t 1) (.t 11),none⟩],
 []⟩

def xYT : AFunc := ⟨5,
 .seq (.region [⟨some 2,.mov (.c (.sl true 0 [])),none⟩])
 (.seq (.region [⟨some 3,.mov (.t 0),none⟩,
 ⟨some 4,.append false 5 32 (.c (.sl true 0 [])) (.t 3),none⟩,
 ⟨some 2,.mov (.t 4),none⟩])
 (.ret)),
 [.tmp 2]⟩

def xIx : ACode :=
 .seq (.region [⟨some 9,.bin .lss (.t 8) (.t 7),none⟩])
 (.seq (.cond (.t 9)
 (.skip)
 (.exit 0))
 (.seq (.block 1 (.seq (.region [⟨some 10,.mov (.t 8),none⟩,
 ⟨some 5,.mov (.t 10),none⟩])
 (.seq (.region [⟨some 11,.mov (.t 1),none⟩,
 ⟨some 12,.mov (.t 0),none⟩,
 ⟨some 13,.mov (.t 5),none⟩,
 ⟨some 14,.iaddr 1 (.t 12) (.t 13),none⟩,
 ⟨some 15,.load false 1 (.t 14),none⟩,
 ⟨some 16,.icall (.t 11) [(.t 15)],none⟩])
 (.cond (.t 16)
 (.seq (.region [⟨some 17,.mov (.t 5),none⟩,
 ⟨some 4,.mov (.t 17),none⟩])
 (.ret))
 (.skip)))))
 (.region [⟨some 18,.bin .add (.t 8) (.c (.int Go.IntKind.i64 1)),none⟩,
 ⟨some 8,.mov (.t 18),none⟩])))

def xOK : ACode := xIx
def xIy : List Nat := [2,3,5,6,9,10,11,12,13,14,15,16,17,18]
abbrev xIz (s0 s1 s4 s7 s8 : AV) : List AV := [s0,s1,.any,.any,s4,.any,.any,s7,s8,.any,.any,.any,.any,.any,.any,.any,.any,.any,.any]
theorem xIA (s0 s1 s2 s3 s4 s5 s6 s7 s8 s9 s10 s11 s12 s13 s14 s15 s16 s17 s18 : AV) : xBs xIy [s0,s1,s2,s3,s4,s5,s6,s7,s8,s9,s10,s11,s12,s13,s14,s15,s16,s17,s18] = xIz s0 s1 s4 s7 s8 := by kernel_rfl
theorem xNp {prog : Nat → Option AFunc} (s0 s1 s4 s7 s8 : AV) (H : xAv) : (lim prog).loop xIy xOK ⟨xIz s0 s1 s4 s7 s8,H⟩ = xB9 (lim prog) xIy xOK (run (lim prog) xIx ⟨xIz s0 s1 s4 s7 s8,H⟩) := xAI _ _ _ _ (by kernel_rfl)

def xYU : AFunc := ⟨19,
 .seq (.region [⟨some 4,.mov (.c (.int Go.IntKind.i64 0)),none⟩])
 (.seq (.seq (.region [⟨some 6,.mov (.t 0),none⟩,
 ⟨some 7,.len (.t 6),none⟩,
 ⟨some 8,.mov (.c (.int Go.IntKind.i64 0)),none⟩])
 (.block 0 (.loop xIy xOK)))
 (.seq (.region [⟨some 4,.mov (.c (.int Go.IntKind.i64 (-1))),none⟩])
 (.ret))),
 [.tmp 4]⟩

def xEx : ACode :=
 .seq (.seq (.region [⟨some 6,.mov (.t 5),none⟩,
 ⟨some 7,.mov (.t 0),none⟩,
 ⟨some 8,.len (.t 7),none⟩,
 ⟨some 9,.bin .lss (.t 6) (.t 8),none⟩])
 (.cond (.t 9)
 (.skip)
 (.exit 0)))
 (.seq (.block 1 (.seq (.draw 26 [⟨some 12,.mov (.t 0),none⟩,
 ⟨some 13,.mov (.t 5),none⟩,
 ⟨some 14,.iaddr 1 (.t 12) (.t 13),none⟩,
 ⟨some 15,.load false 1 (.t 14),none⟩,
 ⟨some 16,.bin .lss (.t 15) (.c (.int Go.IntKind.i64 0)),none⟩,
 ⟨some 17,.mov (.t 16),none⟩,
 ⟨some 18,.mov (.t 0),some (17,false)⟩,
 ⟨some 19,.mov (.t 5),some (17,false)⟩,
 ⟨some 20,.iaddr 1 (.t 18) (.t 19),some (17,false)⟩,
 ⟨some 21,.load false 1 (.t 20),some (17,false)⟩,
 ⟨some 22,.mov (.t 1),some (17,false)⟩,
 ⟨some 23,.bin .geq (.t 21) (.t 22),some (17,false)⟩,
 ⟨some 24,.pick (.t 17) (.c (.bool true)) (.t 23),none⟩,
 ⟨some 25,.mov (.t 24),none⟩,
 ⟨some 26,.mov (.t 5),some (25,false)⟩,
 ⟨some 27,.bin .gtr (.t 26) (.c (.int Go.IntKind.i64 0)),some (25,false)⟩,
 ⟨some 28,.mov (.t 27),some (25,false)⟩,
 ⟨some 29,.mov (.t 0),some (28,true)⟩,
 ⟨some 30,.mov (.t 5),some (28,true)⟩,
 ⟨some 31,.iaddr 1 (.t 29) (.t 30),some (28,true)⟩,
 ⟨some 32,.load false 1 (.t 31),some (28,true)⟩,
 ⟨some 33,.mov (.t 0),some (28,true)⟩,
 ⟨some 34,.mov (.t 5),some (28,true)⟩,
 ⟨some 35,.bin .sub (.t 34) (.c (.int Go.IntKind.i64 1)),some (28,true)⟩,
 ⟨some 36,.iaddr 1 (.t 33) (.t 35),some (28,true)⟩,
 ⟨some 37,.load false 1 (.t 36),some (28,true)⟩,
 ⟨some 38,.bin .leq (.t 32) (.t 37),some (28,true)⟩,
 ⟨some 39,.pick (.t 28) (.t 38) (.c (.bool false)),some (25,false)⟩,
 ⟨some 40,.pick (.t 25) (.c (.bool true)) (.t 39),none⟩])
 (.cond (.t 40)
 (.seq (.region [⟨some 4,.mov (.c (.int Go.IntKind.i64 8)),none⟩])
 (.ret))
 (.skip))))
 (.region [⟨some 10,.mov (.t 5),none⟩,
 ⟨some 11,.bin .add (.t 10) (.c (.int Go.IntKind.i64 1)),none⟩,
 ⟨some 5,.mov (.t 11),none⟩]))

def xOL : ACode := xEx
def xIB : List Nat := [2,3,6,7,8,9,10,11,12,13,14,15,16,17,18,19,20,21,22,23,24,25,26,27,28,29,30,31,32,33,34,35,36,37,38,39,40]
abbrev xHe (s0 s1 s4 s5 : AV) : List AV := [s0,s1,.any,.any,s4,s5,.any,.any,.any,.any,.any,.any,.any,.any,.any,.any,.any,.any,.any,.any,.any,.any,.any,.any,.any,.any,.any,.any,.any,.any,.any,.any,.any,.any,.any,.any,.any,.any,.any,.any,.any]
theorem xEy (s0 s1 s2 s3 s4 s5 s6 s7 s8 s9 s10 s11 s12 s13 s14 s15 s16 s17 s18 s19 s20 s21 s22 s23 s24 s25 s26 s27 s28 s29 s30 s31 s32 s33 s34 s35 s36 s37 s38 s39 s40 : AV) : xBs xIB [s0,s1,s2,s3,s4,s5,s6,s7,s8,s9,s10,s11,s12,s13,s14,s15,s16,s17,s18,s19,s20,s21,s22,s23,s24,s25,s26,s27,s28,s29,s30,s31,s32,s33,s34,s35,s36,s37,s38,s39,s40] = xHe s0 s1 s4 s5 := by kernel_rfl
theorem xHf {prog : Nat → Option AFunc} (s0 s1 s4 s5 : AV) (H : xAv) : (lim prog).loop xIB xOL ⟨xHe s0 s1 s4 s5,H⟩ = xB9 (lim prog) xIB xOL (run (lim prog) xEx ⟨xHe s0 s1 s4 s5,H⟩) := xAI _ _ _ _ (by kernel_rfl)

def yAv : AFunc := ⟨41,
 .seq (.region [⟨some 4,.mov (.c (.int Go.IntKind.i64 0)),none⟩])
 (.seq (.seq (.region [⟨some 5,.mov (.c (.int Go.IntKind.i64 0)),none⟩])
 (.block 0 (.loop xIB xOL)))
 (.seq (.region [⟨some 4,.mov (.c (.int Go.IntKind.i64 0)),none⟩])
 (.ret))),
 [.tmp 4]⟩

def yAw : AFunc := ⟨18,
 .seq (.region [⟨some 6,.mov (.c (.bool false)),none⟩])
 (.seq (.region [⟨some 7,.mov (.t 0),none⟩,
 ⟨some 8,.mov (.t 1),none⟩,
 ⟨some 9,.bin .and (.t 7) (.t 8),none⟩,
 ⟨some 10,.mov (.t 1),none⟩,
 ⟨some 11,.bin .eql (.t 9) (.t 10),none⟩,
 ⟨some 12,.mov (.t 11),none⟩,
 ⟨some 13,.mov (.t 0),some (12,true)⟩,
 ⟨some 14,.mov (.t 2),some (12,true)⟩,
 ⟨some 15,.bin .and (.t 13) (.t 14),some (12,true)⟩,
 ⟨some 16,.bin .eql (.t 15) (.c (.int Go.IntKind.u8 0)),some (12,true)⟩,
 ⟨some 17,.pick (.t 12) (.t 16) (.c (.bool false)),none⟩,
 ⟨some 6,.mov (.t 17),none⟩])
 (.ret)),
 [.tmp 6]⟩

def xQ9 : ACode :=
 .seq (.region [⟨some 22,.bin .lss (.t 21) (.c (.int Go.IntKind.i64 2)),none⟩])
 (.seq (.cond (.t 22)
 (.skip)
 (.exit 0))
 (.seq (.block 1 (.seq (.region [⟨some 23,.idx false 1 2 (.t 20) (.t 21),none⟩,
 ⟨some 7,.mov (.t 23),none⟩])
 (.seq (.block 2 (.seq (.region [⟨some 25,.mov (.t 7),none⟩,
 ⟨some 26,.bin .eql (.t 25) (.c (.int Go.IntKind.i64 (-1))),none⟩,
 ⟨some 24,.mov (.t 26),none⟩])
 (.cond (.t 24)
 (.exit 1)
 (.seq (.region [⟨some 28,.mov (.t 7),none⟩,
 ⟨some 29,.mov (.t 5),none⟩,
 ⟨some 30,.bin .neq (.t 28) (.t 29),none⟩,
 ⟨some 31,.mov (.t 30),none⟩,
 ⟨some 32,.mov (.t 5),some (31,false)⟩,
 ⟨some 33,.mov (.t 0),some (31,false)⟩,
 ⟨some 34,.len (.t 33),some (31,false)⟩,
 ⟨some 35,.bin .geq (.t 32) (.t 34),some (31,false)⟩,
 ⟨some 36,.pick (.t 31) (.c (.bool true)) (.t 35),none⟩,
 ⟨some 27,.mov (.t 36),none⟩])
 (.cond (.t 27)
 (.seq (.region [⟨some 4,.mov (.c (.int Go.IntKind.i64 (-1))),none⟩])
 (.ret))
 (.skip))))))
 (.seq (.region [⟨some 37,.mov (.t 0),none⟩,
 ⟨some 38,.mov (.t 5),none⟩,
 ⟨some 39,.call 114 [(.t 37),(.t 38)],none⟩,
 ⟨some 5,.mov (.t 39),none⟩])
 (.seq (.region [⟨some 40,.mov (.t 5),none⟩,
 ⟨some 41,.bin .eql (.t 40) (.c (.int Go.IntKind.i64 (-1))),none⟩])
 (.cond (.t 41)
 (.seq (.region [⟨some 4,.mov (.c (.int Go.IntKind.i64 (-1))),none⟩])
 (.ret))
 (.skip)))))))
 (.region [⟨some 42,.bin .add (.t 21) (.c (.int Go.IntKind.i64 1)),none⟩,
 ⟨some 21,.mov (.t 42),none⟩])))

def xRa : ACode := xQ9
def xKq : List Nat := [1,2,3,6,7,8,9,10,11,12,13,14,15,16,17,18,19,22,23,24,25,26,27,28,29,30,31,32,33,34,35,36,37,38,39,40,41,42,43]
abbrev xNq (s0 s4 s5 s20 s21 : AV) : List AV := [s0,.any,.any,.any,s4,s5,.any,.any,.any,.any,.any,.any,.any,.any,.any,.any,.any,.any,.any,.any,s20,s21,.any,.any,.any,.any,.any,.any,.any,.any,.any,.any,.any,.any,.any,.any,.any,.any,.any,.any,.any,.any,.any,.any]
theorem yBC (s0 s1 s2 s3 s4 s5 s6 s7 s8 s9 s10 s11 s12 s13 s14 s15 s16 s17 s18 s19 s20 s21 s22 s23 s24 s25 s26 s27 s28 s29 s30 s31 s32 s33 s34 s35 s36 s37 s38 s39 s40 s41 s42 s43 : AV) : xBs xKq [s0,s1,s2,s3,s4,s5,s6,s7,s8,s9,s10,s11,s12,s13,s14,s15,s16,s17,s18,s19,s20,s21,s22,s23,s24,s25,s26,s27,s28,s29,s30,s31,s32,s33,s34,s35,s36,s37,s38,s39,s40,s41,s42,s43] = xNq s0 s4 s5 s20 s21 := by kernel_rfl
theorem yBD {prog : Nat → Option AFunc} (s0 s4 s5 s20 s21 : AV) (H : xAv) : (lim prog).loop xKq xRa ⟨xNq s0 s4 s5 s20 s21,H⟩ = xB9 (lim prog) xKq xRa (run (lim prog) xQ9 ⟨xNq s0 s4 s5 s20 s21,H⟩) := xAI _ _ _ _ (by kernel_rfl)

def yBE : AFunc := ⟨44,
 .seq (.region [⟨some 4,.mov (.c (.int Go.IntKind.i64 0)),none⟩])
 (.seq (.region [⟨some 8,.mov (.t 1),none⟩,
 ⟨some 9,.bin .add (.t 8) (.c (.int Go.IntKind.i64 1)),none⟩,
 ⟨some 5,.mov (.t 9),none⟩])
 (.seq (.seq (.draw 12 [⟨some 10,.mov (.t 0),none⟩,
 ⟨some 11,.mov (.t 1),none⟩,
 ⟨some 12,.iaddr 3 (.t 10) (.t 11),none⟩,
 ⟨some 13,.faddr 1 (.t 12),none⟩,
 ⟨some 14,.load false 1 (.t 13),none⟩,
 ⟨some 15,.mov (.t 0),none⟩,
 ⟨some 16,.mov (.t 1),none⟩,
 ⟨some 17,.iaddr 3 (.t 15) (.t 16),none⟩,
 ⟨some 18,.faddr 2 (.t 17),none⟩,
 ⟨some 19,.load false 1 (.t 18),none⟩,
 ⟨some 20,.build [.int Go.IntKind.i64 0,.int Go.IntKind.i64 0] [(0,1,(.t 14)),(1,1,(.t 19))],none⟩,
 ⟨some 21,.mov (.c (.int Go.IntKind.i64 0)),none⟩])
 (.block 0 (.loop xKq xRa)))
 (.seq (.region [⟨some 43,.mov (.t 5),none⟩,
 ⟨some 4,.mov (.t 43),none⟩])
 (.ret)))),
 [.tmp 4]⟩

def yBF : AFunc := ⟨4,
 .seq (.region [⟨some 2,.mov (.c (.str ⟨#[]⟩)),none⟩])
 (.seq (.seq (.region [⟨some 3,.mov (.t 0),none⟩])
 (.cond (.t 3)
 (.seq (.region [⟨some 2,.mov (.c (.str ⟨#[116,114,117,101]⟩)),none⟩])
 (.ret))
 (.skip)))
 (.seq (.region [⟨some 2,.mov (.c (.str ⟨#[102,97,108,115,101]⟩)),none⟩])
 (.ret))),
 [.tmp 2]⟩

def xAE : Nat → Option AFunc
 | 4 => some a4
 | 14 => some a14
 | 16 => some a16
 | 18 => some a18
 | 20 => some a20
 | 21 => some a21
 | 23 => some a23
 | 25 => some a25
 | 27 => some a27
 | 29 => some a29
 | 30 => some a30
 | 32 => some a32
 | 33 => some a33
 | 35 => some a35
 | 36 => some a36
 | 37 => some a37
 | 38 => some a38
 | 39 => some a39
 | 40 => some a40
 | 41 => some a41
 | 45 => some a45
 | 47 => some a47
 | 52 => some a52
 | 53 => some a53
 | 54 => some a54
 | 56 => some a56
 | 60 => some a60
 | 61 => some a61
 | 62 => some a62
 | 63 => some a63
 | 66 => some a66
 | 67 => some a67
 | 68 => some a68
 | 69 => some a69
 | 70 => some a70
 | 72 => some a72
 | 73 => some a73
 | 74 => some a74
 | 75 => some a75
 | 76 => some a76
 | 77 => some a77
 | 78 => some a78
 | 79 => some a79
 | 80 => some a80
 | 81 => some a81
 | 82 => some a82
 | 83 => some a83
 | 84 => some a84
 | 85 => some a85
 | 89 => some a89
 | 90 => some a90
 | 91 => some a91
 | 99 => some a99
 | 100 => some yBw
 | 102 => some yBx
 | 103 => some yBy
 | 104 => some yBz
 | 105 => some yBA
 | 106 => some yBB
 | 108 => some xYT
 | 109 => some xYU
 | 110 => some yAv
 | 111 => some yAw
 | 114 => some yBE
 | 121 => some yBF
 | _ => none
theorem a4p (args : List AV) : (lim xAE).pcall 4 args = xBr (lim xAE) a4 args := xAF rfl args
theorem a4i (caps args : List AV) (H : xAv) : (lim xAE).icall (.func 4 caps) args H = xBN (lim xAE) a4 (args ++ caps) H := xAG rfl caps args H
theorem yFl (args : List AV) : (lim xAE).pcall 14 args = xBr (lim xAE) a14 args := xAF rfl args
theorem yFm (caps args : List AV) (H : xAv) : (lim xAE).icall (.func 14 caps) args H = xBN (lim xAE) a14 (args ++ caps) H := xAG rfl caps args H
theorem yFn (args : List AV) : (lim xAE).pcall 16 args = xBr (lim xAE) a16 args := xAF rfl args
theorem yFo (caps args : List AV) (H : xAv) : (lim xAE).icall (.func 16 caps) args H = xBN (lim xAE) a16 (args ++ caps) H := xAG rfl caps args H
theorem yFp (args : List AV) : (lim xAE).pcall 18 args = xBr (lim xAE) a18 args := xAF rfl args
theorem yFq (caps args : List AV) (H : xAv) : (lim xAE).icall (.func 18 caps) args H = xBN (lim xAE) a18 (args ++ caps) H := xAG rfl caps args H
theorem yAx (args : List AV) : (lim xAE).pcall 20 args = xBr (lim xAE) a20 args := xAF rfl args
theorem yFr (caps args : List AV) (H : xAv) : (lim xAE).icall (.func 20 caps) args H = xBN (lim xAE) a20 (args ++ caps) H := xAG rfl caps args H
theorem yFs (args : List AV) : (lim xAE).pcall 21 args = xBr (lim xAE) a21 args := xAF rfl args
theorem yFt (caps args : List AV) (H : xAv) : (lim xAE).icall (.func 21 caps) args H = xBN (lim xAE) a21 (args ++ caps) H := xAG rfl caps args H
theorem yFu (args : List AV) : (lim xAE).pcall 23 args = xBr (lim xAE) a23 args := xAF rfl args
theorem yFv (caps args : List AV) (H : xAv) : (lim xAE).icall (.func 23 caps) args H = xBN (lim xAE) a23 (args ++ caps) H := xAG rfl caps args H
theorem yFw (args : List AV) : (lim xAE).pcall 25 args = xBr (lim xAE) a25 args := xAF rfl args
theorem yFx (caps args : List AV) (H : xAv) : (lim xAE).icall (.func 25 caps) args H = xBN (lim xAE) a25 (args ++ caps) H := xAG rfl caps args H
theorem yFy (args : List AV) : (lim xAE).pcall 27 args = xBr (lim xAE) a27 args := xAF rfl args
theorem yFz (caps args : List AV) (H : xAv) : (lim xAE).icall (.func 27 caps) args H = xBN (lim xAE) a27 (args ++ caps) H := xAG rfl caps args H
theorem yDo (args : List AV) : (lim xAE).pcall 29 args = xBr (lim xAE) a29 args := xAF rfl args
theorem yFA (caps args : List AV) (H : xAv) : (lim xAE).icall (.func 29 caps) args H = xBN (lim xAE) a29 (args ++ caps) H := xAG rfl caps args H
theorem yEj (args : List AV) : (lim xAE).pcall 30 args = xBr (lim xAE) a30 args := xAF rfl args
theorem yFB (caps args : List AV) (H : xAv) : (lim xAE).icall (.func 30 caps) args H = xBN (lim xAE) a30 (args ++ caps) H := xAG rfl caps args H
theorem yFC (args : List AV) : (lim xAE).pcall 32 args = xBr (lim xAE) a32 args := xAF rfl args
theorem yDp (caps args : List AV) (H : xAv) : (lim xAE).icall (.func 32 caps) args H = xBN (lim xAE) a32 (args ++ caps) H := xAG rfl caps args H
theorem yFD (args : List AV) : (lim xAE).pcall 33 args = xBr (lim xAE) a33 args := xAF rfl args
theorem yEk (caps args : List AV) (H : xAv) : (lim xAE).icall (.func 33 caps) args H = xBN (lim xAE) a33 (args ++ caps) H := xAG rfl caps args H
theorem yFE (args : List AV) : (lim xAE).pcall 35 args = xBr (lim xAE) a35 args := xAF rfl args
theorem yFF (caps args : List AV) (H : xAv) : (lim xAE).icall (.func 35 caps) args H = xBN (lim xAE) a35 (args ++ caps) H := xAG rfl caps args H
theorem yEl (args : List AV) : (lim xAE).pcall 36 args = xBr (lim xAE) a36 args := xAF rfl args
theorem yFG (caps args : List AV) (H : xAv) : (lim xAE).icall (.func 36 caps) args H = xBN (lim xAE) a36 (args ++ caps) H := xAG rfl caps args H
theorem yFH (args : List AV) : (lim xAE).pcall 37 args = xBr (lim xAE) a37 args := xAF rfl args
theorem yAy (caps args : List AV) (H : xAv) : (lim xAE).icall (.func 37 caps) args H = xBN (lim xAE) a37 (args ++ caps) H := xAG rfl caps args H
theorem yAz (args : List AV) : (lim xAE).pcall 38 args = xBr (lim xAE) a38 args := xAF rfl args
theorem yFI (caps args : List AV) (H : xAv) : (lim xAE).icall (.func 38 caps) args H = xBN (lim xAE) a38 (args ++ caps) H := xAG rfl caps args H
theorem yBG (args : List AV) : (lim xAE).pcall 39 args = xBr (lim xAE) a39 args := xAF rfl args
theorem yFJ (caps args : List AV) (H : xAv) : (lim xAE).icall (.func 39 caps) args H = xBN (lim xAE) a39 (args ++ caps) H := xAG rfl caps args H
theorem yFK (args : List AV) : (lim xAE).pcall 40 args = xBr (lim xAE) a40 args := xAF rfl args
theorem yDq (caps args : List AV) (H : xAv) : (lim xAE).icall (.func 40 caps) args H = xBN (lim xAE) a40 (args ++ caps) H := xAG rfl caps args H
theorem yFL (args : List AV) : (lim xAE).pcall 41 args = xBr (lim xAE) a41 args := xAF rfl args
theorem yFM (caps args : List AV) (H : xAv) : (lim xAE).icall (.func 41 caps) args H = xBN (lim xAE) a41 (args ++ caps) H := xAG rfl caps args H
theorem yEm (args : List AV) : (lim xAE).pcall 45 args = xBr (lim xAE) a45 args := xAF rfl args
theorem yFN (caps args : List AV) (H : xAv) : (lim xAE).icall (.func 45 caps) args H = xBN (lim xAE) a45 (args ++ caps) H := xAG rfl caps args H
theorem yEn (args : List AV) : (lim xAE).pcall 47 args = xBr (lim xAE) a47 args := xAF rfl args
theorem yEo (caps args : List AV) (H : xAv) : (lim xAE).icall (.func 47 caps) args H = xBN (lim xAE) a47 (args ++ caps) H := xAG rfl caps args H
theorem yFO (args : List AV) : (lim xAE).pcall 52 args = xBr (lim xAE) a52 args := xAF rfl args
theorem yFP (caps args : List AV) (H : xAv) : (lim xAE).icall (.func 52 caps) args H = xBN (lim xAE) a52 (args ++ caps) H := xAG rfl caps args H
theorem yFQ (args : List AV) : (lim xAE).pcall 53 args = xBr (lim xAE) a53 args := xAF rfl args
theorem yFR (caps args : List AV) (H : xAv) : (lim xAE).icall (.func 53 caps) args H = xBN (lim xAE) a53 (args ++ caps) H := xAG rfl caps args H
theorem yFS (args : List AV) : (lim xAE).pcall 54 args = xBr (lim xAE) a54 args := xAF rfl args
theorem yFT (caps args : List AV) (H : xAv) : (lim xAE).icall (.func 54 caps) args H = xBN (lim xAE) a54 (args ++ caps) H := xAG rfl caps args H
theorem yFU (args : List AV) : (lim xAE).pcall 56 args = xBr (lim xAE) a56 args := xAF rfl args
theorem yFV (caps args : List AV) (H : xAv) : (lim xAE).icall (.func 56 caps) args H = xBN (lim xAE) a56 (args ++ caps) H := xAG rfl caps args H
theorem yFW (args : List AV) : (lim xAE).pcall 60 args = xBr (lim xAE) a60 args := xAF rfl args
theorem yFX (caps args : List AV) (H : xAv) : (lim xAE).icall (.func 60 caps) args H = xBN (lim xAE) a60 (args ++ caps) H := xAG rfl caps args H
theorem yFY (args : List AV) : (lim xAE).pcall 61 args = xBr (lim xAE) a61 args := xAF rfl args
theorem yEp (caps args : List AV) (H : xAv) : (lim xAE).icall (.func 61 caps) args H = xBN (lim xAE) a61 (args ++ caps) H := xAG rfl caps args H
theorem yFZ (args : List AV) : (lim xAE).pcall 62 args = xBr (lim xAE) a62 args := xAF rfl args
theorem yF0 (caps args : List AV) (H : xAv) : (lim xAE).icall (.func 62 caps) args H = xBN (lim xAE) a62 (args ++ caps) H := xAG rfl caps args H
theorem yF1 (args : List AV) : (lim xAE).pcall 63 args = xBr (lim xAE) a63 args := xAF rfl args
theorem yF2 (caps args : List AV) (H : xAv) : (lim xAE).icall (.func 63 caps) args H = xBN (lim xAE) a63 (args ++ caps) H := xAG rfl caps args H
theorem yEq (args : List AV) : (lim xAE).pcall 66 args = xBr (lim xAE) a66 args := xAF rfl args
theorem yF3 (caps args : List AV) (H : xAv) : (lim xAE).icall (.func 66 caps) args H = xBN (lim xAE) a66 (args ++ caps) H := xAG rfl caps args H
theorem yEr (args : List AV) : (lim xAE).pcall 67 args = xBr (lim xAE) a67 args := xAF rfl args
theorem yF4 (caps args : List AV) (H : xAv) : (lim xAE).icall (.func 67 caps) args H = xBN (lim xAE) a67 (args ++ caps) H := xAG rfl caps args H
theorem yEs (args : List AV) : (lim xAE).pcall 68 args = xBr (lim xAE) a68 args := xAF rfl args
theorem yF5 (caps args : List AV) (H : xAv) : (lim xAE).icall (.func 68 caps) args H = xBN (lim xAE) a68 (args ++ caps) H := xAG rfl caps args H
theorem yF6 (args : List AV) : (lim xAE).pcall 69 args = xBr (lim xAE) a69 args := xAF rfl args
theorem yDr (caps args : List AV) (H : xAv) : (lim xAE).icall (.func 69 caps) args H = xBN (lim xAE) a69 (args ++ caps) H := xAG rfl caps args H
theorem yF7 (args : List AV) : (lim xAE).pcall 70 args = xBr (lim xAE) a70 args := xAF rfl args
theorem yDs (caps args : List AV) (H : xAv) : (lim xAE).icall (.func 70 caps) args H = xBN (lim xAE) a70 (args ++ caps) H := xAG rfl caps args H
theorem yEt (args : List AV) : (lim xAE).pcall 72 args = xBr (lim xAE) a72 args := xAF rfl args
theorem yF8 (caps args : List AV) (H : xAv) : (lim xAE).icall (.func 72 caps) args H = xBN (lim xAE) a72 (args ++ caps) H := xAG rfl caps args H
theorem yEu (args : List AV) : (lim xAE).pcall 73 args = xBr (lim xAE) a73 args := xAF rfl args
theorem yF9 (caps args : List AV) (H : xAv) : (lim xAE).icall (.func 73 caps) args H = xBN (lim xAE) a73 (args ++ caps) H := xAG rfl caps args H
theorem yEv (args : List AV) : (lim xAE).pcall 74 args = xBr (lim xAE) a74 args := xAF rfl args
theorem yEw (caps args : List AV) (H : xAv) : (lim xAE).icall (.func 74 caps) args H = xBN (lim xAE) a74 (args ++ caps) H := xAG rfl caps args H
theorem yGa (args : List AV) : (lim xAE).pcall 75 args = xBr (lim xAE) a75 args := xAF rfl args
theorem yEx (caps args : List AV) (H : xAv) : (lim xAE).icall (.func 75 caps) args H = xBN (lim xAE) a75 (args ++ caps) H := xAG rfl caps args H
theorem yGb (args : List AV) : (lim xAE).pcall 76 args = xBr (lim xAE) a76 args := xAF rfl args
theorem yBH (caps args : List AV) (H : xAv) : (lim xAE).icall (.func 76 caps) args H = xBN (lim xAE) a76 (args ++ caps) H := xAG rfl caps args H
theorem yGc (args : List AV) : (lim xAE).pcall 77 args = xBr (lim xAE) a77 args := xAF rfl args
theorem yEy (caps args : List AV) (H : xAv) : (lim xAE).icall (.func 77 caps) args H = xBN (lim xAE) a77 (args ++ caps) H := xAG rfl caps args H
theorem yGd (args : List AV) : (lim xAE).pcall 78 args = xBr (lim xAE) a78 args := xAF rfl args
theorem yEz (caps args : List AV) (H : xAv) : (lim xAE).icall (.func 78 caps) args H = xBN (lim xAE) a78 (args ++ caps) H := xAG rfl caps args H
theorem yGe (args : List AV) : (lim xAE).pcall 79 args = xBr (lim xAE) a79 args := xAF rfl args
theorem yEA (caps args : List AV) (H : xAv) : (lim xAE).icall (.func 79 caps) args H = xBN (lim xAE) a79 (args ++ caps) H := xAG rfl caps args H
theorem yGf (args : List AV) : (lim xAE).pcall 80 args = xBr (lim xAE) a80 args := xAF rfl args
theorem yDt (caps args : List AV) (H : xAv) : (lim xAE).icall (.func 80 caps) args H = xBN (lim xAE) a80 (args ++ caps) H := xAG rfl caps args H
theorem yGg (args : List AV) : (lim xAE).pcall 81 args = xBr (lim xAE) a81 args := xAF rfl args
theorem yDu (caps args : List AV) (H : xAv) : (lim xAE).icall (.func 81 caps) args H = xBN (lim xAE) a81 (args ++ caps) H := xAG rfl caps args H
theorem yEB (args : List AV) : (lim xAE).pcall 82 args = xBr (lim xAE) a82 args := xAF rfl args
theorem yGh (caps args : List AV) (H : xAv) : (lim xAE).icall (.func 82 caps) args H = xBN (lim xAE) a82 (args ++ caps) H := xAG rfl caps args H
theorem yEC (args : List AV) : (lim xAE).pcall 83 args = xBr (lim xAE) a83 args := xAF rfl args
theorem yGi (caps args : List AV) (H : xAv) : (lim xAE).icall (.func 83 caps) args H = xBN (lim xAE) a83 (args ++ caps) H := xAG rfl caps args H
theorem yDv (args : List AV) : (lim xAE).pcall 84 args = xBr (lim xAE) a84 args := xAF rfl args
theorem yGj (caps args : List AV) (H : xAv) : (lim xAE).icall (.func 84 caps) args H = xBN (lim xAE) a84 (args ++ caps) H := xAG rfl caps args H
theorem yDw (args : List AV) : (lim xAE).pcall 85 args = xBr (lim xAE) a85 args := xAF rfl args
theorem yGk (caps args : List AV) (H : xAv) : (lim xAE).icall (.func 85 caps) args H = xBN (lim xAE) a85 (args ++ caps) H := xAG rfl caps args H
theorem yED (args : List AV) : (lim xAE).pcall 89 args = xBr (lim xAE) a89 args := xAF rfl args
theorem yGl (caps args : List AV) (H : xAv) : (lim xAE).icall (.func 89 caps) args H = xBN (lim xAE) a89 (args ++ caps) H := xAG rfl caps args H
theorem yEE (args : List AV) : (lim xAE).pcall 90 args = xBr (lim xAE) a90 args := xAF rfl args
theorem yGm (caps args : List AV) (H : xAv) : (lim xAE).icall (.func 90 caps) args H = xBN (lim xAE) a90 (args ++ caps) H := xAG rfl caps args H
theorem yGn (args : List AV) : (lim xAE).pcall 91 args = xBr (lim xAE) a91 args := xAF rfl args
theorem yGo (caps args : List AV) (H : xAv) : (lim xAE).icall (.func 91 caps) args H = xBN (lim xAE) a91 (args ++ caps) H := xAG rfl caps args H
theorem yGp (args : List AV) : (lim xAE).pcall 99 args = xBr (lim xAE) a99 args := xAF rfl args
theorem yGq (caps args : List AV) (H : xAv) : (lim xAE).icall (.func 99 caps) args H = xBN (lim xAE) a99 (args ++ caps) H := xAG rfl caps args H
theorem yEF (args : List AV) : (lim xAE).pcall 100 args = xBr (lim xAE) yBw args := xAF rfl args
theorem yEG (caps args : List AV) (H : xAv) : (lim xAE).icall (.func 100 caps) args H = xBN (lim xAE) yBw (args ++ caps) H := xAG rfl caps args H
theorem yEH (args : List AV) : (lim xAE).pcall 102 args = xBr (lim xAE) yBx args := xAF rfl args
theorem yEI (caps args : List AV) (H : xAv) : (lim xAE).icall (.func 102 caps) args H = xBN (lim xAE) yBx (args ++ caps) H := xAG rfl caps args H
theorem yEJ (args : List AV) : (lim xAE).pcall 103 args = xBr (lim xAE) yBy args := xAF rfl args
theorem yEK (caps args : List AV) (H : xAv) : (lim xAE).icall (.func 103 caps) args H = xBN (lim xAE) yBy (args ++ caps) H := xAG rfl caps args H
theorem yEL (args : List AV) : (lim xAE).pcall 104 args = xBr (lim xAE) yBz args := xAF rfl args
theorem yEM (caps args : List AV) (H : xAv) : (lim xAE).icall (.func 104 caps) args H = xBN (lim xAE) yBz (args ++ caps) H := xAG rfl caps args H
theorem yEN (args : List AV) : (lim xAE).pcall 105 args = xBr (lim xAE) yBA args := xAF rfl args
theorem yEO (caps args : List AV) (H : xAv) : (lim xAE).icall (.func 105 caps) args H = xBN (lim xAE) yBA (args ++ caps) H := xAG rfl caps args H
theorem yEP (args : List AV) : (lim xAE).pcall 106 args = xBr (lim xAE) yBB args := xAF rfl args
theorem yEQ (caps args : List AV) (H : xAv) : (lim xAE).icall (.func 106 caps) args H = xBN (lim xAE) yBB (args ++ caps) H := xAG rfl caps args H
theorem yBI (args : List AV) : (lim xAE).pcall 108 args = xBr (lim xAE) xYT args := xAF rfl args
theorem yBJ (caps args : List AV) (H : xAv) : (lim xAE).icall (.func 108 caps) args H = xBN (lim xAE) xYT (args ++ caps) H := xAG rfl caps args H
theorem yER (args : List AV) : (lim xAE).pcall 109 args = xBr (lim xAE) xYU args := xAF rfl args
theorem xYV (caps args : List AV) (H : xAv) : (lim xAE).icall (.func 109 caps) args H = xBN (lim xAE) xYU (args ++ caps) H := xAG rfl caps args H
theorem yBK (args : List AV) : (lim xAE).pcall 110 args = xBr (lim xAE) yAv args := xAF rfl args
theorem yES (caps args : List AV) (H : xAv) : (lim xAE).icall (.func 110 caps) args H = xBN (lim xAE) yAv (args ++ caps) H := xAG rfl caps args H
theorem yBL (args : List AV) : (lim xAE).pcall 111 args = xBr (lim xAE) yAw args := xAF rfl args
theorem yET (caps args : List AV) (H : xAv) : (lim xAE).icall (.func 111 caps) args H = xBN (lim xAE) yAw (args ++ caps) H := xAG rfl caps args H
theorem yEU (args : List AV) : (lim xAE).pcall 114 args = xBr (lim xAE) yBE args := xAF rfl args
theorem yEV (caps args : List AV) (H : xAv) : (lim xAE).icall (.func 114 caps) args H = xBN (lim xAE) yBE (args ++ caps) H := xAG rfl caps args H
theorem yEW (args : List AV) : (lim xAE).pcall 121 args = xBr (lim xAE) yBF args := xAF rfl args
theorem yEX (caps args : List AV) (H : xAv) : (lim xAE).icall (.func 121 caps) args H = xBN (lim xAE) yBF (args ++ caps) H := xAG rfl caps args H
end Go.Abs.Det
