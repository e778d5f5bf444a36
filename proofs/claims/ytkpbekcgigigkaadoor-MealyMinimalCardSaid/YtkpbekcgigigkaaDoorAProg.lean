/- The functions in the interpreter's words. -/
import Derived.Test.YtkpbekcgigigkaaDoorAbsEnc
import Derived.Test.YtkpbekcgigigkaaDoorProg
namespace Go.Abs.Mealy
open Go Go.Abs
def a6 : AFunc := ⟨137,
 .seq (.region [⟨some 3,.box (.t 0),none⟩,
 ⟨some 4,.box (.t 1),none⟩,
 ⟨some 6,.mov (.c (.bool false)),none⟩])
 (.seq (.seq (.region [⟨some 22,.load true 5 (.t 3),none⟩,
 ⟨some 23,.load true 5 (.t 4),none⟩,
 ⟨some 24,.bslice true [.int .i64 0,.int .i64 0,.int .i64 0,.sl true 0 [],.sl true 0 []] 5 2 [(0,(.t 22)),(1,(.t 23))],none⟩,
 ⟨some 25,.call 11 [(.t 24)],none⟩,
 ⟨some 26,.mov (.t 25),none⟩,
 ⟨some 27,.mov (.t 2),some (26,false)⟩,
 ⟨some 28,.len (.t 27),some (26,false)⟩,
 ⟨some 29,.bin .gtr (.t 28) (.c (.int .i64 70)),some (26,false)⟩,
 ⟨some 30,.pick (.t 26) (.c (.bool true)) (.t 29),none⟩,
 ⟨some 31,.mov (.t 30),none⟩,
 ⟨some 32,.call 13 [],some (31,false)⟩,
 ⟨some 33,.un .not (.t 32),some (31,false)⟩,
 ⟨some 34,.pick (.t 31) (.c (.bool true)) (.t 33),none⟩])
 (.cond (.t 34)
 (.seq (.region [⟨some 35,.call 13 [],none⟩,
 ⟨some 6,.mov (.t 35),none⟩])
 (.ret))
 (.skip)))
 (.seq (.region [⟨some 37,.load true 5 (.t 3),none⟩,
 ⟨some 38,.call 35 [(.t 37)],none⟩,
 ⟨some 36,.mov (.t 38),none⟩,
 ⟨some 39,.ext 0 (.t 36),none⟩,
 ⟨some 40,.ext 1 (.t 36),none⟩,
 ⟨some 7,.box (.c (.agg [.int .i64 0,.int .i64 0,.int .i64 0,.sl true 0 [],.sl true 0 []])),none⟩,
 ⟨none,.store 5 (.t 7) (.t 39),none⟩,
 ⟨some 8,.mov (.t 40),none⟩])
 (.seq (.seq (.region [⟨some 41,.mov (.t 8),none⟩,
 ⟨some 42,.bin .neq (.t 41) (.c (.int .i64 0)),none⟩])
 (.cond (.t 42)
 (.seq (.region [⟨some 43,.faddr 3 (.t 7),none⟩,
 ⟨some 44,.load false 1 (.t 43),none⟩,
 ⟨some 45,.len (.t 44),none⟩,
 ⟨some 46,.faddr 4 (.t 7),none⟩,
 ⟨some 47,.load false 1 (.t 46),none⟩,
 ⟨some 48,.len (.t 47),none⟩,
 ⟨some 49,.bin .add (.t 45) (.t 48),none⟩,
 ⟨some 50,.bin .eql (.t 49) (.c (.int .i64 0)),none⟩,
 ⟨some 6,.mov (.t 50),none⟩])
 (.ret))
 (.skip)))
 (.seq (.region [⟨some 52,.load true 5 (.t 7),none⟩,
 ⟨some 53,.call 35 [(.t 52)],none⟩,
 ⟨some 51,.mov (.t 53),none⟩,
 ⟨some 54,.ext 0 (.t 51),none⟩,
 ⟨some 55,.ext 1 (.t 51),none⟩,
 ⟨some 9,.box (.c (.agg [.int .i64 0,.int .i64 0,.int .i64 0,.sl true 0 [],.sl true 0 []])),none⟩,
 ⟨none,.store 5 (.t 9) (.t 54),none⟩,
 ⟨some 10,.mov (.t 55),none⟩])
 (.seq (.region [⟨some 57,.load true 5 (.t 3),none⟩,
 ⟨some 58,.mov (.t 2),none⟩,
 ⟨some 59,.call 16 [(.t 57),(.t 58)],none⟩,
 ⟨some 56,.mov (.t 59),none⟩,
 ⟨some 60,.ext 0 (.t 56),none⟩,
 ⟨some 61,.ext 1 (.t 56),none⟩,
 ⟨some 62,.ext 2 (.t 56),none⟩,
 ⟨some 11,.mov (.t 60),none⟩,
 ⟨some 12,.mov (.t 61),none⟩,
 ⟨some 13,.mov (.t 62),none⟩])
 (.seq (.region [⟨some 64,.load true 5 (.t 7),none⟩,
 ⟨some 65,.mov (.t 2),none⟩,
 ⟨some 66,.call 16 [(.t 64),(.t 65)],none⟩,
 ⟨some 63,.mov (.t 66),none⟩,
 ⟨some 67,.ext 0 (.t 63),none⟩,
 ⟨some 68,.ext 1 (.t 63),none⟩,
 ⟨some 69,.ext 2 (.t 63),none⟩,
 ⟨some 14,.mov (.t 67),none⟩,
 ⟨some 15,.mov (.t 68),none⟩,
 ⟨some 16,.mov (.t 69),none⟩])
 (.seq (.seq (.region [⟨some 70,.mov (.t 10),none⟩,
 ⟨some 71,.bin .neq (.t 70) (.c (.int .i64 0)),none⟩,
 ⟨some 72,.mov (.t 71),none⟩,
 ⟨some 73,.load true 5 (.t 9),some (72,false)⟩,
 ⟨some 74,.load true 5 (.t 7),some (72,false)⟩,
 ⟨some 75,.call 29 [(.t 73),(.t 74)],some (72,false)⟩,
 ⟨some 76,.un .not (.t 75),some (72,false)⟩,
 ⟨some 77,.pick (.t 72) (.c (.bool true)) (.t 76),none⟩,
 ⟨some 78,.mov (.t 77),none⟩,
 ⟨some 79,.faddr 2 (.t 7),some (78,false)⟩,
 ⟨some 80,.load false 1 (.t 79),some (78,false)⟩,
 ⟨some 81,.bin .neq (.t 80) (.c (.int .i64 0)),some (78,false)⟩,
 ⟨some 82,.pick (.t 78) (.c (.bool true)) (.t 81),none⟩,
 ⟨some 83,.mov (.t 82),none⟩,
 ⟨some 84,.faddr 3 (.t 7),some (83,false)⟩,
 ⟨some 85,.load false 1 (.t 84),some (83,false)⟩,
 ⟨some 86,.len (.t 85),some (83,false)⟩,
 ⟨some 87,.faddr 3 (.t 3),some (83,false)⟩,
 ⟨some 88,.load false 1 (.t 87),some (83,false)⟩,
 ⟨some 89,.len (.t 88),some (83,false)⟩,
 ⟨some 90,.bin .gtr (.t 86) (.t 89),some (83,false)⟩,
 ⟨some 91,.pick (.t 83) (.c (.bool true)) (.t 90),none⟩,
 ⟨some 92,.mov (.t 91),none⟩,
 ⟨some 93,.mov (.t 13),some (92,false)⟩,
 ⟨some 94,.mov (.t 16),some (92,false)⟩,
 ⟨some 95,.bin .neq (.t 93) (.t 94),some (92,false)⟩,
 ⟨some 96,.pick (.t 92) (.c (.bool true)) (.t 95),none⟩,
 ⟨some 97,.mov (.t 96),none⟩,
 ⟨some 98,.mov (.t 11),some (97,false)⟩,
 ⟨some 99,.mov (.t 14),some (97,false)⟩,
 ⟨some 100,.call 23 [(.t 98),(.t 99)],some (97,false)⟩,
 ⟨some 101,.un .not (.t 100),some (97,false)⟩,
 ⟨some 102,.pick (.t 97) (.c (.bool true)) (.t 101),none⟩])
 (.cond (.t 102)
 (.seq (.region [⟨some 6,.mov (.c (.bool false)),none⟩])
 (.ret))
 (.skip)))
 (.seq (.region [⟨some 104,.load true 5 (.t 4),none⟩,
 ⟨some 105,.call 35 [(.t 104)],none⟩,
 ⟨some 103,.mov (.t 105),none⟩,
 ⟨some 106,.ext 0 (.t 103),none⟩,
 ⟨some 107,.ext 1 (.t 103),none⟩,
 ⟨some 17,.box (.c (.agg [.int .i64 0,.int .i64 0,.int .i64 0,.sl true 0 [],.sl true 0 []])),none⟩,
 ⟨none,.store 5 (.t 17) (.t 106),none⟩,
 ⟨some 18,.mov (.t 107),none⟩])
 (.seq (.region [⟨some 109,.load true 5 (.t 3),none⟩,
 ⟨some 110,.load true 5 (.t 4),none⟩,
 ⟨some 111,.call 37 [(.t 109),(.t 110)],none⟩,
 ⟨some 108,.mov (.t 111),none⟩,
 ⟨some 112,.ext 0 (.t 108),none⟩,
 ⟨some 113,.ext 1 (.t 108),none⟩,
 ⟨some 114,.ext 2 (.t 108),none⟩,
 ⟨some 19,.mov (.t 112),none⟩,
 ⟨some 20,.mov (.t 113),none⟩,
 ⟨some 21,.mov (.t 114),none⟩])
 (.seq (.seq (.region [⟨some 115,.mov (.t 18),none⟩,
 ⟨some 116,.bin .neq (.t 115) (.c (.int .i64 0)),none⟩,
 ⟨some 117,.mov (.t 116),none⟩,
 ⟨some 118,.mov (.t 21),some (117,false)⟩,
 ⟨some 119,.bin .neq (.t 118) (.c (.int .i64 0)),some (117,false)⟩,
 ⟨some 120,.pick (.t 117) (.c (.bool true)) (.t 119),none⟩])
 (.cond (.t 120)
 (.seq (.region [⟨some 121,.mov (.t 18),none⟩,
 ⟨some 122,.mov (.t 21),none⟩,
 ⟨some 123,.bin .eql (.t 121) (.t 122),none⟩,
 ⟨some 124,.mov (.t 123),none⟩,
 ⟨some 125,.mov (.t 18),some (124,false)⟩,
 ⟨some 126,.bin .eql (.t 125) (.c (.int .i64 0)),some (124,false)⟩,
 ⟨some 127,.mov (.t 126),some (124,false)⟩,
 ⟨some 128,.mov (.t 21),some (127,true)⟩,
 ⟨some 129,.bin .eql (.t 128) (.c (.int .i64 7)),some (127,true)⟩,
 ⟨some 130,.pick (.t 127) (.t 129) (.c (.bool false)),some (124,false)⟩,
 ⟨some 131,.pick (.t 124) (.c (.bool true)) (.t 130),none⟩,
 ⟨some 6,.mov (.t 131),none⟩])
 (.ret))
 (.skip)))
 (.seq (.region [⟨some 132,.mov (.t 20),none⟩,
 ⟨some 133,.load true 5 (.t 7),none⟩,
 ⟨some 134,.load true 5 (.t 17),none⟩,
 ⟨some 135,.call 29 [(.t 133),(.t 134)],none⟩,
 ⟨some 136,.beq false (.t 132) (.t 135),none⟩,
 ⟨some 6,.mov (.t 136),none⟩])
 (.ret)))))))))))),
 [.tmp 6]⟩
def xJf : ACode :=
 .seq (.seq (.region [⟨some 28,.mov (.t 4),none⟩,
 ⟨some 29,.mov (.t 0),none⟩,
 ⟨some 30,.mov (.t 3),none⟩,
 ⟨some 31,.iaddr 5 (.t 29) (.t 30),none⟩,
 ⟨some 32,.faddr 3 (.t 31),none⟩,
 ⟨some 33,.load false 1 (.t 32),none⟩,
 ⟨some 34,.len (.t 33),none⟩,
 ⟨some 35,.bin .lss (.t 28) (.t 34),none⟩])
 (.cond (.t 35)
 (.skip)
 (.exit 2)))
 (.seq (.block 3 (.seq (.region [⟨some 38,.mov (.t 0),none⟩,
 ⟨some 39,.mov (.t 3),none⟩,
 ⟨some 40,.iaddr 5 (.t 38) (.t 39),none⟩,
 ⟨some 41,.faddr 3 (.t 40),none⟩,
 ⟨some 42,.load false 1 (.t 41),none⟩,
 ⟨some 43,.mov (.t 4),none⟩,
 ⟨some 44,.iaddr 1 (.t 42) (.t 43),none⟩,
 ⟨some 45,.load false 1 (.t 44),none⟩,
 ⟨some 46,.len (.t 45),none⟩,
 ⟨some 47,.bin .gtr (.t 46) (.c (.int .i64 66)),none⟩])
 (.cond (.t 47)
 (.seq (.region [⟨some 2,.mov (.c (.bool true)),none⟩])
 (.ret))
 (.skip))))
 (.region [⟨some 36,.mov (.t 4),none⟩,
 ⟨some 37,.bin .add (.t 36) (.c (.int .i64 1)),none⟩,
 ⟨some 4,.mov (.t 37),none⟩]))
def xWK : ACode := xJf
def xMA : List Nat := [1,5,6,7,8,9,10,11,12,13,14,15,16,17,18,19,20,21,22,23,24,25,26,27,28,29,30,31,32,33,34,35,36,37,38,39,40,41,42,43,44,45,46,47,48,49,50,51,52,53,54,55,56,57,58,59,60,61,62,63,64,65,66,67]
abbrev xJg (s0 s2 s3 s4 : AV) : List AV := [s0,.any,s2,s3,s4,.any,.any,.any,.any,.any,.any,.any,.any,.any,.any,.any,.any,.any,.any,.any,.any,.any,.any,.any,.any,.any,.any,.any,.any,.any,.any,.any,.any,.any,.any,.any,.any,.any,.any,.any,.any,.any,.any,.any,.any,.any,.any,.any,.any,.any,.any,.any,.any,.any,.any,.any,.any,.any,.any,.any,.any,.any,.any,.any,.any,.any,.any,.any]
theorem xGb (s0 s1 s2 s3 s4 s5 s6 s7 s8 s9 s10 s11 s12 s13 s14 s15 s16 s17 s18 s19 s20 s21 s22 s23 s24 s25 s26 s27 s28 s29 s30 s31 s32 s33 s34 s35 s36 s37 s38 s39 s40 s41 s42 s43 s44 s45 s46 s47 s48 s49 s50 s51 s52 s53 s54 s55 s56 s57 s58 s59 s60 s61 s62 s63 s64 s65 s66 s67 : AV) : xAM xMA [s0,s1,s2,s3,s4,s5,s6,s7,s8,s9,s10,s11,s12,s13,s14,s15,s16,s17,s18,s19,s20,s21,s22,s23,s24,s25,s26,s27,s28,s29,s30,s31,s32,s33,s34,s35,s36,s37,s38,s39,s40,s41,s42,s43,s44,s45,s46,s47,s48,s49,s50,s51,s52,s53,s54,s55,s56,s57,s58,s59,s60,s61,s62,s63,s64,s65,s66,s67] = xJg s0 s2 s3 s4 := by kernel_rfl
theorem xTl {prog : Nat → Option AFunc} (s0 s2 s3 s4 : AV) (H : Heap) : (lim prog).loop xMA xWK ⟨xJg s0 s2 s3 s4,H⟩ = xBT (lim prog) xMA xWK (run (lim prog) xJf ⟨xJg s0 s2 s3 s4,H⟩) := xAo _ _ _ _ (by kernel_rfl)
def xJh : ACode :=
 .seq (.seq (.region [⟨some 48,.mov (.t 5),none⟩,
 ⟨some 49,.mov (.t 0),none⟩,
 ⟨some 50,.mov (.t 3),none⟩,
 ⟨some 51,.iaddr 5 (.t 49) (.t 50),none⟩,
 ⟨some 52,.faddr 4 (.t 51),none⟩,
 ⟨some 53,.load false 1 (.t 52),none⟩,
 ⟨some 54,.len (.t 53),none⟩,
 ⟨some 55,.bin .lss (.t 48) (.t 54),none⟩])
 (.cond (.t 55)
 (.skip)
 (.exit 4)))
 (.seq (.block 5 (.seq (.region [⟨some 58,.mov (.t 0),none⟩,
 ⟨some 59,.mov (.t 3),none⟩,
 ⟨some 60,.iaddr 5 (.t 58) (.t 59),none⟩,
 ⟨some 61,.faddr 4 (.t 60),none⟩,
 ⟨some 62,.load false 1 (.t 61),none⟩,
 ⟨some 63,.mov (.t 5),none⟩,
 ⟨some 64,.iaddr 1 (.t 62) (.t 63),none⟩,
 ⟨some 65,.load false 1 (.t 64),none⟩,
 ⟨some 66,.len (.t 65),none⟩,
 ⟨some 67,.bin .gtr (.t 66) (.c (.int .i64 66)),none⟩])
 (.cond (.t 67)
 (.seq (.region [⟨some 2,.mov (.c (.bool true)),none⟩])
 (.ret))
 (.skip))))
 (.region [⟨some 56,.mov (.t 5),none⟩,
 ⟨some 57,.bin .add (.t 56) (.c (.int .i64 1)),none⟩,
 ⟨some 5,.mov (.t 57),none⟩]))
def xWL : ACode := xJh
def xMB : List Nat := [1,4,6,7,8,9,10,11,12,13,14,15,16,17,18,19,20,21,22,23,24,25,26,27,28,29,30,31,32,33,34,35,36,37,38,39,40,41,42,43,44,45,46,47,48,49,50,51,52,53,54,55,56,57,58,59,60,61,62,63,64,65,66,67]
abbrev xJi (s0 s2 s3 s5 : AV) : List AV := [s0,.any,s2,s3,.any,s5,.any,.any,.any,.any,.any,.any,.any,.any,.any,.any,.any,.any,.any,.any,.any,.any,.any,.any,.any,.any,.any,.any,.any,.any,.any,.any,.any,.any,.any,.any,.any,.any,.any,.any,.any,.any,.any,.any,.any,.any,.any,.any,.any,.any,.any,.any,.any,.any,.any,.any,.any,.any,.any,.any,.any,.any,.any,.any,.any,.any,.any,.any]
theorem xHo (s0 s1 s2 s3 s4 s5 s6 s7 s8 s9 s10 s11 s12 s13 s14 s15 s16 s17 s18 s19 s20 s21 s22 s23 s24 s25 s26 s27 s28 s29 s30 s31 s32 s33 s34 s35 s36 s37 s38 s39 s40 s41 s42 s43 s44 s45 s46 s47 s48 s49 s50 s51 s52 s53 s54 s55 s56 s57 s58 s59 s60 s61 s62 s63 s64 s65 s66 s67 : AV) : xAM xMB [s0,s1,s2,s3,s4,s5,s6,s7,s8,s9,s10,s11,s12,s13,s14,s15,s16,s17,s18,s19,s20,s21,s22,s23,s24,s25,s26,s27,s28,s29,s30,s31,s32,s33,s34,s35,s36,s37,s38,s39,s40,s41,s42,s43,s44,s45,s46,s47,s48,s49,s50,s51,s52,s53,s54,s55,s56,s57,s58,s59,s60,s61,s62,s63,s64,s65,s66,s67] = xJi s0 s2 s3 s5 := by kernel_rfl
theorem xTm {prog : Nat → Option AFunc} (s0 s2 s3 s5 : AV) (H : Heap) : (lim prog).loop xMB xWL ⟨xJi s0 s2 s3 s5,H⟩ = xBT (lim prog) xMB xWL (run (lim prog) xJh ⟨xJi s0 s2 s3 s5,H⟩) := xAo _ _ _ _ (by kernel_rfl)
def xE1 : ACode :=
 .seq (.seq (.region [⟨some 6,.mov (.t 3),none⟩,
 ⟨some 7,.mov (.t 0),none⟩,
 ⟨some 8,.len (.t 7),none⟩,
 ⟨some 9,.bin .lss (.t 6) (.t 8),none⟩])
 (.cond (.t 9)
 (.skip)
 (.exit 0)))
 (.seq (.block 1 (.seq (.seq (.region [⟨some 12,.mov (.t 0),none⟩,
 ⟨some 13,.mov (.t 3),none⟩,
 ⟨some 14,.iaddr 5 (.t 12) (.t 13),none⟩,
 ⟨some 15,.faddr 3 (.t 14),none⟩,
 ⟨some 16,.load false 1 (.t 15),none⟩,
 ⟨some 17,.len (.t 16),none⟩,
 ⟨some 18,.bin .gtr (.t 17) (.c (.int .i64 14)),none⟩,
 ⟨some 19,.mov (.t 18),none⟩,
 ⟨some 20,.mov (.t 0),some (19,false)⟩,
 ⟨some 21,.mov (.t 3),some (19,false)⟩,
 ⟨some 22,.iaddr 5 (.t 20) (.t 21),some (19,false)⟩,
 ⟨some 23,.faddr 4 (.t 22),some (19,false)⟩,
 ⟨some 24,.load false 1 (.t 23),some (19,false)⟩,
 ⟨some 25,.len (.t 24),some (19,false)⟩,
 ⟨some 26,.bin .gtr (.t 25) (.c (.int .i64 16)),some (19,false)⟩,
 ⟨some 27,.pick (.t 19) (.c (.bool true)) (.t 26),none⟩])
 (.cond (.t 27)
 (.seq (.region [⟨some 2,.mov (.c (.bool true)),none⟩])
 (.ret))
 (.skip)))
 (.seq (.seq (.region [⟨some 4,.mov (.c (.int .i64 0)),none⟩])
 (.block 2 (.loop xMA xWK)))
 (.seq (.region [⟨some 5,.mov (.c (.int .i64 0)),none⟩])
 (.block 4 (.loop xMB xWL))))))
 (.region [⟨some 10,.mov (.t 3),none⟩,
 ⟨some 11,.bin .add (.t 10) (.c (.int .i64 1)),none⟩,
 ⟨some 3,.mov (.t 11),none⟩]))
def xWM : ACode := xE1
def xMC : List Nat := [1,4,5,6,7,8,9,10,11,12,13,14,15,16,17,18,19,20,21,22,23,24,25,26,27,28,29,30,31,32,33,34,35,36,37,38,39,40,41,42,43,44,45,46,47,48,49,50,51,52,53,54,55,56,57,58,59,60,61,62,63,64,65,66,67]
abbrev xJj (s0 s2 s3 : AV) : List AV := [s0,.any,s2,s3,.any,.any,.any,.any,.any,.any,.any,.any,.any,.any,.any,.any,.any,.any,.any,.any,.any,.any,.any,.any,.any,.any,.any,.any,.any,.any,.any,.any,.any,.any,.any,.any,.any,.any,.any,.any,.any,.any,.any,.any,.any,.any,.any,.any,.any,.any,.any,.any,.any,.any,.any,.any,.any,.any,.any,.any,.any,.any,.any,.any,.any,.any,.any,.any]
theorem xE2 (s0 s1 s2 s3 s4 s5 s6 s7 s8 s9 s10 s11 s12 s13 s14 s15 s16 s17 s18 s19 s20 s21 s22 s23 s24 s25 s26 s27 s28 s29 s30 s31 s32 s33 s34 s35 s36 s37 s38 s39 s40 s41 s42 s43 s44 s45 s46 s47 s48 s49 s50 s51 s52 s53 s54 s55 s56 s57 s58 s59 s60 s61 s62 s63 s64 s65 s66 s67 : AV) : xAM xMC [s0,s1,s2,s3,s4,s5,s6,s7,s8,s9,s10,s11,s12,s13,s14,s15,s16,s17,s18,s19,s20,s21,s22,s23,s24,s25,s26,s27,s28,s29,s30,s31,s32,s33,s34,s35,s36,s37,s38,s39,s40,s41,s42,s43,s44,s45,s46,s47,s48,s49,s50,s51,s52,s53,s54,s55,s56,s57,s58,s59,s60,s61,s62,s63,s64,s65,s66,s67] = xJj s0 s2 s3 := by kernel_rfl
theorem xJk {prog : Nat → Option AFunc} (s0 s2 s3 : AV) (H : Heap) : (lim prog).loop xMC xWM ⟨xJj s0 s2 s3,H⟩ = xBT (lim prog) xMC xWM (run (lim prog) xE1 ⟨xJj s0 s2 s3,H⟩) := xAo _ _ _ _ (by kernel_rfl)
def a11 : AFunc := ⟨68,
 .seq (.region [⟨some 2,.mov (.c (.bool false)),none⟩])
 (.seq (.seq (.region [⟨some 3,.mov (.c (.int .i64 0)),none⟩])
 (.block 0 (.loop xMC xWM)))
 (.seq (.region [⟨some 2,.mov (.c (.bool false)),none⟩])
 (.ret))),
 [.tmp 2]⟩
def a13 : AFunc := ⟨131,
 .seq (.region [⟨some 0,.mov (.c (.bool false)),none⟩])
 (.seq (.region [⟨some 19,.call 43 [],none⟩,
 ⟨some 1,.box (.c (.agg [.int .i64 0,.int .i64 0,.int .i64 0,.sl true 0 [],.sl true 0 []])),none⟩,
 ⟨none,.store 5 (.t 1) (.t 19),none⟩])
 (.seq (.region [⟨some 20,.bslice true [.int .i64 0] 1 2 [(0,(.c (.int .i64 1))),(1,(.c (.int .i64 1)))],none⟩,
 ⟨some 21,.bslice true [.int .i64 0] 1 2 [(0,(.c (.int .i64 0))),(1,(.c (.int .i64 0)))],none⟩,
 ⟨some 22,.bslice true [.sl true 0 []] 1 2 [(0,(.t 20)),(1,(.t 21))],none⟩,
 ⟨some 23,.bslice true [.int .u8 0] 1 2 [(0,(.c (.int .u8 1))),(1,(.c (.int .u8 0)))],none⟩,
 ⟨some 24,.bslice true [.int .u8 0] 1 2 [(0,(.c (.int .u8 1))),(1,(.c (.int .u8 0)))],none⟩,
 ⟨some 25,.bslice true [.sl true 0 []] 1 2 [(0,(.t 23)),(1,(.t 24))],none⟩,
 ⟨some 26,.build [.int .i64 0,.int .i64 0,.int .i64 0,.sl true 0 [],.sl true 0 []] [(0,1,(.c (.int .i64 1))),(1,1,(.c (.int .i64 1))),(3,1,(.t 22)),(4,1,(.t 25))],none⟩,
 ⟨some 2,.box (.c (.agg [.int .i64 0,.int .i64 0,.int .i64 0,.sl true 0 [],.sl true 0 []])),none⟩,
 ⟨none,.store 5 (.t 2) (.t 26),none⟩])
 (.seq (.region [⟨some 27,.call 43 [],none⟩,
 ⟨some 3,.box (.c (.agg [.int .i64 0,.int .i64 0,.int .i64 0,.sl true 0 [],.sl true 0 []])),none⟩,
 ⟨none,.store 5 (.t 3) (.t 27),none⟩])
 (.seq (.region [⟨some 28,.bslice true [.int .u8 0] 1 2 [(0,(.c (.int .u8 1))),(1,(.c (.int .u8 1)))],none⟩,
 ⟨some 29,.bslice true [.sl true 0 []] 1 1 [(0,(.t 28))],none⟩,
 ⟨some 30,.faddr 4 (.t 3),none⟩,
 ⟨none,.store 1 (.t 30) (.t 29),none⟩])
 (.seq (.region [⟨some 32,.load true 5 (.t 1),none⟩,
 ⟨some 33,.bslice true [.int .u8 0] 1 3 [(0,(.c (.int .u8 0))),(1,(.c (.int .u8 1))),(2,(.c (.int .u8 1)))],none⟩,
 ⟨some 34,.call 16 [(.t 32),(.t 33)],none⟩,
 ⟨some 31,.mov (.t 34),none⟩,
 ⟨some 35,.ext 0 (.t 31),none⟩,
 ⟨some 36,.ext 1 (.t 31),none⟩,
 ⟨some 37,.ext 2 (.t 31),none⟩,
 ⟨some 4,.mov (.t 35),none⟩,
 ⟨some 5,.mov (.t 36),none⟩,
 ⟨some 6,.mov (.t 37),none⟩])
 (.seq (.region [⟨some 39,.load true 5 (.t 1),none⟩,
 ⟨some 40,.bslice true [.int .u8 0] 1 2 [(0,(.c (.int .u8 0))),(1,(.c (.int .u8 1)))],none⟩,
 ⟨some 41,.build [.sl true 0 [],.sl true 0 []] [(1,1,(.t 40))],none⟩,
 ⟨some 42,.call 18 [(.t 39),(.t 41)],none⟩,
 ⟨some 38,.mov (.t 42),none⟩,
 ⟨some 43,.ext 0 (.t 38),none⟩,
 ⟨some 44,.ext 1 (.t 38),none⟩,
 ⟨some 7,.box (.c (.agg [.sl true 0 [],.sl true 0 []])),none⟩,
 ⟨none,.store 2 (.t 7) (.t 43),none⟩,
 ⟨some 8,.mov (.t 44),none⟩])
 (.seq (.region [⟨some 46,.load true 5 (.t 2),none⟩,
 ⟨some 47,.call 35 [(.t 46)],none⟩,
 ⟨some 45,.mov (.t 47),none⟩,
 ⟨some 48,.ext 0 (.t 45),none⟩,
 ⟨some 49,.ext 1 (.t 45),none⟩,
 ⟨some 9,.box (.c (.agg [.int .i64 0,.int .i64 0,.int .i64 0,.sl true 0 [],.sl true 0 []])),none⟩,
 ⟨none,.store 5 (.t 9) (.t 48),none⟩,
 ⟨some 10,.mov (.t 49),none⟩])
 (.seq (.region [⟨some 51,.load true 5 (.t 1),none⟩,
 ⟨some 52,.load true 5 (.t 2),none⟩,
 ⟨some 53,.call 37 [(.t 51),(.t 52)],none⟩,
 ⟨some 50,.mov (.t 53),none⟩,
 ⟨some 54,.ext 0 (.t 50),none⟩,
 ⟨some 55,.ext 1 (.t 50),none⟩,
 ⟨some 56,.ext 2 (.t 50),none⟩,
 ⟨some 11,.mov (.t 54),none⟩,
 ⟨some 12,.mov (.t 55),none⟩,
 ⟨some 13,.mov (.t 56),none⟩])
 (.seq (.draw 7 [⟨some 58,.load true 5 (.t 1),none⟩,
 ⟨some 59,.call 42 [],none⟩,
 ⟨some 60,.call 31 [(.t 58),(.t 59)],none⟩,
 ⟨some 57,.mov (.t 60),none⟩,
 ⟨some 61,.ext 0 (.t 57),none⟩,
 ⟨some 62,.ext 1 (.t 57),none⟩,
 ⟨some 14,.box (.c (.agg [.sl true 0 [],.sl true 0 []])),none⟩,
 ⟨none,.store 2 (.t 14) (.t 61),none⟩,
 ⟨some 15,.mov (.t 62),none⟩])
 (.seq (.region [⟨some 64,.load true 5 (.t 1),none⟩,
 ⟨some 65,.load true 5 (.t 3),none⟩,
 ⟨some 66,.call 37 [(.t 64),(.t 65)],none⟩,
 ⟨some 63,.mov (.t 66),none⟩,
 ⟨some 67,.ext 0 (.t 63),none⟩,
 ⟨some 68,.ext 1 (.t 63),none⟩,
 ⟨some 69,.ext 2 (.t 63),none⟩,
 ⟨some 16,.mov (.t 67),none⟩,
 ⟨some 17,.mov (.t 68),none⟩,
 ⟨some 18,.mov (.t 69),none⟩])
 (.seq (.region [⟨some 70,.mov (.t 6),none⟩,
 ⟨some 71,.bin .eql (.t 70) (.c (.int .i64 0)),none⟩,
 ⟨some 72,.mov (.t 71),none⟩,
 ⟨some 73,.mov (.t 4),some (72,true)⟩,
 ⟨some 74,.bslice true [.int .u8 0] 1 3 [(0,(.c (.int .u8 1))),(1,(.c (.int .u8 0))),(2,(.c (.int .u8 0)))],some (72,true)⟩,
 ⟨some 75,.call 23 [(.t 73),(.t 74)],some (72,true)⟩,
 ⟨some 76,.pick (.t 72) (.t 75) (.c (.bool false)),none⟩,
 ⟨some 77,.mov (.t 76),none⟩,
 ⟨some 78,.mov (.t 5),some (77,true)⟩,
 ⟨some 79,.bslice true [.int .i64 0] 1 4 [(0,(.c (.int .i64 0))),(1,(.c (.int .i64 0))),(2,(.c (.int .i64 0))),(3,(.c (.int .i64 0)))],some (77,true)⟩,
 ⟨some 80,.call 24 [(.t 78),(.t 79)],some (77,true)⟩,
 ⟨some 81,.pick (.t 77) (.t 80) (.c (.bool false)),none⟩,
 ⟨some 82,.mov (.t 81),none⟩,
 ⟨some 83,.mov (.t 8),some (82,true)⟩,
 ⟨some 84,.bin .eql (.t 83) (.c (.int .i64 0)),some (82,true)⟩,
 ⟨some 85,.pick (.t 82) (.t 84) (.c (.bool false)),none⟩,
 ⟨some 86,.mov (.t 85),none⟩,
 ⟨some 87,.load true 2 (.t 7),some (86,true)⟩,
 ⟨some 88,.bslice true [.int .u8 0] 1 2 [(0,(.c (.int .u8 2))),(1,(.c (.int .u8 1)))],some (86,true)⟩,
 ⟨some 89,.build [.sl true 0 [],.sl true 0 []] [(1,1,(.t 88))],some (86,true)⟩,
 ⟨some 90,.call 25 [(.t 87),(.t 89)],some (86,true)⟩,
 ⟨some 91,.pick (.t 86) (.t 90) (.c (.bool false)),none⟩,
 ⟨some 92,.mov (.t 91),none⟩,
 ⟨some 93,.mov (.t 10),some (92,true)⟩,
 ⟨some 94,.bin .eql (.t 93) (.c (.int .i64 0)),some (92,true)⟩,
 ⟨some 95,.pick (.t 92) (.t 94) (.c (.bool false)),none⟩,
 ⟨some 96,.mov (.t 95),none⟩,
 ⟨some 97,.load true 5 (.t 9),some (96,true)⟩,
 ⟨some 98,.load true 5 (.t 1),some (96,true)⟩,
 ⟨some 99,.call 29 [(.t 97),(.t 98)],some (96,true)⟩,
 ⟨some 100,.pick (.t 96) (.t 99) (.c (.bool false)),none⟩,
 ⟨some 101,.mov (.t 100),none⟩,
 ⟨some 102,.mov (.t 13),some (101,true)⟩,
 ⟨some 103,.bin .eql (.t 102) (.c (.int .i64 0)),some (101,true)⟩,
 ⟨some 104,.pick (.t 101) (.t 103) (.c (.bool false)),none⟩,
 ⟨some 105,.mov (.t 104),none⟩,
 ⟨some 106,.mov (.t 12),some (105,true)⟩,
 ⟨some 107,.pick (.t 105) (.t 106) (.c (.bool false)),none⟩,
 ⟨some 108,.mov (.t 107),none⟩,
 ⟨some 109,.mov (.t 15),some (108,true)⟩,
 ⟨some 110,.bin .eql (.t 109) (.c (.int .i64 0)),some (108,true)⟩,
 ⟨some 111,.pick (.t 108) (.t 110) (.c (.bool false)),none⟩,
 ⟨some 112,.mov (.t 111),none⟩,
 ⟨some 113,.load true 2 (.t 14),some (112,true)⟩,
 ⟨some 114,.bslice true [.int .u8 0] 1 1 [(0,(.c (.int .u8 1)))],some (112,true)⟩,
 ⟨some 115,.build [.sl true 0 [],.sl true 0 []] [(1,1,(.t 114))],some (112,true)⟩,
 ⟨some 116,.call 25 [(.t 113),(.t 115)],some (112,true)⟩,
 ⟨some 117,.pick (.t 112) (.t 116) (.c (.bool false)),none⟩,
 ⟨some 118,.mov (.t 117),none⟩,
 ⟨some 119,.mov (.t 18),some (118,true)⟩,
 ⟨some 120,.bin .eql (.t 119) (.c (.int .i64 0)),some (118,true)⟩,
 ⟨some 121,.pick (.t 118) (.t 120) (.c (.bool false)),none⟩,
 ⟨some 122,.mov (.t 121),none⟩,
 ⟨some 123,.mov (.t 17),some (122,true)⟩,
 ⟨some 124,.un .not (.t 123),some (122,true)⟩,
 ⟨some 125,.pick (.t 122) (.t 124) (.c (.bool false)),none⟩,
 ⟨some 126,.mov (.t 125),none⟩,
 ⟨some 127,.mov (.t 16),some (126,true)⟩,
 ⟨some 128,.bslice true [.int .u8 0] 1 1 [(0,(.c (.int .u8 1)))],some (126,true)⟩,
 ⟨some 129,.call 23 [(.t 127),(.t 128)],some (126,true)⟩,
 ⟨some 130,.pick (.t 126) (.t 129) (.c (.bool false)),none⟩,
 ⟨some 0,.mov (.t 130),none⟩])
 (.ret)))))))))))),
 [.tmp 0]⟩
def xHp : ACode :=
 .seq (.region [⟨some 31,.bin .lss (.t 30) (.t 29),none⟩])
 (.seq (.cond (.t 31)
 (.skip)
 (.exit 1))
 (.seq (.block 2 (.seq (.region [⟨some 32,.iaddr 1 (.t 28) (.t 30),none⟩,
 ⟨some 33,.load false 1 (.t 32),none⟩,
 ⟨some 10,.mov (.t 33),none⟩])
 (.seq (.region [⟨some 34,.mov (.t 4),none⟩,
 ⟨some 35,.faddr 4 (.t 2),none⟩,
 ⟨some 36,.load false 1 (.t 35),none⟩,
 ⟨some 37,.mov (.t 8),none⟩,
 ⟨some 38,.iaddr 1 (.t 36) (.t 37),none⟩,
 ⟨some 39,.load false 1 (.t 38),none⟩,
 ⟨some 40,.mov (.t 10),none⟩,
 ⟨some 41,.iaddr 1 (.t 39) (.t 40),none⟩,
 ⟨some 42,.load false 1 (.t 41),none⟩,
 ⟨some 43,.bslice true [.int .u8 0] 1 1 [(0,(.t 42))],none⟩,
 ⟨some 44,.append false 1 1 (.t 34) (.t 43),none⟩,
 ⟨some 4,.mov (.t 44),none⟩])
 (.seq (.region [⟨some 45,.faddr 3 (.t 2),none⟩,
 ⟨some 46,.load false 1 (.t 45),none⟩,
 ⟨some 47,.mov (.t 8),none⟩,
 ⟨some 48,.iaddr 1 (.t 46) (.t 47),none⟩,
 ⟨some 49,.load false 1 (.t 48),none⟩,
 ⟨some 50,.mov (.t 10),none⟩,
 ⟨some 51,.iaddr 1 (.t 49) (.t 50),none⟩,
 ⟨some 52,.load false 1 (.t 51),none⟩,
 ⟨some 8,.mov (.t 52),none⟩])
 (.region [⟨some 53,.mov (.t 5),none⟩,
 ⟨some 54,.mov (.t 8),none⟩,
 ⟨some 55,.bslice true [.int .i64 0] 1 1 [(0,(.t 54))],none⟩,
 ⟨some 56,.append false 1 8 (.t 53) (.t 55),none⟩,
 ⟨some 5,.mov (.t 56),none⟩])))))
 (.region [⟨some 57,.bin .add (.t 30) (.c (.int .i64 1)),none⟩,
 ⟨some 30,.mov (.t 57),none⟩])))
def xSj : ACode := xHp
def xHq : List Nat := [0,1,3,6,7,9,10,11,12,13,14,15,16,17,18,19,20,21,22,23,24,25,26,27,31,32,33,34,35,36,37,38,39,40,41,42,43,44,45,46,47,48,49,50,51,52,53,54,55,56,57,58,59]
abbrev xPE (s2 s4 s5 s8 s28 s29 s30 : AV) : List AV := [.any,.any,s2,.any,s4,s5,.any,.any,s8,.any,.any,.any,.any,.any,.any,.any,.any,.any,.any,.any,.any,.any,.any,.any,.any,.any,.any,.any,s28,s29,s30,.any,.any,.any,.any,.any,.any,.any,.any,.any,.any,.any,.any,.any,.any,.any,.any,.any,.any,.any,.any,.any,.any,.any,.any,.any,.any,.any,.any,.any]
theorem xHr (s0 s1 s2 s3 s4 s5 s6 s7 s8 s9 s10 s11 s12 s13 s14 s15 s16 s17 s18 s19 s20 s21 s22 s23 s24 s25 s26 s27 s28 s29 s30 s31 s32 s33 s34 s35 s36 s37 s38 s39 s40 s41 s42 s43 s44 s45 s46 s47 s48 s49 s50 s51 s52 s53 s54 s55 s56 s57 s58 s59 : AV) : xAM xHq [s0,s1,s2,s3,s4,s5,s6,s7,s8,s9,s10,s11,s12,s13,s14,s15,s16,s17,s18,s19,s20,s21,s22,s23,s24,s25,s26,s27,s28,s29,s30,s31,s32,s33,s34,s35,s36,s37,s38,s39,s40,s41,s42,s43,s44,s45,s46,s47,s48,s49,s50,s51,s52,s53,s54,s55,s56,s57,s58,s59] = xPE s2 s4 s5 s8 s28 s29 s30 := by kernel_rfl
theorem xMD {prog : Nat → Option AFunc} (s2 s4 s5 s8 s28 s29 s30 : AV) (H : Heap) : (lim prog).loop xHq xSj ⟨xPE s2 s4 s5 s8 s28 s29 s30,H⟩ = xBT (lim prog) xHq xSj (run (lim prog) xHp ⟨xPE s2 s4 s5 s8 s28 s29 s30,H⟩) := xAo _ _ _ _ (by kernel_rfl)
def a16 : AFunc := ⟨60,
 .seq (.region [⟨some 2,.box (.t 0),none⟩,
 ⟨some 4,.mov (.c (.sl true 0 [])),none⟩,
 ⟨some 5,.mov (.c (.sl true 0 [])),none⟩,
 ⟨some 6,.mov (.c (.int .i64 0)),none⟩])
 (.seq (.seq (.region [⟨some 11,.load true 5 (.t 2),none⟩,
 ⟨some 12,.call 21 [(.t 11)],none⟩,
 ⟨some 7,.mov (.t 12),none⟩])
 (.seq (.region [⟨some 13,.mov (.t 7),none⟩,
 ⟨some 14,.bin .neq (.t 13) (.c (.int .i64 0)),none⟩])
 (.cond (.t 14)
 (.seq (.region [⟨some 15,.mov (.t 7),none⟩,
 ⟨some 4,.mov (.c (.sl true 0 [])),none⟩,
 ⟨some 5,.mov (.c (.sl true 0 [])),none⟩,
 ⟨some 6,.mov (.t 15),none⟩])
 (.ret))
 (.skip))))
 (.seq (.block 0 (.seq (.region [⟨some 17,.mov (.t 1),none⟩,
 ⟨some 18,.len (.t 17),none⟩,
 ⟨some 19,.bin .gtr (.t 18) (.c (.int .i64 64)),none⟩,
 ⟨some 16,.mov (.t 19),none⟩])
 (.cond (.t 16)
 (.seq (.region [⟨some 4,.mov (.c (.sl true 0 [])),none⟩,
 ⟨some 5,.mov (.c (.sl true 0 [])),none⟩,
 ⟨some 6,.mov (.c (.int .i64 4)),none⟩])
 (.ret))
 (.seq (.region [⟨some 21,.mov (.t 1),none⟩,
 ⟨some 22,.mkfunc 53 [(.t 2)],none⟩,
 ⟨some 23,.icall (.c (.func 52 [])) [(.t 21),(.t 22)],none⟩,
 ⟨some 20,.mov (.t 23),none⟩])
 (.cond (.t 20)
 (.seq (.region [⟨some 4,.mov (.c (.sl true 0 [])),none⟩,
 ⟨some 5,.mov (.c (.sl true 0 [])),none⟩,
 ⟨some 6,.mov (.c (.int .i64 1)),none⟩])
 (.ret))
 (.skip))))))
 (.seq (.region [⟨some 24,.faddr 2 (.t 2),none⟩,
 ⟨some 25,.load false 1 (.t 24),none⟩,
 ⟨some 8,.mov (.t 25),none⟩])
 (.seq (.region [⟨some 26,.mov (.t 8),none⟩,
 ⟨some 27,.bslice false [.int .i64 0] 1 1 [(0,(.t 26))],none⟩,
 ⟨some 5,.mov (.t 27),none⟩])
 (.seq (.seq (.region [⟨some 28,.mov (.t 1),none⟩,
 ⟨some 29,.len (.t 28),none⟩,
 ⟨some 30,.mov (.c (.int .i64 0)),none⟩])
 (.block 1 (.loop xHq xSj)))
 (.seq (.region [⟨some 58,.mov (.t 4),none⟩,
 ⟨some 59,.mov (.t 5),none⟩,
 ⟨some 4,.mov (.t 58),none⟩,
 ⟨some 5,.mov (.t 59),none⟩,
 ⟨some 6,.mov (.c (.int .i64 0)),none⟩])
 (.ret))))))),
 [.tmp 4,.tmp 5,.tmp 6]⟩
def yAQ : ACode :=
 .seq (.block 1 (.seq (.seq (.region [⟨some 33,.mov (.t 8),none⟩,
 ⟨some 34,.load true 2 (.t 3),none⟩,
 ⟨some 35,.mov (.t 10),none⟩,
 ⟨some 36,.call 55 [(.t 34),(.t 35)],none⟩,
 ⟨some 37,.build [.int .i64 0,.int .i64 0] [(0,1,(.t 33)),(1,1,(.t 36))],none⟩,
 ⟨some 38,.icall (.c (.func 54 [])) [(.t 9),(.t 37)],none⟩,
 ⟨some 32,.mov (.t 38),none⟩,
 ⟨some 39,.ext 0 (.t 32),none⟩,
 ⟨some 40,.ext 1 (.t 32),none⟩,
 ⟨some 11,.box (.c (.agg [.sl true 0 [],.sl true 0 []])),none⟩,
 ⟨none,.store 2 (.t 11) (.t 39),none⟩,
 ⟨some 12,.mov (.t 40),none⟩])
 (.seq (.region [⟨some 41,.mov (.t 12),none⟩])
 (.cond (.t 41)
 (.seq (.region [⟨some 42,.load true 2 (.t 11),none⟩,
 ⟨none,.store 2 (.t 4) (.t 42),none⟩,
 ⟨some 5,.mov (.c (.int .i64 0)),none⟩])
 (.ret))
 (.skip))))
 (.seq (.region [⟨some 43,.load true 2 (.t 3),none⟩,
 ⟨some 44,.mov (.t 10),none⟩,
 ⟨some 45,.call 47 [(.t 43),(.t 44)],none⟩,
 ⟨some 13,.mov (.t 45),none⟩])
 (.seq (.draw 11 [⟨some 46,.faddr 1 (.t 9),none⟩,
 ⟨some 47,.load false 1 (.t 46),none⟩,
 ⟨some 48,.mov (.t 13),none⟩,
 ⟨some 49,.faddr 4 (.t 2),none⟩,
 ⟨some 50,.load false 1 (.t 49),none⟩,
 ⟨some 51,.mov (.t 8),none⟩,
 ⟨some 52,.iaddr 1 (.t 50) (.t 51),none⟩,
 ⟨some 53,.load false 1 (.t 52),none⟩,
 ⟨some 54,.mov (.t 13),none⟩,
 ⟨some 55,.iaddr 1 (.t 53) (.t 54),none⟩,
 ⟨some 56,.load false 1 (.t 55),none⟩,
 ⟨some 57,.faddr 0 (.t 2),none⟩,
 ⟨some 58,.load false 1 (.t 57),none⟩,
 ⟨some 59,.bin .shl (.t 56) (.t 58),none⟩,
 ⟨some 60,.bin .or (.t 48) (.t 59),none⟩,
 ⟨some 61,.bslice true [.int .u8 0] 1 1 [(0,(.t 60))],none⟩,
 ⟨some 62,.append false 1 1 (.t 47) (.t 61),none⟩,
 ⟨some 63,.faddr 1 (.t 9),none⟩,
 ⟨none,.store 1 (.t 63) (.t 62),none⟩])
 (.region [⟨some 64,.faddr 3 (.t 2),none⟩,
 ⟨some 65,.load false 1 (.t 64),none⟩,
 ⟨some 66,.mov (.t 8),none⟩,
 ⟨some 67,.iaddr 1 (.t 65) (.t 66),none⟩,
 ⟨some 68,.load false 1 (.t 67),none⟩,
 ⟨some 69,.mov (.t 13),none⟩,
 ⟨some 70,.iaddr 1 (.t 68) (.t 69),none⟩,
 ⟨some 71,.load false 1 (.t 70),none⟩,
 ⟨some 8,.mov (.t 71),none⟩])))))
 (.region [⟨some 30,.mov (.t 10),none⟩,
 ⟨some 31,.bin .add (.t 30) (.c (.int .i64 1)),none⟩,
 ⟨some 10,.mov (.t 31),none⟩])
def yCe : ACode := yAQ
def yAR : List Nat := [0,1,6,7,11,12,13,14,15,16,17,18,19,20,21,22,23,24,25,26,27,28,29,30,31,32,33,34,35,36,37,38,39,40,41,42,43,44,45,46,47,48,49,50,51,52,53,54,55,56,57,58,59,60,61,62,63,64,65,66,67,68,69,70,71]
def a18 : AFunc := ⟨72,
 .seq (.region [⟨some 2,.box (.t 0),none⟩,
 ⟨some 3,.box (.t 1),none⟩,
 ⟨some 4,.box (.c (.agg [.sl true 0 [],.sl true 0 []])),none⟩,
 ⟨some 5,.mov (.c (.int .i64 0)),none⟩])
 (.seq (.seq (.region [⟨some 14,.load true 5 (.t 2),none⟩,
 ⟨some 15,.call 21 [(.t 14)],none⟩,
 ⟨some 6,.mov (.t 15),none⟩])
 (.seq (.region [⟨some 16,.mov (.t 6),none⟩,
 ⟨some 17,.bin .neq (.t 16) (.c (.int .i64 0)),none⟩])
 (.cond (.t 17)
 (.seq (.region [⟨some 18,.build [.sl true 0 [],.sl true 0 []] [],none⟩,
 ⟨some 19,.mov (.t 6),none⟩,
 ⟨none,.store 2 (.t 4) (.t 18),none⟩,
 ⟨some 5,.mov (.t 19),none⟩])
 (.ret))
 (.skip))))
 (.seq (.seq (.region [⟨some 20,.load true 2 (.t 3),none⟩,
 ⟨some 21,.faddr 0 (.t 2),none⟩,
 ⟨some 22,.load false 1 (.t 21),none⟩,
 ⟨some 23,.call 45 [(.t 20),(.t 22)],none⟩,
 ⟨some 7,.mov (.t 23),none⟩])
 (.seq (.region [⟨some 24,.mov (.t 7),none⟩,
 ⟨some 25,.bin .neq (.t 24) (.c (.int .i64 0)),none⟩])
 (.cond (.t 25)
 (.seq (.region [⟨some 26,.build [.sl true 0 [],.sl true 0 []] [],none⟩,
 ⟨some 27,.mov (.t 7),none⟩,
 ⟨none,.store 2 (.t 4) (.t 26),none⟩,
 ⟨some 5,.mov (.t 27),none⟩])
 (.ret))
 (.skip))))
 (.seq (.region [⟨some 28,.faddr 2 (.t 2),none⟩,
 ⟨some 29,.load false 1 (.t 28),none⟩,
 ⟨some 8,.mov (.t 29),none⟩])
 (.seq (.region [⟨some 9,.box (.c (.agg [.nilm,.sl true 0 []])),none⟩])
 (.seq (.region [⟨some 10,.mov (.c (.int .i64 0)),none⟩])
 (.block 0 (.loop yAR yCe))))))),
 [.cell 4 true 2,.tmp 5]⟩
def xE3 : ACode :=
 .seq (.region [⟨some 28,.bin .lss (.t 27) (.t 26),none⟩])
 (.seq (.cond (.t 28)
 (.skip)
 (.exit 0))
 (.seq (.block 1 (.seq (.region [⟨some 29,.mov (.t 27),none⟩,
 ⟨some 30,.iaddr 1 (.t 25) (.t 27),none⟩,
 ⟨some 31,.load false 1 (.t 30),none⟩,
 ⟨some 5,.mov (.t 29),none⟩,
 ⟨some 6,.mov (.t 31),none⟩])
 (.block 2 (.seq (.draw 16 [⟨some 33,.mov (.t 6),none⟩,
 ⟨some 34,.len (.t 33),none⟩,
 ⟨some 35,.faddr 0 (.t 1),none⟩,
 ⟨some 36,.load false 1 (.t 35),none⟩,
 ⟨some 37,.bin .shl (.c (.int .i64 1)) (.t 36),none⟩,
 ⟨some 38,.bin .neq (.t 34) (.t 37),none⟩,
 ⟨some 39,.mov (.t 38),none⟩,
 ⟨some 40,.faddr 4 (.t 1),some (39,false)⟩,
 ⟨some 41,.load false 1 (.t 40),some (39,false)⟩,
 ⟨some 42,.mov (.t 5),some (39,false)⟩,
 ⟨some 43,.iaddr 1 (.t 41) (.t 42),some (39,false)⟩,
 ⟨some 44,.load false 1 (.t 43),some (39,false)⟩,
 ⟨some 45,.len (.t 44),some (39,false)⟩,
 ⟨some 46,.faddr 0 (.t 1),some (39,false)⟩,
 ⟨some 47,.load false 1 (.t 46),some (39,false)⟩,
 ⟨some 48,.bin .shl (.c (.int .i64 1)) (.t 47),some (39,false)⟩,
 ⟨some 49,.bin .neq (.t 45) (.t 48),some (39,false)⟩,
 ⟨some 50,.pick (.t 39) (.c (.bool true)) (.t 49),none⟩,
 ⟨some 32,.mov (.t 50),none⟩])
 (.cond (.t 32)
 (.seq (.region [⟨some 2,.mov (.c (.int .i64 2)),none⟩])
 (.ret))
 (.seq (.region [⟨some 52,.mov (.t 6),none⟩,
 ⟨some 53,.mov (.t 3),none⟩,
 ⟨some 54,.call 60 [(.t 52),(.t 53)],none⟩,
 ⟨some 51,.mov (.t 54),none⟩])
 (.cond (.t 51)
 (.seq (.region [⟨some 2,.mov (.c (.int .i64 8)),none⟩])
 (.ret))
 (.seq (.draw 10 [⟨some 56,.faddr 4 (.t 1),none⟩,
 ⟨some 57,.load false 1 (.t 56),none⟩,
 ⟨some 58,.mov (.t 5),none⟩,
 ⟨some 59,.iaddr 1 (.t 57) (.t 58),none⟩,
 ⟨some 60,.load false 1 (.t 59),none⟩,
 ⟨some 61,.call 61 [(.t 60)],none⟩,
 ⟨some 62,.conv .i64 (.t 61),none⟩,
 ⟨some 63,.faddr 1 (.t 1),none⟩,
 ⟨some 64,.load false 1 (.t 63),none⟩,
 ⟨some 65,.bin .shl (.c (.int .i64 1)) (.t 64),none⟩,
 ⟨some 66,.bin .geq (.t 62) (.t 65),none⟩,
 ⟨some 55,.mov (.t 66),none⟩])
 (.cond (.t 55)
 (.seq (.region [⟨some 2,.mov (.c (.int .i64 1)),none⟩])
 (.ret))
 (.skip))))))))))
 (.region [⟨some 67,.bin .add (.t 27) (.c (.int .i64 1)),none⟩,
 ⟨some 27,.mov (.t 67),none⟩])))
def xWN : ACode := xE3
def xME : List Nat := [0,4,5,6,7,8,9,10,11,12,13,14,15,16,17,18,19,20,21,22,23,24,28,29,30,31,32,33,34,35,36,37,38,39,40,41,42,43,44,45,46,47,48,49,50,51,52,53,54,55,56,57,58,59,60,61,62,63,64,65,66,67]
abbrev xJl (s1 s2 s3 s25 s26 s27 : AV) : List AV := [.any,s1,s2,s3,.any,.any,.any,.any,.any,.any,.any,.any,.any,.any,.any,.any,.any,.any,.any,.any,.any,.any,.any,.any,.any,s25,s26,s27,.any,.any,.any,.any,.any,.any,.any,.any,.any,.any,.any,.any,.any,.any,.any,.any,.any,.any,.any,.any,.any,.any,.any,.any,.any,.any,.any,.any,.any,.any,.any,.any,.any,.any,.any,.any,.any,.any,.any,.any]
theorem xE4 (s0 s1 s2 s3 s4 s5 s6 s7 s8 s9 s10 s11 s12 s13 s14 s15 s16 s17 s18 s19 s20 s21 s22 s23 s24 s25 s26 s27 s28 s29 s30 s31 s32 s33 s34 s35 s36 s37 s38 s39 s40 s41 s42 s43 s44 s45 s46 s47 s48 s49 s50 s51 s52 s53 s54 s55 s56 s57 s58 s59 s60 s61 s62 s63 s64 s65 s66 s67 : AV) : xAM xME [s0,s1,s2,s3,s4,s5,s6,s7,s8,s9,s10,s11,s12,s13,s14,s15,s16,s17,s18,s19,s20,s21,s22,s23,s24,s25,s26,s27,s28,s29,s30,s31,s32,s33,s34,s35,s36,s37,s38,s39,s40,s41,s42,s43,s44,s45,s46,s47,s48,s49,s50,s51,s52,s53,s54,s55,s56,s57,s58,s59,s60,s61,s62,s63,s64,s65,s66,s67] = xJl s1 s2 s3 s25 s26 s27 := by kernel_rfl
theorem xJm {prog : Nat → Option AFunc} (s1 s2 s3 s25 s26 s27 : AV) (H : Heap) : (lim prog).loop xME xWN ⟨xJl s1 s2 s3 s25 s26 s27,H⟩ = xBT (lim prog) xME xWN (run (lim prog) xE3 ⟨xJl s1 s2 s3 s25 s26 s27,H⟩) := xAo _ _ _ _ (by kernel_rfl)
def a21 : AFunc := ⟨68,
 .seq (.region [⟨some 1,.box (.t 0),none⟩,
 ⟨some 2,.mov (.c (.int .i64 0)),none⟩])
 (.seq (.region [⟨some 7,.faddr 3 (.t 1),none⟩,
 ⟨some 8,.load false 1 (.t 7),none⟩,
 ⟨some 9,.len (.t 8),none⟩,
 ⟨some 3,.mov (.t 9),none⟩])
 (.seq (.seq (.region [⟨some 10,.faddr 0 (.t 1),none⟩,
 ⟨some 11,.load false 1 (.t 10),none⟩,
 ⟨some 12,.faddr 1 (.t 1),none⟩,
 ⟨some 13,.load false 1 (.t 12),none⟩,
 ⟨some 14,.mov (.t 3),none⟩,
 ⟨some 15,.faddr 4 (.t 1),none⟩,
 ⟨some 16,.load false 1 (.t 15),none⟩,
 ⟨some 17,.len (.t 16),none⟩,
 ⟨some 18,.faddr 2 (.t 1),none⟩,
 ⟨some 19,.load false 1 (.t 18),none⟩,
 ⟨some 20,.call 59 [(.t 11),(.t 13),(.t 14),(.t 17),(.t 19)],none⟩,
 ⟨some 4,.mov (.t 20),none⟩])
 (.seq (.region [⟨some 21,.mov (.t 4),none⟩,
 ⟨some 22,.bin .neq (.t 21) (.c (.int .i64 0)),none⟩])
 (.cond (.t 22)
 (.seq (.region [⟨some 23,.mov (.t 4),none⟩,
 ⟨some 2,.mov (.t 23),none⟩])
 (.ret))
 (.skip))))
 (.seq (.seq (.region [⟨some 24,.faddr 3 (.t 1),none⟩,
 ⟨some 25,.load false 1 (.t 24),none⟩,
 ⟨some 26,.len (.t 25),none⟩,
 ⟨some 27,.mov (.c (.int .i64 0)),none⟩])
 (.block 0 (.loop xME xWN)))
 (.seq (.region [⟨some 2,.mov (.c (.int .i64 0)),none⟩])
 (.ret))))),
 [.tmp 2]⟩
def xJn : ACode :=
 .seq (.seq (.region [⟨some 11,.mov (.t 5),none⟩,
 ⟨some 12,.mov (.t 0),none⟩,
 ⟨some 13,.len (.t 12),none⟩,
 ⟨some 14,.bin .lss (.t 11) (.t 13),none⟩])
 (.cond (.t 14)
 (.skip)
 (.exit 0)))
 (.seq (.block 1 (.seq (.draw 5 [⟨some 17,.mov (.t 0),none⟩,
 ⟨some 18,.mov (.t 5),none⟩,
 ⟨some 19,.iaddr 1 (.t 17) (.t 18),none⟩,
 ⟨some 20,.load false 1 (.t 19),none⟩,
 ⟨some 21,.mov (.t 1),none⟩,
 ⟨some 22,.mov (.t 5),none⟩,
 ⟨some 23,.iaddr 1 (.t 21) (.t 22),none⟩,
 ⟨some 24,.load false 1 (.t 23),none⟩,
 ⟨some 25,.bin .neq (.t 20) (.t 24),none⟩])
 (.cond (.t 25)
 (.seq (.region [⟨some 4,.mov (.c (.bool false)),none⟩])
 (.ret))
 (.skip))))
 (.region [⟨some 15,.mov (.t 5),none⟩,
 ⟨some 16,.bin .add (.t 15) (.c (.int .i64 1)),none⟩,
 ⟨some 5,.mov (.t 16),none⟩]))
def xWO : ACode := xJn
def xMF : List Nat := [2,3,6,7,8,9,10,11,12,13,14,15,16,17,18,19,20,21,22,23,24,25]
abbrev xJo (s0 s1 s4 s5 : AV) : List AV := [s0,s1,.any,.any,s4,s5,.any,.any,.any,.any,.any,.any,.any,.any,.any,.any,.any,.any,.any,.any,.any,.any,.any,.any,.any,.any]
theorem xJp (s0 s1 s2 s3 s4 s5 s6 s7 s8 s9 s10 s11 s12 s13 s14 s15 s16 s17 s18 s19 s20 s21 s22 s23 s24 s25 : AV) : xAM xMF [s0,s1,s2,s3,s4,s5,s6,s7,s8,s9,s10,s11,s12,s13,s14,s15,s16,s17,s18,s19,s20,s21,s22,s23,s24,s25] = xJo s0 s1 s4 s5 := by kernel_rfl
theorem xTn {prog : Nat → Option AFunc} (s0 s1 s4 s5 : AV) (H : Heap) : (lim prog).loop xMF xWO ⟨xJo s0 s1 s4 s5,H⟩ = xBT (lim prog) xMF xWO (run (lim prog) xJn ⟨xJo s0 s1 s4 s5,H⟩) := xAo _ _ _ _ (by kernel_rfl)
def a23 : AFunc := ⟨26,
 .seq (.region [⟨some 4,.mov (.c (.bool false)),none⟩])
 (.seq (.seq (.region [⟨some 6,.mov (.t 0),none⟩,
 ⟨some 7,.len (.t 6),none⟩,
 ⟨some 8,.mov (.t 1),none⟩,
 ⟨some 9,.len (.t 8),none⟩,
 ⟨some 10,.bin .neq (.t 7) (.t 9),none⟩])
 (.cond (.t 10)
 (.seq (.region [⟨some 4,.mov (.c (.bool false)),none⟩])
 (.ret))
 (.skip)))
 (.seq (.seq (.region [⟨some 5,.mov (.c (.int .i64 0)),none⟩])
 (.block 0 (.loop xMF xWO)))
 (.seq (.region [⟨some 4,.mov (.c (.bool true)),none⟩])
 (.ret)))),
 [.tmp 4]⟩
def xJq : ACode :=
 .seq (.seq (.region [⟨some 11,.mov (.t 5),none⟩,
 ⟨some 12,.mov (.t 0),none⟩,
 ⟨some 13,.len (.t 12),none⟩,
 ⟨some 14,.bin .lss (.t 11) (.t 13),none⟩])
 (.cond (.t 14)
 (.skip)
 (.exit 0)))
 (.seq (.block 1 (.seq (.draw 5 [⟨some 17,.mov (.t 0),none⟩,
 ⟨some 18,.mov (.t 5),none⟩,
 ⟨some 19,.iaddr 1 (.t 17) (.t 18),none⟩,
 ⟨some 20,.load false 1 (.t 19),none⟩,
 ⟨some 21,.mov (.t 1),none⟩,
 ⟨some 22,.mov (.t 5),none⟩,
 ⟨some 23,.iaddr 1 (.t 21) (.t 22),none⟩,
 ⟨some 24,.load false 1 (.t 23),none⟩,
 ⟨some 25,.bin .neq (.t 20) (.t 24),none⟩])
 (.cond (.t 25)
 (.seq (.region [⟨some 4,.mov (.c (.bool false)),none⟩])
 (.ret))
 (.skip))))
 (.region [⟨some 15,.mov (.t 5),none⟩,
 ⟨some 16,.bin .add (.t 15) (.c (.int .i64 1)),none⟩,
 ⟨some 5,.mov (.t 16),none⟩]))
def xWP : ACode := xJq
def xMG : List Nat := [2,3,6,7,8,9,10,11,12,13,14,15,16,17,18,19,20,21,22,23,24,25]
abbrev xJr (s0 s1 s4 s5 : AV) : List AV := [s0,s1,.any,.any,s4,s5,.any,.any,.any,.any,.any,.any,.any,.any,.any,.any,.any,.any,.any,.any,.any,.any,.any,.any,.any,.any]
theorem xJs (s0 s1 s2 s3 s4 s5 s6 s7 s8 s9 s10 s11 s12 s13 s14 s15 s16 s17 s18 s19 s20 s21 s22 s23 s24 s25 : AV) : xAM xMG [s0,s1,s2,s3,s4,s5,s6,s7,s8,s9,s10,s11,s12,s13,s14,s15,s16,s17,s18,s19,s20,s21,s22,s23,s24,s25] = xJr s0 s1 s4 s5 := by kernel_rfl
theorem xTo {prog : Nat → Option AFunc} (s0 s1 s4 s5 : AV) (H : Heap) : (lim prog).loop xMG xWP ⟨xJr s0 s1 s4 s5,H⟩ = xBT (lim prog) xMG xWP (run (lim prog) xJq ⟨xJr s0 s1 s4 s5,H⟩) := xAo _ _ _ _ (by kernel_rfl)
def a24 : AFunc := ⟨26,
 .seq (.region [⟨some 4,.mov (.c (.bool false)),none⟩])
 (.seq (.seq (.region [⟨some 6,.mov (.t 0),none⟩,
 ⟨some 7,.len (.t 6),none⟩,
 ⟨some 8,.mov (.t 1),none⟩,
 ⟨some 9,.len (.t 8),none⟩,
 ⟨some 10,.bin .neq (.t 7) (.t 9),none⟩])
 (.cond (.t 10)
 (.seq (.region [⟨some 4,.mov (.c (.bool false)),none⟩])
 (.ret))
 (.skip)))
 (.seq (.seq (.region [⟨some 5,.mov (.c (.int .i64 0)),none⟩])
 (.block 0 (.loop xMG xWP)))
 (.seq (.region [⟨some 4,.mov (.c (.bool true)),none⟩])
 (.ret)))),
 [.tmp 4]⟩
def a25 : AFunc := ⟨17,
 .seq (.region [⟨some 2,.box (.t 0),none⟩,
 ⟨some 3,.box (.t 1),none⟩,
 ⟨some 4,.mov (.c (.bool false)),none⟩])
 (.seq (.region [⟨some 5,.faddr 0 (.t 2),none⟩,
 ⟨some 6,.load false 1 (.t 5),none⟩,
 ⟨some 7,.faddr 0 (.t 3),none⟩,
 ⟨some 8,.load false 1 (.t 7),none⟩,
 ⟨some 9,.call 65 [(.t 6),(.t 8)],none⟩,
 ⟨some 10,.mov (.t 9),none⟩,
 ⟨some 11,.faddr 1 (.t 2),some (10,true)⟩,
 ⟨some 12,.load false 1 (.t 11),some (10,true)⟩,
 ⟨some 13,.faddr 1 (.t 3),some (10,true)⟩,
 ⟨some 14,.load false 1 (.t 13),some (10,true)⟩,
 ⟨some 15,.call 65 [(.t 12),(.t 14)],some (10,true)⟩,
 ⟨some 16,.pick (.t 10) (.t 15) (.c (.bool false)),none⟩,
 ⟨some 4,.mov (.t 16),none⟩])
 (.ret)),
 [.tmp 4]⟩
def a29 : AFunc := ⟨38,
 .seq (.region [⟨some 2,.box (.t 0),none⟩,
 ⟨some 3,.box (.t 1),none⟩,
 ⟨some 4,.mov (.c (.bool false)),none⟩])
 (.seq (.region [⟨some 5,.faddr 0 (.t 2),none⟩,
 ⟨some 6,.load false 1 (.t 5),none⟩,
 ⟨some 7,.faddr 0 (.t 3),none⟩,
 ⟨some 8,.load false 1 (.t 7),none⟩,
 ⟨some 9,.bin .eql (.t 6) (.t 8),none⟩,
 ⟨some 10,.mov (.t 9),none⟩,
 ⟨some 11,.faddr 1 (.t 2),some (10,true)⟩,
 ⟨some 12,.load false 1 (.t 11),some (10,true)⟩,
 ⟨some 13,.faddr 1 (.t 3),some (10,true)⟩,
 ⟨some 14,.load false 1 (.t 13),some (10,true)⟩,
 ⟨some 15,.bin .eql (.t 12) (.t 14),some (10,true)⟩,
 ⟨some 16,.pick (.t 10) (.t 15) (.c (.bool false)),none⟩,
 ⟨some 17,.mov (.t 16),none⟩,
 ⟨some 18,.faddr 2 (.t 2),some (17,true)⟩,
 ⟨some 19,.load false 1 (.t 18),some (17,true)⟩,
 ⟨some 20,.faddr 2 (.t 3),some (17,true)⟩,
 ⟨some 21,.load false 1 (.t 20),some (17,true)⟩,
 ⟨some 22,.bin .eql (.t 19) (.t 21),some (17,true)⟩,
 ⟨some 23,.pick (.t 17) (.t 22) (.c (.bool false)),none⟩,
 ⟨some 24,.mov (.t 23),none⟩,
 ⟨some 25,.faddr 3 (.t 2),some (24,true)⟩,
 ⟨some 26,.load false 1 (.t 25),some (24,true)⟩,
 ⟨some 27,.faddr 3 (.t 3),some (24,true)⟩,
 ⟨some 28,.load false 1 (.t 27),some (24,true)⟩,
 ⟨some 29,.call 66 [(.t 26),(.t 28)],some (24,true)⟩,
 ⟨some 30,.pick (.t 24) (.t 29) (.c (.bool false)),none⟩,
 ⟨some 31,.mov (.t 30),none⟩,
 ⟨some 32,.faddr 4 (.t 2),some (31,true)⟩,
 ⟨some 33,.load false 1 (.t 32),some (31,true)⟩,
 ⟨some 34,.faddr 4 (.t 3),some (31,true)⟩,
 ⟨some 35,.load false 1 (.t 34),some (31,true)⟩,
 ⟨some 36,.call 67 [(.t 33),(.t 35)],some (31,true)⟩,
 ⟨some 37,.pick (.t 31) (.t 36) (.c (.bool false)),none⟩,
 ⟨some 4,.mov (.t 37),none⟩])
 (.ret)),
 [.tmp 4]⟩
def yAS : ACode :=
 .block 1 (.seq (.seq (.region [⟨some 45,.load true 2 (.t 8),none⟩,
 ⟨some 46,.icall (.c (.func 68 [])) [(.t 9),(.t 45)],none⟩,
 ⟨some 44,.mov (.t 46),none⟩,
 ⟨some 47,.ext 0 (.t 44),none⟩,
 ⟨some 48,.ext 1 (.t 44),none⟩,
 ⟨some 10,.box (.c (.agg [.sl true 0 [],.sl true 0 []])),none⟩,
 ⟨none,.store 2 (.t 10) (.t 47),none⟩,
 ⟨some 11,.mov (.t 48),none⟩])
 (.seq (.region [⟨some 49,.mov (.t 11),none⟩])
 (.cond (.t 49)
 (.seq (.region [⟨some 50,.load true 2 (.t 10),none⟩,
 ⟨none,.store 2 (.t 4) (.t 50),none⟩,
 ⟨some 5,.mov (.c (.int .i64 0)),none⟩])
 (.ret))
 (.skip))))
 (.seq (.region [⟨some 51,.faddr 3 (.t 3),none⟩,
 ⟨some 52,.load false 1 (.t 51),none⟩,
 ⟨some 53,.faddr 1 (.t 8),none⟩,
 ⟨some 54,.load false 1 (.t 53),none⟩,
 ⟨some 55,.iaddr 1 (.t 52) (.t 54),none⟩,
 ⟨some 56,.load false 1 (.t 55),none⟩,
 ⟨some 12,.mov (.t 56),none⟩])
 (.seq (.region [⟨some 57,.faddr 4 (.t 2),none⟩,
 ⟨some 58,.load false 1 (.t 57),none⟩,
 ⟨some 59,.faddr 0 (.t 8),none⟩,
 ⟨some 60,.load false 1 (.t 59),none⟩,
 ⟨some 61,.iaddr 1 (.t 58) (.t 60),none⟩,
 ⟨some 62,.load false 1 (.t 61),none⟩,
 ⟨some 63,.mov (.t 12),none⟩,
 ⟨some 64,.iaddr 1 (.t 62) (.t 63),none⟩,
 ⟨some 65,.load false 1 (.t 64),none⟩,
 ⟨some 13,.mov (.t 65),none⟩])
 (.seq (.draw 4 [⟨some 66,.faddr 1 (.t 9),none⟩,
 ⟨some 67,.load false 1 (.t 66),none⟩,
 ⟨some 68,.mov (.t 12),none⟩,
 ⟨some 69,.mov (.t 13),none⟩,
 ⟨some 70,.faddr 0 (.t 2),none⟩,
 ⟨some 71,.load false 1 (.t 70),none⟩,
 ⟨some 72,.bin .shl (.t 69) (.t 71),none⟩,
 ⟨some 73,.bin .or (.t 68) (.t 72),none⟩,
 ⟨some 74,.bslice true [.int .u8 0] 1 1 [(0,(.t 73))],none⟩,
 ⟨some 75,.append false 1 1 (.t 67) (.t 74),none⟩,
 ⟨some 76,.faddr 1 (.t 9),none⟩,
 ⟨none,.store 1 (.t 76) (.t 75),none⟩])
 (.draw 15 [⟨some 77,.faddr 3 (.t 2),none⟩,
 ⟨some 78,.load false 1 (.t 77),none⟩,
 ⟨some 79,.faddr 0 (.t 8),none⟩,
 ⟨some 80,.load false 1 (.t 79),none⟩,
 ⟨some 81,.iaddr 1 (.t 78) (.t 80),none⟩,
 ⟨some 82,.load false 1 (.t 81),none⟩,
 ⟨some 83,.mov (.t 12),none⟩,
 ⟨some 84,.iaddr 1 (.t 82) (.t 83),none⟩,
 ⟨some 85,.load false 1 (.t 84),none⟩,
 ⟨some 86,.faddr 4 (.t 3),none⟩,
 ⟨some 87,.load false 1 (.t 86),none⟩,
 ⟨some 88,.faddr 1 (.t 8),none⟩,
 ⟨some 89,.load false 1 (.t 88),none⟩,
 ⟨some 90,.iaddr 1 (.t 87) (.t 89),none⟩,
 ⟨some 91,.load false 1 (.t 90),none⟩,
 ⟨some 92,.mov (.t 13),none⟩,
 ⟨some 93,.iaddr 1 (.t 91) (.t 92),none⟩,
 ⟨some 94,.load false 1 (.t 93),none⟩,
 ⟨some 95,.build [.int .i64 0,.int .i64 0] [(0,1,(.t 85)),(1,1,(.t 94))],none⟩,
 ⟨none,.store 2 (.t 8) (.t 95),none⟩])))))
def yCf : ACode := yAS
def yAT : List Nat := [0,1,6,7,10,11,12,13,14,15,16,17,18,19,20,21,22,23,24,25,26,27,28,29,30,31,32,33,34,35,36,37,38,39,40,41,42,43,44,45,46,47,48,49,50,51,52,53,54,55,56,57,58,59,60,61,62,63,64,65,66,67,68,69,70,71,72,73,74,75,76,77,78,79,80,81,82,83,84,85,86,87,88,89,90,91,92,93,94,95]
def a31 : AFunc := ⟨96,
 .seq (.region [⟨some 2,.box (.t 0),none⟩,
 ⟨some 3,.box (.t 1),none⟩,
 ⟨some 4,.box (.c (.agg [.sl true 0 [],.sl true 0 []])),none⟩,
 ⟨some 5,.mov (.c (.int .i64 0)),none⟩])
 (.seq (.seq (.region [⟨some 14,.load true 5 (.t 2),none⟩,
 ⟨some 15,.call 21 [(.t 14)],none⟩,
 ⟨some 6,.mov (.t 15),none⟩])
 (.seq (.region [⟨some 16,.mov (.t 6),none⟩,
 ⟨some 17,.bin .neq (.t 16) (.c (.int .i64 0)),none⟩])
 (.cond (.t 17)
 (.seq (.region [⟨some 18,.build [.sl true 0 [],.sl true 0 []] [],none⟩,
 ⟨some 19,.mov (.t 6),none⟩,
 ⟨none,.store 2 (.t 4) (.t 18),none⟩,
 ⟨some 5,.mov (.t 19),none⟩])
 (.ret))
 (.skip))))
 (.seq (.seq (.region [⟨some 20,.load true 5 (.t 3),none⟩,
 ⟨some 21,.call 33 [(.t 20)],none⟩,
 ⟨some 7,.mov (.t 21),none⟩])
 (.seq (.region [⟨some 22,.mov (.t 7),none⟩,
 ⟨some 23,.bin .neq (.t 22) (.c (.int .i64 0)),none⟩])
 (.cond (.t 23)
 (.seq (.region [⟨some 24,.build [.sl true 0 [],.sl true 0 []] [],none⟩,
 ⟨some 25,.mov (.t 7),none⟩,
 ⟨none,.store 2 (.t 4) (.t 24),none⟩,
 ⟨some 5,.mov (.t 25),none⟩])
 (.ret))
 (.skip))))
 (.seq (.seq (.region [⟨some 26,.faddr 0 (.t 2),none⟩,
 ⟨some 27,.load false 1 (.t 26),none⟩,
 ⟨some 28,.faddr 0 (.t 3),none⟩,
 ⟨some 29,.load false 1 (.t 28),none⟩,
 ⟨some 30,.bin .neq (.t 27) (.t 29),none⟩,
 ⟨some 31,.mov (.t 30),none⟩,
 ⟨some 32,.faddr 1 (.t 2),some (31,false)⟩,
 ⟨some 33,.load false 1 (.t 32),some (31,false)⟩,
 ⟨some 34,.faddr 1 (.t 3),some (31,false)⟩,
 ⟨some 35,.load false 1 (.t 34),some (31,false)⟩,
 ⟨some 36,.bin .neq (.t 33) (.t 35),some (31,false)⟩,
 ⟨some 37,.pick (.t 31) (.c (.bool true)) (.t 36),none⟩])
 (.cond (.t 37)
 (.seq (.region [⟨some 38,.build [.sl true 0 [],.sl true 0 []] [],none⟩,
 ⟨none,.store 2 (.t 4) (.t 38),none⟩,
 ⟨some 5,.mov (.c (.int .i64 16)),none⟩])
 (.ret))
 (.skip)))
 (.seq (.region [⟨some 39,.faddr 2 (.t 2),none⟩,
 ⟨some 40,.load false 1 (.t 39),none⟩,
 ⟨some 41,.faddr 2 (.t 3),none⟩,
 ⟨some 42,.load false 1 (.t 41),none⟩,
 ⟨some 43,.build [.int .i64 0,.int .i64 0] [(0,1,(.t 40)),(1,1,(.t 42))],none⟩,
 ⟨some 8,.box (.c (.agg [.int .i64 0,.int .i64 0])),none⟩,
 ⟨none,.store 2 (.t 8) (.t 43),none⟩])
 (.seq (.region [⟨some 9,.box (.c (.agg [.nilm,.sl true 0 []])),none⟩])
 (.block 0 (.loop yAT yCf))))))),
 [.cell 4 true 2,.tmp 5]⟩
def yAU : ACode :=
 .seq (.region [⟨some 28,.bin .lss (.t 27) (.t 26),none⟩])
 (.seq (.cond (.t 28)
 (.skip)
 (.exit 0))
 (.seq (.block 1 (.seq (.region [⟨some 29,.mov (.t 27),none⟩,
 ⟨some 30,.iaddr 1 (.t 25) (.t 27),none⟩,
 ⟨some 31,.load false 1 (.t 30),none⟩,
 ⟨some 5,.mov (.t 29),none⟩,
 ⟨some 6,.mov (.t 31),none⟩])
 (.block 2 (.seq (.region [⟨some 33,.mov (.t 6),none⟩,
 ⟨some 34,.len (.t 33),none⟩,
 ⟨some 35,.faddr 1 (.t 1),none⟩,
 ⟨some 36,.load false 1 (.t 35),none⟩,
 ⟨some 37,.bin .shl (.c (.int .i64 1)) (.t 36),none⟩,
 ⟨some 38,.bin .neq (.t 34) (.t 37),none⟩,
 ⟨some 32,.mov (.t 38),none⟩])
 (.cond (.t 32)
 (.seq (.region [⟨some 2,.mov (.c (.int .i64 2)),none⟩])
 (.ret))
 (.seq (.region [⟨some 40,.mov (.t 6),none⟩,
 ⟨some 41,.mov (.t 3),none⟩,
 ⟨some 42,.call 60 [(.t 40),(.t 41)],none⟩,
 ⟨some 39,.mov (.t 42),none⟩])
 (.cond (.t 39)
 (.seq (.region [⟨some 2,.mov (.c (.int .i64 8)),none⟩])
 (.ret))
 (.seq (.draw 6 [⟨some 44,.faddr 3 (.t 1),none⟩,
 ⟨some 45,.load false 1 (.t 44),none⟩,
 ⟨some 46,.mov (.t 5),none⟩,
 ⟨some 47,.iaddr 1 (.t 45) (.t 46),none⟩,
 ⟨some 48,.load false 1 (.t 47),none⟩,
 ⟨some 49,.conv .i64 (.t 48),none⟩,
 ⟨some 50,.faddr 0 (.t 1),none⟩,
 ⟨some 51,.load false 1 (.t 50),none⟩,
 ⟨some 52,.bin .shl (.c (.int .i64 1)) (.t 51),none⟩,
 ⟨some 53,.bin .geq (.t 49) (.t 52),none⟩,
 ⟨some 43,.mov (.t 53),none⟩])
 (.cond (.t 43)
 (.seq (.region [⟨some 2,.mov (.c (.int .i64 1)),none⟩])
 (.ret))
 (.skip))))))))))
 (.region [⟨some 54,.bin .add (.t 27) (.c (.int .i64 1)),none⟩,
 ⟨some 27,.mov (.t 54),none⟩])))
def yCg : ACode := yAU
def yAV : List Nat := [0,4,5,6,7,8,9,10,11,12,13,14,15,16,17,18,19,20,21,22,23,24,28,29,30,31,32,33,34,35,36,37,38,39,40,41,42,43,44,45,46,47,48,49,50,51,52,53,54]
def a33 : AFunc := ⟨55,
 .seq (.region [⟨some 1,.box (.t 0),none⟩,
 ⟨some 2,.mov (.c (.int .i64 0)),none⟩])
 (.seq (.region [⟨some 7,.faddr 4 (.t 1),none⟩,
 ⟨some 8,.load false 1 (.t 7),none⟩,
 ⟨some 9,.len (.t 8),none⟩,
 ⟨some 3,.mov (.t 9),none⟩])
 (.seq (.seq (.region [⟨some 10,.faddr 0 (.t 1),none⟩,
 ⟨some 11,.load false 1 (.t 10),none⟩,
 ⟨some 12,.faddr 1 (.t 1),none⟩,
 ⟨some 13,.load false 1 (.t 12),none⟩,
 ⟨some 14,.mov (.t 3),none⟩,
 ⟨some 15,.faddr 3 (.t 1),none⟩,
 ⟨some 16,.load false 1 (.t 15),none⟩,
 ⟨some 17,.len (.t 16),none⟩,
 ⟨some 18,.faddr 2 (.t 1),none⟩,
 ⟨some 19,.load false 1 (.t 18),none⟩,
 ⟨some 20,.call 59 [(.t 11),(.t 13),(.t 14),(.t 17),(.t 19)],none⟩,
 ⟨some 4,.mov (.t 20),none⟩])
 (.seq (.region [⟨some 21,.mov (.t 4),none⟩,
 ⟨some 22,.bin .neq (.t 21) (.c (.int .i64 0)),none⟩])
 (.cond (.t 22)
 (.seq (.region [⟨some 23,.mov (.t 4),none⟩,
 ⟨some 2,.mov (.t 23),none⟩])
 (.ret))
 (.skip))))
 (.seq (.seq (.region [⟨some 24,.faddr 4 (.t 1),none⟩,
 ⟨some 25,.load false 1 (.t 24),none⟩,
 ⟨some 26,.len (.t 25),none⟩,
 ⟨some 27,.mov (.c (.int .i64 0)),none⟩])
 (.block 0 (.loop yAV yCg)))
 (.seq (.region [⟨some 2,.mov (.c (.int .i64 0)),none⟩])
 (.ret))))),
 [.tmp 2]⟩
def xPF : ACode :=
 .seq (.region [⟨some 30,.bin .lss (.t 29) (.t 28),none⟩])
 (.seq (.cond (.t 30)
 (.skip)
 (.exit 0))
 (.seq (.block 1 (.seq (.region [⟨some 31,.mov (.t 29),none⟩,
 ⟨some 32,.iaddr 1 (.t 27) (.t 29),none⟩,
 ⟨some 33,.load false 1 (.t 32),none⟩,
 ⟨some 7,.mov (.t 31),none⟩,
 ⟨some 8,.mov (.t 33),none⟩])
 (.region [⟨some 34,.load false 1 (.t 6),none⟩,
 ⟨some 35,.mov (.t 8),none⟩,
 ⟨some 36,.mov (.t 7),none⟩,
 ⟨some 37,.iaddr 1 (.t 34) (.t 35),none⟩,
 ⟨none,.store 1 (.t 37) (.t 36),none⟩])))
 (.region [⟨some 38,.bin .add (.t 29) (.c (.int .i64 1)),none⟩,
 ⟨some 29,.mov (.t 38),none⟩])))
def xTp : ACode := xPF
def xJt : List Nat := [0,3,4,7,8,9,10,11,12,13,14,15,16,17,18,19,20,21,22,23,24,25,26,30,31,32,33,34,35,36,37,38,39,40,41,42,43,44,45,46,47,48,49,50,51,52,53,54,55,56,57,58,59,60,61,62,63,64,65,66,67,68,69,70,71,72,73,74,75,76,77,78,79,80,81,82,83,84,85,86,87,88,89,90,91,92,93,94,95,96,97,98,99,100,101,102,103,104,105]
abbrev xJu (s1 s2 s5 s6 s27 s28 s29 : AV) : List AV := [.any,s1,s2,.any,.any,s5,s6,.any,.any,.any,.any,.any,.any,.any,.any,.any,.any,.any,.any,.any,.any,.any,.any,.any,.any,.any,.any,s27,s28,s29,.any,.any,.any,.any,.any,.any,.any,.any,.any,.any,.any,.any,.any,.any,.any,.any,.any,.any,.any,.any,.any,.any,.any,.any,.any,.any,.any,.any,.any,.any,.any,.any,.any,.any,.any,.any,.any,.any,.any,.any,.any,.any,.any,.any,.any,.any,.any,.any,.any,.any,.any,.any,.any,.any,.any,.any,.any,.any,.any,.any,.any,.any,.any,.any,.any,.any,.any,.any,.any,.any,.any,.any,.any,.any,.any,.any]
theorem xTq (s0 s1 s2 s3 s4 s5 s6 s7 s8 s9 s10 s11 s12 s13 s14 s15 s16 s17 s18 s19 s20 s21 s22 s23 s24 s25 s26 s27 s28 s29 s30 s31 s32 s33 s34 s35 s36 s37 s38 s39 s40 s41 s42 s43 s44 s45 s46 s47 s48 s49 s50 s51 s52 s53 s54 s55 s56 s57 s58 s59 s60 s61 s62 s63 s64 s65 s66 s67 s68 s69 s70 s71 s72 s73 s74 s75 s76 s77 s78 s79 s80 s81 s82 s83 s84 s85 s86 s87 s88 s89 s90 s91 s92 s93 s94 s95 s96 s97 s98 s99 s100 s101 s102 s103 s104 s105 : AV) : xAM xJt [s0,s1,s2,s3,s4,s5,s6,s7,s8,s9,s10,s11,s12,s13,s14,s15,s16,s17,s18,s19,s20,s21,s22,s23,s24,s25,s26,s27,s28,s29,s30,s31,s32,s33,s34,s35,s36,s37,s38,s39,s40,s41,s42,s43,s44,s45,s46,s47,s48,s49,s50,s51,s52,s53,s54,s55,s56,s57,s58,s59,s60,s61,s62,s63,s64,s65,s66,s67,s68,s69,s70,s71,s72,s73,s74,s75,s76,s77,s78,s79,s80,s81,s82,s83,s84,s85,s86,s87,s88,s89,s90,s91,s92,s93,s94,s95,s96,s97,s98,s99,s100,s101,s102,s103,s104,s105] = xJu s1 s2 s5 s6 s27 s28 s29 := by kernel_rfl
theorem xXY {prog : Nat → Option AFunc} (s1 s2 s5 s6 s27 s28 s29 : AV) (H : Heap) : (lim prog).loop xJt xTp ⟨xJu s1 s2 s5 s6 s27 s28 s29,H⟩ = xBT (lim prog) xJt xTp (run (lim prog) xPF ⟨xJu s1 s2 s5 s6 s27 s28 s29,H⟩) := xAo _ _ _ _ (by kernel_rfl)
def xPG : ACode :=
 .seq (.region [⟨some 72,.bin .lss (.t 71) (.t 70),none⟩])
 (.seq (.cond (.t 72)
 (.skip)
 (.exit 4))
 (.seq (.block 5 (.seq (.region [⟨some 73,.mov (.t 71),none⟩,
 ⟨some 74,.iaddr 1 (.t 69) (.t 71),none⟩,
 ⟨some 75,.load false 1 (.t 74),none⟩,
 ⟨some 14,.mov (.t 73),none⟩,
 ⟨some 15,.mov (.t 75),none⟩])
 (.region [⟨some 77,.mov (.t 13),none⟩,
 ⟨some 78,.mov (.t 14),none⟩,
 ⟨some 79,.load false 1 (.t 5),none⟩,
 ⟨some 80,.mov (.t 15),none⟩,
 ⟨some 81,.iaddr 1 (.t 79) (.t 80),none⟩,
 ⟨some 82,.load false 1 (.t 81),none⟩,
 ⟨some 83,.icall (.c (.func 70 [])) [(.t 9),(.t 82)],none⟩,
 ⟨some 76,.mov (.t 83),none⟩,
 ⟨some 84,.ext 0 (.t 76),none⟩,
 ⟨some 85,.ext 1 (.t 76),none⟩,
 ⟨some 86,.iaddr 1 (.t 77) (.t 78),none⟩,
 ⟨none,.store 1 (.t 86) (.t 84),none⟩])))
 (.region [⟨some 87,.bin .add (.t 71) (.c (.int .i64 1)),none⟩,
 ⟨some 71,.mov (.t 87),none⟩])))
def xTr : ACode := xPG
def xJv : List Nat := [0,3,4,6,7,8,10,11,14,15,16,17,18,19,20,21,22,23,24,25,26,27,28,29,30,31,32,33,34,35,36,37,38,39,40,41,42,43,44,45,46,47,48,49,50,51,52,53,54,55,56,57,58,59,60,61,62,63,64,65,66,67,68,72,73,74,75,76,77,78,79,80,81,82,83,84,85,86,87,88,89,90,91,92,93,94,95,96,97,98,99,100,101,102,103,104,105]
abbrev xJw (s1 s2 s5 s9 s12 s13 s69 s70 s71 : AV) : List AV := [.any,s1,s2,.any,.any,s5,.any,.any,.any,s9,.any,.any,s12,s13,.any,.any,.any,.any,.any,.any,.any,.any,.any,.any,.any,.any,.any,.any,.any,.any,.any,.any,.any,.any,.any,.any,.any,.any,.any,.any,.any,.any,.any,.any,.any,.any,.any,.any,.any,.any,.any,.any,.any,.any,.any,.any,.any,.any,.any,.any,.any,.any,.any,.any,.any,.any,.any,.any,.any,s69,s70,s71,.any,.any,.any,.any,.any,.any,.any,.any,.any,.any,.any,.any,.any,.any,.any,.any,.any,.any,.any,.any,.any,.any,.any,.any,.any,.any,.any,.any,.any,.any,.any,.any,.any,.any]
theorem xPH (s0 s1 s2 s3 s4 s5 s6 s7 s8 s9 s10 s11 s12 s13 s14 s15 s16 s17 s18 s19 s20 s21 s22 s23 s24 s25 s26 s27 s28 s29 s30 s31 s32 s33 s34 s35 s36 s37 s38 s39 s40 s41 s42 s43 s44 s45 s46 s47 s48 s49 s50 s51 s52 s53 s54 s55 s56 s57 s58 s59 s60 s61 s62 s63 s64 s65 s66 s67 s68 s69 s70 s71 s72 s73 s74 s75 s76 s77 s78 s79 s80 s81 s82 s83 s84 s85 s86 s87 s88 s89 s90 s91 s92 s93 s94 s95 s96 s97 s98 s99 s100 s101 s102 s103 s104 s105 : AV) : xAM xJv [s0,s1,s2,s3,s4,s5,s6,s7,s8,s9,s10,s11,s12,s13,s14,s15,s16,s17,s18,s19,s20,s21,s22,s23,s24,s25,s26,s27,s28,s29,s30,s31,s32,s33,s34,s35,s36,s37,s38,s39,s40,s41,s42,s43,s44,s45,s46,s47,s48,s49,s50,s51,s52,s53,s54,s55,s56,s57,s58,s59,s60,s61,s62,s63,s64,s65,s66,s67,s68,s69,s70,s71,s72,s73,s74,s75,s76,s77,s78,s79,s80,s81,s82,s83,s84,s85,s86,s87,s88,s89,s90,s91,s92,s93,s94,s95,s96,s97,s98,s99,s100,s101,s102,s103,s104,s105] = xJw s1 s2 s5 s9 s12 s13 s69 s70 s71 := by kernel_rfl
theorem xXZ {prog : Nat → Option AFunc} (s1 s2 s5 s9 s12 s13 s69 s70 s71 : AV) (H : Heap) : (lim prog).loop xJv xTr ⟨xJw s1 s2 s5 s9 s12 s13 s69 s70 s71,H⟩ = xBT (lim prog) xJv xTr (run (lim prog) xPG ⟨xJw s1 s2 s5 s9 s12 s13 s69 s70 s71,H⟩) := xAo _ _ _ _ (by kernel_rfl)
def xLr : ACode :=
 .region [⟨some 11,.mov (.t 53),none⟩]
def xPI : ACode :=
 .block 3 (.seq (.region [⟨some 54,.load false 1 (.t 6),none⟩,
 ⟨some 55,.mov (.t 11),none⟩,
 ⟨some 56,.iaddr 1 (.t 54) (.t 55),none⟩,
 ⟨some 57,.load false 1 (.t 56),none⟩,
 ⟨some 12,.mov (.t 57),none⟩])
 (.seq (.region [⟨some 58,.faddr 3 (.t 1),none⟩,
 ⟨some 59,.load false 1 (.t 58),none⟩,
 ⟨some 60,.mov (.t 12),none⟩,
 ⟨some 61,.iaddr 1 (.t 59) (.t 60),none⟩,
 ⟨some 62,.load false 1 (.t 61),none⟩,
 ⟨some 63,.len (.t 62),none⟩,
 ⟨some 64,.mkslice false [.int .i64 0] 8 (.t 63) (.t 63),none⟩,
 ⟨some 13,.mov (.t 64),none⟩])
 (.seq (.seq (.region [⟨some 65,.faddr 3 (.t 1),none⟩,
 ⟨some 66,.load false 1 (.t 65),none⟩,
 ⟨some 67,.mov (.t 12),none⟩,
 ⟨some 68,.iaddr 1 (.t 66) (.t 67),none⟩,
 ⟨some 69,.load false 1 (.t 68),none⟩,
 ⟨some 70,.len (.t 69),none⟩,
 ⟨some 71,.mov (.c (.int .i64 0)),none⟩])
 (.block 4 (.loop xJv xTr)))
 (.fzs 13 (.drawh [(93,(1,13))] [] [(93,(1,(89,0))),(95,(1,(89,0))),(98,(1,(89,0)))] 11 [⟨some 88,.faddr 3 (.t 2),none⟩,
 ⟨some 89,.load false 1 (.t 88),none⟩,
 ⟨some 90,.mov (.t 13),none⟩,
 ⟨some 91,.dslice [.sl true 0 []] 1 1 [(0,(.t 90))],none⟩,
 ⟨some 93,.faddr 4 (.t 2),none⟩,
 ⟨some 94,.load false 1 (.t 93),none⟩,
 ⟨some 95,.faddr 4 (.t 1),none⟩,
 ⟨some 96,.load false 1 (.t 95),none⟩,
 ⟨some 97,.mov (.t 12),none⟩,
 ⟨some 98,.iaddr 1 (.t 96) (.t 97),none⟩,
 ⟨some 99,.load false 1 (.t 98),none⟩,
 ⟨some 92,.append false 1 24 (.t 89) (.t 91),none⟩,
 ⟨some 103,.faddr 3 (.t 2),none⟩,
 ⟨some 100,.call 72 [(.t 99)],none⟩,
 ⟨some 101,.dslice [.sl true 0 []] 1 1 [(0,(.t 100))],none⟩,
 ⟨some 102,.append false 1 24 (.t 94) (.t 101),none⟩,
 ⟨none,.store 1 (.t 103) (.t 92),none⟩,
 ⟨some 104,.faddr 4 (.t 2),none⟩,
 ⟨none,.store 1 (.t 104) (.t 102),none⟩])))))
def xTs : ACode := xLr
def xZt : ACode := xPI
theorem xTt (R : Rec) (s : St) : run R xTs s = run R xLr s := rfl
theorem xX0 (R : Rec) (s : St) : run R xZt s = run R xPI s := rfl
def a35 : AFunc := ⟨106,
 .seq (.region [⟨some 1,.box (.t 0),none⟩,
 ⟨some 2,.box (.c (.agg [.int .i64 0,.int .i64 0,.int .i64 0,.sl true 0 [],.sl true 0 []])),none⟩,
 ⟨some 3,.mov (.c (.int .i64 0)),none⟩])
 (.seq (.seq (.region [⟨some 16,.load true 5 (.t 1),none⟩,
 ⟨some 17,.call 21 [(.t 16)],none⟩,
 ⟨some 4,.mov (.t 17),none⟩])
 (.seq (.region [⟨some 18,.mov (.t 4),none⟩,
 ⟨some 19,.bin .neq (.t 18) (.c (.int .i64 0)),none⟩])
 (.cond (.t 19)
 (.seq (.region [⟨some 20,.load true 5 (.t 2),none⟩,
 ⟨some 21,.mov (.t 4),none⟩,
 ⟨none,.store 5 (.t 2) (.t 20),none⟩,
 ⟨some 3,.mov (.t 21),none⟩])
 (.ret))
 (.skip))))
 (.seq (.region [⟨some 22,.load true 5 (.t 1),none⟩,
 ⟨some 23,.call 69 [(.t 22)],none⟩,
 ⟨some 5,.box (.c (.sl true 0 [])),none⟩,
 ⟨none,.store 1 (.t 5) (.t 23),none⟩])
 (.seq (.region [⟨some 24,.load false 1 (.t 5),none⟩,
 ⟨some 25,.len (.t 24),none⟩,
 ⟨some 26,.mkslice false [.int .i64 0] 8 (.t 25) (.t 25),none⟩,
 ⟨some 6,.box (.c (.sl true 0 [])),none⟩,
 ⟨none,.store 1 (.t 6) (.t 26),none⟩])
 (.seq (.seq (.region [⟨some 27,.load false 1 (.t 5),none⟩,
 ⟨some 28,.len (.t 27),none⟩,
 ⟨some 29,.mov (.c (.int .i64 0)),none⟩])
 (.block 0 (.loop xJt xTp)))
 (.seq (.drawl [(41,(1,(43,1)))] 4 [⟨some 39,.faddr 0 (.t 1),none⟩,
 ⟨some 40,.load false 1 (.t 39),none⟩,
 ⟨some 41,.faddr 1 (.t 1),none⟩,
 ⟨some 42,.load false 1 (.t 41),none⟩,
 ⟨some 43,.faddr 0 (.t 2),none⟩,
 ⟨none,.store 1 (.t 43) (.t 40),none⟩,
 ⟨some 44,.faddr 1 (.t 2),none⟩,
 ⟨none,.store 1 (.t 44) (.t 42),none⟩])
 (.seq (.region [⟨some 9,.box (.c (.agg [.nilm,.sl true 0 []])),none⟩])
 (.seq (.region [⟨some 45,.load false 1 (.t 5),none⟩,
 ⟨some 46,.faddr 2 (.t 1),none⟩,
 ⟨some 47,.load false 1 (.t 46),none⟩,
 ⟨some 48,.iaddr 1 (.t 45) (.t 47),none⟩,
 ⟨some 49,.load false 1 (.t 48),none⟩,
 ⟨some 50,.icall (.c (.func 70 [])) [(.t 9),(.t 49)],none⟩])
 (.seq (.seq (.region [⟨some 51,.icall (.c (.func 71 [])) [(.t 9)],none⟩])
 (.block 2 (.range (.t 51) [52,53] xTs xZt)))
 (.seq (.region [⟨some 105,.load true 5 (.t 2),none⟩,
 ⟨none,.store 5 (.t 2) (.t 105),none⟩,
 ⟨some 3,.mov (.c (.int .i64 0)),none⟩])
 (.ret)))))))))),
 [.cell 2 true 5,.tmp 3]⟩
def xHs : ACode :=
 .seq (.region [⟨some 23,.bin .lss (.t 22) (.t 21),none⟩])
 (.seq (.cond (.t 23)
 (.skip)
 (.exit 0))
 (.seq (.block 1 (.seq (.region [⟨some 24,.iaddr 5 (.t 20) (.t 22),none⟩,
 ⟨some 25,.load true 5 (.t 24),none⟩,
 ⟨some 8,.box (.c (.agg [.int .i64 0,.int .i64 0,.int .i64 0,.sl true 0 [],.sl true 0 []])),none⟩,
 ⟨none,.store 5 (.t 8) (.t 25),none⟩])
 (.seq (.region [⟨some 26,.load true 5 (.t 8),none⟩,
 ⟨some 27,.call 21 [(.t 26)],none⟩,
 ⟨some 9,.mov (.t 27),none⟩])
 (.seq (.region [⟨some 28,.mov (.t 9),none⟩,
 ⟨some 29,.bin .neq (.t 28) (.c (.int .i64 0)),none⟩])
 (.cond (.t 29)
 (.seq (.region [⟨some 30,.mov (.t 9),none⟩,
 ⟨none,.store 1 (.t 4) (.c (.sl true 0 [])),none⟩,
 ⟨none,.store 1 (.t 5) (.c (.bool false)),none⟩,
 ⟨none,.store 1 (.t 6) (.t 30),none⟩])
 (.ret))
 (.skip))))))
 (.region [⟨some 31,.bin .add (.t 22) (.c (.int .i64 1)),none⟩,
 ⟨some 22,.mov (.t 31),none⟩])))
def xZu : ACode := xHs
def xPJ : List Nat := [0,1,7,8,9,10,11,12,13,14,15,16,17,18,19,23,24,25,26,27,28,29,30,31,32,33,34,35,36,37,38,39,40,41,42,43,44,45,46,47,48,49,50,51,52,53,54,55,56,57,58,59,60,61,62,63,64,65,66,67,68,69,70,71,72,73,74,75,76,77,78,79,80,81,82,83,84,85,86,87,88,89,90,91,92,93,94,95,96,97,98,99,100,101,102,103,104,105,106,107,108,109,110,111,112,113,114,115,116,117]
abbrev xTu (s2 s3 s4 s5 s6 s20 s21 s22 : AV) : List AV := [.any,.any,s2,s3,s4,s5,s6,.any,.any,.any,.any,.any,.any,.any,.any,.any,.any,.any,.any,.any,s20,s21,s22,.any,.any,.any,.any,.any,.any,.any,.any,.any,.any,.any,.any,.any,.any,.any,.any,.any,.any,.any,.any,.any,.any,.any,.any,.any,.any,.any,.any,.any,.any,.any,.any,.any,.any,.any,.any,.any,.any,.any,.any,.any,.any,.any,.any,.any,.any,.any,.any,.any,.any,.any,.any,.any,.any,.any,.any,.any,.any,.any,.any,.any,.any,.any,.any,.any,.any,.any,.any,.any,.any,.any,.any,.any,.any,.any,.any,.any,.any,.any,.any,.any,.any,.any,.any,.any,.any,.any,.any,.any,.any,.any,.any,.any,.any,.any]
theorem xMH (s0 s1 s2 s3 s4 s5 s6 s7 s8 s9 s10 s11 s12 s13 s14 s15 s16 s17 s18 s19 s20 s21 s22 s23 s24 s25 s26 s27 s28 s29 s30 s31 s32 s33 s34 s35 s36 s37 s38 s39 s40 s41 s42 s43 s44 s45 s46 s47 s48 s49 s50 s51 s52 s53 s54 s55 s56 s57 s58 s59 s60 s61 s62 s63 s64 s65 s66 s67 s68 s69 s70 s71 s72 s73 s74 s75 s76 s77 s78 s79 s80 s81 s82 s83 s84 s85 s86 s87 s88 s89 s90 s91 s92 s93 s94 s95 s96 s97 s98 s99 s100 s101 s102 s103 s104 s105 s106 s107 s108 s109 s110 s111 s112 s113 s114 s115 s116 s117 : AV) : xAM xPJ [s0,s1,s2,s3,s4,s5,s6,s7,s8,s9,s10,s11,s12,s13,s14,s15,s16,s17,s18,s19,s20,s21,s22,s23,s24,s25,s26,s27,s28,s29,s30,s31,s32,s33,s34,s35,s36,s37,s38,s39,s40,s41,s42,s43,s44,s45,s46,s47,s48,s49,s50,s51,s52,s53,s54,s55,s56,s57,s58,s59,s60,s61,s62,s63,s64,s65,s66,s67,s68,s69,s70,s71,s72,s73,s74,s75,s76,s77,s78,s79,s80,s81,s82,s83,s84,s85,s86,s87,s88,s89,s90,s91,s92,s93,s94,s95,s96,s97,s98,s99,s100,s101,s102,s103,s104,s105,s106,s107,s108,s109,s110,s111,s112,s113,s114,s115,s116,s117] = xTu s2 s3 s4 s5 s6 s20 s21 s22 := by kernel_rfl
theorem xMI {prog : Nat → Option AFunc} (s2 s3 s4 s5 s6 s20 s21 s22 : AV) (H : Heap) : (lim prog).loop xPJ xZu ⟨xTu s2 s3 s4 s5 s6 s20 s21 s22,H⟩ = xBT (lim prog) xPJ xZu (run (lim prog) xHs ⟨xTu s2 s3 s4 s5 s6 s20 s21 s22,H⟩) := xAo _ _ _ _ (by kernel_rfl)
def xJx : ACode :=
 .seq (.region [⟨some 58,.bin .lss (.t 57) (.t 56),none⟩])
 (.seq (.cond (.t 58)
 (.skip)
 (.exit 4))
 (.seq (.block 5 (.seq (.region [⟨some 59,.mov (.t 57),none⟩,
 ⟨some 14,.mov (.t 59),none⟩])
 (.seq (.region [⟨some 60,.load false 1 (.t 11),none⟩,
 ⟨some 61,.mov (.t 12),none⟩,
 ⟨some 62,.iaddr 1 (.t 60) (.t 61),none⟩,
 ⟨some 63,.load false 1 (.t 62),none⟩,
 ⟨some 64,.mov (.t 14),none⟩,
 ⟨some 65,.conv .u8 (.t 64),none⟩,
 ⟨some 66,.bslice true [.int .u8 0] 1 1 [(0,(.t 65))],none⟩,
 ⟨some 67,.bslice true [.sl true 0 []] 1 2 [(0,(.t 63)),(1,(.t 66))],none⟩,
 ⟨some 68,.call 76 [(.t 67)],none⟩,
 ⟨some 15,.mov (.t 68),none⟩])
 (.seq (.seq (.draw 15 [⟨some 69,.faddr 4 (.t 2),none⟩,
 ⟨some 70,.load false 1 (.t 69),none⟩,
 ⟨some 71,.arrat 1 2 (.t 13) (.c (.int .i64 0)),none⟩,
 ⟨some 72,.load false 1 (.t 71),none⟩,
 ⟨some 73,.iaddr 1 (.t 70) (.t 72),none⟩,
 ⟨some 74,.load false 1 (.t 73),none⟩,
 ⟨some 75,.mov (.t 14),none⟩,
 ⟨some 76,.iaddr 1 (.t 74) (.t 75),none⟩,
 ⟨some 77,.load false 1 (.t 76),none⟩,
 ⟨some 78,.faddr 4 (.t 3),none⟩,
 ⟨some 79,.load false 1 (.t 78),none⟩,
 ⟨some 80,.arrat 1 2 (.t 13) (.c (.int .i64 1)),none⟩,
 ⟨some 81,.load false 1 (.t 80),none⟩,
 ⟨some 82,.iaddr 1 (.t 79) (.t 81),none⟩,
 ⟨some 83,.load false 1 (.t 82),none⟩,
 ⟨some 84,.mov (.t 14),none⟩,
 ⟨some 85,.iaddr 1 (.t 83) (.t 84),none⟩,
 ⟨some 86,.load false 1 (.t 85),none⟩,
 ⟨some 87,.bin .neq (.t 77) (.t 86),none⟩])
 (.cond (.t 87)
 (.seq (.region [⟨some 88,.mov (.t 15),none⟩,
 ⟨none,.store 1 (.t 4) (.t 88),none⟩,
 ⟨none,.store 1 (.t 5) (.c (.bool false)),none⟩,
 ⟨none,.store 1 (.t 6) (.c (.int .i64 0)),none⟩])
 (.ret))
 (.skip)))
 (.seq (.draw 15 [⟨some 90,.faddr 3 (.t 2),none⟩,
 ⟨some 91,.load false 1 (.t 90),none⟩,
 ⟨some 92,.arrat 1 2 (.t 13) (.c (.int .i64 0)),none⟩,
 ⟨some 93,.load false 1 (.t 92),none⟩,
 ⟨some 94,.iaddr 1 (.t 91) (.t 93),none⟩,
 ⟨some 95,.load false 1 (.t 94),none⟩,
 ⟨some 96,.mov (.t 14),none⟩,
 ⟨some 97,.iaddr 1 (.t 95) (.t 96),none⟩,
 ⟨some 98,.load false 1 (.t 97),none⟩,
 ⟨some 99,.faddr 3 (.t 3),none⟩,
 ⟨some 100,.load false 1 (.t 99),none⟩,
 ⟨some 101,.arrat 1 2 (.t 13) (.c (.int .i64 1)),none⟩,
 ⟨some 102,.load false 1 (.t 101),none⟩,
 ⟨some 103,.iaddr 1 (.t 100) (.t 102),none⟩,
 ⟨some 104,.load false 1 (.t 103),none⟩,
 ⟨some 105,.mov (.t 14),none⟩,
 ⟨some 106,.iaddr 1 (.t 104) (.t 105),none⟩,
 ⟨some 107,.load false 1 (.t 106),none⟩,
 ⟨some 108,.build [.int .i64 0,.int .i64 0] [(0,1,(.t 98)),(1,1,(.t 107))],none⟩,
 ⟨some 109,.icall (.c (.func 74 [])) [(.t 10),(.t 108)],none⟩,
 ⟨some 89,.mov (.t 109),none⟩,
 ⟨some 110,.ext 0 (.t 89),none⟩,
 ⟨some 111,.ext 1 (.t 89),none⟩,
 ⟨some 16,.mov (.t 110),none⟩,
 ⟨some 17,.mov (.t 111),none⟩])
 (.seq (.region [⟨some 112,.mov (.t 17),none⟩])
 (.cond (.t 112)
 (.region [⟨some 113,.load false 1 (.t 11),none⟩,
 ⟨some 114,.mov (.t 15),none⟩,
 ⟨some 115,.bslice true [.sl true 0 []] 1 1 [(0,(.t 114))],none⟩,
 ⟨some 116,.append false 1 24 (.t 113) (.t 115),none⟩,
 ⟨none,.store 1 (.t 11) (.t 116),none⟩])
 (.skip))))))))
 (.region [⟨some 117,.bin .add (.t 57) (.c (.int .i64 1)),none⟩,
 ⟨some 57,.mov (.t 117),none⟩])))
def xFI : ACode := xJx
def xCT : List Nat := [0,1,7,8,9,14,15,16,17,18,19,20,21,22,23,24,25,26,27,28,29,30,31,32,33,34,35,36,37,38,39,40,41,42,43,44,45,46,47,48,49,50,51,52,53,54,55,58,59,60,61,62,63,64,65,66,67,68,69,70,71,72,73,74,75,76,77,78,79,80,81,82,83,84,85,86,87,88,89,90,91,92,93,94,95,96,97,98,99,100,101,102,103,104,105,106,107,108,109,110,111,112,113,114,115,116,117]
abbrev xJy (s2 s3 s4 s5 s6 s10 s11 s12 s13 s56 s57 : AV) : List AV := [.any,.any,s2,s3,s4,s5,s6,.any,.any,.any,s10,s11,s12,s13,.any,.any,.any,.any,.any,.any,.any,.any,.any,.any,.any,.any,.any,.any,.any,.any,.any,.any,.any,.any,.any,.any,.any,.any,.any,.any,.any,.any,.any,.any,.any,.any,.any,.any,.any,.any,.any,.any,.any,.any,.any,.any,s56,s57,.any,.any,.any,.any,.any,.any,.any,.any,.any,.any,.any,.any,.any,.any,.any,.any,.any,.any,.any,.any,.any,.any,.any,.any,.any,.any,.any,.any,.any,.any,.any,.any,.any,.any,.any,.any,.any,.any,.any,.any,.any,.any,.any,.any,.any,.any,.any,.any,.any,.any,.any,.any,.any,.any,.any,.any,.any,.any,.any,.any]
theorem xJz (s0 s1 s2 s3 s4 s5 s6 s7 s8 s9 s10 s11 s12 s13 s14 s15 s16 s17 s18 s19 s20 s21 s22 s23 s24 s25 s26 s27 s28 s29 s30 s31 s32 s33 s34 s35 s36 s37 s38 s39 s40 s41 s42 s43 s44 s45 s46 s47 s48 s49 s50 s51 s52 s53 s54 s55 s56 s57 s58 s59 s60 s61 s62 s63 s64 s65 s66 s67 s68 s69 s70 s71 s72 s73 s74 s75 s76 s77 s78 s79 s80 s81 s82 s83 s84 s85 s86 s87 s88 s89 s90 s91 s92 s93 s94 s95 s96 s97 s98 s99 s100 s101 s102 s103 s104 s105 s106 s107 s108 s109 s110 s111 s112 s113 s114 s115 s116 s117 : AV) : xAM xCT [s0,s1,s2,s3,s4,s5,s6,s7,s8,s9,s10,s11,s12,s13,s14,s15,s16,s17,s18,s19,s20,s21,s22,s23,s24,s25,s26,s27,s28,s29,s30,s31,s32,s33,s34,s35,s36,s37,s38,s39,s40,s41,s42,s43,s44,s45,s46,s47,s48,s49,s50,s51,s52,s53,s54,s55,s56,s57,s58,s59,s60,s61,s62,s63,s64,s65,s66,s67,s68,s69,s70,s71,s72,s73,s74,s75,s76,s77,s78,s79,s80,s81,s82,s83,s84,s85,s86,s87,s88,s89,s90,s91,s92,s93,s94,s95,s96,s97,s98,s99,s100,s101,s102,s103,s104,s105,s106,s107,s108,s109,s110,s111,s112,s113,s114,s115,s116,s117] = xJy s2 s3 s4 s5 s6 s10 s11 s12 s13 s56 s57 := by kernel_rfl
theorem xPK {prog : Nat → Option AFunc} (s2 s3 s4 s5 s6 s10 s11 s12 s13 s56 s57 : AV) (H : Heap) : (lim prog).loop xCT xFI ⟨xJy s2 s3 s4 s5 s6 s10 s11 s12 s13 s56 s57,H⟩ = xBT (lim prog) xCT xFI (run (lim prog) xJx ⟨xJy s2 s3 s4 s5 s6 s10 s11 s12 s13 s56 s57,H⟩) := xAo _ _ _ _ (by kernel_rfl)
def xLs : ACode :=
 .seq (.region [⟨some 12,.mov (.t 52),none⟩])
 (.region [⟨some 13,.box (.c (.agg [.int .i64 0,.int .i64 0])),none⟩,
 ⟨none,.store 2 (.t 13) (.t 53),none⟩])
def xPL : ACode :=
 .block 3 (.seq (.region [⟨some 54,.faddr 0 (.t 2),none⟩,
 ⟨some 55,.load false 1 (.t 54),none⟩,
 ⟨some 56,.bin .shl (.c (.int .i64 1)) (.t 55),none⟩,
 ⟨some 57,.mov (.c (.int .i64 0)),none⟩])
 (.block 4 (.loop xCT xFI)))
def xTv : ACode := xLs
def xZv : ACode := xPL
theorem xTw (R : Rec) (s : St) : run R xTv s = run R xLs s := rfl
theorem xX1 (R : Rec) (s : St) : run R xZv s = run R xPL s := rfl
def a37 : AFunc := ⟨118,
 .seq (.region [⟨some 2,.box (.t 0),none⟩,
 ⟨some 3,.box (.t 1),none⟩,
 ⟨some 4,.box (.c (.sl true 0 [])),none⟩,
 ⟨some 5,.box (.c (.bool false)),none⟩,
 ⟨some 6,.box (.c (.int .i64 0)),none⟩])
 (.seq (.seq (.region [⟨some 18,.load true 5 (.t 2),none⟩,
 ⟨some 19,.load true 5 (.t 3),none⟩,
 ⟨some 20,.bslice true [.int .i64 0,.int .i64 0,.int .i64 0,.sl true 0 [],.sl true 0 []] 5 2 [(0,(.t 18)),(1,(.t 19))],none⟩,
 ⟨some 21,.len (.t 20),none⟩,
 ⟨some 22,.mov (.c (.int .i64 0)),none⟩])
 (.block 0 (.loop xPJ xZu)))
 (.seq (.seq (.region [⟨some 32,.faddr 0 (.t 2),none⟩,
 ⟨some 33,.load false 1 (.t 32),none⟩,
 ⟨some 34,.faddr 0 (.t 3),none⟩,
 ⟨some 35,.load false 1 (.t 34),none⟩,
 ⟨some 36,.bin .neq (.t 33) (.t 35),none⟩,
 ⟨some 37,.mov (.t 36),none⟩,
 ⟨some 38,.faddr 1 (.t 2),some (37,false)⟩,
 ⟨some 39,.load false 1 (.t 38),some (37,false)⟩,
 ⟨some 40,.faddr 1 (.t 3),some (37,false)⟩,
 ⟨some 41,.load false 1 (.t 40),some (37,false)⟩,
 ⟨some 42,.bin .neq (.t 39) (.t 41),some (37,false)⟩,
 ⟨some 43,.pick (.t 37) (.c (.bool true)) (.t 42),none⟩])
 (.cond (.t 43)
 (.seq (.region [⟨none,.store 1 (.t 4) (.c (.sl true 0 [])),none⟩,
 ⟨none,.store 1 (.t 5) (.c (.bool false)),none⟩,
 ⟨none,.store 1 (.t 6) (.c (.int .i64 7)),none⟩])
 (.ret))
 (.skip)))
 (.seq (.region [⟨some 10,.box (.c (.agg [.nilm,.sl true 0 []])),none⟩])
 (.seq (.region [⟨some 44,.faddr 2 (.t 2),none⟩,
 ⟨some 45,.load false 1 (.t 44),none⟩,
 ⟨some 46,.faddr 2 (.t 3),none⟩,
 ⟨some 47,.load false 1 (.t 46),none⟩,
 ⟨some 48,.build [.int .i64 0,.int .i64 0] [(0,1,(.t 45)),(1,1,(.t 47))],none⟩,
 ⟨some 49,.icall (.c (.func 74 [])) [(.t 10),(.t 48)],none⟩])
 (.seq (.region [⟨some 50,.bslice false [.sl true 0 []] 1 1 [(0,(.c (.sl true 0 [])))],none⟩,
 ⟨some 11,.box (.c (.sl true 0 [])),none⟩,
 ⟨none,.store 1 (.t 11) (.t 50),none⟩])
 (.seq (.seq (.region [⟨some 51,.icall (.c (.func 75 [])) [(.t 10)],none⟩])
 (.block 2 (.range (.t 51) [52,53] xTv xZv)))
 (.seq (.region [⟨none,.store 1 (.t 4) (.c (.sl true 0 [])),none⟩,
 ⟨none,.store 1 (.t 5) (.c (.bool true)),none⟩,
 ⟨none,.store 1 (.t 6) (.c (.int .i64 0)),none⟩])
 (.ret)))))))),
 [.cell 4 false 1,.cell 5 false 1,.cell 6 false 1]⟩
def a42 : AFunc := ⟨5,
 .seq (.region [⟨some 0,.box (.c (.agg [.int .i64 0,.int .i64 0,.int .i64 0,.sl true 0 [],.sl true 0 []])),none⟩])
 (.seq (.region [⟨some 1,.bslice true [.int .u8 0] 1 1 [(0,(.c (.int .u8 1)))],none⟩,
 ⟨some 2,.bslice true [.int .i64 0] 1 2 [(0,(.c (.int .i64 0))),(1,(.c (.int .i64 0)))],none⟩,
 ⟨some 3,.bslice true [.sl true 0 []] 1 1 [(0,(.t 2))],none⟩,
 ⟨some 4,.build [.int .i64 0,.int .i64 0,.int .i64 0,.sl true 0 [],.sl true 0 []] [(0,1,(.c (.int .i64 1))),(1,1,(.c (.int .i64 1))),(3,1,(.t 1)),(4,1,(.t 3))],none⟩,
 ⟨none,.store 5 (.t 0) (.t 4),none⟩])
 (.ret)),
 [.cell 0 true 5]⟩
def a43 : AFunc := ⟨6,
 .seq (.region [⟨some 0,.box (.c (.agg [.int .i64 0,.int .i64 0,.int .i64 0,.sl true 0 [],.sl true 0 []])),none⟩])
 (.seq (.region [⟨some 1,.bslice true [.int .i64 0] 1 2 [(0,(.c (.int .i64 0))),(1,(.c (.int .i64 0)))],none⟩,
 ⟨some 2,.bslice true [.sl true 0 []] 1 1 [(0,(.t 1))],none⟩,
 ⟨some 3,.bslice true [.int .u8 0] 1 2 [(0,(.c (.int .u8 1))),(1,(.c (.int .u8 0)))],none⟩,
 ⟨some 4,.bslice true [.sl true 0 []] 1 1 [(0,(.t 3))],none⟩,
 ⟨some 5,.build [.int .i64 0,.int .i64 0,.int .i64 0,.sl true 0 [],.sl true 0 []] [(0,1,(.c (.int .i64 1))),(1,1,(.c (.int .i64 1))),(3,1,(.t 2)),(4,1,(.t 4))],none⟩,
 ⟨none,.store 5 (.t 0) (.t 5),none⟩])
 (.ret)),
 [.cell 0 true 5]⟩
def a45 : AFunc := ⟨40,
 .seq (.region [⟨some 2,.box (.t 0),none⟩,
 ⟨some 3,.box (.t 1),none⟩,
 ⟨some 4,.mov (.c (.int .i64 0)),none⟩])
 (.seq (.block 0 (.seq (.region [⟨some 7,.load false 1 (.t 3),none⟩,
 ⟨some 8,.bin .lss (.t 7) (.c (.int .i64 0)),none⟩,
 ⟨some 9,.mov (.t 8),none⟩,
 ⟨some 10,.load false 1 (.t 3),some (9,false)⟩,
 ⟨some 11,.bin .gtr (.t 10) (.c (.int .i64 6)),some (9,false)⟩,
 ⟨some 12,.pick (.t 9) (.c (.bool true)) (.t 11),none⟩,
 ⟨some 6,.mov (.t 12),none⟩])
 (.cond (.t 6)
 (.seq (.region [⟨some 4,.mov (.c (.int .i64 7)),none⟩])
 (.ret))
 (.seq (.region [⟨some 14,.faddr 1 (.t 2),none⟩,
 ⟨some 15,.load false 1 (.t 14),none⟩,
 ⟨some 16,.len (.t 15),none⟩,
 ⟨some 17,.bin .eql (.t 16) (.c (.int .i64 0)),none⟩,
 ⟨some 13,.mov (.t 17),none⟩])
 (.cond (.t 13)
 (.seq (.region [⟨some 4,.mov (.c (.int .i64 3)),none⟩])
 (.ret))
 (.seq (.region [⟨some 19,.faddr 0 (.t 2),none⟩,
 ⟨some 20,.load false 1 (.t 19),none⟩,
 ⟨some 21,.len (.t 20),none⟩,
 ⟨some 22,.bin .gtr (.t 21) (.c (.int .i64 64)),none⟩,
 ⟨some 23,.mov (.t 22),none⟩,
 ⟨some 24,.faddr 1 (.t 2),some (23,false)⟩,
 ⟨some 25,.load false 1 (.t 24),some (23,false)⟩,
 ⟨some 26,.len (.t 25),some (23,false)⟩,
 ⟨some 27,.bin .gtr (.t 26) (.c (.int .i64 64)),some (23,false)⟩,
 ⟨some 28,.pick (.t 23) (.c (.bool true)) (.t 27),none⟩,
 ⟨some 18,.mov (.t 28),none⟩])
 (.cond (.t 18)
 (.seq (.region [⟨some 4,.mov (.c (.int .i64 4)),none⟩])
 (.ret))
 (.skip))))))))
 (.seq (.region [⟨some 29,.mkfunc 80 [(.t 3)],none⟩,
 ⟨some 5,.mov (.t 29),none⟩])
 (.seq (.seq (.region [⟨some 30,.faddr 0 (.t 2),none⟩,
 ⟨some 31,.load false 1 (.t 30),none⟩,
 ⟨some 32,.mov (.t 5),none⟩,
 ⟨some 33,.icall (.c (.func 52 [])) [(.t 31),(.t 32)],none⟩,
 ⟨some 34,.mov (.t 33),none⟩,
 ⟨some 35,.faddr 1 (.t 2),some (34,false)⟩,
 ⟨some 36,.load false 1 (.t 35),some (34,false)⟩,
 ⟨some 37,.mov (.t 5),some (34,false)⟩,
 ⟨some 38,.icall (.c (.func 52 [])) [(.t 36),(.t 37)],some (34,false)⟩,
 ⟨some 39,.pick (.t 34) (.c (.bool true)) (.t 38),none⟩])
 (.cond (.t 39)
 (.seq (.region [⟨some 4,.mov (.c (.int .i64 1)),none⟩])
 (.ret))
 (.skip)))
 (.seq (.region [⟨some 4,.mov (.c (.int .i64 0)),none⟩])
 (.ret))))),
 [.tmp 4]⟩
def a47 : AFunc := ⟨29,
 .seq (.region [⟨some 2,.box (.t 0),none⟩,
 ⟨some 4,.mov (.c (.int .u8 0)),none⟩])
 (.seq (.seq (.region [⟨some 6,.mov (.t 1),none⟩,
 ⟨some 7,.bin .lss (.t 6) (.c (.int .i64 0)),none⟩])
 (.cond (.t 7)
 (.seq (.region [⟨some 4,.mov (.c (.int .u8 0)),none⟩])
 (.ret))
 (.skip)))
 (.seq (.region [⟨some 8,.load true 2 (.t 2),none⟩,
 ⟨some 9,.call 77 [(.t 8)],none⟩,
 ⟨none,.store 2 (.t 2) (.t 9),none⟩])
 (.seq (.seq (.draw 6 [⟨some 10,.load true 2 (.t 2),none⟩,
 ⟨some 11,.mov (.t 1),none⟩,
 ⟨some 12,.call 55 [(.t 10),(.t 11)],none⟩,
 ⟨some 13,.faddr 0 (.t 2),none⟩,
 ⟨some 14,.load false 1 (.t 13),none⟩,
 ⟨some 15,.len (.t 14),none⟩,
 ⟨some 16,.bin .sub (.t 12) (.t 15),none⟩,
 ⟨some 5,.mov (.t 16),none⟩])
 (.seq (.region [⟨some 17,.mov (.t 5),none⟩,
 ⟨some 18,.bin .geq (.t 17) (.c (.int .i64 0)),none⟩])
 (.cond (.t 18)
 (.seq (.region [⟨some 19,.faddr 1 (.t 2),none⟩,
 ⟨some 20,.load false 1 (.t 19),none⟩,
 ⟨some 21,.mov (.t 5),none⟩,
 ⟨some 22,.iaddr 1 (.t 20) (.t 21),none⟩,
 ⟨some 23,.load false 1 (.t 22),none⟩,
 ⟨some 4,.mov (.t 23),none⟩])
 (.ret))
 (.skip))))
 (.seq (.region [⟨some 24,.faddr 0 (.t 2),none⟩,
 ⟨some 25,.load false 1 (.t 24),none⟩,
 ⟨some 26,.mov (.t 1),none⟩,
 ⟨some 27,.iaddr 1 (.t 25) (.t 26),none⟩,
 ⟨some 28,.load false 1 (.t 27),none⟩,
 ⟨some 4,.mov (.t 28),none⟩])
 (.ret))))),
 [.tmp 4]⟩
def yAW : ACode :=
 .seq (.seq (.region [⟨some 16,.mov (.t 4),none⟩,
 ⟨some 17,.bin .gtr (.t 16) (.c (.int .i64 0)),none⟩])
 (.cond (.t 17)
 (.skip)
 (.exit 0)))
 (.block 1 (.seq (.seq (.draw 9 [⟨some 18,.faddr 0 (.t 1),none⟩,
 ⟨some 19,.load false 1 (.t 18),none⟩,
 ⟨some 20,.mov (.t 4),none⟩,
 ⟨some 21,.bin .sub (.t 20) (.c (.int .i64 1)),none⟩,
 ⟨some 22,.iaddr 1 (.t 19) (.t 21),none⟩,
 ⟨some 23,.load false 1 (.t 22),none⟩,
 ⟨some 24,.mov (.t 3),none⟩,
 ⟨some 25,.mov (.t 5),none⟩,
 ⟨some 26,.bin .sub (.t 25) (.c (.int .i64 1)),none⟩,
 ⟨some 27,.mov (.t 3),none⟩,
 ⟨some 28,.len (.t 27),none⟩,
 ⟨some 29,.bin .rem (.t 26) (.t 28),none⟩,
 ⟨some 30,.iaddr 1 (.t 24) (.t 29),none⟩,
 ⟨some 31,.load false 1 (.t 30),none⟩,
 ⟨some 32,.bin .neq (.t 23) (.t 31),none⟩])
 (.cond (.t 32)
 (.exit 0)
 (.skip)))
 (.seq (.region [⟨some 33,.mov (.t 4),none⟩,
 ⟨some 34,.bin .sub (.t 33) (.c (.int .i64 1)),none⟩,
 ⟨some 4,.mov (.t 34),none⟩])
 (.seq (.region [⟨some 35,.mov (.t 5),none⟩,
 ⟨some 36,.bin .sub (.t 35) (.c (.int .i64 1)),none⟩,
 ⟨some 5,.mov (.t 36),none⟩])
 (.seq (.region [⟨some 37,.mov (.t 5),none⟩,
 ⟨some 38,.bin .eql (.t 37) (.c (.int .i64 0)),none⟩])
 (.cond (.t 38)
 (.region [⟨some 39,.mov (.t 3),none⟩,
 ⟨some 40,.len (.t 39),none⟩,
 ⟨some 5,.mov (.t 40),none⟩])
 (.skip)))))))
def yCh : ACode := yAW
def yAX : List Nat := [0,6,7,8,9,10,11,12,13,14,15,16,17,18,19,20,21,22,23,24,25,26,27,28,29,30,31,32,33,34,35,36,37,38,39,40,41,42,43,44,45,46,47,48,49,50,51,52,53,54,55,56,57,58]
def a49 : AFunc := ⟨59,
 .seq (.region [⟨some 1,.box (.t 0),none⟩,
 ⟨some 2,.box (.c (.agg [.sl true 0 [],.sl true 0 []])),none⟩])
 (.scope (.seq (.region [⟨some 6,.load true 2 (.t 1),none⟩,
 ⟨some 7,.call 77 [(.t 6)],none⟩,
 ⟨none,.store 2 (.t 1) (.t 7),none⟩])
 (.seq (.draw 6 [⟨some 8,.faddr 1 (.t 1),none⟩,
 ⟨some 9,.load false 1 (.t 8),none⟩,
 ⟨some 10,.call 83 [(.t 9)],none⟩,
 ⟨some 11,.faddr 0 (.t 1),none⟩,
 ⟨some 12,.load false 1 (.t 11),none⟩,
 ⟨some 13,.len (.t 12),none⟩,
 ⟨some 3,.mov (.t 10),none⟩,
 ⟨some 4,.mov (.t 13),none⟩])
 (.seq (.region [⟨some 14,.mov (.t 3),none⟩,
 ⟨some 15,.len (.t 14),none⟩,
 ⟨some 5,.mov (.t 15),none⟩])
 (.seq (.label)
 (.seq (.block 0 (.loop yAX yCh))
 (.seq (.region [⟨some 41,.mov (.t 5),none⟩,
 ⟨some 42,.mov (.t 3),none⟩,
 ⟨some 43,.len (.t 42),none⟩,
 ⟨some 44,.bin .rem (.t 41) (.t 43),none⟩,
 ⟨some 5,.mov (.t 44),none⟩])
 (.seq (.drawp [] [] 12 [⟨some 45,.faddr 0 (.t 1),none⟩,
 ⟨some 46,.load false 1 (.t 45),none⟩,
 ⟨some 47,.mov (.t 4),none⟩,
 ⟨some 48,.slice 1 (.t 46) none (some (.t 47)) none,none⟩,
 ⟨some 49,.ocall 72 [(.t 48)],none⟩,
 ⟨some 50,.mov (.t 3),none⟩,
 ⟨some 51,.mov (.t 5),none⟩,
 ⟨some 52,.slice 1 (.t 50) (some (.t 51)) none none,none⟩,
 ⟨some 53,.mov (.t 3),none⟩,
 ⟨some 54,.mov (.t 5),none⟩,
 ⟨some 55,.slice 1 (.t 53) none (some (.t 54)) none,none⟩,
 ⟨some 56,.bslice true [.sl true 0 []] 1 2 [(0,(.t 52)),(1,(.t 55))],none⟩,
 ⟨some 57,.ocall 76 [(.t 56)],none⟩,
 ⟨some 58,.build [.sl true 0 [],.sl true 0 []] [(0,1,(.t 49)),(1,1,(.t 57))],none⟩,
 ⟨none,.store 2 (.t 2) (.t 58),none⟩])
 (.ret))))))))),
 [.cell 2 true 2]⟩
def a52 : AFunc := ⟨9,
 .seq (.region [⟨some 4,.mov (.c (.bool false)),none⟩])
 (.seq (.region [⟨some 5,.mov (.t 0),none⟩,
 ⟨some 6,.mov (.t 1),none⟩,
 ⟨some 7,.icall (.c (.func 85 [])) [(.t 5),(.t 6)],none⟩,
 ⟨some 8,.bin .geq (.t 7) (.c (.int .i64 0)),none⟩,
 ⟨some 4,.mov (.t 8),none⟩])
 (.ret)),
 [.tmp 4]⟩
def a53 : AFunc := ⟨10,
 .seq (.region [⟨some 3,.mov (.c (.bool false)),none⟩])
 (.seq (.region [⟨some 4,.mov (.t 0),none⟩,
 ⟨some 5,.conv .i64 (.t 4),none⟩,
 ⟨some 6,.faddr 0 (.t 1),none⟩,
 ⟨some 7,.load false 1 (.t 6),none⟩,
 ⟨some 8,.bin .shl (.c (.int .i64 1)) (.t 7),none⟩,
 ⟨some 9,.bin .geq (.t 5) (.t 8),none⟩,
 ⟨some 3,.mov (.t 9),none⟩])
 (.ret)),
 [.tmp 3]⟩
def a54 : AFunc := ⟨52,
 .seq (.region [⟨some 3,.box (.t 1),none⟩,
 ⟨some 4,.box (.c (.agg [.sl true 0 [],.sl true 0 []])),none⟩,
 ⟨some 5,.mov (.c (.bool false)),none⟩])
 (.seq (.seq (.region [⟨some 8,.mov (.t 0),none⟩,
 ⟨some 9,.nilchk (.t 8),none⟩,
 ⟨some 10,.faddr 0 (.t 9),none⟩,
 ⟨some 11,.load false 1 (.t 10),none⟩,
 ⟨some 12,.mnil false (.t 11),none⟩])
 (.cond (.t 12)
 (.region [⟨some 13,.mov (.t 0),none⟩,
 ⟨some 14,.mkmap,none⟩,
 ⟨some 15,.nilchk (.t 13),none⟩,
 ⟨some 16,.faddr 0 (.t 15),none⟩,
 ⟨none,.store 1 (.t 16) (.t 14),none⟩])
 (.skip)))
 (.seq (.seq (.draw 9 [⟨some 18,.mov (.t 0),none⟩,
 ⟨some 19,.nilchk (.t 18),none⟩,
 ⟨some 20,.faddr 0 (.t 19),none⟩,
 ⟨some 21,.load false 1 (.t 20),none⟩,
 ⟨some 22,.load true 2 (.t 3),none⟩,
 ⟨some 23,.mlook [2,0,0] true (.int .i64 0) (.t 21) (.t 22),none⟩,
 ⟨some 17,.mov (.t 23),none⟩,
 ⟨some 24,.ext 0 (.t 17),none⟩,
 ⟨some 25,.ext 1 (.t 17),none⟩,
 ⟨some 6,.mov (.t 24),none⟩,
 ⟨some 7,.mov (.t 25),none⟩])
 (.seq (.region [⟨some 26,.mov (.t 7),none⟩])
 (.cond (.t 26)
 (.seq (.drawp [] [] 10 [⟨some 27,.mov (.t 0),none⟩,
 ⟨some 28,.nilchk (.t 27),none⟩,
 ⟨some 29,.faddr 1 (.t 28),none⟩,
 ⟨some 30,.load false 1 (.t 29),none⟩,
 ⟨some 31,.mov (.t 6),none⟩,
 ⟨some 32,.slice 1 (.t 30) none (some (.t 31)) none,none⟩,
 ⟨some 33,.mov (.t 0),none⟩,
 ⟨some 34,.nilchk (.t 33),none⟩,
 ⟨some 35,.faddr 1 (.t 34),none⟩,
 ⟨some 36,.load false 1 (.t 35),none⟩,
 ⟨some 37,.mov (.t 6),none⟩,
 ⟨some 38,.slice 1 (.t 36) (some (.t 37)) none none,none⟩,
 ⟨some 39,.build [.sl true 0 [],.sl true 0 []] [(0,1,(.t 32)),(1,1,(.t 38))],none⟩,
 ⟨some 40,.ocall 49 [(.t 39)],none⟩,
 ⟨none,.store 2 (.t 4) (.t 40),none⟩,
 ⟨some 5,.mov (.c (.bool true)),none⟩])
 (.ret))
 (.skip))))
 (.seq (.draw 5 [⟨some 41,.mov (.t 0),none⟩,
 ⟨some 42,.nilchk (.t 41),none⟩,
 ⟨some 43,.faddr 0 (.t 42),none⟩,
 ⟨some 44,.load false 1 (.t 43),none⟩,
 ⟨some 45,.load true 2 (.t 3),none⟩,
 ⟨some 46,.mov (.t 0),none⟩,
 ⟨some 47,.nilchk (.t 46),none⟩,
 ⟨some 48,.faddr 1 (.t 47),none⟩,
 ⟨some 49,.load false 1 (.t 48),none⟩,
 ⟨some 50,.len (.t 49),none⟩,
 ⟨none,.mupd [2,0,0] (.t 44) (.t 45) (.t 50),none⟩])
 (.seq (.region [⟨some 51,.build [.sl true 0 [],.sl true 0 []] [],none⟩,
 ⟨none,.store 2 (.t 4) (.t 51),none⟩,
 ⟨some 5,.mov (.c (.bool false)),none⟩])
 (.ret))))),
 [.cell 4 true 2,.tmp 5]⟩
def a55 : AFunc := ⟨24,
 .seq (.region [⟨some 2,.box (.t 0),none⟩,
 ⟨some 4,.mov (.c (.int .i64 0)),none⟩])
 (.seq (.region [⟨some 6,.faddr 0 (.t 2),none⟩,
 ⟨some 7,.load false 1 (.t 6),none⟩,
 ⟨some 8,.len (.t 7),none⟩,
 ⟨some 5,.mov (.t 8),none⟩])
 (.seq (.seq (.region [⟨some 9,.mov (.t 1),none⟩,
 ⟨some 10,.mov (.t 5),none⟩,
 ⟨some 11,.bin .lss (.t 9) (.t 10),none⟩])
 (.cond (.t 11)
 (.seq (.region [⟨some 12,.mov (.t 1),none⟩,
 ⟨some 13,.maxi (.t 12) (.c (.int .i64 0)),none⟩,
 ⟨some 4,.mov (.t 13),none⟩])
 (.ret))
 (.skip)))
 (.seq (.region [⟨some 14,.mov (.t 5),none⟩,
 ⟨some 15,.mov (.t 1),none⟩,
 ⟨some 16,.mov (.t 5),none⟩,
 ⟨some 17,.bin .sub (.t 15) (.t 16),none⟩,
 ⟨some 18,.faddr 1 (.t 2),none⟩,
 ⟨some 19,.load false 1 (.t 18),none⟩,
 ⟨some 20,.len (.t 19),none⟩,
 ⟨some 21,.maxi (.t 20) (.c (.int .i64 1)),none⟩,
 ⟨some 22,.bin .rem (.t 17) (.t 21),none⟩,
 ⟨some 23,.bin .add (.t 14) (.t 22),none⟩,
 ⟨some 4,.mov (.t 23),none⟩])
 (.ret)))),
 [.tmp 4]⟩
def a59 : AFunc := ⟨46,
 .seq (.region [⟨some 10,.mov (.c (.int .i64 0)),none⟩])
 (.seq (.block 0 (.seq (.region [⟨some 12,.mov (.t 0),none⟩,
 ⟨some 13,.bin .lss (.t 12) (.c (.int .i64 0)),none⟩,
 ⟨some 14,.mov (.t 13),none⟩,
 ⟨some 15,.mov (.t 1),some (14,false)⟩,
 ⟨some 16,.bin .lss (.t 15) (.c (.int .i64 0)),some (14,false)⟩,
 ⟨some 17,.pick (.t 14) (.c (.bool true)) (.t 16),none⟩,
 ⟨some 18,.mov (.t 17),none⟩,
 ⟨some 19,.mov (.t 0),some (18,false)⟩,
 ⟨some 20,.bin .gtr (.t 19) (.c (.int .i64 6)),some (18,false)⟩,
 ⟨some 21,.pick (.t 18) (.c (.bool true)) (.t 20),none⟩,
 ⟨some 22,.mov (.t 21),none⟩,
 ⟨some 23,.mov (.t 1),some (22,false)⟩,
 ⟨some 24,.mov (.t 0),some (22,false)⟩,
 ⟨some 25,.bin .sub (.c (.int .i64 6)) (.t 24),some (22,false)⟩,
 ⟨some 26,.bin .gtr (.t 23) (.t 25),some (22,false)⟩,
 ⟨some 27,.pick (.t 22) (.c (.bool true)) (.t 26),none⟩,
 ⟨some 11,.mov (.t 27),none⟩])
 (.cond (.t 11)
 (.seq (.region [⟨some 10,.mov (.c (.int .i64 7)),none⟩])
 (.ret))
 (.seq (.region [⟨some 29,.mov (.t 2),none⟩,
 ⟨some 30,.bin .eql (.t 29) (.c (.int .i64 0)),none⟩,
 ⟨some 28,.mov (.t 30),none⟩])
 (.cond (.t 28)
 (.seq (.region [⟨some 10,.mov (.c (.int .i64 3)),none⟩])
 (.ret))
 (.seq (.region [⟨some 32,.mov (.t 2),none⟩,
 ⟨some 33,.bin .gtr (.t 32) (.c (.int .i64 4096)),none⟩,
 ⟨some 31,.mov (.t 33),none⟩])
 (.cond (.t 31)
 (.seq (.region [⟨some 10,.mov (.c (.int .i64 10)),none⟩])
 (.ret))
 (.seq (.region [⟨some 35,.mov (.t 3),none⟩,
 ⟨some 36,.mov (.t 2),none⟩,
 ⟨some 37,.bin .neq (.t 35) (.t 36),none⟩,
 ⟨some 34,.mov (.t 37),none⟩])
 (.cond (.t 34)
 (.seq (.region [⟨some 10,.mov (.c (.int .i64 2)),none⟩])
 (.ret))
 (.seq (.region [⟨some 39,.mov (.t 4),none⟩,
 ⟨some 40,.bin .lss (.t 39) (.c (.int .i64 0)),none⟩,
 ⟨some 41,.mov (.t 40),none⟩,
 ⟨some 42,.mov (.t 4),some (41,false)⟩,
 ⟨some 43,.mov (.t 2),some (41,false)⟩,
 ⟨some 44,.bin .geq (.t 42) (.t 43),some (41,false)⟩,
 ⟨some 45,.pick (.t 41) (.c (.bool true)) (.t 44),none⟩,
 ⟨some 38,.mov (.t 45),none⟩])
 (.cond (.t 38)
 (.seq (.region [⟨some 10,.mov (.c (.int .i64 8)),none⟩])
 (.ret))
 (.skip))))))))))))
 (.seq (.region [⟨some 10,.mov (.c (.int .i64 0)),none⟩])
 (.ret))),
 [.tmp 10]⟩
def a60 : AFunc := ⟨8,
 .seq (.region [⟨some 3,.box (.t 1),none⟩,
 ⟨some 4,.mov (.c (.bool false)),none⟩])
 (.seq (.region [⟨some 5,.mov (.t 0),none⟩,
 ⟨some 6,.mkfunc 91 [(.t 3)],none⟩,
 ⟨some 7,.icall (.c (.func 90 [])) [(.t 5),(.t 6)],none⟩,
 ⟨some 4,.mov (.t 7),none⟩])
 (.ret)),
 [.tmp 4]⟩
def xPM : ACode :=
 .seq (.seq (.region [⟨some 12,.mov (.t 4),none⟩,
 ⟨some 13,.mov (.t 0),none⟩,
 ⟨some 14,.len (.t 13),none⟩,
 ⟨some 15,.bin .lss (.t 12) (.t 14),none⟩])
 (.cond (.t 15)
 (.skip)
 (.exit 0)))
 (.seq (.block 1 (.region [⟨some 18,.mov (.t 3),none⟩,
 ⟨some 19,.mov (.t 0),none⟩,
 ⟨some 20,.mov (.t 4),none⟩,
 ⟨some 21,.iaddr 1 (.t 19) (.t 20),none⟩,
 ⟨some 22,.load false 1 (.t 21),none⟩,
 ⟨some 23,.maxi (.t 18) (.t 22),none⟩,
 ⟨some 3,.mov (.t 23),none⟩]))
 (.region [⟨some 16,.mov (.t 4),none⟩,
 ⟨some 17,.bin .add (.t 16) (.c (.int .i64 1)),none⟩,
 ⟨some 4,.mov (.t 17),none⟩]))
def xWQ : ACode := xPM
def xMJ : List Nat := [1,2,5,6,7,8,9,10,11,12,13,14,15,16,17,18,19,20,21,22,23,24]
abbrev xMK (s0 s3 s4 : AV) : List AV := [s0,.any,.any,s3,s4,.any,.any,.any,.any,.any,.any,.any,.any,.any,.any,.any,.any,.any,.any,.any,.any,.any,.any,.any,.any]
theorem xTx (s0 s1 s2 s3 s4 s5 s6 s7 s8 s9 s10 s11 s12 s13 s14 s15 s16 s17 s18 s19 s20 s21 s22 s23 s24 : AV) : xAM xMJ [s0,s1,s2,s3,s4,s5,s6,s7,s8,s9,s10,s11,s12,s13,s14,s15,s16,s17,s18,s19,s20,s21,s22,s23,s24] = xMK s0 s3 s4 := by kernel_rfl
theorem xX2 {prog : Nat → Option AFunc} (s0 s3 s4 : AV) (H : Heap) : (lim prog).loop xMJ xWQ ⟨xMK s0 s3 s4,H⟩ = xBT (lim prog) xMJ xWQ (run (lim prog) xPM ⟨xMK s0 s3 s4,H⟩) := xAo _ _ _ _ (by kernel_rfl)
def a61 : AFunc := ⟨25,
 .seq (.region [⟨some 2,.mov (.c (.int .u8 0)),none⟩])
 (.seq (.seq (.region [⟨some 5,.mov (.t 0),none⟩,
 ⟨some 6,.len (.t 5),none⟩,
 ⟨some 7,.bin .lss (.t 6) (.c (.int .i64 1)),none⟩])
 (.cond (.t 7)
 (.stuck)
 (.skip)))
 (.seq (.region [⟨some 9,.mov (.t 0),none⟩,
 ⟨some 10,.iaddr 1 (.t 9) (.c (.int .i64 0)),none⟩,
 ⟨some 11,.load false 1 (.t 10),none⟩,
 ⟨some 3,.mov (.t 11),none⟩])
 (.seq (.seq (.region [⟨some 4,.mov (.c (.int .i64 1)),none⟩])
 (.block 0 (.loop xMJ xWQ)))
 (.seq (.region [⟨some 24,.mov (.t 3),none⟩,
 ⟨some 2,.mov (.t 24),none⟩])
 (.ret))))),
 [.tmp 2]⟩
def yAY : ACode :=
 .seq (.seq (.region [⟨some 11,.mov (.t 5),none⟩,
 ⟨some 12,.mov (.t 0),none⟩,
 ⟨some 13,.len (.t 12),none⟩,
 ⟨some 14,.bin .lss (.t 11) (.t 13),none⟩])
 (.cond (.t 14)
 (.skip)
 (.exit 0)))
 (.seq (.block 1 (.seq (.draw 5 [⟨some 17,.mov (.t 0),none⟩,
 ⟨some 18,.mov (.t 5),none⟩,
 ⟨some 19,.iaddr 1 (.t 17) (.t 18),none⟩,
 ⟨some 20,.load false 1 (.t 19),none⟩,
 ⟨some 21,.mov (.t 1),none⟩,
 ⟨some 22,.mov (.t 5),none⟩,
 ⟨some 23,.iaddr 1 (.t 21) (.t 22),none⟩,
 ⟨some 24,.load false 1 (.t 23),none⟩,
 ⟨some 25,.bin .neq (.t 20) (.t 24),none⟩])
 (.cond (.t 25)
 (.seq (.region [⟨some 4,.mov (.c (.bool false)),none⟩])
 (.ret))
 (.skip))))
 (.region [⟨some 15,.mov (.t 5),none⟩,
 ⟨some 16,.bin .add (.t 15) (.c (.int .i64 1)),none⟩,
 ⟨some 5,.mov (.t 16),none⟩]))
def yCi : ACode := yAY
def yAZ : List Nat := [2,3,6,7,8,9,10,11,12,13,14,15,16,17,18,19,20,21,22,23,24,25]
def a65 : AFunc := ⟨26,
 .seq (.region [⟨some 4,.mov (.c (.bool false)),none⟩])
 (.seq (.seq (.region [⟨some 6,.mov (.t 0),none⟩,
 ⟨some 7,.len (.t 6),none⟩,
 ⟨some 8,.mov (.t 1),none⟩,
 ⟨some 9,.len (.t 8),none⟩,
 ⟨some 10,.bin .neq (.t 7) (.t 9),none⟩])
 (.cond (.t 10)
 (.seq (.region [⟨some 4,.mov (.c (.bool false)),none⟩])
 (.ret))
 (.skip)))
 (.seq (.seq (.region [⟨some 5,.mov (.c (.int .i64 0)),none⟩])
 (.block 0 (.loop yAZ yCi)))
 (.seq (.region [⟨some 4,.mov (.c (.bool true)),none⟩])
 (.ret)))),
 [.tmp 4]⟩
def xJA : ACode :=
 .seq (.seq (.region [⟨some 11,.mov (.t 5),none⟩,
 ⟨some 12,.mov (.t 0),none⟩,
 ⟨some 13,.len (.t 12),none⟩,
 ⟨some 14,.bin .lss (.t 11) (.t 13),none⟩])
 (.cond (.t 14)
 (.skip)
 (.exit 0)))
 (.seq (.block 1 (.seq (.draw 5 [⟨some 17,.mov (.t 0),none⟩,
 ⟨some 18,.mov (.t 5),none⟩,
 ⟨some 19,.iaddr 1 (.t 17) (.t 18),none⟩,
 ⟨some 20,.load false 1 (.t 19),none⟩,
 ⟨some 21,.mov (.t 1),none⟩,
 ⟨some 22,.mov (.t 5),none⟩,
 ⟨some 23,.iaddr 1 (.t 21) (.t 22),none⟩,
 ⟨some 24,.load false 1 (.t 23),none⟩,
 ⟨some 25,.call 24 [(.t 20),(.t 24)],none⟩,
 ⟨some 26,.un .not (.t 25),none⟩])
 (.cond (.t 26)
 (.seq (.region [⟨some 4,.mov (.c (.bool false)),none⟩])
 (.ret))
 (.skip))))
 (.region [⟨some 15,.mov (.t 5),none⟩,
 ⟨some 16,.bin .add (.t 15) (.c (.int .i64 1)),none⟩,
 ⟨some 5,.mov (.t 16),none⟩]))
def xWR : ACode := xJA
def xML : List Nat := [2,3,6,7,8,9,10,11,12,13,14,15,16,17,18,19,20,21,22,23,24,25,26]
abbrev xJB (s0 s1 s4 s5 : AV) : List AV := [s0,s1,.any,.any,s4,s5,.any,.any,.any,.any,.any,.any,.any,.any,.any,.any,.any,.any,.any,.any,.any,.any,.any,.any,.any,.any,.any]
theorem xJC (s0 s1 s2 s3 s4 s5 s6 s7 s8 s9 s10 s11 s12 s13 s14 s15 s16 s17 s18 s19 s20 s21 s22 s23 s24 s25 s26 : AV) : xAM xML [s0,s1,s2,s3,s4,s5,s6,s7,s8,s9,s10,s11,s12,s13,s14,s15,s16,s17,s18,s19,s20,s21,s22,s23,s24,s25,s26] = xJB s0 s1 s4 s5 := by kernel_rfl
theorem xTy {prog : Nat → Option AFunc} (s0 s1 s4 s5 : AV) (H : Heap) : (lim prog).loop xML xWR ⟨xJB s0 s1 s4 s5,H⟩ = xBT (lim prog) xML xWR (run (lim prog) xJA ⟨xJB s0 s1 s4 s5,H⟩) := xAo _ _ _ _ (by kernel_rfl)
def a66 : AFunc := ⟨27,
 .seq (.region [⟨some 4,.mov (.c (.bool false)),none⟩])
 (.seq (.seq (.region [⟨some 6,.mov (.t 0),none⟩,
 ⟨some 7,.len (.t 6),none⟩,
 ⟨some 8,.mov (.t 1),none⟩,
 ⟨some 9,.len (.t 8),none⟩,
 ⟨some 10,.bin .neq (.t 7) (.t 9),none⟩])
 (.cond (.t 10)
 (.seq (.region [⟨some 4,.mov (.c (.bool false)),none⟩])
 (.ret))
 (.skip)))
 (.seq (.seq (.region [⟨some 5,.mov (.c (.int .i64 0)),none⟩])
 (.block 0 (.loop xML xWR)))
 (.seq (.region [⟨some 4,.mov (.c (.bool true)),none⟩])
 (.ret)))),
 [.tmp 4]⟩
def xJD : ACode :=
 .seq (.seq (.region [⟨some 11,.mov (.t 5),none⟩,
 ⟨some 12,.mov (.t 0),none⟩,
 ⟨some 13,.len (.t 12),none⟩,
 ⟨some 14,.bin .lss (.t 11) (.t 13),none⟩])
 (.cond (.t 14)
 (.skip)
 (.exit 0)))
 (.seq (.block 1 (.seq (.draw 5 [⟨some 17,.mov (.t 0),none⟩,
 ⟨some 18,.mov (.t 5),none⟩,
 ⟨some 19,.iaddr 1 (.t 17) (.t 18),none⟩,
 ⟨some 20,.load false 1 (.t 19),none⟩,
 ⟨some 21,.mov (.t 1),none⟩,
 ⟨some 22,.mov (.t 5),none⟩,
 ⟨some 23,.iaddr 1 (.t 21) (.t 22),none⟩,
 ⟨some 24,.load false 1 (.t 23),none⟩,
 ⟨some 25,.call 23 [(.t 20),(.t 24)],none⟩,
 ⟨some 26,.un .not (.t 25),none⟩])
 (.cond (.t 26)
 (.seq (.region [⟨some 4,.mov (.c (.bool false)),none⟩])
 (.ret))
 (.skip))))
 (.region [⟨some 15,.mov (.t 5),none⟩,
 ⟨some 16,.bin .add (.t 15) (.c (.int .i64 1)),none⟩,
 ⟨some 5,.mov (.t 16),none⟩]))
def xWS : ACode := xJD
def xMM : List Nat := [2,3,6,7,8,9,10,11,12,13,14,15,16,17,18,19,20,21,22,23,24,25,26]
abbrev xJE (s0 s1 s4 s5 : AV) : List AV := [s0,s1,.any,.any,s4,s5,.any,.any,.any,.any,.any,.any,.any,.any,.any,.any,.any,.any,.any,.any,.any,.any,.any,.any,.any,.any,.any]
theorem xJF (s0 s1 s2 s3 s4 s5 s6 s7 s8 s9 s10 s11 s12 s13 s14 s15 s16 s17 s18 s19 s20 s21 s22 s23 s24 s25 s26 : AV) : xAM xMM [s0,s1,s2,s3,s4,s5,s6,s7,s8,s9,s10,s11,s12,s13,s14,s15,s16,s17,s18,s19,s20,s21,s22,s23,s24,s25,s26] = xJE s0 s1 s4 s5 := by kernel_rfl
theorem xTz {prog : Nat → Option AFunc} (s0 s1 s4 s5 : AV) (H : Heap) : (lim prog).loop xMM xWS ⟨xJE s0 s1 s4 s5,H⟩ = xBT (lim prog) xMM xWS (run (lim prog) xJD ⟨xJE s0 s1 s4 s5,H⟩) := xAo _ _ _ _ (by kernel_rfl)
def a67 : AFunc := ⟨27,
 .seq (.region [⟨some 4,.mov (.c (.bool false)),none⟩])
 (.seq (.seq (.region [⟨some 6,.mov (.t 0),none⟩,
 ⟨some 7,.len (.t 6),none⟩,
 ⟨some 8,.mov (.t 1),none⟩,
 ⟨some 9,.len (.t 8),none⟩,
 ⟨some 10,.bin .neq (.t 7) (.t 9),none⟩])
 (.cond (.t 10)
 (.seq (.region [⟨some 4,.mov (.c (.bool false)),none⟩])
 (.ret))
 (.skip)))
 (.seq (.seq (.region [⟨some 5,.mov (.c (.int .i64 0)),none⟩])
 (.block 0 (.loop xMM xWS)))
 (.seq (.region [⟨some 4,.mov (.c (.bool true)),none⟩])
 (.ret)))),
 [.tmp 4]⟩
def a68 : AFunc := ⟨52,
 .seq (.region [⟨some 3,.box (.t 1),none⟩,
 ⟨some 4,.box (.c (.agg [.sl true 0 [],.sl true 0 []])),none⟩,
 ⟨some 5,.mov (.c (.bool false)),none⟩])
 (.seq (.seq (.region [⟨some 8,.mov (.t 0),none⟩,
 ⟨some 9,.nilchk (.t 8),none⟩,
 ⟨some 10,.faddr 0 (.t 9),none⟩,
 ⟨some 11,.load false 1 (.t 10),none⟩,
 ⟨some 12,.mnil false (.t 11),none⟩])
 (.cond (.t 12)
 (.region [⟨some 13,.mov (.t 0),none⟩,
 ⟨some 14,.mkmap,none⟩,
 ⟨some 15,.nilchk (.t 13),none⟩,
 ⟨some 16,.faddr 0 (.t 15),none⟩,
 ⟨none,.store 1 (.t 16) (.t 14),none⟩])
 (.skip)))
 (.seq (.seq (.draw 9 [⟨some 18,.mov (.t 0),none⟩,
 ⟨some 19,.nilchk (.t 18),none⟩,
 ⟨some 20,.faddr 0 (.t 19),none⟩,
 ⟨some 21,.load false 1 (.t 20),none⟩,
 ⟨some 22,.load true 2 (.t 3),none⟩,
 ⟨some 23,.mlook [2,0,0] true (.int .i64 0) (.t 21) (.t 22),none⟩,
 ⟨some 17,.mov (.t 23),none⟩,
 ⟨some 24,.ext 0 (.t 17),none⟩,
 ⟨some 25,.ext 1 (.t 17),none⟩,
 ⟨some 6,.mov (.t 24),none⟩,
 ⟨some 7,.mov (.t 25),none⟩])
 (.seq (.region [⟨some 26,.mov (.t 7),none⟩])
 (.cond (.t 26)
 (.seq (.drawp [] [] 10 [⟨some 27,.mov (.t 0),none⟩,
 ⟨some 28,.nilchk (.t 27),none⟩,
 ⟨some 29,.faddr 1 (.t 28),none⟩,
 ⟨some 30,.load false 1 (.t 29),none⟩,
 ⟨some 31,.mov (.t 6),none⟩,
 ⟨some 32,.slice 1 (.t 30) none (some (.t 31)) none,none⟩,
 ⟨some 33,.mov (.t 0),none⟩,
 ⟨some 34,.nilchk (.t 33),none⟩,
 ⟨some 35,.faddr 1 (.t 34),none⟩,
 ⟨some 36,.load false 1 (.t 35),none⟩,
 ⟨some 37,.mov (.t 6),none⟩,
 ⟨some 38,.slice 1 (.t 36) (some (.t 37)) none none,none⟩,
 ⟨some 39,.build [.sl true 0 [],.sl true 0 []] [(0,1,(.t 32)),(1,1,(.t 38))],none⟩,
 ⟨some 40,.ocall 49 [(.t 39)],none⟩,
 ⟨none,.store 2 (.t 4) (.t 40),none⟩,
 ⟨some 5,.mov (.c (.bool true)),none⟩])
 (.ret))
 (.skip))))
 (.seq (.draw 5 [⟨some 41,.mov (.t 0),none⟩,
 ⟨some 42,.nilchk (.t 41),none⟩,
 ⟨some 43,.faddr 0 (.t 42),none⟩,
 ⟨some 44,.load false 1 (.t 43),none⟩,
 ⟨some 45,.load true 2 (.t 3),none⟩,
 ⟨some 46,.mov (.t 0),none⟩,
 ⟨some 47,.nilchk (.t 46),none⟩,
 ⟨some 48,.faddr 1 (.t 47),none⟩,
 ⟨some 49,.load false 1 (.t 48),none⟩,
 ⟨some 50,.len (.t 49),none⟩,
 ⟨none,.mupd [2,0,0] (.t 44) (.t 45) (.t 50),none⟩])
 (.seq (.region [⟨some 51,.build [.sl true 0 [],.sl true 0 []] [],none⟩,
 ⟨none,.store 2 (.t 4) (.t 51),none⟩,
 ⟨some 5,.mov (.c (.bool false)),none⟩])
 (.ret))))),
 [.cell 4 true 2,.tmp 5]⟩
def xPN : ACode :=
 .seq (.region [⟨some 33,.bin .lss (.t 32) (.t 31),none⟩])
 (.seq (.cond (.t 33)
 (.skip)
 (.exit 4))
 (.seq (.block 5 (.seq (.region [⟨some 34,.mov (.t 32),none⟩,
 ⟨some 35,.iaddr 1 (.t 30) (.t 32),none⟩,
 ⟨some 36,.load false 1 (.t 35),none⟩,
 ⟨some 10,.mov (.t 34),none⟩,
 ⟨some 11,.mov (.t 36),none⟩])
 (.region [⟨some 37,.mov (.t 9),none⟩,
 ⟨some 38,.mov (.t 10),none⟩,
 ⟨some 39,.mov (.t 3),none⟩,
 ⟨some 40,.mov (.t 11),none⟩,
 ⟨some 41,.iaddr 1 (.t 39) (.t 40),none⟩,
 ⟨some 42,.load false 1 (.t 41),none⟩,
 ⟨some 43,.iaddr 1 (.t 37) (.t 38),none⟩,
 ⟨none,.store 1 (.t 43) (.t 42),none⟩])))
 (.region [⟨some 44,.bin .add (.t 32) (.c (.int .i64 1)),none⟩,
 ⟨some 32,.mov (.t 44),none⟩])))
def xWT : ACode := xPN
def xMN : List Nat := [0,2,8,10,11,12,13,14,15,16,17,18,19,23,24,25,26,27,28,29,33,34,35,36,37,38,39,40,41,42,43,44,45,46,47,48,49,50,51,52,53,54,55,56,57,58,59,60,61,62,63,64,65,66,67,68,69,70,71]
abbrev xMO (s1 s3 s4 s5 s6 s7 s9 s20 s21 s22 s30 s31 s32 : AV) : List AV := [.any,s1,.any,s3,s4,s5,s6,s7,.any,s9,.any,.any,.any,.any,.any,.any,.any,.any,.any,.any,s20,s21,s22,.any,.any,.any,.any,.any,.any,.any,s30,s31,s32,.any,.any,.any,.any,.any,.any,.any,.any,.any,.any,.any,.any,.any,.any,.any,.any,.any,.any,.any,.any,.any,.any,.any,.any,.any,.any,.any,.any,.any,.any,.any,.any,.any,.any,.any,.any,.any,.any,.any]
theorem xTA (s0 s1 s2 s3 s4 s5 s6 s7 s8 s9 s10 s11 s12 s13 s14 s15 s16 s17 s18 s19 s20 s21 s22 s23 s24 s25 s26 s27 s28 s29 s30 s31 s32 s33 s34 s35 s36 s37 s38 s39 s40 s41 s42 s43 s44 s45 s46 s47 s48 s49 s50 s51 s52 s53 s54 s55 s56 s57 s58 s59 s60 s61 s62 s63 s64 s65 s66 s67 s68 s69 s70 s71 : AV) : xAM xMN [s0,s1,s2,s3,s4,s5,s6,s7,s8,s9,s10,s11,s12,s13,s14,s15,s16,s17,s18,s19,s20,s21,s22,s23,s24,s25,s26,s27,s28,s29,s30,s31,s32,s33,s34,s35,s36,s37,s38,s39,s40,s41,s42,s43,s44,s45,s46,s47,s48,s49,s50,s51,s52,s53,s54,s55,s56,s57,s58,s59,s60,s61,s62,s63,s64,s65,s66,s67,s68,s69,s70,s71] = xMO s1 s3 s4 s5 s6 s7 s9 s20 s21 s22 s30 s31 s32 := by kernel_rfl
theorem xX3 {prog : Nat → Option AFunc} (s1 s3 s4 s5 s6 s7 s9 s20 s21 s22 s30 s31 s32 : AV) (H : Heap) : (lim prog).loop xMN xWT ⟨xMO s1 s3 s4 s5 s6 s7 s9 s20 s21 s22 s30 s31 s32,H⟩ = xBT (lim prog) xMN xWT (run (lim prog) xPN ⟨xMO s1 s3 s4 s5 s6 s7 s9 s20 s21 s22 s30 s31 s32,H⟩) := xAo _ _ _ _ (by kernel_rfl)
def xPO : ACode :=
 .seq (.region [⟨some 23,.bin .lss (.t 22) (.t 21),none⟩])
 (.seq (.cond (.t 23)
 (.skip)
 (.exit 2))
 (.seq (.block 3 (.seq (.region [⟨some 24,.mov (.t 22),none⟩,
 ⟨some 25,.iaddr 1 (.t 20) (.t 22),none⟩,
 ⟨some 26,.load false 1 (.t 25),none⟩,
 ⟨some 7,.mov (.t 24),none⟩,
 ⟨some 8,.mov (.t 26),none⟩])
 (.seq (.region [⟨some 27,.mov (.t 8),none⟩,
 ⟨some 28,.len (.t 27),none⟩,
 ⟨some 29,.mkslice false [.int .i64 0] 8 (.t 28) (.t 28),none⟩,
 ⟨some 9,.mov (.t 29),none⟩])
 (.seq (.seq (.region [⟨some 30,.mov (.t 8),none⟩,
 ⟨some 31,.len (.t 30),none⟩,
 ⟨some 32,.mov (.c (.int .i64 0)),none⟩])
 (.block 4 (.loop xMN xWT)))
 (.draw 10 [⟨some 46,.mov (.t 6),none⟩,
 ⟨some 47,.mov (.t 7),none⟩,
 ⟨some 48,.faddr 4 (.t 1),none⟩,
 ⟨some 49,.load false 1 (.t 48),none⟩,
 ⟨some 50,.mov (.t 7),none⟩,
 ⟨some 51,.iaddr 1 (.t 49) (.t 50),none⟩,
 ⟨some 52,.load false 1 (.t 51),none⟩,
 ⟨some 53,.bstr (.t 52),none⟩,
 ⟨some 54,.mov (.t 9),none⟩,
 ⟨some 55,.call 93 [(.t 54)],none⟩,
 ⟨some 56,.build [.str ⟨#[]⟩,.str ⟨#[]⟩] [(0,1,(.t 53)),(1,1,(.t 55))],none⟩,
 ⟨some 57,.icall (.c (.func 92 [])) [(.t 5),(.t 56)],none⟩,
 ⟨some 45,.mov (.t 57),none⟩,
 ⟨some 58,.ext 0 (.t 45),none⟩,
 ⟨some 59,.ext 1 (.t 45),none⟩,
 ⟨some 60,.iaddr 1 (.t 46) (.t 47),none⟩,
 ⟨none,.store 1 (.t 60) (.t 58),none⟩])))))
 (.region [⟨some 61,.bin .add (.t 22) (.c (.int .i64 1)),none⟩,
 ⟨some 22,.mov (.t 61),none⟩])))
def xMP : ACode := xPO
def xE5 : List Nat := [0,2,7,8,9,10,11,12,13,14,15,16,17,18,19,23,24,25,26,27,28,29,30,31,32,33,34,35,36,37,38,39,40,41,42,43,44,45,46,47,48,49,50,51,52,53,54,55,56,57,58,59,60,61,62,63,64,65,66,67,68,69,70,71]
abbrev xMQ (s1 s3 s4 s5 s6 s20 s21 s22 : AV) : List AV := [.any,s1,.any,s3,s4,s5,s6,.any,.any,.any,.any,.any,.any,.any,.any,.any,.any,.any,.any,.any,s20,s21,s22,.any,.any,.any,.any,.any,.any,.any,.any,.any,.any,.any,.any,.any,.any,.any,.any,.any,.any,.any,.any,.any,.any,.any,.any,.any,.any,.any,.any,.any,.any,.any,.any,.any,.any,.any,.any,.any,.any,.any,.any,.any,.any,.any,.any,.any,.any,.any,.any,.any]
theorem xJG (s0 s1 s2 s3 s4 s5 s6 s7 s8 s9 s10 s11 s12 s13 s14 s15 s16 s17 s18 s19 s20 s21 s22 s23 s24 s25 s26 s27 s28 s29 s30 s31 s32 s33 s34 s35 s36 s37 s38 s39 s40 s41 s42 s43 s44 s45 s46 s47 s48 s49 s50 s51 s52 s53 s54 s55 s56 s57 s58 s59 s60 s61 s62 s63 s64 s65 s66 s67 s68 s69 s70 s71 : AV) : xAM xE5 [s0,s1,s2,s3,s4,s5,s6,s7,s8,s9,s10,s11,s12,s13,s14,s15,s16,s17,s18,s19,s20,s21,s22,s23,s24,s25,s26,s27,s28,s29,s30,s31,s32,s33,s34,s35,s36,s37,s38,s39,s40,s41,s42,s43,s44,s45,s46,s47,s48,s49,s50,s51,s52,s53,s54,s55,s56,s57,s58,s59,s60,s61,s62,s63,s64,s65,s66,s67,s68,s69,s70,s71] = xMQ s1 s3 s4 s5 s6 s20 s21 s22 := by kernel_rfl
theorem xX4 {prog : Nat → Option AFunc} (s1 s3 s4 s5 s6 s20 s21 s22 : AV) (H : Heap) : (lim prog).loop xE5 xMP ⟨xMQ s1 s3 s4 s5 s6 s20 s21 s22,H⟩ = xBT (lim prog) xE5 xMP (run (lim prog) xPO ⟨xMQ s1 s3 s4 s5 s6 s20 s21 s22,H⟩) := xAo _ _ _ _ (by kernel_rfl)
def xJH : ACode :=
 .block 1 (.seq (.region [⟨some 5,.box (.c (.agg [.nilm,.sl true 0 []])),none⟩])
 (.seq (.region [⟨some 16,.mov (.t 3),none⟩,
 ⟨some 17,.len (.t 16),none⟩,
 ⟨some 18,.mkslice false [.int .i64 0] 8 (.t 17) (.t 17),none⟩,
 ⟨some 6,.mov (.t 18),none⟩])
 (.seq (.seq (.region [⟨some 19,.faddr 3 (.t 1),none⟩,
 ⟨some 20,.load false 1 (.t 19),none⟩,
 ⟨some 21,.len (.t 20),none⟩,
 ⟨some 22,.mov (.c (.int .i64 0)),none⟩])
 (.block 2 (.loop xE5 xMP)))
 (.seq (.region [⟨some 62,.mov (.t 6),none⟩,
 ⟨some 3,.mov (.t 62),none⟩])
 (.seq (.seq (.region [⟨some 63,.faddr 1 (.t 5),none⟩,
 ⟨some 64,.load false 1 (.t 63),none⟩,
 ⟨some 65,.len (.t 64),none⟩,
 ⟨some 66,.mov (.t 4),none⟩,
 ⟨some 67,.bin .eql (.t 65) (.t 66),none⟩])
 (.cond (.t 67)
 (.seq (.region [⟨some 68,.mov (.t 3),none⟩,
 ⟨some 2,.mov (.t 68),none⟩])
 (.ret))
 (.skip)))
 (.region [⟨some 69,.faddr 1 (.t 5),none⟩,
 ⟨some 70,.load false 1 (.t 69),none⟩,
 ⟨some 71,.len (.t 70),none⟩,
 ⟨some 4,.mov (.t 71),none⟩]))))))
def xMR : ACode := xJH
def xE6 : List Nat := [0,5,6,7,8,9,10,11,12,13,14,15,16,17,18,19,20,21,22,23,24,25,26,27,28,29,30,31,32,33,34,35,36,37,38,39,40,41,42,43,44,45,46,47,48,49,50,51,52,53,54,55,56,57,58,59,60,61,62,63,64,65,66,67,68,69,70,71]
abbrev xMS (s1 s2 s3 s4 : AV) : List AV := [.any,s1,s2,s3,s4,.any,.any,.any,.any,.any,.any,.any,.any,.any,.any,.any,.any,.any,.any,.any,.any,.any,.any,.any,.any,.any,.any,.any,.any,.any,.any,.any,.any,.any,.any,.any,.any,.any,.any,.any,.any,.any,.any,.any,.any,.any,.any,.any,.any,.any,.any,.any,.any,.any,.any,.any,.any,.any,.any,.any,.any,.any,.any,.any,.any,.any,.any,.any,.any,.any,.any,.any]
theorem xMT (s0 s1 s2 s3 s4 s5 s6 s7 s8 s9 s10 s11 s12 s13 s14 s15 s16 s17 s18 s19 s20 s21 s22 s23 s24 s25 s26 s27 s28 s29 s30 s31 s32 s33 s34 s35 s36 s37 s38 s39 s40 s41 s42 s43 s44 s45 s46 s47 s48 s49 s50 s51 s52 s53 s54 s55 s56 s57 s58 s59 s60 s61 s62 s63 s64 s65 s66 s67 s68 s69 s70 s71 : AV) : xAM xE6 [s0,s1,s2,s3,s4,s5,s6,s7,s8,s9,s10,s11,s12,s13,s14,s15,s16,s17,s18,s19,s20,s21,s22,s23,s24,s25,s26,s27,s28,s29,s30,s31,s32,s33,s34,s35,s36,s37,s38,s39,s40,s41,s42,s43,s44,s45,s46,s47,s48,s49,s50,s51,s52,s53,s54,s55,s56,s57,s58,s59,s60,s61,s62,s63,s64,s65,s66,s67,s68,s69,s70,s71] = xMS s1 s2 s3 s4 := by kernel_rfl
theorem xPP {prog : Nat → Option AFunc} (s1 s2 s3 s4 : AV) (H : Heap) : (lim prog).loop xE6 xMR ⟨xMS s1 s2 s3 s4,H⟩ = xBT (lim prog) xE6 xMR (run (lim prog) xJH ⟨xMS s1 s2 s3 s4,H⟩) := xAo _ _ _ _ (by kernel_rfl)
def a69 : AFunc := ⟨72,
 .seq (.region [⟨some 1,.box (.t 0),none⟩,
 ⟨some 2,.mov (.c (.sl true 0 [])),none⟩])
 (.seq (.region [⟨some 12,.faddr 3 (.t 1),none⟩,
 ⟨some 13,.load false 1 (.t 12),none⟩,
 ⟨some 14,.len (.t 13),none⟩,
 ⟨some 15,.mkslice false [.int .i64 0] 8 (.t 14) (.t 14),none⟩,
 ⟨some 3,.mov (.t 15),none⟩])
 (.seq (.region [⟨some 4,.mov (.c (.int .i64 0)),none⟩])
 (.block 0 (.loop xE6 xMR)))),
 [.tmp 2]⟩
def a70 : AFunc := ⟨54,
 .seq (.region [⟨some 4,.mov (.c (.int .i64 0)),none⟩,
 ⟨some 5,.mov (.c (.bool false)),none⟩])
 (.seq (.seq (.region [⟨some 8,.mov (.t 0),none⟩,
 ⟨some 9,.nilchk (.t 8),none⟩,
 ⟨some 10,.faddr 0 (.t 9),none⟩,
 ⟨some 11,.load false 1 (.t 10),none⟩,
 ⟨some 12,.mnil false (.t 11),none⟩])
 (.cond (.t 12)
 (.region [⟨some 13,.mov (.t 0),none⟩,
 ⟨some 14,.mkmap,none⟩,
 ⟨some 15,.nilchk (.t 13),none⟩,
 ⟨some 16,.faddr 0 (.t 15),none⟩,
 ⟨none,.store 1 (.t 16) (.t 14),none⟩])
 (.skip)))
 (.seq (.region [⟨some 18,.mov (.t 0),none⟩,
 ⟨some 19,.nilchk (.t 18),none⟩,
 ⟨some 20,.faddr 0 (.t 19),none⟩,
 ⟨some 21,.load false 1 (.t 20),none⟩,
 ⟨some 22,.mov (.t 1),none⟩,
 ⟨some 23,.mlook [0] true (.int .i64 0) (.t 21) (.t 22),none⟩,
 ⟨some 17,.mov (.t 23),none⟩,
 ⟨some 24,.ext 0 (.t 17),none⟩,
 ⟨some 25,.ext 1 (.t 17),none⟩,
 ⟨some 6,.mov (.t 24),none⟩,
 ⟨some 7,.mov (.t 25),none⟩])
 (.seq (.seq (.region [⟨some 26,.mov (.t 7),none⟩,
 ⟨some 27,.un .not (.t 26),none⟩])
 (.cond (.t 27)
 (.seq (.region [⟨some 28,.mov (.t 0),none⟩,
 ⟨some 29,.nilchk (.t 28),none⟩,
 ⟨some 30,.faddr 1 (.t 29),none⟩,
 ⟨some 31,.load false 1 (.t 30),none⟩,
 ⟨some 32,.len (.t 31),none⟩,
 ⟨some 6,.mov (.t 32),none⟩])
 (.drawl [(35,(1,(43,0)))] 11 [⟨some 33,.mov (.t 0),none⟩,
 ⟨some 34,.nilchk (.t 33),none⟩,
 ⟨some 35,.faddr 0 (.t 34),none⟩,
 ⟨some 36,.load false 1 (.t 35),none⟩,
 ⟨some 37,.mov (.t 1),none⟩,
 ⟨some 38,.mov (.t 0),none⟩,
 ⟨some 39,.mov (.t 6),none⟩,
 ⟨some 40,.mov (.t 0),none⟩,
 ⟨some 41,.nilchk (.t 40),none⟩,
 ⟨some 42,.faddr 1 (.t 41),none⟩,
 ⟨some 43,.load false 1 (.t 42),none⟩,
 ⟨some 44,.mov (.t 1),none⟩,
 ⟨some 45,.bslice true [.int .i64 0] 1 1 [(0,(.t 44))],none⟩,
 ⟨some 46,.append false 1 8 (.t 43) (.t 45),none⟩,
 ⟨some 47,.ment [0] (.int .i64 0) (.t 36) (.t 37),none⟩,
 ⟨some 48,.ext 1 (.t 47),none⟩,
 ⟨none,.mstore (.t 36) (.t 48) (.t 39),none⟩,
 ⟨some 49,.nilchk (.t 38),none⟩,
 ⟨some 50,.faddr 1 (.t 49),none⟩,
 ⟨none,.store 1 (.t 50) (.t 46),none⟩]))
 (.skip)))
 (.seq (.region [⟨some 51,.mov (.t 6),none⟩,
 ⟨some 52,.mov (.t 7),none⟩,
 ⟨some 53,.un .not (.t 52),none⟩,
 ⟨some 4,.mov (.t 51),none⟩,
 ⟨some 5,.mov (.t 53),none⟩])
 (.ret))))),
 [.tmp 4,.tmp 5]⟩
def a71 : AFunc := ⟨4,
 .seq (.region [⟨some 1,.box (.t 0),none⟩,
 ⟨some 2,.mov (.c (.nilf)),none⟩])
 (.seq (.region [⟨some 3,.mkfunc 94 [(.t 1)],none⟩,
 ⟨some 2,.mov (.t 3),none⟩])
 (.ret)),
 [.tmp 2]⟩
def a72 : AFunc := ⟨8,
 .seq (.region [⟨some 2,.mov (.c (.sl true 0 [])),none⟩])
 (.seq (.seq (.region [⟨some 3,.mov (.t 0),none⟩,
 ⟨some 4,.isnil false (.t 3),none⟩])
 (.cond (.t 4)
 (.seq (.region [⟨some 2,.mov (.c (.sl true 0 [])),none⟩])
 (.ret))
 (.skip)))
 (.seq (.region [⟨some 5,.bslice false [.int .u8 0] 1 0 [],none⟩,
 ⟨some 6,.mov (.t 0),none⟩,
 ⟨some 7,.append false 1 1 (.t 5) (.t 6),none⟩,
 ⟨some 2,.mov (.t 7),none⟩])
 (.ret))),
 [.tmp 2]⟩
def a74 : AFunc := ⟨54,
 .seq (.region [⟨some 3,.box (.t 1),none⟩,
 ⟨some 4,.mov (.c (.int .i64 0)),none⟩,
 ⟨some 5,.mov (.c (.bool false)),none⟩])
 (.seq (.seq (.region [⟨some 8,.mov (.t 0),none⟩,
 ⟨some 9,.nilchk (.t 8),none⟩,
 ⟨some 10,.faddr 0 (.t 9),none⟩,
 ⟨some 11,.load false 1 (.t 10),none⟩,
 ⟨some 12,.mnil false (.t 11),none⟩])
 (.cond (.t 12)
 (.region [⟨some 13,.mov (.t 0),none⟩,
 ⟨some 14,.mkmap,none⟩,
 ⟨some 15,.nilchk (.t 13),none⟩,
 ⟨some 16,.faddr 0 (.t 15),none⟩,
 ⟨none,.store 1 (.t 16) (.t 14),none⟩])
 (.skip)))
 (.seq (.draw 9 [⟨some 18,.mov (.t 0),none⟩,
 ⟨some 19,.nilchk (.t 18),none⟩,
 ⟨some 20,.faddr 0 (.t 19),none⟩,
 ⟨some 21,.load false 1 (.t 20),none⟩,
 ⟨some 22,.load true 2 (.t 3),none⟩,
 ⟨some 23,.mlook [2,0,0] true (.int .i64 0) (.t 21) (.t 22),none⟩,
 ⟨some 17,.mov (.t 23),none⟩,
 ⟨some 24,.ext 0 (.t 17),none⟩,
 ⟨some 25,.ext 1 (.t 17),none⟩,
 ⟨some 6,.mov (.t 24),none⟩,
 ⟨some 7,.mov (.t 25),none⟩])
 (.seq (.seq (.region [⟨some 26,.mov (.t 7),none⟩,
 ⟨some 27,.un .not (.t 26),none⟩])
 (.cond (.t 27)
 (.seq (.region [⟨some 28,.mov (.t 0),none⟩,
 ⟨some 29,.nilchk (.t 28),none⟩,
 ⟨some 30,.faddr 1 (.t 29),none⟩,
 ⟨some 31,.load false 1 (.t 30),none⟩,
 ⟨some 32,.len (.t 31),none⟩,
 ⟨some 6,.mov (.t 32),none⟩])
 (.drawl [(35,(1,(43,0))),(3,(2,(43,0)))] 11 [⟨some 33,.mov (.t 0),none⟩,
 ⟨some 34,.nilchk (.t 33),none⟩,
 ⟨some 35,.faddr 0 (.t 34),none⟩,
 ⟨some 36,.load false 1 (.t 35),none⟩,
 ⟨some 37,.load true 2 (.t 3),none⟩,
 ⟨some 38,.mov (.t 0),none⟩,
 ⟨some 39,.mov (.t 6),none⟩,
 ⟨some 40,.mov (.t 0),none⟩,
 ⟨some 41,.nilchk (.t 40),none⟩,
 ⟨some 42,.faddr 1 (.t 41),none⟩,
 ⟨some 43,.load false 1 (.t 42),none⟩,
 ⟨some 44,.load true 2 (.t 3),none⟩,
 ⟨some 45,.bslice true [.int .i64 0,.int .i64 0] 2 1 [(0,(.t 44))],none⟩,
 ⟨some 46,.append false 2 16 (.t 43) (.t 45),none⟩,
 ⟨some 47,.ment [2,0,0] (.int .i64 0) (.t 36) (.t 37),none⟩,
 ⟨some 48,.ext 1 (.t 47),none⟩,
 ⟨none,.mstore (.t 36) (.t 48) (.t 39),none⟩,
 ⟨some 49,.nilchk (.t 38),none⟩,
 ⟨some 50,.faddr 1 (.t 49),none⟩,
 ⟨none,.store 1 (.t 50) (.t 46),none⟩]))
 (.skip)))
 (.seq (.region [⟨some 51,.mov (.t 6),none⟩,
 ⟨some 52,.mov (.t 7),none⟩,
 ⟨some 53,.un .not (.t 52),none⟩,
 ⟨some 4,.mov (.t 51),none⟩,
 ⟨some 5,.mov (.t 53),none⟩])
 (.ret))))),
 [.tmp 4,.tmp 5]⟩
def a75 : AFunc := ⟨4,
 .seq (.region [⟨some 1,.box (.t 0),none⟩,
 ⟨some 2,.mov (.c (.nilf)),none⟩])
 (.seq (.region [⟨some 3,.mkfunc 95 [(.t 1)],none⟩,
 ⟨some 2,.mov (.t 3),none⟩])
 (.ret)),
 [.tmp 2]⟩
def xPQ : ACode :=
 .seq (.region [⟨some 12,.bin .lss (.t 11) (.t 10),none⟩])
 (.seq (.cond (.t 12)
 (.skip)
 (.exit 0))
 (.seq (.block 1 (.seq (.region [⟨some 13,.iaddr 1 (.t 9) (.t 11),none⟩,
 ⟨some 14,.load false 1 (.t 13),none⟩,
 ⟨some 5,.mov (.t 14),none⟩])
 (.seq (.region [⟨some 15,.mov (.t 3),none⟩,
 ⟨some 16,.mov (.t 5),none⟩,
 ⟨some 17,.len (.t 16),none⟩,
 ⟨some 18,.bin .add (.t 15) (.t 17),none⟩,
 ⟨some 3,.mov (.t 18),none⟩])
 (.seq (.region [⟨some 19,.mov (.t 3),none⟩,
 ⟨some 20,.bin .lss (.t 19) (.c (.int .i64 0)),none⟩])
 (.cond (.t 20)
 (.stuck)
 (.skip))))))
 (.region [⟨some 22,.bin .add (.t 11) (.c (.int .i64 1)),none⟩,
 ⟨some 11,.mov (.t 22),none⟩])))
def xZw : ACode := xPQ
def xPR : List Nat := [1,2,4,5,6,7,8,12,13,14,15,16,17,18,19,20,21,22,23,24,25,26,27,28,29,30,31,32,33,34,35]
abbrev xTB (s0 s3 s9 s10 s11 : AV) : List AV := [s0,.any,.any,s3,.any,.any,.any,.any,.any,s9,s10,s11,.any,.any,.any,.any,.any,.any,.any,.any,.any,.any,.any,.any,.any,.any,.any,.any,.any,.any,.any,.any,.any,.any,.any,.any]
theorem xX5 (s0 s1 s2 s3 s4 s5 s6 s7 s8 s9 s10 s11 s12 s13 s14 s15 s16 s17 s18 s19 s20 s21 s22 s23 s24 s25 s26 s27 s28 s29 s30 s31 s32 s33 s34 s35 : AV) : xAM xPR [s0,s1,s2,s3,s4,s5,s6,s7,s8,s9,s10,s11,s12,s13,s14,s15,s16,s17,s18,s19,s20,s21,s22,s23,s24,s25,s26,s27,s28,s29,s30,s31,s32,s33,s34,s35] = xTB s0 s3 s9 s10 s11 := by kernel_rfl
theorem xX6 {prog : Nat → Option AFunc} (s0 s3 s9 s10 s11 : AV) (H : Heap) : (lim prog).loop xPR xZw ⟨xTB s0 s3 s9 s10 s11,H⟩ = xBT (lim prog) xPR xZw (run (lim prog) xPQ ⟨xTB s0 s3 s9 s10 s11,H⟩) := xAo _ _ _ _ (by kernel_rfl)
def xPS : ACode :=
 .seq (.region [⟨some 28,.bin .lss (.t 27) (.t 26),none⟩])
 (.seq (.cond (.t 28)
 (.skip)
 (.exit 2))
 (.seq (.block 3 (.seq (.region [⟨some 29,.iaddr 1 (.t 25) (.t 27),none⟩,
 ⟨some 30,.load false 1 (.t 29),none⟩,
 ⟨some 8,.mov (.t 30),none⟩])
 (.region [⟨some 31,.mov (.t 6),none⟩,
 ⟨some 32,.mov (.t 8),none⟩,
 ⟨some 33,.append false 1 1 (.t 31) (.t 32),none⟩,
 ⟨some 6,.mov (.t 33),none⟩])))
 (.region [⟨some 34,.bin .add (.t 27) (.c (.int .i64 1)),none⟩,
 ⟨some 27,.mov (.t 34),none⟩])))
def xZx : ACode := xPS
def xPT : List Nat := [0,1,2,3,4,5,7,8,9,10,11,12,13,14,15,16,17,18,19,20,21,22,23,24,28,29,30,31,32,33,34,35]
abbrev xTC (s6 s25 s26 s27 : AV) : List AV := [.any,.any,.any,.any,.any,.any,s6,.any,.any,.any,.any,.any,.any,.any,.any,.any,.any,.any,.any,.any,.any,.any,.any,.any,.any,s25,s26,s27,.any,.any,.any,.any,.any,.any,.any,.any]
theorem xX7 (s0 s1 s2 s3 s4 s5 s6 s7 s8 s9 s10 s11 s12 s13 s14 s15 s16 s17 s18 s19 s20 s21 s22 s23 s24 s25 s26 s27 s28 s29 s30 s31 s32 s33 s34 s35 : AV) : xAM xPT [s0,s1,s2,s3,s4,s5,s6,s7,s8,s9,s10,s11,s12,s13,s14,s15,s16,s17,s18,s19,s20,s21,s22,s23,s24,s25,s26,s27,s28,s29,s30,s31,s32,s33,s34,s35] = xTC s6 s25 s26 s27 := by kernel_rfl
theorem xX8 {prog : Nat → Option AFunc} (s6 s25 s26 s27 : AV) (H : Heap) : (lim prog).loop xPT xZx ⟨xTC s6 s25 s26 s27,H⟩ = xBT (lim prog) xPT xZx (run (lim prog) xPS ⟨xTC s6 s25 s26 s27,H⟩) := xAo _ _ _ _ (by kernel_rfl)
def a76 : AFunc := ⟨36,
 .seq (.region [⟨some 2,.mov (.c (.sl true 0 [])),none⟩])
 (.seq (.region [⟨some 3,.mov (.c (.int .i64 0)),none⟩])
 (.seq (.seq (.region [⟨some 9,.mov (.t 0),none⟩,
 ⟨some 10,.len (.t 9),none⟩,
 ⟨some 11,.mov (.c (.int .i64 0)),none⟩])
 (.block 0 (.loop xPR xZw)))
 (.seq (.region [⟨some 23,.mov (.t 3),none⟩,
 ⟨some 24,.icall (.c (.func 96 [])) [(.c (.sl true 0 [])),(.t 23)],none⟩,
 ⟨some 6,.mov (.t 24),none⟩])
 (.seq (.seq (.region [⟨some 25,.mov (.t 0),none⟩,
 ⟨some 26,.len (.t 25),none⟩,
 ⟨some 27,.mov (.c (.int .i64 0)),none⟩])
 (.block 2 (.loop xPT xZx)))
 (.seq (.region [⟨some 35,.mov (.t 6),none⟩,
 ⟨some 2,.mov (.t 35),none⟩])
 (.ret)))))),
 [.tmp 2]⟩
def a77 : AFunc := ⟨10,
 .seq (.region [⟨some 1,.box (.t 0),none⟩,
 ⟨some 2,.box (.c (.agg [.sl true 0 [],.sl true 0 []])),none⟩])
 (.seq (.seq (.region [⟨some 3,.faddr 1 (.t 1),none⟩,
 ⟨some 4,.load false 1 (.t 3),none⟩,
 ⟨some 5,.len (.t 4),none⟩,
 ⟨some 6,.bin .eql (.t 5) (.c (.int .i64 0)),none⟩])
 (.cond (.t 6)
 (.region [⟨some 7,.mkslice false [.int .u8 0] 1 (.c (.int .i64 1)) (.c (.int .i64 1)),none⟩,
 ⟨some 8,.faddr 1 (.t 1),none⟩,
 ⟨none,.store 1 (.t 8) (.t 7),none⟩])
 (.skip)))
 (.seq (.region [⟨some 9,.load true 2 (.t 1),none⟩,
 ⟨none,.store 2 (.t 2) (.t 9),none⟩])
 (.ret))),
 [.cell 2 true 2]⟩
def a80 : AFunc := ⟨9,
 .seq (.region [⟨some 3,.mov (.c (.bool false)),none⟩])
 (.seq (.region [⟨some 4,.mov (.t 0),none⟩,
 ⟨some 5,.conv .i64 (.t 4),none⟩,
 ⟨some 6,.load false 1 (.t 1),none⟩,
 ⟨some 7,.bin .shl (.c (.int .i64 1)) (.t 6),none⟩,
 ⟨some 8,.bin .geq (.t 5) (.t 7),none⟩,
 ⟨some 3,.mov (.t 8),none⟩])
 (.ret)),
 [.tmp 3]⟩
def yA0 : ACode :=
 .seq (.seq (.draw 11 [⟨some 17,.mov (.t 4),none⟩,
 ⟨some 18,.bin .gtr (.t 17) (.c (.int .i64 0)),none⟩,
 ⟨some 19,.mov (.t 18),none⟩,
 ⟨some 20,.mov (.t 0),some (19,true)⟩,
 ⟨some 21,.mov (.t 5),some (19,true)⟩,
 ⟨some 22,.iaddr 1 (.t 20) (.t 21),some (19,true)⟩,
 ⟨some 23,.load false 1 (.t 22),some (19,true)⟩,
 ⟨some 24,.mov (.t 0),some (19,true)⟩,
 ⟨some 25,.mov (.t 4),some (19,true)⟩,
 ⟨some 26,.iaddr 1 (.t 24) (.t 25),some (19,true)⟩,
 ⟨some 27,.load false 1 (.t 26),some (19,true)⟩,
 ⟨some 28,.bin .neq (.t 23) (.t 27),some (19,true)⟩,
 ⟨some 29,.pick (.t 19) (.t 28) (.c (.bool false)),none⟩])
 (.cond (.t 29)
 (.skip)
 (.exit 2)))
 (.block 3 (.region [⟨some 30,.mov (.t 3),none⟩,
 ⟨some 31,.mov (.t 4),none⟩,
 ⟨some 32,.iaddr 1 (.t 30) (.t 31),none⟩,
 ⟨some 33,.load false 1 (.t 32),none⟩,
 ⟨some 4,.mov (.t 33),none⟩]))
def yCj : ACode := yA0
def yA1 : List Nat := [1,2,6,7,8,9,10,11,12,13,14,15,16,17,18,19,20,21,22,23,24,25,26,27,28,29,30,31,32,33,34,35,36,37,38,39,40,41,42,43,44,45,46,47,48,49,50,51,52,53,54,55,56,57,58,59,60,61,62,63,64,65,66]
def yA2 : ACode :=
 .seq (.seq (.region [⟨some 11,.mov (.t 5),none⟩,
 ⟨some 12,.mov (.t 0),none⟩,
 ⟨some 13,.len (.t 12),none⟩,
 ⟨some 14,.bin .lss (.t 11) (.t 13),none⟩])
 (.cond (.t 14)
 (.skip)
 (.exit 0)))
 (.seq (.block 1 (.seq (.block 2 (.loop yA1 yCj))
 (.seq (.seq (.draw 5 [⟨some 34,.mov (.t 0),none⟩,
 ⟨some 35,.mov (.t 5),none⟩,
 ⟨some 36,.iaddr 1 (.t 34) (.t 35),none⟩,
 ⟨some 37,.load false 1 (.t 36),none⟩,
 ⟨some 38,.mov (.t 0),none⟩,
 ⟨some 39,.mov (.t 4),none⟩,
 ⟨some 40,.iaddr 1 (.t 38) (.t 39),none⟩,
 ⟨some 41,.load false 1 (.t 40),none⟩,
 ⟨some 42,.bin .eql (.t 37) (.t 41),none⟩])
 (.cond (.t 42)
 (.region [⟨some 43,.mov (.t 4),none⟩,
 ⟨some 44,.bin .add (.t 43) (.c (.int .i64 1)),none⟩,
 ⟨some 4,.mov (.t 44),none⟩])
 (.skip)))
 (.region [⟨some 45,.mov (.t 3),none⟩,
 ⟨some 46,.mov (.t 5),none⟩,
 ⟨some 47,.bin .add (.t 46) (.c (.int .i64 1)),none⟩,
 ⟨some 48,.mov (.t 4),none⟩,
 ⟨some 49,.iaddr 1 (.t 45) (.t 47),none⟩,
 ⟨none,.store 1 (.t 49) (.t 48),none⟩]))))
 (.region [⟨some 15,.mov (.t 5),none⟩,
 ⟨some 16,.bin .add (.t 15) (.c (.int .i64 1)),none⟩,
 ⟨some 5,.mov (.t 16),none⟩]))
def yCk : ACode := yA2
def yA3 : List Nat := [1,2,6,7,8,9,10,11,12,13,14,15,16,17,18,19,20,21,22,23,24,25,26,27,28,29,30,31,32,33,34,35,36,37,38,39,40,41,42,43,44,45,46,47,48,49,50,51,52,53,54,55,56,57,58,59,60,61,62,63,64,65,66]
def a83 : AFunc := ⟨67,
 .seq (.region [⟨some 2,.mov (.c (.sl true 0 [])),none⟩])
 (.seq (.region [⟨some 7,.mov (.t 0),none⟩,
 ⟨some 8,.len (.t 7),none⟩,
 ⟨some 9,.bin .add (.t 8) (.c (.int .i64 1)),none⟩,
 ⟨some 10,.mkslice false [.int .i64 0] 8 (.t 9) (.t 9),none⟩,
 ⟨some 3,.mov (.t 10),none⟩])
 (.seq (.region [⟨some 4,.mov (.c (.int .i64 0)),none⟩])
 (.seq (.seq (.region [⟨some 5,.mov (.c (.int .i64 1)),none⟩])
 (.block 0 (.loop yA3 yCk)))
 (.seq (.seq (.region [⟨some 50,.mov (.t 0),none⟩,
 ⟨some 51,.len (.t 50),none⟩,
 ⟨some 52,.mov (.t 3),none⟩,
 ⟨some 53,.mov (.t 0),none⟩,
 ⟨some 54,.len (.t 53),none⟩,
 ⟨some 55,.iaddr 1 (.t 52) (.t 54),none⟩,
 ⟨some 56,.load false 1 (.t 55),none⟩,
 ⟨some 57,.bin .sub (.t 51) (.t 56),none⟩,
 ⟨some 6,.mov (.t 57),none⟩])
 (.seq (.region [⟨some 58,.mov (.t 0),none⟩,
 ⟨some 59,.len (.t 58),none⟩,
 ⟨some 60,.mov (.t 6),none⟩,
 ⟨some 61,.bin .rem (.t 59) (.t 60),none⟩,
 ⟨some 62,.bin .eql (.t 61) (.c (.int .i64 0)),none⟩])
 (.cond (.t 62)
 (.seq (.region [⟨some 63,.mov (.t 0),none⟩,
 ⟨some 64,.mov (.t 6),none⟩,
 ⟨some 65,.slice 1 (.t 63) none (some (.t 64)) none,none⟩,
 ⟨some 2,.mov (.t 65),none⟩])
 (.ret))
 (.skip))))
 (.seq (.region [⟨some 66,.mov (.t 0),none⟩,
 ⟨some 2,.mov (.t 66),none⟩])
 (.ret)))))),
 [.tmp 2]⟩
def xJI : ACode :=
 .seq (.region [⟨some 9,.bin .lss (.t 8) (.t 7),none⟩])
 (.seq (.cond (.t 9)
 (.skip)
 (.exit 0))
 (.seq (.block 1 (.seq (.region [⟨some 10,.mov (.t 8),none⟩,
 ⟨some 5,.mov (.t 10),none⟩])
 (.seq (.region [⟨some 11,.mov (.t 1),none⟩,
 ⟨some 12,.mov (.t 0),none⟩,
 ⟨some 13,.mov (.t 5),none⟩,
 ⟨some 14,.iaddr 1 (.t 12) (.t 13),none⟩,
 ⟨some 15,.load false 1 (.t 14),none⟩,
 ⟨some 16,.icall (.t 11) [(.t 15)],none⟩])
 (.cond (.t 16)
 (.seq (.region [⟨some 17,.mov (.t 5),none⟩,
 ⟨some 4,.mov (.t 17),none⟩])
 (.ret))
 (.skip)))))
 (.region [⟨some 18,.bin .add (.t 8) (.c (.int .i64 1)),none⟩,
 ⟨some 8,.mov (.t 18),none⟩])))
def xWU : ACode := xJI
def xMU : List Nat := [2,3,5,6,9,10,11,12,13,14,15,16,17,18]
abbrev xJJ (s0 s1 s4 s7 s8 : AV) : List AV := [s0,s1,.any,.any,s4,.any,.any,s7,s8,.any,.any,.any,.any,.any,.any,.any,.any,.any,.any]
theorem xJK (s0 s1 s2 s3 s4 s5 s6 s7 s8 s9 s10 s11 s12 s13 s14 s15 s16 s17 s18 : AV) : xAM xMU [s0,s1,s2,s3,s4,s5,s6,s7,s8,s9,s10,s11,s12,s13,s14,s15,s16,s17,s18] = xJJ s0 s1 s4 s7 s8 := by kernel_rfl
theorem xTD {prog : Nat → Option AFunc} (s0 s1 s4 s7 s8 : AV) (H : Heap) : (lim prog).loop xMU xWU ⟨xJJ s0 s1 s4 s7 s8,H⟩ = xBT (lim prog) xMU xWU (run (lim prog) xJI ⟨xJJ s0 s1 s4 s7 s8,H⟩) := xAo _ _ _ _ (by kernel_rfl)
def a85 : AFunc := ⟨19,
 .seq (.region [⟨some 4,.mov (.c (.int .i64 0)),none⟩])
 (.seq (.seq (.region [⟨some 6,.mov (.t 0),none⟩,
 ⟨some 7,.len (.t 6),none⟩,
 ⟨some 8,.mov (.c (.int .i64 0)),none⟩])
 (.block 0 (.loop xMU xWU)))
 (.seq (.region [⟨some 4,.mov (.c (.int .i64 (-1))),none⟩])
 (.ret))),
 [.tmp 4]⟩
def a90 : AFunc := ⟨9,
 .seq (.region [⟨some 4,.mov (.c (.bool false)),none⟩])
 (.seq (.region [⟨some 5,.mov (.t 0),none⟩,
 ⟨some 6,.mov (.t 1),none⟩,
 ⟨some 7,.icall (.c (.func 99 [])) [(.t 5),(.t 6)],none⟩,
 ⟨some 8,.bin .geq (.t 7) (.c (.int .i64 0)),none⟩,
 ⟨some 4,.mov (.t 8),none⟩])
 (.ret)),
 [.tmp 4]⟩
def a91 : AFunc := ⟨11,
 .seq (.region [⟨some 3,.mov (.c (.bool false)),none⟩])
 (.seq (.region [⟨some 4,.mov (.t 0),none⟩,
 ⟨some 5,.bin .lss (.t 4) (.c (.int .i64 0)),none⟩,
 ⟨some 6,.mov (.t 5),none⟩,
 ⟨some 7,.mov (.t 0),some (6,false)⟩,
 ⟨some 8,.load false 1 (.t 1),some (6,false)⟩,
 ⟨some 9,.bin .geq (.t 7) (.t 8),some (6,false)⟩,
 ⟨some 10,.pick (.t 6) (.c (.bool true)) (.t 9),none⟩,
 ⟨some 3,.mov (.t 10),none⟩])
 (.ret)),
 [.tmp 3]⟩
def a92 : AFunc := ⟨54,
 .seq (.region [⟨some 3,.box (.t 1),none⟩,
 ⟨some 4,.mov (.c (.int .i64 0)),none⟩,
 ⟨some 5,.mov (.c (.bool false)),none⟩])
 (.seq (.seq (.region [⟨some 8,.mov (.t 0),none⟩,
 ⟨some 9,.nilchk (.t 8),none⟩,
 ⟨some 10,.faddr 0 (.t 9),none⟩,
 ⟨some 11,.load false 1 (.t 10),none⟩,
 ⟨some 12,.mnil false (.t 11),none⟩])
 (.cond (.t 12)
 (.region [⟨some 13,.mov (.t 0),none⟩,
 ⟨some 14,.mkmap,none⟩,
 ⟨some 15,.nilchk (.t 13),none⟩,
 ⟨some 16,.faddr 0 (.t 15),none⟩,
 ⟨none,.store 1 (.t 16) (.t 14),none⟩])
 (.skip)))
 (.seq (.draw 9 [⟨some 18,.mov (.t 0),none⟩,
 ⟨some 19,.nilchk (.t 18),none⟩,
 ⟨some 20,.faddr 0 (.t 19),none⟩,
 ⟨some 21,.load false 1 (.t 20),none⟩,
 ⟨some 22,.load true 2 (.t 3),none⟩,
 ⟨some 23,.mlook [2,1,1] true (.int .i64 0) (.t 21) (.t 22),none⟩,
 ⟨some 17,.mov (.t 23),none⟩,
 ⟨some 24,.ext 0 (.t 17),none⟩,
 ⟨some 25,.ext 1 (.t 17),none⟩,
 ⟨some 6,.mov (.t 24),none⟩,
 ⟨some 7,.mov (.t 25),none⟩])
 (.seq (.seq (.region [⟨some 26,.mov (.t 7),none⟩,
 ⟨some 27,.un .not (.t 26),none⟩])
 (.cond (.t 27)
 (.seq (.region [⟨some 28,.mov (.t 0),none⟩,
 ⟨some 29,.nilchk (.t 28),none⟩,
 ⟨some 30,.faddr 1 (.t 29),none⟩,
 ⟨some 31,.load false 1 (.t 30),none⟩,
 ⟨some 32,.len (.t 31),none⟩,
 ⟨some 6,.mov (.t 32),none⟩])
 (.drawl [(35,(1,(43,0))),(3,(2,(43,0)))] 11 [⟨some 33,.mov (.t 0),none⟩,
 ⟨some 34,.nilchk (.t 33),none⟩,
 ⟨some 35,.faddr 0 (.t 34),none⟩,
 ⟨some 36,.load false 1 (.t 35),none⟩,
 ⟨some 37,.load true 2 (.t 3),none⟩,
 ⟨some 38,.mov (.t 0),none⟩,
 ⟨some 39,.mov (.t 6),none⟩,
 ⟨some 40,.mov (.t 0),none⟩,
 ⟨some 41,.nilchk (.t 40),none⟩,
 ⟨some 42,.faddr 1 (.t 41),none⟩,
 ⟨some 43,.load false 1 (.t 42),none⟩,
 ⟨some 44,.load true 2 (.t 3),none⟩,
 ⟨some 45,.bslice true [.str ⟨#[]⟩,.str ⟨#[]⟩] 2 1 [(0,(.t 44))],none⟩,
 ⟨some 46,.append false 2 32 (.t 43) (.t 45),none⟩,
 ⟨some 47,.ment [2,1,1] (.int .i64 0) (.t 36) (.t 37),none⟩,
 ⟨some 48,.ext 1 (.t 47),none⟩,
 ⟨none,.mstore (.t 36) (.t 48) (.t 39),none⟩,
 ⟨some 49,.nilchk (.t 38),none⟩,
 ⟨some 50,.faddr 1 (.t 49),none⟩,
 ⟨none,.store 1 (.t 50) (.t 46),none⟩]))
 (.skip)))
 (.seq (.region [⟨some 51,.mov (.t 6),none⟩,
 ⟨some 52,.mov (.t 7),none⟩,
 ⟨some 53,.un .not (.t 52),none⟩,
 ⟨some 4,.mov (.t 51),none⟩,
 ⟨some 5,.mov (.t 53),none⟩])
 (.ret))))),
 [.tmp 4,.tmp 5]⟩
def xPU : ACode :=
 .seq (.seq (.region [⟨some 4,.mov (.t 3),none⟩,
 ⟨some 5,.load false 1 (.t 1),none⟩,
 ⟨some 6,.nilchk (.t 5),none⟩,
 ⟨some 7,.faddr 1 (.t 6),none⟩,
 ⟨some 8,.load false 1 (.t 7),none⟩,
 ⟨some 9,.len (.t 8),none⟩,
 ⟨some 10,.bin .lss (.t 4) (.t 9),none⟩])
 (.cond (.t 10)
 (.skip)
 (.exit 0)))
 (.seq (.block 1 (.seq (.region [⟨some 13,.mov (.t 0),none⟩,
 ⟨some 14,.mov (.t 3),none⟩,
 ⟨some 15,.load false 1 (.t 1),none⟩,
 ⟨some 16,.nilchk (.t 15),none⟩,
 ⟨some 17,.faddr 1 (.t 16),none⟩,
 ⟨some 18,.load false 1 (.t 17),none⟩,
 ⟨some 19,.mov (.t 3),none⟩,
 ⟨some 20,.iaddr 1 (.t 18) (.t 19),none⟩,
 ⟨some 21,.load false 1 (.t 20),none⟩,
 ⟨some 22,.icall (.t 13) [(.t 14),(.t 21)],none⟩,
 ⟨some 23,.un .not (.t 22),none⟩])
 (.cond (.t 23)
 (.ret)
 (.skip))))
 (.region [⟨some 11,.mov (.t 3),none⟩,
 ⟨some 12,.bin .add (.t 11) (.c (.int .i64 1)),none⟩,
 ⟨some 3,.mov (.t 12),none⟩]))
def xO2 : ACode := xPU
def xGc : List Nat := [2,4,5,6,7,8,9,10,11,12,13,14,15,16,17,18,19,20,21,22,23]
abbrev xGd (s0 s1 s3 : AV) : List AV := [s0,s1,.any,s3,.any,.any,.any,.any,.any,.any,.any,.any,.any,.any,.any,.any,.any,.any,.any,.any,.any,.any,.any,.any]
theorem xTE (s0 s1 s2 s3 s4 s5 s6 s7 s8 s9 s10 s11 s12 s13 s14 s15 s16 s17 s18 s19 s20 s21 s22 s23 : AV) : xAM xGc [s0,s1,s2,s3,s4,s5,s6,s7,s8,s9,s10,s11,s12,s13,s14,s15,s16,s17,s18,s19,s20,s21,s22,s23] = xGd s0 s1 s3 := by kernel_rfl
theorem xX9 {prog : Nat → Option AFunc} (s0 s1 s3 : AV) (H : Heap) : (lim prog).loop xGc xO2 ⟨xGd s0 s1 s3,H⟩ = xBT (lim prog) xGc xO2 (run (lim prog) xPU ⟨xGd s0 s1 s3,H⟩) := xAo _ _ _ _ (by kernel_rfl)
def a94 : AFunc := ⟨24,
 .seq (.region [⟨some 3,.mov (.c (.int .i64 0)),none⟩])
 (.block 0 (.loop xGc xO2)),
 []⟩
def xMV : ACode :=
 .seq (.seq (.region [⟨some 4,.mov (.t 3),none⟩,
 ⟨some 5,.load false 1 (.t 1),none⟩,
 ⟨some 6,.nilchk (.t 5),none⟩,
 ⟨some 7,.faddr 1 (.t 6),none⟩,
 ⟨some 8,.load false 1 (.t 7),none⟩,
 ⟨some 9,.len (.t 8),none⟩,
 ⟨some 10,.bin .lss (.t 4) (.t 9),none⟩])
 (.cond (.t 10)
 (.skip)
 (.exit 0)))
 (.seq (.block 1 (.seq (.region [⟨some 13,.mov (.t 0),none⟩,
 ⟨some 14,.mov (.t 3),none⟩,
 ⟨some 15,.load false 1 (.t 1),none⟩,
 ⟨some 16,.nilchk (.t 15),none⟩,
 ⟨some 17,.faddr 1 (.t 16),none⟩,
 ⟨some 18,.load false 1 (.t 17),none⟩,
 ⟨some 19,.mov (.t 3),none⟩,
 ⟨some 20,.iaddr 2 (.t 18) (.t 19),none⟩,
 ⟨some 21,.load true 2 (.t 20),none⟩,
 ⟨some 22,.icall (.t 13) [(.t 14),(.t 21)],none⟩,
 ⟨some 23,.un .not (.t 22),none⟩])
 (.cond (.t 23)
 (.ret)
 (.skip))))
 (.region [⟨some 11,.mov (.t 3),none⟩,
 ⟨some 12,.bin .add (.t 11) (.c (.int .i64 1)),none⟩,
 ⟨some 3,.mov (.t 12),none⟩]))
def xLt : ACode := xMV
def xEj : List Nat := [2,4,5,6,7,8,9,10,11,12,13,14,15,16,17,18,19,20,21,22,23]
abbrev xDW (s0 s1 s3 : AV) : List AV := [s0,s1,.any,s3,.any,.any,.any,.any,.any,.any,.any,.any,.any,.any,.any,.any,.any,.any,.any,.any,.any,.any,.any,.any]
theorem xMW (s0 s1 s2 s3 s4 s5 s6 s7 s8 s9 s10 s11 s12 s13 s14 s15 s16 s17 s18 s19 s20 s21 s22 s23 : AV) : xAM xEj [s0,s1,s2,s3,s4,s5,s6,s7,s8,s9,s10,s11,s12,s13,s14,s15,s16,s17,s18,s19,s20,s21,s22,s23] = xDW s0 s1 s3 := by kernel_rfl
theorem xTF {prog : Nat → Option AFunc} (s0 s1 s3 : AV) (H : Heap) : (lim prog).loop xEj xLt ⟨xDW s0 s1 s3,H⟩ = xBT (lim prog) xEj xLt (run (lim prog) xMV ⟨xDW s0 s1 s3,H⟩) := xAo _ _ _ _ (by kernel_rfl)
def a95 : AFunc := ⟨24,
 .seq (.region [⟨some 3,.mov (.c (.int .i64 0)),none⟩])
 (.block 0 (.loop xEj xLt)),
 []⟩
def a96 : AFunc := ⟨27,
 .seq (.region [⟨some 4,.mov (.c (.sl true 0 [])),none⟩])
 (.seq (.seq (.region [⟨some 5,.mov (.t 1),none⟩,
 ⟨some 6,.bin .lss (.t 5) (.c (.int .i64 0)),none⟩])
 (.cond (.t 6)
 (.stuck)
 (.skip)))
 (.seq (.seq (.region [⟨some 8,.mov (.t 1),none⟩,
 ⟨some 9,.mov (.t 0),none⟩,
 ⟨some 10,.cap (.t 9),none⟩,
 ⟨some 11,.mov (.t 0),none⟩,
 ⟨some 12,.len (.t 11),none⟩,
 ⟨some 13,.bin .sub (.t 10) (.t 12),none⟩,
 ⟨some 14,.bin .sub (.t 8) (.t 13),none⟩,
 ⟨some 1,.mov (.t 14),none⟩])
 (.seq (.region [⟨some 15,.mov (.t 1),none⟩,
 ⟨some 16,.bin .gtr (.t 15) (.c (.int .i64 0)),none⟩])
 (.cond (.t 16)
 (.region [⟨some 17,.mov (.t 0),none⟩,
 ⟨some 18,.mov (.t 0),none⟩,
 ⟨some 19,.cap (.t 18),none⟩,
 ⟨some 20,.slice 1 (.t 17) none (some (.t 19)) none,none⟩,
 ⟨some 21,.mov (.t 1),none⟩,
 ⟨some 22,.appendz [.int .u8 0] 1 (.t 20) (.t 21),none⟩,
 ⟨some 23,.mov (.t 0),none⟩,
 ⟨some 24,.len (.t 23),none⟩,
 ⟨some 25,.slice 1 (.t 22) none (some (.t 24)) none,none⟩,
 ⟨some 0,.mov (.t 25),none⟩])
 (.skip))))
 (.seq (.region [⟨some 26,.mov (.t 0),none⟩,
 ⟨some 4,.mov (.t 26),none⟩])
 (.ret)))),
 [.tmp 4]⟩
def xJL : ACode :=
 .seq (.region [⟨some 9,.bin .lss (.t 8) (.t 7),none⟩])
 (.seq (.cond (.t 9)
 (.skip)
 (.exit 0))
 (.seq (.block 1 (.seq (.region [⟨some 10,.mov (.t 8),none⟩,
 ⟨some 5,.mov (.t 10),none⟩])
 (.seq (.region [⟨some 11,.mov (.t 1),none⟩,
 ⟨some 12,.mov (.t 0),none⟩,
 ⟨some 13,.mov (.t 5),none⟩,
 ⟨some 14,.iaddr 1 (.t 12) (.t 13),none⟩,
 ⟨some 15,.load false 1 (.t 14),none⟩,
 ⟨some 16,.icall (.t 11) [(.t 15)],none⟩])
 (.cond (.t 16)
 (.seq (.region [⟨some 17,.mov (.t 5),none⟩,
 ⟨some 4,.mov (.t 17),none⟩])
 (.ret))
 (.skip)))))
 (.region [⟨some 18,.bin .add (.t 8) (.c (.int .i64 1)),none⟩,
 ⟨some 8,.mov (.t 18),none⟩])))
def xWV : ACode := xJL
def xMX : List Nat := [2,3,5,6,9,10,11,12,13,14,15,16,17,18]
abbrev xJM (s0 s1 s4 s7 s8 : AV) : List AV := [s0,s1,.any,.any,s4,.any,.any,s7,s8,.any,.any,.any,.any,.any,.any,.any,.any,.any,.any]
theorem xJN (s0 s1 s2 s3 s4 s5 s6 s7 s8 s9 s10 s11 s12 s13 s14 s15 s16 s17 s18 : AV) : xAM xMX [s0,s1,s2,s3,s4,s5,s6,s7,s8,s9,s10,s11,s12,s13,s14,s15,s16,s17,s18] = xJM s0 s1 s4 s7 s8 := by kernel_rfl
theorem xTG {prog : Nat → Option AFunc} (s0 s1 s4 s7 s8 : AV) (H : Heap) : (lim prog).loop xMX xWV ⟨xJM s0 s1 s4 s7 s8,H⟩ = xBT (lim prog) xMX xWV (run (lim prog) xJL ⟨xJM s0 s1 s4 s7 s8,H⟩) := xAo _ _ _ _ (by kernel_rfl)
def a99 : AFunc := ⟨19,
 .seq (.region [⟨some 4,.mov (.c (.int .i64 0)),none⟩])
 (.seq (.seq (.region [⟨some 6,.mov (.t 0),none⟩,
 ⟨some 7,.len (.t 6),none⟩,
 ⟨some 8,.mov (.c (.int .i64 0)),none⟩])
 (.block 0 (.loop xMX xWV)))
 (.seq (.region [⟨some 4,.mov (.c (.int .i64 (-1))),none⟩])
 (.ret))),
 [.tmp 4]⟩
def xAI : Nat → Option AFunc
 | 6 => some a6
 | 11 => some a11
 | 13 => some a13
 | 16 => some a16
 | 18 => some a18
 | 21 => some a21
 | 23 => some a23
 | 24 => some a24
 | 25 => some a25
 | 29 => some a29
 | 31 => some a31
 | 33 => some a33
 | 35 => some a35
 | 37 => some a37
 | 42 => some a42
 | 43 => some a43
 | 45 => some a45
 | 47 => some a47
 | 49 => some a49
 | 52 => some a52
 | 53 => some a53
 | 54 => some a54
 | 55 => some a55
 | 59 => some a59
 | 60 => some a60
 | 61 => some a61
 | 65 => some a65
 | 66 => some a66
 | 67 => some a67
 | 68 => some a68
 | 69 => some a69
 | 70 => some a70
 | 71 => some a71
 | 72 => some a72
 | 74 => some a74
 | 75 => some a75
 | 76 => some a76
 | 77 => some a77
 | 80 => some a80
 | 83 => some a83
 | 85 => some a85
 | 90 => some a90
 | 91 => some a91
 | 92 => some a92
 | 94 => some a94
 | 95 => some a95
 | 96 => some a96
 | 99 => some a99
 | _ => none
theorem a6p (args : List AV) : (lim xAI).pcall 6 args = xBj (lim xAI) a6 args := xAH rfl args
theorem yDx (args : List AV) : (lim xAI).pcall 11 args = xBj (lim xAI) a11 args := xAH rfl args
theorem yB2 (args : List AV) : (lim xAI).pcall 16 args = xBj (lim xAI) a16 args := xAH rfl args
theorem yB3 (caps args : List AV) (H : Heap) : (lim xAI).icall (.func 16 caps) args H = xB1 (lim xAI) a16 (args ++ caps) H := xAL rfl caps args H
theorem yC8 (args : List AV) : (lim xAI).pcall 21 args = xBj (lim xAI) a21 args := xAH rfl args
theorem yC9 (args : List AV) : (lim xAI).pcall 23 args = xBj (lim xAI) a23 args := xAH rfl args
theorem yDa (args : List AV) : (lim xAI).pcall 24 args = xBj (lim xAI) a24 args := xAH rfl args
theorem yDb (args : List AV) : (lim xAI).pcall 29 args = xBj (lim xAI) a29 args := xAH rfl args
theorem yDc (args : List AV) : (lim xAI).pcall 35 args = xBj (lim xAI) a35 args := xAH rfl args
theorem yA4 (args : List AV) : (lim xAI).pcall 37 args = xBj (lim xAI) a37 args := xAH rfl args
theorem yDy (caps args : List AV) (H : Heap) : (lim xAI).icall (.func 52 caps) args H = xB1 (lim xAI) a52 (args ++ caps) H := xAL rfl caps args H
theorem yDz (caps args : List AV) (H : Heap) : (lim xAI).icall (.func 53 caps) args H = xB1 (lim xAI) a53 (args ++ caps) H := xAL rfl caps args H
theorem yDA (args : List AV) : (lim xAI).pcall 59 args = xBj (lim xAI) a59 args := xAH rfl args
theorem yDB (args : List AV) : (lim xAI).pcall 60 args = xBj (lim xAI) a60 args := xAH rfl args
theorem yDC (args : List AV) : (lim xAI).pcall 61 args = xBj (lim xAI) a61 args := xAH rfl args
theorem yDd (args : List AV) : (lim xAI).pcall 66 args = xBj (lim xAI) a66 args := xAH rfl args
theorem yDe (args : List AV) : (lim xAI).pcall 67 args = xBj (lim xAI) a67 args := xAH rfl args
theorem yDD (args : List AV) : (lim xAI).pcall 69 args = xBj (lim xAI) a69 args := xAH rfl args
theorem yB4 (caps args : List AV) (H : Heap) : (lim xAI).icall (.func 70 caps) args H = xB1 (lim xAI) a70 (args ++ caps) H := xAL rfl caps args H
theorem yDE (caps args : List AV) (H : Heap) : (lim xAI).icall (.func 71 caps) args H = xB1 (lim xAI) a71 (args ++ caps) H := xAL rfl caps args H
theorem yDF (args : List AV) : (lim xAI).pcall 72 args = xBj (lim xAI) a72 args := xAH rfl args
theorem yB5 (caps args : List AV) (H : Heap) : (lim xAI).icall (.func 74 caps) args H = xB1 (lim xAI) a74 (args ++ caps) H := xAL rfl caps args H
theorem yDf (caps args : List AV) (H : Heap) : (lim xAI).icall (.func 75 caps) args H = xB1 (lim xAI) a75 (args ++ caps) H := xAL rfl caps args H
theorem yDg (args : List AV) : (lim xAI).pcall 76 args = xBj (lim xAI) a76 args := xAH rfl args
theorem yDh (caps args : List AV) (H : Heap) : (lim xAI).icall (.func 85 caps) args H = xB1 (lim xAI) a85 (args ++ caps) H := xAL rfl caps args H
theorem yDG (caps args : List AV) (H : Heap) : (lim xAI).icall (.func 90 caps) args H = xB1 (lim xAI) a90 (args ++ caps) H := xAL rfl caps args H
theorem yDH (caps args : List AV) (H : Heap) : (lim xAI).icall (.func 91 caps) args H = xB1 (lim xAI) a91 (args ++ caps) H := xAL rfl caps args H
theorem yCl (caps args : List AV) (H : Heap) : (lim xAI).icall (.func 92 caps) args H = xB1 (lim xAI) a92 (args ++ caps) H := xAL rfl caps args H
theorem yDI (caps args : List AV) (H : Heap) : (lim xAI).icall (.func 94 caps) args H = xB1 (lim xAI) a94 (args ++ caps) H := xAL rfl caps args H
theorem yDJ (caps args : List AV) (H : Heap) : (lim xAI).icall (.func 95 caps) args H = xB1 (lim xAI) a95 (args ++ caps) H := xAL rfl caps args H
theorem yDi (caps args : List AV) (H : Heap) : (lim xAI).icall (.func 96 caps) args H = xB1 (lim xAI) a96 (args ++ caps) H := xAL rfl caps args H
theorem yDj (caps args : List AV) (H : Heap) : (lim xAI).icall (.func 99 caps) args H = xB1 (lim xAI) a99 (args ++ caps) H := xAL rfl caps args H
end Go.Abs.Mealy
