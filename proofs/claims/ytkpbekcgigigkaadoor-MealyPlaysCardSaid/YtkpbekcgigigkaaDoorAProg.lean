/- The functions in the interpreter's words. -/
import Derived.Test.YtkpbekcgigigkaaDoorAbsEnc
import Derived.Test.YtkpbekcgigigkaaDoorProg
namespace Go.Abs.Mealy
open Go Go.Abs
def xVH : ACode :=
 .seq (.seq (.region [⟨some 94,.mov (.t 13),none⟩,
 ⟨some 95,.mov (.t 2),none⟩,
 ⟨some 96,.conv .i64 (.t 95),none⟩,
 ⟨some 97,.bin .lss (.t 94) (.t 96),none⟩])
 (.cond (.t 97)
 (.skip)
 (.exit 0)))
 (.seq (.block 1 (.seq (.region [⟨some 100,.load true 2 (.t 7),none⟩,
 ⟨some 101,.mov (.t 13),none⟩,
 ⟨some 102,.call 47 [(.t 100),(.t 101)],none⟩,
 ⟨some 14,.mov (.t 102),none⟩])
 (.seq (.seq (.draw 9 [⟨some 103,.mov (.t 14),none⟩,
 ⟨some 104,.faddr 0 (.t 3),none⟩,
 ⟨some 105,.load false 1 (.t 104),none⟩,
 ⟨some 106,.conv .u64 (.t 105),none⟩,
 ⟨some 107,.bin .shl (.c (.int .u8 1)) (.t 106),none⟩,
 ⟨some 108,.bin .sub (.t 107) (.c (.int .u8 1)),none⟩,
 ⟨some 109,.bin .and (.t 103) (.t 108),none⟩,
 ⟨some 110,.faddr 3 (.t 4),none⟩,
 ⟨some 111,.load false 1 (.t 110),none⟩,
 ⟨some 112,.mov (.t 12),none⟩,
 ⟨some 113,.iaddr 1 (.t 111) (.t 112),none⟩,
 ⟨some 114,.load false 1 (.t 113),none⟩,
 ⟨some 115,.bin .neq (.t 109) (.t 114),none⟩])
 (.cond (.t 115)
 (.seq (.region [⟨some 6,.mov (.c (.bool false)),none⟩])
 (.ret))
 (.skip)))
 (.seq (.region [⟨some 116,.mov (.t 14),none⟩,
 ⟨some 117,.faddr 0 (.t 3),none⟩,
 ⟨some 118,.load false 1 (.t 117),none⟩,
 ⟨some 119,.conv .u64 (.t 118),none⟩,
 ⟨some 120,.bin .shr (.t 116) (.t 119),none⟩,
 ⟨some 121,.conv .i64 (.t 120),none⟩,
 ⟨some 15,.mov (.t 121),none⟩])
 (.seq (.seq (.region [⟨some 122,.mov (.t 15),none⟩,
 ⟨some 123,.faddr 4 (.t 4),none⟩,
 ⟨some 124,.load false 1 (.t 123),none⟩,
 ⟨some 125,.mov (.t 12),none⟩,
 ⟨some 126,.iaddr 1 (.t 124) (.t 125),none⟩,
 ⟨some 127,.load false 1 (.t 126),none⟩,
 ⟨some 128,.len (.t 127),none⟩,
 ⟨some 129,.bin .geq (.t 122) (.t 128),none⟩])
 (.cond (.t 129)
 (.seq (.region [⟨some 6,.mov (.c (.bool false)),none⟩])
 (.ret))
 (.skip)))
 (.region [⟨some 130,.faddr 4 (.t 4),none⟩,
 ⟨some 131,.load false 1 (.t 130),none⟩,
 ⟨some 132,.mov (.t 12),none⟩,
 ⟨some 133,.iaddr 1 (.t 131) (.t 132),none⟩,
 ⟨some 134,.load false 1 (.t 133),none⟩,
 ⟨some 135,.mov (.t 15),none⟩,
 ⟨some 136,.iaddr 1 (.t 134) (.t 135),none⟩,
 ⟨some 137,.load false 1 (.t 136),none⟩,
 ⟨some 12,.mov (.t 137),none⟩]))))))
 (.region [⟨some 98,.mov (.t 13),none⟩,
 ⟨some 99,.bin .add (.t 98) (.c (.int .i64 1)),none⟩,
 ⟨some 13,.mov (.t 99),none⟩]))
def yA3 : ACode := xVH
def xSw : List Nat := [0,1,5,8,9,10,11,14,15,16,17,18,19,20,21,22,23,24,25,26,27,28,29,30,31,32,33,34,35,36,37,38,39,40,41,42,43,44,45,46,47,48,49,50,51,52,53,54,55,56,57,58,59,60,61,62,63,64,65,66,67,68,69,70,71,72,73,74,75,76,77,78,79,80,81,82,83,84,85,86,87,88,89,90,91,92,93,94,95,96,97,98,99,100,101,102,103,104,105,106,107,108,109,110,111,112,113,114,115,116,117,118,119,120,121,122,123,124,125,126,127,128,129,130,131,132,133,134,135,136,137]
abbrev xSx (s2 s3 s4 s6 s7 s12 s13 : AV) : List AV := [.any,.any,s2,s3,s4,.any,s6,s7,.any,.any,.any,.any,s12,s13,.any,.any,.any,.any,.any,.any,.any,.any,.any,.any,.any,.any,.any,.any,.any,.any,.any,.any,.any,.any,.any,.any,.any,.any,.any,.any,.any,.any,.any,.any,.any,.any,.any,.any,.any,.any,.any,.any,.any,.any,.any,.any,.any,.any,.any,.any,.any,.any,.any,.any,.any,.any,.any,.any,.any,.any,.any,.any,.any,.any,.any,.any,.any,.any,.any,.any,.any,.any,.any,.any,.any,.any,.any,.any,.any,.any,.any,.any,.any,.any,.any,.any,.any,.any,.any,.any,.any,.any,.any,.any,.any,.any,.any,.any,.any,.any,.any,.any,.any,.any,.any,.any,.any,.any,.any,.any,.any,.any,.any,.any,.any,.any,.any,.any,.any,.any,.any,.any,.any,.any,.any,.any,.any,.any]
theorem xVI (s0 s1 s2 s3 s4 s5 s6 s7 s8 s9 s10 s11 s12 s13 s14 s15 s16 s17 s18 s19 s20 s21 s22 s23 s24 s25 s26 s27 s28 s29 s30 s31 s32 s33 s34 s35 s36 s37 s38 s39 s40 s41 s42 s43 s44 s45 s46 s47 s48 s49 s50 s51 s52 s53 s54 s55 s56 s57 s58 s59 s60 s61 s62 s63 s64 s65 s66 s67 s68 s69 s70 s71 s72 s73 s74 s75 s76 s77 s78 s79 s80 s81 s82 s83 s84 s85 s86 s87 s88 s89 s90 s91 s92 s93 s94 s95 s96 s97 s98 s99 s100 s101 s102 s103 s104 s105 s106 s107 s108 s109 s110 s111 s112 s113 s114 s115 s116 s117 s118 s119 s120 s121 s122 s123 s124 s125 s126 s127 s128 s129 s130 s131 s132 s133 s134 s135 s136 s137 : AV) : xAG xSw [s0,s1,s2,s3,s4,s5,s6,s7,s8,s9,s10,s11,s12,s13,s14,s15,s16,s17,s18,s19,s20,s21,s22,s23,s24,s25,s26,s27,s28,s29,s30,s31,s32,s33,s34,s35,s36,s37,s38,s39,s40,s41,s42,s43,s44,s45,s46,s47,s48,s49,s50,s51,s52,s53,s54,s55,s56,s57,s58,s59,s60,s61,s62,s63,s64,s65,s66,s67,s68,s69,s70,s71,s72,s73,s74,s75,s76,s77,s78,s79,s80,s81,s82,s83,s84,s85,s86,s87,s88,s89,s90,s91,s92,s93,s94,s95,s96,s97,s98,s99,s100,s101,s102,s103,s104,s105,s106,s107,s108,s109,s110,s111,s112,s113,s114,s115,s116,s117,s118,s119,s120,s121,s122,s123,s124,s125,s126,s127,s128,s129,s130,s131,s132,s133,s134,s135,s136,s137] = xSx s2 s3 s4 s6 s7 s12 s13 := by kernel_rfl
theorem xZu {prog : Nat → Option AFunc} (s2 s3 s4 s6 s7 s12 s13 : AV) (H : Heap) : (lim prog).loop xSw yA3 ⟨xSx s2 s3 s4 s6 s7 s12 s13,H⟩ = xBG (lim prog) xSw yA3 (run (lim prog) xVH ⟨xSx s2 s3 s4 s6 s7 s12 s13,H⟩) := xAo _ _ _ _ (by kernel_rfl)
def a9 : AFunc := ⟨138,
 .seq (.region [⟨some 3,.box (.t 0),none⟩,
 ⟨some 4,.box (.t 1),none⟩,
 ⟨some 6,.mov (.c (.bool false)),none⟩])
 (.seq (.seq (.region [⟨some 16,.load true 5 (.t 3),none⟩,
 ⟨some 17,.bslice true [.int .i64 0,.int .i64 0,.int .i64 0,.sl true 0 [],.sl true 0 []] 5 1 [(0,(.t 16))],none⟩,
 ⟨some 18,.call 11 [(.t 17)],none⟩,
 ⟨some 19,.mov (.t 18),none⟩,
 ⟨some 20,.load true 5 (.t 4),some (19,false)⟩,
 ⟨some 21,.call 30 [(.t 20)],some (19,false)⟩,
 ⟨some 22,.pick (.t 19) (.c (.bool true)) (.t 21),none⟩,
 ⟨some 23,.mov (.t 22),none⟩,
 ⟨some 24,.call 13 [],some (23,false)⟩,
 ⟨some 25,.un .not (.t 24),some (23,false)⟩,
 ⟨some 26,.pick (.t 23) (.c (.bool true)) (.t 25),none⟩])
 (.cond (.t 26)
 (.seq (.region [⟨some 27,.call 13 [],none⟩,
 ⟨some 6,.mov (.t 27),none⟩])
 (.ret))
 (.skip)))
 (.seq (.region [⟨some 29,.load true 5 (.t 3),none⟩,
 ⟨some 30,.load true 5 (.t 4),none⟩,
 ⟨some 31,.call 31 [(.t 29),(.t 30)],none⟩,
 ⟨some 28,.mov (.t 31),none⟩,
 ⟨some 32,.ext 0 (.t 28),none⟩,
 ⟨some 33,.ext 1 (.t 28),none⟩,
 ⟨some 7,.box (.c (.agg [.sl true 0 [],.sl true 0 []])),none⟩,
 ⟨none,.store 2 (.t 7) (.t 32),none⟩,
 ⟨some 8,.mov (.t 33),none⟩])
 (.seq (.seq (.region [⟨some 34,.mov (.t 8),none⟩,
 ⟨some 35,.bin .neq (.t 34) (.c (.int .i64 0)),none⟩])
 (.cond (.t 35)
 (.seq (.region [⟨some 36,.faddr 0 (.t 7),none⟩,
 ⟨some 37,.load false 1 (.t 36),none⟩,
 ⟨some 38,.len (.t 37),none⟩,
 ⟨some 39,.faddr 1 (.t 7),none⟩,
 ⟨some 40,.load false 1 (.t 39),none⟩,
 ⟨some 41,.len (.t 40),none⟩,
 ⟨some 42,.bin .add (.t 38) (.t 41),none⟩,
 ⟨some 43,.bin .eql (.t 42) (.c (.int .i64 0)),none⟩,
 ⟨some 6,.mov (.t 43),none⟩])
 (.ret))
 (.skip)))
 (.seq (.seq (.region [⟨some 44,.load true 5 (.t 3),none⟩,
 ⟨some 45,.call 22 [(.t 44)],none⟩,
 ⟨some 46,.bin .neq (.t 45) (.c (.int .i64 0)),none⟩,
 ⟨some 47,.mov (.t 46),none⟩,
 ⟨some 48,.load true 5 (.t 4),some (47,false)⟩,
 ⟨some 49,.call 34 [(.t 48)],some (47,false)⟩,
 ⟨some 50,.bin .neq (.t 49) (.c (.int .i64 0)),some (47,false)⟩,
 ⟨some 51,.pick (.t 47) (.c (.bool true)) (.t 50),none⟩,
 ⟨some 52,.mov (.t 51),none⟩,
 ⟨some 53,.faddr 0 (.t 3),some (52,false)⟩,
 ⟨some 54,.load false 1 (.t 53),some (52,false)⟩,
 ⟨some 55,.faddr 0 (.t 4),some (52,false)⟩,
 ⟨some 56,.load false 1 (.t 55),some (52,false)⟩,
 ⟨some 57,.bin .neq (.t 54) (.t 56),some (52,false)⟩,
 ⟨some 58,.pick (.t 52) (.c (.bool true)) (.t 57),none⟩,
 ⟨some 59,.mov (.t 58),none⟩,
 ⟨some 60,.faddr 1 (.t 3),some (59,false)⟩,
 ⟨some 61,.load false 1 (.t 60),some (59,false)⟩,
 ⟨some 62,.faddr 1 (.t 4),some (59,false)⟩,
 ⟨some 63,.load false 1 (.t 62),some (59,false)⟩,
 ⟨some 64,.bin .neq (.t 61) (.t 63),some (59,false)⟩,
 ⟨some 65,.pick (.t 59) (.c (.bool true)) (.t 64),none⟩])
 (.cond (.t 65)
 (.seq (.region [⟨some 6,.mov (.c (.bool false)),none⟩])
 (.ret))
 (.skip)))
 (.seq (.region [⟨some 66,.load true 2 (.t 7),none⟩,
 ⟨some 67,.faddr 0 (.t 3),none⟩,
 ⟨some 68,.load false 1 (.t 67),none⟩,
 ⟨some 69,.conv .u64 (.t 68),none⟩,
 ⟨some 70,.bin .shl (.c (.int .u8 1)) (.t 69),none⟩,
 ⟨some 71,.bin .sub (.t 70) (.c (.int .u8 1)),none⟩,
 ⟨some 72,.call 44 [(.t 66),(.t 71)],none⟩,
 ⟨some 9,.box (.c (.agg [.sl true 0 [],.sl true 0 []])),none⟩,
 ⟨none,.store 2 (.t 9) (.t 72),none⟩])
 (.seq (.seq (.region [⟨some 73,.load true 2 (.t 9),none⟩,
 ⟨some 74,.faddr 0 (.t 3),none⟩,
 ⟨some 75,.load false 1 (.t 74),none⟩,
 ⟨some 76,.call 45 [(.t 73),(.t 75)],none⟩,
 ⟨some 77,.bin .eql (.t 76) (.c (.int .i64 0)),none⟩])
 (.cond (.t 77)
 (.seq (.region [⟨some 79,.load true 5 (.t 3),none⟩,
 ⟨some 80,.load true 2 (.t 9),none⟩,
 ⟨some 81,.call 18 [(.t 79),(.t 80)],none⟩,
 ⟨some 78,.mov (.t 81),none⟩,
 ⟨some 82,.ext 0 (.t 78),none⟩,
 ⟨some 83,.ext 1 (.t 78),none⟩,
 ⟨some 10,.box (.c (.agg [.sl true 0 [],.sl true 0 []])),none⟩,
 ⟨none,.store 2 (.t 10) (.t 82),none⟩,
 ⟨some 11,.mov (.t 83),none⟩])
 (.seq (.region [⟨some 84,.mov (.t 11),none⟩,
 ⟨some 85,.bin .neq (.t 84) (.c (.int .i64 0)),none⟩,
 ⟨some 86,.mov (.t 85),none⟩,
 ⟨some 87,.load true 2 (.t 7),some (86,false)⟩,
 ⟨some 88,.load true 2 (.t 10),some (86,false)⟩,
 ⟨some 89,.call 46 [(.t 87),(.t 88)],some (86,false)⟩,
 ⟨some 90,.un .not (.t 89),some (86,false)⟩,
 ⟨some 91,.pick (.t 86) (.c (.bool true)) (.t 90),none⟩])
 (.cond (.t 91)
 (.seq (.region [⟨some 6,.mov (.c (.bool false)),none⟩])
 (.ret))
 (.skip))))
 (.skip)))
 (.seq (.region [⟨some 92,.faddr 2 (.t 4),none⟩,
 ⟨some 93,.load false 1 (.t 92),none⟩,
 ⟨some 12,.mov (.t 93),none⟩])
 (.seq (.seq (.region [⟨some 13,.mov (.c (.int .i64 0)),none⟩])
 (.block 0 (.loop xSw yA3)))
 (.seq (.region [⟨some 6,.mov (.c (.bool true)),none⟩])
 (.ret)))))))))),
 [.tmp 6]⟩
def xZv : ACode :=
 .seq (.seq (.region [⟨some 98,.mov (.t 13),none⟩,
 ⟨some 99,.mov (.t 7),none⟩,
 ⟨some 100,.len (.t 99),none⟩,
 ⟨some 101,.bin .lss (.t 98) (.t 100),none⟩])
 (.cond (.t 101)
 (.skip)
 (.exit 0)))
 (.seq (.block 1 (.seq (.draw 75 [⟨some 104,.mov (.t 9),none⟩,
 ⟨some 105,.mov (.t 13),none⟩,
 ⟨some 106,.iaddr 1 (.t 104) (.t 105),none⟩,
 ⟨some 107,.load false 1 (.t 106),none⟩,
 ⟨some 108,.bin .lss (.t 107) (.c (.int .i64 0)),none⟩,
 ⟨some 109,.mov (.t 108),none⟩,
 ⟨some 110,.mov (.t 9),some (109,false)⟩,
 ⟨some 111,.mov (.t 13),some (109,false)⟩,
 ⟨some 112,.iaddr 1 (.t 110) (.t 111),some (109,false)⟩,
 ⟨some 113,.load false 1 (.t 112),some (109,false)⟩,
 ⟨some 114,.faddr 3 (.t 3),some (109,false)⟩,
 ⟨some 115,.load false 1 (.t 114),some (109,false)⟩,
 ⟨some 116,.len (.t 115),some (109,false)⟩,
 ⟨some 117,.bin .geq (.t 113) (.t 116),some (109,false)⟩,
 ⟨some 118,.pick (.t 109) (.c (.bool true)) (.t 117),none⟩,
 ⟨some 119,.mov (.t 118),none⟩,
 ⟨some 120,.mov (.t 8),some (119,false)⟩,
 ⟨some 121,.mov (.t 13),some (119,false)⟩,
 ⟨some 122,.iaddr 1 (.t 120) (.t 121),some (119,false)⟩,
 ⟨some 123,.load false 1 (.t 122),some (119,false)⟩,
 ⟨some 124,.faddr 4 (.t 3),some (119,false)⟩,
 ⟨some 125,.load false 1 (.t 124),some (119,false)⟩,
 ⟨some 126,.mov (.t 9),some (119,false)⟩,
 ⟨some 127,.mov (.t 13),some (119,false)⟩,
 ⟨some 128,.iaddr 1 (.t 126) (.t 127),some (119,false)⟩,
 ⟨some 129,.load false 1 (.t 128),some (119,false)⟩,
 ⟨some 130,.iaddr 1 (.t 125) (.t 129),some (119,false)⟩,
 ⟨some 131,.load false 1 (.t 130),some (119,false)⟩,
 ⟨some 132,.mov (.t 7),some (119,false)⟩,
 ⟨some 133,.mov (.t 13),some (119,false)⟩,
 ⟨some 134,.iaddr 1 (.t 132) (.t 133),some (119,false)⟩,
 ⟨some 135,.load false 1 (.t 134),some (119,false)⟩,
 ⟨some 136,.iaddr 1 (.t 131) (.t 135),some (119,false)⟩,
 ⟨some 137,.load false 1 (.t 136),some (119,false)⟩,
 ⟨some 138,.bin .neq (.t 123) (.t 137),some (119,false)⟩,
 ⟨some 139,.pick (.t 119) (.c (.bool true)) (.t 138),none⟩,
 ⟨some 140,.mov (.t 139),none⟩,
 ⟨some 141,.mov (.t 9),some (140,false)⟩,
 ⟨some 142,.mov (.t 13),some (140,false)⟩,
 ⟨some 143,.bin .add (.t 142) (.c (.int .i64 1)),some (140,false)⟩,
 ⟨some 144,.iaddr 1 (.t 141) (.t 143),some (140,false)⟩,
 ⟨some 145,.load false 1 (.t 144),some (140,false)⟩,
 ⟨some 146,.faddr 3 (.t 3),some (140,false)⟩,
 ⟨some 147,.load false 1 (.t 146),some (140,false)⟩,
 ⟨some 148,.mov (.t 9),some (140,false)⟩,
 ⟨some 149,.mov (.t 13),some (140,false)⟩,
 ⟨some 150,.iaddr 1 (.t 148) (.t 149),some (140,false)⟩,
 ⟨some 151,.load false 1 (.t 150),some (140,false)⟩,
 ⟨some 152,.iaddr 1 (.t 147) (.t 151),some (140,false)⟩,
 ⟨some 153,.load false 1 (.t 152),some (140,false)⟩,
 ⟨some 154,.mov (.t 7),some (140,false)⟩,
 ⟨some 155,.mov (.t 13),some (140,false)⟩,
 ⟨some 156,.iaddr 1 (.t 154) (.t 155),some (140,false)⟩,
 ⟨some 157,.load false 1 (.t 156),some (140,false)⟩,
 ⟨some 158,.iaddr 1 (.t 153) (.t 157),some (140,false)⟩,
 ⟨some 159,.load false 1 (.t 158),some (140,false)⟩,
 ⟨some 160,.bin .neq (.t 145) (.t 159),some (140,false)⟩,
 ⟨some 161,.pick (.t 140) (.c (.bool true)) (.t 160),none⟩,
 ⟨some 162,.mov (.t 161),none⟩,
 ⟨some 163,.load true 2 (.t 11),some (162,false)⟩,
 ⟨some 164,.mov (.t 13),some (162,false)⟩,
 ⟨some 165,.call 47 [(.t 163),(.t 164)],some (162,false)⟩,
 ⟨some 166,.mov (.t 7),some (162,false)⟩,
 ⟨some 167,.mov (.t 13),some (162,false)⟩,
 ⟨some 168,.iaddr 1 (.t 166) (.t 167),some (162,false)⟩,
 ⟨some 169,.load false 1 (.t 168),some (162,false)⟩,
 ⟨some 170,.mov (.t 8),some (162,false)⟩,
 ⟨some 171,.mov (.t 13),some (162,false)⟩,
 ⟨some 172,.iaddr 1 (.t 170) (.t 171),some (162,false)⟩,
 ⟨some 173,.load false 1 (.t 172),some (162,false)⟩,
 ⟨some 174,.faddr 0 (.t 3),some (162,false)⟩,
 ⟨some 175,.load false 1 (.t 174),some (162,false)⟩,
 ⟨some 176,.conv .u64 (.t 175),some (162,false)⟩,
 ⟨some 177,.bin .shl (.t 173) (.t 176),some (162,false)⟩,
 ⟨some 178,.bin .add (.t 169) (.t 177),some (162,false)⟩,
 ⟨some 179,.bin .neq (.t 165) (.t 178),some (162,false)⟩,
 ⟨some 180,.pick (.t 162) (.c (.bool true)) (.t 179),none⟩])
 (.cond (.t 180)
 (.seq (.region [⟨some 6,.mov (.c (.bool false)),none⟩])
 (.ret))
 (.skip))))
 (.region [⟨some 102,.mov (.t 13),none⟩,
 ⟨some 103,.bin .add (.t 102) (.c (.int .i64 1)),none⟩,
 ⟨some 13,.mov (.t 103),none⟩]))
def yA9 : ACode := xZv
def xZw : List Nat := [0,1,2,5,10,12,14,15,16,17,18,19,20,21,22,23,24,25,26,27,28,29,30,31,32,33,34,35,36,37,38,39,40,41,42,43,44,45,46,47,48,49,50,51,52,53,54,55,56,57,58,59,60,61,62,63,64,65,66,67,68,69,70,71,72,73,74,75,76,77,78,79,80,81,82,83,84,85,86,87,88,89,90,91,92,93,94,95,96,97,98,99,100,101,102,103,104,105,106,107,108,109,110,111,112,113,114,115,116,117,118,119,120,121,122,123,124,125,126,127,128,129,130,131,132,133,134,135,136,137,138,139,140,141,142,143,144,145,146,147,148,149,150,151,152,153,154,155,156,157,158,159,160,161,162,163,164,165,166,167,168,169,170,171,172,173,174,175,176,177,178,179,180,181,182,183,184,185,186,187,188,189,190,191,192,193,194,195,196,197,198,199,200,201,202,203,204,205,206,207,208,209,210,211,212,213,214,215,216,217,218,219,220]
def a10 : AFunc := ⟨221,
 .seq (.region [⟨some 3,.box (.t 0),none⟩,
 ⟨some 4,.box (.t 1),none⟩,
 ⟨some 6,.mov (.c (.bool false)),none⟩])
 (.seq (.seq (.region [⟨some 18,.load true 5 (.t 3),none⟩,
 ⟨some 19,.bslice true [.int .i64 0,.int .i64 0,.int .i64 0,.sl true 0 [],.sl true 0 []] 5 1 [(0,(.t 18))],none⟩,
 ⟨some 20,.call 11 [(.t 19)],none⟩,
 ⟨some 21,.mov (.t 20),none⟩,
 ⟨some 22,.load true 2 (.t 4),some (21,false)⟩,
 ⟨some 23,.bslice true [.sl true 0 [],.sl true 0 []] 2 1 [(0,(.t 22))],some (21,false)⟩,
 ⟨some 24,.call 12 [(.t 23)],some (21,false)⟩,
 ⟨some 25,.pick (.t 21) (.c (.bool true)) (.t 24),none⟩,
 ⟨some 26,.mov (.t 25),none⟩,
 ⟨some 27,.call 13 [],some (26,false)⟩,
 ⟨some 28,.un .not (.t 27),some (26,false)⟩,
 ⟨some 29,.pick (.t 26) (.c (.bool true)) (.t 28),none⟩])
 (.cond (.t 29)
 (.seq (.region [⟨some 30,.call 13 [],none⟩,
 ⟨some 6,.mov (.t 30),none⟩])
 (.ret))
 (.skip)))
 (.seq (.region [⟨some 31,.load true 2 (.t 4),none⟩,
 ⟨some 32,.mov (.t 2),none⟩,
 ⟨some 33,.bin .rem (.t 32) (.c (.int .u8 64)),none⟩,
 ⟨some 34,.conv .i64 (.t 33),none⟩,
 ⟨some 35,.call 48 [(.t 31),(.t 34)],none⟩,
 ⟨some 7,.mov (.t 35),none⟩])
 (.seq (.region [⟨some 37,.load true 5 (.t 3),none⟩,
 ⟨some 38,.mov (.t 7),none⟩,
 ⟨some 39,.call 16 [(.t 37),(.t 38)],none⟩,
 ⟨some 36,.mov (.t 39),none⟩,
 ⟨some 40,.ext 0 (.t 36),none⟩,
 ⟨some 41,.ext 1 (.t 36),none⟩,
 ⟨some 42,.ext 2 (.t 36),none⟩,
 ⟨some 8,.mov (.t 40),none⟩,
 ⟨some 9,.mov (.t 41),none⟩,
 ⟨some 10,.mov (.t 42),none⟩])
 (.seq (.region [⟨some 44,.load true 5 (.t 3),none⟩,
 ⟨some 45,.load true 2 (.t 4),none⟩,
 ⟨some 46,.call 18 [(.t 44),(.t 45)],none⟩,
 ⟨some 43,.mov (.t 46),none⟩,
 ⟨some 47,.ext 0 (.t 43),none⟩,
 ⟨some 48,.ext 1 (.t 43),none⟩,
 ⟨some 11,.box (.c (.agg [.sl true 0 [],.sl true 0 []])),none⟩,
 ⟨none,.store 2 (.t 11) (.t 47),none⟩,
 ⟨some 12,.mov (.t 48),none⟩])
 (.seq (.seq (.region [⟨some 49,.load true 5 (.t 3),none⟩,
 ⟨some 50,.call 21 [(.t 49)],none⟩,
 ⟨some 51,.bin .neq (.t 50) (.c (.int .i64 0)),none⟩,
 ⟨some 52,.mov (.t 51),none⟩,
 ⟨some 53,.mov (.t 12),some (52,false)⟩,
 ⟨some 54,.bin .neq (.t 53) (.c (.int .i64 0)),some (52,false)⟩,
 ⟨some 55,.pick (.t 52) (.c (.bool true)) (.t 54),none⟩])
 (.cond (.t 55)
 (.seq (.region [⟨some 56,.mov (.t 12),none⟩,
 ⟨some 57,.bin .neq (.t 56) (.c (.int .i64 0)),none⟩,
 ⟨some 6,.mov (.t 57),none⟩])
 (.ret))
 (.skip)))
 (.seq (.seq (.draw 23 [⟨some 58,.mov (.t 10),none⟩,
 ⟨some 59,.bin .neq (.t 58) (.c (.int .i64 0)),none⟩,
 ⟨some 60,.mov (.t 59),none⟩,
 ⟨some 61,.mov (.t 8),some (60,false)⟩,
 ⟨some 62,.len (.t 61),some (60,false)⟩,
 ⟨some 63,.mov (.t 7),some (60,false)⟩,
 ⟨some 64,.len (.t 63),some (60,false)⟩,
 ⟨some 65,.bin .neq (.t 62) (.t 64),some (60,false)⟩,
 ⟨some 66,.pick (.t 60) (.c (.bool true)) (.t 65),none⟩,
 ⟨some 67,.mov (.t 66),none⟩,
 ⟨some 68,.mov (.t 9),some (67,false)⟩,
 ⟨some 69,.len (.t 68),some (67,false)⟩,
 ⟨some 70,.mov (.t 7),some (67,false)⟩,
 ⟨some 71,.len (.t 70),some (67,false)⟩,
 ⟨some 72,.bin .add (.t 71) (.c (.int .i64 1)),some (67,false)⟩,
 ⟨some 73,.bin .neq (.t 69) (.t 72),some (67,false)⟩,
 ⟨some 74,.pick (.t 67) (.c (.bool true)) (.t 73),none⟩,
 ⟨some 75,.mov (.t 74),none⟩,
 ⟨some 76,.mov (.t 9),some (75,false)⟩,
 ⟨some 77,.iaddr 1 (.t 76) (.c (.int .i64 0)),some (75,false)⟩,
 ⟨some 78,.load false 1 (.t 77),some (75,false)⟩,
 ⟨some 79,.faddr 2 (.t 3),some (75,false)⟩,
 ⟨some 80,.load false 1 (.t 79),some (75,false)⟩,
 ⟨some 81,.bin .neq (.t 78) (.t 80),some (75,false)⟩,
 ⟨some 82,.pick (.t 75) (.c (.bool true)) (.t 81),none⟩,
 ⟨some 83,.mov (.t 82),none⟩,
 ⟨some 84,.faddr 0 (.t 3),some (83,false)⟩,
 ⟨some 85,.load false 1 (.t 84),some (83,false)⟩,
 ⟨some 86,.bin .lss (.t 85) (.c (.int .i64 0)),some (83,false)⟩,
 ⟨some 87,.pick (.t 83) (.c (.bool true)) (.t 86),none⟩,
 ⟨some 88,.mov (.t 87),none⟩,
 ⟨some 89,.faddr 0 (.t 3),some (88,false)⟩,
 ⟨some 90,.load false 1 (.t 89),some (88,false)⟩,
 ⟨some 91,.bin .gtr (.t 90) (.c (.int .i64 6)),some (88,false)⟩,
 ⟨some 92,.pick (.t 88) (.c (.bool true)) (.t 91),none⟩,
 ⟨some 93,.mov (.t 92),none⟩,
 ⟨some 94,.load true 5 (.t 3),some (93,false)⟩,
 ⟨some 95,.call 22 [(.t 94)],some (93,false)⟩,
 ⟨some 96,.bin .neq (.t 95) (.c (.int .i64 0)),some (93,false)⟩,
 ⟨some 97,.pick (.t 93) (.c (.bool true)) (.t 96),none⟩])
 (.cond (.t 97)
 (.seq (.region [⟨some 6,.mov (.c (.bool false)),none⟩])
 (.ret))
 (.skip)))
 (.seq (.seq (.region [⟨some 13,.mov (.c (.int .i64 0)),none⟩])
 (.block 0 (.loop xZw yA9)))
 (.seq (.draw 11 [⟨some 182,.load true 5 (.t 3),none⟩,
 ⟨some 183,.mov (.t 7),none⟩,
 ⟨some 184,.mov (.t 7),none⟩,
 ⟨some 185,.len (.t 184),none⟩,
 ⟨some 186,.bin .quo (.t 185) (.c (.int .i64 2)),none⟩,
 ⟨some 187,.slice 1 (.t 183) none (some (.t 186)) none,none⟩,
 ⟨some 188,.call 16 [(.t 182),(.t 187)],none⟩,
 ⟨some 181,.mov (.t 188),none⟩,
 ⟨some 189,.ext 0 (.t 181),none⟩,
 ⟨some 190,.ext 1 (.t 181),none⟩,
 ⟨some 191,.ext 2 (.t 181),none⟩,
 ⟨some 14,.mov (.t 189),none⟩,
 ⟨some 15,.mov (.t 190),none⟩,
 ⟨some 16,.mov (.t 191),none⟩])
 (.seq (.region [⟨some 192,.load true 2 (.t 11),none⟩,
 ⟨some 193,.faddr 0 (.t 3),none⟩,
 ⟨some 194,.load false 1 (.t 193),none⟩,
 ⟨some 195,.conv .u64 (.t 194),none⟩,
 ⟨some 196,.bin .shl (.c (.int .u8 1)) (.t 195),none⟩,
 ⟨some 197,.bin .sub (.t 196) (.c (.int .u8 1)),none⟩,
 ⟨some 198,.call 44 [(.t 192),(.t 197)],none⟩,
 ⟨some 17,.box (.c (.agg [.sl true 0 [],.sl true 0 []])),none⟩,
 ⟨none,.store 2 (.t 17) (.t 198),none⟩])
 (.seq (.draw 20 [⟨some 199,.mov (.t 16),none⟩,
 ⟨some 200,.bin .eql (.t 199) (.c (.int .i64 0)),none⟩,
 ⟨some 201,.mov (.t 200),none⟩,
 ⟨some 202,.mov (.t 14),some (201,true)⟩,
 ⟨some 203,.mov (.t 8),some (201,true)⟩,
 ⟨some 204,.mov (.t 7),some (201,true)⟩,
 ⟨some 205,.len (.t 204),some (201,true)⟩,
 ⟨some 206,.bin .quo (.t 205) (.c (.int .i64 2)),some (201,true)⟩,
 ⟨some 207,.slice 1 (.t 203) none (some (.t 206)) none,some (201,true)⟩,
 ⟨some 208,.call 23 [(.t 202),(.t 207)],some (201,true)⟩,
 ⟨some 209,.pick (.t 201) (.t 208) (.c (.bool false)),none⟩,
 ⟨some 210,.mov (.t 209),none⟩,
 ⟨some 211,.load true 2 (.t 17),some (210,true)⟩,
 ⟨some 212,.load true 2 (.t 4),some (210,true)⟩,
 ⟨some 213,.call 46 [(.t 211),(.t 212)],some (210,true)⟩,
 ⟨some 214,.pick (.t 210) (.t 213) (.c (.bool false)),none⟩,
 ⟨some 215,.mov (.t 214),none⟩,
 ⟨some 216,.load true 2 (.t 11),some (215,true)⟩,
 ⟨some 217,.call 49 [(.t 216)],some (215,true)⟩,
 ⟨some 218,.load true 2 (.t 11),some (215,true)⟩,
 ⟨some 219,.call 25 [(.t 217),(.t 218)],some (215,true)⟩,
 ⟨some 220,.pick (.t 215) (.t 219) (.c (.bool false)),none⟩,
 ⟨some 6,.mov (.t 220),none⟩])
 (.ret))))))))))),
 [.tmp 6]⟩
def xIQ : ACode :=
 .seq (.seq (.region [⟨some 28,.mov (.t 4),none⟩,
 ⟨some 29,.mov (.t 0),none⟩,
 ⟨some 30,.mov (.t 3),none⟩,
 ⟨some 31,.iaddr 5 (.t 29) (.t 30),none⟩,
 ⟨some 32,.faddr 3 (.t 31),none⟩,
 ⟨some 33,.load false 1 (.t 32),none⟩,
 ⟨some 34,.len (.t 33),none⟩,
 ⟨some 35,.bin .lss (.t 28) (.t 34),none⟩])
 (.cond (.t 35)
 (.skip)
 (.exit 2)))
 (.seq (.block 3 (.seq (.region [⟨some 38,.mov (.t 0),none⟩,
 ⟨some 39,.mov (.t 3),none⟩,
 ⟨some 40,.iaddr 5 (.t 38) (.t 39),none⟩,
 ⟨some 41,.faddr 3 (.t 40),none⟩,
 ⟨some 42,.load false 1 (.t 41),none⟩,
 ⟨some 43,.mov (.t 4),none⟩,
 ⟨some 44,.iaddr 1 (.t 42) (.t 43),none⟩,
 ⟨some 45,.load false 1 (.t 44),none⟩,
 ⟨some 46,.len (.t 45),none⟩,
 ⟨some 47,.bin .gtr (.t 46) (.c (.int .i64 66)),none⟩])
 (.cond (.t 47)
 (.seq (.region [⟨some 2,.mov (.c (.bool true)),none⟩])
 (.ret))
 (.skip))))
 (.region [⟨some 36,.mov (.t 4),none⟩,
 ⟨some 37,.bin .add (.t 36) (.c (.int .i64 1)),none⟩,
 ⟨some 4,.mov (.t 37),none⟩]))
def xVJ : ACode := xIQ
def xLZ : List Nat := [1,5,6,7,8,9,10,11,12,13,14,15,16,17,18,19,20,21,22,23,24,25,26,27,28,29,30,31,32,33,34,35,36,37,38,39,40,41,42,43,44,45,46,47,48,49,50,51,52,53,54,55,56,57,58,59,60,61,62,63,64,65,66,67]
abbrev xIR (s0 s2 s3 s4 : AV) : List AV := [s0,.any,s2,s3,s4,.any,.any,.any,.any,.any,.any,.any,.any,.any,.any,.any,.any,.any,.any,.any,.any,.any,.any,.any,.any,.any,.any,.any,.any,.any,.any,.any,.any,.any,.any,.any,.any,.any,.any,.any,.any,.any,.any,.any,.any,.any,.any,.any,.any,.any,.any,.any,.any,.any,.any,.any,.any,.any,.any,.any,.any,.any,.any,.any,.any,.any,.any,.any]
theorem xFR (s0 s1 s2 s3 s4 s5 s6 s7 s8 s9 s10 s11 s12 s13 s14 s15 s16 s17 s18 s19 s20 s21 s22 s23 s24 s25 s26 s27 s28 s29 s30 s31 s32 s33 s34 s35 s36 s37 s38 s39 s40 s41 s42 s43 s44 s45 s46 s47 s48 s49 s50 s51 s52 s53 s54 s55 s56 s57 s58 s59 s60 s61 s62 s63 s64 s65 s66 s67 : AV) : xAG xLZ [s0,s1,s2,s3,s4,s5,s6,s7,s8,s9,s10,s11,s12,s13,s14,s15,s16,s17,s18,s19,s20,s21,s22,s23,s24,s25,s26,s27,s28,s29,s30,s31,s32,s33,s34,s35,s36,s37,s38,s39,s40,s41,s42,s43,s44,s45,s46,s47,s48,s49,s50,s51,s52,s53,s54,s55,s56,s57,s58,s59,s60,s61,s62,s63,s64,s65,s66,s67] = xIR s0 s2 s3 s4 := by kernel_rfl
theorem xSy {prog : Nat → Option AFunc} (s0 s2 s3 s4 : AV) (H : Heap) : (lim prog).loop xLZ xVJ ⟨xIR s0 s2 s3 s4,H⟩ = xBG (lim prog) xLZ xVJ (run (lim prog) xIQ ⟨xIR s0 s2 s3 s4,H⟩) := xAo _ _ _ _ (by kernel_rfl)
def xIS : ACode :=
 .seq (.seq (.region [⟨some 48,.mov (.t 5),none⟩,
 ⟨some 49,.mov (.t 0),none⟩,
 ⟨some 50,.mov (.t 3),none⟩,
 ⟨some 51,.iaddr 5 (.t 49) (.t 50),none⟩,
 ⟨some 52,.faddr 4 (.t 51),none⟩,
 ⟨some 53,.load false 1 (.t 52),none⟩,
 ⟨some 54,.len (.t 53),none⟩,
 ⟨some 55,.bin .lss (.t 48) (.t 54),none⟩])
 (.cond (.t 55)
 (.skip)
 (.exit 4)))
 (.seq (.block 5 (.seq (.region [⟨some 58,.mov (.t 0),none⟩,
 ⟨some 59,.mov (.t 3),none⟩,
 ⟨some 60,.iaddr 5 (.t 58) (.t 59),none⟩,
 ⟨some 61,.faddr 4 (.t 60),none⟩,
 ⟨some 62,.load false 1 (.t 61),none⟩,
 ⟨some 63,.mov (.t 5),none⟩,
 ⟨some 64,.iaddr 1 (.t 62) (.t 63),none⟩,
 ⟨some 65,.load false 1 (.t 64),none⟩,
 ⟨some 66,.len (.t 65),none⟩,
 ⟨some 67,.bin .gtr (.t 66) (.c (.int .i64 66)),none⟩])
 (.cond (.t 67)
 (.seq (.region [⟨some 2,.mov (.c (.bool true)),none⟩])
 (.ret))
 (.skip))))
 (.region [⟨some 56,.mov (.t 5),none⟩,
 ⟨some 57,.bin .add (.t 56) (.c (.int .i64 1)),none⟩,
 ⟨some 5,.mov (.t 57),none⟩]))
def xVK : ACode := xIS
def xL0 : List Nat := [1,4,6,7,8,9,10,11,12,13,14,15,16,17,18,19,20,21,22,23,24,25,26,27,28,29,30,31,32,33,34,35,36,37,38,39,40,41,42,43,44,45,46,47,48,49,50,51,52,53,54,55,56,57,58,59,60,61,62,63,64,65,66,67]
abbrev xIT (s0 s2 s3 s5 : AV) : List AV := [s0,.any,s2,s3,.any,s5,.any,.any,.any,.any,.any,.any,.any,.any,.any,.any,.any,.any,.any,.any,.any,.any,.any,.any,.any,.any,.any,.any,.any,.any,.any,.any,.any,.any,.any,.any,.any,.any,.any,.any,.any,.any,.any,.any,.any,.any,.any,.any,.any,.any,.any,.any,.any,.any,.any,.any,.any,.any,.any,.any,.any,.any,.any,.any,.any,.any,.any,.any]
theorem xHb (s0 s1 s2 s3 s4 s5 s6 s7 s8 s9 s10 s11 s12 s13 s14 s15 s16 s17 s18 s19 s20 s21 s22 s23 s24 s25 s26 s27 s28 s29 s30 s31 s32 s33 s34 s35 s36 s37 s38 s39 s40 s41 s42 s43 s44 s45 s46 s47 s48 s49 s50 s51 s52 s53 s54 s55 s56 s57 s58 s59 s60 s61 s62 s63 s64 s65 s66 s67 : AV) : xAG xL0 [s0,s1,s2,s3,s4,s5,s6,s7,s8,s9,s10,s11,s12,s13,s14,s15,s16,s17,s18,s19,s20,s21,s22,s23,s24,s25,s26,s27,s28,s29,s30,s31,s32,s33,s34,s35,s36,s37,s38,s39,s40,s41,s42,s43,s44,s45,s46,s47,s48,s49,s50,s51,s52,s53,s54,s55,s56,s57,s58,s59,s60,s61,s62,s63,s64,s65,s66,s67] = xIT s0 s2 s3 s5 := by kernel_rfl
theorem xSz {prog : Nat → Option AFunc} (s0 s2 s3 s5 : AV) (H : Heap) : (lim prog).loop xL0 xVK ⟨xIT s0 s2 s3 s5,H⟩ = xBG (lim prog) xL0 xVK (run (lim prog) xIS ⟨xIT s0 s2 s3 s5,H⟩) := xAo _ _ _ _ (by kernel_rfl)
def xEJ : ACode :=
 .seq (.seq (.region [⟨some 6,.mov (.t 3),none⟩,
 ⟨some 7,.mov (.t 0),none⟩,
 ⟨some 8,.len (.t 7),none⟩,
 ⟨some 9,.bin .lss (.t 6) (.t 8),none⟩])
 (.cond (.t 9)
 (.skip)
 (.exit 0)))
 (.seq (.block 1 (.seq (.seq (.region [⟨some 12,.mov (.t 0),none⟩,
 ⟨some 13,.mov (.t 3),none⟩,
 ⟨some 14,.iaddr 5 (.t 12) (.t 13),none⟩,
 ⟨some 15,.faddr 3 (.t 14),none⟩,
 ⟨some 16,.load false 1 (.t 15),none⟩,
 ⟨some 17,.len (.t 16),none⟩,
 ⟨some 18,.bin .gtr (.t 17) (.c (.int .i64 14)),none⟩,
 ⟨some 19,.mov (.t 18),none⟩,
 ⟨some 20,.mov (.t 0),some (19,false)⟩,
 ⟨some 21,.mov (.t 3),some (19,false)⟩,
 ⟨some 22,.iaddr 5 (.t 20) (.t 21),some (19,false)⟩,
 ⟨some 23,.faddr 4 (.t 22),some (19,false)⟩,
 ⟨some 24,.load false 1 (.t 23),some (19,false)⟩,
 ⟨some 25,.len (.t 24),some (19,false)⟩,
 ⟨some 26,.bin .gtr (.t 25) (.c (.int .i64 16)),some (19,false)⟩,
 ⟨some 27,.pick (.t 19) (.c (.bool true)) (.t 26),none⟩])
 (.cond (.t 27)
 (.seq (.region [⟨some 2,.mov (.c (.bool true)),none⟩])
 (.ret))
 (.skip)))
 (.seq (.seq (.region [⟨some 4,.mov (.c (.int .i64 0)),none⟩])
 (.block 2 (.loop xLZ xVJ)))
 (.seq (.region [⟨some 5,.mov (.c (.int .i64 0)),none⟩])
 (.block 4 (.loop xL0 xVK))))))
 (.region [⟨some 10,.mov (.t 3),none⟩,
 ⟨some 11,.bin .add (.t 10) (.c (.int .i64 1)),none⟩,
 ⟨some 3,.mov (.t 11),none⟩]))
def xVL : ACode := xEJ
def xL1 : List Nat := [1,4,5,6,7,8,9,10,11,12,13,14,15,16,17,18,19,20,21,22,23,24,25,26,27,28,29,30,31,32,33,34,35,36,37,38,39,40,41,42,43,44,45,46,47,48,49,50,51,52,53,54,55,56,57,58,59,60,61,62,63,64,65,66,67]
abbrev xIU (s0 s2 s3 : AV) : List AV := [s0,.any,s2,s3,.any,.any,.any,.any,.any,.any,.any,.any,.any,.any,.any,.any,.any,.any,.any,.any,.any,.any,.any,.any,.any,.any,.any,.any,.any,.any,.any,.any,.any,.any,.any,.any,.any,.any,.any,.any,.any,.any,.any,.any,.any,.any,.any,.any,.any,.any,.any,.any,.any,.any,.any,.any,.any,.any,.any,.any,.any,.any,.any,.any,.any,.any,.any,.any]
theorem xEK (s0 s1 s2 s3 s4 s5 s6 s7 s8 s9 s10 s11 s12 s13 s14 s15 s16 s17 s18 s19 s20 s21 s22 s23 s24 s25 s26 s27 s28 s29 s30 s31 s32 s33 s34 s35 s36 s37 s38 s39 s40 s41 s42 s43 s44 s45 s46 s47 s48 s49 s50 s51 s52 s53 s54 s55 s56 s57 s58 s59 s60 s61 s62 s63 s64 s65 s66 s67 : AV) : xAG xL1 [s0,s1,s2,s3,s4,s5,s6,s7,s8,s9,s10,s11,s12,s13,s14,s15,s16,s17,s18,s19,s20,s21,s22,s23,s24,s25,s26,s27,s28,s29,s30,s31,s32,s33,s34,s35,s36,s37,s38,s39,s40,s41,s42,s43,s44,s45,s46,s47,s48,s49,s50,s51,s52,s53,s54,s55,s56,s57,s58,s59,s60,s61,s62,s63,s64,s65,s66,s67] = xIU s0 s2 s3 := by kernel_rfl
theorem xIV {prog : Nat → Option AFunc} (s0 s2 s3 : AV) (H : Heap) : (lim prog).loop xL1 xVL ⟨xIU s0 s2 s3,H⟩ = xBG (lim prog) xL1 xVL (run (lim prog) xEJ ⟨xIU s0 s2 s3,H⟩) := xAo _ _ _ _ (by kernel_rfl)
def a11 : AFunc := ⟨68,
 .seq (.region [⟨some 2,.mov (.c (.bool false)),none⟩])
 (.seq (.seq (.region [⟨some 3,.mov (.c (.int .i64 0)),none⟩])
 (.block 0 (.loop xL1 xVL)))
 (.seq (.region [⟨some 2,.mov (.c (.bool false)),none⟩])
 (.ret))),
 [.tmp 2]⟩
def xZx : ACode :=
 .seq (.seq (.region [⟨some 4,.mov (.t 3),none⟩,
 ⟨some 5,.mov (.t 0),none⟩,
 ⟨some 6,.len (.t 5),none⟩,
 ⟨some 7,.bin .lss (.t 4) (.t 6),none⟩])
 (.cond (.t 7)
 (.skip)
 (.exit 0)))
 (.seq (.block 1 (.seq (.region [⟨some 10,.mov (.t 0),none⟩,
 ⟨some 11,.mov (.t 3),none⟩,
 ⟨some 12,.iaddr 2 (.t 10) (.t 11),none⟩,
 ⟨some 13,.faddr 0 (.t 12),none⟩,
 ⟨some 14,.load false 1 (.t 13),none⟩,
 ⟨some 15,.len (.t 14),none⟩,
 ⟨some 16,.bin .gtr (.t 15) (.c (.int .i64 70)),none⟩,
 ⟨some 17,.mov (.t 16),none⟩,
 ⟨some 18,.mov (.t 0),some (17,false)⟩,
 ⟨some 19,.mov (.t 3),some (17,false)⟩,
 ⟨some 20,.iaddr 2 (.t 18) (.t 19),some (17,false)⟩,
 ⟨some 21,.faddr 1 (.t 20),some (17,false)⟩,
 ⟨some 22,.load false 1 (.t 21),some (17,false)⟩,
 ⟨some 23,.len (.t 22),some (17,false)⟩,
 ⟨some 24,.bin .gtr (.t 23) (.c (.int .i64 70)),some (17,false)⟩,
 ⟨some 25,.pick (.t 17) (.c (.bool true)) (.t 24),none⟩])
 (.cond (.t 25)
 (.seq (.region [⟨some 2,.mov (.c (.bool true)),none⟩])
 (.ret))
 (.skip))))
 (.region [⟨some 8,.mov (.t 3),none⟩,
 ⟨some 9,.bin .add (.t 8) (.c (.int .i64 1)),none⟩,
 ⟨some 3,.mov (.t 9),none⟩]))
def yBa : ACode := xZx
def xZy : List Nat := [1,4,5,6,7,8,9,10,11,12,13,14,15,16,17,18,19,20,21,22,23,24,25]
def a12 : AFunc := ⟨26,
 .seq (.region [⟨some 2,.mov (.c (.bool false)),none⟩])
 (.seq (.seq (.region [⟨some 3,.mov (.c (.int .i64 0)),none⟩])
 (.block 0 (.loop xZy yBa)))
 (.seq (.region [⟨some 2,.mov (.c (.bool false)),none⟩])
 (.ret))),
 [.tmp 2]⟩
def a13 : AFunc := ⟨131,
 .seq (.region [⟨some 0,.mov (.c (.bool false)),none⟩])
 (.seq (.region [⟨some 19,.call 43 [],none⟩,
 ⟨some 1,.box (.c (.agg [.int .i64 0,.int .i64 0,.int .i64 0,.sl true 0 [],.sl true 0 []])),none⟩,
 ⟨none,.store 5 (.t 1) (.t 19),none⟩])
 (.seq (.region [⟨some 20,.bslice true [.int .i64 0] 1 2 [(0,(.c (.int .i64 1))),(1,(.c (.int .i64 1)))],none⟩,
 ⟨some 21,.bslice true [.int .i64 0] 1 2 [(0,(.c (.int .i64 0))),(1,(.c (.int .i64 0)))],none⟩,
 ⟨some 22,.bslice true [.sl true 0 []] 1 2 [(0,(.t 20)),(1,(.t 21))],none⟩,
 ⟨some 23,.bslice true [.int .u8 0] 1 2 [(0,(.c (.int .u8 1))),(1,(.c (.int .u8 0)))],none⟩,
 ⟨some 24,.bslice true [.int .u8 0] 1 2 [(0,(.c (.int .u8 1))),(1,(.c (.int .u8 0)))],none⟩,
 ⟨some 25,.bslice true [.sl true 0 []] 1 2 [(0,(.t 23)),(1,(.t 24))],none⟩,
 ⟨some 26,.build [.int .i64 0,.int .i64 0,.int .i64 0,.sl true 0 [],.sl true 0 []] [(0,1,(.c (.int .i64 1))),(1,1,(.c (.int .i64 1))),(3,1,(.t 22)),(4,1,(.t 25))],none⟩,
 ⟨some 2,.box (.c (.agg [.int .i64 0,.int .i64 0,.int .i64 0,.sl true 0 [],.sl true 0 []])),none⟩,
 ⟨none,.store 5 (.t 2) (.t 26),none⟩])
 (.seq (.region [⟨some 27,.call 43 [],none⟩,
 ⟨some 3,.box (.c (.agg [.int .i64 0,.int .i64 0,.int .i64 0,.sl true 0 [],.sl true 0 []])),none⟩,
 ⟨none,.store 5 (.t 3) (.t 27),none⟩])
 (.seq (.region [⟨some 28,.bslice true [.int .u8 0] 1 2 [(0,(.c (.int .u8 1))),(1,(.c (.int .u8 1)))],none⟩,
 ⟨some 29,.bslice true [.sl true 0 []] 1 1 [(0,(.t 28))],none⟩,
 ⟨some 30,.faddr 4 (.t 3),none⟩,
 ⟨none,.store 1 (.t 30) (.t 29),none⟩])
 (.seq (.region [⟨some 32,.load true 5 (.t 1),none⟩,
 ⟨some 33,.bslice true [.int .u8 0] 1 3 [(0,(.c (.int .u8 0))),(1,(.c (.int .u8 1))),(2,(.c (.int .u8 1)))],none⟩,
 ⟨some 34,.call 16 [(.t 32),(.t 33)],none⟩,
 ⟨some 31,.mov (.t 34),none⟩,
 ⟨some 35,.ext 0 (.t 31),none⟩,
 ⟨some 36,.ext 1 (.t 31),none⟩,
 ⟨some 37,.ext 2 (.t 31),none⟩,
 ⟨some 4,.mov (.t 35),none⟩,
 ⟨some 5,.mov (.t 36),none⟩,
 ⟨some 6,.mov (.t 37),none⟩])
 (.seq (.region [⟨some 39,.load true 5 (.t 1),none⟩,
 ⟨some 40,.bslice true [.int .u8 0] 1 2 [(0,(.c (.int .u8 0))),(1,(.c (.int .u8 1)))],none⟩,
 ⟨some 41,.build [.sl true 0 [],.sl true 0 []] [(1,1,(.t 40))],none⟩,
 ⟨some 42,.call 18 [(.t 39),(.t 41)],none⟩,
 ⟨some 38,.mov (.t 42),none⟩,
 ⟨some 43,.ext 0 (.t 38),none⟩,
 ⟨some 44,.ext 1 (.t 38),none⟩,
 ⟨some 7,.box (.c (.agg [.sl true 0 [],.sl true 0 []])),none⟩,
 ⟨none,.store 2 (.t 7) (.t 43),none⟩,
 ⟨some 8,.mov (.t 44),none⟩])
 (.seq (.region [⟨some 46,.load true 5 (.t 2),none⟩,
 ⟨some 47,.call 35 [(.t 46)],none⟩,
 ⟨some 45,.mov (.t 47),none⟩,
 ⟨some 48,.ext 0 (.t 45),none⟩,
 ⟨some 49,.ext 1 (.t 45),none⟩,
 ⟨some 9,.box (.c (.agg [.int .i64 0,.int .i64 0,.int .i64 0,.sl true 0 [],.sl true 0 []])),none⟩,
 ⟨none,.store 5 (.t 9) (.t 48),none⟩,
 ⟨some 10,.mov (.t 49),none⟩])
 (.seq (.region [⟨some 51,.load true 5 (.t 1),none⟩,
 ⟨some 52,.load true 5 (.t 2),none⟩,
 ⟨some 53,.call 37 [(.t 51),(.t 52)],none⟩,
 ⟨some 50,.mov (.t 53),none⟩,
 ⟨some 54,.ext 0 (.t 50),none⟩,
 ⟨some 55,.ext 1 (.t 50),none⟩,
 ⟨some 56,.ext 2 (.t 50),none⟩,
 ⟨some 11,.mov (.t 54),none⟩,
 ⟨some 12,.mov (.t 55),none⟩,
 ⟨some 13,.mov (.t 56),none⟩])
 (.seq (.draw 7 [⟨some 58,.load true 5 (.t 1),none⟩,
 ⟨some 59,.call 42 [],none⟩,
 ⟨some 60,.call 31 [(.t 58),(.t 59)],none⟩,
 ⟨some 57,.mov (.t 60),none⟩,
 ⟨some 61,.ext 0 (.t 57),none⟩,
 ⟨some 62,.ext 1 (.t 57),none⟩,
 ⟨some 14,.box (.c (.agg [.sl true 0 [],.sl true 0 []])),none⟩,
 ⟨none,.store 2 (.t 14) (.t 61),none⟩,
 ⟨some 15,.mov (.t 62),none⟩])
 (.seq (.region [⟨some 64,.load true 5 (.t 1),none⟩,
 ⟨some 65,.load true 5 (.t 3),none⟩,
 ⟨some 66,.call 37 [(.t 64),(.t 65)],none⟩,
 ⟨some 63,.mov (.t 66),none⟩,
 ⟨some 67,.ext 0 (.t 63),none⟩,
 ⟨some 68,.ext 1 (.t 63),none⟩,
 ⟨some 69,.ext 2 (.t 63),none⟩,
 ⟨some 16,.mov (.t 67),none⟩,
 ⟨some 17,.mov (.t 68),none⟩,
 ⟨some 18,.mov (.t 69),none⟩])
 (.seq (.region [⟨some 70,.mov (.t 6),none⟩,
 ⟨some 71,.bin .eql (.t 70) (.c (.int .i64 0)),none⟩,
 ⟨some 72,.mov (.t 71),none⟩,
 ⟨some 73,.mov (.t 4),some (72,true)⟩,
 ⟨some 74,.bslice true [.int .u8 0] 1 3 [(0,(.c (.int .u8 1))),(1,(.c (.int .u8 0))),(2,(.c (.int .u8 0)))],some (72,true)⟩,
 ⟨some 75,.call 23 [(.t 73),(.t 74)],some (72,true)⟩,
 ⟨some 76,.pick (.t 72) (.t 75) (.c (.bool false)),none⟩,
 ⟨some 77,.mov (.t 76),none⟩,
 ⟨some 78,.mov (.t 5),some (77,true)⟩,
 ⟨some 79,.bslice true [.int .i64 0] 1 4 [(0,(.c (.int .i64 0))),(1,(.c (.int .i64 0))),(2,(.c (.int .i64 0))),(3,(.c (.int .i64 0)))],some (77,true)⟩,
 ⟨some 80,.call 24 [(.t 78),(.t 79)],some (77,true)⟩,
 ⟨some 81,.pick (.t 77) (.t 80) (.c (.bool false)),none⟩,
 ⟨some 82,.mov (.t 81),none⟩,
 ⟨some 83,.mov (.t 8),some (82,true)⟩,
 ⟨some 84,.bin .eql (.t 83) (.c (.int .i64 0)),some (82,true)⟩,
 ⟨some 85,.pick (.t 82) (.t 84) (.c (.bool false)),none⟩,
 ⟨some 86,.mov (.t 85),none⟩,
 ⟨some 87,.load true 2 (.t 7),some (86,true)⟩,
 ⟨some 88,.bslice true [.int .u8 0] 1 2 [(0,(.c (.int .u8 2))),(1,(.c (.int .u8 1)))],some (86,true)⟩,
 ⟨some 89,.build [.sl true 0 [],.sl true 0 []] [(1,1,(.t 88))],some (86,true)⟩,
 ⟨some 90,.call 25 [(.t 87),(.t 89)],some (86,true)⟩,
 ⟨some 91,.pick (.t 86) (.t 90) (.c (.bool false)),none⟩,
 ⟨some 92,.mov (.t 91),none⟩,
 ⟨some 93,.mov (.t 10),some (92,true)⟩,
 ⟨some 94,.bin .eql (.t 93) (.c (.int .i64 0)),some (92,true)⟩,
 ⟨some 95,.pick (.t 92) (.t 94) (.c (.bool false)),none⟩,
 ⟨some 96,.mov (.t 95),none⟩,
 ⟨some 97,.load true 5 (.t 9),some (96,true)⟩,
 ⟨some 98,.load true 5 (.t 1),some (96,true)⟩,
 ⟨some 99,.call 29 [(.t 97),(.t 98)],some (96,true)⟩,
 ⟨some 100,.pick (.t 96) (.t 99) (.c (.bool false)),none⟩,
 ⟨some 101,.mov (.t 100),none⟩,
 ⟨some 102,.mov (.t 13),some (101,true)⟩,
 ⟨some 103,.bin .eql (.t 102) (.c (.int .i64 0)),some (101,true)⟩,
 ⟨some 104,.pick (.t 101) (.t 103) (.c (.bool false)),none⟩,
 ⟨some 105,.mov (.t 104),none⟩,
 ⟨some 106,.mov (.t 12),some (105,true)⟩,
 ⟨some 107,.pick (.t 105) (.t 106) (.c (.bool false)),none⟩,
 ⟨some 108,.mov (.t 107),none⟩,
 ⟨some 109,.mov (.t 15),some (108,true)⟩,
 ⟨some 110,.bin .eql (.t 109) (.c (.int .i64 0)),some (108,true)⟩,
 ⟨some 111,.pick (.t 108) (.t 110) (.c (.bool false)),none⟩,
 ⟨some 112,.mov (.t 111),none⟩,
 ⟨some 113,.load true 2 (.t 14),some (112,true)⟩,
 ⟨some 114,.bslice true [.int .u8 0] 1 1 [(0,(.c (.int .u8 1)))],some (112,true)⟩,
 ⟨some 115,.build [.sl true 0 [],.sl true 0 []] [(1,1,(.t 114))],some (112,true)⟩,
 ⟨some 116,.call 25 [(.t 113),(.t 115)],some (112,true)⟩,
 ⟨some 117,.pick (.t 112) (.t 116) (.c (.bool false)),none⟩,
 ⟨some 118,.mov (.t 117),none⟩,
 ⟨some 119,.mov (.t 18),some (118,true)⟩,
 ⟨some 120,.bin .eql (.t 119) (.c (.int .i64 0)),some (118,true)⟩,
 ⟨some 121,.pick (.t 118) (.t 120) (.c (.bool false)),none⟩,
 ⟨some 122,.mov (.t 121),none⟩,
 ⟨some 123,.mov (.t 17),some (122,true)⟩,
 ⟨some 124,.un .not (.t 123),some (122,true)⟩,
 ⟨some 125,.pick (.t 122) (.t 124) (.c (.bool false)),none⟩,
 ⟨some 126,.mov (.t 125),none⟩,
 ⟨some 127,.mov (.t 16),some (126,true)⟩,
 ⟨some 128,.bslice true [.int .u8 0] 1 1 [(0,(.c (.int .u8 1)))],some (126,true)⟩,
 ⟨some 129,.call 23 [(.t 127),(.t 128)],some (126,true)⟩,
 ⟨some 130,.pick (.t 126) (.t 129) (.c (.bool false)),none⟩,
 ⟨some 0,.mov (.t 130),none⟩])
 (.ret)))))))))))),
 [.tmp 0]⟩
def xZz : ACode :=
 .seq (.region [⟨some 31,.bin .lss (.t 30) (.t 29),none⟩])
 (.seq (.cond (.t 31)
 (.skip)
 (.exit 1))
 (.seq (.block 2 (.seq (.region [⟨some 32,.iaddr 1 (.t 28) (.t 30),none⟩,
 ⟨some 33,.load false 1 (.t 32),none⟩,
 ⟨some 10,.mov (.t 33),none⟩])
 (.seq (.region [⟨some 34,.mov (.t 4),none⟩,
 ⟨some 35,.faddr 4 (.t 2),none⟩,
 ⟨some 36,.load false 1 (.t 35),none⟩,
 ⟨some 37,.mov (.t 8),none⟩,
 ⟨some 38,.iaddr 1 (.t 36) (.t 37),none⟩,
 ⟨some 39,.load false 1 (.t 38),none⟩,
 ⟨some 40,.mov (.t 10),none⟩,
 ⟨some 41,.iaddr 1 (.t 39) (.t 40),none⟩,
 ⟨some 42,.load false 1 (.t 41),none⟩,
 ⟨some 43,.bslice true [.int .u8 0] 1 1 [(0,(.t 42))],none⟩,
 ⟨some 44,.append false 1 1 (.t 34) (.t 43),none⟩,
 ⟨some 4,.mov (.t 44),none⟩])
 (.seq (.region [⟨some 45,.faddr 3 (.t 2),none⟩,
 ⟨some 46,.load false 1 (.t 45),none⟩,
 ⟨some 47,.mov (.t 8),none⟩,
 ⟨some 48,.iaddr 1 (.t 46) (.t 47),none⟩,
 ⟨some 49,.load false 1 (.t 48),none⟩,
 ⟨some 50,.mov (.t 10),none⟩,
 ⟨some 51,.iaddr 1 (.t 49) (.t 50),none⟩,
 ⟨some 52,.load false 1 (.t 51),none⟩,
 ⟨some 8,.mov (.t 52),none⟩])
 (.region [⟨some 53,.mov (.t 5),none⟩,
 ⟨some 54,.mov (.t 8),none⟩,
 ⟨some 55,.bslice true [.int .i64 0] 1 1 [(0,(.t 54))],none⟩,
 ⟨some 56,.append false 1 8 (.t 53) (.t 55),none⟩,
 ⟨some 5,.mov (.t 56),none⟩])))))
 (.region [⟨some 57,.bin .add (.t 30) (.c (.int .i64 1)),none⟩,
 ⟨some 30,.mov (.t 57),none⟩])))
def yBb : ACode := xZz
def xZA : List Nat := [0,1,3,6,7,9,10,11,12,13,14,15,16,17,18,19,20,21,22,23,24,25,26,27,31,32,33,34,35,36,37,38,39,40,41,42,43,44,45,46,47,48,49,50,51,52,53,54,55,56,57,58,59]
def a16 : AFunc := ⟨60,
 .seq (.region [⟨some 2,.box (.t 0),none⟩,
 ⟨some 4,.mov (.c (.sl true 0 [])),none⟩,
 ⟨some 5,.mov (.c (.sl true 0 [])),none⟩,
 ⟨some 6,.mov (.c (.int .i64 0)),none⟩])
 (.seq (.seq (.region [⟨some 11,.load true 5 (.t 2),none⟩,
 ⟨some 12,.call 21 [(.t 11)],none⟩,
 ⟨some 7,.mov (.t 12),none⟩])
 (.seq (.region [⟨some 13,.mov (.t 7),none⟩,
 ⟨some 14,.bin .neq (.t 13) (.c (.int .i64 0)),none⟩])
 (.cond (.t 14)
 (.seq (.region [⟨some 15,.mov (.t 7),none⟩,
 ⟨some 4,.mov (.c (.sl true 0 [])),none⟩,
 ⟨some 5,.mov (.c (.sl true 0 [])),none⟩,
 ⟨some 6,.mov (.t 15),none⟩])
 (.ret))
 (.skip))))
 (.seq (.block 0 (.seq (.region [⟨some 17,.mov (.t 1),none⟩,
 ⟨some 18,.len (.t 17),none⟩,
 ⟨some 19,.bin .gtr (.t 18) (.c (.int .i64 64)),none⟩,
 ⟨some 16,.mov (.t 19),none⟩])
 (.cond (.t 16)
 (.seq (.region [⟨some 4,.mov (.c (.sl true 0 [])),none⟩,
 ⟨some 5,.mov (.c (.sl true 0 [])),none⟩,
 ⟨some 6,.mov (.c (.int .i64 4)),none⟩])
 (.ret))
 (.seq (.region [⟨some 21,.mov (.t 1),none⟩,
 ⟨some 22,.mkfunc 53 [(.t 2)],none⟩,
 ⟨some 23,.icall (.c (.func 52 [])) [(.t 21),(.t 22)],none⟩,
 ⟨some 20,.mov (.t 23),none⟩])
 (.cond (.t 20)
 (.seq (.region [⟨some 4,.mov (.c (.sl true 0 [])),none⟩,
 ⟨some 5,.mov (.c (.sl true 0 [])),none⟩,
 ⟨some 6,.mov (.c (.int .i64 1)),none⟩])
 (.ret))
 (.skip))))))
 (.seq (.region [⟨some 24,.faddr 2 (.t 2),none⟩,
 ⟨some 25,.load false 1 (.t 24),none⟩,
 ⟨some 8,.mov (.t 25),none⟩])
 (.seq (.region [⟨some 26,.mov (.t 8),none⟩,
 ⟨some 27,.bslice false [.int .i64 0] 1 1 [(0,(.t 26))],none⟩,
 ⟨some 5,.mov (.t 27),none⟩])
 (.seq (.seq (.region [⟨some 28,.mov (.t 1),none⟩,
 ⟨some 29,.len (.t 28),none⟩,
 ⟨some 30,.mov (.c (.int .i64 0)),none⟩])
 (.block 1 (.loop xZA yBb)))
 (.seq (.region [⟨some 58,.mov (.t 4),none⟩,
 ⟨some 59,.mov (.t 5),none⟩,
 ⟨some 4,.mov (.t 58),none⟩,
 ⟨some 5,.mov (.t 59),none⟩,
 ⟨some 6,.mov (.c (.int .i64 0)),none⟩])
 (.ret))))))),
 [.tmp 4,.tmp 5,.tmp 6]⟩
def xL2 : ACode :=
 .seq (.block 1 (.seq (.seq (.region [⟨some 33,.mov (.t 8),none⟩,
 ⟨some 34,.load true 2 (.t 3),none⟩,
 ⟨some 35,.mov (.t 10),none⟩,
 ⟨some 36,.call 55 [(.t 34),(.t 35)],none⟩,
 ⟨some 37,.build [.int .i64 0,.int .i64 0] [(0,1,(.t 33)),(1,1,(.t 36))],none⟩,
 ⟨some 38,.icall (.c (.func 54 [])) [(.t 9),(.t 37)],none⟩,
 ⟨some 32,.mov (.t 38),none⟩,
 ⟨some 39,.ext 0 (.t 32),none⟩,
 ⟨some 40,.ext 1 (.t 32),none⟩,
 ⟨some 11,.box (.c (.agg [.sl true 0 [],.sl true 0 []])),none⟩,
 ⟨none,.store 2 (.t 11) (.t 39),none⟩,
 ⟨some 12,.mov (.t 40),none⟩])
 (.seq (.region [⟨some 41,.mov (.t 12),none⟩])
 (.cond (.t 41)
 (.seq (.region [⟨some 42,.load true 2 (.t 11),none⟩,
 ⟨none,.store 2 (.t 4) (.t 42),none⟩,
 ⟨some 5,.mov (.c (.int .i64 0)),none⟩])
 (.ret))
 (.skip))))
 (.seq (.region [⟨some 43,.load true 2 (.t 3),none⟩,
 ⟨some 44,.mov (.t 10),none⟩,
 ⟨some 45,.call 47 [(.t 43),(.t 44)],none⟩,
 ⟨some 13,.mov (.t 45),none⟩])
 (.seq (.draw 11 [⟨some 46,.faddr 1 (.t 9),none⟩,
 ⟨some 47,.load false 1 (.t 46),none⟩,
 ⟨some 48,.mov (.t 13),none⟩,
 ⟨some 49,.faddr 4 (.t 2),none⟩,
 ⟨some 50,.load false 1 (.t 49),none⟩,
 ⟨some 51,.mov (.t 8),none⟩,
 ⟨some 52,.iaddr 1 (.t 50) (.t 51),none⟩,
 ⟨some 53,.load false 1 (.t 52),none⟩,
 ⟨some 54,.mov (.t 13),none⟩,
 ⟨some 55,.iaddr 1 (.t 53) (.t 54),none⟩,
 ⟨some 56,.load false 1 (.t 55),none⟩,
 ⟨some 57,.faddr 0 (.t 2),none⟩,
 ⟨some 58,.load false 1 (.t 57),none⟩,
 ⟨some 59,.bin .shl (.t 56) (.t 58),none⟩,
 ⟨some 60,.bin .or (.t 48) (.t 59),none⟩,
 ⟨some 61,.bslice true [.int .u8 0] 1 1 [(0,(.t 60))],none⟩,
 ⟨some 62,.append false 1 1 (.t 47) (.t 61),none⟩,
 ⟨some 63,.faddr 1 (.t 9),none⟩,
 ⟨none,.store 1 (.t 63) (.t 62),none⟩])
 (.region [⟨some 64,.faddr 3 (.t 2),none⟩,
 ⟨some 65,.load false 1 (.t 64),none⟩,
 ⟨some 66,.mov (.t 8),none⟩,
 ⟨some 67,.iaddr 1 (.t 65) (.t 66),none⟩,
 ⟨some 68,.load false 1 (.t 67),none⟩,
 ⟨some 69,.mov (.t 13),none⟩,
 ⟨some 70,.iaddr 1 (.t 68) (.t 69),none⟩,
 ⟨some 71,.load false 1 (.t 70),none⟩,
 ⟨some 8,.mov (.t 71),none⟩])))))
 (.region [⟨some 30,.mov (.t 10),none⟩,
 ⟨some 31,.bin .add (.t 30) (.c (.int .i64 1)),none⟩,
 ⟨some 10,.mov (.t 31),none⟩])
def xOv : ACode := xL2
def xFS : List Nat := [0,1,6,7,11,12,13,14,15,16,17,18,19,20,21,22,23,24,25,26,27,28,29,30,31,32,33,34,35,36,37,38,39,40,41,42,43,44,45,46,47,48,49,50,51,52,53,54,55,56,57,58,59,60,61,62,63,64,65,66,67,68,69,70,71]
abbrev xO9 (s2 s3 s4 s5 s8 s9 s10 : AV) : List AV := [.any,.any,s2,s3,s4,s5,.any,.any,s8,s9,s10,.any,.any,.any,.any,.any,.any,.any,.any,.any,.any,.any,.any,.any,.any,.any,.any,.any,.any,.any,.any,.any,.any,.any,.any,.any,.any,.any,.any,.any,.any,.any,.any,.any,.any,.any,.any,.any,.any,.any,.any,.any,.any,.any,.any,.any,.any,.any,.any,.any,.any,.any,.any,.any,.any,.any,.any,.any,.any,.any,.any,.any]
theorem xL3 (s0 s1 s2 s3 s4 s5 s6 s7 s8 s9 s10 s11 s12 s13 s14 s15 s16 s17 s18 s19 s20 s21 s22 s23 s24 s25 s26 s27 s28 s29 s30 s31 s32 s33 s34 s35 s36 s37 s38 s39 s40 s41 s42 s43 s44 s45 s46 s47 s48 s49 s50 s51 s52 s53 s54 s55 s56 s57 s58 s59 s60 s61 s62 s63 s64 s65 s66 s67 s68 s69 s70 s71 : AV) : xAG xFS [s0,s1,s2,s3,s4,s5,s6,s7,s8,s9,s10,s11,s12,s13,s14,s15,s16,s17,s18,s19,s20,s21,s22,s23,s24,s25,s26,s27,s28,s29,s30,s31,s32,s33,s34,s35,s36,s37,s38,s39,s40,s41,s42,s43,s44,s45,s46,s47,s48,s49,s50,s51,s52,s53,s54,s55,s56,s57,s58,s59,s60,s61,s62,s63,s64,s65,s66,s67,s68,s69,s70,s71] = xO9 s2 s3 s4 s5 s8 s9 s10 := by kernel_rfl
theorem xSA {prog : Nat → Option AFunc} (s2 s3 s4 s5 s8 s9 s10 : AV) (H : Heap) : (lim prog).loop xFS xOv ⟨xO9 s2 s3 s4 s5 s8 s9 s10,H⟩ = xBG (lim prog) xFS xOv (run (lim prog) xL2 ⟨xO9 s2 s3 s4 s5 s8 s9 s10,H⟩) := xAo _ _ _ _ (by kernel_rfl)
def a18 : AFunc := ⟨72,
 .seq (.region [⟨some 2,.box (.t 0),none⟩,
 ⟨some 3,.box (.t 1),none⟩,
 ⟨some 4,.box (.c (.agg [.sl true 0 [],.sl true 0 []])),none⟩,
 ⟨some 5,.mov (.c (.int .i64 0)),none⟩])
 (.seq (.seq (.region [⟨some 14,.load true 5 (.t 2),none⟩,
 ⟨some 15,.call 21 [(.t 14)],none⟩,
 ⟨some 6,.mov (.t 15),none⟩])
 (.seq (.region [⟨some 16,.mov (.t 6),none⟩,
 ⟨some 17,.bin .neq (.t 16) (.c (.int .i64 0)),none⟩])
 (.cond (.t 17)
 (.seq (.region [⟨some 18,.build [.sl true 0 [],.sl true 0 []] [],none⟩,
 ⟨some 19,.mov (.t 6),none⟩,
 ⟨none,.store 2 (.t 4) (.t 18),none⟩,
 ⟨some 5,.mov (.t 19),none⟩])
 (.ret))
 (.skip))))
 (.seq (.seq (.region [⟨some 20,.load true 2 (.t 3),none⟩,
 ⟨some 21,.faddr 0 (.t 2),none⟩,
 ⟨some 22,.load false 1 (.t 21),none⟩,
 ⟨some 23,.call 45 [(.t 20),(.t 22)],none⟩,
 ⟨some 7,.mov (.t 23),none⟩])
 (.seq (.region [⟨some 24,.mov (.t 7),none⟩,
 ⟨some 25,.bin .neq (.t 24) (.c (.int .i64 0)),none⟩])
 (.cond (.t 25)
 (.seq (.region [⟨some 26,.build [.sl true 0 [],.sl true 0 []] [],none⟩,
 ⟨some 27,.mov (.t 7),none⟩,
 ⟨none,.store 2 (.t 4) (.t 26),none⟩,
 ⟨some 5,.mov (.t 27),none⟩])
 (.ret))
 (.skip))))
 (.seq (.region [⟨some 28,.faddr 2 (.t 2),none⟩,
 ⟨some 29,.load false 1 (.t 28),none⟩,
 ⟨some 8,.mov (.t 29),none⟩])
 (.seq (.region [⟨some 9,.box (.c (.agg [.nilm,.sl true 0 []])),none⟩])
 (.seq (.region [⟨some 10,.mov (.c (.int .i64 0)),none⟩])
 (.block 0 (.loop xFS xOv))))))),
 [.cell 4 true 2,.tmp 5]⟩
def xEL : ACode :=
 .seq (.region [⟨some 28,.bin .lss (.t 27) (.t 26),none⟩])
 (.seq (.cond (.t 28)
 (.skip)
 (.exit 0))
 (.seq (.block 1 (.seq (.region [⟨some 29,.mov (.t 27),none⟩,
 ⟨some 30,.iaddr 1 (.t 25) (.t 27),none⟩,
 ⟨some 31,.load false 1 (.t 30),none⟩,
 ⟨some 5,.mov (.t 29),none⟩,
 ⟨some 6,.mov (.t 31),none⟩])
 (.block 2 (.seq (.draw 16 [⟨some 33,.mov (.t 6),none⟩,
 ⟨some 34,.len (.t 33),none⟩,
 ⟨some 35,.faddr 0 (.t 1),none⟩,
 ⟨some 36,.load false 1 (.t 35),none⟩,
 ⟨some 37,.bin .shl (.c (.int .i64 1)) (.t 36),none⟩,
 ⟨some 38,.bin .neq (.t 34) (.t 37),none⟩,
 ⟨some 39,.mov (.t 38),none⟩,
 ⟨some 40,.faddr 4 (.t 1),some (39,false)⟩,
 ⟨some 41,.load false 1 (.t 40),some (39,false)⟩,
 ⟨some 42,.mov (.t 5),some (39,false)⟩,
 ⟨some 43,.iaddr 1 (.t 41) (.t 42),some (39,false)⟩,
 ⟨some 44,.load false 1 (.t 43),some (39,false)⟩,
 ⟨some 45,.len (.t 44),some (39,false)⟩,
 ⟨some 46,.faddr 0 (.t 1),some (39,false)⟩,
 ⟨some 47,.load false 1 (.t 46),some (39,false)⟩,
 ⟨some 48,.bin .shl (.c (.int .i64 1)) (.t 47),some (39,false)⟩,
 ⟨some 49,.bin .neq (.t 45) (.t 48),some (39,false)⟩,
 ⟨some 50,.pick (.t 39) (.c (.bool true)) (.t 49),none⟩,
 ⟨some 32,.mov (.t 50),none⟩])
 (.cond (.t 32)
 (.seq (.region [⟨some 2,.mov (.c (.int .i64 2)),none⟩])
 (.ret))
 (.seq (.region [⟨some 52,.mov (.t 6),none⟩,
 ⟨some 53,.mov (.t 3),none⟩,
 ⟨some 54,.call 60 [(.t 52),(.t 53)],none⟩,
 ⟨some 51,.mov (.t 54),none⟩])
 (.cond (.t 51)
 (.seq (.region [⟨some 2,.mov (.c (.int .i64 8)),none⟩])
 (.ret))
 (.seq (.draw 10 [⟨some 56,.faddr 4 (.t 1),none⟩,
 ⟨some 57,.load false 1 (.t 56),none⟩,
 ⟨some 58,.mov (.t 5),none⟩,
 ⟨some 59,.iaddr 1 (.t 57) (.t 58),none⟩,
 ⟨some 60,.load false 1 (.t 59),none⟩,
 ⟨some 61,.call 61 [(.t 60)],none⟩,
 ⟨some 62,.conv .i64 (.t 61),none⟩,
 ⟨some 63,.faddr 1 (.t 1),none⟩,
 ⟨some 64,.load false 1 (.t 63),none⟩,
 ⟨some 65,.bin .shl (.c (.int .i64 1)) (.t 64),none⟩,
 ⟨some 66,.bin .geq (.t 62) (.t 65),none⟩,
 ⟨some 55,.mov (.t 66),none⟩])
 (.cond (.t 55)
 (.seq (.region [⟨some 2,.mov (.c (.int .i64 1)),none⟩])
 (.ret))
 (.skip))))))))))
 (.region [⟨some 67,.bin .add (.t 27) (.c (.int .i64 1)),none⟩,
 ⟨some 27,.mov (.t 67),none⟩])))
def xVM : ACode := xEL
def xL4 : List Nat := [0,4,5,6,7,8,9,10,11,12,13,14,15,16,17,18,19,20,21,22,23,24,28,29,30,31,32,33,34,35,36,37,38,39,40,41,42,43,44,45,46,47,48,49,50,51,52,53,54,55,56,57,58,59,60,61,62,63,64,65,66,67]
abbrev xIW (s1 s2 s3 s25 s26 s27 : AV) : List AV := [.any,s1,s2,s3,.any,.any,.any,.any,.any,.any,.any,.any,.any,.any,.any,.any,.any,.any,.any,.any,.any,.any,.any,.any,.any,s25,s26,s27,.any,.any,.any,.any,.any,.any,.any,.any,.any,.any,.any,.any,.any,.any,.any,.any,.any,.any,.any,.any,.any,.any,.any,.any,.any,.any,.any,.any,.any,.any,.any,.any,.any,.any,.any,.any,.any,.any,.any,.any]
theorem xEM (s0 s1 s2 s3 s4 s5 s6 s7 s8 s9 s10 s11 s12 s13 s14 s15 s16 s17 s18 s19 s20 s21 s22 s23 s24 s25 s26 s27 s28 s29 s30 s31 s32 s33 s34 s35 s36 s37 s38 s39 s40 s41 s42 s43 s44 s45 s46 s47 s48 s49 s50 s51 s52 s53 s54 s55 s56 s57 s58 s59 s60 s61 s62 s63 s64 s65 s66 s67 : AV) : xAG xL4 [s0,s1,s2,s3,s4,s5,s6,s7,s8,s9,s10,s11,s12,s13,s14,s15,s16,s17,s18,s19,s20,s21,s22,s23,s24,s25,s26,s27,s28,s29,s30,s31,s32,s33,s34,s35,s36,s37,s38,s39,s40,s41,s42,s43,s44,s45,s46,s47,s48,s49,s50,s51,s52,s53,s54,s55,s56,s57,s58,s59,s60,s61,s62,s63,s64,s65,s66,s67] = xIW s1 s2 s3 s25 s26 s27 := by kernel_rfl
theorem xIX {prog : Nat → Option AFunc} (s1 s2 s3 s25 s26 s27 : AV) (H : Heap) : (lim prog).loop xL4 xVM ⟨xIW s1 s2 s3 s25 s26 s27,H⟩ = xBG (lim prog) xL4 xVM (run (lim prog) xEL ⟨xIW s1 s2 s3 s25 s26 s27,H⟩) := xAo _ _ _ _ (by kernel_rfl)
def a21 : AFunc := ⟨68,
 .seq (.region [⟨some 1,.box (.t 0),none⟩,
 ⟨some 2,.mov (.c (.int .i64 0)),none⟩])
 (.seq (.region [⟨some 7,.faddr 3 (.t 1),none⟩,
 ⟨some 8,.load false 1 (.t 7),none⟩,
 ⟨some 9,.len (.t 8),none⟩,
 ⟨some 3,.mov (.t 9),none⟩])
 (.seq (.seq (.region [⟨some 10,.faddr 0 (.t 1),none⟩,
 ⟨some 11,.load false 1 (.t 10),none⟩,
 ⟨some 12,.faddr 1 (.t 1),none⟩,
 ⟨some 13,.load false 1 (.t 12),none⟩,
 ⟨some 14,.mov (.t 3),none⟩,
 ⟨some 15,.faddr 4 (.t 1),none⟩,
 ⟨some 16,.load false 1 (.t 15),none⟩,
 ⟨some 17,.len (.t 16),none⟩,
 ⟨some 18,.faddr 2 (.t 1),none⟩,
 ⟨some 19,.load false 1 (.t 18),none⟩,
 ⟨some 20,.call 59 [(.t 11),(.t 13),(.t 14),(.t 17),(.t 19)],none⟩,
 ⟨some 4,.mov (.t 20),none⟩])
 (.seq (.region [⟨some 21,.mov (.t 4),none⟩,
 ⟨some 22,.bin .neq (.t 21) (.c (.int .i64 0)),none⟩])
 (.cond (.t 22)
 (.seq (.region [⟨some 23,.mov (.t 4),none⟩,
 ⟨some 2,.mov (.t 23),none⟩])
 (.ret))
 (.skip))))
 (.seq (.seq (.region [⟨some 24,.faddr 3 (.t 1),none⟩,
 ⟨some 25,.load false 1 (.t 24),none⟩,
 ⟨some 26,.len (.t 25),none⟩,
 ⟨some 27,.mov (.c (.int .i64 0)),none⟩])
 (.block 0 (.loop xL4 xVM)))
 (.seq (.region [⟨some 2,.mov (.c (.int .i64 0)),none⟩])
 (.ret))))),
 [.tmp 2]⟩
def xIY : ACode :=
 .seq (.seq (.region [⟨some 67,.mov (.t 6),none⟩,
 ⟨some 68,.faddr 4 (.t 1),none⟩,
 ⟨some 69,.load false 1 (.t 68),none⟩,
 ⟨some 70,.mov (.t 5),none⟩,
 ⟨some 71,.iaddr 1 (.t 69) (.t 70),none⟩,
 ⟨some 72,.load false 1 (.t 71),none⟩,
 ⟨some 73,.len (.t 72),none⟩,
 ⟨some 74,.bin .lss (.t 67) (.t 73),none⟩])
 (.cond (.t 74)
 (.skip)
 (.exit 2)))
 (.seq (.block 3 (.seq (.draw 9 [⟨some 77,.faddr 4 (.t 1),none⟩,
 ⟨some 78,.load false 1 (.t 77),none⟩,
 ⟨some 79,.mov (.t 5),none⟩,
 ⟨some 80,.iaddr 1 (.t 78) (.t 79),none⟩,
 ⟨some 81,.load false 1 (.t 80),none⟩,
 ⟨some 82,.mov (.t 6),none⟩,
 ⟨some 83,.iaddr 1 (.t 81) (.t 82),none⟩,
 ⟨some 84,.load false 1 (.t 83),none⟩,
 ⟨some 85,.conv .i64 (.t 84),none⟩,
 ⟨some 86,.faddr 1 (.t 1),none⟩,
 ⟨some 87,.load false 1 (.t 86),none⟩,
 ⟨some 88,.conv .u64 (.t 87),none⟩,
 ⟨some 89,.bin .shl (.c (.int .i64 1)) (.t 88),none⟩,
 ⟨some 90,.bin .geq (.t 85) (.t 89),none⟩])
 (.cond (.t 90)
 (.seq (.region [⟨some 2,.mov (.c (.int .i64 1)),none⟩])
 (.ret))
 (.skip))))
 (.region [⟨some 75,.mov (.t 6),none⟩,
 ⟨some 76,.bin .add (.t 75) (.c (.int .i64 1)),none⟩,
 ⟨some 6,.mov (.t 76),none⟩]))
def xVN : ACode := xIY
def xL5 : List Nat := [0,3,4,7,8,9,10,11,12,13,14,15,16,17,18,19,20,21,22,23,24,25,26,27,28,29,30,31,32,33,34,35,36,37,38,39,40,41,42,43,44,45,46,47,48,49,50,51,52,53,54,55,56,57,58,59,60,61,62,63,64,65,66,67,68,69,70,71,72,73,74,75,76,77,78,79,80,81,82,83,84,85,86,87,88,89,90]
abbrev xIZ (s1 s2 s5 s6 : AV) : List AV := [.any,s1,s2,.any,.any,s5,s6,.any,.any,.any,.any,.any,.any,.any,.any,.any,.any,.any,.any,.any,.any,.any,.any,.any,.any,.any,.any,.any,.any,.any,.any,.any,.any,.any,.any,.any,.any,.any,.any,.any,.any,.any,.any,.any,.any,.any,.any,.any,.any,.any,.any,.any,.any,.any,.any,.any,.any,.any,.any,.any,.any,.any,.any,.any,.any,.any,.any,.any,.any,.any,.any,.any,.any,.any,.any,.any,.any,.any,.any,.any,.any,.any,.any,.any,.any,.any,.any,.any,.any,.any,.any]
theorem xHc (s0 s1 s2 s3 s4 s5 s6 s7 s8 s9 s10 s11 s12 s13 s14 s15 s16 s17 s18 s19 s20 s21 s22 s23 s24 s25 s26 s27 s28 s29 s30 s31 s32 s33 s34 s35 s36 s37 s38 s39 s40 s41 s42 s43 s44 s45 s46 s47 s48 s49 s50 s51 s52 s53 s54 s55 s56 s57 s58 s59 s60 s61 s62 s63 s64 s65 s66 s67 s68 s69 s70 s71 s72 s73 s74 s75 s76 s77 s78 s79 s80 s81 s82 s83 s84 s85 s86 s87 s88 s89 s90 : AV) : xAG xL5 [s0,s1,s2,s3,s4,s5,s6,s7,s8,s9,s10,s11,s12,s13,s14,s15,s16,s17,s18,s19,s20,s21,s22,s23,s24,s25,s26,s27,s28,s29,s30,s31,s32,s33,s34,s35,s36,s37,s38,s39,s40,s41,s42,s43,s44,s45,s46,s47,s48,s49,s50,s51,s52,s53,s54,s55,s56,s57,s58,s59,s60,s61,s62,s63,s64,s65,s66,s67,s68,s69,s70,s71,s72,s73,s74,s75,s76,s77,s78,s79,s80,s81,s82,s83,s84,s85,s86,s87,s88,s89,s90] = xIZ s1 s2 s5 s6 := by kernel_rfl
theorem xSB {prog : Nat → Option AFunc} (s1 s2 s5 s6 : AV) (H : Heap) : (lim prog).loop xL5 xVN ⟨xIZ s1 s2 s5 s6,H⟩ = xBG (lim prog) xL5 xVN (run (lim prog) xIY ⟨xIZ s1 s2 s5 s6,H⟩) := xAo _ _ _ _ (by kernel_rfl)
def xEN : ACode :=
 .seq (.seq (.region [⟨some 26,.mov (.t 5),none⟩,
 ⟨some 27,.faddr 3 (.t 1),none⟩,
 ⟨some 28,.load false 1 (.t 27),none⟩,
 ⟨some 29,.len (.t 28),none⟩,
 ⟨some 30,.bin .lss (.t 26) (.t 29),none⟩])
 (.cond (.t 30)
 (.skip)
 (.exit 0)))
 (.seq (.block 1 (.seq (.seq (.draw 22 [⟨some 33,.faddr 3 (.t 1),none⟩,
 ⟨some 34,.load false 1 (.t 33),none⟩,
 ⟨some 35,.mov (.t 5),none⟩,
 ⟨some 36,.iaddr 1 (.t 34) (.t 35),none⟩,
 ⟨some 37,.load false 1 (.t 36),none⟩,
 ⟨some 38,.len (.t 37),none⟩,
 ⟨some 39,.faddr 0 (.t 1),none⟩,
 ⟨some 40,.load false 1 (.t 39),none⟩,
 ⟨some 41,.conv .u64 (.t 40),none⟩,
 ⟨some 42,.bin .shl (.c (.int .i64 1)) (.t 41),none⟩,
 ⟨some 43,.bin .neq (.t 38) (.t 42),none⟩,
 ⟨some 44,.mov (.t 43),none⟩,
 ⟨some 45,.faddr 4 (.t 1),some (44,false)⟩,
 ⟨some 46,.load false 1 (.t 45),some (44,false)⟩,
 ⟨some 47,.mov (.t 5),some (44,false)⟩,
 ⟨some 48,.iaddr 1 (.t 46) (.t 47),some (44,false)⟩,
 ⟨some 49,.load false 1 (.t 48),some (44,false)⟩,
 ⟨some 50,.len (.t 49),some (44,false)⟩,
 ⟨some 51,.faddr 0 (.t 1),some (44,false)⟩,
 ⟨some 52,.load false 1 (.t 51),some (44,false)⟩,
 ⟨some 53,.conv .u64 (.t 52),some (44,false)⟩,
 ⟨some 54,.bin .shl (.c (.int .i64 1)) (.t 53),some (44,false)⟩,
 ⟨some 55,.bin .neq (.t 50) (.t 54),some (44,false)⟩,
 ⟨some 56,.pick (.t 44) (.c (.bool true)) (.t 55),none⟩])
 (.cond (.t 56)
 (.seq (.region [⟨some 2,.mov (.c (.int .i64 2)),none⟩])
 (.ret))
 (.skip)))
 (.seq (.seq (.draw 5 [⟨some 57,.faddr 3 (.t 1),none⟩,
 ⟨some 58,.load false 1 (.t 57),none⟩,
 ⟨some 59,.mov (.t 5),none⟩,
 ⟨some 60,.iaddr 1 (.t 58) (.t 59),none⟩,
 ⟨some 61,.load false 1 (.t 60),none⟩,
 ⟨some 62,.faddr 3 (.t 1),none⟩,
 ⟨some 63,.load false 1 (.t 62),none⟩,
 ⟨some 64,.len (.t 63),none⟩,
 ⟨some 65,.call 64 [(.t 61),(.t 64)],none⟩,
 ⟨some 66,.un .not (.t 65),none⟩])
 (.cond (.t 66)
 (.seq (.region [⟨some 2,.mov (.c (.int .i64 8)),none⟩])
 (.ret))
 (.skip)))
 (.seq (.region [⟨some 6,.mov (.c (.int .i64 0)),none⟩])
 (.block 2 (.loop xL5 xVN))))))
 (.region [⟨some 31,.mov (.t 5),none⟩,
 ⟨some 32,.bin .add (.t 31) (.c (.int .i64 1)),none⟩,
 ⟨some 5,.mov (.t 32),none⟩]))
def xVO : ACode := xEN
def xL6 : List Nat := [0,3,4,6,7,8,9,10,11,12,13,14,15,16,17,18,19,20,21,22,23,24,25,26,27,28,29,30,31,32,33,34,35,36,37,38,39,40,41,42,43,44,45,46,47,48,49,50,51,52,53,54,55,56,57,58,59,60,61,62,63,64,65,66,67,68,69,70,71,72,73,74,75,76,77,78,79,80,81,82,83,84,85,86,87,88,89,90]
abbrev xI0 (s1 s2 s5 : AV) : List AV := [.any,s1,s2,.any,.any,s5,.any,.any,.any,.any,.any,.any,.any,.any,.any,.any,.any,.any,.any,.any,.any,.any,.any,.any,.any,.any,.any,.any,.any,.any,.any,.any,.any,.any,.any,.any,.any,.any,.any,.any,.any,.any,.any,.any,.any,.any,.any,.any,.any,.any,.any,.any,.any,.any,.any,.any,.any,.any,.any,.any,.any,.any,.any,.any,.any,.any,.any,.any,.any,.any,.any,.any,.any,.any,.any,.any,.any,.any,.any,.any,.any,.any,.any,.any,.any,.any,.any,.any,.any,.any,.any]
theorem xEO (s0 s1 s2 s3 s4 s5 s6 s7 s8 s9 s10 s11 s12 s13 s14 s15 s16 s17 s18 s19 s20 s21 s22 s23 s24 s25 s26 s27 s28 s29 s30 s31 s32 s33 s34 s35 s36 s37 s38 s39 s40 s41 s42 s43 s44 s45 s46 s47 s48 s49 s50 s51 s52 s53 s54 s55 s56 s57 s58 s59 s60 s61 s62 s63 s64 s65 s66 s67 s68 s69 s70 s71 s72 s73 s74 s75 s76 s77 s78 s79 s80 s81 s82 s83 s84 s85 s86 s87 s88 s89 s90 : AV) : xAG xL6 [s0,s1,s2,s3,s4,s5,s6,s7,s8,s9,s10,s11,s12,s13,s14,s15,s16,s17,s18,s19,s20,s21,s22,s23,s24,s25,s26,s27,s28,s29,s30,s31,s32,s33,s34,s35,s36,s37,s38,s39,s40,s41,s42,s43,s44,s45,s46,s47,s48,s49,s50,s51,s52,s53,s54,s55,s56,s57,s58,s59,s60,s61,s62,s63,s64,s65,s66,s67,s68,s69,s70,s71,s72,s73,s74,s75,s76,s77,s78,s79,s80,s81,s82,s83,s84,s85,s86,s87,s88,s89,s90] = xI0 s1 s2 s5 := by kernel_rfl
theorem xI1 {prog : Nat → Option AFunc} (s1 s2 s5 : AV) (H : Heap) : (lim prog).loop xL6 xVO ⟨xI0 s1 s2 s5,H⟩ = xBG (lim prog) xL6 xVO (run (lim prog) xEN ⟨xI0 s1 s2 s5,H⟩) := xAo _ _ _ _ (by kernel_rfl)
def a22 : AFunc := ⟨91,
 .seq (.region [⟨some 1,.box (.t 0),none⟩,
 ⟨some 2,.mov (.c (.int .i64 0)),none⟩])
 (.seq (.seq (.region [⟨some 7,.faddr 0 (.t 1),none⟩,
 ⟨some 8,.load false 1 (.t 7),none⟩,
 ⟨some 9,.faddr 1 (.t 1),none⟩,
 ⟨some 10,.load false 1 (.t 9),none⟩,
 ⟨some 11,.call 62 [(.t 8),(.t 10)],none⟩,
 ⟨some 3,.mov (.t 11),none⟩])
 (.seq (.region [⟨some 12,.mov (.t 3),none⟩,
 ⟨some 13,.bin .neq (.t 12) (.c (.int .i64 0)),none⟩])
 (.cond (.t 13)
 (.seq (.region [⟨some 14,.mov (.t 3),none⟩,
 ⟨some 2,.mov (.t 14),none⟩])
 (.ret))
 (.skip))))
 (.seq (.seq (.region [⟨some 15,.faddr 3 (.t 1),none⟩,
 ⟨some 16,.load false 1 (.t 15),none⟩,
 ⟨some 17,.faddr 4 (.t 1),none⟩,
 ⟨some 18,.load false 1 (.t 17),none⟩,
 ⟨some 19,.len (.t 18),none⟩,
 ⟨some 20,.faddr 2 (.t 1),none⟩,
 ⟨some 21,.load false 1 (.t 20),none⟩,
 ⟨some 22,.call 63 [(.t 16),(.t 19),(.t 21)],none⟩,
 ⟨some 4,.mov (.t 22),none⟩])
 (.seq (.region [⟨some 23,.mov (.t 4),none⟩,
 ⟨some 24,.bin .neq (.t 23) (.c (.int .i64 0)),none⟩])
 (.cond (.t 24)
 (.seq (.region [⟨some 25,.mov (.t 4),none⟩,
 ⟨some 2,.mov (.t 25),none⟩])
 (.ret))
 (.skip))))
 (.seq (.seq (.region [⟨some 5,.mov (.c (.int .i64 0)),none⟩])
 (.block 0 (.loop xL6 xVO)))
 (.seq (.region [⟨some 2,.mov (.c (.int .i64 0)),none⟩])
 (.ret))))),
 [.tmp 2]⟩
def xZB : ACode :=
 .seq (.seq (.region [⟨some 11,.mov (.t 5),none⟩,
 ⟨some 12,.mov (.t 0),none⟩,
 ⟨some 13,.len (.t 12),none⟩,
 ⟨some 14,.bin .lss (.t 11) (.t 13),none⟩])
 (.cond (.t 14)
 (.skip)
 (.exit 0)))
 (.seq (.block 1 (.seq (.draw 5 [⟨some 17,.mov (.t 0),none⟩,
 ⟨some 18,.mov (.t 5),none⟩,
 ⟨some 19,.iaddr 1 (.t 17) (.t 18),none⟩,
 ⟨some 20,.load false 1 (.t 19),none⟩,
 ⟨some 21,.mov (.t 1),none⟩,
 ⟨some 22,.mov (.t 5),none⟩,
 ⟨some 23,.iaddr 1 (.t 21) (.t 22),none⟩,
 ⟨some 24,.load false 1 (.t 23),none⟩,
 ⟨some 25,.bin .neq (.t 20) (.t 24),none⟩])
 (.cond (.t 25)
 (.seq (.region [⟨some 4,.mov (.c (.bool false)),none⟩])
 (.ret))
 (.skip))))
 (.region [⟨some 15,.mov (.t 5),none⟩,
 ⟨some 16,.bin .add (.t 15) (.c (.int .i64 1)),none⟩,
 ⟨some 5,.mov (.t 16),none⟩]))
def yBc : ACode := xZB
def xZC : List Nat := [2,3,6,7,8,9,10,11,12,13,14,15,16,17,18,19,20,21,22,23,24,25]
def a23 : AFunc := ⟨26,
 .seq (.region [⟨some 4,.mov (.c (.bool false)),none⟩])
 (.seq (.seq (.region [⟨some 6,.mov (.t 0),none⟩,
 ⟨some 7,.len (.t 6),none⟩,
 ⟨some 8,.mov (.t 1),none⟩,
 ⟨some 9,.len (.t 8),none⟩,
 ⟨some 10,.bin .neq (.t 7) (.t 9),none⟩])
 (.cond (.t 10)
 (.seq (.region [⟨some 4,.mov (.c (.bool false)),none⟩])
 (.ret))
 (.skip)))
 (.seq (.seq (.region [⟨some 5,.mov (.c (.int .i64 0)),none⟩])
 (.block 0 (.loop xZC yBc)))
 (.seq (.region [⟨some 4,.mov (.c (.bool true)),none⟩])
 (.ret)))),
 [.tmp 4]⟩
def xZD : ACode :=
 .seq (.seq (.region [⟨some 11,.mov (.t 5),none⟩,
 ⟨some 12,.mov (.t 0),none⟩,
 ⟨some 13,.len (.t 12),none⟩,
 ⟨some 14,.bin .lss (.t 11) (.t 13),none⟩])
 (.cond (.t 14)
 (.skip)
 (.exit 0)))
 (.seq (.block 1 (.seq (.draw 5 [⟨some 17,.mov (.t 0),none⟩,
 ⟨some 18,.mov (.t 5),none⟩,
 ⟨some 19,.iaddr 1 (.t 17) (.t 18),none⟩,
 ⟨some 20,.load false 1 (.t 19),none⟩,
 ⟨some 21,.mov (.t 1),none⟩,
 ⟨some 22,.mov (.t 5),none⟩,
 ⟨some 23,.iaddr 1 (.t 21) (.t 22),none⟩,
 ⟨some 24,.load false 1 (.t 23),none⟩,
 ⟨some 25,.bin .neq (.t 20) (.t 24),none⟩])
 (.cond (.t 25)
 (.seq (.region [⟨some 4,.mov (.c (.bool false)),none⟩])
 (.ret))
 (.skip))))
 (.region [⟨some 15,.mov (.t 5),none⟩,
 ⟨some 16,.bin .add (.t 15) (.c (.int .i64 1)),none⟩,
 ⟨some 5,.mov (.t 16),none⟩]))
def yBd : ACode := xZD
def xZE : List Nat := [2,3,6,7,8,9,10,11,12,13,14,15,16,17,18,19,20,21,22,23,24,25]
def a24 : AFunc := ⟨26,
 .seq (.region [⟨some 4,.mov (.c (.bool false)),none⟩])
 (.seq (.seq (.region [⟨some 6,.mov (.t 0),none⟩,
 ⟨some 7,.len (.t 6),none⟩,
 ⟨some 8,.mov (.t 1),none⟩,
 ⟨some 9,.len (.t 8),none⟩,
 ⟨some 10,.bin .neq (.t 7) (.t 9),none⟩])
 (.cond (.t 10)
 (.seq (.region [⟨some 4,.mov (.c (.bool false)),none⟩])
 (.ret))
 (.skip)))
 (.seq (.seq (.region [⟨some 5,.mov (.c (.int .i64 0)),none⟩])
 (.block 0 (.loop xZE yBd)))
 (.seq (.region [⟨some 4,.mov (.c (.bool true)),none⟩])
 (.ret)))),
 [.tmp 4]⟩
def a25 : AFunc := ⟨17,
 .seq (.region [⟨some 2,.box (.t 0),none⟩,
 ⟨some 3,.box (.t 1),none⟩,
 ⟨some 4,.mov (.c (.bool false)),none⟩])
 (.seq (.region [⟨some 5,.faddr 0 (.t 2),none⟩,
 ⟨some 6,.load false 1 (.t 5),none⟩,
 ⟨some 7,.faddr 0 (.t 3),none⟩,
 ⟨some 8,.load false 1 (.t 7),none⟩,
 ⟨some 9,.call 65 [(.t 6),(.t 8)],none⟩,
 ⟨some 10,.mov (.t 9),none⟩,
 ⟨some 11,.faddr 1 (.t 2),some (10,true)⟩,
 ⟨some 12,.load false 1 (.t 11),some (10,true)⟩,
 ⟨some 13,.faddr 1 (.t 3),some (10,true)⟩,
 ⟨some 14,.load false 1 (.t 13),some (10,true)⟩,
 ⟨some 15,.call 65 [(.t 12),(.t 14)],some (10,true)⟩,
 ⟨some 16,.pick (.t 10) (.t 15) (.c (.bool false)),none⟩,
 ⟨some 4,.mov (.t 16),none⟩])
 (.ret)),
 [.tmp 4]⟩
def a29 : AFunc := ⟨38,
 .seq (.region [⟨some 2,.box (.t 0),none⟩,
 ⟨some 3,.box (.t 1),none⟩,
 ⟨some 4,.mov (.c (.bool false)),none⟩])
 (.seq (.region [⟨some 5,.faddr 0 (.t 2),none⟩,
 ⟨some 6,.load false 1 (.t 5),none⟩,
 ⟨some 7,.faddr 0 (.t 3),none⟩,
 ⟨some 8,.load false 1 (.t 7),none⟩,
 ⟨some 9,.bin .eql (.t 6) (.t 8),none⟩,
 ⟨some 10,.mov (.t 9),none⟩,
 ⟨some 11,.faddr 1 (.t 2),some (10,true)⟩,
 ⟨some 12,.load false 1 (.t 11),some (10,true)⟩,
 ⟨some 13,.faddr 1 (.t 3),some (10,true)⟩,
 ⟨some 14,.load false 1 (.t 13),some (10,true)⟩,
 ⟨some 15,.bin .eql (.t 12) (.t 14),some (10,true)⟩,
 ⟨some 16,.pick (.t 10) (.t 15) (.c (.bool false)),none⟩,
 ⟨some 17,.mov (.t 16),none⟩,
 ⟨some 18,.faddr 2 (.t 2),some (17,true)⟩,
 ⟨some 19,.load false 1 (.t 18),some (17,true)⟩,
 ⟨some 20,.faddr 2 (.t 3),some (17,true)⟩,
 ⟨some 21,.load false 1 (.t 20),some (17,true)⟩,
 ⟨some 22,.bin .eql (.t 19) (.t 21),some (17,true)⟩,
 ⟨some 23,.pick (.t 17) (.t 22) (.c (.bool false)),none⟩,
 ⟨some 24,.mov (.t 23),none⟩,
 ⟨some 25,.faddr 3 (.t 2),some (24,true)⟩,
 ⟨some 26,.load false 1 (.t 25),some (24,true)⟩,
 ⟨some 27,.faddr 3 (.t 3),some (24,true)⟩,
 ⟨some 28,.load false 1 (.t 27),some (24,true)⟩,
 ⟨some 29,.call 66 [(.t 26),(.t 28)],some (24,true)⟩,
 ⟨some 30,.pick (.t 24) (.t 29) (.c (.bool false)),none⟩,
 ⟨some 31,.mov (.t 30),none⟩,
 ⟨some 32,.faddr 4 (.t 2),some (31,true)⟩,
 ⟨some 33,.load false 1 (.t 32),some (31,true)⟩,
 ⟨some 34,.faddr 4 (.t 3),some (31,true)⟩,
 ⟨some 35,.load false 1 (.t 34),some (31,true)⟩,
 ⟨some 36,.call 67 [(.t 33),(.t 35)],some (31,true)⟩,
 ⟨some 37,.pick (.t 31) (.t 36) (.c (.bool false)),none⟩,
 ⟨some 4,.mov (.t 37),none⟩])
 (.ret)),
 [.tmp 4]⟩
def xI2 : ACode :=
 .seq (.seq (.region [⟨some 4,.mov (.t 3),none⟩,
 ⟨some 5,.faddr 4 (.t 1),none⟩,
 ⟨some 6,.load false 1 (.t 5),none⟩,
 ⟨some 7,.len (.t 6),none⟩,
 ⟨some 8,.bin .lss (.t 4) (.t 7),none⟩])
 (.cond (.t 8)
 (.skip)
 (.exit 0)))
 (.seq (.block 1 (.seq (.region [⟨some 11,.faddr 4 (.t 1),none⟩,
 ⟨some 12,.load false 1 (.t 11),none⟩,
 ⟨some 13,.mov (.t 3),none⟩,
 ⟨some 14,.iaddr 1 (.t 12) (.t 13),none⟩,
 ⟨some 15,.load false 1 (.t 14),none⟩,
 ⟨some 16,.len (.t 15),none⟩,
 ⟨some 17,.bin .gtr (.t 16) (.c (.int .i64 66)),none⟩])
 (.cond (.t 17)
 (.seq (.region [⟨some 2,.mov (.c (.bool true)),none⟩])
 (.ret))
 (.skip))))
 (.region [⟨some 9,.mov (.t 3),none⟩,
 ⟨some 10,.bin .add (.t 9) (.c (.int .i64 1)),none⟩,
 ⟨some 3,.mov (.t 10),none⟩]))
def xVP : ACode := xI2
def xL7 : List Nat := [0,4,5,6,7,8,9,10,11,12,13,14,15,16,17,18,19,20,21,22,23,24,25,26,27]
abbrev xI3 (s1 s2 s3 : AV) : List AV := [.any,s1,s2,s3,.any,.any,.any,.any,.any,.any,.any,.any,.any,.any,.any,.any,.any,.any,.any,.any,.any,.any,.any,.any,.any,.any,.any,.any]
theorem xFT (s0 s1 s2 s3 s4 s5 s6 s7 s8 s9 s10 s11 s12 s13 s14 s15 s16 s17 s18 s19 s20 s21 s22 s23 s24 s25 s26 s27 : AV) : xAG xL7 [s0,s1,s2,s3,s4,s5,s6,s7,s8,s9,s10,s11,s12,s13,s14,s15,s16,s17,s18,s19,s20,s21,s22,s23,s24,s25,s26,s27] = xI3 s1 s2 s3 := by kernel_rfl
theorem xSC {prog : Nat → Option AFunc} (s1 s2 s3 : AV) (H : Heap) : (lim prog).loop xL7 xVP ⟨xI3 s1 s2 s3,H⟩ = xBG (lim prog) xL7 xVP (run (lim prog) xI2 ⟨xI3 s1 s2 s3,H⟩) := xAo _ _ _ _ (by kernel_rfl)
def a30 : AFunc := ⟨28,
 .seq (.region [⟨some 1,.box (.t 0),none⟩,
 ⟨some 2,.mov (.c (.bool false)),none⟩])
 (.seq (.seq (.region [⟨some 3,.mov (.c (.int .i64 0)),none⟩])
 (.block 0 (.loop xL7 xVP)))
 (.seq (.region [⟨some 18,.faddr 4 (.t 1),none⟩,
 ⟨some 19,.load false 1 (.t 18),none⟩,
 ⟨some 20,.len (.t 19),none⟩,
 ⟨some 21,.bin .gtr (.t 20) (.c (.int .i64 14)),none⟩,
 ⟨some 22,.mov (.t 21),none⟩,
 ⟨some 23,.faddr 3 (.t 1),some (22,false)⟩,
 ⟨some 24,.load false 1 (.t 23),some (22,false)⟩,
 ⟨some 25,.len (.t 24),some (22,false)⟩,
 ⟨some 26,.bin .gtr (.t 25) (.c (.int .i64 16)),some (22,false)⟩,
 ⟨some 27,.pick (.t 22) (.c (.bool true)) (.t 26),none⟩,
 ⟨some 2,.mov (.t 27),none⟩])
 (.ret))),
 [.tmp 2]⟩
def xL8 : ACode :=
 .block 1 (.seq (.seq (.region [⟨some 45,.load true 2 (.t 8),none⟩,
 ⟨some 46,.icall (.c (.func 68 [])) [(.t 9),(.t 45)],none⟩,
 ⟨some 44,.mov (.t 46),none⟩,
 ⟨some 47,.ext 0 (.t 44),none⟩,
 ⟨some 48,.ext 1 (.t 44),none⟩,
 ⟨some 10,.box (.c (.agg [.sl true 0 [],.sl true 0 []])),none⟩,
 ⟨none,.store 2 (.t 10) (.t 47),none⟩,
 ⟨some 11,.mov (.t 48),none⟩])
 (.seq (.region [⟨some 49,.mov (.t 11),none⟩])
 (.cond (.t 49)
 (.seq (.region [⟨some 50,.load true 2 (.t 10),none⟩,
 ⟨none,.store 2 (.t 4) (.t 50),none⟩,
 ⟨some 5,.mov (.c (.int .i64 0)),none⟩])
 (.ret))
 (.skip))))
 (.seq (.region [⟨some 51,.faddr 3 (.t 3),none⟩,
 ⟨some 52,.load false 1 (.t 51),none⟩,
 ⟨some 53,.faddr 1 (.t 8),none⟩,
 ⟨some 54,.load false 1 (.t 53),none⟩,
 ⟨some 55,.iaddr 1 (.t 52) (.t 54),none⟩,
 ⟨some 56,.load false 1 (.t 55),none⟩,
 ⟨some 12,.mov (.t 56),none⟩])
 (.seq (.region [⟨some 57,.faddr 4 (.t 2),none⟩,
 ⟨some 58,.load false 1 (.t 57),none⟩,
 ⟨some 59,.faddr 0 (.t 8),none⟩,
 ⟨some 60,.load false 1 (.t 59),none⟩,
 ⟨some 61,.iaddr 1 (.t 58) (.t 60),none⟩,
 ⟨some 62,.load false 1 (.t 61),none⟩,
 ⟨some 63,.mov (.t 12),none⟩,
 ⟨some 64,.iaddr 1 (.t 62) (.t 63),none⟩,
 ⟨some 65,.load false 1 (.t 64),none⟩,
 ⟨some 13,.mov (.t 65),none⟩])
 (.seq (.draw 4 [⟨some 66,.faddr 1 (.t 9),none⟩,
 ⟨some 67,.load false 1 (.t 66),none⟩,
 ⟨some 68,.mov (.t 12),none⟩,
 ⟨some 69,.mov (.t 13),none⟩,
 ⟨some 70,.faddr 0 (.t 2),none⟩,
 ⟨some 71,.load false 1 (.t 70),none⟩,
 ⟨some 72,.bin .shl (.t 69) (.t 71),none⟩,
 ⟨some 73,.bin .or (.t 68) (.t 72),none⟩,
 ⟨some 74,.bslice true [.int .u8 0] 1 1 [(0,(.t 73))],none⟩,
 ⟨some 75,.append false 1 1 (.t 67) (.t 74),none⟩,
 ⟨some 76,.faddr 1 (.t 9),none⟩,
 ⟨none,.store 1 (.t 76) (.t 75),none⟩])
 (.draw 15 [⟨some 77,.faddr 3 (.t 2),none⟩,
 ⟨some 78,.load false 1 (.t 77),none⟩,
 ⟨some 79,.faddr 0 (.t 8),none⟩,
 ⟨some 80,.load false 1 (.t 79),none⟩,
 ⟨some 81,.iaddr 1 (.t 78) (.t 80),none⟩,
 ⟨some 82,.load false 1 (.t 81),none⟩,
 ⟨some 83,.mov (.t 12),none⟩,
 ⟨some 84,.iaddr 1 (.t 82) (.t 83),none⟩,
 ⟨some 85,.load false 1 (.t 84),none⟩,
 ⟨some 86,.faddr 4 (.t 3),none⟩,
 ⟨some 87,.load false 1 (.t 86),none⟩,
 ⟨some 88,.faddr 1 (.t 8),none⟩,
 ⟨some 89,.load false 1 (.t 88),none⟩,
 ⟨some 90,.iaddr 1 (.t 87) (.t 89),none⟩,
 ⟨some 91,.load false 1 (.t 90),none⟩,
 ⟨some 92,.mov (.t 13),none⟩,
 ⟨some 93,.iaddr 1 (.t 91) (.t 92),none⟩,
 ⟨some 94,.load false 1 (.t 93),none⟩,
 ⟨some 95,.build [.int .i64 0,.int .i64 0] [(0,1,(.t 85)),(1,1,(.t 94))],none⟩,
 ⟨none,.store 2 (.t 8) (.t 95),none⟩])))))
def xOw : ACode := xL8
def xFU : List Nat := [0,1,6,7,10,11,12,13,14,15,16,17,18,19,20,21,22,23,24,25,26,27,28,29,30,31,32,33,34,35,36,37,38,39,40,41,42,43,44,45,46,47,48,49,50,51,52,53,54,55,56,57,58,59,60,61,62,63,64,65,66,67,68,69,70,71,72,73,74,75,76,77,78,79,80,81,82,83,84,85,86,87,88,89,90,91,92,93,94,95]
abbrev xPa (s2 s3 s4 s5 s8 s9 : AV) : List AV := [.any,.any,s2,s3,s4,s5,.any,.any,s8,s9,.any,.any,.any,.any,.any,.any,.any,.any,.any,.any,.any,.any,.any,.any,.any,.any,.any,.any,.any,.any,.any,.any,.any,.any,.any,.any,.any,.any,.any,.any,.any,.any,.any,.any,.any,.any,.any,.any,.any,.any,.any,.any,.any,.any,.any,.any,.any,.any,.any,.any,.any,.any,.any,.any,.any,.any,.any,.any,.any,.any,.any,.any,.any,.any,.any,.any,.any,.any,.any,.any,.any,.any,.any,.any,.any,.any,.any,.any,.any,.any,.any,.any,.any,.any,.any,.any]
theorem xPb (s0 s1 s2 s3 s4 s5 s6 s7 s8 s9 s10 s11 s12 s13 s14 s15 s16 s17 s18 s19 s20 s21 s22 s23 s24 s25 s26 s27 s28 s29 s30 s31 s32 s33 s34 s35 s36 s37 s38 s39 s40 s41 s42 s43 s44 s45 s46 s47 s48 s49 s50 s51 s52 s53 s54 s55 s56 s57 s58 s59 s60 s61 s62 s63 s64 s65 s66 s67 s68 s69 s70 s71 s72 s73 s74 s75 s76 s77 s78 s79 s80 s81 s82 s83 s84 s85 s86 s87 s88 s89 s90 s91 s92 s93 s94 s95 : AV) : xAG xFU [s0,s1,s2,s3,s4,s5,s6,s7,s8,s9,s10,s11,s12,s13,s14,s15,s16,s17,s18,s19,s20,s21,s22,s23,s24,s25,s26,s27,s28,s29,s30,s31,s32,s33,s34,s35,s36,s37,s38,s39,s40,s41,s42,s43,s44,s45,s46,s47,s48,s49,s50,s51,s52,s53,s54,s55,s56,s57,s58,s59,s60,s61,s62,s63,s64,s65,s66,s67,s68,s69,s70,s71,s72,s73,s74,s75,s76,s77,s78,s79,s80,s81,s82,s83,s84,s85,s86,s87,s88,s89,s90,s91,s92,s93,s94,s95] = xPa s2 s3 s4 s5 s8 s9 := by kernel_rfl
theorem xSD {prog : Nat → Option AFunc} (s2 s3 s4 s5 s8 s9 : AV) (H : Heap) : (lim prog).loop xFU xOw ⟨xPa s2 s3 s4 s5 s8 s9,H⟩ = xBG (lim prog) xFU xOw (run (lim prog) xL8 ⟨xPa s2 s3 s4 s5 s8 s9,H⟩) := xAo _ _ _ _ (by kernel_rfl)
def a31 : AFunc := ⟨96,
 .seq (.region [⟨some 2,.box (.t 0),none⟩,
 ⟨some 3,.box (.t 1),none⟩,
 ⟨some 4,.box (.c (.agg [.sl true 0 [],.sl true 0 []])),none⟩,
 ⟨some 5,.mov (.c (.int .i64 0)),none⟩])
 (.seq (.seq (.region [⟨some 14,.load true 5 (.t 2),none⟩,
 ⟨some 15,.call 21 [(.t 14)],none⟩,
 ⟨some 6,.mov (.t 15),none⟩])
 (.seq (.region [⟨some 16,.mov (.t 6),none⟩,
 ⟨some 17,.bin .neq (.t 16) (.c (.int .i64 0)),none⟩])
 (.cond (.t 17)
 (.seq (.region [⟨some 18,.build [.sl true 0 [],.sl true 0 []] [],none⟩,
 ⟨some 19,.mov (.t 6),none⟩,
 ⟨none,.store 2 (.t 4) (.t 18),none⟩,
 ⟨some 5,.mov (.t 19),none⟩])
 (.ret))
 (.skip))))
 (.seq (.seq (.region [⟨some 20,.load true 5 (.t 3),none⟩,
 ⟨some 21,.call 33 [(.t 20)],none⟩,
 ⟨some 7,.mov (.t 21),none⟩])
 (.seq (.region [⟨some 22,.mov (.t 7),none⟩,
 ⟨some 23,.bin .neq (.t 22) (.c (.int .i64 0)),none⟩])
 (.cond (.t 23)
 (.seq (.region [⟨some 24,.build [.sl true 0 [],.sl true 0 []] [],none⟩,
 ⟨some 25,.mov (.t 7),none⟩,
 ⟨none,.store 2 (.t 4) (.t 24),none⟩,
 ⟨some 5,.mov (.t 25),none⟩])
 (.ret))
 (.skip))))
 (.seq (.seq (.region [⟨some 26,.faddr 0 (.t 2),none⟩,
 ⟨some 27,.load false 1 (.t 26),none⟩,
 ⟨some 28,.faddr 0 (.t 3),none⟩,
 ⟨some 29,.load false 1 (.t 28),none⟩,
 ⟨some 30,.bin .neq (.t 27) (.t 29),none⟩,
 ⟨some 31,.mov (.t 30),none⟩,
 ⟨some 32,.faddr 1 (.t 2),some (31,false)⟩,
 ⟨some 33,.load false 1 (.t 32),some (31,false)⟩,
 ⟨some 34,.faddr 1 (.t 3),some (31,false)⟩,
 ⟨some 35,.load false 1 (.t 34),some (31,false)⟩,
 ⟨some 36,.bin .neq (.t 33) (.t 35),some (31,false)⟩,
 ⟨some 37,.pick (.t 31) (.c (.bool true)) (.t 36),none⟩])
 (.cond (.t 37)
 (.seq (.region [⟨some 38,.build [.sl true 0 [],.sl true 0 []] [],none⟩,
 ⟨none,.store 2 (.t 4) (.t 38),none⟩,
 ⟨some 5,.mov (.c (.int .i64 16)),none⟩])
 (.ret))
 (.skip)))
 (.seq (.region [⟨some 39,.faddr 2 (.t 2),none⟩,
 ⟨some 40,.load false 1 (.t 39),none⟩,
 ⟨some 41,.faddr 2 (.t 3),none⟩,
 ⟨some 42,.load false 1 (.t 41),none⟩,
 ⟨some 43,.build [.int .i64 0,.int .i64 0] [(0,1,(.t 40)),(1,1,(.t 42))],none⟩,
 ⟨some 8,.box (.c (.agg [.int .i64 0,.int .i64 0])),none⟩,
 ⟨none,.store 2 (.t 8) (.t 43),none⟩])
 (.seq (.region [⟨some 9,.box (.c (.agg [.nilm,.sl true 0 []])),none⟩])
 (.block 0 (.loop xFU xOw))))))),
 [.cell 4 true 2,.tmp 5]⟩
def xFV : ACode :=
 .seq (.region [⟨some 28,.bin .lss (.t 27) (.t 26),none⟩])
 (.seq (.cond (.t 28)
 (.skip)
 (.exit 0))
 (.seq (.block 1 (.seq (.region [⟨some 29,.mov (.t 27),none⟩,
 ⟨some 30,.iaddr 1 (.t 25) (.t 27),none⟩,
 ⟨some 31,.load false 1 (.t 30),none⟩,
 ⟨some 5,.mov (.t 29),none⟩,
 ⟨some 6,.mov (.t 31),none⟩])
 (.block 2 (.seq (.region [⟨some 33,.mov (.t 6),none⟩,
 ⟨some 34,.len (.t 33),none⟩,
 ⟨some 35,.faddr 1 (.t 1),none⟩,
 ⟨some 36,.load false 1 (.t 35),none⟩,
 ⟨some 37,.bin .shl (.c (.int .i64 1)) (.t 36),none⟩,
 ⟨some 38,.bin .neq (.t 34) (.t 37),none⟩,
 ⟨some 32,.mov (.t 38),none⟩])
 (.cond (.t 32)
 (.seq (.region [⟨some 2,.mov (.c (.int .i64 2)),none⟩])
 (.ret))
 (.seq (.region [⟨some 40,.mov (.t 6),none⟩,
 ⟨some 41,.mov (.t 3),none⟩,
 ⟨some 42,.call 60 [(.t 40),(.t 41)],none⟩,
 ⟨some 39,.mov (.t 42),none⟩])
 (.cond (.t 39)
 (.seq (.region [⟨some 2,.mov (.c (.int .i64 8)),none⟩])
 (.ret))
 (.seq (.draw 6 [⟨some 44,.faddr 3 (.t 1),none⟩,
 ⟨some 45,.load false 1 (.t 44),none⟩,
 ⟨some 46,.mov (.t 5),none⟩,
 ⟨some 47,.iaddr 1 (.t 45) (.t 46),none⟩,
 ⟨some 48,.load false 1 (.t 47),none⟩,
 ⟨some 49,.conv .i64 (.t 48),none⟩,
 ⟨some 50,.faddr 0 (.t 1),none⟩,
 ⟨some 51,.load false 1 (.t 50),none⟩,
 ⟨some 52,.bin .shl (.c (.int .i64 1)) (.t 51),none⟩,
 ⟨some 53,.bin .geq (.t 49) (.t 52),none⟩,
 ⟨some 43,.mov (.t 53),none⟩])
 (.cond (.t 43)
 (.seq (.region [⟨some 2,.mov (.c (.int .i64 1)),none⟩])
 (.ret))
 (.skip))))))))))
 (.region [⟨some 54,.bin .add (.t 27) (.c (.int .i64 1)),none⟩,
 ⟨some 27,.mov (.t 54),none⟩])))
def xVQ : ACode := xFV
def xL9 : List Nat := [0,4,5,6,7,8,9,10,11,12,13,14,15,16,17,18,19,20,21,22,23,24,28,29,30,31,32,33,34,35,36,37,38,39,40,41,42,43,44,45,46,47,48,49,50,51,52,53,54]
abbrev xI4 (s1 s2 s3 s25 s26 s27 : AV) : List AV := [.any,s1,s2,s3,.any,.any,.any,.any,.any,.any,.any,.any,.any,.any,.any,.any,.any,.any,.any,.any,.any,.any,.any,.any,.any,s25,s26,s27,.any,.any,.any,.any,.any,.any,.any,.any,.any,.any,.any,.any,.any,.any,.any,.any,.any,.any,.any,.any,.any,.any,.any,.any,.any,.any,.any]
theorem xFW (s0 s1 s2 s3 s4 s5 s6 s7 s8 s9 s10 s11 s12 s13 s14 s15 s16 s17 s18 s19 s20 s21 s22 s23 s24 s25 s26 s27 s28 s29 s30 s31 s32 s33 s34 s35 s36 s37 s38 s39 s40 s41 s42 s43 s44 s45 s46 s47 s48 s49 s50 s51 s52 s53 s54 : AV) : xAG xL9 [s0,s1,s2,s3,s4,s5,s6,s7,s8,s9,s10,s11,s12,s13,s14,s15,s16,s17,s18,s19,s20,s21,s22,s23,s24,s25,s26,s27,s28,s29,s30,s31,s32,s33,s34,s35,s36,s37,s38,s39,s40,s41,s42,s43,s44,s45,s46,s47,s48,s49,s50,s51,s52,s53,s54] = xI4 s1 s2 s3 s25 s26 s27 := by kernel_rfl
theorem xMa {prog : Nat → Option AFunc} (s1 s2 s3 s25 s26 s27 : AV) (H : Heap) : (lim prog).loop xL9 xVQ ⟨xI4 s1 s2 s3 s25 s26 s27,H⟩ = xBG (lim prog) xL9 xVQ (run (lim prog) xFV ⟨xI4 s1 s2 s3 s25 s26 s27,H⟩) := xAo _ _ _ _ (by kernel_rfl)
def a33 : AFunc := ⟨55,
 .seq (.region [⟨some 1,.box (.t 0),none⟩,
 ⟨some 2,.mov (.c (.int .i64 0)),none⟩])
 (.seq (.region [⟨some 7,.faddr 4 (.t 1),none⟩,
 ⟨some 8,.load false 1 (.t 7),none⟩,
 ⟨some 9,.len (.t 8),none⟩,
 ⟨some 3,.mov (.t 9),none⟩])
 (.seq (.seq (.region [⟨some 10,.faddr 0 (.t 1),none⟩,
 ⟨some 11,.load false 1 (.t 10),none⟩,
 ⟨some 12,.faddr 1 (.t 1),none⟩,
 ⟨some 13,.load false 1 (.t 12),none⟩,
 ⟨some 14,.mov (.t 3),none⟩,
 ⟨some 15,.faddr 3 (.t 1),none⟩,
 ⟨some 16,.load false 1 (.t 15),none⟩,
 ⟨some 17,.len (.t 16),none⟩,
 ⟨some 18,.faddr 2 (.t 1),none⟩,
 ⟨some 19,.load false 1 (.t 18),none⟩,
 ⟨some 20,.call 59 [(.t 11),(.t 13),(.t 14),(.t 17),(.t 19)],none⟩,
 ⟨some 4,.mov (.t 20),none⟩])
 (.seq (.region [⟨some 21,.mov (.t 4),none⟩,
 ⟨some 22,.bin .neq (.t 21) (.c (.int .i64 0)),none⟩])
 (.cond (.t 22)
 (.seq (.region [⟨some 23,.mov (.t 4),none⟩,
 ⟨some 2,.mov (.t 23),none⟩])
 (.ret))
 (.skip))))
 (.seq (.seq (.region [⟨some 24,.faddr 4 (.t 1),none⟩,
 ⟨some 25,.load false 1 (.t 24),none⟩,
 ⟨some 26,.len (.t 25),none⟩,
 ⟨some 27,.mov (.c (.int .i64 0)),none⟩])
 (.block 0 (.loop xL9 xVQ)))
 (.seq (.region [⟨some 2,.mov (.c (.int .i64 0)),none⟩])
 (.ret))))),
 [.tmp 2]⟩
def xFX : ACode :=
 .seq (.seq (.region [⟨some 25,.mov (.t 5),none⟩,
 ⟨some 26,.faddr 4 (.t 1),none⟩,
 ⟨some 27,.load false 1 (.t 26),none⟩,
 ⟨some 28,.len (.t 27),none⟩,
 ⟨some 29,.bin .lss (.t 25) (.t 28),none⟩])
 (.cond (.t 29)
 (.skip)
 (.exit 0)))
 (.seq (.block 1 (.seq (.seq (.draw 6 [⟨some 32,.faddr 4 (.t 1),none⟩,
 ⟨some 33,.load false 1 (.t 32),none⟩,
 ⟨some 34,.mov (.t 5),none⟩,
 ⟨some 35,.iaddr 1 (.t 33) (.t 34),none⟩,
 ⟨some 36,.load false 1 (.t 35),none⟩,
 ⟨some 37,.len (.t 36),none⟩,
 ⟨some 38,.faddr 1 (.t 1),none⟩,
 ⟨some 39,.load false 1 (.t 38),none⟩,
 ⟨some 40,.conv .u64 (.t 39),none⟩,
 ⟨some 41,.bin .shl (.c (.int .i64 1)) (.t 40),none⟩,
 ⟨some 42,.bin .neq (.t 37) (.t 41),none⟩])
 (.cond (.t 42)
 (.seq (.region [⟨some 2,.mov (.c (.int .i64 2)),none⟩])
 (.ret))
 (.skip)))
 (.seq (.seq (.draw 5 [⟨some 43,.faddr 4 (.t 1),none⟩,
 ⟨some 44,.load false 1 (.t 43),none⟩,
 ⟨some 45,.mov (.t 5),none⟩,
 ⟨some 46,.iaddr 1 (.t 44) (.t 45),none⟩,
 ⟨some 47,.load false 1 (.t 46),none⟩,
 ⟨some 48,.faddr 4 (.t 1),none⟩,
 ⟨some 49,.load false 1 (.t 48),none⟩,
 ⟨some 50,.len (.t 49),none⟩,
 ⟨some 51,.call 64 [(.t 47),(.t 50)],none⟩,
 ⟨some 52,.un .not (.t 51),none⟩])
 (.cond (.t 52)
 (.seq (.region [⟨some 2,.mov (.c (.int .i64 8)),none⟩])
 (.ret))
 (.skip)))
 (.seq (.draw 6 [⟨some 53,.faddr 3 (.t 1),none⟩,
 ⟨some 54,.load false 1 (.t 53),none⟩,
 ⟨some 55,.mov (.t 5),none⟩,
 ⟨some 56,.iaddr 1 (.t 54) (.t 55),none⟩,
 ⟨some 57,.load false 1 (.t 56),none⟩,
 ⟨some 58,.conv .i64 (.t 57),none⟩,
 ⟨some 59,.faddr 0 (.t 1),none⟩,
 ⟨some 60,.load false 1 (.t 59),none⟩,
 ⟨some 61,.conv .u64 (.t 60),none⟩,
 ⟨some 62,.bin .shl (.c (.int .i64 1)) (.t 61),none⟩,
 ⟨some 63,.bin .geq (.t 58) (.t 62),none⟩])
 (.cond (.t 63)
 (.seq (.region [⟨some 2,.mov (.c (.int .i64 1)),none⟩])
 (.ret))
 (.skip))))))
 (.region [⟨some 30,.mov (.t 5),none⟩,
 ⟨some 31,.bin .add (.t 30) (.c (.int .i64 1)),none⟩,
 ⟨some 5,.mov (.t 31),none⟩]))
def xVR : ACode := xFX
def xMb : List Nat := [0,3,4,6,7,8,9,10,11,12,13,14,15,16,17,18,19,20,21,22,23,24,25,26,27,28,29,30,31,32,33,34,35,36,37,38,39,40,41,42,43,44,45,46,47,48,49,50,51,52,53,54,55,56,57,58,59,60,61,62,63]
abbrev xI5 (s1 s2 s5 : AV) : List AV := [.any,s1,s2,.any,.any,s5,.any,.any,.any,.any,.any,.any,.any,.any,.any,.any,.any,.any,.any,.any,.any,.any,.any,.any,.any,.any,.any,.any,.any,.any,.any,.any,.any,.any,.any,.any,.any,.any,.any,.any,.any,.any,.any,.any,.any,.any,.any,.any,.any,.any,.any,.any,.any,.any,.any,.any,.any,.any,.any,.any,.any,.any,.any,.any]
theorem xFY (s0 s1 s2 s3 s4 s5 s6 s7 s8 s9 s10 s11 s12 s13 s14 s15 s16 s17 s18 s19 s20 s21 s22 s23 s24 s25 s26 s27 s28 s29 s30 s31 s32 s33 s34 s35 s36 s37 s38 s39 s40 s41 s42 s43 s44 s45 s46 s47 s48 s49 s50 s51 s52 s53 s54 s55 s56 s57 s58 s59 s60 s61 s62 s63 : AV) : xAG xMb [s0,s1,s2,s3,s4,s5,s6,s7,s8,s9,s10,s11,s12,s13,s14,s15,s16,s17,s18,s19,s20,s21,s22,s23,s24,s25,s26,s27,s28,s29,s30,s31,s32,s33,s34,s35,s36,s37,s38,s39,s40,s41,s42,s43,s44,s45,s46,s47,s48,s49,s50,s51,s52,s53,s54,s55,s56,s57,s58,s59,s60,s61,s62,s63] = xI5 s1 s2 s5 := by kernel_rfl
theorem xMc {prog : Nat → Option AFunc} (s1 s2 s5 : AV) (H : Heap) : (lim prog).loop xMb xVR ⟨xI5 s1 s2 s5,H⟩ = xBG (lim prog) xMb xVR (run (lim prog) xFX ⟨xI5 s1 s2 s5,H⟩) := xAo _ _ _ _ (by kernel_rfl)
def a34 : AFunc := ⟨64,
 .seq (.region [⟨some 1,.box (.t 0),none⟩,
 ⟨some 2,.mov (.c (.int .i64 0)),none⟩])
 (.seq (.seq (.region [⟨some 6,.faddr 0 (.t 1),none⟩,
 ⟨some 7,.load false 1 (.t 6),none⟩,
 ⟨some 8,.faddr 1 (.t 1),none⟩,
 ⟨some 9,.load false 1 (.t 8),none⟩,
 ⟨some 10,.call 62 [(.t 7),(.t 9)],none⟩,
 ⟨some 3,.mov (.t 10),none⟩])
 (.seq (.region [⟨some 11,.mov (.t 3),none⟩,
 ⟨some 12,.bin .neq (.t 11) (.c (.int .i64 0)),none⟩])
 (.cond (.t 12)
 (.seq (.region [⟨some 13,.mov (.t 3),none⟩,
 ⟨some 2,.mov (.t 13),none⟩])
 (.ret))
 (.skip))))
 (.seq (.seq (.region [⟨some 14,.faddr 4 (.t 1),none⟩,
 ⟨some 15,.load false 1 (.t 14),none⟩,
 ⟨some 16,.faddr 3 (.t 1),none⟩,
 ⟨some 17,.load false 1 (.t 16),none⟩,
 ⟨some 18,.len (.t 17),none⟩,
 ⟨some 19,.faddr 2 (.t 1),none⟩,
 ⟨some 20,.load false 1 (.t 19),none⟩,
 ⟨some 21,.call 63 [(.t 15),(.t 18),(.t 20)],none⟩,
 ⟨some 4,.mov (.t 21),none⟩])
 (.seq (.region [⟨some 22,.mov (.t 4),none⟩,
 ⟨some 23,.bin .neq (.t 22) (.c (.int .i64 0)),none⟩])
 (.cond (.t 23)
 (.seq (.region [⟨some 24,.mov (.t 4),none⟩,
 ⟨some 2,.mov (.t 24),none⟩])
 (.ret))
 (.skip))))
 (.seq (.seq (.region [⟨some 5,.mov (.c (.int .i64 0)),none⟩])
 (.block 0 (.loop xMb xVR)))
 (.seq (.region [⟨some 2,.mov (.c (.int .i64 0)),none⟩])
 (.ret))))),
 [.tmp 2]⟩
def xZF : ACode :=
 .seq (.region [⟨some 30,.bin .lss (.t 29) (.t 28),none⟩])
 (.seq (.cond (.t 30)
 (.skip)
 (.exit 0))
 (.seq (.block 1 (.seq (.region [⟨some 31,.mov (.t 29),none⟩,
 ⟨some 32,.iaddr 1 (.t 27) (.t 29),none⟩,
 ⟨some 33,.load false 1 (.t 32),none⟩,
 ⟨some 7,.mov (.t 31),none⟩,
 ⟨some 8,.mov (.t 33),none⟩])
 (.region [⟨some 34,.load false 1 (.t 6),none⟩,
 ⟨some 35,.mov (.t 8),none⟩,
 ⟨some 36,.mov (.t 7),none⟩,
 ⟨some 37,.iaddr 1 (.t 34) (.t 35),none⟩,
 ⟨none,.store 1 (.t 37) (.t 36),none⟩])))
 (.region [⟨some 38,.bin .add (.t 29) (.c (.int .i64 1)),none⟩,
 ⟨some 29,.mov (.t 38),none⟩])))
def yBe : ACode := xZF
def xZG : List Nat := [0,3,4,7,8,9,10,11,12,13,14,15,16,17,18,19,20,21,22,23,24,25,26,30,31,32,33,34,35,36,37,38,39,40,41,42,43,44,45,46,47,48,49,50,51,52,53,54,55,56,57,58,59,60,61,62,63,64,65,66,67,68,69,70,71,72,73,74,75,76,77,78,79,80,81,82,83,84,85,86,87,88,89,90,91,92,93,94,95,96,97,98,99,100,101,102,103,104,105]
def xZH : ACode :=
 .seq (.region [⟨some 72,.bin .lss (.t 71) (.t 70),none⟩])
 (.seq (.cond (.t 72)
 (.skip)
 (.exit 4))
 (.seq (.block 5 (.seq (.region [⟨some 73,.mov (.t 71),none⟩,
 ⟨some 74,.iaddr 1 (.t 69) (.t 71),none⟩,
 ⟨some 75,.load false 1 (.t 74),none⟩,
 ⟨some 14,.mov (.t 73),none⟩,
 ⟨some 15,.mov (.t 75),none⟩])
 (.region [⟨some 77,.mov (.t 13),none⟩,
 ⟨some 78,.mov (.t 14),none⟩,
 ⟨some 79,.load false 1 (.t 5),none⟩,
 ⟨some 80,.mov (.t 15),none⟩,
 ⟨some 81,.iaddr 1 (.t 79) (.t 80),none⟩,
 ⟨some 82,.load false 1 (.t 81),none⟩,
 ⟨some 83,.icall (.c (.func 70 [])) [(.t 9),(.t 82)],none⟩,
 ⟨some 76,.mov (.t 83),none⟩,
 ⟨some 84,.ext 0 (.t 76),none⟩,
 ⟨some 85,.ext 1 (.t 76),none⟩,
 ⟨some 86,.iaddr 1 (.t 77) (.t 78),none⟩,
 ⟨none,.store 1 (.t 86) (.t 84),none⟩])))
 (.region [⟨some 87,.bin .add (.t 71) (.c (.int .i64 1)),none⟩,
 ⟨some 71,.mov (.t 87),none⟩])))
def yBf : ACode := xZH
def xZI : List Nat := [0,3,4,6,7,8,10,11,14,15,16,17,18,19,20,21,22,23,24,25,26,27,28,29,30,31,32,33,34,35,36,37,38,39,40,41,42,43,44,45,46,47,48,49,50,51,52,53,54,55,56,57,58,59,60,61,62,63,64,65,66,67,68,72,73,74,75,76,77,78,79,80,81,82,83,84,85,86,87,88,89,90,91,92,93,94,95,96,97,98,99,100,101,102,103,104,105]
def xYh : ACode :=
 .region [⟨some 11,.mov (.t 53),none⟩]
def xZJ : ACode :=
 .block 3 (.seq (.region [⟨some 54,.load false 1 (.t 6),none⟩,
 ⟨some 55,.mov (.t 11),none⟩,
 ⟨some 56,.iaddr 1 (.t 54) (.t 55),none⟩,
 ⟨some 57,.load false 1 (.t 56),none⟩,
 ⟨some 12,.mov (.t 57),none⟩])
 (.seq (.region [⟨some 58,.faddr 3 (.t 1),none⟩,
 ⟨some 59,.load false 1 (.t 58),none⟩,
 ⟨some 60,.mov (.t 12),none⟩,
 ⟨some 61,.iaddr 1 (.t 59) (.t 60),none⟩,
 ⟨some 62,.load false 1 (.t 61),none⟩,
 ⟨some 63,.len (.t 62),none⟩,
 ⟨some 64,.mkslice false [.int .i64 0] 8 (.t 63) (.t 63),none⟩,
 ⟨some 13,.mov (.t 64),none⟩])
 (.seq (.seq (.region [⟨some 65,.faddr 3 (.t 1),none⟩,
 ⟨some 66,.load false 1 (.t 65),none⟩,
 ⟨some 67,.mov (.t 12),none⟩,
 ⟨some 68,.iaddr 1 (.t 66) (.t 67),none⟩,
 ⟨some 69,.load false 1 (.t 68),none⟩,
 ⟨some 70,.len (.t 69),none⟩,
 ⟨some 71,.mov (.c (.int .i64 0)),none⟩])
 (.block 4 (.loop xZI yBf)))
 (.fzs 13 (.drawh [(93,(1,13))] [] [(93,(1,(89,0))),(95,(1,(89,0))),(98,(1,(89,0)))] 11 [⟨some 88,.faddr 3 (.t 2),none⟩,
 ⟨some 89,.load false 1 (.t 88),none⟩,
 ⟨some 90,.mov (.t 13),none⟩,
 ⟨some 91,.dslice [.sl true 0 []] 1 1 [(0,(.t 90))],none⟩,
 ⟨some 93,.faddr 4 (.t 2),none⟩,
 ⟨some 94,.load false 1 (.t 93),none⟩,
 ⟨some 95,.faddr 4 (.t 1),none⟩,
 ⟨some 96,.load false 1 (.t 95),none⟩,
 ⟨some 97,.mov (.t 12),none⟩,
 ⟨some 98,.iaddr 1 (.t 96) (.t 97),none⟩,
 ⟨some 99,.load false 1 (.t 98),none⟩,
 ⟨some 92,.append false 1 24 (.t 89) (.t 91),none⟩,
 ⟨some 103,.faddr 3 (.t 2),none⟩,
 ⟨some 100,.call 72 [(.t 99)],none⟩,
 ⟨some 101,.dslice [.sl true 0 []] 1 1 [(0,(.t 100))],none⟩,
 ⟨some 102,.append false 1 24 (.t 94) (.t 101),none⟩,
 ⟨none,.store 1 (.t 103) (.t 92),none⟩,
 ⟨some 104,.faddr 4 (.t 2),none⟩,
 ⟨none,.store 1 (.t 104) (.t 102),none⟩])))))
def xZK : ACode := xYh
def yBg : ACode := xZJ
def a35 : AFunc := ⟨106,
 .seq (.region [⟨some 1,.box (.t 0),none⟩,
 ⟨some 2,.box (.c (.agg [.int .i64 0,.int .i64 0,.int .i64 0,.sl true 0 [],.sl true 0 []])),none⟩,
 ⟨some 3,.mov (.c (.int .i64 0)),none⟩])
 (.seq (.seq (.region [⟨some 16,.load true 5 (.t 1),none⟩,
 ⟨some 17,.call 21 [(.t 16)],none⟩,
 ⟨some 4,.mov (.t 17),none⟩])
 (.seq (.region [⟨some 18,.mov (.t 4),none⟩,
 ⟨some 19,.bin .neq (.t 18) (.c (.int .i64 0)),none⟩])
 (.cond (.t 19)
 (.seq (.region [⟨some 20,.load true 5 (.t 2),none⟩,
 ⟨some 21,.mov (.t 4),none⟩,
 ⟨none,.store 5 (.t 2) (.t 20),none⟩,
 ⟨some 3,.mov (.t 21),none⟩])
 (.ret))
 (.skip))))
 (.seq (.region [⟨some 22,.load true 5 (.t 1),none⟩,
 ⟨some 23,.call 69 [(.t 22)],none⟩,
 ⟨some 5,.box (.c (.sl true 0 [])),none⟩,
 ⟨none,.store 1 (.t 5) (.t 23),none⟩])
 (.seq (.region [⟨some 24,.load false 1 (.t 5),none⟩,
 ⟨some 25,.len (.t 24),none⟩,
 ⟨some 26,.mkslice false [.int .i64 0] 8 (.t 25) (.t 25),none⟩,
 ⟨some 6,.box (.c (.sl true 0 [])),none⟩,
 ⟨none,.store 1 (.t 6) (.t 26),none⟩])
 (.seq (.seq (.region [⟨some 27,.load false 1 (.t 5),none⟩,
 ⟨some 28,.len (.t 27),none⟩,
 ⟨some 29,.mov (.c (.int .i64 0)),none⟩])
 (.block 0 (.loop xZG yBe)))
 (.seq (.drawl [(41,(1,(43,1)))] 4 [⟨some 39,.faddr 0 (.t 1),none⟩,
 ⟨some 40,.load false 1 (.t 39),none⟩,
 ⟨some 41,.faddr 1 (.t 1),none⟩,
 ⟨some 42,.load false 1 (.t 41),none⟩,
 ⟨some 43,.faddr 0 (.t 2),none⟩,
 ⟨none,.store 1 (.t 43) (.t 40),none⟩,
 ⟨some 44,.faddr 1 (.t 2),none⟩,
 ⟨none,.store 1 (.t 44) (.t 42),none⟩])
 (.seq (.region [⟨some 9,.box (.c (.agg [.nilm,.sl true 0 []])),none⟩])
 (.seq (.region [⟨some 45,.load false 1 (.t 5),none⟩,
 ⟨some 46,.faddr 2 (.t 1),none⟩,
 ⟨some 47,.load false 1 (.t 46),none⟩,
 ⟨some 48,.iaddr 1 (.t 45) (.t 47),none⟩,
 ⟨some 49,.load false 1 (.t 48),none⟩,
 ⟨some 50,.icall (.c (.func 70 [])) [(.t 9),(.t 49)],none⟩])
 (.seq (.seq (.region [⟨some 51,.icall (.c (.func 71 [])) [(.t 9)],none⟩])
 (.block 2 (.range (.t 51) [52,53] xZK yBg)))
 (.seq (.region [⟨some 105,.load true 5 (.t 2),none⟩,
 ⟨none,.store 5 (.t 2) (.t 105),none⟩,
 ⟨some 3,.mov (.c (.int .i64 0)),none⟩])
 (.ret)))))))))),
 [.cell 2 true 5,.tmp 3]⟩
def xZL : ACode :=
 .seq (.region [⟨some 23,.bin .lss (.t 22) (.t 21),none⟩])
 (.seq (.cond (.t 23)
 (.skip)
 (.exit 0))
 (.seq (.block 1 (.seq (.region [⟨some 24,.iaddr 5 (.t 20) (.t 22),none⟩,
 ⟨some 25,.load true 5 (.t 24),none⟩,
 ⟨some 8,.box (.c (.agg [.int .i64 0,.int .i64 0,.int .i64 0,.sl true 0 [],.sl true 0 []])),none⟩,
 ⟨none,.store 5 (.t 8) (.t 25),none⟩])
 (.seq (.region [⟨some 26,.load true 5 (.t 8),none⟩,
 ⟨some 27,.call 21 [(.t 26)],none⟩,
 ⟨some 9,.mov (.t 27),none⟩])
 (.seq (.region [⟨some 28,.mov (.t 9),none⟩,
 ⟨some 29,.bin .neq (.t 28) (.c (.int .i64 0)),none⟩])
 (.cond (.t 29)
 (.seq (.region [⟨some 30,.mov (.t 9),none⟩,
 ⟨none,.store 1 (.t 4) (.c (.sl true 0 [])),none⟩,
 ⟨none,.store 1 (.t 5) (.c (.bool false)),none⟩,
 ⟨none,.store 1 (.t 6) (.t 30),none⟩])
 (.ret))
 (.skip))))))
 (.region [⟨some 31,.bin .add (.t 22) (.c (.int .i64 1)),none⟩,
 ⟨some 22,.mov (.t 31),none⟩])))
def yBh : ACode := xZL
def xZM : List Nat := [0,1,7,8,9,10,11,12,13,14,15,16,17,18,19,23,24,25,26,27,28,29,30,31,32,33,34,35,36,37,38,39,40,41,42,43,44,45,46,47,48,49,50,51,52,53,54,55,56,57,58,59,60,61,62,63,64,65,66,67,68,69,70,71,72,73,74,75,76,77,78,79,80,81,82,83,84,85,86,87,88,89,90,91,92,93,94,95,96,97,98,99,100,101,102,103,104,105,106,107,108,109,110,111,112,113,114,115,116,117]
def xZN : ACode :=
 .seq (.region [⟨some 58,.bin .lss (.t 57) (.t 56),none⟩])
 (.seq (.cond (.t 58)
 (.skip)
 (.exit 4))
 (.seq (.block 5 (.seq (.region [⟨some 59,.mov (.t 57),none⟩,
 ⟨some 14,.mov (.t 59),none⟩])
 (.seq (.region [⟨some 60,.load false 1 (.t 11),none⟩,
 ⟨some 61,.mov (.t 12),none⟩,
 ⟨some 62,.iaddr 1 (.t 60) (.t 61),none⟩,
 ⟨some 63,.load false 1 (.t 62),none⟩,
 ⟨some 64,.mov (.t 14),none⟩,
 ⟨some 65,.conv .u8 (.t 64),none⟩,
 ⟨some 66,.bslice true [.int .u8 0] 1 1 [(0,(.t 65))],none⟩,
 ⟨some 67,.bslice true [.sl true 0 []] 1 2 [(0,(.t 63)),(1,(.t 66))],none⟩,
 ⟨some 68,.call 76 [(.t 67)],none⟩,
 ⟨some 15,.mov (.t 68),none⟩])
 (.seq (.seq (.draw 15 [⟨some 69,.faddr 4 (.t 2),none⟩,
 ⟨some 70,.load false 1 (.t 69),none⟩,
 ⟨some 71,.arrat 1 2 (.t 13) (.c (.int .i64 0)),none⟩,
 ⟨some 72,.load false 1 (.t 71),none⟩,
 ⟨some 73,.iaddr 1 (.t 70) (.t 72),none⟩,
 ⟨some 74,.load false 1 (.t 73),none⟩,
 ⟨some 75,.mov (.t 14),none⟩,
 ⟨some 76,.iaddr 1 (.t 74) (.t 75),none⟩,
 ⟨some 77,.load false 1 (.t 76),none⟩,
 ⟨some 78,.faddr 4 (.t 3),none⟩,
 ⟨some 79,.load false 1 (.t 78),none⟩,
 ⟨some 80,.arrat 1 2 (.t 13) (.c (.int .i64 1)),none⟩,
 ⟨some 81,.load false 1 (.t 80),none⟩,
 ⟨some 82,.iaddr 1 (.t 79) (.t 81),none⟩,
 ⟨some 83,.load false 1 (.t 82),none⟩,
 ⟨some 84,.mov (.t 14),none⟩,
 ⟨some 85,.iaddr 1 (.t 83) (.t 84),none⟩,
 ⟨some 86,.load false 1 (.t 85),none⟩,
 ⟨some 87,.bin .neq (.t 77) (.t 86),none⟩])
 (.cond (.t 87)
 (.seq (.region [⟨some 88,.mov (.t 15),none⟩,
 ⟨none,.store 1 (.t 4) (.t 88),none⟩,
 ⟨none,.store 1 (.t 5) (.c (.bool false)),none⟩,
 ⟨none,.store 1 (.t 6) (.c (.int .i64 0)),none⟩])
 (.ret))
 (.skip)))
 (.seq (.draw 15 [⟨some 90,.faddr 3 (.t 2),none⟩,
 ⟨some 91,.load false 1 (.t 90),none⟩,
 ⟨some 92,.arrat 1 2 (.t 13) (.c (.int .i64 0)),none⟩,
 ⟨some 93,.load false 1 (.t 92),none⟩,
 ⟨some 94,.iaddr 1 (.t 91) (.t 93),none⟩,
 ⟨some 95,.load false 1 (.t 94),none⟩,
 ⟨some 96,.mov (.t 14),none⟩,
 ⟨some 97,.iaddr 1 (.t 95) (.t 96),none⟩,
 ⟨some 98,.load false 1 (.t 97),none⟩,
 ⟨some 99,.faddr 3 (.t 3),none⟩,
 ⟨some 100,.load false 1 (.t 99),none⟩,
 ⟨some 101,.arrat 1 2 (.t 13) (.c (.int .i64 1)),none⟩,
 ⟨some 102,.load false 1 (.t 101),none⟩,
 ⟨some 103,.iaddr 1 (.t 100) (.t 102),none⟩,
 ⟨some 104,.load false 1 (.t 103),none⟩,
 ⟨some 105,.mov (.t 14),none⟩,
 ⟨some 106,.iaddr 1 (.t 104) (.t 105),none⟩,
 ⟨some 107,.load false 1 (.t 106),none⟩,
 ⟨some 108,.build [.int .i64 0,.int .i64 0] [(0,1,(.t 98)),(1,1,(.t 107))],none⟩,
 ⟨some 109,.icall (.c (.func 74 [])) [(.t 10),(.t 108)],none⟩,
 ⟨some 89,.mov (.t 109),none⟩,
 ⟨some 110,.ext 0 (.t 89),none⟩,
 ⟨some 111,.ext 1 (.t 89),none⟩,
 ⟨some 16,.mov (.t 110),none⟩,
 ⟨some 17,.mov (.t 111),none⟩])
 (.seq (.region [⟨some 112,.mov (.t 17),none⟩])
 (.cond (.t 112)
 (.region [⟨some 113,.load false 1 (.t 11),none⟩,
 ⟨some 114,.mov (.t 15),none⟩,
 ⟨some 115,.bslice true [.sl true 0 []] 1 1 [(0,(.t 114))],none⟩,
 ⟨some 116,.append false 1 24 (.t 113) (.t 115),none⟩,
 ⟨none,.store 1 (.t 11) (.t 116),none⟩])
 (.skip))))))))
 (.region [⟨some 117,.bin .add (.t 57) (.c (.int .i64 1)),none⟩,
 ⟨some 57,.mov (.t 117),none⟩])))
def yBi : ACode := xZN
def xZO : List Nat := [0,1,7,8,9,14,15,16,17,18,19,20,21,22,23,24,25,26,27,28,29,30,31,32,33,34,35,36,37,38,39,40,41,42,43,44,45,46,47,48,49,50,51,52,53,54,55,58,59,60,61,62,63,64,65,66,67,68,69,70,71,72,73,74,75,76,77,78,79,80,81,82,83,84,85,86,87,88,89,90,91,92,93,94,95,96,97,98,99,100,101,102,103,104,105,106,107,108,109,110,111,112,113,114,115,116,117]
def xYi : ACode :=
 .seq (.region [⟨some 12,.mov (.t 52),none⟩])
 (.region [⟨some 13,.box (.c (.agg [.int .i64 0,.int .i64 0])),none⟩,
 ⟨none,.store 2 (.t 13) (.t 53),none⟩])
def xZP : ACode :=
 .block 3 (.seq (.region [⟨some 54,.faddr 0 (.t 2),none⟩,
 ⟨some 55,.load false 1 (.t 54),none⟩,
 ⟨some 56,.bin .shl (.c (.int .i64 1)) (.t 55),none⟩,
 ⟨some 57,.mov (.c (.int .i64 0)),none⟩])
 (.block 4 (.loop xZO yBi)))
def xZQ : ACode := xYi
def yBj : ACode := xZP
def a37 : AFunc := ⟨118,
 .seq (.region [⟨some 2,.box (.t 0),none⟩,
 ⟨some 3,.box (.t 1),none⟩,
 ⟨some 4,.box (.c (.sl true 0 [])),none⟩,
 ⟨some 5,.box (.c (.bool false)),none⟩,
 ⟨some 6,.box (.c (.int .i64 0)),none⟩])
 (.seq (.seq (.region [⟨some 18,.load true 5 (.t 2),none⟩,
 ⟨some 19,.load true 5 (.t 3),none⟩,
 ⟨some 20,.bslice true [.int .i64 0,.int .i64 0,.int .i64 0,.sl true 0 [],.sl true 0 []] 5 2 [(0,(.t 18)),(1,(.t 19))],none⟩,
 ⟨some 21,.len (.t 20),none⟩,
 ⟨some 22,.mov (.c (.int .i64 0)),none⟩])
 (.block 0 (.loop xZM yBh)))
 (.seq (.seq (.region [⟨some 32,.faddr 0 (.t 2),none⟩,
 ⟨some 33,.load false 1 (.t 32),none⟩,
 ⟨some 34,.faddr 0 (.t 3),none⟩,
 ⟨some 35,.load false 1 (.t 34),none⟩,
 ⟨some 36,.bin .neq (.t 33) (.t 35),none⟩,
 ⟨some 37,.mov (.t 36),none⟩,
 ⟨some 38,.faddr 1 (.t 2),some (37,false)⟩,
 ⟨some 39,.load false 1 (.t 38),some (37,false)⟩,
 ⟨some 40,.faddr 1 (.t 3),some (37,false)⟩,
 ⟨some 41,.load false 1 (.t 40),some (37,false)⟩,
 ⟨some 42,.bin .neq (.t 39) (.t 41),some (37,false)⟩,
 ⟨some 43,.pick (.t 37) (.c (.bool true)) (.t 42),none⟩])
 (.cond (.t 43)
 (.seq (.region [⟨none,.store 1 (.t 4) (.c (.sl true 0 [])),none⟩,
 ⟨none,.store 1 (.t 5) (.c (.bool false)),none⟩,
 ⟨none,.store 1 (.t 6) (.c (.int .i64 7)),none⟩])
 (.ret))
 (.skip)))
 (.seq (.region [⟨some 10,.box (.c (.agg [.nilm,.sl true 0 []])),none⟩])
 (.seq (.region [⟨some 44,.faddr 2 (.t 2),none⟩,
 ⟨some 45,.load false 1 (.t 44),none⟩,
 ⟨some 46,.faddr 2 (.t 3),none⟩,
 ⟨some 47,.load false 1 (.t 46),none⟩,
 ⟨some 48,.build [.int .i64 0,.int .i64 0] [(0,1,(.t 45)),(1,1,(.t 47))],none⟩,
 ⟨some 49,.icall (.c (.func 74 [])) [(.t 10),(.t 48)],none⟩])
 (.seq (.region [⟨some 50,.bslice false [.sl true 0 []] 1 1 [(0,(.c (.sl true 0 [])))],none⟩,
 ⟨some 11,.box (.c (.sl true 0 [])),none⟩,
 ⟨none,.store 1 (.t 11) (.t 50),none⟩])
 (.seq (.seq (.region [⟨some 51,.icall (.c (.func 75 [])) [(.t 10)],none⟩])
 (.block 2 (.range (.t 51) [52,53] xZQ yBj)))
 (.seq (.region [⟨none,.store 1 (.t 4) (.c (.sl true 0 [])),none⟩,
 ⟨none,.store 1 (.t 5) (.c (.bool true)),none⟩,
 ⟨none,.store 1 (.t 6) (.c (.int .i64 0)),none⟩])
 (.ret)))))))),
 [.cell 4 false 1,.cell 5 false 1,.cell 6 false 1]⟩
def a42 : AFunc := ⟨5,
 .seq (.region [⟨some 0,.box (.c (.agg [.int .i64 0,.int .i64 0,.int .i64 0,.sl true 0 [],.sl true 0 []])),none⟩])
 (.seq (.region [⟨some 1,.bslice true [.int .u8 0] 1 1 [(0,(.c (.int .u8 1)))],none⟩,
 ⟨some 2,.bslice true [.int .i64 0] 1 2 [(0,(.c (.int .i64 0))),(1,(.c (.int .i64 0)))],none⟩,
 ⟨some 3,.bslice true [.sl true 0 []] 1 1 [(0,(.t 2))],none⟩,
 ⟨some 4,.build [.int .i64 0,.int .i64 0,.int .i64 0,.sl true 0 [],.sl true 0 []] [(0,1,(.c (.int .i64 1))),(1,1,(.c (.int .i64 1))),(3,1,(.t 1)),(4,1,(.t 3))],none⟩,
 ⟨none,.store 5 (.t 0) (.t 4),none⟩])
 (.ret)),
 [.cell 0 true 5]⟩
def a43 : AFunc := ⟨6,
 .seq (.region [⟨some 0,.box (.c (.agg [.int .i64 0,.int .i64 0,.int .i64 0,.sl true 0 [],.sl true 0 []])),none⟩])
 (.seq (.region [⟨some 1,.bslice true [.int .i64 0] 1 2 [(0,(.c (.int .i64 0))),(1,(.c (.int .i64 0)))],none⟩,
 ⟨some 2,.bslice true [.sl true 0 []] 1 1 [(0,(.t 1))],none⟩,
 ⟨some 3,.bslice true [.int .u8 0] 1 2 [(0,(.c (.int .u8 1))),(1,(.c (.int .u8 0)))],none⟩,
 ⟨some 4,.bslice true [.sl true 0 []] 1 1 [(0,(.t 3))],none⟩,
 ⟨some 5,.build [.int .i64 0,.int .i64 0,.int .i64 0,.sl true 0 [],.sl true 0 []] [(0,1,(.c (.int .i64 1))),(1,1,(.c (.int .i64 1))),(3,1,(.t 2)),(4,1,(.t 4))],none⟩,
 ⟨none,.store 5 (.t 0) (.t 5),none⟩])
 (.ret)),
 [.cell 0 true 5]⟩
def a44 : AFunc := ⟨15,
 .seq (.region [⟨some 2,.box (.t 0),none⟩,
 ⟨some 3,.box (.t 1),none⟩,
 ⟨some 4,.box (.c (.agg [.sl true 0 [],.sl true 0 []])),none⟩])
 (.seq (.region [⟨some 5,.load true 2 (.t 2),none⟩,
 ⟨some 6,.call 77 [(.t 5)],none⟩,
 ⟨none,.store 2 (.t 2) (.t 6),none⟩])
 (.seq (.region [⟨some 7,.faddr 0 (.t 2),none⟩,
 ⟨some 8,.load false 1 (.t 7),none⟩,
 ⟨some 9,.len (.t 8),none⟩,
 ⟨some 10,.faddr 1 (.t 2),none⟩,
 ⟨some 11,.load false 1 (.t 10),none⟩,
 ⟨some 12,.len (.t 11),none⟩,
 ⟨some 13,.mkfunc 79 [(.t 2),(.t 3)],none⟩,
 ⟨some 14,.icall (.c (.func 78 [])) [(.t 9),(.t 12),(.t 13)],none⟩,
 ⟨none,.store 2 (.t 4) (.t 14),none⟩])
 (.ret))),
 [.cell 4 true 2]⟩
def a45 : AFunc := ⟨40,
 .seq (.region [⟨some 2,.box (.t 0),none⟩,
 ⟨some 3,.box (.t 1),none⟩,
 ⟨some 4,.mov (.c (.int .i64 0)),none⟩])
 (.seq (.block 0 (.seq (.region [⟨some 7,.load false 1 (.t 3),none⟩,
 ⟨some 8,.bin .lss (.t 7) (.c (.int .i64 0)),none⟩,
 ⟨some 9,.mov (.t 8),none⟩,
 ⟨some 10,.load false 1 (.t 3),some (9,false)⟩,
 ⟨some 11,.bin .gtr (.t 10) (.c (.int .i64 6)),some (9,false)⟩,
 ⟨some 12,.pick (.t 9) (.c (.bool true)) (.t 11),none⟩,
 ⟨some 6,.mov (.t 12),none⟩])
 (.cond (.t 6)
 (.seq (.region [⟨some 4,.mov (.c (.int .i64 7)),none⟩])
 (.ret))
 (.seq (.region [⟨some 14,.faddr 1 (.t 2),none⟩,
 ⟨some 15,.load false 1 (.t 14),none⟩,
 ⟨some 16,.len (.t 15),none⟩,
 ⟨some 17,.bin .eql (.t 16) (.c (.int .i64 0)),none⟩,
 ⟨some 13,.mov (.t 17),none⟩])
 (.cond (.t 13)
 (.seq (.region [⟨some 4,.mov (.c (.int .i64 3)),none⟩])
 (.ret))
 (.seq (.region [⟨some 19,.faddr 0 (.t 2),none⟩,
 ⟨some 20,.load false 1 (.t 19),none⟩,
 ⟨some 21,.len (.t 20),none⟩,
 ⟨some 22,.bin .gtr (.t 21) (.c (.int .i64 64)),none⟩,
 ⟨some 23,.mov (.t 22),none⟩,
 ⟨some 24,.faddr 1 (.t 2),some (23,false)⟩,
 ⟨some 25,.load false 1 (.t 24),some (23,false)⟩,
 ⟨some 26,.len (.t 25),some (23,false)⟩,
 ⟨some 27,.bin .gtr (.t 26) (.c (.int .i64 64)),some (23,false)⟩,
 ⟨some 28,.pick (.t 23) (.c (.bool true)) (.t 27),none⟩,
 ⟨some 18,.mov (.t 28),none⟩])
 (.cond (.t 18)
 (.seq (.region [⟨some 4,.mov (.c (.int .i64 4)),none⟩])
 (.ret))
 (.skip))))))))
 (.seq (.region [⟨some 29,.mkfunc 80 [(.t 3)],none⟩,
 ⟨some 5,.mov (.t 29),none⟩])
 (.seq (.seq (.region [⟨some 30,.faddr 0 (.t 2),none⟩,
 ⟨some 31,.load false 1 (.t 30),none⟩,
 ⟨some 32,.mov (.t 5),none⟩,
 ⟨some 33,.icall (.c (.func 52 [])) [(.t 31),(.t 32)],none⟩,
 ⟨some 34,.mov (.t 33),none⟩,
 ⟨some 35,.faddr 1 (.t 2),some (34,false)⟩,
 ⟨some 36,.load false 1 (.t 35),some (34,false)⟩,
 ⟨some 37,.mov (.t 5),some (34,false)⟩,
 ⟨some 38,.icall (.c (.func 52 [])) [(.t 36),(.t 37)],some (34,false)⟩,
 ⟨some 39,.pick (.t 34) (.c (.bool true)) (.t 38),none⟩])
 (.cond (.t 39)
 (.seq (.region [⟨some 4,.mov (.c (.int .i64 1)),none⟩])
 (.ret))
 (.skip)))
 (.seq (.region [⟨some 4,.mov (.c (.int .i64 0)),none⟩])
 (.ret))))),
 [.tmp 4]⟩
def a46 : AFunc := ⟨9,
 .seq (.region [⟨some 2,.box (.t 0),none⟩,
 ⟨some 3,.box (.t 1),none⟩,
 ⟨some 4,.mov (.c (.bool false)),none⟩])
 (.seq (.region [⟨some 5,.load true 2 (.t 2),none⟩,
 ⟨some 6,.load true 2 (.t 3),none⟩,
 ⟨some 7,.call 81 [(.t 5),(.t 6)],none⟩,
 ⟨some 8,.bin .eql (.t 7) (.c (.int .i64 0)),none⟩,
 ⟨some 4,.mov (.t 8),none⟩])
 (.ret)),
 [.tmp 4]⟩
def a47 : AFunc := ⟨29,
 .seq (.region [⟨some 2,.box (.t 0),none⟩,
 ⟨some 4,.mov (.c (.int .u8 0)),none⟩])
 (.seq (.seq (.region [⟨some 6,.mov (.t 1),none⟩,
 ⟨some 7,.bin .lss (.t 6) (.c (.int .i64 0)),none⟩])
 (.cond (.t 7)
 (.seq (.region [⟨some 4,.mov (.c (.int .u8 0)),none⟩])
 (.ret))
 (.skip)))
 (.seq (.region [⟨some 8,.load true 2 (.t 2),none⟩,
 ⟨some 9,.call 77 [(.t 8)],none⟩,
 ⟨none,.store 2 (.t 2) (.t 9),none⟩])
 (.seq (.seq (.draw 6 [⟨some 10,.load true 2 (.t 2),none⟩,
 ⟨some 11,.mov (.t 1),none⟩,
 ⟨some 12,.call 55 [(.t 10),(.t 11)],none⟩,
 ⟨some 13,.faddr 0 (.t 2),none⟩,
 ⟨some 14,.load false 1 (.t 13),none⟩,
 ⟨some 15,.len (.t 14),none⟩,
 ⟨some 16,.bin .sub (.t 12) (.t 15),none⟩,
 ⟨some 5,.mov (.t 16),none⟩])
 (.seq (.region [⟨some 17,.mov (.t 5),none⟩,
 ⟨some 18,.bin .geq (.t 17) (.c (.int .i64 0)),none⟩])
 (.cond (.t 18)
 (.seq (.region [⟨some 19,.faddr 1 (.t 2),none⟩,
 ⟨some 20,.load false 1 (.t 19),none⟩,
 ⟨some 21,.mov (.t 5),none⟩,
 ⟨some 22,.iaddr 1 (.t 20) (.t 21),none⟩,
 ⟨some 23,.load false 1 (.t 22),none⟩,
 ⟨some 4,.mov (.t 23),none⟩])
 (.ret))
 (.skip))))
 (.seq (.region [⟨some 24,.faddr 0 (.t 2),none⟩,
 ⟨some 25,.load false 1 (.t 24),none⟩,
 ⟨some 26,.mov (.t 1),none⟩,
 ⟨some 27,.iaddr 1 (.t 25) (.t 26),none⟩,
 ⟨some 28,.load false 1 (.t 27),none⟩,
 ⟨some 4,.mov (.t 28),none⟩])
 (.ret))))),
 [.tmp 4]⟩
def xK1 : ACode :=
 .region [⟨some 6,.mov (.t 12),none⟩]
def xPc : ACode :=
 .block 1 (.region [⟨some 13,.load false 1 (.t 4),none⟩,
 ⟨some 14,.mov (.t 6),none⟩,
 ⟨some 15,.bslice true [.int .u8 0] 1 1 [(0,(.t 14))],none⟩,
 ⟨some 16,.append false 1 1 (.t 13) (.t 15),none⟩,
 ⟨none,.store 1 (.t 4) (.t 16),none⟩])
def xMd : ACode := xK1
def xSE : ACode := xPc
theorem xSF (R : Rec) (s : St) : run R xMd s = run R xK1 s := rfl
theorem xWU (R : Rec) (s : St) : run R xSE s = run R xPc s := rfl
def a48 : AFunc := ⟨18,
 .seq (.region [⟨some 2,.box (.t 0),none⟩,
 ⟨some 4,.box (.c (.sl true 0 [])),none⟩])
 (.seq (.seq (.region [⟨some 7,.load true 2 (.t 2),none⟩,
 ⟨some 8,.mov (.t 1),none⟩,
 ⟨some 9,.mini (.t 8) (.c (.int .i64 4096)),none⟩,
 ⟨some 10,.icall (.c (.func 82 [])) [(.t 7),(.t 9)],none⟩])
 (.block 0 (.range (.t 10) [11,12] xMd xSE)))
 (.seq (.region [⟨some 17,.load false 1 (.t 4),none⟩,
 ⟨none,.store 1 (.t 4) (.t 17),none⟩])
 (.ret))),
 [.cell 4 false 1]⟩
def xI6 : ACode :=
 .seq (.seq (.region [⟨some 16,.mov (.t 4),none⟩,
 ⟨some 17,.bin .gtr (.t 16) (.c (.int .i64 0)),none⟩])
 (.cond (.t 17)
 (.skip)
 (.exit 0)))
 (.block 1 (.seq (.seq (.draw 9 [⟨some 18,.faddr 0 (.t 1),none⟩,
 ⟨some 19,.load false 1 (.t 18),none⟩,
 ⟨some 20,.mov (.t 4),none⟩,
 ⟨some 21,.bin .sub (.t 20) (.c (.int .i64 1)),none⟩,
 ⟨some 22,.iaddr 1 (.t 19) (.t 21),none⟩,
 ⟨some 23,.load false 1 (.t 22),none⟩,
 ⟨some 24,.mov (.t 3),none⟩,
 ⟨some 25,.mov (.t 5),none⟩,
 ⟨some 26,.bin .sub (.t 25) (.c (.int .i64 1)),none⟩,
 ⟨some 27,.mov (.t 3),none⟩,
 ⟨some 28,.len (.t 27),none⟩,
 ⟨some 29,.bin .rem (.t 26) (.t 28),none⟩,
 ⟨some 30,.iaddr 1 (.t 24) (.t 29),none⟩,
 ⟨some 31,.load false 1 (.t 30),none⟩,
 ⟨some 32,.bin .neq (.t 23) (.t 31),none⟩])
 (.cond (.t 32)
 (.exit 0)
 (.skip)))
 (.seq (.region [⟨some 33,.mov (.t 4),none⟩,
 ⟨some 34,.bin .sub (.t 33) (.c (.int .i64 1)),none⟩,
 ⟨some 4,.mov (.t 34),none⟩])
 (.seq (.region [⟨some 35,.mov (.t 5),none⟩,
 ⟨some 36,.bin .sub (.t 35) (.c (.int .i64 1)),none⟩,
 ⟨some 5,.mov (.t 36),none⟩])
 (.seq (.region [⟨some 37,.mov (.t 5),none⟩,
 ⟨some 38,.bin .eql (.t 37) (.c (.int .i64 0)),none⟩])
 (.cond (.t 38)
 (.region [⟨some 39,.mov (.t 3),none⟩,
 ⟨some 40,.len (.t 39),none⟩,
 ⟨some 5,.mov (.t 40),none⟩])
 (.skip)))))))
def xVS : ACode := xI6
def xMe : List Nat := [0,6,7,8,9,10,11,12,13,14,15,16,17,18,19,20,21,22,23,24,25,26,27,28,29,30,31,32,33,34,35,36,37,38,39,40,41,42,43,44,45,46,47,48,49,50,51,52,53,54,55,56,57,58]
abbrev xMf (s1 s2 s3 s4 s5 : AV) : List AV := [.any,s1,s2,s3,s4,s5,.any,.any,.any,.any,.any,.any,.any,.any,.any,.any,.any,.any,.any,.any,.any,.any,.any,.any,.any,.any,.any,.any,.any,.any,.any,.any,.any,.any,.any,.any,.any,.any,.any,.any,.any,.any,.any,.any,.any,.any,.any,.any,.any,.any,.any,.any,.any,.any,.any,.any,.any,.any,.any]
theorem xFZ (s0 s1 s2 s3 s4 s5 s6 s7 s8 s9 s10 s11 s12 s13 s14 s15 s16 s17 s18 s19 s20 s21 s22 s23 s24 s25 s26 s27 s28 s29 s30 s31 s32 s33 s34 s35 s36 s37 s38 s39 s40 s41 s42 s43 s44 s45 s46 s47 s48 s49 s50 s51 s52 s53 s54 s55 s56 s57 s58 : AV) : xAG xMe [s0,s1,s2,s3,s4,s5,s6,s7,s8,s9,s10,s11,s12,s13,s14,s15,s16,s17,s18,s19,s20,s21,s22,s23,s24,s25,s26,s27,s28,s29,s30,s31,s32,s33,s34,s35,s36,s37,s38,s39,s40,s41,s42,s43,s44,s45,s46,s47,s48,s49,s50,s51,s52,s53,s54,s55,s56,s57,s58] = xMf s1 s2 s3 s4 s5 := by kernel_rfl
theorem xWV {prog : Nat → Option AFunc} (s1 s2 s3 s4 s5 : AV) (H : Heap) : (lim prog).loop xMe xVS ⟨xMf s1 s2 s3 s4 s5,H⟩ = xBG (lim prog) xMe xVS (run (lim prog) xI6 ⟨xMf s1 s2 s3 s4 s5,H⟩) := xAo _ _ _ _ (by kernel_rfl)
def a49 : AFunc := ⟨59,
 .seq (.region [⟨some 1,.box (.t 0),none⟩,
 ⟨some 2,.box (.c (.agg [.sl true 0 [],.sl true 0 []])),none⟩])
 (.scope (.seq (.region [⟨some 6,.load true 2 (.t 1),none⟩,
 ⟨some 7,.call 77 [(.t 6)],none⟩,
 ⟨none,.store 2 (.t 1) (.t 7),none⟩])
 (.seq (.draw 6 [⟨some 8,.faddr 1 (.t 1),none⟩,
 ⟨some 9,.load false 1 (.t 8),none⟩,
 ⟨some 10,.call 83 [(.t 9)],none⟩,
 ⟨some 11,.faddr 0 (.t 1),none⟩,
 ⟨some 12,.load false 1 (.t 11),none⟩,
 ⟨some 13,.len (.t 12),none⟩,
 ⟨some 3,.mov (.t 10),none⟩,
 ⟨some 4,.mov (.t 13),none⟩])
 (.seq (.region [⟨some 14,.mov (.t 3),none⟩,
 ⟨some 15,.len (.t 14),none⟩,
 ⟨some 5,.mov (.t 15),none⟩])
 (.seq (.label)
 (.seq (.block 0 (.loop xMe xVS))
 (.seq (.region [⟨some 41,.mov (.t 5),none⟩,
 ⟨some 42,.mov (.t 3),none⟩,
 ⟨some 43,.len (.t 42),none⟩,
 ⟨some 44,.bin .rem (.t 41) (.t 43),none⟩,
 ⟨some 5,.mov (.t 44),none⟩])
 (.seq (.drawp [] [] 12 [⟨some 45,.faddr 0 (.t 1),none⟩,
 ⟨some 46,.load false 1 (.t 45),none⟩,
 ⟨some 47,.mov (.t 4),none⟩,
 ⟨some 48,.slice 1 (.t 46) none (some (.t 47)) none,none⟩,
 ⟨some 49,.ocall 72 [(.t 48)],none⟩,
 ⟨some 50,.mov (.t 3),none⟩,
 ⟨some 51,.mov (.t 5),none⟩,
 ⟨some 52,.slice 1 (.t 50) (some (.t 51)) none none,none⟩,
 ⟨some 53,.mov (.t 3),none⟩,
 ⟨some 54,.mov (.t 5),none⟩,
 ⟨some 55,.slice 1 (.t 53) none (some (.t 54)) none,none⟩,
 ⟨some 56,.bslice true [.sl true 0 []] 1 2 [(0,(.t 52)),(1,(.t 55))],none⟩,
 ⟨some 57,.ocall 76 [(.t 56)],none⟩,
 ⟨some 58,.build [.sl true 0 [],.sl true 0 []] [(0,1,(.t 49)),(1,1,(.t 57))],none⟩,
 ⟨none,.store 2 (.t 2) (.t 58),none⟩])
 (.ret))))))))),
 [.cell 2 true 2]⟩
def a52 : AFunc := ⟨9,
 .seq (.region [⟨some 4,.mov (.c (.bool false)),none⟩])
 (.seq (.region [⟨some 5,.mov (.t 0),none⟩,
 ⟨some 6,.mov (.t 1),none⟩,
 ⟨some 7,.icall (.c (.func 85 [])) [(.t 5),(.t 6)],none⟩,
 ⟨some 8,.bin .geq (.t 7) (.c (.int .i64 0)),none⟩,
 ⟨some 4,.mov (.t 8),none⟩])
 (.ret)),
 [.tmp 4]⟩
def a53 : AFunc := ⟨10,
 .seq (.region [⟨some 3,.mov (.c (.bool false)),none⟩])
 (.seq (.region [⟨some 4,.mov (.t 0),none⟩,
 ⟨some 5,.conv .i64 (.t 4),none⟩,
 ⟨some 6,.faddr 0 (.t 1),none⟩,
 ⟨some 7,.load false 1 (.t 6),none⟩,
 ⟨some 8,.bin .shl (.c (.int .i64 1)) (.t 7),none⟩,
 ⟨some 9,.bin .geq (.t 5) (.t 8),none⟩,
 ⟨some 3,.mov (.t 9),none⟩])
 (.ret)),
 [.tmp 3]⟩
def a54 : AFunc := ⟨52,
 .seq (.region [⟨some 3,.box (.t 1),none⟩,
 ⟨some 4,.box (.c (.agg [.sl true 0 [],.sl true 0 []])),none⟩,
 ⟨some 5,.mov (.c (.bool false)),none⟩])
 (.seq (.seq (.region [⟨some 8,.mov (.t 0),none⟩,
 ⟨some 9,.nilchk (.t 8),none⟩,
 ⟨some 10,.faddr 0 (.t 9),none⟩,
 ⟨some 11,.load false 1 (.t 10),none⟩,
 ⟨some 12,.mnil false (.t 11),none⟩])
 (.cond (.t 12)
 (.region [⟨some 13,.mov (.t 0),none⟩,
 ⟨some 14,.mkmap,none⟩,
 ⟨some 15,.nilchk (.t 13),none⟩,
 ⟨some 16,.faddr 0 (.t 15),none⟩,
 ⟨none,.store 1 (.t 16) (.t 14),none⟩])
 (.skip)))
 (.seq (.seq (.draw 9 [⟨some 18,.mov (.t 0),none⟩,
 ⟨some 19,.nilchk (.t 18),none⟩,
 ⟨some 20,.faddr 0 (.t 19),none⟩,
 ⟨some 21,.load false 1 (.t 20),none⟩,
 ⟨some 22,.load true 2 (.t 3),none⟩,
 ⟨some 23,.mlook [2,0,0] true (.int .i64 0) (.t 21) (.t 22),none⟩,
 ⟨some 17,.mov (.t 23),none⟩,
 ⟨some 24,.ext 0 (.t 17),none⟩,
 ⟨some 25,.ext 1 (.t 17),none⟩,
 ⟨some 6,.mov (.t 24),none⟩,
 ⟨some 7,.mov (.t 25),none⟩])
 (.seq (.region [⟨some 26,.mov (.t 7),none⟩])
 (.cond (.t 26)
 (.seq (.drawp [] [] 10 [⟨some 27,.mov (.t 0),none⟩,
 ⟨some 28,.nilchk (.t 27),none⟩,
 ⟨some 29,.faddr 1 (.t 28),none⟩,
 ⟨some 30,.load false 1 (.t 29),none⟩,
 ⟨some 31,.mov (.t 6),none⟩,
 ⟨some 32,.slice 1 (.t 30) none (some (.t 31)) none,none⟩,
 ⟨some 33,.mov (.t 0),none⟩,
 ⟨some 34,.nilchk (.t 33),none⟩,
 ⟨some 35,.faddr 1 (.t 34),none⟩,
 ⟨some 36,.load false 1 (.t 35),none⟩,
 ⟨some 37,.mov (.t 6),none⟩,
 ⟨some 38,.slice 1 (.t 36) (some (.t 37)) none none,none⟩,
 ⟨some 39,.build [.sl true 0 [],.sl true 0 []] [(0,1,(.t 32)),(1,1,(.t 38))],none⟩,
 ⟨some 40,.ocall 49 [(.t 39)],none⟩,
 ⟨none,.store 2 (.t 4) (.t 40),none⟩,
 ⟨some 5,.mov (.c (.bool true)),none⟩])
 (.ret))
 (.skip))))
 (.seq (.draw 5 [⟨some 41,.mov (.t 0),none⟩,
 ⟨some 42,.nilchk (.t 41),none⟩,
 ⟨some 43,.faddr 0 (.t 42),none⟩,
 ⟨some 44,.load false 1 (.t 43),none⟩,
 ⟨some 45,.load true 2 (.t 3),none⟩,
 ⟨some 46,.mov (.t 0),none⟩,
 ⟨some 47,.nilchk (.t 46),none⟩,
 ⟨some 48,.faddr 1 (.t 47),none⟩,
 ⟨some 49,.load false 1 (.t 48),none⟩,
 ⟨some 50,.len (.t 49),none⟩,
 ⟨none,.mupd [2,0,0] (.t 44) (.t 45) (.t 50),none⟩])
 (.seq (.region [⟨some 51,.build [.sl true 0 [],.sl true 0 []] [],none⟩,
 ⟨none,.store 2 (.t 4) (.t 51),none⟩,
 ⟨some 5,.mov (.c (.bool false)),none⟩])
 (.ret))))),
 [.cell 4 true 2,.tmp 5]⟩
def a55 : AFunc := ⟨24,
 .seq (.region [⟨some 2,.box (.t 0),none⟩,
 ⟨some 4,.mov (.c (.int .i64 0)),none⟩])
 (.seq (.region [⟨some 6,.faddr 0 (.t 2),none⟩,
 ⟨some 7,.load false 1 (.t 6),none⟩,
 ⟨some 8,.len (.t 7),none⟩,
 ⟨some 5,.mov (.t 8),none⟩])
 (.seq (.seq (.region [⟨some 9,.mov (.t 1),none⟩,
 ⟨some 10,.mov (.t 5),none⟩,
 ⟨some 11,.bin .lss (.t 9) (.t 10),none⟩])
 (.cond (.t 11)
 (.seq (.region [⟨some 12,.mov (.t 1),none⟩,
 ⟨some 13,.maxi (.t 12) (.c (.int .i64 0)),none⟩,
 ⟨some 4,.mov (.t 13),none⟩])
 (.ret))
 (.skip)))
 (.seq (.region [⟨some 14,.mov (.t 5),none⟩,
 ⟨some 15,.mov (.t 1),none⟩,
 ⟨some 16,.mov (.t 5),none⟩,
 ⟨some 17,.bin .sub (.t 15) (.t 16),none⟩,
 ⟨some 18,.faddr 1 (.t 2),none⟩,
 ⟨some 19,.load false 1 (.t 18),none⟩,
 ⟨some 20,.len (.t 19),none⟩,
 ⟨some 21,.maxi (.t 20) (.c (.int .i64 1)),none⟩,
 ⟨some 22,.bin .rem (.t 17) (.t 21),none⟩,
 ⟨some 23,.bin .add (.t 14) (.t 22),none⟩,
 ⟨some 4,.mov (.t 23),none⟩])
 (.ret)))),
 [.tmp 4]⟩
def a59 : AFunc := ⟨46,
 .seq (.region [⟨some 10,.mov (.c (.int .i64 0)),none⟩])
 (.seq (.block 0 (.seq (.region [⟨some 12,.mov (.t 0),none⟩,
 ⟨some 13,.bin .lss (.t 12) (.c (.int .i64 0)),none⟩,
 ⟨some 14,.mov (.t 13),none⟩,
 ⟨some 15,.mov (.t 1),some (14,false)⟩,
 ⟨some 16,.bin .lss (.t 15) (.c (.int .i64 0)),some (14,false)⟩,
 ⟨some 17,.pick (.t 14) (.c (.bool true)) (.t 16),none⟩,
 ⟨some 18,.mov (.t 17),none⟩,
 ⟨some 19,.mov (.t 0),some (18,false)⟩,
 ⟨some 20,.bin .gtr (.t 19) (.c (.int .i64 6)),some (18,false)⟩,
 ⟨some 21,.pick (.t 18) (.c (.bool true)) (.t 20),none⟩,
 ⟨some 22,.mov (.t 21),none⟩,
 ⟨some 23,.mov (.t 1),some (22,false)⟩,
 ⟨some 24,.mov (.t 0),some (22,false)⟩,
 ⟨some 25,.bin .sub (.c (.int .i64 6)) (.t 24),some (22,false)⟩,
 ⟨some 26,.bin .gtr (.t 23) (.t 25),some (22,false)⟩,
 ⟨some 27,.pick (.t 22) (.c (.bool true)) (.t 26),none⟩,
 ⟨some 11,.mov (.t 27),none⟩])
 (.cond (.t 11)
 (.seq (.region [⟨some 10,.mov (.c (.int .i64 7)),none⟩])
 (.ret))
 (.seq (.region [⟨some 29,.mov (.t 2),none⟩,
 ⟨some 30,.bin .eql (.t 29) (.c (.int .i64 0)),none⟩,
 ⟨some 28,.mov (.t 30),none⟩])
 (.cond (.t 28)
 (.seq (.region [⟨some 10,.mov (.c (.int .i64 3)),none⟩])
 (.ret))
 (.seq (.region [⟨some 32,.mov (.t 2),none⟩,
 ⟨some 33,.bin .gtr (.t 32) (.c (.int .i64 4096)),none⟩,
 ⟨some 31,.mov (.t 33),none⟩])
 (.cond (.t 31)
 (.seq (.region [⟨some 10,.mov (.c (.int .i64 10)),none⟩])
 (.ret))
 (.seq (.region [⟨some 35,.mov (.t 3),none⟩,
 ⟨some 36,.mov (.t 2),none⟩,
 ⟨some 37,.bin .neq (.t 35) (.t 36),none⟩,
 ⟨some 34,.mov (.t 37),none⟩])
 (.cond (.t 34)
 (.seq (.region [⟨some 10,.mov (.c (.int .i64 2)),none⟩])
 (.ret))
 (.seq (.region [⟨some 39,.mov (.t 4),none⟩,
 ⟨some 40,.bin .lss (.t 39) (.c (.int .i64 0)),none⟩,
 ⟨some 41,.mov (.t 40),none⟩,
 ⟨some 42,.mov (.t 4),some (41,false)⟩,
 ⟨some 43,.mov (.t 2),some (41,false)⟩,
 ⟨some 44,.bin .geq (.t 42) (.t 43),some (41,false)⟩,
 ⟨some 45,.pick (.t 41) (.c (.bool true)) (.t 44),none⟩,
 ⟨some 38,.mov (.t 45),none⟩])
 (.cond (.t 38)
 (.seq (.region [⟨some 10,.mov (.c (.int .i64 8)),none⟩])
 (.ret))
 (.skip))))))))))))
 (.seq (.region [⟨some 10,.mov (.c (.int .i64 0)),none⟩])
 (.ret))),
 [.tmp 10]⟩
def a60 : AFunc := ⟨8,
 .seq (.region [⟨some 3,.box (.t 1),none⟩,
 ⟨some 4,.mov (.c (.bool false)),none⟩])
 (.seq (.region [⟨some 5,.mov (.t 0),none⟩,
 ⟨some 6,.mkfunc 91 [(.t 3)],none⟩,
 ⟨some 7,.icall (.c (.func 90 [])) [(.t 5),(.t 6)],none⟩,
 ⟨some 4,.mov (.t 7),none⟩])
 (.ret)),
 [.tmp 4]⟩
def xPd : ACode :=
 .seq (.seq (.region [⟨some 12,.mov (.t 4),none⟩,
 ⟨some 13,.mov (.t 0),none⟩,
 ⟨some 14,.len (.t 13),none⟩,
 ⟨some 15,.bin .lss (.t 12) (.t 14),none⟩])
 (.cond (.t 15)
 (.skip)
 (.exit 0)))
 (.seq (.block 1 (.region [⟨some 18,.mov (.t 3),none⟩,
 ⟨some 19,.mov (.t 0),none⟩,
 ⟨some 20,.mov (.t 4),none⟩,
 ⟨some 21,.iaddr 1 (.t 19) (.t 20),none⟩,
 ⟨some 22,.load false 1 (.t 21),none⟩,
 ⟨some 23,.maxi (.t 18) (.t 22),none⟩,
 ⟨some 3,.mov (.t 23),none⟩]))
 (.region [⟨some 16,.mov (.t 4),none⟩,
 ⟨some 17,.bin .add (.t 16) (.c (.int .i64 1)),none⟩,
 ⟨some 4,.mov (.t 17),none⟩]))
def xVT : ACode := xPd
def xMg : List Nat := [1,2,5,6,7,8,9,10,11,12,13,14,15,16,17,18,19,20,21,22,23,24]
abbrev xMh (s0 s3 s4 : AV) : List AV := [s0,.any,.any,s3,s4,.any,.any,.any,.any,.any,.any,.any,.any,.any,.any,.any,.any,.any,.any,.any,.any,.any,.any,.any,.any]
theorem xSG (s0 s1 s2 s3 s4 s5 s6 s7 s8 s9 s10 s11 s12 s13 s14 s15 s16 s17 s18 s19 s20 s21 s22 s23 s24 : AV) : xAG xMg [s0,s1,s2,s3,s4,s5,s6,s7,s8,s9,s10,s11,s12,s13,s14,s15,s16,s17,s18,s19,s20,s21,s22,s23,s24] = xMh s0 s3 s4 := by kernel_rfl
theorem xWW {prog : Nat → Option AFunc} (s0 s3 s4 : AV) (H : Heap) : (lim prog).loop xMg xVT ⟨xMh s0 s3 s4,H⟩ = xBG (lim prog) xMg xVT (run (lim prog) xPd ⟨xMh s0 s3 s4,H⟩) := xAo _ _ _ _ (by kernel_rfl)
def a61 : AFunc := ⟨25,
 .seq (.region [⟨some 2,.mov (.c (.int .u8 0)),none⟩])
 (.seq (.seq (.region [⟨some 5,.mov (.t 0),none⟩,
 ⟨some 6,.len (.t 5),none⟩,
 ⟨some 7,.bin .lss (.t 6) (.c (.int .i64 1)),none⟩])
 (.cond (.t 7)
 (.stuck)
 (.skip)))
 (.seq (.region [⟨some 9,.mov (.t 0),none⟩,
 ⟨some 10,.iaddr 1 (.t 9) (.c (.int .i64 0)),none⟩,
 ⟨some 11,.load false 1 (.t 10),none⟩,
 ⟨some 3,.mov (.t 11),none⟩])
 (.seq (.seq (.region [⟨some 4,.mov (.c (.int .i64 1)),none⟩])
 (.block 0 (.loop xMg xVT)))
 (.seq (.region [⟨some 24,.mov (.t 3),none⟩,
 ⟨some 2,.mov (.t 24),none⟩])
 (.ret))))),
 [.tmp 2]⟩
def a62 : AFunc := ⟨25,
 .seq (.region [⟨some 4,.mov (.c (.int .i64 0)),none⟩])
 (.seq (.seq (.region [⟨some 5,.mov (.t 0),none⟩,
 ⟨some 6,.bin .lss (.t 5) (.c (.int .i64 0)),none⟩,
 ⟨some 7,.mov (.t 6),none⟩,
 ⟨some 8,.mov (.t 1),some (7,false)⟩,
 ⟨some 9,.bin .lss (.t 8) (.c (.int .i64 0)),some (7,false)⟩,
 ⟨some 10,.pick (.t 7) (.c (.bool true)) (.t 9),none⟩,
 ⟨some 11,.mov (.t 10),none⟩,
 ⟨some 12,.mov (.t 0),some (11,false)⟩,
 ⟨some 13,.bin .gtr (.t 12) (.c (.int .i64 6)),some (11,false)⟩,
 ⟨some 14,.pick (.t 11) (.c (.bool true)) (.t 13),none⟩,
 ⟨some 15,.mov (.t 14),none⟩,
 ⟨some 16,.mov (.t 1),some (15,false)⟩,
 ⟨some 17,.bin .gtr (.t 16) (.c (.int .i64 6)),some (15,false)⟩,
 ⟨some 18,.pick (.t 15) (.c (.bool true)) (.t 17),none⟩,
 ⟨some 19,.mov (.t 18),none⟩,
 ⟨some 20,.mov (.t 0),some (19,false)⟩,
 ⟨some 21,.mov (.t 1),some (19,false)⟩,
 ⟨some 22,.bin .add (.t 20) (.t 21),some (19,false)⟩,
 ⟨some 23,.bin .gtr (.t 22) (.c (.int .i64 6)),some (19,false)⟩,
 ⟨some 24,.pick (.t 19) (.c (.bool true)) (.t 23),none⟩])
 (.cond (.t 24)
 (.seq (.region [⟨some 4,.mov (.c (.int .i64 7)),none⟩])
 (.ret))
 (.skip)))
 (.seq (.region [⟨some 4,.mov (.c (.int .i64 0)),none⟩])
 (.ret))),
 [.tmp 4]⟩
def a63 : AFunc := ⟨25,
 .seq (.region [⟨some 6,.mov (.c (.int .i64 0)),none⟩])
 (.seq (.seq (.region [⟨some 7,.mov (.t 0),none⟩,
 ⟨some 8,.len (.t 7),none⟩,
 ⟨some 9,.bin .eql (.t 8) (.c (.int .i64 0)),none⟩])
 (.cond (.t 9)
 (.seq (.region [⟨some 6,.mov (.c (.int .i64 3)),none⟩])
 (.ret))
 (.skip)))
 (.seq (.seq (.region [⟨some 10,.mov (.t 0),none⟩,
 ⟨some 11,.len (.t 10),none⟩,
 ⟨some 12,.bin .gtr (.t 11) (.c (.int .i64 4096)),none⟩])
 (.cond (.t 12)
 (.seq (.region [⟨some 6,.mov (.c (.int .i64 10)),none⟩])
 (.ret))
 (.skip)))
 (.seq (.seq (.region [⟨some 13,.mov (.t 1),none⟩,
 ⟨some 14,.mov (.t 0),none⟩,
 ⟨some 15,.len (.t 14),none⟩,
 ⟨some 16,.bin .neq (.t 13) (.t 15),none⟩])
 (.cond (.t 16)
 (.seq (.region [⟨some 6,.mov (.c (.int .i64 2)),none⟩])
 (.ret))
 (.skip)))
 (.seq (.seq (.region [⟨some 17,.mov (.t 2),none⟩,
 ⟨some 18,.bin .lss (.t 17) (.c (.int .i64 0)),none⟩,
 ⟨some 19,.mov (.t 18),none⟩,
 ⟨some 20,.mov (.t 2),some (19,false)⟩,
 ⟨some 21,.mov (.t 0),some (19,false)⟩,
 ⟨some 22,.len (.t 21),some (19,false)⟩,
 ⟨some 23,.bin .geq (.t 20) (.t 22),some (19,false)⟩,
 ⟨some 24,.pick (.t 19) (.c (.bool true)) (.t 23),none⟩])
 (.cond (.t 24)
 (.seq (.region [⟨some 6,.mov (.c (.int .i64 8)),none⟩])
 (.ret))
 (.skip)))
 (.seq (.region [⟨some 6,.mov (.c (.int .i64 0)),none⟩])
 (.ret)))))),
 [.tmp 6]⟩
def xHd : ACode :=
 .seq (.seq (.region [⟨some 6,.mov (.t 5),none⟩,
 ⟨some 7,.mov (.t 0),none⟩,
 ⟨some 8,.len (.t 7),none⟩,
 ⟨some 9,.bin .lss (.t 6) (.t 8),none⟩])
 (.cond (.t 9)
 (.skip)
 (.exit 0)))
 (.seq (.block 1 (.seq (.region [⟨some 12,.mov (.t 0),none⟩,
 ⟨some 13,.mov (.t 5),none⟩,
 ⟨some 14,.iaddr 1 (.t 12) (.t 13),none⟩,
 ⟨some 15,.load false 1 (.t 14),none⟩,
 ⟨some 16,.bin .lss (.t 15) (.c (.int .i64 0)),none⟩,
 ⟨some 17,.mov (.t 16),none⟩,
 ⟨some 18,.mov (.t 0),some (17,false)⟩,
 ⟨some 19,.mov (.t 5),some (17,false)⟩,
 ⟨some 20,.iaddr 1 (.t 18) (.t 19),some (17,false)⟩,
 ⟨some 21,.load false 1 (.t 20),some (17,false)⟩,
 ⟨some 22,.mov (.t 1),some (17,false)⟩,
 ⟨some 23,.bin .geq (.t 21) (.t 22),some (17,false)⟩,
 ⟨some 24,.pick (.t 17) (.c (.bool true)) (.t 23),none⟩])
 (.cond (.t 24)
 (.seq (.region [⟨some 4,.mov (.c (.bool false)),none⟩])
 (.ret))
 (.skip))))
 (.region [⟨some 10,.mov (.t 5),none⟩,
 ⟨some 11,.bin .add (.t 10) (.c (.int .i64 1)),none⟩,
 ⟨some 5,.mov (.t 11),none⟩]))
def xVU : ACode := xHd
def xMi : List Nat := [2,3,6,7,8,9,10,11,12,13,14,15,16,17,18,19,20,21,22,23,24]
abbrev xI7 (s0 s1 s4 s5 : AV) : List AV := [s0,s1,.any,.any,s4,s5,.any,.any,.any,.any,.any,.any,.any,.any,.any,.any,.any,.any,.any,.any,.any,.any,.any,.any,.any]
theorem xHe (s0 s1 s2 s3 s4 s5 s6 s7 s8 s9 s10 s11 s12 s13 s14 s15 s16 s17 s18 s19 s20 s21 s22 s23 s24 : AV) : xAG xMi [s0,s1,s2,s3,s4,s5,s6,s7,s8,s9,s10,s11,s12,s13,s14,s15,s16,s17,s18,s19,s20,s21,s22,s23,s24] = xI7 s0 s1 s4 s5 := by kernel_rfl
theorem xPe {prog : Nat → Option AFunc} (s0 s1 s4 s5 : AV) (H : Heap) : (lim prog).loop xMi xVU ⟨xI7 s0 s1 s4 s5,H⟩ = xBG (lim prog) xMi xVU (run (lim prog) xHd ⟨xI7 s0 s1 s4 s5,H⟩) := xAo _ _ _ _ (by kernel_rfl)
def a64 : AFunc := ⟨25,
 .seq (.region [⟨some 4,.mov (.c (.bool false)),none⟩])
 (.seq (.seq (.region [⟨some 5,.mov (.c (.int .i64 0)),none⟩])
 (.block 0 (.loop xMi xVU)))
 (.seq (.region [⟨some 4,.mov (.c (.bool true)),none⟩])
 (.ret))),
 [.tmp 4]⟩
def xZR : ACode :=
 .seq (.seq (.region [⟨some 11,.mov (.t 5),none⟩,
 ⟨some 12,.mov (.t 0),none⟩,
 ⟨some 13,.len (.t 12),none⟩,
 ⟨some 14,.bin .lss (.t 11) (.t 13),none⟩])
 (.cond (.t 14)
 (.skip)
 (.exit 0)))
 (.seq (.block 1 (.seq (.draw 5 [⟨some 17,.mov (.t 0),none⟩,
 ⟨some 18,.mov (.t 5),none⟩,
 ⟨some 19,.iaddr 1 (.t 17) (.t 18),none⟩,
 ⟨some 20,.load false 1 (.t 19),none⟩,
 ⟨some 21,.mov (.t 1),none⟩,
 ⟨some 22,.mov (.t 5),none⟩,
 ⟨some 23,.iaddr 1 (.t 21) (.t 22),none⟩,
 ⟨some 24,.load false 1 (.t 23),none⟩,
 ⟨some 25,.bin .neq (.t 20) (.t 24),none⟩])
 (.cond (.t 25)
 (.seq (.region [⟨some 4,.mov (.c (.bool false)),none⟩])
 (.ret))
 (.skip))))
 (.region [⟨some 15,.mov (.t 5),none⟩,
 ⟨some 16,.bin .add (.t 15) (.c (.int .i64 1)),none⟩,
 ⟨some 5,.mov (.t 16),none⟩]))
def yBk : ACode := xZR
def xZS : List Nat := [2,3,6,7,8,9,10,11,12,13,14,15,16,17,18,19,20,21,22,23,24,25]
def a65 : AFunc := ⟨26,
 .seq (.region [⟨some 4,.mov (.c (.bool false)),none⟩])
 (.seq (.seq (.region [⟨some 6,.mov (.t 0),none⟩,
 ⟨some 7,.len (.t 6),none⟩,
 ⟨some 8,.mov (.t 1),none⟩,
 ⟨some 9,.len (.t 8),none⟩,
 ⟨some 10,.bin .neq (.t 7) (.t 9),none⟩])
 (.cond (.t 10)
 (.seq (.region [⟨some 4,.mov (.c (.bool false)),none⟩])
 (.ret))
 (.skip)))
 (.seq (.seq (.region [⟨some 5,.mov (.c (.int .i64 0)),none⟩])
 (.block 0 (.loop xZS yBk)))
 (.seq (.region [⟨some 4,.mov (.c (.bool true)),none⟩])
 (.ret)))),
 [.tmp 4]⟩
def xZT : ACode :=
 .seq (.seq (.region [⟨some 11,.mov (.t 5),none⟩,
 ⟨some 12,.mov (.t 0),none⟩,
 ⟨some 13,.len (.t 12),none⟩,
 ⟨some 14,.bin .lss (.t 11) (.t 13),none⟩])
 (.cond (.t 14)
 (.skip)
 (.exit 0)))
 (.seq (.block 1 (.seq (.draw 5 [⟨some 17,.mov (.t 0),none⟩,
 ⟨some 18,.mov (.t 5),none⟩,
 ⟨some 19,.iaddr 1 (.t 17) (.t 18),none⟩,
 ⟨some 20,.load false 1 (.t 19),none⟩,
 ⟨some 21,.mov (.t 1),none⟩,
 ⟨some 22,.mov (.t 5),none⟩,
 ⟨some 23,.iaddr 1 (.t 21) (.t 22),none⟩,
 ⟨some 24,.load false 1 (.t 23),none⟩,
 ⟨some 25,.call 24 [(.t 20),(.t 24)],none⟩,
 ⟨some 26,.un .not (.t 25),none⟩])
 (.cond (.t 26)
 (.seq (.region [⟨some 4,.mov (.c (.bool false)),none⟩])
 (.ret))
 (.skip))))
 (.region [⟨some 15,.mov (.t 5),none⟩,
 ⟨some 16,.bin .add (.t 15) (.c (.int .i64 1)),none⟩,
 ⟨some 5,.mov (.t 16),none⟩]))
def yBl : ACode := xZT
def xZU : List Nat := [2,3,6,7,8,9,10,11,12,13,14,15,16,17,18,19,20,21,22,23,24,25,26]
def a66 : AFunc := ⟨27,
 .seq (.region [⟨some 4,.mov (.c (.bool false)),none⟩])
 (.seq (.seq (.region [⟨some 6,.mov (.t 0),none⟩,
 ⟨some 7,.len (.t 6),none⟩,
 ⟨some 8,.mov (.t 1),none⟩,
 ⟨some 9,.len (.t 8),none⟩,
 ⟨some 10,.bin .neq (.t 7) (.t 9),none⟩])
 (.cond (.t 10)
 (.seq (.region [⟨some 4,.mov (.c (.bool false)),none⟩])
 (.ret))
 (.skip)))
 (.seq (.seq (.region [⟨some 5,.mov (.c (.int .i64 0)),none⟩])
 (.block 0 (.loop xZU yBl)))
 (.seq (.region [⟨some 4,.mov (.c (.bool true)),none⟩])
 (.ret)))),
 [.tmp 4]⟩
def xZV : ACode :=
 .seq (.seq (.region [⟨some 11,.mov (.t 5),none⟩,
 ⟨some 12,.mov (.t 0),none⟩,
 ⟨some 13,.len (.t 12),none⟩,
 ⟨some 14,.bin .lss (.t 11) (.t 13),none⟩])
 (.cond (.t 14)
 (.skip)
 (.exit 0)))
 (.seq (.block 1 (.seq (.draw 5 [⟨some 17,.mov (.t 0),none⟩,
 ⟨some 18,.mov (.t 5),none⟩,
 ⟨some 19,.iaddr 1 (.t 17) (.t 18),none⟩,
 ⟨some 20,.load false 1 (.t 19),none⟩,
 ⟨some 21,.mov (.t 1),none⟩,
 ⟨some 22,.mov (.t 5),none⟩,
 ⟨some 23,.iaddr 1 (.t 21) (.t 22),none⟩,
 ⟨some 24,.load false 1 (.t 23),none⟩,
 ⟨some 25,.call 23 [(.t 20),(.t 24)],none⟩,
 ⟨some 26,.un .not (.t 25),none⟩])
 (.cond (.t 26)
 (.seq (.region [⟨some 4,.mov (.c (.bool false)),none⟩])
 (.ret))
 (.skip))))
 (.region [⟨some 15,.mov (.t 5),none⟩,
 ⟨some 16,.bin .add (.t 15) (.c (.int .i64 1)),none⟩,
 ⟨some 5,.mov (.t 16),none⟩]))
def yBm : ACode := xZV
def xZW : List Nat := [2,3,6,7,8,9,10,11,12,13,14,15,16,17,18,19,20,21,22,23,24,25,26]
def a67 : AFunc := ⟨27,
 .seq (.region [⟨some 4,.mov (.c (.bool false)),none⟩])
 (.seq (.seq (.region [⟨some 6,.mov (.t 0),none⟩,
 ⟨some 7,.len (.t 6),none⟩,
 ⟨some 8,.mov (.t 1),none⟩,
 ⟨some 9,.len (.t 8),none⟩,
 ⟨some 10,.bin .neq (.t 7) (.t 9),none⟩])
 (.cond (.t 10)
 (.seq (.region [⟨some 4,.mov (.c (.bool false)),none⟩])
 (.ret))
 (.skip)))
 (.seq (.seq (.region [⟨some 5,.mov (.c (.int .i64 0)),none⟩])
 (.block 0 (.loop xZW yBm)))
 (.seq (.region [⟨some 4,.mov (.c (.bool true)),none⟩])
 (.ret)))),
 [.tmp 4]⟩
def a68 : AFunc := ⟨52,
 .seq (.region [⟨some 3,.box (.t 1),none⟩,
 ⟨some 4,.box (.c (.agg [.sl true 0 [],.sl true 0 []])),none⟩,
 ⟨some 5,.mov (.c (.bool false)),none⟩])
 (.seq (.seq (.region [⟨some 8,.mov (.t 0),none⟩,
 ⟨some 9,.nilchk (.t 8),none⟩,
 ⟨some 10,.faddr 0 (.t 9),none⟩,
 ⟨some 11,.load false 1 (.t 10),none⟩,
 ⟨some 12,.mnil false (.t 11),none⟩])
 (.cond (.t 12)
 (.region [⟨some 13,.mov (.t 0),none⟩,
 ⟨some 14,.mkmap,none⟩,
 ⟨some 15,.nilchk (.t 13),none⟩,
 ⟨some 16,.faddr 0 (.t 15),none⟩,
 ⟨none,.store 1 (.t 16) (.t 14),none⟩])
 (.skip)))
 (.seq (.seq (.draw 9 [⟨some 18,.mov (.t 0),none⟩,
 ⟨some 19,.nilchk (.t 18),none⟩,
 ⟨some 20,.faddr 0 (.t 19),none⟩,
 ⟨some 21,.load false 1 (.t 20),none⟩,
 ⟨some 22,.load true 2 (.t 3),none⟩,
 ⟨some 23,.mlook [2,0,0] true (.int .i64 0) (.t 21) (.t 22),none⟩,
 ⟨some 17,.mov (.t 23),none⟩,
 ⟨some 24,.ext 0 (.t 17),none⟩,
 ⟨some 25,.ext 1 (.t 17),none⟩,
 ⟨some 6,.mov (.t 24),none⟩,
 ⟨some 7,.mov (.t 25),none⟩])
 (.seq (.region [⟨some 26,.mov (.t 7),none⟩])
 (.cond (.t 26)
 (.seq (.drawp [] [] 10 [⟨some 27,.mov (.t 0),none⟩,
 ⟨some 28,.nilchk (.t 27),none⟩,
 ⟨some 29,.faddr 1 (.t 28),none⟩,
 ⟨some 30,.load false 1 (.t 29),none⟩,
 ⟨some 31,.mov (.t 6),none⟩,
 ⟨some 32,.slice 1 (.t 30) none (some (.t 31)) none,none⟩,
 ⟨some 33,.mov (.t 0),none⟩,
 ⟨some 34,.nilchk (.t 33),none⟩,
 ⟨some 35,.faddr 1 (.t 34),none⟩,
 ⟨some 36,.load false 1 (.t 35),none⟩,
 ⟨some 37,.mov (.t 6),none⟩,
 ⟨some 38,.slice 1 (.t 36) (some (.t 37)) none none,none⟩,
 ⟨some 39,.build [.sl true 0 [],.sl true 0 []] [(0,1,(.t 32)),(1,1,(.t 38))],none⟩,
 ⟨some 40,.ocall 49 [(.t 39)],none⟩,
 ⟨none,.store 2 (.t 4) (.t 40),none⟩,
 ⟨some 5,.mov (.c (.bool true)),none⟩])
 (.ret))
 (.skip))))
 (.seq (.draw 5 [⟨some 41,.mov (.t 0),none⟩,
 ⟨some 42,.nilchk (.t 41),none⟩,
 ⟨some 43,.faddr 0 (.t 42),none⟩,
 ⟨some 44,.load false 1 (.t 43),none⟩,
 ⟨some 45,.load true 2 (.t 3),none⟩,
 ⟨some 46,.mov (.t 0),none⟩,
 ⟨some 47,.nilchk (.t 46),none⟩,
 ⟨some 48,.faddr 1 (.t 47),none⟩,
 ⟨some 49,.load false 1 (.t 48),none⟩,
 ⟨some 50,.len (.t 49),none⟩,
 ⟨none,.mupd [2,0,0] (.t 44) (.t 45) (.t 50),none⟩])
 (.seq (.region [⟨some 51,.build [.sl true 0 [],.sl true 0 []] [],none⟩,
 ⟨none,.store 2 (.t 4) (.t 51),none⟩,
 ⟨some 5,.mov (.c (.bool false)),none⟩])
 (.ret))))),
 [.cell 4 true 2,.tmp 5]⟩
def xZX : ACode :=
 .seq (.region [⟨some 33,.bin .lss (.t 32) (.t 31),none⟩])
 (.seq (.cond (.t 33)
 (.skip)
 (.exit 4))
 (.seq (.block 5 (.seq (.region [⟨some 34,.mov (.t 32),none⟩,
 ⟨some 35,.iaddr 1 (.t 30) (.t 32),none⟩,
 ⟨some 36,.load false 1 (.t 35),none⟩,
 ⟨some 10,.mov (.t 34),none⟩,
 ⟨some 11,.mov (.t 36),none⟩])
 (.region [⟨some 37,.mov (.t 9),none⟩,
 ⟨some 38,.mov (.t 10),none⟩,
 ⟨some 39,.mov (.t 3),none⟩,
 ⟨some 40,.mov (.t 11),none⟩,
 ⟨some 41,.iaddr 1 (.t 39) (.t 40),none⟩,
 ⟨some 42,.load false 1 (.t 41),none⟩,
 ⟨some 43,.iaddr 1 (.t 37) (.t 38),none⟩,
 ⟨none,.store 1 (.t 43) (.t 42),none⟩])))
 (.region [⟨some 44,.bin .add (.t 32) (.c (.int .i64 1)),none⟩,
 ⟨some 32,.mov (.t 44),none⟩])))
def yBn : ACode := xZX
def xZY : List Nat := [0,2,8,10,11,12,13,14,15,16,17,18,19,23,24,25,26,27,28,29,33,34,35,36,37,38,39,40,41,42,43,44,45,46,47,48,49,50,51,52,53,54,55,56,57,58,59,60,61,62,63,64,65,66,67,68,69,70,71]
def xZZ : ACode :=
 .seq (.region [⟨some 23,.bin .lss (.t 22) (.t 21),none⟩])
 (.seq (.cond (.t 23)
 (.skip)
 (.exit 2))
 (.seq (.block 3 (.seq (.region [⟨some 24,.mov (.t 22),none⟩,
 ⟨some 25,.iaddr 1 (.t 20) (.t 22),none⟩,
 ⟨some 26,.load false 1 (.t 25),none⟩,
 ⟨some 7,.mov (.t 24),none⟩,
 ⟨some 8,.mov (.t 26),none⟩])
 (.seq (.region [⟨some 27,.mov (.t 8),none⟩,
 ⟨some 28,.len (.t 27),none⟩,
 ⟨some 29,.mkslice false [.int .i64 0] 8 (.t 28) (.t 28),none⟩,
 ⟨some 9,.mov (.t 29),none⟩])
 (.seq (.seq (.region [⟨some 30,.mov (.t 8),none⟩,
 ⟨some 31,.len (.t 30),none⟩,
 ⟨some 32,.mov (.c (.int .i64 0)),none⟩])
 (.block 4 (.loop xZY yBn)))
 (.draw 10 [⟨some 46,.mov (.t 6),none⟩,
 ⟨some 47,.mov (.t 7),none⟩,
 ⟨some 48,.faddr 4 (.t 1),none⟩,
 ⟨some 49,.load false 1 (.t 48),none⟩,
 ⟨some 50,.mov (.t 7),none⟩,
 ⟨some 51,.iaddr 1 (.t 49) (.t 50),none⟩,
 ⟨some 52,.load false 1 (.t 51),none⟩,
 ⟨some 53,.bstr (.t 52),none⟩,
 ⟨some 54,.mov (.t 9),none⟩,
 ⟨some 55,.call 93 [(.t 54)],none⟩,
 ⟨some 56,.build [.str ⟨#[]⟩,.str ⟨#[]⟩] [(0,1,(.t 53)),(1,1,(.t 55))],none⟩,
 ⟨some 57,.icall (.c (.func 92 [])) [(.t 5),(.t 56)],none⟩,
 ⟨some 45,.mov (.t 57),none⟩,
 ⟨some 58,.ext 0 (.t 45),none⟩,
 ⟨some 59,.ext 1 (.t 45),none⟩,
 ⟨some 60,.iaddr 1 (.t 46) (.t 47),none⟩,
 ⟨none,.store 1 (.t 60) (.t 58),none⟩])))))
 (.region [⟨some 61,.bin .add (.t 22) (.c (.int .i64 1)),none⟩,
 ⟨some 22,.mov (.t 61),none⟩])))
def yBo : ACode := xZZ
def xZ0 : List Nat := [0,2,7,8,9,10,11,12,13,14,15,16,17,18,19,23,24,25,26,27,28,29,30,31,32,33,34,35,36,37,38,39,40,41,42,43,44,45,46,47,48,49,50,51,52,53,54,55,56,57,58,59,60,61,62,63,64,65,66,67,68,69,70,71]
def xZ1 : ACode :=
 .block 1 (.seq (.region [⟨some 5,.box (.c (.agg [.nilm,.sl true 0 []])),none⟩])
 (.seq (.region [⟨some 16,.mov (.t 3),none⟩,
 ⟨some 17,.len (.t 16),none⟩,
 ⟨some 18,.mkslice false [.int .i64 0] 8 (.t 17) (.t 17),none⟩,
 ⟨some 6,.mov (.t 18),none⟩])
 (.seq (.seq (.region [⟨some 19,.faddr 3 (.t 1),none⟩,
 ⟨some 20,.load false 1 (.t 19),none⟩,
 ⟨some 21,.len (.t 20),none⟩,
 ⟨some 22,.mov (.c (.int .i64 0)),none⟩])
 (.block 2 (.loop xZ0 yBo)))
 (.seq (.region [⟨some 62,.mov (.t 6),none⟩,
 ⟨some 3,.mov (.t 62),none⟩])
 (.seq (.seq (.region [⟨some 63,.faddr 1 (.t 5),none⟩,
 ⟨some 64,.load false 1 (.t 63),none⟩,
 ⟨some 65,.len (.t 64),none⟩,
 ⟨some 66,.mov (.t 4),none⟩,
 ⟨some 67,.bin .eql (.t 65) (.t 66),none⟩])
 (.cond (.t 67)
 (.seq (.region [⟨some 68,.mov (.t 3),none⟩,
 ⟨some 2,.mov (.t 68),none⟩])
 (.ret))
 (.skip)))
 (.region [⟨some 69,.faddr 1 (.t 5),none⟩,
 ⟨some 70,.load false 1 (.t 69),none⟩,
 ⟨some 71,.len (.t 70),none⟩,
 ⟨some 4,.mov (.t 71),none⟩]))))))
def yBp : ACode := xZ1
def xZ2 : List Nat := [0,5,6,7,8,9,10,11,12,13,14,15,16,17,18,19,20,21,22,23,24,25,26,27,28,29,30,31,32,33,34,35,36,37,38,39,40,41,42,43,44,45,46,47,48,49,50,51,52,53,54,55,56,57,58,59,60,61,62,63,64,65,66,67,68,69,70,71]
def a69 : AFunc := ⟨72,
 .seq (.region [⟨some 1,.box (.t 0),none⟩,
 ⟨some 2,.mov (.c (.sl true 0 [])),none⟩])
 (.seq (.region [⟨some 12,.faddr 3 (.t 1),none⟩,
 ⟨some 13,.load false 1 (.t 12),none⟩,
 ⟨some 14,.len (.t 13),none⟩,
 ⟨some 15,.mkslice false [.int .i64 0] 8 (.t 14) (.t 14),none⟩,
 ⟨some 3,.mov (.t 15),none⟩])
 (.seq (.region [⟨some 4,.mov (.c (.int .i64 0)),none⟩])
 (.block 0 (.loop xZ2 yBp)))),
 [.tmp 2]⟩
def a70 : AFunc := ⟨54,
 .seq (.region [⟨some 4,.mov (.c (.int .i64 0)),none⟩,
 ⟨some 5,.mov (.c (.bool false)),none⟩])
 (.seq (.seq (.region [⟨some 8,.mov (.t 0),none⟩,
 ⟨some 9,.nilchk (.t 8),none⟩,
 ⟨some 10,.faddr 0 (.t 9),none⟩,
 ⟨some 11,.load false 1 (.t 10),none⟩,
 ⟨some 12,.mnil false (.t 11),none⟩])
 (.cond (.t 12)
 (.region [⟨some 13,.mov (.t 0),none⟩,
 ⟨some 14,.mkmap,none⟩,
 ⟨some 15,.nilchk (.t 13),none⟩,
 ⟨some 16,.faddr 0 (.t 15),none⟩,
 ⟨none,.store 1 (.t 16) (.t 14),none⟩])
 (.skip)))
 (.seq (.region [⟨some 18,.mov (.t 0),none⟩,
 ⟨some 19,.nilchk (.t 18),none⟩,
 ⟨some 20,.faddr 0 (.t 19),none⟩,
 ⟨some 21,.load false 1 (.t 20),none⟩,
 ⟨some 22,.mov (.t 1),none⟩,
 ⟨some 23,.mlook [0] true (.int .i64 0) (.t 21) (.t 22),none⟩,
 ⟨some 17,.mov (.t 23),none⟩,
 ⟨some 24,.ext 0 (.t 17),none⟩,
 ⟨some 25,.ext 1 (.t 17),none⟩,
 ⟨some 6,.mov (.t 24),none⟩,
 ⟨some 7,.mov (.t 25),none⟩])
 (.seq (.seq (.region [⟨some 26,.mov (.t 7),none⟩,
 ⟨some 27,.un .not (.t 26),none⟩])
 (.cond (.t 27)
 (.seq (.region [⟨some 28,.mov (.t 0),none⟩,
 ⟨some 29,.nilchk (.t 28),none⟩,
 ⟨some 30,.faddr 1 (.t 29),none⟩,
 ⟨some 31,.load false 1 (.t 30),none⟩,
 ⟨some 32,.len (.t 31),none⟩,
 ⟨some 6,.mov (.t 32),none⟩])
 (.drawl [(35,(1,(43,0)))] 11 [⟨some 33,.mov (.t 0),none⟩,
 ⟨some 34,.nilchk (.t 33),none⟩,
 ⟨some 35,.faddr 0 (.t 34),none⟩,
 ⟨some 36,.load false 1 (.t 35),none⟩,
 ⟨some 37,.mov (.t 1),none⟩,
 ⟨some 38,.mov (.t 0),none⟩,
 ⟨some 39,.mov (.t 6),none⟩,
 ⟨some 40,.mov (.t 0),none⟩,
 ⟨some 41,.nilchk (.t 40),none⟩,
 ⟨some 42,.faddr 1 (.t 41),none⟩,
 ⟨some 43,.load false 1 (.t 42),none⟩,
 ⟨some 44,.mov (.t 1),none⟩,
 ⟨some 45,.bslice true [.int .i64 0] 1 1 [(0,(.t 44))],none⟩,
 ⟨some 46,.append false 1 8 (.t 43) (.t 45),none⟩,
 ⟨some 47,.ment [0] (.int .i64 0) (.t 36) (.t 37),none⟩,
 ⟨some 48,.ext 1 (.t 47),none⟩,
 ⟨none,.mstore (.t 36) (.t 48) (.t 39),none⟩,
 ⟨some 49,.nilchk (.t 38),none⟩,
 ⟨some 50,.faddr 1 (.t 49),none⟩,
 ⟨none,.store 1 (.t 50) (.t 46),none⟩]))
 (.skip)))
 (.seq (.region [⟨some 51,.mov (.t 6),none⟩,
 ⟨some 52,.mov (.t 7),none⟩,
 ⟨some 53,.un .not (.t 52),none⟩,
 ⟨some 4,.mov (.t 51),none⟩,
 ⟨some 5,.mov (.t 53),none⟩])
 (.ret))))),
 [.tmp 4,.tmp 5]⟩
def a71 : AFunc := ⟨4,
 .seq (.region [⟨some 1,.box (.t 0),none⟩,
 ⟨some 2,.mov (.c (.nilf)),none⟩])
 (.seq (.region [⟨some 3,.mkfunc 94 [(.t 1)],none⟩,
 ⟨some 2,.mov (.t 3),none⟩])
 (.ret)),
 [.tmp 2]⟩
def a72 : AFunc := ⟨8,
 .seq (.region [⟨some 2,.mov (.c (.sl true 0 [])),none⟩])
 (.seq (.seq (.region [⟨some 3,.mov (.t 0),none⟩,
 ⟨some 4,.isnil false (.t 3),none⟩])
 (.cond (.t 4)
 (.seq (.region [⟨some 2,.mov (.c (.sl true 0 [])),none⟩])
 (.ret))
 (.skip)))
 (.seq (.region [⟨some 5,.bslice false [.int .u8 0] 1 0 [],none⟩,
 ⟨some 6,.mov (.t 0),none⟩,
 ⟨some 7,.append false 1 1 (.t 5) (.t 6),none⟩,
 ⟨some 2,.mov (.t 7),none⟩])
 (.ret))),
 [.tmp 2]⟩
def a74 : AFunc := ⟨54,
 .seq (.region [⟨some 3,.box (.t 1),none⟩,
 ⟨some 4,.mov (.c (.int .i64 0)),none⟩,
 ⟨some 5,.mov (.c (.bool false)),none⟩])
 (.seq (.seq (.region [⟨some 8,.mov (.t 0),none⟩,
 ⟨some 9,.nilchk (.t 8),none⟩,
 ⟨some 10,.faddr 0 (.t 9),none⟩,
 ⟨some 11,.load false 1 (.t 10),none⟩,
 ⟨some 12,.mnil false (.t 11),none⟩])
 (.cond (.t 12)
 (.region [⟨some 13,.mov (.t 0),none⟩,
 ⟨some 14,.mkmap,none⟩,
 ⟨some 15,.nilchk (.t 13),none⟩,
 ⟨some 16,.faddr 0 (.t 15),none⟩,
 ⟨none,.store 1 (.t 16) (.t 14),none⟩])
 (.skip)))
 (.seq (.draw 9 [⟨some 18,.mov (.t 0),none⟩,
 ⟨some 19,.nilchk (.t 18),none⟩,
 ⟨some 20,.faddr 0 (.t 19),none⟩,
 ⟨some 21,.load false 1 (.t 20),none⟩,
 ⟨some 22,.load true 2 (.t 3),none⟩,
 ⟨some 23,.mlook [2,0,0] true (.int .i64 0) (.t 21) (.t 22),none⟩,
 ⟨some 17,.mov (.t 23),none⟩,
 ⟨some 24,.ext 0 (.t 17),none⟩,
 ⟨some 25,.ext 1 (.t 17),none⟩,
 ⟨some 6,.mov (.t 24),none⟩,
 ⟨some 7,.mov (.t 25),none⟩])
 (.seq (.seq (.region [⟨some 26,.mov (.t 7),none⟩,
 ⟨some 27,.un .not (.t 26),none⟩])
 (.cond (.t 27)
 (.seq (.region [⟨some 28,.mov (.t 0),none⟩,
 ⟨some 29,.nilchk (.t 28),none⟩,
 ⟨some 30,.faddr 1 (.t 29),none⟩,
 ⟨some 31,.load false 1 (.t 30),none⟩,
 ⟨some 32,.len (.t 31),none⟩,
 ⟨some 6,.mov (.t 32),none⟩])
 (.drawl [(35,(1,(43,0))),(3,(2,(43,0)))] 11 [⟨some 33,.mov (.t 0),none⟩,
 ⟨some 34,.nilchk (.t 33),none⟩,
 ⟨some 35,.faddr 0 (.t 34),none⟩,
 ⟨some 36,.load false 1 (.t 35),none⟩,
 ⟨some 37,.load true 2 (.t 3),none⟩,
 ⟨some 38,.mov (.t 0),none⟩,
 ⟨some 39,.mov (.t 6),none⟩,
 ⟨some 40,.mov (.t 0),none⟩,
 ⟨some 41,.nilchk (.t 40),none⟩,
 ⟨some 42,.faddr 1 (.t 41),none⟩,
 ⟨some 43,.load false 1 (.t 42),none⟩,
 ⟨some 44,.load true 2 (.t 3),none⟩,
 ⟨some 45,.bslice true [.int .i64 0,.int .i64 0] 2 1 [(0,(.t 44))],none⟩,
 ⟨some 46,.append false 2 16 (.t 43) (.t 45),none⟩,
 ⟨some 47,.ment [2,0,0] (.int .i64 0) (.t 36) (.t 37),none⟩,
 ⟨some 48,.ext 1 (.t 47),none⟩,
 ⟨none,.mstore (.t 36) (.t 48) (.t 39),none⟩,
 ⟨some 49,.nilchk (.t 38),none⟩,
 ⟨some 50,.faddr 1 (.t 49),none⟩,
 ⟨none,.store 1 (.t 50) (.t 46),none⟩]))
 (.skip)))
 (.seq (.region [⟨some 51,.mov (.t 6),none⟩,
 ⟨some 52,.mov (.t 7),none⟩,
 ⟨some 53,.un .not (.t 52),none⟩,
 ⟨some 4,.mov (.t 51),none⟩,
 ⟨some 5,.mov (.t 53),none⟩])
 (.ret))))),
 [.tmp 4,.tmp 5]⟩
def a75 : AFunc := ⟨4,
 .seq (.region [⟨some 1,.box (.t 0),none⟩,
 ⟨some 2,.mov (.c (.nilf)),none⟩])
 (.seq (.region [⟨some 3,.mkfunc 95 [(.t 1)],none⟩,
 ⟨some 2,.mov (.t 3),none⟩])
 (.ret)),
 [.tmp 2]⟩
def xSH : ACode :=
 .seq (.region [⟨some 12,.bin .lss (.t 11) (.t 10),none⟩])
 (.seq (.cond (.t 12)
 (.skip)
 (.exit 0))
 (.seq (.block 1 (.seq (.region [⟨some 13,.iaddr 1 (.t 9) (.t 11),none⟩,
 ⟨some 14,.load false 1 (.t 13),none⟩,
 ⟨some 5,.mov (.t 14),none⟩])
 (.seq (.region [⟨some 15,.mov (.t 3),none⟩,
 ⟨some 16,.mov (.t 5),none⟩,
 ⟨some 17,.len (.t 16),none⟩,
 ⟨some 18,.bin .add (.t 15) (.t 17),none⟩,
 ⟨some 3,.mov (.t 18),none⟩])
 (.seq (.region [⟨some 19,.mov (.t 3),none⟩,
 ⟨some 20,.bin .lss (.t 19) (.c (.int .i64 0)),none⟩])
 (.cond (.t 20)
 (.stuck)
 (.skip))))))
 (.region [⟨some 22,.bin .add (.t 11) (.c (.int .i64 1)),none⟩,
 ⟨some 11,.mov (.t 22),none⟩])))
def xYj : ACode := xSH
def xPf : List Nat := [1,2,4,5,6,7,8,12,13,14,15,16,17,18,19,20,21,22,23,24,25,26,27,28,29,30,31,32,33,34,35]
abbrev xSI (s0 s3 s9 s10 s11 : AV) : List AV := [s0,.any,.any,s3,.any,.any,.any,.any,.any,s9,s10,s11,.any,.any,.any,.any,.any,.any,.any,.any,.any,.any,.any,.any,.any,.any,.any,.any,.any,.any,.any,.any,.any,.any,.any,.any]
theorem xZ3 (s0 s1 s2 s3 s4 s5 s6 s7 s8 s9 s10 s11 s12 s13 s14 s15 s16 s17 s18 s19 s20 s21 s22 s23 s24 s25 s26 s27 s28 s29 s30 s31 s32 s33 s34 s35 : AV) : xAG xPf [s0,s1,s2,s3,s4,s5,s6,s7,s8,s9,s10,s11,s12,s13,s14,s15,s16,s17,s18,s19,s20,s21,s22,s23,s24,s25,s26,s27,s28,s29,s30,s31,s32,s33,s34,s35] = xSI s0 s3 s9 s10 s11 := by kernel_rfl
theorem xZ4 {prog : Nat → Option AFunc} (s0 s3 s9 s10 s11 : AV) (H : Heap) : (lim prog).loop xPf xYj ⟨xSI s0 s3 s9 s10 s11,H⟩ = xBG (lim prog) xPf xYj (run (lim prog) xSH ⟨xSI s0 s3 s9 s10 s11,H⟩) := xAo _ _ _ _ (by kernel_rfl)
def xSJ : ACode :=
 .seq (.region [⟨some 28,.bin .lss (.t 27) (.t 26),none⟩])
 (.seq (.cond (.t 28)
 (.skip)
 (.exit 2))
 (.seq (.block 3 (.seq (.region [⟨some 29,.iaddr 1 (.t 25) (.t 27),none⟩,
 ⟨some 30,.load false 1 (.t 29),none⟩,
 ⟨some 8,.mov (.t 30),none⟩])
 (.region [⟨some 31,.mov (.t 6),none⟩,
 ⟨some 32,.mov (.t 8),none⟩,
 ⟨some 33,.append false 1 1 (.t 31) (.t 32),none⟩,
 ⟨some 6,.mov (.t 33),none⟩])))
 (.region [⟨some 34,.bin .add (.t 27) (.c (.int .i64 1)),none⟩,
 ⟨some 27,.mov (.t 34),none⟩])))
def xYk : ACode := xSJ
def xPg : List Nat := [0,1,2,3,4,5,7,8,9,10,11,12,13,14,15,16,17,18,19,20,21,22,23,24,28,29,30,31,32,33,34,35]
abbrev xSK (s6 s25 s26 s27 : AV) : List AV := [.any,.any,.any,.any,.any,.any,s6,.any,.any,.any,.any,.any,.any,.any,.any,.any,.any,.any,.any,.any,.any,.any,.any,.any,.any,s25,s26,s27,.any,.any,.any,.any,.any,.any,.any,.any]
theorem xZ5 (s0 s1 s2 s3 s4 s5 s6 s7 s8 s9 s10 s11 s12 s13 s14 s15 s16 s17 s18 s19 s20 s21 s22 s23 s24 s25 s26 s27 s28 s29 s30 s31 s32 s33 s34 s35 : AV) : xAG xPg [s0,s1,s2,s3,s4,s5,s6,s7,s8,s9,s10,s11,s12,s13,s14,s15,s16,s17,s18,s19,s20,s21,s22,s23,s24,s25,s26,s27,s28,s29,s30,s31,s32,s33,s34,s35] = xSK s6 s25 s26 s27 := by kernel_rfl
theorem xZ6 {prog : Nat → Option AFunc} (s6 s25 s26 s27 : AV) (H : Heap) : (lim prog).loop xPg xYk ⟨xSK s6 s25 s26 s27,H⟩ = xBG (lim prog) xPg xYk (run (lim prog) xSJ ⟨xSK s6 s25 s26 s27,H⟩) := xAo _ _ _ _ (by kernel_rfl)
def a76 : AFunc := ⟨36,
 .seq (.region [⟨some 2,.mov (.c (.sl true 0 [])),none⟩])
 (.seq (.region [⟨some 3,.mov (.c (.int .i64 0)),none⟩])
 (.seq (.seq (.region [⟨some 9,.mov (.t 0),none⟩,
 ⟨some 10,.len (.t 9),none⟩,
 ⟨some 11,.mov (.c (.int .i64 0)),none⟩])
 (.block 0 (.loop xPf xYj)))
 (.seq (.region [⟨some 23,.mov (.t 3),none⟩,
 ⟨some 24,.icall (.c (.func 96 [])) [(.c (.sl true 0 [])),(.t 23)],none⟩,
 ⟨some 6,.mov (.t 24),none⟩])
 (.seq (.seq (.region [⟨some 25,.mov (.t 0),none⟩,
 ⟨some 26,.len (.t 25),none⟩,
 ⟨some 27,.mov (.c (.int .i64 0)),none⟩])
 (.block 2 (.loop xPg xYk)))
 (.seq (.region [⟨some 35,.mov (.t 6),none⟩,
 ⟨some 2,.mov (.t 35),none⟩])
 (.ret)))))),
 [.tmp 2]⟩
def a77 : AFunc := ⟨10,
 .seq (.region [⟨some 1,.box (.t 0),none⟩,
 ⟨some 2,.box (.c (.agg [.sl true 0 [],.sl true 0 []])),none⟩])
 (.seq (.seq (.region [⟨some 3,.faddr 1 (.t 1),none⟩,
 ⟨some 4,.load false 1 (.t 3),none⟩,
 ⟨some 5,.len (.t 4),none⟩,
 ⟨some 6,.bin .eql (.t 5) (.c (.int .i64 0)),none⟩])
 (.cond (.t 6)
 (.region [⟨some 7,.mkslice false [.int .u8 0] 1 (.c (.int .i64 1)) (.c (.int .i64 1)),none⟩,
 ⟨some 8,.faddr 1 (.t 1),none⟩,
 ⟨none,.store 1 (.t 8) (.t 7),none⟩])
 (.skip)))
 (.seq (.region [⟨some 9,.load true 2 (.t 1),none⟩,
 ⟨none,.store 2 (.t 2) (.t 9),none⟩])
 (.ret))),
 [.cell 2 true 2]⟩
def xPh : ACode :=
 .seq (.region [⟨some 16,.bin .lss (.t 15) (.t 14),none⟩])
 (.seq (.cond (.t 16)
 (.skip)
 (.exit 0))
 (.seq (.block 1 (.seq (.region [⟨some 17,.mov (.t 15),none⟩,
 ⟨some 8,.mov (.t 17),none⟩])
 (.region [⟨some 18,.mov (.t 7),none⟩,
 ⟨some 19,.mov (.t 8),none⟩,
 ⟨some 20,.mov (.t 2),none⟩,
 ⟨some 21,.mov (.t 8),none⟩,
 ⟨some 22,.icall (.t 20) [(.t 21)],none⟩,
 ⟨some 23,.iaddr 1 (.t 18) (.t 19),none⟩,
 ⟨none,.store 1 (.t 23) (.t 22),none⟩])))
 (.region [⟨some 24,.bin .add (.t 15) (.c (.int .i64 1)),none⟩,
 ⟨some 15,.mov (.t 24),none⟩])))
def xSL : ACode := xPh
def xI8 : List Nat := [1,3,4,5,8,9,10,11,12,13,16,17,18,19,20,21,22,23,24,25,26,27,28,29,30,31,32]
abbrev xI9 (s0 s2 s6 s7 s14 s15 : AV) : List AV := [s0,.any,s2,.any,.any,.any,s6,s7,.any,.any,.any,.any,.any,.any,s14,s15,.any,.any,.any,.any,.any,.any,.any,.any,.any,.any,.any,.any,.any,.any,.any,.any,.any]
theorem xSM (s0 s1 s2 s3 s4 s5 s6 s7 s8 s9 s10 s11 s12 s13 s14 s15 s16 s17 s18 s19 s20 s21 s22 s23 s24 s25 s26 s27 s28 s29 s30 s31 s32 : AV) : xAG xI8 [s0,s1,s2,s3,s4,s5,s6,s7,s8,s9,s10,s11,s12,s13,s14,s15,s16,s17,s18,s19,s20,s21,s22,s23,s24,s25,s26,s27,s28,s29,s30,s31,s32] = xI9 s0 s2 s6 s7 s14 s15 := by kernel_rfl
theorem xWX {prog : Nat → Option AFunc} (s0 s2 s6 s7 s14 s15 : AV) (H : Heap) : (lim prog).loop xI8 xSL ⟨xI9 s0 s2 s6 s7 s14 s15,H⟩ = xBG (lim prog) xI8 xSL (run (lim prog) xPh ⟨xI9 s0 s2 s6 s7 s14 s15,H⟩) := xAo _ _ _ _ (by kernel_rfl)
def a78 : AFunc := ⟨33,
 .seq (.region [⟨some 6,.box (.c (.agg [.sl true 0 [],.sl true 0 []])),none⟩])
 (.seq (.region [⟨some 9,.mov (.t 0),none⟩,
 ⟨some 10,.mov (.t 1),none⟩,
 ⟨some 11,.bin .add (.t 9) (.t 10),none⟩,
 ⟨some 12,.mkslice false [.int .u8 0] 1 (.t 11) (.t 11),none⟩,
 ⟨some 7,.mov (.t 12),none⟩])
 (.seq (.seq (.region [⟨some 13,.mov (.t 7),none⟩,
 ⟨some 14,.len (.t 13),none⟩,
 ⟨some 15,.mov (.c (.int .i64 0)),none⟩])
 (.block 0 (.loop xI8 xSL)))
 (.seq (.draw 4 [⟨some 25,.mov (.t 7),none⟩,
 ⟨some 26,.mov (.t 0),none⟩,
 ⟨some 27,.slice 1 (.t 25) none (some (.t 26)) none,none⟩,
 ⟨some 28,.mov (.t 7),none⟩,
 ⟨some 29,.mov (.t 0),none⟩,
 ⟨some 30,.slice 1 (.t 28) (some (.t 29)) none none,none⟩,
 ⟨some 31,.build [.sl true 0 [],.sl true 0 []] [(0,1,(.t 27)),(1,1,(.t 30))],none⟩,
 ⟨some 32,.call 49 [(.t 31)],none⟩,
 ⟨none,.store 2 (.t 6) (.t 32),none⟩])
 (.ret)))),
 [.cell 6 true 2]⟩
def a79 : AFunc := ⟨10,
 .seq (.region [⟨some 4,.mov (.c (.int .u8 0)),none⟩])
 (.seq (.draw 4 [⟨some 5,.load true 2 (.t 1),none⟩,
 ⟨some 6,.mov (.t 0),none⟩,
 ⟨some 7,.call 47 [(.t 5),(.t 6)],none⟩,
 ⟨some 8,.load false 1 (.t 2),none⟩,
 ⟨some 9,.bin .and (.t 7) (.t 8),none⟩,
 ⟨some 4,.mov (.t 9),none⟩])
 (.ret)),
 [.tmp 4]⟩
def a80 : AFunc := ⟨9,
 .seq (.region [⟨some 3,.mov (.c (.bool false)),none⟩])
 (.seq (.region [⟨some 4,.mov (.t 0),none⟩,
 ⟨some 5,.conv .i64 (.t 4),none⟩,
 ⟨some 6,.load false 1 (.t 1),none⟩,
 ⟨some 7,.bin .shl (.c (.int .i64 1)) (.t 6),none⟩,
 ⟨some 8,.bin .geq (.t 5) (.t 7),none⟩,
 ⟨some 3,.mov (.t 8),none⟩])
 (.ret)),
 [.tmp 3]⟩
def xHf : ACode :=
 .seq (.region [⟨some 6,.mov (.t 29),none⟩])
 (.region [⟨some 7,.mov (.t 30),none⟩])
def xMj : ACode :=
 .block 1 (.seq (.region [⟨some 31,.mov (.t 7),none⟩,
 ⟨some 32,.load true 2 (.t 3),none⟩,
 ⟨some 33,.mov (.t 6),none⟩,
 ⟨some 34,.call 47 [(.t 32),(.t 33)],none⟩,
 ⟨some 35,.call 97 [(.t 31),(.t 34)],none⟩,
 ⟨some 8,.mov (.t 35),none⟩])
 (.seq (.region [⟨some 36,.mov (.t 8),none⟩,
 ⟨some 37,.bin .neq (.t 36) (.c (.int .i64 0)),none⟩])
 (.cond (.t 37)
 (.seq (.region [⟨some 38,.mov (.t 8),none⟩,
 ⟨none,.store 1 (.t 4) (.t 38),none⟩])
 (.ret))
 (.skip))))
def xPi : ACode := xHf
def xVV : ACode := xMj
theorem xOx (R : Rec) (s : St) : run R xPi s = run R xHf s := rfl
theorem xSN (R : Rec) (s : St) : run R xVV s = run R xMj s := rfl
def a81 : AFunc := ⟨39,
 .seq (.region [⟨some 2,.box (.t 0),none⟩,
 ⟨some 3,.box (.t 1),none⟩,
 ⟨some 4,.box (.c (.int .i64 0)),none⟩])
 (.seq (.region [⟨some 9,.faddr 0 (.t 2),none⟩,
 ⟨some 10,.load false 1 (.t 9),none⟩,
 ⟨some 11,.len (.t 10),none⟩,
 ⟨some 12,.faddr 0 (.t 3),none⟩,
 ⟨some 13,.load false 1 (.t 12),none⟩,
 ⟨some 14,.len (.t 13),none⟩,
 ⟨some 15,.maxi (.t 11) (.t 14),none⟩,
 ⟨some 16,.faddr 1 (.t 2),none⟩,
 ⟨some 17,.load false 1 (.t 16),none⟩,
 ⟨some 18,.len (.t 17),none⟩,
 ⟨some 19,.maxi (.t 18) (.c (.int .i64 1)),none⟩,
 ⟨some 20,.bin .add (.t 15) (.t 19),none⟩,
 ⟨some 21,.faddr 1 (.t 3),none⟩,
 ⟨some 22,.load false 1 (.t 21),none⟩,
 ⟨some 23,.len (.t 22),none⟩,
 ⟨some 24,.maxi (.t 23) (.c (.int .i64 1)),none⟩,
 ⟨some 25,.bin .add (.t 20) (.t 24),none⟩,
 ⟨some 5,.mov (.t 25),none⟩])
 (.seq (.seq (.region [⟨some 26,.load true 2 (.t 2),none⟩,
 ⟨some 27,.mov (.t 5),none⟩,
 ⟨some 28,.icall (.c (.func 82 [])) [(.t 26),(.t 27)],none⟩])
 (.block 0 (.range (.t 28) [29,30] xPi xVV)))
 (.seq (.region [⟨none,.store 1 (.t 4) (.c (.int .i64 0)),none⟩])
 (.ret)))),
 [.cell 4 false 1]⟩
def a82 : AFunc := ⟨6,
 .seq (.region [⟨some 2,.box (.t 0),none⟩,
 ⟨some 3,.box (.t 1),none⟩,
 ⟨some 4,.mov (.c (.nilf)),none⟩])
 (.seq (.region [⟨some 5,.mkfunc 98 [(.t 3),(.t 2)],none⟩,
 ⟨some 4,.mov (.t 5),none⟩])
 (.ret)),
 [.tmp 4]⟩
def xMk : ACode :=
 .seq (.seq (.draw 11 [⟨some 17,.mov (.t 4),none⟩,
 ⟨some 18,.bin .gtr (.t 17) (.c (.int .i64 0)),none⟩,
 ⟨some 19,.mov (.t 18),none⟩,
 ⟨some 20,.mov (.t 0),some (19,true)⟩,
 ⟨some 21,.mov (.t 5),some (19,true)⟩,
 ⟨some 22,.iaddr 1 (.t 20) (.t 21),some (19,true)⟩,
 ⟨some 23,.load false 1 (.t 22),some (19,true)⟩,
 ⟨some 24,.mov (.t 0),some (19,true)⟩,
 ⟨some 25,.mov (.t 4),some (19,true)⟩,
 ⟨some 26,.iaddr 1 (.t 24) (.t 25),some (19,true)⟩,
 ⟨some 27,.load false 1 (.t 26),some (19,true)⟩,
 ⟨some 28,.bin .neq (.t 23) (.t 27),some (19,true)⟩,
 ⟨some 29,.pick (.t 19) (.t 28) (.c (.bool false)),none⟩])
 (.cond (.t 29)
 (.skip)
 (.exit 2)))
 (.block 3 (.region [⟨some 30,.mov (.t 3),none⟩,
 ⟨some 31,.mov (.t 4),none⟩,
 ⟨some 32,.iaddr 1 (.t 30) (.t 31),none⟩,
 ⟨some 33,.load false 1 (.t 32),none⟩,
 ⟨some 4,.mov (.t 33),none⟩]))
def xVW : ACode := xMk
def xMl : List Nat := [1,2,6,7,8,9,10,11,12,13,14,15,16,17,18,19,20,21,22,23,24,25,26,27,28,29,30,31,32,33,34,35,36,37,38,39,40,41,42,43,44,45,46,47,48,49,50,51,52,53,54,55,56,57,58,59,60,61,62,63,64,65,66]
abbrev xMm (s0 s3 s4 s5 : AV) : List AV := [s0,.any,.any,s3,s4,s5,.any,.any,.any,.any,.any,.any,.any,.any,.any,.any,.any,.any,.any,.any,.any,.any,.any,.any,.any,.any,.any,.any,.any,.any,.any,.any,.any,.any,.any,.any,.any,.any,.any,.any,.any,.any,.any,.any,.any,.any,.any,.any,.any,.any,.any,.any,.any,.any,.any,.any,.any,.any,.any,.any,.any,.any,.any,.any,.any,.any,.any]
theorem xMn (s0 s1 s2 s3 s4 s5 s6 s7 s8 s9 s10 s11 s12 s13 s14 s15 s16 s17 s18 s19 s20 s21 s22 s23 s24 s25 s26 s27 s28 s29 s30 s31 s32 s33 s34 s35 s36 s37 s38 s39 s40 s41 s42 s43 s44 s45 s46 s47 s48 s49 s50 s51 s52 s53 s54 s55 s56 s57 s58 s59 s60 s61 s62 s63 s64 s65 s66 : AV) : xAG xMl [s0,s1,s2,s3,s4,s5,s6,s7,s8,s9,s10,s11,s12,s13,s14,s15,s16,s17,s18,s19,s20,s21,s22,s23,s24,s25,s26,s27,s28,s29,s30,s31,s32,s33,s34,s35,s36,s37,s38,s39,s40,s41,s42,s43,s44,s45,s46,s47,s48,s49,s50,s51,s52,s53,s54,s55,s56,s57,s58,s59,s60,s61,s62,s63,s64,s65,s66] = xMm s0 s3 s4 s5 := by kernel_rfl
theorem xSO {prog : Nat → Option AFunc} (s0 s3 s4 s5 : AV) (H : Heap) : (lim prog).loop xMl xVW ⟨xMm s0 s3 s4 s5,H⟩ = xBG (lim prog) xMl xVW (run (lim prog) xMk ⟨xMm s0 s3 s4 s5,H⟩) := xAo _ _ _ _ (by kernel_rfl)
def xMo : ACode :=
 .seq (.seq (.region [⟨some 11,.mov (.t 5),none⟩,
 ⟨some 12,.mov (.t 0),none⟩,
 ⟨some 13,.len (.t 12),none⟩,
 ⟨some 14,.bin .lss (.t 11) (.t 13),none⟩])
 (.cond (.t 14)
 (.skip)
 (.exit 0)))
 (.seq (.block 1 (.seq (.block 2 (.loop xMl xVW))
 (.seq (.seq (.draw 5 [⟨some 34,.mov (.t 0),none⟩,
 ⟨some 35,.mov (.t 5),none⟩,
 ⟨some 36,.iaddr 1 (.t 34) (.t 35),none⟩,
 ⟨some 37,.load false 1 (.t 36),none⟩,
 ⟨some 38,.mov (.t 0),none⟩,
 ⟨some 39,.mov (.t 4),none⟩,
 ⟨some 40,.iaddr 1 (.t 38) (.t 39),none⟩,
 ⟨some 41,.load false 1 (.t 40),none⟩,
 ⟨some 42,.bin .eql (.t 37) (.t 41),none⟩])
 (.cond (.t 42)
 (.region [⟨some 43,.mov (.t 4),none⟩,
 ⟨some 44,.bin .add (.t 43) (.c (.int .i64 1)),none⟩,
 ⟨some 4,.mov (.t 44),none⟩])
 (.skip)))
 (.region [⟨some 45,.mov (.t 3),none⟩,
 ⟨some 46,.mov (.t 5),none⟩,
 ⟨some 47,.bin .add (.t 46) (.c (.int .i64 1)),none⟩,
 ⟨some 48,.mov (.t 4),none⟩,
 ⟨some 49,.iaddr 1 (.t 45) (.t 47),none⟩,
 ⟨none,.store 1 (.t 49) (.t 48),none⟩]))))
 (.region [⟨some 15,.mov (.t 5),none⟩,
 ⟨some 16,.bin .add (.t 15) (.c (.int .i64 1)),none⟩,
 ⟨some 5,.mov (.t 16),none⟩]))
def xSP : ACode := xMo
def xJa : List Nat := [1,2,6,7,8,9,10,11,12,13,14,15,16,17,18,19,20,21,22,23,24,25,26,27,28,29,30,31,32,33,34,35,36,37,38,39,40,41,42,43,44,45,46,47,48,49,50,51,52,53,54,55,56,57,58,59,60,61,62,63,64,65,66]
abbrev xJb (s0 s3 s4 s5 : AV) : List AV := [s0,.any,.any,s3,s4,s5,.any,.any,.any,.any,.any,.any,.any,.any,.any,.any,.any,.any,.any,.any,.any,.any,.any,.any,.any,.any,.any,.any,.any,.any,.any,.any,.any,.any,.any,.any,.any,.any,.any,.any,.any,.any,.any,.any,.any,.any,.any,.any,.any,.any,.any,.any,.any,.any,.any,.any,.any,.any,.any,.any,.any,.any,.any,.any,.any,.any,.any]
theorem xMp (s0 s1 s2 s3 s4 s5 s6 s7 s8 s9 s10 s11 s12 s13 s14 s15 s16 s17 s18 s19 s20 s21 s22 s23 s24 s25 s26 s27 s28 s29 s30 s31 s32 s33 s34 s35 s36 s37 s38 s39 s40 s41 s42 s43 s44 s45 s46 s47 s48 s49 s50 s51 s52 s53 s54 s55 s56 s57 s58 s59 s60 s61 s62 s63 s64 s65 s66 : AV) : xAG xJa [s0,s1,s2,s3,s4,s5,s6,s7,s8,s9,s10,s11,s12,s13,s14,s15,s16,s17,s18,s19,s20,s21,s22,s23,s24,s25,s26,s27,s28,s29,s30,s31,s32,s33,s34,s35,s36,s37,s38,s39,s40,s41,s42,s43,s44,s45,s46,s47,s48,s49,s50,s51,s52,s53,s54,s55,s56,s57,s58,s59,s60,s61,s62,s63,s64,s65,s66] = xJb s0 s3 s4 s5 := by kernel_rfl
theorem xSQ {prog : Nat → Option AFunc} (s0 s3 s4 s5 : AV) (H : Heap) : (lim prog).loop xJa xSP ⟨xJb s0 s3 s4 s5,H⟩ = xBG (lim prog) xJa xSP (run (lim prog) xMo ⟨xJb s0 s3 s4 s5,H⟩) := xAo _ _ _ _ (by kernel_rfl)
def a83 : AFunc := ⟨67,
 .seq (.region [⟨some 2,.mov (.c (.sl true 0 [])),none⟩])
 (.seq (.region [⟨some 7,.mov (.t 0),none⟩,
 ⟨some 8,.len (.t 7),none⟩,
 ⟨some 9,.bin .add (.t 8) (.c (.int .i64 1)),none⟩,
 ⟨some 10,.mkslice false [.int .i64 0] 8 (.t 9) (.t 9),none⟩,
 ⟨some 3,.mov (.t 10),none⟩])
 (.seq (.region [⟨some 4,.mov (.c (.int .i64 0)),none⟩])
 (.seq (.seq (.region [⟨some 5,.mov (.c (.int .i64 1)),none⟩])
 (.block 0 (.loop xJa xSP)))
 (.seq (.seq (.region [⟨some 50,.mov (.t 0),none⟩,
 ⟨some 51,.len (.t 50),none⟩,
 ⟨some 52,.mov (.t 3),none⟩,
 ⟨some 53,.mov (.t 0),none⟩,
 ⟨some 54,.len (.t 53),none⟩,
 ⟨some 55,.iaddr 1 (.t 52) (.t 54),none⟩,
 ⟨some 56,.load false 1 (.t 55),none⟩,
 ⟨some 57,.bin .sub (.t 51) (.t 56),none⟩,
 ⟨some 6,.mov (.t 57),none⟩])
 (.seq (.region [⟨some 58,.mov (.t 0),none⟩,
 ⟨some 59,.len (.t 58),none⟩,
 ⟨some 60,.mov (.t 6),none⟩,
 ⟨some 61,.bin .rem (.t 59) (.t 60),none⟩,
 ⟨some 62,.bin .eql (.t 61) (.c (.int .i64 0)),none⟩])
 (.cond (.t 62)
 (.seq (.region [⟨some 63,.mov (.t 0),none⟩,
 ⟨some 64,.mov (.t 6),none⟩,
 ⟨some 65,.slice 1 (.t 63) none (some (.t 64)) none,none⟩,
 ⟨some 2,.mov (.t 65),none⟩])
 (.ret))
 (.skip))))
 (.seq (.region [⟨some 66,.mov (.t 0),none⟩,
 ⟨some 2,.mov (.t 66),none⟩])
 (.ret)))))),
 [.tmp 2]⟩
def xJc : ACode :=
 .seq (.region [⟨some 9,.bin .lss (.t 8) (.t 7),none⟩])
 (.seq (.cond (.t 9)
 (.skip)
 (.exit 0))
 (.seq (.block 1 (.seq (.region [⟨some 10,.mov (.t 8),none⟩,
 ⟨some 5,.mov (.t 10),none⟩])
 (.seq (.region [⟨some 11,.mov (.t 1),none⟩,
 ⟨some 12,.mov (.t 0),none⟩,
 ⟨some 13,.mov (.t 5),none⟩,
 ⟨some 14,.iaddr 1 (.t 12) (.t 13),none⟩,
 ⟨some 15,.load false 1 (.t 14),none⟩,
 ⟨some 16,.icall (.t 11) [(.t 15)],none⟩])
 (.cond (.t 16)
 (.seq (.region [⟨some 17,.mov (.t 5),none⟩,
 ⟨some 4,.mov (.t 17),none⟩])
 (.ret))
 (.skip)))))
 (.region [⟨some 18,.bin .add (.t 8) (.c (.int .i64 1)),none⟩,
 ⟨some 8,.mov (.t 18),none⟩])))
def xVX : ACode := xJc
def xMq : List Nat := [2,3,5,6,9,10,11,12,13,14,15,16,17,18]
abbrev xJd (s0 s1 s4 s7 s8 : AV) : List AV := [s0,s1,.any,.any,s4,.any,.any,s7,s8,.any,.any,.any,.any,.any,.any,.any,.any,.any,.any]
theorem xJe (s0 s1 s2 s3 s4 s5 s6 s7 s8 s9 s10 s11 s12 s13 s14 s15 s16 s17 s18 : AV) : xAG xMq [s0,s1,s2,s3,s4,s5,s6,s7,s8,s9,s10,s11,s12,s13,s14,s15,s16,s17,s18] = xJd s0 s1 s4 s7 s8 := by kernel_rfl
theorem xSR {prog : Nat → Option AFunc} (s0 s1 s4 s7 s8 : AV) (H : Heap) : (lim prog).loop xMq xVX ⟨xJd s0 s1 s4 s7 s8,H⟩ = xBG (lim prog) xMq xVX (run (lim prog) xJc ⟨xJd s0 s1 s4 s7 s8,H⟩) := xAo _ _ _ _ (by kernel_rfl)
def a85 : AFunc := ⟨19,
 .seq (.region [⟨some 4,.mov (.c (.int .i64 0)),none⟩])
 (.seq (.seq (.region [⟨some 6,.mov (.t 0),none⟩,
 ⟨some 7,.len (.t 6),none⟩,
 ⟨some 8,.mov (.c (.int .i64 0)),none⟩])
 (.block 0 (.loop xMq xVX)))
 (.seq (.region [⟨some 4,.mov (.c (.int .i64 (-1))),none⟩])
 (.ret))),
 [.tmp 4]⟩
def a90 : AFunc := ⟨9,
 .seq (.region [⟨some 4,.mov (.c (.bool false)),none⟩])
 (.seq (.region [⟨some 5,.mov (.t 0),none⟩,
 ⟨some 6,.mov (.t 1),none⟩,
 ⟨some 7,.icall (.c (.func 99 [])) [(.t 5),(.t 6)],none⟩,
 ⟨some 8,.bin .geq (.t 7) (.c (.int .i64 0)),none⟩,
 ⟨some 4,.mov (.t 8),none⟩])
 (.ret)),
 [.tmp 4]⟩
def a91 : AFunc := ⟨11,
 .seq (.region [⟨some 3,.mov (.c (.bool false)),none⟩])
 (.seq (.region [⟨some 4,.mov (.t 0),none⟩,
 ⟨some 5,.bin .lss (.t 4) (.c (.int .i64 0)),none⟩,
 ⟨some 6,.mov (.t 5),none⟩,
 ⟨some 7,.mov (.t 0),some (6,false)⟩,
 ⟨some 8,.load false 1 (.t 1),some (6,false)⟩,
 ⟨some 9,.bin .geq (.t 7) (.t 8),some (6,false)⟩,
 ⟨some 10,.pick (.t 6) (.c (.bool true)) (.t 9),none⟩,
 ⟨some 3,.mov (.t 10),none⟩])
 (.ret)),
 [.tmp 3]⟩
def a92 : AFunc := ⟨54,
 .seq (.region [⟨some 3,.box (.t 1),none⟩,
 ⟨some 4,.mov (.c (.int .i64 0)),none⟩,
 ⟨some 5,.mov (.c (.bool false)),none⟩])
 (.seq (.seq (.region [⟨some 8,.mov (.t 0),none⟩,
 ⟨some 9,.nilchk (.t 8),none⟩,
 ⟨some 10,.faddr 0 (.t 9),none⟩,
 ⟨some 11,.load false 1 (.t 10),none⟩,
 ⟨some 12,.mnil false (.t 11),none⟩])
 (.cond (.t 12)
 (.region [⟨some 13,.mov (.t 0),none⟩,
 ⟨some 14,.mkmap,none⟩,
 ⟨some 15,.nilchk (.t 13),none⟩,
 ⟨some 16,.faddr 0 (.t 15),none⟩,
 ⟨none,.store 1 (.t 16) (.t 14),none⟩])
 (.skip)))
 (.seq (.draw 9 [⟨some 18,.mov (.t 0),none⟩,
 ⟨some 19,.nilchk (.t 18),none⟩,
 ⟨some 20,.faddr 0 (.t 19),none⟩,
 ⟨some 21,.load false 1 (.t 20),none⟩,
 ⟨some 22,.load true 2 (.t 3),none⟩,
 ⟨some 23,.mlook [2,1,1] true (.int .i64 0) (.t 21) (.t 22),none⟩,
 ⟨some 17,.mov (.t 23),none⟩,
 ⟨some 24,.ext 0 (.t 17),none⟩,
 ⟨some 25,.ext 1 (.t 17),none⟩,
 ⟨some 6,.mov (.t 24),none⟩,
 ⟨some 7,.mov (.t 25),none⟩])
 (.seq (.seq (.region [⟨some 26,.mov (.t 7),none⟩,
 ⟨some 27,.un .not (.t 26),none⟩])
 (.cond (.t 27)
 (.seq (.region [⟨some 28,.mov (.t 0),none⟩,
 ⟨some 29,.nilchk (.t 28),none⟩,
 ⟨some 30,.faddr 1 (.t 29),none⟩,
 ⟨some 31,.load false 1 (.t 30),none⟩,
 ⟨some 32,.len (.t 31),none⟩,
 ⟨some 6,.mov (.t 32),none⟩])
 (.drawl [(35,(1,(43,0))),(3,(2,(43,0)))] 11 [⟨some 33,.mov (.t 0),none⟩,
 ⟨some 34,.nilchk (.t 33),none⟩,
 ⟨some 35,.faddr 0 (.t 34),none⟩,
 ⟨some 36,.load false 1 (.t 35),none⟩,
 ⟨some 37,.load true 2 (.t 3),none⟩,
 ⟨some 38,.mov (.t 0),none⟩,
 ⟨some 39,.mov (.t 6),none⟩,
 ⟨some 40,.mov (.t 0),none⟩,
 ⟨some 41,.nilchk (.t 40),none⟩,
 ⟨some 42,.faddr 1 (.t 41),none⟩,
 ⟨some 43,.load false 1 (.t 42),none⟩,
 ⟨some 44,.load true 2 (.t 3),none⟩,
 ⟨some 45,.bslice true [.str ⟨#[]⟩,.str ⟨#[]⟩] 2 1 [(0,(.t 44))],none⟩,
 ⟨some 46,.append false 2 32 (.t 43) (.t 45),none⟩,
 ⟨some 47,.ment [2,1,1] (.int .i64 0) (.t 36) (.t 37),none⟩,
 ⟨some 48,.ext 1 (.t 47),none⟩,
 ⟨none,.mstore (.t 36) (.t 48) (.t 39),none⟩,
 ⟨some 49,.nilchk (.t 38),none⟩,
 ⟨some 50,.faddr 1 (.t 49),none⟩,
 ⟨none,.store 1 (.t 50) (.t 46),none⟩]))
 (.skip)))
 (.seq (.region [⟨some 51,.mov (.t 6),none⟩,
 ⟨some 52,.mov (.t 7),none⟩,
 ⟨some 53,.un .not (.t 52),none⟩,
 ⟨some 4,.mov (.t 51),none⟩,
 ⟨some 5,.mov (.t 53),none⟩])
 (.ret))))),
 [.tmp 4,.tmp 5]⟩
def xZ7 : ACode :=
 .seq (.seq (.region [⟨some 4,.mov (.t 3),none⟩,
 ⟨some 5,.load false 1 (.t 1),none⟩,
 ⟨some 6,.nilchk (.t 5),none⟩,
 ⟨some 7,.faddr 1 (.t 6),none⟩,
 ⟨some 8,.load false 1 (.t 7),none⟩,
 ⟨some 9,.len (.t 8),none⟩,
 ⟨some 10,.bin .lss (.t 4) (.t 9),none⟩])
 (.cond (.t 10)
 (.skip)
 (.exit 0)))
 (.seq (.block 1 (.seq (.region [⟨some 13,.mov (.t 0),none⟩,
 ⟨some 14,.mov (.t 3),none⟩,
 ⟨some 15,.load false 1 (.t 1),none⟩,
 ⟨some 16,.nilchk (.t 15),none⟩,
 ⟨some 17,.faddr 1 (.t 16),none⟩,
 ⟨some 18,.load false 1 (.t 17),none⟩,
 ⟨some 19,.mov (.t 3),none⟩,
 ⟨some 20,.iaddr 1 (.t 18) (.t 19),none⟩,
 ⟨some 21,.load false 1 (.t 20),none⟩,
 ⟨some 22,.icall (.t 13) [(.t 14),(.t 21)],none⟩,
 ⟨some 23,.un .not (.t 22),none⟩])
 (.cond (.t 23)
 (.ret)
 (.skip))))
 (.region [⟨some 11,.mov (.t 3),none⟩,
 ⟨some 12,.bin .add (.t 11) (.c (.int .i64 1)),none⟩,
 ⟨some 3,.mov (.t 12),none⟩]))
def yBq : ACode := xZ7
def xZ8 : List Nat := [2,4,5,6,7,8,9,10,11,12,13,14,15,16,17,18,19,20,21,22,23]
def a94 : AFunc := ⟨24,
 .seq (.region [⟨some 3,.mov (.c (.int .i64 0)),none⟩])
 (.block 0 (.loop xZ8 yBq)),
 []⟩
def xZ9 : ACode :=
 .seq (.seq (.region [⟨some 4,.mov (.t 3),none⟩,
 ⟨some 5,.load false 1 (.t 1),none⟩,
 ⟨some 6,.nilchk (.t 5),none⟩,
 ⟨some 7,.faddr 1 (.t 6),none⟩,
 ⟨some 8,.load false 1 (.t 7),none⟩,
 ⟨some 9,.len (.t 8),none⟩,
 ⟨some 10,.bin .lss (.t 4) (.t 9),none⟩])
 (.cond (.t 10)
 (.skip)
 (.exit 0)))
 (.seq (.block 1 (.seq (.region [⟨some 13,.mov (.t 0),none⟩,
 ⟨some 14,.mov (.t 3),none⟩,
 ⟨some 15,.load false 1 (.t 1),none⟩,
 ⟨some 16,.nilchk (.t 15),none⟩,
 ⟨some 17,.faddr 1 (.t 16),none⟩,
 ⟨some 18,.load false 1 (.t 17),none⟩,
 ⟨some 19,.mov (.t 3),none⟩,
 ⟨some 20,.iaddr 2 (.t 18) (.t 19),none⟩,
 ⟨some 21,.load true 2 (.t 20),none⟩,
 ⟨some 22,.icall (.t 13) [(.t 14),(.t 21)],none⟩,
 ⟨some 23,.un .not (.t 22),none⟩])
 (.cond (.t 23)
 (.ret)
 (.skip))))
 (.region [⟨some 11,.mov (.t 3),none⟩,
 ⟨some 12,.bin .add (.t 11) (.c (.int .i64 1)),none⟩,
 ⟨some 3,.mov (.t 12),none⟩]))
def yBr : ACode := xZ9
def yAa : List Nat := [2,4,5,6,7,8,9,10,11,12,13,14,15,16,17,18,19,20,21,22,23]
def a95 : AFunc := ⟨24,
 .seq (.region [⟨some 3,.mov (.c (.int .i64 0)),none⟩])
 (.block 0 (.loop yAa yBr)),
 []⟩
def a96 : AFunc := ⟨27,
 .seq (.region [⟨some 4,.mov (.c (.sl true 0 [])),none⟩])
 (.seq (.seq (.region [⟨some 5,.mov (.t 1),none⟩,
 ⟨some 6,.bin .lss (.t 5) (.c (.int .i64 0)),none⟩])
 (.cond (.t 6)
 (.stuck)
 (.skip)))
 (.seq (.seq (.region [⟨some 8,.mov (.t 1),none⟩,
 ⟨some 9,.mov (.t 0),none⟩,
 ⟨some 10,.cap (.t 9),none⟩,
 ⟨some 11,.mov (.t 0),none⟩,
 ⟨some 12,.len (.t 11),none⟩,
 ⟨some 13,.bin .sub (.t 10) (.t 12),none⟩,
 ⟨some 14,.bin .sub (.t 8) (.t 13),none⟩,
 ⟨some 1,.mov (.t 14),none⟩])
 (.seq (.region [⟨some 15,.mov (.t 1),none⟩,
 ⟨some 16,.bin .gtr (.t 15) (.c (.int .i64 0)),none⟩])
 (.cond (.t 16)
 (.region [⟨some 17,.mov (.t 0),none⟩,
 ⟨some 18,.mov (.t 0),none⟩,
 ⟨some 19,.cap (.t 18),none⟩,
 ⟨some 20,.slice 1 (.t 17) none (some (.t 19)) none,none⟩,
 ⟨some 21,.mov (.t 1),none⟩,
 ⟨some 22,.appendz [.int .u8 0] 1 (.t 20) (.t 21),none⟩,
 ⟨some 23,.mov (.t 0),none⟩,
 ⟨some 24,.len (.t 23),none⟩,
 ⟨some 25,.slice 1 (.t 22) none (some (.t 24)) none,none⟩,
 ⟨some 0,.mov (.t 25),none⟩])
 (.skip))))
 (.seq (.region [⟨some 26,.mov (.t 0),none⟩,
 ⟨some 4,.mov (.t 26),none⟩])
 (.ret)))),
 [.tmp 4]⟩
def a97 : AFunc := ⟨20,
 .seq (.region [⟨some 4,.mov (.c (.int .i64 0)),none⟩])
 (.seq (.region [⟨some 7,.mov (.t 0),none⟩,
 ⟨some 8,.call 103 [(.t 7)],none⟩,
 ⟨some 5,.mov (.t 8),none⟩])
 (.seq (.region [⟨some 9,.mov (.t 1),none⟩,
 ⟨some 10,.call 103 [(.t 9)],none⟩,
 ⟨some 6,.mov (.t 10),none⟩])
 (.seq (.seq (.region [⟨some 11,.mov (.t 5),none⟩])
 (.cond (.t 11)
 (.seq (.seq (.region [⟨some 12,.mov (.t 6),none⟩])
 (.cond (.t 12)
 (.seq (.region [⟨some 4,.mov (.c (.int .i64 0)),none⟩])
 (.ret))
 (.skip)))
 (.seq (.region [⟨some 4,.mov (.c (.int .i64 (-1))),none⟩])
 (.ret)))
 (.skip)))
 (.seq (.seq (.region [⟨some 13,.mov (.t 6),none⟩])
 (.cond (.t 13)
 (.seq (.region [⟨some 4,.mov (.c (.int .i64 1)),none⟩])
 (.ret))
 (.skip)))
 (.seq (.seq (.region [⟨some 14,.mov (.t 0),none⟩,
 ⟨some 15,.mov (.t 1),none⟩,
 ⟨some 16,.bin .lss (.t 14) (.t 15),none⟩])
 (.cond (.t 16)
 (.seq (.region [⟨some 4,.mov (.c (.int .i64 (-1))),none⟩])
 (.ret))
 (.skip)))
 (.seq (.seq (.region [⟨some 17,.mov (.t 0),none⟩,
 ⟨some 18,.mov (.t 1),none⟩,
 ⟨some 19,.bin .gtr (.t 17) (.t 18),none⟩])
 (.cond (.t 19)
 (.seq (.region [⟨some 4,.mov (.c (.int .i64 1)),none⟩])
 (.ret))
 (.skip)))
 (.seq (.region [⟨some 4,.mov (.c (.int .i64 0)),none⟩])
 (.ret)))))))),
 [.tmp 4]⟩
def xMr : ACode :=
 .seq (.region [⟨some 8,.bin .lss (.t 7) (.t 6),none⟩])
 (.seq (.cond (.t 8)
 (.skip)
 (.exit 0))
 (.seq (.block 1 (.seq (.region [⟨some 9,.mov (.t 7),none⟩,
 ⟨some 4,.mov (.t 9),none⟩])
 (.seq (.region [⟨some 10,.mov (.t 0),none⟩,
 ⟨some 11,.mov (.t 4),none⟩,
 ⟨some 12,.load true 2 (.t 2),none⟩,
 ⟨some 13,.mov (.t 4),none⟩,
 ⟨some 14,.call 47 [(.t 12),(.t 13)],none⟩,
 ⟨some 15,.icall (.t 10) [(.t 11),(.t 14)],none⟩,
 ⟨some 16,.un .not (.t 15),none⟩])
 (.cond (.t 16)
 (.ret)
 (.skip)))))
 (.region [⟨some 17,.bin .add (.t 7) (.c (.int .i64 1)),none⟩,
 ⟨some 7,.mov (.t 17),none⟩])))
def xSS : ACode := xMr
def xJf : List Nat := [1,3,4,5,8,9,10,11,12,13,14,15,16,17]
abbrev xJg (s0 s2 s6 s7 : AV) : List AV := [s0,.any,s2,.any,.any,.any,s6,s7,.any,.any,.any,.any,.any,.any,.any,.any,.any,.any]
theorem xMs (s0 s1 s2 s3 s4 s5 s6 s7 s8 s9 s10 s11 s12 s13 s14 s15 s16 s17 : AV) : xAG xJf [s0,s1,s2,s3,s4,s5,s6,s7,s8,s9,s10,s11,s12,s13,s14,s15,s16,s17] = xJg s0 s2 s6 s7 := by kernel_rfl
theorem xST {prog : Nat → Option AFunc} (s0 s2 s6 s7 : AV) (H : Heap) : (lim prog).loop xJf xSS ⟨xJg s0 s2 s6 s7,H⟩ = xBG (lim prog) xJf xSS (run (lim prog) xMr ⟨xJg s0 s2 s6 s7,H⟩) := xAo _ _ _ _ (by kernel_rfl)
def a98 : AFunc := ⟨18,
 .seq (.region [⟨some 5,.load false 1 (.t 1),none⟩,
 ⟨some 6,.maxi (.t 5) (.c (.int .i64 0)),none⟩,
 ⟨some 7,.mov (.c (.int .i64 0)),none⟩])
 (.block 0 (.loop xJf xSS)),
 []⟩
def xJh : ACode :=
 .seq (.region [⟨some 9,.bin .lss (.t 8) (.t 7),none⟩])
 (.seq (.cond (.t 9)
 (.skip)
 (.exit 0))
 (.seq (.block 1 (.seq (.region [⟨some 10,.mov (.t 8),none⟩,
 ⟨some 5,.mov (.t 10),none⟩])
 (.seq (.region [⟨some 11,.mov (.t 1),none⟩,
 ⟨some 12,.mov (.t 0),none⟩,
 ⟨some 13,.mov (.t 5),none⟩,
 ⟨some 14,.iaddr 1 (.t 12) (.t 13),none⟩,
 ⟨some 15,.load false 1 (.t 14),none⟩,
 ⟨some 16,.icall (.t 11) [(.t 15)],none⟩])
 (.cond (.t 16)
 (.seq (.region [⟨some 17,.mov (.t 5),none⟩,
 ⟨some 4,.mov (.t 17),none⟩])
 (.ret))
 (.skip)))))
 (.region [⟨some 18,.bin .add (.t 8) (.c (.int .i64 1)),none⟩,
 ⟨some 8,.mov (.t 18),none⟩])))
def xVY : ACode := xJh
def xMt : List Nat := [2,3,5,6,9,10,11,12,13,14,15,16,17,18]
abbrev xJi (s0 s1 s4 s7 s8 : AV) : List AV := [s0,s1,.any,.any,s4,.any,.any,s7,s8,.any,.any,.any,.any,.any,.any,.any,.any,.any,.any]
theorem xJj (s0 s1 s2 s3 s4 s5 s6 s7 s8 s9 s10 s11 s12 s13 s14 s15 s16 s17 s18 : AV) : xAG xMt [s0,s1,s2,s3,s4,s5,s6,s7,s8,s9,s10,s11,s12,s13,s14,s15,s16,s17,s18] = xJi s0 s1 s4 s7 s8 := by kernel_rfl
theorem xSU {prog : Nat → Option AFunc} (s0 s1 s4 s7 s8 : AV) (H : Heap) : (lim prog).loop xMt xVY ⟨xJi s0 s1 s4 s7 s8,H⟩ = xBG (lim prog) xMt xVY (run (lim prog) xJh ⟨xJi s0 s1 s4 s7 s8,H⟩) := xAo _ _ _ _ (by kernel_rfl)
def a99 : AFunc := ⟨19,
 .seq (.region [⟨some 4,.mov (.c (.int .i64 0)),none⟩])
 (.seq (.seq (.region [⟨some 6,.mov (.t 0),none⟩,
 ⟨some 7,.len (.t 6),none⟩,
 ⟨some 8,.mov (.c (.int .i64 0)),none⟩])
 (.block 0 (.loop xMt xVY)))
 (.seq (.region [⟨some 4,.mov (.c (.int .i64 (-1))),none⟩])
 (.ret))),
 [.tmp 4]⟩
def yBs : AFunc := ⟨6,
 .seq (.region [⟨some 2,.mov (.c (.bool false)),none⟩])
 (.seq (.region [⟨some 3,.mov (.t 0),none⟩,
 ⟨some 4,.mov (.t 0),none⟩,
 ⟨some 5,.bin .neq (.t 3) (.t 4),none⟩,
 ⟨some 2,.mov (.t 5),none⟩])
 (.ret)),
 [.tmp 2]⟩
def xAx : Nat → Option AFunc
 | 9 => some a9
 | 10 => some a10
 | 11 => some a11
 | 12 => some a12
 | 13 => some a13
 | 16 => some a16
 | 18 => some a18
 | 21 => some a21
 | 22 => some a22
 | 23 => some a23
 | 24 => some a24
 | 25 => some a25
 | 29 => some a29
 | 30 => some a30
 | 31 => some a31
 | 33 => some a33
 | 34 => some a34
 | 35 => some a35
 | 37 => some a37
 | 42 => some a42
 | 43 => some a43
 | 44 => some a44
 | 45 => some a45
 | 46 => some a46
 | 47 => some a47
 | 48 => some a48
 | 49 => some a49
 | 52 => some a52
 | 53 => some a53
 | 54 => some a54
 | 55 => some a55
 | 59 => some a59
 | 60 => some a60
 | 61 => some a61
 | 62 => some a62
 | 63 => some a63
 | 64 => some a64
 | 65 => some a65
 | 66 => some a66
 | 67 => some a67
 | 68 => some a68
 | 69 => some a69
 | 70 => some a70
 | 71 => some a71
 | 72 => some a72
 | 74 => some a74
 | 75 => some a75
 | 76 => some a76
 | 77 => some a77
 | 78 => some a78
 | 79 => some a79
 | 80 => some a80
 | 81 => some a81
 | 82 => some a82
 | 83 => some a83
 | 85 => some a85
 | 90 => some a90
 | 91 => some a91
 | 92 => some a92
 | 94 => some a94
 | 95 => some a95
 | 96 => some a96
 | 97 => some a97
 | 98 => some a98
 | 99 => some a99
 | 103 => some yBs
 | _ => none
theorem a9p (args : List AV) : (lim xAx).pcall 9 args = xAS (lim xAx) a9 args := xAn rfl args
theorem yCw (args : List AV) : (lim xAx).pcall 11 args = xAS (lim xAx) a11 args := xAn rfl args
theorem yCx (args : List AV) : (lim xAx).pcall 18 args = xAS (lim xAx) a18 args := xAn rfl args
theorem yCy (caps args : List AV) (H : Heap) : (lim xAx).icall (.func 18 caps) args H = xBE (lim xAx) a18 (args ++ caps) H := xAD rfl caps args H
theorem yCd (args : List AV) : (lim xAx).pcall 21 args = xAS (lim xAx) a21 args := xAn rfl args
theorem yBt (args : List AV) : (lim xAx).pcall 22 args = xAS (lim xAx) a22 args := xAn rfl args
theorem yCz (args : List AV) : (lim xAx).pcall 30 args = xAS (lim xAx) a30 args := xAn rfl args
theorem yA4 (args : List AV) : (lim xAx).pcall 31 args = xAS (lim xAx) a31 args := xAn rfl args
theorem yCe (args : List AV) : (lim xAx).pcall 33 args = xAS (lim xAx) a33 args := xAn rfl args
theorem yBu (args : List AV) : (lim xAx).pcall 34 args = xAS (lim xAx) a34 args := xAn rfl args
theorem yCA (args : List AV) : (lim xAx).pcall 44 args = xAS (lim xAx) a44 args := xAn rfl args
theorem yCB (args : List AV) : (lim xAx).pcall 45 args = xAS (lim xAx) a45 args := xAn rfl args
theorem yCC (args : List AV) : (lim xAx).pcall 46 args = xAS (lim xAx) a46 args := xAn rfl args
theorem yCD (args : List AV) : (lim xAx).pcall 47 args = xAS (lim xAx) a47 args := xAn rfl args
theorem yCf (args : List AV) : (lim xAx).pcall 49 args = xAS (lim xAx) a49 args := xAn rfl args
theorem yCg (caps args : List AV) (H : Heap) : (lim xAx).icall (.func 49 caps) args H = xBE (lim xAx) a49 (args ++ caps) H := xAD rfl caps args H
theorem yCE (caps args : List AV) (H : Heap) : (lim xAx).icall (.func 52 caps) args H = xBE (lim xAx) a52 (args ++ caps) H := xAD rfl caps args H
theorem yBv (caps args : List AV) (H : Heap) : (lim xAx).icall (.func 54 caps) args H = xBE (lim xAx) a54 (args ++ caps) H := xAD rfl caps args H
theorem yCF (args : List AV) : (lim xAx).pcall 55 args = xAS (lim xAx) a55 args := xAn rfl args
theorem yCG (args : List AV) : (lim xAx).pcall 59 args = xAS (lim xAx) a59 args := xAn rfl args
theorem yCH (args : List AV) : (lim xAx).pcall 60 args = xAS (lim xAx) a60 args := xAn rfl args
theorem yCI (args : List AV) : (lim xAx).pcall 61 args = xAS (lim xAx) a61 args := xAn rfl args
theorem yCJ (args : List AV) : (lim xAx).pcall 62 args = xAS (lim xAx) a62 args := xAn rfl args
theorem yCK (args : List AV) : (lim xAx).pcall 63 args = xAS (lim xAx) a63 args := xAn rfl args
theorem yCL (args : List AV) : (lim xAx).pcall 64 args = xAS (lim xAx) a64 args := xAn rfl args
theorem yBw (caps args : List AV) (H : Heap) : (lim xAx).icall (.func 68 caps) args H = xBE (lim xAx) a68 (args ++ caps) H := xAD rfl caps args H
theorem yCh (caps args : List AV) (H : Heap) : (lim xAx).icall (.func 72 caps) args H = xBE (lim xAx) a72 (args ++ caps) H := xAD rfl caps args H
theorem yCM (caps args : List AV) (H : Heap) : (lim xAx).icall (.func 76 caps) args H = xBE (lim xAx) a76 (args ++ caps) H := xAD rfl caps args H
theorem yCN (args : List AV) : (lim xAx).pcall 77 args = xAS (lim xAx) a77 args := xAn rfl args
theorem yCO (caps args : List AV) (H : Heap) : (lim xAx).icall (.func 78 caps) args H = xBE (lim xAx) a78 (args ++ caps) H := xAD rfl caps args H
theorem yCP (caps args : List AV) (H : Heap) : (lim xAx).icall (.func 79 caps) args H = xBE (lim xAx) a79 (args ++ caps) H := xAD rfl caps args H
theorem yCQ (caps args : List AV) (H : Heap) : (lim xAx).icall (.func 80 caps) args H = xBE (lim xAx) a80 (args ++ caps) H := xAD rfl caps args H
theorem yCi (args : List AV) : (lim xAx).pcall 81 args = xAS (lim xAx) a81 args := xAn rfl args
theorem yCR (caps args : List AV) (H : Heap) : (lim xAx).icall (.func 82 caps) args H = xBE (lim xAx) a82 (args ++ caps) H := xAD rfl caps args H
theorem yCj (args : List AV) : (lim xAx).pcall 83 args = xAS (lim xAx) a83 args := xAn rfl args
theorem yCk (caps args : List AV) (H : Heap) : (lim xAx).icall (.func 85 caps) args H = xBE (lim xAx) a85 (args ++ caps) H := xAD rfl caps args H
theorem yCS (caps args : List AV) (H : Heap) : (lim xAx).icall (.func 90 caps) args H = xBE (lim xAx) a90 (args ++ caps) H := xAD rfl caps args H
theorem yCT (caps args : List AV) (H : Heap) : (lim xAx).icall (.func 91 caps) args H = xBE (lim xAx) a91 (args ++ caps) H := xAD rfl caps args H
theorem yCU (caps args : List AV) (H : Heap) : (lim xAx).icall (.func 96 caps) args H = xBE (lim xAx) a96 (args ++ caps) H := xAD rfl caps args H
theorem yCV (args : List AV) : (lim xAx).pcall 97 args = xAS (lim xAx) a97 args := xAn rfl args
theorem yCW (caps args : List AV) (H : Heap) : (lim xAx).icall (.func 98 caps) args H = xBE (lim xAx) a98 (args ++ caps) H := xAD rfl caps args H
theorem yCl (caps args : List AV) (H : Heap) : (lim xAx).icall (.func 99 caps) args H = xBE (lim xAx) a99 (args ++ caps) H := xAD rfl caps args H
theorem yBx (args : List AV) : (lim xAx).pcall 103 args = xAS (lim xAx) yBs args := xAn rfl args
end Go.Abs.Mealy
