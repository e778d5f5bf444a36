/- The functions in the interpreter's words. -/
import Derived.Test.YtkpbekcgigigkaaDoorAbsEnc
import Derived.Test.YtkpbekcgigigkaaDoorProg
namespace Go.Abs.Mealy
open Go Go.Abs
def xOS : ACode :=
 .seq (.seq (.region [⟨some 98,.mov (.t 13),none⟩,
 ⟨some 99,.mov (.t 7),none⟩,
 ⟨some 100,.len (.t 99),none⟩,
 ⟨some 101,.bin .lss (.t 98) (.t 100),none⟩])
 (.cond (.t 101)
 (.skip)
 (.exit 0)))
 (.seq (.block 1 (.seq (.draw 75 [⟨some 104,.mov (.t 9),none⟩,
 ⟨some 105,.mov (.t 13),none⟩,
 ⟨some 106,.iaddr 1 (.t 104) (.t 105),none⟩,
 ⟨some 107,.load false 1 (.t 106),none⟩,
 ⟨some 108,.bin .lss (.t 107) (.c (.int .i64 0)),none⟩,
 ⟨some 109,.mov (.t 108),none⟩,
 ⟨some 110,.mov (.t 9),some (109,false)⟩,
 ⟨some 111,.mov (.t 13),some (109,false)⟩,
 ⟨some 112,.iaddr 1 (.t 110) (.t 111),some (109,false)⟩,
 ⟨some 113,.load false 1 (.t 112),some (109,false)⟩,
 ⟨some 114,.faddr 3 (.t 3),some (109,false)⟩,
 ⟨some 115,.load false 1 (.t 114),some (109,false)⟩,
 ⟨some 116,.len (.t 115),some (109,false)⟩,
 ⟨some 117,.bin .geq (.t 113) (.t 116),some (109,false)⟩,
 ⟨some 118,.pick (.t 109) (.c (.bool true)) (.t 117),none⟩,
 ⟨some 119,.mov (.t 118),none⟩,
 ⟨some 120,.mov (.t 8),some (119,false)⟩,
 ⟨some 121,.mov (.t 13),some (119,false)⟩,
 ⟨some 122,.iaddr 1 (.t 120) (.t 121),some (119,false)⟩,
 ⟨some 123,.load false 1 (.t 122),some (119,false)⟩,
 ⟨some 124,.faddr 4 (.t 3),some (119,false)⟩,
 ⟨some 125,.load false 1 (.t 124),some (119,false)⟩,
 ⟨some 126,.mov (.t 9),some (119,false)⟩,
 ⟨some 127,.mov (.t 13),some (119,false)⟩,
 ⟨some 128,.iaddr 1 (.t 126) (.t 127),some (119,false)⟩,
 ⟨some 129,.load false 1 (.t 128),some (119,false)⟩,
 ⟨some 130,.iaddr 1 (.t 125) (.t 129),some (119,false)⟩,
 ⟨some 131,.load false 1 (.t 130),some (119,false)⟩,
 ⟨some 132,.mov (.t 7),some (119,false)⟩,
 ⟨some 133,.mov (.t 13),some (119,false)⟩,
 ⟨some 134,.iaddr 1 (.t 132) (.t 133),some (119,false)⟩,
 ⟨some 135,.load false 1 (.t 134),some (119,false)⟩,
 ⟨some 136,.iaddr 1 (.t 131) (.t 135),some (119,false)⟩,
 ⟨some 137,.load false 1 (.t 136),some (119,false)⟩,
 ⟨some 138,.bin .neq (.t 123) (.t 137),some (119,false)⟩,
 ⟨some 139,.pick (.t 119) (.c (.bool true)) (.t 138),none⟩,
 ⟨some 140,.mov (.t 139),none⟩,
 ⟨some 141,.mov (.t 9),some (140,false)⟩,
 ⟨some 142,.mov (.t 13),some (140,false)⟩,
 ⟨some 143,.bin .add (.t 142) (.c (.int .i64 1)),some (140,false)⟩,
 ⟨some 144,.iaddr 1 (.t 141) (.t 143),some (140,false)⟩,
 ⟨some 145,.load false 1 (.t 144),some (140,false)⟩,
 ⟨some 146,.faddr 3 (.t 3),some (140,false)⟩,
 ⟨some 147,.load false 1 (.t 146),some (140,false)⟩,
 ⟨some 148,.mov (.t 9),some (140,false)⟩,
 ⟨some 149,.mov (.t 13),some (140,false)⟩,
 ⟨some 150,.iaddr 1 (.t 148) (.t 149),some (140,false)⟩,
 ⟨some 151,.load false 1 (.t 150),some (140,false)⟩,
 ⟨some 152,.iaddr 1 (.t 147) (.t 151),some (140,false)⟩,
 ⟨some 153,.load false 1 (.t 152),some (140,false)⟩,
 ⟨some 154,.mov (.t 7),some (140,false)⟩,
 ⟨some 155,.mov (.t 13),some (140,false)⟩,
 ⟨some 156,.iaddr 1 (.t 154) (.t 155),some (140,false)⟩,
 ⟨some 157,.load false 1 (.t 156),some (140,false)⟩,
 ⟨some 158,.iaddr 1 (.t 153) (.t 157),some (140,false)⟩,
 ⟨some 159,.load false 1 (.t 158),some (140,false)⟩,
 ⟨some 160,.bin .neq (.t 145) (.t 159),some (140,false)⟩,
 ⟨some 161,.pick (.t 140) (.c (.bool true)) (.t 160),none⟩,
 ⟨some 162,.mov (.t 161),none⟩,
 ⟨some 163,.load true 2 (.t 11),some (162,false)⟩,
 ⟨some 164,.mov (.t 13),some (162,false)⟩,
 ⟨some 165,.call 47 [(.t 163),(.t 164)],some (162,false)⟩,
 ⟨some 166,.mov (.t 7),some (162,false)⟩,
 ⟨some 167,.mov (.t 13),some (162,false)⟩,
 ⟨some 168,.iaddr 1 (.t 166) (.t 167),some (162,false)⟩,
 ⟨some 169,.load false 1 (.t 168),some (162,false)⟩,
 ⟨some 170,.mov (.t 8),some (162,false)⟩,
 ⟨some 171,.mov (.t 13),some (162,false)⟩,
 ⟨some 172,.iaddr 1 (.t 170) (.t 171),some (162,false)⟩,
 ⟨some 173,.load false 1 (.t 172),some (162,false)⟩,
 ⟨some 174,.faddr 0 (.t 3),some (162,false)⟩,
 ⟨some 175,.load false 1 (.t 174),some (162,false)⟩,
 ⟨some 176,.conv .u64 (.t 175),some (162,false)⟩,
 ⟨some 177,.bin .shl (.t 173) (.t 176),some (162,false)⟩,
 ⟨some 178,.bin .add (.t 169) (.t 177),some (162,false)⟩,
 ⟨some 179,.bin .neq (.t 165) (.t 178),some (162,false)⟩,
 ⟨some 180,.pick (.t 162) (.c (.bool true)) (.t 179),none⟩])
 (.cond (.t 180)
 (.seq (.region [⟨some 6,.mov (.c (.bool false)),none⟩])
 (.ret))
 (.skip))))
 (.region [⟨some 102,.mov (.t 13),none⟩,
 ⟨some 103,.bin .add (.t 102) (.c (.int .i64 1)),none⟩,
 ⟨some 13,.mov (.t 103),none⟩]))
def xVj : ACode := xOS
def xLT : List Nat := [0,1,2,5,10,12,14,15,16,17,18,19,20,21,22,23,24,25,26,27,28,29,30,31,32,33,34,35,36,37,38,39,40,41,42,43,44,45,46,47,48,49,50,51,52,53,54,55,56,57,58,59,60,61,62,63,64,65,66,67,68,69,70,71,72,73,74,75,76,77,78,79,80,81,82,83,84,85,86,87,88,89,90,91,92,93,94,95,96,97,98,99,100,101,102,103,104,105,106,107,108,109,110,111,112,113,114,115,116,117,118,119,120,121,122,123,124,125,126,127,128,129,130,131,132,133,134,135,136,137,138,139,140,141,142,143,144,145,146,147,148,149,150,151,152,153,154,155,156,157,158,159,160,161,162,163,164,165,166,167,168,169,170,171,172,173,174,175,176,177,178,179,180,181,182,183,184,185,186,187,188,189,190,191,192,193,194,195,196,197,198,199,200,201,202,203,204,205,206,207,208,209,210,211,212,213,214,215,216,217,218,219,220]
abbrev xLU (s3 s4 s6 s7 s8 s9 s11 s13 : AV) : List AV := [.any,.any,.any,s3,s4,.any,s6,s7,s8,s9,.any,s11,.any,s13,.any,.any,.any,.any,.any,.any,.any,.any,.any,.any,.any,.any,.any,.any,.any,.any,.any,.any,.any,.any,.any,.any,.any,.any,.any,.any,.any,.any,.any,.any,.any,.any,.any,.any,.any,.any,.any,.any,.any,.any,.any,.any,.any,.any,.any,.any,.any,.any,.any,.any,.any,.any,.any,.any,.any,.any,.any,.any,.any,.any,.any,.any,.any,.any,.any,.any,.any,.any,.any,.any,.any,.any,.any,.any,.any,.any,.any,.any,.any,.any,.any,.any,.any,.any,.any,.any,.any,.any,.any,.any,.any,.any,.any,.any,.any,.any,.any,.any,.any,.any,.any,.any,.any,.any,.any,.any,.any,.any,.any,.any,.any,.any,.any,.any,.any,.any,.any,.any,.any,.any,.any,.any,.any,.any,.any,.any,.any,.any,.any,.any,.any,.any,.any,.any,.any,.any,.any,.any,.any,.any,.any,.any,.any,.any,.any,.any,.any,.any,.any,.any,.any,.any,.any,.any,.any,.any,.any,.any,.any,.any,.any,.any,.any,.any,.any,.any,.any,.any,.any,.any,.any,.any,.any,.any,.any,.any,.any,.any,.any,.any,.any,.any,.any,.any,.any,.any,.any,.any,.any,.any,.any,.any,.any,.any,.any,.any,.any,.any,.any,.any,.any,.any,.any,.any,.any,.any,.any]
theorem xR8 (s0 s1 s2 s3 s4 s5 s6 s7 s8 s9 s10 s11 s12 s13 s14 s15 s16 s17 s18 s19 s20 s21 s22 s23 s24 s25 s26 s27 s28 s29 s30 s31 s32 s33 s34 s35 s36 s37 s38 s39 s40 s41 s42 s43 s44 s45 s46 s47 s48 s49 s50 s51 s52 s53 s54 s55 s56 s57 s58 s59 s60 s61 s62 s63 s64 s65 s66 s67 s68 s69 s70 s71 s72 s73 s74 s75 s76 s77 s78 s79 s80 s81 s82 s83 s84 s85 s86 s87 s88 s89 s90 s91 s92 s93 s94 s95 s96 s97 s98 s99 s100 s101 s102 s103 s104 s105 s106 s107 s108 s109 s110 s111 s112 s113 s114 s115 s116 s117 s118 s119 s120 s121 s122 s123 s124 s125 s126 s127 s128 s129 s130 s131 s132 s133 s134 s135 s136 s137 s138 s139 s140 s141 s142 s143 s144 s145 s146 s147 s148 s149 s150 s151 s152 s153 s154 s155 s156 s157 s158 s159 s160 s161 s162 s163 s164 s165 s166 s167 s168 s169 s170 s171 s172 s173 s174 s175 s176 s177 s178 s179 s180 s181 s182 s183 s184 s185 s186 s187 s188 s189 s190 s191 s192 s193 s194 s195 s196 s197 s198 s199 s200 s201 s202 s203 s204 s205 s206 s207 s208 s209 s210 s211 s212 s213 s214 s215 s216 s217 s218 s219 s220 : AV) : xAL xLT [s0,s1,s2,s3,s4,s5,s6,s7,s8,s9,s10,s11,s12,s13,s14,s15,s16,s17,s18,s19,s20,s21,s22,s23,s24,s25,s26,s27,s28,s29,s30,s31,s32,s33,s34,s35,s36,s37,s38,s39,s40,s41,s42,s43,s44,s45,s46,s47,s48,s49,s50,s51,s52,s53,s54,s55,s56,s57,s58,s59,s60,s61,s62,s63,s64,s65,s66,s67,s68,s69,s70,s71,s72,s73,s74,s75,s76,s77,s78,s79,s80,s81,s82,s83,s84,s85,s86,s87,s88,s89,s90,s91,s92,s93,s94,s95,s96,s97,s98,s99,s100,s101,s102,s103,s104,s105,s106,s107,s108,s109,s110,s111,s112,s113,s114,s115,s116,s117,s118,s119,s120,s121,s122,s123,s124,s125,s126,s127,s128,s129,s130,s131,s132,s133,s134,s135,s136,s137,s138,s139,s140,s141,s142,s143,s144,s145,s146,s147,s148,s149,s150,s151,s152,s153,s154,s155,s156,s157,s158,s159,s160,s161,s162,s163,s164,s165,s166,s167,s168,s169,s170,s171,s172,s173,s174,s175,s176,s177,s178,s179,s180,s181,s182,s183,s184,s185,s186,s187,s188,s189,s190,s191,s192,s193,s194,s195,s196,s197,s198,s199,s200,s201,s202,s203,s204,s205,s206,s207,s208,s209,s210,s211,s212,s213,s214,s215,s216,s217,s218,s219,s220] = xLU s3 s4 s6 s7 s8 s9 s11 s13 := by kernel_rfl
theorem xWt {prog : Nat → Option AFunc} (s3 s4 s6 s7 s8 s9 s11 s13 : AV) (H : Heap) : (lim prog).loop xLT xVj ⟨xLU s3 s4 s6 s7 s8 s9 s11 s13,H⟩ = xBH (lim prog) xLT xVj (run (lim prog) xOS ⟨xLU s3 s4 s6 s7 s8 s9 s11 s13,H⟩) := xAo _ _ _ _ (by kernel_rfl)
def a10 : AFunc := ⟨221,
 .seq (.region [⟨some 3,.box (.t 0),none⟩,
 ⟨some 4,.box (.t 1),none⟩,
 ⟨some 6,.mov (.c (.bool false)),none⟩])
 (.seq (.seq (.region [⟨some 18,.load true 5 (.t 3),none⟩,
 ⟨some 19,.bslice true [.int .i64 0,.int .i64 0,.int .i64 0,.sl true 0 [],.sl true 0 []] 5 1 [(0,(.t 18))],none⟩,
 ⟨some 20,.call 11 [(.t 19)],none⟩,
 ⟨some 21,.mov (.t 20),none⟩,
 ⟨some 22,.load true 2 (.t 4),some (21,false)⟩,
 ⟨some 23,.bslice true [.sl true 0 [],.sl true 0 []] 2 1 [(0,(.t 22))],some (21,false)⟩,
 ⟨some 24,.call 12 [(.t 23)],some (21,false)⟩,
 ⟨some 25,.pick (.t 21) (.c (.bool true)) (.t 24),none⟩,
 ⟨some 26,.mov (.t 25),none⟩,
 ⟨some 27,.call 13 [],some (26,false)⟩,
 ⟨some 28,.un .not (.t 27),some (26,false)⟩,
 ⟨some 29,.pick (.t 26) (.c (.bool true)) (.t 28),none⟩])
 (.cond (.t 29)
 (.seq (.region [⟨some 30,.call 13 [],none⟩,
 ⟨some 6,.mov (.t 30),none⟩])
 (.ret))
 (.skip)))
 (.seq (.region [⟨some 31,.load true 2 (.t 4),none⟩,
 ⟨some 32,.mov (.t 2),none⟩,
 ⟨some 33,.bin .rem (.t 32) (.c (.int .u8 64)),none⟩,
 ⟨some 34,.conv .i64 (.t 33),none⟩,
 ⟨some 35,.call 48 [(.t 31),(.t 34)],none⟩,
 ⟨some 7,.mov (.t 35),none⟩])
 (.seq (.region [⟨some 37,.load true 5 (.t 3),none⟩,
 ⟨some 38,.mov (.t 7),none⟩,
 ⟨some 39,.call 16 [(.t 37),(.t 38)],none⟩,
 ⟨some 36,.mov (.t 39),none⟩,
 ⟨some 40,.ext 0 (.t 36),none⟩,
 ⟨some 41,.ext 1 (.t 36),none⟩,
 ⟨some 42,.ext 2 (.t 36),none⟩,
 ⟨some 8,.mov (.t 40),none⟩,
 ⟨some 9,.mov (.t 41),none⟩,
 ⟨some 10,.mov (.t 42),none⟩])
 (.seq (.region [⟨some 44,.load true 5 (.t 3),none⟩,
 ⟨some 45,.load true 2 (.t 4),none⟩,
 ⟨some 46,.call 18 [(.t 44),(.t 45)],none⟩,
 ⟨some 43,.mov (.t 46),none⟩,
 ⟨some 47,.ext 0 (.t 43),none⟩,
 ⟨some 48,.ext 1 (.t 43),none⟩,
 ⟨some 11,.box (.c (.agg [.sl true 0 [],.sl true 0 []])),none⟩,
 ⟨none,.store 2 (.t 11) (.t 47),none⟩,
 ⟨some 12,.mov (.t 48),none⟩])
 (.seq (.seq (.region [⟨some 49,.load true 5 (.t 3),none⟩,
 ⟨some 50,.call 21 [(.t 49)],none⟩,
 ⟨some 51,.bin .neq (.t 50) (.c (.int .i64 0)),none⟩,
 ⟨some 52,.mov (.t 51),none⟩,
 ⟨some 53,.mov (.t 12),some (52,false)⟩,
 ⟨some 54,.bin .neq (.t 53) (.c (.int .i64 0)),some (52,false)⟩,
 ⟨some 55,.pick (.t 52) (.c (.bool true)) (.t 54),none⟩])
 (.cond (.t 55)
 (.seq (.region [⟨some 56,.mov (.t 12),none⟩,
 ⟨some 57,.bin .neq (.t 56) (.c (.int .i64 0)),none⟩,
 ⟨some 6,.mov (.t 57),none⟩])
 (.ret))
 (.skip)))
 (.seq (.seq (.draw 23 [⟨some 58,.mov (.t 10),none⟩,
 ⟨some 59,.bin .neq (.t 58) (.c (.int .i64 0)),none⟩,
 ⟨some 60,.mov (.t 59),none⟩,
 ⟨some 61,.mov (.t 8),some (60,false)⟩,
 ⟨some 62,.len (.t 61),some (60,false)⟩,
 ⟨some 63,.mov (.t 7),some (60,false)⟩,
 ⟨some 64,.len (.t 63),some (60,false)⟩,
 ⟨some 65,.bin .neq (.t 62) (.t 64),some (60,false)⟩,
 ⟨some 66,.pick (.t 60) (.c (.bool true)) (.t 65),none⟩,
 ⟨some 67,.mov (.t 66),none⟩,
 ⟨some 68,.mov (.t 9),some (67,false)⟩,
 ⟨some 69,.len (.t 68),some (67,false)⟩,
 ⟨some 70,.mov (.t 7),some (67,false)⟩,
 ⟨some 71,.len (.t 70),some (67,false)⟩,
 ⟨some 72,.bin .add (.t 71) (.c (.int .i64 1)),some (67,false)⟩,
 ⟨some 73,.bin .neq (.t 69) (.t 72),some (67,false)⟩,
 ⟨some 74,.pick (.t 67) (.c (.bool true)) (.t 73),none⟩,
 ⟨some 75,.mov (.t 74),none⟩,
 ⟨some 76,.mov (.t 9),some (75,false)⟩,
 ⟨some 77,.iaddr 1 (.t 76) (.c (.int .i64 0)),some (75,false)⟩,
 ⟨some 78,.load false 1 (.t 77),some (75,false)⟩,
 ⟨some 79,.faddr 2 (.t 3),some (75,false)⟩,
 ⟨some 80,.load false 1 (.t 79),some (75,false)⟩,
 ⟨some 81,.bin .neq (.t 78) (.t 80),some (75,false)⟩,
 ⟨some 82,.pick (.t 75) (.c (.bool true)) (.t 81),none⟩,
 ⟨some 83,.mov (.t 82),none⟩,
 ⟨some 84,.faddr 0 (.t 3),some (83,false)⟩,
 ⟨some 85,.load false 1 (.t 84),some (83,false)⟩,
 ⟨some 86,.bin .lss (.t 85) (.c (.int .i64 0)),some (83,false)⟩,
 ⟨some 87,.pick (.t 83) (.c (.bool true)) (.t 86),none⟩,
 ⟨some 88,.mov (.t 87),none⟩,
 ⟨some 89,.faddr 0 (.t 3),some (88,false)⟩,
 ⟨some 90,.load false 1 (.t 89),some (88,false)⟩,
 ⟨some 91,.bin .gtr (.t 90) (.c (.int .i64 6)),some (88,false)⟩,
 ⟨some 92,.pick (.t 88) (.c (.bool true)) (.t 91),none⟩,
 ⟨some 93,.mov (.t 92),none⟩,
 ⟨some 94,.load true 5 (.t 3),some (93,false)⟩,
 ⟨some 95,.call 22 [(.t 94)],some (93,false)⟩,
 ⟨some 96,.bin .neq (.t 95) (.c (.int .i64 0)),some (93,false)⟩,
 ⟨some 97,.pick (.t 93) (.c (.bool true)) (.t 96),none⟩])
 (.cond (.t 97)
 (.seq (.region [⟨some 6,.mov (.c (.bool false)),none⟩])
 (.ret))
 (.skip)))
 (.seq (.seq (.region [⟨some 13,.mov (.c (.int .i64 0)),none⟩])
 (.block 0 (.loop xLT xVj)))
 (.seq (.draw 11 [⟨some 182,.load true 5 (.t 3),none⟩,
 ⟨some 183,.mov (.t 7),none⟩,
 ⟨some 184,.mov (.t 7),none⟩,
 ⟨some 185,.len (.t 184),none⟩,
 ⟨some 186,.bin .quo (.t 185) (.c (.int .i64 2)),none⟩,
 ⟨some 187,.slice 1 (.t 183) none (some (.t 186)) none,none⟩,
 ⟨some 188,.call 16 [(.t 182),(.t 187)],none⟩,
 ⟨some 181,.mov (.t 188),none⟩,
 ⟨some 189,.ext 0 (.t 181),none⟩,
 ⟨some 190,.ext 1 (.t 181),none⟩,
 ⟨some 191,.ext 2 (.t 181),none⟩,
 ⟨some 14,.mov (.t 189),none⟩,
 ⟨some 15,.mov (.t 190),none⟩,
 ⟨some 16,.mov (.t 191),none⟩])
 (.seq (.region [⟨some 192,.load true 2 (.t 11),none⟩,
 ⟨some 193,.faddr 0 (.t 3),none⟩,
 ⟨some 194,.load false 1 (.t 193),none⟩,
 ⟨some 195,.conv .u64 (.t 194),none⟩,
 ⟨some 196,.bin .shl (.c (.int .u8 1)) (.t 195),none⟩,
 ⟨some 197,.bin .sub (.t 196) (.c (.int .u8 1)),none⟩,
 ⟨some 198,.call 44 [(.t 192),(.t 197)],none⟩,
 ⟨some 17,.box (.c (.agg [.sl true 0 [],.sl true 0 []])),none⟩,
 ⟨none,.store 2 (.t 17) (.t 198),none⟩])
 (.seq (.draw 20 [⟨some 199,.mov (.t 16),none⟩,
 ⟨some 200,.bin .eql (.t 199) (.c (.int .i64 0)),none⟩,
 ⟨some 201,.mov (.t 200),none⟩,
 ⟨some 202,.mov (.t 14),some (201,true)⟩,
 ⟨some 203,.mov (.t 8),some (201,true)⟩,
 ⟨some 204,.mov (.t 7),some (201,true)⟩,
 ⟨some 205,.len (.t 204),some (201,true)⟩,
 ⟨some 206,.bin .quo (.t 205) (.c (.int .i64 2)),some (201,true)⟩,
 ⟨some 207,.slice 1 (.t 203) none (some (.t 206)) none,some (201,true)⟩,
 ⟨some 208,.call 23 [(.t 202),(.t 207)],some (201,true)⟩,
 ⟨some 209,.pick (.t 201) (.t 208) (.c (.bool false)),none⟩,
 ⟨some 210,.mov (.t 209),none⟩,
 ⟨some 211,.load true 2 (.t 17),some (210,true)⟩,
 ⟨some 212,.load true 2 (.t 4),some (210,true)⟩,
 ⟨some 213,.call 46 [(.t 211),(.t 212)],some (210,true)⟩,
 ⟨some 214,.pick (.t 210) (.t 213) (.c (.bool false)),none⟩,
 ⟨some 215,.mov (.t 214),none⟩,
 ⟨some 216,.load true 2 (.t 11),some (215,true)⟩,
 ⟨some 217,.call 49 [(.t 216)],some (215,true)⟩,
 ⟨some 218,.load true 2 (.t 11),some (215,true)⟩,
 ⟨some 219,.call 25 [(.t 217),(.t 218)],some (215,true)⟩,
 ⟨some 220,.pick (.t 215) (.t 219) (.c (.bool false)),none⟩,
 ⟨some 6,.mov (.t 220),none⟩])
 (.ret))))))))))),
 [.tmp 6]⟩
def xIG : ACode :=
 .seq (.seq (.region [⟨some 28,.mov (.t 4),none⟩,
 ⟨some 29,.mov (.t 0),none⟩,
 ⟨some 30,.mov (.t 3),none⟩,
 ⟨some 31,.iaddr 5 (.t 29) (.t 30),none⟩,
 ⟨some 32,.faddr 3 (.t 31),none⟩,
 ⟨some 33,.load false 1 (.t 32),none⟩,
 ⟨some 34,.len (.t 33),none⟩,
 ⟨some 35,.bin .lss (.t 28) (.t 34),none⟩])
 (.cond (.t 35)
 (.skip)
 (.exit 2)))
 (.seq (.block 3 (.seq (.region [⟨some 38,.mov (.t 0),none⟩,
 ⟨some 39,.mov (.t 3),none⟩,
 ⟨some 40,.iaddr 5 (.t 38) (.t 39),none⟩,
 ⟨some 41,.faddr 3 (.t 40),none⟩,
 ⟨some 42,.load false 1 (.t 41),none⟩,
 ⟨some 43,.mov (.t 4),none⟩,
 ⟨some 44,.iaddr 1 (.t 42) (.t 43),none⟩,
 ⟨some 45,.load false 1 (.t 44),none⟩,
 ⟨some 46,.len (.t 45),none⟩,
 ⟨some 47,.bin .gtr (.t 46) (.c (.int .i64 66)),none⟩])
 (.cond (.t 47)
 (.seq (.region [⟨some 2,.mov (.c (.bool true)),none⟩])
 (.ret))
 (.skip))))
 (.region [⟨some 36,.mov (.t 4),none⟩,
 ⟨some 37,.bin .add (.t 36) (.c (.int .i64 1)),none⟩,
 ⟨some 4,.mov (.t 37),none⟩]))
def xVk : ACode := xIG
def xLV : List Nat := [1,5,6,7,8,9,10,11,12,13,14,15,16,17,18,19,20,21,22,23,24,25,26,27,28,29,30,31,32,33,34,35,36,37,38,39,40,41,42,43,44,45,46,47,48,49,50,51,52,53,54,55,56,57,58,59,60,61,62,63,64,65,66,67]
abbrev xIH (s0 s2 s3 s4 : AV) : List AV := [s0,.any,s2,s3,s4,.any,.any,.any,.any,.any,.any,.any,.any,.any,.any,.any,.any,.any,.any,.any,.any,.any,.any,.any,.any,.any,.any,.any,.any,.any,.any,.any,.any,.any,.any,.any,.any,.any,.any,.any,.any,.any,.any,.any,.any,.any,.any,.any,.any,.any,.any,.any,.any,.any,.any,.any,.any,.any,.any,.any,.any,.any,.any,.any,.any,.any,.any,.any]
theorem xFL (s0 s1 s2 s3 s4 s5 s6 s7 s8 s9 s10 s11 s12 s13 s14 s15 s16 s17 s18 s19 s20 s21 s22 s23 s24 s25 s26 s27 s28 s29 s30 s31 s32 s33 s34 s35 s36 s37 s38 s39 s40 s41 s42 s43 s44 s45 s46 s47 s48 s49 s50 s51 s52 s53 s54 s55 s56 s57 s58 s59 s60 s61 s62 s63 s64 s65 s66 s67 : AV) : xAL xLV [s0,s1,s2,s3,s4,s5,s6,s7,s8,s9,s10,s11,s12,s13,s14,s15,s16,s17,s18,s19,s20,s21,s22,s23,s24,s25,s26,s27,s28,s29,s30,s31,s32,s33,s34,s35,s36,s37,s38,s39,s40,s41,s42,s43,s44,s45,s46,s47,s48,s49,s50,s51,s52,s53,s54,s55,s56,s57,s58,s59,s60,s61,s62,s63,s64,s65,s66,s67] = xIH s0 s2 s3 s4 := by kernel_rfl
theorem xR9 {prog : Nat → Option AFunc} (s0 s2 s3 s4 : AV) (H : Heap) : (lim prog).loop xLV xVk ⟨xIH s0 s2 s3 s4,H⟩ = xBH (lim prog) xLV xVk (run (lim prog) xIG ⟨xIH s0 s2 s3 s4,H⟩) := xAo _ _ _ _ (by kernel_rfl)
def xII : ACode :=
 .seq (.seq (.region [⟨some 48,.mov (.t 5),none⟩,
 ⟨some 49,.mov (.t 0),none⟩,
 ⟨some 50,.mov (.t 3),none⟩,
 ⟨some 51,.iaddr 5 (.t 49) (.t 50),none⟩,
 ⟨some 52,.faddr 4 (.t 51),none⟩,
 ⟨some 53,.load false 1 (.t 52),none⟩,
 ⟨some 54,.len (.t 53),none⟩,
 ⟨some 55,.bin .lss (.t 48) (.t 54),none⟩])
 (.cond (.t 55)
 (.skip)
 (.exit 4)))
 (.seq (.block 5 (.seq (.region [⟨some 58,.mov (.t 0),none⟩,
 ⟨some 59,.mov (.t 3),none⟩,
 ⟨some 60,.iaddr 5 (.t 58) (.t 59),none⟩,
 ⟨some 61,.faddr 4 (.t 60),none⟩,
 ⟨some 62,.load false 1 (.t 61),none⟩,
 ⟨some 63,.mov (.t 5),none⟩,
 ⟨some 64,.iaddr 1 (.t 62) (.t 63),none⟩,
 ⟨some 65,.load false 1 (.t 64),none⟩,
 ⟨some 66,.len (.t 65),none⟩,
 ⟨some 67,.bin .gtr (.t 66) (.c (.int .i64 66)),none⟩])
 (.cond (.t 67)
 (.seq (.region [⟨some 2,.mov (.c (.bool true)),none⟩])
 (.ret))
 (.skip))))
 (.region [⟨some 56,.mov (.t 5),none⟩,
 ⟨some 57,.bin .add (.t 56) (.c (.int .i64 1)),none⟩,
 ⟨some 5,.mov (.t 57),none⟩]))
def xVl : ACode := xII
def xLW : List Nat := [1,4,6,7,8,9,10,11,12,13,14,15,16,17,18,19,20,21,22,23,24,25,26,27,28,29,30,31,32,33,34,35,36,37,38,39,40,41,42,43,44,45,46,47,48,49,50,51,52,53,54,55,56,57,58,59,60,61,62,63,64,65,66,67]
abbrev xIJ (s0 s2 s3 s5 : AV) : List AV := [s0,.any,s2,s3,.any,s5,.any,.any,.any,.any,.any,.any,.any,.any,.any,.any,.any,.any,.any,.any,.any,.any,.any,.any,.any,.any,.any,.any,.any,.any,.any,.any,.any,.any,.any,.any,.any,.any,.any,.any,.any,.any,.any,.any,.any,.any,.any,.any,.any,.any,.any,.any,.any,.any,.any,.any,.any,.any,.any,.any,.any,.any,.any,.any,.any,.any,.any,.any]
theorem xGX (s0 s1 s2 s3 s4 s5 s6 s7 s8 s9 s10 s11 s12 s13 s14 s15 s16 s17 s18 s19 s20 s21 s22 s23 s24 s25 s26 s27 s28 s29 s30 s31 s32 s33 s34 s35 s36 s37 s38 s39 s40 s41 s42 s43 s44 s45 s46 s47 s48 s49 s50 s51 s52 s53 s54 s55 s56 s57 s58 s59 s60 s61 s62 s63 s64 s65 s66 s67 : AV) : xAL xLW [s0,s1,s2,s3,s4,s5,s6,s7,s8,s9,s10,s11,s12,s13,s14,s15,s16,s17,s18,s19,s20,s21,s22,s23,s24,s25,s26,s27,s28,s29,s30,s31,s32,s33,s34,s35,s36,s37,s38,s39,s40,s41,s42,s43,s44,s45,s46,s47,s48,s49,s50,s51,s52,s53,s54,s55,s56,s57,s58,s59,s60,s61,s62,s63,s64,s65,s66,s67] = xIJ s0 s2 s3 s5 := by kernel_rfl
theorem xSa {prog : Nat → Option AFunc} (s0 s2 s3 s5 : AV) (H : Heap) : (lim prog).loop xLW xVl ⟨xIJ s0 s2 s3 s5,H⟩ = xBH (lim prog) xLW xVl (run (lim prog) xII ⟨xIJ s0 s2 s3 s5,H⟩) := xAo _ _ _ _ (by kernel_rfl)
def xED : ACode :=
 .seq (.seq (.region [⟨some 6,.mov (.t 3),none⟩,
 ⟨some 7,.mov (.t 0),none⟩,
 ⟨some 8,.len (.t 7),none⟩,
 ⟨some 9,.bin .lss (.t 6) (.t 8),none⟩])
 (.cond (.t 9)
 (.skip)
 (.exit 0)))
 (.seq (.block 1 (.seq (.seq (.region [⟨some 12,.mov (.t 0),none⟩,
 ⟨some 13,.mov (.t 3),none⟩,
 ⟨some 14,.iaddr 5 (.t 12) (.t 13),none⟩,
 ⟨some 15,.faddr 3 (.t 14),none⟩,
 ⟨some 16,.load false 1 (.t 15),none⟩,
 ⟨some 17,.len (.t 16),none⟩,
 ⟨some 18,.bin .gtr (.t 17) (.c (.int .i64 14)),none⟩,
 ⟨some 19,.mov (.t 18),none⟩,
 ⟨some 20,.mov (.t 0),some (19,false)⟩,
 ⟨some 21,.mov (.t 3),some (19,false)⟩,
 ⟨some 22,.iaddr 5 (.t 20) (.t 21),some (19,false)⟩,
 ⟨some 23,.faddr 4 (.t 22),some (19,false)⟩,
 ⟨some 24,.load false 1 (.t 23),some (19,false)⟩,
 ⟨some 25,.len (.t 24),some (19,false)⟩,
 ⟨some 26,.bin .gtr (.t 25) (.c (.int .i64 16)),some (19,false)⟩,
 ⟨some 27,.pick (.t 19) (.c (.bool true)) (.t 26),none⟩])
 (.cond (.t 27)
 (.seq (.region [⟨some 2,.mov (.c (.bool true)),none⟩])
 (.ret))
 (.skip)))
 (.seq (.seq (.region [⟨some 4,.mov (.c (.int .i64 0)),none⟩])
 (.block 2 (.loop xLV xVk)))
 (.seq (.region [⟨some 5,.mov (.c (.int .i64 0)),none⟩])
 (.block 4 (.loop xLW xVl))))))
 (.region [⟨some 10,.mov (.t 3),none⟩,
 ⟨some 11,.bin .add (.t 10) (.c (.int .i64 1)),none⟩,
 ⟨some 3,.mov (.t 11),none⟩]))
def xVm : ACode := xED
def xLX : List Nat := [1,4,5,6,7,8,9,10,11,12,13,14,15,16,17,18,19,20,21,22,23,24,25,26,27,28,29,30,31,32,33,34,35,36,37,38,39,40,41,42,43,44,45,46,47,48,49,50,51,52,53,54,55,56,57,58,59,60,61,62,63,64,65,66,67]
abbrev xIK (s0 s2 s3 : AV) : List AV := [s0,.any,s2,s3,.any,.any,.any,.any,.any,.any,.any,.any,.any,.any,.any,.any,.any,.any,.any,.any,.any,.any,.any,.any,.any,.any,.any,.any,.any,.any,.any,.any,.any,.any,.any,.any,.any,.any,.any,.any,.any,.any,.any,.any,.any,.any,.any,.any,.any,.any,.any,.any,.any,.any,.any,.any,.any,.any,.any,.any,.any,.any,.any,.any,.any,.any,.any,.any]
theorem xEE (s0 s1 s2 s3 s4 s5 s6 s7 s8 s9 s10 s11 s12 s13 s14 s15 s16 s17 s18 s19 s20 s21 s22 s23 s24 s25 s26 s27 s28 s29 s30 s31 s32 s33 s34 s35 s36 s37 s38 s39 s40 s41 s42 s43 s44 s45 s46 s47 s48 s49 s50 s51 s52 s53 s54 s55 s56 s57 s58 s59 s60 s61 s62 s63 s64 s65 s66 s67 : AV) : xAL xLX [s0,s1,s2,s3,s4,s5,s6,s7,s8,s9,s10,s11,s12,s13,s14,s15,s16,s17,s18,s19,s20,s21,s22,s23,s24,s25,s26,s27,s28,s29,s30,s31,s32,s33,s34,s35,s36,s37,s38,s39,s40,s41,s42,s43,s44,s45,s46,s47,s48,s49,s50,s51,s52,s53,s54,s55,s56,s57,s58,s59,s60,s61,s62,s63,s64,s65,s66,s67] = xIK s0 s2 s3 := by kernel_rfl
theorem xIL {prog : Nat → Option AFunc} (s0 s2 s3 : AV) (H : Heap) : (lim prog).loop xLX xVm ⟨xIK s0 s2 s3,H⟩ = xBH (lim prog) xLX xVm (run (lim prog) xED ⟨xIK s0 s2 s3,H⟩) := xAo _ _ _ _ (by kernel_rfl)
def a11 : AFunc := ⟨68,
 .seq (.region [⟨some 2,.mov (.c (.bool false)),none⟩])
 (.seq (.seq (.region [⟨some 3,.mov (.c (.int .i64 0)),none⟩])
 (.block 0 (.loop xLX xVm)))
 (.seq (.region [⟨some 2,.mov (.c (.bool false)),none⟩])
 (.ret))),
 [.tmp 2]⟩
def xSb : ACode :=
 .seq (.seq (.region [⟨some 4,.mov (.t 3),none⟩,
 ⟨some 5,.mov (.t 0),none⟩,
 ⟨some 6,.len (.t 5),none⟩,
 ⟨some 7,.bin .lss (.t 4) (.t 6),none⟩])
 (.cond (.t 7)
 (.skip)
 (.exit 0)))
 (.seq (.block 1 (.seq (.region [⟨some 10,.mov (.t 0),none⟩,
 ⟨some 11,.mov (.t 3),none⟩,
 ⟨some 12,.iaddr 2 (.t 10) (.t 11),none⟩,
 ⟨some 13,.faddr 0 (.t 12),none⟩,
 ⟨some 14,.load false 1 (.t 13),none⟩,
 ⟨some 15,.len (.t 14),none⟩,
 ⟨some 16,.bin .gtr (.t 15) (.c (.int .i64 70)),none⟩,
 ⟨some 17,.mov (.t 16),none⟩,
 ⟨some 18,.mov (.t 0),some (17,false)⟩,
 ⟨some 19,.mov (.t 3),some (17,false)⟩,
 ⟨some 20,.iaddr 2 (.t 18) (.t 19),some (17,false)⟩,
 ⟨some 21,.faddr 1 (.t 20),some (17,false)⟩,
 ⟨some 22,.load false 1 (.t 21),some (17,false)⟩,
 ⟨some 23,.len (.t 22),some (17,false)⟩,
 ⟨some 24,.bin .gtr (.t 23) (.c (.int .i64 70)),some (17,false)⟩,
 ⟨some 25,.pick (.t 17) (.c (.bool true)) (.t 24),none⟩])
 (.cond (.t 25)
 (.seq (.region [⟨some 2,.mov (.c (.bool true)),none⟩])
 (.ret))
 (.skip))))
 (.region [⟨some 8,.mov (.t 3),none⟩,
 ⟨some 9,.bin .add (.t 8) (.c (.int .i64 1)),none⟩,
 ⟨some 3,.mov (.t 9),none⟩]))
def xXP : ACode := xSb
def xOT : List Nat := [1,4,5,6,7,8,9,10,11,12,13,14,15,16,17,18,19,20,21,22,23,24,25]
abbrev xSc (s0 s2 s3 : AV) : List AV := [s0,.any,s2,s3,.any,.any,.any,.any,.any,.any,.any,.any,.any,.any,.any,.any,.any,.any,.any,.any,.any,.any,.any,.any,.any,.any]
theorem xZa (s0 s1 s2 s3 s4 s5 s6 s7 s8 s9 s10 s11 s12 s13 s14 s15 s16 s17 s18 s19 s20 s21 s22 s23 s24 s25 : AV) : xAL xOT [s0,s1,s2,s3,s4,s5,s6,s7,s8,s9,s10,s11,s12,s13,s14,s15,s16,s17,s18,s19,s20,s21,s22,s23,s24,s25] = xSc s0 s2 s3 := by kernel_rfl
theorem xZb {prog : Nat → Option AFunc} (s0 s2 s3 : AV) (H : Heap) : (lim prog).loop xOT xXP ⟨xSc s0 s2 s3,H⟩ = xBH (lim prog) xOT xXP (run (lim prog) xSb ⟨xSc s0 s2 s3,H⟩) := xAo _ _ _ _ (by kernel_rfl)
def a12 : AFunc := ⟨26,
 .seq (.region [⟨some 2,.mov (.c (.bool false)),none⟩])
 (.seq (.seq (.region [⟨some 3,.mov (.c (.int .i64 0)),none⟩])
 (.block 0 (.loop xOT xXP)))
 (.seq (.region [⟨some 2,.mov (.c (.bool false)),none⟩])
 (.ret))),
 [.tmp 2]⟩
def a13 : AFunc := ⟨131,
 .seq (.region [⟨some 0,.mov (.c (.bool false)),none⟩])
 (.seq (.region [⟨some 19,.call 43 [],none⟩,
 ⟨some 1,.box (.c (.agg [.int .i64 0,.int .i64 0,.int .i64 0,.sl true 0 [],.sl true 0 []])),none⟩,
 ⟨none,.store 5 (.t 1) (.t 19),none⟩])
 (.seq (.region [⟨some 20,.bslice true [.int .i64 0] 1 2 [(0,(.c (.int .i64 1))),(1,(.c (.int .i64 1)))],none⟩,
 ⟨some 21,.bslice true [.int .i64 0] 1 2 [(0,(.c (.int .i64 0))),(1,(.c (.int .i64 0)))],none⟩,
 ⟨some 22,.bslice true [.sl true 0 []] 1 2 [(0,(.t 20)),(1,(.t 21))],none⟩,
 ⟨some 23,.bslice true [.int .u8 0] 1 2 [(0,(.c (.int .u8 1))),(1,(.c (.int .u8 0)))],none⟩,
 ⟨some 24,.bslice true [.int .u8 0] 1 2 [(0,(.c (.int .u8 1))),(1,(.c (.int .u8 0)))],none⟩,
 ⟨some 25,.bslice true [.sl true 0 []] 1 2 [(0,(.t 23)),(1,(.t 24))],none⟩,
 ⟨some 26,.build [.int .i64 0,.int .i64 0,.int .i64 0,.sl true 0 [],.sl true 0 []] [(0,1,(.c (.int .i64 1))),(1,1,(.c (.int .i64 1))),(3,1,(.t 22)),(4,1,(.t 25))],none⟩,
 ⟨some 2,.box (.c (.agg [.int .i64 0,.int .i64 0,.int .i64 0,.sl true 0 [],.sl true 0 []])),none⟩,
 ⟨none,.store 5 (.t 2) (.t 26),none⟩])
 (.seq (.region [⟨some 27,.call 43 [],none⟩,
 ⟨some 3,.box (.c (.agg [.int .i64 0,.int .i64 0,.int .i64 0,.sl true 0 [],.sl true 0 []])),none⟩,
 ⟨none,.store 5 (.t 3) (.t 27),none⟩])
 (.seq (.region [⟨some 28,.bslice true [.int .u8 0] 1 2 [(0,(.c (.int .u8 1))),(1,(.c (.int .u8 1)))],none⟩,
 ⟨some 29,.bslice true [.sl true 0 []] 1 1 [(0,(.t 28))],none⟩,
 ⟨some 30,.faddr 4 (.t 3),none⟩,
 ⟨none,.store 1 (.t 30) (.t 29),none⟩])
 (.seq (.region [⟨some 32,.load true 5 (.t 1),none⟩,
 ⟨some 33,.bslice true [.int .u8 0] 1 3 [(0,(.c (.int .u8 0))),(1,(.c (.int .u8 1))),(2,(.c (.int .u8 1)))],none⟩,
 ⟨some 34,.call 16 [(.t 32),(.t 33)],none⟩,
 ⟨some 31,.mov (.t 34),none⟩,
 ⟨some 35,.ext 0 (.t 31),none⟩,
 ⟨some 36,.ext 1 (.t 31),none⟩,
 ⟨some 37,.ext 2 (.t 31),none⟩,
 ⟨some 4,.mov (.t 35),none⟩,
 ⟨some 5,.mov (.t 36),none⟩,
 ⟨some 6,.mov (.t 37),none⟩])
 (.seq (.region [⟨some 39,.load true 5 (.t 1),none⟩,
 ⟨some 40,.bslice true [.int .u8 0] 1 2 [(0,(.c (.int .u8 0))),(1,(.c (.int .u8 1)))],none⟩,
 ⟨some 41,.build [.sl true 0 [],.sl true 0 []] [(1,1,(.t 40))],none⟩,
 ⟨some 42,.call 18 [(.t 39),(.t 41)],none⟩,
 ⟨some 38,.mov (.t 42),none⟩,
 ⟨some 43,.ext 0 (.t 38),none⟩,
 ⟨some 44,.ext 1 (.t 38),none⟩,
 ⟨some 7,.box (.c (.agg [.sl true 0 [],.sl true 0 []])),none⟩,
 ⟨none,.store 2 (.t 7) (.t 43),none⟩,
 ⟨some 8,.mov (.t 44),none⟩])
 (.seq (.region [⟨some 46,.load true 5 (.t 2),none⟩,
 ⟨some 47,.call 35 [(.t 46)],none⟩,
 ⟨some 45,.mov (.t 47),none⟩,
 ⟨some 48,.ext 0 (.t 45),none⟩,
 ⟨some 49,.ext 1 (.t 45),none⟩,
 ⟨some 9,.box (.c (.agg [.int .i64 0,.int .i64 0,.int .i64 0,.sl true 0 [],.sl true 0 []])),none⟩,
 ⟨none,.store 5 (.t 9) (.t 48),none⟩,
 ⟨some 10,.mov (.t 49),none⟩])
 (.seq (.region [⟨some 51,.load true 5 (.t 1),none⟩,
 ⟨some 52,.load true 5 (.t 2),none⟩,
 ⟨some 53,.call 37 [(.t 51),(.t 52)],none⟩,
 ⟨some 50,.mov (.t 53),none⟩,
 ⟨some 54,.ext 0 (.t 50),none⟩,
 ⟨some 55,.ext 1 (.t 50),none⟩,
 ⟨some 56,.ext 2 (.t 50),none⟩,
 ⟨some 11,.mov (.t 54),none⟩,
 ⟨some 12,.mov (.t 55),none⟩,
 ⟨some 13,.mov (.t 56),none⟩])
 (.seq (.draw 7 [⟨some 58,.load true 5 (.t 1),none⟩,
 ⟨some 59,.call 42 [],none⟩,
 ⟨some 60,.call 31 [(.t 58),(.t 59)],none⟩,
 ⟨some 57,.mov (.t 60),none⟩,
 ⟨some 61,.ext 0 (.t 57),none⟩,
 ⟨some 62,.ext 1 (.t 57),none⟩,
 ⟨some 14,.box (.c (.agg [.sl true 0 [],.sl true 0 []])),none⟩,
 ⟨none,.store 2 (.t 14) (.t 61),none⟩,
 ⟨some 15,.mov (.t 62),none⟩])
 (.seq (.region [⟨some 64,.load true 5 (.t 1),none⟩,
 ⟨some 65,.load true 5 (.t 3),none⟩,
 ⟨some 66,.call 37 [(.t 64),(.t 65)],none⟩,
 ⟨some 63,.mov (.t 66),none⟩,
 ⟨some 67,.ext 0 (.t 63),none⟩,
 ⟨some 68,.ext 1 (.t 63),none⟩,
 ⟨some 69,.ext 2 (.t 63),none⟩,
 ⟨some 16,.mov (.t 67),none⟩,
 ⟨some 17,.mov (.t 68),none⟩,
 ⟨some 18,.mov (.t 69),none⟩])
 (.seq (.region [⟨some 70,.mov (.t 6),none⟩,
 ⟨some 71,.bin .eql (.t 70) (.c (.int .i64 0)),none⟩,
 ⟨some 72,.mov (.t 71),none⟩,
 ⟨some 73,.mov (.t 4),some (72,true)⟩,
 ⟨some 74,.bslice true [.int .u8 0] 1 3 [(0,(.c (.int .u8 1))),(1,(.c (.int .u8 0))),(2,(.c (.int .u8 0)))],some (72,true)⟩,
 ⟨some 75,.call 23 [(.t 73),(.t 74)],some (72,true)⟩,
 ⟨some 76,.pick (.t 72) (.t 75) (.c (.bool false)),none⟩,
 ⟨some 77,.mov (.t 76),none⟩,
 ⟨some 78,.mov (.t 5),some (77,true)⟩,
 ⟨some 79,.bslice true [.int .i64 0] 1 4 [(0,(.c (.int .i64 0))),(1,(.c (.int .i64 0))),(2,(.c (.int .i64 0))),(3,(.c (.int .i64 0)))],some (77,true)⟩,
 ⟨some 80,.call 24 [(.t 78),(.t 79)],some (77,true)⟩,
 ⟨some 81,.pick (.t 77) (.t 80) (.c (.bool false)),none⟩,
 ⟨some 82,.mov (.t 81),none⟩,
 ⟨some 83,.mov (.t 8),some (82,true)⟩,
 ⟨some 84,.bin .eql (.t 83) (.c (.int .i64 0)),some (82,true)⟩,
 ⟨some 85,.pick (.t 82) (.t 84) (.c (.bool false)),none⟩,
 ⟨some 86,.mov (.t 85),none⟩,
 ⟨some 87,.load true 2 (.t 7),some (86,true)⟩,
 ⟨some 88,.bslice true [.int .u8 0] 1 2 [(0,(.c (.int .u8 2))),(1,(.c (.int .u8 1)))],some (86,true)⟩,
 ⟨some 89,.build [.sl true 0 [],.sl true 0 []] [(1,1,(.t 88))],some (86,true)⟩,
 ⟨some 90,.call 25 [(.t 87),(.t 89)],some (86,true)⟩,
 ⟨some 91,.pick (.t 86) (.t 90) (.c (.bool false)),none⟩,
 ⟨some 92,.mov (.t 91),none⟩,
 ⟨some 93,.mov (.t 10),some (92,true)⟩,
 ⟨some 94,.bin .eql (.t 93) (.c (.int .i64 0)),some (92,true)⟩,
 ⟨some 95,.pick (.t 92) (.t 94) (.c (.bool false)),none⟩,
 ⟨some 96,.mov (.t 95),none⟩,
 ⟨some 97,.load true 5 (.t 9),some (96,true)⟩,
 ⟨some 98,.load true 5 (.t 1),some (96,true)⟩,
 ⟨some 99,.call 29 [(.t 97),(.t 98)],some (96,true)⟩,
 ⟨some 100,.pick (.t 96) (.t 99) (.c (.bool false)),none⟩,
 ⟨some 101,.mov (.t 100),none⟩,
 ⟨some 102,.mov (.t 13),some (101,true)⟩,
 ⟨some 103,.bin .eql (.t 102) (.c (.int .i64 0)),some (101,true)⟩,
 ⟨some 104,.pick (.t 101) (.t 103) (.c (.bool false)),none⟩,
 ⟨some 105,.mov (.t 104),none⟩,
 ⟨some 106,.mov (.t 12),some (105,true)⟩,
 ⟨some 107,.pick (.t 105) (.t 106) (.c (.bool false)),none⟩,
 ⟨some 108,.mov (.t 107),none⟩,
 ⟨some 109,.mov (.t 15),some (108,true)⟩,
 ⟨some 110,.bin .eql (.t 109) (.c (.int .i64 0)),some (108,true)⟩,
 ⟨some 111,.pick (.t 108) (.t 110) (.c (.bool false)),none⟩,
 ⟨some 112,.mov (.t 111),none⟩,
 ⟨some 113,.load true 2 (.t 14),some (112,true)⟩,
 ⟨some 114,.bslice true [.int .u8 0] 1 1 [(0,(.c (.int .u8 1)))],some (112,true)⟩,
 ⟨some 115,.build [.sl true 0 [],.sl true 0 []] [(1,1,(.t 114))],some (112,true)⟩,
 ⟨some 116,.call 25 [(.t 113),(.t 115)],some (112,true)⟩,
 ⟨some 117,.pick (.t 112) (.t 116) (.c (.bool false)),none⟩,
 ⟨some 118,.mov (.t 117),none⟩,
 ⟨some 119,.mov (.t 18),some (118,true)⟩,
 ⟨some 120,.bin .eql (.t 119) (.c (.int .i64 0)),some (118,true)⟩,
 ⟨some 121,.pick (.t 118) (.t 120) (.c (.bool false)),none⟩,
 ⟨some 122,.mov (.t 121),none⟩,
 ⟨some 123,.mov (.t 17),some (122,true)⟩,
 ⟨some 124,.un .not (.t 123),some (122,true)⟩,
 ⟨some 125,.pick (.t 122) (.t 124) (.c (.bool false)),none⟩,
 ⟨some 126,.mov (.t 125),none⟩,
 ⟨some 127,.mov (.t 16),some (126,true)⟩,
 ⟨some 128,.bslice true [.int .u8 0] 1 1 [(0,(.c (.int .u8 1)))],some (126,true)⟩,
 ⟨some 129,.call 23 [(.t 127),(.t 128)],some (126,true)⟩,
 ⟨some 130,.pick (.t 126) (.t 129) (.c (.bool false)),none⟩,
 ⟨some 0,.mov (.t 130),none⟩])
 (.ret)))))))))))),
 [.tmp 0]⟩
def xGY : ACode :=
 .seq (.region [⟨some 31,.bin .lss (.t 30) (.t 29),none⟩])
 (.seq (.cond (.t 31)
 (.skip)
 (.exit 1))
 (.seq (.block 2 (.seq (.region [⟨some 32,.iaddr 1 (.t 28) (.t 30),none⟩,
 ⟨some 33,.load false 1 (.t 32),none⟩,
 ⟨some 10,.mov (.t 33),none⟩])
 (.seq (.region [⟨some 34,.mov (.t 4),none⟩,
 ⟨some 35,.faddr 4 (.t 2),none⟩,
 ⟨some 36,.load false 1 (.t 35),none⟩,
 ⟨some 37,.mov (.t 8),none⟩,
 ⟨some 38,.iaddr 1 (.t 36) (.t 37),none⟩,
 ⟨some 39,.load false 1 (.t 38),none⟩,
 ⟨some 40,.mov (.t 10),none⟩,
 ⟨some 41,.iaddr 1 (.t 39) (.t 40),none⟩,
 ⟨some 42,.load false 1 (.t 41),none⟩,
 ⟨some 43,.bslice true [.int .u8 0] 1 1 [(0,(.t 42))],none⟩,
 ⟨some 44,.append false 1 1 (.t 34) (.t 43),none⟩,
 ⟨some 4,.mov (.t 44),none⟩])
 (.seq (.region [⟨some 45,.faddr 3 (.t 2),none⟩,
 ⟨some 46,.load false 1 (.t 45),none⟩,
 ⟨some 47,.mov (.t 8),none⟩,
 ⟨some 48,.iaddr 1 (.t 46) (.t 47),none⟩,
 ⟨some 49,.load false 1 (.t 48),none⟩,
 ⟨some 50,.mov (.t 10),none⟩,
 ⟨some 51,.iaddr 1 (.t 49) (.t 50),none⟩,
 ⟨some 52,.load false 1 (.t 51),none⟩,
 ⟨some 8,.mov (.t 52),none⟩])
 (.region [⟨some 53,.mov (.t 5),none⟩,
 ⟨some 54,.mov (.t 8),none⟩,
 ⟨some 55,.bslice true [.int .i64 0] 1 1 [(0,(.t 54))],none⟩,
 ⟨some 56,.append false 1 8 (.t 53) (.t 55),none⟩,
 ⟨some 5,.mov (.t 56),none⟩])))))
 (.region [⟨some 57,.bin .add (.t 30) (.c (.int .i64 1)),none⟩,
 ⟨some 30,.mov (.t 57),none⟩])))
def xQ5 : ACode := xGY
def xGZ : List Nat := [0,1,3,6,7,9,10,11,12,13,14,15,16,17,18,19,20,21,22,23,24,25,26,27,31,32,33,34,35,36,37,38,39,40,41,42,43,44,45,46,47,48,49,50,51,52,53,54,55,56,57,58,59]
abbrev xOU (s2 s4 s5 s8 s28 s29 s30 : AV) : List AV := [.any,.any,s2,.any,s4,s5,.any,.any,s8,.any,.any,.any,.any,.any,.any,.any,.any,.any,.any,.any,.any,.any,.any,.any,.any,.any,.any,.any,s28,s29,s30,.any,.any,.any,.any,.any,.any,.any,.any,.any,.any,.any,.any,.any,.any,.any,.any,.any,.any,.any,.any,.any,.any,.any,.any,.any,.any,.any,.any,.any]
theorem xG0 (s0 s1 s2 s3 s4 s5 s6 s7 s8 s9 s10 s11 s12 s13 s14 s15 s16 s17 s18 s19 s20 s21 s22 s23 s24 s25 s26 s27 s28 s29 s30 s31 s32 s33 s34 s35 s36 s37 s38 s39 s40 s41 s42 s43 s44 s45 s46 s47 s48 s49 s50 s51 s52 s53 s54 s55 s56 s57 s58 s59 : AV) : xAL xGZ [s0,s1,s2,s3,s4,s5,s6,s7,s8,s9,s10,s11,s12,s13,s14,s15,s16,s17,s18,s19,s20,s21,s22,s23,s24,s25,s26,s27,s28,s29,s30,s31,s32,s33,s34,s35,s36,s37,s38,s39,s40,s41,s42,s43,s44,s45,s46,s47,s48,s49,s50,s51,s52,s53,s54,s55,s56,s57,s58,s59] = xOU s2 s4 s5 s8 s28 s29 s30 := by kernel_rfl
theorem xLY {prog : Nat → Option AFunc} (s2 s4 s5 s8 s28 s29 s30 : AV) (H : Heap) : (lim prog).loop xGZ xQ5 ⟨xOU s2 s4 s5 s8 s28 s29 s30,H⟩ = xBH (lim prog) xGZ xQ5 (run (lim prog) xGY ⟨xOU s2 s4 s5 s8 s28 s29 s30,H⟩) := xAo _ _ _ _ (by kernel_rfl)
def a16 : AFunc := ⟨60,
 .seq (.region [⟨some 2,.box (.t 0),none⟩,
 ⟨some 4,.mov (.c (.sl true 0 [])),none⟩,
 ⟨some 5,.mov (.c (.sl true 0 [])),none⟩,
 ⟨some 6,.mov (.c (.int .i64 0)),none⟩])
 (.seq (.seq (.region [⟨some 11,.load true 5 (.t 2),none⟩,
 ⟨some 12,.call 21 [(.t 11)],none⟩,
 ⟨some 7,.mov (.t 12),none⟩])
 (.seq (.region [⟨some 13,.mov (.t 7),none⟩,
 ⟨some 14,.bin .neq (.t 13) (.c (.int .i64 0)),none⟩])
 (.cond (.t 14)
 (.seq (.region [⟨some 15,.mov (.t 7),none⟩,
 ⟨some 4,.mov (.c (.sl true 0 [])),none⟩,
 ⟨some 5,.mov (.c (.sl true 0 [])),none⟩,
 ⟨some 6,.mov (.t 15),none⟩])
 (.ret))
 (.skip))))
 (.seq (.block 0 (.seq (.region [⟨some 17,.mov (.t 1),none⟩,
 ⟨some 18,.len (.t 17),none⟩,
 ⟨some 19,.bin .gtr (.t 18) (.c (.int .i64 64)),none⟩,
 ⟨some 16,.mov (.t 19),none⟩])
 (.cond (.t 16)
 (.seq (.region [⟨some 4,.mov (.c (.sl true 0 [])),none⟩,
 ⟨some 5,.mov (.c (.sl true 0 [])),none⟩,
 ⟨some 6,.mov (.c (.int .i64 4)),none⟩])
 (.ret))
 (.seq (.region [⟨some 21,.mov (.t 1),none⟩,
 ⟨some 22,.mkfunc 53 [(.t 2)],none⟩,
 ⟨some 23,.icall (.c (.func 52 [])) [(.t 21),(.t 22)],none⟩,
 ⟨some 20,.mov (.t 23),none⟩])
 (.cond (.t 20)
 (.seq (.region [⟨some 4,.mov (.c (.sl true 0 [])),none⟩,
 ⟨some 5,.mov (.c (.sl true 0 [])),none⟩,
 ⟨some 6,.mov (.c (.int .i64 1)),none⟩])
 (.ret))
 (.skip))))))
 (.seq (.region [⟨some 24,.faddr 2 (.t 2),none⟩,
 ⟨some 25,.load false 1 (.t 24),none⟩,
 ⟨some 8,.mov (.t 25),none⟩])
 (.seq (.region [⟨some 26,.mov (.t 8),none⟩,
 ⟨some 27,.bslice false [.int .i64 0] 1 1 [(0,(.t 26))],none⟩,
 ⟨some 5,.mov (.t 27),none⟩])
 (.seq (.seq (.region [⟨some 28,.mov (.t 1),none⟩,
 ⟨some 29,.len (.t 28),none⟩,
 ⟨some 30,.mov (.c (.int .i64 0)),none⟩])
 (.block 1 (.loop xGZ xQ5)))
 (.seq (.region [⟨some 58,.mov (.t 4),none⟩,
 ⟨some 59,.mov (.t 5),none⟩,
 ⟨some 4,.mov (.t 58),none⟩,
 ⟨some 5,.mov (.t 59),none⟩,
 ⟨some 6,.mov (.c (.int .i64 0)),none⟩])
 (.ret))))))),
 [.tmp 4,.tmp 5,.tmp 6]⟩
def xLZ : ACode :=
 .seq (.block 1 (.seq (.seq (.region [⟨some 33,.mov (.t 8),none⟩,
 ⟨some 34,.load true 2 (.t 3),none⟩,
 ⟨some 35,.mov (.t 10),none⟩,
 ⟨some 36,.call 55 [(.t 34),(.t 35)],none⟩,
 ⟨some 37,.build [.int .i64 0,.int .i64 0] [(0,1,(.t 33)),(1,1,(.t 36))],none⟩,
 ⟨some 38,.icall (.c (.func 54 [])) [(.t 9),(.t 37)],none⟩,
 ⟨some 32,.mov (.t 38),none⟩,
 ⟨some 39,.ext 0 (.t 32),none⟩,
 ⟨some 40,.ext 1 (.t 32),none⟩,
 ⟨some 11,.box (.c (.agg [.sl true 0 [],.sl true 0 []])),none⟩,
 ⟨none,.store 2 (.t 11) (.t 39),none⟩,
 ⟨some 12,.mov (.t 40),none⟩])
 (.seq (.region [⟨some 41,.mov (.t 12),none⟩])
 (.cond (.t 41)
 (.seq (.region [⟨some 42,.load true 2 (.t 11),none⟩,
 ⟨none,.store 2 (.t 4) (.t 42),none⟩,
 ⟨some 5,.mov (.c (.int .i64 0)),none⟩])
 (.ret))
 (.skip))))
 (.seq (.region [⟨some 43,.load true 2 (.t 3),none⟩,
 ⟨some 44,.mov (.t 10),none⟩,
 ⟨some 45,.call 47 [(.t 43),(.t 44)],none⟩,
 ⟨some 13,.mov (.t 45),none⟩])
 (.seq (.draw 11 [⟨some 46,.faddr 1 (.t 9),none⟩,
 ⟨some 47,.load false 1 (.t 46),none⟩,
 ⟨some 48,.mov (.t 13),none⟩,
 ⟨some 49,.faddr 4 (.t 2),none⟩,
 ⟨some 50,.load false 1 (.t 49),none⟩,
 ⟨some 51,.mov (.t 8),none⟩,
 ⟨some 52,.iaddr 1 (.t 50) (.t 51),none⟩,
 ⟨some 53,.load false 1 (.t 52),none⟩,
 ⟨some 54,.mov (.t 13),none⟩,
 ⟨some 55,.iaddr 1 (.t 53) (.t 54),none⟩,
 ⟨some 56,.load false 1 (.t 55),none⟩,
 ⟨some 57,.faddr 0 (.t 2),none⟩,
 ⟨some 58,.load false 1 (.t 57),none⟩,
 ⟨some 59,.bin .shl (.t 56) (.t 58),none⟩,
 ⟨some 60,.bin .or (.t 48) (.t 59),none⟩,
 ⟨some 61,.bslice true [.int .u8 0] 1 1 [(0,(.t 60))],none⟩,
 ⟨some 62,.append false 1 1 (.t 47) (.t 61),none⟩,
 ⟨some 63,.faddr 1 (.t 9),none⟩,
 ⟨none,.store 1 (.t 63) (.t 62),none⟩])
 (.region [⟨some 64,.faddr 3 (.t 2),none⟩,
 ⟨some 65,.load false 1 (.t 64),none⟩,
 ⟨some 66,.mov (.t 8),none⟩,
 ⟨some 67,.iaddr 1 (.t 65) (.t 66),none⟩,
 ⟨some 68,.load false 1 (.t 67),none⟩,
 ⟨some 69,.mov (.t 13),none⟩,
 ⟨some 70,.iaddr 1 (.t 68) (.t 69),none⟩,
 ⟨some 71,.load false 1 (.t 70),none⟩,
 ⟨some 8,.mov (.t 71),none⟩])))))
 (.region [⟨some 30,.mov (.t 10),none⟩,
 ⟨some 31,.bin .add (.t 30) (.c (.int .i64 1)),none⟩,
 ⟨some 10,.mov (.t 31),none⟩])
def xOl : ACode := xLZ
def xFM : List Nat := [0,1,6,7,11,12,13,14,15,16,17,18,19,20,21,22,23,24,25,26,27,28,29,30,31,32,33,34,35,36,37,38,39,40,41,42,43,44,45,46,47,48,49,50,51,52,53,54,55,56,57,58,59,60,61,62,63,64,65,66,67,68,69,70,71]
abbrev xOV (s2 s3 s4 s5 s8 s9 s10 : AV) : List AV := [.any,.any,s2,s3,s4,s5,.any,.any,s8,s9,s10,.any,.any,.any,.any,.any,.any,.any,.any,.any,.any,.any,.any,.any,.any,.any,.any,.any,.any,.any,.any,.any,.any,.any,.any,.any,.any,.any,.any,.any,.any,.any,.any,.any,.any,.any,.any,.any,.any,.any,.any,.any,.any,.any,.any,.any,.any,.any,.any,.any,.any,.any,.any,.any,.any,.any,.any,.any,.any,.any,.any,.any]
theorem xL0 (s0 s1 s2 s3 s4 s5 s6 s7 s8 s9 s10 s11 s12 s13 s14 s15 s16 s17 s18 s19 s20 s21 s22 s23 s24 s25 s26 s27 s28 s29 s30 s31 s32 s33 s34 s35 s36 s37 s38 s39 s40 s41 s42 s43 s44 s45 s46 s47 s48 s49 s50 s51 s52 s53 s54 s55 s56 s57 s58 s59 s60 s61 s62 s63 s64 s65 s66 s67 s68 s69 s70 s71 : AV) : xAL xFM [s0,s1,s2,s3,s4,s5,s6,s7,s8,s9,s10,s11,s12,s13,s14,s15,s16,s17,s18,s19,s20,s21,s22,s23,s24,s25,s26,s27,s28,s29,s30,s31,s32,s33,s34,s35,s36,s37,s38,s39,s40,s41,s42,s43,s44,s45,s46,s47,s48,s49,s50,s51,s52,s53,s54,s55,s56,s57,s58,s59,s60,s61,s62,s63,s64,s65,s66,s67,s68,s69,s70,s71] = xOV s2 s3 s4 s5 s8 s9 s10 := by kernel_rfl
theorem xSd {prog : Nat → Option AFunc} (s2 s3 s4 s5 s8 s9 s10 : AV) (H : Heap) : (lim prog).loop xFM xOl ⟨xOV s2 s3 s4 s5 s8 s9 s10,H⟩ = xBH (lim prog) xFM xOl (run (lim prog) xLZ ⟨xOV s2 s3 s4 s5 s8 s9 s10,H⟩) := xAo _ _ _ _ (by kernel_rfl)
def a18 : AFunc := ⟨72,
 .seq (.region [⟨some 2,.box (.t 0),none⟩,
 ⟨some 3,.box (.t 1),none⟩,
 ⟨some 4,.box (.c (.agg [.sl true 0 [],.sl true 0 []])),none⟩,
 ⟨some 5,.mov (.c (.int .i64 0)),none⟩])
 (.seq (.seq (.region [⟨some 14,.load true 5 (.t 2),none⟩,
 ⟨some 15,.call 21 [(.t 14)],none⟩,
 ⟨some 6,.mov (.t 15),none⟩])
 (.seq (.region [⟨some 16,.mov (.t 6),none⟩,
 ⟨some 17,.bin .neq (.t 16) (.c (.int .i64 0)),none⟩])
 (.cond (.t 17)
 (.seq (.region [⟨some 18,.build [.sl true 0 [],.sl true 0 []] [],none⟩,
 ⟨some 19,.mov (.t 6),none⟩,
 ⟨none,.store 2 (.t 4) (.t 18),none⟩,
 ⟨some 5,.mov (.t 19),none⟩])
 (.ret))
 (.skip))))
 (.seq (.seq (.region [⟨some 20,.load true 2 (.t 3),none⟩,
 ⟨some 21,.faddr 0 (.t 2),none⟩,
 ⟨some 22,.load false 1 (.t 21),none⟩,
 ⟨some 23,.call 45 [(.t 20),(.t 22)],none⟩,
 ⟨some 7,.mov (.t 23),none⟩])
 (.seq (.region [⟨some 24,.mov (.t 7),none⟩,
 ⟨some 25,.bin .neq (.t 24) (.c (.int .i64 0)),none⟩])
 (.cond (.t 25)
 (.seq (.region [⟨some 26,.build [.sl true 0 [],.sl true 0 []] [],none⟩,
 ⟨some 27,.mov (.t 7),none⟩,
 ⟨none,.store 2 (.t 4) (.t 26),none⟩,
 ⟨some 5,.mov (.t 27),none⟩])
 (.ret))
 (.skip))))
 (.seq (.region [⟨some 28,.faddr 2 (.t 2),none⟩,
 ⟨some 29,.load false 1 (.t 28),none⟩,
 ⟨some 8,.mov (.t 29),none⟩])
 (.seq (.region [⟨some 9,.box (.c (.agg [.nilm,.sl true 0 []])),none⟩])
 (.seq (.region [⟨some 10,.mov (.c (.int .i64 0)),none⟩])
 (.block 0 (.loop xFM xOl))))))),
 [.cell 4 true 2,.tmp 5]⟩
def xEF : ACode :=
 .seq (.region [⟨some 28,.bin .lss (.t 27) (.t 26),none⟩])
 (.seq (.cond (.t 28)
 (.skip)
 (.exit 0))
 (.seq (.block 1 (.seq (.region [⟨some 29,.mov (.t 27),none⟩,
 ⟨some 30,.iaddr 1 (.t 25) (.t 27),none⟩,
 ⟨some 31,.load false 1 (.t 30),none⟩,
 ⟨some 5,.mov (.t 29),none⟩,
 ⟨some 6,.mov (.t 31),none⟩])
 (.block 2 (.seq (.draw 16 [⟨some 33,.mov (.t 6),none⟩,
 ⟨some 34,.len (.t 33),none⟩,
 ⟨some 35,.faddr 0 (.t 1),none⟩,
 ⟨some 36,.load false 1 (.t 35),none⟩,
 ⟨some 37,.bin .shl (.c (.int .i64 1)) (.t 36),none⟩,
 ⟨some 38,.bin .neq (.t 34) (.t 37),none⟩,
 ⟨some 39,.mov (.t 38),none⟩,
 ⟨some 40,.faddr 4 (.t 1),some (39,false)⟩,
 ⟨some 41,.load false 1 (.t 40),some (39,false)⟩,
 ⟨some 42,.mov (.t 5),some (39,false)⟩,
 ⟨some 43,.iaddr 1 (.t 41) (.t 42),some (39,false)⟩,
 ⟨some 44,.load false 1 (.t 43),some (39,false)⟩,
 ⟨some 45,.len (.t 44),some (39,false)⟩,
 ⟨some 46,.faddr 0 (.t 1),some (39,false)⟩,
 ⟨some 47,.load false 1 (.t 46),some (39,false)⟩,
 ⟨some 48,.bin .shl (.c (.int .i64 1)) (.t 47),some (39,false)⟩,
 ⟨some 49,.bin .neq (.t 45) (.t 48),some (39,false)⟩,
 ⟨some 50,.pick (.t 39) (.c (.bool true)) (.t 49),none⟩,
 ⟨some 32,.mov (.t 50),none⟩])
 (.cond (.t 32)
 (.seq (.region [⟨some 2,.mov (.c (.int .i64 2)),none⟩])
 (.ret))
 (.seq (.region [⟨some 52,.mov (.t 6),none⟩,
 ⟨some 53,.mov (.t 3),none⟩,
 ⟨some 54,.call 60 [(.t 52),(.t 53)],none⟩,
 ⟨some 51,.mov (.t 54),none⟩])
 (.cond (.t 51)
 (.seq (.region [⟨some 2,.mov (.c (.int .i64 8)),none⟩])
 (.ret))
 (.seq (.draw 10 [⟨some 56,.faddr 4 (.t 1),none⟩,
 ⟨some 57,.load false 1 (.t 56),none⟩,
 ⟨some 58,.mov (.t 5),none⟩,
 ⟨some 59,.iaddr 1 (.t 57) (.t 58),none⟩,
 ⟨some 60,.load false 1 (.t 59),none⟩,
 ⟨some 61,.call 61 [(.t 60)],none⟩,
 ⟨some 62,.conv .i64 (.t 61),none⟩,
 ⟨some 63,.faddr 1 (.t 1),none⟩,
 ⟨some 64,.load false 1 (.t 63),none⟩,
 ⟨some 65,.bin .shl (.c (.int .i64 1)) (.t 64),none⟩,
 ⟨some 66,.bin .geq (.t 62) (.t 65),none⟩,
 ⟨some 55,.mov (.t 66),none⟩])
 (.cond (.t 55)
 (.seq (.region [⟨some 2,.mov (.c (.int .i64 1)),none⟩])
 (.ret))
 (.skip))))))))))
 (.region [⟨some 67,.bin .add (.t 27) (.c (.int .i64 1)),none⟩,
 ⟨some 27,.mov (.t 67),none⟩])))
def xVn : ACode := xEF
def xL1 : List Nat := [0,4,5,6,7,8,9,10,11,12,13,14,15,16,17,18,19,20,21,22,23,24,28,29,30,31,32,33,34,35,36,37,38,39,40,41,42,43,44,45,46,47,48,49,50,51,52,53,54,55,56,57,58,59,60,61,62,63,64,65,66,67]
abbrev xIM (s1 s2 s3 s25 s26 s27 : AV) : List AV := [.any,s1,s2,s3,.any,.any,.any,.any,.any,.any,.any,.any,.any,.any,.any,.any,.any,.any,.any,.any,.any,.any,.any,.any,.any,s25,s26,s27,.any,.any,.any,.any,.any,.any,.any,.any,.any,.any,.any,.any,.any,.any,.any,.any,.any,.any,.any,.any,.any,.any,.any,.any,.any,.any,.any,.any,.any,.any,.any,.any,.any,.any,.any,.any,.any,.any,.any,.any]
theorem xEG (s0 s1 s2 s3 s4 s5 s6 s7 s8 s9 s10 s11 s12 s13 s14 s15 s16 s17 s18 s19 s20 s21 s22 s23 s24 s25 s26 s27 s28 s29 s30 s31 s32 s33 s34 s35 s36 s37 s38 s39 s40 s41 s42 s43 s44 s45 s46 s47 s48 s49 s50 s51 s52 s53 s54 s55 s56 s57 s58 s59 s60 s61 s62 s63 s64 s65 s66 s67 : AV) : xAL xL1 [s0,s1,s2,s3,s4,s5,s6,s7,s8,s9,s10,s11,s12,s13,s14,s15,s16,s17,s18,s19,s20,s21,s22,s23,s24,s25,s26,s27,s28,s29,s30,s31,s32,s33,s34,s35,s36,s37,s38,s39,s40,s41,s42,s43,s44,s45,s46,s47,s48,s49,s50,s51,s52,s53,s54,s55,s56,s57,s58,s59,s60,s61,s62,s63,s64,s65,s66,s67] = xIM s1 s2 s3 s25 s26 s27 := by kernel_rfl
theorem xIN {prog : Nat → Option AFunc} (s1 s2 s3 s25 s26 s27 : AV) (H : Heap) : (lim prog).loop xL1 xVn ⟨xIM s1 s2 s3 s25 s26 s27,H⟩ = xBH (lim prog) xL1 xVn (run (lim prog) xEF ⟨xIM s1 s2 s3 s25 s26 s27,H⟩) := xAo _ _ _ _ (by kernel_rfl)
def a21 : AFunc := ⟨68,
 .seq (.region [⟨some 1,.box (.t 0),none⟩,
 ⟨some 2,.mov (.c (.int .i64 0)),none⟩])
 (.seq (.region [⟨some 7,.faddr 3 (.t 1),none⟩,
 ⟨some 8,.load false 1 (.t 7),none⟩,
 ⟨some 9,.len (.t 8),none⟩,
 ⟨some 3,.mov (.t 9),none⟩])
 (.seq (.seq (.region [⟨some 10,.faddr 0 (.t 1),none⟩,
 ⟨some 11,.load false 1 (.t 10),none⟩,
 ⟨some 12,.faddr 1 (.t 1),none⟩,
 ⟨some 13,.load false 1 (.t 12),none⟩,
 ⟨some 14,.mov (.t 3),none⟩,
 ⟨some 15,.faddr 4 (.t 1),none⟩,
 ⟨some 16,.load false 1 (.t 15),none⟩,
 ⟨some 17,.len (.t 16),none⟩,
 ⟨some 18,.faddr 2 (.t 1),none⟩,
 ⟨some 19,.load false 1 (.t 18),none⟩,
 ⟨some 20,.call 59 [(.t 11),(.t 13),(.t 14),(.t 17),(.t 19)],none⟩,
 ⟨some 4,.mov (.t 20),none⟩])
 (.seq (.region [⟨some 21,.mov (.t 4),none⟩,
 ⟨some 22,.bin .neq (.t 21) (.c (.int .i64 0)),none⟩])
 (.cond (.t 22)
 (.seq (.region [⟨some 23,.mov (.t 4),none⟩,
 ⟨some 2,.mov (.t 23),none⟩])
 (.ret))
 (.skip))))
 (.seq (.seq (.region [⟨some 24,.faddr 3 (.t 1),none⟩,
 ⟨some 25,.load false 1 (.t 24),none⟩,
 ⟨some 26,.len (.t 25),none⟩,
 ⟨some 27,.mov (.c (.int .i64 0)),none⟩])
 (.block 0 (.loop xL1 xVn)))
 (.seq (.region [⟨some 2,.mov (.c (.int .i64 0)),none⟩])
 (.ret))))),
 [.tmp 2]⟩
def xIO : ACode :=
 .seq (.seq (.region [⟨some 67,.mov (.t 6),none⟩,
 ⟨some 68,.faddr 4 (.t 1),none⟩,
 ⟨some 69,.load false 1 (.t 68),none⟩,
 ⟨some 70,.mov (.t 5),none⟩,
 ⟨some 71,.iaddr 1 (.t 69) (.t 70),none⟩,
 ⟨some 72,.load false 1 (.t 71),none⟩,
 ⟨some 73,.len (.t 72),none⟩,
 ⟨some 74,.bin .lss (.t 67) (.t 73),none⟩])
 (.cond (.t 74)
 (.skip)
 (.exit 2)))
 (.seq (.block 3 (.seq (.draw 9 [⟨some 77,.faddr 4 (.t 1),none⟩,
 ⟨some 78,.load false 1 (.t 77),none⟩,
 ⟨some 79,.mov (.t 5),none⟩,
 ⟨some 80,.iaddr 1 (.t 78) (.t 79),none⟩,
 ⟨some 81,.load false 1 (.t 80),none⟩,
 ⟨some 82,.mov (.t 6),none⟩,
 ⟨some 83,.iaddr 1 (.t 81) (.t 82),none⟩,
 ⟨some 84,.load false 1 (.t 83),none⟩,
 ⟨some 85,.conv .i64 (.t 84),none⟩,
 ⟨some 86,.faddr 1 (.t 1),none⟩,
 ⟨some 87,.load false 1 (.t 86),none⟩,
 ⟨some 88,.conv .u64 (.t 87),none⟩,
 ⟨some 89,.bin .shl (.c (.int .i64 1)) (.t 88),none⟩,
 ⟨some 90,.bin .geq (.t 85) (.t 89),none⟩])
 (.cond (.t 90)
 (.seq (.region [⟨some 2,.mov (.c (.int .i64 1)),none⟩])
 (.ret))
 (.skip))))
 (.region [⟨some 75,.mov (.t 6),none⟩,
 ⟨some 76,.bin .add (.t 75) (.c (.int .i64 1)),none⟩,
 ⟨some 6,.mov (.t 76),none⟩]))
def xVo : ACode := xIO
def xL2 : List Nat := [0,3,4,7,8,9,10,11,12,13,14,15,16,17,18,19,20,21,22,23,24,25,26,27,28,29,30,31,32,33,34,35,36,37,38,39,40,41,42,43,44,45,46,47,48,49,50,51,52,53,54,55,56,57,58,59,60,61,62,63,64,65,66,67,68,69,70,71,72,73,74,75,76,77,78,79,80,81,82,83,84,85,86,87,88,89,90]
abbrev xIP (s1 s2 s5 s6 : AV) : List AV := [.any,s1,s2,.any,.any,s5,s6,.any,.any,.any,.any,.any,.any,.any,.any,.any,.any,.any,.any,.any,.any,.any,.any,.any,.any,.any,.any,.any,.any,.any,.any,.any,.any,.any,.any,.any,.any,.any,.any,.any,.any,.any,.any,.any,.any,.any,.any,.any,.any,.any,.any,.any,.any,.any,.any,.any,.any,.any,.any,.any,.any,.any,.any,.any,.any,.any,.any,.any,.any,.any,.any,.any,.any,.any,.any,.any,.any,.any,.any,.any,.any,.any,.any,.any,.any,.any,.any,.any,.any,.any,.any]
theorem xG1 (s0 s1 s2 s3 s4 s5 s6 s7 s8 s9 s10 s11 s12 s13 s14 s15 s16 s17 s18 s19 s20 s21 s22 s23 s24 s25 s26 s27 s28 s29 s30 s31 s32 s33 s34 s35 s36 s37 s38 s39 s40 s41 s42 s43 s44 s45 s46 s47 s48 s49 s50 s51 s52 s53 s54 s55 s56 s57 s58 s59 s60 s61 s62 s63 s64 s65 s66 s67 s68 s69 s70 s71 s72 s73 s74 s75 s76 s77 s78 s79 s80 s81 s82 s83 s84 s85 s86 s87 s88 s89 s90 : AV) : xAL xL2 [s0,s1,s2,s3,s4,s5,s6,s7,s8,s9,s10,s11,s12,s13,s14,s15,s16,s17,s18,s19,s20,s21,s22,s23,s24,s25,s26,s27,s28,s29,s30,s31,s32,s33,s34,s35,s36,s37,s38,s39,s40,s41,s42,s43,s44,s45,s46,s47,s48,s49,s50,s51,s52,s53,s54,s55,s56,s57,s58,s59,s60,s61,s62,s63,s64,s65,s66,s67,s68,s69,s70,s71,s72,s73,s74,s75,s76,s77,s78,s79,s80,s81,s82,s83,s84,s85,s86,s87,s88,s89,s90] = xIP s1 s2 s5 s6 := by kernel_rfl
theorem xSe {prog : Nat → Option AFunc} (s1 s2 s5 s6 : AV) (H : Heap) : (lim prog).loop xL2 xVo ⟨xIP s1 s2 s5 s6,H⟩ = xBH (lim prog) xL2 xVo (run (lim prog) xIO ⟨xIP s1 s2 s5 s6,H⟩) := xAo _ _ _ _ (by kernel_rfl)
def xEH : ACode :=
 .seq (.seq (.region [⟨some 26,.mov (.t 5),none⟩,
 ⟨some 27,.faddr 3 (.t 1),none⟩,
 ⟨some 28,.load false 1 (.t 27),none⟩,
 ⟨some 29,.len (.t 28),none⟩,
 ⟨some 30,.bin .lss (.t 26) (.t 29),none⟩])
 (.cond (.t 30)
 (.skip)
 (.exit 0)))
 (.seq (.block 1 (.seq (.seq (.draw 22 [⟨some 33,.faddr 3 (.t 1),none⟩,
 ⟨some 34,.load false 1 (.t 33),none⟩,
 ⟨some 35,.mov (.t 5),none⟩,
 ⟨some 36,.iaddr 1 (.t 34) (.t 35),none⟩,
 ⟨some 37,.load false 1 (.t 36),none⟩,
 ⟨some 38,.len (.t 37),none⟩,
 ⟨some 39,.faddr 0 (.t 1),none⟩,
 ⟨some 40,.load false 1 (.t 39),none⟩,
 ⟨some 41,.conv .u64 (.t 40),none⟩,
 ⟨some 42,.bin .shl (.c (.int .i64 1)) (.t 41),none⟩,
 ⟨some 43,.bin .neq (.t 38) (.t 42),none⟩,
 ⟨some 44,.mov (.t 43),none⟩,
 ⟨some 45,.faddr 4 (.t 1),some (44,false)⟩,
 ⟨some 46,.load false 1 (.t 45),some (44,false)⟩,
 ⟨some 47,.mov (.t 5),some (44,false)⟩,
 ⟨some 48,.iaddr 1 (.t 46) (.t 47),some (44,false)⟩,
 ⟨some 49,.load false 1 (.t 48),some (44,false)⟩,
 ⟨some 50,.len (.t 49),some (44,false)⟩,
 ⟨some 51,.faddr 0 (.t 1),some (44,false)⟩,
 ⟨some 52,.load false 1 (.t 51),some (44,false)⟩,
 ⟨some 53,.conv .u64 (.t 52),some (44,false)⟩,
 ⟨some 54,.bin .shl (.c (.int .i64 1)) (.t 53),some (44,false)⟩,
 ⟨some 55,.bin .neq (.t 50) (.t 54),some (44,false)⟩,
 ⟨some 56,.pick (.t 44) (.c (.bool true)) (.t 55),none⟩])
 (.cond (.t 56)
 (.seq (.region [⟨some 2,.mov (.c (.int .i64 2)),none⟩])
 (.ret))
 (.skip)))
 (.seq (.seq (.draw 5 [⟨some 57,.faddr 3 (.t 1),none⟩,
 ⟨some 58,.load false 1 (.t 57),none⟩,
 ⟨some 59,.mov (.t 5),none⟩,
 ⟨some 60,.iaddr 1 (.t 58) (.t 59),none⟩,
 ⟨some 61,.load false 1 (.t 60),none⟩,
 ⟨some 62,.faddr 3 (.t 1),none⟩,
 ⟨some 63,.load false 1 (.t 62),none⟩,
 ⟨some 64,.len (.t 63),none⟩,
 ⟨some 65,.call 64 [(.t 61),(.t 64)],none⟩,
 ⟨some 66,.un .not (.t 65),none⟩])
 (.cond (.t 66)
 (.seq (.region [⟨some 2,.mov (.c (.int .i64 8)),none⟩])
 (.ret))
 (.skip)))
 (.seq (.region [⟨some 6,.mov (.c (.int .i64 0)),none⟩])
 (.block 2 (.loop xL2 xVo))))))
 (.region [⟨some 31,.mov (.t 5),none⟩,
 ⟨some 32,.bin .add (.t 31) (.c (.int .i64 1)),none⟩,
 ⟨some 5,.mov (.t 32),none⟩]))
def xVp : ACode := xEH
def xL3 : List Nat := [0,3,4,6,7,8,9,10,11,12,13,14,15,16,17,18,19,20,21,22,23,24,25,26,27,28,29,30,31,32,33,34,35,36,37,38,39,40,41,42,43,44,45,46,47,48,49,50,51,52,53,54,55,56,57,58,59,60,61,62,63,64,65,66,67,68,69,70,71,72,73,74,75,76,77,78,79,80,81,82,83,84,85,86,87,88,89,90]
abbrev xIQ (s1 s2 s5 : AV) : List AV := [.any,s1,s2,.any,.any,s5,.any,.any,.any,.any,.any,.any,.any,.any,.any,.any,.any,.any,.any,.any,.any,.any,.any,.any,.any,.any,.any,.any,.any,.any,.any,.any,.any,.any,.any,.any,.any,.any,.any,.any,.any,.any,.any,.any,.any,.any,.any,.any,.any,.any,.any,.any,.any,.any,.any,.any,.any,.any,.any,.any,.any,.any,.any,.any,.any,.any,.any,.any,.any,.any,.any,.any,.any,.any,.any,.any,.any,.any,.any,.any,.any,.any,.any,.any,.any,.any,.any,.any,.any,.any,.any]
theorem xEI (s0 s1 s2 s3 s4 s5 s6 s7 s8 s9 s10 s11 s12 s13 s14 s15 s16 s17 s18 s19 s20 s21 s22 s23 s24 s25 s26 s27 s28 s29 s30 s31 s32 s33 s34 s35 s36 s37 s38 s39 s40 s41 s42 s43 s44 s45 s46 s47 s48 s49 s50 s51 s52 s53 s54 s55 s56 s57 s58 s59 s60 s61 s62 s63 s64 s65 s66 s67 s68 s69 s70 s71 s72 s73 s74 s75 s76 s77 s78 s79 s80 s81 s82 s83 s84 s85 s86 s87 s88 s89 s90 : AV) : xAL xL3 [s0,s1,s2,s3,s4,s5,s6,s7,s8,s9,s10,s11,s12,s13,s14,s15,s16,s17,s18,s19,s20,s21,s22,s23,s24,s25,s26,s27,s28,s29,s30,s31,s32,s33,s34,s35,s36,s37,s38,s39,s40,s41,s42,s43,s44,s45,s46,s47,s48,s49,s50,s51,s52,s53,s54,s55,s56,s57,s58,s59,s60,s61,s62,s63,s64,s65,s66,s67,s68,s69,s70,s71,s72,s73,s74,s75,s76,s77,s78,s79,s80,s81,s82,s83,s84,s85,s86,s87,s88,s89,s90] = xIQ s1 s2 s5 := by kernel_rfl
theorem xIR {prog : Nat → Option AFunc} (s1 s2 s5 : AV) (H : Heap) : (lim prog).loop xL3 xVp ⟨xIQ s1 s2 s5,H⟩ = xBH (lim prog) xL3 xVp (run (lim prog) xEH ⟨xIQ s1 s2 s5,H⟩) := xAo _ _ _ _ (by kernel_rfl)
def a22 : AFunc := ⟨91,
 .seq (.region [⟨some 1,.box (.t 0),none⟩,
 ⟨some 2,.mov (.c (.int .i64 0)),none⟩])
 (.seq (.seq (.region [⟨some 7,.faddr 0 (.t 1),none⟩,
 ⟨some 8,.load false 1 (.t 7),none⟩,
 ⟨some 9,.faddr 1 (.t 1),none⟩,
 ⟨some 10,.load false 1 (.t 9),none⟩,
 ⟨some 11,.call 62 [(.t 8),(.t 10)],none⟩,
 ⟨some 3,.mov (.t 11),none⟩])
 (.seq (.region [⟨some 12,.mov (.t 3),none⟩,
 ⟨some 13,.bin .neq (.t 12) (.c (.int .i64 0)),none⟩])
 (.cond (.t 13)
 (.seq (.region [⟨some 14,.mov (.t 3),none⟩,
 ⟨some 2,.mov (.t 14),none⟩])
 (.ret))
 (.skip))))
 (.seq (.seq (.region [⟨some 15,.faddr 3 (.t 1),none⟩,
 ⟨some 16,.load false 1 (.t 15),none⟩,
 ⟨some 17,.faddr 4 (.t 1),none⟩,
 ⟨some 18,.load false 1 (.t 17),none⟩,
 ⟨some 19,.len (.t 18),none⟩,
 ⟨some 20,.faddr 2 (.t 1),none⟩,
 ⟨some 21,.load false 1 (.t 20),none⟩,
 ⟨some 22,.call 63 [(.t 16),(.t 19),(.t 21)],none⟩,
 ⟨some 4,.mov (.t 22),none⟩])
 (.seq (.region [⟨some 23,.mov (.t 4),none⟩,
 ⟨some 24,.bin .neq (.t 23) (.c (.int .i64 0)),none⟩])
 (.cond (.t 24)
 (.seq (.region [⟨some 25,.mov (.t 4),none⟩,
 ⟨some 2,.mov (.t 25),none⟩])
 (.ret))
 (.skip))))
 (.seq (.seq (.region [⟨some 5,.mov (.c (.int .i64 0)),none⟩])
 (.block 0 (.loop xL3 xVp)))
 (.seq (.region [⟨some 2,.mov (.c (.int .i64 0)),none⟩])
 (.ret))))),
 [.tmp 2]⟩
def xIS : ACode :=
 .seq (.seq (.region [⟨some 11,.mov (.t 5),none⟩,
 ⟨some 12,.mov (.t 0),none⟩,
 ⟨some 13,.len (.t 12),none⟩,
 ⟨some 14,.bin .lss (.t 11) (.t 13),none⟩])
 (.cond (.t 14)
 (.skip)
 (.exit 0)))
 (.seq (.block 1 (.seq (.draw 5 [⟨some 17,.mov (.t 0),none⟩,
 ⟨some 18,.mov (.t 5),none⟩,
 ⟨some 19,.iaddr 1 (.t 17) (.t 18),none⟩,
 ⟨some 20,.load false 1 (.t 19),none⟩,
 ⟨some 21,.mov (.t 1),none⟩,
 ⟨some 22,.mov (.t 5),none⟩,
 ⟨some 23,.iaddr 1 (.t 21) (.t 22),none⟩,
 ⟨some 24,.load false 1 (.t 23),none⟩,
 ⟨some 25,.bin .neq (.t 20) (.t 24),none⟩])
 (.cond (.t 25)
 (.seq (.region [⟨some 4,.mov (.c (.bool false)),none⟩])
 (.ret))
 (.skip))))
 (.region [⟨some 15,.mov (.t 5),none⟩,
 ⟨some 16,.bin .add (.t 15) (.c (.int .i64 1)),none⟩,
 ⟨some 5,.mov (.t 16),none⟩]))
def xVq : ACode := xIS
def xL4 : List Nat := [2,3,6,7,8,9,10,11,12,13,14,15,16,17,18,19,20,21,22,23,24,25]
abbrev xIT (s0 s1 s4 s5 : AV) : List AV := [s0,s1,.any,.any,s4,s5,.any,.any,.any,.any,.any,.any,.any,.any,.any,.any,.any,.any,.any,.any,.any,.any,.any,.any,.any,.any]
theorem xIU (s0 s1 s2 s3 s4 s5 s6 s7 s8 s9 s10 s11 s12 s13 s14 s15 s16 s17 s18 s19 s20 s21 s22 s23 s24 s25 : AV) : xAL xL4 [s0,s1,s2,s3,s4,s5,s6,s7,s8,s9,s10,s11,s12,s13,s14,s15,s16,s17,s18,s19,s20,s21,s22,s23,s24,s25] = xIT s0 s1 s4 s5 := by kernel_rfl
theorem xSf {prog : Nat → Option AFunc} (s0 s1 s4 s5 : AV) (H : Heap) : (lim prog).loop xL4 xVq ⟨xIT s0 s1 s4 s5,H⟩ = xBH (lim prog) xL4 xVq (run (lim prog) xIS ⟨xIT s0 s1 s4 s5,H⟩) := xAo _ _ _ _ (by kernel_rfl)
def a23 : AFunc := ⟨26,
 .seq (.region [⟨some 4,.mov (.c (.bool false)),none⟩])
 (.seq (.seq (.region [⟨some 6,.mov (.t 0),none⟩,
 ⟨some 7,.len (.t 6),none⟩,
 ⟨some 8,.mov (.t 1),none⟩,
 ⟨some 9,.len (.t 8),none⟩,
 ⟨some 10,.bin .neq (.t 7) (.t 9),none⟩])
 (.cond (.t 10)
 (.seq (.region [⟨some 4,.mov (.c (.bool false)),none⟩])
 (.ret))
 (.skip)))
 (.seq (.seq (.region [⟨some 5,.mov (.c (.int .i64 0)),none⟩])
 (.block 0 (.loop xL4 xVq)))
 (.seq (.region [⟨some 4,.mov (.c (.bool true)),none⟩])
 (.ret)))),
 [.tmp 4]⟩
def xZc : ACode :=
 .seq (.seq (.region [⟨some 11,.mov (.t 5),none⟩,
 ⟨some 12,.mov (.t 0),none⟩,
 ⟨some 13,.len (.t 12),none⟩,
 ⟨some 14,.bin .lss (.t 11) (.t 13),none⟩])
 (.cond (.t 14)
 (.skip)
 (.exit 0)))
 (.seq (.block 1 (.seq (.draw 5 [⟨some 17,.mov (.t 0),none⟩,
 ⟨some 18,.mov (.t 5),none⟩,
 ⟨some 19,.iaddr 1 (.t 17) (.t 18),none⟩,
 ⟨some 20,.load false 1 (.t 19),none⟩,
 ⟨some 21,.mov (.t 1),none⟩,
 ⟨some 22,.mov (.t 5),none⟩,
 ⟨some 23,.iaddr 1 (.t 21) (.t 22),none⟩,
 ⟨some 24,.load false 1 (.t 23),none⟩,
 ⟨some 25,.bin .neq (.t 20) (.t 24),none⟩])
 (.cond (.t 25)
 (.seq (.region [⟨some 4,.mov (.c (.bool false)),none⟩])
 (.ret))
 (.skip))))
 (.region [⟨some 15,.mov (.t 5),none⟩,
 ⟨some 16,.bin .add (.t 15) (.c (.int .i64 1)),none⟩,
 ⟨some 5,.mov (.t 16),none⟩]))
def yAN : ACode := xZc
def xZd : List Nat := [2,3,6,7,8,9,10,11,12,13,14,15,16,17,18,19,20,21,22,23,24,25]
def a24 : AFunc := ⟨26,
 .seq (.region [⟨some 4,.mov (.c (.bool false)),none⟩])
 (.seq (.seq (.region [⟨some 6,.mov (.t 0),none⟩,
 ⟨some 7,.len (.t 6),none⟩,
 ⟨some 8,.mov (.t 1),none⟩,
 ⟨some 9,.len (.t 8),none⟩,
 ⟨some 10,.bin .neq (.t 7) (.t 9),none⟩])
 (.cond (.t 10)
 (.seq (.region [⟨some 4,.mov (.c (.bool false)),none⟩])
 (.ret))
 (.skip)))
 (.seq (.seq (.region [⟨some 5,.mov (.c (.int .i64 0)),none⟩])
 (.block 0 (.loop xZd yAN)))
 (.seq (.region [⟨some 4,.mov (.c (.bool true)),none⟩])
 (.ret)))),
 [.tmp 4]⟩
def a25 : AFunc := ⟨17,
 .seq (.region [⟨some 2,.box (.t 0),none⟩,
 ⟨some 3,.box (.t 1),none⟩,
 ⟨some 4,.mov (.c (.bool false)),none⟩])
 (.seq (.region [⟨some 5,.faddr 0 (.t 2),none⟩,
 ⟨some 6,.load false 1 (.t 5),none⟩,
 ⟨some 7,.faddr 0 (.t 3),none⟩,
 ⟨some 8,.load false 1 (.t 7),none⟩,
 ⟨some 9,.call 65 [(.t 6),(.t 8)],none⟩,
 ⟨some 10,.mov (.t 9),none⟩,
 ⟨some 11,.faddr 1 (.t 2),some (10,true)⟩,
 ⟨some 12,.load false 1 (.t 11),some (10,true)⟩,
 ⟨some 13,.faddr 1 (.t 3),some (10,true)⟩,
 ⟨some 14,.load false 1 (.t 13),some (10,true)⟩,
 ⟨some 15,.call 65 [(.t 12),(.t 14)],some (10,true)⟩,
 ⟨some 16,.pick (.t 10) (.t 15) (.c (.bool false)),none⟩,
 ⟨some 4,.mov (.t 16),none⟩])
 (.ret)),
 [.tmp 4]⟩
def a29 : AFunc := ⟨38,
 .seq (.region [⟨some 2,.box (.t 0),none⟩,
 ⟨some 3,.box (.t 1),none⟩,
 ⟨some 4,.mov (.c (.bool false)),none⟩])
 (.seq (.region [⟨some 5,.faddr 0 (.t 2),none⟩,
 ⟨some 6,.load false 1 (.t 5),none⟩,
 ⟨some 7,.faddr 0 (.t 3),none⟩,
 ⟨some 8,.load false 1 (.t 7),none⟩,
 ⟨some 9,.bin .eql (.t 6) (.t 8),none⟩,
 ⟨some 10,.mov (.t 9),none⟩,
 ⟨some 11,.faddr 1 (.t 2),some (10,true)⟩,
 ⟨some 12,.load false 1 (.t 11),some (10,true)⟩,
 ⟨some 13,.faddr 1 (.t 3),some (10,true)⟩,
 ⟨some 14,.load false 1 (.t 13),some (10,true)⟩,
 ⟨some 15,.bin .eql (.t 12) (.t 14),some (10,true)⟩,
 ⟨some 16,.pick (.t 10) (.t 15) (.c (.bool false)),none⟩,
 ⟨some 17,.mov (.t 16),none⟩,
 ⟨some 18,.faddr 2 (.t 2),some (17,true)⟩,
 ⟨some 19,.load false 1 (.t 18),some (17,true)⟩,
 ⟨some 20,.faddr 2 (.t 3),some (17,true)⟩,
 ⟨some 21,.load false 1 (.t 20),some (17,true)⟩,
 ⟨some 22,.bin .eql (.t 19) (.t 21),some (17,true)⟩,
 ⟨some 23,.pick (.t 17) (.t 22) (.c (.bool false)),none⟩,
 ⟨some 24,.mov (.t 23),none⟩,
 ⟨some 25,.faddr 3 (.t 2),some (24,true)⟩,
 ⟨some 26,.load false 1 (.t 25),some (24,true)⟩,
 ⟨some 27,.faddr 3 (.t 3),some (24,true)⟩,
 ⟨some 28,.load false 1 (.t 27),some (24,true)⟩,
 ⟨some 29,.call 66 [(.t 26),(.t 28)],some (24,true)⟩,
 ⟨some 30,.pick (.t 24) (.t 29) (.c (.bool false)),none⟩,
 ⟨some 31,.mov (.t 30),none⟩,
 ⟨some 32,.faddr 4 (.t 2),some (31,true)⟩,
 ⟨some 33,.load false 1 (.t 32),some (31,true)⟩,
 ⟨some 34,.faddr 4 (.t 3),some (31,true)⟩,
 ⟨some 35,.load false 1 (.t 34),some (31,true)⟩,
 ⟨some 36,.call 67 [(.t 33),(.t 35)],some (31,true)⟩,
 ⟨some 37,.pick (.t 31) (.t 36) (.c (.bool false)),none⟩,
 ⟨some 4,.mov (.t 37),none⟩])
 (.ret)),
 [.tmp 4]⟩
def xZe : ACode :=
 .block 1 (.seq (.seq (.region [⟨some 45,.load true 2 (.t 8),none⟩,
 ⟨some 46,.icall (.c (.func 68 [])) [(.t 9),(.t 45)],none⟩,
 ⟨some 44,.mov (.t 46),none⟩,
 ⟨some 47,.ext 0 (.t 44),none⟩,
 ⟨some 48,.ext 1 (.t 44),none⟩,
 ⟨some 10,.box (.c (.agg [.sl true 0 [],.sl true 0 []])),none⟩,
 ⟨none,.store 2 (.t 10) (.t 47),none⟩,
 ⟨some 11,.mov (.t 48),none⟩])
 (.seq (.region [⟨some 49,.mov (.t 11),none⟩])
 (.cond (.t 49)
 (.seq (.region [⟨some 50,.load true 2 (.t 10),none⟩,
 ⟨none,.store 2 (.t 4) (.t 50),none⟩,
 ⟨some 5,.mov (.c (.int .i64 0)),none⟩])
 (.ret))
 (.skip))))
 (.seq (.region [⟨some 51,.faddr 3 (.t 3),none⟩,
 ⟨some 52,.load false 1 (.t 51),none⟩,
 ⟨some 53,.faddr 1 (.t 8),none⟩,
 ⟨some 54,.load false 1 (.t 53),none⟩,
 ⟨some 55,.iaddr 1 (.t 52) (.t 54),none⟩,
 ⟨some 56,.load false 1 (.t 55),none⟩,
 ⟨some 12,.mov (.t 56),none⟩])
 (.seq (.region [⟨some 57,.faddr 4 (.t 2),none⟩,
 ⟨some 58,.load false 1 (.t 57),none⟩,
 ⟨some 59,.faddr 0 (.t 8),none⟩,
 ⟨some 60,.load false 1 (.t 59),none⟩,
 ⟨some 61,.iaddr 1 (.t 58) (.t 60),none⟩,
 ⟨some 62,.load false 1 (.t 61),none⟩,
 ⟨some 63,.mov (.t 12),none⟩,
 ⟨some 64,.iaddr 1 (.t 62) (.t 63),none⟩,
 ⟨some 65,.load false 1 (.t 64),none⟩,
 ⟨some 13,.mov (.t 65),none⟩])
 (.seq (.draw 4 [⟨some 66,.faddr 1 (.t 9),none⟩,
 ⟨some 67,.load false 1 (.t 66),none⟩,
 ⟨some 68,.mov (.t 12),none⟩,
 ⟨some 69,.mov (.t 13),none⟩,
 ⟨some 70,.faddr 0 (.t 2),none⟩,
 ⟨some 71,.load false 1 (.t 70),none⟩,
 ⟨some 72,.bin .shl (.t 69) (.t 71),none⟩,
 ⟨some 73,.bin .or (.t 68) (.t 72),none⟩,
 ⟨some 74,.bslice true [.int .u8 0] 1 1 [(0,(.t 73))],none⟩,
 ⟨some 75,.append false 1 1 (.t 67) (.t 74),none⟩,
 ⟨some 76,.faddr 1 (.t 9),none⟩,
 ⟨none,.store 1 (.t 76) (.t 75),none⟩])
 (.draw 15 [⟨some 77,.faddr 3 (.t 2),none⟩,
 ⟨some 78,.load false 1 (.t 77),none⟩,
 ⟨some 79,.faddr 0 (.t 8),none⟩,
 ⟨some 80,.load false 1 (.t 79),none⟩,
 ⟨some 81,.iaddr 1 (.t 78) (.t 80),none⟩,
 ⟨some 82,.load false 1 (.t 81),none⟩,
 ⟨some 83,.mov (.t 12),none⟩,
 ⟨some 84,.iaddr 1 (.t 82) (.t 83),none⟩,
 ⟨some 85,.load false 1 (.t 84),none⟩,
 ⟨some 86,.faddr 4 (.t 3),none⟩,
 ⟨some 87,.load false 1 (.t 86),none⟩,
 ⟨some 88,.faddr 1 (.t 8),none⟩,
 ⟨some 89,.load false 1 (.t 88),none⟩,
 ⟨some 90,.iaddr 1 (.t 87) (.t 89),none⟩,
 ⟨some 91,.load false 1 (.t 90),none⟩,
 ⟨some 92,.mov (.t 13),none⟩,
 ⟨some 93,.iaddr 1 (.t 91) (.t 92),none⟩,
 ⟨some 94,.load false 1 (.t 93),none⟩,
 ⟨some 95,.build [.int .i64 0,.int .i64 0] [(0,1,(.t 85)),(1,1,(.t 94))],none⟩,
 ⟨none,.store 2 (.t 8) (.t 95),none⟩])))))
def yAO : ACode := xZe
def xZf : List Nat := [0,1,6,7,10,11,12,13,14,15,16,17,18,19,20,21,22,23,24,25,26,27,28,29,30,31,32,33,34,35,36,37,38,39,40,41,42,43,44,45,46,47,48,49,50,51,52,53,54,55,56,57,58,59,60,61,62,63,64,65,66,67,68,69,70,71,72,73,74,75,76,77,78,79,80,81,82,83,84,85,86,87,88,89,90,91,92,93,94,95]
def a31 : AFunc := ⟨96,
 .seq (.region [⟨some 2,.box (.t 0),none⟩,
 ⟨some 3,.box (.t 1),none⟩,
 ⟨some 4,.box (.c (.agg [.sl true 0 [],.sl true 0 []])),none⟩,
 ⟨some 5,.mov (.c (.int .i64 0)),none⟩])
 (.seq (.seq (.region [⟨some 14,.load true 5 (.t 2),none⟩,
 ⟨some 15,.call 21 [(.t 14)],none⟩,
 ⟨some 6,.mov (.t 15),none⟩])
 (.seq (.region [⟨some 16,.mov (.t 6),none⟩,
 ⟨some 17,.bin .neq (.t 16) (.c (.int .i64 0)),none⟩])
 (.cond (.t 17)
 (.seq (.region [⟨some 18,.build [.sl true 0 [],.sl true 0 []] [],none⟩,
 ⟨some 19,.mov (.t 6),none⟩,
 ⟨none,.store 2 (.t 4) (.t 18),none⟩,
 ⟨some 5,.mov (.t 19),none⟩])
 (.ret))
 (.skip))))
 (.seq (.seq (.region [⟨some 20,.load true 5 (.t 3),none⟩,
 ⟨some 21,.call 33 [(.t 20)],none⟩,
 ⟨some 7,.mov (.t 21),none⟩])
 (.seq (.region [⟨some 22,.mov (.t 7),none⟩,
 ⟨some 23,.bin .neq (.t 22) (.c (.int .i64 0)),none⟩])
 (.cond (.t 23)
 (.seq (.region [⟨some 24,.build [.sl true 0 [],.sl true 0 []] [],none⟩,
 ⟨some 25,.mov (.t 7),none⟩,
 ⟨none,.store 2 (.t 4) (.t 24),none⟩,
 ⟨some 5,.mov (.t 25),none⟩])
 (.ret))
 (.skip))))
 (.seq (.seq (.region [⟨some 26,.faddr 0 (.t 2),none⟩,
 ⟨some 27,.load false 1 (.t 26),none⟩,
 ⟨some 28,.faddr 0 (.t 3),none⟩,
 ⟨some 29,.load false 1 (.t 28),none⟩,
 ⟨some 30,.bin .neq (.t 27) (.t 29),none⟩,
 ⟨some 31,.mov (.t 30),none⟩,
 ⟨some 32,.faddr 1 (.t 2),some (31,false)⟩,
 ⟨some 33,.load false 1 (.t 32),some (31,false)⟩,
 ⟨some 34,.faddr 1 (.t 3),some (31,false)⟩,
 ⟨some 35,.load false 1 (.t 34),some (31,false)⟩,
 ⟨some 36,.bin .neq (.t 33) (.t 35),some (31,false)⟩,
 ⟨some 37,.pick (.t 31) (.c (.bool true)) (.t 36),none⟩])
 (.cond (.t 37)
 (.seq (.region [⟨some 38,.build [.sl true 0 [],.sl true 0 []] [],none⟩,
 ⟨none,.store 2 (.t 4) (.t 38),none⟩,
 ⟨some 5,.mov (.c (.int .i64 16)),none⟩])
 (.ret))
 (.skip)))
 (.seq (.region [⟨some 39,.faddr 2 (.t 2),none⟩,
 ⟨some 40,.load false 1 (.t 39),none⟩,
 ⟨some 41,.faddr 2 (.t 3),none⟩,
 ⟨some 42,.load false 1 (.t 41),none⟩,
 ⟨some 43,.build [.int .i64 0,.int .i64 0] [(0,1,(.t 40)),(1,1,(.t 42))],none⟩,
 ⟨some 8,.box (.c (.agg [.int .i64 0,.int .i64 0])),none⟩,
 ⟨none,.store 2 (.t 8) (.t 43),none⟩])
 (.seq (.region [⟨some 9,.box (.c (.agg [.nilm,.sl true 0 []])),none⟩])
 (.block 0 (.loop xZf yAO))))))),
 [.cell 4 true 2,.tmp 5]⟩
def xZg : ACode :=
 .seq (.region [⟨some 28,.bin .lss (.t 27) (.t 26),none⟩])
 (.seq (.cond (.t 28)
 (.skip)
 (.exit 0))
 (.seq (.block 1 (.seq (.region [⟨some 29,.mov (.t 27),none⟩,
 ⟨some 30,.iaddr 1 (.t 25) (.t 27),none⟩,
 ⟨some 31,.load false 1 (.t 30),none⟩,
 ⟨some 5,.mov (.t 29),none⟩,
 ⟨some 6,.mov (.t 31),none⟩])
 (.block 2 (.seq (.region [⟨some 33,.mov (.t 6),none⟩,
 ⟨some 34,.len (.t 33),none⟩,
 ⟨some 35,.faddr 1 (.t 1),none⟩,
 ⟨some 36,.load false 1 (.t 35),none⟩,
 ⟨some 37,.bin .shl (.c (.int .i64 1)) (.t 36),none⟩,
 ⟨some 38,.bin .neq (.t 34) (.t 37),none⟩,
 ⟨some 32,.mov (.t 38),none⟩])
 (.cond (.t 32)
 (.seq (.region [⟨some 2,.mov (.c (.int .i64 2)),none⟩])
 (.ret))
 (.seq (.region [⟨some 40,.mov (.t 6),none⟩,
 ⟨some 41,.mov (.t 3),none⟩,
 ⟨some 42,.call 60 [(.t 40),(.t 41)],none⟩,
 ⟨some 39,.mov (.t 42),none⟩])
 (.cond (.t 39)
 (.seq (.region [⟨some 2,.mov (.c (.int .i64 8)),none⟩])
 (.ret))
 (.seq (.draw 6 [⟨some 44,.faddr 3 (.t 1),none⟩,
 ⟨some 45,.load false 1 (.t 44),none⟩,
 ⟨some 46,.mov (.t 5),none⟩,
 ⟨some 47,.iaddr 1 (.t 45) (.t 46),none⟩,
 ⟨some 48,.load false 1 (.t 47),none⟩,
 ⟨some 49,.conv .i64 (.t 48),none⟩,
 ⟨some 50,.faddr 0 (.t 1),none⟩,
 ⟨some 51,.load false 1 (.t 50),none⟩,
 ⟨some 52,.bin .shl (.c (.int .i64 1)) (.t 51),none⟩,
 ⟨some 53,.bin .geq (.t 49) (.t 52),none⟩,
 ⟨some 43,.mov (.t 53),none⟩])
 (.cond (.t 43)
 (.seq (.region [⟨some 2,.mov (.c (.int .i64 1)),none⟩])
 (.ret))
 (.skip))))))))))
 (.region [⟨some 54,.bin .add (.t 27) (.c (.int .i64 1)),none⟩,
 ⟨some 27,.mov (.t 54),none⟩])))
def yAP : ACode := xZg
def xZh : List Nat := [0,4,5,6,7,8,9,10,11,12,13,14,15,16,17,18,19,20,21,22,23,24,28,29,30,31,32,33,34,35,36,37,38,39,40,41,42,43,44,45,46,47,48,49,50,51,52,53,54]
def a33 : AFunc := ⟨55,
 .seq (.region [⟨some 1,.box (.t 0),none⟩,
 ⟨some 2,.mov (.c (.int .i64 0)),none⟩])
 (.seq (.region [⟨some 7,.faddr 4 (.t 1),none⟩,
 ⟨some 8,.load false 1 (.t 7),none⟩,
 ⟨some 9,.len (.t 8),none⟩,
 ⟨some 3,.mov (.t 9),none⟩])
 (.seq (.seq (.region [⟨some 10,.faddr 0 (.t 1),none⟩,
 ⟨some 11,.load false 1 (.t 10),none⟩,
 ⟨some 12,.faddr 1 (.t 1),none⟩,
 ⟨some 13,.load false 1 (.t 12),none⟩,
 ⟨some 14,.mov (.t 3),none⟩,
 ⟨some 15,.faddr 3 (.t 1),none⟩,
 ⟨some 16,.load false 1 (.t 15),none⟩,
 ⟨some 17,.len (.t 16),none⟩,
 ⟨some 18,.faddr 2 (.t 1),none⟩,
 ⟨some 19,.load false 1 (.t 18),none⟩,
 ⟨some 20,.call 59 [(.t 11),(.t 13),(.t 14),(.t 17),(.t 19)],none⟩,
 ⟨some 4,.mov (.t 20),none⟩])
 (.seq (.region [⟨some 21,.mov (.t 4),none⟩,
 ⟨some 22,.bin .neq (.t 21) (.c (.int .i64 0)),none⟩])
 (.cond (.t 22)
 (.seq (.region [⟨some 23,.mov (.t 4),none⟩,
 ⟨some 2,.mov (.t 23),none⟩])
 (.ret))
 (.skip))))
 (.seq (.seq (.region [⟨some 24,.faddr 4 (.t 1),none⟩,
 ⟨some 25,.load false 1 (.t 24),none⟩,
 ⟨some 26,.len (.t 25),none⟩,
 ⟨some 27,.mov (.c (.int .i64 0)),none⟩])
 (.block 0 (.loop xZh yAP)))
 (.seq (.region [⟨some 2,.mov (.c (.int .i64 0)),none⟩])
 (.ret))))),
 [.tmp 2]⟩
def xZi : ACode :=
 .seq (.region [⟨some 30,.bin .lss (.t 29) (.t 28),none⟩])
 (.seq (.cond (.t 30)
 (.skip)
 (.exit 0))
 (.seq (.block 1 (.seq (.region [⟨some 31,.mov (.t 29),none⟩,
 ⟨some 32,.iaddr 1 (.t 27) (.t 29),none⟩,
 ⟨some 33,.load false 1 (.t 32),none⟩,
 ⟨some 7,.mov (.t 31),none⟩,
 ⟨some 8,.mov (.t 33),none⟩])
 (.region [⟨some 34,.load false 1 (.t 6),none⟩,
 ⟨some 35,.mov (.t 8),none⟩,
 ⟨some 36,.mov (.t 7),none⟩,
 ⟨some 37,.iaddr 1 (.t 34) (.t 35),none⟩,
 ⟨none,.store 1 (.t 37) (.t 36),none⟩])))
 (.region [⟨some 38,.bin .add (.t 29) (.c (.int .i64 1)),none⟩,
 ⟨some 29,.mov (.t 38),none⟩])))
def yAQ : ACode := xZi
def xZj : List Nat := [0,3,4,7,8,9,10,11,12,13,14,15,16,17,18,19,20,21,22,23,24,25,26,30,31,32,33,34,35,36,37,38,39,40,41,42,43,44,45,46,47,48,49,50,51,52,53,54,55,56,57,58,59,60,61,62,63,64,65,66,67,68,69,70,71,72,73,74,75,76,77,78,79,80,81,82,83,84,85,86,87,88,89,90,91,92,93,94,95,96,97,98,99,100,101,102,103,104,105]
def xZk : ACode :=
 .seq (.region [⟨some 72,.bin .lss (.t 71) (.t 70),none⟩])
 (.seq (.cond (.t 72)
 (.skip)
 (.exit 4))
 (.seq (.block 5 (.seq (.region [⟨some 73,.mov (.t 71),none⟩,
 ⟨some 74,.iaddr 1 (.t 69) (.t 71),none⟩,
 ⟨some 75,.load false 1 (.t 74),none⟩,
 ⟨some 14,.mov (.t 73),none⟩,
 ⟨some 15,.mov (.t 75),none⟩])
 (.region [⟨some 77,.mov (.t 13),none⟩,
 ⟨some 78,.mov (.t 14),none⟩,
 ⟨some 79,.load false 1 (.t 5),none⟩,
 ⟨some 80,.mov (.t 15),none⟩,
 ⟨some 81,.iaddr 1 (.t 79) (.t 80),none⟩,
 ⟨some 82,.load false 1 (.t 81),none⟩,
 ⟨some 83,.icall (.c (.func 70 [])) [(.t 9),(.t 82)],none⟩,
 ⟨some 76,.mov (.t 83),none⟩,
 ⟨some 84,.ext 0 (.t 76),none⟩,
 ⟨some 85,.ext 1 (.t 76),none⟩,
 ⟨some 86,.iaddr 1 (.t 77) (.t 78),none⟩,
 ⟨none,.store 1 (.t 86) (.t 84),none⟩])))
 (.region [⟨some 87,.bin .add (.t 71) (.c (.int .i64 1)),none⟩,
 ⟨some 71,.mov (.t 87),none⟩])))
def yAR : ACode := xZk
def xZl : List Nat := []
def xXQ : ACode :=
 .region [⟨some 11,.mov (.t 53),none⟩]
def xZm : ACode :=
 .block 3 (.seq (.region [⟨some 54,.load false 1 (.t 6),none⟩,
 ⟨some 55,.mov (.t 11),none⟩,
 ⟨some 56,.iaddr 1 (.t 54) (.t 55),none⟩,
 ⟨some 57,.load false 1 (.t 56),none⟩,
 ⟨some 12,.mov (.t 57),none⟩])
 (.seq (.region [⟨some 58,.faddr 3 (.t 1),none⟩,
 ⟨some 59,.load false 1 (.t 58),none⟩,
 ⟨some 60,.mov (.t 12),none⟩,
 ⟨some 61,.iaddr 1 (.t 59) (.t 60),none⟩,
 ⟨some 62,.load false 1 (.t 61),none⟩,
 ⟨some 63,.len (.t 62),none⟩,
 ⟨some 64,.mkslice false [.int .i64 0] 8 (.t 63) (.t 63),none⟩,
 ⟨some 13,.mov (.t 64),none⟩])
 (.seq (.seq (.region [⟨some 65,.faddr 3 (.t 1),none⟩,
 ⟨some 66,.load false 1 (.t 65),none⟩,
 ⟨some 67,.mov (.t 12),none⟩,
 ⟨some 68,.iaddr 1 (.t 66) (.t 67),none⟩,
 ⟨some 69,.load false 1 (.t 68),none⟩,
 ⟨some 70,.len (.t 69),none⟩,
 ⟨some 71,.mov (.c (.int .i64 0)),none⟩])
 (.block 4 (.loop xZl yAR)))
 (.fzs 13 (.drawh [(93,(1,13))] [] [(93,(1,(89,0))),(95,(1,(89,0))),(98,(1,(89,0)))] 11 [⟨some 88,.faddr 3 (.t 2),none⟩,
 ⟨some 89,.load false 1 (.t 88),none⟩,
 ⟨some 90,.mov (.t 13),none⟩,
 ⟨some 91,.dslice [.sl true 0 []] 1 1 [(0,(.t 90))],none⟩,
 ⟨some 93,.faddr 4 (.t 2),none⟩,
 ⟨some 94,.load false 1 (.t 93),none⟩,
 ⟨some 95,.faddr 4 (.t 1),none⟩,
 ⟨some 96,.load false 1 (.t 95),none⟩,
 ⟨some 97,.mov (.t 12),none⟩,
 ⟨some 98,.iaddr 1 (.t 96) (.t 97),none⟩,
 ⟨some 99,.load false 1 (.t 98),none⟩,
 ⟨some 92,.append false 1 24 (.t 89) (.t 91),none⟩,
 ⟨some 103,.faddr 3 (.t 2),none⟩,
 ⟨some 100,.call 72 [(.t 99)],none⟩,
 ⟨some 101,.dslice [.sl true 0 []] 1 1 [(0,(.t 100))],none⟩,
 ⟨some 102,.append false 1 24 (.t 94) (.t 101),none⟩,
 ⟨none,.store 1 (.t 103) (.t 92),none⟩,
 ⟨some 104,.faddr 4 (.t 2),none⟩,
 ⟨none,.store 1 (.t 104) (.t 102),none⟩])))))
def xZn : ACode := xXQ
def yAS : ACode := xZm
def a35 : AFunc := ⟨106,
 .seq (.region [⟨some 1,.box (.t 0),none⟩,
 ⟨some 2,.box (.c (.agg [.int .i64 0,.int .i64 0,.int .i64 0,.sl true 0 [],.sl true 0 []])),none⟩,
 ⟨some 3,.mov (.c (.int .i64 0)),none⟩])
 (.seq (.seq (.region [⟨some 16,.load true 5 (.t 1),none⟩,
 ⟨some 17,.call 21 [(.t 16)],none⟩,
 ⟨some 4,.mov (.t 17),none⟩])
 (.seq (.region [⟨some 18,.mov (.t 4),none⟩,
 ⟨some 19,.bin .neq (.t 18) (.c (.int .i64 0)),none⟩])
 (.cond (.t 19)
 (.seq (.region [⟨some 20,.load true 5 (.t 2),none⟩,
 ⟨some 21,.mov (.t 4),none⟩,
 ⟨none,.store 5 (.t 2) (.t 20),none⟩,
 ⟨some 3,.mov (.t 21),none⟩])
 (.ret))
 (.skip))))
 (.seq (.region [⟨some 22,.load true 5 (.t 1),none⟩,
 ⟨some 23,.call 69 [(.t 22)],none⟩,
 ⟨some 5,.box (.c (.sl true 0 [])),none⟩,
 ⟨none,.store 1 (.t 5) (.t 23),none⟩])
 (.seq (.region [⟨some 24,.load false 1 (.t 5),none⟩,
 ⟨some 25,.len (.t 24),none⟩,
 ⟨some 26,.mkslice false [.int .i64 0] 8 (.t 25) (.t 25),none⟩,
 ⟨some 6,.box (.c (.sl true 0 [])),none⟩,
 ⟨none,.store 1 (.t 6) (.t 26),none⟩])
 (.seq (.seq (.region [⟨some 27,.load false 1 (.t 5),none⟩,
 ⟨some 28,.len (.t 27),none⟩,
 ⟨some 29,.mov (.c (.int .i64 0)),none⟩])
 (.block 0 (.loop xZj yAQ)))
 (.seq (.drawl [(41,(1,(43,1)))] 4 [⟨some 39,.faddr 0 (.t 1),none⟩,
 ⟨some 40,.load false 1 (.t 39),none⟩,
 ⟨some 41,.faddr 1 (.t 1),none⟩,
 ⟨some 42,.load false 1 (.t 41),none⟩,
 ⟨some 43,.faddr 0 (.t 2),none⟩,
 ⟨none,.store 1 (.t 43) (.t 40),none⟩,
 ⟨some 44,.faddr 1 (.t 2),none⟩,
 ⟨none,.store 1 (.t 44) (.t 42),none⟩])
 (.seq (.region [⟨some 9,.box (.c (.agg [.nilm,.sl true 0 []])),none⟩])
 (.seq (.region [⟨some 45,.load false 1 (.t 5),none⟩,
 ⟨some 46,.faddr 2 (.t 1),none⟩,
 ⟨some 47,.load false 1 (.t 46),none⟩,
 ⟨some 48,.iaddr 1 (.t 45) (.t 47),none⟩,
 ⟨some 49,.load false 1 (.t 48),none⟩,
 ⟨some 50,.icall (.c (.func 70 [])) [(.t 9),(.t 49)],none⟩])
 (.seq (.seq (.region [⟨some 51,.icall (.c (.func 71 [])) [(.t 9)],none⟩])
 (.block 2 (.range (.t 51) [52,53] xZn yAS)))
 (.seq (.region [⟨some 105,.load true 5 (.t 2),none⟩,
 ⟨none,.store 5 (.t 2) (.t 105),none⟩,
 ⟨some 3,.mov (.c (.int .i64 0)),none⟩])
 (.ret)))))))))),
 [.cell 2 true 5,.tmp 3]⟩
def xZo : ACode :=
 .seq (.region [⟨some 23,.bin .lss (.t 22) (.t 21),none⟩])
 (.seq (.cond (.t 23)
 (.skip)
 (.exit 0))
 (.seq (.block 1 (.seq (.region [⟨some 24,.iaddr 5 (.t 20) (.t 22),none⟩,
 ⟨some 25,.load true 5 (.t 24),none⟩,
 ⟨some 8,.box (.c (.agg [.int .i64 0,.int .i64 0,.int .i64 0,.sl true 0 [],.sl true 0 []])),none⟩,
 ⟨none,.store 5 (.t 8) (.t 25),none⟩])
 (.seq (.region [⟨some 26,.load true 5 (.t 8),none⟩,
 ⟨some 27,.call 21 [(.t 26)],none⟩,
 ⟨some 9,.mov (.t 27),none⟩])
 (.seq (.region [⟨some 28,.mov (.t 9),none⟩,
 ⟨some 29,.bin .neq (.t 28) (.c (.int .i64 0)),none⟩])
 (.cond (.t 29)
 (.seq (.region [⟨some 30,.mov (.t 9),none⟩,
 ⟨none,.store 1 (.t 4) (.c (.sl true 0 [])),none⟩,
 ⟨none,.store 1 (.t 5) (.c (.bool false)),none⟩,
 ⟨none,.store 1 (.t 6) (.t 30),none⟩])
 (.ret))
 (.skip))))))
 (.region [⟨some 31,.bin .add (.t 22) (.c (.int .i64 1)),none⟩,
 ⟨some 22,.mov (.t 31),none⟩])))
def yAT : ACode := xZo
def xZp : List Nat := [0,1,7,8,9,10,11,12,13,14,15,16,17,18,19,23,24,25,26,27,28,29,30,31,32,33,34,35,36,37,38,39,40,41,42,43,44,45,46,47,48,49,50,51,52,53,54,55,56,57,58,59,60,61,62,63,64,65,66,67,68,69,70,71,72,73,74,75,76,77,78,79,80,81,82,83,84,85,86,87,88,89,90,91,92,93,94,95,96,97,98,99,100,101,102,103,104,105,106,107,108,109,110,111,112,113,114,115,116,117]
def xZq : ACode :=
 .seq (.region [⟨some 58,.bin .lss (.t 57) (.t 56),none⟩])
 (.seq (.cond (.t 58)
 (.skip)
 (.exit 4))
 (.seq (.block 5 (.seq (.region [⟨some 59,.mov (.t 57),none⟩,
 ⟨some 14,.mov (.t 59),none⟩])
 (.seq (.region [⟨some 60,.load false 1 (.t 11),none⟩,
 ⟨some 61,.mov (.t 12),none⟩,
 ⟨some 62,.iaddr 1 (.t 60) (.t 61),none⟩,
 ⟨some 63,.load false 1 (.t 62),none⟩,
 ⟨some 64,.mov (.t 14),none⟩,
 ⟨some 65,.conv .u8 (.t 64),none⟩,
 ⟨some 66,.bslice true [.int .u8 0] 1 1 [(0,(.t 65))],none⟩,
 ⟨some 67,.bslice true [.sl true 0 []] 1 2 [(0,(.t 63)),(1,(.t 66))],none⟩,
 ⟨some 68,.call 76 [(.t 67)],none⟩,
 ⟨some 15,.mov (.t 68),none⟩])
 (.seq (.seq (.draw 15 [⟨some 69,.faddr 4 (.t 2),none⟩,
 ⟨some 70,.load false 1 (.t 69),none⟩,
 ⟨some 71,.arrat 1 2 (.t 13) (.c (.int .i64 0)),none⟩,
 ⟨some 72,.load false 1 (.t 71),none⟩,
 ⟨some 73,.iaddr 1 (.t 70) (.t 72),none⟩,
 ⟨some 74,.load false 1 (.t 73),none⟩,
 ⟨some 75,.mov (.t 14),none⟩,
 ⟨some 76,.iaddr 1 (.t 74) (.t 75),none⟩,
 ⟨some 77,.load false 1 (.t 76),none⟩,
 ⟨some 78,.faddr 4 (.t 3),none⟩,
 ⟨some 79,.load false 1 (.t 78),none⟩,
 ⟨some 80,.arrat 1 2 (.t 13) (.c (.int .i64 1)),none⟩,
 ⟨some 81,.load false 1 (.t 80),none⟩,
 ⟨some 82,.iaddr 1 (.t 79) (.t 81),none⟩,
 ⟨some 83,.load false 1 (.t 82),none⟩,
 ⟨some 84,.mov (.t 14),none⟩,
 ⟨some 85,.iaddr 1 (.t 83) (.t 84),none⟩,
 ⟨some 86,.load false 1 (.t 85),none⟩,
 ⟨some 87,.bin .neq (.t 77) (.t 86),none⟩])
 (.cond (.t 87)
 (.seq (.region [⟨some 88,.mov (.t 15),none⟩,
 ⟨none,.store 1 (.t 4) (.t 88),none⟩,
 ⟨none,.store 1 (.t 5) (.c (.bool false)),none⟩,
 ⟨none,.store 1 (.t 6) (.c (.int .i64 0)),none⟩])
 (.ret))
 (.skip)))
 (.seq (.draw 15 [⟨some 90,.faddr 3 (.t 2),none⟩,
 ⟨some 91,.load false 1 (.t 90),none⟩,
 ⟨some 92,.arrat 1 2 (.t 13) (.c (.int .i64 0)),none⟩,
 ⟨some 93,.load false 1 (.t 92),none⟩,
 ⟨some 94,.iaddr 1 (.t 91) (.t 93),none⟩,
 ⟨some 95,.load false 1 (.t 94),none⟩,
 ⟨some 96,.mov (.t 14),none⟩,
 ⟨some 97,.iaddr 1 (.t 95) (.t 96),none⟩,
 ⟨some 98,.load false 1 (.t 97),none⟩,
 ⟨some 99,.faddr 3 (.t 3),none⟩,
 ⟨some 100,.load false 1 (.t 99),none⟩,
 ⟨some 101,.arrat 1 2 (.t 13) (.c (.int .i64 1)),none⟩,
 ⟨some 102,.load false 1 (.t 101),none⟩,
 ⟨some 103,.iaddr 1 (.t 100) (.t 102),none⟩,
 ⟨some 104,.load false 1 (.t 103),none⟩,
 ⟨some 105,.mov (.t 14),none⟩,
 ⟨some 106,.iaddr 1 (.t 104) (.t 105),none⟩,
 ⟨some 107,.load false 1 (.t 106),none⟩,
 ⟨some 108,.build [.int .i64 0,.int .i64 0] [(0,1,(.t 98)),(1,1,(.t 107))],none⟩,
 ⟨some 109,.icall (.c (.func 74 [])) [(.t 10),(.t 108)],none⟩,
 ⟨some 89,.mov (.t 109),none⟩,
 ⟨some 110,.ext 0 (.t 89),none⟩,
 ⟨some 111,.ext 1 (.t 89),none⟩,
 ⟨some 16,.mov (.t 110),none⟩,
 ⟨some 17,.mov (.t 111),none⟩])
 (.seq (.region [⟨some 112,.mov (.t 17),none⟩])
 (.cond (.t 112)
 (.region [⟨some 113,.load false 1 (.t 11),none⟩,
 ⟨some 114,.mov (.t 15),none⟩,
 ⟨some 115,.bslice true [.sl true 0 []] 1 1 [(0,(.t 114))],none⟩,
 ⟨some 116,.append false 1 24 (.t 113) (.t 115),none⟩,
 ⟨none,.store 1 (.t 11) (.t 116),none⟩])
 (.skip))))))))
 (.region [⟨some 117,.bin .add (.t 57) (.c (.int .i64 1)),none⟩,
 ⟨some 57,.mov (.t 117),none⟩])))
def yAU : ACode := xZq
def xZr : List Nat := []
def xXR : ACode :=
 .seq (.region [⟨some 12,.mov (.t 52),none⟩])
 (.region [⟨some 13,.box (.c (.agg [.int .i64 0,.int .i64 0])),none⟩,
 ⟨none,.store 2 (.t 13) (.t 53),none⟩])
def xZs : ACode :=
 .block 3 (.seq (.region [⟨some 54,.faddr 0 (.t 2),none⟩,
 ⟨some 55,.load false 1 (.t 54),none⟩,
 ⟨some 56,.bin .shl (.c (.int .i64 1)) (.t 55),none⟩,
 ⟨some 57,.mov (.c (.int .i64 0)),none⟩])
 (.block 4 (.loop xZr yAU)))
def xZt : ACode := xXR
def yAV : ACode := xZs
def a37 : AFunc := ⟨118,
 .seq (.region [⟨some 2,.box (.t 0),none⟩,
 ⟨some 3,.box (.t 1),none⟩,
 ⟨some 4,.box (.c (.sl true 0 [])),none⟩,
 ⟨some 5,.box (.c (.bool false)),none⟩,
 ⟨some 6,.box (.c (.int .i64 0)),none⟩])
 (.seq (.seq (.region [⟨some 18,.load true 5 (.t 2),none⟩,
 ⟨some 19,.load true 5 (.t 3),none⟩,
 ⟨some 20,.bslice true [.int .i64 0,.int .i64 0,.int .i64 0,.sl true 0 [],.sl true 0 []] 5 2 [(0,(.t 18)),(1,(.t 19))],none⟩,
 ⟨some 21,.len (.t 20),none⟩,
 ⟨some 22,.mov (.c (.int .i64 0)),none⟩])
 (.block 0 (.loop xZp yAT)))
 (.seq (.seq (.region [⟨some 32,.faddr 0 (.t 2),none⟩,
 ⟨some 33,.load false 1 (.t 32),none⟩,
 ⟨some 34,.faddr 0 (.t 3),none⟩,
 ⟨some 35,.load false 1 (.t 34),none⟩,
 ⟨some 36,.bin .neq (.t 33) (.t 35),none⟩,
 ⟨some 37,.mov (.t 36),none⟩,
 ⟨some 38,.faddr 1 (.t 2),some (37,false)⟩,
 ⟨some 39,.load false 1 (.t 38),some (37,false)⟩,
 ⟨some 40,.faddr 1 (.t 3),some (37,false)⟩,
 ⟨some 41,.load false 1 (.t 40),some (37,false)⟩,
 ⟨some 42,.bin .neq (.t 39) (.t 41),some (37,false)⟩,
 ⟨some 43,.pick (.t 37) (.c (.bool true)) (.t 42),none⟩])
 (.cond (.t 43)
 (.seq (.region [⟨none,.store 1 (.t 4) (.c (.sl true 0 [])),none⟩,
 ⟨none,.store 1 (.t 5) (.c (.bool false)),none⟩,
 ⟨none,.store 1 (.t 6) (.c (.int .i64 7)),none⟩])
 (.ret))
 (.skip)))
 (.seq (.region [⟨some 10,.box (.c (.agg [.nilm,.sl true 0 []])),none⟩])
 (.seq (.region [⟨some 44,.faddr 2 (.t 2),none⟩,
 ⟨some 45,.load false 1 (.t 44),none⟩,
 ⟨some 46,.faddr 2 (.t 3),none⟩,
 ⟨some 47,.load false 1 (.t 46),none⟩,
 ⟨some 48,.build [.int .i64 0,.int .i64 0] [(0,1,(.t 45)),(1,1,(.t 47))],none⟩,
 ⟨some 49,.icall (.c (.func 74 [])) [(.t 10),(.t 48)],none⟩])
 (.seq (.region [⟨some 50,.bslice false [.sl true 0 []] 1 1 [(0,(.c (.sl true 0 [])))],none⟩,
 ⟨some 11,.box (.c (.sl true 0 [])),none⟩,
 ⟨none,.store 1 (.t 11) (.t 50),none⟩])
 (.seq (.seq (.region [⟨some 51,.icall (.c (.func 75 [])) [(.t 10)],none⟩])
 (.block 2 (.range (.t 51) [52,53] xZt yAV)))
 (.seq (.region [⟨none,.store 1 (.t 4) (.c (.sl true 0 [])),none⟩,
 ⟨none,.store 1 (.t 5) (.c (.bool true)),none⟩,
 ⟨none,.store 1 (.t 6) (.c (.int .i64 0)),none⟩])
 (.ret)))))))),
 [.cell 4 false 1,.cell 5 false 1,.cell 6 false 1]⟩
def a42 : AFunc := ⟨5,
 .seq (.region [⟨some 0,.box (.c (.agg [.int .i64 0,.int .i64 0,.int .i64 0,.sl true 0 [],.sl true 0 []])),none⟩])
 (.seq (.region [⟨some 1,.bslice true [.int .u8 0] 1 1 [(0,(.c (.int .u8 1)))],none⟩,
 ⟨some 2,.bslice true [.int .i64 0] 1 2 [(0,(.c (.int .i64 0))),(1,(.c (.int .i64 0)))],none⟩,
 ⟨some 3,.bslice true [.sl true 0 []] 1 1 [(0,(.t 2))],none⟩,
 ⟨some 4,.build [.int .i64 0,.int .i64 0,.int .i64 0,.sl true 0 [],.sl true 0 []] [(0,1,(.c (.int .i64 1))),(1,1,(.c (.int .i64 1))),(3,1,(.t 1)),(4,1,(.t 3))],none⟩,
 ⟨none,.store 5 (.t 0) (.t 4),none⟩])
 (.ret)),
 [.cell 0 true 5]⟩
def a43 : AFunc := ⟨6,
 .seq (.region [⟨some 0,.box (.c (.agg [.int .i64 0,.int .i64 0,.int .i64 0,.sl true 0 [],.sl true 0 []])),none⟩])
 (.seq (.region [⟨some 1,.bslice true [.int .i64 0] 1 2 [(0,(.c (.int .i64 0))),(1,(.c (.int .i64 0)))],none⟩,
 ⟨some 2,.bslice true [.sl true 0 []] 1 1 [(0,(.t 1))],none⟩,
 ⟨some 3,.bslice true [.int .u8 0] 1 2 [(0,(.c (.int .u8 1))),(1,(.c (.int .u8 0)))],none⟩,
 ⟨some 4,.bslice true [.sl true 0 []] 1 1 [(0,(.t 3))],none⟩,
 ⟨some 5,.build [.int .i64 0,.int .i64 0,.int .i64 0,.sl true 0 [],.sl true 0 []] [(0,1,(.c (.int .i64 1))),(1,1,(.c (.int .i64 1))),(3,1,(.t 2)),(4,1,(.t 4))],none⟩,
 ⟨none,.store 5 (.t 0) (.t 5),none⟩])
 (.ret)),
 [.cell 0 true 5]⟩
def a44 : AFunc := ⟨15,
 .seq (.region [⟨some 2,.box (.t 0),none⟩,
 ⟨some 3,.box (.t 1),none⟩,
 ⟨some 4,.box (.c (.agg [.sl true 0 [],.sl true 0 []])),none⟩])
 (.seq (.region [⟨some 5,.load true 2 (.t 2),none⟩,
 ⟨some 6,.call 77 [(.t 5)],none⟩,
 ⟨none,.store 2 (.t 2) (.t 6),none⟩])
 (.seq (.region [⟨some 7,.faddr 0 (.t 2),none⟩,
 ⟨some 8,.load false 1 (.t 7),none⟩,
 ⟨some 9,.len (.t 8),none⟩,
 ⟨some 10,.faddr 1 (.t 2),none⟩,
 ⟨some 11,.load false 1 (.t 10),none⟩,
 ⟨some 12,.len (.t 11),none⟩,
 ⟨some 13,.mkfunc 79 [(.t 2),(.t 3)],none⟩,
 ⟨some 14,.icall (.c (.func 78 [])) [(.t 9),(.t 12),(.t 13)],none⟩,
 ⟨none,.store 2 (.t 4) (.t 14),none⟩])
 (.ret))),
 [.cell 4 true 2]⟩
def a45 : AFunc := ⟨40,
 .seq (.region [⟨some 2,.box (.t 0),none⟩,
 ⟨some 3,.box (.t 1),none⟩,
 ⟨some 4,.mov (.c (.int .i64 0)),none⟩])
 (.seq (.block 0 (.seq (.region [⟨some 7,.load false 1 (.t 3),none⟩,
 ⟨some 8,.bin .lss (.t 7) (.c (.int .i64 0)),none⟩,
 ⟨some 9,.mov (.t 8),none⟩,
 ⟨some 10,.load false 1 (.t 3),some (9,false)⟩,
 ⟨some 11,.bin .gtr (.t 10) (.c (.int .i64 6)),some (9,false)⟩,
 ⟨some 12,.pick (.t 9) (.c (.bool true)) (.t 11),none⟩,
 ⟨some 6,.mov (.t 12),none⟩])
 (.cond (.t 6)
 (.seq (.region [⟨some 4,.mov (.c (.int .i64 7)),none⟩])
 (.ret))
 (.seq (.region [⟨some 14,.faddr 1 (.t 2),none⟩,
 ⟨some 15,.load false 1 (.t 14),none⟩,
 ⟨some 16,.len (.t 15),none⟩,
 ⟨some 17,.bin .eql (.t 16) (.c (.int .i64 0)),none⟩,
 ⟨some 13,.mov (.t 17),none⟩])
 (.cond (.t 13)
 (.seq (.region [⟨some 4,.mov (.c (.int .i64 3)),none⟩])
 (.ret))
 (.seq (.region [⟨some 19,.faddr 0 (.t 2),none⟩,
 ⟨some 20,.load false 1 (.t 19),none⟩,
 ⟨some 21,.len (.t 20),none⟩,
 ⟨some 22,.bin .gtr (.t 21) (.c (.int .i64 64)),none⟩,
 ⟨some 23,.mov (.t 22),none⟩,
 ⟨some 24,.faddr 1 (.t 2),some (23,false)⟩,
 ⟨some 25,.load false 1 (.t 24),some (23,false)⟩,
 ⟨some 26,.len (.t 25),some (23,false)⟩,
 ⟨some 27,.bin .gtr (.t 26) (.c (.int .i64 64)),some (23,false)⟩,
 ⟨some 28,.pick (.t 23) (.c (.bool true)) (.t 27),none⟩,
 ⟨some 18,.mov (.t 28),none⟩])
 (.cond (.t 18)
 (.seq (.region [⟨some 4,.mov (.c (.int .i64 4)),none⟩])
 (.ret))
 (.skip))))))))
 (.seq (.region [⟨some 29,.mkfunc 80 [(.t 3)],none⟩,
 ⟨some 5,.mov (.t 29),none⟩])
 (.seq (.seq (.region [⟨some 30,.faddr 0 (.t 2),none⟩,
 ⟨some 31,.load false 1 (.t 30),none⟩,
 ⟨some 32,.mov (.t 5),none⟩,
 ⟨some 33,.icall (.c (.func 52 [])) [(.t 31),(.t 32)],none⟩,
 ⟨some 34,.mov (.t 33),none⟩,
 ⟨some 35,.faddr 1 (.t 2),some (34,false)⟩,
 ⟨some 36,.load false 1 (.t 35),some (34,false)⟩,
 ⟨some 37,.mov (.t 5),some (34,false)⟩,
 ⟨some 38,.icall (.c (.func 52 [])) [(.t 36),(.t 37)],some (34,false)⟩,
 ⟨some 39,.pick (.t 34) (.c (.bool true)) (.t 38),none⟩])
 (.cond (.t 39)
 (.seq (.region [⟨some 4,.mov (.c (.int .i64 1)),none⟩])
 (.ret))
 (.skip)))
 (.seq (.region [⟨some 4,.mov (.c (.int .i64 0)),none⟩])
 (.ret))))),
 [.tmp 4]⟩
def a46 : AFunc := ⟨9,
 .seq (.region [⟨some 2,.box (.t 0),none⟩,
 ⟨some 3,.box (.t 1),none⟩,
 ⟨some 4,.mov (.c (.bool false)),none⟩])
 (.seq (.region [⟨some 5,.load true 2 (.t 2),none⟩,
 ⟨some 6,.load true 2 (.t 3),none⟩,
 ⟨some 7,.call 81 [(.t 5),(.t 6)],none⟩,
 ⟨some 8,.bin .eql (.t 7) (.c (.int .i64 0)),none⟩,
 ⟨some 4,.mov (.t 8),none⟩])
 (.ret)),
 [.tmp 4]⟩
def a47 : AFunc := ⟨29,
 .seq (.region [⟨some 2,.box (.t 0),none⟩,
 ⟨some 4,.mov (.c (.int .u8 0)),none⟩])
 (.seq (.seq (.region [⟨some 6,.mov (.t 1),none⟩,
 ⟨some 7,.bin .lss (.t 6) (.c (.int .i64 0)),none⟩])
 (.cond (.t 7)
 (.seq (.region [⟨some 4,.mov (.c (.int .u8 0)),none⟩])
 (.ret))
 (.skip)))
 (.seq (.region [⟨some 8,.load true 2 (.t 2),none⟩,
 ⟨some 9,.call 77 [(.t 8)],none⟩,
 ⟨none,.store 2 (.t 2) (.t 9),none⟩])
 (.seq (.seq (.draw 6 [⟨some 10,.load true 2 (.t 2),none⟩,
 ⟨some 11,.mov (.t 1),none⟩,
 ⟨some 12,.call 55 [(.t 10),(.t 11)],none⟩,
 ⟨some 13,.faddr 0 (.t 2),none⟩,
 ⟨some 14,.load false 1 (.t 13),none⟩,
 ⟨some 15,.len (.t 14),none⟩,
 ⟨some 16,.bin .sub (.t 12) (.t 15),none⟩,
 ⟨some 5,.mov (.t 16),none⟩])
 (.seq (.region [⟨some 17,.mov (.t 5),none⟩,
 ⟨some 18,.bin .geq (.t 17) (.c (.int .i64 0)),none⟩])
 (.cond (.t 18)
 (.seq (.region [⟨some 19,.faddr 1 (.t 2),none⟩,
 ⟨some 20,.load false 1 (.t 19),none⟩,
 ⟨some 21,.mov (.t 5),none⟩,
 ⟨some 22,.iaddr 1 (.t 20) (.t 21),none⟩,
 ⟨some 23,.load false 1 (.t 22),none⟩,
 ⟨some 4,.mov (.t 23),none⟩])
 (.ret))
 (.skip))))
 (.seq (.region [⟨some 24,.faddr 0 (.t 2),none⟩,
 ⟨some 25,.load false 1 (.t 24),none⟩,
 ⟨some 26,.mov (.t 1),none⟩,
 ⟨some 27,.iaddr 1 (.t 25) (.t 26),none⟩,
 ⟨some 28,.load false 1 (.t 27),none⟩,
 ⟨some 4,.mov (.t 28),none⟩])
 (.ret))))),
 [.tmp 4]⟩
def xKL : ACode :=
 .region [⟨some 6,.mov (.t 12),none⟩]
def xOW : ACode :=
 .block 1 (.region [⟨some 13,.load false 1 (.t 4),none⟩,
 ⟨some 14,.mov (.t 6),none⟩,
 ⟨some 15,.bslice true [.int .u8 0] 1 1 [(0,(.t 14))],none⟩,
 ⟨some 16,.append false 1 1 (.t 13) (.t 15),none⟩,
 ⟨none,.store 1 (.t 4) (.t 16),none⟩])
def xL5 : ACode := xKL
def xSg : ACode := xOW
theorem xSh (R : Rec) (s : St) : run R xL5 s = run R xKL s := rfl
theorem xWu (R : Rec) (s : St) : run R xSg s = run R xOW s := rfl
def a48 : AFunc := ⟨18,
 .seq (.region [⟨some 2,.box (.t 0),none⟩,
 ⟨some 4,.box (.c (.sl true 0 [])),none⟩])
 (.seq (.seq (.region [⟨some 7,.load true 2 (.t 2),none⟩,
 ⟨some 8,.mov (.t 1),none⟩,
 ⟨some 9,.mini (.t 8) (.c (.int .i64 4096)),none⟩,
 ⟨some 10,.icall (.c (.func 82 [])) [(.t 7),(.t 9)],none⟩])
 (.block 0 (.range (.t 10) [11,12] xL5 xSg)))
 (.seq (.region [⟨some 17,.load false 1 (.t 4),none⟩,
 ⟨none,.store 1 (.t 4) (.t 17),none⟩])
 (.ret))),
 [.cell 4 false 1]⟩
def xIV : ACode :=
 .seq (.seq (.region [⟨some 16,.mov (.t 4),none⟩,
 ⟨some 17,.bin .gtr (.t 16) (.c (.int .i64 0)),none⟩])
 (.cond (.t 17)
 (.skip)
 (.exit 0)))
 (.block 1 (.seq (.seq (.draw 9 [⟨some 18,.faddr 0 (.t 1),none⟩,
 ⟨some 19,.load false 1 (.t 18),none⟩,
 ⟨some 20,.mov (.t 4),none⟩,
 ⟨some 21,.bin .sub (.t 20) (.c (.int .i64 1)),none⟩,
 ⟨some 22,.iaddr 1 (.t 19) (.t 21),none⟩,
 ⟨some 23,.load false 1 (.t 22),none⟩,
 ⟨some 24,.mov (.t 3),none⟩,
 ⟨some 25,.mov (.t 5),none⟩,
 ⟨some 26,.bin .sub (.t 25) (.c (.int .i64 1)),none⟩,
 ⟨some 27,.mov (.t 3),none⟩,
 ⟨some 28,.len (.t 27),none⟩,
 ⟨some 29,.bin .rem (.t 26) (.t 28),none⟩,
 ⟨some 30,.iaddr 1 (.t 24) (.t 29),none⟩,
 ⟨some 31,.load false 1 (.t 30),none⟩,
 ⟨some 32,.bin .neq (.t 23) (.t 31),none⟩])
 (.cond (.t 32)
 (.exit 0)
 (.skip)))
 (.seq (.region [⟨some 33,.mov (.t 4),none⟩,
 ⟨some 34,.bin .sub (.t 33) (.c (.int .i64 1)),none⟩,
 ⟨some 4,.mov (.t 34),none⟩])
 (.seq (.region [⟨some 35,.mov (.t 5),none⟩,
 ⟨some 36,.bin .sub (.t 35) (.c (.int .i64 1)),none⟩,
 ⟨some 5,.mov (.t 36),none⟩])
 (.seq (.region [⟨some 37,.mov (.t 5),none⟩,
 ⟨some 38,.bin .eql (.t 37) (.c (.int .i64 0)),none⟩])
 (.cond (.t 38)
 (.region [⟨some 39,.mov (.t 3),none⟩,
 ⟨some 40,.len (.t 39),none⟩,
 ⟨some 5,.mov (.t 40),none⟩])
 (.skip)))))))
def xVr : ACode := xIV
def xL6 : List Nat := [0,6,7,8,9,10,11,12,13,14,15,16,17,18,19,20,21,22,23,24,25,26,27,28,29,30,31,32,33,34,35,36,37,38,39,40,41,42,43,44,45,46,47,48,49,50,51,52,53,54,55,56,57,58]
abbrev xL7 (s1 s2 s3 s4 s5 : AV) : List AV := [.any,s1,s2,s3,s4,s5,.any,.any,.any,.any,.any,.any,.any,.any,.any,.any,.any,.any,.any,.any,.any,.any,.any,.any,.any,.any,.any,.any,.any,.any,.any,.any,.any,.any,.any,.any,.any,.any,.any,.any,.any,.any,.any,.any,.any,.any,.any,.any,.any,.any,.any,.any,.any,.any,.any,.any,.any,.any,.any]
theorem xFN (s0 s1 s2 s3 s4 s5 s6 s7 s8 s9 s10 s11 s12 s13 s14 s15 s16 s17 s18 s19 s20 s21 s22 s23 s24 s25 s26 s27 s28 s29 s30 s31 s32 s33 s34 s35 s36 s37 s38 s39 s40 s41 s42 s43 s44 s45 s46 s47 s48 s49 s50 s51 s52 s53 s54 s55 s56 s57 s58 : AV) : xAL xL6 [s0,s1,s2,s3,s4,s5,s6,s7,s8,s9,s10,s11,s12,s13,s14,s15,s16,s17,s18,s19,s20,s21,s22,s23,s24,s25,s26,s27,s28,s29,s30,s31,s32,s33,s34,s35,s36,s37,s38,s39,s40,s41,s42,s43,s44,s45,s46,s47,s48,s49,s50,s51,s52,s53,s54,s55,s56,s57,s58] = xL7 s1 s2 s3 s4 s5 := by kernel_rfl
theorem xWv {prog : Nat → Option AFunc} (s1 s2 s3 s4 s5 : AV) (H : Heap) : (lim prog).loop xL6 xVr ⟨xL7 s1 s2 s3 s4 s5,H⟩ = xBH (lim prog) xL6 xVr (run (lim prog) xIV ⟨xL7 s1 s2 s3 s4 s5,H⟩) := xAo _ _ _ _ (by kernel_rfl)
def a49 : AFunc := ⟨59,
 .seq (.region [⟨some 1,.box (.t 0),none⟩,
 ⟨some 2,.box (.c (.agg [.sl true 0 [],.sl true 0 []])),none⟩])
 (.scope (.seq (.region [⟨some 6,.load true 2 (.t 1),none⟩,
 ⟨some 7,.call 77 [(.t 6)],none⟩,
 ⟨none,.store 2 (.t 1) (.t 7),none⟩])
 (.seq (.draw 6 [⟨some 8,.faddr 1 (.t 1),none⟩,
 ⟨some 9,.load false 1 (.t 8),none⟩,
 ⟨some 10,.call 83 [(.t 9)],none⟩,
 ⟨some 11,.faddr 0 (.t 1),none⟩,
 ⟨some 12,.load false 1 (.t 11),none⟩,
 ⟨some 13,.len (.t 12),none⟩,
 ⟨some 3,.mov (.t 10),none⟩,
 ⟨some 4,.mov (.t 13),none⟩])
 (.seq (.region [⟨some 14,.mov (.t 3),none⟩,
 ⟨some 15,.len (.t 14),none⟩,
 ⟨some 5,.mov (.t 15),none⟩])
 (.seq (.label)
 (.seq (.block 0 (.loop xL6 xVr))
 (.seq (.region [⟨some 41,.mov (.t 5),none⟩,
 ⟨some 42,.mov (.t 3),none⟩,
 ⟨some 43,.len (.t 42),none⟩,
 ⟨some 44,.bin .rem (.t 41) (.t 43),none⟩,
 ⟨some 5,.mov (.t 44),none⟩])
 (.seq (.drawp [] [] 12 [⟨some 45,.faddr 0 (.t 1),none⟩,
 ⟨some 46,.load false 1 (.t 45),none⟩,
 ⟨some 47,.mov (.t 4),none⟩,
 ⟨some 48,.slice 1 (.t 46) none (some (.t 47)) none,none⟩,
 ⟨some 49,.ocall 72 [(.t 48)],none⟩,
 ⟨some 50,.mov (.t 3),none⟩,
 ⟨some 51,.mov (.t 5),none⟩,
 ⟨some 52,.slice 1 (.t 50) (some (.t 51)) none none,none⟩,
 ⟨some 53,.mov (.t 3),none⟩,
 ⟨some 54,.mov (.t 5),none⟩,
 ⟨some 55,.slice 1 (.t 53) none (some (.t 54)) none,none⟩,
 ⟨some 56,.bslice true [.sl true 0 []] 1 2 [(0,(.t 52)),(1,(.t 55))],none⟩,
 ⟨some 57,.ocall 76 [(.t 56)],none⟩,
 ⟨some 58,.build [.sl true 0 [],.sl true 0 []] [(0,1,(.t 49)),(1,1,(.t 57))],none⟩,
 ⟨none,.store 2 (.t 2) (.t 58),none⟩])
 (.ret))))))))),
 [.cell 2 true 2]⟩
def a52 : AFunc := ⟨9,
 .seq (.region [⟨some 4,.mov (.c (.bool false)),none⟩])
 (.seq (.region [⟨some 5,.mov (.t 0),none⟩,
 ⟨some 6,.mov (.t 1),none⟩,
 ⟨some 7,.icall (.c (.func 85 [])) [(.t 5),(.t 6)],none⟩,
 ⟨some 8,.bin .geq (.t 7) (.c (.int .i64 0)),none⟩,
 ⟨some 4,.mov (.t 8),none⟩])
 (.ret)),
 [.tmp 4]⟩
def a53 : AFunc := ⟨10,
 .seq (.region [⟨some 3,.mov (.c (.bool false)),none⟩])
 (.seq (.region [⟨some 4,.mov (.t 0),none⟩,
 ⟨some 5,.conv .i64 (.t 4),none⟩,
 ⟨some 6,.faddr 0 (.t 1),none⟩,
 ⟨some 7,.load false 1 (.t 6),none⟩,
 ⟨some 8,.bin .shl (.c (.int .i64 1)) (.t 7),none⟩,
 ⟨some 9,.bin .geq (.t 5) (.t 8),none⟩,
 ⟨some 3,.mov (.t 9),none⟩])
 (.ret)),
 [.tmp 3]⟩
def a54 : AFunc := ⟨52,
 .seq (.region [⟨some 3,.box (.t 1),none⟩,
 ⟨some 4,.box (.c (.agg [.sl true 0 [],.sl true 0 []])),none⟩,
 ⟨some 5,.mov (.c (.bool false)),none⟩])
 (.seq (.seq (.region [⟨some 8,.mov (.t 0),none⟩,
 ⟨some 9,.nilchk (.t 8),none⟩,
 ⟨some 10,.faddr 0 (.t 9),none⟩,
 ⟨some 11,.load false 1 (.t 10),none⟩,
 ⟨some 12,.mnil false (.t 11),none⟩])
 (.cond (.t 12)
 (.region [⟨some 13,.mov (.t 0),none⟩,
 ⟨some 14,.mkmap,none⟩,
 ⟨some 15,.nilchk (.t 13),none⟩,
 ⟨some 16,.faddr 0 (.t 15),none⟩,
 ⟨none,.store 1 (.t 16) (.t 14),none⟩])
 (.skip)))
 (.seq (.seq (.draw 9 [⟨some 18,.mov (.t 0),none⟩,
 ⟨some 19,.nilchk (.t 18),none⟩,
 ⟨some 20,.faddr 0 (.t 19),none⟩,
 ⟨some 21,.load false 1 (.t 20),none⟩,
 ⟨some 22,.load true 2 (.t 3),none⟩,
 ⟨some 23,.mlook [2,0,0] true (.int .i64 0) (.t 21) (.t 22),none⟩,
 ⟨some 17,.mov (.t 23),none⟩,
 ⟨some 24,.ext 0 (.t 17),none⟩,
 ⟨some 25,.ext 1 (.t 17),none⟩,
 ⟨some 6,.mov (.t 24),none⟩,
 ⟨some 7,.mov (.t 25),none⟩])
 (.seq (.region [⟨some 26,.mov (.t 7),none⟩])
 (.cond (.t 26)
 (.seq (.drawp [] [] 10 [⟨some 27,.mov (.t 0),none⟩,
 ⟨some 28,.nilchk (.t 27),none⟩,
 ⟨some 29,.faddr 1 (.t 28),none⟩,
 ⟨some 30,.load false 1 (.t 29),none⟩,
 ⟨some 31,.mov (.t 6),none⟩,
 ⟨some 32,.slice 1 (.t 30) none (some (.t 31)) none,none⟩,
 ⟨some 33,.mov (.t 0),none⟩,
 ⟨some 34,.nilchk (.t 33),none⟩,
 ⟨some 35,.faddr 1 (.t 34),none⟩,
 ⟨some 36,.load false 1 (.t 35),none⟩,
 ⟨some 37,.mov (.t 6),none⟩,
 ⟨some 38,.slice 1 (.t 36) (some (.t 37)) none none,none⟩,
 ⟨some 39,.build [.sl true 0 [],.sl true 0 []] [(0,1,(.t 32)),(1,1,(.t 38))],none⟩,
 ⟨some 40,.ocall 49 [(.t 39)],none⟩,
 ⟨none,.store 2 (.t 4) (.t 40),none⟩,
 ⟨some 5,.mov (.c (.bool true)),none⟩])
 (.ret))
 (.skip))))
 (.seq (.draw 5 [⟨some 41,.mov (.t 0),none⟩,
 ⟨some 42,.nilchk (.t 41),none⟩,
 ⟨some 43,.faddr 0 (.t 42),none⟩,
 ⟨some 44,.load false 1 (.t 43),none⟩,
 ⟨some 45,.load true 2 (.t 3),none⟩,
 ⟨some 46,.mov (.t 0),none⟩,
 ⟨some 47,.nilchk (.t 46),none⟩,
 ⟨some 48,.faddr 1 (.t 47),none⟩,
 ⟨some 49,.load false 1 (.t 48),none⟩,
 ⟨some 50,.len (.t 49),none⟩,
 ⟨none,.mupd [2,0,0] (.t 44) (.t 45) (.t 50),none⟩])
 (.seq (.region [⟨some 51,.build [.sl true 0 [],.sl true 0 []] [],none⟩,
 ⟨none,.store 2 (.t 4) (.t 51),none⟩,
 ⟨some 5,.mov (.c (.bool false)),none⟩])
 (.ret))))),
 [.cell 4 true 2,.tmp 5]⟩
def a55 : AFunc := ⟨24,
 .seq (.region [⟨some 2,.box (.t 0),none⟩,
 ⟨some 4,.mov (.c (.int .i64 0)),none⟩])
 (.seq (.region [⟨some 6,.faddr 0 (.t 2),none⟩,
 ⟨some 7,.load false 1 (.t 6),none⟩,
 ⟨some 8,.len (.t 7),none⟩,
 ⟨some 5,.mov (.t 8),none⟩])
 (.seq (.seq (.region [⟨some 9,.mov (.t 1),none⟩,
 ⟨some 10,.mov (.t 5),none⟩,
 ⟨some 11,.bin .lss (.t 9) (.t 10),none⟩])
 (.cond (.t 11)
 (.seq (.region [⟨some 12,.mov (.t 1),none⟩,
 ⟨some 13,.maxi (.t 12) (.c (.int .i64 0)),none⟩,
 ⟨some 4,.mov (.t 13),none⟩])
 (.ret))
 (.skip)))
 (.seq (.region [⟨some 14,.mov (.t 5),none⟩,
 ⟨some 15,.mov (.t 1),none⟩,
 ⟨some 16,.mov (.t 5),none⟩,
 ⟨some 17,.bin .sub (.t 15) (.t 16),none⟩,
 ⟨some 18,.faddr 1 (.t 2),none⟩,
 ⟨some 19,.load false 1 (.t 18),none⟩,
 ⟨some 20,.len (.t 19),none⟩,
 ⟨some 21,.maxi (.t 20) (.c (.int .i64 1)),none⟩,
 ⟨some 22,.bin .rem (.t 17) (.t 21),none⟩,
 ⟨some 23,.bin .add (.t 14) (.t 22),none⟩,
 ⟨some 4,.mov (.t 23),none⟩])
 (.ret)))),
 [.tmp 4]⟩
def a59 : AFunc := ⟨46,
 .seq (.region [⟨some 10,.mov (.c (.int .i64 0)),none⟩])
 (.seq (.block 0 (.seq (.region [⟨some 12,.mov (.t 0),none⟩,
 ⟨some 13,.bin .lss (.t 12) (.c (.int .i64 0)),none⟩,
 ⟨some 14,.mov (.t 13),none⟩,
 ⟨some 15,.mov (.t 1),some (14,false)⟩,
 ⟨some 16,.bin .lss (.t 15) (.c (.int .i64 0)),some (14,false)⟩,
 ⟨some 17,.pick (.t 14) (.c (.bool true)) (.t 16),none⟩,
 ⟨some 18,.mov (.t 17),none⟩,
 ⟨some 19,.mov (.t 0),some (18,false)⟩,
 ⟨some 20,.bin .gtr (.t 19) (.c (.int .i64 6)),some (18,false)⟩,
 ⟨some 21,.pick (.t 18) (.c (.bool true)) (.t 20),none⟩,
 ⟨some 22,.mov (.t 21),none⟩,
 ⟨some 23,.mov (.t 1),some (22,false)⟩,
 ⟨some 24,.mov (.t 0),some (22,false)⟩,
 ⟨some 25,.bin .sub (.c (.int .i64 6)) (.t 24),some (22,false)⟩,
 ⟨some 26,.bin .gtr (.t 23) (.t 25),some (22,false)⟩,
 ⟨some 27,.pick (.t 22) (.c (.bool true)) (.t 26),none⟩,
 ⟨some 11,.mov (.t 27),none⟩])
 (.cond (.t 11)
 (.seq (.region [⟨some 10,.mov (.c (.int .i64 7)),none⟩])
 (.ret))
 (.seq (.region [⟨some 29,.mov (.t 2),none⟩,
 ⟨some 30,.bin .eql (.t 29) (.c (.int .i64 0)),none⟩,
 ⟨some 28,.mov (.t 30),none⟩])
 (.cond (.t 28)
 (.seq (.region [⟨some 10,.mov (.c (.int .i64 3)),none⟩])
 (.ret))
 (.seq (.region [⟨some 32,.mov (.t 2),none⟩,
 ⟨some 33,.bin .gtr (.t 32) (.c (.int .i64 4096)),none⟩,
 ⟨some 31,.mov (.t 33),none⟩])
 (.cond (.t 31)
 (.seq (.region [⟨some 10,.mov (.c (.int .i64 10)),none⟩])
 (.ret))
 (.seq (.region [⟨some 35,.mov (.t 3),none⟩,
 ⟨some 36,.mov (.t 2),none⟩,
 ⟨some 37,.bin .neq (.t 35) (.t 36),none⟩,
 ⟨some 34,.mov (.t 37),none⟩])
 (.cond (.t 34)
 (.seq (.region [⟨some 10,.mov (.c (.int .i64 2)),none⟩])
 (.ret))
 (.seq (.region [⟨some 39,.mov (.t 4),none⟩,
 ⟨some 40,.bin .lss (.t 39) (.c (.int .i64 0)),none⟩,
 ⟨some 41,.mov (.t 40),none⟩,
 ⟨some 42,.mov (.t 4),some (41,false)⟩,
 ⟨some 43,.mov (.t 2),some (41,false)⟩,
 ⟨some 44,.bin .geq (.t 42) (.t 43),some (41,false)⟩,
 ⟨some 45,.pick (.t 41) (.c (.bool true)) (.t 44),none⟩,
 ⟨some 38,.mov (.t 45),none⟩])
 (.cond (.t 38)
 (.seq (.region [⟨some 10,.mov (.c (.int .i64 8)),none⟩])
 (.ret))
 (.skip))))))))))))
 (.seq (.region [⟨some 10,.mov (.c (.int .i64 0)),none⟩])
 (.ret))),
 [.tmp 10]⟩
def a60 : AFunc := ⟨8,
 .seq (.region [⟨some 3,.box (.t 1),none⟩,
 ⟨some 4,.mov (.c (.bool false)),none⟩])
 (.seq (.region [⟨some 5,.mov (.t 0),none⟩,
 ⟨some 6,.mkfunc 91 [(.t 3)],none⟩,
 ⟨some 7,.icall (.c (.func 90 [])) [(.t 5),(.t 6)],none⟩,
 ⟨some 4,.mov (.t 7),none⟩])
 (.ret)),
 [.tmp 4]⟩
def xOX : ACode :=
 .seq (.seq (.region [⟨some 12,.mov (.t 4),none⟩,
 ⟨some 13,.mov (.t 0),none⟩,
 ⟨some 14,.len (.t 13),none⟩,
 ⟨some 15,.bin .lss (.t 12) (.t 14),none⟩])
 (.cond (.t 15)
 (.skip)
 (.exit 0)))
 (.seq (.block 1 (.region [⟨some 18,.mov (.t 3),none⟩,
 ⟨some 19,.mov (.t 0),none⟩,
 ⟨some 20,.mov (.t 4),none⟩,
 ⟨some 21,.iaddr 1 (.t 19) (.t 20),none⟩,
 ⟨some 22,.load false 1 (.t 21),none⟩,
 ⟨some 23,.maxi (.t 18) (.t 22),none⟩,
 ⟨some 3,.mov (.t 23),none⟩]))
 (.region [⟨some 16,.mov (.t 4),none⟩,
 ⟨some 17,.bin .add (.t 16) (.c (.int .i64 1)),none⟩,
 ⟨some 4,.mov (.t 17),none⟩]))
def xVs : ACode := xOX
def xL8 : List Nat := [1,2,5,6,7,8,9,10,11,12,13,14,15,16,17,18,19,20,21,22,23,24]
abbrev xL9 (s0 s3 s4 : AV) : List AV := [s0,.any,.any,s3,s4,.any,.any,.any,.any,.any,.any,.any,.any,.any,.any,.any,.any,.any,.any,.any,.any,.any,.any,.any,.any]
theorem xSi (s0 s1 s2 s3 s4 s5 s6 s7 s8 s9 s10 s11 s12 s13 s14 s15 s16 s17 s18 s19 s20 s21 s22 s23 s24 : AV) : xAL xL8 [s0,s1,s2,s3,s4,s5,s6,s7,s8,s9,s10,s11,s12,s13,s14,s15,s16,s17,s18,s19,s20,s21,s22,s23,s24] = xL9 s0 s3 s4 := by kernel_rfl
theorem xWw {prog : Nat → Option AFunc} (s0 s3 s4 : AV) (H : Heap) : (lim prog).loop xL8 xVs ⟨xL9 s0 s3 s4,H⟩ = xBH (lim prog) xL8 xVs (run (lim prog) xOX ⟨xL9 s0 s3 s4,H⟩) := xAo _ _ _ _ (by kernel_rfl)
def a61 : AFunc := ⟨25,
 .seq (.region [⟨some 2,.mov (.c (.int .u8 0)),none⟩])
 (.seq (.seq (.region [⟨some 5,.mov (.t 0),none⟩,
 ⟨some 6,.len (.t 5),none⟩,
 ⟨some 7,.bin .lss (.t 6) (.c (.int .i64 1)),none⟩])
 (.cond (.t 7)
 (.stuck)
 (.skip)))
 (.seq (.region [⟨some 9,.mov (.t 0),none⟩,
 ⟨some 10,.iaddr 1 (.t 9) (.c (.int .i64 0)),none⟩,
 ⟨some 11,.load false 1 (.t 10),none⟩,
 ⟨some 3,.mov (.t 11),none⟩])
 (.seq (.seq (.region [⟨some 4,.mov (.c (.int .i64 1)),none⟩])
 (.block 0 (.loop xL8 xVs)))
 (.seq (.region [⟨some 24,.mov (.t 3),none⟩,
 ⟨some 2,.mov (.t 24),none⟩])
 (.ret))))),
 [.tmp 2]⟩
def a62 : AFunc := ⟨25,
 .seq (.region [⟨some 4,.mov (.c (.int .i64 0)),none⟩])
 (.seq (.seq (.region [⟨some 5,.mov (.t 0),none⟩,
 ⟨some 6,.bin .lss (.t 5) (.c (.int .i64 0)),none⟩,
 ⟨some 7,.mov (.t 6),none⟩,
 ⟨some 8,.mov (.t 1),some (7,false)⟩,
 ⟨some 9,.bin .lss (.t 8) (.c (.int .i64 0)),some (7,false)⟩,
 ⟨some 10,.pick (.t 7) (.c (.bool true)) (.t 9),none⟩,
 ⟨some 11,.mov (.t 10),none⟩,
 ⟨some 12,.mov (.t 0),some (11,false)⟩,
 ⟨some 13,.bin .gtr (.t 12) (.c (.int .i64 6)),some (11,false)⟩,
 ⟨some 14,.pick (.t 11) (.c (.bool true)) (.t 13),none⟩,
 ⟨some 15,.mov (.t 14),none⟩,
 ⟨some 16,.mov (.t 1),some (15,false)⟩,
 ⟨some 17,.bin .gtr (.t 16) (.c (.int .i64 6)),some (15,false)⟩,
 ⟨some 18,.pick (.t 15) (.c (.bool true)) (.t 17),none⟩,
 ⟨some 19,.mov (.t 18),none⟩,
 ⟨some 20,.mov (.t 0),some (19,false)⟩,
 ⟨some 21,.mov (.t 1),some (19,false)⟩,
 ⟨some 22,.bin .add (.t 20) (.t 21),some (19,false)⟩,
 ⟨some 23,.bin .gtr (.t 22) (.c (.int .i64 6)),some (19,false)⟩,
 ⟨some 24,.pick (.t 19) (.c (.bool true)) (.t 23),none⟩])
 (.cond (.t 24)
 (.seq (.region [⟨some 4,.mov (.c (.int .i64 7)),none⟩])
 (.ret))
 (.skip)))
 (.seq (.region [⟨some 4,.mov (.c (.int .i64 0)),none⟩])
 (.ret))),
 [.tmp 4]⟩
def a63 : AFunc := ⟨25,
 .seq (.region [⟨some 6,.mov (.c (.int .i64 0)),none⟩])
 (.seq (.seq (.region [⟨some 7,.mov (.t 0),none⟩,
 ⟨some 8,.len (.t 7),none⟩,
 ⟨some 9,.bin .eql (.t 8) (.c (.int .i64 0)),none⟩])
 (.cond (.t 9)
 (.seq (.region [⟨some 6,.mov (.c (.int .i64 3)),none⟩])
 (.ret))
 (.skip)))
 (.seq (.seq (.region [⟨some 10,.mov (.t 0),none⟩,
 ⟨some 11,.len (.t 10),none⟩,
 ⟨some 12,.bin .gtr (.t 11) (.c (.int .i64 4096)),none⟩])
 (.cond (.t 12)
 (.seq (.region [⟨some 6,.mov (.c (.int .i64 10)),none⟩])
 (.ret))
 (.skip)))
 (.seq (.seq (.region [⟨some 13,.mov (.t 1),none⟩,
 ⟨some 14,.mov (.t 0),none⟩,
 ⟨some 15,.len (.t 14),none⟩,
 ⟨some 16,.bin .neq (.t 13) (.t 15),none⟩])
 (.cond (.t 16)
 (.seq (.region [⟨some 6,.mov (.c (.int .i64 2)),none⟩])
 (.ret))
 (.skip)))
 (.seq (.seq (.region [⟨some 17,.mov (.t 2),none⟩,
 ⟨some 18,.bin .lss (.t 17) (.c (.int .i64 0)),none⟩,
 ⟨some 19,.mov (.t 18),none⟩,
 ⟨some 20,.mov (.t 2),some (19,false)⟩,
 ⟨some 21,.mov (.t 0),some (19,false)⟩,
 ⟨some 22,.len (.t 21),some (19,false)⟩,
 ⟨some 23,.bin .geq (.t 20) (.t 22),some (19,false)⟩,
 ⟨some 24,.pick (.t 19) (.c (.bool true)) (.t 23),none⟩])
 (.cond (.t 24)
 (.seq (.region [⟨some 6,.mov (.c (.int .i64 8)),none⟩])
 (.ret))
 (.skip)))
 (.seq (.region [⟨some 6,.mov (.c (.int .i64 0)),none⟩])
 (.ret)))))),
 [.tmp 6]⟩
def xG2 : ACode :=
 .seq (.seq (.region [⟨some 6,.mov (.t 5),none⟩,
 ⟨some 7,.mov (.t 0),none⟩,
 ⟨some 8,.len (.t 7),none⟩,
 ⟨some 9,.bin .lss (.t 6) (.t 8),none⟩])
 (.cond (.t 9)
 (.skip)
 (.exit 0)))
 (.seq (.block 1 (.seq (.region [⟨some 12,.mov (.t 0),none⟩,
 ⟨some 13,.mov (.t 5),none⟩,
 ⟨some 14,.iaddr 1 (.t 12) (.t 13),none⟩,
 ⟨some 15,.load false 1 (.t 14),none⟩,
 ⟨some 16,.bin .lss (.t 15) (.c (.int .i64 0)),none⟩,
 ⟨some 17,.mov (.t 16),none⟩,
 ⟨some 18,.mov (.t 0),some (17,false)⟩,
 ⟨some 19,.mov (.t 5),some (17,false)⟩,
 ⟨some 20,.iaddr 1 (.t 18) (.t 19),some (17,false)⟩,
 ⟨some 21,.load false 1 (.t 20),some (17,false)⟩,
 ⟨some 22,.mov (.t 1),some (17,false)⟩,
 ⟨some 23,.bin .geq (.t 21) (.t 22),some (17,false)⟩,
 ⟨some 24,.pick (.t 17) (.c (.bool true)) (.t 23),none⟩])
 (.cond (.t 24)
 (.seq (.region [⟨some 4,.mov (.c (.bool false)),none⟩])
 (.ret))
 (.skip))))
 (.region [⟨some 10,.mov (.t 5),none⟩,
 ⟨some 11,.bin .add (.t 10) (.c (.int .i64 1)),none⟩,
 ⟨some 5,.mov (.t 11),none⟩]))
def xVt : ACode := xG2
def xMa : List Nat := [2,3,6,7,8,9,10,11,12,13,14,15,16,17,18,19,20,21,22,23,24]
abbrev xIW (s0 s1 s4 s5 : AV) : List AV := [s0,s1,.any,.any,s4,s5,.any,.any,.any,.any,.any,.any,.any,.any,.any,.any,.any,.any,.any,.any,.any,.any,.any,.any,.any]
theorem xG3 (s0 s1 s2 s3 s4 s5 s6 s7 s8 s9 s10 s11 s12 s13 s14 s15 s16 s17 s18 s19 s20 s21 s22 s23 s24 : AV) : xAL xMa [s0,s1,s2,s3,s4,s5,s6,s7,s8,s9,s10,s11,s12,s13,s14,s15,s16,s17,s18,s19,s20,s21,s22,s23,s24] = xIW s0 s1 s4 s5 := by kernel_rfl
theorem xOY {prog : Nat → Option AFunc} (s0 s1 s4 s5 : AV) (H : Heap) : (lim prog).loop xMa xVt ⟨xIW s0 s1 s4 s5,H⟩ = xBH (lim prog) xMa xVt (run (lim prog) xG2 ⟨xIW s0 s1 s4 s5,H⟩) := xAo _ _ _ _ (by kernel_rfl)
def a64 : AFunc := ⟨25,
 .seq (.region [⟨some 4,.mov (.c (.bool false)),none⟩])
 (.seq (.seq (.region [⟨some 5,.mov (.c (.int .i64 0)),none⟩])
 (.block 0 (.loop xMa xVt)))
 (.seq (.region [⟨some 4,.mov (.c (.bool true)),none⟩])
 (.ret))),
 [.tmp 4]⟩
def xOZ : ACode :=
 .seq (.seq (.region [⟨some 11,.mov (.t 5),none⟩,
 ⟨some 12,.mov (.t 0),none⟩,
 ⟨some 13,.len (.t 12),none⟩,
 ⟨some 14,.bin .lss (.t 11) (.t 13),none⟩])
 (.cond (.t 14)
 (.skip)
 (.exit 0)))
 (.seq (.block 1 (.seq (.draw 5 [⟨some 17,.mov (.t 0),none⟩,
 ⟨some 18,.mov (.t 5),none⟩,
 ⟨some 19,.iaddr 1 (.t 17) (.t 18),none⟩,
 ⟨some 20,.load false 1 (.t 19),none⟩,
 ⟨some 21,.mov (.t 1),none⟩,
 ⟨some 22,.mov (.t 5),none⟩,
 ⟨some 23,.iaddr 1 (.t 21) (.t 22),none⟩,
 ⟨some 24,.load false 1 (.t 23),none⟩,
 ⟨some 25,.bin .neq (.t 20) (.t 24),none⟩])
 (.cond (.t 25)
 (.seq (.region [⟨some 4,.mov (.c (.bool false)),none⟩])
 (.ret))
 (.skip))))
 (.region [⟨some 15,.mov (.t 5),none⟩,
 ⟨some 16,.bin .add (.t 15) (.c (.int .i64 1)),none⟩,
 ⟨some 5,.mov (.t 16),none⟩]))
def xVu : ACode := xOZ
def xMb : List Nat := [2,3,6,7,8,9,10,11,12,13,14,15,16,17,18,19,20,21,22,23,24,25]
abbrev xMc (s0 s1 s4 s5 : AV) : List AV := [s0,s1,.any,.any,s4,s5,.any,.any,.any,.any,.any,.any,.any,.any,.any,.any,.any,.any,.any,.any,.any,.any,.any,.any,.any,.any]
theorem xSj (s0 s1 s2 s3 s4 s5 s6 s7 s8 s9 s10 s11 s12 s13 s14 s15 s16 s17 s18 s19 s20 s21 s22 s23 s24 s25 : AV) : xAL xMb [s0,s1,s2,s3,s4,s5,s6,s7,s8,s9,s10,s11,s12,s13,s14,s15,s16,s17,s18,s19,s20,s21,s22,s23,s24,s25] = xMc s0 s1 s4 s5 := by kernel_rfl
theorem xWx {prog : Nat → Option AFunc} (s0 s1 s4 s5 : AV) (H : Heap) : (lim prog).loop xMb xVu ⟨xMc s0 s1 s4 s5,H⟩ = xBH (lim prog) xMb xVu (run (lim prog) xOZ ⟨xMc s0 s1 s4 s5,H⟩) := xAo _ _ _ _ (by kernel_rfl)
def a65 : AFunc := ⟨26,
 .seq (.region [⟨some 4,.mov (.c (.bool false)),none⟩])
 (.seq (.seq (.region [⟨some 6,.mov (.t 0),none⟩,
 ⟨some 7,.len (.t 6),none⟩,
 ⟨some 8,.mov (.t 1),none⟩,
 ⟨some 9,.len (.t 8),none⟩,
 ⟨some 10,.bin .neq (.t 7) (.t 9),none⟩])
 (.cond (.t 10)
 (.seq (.region [⟨some 4,.mov (.c (.bool false)),none⟩])
 (.ret))
 (.skip)))
 (.seq (.seq (.region [⟨some 5,.mov (.c (.int .i64 0)),none⟩])
 (.block 0 (.loop xMb xVu)))
 (.seq (.region [⟨some 4,.mov (.c (.bool true)),none⟩])
 (.ret)))),
 [.tmp 4]⟩
def xZu : ACode :=
 .seq (.seq (.region [⟨some 11,.mov (.t 5),none⟩,
 ⟨some 12,.mov (.t 0),none⟩,
 ⟨some 13,.len (.t 12),none⟩,
 ⟨some 14,.bin .lss (.t 11) (.t 13),none⟩])
 (.cond (.t 14)
 (.skip)
 (.exit 0)))
 (.seq (.block 1 (.seq (.draw 5 [⟨some 17,.mov (.t 0),none⟩,
 ⟨some 18,.mov (.t 5),none⟩,
 ⟨some 19,.iaddr 1 (.t 17) (.t 18),none⟩,
 ⟨some 20,.load false 1 (.t 19),none⟩,
 ⟨some 21,.mov (.t 1),none⟩,
 ⟨some 22,.mov (.t 5),none⟩,
 ⟨some 23,.iaddr 1 (.t 21) (.t 22),none⟩,
 ⟨some 24,.load false 1 (.t 23),none⟩,
 ⟨some 25,.call 24 [(.t 20),(.t 24)],none⟩,
 ⟨some 26,.un .not (.t 25),none⟩])
 (.cond (.t 26)
 (.seq (.region [⟨some 4,.mov (.c (.bool false)),none⟩])
 (.ret))
 (.skip))))
 (.region [⟨some 15,.mov (.t 5),none⟩,
 ⟨some 16,.bin .add (.t 15) (.c (.int .i64 1)),none⟩,
 ⟨some 5,.mov (.t 16),none⟩]))
def yAW : ACode := xZu
def xZv : List Nat := [2,3,6,7,8,9,10,11,12,13,14,15,16,17,18,19,20,21,22,23,24,25,26]
def a66 : AFunc := ⟨27,
 .seq (.region [⟨some 4,.mov (.c (.bool false)),none⟩])
 (.seq (.seq (.region [⟨some 6,.mov (.t 0),none⟩,
 ⟨some 7,.len (.t 6),none⟩,
 ⟨some 8,.mov (.t 1),none⟩,
 ⟨some 9,.len (.t 8),none⟩,
 ⟨some 10,.bin .neq (.t 7) (.t 9),none⟩])
 (.cond (.t 10)
 (.seq (.region [⟨some 4,.mov (.c (.bool false)),none⟩])
 (.ret))
 (.skip)))
 (.seq (.seq (.region [⟨some 5,.mov (.c (.int .i64 0)),none⟩])
 (.block 0 (.loop xZv yAW)))
 (.seq (.region [⟨some 4,.mov (.c (.bool true)),none⟩])
 (.ret)))),
 [.tmp 4]⟩
def xZw : ACode :=
 .seq (.seq (.region [⟨some 11,.mov (.t 5),none⟩,
 ⟨some 12,.mov (.t 0),none⟩,
 ⟨some 13,.len (.t 12),none⟩,
 ⟨some 14,.bin .lss (.t 11) (.t 13),none⟩])
 (.cond (.t 14)
 (.skip)
 (.exit 0)))
 (.seq (.block 1 (.seq (.draw 5 [⟨some 17,.mov (.t 0),none⟩,
 ⟨some 18,.mov (.t 5),none⟩,
 ⟨some 19,.iaddr 1 (.t 17) (.t 18),none⟩,
 ⟨some 20,.load false 1 (.t 19),none⟩,
 ⟨some 21,.mov (.t 1),none⟩,
 ⟨some 22,.mov (.t 5),none⟩,
 ⟨some 23,.iaddr 1 (.t 21) (.t 22),none⟩,
 ⟨some 24,.load false 1 (.t 23),none⟩,
 ⟨some 25,.call 23 [(.t 20),(.t 24)],none⟩,
 ⟨some 26,.un .not (.t 25),none⟩])
 (.cond (.t 26)
 (.seq (.region [⟨some 4,.mov (.c (.bool false)),none⟩])
 (.ret))
 (.skip))))
 (.region [⟨some 15,.mov (.t 5),none⟩,
 ⟨some 16,.bin .add (.t 15) (.c (.int .i64 1)),none⟩,
 ⟨some 5,.mov (.t 16),none⟩]))
def yAX : ACode := xZw
def xZx : List Nat := [2,3,6,7,8,9,10,11,12,13,14,15,16,17,18,19,20,21,22,23,24,25,26]
def a67 : AFunc := ⟨27,
 .seq (.region [⟨some 4,.mov (.c (.bool false)),none⟩])
 (.seq (.seq (.region [⟨some 6,.mov (.t 0),none⟩,
 ⟨some 7,.len (.t 6),none⟩,
 ⟨some 8,.mov (.t 1),none⟩,
 ⟨some 9,.len (.t 8),none⟩,
 ⟨some 10,.bin .neq (.t 7) (.t 9),none⟩])
 (.cond (.t 10)
 (.seq (.region [⟨some 4,.mov (.c (.bool false)),none⟩])
 (.ret))
 (.skip)))
 (.seq (.seq (.region [⟨some 5,.mov (.c (.int .i64 0)),none⟩])
 (.block 0 (.loop xZx yAX)))
 (.seq (.region [⟨some 4,.mov (.c (.bool true)),none⟩])
 (.ret)))),
 [.tmp 4]⟩
def a68 : AFunc := ⟨52,
 .seq (.region [⟨some 3,.box (.t 1),none⟩,
 ⟨some 4,.box (.c (.agg [.sl true 0 [],.sl true 0 []])),none⟩,
 ⟨some 5,.mov (.c (.bool false)),none⟩])
 (.seq (.seq (.region [⟨some 8,.mov (.t 0),none⟩,
 ⟨some 9,.nilchk (.t 8),none⟩,
 ⟨some 10,.faddr 0 (.t 9),none⟩,
 ⟨some 11,.load false 1 (.t 10),none⟩,
 ⟨some 12,.mnil false (.t 11),none⟩])
 (.cond (.t 12)
 (.region [⟨some 13,.mov (.t 0),none⟩,
 ⟨some 14,.mkmap,none⟩,
 ⟨some 15,.nilchk (.t 13),none⟩,
 ⟨some 16,.faddr 0 (.t 15),none⟩,
 ⟨none,.store 1 (.t 16) (.t 14),none⟩])
 (.skip)))
 (.seq (.seq (.draw 9 [⟨some 18,.mov (.t 0),none⟩,
 ⟨some 19,.nilchk (.t 18),none⟩,
 ⟨some 20,.faddr 0 (.t 19),none⟩,
 ⟨some 21,.load false 1 (.t 20),none⟩,
 ⟨some 22,.load true 2 (.t 3),none⟩,
 ⟨some 23,.mlook [2,0,0] true (.int .i64 0) (.t 21) (.t 22),none⟩,
 ⟨some 17,.mov (.t 23),none⟩,
 ⟨some 24,.ext 0 (.t 17),none⟩,
 ⟨some 25,.ext 1 (.t 17),none⟩,
 ⟨some 6,.mov (.t 24),none⟩,
 ⟨some 7,.mov (.t 25),none⟩])
 (.seq (.region [⟨some 26,.mov (.t 7),none⟩])
 (.cond (.t 26)
 (.seq (.drawp [] [] 10 [⟨some 27,.mov (.t 0),none⟩,
 ⟨some 28,.nilchk (.t 27),none⟩,
 ⟨some 29,.faddr 1 (.t 28),none⟩,
 ⟨some 30,.load false 1 (.t 29),none⟩,
 ⟨some 31,.mov (.t 6),none⟩,
 ⟨some 32,.slice 1 (.t 30) none (some (.t 31)) none,none⟩,
 ⟨some 33,.mov (.t 0),none⟩,
 ⟨some 34,.nilchk (.t 33),none⟩,
 ⟨some 35,.faddr 1 (.t 34),none⟩,
 ⟨some 36,.load false 1 (.t 35),none⟩,
 ⟨some 37,.mov (.t 6),none⟩,
 ⟨some 38,.slice 1 (.t 36) (some (.t 37)) none none,none⟩,
 ⟨some 39,.build [.sl true 0 [],.sl true 0 []] [(0,1,(.t 32)),(1,1,(.t 38))],none⟩,
 ⟨some 40,.ocall 49 [(.t 39)],none⟩,
 ⟨none,.store 2 (.t 4) (.t 40),none⟩,
 ⟨some 5,.mov (.c (.bool true)),none⟩])
 (.ret))
 (.skip))))
 (.seq (.draw 5 [⟨some 41,.mov (.t 0),none⟩,
 ⟨some 42,.nilchk (.t 41),none⟩,
 ⟨some 43,.faddr 0 (.t 42),none⟩,
 ⟨some 44,.load false 1 (.t 43),none⟩,
 ⟨some 45,.load true 2 (.t 3),none⟩,
 ⟨some 46,.mov (.t 0),none⟩,
 ⟨some 47,.nilchk (.t 46),none⟩,
 ⟨some 48,.faddr 1 (.t 47),none⟩,
 ⟨some 49,.load false 1 (.t 48),none⟩,
 ⟨some 50,.len (.t 49),none⟩,
 ⟨none,.mupd [2,0,0] (.t 44) (.t 45) (.t 50),none⟩])
 (.seq (.region [⟨some 51,.build [.sl true 0 [],.sl true 0 []] [],none⟩,
 ⟨none,.store 2 (.t 4) (.t 51),none⟩,
 ⟨some 5,.mov (.c (.bool false)),none⟩])
 (.ret))))),
 [.cell 4 true 2,.tmp 5]⟩
def xZy : ACode :=
 .seq (.region [⟨some 33,.bin .lss (.t 32) (.t 31),none⟩])
 (.seq (.cond (.t 33)
 (.skip)
 (.exit 4))
 (.seq (.block 5 (.seq (.region [⟨some 34,.mov (.t 32),none⟩,
 ⟨some 35,.iaddr 1 (.t 30) (.t 32),none⟩,
 ⟨some 36,.load false 1 (.t 35),none⟩,
 ⟨some 10,.mov (.t 34),none⟩,
 ⟨some 11,.mov (.t 36),none⟩])
 (.region [⟨some 37,.mov (.t 9),none⟩,
 ⟨some 38,.mov (.t 10),none⟩,
 ⟨some 39,.mov (.t 3),none⟩,
 ⟨some 40,.mov (.t 11),none⟩,
 ⟨some 41,.iaddr 1 (.t 39) (.t 40),none⟩,
 ⟨some 42,.load false 1 (.t 41),none⟩,
 ⟨some 43,.iaddr 1 (.t 37) (.t 38),none⟩,
 ⟨none,.store 1 (.t 43) (.t 42),none⟩])))
 (.region [⟨some 44,.bin .add (.t 32) (.c (.int .i64 1)),none⟩,
 ⟨some 32,.mov (.t 44),none⟩])))
def yAY : ACode := xZy
def xZz : List Nat := [0,2,8,10,11,12,13,14,15,16,17,18,19,23,24,25,26,27,28,29,33,34,35,36,37,38,39,40,41,42,43,44,45,46,47,48,49,50,51,52,53,54,55,56,57,58,59,60,61,62,63,64,65,66,67,68,69,70,71]
def xZA : ACode :=
 .seq (.region [⟨some 23,.bin .lss (.t 22) (.t 21),none⟩])
 (.seq (.cond (.t 23)
 (.skip)
 (.exit 2))
 (.seq (.block 3 (.seq (.region [⟨some 24,.mov (.t 22),none⟩,
 ⟨some 25,.iaddr 1 (.t 20) (.t 22),none⟩,
 ⟨some 26,.load false 1 (.t 25),none⟩,
 ⟨some 7,.mov (.t 24),none⟩,
 ⟨some 8,.mov (.t 26),none⟩])
 (.seq (.region [⟨some 27,.mov (.t 8),none⟩,
 ⟨some 28,.len (.t 27),none⟩,
 ⟨some 29,.mkslice false [.int .i64 0] 8 (.t 28) (.t 28),none⟩,
 ⟨some 9,.mov (.t 29),none⟩])
 (.seq (.seq (.region [⟨some 30,.mov (.t 8),none⟩,
 ⟨some 31,.len (.t 30),none⟩,
 ⟨some 32,.mov (.c (.int .i64 0)),none⟩])
 (.block 4 (.loop xZz yAY)))
 (.draw 10 [⟨some 46,.mov (.t 6),none⟩,
 ⟨some 47,.mov (.t 7),none⟩,
 ⟨some 48,.faddr 4 (.t 1),none⟩,
 ⟨some 49,.load false 1 (.t 48),none⟩,
 ⟨some 50,.mov (.t 7),none⟩,
 ⟨some 51,.iaddr 1 (.t 49) (.t 50),none⟩,
 ⟨some 52,.load false 1 (.t 51),none⟩,
 ⟨some 53,.bstr (.t 52),none⟩,
 ⟨some 54,.mov (.t 9),none⟩,
 ⟨some 55,.call 93 [(.t 54)],none⟩,
 ⟨some 56,.build [.str ⟨#[]⟩,.str ⟨#[]⟩] [(0,1,(.t 53)),(1,1,(.t 55))],none⟩,
 ⟨some 57,.icall (.c (.func 92 [])) [(.t 5),(.t 56)],none⟩,
 ⟨some 45,.mov (.t 57),none⟩,
 ⟨some 58,.ext 0 (.t 45),none⟩,
 ⟨some 59,.ext 1 (.t 45),none⟩,
 ⟨some 60,.iaddr 1 (.t 46) (.t 47),none⟩,
 ⟨none,.store 1 (.t 60) (.t 58),none⟩])))))
 (.region [⟨some 61,.bin .add (.t 22) (.c (.int .i64 1)),none⟩,
 ⟨some 22,.mov (.t 61),none⟩])))
def yAZ : ACode := xZA
def xZB : List Nat := [0,2,7,8,9,10,11,12,13,14,15,16,17,18,19,23,24,25,26,27,28,29,30,31,32,33,34,35,36,37,38,39,40,41,42,43,44,45,46,47,48,49,50,51,52,53,54,55,56,57,58,59,60,61,62,63,64,65,66,67,68,69,70,71]
def xZC : ACode :=
 .block 1 (.seq (.region [⟨some 5,.box (.c (.agg [.nilm,.sl true 0 []])),none⟩])
 (.seq (.region [⟨some 16,.mov (.t 3),none⟩,
 ⟨some 17,.len (.t 16),none⟩,
 ⟨some 18,.mkslice false [.int .i64 0] 8 (.t 17) (.t 17),none⟩,
 ⟨some 6,.mov (.t 18),none⟩])
 (.seq (.seq (.region [⟨some 19,.faddr 3 (.t 1),none⟩,
 ⟨some 20,.load false 1 (.t 19),none⟩,
 ⟨some 21,.len (.t 20),none⟩,
 ⟨some 22,.mov (.c (.int .i64 0)),none⟩])
 (.block 2 (.loop xZB yAZ)))
 (.seq (.region [⟨some 62,.mov (.t 6),none⟩,
 ⟨some 3,.mov (.t 62),none⟩])
 (.seq (.seq (.region [⟨some 63,.faddr 1 (.t 5),none⟩,
 ⟨some 64,.load false 1 (.t 63),none⟩,
 ⟨some 65,.len (.t 64),none⟩,
 ⟨some 66,.mov (.t 4),none⟩,
 ⟨some 67,.bin .eql (.t 65) (.t 66),none⟩])
 (.cond (.t 67)
 (.seq (.region [⟨some 68,.mov (.t 3),none⟩,
 ⟨some 2,.mov (.t 68),none⟩])
 (.ret))
 (.skip)))
 (.region [⟨some 69,.faddr 1 (.t 5),none⟩,
 ⟨some 70,.load false 1 (.t 69),none⟩,
 ⟨some 71,.len (.t 70),none⟩,
 ⟨some 4,.mov (.t 71),none⟩]))))))
def yA0 : ACode := xZC
def xZD : List Nat := [0,5,6,7,8,9,10,11,12,13,14,15,16,17,18,19,20,21,22,23,24,25,26,27,28,29,30,31,32,33,34,35,36,37,38,39,40,41,42,43,44,45,46,47,48,49,50,51,52,53,54,55,56,57,58,59,60,61,62,63,64,65,66,67,68,69,70,71]
def a69 : AFunc := ⟨72,
 .seq (.region [⟨some 1,.box (.t 0),none⟩,
 ⟨some 2,.mov (.c (.sl true 0 [])),none⟩])
 (.seq (.region [⟨some 12,.faddr 3 (.t 1),none⟩,
 ⟨some 13,.load false 1 (.t 12),none⟩,
 ⟨some 14,.len (.t 13),none⟩,
 ⟨some 15,.mkslice false [.int .i64 0] 8 (.t 14) (.t 14),none⟩,
 ⟨some 3,.mov (.t 15),none⟩])
 (.seq (.region [⟨some 4,.mov (.c (.int .i64 0)),none⟩])
 (.block 0 (.loop xZD yA0)))),
 [.tmp 2]⟩
def a70 : AFunc := ⟨54,
 .seq (.region [⟨some 4,.mov (.c (.int .i64 0)),none⟩,
 ⟨some 5,.mov (.c (.bool false)),none⟩])
 (.seq (.seq (.region [⟨some 8,.mov (.t 0),none⟩,
 ⟨some 9,.nilchk (.t 8),none⟩,
 ⟨some 10,.faddr 0 (.t 9),none⟩,
 ⟨some 11,.load false 1 (.t 10),none⟩,
 ⟨some 12,.mnil false (.t 11),none⟩])
 (.cond (.t 12)
 (.region [⟨some 13,.mov (.t 0),none⟩,
 ⟨some 14,.mkmap,none⟩,
 ⟨some 15,.nilchk (.t 13),none⟩,
 ⟨some 16,.faddr 0 (.t 15),none⟩,
 ⟨none,.store 1 (.t 16) (.t 14),none⟩])
 (.skip)))
 (.seq (.region [⟨some 18,.mov (.t 0),none⟩,
 ⟨some 19,.nilchk (.t 18),none⟩,
 ⟨some 20,.faddr 0 (.t 19),none⟩,
 ⟨some 21,.load false 1 (.t 20),none⟩,
 ⟨some 22,.mov (.t 1),none⟩,
 ⟨some 23,.mlook [0] true (.int .i64 0) (.t 21) (.t 22),none⟩,
 ⟨some 17,.mov (.t 23),none⟩,
 ⟨some 24,.ext 0 (.t 17),none⟩,
 ⟨some 25,.ext 1 (.t 17),none⟩,
 ⟨some 6,.mov (.t 24),none⟩,
 ⟨some 7,.mov (.t 25),none⟩])
 (.seq (.seq (.region [⟨some 26,.mov (.t 7),none⟩,
 ⟨some 27,.un .not (.t 26),none⟩])
 (.cond (.t 27)
 (.seq (.region [⟨some 28,.mov (.t 0),none⟩,
 ⟨some 29,.nilchk (.t 28),none⟩,
 ⟨some 30,.faddr 1 (.t 29),none⟩,
 ⟨some 31,.load false 1 (.t 30),none⟩,
 ⟨some 32,.len (.t 31),none⟩,
 ⟨some 6,.mov (.t 32),none⟩])
 (.drawl [(35,(1,(43,0)))] 11 [⟨some 33,.mov (.t 0),none⟩,
 ⟨some 34,.nilchk (.t 33),none⟩,
 ⟨some 35,.faddr 0 (.t 34),none⟩,
 ⟨some 36,.load false 1 (.t 35),none⟩,
 ⟨some 37,.mov (.t 1),none⟩,
 ⟨some 38,.mov (.t 0),none⟩,
 ⟨some 39,.mov (.t 6),none⟩,
 ⟨some 40,.mov (.t 0),none⟩,
 ⟨some 41,.nilchk (.t 40),none⟩,
 ⟨some 42,.faddr 1 (.t 41),none⟩,
 ⟨some 43,.load false 1 (.t 42),none⟩,
 ⟨some 44,.mov (.t 1),none⟩,
 ⟨some 45,.bslice true [.int .i64 0] 1 1 [(0,(.t 44))],none⟩,
 ⟨some 46,.append false 1 8 (.t 43) (.t 45),none⟩,
 ⟨some 47,.ment [0] (.int .i64 0) (.t 36) (.t 37),none⟩,
 ⟨some 48,.ext 1 (.t 47),none⟩,
 ⟨none,.mstore (.t 36) (.t 48) (.t 39),none⟩,
 ⟨some 49,.nilchk (.t 38),none⟩,
 ⟨some 50,.faddr 1 (.t 49),none⟩,
 ⟨none,.store 1 (.t 50) (.t 46),none⟩]))
 (.skip)))
 (.seq (.region [⟨some 51,.mov (.t 6),none⟩,
 ⟨some 52,.mov (.t 7),none⟩,
 ⟨some 53,.un .not (.t 52),none⟩,
 ⟨some 4,.mov (.t 51),none⟩,
 ⟨some 5,.mov (.t 53),none⟩])
 (.ret))))),
 [.tmp 4,.tmp 5]⟩
def a71 : AFunc := ⟨4,
 .seq (.region [⟨some 1,.box (.t 0),none⟩,
 ⟨some 2,.mov (.c (.nilf)),none⟩])
 (.seq (.region [⟨some 3,.mkfunc 94 [(.t 1)],none⟩,
 ⟨some 2,.mov (.t 3),none⟩])
 (.ret)),
 [.tmp 2]⟩
def a72 : AFunc := ⟨8,
 .seq (.region [⟨some 2,.mov (.c (.sl true 0 [])),none⟩])
 (.seq (.seq (.region [⟨some 3,.mov (.t 0),none⟩,
 ⟨some 4,.isnil false (.t 3),none⟩])
 (.cond (.t 4)
 (.seq (.region [⟨some 2,.mov (.c (.sl true 0 [])),none⟩])
 (.ret))
 (.skip)))
 (.seq (.region [⟨some 5,.bslice false [.int .u8 0] 1 0 [],none⟩,
 ⟨some 6,.mov (.t 0),none⟩,
 ⟨some 7,.append false 1 1 (.t 5) (.t 6),none⟩,
 ⟨some 2,.mov (.t 7),none⟩])
 (.ret))),
 [.tmp 2]⟩
def a74 : AFunc := ⟨54,
 .seq (.region [⟨some 3,.box (.t 1),none⟩,
 ⟨some 4,.mov (.c (.int .i64 0)),none⟩,
 ⟨some 5,.mov (.c (.bool false)),none⟩])
 (.seq (.seq (.region [⟨some 8,.mov (.t 0),none⟩,
 ⟨some 9,.nilchk (.t 8),none⟩,
 ⟨some 10,.faddr 0 (.t 9),none⟩,
 ⟨some 11,.load false 1 (.t 10),none⟩,
 ⟨some 12,.mnil false (.t 11),none⟩])
 (.cond (.t 12)
 (.region [⟨some 13,.mov (.t 0),none⟩,
 ⟨some 14,.mkmap,none⟩,
 ⟨some 15,.nilchk (.t 13),none⟩,
 ⟨some 16,.faddr 0 (.t 15),none⟩,
 ⟨none,.store 1 (.t 16) (.t 14),none⟩])
 (.skip)))
 (.seq (.draw 9 [⟨some 18,.mov (.t 0),none⟩,
 ⟨some 19,.nilchk (.t 18),none⟩,
 ⟨some 20,.faddr 0 (.t 19),none⟩,
 ⟨some 21,.load false 1 (.t 20),none⟩,
 ⟨some 22,.load true 2 (.t 3),none⟩,
 ⟨some 23,.mlook [2,0,0] true (.int .i64 0) (.t 21) (.t 22),none⟩,
 ⟨some 17,.mov (.t 23),none⟩,
 ⟨some 24,.ext 0 (.t 17),none⟩,
 ⟨some 25,.ext 1 (.t 17),none⟩,
 ⟨some 6,.mov (.t 24),none⟩,
 ⟨some 7,.mov (.t 25),none⟩])
 (.seq (.seq (.region [⟨some 26,.mov (.t 7),none⟩,
 ⟨some 27,.un .not (.t 26),none⟩])
 (.cond (.t 27)
 (.seq (.region [⟨some 28,.mov (.t 0),none⟩,
 ⟨some 29,.nilchk (.t 28),none⟩,
 ⟨some 30,.faddr 1 (.t 29),none⟩,
 ⟨some 31,.load false 1 (.t 30),none⟩,
 ⟨some 32,.len (.t 31),none⟩,
 ⟨some 6,.mov (.t 32),none⟩])
 (.drawl [(35,(1,(43,0))),(3,(2,(43,0)))] 11 [⟨some 33,.mov (.t 0),none⟩,
 ⟨some 34,.nilchk (.t 33),none⟩,
 ⟨some 35,.faddr 0 (.t 34),none⟩,
 ⟨some 36,.load false 1 (.t 35),none⟩,
 ⟨some 37,.load true 2 (.t 3),none⟩,
 ⟨some 38,.mov (.t 0),none⟩,
 ⟨some 39,.mov (.t 6),none⟩,
 ⟨some 40,.mov (.t 0),none⟩,
 ⟨some 41,.nilchk (.t 40),none⟩,
 ⟨some 42,.faddr 1 (.t 41),none⟩,
 ⟨some 43,.load false 1 (.t 42),none⟩,
 ⟨some 44,.load true 2 (.t 3),none⟩,
 ⟨some 45,.bslice true [.int .i64 0,.int .i64 0] 2 1 [(0,(.t 44))],none⟩,
 ⟨some 46,.append false 2 16 (.t 43) (.t 45),none⟩,
 ⟨some 47,.ment [2,0,0] (.int .i64 0) (.t 36) (.t 37),none⟩,
 ⟨some 48,.ext 1 (.t 47),none⟩,
 ⟨none,.mstore (.t 36) (.t 48) (.t 39),none⟩,
 ⟨some 49,.nilchk (.t 38),none⟩,
 ⟨some 50,.faddr 1 (.t 49),none⟩,
 ⟨none,.store 1 (.t 50) (.t 46),none⟩]))
 (.skip)))
 (.seq (.region [⟨some 51,.mov (.t 6),none⟩,
 ⟨some 52,.mov (.t 7),none⟩,
 ⟨some 53,.un .not (.t 52),none⟩,
 ⟨some 4,.mov (.t 51),none⟩,
 ⟨some 5,.mov (.t 53),none⟩])
 (.ret))))),
 [.tmp 4,.tmp 5]⟩
def a75 : AFunc := ⟨4,
 .seq (.region [⟨some 1,.box (.t 0),none⟩,
 ⟨some 2,.mov (.c (.nilf)),none⟩])
 (.seq (.region [⟨some 3,.mkfunc 95 [(.t 1)],none⟩,
 ⟨some 2,.mov (.t 3),none⟩])
 (.ret)),
 [.tmp 2]⟩
def xSk : ACode :=
 .seq (.region [⟨some 12,.bin .lss (.t 11) (.t 10),none⟩])
 (.seq (.cond (.t 12)
 (.skip)
 (.exit 0))
 (.seq (.block 1 (.seq (.region [⟨some 13,.iaddr 1 (.t 9) (.t 11),none⟩,
 ⟨some 14,.load false 1 (.t 13),none⟩,
 ⟨some 5,.mov (.t 14),none⟩])
 (.seq (.region [⟨some 15,.mov (.t 3),none⟩,
 ⟨some 16,.mov (.t 5),none⟩,
 ⟨some 17,.len (.t 16),none⟩,
 ⟨some 18,.bin .add (.t 15) (.t 17),none⟩,
 ⟨some 3,.mov (.t 18),none⟩])
 (.seq (.region [⟨some 19,.mov (.t 3),none⟩,
 ⟨some 20,.bin .lss (.t 19) (.c (.int .i64 0)),none⟩])
 (.cond (.t 20)
 (.stuck)
 (.skip))))))
 (.region [⟨some 22,.bin .add (.t 11) (.c (.int .i64 1)),none⟩,
 ⟨some 11,.mov (.t 22),none⟩])))
def xXS : ACode := xSk
def xO0 : List Nat := [1,2,4,5,6,7,8,12,13,14,15,16,17,18,19,20,21,22,23,24,25,26,27,28,29,30,31,32,33,34,35]
abbrev xSl (s0 s3 s9 s10 s11 : AV) : List AV := [s0,.any,.any,s3,.any,.any,.any,.any,.any,s9,s10,s11,.any,.any,.any,.any,.any,.any,.any,.any,.any,.any,.any,.any,.any,.any,.any,.any,.any,.any,.any,.any,.any,.any,.any,.any]
theorem xZE (s0 s1 s2 s3 s4 s5 s6 s7 s8 s9 s10 s11 s12 s13 s14 s15 s16 s17 s18 s19 s20 s21 s22 s23 s24 s25 s26 s27 s28 s29 s30 s31 s32 s33 s34 s35 : AV) : xAL xO0 [s0,s1,s2,s3,s4,s5,s6,s7,s8,s9,s10,s11,s12,s13,s14,s15,s16,s17,s18,s19,s20,s21,s22,s23,s24,s25,s26,s27,s28,s29,s30,s31,s32,s33,s34,s35] = xSl s0 s3 s9 s10 s11 := by kernel_rfl
theorem xZF {prog : Nat → Option AFunc} (s0 s3 s9 s10 s11 : AV) (H : Heap) : (lim prog).loop xO0 xXS ⟨xSl s0 s3 s9 s10 s11,H⟩ = xBH (lim prog) xO0 xXS (run (lim prog) xSk ⟨xSl s0 s3 s9 s10 s11,H⟩) := xAo _ _ _ _ (by kernel_rfl)
def xSm : ACode :=
 .seq (.region [⟨some 28,.bin .lss (.t 27) (.t 26),none⟩])
 (.seq (.cond (.t 28)
 (.skip)
 (.exit 2))
 (.seq (.block 3 (.seq (.region [⟨some 29,.iaddr 1 (.t 25) (.t 27),none⟩,
 ⟨some 30,.load false 1 (.t 29),none⟩,
 ⟨some 8,.mov (.t 30),none⟩])
 (.region [⟨some 31,.mov (.t 6),none⟩,
 ⟨some 32,.mov (.t 8),none⟩,
 ⟨some 33,.append false 1 1 (.t 31) (.t 32),none⟩,
 ⟨some 6,.mov (.t 33),none⟩])))
 (.region [⟨some 34,.bin .add (.t 27) (.c (.int .i64 1)),none⟩,
 ⟨some 27,.mov (.t 34),none⟩])))
def xXT : ACode := xSm
def xO1 : List Nat := [0,1,2,3,4,5,7,8,9,10,11,12,13,14,15,16,17,18,19,20,21,22,23,24,28,29,30,31,32,33,34,35]
abbrev xSn (s6 s25 s26 s27 : AV) : List AV := [.any,.any,.any,.any,.any,.any,s6,.any,.any,.any,.any,.any,.any,.any,.any,.any,.any,.any,.any,.any,.any,.any,.any,.any,.any,s25,s26,s27,.any,.any,.any,.any,.any,.any,.any,.any]
theorem xZG (s0 s1 s2 s3 s4 s5 s6 s7 s8 s9 s10 s11 s12 s13 s14 s15 s16 s17 s18 s19 s20 s21 s22 s23 s24 s25 s26 s27 s28 s29 s30 s31 s32 s33 s34 s35 : AV) : xAL xO1 [s0,s1,s2,s3,s4,s5,s6,s7,s8,s9,s10,s11,s12,s13,s14,s15,s16,s17,s18,s19,s20,s21,s22,s23,s24,s25,s26,s27,s28,s29,s30,s31,s32,s33,s34,s35] = xSn s6 s25 s26 s27 := by kernel_rfl
theorem xZH {prog : Nat → Option AFunc} (s6 s25 s26 s27 : AV) (H : Heap) : (lim prog).loop xO1 xXT ⟨xSn s6 s25 s26 s27,H⟩ = xBH (lim prog) xO1 xXT (run (lim prog) xSm ⟨xSn s6 s25 s26 s27,H⟩) := xAo _ _ _ _ (by kernel_rfl)
def a76 : AFunc := ⟨36,
 .seq (.region [⟨some 2,.mov (.c (.sl true 0 [])),none⟩])
 (.seq (.region [⟨some 3,.mov (.c (.int .i64 0)),none⟩])
 (.seq (.seq (.region [⟨some 9,.mov (.t 0),none⟩,
 ⟨some 10,.len (.t 9),none⟩,
 ⟨some 11,.mov (.c (.int .i64 0)),none⟩])
 (.block 0 (.loop xO0 xXS)))
 (.seq (.region [⟨some 23,.mov (.t 3),none⟩,
 ⟨some 24,.icall (.c (.func 96 [])) [(.c (.sl true 0 [])),(.t 23)],none⟩,
 ⟨some 6,.mov (.t 24),none⟩])
 (.seq (.seq (.region [⟨some 25,.mov (.t 0),none⟩,
 ⟨some 26,.len (.t 25),none⟩,
 ⟨some 27,.mov (.c (.int .i64 0)),none⟩])
 (.block 2 (.loop xO1 xXT)))
 (.seq (.region [⟨some 35,.mov (.t 6),none⟩,
 ⟨some 2,.mov (.t 35),none⟩])
 (.ret)))))),
 [.tmp 2]⟩
def a77 : AFunc := ⟨10,
 .seq (.region [⟨some 1,.box (.t 0),none⟩,
 ⟨some 2,.box (.c (.agg [.sl true 0 [],.sl true 0 []])),none⟩])
 (.seq (.seq (.region [⟨some 3,.faddr 1 (.t 1),none⟩,
 ⟨some 4,.load false 1 (.t 3),none⟩,
 ⟨some 5,.len (.t 4),none⟩,
 ⟨some 6,.bin .eql (.t 5) (.c (.int .i64 0)),none⟩])
 (.cond (.t 6)
 (.region [⟨some 7,.mkslice false [.int .u8 0] 1 (.c (.int .i64 1)) (.c (.int .i64 1)),none⟩,
 ⟨some 8,.faddr 1 (.t 1),none⟩,
 ⟨none,.store 1 (.t 8) (.t 7),none⟩])
 (.skip)))
 (.seq (.region [⟨some 9,.load true 2 (.t 1),none⟩,
 ⟨none,.store 2 (.t 2) (.t 9),none⟩])
 (.ret))),
 [.cell 2 true 2]⟩
def xO2 : ACode :=
 .seq (.region [⟨some 16,.bin .lss (.t 15) (.t 14),none⟩])
 (.seq (.cond (.t 16)
 (.skip)
 (.exit 0))
 (.seq (.block 1 (.seq (.region [⟨some 17,.mov (.t 15),none⟩,
 ⟨some 8,.mov (.t 17),none⟩])
 (.region [⟨some 18,.mov (.t 7),none⟩,
 ⟨some 19,.mov (.t 8),none⟩,
 ⟨some 20,.mov (.t 2),none⟩,
 ⟨some 21,.mov (.t 8),none⟩,
 ⟨some 22,.icall (.t 20) [(.t 21)],none⟩,
 ⟨some 23,.iaddr 1 (.t 18) (.t 19),none⟩,
 ⟨none,.store 1 (.t 23) (.t 22),none⟩])))
 (.region [⟨some 24,.bin .add (.t 15) (.c (.int .i64 1)),none⟩,
 ⟨some 15,.mov (.t 24),none⟩])))
def xSo : ACode := xO2
def xIX : List Nat := [1,3,4,5,8,9,10,11,12,13,16,17,18,19,20,21,22,23,24,25,26,27,28,29,30,31,32]
abbrev xIY (s0 s2 s6 s7 s14 s15 : AV) : List AV := [s0,.any,s2,.any,.any,.any,s6,s7,.any,.any,.any,.any,.any,.any,s14,s15,.any,.any,.any,.any,.any,.any,.any,.any,.any,.any,.any,.any,.any,.any,.any,.any,.any]
theorem xSp (s0 s1 s2 s3 s4 s5 s6 s7 s8 s9 s10 s11 s12 s13 s14 s15 s16 s17 s18 s19 s20 s21 s22 s23 s24 s25 s26 s27 s28 s29 s30 s31 s32 : AV) : xAL xIX [s0,s1,s2,s3,s4,s5,s6,s7,s8,s9,s10,s11,s12,s13,s14,s15,s16,s17,s18,s19,s20,s21,s22,s23,s24,s25,s26,s27,s28,s29,s30,s31,s32] = xIY s0 s2 s6 s7 s14 s15 := by kernel_rfl
theorem xWy {prog : Nat → Option AFunc} (s0 s2 s6 s7 s14 s15 : AV) (H : Heap) : (lim prog).loop xIX xSo ⟨xIY s0 s2 s6 s7 s14 s15,H⟩ = xBH (lim prog) xIX xSo (run (lim prog) xO2 ⟨xIY s0 s2 s6 s7 s14 s15,H⟩) := xAo _ _ _ _ (by kernel_rfl)
def a78 : AFunc := ⟨33,
 .seq (.region [⟨some 6,.box (.c (.agg [.sl true 0 [],.sl true 0 []])),none⟩])
 (.seq (.region [⟨some 9,.mov (.t 0),none⟩,
 ⟨some 10,.mov (.t 1),none⟩,
 ⟨some 11,.bin .add (.t 9) (.t 10),none⟩,
 ⟨some 12,.mkslice false [.int .u8 0] 1 (.t 11) (.t 11),none⟩,
 ⟨some 7,.mov (.t 12),none⟩])
 (.seq (.seq (.region [⟨some 13,.mov (.t 7),none⟩,
 ⟨some 14,.len (.t 13),none⟩,
 ⟨some 15,.mov (.c (.int .i64 0)),none⟩])
 (.block 0 (.loop xIX xSo)))
 (.seq (.draw 4 [⟨some 25,.mov (.t 7),none⟩,
 ⟨some 26,.mov (.t 0),none⟩,
 ⟨some 27,.slice 1 (.t 25) none (some (.t 26)) none,none⟩,
 ⟨some 28,.mov (.t 7),none⟩,
 ⟨some 29,.mov (.t 0),none⟩,
 ⟨some 30,.slice 1 (.t 28) (some (.t 29)) none none,none⟩,
 ⟨some 31,.build [.sl true 0 [],.sl true 0 []] [(0,1,(.t 27)),(1,1,(.t 30))],none⟩,
 ⟨some 32,.call 49 [(.t 31)],none⟩,
 ⟨none,.store 2 (.t 6) (.t 32),none⟩])
 (.ret)))),
 [.cell 6 true 2]⟩
def a79 : AFunc := ⟨10,
 .seq (.region [⟨some 4,.mov (.c (.int .u8 0)),none⟩])
 (.seq (.draw 4 [⟨some 5,.load true 2 (.t 1),none⟩,
 ⟨some 6,.mov (.t 0),none⟩,
 ⟨some 7,.call 47 [(.t 5),(.t 6)],none⟩,
 ⟨some 8,.load false 1 (.t 2),none⟩,
 ⟨some 9,.bin .and (.t 7) (.t 8),none⟩,
 ⟨some 4,.mov (.t 9),none⟩])
 (.ret)),
 [.tmp 4]⟩
def a80 : AFunc := ⟨9,
 .seq (.region [⟨some 3,.mov (.c (.bool false)),none⟩])
 (.seq (.region [⟨some 4,.mov (.t 0),none⟩,
 ⟨some 5,.conv .i64 (.t 4),none⟩,
 ⟨some 6,.load false 1 (.t 1),none⟩,
 ⟨some 7,.bin .shl (.c (.int .i64 1)) (.t 6),none⟩,
 ⟨some 8,.bin .geq (.t 5) (.t 7),none⟩,
 ⟨some 3,.mov (.t 8),none⟩])
 (.ret)),
 [.tmp 3]⟩
def xG4 : ACode :=
 .seq (.region [⟨some 6,.mov (.t 29),none⟩])
 (.region [⟨some 7,.mov (.t 30),none⟩])
def xMd : ACode :=
 .block 1 (.seq (.region [⟨some 31,.mov (.t 7),none⟩,
 ⟨some 32,.load true 2 (.t 3),none⟩,
 ⟨some 33,.mov (.t 6),none⟩,
 ⟨some 34,.call 47 [(.t 32),(.t 33)],none⟩,
 ⟨some 35,.call 97 [(.t 31),(.t 34)],none⟩,
 ⟨some 8,.mov (.t 35),none⟩])
 (.seq (.region [⟨some 36,.mov (.t 8),none⟩,
 ⟨some 37,.bin .neq (.t 36) (.c (.int .i64 0)),none⟩])
 (.cond (.t 37)
 (.seq (.region [⟨some 38,.mov (.t 8),none⟩,
 ⟨none,.store 1 (.t 4) (.t 38),none⟩])
 (.ret))
 (.skip))))
def xO3 : ACode := xG4
def xVv : ACode := xMd
theorem xOm (R : Rec) (s : St) : run R xO3 s = run R xG4 s := rfl
theorem xSq (R : Rec) (s : St) : run R xVv s = run R xMd s := rfl
def a81 : AFunc := ⟨39,
 .seq (.region [⟨some 2,.box (.t 0),none⟩,
 ⟨some 3,.box (.t 1),none⟩,
 ⟨some 4,.box (.c (.int .i64 0)),none⟩])
 (.seq (.region [⟨some 9,.faddr 0 (.t 2),none⟩,
 ⟨some 10,.load false 1 (.t 9),none⟩,
 ⟨some 11,.len (.t 10),none⟩,
 ⟨some 12,.faddr 0 (.t 3),none⟩,
 ⟨some 13,.load false 1 (.t 12),none⟩,
 ⟨some 14,.len (.t 13),none⟩,
 ⟨some 15,.maxi (.t 11) (.t 14),none⟩,
 ⟨some 16,.faddr 1 (.t 2),none⟩,
 ⟨some 17,.load false 1 (.t 16),none⟩,
 ⟨some 18,.len (.t 17),none⟩,
 ⟨some 19,.maxi (.t 18) (.c (.int .i64 1)),none⟩,
 ⟨some 20,.bin .add (.t 15) (.t 19),none⟩,
 ⟨some 21,.faddr 1 (.t 3),none⟩,
 ⟨some 22,.load false 1 (.t 21),none⟩,
 ⟨some 23,.len (.t 22),none⟩,
 ⟨some 24,.maxi (.t 23) (.c (.int .i64 1)),none⟩,
 ⟨some 25,.bin .add (.t 20) (.t 24),none⟩,
 ⟨some 5,.mov (.t 25),none⟩])
 (.seq (.seq (.region [⟨some 26,.load true 2 (.t 2),none⟩,
 ⟨some 27,.mov (.t 5),none⟩,
 ⟨some 28,.icall (.c (.func 82 [])) [(.t 26),(.t 27)],none⟩])
 (.block 0 (.range (.t 28) [29,30] xO3 xVv)))
 (.seq (.region [⟨none,.store 1 (.t 4) (.c (.int .i64 0)),none⟩])
 (.ret)))),
 [.cell 4 false 1]⟩
def a82 : AFunc := ⟨6,
 .seq (.region [⟨some 2,.box (.t 0),none⟩,
 ⟨some 3,.box (.t 1),none⟩,
 ⟨some 4,.mov (.c (.nilf)),none⟩])
 (.seq (.region [⟨some 5,.mkfunc 98 [(.t 3),(.t 2)],none⟩,
 ⟨some 4,.mov (.t 5),none⟩])
 (.ret)),
 [.tmp 4]⟩
def xMe : ACode :=
 .seq (.seq (.draw 11 [⟨some 17,.mov (.t 4),none⟩,
 ⟨some 18,.bin .gtr (.t 17) (.c (.int .i64 0)),none⟩,
 ⟨some 19,.mov (.t 18),none⟩,
 ⟨some 20,.mov (.t 0),some (19,true)⟩,
 ⟨some 21,.mov (.t 5),some (19,true)⟩,
 ⟨some 22,.iaddr 1 (.t 20) (.t 21),some (19,true)⟩,
 ⟨some 23,.load false 1 (.t 22),some (19,true)⟩,
 ⟨some 24,.mov (.t 0),some (19,true)⟩,
 ⟨some 25,.mov (.t 4),some (19,true)⟩,
 ⟨some 26,.iaddr 1 (.t 24) (.t 25),some (19,true)⟩,
 ⟨some 27,.load false 1 (.t 26),some (19,true)⟩,
 ⟨some 28,.bin .neq (.t 23) (.t 27),some (19,true)⟩,
 ⟨some 29,.pick (.t 19) (.t 28) (.c (.bool false)),none⟩])
 (.cond (.t 29)
 (.skip)
 (.exit 2)))
 (.block 3 (.region [⟨some 30,.mov (.t 3),none⟩,
 ⟨some 31,.mov (.t 4),none⟩,
 ⟨some 32,.iaddr 1 (.t 30) (.t 31),none⟩,
 ⟨some 33,.load false 1 (.t 32),none⟩,
 ⟨some 4,.mov (.t 33),none⟩]))
def xVw : ACode := xMe
def xMf : List Nat := [1,2,6,7,8,9,10,11,12,13,14,15,16,17,18,19,20,21,22,23,24,25,26,27,28,29,30,31,32,33,34,35,36,37,38,39,40,41,42,43,44,45,46,47,48,49,50,51,52,53,54,55,56,57,58,59,60,61,62,63,64,65,66]
abbrev xMg (s0 s3 s4 s5 : AV) : List AV := [s0,.any,.any,s3,s4,s5,.any,.any,.any,.any,.any,.any,.any,.any,.any,.any,.any,.any,.any,.any,.any,.any,.any,.any,.any,.any,.any,.any,.any,.any,.any,.any,.any,.any,.any,.any,.any,.any,.any,.any,.any,.any,.any,.any,.any,.any,.any,.any,.any,.any,.any,.any,.any,.any,.any,.any,.any,.any,.any,.any,.any,.any,.any,.any,.any,.any,.any]
theorem xMh (s0 s1 s2 s3 s4 s5 s6 s7 s8 s9 s10 s11 s12 s13 s14 s15 s16 s17 s18 s19 s20 s21 s22 s23 s24 s25 s26 s27 s28 s29 s30 s31 s32 s33 s34 s35 s36 s37 s38 s39 s40 s41 s42 s43 s44 s45 s46 s47 s48 s49 s50 s51 s52 s53 s54 s55 s56 s57 s58 s59 s60 s61 s62 s63 s64 s65 s66 : AV) : xAL xMf [s0,s1,s2,s3,s4,s5,s6,s7,s8,s9,s10,s11,s12,s13,s14,s15,s16,s17,s18,s19,s20,s21,s22,s23,s24,s25,s26,s27,s28,s29,s30,s31,s32,s33,s34,s35,s36,s37,s38,s39,s40,s41,s42,s43,s44,s45,s46,s47,s48,s49,s50,s51,s52,s53,s54,s55,s56,s57,s58,s59,s60,s61,s62,s63,s64,s65,s66] = xMg s0 s3 s4 s5 := by kernel_rfl
theorem xSr {prog : Nat → Option AFunc} (s0 s3 s4 s5 : AV) (H : Heap) : (lim prog).loop xMf xVw ⟨xMg s0 s3 s4 s5,H⟩ = xBH (lim prog) xMf xVw (run (lim prog) xMe ⟨xMg s0 s3 s4 s5,H⟩) := xAo _ _ _ _ (by kernel_rfl)
def xMi : ACode :=
 .seq (.seq (.region [⟨some 11,.mov (.t 5),none⟩,
 ⟨some 12,.mov (.t 0),none⟩,
 ⟨some 13,.len (.t 12),none⟩,
 ⟨some 14,.bin .lss (.t 11) (.t 13),none⟩])
 (.cond (.t 14)
 (.skip)
 (.exit 0)))
 (.seq (.block 1 (.seq (.block 2 (.loop xMf xVw))
 (.seq (.seq (.draw 5 [⟨some 34,.mov (.t 0),none⟩,
 ⟨some 35,.mov (.t 5),none⟩,
 ⟨some 36,.iaddr 1 (.t 34) (.t 35),none⟩,
 ⟨some 37,.load false 1 (.t 36),none⟩,
 ⟨some 38,.mov (.t 0),none⟩,
 ⟨some 39,.mov (.t 4),none⟩,
 ⟨some 40,.iaddr 1 (.t 38) (.t 39),none⟩,
 ⟨some 41,.load false 1 (.t 40),none⟩,
 ⟨some 42,.bin .eql (.t 37) (.t 41),none⟩])
 (.cond (.t 42)
 (.region [⟨some 43,.mov (.t 4),none⟩,
 ⟨some 44,.bin .add (.t 43) (.c (.int .i64 1)),none⟩,
 ⟨some 4,.mov (.t 44),none⟩])
 (.skip)))
 (.region [⟨some 45,.mov (.t 3),none⟩,
 ⟨some 46,.mov (.t 5),none⟩,
 ⟨some 47,.bin .add (.t 46) (.c (.int .i64 1)),none⟩,
 ⟨some 48,.mov (.t 4),none⟩,
 ⟨some 49,.iaddr 1 (.t 45) (.t 47),none⟩,
 ⟨none,.store 1 (.t 49) (.t 48),none⟩]))))
 (.region [⟨some 15,.mov (.t 5),none⟩,
 ⟨some 16,.bin .add (.t 15) (.c (.int .i64 1)),none⟩,
 ⟨some 5,.mov (.t 16),none⟩]))
def xSs : ACode := xMi
def xIZ : List Nat := [1,2,6,7,8,9,10,11,12,13,14,15,16,17,18,19,20,21,22,23,24,25,26,27,28,29,30,31,32,33,34,35,36,37,38,39,40,41,42,43,44,45,46,47,48,49,50,51,52,53,54,55,56,57,58,59,60,61,62,63,64,65,66]
abbrev xI0 (s0 s3 s4 s5 : AV) : List AV := [s0,.any,.any,s3,s4,s5,.any,.any,.any,.any,.any,.any,.any,.any,.any,.any,.any,.any,.any,.any,.any,.any,.any,.any,.any,.any,.any,.any,.any,.any,.any,.any,.any,.any,.any,.any,.any,.any,.any,.any,.any,.any,.any,.any,.any,.any,.any,.any,.any,.any,.any,.any,.any,.any,.any,.any,.any,.any,.any,.any,.any,.any,.any,.any,.any,.any,.any]
theorem xMj (s0 s1 s2 s3 s4 s5 s6 s7 s8 s9 s10 s11 s12 s13 s14 s15 s16 s17 s18 s19 s20 s21 s22 s23 s24 s25 s26 s27 s28 s29 s30 s31 s32 s33 s34 s35 s36 s37 s38 s39 s40 s41 s42 s43 s44 s45 s46 s47 s48 s49 s50 s51 s52 s53 s54 s55 s56 s57 s58 s59 s60 s61 s62 s63 s64 s65 s66 : AV) : xAL xIZ [s0,s1,s2,s3,s4,s5,s6,s7,s8,s9,s10,s11,s12,s13,s14,s15,s16,s17,s18,s19,s20,s21,s22,s23,s24,s25,s26,s27,s28,s29,s30,s31,s32,s33,s34,s35,s36,s37,s38,s39,s40,s41,s42,s43,s44,s45,s46,s47,s48,s49,s50,s51,s52,s53,s54,s55,s56,s57,s58,s59,s60,s61,s62,s63,s64,s65,s66] = xI0 s0 s3 s4 s5 := by kernel_rfl
theorem xSt {prog : Nat → Option AFunc} (s0 s3 s4 s5 : AV) (H : Heap) : (lim prog).loop xIZ xSs ⟨xI0 s0 s3 s4 s5,H⟩ = xBH (lim prog) xIZ xSs (run (lim prog) xMi ⟨xI0 s0 s3 s4 s5,H⟩) := xAo _ _ _ _ (by kernel_rfl)
def a83 : AFunc := ⟨67,
 .seq (.region [⟨some 2,.mov (.c (.sl true 0 [])),none⟩])
 (.seq (.region [⟨some 7,.mov (.t 0),none⟩,
 ⟨some 8,.len (.t 7),none⟩,
 ⟨some 9,.bin .add (.t 8) (.c (.int .i64 1)),none⟩,
 ⟨some 10,.mkslice false [.int .i64 0] 8 (.t 9) (.t 9),none⟩,
 ⟨some 3,.mov (.t 10),none⟩])
 (.seq (.region [⟨some 4,.mov (.c (.int .i64 0)),none⟩])
 (.seq (.seq (.region [⟨some 5,.mov (.c (.int .i64 1)),none⟩])
 (.block 0 (.loop xIZ xSs)))
 (.seq (.seq (.region [⟨some 50,.mov (.t 0),none⟩,
 ⟨some 51,.len (.t 50),none⟩,
 ⟨some 52,.mov (.t 3),none⟩,
 ⟨some 53,.mov (.t 0),none⟩,
 ⟨some 54,.len (.t 53),none⟩,
 ⟨some 55,.iaddr 1 (.t 52) (.t 54),none⟩,
 ⟨some 56,.load false 1 (.t 55),none⟩,
 ⟨some 57,.bin .sub (.t 51) (.t 56),none⟩,
 ⟨some 6,.mov (.t 57),none⟩])
 (.seq (.region [⟨some 58,.mov (.t 0),none⟩,
 ⟨some 59,.len (.t 58),none⟩,
 ⟨some 60,.mov (.t 6),none⟩,
 ⟨some 61,.bin .rem (.t 59) (.t 60),none⟩,
 ⟨some 62,.bin .eql (.t 61) (.c (.int .i64 0)),none⟩])
 (.cond (.t 62)
 (.seq (.region [⟨some 63,.mov (.t 0),none⟩,
 ⟨some 64,.mov (.t 6),none⟩,
 ⟨some 65,.slice 1 (.t 63) none (some (.t 64)) none,none⟩,
 ⟨some 2,.mov (.t 65),none⟩])
 (.ret))
 (.skip))))
 (.seq (.region [⟨some 66,.mov (.t 0),none⟩,
 ⟨some 2,.mov (.t 66),none⟩])
 (.ret)))))),
 [.tmp 2]⟩
def xI1 : ACode :=
 .seq (.region [⟨some 9,.bin .lss (.t 8) (.t 7),none⟩])
 (.seq (.cond (.t 9)
 (.skip)
 (.exit 0))
 (.seq (.block 1 (.seq (.region [⟨some 10,.mov (.t 8),none⟩,
 ⟨some 5,.mov (.t 10),none⟩])
 (.seq (.region [⟨some 11,.mov (.t 1),none⟩,
 ⟨some 12,.mov (.t 0),none⟩,
 ⟨some 13,.mov (.t 5),none⟩,
 ⟨some 14,.iaddr 1 (.t 12) (.t 13),none⟩,
 ⟨some 15,.load false 1 (.t 14),none⟩,
 ⟨some 16,.icall (.t 11) [(.t 15)],none⟩])
 (.cond (.t 16)
 (.seq (.region [⟨some 17,.mov (.t 5),none⟩,
 ⟨some 4,.mov (.t 17),none⟩])
 (.ret))
 (.skip)))))
 (.region [⟨some 18,.bin .add (.t 8) (.c (.int .i64 1)),none⟩,
 ⟨some 8,.mov (.t 18),none⟩])))
def xVx : ACode := xI1
def xMk : List Nat := [2,3,5,6,9,10,11,12,13,14,15,16,17,18]
abbrev xI2 (s0 s1 s4 s7 s8 : AV) : List AV := [s0,s1,.any,.any,s4,.any,.any,s7,s8,.any,.any,.any,.any,.any,.any,.any,.any,.any,.any]
theorem xI3 (s0 s1 s2 s3 s4 s5 s6 s7 s8 s9 s10 s11 s12 s13 s14 s15 s16 s17 s18 : AV) : xAL xMk [s0,s1,s2,s3,s4,s5,s6,s7,s8,s9,s10,s11,s12,s13,s14,s15,s16,s17,s18] = xI2 s0 s1 s4 s7 s8 := by kernel_rfl
theorem xSu {prog : Nat → Option AFunc} (s0 s1 s4 s7 s8 : AV) (H : Heap) : (lim prog).loop xMk xVx ⟨xI2 s0 s1 s4 s7 s8,H⟩ = xBH (lim prog) xMk xVx (run (lim prog) xI1 ⟨xI2 s0 s1 s4 s7 s8,H⟩) := xAo _ _ _ _ (by kernel_rfl)
def a85 : AFunc := ⟨19,
 .seq (.region [⟨some 4,.mov (.c (.int .i64 0)),none⟩])
 (.seq (.seq (.region [⟨some 6,.mov (.t 0),none⟩,
 ⟨some 7,.len (.t 6),none⟩,
 ⟨some 8,.mov (.c (.int .i64 0)),none⟩])
 (.block 0 (.loop xMk xVx)))
 (.seq (.region [⟨some 4,.mov (.c (.int .i64 (-1))),none⟩])
 (.ret))),
 [.tmp 4]⟩
def a90 : AFunc := ⟨9,
 .seq (.region [⟨some 4,.mov (.c (.bool false)),none⟩])
 (.seq (.region [⟨some 5,.mov (.t 0),none⟩,
 ⟨some 6,.mov (.t 1),none⟩,
 ⟨some 7,.icall (.c (.func 99 [])) [(.t 5),(.t 6)],none⟩,
 ⟨some 8,.bin .geq (.t 7) (.c (.int .i64 0)),none⟩,
 ⟨some 4,.mov (.t 8),none⟩])
 (.ret)),
 [.tmp 4]⟩
def a91 : AFunc := ⟨11,
 .seq (.region [⟨some 3,.mov (.c (.bool false)),none⟩])
 (.seq (.region [⟨some 4,.mov (.t 0),none⟩,
 ⟨some 5,.bin .lss (.t 4) (.c (.int .i64 0)),none⟩,
 ⟨some 6,.mov (.t 5),none⟩,
 ⟨some 7,.mov (.t 0),some (6,false)⟩,
 ⟨some 8,.load false 1 (.t 1),some (6,false)⟩,
 ⟨some 9,.bin .geq (.t 7) (.t 8),some (6,false)⟩,
 ⟨some 10,.pick (.t 6) (.c (.bool true)) (.t 9),none⟩,
 ⟨some 3,.mov (.t 10),none⟩])
 (.ret)),
 [.tmp 3]⟩
def a92 : AFunc := ⟨54,
 .seq (.region [⟨some 3,.box (.t 1),none⟩,
 ⟨some 4,.mov (.c (.int .i64 0)),none⟩,
 ⟨some 5,.mov (.c (.bool false)),none⟩])
 (.seq (.seq (.region [⟨some 8,.mov (.t 0),none⟩,
 ⟨some 9,.nilchk (.t 8),none⟩,
 ⟨some 10,.faddr 0 (.t 9),none⟩,
 ⟨some 11,.load false 1 (.t 10),none⟩,
 ⟨some 12,.mnil false (.t 11),none⟩])
 (.cond (.t 12)
 (.region [⟨some 13,.mov (.t 0),none⟩,
 ⟨some 14,.mkmap,none⟩,
 ⟨some 15,.nilchk (.t 13),none⟩,
 ⟨some 16,.faddr 0 (.t 15),none⟩,
 ⟨none,.store 1 (.t 16) (.t 14),none⟩])
 (.skip)))
 (.seq (.draw 9 [⟨some 18,.mov (.t 0),none⟩,
 ⟨some 19,.nilchk (.t 18),none⟩,
 ⟨some 20,.faddr 0 (.t 19),none⟩,
 ⟨some 21,.load false 1 (.t 20),none⟩,
 ⟨some 22,.load true 2 (.t 3),none⟩,
 ⟨some 23,.mlook [2,1,1] true (.int .i64 0) (.t 21) (.t 22),none⟩,
 ⟨some 17,.mov (.t 23),none⟩,
 ⟨some 24,.ext 0 (.t 17),none⟩,
 ⟨some 25,.ext 1 (.t 17),none⟩,
 ⟨some 6,.mov (.t 24),none⟩,
 ⟨some 7,.mov (.t 25),none⟩])
 (.seq (.seq (.region [⟨some 26,.mov (.t 7),none⟩,
 ⟨some 27,.un .not (.t 26),none⟩])
 (.cond (.t 27)
 (.seq (.region [⟨some 28,.mov (.t 0),none⟩,
 ⟨some 29,.nilchk (.t 28),none⟩,
 ⟨some 30,.faddr 1 (.t 29),none⟩,
 ⟨some 31,.load false 1 (.t 30),none⟩,
 ⟨some 32,.len (.t 31),none⟩,
 ⟨some 6,.mov (.t 32),none⟩])
 (.drawl [(35,(1,(43,0))),(3,(2,(43,0)))] 11 [⟨some 33,.mov (.t 0),none⟩,
 ⟨some 34,.nilchk (.t 33),none⟩,
 ⟨some 35,.faddr 0 (.t 34),none⟩,
 ⟨some 36,.load false 1 (.t 35),none⟩,
 ⟨some 37,.load true 2 (.t 3),none⟩,
 ⟨some 38,.mov (.t 0),none⟩,
 ⟨some 39,.mov (.t 6),none⟩,
 ⟨some 40,.mov (.t 0),none⟩,
 ⟨some 41,.nilchk (.t 40),none⟩,
 ⟨some 42,.faddr 1 (.t 41),none⟩,
 ⟨some 43,.load false 1 (.t 42),none⟩,
 ⟨some 44,.load true 2 (.t 3),none⟩,
 ⟨some 45,.bslice true [.str ⟨#[]⟩,.str ⟨#[]⟩] 2 1 [(0,(.t 44))],none⟩,
 ⟨some 46,.append false 2 32 (.t 43) (.t 45),none⟩,
 ⟨some 47,.ment [2,1,1] (.int .i64 0) (.t 36) (.t 37),none⟩,
 ⟨some 48,.ext 1 (.t 47),none⟩,
 ⟨none,.mstore (.t 36) (.t 48) (.t 39),none⟩,
 ⟨some 49,.nilchk (.t 38),none⟩,
 ⟨some 50,.faddr 1 (.t 49),none⟩,
 ⟨none,.store 1 (.t 50) (.t 46),none⟩]))
 (.skip)))
 (.seq (.region [⟨some 51,.mov (.t 6),none⟩,
 ⟨some 52,.mov (.t 7),none⟩,
 ⟨some 53,.un .not (.t 52),none⟩,
 ⟨some 4,.mov (.t 51),none⟩,
 ⟨some 5,.mov (.t 53),none⟩])
 (.ret))))),
 [.tmp 4,.tmp 5]⟩
def xZI : ACode :=
 .seq (.seq (.region [⟨some 4,.mov (.t 3),none⟩,
 ⟨some 5,.load false 1 (.t 1),none⟩,
 ⟨some 6,.nilchk (.t 5),none⟩,
 ⟨some 7,.faddr 1 (.t 6),none⟩,
 ⟨some 8,.load false 1 (.t 7),none⟩,
 ⟨some 9,.len (.t 8),none⟩,
 ⟨some 10,.bin .lss (.t 4) (.t 9),none⟩])
 (.cond (.t 10)
 (.skip)
 (.exit 0)))
 (.seq (.block 1 (.seq (.region [⟨some 13,.mov (.t 0),none⟩,
 ⟨some 14,.mov (.t 3),none⟩,
 ⟨some 15,.load false 1 (.t 1),none⟩,
 ⟨some 16,.nilchk (.t 15),none⟩,
 ⟨some 17,.faddr 1 (.t 16),none⟩,
 ⟨some 18,.load false 1 (.t 17),none⟩,
 ⟨some 19,.mov (.t 3),none⟩,
 ⟨some 20,.iaddr 1 (.t 18) (.t 19),none⟩,
 ⟨some 21,.load false 1 (.t 20),none⟩,
 ⟨some 22,.icall (.t 13) [(.t 14),(.t 21)],none⟩,
 ⟨some 23,.un .not (.t 22),none⟩])
 (.cond (.t 23)
 (.ret)
 (.skip))))
 (.region [⟨some 11,.mov (.t 3),none⟩,
 ⟨some 12,.bin .add (.t 11) (.c (.int .i64 1)),none⟩,
 ⟨some 3,.mov (.t 12),none⟩]))
def yA1 : ACode := xZI
def xZJ : List Nat := [2,4,5,6,7,8,9,10,11,12,13,14,15,16,17,18,19,20,21,22,23]
def a94 : AFunc := ⟨24,
 .seq (.region [⟨some 3,.mov (.c (.int .i64 0)),none⟩])
 (.block 0 (.loop xZJ yA1)),
 []⟩
def xZK : ACode :=
 .seq (.seq (.region [⟨some 4,.mov (.t 3),none⟩,
 ⟨some 5,.load false 1 (.t 1),none⟩,
 ⟨some 6,.nilchk (.t 5),none⟩,
 ⟨some 7,.faddr 1 (.t 6),none⟩,
 ⟨some 8,.load false 1 (.t 7),none⟩,
 ⟨some 9,.len (.t 8),none⟩,
 ⟨some 10,.bin .lss (.t 4) (.t 9),none⟩])
 (.cond (.t 10)
 (.skip)
 (.exit 0)))
 (.seq (.block 1 (.seq (.region [⟨some 13,.mov (.t 0),none⟩,
 ⟨some 14,.mov (.t 3),none⟩,
 ⟨some 15,.load false 1 (.t 1),none⟩,
 ⟨some 16,.nilchk (.t 15),none⟩,
 ⟨some 17,.faddr 1 (.t 16),none⟩,
 ⟨some 18,.load false 1 (.t 17),none⟩,
 ⟨some 19,.mov (.t 3),none⟩,
 ⟨some 20,.iaddr 2 (.t 18) (.t 19),none⟩,
 ⟨some 21,.load true 2 (.t 20),none⟩,
 ⟨some 22,.icall (.t 13) [(.t 14),(.t 21)],none⟩,
 ⟨some 23,.un .not (.t 22),none⟩])
 (.cond (.t 23)
 (.ret)
 (.skip))))
 (.region [⟨some 11,.mov (.t 3),none⟩,
 ⟨some 12,.bin .add (.t 11) (.c (.int .i64 1)),none⟩,
 ⟨some 3,.mov (.t 12),none⟩]))
def yA2 : ACode := xZK
def xZL : List Nat := [2,4,5,6,7,8,9,10,11,12,13,14,15,16,17,18,19,20,21,22,23]
def a95 : AFunc := ⟨24,
 .seq (.region [⟨some 3,.mov (.c (.int .i64 0)),none⟩])
 (.block 0 (.loop xZL yA2)),
 []⟩
def a96 : AFunc := ⟨27,
 .seq (.region [⟨some 4,.mov (.c (.sl true 0 [])),none⟩])
 (.seq (.seq (.region [⟨some 5,.mov (.t 1),none⟩,
 ⟨some 6,.bin .lss (.t 5) (.c (.int .i64 0)),none⟩])
 (.cond (.t 6)
 (.stuck)
 (.skip)))
 (.seq (.seq (.region [⟨some 8,.mov (.t 1),none⟩,
 ⟨some 9,.mov (.t 0),none⟩,
 ⟨some 10,.cap (.t 9),none⟩,
 ⟨some 11,.mov (.t 0),none⟩,
 ⟨some 12,.len (.t 11),none⟩,
 ⟨some 13,.bin .sub (.t 10) (.t 12),none⟩,
 ⟨some 14,.bin .sub (.t 8) (.t 13),none⟩,
 ⟨some 1,.mov (.t 14),none⟩])
 (.seq (.region [⟨some 15,.mov (.t 1),none⟩,
 ⟨some 16,.bin .gtr (.t 15) (.c (.int .i64 0)),none⟩])
 (.cond (.t 16)
 (.region [⟨some 17,.mov (.t 0),none⟩,
 ⟨some 18,.mov (.t 0),none⟩,
 ⟨some 19,.cap (.t 18),none⟩,
 ⟨some 20,.slice 1 (.t 17) none (some (.t 19)) none,none⟩,
 ⟨some 21,.mov (.t 1),none⟩,
 ⟨some 22,.appendz [.int .u8 0] 1 (.t 20) (.t 21),none⟩,
 ⟨some 23,.mov (.t 0),none⟩,
 ⟨some 24,.len (.t 23),none⟩,
 ⟨some 25,.slice 1 (.t 22) none (some (.t 24)) none,none⟩,
 ⟨some 0,.mov (.t 25),none⟩])
 (.skip))))
 (.seq (.region [⟨some 26,.mov (.t 0),none⟩,
 ⟨some 4,.mov (.t 26),none⟩])
 (.ret)))),
 [.tmp 4]⟩
def a97 : AFunc := ⟨20,
 .seq (.region [⟨some 4,.mov (.c (.int .i64 0)),none⟩])
 (.seq (.region [⟨some 7,.mov (.t 0),none⟩,
 ⟨some 8,.call 103 [(.t 7)],none⟩,
 ⟨some 5,.mov (.t 8),none⟩])
 (.seq (.region [⟨some 9,.mov (.t 1),none⟩,
 ⟨some 10,.call 103 [(.t 9)],none⟩,
 ⟨some 6,.mov (.t 10),none⟩])
 (.seq (.seq (.region [⟨some 11,.mov (.t 5),none⟩])
 (.cond (.t 11)
 (.seq (.seq (.region [⟨some 12,.mov (.t 6),none⟩])
 (.cond (.t 12)
 (.seq (.region [⟨some 4,.mov (.c (.int .i64 0)),none⟩])
 (.ret))
 (.skip)))
 (.seq (.region [⟨some 4,.mov (.c (.int .i64 (-1))),none⟩])
 (.ret)))
 (.skip)))
 (.seq (.seq (.region [⟨some 13,.mov (.t 6),none⟩])
 (.cond (.t 13)
 (.seq (.region [⟨some 4,.mov (.c (.int .i64 1)),none⟩])
 (.ret))
 (.skip)))
 (.seq (.seq (.region [⟨some 14,.mov (.t 0),none⟩,
 ⟨some 15,.mov (.t 1),none⟩,
 ⟨some 16,.bin .lss (.t 14) (.t 15),none⟩])
 (.cond (.t 16)
 (.seq (.region [⟨some 4,.mov (.c (.int .i64 (-1))),none⟩])
 (.ret))
 (.skip)))
 (.seq (.seq (.region [⟨some 17,.mov (.t 0),none⟩,
 ⟨some 18,.mov (.t 1),none⟩,
 ⟨some 19,.bin .gtr (.t 17) (.t 18),none⟩])
 (.cond (.t 19)
 (.seq (.region [⟨some 4,.mov (.c (.int .i64 1)),none⟩])
 (.ret))
 (.skip)))
 (.seq (.region [⟨some 4,.mov (.c (.int .i64 0)),none⟩])
 (.ret)))))))),
 [.tmp 4]⟩
def xMl : ACode :=
 .seq (.region [⟨some 8,.bin .lss (.t 7) (.t 6),none⟩])
 (.seq (.cond (.t 8)
 (.skip)
 (.exit 0))
 (.seq (.block 1 (.seq (.region [⟨some 9,.mov (.t 7),none⟩,
 ⟨some 4,.mov (.t 9),none⟩])
 (.seq (.region [⟨some 10,.mov (.t 0),none⟩,
 ⟨some 11,.mov (.t 4),none⟩,
 ⟨some 12,.load true 2 (.t 2),none⟩,
 ⟨some 13,.mov (.t 4),none⟩,
 ⟨some 14,.call 47 [(.t 12),(.t 13)],none⟩,
 ⟨some 15,.icall (.t 10) [(.t 11),(.t 14)],none⟩,
 ⟨some 16,.un .not (.t 15),none⟩])
 (.cond (.t 16)
 (.ret)
 (.skip)))))
 (.region [⟨some 17,.bin .add (.t 7) (.c (.int .i64 1)),none⟩,
 ⟨some 7,.mov (.t 17),none⟩])))
def xSv : ACode := xMl
def xI4 : List Nat := [1,3,4,5,8,9,10,11,12,13,14,15,16,17]
abbrev xI5 (s0 s2 s6 s7 : AV) : List AV := [s0,.any,s2,.any,.any,.any,s6,s7,.any,.any,.any,.any,.any,.any,.any,.any,.any,.any]
theorem xMm (s0 s1 s2 s3 s4 s5 s6 s7 s8 s9 s10 s11 s12 s13 s14 s15 s16 s17 : AV) : xAL xI4 [s0,s1,s2,s3,s4,s5,s6,s7,s8,s9,s10,s11,s12,s13,s14,s15,s16,s17] = xI5 s0 s2 s6 s7 := by kernel_rfl
theorem xSw {prog : Nat → Option AFunc} (s0 s2 s6 s7 : AV) (H : Heap) : (lim prog).loop xI4 xSv ⟨xI5 s0 s2 s6 s7,H⟩ = xBH (lim prog) xI4 xSv (run (lim prog) xMl ⟨xI5 s0 s2 s6 s7,H⟩) := xAo _ _ _ _ (by kernel_rfl)
def a98 : AFunc := ⟨18,
 .seq (.region [⟨some 5,.load false 1 (.t 1),none⟩,
 ⟨some 6,.maxi (.t 5) (.c (.int .i64 0)),none⟩,
 ⟨some 7,.mov (.c (.int .i64 0)),none⟩])
 (.block 0 (.loop xI4 xSv)),
 []⟩
def xI6 : ACode :=
 .seq (.region [⟨some 9,.bin .lss (.t 8) (.t 7),none⟩])
 (.seq (.cond (.t 9)
 (.skip)
 (.exit 0))
 (.seq (.block 1 (.seq (.region [⟨some 10,.mov (.t 8),none⟩,
 ⟨some 5,.mov (.t 10),none⟩])
 (.seq (.region [⟨some 11,.mov (.t 1),none⟩,
 ⟨some 12,.mov (.t 0),none⟩,
 ⟨some 13,.mov (.t 5),none⟩,
 ⟨some 14,.iaddr 1 (.t 12) (.t 13),none⟩,
 ⟨some 15,.load false 1 (.t 14),none⟩,
 ⟨some 16,.icall (.t 11) [(.t 15)],none⟩])
 (.cond (.t 16)
 (.seq (.region [⟨some 17,.mov (.t 5),none⟩,
 ⟨some 4,.mov (.t 17),none⟩])
 (.ret))
 (.skip)))))
 (.region [⟨some 18,.bin .add (.t 8) (.c (.int .i64 1)),none⟩,
 ⟨some 8,.mov (.t 18),none⟩])))
def xVy : ACode := xI6
def xMn : List Nat := [2,3,5,6,9,10,11,12,13,14,15,16,17,18]
abbrev xI7 (s0 s1 s4 s7 s8 : AV) : List AV := [s0,s1,.any,.any,s4,.any,.any,s7,s8,.any,.any,.any,.any,.any,.any,.any,.any,.any,.any]
theorem xI8 (s0 s1 s2 s3 s4 s5 s6 s7 s8 s9 s10 s11 s12 s13 s14 s15 s16 s17 s18 : AV) : xAL xMn [s0,s1,s2,s3,s4,s5,s6,s7,s8,s9,s10,s11,s12,s13,s14,s15,s16,s17,s18] = xI7 s0 s1 s4 s7 s8 := by kernel_rfl
theorem xSx {prog : Nat → Option AFunc} (s0 s1 s4 s7 s8 : AV) (H : Heap) : (lim prog).loop xMn xVy ⟨xI7 s0 s1 s4 s7 s8,H⟩ = xBH (lim prog) xMn xVy (run (lim prog) xI6 ⟨xI7 s0 s1 s4 s7 s8,H⟩) := xAo _ _ _ _ (by kernel_rfl)
def a99 : AFunc := ⟨19,
 .seq (.region [⟨some 4,.mov (.c (.int .i64 0)),none⟩])
 (.seq (.seq (.region [⟨some 6,.mov (.t 0),none⟩,
 ⟨some 7,.len (.t 6),none⟩,
 ⟨some 8,.mov (.c (.int .i64 0)),none⟩])
 (.block 0 (.loop xMn xVy)))
 (.seq (.region [⟨some 4,.mov (.c (.int .i64 (-1))),none⟩])
 (.ret))),
 [.tmp 4]⟩
def yA3 : AFunc := ⟨6,
 .seq (.region [⟨some 2,.mov (.c (.bool false)),none⟩])
 (.seq (.region [⟨some 3,.mov (.t 0),none⟩,
 ⟨some 4,.mov (.t 0),none⟩,
 ⟨some 5,.bin .neq (.t 3) (.t 4),none⟩,
 ⟨some 2,.mov (.t 5),none⟩])
 (.ret)),
 [.tmp 2]⟩
def xAu : Nat → Option AFunc
 | 10 => some a10
 | 11 => some a11
 | 12 => some a12
 | 13 => some a13
 | 16 => some a16
 | 18 => some a18
 | 21 => some a21
 | 22 => some a22
 | 23 => some a23
 | 24 => some a24
 | 25 => some a25
 | 29 => some a29
 | 31 => some a31
 | 33 => some a33
 | 35 => some a35
 | 37 => some a37
 | 42 => some a42
 | 43 => some a43
 | 44 => some a44
 | 45 => some a45
 | 46 => some a46
 | 47 => some a47
 | 48 => some a48
 | 49 => some a49
 | 52 => some a52
 | 53 => some a53
 | 54 => some a54
 | 55 => some a55
 | 59 => some a59
 | 60 => some a60
 | 61 => some a61
 | 62 => some a62
 | 63 => some a63
 | 64 => some a64
 | 65 => some a65
 | 66 => some a66
 | 67 => some a67
 | 68 => some a68
 | 69 => some a69
 | 70 => some a70
 | 71 => some a71
 | 72 => some a72
 | 74 => some a74
 | 75 => some a75
 | 76 => some a76
 | 77 => some a77
 | 78 => some a78
 | 79 => some a79
 | 80 => some a80
 | 81 => some a81
 | 82 => some a82
 | 83 => some a83
 | 85 => some a85
 | 90 => some a90
 | 91 => some a91
 | 92 => some a92
 | 94 => some a94
 | 95 => some a95
 | 96 => some a96
 | 97 => some a97
 | 98 => some a98
 | 99 => some a99
 | 103 => some yA3
 | _ => none
theorem xYY (args : List AV) : (lim xAu).pcall 10 args = xAR (lim xAu) a10 args := xAm rfl args
theorem yCa (args : List AV) : (lim xAu).pcall 11 args = xAR (lim xAu) a11 args := xAm rfl args
theorem yCb (args : List AV) : (lim xAu).pcall 12 args = xAR (lim xAu) a12 args := xAm rfl args
theorem xZM (args : List AV) : (lim xAu).pcall 16 args = xAR (lim xAu) a16 args := xAm rfl args
theorem xZN (caps args : List AV) (H : Heap) : (lim xAu).icall (.func 16 caps) args H = xBD (lim xAu) a16 (args ++ caps) H := xAC rfl caps args H
theorem yA4 (args : List AV) : (lim xAu).pcall 18 args = xAR (lim xAu) a18 args := xAm rfl args
theorem yA5 (caps args : List AV) (H : Heap) : (lim xAu).icall (.func 18 caps) args H = xBD (lim xAu) a18 (args ++ caps) H := xAC rfl caps args H
theorem yBR (args : List AV) : (lim xAu).pcall 21 args = xAR (lim xAu) a21 args := xAm rfl args
theorem yA6 (args : List AV) : (lim xAu).pcall 22 args = xAR (lim xAu) a22 args := xAm rfl args
theorem yBS (args : List AV) : (lim xAu).pcall 23 args = xAR (lim xAu) a23 args := xAm rfl args
theorem yCc (args : List AV) : (lim xAu).pcall 25 args = xAR (lim xAu) a25 args := xAm rfl args
theorem yCd (args : List AV) : (lim xAu).pcall 44 args = xAR (lim xAu) a44 args := xAm rfl args
theorem yCe (args : List AV) : (lim xAu).pcall 45 args = xAR (lim xAu) a45 args := xAm rfl args
theorem yCf (args : List AV) : (lim xAu).pcall 46 args = xAR (lim xAu) a46 args := xAm rfl args
theorem yCg (args : List AV) : (lim xAu).pcall 47 args = xAR (lim xAu) a47 args := xAm rfl args
theorem yBT (args : List AV) : (lim xAu).pcall 48 args = xAR (lim xAu) a48 args := xAm rfl args
theorem yBU (args : List AV) : (lim xAu).pcall 49 args = xAR (lim xAu) a49 args := xAm rfl args
theorem yBV (caps args : List AV) (H : Heap) : (lim xAu).icall (.func 49 caps) args H = xBD (lim xAu) a49 (args ++ caps) H := xAC rfl caps args H
theorem yCh (caps args : List AV) (H : Heap) : (lim xAu).icall (.func 52 caps) args H = xBD (lim xAu) a52 (args ++ caps) H := xAC rfl caps args H
theorem yCi (caps args : List AV) (H : Heap) : (lim xAu).icall (.func 53 caps) args H = xBD (lim xAu) a53 (args ++ caps) H := xAC rfl caps args H
theorem yA7 (caps args : List AV) (H : Heap) : (lim xAu).icall (.func 54 caps) args H = xBD (lim xAu) a54 (args ++ caps) H := xAC rfl caps args H
theorem yCj (args : List AV) : (lim xAu).pcall 55 args = xAR (lim xAu) a55 args := xAm rfl args
theorem yCk (args : List AV) : (lim xAu).pcall 59 args = xAR (lim xAu) a59 args := xAm rfl args
theorem yCl (args : List AV) : (lim xAu).pcall 60 args = xAR (lim xAu) a60 args := xAm rfl args
theorem yCm (args : List AV) : (lim xAu).pcall 61 args = xAR (lim xAu) a61 args := xAm rfl args
theorem yCn (args : List AV) : (lim xAu).pcall 62 args = xAR (lim xAu) a62 args := xAm rfl args
theorem yCo (args : List AV) : (lim xAu).pcall 63 args = xAR (lim xAu) a63 args := xAm rfl args
theorem yCp (args : List AV) : (lim xAu).pcall 64 args = xAR (lim xAu) a64 args := xAm rfl args
theorem yCq (args : List AV) : (lim xAu).pcall 65 args = xAR (lim xAu) a65 args := xAm rfl args
theorem yBW (caps args : List AV) (H : Heap) : (lim xAu).icall (.func 72 caps) args H = xBD (lim xAu) a72 (args ++ caps) H := xAC rfl caps args H
theorem yCr (caps args : List AV) (H : Heap) : (lim xAu).icall (.func 76 caps) args H = xBD (lim xAu) a76 (args ++ caps) H := xAC rfl caps args H
theorem yCs (args : List AV) : (lim xAu).pcall 77 args = xAR (lim xAu) a77 args := xAm rfl args
theorem yCt (caps args : List AV) (H : Heap) : (lim xAu).icall (.func 78 caps) args H = xBD (lim xAu) a78 (args ++ caps) H := xAC rfl caps args H
theorem yCu (caps args : List AV) (H : Heap) : (lim xAu).icall (.func 79 caps) args H = xBD (lim xAu) a79 (args ++ caps) H := xAC rfl caps args H
theorem yCv (caps args : List AV) (H : Heap) : (lim xAu).icall (.func 80 caps) args H = xBD (lim xAu) a80 (args ++ caps) H := xAC rfl caps args H
theorem yBX (args : List AV) : (lim xAu).pcall 81 args = xAR (lim xAu) a81 args := xAm rfl args
theorem yCw (caps args : List AV) (H : Heap) : (lim xAu).icall (.func 82 caps) args H = xBD (lim xAu) a82 (args ++ caps) H := xAC rfl caps args H
theorem yBY (args : List AV) : (lim xAu).pcall 83 args = xAR (lim xAu) a83 args := xAm rfl args
theorem yBZ (caps args : List AV) (H : Heap) : (lim xAu).icall (.func 85 caps) args H = xBD (lim xAu) a85 (args ++ caps) H := xAC rfl caps args H
theorem yCx (caps args : List AV) (H : Heap) : (lim xAu).icall (.func 90 caps) args H = xBD (lim xAu) a90 (args ++ caps) H := xAC rfl caps args H
theorem yCy (caps args : List AV) (H : Heap) : (lim xAu).icall (.func 91 caps) args H = xBD (lim xAu) a91 (args ++ caps) H := xAC rfl caps args H
theorem yCz (caps args : List AV) (H : Heap) : (lim xAu).icall (.func 96 caps) args H = xBD (lim xAu) a96 (args ++ caps) H := xAC rfl caps args H
theorem yCA (args : List AV) : (lim xAu).pcall 97 args = xAR (lim xAu) a97 args := xAm rfl args
theorem yCB (caps args : List AV) (H : Heap) : (lim xAu).icall (.func 98 caps) args H = xBD (lim xAu) a98 (args ++ caps) H := xAC rfl caps args H
theorem yB0 (caps args : List AV) (H : Heap) : (lim xAu).icall (.func 99 caps) args H = xBD (lim xAu) a99 (args ++ caps) H := xAC rfl caps args H
theorem yA8 (args : List AV) : (lim xAu).pcall 103 args = xAR (lim xAu) yA3 args := xAm rfl args
end Go.Abs.Mealy
