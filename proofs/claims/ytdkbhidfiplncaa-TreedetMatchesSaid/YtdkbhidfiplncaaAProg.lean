/- The functions in the interpreter's words. -/
import Derived.Test.YtdkbhidfiplncaaAbsEnc
import Derived.Test.YtdkbhidfiplncaaProg
namespace Go.Abs.Det
open Go Go.Abs
abbrev oO (n : Nat) (x : AOp) : AOper := ⟨some n,x,none⟩
def xZR : ACode :=
 .seq (.seq (.region [oO 45 (.mov (.t 7)),
 oO 46 (.bin .lss (.t 45) (.c (.int .i64 2)))])
 (.cond (.t 46)
 (.skip)
 (.exit 0)))
 (.seq (.block 1 (.seq (.region [oO 50 (.load true 4 (.t 5)),
 oO 51 (.mov (.t 6)),
 oO 52 (.ocallw 16 [(.t 50),(.t 51)]),
 oO 49 (.mov (.t 52)),
 oO 53 (.ext 0 (.t 49)),
 oO 54 (.ext 1 (.t 49)),
 oO 8 (.mov (.t 53)),
 oO 9 (.mov (.t 54))])
 (.seq (.region [oO 56 (.load true 4 (.t 5)),
 oO 57 (.mov (.t 6)),
 oO 58 (.call 17 [(.t 56),(.t 57)]),
 oO 55 (.mov (.t 58)),
 oO 59 (.ext 0 (.t 55)),
 oO 60 (.ext 1 (.t 55)),
 oO 10 (.mov (.t 59)),
 oO 11 (.mov (.t 60))])
 (.seq (.region [oO 62 (.load true 4 (.t 5)),
 oO 63 (.mov (.t 6)),
 oO 64 (.call 18 [(.t 62),(.t 63)]),
 oO 61 (.mov (.t 64)),
 oO 65 (.ext 0 (.t 61)),
 oO 66 (.ext 1 (.t 61)),
 oO 12 (.mov (.t 65)),
 oO 13 (.mov (.t 66))])
 (.seq (.region [oO 68 (.load true 4 (.t 5)),
 oO 69 (.mov (.t 6)),
 oO 70 (.call 19 [(.t 68),(.t 69)]),
 oO 67 (.mov (.t 70)),
 oO 71 (.ext 0 (.t 67)),
 oO 72 (.ext 1 (.t 67)),
 oO 14 (.mov (.t 71)),
 oO 15 (.mov (.t 72))])
 (.seq (.seq (.region [oO 73 (.mov (.t 8)),
 oO 74 (.mov (.t 10)),
 oO 75 (.call 20 [(.t 73),(.t 74)]),
 oO 76 (.un .not (.t 75)),
 oO 77 (.mov (.t 76)),
 ⟨some 78,.mov (.t 9),some (77,false)⟩,
 ⟨some 79,.mov (.t 11),some (77,false)⟩,
 ⟨some 80,.bin .neq (.t 78) (.t 79),some (77,false)⟩,
 oO 81 (.pick (.t 77) (.c (.bool true)) (.t 80)),
 oO 82 (.mov (.t 81)),
 ⟨some 83,.mov (.t 12),some (82,false)⟩,
 ⟨some 84,.mov (.t 14),some (82,false)⟩,
 ⟨some 85,.beq true (.t 83) (.t 84),some (82,false)⟩,
 oO 86 (.pick (.t 82) (.c (.bool true)) (.t 85)),
 oO 87 (.mov (.t 86)),
 ⟨some 88,.mov (.t 13),some (87,false)⟩,
 ⟨some 89,.mov (.t 15),some (87,false)⟩,
 ⟨some 90,.bin .neq (.t 88) (.t 89),some (87,false)⟩,
 oO 91 (.pick (.t 87) (.c (.bool true)) (.t 90))])
 (.cond (.t 91)
 (.seq (.region [oO 4 (.mov (.c (.bool false)))])
 (.ret))
 (.skip)))
 (.seq (.region [oO 93 (.load true 4 (.t 5)),
 oO 94 (.ocallw 21 [(.t 93)]),
 oO 92 (.mov (.t 94)),
 oO 95 (.ext 0 (.t 92)),
 oO 96 (.ext 1 (.t 92)),
 oO 16 (.box (.c (.agg [.int .i64 0,.int .i64 0,.sl true 0 [],.sl true 0 []]))),
 ⟨none,.store 4 (.t 16) (.t 95),none⟩,
 oO 17 (.mov (.t 96))])
 (.seq (.region [oO 98 (.load true 4 (.t 5)),
 oO 99 (.call 22 [(.t 98)]),
 oO 97 (.mov (.t 99)),
 oO 100 (.ext 0 (.t 97)),
 oO 101 (.ext 1 (.t 97)),
 oO 18 (.box (.c (.agg [.int .i64 0,.int .i64 0,.sl true 0 [],.sl true 0 []]))),
 ⟨none,.store 4 (.t 18) (.t 100),none⟩,
 oO 19 (.mov (.t 101))])
 (.seq (.region [oO 103 (.load true 4 (.t 5)),
 oO 104 (.ocallw 23 [(.t 103)]),
 oO 102 (.mov (.t 104)),
 oO 105 (.ext 0 (.t 102)),
 oO 106 (.ext 1 (.t 102)),
 oO 20 (.box (.c (.agg [.int .i64 0,.int .i64 0,.sl true 0 [],.sl true 0 []]))),
 ⟨none,.store 4 (.t 20) (.t 105),none⟩,
 oO 21 (.mov (.t 106))])
 (.seq (.region [oO 108 (.load true 4 (.t 5)),
 oO 109 (.call 24 [(.t 108)]),
 oO 107 (.mov (.t 109)),
 oO 110 (.ext 0 (.t 107)),
 oO 111 (.ext 1 (.t 107)),
 oO 22 (.box (.c (.agg [.int .i64 0,.int .i64 0,.sl true 0 [],.sl true 0 []]))),
 ⟨none,.store 4 (.t 22) (.t 110),none⟩,
 oO 23 (.mov (.t 111))])
 (.seq (.region [oO 113 (.load true 4 (.t 5)),
 oO 114 (.ocallw 25 [(.t 113)]),
 oO 112 (.mov (.t 114)),
 oO 115 (.ext 0 (.t 112)),
 oO 116 (.ext 1 (.t 112)),
 oO 24 (.mov (.t 115)),
 oO 25 (.mov (.t 116))])
 (.seq (.region [oO 118 (.load true 4 (.t 5)),
 oO 119 (.call 26 [(.t 118)]),
 oO 117 (.mov (.t 119)),
 oO 120 (.ext 0 (.t 117)),
 oO 121 (.ext 1 (.t 117)),
 oO 26 (.mov (.t 120)),
 oO 27 (.mov (.t 121))])
 (.seq (.region [oO 123 (.load true 4 (.t 5)),
 oO 124 (.ocallw 27 [(.t 123)]),
 oO 122 (.mov (.t 124)),
 oO 125 (.ext 0 (.t 122)),
 oO 126 (.ext 1 (.t 122)),
 oO 28 (.box (.c (.agg [.int .i64 0,.int .i64 0,.sl true 0 [],.sl true 0 [],.sl true 0 []]))),
 ⟨none,.store 5 (.t 28) (.t 125),none⟩,
 oO 29 (.mov (.t 126))])
 (.seq (.region [oO 128 (.load true 4 (.t 5)),
 oO 129 (.call 28 [(.t 128)]),
 oO 127 (.mov (.t 129)),
 oO 130 (.ext 0 (.t 127)),
 oO 131 (.ext 1 (.t 127)),
 oO 30 (.box (.c (.agg [.int .i64 0,.int .i64 0,.sl true 0 [],.sl true 0 [],.sl true 0 []]))),
 ⟨none,.store 5 (.t 30) (.t 130),none⟩,
 oO 31 (.mov (.t 131))])
 (.seq (.seq (.draw 52 [oO 132 (.load true 4 (.t 16)),
 oO 133 (.load true 4 (.t 18)),
 oO 134 (.call 29 [(.t 132),(.t 133)]),
 oO 135 (.un .not (.t 134)),
 oO 136 (.mov (.t 135)),
 ⟨some 137,.mov (.t 17),some (136,false)⟩,
 ⟨some 138,.mov (.t 19),some (136,false)⟩,
 ⟨some 139,.bin .neq (.t 137) (.t 138),some (136,false)⟩,
 oO 140 (.pick (.t 136) (.c (.bool true)) (.t 139)),
 oO 141 (.mov (.t 140)),
 ⟨some 142,.load true 4 (.t 20),some (141,false)⟩,
 ⟨some 143,.load true 4 (.t 22),some (141,false)⟩,
 ⟨some 144,.call 29 [(.t 142),(.t 143)],some (141,false)⟩,
 ⟨some 145,.un .not (.t 144),some (141,false)⟩,
 oO 146 (.pick (.t 141) (.c (.bool true)) (.t 145)),
 oO 147 (.mov (.t 146)),
 ⟨some 148,.mov (.t 21),some (147,false)⟩,
 ⟨some 149,.mov (.t 23),some (147,false)⟩,
 ⟨some 150,.bin .neq (.t 148) (.t 149),some (147,false)⟩,
 oO 151 (.pick (.t 147) (.c (.bool true)) (.t 150)),
 oO 152 (.mov (.t 151)),
 ⟨some 153,.mov (.t 24),some (152,false)⟩,
 ⟨some 154,.mov (.t 26),some (152,false)⟩,
 ⟨some 155,.call 20 [(.t 153),(.t 154)],some (152,false)⟩,
 ⟨some 156,.un .not (.t 155),some (152,false)⟩,
 oO 157 (.pick (.t 152) (.c (.bool true)) (.t 156)),
 oO 158 (.mov (.t 157)),
 ⟨some 159,.mov (.t 25),some (158,false)⟩,
 ⟨some 160,.mov (.t 27),some (158,false)⟩,
 ⟨some 161,.bin .neq (.t 159) (.t 160),some (158,false)⟩,
 oO 162 (.pick (.t 158) (.c (.bool true)) (.t 161)),
 oO 163 (.mov (.t 162)),
 ⟨some 164,.load true 5 (.t 28),some (163,false)⟩,
 ⟨some 165,.load true 5 (.t 30),some (163,false)⟩,
 ⟨some 166,.call 30 [(.t 164),(.t 165)],some (163,false)⟩,
 ⟨some 167,.un .not (.t 166),some (163,false)⟩,
 oO 168 (.pick (.t 163) (.c (.bool true)) (.t 167)),
 oO 169 (.mov (.t 168)),
 ⟨some 170,.mov (.t 29),some (169,false)⟩,
 ⟨some 171,.mov (.t 31),some (169,false)⟩,
 ⟨some 172,.bin .neq (.t 170) (.t 171),some (169,false)⟩,
 oO 173 (.pick (.t 169) (.c (.bool true)) (.t 172)),
 oO 174 (.mov (.t 173)),
 ⟨some 175,.load true 4 (.t 5),some (174,false)⟩,
 ⟨some 176,.load true 4 (.t 2),some (174,false)⟩,
 ⟨some 177,.call 12 [(.t 176)],some (174,false)⟩,
 ⟨some 178,.call 29 [(.t 175),(.t 177)],some (174,false)⟩,
 ⟨some 179,.un .not (.t 178),some (174,false)⟩,
 oO 180 (.pick (.t 174) (.c (.bool true)) (.t 179)),
 oO 181 (.mov (.t 180)),
 ⟨some 182,.mov (.t 6),some (181,false)⟩,
 ⟨some 183,.mov (.t 1),some (181,false)⟩,
 ⟨some 184,.mov (.t 1),some (181,false)⟩,
 ⟨some 185,.len (.t 184),some (181,false)⟩,
 ⟨some 186,.mini (.t 185) (.c (.int .i64 40)),some (181,false)⟩,
 ⟨some 187,.slice 3 (.t 183) none (some (.t 186)) none,some (181,false)⟩,
 ⟨some 188,.call 31 [(.t 182),(.t 187)],some (181,false)⟩,
 ⟨some 189,.un .not (.t 188),some (181,false)⟩,
 oO 190 (.pick (.t 181) (.c (.bool true)) (.t 189))])
 (.cond (.t 190)
 (.seq (.region [oO 4 (.mov (.c (.bool false)))])
 (.ret))
 (.skip)))
 (.seq (.region [oO 191 (.mov (.t 8)),
 oO 192 (.icall (.c (.func 32 [])) [(.t 191)])])
 (.seq (.region [oO 193 (.load true 4 (.t 16)),
 oO 194 (.icall (.c (.func 33 [])) [(.t 193)])])
 (.seq (.region [oO 195 (.load true 4 (.t 20)),
 oO 196 (.icall (.c (.func 33 [])) [(.t 195)])])
 (.seq (.region [oO 197 (.mov (.t 24)),
 oO 198 (.icall (.c (.func 32 [])) [(.t 197)])])
 (.region [oO 199 (.load true 5 (.t 28)),
 oO 200 (.icall (.c (.func 34 [])) [(.t 199)])]))))))))))))))))))))
 (.region [oO 47 (.mov (.t 7)),
 oO 48 (.bin .add (.t 47) (.c (.int .i64 1))),
 oO 7 (.mov (.t 48))]))
def xZL : ACode := xZR
def xGR : List Nat := [0,3,8,9,10,11,12,13,14,15,16,17,18,19,20,21,22,23,24,25,26,27,28,29,30,31,32,33,34,35,36,37,38,39,40,41,42,43,44,45,46,47,48,49,50,51,52,53,54,55,56,57,58,59,60,61,62,63,64,65,66,67,68,69,70,71,72,73,74,75,76,77,78,79,80,81,82,83,84,85,86,87,88,89,90,91,92,93,94,95,96,97,98,99,100,101,102,103,104,105,106,107,108,109,110,111,112,113,114,115,116,117,118,119,120,121,122,123,124,125,126,127,128,129,130,131,132,133,134,135,136,137,138,139,140,141,142,143,144,145,146,147,148,149,150,151,152,153,154,155,156,157,158,159,160,161,162,163,164,165,166,167,168,169,170,171,172,173,174,175,176,177,178,179,180,181,182,183,184,185,186,187,188,189,190,191,192,193,194,195,196,197,198,199,200,201]
abbrev xGS (s1 s2 s4 s5 s6 s7 : AV) : List AV := [.any,s1,s2,.any,s4,s5,s6,s7,.any,.any,.any,.any,.any,.any,.any,.any,.any,.any,.any,.any,.any,.any,.any,.any,.any,.any,.any,.any,.any,.any,.any,.any,.any,.any,.any,.any,.any,.any,.any,.any,.any,.any,.any,.any,.any,.any,.any,.any,.any,.any,.any,.any,.any,.any,.any,.any,.any,.any,.any,.any,.any,.any,.any,.any,.any,.any,.any,.any,.any,.any,.any,.any,.any,.any,.any,.any,.any,.any,.any,.any,.any,.any,.any,.any,.any,.any,.any,.any,.any,.any,.any,.any,.any,.any,.any,.any,.any,.any,.any,.any,.any,.any,.any,.any,.any,.any,.any,.any,.any,.any,.any,.any,.any,.any,.any,.any,.any,.any,.any,.any,.any,.any,.any,.any,.any,.any,.any,.any,.any,.any,.any,.any,.any,.any,.any,.any,.any,.any,.any,.any,.any,.any,.any,.any,.any,.any,.any,.any,.any,.any,.any,.any,.any,.any,.any,.any,.any,.any,.any,.any,.any,.any,.any,.any,.any,.any,.any,.any,.any,.any,.any,.any,.any,.any,.any,.any,.any,.any,.any,.any,.any,.any,.any,.any,.any,.any,.any,.any,.any,.any,.any,.any,.any,.any,.any,.any,.any,.any,.any,.any,.any,.any]
theorem yDE (s0 s1 s2 s3 s4 s5 s6 s7 s8 s9 s10 s11 s12 s13 s14 s15 s16 s17 s18 s19 s20 s21 s22 s23 s24 s25 s26 s27 s28 s29 s30 s31 s32 s33 s34 s35 s36 s37 s38 s39 s40 s41 s42 s43 s44 s45 s46 s47 s48 s49 s50 s51 s52 s53 s54 s55 s56 s57 s58 s59 s60 s61 s62 s63 s64 s65 s66 s67 s68 s69 s70 s71 s72 s73 s74 s75 s76 s77 s78 s79 s80 s81 s82 s83 s84 s85 s86 s87 s88 s89 s90 s91 s92 s93 s94 s95 s96 s97 s98 s99 s100 s101 s102 s103 s104 s105 s106 s107 s108 s109 s110 s111 s112 s113 s114 s115 s116 s117 s118 s119 s120 s121 s122 s123 s124 s125 s126 s127 s128 s129 s130 s131 s132 s133 s134 s135 s136 s137 s138 s139 s140 s141 s142 s143 s144 s145 s146 s147 s148 s149 s150 s151 s152 s153 s154 s155 s156 s157 s158 s159 s160 s161 s162 s163 s164 s165 s166 s167 s168 s169 s170 s171 s172 s173 s174 s175 s176 s177 s178 s179 s180 s181 s182 s183 s184 s185 s186 s187 s188 s189 s190 s191 s192 s193 s194 s195 s196 s197 s198 s199 s200 s201 : AV) : xAm xGR [s0,s1,s2,s3,s4,s5,s6,s7,s8,s9,s10,s11,s12,s13,s14,s15,s16,s17,s18,s19,s20,s21,s22,s23,s24,s25,s26,s27,s28,s29,s30,s31,s32,s33,s34,s35,s36,s37,s38,s39,s40,s41,s42,s43,s44,s45,s46,s47,s48,s49,s50,s51,s52,s53,s54,s55,s56,s57,s58,s59,s60,s61,s62,s63,s64,s65,s66,s67,s68,s69,s70,s71,s72,s73,s74,s75,s76,s77,s78,s79,s80,s81,s82,s83,s84,s85,s86,s87,s88,s89,s90,s91,s92,s93,s94,s95,s96,s97,s98,s99,s100,s101,s102,s103,s104,s105,s106,s107,s108,s109,s110,s111,s112,s113,s114,s115,s116,s117,s118,s119,s120,s121,s122,s123,s124,s125,s126,s127,s128,s129,s130,s131,s132,s133,s134,s135,s136,s137,s138,s139,s140,s141,s142,s143,s144,s145,s146,s147,s148,s149,s150,s151,s152,s153,s154,s155,s156,s157,s158,s159,s160,s161,s162,s163,s164,s165,s166,s167,s168,s169,s170,s171,s172,s173,s174,s175,s176,s177,s178,s179,s180,s181,s182,s183,s184,s185,s186,s187,s188,s189,s190,s191,s192,s193,s194,s195,s196,s197,s198,s199,s200,s201] = xGS s1 s2 s4 s5 s6 s7 := by kernel_rfl
theorem yFs {prog : Nat → Option AFunc} (s1 s2 s4 s5 s6 s7 : AV) (H : xAc) : (lim prog).loop xGR xZL ⟨xGS s1 s2 s4 s5 s6 s7,H⟩ = xAD (lim prog) xGR xZL (run (lim prog) xZR ⟨xGS s1 s2 s4 s5 s6 s7,H⟩) := xAd _ _ _ _ (by kernel_rfl)
def a3 : AFunc := ⟨202,
 .seq (.region [oO 2 (.box (.t 0)),
 oO 4 (.mov (.c (.bool false)))])
 (.seq (.draw 9 [oO 32 (.load true 4 (.t 2)),
 oO 33 (.call 12 [(.t 32)]),
 oO 34 (.mov (.t 1)),
 oO 35 (.mov (.t 1)),
 oO 36 (.len (.t 35)),
 oO 37 (.mini (.t 36) (.c (.int .i64 40))),
 oO 38 (.slice 3 (.t 34) none (some (.t 37)) none),
 oO 39 (.call 13 [(.t 38)]),
 oO 5 (.box (.c (.agg [.int .i64 0,.int .i64 0,.sl true 0 [],.sl true 0 []]))),
 ⟨none,.store 4 (.t 5) (.t 33),none⟩,
 oO 6 (.mov (.t 39))])
 (.seq (.seq (.draw 3 [oO 40 (.load true 4 (.t 5)),
 oO 41 (.call 14 [(.t 40)]),
 oO 42 (.load true 4 (.t 5)),
 oO 43 (.call 15 [(.t 42)]),
 oO 44 (.bin .neq (.t 41) (.t 43))])
 (.cond (.t 44)
 (.seq (.region [oO 4 (.mov (.c (.bool false)))])
 (.ret))
 (.skip)))
 (.seq (.seq (.region [oO 7 (.mov (.c (.int .i64 0)))])
 (.block 0 (.loop xGR xZL)))
 (.seq (.region [oO 201 (.call 35 []),
 oO 4 (.mov (.t 201))])
 (.ret))))),
 [.tmp 4]⟩
def xGT : ACode :=
 .seq (.seq (.region [oO 18 (.mov (.t 6)),
 oO 19 (.faddr 2 (.t 1)),
 oO 20 (.load false 1 (.t 19)),
 oO 21 (.mov (.t 4)),
 oO 22 (.iaddr 1 (.t 20) (.t 21)),
 oO 23 (.load false 1 (.t 22)),
 oO 24 (.len (.t 23)),
 oO 25 (.bin .lss (.t 18) (.t 24)),
 oO 26 (.mov (.t 25)),
 ⟨some 27,.mov (.t 6),some (26,true)⟩,
 ⟨some 28,.bin .lss (.t 27) (.c (.int .i64 13)),some (26,true)⟩,
 oO 29 (.pick (.t 26) (.t 28) (.c (.bool false)))])
 (.cond (.t 29)
 (.skip)
 (.exit 2)))
 (.seq (.block 3 (.draw 14 [oO 32 (.mov (.t 5)),
 oO 33 (.faddr 2 (.t 1)),
 oO 34 (.load false 1 (.t 33)),
 oO 35 (.mov (.t 4)),
 oO 36 (.iaddr 1 (.t 34) (.t 35)),
 oO 37 (.load false 1 (.t 36)),
 oO 38 (.mov (.t 6)),
 oO 39 (.iaddr 1 (.t 37) (.t 38)),
 oO 40 (.load false 1 (.t 39)),
 oO 41 (.faddr 2 (.t 1)),
 oO 42 (.load false 1 (.t 41)),
 oO 43 (.mov (.t 4)),
 oO 44 (.iaddr 1 (.t 42) (.t 43)),
 oO 45 (.load false 1 (.t 44)),
 oO 46 (.mov (.t 6)),
 oO 47 (.iaddr 1 (.t 45) (.t 46)),
 oO 48 (.load false 1 (.t 47)),
 oO 49 (.len (.t 48)),
 oO 50 (.mini (.t 49) (.c (.int .i64 9))),
 oO 51 (.slice 1 (.t 40) none (some (.t 50)) none),
 oO 52 (.bslice true [.sl true 0 []] 1 1 [(0,(.t 51))]),
 oO 53 (.append false 1 24 (.t 32) (.t 52)),
 oO 5 (.mov (.t 53))]))
 (.region [oO 30 (.mov (.t 6)),
 oO 31 (.bin .add (.t 30) (.c (.int .i64 1))),
 oO 6 (.mov (.t 31))]))
def xZS : ACode := xGT
def xMH : List Nat := [0,7,8,9,10,11,12,13,14,15,16,17,18,19,20,21,22,23,24,25,26,27,28,29,30,31,32,33,34,35,36,37,38,39,40,41,42,43,44,45,46,47,48,49,50,51,52,53,54,55,56,57,58,59,60,61,62,63,64,65,66,67,68,69]
abbrev xMI (s1 s2 s3 s4 s5 s6 : AV) : List AV := [.any,s1,s2,s3,s4,s5,s6,.any,.any,.any,.any,.any,.any,.any,.any,.any,.any,.any,.any,.any,.any,.any,.any,.any,.any,.any,.any,.any,.any,.any,.any,.any,.any,.any,.any,.any,.any,.any,.any,.any,.any,.any,.any,.any,.any,.any,.any,.any,.any,.any,.any,.any,.any,.any,.any,.any,.any,.any,.any,.any,.any,.any,.any,.any,.any,.any,.any,.any,.any,.any]
theorem xJx (s0 s1 s2 s3 s4 s5 s6 s7 s8 s9 s10 s11 s12 s13 s14 s15 s16 s17 s18 s19 s20 s21 s22 s23 s24 s25 s26 s27 s28 s29 s30 s31 s32 s33 s34 s35 s36 s37 s38 s39 s40 s41 s42 s43 s44 s45 s46 s47 s48 s49 s50 s51 s52 s53 s54 s55 s56 s57 s58 s59 s60 s61 s62 s63 s64 s65 s66 s67 s68 s69 : AV) : xAm xMH [s0,s1,s2,s3,s4,s5,s6,s7,s8,s9,s10,s11,s12,s13,s14,s15,s16,s17,s18,s19,s20,s21,s22,s23,s24,s25,s26,s27,s28,s29,s30,s31,s32,s33,s34,s35,s36,s37,s38,s39,s40,s41,s42,s43,s44,s45,s46,s47,s48,s49,s50,s51,s52,s53,s54,s55,s56,s57,s58,s59,s60,s61,s62,s63,s64,s65,s66,s67,s68,s69] = xMI s1 s2 s3 s4 s5 s6 := by kernel_rfl
theorem xMJ {prog : Nat → Option AFunc} (s1 s2 s3 s4 s5 s6 : AV) (H : xAc) : (lim prog).loop xMH xZS ⟨xMI s1 s2 s3 s4 s5 s6,H⟩ = xAD (lim prog) xMH xZS (run (lim prog) xGT ⟨xMI s1 s2 s3 s4 s5 s6,H⟩) := xAd _ _ _ _ (by kernel_rfl)
def xJy : ACode :=
 .seq (.seq (.region [oO 7 (.mov (.t 4)),
 oO 8 (.faddr 2 (.t 1)),
 oO 9 (.load false 1 (.t 8)),
 oO 10 (.len (.t 9)),
 oO 11 (.bin .lss (.t 7) (.t 10)),
 oO 12 (.mov (.t 11)),
 ⟨some 13,.mov (.t 4),some (12,true)⟩,
 ⟨some 14,.bin .lss (.t 13) (.c (.int .i64 66)),some (12,true)⟩,
 oO 15 (.pick (.t 12) (.t 14) (.c (.bool false)))])
 (.cond (.t 15)
 (.skip)
 (.exit 0)))
 (.seq (.block 1 (.seq (.region [oO 5 (.mov (.c (.sl true 0 [])))])
 (.seq (.seq (.region [oO 6 (.mov (.c (.int .i64 0)))])
 (.block 2 (.loop xMH xZS)))
 (.fzs 5 (.region [oO 54 (.mov (.t 3)),
 oO 55 (.mov (.t 5)),
 oO 56 (.bslice true [.sl true 0 []] 1 1 [(0,(.t 55))]),
 oO 57 (.append false 1 24 (.t 54) (.t 56)),
 oO 3 (.mov (.t 57))])))))
 (.region [oO 16 (.mov (.t 4)),
 oO 17 (.bin .add (.t 16) (.c (.int .i64 1))),
 oO 4 (.mov (.t 17))]))
def xZT : ACode := xJy
def xMK : List Nat := [0,5,6,7,8,9,10,11,12,13,14,15,16,17,18,19,20,21,22,23,24,25,26,27,28,29,30,31,32,33,34,35,36,37,38,39,40,41,42,43,44,45,46,47,48,49,50,51,52,53,54,55,56,57,58,59,60,61,62,63,64,65,66,67,68,69]
abbrev xML (s1 s2 s3 s4 : AV) : List AV := [.any,s1,s2,s3,s4,.any,.any,.any,.any,.any,.any,.any,.any,.any,.any,.any,.any,.any,.any,.any,.any,.any,.any,.any,.any,.any,.any,.any,.any,.any,.any,.any,.any,.any,.any,.any,.any,.any,.any,.any,.any,.any,.any,.any,.any,.any,.any,.any,.any,.any,.any,.any,.any,.any,.any,.any,.any,.any,.any,.any,.any,.any,.any,.any,.any,.any,.any,.any,.any,.any]
theorem xJz (s0 s1 s2 s3 s4 s5 s6 s7 s8 s9 s10 s11 s12 s13 s14 s15 s16 s17 s18 s19 s20 s21 s22 s23 s24 s25 s26 s27 s28 s29 s30 s31 s32 s33 s34 s35 s36 s37 s38 s39 s40 s41 s42 s43 s44 s45 s46 s47 s48 s49 s50 s51 s52 s53 s54 s55 s56 s57 s58 s59 s60 s61 s62 s63 s64 s65 s66 s67 s68 s69 : AV) : xAm xMK [s0,s1,s2,s3,s4,s5,s6,s7,s8,s9,s10,s11,s12,s13,s14,s15,s16,s17,s18,s19,s20,s21,s22,s23,s24,s25,s26,s27,s28,s29,s30,s31,s32,s33,s34,s35,s36,s37,s38,s39,s40,s41,s42,s43,s44,s45,s46,s47,s48,s49,s50,s51,s52,s53,s54,s55,s56,s57,s58,s59,s60,s61,s62,s63,s64,s65,s66,s67,s68,s69] = xML s1 s2 s3 s4 := by kernel_rfl
theorem xRG {prog : Nat → Option AFunc} (s1 s2 s3 s4 : AV) (H : xAc) : (lim prog).loop xMK xZT ⟨xML s1 s2 s3 s4,H⟩ = xAD (lim prog) xMK xZT (run (lim prog) xJy ⟨xML s1 s2 s3 s4,H⟩) := xAd _ _ _ _ (by kernel_rfl)
def a12 : AFunc := ⟨70,
 .seq (.region [oO 1 (.box (.t 0)),
 oO 2 (.box (.c (.agg [.int .i64 0,.int .i64 0,.sl true 0 [],.sl true 0 []])))])
 (.seq (.region [oO 3 (.mov (.c (.sl true 0 [])))])
 (.seq (.seq (.region [oO 4 (.mov (.c (.int .i64 0)))])
 (.block 0 (.loop xMK xZT)))
 (.seq (.region [oO 58 (.mov (.t 3)),
 oO 59 (.faddr 2 (.t 1)),
 ⟨none,.store 1 (.t 59) (.t 58),none⟩])
 (.seq (.region [oO 60 (.faddr 3 (.t 1)),
 oO 61 (.load false 1 (.t 60)),
 oO 62 (.faddr 3 (.t 1)),
 oO 63 (.load false 1 (.t 62)),
 oO 64 (.len (.t 63)),
 oO 65 (.mini (.t 64) (.c (.int .i64 66))),
 oO 66 (.slice 1 (.t 61) none (some (.t 65)) none),
 oO 67 (.faddr 3 (.t 1)),
 ⟨none,.store 1 (.t 67) (.t 66),none⟩])
 (.seq (.region [oO 68 (.load true 4 (.t 1)),
 oO 69 (.call 51 [(.t 68)]),
 ⟨none,.store 4 (.t 2) (.t 69),none⟩])
 (.ret)))))),
 [.cell 2 true 4]⟩
def a13 : AFunc := ⟨5,
 .seq (.region [oO 2 (.mov (.c (.sl true 0 [])))])
 (.seq (.region [oO 3 (.mov (.t 0)),
 oO 4 (.append false 3 24 (.c (.sl true 0 [])) (.t 3)),
 oO 2 (.mov (.t 4))])
 (.ret)),
 [.tmp 2]⟩
def xFX : ACode :=
 .seq (.region [oO 68 (.bin .lss (.t 67) (.t 66))])
 (.seq (.cond (.t 68)
 (.skip)
 (.exit 5))
 (.seq (.block 6 (.seq (.region [oO 69 (.iaddr 1 (.t 65) (.t 67)),
 oO 70 (.load false 1 (.t 69)),
 oO 10 (.mov (.t 70))])
 (.seq (.region [oO 71 (.mov (.t 4)),
 oO 72 (.mov (.t 10)),
 oO 73 (.icall (.t 71) [(.t 72)]),
 oO 74 (.un .not (.t 73))])
 (.cond (.t 74)
 (.seq (.region [oO 2 (.mov (.c (.int .i64 8)))])
 (.ret))
 (.skip)))))
 (.region [oO 75 (.bin .add (.t 67) (.c (.int .i64 1))),
 oO 67 (.mov (.t 75))])))
def xVD : ACode := xFX
def xJA : List Nat := [0,5,6,7,8,9,10,11,12,13,14,15,16,17,18,19,20,21,22,23,24,25,26,27,28,29,30,31,32,33,34,35,36,37,38,39,40,41,42,46,47,48,49,50,51,52,56,57,58,59,60,61,62,63,64,68,69,70,71,72,73,74,75,76,77]
abbrev xFY (s1 s2 s3 s4 s43 s44 s45 s53 s54 s55 s65 s66 s67 : AV) : List AV := [.any,s1,s2,s3,s4,.any,.any,.any,.any,.any,.any,.any,.any,.any,.any,.any,.any,.any,.any,.any,.any,.any,.any,.any,.any,.any,.any,.any,.any,.any,.any,.any,.any,.any,.any,.any,.any,.any,.any,.any,.any,.any,.any,s43,s44,s45,.any,.any,.any,.any,.any,.any,.any,s53,s54,s55,.any,.any,.any,.any,.any,.any,.any,.any,.any,s65,s66,s67,.any,.any,.any,.any,.any,.any,.any,.any,.any,.any]
theorem xEc (s0 s1 s2 s3 s4 s5 s6 s7 s8 s9 s10 s11 s12 s13 s14 s15 s16 s17 s18 s19 s20 s21 s22 s23 s24 s25 s26 s27 s28 s29 s30 s31 s32 s33 s34 s35 s36 s37 s38 s39 s40 s41 s42 s43 s44 s45 s46 s47 s48 s49 s50 s51 s52 s53 s54 s55 s56 s57 s58 s59 s60 s61 s62 s63 s64 s65 s66 s67 s68 s69 s70 s71 s72 s73 s74 s75 s76 s77 : AV) : xAm xJA [s0,s1,s2,s3,s4,s5,s6,s7,s8,s9,s10,s11,s12,s13,s14,s15,s16,s17,s18,s19,s20,s21,s22,s23,s24,s25,s26,s27,s28,s29,s30,s31,s32,s33,s34,s35,s36,s37,s38,s39,s40,s41,s42,s43,s44,s45,s46,s47,s48,s49,s50,s51,s52,s53,s54,s55,s56,s57,s58,s59,s60,s61,s62,s63,s64,s65,s66,s67,s68,s69,s70,s71,s72,s73,s74,s75,s76,s77] = xFY s1 s2 s3 s4 s43 s44 s45 s53 s54 s55 s65 s66 s67 := by kernel_rfl
theorem xMM {prog : Nat → Option AFunc} (s1 s2 s3 s4 s43 s44 s45 s53 s54 s55 s65 s66 s67 : AV) (H : xAc) : (lim prog).loop xJA xVD ⟨xFY s1 s2 s3 s4 s43 s44 s45 s53 s54 s55 s65 s66 s67,H⟩ = xAD (lim prog) xJA xVD (run (lim prog) xFX ⟨xFY s1 s2 s3 s4 s43 s44 s45 s53 s54 s55 s65 s66 s67,H⟩) := xAd _ _ _ _ (by kernel_rfl)
def xEI : ACode :=
 .seq (.region [oO 56 (.bin .lss (.t 55) (.t 54))])
 (.seq (.cond (.t 56)
 (.skip)
 (.exit 3))
 (.seq (.block 4 (.seq (.region [oO 57 (.iaddr 1 (.t 53) (.t 55)),
 oO 58 (.load false 1 (.t 57)),
 oO 8 (.mov (.t 58))])
 (.seq (.seq (.region [oO 59 (.mov (.t 8)),
 oO 60 (.len (.t 59)),
 oO 61 (.faddr 0 (.t 1)),
 oO 62 (.load false 1 (.t 61)),
 oO 63 (.bin .shl (.c (.int .i64 1)) (.t 62)),
 oO 64 (.bin .neq (.t 60) (.t 63))])
 (.cond (.t 64)
 (.seq (.region [oO 2 (.mov (.c (.int .i64 2)))])
 (.ret))
 (.skip)))
 (.seq (.region [oO 65 (.mov (.t 8)),
 oO 66 (.len (.t 65)),
 oO 67 (.mov (.c (.int .i64 0)))])
 (.block 5 (.loop xJA xVD))))))
 (.region [oO 76 (.bin .add (.t 55) (.c (.int .i64 1))),
 oO 55 (.mov (.t 76))])))
def xVE : ACode := xEI
def xJB : List Nat := [0,5,6,7,8,9,10,11,12,13,14,15,16,17,18,19,20,21,22,23,24,25,26,27,28,29,30,31,32,33,34,35,36,37,38,39,40,41,42,46,47,48,49,50,51,52,56,57,58,59,60,61,62,63,64,65,66,67,68,69,70,71,72,73,74,75,76,77]
abbrev xFZ (s1 s2 s3 s4 s43 s44 s45 s53 s54 s55 : AV) : List AV := [.any,s1,s2,s3,s4,.any,.any,.any,.any,.any,.any,.any,.any,.any,.any,.any,.any,.any,.any,.any,.any,.any,.any,.any,.any,.any,.any,.any,.any,.any,.any,.any,.any,.any,.any,.any,.any,.any,.any,.any,.any,.any,.any,s43,s44,s45,.any,.any,.any,.any,.any,.any,.any,s53,s54,s55,.any,.any,.any,.any,.any,.any,.any,.any,.any,.any,.any,.any,.any,.any,.any,.any,.any,.any,.any,.any,.any,.any]
theorem xDp (s0 s1 s2 s3 s4 s5 s6 s7 s8 s9 s10 s11 s12 s13 s14 s15 s16 s17 s18 s19 s20 s21 s22 s23 s24 s25 s26 s27 s28 s29 s30 s31 s32 s33 s34 s35 s36 s37 s38 s39 s40 s41 s42 s43 s44 s45 s46 s47 s48 s49 s50 s51 s52 s53 s54 s55 s56 s57 s58 s59 s60 s61 s62 s63 s64 s65 s66 s67 s68 s69 s70 s71 s72 s73 s74 s75 s76 s77 : AV) : xAm xJB [s0,s1,s2,s3,s4,s5,s6,s7,s8,s9,s10,s11,s12,s13,s14,s15,s16,s17,s18,s19,s20,s21,s22,s23,s24,s25,s26,s27,s28,s29,s30,s31,s32,s33,s34,s35,s36,s37,s38,s39,s40,s41,s42,s43,s44,s45,s46,s47,s48,s49,s50,s51,s52,s53,s54,s55,s56,s57,s58,s59,s60,s61,s62,s63,s64,s65,s66,s67,s68,s69,s70,s71,s72,s73,s74,s75,s76,s77] = xFZ s1 s2 s3 s4 s43 s44 s45 s53 s54 s55 := by kernel_rfl
theorem xJC {prog : Nat → Option AFunc} (s1 s2 s3 s4 s43 s44 s45 s53 s54 s55 : AV) (H : xAc) : (lim prog).loop xJB xVE ⟨xFZ s1 s2 s3 s4 s43 s44 s45 s53 s54 s55,H⟩ = xAD (lim prog) xJB xVE (run (lim prog) xEI ⟨xFZ s1 s2 s3 s4 s43 s44 s45 s53 s54 s55,H⟩) := xAd _ _ _ _ (by kernel_rfl)
def xEJ : ACode :=
 .seq (.region [oO 46 (.bin .lss (.t 45) (.t 44))])
 (.seq (.cond (.t 46)
 (.skip)
 (.exit 1))
 (.seq (.block 2 (.seq (.region [oO 47 (.iaddr 1 (.t 43) (.t 45)),
 oO 48 (.load false 1 (.t 47)),
 oO 6 (.mov (.t 48))])
 (.seq (.seq (.region [oO 49 (.mov (.t 6)),
 oO 50 (.len (.t 49)),
 oO 51 (.load false 1 (.t 3)),
 oO 52 (.bin .neq (.t 50) (.t 51))])
 (.cond (.t 52)
 (.seq (.region [oO 2 (.mov (.c (.int .i64 2)))])
 (.ret))
 (.skip)))
 (.seq (.region [oO 53 (.mov (.t 6)),
 oO 54 (.len (.t 53)),
 oO 55 (.mov (.c (.int .i64 0)))])
 (.block 3 (.loop xJB xVE))))))
 (.region [oO 77 (.bin .add (.t 45) (.c (.int .i64 1))),
 oO 45 (.mov (.t 77))])))
def xVF : ACode := xEJ
def xJD : List Nat := [0,5,6,7,8,9,10,11,12,13,14,15,16,17,18,19,20,21,22,23,24,25,26,27,28,29,30,31,32,33,34,35,36,37,38,39,40,41,42,46,47,48,49,50,51,52,53,54,55,56,57,58,59,60,61,62,63,64,65,66,67,68,69,70,71,72,73,74,75,76,77]
abbrev xF0 (s1 s2 s3 s4 s43 s44 s45 : AV) : List AV := [.any,s1,s2,s3,s4,.any,.any,.any,.any,.any,.any,.any,.any,.any,.any,.any,.any,.any,.any,.any,.any,.any,.any,.any,.any,.any,.any,.any,.any,.any,.any,.any,.any,.any,.any,.any,.any,.any,.any,.any,.any,.any,.any,s43,s44,s45,.any,.any,.any,.any,.any,.any,.any,.any,.any,.any,.any,.any,.any,.any,.any,.any,.any,.any,.any,.any,.any,.any,.any,.any,.any,.any,.any,.any,.any,.any,.any,.any]
theorem xEd (s0 s1 s2 s3 s4 s5 s6 s7 s8 s9 s10 s11 s12 s13 s14 s15 s16 s17 s18 s19 s20 s21 s22 s23 s24 s25 s26 s27 s28 s29 s30 s31 s32 s33 s34 s35 s36 s37 s38 s39 s40 s41 s42 s43 s44 s45 s46 s47 s48 s49 s50 s51 s52 s53 s54 s55 s56 s57 s58 s59 s60 s61 s62 s63 s64 s65 s66 s67 s68 s69 s70 s71 s72 s73 s74 s75 s76 s77 : AV) : xAm xJD [s0,s1,s2,s3,s4,s5,s6,s7,s8,s9,s10,s11,s12,s13,s14,s15,s16,s17,s18,s19,s20,s21,s22,s23,s24,s25,s26,s27,s28,s29,s30,s31,s32,s33,s34,s35,s36,s37,s38,s39,s40,s41,s42,s43,s44,s45,s46,s47,s48,s49,s50,s51,s52,s53,s54,s55,s56,s57,s58,s59,s60,s61,s62,s63,s64,s65,s66,s67,s68,s69,s70,s71,s72,s73,s74,s75,s76,s77] = xF0 s1 s2 s3 s4 s43 s44 s45 := by kernel_rfl
theorem xJE {prog : Nat → Option AFunc} (s1 s2 s3 s4 s43 s44 s45 : AV) (H : xAc) : (lim prog).loop xJD xVF ⟨xF0 s1 s2 s3 s4 s43 s44 s45,H⟩ = xAD (lim prog) xJD xVF (run (lim prog) xEJ ⟨xF0 s1 s2 s3 s4 s43 s44 s45,H⟩) := xAd _ _ _ _ (by kernel_rfl)
def a14 : AFunc := ⟨78,
 .seq (.region [oO 1 (.box (.t 0)),
 oO 2 (.mov (.c (.int .i64 0)))])
 (.seq (.region [oO 11 (.faddr 2 (.t 1)),
 oO 12 (.load false 1 (.t 11)),
 oO 13 (.len (.t 12)),
 oO 3 (.box (.c (.int .i64 0))),
 ⟨none,.store 1 (.t 3) (.t 13),none⟩])
 (.seq (.region [oO 14 (.mkfunc 52 [(.t 3)]),
 oO 4 (.mov (.t 14))])
 (.seq (.block 0 (.seq (.region [oO 16 (.faddr 0 (.t 1)),
 oO 17 (.load false 1 (.t 16)),
 oO 18 (.bin .lss (.t 17) (.c (.int .i64 0))),
 oO 19 (.mov (.t 18)),
 ⟨some 20,.faddr 0 (.t 1),some (19,false)⟩,
 ⟨some 21,.load false 1 (.t 20),some (19,false)⟩,
 ⟨some 22,.bin .gtr (.t 21) (.c (.int .i64 3)),some (19,false)⟩,
 oO 23 (.pick (.t 19) (.c (.bool true)) (.t 22)),
 oO 15 (.mov (.t 23))])
 (.cond (.t 15)
 (.seq (.region [oO 2 (.mov (.c (.int .i64 7)))])
 (.ret))
 (.seq (.region [oO 25 (.load false 1 (.t 3)),
 oO 26 (.bin .eql (.t 25) (.c (.int .i64 0))),
 oO 24 (.mov (.t 26))])
 (.cond (.t 24)
 (.seq (.region [oO 2 (.mov (.c (.int .i64 3)))])
 (.ret))
 (.seq (.region [oO 28 (.load false 1 (.t 3)),
 oO 29 (.bin .gtr (.t 28) (.c (.int .i64 64))),
 oO 27 (.mov (.t 29))])
 (.cond (.t 27)
 (.seq (.region [oO 2 (.mov (.c (.int .i64 4)))])
 (.ret))
 (.seq (.region [oO 31 (.faddr 3 (.t 1)),
 oO 32 (.load false 1 (.t 31)),
 oO 33 (.len (.t 32)),
 oO 34 (.load false 1 (.t 3)),
 oO 35 (.bin .neq (.t 33) (.t 34)),
 oO 30 (.mov (.t 35))])
 (.cond (.t 30)
 (.seq (.region [oO 2 (.mov (.c (.int .i64 2)))])
 (.ret))
 (.seq (.region [oO 37 (.mov (.t 4)),
 oO 38 (.faddr 1 (.t 1)),
 oO 39 (.load false 1 (.t 38)),
 oO 40 (.icall (.t 37) [(.t 39)]),
 oO 41 (.un .not (.t 40)),
 oO 36 (.mov (.t 41))])
 (.cond (.t 36)
 (.seq (.region [oO 2 (.mov (.c (.int .i64 8)))])
 (.ret))
 (.skip))))))))))))
 (.seq (.seq (.region [oO 42 (.faddr 2 (.t 1)),
 oO 43 (.load false 1 (.t 42)),
 oO 44 (.len (.t 43)),
 oO 45 (.mov (.c (.int .i64 0)))])
 (.block 1 (.loop xJD xVF)))
 (.seq (.region [oO 2 (.mov (.c (.int .i64 0)))])
 (.ret)))))),
 [.tmp 2]⟩
def xGU : ACode :=
 .seq (.seq (.region [oO 69 (.mov (.t 7)),
 oO 70 (.mov (.t 6)),
 oO 71 (.len (.t 70)),
 oO 72 (.bin .lss (.t 69) (.t 71))])
 (.cond (.t 72)
 (.skip)
 (.exit 4)))
 (.seq (.block 5 (.seq (.region [oO 75 (.mov (.t 6)),
 oO 76 (.mov (.t 7)),
 oO 77 (.iaddr 1 (.t 75) (.t 76)),
 oO 78 (.load false 1 (.t 77)),
 oO 79 (.bin .lss (.t 78) (.c (.int .i64 0))),
 oO 80 (.mov (.t 79)),
 ⟨some 81,.mov (.t 6),some (80,false)⟩,
 ⟨some 82,.mov (.t 7),some (80,false)⟩,
 ⟨some 83,.iaddr 1 (.t 81) (.t 82),some (80,false)⟩,
 ⟨some 84,.load false 1 (.t 83),some (80,false)⟩,
 ⟨some 85,.mov (.t 3),some (80,false)⟩,
 ⟨some 86,.bin .geq (.t 84) (.t 85),some (80,false)⟩,
 oO 87 (.pick (.t 80) (.c (.bool true)) (.t 86))])
 (.cond (.t 87)
 (.seq (.region [oO 2 (.mov (.c (.int .i64 8)))])
 (.ret))
 (.skip))))
 (.region [oO 73 (.mov (.t 7)),
 oO 74 (.bin .add (.t 73) (.c (.int .i64 1))),
 oO 7 (.mov (.t 74))]))
def xZU : ACode := xGU
def xMN : List Nat := [0,8,9,10,11,12,13,14,15,16,17,18,19,20,21,22,23,24,25,26,27,28,29,30,31,32,33,34,35,36,37,38,39,40,41,42,43,44,45,46,47,48,49,50,51,52,53,54,55,56,57,58,59,60,61,62,63,64,65,66,67,68,69,70,71,72,73,74,75,76,77,78,79,80,81,82,83,84,85,86,87]
abbrev xJF (s1 s2 s3 s4 s5 s6 s7 : AV) : List AV := [.any,s1,s2,s3,s4,s5,s6,s7,.any,.any,.any,.any,.any,.any,.any,.any,.any,.any,.any,.any,.any,.any,.any,.any,.any,.any,.any,.any,.any,.any,.any,.any,.any,.any,.any,.any,.any,.any,.any,.any,.any,.any,.any,.any,.any,.any,.any,.any,.any,.any,.any,.any,.any,.any,.any,.any,.any,.any,.any,.any,.any,.any,.any,.any,.any,.any,.any,.any,.any,.any,.any,.any,.any,.any,.any,.any,.any,.any,.any,.any,.any,.any,.any,.any,.any,.any,.any,.any]
theorem xF1 (s0 s1 s2 s3 s4 s5 s6 s7 s8 s9 s10 s11 s12 s13 s14 s15 s16 s17 s18 s19 s20 s21 s22 s23 s24 s25 s26 s27 s28 s29 s30 s31 s32 s33 s34 s35 s36 s37 s38 s39 s40 s41 s42 s43 s44 s45 s46 s47 s48 s49 s50 s51 s52 s53 s54 s55 s56 s57 s58 s59 s60 s61 s62 s63 s64 s65 s66 s67 s68 s69 s70 s71 s72 s73 s74 s75 s76 s77 s78 s79 s80 s81 s82 s83 s84 s85 s86 s87 : AV) : xAm xMN [s0,s1,s2,s3,s4,s5,s6,s7,s8,s9,s10,s11,s12,s13,s14,s15,s16,s17,s18,s19,s20,s21,s22,s23,s24,s25,s26,s27,s28,s29,s30,s31,s32,s33,s34,s35,s36,s37,s38,s39,s40,s41,s42,s43,s44,s45,s46,s47,s48,s49,s50,s51,s52,s53,s54,s55,s56,s57,s58,s59,s60,s61,s62,s63,s64,s65,s66,s67,s68,s69,s70,s71,s72,s73,s74,s75,s76,s77,s78,s79,s80,s81,s82,s83,s84,s85,s86,s87] = xJF s1 s2 s3 s4 s5 s6 s7 := by kernel_rfl
theorem xRH {prog : Nat → Option AFunc} (s1 s2 s3 s4 s5 s6 s7 : AV) (H : xAc) : (lim prog).loop xMN xZU ⟨xJF s1 s2 s3 s4 s5 s6 s7,H⟩ = xAD (lim prog) xMN xZU (run (lim prog) xGU ⟨xJF s1 s2 s3 s4 s5 s6 s7,H⟩) := xAd _ _ _ _ (by kernel_rfl)
def xGV : ACode :=
 .seq (.seq (.region [oO 50 (.mov (.t 5)),
 oO 51 (.mov (.t 3)),
 oO 52 (.bin .lss (.t 50) (.t 51))])
 (.cond (.t 52)
 (.skip)
 (.exit 2)))
 (.seq (.block 3 (.seq (.region [oO 55 (.faddr 2 (.t 1)),
 oO 56 (.load false 1 (.t 55)),
 oO 57 (.mov (.t 4)),
 oO 58 (.iaddr 1 (.t 56) (.t 57)),
 oO 59 (.load false 1 (.t 58)),
 oO 60 (.mov (.t 5)),
 oO 61 (.iaddr 1 (.t 59) (.t 60)),
 oO 62 (.load false 1 (.t 61)),
 oO 6 (.mov (.t 62))])
 (.seq (.seq (.region [oO 63 (.mov (.t 6)),
 oO 64 (.len (.t 63)),
 oO 65 (.faddr 0 (.t 1)),
 oO 66 (.load false 1 (.t 65)),
 oO 67 (.bin .shl (.c (.int .i64 1)) (.t 66)),
 oO 68 (.bin .neq (.t 64) (.t 67))])
 (.cond (.t 68)
 (.seq (.region [oO 2 (.mov (.c (.int .i64 2)))])
 (.ret))
 (.skip)))
 (.seq (.region [oO 7 (.mov (.c (.int .i64 0)))])
 (.block 4 (.loop xMN xZU))))))
 (.region [oO 53 (.mov (.t 5)),
 oO 54 (.bin .add (.t 53) (.c (.int .i64 1))),
 oO 5 (.mov (.t 54))]))
def xZV : ACode := xGV
def xMO : List Nat := [0,6,7,8,9,10,11,12,13,14,15,16,17,18,19,20,21,22,23,24,25,26,27,28,29,30,31,32,33,34,35,36,37,38,39,40,41,42,43,44,45,46,47,48,49,50,51,52,53,54,55,56,57,58,59,60,61,62,63,64,65,66,67,68,69,70,71,72,73,74,75,76,77,78,79,80,81,82,83,84,85,86,87]
abbrev xJG (s1 s2 s3 s4 s5 : AV) : List AV := [.any,s1,s2,s3,s4,s5,.any,.any,.any,.any,.any,.any,.any,.any,.any,.any,.any,.any,.any,.any,.any,.any,.any,.any,.any,.any,.any,.any,.any,.any,.any,.any,.any,.any,.any,.any,.any,.any,.any,.any,.any,.any,.any,.any,.any,.any,.any,.any,.any,.any,.any,.any,.any,.any,.any,.any,.any,.any,.any,.any,.any,.any,.any,.any,.any,.any,.any,.any,.any,.any,.any,.any,.any,.any,.any,.any,.any,.any,.any,.any,.any,.any,.any,.any,.any,.any,.any,.any]
theorem xF2 (s0 s1 s2 s3 s4 s5 s6 s7 s8 s9 s10 s11 s12 s13 s14 s15 s16 s17 s18 s19 s20 s21 s22 s23 s24 s25 s26 s27 s28 s29 s30 s31 s32 s33 s34 s35 s36 s37 s38 s39 s40 s41 s42 s43 s44 s45 s46 s47 s48 s49 s50 s51 s52 s53 s54 s55 s56 s57 s58 s59 s60 s61 s62 s63 s64 s65 s66 s67 s68 s69 s70 s71 s72 s73 s74 s75 s76 s77 s78 s79 s80 s81 s82 s83 s84 s85 s86 s87 : AV) : xAm xMO [s0,s1,s2,s3,s4,s5,s6,s7,s8,s9,s10,s11,s12,s13,s14,s15,s16,s17,s18,s19,s20,s21,s22,s23,s24,s25,s26,s27,s28,s29,s30,s31,s32,s33,s34,s35,s36,s37,s38,s39,s40,s41,s42,s43,s44,s45,s46,s47,s48,s49,s50,s51,s52,s53,s54,s55,s56,s57,s58,s59,s60,s61,s62,s63,s64,s65,s66,s67,s68,s69,s70,s71,s72,s73,s74,s75,s76,s77,s78,s79,s80,s81,s82,s83,s84,s85,s86,s87] = xJG s1 s2 s3 s4 s5 := by kernel_rfl
theorem xRI {prog : Nat → Option AFunc} (s1 s2 s3 s4 s5 : AV) (H : xAc) : (lim prog).loop xMO xZV ⟨xJG s1 s2 s3 s4 s5,H⟩ = xAD (lim prog) xMO xZV (run (lim prog) xGV ⟨xJG s1 s2 s3 s4 s5,H⟩) := xAd _ _ _ _ (by kernel_rfl)
def xGW : ACode :=
 .seq (.seq (.region [oO 37 (.mov (.t 4)),
 oO 38 (.mov (.t 3)),
 oO 39 (.bin .lss (.t 37) (.t 38))])
 (.cond (.t 39)
 (.skip)
 (.exit 0)))
 (.seq (.block 1 (.seq (.seq (.region [oO 42 (.faddr 2 (.t 1)),
 oO 43 (.load false 1 (.t 42)),
 oO 44 (.mov (.t 4)),
 oO 45 (.iaddr 1 (.t 43) (.t 44)),
 oO 46 (.load false 1 (.t 45)),
 oO 47 (.len (.t 46)),
 oO 48 (.mov (.t 3)),
 oO 49 (.bin .neq (.t 47) (.t 48))])
 (.cond (.t 49)
 (.seq (.region [oO 2 (.mov (.c (.int .i64 2)))])
 (.ret))
 (.skip)))
 (.seq (.region [oO 5 (.mov (.c (.int .i64 0)))])
 (.block 2 (.loop xMO xZV)))))
 (.region [oO 40 (.mov (.t 4)),
 oO 41 (.bin .add (.t 40) (.c (.int .i64 1))),
 oO 4 (.mov (.t 41))]))
def xZW : ACode := xGW
def xMP : List Nat := [0,5,6,7,8,9,10,11,12,13,14,15,16,17,18,19,20,21,22,23,24,25,26,27,28,29,30,31,32,33,34,35,36,37,38,39,40,41,42,43,44,45,46,47,48,49,50,51,52,53,54,55,56,57,58,59,60,61,62,63,64,65,66,67,68,69,70,71,72,73,74,75,76,77,78,79,80,81,82,83,84,85,86,87]
abbrev xJH (s1 s2 s3 s4 : AV) : List AV := [.any,s1,s2,s3,s4,.any,.any,.any,.any,.any,.any,.any,.any,.any,.any,.any,.any,.any,.any,.any,.any,.any,.any,.any,.any,.any,.any,.any,.any,.any,.any,.any,.any,.any,.any,.any,.any,.any,.any,.any,.any,.any,.any,.any,.any,.any,.any,.any,.any,.any,.any,.any,.any,.any,.any,.any,.any,.any,.any,.any,.any,.any,.any,.any,.any,.any,.any,.any,.any,.any,.any,.any,.any,.any,.any,.any,.any,.any,.any,.any,.any,.any,.any,.any,.any,.any,.any,.any]
theorem xGX (s0 s1 s2 s3 s4 s5 s6 s7 s8 s9 s10 s11 s12 s13 s14 s15 s16 s17 s18 s19 s20 s21 s22 s23 s24 s25 s26 s27 s28 s29 s30 s31 s32 s33 s34 s35 s36 s37 s38 s39 s40 s41 s42 s43 s44 s45 s46 s47 s48 s49 s50 s51 s52 s53 s54 s55 s56 s57 s58 s59 s60 s61 s62 s63 s64 s65 s66 s67 s68 s69 s70 s71 s72 s73 s74 s75 s76 s77 s78 s79 s80 s81 s82 s83 s84 s85 s86 s87 : AV) : xAm xMP [s0,s1,s2,s3,s4,s5,s6,s7,s8,s9,s10,s11,s12,s13,s14,s15,s16,s17,s18,s19,s20,s21,s22,s23,s24,s25,s26,s27,s28,s29,s30,s31,s32,s33,s34,s35,s36,s37,s38,s39,s40,s41,s42,s43,s44,s45,s46,s47,s48,s49,s50,s51,s52,s53,s54,s55,s56,s57,s58,s59,s60,s61,s62,s63,s64,s65,s66,s67,s68,s69,s70,s71,s72,s73,s74,s75,s76,s77,s78,s79,s80,s81,s82,s83,s84,s85,s86,s87] = xJH s1 s2 s3 s4 := by kernel_rfl
theorem xRJ {prog : Nat → Option AFunc} (s1 s2 s3 s4 : AV) (H : xAc) : (lim prog).loop xMP xZW ⟨xJH s1 s2 s3 s4,H⟩ = xAD (lim prog) xMP xZW (run (lim prog) xGW ⟨xJH s1 s2 s3 s4,H⟩) := xAd _ _ _ _ (by kernel_rfl)
def a15 : AFunc := ⟨88,
 .seq (.region [oO 1 (.box (.t 0)),
 oO 2 (.mov (.c (.int .i64 0)))])
 (.seq (.region [oO 8 (.faddr 2 (.t 1)),
 oO 9 (.load false 1 (.t 8)),
 oO 10 (.len (.t 9)),
 oO 3 (.mov (.t 10))])
 (.seq (.seq (.region [oO 11 (.faddr 0 (.t 1)),
 oO 12 (.load false 1 (.t 11)),
 oO 13 (.bin .lss (.t 12) (.c (.int .i64 0))),
 oO 14 (.mov (.t 13)),
 ⟨some 15,.faddr 0 (.t 1),some (14,false)⟩,
 ⟨some 16,.load false 1 (.t 15),some (14,false)⟩,
 ⟨some 17,.bin .gtr (.t 16) (.c (.int .i64 3)),some (14,false)⟩,
 oO 18 (.pick (.t 14) (.c (.bool true)) (.t 17))])
 (.cond (.t 18)
 (.seq (.region [oO 2 (.mov (.c (.int .i64 7)))])
 (.ret))
 (.skip)))
 (.seq (.seq (.region [oO 19 (.mov (.t 3)),
 oO 20 (.bin .eql (.t 19) (.c (.int .i64 0)))])
 (.cond (.t 20)
 (.seq (.region [oO 2 (.mov (.c (.int .i64 3)))])
 (.ret))
 (.skip)))
 (.seq (.seq (.region [oO 21 (.mov (.t 3)),
 oO 22 (.bin .gtr (.t 21) (.c (.int .i64 64)))])
 (.cond (.t 22)
 (.seq (.region [oO 2 (.mov (.c (.int .i64 4)))])
 (.ret))
 (.skip)))
 (.seq (.seq (.region [oO 23 (.faddr 3 (.t 1)),
 oO 24 (.load false 1 (.t 23)),
 oO 25 (.len (.t 24)),
 oO 26 (.mov (.t 3)),
 oO 27 (.bin .neq (.t 25) (.t 26))])
 (.cond (.t 27)
 (.seq (.region [oO 2 (.mov (.c (.int .i64 2)))])
 (.ret))
 (.skip)))
 (.seq (.seq (.region [oO 28 (.faddr 1 (.t 1)),
 oO 29 (.load false 1 (.t 28)),
 oO 30 (.bin .lss (.t 29) (.c (.int .i64 0))),
 oO 31 (.mov (.t 30)),
 ⟨some 32,.faddr 1 (.t 1),some (31,false)⟩,
 ⟨some 33,.load false 1 (.t 32),some (31,false)⟩,
 ⟨some 34,.mov (.t 3),some (31,false)⟩,
 ⟨some 35,.bin .geq (.t 33) (.t 34),some (31,false)⟩,
 oO 36 (.pick (.t 31) (.c (.bool true)) (.t 35))])
 (.cond (.t 36)
 (.seq (.region [oO 2 (.mov (.c (.int .i64 8)))])
 (.ret))
 (.skip)))
 (.seq (.seq (.region [oO 4 (.mov (.c (.int .i64 0)))])
 (.block 0 (.loop xMP xZW)))
 (.seq (.region [oO 2 (.mov (.c (.int .i64 0)))])
 (.ret))))))))),
 [.tmp 2]⟩
def a16 : AFunc := ⟨21,
 .seq (.region [oO 2 (.box (.t 0)),
 oO 4 (.mov (.c (.sl true 0 []))),
 oO 5 (.mov (.c (.int .i64 0)))])
 (.seq (.seq (.region [oO 7 (.load true 4 (.t 2)),
 oO 8 (.mov (.t 1)),
 oO 9 (.call 53 [(.t 7),(.t 8)]),
 oO 6 (.mov (.t 9))])
 (.seq (.region [oO 10 (.mov (.t 6)),
 oO 11 (.bin .neq (.t 10) (.c (.int .i64 0)))])
 (.cond (.t 11)
 (.seq (.region [oO 12 (.mov (.t 6)),
 oO 4 (.mov (.c (.sl true 0 []))),
 oO 5 (.mov (.t 12))])
 (.ret))
 (.skip))))
 (.seq (.region [oO 13 (.load true 4 (.t 2)),
 oO 14 (.mov (.t 1)),
 oO 15 (.ocallw 54 [(.t 13),(.t 14)]),
 oO 16 (.mov (.t 1)),
 oO 17 (.len (.t 16)),
 oO 18 (.mov (.t 1)),
 oO 19 (.len (.t 18)),
 oO 20 (.slice 1 (.t 15) none (some (.t 17)) (some (.t 19))),
 oO 4 (.mov (.t 20)),
 oO 5 (.mov (.c (.int .i64 0)))])
 (.ret))),
 [.tmp 4,.tmp 5]⟩
def xGY : ACode :=
 .seq (.seq (.region [oO 30 (.mov (.t 9)),
 oO 31 (.bin .geq (.t 30) (.c (.int .i64 0)))])
 (.cond (.t 31)
 (.skip)
 (.exit 0)))
 (.seq (.block 1 (.seq (.draw 4 [oO 34 (.faddr 1 (.t 2)),
 oO 35 (.load false 1 (.t 34)),
 oO 36 (.faddr 1 (.t 2)),
 oO 37 (.load false 1 (.t 36)),
 oO 10 (.mov (.t 35)),
 oO 11 (.mov (.t 37))])
 (.seq (.seq (.region [oO 38 (.mov (.t 1)),
 oO 39 (.mov (.t 9)),
 oO 40 (.iaddr 3 (.t 38) (.t 39)),
 oO 41 (.faddr 1 (.t 40)),
 oO 42 (.load false 1 (.t 41)),
 oO 43 (.bin .geq (.t 42) (.c (.int .i64 0)))])
 (.cond (.t 43)
 (.region [oO 44 (.mov (.t 8)),
 oO 45 (.mov (.t 1)),
 oO 46 (.mov (.t 9)),
 oO 47 (.iaddr 3 (.t 45) (.t 46)),
 oO 48 (.faddr 1 (.t 47)),
 oO 49 (.load false 1 (.t 48)),
 oO 50 (.iaddr 1 (.t 44) (.t 49)),
 oO 51 (.load false 1 (.t 50)),
 oO 10 (.mov (.t 51))])
 (.skip)))
 (.seq (.seq (.region [oO 52 (.mov (.t 1)),
 oO 53 (.mov (.t 9)),
 oO 54 (.iaddr 3 (.t 52) (.t 53)),
 oO 55 (.faddr 2 (.t 54)),
 oO 56 (.load false 1 (.t 55)),
 oO 57 (.bin .geq (.t 56) (.c (.int .i64 0)))])
 (.cond (.t 57)
 (.region [oO 58 (.mov (.t 8)),
 oO 59 (.mov (.t 1)),
 oO 60 (.mov (.t 9)),
 oO 61 (.iaddr 3 (.t 59) (.t 60)),
 oO 62 (.faddr 2 (.t 61)),
 oO 63 (.load false 1 (.t 62)),
 oO 64 (.iaddr 1 (.t 58) (.t 63)),
 oO 65 (.load false 1 (.t 64)),
 oO 11 (.mov (.t 65))])
 (.skip)))
 (.draw 11 [oO 66 (.mov (.t 8)),
 oO 67 (.mov (.t 9)),
 oO 68 (.faddr 2 (.t 2)),
 oO 69 (.load false 1 (.t 68)),
 oO 70 (.mov (.t 10)),
 oO 71 (.iaddr 1 (.t 69) (.t 70)),
 oO 72 (.load false 1 (.t 71)),
 oO 73 (.mov (.t 11)),
 oO 74 (.iaddr 1 (.t 72) (.t 73)),
 oO 75 (.load false 1 (.t 74)),
 oO 76 (.mov (.t 1)),
 oO 77 (.mov (.t 9)),
 oO 78 (.iaddr 3 (.t 76) (.t 77)),
 oO 79 (.faddr 0 (.t 78)),
 oO 80 (.load false 1 (.t 79)),
 oO 81 (.iaddr 1 (.t 75) (.t 80)),
 oO 82 (.load false 1 (.t 81)),
 oO 83 (.iaddr 1 (.t 66) (.t 67)),
 ⟨none,.store 1 (.t 83) (.t 82),none⟩])))))
 (.region [oO 32 (.mov (.t 9)),
 oO 33 (.bin .sub (.t 32) (.c (.int .i64 1))),
 oO 9 (.mov (.t 33))]))
def xZX : ACode := xGY
def xMQ : List Nat := [0,3,4,5,6,7,10,11,12,13,14,15,16,17,18,19,20,21,22,23,24,25,26,27,28,29,30,31,32,33,34,35,36,37,38,39,40,41,42,43,44,45,46,47,48,49,50,51,52,53,54,55,56,57,58,59,60,61,62,63,64,65,66,67,68,69,70,71,72,73,74,75,76,77,78,79,80,81,82,83,84]
abbrev xMR (s1 s2 s8 s9 : AV) : List AV := [.any,s1,s2,.any,.any,.any,.any,.any,s8,s9,.any,.any,.any,.any,.any,.any,.any,.any,.any,.any,.any,.any,.any,.any,.any,.any,.any,.any,.any,.any,.any,.any,.any,.any,.any,.any,.any,.any,.any,.any,.any,.any,.any,.any,.any,.any,.any,.any,.any,.any,.any,.any,.any,.any,.any,.any,.any,.any,.any,.any,.any,.any,.any,.any,.any,.any,.any,.any,.any,.any,.any,.any,.any,.any,.any,.any,.any,.any,.any,.any,.any,.any,.any,.any,.any]
theorem xJI (s0 s1 s2 s3 s4 s5 s6 s7 s8 s9 s10 s11 s12 s13 s14 s15 s16 s17 s18 s19 s20 s21 s22 s23 s24 s25 s26 s27 s28 s29 s30 s31 s32 s33 s34 s35 s36 s37 s38 s39 s40 s41 s42 s43 s44 s45 s46 s47 s48 s49 s50 s51 s52 s53 s54 s55 s56 s57 s58 s59 s60 s61 s62 s63 s64 s65 s66 s67 s68 s69 s70 s71 s72 s73 s74 s75 s76 s77 s78 s79 s80 s81 s82 s83 s84 : AV) : xAm xMQ [s0,s1,s2,s3,s4,s5,s6,s7,s8,s9,s10,s11,s12,s13,s14,s15,s16,s17,s18,s19,s20,s21,s22,s23,s24,s25,s26,s27,s28,s29,s30,s31,s32,s33,s34,s35,s36,s37,s38,s39,s40,s41,s42,s43,s44,s45,s46,s47,s48,s49,s50,s51,s52,s53,s54,s55,s56,s57,s58,s59,s60,s61,s62,s63,s64,s65,s66,s67,s68,s69,s70,s71,s72,s73,s74,s75,s76,s77,s78,s79,s80,s81,s82,s83,s84] = xMR s1 s2 s8 s9 := by kernel_rfl
theorem xMS {prog : Nat → Option AFunc} (s1 s2 s8 s9 : AV) (H : xAc) : (lim prog).loop xMQ xZX ⟨xMR s1 s2 s8 s9,H⟩ = xAD (lim prog) xMQ xZX (run (lim prog) xGY ⟨xMR s1 s2 s8 s9,H⟩) := xAd _ _ _ _ (by kernel_rfl)
def a17 : AFunc := ⟨85,
 .seq (.region [oO 2 (.box (.t 0)),
 oO 4 (.mov (.c (.sl true 0 []))),
 oO 5 (.mov (.c (.int .i64 0)))])
 (.seq (.seq (.region [oO 12 (.load true 4 (.t 2)),
 oO 13 (.call 15 [(.t 12)]),
 oO 6 (.mov (.t 13))])
 (.seq (.region [oO 14 (.mov (.t 6)),
 oO 15 (.bin .neq (.t 14) (.c (.int .i64 0)))])
 (.cond (.t 15)
 (.seq (.region [oO 16 (.mov (.t 6)),
 oO 4 (.mov (.c (.sl true 0 []))),
 oO 5 (.mov (.t 16))])
 (.ret))
 (.skip))))
 (.seq (.seq (.region [oO 17 (.mov (.t 1)),
 oO 18 (.faddr 0 (.t 2)),
 oO 19 (.load false 1 (.t 18)),
 oO 20 (.call 55 [(.t 17),(.t 19)]),
 oO 7 (.mov (.t 20))])
 (.seq (.region [oO 21 (.mov (.t 7)),
 oO 22 (.bin .neq (.t 21) (.c (.int .i64 0)))])
 (.cond (.t 22)
 (.seq (.region [oO 23 (.mov (.t 7)),
 oO 4 (.mov (.c (.sl true 0 []))),
 oO 5 (.mov (.t 23))])
 (.ret))
 (.skip))))
 (.seq (.region [oO 24 (.mov (.t 1)),
 oO 25 (.len (.t 24)),
 oO 26 (.mkslice false [.int .i64 0] 8 (.t 25) (.t 25)),
 oO 8 (.mov (.t 26))])
 (.seq (.seq (.region [oO 27 (.mov (.t 1)),
 oO 28 (.len (.t 27)),
 oO 29 (.bin .sub (.t 28) (.c (.int .i64 1))),
 oO 9 (.mov (.t 29))])
 (.block 0 (.loop xMQ xZX)))
 (.seq (.region [oO 84 (.mov (.t 8)),
 oO 4 (.mov (.t 84)),
 oO 5 (.mov (.c (.int .i64 0)))])
 (.ret)))))),
 [.tmp 4,.tmp 5]⟩
def a18 : AFunc := ⟨22,
 .seq (.region [oO 2 (.box (.t 0)),
 oO 4 (.mov (.c (.bool false))),
 oO 5 (.mov (.c (.int .i64 0)))])
 (.seq (.seq (.region [oO 7 (.load true 4 (.t 2)),
 oO 8 (.mov (.t 1)),
 oO 9 (.call 53 [(.t 7),(.t 8)]),
 oO 6 (.mov (.t 9))])
 (.seq (.region [oO 10 (.mov (.t 6)),
 oO 11 (.bin .neq (.t 10) (.c (.int .i64 0)))])
 (.cond (.t 11)
 (.seq (.region [oO 12 (.mov (.t 6)),
 oO 4 (.mov (.c (.bool false))),
 oO 5 (.mov (.t 12))])
 (.ret))
 (.skip))))
 (.seq (.draw 5 [oO 13 (.faddr 3 (.t 2)),
 oO 14 (.load false 1 (.t 13)),
 oO 15 (.load true 4 (.t 2)),
 oO 16 (.mov (.t 1)),
 oO 17 (.call 54 [(.t 15),(.t 16)]),
 oO 18 (.iaddr 1 (.t 17) (.c (.int .i64 0))),
 oO 19 (.load false 1 (.t 18)),
 oO 20 (.iaddr 1 (.t 14) (.t 19)),
 oO 21 (.load false 1 (.t 20)),
 oO 4 (.mov (.t 21)),
 oO 5 (.mov (.c (.int .i64 0)))])
 (.ret))),
 [.tmp 4,.tmp 5]⟩
def a19 : AFunc := ⟨33,
 .seq (.region [oO 2 (.box (.t 0)),
 oO 4 (.mov (.c (.bool false))),
 oO 5 (.mov (.c (.int .i64 0)))])
 (.seq (.region [oO 9 (.load true 4 (.t 2)),
 oO 10 (.mov (.t 1)),
 oO 11 (.call 17 [(.t 9),(.t 10)]),
 oO 8 (.mov (.t 11)),
 oO 12 (.ext 0 (.t 8)),
 oO 13 (.ext 1 (.t 8)),
 oO 6 (.mov (.t 12)),
 oO 7 (.mov (.t 13))])
 (.seq (.seq (.region [oO 14 (.mov (.t 7)),
 oO 15 (.bin .neq (.t 14) (.c (.int .i64 0)))])
 (.cond (.t 15)
 (.seq (.region [oO 16 (.mov (.t 7)),
 oO 4 (.mov (.c (.bool false))),
 oO 5 (.mov (.t 16))])
 (.ret))
 (.skip)))
 (.seq (.seq (.region [oO 17 (.mov (.t 1)),
 oO 18 (.len (.t 17)),
 oO 19 (.bin .eql (.t 18) (.c (.int .i64 0)))])
 (.cond (.t 19)
 (.seq (.region [oO 20 (.faddr 3 (.t 2)),
 oO 21 (.load false 1 (.t 20)),
 oO 22 (.faddr 1 (.t 2)),
 oO 23 (.load false 1 (.t 22)),
 oO 24 (.iaddr 1 (.t 21) (.t 23)),
 oO 25 (.load false 1 (.t 24)),
 oO 4 (.mov (.t 25)),
 oO 5 (.mov (.c (.int .i64 0)))])
 (.ret))
 (.skip)))
 (.seq (.draw 2 [oO 26 (.faddr 3 (.t 2)),
 oO 27 (.load false 1 (.t 26)),
 oO 28 (.mov (.t 6)),
 oO 29 (.iaddr 1 (.t 28) (.c (.int .i64 0))),
 oO 30 (.load false 1 (.t 29)),
 oO 31 (.iaddr 1 (.t 27) (.t 30)),
 oO 32 (.load false 1 (.t 31)),
 oO 4 (.mov (.t 32)),
 oO 5 (.mov (.c (.int .i64 0)))])
 (.ret))))),
 [.tmp 4,.tmp 5]⟩
def xGZ : ACode :=
 .seq (.seq (.region [oO 11 (.mov (.t 5)),
 oO 12 (.mov (.t 0)),
 oO 13 (.len (.t 12)),
 oO 14 (.bin .lss (.t 11) (.t 13))])
 (.cond (.t 14)
 (.skip)
 (.exit 0)))
 (.seq (.block 1 (.seq (.draw 5 [oO 17 (.mov (.t 0)),
 oO 18 (.mov (.t 5)),
 oO 19 (.iaddr 1 (.t 17) (.t 18)),
 oO 20 (.load false 1 (.t 19)),
 oO 21 (.mov (.t 1)),
 oO 22 (.mov (.t 5)),
 oO 23 (.iaddr 1 (.t 21) (.t 22)),
 oO 24 (.load false 1 (.t 23)),
 oO 25 (.bin .neq (.t 20) (.t 24))])
 (.cond (.t 25)
 (.seq (.region [oO 4 (.mov (.c (.bool false)))])
 (.ret))
 (.skip))))
 (.region [oO 15 (.mov (.t 5)),
 oO 16 (.bin .add (.t 15) (.c (.int .i64 1))),
 oO 5 (.mov (.t 16))]))
def xVG : ACode := xGZ
def xJJ : List Nat := [2,3,6,7,8,9,10,11,12,13,14,15,16,17,18,19,20,21,22,23,24,25]
abbrev xG0 (s0 s1 s4 s5 : AV) : List AV := [s0,s1,.any,.any,s4,s5,.any,.any,.any,.any,.any,.any,.any,.any,.any,.any,.any,.any,.any,.any,.any,.any,.any,.any,.any,.any]
theorem xF3 (s0 s1 s2 s3 s4 s5 s6 s7 s8 s9 s10 s11 s12 s13 s14 s15 s16 s17 s18 s19 s20 s21 s22 s23 s24 s25 : AV) : xAm xJJ [s0,s1,s2,s3,s4,s5,s6,s7,s8,s9,s10,s11,s12,s13,s14,s15,s16,s17,s18,s19,s20,s21,s22,s23,s24,s25] = xG0 s0 s1 s4 s5 := by kernel_rfl
theorem xMT {prog : Nat → Option AFunc} (s0 s1 s4 s5 : AV) (H : xAc) : (lim prog).loop xJJ xVG ⟨xG0 s0 s1 s4 s5,H⟩ = xAD (lim prog) xJJ xVG (run (lim prog) xGZ ⟨xG0 s0 s1 s4 s5,H⟩) := xAd _ _ _ _ (by kernel_rfl)
def a20 : AFunc := ⟨26,
 .seq (.region [oO 4 (.mov (.c (.bool false)))])
 (.seq (.seq (.region [oO 6 (.mov (.t 0)),
 oO 7 (.len (.t 6)),
 oO 8 (.mov (.t 1)),
 oO 9 (.len (.t 8)),
 oO 10 (.bin .neq (.t 7) (.t 9))])
 (.cond (.t 10)
 (.seq (.region [oO 4 (.mov (.c (.bool false)))])
 (.ret))
 (.skip)))
 (.seq (.seq (.region [oO 5 (.mov (.c (.int .i64 0)))])
 (.block 0 (.loop xJJ xVG)))
 (.seq (.region [oO 4 (.mov (.c (.bool true)))])
 (.ret)))),
 [.tmp 4]⟩
def a21 : AFunc := ⟨13,
 .seq (.region [oO 1 (.box (.t 0)),
 oO 2 (.box (.c (.agg [.int .i64 0,.int .i64 0,.sl true 0 [],.sl true 0 []]))),
 oO 3 (.mov (.c (.int .i64 0)))])
 (.seq (.seq (.region [oO 5 (.load true 4 (.t 1)),
 oO 6 (.call 14 [(.t 5)]),
 oO 4 (.mov (.t 6))])
 (.seq (.region [oO 7 (.mov (.t 4)),
 oO 8 (.bin .neq (.t 7) (.c (.int .i64 0)))])
 (.cond (.t 8)
 (.seq (.region [oO 9 (.build [.int .i64 0,.int .i64 0,.sl true 0 [],.sl true 0 []] []),
 oO 10 (.mov (.t 4)),
 ⟨none,.store 4 (.t 2) (.t 9),none⟩,
 oO 3 (.mov (.t 10))])
 (.ret))
 (.skip))))
 (.seq (.region [oO 11 (.load true 4 (.t 1)),
 oO 12 (.ocallw 56 [(.t 11)]),
 ⟨none,.store 4 (.t 2) (.t 12),none⟩,
 oO 3 (.mov (.c (.int .i64 0)))])
 (.ret))),
 [.cell 2 true 4,.tmp 3]⟩
def a22 : AFunc := ⟨17,
 .seq (.region [oO 1 (.box (.t 0)),
 oO 2 (.box (.c (.agg [.int .i64 0,.int .i64 0,.sl true 0 [],.sl true 0 []]))),
 oO 3 (.mov (.c (.int .i64 0)))])
 (.seq (.seq (.region [oO 5 (.load true 4 (.t 1)),
 oO 6 (.call 15 [(.t 5)]),
 oO 4 (.mov (.t 6))])
 (.seq (.region [oO 7 (.mov (.t 4)),
 oO 8 (.bin .neq (.t 7) (.c (.int .i64 0)))])
 (.cond (.t 8)
 (.seq (.region [oO 9 (.build [.int .i64 0,.int .i64 0,.sl true 0 [],.sl true 0 []] []),
 oO 10 (.mov (.t 4)),
 ⟨none,.store 4 (.t 2) (.t 9),none⟩,
 oO 3 (.mov (.t 10))])
 (.ret))
 (.skip))))
 (.seq (.draw 5 [oO 11 (.load true 4 (.t 1)),
 oO 12 (.load true 4 (.t 1)),
 oO 13 (.call 58 [(.t 12)]),
 oO 14 (.load true 4 (.t 1)),
 oO 15 (.call 59 [(.t 14)]),
 oO 16 (.call 57 [(.t 11),(.t 13),(.t 15)]),
 ⟨none,.store 4 (.t 2) (.t 16),none⟩,
 oO 3 (.mov (.c (.int .i64 0)))])
 (.ret))),
 [.cell 2 true 4,.tmp 3]⟩
def xRK : ACode :=
 .seq (.seq (.region [oO 29 (.mov (.t 9)),
 oO 30 (.bin .geq (.t 29) (.c (.int .i64 0)))])
 (.cond (.t 30)
 (.skip)
 (.exit 0)))
 (.seq (.block 1 (.draw 5 [oO 33 (.load false 1 (.t 8)),
 oO 34 (.load false 1 (.t 6)),
 oO 35 (.mov (.t 9)),
 oO 36 (.iaddr 1 (.t 34) (.t 35)),
 oO 37 (.load false 1 (.t 36)),
 oO 38 (.mov (.t 9)),
 oO 39 (.iaddr 1 (.t 33) (.t 37)),
 ⟨none,.store 1 (.t 39) (.t 38),none⟩]))
 (.region [oO 31 (.mov (.t 9)),
 oO 32 (.bin .sub (.t 31) (.c (.int .i64 1))),
 oO 9 (.mov (.t 32))]))
def xZY : ACode := xRK
def xMU : List Nat := [0,1,3,4,10,11,12,13,14,15,16,17,18,19,20,21,22,23,24,25,26,27,28,29,30,31,32,33,34,35,36,37,38,39,40,41,42,43,44,45,46,47,48,49,50,51,52,53]
abbrev xMV (s2 s5 s6 s7 s8 s9 : AV) : List AV := [.any,.any,s2,.any,.any,s5,s6,s7,s8,s9,.any,.any,.any,.any,.any,.any,.any,.any,.any,.any,.any,.any,.any,.any,.any,.any,.any,.any,.any,.any,.any,.any,.any,.any,.any,.any,.any,.any,.any,.any,.any,.any,.any,.any,.any,.any,.any,.any,.any,.any,.any,.any,.any,.any]
theorem xVH (s0 s1 s2 s3 s4 s5 s6 s7 s8 s9 s10 s11 s12 s13 s14 s15 s16 s17 s18 s19 s20 s21 s22 s23 s24 s25 s26 s27 s28 s29 s30 s31 s32 s33 s34 s35 s36 s37 s38 s39 s40 s41 s42 s43 s44 s45 s46 s47 s48 s49 s50 s51 s52 s53 : AV) : xAm xMU [s0,s1,s2,s3,s4,s5,s6,s7,s8,s9,s10,s11,s12,s13,s14,s15,s16,s17,s18,s19,s20,s21,s22,s23,s24,s25,s26,s27,s28,s29,s30,s31,s32,s33,s34,s35,s36,s37,s38,s39,s40,s41,s42,s43,s44,s45,s46,s47,s48,s49,s50,s51,s52,s53] = xMV s2 s5 s6 s7 s8 s9 := by kernel_rfl
theorem yB5 {prog : Nat → Option AFunc} (s2 s5 s6 s7 s8 s9 : AV) (H : xAc) : (lim prog).loop xMU xZY ⟨xMV s2 s5 s6 s7 s8 s9,H⟩ = xAD (lim prog) xMU xZY (run (lim prog) xRK ⟨xMV s2 s5 s6 s7 s8 s9,H⟩) := xAd _ _ _ _ (by kernel_rfl)
def a23 : AFunc := ⟨54,
 .seq (.region [oO 1 (.box (.t 0)),
 oO 2 (.box (.c (.agg [.int .i64 0,.int .i64 0,.sl true 0 [],.sl true 0 []]))),
 oO 3 (.mov (.c (.int .i64 0)))])
 (.seq (.seq (.region [oO 11 (.load true 4 (.t 1)),
 oO 12 (.call 14 [(.t 11)]),
 oO 4 (.mov (.t 12))])
 (.seq (.region [oO 13 (.mov (.t 4)),
 oO 14 (.bin .neq (.t 13) (.c (.int .i64 0)))])
 (.cond (.t 14)
 (.seq (.region [oO 15 (.build [.int .i64 0,.int .i64 0,.sl true 0 [],.sl true 0 []] []),
 oO 16 (.mov (.t 4)),
 ⟨none,.store 4 (.t 2) (.t 15),none⟩,
 oO 3 (.mov (.t 16))])
 (.ret))
 (.skip))))
 (.seq (.region [oO 17 (.load true 4 (.t 1)),
 oO 18 (.call 56 [(.t 17)]),
 oO 5 (.box (.c (.agg [.int .i64 0,.int .i64 0,.sl true 0 [],.sl true 0 []]))),
 ⟨none,.store 4 (.t 5) (.t 18),none⟩])
 (.seq (.region [oO 20 (.load true 4 (.t 5)),
 oO 21 (.call 60 [(.t 20)]),
 oO 19 (.mov (.t 21)),
 oO 22 (.ext 0 (.t 19)),
 oO 23 (.ext 1 (.t 19)),
 oO 6 (.box (.c (.sl true 0 []))),
 ⟨none,.store 1 (.t 6) (.t 22),none⟩,
 oO 7 (.mov (.t 23))])
 (.seq (.region [oO 24 (.mov (.t 7)),
 oO 25 (.mkslice false [.int .i64 0] 8 (.t 24) (.t 24)),
 oO 8 (.box (.c (.sl true 0 []))),
 ⟨none,.store 1 (.t 8) (.t 25),none⟩])
 (.seq (.seq (.region [oO 26 (.load false 1 (.t 6)),
 oO 27 (.len (.t 26)),
 oO 28 (.bin .sub (.t 27) (.c (.int .i64 1))),
 oO 9 (.mov (.t 28))])
 (.block 0 (.loop xMU xZY)))
 (.seq (.region [oO 40 (.faddr 0 (.t 5)),
 oO 41 (.load false 1 (.t 40)),
 oO 42 (.mov (.t 7)),
 oO 43 (.mkfunc 62 [(.t 6),(.t 5),(.t 8)]),
 oO 44 (.mkfunc 63 [(.t 5),(.t 8)]),
 oO 45 (.icall (.c (.func 61 [])) [(.t 41),(.t 42),(.t 43),(.t 44)]),
 oO 10 (.box (.c (.agg [.int .i64 0,.int .i64 0,.sl true 0 [],.sl true 0 []]))),
 ⟨none,.store 4 (.t 10) (.t 45),none⟩])
 (.seq (.region [oO 46 (.load false 1 (.t 6)),
 oO 47 (.faddr 1 (.t 5)),
 oO 48 (.load false 1 (.t 47)),
 oO 49 (.iaddr 1 (.t 46) (.t 48)),
 oO 50 (.load false 1 (.t 49)),
 oO 51 (.faddr 1 (.t 10)),
 ⟨none,.store 1 (.t 51) (.t 50),none⟩])
 (.seq (.region [oO 52 (.load true 4 (.t 10)),
 oO 53 (.ocallw 56 [(.t 52)]),
 ⟨none,.store 4 (.t 2) (.t 53),none⟩,
 oO 3 (.mov (.c (.int .i64 0)))])
 (.ret))))))))),
 [.cell 2 true 4,.tmp 3]⟩
def xMW : ACode :=
 .seq (.seq (.region [oO 24 (.mov (.t 8)),
 oO 25 (.mov (.t 6)),
 oO 26 (.len (.t 25)),
 oO 27 (.bin .lss (.t 24) (.t 26))])
 (.cond (.t 27)
 (.skip)
 (.exit 0)))
 (.seq (.block 1 (.seq (.region [oO 30 (.mov (.t 6)),
 oO 31 (.mov (.t 8)),
 oO 32 (.iaddr 1 (.t 30) (.t 31)),
 oO 33 (.load false 1 (.t 32)),
 oO 34 (.mov (.t 8)),
 oO 35 (.bin .eql (.t 33) (.t 34))])
 (.cond (.t 35)
 (.region [oO 36 (.mov (.t 7)),
 oO 37 (.mov (.t 8)),
 oO 38 (.bslice true [.int .i64 0] 1 1 [(0,(.t 37))]),
 oO 39 (.append false 1 8 (.t 36) (.t 38)),
 oO 7 (.mov (.t 39))])
 (.skip))))
 (.region [oO 28 (.mov (.t 8)),
 oO 29 (.bin .add (.t 28) (.c (.int .i64 1))),
 oO 8 (.mov (.t 29))]))
def xZZ : ACode := xMW
def xMX : List Nat := [0,1,3,4,9,10,11,12,13,14,15,16,17,18,19,20,21,22,23,24,25,26,27,28,29,30,31,32,33,34,35,36,37,38,39,40,41,42,43,44,45,46,47,48,49]
abbrev xMY (s2 s5 s6 s7 s8 : AV) : List AV := [.any,.any,s2,.any,.any,s5,s6,s7,s8,.any,.any,.any,.any,.any,.any,.any,.any,.any,.any,.any,.any,.any,.any,.any,.any,.any,.any,.any,.any,.any,.any,.any,.any,.any,.any,.any,.any,.any,.any,.any,.any,.any,.any,.any,.any,.any,.any,.any,.any,.any]
theorem xRL (s0 s1 s2 s3 s4 s5 s6 s7 s8 s9 s10 s11 s12 s13 s14 s15 s16 s17 s18 s19 s20 s21 s22 s23 s24 s25 s26 s27 s28 s29 s30 s31 s32 s33 s34 s35 s36 s37 s38 s39 s40 s41 s42 s43 s44 s45 s46 s47 s48 s49 : AV) : xAm xMX [s0,s1,s2,s3,s4,s5,s6,s7,s8,s9,s10,s11,s12,s13,s14,s15,s16,s17,s18,s19,s20,s21,s22,s23,s24,s25,s26,s27,s28,s29,s30,s31,s32,s33,s34,s35,s36,s37,s38,s39,s40,s41,s42,s43,s44,s45,s46,s47,s48,s49] = xMY s2 s5 s6 s7 s8 := by kernel_rfl
theorem xVI {prog : Nat → Option AFunc} (s2 s5 s6 s7 s8 : AV) (H : xAc) : (lim prog).loop xMX xZZ ⟨xMY s2 s5 s6 s7 s8,H⟩ = xAD (lim prog) xMX xZZ (run (lim prog) xMW ⟨xMY s2 s5 s6 s7 s8,H⟩) := xAd _ _ _ _ (by kernel_rfl)
def a24 : AFunc := ⟨50,
 .seq (.region [oO 1 (.box (.t 0)),
 oO 2 (.box (.c (.agg [.int .i64 0,.int .i64 0,.sl true 0 [],.sl true 0 []]))),
 oO 3 (.mov (.c (.int .i64 0)))])
 (.seq (.seq (.region [oO 10 (.load true 4 (.t 1)),
 oO 11 (.call 15 [(.t 10)]),
 oO 4 (.mov (.t 11))])
 (.seq (.region [oO 12 (.mov (.t 4)),
 oO 13 (.bin .neq (.t 12) (.c (.int .i64 0)))])
 (.cond (.t 13)
 (.seq (.region [oO 14 (.build [.int .i64 0,.int .i64 0,.sl true 0 [],.sl true 0 []] []),
 oO 15 (.mov (.t 4)),
 ⟨none,.store 4 (.t 2) (.t 14),none⟩,
 oO 3 (.mov (.t 15))])
 (.ret))
 (.skip))))
 (.seq (.draw 7 [oO 16 (.load true 4 (.t 1)),
 oO 17 (.load true 4 (.t 1)),
 oO 18 (.call 58 [(.t 17)]),
 oO 19 (.load true 4 (.t 1)),
 oO 20 (.call 59 [(.t 19)]),
 oO 21 (.call 57 [(.t 16),(.t 18),(.t 20)]),
 oO 5 (.box (.c (.agg [.int .i64 0,.int .i64 0,.sl true 0 [],.sl true 0 []]))),
 ⟨none,.store 4 (.t 5) (.t 21),none⟩])
 (.seq (.region [oO 22 (.load true 4 (.t 5)),
 oO 23 (.call 64 [(.t 22)]),
 oO 6 (.mov (.t 23))])
 (.seq (.region [oO 7 (.mov (.c (.sl true 0 [])))])
 (.seq (.seq (.region [oO 8 (.mov (.c (.int .i64 0)))])
 (.block 0 (.loop xMX xZZ)))
 (.seq (.region [oO 40 (.load true 4 (.t 5)),
 oO 41 (.mov (.t 7)),
 oO 42 (.mov (.t 6)),
 oO 43 (.call 57 [(.t 40),(.t 41),(.t 42)]),
 oO 9 (.box (.c (.agg [.int .i64 0,.int .i64 0,.sl true 0 [],.sl true 0 []]))),
 ⟨none,.store 4 (.t 9) (.t 43),none⟩])
 (.seq (.draw 5 [oO 44 (.load true 4 (.t 9)),
 oO 45 (.load true 4 (.t 9)),
 oO 46 (.call 58 [(.t 45)]),
 oO 47 (.load true 4 (.t 9)),
 oO 48 (.call 59 [(.t 47)]),
 oO 49 (.call 57 [(.t 44),(.t 46),(.t 48)]),
 ⟨none,.store 4 (.t 2) (.t 49),none⟩,
 oO 3 (.mov (.c (.int .i64 0)))])
 (.ret)))))))),
 [.cell 2 true 4,.tmp 3]⟩
def a25 : AFunc := ⟨18,
 .seq (.region [oO 1 (.box (.t 0)),
 oO 2 (.mov (.c (.sl true 0 []))),
 oO 3 (.mov (.c (.int .i64 0)))])
 (.seq (.seq (.region [oO 7 (.load true 4 (.t 1)),
 oO 8 (.call 14 [(.t 7)]),
 oO 4 (.mov (.t 8))])
 (.seq (.region [oO 9 (.mov (.t 4)),
 oO 10 (.bin .neq (.t 9) (.c (.int .i64 0)))])
 (.cond (.t 10)
 (.seq (.region [oO 11 (.mov (.t 4)),
 oO 2 (.mov (.c (.sl true 0 []))),
 oO 3 (.mov (.t 11))])
 (.ret))
 (.skip))))
 (.seq (.region [oO 13 (.load true 4 (.t 1)),
 oO 14 (.ocallw 60 [(.t 13)]),
 oO 12 (.mov (.t 14)),
 oO 15 (.ext 0 (.t 12)),
 oO 16 (.ext 1 (.t 12)),
 oO 5 (.mov (.t 15)),
 oO 6 (.mov (.t 16))])
 (.seq (.region [oO 17 (.mov (.t 5)),
 oO 2 (.mov (.t 17)),
 oO 3 (.mov (.c (.int .i64 0)))])
 (.ret)))),
 [.tmp 2,.tmp 3]⟩
def xMZ : ACode :=
 .seq (.seq (.region [oO 16 (.mov (.t 8)),
 oO 17 (.mov (.t 5)),
 oO 18 (.len (.t 17)),
 oO 19 (.bin .lss (.t 16) (.t 18))])
 (.cond (.t 19)
 (.skip)
 (.exit 0)))
 (.seq (.block 1 (.seq (.seq (.region [oO 22 (.mov (.t 5)),
 oO 23 (.mov (.t 8)),
 oO 24 (.iaddr 1 (.t 22) (.t 23)),
 oO 25 (.load false 1 (.t 24)),
 oO 26 (.mov (.t 8)),
 oO 27 (.bin .eql (.t 25) (.t 26))])
 (.cond (.t 27)
 (.region [oO 28 (.mov (.t 6)),
 oO 29 (.mov (.t 8)),
 oO 30 (.bslice true [.int .i64 0] 1 1 [(0,(.t 29))]),
 oO 31 (.append false 1 8 (.t 28) (.t 30)),
 oO 6 (.mov (.t 31))])
 (.skip)))
 (.region [oO 32 (.mov (.t 7)),
 oO 33 (.mov (.t 6)),
 oO 34 (.mov (.t 5)),
 oO 35 (.mov (.t 8)),
 oO 36 (.iaddr 1 (.t 34) (.t 35)),
 oO 37 (.load false 1 (.t 36)),
 oO 38 (.call 65 [(.t 33),(.t 37)]),
 oO 39 (.bslice true [.int .i64 0] 1 1 [(0,(.t 38))]),
 oO 40 (.append false 1 8 (.t 32) (.t 39)),
 oO 7 (.mov (.t 40))])))
 (.region [oO 20 (.mov (.t 8)),
 oO 21 (.bin .add (.t 20) (.c (.int .i64 1))),
 oO 8 (.mov (.t 21))]))
def xZ0 : ACode := xMZ
def xM0 : List Nat := [0,1,2,3,4,9,10,11,12,13,14,15,16,17,18,19,20,21,22,23,24,25,26,27,28,29,30,31,32,33,34,35,36,37,38,39,40,41]
abbrev xM1 (s5 s6 s7 s8 : AV) : List AV := [.any,.any,.any,.any,.any,s5,s6,s7,s8,.any,.any,.any,.any,.any,.any,.any,.any,.any,.any,.any,.any,.any,.any,.any,.any,.any,.any,.any,.any,.any,.any,.any,.any,.any,.any,.any,.any,.any,.any,.any,.any,.any]
theorem xRM (s0 s1 s2 s3 s4 s5 s6 s7 s8 s9 s10 s11 s12 s13 s14 s15 s16 s17 s18 s19 s20 s21 s22 s23 s24 s25 s26 s27 s28 s29 s30 s31 s32 s33 s34 s35 s36 s37 s38 s39 s40 s41 : AV) : xAm xM0 [s0,s1,s2,s3,s4,s5,s6,s7,s8,s9,s10,s11,s12,s13,s14,s15,s16,s17,s18,s19,s20,s21,s22,s23,s24,s25,s26,s27,s28,s29,s30,s31,s32,s33,s34,s35,s36,s37,s38,s39,s40,s41] = xM1 s5 s6 s7 s8 := by kernel_rfl
theorem xVJ {prog : Nat → Option AFunc} (s5 s6 s7 s8 : AV) (H : xAc) : (lim prog).loop xM0 xZ0 ⟨xM1 s5 s6 s7 s8,H⟩ = xAD (lim prog) xM0 xZ0 (run (lim prog) xMZ ⟨xM1 s5 s6 s7 s8,H⟩) := xAd _ _ _ _ (by kernel_rfl)
def a26 : AFunc := ⟨42,
 .seq (.region [oO 1 (.box (.t 0)),
 oO 2 (.mov (.c (.sl true 0 []))),
 oO 3 (.mov (.c (.int .i64 0)))])
 (.seq (.seq (.region [oO 9 (.load true 4 (.t 1)),
 oO 10 (.call 15 [(.t 9)]),
 oO 4 (.mov (.t 10))])
 (.seq (.region [oO 11 (.mov (.t 4)),
 oO 12 (.bin .neq (.t 11) (.c (.int .i64 0)))])
 (.cond (.t 12)
 (.seq (.region [oO 13 (.mov (.t 4)),
 oO 2 (.mov (.c (.sl true 0 []))),
 oO 3 (.mov (.t 13))])
 (.ret))
 (.skip))))
 (.seq (.region [oO 14 (.load true 4 (.t 1)),
 oO 15 (.call 64 [(.t 14)]),
 oO 5 (.mov (.t 15))])
 (.seq (.region [oO 6 (.mov (.c (.sl true 0 []))),
 oO 7 (.mov (.c (.sl true 0 [])))])
 (.seq (.seq (.region [oO 8 (.mov (.c (.int .i64 0)))])
 (.block 0 (.loop xM0 xZ0)))
 (.seq (.region [oO 41 (.mov (.t 7)),
 oO 2 (.mov (.t 41)),
 oO 3 (.mov (.c (.int .i64 0)))])
 (.ret)))))),
 [.tmp 2,.tmp 3]⟩
def xRN : ACode :=
 .seq (.region [oO 69 (.bin .lss (.t 68) (.t 67))])
 (.seq (.cond (.t 69)
 (.skip)
 (.exit 4))
 (.seq (.block 5 (.seq (.region [oO 70 (.mov (.t 68)),
 oO 71 (.iaddr 1 (.t 66) (.t 68)),
 oO 72 (.load false 1 (.t 71)),
 oO 12 (.mov (.t 70)),
 oO 13 (.mov (.t 72))])
 (.region [oO 73 (.faddr 4 (.t 7)),
 oO 74 (.load false 1 (.t 73)),
 oO 75 (.mov (.t 8)),
 oO 76 (.mov (.t 10)),
 oO 77 (.mov (.t 13)),
 oO 78 (.mov (.t 12)),
 oO 79 (.conv .u8 (.t 78)),
 oO 80 (.mov (.t 6)),
 oO 81 (.bin .sub (.t 80) (.c (.int .i64 1))),
 oO 82 (.mov (.t 12)),
 oO 83 (.bin .sub (.t 81) (.t 82)),
 oO 84 (.conv .u8 (.t 83)),
 oO 85 (.build [.int .i64 0,.int .i64 0,.int .i64 0,.int .u8 0,.int .u8 0] [(0,1,(.t 75)),(1,1,(.t 76)),(2,1,(.t 77)),(3,1,(.t 79)),(4,1,(.t 84))]),
 oO 86 (.bslice true [.int .i64 0,.int .i64 0,.int .i64 0,.int .u8 0,.int .u8 0] 5 1 [(0,(.t 85))]),
 oO 87 (.append false 5 32 (.t 74) (.t 86)),
 oO 88 (.faddr 4 (.t 7)),
 ⟨none,.store 1 (.t 88) (.t 87),none⟩])))
 (.region [oO 89 (.bin .add (.t 68) (.c (.int .i64 1))),
 oO 68 (.mov (.t 89))])))
def xZ1 : ACode := xRN
def xM2 : List Nat := [0,3,4,5,9,11,12,13,14,15,16,17,18,19,20,21,22,23,24,25,26,27,28,29,30,31,32,33,34,35,36,37,38,39,40,44,45,46,47,48,49,50,51,52,53,54,55,56,57,58,62,63,64,65,69,70,71,72,73,74,75,76,77,78,79,80,81,82,83,84,85,86,87,88,89,90,91,92]
abbrev xM3 (s1 s2 s6 s7 s8 s10 s41 s42 s43 s59 s60 s61 s66 s67 s68 : AV) : List AV := [.any,s1,s2,.any,.any,.any,s6,s7,s8,.any,s10,.any,.any,.any,.any,.any,.any,.any,.any,.any,.any,.any,.any,.any,.any,.any,.any,.any,.any,.any,.any,.any,.any,.any,.any,.any,.any,.any,.any,.any,.any,s41,s42,s43,.any,.any,.any,.any,.any,.any,.any,.any,.any,.any,.any,.any,.any,.any,.any,s59,s60,s61,.any,.any,.any,.any,s66,s67,s68,.any,.any,.any,.any,.any,.any,.any,.any,.any,.any,.any,.any,.any,.any,.any,.any,.any,.any,.any,.any,.any,.any,.any,.any]
theorem xVK (s0 s1 s2 s3 s4 s5 s6 s7 s8 s9 s10 s11 s12 s13 s14 s15 s16 s17 s18 s19 s20 s21 s22 s23 s24 s25 s26 s27 s28 s29 s30 s31 s32 s33 s34 s35 s36 s37 s38 s39 s40 s41 s42 s43 s44 s45 s46 s47 s48 s49 s50 s51 s52 s53 s54 s55 s56 s57 s58 s59 s60 s61 s62 s63 s64 s65 s66 s67 s68 s69 s70 s71 s72 s73 s74 s75 s76 s77 s78 s79 s80 s81 s82 s83 s84 s85 s86 s87 s88 s89 s90 s91 s92 : AV) : xAm xM2 [s0,s1,s2,s3,s4,s5,s6,s7,s8,s9,s10,s11,s12,s13,s14,s15,s16,s17,s18,s19,s20,s21,s22,s23,s24,s25,s26,s27,s28,s29,s30,s31,s32,s33,s34,s35,s36,s37,s38,s39,s40,s41,s42,s43,s44,s45,s46,s47,s48,s49,s50,s51,s52,s53,s54,s55,s56,s57,s58,s59,s60,s61,s62,s63,s64,s65,s66,s67,s68,s69,s70,s71,s72,s73,s74,s75,s76,s77,s78,s79,s80,s81,s82,s83,s84,s85,s86,s87,s88,s89,s90,s91,s92] = xM3 s1 s2 s6 s7 s8 s10 s41 s42 s43 s59 s60 s61 s66 s67 s68 := by kernel_rfl
theorem yB6 {prog : Nat → Option AFunc} (s1 s2 s6 s7 s8 s10 s41 s42 s43 s59 s60 s61 s66 s67 s68 : AV) (H : xAc) : (lim prog).loop xM2 xZ1 ⟨xM3 s1 s2 s6 s7 s8 s10 s41 s42 s43 s59 s60 s61 s66 s67 s68,H⟩ = xAD (lim prog) xM2 xZ1 (run (lim prog) xRN ⟨xM3 s1 s2 s6 s7 s8 s10 s41 s42 s43 s59 s60 s61 s66 s67 s68,H⟩) := xAd _ _ _ _ (by kernel_rfl)
def xRO : ACode :=
 .seq (.region [oO 62 (.bin .lss (.t 61) (.t 60))])
 (.seq (.cond (.t 62)
 (.skip)
 (.exit 2))
 (.seq (.block 3 (.seq (.region [oO 63 (.mov (.t 61)),
 oO 64 (.iaddr 1 (.t 59) (.t 61)),
 oO 65 (.load false 1 (.t 64)),
 oO 10 (.mov (.t 63)),
 oO 11 (.mov (.t 65))])
 (.seq (.region [oO 66 (.mov (.t 11)),
 oO 67 (.len (.t 66)),
 oO 68 (.mov (.c (.int .i64 0)))])
 (.block 4 (.loop xM2 xZ1)))))
 (.region [oO 90 (.bin .add (.t 61) (.c (.int .i64 1))),
 oO 61 (.mov (.t 90))])))
def xZ2 : ACode := xRO
def xM4 : List Nat := [0,3,4,5,9,10,11,12,13,14,15,16,17,18,19,20,21,22,23,24,25,26,27,28,29,30,31,32,33,34,35,36,37,38,39,40,44,45,46,47,48,49,50,51,52,53,54,55,56,57,58,62,63,64,65,66,67,68,69,70,71,72,73,74,75,76,77,78,79,80,81,82,83,84,85,86,87,88,89,90,91,92]
abbrev xM5 (s1 s2 s6 s7 s8 s41 s42 s43 s59 s60 s61 : AV) : List AV := [.any,s1,s2,.any,.any,.any,s6,s7,s8,.any,.any,.any,.any,.any,.any,.any,.any,.any,.any,.any,.any,.any,.any,.any,.any,.any,.any,.any,.any,.any,.any,.any,.any,.any,.any,.any,.any,.any,.any,.any,.any,s41,s42,s43,.any,.any,.any,.any,.any,.any,.any,.any,.any,.any,.any,.any,.any,.any,.any,s59,s60,s61,.any,.any,.any,.any,.any,.any,.any,.any,.any,.any,.any,.any,.any,.any,.any,.any,.any,.any,.any,.any,.any,.any,.any,.any,.any,.any,.any,.any,.any,.any,.any]
theorem xRP (s0 s1 s2 s3 s4 s5 s6 s7 s8 s9 s10 s11 s12 s13 s14 s15 s16 s17 s18 s19 s20 s21 s22 s23 s24 s25 s26 s27 s28 s29 s30 s31 s32 s33 s34 s35 s36 s37 s38 s39 s40 s41 s42 s43 s44 s45 s46 s47 s48 s49 s50 s51 s52 s53 s54 s55 s56 s57 s58 s59 s60 s61 s62 s63 s64 s65 s66 s67 s68 s69 s70 s71 s72 s73 s74 s75 s76 s77 s78 s79 s80 s81 s82 s83 s84 s85 s86 s87 s88 s89 s90 s91 s92 : AV) : xAm xM4 [s0,s1,s2,s3,s4,s5,s6,s7,s8,s9,s10,s11,s12,s13,s14,s15,s16,s17,s18,s19,s20,s21,s22,s23,s24,s25,s26,s27,s28,s29,s30,s31,s32,s33,s34,s35,s36,s37,s38,s39,s40,s41,s42,s43,s44,s45,s46,s47,s48,s49,s50,s51,s52,s53,s54,s55,s56,s57,s58,s59,s60,s61,s62,s63,s64,s65,s66,s67,s68,s69,s70,s71,s72,s73,s74,s75,s76,s77,s78,s79,s80,s81,s82,s83,s84,s85,s86,s87,s88,s89,s90,s91,s92] = xM5 s1 s2 s6 s7 s8 s41 s42 s43 s59 s60 s61 := by kernel_rfl
theorem yB7 {prog : Nat → Option AFunc} (s1 s2 s6 s7 s8 s41 s42 s43 s59 s60 s61 : AV) (H : xAc) : (lim prog).loop xM4 xZ2 ⟨xM5 s1 s2 s6 s7 s8 s41 s42 s43 s59 s60 s61,H⟩ = xAD (lim prog) xM4 xZ2 (run (lim prog) xRO ⟨xM5 s1 s2 s6 s7 s8 s41 s42 s43 s59 s60 s61,H⟩) := xAd _ _ _ _ (by kernel_rfl)
def xM6 : ACode :=
 .seq (.region [oO 44 (.bin .lss (.t 43) (.t 42))])
 (.seq (.cond (.t 44)
 (.skip)
 (.exit 0))
 (.seq (.block 1 (.seq (.region [oO 45 (.mov (.t 43)),
 oO 46 (.iaddr 1 (.t 41) (.t 43)),
 oO 47 (.load false 1 (.t 46)),
 oO 8 (.mov (.t 45)),
 oO 9 (.mov (.t 47))])
 (.seq (.seq (.region [oO 48 (.faddr 3 (.t 1)),
 oO 49 (.load false 1 (.t 48)),
 oO 50 (.mov (.t 8)),
 oO 51 (.iaddr 1 (.t 49) (.t 50)),
 oO 52 (.load false 1 (.t 51))])
 (.cond (.t 52)
 (.region [oO 53 (.faddr 3 (.t 7)),
 oO 54 (.load false 1 (.t 53)),
 oO 55 (.mov (.t 8)),
 oO 56 (.bslice true [.int .i64 0] 1 1 [(0,(.t 55))]),
 oO 57 (.append false 1 8 (.t 54) (.t 56)),
 oO 58 (.faddr 3 (.t 7)),
 ⟨none,.store 1 (.t 58) (.t 57),none⟩])
 (.skip)))
 (.seq (.region [oO 59 (.mov (.t 9)),
 oO 60 (.len (.t 59)),
 oO 61 (.mov (.c (.int .i64 0)))])
 (.block 2 (.loop xM4 xZ2))))))
 (.region [oO 91 (.bin .add (.t 43) (.c (.int .i64 1))),
 oO 43 (.mov (.t 91))])))
def xZ3 : ACode := xM6
def xM7 : List Nat := [0,3,4,5,8,9,10,11,12,13,14,15,16,17,18,19,20,21,22,23,24,25,26,27,28,29,30,31,32,33,34,35,36,37,38,39,40,44,45,46,47,48,49,50,51,52,53,54,55,56,57,58,59,60,61,62,63,64,65,66,67,68,69,70,71,72,73,74,75,76,77,78,79,80,81,82,83,84,85,86,87,88,89,90,91,92]
abbrev xM8 (s1 s2 s6 s7 s41 s42 s43 : AV) : List AV := [.any,s1,s2,.any,.any,.any,s6,s7,.any,.any,.any,.any,.any,.any,.any,.any,.any,.any,.any,.any,.any,.any,.any,.any,.any,.any,.any,.any,.any,.any,.any,.any,.any,.any,.any,.any,.any,.any,.any,.any,.any,s41,s42,s43,.any,.any,.any,.any,.any,.any,.any,.any,.any,.any,.any,.any,.any,.any,.any,.any,.any,.any,.any,.any,.any,.any,.any,.any,.any,.any,.any,.any,.any,.any,.any,.any,.any,.any,.any,.any,.any,.any,.any,.any,.any,.any,.any,.any,.any,.any,.any,.any,.any]
theorem xRQ (s0 s1 s2 s3 s4 s5 s6 s7 s8 s9 s10 s11 s12 s13 s14 s15 s16 s17 s18 s19 s20 s21 s22 s23 s24 s25 s26 s27 s28 s29 s30 s31 s32 s33 s34 s35 s36 s37 s38 s39 s40 s41 s42 s43 s44 s45 s46 s47 s48 s49 s50 s51 s52 s53 s54 s55 s56 s57 s58 s59 s60 s61 s62 s63 s64 s65 s66 s67 s68 s69 s70 s71 s72 s73 s74 s75 s76 s77 s78 s79 s80 s81 s82 s83 s84 s85 s86 s87 s88 s89 s90 s91 s92 : AV) : xAm xM7 [s0,s1,s2,s3,s4,s5,s6,s7,s8,s9,s10,s11,s12,s13,s14,s15,s16,s17,s18,s19,s20,s21,s22,s23,s24,s25,s26,s27,s28,s29,s30,s31,s32,s33,s34,s35,s36,s37,s38,s39,s40,s41,s42,s43,s44,s45,s46,s47,s48,s49,s50,s51,s52,s53,s54,s55,s56,s57,s58,s59,s60,s61,s62,s63,s64,s65,s66,s67,s68,s69,s70,s71,s72,s73,s74,s75,s76,s77,s78,s79,s80,s81,s82,s83,s84,s85,s86,s87,s88,s89,s90,s91,s92] = xM8 s1 s2 s6 s7 s41 s42 s43 := by kernel_rfl
theorem xVL {prog : Nat → Option AFunc} (s1 s2 s6 s7 s41 s42 s43 : AV) (H : xAc) : (lim prog).loop xM7 xZ3 ⟨xM8 s1 s2 s6 s7 s41 s42 s43,H⟩ = xAD (lim prog) xM7 xZ3 (run (lim prog) xM6 ⟨xM8 s1 s2 s6 s7 s41 s42 s43,H⟩) := xAd _ _ _ _ (by kernel_rfl)
def a27 : AFunc := ⟨93,
 .seq (.region [oO 1 (.box (.t 0)),
 oO 2 (.box (.c (.agg [.int .i64 0,.int .i64 0,.sl true 0 [],.sl true 0 [],.sl true 0 []]))),
 oO 3 (.mov (.c (.int .i64 0)))])
 (.seq (.seq (.region [oO 14 (.load true 4 (.t 1)),
 oO 15 (.call 14 [(.t 14)]),
 oO 4 (.mov (.t 15))])
 (.seq (.region [oO 16 (.mov (.t 4)),
 oO 17 (.bin .neq (.t 16) (.c (.int .i64 0)))])
 (.cond (.t 17)
 (.seq (.region [oO 18 (.build [.int .i64 0,.int .i64 0,.sl true 0 [],.sl true 0 [],.sl true 0 []] []),
 oO 19 (.mov (.t 4)),
 ⟨none,.store 5 (.t 2) (.t 18),none⟩,
 oO 3 (.mov (.t 19))])
 (.ret))
 (.skip))))
 (.seq (.draw 6 [oO 20 (.faddr 2 (.t 1)),
 oO 21 (.load false 1 (.t 20)),
 oO 22 (.len (.t 21)),
 oO 23 (.faddr 0 (.t 1)),
 oO 24 (.load false 1 (.t 23)),
 oO 25 (.bin .shl (.c (.int .i64 1)) (.t 24)),
 oO 5 (.mov (.t 22)),
 oO 6 (.mov (.t 25))])
 (.seq (.seq (.region [oO 26 (.mov (.t 5)),
 oO 27 (.mov (.t 5)),
 oO 28 (.bin .mul (.t 26) (.t 27)),
 oO 29 (.mov (.t 6)),
 oO 30 (.bin .mul (.t 28) (.t 29)),
 oO 31 (.bin .gtr (.t 30) (.c (.int .i64 512)))])
 (.cond (.t 31)
 (.seq (.region [oO 32 (.build [.int .i64 0,.int .i64 0,.sl true 0 [],.sl true 0 [],.sl true 0 []] []),
 ⟨none,.store 5 (.t 2) (.t 32),none⟩,
 oO 3 (.mov (.c (.int .i64 4)))])
 (.ret))
 (.skip)))
 (.seq (.region [oO 33 (.faddr 0 (.t 1)),
 oO 34 (.load false 1 (.t 33)),
 oO 35 (.mov (.t 5)),
 oO 36 (.faddr 1 (.t 1)),
 oO 37 (.load false 1 (.t 36)),
 oO 38 (.bslice false [.int .i64 0] 1 1 [(0,(.t 37))]),
 oO 39 (.build [.int .i64 0,.int .i64 0,.sl true 0 [],.sl true 0 [],.sl true 0 []] [(0,1,(.t 34)),(1,1,(.t 35)),(2,1,(.t 38))]),
 oO 7 (.box (.c (.agg [.int .i64 0,.int .i64 0,.sl true 0 [],.sl true 0 [],.sl true 0 []]))),
 ⟨none,.store 5 (.t 7) (.t 39),none⟩])
 (.seq (.seq (.region [oO 40 (.faddr 2 (.t 1)),
 oO 41 (.load false 1 (.t 40)),
 oO 42 (.len (.t 41)),
 oO 43 (.mov (.c (.int .i64 0)))])
 (.block 0 (.loop xM7 xZ3)))
 (.seq (.region [oO 92 (.load true 5 (.t 7)),
 ⟨none,.store 5 (.t 2) (.t 92),none⟩,
 oO 3 (.mov (.c (.int .i64 0)))])
 (.ret))))))),
 [.cell 2 true 5,.tmp 3]⟩
def xM9 : ACode :=
 .seq (.seq (.region [oO 38 (.mov (.t 8)),
 oO 39 (.mov (.t 5)),
 oO 40 (.bin .lss (.t 38) (.t 39))])
 (.cond (.t 40)
 (.skip)
 (.exit 0)))
 (.seq (.block 1 (.seq (.region [oO 43 (.faddr 3 (.t 1)),
 oO 44 (.load false 1 (.t 43)),
 oO 45 (.mov (.t 8)),
 oO 46 (.iaddr 1 (.t 44) (.t 45)),
 oO 47 (.load false 1 (.t 46))])
 (.cond (.t 47)
 (.region [oO 48 (.faddr 3 (.t 7)),
 oO 49 (.load false 1 (.t 48)),
 oO 50 (.mov (.t 8)),
 oO 51 (.bslice true [.int .i64 0] 1 1 [(0,(.t 50))]),
 oO 52 (.append false 1 8 (.t 49) (.t 51)),
 oO 53 (.faddr 3 (.t 7)),
 ⟨none,.store 1 (.t 53) (.t 52),none⟩])
 (.skip))))
 (.region [oO 41 (.mov (.t 8)),
 oO 42 (.bin .add (.t 41) (.c (.int .i64 1))),
 oO 8 (.mov (.t 42))]))
def xZ4 : ACode := xM9
def xNa : List Nat := [0,3,4,9,10,11,12,13,14,15,16,17,18,19,20,21,22,23,24,25,26,27,28,29,30,31,32,33,34,35,36,37,38,39,40,41,42,43,44,45,46,47,48,49,50,51,52,53,54,55,56,57,58,59,60,61,62,63,64,65,66,67,68,69,70,71,72,73,74,75,76,77,78,79,80,81,82,83,84,85,86,87,88,89,90,91,92,93,94,95]
abbrev xNb (s1 s2 s5 s6 s7 s8 : AV) : List AV := [.any,s1,s2,.any,.any,s5,s6,s7,s8,.any,.any,.any,.any,.any,.any,.any,.any,.any,.any,.any,.any,.any,.any,.any,.any,.any,.any,.any,.any,.any,.any,.any,.any,.any,.any,.any,.any,.any,.any,.any,.any,.any,.any,.any,.any,.any,.any,.any,.any,.any,.any,.any,.any,.any,.any,.any,.any,.any,.any,.any,.any,.any,.any,.any,.any,.any,.any,.any,.any,.any,.any,.any,.any,.any,.any,.any,.any,.any,.any,.any,.any,.any,.any,.any,.any,.any,.any,.any,.any,.any,.any,.any,.any,.any,.any,.any]
theorem xRR (s0 s1 s2 s3 s4 s5 s6 s7 s8 s9 s10 s11 s12 s13 s14 s15 s16 s17 s18 s19 s20 s21 s22 s23 s24 s25 s26 s27 s28 s29 s30 s31 s32 s33 s34 s35 s36 s37 s38 s39 s40 s41 s42 s43 s44 s45 s46 s47 s48 s49 s50 s51 s52 s53 s54 s55 s56 s57 s58 s59 s60 s61 s62 s63 s64 s65 s66 s67 s68 s69 s70 s71 s72 s73 s74 s75 s76 s77 s78 s79 s80 s81 s82 s83 s84 s85 s86 s87 s88 s89 s90 s91 s92 s93 s94 s95 : AV) : xAm xNa [s0,s1,s2,s3,s4,s5,s6,s7,s8,s9,s10,s11,s12,s13,s14,s15,s16,s17,s18,s19,s20,s21,s22,s23,s24,s25,s26,s27,s28,s29,s30,s31,s32,s33,s34,s35,s36,s37,s38,s39,s40,s41,s42,s43,s44,s45,s46,s47,s48,s49,s50,s51,s52,s53,s54,s55,s56,s57,s58,s59,s60,s61,s62,s63,s64,s65,s66,s67,s68,s69,s70,s71,s72,s73,s74,s75,s76,s77,s78,s79,s80,s81,s82,s83,s84,s85,s86,s87,s88,s89,s90,s91,s92,s93,s94,s95] = xNb s1 s2 s5 s6 s7 s8 := by kernel_rfl
theorem xVM {prog : Nat → Option AFunc} (s1 s2 s5 s6 s7 s8 : AV) (H : xAc) : (lim prog).loop xNa xZ4 ⟨xNb s1 s2 s5 s6 s7 s8,H⟩ = xAD (lim prog) xNa xZ4 (run (lim prog) xM9 ⟨xNb s1 s2 s5 s6 s7 s8,H⟩) := xAd _ _ _ _ (by kernel_rfl)
def xRS : ACode :=
 .seq (.seq (.region [oO 64 (.mov (.t 11)),
 oO 65 (.mov (.t 6)),
 oO 66 (.bin .lss (.t 64) (.t 65))])
 (.cond (.t 66)
 (.skip)
 (.exit 6)))
 (.seq (.block 7 (.draw 19 [oO 69 (.faddr 4 (.t 7)),
 oO 70 (.load false 1 (.t 69)),
 oO 71 (.mov (.t 9)),
 oO 72 (.mov (.t 10)),
 oO 73 (.faddr 2 (.t 1)),
 oO 74 (.load false 1 (.t 73)),
 oO 75 (.mov (.t 9)),
 oO 76 (.iaddr 1 (.t 74) (.t 75)),
 oO 77 (.load false 1 (.t 76)),
 oO 78 (.mov (.t 10)),
 oO 79 (.iaddr 1 (.t 77) (.t 78)),
 oO 80 (.load false 1 (.t 79)),
 oO 81 (.mov (.t 11)),
 oO 82 (.iaddr 1 (.t 80) (.t 81)),
 oO 83 (.load false 1 (.t 82)),
 oO 84 (.mov (.t 11)),
 oO 85 (.conv .u8 (.t 84)),
 oO 86 (.mov (.t 6)),
 oO 87 (.bin .sub (.t 86) (.c (.int .i64 1))),
 oO 88 (.mov (.t 11)),
 oO 89 (.bin .sub (.t 87) (.t 88)),
 oO 90 (.conv .u8 (.t 89)),
 oO 91 (.build [.int .i64 0,.int .i64 0,.int .i64 0,.int .u8 0,.int .u8 0] [(0,1,(.t 71)),(1,1,(.t 72)),(2,1,(.t 83)),(3,1,(.t 85)),(4,1,(.t 90))]),
 oO 92 (.bslice true [.int .i64 0,.int .i64 0,.int .i64 0,.int .u8 0,.int .u8 0] 5 1 [(0,(.t 91))]),
 oO 93 (.append false 5 32 (.t 70) (.t 92)),
 oO 94 (.faddr 4 (.t 7)),
 ⟨none,.store 1 (.t 94) (.t 93),none⟩]))
 (.region [oO 67 (.mov (.t 11)),
 oO 68 (.bin .add (.t 67) (.c (.int .i64 1))),
 oO 11 (.mov (.t 68))]))
def xZ5 : ACode := xRS
def xNc : List Nat := [0,3,4,8,12,13,14,15,16,17,18,19,20,21,22,23,24,25,26,27,28,29,30,31,32,33,34,35,36,37,38,39,40,41,42,43,44,45,46,47,48,49,50,51,52,53,54,55,56,57,58,59,60,61,62,63,64,65,66,67,68,69,70,71,72,73,74,75,76,77,78,79,80,81,82,83,84,85,86,87,88,89,90,91,92,93,94,95]
abbrev xNd (s1 s2 s5 s6 s7 s9 s10 s11 : AV) : List AV := [.any,s1,s2,.any,.any,s5,s6,s7,.any,s9,s10,s11,.any,.any,.any,.any,.any,.any,.any,.any,.any,.any,.any,.any,.any,.any,.any,.any,.any,.any,.any,.any,.any,.any,.any,.any,.any,.any,.any,.any,.any,.any,.any,.any,.any,.any,.any,.any,.any,.any,.any,.any,.any,.any,.any,.any,.any,.any,.any,.any,.any,.any,.any,.any,.any,.any,.any,.any,.any,.any,.any,.any,.any,.any,.any,.any,.any,.any,.any,.any,.any,.any,.any,.any,.any,.any,.any,.any,.any,.any,.any,.any,.any,.any,.any,.any]
theorem xVN (s0 s1 s2 s3 s4 s5 s6 s7 s8 s9 s10 s11 s12 s13 s14 s15 s16 s17 s18 s19 s20 s21 s22 s23 s24 s25 s26 s27 s28 s29 s30 s31 s32 s33 s34 s35 s36 s37 s38 s39 s40 s41 s42 s43 s44 s45 s46 s47 s48 s49 s50 s51 s52 s53 s54 s55 s56 s57 s58 s59 s60 s61 s62 s63 s64 s65 s66 s67 s68 s69 s70 s71 s72 s73 s74 s75 s76 s77 s78 s79 s80 s81 s82 s83 s84 s85 s86 s87 s88 s89 s90 s91 s92 s93 s94 s95 : AV) : xAm xNc [s0,s1,s2,s3,s4,s5,s6,s7,s8,s9,s10,s11,s12,s13,s14,s15,s16,s17,s18,s19,s20,s21,s22,s23,s24,s25,s26,s27,s28,s29,s30,s31,s32,s33,s34,s35,s36,s37,s38,s39,s40,s41,s42,s43,s44,s45,s46,s47,s48,s49,s50,s51,s52,s53,s54,s55,s56,s57,s58,s59,s60,s61,s62,s63,s64,s65,s66,s67,s68,s69,s70,s71,s72,s73,s74,s75,s76,s77,s78,s79,s80,s81,s82,s83,s84,s85,s86,s87,s88,s89,s90,s91,s92,s93,s94,s95] = xNd s1 s2 s5 s6 s7 s9 s10 s11 := by kernel_rfl
theorem yB8 {prog : Nat → Option AFunc} (s1 s2 s5 s6 s7 s9 s10 s11 : AV) (H : xAc) : (lim prog).loop xNc xZ5 ⟨xNd s1 s2 s5 s6 s7 s9 s10 s11,H⟩ = xAD (lim prog) xNc xZ5 (run (lim prog) xRS ⟨xNd s1 s2 s5 s6 s7 s9 s10 s11,H⟩) := xAd _ _ _ _ (by kernel_rfl)
def xRT : ACode :=
 .seq (.seq (.region [oO 59 (.mov (.t 10)),
 oO 60 (.mov (.t 5)),
 oO 61 (.bin .lss (.t 59) (.t 60))])
 (.cond (.t 61)
 (.skip)
 (.exit 4)))
 (.seq (.block 5 (.seq (.region [oO 11 (.mov (.c (.int .i64 0)))])
 (.block 6 (.loop xNc xZ5))))
 (.region [oO 62 (.mov (.t 10)),
 oO 63 (.bin .add (.t 62) (.c (.int .i64 1))),
 oO 10 (.mov (.t 63))]))
def xZ6 : ACode := xRT
def xNe : List Nat := [0,3,4,8,11,12,13,14,15,16,17,18,19,20,21,22,23,24,25,26,27,28,29,30,31,32,33,34,35,36,37,38,39,40,41,42,43,44,45,46,47,48,49,50,51,52,53,54,55,56,57,58,59,60,61,62,63,64,65,66,67,68,69,70,71,72,73,74,75,76,77,78,79,80,81,82,83,84,85,86,87,88,89,90,91,92,93,94,95]
abbrev xNf (s1 s2 s5 s6 s7 s9 s10 : AV) : List AV := [.any,s1,s2,.any,.any,s5,s6,s7,.any,s9,s10,.any,.any,.any,.any,.any,.any,.any,.any,.any,.any,.any,.any,.any,.any,.any,.any,.any,.any,.any,.any,.any,.any,.any,.any,.any,.any,.any,.any,.any,.any,.any,.any,.any,.any,.any,.any,.any,.any,.any,.any,.any,.any,.any,.any,.any,.any,.any,.any,.any,.any,.any,.any,.any,.any,.any,.any,.any,.any,.any,.any,.any,.any,.any,.any,.any,.any,.any,.any,.any,.any,.any,.any,.any,.any,.any,.any,.any,.any,.any,.any,.any,.any,.any,.any,.any]
theorem xVO (s0 s1 s2 s3 s4 s5 s6 s7 s8 s9 s10 s11 s12 s13 s14 s15 s16 s17 s18 s19 s20 s21 s22 s23 s24 s25 s26 s27 s28 s29 s30 s31 s32 s33 s34 s35 s36 s37 s38 s39 s40 s41 s42 s43 s44 s45 s46 s47 s48 s49 s50 s51 s52 s53 s54 s55 s56 s57 s58 s59 s60 s61 s62 s63 s64 s65 s66 s67 s68 s69 s70 s71 s72 s73 s74 s75 s76 s77 s78 s79 s80 s81 s82 s83 s84 s85 s86 s87 s88 s89 s90 s91 s92 s93 s94 s95 : AV) : xAm xNe [s0,s1,s2,s3,s4,s5,s6,s7,s8,s9,s10,s11,s12,s13,s14,s15,s16,s17,s18,s19,s20,s21,s22,s23,s24,s25,s26,s27,s28,s29,s30,s31,s32,s33,s34,s35,s36,s37,s38,s39,s40,s41,s42,s43,s44,s45,s46,s47,s48,s49,s50,s51,s52,s53,s54,s55,s56,s57,s58,s59,s60,s61,s62,s63,s64,s65,s66,s67,s68,s69,s70,s71,s72,s73,s74,s75,s76,s77,s78,s79,s80,s81,s82,s83,s84,s85,s86,s87,s88,s89,s90,s91,s92,s93,s94,s95] = xNf s1 s2 s5 s6 s7 s9 s10 := by kernel_rfl
theorem yB9 {prog : Nat → Option AFunc} (s1 s2 s5 s6 s7 s9 s10 : AV) (H : xAc) : (lim prog).loop xNe xZ6 ⟨xNf s1 s2 s5 s6 s7 s9 s10,H⟩ = xAD (lim prog) xNe xZ6 (run (lim prog) xRT ⟨xNf s1 s2 s5 s6 s7 s9 s10,H⟩) := xAd _ _ _ _ (by kernel_rfl)
def xRU : ACode :=
 .seq (.seq (.region [oO 54 (.mov (.t 9)),
 oO 55 (.mov (.t 5)),
 oO 56 (.bin .lss (.t 54) (.t 55))])
 (.cond (.t 56)
 (.skip)
 (.exit 2)))
 (.seq (.block 3 (.seq (.region [oO 10 (.mov (.c (.int .i64 0)))])
 (.block 4 (.loop xNe xZ6))))
 (.region [oO 57 (.mov (.t 9)),
 oO 58 (.bin .add (.t 57) (.c (.int .i64 1))),
 oO 9 (.mov (.t 58))]))
def xZ7 : ACode := xRU
def xNg : List Nat := [0,3,4,8,10,11,12,13,14,15,16,17,18,19,20,21,22,23,24,25,26,27,28,29,30,31,32,33,34,35,36,37,38,39,40,41,42,43,44,45,46,47,48,49,50,51,52,53,54,55,56,57,58,59,60,61,62,63,64,65,66,67,68,69,70,71,72,73,74,75,76,77,78,79,80,81,82,83,84,85,86,87,88,89,90,91,92,93,94,95]
abbrev xNh (s1 s2 s5 s6 s7 s9 : AV) : List AV := [.any,s1,s2,.any,.any,s5,s6,s7,.any,s9,.any,.any,.any,.any,.any,.any,.any,.any,.any,.any,.any,.any,.any,.any,.any,.any,.any,.any,.any,.any,.any,.any,.any,.any,.any,.any,.any,.any,.any,.any,.any,.any,.any,.any,.any,.any,.any,.any,.any,.any,.any,.any,.any,.any,.any,.any,.any,.any,.any,.any,.any,.any,.any,.any,.any,.any,.any,.any,.any,.any,.any,.any,.any,.any,.any,.any,.any,.any,.any,.any,.any,.any,.any,.any,.any,.any,.any,.any,.any,.any,.any,.any,.any,.any,.any,.any]
theorem xVP (s0 s1 s2 s3 s4 s5 s6 s7 s8 s9 s10 s11 s12 s13 s14 s15 s16 s17 s18 s19 s20 s21 s22 s23 s24 s25 s26 s27 s28 s29 s30 s31 s32 s33 s34 s35 s36 s37 s38 s39 s40 s41 s42 s43 s44 s45 s46 s47 s48 s49 s50 s51 s52 s53 s54 s55 s56 s57 s58 s59 s60 s61 s62 s63 s64 s65 s66 s67 s68 s69 s70 s71 s72 s73 s74 s75 s76 s77 s78 s79 s80 s81 s82 s83 s84 s85 s86 s87 s88 s89 s90 s91 s92 s93 s94 s95 : AV) : xAm xNg [s0,s1,s2,s3,s4,s5,s6,s7,s8,s9,s10,s11,s12,s13,s14,s15,s16,s17,s18,s19,s20,s21,s22,s23,s24,s25,s26,s27,s28,s29,s30,s31,s32,s33,s34,s35,s36,s37,s38,s39,s40,s41,s42,s43,s44,s45,s46,s47,s48,s49,s50,s51,s52,s53,s54,s55,s56,s57,s58,s59,s60,s61,s62,s63,s64,s65,s66,s67,s68,s69,s70,s71,s72,s73,s74,s75,s76,s77,s78,s79,s80,s81,s82,s83,s84,s85,s86,s87,s88,s89,s90,s91,s92,s93,s94,s95] = xNh s1 s2 s5 s6 s7 s9 := by kernel_rfl
theorem yCa {prog : Nat → Option AFunc} (s1 s2 s5 s6 s7 s9 : AV) (H : xAc) : (lim prog).loop xNg xZ7 ⟨xNh s1 s2 s5 s6 s7 s9,H⟩ = xAD (lim prog) xNg xZ7 (run (lim prog) xRU ⟨xNh s1 s2 s5 s6 s7 s9,H⟩) := xAd _ _ _ _ (by kernel_rfl)
def a28 : AFunc := ⟨96,
 .seq (.region [oO 1 (.box (.t 0)),
 oO 2 (.box (.c (.agg [.int .i64 0,.int .i64 0,.sl true 0 [],.sl true 0 [],.sl true 0 []]))),
 oO 3 (.mov (.c (.int .i64 0)))])
 (.seq (.seq (.region [oO 12 (.load true 4 (.t 1)),
 oO 13 (.call 15 [(.t 12)]),
 oO 4 (.mov (.t 13))])
 (.seq (.region [oO 14 (.mov (.t 4)),
 oO 15 (.bin .neq (.t 14) (.c (.int .i64 0)))])
 (.cond (.t 15)
 (.seq (.region [oO 16 (.build [.int .i64 0,.int .i64 0,.sl true 0 [],.sl true 0 [],.sl true 0 []] []),
 oO 17 (.mov (.t 4)),
 ⟨none,.store 5 (.t 2) (.t 16),none⟩,
 oO 3 (.mov (.t 17))])
 (.ret))
 (.skip))))
 (.seq (.draw 6 [oO 18 (.faddr 2 (.t 1)),
 oO 19 (.load false 1 (.t 18)),
 oO 20 (.len (.t 19)),
 oO 21 (.faddr 0 (.t 1)),
 oO 22 (.load false 1 (.t 21)),
 oO 23 (.bin .shl (.c (.int .i64 1)) (.t 22)),
 oO 5 (.mov (.t 20)),
 oO 6 (.mov (.t 23))])
 (.seq (.seq (.region [oO 24 (.mov (.t 5)),
 oO 25 (.mov (.t 5)),
 oO 26 (.bin .mul (.t 24) (.t 25)),
 oO 27 (.mov (.t 6)),
 oO 28 (.bin .mul (.t 26) (.t 27)),
 oO 29 (.bin .gtr (.t 28) (.c (.int .i64 512)))])
 (.cond (.t 29)
 (.seq (.region [oO 30 (.build [.int .i64 0,.int .i64 0,.sl true 0 [],.sl true 0 [],.sl true 0 []] []),
 ⟨none,.store 5 (.t 2) (.t 30),none⟩,
 oO 3 (.mov (.c (.int .i64 4)))])
 (.ret))
 (.skip)))
 (.seq (.region [oO 31 (.faddr 0 (.t 1)),
 oO 32 (.load false 1 (.t 31)),
 oO 33 (.mov (.t 5)),
 oO 34 (.faddr 1 (.t 1)),
 oO 35 (.load false 1 (.t 34)),
 oO 36 (.bslice true [.int .i64 0] 1 1 [(0,(.t 35))]),
 oO 37 (.build [.int .i64 0,.int .i64 0,.sl true 0 [],.sl true 0 [],.sl true 0 []] [(0,1,(.t 32)),(1,1,(.t 33)),(2,1,(.t 36))]),
 oO 7 (.box (.c (.agg [.int .i64 0,.int .i64 0,.sl true 0 [],.sl true 0 [],.sl true 0 []]))),
 ⟨none,.store 5 (.t 7) (.t 37),none⟩])
 (.seq (.seq (.region [oO 8 (.mov (.c (.int .i64 0)))])
 (.block 0 (.loop xNa xZ4)))
 (.seq (.seq (.region [oO 9 (.mov (.c (.int .i64 0)))])
 (.block 2 (.loop xNg xZ7)))
 (.seq (.region [oO 95 (.load true 5 (.t 7)),
 ⟨none,.store 5 (.t 2) (.t 95),none⟩,
 oO 3 (.mov (.c (.int .i64 0)))])
 (.ret)))))))),
 [.cell 2 true 5,.tmp 3]⟩
def a29 : AFunc := ⟨31,
 .seq (.region [oO 2 (.box (.t 0)),
 oO 3 (.box (.t 1)),
 oO 4 (.mov (.c (.bool false)))])
 (.seq (.region [oO 5 (.faddr 0 (.t 2)),
 oO 6 (.load false 1 (.t 5)),
 oO 7 (.faddr 0 (.t 3)),
 oO 8 (.load false 1 (.t 7)),
 oO 9 (.bin .eql (.t 6) (.t 8)),
 oO 10 (.mov (.t 9)),
 ⟨some 11,.faddr 1 (.t 2),some (10,true)⟩,
 ⟨some 12,.load false 1 (.t 11),some (10,true)⟩,
 ⟨some 13,.faddr 1 (.t 3),some (10,true)⟩,
 ⟨some 14,.load false 1 (.t 13),some (10,true)⟩,
 ⟨some 15,.bin .eql (.t 12) (.t 14),some (10,true)⟩,
 oO 16 (.pick (.t 10) (.t 15) (.c (.bool false))),
 oO 17 (.mov (.t 16)),
 ⟨some 18,.faddr 2 (.t 2),some (17,true)⟩,
 ⟨some 19,.load false 1 (.t 18),some (17,true)⟩,
 ⟨some 20,.faddr 2 (.t 3),some (17,true)⟩,
 ⟨some 21,.load false 1 (.t 20),some (17,true)⟩,
 ⟨some 22,.call 66 [(.t 19),(.t 21)],some (17,true)⟩,
 oO 23 (.pick (.t 17) (.t 22) (.c (.bool false))),
 oO 24 (.mov (.t 23)),
 ⟨some 25,.faddr 3 (.t 2),some (24,true)⟩,
 ⟨some 26,.load false 1 (.t 25),some (24,true)⟩,
 ⟨some 27,.faddr 3 (.t 3),some (24,true)⟩,
 ⟨some 28,.load false 1 (.t 27),some (24,true)⟩,
 ⟨some 29,.call 67 [(.t 26),(.t 28)],some (24,true)⟩,
 oO 30 (.pick (.t 24) (.t 29) (.c (.bool false))),
 oO 4 (.mov (.t 30))])
 (.ret)),
 [.tmp 4]⟩
def a30 : AFunc := ⟨38,
 .seq (.region [oO 2 (.box (.t 0)),
 oO 3 (.box (.t 1)),
 oO 4 (.mov (.c (.bool false)))])
 (.seq (.region [oO 5 (.faddr 0 (.t 2)),
 oO 6 (.load false 1 (.t 5)),
 oO 7 (.faddr 0 (.t 3)),
 oO 8 (.load false 1 (.t 7)),
 oO 9 (.bin .eql (.t 6) (.t 8)),
 oO 10 (.mov (.t 9)),
 ⟨some 11,.faddr 1 (.t 2),some (10,true)⟩,
 ⟨some 12,.load false 1 (.t 11),some (10,true)⟩,
 ⟨some 13,.faddr 1 (.t 3),some (10,true)⟩,
 ⟨some 14,.load false 1 (.t 13),some (10,true)⟩,
 ⟨some 15,.bin .eql (.t 12) (.t 14),some (10,true)⟩,
 oO 16 (.pick (.t 10) (.t 15) (.c (.bool false))),
 oO 17 (.mov (.t 16)),
 ⟨some 18,.faddr 2 (.t 2),some (17,true)⟩,
 ⟨some 19,.load false 1 (.t 18),some (17,true)⟩,
 ⟨some 20,.faddr 2 (.t 3),some (17,true)⟩,
 ⟨some 21,.load false 1 (.t 20),some (17,true)⟩,
 ⟨some 22,.call 20 [(.t 19),(.t 21)],some (17,true)⟩,
 oO 23 (.pick (.t 17) (.t 22) (.c (.bool false))),
 oO 24 (.mov (.t 23)),
 ⟨some 25,.faddr 3 (.t 2),some (24,true)⟩,
 ⟨some 26,.load false 1 (.t 25),some (24,true)⟩,
 ⟨some 27,.faddr 3 (.t 3),some (24,true)⟩,
 ⟨some 28,.load false 1 (.t 27),some (24,true)⟩,
 ⟨some 29,.call 20 [(.t 26),(.t 28)],some (24,true)⟩,
 oO 30 (.pick (.t 24) (.t 29) (.c (.bool false))),
 oO 31 (.mov (.t 30)),
 ⟨some 32,.faddr 4 (.t 2),some (31,true)⟩,
 ⟨some 33,.load false 1 (.t 32),some (31,true)⟩,
 ⟨some 34,.faddr 4 (.t 3),some (31,true)⟩,
 ⟨some 35,.load false 1 (.t 34),some (31,true)⟩,
 ⟨some 36,.call 68 [(.t 33),(.t 35)],some (31,true)⟩,
 oO 37 (.pick (.t 31) (.t 36) (.c (.bool false))),
 oO 4 (.mov (.t 37))])
 (.ret)),
 [.tmp 4]⟩
def xRV : ACode :=
 .seq (.seq (.region [oO 11 (.mov (.t 5)),
 oO 12 (.mov (.t 0)),
 oO 13 (.len (.t 12)),
 oO 14 (.bin .lss (.t 11) (.t 13))])
 (.cond (.t 14)
 (.skip)
 (.exit 0)))
 (.seq (.block 1 (.seq (.draw 5 [oO 17 (.mov (.t 0)),
 oO 18 (.mov (.t 5)),
 oO 19 (.iaddr 3 (.t 17) (.t 18)),
 oO 20 (.load true 3 (.t 19)),
 oO 21 (.mov (.t 1)),
 oO 22 (.mov (.t 5)),
 oO 23 (.iaddr 3 (.t 21) (.t 22)),
 oO 24 (.load true 3 (.t 23)),
 oO 25 (.aeq true 3 (.t 20) (.t 24))])
 (.cond (.t 25)
 (.seq (.region [oO 4 (.mov (.c (.bool false)))])
 (.ret))
 (.skip))))
 (.region [oO 15 (.mov (.t 5)),
 oO 16 (.bin .add (.t 15) (.c (.int .i64 1))),
 oO 5 (.mov (.t 16))]))
def xZ8 : ACode := xRV
def xNi : List Nat := [2,3,6,7,8,9,10,11,12,13,14,15,16,17,18,19,20,21,22,23,24,25]
abbrev xNj (s0 s1 s4 s5 : AV) : List AV := [s0,s1,.any,.any,s4,s5,.any,.any,.any,.any,.any,.any,.any,.any,.any,.any,.any,.any,.any,.any,.any,.any,.any,.any,.any,.any]
theorem xVQ (s0 s1 s2 s3 s4 s5 s6 s7 s8 s9 s10 s11 s12 s13 s14 s15 s16 s17 s18 s19 s20 s21 s22 s23 s24 s25 : AV) : xAm xNi [s0,s1,s2,s3,s4,s5,s6,s7,s8,s9,s10,s11,s12,s13,s14,s15,s16,s17,s18,s19,s20,s21,s22,s23,s24,s25] = xNj s0 s1 s4 s5 := by kernel_rfl
theorem yCb {prog : Nat → Option AFunc} (s0 s1 s4 s5 : AV) (H : xAc) : (lim prog).loop xNi xZ8 ⟨xNj s0 s1 s4 s5,H⟩ = xAD (lim prog) xNi xZ8 (run (lim prog) xRV ⟨xNj s0 s1 s4 s5,H⟩) := xAd _ _ _ _ (by kernel_rfl)
def a31 : AFunc := ⟨26,
 .seq (.region [oO 4 (.mov (.c (.bool false)))])
 (.seq (.seq (.region [oO 6 (.mov (.t 0)),
 oO 7 (.len (.t 6)),
 oO 8 (.mov (.t 1)),
 oO 9 (.len (.t 8)),
 oO 10 (.bin .neq (.t 7) (.t 9))])
 (.cond (.t 10)
 (.seq (.region [oO 4 (.mov (.c (.bool false)))])
 (.ret))
 (.skip)))
 (.seq (.seq (.region [oO 5 (.mov (.c (.int .i64 0)))])
 (.block 0 (.loop xNi xZ8)))
 (.seq (.region [oO 4 (.mov (.c (.bool true)))])
 (.ret)))),
 [.tmp 4]⟩
def xG1 : ACode :=
 .seq (.seq (.region [oO 3 (.mov (.t 2)),
 oO 4 (.mov (.t 0)),
 oO 5 (.len (.t 4)),
 oO 6 (.bin .lss (.t 3) (.t 5))])
 (.cond (.t 6)
 (.skip)
 (.exit 0)))
 (.seq (.block 1 (.region [oO 9 (.mov (.t 0)),
 oO 10 (.mov (.t 2)),
 oO 11 (.iaddr 1 (.t 9) (.t 10)),
 ⟨none,.store 1 (.t 11) (.c (.int .i64 (-77))),none⟩]))
 (.region [oO 7 (.mov (.t 2)),
 oO 8 (.bin .add (.t 7) (.c (.int .i64 1))),
 oO 2 (.mov (.t 8))]))
def xUH : ACode := xG1
def xG2 : List Nat := [1,3,4,5,6,7,8,9,10,11]
abbrev xEK (s0 s2 : AV) : List AV := [s0,.any,s2,.any,.any,.any,.any,.any,.any,.any,.any,.any]
theorem xF4 (s0 s1 s2 s3 s4 s5 s6 s7 s8 s9 s10 s11 : AV) : xAm xG2 [s0,s1,s2,s3,s4,s5,s6,s7,s8,s9,s10,s11] = xEK s0 s2 := by kernel_rfl
theorem xNk {prog : Nat → Option AFunc} (s0 s2 : AV) (H : xAc) : (lim prog).loop xG2 xUH ⟨xEK s0 s2,H⟩ = xAD (lim prog) xG2 xUH (run (lim prog) xG1 ⟨xEK s0 s2,H⟩) := xAd _ _ _ _ (by kernel_rfl)
def a32 : AFunc := ⟨12,
 .seq (.region [oO 2 (.mov (.c (.int .i64 0)))])
 (.block 0 (.loop xG2 xUH)),
 []⟩
def a33 : AFunc := ⟨8,
 .seq (.region [oO 1 (.box (.t 0))])
 (.seq (.region [oO 2 (.faddr 2 (.t 1)),
 oO 3 (.load false 1 (.t 2)),
 oO 4 (.icall (.c (.func 69 [])) [(.t 3)])])
 (.region [oO 5 (.faddr 3 (.t 1)),
 oO 6 (.load false 1 (.t 5)),
 oO 7 (.icall (.c (.func 70 [])) [(.t 6)])])),
 []⟩
def a34 : AFunc := ⟨11,
 .seq (.region [oO 1 (.box (.t 0))])
 (.seq (.region [oO 2 (.faddr 2 (.t 1)),
 oO 3 (.load false 1 (.t 2)),
 oO 4 (.icall (.c (.func 32 [])) [(.t 3)])])
 (.seq (.region [oO 5 (.faddr 3 (.t 1)),
 oO 6 (.load false 1 (.t 5)),
 oO 7 (.icall (.c (.func 32 [])) [(.t 6)])])
 (.region [oO 8 (.faddr 4 (.t 1)),
 oO 9 (.load false 1 (.t 8)),
 oO 10 (.icall (.c (.func 71 [])) [(.t 9)])]))),
 []⟩
def a35 : AFunc := ⟨211,
 .seq (.region [oO 0 (.mov (.c (.bool false)))])
 (.seq (.region [oO 28 (.call 41 []),
 oO 1 (.box (.c (.agg [.int .i64 0,.int .i64 0,.sl true 0 [],.sl true 0 []]))),
 ⟨none,.store 4 (.t 1) (.t 28),none⟩])
 (.seq (.region [oO 29 (.build [.int .u8 0,.int .i64 0,.int .i64 0] [(0,1,(.c (.int .u8 1))),(1,1,(.c (.int .i64 (-1)))),(2,1,(.c (.int .i64 (-1))))]),
 oO 30 (.bslice true [.int .u8 0,.int .i64 0,.int .i64 0] 3 1 [(0,(.t 29))]),
 oO 2 (.mov (.t 30))])
 (.seq (.region [oO 32 (.load true 4 (.t 1)),
 oO 33 (.build [.int .u8 0,.int .i64 0,.int .i64 0] [(1,1,(.c (.int .i64 1))),(2,1,(.c (.int .i64 2)))]),
 oO 34 (.build [.int .u8 0,.int .i64 0,.int .i64 0] [(0,1,(.c (.int .u8 1))),(1,1,(.c (.int .i64 (-1)))),(2,1,(.c (.int .i64 (-1))))]),
 oO 35 (.build [.int .u8 0,.int .i64 0,.int .i64 0] [(1,1,(.c (.int .i64 (-1)))),(2,1,(.c (.int .i64 (-1))))]),
 oO 36 (.bslice true [.int .u8 0,.int .i64 0,.int .i64 0] 3 3 [(0,(.t 33)),(1,(.t 34)),(2,(.t 35))]),
 oO 37 (.call 16 [(.t 32),(.t 36)]),
 oO 31 (.mov (.t 37)),
 oO 38 (.ext 0 (.t 31)),
 oO 39 (.ext 1 (.t 31)),
 oO 3 (.mov (.t 38)),
 oO 4 (.mov (.t 39))])
 (.seq (.region [oO 41 (.load true 4 (.t 1)),
 oO 42 (.call 18 [(.t 41),(.c (.sl true 0 []))]),
 oO 40 (.mov (.t 42)),
 oO 43 (.ext 0 (.t 40)),
 oO 44 (.ext 1 (.t 40)),
 oO 5 (.mov (.t 43)),
 oO 6 (.mov (.t 44))])
 (.seq (.region [oO 46 (.load true 4 (.t 1)),
 oO 47 (.mov (.t 2)),
 oO 48 (.call 18 [(.t 46),(.t 47)]),
 oO 45 (.mov (.t 48)),
 oO 49 (.ext 0 (.t 45)),
 oO 50 (.ext 1 (.t 45)),
 oO 7 (.mov (.t 49)),
 oO 8 (.mov (.t 50))])
 (.seq (.region [oO 52 (.load true 4 (.t 1)),
 oO 53 (.call 25 [(.t 52)]),
 oO 51 (.mov (.t 53)),
 oO 54 (.ext 0 (.t 51)),
 oO 55 (.ext 1 (.t 51)),
 oO 9 (.mov (.t 54)),
 oO 10 (.mov (.t 55))])
 (.seq (.region [oO 56 (.bslice true [.bool false] 1 2 [(0,(.c (.bool false))),(1,(.c (.bool true)))]),
 oO 57 (.bslice true [.int .i64 0] 1 2 [(0,(.c (.int .i64 0))),(1,(.c (.int .i64 1)))]),
 oO 58 (.bslice true [.int .i64 0] 1 2 [(0,(.c (.int .i64 1))),(1,(.c (.int .i64 1)))]),
 oO 59 (.bslice true [.sl true 0 []] 1 2 [(0,(.t 57)),(1,(.t 58))]),
 oO 60 (.bslice true [.int .i64 0] 1 2 [(0,(.c (.int .i64 1))),(1,(.c (.int .i64 1)))]),
 oO 61 (.bslice true [.int .i64 0] 1 2 [(0,(.c (.int .i64 1))),(1,(.c (.int .i64 1)))]),
 oO 62 (.bslice true [.sl true 0 []] 1 2 [(0,(.t 60)),(1,(.t 61))]),
 oO 63 (.bslice true [.sl true 0 []] 1 2 [(0,(.t 59)),(1,(.t 62))]),
 oO 64 (.build [.int .i64 0,.int .i64 0,.sl true 0 [],.sl true 0 []] [(0,1,(.c (.int .i64 1))),(3,1,(.t 56)),(2,1,(.t 63))]),
 oO 11 (.box (.c (.agg [.int .i64 0,.int .i64 0,.sl true 0 [],.sl true 0 []]))),
 ⟨none,.store 4 (.t 11) (.t 64),none⟩])
 (.seq (.region [oO 66 (.load true 4 (.t 1)),
 oO 67 (.call 21 [(.t 66)]),
 oO 65 (.mov (.t 67)),
 oO 68 (.ext 0 (.t 65)),
 oO 69 (.ext 1 (.t 65)),
 oO 12 (.box (.c (.agg [.int .i64 0,.int .i64 0,.sl true 0 [],.sl true 0 []]))),
 ⟨none,.store 4 (.t 12) (.t 68),none⟩,
 oO 13 (.mov (.t 69))])
 (.seq (.region [oO 71 (.load true 4 (.t 1)),
 oO 72 (.call 23 [(.t 71)]),
 oO 70 (.mov (.t 72)),
 oO 73 (.ext 0 (.t 70)),
 oO 74 (.ext 1 (.t 70)),
 oO 14 (.box (.c (.agg [.int .i64 0,.int .i64 0,.sl true 0 [],.sl true 0 []]))),
 ⟨none,.store 4 (.t 14) (.t 73),none⟩,
 oO 15 (.mov (.t 74))])
 (.seq (.seq (.region [oO 75 (.mov (.t 3)),
 oO 76 (.bslice true [.int .i64 0] 1 3 [(0,(.c (.int .i64 1))),(1,(.c (.int .i64 1))),(2,(.c (.int .i64 0)))]),
 oO 77 (.call 20 [(.t 75),(.t 76)]),
 oO 78 (.un .not (.t 77)),
 oO 79 (.mov (.t 78)),
 ⟨some 80,.mov (.t 4),some (79,false)⟩,
 ⟨some 81,.bin .neq (.t 80) (.c (.int .i64 0)),some (79,false)⟩,
 oO 82 (.pick (.t 79) (.c (.bool true)) (.t 81)),
 oO 83 (.mov (.t 82)),
 ⟨some 84,.mov (.t 5),some (83,false)⟩,
 oO 85 (.pick (.t 83) (.c (.bool true)) (.t 84)),
 oO 86 (.mov (.t 85)),
 ⟨some 87,.mov (.t 6),some (86,false)⟩,
 ⟨some 88,.bin .neq (.t 87) (.c (.int .i64 0)),some (86,false)⟩,
 oO 89 (.pick (.t 86) (.c (.bool true)) (.t 88)),
 oO 90 (.mov (.t 89)),
 ⟨some 91,.mov (.t 7),some (90,false)⟩,
 ⟨some 92,.un .not (.t 91),some (90,false)⟩,
 oO 93 (.pick (.t 90) (.c (.bool true)) (.t 92)),
 oO 94 (.mov (.t 93)),
 ⟨some 95,.mov (.t 8),some (94,false)⟩,
 ⟨some 96,.bin .neq (.t 95) (.c (.int .i64 0)),some (94,false)⟩,
 oO 97 (.pick (.t 94) (.c (.bool true)) (.t 96)),
 oO 98 (.mov (.t 97)),
 ⟨some 99,.mov (.t 9),some (98,false)⟩,
 ⟨some 100,.bslice true [.int .i64 0] 1 3 [(0,(.c (.int .i64 0))),(1,(.c (.int .i64 1))),(2,(.c (.int .i64 1)))],some (98,false)⟩,
 ⟨some 101,.call 20 [(.t 99),(.t 100)],some (98,false)⟩,
 ⟨some 102,.un .not (.t 101),some (98,false)⟩,
 oO 103 (.pick (.t 98) (.c (.bool true)) (.t 102)),
 oO 104 (.mov (.t 103)),
 ⟨some 105,.mov (.t 10),some (104,false)⟩,
 ⟨some 106,.bin .neq (.t 105) (.c (.int .i64 0)),some (104,false)⟩,
 oO 107 (.pick (.t 104) (.c (.bool true)) (.t 106)),
 oO 108 (.mov (.t 107)),
 ⟨some 109,.load true 4 (.t 12),some (108,false)⟩,
 ⟨some 110,.load true 4 (.t 11),some (108,false)⟩,
 ⟨some 111,.call 29 [(.t 109),(.t 110)],some (108,false)⟩,
 ⟨some 112,.un .not (.t 111),some (108,false)⟩,
 oO 113 (.pick (.t 108) (.c (.bool true)) (.t 112)),
 oO 114 (.mov (.t 113)),
 ⟨some 115,.mov (.t 13),some (114,false)⟩,
 ⟨some 116,.bin .neq (.t 115) (.c (.int .i64 0)),some (114,false)⟩,
 oO 117 (.pick (.t 114) (.c (.bool true)) (.t 116)),
 oO 118 (.mov (.t 117)),
 ⟨some 119,.load true 4 (.t 14),some (118,false)⟩,
 ⟨some 120,.load true 4 (.t 11),some (118,false)⟩,
 ⟨some 121,.call 29 [(.t 119),(.t 120)],some (118,false)⟩,
 ⟨some 122,.un .not (.t 121),some (118,false)⟩,
 oO 123 (.pick (.t 118) (.c (.bool true)) (.t 122)),
 oO 124 (.mov (.t 123)),
 ⟨some 125,.mov (.t 15),some (124,false)⟩,
 ⟨some 126,.bin .neq (.t 125) (.c (.int .i64 0)),some (124,false)⟩,
 oO 127 (.pick (.t 124) (.c (.bool true)) (.t 126))])
 (.cond (.t 127)
 (.seq (.region [oO 0 (.mov (.c (.bool false)))])
 (.ret))
 (.skip)))
 (.seq (.region [oO 128 (.bslice true [.int .i64 0] 1 1 [(0,(.c (.int .i64 0)))]),
 oO 129 (.bslice true [.int .i64 0] 1 1 [(0,(.c (.int .i64 1)))]),
 oO 130 (.build [.int .i64 0,.int .i64 0,.int .i64 0,.int .u8 0,.int .u8 0] [(2,1,(.c (.int .i64 1))),(3,1,(.c (.int .u8 1)))]),
 oO 131 (.build [.int .i64 0,.int .i64 0,.int .i64 0,.int .u8 0,.int .u8 0] [(0,1,(.c (.int .i64 1))),(2,1,(.c (.int .i64 1)))]),
 oO 132 (.build [.int .i64 0,.int .i64 0,.int .i64 0,.int .u8 0,.int .u8 0] [(1,1,(.c (.int .i64 1))),(2,1,(.c (.int .i64 1)))]),
 oO 133 (.build [.int .i64 0,.int .i64 0,.int .i64 0,.int .u8 0,.int .u8 0] []),
 oO 134 (.bslice true [.int .i64 0,.int .i64 0,.int .i64 0,.int .u8 0,.int .u8 0] 5 4 [(0,(.t 130)),(1,(.t 131)),(2,(.t 132)),(3,(.t 133))]),
 oO 135 (.build [.int .i64 0,.int .i64 0,.sl true 0 [],.sl true 0 [],.sl true 0 []] [(0,1,(.c (.int .i64 2))),(1,1,(.c (.int .i64 2))),(2,1,(.t 128)),(3,1,(.t 129)),(4,1,(.t 134))]),
 oO 16 (.box (.c (.agg [.int .i64 0,.int .i64 0,.sl true 0 [],.sl true 0 [],.sl true 0 []]))),
 ⟨none,.store 5 (.t 16) (.t 135),none⟩])
 (.seq (.region [oO 137 (.load true 5 (.t 16)),
 oO 138 (.call 37 [(.t 137),(.c (.int .i64 2))]),
 oO 136 (.mov (.t 138)),
 oO 139 (.ext 0 (.t 136)),
 oO 140 (.ext 1 (.t 136)),
 oO 141 (.ext 2 (.t 136)),
 oO 17 (.box (.c (.agg [.int .i64 0,.int .i64 0,.sl true 0 [],.sl true 0 []]))),
 ⟨none,.store 4 (.t 17) (.t 139),none⟩,
 oO 18 (.mov (.t 140)),
 oO 19 (.mov (.t 141))])
 (.seq (.region [oO 143 (.load true 5 (.t 16)),
 oO 144 (.call 37 [(.t 143),(.c (.int .i64 1))]),
 oO 142 (.mov (.t 144)),
 oO 145 (.ext 0 (.t 142)),
 oO 146 (.ext 1 (.t 142)),
 oO 147 (.ext 2 (.t 142)),
 oO 20 (.box (.c (.agg [.int .i64 0,.int .i64 0,.sl true 0 [],.sl true 0 []]))),
 ⟨none,.store 4 (.t 20) (.t 145),none⟩,
 oO 21 (.mov (.t 146)),
 oO 22 (.mov (.t 147))])
 (.seq (.region [oO 149 (.load true 5 (.t 16)),
 oO 150 (.call 37 [(.t 149),(.c (.int .i64 65))]),
 oO 148 (.mov (.t 150)),
 oO 151 (.ext 0 (.t 148)),
 oO 152 (.ext 1 (.t 148)),
 oO 153 (.ext 2 (.t 148)),
 oO 23 (.box (.c (.agg [.int .i64 0,.int .i64 0,.sl true 0 [],.sl true 0 []]))),
 ⟨none,.store 4 (.t 23) (.t 151),none⟩,
 oO 24 (.mov (.t 152)),
 oO 25 (.mov (.t 153))])
 (.seq (.region [oO 155 (.load true 4 (.t 11)),
 oO 156 (.call 27 [(.t 155)]),
 oO 154 (.mov (.t 156)),
 oO 157 (.ext 0 (.t 154)),
 oO 158 (.ext 1 (.t 154)),
 oO 26 (.box (.c (.agg [.int .i64 0,.int .i64 0,.sl true 0 [],.sl true 0 [],.sl true 0 []]))),
 ⟨none,.store 5 (.t 26) (.t 157),none⟩,
 oO 27 (.mov (.t 158))])
 (.seq (.region [oO 159 (.mov (.t 18)),
 oO 160 (.bslice true [.int .i64 0] 1 1 [(0,(.c (.int .i64 0)))]),
 oO 161 (.bslice true [.int .i64 0] 1 2 [(0,(.c (.int .i64 0))),(1,(.c (.int .i64 1)))]),
 oO 162 (.bslice true [.sl true 0 []] 1 2 [(0,(.t 160)),(1,(.t 161))]),
 oO 163 (.call 39 [(.t 159),(.t 162)]),
 oO 164 (.mov (.t 163)),
 ⟨some 165,.mov (.t 19),some (164,true)⟩,
 ⟨some 166,.bin .eql (.t 165) (.c (.int .i64 0)),some (164,true)⟩,
 oO 167 (.pick (.t 164) (.t 166) (.c (.bool false))),
 oO 168 (.mov (.t 167)),
 ⟨some 169,.mov (.t 22),some (168,true)⟩,
 ⟨some 170,.bin .eql (.t 169) (.c (.int .i64 10)),some (168,true)⟩,
 oO 171 (.pick (.t 168) (.t 170) (.c (.bool false))),
 oO 172 (.mov (.t 171)),
 ⟨some 173,.mov (.t 25),some (172,true)⟩,
 ⟨some 174,.bin .eql (.t 173) (.c (.int .i64 1)),some (172,true)⟩,
 oO 175 (.pick (.t 172) (.t 174) (.c (.bool false))),
 oO 176 (.mov (.t 175)),
 ⟨some 177,.mov (.t 27),some (176,true)⟩,
 ⟨some 178,.bin .eql (.t 177) (.c (.int .i64 0)),some (176,true)⟩,
 oO 179 (.pick (.t 176) (.t 178) (.c (.bool false))),
 oO 180 (.mov (.t 179)),
 ⟨some 181,.faddr 1 (.t 26),some (180,true)⟩,
 ⟨some 182,.load false 1 (.t 181),some (180,true)⟩,
 ⟨some 183,.bin .eql (.t 182) (.c (.int .i64 2)),some (180,true)⟩,
 oO 184 (.pick (.t 180) (.t 183) (.c (.bool false))),
 oO 185 (.mov (.t 184)),
 ⟨some 186,.faddr 2 (.t 26),some (185,true)⟩,
 ⟨some 187,.load false 1 (.t 186),some (185,true)⟩,
 ⟨some 188,.bslice true [.int .i64 0] 1 1 [(0,(.c (.int .i64 0)))],some (185,true)⟩,
 ⟨some 189,.call 20 [(.t 187),(.t 188)],some (185,true)⟩,
 oO 190 (.pick (.t 185) (.t 189) (.c (.bool false))),
 oO 191 (.mov (.t 190)),
 ⟨some 192,.faddr 3 (.t 26),some (191,true)⟩,
 ⟨some 193,.load false 1 (.t 192),some (191,true)⟩,
 ⟨some 194,.bslice true [.int .i64 0] 1 1 [(0,(.c (.int .i64 1)))],some (191,true)⟩,
 ⟨some 195,.call 20 [(.t 193),(.t 194)],some (191,true)⟩,
 oO 196 (.pick (.t 191) (.t 195) (.c (.bool false))),
 oO 197 (.mov (.t 196)),
 ⟨some 198,.faddr 4 (.t 26),some (197,true)⟩,
 ⟨some 199,.load false 1 (.t 198),some (197,true)⟩,
 ⟨some 200,.len (.t 199),some (197,true)⟩,
 ⟨some 201,.bin .eql (.t 200) (.c (.int .i64 8)),some (197,true)⟩,
 oO 202 (.pick (.t 197) (.t 201) (.c (.bool false))),
 oO 203 (.mov (.t 202)),
 ⟨some 204,.faddr 4 (.t 26),some (203,true)⟩,
 ⟨some 205,.load false 1 (.t 204),some (203,true)⟩,
 ⟨some 206,.iaddr 5 (.t 205) (.c (.int .i64 0)),some (203,true)⟩,
 ⟨some 207,.load true 5 (.t 206),some (203,true)⟩,
 ⟨some 208,.build [.int .i64 0,.int .i64 0,.int .i64 0,.int .u8 0,.int .u8 0] [(4,1,(.c (.int .u8 1)))],some (203,true)⟩,
 ⟨some 209,.aeq false 5 (.t 207) (.t 208),some (203,true)⟩,
 oO 210 (.pick (.t 203) (.t 209) (.c (.bool false))),
 oO 0 (.mov (.t 210))])
 (.ret))))))))))))))))),
 [.tmp 0]⟩
def yFt : ACode :=
 .seq (.region [oO 46 (.bin .lss (.t 45) (.t 44))])
 (.seq (.cond (.t 46)
 (.skip)
 (.exit 0))
 (.seq (.block 1 (.seq (.region [oO 47 (.iaddr 1 (.t 43) (.t 45)),
 oO 48 (.load false 1 (.t 47)),
 oO 13 (.mov (.t 48))])
 (.region [oO 49 (.mov (.t 5)),
 oO 50 (.mov (.t 13)),
 oO 51 (.call 77 [(.t 50)]),
 oO 52 (.bslice true [.sl true 0 []] 1 1 [(0,(.t 51))]),
 oO 53 (.append false 1 24 (.t 49) (.t 52)),
 oO 5 (.mov (.t 53))])))
 (.region [oO 54 (.bin .add (.t 45) (.c (.int .i64 1))),
 oO 45 (.mov (.t 54))])))
def yHs : ACode := yFt
def yFu : List Nat := [0,1,3,6,7,11,12,13,14,15,16,17,18,19,20,21,22,23,24,25,26,27,28,29,30,31,32,33,34,35,36,37,38,39,40,41,42,46,47,48,49,50,51,52,53,54,55,56,57,58,59,60,61,62,63]
def a37 : AFunc := ⟨64,
 .seq (.region [oO 2 (.box (.t 0)),
 oO 3 (.box (.t 1)),
 oO 4 (.box (.c (.agg [.int .i64 0,.int .i64 0,.sl true 0 [],.sl true 0 []]))),
 oO 5 (.mov (.c (.sl true 0 []))),
 oO 6 (.mov (.c (.int .i64 0)))])
 (.seq (.seq (.region [oO 14 (.load true 5 (.t 2)),
 oO 15 (.call 45 [(.t 14)]),
 oO 7 (.mov (.t 15))])
 (.seq (.region [oO 16 (.mov (.t 7)),
 oO 17 (.bin .neq (.t 16) (.c (.int .i64 0)))])
 (.cond (.t 17)
 (.seq (.region [oO 18 (.build [.int .i64 0,.int .i64 0,.sl true 0 [],.sl true 0 []] []),
 oO 19 (.mov (.t 7)),
 ⟨none,.store 4 (.t 4) (.t 18),none⟩,
 oO 5 (.mov (.c (.sl true 0 []))),
 oO 6 (.mov (.t 19))])
 (.ret))
 (.skip))))
 (.seq (.seq (.region [oO 20 (.load false 1 (.t 3)),
 oO 21 (.bin .lss (.t 20) (.c (.int .i64 1))),
 oO 22 (.mov (.t 21)),
 ⟨some 23,.load false 1 (.t 3),some (22,false)⟩,
 ⟨some 24,.bin .gtr (.t 23) (.c (.int .i64 64)),some (22,false)⟩,
 oO 25 (.pick (.t 22) (.c (.bool true)) (.t 24))])
 (.cond (.t 25)
 (.seq (.region [oO 26 (.build [.int .i64 0,.int .i64 0,.sl true 0 [],.sl true 0 []] []),
 ⟨none,.store 4 (.t 4) (.t 26),none⟩,
 oO 5 (.mov (.c (.sl true 0 []))),
 oO 6 (.mov (.c (.int .i64 1)))])
 (.ret))
 (.skip)))
 (.seq (.region [oO 27 (.faddr 2 (.t 2)),
 oO 28 (.load false 1 (.t 27)),
 oO 29 (.call 73 [(.t 28)]),
 oO 30 (.bslice false [.int .u64 0] 1 1 [(0,(.t 29))]),
 oO 8 (.box (.c (.sl true 0 []))),
 ⟨none,.store 1 (.t 8) (.t 30),none⟩])
 (.seq (.region [oO 31 (.mkmap),
 oO 32 (.load false 1 (.t 8)),
 oO 33 (.iaddr 1 (.t 32) (.c (.int .i64 0))),
 oO 34 (.load false 1 (.t 33)),
 ⟨none,.mupd [0] (.t 31) (.t 34) (.c (.int .i64 0)),none⟩,
 oO 35 (.mov (.t 31)),
 oO 9 (.box (.c (.nilm))),
 ⟨none,.store 1 (.t 9) (.t 35),none⟩])
 (.seq (.region [oO 36 (.mkfunc 74 [(.t 2),(.t 8)]),
 oO 10 (.box (.c (.nilf))),
 ⟨none,.store 1 (.t 10) (.t 36),none⟩])
 (.seq (.region [oO 11 (.box (.c (.bool false))),
 ⟨none,.store 1 (.t 11) (.c (.bool false)),none⟩])
 (.seq (.region [oO 37 (.faddr 0 (.t 2)),
 oO 38 (.load false 1 (.t 37)),
 oO 39 (.mkfunc 76 [(.t 10),(.t 9),(.t 8),(.t 3),(.t 11)]),
 oO 40 (.icall (.c (.func 75 [])) [(.t 38),(.t 39)])])
 (.seq (.seq (.region [oO 41 (.load false 1 (.t 11))])
 (.cond (.t 41)
 (.seq (.region [oO 42 (.build [.int .i64 0,.int .i64 0,.sl true 0 [],.sl true 0 []] []),
 ⟨none,.store 4 (.t 4) (.t 42),none⟩,
 oO 5 (.mov (.c (.sl true 0 []))),
 oO 6 (.mov (.c (.int .i64 10)))])
 (.ret))
 (.skip)))
 (.seq (.seq (.region [oO 43 (.load false 1 (.t 8)),
 oO 44 (.len (.t 43)),
 oO 45 (.mov (.c (.int .i64 0)))])
 (.block 0 (.loop yFu yHs)))
 (.seq (.region [oO 55 (.faddr 0 (.t 2)),
 oO 56 (.load false 1 (.t 55)),
 oO 57 (.load false 1 (.t 8)),
 oO 58 (.len (.t 57)),
 oO 59 (.mkfunc 78 [(.t 9),(.t 10)]),
 oO 60 (.mkfunc 79 [(.t 2),(.t 8)]),
 oO 61 (.icall (.c (.func 61 [])) [(.t 56),(.t 58),(.t 59),(.t 60)]),
 ⟨none,.store 4 (.t 4) (.t 61),none⟩])
 (.seq (.region [oO 62 (.load true 4 (.t 4)),
 oO 63 (.mov (.t 5)),
 ⟨none,.store 4 (.t 4) (.t 62),none⟩,
 oO 5 (.mov (.t 63)),
 oO 6 (.mov (.c (.int .i64 0)))])
 (.ret)))))))))))),
 [.cell 4 true 4,.tmp 5,.tmp 6]⟩
def xRW : ACode :=
 .seq (.seq (.region [oO 11 (.mov (.t 5)),
 oO 12 (.mov (.t 0)),
 oO 13 (.len (.t 12)),
 oO 14 (.bin .lss (.t 11) (.t 13))])
 (.cond (.t 14)
 (.skip)
 (.exit 0)))
 (.seq (.block 1 (.seq (.draw 5 [oO 17 (.mov (.t 0)),
 oO 18 (.mov (.t 5)),
 oO 19 (.iaddr 1 (.t 17) (.t 18)),
 oO 20 (.load false 1 (.t 19)),
 oO 21 (.mov (.t 1)),
 oO 22 (.mov (.t 5)),
 oO 23 (.iaddr 1 (.t 21) (.t 22)),
 oO 24 (.load false 1 (.t 23)),
 oO 25 (.call 20 [(.t 20),(.t 24)]),
 oO 26 (.un .not (.t 25))])
 (.cond (.t 26)
 (.seq (.region [oO 4 (.mov (.c (.bool false)))])
 (.ret))
 (.skip))))
 (.region [oO 15 (.mov (.t 5)),
 oO 16 (.bin .add (.t 15) (.c (.int .i64 1))),
 oO 5 (.mov (.t 16))]))
def xZ9 : ACode := xRW
def xNl : List Nat := [2,3,6,7,8,9,10,11,12,13,14,15,16,17,18,19,20,21,22,23,24,25,26]
abbrev xNm (s0 s1 s4 s5 : AV) : List AV := [s0,s1,.any,.any,s4,s5,.any,.any,.any,.any,.any,.any,.any,.any,.any,.any,.any,.any,.any,.any,.any,.any,.any,.any,.any,.any,.any]
theorem xVR (s0 s1 s2 s3 s4 s5 s6 s7 s8 s9 s10 s11 s12 s13 s14 s15 s16 s17 s18 s19 s20 s21 s22 s23 s24 s25 s26 : AV) : xAm xNl [s0,s1,s2,s3,s4,s5,s6,s7,s8,s9,s10,s11,s12,s13,s14,s15,s16,s17,s18,s19,s20,s21,s22,s23,s24,s25,s26] = xNm s0 s1 s4 s5 := by kernel_rfl
theorem yCc {prog : Nat → Option AFunc} (s0 s1 s4 s5 : AV) (H : xAc) : (lim prog).loop xNl xZ9 ⟨xNm s0 s1 s4 s5,H⟩ = xAD (lim prog) xNl xZ9 (run (lim prog) xRW ⟨xNm s0 s1 s4 s5,H⟩) := xAd _ _ _ _ (by kernel_rfl)
def a39 : AFunc := ⟨27,
 .seq (.region [oO 4 (.mov (.c (.bool false)))])
 (.seq (.seq (.region [oO 6 (.mov (.t 0)),
 oO 7 (.len (.t 6)),
 oO 8 (.mov (.t 1)),
 oO 9 (.len (.t 8)),
 oO 10 (.bin .neq (.t 7) (.t 9))])
 (.cond (.t 10)
 (.seq (.region [oO 4 (.mov (.c (.bool false)))])
 (.ret))
 (.skip)))
 (.seq (.seq (.region [oO 5 (.mov (.c (.int .i64 0)))])
 (.block 0 (.loop xNl xZ9)))
 (.seq (.region [oO 4 (.mov (.c (.bool true)))])
 (.ret)))),
 [.tmp 4]⟩
def xJK : ACode :=
 .seq (.seq (.region [oO 3 (.mov (.t 2)),
 oO 4 (.mov (.t 0)),
 oO 5 (.len (.t 4)),
 oO 6 (.bin .lss (.t 3) (.t 5))])
 (.cond (.t 6)
 (.skip)
 (.exit 0)))
 (.seq (.block 1 (.region [oO 9 (.mov (.t 0)),
 oO 10 (.mov (.t 2)),
 oO 11 (.iaddr 1 (.t 9) (.t 10)),
 oO 12 (.load false 1 (.t 11)),
 oO 13 (.icall (.c (.func 32 [])) [(.t 12)])]))
 (.region [oO 7 (.mov (.t 2)),
 oO 8 (.bin .add (.t 7) (.c (.int .i64 1))),
 oO 2 (.mov (.t 8))]))
def xVS : ACode := xJK
def xJL : List Nat := [1,3,4,5,6,7,8,9,10,11,12,13]
abbrev xG3 (s0 s2 : AV) : List AV := [s0,.any,s2,.any,.any,.any,.any,.any,.any,.any,.any,.any,.any,.any]
theorem xJM (s0 s1 s2 s3 s4 s5 s6 s7 s8 s9 s10 s11 s12 s13 : AV) : xAm xJL [s0,s1,s2,s3,s4,s5,s6,s7,s8,s9,s10,s11,s12,s13] = xG3 s0 s2 := by kernel_rfl
theorem xVT {prog : Nat → Option AFunc} (s0 s2 : AV) (H : xAc) : (lim prog).loop xJL xVS ⟨xG3 s0 s2,H⟩ = xAD (lim prog) xJL xVS (run (lim prog) xJK ⟨xG3 s0 s2,H⟩) := xAd _ _ _ _ (by kernel_rfl)
def a40 : AFunc := ⟨14,
 .seq (.region [oO 2 (.mov (.c (.int .i64 0)))])
 (.block 0 (.loop xJL xVS)),
 []⟩
def yFv : ACode :=
 .seq (.seq (.region [oO 12 (.mov (.t 4)),
 oO 13 (.bin .lss (.t 12) (.c (.int .i64 3)))])
 (.cond (.t 13)
 (.skip)
 (.exit 2)))
 (.seq (.block 3 (.seq (.region [oO 5 (.mov (.c (.int .i64 0)))])
 (.seq (.seq (.region [oO 16 (.mov (.t 2)),
 oO 17 (.bin .eql (.t 16) (.c (.int .i64 2))),
 oO 18 (.mov (.t 17)),
 ⟨some 19,.mov (.t 4),some (18,false)⟩,
 ⟨some 20,.bin .eql (.t 19) (.c (.int .i64 2)),some (18,false)⟩,
 oO 21 (.pick (.t 18) (.c (.bool true)) (.t 20))])
 (.cond (.t 21)
 (.region [oO 5 (.mov (.c (.int .i64 2)))])
 (.skip)))
 (.seq (.seq (.region [oO 22 (.mov (.t 2)),
 oO 23 (.bin .eql (.t 22) (.c (.int .i64 1))),
 oO 24 (.mov (.t 23)),
 ⟨some 25,.mov (.t 4),some (24,false)⟩,
 ⟨some 26,.bin .eql (.t 25) (.c (.int .i64 1)),some (24,false)⟩,
 oO 27 (.pick (.t 24) (.c (.bool true)) (.t 26))])
 (.cond (.t 27)
 (.region [oO 5 (.mov (.c (.int .i64 1)))])
 (.skip)))
 (.region [oO 28 (.mov (.t 3)),
 oO 29 (.mov (.t 5)),
 oO 30 (.bslice true [.int .i64 0] 1 2 [(0,(.t 29)),(1,(.c (.int .i64 1)))]),
 oO 31 (.bslice true [.sl true 0 []] 1 1 [(0,(.t 30))]),
 oO 32 (.append false 1 24 (.t 28) (.t 31)),
 oO 3 (.mov (.t 32))])))))
 (.region [oO 14 (.mov (.t 4)),
 oO 15 (.bin .add (.t 14) (.c (.int .i64 1))),
 oO 4 (.mov (.t 15))]))
def yHt : ACode := yFv
def yFw : List Nat := [5,6,7,8,9,10,11,12,13,14,15,16,17,18,19,20,21,22,23,24,25,26,27,28,29,30,31,32,33,34,35,36,37,38,39]
def yFx : ACode :=
 .seq (.seq (.region [oO 8 (.mov (.t 2)),
 oO 9 (.bin .lss (.t 8) (.c (.int .i64 3)))])
 (.cond (.t 9)
 (.skip)
 (.exit 0)))
 (.seq (.block 1 (.seq (.region [oO 3 (.mov (.c (.sl true 0 [])))])
 (.seq (.seq (.region [oO 4 (.mov (.c (.int .i64 0)))])
 (.block 2 (.loop yFw yHt)))
 (.region [oO 33 (.faddr 2 (.t 1)),
 oO 34 (.load false 1 (.t 33)),
 oO 35 (.mov (.t 3)),
 oO 36 (.bslice false [.sl true 0 []] 1 1 [(0,(.t 35))]),
 oO 37 (.append false 1 24 (.t 34) (.t 36)),
 oO 38 (.faddr 2 (.t 1)),
 ⟨none,.store 1 (.t 38) (.t 37),none⟩]))))
 (.region [oO 10 (.mov (.t 2)),
 oO 11 (.bin .add (.t 10) (.c (.int .i64 1))),
 oO 2 (.mov (.t 11))]))
def yHu : ACode := yFx
def yFy : List Nat := [3,4,5,6,7,8,9,10,11,12,13,14,15,16,17,18,19,20,21,22,23,24,25,26,27,28,29,30,31,32,33,34,35,36,37,38,39]
def a41 : AFunc := ⟨40,
 .seq (.region [oO 0 (.box (.c (.agg [.int .i64 0,.int .i64 0,.sl true 0 [],.sl true 0 []])))])
 (.seq (.region [oO 6 (.bslice true [.bool false] 1 3 [(0,(.c (.bool false))),(1,(.c (.bool true))),(2,(.c (.bool true)))]),
 oO 7 (.build [.int .i64 0,.int .i64 0,.sl true 0 [],.sl true 0 []] [(0,1,(.c (.int .i64 1))),(3,1,(.t 6))]),
 oO 1 (.box (.c (.agg [.int .i64 0,.int .i64 0,.sl true 0 [],.sl true 0 []]))),
 ⟨none,.store 4 (.t 1) (.t 7),none⟩])
 (.seq (.seq (.region [oO 2 (.mov (.c (.int .i64 0)))])
 (.block 0 (.loop yFy yHu)))
 (.seq (.region [oO 39 (.load true 4 (.t 1)),
 ⟨none,.store 4 (.t 0) (.t 39),none⟩])
 (.ret)))),
 [.cell 0 true 4]⟩
def yFz : ACode :=
 .seq (.region [oO 38 (.bin .lss (.t 37) (.c (.int .i64 2)))])
 (.seq (.cond (.t 38)
 (.skip)
 (.exit 1))
 (.seq (.block 2 (.seq (.region [oO 39 (.idx false 1 2 (.t 36) (.t 37)),
 oO 4 (.mov (.t 39))])
 (.seq (.region [oO 40 (.mov (.t 4)),
 oO 41 (.faddr 1 (.t 1)),
 oO 42 (.load false 1 (.t 41)),
 oO 43 (.call 89 [(.t 40),(.t 42)]),
 oO 5 (.mov (.t 43))])
 (.seq (.region [oO 44 (.mov (.t 5)),
 oO 45 (.bin .neq (.t 44) (.c (.int .i64 0)))])
 (.cond (.t 45)
 (.seq (.region [oO 46 (.mov (.t 5)),
 oO 2 (.mov (.t 46))])
 (.ret))
 (.skip))))))
 (.region [oO 47 (.bin .add (.t 37) (.c (.int .i64 1))),
 oO 37 (.mov (.t 47))])))
def yHv : ACode := yFz
def yFA : List Nat := [0,3,4,5,6,7,8,9,10,11,12,13,14,15,16,17,18,19,20,21,22,23,24,25,26,27,28,29,30,31,32,33,34,35,38,39,40,41,42,43,44,45,46,47,48,49,50,51,52,53,54,55,56,57,58,59,60,61,62,63,64,65,66,67,68,69,70,71,72,73,74,75,76,77,78,79,80,81,82,83,84,85,86]
def yFB : ACode :=
 .seq (.region [oO 52 (.bin .lss (.t 51) (.t 50))])
 (.seq (.cond (.t 52)
 (.skip)
 (.exit 3))
 (.seq (.block 4 (.seq (.region [oO 53 (.iaddr 5 (.t 49) (.t 51)),
 oO 54 (.load true 5 (.t 53)),
 oO 7 (.box (.c (.agg [.int .i64 0,.int .i64 0,.int .i64 0,.int .u8 0,.int .u8 0]))),
 ⟨none,.store 5 (.t 7) (.t 54),none⟩])
 (.seq (.seq (.region [oO 55 (.faddr 0 (.t 7)),
 oO 56 (.load false 1 (.t 55)),
 oO 57 (.faddr 1 (.t 7)),
 oO 58 (.load false 1 (.t 57)),
 oO 59 (.faddr 2 (.t 7)),
 oO 60 (.load false 1 (.t 59)),
 oO 61 (.mm false [(.t 56),(.t 58),(.t 60)]),
 oO 62 (.bin .lss (.t 61) (.c (.int .i64 0))),
 oO 63 (.mov (.t 62)),
 ⟨some 64,.faddr 0 (.t 7),some (63,false)⟩,
 ⟨some 65,.load false 1 (.t 64),some (63,false)⟩,
 ⟨some 66,.faddr 1 (.t 7),some (63,false)⟩,
 ⟨some 67,.load false 1 (.t 66),some (63,false)⟩,
 ⟨some 68,.faddr 2 (.t 7),some (63,false)⟩,
 ⟨some 69,.load false 1 (.t 68),some (63,false)⟩,
 ⟨some 70,.mm true [(.t 65),(.t 67),(.t 69)],some (63,false)⟩,
 ⟨some 71,.faddr 1 (.t 1),some (63,false)⟩,
 ⟨some 72,.load false 1 (.t 71),some (63,false)⟩,
 ⟨some 73,.bin .geq (.t 70) (.t 72),some (63,false)⟩,
 oO 74 (.pick (.t 63) (.c (.bool true)) (.t 73))])
 (.cond (.t 74)
 (.seq (.region [oO 2 (.mov (.c (.int .i64 8)))])
 (.ret))
 (.skip)))
 (.seq (.region [oO 75 (.faddr 3 (.t 7)),
 oO 76 (.load false 1 (.t 75)),
 oO 77 (.faddr 4 (.t 7)),
 oO 78 (.load false 1 (.t 77)),
 oO 79 (.build [.int .u8 0,.int .u8 0] [(0,1,(.t 76)),(1,1,(.t 78))]),
 oO 80 (.faddr 0 (.t 1)),
 oO 81 (.load false 1 (.t 80)),
 oO 82 (.call 90 [(.t 79),(.t 81)]),
 oO 8 (.mov (.t 82))])
 (.seq (.region [oO 83 (.mov (.t 8)),
 oO 84 (.bin .neq (.t 83) (.c (.int .i64 0)))])
 (.cond (.t 84)
 (.seq (.region [oO 85 (.mov (.t 8)),
 oO 2 (.mov (.t 85))])
 (.ret))
 (.skip)))))))
 (.region [oO 86 (.bin .add (.t 51) (.c (.int .i64 1))),
 oO 51 (.mov (.t 86))])))
def yHw : ACode := yFB
def yFC : List Nat := [0,3,4,5,6,7,8,9,10,11,12,13,14,15,16,17,18,19,20,21,22,23,24,25,26,27,28,29,30,31,32,33,34,35,36,37,38,39,40,41,42,43,44,45,46,47,48,52,53,54,55,56,57,58,59,60,61,62,63,64,65,66,67,68,69,70,71,72,73,74,75,76,77,78,79,80,81,82,83,84,85,86]
def a45 : AFunc := ⟨87,
 .seq (.region [oO 1 (.box (.t 0)),
 oO 2 (.mov (.c (.int .i64 0)))])
 (.seq (.block 0 (.seq (.region [oO 10 (.faddr 0 (.t 1)),
 oO 11 (.load false 1 (.t 10)),
 oO 12 (.bin .lss (.t 11) (.c (.int .i64 0))),
 oO 13 (.mov (.t 12)),
 ⟨some 14,.faddr 0 (.t 1),some (13,false)⟩,
 ⟨some 15,.load false 1 (.t 14),some (13,false)⟩,
 ⟨some 16,.bin .gtr (.t 15) (.c (.int .i64 3)),some (13,false)⟩,
 oO 17 (.pick (.t 13) (.c (.bool true)) (.t 16)),
 oO 9 (.mov (.t 17))])
 (.cond (.t 9)
 (.seq (.region [oO 2 (.mov (.c (.int .i64 7)))])
 (.ret))
 (.seq (.region [oO 19 (.faddr 1 (.t 1)),
 oO 20 (.load false 1 (.t 19)),
 oO 21 (.bin .lss (.t 20) (.c (.int .i64 0))),
 oO 18 (.mov (.t 21))])
 (.cond (.t 18)
 (.seq (.region [oO 2 (.mov (.c (.int .i64 1)))])
 (.ret))
 (.seq (.region [oO 23 (.faddr 1 (.t 1)),
 oO 24 (.load false 1 (.t 23)),
 oO 25 (.bin .gtr (.t 24) (.c (.int .i64 64))),
 oO 26 (.mov (.t 25)),
 ⟨some 27,.faddr 4 (.t 1),some (26,false)⟩,
 ⟨some 28,.load false 1 (.t 27),some (26,false)⟩,
 ⟨some 29,.len (.t 28),some (26,false)⟩,
 ⟨some 30,.bin .gtr (.t 29) (.c (.int .i64 512)),some (26,false)⟩,
 oO 31 (.pick (.t 26) (.c (.bool true)) (.t 30)),
 oO 22 (.mov (.t 31))])
 (.cond (.t 22)
 (.seq (.region [oO 2 (.mov (.c (.int .i64 4)))])
 (.ret))
 (.skip))))))))
 (.seq (.seq (.region [oO 32 (.faddr 2 (.t 1)),
 oO 33 (.load false 1 (.t 32)),
 oO 34 (.faddr 3 (.t 1)),
 oO 35 (.load false 1 (.t 34)),
 oO 36 (.build [.sl true 0 [],.sl true 0 []] [(0,1,(.t 33)),(1,1,(.t 35))]),
 oO 37 (.mov (.c (.int .i64 0)))])
 (.block 1 (.loop yFA yHv)))
 (.seq (.seq (.region [oO 48 (.faddr 4 (.t 1)),
 oO 49 (.load false 1 (.t 48)),
 oO 50 (.len (.t 49)),
 oO 51 (.mov (.c (.int .i64 0)))])
 (.block 3 (.loop yFC yHw)))
 (.seq (.region [oO 2 (.mov (.c (.int .i64 0)))])
 (.ret))))),
 [.tmp 2]⟩
def a47 : AFunc := ⟨5,
 .seq (.region [oO 2 (.mov (.c (.sl true 0 [])))])
 (.seq (.region [oO 3 (.mov (.t 0)),
 oO 4 (.append false 1 8 (.c (.sl true 0 [])) (.t 3)),
 oO 2 (.mov (.t 4))])
 (.ret)),
 [.tmp 2]⟩
def a51 : AFunc := ⟨14,
 .seq (.region [oO 1 (.box (.t 0)),
 oO 2 (.box (.c (.agg [.int .i64 0,.int .i64 0,.sl true 0 [],.sl true 0 []])))])
 (.seq (.draw 10 [oO 3 (.faddr 0 (.t 1)),
 oO 4 (.load false 1 (.t 3)),
 oO 5 (.faddr 1 (.t 1)),
 oO 6 (.load false 1 (.t 5)),
 oO 7 (.faddr 2 (.t 1)),
 oO 8 (.load false 1 (.t 7)),
 oO 9 (.call 97 [(.t 8)]),
 oO 10 (.faddr 3 (.t 1)),
 oO 11 (.load false 1 (.t 10)),
 oO 12 (.call 98 [(.t 11)]),
 oO 13 (.build [.int .i64 0,.int .i64 0,.sl true 0 [],.sl true 0 []] [(0,1,(.t 4)),(1,1,(.t 6)),(2,1,(.t 9)),(3,1,(.t 12))]),
 ⟨none,.store 4 (.t 2) (.t 13),none⟩])
 (.ret)),
 [.cell 2 true 4]⟩
def a52 : AFunc := ⟨11,
 .seq (.region [oO 3 (.mov (.c (.bool false)))])
 (.seq (.region [oO 4 (.mov (.t 0)),
 oO 5 (.bin .geq (.t 4) (.c (.int .i64 0))),
 oO 6 (.mov (.t 5)),
 ⟨some 7,.mov (.t 0),some (6,true)⟩,
 ⟨some 8,.load false 1 (.t 1),some (6,true)⟩,
 ⟨some 9,.bin .lss (.t 7) (.t 8),some (6,true)⟩,
 oO 10 (.pick (.t 6) (.t 9) (.c (.bool false))),
 oO 3 (.mov (.t 10))])
 (.ret)),
 [.tmp 3]⟩
def a53 : AFunc := ⟨15,
 .seq (.region [oO 2 (.box (.t 0)),
 oO 4 (.mov (.c (.int .i64 0)))])
 (.seq (.seq (.region [oO 6 (.load true 4 (.t 2)),
 oO 7 (.call 14 [(.t 6)]),
 oO 5 (.mov (.t 7))])
 (.seq (.region [oO 8 (.mov (.t 5)),
 oO 9 (.bin .neq (.t 8) (.c (.int .i64 0)))])
 (.cond (.t 9)
 (.seq (.region [oO 10 (.mov (.t 5)),
 oO 4 (.mov (.t 10))])
 (.ret))
 (.skip))))
 (.seq (.region [oO 11 (.mov (.t 1)),
 oO 12 (.faddr 0 (.t 2)),
 oO 13 (.load false 1 (.t 12)),
 oO 14 (.call 99 [(.t 11),(.t 13)]),
 oO 4 (.mov (.t 14))])
 (.ret))),
 [.tmp 4]⟩
def xRX : ACode :=
 .seq (.seq (.region [oO 22 (.mov (.t 8)),
 oO 23 (.bin .geq (.t 22) (.c (.int .i64 0)))])
 (.cond (.t 23)
 (.skip)
 (.exit 0)))
 (.seq (.block 1 (.draw 27 [oO 26 (.load false 1 (.t 6)),
 oO 27 (.mov (.t 8)),
 oO 28 (.faddr 2 (.t 2)),
 oO 29 (.load false 1 (.t 28)),
 oO 30 (.mov (.t 7)),
 oO 31 (.mov (.t 1)),
 oO 32 (.mov (.t 8)),
 oO 33 (.iaddr 3 (.t 31) (.t 32)),
 oO 34 (.faddr 1 (.t 33)),
 oO 35 (.load false 1 (.t 34)),
 oO 36 (.fcall (.t 30) [(.t 35)]),
 oO 37 (.iaddr 1 (.t 29) (.t 36)),
 oO 38 (.load false 1 (.t 37)),
 oO 39 (.mov (.t 7)),
 oO 40 (.mov (.t 1)),
 oO 41 (.mov (.t 8)),
 oO 42 (.iaddr 3 (.t 40) (.t 41)),
 oO 43 (.faddr 2 (.t 42)),
 oO 44 (.load false 1 (.t 43)),
 oO 45 (.fcall (.t 39) [(.t 44)]),
 oO 46 (.iaddr 1 (.t 38) (.t 45)),
 oO 47 (.load false 1 (.t 46)),
 oO 48 (.mov (.t 1)),
 oO 49 (.mov (.t 8)),
 oO 50 (.iaddr 3 (.t 48) (.t 49)),
 oO 51 (.faddr 0 (.t 50)),
 oO 52 (.load false 1 (.t 51)),
 oO 53 (.iaddr 1 (.t 47) (.t 52)),
 oO 54 (.load false 1 (.t 53)),
 oO 55 (.iaddr 1 (.t 26) (.t 27)),
 ⟨none,.store 1 (.t 55) (.t 54),none⟩]))
 (.region [oO 24 (.mov (.t 8)),
 oO 25 (.bin .sub (.t 24) (.c (.int .i64 1))),
 oO 8 (.mov (.t 25))]))
def xVU : ACode := xRX
def xJN : List Nat := [0,3,4,5,9,10,11,12,13,14,15,16,17,18,19,20,21,22,23,24,25,26,27,28,29,30,31,32,33,34,35,36,37,38,39,40,41,42,43,44,45,46,47,48,49,50,51,52,53,54,55,56]
abbrev xG4 (s1 s2 s6 s7 s8 : AV) : List AV := [.any,s1,s2,.any,.any,.any,s6,s7,s8,.any,.any,.any,.any,.any,.any,.any,.any,.any,.any,.any,.any,.any,.any,.any,.any,.any,.any,.any,.any,.any,.any,.any,.any,.any,.any,.any,.any,.any,.any,.any,.any,.any,.any,.any,.any,.any,.any,.any,.any,.any,.any,.any,.any,.any,.any,.any,.any]
theorem xRY (s0 s1 s2 s3 s4 s5 s6 s7 s8 s9 s10 s11 s12 s13 s14 s15 s16 s17 s18 s19 s20 s21 s22 s23 s24 s25 s26 s27 s28 s29 s30 s31 s32 s33 s34 s35 s36 s37 s38 s39 s40 s41 s42 s43 s44 s45 s46 s47 s48 s49 s50 s51 s52 s53 s54 s55 s56 : AV) : xAm xJN [s0,s1,s2,s3,s4,s5,s6,s7,s8,s9,s10,s11,s12,s13,s14,s15,s16,s17,s18,s19,s20,s21,s22,s23,s24,s25,s26,s27,s28,s29,s30,s31,s32,s33,s34,s35,s36,s37,s38,s39,s40,s41,s42,s43,s44,s45,s46,s47,s48,s49,s50,s51,s52,s53,s54,s55,s56] = xG4 s1 s2 s6 s7 s8 := by kernel_rfl
theorem yCd {prog : Nat → Option AFunc} (s1 s2 s6 s7 s8 : AV) (H : xAc) : (lim prog).loop xJN xVU ⟨xG4 s1 s2 s6 s7 s8,H⟩ = xAD (lim prog) xJN xVU (run (lim prog) xRX ⟨xG4 s1 s2 s6 s7 s8,H⟩) := xAd _ _ _ _ (by kernel_rfl)
def a54 : AFunc := ⟨57,
 .seq (.region [oO 2 (.box (.t 0)),
 oO 4 (.mov (.c (.sl true 0 [])))])
 (.seq (.region [oO 9 (.mov (.t 1)),
 oO 10 (.len (.t 9)),
 oO 5 (.box (.c (.int .i64 0))),
 ⟨none,.store 1 (.t 5) (.t 10),none⟩])
 (.seq (.region [oO 11 (.load false 1 (.t 5)),
 oO 12 (.bin .add (.t 11) (.c (.int .i64 1))),
 oO 13 (.mkslice false [.int .i64 0] 8 (.t 12) (.t 12)),
 oO 6 (.box (.c (.sl true 0 []))),
 ⟨none,.store 1 (.t 6) (.t 13),none⟩])
 (.seq (.region [oO 14 (.load false 1 (.t 6)),
 oO 15 (.load false 1 (.t 5)),
 oO 16 (.faddr 1 (.t 2)),
 oO 17 (.load false 1 (.t 16)),
 oO 18 (.iaddr 1 (.t 14) (.t 15)),
 ⟨none,.store 1 (.t 18) (.t 17),none⟩])
 (.seq (.region [oO 19 (.mkfunc 100 [(.t 5),(.t 6)]),
 oO 7 (.mov (.t 19))])
 (.seq (.seq (.region [oO 20 (.load false 1 (.t 5)),
 oO 21 (.bin .sub (.t 20) (.c (.int .i64 1))),
 oO 8 (.mov (.t 21))])
 (.block 0 (.loop xJN xVU)))
 (.seq (.region [oO 56 (.load false 1 (.t 6)),
 oO 4 (.mov (.t 56))])
 (.ret))))))),
 [.tmp 4]⟩
def xJO : ACode :=
 .seq (.seq (.region [oO 15 (.mov (.t 5)),
 oO 16 (.mov (.t 0)),
 oO 17 (.len (.t 16)),
 oO 18 (.bin .lss (.t 15) (.t 17))])
 (.cond (.t 18)
 (.skip)
 (.exit 0)))
 (.seq (.block 1 (.seq (.draw 6 [oO 21 (.mov (.t 0)),
 oO 22 (.mov (.t 5)),
 oO 23 (.iaddr 3 (.t 21) (.t 22)),
 oO 24 (.faddr 0 (.t 23)),
 oO 25 (.load false 1 (.t 24)),
 oO 26 (.conv .i64 (.t 25)),
 oO 27 (.mov (.t 1)),
 oO 28 (.bin .shl (.c (.int .i64 1)) (.t 27)),
 oO 29 (.bin .geq (.t 26) (.t 28))])
 (.cond (.t 29)
 (.seq (.region [oO 4 (.mov (.c (.int .i64 1)))])
 (.ret))
 (.skip))))
 (.region [oO 19 (.mov (.t 5)),
 oO 20 (.bin .add (.t 19) (.c (.int .i64 1))),
 oO 5 (.mov (.t 20))]))
def yAa : ACode := xJO
def xNn : List Nat := [2,3,6,7,8,9,10,11,12,13,14,15,16,17,18,19,20,21,22,23,24,25,26,27,28,29,30,31,32]
abbrev xJP (s0 s1 s4 s5 : AV) : List AV := [s0,s1,.any,.any,s4,s5,.any,.any,.any,.any,.any,.any,.any,.any,.any,.any,.any,.any,.any,.any,.any,.any,.any,.any,.any,.any,.any,.any,.any,.any,.any,.any,.any]
theorem xG5 (s0 s1 s2 s3 s4 s5 s6 s7 s8 s9 s10 s11 s12 s13 s14 s15 s16 s17 s18 s19 s20 s21 s22 s23 s24 s25 s26 s27 s28 s29 s30 s31 s32 : AV) : xAm xNn [s0,s1,s2,s3,s4,s5,s6,s7,s8,s9,s10,s11,s12,s13,s14,s15,s16,s17,s18,s19,s20,s21,s22,s23,s24,s25,s26,s27,s28,s29,s30,s31,s32] = xJP s0 s1 s4 s5 := by kernel_rfl
theorem xVV {prog : Nat → Option AFunc} (s0 s1 s4 s5 : AV) (H : xAc) : (lim prog).loop xNn yAa ⟨xJP s0 s1 s4 s5,H⟩ = xAD (lim prog) xNn yAa (run (lim prog) xJO ⟨xJP s0 s1 s4 s5,H⟩) := xAd _ _ _ _ (by kernel_rfl)
def a55 : AFunc := ⟨33,
 .seq (.region [oO 4 (.mov (.c (.int .i64 0)))])
 (.seq (.seq (.region [oO 6 (.mov (.t 1)),
 oO 7 (.bin .lss (.t 6) (.c (.int .i64 0))),
 oO 8 (.mov (.t 7)),
 ⟨some 9,.mov (.t 1),some (8,false)⟩,
 ⟨some 10,.bin .gtr (.t 9) (.c (.int .i64 3)),some (8,false)⟩,
 oO 11 (.pick (.t 8) (.c (.bool true)) (.t 10))])
 (.cond (.t 11)
 (.seq (.region [oO 4 (.mov (.c (.int .i64 7)))])
 (.ret))
 (.skip)))
 (.seq (.seq (.region [oO 12 (.mov (.t 0)),
 oO 13 (.len (.t 12)),
 oO 14 (.bin .gtr (.t 13) (.c (.int .i64 31)))])
 (.cond (.t 14)
 (.seq (.region [oO 4 (.mov (.c (.int .i64 4)))])
 (.ret))
 (.skip)))
 (.seq (.seq (.region [oO 5 (.mov (.c (.int .i64 0)))])
 (.block 0 (.loop xNn yAa)))
 (.seq (.seq (.region [oO 30 (.mov (.t 0)),
 oO 31 (.call 101 [(.t 30)]),
 oO 32 (.un .not (.t 31))])
 (.cond (.t 32)
 (.seq (.region [oO 4 (.mov (.c (.int .i64 2)))])
 (.ret))
 (.skip)))
 (.seq (.region [oO 4 (.mov (.c (.int .i64 0)))])
 (.ret)))))),
 [.tmp 4]⟩
def a56 : AFunc := ⟨23,
 .seq (.region [oO 1 (.box (.t 0)),
 oO 2 (.box (.c (.agg [.int .i64 0,.int .i64 0,.sl true 0 [],.sl true 0 []])))])
 (.seq (.region [oO 5 (.mkmap),
 oO 6 (.faddr 1 (.t 1)),
 oO 7 (.load false 1 (.t 6)),
 ⟨none,.mupd [0] (.t 5) (.t 7) (.c (.int .i64 0)),none⟩,
 oO 8 (.mov (.t 5)),
 oO 3 (.box (.c (.nilm))),
 ⟨none,.store 1 (.t 3) (.t 8),none⟩])
 (.seq (.region [oO 9 (.faddr 1 (.t 1)),
 oO 10 (.load false 1 (.t 9)),
 oO 11 (.bslice false [.int .i64 0] 1 1 [(0,(.t 10))]),
 oO 4 (.box (.c (.sl true 0 []))),
 ⟨none,.store 1 (.t 4) (.t 11),none⟩])
 (.seq (.region [oO 12 (.faddr 0 (.t 1)),
 oO 13 (.load false 1 (.t 12)),
 oO 14 (.mkfunc 102 [(.t 1),(.t 4),(.t 3)]),
 oO 15 (.icall (.c (.func 75 [])) [(.t 13),(.t 14)])])
 (.seq (.region [oO 16 (.faddr 0 (.t 1)),
 oO 17 (.load false 1 (.t 16)),
 oO 18 (.load false 1 (.t 4)),
 oO 19 (.len (.t 18)),
 oO 20 (.mkfunc 103 [(.t 3),(.t 1),(.t 4)]),
 oO 21 (.mkfunc 104 [(.t 1),(.t 4)]),
 oO 22 (.icall (.c (.func 61 [])) [(.t 17),(.t 19),(.t 20),(.t 21)]),
 ⟨none,.store 4 (.t 2) (.t 22),none⟩])
 (.ret))))),
 [.cell 2 true 4]⟩
def xRZ : ACode :=
 .seq (.seq (.region [oO 35 (.mov (.t 12)),
 oO 36 (.faddr 0 (.t 3)),
 oO 37 (.load false 1 (.t 36)),
 oO 38 (.bin .shl (.c (.int .i64 1)) (.t 37)),
 oO 39 (.bin .lss (.t 35) (.t 38))])
 (.cond (.t 39)
 (.skip)
 (.exit 4)))
 (.seq (.block 5 (.draw 17 [oO 42 (.mov (.t 11)),
 oO 43 (.mov (.t 1)),
 oO 44 (.mov (.t 2)),
 oO 45 (.faddr 2 (.t 3)),
 oO 46 (.load false 1 (.t 45)),
 oO 47 (.mov (.t 1)),
 oO 48 (.mov (.t 8)),
 oO 49 (.iaddr 1 (.t 47) (.t 48)),
 oO 50 (.load false 1 (.t 49)),
 oO 51 (.iaddr 1 (.t 46) (.t 50)),
 oO 52 (.load false 1 (.t 51)),
 oO 53 (.mov (.t 1)),
 oO 54 (.mov (.t 10)),
 oO 55 (.iaddr 1 (.t 53) (.t 54)),
 oO 56 (.load false 1 (.t 55)),
 oO 57 (.iaddr 1 (.t 52) (.t 56)),
 oO 58 (.load false 1 (.t 57)),
 oO 59 (.mov (.t 12)),
 oO 60 (.iaddr 1 (.t 58) (.t 59)),
 oO 61 (.load false 1 (.t 60)),
 oO 62 (.iaddr 1 (.t 44) (.t 61)),
 oO 63 (.load false 1 (.t 62)),
 oO 64 (.call 65 [(.t 43),(.t 63)]),
 oO 65 (.bslice true [.int .i64 0] 1 1 [(0,(.t 64))]),
 oO 66 (.append false 1 8 (.t 42) (.t 65)),
 oO 11 (.mov (.t 66))]))
 (.region [oO 40 (.mov (.t 12)),
 oO 41 (.bin .add (.t 40) (.c (.int .i64 1))),
 oO 12 (.mov (.t 41))]))
def yAb : ACode := xRZ
def xNo : List Nat := [0,4,5,13,14,15,16,17,18,19,20,21,22,23,24,25,26,27,28,29,30,31,32,33,34,35,36,37,38,39,40,41,42,43,44,45,46,47,48,49,50,51,52,53,54,55,56,57,58,59,60,61,62,63,64,65,66,67,68,69,70,71,72,73,74,75,76,77,78,79,80,81,82,83,84,85,86,87,88,89,90]
abbrev xNp (s1 s2 s3 s6 s7 s8 s9 s10 s11 s12 : AV) : List AV := [.any,s1,s2,s3,.any,.any,s6,s7,s8,s9,s10,s11,s12,.any,.any,.any,.any,.any,.any,.any,.any,.any,.any,.any,.any,.any,.any,.any,.any,.any,.any,.any,.any,.any,.any,.any,.any,.any,.any,.any,.any,.any,.any,.any,.any,.any,.any,.any,.any,.any,.any,.any,.any,.any,.any,.any,.any,.any,.any,.any,.any,.any,.any,.any,.any,.any,.any,.any,.any,.any,.any,.any,.any,.any,.any,.any,.any,.any,.any,.any,.any,.any,.any,.any,.any,.any,.any,.any,.any,.any,.any]
theorem xVW (s0 s1 s2 s3 s4 s5 s6 s7 s8 s9 s10 s11 s12 s13 s14 s15 s16 s17 s18 s19 s20 s21 s22 s23 s24 s25 s26 s27 s28 s29 s30 s31 s32 s33 s34 s35 s36 s37 s38 s39 s40 s41 s42 s43 s44 s45 s46 s47 s48 s49 s50 s51 s52 s53 s54 s55 s56 s57 s58 s59 s60 s61 s62 s63 s64 s65 s66 s67 s68 s69 s70 s71 s72 s73 s74 s75 s76 s77 s78 s79 s80 s81 s82 s83 s84 s85 s86 s87 s88 s89 s90 : AV) : xAm xNo [s0,s1,s2,s3,s4,s5,s6,s7,s8,s9,s10,s11,s12,s13,s14,s15,s16,s17,s18,s19,s20,s21,s22,s23,s24,s25,s26,s27,s28,s29,s30,s31,s32,s33,s34,s35,s36,s37,s38,s39,s40,s41,s42,s43,s44,s45,s46,s47,s48,s49,s50,s51,s52,s53,s54,s55,s56,s57,s58,s59,s60,s61,s62,s63,s64,s65,s66,s67,s68,s69,s70,s71,s72,s73,s74,s75,s76,s77,s78,s79,s80,s81,s82,s83,s84,s85,s86,s87,s88,s89,s90] = xNp s1 s2 s3 s6 s7 s8 s9 s10 s11 s12 := by kernel_rfl
theorem yCe {prog : Nat → Option AFunc} (s1 s2 s3 s6 s7 s8 s9 s10 s11 s12 : AV) (H : xAc) : (lim prog).loop xNo yAb ⟨xNp s1 s2 s3 s6 s7 s8 s9 s10 s11 s12,H⟩ = xAD (lim prog) xNo yAb (run (lim prog) xRZ ⟨xNp s1 s2 s3 s6 s7 s8 s9 s10 s11 s12,H⟩) := xAd _ _ _ _ (by kernel_rfl)
def xR0 : ACode :=
 .seq (.seq (.region [oO 29 (.mov (.t 10)),
 oO 30 (.mov (.t 1)),
 oO 31 (.len (.t 30)),
 oO 32 (.bin .lss (.t 29) (.t 31))])
 (.cond (.t 32)
 (.skip)
 (.exit 2)))
 (.seq (.block 3 (.seq (.region [oO 11 (.mov (.c (.sl true 0 [])))])
 (.seq (.seq (.region [oO 12 (.mov (.c (.int .i64 0)))])
 (.block 4 (.loop xNo yAb)))
 (.fzs 11 (.region [oO 67 (.mov (.t 9)),
 oO 68 (.mov (.t 11)),
 oO 69 (.bslice true [.sl true 0 []] 1 1 [(0,(.t 68))]),
 oO 70 (.append false 1 24 (.t 67) (.t 69)),
 oO 9 (.mov (.t 70))])))))
 (.region [oO 33 (.mov (.t 10)),
 oO 34 (.bin .add (.t 33) (.c (.int .i64 1))),
 oO 10 (.mov (.t 34))]))
def yAc : ACode := xR0
def xNq : List Nat := [0,4,5,11,12,13,14,15,16,17,18,19,20,21,22,23,24,25,26,27,28,29,30,31,32,33,34,35,36,37,38,39,40,41,42,43,44,45,46,47,48,49,50,51,52,53,54,55,56,57,58,59,60,61,62,63,64,65,66,67,68,69,70,71,72,73,74,75,76,77,78,79,80,81,82,83,84,85,86,87,88,89,90]
abbrev xNr (s1 s2 s3 s6 s7 s8 s9 s10 : AV) : List AV := [.any,s1,s2,s3,.any,.any,s6,s7,s8,s9,s10,.any,.any,.any,.any,.any,.any,.any,.any,.any,.any,.any,.any,.any,.any,.any,.any,.any,.any,.any,.any,.any,.any,.any,.any,.any,.any,.any,.any,.any,.any,.any,.any,.any,.any,.any,.any,.any,.any,.any,.any,.any,.any,.any,.any,.any,.any,.any,.any,.any,.any,.any,.any,.any,.any,.any,.any,.any,.any,.any,.any,.any,.any,.any,.any,.any,.any,.any,.any,.any,.any,.any,.any,.any,.any,.any,.any,.any,.any,.any,.any]
theorem xVX (s0 s1 s2 s3 s4 s5 s6 s7 s8 s9 s10 s11 s12 s13 s14 s15 s16 s17 s18 s19 s20 s21 s22 s23 s24 s25 s26 s27 s28 s29 s30 s31 s32 s33 s34 s35 s36 s37 s38 s39 s40 s41 s42 s43 s44 s45 s46 s47 s48 s49 s50 s51 s52 s53 s54 s55 s56 s57 s58 s59 s60 s61 s62 s63 s64 s65 s66 s67 s68 s69 s70 s71 s72 s73 s74 s75 s76 s77 s78 s79 s80 s81 s82 s83 s84 s85 s86 s87 s88 s89 s90 : AV) : xAm xNq [s0,s1,s2,s3,s4,s5,s6,s7,s8,s9,s10,s11,s12,s13,s14,s15,s16,s17,s18,s19,s20,s21,s22,s23,s24,s25,s26,s27,s28,s29,s30,s31,s32,s33,s34,s35,s36,s37,s38,s39,s40,s41,s42,s43,s44,s45,s46,s47,s48,s49,s50,s51,s52,s53,s54,s55,s56,s57,s58,s59,s60,s61,s62,s63,s64,s65,s66,s67,s68,s69,s70,s71,s72,s73,s74,s75,s76,s77,s78,s79,s80,s81,s82,s83,s84,s85,s86,s87,s88,s89,s90] = xNr s1 s2 s3 s6 s7 s8 s9 s10 := by kernel_rfl
theorem yCf {prog : Nat → Option AFunc} (s1 s2 s3 s6 s7 s8 s9 s10 : AV) (H : xAc) : (lim prog).loop xNq yAc ⟨xNr s1 s2 s3 s6 s7 s8 s9 s10,H⟩ = xAD (lim prog) xNq yAc (run (lim prog) xR0 ⟨xNr s1 s2 s3 s6 s7 s8 s9 s10,H⟩) := xAd _ _ _ _ (by kernel_rfl)
def xR1 : ACode :=
 .seq (.seq (.region [oO 23 (.mov (.t 8)),
 oO 24 (.mov (.t 1)),
 oO 25 (.len (.t 24)),
 oO 26 (.bin .lss (.t 23) (.t 25))])
 (.cond (.t 26)
 (.skip)
 (.exit 0)))
 (.seq (.block 1 (.seq (.region [oO 9 (.mov (.c (.sl true 0 [])))])
 (.seq (.seq (.region [oO 10 (.mov (.c (.int .i64 0)))])
 (.block 2 (.loop xNq yAc)))
 (.seq (.fzs 9 (.region [oO 71 (.faddr 2 (.t 7)),
 oO 72 (.load false 1 (.t 71)),
 oO 73 (.mov (.t 9)),
 oO 74 (.bslice true [.sl true 0 []] 1 1 [(0,(.t 73))]),
 oO 75 (.append false 1 24 (.t 72) (.t 74)),
 oO 76 (.faddr 2 (.t 7)),
 ⟨none,.store 1 (.t 76) (.t 75),none⟩]))
 (.draw 5 [oO 77 (.faddr 3 (.t 7)),
 oO 78 (.load false 1 (.t 77)),
 oO 79 (.faddr 3 (.t 3)),
 oO 80 (.load false 1 (.t 79)),
 oO 81 (.mov (.t 1)),
 oO 82 (.mov (.t 8)),
 oO 83 (.iaddr 1 (.t 81) (.t 82)),
 oO 84 (.load false 1 (.t 83)),
 oO 85 (.iaddr 1 (.t 80) (.t 84)),
 oO 86 (.load false 1 (.t 85)),
 oO 87 (.bslice true [.bool false] 1 1 [(0,(.t 86))]),
 oO 88 (.append false 1 1 (.t 78) (.t 87)),
 oO 89 (.faddr 3 (.t 7)),
 ⟨none,.store 1 (.t 89) (.t 88),none⟩])))))
 (.region [oO 27 (.mov (.t 8)),
 oO 28 (.bin .add (.t 27) (.c (.int .i64 1))),
 oO 8 (.mov (.t 28))]))
def yAd : ACode := xR1
def xNs : List Nat := [0,4,5,9,10,11,12,13,14,15,16,17,18,19,20,21,22,23,24,25,26,27,28,29,30,31,32,33,34,35,36,37,38,39,40,41,42,43,44,45,46,47,48,49,50,51,52,53,54,55,56,57,58,59,60,61,62,63,64,65,66,67,68,69,70,71,72,73,74,75,76,77,78,79,80,81,82,83,84,85,86,87,88,89,90]
abbrev xNt (s1 s2 s3 s6 s7 s8 : AV) : List AV := [.any,s1,s2,s3,.any,.any,s6,s7,s8,.any,.any,.any,.any,.any,.any,.any,.any,.any,.any,.any,.any,.any,.any,.any,.any,.any,.any,.any,.any,.any,.any,.any,.any,.any,.any,.any,.any,.any,.any,.any,.any,.any,.any,.any,.any,.any,.any,.any,.any,.any,.any,.any,.any,.any,.any,.any,.any,.any,.any,.any,.any,.any,.any,.any,.any,.any,.any,.any,.any,.any,.any,.any,.any,.any,.any,.any,.any,.any,.any,.any,.any,.any,.any,.any,.any,.any,.any,.any,.any,.any,.any]
theorem xVY (s0 s1 s2 s3 s4 s5 s6 s7 s8 s9 s10 s11 s12 s13 s14 s15 s16 s17 s18 s19 s20 s21 s22 s23 s24 s25 s26 s27 s28 s29 s30 s31 s32 s33 s34 s35 s36 s37 s38 s39 s40 s41 s42 s43 s44 s45 s46 s47 s48 s49 s50 s51 s52 s53 s54 s55 s56 s57 s58 s59 s60 s61 s62 s63 s64 s65 s66 s67 s68 s69 s70 s71 s72 s73 s74 s75 s76 s77 s78 s79 s80 s81 s82 s83 s84 s85 s86 s87 s88 s89 s90 : AV) : xAm xNs [s0,s1,s2,s3,s4,s5,s6,s7,s8,s9,s10,s11,s12,s13,s14,s15,s16,s17,s18,s19,s20,s21,s22,s23,s24,s25,s26,s27,s28,s29,s30,s31,s32,s33,s34,s35,s36,s37,s38,s39,s40,s41,s42,s43,s44,s45,s46,s47,s48,s49,s50,s51,s52,s53,s54,s55,s56,s57,s58,s59,s60,s61,s62,s63,s64,s65,s66,s67,s68,s69,s70,s71,s72,s73,s74,s75,s76,s77,s78,s79,s80,s81,s82,s83,s84,s85,s86,s87,s88,s89,s90] = xNt s1 s2 s3 s6 s7 s8 := by kernel_rfl
theorem yCg {prog : Nat → Option AFunc} (s1 s2 s3 s6 s7 s8 : AV) (H : xAc) : (lim prog).loop xNs yAd ⟨xNt s1 s2 s3 s6 s7 s8,H⟩ = xAD (lim prog) xNs yAd (run (lim prog) xR1 ⟨xNt s1 s2 s3 s6 s7 s8,H⟩) := xAd _ _ _ _ (by kernel_rfl)
def a57 : AFunc := ⟨91,
 .seq (.region [oO 3 (.box (.t 0)),
 oO 6 (.box (.c (.agg [.int .i64 0,.int .i64 0,.sl true 0 [],.sl true 0 []])))])
 (.seq (.draw 11 [oO 13 (.faddr 0 (.t 3)),
 oO 14 (.load false 1 (.t 13)),
 oO 15 (.mov (.t 1)),
 oO 16 (.mov (.t 2)),
 oO 17 (.faddr 1 (.t 3)),
 oO 18 (.load false 1 (.t 17)),
 oO 19 (.iaddr 1 (.t 16) (.t 18)),
 oO 20 (.load false 1 (.t 19)),
 oO 21 (.call 65 [(.t 15),(.t 20)]),
 oO 22 (.build [.int .i64 0,.int .i64 0,.sl true 0 [],.sl true 0 []] [(0,1,(.t 14)),(1,1,(.t 21))]),
 oO 7 (.box (.c (.agg [.int .i64 0,.int .i64 0,.sl true 0 [],.sl true 0 []]))),
 ⟨none,.store 4 (.t 7) (.t 22),none⟩])
 (.seq (.seq (.region [oO 8 (.mov (.c (.int .i64 0)))])
 (.block 0 (.loop xNs yAd)))
 (.seq (.region [oO 90 (.load true 4 (.t 7)),
 ⟨none,.store 4 (.t 6) (.t 90),none⟩])
 (.ret)))),
 [.cell 6 true 4]⟩
def xG6 : ACode :=
 .seq (.seq (.region [oO 47 (.mov (.t 8)),
 oO 48 (.faddr 0 (.t 1)),
 oO 49 (.load false 1 (.t 48)),
 oO 50 (.bin .shl (.c (.int .i64 1)) (.t 49)),
 oO 51 (.bin .lss (.t 47) (.t 50))])
 (.cond (.t 51)
 (.skip)
 (.exit 6)))
 (.seq (.block 7 (.seq (.draw 16 [oO 54 (.faddr 2 (.t 1)),
 oO 55 (.load false 1 (.t 54)),
 oO 56 (.mov (.t 6)),
 oO 57 (.mov (.t 7)),
 oO 58 (.iaddr 2 (.t 56) (.t 57)),
 oO 59 (.arrat 1 2 (.t 58) (.c (.int .i64 0))),
 oO 60 (.load false 1 (.t 59)),
 oO 61 (.iaddr 1 (.t 55) (.t 60)),
 oO 62 (.load false 1 (.t 61)),
 oO 63 (.mov (.t 6)),
 oO 64 (.mov (.t 7)),
 oO 65 (.iaddr 2 (.t 63) (.t 64)),
 oO 66 (.arrat 1 2 (.t 65) (.c (.int .i64 1))),
 oO 67 (.load false 1 (.t 66)),
 oO 68 (.iaddr 1 (.t 62) (.t 67)),
 oO 69 (.load false 1 (.t 68)),
 oO 70 (.mov (.t 8)),
 oO 71 (.iaddr 1 (.t 69) (.t 70)),
 oO 72 (.load false 1 (.t 71)),
 oO 9 (.mov (.t 72))])
 (.seq (.region [oO 73 (.mov (.t 3)),
 oO 74 (.mov (.t 9)),
 oO 75 (.call 65 [(.t 73),(.t 74)]),
 oO 76 (.bin .lss (.t 75) (.c (.int .i64 0)))])
 (.cond (.t 76)
 (.region [oO 77 (.mov (.t 3)),
 oO 78 (.mov (.t 9)),
 oO 79 (.bslice true [.int .i64 0] 1 1 [(0,(.t 78))]),
 oO 80 (.append false 1 8 (.t 77) (.t 79)),
 oO 3 (.mov (.t 80))])
 (.skip)))))
 (.region [oO 52 (.mov (.t 8)),
 oO 53 (.bin .add (.t 52) (.c (.int .i64 1))),
 oO 8 (.mov (.t 53))]))
def yAe : ACode := xG6
def xNu : List Nat := [0,2,9,10,11,12,13,14,15,16,17,18,19,20,21,22,23,24,25,26,27,28,29,30,31,32,33,34,35,36,37,38,39,40,41,42,43,44,45,46,47,48,49,50,51,52,53,54,55,56,57,58,59,60,61,62,63,64,65,66,67,68,69,70,71,72,73,74,75,76,77,78,79,80,81]
abbrev xNv (s1 s3 s4 s5 s6 s7 s8 : AV) : List AV := [.any,s1,.any,s3,s4,s5,s6,s7,s8,.any,.any,.any,.any,.any,.any,.any,.any,.any,.any,.any,.any,.any,.any,.any,.any,.any,.any,.any,.any,.any,.any,.any,.any,.any,.any,.any,.any,.any,.any,.any,.any,.any,.any,.any,.any,.any,.any,.any,.any,.any,.any,.any,.any,.any,.any,.any,.any,.any,.any,.any,.any,.any,.any,.any,.any,.any,.any,.any,.any,.any,.any,.any,.any,.any,.any,.any,.any,.any,.any,.any,.any,.any]
theorem xG7 (s0 s1 s2 s3 s4 s5 s6 s7 s8 s9 s10 s11 s12 s13 s14 s15 s16 s17 s18 s19 s20 s21 s22 s23 s24 s25 s26 s27 s28 s29 s30 s31 s32 s33 s34 s35 s36 s37 s38 s39 s40 s41 s42 s43 s44 s45 s46 s47 s48 s49 s50 s51 s52 s53 s54 s55 s56 s57 s58 s59 s60 s61 s62 s63 s64 s65 s66 s67 s68 s69 s70 s71 s72 s73 s74 s75 s76 s77 s78 s79 s80 s81 : AV) : xAm xNu [s0,s1,s2,s3,s4,s5,s6,s7,s8,s9,s10,s11,s12,s13,s14,s15,s16,s17,s18,s19,s20,s21,s22,s23,s24,s25,s26,s27,s28,s29,s30,s31,s32,s33,s34,s35,s36,s37,s38,s39,s40,s41,s42,s43,s44,s45,s46,s47,s48,s49,s50,s51,s52,s53,s54,s55,s56,s57,s58,s59,s60,s61,s62,s63,s64,s65,s66,s67,s68,s69,s70,s71,s72,s73,s74,s75,s76,s77,s78,s79,s80,s81] = xNv s1 s3 s4 s5 s6 s7 s8 := by kernel_rfl
theorem xVZ {prog : Nat → Option AFunc} (s1 s3 s4 s5 s6 s7 s8 : AV) (H : xAc) : (lim prog).loop xNu yAe ⟨xNv s1 s3 s4 s5 s6 s7 s8,H⟩ = xAD (lim prog) xNu yAe (run (lim prog) xG6 ⟨xNv s1 s3 s4 s5 s6 s7 s8,H⟩) := xAd _ _ _ _ (by kernel_rfl)
def xNw : ACode :=
 .seq (.seq (.region [oO 43 (.mov (.t 7)),
 oO 44 (.bin .lss (.t 43) (.c (.int .i64 2)))])
 (.cond (.t 44)
 (.skip)
 (.exit 4)))
 (.seq (.block 5 (.seq (.region [oO 8 (.mov (.c (.int .i64 0)))])
 (.block 6 (.loop xNu yAe))))
 (.region [oO 45 (.mov (.t 7)),
 oO 46 (.bin .add (.t 45) (.c (.int .i64 1))),
 oO 7 (.mov (.t 46))]))
def xUI : ACode := xNw
def xG8 : List Nat := [0,2,8,9,10,11,12,13,14,15,16,17,18,19,20,21,22,23,24,25,26,27,28,29,30,31,32,33,34,35,36,37,38,39,40,41,42,43,44,45,46,47,48,49,50,51,52,53,54,55,56,57,58,59,60,61,62,63,64,65,66,67,68,69,70,71,72,73,74,75,76,77,78,79,80,81]
abbrev xEL (s1 s3 s4 s5 s6 s7 : AV) : List AV := [.any,s1,.any,s3,s4,s5,s6,s7,.any,.any,.any,.any,.any,.any,.any,.any,.any,.any,.any,.any,.any,.any,.any,.any,.any,.any,.any,.any,.any,.any,.any,.any,.any,.any,.any,.any,.any,.any,.any,.any,.any,.any,.any,.any,.any,.any,.any,.any,.any,.any,.any,.any,.any,.any,.any,.any,.any,.any,.any,.any,.any,.any,.any,.any,.any,.any,.any,.any,.any,.any,.any,.any,.any,.any,.any,.any,.any,.any,.any,.any,.any,.any]
theorem xR2 (s0 s1 s2 s3 s4 s5 s6 s7 s8 s9 s10 s11 s12 s13 s14 s15 s16 s17 s18 s19 s20 s21 s22 s23 s24 s25 s26 s27 s28 s29 s30 s31 s32 s33 s34 s35 s36 s37 s38 s39 s40 s41 s42 s43 s44 s45 s46 s47 s48 s49 s50 s51 s52 s53 s54 s55 s56 s57 s58 s59 s60 s61 s62 s63 s64 s65 s66 s67 s68 s69 s70 s71 s72 s73 s74 s75 s76 s77 s78 s79 s80 s81 : AV) : xAm xG8 [s0,s1,s2,s3,s4,s5,s6,s7,s8,s9,s10,s11,s12,s13,s14,s15,s16,s17,s18,s19,s20,s21,s22,s23,s24,s25,s26,s27,s28,s29,s30,s31,s32,s33,s34,s35,s36,s37,s38,s39,s40,s41,s42,s43,s44,s45,s46,s47,s48,s49,s50,s51,s52,s53,s54,s55,s56,s57,s58,s59,s60,s61,s62,s63,s64,s65,s66,s67,s68,s69,s70,s71,s72,s73,s74,s75,s76,s77,s78,s79,s80,s81] = xEL s1 s3 s4 s5 s6 s7 := by kernel_rfl
theorem xV0 {prog : Nat → Option AFunc} (s1 s3 s4 s5 s6 s7 : AV) (H : xAc) : (lim prog).loop xG8 xUI ⟨xEL s1 s3 s4 s5 s6 s7,H⟩ = xAD (lim prog) xG8 xUI (run (lim prog) xNw ⟨xEL s1 s3 s4 s5 s6 s7,H⟩) := xAd _ _ _ _ (by kernel_rfl)
def xR3 : ACode :=
 .seq (.seq (.region [oO 19 (.mov (.t 5)),
 oO 20 (.mov (.t 4)),
 oO 21 (.bin .leq (.t 19) (.t 20))])
 (.cond (.t 21)
 (.skip)
 (.exit 2)))
 (.seq (.block 3 (.seq (.draw 18 [oO 24 (.mov (.t 3)),
 oO 25 (.mov (.t 5)),
 oO 26 (.iaddr 1 (.t 24) (.t 25)),
 oO 27 (.load false 1 (.t 26)),
 oO 28 (.mov (.t 3)),
 oO 29 (.mov (.t 4)),
 oO 30 (.iaddr 1 (.t 28) (.t 29)),
 oO 31 (.load false 1 (.t 30)),
 oO 32 (.build [.int .i64 0,.int .i64 0] [(0,1,(.t 27)),(1,1,(.t 31))]),
 oO 33 (.mov (.t 3)),
 oO 34 (.mov (.t 4)),
 oO 35 (.iaddr 1 (.t 33) (.t 34)),
 oO 36 (.load false 1 (.t 35)),
 oO 37 (.mov (.t 3)),
 oO 38 (.mov (.t 5)),
 oO 39 (.iaddr 1 (.t 37) (.t 38)),
 oO 40 (.load false 1 (.t 39)),
 oO 41 (.build [.int .i64 0,.int .i64 0] [(0,1,(.t 36)),(1,1,(.t 40))]),
 oO 42 (.bslice true [.int .i64 0,.int .i64 0] 2 2 [(0,(.t 32)),(1,(.t 41))]),
 oO 6 (.mov (.t 42))])
 (.seq (.region [oO 7 (.mov (.c (.int .i64 0)))])
 (.block 4 (.loop xG8 xUI)))))
 (.region [oO 22 (.mov (.t 5)),
 oO 23 (.bin .add (.t 22) (.c (.int .i64 1))),
 oO 5 (.mov (.t 23))]))
def yAf : ACode := xR3
def xNx : List Nat := [0,2,6,7,8,9,10,11,12,13,14,15,16,17,18,19,20,21,22,23,24,25,26,27,28,29,30,31,32,33,34,35,36,37,38,39,40,41,42,43,44,45,46,47,48,49,50,51,52,53,54,55,56,57,58,59,60,61,62,63,64,65,66,67,68,69,70,71,72,73,74,75,76,77,78,79,80,81]
abbrev xNy (s1 s3 s4 s5 : AV) : List AV := [.any,s1,.any,s3,s4,s5,.any,.any,.any,.any,.any,.any,.any,.any,.any,.any,.any,.any,.any,.any,.any,.any,.any,.any,.any,.any,.any,.any,.any,.any,.any,.any,.any,.any,.any,.any,.any,.any,.any,.any,.any,.any,.any,.any,.any,.any,.any,.any,.any,.any,.any,.any,.any,.any,.any,.any,.any,.any,.any,.any,.any,.any,.any,.any,.any,.any,.any,.any,.any,.any,.any,.any,.any,.any,.any,.any,.any,.any,.any,.any,.any,.any]
theorem xV1 (s0 s1 s2 s3 s4 s5 s6 s7 s8 s9 s10 s11 s12 s13 s14 s15 s16 s17 s18 s19 s20 s21 s22 s23 s24 s25 s26 s27 s28 s29 s30 s31 s32 s33 s34 s35 s36 s37 s38 s39 s40 s41 s42 s43 s44 s45 s46 s47 s48 s49 s50 s51 s52 s53 s54 s55 s56 s57 s58 s59 s60 s61 s62 s63 s64 s65 s66 s67 s68 s69 s70 s71 s72 s73 s74 s75 s76 s77 s78 s79 s80 s81 : AV) : xAm xNx [s0,s1,s2,s3,s4,s5,s6,s7,s8,s9,s10,s11,s12,s13,s14,s15,s16,s17,s18,s19,s20,s21,s22,s23,s24,s25,s26,s27,s28,s29,s30,s31,s32,s33,s34,s35,s36,s37,s38,s39,s40,s41,s42,s43,s44,s45,s46,s47,s48,s49,s50,s51,s52,s53,s54,s55,s56,s57,s58,s59,s60,s61,s62,s63,s64,s65,s66,s67,s68,s69,s70,s71,s72,s73,s74,s75,s76,s77,s78,s79,s80,s81] = xNy s1 s3 s4 s5 := by kernel_rfl
theorem yCh {prog : Nat → Option AFunc} (s1 s3 s4 s5 : AV) (H : xAc) : (lim prog).loop xNx yAf ⟨xNy s1 s3 s4 s5,H⟩ = xAD (lim prog) xNx yAf (run (lim prog) xR3 ⟨xNy s1 s3 s4 s5,H⟩) := xAd _ _ _ _ (by kernel_rfl)
def xR4 : ACode :=
 .seq (.seq (.region [oO 13 (.mov (.t 4)),
 oO 14 (.mov (.t 3)),
 oO 15 (.len (.t 14)),
 oO 16 (.bin .lss (.t 13) (.t 15))])
 (.cond (.t 16)
 (.skip)
 (.exit 0)))
 (.seq (.block 1 (.seq (.region [oO 5 (.mov (.c (.int .i64 0)))])
 (.block 2 (.loop xNx yAf))))
 (.region [oO 17 (.mov (.t 4)),
 oO 18 (.bin .add (.t 17) (.c (.int .i64 1))),
 oO 4 (.mov (.t 18))]))
def xV2 : ACode := xR4
def xJQ : List Nat := [0,2,5,6,7,8,9,10,11,12,13,14,15,16,17,18,19,20,21,22,23,24,25,26,27,28,29,30,31,32,33,34,35,36,37,38,39,40,41,42,43,44,45,46,47,48,49,50,51,52,53,54,55,56,57,58,59,60,61,62,63,64,65,66,67,68,69,70,71,72,73,74,75,76,77,78,79,80,81]
abbrev xG9 (s1 s3 s4 : AV) : List AV := [.any,s1,.any,s3,s4,.any,.any,.any,.any,.any,.any,.any,.any,.any,.any,.any,.any,.any,.any,.any,.any,.any,.any,.any,.any,.any,.any,.any,.any,.any,.any,.any,.any,.any,.any,.any,.any,.any,.any,.any,.any,.any,.any,.any,.any,.any,.any,.any,.any,.any,.any,.any,.any,.any,.any,.any,.any,.any,.any,.any,.any,.any,.any,.any,.any,.any,.any,.any,.any,.any,.any,.any,.any,.any,.any,.any,.any,.any,.any,.any,.any,.any]
theorem xV3 (s0 s1 s2 s3 s4 s5 s6 s7 s8 s9 s10 s11 s12 s13 s14 s15 s16 s17 s18 s19 s20 s21 s22 s23 s24 s25 s26 s27 s28 s29 s30 s31 s32 s33 s34 s35 s36 s37 s38 s39 s40 s41 s42 s43 s44 s45 s46 s47 s48 s49 s50 s51 s52 s53 s54 s55 s56 s57 s58 s59 s60 s61 s62 s63 s64 s65 s66 s67 s68 s69 s70 s71 s72 s73 s74 s75 s76 s77 s78 s79 s80 s81 : AV) : xAm xJQ [s0,s1,s2,s3,s4,s5,s6,s7,s8,s9,s10,s11,s12,s13,s14,s15,s16,s17,s18,s19,s20,s21,s22,s23,s24,s25,s26,s27,s28,s29,s30,s31,s32,s33,s34,s35,s36,s37,s38,s39,s40,s41,s42,s43,s44,s45,s46,s47,s48,s49,s50,s51,s52,s53,s54,s55,s56,s57,s58,s59,s60,s61,s62,s63,s64,s65,s66,s67,s68,s69,s70,s71,s72,s73,s74,s75,s76,s77,s78,s79,s80,s81] = xG9 s1 s3 s4 := by kernel_rfl
theorem yCi {prog : Nat → Option AFunc} (s1 s3 s4 : AV) (H : xAc) : (lim prog).loop xJQ xV2 ⟨xG9 s1 s3 s4,H⟩ = xAD (lim prog) xJQ xV2 (run (lim prog) xR4 ⟨xG9 s1 s3 s4,H⟩) := xAd _ _ _ _ (by kernel_rfl)
def a58 : AFunc := ⟨82,
 .seq (.region [oO 1 (.box (.t 0)),
 oO 2 (.mov (.c (.sl true 0 [])))])
 (.seq (.region [oO 10 (.faddr 1 (.t 1)),
 oO 11 (.load false 1 (.t 10)),
 oO 12 (.bslice false [.int .i64 0] 1 1 [(0,(.t 11))]),
 oO 3 (.mov (.t 12))])
 (.seq (.seq (.region [oO 4 (.mov (.c (.int .i64 0)))])
 (.block 0 (.loop xJQ xV2)))
 (.seq (.region [oO 81 (.mov (.t 3)),
 oO 2 (.mov (.t 81))])
 (.ret)))),
 [.tmp 2]⟩
def xR5 : ACode :=
 .seq (.seq (.region [oO 5 (.mov (.t 4)),
 oO 6 (.faddr 2 (.t 1)),
 oO 7 (.load false 1 (.t 6)),
 oO 8 (.len (.t 7)),
 oO 9 (.bin .lss (.t 5) (.t 8))])
 (.cond (.t 9)
 (.skip)
 (.exit 0)))
 (.seq (.block 1 (.region [oO 12 (.mov (.t 3)),
 oO 13 (.mov (.t 4)),
 oO 14 (.bslice true [.int .i64 0] 1 1 [(0,(.t 13))]),
 oO 15 (.append false 1 8 (.t 12) (.t 14)),
 oO 3 (.mov (.t 15))]))
 (.region [oO 10 (.mov (.t 4)),
 oO 11 (.bin .add (.t 10) (.c (.int .i64 1))),
 oO 4 (.mov (.t 11))]))
def yAg : ACode := xR5
def xNz : List Nat := [0,2,5,6,7,8,9,10,11,12,13,14,15,16]
abbrev xNA (s1 s3 s4 : AV) : List AV := [.any,s1,.any,s3,s4,.any,.any,.any,.any,.any,.any,.any,.any,.any,.any,.any,.any]
theorem xV4 (s0 s1 s2 s3 s4 s5 s6 s7 s8 s9 s10 s11 s12 s13 s14 s15 s16 : AV) : xAm xNz [s0,s1,s2,s3,s4,s5,s6,s7,s8,s9,s10,s11,s12,s13,s14,s15,s16] = xNA s1 s3 s4 := by kernel_rfl
theorem yCj {prog : Nat → Option AFunc} (s1 s3 s4 : AV) (H : xAc) : (lim prog).loop xNz yAg ⟨xNA s1 s3 s4,H⟩ = xAD (lim prog) xNz yAg (run (lim prog) xR5 ⟨xNA s1 s3 s4,H⟩) := xAd _ _ _ _ (by kernel_rfl)
def a59 : AFunc := ⟨17,
 .seq (.region [oO 1 (.box (.t 0)),
 oO 2 (.mov (.c (.sl true 0 [])))])
 (.seq (.region [oO 3 (.mov (.c (.sl true 0 [])))])
 (.seq (.seq (.region [oO 4 (.mov (.c (.int .i64 0)))])
 (.block 0 (.loop xNz yAg)))
 (.seq (.region [oO 16 (.mov (.t 3)),
 oO 2 (.mov (.t 16))])
 (.ret)))),
 [.tmp 2]⟩
def xR6 : ACode :=
 .seq (.region [oO 52 (.bin .lss (.t 51) (.t 50))])
 (.seq (.cond (.t 52)
 (.skip)
 (.exit 6))
 (.seq (.block 7 (.seq (.region [oO 53 (.mov (.t 51)),
 oO 10 (.mov (.t 53))])
 (.seq (.region [oO 54 (.mov (.t 8)),
 oO 55 (.faddr 2 (.t 1)),
 oO 56 (.load false 1 (.t 55)),
 oO 57 (.mov (.t 6)),
 oO 58 (.iaddr 1 (.t 56) (.t 57)),
 oO 59 (.load false 1 (.t 58)),
 oO 60 (.mov (.t 9)),
 oO 61 (.iaddr 1 (.t 59) (.t 60)),
 oO 62 (.load false 1 (.t 61)),
 oO 63 (.mov (.t 10)),
 oO 64 (.iaddr 1 (.t 62) (.t 63)),
 oO 65 (.load false 1 (.t 64)),
 oO 66 (.icall (.t 54) [(.t 65)])])
 (.region [oO 67 (.mov (.t 8)),
 oO 68 (.faddr 2 (.t 1)),
 oO 69 (.load false 1 (.t 68)),
 oO 70 (.mov (.t 9)),
 oO 71 (.iaddr 1 (.t 69) (.t 70)),
 oO 72 (.load false 1 (.t 71)),
 oO 73 (.mov (.t 6)),
 oO 74 (.iaddr 1 (.t 72) (.t 73)),
 oO 75 (.load false 1 (.t 74)),
 oO 76 (.mov (.t 10)),
 oO 77 (.iaddr 1 (.t 75) (.t 76)),
 oO 78 (.load false 1 (.t 77)),
 oO 79 (.icall (.t 67) [(.t 78)])]))))
 (.region [oO 80 (.bin .add (.t 51) (.c (.int .i64 1))),
 oO 51 (.mov (.t 80))])))
def yAh : ACode := xR6
def xNB : List Nat := [0,10,11,12,13,14,15,16,17,18,19,20,21,24,25,26,27,28,29,30,31,32,33,34,35,36,37,40,41,42,43,44,45,46,47,48,49,52,53,54,55,56,57,58,59,60,61,62,63,64,65,66,67,68,69,70,71,72,73,74,75,76,77,78,79,80,81,82,83,84,85,86,87,88,89,90,91,92,93,94,95,96,97,98,99,100,101,102,103,104,105,106,107,108,109,110]
abbrev xNC (s1 s2 s3 s4 s5 s6 s7 s8 s9 s22 s23 s38 s39 s50 s51 : AV) : List AV := [.any,s1,s2,s3,s4,s5,s6,s7,s8,s9,.any,.any,.any,.any,.any,.any,.any,.any,.any,.any,.any,.any,s22,s23,.any,.any,.any,.any,.any,.any,.any,.any,.any,.any,.any,.any,.any,.any,s38,s39,.any,.any,.any,.any,.any,.any,.any,.any,.any,.any,s50,s51,.any,.any,.any,.any,.any,.any,.any,.any,.any,.any,.any,.any,.any,.any,.any,.any,.any,.any,.any,.any,.any,.any,.any,.any,.any,.any,.any,.any,.any,.any,.any,.any,.any,.any,.any,.any,.any,.any,.any,.any,.any,.any,.any,.any,.any,.any,.any,.any,.any,.any,.any,.any,.any,.any,.any,.any,.any,.any,.any]
theorem xV5 (s0 s1 s2 s3 s4 s5 s6 s7 s8 s9 s10 s11 s12 s13 s14 s15 s16 s17 s18 s19 s20 s21 s22 s23 s24 s25 s26 s27 s28 s29 s30 s31 s32 s33 s34 s35 s36 s37 s38 s39 s40 s41 s42 s43 s44 s45 s46 s47 s48 s49 s50 s51 s52 s53 s54 s55 s56 s57 s58 s59 s60 s61 s62 s63 s64 s65 s66 s67 s68 s69 s70 s71 s72 s73 s74 s75 s76 s77 s78 s79 s80 s81 s82 s83 s84 s85 s86 s87 s88 s89 s90 s91 s92 s93 s94 s95 s96 s97 s98 s99 s100 s101 s102 s103 s104 s105 s106 s107 s108 s109 s110 : AV) : xAm xNB [s0,s1,s2,s3,s4,s5,s6,s7,s8,s9,s10,s11,s12,s13,s14,s15,s16,s17,s18,s19,s20,s21,s22,s23,s24,s25,s26,s27,s28,s29,s30,s31,s32,s33,s34,s35,s36,s37,s38,s39,s40,s41,s42,s43,s44,s45,s46,s47,s48,s49,s50,s51,s52,s53,s54,s55,s56,s57,s58,s59,s60,s61,s62,s63,s64,s65,s66,s67,s68,s69,s70,s71,s72,s73,s74,s75,s76,s77,s78,s79,s80,s81,s82,s83,s84,s85,s86,s87,s88,s89,s90,s91,s92,s93,s94,s95,s96,s97,s98,s99,s100,s101,s102,s103,s104,s105,s106,s107,s108,s109,s110] = xNC s1 s2 s3 s4 s5 s6 s7 s8 s9 s22 s23 s38 s39 s50 s51 := by kernel_rfl
theorem yCk {prog : Nat → Option AFunc} (s1 s2 s3 s4 s5 s6 s7 s8 s9 s22 s23 s38 s39 s50 s51 : AV) (H : xAc) : (lim prog).loop xNB yAh ⟨xNC s1 s2 s3 s4 s5 s6 s7 s8 s9 s22 s23 s38 s39 s50 s51,H⟩ = xAD (lim prog) xNB yAh (run (lim prog) xR6 ⟨xNC s1 s2 s3 s4 s5 s6 s7 s8 s9 s22 s23 s38 s39 s50 s51,H⟩) := xAd _ _ _ _ (by kernel_rfl)
def xR7 : ACode :=
 .seq (.region [oO 40 (.bin .lss (.t 39) (.t 38))])
 (.seq (.cond (.t 40)
 (.skip)
 (.exit 4))
 (.seq (.block 5 (.seq (.region [oO 41 (.mov (.t 39)),
 oO 9 (.mov (.t 41))])
 (.seq (.region [oO 42 (.faddr 2 (.t 1)),
 oO 43 (.load false 1 (.t 42)),
 oO 44 (.mov (.t 6)),
 oO 45 (.iaddr 1 (.t 43) (.t 44)),
 oO 46 (.load false 1 (.t 45)),
 oO 47 (.mov (.t 9)),
 oO 48 (.iaddr 1 (.t 46) (.t 47)),
 oO 49 (.load false 1 (.t 48)),
 oO 50 (.len (.t 49)),
 oO 51 (.mov (.c (.int .i64 0)))])
 (.block 6 (.loop xNB yAh)))))
 (.region [oO 81 (.bin .add (.t 39) (.c (.int .i64 1))),
 oO 39 (.mov (.t 81))])))
def yAi : ACode := xR7
def xND : List Nat := [0,9,10,11,12,13,14,15,16,17,18,19,20,21,24,25,26,27,28,29,30,31,32,33,34,35,36,37,40,41,42,43,44,45,46,47,48,49,50,51,52,53,54,55,56,57,58,59,60,61,62,63,64,65,66,67,68,69,70,71,72,73,74,75,76,77,78,79,80,81,82,83,84,85,86,87,88,89,90,91,92,93,94,95,96,97,98,99,100,101,102,103,104,105,106,107,108,109,110]
abbrev xNE (s1 s2 s3 s4 s5 s6 s7 s8 s22 s23 s38 s39 : AV) : List AV := [.any,s1,s2,s3,s4,s5,s6,s7,s8,.any,.any,.any,.any,.any,.any,.any,.any,.any,.any,.any,.any,.any,s22,s23,.any,.any,.any,.any,.any,.any,.any,.any,.any,.any,.any,.any,.any,.any,s38,s39,.any,.any,.any,.any,.any,.any,.any,.any,.any,.any,.any,.any,.any,.any,.any,.any,.any,.any,.any,.any,.any,.any,.any,.any,.any,.any,.any,.any,.any,.any,.any,.any,.any,.any,.any,.any,.any,.any,.any,.any,.any,.any,.any,.any,.any,.any,.any,.any,.any,.any,.any,.any,.any,.any,.any,.any,.any,.any,.any,.any,.any,.any,.any,.any,.any,.any,.any,.any,.any,.any,.any]
theorem xR8 (s0 s1 s2 s3 s4 s5 s6 s7 s8 s9 s10 s11 s12 s13 s14 s15 s16 s17 s18 s19 s20 s21 s22 s23 s24 s25 s26 s27 s28 s29 s30 s31 s32 s33 s34 s35 s36 s37 s38 s39 s40 s41 s42 s43 s44 s45 s46 s47 s48 s49 s50 s51 s52 s53 s54 s55 s56 s57 s58 s59 s60 s61 s62 s63 s64 s65 s66 s67 s68 s69 s70 s71 s72 s73 s74 s75 s76 s77 s78 s79 s80 s81 s82 s83 s84 s85 s86 s87 s88 s89 s90 s91 s92 s93 s94 s95 s96 s97 s98 s99 s100 s101 s102 s103 s104 s105 s106 s107 s108 s109 s110 : AV) : xAm xND [s0,s1,s2,s3,s4,s5,s6,s7,s8,s9,s10,s11,s12,s13,s14,s15,s16,s17,s18,s19,s20,s21,s22,s23,s24,s25,s26,s27,s28,s29,s30,s31,s32,s33,s34,s35,s36,s37,s38,s39,s40,s41,s42,s43,s44,s45,s46,s47,s48,s49,s50,s51,s52,s53,s54,s55,s56,s57,s58,s59,s60,s61,s62,s63,s64,s65,s66,s67,s68,s69,s70,s71,s72,s73,s74,s75,s76,s77,s78,s79,s80,s81,s82,s83,s84,s85,s86,s87,s88,s89,s90,s91,s92,s93,s94,s95,s96,s97,s98,s99,s100,s101,s102,s103,s104,s105,s106,s107,s108,s109,s110] = xNE s1 s2 s3 s4 s5 s6 s7 s8 s22 s23 s38 s39 := by kernel_rfl
theorem yCl {prog : Nat → Option AFunc} (s1 s2 s3 s4 s5 s6 s7 s8 s22 s23 s38 s39 : AV) (H : xAc) : (lim prog).loop xND yAi ⟨xNE s1 s2 s3 s4 s5 s6 s7 s8 s22 s23 s38 s39,H⟩ = xAD (lim prog) xND yAi (run (lim prog) xR7 ⟨xNE s1 s2 s3 s4 s5 s6 s7 s8 s22 s23 s38 s39,H⟩) := xAd _ _ _ _ (by kernel_rfl)
def xNF : ACode :=
 .seq (.region [oO 24 (.bin .lss (.t 23) (.t 22))])
 (.seq (.cond (.t 24)
 (.skip)
 (.exit 2))
 (.seq (.block 3 (.seq (.region [oO 25 (.mov (.t 23)),
 oO 6 (.mov (.t 25))])
 (.seq (.region [oO 26 (.faddr 3 (.t 1)),
 oO 27 (.load false 1 (.t 26)),
 oO 28 (.mov (.t 6)),
 oO 29 (.iaddr 1 (.t 27) (.t 28)),
 oO 30 (.load false 1 (.t 29)),
 oO 31 (.call 105 [(.t 30)]),
 oO 32 (.sbytes false (.t 31)),
 oO 7 (.box (.c (.sl true 0 []))),
 ⟨none,.store 1 (.t 7) (.t 32),none⟩])
 (.seq (.region [oO 33 (.mkfunc 106 [(.t 7),(.t 2)]),
 oO 8 (.mov (.t 33))])
 (.seq (.region [oO 34 (.mov (.t 8)),
 oO 35 (.mov (.t 6)),
 oO 36 (.icall (.t 34) [(.t 35)])])
 (.seq (.seq (.region [oO 37 (.load false 1 (.t 2)),
 oO 38 (.len (.t 37)),
 oO 39 (.mov (.c (.int .i64 0)))])
 (.block 4 (.loop xND yAi)))
 (.seq (.region [oO 83 (.mov (.t 4)),
 oO 84 (.load false 1 (.t 7)),
 oO 85 (.bstr (.t 84)),
 oO 86 (.mlook [1] true (.int .i64 0) (.t 83) (.t 85)),
 oO 82 (.mov (.t 86)),
 oO 87 (.ext 0 (.t 82)),
 oO 88 (.ext 1 (.t 82)),
 oO 11 (.mov (.t 87)),
 oO 12 (.mov (.t 88))])
 (.seq (.seq (.region [oO 89 (.mov (.t 12)),
 oO 90 (.un .not (.t 89))])
 (.cond (.t 90)
 (.seq (.region [oO 91 (.mov (.t 4)),
 oO 92 (.mlen (.t 91)),
 oO 11 (.mov (.t 92))])
 (.region [oO 93 (.mov (.t 4)),
 oO 94 (.load false 1 (.t 7)),
 oO 95 (.bstr (.t 94)),
 oO 96 (.mov (.t 11)),
 ⟨none,.mupd [1] (.t 93) (.t 95) (.t 96),none⟩]))
 (.skip)))
 (.region [oO 97 (.mov (.t 5)),
 oO 98 (.mov (.t 6)),
 oO 99 (.mov (.t 11)),
 oO 100 (.iaddr 1 (.t 97) (.t 98)),
 ⟨none,.store 1 (.t 100) (.t 99),none⟩])))))))))
 (.region [oO 101 (.bin .add (.t 23) (.c (.int .i64 1))),
 oO 23 (.mov (.t 101))])))
def xV6 : ACode := xNF
def xJR : List Nat := [0,6,7,8,9,10,11,12,13,14,15,16,17,18,19,20,21,24,25,26,27,28,29,30,31,32,33,34,35,36,37,38,39,40,41,42,43,44,45,46,47,48,49,50,51,52,53,54,55,56,57,58,59,60,61,62,63,64,65,66,67,68,69,70,71,72,73,74,75,76,77,78,79,80,81,82,83,84,85,86,87,88,89,90,91,92,93,94,95,96,97,98,99,100,101,102,103,104,105,106,107,108,109,110]
abbrev xHa (s1 s2 s3 s4 s5 s22 s23 : AV) : List AV := [.any,s1,s2,s3,s4,s5,.any,.any,.any,.any,.any,.any,.any,.any,.any,.any,.any,.any,.any,.any,.any,.any,s22,s23,.any,.any,.any,.any,.any,.any,.any,.any,.any,.any,.any,.any,.any,.any,.any,.any,.any,.any,.any,.any,.any,.any,.any,.any,.any,.any,.any,.any,.any,.any,.any,.any,.any,.any,.any,.any,.any,.any,.any,.any,.any,.any,.any,.any,.any,.any,.any,.any,.any,.any,.any,.any,.any,.any,.any,.any,.any,.any,.any,.any,.any,.any,.any,.any,.any,.any,.any,.any,.any,.any,.any,.any,.any,.any,.any,.any,.any,.any,.any,.any,.any,.any,.any,.any,.any,.any,.any]
theorem xNG (s0 s1 s2 s3 s4 s5 s6 s7 s8 s9 s10 s11 s12 s13 s14 s15 s16 s17 s18 s19 s20 s21 s22 s23 s24 s25 s26 s27 s28 s29 s30 s31 s32 s33 s34 s35 s36 s37 s38 s39 s40 s41 s42 s43 s44 s45 s46 s47 s48 s49 s50 s51 s52 s53 s54 s55 s56 s57 s58 s59 s60 s61 s62 s63 s64 s65 s66 s67 s68 s69 s70 s71 s72 s73 s74 s75 s76 s77 s78 s79 s80 s81 s82 s83 s84 s85 s86 s87 s88 s89 s90 s91 s92 s93 s94 s95 s96 s97 s98 s99 s100 s101 s102 s103 s104 s105 s106 s107 s108 s109 s110 : AV) : xAm xJR [s0,s1,s2,s3,s4,s5,s6,s7,s8,s9,s10,s11,s12,s13,s14,s15,s16,s17,s18,s19,s20,s21,s22,s23,s24,s25,s26,s27,s28,s29,s30,s31,s32,s33,s34,s35,s36,s37,s38,s39,s40,s41,s42,s43,s44,s45,s46,s47,s48,s49,s50,s51,s52,s53,s54,s55,s56,s57,s58,s59,s60,s61,s62,s63,s64,s65,s66,s67,s68,s69,s70,s71,s72,s73,s74,s75,s76,s77,s78,s79,s80,s81,s82,s83,s84,s85,s86,s87,s88,s89,s90,s91,s92,s93,s94,s95,s96,s97,s98,s99,s100,s101,s102,s103,s104,s105,s106,s107,s108,s109,s110] = xHa s1 s2 s3 s4 s5 s22 s23 := by kernel_rfl
theorem xV7 {prog : Nat → Option AFunc} (s1 s2 s3 s4 s5 s22 s23 : AV) (H : xAc) : (lim prog).loop xJR xV6 ⟨xHa s1 s2 s3 s4 s5 s22 s23,H⟩ = xAD (lim prog) xJR xV6 (run (lim prog) xNF ⟨xHa s1 s2 s3 s4 s5 s22 s23,H⟩) := xAd _ _ _ _ (by kernel_rfl)
def xR9 : ACode :=
 .block 1 (.seq (.region [oO 17 (.mkmap),
 oO 4 (.mov (.t 17))])
 (.seq (.region [oO 18 (.load false 1 (.t 2)),
 oO 19 (.len (.t 18)),
 oO 20 (.mkslice false [.int .i64 0] 8 (.t 19) (.t 19)),
 oO 5 (.mov (.t 20))])
 (.seq (.seq (.region [oO 21 (.load false 1 (.t 2)),
 oO 22 (.len (.t 21)),
 oO 23 (.mov (.c (.int .i64 0)))])
 (.block 2 (.loop xJR xV6)))
 (.seq (.seq (.region [oO 102 (.mov (.t 4)),
 oO 103 (.mlen (.t 102)),
 oO 104 (.mov (.t 3)),
 oO 105 (.bin .eql (.t 103) (.t 104))])
 (.cond (.t 105)
 (.seq (.region [oO 106 (.mov (.t 5)),
 oO 107 (.mov (.t 3)),
 ⟨none,.store 1 (.t 2) (.t 106),none⟩,
 oO 3 (.mov (.t 107))])
 (.ret))
 (.skip)))
 (.region [oO 108 (.mov (.t 5)),
 oO 109 (.mov (.t 4)),
 oO 110 (.mlen (.t 109)),
 ⟨none,.store 1 (.t 2) (.t 108),none⟩,
 oO 3 (.mov (.t 110))])))))
def xUJ : ACode := xR9
def xHb : List Nat := [0,4,5,6,7,8,9,10,11,12,13,14,15,16,17,18,19,20,21,22,23,24,25,26,27,28,29,30,31,32,33,34,35,36,37,38,39,40,41,42,43,44,45,46,47,48,49,50,51,52,53,54,55,56,57,58,59,60,61,62,63,64,65,66,67,68,69,70,71,72,73,74,75,76,77,78,79,80,81,82,83,84,85,86,87,88,89,90,91,92,93,94,95,96,97,98,99,100,101,102,103,104,105,106,107,108,109,110]
abbrev xF5 (s1 s2 s3 : AV) : List AV := [.any,s1,s2,s3,.any,.any,.any,.any,.any,.any,.any,.any,.any,.any,.any,.any,.any,.any,.any,.any,.any,.any,.any,.any,.any,.any,.any,.any,.any,.any,.any,.any,.any,.any,.any,.any,.any,.any,.any,.any,.any,.any,.any,.any,.any,.any,.any,.any,.any,.any,.any,.any,.any,.any,.any,.any,.any,.any,.any,.any,.any,.any,.any,.any,.any,.any,.any,.any,.any,.any,.any,.any,.any,.any,.any,.any,.any,.any,.any,.any,.any,.any,.any,.any,.any,.any,.any,.any,.any,.any,.any,.any,.any,.any,.any,.any,.any,.any,.any,.any,.any,.any,.any,.any,.any,.any,.any,.any,.any,.any,.any]
theorem xSa (s0 s1 s2 s3 s4 s5 s6 s7 s8 s9 s10 s11 s12 s13 s14 s15 s16 s17 s18 s19 s20 s21 s22 s23 s24 s25 s26 s27 s28 s29 s30 s31 s32 s33 s34 s35 s36 s37 s38 s39 s40 s41 s42 s43 s44 s45 s46 s47 s48 s49 s50 s51 s52 s53 s54 s55 s56 s57 s58 s59 s60 s61 s62 s63 s64 s65 s66 s67 s68 s69 s70 s71 s72 s73 s74 s75 s76 s77 s78 s79 s80 s81 s82 s83 s84 s85 s86 s87 s88 s89 s90 s91 s92 s93 s94 s95 s96 s97 s98 s99 s100 s101 s102 s103 s104 s105 s106 s107 s108 s109 s110 : AV) : xAm xHb [s0,s1,s2,s3,s4,s5,s6,s7,s8,s9,s10,s11,s12,s13,s14,s15,s16,s17,s18,s19,s20,s21,s22,s23,s24,s25,s26,s27,s28,s29,s30,s31,s32,s33,s34,s35,s36,s37,s38,s39,s40,s41,s42,s43,s44,s45,s46,s47,s48,s49,s50,s51,s52,s53,s54,s55,s56,s57,s58,s59,s60,s61,s62,s63,s64,s65,s66,s67,s68,s69,s70,s71,s72,s73,s74,s75,s76,s77,s78,s79,s80,s81,s82,s83,s84,s85,s86,s87,s88,s89,s90,s91,s92,s93,s94,s95,s96,s97,s98,s99,s100,s101,s102,s103,s104,s105,s106,s107,s108,s109,s110] = xF5 s1 s2 s3 := by kernel_rfl
theorem yFD {prog : Nat → Option AFunc} (s1 s2 s3 : AV) (H : xAc) : (lim prog).loop xHb xUJ ⟨xF5 s1 s2 s3,H⟩ = xAD (lim prog) xHb xUJ (run (lim prog) xR9 ⟨xF5 s1 s2 s3,H⟩) := xAd _ _ _ _ (by kernel_rfl)
def a60 : AFunc := ⟨111,
 .seq (.region [oO 1 (.box (.t 0)),
 oO 2 (.box (.c (.sl true 0 []))),
 oO 3 (.mov (.c (.int .i64 0)))])
 (.seq (.region [oO 13 (.faddr 2 (.t 1)),
 oO 14 (.load false 1 (.t 13)),
 oO 15 (.len (.t 14)),
 oO 16 (.mkslice false [.int .i64 0] 8 (.t 15) (.t 15)),
 ⟨none,.store 1 (.t 2) (.t 16),none⟩])
 (.block 0 (.loop xHb xUJ))),
 [.cell 2 false 1,.tmp 3]⟩
def xNH : ACode :=
 .seq (.region [oO 30 (.bin .lss (.t 29) (.t 28))])
 (.seq (.cond (.t 30)
 (.skip)
 (.exit 4))
 (.seq (.block 5 (.seq (.region [oO 31 (.mov (.t 29)),
 oO 13 (.mov (.t 31))])
 (.drawh [(36,(1,10))] [] [] 6 [oO 32 (.mov (.t 11)),
 oO 33 (.mov (.t 12)),
 oO 34 (.mov (.t 11)),
 oO 35 (.mov (.t 12)),
 oO 36 (.iaddr 1 (.t 34) (.t 35)),
 oO 37 (.load false 1 (.t 36)),
 oO 38 (.mov (.t 2)),
 oO 39 (.mov (.t 10)),
 oO 40 (.mov (.t 12)),
 oO 41 (.mov (.t 13)),
 oO 42 (.icall (.t 38) [(.t 39),(.t 40),(.t 41)]),
 oO 43 (.bslice true [.int .i64 0] 1 1 [(0,(.t 42))]),
 oO 44 (.append false 1 8 (.t 37) (.t 43)),
 oO 45 (.iaddr 1 (.t 32) (.t 33)),
 ⟨none,.store 1 (.t 45) (.t 44),none⟩])))
 (.region [oO 46 (.bin .add (.t 29) (.c (.int .i64 1))),
 oO 29 (.mov (.t 46))])))
def xV8 : ACode := xNH
def xJS : List Nat := [4,5,6,7,13,14,15,18,19,20,21,22,25,26,27,30,31,32,33,34,35,36,37,38,39,40,41,42,43,44,45,46,47,48,49,50,51,52,53,54,55,56,57,58,59,60,61,62,63]
abbrev xHc (s0 s1 s2 s3 s8 s9 s10 s11 s12 s16 s17 s23 s24 s28 s29 : AV) : List AV := [s0,s1,s2,s3,.any,.any,.any,.any,s8,s9,s10,s11,s12,.any,.any,.any,s16,s17,.any,.any,.any,.any,.any,s23,s24,.any,.any,.any,s28,s29,.any,.any,.any,.any,.any,.any,.any,.any,.any,.any,.any,.any,.any,.any,.any,.any,.any,.any,.any,.any,.any,.any,.any,.any,.any,.any,.any,.any,.any,.any,.any,.any,.any,.any]
theorem xSb (s0 s1 s2 s3 s4 s5 s6 s7 s8 s9 s10 s11 s12 s13 s14 s15 s16 s17 s18 s19 s20 s21 s22 s23 s24 s25 s26 s27 s28 s29 s30 s31 s32 s33 s34 s35 s36 s37 s38 s39 s40 s41 s42 s43 s44 s45 s46 s47 s48 s49 s50 s51 s52 s53 s54 s55 s56 s57 s58 s59 s60 s61 s62 s63 : AV) : xAm xJS [s0,s1,s2,s3,s4,s5,s6,s7,s8,s9,s10,s11,s12,s13,s14,s15,s16,s17,s18,s19,s20,s21,s22,s23,s24,s25,s26,s27,s28,s29,s30,s31,s32,s33,s34,s35,s36,s37,s38,s39,s40,s41,s42,s43,s44,s45,s46,s47,s48,s49,s50,s51,s52,s53,s54,s55,s56,s57,s58,s59,s60,s61,s62,s63] = xHc s0 s1 s2 s3 s8 s9 s10 s11 s12 s16 s17 s23 s24 s28 s29 := by kernel_rfl
theorem xV9 {prog : Nat → Option AFunc} (s0 s1 s2 s3 s8 s9 s10 s11 s12 s16 s17 s23 s24 s28 s29 : AV) (H : xAc) : (lim prog).loop xJS xV8 ⟨xHc s0 s1 s2 s3 s8 s9 s10 s11 s12 s16 s17 s23 s24 s28 s29,H⟩ = xAD (lim prog) xJS xV8 (run (lim prog) xNH ⟨xHc s0 s1 s2 s3 s8 s9 s10 s11 s12 s16 s17 s23 s24 s28 s29,H⟩) := xAd _ _ _ _ (by kernel_rfl)
def xSc : ACode :=
 .seq (.region [oO 25 (.bin .lss (.t 24) (.t 23))])
 (.seq (.cond (.t 25)
 (.skip)
 (.exit 2))
 (.seq (.block 3 (.seq (.region [oO 26 (.mov (.t 24)),
 oO 12 (.mov (.t 26))])
 (.seq (.region [oO 27 (.mov (.t 0)),
 oO 28 (.bin .shl (.c (.int .i64 1)) (.t 27)),
 oO 29 (.mov (.c (.int .i64 0)))])
 (.block 4 (.loop xJS xV8)))))
 (.region [oO 47 (.bin .add (.t 24) (.c (.int .i64 1))),
 oO 24 (.mov (.t 47))])))
def yAj : ACode := xSc
def xNI : List Nat := [4,5,6,7,12,13,14,15,18,19,20,21,22,25,26,27,28,29,30,31,32,33,34,35,36,37,38,39,40,41,42,43,44,45,46,47,48,49,50,51,52,53,54,55,56,57,58,59,60,61,62,63]
abbrev xNJ (s0 s1 s2 s3 s8 s9 s10 s11 s16 s17 s23 s24 : AV) : List AV := [s0,s1,s2,s3,.any,.any,.any,.any,s8,s9,s10,s11,.any,.any,.any,.any,s16,s17,.any,.any,.any,.any,.any,s23,s24,.any,.any,.any,.any,.any,.any,.any,.any,.any,.any,.any,.any,.any,.any,.any,.any,.any,.any,.any,.any,.any,.any,.any,.any,.any,.any,.any,.any,.any,.any,.any,.any,.any,.any,.any,.any,.any,.any,.any]
theorem xSd (s0 s1 s2 s3 s4 s5 s6 s7 s8 s9 s10 s11 s12 s13 s14 s15 s16 s17 s18 s19 s20 s21 s22 s23 s24 s25 s26 s27 s28 s29 s30 s31 s32 s33 s34 s35 s36 s37 s38 s39 s40 s41 s42 s43 s44 s45 s46 s47 s48 s49 s50 s51 s52 s53 s54 s55 s56 s57 s58 s59 s60 s61 s62 s63 : AV) : xAm xNI [s0,s1,s2,s3,s4,s5,s6,s7,s8,s9,s10,s11,s12,s13,s14,s15,s16,s17,s18,s19,s20,s21,s22,s23,s24,s25,s26,s27,s28,s29,s30,s31,s32,s33,s34,s35,s36,s37,s38,s39,s40,s41,s42,s43,s44,s45,s46,s47,s48,s49,s50,s51,s52,s53,s54,s55,s56,s57,s58,s59,s60,s61,s62,s63] = xNJ s0 s1 s2 s3 s8 s9 s10 s11 s16 s17 s23 s24 := by kernel_rfl
theorem yCm {prog : Nat → Option AFunc} (s0 s1 s2 s3 s8 s9 s10 s11 s16 s17 s23 s24 : AV) (H : xAc) : (lim prog).loop xNI yAj ⟨xNJ s0 s1 s2 s3 s8 s9 s10 s11 s16 s17 s23 s24,H⟩ = xAD (lim prog) xNI yAj (run (lim prog) xSc ⟨xNJ s0 s1 s2 s3 s8 s9 s10 s11 s16 s17 s23 s24,H⟩) := xAd _ _ _ _ (by kernel_rfl)
def xNK : ACode :=
 .seq (.region [oO 18 (.bin .lss (.t 17) (.t 16))])
 (.seq (.cond (.t 18)
 (.skip)
 (.exit 0))
 (.seq (.block 1 (.seq (.region [oO 19 (.mov (.t 17)),
 oO 10 (.mov (.t 19))])
 (.seq (.region [oO 20 (.mov (.t 1)),
 oO 21 (.mkslice false [.sl true 0 []] 24 (.t 20) (.t 20)),
 oO 11 (.mov (.t 21))])
 (.seq (.seq (.region [oO 22 (.mov (.t 11)),
 oO 23 (.len (.t 22)),
 oO 24 (.mov (.c (.int .i64 0)))])
 (.block 2 (.loop xNI yAj)))
 (.seq (.region [oO 48 (.faddr 2 (.t 9)),
 oO 49 (.load false 1 (.t 48)),
 oO 50 (.mov (.t 11)),
 oO 51 (.bslice false [.sl true 0 []] 1 1 [(0,(.t 50))]),
 oO 52 (.append false 1 24 (.t 49) (.t 51)),
 oO 53 (.faddr 2 (.t 9)),
 ⟨none,.store 1 (.t 53) (.t 52),none⟩])
 (.drawh [(54,(1,4))] [] [] 2 [oO 54 (.faddr 3 (.t 9)),
 oO 55 (.load false 1 (.t 54)),
 oO 56 (.mov (.t 3)),
 oO 57 (.mov (.t 10)),
 oO 58 (.icall (.t 56) [(.t 57)]),
 oO 59 (.bslice true [.bool false] 1 1 [(0,(.t 58))]),
 oO 60 (.append false 1 1 (.t 55) (.t 59)),
 oO 61 (.faddr 3 (.t 9)),
 ⟨none,.store 1 (.t 61) (.t 60),none⟩]))))))
 (.region [oO 62 (.bin .add (.t 17) (.c (.int .i64 1))),
 oO 17 (.mov (.t 62))])))
def yAk : ACode := xNK
def xNL : List Nat := [4,5,6,7,10,11,12,13,14,15,18,19,20,21,22,23,24,25,26,27,28,29,30,31,32,33,34,35,36,37,38,39,40,41,42,43,44,45,46,47,48,49,50,51,52,53,54,55,56,57,58,59,60,61,62,63]
abbrev xNM (s0 s1 s2 s3 s8 s9 s16 s17 : AV) : List AV := [s0,s1,s2,s3,.any,.any,.any,.any,s8,s9,.any,.any,.any,.any,.any,.any,s16,s17,.any,.any,.any,.any,.any,.any,.any,.any,.any,.any,.any,.any,.any,.any,.any,.any,.any,.any,.any,.any,.any,.any,.any,.any,.any,.any,.any,.any,.any,.any,.any,.any,.any,.any,.any,.any,.any,.any,.any,.any,.any,.any,.any,.any,.any,.any]
theorem xSe (s0 s1 s2 s3 s4 s5 s6 s7 s8 s9 s10 s11 s12 s13 s14 s15 s16 s17 s18 s19 s20 s21 s22 s23 s24 s25 s26 s27 s28 s29 s30 s31 s32 s33 s34 s35 s36 s37 s38 s39 s40 s41 s42 s43 s44 s45 s46 s47 s48 s49 s50 s51 s52 s53 s54 s55 s56 s57 s58 s59 s60 s61 s62 s63 : AV) : xAm xNL [s0,s1,s2,s3,s4,s5,s6,s7,s8,s9,s10,s11,s12,s13,s14,s15,s16,s17,s18,s19,s20,s21,s22,s23,s24,s25,s26,s27,s28,s29,s30,s31,s32,s33,s34,s35,s36,s37,s38,s39,s40,s41,s42,s43,s44,s45,s46,s47,s48,s49,s50,s51,s52,s53,s54,s55,s56,s57,s58,s59,s60,s61,s62,s63] = xNM s0 s1 s2 s3 s8 s9 s16 s17 := by kernel_rfl
theorem xWa {prog : Nat → Option AFunc} (s0 s1 s2 s3 s8 s9 s16 s17 : AV) (H : xAc) : (lim prog).loop xNL yAk ⟨xNM s0 s1 s2 s3 s8 s9 s16 s17,H⟩ = xAD (lim prog) xNL yAk (run (lim prog) xNK ⟨xNM s0 s1 s2 s3 s8 s9 s16 s17,H⟩) := xAd _ _ _ _ (by kernel_rfl)
def a61 : AFunc := ⟨64,
 .seq (.region [oO 8 (.box (.c (.agg [.int .i64 0,.int .i64 0,.sl true 0 [],.sl true 0 []])))])
 (.seq (.region [oO 14 (.mov (.t 0)),
 oO 15 (.build [.int .i64 0,.int .i64 0,.sl true 0 [],.sl true 0 []] [(0,1,(.t 14))]),
 oO 9 (.box (.c (.agg [.int .i64 0,.int .i64 0,.sl true 0 [],.sl true 0 []]))),
 ⟨none,.store 4 (.t 9) (.t 15),none⟩])
 (.seq (.seq (.region [oO 16 (.mov (.t 1)),
 oO 17 (.mov (.c (.int .i64 0)))])
 (.block 0 (.loop xNL yAk)))
 (.seq (.region [oO 63 (.load true 4 (.t 9)),
 ⟨none,.store 4 (.t 8) (.t 63),none⟩])
 (.ret)))),
 [.cell 8 true 4]⟩
def a62 : AFunc := ⟨30,
 .seq (.region [oO 9 (.mov (.c (.int .i64 0)))])
 (.seq (.draw 15 [oO 10 (.load false 1 (.t 3)),
 oO 11 (.faddr 2 (.t 4)),
 oO 12 (.load false 1 (.t 11)),
 oO 13 (.load false 1 (.t 5)),
 oO 14 (.mov (.t 0)),
 oO 15 (.iaddr 1 (.t 13) (.t 14)),
 oO 16 (.load false 1 (.t 15)),
 oO 17 (.iaddr 1 (.t 12) (.t 16)),
 oO 18 (.load false 1 (.t 17)),
 oO 19 (.load false 1 (.t 5)),
 oO 20 (.mov (.t 1)),
 oO 21 (.iaddr 1 (.t 19) (.t 20)),
 oO 22 (.load false 1 (.t 21)),
 oO 23 (.iaddr 1 (.t 18) (.t 22)),
 oO 24 (.load false 1 (.t 23)),
 oO 25 (.mov (.t 2)),
 oO 26 (.iaddr 1 (.t 24) (.t 25)),
 oO 27 (.load false 1 (.t 26)),
 oO 28 (.iaddr 1 (.t 10) (.t 27)),
 oO 29 (.load false 1 (.t 28)),
 oO 9 (.mov (.t 29))])
 (.ret)),
 [.tmp 9]⟩
def a63 : AFunc := ⟨13,
 .seq (.region [oO 4 (.mov (.c (.bool false)))])
 (.seq (.draw 3 [oO 5 (.faddr 3 (.t 1)),
 oO 6 (.load false 1 (.t 5)),
 oO 7 (.load false 1 (.t 2)),
 oO 8 (.mov (.t 0)),
 oO 9 (.iaddr 1 (.t 7) (.t 8)),
 oO 10 (.load false 1 (.t 9)),
 oO 11 (.iaddr 1 (.t 6) (.t 10)),
 oO 12 (.load false 1 (.t 11)),
 oO 4 (.mov (.t 12))])
 (.ret)),
 [.tmp 4]⟩
def xNN : ACode :=
 .seq (.seq (.region [oO 26 (.mov (.t 5)),
 oO 27 (.bin .geq (.t 26) (.c (.int .i64 0)))])
 (.cond (.t 27)
 (.skip)
 (.exit 2)))
 (.seq (.block 3 (.seq (.draw 7 [oO 30 (.faddr 3 (.t 1)),
 oO 31 (.load false 1 (.t 30)),
 oO 32 (.mov (.t 4)),
 oO 33 (.iaddr 1 (.t 31) (.t 32)),
 oO 34 (.load false 1 (.t 33)),
 oO 35 (.faddr 3 (.t 1)),
 oO 36 (.load false 1 (.t 35)),
 oO 37 (.mov (.t 5)),
 oO 38 (.iaddr 1 (.t 36) (.t 37)),
 oO 39 (.load false 1 (.t 38)),
 oO 40 (.beq false (.t 34) (.t 39))])
 (.cond (.t 40)
 (.region [oO 41 (.mov (.t 3)),
 oO 42 (.mov (.t 4)),
 oO 43 (.mov (.t 5)),
 oO 44 (.iaddr 1 (.t 41) (.t 42)),
 ⟨none,.store 1 (.t 44) (.t 43),none⟩])
 (.skip))))
 (.region [oO 28 (.mov (.t 5)),
 oO 29 (.bin .sub (.t 28) (.c (.int .i64 1))),
 oO 5 (.mov (.t 29))]))
def yAl : ACode := xNN
def xNO : List Nat := [0,2,6,7,8,9,10,11,12,13,14,15,16,17,18,19,20,21,22,23,24,25,26,27,28,29,30,31,32,33,34,35,36,37,38,39,40,41,42,43,44,45,46,47,48,49,50,51,52,53,54,55,56,57,58,59,60,61,62,63,64,65,66,67,68,69,70,71,72,73,74,75,76,77,78,79,80,81,82,83,84,85,86,87,88,89,90,91,92,93,94,95]
abbrev xNP (s1 s3 s4 s5 : AV) : List AV := [.any,s1,.any,s3,s4,s5,.any,.any,.any,.any,.any,.any,.any,.any,.any,.any,.any,.any,.any,.any,.any,.any,.any,.any,.any,.any,.any,.any,.any,.any,.any,.any,.any,.any,.any,.any,.any,.any,.any,.any,.any,.any,.any,.any,.any,.any,.any,.any,.any,.any,.any,.any,.any,.any,.any,.any,.any,.any,.any,.any,.any,.any,.any,.any,.any,.any,.any,.any,.any,.any,.any,.any,.any,.any,.any,.any,.any,.any,.any,.any,.any,.any,.any,.any,.any,.any,.any,.any,.any,.any,.any,.any,.any,.any,.any,.any]
theorem xSf (s0 s1 s2 s3 s4 s5 s6 s7 s8 s9 s10 s11 s12 s13 s14 s15 s16 s17 s18 s19 s20 s21 s22 s23 s24 s25 s26 s27 s28 s29 s30 s31 s32 s33 s34 s35 s36 s37 s38 s39 s40 s41 s42 s43 s44 s45 s46 s47 s48 s49 s50 s51 s52 s53 s54 s55 s56 s57 s58 s59 s60 s61 s62 s63 s64 s65 s66 s67 s68 s69 s70 s71 s72 s73 s74 s75 s76 s77 s78 s79 s80 s81 s82 s83 s84 s85 s86 s87 s88 s89 s90 s91 s92 s93 s94 s95 : AV) : xAm xNO [s0,s1,s2,s3,s4,s5,s6,s7,s8,s9,s10,s11,s12,s13,s14,s15,s16,s17,s18,s19,s20,s21,s22,s23,s24,s25,s26,s27,s28,s29,s30,s31,s32,s33,s34,s35,s36,s37,s38,s39,s40,s41,s42,s43,s44,s45,s46,s47,s48,s49,s50,s51,s52,s53,s54,s55,s56,s57,s58,s59,s60,s61,s62,s63,s64,s65,s66,s67,s68,s69,s70,s71,s72,s73,s74,s75,s76,s77,s78,s79,s80,s81,s82,s83,s84,s85,s86,s87,s88,s89,s90,s91,s92,s93,s94,s95] = xNP s1 s3 s4 s5 := by kernel_rfl
theorem xWb {prog : Nat → Option AFunc} (s1 s3 s4 s5 : AV) (H : xAc) : (lim prog).loop xNO yAl ⟨xNP s1 s3 s4 s5,H⟩ = xAD (lim prog) xNO yAl (run (lim prog) xNN ⟨xNP s1 s3 s4 s5,H⟩) := xAd _ _ _ _ (by kernel_rfl)
def xSg : ACode :=
 .seq (.seq (.region [oO 14 (.mov (.t 4)),
 oO 15 (.mov (.t 3)),
 oO 16 (.len (.t 15)),
 oO 17 (.bin .lss (.t 14) (.t 16))])
 (.cond (.t 17)
 (.skip)
 (.exit 0)))
 (.seq (.block 1 (.seq (.region [oO 20 (.mov (.t 3)),
 oO 21 (.mov (.t 4)),
 oO 22 (.mov (.t 4)),
 oO 23 (.iaddr 1 (.t 20) (.t 21)),
 ⟨none,.store 1 (.t 23) (.t 22),none⟩])
 (.seq (.region [oO 24 (.mov (.t 4)),
 oO 25 (.bin .sub (.t 24) (.c (.int .i64 1))),
 oO 5 (.mov (.t 25))])
 (.block 2 (.loop xNO yAl)))))
 (.region [oO 18 (.mov (.t 4)),
 oO 19 (.bin .add (.t 18) (.c (.int .i64 1))),
 oO 4 (.mov (.t 19))]))
def yAm : ACode := xSg
def xNQ : List Nat := [0,2,5,6,7,8,9,10,11,12,13,14,15,16,17,18,19,20,21,22,23,24,25,26,27,28,29,30,31,32,33,34,35,36,37,38,39,40,41,42,43,44,45,46,47,48,49,50,51,52,53,54,55,56,57,58,59,60,61,62,63,64,65,66,67,68,69,70,71,72,73,74,75,76,77,78,79,80,81,82,83,84,85,86,87,88,89,90,91,92,93,94,95]
abbrev xNR (s1 s3 s4 : AV) : List AV := [.any,s1,.any,s3,s4,.any,.any,.any,.any,.any,.any,.any,.any,.any,.any,.any,.any,.any,.any,.any,.any,.any,.any,.any,.any,.any,.any,.any,.any,.any,.any,.any,.any,.any,.any,.any,.any,.any,.any,.any,.any,.any,.any,.any,.any,.any,.any,.any,.any,.any,.any,.any,.any,.any,.any,.any,.any,.any,.any,.any,.any,.any,.any,.any,.any,.any,.any,.any,.any,.any,.any,.any,.any,.any,.any,.any,.any,.any,.any,.any,.any,.any,.any,.any,.any,.any,.any,.any,.any,.any,.any,.any,.any,.any,.any,.any]
theorem xWc (s0 s1 s2 s3 s4 s5 s6 s7 s8 s9 s10 s11 s12 s13 s14 s15 s16 s17 s18 s19 s20 s21 s22 s23 s24 s25 s26 s27 s28 s29 s30 s31 s32 s33 s34 s35 s36 s37 s38 s39 s40 s41 s42 s43 s44 s45 s46 s47 s48 s49 s50 s51 s52 s53 s54 s55 s56 s57 s58 s59 s60 s61 s62 s63 s64 s65 s66 s67 s68 s69 s70 s71 s72 s73 s74 s75 s76 s77 s78 s79 s80 s81 s82 s83 s84 s85 s86 s87 s88 s89 s90 s91 s92 s93 s94 s95 : AV) : xAm xNQ [s0,s1,s2,s3,s4,s5,s6,s7,s8,s9,s10,s11,s12,s13,s14,s15,s16,s17,s18,s19,s20,s21,s22,s23,s24,s25,s26,s27,s28,s29,s30,s31,s32,s33,s34,s35,s36,s37,s38,s39,s40,s41,s42,s43,s44,s45,s46,s47,s48,s49,s50,s51,s52,s53,s54,s55,s56,s57,s58,s59,s60,s61,s62,s63,s64,s65,s66,s67,s68,s69,s70,s71,s72,s73,s74,s75,s76,s77,s78,s79,s80,s81,s82,s83,s84,s85,s86,s87,s88,s89,s90,s91,s92,s93,s94,s95] = xNR s1 s3 s4 := by kernel_rfl
theorem yCn {prog : Nat → Option AFunc} (s1 s3 s4 : AV) (H : xAc) : (lim prog).loop xNQ yAm ⟨xNR s1 s3 s4,H⟩ = xAD (lim prog) xNQ yAm (run (lim prog) xSg ⟨xNR s1 s3 s4,H⟩) := xAd _ _ _ _ (by kernel_rfl)
def xJT : ACode :=
 .seq (.seq (.region [oO 67 (.mov (.t 9)),
 oO 68 (.bin .geq (.t 67) (.c (.int .i64 0)))])
 (.cond (.t 68)
 (.skip)
 (.exit 8)))
 (.seq (.block 9 (.seq (.draw 14 [oO 71 (.mov (.t 3)),
 oO 72 (.mov (.t 8)),
 oO 73 (.iaddr 1 (.t 71) (.t 72)),
 oO 74 (.load false 1 (.t 73)),
 oO 75 (.mov (.t 3)),
 oO 76 (.mov (.t 9)),
 oO 77 (.iaddr 1 (.t 75) (.t 76)),
 oO 78 (.load false 1 (.t 77)),
 oO 79 (.bin .eql (.t 74) (.t 78)),
 oO 80 (.mov (.t 79)),
 ⟨some 81,.load true 4 (.t 1),some (80,true)⟩,
 ⟨some 82,.mov (.t 3),some (80,true)⟩,
 ⟨some 83,.mov (.t 8),some (80,true)⟩,
 ⟨some 84,.mov (.t 9),some (80,true)⟩,
 ⟨some 85,.call 107 [(.t 81),(.t 82),(.t 83),(.t 84)],some (80,true)⟩,
 oO 86 (.pick (.t 80) (.t 85) (.c (.bool false)))])
 (.cond (.t 86)
 (.region [oO 87 (.mov (.t 7)),
 oO 88 (.mov (.t 8)),
 oO 89 (.mov (.t 9)),
 oO 90 (.iaddr 1 (.t 87) (.t 88)),
 ⟨none,.store 1 (.t 90) (.t 89),none⟩])
 (.skip))))
 (.region [oO 69 (.mov (.t 9)),
 oO 70 (.bin .sub (.t 69) (.c (.int .i64 1))),
 oO 9 (.mov (.t 70))]))
def yAn : ACode := xJT
def xNS : List Nat := [0,2,4,5,10,11,12,13,14,15,16,17,18,19,20,21,22,23,24,25,26,27,28,29,30,31,32,33,34,35,36,37,38,39,40,41,42,43,44,45,46,47,48,49,50,51,52,53,54,55,56,57,58,59,60,61,62,63,64,65,66,67,68,69,70,71,72,73,74,75,76,77,78,79,80,81,82,83,84,85,86,87,88,89,90,91,92,93,94,95]
abbrev xNT (s1 s3 s6 s7 s8 s9 : AV) : List AV := [.any,s1,.any,s3,.any,.any,s6,s7,s8,s9,.any,.any,.any,.any,.any,.any,.any,.any,.any,.any,.any,.any,.any,.any,.any,.any,.any,.any,.any,.any,.any,.any,.any,.any,.any,.any,.any,.any,.any,.any,.any,.any,.any,.any,.any,.any,.any,.any,.any,.any,.any,.any,.any,.any,.any,.any,.any,.any,.any,.any,.any,.any,.any,.any,.any,.any,.any,.any,.any,.any,.any,.any,.any,.any,.any,.any,.any,.any,.any,.any,.any,.any,.any,.any,.any,.any,.any,.any,.any,.any,.any,.any,.any,.any,.any,.any]
theorem xNU (s0 s1 s2 s3 s4 s5 s6 s7 s8 s9 s10 s11 s12 s13 s14 s15 s16 s17 s18 s19 s20 s21 s22 s23 s24 s25 s26 s27 s28 s29 s30 s31 s32 s33 s34 s35 s36 s37 s38 s39 s40 s41 s42 s43 s44 s45 s46 s47 s48 s49 s50 s51 s52 s53 s54 s55 s56 s57 s58 s59 s60 s61 s62 s63 s64 s65 s66 s67 s68 s69 s70 s71 s72 s73 s74 s75 s76 s77 s78 s79 s80 s81 s82 s83 s84 s85 s86 s87 s88 s89 s90 s91 s92 s93 s94 s95 : AV) : xAm xNS [s0,s1,s2,s3,s4,s5,s6,s7,s8,s9,s10,s11,s12,s13,s14,s15,s16,s17,s18,s19,s20,s21,s22,s23,s24,s25,s26,s27,s28,s29,s30,s31,s32,s33,s34,s35,s36,s37,s38,s39,s40,s41,s42,s43,s44,s45,s46,s47,s48,s49,s50,s51,s52,s53,s54,s55,s56,s57,s58,s59,s60,s61,s62,s63,s64,s65,s66,s67,s68,s69,s70,s71,s72,s73,s74,s75,s76,s77,s78,s79,s80,s81,s82,s83,s84,s85,s86,s87,s88,s89,s90,s91,s92,s93,s94,s95] = xNT s1 s3 s6 s7 s8 s9 := by kernel_rfl
theorem xSh {prog : Nat → Option AFunc} (s1 s3 s6 s7 s8 s9 : AV) (H : xAc) : (lim prog).loop xNS yAn ⟨xNT s1 s3 s6 s7 s8 s9,H⟩ = xAD (lim prog) xNS yAn (run (lim prog) xJT ⟨xNT s1 s3 s6 s7 s8 s9,H⟩) := xAd _ _ _ _ (by kernel_rfl)
def xSi : ACode :=
 .seq (.seq (.region [oO 55 (.mov (.t 8)),
 oO 56 (.mov (.t 3)),
 oO 57 (.len (.t 56)),
 oO 58 (.bin .lss (.t 55) (.t 57))])
 (.cond (.t 58)
 (.skip)
 (.exit 6)))
 (.seq (.block 7 (.seq (.region [oO 61 (.mov (.t 7)),
 oO 62 (.mov (.t 8)),
 oO 63 (.mov (.t 8)),
 oO 64 (.iaddr 1 (.t 61) (.t 62)),
 ⟨none,.store 1 (.t 64) (.t 63),none⟩])
 (.seq (.region [oO 65 (.mov (.t 8)),
 oO 66 (.bin .sub (.t 65) (.c (.int .i64 1))),
 oO 9 (.mov (.t 66))])
 (.block 8 (.loop xNS yAn)))))
 (.region [oO 59 (.mov (.t 8)),
 oO 60 (.bin .add (.t 59) (.c (.int .i64 1))),
 oO 8 (.mov (.t 60))]))
def yAo : ACode := xSi
def xNV : List Nat := [0,2,4,5,9,10,11,12,13,14,15,16,17,18,19,20,21,22,23,24,25,26,27,28,29,30,31,32,33,34,35,36,37,38,39,40,41,42,43,44,45,46,47,48,49,50,51,52,53,54,55,56,57,58,59,60,61,62,63,64,65,66,67,68,69,70,71,72,73,74,75,76,77,78,79,80,81,82,83,84,85,86,87,88,89,90,91,92,93,94,95]
abbrev xNW (s1 s3 s6 s7 s8 : AV) : List AV := [.any,s1,.any,s3,.any,.any,s6,s7,s8,.any,.any,.any,.any,.any,.any,.any,.any,.any,.any,.any,.any,.any,.any,.any,.any,.any,.any,.any,.any,.any,.any,.any,.any,.any,.any,.any,.any,.any,.any,.any,.any,.any,.any,.any,.any,.any,.any,.any,.any,.any,.any,.any,.any,.any,.any,.any,.any,.any,.any,.any,.any,.any,.any,.any,.any,.any,.any,.any,.any,.any,.any,.any,.any,.any,.any,.any,.any,.any,.any,.any,.any,.any,.any,.any,.any,.any,.any,.any,.any,.any,.any,.any,.any,.any,.any,.any]
theorem xSj (s0 s1 s2 s3 s4 s5 s6 s7 s8 s9 s10 s11 s12 s13 s14 s15 s16 s17 s18 s19 s20 s21 s22 s23 s24 s25 s26 s27 s28 s29 s30 s31 s32 s33 s34 s35 s36 s37 s38 s39 s40 s41 s42 s43 s44 s45 s46 s47 s48 s49 s50 s51 s52 s53 s54 s55 s56 s57 s58 s59 s60 s61 s62 s63 s64 s65 s66 s67 s68 s69 s70 s71 s72 s73 s74 s75 s76 s77 s78 s79 s80 s81 s82 s83 s84 s85 s86 s87 s88 s89 s90 s91 s92 s93 s94 s95 : AV) : xAm xNV [s0,s1,s2,s3,s4,s5,s6,s7,s8,s9,s10,s11,s12,s13,s14,s15,s16,s17,s18,s19,s20,s21,s22,s23,s24,s25,s26,s27,s28,s29,s30,s31,s32,s33,s34,s35,s36,s37,s38,s39,s40,s41,s42,s43,s44,s45,s46,s47,s48,s49,s50,s51,s52,s53,s54,s55,s56,s57,s58,s59,s60,s61,s62,s63,s64,s65,s66,s67,s68,s69,s70,s71,s72,s73,s74,s75,s76,s77,s78,s79,s80,s81,s82,s83,s84,s85,s86,s87,s88,s89,s90,s91,s92,s93,s94,s95] = xNW s1 s3 s6 s7 s8 := by kernel_rfl
theorem yCo {prog : Nat → Option AFunc} (s1 s3 s6 s7 s8 : AV) (H : xAc) : (lim prog).loop xNV yAo ⟨xNW s1 s3 s6 s7 s8,H⟩ = xAD (lim prog) xNV yAo (run (lim prog) xSi ⟨xNW s1 s3 s6 s7 s8,H⟩) := xAd _ _ _ _ (by kernel_rfl)
def xNX : ACode :=
 .seq (.seq (.region [oO 45 (.mov (.t 6)),
 oO 46 (.faddr 2 (.t 1)),
 oO 47 (.load false 1 (.t 46)),
 oO 48 (.len (.t 47)),
 oO 49 (.bin .lss (.t 45) (.t 48))])
 (.cond (.t 49)
 (.skip)
 (.exit 4)))
 (.seq (.block 5 (.seq (.region [oO 52 (.mov (.t 3)),
 oO 53 (.len (.t 52)),
 oO 54 (.mkslice false [.int .i64 0] 8 (.t 53) (.t 53)),
 oO 7 (.mov (.t 54))])
 (.seq (.seq (.region [oO 8 (.mov (.c (.int .i64 0)))])
 (.block 6 (.loop xNV yAo)))
 (.seq (.seq (.region [oO 91 (.mov (.t 7)),
 oO 92 (.mov (.t 3)),
 oO 93 (.call 20 [(.t 91),(.t 92)])])
 (.cond (.t 93)
 (.exit 4)
 (.skip)))
 (.region [oO 94 (.mov (.t 7)),
 oO 3 (.mov (.t 94))])))))
 (.region [oO 50 (.mov (.t 6)),
 oO 51 (.bin .add (.t 50) (.c (.int .i64 1))),
 oO 6 (.mov (.t 51))]))
def yAp : ACode := xNX
def xNY : List Nat := [0,2,4,5,7,8,9,10,11,12,13,14,15,16,17,18,19,20,21,22,23,24,25,26,27,28,29,30,31,32,33,34,35,36,37,38,39,40,41,42,43,44,45,46,47,48,49,50,51,52,53,54,55,56,57,58,59,60,61,62,63,64,65,66,67,68,69,70,71,72,73,74,75,76,77,78,79,80,81,82,83,84,85,86,87,88,89,90,91,92,93,94,95]
abbrev xNZ (s1 s3 s6 : AV) : List AV := [.any,s1,.any,s3,.any,.any,s6,.any,.any,.any,.any,.any,.any,.any,.any,.any,.any,.any,.any,.any,.any,.any,.any,.any,.any,.any,.any,.any,.any,.any,.any,.any,.any,.any,.any,.any,.any,.any,.any,.any,.any,.any,.any,.any,.any,.any,.any,.any,.any,.any,.any,.any,.any,.any,.any,.any,.any,.any,.any,.any,.any,.any,.any,.any,.any,.any,.any,.any,.any,.any,.any,.any,.any,.any,.any,.any,.any,.any,.any,.any,.any,.any,.any,.any,.any,.any,.any,.any,.any,.any,.any,.any,.any,.any,.any,.any]
theorem xSk (s0 s1 s2 s3 s4 s5 s6 s7 s8 s9 s10 s11 s12 s13 s14 s15 s16 s17 s18 s19 s20 s21 s22 s23 s24 s25 s26 s27 s28 s29 s30 s31 s32 s33 s34 s35 s36 s37 s38 s39 s40 s41 s42 s43 s44 s45 s46 s47 s48 s49 s50 s51 s52 s53 s54 s55 s56 s57 s58 s59 s60 s61 s62 s63 s64 s65 s66 s67 s68 s69 s70 s71 s72 s73 s74 s75 s76 s77 s78 s79 s80 s81 s82 s83 s84 s85 s86 s87 s88 s89 s90 s91 s92 s93 s94 s95 : AV) : xAm xNY [s0,s1,s2,s3,s4,s5,s6,s7,s8,s9,s10,s11,s12,s13,s14,s15,s16,s17,s18,s19,s20,s21,s22,s23,s24,s25,s26,s27,s28,s29,s30,s31,s32,s33,s34,s35,s36,s37,s38,s39,s40,s41,s42,s43,s44,s45,s46,s47,s48,s49,s50,s51,s52,s53,s54,s55,s56,s57,s58,s59,s60,s61,s62,s63,s64,s65,s66,s67,s68,s69,s70,s71,s72,s73,s74,s75,s76,s77,s78,s79,s80,s81,s82,s83,s84,s85,s86,s87,s88,s89,s90,s91,s92,s93,s94,s95] = xNZ s1 s3 s6 := by kernel_rfl
theorem xWd {prog : Nat → Option AFunc} (s1 s3 s6 : AV) (H : xAc) : (lim prog).loop xNY yAp ⟨xNZ s1 s3 s6,H⟩ = xAD (lim prog) xNY yAp (run (lim prog) xNX ⟨xNZ s1 s3 s6,H⟩) := xAd _ _ _ _ (by kernel_rfl)
def a64 : AFunc := ⟨96,
 .seq (.region [oO 1 (.box (.t 0)),
 oO 2 (.mov (.c (.sl true 0 [])))])
 (.seq (.region [oO 10 (.faddr 2 (.t 1)),
 oO 11 (.load false 1 (.t 10)),
 oO 12 (.len (.t 11)),
 oO 13 (.mkslice false [.int .i64 0] 8 (.t 12) (.t 12)),
 oO 3 (.mov (.t 13))])
 (.seq (.seq (.region [oO 4 (.mov (.c (.int .i64 0)))])
 (.block 0 (.loop xNQ yAm)))
 (.seq (.seq (.region [oO 6 (.mov (.c (.int .i64 0)))])
 (.block 4 (.loop xNY yAp)))
 (.seq (.region [oO 95 (.mov (.t 3)),
 oO 2 (.mov (.t 95))])
 (.ret))))),
 [.tmp 2]⟩
def xJU : ACode :=
 .seq (.seq (.region [oO 6 (.mov (.t 5)),
 oO 7 (.mov (.t 0)),
 oO 8 (.len (.t 7)),
 oO 9 (.bin .lss (.t 6) (.t 8))])
 (.cond (.t 9)
 (.skip)
 (.exit 0)))
 (.seq (.block 1 (.seq (.region [oO 12 (.mov (.t 0)),
 oO 13 (.mov (.t 5)),
 oO 14 (.iaddr 1 (.t 12) (.t 13)),
 oO 15 (.load false 1 (.t 14)),
 oO 16 (.mov (.t 1)),
 oO 17 (.bin .eql (.t 15) (.t 16))])
 (.cond (.t 17)
 (.seq (.region [oO 18 (.mov (.t 5)),
 oO 4 (.mov (.t 18))])
 (.ret))
 (.skip))))
 (.region [oO 10 (.mov (.t 5)),
 oO 11 (.bin .add (.t 10) (.c (.int .i64 1))),
 oO 5 (.mov (.t 11))]))
def yAq : ACode := xJU
def xN0 : List Nat := [2,3,6,7,8,9,10,11,12,13,14,15,16,17,18]
abbrev xJV (s0 s1 s4 s5 : AV) : List AV := [s0,s1,.any,.any,s4,s5,.any,.any,.any,.any,.any,.any,.any,.any,.any,.any,.any,.any,.any]
theorem xJW (s0 s1 s2 s3 s4 s5 s6 s7 s8 s9 s10 s11 s12 s13 s14 s15 s16 s17 s18 : AV) : xAm xN0 [s0,s1,s2,s3,s4,s5,s6,s7,s8,s9,s10,s11,s12,s13,s14,s15,s16,s17,s18] = xJV s0 s1 s4 s5 := by kernel_rfl
theorem xSl {prog : Nat → Option AFunc} (s0 s1 s4 s5 : AV) (H : xAc) : (lim prog).loop xN0 yAq ⟨xJV s0 s1 s4 s5,H⟩ = xAD (lim prog) xN0 yAq (run (lim prog) xJU ⟨xJV s0 s1 s4 s5,H⟩) := xAd _ _ _ _ (by kernel_rfl)
def a65 : AFunc := ⟨19,
 .seq (.region [oO 4 (.mov (.c (.int .i64 0)))])
 (.seq (.seq (.region [oO 5 (.mov (.c (.int .i64 0)))])
 (.block 0 (.loop xN0 yAq)))
 (.seq (.region [oO 4 (.mov (.c (.int .i64 (-1))))])
 (.ret))),
 [.tmp 4]⟩
def xSm : ACode :=
 .seq (.seq (.region [oO 11 (.mov (.t 5)),
 oO 12 (.mov (.t 0)),
 oO 13 (.len (.t 12)),
 oO 14 (.bin .lss (.t 11) (.t 13))])
 (.cond (.t 14)
 (.skip)
 (.exit 0)))
 (.seq (.block 1 (.seq (.draw 5 [oO 17 (.mov (.t 0)),
 oO 18 (.mov (.t 5)),
 oO 19 (.iaddr 1 (.t 17) (.t 18)),
 oO 20 (.load false 1 (.t 19)),
 oO 21 (.mov (.t 1)),
 oO 22 (.mov (.t 5)),
 oO 23 (.iaddr 1 (.t 21) (.t 22)),
 oO 24 (.load false 1 (.t 23)),
 oO 25 (.call 39 [(.t 20),(.t 24)]),
 oO 26 (.un .not (.t 25))])
 (.cond (.t 26)
 (.seq (.region [oO 4 (.mov (.c (.bool false)))])
 (.ret))
 (.skip))))
 (.region [oO 15 (.mov (.t 5)),
 oO 16 (.bin .add (.t 15) (.c (.int .i64 1))),
 oO 5 (.mov (.t 16))]))
def yAr : ACode := xSm
def xN1 : List Nat := [2,3,6,7,8,9,10,11,12,13,14,15,16,17,18,19,20,21,22,23,24,25,26]
abbrev xN2 (s0 s1 s4 s5 : AV) : List AV := [s0,s1,.any,.any,s4,s5,.any,.any,.any,.any,.any,.any,.any,.any,.any,.any,.any,.any,.any,.any,.any,.any,.any,.any,.any,.any,.any]
theorem xWe (s0 s1 s2 s3 s4 s5 s6 s7 s8 s9 s10 s11 s12 s13 s14 s15 s16 s17 s18 s19 s20 s21 s22 s23 s24 s25 s26 : AV) : xAm xN1 [s0,s1,s2,s3,s4,s5,s6,s7,s8,s9,s10,s11,s12,s13,s14,s15,s16,s17,s18,s19,s20,s21,s22,s23,s24,s25,s26] = xN2 s0 s1 s4 s5 := by kernel_rfl
theorem yCp {prog : Nat → Option AFunc} (s0 s1 s4 s5 : AV) (H : xAc) : (lim prog).loop xN1 yAr ⟨xN2 s0 s1 s4 s5,H⟩ = xAD (lim prog) xN1 yAr (run (lim prog) xSm ⟨xN2 s0 s1 s4 s5,H⟩) := xAd _ _ _ _ (by kernel_rfl)
def a66 : AFunc := ⟨27,
 .seq (.region [oO 4 (.mov (.c (.bool false)))])
 (.seq (.seq (.region [oO 6 (.mov (.t 0)),
 oO 7 (.len (.t 6)),
 oO 8 (.mov (.t 1)),
 oO 9 (.len (.t 8)),
 oO 10 (.bin .neq (.t 7) (.t 9))])
 (.cond (.t 10)
 (.seq (.region [oO 4 (.mov (.c (.bool false)))])
 (.ret))
 (.skip)))
 (.seq (.seq (.region [oO 5 (.mov (.c (.int .i64 0)))])
 (.block 0 (.loop xN1 yAr)))
 (.seq (.region [oO 4 (.mov (.c (.bool true)))])
 (.ret)))),
 [.tmp 4]⟩
def xN3 : ACode :=
 .seq (.seq (.region [oO 11 (.mov (.t 5)),
 oO 12 (.mov (.t 0)),
 oO 13 (.len (.t 12)),
 oO 14 (.bin .lss (.t 11) (.t 13))])
 (.cond (.t 14)
 (.skip)
 (.exit 0)))
 (.seq (.block 1 (.seq (.draw 5 [oO 17 (.mov (.t 0)),
 oO 18 (.mov (.t 5)),
 oO 19 (.iaddr 1 (.t 17) (.t 18)),
 oO 20 (.load false 1 (.t 19)),
 oO 21 (.mov (.t 1)),
 oO 22 (.mov (.t 5)),
 oO 23 (.iaddr 1 (.t 21) (.t 22)),
 oO 24 (.load false 1 (.t 23)),
 oO 25 (.beq true (.t 20) (.t 24))])
 (.cond (.t 25)
 (.seq (.region [oO 4 (.mov (.c (.bool false)))])
 (.ret))
 (.skip))))
 (.region [oO 15 (.mov (.t 5)),
 oO 16 (.bin .add (.t 15) (.c (.int .i64 1))),
 oO 5 (.mov (.t 16))]))
def yAs : ACode := xN3
def xN4 : List Nat := [2,3,6,7,8,9,10,11,12,13,14,15,16,17,18,19,20,21,22,23,24,25]
abbrev xN5 (s0 s1 s4 s5 : AV) : List AV := [s0,s1,.any,.any,s4,s5,.any,.any,.any,.any,.any,.any,.any,.any,.any,.any,.any,.any,.any,.any,.any,.any,.any,.any,.any,.any]
theorem xSn (s0 s1 s2 s3 s4 s5 s6 s7 s8 s9 s10 s11 s12 s13 s14 s15 s16 s17 s18 s19 s20 s21 s22 s23 s24 s25 : AV) : xAm xN4 [s0,s1,s2,s3,s4,s5,s6,s7,s8,s9,s10,s11,s12,s13,s14,s15,s16,s17,s18,s19,s20,s21,s22,s23,s24,s25] = xN5 s0 s1 s4 s5 := by kernel_rfl
theorem yCq {prog : Nat → Option AFunc} (s0 s1 s4 s5 : AV) (H : xAc) : (lim prog).loop xN4 yAs ⟨xN5 s0 s1 s4 s5,H⟩ = xAD (lim prog) xN4 yAs (run (lim prog) xN3 ⟨xN5 s0 s1 s4 s5,H⟩) := xAd _ _ _ _ (by kernel_rfl)
def a67 : AFunc := ⟨26,
 .seq (.region [oO 4 (.mov (.c (.bool false)))])
 (.seq (.seq (.region [oO 6 (.mov (.t 0)),
 oO 7 (.len (.t 6)),
 oO 8 (.mov (.t 1)),
 oO 9 (.len (.t 8)),
 oO 10 (.bin .neq (.t 7) (.t 9))])
 (.cond (.t 10)
 (.seq (.region [oO 4 (.mov (.c (.bool false)))])
 (.ret))
 (.skip)))
 (.seq (.seq (.region [oO 5 (.mov (.c (.int .i64 0)))])
 (.block 0 (.loop xN4 yAs)))
 (.seq (.region [oO 4 (.mov (.c (.bool true)))])
 (.ret)))),
 [.tmp 4]⟩
def xSo : ACode :=
 .seq (.seq (.region [oO 11 (.mov (.t 5)),
 oO 12 (.mov (.t 0)),
 oO 13 (.len (.t 12)),
 oO 14 (.bin .lss (.t 11) (.t 13))])
 (.cond (.t 14)
 (.skip)
 (.exit 0)))
 (.seq (.block 1 (.seq (.draw 5 [oO 17 (.mov (.t 0)),
 oO 18 (.mov (.t 5)),
 oO 19 (.iaddr 5 (.t 17) (.t 18)),
 oO 20 (.load true 5 (.t 19)),
 oO 21 (.mov (.t 1)),
 oO 22 (.mov (.t 5)),
 oO 23 (.iaddr 5 (.t 21) (.t 22)),
 oO 24 (.load true 5 (.t 23)),
 oO 25 (.aeq true 5 (.t 20) (.t 24))])
 (.cond (.t 25)
 (.seq (.region [oO 4 (.mov (.c (.bool false)))])
 (.ret))
 (.skip))))
 (.region [oO 15 (.mov (.t 5)),
 oO 16 (.bin .add (.t 15) (.c (.int .i64 1))),
 oO 5 (.mov (.t 16))]))
def yAt : ACode := xSo
def xN6 : List Nat := [2,3,6,7,8,9,10,11,12,13,14,15,16,17,18,19,20,21,22,23,24,25]
abbrev xN7 (s0 s1 s4 s5 : AV) : List AV := [s0,s1,.any,.any,s4,s5,.any,.any,.any,.any,.any,.any,.any,.any,.any,.any,.any,.any,.any,.any,.any,.any,.any,.any,.any,.any]
theorem xWf (s0 s1 s2 s3 s4 s5 s6 s7 s8 s9 s10 s11 s12 s13 s14 s15 s16 s17 s18 s19 s20 s21 s22 s23 s24 s25 : AV) : xAm xN6 [s0,s1,s2,s3,s4,s5,s6,s7,s8,s9,s10,s11,s12,s13,s14,s15,s16,s17,s18,s19,s20,s21,s22,s23,s24,s25] = xN7 s0 s1 s4 s5 := by kernel_rfl
theorem yCr {prog : Nat → Option AFunc} (s0 s1 s4 s5 : AV) (H : xAc) : (lim prog).loop xN6 yAt ⟨xN7 s0 s1 s4 s5,H⟩ = xAD (lim prog) xN6 yAt (run (lim prog) xSo ⟨xN7 s0 s1 s4 s5,H⟩) := xAd _ _ _ _ (by kernel_rfl)
def a68 : AFunc := ⟨26,
 .seq (.region [oO 4 (.mov (.c (.bool false)))])
 (.seq (.seq (.region [oO 6 (.mov (.t 0)),
 oO 7 (.len (.t 6)),
 oO 8 (.mov (.t 1)),
 oO 9 (.len (.t 8)),
 oO 10 (.bin .neq (.t 7) (.t 9))])
 (.cond (.t 10)
 (.seq (.region [oO 4 (.mov (.c (.bool false)))])
 (.ret))
 (.skip)))
 (.seq (.seq (.region [oO 5 (.mov (.c (.int .i64 0)))])
 (.block 0 (.loop xN6 yAt)))
 (.seq (.region [oO 4 (.mov (.c (.bool true)))])
 (.ret)))),
 [.tmp 4]⟩
def xJX : ACode :=
 .seq (.seq (.region [oO 3 (.mov (.t 2)),
 oO 4 (.mov (.t 0)),
 oO 5 (.len (.t 4)),
 oO 6 (.bin .lss (.t 3) (.t 5))])
 (.cond (.t 6)
 (.skip)
 (.exit 0)))
 (.seq (.block 1 (.region [oO 9 (.mov (.t 0)),
 oO 10 (.mov (.t 2)),
 oO 11 (.iaddr 1 (.t 9) (.t 10)),
 oO 12 (.load false 1 (.t 11)),
 oO 13 (.icall (.c (.func 40 [])) [(.t 12)])]))
 (.region [oO 7 (.mov (.t 2)),
 oO 8 (.bin .add (.t 7) (.c (.int .i64 1))),
 oO 2 (.mov (.t 8))]))
def xWg : ACode := xJX
def xJY : List Nat := [1,3,4,5,6,7,8,9,10,11,12,13]
abbrev xHd (s0 s2 : AV) : List AV := [s0,.any,s2,.any,.any,.any,.any,.any,.any,.any,.any,.any,.any,.any]
theorem xJZ (s0 s1 s2 s3 s4 s5 s6 s7 s8 s9 s10 s11 s12 s13 : AV) : xAm xJY [s0,s1,s2,s3,s4,s5,s6,s7,s8,s9,s10,s11,s12,s13] = xHd s0 s2 := by kernel_rfl
theorem xWh {prog : Nat → Option AFunc} (s0 s2 : AV) (H : xAc) : (lim prog).loop xJY xWg ⟨xHd s0 s2,H⟩ = xAD (lim prog) xJY xWg (run (lim prog) xJX ⟨xHd s0 s2,H⟩) := xAd _ _ _ _ (by kernel_rfl)
def a69 : AFunc := ⟨14,
 .seq (.region [oO 2 (.mov (.c (.int .i64 0)))])
 (.block 0 (.loop xJY xWg)),
 []⟩
def xN8 : ACode :=
 .seq (.seq (.region [oO 3 (.mov (.t 2)),
 oO 4 (.mov (.t 0)),
 oO 5 (.len (.t 4)),
 oO 6 (.bin .lss (.t 3) (.t 5))])
 (.cond (.t 6)
 (.skip)
 (.exit 0)))
 (.seq (.block 1 (.region [oO 9 (.mov (.t 0)),
 oO 10 (.mov (.t 2)),
 oO 11 (.mov (.t 0)),
 oO 12 (.mov (.t 2)),
 oO 13 (.iaddr 1 (.t 11) (.t 12)),
 oO 14 (.load false 1 (.t 13)),
 oO 15 (.un .not (.t 14)),
 oO 16 (.iaddr 1 (.t 9) (.t 10)),
 ⟨none,.store 1 (.t 16) (.t 15),none⟩]))
 (.region [oO 7 (.mov (.t 2)),
 oO 8 (.bin .add (.t 7) (.c (.int .i64 1))),
 oO 2 (.mov (.t 8))]))
def xWi : ACode := xN8
def xJ0 : List Nat := [1,3,4,5,6,7,8,9,10,11,12,13,14,15,16]
abbrev xHe (s0 s2 : AV) : List AV := [s0,.any,s2,.any,.any,.any,.any,.any,.any,.any,.any,.any,.any,.any,.any,.any,.any]
theorem xN9 (s0 s1 s2 s3 s4 s5 s6 s7 s8 s9 s10 s11 s12 s13 s14 s15 s16 : AV) : xAm xJ0 [s0,s1,s2,s3,s4,s5,s6,s7,s8,s9,s10,s11,s12,s13,s14,s15,s16] = xHe s0 s2 := by kernel_rfl
theorem xWj {prog : Nat → Option AFunc} (s0 s2 : AV) (H : xAc) : (lim prog).loop xJ0 xWi ⟨xHe s0 s2,H⟩ = xAD (lim prog) xJ0 xWi (run (lim prog) xN8 ⟨xHe s0 s2,H⟩) := xAd _ _ _ _ (by kernel_rfl)
def a70 : AFunc := ⟨17,
 .seq (.region [oO 2 (.mov (.c (.int .i64 0)))])
 (.block 0 (.loop xJ0 xWi)),
 []⟩
def xOa : ACode :=
 .seq (.seq (.region [oO 3 (.mov (.t 2)),
 oO 4 (.mov (.t 0)),
 oO 5 (.len (.t 4)),
 oO 6 (.bin .lss (.t 3) (.t 5))])
 (.cond (.t 6)
 (.skip)
 (.exit 0)))
 (.seq (.block 1 (.region [oO 9 (.mov (.t 0)),
 oO 10 (.mov (.t 2)),
 oO 11 (.build [.int .i64 0,.int .i64 0,.int .i64 0,.int .u8 0,.int .u8 0] [(2,1,(.c (.int .i64 (-7))))]),
 oO 12 (.iaddr 5 (.t 9) (.t 10)),
 ⟨none,.store 5 (.t 12) (.t 11),none⟩]))
 (.region [oO 7 (.mov (.t 2)),
 oO 8 (.bin .add (.t 7) (.c (.int .i64 1))),
 oO 2 (.mov (.t 8))]))
def xWk : ACode := xOa
def xJ1 : List Nat := [1,3,4,5,6,7,8,9,10,11,12]
abbrev xHf (s0 s2 : AV) : List AV := [s0,.any,s2,.any,.any,.any,.any,.any,.any,.any,.any,.any,.any]
theorem xOb (s0 s1 s2 s3 s4 s5 s6 s7 s8 s9 s10 s11 s12 : AV) : xAm xJ1 [s0,s1,s2,s3,s4,s5,s6,s7,s8,s9,s10,s11,s12] = xHf s0 s2 := by kernel_rfl
theorem xWl {prog : Nat → Option AFunc} (s0 s2 : AV) (H : xAc) : (lim prog).loop xJ1 xWk ⟨xHf s0 s2,H⟩ = xAD (lim prog) xJ1 xWk (run (lim prog) xOa ⟨xHf s0 s2,H⟩) := xAd _ _ _ _ (by kernel_rfl)
def a71 : AFunc := ⟨13,
 .seq (.region [oO 2 (.mov (.c (.int .i64 0)))])
 (.block 0 (.loop xJ1 xWk)),
 []⟩
def yFE : ACode :=
 .seq (.region [oO 8 (.bin .lss (.t 7) (.t 6))])
 (.seq (.cond (.t 8)
 (.skip)
 (.exit 0))
 (.seq (.block 1 (.seq (.region [oO 9 (.iaddr 1 (.t 5) (.t 7)),
 oO 10 (.load false 1 (.t 9)),
 oO 4 (.mov (.t 10))])
 (.region [oO 11 (.mov (.t 2)),
 oO 12 (.mov (.t 4)),
 oO 13 (.bin .shl (.c (.int .u64 1)) (.t 12)),
 oO 14 (.bin .or (.t 11) (.t 13)),
 oO 2 (.mov (.t 14))])))
 (.region [oO 15 (.bin .add (.t 7) (.c (.int .i64 1))),
 oO 7 (.mov (.t 15))])))
def yHx : ACode := yFE
def yFF : List Nat := [0,1,3,4,8,9,10,11,12,13,14,15,16]
def a73 : AFunc := ⟨17,
 .seq (.region [oO 2 (.mov (.c (.int .u64 0)))])
 (.seq (.seq (.region [oO 5 (.mov (.t 0)),
 oO 6 (.len (.t 5)),
 oO 7 (.mov (.c (.int .i64 0)))])
 (.block 0 (.loop yFF yHx)))
 (.seq (.region [oO 16 (.mov (.t 2)),
 oO 2 (.mov (.t 16))])
 (.ret))),
 [.tmp 2]⟩
def yFG : ACode :=
 .seq (.region [oO 15 (.bin .lss (.t 14) (.t 13))])
 (.seq (.cond (.t 15)
 (.skip)
 (.exit 0))
 (.seq (.block 1 (.seq (.region [oO 16 (.iaddr 5 (.t 12) (.t 14)),
 oO 17 (.load true 5 (.t 16)),
 oO 10 (.box (.c (.agg [.int .i64 0,.int .i64 0,.int .i64 0,.int .u8 0,.int .u8 0]))),
 ⟨none,.store 5 (.t 10) (.t 17),none⟩])
 (.seq (.draw 30 [oO 18 (.load false 1 (.t 4)),
 oO 19 (.mov (.t 0)),
 oO 20 (.iaddr 1 (.t 18) (.t 19)),
 oO 21 (.load false 1 (.t 20)),
 oO 22 (.faddr 0 (.t 10)),
 oO 23 (.load false 1 (.t 22)),
 oO 24 (.bin .shr (.t 21) (.t 23)),
 oO 25 (.load false 1 (.t 4)),
 oO 26 (.mov (.t 1)),
 oO 27 (.iaddr 1 (.t 25) (.t 26)),
 oO 28 (.load false 1 (.t 27)),
 oO 29 (.faddr 1 (.t 10)),
 oO 30 (.load false 1 (.t 29)),
 oO 31 (.bin .shr (.t 28) (.t 30)),
 oO 32 (.bin .and (.t 24) (.t 31)),
 oO 33 (.bin .and (.t 32) (.c (.int .u64 1))),
 oO 34 (.bin .neq (.t 33) (.c (.int .u64 0))),
 oO 35 (.mov (.t 34)),
 ⟨some 36,.mov (.t 2),some (35,true)⟩,
 ⟨some 37,.conv .u8 (.t 36),some (35,true)⟩,
 ⟨some 38,.faddr 3 (.t 10),some (35,true)⟩,
 ⟨some 39,.load false 1 (.t 38),some (35,true)⟩,
 ⟨some 40,.bin .and (.t 37) (.t 39),some (35,true)⟩,
 ⟨some 41,.faddr 3 (.t 10),some (35,true)⟩,
 ⟨some 42,.load false 1 (.t 41),some (35,true)⟩,
 ⟨some 43,.bin .eql (.t 40) (.t 42),some (35,true)⟩,
 oO 44 (.pick (.t 35) (.t 43) (.c (.bool false))),
 oO 45 (.mov (.t 44)),
 ⟨some 46,.mov (.t 2),some (45,true)⟩,
 ⟨some 47,.conv .u8 (.t 46),some (45,true)⟩,
 ⟨some 48,.faddr 4 (.t 10),some (45,true)⟩,
 ⟨some 49,.load false 1 (.t 48),some (45,true)⟩,
 ⟨some 50,.bin .and (.t 47) (.t 49),some (45,true)⟩,
 ⟨some 51,.bin .eql (.t 50) (.c (.int .u8 0)),some (45,true)⟩,
 oO 52 (.pick (.t 45) (.t 51) (.c (.bool false)))])
 (.cond (.t 52)
 (.region [oO 53 (.mov (.t 8)),
 oO 54 (.faddr 2 (.t 10)),
 oO 55 (.load false 1 (.t 54)),
 oO 56 (.bin .shl (.c (.int .u64 1)) (.t 55)),
 oO 57 (.bin .or (.t 53) (.t 56)),
 oO 8 (.mov (.t 57))])
 (.skip)))))
 (.region [oO 58 (.bin .add (.t 14) (.c (.int .i64 1))),
 oO 14 (.mov (.t 58))])))
def yHy : ACode := yFG
def yFH : List Nat := [3,5,6,7,9,10,11,15,16,17,18,19,20,21,22,23,24,25,26,27,28,29,30,31,32,33,34,35,36,37,38,39,40,41,42,43,44,45,46,47,48,49,50,51,52,53,54,55,56,57,58,59]
def a74 : AFunc := ⟨60,
 .seq (.region [oO 8 (.mov (.c (.int .u64 0)))])
 (.seq (.seq (.region [oO 11 (.faddr 4 (.t 3)),
 oO 12 (.load false 1 (.t 11)),
 oO 13 (.len (.t 12)),
 oO 14 (.mov (.c (.int .i64 0)))])
 (.block 0 (.loop yFH yHy)))
 (.seq (.region [oO 59 (.mov (.t 8)),
 oO 8 (.mov (.t 59))])
 (.ret))),
 [.tmp 8]⟩
def xOc : ACode :=
 .seq (.region [oO 33 (.bin .lss (.t 32) (.t 31))])
 (.seq (.cond (.t 33)
 (.skip)
 (.exit 6))
 (.seq (.block 7 (.seq (.region [oO 34 (.mov (.t 32)),
 oO 9 (.mov (.t 34))])
 (.seq (.region [oO 35 (.mov (.t 1)),
 oO 36 (.arrat 1 2 (.t 8) (.c (.int .i64 0))),
 oO 37 (.load false 1 (.t 36)),
 oO 38 (.arrat 1 2 (.t 8) (.c (.int .i64 1))),
 oO 39 (.load false 1 (.t 38)),
 oO 40 (.mov (.t 9)),
 oO 41 (.icall (.t 35) [(.t 37),(.t 39),(.t 40)]),
 oO 4 (.mov (.t 41))])
 (.seq (.region [oO 42 (.mov (.t 4)),
 oO 43 (.bin .lss (.t 42) (.c (.int .i64 0)))])
 (.cond (.t 43)
 (.exit 0)
 (.skip))))))
 (.region [oO 44 (.bin .add (.t 32) (.c (.int .i64 1))),
 oO 32 (.mov (.t 44))])))
def yAu : ACode := xOc
def xOd : List Nat := [2,3,7,9,10,11,12,13,14,15,16,17,18,19,20,21,22,23,24,25,28,29,30,33,34,35,36,37,38,39,40,41,42,43,44,45]
abbrev xOe (s0 s1 s4 s5 s6 s8 s26 s27 s31 s32 : AV) : List AV := [s0,s1,.any,.any,s4,s5,s6,.any,s8,.any,.any,.any,.any,.any,.any,.any,.any,.any,.any,.any,.any,.any,.any,.any,.any,.any,s26,s27,.any,.any,.any,s31,s32,.any,.any,.any,.any,.any,.any,.any,.any,.any,.any,.any,.any,.any]
theorem xHg (s0 s1 s2 s3 s4 s5 s6 s7 s8 s9 s10 s11 s12 s13 s14 s15 s16 s17 s18 s19 s20 s21 s22 s23 s24 s25 s26 s27 s28 s29 s30 s31 s32 s33 s34 s35 s36 s37 s38 s39 s40 s41 s42 s43 s44 s45 : AV) : xAm xOd [s0,s1,s2,s3,s4,s5,s6,s7,s8,s9,s10,s11,s12,s13,s14,s15,s16,s17,s18,s19,s20,s21,s22,s23,s24,s25,s26,s27,s28,s29,s30,s31,s32,s33,s34,s35,s36,s37,s38,s39,s40,s41,s42,s43,s44,s45] = xOe s0 s1 s4 s5 s6 s8 s26 s27 s31 s32 := by kernel_rfl
theorem xWm {prog : Nat → Option AFunc} (s0 s1 s4 s5 s6 s8 s26 s27 s31 s32 : AV) (H : xAc) : (lim prog).loop xOd yAu ⟨xOe s0 s1 s4 s5 s6 s8 s26 s27 s31 s32,H⟩ = xAD (lim prog) xOd yAu (run (lim prog) xOc ⟨xOe s0 s1 s4 s5 s6 s8 s26 s27 s31 s32,H⟩) := xAd _ _ _ _ (by kernel_rfl)
def xHh : ACode :=
 .seq (.region [oO 28 (.bin .lss (.t 27) (.c (.int .i64 2)))])
 (.seq (.cond (.t 28)
 (.skip)
 (.exit 4))
 (.seq (.block 5 (.seq (.region [oO 29 (.idx true 2 2 (.t 26) (.t 27)),
 oO 8 (.box (.c (.agg [.int .i64 0,.int .i64 0]))),
 ⟨none,.store 2 (.t 8) (.t 29),none⟩])
 (.seq (.region [oO 30 (.mov (.t 0)),
 oO 31 (.bin .shl (.c (.int .i64 1)) (.t 30)),
 oO 32 (.mov (.c (.int .i64 0)))])
 (.block 6 (.loop xOd yAu)))))
 (.region [oO 45 (.bin .add (.t 27) (.c (.int .i64 1))),
 oO 27 (.mov (.t 45))])))
def xUK : ACode := xHh
def xHi : List Nat := [2,3,7,8,9,10,11,12,13,14,15,16,17,18,19,20,21,22,23,24,25,28,29,30,31,32,33,34,35,36,37,38,39,40,41,42,43,44,45]
abbrev xEM (s0 s1 s4 s5 s6 s26 s27 : AV) : List AV := [s0,s1,.any,.any,s4,s5,s6,.any,.any,.any,.any,.any,.any,.any,.any,.any,.any,.any,.any,.any,.any,.any,.any,.any,.any,.any,s26,s27,.any,.any,.any,.any,.any,.any,.any,.any,.any,.any,.any,.any,.any,.any,.any,.any,.any,.any]
theorem xHj (s0 s1 s2 s3 s4 s5 s6 s7 s8 s9 s10 s11 s12 s13 s14 s15 s16 s17 s18 s19 s20 s21 s22 s23 s24 s25 s26 s27 s28 s29 s30 s31 s32 s33 s34 s35 s36 s37 s38 s39 s40 s41 s42 s43 s44 s45 : AV) : xAm xHi [s0,s1,s2,s3,s4,s5,s6,s7,s8,s9,s10,s11,s12,s13,s14,s15,s16,s17,s18,s19,s20,s21,s22,s23,s24,s25,s26,s27,s28,s29,s30,s31,s32,s33,s34,s35,s36,s37,s38,s39,s40,s41,s42,s43,s44,s45] = xEM s0 s1 s4 s5 s6 s26 s27 := by kernel_rfl
theorem xOf {prog : Nat → Option AFunc} (s0 s1 s4 s5 s6 s26 s27 : AV) (H : xAc) : (lim prog).loop xHi xUK ⟨xEM s0 s1 s4 s5 s6 s26 s27,H⟩ = xAD (lim prog) xHi xUK (run (lim prog) xHh ⟨xEM s0 s1 s4 s5 s6 s26 s27,H⟩) := xAd _ _ _ _ (by kernel_rfl)
def xOg : ACode :=
 .seq (.seq (.region [oO 15 (.mov (.t 6)),
 oO 16 (.mov (.t 5)),
 oO 17 (.bin .leq (.t 15) (.t 16))])
 (.cond (.t 17)
 (.skip)
 (.exit 2)))
 (.seq (.block 3 (.seq (.region [oO 20 (.mov (.t 6)),
 oO 21 (.mov (.t 5)),
 oO 22 (.build [.int .i64 0,.int .i64 0] [(0,1,(.t 20)),(1,1,(.t 21))]),
 oO 23 (.mov (.t 5)),
 oO 24 (.mov (.t 6)),
 oO 25 (.build [.int .i64 0,.int .i64 0] [(0,1,(.t 23)),(1,1,(.t 24))]),
 oO 26 (.build [.int .i64 0,.int .i64 0,.int .i64 0,.int .i64 0] [(0,2,(.t 22)),(2,2,(.t 25))]),
 oO 27 (.mov (.c (.int .i64 0)))])
 (.block 4 (.loop xHi xUK))))
 (.region [oO 18 (.mov (.t 6)),
 oO 19 (.bin .add (.t 18) (.c (.int .i64 1))),
 oO 6 (.mov (.t 19))]))
def yAv : ACode := xOg
def xOh : List Nat := [2,3,7,8,9,10,11,12,13,14,15,16,17,18,19,20,21,22,23,24,25,26,27,28,29,30,31,32,33,34,35,36,37,38,39,40,41,42,43,44,45]
abbrev xOi (s0 s1 s4 s5 s6 : AV) : List AV := [s0,s1,.any,.any,s4,s5,s6,.any,.any,.any,.any,.any,.any,.any,.any,.any,.any,.any,.any,.any,.any,.any,.any,.any,.any,.any,.any,.any,.any,.any,.any,.any,.any,.any,.any,.any,.any,.any,.any,.any,.any,.any,.any,.any,.any,.any]
theorem xOj (s0 s1 s2 s3 s4 s5 s6 s7 s8 s9 s10 s11 s12 s13 s14 s15 s16 s17 s18 s19 s20 s21 s22 s23 s24 s25 s26 s27 s28 s29 s30 s31 s32 s33 s34 s35 s36 s37 s38 s39 s40 s41 s42 s43 s44 s45 : AV) : xAm xOh [s0,s1,s2,s3,s4,s5,s6,s7,s8,s9,s10,s11,s12,s13,s14,s15,s16,s17,s18,s19,s20,s21,s22,s23,s24,s25,s26,s27,s28,s29,s30,s31,s32,s33,s34,s35,s36,s37,s38,s39,s40,s41,s42,s43,s44,s45] = xOi s0 s1 s4 s5 s6 := by kernel_rfl
theorem xWn {prog : Nat → Option AFunc} (s0 s1 s4 s5 s6 : AV) (H : xAc) : (lim prog).loop xOh yAv ⟨xOi s0 s1 s4 s5 s6,H⟩ = xAD (lim prog) xOh yAv (run (lim prog) xOg ⟨xOi s0 s1 s4 s5 s6,H⟩) := xAd _ _ _ _ (by kernel_rfl)
def xJ2 : ACode :=
 .seq (.seq (.region [oO 10 (.mov (.t 5)),
 oO 11 (.mov (.t 4)),
 oO 12 (.bin .lss (.t 10) (.t 11))])
 (.cond (.t 12)
 (.skip)
 (.exit 0)))
 (.seq (.block 1 (.seq (.region [oO 6 (.mov (.c (.int .i64 0)))])
 (.block 2 (.loop xOh yAv))))
 (.region [oO 13 (.mov (.t 5)),
 oO 14 (.bin .add (.t 13) (.c (.int .i64 1))),
 oO 5 (.mov (.t 14))]))
def yAw : ACode := xJ2
def xOk : List Nat := [2,3,6,7,8,9,10,11,12,13,14,15,16,17,18,19,20,21,22,23,24,25,26,27,28,29,30,31,32,33,34,35,36,37,38,39,40,41,42,43,44,45]
abbrev xOl (s0 s1 s4 s5 : AV) : List AV := [s0,s1,.any,.any,s4,s5,.any,.any,.any,.any,.any,.any,.any,.any,.any,.any,.any,.any,.any,.any,.any,.any,.any,.any,.any,.any,.any,.any,.any,.any,.any,.any,.any,.any,.any,.any,.any,.any,.any,.any,.any,.any,.any,.any,.any,.any]
theorem xOm (s0 s1 s2 s3 s4 s5 s6 s7 s8 s9 s10 s11 s12 s13 s14 s15 s16 s17 s18 s19 s20 s21 s22 s23 s24 s25 s26 s27 s28 s29 s30 s31 s32 s33 s34 s35 s36 s37 s38 s39 s40 s41 s42 s43 s44 s45 : AV) : xAm xOk [s0,s1,s2,s3,s4,s5,s6,s7,s8,s9,s10,s11,s12,s13,s14,s15,s16,s17,s18,s19,s20,s21,s22,s23,s24,s25,s26,s27,s28,s29,s30,s31,s32,s33,s34,s35,s36,s37,s38,s39,s40,s41,s42,s43,s44,s45] = xOl s0 s1 s4 s5 := by kernel_rfl
theorem xSp {prog : Nat → Option AFunc} (s0 s1 s4 s5 : AV) (H : xAc) : (lim prog).loop xOk yAw ⟨xOl s0 s1 s4 s5,H⟩ = xAD (lim prog) xOk yAw (run (lim prog) xJ2 ⟨xOl s0 s1 s4 s5,H⟩) := xAd _ _ _ _ (by kernel_rfl)
def a75 : AFunc := ⟨46,
 .scope (.seq (.region [oO 4 (.mov (.c (.int .i64 1)))])
 (.seq (.label)
 (.seq (.region [oO 5 (.mov (.c (.int .i64 0)))])
 (.block 0 (.loop xOk yAw))))),
 []⟩
def a76 : AFunc := ⟨43,
 .seq (.region [oO 11 (.mov (.c (.int .i64 0)))])
 (.seq (.region [oO 15 (.load false 1 (.t 3)),
 oO 16 (.mov (.t 0)),
 oO 17 (.mov (.t 1)),
 oO 18 (.mov (.t 2)),
 oO 19 (.icall (.t 15) [(.t 16),(.t 17),(.t 18)]),
 oO 12 (.mov (.t 19))])
 (.seq (.seq (.region [oO 21 (.load false 1 (.t 4)),
 oO 22 (.mov (.t 12)),
 oO 23 (.mlook [0] true (.int .i64 0) (.t 21) (.t 22)),
 oO 20 (.mov (.t 23)),
 oO 24 (.ext 0 (.t 20)),
 oO 25 (.ext 1 (.t 20)),
 oO 13 (.mov (.t 24)),
 oO 14 (.mov (.t 25))])
 (.seq (.region [oO 26 (.mov (.t 14)),
 oO 27 (.un .not (.t 26))])
 (.cond (.t 27)
 (.seq (.region [oO 28 (.load false 1 (.t 4)),
 oO 29 (.mov (.t 12)),
 oO 30 (.load false 1 (.t 5)),
 oO 31 (.len (.t 30)),
 ⟨none,.mupd [0] (.t 28) (.t 29) (.t 31),none⟩])
 (.region [oO 32 (.load false 1 (.t 5)),
 oO 33 (.mov (.t 12)),
 oO 34 (.bslice true [.int .u64 0] 1 1 [(0,(.t 33))]),
 oO 35 (.append false 1 8 (.t 32) (.t 34)),
 ⟨none,.store 1 (.t 5) (.t 35),none⟩]))
 (.skip))))
 (.seq (.seq (.region [oO 36 (.load false 1 (.t 5)),
 oO 37 (.len (.t 36)),
 oO 38 (.load false 1 (.t 6)),
 oO 39 (.bin .gtr (.t 37) (.t 38)),
 ⟨none,.store 1 (.t 7) (.t 39),none⟩])
 (.seq (.region [oO 40 (.load false 1 (.t 7))])
 (.cond (.t 40)
 (.seq (.region [oO 11 (.mov (.c (.int .i64 (-1))))])
 (.ret))
 (.skip))))
 (.seq (.region [oO 41 (.load false 1 (.t 5)),
 oO 42 (.len (.t 41)),
 oO 11 (.mov (.t 42))])
 (.ret))))),
 [.tmp 11]⟩
def yFI : ACode :=
 .seq (.region [oO 5 (.bin .lss (.t 4) (.c (.int .i64 64)))])
 (.seq (.cond (.t 5)
 (.skip)
 (.exit 0))
 (.seq (.block 1 (.seq (.region [oO 6 (.mov (.t 4)),
 oO 3 (.mov (.t 6))])
 (.seq (.region [oO 7 (.mov (.t 0)),
 oO 8 (.mov (.t 3)),
 oO 9 (.bin .shr (.t 7) (.t 8)),
 oO 10 (.bin .and (.t 9) (.c (.int .u64 1))),
 oO 11 (.bin .neq (.t 10) (.c (.int .u64 0)))])
 (.cond (.t 11)
 (.region [oO 12 (.mov (.t 2)),
 oO 13 (.mov (.t 3)),
 oO 14 (.bslice true [.int .i64 0] 1 1 [(0,(.t 13))]),
 oO 15 (.append false 1 8 (.t 12) (.t 14)),
 oO 2 (.mov (.t 15))])
 (.skip)))))
 (.region [oO 16 (.bin .add (.t 4) (.c (.int .i64 1))),
 oO 4 (.mov (.t 16))])))
def yHz : ACode := yFI
def yFJ : List Nat := [1,3,5,6,7,8,9,10,11,12,13,14,15,16,17]
def a77 : AFunc := ⟨18,
 .seq (.region [oO 2 (.mov (.c (.sl true 0 [])))])
 (.seq (.seq (.region [oO 4 (.mov (.c (.int .i64 0)))])
 (.block 0 (.loop yFJ yHz)))
 (.seq (.region [oO 17 (.mov (.t 2)),
 oO 2 (.mov (.t 17))])
 (.ret))),
 [.tmp 2]⟩
def a78 : AFunc := ⟨16,
 .seq (.region [oO 8 (.mov (.c (.int .i64 0)))])
 (.seq (.draw 6 [oO 9 (.load false 1 (.t 3)),
 oO 10 (.load false 1 (.t 4)),
 oO 11 (.mov (.t 0)),
 oO 12 (.mov (.t 1)),
 oO 13 (.mov (.t 2)),
 oO 14 (.fcall (.t 10) [(.t 11),(.t 12),(.t 13)]),
 oO 15 (.mlook [0] false (.int .i64 0) (.t 9) (.t 14)),
 oO 8 (.mov (.t 15))])
 (.ret)),
 [.tmp 8]⟩
def a79 : AFunc := ⟨9,
 .seq (.region [oO 3 (.box (.t 0)),
 oO 4 (.mov (.c (.bool false)))])
 (.seq (.region [oO 5 (.faddr 3 (.t 1)),
 oO 6 (.load false 1 (.t 5)),
 oO 7 (.mkfunc 81 [(.t 2),(.t 3)]),
 oO 8 (.icall (.c (.func 80 [])) [(.t 6),(.t 7)]),
 oO 4 (.mov (.t 8))])
 (.ret)),
 [.tmp 4]⟩
def a80 : AFunc := ⟨9,
 .seq (.region [oO 4 (.mov (.c (.bool false)))])
 (.seq (.region [oO 5 (.mov (.t 0)),
 oO 6 (.mov (.t 1)),
 oO 7 (.icall (.c (.func 109 [])) [(.t 5),(.t 6)]),
 oO 8 (.bin .geq (.t 7) (.c (.int .i64 0))),
 oO 4 (.mov (.t 8))])
 (.ret)),
 [.tmp 4]⟩
def a81 : AFunc := ⟨13,
 .seq (.region [oO 4 (.mov (.c (.bool false)))])
 (.seq (.region [oO 5 (.load false 1 (.t 1)),
 oO 6 (.load false 1 (.t 2)),
 oO 7 (.iaddr 1 (.t 5) (.t 6)),
 oO 8 (.load false 1 (.t 7)),
 oO 9 (.mov (.t 0)),
 oO 10 (.bin .shr (.t 8) (.t 9)),
 oO 11 (.bin .and (.t 10) (.c (.int .u64 1))),
 oO 12 (.bin .neq (.t 11) (.c (.int .u64 0))),
 oO 4 (.mov (.t 12))])
 (.ret)),
 [.tmp 4]⟩
def yFK : ACode :=
 .seq (.region [oO 11 (.bin .lss (.t 10) (.t 9))])
 (.seq (.cond (.t 11)
 (.skip)
 (.exit 0))
 (.seq (.block 1 (.seq (.region [oO 12 (.iaddr 1 (.t 8) (.t 10)),
 oO 13 (.load false 1 (.t 12)),
 oO 7 (.mov (.t 13))])
 (.seq (.seq (.region [oO 14 (.mov (.t 7)),
 oO 15 (.mov (.t 5)),
 oO 16 (.bin .leq (.t 14) (.t 15)),
 oO 17 (.mov (.t 16)),
 ⟨some 18,.mov (.t 7),some (17,false)⟩,
 ⟨some 19,.mov (.t 1),some (17,false)⟩,
 ⟨some 20,.bin .geq (.t 18) (.t 19),some (17,false)⟩,
 oO 21 (.pick (.t 17) (.c (.bool true)) (.t 20))])
 (.cond (.t 21)
 (.seq (.region [oO 4 (.mov (.c (.int .i64 8)))])
 (.ret))
 (.skip)))
 (.region [oO 22 (.mov (.t 7)),
 oO 5 (.mov (.t 22))]))))
 (.region [oO 23 (.bin .add (.t 10) (.c (.int .i64 1))),
 oO 10 (.mov (.t 23))])))
def yHA : ACode := yFK
def yFL : List Nat := [0,2,3,6,7,11,12,13,14,15,16,17,18,19,20,21,22,23]
def a89 : AFunc := ⟨24,
 .seq (.region [oO 4 (.mov (.c (.int .i64 0)))])
 (.seq (.region [oO 5 (.mov (.c (.int .i64 (-1))))])
 (.seq (.seq (.region [oO 8 (.mov (.t 0)),
 oO 9 (.len (.t 8)),
 oO 10 (.mov (.c (.int .i64 0)))])
 (.block 0 (.loop yFL yHA)))
 (.seq (.region [oO 4 (.mov (.c (.int .i64 0)))])
 (.ret)))),
 [.tmp 4]⟩
def a90 : AFunc := ⟨28,
 .seq (.region [oO 2 (.box (.t 0)),
 oO 4 (.mov (.c (.int .i64 0)))])
 (.seq (.block 0 (.seq (.seq (.region [oO 6 (.mov (.t 1)),
 oO 7 (.bin .lss (.t 6) (.c (.int .i64 0))),
 oO 8 (.mov (.t 7)),
 ⟨some 9,.mov (.t 1),some (8,false)⟩,
 ⟨some 10,.bin .gtr (.t 9) (.c (.int .i64 6)),some (8,false)⟩,
 oO 11 (.pick (.t 8) (.c (.bool true)) (.t 10)),
 oO 5 (.mov (.t 11))])
 (.cond (.t 5)
 (.skip)
 (.draw 6 [oO 12 (.faddr 0 (.t 2)),
 oO 13 (.load false 1 (.t 12)),
 oO 14 (.faddr 1 (.t 2)),
 oO 15 (.load false 1 (.t 14)),
 oO 16 (.bin .or (.t 13) (.t 15)),
 oO 17 (.conv .i64 (.t 16)),
 oO 18 (.mov (.t 1)),
 oO 19 (.bin .shl (.c (.int .i64 1)) (.t 18)),
 oO 20 (.bin .geq (.t 17) (.t 19)),
 oO 5 (.mov (.t 20))])))
 (.cond (.t 5)
 (.seq (.region [oO 4 (.mov (.c (.int .i64 7)))])
 (.ret))
 (.seq (.region [oO 22 (.faddr 0 (.t 2)),
 oO 23 (.load false 1 (.t 22)),
 oO 24 (.faddr 1 (.t 2)),
 oO 25 (.load false 1 (.t 24)),
 oO 26 (.bin .and (.t 23) (.t 25)),
 oO 27 (.bin .neq (.t 26) (.c (.int .u8 0))),
 oO 21 (.mov (.t 27))])
 (.cond (.t 21)
 (.seq (.region [oO 4 (.mov (.c (.int .i64 2)))])
 (.ret))
 (.skip))))))
 (.seq (.region [oO 4 (.mov (.c (.int .i64 0)))])
 (.ret))),
 [.tmp 4]⟩
def a91 : AFunc := ⟨18,
 .seq (.region [oO 2 (.mov (.c (.bool false)))])
 (.seq (.region [oO 3 (.mov (.t 0)),
 oO 4 (.len (.t 3)),
 oO 5 (.bin .eql (.t 4) (.c (.int .i64 0))),
 oO 6 (.mov (.t 5)),
 ⟨some 7,.mov (.t 0),some (6,false)⟩,
 ⟨some 8,.len (.t 7),some (6,false)⟩,
 ⟨some 9,.bin .leq (.t 8) (.c (.int .i64 31)),some (6,false)⟩,
 ⟨some 10,.mov (.t 9),some (6,false)⟩,
 ⟨some 11,.mov (.t 0),some (10,true)⟩,
 ⟨some 12,.call 114 [(.t 11),(.c (.int .i64 0))],some (10,true)⟩,
 ⟨some 13,.mov (.t 0),some (10,true)⟩,
 ⟨some 14,.len (.t 13),some (10,true)⟩,
 ⟨some 15,.bin .eql (.t 12) (.t 14),some (10,true)⟩,
 ⟨some 16,.pick (.t 10) (.t 15) (.c (.bool false)),some (6,false)⟩,
 oO 17 (.pick (.t 6) (.c (.bool true)) (.t 16)),
 oO 2 (.mov (.t 17))])
 (.ret)),
 [.tmp 2]⟩
def xSq : ACode :=
 .seq (.seq (.region [oO 5 (.mov (.t 4)),
 oO 6 (.mov (.t 0)),
 oO 7 (.len (.t 6)),
 oO 8 (.bin .lss (.t 5) (.t 7))])
 (.cond (.t 8)
 (.skip)
 (.exit 0)))
 (.seq (.block 1 (.region [oO 11 (.mov (.t 3)),
 oO 12 (.mov (.t 0)),
 oO 13 (.mov (.t 4)),
 oO 14 (.iaddr 1 (.t 12) (.t 13)),
 oO 15 (.load false 1 (.t 14)),
 oO 16 (.call 119 [(.t 15)]),
 oO 17 (.bslice true [.sl true 0 []] 1 1 [(0,(.t 16))]),
 oO 18 (.append false 1 24 (.t 11) (.t 17)),
 oO 3 (.mov (.t 18))]))
 (.region [oO 9 (.mov (.t 4)),
 oO 10 (.bin .add (.t 9) (.c (.int .i64 1))),
 oO 4 (.mov (.t 10))]))
def yAx : ACode := xSq
def xOn : List Nat := [1,2,5,6,7,8,9,10,11,12,13,14,15,16,17,18,19]
abbrev xOo (s0 s3 s4 : AV) : List AV := [s0,.any,.any,s3,s4,.any,.any,.any,.any,.any,.any,.any,.any,.any,.any,.any,.any,.any,.any,.any]
theorem xSr (s0 s1 s2 s3 s4 s5 s6 s7 s8 s9 s10 s11 s12 s13 s14 s15 s16 s17 s18 s19 : AV) : xAm xOn [s0,s1,s2,s3,s4,s5,s6,s7,s8,s9,s10,s11,s12,s13,s14,s15,s16,s17,s18,s19] = xOo s0 s3 s4 := by kernel_rfl
theorem yCs {prog : Nat → Option AFunc} (s0 s3 s4 : AV) (H : xAc) : (lim prog).loop xOn yAx ⟨xOo s0 s3 s4,H⟩ = xAD (lim prog) xOn yAx (run (lim prog) xSq ⟨xOo s0 s3 s4,H⟩) := xAd _ _ _ _ (by kernel_rfl)
def a97 : AFunc := ⟨20,
 .seq (.region [oO 2 (.mov (.c (.sl true 0 [])))])
 (.seq (.region [oO 3 (.mov (.c (.sl true 0 [])))])
 (.seq (.seq (.region [oO 4 (.mov (.c (.int .i64 0)))])
 (.block 0 (.loop xOn yAx)))
 (.seq (.region [oO 19 (.mov (.t 3)),
 oO 2 (.mov (.t 19))])
 (.ret)))),
 [.tmp 2]⟩
def a98 : AFunc := ⟨5,
 .seq (.region [oO 2 (.mov (.c (.sl true 0 [])))])
 (.seq (.region [oO 3 (.mov (.t 0)),
 oO 4 (.append false 1 1 (.c (.sl true 0 [])) (.t 3)),
 oO 2 (.mov (.t 4))])
 (.ret)),
 [.tmp 2]⟩
def xJ3 : ACode :=
 .seq (.region [oO 21 (.bin .lss (.t 20) (.t 19))])
 (.seq (.cond (.t 21)
 (.skip)
 (.exit 1))
 (.seq (.block 2 (.seq (.region [oO 22 (.iaddr 3 (.t 18) (.t 20)),
 oO 23 (.load true 3 (.t 22)),
 oO 6 (.box (.c (.agg [.int .u8 0,.int .i64 0,.int .i64 0]))),
 ⟨none,.store 3 (.t 6) (.t 23),none⟩])
 (.seq (.region [oO 24 (.faddr 0 (.t 6)),
 oO 25 (.load false 1 (.t 24)),
 oO 26 (.conv .i64 (.t 25)),
 oO 27 (.mov (.t 1)),
 oO 28 (.bin .shr (.t 26) (.t 27)),
 oO 29 (.bin .neq (.t 28) (.c (.int .i64 0)))])
 (.cond (.t 29)
 (.seq (.region [oO 4 (.mov (.c (.int .i64 1)))])
 (.ret))
 (.skip)))))
 (.region [oO 30 (.bin .add (.t 20) (.c (.int .i64 1))),
 oO 20 (.mov (.t 30))])))
def xWo : ACode := xJ3
def xJ4 : List Nat := [2,3,5,6,7,8,9,10,11,12,13,14,15,16,17,21,22,23,24,25,26,27,28,29,30,31,32,33]
abbrev xHk (s0 s1 s4 s18 s19 s20 : AV) : List AV := [s0,s1,.any,.any,s4,.any,.any,.any,.any,.any,.any,.any,.any,.any,.any,.any,.any,.any,s18,s19,s20,.any,.any,.any,.any,.any,.any,.any,.any,.any,.any,.any,.any,.any]
theorem xHl (s0 s1 s2 s3 s4 s5 s6 s7 s8 s9 s10 s11 s12 s13 s14 s15 s16 s17 s18 s19 s20 s21 s22 s23 s24 s25 s26 s27 s28 s29 s30 s31 s32 s33 : AV) : xAm xJ4 [s0,s1,s2,s3,s4,s5,s6,s7,s8,s9,s10,s11,s12,s13,s14,s15,s16,s17,s18,s19,s20,s21,s22,s23,s24,s25,s26,s27,s28,s29,s30,s31,s32,s33] = xHk s0 s1 s4 s18 s19 s20 := by kernel_rfl
theorem xSs {prog : Nat → Option AFunc} (s0 s1 s4 s18 s19 s20 : AV) (H : xAc) : (lim prog).loop xJ4 xWo ⟨xHk s0 s1 s4 s18 s19 s20,H⟩ = xAD (lim prog) xJ4 xWo (run (lim prog) xJ3 ⟨xHk s0 s1 s4 s18 s19 s20,H⟩) := xAd _ _ _ _ (by kernel_rfl)
def a99 : AFunc := ⟨34,
 .seq (.region [oO 4 (.mov (.c (.int .i64 0)))])
 (.seq (.block 0 (.seq (.region [oO 8 (.mov (.t 1)),
 oO 9 (.bin .lss (.t 8) (.c (.int .i64 0))),
 oO 10 (.mov (.t 9)),
 ⟨some 11,.mov (.t 1),some (10,false)⟩,
 ⟨some 12,.bin .gtr (.t 11) (.c (.int .i64 3)),some (10,false)⟩,
 oO 13 (.pick (.t 10) (.c (.bool true)) (.t 12)),
 oO 7 (.mov (.t 13))])
 (.cond (.t 7)
 (.seq (.region [oO 4 (.mov (.c (.int .i64 7)))])
 (.ret))
 (.seq (.region [oO 15 (.mov (.t 0)),
 oO 16 (.len (.t 15)),
 oO 17 (.bin .gtr (.t 16) (.c (.int .i64 31))),
 oO 14 (.mov (.t 17))])
 (.cond (.t 14)
 (.seq (.region [oO 4 (.mov (.c (.int .i64 4)))])
 (.ret))
 (.skip))))))
 (.seq (.seq (.region [oO 18 (.mov (.t 0)),
 oO 19 (.len (.t 18)),
 oO 20 (.mov (.c (.int .i64 0)))])
 (.block 1 (.loop xJ4 xWo)))
 (.seq (.seq (.region [oO 31 (.mov (.t 0)),
 oO 32 (.call 91 [(.t 31)]),
 oO 33 (.un .not (.t 32))])
 (.cond (.t 33)
 (.seq (.region [oO 4 (.mov (.c (.int .i64 2)))])
 (.ret))
 (.skip)))
 (.seq (.region [oO 4 (.mov (.c (.int .i64 0)))])
 (.ret))))),
 [.tmp 4]⟩
def yG7 : AFunc := ⟨12,
 .seq (.region [oO 4 (.mov (.c (.int .i64 0)))])
 (.seq (.seq (.region [oO 5 (.mov (.t 0)),
 oO 6 (.bin .lss (.t 5) (.c (.int .i64 0)))])
 (.cond (.t 6)
 (.region [oO 7 (.load false 1 (.t 1)),
 oO 0 (.mov (.t 7))])
 (.skip)))
 (.seq (.region [oO 8 (.load false 1 (.t 2)),
 oO 9 (.mov (.t 0)),
 oO 10 (.iaddr 1 (.t 8) (.t 9)),
 oO 11 (.load false 1 (.t 10)),
 oO 4 (.mov (.t 11))])
 (.ret))),
 [.tmp 4]⟩
def yDF : AFunc := ⟨16,
 .seq (.region [oO 2 (.mov (.c (.bool false)))])
 (.seq (.seq (.region [oO 3 (.mov (.t 0)),
 oO 4 (.len (.t 3)),
 oO 5 (.bin .gtr (.t 4) (.c (.int .i64 31)))])
 (.cond (.t 5)
 (.seq (.region [oO 2 (.mov (.c (.bool false)))])
 (.ret))
 (.skip)))
 (.seq (.region [oO 6 (.mov (.t 0)),
 oO 7 (.len (.t 6)),
 oO 8 (.bin .eql (.t 7) (.c (.int .i64 0))),
 oO 9 (.mov (.t 8)),
 ⟨some 10,.mov (.t 0),some (9,false)⟩,
 ⟨some 11,.call 120 [(.t 10),(.c (.int .i64 0))],some (9,false)⟩,
 ⟨some 12,.mov (.t 0),some (9,false)⟩,
 ⟨some 13,.len (.t 12),some (9,false)⟩,
 ⟨some 14,.bin .eql (.t 11) (.t 13),some (9,false)⟩,
 oO 15 (.pick (.t 9) (.c (.bool true)) (.t 14)),
 oO 2 (.mov (.t 15))])
 (.ret))),
 [.tmp 2]⟩
def yG8 : AFunc := ⟨48,
 .seq (.region [oO 9 (.mov (.c (.int .i64 0)))])
 (.seq (.draw 14 [oO 13 (.faddr 2 (.t 3)),
 oO 14 (.load false 1 (.t 13)),
 oO 15 (.load false 1 (.t 4)),
 oO 16 (.mov (.t 0)),
 oO 17 (.iaddr 1 (.t 15) (.t 16)),
 oO 18 (.load false 1 (.t 17)),
 oO 19 (.iaddr 1 (.t 14) (.t 18)),
 oO 20 (.load false 1 (.t 19)),
 oO 21 (.load false 1 (.t 4)),
 oO 22 (.mov (.t 1)),
 oO 23 (.iaddr 1 (.t 21) (.t 22)),
 oO 24 (.load false 1 (.t 23)),
 oO 25 (.iaddr 1 (.t 20) (.t 24)),
 oO 26 (.load false 1 (.t 25)),
 oO 27 (.mov (.t 2)),
 oO 28 (.iaddr 1 (.t 26) (.t 27)),
 oO 29 (.load false 1 (.t 28)),
 oO 10 (.mov (.t 29))])
 (.seq (.seq (.region [oO 31 (.load false 1 (.t 5)),
 oO 32 (.mov (.t 10)),
 oO 33 (.mlook [0] true (.int .i64 0) (.t 31) (.t 32)),
 oO 30 (.mov (.t 33)),
 oO 34 (.ext 0 (.t 30)),
 oO 35 (.ext 1 (.t 30)),
 oO 11 (.mov (.t 34)),
 oO 12 (.mov (.t 35))])
 (.seq (.region [oO 36 (.mov (.t 12)),
 oO 37 (.un .not (.t 36))])
 (.cond (.t 37)
 (.seq (.region [oO 38 (.load false 1 (.t 5)),
 oO 39 (.mov (.t 10)),
 oO 40 (.load false 1 (.t 4)),
 oO 41 (.len (.t 40)),
 ⟨none,.mupd [0] (.t 38) (.t 39) (.t 41),none⟩])
 (.region [oO 42 (.load false 1 (.t 4)),
 oO 43 (.mov (.t 10)),
 oO 44 (.bslice true [.int .i64 0] 1 1 [(0,(.t 43))]),
 oO 45 (.append false 1 8 (.t 42) (.t 44)),
 ⟨none,.store 1 (.t 4) (.t 45),none⟩]))
 (.skip))))
 (.seq (.region [oO 46 (.load false 1 (.t 4)),
 oO 47 (.len (.t 46)),
 oO 9 (.mov (.t 47))])
 (.ret)))),
 [.tmp 9]⟩
def yHB : AFunc := ⟨29,
 .seq (.region [oO 9 (.mov (.c (.int .i64 0)))])
 (.seq (.draw 15 [oO 10 (.load false 1 (.t 3)),
 oO 11 (.faddr 2 (.t 4)),
 oO 12 (.load false 1 (.t 11)),
 oO 13 (.load false 1 (.t 5)),
 oO 14 (.mov (.t 0)),
 oO 15 (.iaddr 1 (.t 13) (.t 14)),
 oO 16 (.load false 1 (.t 15)),
 oO 17 (.iaddr 1 (.t 12) (.t 16)),
 oO 18 (.load false 1 (.t 17)),
 oO 19 (.load false 1 (.t 5)),
 oO 20 (.mov (.t 1)),
 oO 21 (.iaddr 1 (.t 19) (.t 20)),
 oO 22 (.load false 1 (.t 21)),
 oO 23 (.iaddr 1 (.t 18) (.t 22)),
 oO 24 (.load false 1 (.t 23)),
 oO 25 (.mov (.t 2)),
 oO 26 (.iaddr 1 (.t 24) (.t 25)),
 oO 27 (.load false 1 (.t 26)),
 oO 28 (.mlook [0] false (.int .i64 0) (.t 10) (.t 27)),
 oO 9 (.mov (.t 28))])
 (.ret)),
 [.tmp 9]⟩
def yHC : AFunc := ⟨13,
 .seq (.region [oO 4 (.mov (.c (.bool false)))])
 (.seq (.draw 3 [oO 5 (.faddr 3 (.t 1)),
 oO 6 (.load false 1 (.t 5)),
 oO 7 (.load false 1 (.t 2)),
 oO 8 (.mov (.t 0)),
 oO 9 (.iaddr 1 (.t 7) (.t 8)),
 oO 10 (.load false 1 (.t 9)),
 oO 11 (.iaddr 1 (.t 6) (.t 10)),
 oO 12 (.load false 1 (.t 11)),
 oO 4 (.mov (.t 12))])
 (.ret)),
 [.tmp 4]⟩
def yHD : AFunc := ⟨5,
 .seq (.region [⟨some 2,.mov (.c (.str ⟨#[]⟩)),none⟩])
 (.seq (.region [oO 3 (.mov (.t 0)),
 oO 4 (.call 121 [(.t 3)]),
 oO 2 (.mov (.t 4))])
 (.ret)),
 [.tmp 2]⟩
def yHE : AFunc := ⟨12,
 .draw 2 [oO 4 (.load false 1 (.t 1)),
 oO 5 (.load false 1 (.t 2)),
 oO 6 (.mov (.t 0)),
 oO 7 (.iaddr 1 (.t 5) (.t 6)),
 oO 8 (.load false 1 (.t 7)),
 oO 9 (.conv .u8 (.t 8)),
 oO 10 (.bslice true [.int .u8 0] 1 2 [(0,(.c (.int .u8 32))),(1,(.t 9))]),
 oO 11 (.append false 1 1 (.t 4) (.t 10)),
 ⟨none,.store 1 (.t 1) (.t 11),none⟩],
 []⟩
def xFx : ACode :=
 .seq (.seq (.region [oO 18 (.mov (.t 10)),
 oO 19 (.faddr 0 (.t 4)),
 oO 20 (.load false 1 (.t 19)),
 oO 21 (.bin .shl (.c (.int .i64 1)) (.t 20)),
 oO 22 (.bin .lss (.t 18) (.t 21))])
 (.cond (.t 22)
 (.skip)
 (.exit 2)))
 (.seq (.block 3 (.seq (.draw 58 [oO 25 (.mov (.t 1)),
 oO 26 (.faddr 2 (.t 4)),
 oO 27 (.load false 1 (.t 26)),
 oO 28 (.mov (.t 2)),
 oO 29 (.iaddr 1 (.t 27) (.t 28)),
 oO 30 (.load false 1 (.t 29)),
 oO 31 (.mov (.t 9)),
 oO 32 (.iaddr 1 (.t 30) (.t 31)),
 oO 33 (.load false 1 (.t 32)),
 oO 34 (.mov (.t 10)),
 oO 35 (.iaddr 1 (.t 33) (.t 34)),
 oO 36 (.load false 1 (.t 35)),
 oO 37 (.iaddr 1 (.t 25) (.t 36)),
 oO 38 (.load false 1 (.t 37)),
 oO 39 (.mov (.t 1)),
 oO 40 (.faddr 2 (.t 4)),
 oO 41 (.load false 1 (.t 40)),
 oO 42 (.mov (.t 3)),
 oO 43 (.iaddr 1 (.t 41) (.t 42)),
 oO 44 (.load false 1 (.t 43)),
 oO 45 (.mov (.t 9)),
 oO 46 (.iaddr 1 (.t 44) (.t 45)),
 oO 47 (.load false 1 (.t 46)),
 oO 48 (.mov (.t 10)),
 oO 49 (.iaddr 1 (.t 47) (.t 48)),
 oO 50 (.load false 1 (.t 49)),
 oO 51 (.iaddr 1 (.t 39) (.t 50)),
 oO 52 (.load false 1 (.t 51)),
 oO 53 (.bin .neq (.t 38) (.t 52)),
 oO 54 (.mov (.t 53)),
 ⟨some 55,.mov (.t 1),some (54,false)⟩,
 ⟨some 56,.faddr 2 (.t 4),some (54,false)⟩,
 ⟨some 57,.load false 1 (.t 56),some (54,false)⟩,
 ⟨some 58,.mov (.t 9),some (54,false)⟩,
 ⟨some 59,.iaddr 1 (.t 57) (.t 58),some (54,false)⟩,
 ⟨some 60,.load false 1 (.t 59),some (54,false)⟩,
 ⟨some 61,.mov (.t 2),some (54,false)⟩,
 ⟨some 62,.iaddr 1 (.t 60) (.t 61),some (54,false)⟩,
 ⟨some 63,.load false 1 (.t 62),some (54,false)⟩,
 ⟨some 64,.mov (.t 10),some (54,false)⟩,
 ⟨some 65,.iaddr 1 (.t 63) (.t 64),some (54,false)⟩,
 ⟨some 66,.load false 1 (.t 65),some (54,false)⟩,
 ⟨some 67,.iaddr 1 (.t 55) (.t 66),some (54,false)⟩,
 ⟨some 68,.load false 1 (.t 67),some (54,false)⟩,
 ⟨some 69,.mov (.t 1),some (54,false)⟩,
 ⟨some 70,.faddr 2 (.t 4),some (54,false)⟩,
 ⟨some 71,.load false 1 (.t 70),some (54,false)⟩,
 ⟨some 72,.mov (.t 9),some (54,false)⟩,
 ⟨some 73,.iaddr 1 (.t 71) (.t 72),some (54,false)⟩,
 ⟨some 74,.load false 1 (.t 73),some (54,false)⟩,
 ⟨some 75,.mov (.t 3),some (54,false)⟩,
 ⟨some 76,.iaddr 1 (.t 74) (.t 75),some (54,false)⟩,
 ⟨some 77,.load false 1 (.t 76),some (54,false)⟩,
 ⟨some 78,.mov (.t 10),some (54,false)⟩,
 ⟨some 79,.iaddr 1 (.t 77) (.t 78),some (54,false)⟩,
 ⟨some 80,.load false 1 (.t 79),some (54,false)⟩,
 ⟨some 81,.iaddr 1 (.t 69) (.t 80),some (54,false)⟩,
 ⟨some 82,.load false 1 (.t 81),some (54,false)⟩,
 ⟨some 83,.bin .neq (.t 68) (.t 82),some (54,false)⟩,
 oO 84 (.pick (.t 54) (.c (.bool true)) (.t 83))])
 (.cond (.t 84)
 (.seq (.region [oO 8 (.mov (.c (.bool false)))])
 (.ret))
 (.skip))))
 (.region [oO 23 (.mov (.t 10)),
 oO 24 (.bin .add (.t 23) (.c (.int .i64 1))),
 oO 10 (.mov (.t 24))]))
def xSt : ACode := xFx
def xHm : List Nat := [0,5,6,7,11,12,13,14,15,16,17,18,19,20,21,22,23,24,25,26,27,28,29,30,31,32,33,34,35,36,37,38,39,40,41,42,43,44,45,46,47,48,49,50,51,52,53,54,55,56,57,58,59,60,61,62,63,64,65,66,67,68,69,70,71,72,73,74,75,76,77,78,79,80,81,82,83,84]
abbrev xHn (s1 s2 s3 s4 s8 s9 s10 : AV) : List AV := [.any,s1,s2,s3,s4,.any,.any,.any,s8,s9,s10,.any,.any,.any,.any,.any,.any,.any,.any,.any,.any,.any,.any,.any,.any,.any,.any,.any,.any,.any,.any,.any,.any,.any,.any,.any,.any,.any,.any,.any,.any,.any,.any,.any,.any,.any,.any,.any,.any,.any,.any,.any,.any,.any,.any,.any,.any,.any,.any,.any,.any,.any,.any,.any,.any,.any,.any,.any,.any,.any,.any,.any,.any,.any,.any,.any,.any,.any,.any,.any,.any,.any,.any,.any,.any]
theorem xFy (s0 s1 s2 s3 s4 s5 s6 s7 s8 s9 s10 s11 s12 s13 s14 s15 s16 s17 s18 s19 s20 s21 s22 s23 s24 s25 s26 s27 s28 s29 s30 s31 s32 s33 s34 s35 s36 s37 s38 s39 s40 s41 s42 s43 s44 s45 s46 s47 s48 s49 s50 s51 s52 s53 s54 s55 s56 s57 s58 s59 s60 s61 s62 s63 s64 s65 s66 s67 s68 s69 s70 s71 s72 s73 s74 s75 s76 s77 s78 s79 s80 s81 s82 s83 s84 : AV) : xAm xHm [s0,s1,s2,s3,s4,s5,s6,s7,s8,s9,s10,s11,s12,s13,s14,s15,s16,s17,s18,s19,s20,s21,s22,s23,s24,s25,s26,s27,s28,s29,s30,s31,s32,s33,s34,s35,s36,s37,s38,s39,s40,s41,s42,s43,s44,s45,s46,s47,s48,s49,s50,s51,s52,s53,s54,s55,s56,s57,s58,s59,s60,s61,s62,s63,s64,s65,s66,s67,s68,s69,s70,s71,s72,s73,s74,s75,s76,s77,s78,s79,s80,s81,s82,s83,s84] = xHn s1 s2 s3 s4 s8 s9 s10 := by kernel_rfl
theorem xLQ {prog : Nat → Option AFunc} (s1 s2 s3 s4 s8 s9 s10 : AV) (H : xAc) : (lim prog).loop xHm xSt ⟨xHn s1 s2 s3 s4 s8 s9 s10,H⟩ = xAD (lim prog) xHm xSt (run (lim prog) xFx ⟨xHn s1 s2 s3 s4 s8 s9 s10,H⟩) := xAd _ _ _ _ (by kernel_rfl)
def xHo : ACode :=
 .seq (.seq (.region [oO 11 (.mov (.t 9)),
 oO 12 (.faddr 2 (.t 4)),
 oO 13 (.load false 1 (.t 12)),
 oO 14 (.len (.t 13)),
 oO 15 (.bin .lss (.t 11) (.t 14))])
 (.cond (.t 15)
 (.skip)
 (.exit 0)))
 (.seq (.block 1 (.seq (.region [oO 10 (.mov (.c (.int .i64 0)))])
 (.block 2 (.loop xHm xSt))))
 (.region [oO 16 (.mov (.t 9)),
 oO 17 (.bin .add (.t 16) (.c (.int .i64 1))),
 oO 9 (.mov (.t 17))]))
def xSu : ACode := xHo
def xHp : List Nat := [0,5,6,7,10,11,12,13,14,15,16,17,18,19,20,21,22,23,24,25,26,27,28,29,30,31,32,33,34,35,36,37,38,39,40,41,42,43,44,45,46,47,48,49,50,51,52,53,54,55,56,57,58,59,60,61,62,63,64,65,66,67,68,69,70,71,72,73,74,75,76,77,78,79,80,81,82,83,84]
abbrev xHq (s1 s2 s3 s4 s8 s9 : AV) : List AV := [.any,s1,s2,s3,s4,.any,.any,.any,s8,s9,.any,.any,.any,.any,.any,.any,.any,.any,.any,.any,.any,.any,.any,.any,.any,.any,.any,.any,.any,.any,.any,.any,.any,.any,.any,.any,.any,.any,.any,.any,.any,.any,.any,.any,.any,.any,.any,.any,.any,.any,.any,.any,.any,.any,.any,.any,.any,.any,.any,.any,.any,.any,.any,.any,.any,.any,.any,.any,.any,.any,.any,.any,.any,.any,.any,.any,.any,.any,.any,.any,.any,.any,.any,.any,.any]
theorem xHr (s0 s1 s2 s3 s4 s5 s6 s7 s8 s9 s10 s11 s12 s13 s14 s15 s16 s17 s18 s19 s20 s21 s22 s23 s24 s25 s26 s27 s28 s29 s30 s31 s32 s33 s34 s35 s36 s37 s38 s39 s40 s41 s42 s43 s44 s45 s46 s47 s48 s49 s50 s51 s52 s53 s54 s55 s56 s57 s58 s59 s60 s61 s62 s63 s64 s65 s66 s67 s68 s69 s70 s71 s72 s73 s74 s75 s76 s77 s78 s79 s80 s81 s82 s83 s84 : AV) : xAm xHp [s0,s1,s2,s3,s4,s5,s6,s7,s8,s9,s10,s11,s12,s13,s14,s15,s16,s17,s18,s19,s20,s21,s22,s23,s24,s25,s26,s27,s28,s29,s30,s31,s32,s33,s34,s35,s36,s37,s38,s39,s40,s41,s42,s43,s44,s45,s46,s47,s48,s49,s50,s51,s52,s53,s54,s55,s56,s57,s58,s59,s60,s61,s62,s63,s64,s65,s66,s67,s68,s69,s70,s71,s72,s73,s74,s75,s76,s77,s78,s79,s80,s81,s82,s83,s84] = xHq s1 s2 s3 s4 s8 s9 := by kernel_rfl
theorem xQM {prog : Nat → Option AFunc} (s1 s2 s3 s4 s8 s9 : AV) (H : xAc) : (lim prog).loop xHp xSu ⟨xHq s1 s2 s3 s4 s8 s9,H⟩ = xAD (lim prog) xHp xSu (run (lim prog) xHo ⟨xHq s1 s2 s3 s4 s8 s9,H⟩) := xAd _ _ _ _ (by kernel_rfl)
def yHF : AFunc := ⟨85,
 .seq (.region [oO 4 (.box (.t 0)),
 oO 8 (.mov (.c (.bool false)))])
 (.seq (.seq (.region [oO 9 (.mov (.c (.int .i64 0)))])
 (.block 0 (.loop xHp xSu)))
 (.seq (.region [oO 8 (.mov (.c (.bool true)))])
 (.ret))),
 [.tmp 8]⟩
def yDG : ACode :=
 .seq (.region [oO 9 (.bin .lss (.t 8) (.t 7))])
 (.seq (.cond (.t 9)
 (.skip)
 (.exit 0))
 (.seq (.block 1 (.seq (.region [oO 10 (.mov (.t 8)),
 oO 5 (.mov (.t 10))])
 (.seq (.region [oO 11 (.mov (.t 1)),
 oO 12 (.mov (.t 0)),
 oO 13 (.mov (.t 5)),
 oO 14 (.iaddr 1 (.t 12) (.t 13)),
 oO 15 (.load false 1 (.t 14)),
 oO 16 (.icall (.t 11) [(.t 15)])])
 (.cond (.t 16)
 (.seq (.region [oO 17 (.mov (.t 5)),
 oO 4 (.mov (.t 17))])
 (.ret))
 (.skip)))))
 (.region [oO 18 (.bin .add (.t 8) (.c (.int .i64 1))),
 oO 8 (.mov (.t 18))])))
def yFM : ACode := yDG
def yDH : List Nat := [2,3,5,6,9,10,11,12,13,14,15,16,17,18]
def yJh : AFunc := ⟨19,
 .seq (.region [oO 4 (.mov (.c (.int .i64 0)))])
 (.seq (.seq (.region [oO 6 (.mov (.t 0)),
 oO 7 (.len (.t 6)),
 oO 8 (.mov (.c (.int .i64 0)))])
 (.block 0 (.loop yDH yFM)))
 (.seq (.region [oO 4 (.mov (.c (.int .i64 (-1))))])
 (.ret))),
 [.tmp 4]⟩
def xBK : ACode :=
 .seq (.region [oO 22 (.bin .lss (.t 21) (.c (.int .i64 2)))])
 (.seq (.cond (.t 22)
 (.skip)
 (.exit 0))
 (.seq (.block 1 (.seq (.region [oO 23 (.idx false 1 2 (.t 20) (.t 21)),
 oO 7 (.mov (.t 23))])
 (.seq (.block 2 (.seq (.region [oO 25 (.mov (.t 7)),
 oO 26 (.bin .eql (.t 25) (.c (.int .i64 (-1)))),
 oO 24 (.mov (.t 26))])
 (.cond (.t 24)
 (.exit 1)
 (.seq (.region [oO 28 (.mov (.t 7)),
 oO 29 (.mov (.t 5)),
 oO 30 (.bin .neq (.t 28) (.t 29)),
 oO 31 (.mov (.t 30)),
 ⟨some 32,.mov (.t 5),some (31,false)⟩,
 ⟨some 33,.mov (.t 0),some (31,false)⟩,
 ⟨some 34,.len (.t 33),some (31,false)⟩,
 ⟨some 35,.bin .geq (.t 32) (.t 34),some (31,false)⟩,
 oO 36 (.pick (.t 31) (.c (.bool true)) (.t 35)),
 oO 27 (.mov (.t 36))])
 (.cond (.t 27)
 (.seq (.region [oO 4 (.mov (.c (.int .i64 (-1))))])
 (.ret))
 (.skip))))))
 (.seq (.region [oO 37 (.mov (.t 0)),
 oO 38 (.mov (.t 5)),
 oO 39 (.call 114 [(.t 37),(.t 38)]),
 oO 5 (.mov (.t 39))])
 (.seq (.region [oO 40 (.mov (.t 5)),
 oO 41 (.bin .eql (.t 40) (.c (.int .i64 (-1))))])
 (.cond (.t 41)
 (.seq (.region [oO 4 (.mov (.c (.int .i64 (-1))))])
 (.ret))
 (.skip)))))))
 (.region [oO 42 (.bin .add (.t 21) (.c (.int .i64 1))),
 oO 21 (.mov (.t 42))])))
def xSv : ACode := xBK
def xHs : List Nat := [1,2,3,6,7,8,9,10,11,12,13,14,15,16,17,18,19,22,23,24,25,26,27,28,29,30,31,32,33,34,35,36,37,38,39,40,41,42,43]
abbrev xHt (s0 s4 s5 s20 s21 : AV) : List AV := [s0,.any,.any,.any,s4,s5,.any,.any,.any,.any,.any,.any,.any,.any,.any,.any,.any,.any,.any,.any,s20,s21,.any,.any,.any,.any,.any,.any,.any,.any,.any,.any,.any,.any,.any,.any,.any,.any,.any,.any,.any,.any,.any,.any]
theorem xBL (s0 s1 s2 s3 s4 s5 s6 s7 s8 s9 s10 s11 s12 s13 s14 s15 s16 s17 s18 s19 s20 s21 s22 s23 s24 s25 s26 s27 s28 s29 s30 s31 s32 s33 s34 s35 s36 s37 s38 s39 s40 s41 s42 s43 : AV) : xAm xHs [s0,s1,s2,s3,s4,s5,s6,s7,s8,s9,s10,s11,s12,s13,s14,s15,s16,s17,s18,s19,s20,s21,s22,s23,s24,s25,s26,s27,s28,s29,s30,s31,s32,s33,s34,s35,s36,s37,s38,s39,s40,s41,s42,s43] = xHt s0 s4 s5 s20 s21 := by kernel_rfl
theorem xFz {prog : Nat → Option AFunc} (s0 s4 s5 s20 s21 : AV) (H : xAc) : (lim prog).loop xHs xSv ⟨xHt s0 s4 s5 s20 s21,H⟩ = xAD (lim prog) xHs xSv (run (lim prog) xBK ⟨xHt s0 s4 s5 s20 s21,H⟩) := xAd _ _ _ _ (by kernel_rfl)
def yG9 : AFunc := ⟨44,
 .seq (.region [oO 4 (.mov (.c (.int .i64 0)))])
 (.seq (.region [oO 8 (.mov (.t 1)),
 oO 9 (.bin .add (.t 8) (.c (.int .i64 1))),
 oO 5 (.mov (.t 9))])
 (.seq (.seq (.draw 12 [oO 10 (.mov (.t 0)),
 oO 11 (.mov (.t 1)),
 oO 12 (.iaddr 3 (.t 10) (.t 11)),
 oO 13 (.faddr 1 (.t 12)),
 oO 14 (.load false 1 (.t 13)),
 oO 15 (.mov (.t 0)),
 oO 16 (.mov (.t 1)),
 oO 17 (.iaddr 3 (.t 15) (.t 16)),
 oO 18 (.faddr 2 (.t 17)),
 oO 19 (.load false 1 (.t 18)),
 oO 20 (.build [.int .i64 0,.int .i64 0] [(0,1,(.t 14)),(1,1,(.t 19))]),
 oO 21 (.mov (.c (.int .i64 0)))])
 (.block 0 (.loop xHs xSv)))
 (.seq (.region [oO 43 (.mov (.t 5)),
 oO 4 (.mov (.t 43))])
 (.ret)))),
 [.tmp 4]⟩
def xLR : ACode :=
 .seq (.seq (.region [oO 5 (.mov (.t 4)),
 oO 6 (.mov (.t 0)),
 oO 7 (.len (.t 6)),
 oO 8 (.bin .lss (.t 5) (.t 7))])
 (.cond (.t 8)
 (.skip)
 (.exit 0)))
 (.seq (.block 1 (.region [oO 11 (.mov (.t 3)),
 oO 12 (.mov (.t 0)),
 oO 13 (.mov (.t 4)),
 oO 14 (.iaddr 1 (.t 12) (.t 13)),
 oO 15 (.load false 1 (.t 14)),
 oO 16 (.call 47 [(.t 15)]),
 oO 17 (.bslice true [.sl true 0 []] 1 1 [(0,(.t 16))]),
 oO 18 (.append false 1 24 (.t 11) (.t 17)),
 oO 3 (.mov (.t 18))]))
 (.region [oO 9 (.mov (.t 4)),
 oO 10 (.bin .add (.t 9) (.c (.int .i64 1))),
 oO 4 (.mov (.t 10))]))
def xSw : ACode := xLR
def xHu : List Nat := [1,2,5,6,7,8,9,10,11,12,13,14,15,16,17,18,19]
abbrev xHv (s0 s3 s4 : AV) : List AV := [s0,.any,.any,s3,s4,.any,.any,.any,.any,.any,.any,.any,.any,.any,.any,.any,.any,.any,.any,.any]
theorem xLS (s0 s1 s2 s3 s4 s5 s6 s7 s8 s9 s10 s11 s12 s13 s14 s15 s16 s17 s18 s19 : AV) : xAm xHu [s0,s1,s2,s3,s4,s5,s6,s7,s8,s9,s10,s11,s12,s13,s14,s15,s16,s17,s18,s19] = xHv s0 s3 s4 := by kernel_rfl
theorem xWp {prog : Nat → Option AFunc} (s0 s3 s4 : AV) (H : xAc) : (lim prog).loop xHu xSw ⟨xHv s0 s3 s4,H⟩ = xAD (lim prog) xHu xSw (run (lim prog) xLR ⟨xHv s0 s3 s4,H⟩) := xAd _ _ _ _ (by kernel_rfl)
def yHa : AFunc := ⟨20,
 .seq (.region [oO 2 (.mov (.c (.sl true 0 [])))])
 (.seq (.region [oO 3 (.mov (.c (.sl true 0 [])))])
 (.seq (.seq (.region [oO 4 (.mov (.c (.int .i64 0)))])
 (.block 0 (.loop xHu xSw)))
 (.seq (.region [oO 19 (.mov (.t 3)),
 oO 2 (.mov (.t 19))])
 (.ret)))),
 [.tmp 2]⟩
def xOp : AFunc := ⟨47,
 .seq (.region [oO 4 (.mov (.c (.int .i64 0)))])
 (.seq (.seq (.region [oO 6 (.mov (.t 1)),
 oO 7 (.mov (.t 0)),
 oO 8 (.len (.t 7)),
 oO 9 (.bin .geq (.t 6) (.t 8))])
 (.cond (.t 9)
 (.seq (.region [oO 4 (.mov (.c (.int .i64 (-1))))])
 (.ret))
 (.skip)))
 (.seq (.region [oO 10 (.mov (.t 1)),
 oO 11 (.bin .add (.t 10) (.c (.int .i64 1))),
 oO 5 (.mov (.t 11))])
 (.seq (.seq (.region [oO 12 (.mov (.t 0)),
 oO 13 (.mov (.t 1)),
 oO 14 (.iaddr 3 (.t 12) (.t 13)),
 oO 15 (.faddr 1 (.t 14)),
 oO 16 (.load false 1 (.t 15)),
 oO 17 (.bin .neq (.t 16) (.c (.int .i64 (-1))))])
 (.cond (.t 17)
 (.seq (.seq (.region [oO 18 (.mov (.t 0)),
 oO 19 (.mov (.t 1)),
 oO 20 (.iaddr 3 (.t 18) (.t 19)),
 oO 21 (.faddr 1 (.t 20)),
 oO 22 (.load false 1 (.t 21)),
 oO 23 (.mov (.t 5)),
 oO 24 (.bin .neq (.t 22) (.t 23))])
 (.cond (.t 24)
 (.seq (.region [oO 4 (.mov (.c (.int .i64 (-1))))])
 (.ret))
 (.skip)))
 (.seq (.region [oO 25 (.mov (.t 0)),
 oO 26 (.mov (.t 5)),
 oO 27 (.call 120 [(.t 25),(.t 26)]),
 oO 5 (.mov (.t 27))])
 (.seq (.region [oO 28 (.mov (.t 5)),
 oO 29 (.bin .lss (.t 28) (.c (.int .i64 0)))])
 (.cond (.t 29)
 (.seq (.region [oO 4 (.mov (.c (.int .i64 (-1))))])
 (.ret))
 (.skip)))))
 (.skip)))
 (.seq (.seq (.region [oO 30 (.mov (.t 0)),
 oO 31 (.mov (.t 1)),
 oO 32 (.iaddr 3 (.t 30) (.t 31)),
 oO 33 (.faddr 2 (.t 32)),
 oO 34 (.load false 1 (.t 33)),
 oO 35 (.bin .neq (.t 34) (.c (.int .i64 (-1))))])
 (.cond (.t 35)
 (.seq (.seq (.region [oO 36 (.mov (.t 0)),
 oO 37 (.mov (.t 1)),
 oO 38 (.iaddr 3 (.t 36) (.t 37)),
 oO 39 (.faddr 2 (.t 38)),
 oO 40 (.load false 1 (.t 39)),
 oO 41 (.mov (.t 5)),
 oO 42 (.bin .neq (.t 40) (.t 41))])
 (.cond (.t 42)
 (.seq (.region [oO 4 (.mov (.c (.int .i64 (-1))))])
 (.ret))
 (.skip)))
 (.region [oO 43 (.mov (.t 0)),
 oO 44 (.mov (.t 5)),
 oO 45 (.call 120 [(.t 43),(.t 44)]),
 oO 5 (.mov (.t 45))]))
 (.skip)))
 (.seq (.region [oO 46 (.mov (.t 5)),
 oO 4 (.mov (.t 46))])
 (.ret)))))),
 [.tmp 4]⟩
def yHG : AFunc := ⟨4,
 .seq (.region [⟨some 2,.mov (.c (.str ⟨#[]⟩)),none⟩])
 (.seq (.seq (.region [oO 3 (.mov (.t 0))])
 (.cond (.t 3)
 (.seq (.region [⟨some 2,.mov (.c (.str ⟨#[116,114,117,101]⟩)),none⟩])
 (.ret))
 (.skip)))
 (.seq (.region [⟨some 2,.mov (.c (.str ⟨#[102,97,108,115,101]⟩)),none⟩])
 (.ret))),
 [.tmp 2]⟩
def xAi : Nat → Option AFunc
 | 3 => some a3
 | 12 => some a12
 | 13 => some a13
 | 14 => some a14
 | 15 => some a15
 | 16 => some a16
 | 17 => some a17
 | 18 => some a18
 | 19 => some a19
 | 20 => some a20
 | 21 => some a21
 | 22 => some a22
 | 23 => some a23
 | 24 => some a24
 | 25 => some a25
 | 26 => some a26
 | 27 => some a27
 | 28 => some a28
 | 29 => some a29
 | 30 => some a30
 | 31 => some a31
 | 32 => some a32
 | 33 => some a33
 | 34 => some a34
 | 35 => some a35
 | 37 => some a37
 | 39 => some a39
 | 40 => some a40
 | 41 => some a41
 | 45 => some a45
 | 47 => some a47
 | 51 => some a51
 | 52 => some a52
 | 53 => some a53
 | 54 => some a54
 | 55 => some a55
 | 56 => some a56
 | 57 => some a57
 | 58 => some a58
 | 59 => some a59
 | 60 => some a60
 | 61 => some a61
 | 62 => some a62
 | 63 => some a63
 | 64 => some a64
 | 65 => some a65
 | 66 => some a66
 | 67 => some a67
 | 68 => some a68
 | 69 => some a69
 | 70 => some a70
 | 71 => some a71
 | 73 => some a73
 | 74 => some a74
 | 75 => some a75
 | 76 => some a76
 | 77 => some a77
 | 78 => some a78
 | 79 => some a79
 | 80 => some a80
 | 81 => some a81
 | 89 => some a89
 | 90 => some a90
 | 91 => some a91
 | 97 => some a97
 | 98 => some a98
 | 99 => some a99
 | 100 => some yG7
 | 101 => some yDF
 | 102 => some yG8
 | 103 => some yHB
 | 104 => some yHC
 | 105 => some yHD
 | 106 => some yHE
 | 107 => some yHF
 | 109 => some yJh
 | 114 => some yG9
 | 119 => some yHa
 | 120 => some xOp
 | 121 => some yHG
 | _ => none
theorem a3p (args : List AV) : (lim xAi).pcall 3 args = xAy (lim xAi) a3 args := xAh rfl args
theorem yII (args : List AV) : (lim xAi).pcall 12 args = xAy (lim xAi) a12 args := xAh rfl args
theorem yJi (args : List AV) : (lim xAi).pcall 13 args = xAy (lim xAi) a13 args := xAh rfl args
theorem yCt (args : List AV) : (lim xAi).pcall 14 args = xAy (lim xAi) a14 args := xAh rfl args
theorem yCu (args : List AV) : (lim xAi).pcall 15 args = xAy (lim xAi) a15 args := xAh rfl args
theorem yHH (caps args : List AV) (H : xAc) : (lim xAi).icall (.func 16 caps) args H = xA3 (lim xAi) a16 (args ++ caps) H := xAo rfl caps args H
theorem yHI (args : List AV) : (lim xAi).pcall 17 args = xAy (lim xAi) a17 args := xAh rfl args
theorem yHJ (args : List AV) : (lim xAi).pcall 18 args = xAy (lim xAi) a18 args := xAh rfl args
theorem yHb (args : List AV) : (lim xAi).pcall 19 args = xAy (lim xAi) a19 args := xAh rfl args
theorem yHc (args : List AV) : (lim xAi).pcall 20 args = xAy (lim xAi) a20 args := xAh rfl args
theorem yIJ (caps args : List AV) (H : xAc) : (lim xAi).icall (.func 21 caps) args H = xA3 (lim xAi) a21 (args ++ caps) H := xAo rfl caps args H
theorem yIK (args : List AV) : (lim xAi).pcall 22 args = xAy (lim xAi) a22 args := xAh rfl args
theorem yIL (caps args : List AV) (H : xAc) : (lim xAi).icall (.func 23 caps) args H = xA3 (lim xAi) a23 (args ++ caps) H := xAo rfl caps args H
theorem yIM (args : List AV) : (lim xAi).pcall 24 args = xAy (lim xAi) a24 args := xAh rfl args
theorem yIN (caps args : List AV) (H : xAc) : (lim xAi).icall (.func 25 caps) args H = xA3 (lim xAi) a25 (args ++ caps) H := xAo rfl caps args H
theorem yIO (args : List AV) : (lim xAi).pcall 26 args = xAy (lim xAi) a26 args := xAh rfl args
theorem yHK (caps args : List AV) (H : xAc) : (lim xAi).icall (.func 27 caps) args H = xA3 (lim xAi) a27 (args ++ caps) H := xAo rfl caps args H
theorem yHL (args : List AV) : (lim xAi).pcall 28 args = xAy (lim xAi) a28 args := xAh rfl args
theorem yJj (args : List AV) : (lim xAi).pcall 29 args = xAy (lim xAi) a29 args := xAh rfl args
theorem yJk (args : List AV) : (lim xAi).pcall 30 args = xAy (lim xAi) a30 args := xAh rfl args
theorem yJl (args : List AV) : (lim xAi).pcall 31 args = xAy (lim xAi) a31 args := xAh rfl args
theorem yHM (caps args : List AV) (H : xAc) : (lim xAi).icall (.func 32 caps) args H = xA3 (lim xAi) a32 (args ++ caps) H := xAo rfl caps args H
theorem yJm (caps args : List AV) (H : xAc) : (lim xAi).icall (.func 33 caps) args H = xA3 (lim xAi) a33 (args ++ caps) H := xAo rfl caps args H
theorem yJn (caps args : List AV) (H : xAc) : (lim xAi).icall (.func 34 caps) args H = xA3 (lim xAi) a34 (args ++ caps) H := xAo rfl caps args H
theorem yJo (args : List AV) : (lim xAi).pcall 39 args = xAy (lim xAi) a39 args := xAh rfl args
theorem yIP (caps args : List AV) (H : xAc) : (lim xAi).icall (.func 40 caps) args H = xA3 (lim xAi) a40 (args ++ caps) H := xAo rfl caps args H
theorem yJp (args : List AV) : (lim xAi).pcall 47 args = xAy (lim xAi) a47 args := xAh rfl args
theorem yJq (args : List AV) : (lim xAi).pcall 51 args = xAy (lim xAi) a51 args := xAh rfl args
theorem yJr (caps args : List AV) (H : xAc) : (lim xAi).icall (.func 52 caps) args H = xA3 (lim xAi) a52 (args ++ caps) H := xAo rfl caps args H
theorem yHN (args : List AV) : (lim xAi).pcall 53 args = xAy (lim xAi) a53 args := xAh rfl args
theorem yJs (args : List AV) : (lim xAi).pcall 54 args = xAy (lim xAi) a54 args := xAh rfl args
theorem yJt (caps args : List AV) (H : xAc) : (lim xAi).icall (.func 54 caps) args H = xA3 (lim xAi) a54 (args ++ caps) H := xAo rfl caps args H
theorem yHd (args : List AV) : (lim xAi).pcall 55 args = xAy (lim xAi) a55 args := xAh rfl args
theorem yJu (args : List AV) : (lim xAi).pcall 56 args = xAy (lim xAi) a56 args := xAh rfl args
theorem yJv (caps args : List AV) (H : xAc) : (lim xAi).icall (.func 56 caps) args H = xA3 (lim xAi) a56 (args ++ caps) H := xAo rfl caps args H
theorem yJw (args : List AV) : (lim xAi).pcall 57 args = xAy (lim xAi) a57 args := xAh rfl args
theorem yJx (args : List AV) : (lim xAi).pcall 58 args = xAy (lim xAi) a58 args := xAh rfl args
theorem yJy (args : List AV) : (lim xAi).pcall 59 args = xAy (lim xAi) a59 args := xAh rfl args
theorem yJz (args : List AV) : (lim xAi).pcall 60 args = xAy (lim xAi) a60 args := xAh rfl args
theorem yJA (caps args : List AV) (H : xAc) : (lim xAi).icall (.func 60 caps) args H = xA3 (lim xAi) a60 (args ++ caps) H := xAo rfl caps args H
theorem yJB (caps args : List AV) (H : xAc) : (lim xAi).icall (.func 61 caps) args H = xA3 (lim xAi) a61 (args ++ caps) H := xAo rfl caps args H
theorem yJC (caps args : List AV) (H : xAc) : (lim xAi).icall (.func 62 caps) args H = xA3 (lim xAi) a62 (args ++ caps) H := xAo rfl caps args H
theorem yJD (caps args : List AV) (H : xAc) : (lim xAi).icall (.func 63 caps) args H = xA3 (lim xAi) a63 (args ++ caps) H := xAo rfl caps args H
theorem yJE (args : List AV) : (lim xAi).pcall 64 args = xAy (lim xAi) a64 args := xAh rfl args
theorem yJF (args : List AV) : (lim xAi).pcall 65 args = xAy (lim xAi) a65 args := xAh rfl args
theorem yJG (args : List AV) : (lim xAi).pcall 66 args = xAy (lim xAi) a66 args := xAh rfl args
theorem yJH (args : List AV) : (lim xAi).pcall 67 args = xAy (lim xAi) a67 args := xAh rfl args
theorem yJI (args : List AV) : (lim xAi).pcall 68 args = xAy (lim xAi) a68 args := xAh rfl args
theorem yIQ (caps args : List AV) (H : xAc) : (lim xAi).icall (.func 69 caps) args H = xA3 (lim xAi) a69 (args ++ caps) H := xAo rfl caps args H
theorem yIR (caps args : List AV) (H : xAc) : (lim xAi).icall (.func 70 caps) args H = xA3 (lim xAi) a70 (args ++ caps) H := xAo rfl caps args H
theorem yIS (caps args : List AV) (H : xAc) : (lim xAi).icall (.func 71 caps) args H = xA3 (lim xAi) a71 (args ++ caps) H := xAo rfl caps args H
theorem yJJ (caps args : List AV) (H : xAc) : (lim xAi).icall (.func 75 caps) args H = xA3 (lim xAi) a75 (args ++ caps) H := xAo rfl caps args H
theorem yDI (args : List AV) : (lim xAi).pcall 91 args = xAy (lim xAi) a91 args := xAh rfl args
theorem yJK (args : List AV) : (lim xAi).pcall 97 args = xAy (lim xAi) a97 args := xAh rfl args
theorem yJL (args : List AV) : (lim xAi).pcall 98 args = xAy (lim xAi) a98 args := xAh rfl args
theorem yHe (args : List AV) : (lim xAi).pcall 99 args = xAy (lim xAi) a99 args := xAh rfl args
theorem yFN (args : List AV) : (lim xAi).pcall 100 args = xAy (lim xAi) yG7 args := xAh rfl args
theorem xWq (args : List AV) : (lim xAi).pcall 101 args = xAy (lim xAi) yDF args := xAh rfl args
theorem yFO (caps args : List AV) (H : xAc) : (lim xAi).icall (.func 102 caps) args H = xA3 (lim xAi) yG8 (args ++ caps) H := xAo rfl caps args H
theorem yHO (caps args : List AV) (H : xAc) : (lim xAi).icall (.func 103 caps) args H = xA3 (lim xAi) yHB (args ++ caps) H := xAo rfl caps args H
theorem yHP (caps args : List AV) (H : xAc) : (lim xAi).icall (.func 104 caps) args H = xA3 (lim xAi) yHC (args ++ caps) H := xAo rfl caps args H
theorem yHQ (args : List AV) : (lim xAi).pcall 105 args = xAy (lim xAi) yHD args := xAh rfl args
theorem yHR (caps args : List AV) (H : xAc) : (lim xAi).icall (.func 106 caps) args H = xA3 (lim xAi) yHE (args ++ caps) H := xAo rfl caps args H
theorem yHS (args : List AV) : (lim xAi).pcall 107 args = xAy (lim xAi) yHF args := xAh rfl args
theorem yFP (args : List AV) : (lim xAi).pcall 114 args = xAy (lim xAi) yG9 args := xAh rfl args
theorem yHT (args : List AV) : (lim xAi).pcall 119 args = xAy (lim xAi) yHa args := xAh rfl args
theorem xEr (args : List AV) : (lim xAi).pcall 120 args = xAy (lim xAi) xOp args := xAh rfl args
theorem yHU (args : List AV) : (lim xAi).pcall 121 args = xAy (lim xAi) yHG args := xAh rfl args
end Go.Abs.Det
