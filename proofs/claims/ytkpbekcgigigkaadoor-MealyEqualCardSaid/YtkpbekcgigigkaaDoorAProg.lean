/- The functions in the interpreter's words. -/
import Derived.Test.YtkpbekcgigigkaaDoorAbsEnc
import Derived.Test.YtkpbekcgigigkaaDoorProg
namespace Go.Abs.Mealy
open Go Go.Abs
def a7 : AFunc := ⟨218,
 .seq (.region [⟨some 3,.box (.t 0),none⟩,
 ⟨some 4,.box (.t 1),none⟩,
 ⟨some 6,.mov (.c (.bool false)),none⟩])
 (.seq (.seq (.region [⟨some 26,.load true 5 (.t 3),none⟩,
 ⟨some 27,.load true 5 (.t 4),none⟩,
 ⟨some 28,.bslice true [.int .i64 0,.int .i64 0,.int .i64 0,.sl true 0 [],.sl true 0 []] 5 2 [(0,(.t 26)),(1,(.t 27))],none⟩,
 ⟨some 29,.call 11 [(.t 28)],none⟩,
 ⟨some 30,.mov (.t 29),none⟩,
 ⟨some 31,.mov (.t 2),some (30,false)⟩,
 ⟨some 32,.len (.t 31),some (30,false)⟩,
 ⟨some 33,.bin .gtr (.t 32) (.c (.int .i64 64)),some (30,false)⟩,
 ⟨some 34,.pick (.t 30) (.c (.bool true)) (.t 33),none⟩,
 ⟨some 35,.mov (.t 34),none⟩,
 ⟨some 36,.call 13 [],some (35,false)⟩,
 ⟨some 37,.un .not (.t 36),some (35,false)⟩,
 ⟨some 38,.pick (.t 35) (.c (.bool true)) (.t 37),none⟩])
 (.cond (.t 38)
 (.seq (.region [⟨some 39,.call 13 [],none⟩,
 ⟨some 6,.mov (.t 39),none⟩])
 (.ret))
 (.skip)))
 (.seq (.region [⟨some 41,.load true 5 (.t 3),none⟩,
 ⟨some 42,.load true 5 (.t 4),none⟩,
 ⟨some 43,.call 37 [(.t 41),(.t 42)],none⟩,
 ⟨some 40,.mov (.t 43),none⟩,
 ⟨some 44,.ext 0 (.t 40),none⟩,
 ⟨some 45,.ext 1 (.t 40),none⟩,
 ⟨some 46,.ext 2 (.t 40),none⟩,
 ⟨some 7,.mov (.t 44),none⟩,
 ⟨some 8,.mov (.t 45),none⟩,
 ⟨some 9,.mov (.t 46),none⟩])
 (.seq (.region [⟨some 48,.load true 5 (.t 4),none⟩,
 ⟨some 49,.load true 5 (.t 3),none⟩,
 ⟨some 50,.call 37 [(.t 48),(.t 49)],none⟩,
 ⟨some 47,.mov (.t 50),none⟩,
 ⟨some 51,.ext 0 (.t 47),none⟩,
 ⟨some 52,.ext 1 (.t 47),none⟩,
 ⟨some 53,.ext 2 (.t 47),none⟩,
 ⟨some 10,.mov (.t 51),none⟩,
 ⟨some 11,.mov (.t 52),none⟩,
 ⟨some 12,.mov (.t 53),none⟩])
 (.seq (.seq (.region [⟨some 54,.mov (.t 9),none⟩,
 ⟨some 55,.bin .neq (.t 54) (.c (.int .i64 0)),none⟩])
 (.cond (.t 55)
 (.seq (.region [⟨some 56,.mov (.t 8),none⟩,
 ⟨some 57,.un .not (.t 56),none⟩,
 ⟨some 58,.mov (.t 57),none⟩,
 ⟨some 59,.mov (.t 7),some (58,true)⟩,
 ⟨some 60,.len (.t 59),some (58,true)⟩,
 ⟨some 61,.bin .eql (.t 60) (.c (.int .i64 0)),some (58,true)⟩,
 ⟨some 62,.pick (.t 58) (.t 61) (.c (.bool false)),none⟩,
 ⟨some 63,.mov (.t 62),none⟩,
 ⟨some 64,.mov (.t 12),some (63,true)⟩,
 ⟨some 65,.bin .neq (.t 64) (.c (.int .i64 0)),some (63,true)⟩,
 ⟨some 66,.pick (.t 63) (.t 65) (.c (.bool false)),none⟩,
 ⟨some 6,.mov (.t 66),none⟩])
 (.ret))
 (.skip)))
 (.seq (.seq (.region [⟨some 67,.mov (.t 12),none⟩,
 ⟨some 68,.bin .neq (.t 67) (.c (.int .i64 0)),none⟩,
 ⟨some 69,.mov (.t 68),none⟩,
 ⟨some 70,.mov (.t 11),some (69,false)⟩,
 ⟨some 71,.mov (.t 8),some (69,false)⟩,
 ⟨some 72,.beq true (.t 70) (.t 71),some (69,false)⟩,
 ⟨some 73,.pick (.t 69) (.c (.bool true)) (.t 72),none⟩,
 ⟨some 74,.mov (.t 73),none⟩,
 ⟨some 75,.mov (.t 10),some (74,false)⟩,
 ⟨some 76,.mov (.t 7),some (74,false)⟩,
 ⟨some 77,.call 23 [(.t 75),(.t 76)],some (74,false)⟩,
 ⟨some 78,.un .not (.t 77),some (74,false)⟩,
 ⟨some 79,.pick (.t 74) (.c (.bool true)) (.t 78),none⟩])
 (.cond (.t 79)
 (.seq (.region [⟨some 6,.mov (.c (.bool false)),none⟩])
 (.ret))
 (.skip)))
 (.seq (.region [⟨some 81,.load true 5 (.t 3),none⟩,
 ⟨some 82,.mov (.t 2),none⟩,
 ⟨some 83,.call 16 [(.t 81),(.t 82)],none⟩,
 ⟨some 80,.mov (.t 83),none⟩,
 ⟨some 84,.ext 0 (.t 80),none⟩,
 ⟨some 85,.ext 1 (.t 80),none⟩,
 ⟨some 86,.ext 2 (.t 80),none⟩,
 ⟨some 13,.mov (.t 84),none⟩,
 ⟨some 14,.mov (.t 85),none⟩,
 ⟨some 15,.mov (.t 86),none⟩])
 (.seq (.region [⟨some 88,.load true 5 (.t 4),none⟩,
 ⟨some 89,.mov (.t 2),none⟩,
 ⟨some 90,.call 16 [(.t 88),(.t 89)],none⟩,
 ⟨some 87,.mov (.t 90),none⟩,
 ⟨some 91,.ext 0 (.t 87),none⟩,
 ⟨some 92,.ext 1 (.t 87),none⟩,
 ⟨some 93,.ext 2 (.t 87),none⟩,
 ⟨some 16,.mov (.t 91),none⟩,
 ⟨some 17,.mov (.t 92),none⟩,
 ⟨some 18,.mov (.t 93),none⟩])
 (.seq (.seq (.region [⟨some 94,.mov (.t 8),none⟩])
 (.cond (.t 94)
 (.seq (.region [⟨some 95,.mov (.t 7),none⟩,
 ⟨some 96,.len (.t 95),none⟩,
 ⟨some 97,.bin .eql (.t 96) (.c (.int .i64 0)),none⟩,
 ⟨some 98,.mov (.t 97),none⟩,
 ⟨some 99,.mov (.t 15),some (98,true)⟩,
 ⟨some 100,.mov (.t 18),some (98,true)⟩,
 ⟨some 101,.bin .eql (.t 99) (.t 100),some (98,true)⟩,
 ⟨some 102,.pick (.t 98) (.t 101) (.c (.bool false)),none⟩,
 ⟨some 103,.mov (.t 102),none⟩,
 ⟨some 104,.mov (.t 13),some (103,true)⟩,
 ⟨some 105,.mov (.t 16),some (103,true)⟩,
 ⟨some 106,.call 23 [(.t 104),(.t 105)],some (103,true)⟩,
 ⟨some 107,.pick (.t 103) (.t 106) (.c (.bool false)),none⟩,
 ⟨some 6,.mov (.t 107),none⟩])
 (.ret))
 (.skip)))
 (.seq (.region [⟨some 109,.load true 5 (.t 3),none⟩,
 ⟨some 110,.mov (.t 7),none⟩,
 ⟨some 111,.call 16 [(.t 109),(.t 110)],none⟩,
 ⟨some 108,.mov (.t 111),none⟩,
 ⟨some 112,.ext 0 (.t 108),none⟩,
 ⟨some 113,.ext 1 (.t 108),none⟩,
 ⟨some 114,.ext 2 (.t 108),none⟩,
 ⟨some 19,.mov (.t 112),none⟩,
 ⟨some 20,.mov (.t 113),none⟩,
 ⟨some 21,.mov (.t 114),none⟩])
 (.seq (.region [⟨some 116,.load true 5 (.t 4),none⟩,
 ⟨some 117,.mov (.t 7),none⟩,
 ⟨some 118,.call 16 [(.t 116),(.t 117)],none⟩,
 ⟨some 115,.mov (.t 118),none⟩,
 ⟨some 119,.ext 0 (.t 115),none⟩,
 ⟨some 120,.ext 1 (.t 115),none⟩,
 ⟨some 121,.ext 2 (.t 115),none⟩,
 ⟨some 22,.mov (.t 119),none⟩,
 ⟨some 23,.mov (.t 120),none⟩,
 ⟨some 24,.mov (.t 121),none⟩])
 (.seq (.region [⟨some 122,.mov (.t 7),none⟩,
 ⟨some 123,.len (.t 122),none⟩,
 ⟨some 25,.mov (.t 123),none⟩])
 (.seq (.seq (.region [⟨some 124,.mov (.t 7),none⟩,
 ⟨some 125,.len (.t 124),none⟩,
 ⟨some 126,.bin .leq (.t 125) (.c (.int .i64 64)),none⟩])
 (.cond (.t 126)
 (.seq (.draw 41 [⟨some 127,.mov (.t 21),none⟩,
 ⟨some 128,.bin .neq (.t 127) (.c (.int .i64 0)),none⟩,
 ⟨some 129,.mov (.t 128),none⟩,
 ⟨some 130,.mov (.t 24),some (129,false)⟩,
 ⟨some 131,.bin .neq (.t 130) (.c (.int .i64 0)),some (129,false)⟩,
 ⟨some 132,.pick (.t 129) (.c (.bool true)) (.t 131),none⟩,
 ⟨some 133,.mov (.t 132),none⟩,
 ⟨some 134,.mov (.t 25),some (133,false)⟩,
 ⟨some 135,.bin .eql (.t 134) (.c (.int .i64 0)),some (133,false)⟩,
 ⟨some 136,.pick (.t 133) (.c (.bool true)) (.t 135),none⟩,
 ⟨some 137,.mov (.t 136),none⟩,
 ⟨some 138,.mov (.t 19),some (137,false)⟩,
 ⟨some 139,.len (.t 138),some (137,false)⟩,
 ⟨some 140,.mov (.t 25),some (137,false)⟩,
 ⟨some 141,.bin .neq (.t 139) (.t 140),some (137,false)⟩,
 ⟨some 142,.pick (.t 137) (.c (.bool true)) (.t 141),none⟩,
 ⟨some 143,.mov (.t 142),none⟩,
 ⟨some 144,.mov (.t 22),some (143,false)⟩,
 ⟨some 145,.len (.t 144),some (143,false)⟩,
 ⟨some 146,.mov (.t 25),some (143,false)⟩,
 ⟨some 147,.bin .neq (.t 145) (.t 146),some (143,false)⟩,
 ⟨some 148,.pick (.t 143) (.c (.bool true)) (.t 147),none⟩,
 ⟨some 149,.mov (.t 148),none⟩,
 ⟨some 150,.mov (.t 19),some (149,false)⟩,
 ⟨some 151,.mov (.t 25),some (149,false)⟩,
 ⟨some 152,.bin .sub (.t 151) (.c (.int .i64 1)),some (149,false)⟩,
 ⟨some 153,.iaddr 1 (.t 150) (.t 152),some (149,false)⟩,
 ⟨some 154,.load false 1 (.t 153),some (149,false)⟩,
 ⟨some 155,.mov (.t 22),some (149,false)⟩,
 ⟨some 156,.mov (.t 25),some (149,false)⟩,
 ⟨some 157,.bin .sub (.t 156) (.c (.int .i64 1)),some (149,false)⟩,
 ⟨some 158,.iaddr 1 (.t 155) (.t 157),some (149,false)⟩,
 ⟨some 159,.load false 1 (.t 158),some (149,false)⟩,
 ⟨some 160,.bin .eql (.t 154) (.t 159),some (149,false)⟩,
 ⟨some 161,.pick (.t 149) (.c (.bool true)) (.t 160),none⟩,
 ⟨some 162,.mov (.t 161),none⟩,
 ⟨some 163,.mov (.t 19),some (162,false)⟩,
 ⟨some 164,.mov (.t 25),some (162,false)⟩,
 ⟨some 165,.bin .sub (.t 164) (.c (.int .i64 1)),some (162,false)⟩,
 ⟨some 166,.slice 1 (.t 163) none (some (.t 165)) none,some (162,false)⟩,
 ⟨some 167,.mov (.t 22),some (162,false)⟩,
 ⟨some 168,.mov (.t 25),some (162,false)⟩,
 ⟨some 169,.bin .sub (.t 168) (.c (.int .i64 1)),some (162,false)⟩,
 ⟨some 170,.slice 1 (.t 167) none (some (.t 169)) none,some (162,false)⟩,
 ⟨some 171,.call 23 [(.t 166),(.t 170)],some (162,false)⟩,
 ⟨some 172,.un .not (.t 171),some (162,false)⟩,
 ⟨some 173,.pick (.t 162) (.c (.bool true)) (.t 172),none⟩])
 (.cond (.t 173)
 (.seq (.region [⟨some 6,.mov (.c (.bool false)),none⟩])
 (.ret))
 (.skip)))
 (.skip)))
 (.seq (.seq (.draw 38 [⟨some 174,.mov (.t 15),none⟩,
 ⟨some 175,.bin .neq (.t 174) (.c (.int .i64 0)),none⟩,
 ⟨some 176,.mov (.t 175),none⟩,
 ⟨some 177,.mov (.t 18),some (176,false)⟩,
 ⟨some 178,.bin .neq (.t 177) (.c (.int .i64 0)),some (176,false)⟩,
 ⟨some 179,.pick (.t 176) (.c (.bool true)) (.t 178),none⟩,
 ⟨some 180,.mov (.t 179),none⟩,
 ⟨some 181,.mov (.t 2),some (180,false)⟩,
 ⟨some 182,.len (.t 181),some (180,false)⟩,
 ⟨some 183,.bin .eql (.t 182) (.c (.int .i64 0)),some (180,false)⟩,
 ⟨some 184,.pick (.t 180) (.c (.bool true)) (.t 183),none⟩,
 ⟨some 185,.mov (.t 184),none⟩,
 ⟨some 186,.mov (.t 13),some (185,false)⟩,
 ⟨some 187,.len (.t 186),some (185,false)⟩,
 ⟨some 188,.mov (.t 2),some (185,false)⟩,
 ⟨some 189,.len (.t 188),some (185,false)⟩,
 ⟨some 190,.bin .neq (.t 187) (.t 189),some (185,false)⟩,
 ⟨some 191,.pick (.t 185) (.c (.bool true)) (.t 190),none⟩,
 ⟨some 192,.mov (.t 191),none⟩,
 ⟨some 193,.mov (.t 16),some (192,false)⟩,
 ⟨some 194,.len (.t 193),some (192,false)⟩,
 ⟨some 195,.mov (.t 2),some (192,false)⟩,
 ⟨some 196,.len (.t 195),some (192,false)⟩,
 ⟨some 197,.bin .neq (.t 194) (.t 196),some (192,false)⟩,
 ⟨some 198,.pick (.t 192) (.c (.bool true)) (.t 197),none⟩,
 ⟨some 199,.mov (.t 198),none⟩,
 ⟨some 200,.mov (.t 13),some (199,false)⟩,
 ⟨some 201,.mov (.t 13),some (199,false)⟩,
 ⟨some 202,.len (.t 201),some (199,false)⟩,
 ⟨some 203,.bin .sub (.t 202) (.c (.int .i64 1)),some (199,false)⟩,
 ⟨some 204,.iaddr 1 (.t 200) (.t 203),some (199,false)⟩,
 ⟨some 205,.load false 1 (.t 204),some (199,false)⟩,
 ⟨some 206,.mov (.t 16),some (199,false)⟩,
 ⟨some 207,.mov (.t 16),some (199,false)⟩,
 ⟨some 208,.len (.t 207),some (199,false)⟩,
 ⟨some 209,.bin .sub (.t 208) (.c (.int .i64 1)),some (199,false)⟩,
 ⟨some 210,.iaddr 1 (.t 206) (.t 209),some (199,false)⟩,
 ⟨some 211,.load false 1 (.t 210),some (199,false)⟩,
 ⟨some 212,.bin .eql (.t 205) (.t 211),some (199,false)⟩,
 ⟨some 213,.pick (.t 199) (.c (.bool true)) (.t 212),none⟩])
 (.cond (.t 213)
 (.seq (.region [⟨some 6,.mov (.c (.bool true)),none⟩])
 (.ret))
 (.skip)))
 (.seq (.region [⟨some 214,.mov (.t 7),none⟩,
 ⟨some 215,.mov (.t 2),none⟩,
 ⟨some 216,.call 41 [(.t 214),(.t 215)],none⟩,
 ⟨some 217,.bin .leq (.t 216) (.c (.int .i64 0)),none⟩,
 ⟨some 6,.mov (.t 217),none⟩])
 (.ret))))))))))))))),
 [.tmp 6]⟩
def xIK : ACode :=
 .seq (.seq (.region [⟨some 28,.mov (.t 4),none⟩,
 ⟨some 29,.mov (.t 0),none⟩,
 ⟨some 30,.mov (.t 3),none⟩,
 ⟨some 31,.iaddr 5 (.t 29) (.t 30),none⟩,
 ⟨some 32,.faddr 3 (.t 31),none⟩,
 ⟨some 33,.load false 1 (.t 32),none⟩,
 ⟨some 34,.len (.t 33),none⟩,
 ⟨some 35,.bin .lss (.t 28) (.t 34),none⟩])
 (.cond (.t 35)
 (.skip)
 (.exit 2)))
 (.seq (.block 3 (.seq (.region [⟨some 38,.mov (.t 0),none⟩,
 ⟨some 39,.mov (.t 3),none⟩,
 ⟨some 40,.iaddr 5 (.t 38) (.t 39),none⟩,
 ⟨some 41,.faddr 3 (.t 40),none⟩,
 ⟨some 42,.load false 1 (.t 41),none⟩,
 ⟨some 43,.mov (.t 4),none⟩,
 ⟨some 44,.iaddr 1 (.t 42) (.t 43),none⟩,
 ⟨some 45,.load false 1 (.t 44),none⟩,
 ⟨some 46,.len (.t 45),none⟩,
 ⟨some 47,.bin .gtr (.t 46) (.c (.int .i64 66)),none⟩])
 (.cond (.t 47)
 (.seq (.region [⟨some 2,.mov (.c (.bool true)),none⟩])
 (.ret))
 (.skip))))
 (.region [⟨some 36,.mov (.t 4),none⟩,
 ⟨some 37,.bin .add (.t 36) (.c (.int .i64 1)),none⟩,
 ⟨some 4,.mov (.t 37),none⟩]))
def xUn : ACode := xIK
def xLP : List Nat := [1,5,6,7,8,9,10,11,12,13,14,15,16,17,18,19,20,21,22,23,24,25,26,27,28,29,30,31,32,33,34,35,36,37,38,39,40,41,42,43,44,45,46,47,48,49,50,51,52,53,54,55,56,57,58,59,60,61,62,63,64,65,66,67]
abbrev xIL (s0 s2 s3 s4 : AV) : List AV := [s0,.any,s2,s3,s4,.any,.any,.any,.any,.any,.any,.any,.any,.any,.any,.any,.any,.any,.any,.any,.any,.any,.any,.any,.any,.any,.any,.any,.any,.any,.any,.any,.any,.any,.any,.any,.any,.any,.any,.any,.any,.any,.any,.any,.any,.any,.any,.any,.any,.any,.any,.any,.any,.any,.any,.any,.any,.any,.any,.any,.any,.any,.any,.any,.any,.any,.any,.any]
theorem xFL (s0 s1 s2 s3 s4 s5 s6 s7 s8 s9 s10 s11 s12 s13 s14 s15 s16 s17 s18 s19 s20 s21 s22 s23 s24 s25 s26 s27 s28 s29 s30 s31 s32 s33 s34 s35 s36 s37 s38 s39 s40 s41 s42 s43 s44 s45 s46 s47 s48 s49 s50 s51 s52 s53 s54 s55 s56 s57 s58 s59 s60 s61 s62 s63 s64 s65 s66 s67 : AV) : xAM xLP [s0,s1,s2,s3,s4,s5,s6,s7,s8,s9,s10,s11,s12,s13,s14,s15,s16,s17,s18,s19,s20,s21,s22,s23,s24,s25,s26,s27,s28,s29,s30,s31,s32,s33,s34,s35,s36,s37,s38,s39,s40,s41,s42,s43,s44,s45,s46,s47,s48,s49,s50,s51,s52,s53,s54,s55,s56,s57,s58,s59,s60,s61,s62,s63,s64,s65,s66,s67] = xIL s0 s2 s3 s4 := by kernel_rfl
theorem xRz {prog : Nat → Option AFunc} (s0 s2 s3 s4 : AV) (H : Heap) : (lim prog).loop xLP xUn ⟨xIL s0 s2 s3 s4,H⟩ = xCh (lim prog) xLP xUn (run (lim prog) xIK ⟨xIL s0 s2 s3 s4,H⟩) := xAy _ _ _ _ (by kernel_rfl)
def xIM : ACode :=
 .seq (.seq (.region [⟨some 48,.mov (.t 5),none⟩,
 ⟨some 49,.mov (.t 0),none⟩,
 ⟨some 50,.mov (.t 3),none⟩,
 ⟨some 51,.iaddr 5 (.t 49) (.t 50),none⟩,
 ⟨some 52,.faddr 4 (.t 51),none⟩,
 ⟨some 53,.load false 1 (.t 52),none⟩,
 ⟨some 54,.len (.t 53),none⟩,
 ⟨some 55,.bin .lss (.t 48) (.t 54),none⟩])
 (.cond (.t 55)
 (.skip)
 (.exit 4)))
 (.seq (.block 5 (.seq (.region [⟨some 58,.mov (.t 0),none⟩,
 ⟨some 59,.mov (.t 3),none⟩,
 ⟨some 60,.iaddr 5 (.t 58) (.t 59),none⟩,
 ⟨some 61,.faddr 4 (.t 60),none⟩,
 ⟨some 62,.load false 1 (.t 61),none⟩,
 ⟨some 63,.mov (.t 5),none⟩,
 ⟨some 64,.iaddr 1 (.t 62) (.t 63),none⟩,
 ⟨some 65,.load false 1 (.t 64),none⟩,
 ⟨some 66,.len (.t 65),none⟩,
 ⟨some 67,.bin .gtr (.t 66) (.c (.int .i64 66)),none⟩])
 (.cond (.t 67)
 (.seq (.region [⟨some 2,.mov (.c (.bool true)),none⟩])
 (.ret))
 (.skip))))
 (.region [⟨some 56,.mov (.t 5),none⟩,
 ⟨some 57,.bin .add (.t 56) (.c (.int .i64 1)),none⟩,
 ⟨some 5,.mov (.t 57),none⟩]))
def xUo : ACode := xIM
def xLQ : List Nat := [1,4,6,7,8,9,10,11,12,13,14,15,16,17,18,19,20,21,22,23,24,25,26,27,28,29,30,31,32,33,34,35,36,37,38,39,40,41,42,43,44,45,46,47,48,49,50,51,52,53,54,55,56,57,58,59,60,61,62,63,64,65,66,67]
abbrev xIN (s0 s2 s3 s5 : AV) : List AV := [s0,.any,s2,s3,.any,s5,.any,.any,.any,.any,.any,.any,.any,.any,.any,.any,.any,.any,.any,.any,.any,.any,.any,.any,.any,.any,.any,.any,.any,.any,.any,.any,.any,.any,.any,.any,.any,.any,.any,.any,.any,.any,.any,.any,.any,.any,.any,.any,.any,.any,.any,.any,.any,.any,.any,.any,.any,.any,.any,.any,.any,.any,.any,.any,.any,.any,.any,.any]
theorem xG0 (s0 s1 s2 s3 s4 s5 s6 s7 s8 s9 s10 s11 s12 s13 s14 s15 s16 s17 s18 s19 s20 s21 s22 s23 s24 s25 s26 s27 s28 s29 s30 s31 s32 s33 s34 s35 s36 s37 s38 s39 s40 s41 s42 s43 s44 s45 s46 s47 s48 s49 s50 s51 s52 s53 s54 s55 s56 s57 s58 s59 s60 s61 s62 s63 s64 s65 s66 s67 : AV) : xAM xLQ [s0,s1,s2,s3,s4,s5,s6,s7,s8,s9,s10,s11,s12,s13,s14,s15,s16,s17,s18,s19,s20,s21,s22,s23,s24,s25,s26,s27,s28,s29,s30,s31,s32,s33,s34,s35,s36,s37,s38,s39,s40,s41,s42,s43,s44,s45,s46,s47,s48,s49,s50,s51,s52,s53,s54,s55,s56,s57,s58,s59,s60,s61,s62,s63,s64,s65,s66,s67] = xIN s0 s2 s3 s5 := by kernel_rfl
theorem xRA {prog : Nat → Option AFunc} (s0 s2 s3 s5 : AV) (H : Heap) : (lim prog).loop xLQ xUo ⟨xIN s0 s2 s3 s5,H⟩ = xCh (lim prog) xLQ xUo (run (lim prog) xIM ⟨xIN s0 s2 s3 s5,H⟩) := xAy _ _ _ _ (by kernel_rfl)
def xEI : ACode :=
 .seq (.seq (.region [⟨some 6,.mov (.t 3),none⟩,
 ⟨some 7,.mov (.t 0),none⟩,
 ⟨some 8,.len (.t 7),none⟩,
 ⟨some 9,.bin .lss (.t 6) (.t 8),none⟩])
 (.cond (.t 9)
 (.skip)
 (.exit 0)))
 (.seq (.block 1 (.seq (.seq (.region [⟨some 12,.mov (.t 0),none⟩,
 ⟨some 13,.mov (.t 3),none⟩,
 ⟨some 14,.iaddr 5 (.t 12) (.t 13),none⟩,
 ⟨some 15,.faddr 3 (.t 14),none⟩,
 ⟨some 16,.load false 1 (.t 15),none⟩,
 ⟨some 17,.len (.t 16),none⟩,
 ⟨some 18,.bin .gtr (.t 17) (.c (.int .i64 14)),none⟩,
 ⟨some 19,.mov (.t 18),none⟩,
 ⟨some 20,.mov (.t 0),some (19,false)⟩,
 ⟨some 21,.mov (.t 3),some (19,false)⟩,
 ⟨some 22,.iaddr 5 (.t 20) (.t 21),some (19,false)⟩,
 ⟨some 23,.faddr 4 (.t 22),some (19,false)⟩,
 ⟨some 24,.load false 1 (.t 23),some (19,false)⟩,
 ⟨some 25,.len (.t 24),some (19,false)⟩,
 ⟨some 26,.bin .gtr (.t 25) (.c (.int .i64 16)),some (19,false)⟩,
 ⟨some 27,.pick (.t 19) (.c (.bool true)) (.t 26),none⟩])
 (.cond (.t 27)
 (.seq (.region [⟨some 2,.mov (.c (.bool true)),none⟩])
 (.ret))
 (.skip)))
 (.seq (.seq (.region [⟨some 4,.mov (.c (.int .i64 0)),none⟩])
 (.block 2 (.loop xLP xUn)))
 (.seq (.region [⟨some 5,.mov (.c (.int .i64 0)),none⟩])
 (.block 4 (.loop xLQ xUo))))))
 (.region [⟨some 10,.mov (.t 3),none⟩,
 ⟨some 11,.bin .add (.t 10) (.c (.int .i64 1)),none⟩,
 ⟨some 3,.mov (.t 11),none⟩]))
def xUp : ACode := xEI
def xLR : List Nat := [1,4,5,6,7,8,9,10,11,12,13,14,15,16,17,18,19,20,21,22,23,24,25,26,27,28,29,30,31,32,33,34,35,36,37,38,39,40,41,42,43,44,45,46,47,48,49,50,51,52,53,54,55,56,57,58,59,60,61,62,63,64,65,66,67]
abbrev xIO (s0 s2 s3 : AV) : List AV := [s0,.any,s2,s3,.any,.any,.any,.any,.any,.any,.any,.any,.any,.any,.any,.any,.any,.any,.any,.any,.any,.any,.any,.any,.any,.any,.any,.any,.any,.any,.any,.any,.any,.any,.any,.any,.any,.any,.any,.any,.any,.any,.any,.any,.any,.any,.any,.any,.any,.any,.any,.any,.any,.any,.any,.any,.any,.any,.any,.any,.any,.any,.any,.any,.any,.any,.any,.any]
theorem xEJ (s0 s1 s2 s3 s4 s5 s6 s7 s8 s9 s10 s11 s12 s13 s14 s15 s16 s17 s18 s19 s20 s21 s22 s23 s24 s25 s26 s27 s28 s29 s30 s31 s32 s33 s34 s35 s36 s37 s38 s39 s40 s41 s42 s43 s44 s45 s46 s47 s48 s49 s50 s51 s52 s53 s54 s55 s56 s57 s58 s59 s60 s61 s62 s63 s64 s65 s66 s67 : AV) : xAM xLR [s0,s1,s2,s3,s4,s5,s6,s7,s8,s9,s10,s11,s12,s13,s14,s15,s16,s17,s18,s19,s20,s21,s22,s23,s24,s25,s26,s27,s28,s29,s30,s31,s32,s33,s34,s35,s36,s37,s38,s39,s40,s41,s42,s43,s44,s45,s46,s47,s48,s49,s50,s51,s52,s53,s54,s55,s56,s57,s58,s59,s60,s61,s62,s63,s64,s65,s66,s67] = xIO s0 s2 s3 := by kernel_rfl
theorem xIP {prog : Nat → Option AFunc} (s0 s2 s3 : AV) (H : Heap) : (lim prog).loop xLR xUp ⟨xIO s0 s2 s3,H⟩ = xCh (lim prog) xLR xUp (run (lim prog) xEI ⟨xIO s0 s2 s3,H⟩) := xAy _ _ _ _ (by kernel_rfl)
def a11 : AFunc := ⟨68,
 .seq (.region [⟨some 2,.mov (.c (.bool false)),none⟩])
 (.seq (.seq (.region [⟨some 3,.mov (.c (.int .i64 0)),none⟩])
 (.block 0 (.loop xLR xUp)))
 (.seq (.region [⟨some 2,.mov (.c (.bool false)),none⟩])
 (.ret))),
 [.tmp 2]⟩
def a13 : AFunc := ⟨131,
 .seq (.region [⟨some 0,.mov (.c (.bool false)),none⟩])
 (.seq (.region [⟨some 19,.call 43 [],none⟩,
 ⟨some 1,.box (.c (.agg [.int .i64 0,.int .i64 0,.int .i64 0,.sl true 0 [],.sl true 0 []])),none⟩,
 ⟨none,.store 5 (.t 1) (.t 19),none⟩])
 (.seq (.region [⟨some 20,.bslice true [.int .i64 0] 1 2 [(0,(.c (.int .i64 1))),(1,(.c (.int .i64 1)))],none⟩,
 ⟨some 21,.bslice true [.int .i64 0] 1 2 [(0,(.c (.int .i64 0))),(1,(.c (.int .i64 0)))],none⟩,
 ⟨some 22,.bslice true [.sl true 0 []] 1 2 [(0,(.t 20)),(1,(.t 21))],none⟩,
 ⟨some 23,.bslice true [.int .u8 0] 1 2 [(0,(.c (.int .u8 1))),(1,(.c (.int .u8 0)))],none⟩,
 ⟨some 24,.bslice true [.int .u8 0] 1 2 [(0,(.c (.int .u8 1))),(1,(.c (.int .u8 0)))],none⟩,
 ⟨some 25,.bslice true [.sl true 0 []] 1 2 [(0,(.t 23)),(1,(.t 24))],none⟩,
 ⟨some 26,.build [.int .i64 0,.int .i64 0,.int .i64 0,.sl true 0 [],.sl true 0 []] [(0,1,(.c (.int .i64 1))),(1,1,(.c (.int .i64 1))),(3,1,(.t 22)),(4,1,(.t 25))],none⟩,
 ⟨some 2,.box (.c (.agg [.int .i64 0,.int .i64 0,.int .i64 0,.sl true 0 [],.sl true 0 []])),none⟩,
 ⟨none,.store 5 (.t 2) (.t 26),none⟩])
 (.seq (.region [⟨some 27,.call 43 [],none⟩,
 ⟨some 3,.box (.c (.agg [.int .i64 0,.int .i64 0,.int .i64 0,.sl true 0 [],.sl true 0 []])),none⟩,
 ⟨none,.store 5 (.t 3) (.t 27),none⟩])
 (.seq (.region [⟨some 28,.bslice true [.int .u8 0] 1 2 [(0,(.c (.int .u8 1))),(1,(.c (.int .u8 1)))],none⟩,
 ⟨some 29,.bslice true [.sl true 0 []] 1 1 [(0,(.t 28))],none⟩,
 ⟨some 30,.faddr 4 (.t 3),none⟩,
 ⟨none,.store 1 (.t 30) (.t 29),none⟩])
 (.seq (.region [⟨some 32,.load true 5 (.t 1),none⟩,
 ⟨some 33,.bslice true [.int .u8 0] 1 3 [(0,(.c (.int .u8 0))),(1,(.c (.int .u8 1))),(2,(.c (.int .u8 1)))],none⟩,
 ⟨some 34,.call 16 [(.t 32),(.t 33)],none⟩,
 ⟨some 31,.mov (.t 34),none⟩,
 ⟨some 35,.ext 0 (.t 31),none⟩,
 ⟨some 36,.ext 1 (.t 31),none⟩,
 ⟨some 37,.ext 2 (.t 31),none⟩,
 ⟨some 4,.mov (.t 35),none⟩,
 ⟨some 5,.mov (.t 36),none⟩,
 ⟨some 6,.mov (.t 37),none⟩])
 (.seq (.region [⟨some 39,.load true 5 (.t 1),none⟩,
 ⟨some 40,.bslice true [.int .u8 0] 1 2 [(0,(.c (.int .u8 0))),(1,(.c (.int .u8 1)))],none⟩,
 ⟨some 41,.build [.sl true 0 [],.sl true 0 []] [(1,1,(.t 40))],none⟩,
 ⟨some 42,.call 18 [(.t 39),(.t 41)],none⟩,
 ⟨some 38,.mov (.t 42),none⟩,
 ⟨some 43,.ext 0 (.t 38),none⟩,
 ⟨some 44,.ext 1 (.t 38),none⟩,
 ⟨some 7,.box (.c (.agg [.sl true 0 [],.sl true 0 []])),none⟩,
 ⟨none,.store 2 (.t 7) (.t 43),none⟩,
 ⟨some 8,.mov (.t 44),none⟩])
 (.seq (.region [⟨some 46,.load true 5 (.t 2),none⟩,
 ⟨some 47,.call 35 [(.t 46)],none⟩,
 ⟨some 45,.mov (.t 47),none⟩,
 ⟨some 48,.ext 0 (.t 45),none⟩,
 ⟨some 49,.ext 1 (.t 45),none⟩,
 ⟨some 9,.box (.c (.agg [.int .i64 0,.int .i64 0,.int .i64 0,.sl true 0 [],.sl true 0 []])),none⟩,
 ⟨none,.store 5 (.t 9) (.t 48),none⟩,
 ⟨some 10,.mov (.t 49),none⟩])
 (.seq (.region [⟨some 51,.load true 5 (.t 1),none⟩,
 ⟨some 52,.load true 5 (.t 2),none⟩,
 ⟨some 53,.call 37 [(.t 51),(.t 52)],none⟩,
 ⟨some 50,.mov (.t 53),none⟩,
 ⟨some 54,.ext 0 (.t 50),none⟩,
 ⟨some 55,.ext 1 (.t 50),none⟩,
 ⟨some 56,.ext 2 (.t 50),none⟩,
 ⟨some 11,.mov (.t 54),none⟩,
 ⟨some 12,.mov (.t 55),none⟩,
 ⟨some 13,.mov (.t 56),none⟩])
 (.seq (.draw 7 [⟨some 58,.load true 5 (.t 1),none⟩,
 ⟨some 59,.call 42 [],none⟩,
 ⟨some 60,.call 31 [(.t 58),(.t 59)],none⟩,
 ⟨some 57,.mov (.t 60),none⟩,
 ⟨some 61,.ext 0 (.t 57),none⟩,
 ⟨some 62,.ext 1 (.t 57),none⟩,
 ⟨some 14,.box (.c (.agg [.sl true 0 [],.sl true 0 []])),none⟩,
 ⟨none,.store 2 (.t 14) (.t 61),none⟩,
 ⟨some 15,.mov (.t 62),none⟩])
 (.seq (.region [⟨some 64,.load true 5 (.t 1),none⟩,
 ⟨some 65,.load true 5 (.t 3),none⟩,
 ⟨some 66,.call 37 [(.t 64),(.t 65)],none⟩,
 ⟨some 63,.mov (.t 66),none⟩,
 ⟨some 67,.ext 0 (.t 63),none⟩,
 ⟨some 68,.ext 1 (.t 63),none⟩,
 ⟨some 69,.ext 2 (.t 63),none⟩,
 ⟨some 16,.mov (.t 67),none⟩,
 ⟨some 17,.mov (.t 68),none⟩,
 ⟨some 18,.mov (.t 69),none⟩])
 (.seq (.region [⟨some 70,.mov (.t 6),none⟩,
 ⟨some 71,.bin .eql (.t 70) (.c (.int .i64 0)),none⟩,
 ⟨some 72,.mov (.t 71),none⟩,
 ⟨some 73,.mov (.t 4),some (72,true)⟩,
 ⟨some 74,.bslice true [.int .u8 0] 1 3 [(0,(.c (.int .u8 1))),(1,(.c (.int .u8 0))),(2,(.c (.int .u8 0)))],some (72,true)⟩,
 ⟨some 75,.call 23 [(.t 73),(.t 74)],some (72,true)⟩,
 ⟨some 76,.pick (.t 72) (.t 75) (.c (.bool false)),none⟩,
 ⟨some 77,.mov (.t 76),none⟩,
 ⟨some 78,.mov (.t 5),some (77,true)⟩,
 ⟨some 79,.bslice true [.int .i64 0] 1 4 [(0,(.c (.int .i64 0))),(1,(.c (.int .i64 0))),(2,(.c (.int .i64 0))),(3,(.c (.int .i64 0)))],some (77,true)⟩,
 ⟨some 80,.call 24 [(.t 78),(.t 79)],some (77,true)⟩,
 ⟨some 81,.pick (.t 77) (.t 80) (.c (.bool false)),none⟩,
 ⟨some 82,.mov (.t 81),none⟩,
 ⟨some 83,.mov (.t 8),some (82,true)⟩,
 ⟨some 84,.bin .eql (.t 83) (.c (.int .i64 0)),some (82,true)⟩,
 ⟨some 85,.pick (.t 82) (.t 84) (.c (.bool false)),none⟩,
 ⟨some 86,.mov (.t 85),none⟩,
 ⟨some 87,.load true 2 (.t 7),some (86,true)⟩,
 ⟨some 88,.bslice true [.int .u8 0] 1 2 [(0,(.c (.int .u8 2))),(1,(.c (.int .u8 1)))],some (86,true)⟩,
 ⟨some 89,.build [.sl true 0 [],.sl true 0 []] [(1,1,(.t 88))],some (86,true)⟩,
 ⟨some 90,.call 25 [(.t 87),(.t 89)],some (86,true)⟩,
 ⟨some 91,.pick (.t 86) (.t 90) (.c (.bool false)),none⟩,
 ⟨some 92,.mov (.t 91),none⟩,
 ⟨some 93,.mov (.t 10),some (92,true)⟩,
 ⟨some 94,.bin .eql (.t 93) (.c (.int .i64 0)),some (92,true)⟩,
 ⟨some 95,.pick (.t 92) (.t 94) (.c (.bool false)),none⟩,
 ⟨some 96,.mov (.t 95),none⟩,
 ⟨some 97,.load true 5 (.t 9),some (96,true)⟩,
 ⟨some 98,.load true 5 (.t 1),some (96,true)⟩,
 ⟨some 99,.call 29 [(.t 97),(.t 98)],some (96,true)⟩,
 ⟨some 100,.pick (.t 96) (.t 99) (.c (.bool false)),none⟩,
 ⟨some 101,.mov (.t 100),none⟩,
 ⟨some 102,.mov (.t 13),some (101,true)⟩,
 ⟨some 103,.bin .eql (.t 102) (.c (.int .i64 0)),some (101,true)⟩,
 ⟨some 104,.pick (.t 101) (.t 103) (.c (.bool false)),none⟩,
 ⟨some 105,.mov (.t 104),none⟩,
 ⟨some 106,.mov (.t 12),some (105,true)⟩,
 ⟨some 107,.pick (.t 105) (.t 106) (.c (.bool false)),none⟩,
 ⟨some 108,.mov (.t 107),none⟩,
 ⟨some 109,.mov (.t 15),some (108,true)⟩,
 ⟨some 110,.bin .eql (.t 109) (.c (.int .i64 0)),some (108,true)⟩,
 ⟨some 111,.pick (.t 108) (.t 110) (.c (.bool false)),none⟩,
 ⟨some 112,.mov (.t 111),none⟩,
 ⟨some 113,.load true 2 (.t 14),some (112,true)⟩,
 ⟨some 114,.bslice true [.int .u8 0] 1 1 [(0,(.c (.int .u8 1)))],some (112,true)⟩,
 ⟨some 115,.build [.sl true 0 [],.sl true 0 []] [(1,1,(.t 114))],some (112,true)⟩,
 ⟨some 116,.call 25 [(.t 113),(.t 115)],some (112,true)⟩,
 ⟨some 117,.pick (.t 112) (.t 116) (.c (.bool false)),none⟩,
 ⟨some 118,.mov (.t 117),none⟩,
 ⟨some 119,.mov (.t 18),some (118,true)⟩,
 ⟨some 120,.bin .eql (.t 119) (.c (.int .i64 0)),some (118,true)⟩,
 ⟨some 121,.pick (.t 118) (.t 120) (.c (.bool false)),none⟩,
 ⟨some 122,.mov (.t 121),none⟩,
 ⟨some 123,.mov (.t 17),some (122,true)⟩,
 ⟨some 124,.un .not (.t 123),some (122,true)⟩,
 ⟨some 125,.pick (.t 122) (.t 124) (.c (.bool false)),none⟩,
 ⟨some 126,.mov (.t 125),none⟩,
 ⟨some 127,.mov (.t 16),some (126,true)⟩,
 ⟨some 128,.bslice true [.int .u8 0] 1 1 [(0,(.c (.int .u8 1)))],some (126,true)⟩,
 ⟨some 129,.call 23 [(.t 127),(.t 128)],some (126,true)⟩,
 ⟨some 130,.pick (.t 126) (.t 129) (.c (.bool false)),none⟩,
 ⟨some 0,.mov (.t 130),none⟩])
 (.ret)))))))))))),
 [.tmp 0]⟩
def xG1 : ACode :=
 .seq (.region [⟨some 31,.bin .lss (.t 30) (.t 29),none⟩])
 (.seq (.cond (.t 31)
 (.skip)
 (.exit 1))
 (.seq (.block 2 (.seq (.region [⟨some 32,.iaddr 1 (.t 28) (.t 30),none⟩,
 ⟨some 33,.load false 1 (.t 32),none⟩,
 ⟨some 10,.mov (.t 33),none⟩])
 (.seq (.region [⟨some 34,.mov (.t 4),none⟩,
 ⟨some 35,.faddr 4 (.t 2),none⟩,
 ⟨some 36,.load false 1 (.t 35),none⟩,
 ⟨some 37,.mov (.t 8),none⟩,
 ⟨some 38,.iaddr 1 (.t 36) (.t 37),none⟩,
 ⟨some 39,.load false 1 (.t 38),none⟩,
 ⟨some 40,.mov (.t 10),none⟩,
 ⟨some 41,.iaddr 1 (.t 39) (.t 40),none⟩,
 ⟨some 42,.load false 1 (.t 41),none⟩,
 ⟨some 43,.bslice true [.int .u8 0] 1 1 [(0,(.t 42))],none⟩,
 ⟨some 44,.append false 1 1 (.t 34) (.t 43),none⟩,
 ⟨some 4,.mov (.t 44),none⟩])
 (.seq (.region [⟨some 45,.faddr 3 (.t 2),none⟩,
 ⟨some 46,.load false 1 (.t 45),none⟩,
 ⟨some 47,.mov (.t 8),none⟩,
 ⟨some 48,.iaddr 1 (.t 46) (.t 47),none⟩,
 ⟨some 49,.load false 1 (.t 48),none⟩,
 ⟨some 50,.mov (.t 10),none⟩,
 ⟨some 51,.iaddr 1 (.t 49) (.t 50),none⟩,
 ⟨some 52,.load false 1 (.t 51),none⟩,
 ⟨some 8,.mov (.t 52),none⟩])
 (.region [⟨some 53,.mov (.t 5),none⟩,
 ⟨some 54,.mov (.t 8),none⟩,
 ⟨some 55,.bslice true [.int .i64 0] 1 1 [(0,(.t 54))],none⟩,
 ⟨some 56,.append false 1 8 (.t 53) (.t 55),none⟩,
 ⟨some 5,.mov (.t 56),none⟩])))))
 (.region [⟨some 57,.bin .add (.t 30) (.c (.int .i64 1)),none⟩,
 ⟨some 30,.mov (.t 57),none⟩])))
def xQE : ACode := xG1
def xG2 : List Nat := [0,1,3,6,7,9,10,11,12,13,14,15,16,17,18,19,20,21,22,23,24,25,26,27,31,32,33,34,35,36,37,38,39,40,41,42,43,44,45,46,47,48,49,50,51,52,53,54,55,56,57,58,59]
abbrev xOp (s2 s4 s5 s8 s28 s29 s30 : AV) : List AV := [.any,.any,s2,.any,s4,s5,.any,.any,s8,.any,.any,.any,.any,.any,.any,.any,.any,.any,.any,.any,.any,.any,.any,.any,.any,.any,.any,.any,s28,s29,s30,.any,.any,.any,.any,.any,.any,.any,.any,.any,.any,.any,.any,.any,.any,.any,.any,.any,.any,.any,.any,.any,.any,.any,.any,.any,.any,.any,.any,.any]
theorem xG3 (s0 s1 s2 s3 s4 s5 s6 s7 s8 s9 s10 s11 s12 s13 s14 s15 s16 s17 s18 s19 s20 s21 s22 s23 s24 s25 s26 s27 s28 s29 s30 s31 s32 s33 s34 s35 s36 s37 s38 s39 s40 s41 s42 s43 s44 s45 s46 s47 s48 s49 s50 s51 s52 s53 s54 s55 s56 s57 s58 s59 : AV) : xAM xG2 [s0,s1,s2,s3,s4,s5,s6,s7,s8,s9,s10,s11,s12,s13,s14,s15,s16,s17,s18,s19,s20,s21,s22,s23,s24,s25,s26,s27,s28,s29,s30,s31,s32,s33,s34,s35,s36,s37,s38,s39,s40,s41,s42,s43,s44,s45,s46,s47,s48,s49,s50,s51,s52,s53,s54,s55,s56,s57,s58,s59] = xOp s2 s4 s5 s8 s28 s29 s30 := by kernel_rfl
theorem xLS {prog : Nat → Option AFunc} (s2 s4 s5 s8 s28 s29 s30 : AV) (H : Heap) : (lim prog).loop xG2 xQE ⟨xOp s2 s4 s5 s8 s28 s29 s30,H⟩ = xCh (lim prog) xG2 xQE (run (lim prog) xG1 ⟨xOp s2 s4 s5 s8 s28 s29 s30,H⟩) := xAy _ _ _ _ (by kernel_rfl)
def a16 : AFunc := ⟨60,
 .seq (.region [⟨some 2,.box (.t 0),none⟩,
 ⟨some 4,.mov (.c (.sl true 0 [])),none⟩,
 ⟨some 5,.mov (.c (.sl true 0 [])),none⟩,
 ⟨some 6,.mov (.c (.int .i64 0)),none⟩])
 (.seq (.seq (.region [⟨some 11,.load true 5 (.t 2),none⟩,
 ⟨some 12,.call 21 [(.t 11)],none⟩,
 ⟨some 7,.mov (.t 12),none⟩])
 (.seq (.region [⟨some 13,.mov (.t 7),none⟩,
 ⟨some 14,.bin .neq (.t 13) (.c (.int .i64 0)),none⟩])
 (.cond (.t 14)
 (.seq (.region [⟨some 15,.mov (.t 7),none⟩,
 ⟨some 4,.mov (.c (.sl true 0 [])),none⟩,
 ⟨some 5,.mov (.c (.sl true 0 [])),none⟩,
 ⟨some 6,.mov (.t 15),none⟩])
 (.ret))
 (.skip))))
 (.seq (.block 0 (.seq (.region [⟨some 17,.mov (.t 1),none⟩,
 ⟨some 18,.len (.t 17),none⟩,
 ⟨some 19,.bin .gtr (.t 18) (.c (.int .i64 64)),none⟩,
 ⟨some 16,.mov (.t 19),none⟩])
 (.cond (.t 16)
 (.seq (.region [⟨some 4,.mov (.c (.sl true 0 [])),none⟩,
 ⟨some 5,.mov (.c (.sl true 0 [])),none⟩,
 ⟨some 6,.mov (.c (.int .i64 4)),none⟩])
 (.ret))
 (.seq (.region [⟨some 21,.mov (.t 1),none⟩,
 ⟨some 22,.mkfunc 53 [(.t 2)],none⟩,
 ⟨some 23,.icall (.c (.func 52 [])) [(.t 21),(.t 22)],none⟩,
 ⟨some 20,.mov (.t 23),none⟩])
 (.cond (.t 20)
 (.seq (.region [⟨some 4,.mov (.c (.sl true 0 [])),none⟩,
 ⟨some 5,.mov (.c (.sl true 0 [])),none⟩,
 ⟨some 6,.mov (.c (.int .i64 1)),none⟩])
 (.ret))
 (.skip))))))
 (.seq (.region [⟨some 24,.faddr 2 (.t 2),none⟩,
 ⟨some 25,.load false 1 (.t 24),none⟩,
 ⟨some 8,.mov (.t 25),none⟩])
 (.seq (.region [⟨some 26,.mov (.t 8),none⟩,
 ⟨some 27,.bslice false [.int .i64 0] 1 1 [(0,(.t 26))],none⟩,
 ⟨some 5,.mov (.t 27),none⟩])
 (.seq (.seq (.region [⟨some 28,.mov (.t 1),none⟩,
 ⟨some 29,.len (.t 28),none⟩,
 ⟨some 30,.mov (.c (.int .i64 0)),none⟩])
 (.block 1 (.loop xG2 xQE)))
 (.seq (.region [⟨some 58,.mov (.t 4),none⟩,
 ⟨some 59,.mov (.t 5),none⟩,
 ⟨some 4,.mov (.t 58),none⟩,
 ⟨some 5,.mov (.t 59),none⟩,
 ⟨some 6,.mov (.c (.int .i64 0)),none⟩])
 (.ret))))))),
 [.tmp 4,.tmp 5,.tmp 6]⟩
def xXY : ACode :=
 .seq (.block 1 (.seq (.seq (.region [⟨some 33,.mov (.t 8),none⟩,
 ⟨some 34,.load true 2 (.t 3),none⟩,
 ⟨some 35,.mov (.t 10),none⟩,
 ⟨some 36,.call 55 [(.t 34),(.t 35)],none⟩,
 ⟨some 37,.build [.int .i64 0,.int .i64 0] [(0,1,(.t 33)),(1,1,(.t 36))],none⟩,
 ⟨some 38,.icall (.c (.func 54 [])) [(.t 9),(.t 37)],none⟩,
 ⟨some 32,.mov (.t 38),none⟩,
 ⟨some 39,.ext 0 (.t 32),none⟩,
 ⟨some 40,.ext 1 (.t 32),none⟩,
 ⟨some 11,.box (.c (.agg [.sl true 0 [],.sl true 0 []])),none⟩,
 ⟨none,.store 2 (.t 11) (.t 39),none⟩,
 ⟨some 12,.mov (.t 40),none⟩])
 (.seq (.region [⟨some 41,.mov (.t 12),none⟩])
 (.cond (.t 41)
 (.seq (.region [⟨some 42,.load true 2 (.t 11),none⟩,
 ⟨none,.store 2 (.t 4) (.t 42),none⟩,
 ⟨some 5,.mov (.c (.int .i64 0)),none⟩])
 (.ret))
 (.skip))))
 (.seq (.region [⟨some 43,.load true 2 (.t 3),none⟩,
 ⟨some 44,.mov (.t 10),none⟩,
 ⟨some 45,.call 47 [(.t 43),(.t 44)],none⟩,
 ⟨some 13,.mov (.t 45),none⟩])
 (.seq (.draw 11 [⟨some 46,.faddr 1 (.t 9),none⟩,
 ⟨some 47,.load false 1 (.t 46),none⟩,
 ⟨some 48,.mov (.t 13),none⟩,
 ⟨some 49,.faddr 4 (.t 2),none⟩,
 ⟨some 50,.load false 1 (.t 49),none⟩,
 ⟨some 51,.mov (.t 8),none⟩,
 ⟨some 52,.iaddr 1 (.t 50) (.t 51),none⟩,
 ⟨some 53,.load false 1 (.t 52),none⟩,
 ⟨some 54,.mov (.t 13),none⟩,
 ⟨some 55,.iaddr 1 (.t 53) (.t 54),none⟩,
 ⟨some 56,.load false 1 (.t 55),none⟩,
 ⟨some 57,.faddr 0 (.t 2),none⟩,
 ⟨some 58,.load false 1 (.t 57),none⟩,
 ⟨some 59,.bin .shl (.t 56) (.t 58),none⟩,
 ⟨some 60,.bin .or (.t 48) (.t 59),none⟩,
 ⟨some 61,.bslice true [.int .u8 0] 1 1 [(0,(.t 60))],none⟩,
 ⟨some 62,.append false 1 1 (.t 47) (.t 61),none⟩,
 ⟨some 63,.faddr 1 (.t 9),none⟩,
 ⟨none,.store 1 (.t 63) (.t 62),none⟩])
 (.region [⟨some 64,.faddr 3 (.t 2),none⟩,
 ⟨some 65,.load false 1 (.t 64),none⟩,
 ⟨some 66,.mov (.t 8),none⟩,
 ⟨some 67,.iaddr 1 (.t 65) (.t 66),none⟩,
 ⟨some 68,.load false 1 (.t 67),none⟩,
 ⟨some 69,.mov (.t 13),none⟩,
 ⟨some 70,.iaddr 1 (.t 68) (.t 69),none⟩,
 ⟨some 71,.load false 1 (.t 70),none⟩,
 ⟨some 8,.mov (.t 71),none⟩])))))
 (.region [⟨some 30,.mov (.t 10),none⟩,
 ⟨some 31,.bin .add (.t 30) (.c (.int .i64 1)),none⟩,
 ⟨some 10,.mov (.t 31),none⟩])
def xZx : ACode := xXY
def xXZ : List Nat := [0,1,6,7,11,12,13,14,15,16,17,18,19,20,21,22,23,24,25,26,27,28,29,30,31,32,33,34,35,36,37,38,39,40,41,42,43,44,45,46,47,48,49,50,51,52,53,54,55,56,57,58,59,60,61,62,63,64,65,66,67,68,69,70,71]
def a18 : AFunc := ⟨72,
 .seq (.region [⟨some 2,.box (.t 0),none⟩,
 ⟨some 3,.box (.t 1),none⟩,
 ⟨some 4,.box (.c (.agg [.sl true 0 [],.sl true 0 []])),none⟩,
 ⟨some 5,.mov (.c (.int .i64 0)),none⟩])
 (.seq (.seq (.region [⟨some 14,.load true 5 (.t 2),none⟩,
 ⟨some 15,.call 21 [(.t 14)],none⟩,
 ⟨some 6,.mov (.t 15),none⟩])
 (.seq (.region [⟨some 16,.mov (.t 6),none⟩,
 ⟨some 17,.bin .neq (.t 16) (.c (.int .i64 0)),none⟩])
 (.cond (.t 17)
 (.seq (.region [⟨some 18,.build [.sl true 0 [],.sl true 0 []] [],none⟩,
 ⟨some 19,.mov (.t 6),none⟩,
 ⟨none,.store 2 (.t 4) (.t 18),none⟩,
 ⟨some 5,.mov (.t 19),none⟩])
 (.ret))
 (.skip))))
 (.seq (.seq (.region [⟨some 20,.load true 2 (.t 3),none⟩,
 ⟨some 21,.faddr 0 (.t 2),none⟩,
 ⟨some 22,.load false 1 (.t 21),none⟩,
 ⟨some 23,.call 45 [(.t 20),(.t 22)],none⟩,
 ⟨some 7,.mov (.t 23),none⟩])
 (.seq (.region [⟨some 24,.mov (.t 7),none⟩,
 ⟨some 25,.bin .neq (.t 24) (.c (.int .i64 0)),none⟩])
 (.cond (.t 25)
 (.seq (.region [⟨some 26,.build [.sl true 0 [],.sl true 0 []] [],none⟩,
 ⟨some 27,.mov (.t 7),none⟩,
 ⟨none,.store 2 (.t 4) (.t 26),none⟩,
 ⟨some 5,.mov (.t 27),none⟩])
 (.ret))
 (.skip))))
 (.seq (.region [⟨some 28,.faddr 2 (.t 2),none⟩,
 ⟨some 29,.load false 1 (.t 28),none⟩,
 ⟨some 8,.mov (.t 29),none⟩])
 (.seq (.region [⟨some 9,.box (.c (.agg [.nilm,.sl true 0 []])),none⟩])
 (.seq (.region [⟨some 10,.mov (.c (.int .i64 0)),none⟩])
 (.block 0 (.loop xXZ xZx))))))),
 [.cell 4 true 2,.tmp 5]⟩
def xEK : ACode :=
 .seq (.region [⟨some 28,.bin .lss (.t 27) (.t 26),none⟩])
 (.seq (.cond (.t 28)
 (.skip)
 (.exit 0))
 (.seq (.block 1 (.seq (.region [⟨some 29,.mov (.t 27),none⟩,
 ⟨some 30,.iaddr 1 (.t 25) (.t 27),none⟩,
 ⟨some 31,.load false 1 (.t 30),none⟩,
 ⟨some 5,.mov (.t 29),none⟩,
 ⟨some 6,.mov (.t 31),none⟩])
 (.block 2 (.seq (.draw 16 [⟨some 33,.mov (.t 6),none⟩,
 ⟨some 34,.len (.t 33),none⟩,
 ⟨some 35,.faddr 0 (.t 1),none⟩,
 ⟨some 36,.load false 1 (.t 35),none⟩,
 ⟨some 37,.bin .shl (.c (.int .i64 1)) (.t 36),none⟩,
 ⟨some 38,.bin .neq (.t 34) (.t 37),none⟩,
 ⟨some 39,.mov (.t 38),none⟩,
 ⟨some 40,.faddr 4 (.t 1),some (39,false)⟩,
 ⟨some 41,.load false 1 (.t 40),some (39,false)⟩,
 ⟨some 42,.mov (.t 5),some (39,false)⟩,
 ⟨some 43,.iaddr 1 (.t 41) (.t 42),some (39,false)⟩,
 ⟨some 44,.load false 1 (.t 43),some (39,false)⟩,
 ⟨some 45,.len (.t 44),some (39,false)⟩,
 ⟨some 46,.faddr 0 (.t 1),some (39,false)⟩,
 ⟨some 47,.load false 1 (.t 46),some (39,false)⟩,
 ⟨some 48,.bin .shl (.c (.int .i64 1)) (.t 47),some (39,false)⟩,
 ⟨some 49,.bin .neq (.t 45) (.t 48),some (39,false)⟩,
 ⟨some 50,.pick (.t 39) (.c (.bool true)) (.t 49),none⟩,
 ⟨some 32,.mov (.t 50),none⟩])
 (.cond (.t 32)
 (.seq (.region [⟨some 2,.mov (.c (.int .i64 2)),none⟩])
 (.ret))
 (.seq (.region [⟨some 52,.mov (.t 6),none⟩,
 ⟨some 53,.mov (.t 3),none⟩,
 ⟨some 54,.call 60 [(.t 52),(.t 53)],none⟩,
 ⟨some 51,.mov (.t 54),none⟩])
 (.cond (.t 51)
 (.seq (.region [⟨some 2,.mov (.c (.int .i64 8)),none⟩])
 (.ret))
 (.seq (.draw 10 [⟨some 56,.faddr 4 (.t 1),none⟩,
 ⟨some 57,.load false 1 (.t 56),none⟩,
 ⟨some 58,.mov (.t 5),none⟩,
 ⟨some 59,.iaddr 1 (.t 57) (.t 58),none⟩,
 ⟨some 60,.load false 1 (.t 59),none⟩,
 ⟨some 61,.call 61 [(.t 60)],none⟩,
 ⟨some 62,.conv .i64 (.t 61),none⟩,
 ⟨some 63,.faddr 1 (.t 1),none⟩,
 ⟨some 64,.load false 1 (.t 63),none⟩,
 ⟨some 65,.bin .shl (.c (.int .i64 1)) (.t 64),none⟩,
 ⟨some 66,.bin .geq (.t 62) (.t 65),none⟩,
 ⟨some 55,.mov (.t 66),none⟩])
 (.cond (.t 55)
 (.seq (.region [⟨some 2,.mov (.c (.int .i64 1)),none⟩])
 (.ret))
 (.skip))))))))))
 (.region [⟨some 67,.bin .add (.t 27) (.c (.int .i64 1)),none⟩,
 ⟨some 27,.mov (.t 67),none⟩])))
def xUq : ACode := xEK
def xLT : List Nat := [0,4,5,6,7,8,9,10,11,12,13,14,15,16,17,18,19,20,21,22,23,24,28,29,30,31,32,33,34,35,36,37,38,39,40,41,42,43,44,45,46,47,48,49,50,51,52,53,54,55,56,57,58,59,60,61,62,63,64,65,66,67]
abbrev xIQ (s1 s2 s3 s25 s26 s27 : AV) : List AV := [.any,s1,s2,s3,.any,.any,.any,.any,.any,.any,.any,.any,.any,.any,.any,.any,.any,.any,.any,.any,.any,.any,.any,.any,.any,s25,s26,s27,.any,.any,.any,.any,.any,.any,.any,.any,.any,.any,.any,.any,.any,.any,.any,.any,.any,.any,.any,.any,.any,.any,.any,.any,.any,.any,.any,.any,.any,.any,.any,.any,.any,.any,.any,.any,.any,.any,.any,.any]
theorem xEL (s0 s1 s2 s3 s4 s5 s6 s7 s8 s9 s10 s11 s12 s13 s14 s15 s16 s17 s18 s19 s20 s21 s22 s23 s24 s25 s26 s27 s28 s29 s30 s31 s32 s33 s34 s35 s36 s37 s38 s39 s40 s41 s42 s43 s44 s45 s46 s47 s48 s49 s50 s51 s52 s53 s54 s55 s56 s57 s58 s59 s60 s61 s62 s63 s64 s65 s66 s67 : AV) : xAM xLT [s0,s1,s2,s3,s4,s5,s6,s7,s8,s9,s10,s11,s12,s13,s14,s15,s16,s17,s18,s19,s20,s21,s22,s23,s24,s25,s26,s27,s28,s29,s30,s31,s32,s33,s34,s35,s36,s37,s38,s39,s40,s41,s42,s43,s44,s45,s46,s47,s48,s49,s50,s51,s52,s53,s54,s55,s56,s57,s58,s59,s60,s61,s62,s63,s64,s65,s66,s67] = xIQ s1 s2 s3 s25 s26 s27 := by kernel_rfl
theorem xIR {prog : Nat → Option AFunc} (s1 s2 s3 s25 s26 s27 : AV) (H : Heap) : (lim prog).loop xLT xUq ⟨xIQ s1 s2 s3 s25 s26 s27,H⟩ = xCh (lim prog) xLT xUq (run (lim prog) xEK ⟨xIQ s1 s2 s3 s25 s26 s27,H⟩) := xAy _ _ _ _ (by kernel_rfl)
def a21 : AFunc := ⟨68,
 .seq (.region [⟨some 1,.box (.t 0),none⟩,
 ⟨some 2,.mov (.c (.int .i64 0)),none⟩])
 (.seq (.region [⟨some 7,.faddr 3 (.t 1),none⟩,
 ⟨some 8,.load false 1 (.t 7),none⟩,
 ⟨some 9,.len (.t 8),none⟩,
 ⟨some 3,.mov (.t 9),none⟩])
 (.seq (.seq (.region [⟨some 10,.faddr 0 (.t 1),none⟩,
 ⟨some 11,.load false 1 (.t 10),none⟩,
 ⟨some 12,.faddr 1 (.t 1),none⟩,
 ⟨some 13,.load false 1 (.t 12),none⟩,
 ⟨some 14,.mov (.t 3),none⟩,
 ⟨some 15,.faddr 4 (.t 1),none⟩,
 ⟨some 16,.load false 1 (.t 15),none⟩,
 ⟨some 17,.len (.t 16),none⟩,
 ⟨some 18,.faddr 2 (.t 1),none⟩,
 ⟨some 19,.load false 1 (.t 18),none⟩,
 ⟨some 20,.call 59 [(.t 11),(.t 13),(.t 14),(.t 17),(.t 19)],none⟩,
 ⟨some 4,.mov (.t 20),none⟩])
 (.seq (.region [⟨some 21,.mov (.t 4),none⟩,
 ⟨some 22,.bin .neq (.t 21) (.c (.int .i64 0)),none⟩])
 (.cond (.t 22)
 (.seq (.region [⟨some 23,.mov (.t 4),none⟩,
 ⟨some 2,.mov (.t 23),none⟩])
 (.ret))
 (.skip))))
 (.seq (.seq (.region [⟨some 24,.faddr 3 (.t 1),none⟩,
 ⟨some 25,.load false 1 (.t 24),none⟩,
 ⟨some 26,.len (.t 25),none⟩,
 ⟨some 27,.mov (.c (.int .i64 0)),none⟩])
 (.block 0 (.loop xLT xUq)))
 (.seq (.region [⟨some 2,.mov (.c (.int .i64 0)),none⟩])
 (.ret))))),
 [.tmp 2]⟩
def xIS : ACode :=
 .seq (.seq (.region [⟨some 11,.mov (.t 5),none⟩,
 ⟨some 12,.mov (.t 0),none⟩,
 ⟨some 13,.len (.t 12),none⟩,
 ⟨some 14,.bin .lss (.t 11) (.t 13),none⟩])
 (.cond (.t 14)
 (.skip)
 (.exit 0)))
 (.seq (.block 1 (.seq (.draw 5 [⟨some 17,.mov (.t 0),none⟩,
 ⟨some 18,.mov (.t 5),none⟩,
 ⟨some 19,.iaddr 1 (.t 17) (.t 18),none⟩,
 ⟨some 20,.load false 1 (.t 19),none⟩,
 ⟨some 21,.mov (.t 1),none⟩,
 ⟨some 22,.mov (.t 5),none⟩,
 ⟨some 23,.iaddr 1 (.t 21) (.t 22),none⟩,
 ⟨some 24,.load false 1 (.t 23),none⟩,
 ⟨some 25,.bin .neq (.t 20) (.t 24),none⟩])
 (.cond (.t 25)
 (.seq (.region [⟨some 4,.mov (.c (.bool false)),none⟩])
 (.ret))
 (.skip))))
 (.region [⟨some 15,.mov (.t 5),none⟩,
 ⟨some 16,.bin .add (.t 15) (.c (.int .i64 1)),none⟩,
 ⟨some 5,.mov (.t 16),none⟩]))
def xUr : ACode := xIS
def xLU : List Nat := [2,3,6,7,8,9,10,11,12,13,14,15,16,17,18,19,20,21,22,23,24,25]
abbrev xIT (s0 s1 s4 s5 : AV) : List AV := [s0,s1,.any,.any,s4,s5,.any,.any,.any,.any,.any,.any,.any,.any,.any,.any,.any,.any,.any,.any,.any,.any,.any,.any,.any,.any]
theorem xIU (s0 s1 s2 s3 s4 s5 s6 s7 s8 s9 s10 s11 s12 s13 s14 s15 s16 s17 s18 s19 s20 s21 s22 s23 s24 s25 : AV) : xAM xLU [s0,s1,s2,s3,s4,s5,s6,s7,s8,s9,s10,s11,s12,s13,s14,s15,s16,s17,s18,s19,s20,s21,s22,s23,s24,s25] = xIT s0 s1 s4 s5 := by kernel_rfl
theorem xRB {prog : Nat → Option AFunc} (s0 s1 s4 s5 : AV) (H : Heap) : (lim prog).loop xLU xUr ⟨xIT s0 s1 s4 s5,H⟩ = xCh (lim prog) xLU xUr (run (lim prog) xIS ⟨xIT s0 s1 s4 s5,H⟩) := xAy _ _ _ _ (by kernel_rfl)
def a23 : AFunc := ⟨26,
 .seq (.region [⟨some 4,.mov (.c (.bool false)),none⟩])
 (.seq (.seq (.region [⟨some 6,.mov (.t 0),none⟩,
 ⟨some 7,.len (.t 6),none⟩,
 ⟨some 8,.mov (.t 1),none⟩,
 ⟨some 9,.len (.t 8),none⟩,
 ⟨some 10,.bin .neq (.t 7) (.t 9),none⟩])
 (.cond (.t 10)
 (.seq (.region [⟨some 4,.mov (.c (.bool false)),none⟩])
 (.ret))
 (.skip)))
 (.seq (.seq (.region [⟨some 5,.mov (.c (.int .i64 0)),none⟩])
 (.block 0 (.loop xLU xUr)))
 (.seq (.region [⟨some 4,.mov (.c (.bool true)),none⟩])
 (.ret)))),
 [.tmp 4]⟩
def xX0 : ACode :=
 .seq (.seq (.region [⟨some 11,.mov (.t 5),none⟩,
 ⟨some 12,.mov (.t 0),none⟩,
 ⟨some 13,.len (.t 12),none⟩,
 ⟨some 14,.bin .lss (.t 11) (.t 13),none⟩])
 (.cond (.t 14)
 (.skip)
 (.exit 0)))
 (.seq (.block 1 (.seq (.draw 5 [⟨some 17,.mov (.t 0),none⟩,
 ⟨some 18,.mov (.t 5),none⟩,
 ⟨some 19,.iaddr 1 (.t 17) (.t 18),none⟩,
 ⟨some 20,.load false 1 (.t 19),none⟩,
 ⟨some 21,.mov (.t 1),none⟩,
 ⟨some 22,.mov (.t 5),none⟩,
 ⟨some 23,.iaddr 1 (.t 21) (.t 22),none⟩,
 ⟨some 24,.load false 1 (.t 23),none⟩,
 ⟨some 25,.bin .neq (.t 20) (.t 24),none⟩])
 (.cond (.t 25)
 (.seq (.region [⟨some 4,.mov (.c (.bool false)),none⟩])
 (.ret))
 (.skip))))
 (.region [⟨some 15,.mov (.t 5),none⟩,
 ⟨some 16,.bin .add (.t 15) (.c (.int .i64 1)),none⟩,
 ⟨some 5,.mov (.t 16),none⟩]))
def xZy : ACode := xX0
def xX1 : List Nat := [2,3,6,7,8,9,10,11,12,13,14,15,16,17,18,19,20,21,22,23,24,25]
def a24 : AFunc := ⟨26,
 .seq (.region [⟨some 4,.mov (.c (.bool false)),none⟩])
 (.seq (.seq (.region [⟨some 6,.mov (.t 0),none⟩,
 ⟨some 7,.len (.t 6),none⟩,
 ⟨some 8,.mov (.t 1),none⟩,
 ⟨some 9,.len (.t 8),none⟩,
 ⟨some 10,.bin .neq (.t 7) (.t 9),none⟩])
 (.cond (.t 10)
 (.seq (.region [⟨some 4,.mov (.c (.bool false)),none⟩])
 (.ret))
 (.skip)))
 (.seq (.seq (.region [⟨some 5,.mov (.c (.int .i64 0)),none⟩])
 (.block 0 (.loop xX1 xZy)))
 (.seq (.region [⟨some 4,.mov (.c (.bool true)),none⟩])
 (.ret)))),
 [.tmp 4]⟩
def a25 : AFunc := ⟨17,
 .seq (.region [⟨some 2,.box (.t 0),none⟩,
 ⟨some 3,.box (.t 1),none⟩,
 ⟨some 4,.mov (.c (.bool false)),none⟩])
 (.seq (.region [⟨some 5,.faddr 0 (.t 2),none⟩,
 ⟨some 6,.load false 1 (.t 5),none⟩,
 ⟨some 7,.faddr 0 (.t 3),none⟩,
 ⟨some 8,.load false 1 (.t 7),none⟩,
 ⟨some 9,.call 65 [(.t 6),(.t 8)],none⟩,
 ⟨some 10,.mov (.t 9),none⟩,
 ⟨some 11,.faddr 1 (.t 2),some (10,true)⟩,
 ⟨some 12,.load false 1 (.t 11),some (10,true)⟩,
 ⟨some 13,.faddr 1 (.t 3),some (10,true)⟩,
 ⟨some 14,.load false 1 (.t 13),some (10,true)⟩,
 ⟨some 15,.call 65 [(.t 12),(.t 14)],some (10,true)⟩,
 ⟨some 16,.pick (.t 10) (.t 15) (.c (.bool false)),none⟩,
 ⟨some 4,.mov (.t 16),none⟩])
 (.ret)),
 [.tmp 4]⟩
def a29 : AFunc := ⟨38,
 .seq (.region [⟨some 2,.box (.t 0),none⟩,
 ⟨some 3,.box (.t 1),none⟩,
 ⟨some 4,.mov (.c (.bool false)),none⟩])
 (.seq (.region [⟨some 5,.faddr 0 (.t 2),none⟩,
 ⟨some 6,.load false 1 (.t 5),none⟩,
 ⟨some 7,.faddr 0 (.t 3),none⟩,
 ⟨some 8,.load false 1 (.t 7),none⟩,
 ⟨some 9,.bin .eql (.t 6) (.t 8),none⟩,
 ⟨some 10,.mov (.t 9),none⟩,
 ⟨some 11,.faddr 1 (.t 2),some (10,true)⟩,
 ⟨some 12,.load false 1 (.t 11),some (10,true)⟩,
 ⟨some 13,.faddr 1 (.t 3),some (10,true)⟩,
 ⟨some 14,.load false 1 (.t 13),some (10,true)⟩,
 ⟨some 15,.bin .eql (.t 12) (.t 14),some (10,true)⟩,
 ⟨some 16,.pick (.t 10) (.t 15) (.c (.bool false)),none⟩,
 ⟨some 17,.mov (.t 16),none⟩,
 ⟨some 18,.faddr 2 (.t 2),some (17,true)⟩,
 ⟨some 19,.load false 1 (.t 18),some (17,true)⟩,
 ⟨some 20,.faddr 2 (.t 3),some (17,true)⟩,
 ⟨some 21,.load false 1 (.t 20),some (17,true)⟩,
 ⟨some 22,.bin .eql (.t 19) (.t 21),some (17,true)⟩,
 ⟨some 23,.pick (.t 17) (.t 22) (.c (.bool false)),none⟩,
 ⟨some 24,.mov (.t 23),none⟩,
 ⟨some 25,.faddr 3 (.t 2),some (24,true)⟩,
 ⟨some 26,.load false 1 (.t 25),some (24,true)⟩,
 ⟨some 27,.faddr 3 (.t 3),some (24,true)⟩,
 ⟨some 28,.load false 1 (.t 27),some (24,true)⟩,
 ⟨some 29,.call 66 [(.t 26),(.t 28)],some (24,true)⟩,
 ⟨some 30,.pick (.t 24) (.t 29) (.c (.bool false)),none⟩,
 ⟨some 31,.mov (.t 30),none⟩,
 ⟨some 32,.faddr 4 (.t 2),some (31,true)⟩,
 ⟨some 33,.load false 1 (.t 32),some (31,true)⟩,
 ⟨some 34,.faddr 4 (.t 3),some (31,true)⟩,
 ⟨some 35,.load false 1 (.t 34),some (31,true)⟩,
 ⟨some 36,.call 67 [(.t 33),(.t 35)],some (31,true)⟩,
 ⟨some 37,.pick (.t 31) (.t 36) (.c (.bool false)),none⟩,
 ⟨some 4,.mov (.t 37),none⟩])
 (.ret)),
 [.tmp 4]⟩
def xX2 : ACode :=
 .block 1 (.seq (.seq (.region [⟨some 45,.load true 2 (.t 8),none⟩,
 ⟨some 46,.icall (.c (.func 68 [])) [(.t 9),(.t 45)],none⟩,
 ⟨some 44,.mov (.t 46),none⟩,
 ⟨some 47,.ext 0 (.t 44),none⟩,
 ⟨some 48,.ext 1 (.t 44),none⟩,
 ⟨some 10,.box (.c (.agg [.sl true 0 [],.sl true 0 []])),none⟩,
 ⟨none,.store 2 (.t 10) (.t 47),none⟩,
 ⟨some 11,.mov (.t 48),none⟩])
 (.seq (.region [⟨some 49,.mov (.t 11),none⟩])
 (.cond (.t 49)
 (.seq (.region [⟨some 50,.load true 2 (.t 10),none⟩,
 ⟨none,.store 2 (.t 4) (.t 50),none⟩,
 ⟨some 5,.mov (.c (.int .i64 0)),none⟩])
 (.ret))
 (.skip))))
 (.seq (.region [⟨some 51,.faddr 3 (.t 3),none⟩,
 ⟨some 52,.load false 1 (.t 51),none⟩,
 ⟨some 53,.faddr 1 (.t 8),none⟩,
 ⟨some 54,.load false 1 (.t 53),none⟩,
 ⟨some 55,.iaddr 1 (.t 52) (.t 54),none⟩,
 ⟨some 56,.load false 1 (.t 55),none⟩,
 ⟨some 12,.mov (.t 56),none⟩])
 (.seq (.region [⟨some 57,.faddr 4 (.t 2),none⟩,
 ⟨some 58,.load false 1 (.t 57),none⟩,
 ⟨some 59,.faddr 0 (.t 8),none⟩,
 ⟨some 60,.load false 1 (.t 59),none⟩,
 ⟨some 61,.iaddr 1 (.t 58) (.t 60),none⟩,
 ⟨some 62,.load false 1 (.t 61),none⟩,
 ⟨some 63,.mov (.t 12),none⟩,
 ⟨some 64,.iaddr 1 (.t 62) (.t 63),none⟩,
 ⟨some 65,.load false 1 (.t 64),none⟩,
 ⟨some 13,.mov (.t 65),none⟩])
 (.seq (.draw 4 [⟨some 66,.faddr 1 (.t 9),none⟩,
 ⟨some 67,.load false 1 (.t 66),none⟩,
 ⟨some 68,.mov (.t 12),none⟩,
 ⟨some 69,.mov (.t 13),none⟩,
 ⟨some 70,.faddr 0 (.t 2),none⟩,
 ⟨some 71,.load false 1 (.t 70),none⟩,
 ⟨some 72,.bin .shl (.t 69) (.t 71),none⟩,
 ⟨some 73,.bin .or (.t 68) (.t 72),none⟩,
 ⟨some 74,.bslice true [.int .u8 0] 1 1 [(0,(.t 73))],none⟩,
 ⟨some 75,.append false 1 1 (.t 67) (.t 74),none⟩,
 ⟨some 76,.faddr 1 (.t 9),none⟩,
 ⟨none,.store 1 (.t 76) (.t 75),none⟩])
 (.draw 15 [⟨some 77,.faddr 3 (.t 2),none⟩,
 ⟨some 78,.load false 1 (.t 77),none⟩,
 ⟨some 79,.faddr 0 (.t 8),none⟩,
 ⟨some 80,.load false 1 (.t 79),none⟩,
 ⟨some 81,.iaddr 1 (.t 78) (.t 80),none⟩,
 ⟨some 82,.load false 1 (.t 81),none⟩,
 ⟨some 83,.mov (.t 12),none⟩,
 ⟨some 84,.iaddr 1 (.t 82) (.t 83),none⟩,
 ⟨some 85,.load false 1 (.t 84),none⟩,
 ⟨some 86,.faddr 4 (.t 3),none⟩,
 ⟨some 87,.load false 1 (.t 86),none⟩,
 ⟨some 88,.faddr 1 (.t 8),none⟩,
 ⟨some 89,.load false 1 (.t 88),none⟩,
 ⟨some 90,.iaddr 1 (.t 87) (.t 89),none⟩,
 ⟨some 91,.load false 1 (.t 90),none⟩,
 ⟨some 92,.mov (.t 13),none⟩,
 ⟨some 93,.iaddr 1 (.t 91) (.t 92),none⟩,
 ⟨some 94,.load false 1 (.t 93),none⟩,
 ⟨some 95,.build [.int .i64 0,.int .i64 0] [(0,1,(.t 85)),(1,1,(.t 94))],none⟩,
 ⟨none,.store 2 (.t 8) (.t 95),none⟩])))))
def xZz : ACode := xX2
def xX3 : List Nat := [0,1,6,7,10,11,12,13,14,15,16,17,18,19,20,21,22,23,24,25,26,27,28,29,30,31,32,33,34,35,36,37,38,39,40,41,42,43,44,45,46,47,48,49,50,51,52,53,54,55,56,57,58,59,60,61,62,63,64,65,66,67,68,69,70,71,72,73,74,75,76,77,78,79,80,81,82,83,84,85,86,87,88,89,90,91,92,93,94,95]
def a31 : AFunc := ⟨96,
 .seq (.region [⟨some 2,.box (.t 0),none⟩,
 ⟨some 3,.box (.t 1),none⟩,
 ⟨some 4,.box (.c (.agg [.sl true 0 [],.sl true 0 []])),none⟩,
 ⟨some 5,.mov (.c (.int .i64 0)),none⟩])
 (.seq (.seq (.region [⟨some 14,.load true 5 (.t 2),none⟩,
 ⟨some 15,.call 21 [(.t 14)],none⟩,
 ⟨some 6,.mov (.t 15),none⟩])
 (.seq (.region [⟨some 16,.mov (.t 6),none⟩,
 ⟨some 17,.bin .neq (.t 16) (.c (.int .i64 0)),none⟩])
 (.cond (.t 17)
 (.seq (.region [⟨some 18,.build [.sl true 0 [],.sl true 0 []] [],none⟩,
 ⟨some 19,.mov (.t 6),none⟩,
 ⟨none,.store 2 (.t 4) (.t 18),none⟩,
 ⟨some 5,.mov (.t 19),none⟩])
 (.ret))
 (.skip))))
 (.seq (.seq (.region [⟨some 20,.load true 5 (.t 3),none⟩,
 ⟨some 21,.call 33 [(.t 20)],none⟩,
 ⟨some 7,.mov (.t 21),none⟩])
 (.seq (.region [⟨some 22,.mov (.t 7),none⟩,
 ⟨some 23,.bin .neq (.t 22) (.c (.int .i64 0)),none⟩])
 (.cond (.t 23)
 (.seq (.region [⟨some 24,.build [.sl true 0 [],.sl true 0 []] [],none⟩,
 ⟨some 25,.mov (.t 7),none⟩,
 ⟨none,.store 2 (.t 4) (.t 24),none⟩,
 ⟨some 5,.mov (.t 25),none⟩])
 (.ret))
 (.skip))))
 (.seq (.seq (.region [⟨some 26,.faddr 0 (.t 2),none⟩,
 ⟨some 27,.load false 1 (.t 26),none⟩,
 ⟨some 28,.faddr 0 (.t 3),none⟩,
 ⟨some 29,.load false 1 (.t 28),none⟩,
 ⟨some 30,.bin .neq (.t 27) (.t 29),none⟩,
 ⟨some 31,.mov (.t 30),none⟩,
 ⟨some 32,.faddr 1 (.t 2),some (31,false)⟩,
 ⟨some 33,.load false 1 (.t 32),some (31,false)⟩,
 ⟨some 34,.faddr 1 (.t 3),some (31,false)⟩,
 ⟨some 35,.load false 1 (.t 34),some (31,false)⟩,
 ⟨some 36,.bin .neq (.t 33) (.t 35),some (31,false)⟩,
 ⟨some 37,.pick (.t 31) (.c (.bool true)) (.t 36),none⟩])
 (.cond (.t 37)
 (.seq (.region [⟨some 38,.build [.sl true 0 [],.sl true 0 []] [],none⟩,
 ⟨none,.store 2 (.t 4) (.t 38),none⟩,
 ⟨some 5,.mov (.c (.int .i64 16)),none⟩])
 (.ret))
 (.skip)))
 (.seq (.region [⟨some 39,.faddr 2 (.t 2),none⟩,
 ⟨some 40,.load false 1 (.t 39),none⟩,
 ⟨some 41,.faddr 2 (.t 3),none⟩,
 ⟨some 42,.load false 1 (.t 41),none⟩,
 ⟨some 43,.build [.int .i64 0,.int .i64 0] [(0,1,(.t 40)),(1,1,(.t 42))],none⟩,
 ⟨some 8,.box (.c (.agg [.int .i64 0,.int .i64 0])),none⟩,
 ⟨none,.store 2 (.t 8) (.t 43),none⟩])
 (.seq (.region [⟨some 9,.box (.c (.agg [.nilm,.sl true 0 []])),none⟩])
 (.block 0 (.loop xX3 xZz))))))),
 [.cell 4 true 2,.tmp 5]⟩
def xX4 : ACode :=
 .seq (.region [⟨some 28,.bin .lss (.t 27) (.t 26),none⟩])
 (.seq (.cond (.t 28)
 (.skip)
 (.exit 0))
 (.seq (.block 1 (.seq (.region [⟨some 29,.mov (.t 27),none⟩,
 ⟨some 30,.iaddr 1 (.t 25) (.t 27),none⟩,
 ⟨some 31,.load false 1 (.t 30),none⟩,
 ⟨some 5,.mov (.t 29),none⟩,
 ⟨some 6,.mov (.t 31),none⟩])
 (.block 2 (.seq (.region [⟨some 33,.mov (.t 6),none⟩,
 ⟨some 34,.len (.t 33),none⟩,
 ⟨some 35,.faddr 1 (.t 1),none⟩,
 ⟨some 36,.load false 1 (.t 35),none⟩,
 ⟨some 37,.bin .shl (.c (.int .i64 1)) (.t 36),none⟩,
 ⟨some 38,.bin .neq (.t 34) (.t 37),none⟩,
 ⟨some 32,.mov (.t 38),none⟩])
 (.cond (.t 32)
 (.seq (.region [⟨some 2,.mov (.c (.int .i64 2)),none⟩])
 (.ret))
 (.seq (.region [⟨some 40,.mov (.t 6),none⟩,
 ⟨some 41,.mov (.t 3),none⟩,
 ⟨some 42,.call 60 [(.t 40),(.t 41)],none⟩,
 ⟨some 39,.mov (.t 42),none⟩])
 (.cond (.t 39)
 (.seq (.region [⟨some 2,.mov (.c (.int .i64 8)),none⟩])
 (.ret))
 (.seq (.draw 6 [⟨some 44,.faddr 3 (.t 1),none⟩,
 ⟨some 45,.load false 1 (.t 44),none⟩,
 ⟨some 46,.mov (.t 5),none⟩,
 ⟨some 47,.iaddr 1 (.t 45) (.t 46),none⟩,
 ⟨some 48,.load false 1 (.t 47),none⟩,
 ⟨some 49,.conv .i64 (.t 48),none⟩,
 ⟨some 50,.faddr 0 (.t 1),none⟩,
 ⟨some 51,.load false 1 (.t 50),none⟩,
 ⟨some 52,.bin .shl (.c (.int .i64 1)) (.t 51),none⟩,
 ⟨some 53,.bin .geq (.t 49) (.t 52),none⟩,
 ⟨some 43,.mov (.t 53),none⟩])
 (.cond (.t 43)
 (.seq (.region [⟨some 2,.mov (.c (.int .i64 1)),none⟩])
 (.ret))
 (.skip))))))))))
 (.region [⟨some 54,.bin .add (.t 27) (.c (.int .i64 1)),none⟩,
 ⟨some 27,.mov (.t 54),none⟩])))
def xZA : ACode := xX4
def xX5 : List Nat := [0,4,5,6,7,8,9,10,11,12,13,14,15,16,17,18,19,20,21,22,23,24,28,29,30,31,32,33,34,35,36,37,38,39,40,41,42,43,44,45,46,47,48,49,50,51,52,53,54]
def a33 : AFunc := ⟨55,
 .seq (.region [⟨some 1,.box (.t 0),none⟩,
 ⟨some 2,.mov (.c (.int .i64 0)),none⟩])
 (.seq (.region [⟨some 7,.faddr 4 (.t 1),none⟩,
 ⟨some 8,.load false 1 (.t 7),none⟩,
 ⟨some 9,.len (.t 8),none⟩,
 ⟨some 3,.mov (.t 9),none⟩])
 (.seq (.seq (.region [⟨some 10,.faddr 0 (.t 1),none⟩,
 ⟨some 11,.load false 1 (.t 10),none⟩,
 ⟨some 12,.faddr 1 (.t 1),none⟩,
 ⟨some 13,.load false 1 (.t 12),none⟩,
 ⟨some 14,.mov (.t 3),none⟩,
 ⟨some 15,.faddr 3 (.t 1),none⟩,
 ⟨some 16,.load false 1 (.t 15),none⟩,
 ⟨some 17,.len (.t 16),none⟩,
 ⟨some 18,.faddr 2 (.t 1),none⟩,
 ⟨some 19,.load false 1 (.t 18),none⟩,
 ⟨some 20,.call 59 [(.t 11),(.t 13),(.t 14),(.t 17),(.t 19)],none⟩,
 ⟨some 4,.mov (.t 20),none⟩])
 (.seq (.region [⟨some 21,.mov (.t 4),none⟩,
 ⟨some 22,.bin .neq (.t 21) (.c (.int .i64 0)),none⟩])
 (.cond (.t 22)
 (.seq (.region [⟨some 23,.mov (.t 4),none⟩,
 ⟨some 2,.mov (.t 23),none⟩])
 (.ret))
 (.skip))))
 (.seq (.seq (.region [⟨some 24,.faddr 4 (.t 1),none⟩,
 ⟨some 25,.load false 1 (.t 24),none⟩,
 ⟨some 26,.len (.t 25),none⟩,
 ⟨some 27,.mov (.c (.int .i64 0)),none⟩])
 (.block 0 (.loop xX5 xZA)))
 (.seq (.region [⟨some 2,.mov (.c (.int .i64 0)),none⟩])
 (.ret))))),
 [.tmp 2]⟩
def xX6 : ACode :=
 .seq (.region [⟨some 30,.bin .lss (.t 29) (.t 28),none⟩])
 (.seq (.cond (.t 30)
 (.skip)
 (.exit 0))
 (.seq (.block 1 (.seq (.region [⟨some 31,.mov (.t 29),none⟩,
 ⟨some 32,.iaddr 1 (.t 27) (.t 29),none⟩,
 ⟨some 33,.load false 1 (.t 32),none⟩,
 ⟨some 7,.mov (.t 31),none⟩,
 ⟨some 8,.mov (.t 33),none⟩])
 (.region [⟨some 34,.load false 1 (.t 6),none⟩,
 ⟨some 35,.mov (.t 8),none⟩,
 ⟨some 36,.mov (.t 7),none⟩,
 ⟨some 37,.iaddr 1 (.t 34) (.t 35),none⟩,
 ⟨none,.store 1 (.t 37) (.t 36),none⟩])))
 (.region [⟨some 38,.bin .add (.t 29) (.c (.int .i64 1)),none⟩,
 ⟨some 29,.mov (.t 38),none⟩])))
def xZB : ACode := xX6
def xX7 : List Nat := [0,3,4,7,8,9,10,11,12,13,14,15,16,17,18,19,20,21,22,23,24,25,26,30,31,32,33,34,35,36,37,38,39,40,41,42,43,44,45,46,47,48,49,50,51,52,53,54,55,56,57,58,59,60,61,62,63,64,65,66,67,68,69,70,71,72,73,74,75,76,77,78,79,80,81,82,83,84,85,86,87,88,89,90,91,92,93,94,95,96,97,98,99,100,101,102,103,104,105]
def xX8 : ACode :=
 .seq (.region [⟨some 72,.bin .lss (.t 71) (.t 70),none⟩])
 (.seq (.cond (.t 72)
 (.skip)
 (.exit 4))
 (.seq (.block 5 (.seq (.region [⟨some 73,.mov (.t 71),none⟩,
 ⟨some 74,.iaddr 1 (.t 69) (.t 71),none⟩,
 ⟨some 75,.load false 1 (.t 74),none⟩,
 ⟨some 14,.mov (.t 73),none⟩,
 ⟨some 15,.mov (.t 75),none⟩])
 (.region [⟨some 77,.mov (.t 13),none⟩,
 ⟨some 78,.mov (.t 14),none⟩,
 ⟨some 79,.load false 1 (.t 5),none⟩,
 ⟨some 80,.mov (.t 15),none⟩,
 ⟨some 81,.iaddr 1 (.t 79) (.t 80),none⟩,
 ⟨some 82,.load false 1 (.t 81),none⟩,
 ⟨some 83,.icall (.c (.func 70 [])) [(.t 9),(.t 82)],none⟩,
 ⟨some 76,.mov (.t 83),none⟩,
 ⟨some 84,.ext 0 (.t 76),none⟩,
 ⟨some 85,.ext 1 (.t 76),none⟩,
 ⟨some 86,.iaddr 1 (.t 77) (.t 78),none⟩,
 ⟨none,.store 1 (.t 86) (.t 84),none⟩])))
 (.region [⟨some 87,.bin .add (.t 71) (.c (.int .i64 1)),none⟩,
 ⟨some 71,.mov (.t 87),none⟩])))
def xZC : ACode := xX8
def xX9 : List Nat := [0,3,4,6,7,8,10,11,14,15,16,17,18,19,20,21,22,23,24,25,26,27,28,29,30,31,32,33,34,35,36,37,38,39,40,41,42,43,44,45,46,47,48,49,50,51,52,53,54,55,56,57,58,59,60,61,62,63,64,65,66,67,68,72,73,74,75,76,77,78,79,80,81,82,83,84,85,86,87,88,89,90,91,92,93,94,95,96,97,98,99,100,101,102,103,104,105]
def xWJ : ACode :=
 .region [⟨some 11,.mov (.t 53),none⟩]
def xYa : ACode :=
 .block 3 (.seq (.region [⟨some 54,.load false 1 (.t 6),none⟩,
 ⟨some 55,.mov (.t 11),none⟩,
 ⟨some 56,.iaddr 1 (.t 54) (.t 55),none⟩,
 ⟨some 57,.load false 1 (.t 56),none⟩,
 ⟨some 12,.mov (.t 57),none⟩])
 (.seq (.region [⟨some 58,.faddr 3 (.t 1),none⟩,
 ⟨some 59,.load false 1 (.t 58),none⟩,
 ⟨some 60,.mov (.t 12),none⟩,
 ⟨some 61,.iaddr 1 (.t 59) (.t 60),none⟩,
 ⟨some 62,.load false 1 (.t 61),none⟩,
 ⟨some 63,.len (.t 62),none⟩,
 ⟨some 64,.mkslice false [.int .i64 0] 8 (.t 63) (.t 63),none⟩,
 ⟨some 13,.mov (.t 64),none⟩])
 (.seq (.seq (.region [⟨some 65,.faddr 3 (.t 1),none⟩,
 ⟨some 66,.load false 1 (.t 65),none⟩,
 ⟨some 67,.mov (.t 12),none⟩,
 ⟨some 68,.iaddr 1 (.t 66) (.t 67),none⟩,
 ⟨some 69,.load false 1 (.t 68),none⟩,
 ⟨some 70,.len (.t 69),none⟩,
 ⟨some 71,.mov (.c (.int .i64 0)),none⟩])
 (.block 4 (.loop xX9 xZC)))
 (.fzs 13 (.drawh [(93,(1,13))] [] [(93,(1,(89,0))),(95,(1,(89,0))),(98,(1,(89,0)))] 11 [⟨some 88,.faddr 3 (.t 2),none⟩,
 ⟨some 89,.load false 1 (.t 88),none⟩,
 ⟨some 90,.mov (.t 13),none⟩,
 ⟨some 91,.dslice [.sl true 0 []] 1 1 [(0,(.t 90))],none⟩,
 ⟨some 93,.faddr 4 (.t 2),none⟩,
 ⟨some 94,.load false 1 (.t 93),none⟩,
 ⟨some 95,.faddr 4 (.t 1),none⟩,
 ⟨some 96,.load false 1 (.t 95),none⟩,
 ⟨some 97,.mov (.t 12),none⟩,
 ⟨some 98,.iaddr 1 (.t 96) (.t 97),none⟩,
 ⟨some 99,.load false 1 (.t 98),none⟩,
 ⟨some 92,.append false 1 24 (.t 89) (.t 91),none⟩,
 ⟨some 103,.faddr 3 (.t 2),none⟩,
 ⟨some 100,.call 72 [(.t 99)],none⟩,
 ⟨some 101,.dslice [.sl true 0 []] 1 1 [(0,(.t 100))],none⟩,
 ⟨some 102,.append false 1 24 (.t 94) (.t 101),none⟩,
 ⟨none,.store 1 (.t 103) (.t 92),none⟩,
 ⟨some 104,.faddr 4 (.t 2),none⟩,
 ⟨none,.store 1 (.t 104) (.t 102),none⟩])))))
def xYb : ACode := xWJ
def xZD : ACode := xYa
def a35 : AFunc := ⟨106,
 .seq (.region [⟨some 1,.box (.t 0),none⟩,
 ⟨some 2,.box (.c (.agg [.int .i64 0,.int .i64 0,.int .i64 0,.sl true 0 [],.sl true 0 []])),none⟩,
 ⟨some 3,.mov (.c (.int .i64 0)),none⟩])
 (.seq (.seq (.region [⟨some 16,.load true 5 (.t 1),none⟩,
 ⟨some 17,.call 21 [(.t 16)],none⟩,
 ⟨some 4,.mov (.t 17),none⟩])
 (.seq (.region [⟨some 18,.mov (.t 4),none⟩,
 ⟨some 19,.bin .neq (.t 18) (.c (.int .i64 0)),none⟩])
 (.cond (.t 19)
 (.seq (.region [⟨some 20,.load true 5 (.t 2),none⟩,
 ⟨some 21,.mov (.t 4),none⟩,
 ⟨none,.store 5 (.t 2) (.t 20),none⟩,
 ⟨some 3,.mov (.t 21),none⟩])
 (.ret))
 (.skip))))
 (.seq (.region [⟨some 22,.load true 5 (.t 1),none⟩,
 ⟨some 23,.call 69 [(.t 22)],none⟩,
 ⟨some 5,.box (.c (.sl true 0 [])),none⟩,
 ⟨none,.store 1 (.t 5) (.t 23),none⟩])
 (.seq (.region [⟨some 24,.load false 1 (.t 5),none⟩,
 ⟨some 25,.len (.t 24),none⟩,
 ⟨some 26,.mkslice false [.int .i64 0] 8 (.t 25) (.t 25),none⟩,
 ⟨some 6,.box (.c (.sl true 0 [])),none⟩,
 ⟨none,.store 1 (.t 6) (.t 26),none⟩])
 (.seq (.seq (.region [⟨some 27,.load false 1 (.t 5),none⟩,
 ⟨some 28,.len (.t 27),none⟩,
 ⟨some 29,.mov (.c (.int .i64 0)),none⟩])
 (.block 0 (.loop xX7 xZB)))
 (.seq (.drawl [(41,(1,(43,1)))] 4 [⟨some 39,.faddr 0 (.t 1),none⟩,
 ⟨some 40,.load false 1 (.t 39),none⟩,
 ⟨some 41,.faddr 1 (.t 1),none⟩,
 ⟨some 42,.load false 1 (.t 41),none⟩,
 ⟨some 43,.faddr 0 (.t 2),none⟩,
 ⟨none,.store 1 (.t 43) (.t 40),none⟩,
 ⟨some 44,.faddr 1 (.t 2),none⟩,
 ⟨none,.store 1 (.t 44) (.t 42),none⟩])
 (.seq (.region [⟨some 9,.box (.c (.agg [.nilm,.sl true 0 []])),none⟩])
 (.seq (.region [⟨some 45,.load false 1 (.t 5),none⟩,
 ⟨some 46,.faddr 2 (.t 1),none⟩,
 ⟨some 47,.load false 1 (.t 46),none⟩,
 ⟨some 48,.iaddr 1 (.t 45) (.t 47),none⟩,
 ⟨some 49,.load false 1 (.t 48),none⟩,
 ⟨some 50,.icall (.c (.func 70 [])) [(.t 9),(.t 49)],none⟩])
 (.seq (.seq (.region [⟨some 51,.icall (.c (.func 71 [])) [(.t 9)],none⟩])
 (.block 2 (.range (.t 51) [52,53] xYb xZD)))
 (.seq (.region [⟨some 105,.load true 5 (.t 2),none⟩,
 ⟨none,.store 5 (.t 2) (.t 105),none⟩,
 ⟨some 3,.mov (.c (.int .i64 0)),none⟩])
 (.ret)))))))))),
 [.cell 2 true 5,.tmp 3]⟩
def xFM : ACode :=
 .seq (.region [⟨some 23,.bin .lss (.t 22) (.t 21),none⟩])
 (.seq (.cond (.t 23)
 (.skip)
 (.exit 0))
 (.seq (.block 1 (.seq (.region [⟨some 24,.iaddr 5 (.t 20) (.t 22),none⟩,
 ⟨some 25,.load true 5 (.t 24),none⟩,
 ⟨some 8,.box (.c (.agg [.int .i64 0,.int .i64 0,.int .i64 0,.sl true 0 [],.sl true 0 []])),none⟩,
 ⟨none,.store 5 (.t 8) (.t 25),none⟩])
 (.seq (.region [⟨some 26,.load true 5 (.t 8),none⟩,
 ⟨some 27,.call 21 [(.t 26)],none⟩,
 ⟨some 9,.mov (.t 27),none⟩])
 (.seq (.region [⟨some 28,.mov (.t 9),none⟩,
 ⟨some 29,.bin .neq (.t 28) (.c (.int .i64 0)),none⟩])
 (.cond (.t 29)
 (.seq (.region [⟨some 30,.mov (.t 9),none⟩,
 ⟨none,.store 1 (.t 4) (.c (.sl true 0 [])),none⟩,
 ⟨none,.store 1 (.t 5) (.c (.bool false)),none⟩,
 ⟨none,.store 1 (.t 6) (.t 30),none⟩])
 (.ret))
 (.skip))))))
 (.region [⟨some 31,.bin .add (.t 22) (.c (.int .i64 1)),none⟩,
 ⟨some 22,.mov (.t 31),none⟩])))
def xWK : ACode := xFM
def xOq : List Nat := [0,1,7,8,9,10,11,12,13,14,15,16,17,18,19,23,24,25,26,27,28,29,30,31,32,33,34,35,36,37,38,39,40,41,42,43,44,45,46,47,48,49,50,51,52,53,54,55,56,57,58,59,60,61,62,63,64,65,66,67,68,69,70,71,72,73,74,75,76,77,78,79,80,81,82,83,84,85,86,87,88,89,90,91,92,93,94,95,96,97,98,99,100,101,102,103,104,105,106,107,108,109,110,111,112,113,114,115,116,117]
abbrev xRC (s2 s3 s4 s5 s6 s20 s21 s22 : AV) : List AV := [.any,.any,s2,s3,s4,s5,s6,.any,.any,.any,.any,.any,.any,.any,.any,.any,.any,.any,.any,.any,s20,s21,s22,.any,.any,.any,.any,.any,.any,.any,.any,.any,.any,.any,.any,.any,.any,.any,.any,.any,.any,.any,.any,.any,.any,.any,.any,.any,.any,.any,.any,.any,.any,.any,.any,.any,.any,.any,.any,.any,.any,.any,.any,.any,.any,.any,.any,.any,.any,.any,.any,.any,.any,.any,.any,.any,.any,.any,.any,.any,.any,.any,.any,.any,.any,.any,.any,.any,.any,.any,.any,.any,.any,.any,.any,.any,.any,.any,.any,.any,.any,.any,.any,.any,.any,.any,.any,.any,.any,.any,.any,.any,.any,.any,.any,.any,.any,.any]
theorem xIV (s0 s1 s2 s3 s4 s5 s6 s7 s8 s9 s10 s11 s12 s13 s14 s15 s16 s17 s18 s19 s20 s21 s22 s23 s24 s25 s26 s27 s28 s29 s30 s31 s32 s33 s34 s35 s36 s37 s38 s39 s40 s41 s42 s43 s44 s45 s46 s47 s48 s49 s50 s51 s52 s53 s54 s55 s56 s57 s58 s59 s60 s61 s62 s63 s64 s65 s66 s67 s68 s69 s70 s71 s72 s73 s74 s75 s76 s77 s78 s79 s80 s81 s82 s83 s84 s85 s86 s87 s88 s89 s90 s91 s92 s93 s94 s95 s96 s97 s98 s99 s100 s101 s102 s103 s104 s105 s106 s107 s108 s109 s110 s111 s112 s113 s114 s115 s116 s117 : AV) : xAM xOq [s0,s1,s2,s3,s4,s5,s6,s7,s8,s9,s10,s11,s12,s13,s14,s15,s16,s17,s18,s19,s20,s21,s22,s23,s24,s25,s26,s27,s28,s29,s30,s31,s32,s33,s34,s35,s36,s37,s38,s39,s40,s41,s42,s43,s44,s45,s46,s47,s48,s49,s50,s51,s52,s53,s54,s55,s56,s57,s58,s59,s60,s61,s62,s63,s64,s65,s66,s67,s68,s69,s70,s71,s72,s73,s74,s75,s76,s77,s78,s79,s80,s81,s82,s83,s84,s85,s86,s87,s88,s89,s90,s91,s92,s93,s94,s95,s96,s97,s98,s99,s100,s101,s102,s103,s104,s105,s106,s107,s108,s109,s110,s111,s112,s113,s114,s115,s116,s117] = xRC s2 s3 s4 s5 s6 s20 s21 s22 := by kernel_rfl
theorem xIW {prog : Nat → Option AFunc} (s2 s3 s4 s5 s6 s20 s21 s22 : AV) (H : Heap) : (lim prog).loop xOq xWK ⟨xRC s2 s3 s4 s5 s6 s20 s21 s22,H⟩ = xCh (lim prog) xOq xWK (run (lim prog) xFM ⟨xRC s2 s3 s4 s5 s6 s20 s21 s22,H⟩) := xAy _ _ _ _ (by kernel_rfl)
def xIX : ACode :=
 .seq (.region [⟨some 58,.bin .lss (.t 57) (.t 56),none⟩])
 (.seq (.cond (.t 58)
 (.skip)
 (.exit 4))
 (.seq (.block 5 (.seq (.region [⟨some 59,.mov (.t 57),none⟩,
 ⟨some 14,.mov (.t 59),none⟩])
 (.seq (.region [⟨some 60,.load false 1 (.t 11),none⟩,
 ⟨some 61,.mov (.t 12),none⟩,
 ⟨some 62,.iaddr 1 (.t 60) (.t 61),none⟩,
 ⟨some 63,.load false 1 (.t 62),none⟩,
 ⟨some 64,.mov (.t 14),none⟩,
 ⟨some 65,.conv .u8 (.t 64),none⟩,
 ⟨some 66,.bslice true [.int .u8 0] 1 1 [(0,(.t 65))],none⟩,
 ⟨some 67,.bslice true [.sl true 0 []] 1 2 [(0,(.t 63)),(1,(.t 66))],none⟩,
 ⟨some 68,.call 76 [(.t 67)],none⟩,
 ⟨some 15,.mov (.t 68),none⟩])
 (.seq (.seq (.draw 15 [⟨some 69,.faddr 4 (.t 2),none⟩,
 ⟨some 70,.load false 1 (.t 69),none⟩,
 ⟨some 71,.arrat 1 2 (.t 13) (.c (.int .i64 0)),none⟩,
 ⟨some 72,.load false 1 (.t 71),none⟩,
 ⟨some 73,.iaddr 1 (.t 70) (.t 72),none⟩,
 ⟨some 74,.load false 1 (.t 73),none⟩,
 ⟨some 75,.mov (.t 14),none⟩,
 ⟨some 76,.iaddr 1 (.t 74) (.t 75),none⟩,
 ⟨some 77,.load false 1 (.t 76),none⟩,
 ⟨some 78,.faddr 4 (.t 3),none⟩,
 ⟨some 79,.load false 1 (.t 78),none⟩,
 ⟨some 80,.arrat 1 2 (.t 13) (.c (.int .i64 1)),none⟩,
 ⟨some 81,.load false 1 (.t 80),none⟩,
 ⟨some 82,.iaddr 1 (.t 79) (.t 81),none⟩,
 ⟨some 83,.load false 1 (.t 82),none⟩,
 ⟨some 84,.mov (.t 14),none⟩,
 ⟨some 85,.iaddr 1 (.t 83) (.t 84),none⟩,
 ⟨some 86,.load false 1 (.t 85),none⟩,
 ⟨some 87,.bin .neq (.t 77) (.t 86),none⟩])
 (.cond (.t 87)
 (.seq (.region [⟨some 88,.mov (.t 15),none⟩,
 ⟨none,.store 1 (.t 4) (.t 88),none⟩,
 ⟨none,.store 1 (.t 5) (.c (.bool false)),none⟩,
 ⟨none,.store 1 (.t 6) (.c (.int .i64 0)),none⟩])
 (.ret))
 (.skip)))
 (.seq (.draw 15 [⟨some 90,.faddr 3 (.t 2),none⟩,
 ⟨some 91,.load false 1 (.t 90),none⟩,
 ⟨some 92,.arrat 1 2 (.t 13) (.c (.int .i64 0)),none⟩,
 ⟨some 93,.load false 1 (.t 92),none⟩,
 ⟨some 94,.iaddr 1 (.t 91) (.t 93),none⟩,
 ⟨some 95,.load false 1 (.t 94),none⟩,
 ⟨some 96,.mov (.t 14),none⟩,
 ⟨some 97,.iaddr 1 (.t 95) (.t 96),none⟩,
 ⟨some 98,.load false 1 (.t 97),none⟩,
 ⟨some 99,.faddr 3 (.t 3),none⟩,
 ⟨some 100,.load false 1 (.t 99),none⟩,
 ⟨some 101,.arrat 1 2 (.t 13) (.c (.int .i64 1)),none⟩,
 ⟨some 102,.load false 1 (.t 101),none⟩,
 ⟨some 103,.iaddr 1 (.t 100) (.t 102),none⟩,
 ⟨some 104,.load false 1 (.t 103),none⟩,
 ⟨some 105,.mov (.t 14),none⟩,
 ⟨some 106,.iaddr 1 (.t 104) (.t 105),none⟩,
 ⟨some 107,.load false 1 (.t 106),none⟩,
 ⟨some 108,.build [.int .i64 0,.int .i64 0] [(0,1,(.t 98)),(1,1,(.t 107))],none⟩,
 ⟨some 109,.icall (.c (.func 74 [])) [(.t 10),(.t 108)],none⟩,
 ⟨some 89,.mov (.t 109),none⟩,
 ⟨some 110,.ext 0 (.t 89),none⟩,
 ⟨some 111,.ext 1 (.t 89),none⟩,
 ⟨some 16,.mov (.t 110),none⟩,
 ⟨some 17,.mov (.t 111),none⟩])
 (.seq (.region [⟨some 112,.mov (.t 17),none⟩])
 (.cond (.t 112)
 (.region [⟨some 113,.load false 1 (.t 11),none⟩,
 ⟨some 114,.mov (.t 15),none⟩,
 ⟨some 115,.bslice true [.sl true 0 []] 1 1 [(0,(.t 114))],none⟩,
 ⟨some 116,.append false 1 24 (.t 113) (.t 115),none⟩,
 ⟨none,.store 1 (.t 11) (.t 116),none⟩])
 (.skip))))))))
 (.region [⟨some 117,.bin .add (.t 57) (.c (.int .i64 1)),none⟩,
 ⟨some 57,.mov (.t 117),none⟩])))
def xFp : ACode := xIX
def xCt : List Nat := [0,1,7,8,9,14,15,16,17,18,19,20,21,22,23,24,25,26,27,28,29,30,31,32,33,34,35,36,37,38,39,40,41,42,43,44,45,46,47,48,49,50,51,52,53,54,55,58,59,60,61,62,63,64,65,66,67,68,69,70,71,72,73,74,75,76,77,78,79,80,81,82,83,84,85,86,87,88,89,90,91,92,93,94,95,96,97,98,99,100,101,102,103,104,105,106,107,108,109,110,111,112,113,114,115,116,117]
abbrev xIY (s2 s3 s4 s5 s6 s10 s11 s12 s13 s56 s57 : AV) : List AV := [.any,.any,s2,s3,s4,s5,s6,.any,.any,.any,s10,s11,s12,s13,.any,.any,.any,.any,.any,.any,.any,.any,.any,.any,.any,.any,.any,.any,.any,.any,.any,.any,.any,.any,.any,.any,.any,.any,.any,.any,.any,.any,.any,.any,.any,.any,.any,.any,.any,.any,.any,.any,.any,.any,.any,.any,s56,s57,.any,.any,.any,.any,.any,.any,.any,.any,.any,.any,.any,.any,.any,.any,.any,.any,.any,.any,.any,.any,.any,.any,.any,.any,.any,.any,.any,.any,.any,.any,.any,.any,.any,.any,.any,.any,.any,.any,.any,.any,.any,.any,.any,.any,.any,.any,.any,.any,.any,.any,.any,.any,.any,.any,.any,.any,.any,.any,.any,.any]
theorem xIZ (s0 s1 s2 s3 s4 s5 s6 s7 s8 s9 s10 s11 s12 s13 s14 s15 s16 s17 s18 s19 s20 s21 s22 s23 s24 s25 s26 s27 s28 s29 s30 s31 s32 s33 s34 s35 s36 s37 s38 s39 s40 s41 s42 s43 s44 s45 s46 s47 s48 s49 s50 s51 s52 s53 s54 s55 s56 s57 s58 s59 s60 s61 s62 s63 s64 s65 s66 s67 s68 s69 s70 s71 s72 s73 s74 s75 s76 s77 s78 s79 s80 s81 s82 s83 s84 s85 s86 s87 s88 s89 s90 s91 s92 s93 s94 s95 s96 s97 s98 s99 s100 s101 s102 s103 s104 s105 s106 s107 s108 s109 s110 s111 s112 s113 s114 s115 s116 s117 : AV) : xAM xCt [s0,s1,s2,s3,s4,s5,s6,s7,s8,s9,s10,s11,s12,s13,s14,s15,s16,s17,s18,s19,s20,s21,s22,s23,s24,s25,s26,s27,s28,s29,s30,s31,s32,s33,s34,s35,s36,s37,s38,s39,s40,s41,s42,s43,s44,s45,s46,s47,s48,s49,s50,s51,s52,s53,s54,s55,s56,s57,s58,s59,s60,s61,s62,s63,s64,s65,s66,s67,s68,s69,s70,s71,s72,s73,s74,s75,s76,s77,s78,s79,s80,s81,s82,s83,s84,s85,s86,s87,s88,s89,s90,s91,s92,s93,s94,s95,s96,s97,s98,s99,s100,s101,s102,s103,s104,s105,s106,s107,s108,s109,s110,s111,s112,s113,s114,s115,s116,s117] = xIY s2 s3 s4 s5 s6 s10 s11 s12 s13 s56 s57 := by kernel_rfl
theorem xOr {prog : Nat → Option AFunc} (s2 s3 s4 s5 s6 s10 s11 s12 s13 s56 s57 : AV) (H : Heap) : (lim prog).loop xCt xFp ⟨xIY s2 s3 s4 s5 s6 s10 s11 s12 s13 s56 s57,H⟩ = xCh (lim prog) xCt xFp (run (lim prog) xIX ⟨xIY s2 s3 s4 s5 s6 s10 s11 s12 s13 s56 s57,H⟩) := xAy _ _ _ _ (by kernel_rfl)
def xKG : ACode :=
 .seq (.region [⟨some 12,.mov (.t 52),none⟩])
 (.region [⟨some 13,.box (.c (.agg [.int .i64 0,.int .i64 0])),none⟩,
 ⟨none,.store 2 (.t 13) (.t 53),none⟩])
def xOs : ACode :=
 .block 3 (.seq (.region [⟨some 54,.faddr 0 (.t 2),none⟩,
 ⟨some 55,.load false 1 (.t 54),none⟩,
 ⟨some 56,.bin .shl (.c (.int .i64 1)) (.t 55),none⟩,
 ⟨some 57,.mov (.c (.int .i64 0)),none⟩])
 (.block 4 (.loop xCt xFp)))
def xRD : ACode := xKG
def xWL : ACode := xOs
theorem xRE (R : Rec) (s : St) : run R xRD s = run R xKG s := rfl
theorem xVn (R : Rec) (s : St) : run R xWL s = run R xOs s := rfl
def a37 : AFunc := ⟨118,
 .seq (.region [⟨some 2,.box (.t 0),none⟩,
 ⟨some 3,.box (.t 1),none⟩,
 ⟨some 4,.box (.c (.sl true 0 [])),none⟩,
 ⟨some 5,.box (.c (.bool false)),none⟩,
 ⟨some 6,.box (.c (.int .i64 0)),none⟩])
 (.seq (.seq (.region [⟨some 18,.load true 5 (.t 2),none⟩,
 ⟨some 19,.load true 5 (.t 3),none⟩,
 ⟨some 20,.bslice true [.int .i64 0,.int .i64 0,.int .i64 0,.sl true 0 [],.sl true 0 []] 5 2 [(0,(.t 18)),(1,(.t 19))],none⟩,
 ⟨some 21,.len (.t 20),none⟩,
 ⟨some 22,.mov (.c (.int .i64 0)),none⟩])
 (.block 0 (.loop xOq xWK)))
 (.seq (.seq (.region [⟨some 32,.faddr 0 (.t 2),none⟩,
 ⟨some 33,.load false 1 (.t 32),none⟩,
 ⟨some 34,.faddr 0 (.t 3),none⟩,
 ⟨some 35,.load false 1 (.t 34),none⟩,
 ⟨some 36,.bin .neq (.t 33) (.t 35),none⟩,
 ⟨some 37,.mov (.t 36),none⟩,
 ⟨some 38,.faddr 1 (.t 2),some (37,false)⟩,
 ⟨some 39,.load false 1 (.t 38),some (37,false)⟩,
 ⟨some 40,.faddr 1 (.t 3),some (37,false)⟩,
 ⟨some 41,.load false 1 (.t 40),some (37,false)⟩,
 ⟨some 42,.bin .neq (.t 39) (.t 41),some (37,false)⟩,
 ⟨some 43,.pick (.t 37) (.c (.bool true)) (.t 42),none⟩])
 (.cond (.t 43)
 (.seq (.region [⟨none,.store 1 (.t 4) (.c (.sl true 0 [])),none⟩,
 ⟨none,.store 1 (.t 5) (.c (.bool false)),none⟩,
 ⟨none,.store 1 (.t 6) (.c (.int .i64 7)),none⟩])
 (.ret))
 (.skip)))
 (.seq (.region [⟨some 10,.box (.c (.agg [.nilm,.sl true 0 []])),none⟩])
 (.seq (.region [⟨some 44,.faddr 2 (.t 2),none⟩,
 ⟨some 45,.load false 1 (.t 44),none⟩,
 ⟨some 46,.faddr 2 (.t 3),none⟩,
 ⟨some 47,.load false 1 (.t 46),none⟩,
 ⟨some 48,.build [.int .i64 0,.int .i64 0] [(0,1,(.t 45)),(1,1,(.t 47))],none⟩,
 ⟨some 49,.icall (.c (.func 74 [])) [(.t 10),(.t 48)],none⟩])
 (.seq (.region [⟨some 50,.bslice false [.sl true 0 []] 1 1 [(0,(.c (.sl true 0 [])))],none⟩,
 ⟨some 11,.box (.c (.sl true 0 [])),none⟩,
 ⟨none,.store 1 (.t 11) (.t 50),none⟩])
 (.seq (.seq (.region [⟨some 51,.icall (.c (.func 75 [])) [(.t 10)],none⟩])
 (.block 2 (.range (.t 51) [52,53] xRD xWL)))
 (.seq (.region [⟨none,.store 1 (.t 4) (.c (.sl true 0 [])),none⟩,
 ⟨none,.store 1 (.t 5) (.c (.bool true)),none⟩,
 ⟨none,.store 1 (.t 6) (.c (.int .i64 0)),none⟩])
 (.ret)))))))),
 [.cell 4 false 1,.cell 5 false 1,.cell 6 false 1]⟩
def xLV : ACode :=
 .seq (.seq (.region [⟨some 16,.mov (.t 5),none⟩,
 ⟨some 17,.mov (.t 0),none⟩,
 ⟨some 18,.len (.t 17),none⟩,
 ⟨some 19,.bin .lss (.t 16) (.t 18),none⟩])
 (.cond (.t 19)
 (.skip)
 (.exit 0)))
 (.seq (.block 1 (.seq (.seq (.draw 5 [⟨some 22,.mov (.t 0),none⟩,
 ⟨some 23,.mov (.t 5),none⟩,
 ⟨some 24,.iaddr 1 (.t 22) (.t 23),none⟩,
 ⟨some 25,.load false 1 (.t 24),none⟩,
 ⟨some 26,.mov (.t 1),none⟩,
 ⟨some 27,.mov (.t 5),none⟩,
 ⟨some 28,.iaddr 1 (.t 26) (.t 27),none⟩,
 ⟨some 29,.load false 1 (.t 28),none⟩,
 ⟨some 30,.bin .lss (.t 25) (.t 29),none⟩])
 (.cond (.t 30)
 (.seq (.region [⟨some 4,.mov (.c (.int .i64 (-1))),none⟩])
 (.ret))
 (.skip)))
 (.seq (.draw 5 [⟨some 31,.mov (.t 0),none⟩,
 ⟨some 32,.mov (.t 5),none⟩,
 ⟨some 33,.iaddr 1 (.t 31) (.t 32),none⟩,
 ⟨some 34,.load false 1 (.t 33),none⟩,
 ⟨some 35,.mov (.t 1),none⟩,
 ⟨some 36,.mov (.t 5),none⟩,
 ⟨some 37,.iaddr 1 (.t 35) (.t 36),none⟩,
 ⟨some 38,.load false 1 (.t 37),none⟩,
 ⟨some 39,.bin .gtr (.t 34) (.t 38),none⟩])
 (.cond (.t 39)
 (.seq (.region [⟨some 4,.mov (.c (.int .i64 1)),none⟩])
 (.ret))
 (.skip)))))
 (.region [⟨some 20,.mov (.t 5),none⟩,
 ⟨some 21,.bin .add (.t 20) (.c (.int .i64 1)),none⟩,
 ⟨some 5,.mov (.t 21),none⟩]))
def xRF : ACode := xLV
def xI0 : List Nat := [2,3,6,7,8,9,10,11,12,13,14,15,16,17,18,19,20,21,22,23,24,25,26,27,28,29,30,31,32,33,34,35,36,37,38,39]
abbrev xI1 (s0 s1 s4 s5 : AV) : List AV := [s0,s1,.any,.any,s4,s5,.any,.any,.any,.any,.any,.any,.any,.any,.any,.any,.any,.any,.any,.any,.any,.any,.any,.any,.any,.any,.any,.any,.any,.any,.any,.any,.any,.any,.any,.any,.any,.any,.any,.any]
theorem xLW (s0 s1 s2 s3 s4 s5 s6 s7 s8 s9 s10 s11 s12 s13 s14 s15 s16 s17 s18 s19 s20 s21 s22 s23 s24 s25 s26 s27 s28 s29 s30 s31 s32 s33 s34 s35 s36 s37 s38 s39 : AV) : xAM xI0 [s0,s1,s2,s3,s4,s5,s6,s7,s8,s9,s10,s11,s12,s13,s14,s15,s16,s17,s18,s19,s20,s21,s22,s23,s24,s25,s26,s27,s28,s29,s30,s31,s32,s33,s34,s35,s36,s37,s38,s39] = xI1 s0 s1 s4 s5 := by kernel_rfl
theorem xRG {prog : Nat → Option AFunc} (s0 s1 s4 s5 : AV) (H : Heap) : (lim prog).loop xI0 xRF ⟨xI1 s0 s1 s4 s5,H⟩ = xCh (lim prog) xI0 xRF (run (lim prog) xLV ⟨xI1 s0 s1 s4 s5,H⟩) := xAy _ _ _ _ (by kernel_rfl)
def a41 : AFunc := ⟨40,
 .seq (.region [⟨some 4,.mov (.c (.int .i64 0)),none⟩])
 (.seq (.seq (.region [⟨some 6,.mov (.t 0),none⟩,
 ⟨some 7,.len (.t 6),none⟩,
 ⟨some 8,.mov (.t 1),none⟩,
 ⟨some 9,.len (.t 8),none⟩,
 ⟨some 10,.bin .lss (.t 7) (.t 9),none⟩])
 (.cond (.t 10)
 (.seq (.region [⟨some 4,.mov (.c (.int .i64 (-1))),none⟩])
 (.ret))
 (.skip)))
 (.seq (.seq (.region [⟨some 11,.mov (.t 0),none⟩,
 ⟨some 12,.len (.t 11),none⟩,
 ⟨some 13,.mov (.t 1),none⟩,
 ⟨some 14,.len (.t 13),none⟩,
 ⟨some 15,.bin .gtr (.t 12) (.t 14),none⟩])
 (.cond (.t 15)
 (.seq (.region [⟨some 4,.mov (.c (.int .i64 1)),none⟩])
 (.ret))
 (.skip)))
 (.seq (.seq (.region [⟨some 5,.mov (.c (.int .i64 0)),none⟩])
 (.block 0 (.loop xI0 xRF)))
 (.seq (.region [⟨some 4,.mov (.c (.int .i64 0)),none⟩])
 (.ret))))),
 [.tmp 4]⟩
def a42 : AFunc := ⟨5,
 .seq (.region [⟨some 0,.box (.c (.agg [.int .i64 0,.int .i64 0,.int .i64 0,.sl true 0 [],.sl true 0 []])),none⟩])
 (.seq (.region [⟨some 1,.bslice true [.int .u8 0] 1 1 [(0,(.c (.int .u8 1)))],none⟩,
 ⟨some 2,.bslice true [.int .i64 0] 1 2 [(0,(.c (.int .i64 0))),(1,(.c (.int .i64 0)))],none⟩,
 ⟨some 3,.bslice true [.sl true 0 []] 1 1 [(0,(.t 2))],none⟩,
 ⟨some 4,.build [.int .i64 0,.int .i64 0,.int .i64 0,.sl true 0 [],.sl true 0 []] [(0,1,(.c (.int .i64 1))),(1,1,(.c (.int .i64 1))),(3,1,(.t 1)),(4,1,(.t 3))],none⟩,
 ⟨none,.store 5 (.t 0) (.t 4),none⟩])
 (.ret)),
 [.cell 0 true 5]⟩
def a43 : AFunc := ⟨6,
 .seq (.region [⟨some 0,.box (.c (.agg [.int .i64 0,.int .i64 0,.int .i64 0,.sl true 0 [],.sl true 0 []])),none⟩])
 (.seq (.region [⟨some 1,.bslice true [.int .i64 0] 1 2 [(0,(.c (.int .i64 0))),(1,(.c (.int .i64 0)))],none⟩,
 ⟨some 2,.bslice true [.sl true 0 []] 1 1 [(0,(.t 1))],none⟩,
 ⟨some 3,.bslice true [.int .u8 0] 1 2 [(0,(.c (.int .u8 1))),(1,(.c (.int .u8 0)))],none⟩,
 ⟨some 4,.bslice true [.sl true 0 []] 1 1 [(0,(.t 3))],none⟩,
 ⟨some 5,.build [.int .i64 0,.int .i64 0,.int .i64 0,.sl true 0 [],.sl true 0 []] [(0,1,(.c (.int .i64 1))),(1,1,(.c (.int .i64 1))),(3,1,(.t 2)),(4,1,(.t 4))],none⟩,
 ⟨none,.store 5 (.t 0) (.t 5),none⟩])
 (.ret)),
 [.cell 0 true 5]⟩
def a45 : AFunc := ⟨40,
 .seq (.region [⟨some 2,.box (.t 0),none⟩,
 ⟨some 3,.box (.t 1),none⟩,
 ⟨some 4,.mov (.c (.int .i64 0)),none⟩])
 (.seq (.block 0 (.seq (.region [⟨some 7,.load false 1 (.t 3),none⟩,
 ⟨some 8,.bin .lss (.t 7) (.c (.int .i64 0)),none⟩,
 ⟨some 9,.mov (.t 8),none⟩,
 ⟨some 10,.load false 1 (.t 3),some (9,false)⟩,
 ⟨some 11,.bin .gtr (.t 10) (.c (.int .i64 6)),some (9,false)⟩,
 ⟨some 12,.pick (.t 9) (.c (.bool true)) (.t 11),none⟩,
 ⟨some 6,.mov (.t 12),none⟩])
 (.cond (.t 6)
 (.seq (.region [⟨some 4,.mov (.c (.int .i64 7)),none⟩])
 (.ret))
 (.seq (.region [⟨some 14,.faddr 1 (.t 2),none⟩,
 ⟨some 15,.load false 1 (.t 14),none⟩,
 ⟨some 16,.len (.t 15),none⟩,
 ⟨some 17,.bin .eql (.t 16) (.c (.int .i64 0)),none⟩,
 ⟨some 13,.mov (.t 17),none⟩])
 (.cond (.t 13)
 (.seq (.region [⟨some 4,.mov (.c (.int .i64 3)),none⟩])
 (.ret))
 (.seq (.region [⟨some 19,.faddr 0 (.t 2),none⟩,
 ⟨some 20,.load false 1 (.t 19),none⟩,
 ⟨some 21,.len (.t 20),none⟩,
 ⟨some 22,.bin .gtr (.t 21) (.c (.int .i64 64)),none⟩,
 ⟨some 23,.mov (.t 22),none⟩,
 ⟨some 24,.faddr 1 (.t 2),some (23,false)⟩,
 ⟨some 25,.load false 1 (.t 24),some (23,false)⟩,
 ⟨some 26,.len (.t 25),some (23,false)⟩,
 ⟨some 27,.bin .gtr (.t 26) (.c (.int .i64 64)),some (23,false)⟩,
 ⟨some 28,.pick (.t 23) (.c (.bool true)) (.t 27),none⟩,
 ⟨some 18,.mov (.t 28),none⟩])
 (.cond (.t 18)
 (.seq (.region [⟨some 4,.mov (.c (.int .i64 4)),none⟩])
 (.ret))
 (.skip))))))))
 (.seq (.region [⟨some 29,.mkfunc 80 [(.t 3)],none⟩,
 ⟨some 5,.mov (.t 29),none⟩])
 (.seq (.seq (.region [⟨some 30,.faddr 0 (.t 2),none⟩,
 ⟨some 31,.load false 1 (.t 30),none⟩,
 ⟨some 32,.mov (.t 5),none⟩,
 ⟨some 33,.icall (.c (.func 52 [])) [(.t 31),(.t 32)],none⟩,
 ⟨some 34,.mov (.t 33),none⟩,
 ⟨some 35,.faddr 1 (.t 2),some (34,false)⟩,
 ⟨some 36,.load false 1 (.t 35),some (34,false)⟩,
 ⟨some 37,.mov (.t 5),some (34,false)⟩,
 ⟨some 38,.icall (.c (.func 52 [])) [(.t 36),(.t 37)],some (34,false)⟩,
 ⟨some 39,.pick (.t 34) (.c (.bool true)) (.t 38),none⟩])
 (.cond (.t 39)
 (.seq (.region [⟨some 4,.mov (.c (.int .i64 1)),none⟩])
 (.ret))
 (.skip)))
 (.seq (.region [⟨some 4,.mov (.c (.int .i64 0)),none⟩])
 (.ret))))),
 [.tmp 4]⟩
def a47 : AFunc := ⟨29,
 .seq (.region [⟨some 2,.box (.t 0),none⟩,
 ⟨some 4,.mov (.c (.int .u8 0)),none⟩])
 (.seq (.seq (.region [⟨some 6,.mov (.t 1),none⟩,
 ⟨some 7,.bin .lss (.t 6) (.c (.int .i64 0)),none⟩])
 (.cond (.t 7)
 (.seq (.region [⟨some 4,.mov (.c (.int .u8 0)),none⟩])
 (.ret))
 (.skip)))
 (.seq (.region [⟨some 8,.load true 2 (.t 2),none⟩,
 ⟨some 9,.call 77 [(.t 8)],none⟩,
 ⟨none,.store 2 (.t 2) (.t 9),none⟩])
 (.seq (.seq (.draw 6 [⟨some 10,.load true 2 (.t 2),none⟩,
 ⟨some 11,.mov (.t 1),none⟩,
 ⟨some 12,.call 55 [(.t 10),(.t 11)],none⟩,
 ⟨some 13,.faddr 0 (.t 2),none⟩,
 ⟨some 14,.load false 1 (.t 13),none⟩,
 ⟨some 15,.len (.t 14),none⟩,
 ⟨some 16,.bin .sub (.t 12) (.t 15),none⟩,
 ⟨some 5,.mov (.t 16),none⟩])
 (.seq (.region [⟨some 17,.mov (.t 5),none⟩,
 ⟨some 18,.bin .geq (.t 17) (.c (.int .i64 0)),none⟩])
 (.cond (.t 18)
 (.seq (.region [⟨some 19,.faddr 1 (.t 2),none⟩,
 ⟨some 20,.load false 1 (.t 19),none⟩,
 ⟨some 21,.mov (.t 5),none⟩,
 ⟨some 22,.iaddr 1 (.t 20) (.t 21),none⟩,
 ⟨some 23,.load false 1 (.t 22),none⟩,
 ⟨some 4,.mov (.t 23),none⟩])
 (.ret))
 (.skip))))
 (.seq (.region [⟨some 24,.faddr 0 (.t 2),none⟩,
 ⟨some 25,.load false 1 (.t 24),none⟩,
 ⟨some 26,.mov (.t 1),none⟩,
 ⟨some 27,.iaddr 1 (.t 25) (.t 26),none⟩,
 ⟨some 28,.load false 1 (.t 27),none⟩,
 ⟨some 4,.mov (.t 28),none⟩])
 (.ret))))),
 [.tmp 4]⟩
def xYc : ACode :=
 .seq (.seq (.region [⟨some 16,.mov (.t 4),none⟩,
 ⟨some 17,.bin .gtr (.t 16) (.c (.int .i64 0)),none⟩])
 (.cond (.t 17)
 (.skip)
 (.exit 0)))
 (.block 1 (.seq (.seq (.draw 9 [⟨some 18,.faddr 0 (.t 1),none⟩,
 ⟨some 19,.load false 1 (.t 18),none⟩,
 ⟨some 20,.mov (.t 4),none⟩,
 ⟨some 21,.bin .sub (.t 20) (.c (.int .i64 1)),none⟩,
 ⟨some 22,.iaddr 1 (.t 19) (.t 21),none⟩,
 ⟨some 23,.load false 1 (.t 22),none⟩,
 ⟨some 24,.mov (.t 3),none⟩,
 ⟨some 25,.mov (.t 5),none⟩,
 ⟨some 26,.bin .sub (.t 25) (.c (.int .i64 1)),none⟩,
 ⟨some 27,.mov (.t 3),none⟩,
 ⟨some 28,.len (.t 27),none⟩,
 ⟨some 29,.bin .rem (.t 26) (.t 28),none⟩,
 ⟨some 30,.iaddr 1 (.t 24) (.t 29),none⟩,
 ⟨some 31,.load false 1 (.t 30),none⟩,
 ⟨some 32,.bin .neq (.t 23) (.t 31),none⟩])
 (.cond (.t 32)
 (.exit 0)
 (.skip)))
 (.seq (.region [⟨some 33,.mov (.t 4),none⟩,
 ⟨some 34,.bin .sub (.t 33) (.c (.int .i64 1)),none⟩,
 ⟨some 4,.mov (.t 34),none⟩])
 (.seq (.region [⟨some 35,.mov (.t 5),none⟩,
 ⟨some 36,.bin .sub (.t 35) (.c (.int .i64 1)),none⟩,
 ⟨some 5,.mov (.t 36),none⟩])
 (.seq (.region [⟨some 37,.mov (.t 5),none⟩,
 ⟨some 38,.bin .eql (.t 37) (.c (.int .i64 0)),none⟩])
 (.cond (.t 38)
 (.region [⟨some 39,.mov (.t 3),none⟩,
 ⟨some 40,.len (.t 39),none⟩,
 ⟨some 5,.mov (.t 40),none⟩])
 (.skip)))))))
def xZE : ACode := xYc
def xYd : List Nat := [0,6,7,8,9,10,11,12,13,14,15,16,17,18,19,20,21,22,23,24,25,26,27,28,29,30,31,32,33,34,35,36,37,38,39,40,41,42,43,44,45,46,47,48,49,50,51,52,53,54,55,56,57,58]
def a49 : AFunc := ⟨59,
 .seq (.region [⟨some 1,.box (.t 0),none⟩,
 ⟨some 2,.box (.c (.agg [.sl true 0 [],.sl true 0 []])),none⟩])
 (.scope (.seq (.region [⟨some 6,.load true 2 (.t 1),none⟩,
 ⟨some 7,.call 77 [(.t 6)],none⟩,
 ⟨none,.store 2 (.t 1) (.t 7),none⟩])
 (.seq (.draw 6 [⟨some 8,.faddr 1 (.t 1),none⟩,
 ⟨some 9,.load false 1 (.t 8),none⟩,
 ⟨some 10,.call 83 [(.t 9)],none⟩,
 ⟨some 11,.faddr 0 (.t 1),none⟩,
 ⟨some 12,.load false 1 (.t 11),none⟩,
 ⟨some 13,.len (.t 12),none⟩,
 ⟨some 3,.mov (.t 10),none⟩,
 ⟨some 4,.mov (.t 13),none⟩])
 (.seq (.region [⟨some 14,.mov (.t 3),none⟩,
 ⟨some 15,.len (.t 14),none⟩,
 ⟨some 5,.mov (.t 15),none⟩])
 (.seq (.label)
 (.seq (.block 0 (.loop xYd xZE))
 (.seq (.region [⟨some 41,.mov (.t 5),none⟩,
 ⟨some 42,.mov (.t 3),none⟩,
 ⟨some 43,.len (.t 42),none⟩,
 ⟨some 44,.bin .rem (.t 41) (.t 43),none⟩,
 ⟨some 5,.mov (.t 44),none⟩])
 (.seq (.drawp [] [] 12 [⟨some 45,.faddr 0 (.t 1),none⟩,
 ⟨some 46,.load false 1 (.t 45),none⟩,
 ⟨some 47,.mov (.t 4),none⟩,
 ⟨some 48,.slice 1 (.t 46) none (some (.t 47)) none,none⟩,
 ⟨some 49,.ocall 72 [(.t 48)],none⟩,
 ⟨some 50,.mov (.t 3),none⟩,
 ⟨some 51,.mov (.t 5),none⟩,
 ⟨some 52,.slice 1 (.t 50) (some (.t 51)) none none,none⟩,
 ⟨some 53,.mov (.t 3),none⟩,
 ⟨some 54,.mov (.t 5),none⟩,
 ⟨some 55,.slice 1 (.t 53) none (some (.t 54)) none,none⟩,
 ⟨some 56,.bslice true [.sl true 0 []] 1 2 [(0,(.t 52)),(1,(.t 55))],none⟩,
 ⟨some 57,.ocall 76 [(.t 56)],none⟩,
 ⟨some 58,.build [.sl true 0 [],.sl true 0 []] [(0,1,(.t 49)),(1,1,(.t 57))],none⟩,
 ⟨none,.store 2 (.t 2) (.t 58),none⟩])
 (.ret))))))))),
 [.cell 2 true 2]⟩
def a52 : AFunc := ⟨9,
 .seq (.region [⟨some 4,.mov (.c (.bool false)),none⟩])
 (.seq (.region [⟨some 5,.mov (.t 0),none⟩,
 ⟨some 6,.mov (.t 1),none⟩,
 ⟨some 7,.icall (.c (.func 85 [])) [(.t 5),(.t 6)],none⟩,
 ⟨some 8,.bin .geq (.t 7) (.c (.int .i64 0)),none⟩,
 ⟨some 4,.mov (.t 8),none⟩])
 (.ret)),
 [.tmp 4]⟩
def a53 : AFunc := ⟨10,
 .seq (.region [⟨some 3,.mov (.c (.bool false)),none⟩])
 (.seq (.region [⟨some 4,.mov (.t 0),none⟩,
 ⟨some 5,.conv .i64 (.t 4),none⟩,
 ⟨some 6,.faddr 0 (.t 1),none⟩,
 ⟨some 7,.load false 1 (.t 6),none⟩,
 ⟨some 8,.bin .shl (.c (.int .i64 1)) (.t 7),none⟩,
 ⟨some 9,.bin .geq (.t 5) (.t 8),none⟩,
 ⟨some 3,.mov (.t 9),none⟩])
 (.ret)),
 [.tmp 3]⟩
def a54 : AFunc := ⟨52,
 .seq (.region [⟨some 3,.box (.t 1),none⟩,
 ⟨some 4,.box (.c (.agg [.sl true 0 [],.sl true 0 []])),none⟩,
 ⟨some 5,.mov (.c (.bool false)),none⟩])
 (.seq (.seq (.region [⟨some 8,.mov (.t 0),none⟩,
 ⟨some 9,.nilchk (.t 8),none⟩,
 ⟨some 10,.faddr 0 (.t 9),none⟩,
 ⟨some 11,.load false 1 (.t 10),none⟩,
 ⟨some 12,.mnil false (.t 11),none⟩])
 (.cond (.t 12)
 (.region [⟨some 13,.mov (.t 0),none⟩,
 ⟨some 14,.mkmap,none⟩,
 ⟨some 15,.nilchk (.t 13),none⟩,
 ⟨some 16,.faddr 0 (.t 15),none⟩,
 ⟨none,.store 1 (.t 16) (.t 14),none⟩])
 (.skip)))
 (.seq (.seq (.draw 9 [⟨some 18,.mov (.t 0),none⟩,
 ⟨some 19,.nilchk (.t 18),none⟩,
 ⟨some 20,.faddr 0 (.t 19),none⟩,
 ⟨some 21,.load false 1 (.t 20),none⟩,
 ⟨some 22,.load true 2 (.t 3),none⟩,
 ⟨some 23,.mlook [2,0,0] true (.int .i64 0) (.t 21) (.t 22),none⟩,
 ⟨some 17,.mov (.t 23),none⟩,
 ⟨some 24,.ext 0 (.t 17),none⟩,
 ⟨some 25,.ext 1 (.t 17),none⟩,
 ⟨some 6,.mov (.t 24),none⟩,
 ⟨some 7,.mov (.t 25),none⟩])
 (.seq (.region [⟨some 26,.mov (.t 7),none⟩])
 (.cond (.t 26)
 (.seq (.drawp [] [] 10 [⟨some 27,.mov (.t 0),none⟩,
 ⟨some 28,.nilchk (.t 27),none⟩,
 ⟨some 29,.faddr 1 (.t 28),none⟩,
 ⟨some 30,.load false 1 (.t 29),none⟩,
 ⟨some 31,.mov (.t 6),none⟩,
 ⟨some 32,.slice 1 (.t 30) none (some (.t 31)) none,none⟩,
 ⟨some 33,.mov (.t 0),none⟩,
 ⟨some 34,.nilchk (.t 33),none⟩,
 ⟨some 35,.faddr 1 (.t 34),none⟩,
 ⟨some 36,.load false 1 (.t 35),none⟩,
 ⟨some 37,.mov (.t 6),none⟩,
 ⟨some 38,.slice 1 (.t 36) (some (.t 37)) none none,none⟩,
 ⟨some 39,.build [.sl true 0 [],.sl true 0 []] [(0,1,(.t 32)),(1,1,(.t 38))],none⟩,
 ⟨some 40,.ocall 49 [(.t 39)],none⟩,
 ⟨none,.store 2 (.t 4) (.t 40),none⟩,
 ⟨some 5,.mov (.c (.bool true)),none⟩])
 (.ret))
 (.skip))))
 (.seq (.draw 5 [⟨some 41,.mov (.t 0),none⟩,
 ⟨some 42,.nilchk (.t 41),none⟩,
 ⟨some 43,.faddr 0 (.t 42),none⟩,
 ⟨some 44,.load false 1 (.t 43),none⟩,
 ⟨some 45,.load true 2 (.t 3),none⟩,
 ⟨some 46,.mov (.t 0),none⟩,
 ⟨some 47,.nilchk (.t 46),none⟩,
 ⟨some 48,.faddr 1 (.t 47),none⟩,
 ⟨some 49,.load false 1 (.t 48),none⟩,
 ⟨some 50,.len (.t 49),none⟩,
 ⟨none,.mupd [2,0,0] (.t 44) (.t 45) (.t 50),none⟩])
 (.seq (.region [⟨some 51,.build [.sl true 0 [],.sl true 0 []] [],none⟩,
 ⟨none,.store 2 (.t 4) (.t 51),none⟩,
 ⟨some 5,.mov (.c (.bool false)),none⟩])
 (.ret))))),
 [.cell 4 true 2,.tmp 5]⟩
def a55 : AFunc := ⟨24,
 .seq (.region [⟨some 2,.box (.t 0),none⟩,
 ⟨some 4,.mov (.c (.int .i64 0)),none⟩])
 (.seq (.region [⟨some 6,.faddr 0 (.t 2),none⟩,
 ⟨some 7,.load false 1 (.t 6),none⟩,
 ⟨some 8,.len (.t 7),none⟩,
 ⟨some 5,.mov (.t 8),none⟩])
 (.seq (.seq (.region [⟨some 9,.mov (.t 1),none⟩,
 ⟨some 10,.mov (.t 5),none⟩,
 ⟨some 11,.bin .lss (.t 9) (.t 10),none⟩])
 (.cond (.t 11)
 (.seq (.region [⟨some 12,.mov (.t 1),none⟩,
 ⟨some 13,.maxi (.t 12) (.c (.int .i64 0)),none⟩,
 ⟨some 4,.mov (.t 13),none⟩])
 (.ret))
 (.skip)))
 (.seq (.region [⟨some 14,.mov (.t 5),none⟩,
 ⟨some 15,.mov (.t 1),none⟩,
 ⟨some 16,.mov (.t 5),none⟩,
 ⟨some 17,.bin .sub (.t 15) (.t 16),none⟩,
 ⟨some 18,.faddr 1 (.t 2),none⟩,
 ⟨some 19,.load false 1 (.t 18),none⟩,
 ⟨some 20,.len (.t 19),none⟩,
 ⟨some 21,.maxi (.t 20) (.c (.int .i64 1)),none⟩,
 ⟨some 22,.bin .rem (.t 17) (.t 21),none⟩,
 ⟨some 23,.bin .add (.t 14) (.t 22),none⟩,
 ⟨some 4,.mov (.t 23),none⟩])
 (.ret)))),
 [.tmp 4]⟩
def a59 : AFunc := ⟨46,
 .seq (.region [⟨some 10,.mov (.c (.int .i64 0)),none⟩])
 (.seq (.block 0 (.seq (.region [⟨some 12,.mov (.t 0),none⟩,
 ⟨some 13,.bin .lss (.t 12) (.c (.int .i64 0)),none⟩,
 ⟨some 14,.mov (.t 13),none⟩,
 ⟨some 15,.mov (.t 1),some (14,false)⟩,
 ⟨some 16,.bin .lss (.t 15) (.c (.int .i64 0)),some (14,false)⟩,
 ⟨some 17,.pick (.t 14) (.c (.bool true)) (.t 16),none⟩,
 ⟨some 18,.mov (.t 17),none⟩,
 ⟨some 19,.mov (.t 0),some (18,false)⟩,
 ⟨some 20,.bin .gtr (.t 19) (.c (.int .i64 6)),some (18,false)⟩,
 ⟨some 21,.pick (.t 18) (.c (.bool true)) (.t 20),none⟩,
 ⟨some 22,.mov (.t 21),none⟩,
 ⟨some 23,.mov (.t 1),some (22,false)⟩,
 ⟨some 24,.mov (.t 0),some (22,false)⟩,
 ⟨some 25,.bin .sub (.c (.int .i64 6)) (.t 24),some (22,false)⟩,
 ⟨some 26,.bin .gtr (.t 23) (.t 25),some (22,false)⟩,
 ⟨some 27,.pick (.t 22) (.c (.bool true)) (.t 26),none⟩,
 ⟨some 11,.mov (.t 27),none⟩])
 (.cond (.t 11)
 (.seq (.region [⟨some 10,.mov (.c (.int .i64 7)),none⟩])
 (.ret))
 (.seq (.region [⟨some 29,.mov (.t 2),none⟩,
 ⟨some 30,.bin .eql (.t 29) (.c (.int .i64 0)),none⟩,
 ⟨some 28,.mov (.t 30),none⟩])
 (.cond (.t 28)
 (.seq (.region [⟨some 10,.mov (.c (.int .i64 3)),none⟩])
 (.ret))
 (.seq (.region [⟨some 32,.mov (.t 2),none⟩,
 ⟨some 33,.bin .gtr (.t 32) (.c (.int .i64 4096)),none⟩,
 ⟨some 31,.mov (.t 33),none⟩])
 (.cond (.t 31)
 (.seq (.region [⟨some 10,.mov (.c (.int .i64 10)),none⟩])
 (.ret))
 (.seq (.region [⟨some 35,.mov (.t 3),none⟩,
 ⟨some 36,.mov (.t 2),none⟩,
 ⟨some 37,.bin .neq (.t 35) (.t 36),none⟩,
 ⟨some 34,.mov (.t 37),none⟩])
 (.cond (.t 34)
 (.seq (.region [⟨some 10,.mov (.c (.int .i64 2)),none⟩])
 (.ret))
 (.seq (.region [⟨some 39,.mov (.t 4),none⟩,
 ⟨some 40,.bin .lss (.t 39) (.c (.int .i64 0)),none⟩,
 ⟨some 41,.mov (.t 40),none⟩,
 ⟨some 42,.mov (.t 4),some (41,false)⟩,
 ⟨some 43,.mov (.t 2),some (41,false)⟩,
 ⟨some 44,.bin .geq (.t 42) (.t 43),some (41,false)⟩,
 ⟨some 45,.pick (.t 41) (.c (.bool true)) (.t 44),none⟩,
 ⟨some 38,.mov (.t 45),none⟩])
 (.cond (.t 38)
 (.seq (.region [⟨some 10,.mov (.c (.int .i64 8)),none⟩])
 (.ret))
 (.skip))))))))))))
 (.seq (.region [⟨some 10,.mov (.c (.int .i64 0)),none⟩])
 (.ret))),
 [.tmp 10]⟩
def a60 : AFunc := ⟨8,
 .seq (.region [⟨some 3,.box (.t 1),none⟩,
 ⟨some 4,.mov (.c (.bool false)),none⟩])
 (.seq (.region [⟨some 5,.mov (.t 0),none⟩,
 ⟨some 6,.mkfunc 91 [(.t 3)],none⟩,
 ⟨some 7,.icall (.c (.func 90 [])) [(.t 5),(.t 6)],none⟩,
 ⟨some 4,.mov (.t 7),none⟩])
 (.ret)),
 [.tmp 4]⟩
def xOt : ACode :=
 .seq (.seq (.region [⟨some 12,.mov (.t 4),none⟩,
 ⟨some 13,.mov (.t 0),none⟩,
 ⟨some 14,.len (.t 13),none⟩,
 ⟨some 15,.bin .lss (.t 12) (.t 14),none⟩])
 (.cond (.t 15)
 (.skip)
 (.exit 0)))
 (.seq (.block 1 (.region [⟨some 18,.mov (.t 3),none⟩,
 ⟨some 19,.mov (.t 0),none⟩,
 ⟨some 20,.mov (.t 4),none⟩,
 ⟨some 21,.iaddr 1 (.t 19) (.t 20),none⟩,
 ⟨some 22,.load false 1 (.t 21),none⟩,
 ⟨some 23,.maxi (.t 18) (.t 22),none⟩,
 ⟨some 3,.mov (.t 23),none⟩]))
 (.region [⟨some 16,.mov (.t 4),none⟩,
 ⟨some 17,.bin .add (.t 16) (.c (.int .i64 1)),none⟩,
 ⟨some 4,.mov (.t 17),none⟩]))
def xUs : ACode := xOt
def xLX : List Nat := [1,2,5,6,7,8,9,10,11,12,13,14,15,16,17,18,19,20,21,22,23,24]
abbrev xLY (s0 s3 s4 : AV) : List AV := [s0,.any,.any,s3,s4,.any,.any,.any,.any,.any,.any,.any,.any,.any,.any,.any,.any,.any,.any,.any,.any,.any,.any,.any,.any]
theorem xRH (s0 s1 s2 s3 s4 s5 s6 s7 s8 s9 s10 s11 s12 s13 s14 s15 s16 s17 s18 s19 s20 s21 s22 s23 s24 : AV) : xAM xLX [s0,s1,s2,s3,s4,s5,s6,s7,s8,s9,s10,s11,s12,s13,s14,s15,s16,s17,s18,s19,s20,s21,s22,s23,s24] = xLY s0 s3 s4 := by kernel_rfl
theorem xVo {prog : Nat → Option AFunc} (s0 s3 s4 : AV) (H : Heap) : (lim prog).loop xLX xUs ⟨xLY s0 s3 s4,H⟩ = xCh (lim prog) xLX xUs (run (lim prog) xOt ⟨xLY s0 s3 s4,H⟩) := xAy _ _ _ _ (by kernel_rfl)
def a61 : AFunc := ⟨25,
 .seq (.region [⟨some 2,.mov (.c (.int .u8 0)),none⟩])
 (.seq (.seq (.region [⟨some 5,.mov (.t 0),none⟩,
 ⟨some 6,.len (.t 5),none⟩,
 ⟨some 7,.bin .lss (.t 6) (.c (.int .i64 1)),none⟩])
 (.cond (.t 7)
 (.stuck)
 (.skip)))
 (.seq (.region [⟨some 9,.mov (.t 0),none⟩,
 ⟨some 10,.iaddr 1 (.t 9) (.c (.int .i64 0)),none⟩,
 ⟨some 11,.load false 1 (.t 10),none⟩,
 ⟨some 3,.mov (.t 11),none⟩])
 (.seq (.seq (.region [⟨some 4,.mov (.c (.int .i64 1)),none⟩])
 (.block 0 (.loop xLX xUs)))
 (.seq (.region [⟨some 24,.mov (.t 3),none⟩,
 ⟨some 2,.mov (.t 24),none⟩])
 (.ret))))),
 [.tmp 2]⟩
def xYe : ACode :=
 .seq (.seq (.region [⟨some 11,.mov (.t 5),none⟩,
 ⟨some 12,.mov (.t 0),none⟩,
 ⟨some 13,.len (.t 12),none⟩,
 ⟨some 14,.bin .lss (.t 11) (.t 13),none⟩])
 (.cond (.t 14)
 (.skip)
 (.exit 0)))
 (.seq (.block 1 (.seq (.draw 5 [⟨some 17,.mov (.t 0),none⟩,
 ⟨some 18,.mov (.t 5),none⟩,
 ⟨some 19,.iaddr 1 (.t 17) (.t 18),none⟩,
 ⟨some 20,.load false 1 (.t 19),none⟩,
 ⟨some 21,.mov (.t 1),none⟩,
 ⟨some 22,.mov (.t 5),none⟩,
 ⟨some 23,.iaddr 1 (.t 21) (.t 22),none⟩,
 ⟨some 24,.load false 1 (.t 23),none⟩,
 ⟨some 25,.bin .neq (.t 20) (.t 24),none⟩])
 (.cond (.t 25)
 (.seq (.region [⟨some 4,.mov (.c (.bool false)),none⟩])
 (.ret))
 (.skip))))
 (.region [⟨some 15,.mov (.t 5),none⟩,
 ⟨some 16,.bin .add (.t 15) (.c (.int .i64 1)),none⟩,
 ⟨some 5,.mov (.t 16),none⟩]))
def xZF : ACode := xYe
def xYf : List Nat := [2,3,6,7,8,9,10,11,12,13,14,15,16,17,18,19,20,21,22,23,24,25]
def a65 : AFunc := ⟨26,
 .seq (.region [⟨some 4,.mov (.c (.bool false)),none⟩])
 (.seq (.seq (.region [⟨some 6,.mov (.t 0),none⟩,
 ⟨some 7,.len (.t 6),none⟩,
 ⟨some 8,.mov (.t 1),none⟩,
 ⟨some 9,.len (.t 8),none⟩,
 ⟨some 10,.bin .neq (.t 7) (.t 9),none⟩])
 (.cond (.t 10)
 (.seq (.region [⟨some 4,.mov (.c (.bool false)),none⟩])
 (.ret))
 (.skip)))
 (.seq (.seq (.region [⟨some 5,.mov (.c (.int .i64 0)),none⟩])
 (.block 0 (.loop xYf xZF)))
 (.seq (.region [⟨some 4,.mov (.c (.bool true)),none⟩])
 (.ret)))),
 [.tmp 4]⟩
def xYg : ACode :=
 .seq (.seq (.region [⟨some 11,.mov (.t 5),none⟩,
 ⟨some 12,.mov (.t 0),none⟩,
 ⟨some 13,.len (.t 12),none⟩,
 ⟨some 14,.bin .lss (.t 11) (.t 13),none⟩])
 (.cond (.t 14)
 (.skip)
 (.exit 0)))
 (.seq (.block 1 (.seq (.draw 5 [⟨some 17,.mov (.t 0),none⟩,
 ⟨some 18,.mov (.t 5),none⟩,
 ⟨some 19,.iaddr 1 (.t 17) (.t 18),none⟩,
 ⟨some 20,.load false 1 (.t 19),none⟩,
 ⟨some 21,.mov (.t 1),none⟩,
 ⟨some 22,.mov (.t 5),none⟩,
 ⟨some 23,.iaddr 1 (.t 21) (.t 22),none⟩,
 ⟨some 24,.load false 1 (.t 23),none⟩,
 ⟨some 25,.call 24 [(.t 20),(.t 24)],none⟩,
 ⟨some 26,.un .not (.t 25),none⟩])
 (.cond (.t 26)
 (.seq (.region [⟨some 4,.mov (.c (.bool false)),none⟩])
 (.ret))
 (.skip))))
 (.region [⟨some 15,.mov (.t 5),none⟩,
 ⟨some 16,.bin .add (.t 15) (.c (.int .i64 1)),none⟩,
 ⟨some 5,.mov (.t 16),none⟩]))
def xZG : ACode := xYg
def xYh : List Nat := [2,3,6,7,8,9,10,11,12,13,14,15,16,17,18,19,20,21,22,23,24,25,26]
def a66 : AFunc := ⟨27,
 .seq (.region [⟨some 4,.mov (.c (.bool false)),none⟩])
 (.seq (.seq (.region [⟨some 6,.mov (.t 0),none⟩,
 ⟨some 7,.len (.t 6),none⟩,
 ⟨some 8,.mov (.t 1),none⟩,
 ⟨some 9,.len (.t 8),none⟩,
 ⟨some 10,.bin .neq (.t 7) (.t 9),none⟩])
 (.cond (.t 10)
 (.seq (.region [⟨some 4,.mov (.c (.bool false)),none⟩])
 (.ret))
 (.skip)))
 (.seq (.seq (.region [⟨some 5,.mov (.c (.int .i64 0)),none⟩])
 (.block 0 (.loop xYh xZG)))
 (.seq (.region [⟨some 4,.mov (.c (.bool true)),none⟩])
 (.ret)))),
 [.tmp 4]⟩
def xYi : ACode :=
 .seq (.seq (.region [⟨some 11,.mov (.t 5),none⟩,
 ⟨some 12,.mov (.t 0),none⟩,
 ⟨some 13,.len (.t 12),none⟩,
 ⟨some 14,.bin .lss (.t 11) (.t 13),none⟩])
 (.cond (.t 14)
 (.skip)
 (.exit 0)))
 (.seq (.block 1 (.seq (.draw 5 [⟨some 17,.mov (.t 0),none⟩,
 ⟨some 18,.mov (.t 5),none⟩,
 ⟨some 19,.iaddr 1 (.t 17) (.t 18),none⟩,
 ⟨some 20,.load false 1 (.t 19),none⟩,
 ⟨some 21,.mov (.t 1),none⟩,
 ⟨some 22,.mov (.t 5),none⟩,
 ⟨some 23,.iaddr 1 (.t 21) (.t 22),none⟩,
 ⟨some 24,.load false 1 (.t 23),none⟩,
 ⟨some 25,.call 23 [(.t 20),(.t 24)],none⟩,
 ⟨some 26,.un .not (.t 25),none⟩])
 (.cond (.t 26)
 (.seq (.region [⟨some 4,.mov (.c (.bool false)),none⟩])
 (.ret))
 (.skip))))
 (.region [⟨some 15,.mov (.t 5),none⟩,
 ⟨some 16,.bin .add (.t 15) (.c (.int .i64 1)),none⟩,
 ⟨some 5,.mov (.t 16),none⟩]))
def xZH : ACode := xYi
def xYj : List Nat := [2,3,6,7,8,9,10,11,12,13,14,15,16,17,18,19,20,21,22,23,24,25,26]
def a67 : AFunc := ⟨27,
 .seq (.region [⟨some 4,.mov (.c (.bool false)),none⟩])
 (.seq (.seq (.region [⟨some 6,.mov (.t 0),none⟩,
 ⟨some 7,.len (.t 6),none⟩,
 ⟨some 8,.mov (.t 1),none⟩,
 ⟨some 9,.len (.t 8),none⟩,
 ⟨some 10,.bin .neq (.t 7) (.t 9),none⟩])
 (.cond (.t 10)
 (.seq (.region [⟨some 4,.mov (.c (.bool false)),none⟩])
 (.ret))
 (.skip)))
 (.seq (.seq (.region [⟨some 5,.mov (.c (.int .i64 0)),none⟩])
 (.block 0 (.loop xYj xZH)))
 (.seq (.region [⟨some 4,.mov (.c (.bool true)),none⟩])
 (.ret)))),
 [.tmp 4]⟩
def a68 : AFunc := ⟨52,
 .seq (.region [⟨some 3,.box (.t 1),none⟩,
 ⟨some 4,.box (.c (.agg [.sl true 0 [],.sl true 0 []])),none⟩,
 ⟨some 5,.mov (.c (.bool false)),none⟩])
 (.seq (.seq (.region [⟨some 8,.mov (.t 0),none⟩,
 ⟨some 9,.nilchk (.t 8),none⟩,
 ⟨some 10,.faddr 0 (.t 9),none⟩,
 ⟨some 11,.load false 1 (.t 10),none⟩,
 ⟨some 12,.mnil false (.t 11),none⟩])
 (.cond (.t 12)
 (.region [⟨some 13,.mov (.t 0),none⟩,
 ⟨some 14,.mkmap,none⟩,
 ⟨some 15,.nilchk (.t 13),none⟩,
 ⟨some 16,.faddr 0 (.t 15),none⟩,
 ⟨none,.store 1 (.t 16) (.t 14),none⟩])
 (.skip)))
 (.seq (.seq (.draw 9 [⟨some 18,.mov (.t 0),none⟩,
 ⟨some 19,.nilchk (.t 18),none⟩,
 ⟨some 20,.faddr 0 (.t 19),none⟩,
 ⟨some 21,.load false 1 (.t 20),none⟩,
 ⟨some 22,.load true 2 (.t 3),none⟩,
 ⟨some 23,.mlook [2,0,0] true (.int .i64 0) (.t 21) (.t 22),none⟩,
 ⟨some 17,.mov (.t 23),none⟩,
 ⟨some 24,.ext 0 (.t 17),none⟩,
 ⟨some 25,.ext 1 (.t 17),none⟩,
 ⟨some 6,.mov (.t 24),none⟩,
 ⟨some 7,.mov (.t 25),none⟩])
 (.seq (.region [⟨some 26,.mov (.t 7),none⟩])
 (.cond (.t 26)
 (.seq (.drawp [] [] 10 [⟨some 27,.mov (.t 0),none⟩,
 ⟨some 28,.nilchk (.t 27),none⟩,
 ⟨some 29,.faddr 1 (.t 28),none⟩,
 ⟨some 30,.load false 1 (.t 29),none⟩,
 ⟨some 31,.mov (.t 6),none⟩,
 ⟨some 32,.slice 1 (.t 30) none (some (.t 31)) none,none⟩,
 ⟨some 33,.mov (.t 0),none⟩,
 ⟨some 34,.nilchk (.t 33),none⟩,
 ⟨some 35,.faddr 1 (.t 34),none⟩,
 ⟨some 36,.load false 1 (.t 35),none⟩,
 ⟨some 37,.mov (.t 6),none⟩,
 ⟨some 38,.slice 1 (.t 36) (some (.t 37)) none none,none⟩,
 ⟨some 39,.build [.sl true 0 [],.sl true 0 []] [(0,1,(.t 32)),(1,1,(.t 38))],none⟩,
 ⟨some 40,.ocall 49 [(.t 39)],none⟩,
 ⟨none,.store 2 (.t 4) (.t 40),none⟩,
 ⟨some 5,.mov (.c (.bool true)),none⟩])
 (.ret))
 (.skip))))
 (.seq (.draw 5 [⟨some 41,.mov (.t 0),none⟩,
 ⟨some 42,.nilchk (.t 41),none⟩,
 ⟨some 43,.faddr 0 (.t 42),none⟩,
 ⟨some 44,.load false 1 (.t 43),none⟩,
 ⟨some 45,.load true 2 (.t 3),none⟩,
 ⟨some 46,.mov (.t 0),none⟩,
 ⟨some 47,.nilchk (.t 46),none⟩,
 ⟨some 48,.faddr 1 (.t 47),none⟩,
 ⟨some 49,.load false 1 (.t 48),none⟩,
 ⟨some 50,.len (.t 49),none⟩,
 ⟨none,.mupd [2,0,0] (.t 44) (.t 45) (.t 50),none⟩])
 (.seq (.region [⟨some 51,.build [.sl true 0 [],.sl true 0 []] [],none⟩,
 ⟨none,.store 2 (.t 4) (.t 51),none⟩,
 ⟨some 5,.mov (.c (.bool false)),none⟩])
 (.ret))))),
 [.cell 4 true 2,.tmp 5]⟩
def xYk : ACode :=
 .seq (.region [⟨some 33,.bin .lss (.t 32) (.t 31),none⟩])
 (.seq (.cond (.t 33)
 (.skip)
 (.exit 4))
 (.seq (.block 5 (.seq (.region [⟨some 34,.mov (.t 32),none⟩,
 ⟨some 35,.iaddr 1 (.t 30) (.t 32),none⟩,
 ⟨some 36,.load false 1 (.t 35),none⟩,
 ⟨some 10,.mov (.t 34),none⟩,
 ⟨some 11,.mov (.t 36),none⟩])
 (.region [⟨some 37,.mov (.t 9),none⟩,
 ⟨some 38,.mov (.t 10),none⟩,
 ⟨some 39,.mov (.t 3),none⟩,
 ⟨some 40,.mov (.t 11),none⟩,
 ⟨some 41,.iaddr 1 (.t 39) (.t 40),none⟩,
 ⟨some 42,.load false 1 (.t 41),none⟩,
 ⟨some 43,.iaddr 1 (.t 37) (.t 38),none⟩,
 ⟨none,.store 1 (.t 43) (.t 42),none⟩])))
 (.region [⟨some 44,.bin .add (.t 32) (.c (.int .i64 1)),none⟩,
 ⟨some 32,.mov (.t 44),none⟩])))
def xZI : ACode := xYk
def xYl : List Nat := [0,2,8,10,11,12,13,14,15,16,17,18,19,23,24,25,26,27,28,29,33,34,35,36,37,38,39,40,41,42,43,44,45,46,47,48,49,50,51,52,53,54,55,56,57,58,59,60,61,62,63,64,65,66,67,68,69,70,71]
def xYm : ACode :=
 .seq (.region [⟨some 23,.bin .lss (.t 22) (.t 21),none⟩])
 (.seq (.cond (.t 23)
 (.skip)
 (.exit 2))
 (.seq (.block 3 (.seq (.region [⟨some 24,.mov (.t 22),none⟩,
 ⟨some 25,.iaddr 1 (.t 20) (.t 22),none⟩,
 ⟨some 26,.load false 1 (.t 25),none⟩,
 ⟨some 7,.mov (.t 24),none⟩,
 ⟨some 8,.mov (.t 26),none⟩])
 (.seq (.region [⟨some 27,.mov (.t 8),none⟩,
 ⟨some 28,.len (.t 27),none⟩,
 ⟨some 29,.mkslice false [.int .i64 0] 8 (.t 28) (.t 28),none⟩,
 ⟨some 9,.mov (.t 29),none⟩])
 (.seq (.seq (.region [⟨some 30,.mov (.t 8),none⟩,
 ⟨some 31,.len (.t 30),none⟩,
 ⟨some 32,.mov (.c (.int .i64 0)),none⟩])
 (.block 4 (.loop xYl xZI)))
 (.draw 10 [⟨some 46,.mov (.t 6),none⟩,
 ⟨some 47,.mov (.t 7),none⟩,
 ⟨some 48,.faddr 4 (.t 1),none⟩,
 ⟨some 49,.load false 1 (.t 48),none⟩,
 ⟨some 50,.mov (.t 7),none⟩,
 ⟨some 51,.iaddr 1 (.t 49) (.t 50),none⟩,
 ⟨some 52,.load false 1 (.t 51),none⟩,
 ⟨some 53,.bstr (.t 52),none⟩,
 ⟨some 54,.mov (.t 9),none⟩,
 ⟨some 55,.call 93 [(.t 54)],none⟩,
 ⟨some 56,.build [.str ⟨#[]⟩,.str ⟨#[]⟩] [(0,1,(.t 53)),(1,1,(.t 55))],none⟩,
 ⟨some 57,.icall (.c (.func 92 [])) [(.t 5),(.t 56)],none⟩,
 ⟨some 45,.mov (.t 57),none⟩,
 ⟨some 58,.ext 0 (.t 45),none⟩,
 ⟨some 59,.ext 1 (.t 45),none⟩,
 ⟨some 60,.iaddr 1 (.t 46) (.t 47),none⟩,
 ⟨none,.store 1 (.t 60) (.t 58),none⟩])))))
 (.region [⟨some 61,.bin .add (.t 22) (.c (.int .i64 1)),none⟩,
 ⟨some 22,.mov (.t 61),none⟩])))
def xZJ : ACode := xYm
def xYn : List Nat := [0,2,7,8,9,10,11,12,13,14,15,16,17,18,19,23,24,25,26,27,28,29,30,31,32,33,34,35,36,37,38,39,40,41,42,43,44,45,46,47,48,49,50,51,52,53,54,55,56,57,58,59,60,61,62,63,64,65,66,67,68,69,70,71]
def xYo : ACode :=
 .block 1 (.seq (.region [⟨some 5,.box (.c (.agg [.nilm,.sl true 0 []])),none⟩])
 (.seq (.region [⟨some 16,.mov (.t 3),none⟩,
 ⟨some 17,.len (.t 16),none⟩,
 ⟨some 18,.mkslice false [.int .i64 0] 8 (.t 17) (.t 17),none⟩,
 ⟨some 6,.mov (.t 18),none⟩])
 (.seq (.seq (.region [⟨some 19,.faddr 3 (.t 1),none⟩,
 ⟨some 20,.load false 1 (.t 19),none⟩,
 ⟨some 21,.len (.t 20),none⟩,
 ⟨some 22,.mov (.c (.int .i64 0)),none⟩])
 (.block 2 (.loop xYn xZJ)))
 (.seq (.region [⟨some 62,.mov (.t 6),none⟩,
 ⟨some 3,.mov (.t 62),none⟩])
 (.seq (.seq (.region [⟨some 63,.faddr 1 (.t 5),none⟩,
 ⟨some 64,.load false 1 (.t 63),none⟩,
 ⟨some 65,.len (.t 64),none⟩,
 ⟨some 66,.mov (.t 4),none⟩,
 ⟨some 67,.bin .eql (.t 65) (.t 66),none⟩])
 (.cond (.t 67)
 (.seq (.region [⟨some 68,.mov (.t 3),none⟩,
 ⟨some 2,.mov (.t 68),none⟩])
 (.ret))
 (.skip)))
 (.region [⟨some 69,.faddr 1 (.t 5),none⟩,
 ⟨some 70,.load false 1 (.t 69),none⟩,
 ⟨some 71,.len (.t 70),none⟩,
 ⟨some 4,.mov (.t 71),none⟩]))))))
def xZK : ACode := xYo
def xYp : List Nat := [0,5,6,7,8,9,10,11,12,13,14,15,16,17,18,19,20,21,22,23,24,25,26,27,28,29,30,31,32,33,34,35,36,37,38,39,40,41,42,43,44,45,46,47,48,49,50,51,52,53,54,55,56,57,58,59,60,61,62,63,64,65,66,67,68,69,70,71]
def a69 : AFunc := ⟨72,
 .seq (.region [⟨some 1,.box (.t 0),none⟩,
 ⟨some 2,.mov (.c (.sl true 0 [])),none⟩])
 (.seq (.region [⟨some 12,.faddr 3 (.t 1),none⟩,
 ⟨some 13,.load false 1 (.t 12),none⟩,
 ⟨some 14,.len (.t 13),none⟩,
 ⟨some 15,.mkslice false [.int .i64 0] 8 (.t 14) (.t 14),none⟩,
 ⟨some 3,.mov (.t 15),none⟩])
 (.seq (.region [⟨some 4,.mov (.c (.int .i64 0)),none⟩])
 (.block 0 (.loop xYp xZK)))),
 [.tmp 2]⟩
def a70 : AFunc := ⟨54,
 .seq (.region [⟨some 4,.mov (.c (.int .i64 0)),none⟩,
 ⟨some 5,.mov (.c (.bool false)),none⟩])
 (.seq (.seq (.region [⟨some 8,.mov (.t 0),none⟩,
 ⟨some 9,.nilchk (.t 8),none⟩,
 ⟨some 10,.faddr 0 (.t 9),none⟩,
 ⟨some 11,.load false 1 (.t 10),none⟩,
 ⟨some 12,.mnil false (.t 11),none⟩])
 (.cond (.t 12)
 (.region [⟨some 13,.mov (.t 0),none⟩,
 ⟨some 14,.mkmap,none⟩,
 ⟨some 15,.nilchk (.t 13),none⟩,
 ⟨some 16,.faddr 0 (.t 15),none⟩,
 ⟨none,.store 1 (.t 16) (.t 14),none⟩])
 (.skip)))
 (.seq (.region [⟨some 18,.mov (.t 0),none⟩,
 ⟨some 19,.nilchk (.t 18),none⟩,
 ⟨some 20,.faddr 0 (.t 19),none⟩,
 ⟨some 21,.load false 1 (.t 20),none⟩,
 ⟨some 22,.mov (.t 1),none⟩,
 ⟨some 23,.mlook [0] true (.int .i64 0) (.t 21) (.t 22),none⟩,
 ⟨some 17,.mov (.t 23),none⟩,
 ⟨some 24,.ext 0 (.t 17),none⟩,
 ⟨some 25,.ext 1 (.t 17),none⟩,
 ⟨some 6,.mov (.t 24),none⟩,
 ⟨some 7,.mov (.t 25),none⟩])
 (.seq (.seq (.region [⟨some 26,.mov (.t 7),none⟩,
 ⟨some 27,.un .not (.t 26),none⟩])
 (.cond (.t 27)
 (.seq (.region [⟨some 28,.mov (.t 0),none⟩,
 ⟨some 29,.nilchk (.t 28),none⟩,
 ⟨some 30,.faddr 1 (.t 29),none⟩,
 ⟨some 31,.load false 1 (.t 30),none⟩,
 ⟨some 32,.len (.t 31),none⟩,
 ⟨some 6,.mov (.t 32),none⟩])
 (.drawl [(35,(1,(43,0)))] 11 [⟨some 33,.mov (.t 0),none⟩,
 ⟨some 34,.nilchk (.t 33),none⟩,
 ⟨some 35,.faddr 0 (.t 34),none⟩,
 ⟨some 36,.load false 1 (.t 35),none⟩,
 ⟨some 37,.mov (.t 1),none⟩,
 ⟨some 38,.mov (.t 0),none⟩,
 ⟨some 39,.mov (.t 6),none⟩,
 ⟨some 40,.mov (.t 0),none⟩,
 ⟨some 41,.nilchk (.t 40),none⟩,
 ⟨some 42,.faddr 1 (.t 41),none⟩,
 ⟨some 43,.load false 1 (.t 42),none⟩,
 ⟨some 44,.mov (.t 1),none⟩,
 ⟨some 45,.bslice true [.int .i64 0] 1 1 [(0,(.t 44))],none⟩,
 ⟨some 46,.append false 1 8 (.t 43) (.t 45),none⟩,
 ⟨some 47,.ment [0] (.int .i64 0) (.t 36) (.t 37),none⟩,
 ⟨some 48,.ext 1 (.t 47),none⟩,
 ⟨none,.mstore (.t 36) (.t 48) (.t 39),none⟩,
 ⟨some 49,.nilchk (.t 38),none⟩,
 ⟨some 50,.faddr 1 (.t 49),none⟩,
 ⟨none,.store 1 (.t 50) (.t 46),none⟩]))
 (.skip)))
 (.seq (.region [⟨some 51,.mov (.t 6),none⟩,
 ⟨some 52,.mov (.t 7),none⟩,
 ⟨some 53,.un .not (.t 52),none⟩,
 ⟨some 4,.mov (.t 51),none⟩,
 ⟨some 5,.mov (.t 53),none⟩])
 (.ret))))),
 [.tmp 4,.tmp 5]⟩
def a71 : AFunc := ⟨4,
 .seq (.region [⟨some 1,.box (.t 0),none⟩,
 ⟨some 2,.mov (.c (.nilf)),none⟩])
 (.seq (.region [⟨some 3,.mkfunc 94 [(.t 1)],none⟩,
 ⟨some 2,.mov (.t 3),none⟩])
 (.ret)),
 [.tmp 2]⟩
def a72 : AFunc := ⟨8,
 .seq (.region [⟨some 2,.mov (.c (.sl true 0 [])),none⟩])
 (.seq (.seq (.region [⟨some 3,.mov (.t 0),none⟩,
 ⟨some 4,.isnil false (.t 3),none⟩])
 (.cond (.t 4)
 (.seq (.region [⟨some 2,.mov (.c (.sl true 0 [])),none⟩])
 (.ret))
 (.skip)))
 (.seq (.region [⟨some 5,.bslice false [.int .u8 0] 1 0 [],none⟩,
 ⟨some 6,.mov (.t 0),none⟩,
 ⟨some 7,.append false 1 1 (.t 5) (.t 6),none⟩,
 ⟨some 2,.mov (.t 7),none⟩])
 (.ret))),
 [.tmp 2]⟩
def a74 : AFunc := ⟨54,
 .seq (.region [⟨some 3,.box (.t 1),none⟩,
 ⟨some 4,.mov (.c (.int .i64 0)),none⟩,
 ⟨some 5,.mov (.c (.bool false)),none⟩])
 (.seq (.seq (.region [⟨some 8,.mov (.t 0),none⟩,
 ⟨some 9,.nilchk (.t 8),none⟩,
 ⟨some 10,.faddr 0 (.t 9),none⟩,
 ⟨some 11,.load false 1 (.t 10),none⟩,
 ⟨some 12,.mnil false (.t 11),none⟩])
 (.cond (.t 12)
 (.region [⟨some 13,.mov (.t 0),none⟩,
 ⟨some 14,.mkmap,none⟩,
 ⟨some 15,.nilchk (.t 13),none⟩,
 ⟨some 16,.faddr 0 (.t 15),none⟩,
 ⟨none,.store 1 (.t 16) (.t 14),none⟩])
 (.skip)))
 (.seq (.draw 9 [⟨some 18,.mov (.t 0),none⟩,
 ⟨some 19,.nilchk (.t 18),none⟩,
 ⟨some 20,.faddr 0 (.t 19),none⟩,
 ⟨some 21,.load false 1 (.t 20),none⟩,
 ⟨some 22,.load true 2 (.t 3),none⟩,
 ⟨some 23,.mlook [2,0,0] true (.int .i64 0) (.t 21) (.t 22),none⟩,
 ⟨some 17,.mov (.t 23),none⟩,
 ⟨some 24,.ext 0 (.t 17),none⟩,
 ⟨some 25,.ext 1 (.t 17),none⟩,
 ⟨some 6,.mov (.t 24),none⟩,
 ⟨some 7,.mov (.t 25),none⟩])
 (.seq (.seq (.region [⟨some 26,.mov (.t 7),none⟩,
 ⟨some 27,.un .not (.t 26),none⟩])
 (.cond (.t 27)
 (.seq (.region [⟨some 28,.mov (.t 0),none⟩,
 ⟨some 29,.nilchk (.t 28),none⟩,
 ⟨some 30,.faddr 1 (.t 29),none⟩,
 ⟨some 31,.load false 1 (.t 30),none⟩,
 ⟨some 32,.len (.t 31),none⟩,
 ⟨some 6,.mov (.t 32),none⟩])
 (.drawl [(35,(1,(43,0))),(3,(2,(43,0)))] 11 [⟨some 33,.mov (.t 0),none⟩,
 ⟨some 34,.nilchk (.t 33),none⟩,
 ⟨some 35,.faddr 0 (.t 34),none⟩,
 ⟨some 36,.load false 1 (.t 35),none⟩,
 ⟨some 37,.load true 2 (.t 3),none⟩,
 ⟨some 38,.mov (.t 0),none⟩,
 ⟨some 39,.mov (.t 6),none⟩,
 ⟨some 40,.mov (.t 0),none⟩,
 ⟨some 41,.nilchk (.t 40),none⟩,
 ⟨some 42,.faddr 1 (.t 41),none⟩,
 ⟨some 43,.load false 1 (.t 42),none⟩,
 ⟨some 44,.load true 2 (.t 3),none⟩,
 ⟨some 45,.bslice true [.int .i64 0,.int .i64 0] 2 1 [(0,(.t 44))],none⟩,
 ⟨some 46,.append false 2 16 (.t 43) (.t 45),none⟩,
 ⟨some 47,.ment [2,0,0] (.int .i64 0) (.t 36) (.t 37),none⟩,
 ⟨some 48,.ext 1 (.t 47),none⟩,
 ⟨none,.mstore (.t 36) (.t 48) (.t 39),none⟩,
 ⟨some 49,.nilchk (.t 38),none⟩,
 ⟨some 50,.faddr 1 (.t 49),none⟩,
 ⟨none,.store 1 (.t 50) (.t 46),none⟩]))
 (.skip)))
 (.seq (.region [⟨some 51,.mov (.t 6),none⟩,
 ⟨some 52,.mov (.t 7),none⟩,
 ⟨some 53,.un .not (.t 52),none⟩,
 ⟨some 4,.mov (.t 51),none⟩,
 ⟨some 5,.mov (.t 53),none⟩])
 (.ret))))),
 [.tmp 4,.tmp 5]⟩
def a75 : AFunc := ⟨4,
 .seq (.region [⟨some 1,.box (.t 0),none⟩,
 ⟨some 2,.mov (.c (.nilf)),none⟩])
 (.seq (.region [⟨some 3,.mkfunc 95 [(.t 1)],none⟩,
 ⟨some 2,.mov (.t 3),none⟩])
 (.ret)),
 [.tmp 2]⟩
def xOu : ACode :=
 .seq (.region [⟨some 12,.bin .lss (.t 11) (.t 10),none⟩])
 (.seq (.cond (.t 12)
 (.skip)
 (.exit 0))
 (.seq (.block 1 (.seq (.region [⟨some 13,.iaddr 1 (.t 9) (.t 11),none⟩,
 ⟨some 14,.load false 1 (.t 13),none⟩,
 ⟨some 5,.mov (.t 14),none⟩])
 (.seq (.region [⟨some 15,.mov (.t 3),none⟩,
 ⟨some 16,.mov (.t 5),none⟩,
 ⟨some 17,.len (.t 16),none⟩,
 ⟨some 18,.bin .add (.t 15) (.t 17),none⟩,
 ⟨some 3,.mov (.t 18),none⟩])
 (.seq (.region [⟨some 19,.mov (.t 3),none⟩,
 ⟨some 20,.bin .lss (.t 19) (.c (.int .i64 0)),none⟩])
 (.cond (.t 20)
 (.stuck)
 (.skip))))))
 (.region [⟨some 22,.bin .add (.t 11) (.c (.int .i64 1)),none⟩,
 ⟨some 11,.mov (.t 22),none⟩])))
def xWM : ACode := xOu
def xOv : List Nat := [1,2,4,5,6,7,8,12,13,14,15,16,17,18,19,20,21,22,23,24,25,26,27,28,29,30,31,32,33,34,35]
abbrev xRI (s0 s3 s9 s10 s11 : AV) : List AV := [s0,.any,.any,s3,.any,.any,.any,.any,.any,s9,s10,s11,.any,.any,.any,.any,.any,.any,.any,.any,.any,.any,.any,.any,.any,.any,.any,.any,.any,.any,.any,.any,.any,.any,.any,.any]
theorem xVp (s0 s1 s2 s3 s4 s5 s6 s7 s8 s9 s10 s11 s12 s13 s14 s15 s16 s17 s18 s19 s20 s21 s22 s23 s24 s25 s26 s27 s28 s29 s30 s31 s32 s33 s34 s35 : AV) : xAM xOv [s0,s1,s2,s3,s4,s5,s6,s7,s8,s9,s10,s11,s12,s13,s14,s15,s16,s17,s18,s19,s20,s21,s22,s23,s24,s25,s26,s27,s28,s29,s30,s31,s32,s33,s34,s35] = xRI s0 s3 s9 s10 s11 := by kernel_rfl
theorem xVq {prog : Nat → Option AFunc} (s0 s3 s9 s10 s11 : AV) (H : Heap) : (lim prog).loop xOv xWM ⟨xRI s0 s3 s9 s10 s11,H⟩ = xCh (lim prog) xOv xWM (run (lim prog) xOu ⟨xRI s0 s3 s9 s10 s11,H⟩) := xAy _ _ _ _ (by kernel_rfl)
def xOw : ACode :=
 .seq (.region [⟨some 28,.bin .lss (.t 27) (.t 26),none⟩])
 (.seq (.cond (.t 28)
 (.skip)
 (.exit 2))
 (.seq (.block 3 (.seq (.region [⟨some 29,.iaddr 1 (.t 25) (.t 27),none⟩,
 ⟨some 30,.load false 1 (.t 29),none⟩,
 ⟨some 8,.mov (.t 30),none⟩])
 (.region [⟨some 31,.mov (.t 6),none⟩,
 ⟨some 32,.mov (.t 8),none⟩,
 ⟨some 33,.append false 1 1 (.t 31) (.t 32),none⟩,
 ⟨some 6,.mov (.t 33),none⟩])))
 (.region [⟨some 34,.bin .add (.t 27) (.c (.int .i64 1)),none⟩,
 ⟨some 27,.mov (.t 34),none⟩])))
def xWN : ACode := xOw
def xOx : List Nat := [0,1,2,3,4,5,7,8,9,10,11,12,13,14,15,16,17,18,19,20,21,22,23,24,28,29,30,31,32,33,34,35]
abbrev xRJ (s6 s25 s26 s27 : AV) : List AV := [.any,.any,.any,.any,.any,.any,s6,.any,.any,.any,.any,.any,.any,.any,.any,.any,.any,.any,.any,.any,.any,.any,.any,.any,.any,s25,s26,s27,.any,.any,.any,.any,.any,.any,.any,.any]
theorem xVr (s0 s1 s2 s3 s4 s5 s6 s7 s8 s9 s10 s11 s12 s13 s14 s15 s16 s17 s18 s19 s20 s21 s22 s23 s24 s25 s26 s27 s28 s29 s30 s31 s32 s33 s34 s35 : AV) : xAM xOx [s0,s1,s2,s3,s4,s5,s6,s7,s8,s9,s10,s11,s12,s13,s14,s15,s16,s17,s18,s19,s20,s21,s22,s23,s24,s25,s26,s27,s28,s29,s30,s31,s32,s33,s34,s35] = xRJ s6 s25 s26 s27 := by kernel_rfl
theorem xVs {prog : Nat → Option AFunc} (s6 s25 s26 s27 : AV) (H : Heap) : (lim prog).loop xOx xWN ⟨xRJ s6 s25 s26 s27,H⟩ = xCh (lim prog) xOx xWN (run (lim prog) xOw ⟨xRJ s6 s25 s26 s27,H⟩) := xAy _ _ _ _ (by kernel_rfl)
def a76 : AFunc := ⟨36,
 .seq (.region [⟨some 2,.mov (.c (.sl true 0 [])),none⟩])
 (.seq (.region [⟨some 3,.mov (.c (.int .i64 0)),none⟩])
 (.seq (.seq (.region [⟨some 9,.mov (.t 0),none⟩,
 ⟨some 10,.len (.t 9),none⟩,
 ⟨some 11,.mov (.c (.int .i64 0)),none⟩])
 (.block 0 (.loop xOv xWM)))
 (.seq (.region [⟨some 23,.mov (.t 3),none⟩,
 ⟨some 24,.icall (.c (.func 96 [])) [(.c (.sl true 0 [])),(.t 23)],none⟩,
 ⟨some 6,.mov (.t 24),none⟩])
 (.seq (.seq (.region [⟨some 25,.mov (.t 0),none⟩,
 ⟨some 26,.len (.t 25),none⟩,
 ⟨some 27,.mov (.c (.int .i64 0)),none⟩])
 (.block 2 (.loop xOx xWN)))
 (.seq (.region [⟨some 35,.mov (.t 6),none⟩,
 ⟨some 2,.mov (.t 35),none⟩])
 (.ret)))))),
 [.tmp 2]⟩
def a77 : AFunc := ⟨10,
 .seq (.region [⟨some 1,.box (.t 0),none⟩,
 ⟨some 2,.box (.c (.agg [.sl true 0 [],.sl true 0 []])),none⟩])
 (.seq (.seq (.region [⟨some 3,.faddr 1 (.t 1),none⟩,
 ⟨some 4,.load false 1 (.t 3),none⟩,
 ⟨some 5,.len (.t 4),none⟩,
 ⟨some 6,.bin .eql (.t 5) (.c (.int .i64 0)),none⟩])
 (.cond (.t 6)
 (.region [⟨some 7,.mkslice false [.int .u8 0] 1 (.c (.int .i64 1)) (.c (.int .i64 1)),none⟩,
 ⟨some 8,.faddr 1 (.t 1),none⟩,
 ⟨none,.store 1 (.t 8) (.t 7),none⟩])
 (.skip)))
 (.seq (.region [⟨some 9,.load true 2 (.t 1),none⟩,
 ⟨none,.store 2 (.t 2) (.t 9),none⟩])
 (.ret))),
 [.cell 2 true 2]⟩
def a80 : AFunc := ⟨9,
 .seq (.region [⟨some 3,.mov (.c (.bool false)),none⟩])
 (.seq (.region [⟨some 4,.mov (.t 0),none⟩,
 ⟨some 5,.conv .i64 (.t 4),none⟩,
 ⟨some 6,.load false 1 (.t 1),none⟩,
 ⟨some 7,.bin .shl (.c (.int .i64 1)) (.t 6),none⟩,
 ⟨some 8,.bin .geq (.t 5) (.t 7),none⟩,
 ⟨some 3,.mov (.t 8),none⟩])
 (.ret)),
 [.tmp 3]⟩
def xYq : ACode :=
 .seq (.seq (.draw 11 [⟨some 17,.mov (.t 4),none⟩,
 ⟨some 18,.bin .gtr (.t 17) (.c (.int .i64 0)),none⟩,
 ⟨some 19,.mov (.t 18),none⟩,
 ⟨some 20,.mov (.t 0),some (19,true)⟩,
 ⟨some 21,.mov (.t 5),some (19,true)⟩,
 ⟨some 22,.iaddr 1 (.t 20) (.t 21),some (19,true)⟩,
 ⟨some 23,.load false 1 (.t 22),some (19,true)⟩,
 ⟨some 24,.mov (.t 0),some (19,true)⟩,
 ⟨some 25,.mov (.t 4),some (19,true)⟩,
 ⟨some 26,.iaddr 1 (.t 24) (.t 25),some (19,true)⟩,
 ⟨some 27,.load false 1 (.t 26),some (19,true)⟩,
 ⟨some 28,.bin .neq (.t 23) (.t 27),some (19,true)⟩,
 ⟨some 29,.pick (.t 19) (.t 28) (.c (.bool false)),none⟩])
 (.cond (.t 29)
 (.skip)
 (.exit 2)))
 (.block 3 (.region [⟨some 30,.mov (.t 3),none⟩,
 ⟨some 31,.mov (.t 4),none⟩,
 ⟨some 32,.iaddr 1 (.t 30) (.t 31),none⟩,
 ⟨some 33,.load false 1 (.t 32),none⟩,
 ⟨some 4,.mov (.t 33),none⟩]))
def xZL : ACode := xYq
def xYr : List Nat := [1,2,6,7,8,9,10,11,12,13,14,15,16,17,18,19,20,21,22,23,24,25,26,27,28,29,30,31,32,33,34,35,36,37,38,39,40,41,42,43,44,45,46,47,48,49,50,51,52,53,54,55,56,57,58,59,60,61,62,63,64,65,66]
def xYs : ACode :=
 .seq (.seq (.region [⟨some 11,.mov (.t 5),none⟩,
 ⟨some 12,.mov (.t 0),none⟩,
 ⟨some 13,.len (.t 12),none⟩,
 ⟨some 14,.bin .lss (.t 11) (.t 13),none⟩])
 (.cond (.t 14)
 (.skip)
 (.exit 0)))
 (.seq (.block 1 (.seq (.block 2 (.loop xYr xZL))
 (.seq (.seq (.draw 5 [⟨some 34,.mov (.t 0),none⟩,
 ⟨some 35,.mov (.t 5),none⟩,
 ⟨some 36,.iaddr 1 (.t 34) (.t 35),none⟩,
 ⟨some 37,.load false 1 (.t 36),none⟩,
 ⟨some 38,.mov (.t 0),none⟩,
 ⟨some 39,.mov (.t 4),none⟩,
 ⟨some 40,.iaddr 1 (.t 38) (.t 39),none⟩,
 ⟨some 41,.load false 1 (.t 40),none⟩,
 ⟨some 42,.bin .eql (.t 37) (.t 41),none⟩])
 (.cond (.t 42)
 (.region [⟨some 43,.mov (.t 4),none⟩,
 ⟨some 44,.bin .add (.t 43) (.c (.int .i64 1)),none⟩,
 ⟨some 4,.mov (.t 44),none⟩])
 (.skip)))
 (.region [⟨some 45,.mov (.t 3),none⟩,
 ⟨some 46,.mov (.t 5),none⟩,
 ⟨some 47,.bin .add (.t 46) (.c (.int .i64 1)),none⟩,
 ⟨some 48,.mov (.t 4),none⟩,
 ⟨some 49,.iaddr 1 (.t 45) (.t 47),none⟩,
 ⟨none,.store 1 (.t 49) (.t 48),none⟩]))))
 (.region [⟨some 15,.mov (.t 5),none⟩,
 ⟨some 16,.bin .add (.t 15) (.c (.int .i64 1)),none⟩,
 ⟨some 5,.mov (.t 16),none⟩]))
def xZM : ACode := xYs
def xYt : List Nat := [1,2,6,7,8,9,10,11,12,13,14,15,16,17,18,19,20,21,22,23,24,25,26,27,28,29,30,31,32,33,34,35,36,37,38,39,40,41,42,43,44,45,46,47,48,49,50,51,52,53,54,55,56,57,58,59,60,61,62,63,64,65,66]
def a83 : AFunc := ⟨67,
 .seq (.region [⟨some 2,.mov (.c (.sl true 0 [])),none⟩])
 (.seq (.region [⟨some 7,.mov (.t 0),none⟩,
 ⟨some 8,.len (.t 7),none⟩,
 ⟨some 9,.bin .add (.t 8) (.c (.int .i64 1)),none⟩,
 ⟨some 10,.mkslice false [.int .i64 0] 8 (.t 9) (.t 9),none⟩,
 ⟨some 3,.mov (.t 10),none⟩])
 (.seq (.region [⟨some 4,.mov (.c (.int .i64 0)),none⟩])
 (.seq (.seq (.region [⟨some 5,.mov (.c (.int .i64 1)),none⟩])
 (.block 0 (.loop xYt xZM)))
 (.seq (.seq (.region [⟨some 50,.mov (.t 0),none⟩,
 ⟨some 51,.len (.t 50),none⟩,
 ⟨some 52,.mov (.t 3),none⟩,
 ⟨some 53,.mov (.t 0),none⟩,
 ⟨some 54,.len (.t 53),none⟩,
 ⟨some 55,.iaddr 1 (.t 52) (.t 54),none⟩,
 ⟨some 56,.load false 1 (.t 55),none⟩,
 ⟨some 57,.bin .sub (.t 51) (.t 56),none⟩,
 ⟨some 6,.mov (.t 57),none⟩])
 (.seq (.region [⟨some 58,.mov (.t 0),none⟩,
 ⟨some 59,.len (.t 58),none⟩,
 ⟨some 60,.mov (.t 6),none⟩,
 ⟨some 61,.bin .rem (.t 59) (.t 60),none⟩,
 ⟨some 62,.bin .eql (.t 61) (.c (.int .i64 0)),none⟩])
 (.cond (.t 62)
 (.seq (.region [⟨some 63,.mov (.t 0),none⟩,
 ⟨some 64,.mov (.t 6),none⟩,
 ⟨some 65,.slice 1 (.t 63) none (some (.t 64)) none,none⟩,
 ⟨some 2,.mov (.t 65),none⟩])
 (.ret))
 (.skip))))
 (.seq (.region [⟨some 66,.mov (.t 0),none⟩,
 ⟨some 2,.mov (.t 66),none⟩])
 (.ret)))))),
 [.tmp 2]⟩
def xI2 : ACode :=
 .seq (.region [⟨some 9,.bin .lss (.t 8) (.t 7),none⟩])
 (.seq (.cond (.t 9)
 (.skip)
 (.exit 0))
 (.seq (.block 1 (.seq (.region [⟨some 10,.mov (.t 8),none⟩,
 ⟨some 5,.mov (.t 10),none⟩])
 (.seq (.region [⟨some 11,.mov (.t 1),none⟩,
 ⟨some 12,.mov (.t 0),none⟩,
 ⟨some 13,.mov (.t 5),none⟩,
 ⟨some 14,.iaddr 1 (.t 12) (.t 13),none⟩,
 ⟨some 15,.load false 1 (.t 14),none⟩,
 ⟨some 16,.icall (.t 11) [(.t 15)],none⟩])
 (.cond (.t 16)
 (.seq (.region [⟨some 17,.mov (.t 5),none⟩,
 ⟨some 4,.mov (.t 17),none⟩])
 (.ret))
 (.skip)))))
 (.region [⟨some 18,.bin .add (.t 8) (.c (.int .i64 1)),none⟩,
 ⟨some 8,.mov (.t 18),none⟩])))
def xUt : ACode := xI2
def xLZ : List Nat := [2,3,5,6,9,10,11,12,13,14,15,16,17,18]
abbrev xI3 (s0 s1 s4 s7 s8 : AV) : List AV := [s0,s1,.any,.any,s4,.any,.any,s7,s8,.any,.any,.any,.any,.any,.any,.any,.any,.any,.any]
theorem xI4 (s0 s1 s2 s3 s4 s5 s6 s7 s8 s9 s10 s11 s12 s13 s14 s15 s16 s17 s18 : AV) : xAM xLZ [s0,s1,s2,s3,s4,s5,s6,s7,s8,s9,s10,s11,s12,s13,s14,s15,s16,s17,s18] = xI3 s0 s1 s4 s7 s8 := by kernel_rfl
theorem xRK {prog : Nat → Option AFunc} (s0 s1 s4 s7 s8 : AV) (H : Heap) : (lim prog).loop xLZ xUt ⟨xI3 s0 s1 s4 s7 s8,H⟩ = xCh (lim prog) xLZ xUt (run (lim prog) xI2 ⟨xI3 s0 s1 s4 s7 s8,H⟩) := xAy _ _ _ _ (by kernel_rfl)
def a85 : AFunc := ⟨19,
 .seq (.region [⟨some 4,.mov (.c (.int .i64 0)),none⟩])
 (.seq (.seq (.region [⟨some 6,.mov (.t 0),none⟩,
 ⟨some 7,.len (.t 6),none⟩,
 ⟨some 8,.mov (.c (.int .i64 0)),none⟩])
 (.block 0 (.loop xLZ xUt)))
 (.seq (.region [⟨some 4,.mov (.c (.int .i64 (-1))),none⟩])
 (.ret))),
 [.tmp 4]⟩
def a90 : AFunc := ⟨9,
 .seq (.region [⟨some 4,.mov (.c (.bool false)),none⟩])
 (.seq (.region [⟨some 5,.mov (.t 0),none⟩,
 ⟨some 6,.mov (.t 1),none⟩,
 ⟨some 7,.icall (.c (.func 99 [])) [(.t 5),(.t 6)],none⟩,
 ⟨some 8,.bin .geq (.t 7) (.c (.int .i64 0)),none⟩,
 ⟨some 4,.mov (.t 8),none⟩])
 (.ret)),
 [.tmp 4]⟩
def a91 : AFunc := ⟨11,
 .seq (.region [⟨some 3,.mov (.c (.bool false)),none⟩])
 (.seq (.region [⟨some 4,.mov (.t 0),none⟩,
 ⟨some 5,.bin .lss (.t 4) (.c (.int .i64 0)),none⟩,
 ⟨some 6,.mov (.t 5),none⟩,
 ⟨some 7,.mov (.t 0),some (6,false)⟩,
 ⟨some 8,.load false 1 (.t 1),some (6,false)⟩,
 ⟨some 9,.bin .geq (.t 7) (.t 8),some (6,false)⟩,
 ⟨some 10,.pick (.t 6) (.c (.bool true)) (.t 9),none⟩,
 ⟨some 3,.mov (.t 10),none⟩])
 (.ret)),
 [.tmp 3]⟩
def a92 : AFunc := ⟨54,
 .seq (.region [⟨some 3,.box (.t 1),none⟩,
 ⟨some 4,.mov (.c (.int .i64 0)),none⟩,
 ⟨some 5,.mov (.c (.bool false)),none⟩])
 (.seq (.seq (.region [⟨some 8,.mov (.t 0),none⟩,
 ⟨some 9,.nilchk (.t 8),none⟩,
 ⟨some 10,.faddr 0 (.t 9),none⟩,
 ⟨some 11,.load false 1 (.t 10),none⟩,
 ⟨some 12,.mnil false (.t 11),none⟩])
 (.cond (.t 12)
 (.region [⟨some 13,.mov (.t 0),none⟩,
 ⟨some 14,.mkmap,none⟩,
 ⟨some 15,.nilchk (.t 13),none⟩,
 ⟨some 16,.faddr 0 (.t 15),none⟩,
 ⟨none,.store 1 (.t 16) (.t 14),none⟩])
 (.skip)))
 (.seq (.draw 9 [⟨some 18,.mov (.t 0),none⟩,
 ⟨some 19,.nilchk (.t 18),none⟩,
 ⟨some 20,.faddr 0 (.t 19),none⟩,
 ⟨some 21,.load false 1 (.t 20),none⟩,
 ⟨some 22,.load true 2 (.t 3),none⟩,
 ⟨some 23,.mlook [2,1,1] true (.int .i64 0) (.t 21) (.t 22),none⟩,
 ⟨some 17,.mov (.t 23),none⟩,
 ⟨some 24,.ext 0 (.t 17),none⟩,
 ⟨some 25,.ext 1 (.t 17),none⟩,
 ⟨some 6,.mov (.t 24),none⟩,
 ⟨some 7,.mov (.t 25),none⟩])
 (.seq (.seq (.region [⟨some 26,.mov (.t 7),none⟩,
 ⟨some 27,.un .not (.t 26),none⟩])
 (.cond (.t 27)
 (.seq (.region [⟨some 28,.mov (.t 0),none⟩,
 ⟨some 29,.nilchk (.t 28),none⟩,
 ⟨some 30,.faddr 1 (.t 29),none⟩,
 ⟨some 31,.load false 1 (.t 30),none⟩,
 ⟨some 32,.len (.t 31),none⟩,
 ⟨some 6,.mov (.t 32),none⟩])
 (.drawl [(35,(1,(43,0))),(3,(2,(43,0)))] 11 [⟨some 33,.mov (.t 0),none⟩,
 ⟨some 34,.nilchk (.t 33),none⟩,
 ⟨some 35,.faddr 0 (.t 34),none⟩,
 ⟨some 36,.load false 1 (.t 35),none⟩,
 ⟨some 37,.load true 2 (.t 3),none⟩,
 ⟨some 38,.mov (.t 0),none⟩,
 ⟨some 39,.mov (.t 6),none⟩,
 ⟨some 40,.mov (.t 0),none⟩,
 ⟨some 41,.nilchk (.t 40),none⟩,
 ⟨some 42,.faddr 1 (.t 41),none⟩,
 ⟨some 43,.load false 1 (.t 42),none⟩,
 ⟨some 44,.load true 2 (.t 3),none⟩,
 ⟨some 45,.bslice true [.str ⟨#[]⟩,.str ⟨#[]⟩] 2 1 [(0,(.t 44))],none⟩,
 ⟨some 46,.append false 2 32 (.t 43) (.t 45),none⟩,
 ⟨some 47,.ment [2,1,1] (.int .i64 0) (.t 36) (.t 37),none⟩,
 ⟨some 48,.ext 1 (.t 47),none⟩,
 ⟨none,.mstore (.t 36) (.t 48) (.t 39),none⟩,
 ⟨some 49,.nilchk (.t 38),none⟩,
 ⟨some 50,.faddr 1 (.t 49),none⟩,
 ⟨none,.store 1 (.t 50) (.t 46),none⟩]))
 (.skip)))
 (.seq (.region [⟨some 51,.mov (.t 6),none⟩,
 ⟨some 52,.mov (.t 7),none⟩,
 ⟨some 53,.un .not (.t 52),none⟩,
 ⟨some 4,.mov (.t 51),none⟩,
 ⟨some 5,.mov (.t 53),none⟩])
 (.ret))))),
 [.tmp 4,.tmp 5]⟩
def xYu : ACode :=
 .seq (.seq (.region [⟨some 4,.mov (.t 3),none⟩,
 ⟨some 5,.load false 1 (.t 1),none⟩,
 ⟨some 6,.nilchk (.t 5),none⟩,
 ⟨some 7,.faddr 1 (.t 6),none⟩,
 ⟨some 8,.load false 1 (.t 7),none⟩,
 ⟨some 9,.len (.t 8),none⟩,
 ⟨some 10,.bin .lss (.t 4) (.t 9),none⟩])
 (.cond (.t 10)
 (.skip)
 (.exit 0)))
 (.seq (.block 1 (.seq (.region [⟨some 13,.mov (.t 0),none⟩,
 ⟨some 14,.mov (.t 3),none⟩,
 ⟨some 15,.load false 1 (.t 1),none⟩,
 ⟨some 16,.nilchk (.t 15),none⟩,
 ⟨some 17,.faddr 1 (.t 16),none⟩,
 ⟨some 18,.load false 1 (.t 17),none⟩,
 ⟨some 19,.mov (.t 3),none⟩,
 ⟨some 20,.iaddr 1 (.t 18) (.t 19),none⟩,
 ⟨some 21,.load false 1 (.t 20),none⟩,
 ⟨some 22,.icall (.t 13) [(.t 14),(.t 21)],none⟩,
 ⟨some 23,.un .not (.t 22),none⟩])
 (.cond (.t 23)
 (.ret)
 (.skip))))
 (.region [⟨some 11,.mov (.t 3),none⟩,
 ⟨some 12,.bin .add (.t 11) (.c (.int .i64 1)),none⟩,
 ⟨some 3,.mov (.t 12),none⟩]))
def xZN : ACode := xYu
def xYv : List Nat := [2,4,5,6,7,8,9,10,11,12,13,14,15,16,17,18,19,20,21,22,23]
def a94 : AFunc := ⟨24,
 .seq (.region [⟨some 3,.mov (.c (.int .i64 0)),none⟩])
 (.block 0 (.loop xYv xZN)),
 []⟩
def xL0 : ACode :=
 .seq (.seq (.region [⟨some 4,.mov (.t 3),none⟩,
 ⟨some 5,.load false 1 (.t 1),none⟩,
 ⟨some 6,.nilchk (.t 5),none⟩,
 ⟨some 7,.faddr 1 (.t 6),none⟩,
 ⟨some 8,.load false 1 (.t 7),none⟩,
 ⟨some 9,.len (.t 8),none⟩,
 ⟨some 10,.bin .lss (.t 4) (.t 9),none⟩])
 (.cond (.t 10)
 (.skip)
 (.exit 0)))
 (.seq (.block 1 (.seq (.region [⟨some 13,.mov (.t 0),none⟩,
 ⟨some 14,.mov (.t 3),none⟩,
 ⟨some 15,.load false 1 (.t 1),none⟩,
 ⟨some 16,.nilchk (.t 15),none⟩,
 ⟨some 17,.faddr 1 (.t 16),none⟩,
 ⟨some 18,.load false 1 (.t 17),none⟩,
 ⟨some 19,.mov (.t 3),none⟩,
 ⟨some 20,.iaddr 2 (.t 18) (.t 19),none⟩,
 ⟨some 21,.load true 2 (.t 20),none⟩,
 ⟨some 22,.icall (.t 13) [(.t 14),(.t 21)],none⟩,
 ⟨some 23,.un .not (.t 22),none⟩])
 (.cond (.t 23)
 (.ret)
 (.skip))))
 (.region [⟨some 11,.mov (.t 3),none⟩,
 ⟨some 12,.bin .add (.t 11) (.c (.int .i64 1)),none⟩,
 ⟨some 3,.mov (.t 12),none⟩]))
def xKH : ACode := xL0
def xD7 : List Nat := [2,4,5,6,7,8,9,10,11,12,13,14,15,16,17,18,19,20,21,22,23]
abbrev xDE (s0 s1 s3 : AV) : List AV := [s0,s1,.any,s3,.any,.any,.any,.any,.any,.any,.any,.any,.any,.any,.any,.any,.any,.any,.any,.any,.any,.any,.any,.any]
theorem xL1 (s0 s1 s2 s3 s4 s5 s6 s7 s8 s9 s10 s11 s12 s13 s14 s15 s16 s17 s18 s19 s20 s21 s22 s23 : AV) : xAM xD7 [s0,s1,s2,s3,s4,s5,s6,s7,s8,s9,s10,s11,s12,s13,s14,s15,s16,s17,s18,s19,s20,s21,s22,s23] = xDE s0 s1 s3 := by kernel_rfl
theorem xRL {prog : Nat → Option AFunc} (s0 s1 s3 : AV) (H : Heap) : (lim prog).loop xD7 xKH ⟨xDE s0 s1 s3,H⟩ = xCh (lim prog) xD7 xKH (run (lim prog) xL0 ⟨xDE s0 s1 s3,H⟩) := xAy _ _ _ _ (by kernel_rfl)
def a95 : AFunc := ⟨24,
 .seq (.region [⟨some 3,.mov (.c (.int .i64 0)),none⟩])
 (.block 0 (.loop xD7 xKH)),
 []⟩
def a96 : AFunc := ⟨27,
 .seq (.region [⟨some 4,.mov (.c (.sl true 0 [])),none⟩])
 (.seq (.seq (.region [⟨some 5,.mov (.t 1),none⟩,
 ⟨some 6,.bin .lss (.t 5) (.c (.int .i64 0)),none⟩])
 (.cond (.t 6)
 (.stuck)
 (.skip)))
 (.seq (.seq (.region [⟨some 8,.mov (.t 1),none⟩,
 ⟨some 9,.mov (.t 0),none⟩,
 ⟨some 10,.cap (.t 9),none⟩,
 ⟨some 11,.mov (.t 0),none⟩,
 ⟨some 12,.len (.t 11),none⟩,
 ⟨some 13,.bin .sub (.t 10) (.t 12),none⟩,
 ⟨some 14,.bin .sub (.t 8) (.t 13),none⟩,
 ⟨some 1,.mov (.t 14),none⟩])
 (.seq (.region [⟨some 15,.mov (.t 1),none⟩,
 ⟨some 16,.bin .gtr (.t 15) (.c (.int .i64 0)),none⟩])
 (.cond (.t 16)
 (.region [⟨some 17,.mov (.t 0),none⟩,
 ⟨some 18,.mov (.t 0),none⟩,
 ⟨some 19,.cap (.t 18),none⟩,
 ⟨some 20,.slice 1 (.t 17) none (some (.t 19)) none,none⟩,
 ⟨some 21,.mov (.t 1),none⟩,
 ⟨some 22,.appendz [.int .u8 0] 1 (.t 20) (.t 21),none⟩,
 ⟨some 23,.mov (.t 0),none⟩,
 ⟨some 24,.len (.t 23),none⟩,
 ⟨some 25,.slice 1 (.t 22) none (some (.t 24)) none,none⟩,
 ⟨some 0,.mov (.t 25),none⟩])
 (.skip))))
 (.seq (.region [⟨some 26,.mov (.t 0),none⟩,
 ⟨some 4,.mov (.t 26),none⟩])
 (.ret)))),
 [.tmp 4]⟩
def xI5 : ACode :=
 .seq (.region [⟨some 9,.bin .lss (.t 8) (.t 7),none⟩])
 (.seq (.cond (.t 9)
 (.skip)
 (.exit 0))
 (.seq (.block 1 (.seq (.region [⟨some 10,.mov (.t 8),none⟩,
 ⟨some 5,.mov (.t 10),none⟩])
 (.seq (.region [⟨some 11,.mov (.t 1),none⟩,
 ⟨some 12,.mov (.t 0),none⟩,
 ⟨some 13,.mov (.t 5),none⟩,
 ⟨some 14,.iaddr 1 (.t 12) (.t 13),none⟩,
 ⟨some 15,.load false 1 (.t 14),none⟩,
 ⟨some 16,.icall (.t 11) [(.t 15)],none⟩])
 (.cond (.t 16)
 (.seq (.region [⟨some 17,.mov (.t 5),none⟩,
 ⟨some 4,.mov (.t 17),none⟩])
 (.ret))
 (.skip)))))
 (.region [⟨some 18,.bin .add (.t 8) (.c (.int .i64 1)),none⟩,
 ⟨some 8,.mov (.t 18),none⟩])))
def xUu : ACode := xI5
def xL2 : List Nat := [2,3,5,6,9,10,11,12,13,14,15,16,17,18]
abbrev xI6 (s0 s1 s4 s7 s8 : AV) : List AV := [s0,s1,.any,.any,s4,.any,.any,s7,s8,.any,.any,.any,.any,.any,.any,.any,.any,.any,.any]
theorem xI7 (s0 s1 s2 s3 s4 s5 s6 s7 s8 s9 s10 s11 s12 s13 s14 s15 s16 s17 s18 : AV) : xAM xL2 [s0,s1,s2,s3,s4,s5,s6,s7,s8,s9,s10,s11,s12,s13,s14,s15,s16,s17,s18] = xI6 s0 s1 s4 s7 s8 := by kernel_rfl
theorem xRM {prog : Nat → Option AFunc} (s0 s1 s4 s7 s8 : AV) (H : Heap) : (lim prog).loop xL2 xUu ⟨xI6 s0 s1 s4 s7 s8,H⟩ = xCh (lim prog) xL2 xUu (run (lim prog) xI5 ⟨xI6 s0 s1 s4 s7 s8,H⟩) := xAy _ _ _ _ (by kernel_rfl)
def a99 : AFunc := ⟨19,
 .seq (.region [⟨some 4,.mov (.c (.int .i64 0)),none⟩])
 (.seq (.seq (.region [⟨some 6,.mov (.t 0),none⟩,
 ⟨some 7,.len (.t 6),none⟩,
 ⟨some 8,.mov (.c (.int .i64 0)),none⟩])
 (.block 0 (.loop xL2 xUu)))
 (.seq (.region [⟨some 4,.mov (.c (.int .i64 (-1))),none⟩])
 (.ret))),
 [.tmp 4]⟩
def xAQ : Nat → Option AFunc
 | 7 => some a7
 | 11 => some a11
 | 13 => some a13
 | 16 => some a16
 | 18 => some a18
 | 21 => some a21
 | 23 => some a23
 | 24 => some a24
 | 25 => some a25
 | 29 => some a29
 | 31 => some a31
 | 33 => some a33
 | 35 => some a35
 | 37 => some a37
 | 41 => some a41
 | 42 => some a42
 | 43 => some a43
 | 45 => some a45
 | 47 => some a47
 | 49 => some a49
 | 52 => some a52
 | 53 => some a53
 | 54 => some a54
 | 55 => some a55
 | 59 => some a59
 | 60 => some a60
 | 61 => some a61
 | 65 => some a65
 | 66 => some a66
 | 67 => some a67
 | 68 => some a68
 | 69 => some a69
 | 70 => some a70
 | 71 => some a71
 | 72 => some a72
 | 74 => some a74
 | 75 => some a75
 | 76 => some a76
 | 77 => some a77
 | 80 => some a80
 | 83 => some a83
 | 85 => some a85
 | 90 => some a90
 | 91 => some a91
 | 92 => some a92
 | 94 => some a94
 | 95 => some a95
 | 96 => some a96
 | 99 => some a99
 | _ => none
theorem a7p (args : List AV) : (lim xAQ).pcall 7 args = xBt (lim xAQ) a7 args := xAO rfl args
theorem yAL (args : List AV) : (lim xAQ).pcall 11 args = xBt (lim xAQ) a11 args := xAO rfl args
theorem xZn (args : List AV) : (lim xAQ).pcall 16 args = xBt (lim xAQ) a16 args := xAO rfl args
theorem xZo (caps args : List AV) (H : Heap) : (lim xAQ).icall (.func 16 caps) args H = xBU (lim xAQ) a16 (args ++ caps) H := xAP rfl caps args H
theorem yAt (args : List AV) : (lim xAQ).pcall 21 args = xBt (lim xAQ) a21 args := xAO rfl args
theorem yAu (args : List AV) : (lim xAQ).pcall 23 args = xBt (lim xAQ) a23 args := xAO rfl args
theorem xXM (args : List AV) : (lim xAQ).pcall 37 args = xBt (lim xAQ) a37 args := xAO rfl args
theorem xZO (args : List AV) : (lim xAQ).pcall 41 args = xBt (lim xAQ) a41 args := xAO rfl args
theorem yAM (caps args : List AV) (H : Heap) : (lim xAQ).icall (.func 52 caps) args H = xBU (lim xAQ) a52 (args ++ caps) H := xAP rfl caps args H
theorem yAN (caps args : List AV) (H : Heap) : (lim xAQ).icall (.func 53 caps) args H = xBU (lim xAQ) a53 (args ++ caps) H := xAP rfl caps args H
theorem yAO (args : List AV) : (lim xAQ).pcall 59 args = xBt (lim xAQ) a59 args := xAO rfl args
theorem yAP (args : List AV) : (lim xAQ).pcall 60 args = xBt (lim xAQ) a60 args := xAO rfl args
theorem yAQ (args : List AV) : (lim xAQ).pcall 61 args = xBt (lim xAQ) a61 args := xAO rfl args
theorem xZp (caps args : List AV) (H : Heap) : (lim xAQ).icall (.func 74 caps) args H = xBU (lim xAQ) a74 (args ++ caps) H := xAP rfl caps args H
theorem yAv (caps args : List AV) (H : Heap) : (lim xAQ).icall (.func 75 caps) args H = xBU (lim xAQ) a75 (args ++ caps) H := xAP rfl caps args H
theorem yAw (args : List AV) : (lim xAQ).pcall 76 args = xBt (lim xAQ) a76 args := xAO rfl args
theorem yAx (caps args : List AV) (H : Heap) : (lim xAQ).icall (.func 85 caps) args H = xBU (lim xAQ) a85 (args ++ caps) H := xAP rfl caps args H
theorem yAR (caps args : List AV) (H : Heap) : (lim xAQ).icall (.func 90 caps) args H = xBU (lim xAQ) a90 (args ++ caps) H := xAP rfl caps args H
theorem yAS (caps args : List AV) (H : Heap) : (lim xAQ).icall (.func 91 caps) args H = xBU (lim xAQ) a91 (args ++ caps) H := xAP rfl caps args H
theorem yAT (caps args : List AV) (H : Heap) : (lim xAQ).icall (.func 95 caps) args H = xBU (lim xAQ) a95 (args ++ caps) H := xAP rfl caps args H
theorem yAy (caps args : List AV) (H : Heap) : (lim xAQ).icall (.func 96 caps) args H = xBU (lim xAQ) a96 (args ++ caps) H := xAP rfl caps args H
theorem yAz (caps args : List AV) (H : Heap) : (lim xAQ).icall (.func 99 caps) args H = xBU (lim xAQ) a99 (args ++ caps) H := xAP rfl caps args H
end Go.Abs.Mealy
