/- The functions in the interpreter's words. -/
import Derived.Test.YtkpbekcgigigkaaDoorAbsEnc
import Derived.Test.YtkpbekcgigigkaaDoorProg
namespace Go.Abs.Mealy
open Go Go.Abs
def a3 : AFunc := ⟨114,
 .seq (.region [⟨some 3,.box (.t 0),none⟩,
 ⟨some 5,.box (.t 2),none⟩,
 ⟨some 6,.mov (.c (.bool false)),none⟩])
 (.seq (.seq (.region [⟨some 19,.load true 5 (.t 3),none⟩,
 ⟨some 20,.bslice true [.int .i64 0,.int .i64 0,.int .i64 0,.sl true 0 [],.sl true 0 []] 5 1 [(0,(.t 19))],none⟩,
 ⟨some 21,.call 11 [(.t 20)],none⟩,
 ⟨some 22,.mov (.t 21),none⟩,
 ⟨some 23,.mov (.t 1),some (22,false)⟩,
 ⟨some 24,.len (.t 23),some (22,false)⟩,
 ⟨some 25,.bin .gtr (.t 24) (.c (.int .i64 70)),some (22,false)⟩,
 ⟨some 26,.pick (.t 22) (.c (.bool true)) (.t 25),none⟩,
 ⟨some 27,.mov (.t 26),none⟩,
 ⟨some 28,.load true 2 (.t 5),some (27,false)⟩,
 ⟨some 29,.bslice true [.sl true 0 [],.sl true 0 []] 2 1 [(0,(.t 28))],some (27,false)⟩,
 ⟨some 30,.call 12 [(.t 29)],some (27,false)⟩,
 ⟨some 31,.pick (.t 27) (.c (.bool true)) (.t 30),none⟩])
 (.cond (.t 31)
 (.seq (.region [⟨some 32,.call 13 [],none⟩,
 ⟨some 6,.mov (.t 32),none⟩])
 (.ret))
 (.skip)))
 (.seq (.region [⟨some 33,.load true 5 (.t 3),none⟩,
 ⟨some 34,.call 14 [(.t 33)],none⟩,
 ⟨some 35,.mov (.t 1),none⟩,
 ⟨some 36,.call 15 [(.t 35)],none⟩,
 ⟨some 7,.box (.c (.agg [.int .i64 0,.int .i64 0,.int .i64 0,.sl true 0 [],.sl true 0 []])),none⟩,
 ⟨none,.store 5 (.t 7) (.t 34),none⟩,
 ⟨some 8,.mov (.t 36),none⟩])
 (.seq (.region [⟨some 38,.load true 5 (.t 7),none⟩,
 ⟨some 39,.mov (.t 8),none⟩,
 ⟨some 40,.ocall 16 [(.t 38),(.t 39)],none⟩,
 ⟨some 37,.mov (.t 40),none⟩,
 ⟨some 41,.ext 0 (.t 37),none⟩,
 ⟨some 42,.ext 1 (.t 37),none⟩,
 ⟨some 43,.ext 2 (.t 37),none⟩,
 ⟨some 9,.mov (.t 41),none⟩,
 ⟨some 10,.mov (.t 42),none⟩,
 ⟨some 11,.mov (.t 43),none⟩])
 (.seq (.region [⟨some 45,.load true 5 (.t 3),none⟩,
 ⟨some 46,.mov (.t 1),none⟩,
 ⟨some 47,.call 17 [(.t 45),(.t 46)],none⟩,
 ⟨some 44,.mov (.t 47),none⟩,
 ⟨some 48,.ext 0 (.t 44),none⟩,
 ⟨some 49,.ext 1 (.t 44),none⟩,
 ⟨some 50,.ext 2 (.t 44),none⟩,
 ⟨some 12,.mov (.t 48),none⟩,
 ⟨some 13,.mov (.t 49),none⟩,
 ⟨some 14,.mov (.t 50),none⟩])
 (.seq (.drawp [(56,4151)] [] 8 [⟨some 52,.load true 5 (.t 7),none⟩,
 ⟨some 53,.load true 2 (.t 5),none⟩,
 ⟨some 54,.call 19 [(.t 53)],none⟩,
 ⟨some 55,.ocall 18 [(.t 52),(.t 54)],none⟩,
 ⟨some 51,.mov (.t 55),none⟩,
 ⟨some 56,.ext 0 (.t 51),none⟩,
 ⟨some 57,.ext 1 (.t 51),none⟩,
 ⟨some 15,.box (.c (.agg [.sl true 0 [],.sl true 0 []])),none⟩,
 ⟨none,.store 2 (.t 15) (.t 56),none⟩,
 ⟨some 16,.mov (.t 57),none⟩])
 (.seq (.region [⟨some 59,.load true 5 (.t 3),none⟩,
 ⟨some 60,.load true 2 (.t 5),none⟩,
 ⟨some 61,.call 20 [(.t 59),(.t 60)],none⟩,
 ⟨some 58,.mov (.t 61),none⟩,
 ⟨some 62,.ext 0 (.t 58),none⟩,
 ⟨some 63,.ext 1 (.t 58),none⟩,
 ⟨some 17,.box (.c (.agg [.sl true 0 [],.sl true 0 []])),none⟩,
 ⟨none,.store 2 (.t 17) (.t 62),none⟩,
 ⟨some 18,.mov (.t 63),none⟩])
 (.seq (.seq (.draw 30 [⟨some 64,.load true 5 (.t 7),none⟩,
 ⟨some 65,.call 21 [(.t 64)],none⟩,
 ⟨some 66,.load true 5 (.t 3),none⟩,
 ⟨some 67,.call 22 [(.t 66)],none⟩,
 ⟨some 68,.bin .neq (.t 65) (.t 67),none⟩,
 ⟨some 69,.mov (.t 68),none⟩,
 ⟨some 70,.mov (.t 11),some (69,false)⟩,
 ⟨some 71,.mov (.t 14),some (69,false)⟩,
 ⟨some 72,.bin .neq (.t 70) (.t 71),some (69,false)⟩,
 ⟨some 73,.pick (.t 69) (.c (.bool true)) (.t 72),none⟩,
 ⟨some 74,.mov (.t 73),none⟩,
 ⟨some 75,.mov (.t 16),some (74,false)⟩,
 ⟨some 76,.mov (.t 18),some (74,false)⟩,
 ⟨some 77,.bin .neq (.t 75) (.t 76),some (74,false)⟩,
 ⟨some 78,.pick (.t 74) (.c (.bool true)) (.t 77),none⟩,
 ⟨some 79,.mov (.t 78),none⟩,
 ⟨some 80,.mov (.t 9),some (79,false)⟩,
 ⟨some 81,.mov (.t 12),some (79,false)⟩,
 ⟨some 82,.call 23 [(.t 80),(.t 81)],some (79,false)⟩,
 ⟨some 83,.un .not (.t 82),some (79,false)⟩,
 ⟨some 84,.pick (.t 79) (.c (.bool true)) (.t 83),none⟩,
 ⟨some 85,.mov (.t 84),none⟩,
 ⟨some 86,.mov (.t 10),some (85,false)⟩,
 ⟨some 87,.mov (.t 13),some (85,false)⟩,
 ⟨some 88,.call 24 [(.t 86),(.t 87)],some (85,false)⟩,
 ⟨some 89,.un .not (.t 88),some (85,false)⟩,
 ⟨some 90,.pick (.t 85) (.c (.bool true)) (.t 89),none⟩,
 ⟨some 91,.mov (.t 90),none⟩,
 ⟨some 92,.load true 2 (.t 15),some (91,false)⟩,
 ⟨some 93,.load true 2 (.t 17),some (91,false)⟩,
 ⟨some 94,.call 25 [(.t 92),(.t 93)],some (91,false)⟩,
 ⟨some 95,.un .not (.t 94),some (91,false)⟩,
 ⟨some 96,.pick (.t 91) (.c (.bool true)) (.t 95),none⟩])
 (.cond (.t 96)
 (.seq (.region [⟨some 6,.mov (.c (.bool false)),none⟩])
 (.ret))
 (.skip)))
 (.seq (.region [⟨some 97,.mov (.t 9),none⟩,
 ⟨some 98,.icall (.c (.func 26 [])) [(.t 97)],none⟩])
 (.seq (.region [⟨some 99,.mov (.t 10),none⟩,
 ⟨some 100,.icall (.c (.func 27 [])) [(.t 99)],none⟩])
 (.seq (.region [⟨some 101,.load true 2 (.t 15),none⟩,
 ⟨some 102,.icall (.c (.func 28 [])) [(.t 101)],none⟩])
 (.seq (.region [⟨some 103,.load true 5 (.t 7),none⟩,
 ⟨some 104,.load true 5 (.t 3),none⟩,
 ⟨some 105,.call 29 [(.t 103),(.t 104)],none⟩,
 ⟨some 106,.mov (.t 105),none⟩,
 ⟨some 107,.mov (.t 8),some (106,true)⟩,
 ⟨some 108,.mov (.t 1),some (106,true)⟩,
 ⟨some 109,.call 23 [(.t 107),(.t 108)],some (106,true)⟩,
 ⟨some 110,.pick (.t 106) (.t 109) (.c (.bool false)),none⟩,
 ⟨some 111,.mov (.t 110),none⟩,
 ⟨some 112,.call 13 [],some (111,true)⟩,
 ⟨some 113,.pick (.t 111) (.t 112) (.c (.bool false)),none⟩,
 ⟨some 6,.mov (.t 113),none⟩])
 (.ret)))))))))))),
 [.tmp 6]⟩
def xJq : ACode :=
 .seq (.seq (.region [⟨some 28,.mov (.t 4),none⟩,
 ⟨some 29,.mov (.t 0),none⟩,
 ⟨some 30,.mov (.t 3),none⟩,
 ⟨some 31,.iaddr 5 (.t 29) (.t 30),none⟩,
 ⟨some 32,.faddr 3 (.t 31),none⟩,
 ⟨some 33,.load false 1 (.t 32),none⟩,
 ⟨some 34,.len (.t 33),none⟩,
 ⟨some 35,.bin .lss (.t 28) (.t 34),none⟩])
 (.cond (.t 35)
 (.skip)
 (.exit 2)))
 (.seq (.block 3 (.seq (.region [⟨some 38,.mov (.t 0),none⟩,
 ⟨some 39,.mov (.t 3),none⟩,
 ⟨some 40,.iaddr 5 (.t 38) (.t 39),none⟩,
 ⟨some 41,.faddr 3 (.t 40),none⟩,
 ⟨some 42,.load false 1 (.t 41),none⟩,
 ⟨some 43,.mov (.t 4),none⟩,
 ⟨some 44,.iaddr 1 (.t 42) (.t 43),none⟩,
 ⟨some 45,.load false 1 (.t 44),none⟩,
 ⟨some 46,.len (.t 45),none⟩,
 ⟨some 47,.bin .gtr (.t 46) (.c (.int .i64 66)),none⟩])
 (.cond (.t 47)
 (.seq (.region [⟨some 2,.mov (.c (.bool true)),none⟩])
 (.ret))
 (.skip))))
 (.region [⟨some 36,.mov (.t 4),none⟩,
 ⟨some 37,.bin .add (.t 36) (.c (.int .i64 1)),none⟩,
 ⟨some 4,.mov (.t 37),none⟩]))
def xXe : ACode := xJq
def xMK : List Nat := [1,5,6,7,8,9,10,11,12,13,14,15,16,17,18,19,20,21,22,23,24,25,26,27,28,29,30,31,32,33,34,35,36,37,38,39,40,41,42,43,44,45,46,47,48,49,50,51,52,53,54,55,56,57,58,59,60,61,62,63,64,65,66,67]
abbrev xJr (s0 s2 s3 s4 : AV) : List AV := [s0,.any,s2,s3,s4,.any,.any,.any,.any,.any,.any,.any,.any,.any,.any,.any,.any,.any,.any,.any,.any,.any,.any,.any,.any,.any,.any,.any,.any,.any,.any,.any,.any,.any,.any,.any,.any,.any,.any,.any,.any,.any,.any,.any,.any,.any,.any,.any,.any,.any,.any,.any,.any,.any,.any,.any,.any,.any,.any,.any,.any,.any,.any,.any,.any,.any,.any,.any]
theorem xGs (s0 s1 s2 s3 s4 s5 s6 s7 s8 s9 s10 s11 s12 s13 s14 s15 s16 s17 s18 s19 s20 s21 s22 s23 s24 s25 s26 s27 s28 s29 s30 s31 s32 s33 s34 s35 s36 s37 s38 s39 s40 s41 s42 s43 s44 s45 s46 s47 s48 s49 s50 s51 s52 s53 s54 s55 s56 s57 s58 s59 s60 s61 s62 s63 s64 s65 s66 s67 : AV) : xAY xMK [s0,s1,s2,s3,s4,s5,s6,s7,s8,s9,s10,s11,s12,s13,s14,s15,s16,s17,s18,s19,s20,s21,s22,s23,s24,s25,s26,s27,s28,s29,s30,s31,s32,s33,s34,s35,s36,s37,s38,s39,s40,s41,s42,s43,s44,s45,s46,s47,s48,s49,s50,s51,s52,s53,s54,s55,s56,s57,s58,s59,s60,s61,s62,s63,s64,s65,s66,s67] = xJr s0 s2 s3 s4 := by kernel_rfl
theorem xTW {prog : Nat → Option AFunc} (s0 s2 s3 s4 : AV) (H : Heap) : (lim prog).loop xMK xXe ⟨xJr s0 s2 s3 s4,H⟩ = xBt (lim prog) xMK xXe (run (lim prog) xJq ⟨xJr s0 s2 s3 s4,H⟩) := xAE _ _ _ _ (by kernel_rfl)
def xJs : ACode :=
 .seq (.seq (.region [⟨some 48,.mov (.t 5),none⟩,
 ⟨some 49,.mov (.t 0),none⟩,
 ⟨some 50,.mov (.t 3),none⟩,
 ⟨some 51,.iaddr 5 (.t 49) (.t 50),none⟩,
 ⟨some 52,.faddr 4 (.t 51),none⟩,
 ⟨some 53,.load false 1 (.t 52),none⟩,
 ⟨some 54,.len (.t 53),none⟩,
 ⟨some 55,.bin .lss (.t 48) (.t 54),none⟩])
 (.cond (.t 55)
 (.skip)
 (.exit 4)))
 (.seq (.block 5 (.seq (.region [⟨some 58,.mov (.t 0),none⟩,
 ⟨some 59,.mov (.t 3),none⟩,
 ⟨some 60,.iaddr 5 (.t 58) (.t 59),none⟩,
 ⟨some 61,.faddr 4 (.t 60),none⟩,
 ⟨some 62,.load false 1 (.t 61),none⟩,
 ⟨some 63,.mov (.t 5),none⟩,
 ⟨some 64,.iaddr 1 (.t 62) (.t 63),none⟩,
 ⟨some 65,.load false 1 (.t 64),none⟩,
 ⟨some 66,.len (.t 65),none⟩,
 ⟨some 67,.bin .gtr (.t 66) (.c (.int .i64 66)),none⟩])
 (.cond (.t 67)
 (.seq (.region [⟨some 2,.mov (.c (.bool true)),none⟩])
 (.ret))
 (.skip))))
 (.region [⟨some 56,.mov (.t 5),none⟩,
 ⟨some 57,.bin .add (.t 56) (.c (.int .i64 1)),none⟩,
 ⟨some 5,.mov (.t 57),none⟩]))
def xXf : ACode := xJs
def xML : List Nat := [1,4,6,7,8,9,10,11,12,13,14,15,16,17,18,19,20,21,22,23,24,25,26,27,28,29,30,31,32,33,34,35,36,37,38,39,40,41,42,43,44,45,46,47,48,49,50,51,52,53,54,55,56,57,58,59,60,61,62,63,64,65,66,67]
abbrev xJt (s0 s2 s3 s5 : AV) : List AV := [s0,.any,s2,s3,.any,s5,.any,.any,.any,.any,.any,.any,.any,.any,.any,.any,.any,.any,.any,.any,.any,.any,.any,.any,.any,.any,.any,.any,.any,.any,.any,.any,.any,.any,.any,.any,.any,.any,.any,.any,.any,.any,.any,.any,.any,.any,.any,.any,.any,.any,.any,.any,.any,.any,.any,.any,.any,.any,.any,.any,.any,.any,.any,.any,.any,.any,.any,.any]
theorem xHG (s0 s1 s2 s3 s4 s5 s6 s7 s8 s9 s10 s11 s12 s13 s14 s15 s16 s17 s18 s19 s20 s21 s22 s23 s24 s25 s26 s27 s28 s29 s30 s31 s32 s33 s34 s35 s36 s37 s38 s39 s40 s41 s42 s43 s44 s45 s46 s47 s48 s49 s50 s51 s52 s53 s54 s55 s56 s57 s58 s59 s60 s61 s62 s63 s64 s65 s66 s67 : AV) : xAY xML [s0,s1,s2,s3,s4,s5,s6,s7,s8,s9,s10,s11,s12,s13,s14,s15,s16,s17,s18,s19,s20,s21,s22,s23,s24,s25,s26,s27,s28,s29,s30,s31,s32,s33,s34,s35,s36,s37,s38,s39,s40,s41,s42,s43,s44,s45,s46,s47,s48,s49,s50,s51,s52,s53,s54,s55,s56,s57,s58,s59,s60,s61,s62,s63,s64,s65,s66,s67] = xJt s0 s2 s3 s5 := by kernel_rfl
theorem xTX {prog : Nat → Option AFunc} (s0 s2 s3 s5 : AV) (H : Heap) : (lim prog).loop xML xXf ⟨xJt s0 s2 s3 s5,H⟩ = xBt (lim prog) xML xXf (run (lim prog) xJs ⟨xJt s0 s2 s3 s5,H⟩) := xAE _ _ _ _ (by kernel_rfl)
def xFf : ACode :=
 .seq (.seq (.region [⟨some 6,.mov (.t 3),none⟩,
 ⟨some 7,.mov (.t 0),none⟩,
 ⟨some 8,.len (.t 7),none⟩,
 ⟨some 9,.bin .lss (.t 6) (.t 8),none⟩])
 (.cond (.t 9)
 (.skip)
 (.exit 0)))
 (.seq (.block 1 (.seq (.seq (.region [⟨some 12,.mov (.t 0),none⟩,
 ⟨some 13,.mov (.t 3),none⟩,
 ⟨some 14,.iaddr 5 (.t 12) (.t 13),none⟩,
 ⟨some 15,.faddr 3 (.t 14),none⟩,
 ⟨some 16,.load false 1 (.t 15),none⟩,
 ⟨some 17,.len (.t 16),none⟩,
 ⟨some 18,.bin .gtr (.t 17) (.c (.int .i64 14)),none⟩,
 ⟨some 19,.mov (.t 18),none⟩,
 ⟨some 20,.mov (.t 0),some (19,false)⟩,
 ⟨some 21,.mov (.t 3),some (19,false)⟩,
 ⟨some 22,.iaddr 5 (.t 20) (.t 21),some (19,false)⟩,
 ⟨some 23,.faddr 4 (.t 22),some (19,false)⟩,
 ⟨some 24,.load false 1 (.t 23),some (19,false)⟩,
 ⟨some 25,.len (.t 24),some (19,false)⟩,
 ⟨some 26,.bin .gtr (.t 25) (.c (.int .i64 16)),some (19,false)⟩,
 ⟨some 27,.pick (.t 19) (.c (.bool true)) (.t 26),none⟩])
 (.cond (.t 27)
 (.seq (.region [⟨some 2,.mov (.c (.bool true)),none⟩])
 (.ret))
 (.skip)))
 (.seq (.seq (.region [⟨some 4,.mov (.c (.int .i64 0)),none⟩])
 (.block 2 (.loop xMK xXe)))
 (.seq (.region [⟨some 5,.mov (.c (.int .i64 0)),none⟩])
 (.block 4 (.loop xML xXf))))))
 (.region [⟨some 10,.mov (.t 3),none⟩,
 ⟨some 11,.bin .add (.t 10) (.c (.int .i64 1)),none⟩,
 ⟨some 3,.mov (.t 11),none⟩]))
def xXg : ACode := xFf
def xMM : List Nat := [1,4,5,6,7,8,9,10,11,12,13,14,15,16,17,18,19,20,21,22,23,24,25,26,27,28,29,30,31,32,33,34,35,36,37,38,39,40,41,42,43,44,45,46,47,48,49,50,51,52,53,54,55,56,57,58,59,60,61,62,63,64,65,66,67]
abbrev xJu (s0 s2 s3 : AV) : List AV := [s0,.any,s2,s3,.any,.any,.any,.any,.any,.any,.any,.any,.any,.any,.any,.any,.any,.any,.any,.any,.any,.any,.any,.any,.any,.any,.any,.any,.any,.any,.any,.any,.any,.any,.any,.any,.any,.any,.any,.any,.any,.any,.any,.any,.any,.any,.any,.any,.any,.any,.any,.any,.any,.any,.any,.any,.any,.any,.any,.any,.any,.any,.any,.any,.any,.any,.any,.any]
theorem xFg (s0 s1 s2 s3 s4 s5 s6 s7 s8 s9 s10 s11 s12 s13 s14 s15 s16 s17 s18 s19 s20 s21 s22 s23 s24 s25 s26 s27 s28 s29 s30 s31 s32 s33 s34 s35 s36 s37 s38 s39 s40 s41 s42 s43 s44 s45 s46 s47 s48 s49 s50 s51 s52 s53 s54 s55 s56 s57 s58 s59 s60 s61 s62 s63 s64 s65 s66 s67 : AV) : xAY xMM [s0,s1,s2,s3,s4,s5,s6,s7,s8,s9,s10,s11,s12,s13,s14,s15,s16,s17,s18,s19,s20,s21,s22,s23,s24,s25,s26,s27,s28,s29,s30,s31,s32,s33,s34,s35,s36,s37,s38,s39,s40,s41,s42,s43,s44,s45,s46,s47,s48,s49,s50,s51,s52,s53,s54,s55,s56,s57,s58,s59,s60,s61,s62,s63,s64,s65,s66,s67] = xJu s0 s2 s3 := by kernel_rfl
theorem xJv {prog : Nat → Option AFunc} (s0 s2 s3 : AV) (H : Heap) : (lim prog).loop xMM xXg ⟨xJu s0 s2 s3,H⟩ = xBt (lim prog) xMM xXg (run (lim prog) xFf ⟨xJu s0 s2 s3,H⟩) := xAE _ _ _ _ (by kernel_rfl)
def a11 : AFunc := ⟨68,
 .seq (.region [⟨some 2,.mov (.c (.bool false)),none⟩])
 (.seq (.seq (.region [⟨some 3,.mov (.c (.int .i64 0)),none⟩])
 (.block 0 (.loop xMM xXg)))
 (.seq (.region [⟨some 2,.mov (.c (.bool false)),none⟩])
 (.ret))),
 [.tmp 2]⟩
def xTY : ACode :=
 .seq (.seq (.region [⟨some 4,.mov (.t 3),none⟩,
 ⟨some 5,.mov (.t 0),none⟩,
 ⟨some 6,.len (.t 5),none⟩,
 ⟨some 7,.bin .lss (.t 4) (.t 6),none⟩])
 (.cond (.t 7)
 (.skip)
 (.exit 0)))
 (.seq (.block 1 (.seq (.region [⟨some 10,.mov (.t 0),none⟩,
 ⟨some 11,.mov (.t 3),none⟩,
 ⟨some 12,.iaddr 2 (.t 10) (.t 11),none⟩,
 ⟨some 13,.faddr 0 (.t 12),none⟩,
 ⟨some 14,.load false 1 (.t 13),none⟩,
 ⟨some 15,.len (.t 14),none⟩,
 ⟨some 16,.bin .gtr (.t 15) (.c (.int .i64 70)),none⟩,
 ⟨some 17,.mov (.t 16),none⟩,
 ⟨some 18,.mov (.t 0),some (17,false)⟩,
 ⟨some 19,.mov (.t 3),some (17,false)⟩,
 ⟨some 20,.iaddr 2 (.t 18) (.t 19),some (17,false)⟩,
 ⟨some 21,.faddr 1 (.t 20),some (17,false)⟩,
 ⟨some 22,.load false 1 (.t 21),some (17,false)⟩,
 ⟨some 23,.len (.t 22),some (17,false)⟩,
 ⟨some 24,.bin .gtr (.t 23) (.c (.int .i64 70)),some (17,false)⟩,
 ⟨some 25,.pick (.t 17) (.c (.bool true)) (.t 24),none⟩])
 (.cond (.t 25)
 (.seq (.region [⟨some 2,.mov (.c (.bool true)),none⟩])
 (.ret))
 (.skip))))
 (.region [⟨some 8,.mov (.t 3),none⟩,
 ⟨some 9,.bin .add (.t 8) (.c (.int .i64 1)),none⟩,
 ⟨some 3,.mov (.t 9),none⟩]))
def xZV : ACode := xTY
def xQe : List Nat := [1,4,5,6,7,8,9,10,11,12,13,14,15,16,17,18,19,20,21,22,23,24,25]
abbrev xTZ (s0 s2 s3 : AV) : List AV := [s0,.any,s2,s3,.any,.any,.any,.any,.any,.any,.any,.any,.any,.any,.any,.any,.any,.any,.any,.any,.any,.any,.any,.any,.any,.any]
theorem yBu (s0 s1 s2 s3 s4 s5 s6 s7 s8 s9 s10 s11 s12 s13 s14 s15 s16 s17 s18 s19 s20 s21 s22 s23 s24 s25 : AV) : xAY xQe [s0,s1,s2,s3,s4,s5,s6,s7,s8,s9,s10,s11,s12,s13,s14,s15,s16,s17,s18,s19,s20,s21,s22,s23,s24,s25] = xTZ s0 s2 s3 := by kernel_rfl
theorem yBv {prog : Nat → Option AFunc} (s0 s2 s3 : AV) (H : Heap) : (lim prog).loop xQe xZV ⟨xTZ s0 s2 s3,H⟩ = xBt (lim prog) xQe xZV (run (lim prog) xTY ⟨xTZ s0 s2 s3,H⟩) := xAE _ _ _ _ (by kernel_rfl)
def a12 : AFunc := ⟨26,
 .seq (.region [⟨some 2,.mov (.c (.bool false)),none⟩])
 (.seq (.seq (.region [⟨some 3,.mov (.c (.int .i64 0)),none⟩])
 (.block 0 (.loop xQe xZV)))
 (.seq (.region [⟨some 2,.mov (.c (.bool false)),none⟩])
 (.ret))),
 [.tmp 2]⟩
def a13 : AFunc := ⟨131,
 .seq (.region [⟨some 0,.mov (.c (.bool false)),none⟩])
 (.seq (.region [⟨some 19,.call 43 [],none⟩,
 ⟨some 1,.box (.c (.agg [.int .i64 0,.int .i64 0,.int .i64 0,.sl true 0 [],.sl true 0 []])),none⟩,
 ⟨none,.store 5 (.t 1) (.t 19),none⟩])
 (.seq (.region [⟨some 20,.bslice true [.int .i64 0] 1 2 [(0,(.c (.int .i64 1))),(1,(.c (.int .i64 1)))],none⟩,
 ⟨some 21,.bslice true [.int .i64 0] 1 2 [(0,(.c (.int .i64 0))),(1,(.c (.int .i64 0)))],none⟩,
 ⟨some 22,.bslice true [.sl true 0 []] 1 2 [(0,(.t 20)),(1,(.t 21))],none⟩,
 ⟨some 23,.bslice true [.int .u8 0] 1 2 [(0,(.c (.int .u8 1))),(1,(.c (.int .u8 0)))],none⟩,
 ⟨some 24,.bslice true [.int .u8 0] 1 2 [(0,(.c (.int .u8 1))),(1,(.c (.int .u8 0)))],none⟩,
 ⟨some 25,.bslice true [.sl true 0 []] 1 2 [(0,(.t 23)),(1,(.t 24))],none⟩,
 ⟨some 26,.build [.int .i64 0,.int .i64 0,.int .i64 0,.sl true 0 [],.sl true 0 []] [(0,1,(.c (.int .i64 1))),(1,1,(.c (.int .i64 1))),(3,1,(.t 22)),(4,1,(.t 25))],none⟩,
 ⟨some 2,.box (.c (.agg [.int .i64 0,.int .i64 0,.int .i64 0,.sl true 0 [],.sl true 0 []])),none⟩,
 ⟨none,.store 5 (.t 2) (.t 26),none⟩])
 (.seq (.region [⟨some 27,.call 43 [],none⟩,
 ⟨some 3,.box (.c (.agg [.int .i64 0,.int .i64 0,.int .i64 0,.sl true 0 [],.sl true 0 []])),none⟩,
 ⟨none,.store 5 (.t 3) (.t 27),none⟩])
 (.seq (.region [⟨some 28,.bslice true [.int .u8 0] 1 2 [(0,(.c (.int .u8 1))),(1,(.c (.int .u8 1)))],none⟩,
 ⟨some 29,.bslice true [.sl true 0 []] 1 1 [(0,(.t 28))],none⟩,
 ⟨some 30,.faddr 4 (.t 3),none⟩,
 ⟨none,.store 1 (.t 30) (.t 29),none⟩])
 (.seq (.region [⟨some 32,.load true 5 (.t 1),none⟩,
 ⟨some 33,.bslice true [.int .u8 0] 1 3 [(0,(.c (.int .u8 0))),(1,(.c (.int .u8 1))),(2,(.c (.int .u8 1)))],none⟩,
 ⟨some 34,.call 16 [(.t 32),(.t 33)],none⟩,
 ⟨some 31,.mov (.t 34),none⟩,
 ⟨some 35,.ext 0 (.t 31),none⟩,
 ⟨some 36,.ext 1 (.t 31),none⟩,
 ⟨some 37,.ext 2 (.t 31),none⟩,
 ⟨some 4,.mov (.t 35),none⟩,
 ⟨some 5,.mov (.t 36),none⟩,
 ⟨some 6,.mov (.t 37),none⟩])
 (.seq (.region [⟨some 39,.load true 5 (.t 1),none⟩,
 ⟨some 40,.bslice true [.int .u8 0] 1 2 [(0,(.c (.int .u8 0))),(1,(.c (.int .u8 1)))],none⟩,
 ⟨some 41,.build [.sl true 0 [],.sl true 0 []] [(1,1,(.t 40))],none⟩,
 ⟨some 42,.call 18 [(.t 39),(.t 41)],none⟩,
 ⟨some 38,.mov (.t 42),none⟩,
 ⟨some 43,.ext 0 (.t 38),none⟩,
 ⟨some 44,.ext 1 (.t 38),none⟩,
 ⟨some 7,.box (.c (.agg [.sl true 0 [],.sl true 0 []])),none⟩,
 ⟨none,.store 2 (.t 7) (.t 43),none⟩,
 ⟨some 8,.mov (.t 44),none⟩])
 (.seq (.region [⟨some 46,.load true 5 (.t 2),none⟩,
 ⟨some 47,.call 35 [(.t 46)],none⟩,
 ⟨some 45,.mov (.t 47),none⟩,
 ⟨some 48,.ext 0 (.t 45),none⟩,
 ⟨some 49,.ext 1 (.t 45),none⟩,
 ⟨some 9,.box (.c (.agg [.int .i64 0,.int .i64 0,.int .i64 0,.sl true 0 [],.sl true 0 []])),none⟩,
 ⟨none,.store 5 (.t 9) (.t 48),none⟩,
 ⟨some 10,.mov (.t 49),none⟩])
 (.seq (.region [⟨some 51,.load true 5 (.t 1),none⟩,
 ⟨some 52,.load true 5 (.t 2),none⟩,
 ⟨some 53,.call 37 [(.t 51),(.t 52)],none⟩,
 ⟨some 50,.mov (.t 53),none⟩,
 ⟨some 54,.ext 0 (.t 50),none⟩,
 ⟨some 55,.ext 1 (.t 50),none⟩,
 ⟨some 56,.ext 2 (.t 50),none⟩,
 ⟨some 11,.mov (.t 54),none⟩,
 ⟨some 12,.mov (.t 55),none⟩,
 ⟨some 13,.mov (.t 56),none⟩])
 (.seq (.draw 7 [⟨some 58,.load true 5 (.t 1),none⟩,
 ⟨some 59,.call 42 [],none⟩,
 ⟨some 60,.call 31 [(.t 58),(.t 59)],none⟩,
 ⟨some 57,.mov (.t 60),none⟩,
 ⟨some 61,.ext 0 (.t 57),none⟩,
 ⟨some 62,.ext 1 (.t 57),none⟩,
 ⟨some 14,.box (.c (.agg [.sl true 0 [],.sl true 0 []])),none⟩,
 ⟨none,.store 2 (.t 14) (.t 61),none⟩,
 ⟨some 15,.mov (.t 62),none⟩])
 (.seq (.region [⟨some 64,.load true 5 (.t 1),none⟩,
 ⟨some 65,.load true 5 (.t 3),none⟩,
 ⟨some 66,.call 37 [(.t 64),(.t 65)],none⟩,
 ⟨some 63,.mov (.t 66),none⟩,
 ⟨some 67,.ext 0 (.t 63),none⟩,
 ⟨some 68,.ext 1 (.t 63),none⟩,
 ⟨some 69,.ext 2 (.t 63),none⟩,
 ⟨some 16,.mov (.t 67),none⟩,
 ⟨some 17,.mov (.t 68),none⟩,
 ⟨some 18,.mov (.t 69),none⟩])
 (.seq (.region [⟨some 70,.mov (.t 6),none⟩,
 ⟨some 71,.bin .eql (.t 70) (.c (.int .i64 0)),none⟩,
 ⟨some 72,.mov (.t 71),none⟩,
 ⟨some 73,.mov (.t 4),some (72,true)⟩,
 ⟨some 74,.bslice true [.int .u8 0] 1 3 [(0,(.c (.int .u8 1))),(1,(.c (.int .u8 0))),(2,(.c (.int .u8 0)))],some (72,true)⟩,
 ⟨some 75,.call 23 [(.t 73),(.t 74)],some (72,true)⟩,
 ⟨some 76,.pick (.t 72) (.t 75) (.c (.bool false)),none⟩,
 ⟨some 77,.mov (.t 76),none⟩,
 ⟨some 78,.mov (.t 5),some (77,true)⟩,
 ⟨some 79,.bslice true [.int .i64 0] 1 4 [(0,(.c (.int .i64 0))),(1,(.c (.int .i64 0))),(2,(.c (.int .i64 0))),(3,(.c (.int .i64 0)))],some (77,true)⟩,
 ⟨some 80,.call 24 [(.t 78),(.t 79)],some (77,true)⟩,
 ⟨some 81,.pick (.t 77) (.t 80) (.c (.bool false)),none⟩,
 ⟨some 82,.mov (.t 81),none⟩,
 ⟨some 83,.mov (.t 8),some (82,true)⟩,
 ⟨some 84,.bin .eql (.t 83) (.c (.int .i64 0)),some (82,true)⟩,
 ⟨some 85,.pick (.t 82) (.t 84) (.c (.bool false)),none⟩,
 ⟨some 86,.mov (.t 85),none⟩,
 ⟨some 87,.load true 2 (.t 7),some (86,true)⟩,
 ⟨some 88,.bslice true [.int .u8 0] 1 2 [(0,(.c (.int .u8 2))),(1,(.c (.int .u8 1)))],some (86,true)⟩,
 ⟨some 89,.build [.sl true 0 [],.sl true 0 []] [(1,1,(.t 88))],some (86,true)⟩,
 ⟨some 90,.call 25 [(.t 87),(.t 89)],some (86,true)⟩,
 ⟨some 91,.pick (.t 86) (.t 90) (.c (.bool false)),none⟩,
 ⟨some 92,.mov (.t 91),none⟩,
 ⟨some 93,.mov (.t 10),some (92,true)⟩,
 ⟨some 94,.bin .eql (.t 93) (.c (.int .i64 0)),some (92,true)⟩,
 ⟨some 95,.pick (.t 92) (.t 94) (.c (.bool false)),none⟩,
 ⟨some 96,.mov (.t 95),none⟩,
 ⟨some 97,.load true 5 (.t 9),some (96,true)⟩,
 ⟨some 98,.load true 5 (.t 1),some (96,true)⟩,
 ⟨some 99,.call 29 [(.t 97),(.t 98)],some (96,true)⟩,
 ⟨some 100,.pick (.t 96) (.t 99) (.c (.bool false)),none⟩,
 ⟨some 101,.mov (.t 100),none⟩,
 ⟨some 102,.mov (.t 13),some (101,true)⟩,
 ⟨some 103,.bin .eql (.t 102) (.c (.int .i64 0)),some (101,true)⟩,
 ⟨some 104,.pick (.t 101) (.t 103) (.c (.bool false)),none⟩,
 ⟨some 105,.mov (.t 104),none⟩,
 ⟨some 106,.mov (.t 12),some (105,true)⟩,
 ⟨some 107,.pick (.t 105) (.t 106) (.c (.bool false)),none⟩,
 ⟨some 108,.mov (.t 107),none⟩,
 ⟨some 109,.mov (.t 15),some (108,true)⟩,
 ⟨some 110,.bin .eql (.t 109) (.c (.int .i64 0)),some (108,true)⟩,
 ⟨some 111,.pick (.t 108) (.t 110) (.c (.bool false)),none⟩,
 ⟨some 112,.mov (.t 111),none⟩,
 ⟨some 113,.load true 2 (.t 14),some (112,true)⟩,
 ⟨some 114,.bslice true [.int .u8 0] 1 1 [(0,(.c (.int .u8 1)))],some (112,true)⟩,
 ⟨some 115,.build [.sl true 0 [],.sl true 0 []] [(1,1,(.t 114))],some (112,true)⟩,
 ⟨some 116,.call 25 [(.t 113),(.t 115)],some (112,true)⟩,
 ⟨some 117,.pick (.t 112) (.t 116) (.c (.bool false)),none⟩,
 ⟨some 118,.mov (.t 117),none⟩,
 ⟨some 119,.mov (.t 18),some (118,true)⟩,
 ⟨some 120,.bin .eql (.t 119) (.c (.int .i64 0)),some (118,true)⟩,
 ⟨some 121,.pick (.t 118) (.t 120) (.c (.bool false)),none⟩,
 ⟨some 122,.mov (.t 121),none⟩,
 ⟨some 123,.mov (.t 17),some (122,true)⟩,
 ⟨some 124,.un .not (.t 123),some (122,true)⟩,
 ⟨some 125,.pick (.t 122) (.t 124) (.c (.bool false)),none⟩,
 ⟨some 126,.mov (.t 125),none⟩,
 ⟨some 127,.mov (.t 16),some (126,true)⟩,
 ⟨some 128,.bslice true [.int .u8 0] 1 1 [(0,(.c (.int .u8 1)))],some (126,true)⟩,
 ⟨some 129,.call 23 [(.t 127),(.t 128)],some (126,true)⟩,
 ⟨some 130,.pick (.t 126) (.t 129) (.c (.bool false)),none⟩,
 ⟨some 0,.mov (.t 130),none⟩])
 (.ret)))))))))))),
 [.tmp 0]⟩
def a14 : AFunc := ⟨16,
 .seq (.region [⟨some 1,.box (.t 0),none⟩,
 ⟨some 2,.box (.c (.agg [.int .i64 0,.int .i64 0,.int .i64 0,.sl true 0 [],.sl true 0 []])),none⟩])
 (.seq (.draw 12 [⟨some 3,.faddr 0 (.t 1),none⟩,
 ⟨some 4,.load false 1 (.t 3),none⟩,
 ⟨some 5,.faddr 1 (.t 1),none⟩,
 ⟨some 6,.load false 1 (.t 5),none⟩,
 ⟨some 7,.faddr 2 (.t 1),none⟩,
 ⟨some 8,.load false 1 (.t 7),none⟩,
 ⟨some 9,.faddr 3 (.t 1),none⟩,
 ⟨some 10,.load false 1 (.t 9),none⟩,
 ⟨some 11,.call 50 [(.t 10)],none⟩,
 ⟨some 12,.faddr 4 (.t 1),none⟩,
 ⟨some 13,.load false 1 (.t 12),none⟩,
 ⟨some 14,.call 51 [(.t 13)],none⟩,
 ⟨some 15,.build [.int .i64 0,.int .i64 0,.int .i64 0,.sl true 0 [],.sl true 0 []] [(0,1,(.t 4)),(1,1,(.t 6)),(2,1,(.t 8)),(3,1,(.t 11)),(4,1,(.t 14))],none⟩,
 ⟨none,.store 5 (.t 2) (.t 15),none⟩])
 (.ret)),
 [.cell 2 true 5]⟩
def a15 : AFunc := ⟨5,
 .seq (.region [⟨some 2,.mov (.c (.sl true 0 [])),none⟩])
 (.seq (.region [⟨some 3,.mov (.t 0),none⟩,
 ⟨some 4,.append false 1 1 (.c (.sl true 0 [])) (.t 3),none⟩,
 ⟨some 2,.mov (.t 4),none⟩])
 (.ret)),
 [.tmp 2]⟩
def xHH : ACode :=
 .seq (.region [⟨some 31,.bin .lss (.t 30) (.t 29),none⟩])
 (.seq (.cond (.t 31)
 (.skip)
 (.exit 1))
 (.seq (.block 2 (.seq (.region [⟨some 32,.iaddr 1 (.t 28) (.t 30),none⟩,
 ⟨some 33,.load false 1 (.t 32),none⟩,
 ⟨some 10,.mov (.t 33),none⟩])
 (.seq (.region [⟨some 34,.mov (.t 4),none⟩,
 ⟨some 35,.faddr 4 (.t 2),none⟩,
 ⟨some 36,.load false 1 (.t 35),none⟩,
 ⟨some 37,.mov (.t 8),none⟩,
 ⟨some 38,.iaddr 1 (.t 36) (.t 37),none⟩,
 ⟨some 39,.load false 1 (.t 38),none⟩,
 ⟨some 40,.mov (.t 10),none⟩,
 ⟨some 41,.iaddr 1 (.t 39) (.t 40),none⟩,
 ⟨some 42,.load false 1 (.t 41),none⟩,
 ⟨some 43,.bslice true [.int .u8 0] 1 1 [(0,(.t 42))],none⟩,
 ⟨some 44,.append false 1 1 (.t 34) (.t 43),none⟩,
 ⟨some 4,.mov (.t 44),none⟩])
 (.seq (.region [⟨some 45,.faddr 3 (.t 2),none⟩,
 ⟨some 46,.load false 1 (.t 45),none⟩,
 ⟨some 47,.mov (.t 8),none⟩,
 ⟨some 48,.iaddr 1 (.t 46) (.t 47),none⟩,
 ⟨some 49,.load false 1 (.t 48),none⟩,
 ⟨some 50,.mov (.t 10),none⟩,
 ⟨some 51,.iaddr 1 (.t 49) (.t 50),none⟩,
 ⟨some 52,.load false 1 (.t 51),none⟩,
 ⟨some 8,.mov (.t 52),none⟩])
 (.region [⟨some 53,.mov (.t 5),none⟩,
 ⟨some 54,.mov (.t 8),none⟩,
 ⟨some 55,.bslice true [.int .i64 0] 1 1 [(0,(.t 54))],none⟩,
 ⟨some 56,.append false 1 8 (.t 53) (.t 55),none⟩,
 ⟨some 5,.mov (.t 56),none⟩])))))
 (.region [⟨some 57,.bin .add (.t 30) (.c (.int .i64 1)),none⟩,
 ⟨some 30,.mov (.t 57),none⟩])))
def xSM : ACode := xHH
def xHI : List Nat := [0,1,3,6,7,9,10,11,12,13,14,15,16,17,18,19,20,21,22,23,24,25,26,27,31,32,33,34,35,36,37,38,39,40,41,42,43,44,45,46,47,48,49,50,51,52,53,54,55,56,57,58,59]
abbrev xQf (s2 s4 s5 s8 s28 s29 s30 : AV) : List AV := [.any,.any,s2,.any,s4,s5,.any,.any,s8,.any,.any,.any,.any,.any,.any,.any,.any,.any,.any,.any,.any,.any,.any,.any,.any,.any,.any,.any,s28,s29,s30,.any,.any,.any,.any,.any,.any,.any,.any,.any,.any,.any,.any,.any,.any,.any,.any,.any,.any,.any,.any,.any,.any,.any,.any,.any,.any,.any,.any,.any]
theorem xHJ (s0 s1 s2 s3 s4 s5 s6 s7 s8 s9 s10 s11 s12 s13 s14 s15 s16 s17 s18 s19 s20 s21 s22 s23 s24 s25 s26 s27 s28 s29 s30 s31 s32 s33 s34 s35 s36 s37 s38 s39 s40 s41 s42 s43 s44 s45 s46 s47 s48 s49 s50 s51 s52 s53 s54 s55 s56 s57 s58 s59 : AV) : xAY xHI [s0,s1,s2,s3,s4,s5,s6,s7,s8,s9,s10,s11,s12,s13,s14,s15,s16,s17,s18,s19,s20,s21,s22,s23,s24,s25,s26,s27,s28,s29,s30,s31,s32,s33,s34,s35,s36,s37,s38,s39,s40,s41,s42,s43,s44,s45,s46,s47,s48,s49,s50,s51,s52,s53,s54,s55,s56,s57,s58,s59] = xQf s2 s4 s5 s8 s28 s29 s30 := by kernel_rfl
theorem xMN {prog : Nat → Option AFunc} (s2 s4 s5 s8 s28 s29 s30 : AV) (H : Heap) : (lim prog).loop xHI xSM ⟨xQf s2 s4 s5 s8 s28 s29 s30,H⟩ = xBt (lim prog) xHI xSM (run (lim prog) xHH ⟨xQf s2 s4 s5 s8 s28 s29 s30,H⟩) := xAE _ _ _ _ (by kernel_rfl)
def a16 : AFunc := ⟨60,
 .seq (.region [⟨some 2,.box (.t 0),none⟩,
 ⟨some 4,.mov (.c (.sl true 0 [])),none⟩,
 ⟨some 5,.mov (.c (.sl true 0 [])),none⟩,
 ⟨some 6,.mov (.c (.int .i64 0)),none⟩])
 (.seq (.seq (.region [⟨some 11,.load true 5 (.t 2),none⟩,
 ⟨some 12,.call 21 [(.t 11)],none⟩,
 ⟨some 7,.mov (.t 12),none⟩])
 (.seq (.region [⟨some 13,.mov (.t 7),none⟩,
 ⟨some 14,.bin .neq (.t 13) (.c (.int .i64 0)),none⟩])
 (.cond (.t 14)
 (.seq (.region [⟨some 15,.mov (.t 7),none⟩,
 ⟨some 4,.mov (.c (.sl true 0 [])),none⟩,
 ⟨some 5,.mov (.c (.sl true 0 [])),none⟩,
 ⟨some 6,.mov (.t 15),none⟩])
 (.ret))
 (.skip))))
 (.seq (.block 0 (.seq (.region [⟨some 17,.mov (.t 1),none⟩,
 ⟨some 18,.len (.t 17),none⟩,
 ⟨some 19,.bin .gtr (.t 18) (.c (.int .i64 64)),none⟩,
 ⟨some 16,.mov (.t 19),none⟩])
 (.cond (.t 16)
 (.seq (.region [⟨some 4,.mov (.c (.sl true 0 [])),none⟩,
 ⟨some 5,.mov (.c (.sl true 0 [])),none⟩,
 ⟨some 6,.mov (.c (.int .i64 4)),none⟩])
 (.ret))
 (.seq (.region [⟨some 21,.mov (.t 1),none⟩,
 ⟨some 22,.mkfunc 53 [(.t 2)],none⟩,
 ⟨some 23,.icall (.c (.func 52 [])) [(.t 21),(.t 22)],none⟩,
 ⟨some 20,.mov (.t 23),none⟩])
 (.cond (.t 20)
 (.seq (.region [⟨some 4,.mov (.c (.sl true 0 [])),none⟩,
 ⟨some 5,.mov (.c (.sl true 0 [])),none⟩,
 ⟨some 6,.mov (.c (.int .i64 1)),none⟩])
 (.ret))
 (.skip))))))
 (.seq (.region [⟨some 24,.faddr 2 (.t 2),none⟩,
 ⟨some 25,.load false 1 (.t 24),none⟩,
 ⟨some 8,.mov (.t 25),none⟩])
 (.seq (.region [⟨some 26,.mov (.t 8),none⟩,
 ⟨some 27,.bslice false [.int .i64 0] 1 1 [(0,(.t 26))],none⟩,
 ⟨some 5,.mov (.t 27),none⟩])
 (.seq (.seq (.region [⟨some 28,.mov (.t 1),none⟩,
 ⟨some 29,.len (.t 28),none⟩,
 ⟨some 30,.mov (.c (.int .i64 0)),none⟩])
 (.block 1 (.loop xHI xSM)))
 (.seq (.region [⟨some 58,.mov (.t 4),none⟩,
 ⟨some 59,.mov (.t 5),none⟩,
 ⟨some 4,.mov (.t 58),none⟩,
 ⟨some 5,.mov (.t 59),none⟩,
 ⟨some 6,.mov (.c (.int .i64 0)),none⟩])
 (.ret))))))),
 [.tmp 4,.tmp 5,.tmp 6]⟩
def xJw : ACode :=
 .seq (.seq (.region [⟨some 21,.mov (.t 8),none⟩,
 ⟨some 22,.mov (.t 1),none⟩,
 ⟨some 23,.len (.t 22),none⟩,
 ⟨some 24,.bin .lss (.t 21) (.t 23),none⟩])
 (.cond (.t 24)
 (.skip)
 (.exit 0)))
 (.seq (.block 1 (.seq (.draw 5 [⟨some 27,.mov (.t 1),none⟩,
 ⟨some 28,.mov (.t 8),none⟩,
 ⟨some 29,.iaddr 1 (.t 27) (.t 28),none⟩,
 ⟨some 30,.load false 1 (.t 29),none⟩,
 ⟨some 31,.conv .i64 (.t 30),none⟩,
 ⟨some 32,.faddr 0 (.t 2),none⟩,
 ⟨some 33,.load false 1 (.t 32),none⟩,
 ⟨some 34,.conv .u64 (.t 33),none⟩,
 ⟨some 35,.bin .shl (.c (.int .i64 1)) (.t 34),none⟩,
 ⟨some 36,.bin .geq (.t 31) (.t 35),none⟩])
 (.cond (.t 36)
 (.seq (.region [⟨some 4,.mov (.c (.sl true 0 [])),none⟩,
 ⟨some 5,.mov (.c (.sl true 0 [])),none⟩,
 ⟨some 6,.mov (.c (.int .i64 1)),none⟩])
 (.ret))
 (.skip))))
 (.region [⟨some 25,.mov (.t 8),none⟩,
 ⟨some 26,.bin .add (.t 25) (.c (.int .i64 1)),none⟩,
 ⟨some 8,.mov (.t 26),none⟩]))
def xXh : ACode := xJw
def xMO : List Nat := [0,3,7,9,10,11,12,13,14,15,16,17,18,19,20,21,22,23,24,25,26,27,28,29,30,31,32,33,34,35,36,37,38,39,40,41,42,43,44,45,46,47,48,49,50,51,52,53,54,55,56,57,58,59,60,61,62,63,64,65,66,67,68,69,70,71,72,73,74,75,76,77,78,79]
abbrev xJx (s1 s2 s4 s5 s6 s8 : AV) : List AV := [.any,s1,s2,.any,s4,s5,s6,.any,s8,.any,.any,.any,.any,.any,.any,.any,.any,.any,.any,.any,.any,.any,.any,.any,.any,.any,.any,.any,.any,.any,.any,.any,.any,.any,.any,.any,.any,.any,.any,.any,.any,.any,.any,.any,.any,.any,.any,.any,.any,.any,.any,.any,.any,.any,.any,.any,.any,.any,.any,.any,.any,.any,.any,.any,.any,.any,.any,.any,.any,.any,.any,.any,.any,.any,.any,.any,.any,.any,.any,.any]
theorem xHK (s0 s1 s2 s3 s4 s5 s6 s7 s8 s9 s10 s11 s12 s13 s14 s15 s16 s17 s18 s19 s20 s21 s22 s23 s24 s25 s26 s27 s28 s29 s30 s31 s32 s33 s34 s35 s36 s37 s38 s39 s40 s41 s42 s43 s44 s45 s46 s47 s48 s49 s50 s51 s52 s53 s54 s55 s56 s57 s58 s59 s60 s61 s62 s63 s64 s65 s66 s67 s68 s69 s70 s71 s72 s73 s74 s75 s76 s77 s78 s79 : AV) : xAY xMO [s0,s1,s2,s3,s4,s5,s6,s7,s8,s9,s10,s11,s12,s13,s14,s15,s16,s17,s18,s19,s20,s21,s22,s23,s24,s25,s26,s27,s28,s29,s30,s31,s32,s33,s34,s35,s36,s37,s38,s39,s40,s41,s42,s43,s44,s45,s46,s47,s48,s49,s50,s51,s52,s53,s54,s55,s56,s57,s58,s59,s60,s61,s62,s63,s64,s65,s66,s67,s68,s69,s70,s71,s72,s73,s74,s75,s76,s77,s78,s79] = xJx s1 s2 s4 s5 s6 s8 := by kernel_rfl
theorem xT0 {prog : Nat → Option AFunc} (s1 s2 s4 s5 s6 s8 : AV) (H : Heap) : (lim prog).loop xMO xXh ⟨xJx s1 s2 s4 s5 s6 s8,H⟩ = xBt (lim prog) xMO xXh (run (lim prog) xJw ⟨xJx s1 s2 s4 s5 s6 s8,H⟩) := xAE _ _ _ _ (by kernel_rfl)
def xMP : ACode :=
 .seq (.seq (.region [⟨some 40,.mov (.t 11),none⟩,
 ⟨some 41,.mov (.t 1),none⟩,
 ⟨some 42,.len (.t 41),none⟩,
 ⟨some 43,.bin .lss (.t 40) (.t 42),none⟩])
 (.cond (.t 43)
 (.skip)
 (.exit 2)))
 (.seq (.block 3 (.seq (.region [⟨some 46,.mov (.t 10),none⟩,
 ⟨some 47,.mov (.t 11),none⟩,
 ⟨some 48,.iaddr 1 (.t 46) (.t 47),none⟩,
 ⟨some 49,.load false 1 (.t 48),none⟩,
 ⟨some 12,.mov (.t 49),none⟩])
 (.seq (.draw 7 [⟨some 50,.mov (.t 9),none⟩,
 ⟨some 51,.faddr 4 (.t 2),none⟩,
 ⟨some 52,.load false 1 (.t 51),none⟩,
 ⟨some 53,.mov (.t 12),none⟩,
 ⟨some 54,.iaddr 1 (.t 52) (.t 53),none⟩,
 ⟨some 55,.load false 1 (.t 54),none⟩,
 ⟨some 56,.mov (.t 1),none⟩,
 ⟨some 57,.mov (.t 11),none⟩,
 ⟨some 58,.iaddr 1 (.t 56) (.t 57),none⟩,
 ⟨some 59,.load false 1 (.t 58),none⟩,
 ⟨some 60,.iaddr 1 (.t 55) (.t 59),none⟩,
 ⟨some 61,.load false 1 (.t 60),none⟩,
 ⟨some 62,.bslice true [.int .u8 0] 1 1 [(0,(.t 61))],none⟩,
 ⟨some 63,.append false 1 1 (.t 50) (.t 62),none⟩,
 ⟨some 9,.mov (.t 63),none⟩])
 (.draw 7 [⟨some 64,.mov (.t 10),none⟩,
 ⟨some 65,.faddr 3 (.t 2),none⟩,
 ⟨some 66,.load false 1 (.t 65),none⟩,
 ⟨some 67,.mov (.t 12),none⟩,
 ⟨some 68,.iaddr 1 (.t 66) (.t 67),none⟩,
 ⟨some 69,.load false 1 (.t 68),none⟩,
 ⟨some 70,.mov (.t 1),none⟩,
 ⟨some 71,.mov (.t 11),none⟩,
 ⟨some 72,.iaddr 1 (.t 70) (.t 71),none⟩,
 ⟨some 73,.load false 1 (.t 72),none⟩,
 ⟨some 74,.iaddr 1 (.t 69) (.t 73),none⟩,
 ⟨some 75,.load false 1 (.t 74),none⟩,
 ⟨some 76,.bslice true [.int .i64 0] 1 1 [(0,(.t 75))],none⟩,
 ⟨some 77,.append false 1 8 (.t 64) (.t 76),none⟩,
 ⟨some 10,.mov (.t 77),none⟩]))))
 (.region [⟨some 44,.mov (.t 11),none⟩,
 ⟨some 45,.bin .add (.t 44) (.c (.int .i64 1)),none⟩,
 ⟨some 11,.mov (.t 45),none⟩]))
def xSN : ACode := xMP
def xHL : List Nat := [0,3,4,5,6,7,8,12,13,14,15,16,17,18,19,20,21,22,23,24,25,26,27,28,29,30,31,32,33,34,35,36,37,38,39,40,41,42,43,44,45,46,47,48,49,50,51,52,53,54,55,56,57,58,59,60,61,62,63,64,65,66,67,68,69,70,71,72,73,74,75,76,77,78,79]
abbrev xQg (s1 s2 s9 s10 s11 : AV) : List AV := [.any,s1,s2,.any,.any,.any,.any,.any,.any,s9,s10,s11,.any,.any,.any,.any,.any,.any,.any,.any,.any,.any,.any,.any,.any,.any,.any,.any,.any,.any,.any,.any,.any,.any,.any,.any,.any,.any,.any,.any,.any,.any,.any,.any,.any,.any,.any,.any,.any,.any,.any,.any,.any,.any,.any,.any,.any,.any,.any,.any,.any,.any,.any,.any,.any,.any,.any,.any,.any,.any,.any,.any,.any,.any,.any,.any,.any,.any,.any,.any]
theorem xMQ (s0 s1 s2 s3 s4 s5 s6 s7 s8 s9 s10 s11 s12 s13 s14 s15 s16 s17 s18 s19 s20 s21 s22 s23 s24 s25 s26 s27 s28 s29 s30 s31 s32 s33 s34 s35 s36 s37 s38 s39 s40 s41 s42 s43 s44 s45 s46 s47 s48 s49 s50 s51 s52 s53 s54 s55 s56 s57 s58 s59 s60 s61 s62 s63 s64 s65 s66 s67 s68 s69 s70 s71 s72 s73 s74 s75 s76 s77 s78 s79 : AV) : xAY xHL [s0,s1,s2,s3,s4,s5,s6,s7,s8,s9,s10,s11,s12,s13,s14,s15,s16,s17,s18,s19,s20,s21,s22,s23,s24,s25,s26,s27,s28,s29,s30,s31,s32,s33,s34,s35,s36,s37,s38,s39,s40,s41,s42,s43,s44,s45,s46,s47,s48,s49,s50,s51,s52,s53,s54,s55,s56,s57,s58,s59,s60,s61,s62,s63,s64,s65,s66,s67,s68,s69,s70,s71,s72,s73,s74,s75,s76,s77,s78,s79] = xQg s1 s2 s9 s10 s11 := by kernel_rfl
theorem xT1 {prog : Nat → Option AFunc} (s1 s2 s9 s10 s11 : AV) (H : Heap) : (lim prog).loop xHL xSN ⟨xQg s1 s2 s9 s10 s11,H⟩ = xBt (lim prog) xHL xSN (run (lim prog) xMP ⟨xQg s1 s2 s9 s10 s11,H⟩) := xAE _ _ _ _ (by kernel_rfl)
def a17 : AFunc := ⟨80,
 .seq (.region [⟨some 2,.box (.t 0),none⟩,
 ⟨some 4,.mov (.c (.sl true 0 [])),none⟩,
 ⟨some 5,.mov (.c (.sl true 0 [])),none⟩,
 ⟨some 6,.mov (.c (.int .i64 0)),none⟩])
 (.seq (.seq (.region [⟨some 13,.load true 5 (.t 2),none⟩,
 ⟨some 14,.call 22 [(.t 13)],none⟩,
 ⟨some 7,.mov (.t 14),none⟩])
 (.seq (.region [⟨some 15,.mov (.t 7),none⟩,
 ⟨some 16,.bin .neq (.t 15) (.c (.int .i64 0)),none⟩])
 (.cond (.t 16)
 (.seq (.region [⟨some 17,.mov (.t 7),none⟩,
 ⟨some 4,.mov (.c (.sl true 0 [])),none⟩,
 ⟨some 5,.mov (.c (.sl true 0 [])),none⟩,
 ⟨some 6,.mov (.t 17),none⟩])
 (.ret))
 (.skip))))
 (.seq (.seq (.region [⟨some 18,.mov (.t 1),none⟩,
 ⟨some 19,.len (.t 18),none⟩,
 ⟨some 20,.bin .gtr (.t 19) (.c (.int .i64 64)),none⟩])
 (.cond (.t 20)
 (.seq (.region [⟨some 4,.mov (.c (.sl true 0 [])),none⟩,
 ⟨some 5,.mov (.c (.sl true 0 [])),none⟩,
 ⟨some 6,.mov (.c (.int .i64 4)),none⟩])
 (.ret))
 (.skip)))
 (.seq (.seq (.region [⟨some 8,.mov (.c (.int .i64 0)),none⟩])
 (.block 0 (.loop xMO xXh)))
 (.seq (.region [⟨some 9,.mov (.c (.sl true 0 [])),none⟩])
 (.seq (.region [⟨some 37,.faddr 2 (.t 2),none⟩,
 ⟨some 38,.load false 1 (.t 37),none⟩,
 ⟨some 39,.bslice false [.int .i64 0] 1 1 [(0,(.t 38))],none⟩,
 ⟨some 10,.mov (.t 39),none⟩])
 (.seq (.seq (.region [⟨some 11,.mov (.c (.int .i64 0)),none⟩])
 (.block 2 (.loop xHL xSN)))
 (.seq (.region [⟨some 78,.mov (.t 9),none⟩,
 ⟨some 79,.mov (.t 10),none⟩,
 ⟨some 4,.mov (.t 78),none⟩,
 ⟨some 5,.mov (.t 79),none⟩,
 ⟨some 6,.mov (.c (.int .i64 0)),none⟩])
 (.ret)))))))),
 [.tmp 4,.tmp 5,.tmp 6]⟩
def xMR : ACode :=
 .seq (.block 1 (.seq (.seq (.region [⟨some 33,.mov (.t 8),none⟩,
 ⟨some 34,.load true 2 (.t 3),none⟩,
 ⟨some 35,.mov (.t 10),none⟩,
 ⟨some 36,.call 55 [(.t 34),(.t 35)],none⟩,
 ⟨some 37,.build [.int .i64 0,.int .i64 0] [(0,1,(.t 33)),(1,1,(.t 36))],none⟩,
 ⟨some 38,.icall (.c (.func 54 [])) [(.t 9),(.t 37)],none⟩,
 ⟨some 32,.mov (.t 38),none⟩,
 ⟨some 39,.ext 0 (.t 32),none⟩,
 ⟨some 40,.ext 1 (.t 32),none⟩,
 ⟨some 11,.box (.c (.agg [.sl true 0 [],.sl true 0 []])),none⟩,
 ⟨none,.store 2 (.t 11) (.t 39),none⟩,
 ⟨some 12,.mov (.t 40),none⟩])
 (.seq (.region [⟨some 41,.mov (.t 12),none⟩])
 (.cond (.t 41)
 (.seq (.region [⟨some 42,.load true 2 (.t 11),none⟩,
 ⟨none,.store 2 (.t 4) (.t 42),none⟩,
 ⟨some 5,.mov (.c (.int .i64 0)),none⟩])
 (.ret))
 (.skip))))
 (.seq (.region [⟨some 43,.load true 2 (.t 3),none⟩,
 ⟨some 44,.mov (.t 10),none⟩,
 ⟨some 45,.call 47 [(.t 43),(.t 44)],none⟩,
 ⟨some 13,.mov (.t 45),none⟩])
 (.seq (.draw 11 [⟨some 46,.faddr 1 (.t 9),none⟩,
 ⟨some 47,.load false 1 (.t 46),none⟩,
 ⟨some 48,.mov (.t 13),none⟩,
 ⟨some 49,.faddr 4 (.t 2),none⟩,
 ⟨some 50,.load false 1 (.t 49),none⟩,
 ⟨some 51,.mov (.t 8),none⟩,
 ⟨some 52,.iaddr 1 (.t 50) (.t 51),none⟩,
 ⟨some 53,.load false 1 (.t 52),none⟩,
 ⟨some 54,.mov (.t 13),none⟩,
 ⟨some 55,.iaddr 1 (.t 53) (.t 54),none⟩,
 ⟨some 56,.load false 1 (.t 55),none⟩,
 ⟨some 57,.faddr 0 (.t 2),none⟩,
 ⟨some 58,.load false 1 (.t 57),none⟩,
 ⟨some 59,.bin .shl (.t 56) (.t 58),none⟩,
 ⟨some 60,.bin .or (.t 48) (.t 59),none⟩,
 ⟨some 61,.bslice true [.int .u8 0] 1 1 [(0,(.t 60))],none⟩,
 ⟨some 62,.append false 1 1 (.t 47) (.t 61),none⟩,
 ⟨some 63,.faddr 1 (.t 9),none⟩,
 ⟨none,.store 1 (.t 63) (.t 62),none⟩])
 (.region [⟨some 64,.faddr 3 (.t 2),none⟩,
 ⟨some 65,.load false 1 (.t 64),none⟩,
 ⟨some 66,.mov (.t 8),none⟩,
 ⟨some 67,.iaddr 1 (.t 65) (.t 66),none⟩,
 ⟨some 68,.load false 1 (.t 67),none⟩,
 ⟨some 69,.mov (.t 13),none⟩,
 ⟨some 70,.iaddr 1 (.t 68) (.t 69),none⟩,
 ⟨some 71,.load false 1 (.t 70),none⟩,
 ⟨some 8,.mov (.t 71),none⟩])))))
 (.region [⟨some 30,.mov (.t 10),none⟩,
 ⟨some 31,.bin .add (.t 30) (.c (.int .i64 1)),none⟩,
 ⟨some 10,.mov (.t 31),none⟩])
def xPB : ACode := xMR
def xGt : List Nat := [0,1,6,7,11,12,13,14,15,16,17,18,19,20,21,22,23,24,25,26,27,28,29,30,31,32,33,34,35,36,37,38,39,40,41,42,43,44,45,46,47,48,49,50,51,52,53,54,55,56,57,58,59,60,61,62,63,64,65,66,67,68,69,70,71]
abbrev xQh (s2 s3 s4 s5 s8 s9 s10 : AV) : List AV := [.any,.any,s2,s3,s4,s5,.any,.any,s8,s9,s10,.any,.any,.any,.any,.any,.any,.any,.any,.any,.any,.any,.any,.any,.any,.any,.any,.any,.any,.any,.any,.any,.any,.any,.any,.any,.any,.any,.any,.any,.any,.any,.any,.any,.any,.any,.any,.any,.any,.any,.any,.any,.any,.any,.any,.any,.any,.any,.any,.any,.any,.any,.any,.any,.any,.any,.any,.any,.any,.any,.any,.any]
theorem xMS (s0 s1 s2 s3 s4 s5 s6 s7 s8 s9 s10 s11 s12 s13 s14 s15 s16 s17 s18 s19 s20 s21 s22 s23 s24 s25 s26 s27 s28 s29 s30 s31 s32 s33 s34 s35 s36 s37 s38 s39 s40 s41 s42 s43 s44 s45 s46 s47 s48 s49 s50 s51 s52 s53 s54 s55 s56 s57 s58 s59 s60 s61 s62 s63 s64 s65 s66 s67 s68 s69 s70 s71 : AV) : xAY xGt [s0,s1,s2,s3,s4,s5,s6,s7,s8,s9,s10,s11,s12,s13,s14,s15,s16,s17,s18,s19,s20,s21,s22,s23,s24,s25,s26,s27,s28,s29,s30,s31,s32,s33,s34,s35,s36,s37,s38,s39,s40,s41,s42,s43,s44,s45,s46,s47,s48,s49,s50,s51,s52,s53,s54,s55,s56,s57,s58,s59,s60,s61,s62,s63,s64,s65,s66,s67,s68,s69,s70,s71] = xQh s2 s3 s4 s5 s8 s9 s10 := by kernel_rfl
theorem xT2 {prog : Nat → Option AFunc} (s2 s3 s4 s5 s8 s9 s10 : AV) (H : Heap) : (lim prog).loop xGt xPB ⟨xQh s2 s3 s4 s5 s8 s9 s10,H⟩ = xBt (lim prog) xGt xPB (run (lim prog) xMR ⟨xQh s2 s3 s4 s5 s8 s9 s10,H⟩) := xAE _ _ _ _ (by kernel_rfl)
def a18 : AFunc := ⟨72,
 .seq (.region [⟨some 2,.box (.t 0),none⟩,
 ⟨some 3,.box (.t 1),none⟩,
 ⟨some 4,.box (.c (.agg [.sl true 0 [],.sl true 0 []])),none⟩,
 ⟨some 5,.mov (.c (.int .i64 0)),none⟩])
 (.seq (.seq (.region [⟨some 14,.load true 5 (.t 2),none⟩,
 ⟨some 15,.call 21 [(.t 14)],none⟩,
 ⟨some 6,.mov (.t 15),none⟩])
 (.seq (.region [⟨some 16,.mov (.t 6),none⟩,
 ⟨some 17,.bin .neq (.t 16) (.c (.int .i64 0)),none⟩])
 (.cond (.t 17)
 (.seq (.region [⟨some 18,.build [.sl true 0 [],.sl true 0 []] [],none⟩,
 ⟨some 19,.mov (.t 6),none⟩,
 ⟨none,.store 2 (.t 4) (.t 18),none⟩,
 ⟨some 5,.mov (.t 19),none⟩])
 (.ret))
 (.skip))))
 (.seq (.seq (.region [⟨some 20,.load true 2 (.t 3),none⟩,
 ⟨some 21,.faddr 0 (.t 2),none⟩,
 ⟨some 22,.load false 1 (.t 21),none⟩,
 ⟨some 23,.call 45 [(.t 20),(.t 22)],none⟩,
 ⟨some 7,.mov (.t 23),none⟩])
 (.seq (.region [⟨some 24,.mov (.t 7),none⟩,
 ⟨some 25,.bin .neq (.t 24) (.c (.int .i64 0)),none⟩])
 (.cond (.t 25)
 (.seq (.region [⟨some 26,.build [.sl true 0 [],.sl true 0 []] [],none⟩,
 ⟨some 27,.mov (.t 7),none⟩,
 ⟨none,.store 2 (.t 4) (.t 26),none⟩,
 ⟨some 5,.mov (.t 27),none⟩])
 (.ret))
 (.skip))))
 (.seq (.region [⟨some 28,.faddr 2 (.t 2),none⟩,
 ⟨some 29,.load false 1 (.t 28),none⟩,
 ⟨some 8,.mov (.t 29),none⟩])
 (.seq (.region [⟨some 9,.box (.c (.agg [.nilm,.sl true 0 []])),none⟩])
 (.seq (.region [⟨some 10,.mov (.c (.int .i64 0)),none⟩])
 (.block 0 (.loop xGt xPB))))))),
 [.cell 4 true 2,.tmp 5]⟩
def a19 : AFunc := ⟨10,
 .seq (.region [⟨some 1,.box (.t 0),none⟩,
 ⟨some 2,.box (.c (.agg [.sl true 0 [],.sl true 0 []])),none⟩])
 (.seq (.draw 5 [⟨some 3,.faddr 0 (.t 1),none⟩,
 ⟨some 4,.load false 1 (.t 3),none⟩,
 ⟨some 5,.append true 1 1 (.c (.sl true 0 [])) (.t 4),none⟩,
 ⟨some 6,.faddr 1 (.t 1),none⟩,
 ⟨some 7,.load false 1 (.t 6),none⟩,
 ⟨some 8,.append false 1 1 (.c (.sl true 0 [])) (.t 7),none⟩,
 ⟨some 9,.build [.sl true 0 [],.sl true 0 []] [(0,1,(.t 5)),(1,1,(.t 8))],none⟩,
 ⟨none,.store 2 (.t 2) (.t 9),none⟩])
 (.ret)),
 [.cell 2 true 2]⟩
def xJy : ACode :=
 .seq (.seq (.region [⟨some 50,.mov (.t 12),none⟩,
 ⟨some 51,.mov (.t 10),none⟩,
 ⟨some 52,.len (.t 51),none⟩,
 ⟨some 53,.bin .lss (.t 50) (.t 52),none⟩])
 (.cond (.t 53)
 (.skip)
 (.exit 2)))
 (.seq (.block 3 (.seq (.region [⟨some 56,.mov (.t 10),none⟩,
 ⟨some 57,.mov (.t 12),none⟩,
 ⟨some 58,.iaddr 1 (.t 56) (.t 57),none⟩,
 ⟨some 59,.load false 1 (.t 58),none⟩,
 ⟨some 60,.mov (.t 8),none⟩,
 ⟨some 61,.bin .eql (.t 59) (.t 60),none⟩])
 (.cond (.t 61)
 (.seq (.region [⟨some 62,.faddr 0 (.t 3),none⟩,
 ⟨some 63,.load false 1 (.t 62),none⟩,
 ⟨some 64,.len (.t 63),none⟩,
 ⟨some 65,.mov (.t 12),none⟩,
 ⟨some 66,.faddr 1 (.t 3),none⟩,
 ⟨some 67,.load false 1 (.t 66),none⟩,
 ⟨some 68,.len (.t 67),none⟩,
 ⟨some 69,.bin .mul (.t 65) (.t 68),none⟩,
 ⟨some 70,.bin .add (.t 64) (.t 69),none⟩,
 ⟨some 13,.mov (.t 70),none⟩])
 (.seq (.draw 4 [⟨some 71,.mov (.t 9),none⟩,
 ⟨some 72,.mov (.t 13),none⟩,
 ⟨some 73,.slice 1 (.t 71) none (some (.t 72)) none,none⟩,
 ⟨some 74,.mov (.t 9),none⟩,
 ⟨some 75,.mov (.t 13),none⟩,
 ⟨some 76,.slice 1 (.t 74) (some (.t 75)) none none,none⟩,
 ⟨some 77,.build [.sl true 0 [],.sl true 0 []] [(0,1,(.t 73)),(1,1,(.t 76))],none⟩,
 ⟨some 78,.call 57 [(.t 77)],none⟩,
 ⟨none,.store 2 (.t 4) (.t 78),none⟩,
 ⟨some 5,.mov (.c (.int .i64 0)),none⟩])
 (.ret)))
 (.skip))))
 (.region [⟨some 54,.mov (.t 12),none⟩,
 ⟨some 55,.bin .add (.t 54) (.c (.int .i64 1)),none⟩,
 ⟨some 12,.mov (.t 55),none⟩]))
def xT3 : ACode := xJy
def xJz : List Nat := [0,1,6,7,13,14,15,16,17,18,19,20,21,22,23,24,25,26,27,28,29,30,31,32,33,34,35,36,37,38,39,40,41,42,43,44,45,46,47,48,49,50,51,52,53,54,55,56,57,58,59,60,61,62,63,64,65,66,67,68,69,70,71,72,73,74,75,76,77,78,79,80,81,82,83,84,85,86,87,88,89,90,91,92,93,94,95,96,97,98,99,100,101,102,103,104,105,106,107,108,109,110]
abbrev xQi (s2 s3 s4 s5 s8 s9 s10 s11 s12 : AV) : List AV := [.any,.any,s2,s3,s4,s5,.any,.any,s8,s9,s10,s11,s12,.any,.any,.any,.any,.any,.any,.any,.any,.any,.any,.any,.any,.any,.any,.any,.any,.any,.any,.any,.any,.any,.any,.any,.any,.any,.any,.any,.any,.any,.any,.any,.any,.any,.any,.any,.any,.any,.any,.any,.any,.any,.any,.any,.any,.any,.any,.any,.any,.any,.any,.any,.any,.any,.any,.any,.any,.any,.any,.any,.any,.any,.any,.any,.any,.any,.any,.any,.any,.any,.any,.any,.any,.any,.any,.any,.any,.any,.any,.any,.any,.any,.any,.any,.any,.any,.any,.any,.any,.any,.any,.any,.any,.any,.any,.any,.any,.any,.any]
theorem xGu (s0 s1 s2 s3 s4 s5 s6 s7 s8 s9 s10 s11 s12 s13 s14 s15 s16 s17 s18 s19 s20 s21 s22 s23 s24 s25 s26 s27 s28 s29 s30 s31 s32 s33 s34 s35 s36 s37 s38 s39 s40 s41 s42 s43 s44 s45 s46 s47 s48 s49 s50 s51 s52 s53 s54 s55 s56 s57 s58 s59 s60 s61 s62 s63 s64 s65 s66 s67 s68 s69 s70 s71 s72 s73 s74 s75 s76 s77 s78 s79 s80 s81 s82 s83 s84 s85 s86 s87 s88 s89 s90 s91 s92 s93 s94 s95 s96 s97 s98 s99 s100 s101 s102 s103 s104 s105 s106 s107 s108 s109 s110 : AV) : xAY xJz [s0,s1,s2,s3,s4,s5,s6,s7,s8,s9,s10,s11,s12,s13,s14,s15,s16,s17,s18,s19,s20,s21,s22,s23,s24,s25,s26,s27,s28,s29,s30,s31,s32,s33,s34,s35,s36,s37,s38,s39,s40,s41,s42,s43,s44,s45,s46,s47,s48,s49,s50,s51,s52,s53,s54,s55,s56,s57,s58,s59,s60,s61,s62,s63,s64,s65,s66,s67,s68,s69,s70,s71,s72,s73,s74,s75,s76,s77,s78,s79,s80,s81,s82,s83,s84,s85,s86,s87,s88,s89,s90,s91,s92,s93,s94,s95,s96,s97,s98,s99,s100,s101,s102,s103,s104,s105,s106,s107,s108,s109,s110] = xQi s2 s3 s4 s5 s8 s9 s10 s11 s12 := by kernel_rfl
theorem xQj {prog : Nat → Option AFunc} (s2 s3 s4 s5 s8 s9 s10 s11 s12 : AV) (H : Heap) : (lim prog).loop xJz xT3 ⟨xQi s2 s3 s4 s5 s8 s9 s10 s11 s12,H⟩ = xBt (lim prog) xJz xT3 (run (lim prog) xJy ⟨xQi s2 s3 s4 s5 s8 s9 s10 s11 s12,H⟩) := xAE _ _ _ _ (by kernel_rfl)
def xJA : ACode :=
 .seq (.block 1 (.seq (.seq (.region [⟨some 33,.mov (.t 11),none⟩,
 ⟨some 34,.faddr 0 (.t 3),none⟩,
 ⟨some 35,.load false 1 (.t 34),none⟩,
 ⟨some 36,.len (.t 35),none⟩,
 ⟨some 37,.bin .geq (.t 33) (.t 36),none⟩,
 ⟨some 38,.mov (.t 37),none⟩,
 ⟨some 39,.mov (.t 11),some (38,true)⟩,
 ⟨some 40,.faddr 0 (.t 3),some (38,true)⟩,
 ⟨some 41,.load false 1 (.t 40),some (38,true)⟩,
 ⟨some 42,.len (.t 41),some (38,true)⟩,
 ⟨some 43,.bin .sub (.t 39) (.t 42),some (38,true)⟩,
 ⟨some 44,.faddr 1 (.t 3),some (38,true)⟩,
 ⟨some 45,.load false 1 (.t 44),some (38,true)⟩,
 ⟨some 46,.len (.t 45),some (38,true)⟩,
 ⟨some 47,.bin .rem (.t 43) (.t 46),some (38,true)⟩,
 ⟨some 48,.bin .eql (.t 47) (.c (.int .i64 0)),some (38,true)⟩,
 ⟨some 49,.pick (.t 38) (.t 48) (.c (.bool false)),none⟩])
 (.cond (.t 49)
 (.seq (.seq (.region [⟨some 12,.mov (.c (.int .i64 0)),none⟩])
 (.block 2 (.loop xJz xT3)))
 (.region [⟨some 79,.mov (.t 10),none⟩,
 ⟨some 80,.mov (.t 8),none⟩,
 ⟨some 81,.bslice true [.int .i64 0] 1 1 [(0,(.t 80))],none⟩,
 ⟨some 82,.append false 1 8 (.t 79) (.t 81),none⟩,
 ⟨some 10,.mov (.t 82),none⟩]))
 (.skip)))
 (.seq (.region [⟨some 83,.load true 2 (.t 3),none⟩,
 ⟨some 84,.mov (.t 11),none⟩,
 ⟨some 85,.call 58 [(.t 83),(.t 84)],none⟩,
 ⟨some 14,.mov (.t 85),none⟩])
 (.seq (.draw 10 [⟨some 86,.mov (.t 9),none⟩,
 ⟨some 87,.mov (.t 14),none⟩,
 ⟨some 88,.faddr 4 (.t 2),none⟩,
 ⟨some 89,.load false 1 (.t 88),none⟩,
 ⟨some 90,.mov (.t 8),none⟩,
 ⟨some 91,.iaddr 1 (.t 89) (.t 90),none⟩,
 ⟨some 92,.load false 1 (.t 91),none⟩,
 ⟨some 93,.mov (.t 14),none⟩,
 ⟨some 94,.iaddr 1 (.t 92) (.t 93),none⟩,
 ⟨some 95,.load false 1 (.t 94),none⟩,
 ⟨some 96,.faddr 0 (.t 2),none⟩,
 ⟨some 97,.load false 1 (.t 96),none⟩,
 ⟨some 98,.conv .u64 (.t 97),none⟩,
 ⟨some 99,.bin .shl (.t 95) (.t 98),none⟩,
 ⟨some 100,.bin .add (.t 87) (.t 99),none⟩,
 ⟨some 101,.bslice true [.int .u8 0] 1 1 [(0,(.t 100))],none⟩,
 ⟨some 102,.append false 1 1 (.t 86) (.t 101),none⟩,
 ⟨some 9,.mov (.t 102),none⟩])
 (.region [⟨some 103,.faddr 3 (.t 2),none⟩,
 ⟨some 104,.load false 1 (.t 103),none⟩,
 ⟨some 105,.mov (.t 8),none⟩,
 ⟨some 106,.iaddr 1 (.t 104) (.t 105),none⟩,
 ⟨some 107,.load false 1 (.t 106),none⟩,
 ⟨some 108,.mov (.t 14),none⟩,
 ⟨some 109,.iaddr 1 (.t 107) (.t 108),none⟩,
 ⟨some 110,.load false 1 (.t 109),none⟩,
 ⟨some 8,.mov (.t 110),none⟩])))))
 (.region [⟨some 31,.mov (.t 11),none⟩,
 ⟨some 32,.bin .add (.t 31) (.c (.int .i64 1)),none⟩,
 ⟨some 11,.mov (.t 32),none⟩])
def xMT : ACode := xJA
def xFh : List Nat := [0,1,6,7,12,13,14,15,16,17,18,19,20,21,22,23,24,25,26,27,28,29,30,31,32,33,34,35,36,37,38,39,40,41,42,43,44,45,46,47,48,49,50,51,52,53,54,55,56,57,58,59,60,61,62,63,64,65,66,67,68,69,70,71,72,73,74,75,76,77,78,79,80,81,82,83,84,85,86,87,88,89,90,91,92,93,94,95,96,97,98,99,100,101,102,103,104,105,106,107,108,109,110]
abbrev xQk (s2 s3 s4 s5 s8 s9 s10 s11 : AV) : List AV := [.any,.any,s2,s3,s4,s5,.any,.any,s8,s9,s10,s11,.any,.any,.any,.any,.any,.any,.any,.any,.any,.any,.any,.any,.any,.any,.any,.any,.any,.any,.any,.any,.any,.any,.any,.any,.any,.any,.any,.any,.any,.any,.any,.any,.any,.any,.any,.any,.any,.any,.any,.any,.any,.any,.any,.any,.any,.any,.any,.any,.any,.any,.any,.any,.any,.any,.any,.any,.any,.any,.any,.any,.any,.any,.any,.any,.any,.any,.any,.any,.any,.any,.any,.any,.any,.any,.any,.any,.any,.any,.any,.any,.any,.any,.any,.any,.any,.any,.any,.any,.any,.any,.any,.any,.any,.any,.any,.any,.any,.any,.any]
theorem xMU (s0 s1 s2 s3 s4 s5 s6 s7 s8 s9 s10 s11 s12 s13 s14 s15 s16 s17 s18 s19 s20 s21 s22 s23 s24 s25 s26 s27 s28 s29 s30 s31 s32 s33 s34 s35 s36 s37 s38 s39 s40 s41 s42 s43 s44 s45 s46 s47 s48 s49 s50 s51 s52 s53 s54 s55 s56 s57 s58 s59 s60 s61 s62 s63 s64 s65 s66 s67 s68 s69 s70 s71 s72 s73 s74 s75 s76 s77 s78 s79 s80 s81 s82 s83 s84 s85 s86 s87 s88 s89 s90 s91 s92 s93 s94 s95 s96 s97 s98 s99 s100 s101 s102 s103 s104 s105 s106 s107 s108 s109 s110 : AV) : xAY xFh [s0,s1,s2,s3,s4,s5,s6,s7,s8,s9,s10,s11,s12,s13,s14,s15,s16,s17,s18,s19,s20,s21,s22,s23,s24,s25,s26,s27,s28,s29,s30,s31,s32,s33,s34,s35,s36,s37,s38,s39,s40,s41,s42,s43,s44,s45,s46,s47,s48,s49,s50,s51,s52,s53,s54,s55,s56,s57,s58,s59,s60,s61,s62,s63,s64,s65,s66,s67,s68,s69,s70,s71,s72,s73,s74,s75,s76,s77,s78,s79,s80,s81,s82,s83,s84,s85,s86,s87,s88,s89,s90,s91,s92,s93,s94,s95,s96,s97,s98,s99,s100,s101,s102,s103,s104,s105,s106,s107,s108,s109,s110] = xQk s2 s3 s4 s5 s8 s9 s10 s11 := by kernel_rfl
theorem xQl {prog : Nat → Option AFunc} (s2 s3 s4 s5 s8 s9 s10 s11 : AV) (H : Heap) : (lim prog).loop xFh xMT ⟨xQk s2 s3 s4 s5 s8 s9 s10 s11,H⟩ = xBt (lim prog) xFh xMT (run (lim prog) xJA ⟨xQk s2 s3 s4 s5 s8 s9 s10 s11,H⟩) := xAE _ _ _ _ (by kernel_rfl)
def a20 : AFunc := ⟨111,
 .seq (.region [⟨some 2,.box (.t 0),none⟩,
 ⟨some 3,.box (.t 1),none⟩,
 ⟨some 4,.box (.c (.agg [.sl true 0 [],.sl true 0 []])),none⟩,
 ⟨some 5,.mov (.c (.int .i64 0)),none⟩])
 (.seq (.seq (.region [⟨some 15,.load true 5 (.t 2),none⟩,
 ⟨some 16,.call 22 [(.t 15)],none⟩,
 ⟨some 6,.mov (.t 16),none⟩])
 (.seq (.region [⟨some 17,.mov (.t 6),none⟩,
 ⟨some 18,.bin .neq (.t 17) (.c (.int .i64 0)),none⟩])
 (.cond (.t 18)
 (.seq (.region [⟨some 19,.build [.sl true 0 [],.sl true 0 []] [],none⟩,
 ⟨some 20,.mov (.t 6),none⟩,
 ⟨none,.store 2 (.t 4) (.t 19),none⟩,
 ⟨some 5,.mov (.t 20),none⟩])
 (.ret))
 (.skip))))
 (.seq (.seq (.region [⟨some 21,.load true 2 (.t 3),none⟩,
 ⟨some 22,.faddr 0 (.t 2),none⟩,
 ⟨some 23,.load false 1 (.t 22),none⟩,
 ⟨some 24,.call 56 [(.t 21),(.t 23)],none⟩,
 ⟨some 7,.mov (.t 24),none⟩])
 (.seq (.region [⟨some 25,.mov (.t 7),none⟩,
 ⟨some 26,.bin .neq (.t 25) (.c (.int .i64 0)),none⟩])
 (.cond (.t 26)
 (.seq (.region [⟨some 27,.build [.sl true 0 [],.sl true 0 []] [],none⟩,
 ⟨some 28,.mov (.t 7),none⟩,
 ⟨none,.store 2 (.t 4) (.t 27),none⟩,
 ⟨some 5,.mov (.t 28),none⟩])
 (.ret))
 (.skip))))
 (.seq (.region [⟨some 29,.faddr 2 (.t 2),none⟩,
 ⟨some 30,.load false 1 (.t 29),none⟩,
 ⟨some 8,.mov (.t 30),none⟩])
 (.seq (.region [⟨some 9,.mov (.c (.sl true 0 [])),none⟩])
 (.seq (.region [⟨some 10,.mov (.c (.sl true 0 [])),none⟩])
 (.seq (.region [⟨some 11,.mov (.c (.int .i64 0)),none⟩])
 (.block 0 (.loop xFh xMT)))))))),
 [.cell 4 true 2,.tmp 5]⟩
def xFi : ACode :=
 .seq (.region [⟨some 28,.bin .lss (.t 27) (.t 26),none⟩])
 (.seq (.cond (.t 28)
 (.skip)
 (.exit 0))
 (.seq (.block 1 (.seq (.region [⟨some 29,.mov (.t 27),none⟩,
 ⟨some 30,.iaddr 1 (.t 25) (.t 27),none⟩,
 ⟨some 31,.load false 1 (.t 30),none⟩,
 ⟨some 5,.mov (.t 29),none⟩,
 ⟨some 6,.mov (.t 31),none⟩])
 (.block 2 (.seq (.draw 16 [⟨some 33,.mov (.t 6),none⟩,
 ⟨some 34,.len (.t 33),none⟩,
 ⟨some 35,.faddr 0 (.t 1),none⟩,
 ⟨some 36,.load false 1 (.t 35),none⟩,
 ⟨some 37,.bin .shl (.c (.int .i64 1)) (.t 36),none⟩,
 ⟨some 38,.bin .neq (.t 34) (.t 37),none⟩,
 ⟨some 39,.mov (.t 38),none⟩,
 ⟨some 40,.faddr 4 (.t 1),some (39,false)⟩,
 ⟨some 41,.load false 1 (.t 40),some (39,false)⟩,
 ⟨some 42,.mov (.t 5),some (39,false)⟩,
 ⟨some 43,.iaddr 1 (.t 41) (.t 42),some (39,false)⟩,
 ⟨some 44,.load false 1 (.t 43),some (39,false)⟩,
 ⟨some 45,.len (.t 44),some (39,false)⟩,
 ⟨some 46,.faddr 0 (.t 1),some (39,false)⟩,
 ⟨some 47,.load false 1 (.t 46),some (39,false)⟩,
 ⟨some 48,.bin .shl (.c (.int .i64 1)) (.t 47),some (39,false)⟩,
 ⟨some 49,.bin .neq (.t 45) (.t 48),some (39,false)⟩,
 ⟨some 50,.pick (.t 39) (.c (.bool true)) (.t 49),none⟩,
 ⟨some 32,.mov (.t 50),none⟩])
 (.cond (.t 32)
 (.seq (.region [⟨some 2,.mov (.c (.int .i64 2)),none⟩])
 (.ret))
 (.seq (.region [⟨some 52,.mov (.t 6),none⟩,
 ⟨some 53,.mov (.t 3),none⟩,
 ⟨some 54,.call 60 [(.t 52),(.t 53)],none⟩,
 ⟨some 51,.mov (.t 54),none⟩])
 (.cond (.t 51)
 (.seq (.region [⟨some 2,.mov (.c (.int .i64 8)),none⟩])
 (.ret))
 (.seq (.draw 10 [⟨some 56,.faddr 4 (.t 1),none⟩,
 ⟨some 57,.load false 1 (.t 56),none⟩,
 ⟨some 58,.mov (.t 5),none⟩,
 ⟨some 59,.iaddr 1 (.t 57) (.t 58),none⟩,
 ⟨some 60,.load false 1 (.t 59),none⟩,
 ⟨some 61,.call 61 [(.t 60)],none⟩,
 ⟨some 62,.conv .i64 (.t 61),none⟩,
 ⟨some 63,.faddr 1 (.t 1),none⟩,
 ⟨some 64,.load false 1 (.t 63),none⟩,
 ⟨some 65,.bin .shl (.c (.int .i64 1)) (.t 64),none⟩,
 ⟨some 66,.bin .geq (.t 62) (.t 65),none⟩,
 ⟨some 55,.mov (.t 66),none⟩])
 (.cond (.t 55)
 (.seq (.region [⟨some 2,.mov (.c (.int .i64 1)),none⟩])
 (.ret))
 (.skip))))))))))
 (.region [⟨some 67,.bin .add (.t 27) (.c (.int .i64 1)),none⟩,
 ⟨some 27,.mov (.t 67),none⟩])))
def xXi : ACode := xFi
def xMV : List Nat := [0,4,5,6,7,8,9,10,11,12,13,14,15,16,17,18,19,20,21,22,23,24,28,29,30,31,32,33,34,35,36,37,38,39,40,41,42,43,44,45,46,47,48,49,50,51,52,53,54,55,56,57,58,59,60,61,62,63,64,65,66,67]
abbrev xJB (s1 s2 s3 s25 s26 s27 : AV) : List AV := [.any,s1,s2,s3,.any,.any,.any,.any,.any,.any,.any,.any,.any,.any,.any,.any,.any,.any,.any,.any,.any,.any,.any,.any,.any,s25,s26,s27,.any,.any,.any,.any,.any,.any,.any,.any,.any,.any,.any,.any,.any,.any,.any,.any,.any,.any,.any,.any,.any,.any,.any,.any,.any,.any,.any,.any,.any,.any,.any,.any,.any,.any,.any,.any,.any,.any,.any,.any]
theorem xFj (s0 s1 s2 s3 s4 s5 s6 s7 s8 s9 s10 s11 s12 s13 s14 s15 s16 s17 s18 s19 s20 s21 s22 s23 s24 s25 s26 s27 s28 s29 s30 s31 s32 s33 s34 s35 s36 s37 s38 s39 s40 s41 s42 s43 s44 s45 s46 s47 s48 s49 s50 s51 s52 s53 s54 s55 s56 s57 s58 s59 s60 s61 s62 s63 s64 s65 s66 s67 : AV) : xAY xMV [s0,s1,s2,s3,s4,s5,s6,s7,s8,s9,s10,s11,s12,s13,s14,s15,s16,s17,s18,s19,s20,s21,s22,s23,s24,s25,s26,s27,s28,s29,s30,s31,s32,s33,s34,s35,s36,s37,s38,s39,s40,s41,s42,s43,s44,s45,s46,s47,s48,s49,s50,s51,s52,s53,s54,s55,s56,s57,s58,s59,s60,s61,s62,s63,s64,s65,s66,s67] = xJB s1 s2 s3 s25 s26 s27 := by kernel_rfl
theorem xJC {prog : Nat → Option AFunc} (s1 s2 s3 s25 s26 s27 : AV) (H : Heap) : (lim prog).loop xMV xXi ⟨xJB s1 s2 s3 s25 s26 s27,H⟩ = xBt (lim prog) xMV xXi (run (lim prog) xFi ⟨xJB s1 s2 s3 s25 s26 s27,H⟩) := xAE _ _ _ _ (by kernel_rfl)
def a21 : AFunc := ⟨68,
 .seq (.region [⟨some 1,.box (.t 0),none⟩,
 ⟨some 2,.mov (.c (.int .i64 0)),none⟩])
 (.seq (.region [⟨some 7,.faddr 3 (.t 1),none⟩,
 ⟨some 8,.load false 1 (.t 7),none⟩,
 ⟨some 9,.len (.t 8),none⟩,
 ⟨some 3,.mov (.t 9),none⟩])
 (.seq (.seq (.region [⟨some 10,.faddr 0 (.t 1),none⟩,
 ⟨some 11,.load false 1 (.t 10),none⟩,
 ⟨some 12,.faddr 1 (.t 1),none⟩,
 ⟨some 13,.load false 1 (.t 12),none⟩,
 ⟨some 14,.mov (.t 3),none⟩,
 ⟨some 15,.faddr 4 (.t 1),none⟩,
 ⟨some 16,.load false 1 (.t 15),none⟩,
 ⟨some 17,.len (.t 16),none⟩,
 ⟨some 18,.faddr 2 (.t 1),none⟩,
 ⟨some 19,.load false 1 (.t 18),none⟩,
 ⟨some 20,.call 59 [(.t 11),(.t 13),(.t 14),(.t 17),(.t 19)],none⟩,
 ⟨some 4,.mov (.t 20),none⟩])
 (.seq (.region [⟨some 21,.mov (.t 4),none⟩,
 ⟨some 22,.bin .neq (.t 21) (.c (.int .i64 0)),none⟩])
 (.cond (.t 22)
 (.seq (.region [⟨some 23,.mov (.t 4),none⟩,
 ⟨some 2,.mov (.t 23),none⟩])
 (.ret))
 (.skip))))
 (.seq (.seq (.region [⟨some 24,.faddr 3 (.t 1),none⟩,
 ⟨some 25,.load false 1 (.t 24),none⟩,
 ⟨some 26,.len (.t 25),none⟩,
 ⟨some 27,.mov (.c (.int .i64 0)),none⟩])
 (.block 0 (.loop xMV xXi)))
 (.seq (.region [⟨some 2,.mov (.c (.int .i64 0)),none⟩])
 (.ret))))),
 [.tmp 2]⟩
def xJD : ACode :=
 .seq (.seq (.region [⟨some 67,.mov (.t 6),none⟩,
 ⟨some 68,.faddr 4 (.t 1),none⟩,
 ⟨some 69,.load false 1 (.t 68),none⟩,
 ⟨some 70,.mov (.t 5),none⟩,
 ⟨some 71,.iaddr 1 (.t 69) (.t 70),none⟩,
 ⟨some 72,.load false 1 (.t 71),none⟩,
 ⟨some 73,.len (.t 72),none⟩,
 ⟨some 74,.bin .lss (.t 67) (.t 73),none⟩])
 (.cond (.t 74)
 (.skip)
 (.exit 2)))
 (.seq (.block 3 (.seq (.draw 9 [⟨some 77,.faddr 4 (.t 1),none⟩,
 ⟨some 78,.load false 1 (.t 77),none⟩,
 ⟨some 79,.mov (.t 5),none⟩,
 ⟨some 80,.iaddr 1 (.t 78) (.t 79),none⟩,
 ⟨some 81,.load false 1 (.t 80),none⟩,
 ⟨some 82,.mov (.t 6),none⟩,
 ⟨some 83,.iaddr 1 (.t 81) (.t 82),none⟩,
 ⟨some 84,.load false 1 (.t 83),none⟩,
 ⟨some 85,.conv .i64 (.t 84),none⟩,
 ⟨some 86,.faddr 1 (.t 1),none⟩,
 ⟨some 87,.load false 1 (.t 86),none⟩,
 ⟨some 88,.conv .u64 (.t 87),none⟩,
 ⟨some 89,.bin .shl (.c (.int .i64 1)) (.t 88),none⟩,
 ⟨some 90,.bin .geq (.t 85) (.t 89),none⟩])
 (.cond (.t 90)
 (.seq (.region [⟨some 2,.mov (.c (.int .i64 1)),none⟩])
 (.ret))
 (.skip))))
 (.region [⟨some 75,.mov (.t 6),none⟩,
 ⟨some 76,.bin .add (.t 75) (.c (.int .i64 1)),none⟩,
 ⟨some 6,.mov (.t 76),none⟩]))
def xXj : ACode := xJD
def xMW : List Nat := [0,3,4,7,8,9,10,11,12,13,14,15,16,17,18,19,20,21,22,23,24,25,26,27,28,29,30,31,32,33,34,35,36,37,38,39,40,41,42,43,44,45,46,47,48,49,50,51,52,53,54,55,56,57,58,59,60,61,62,63,64,65,66,67,68,69,70,71,72,73,74,75,76,77,78,79,80,81,82,83,84,85,86,87,88,89,90]
abbrev xJE (s1 s2 s5 s6 : AV) : List AV := [.any,s1,s2,.any,.any,s5,s6,.any,.any,.any,.any,.any,.any,.any,.any,.any,.any,.any,.any,.any,.any,.any,.any,.any,.any,.any,.any,.any,.any,.any,.any,.any,.any,.any,.any,.any,.any,.any,.any,.any,.any,.any,.any,.any,.any,.any,.any,.any,.any,.any,.any,.any,.any,.any,.any,.any,.any,.any,.any,.any,.any,.any,.any,.any,.any,.any,.any,.any,.any,.any,.any,.any,.any,.any,.any,.any,.any,.any,.any,.any,.any,.any,.any,.any,.any,.any,.any,.any,.any,.any,.any]
theorem xHM (s0 s1 s2 s3 s4 s5 s6 s7 s8 s9 s10 s11 s12 s13 s14 s15 s16 s17 s18 s19 s20 s21 s22 s23 s24 s25 s26 s27 s28 s29 s30 s31 s32 s33 s34 s35 s36 s37 s38 s39 s40 s41 s42 s43 s44 s45 s46 s47 s48 s49 s50 s51 s52 s53 s54 s55 s56 s57 s58 s59 s60 s61 s62 s63 s64 s65 s66 s67 s68 s69 s70 s71 s72 s73 s74 s75 s76 s77 s78 s79 s80 s81 s82 s83 s84 s85 s86 s87 s88 s89 s90 : AV) : xAY xMW [s0,s1,s2,s3,s4,s5,s6,s7,s8,s9,s10,s11,s12,s13,s14,s15,s16,s17,s18,s19,s20,s21,s22,s23,s24,s25,s26,s27,s28,s29,s30,s31,s32,s33,s34,s35,s36,s37,s38,s39,s40,s41,s42,s43,s44,s45,s46,s47,s48,s49,s50,s51,s52,s53,s54,s55,s56,s57,s58,s59,s60,s61,s62,s63,s64,s65,s66,s67,s68,s69,s70,s71,s72,s73,s74,s75,s76,s77,s78,s79,s80,s81,s82,s83,s84,s85,s86,s87,s88,s89,s90] = xJE s1 s2 s5 s6 := by kernel_rfl
theorem xT4 {prog : Nat → Option AFunc} (s1 s2 s5 s6 : AV) (H : Heap) : (lim prog).loop xMW xXj ⟨xJE s1 s2 s5 s6,H⟩ = xBt (lim prog) xMW xXj (run (lim prog) xJD ⟨xJE s1 s2 s5 s6,H⟩) := xAE _ _ _ _ (by kernel_rfl)
def xFk : ACode :=
 .seq (.seq (.region [⟨some 26,.mov (.t 5),none⟩,
 ⟨some 27,.faddr 3 (.t 1),none⟩,
 ⟨some 28,.load false 1 (.t 27),none⟩,
 ⟨some 29,.len (.t 28),none⟩,
 ⟨some 30,.bin .lss (.t 26) (.t 29),none⟩])
 (.cond (.t 30)
 (.skip)
 (.exit 0)))
 (.seq (.block 1 (.seq (.seq (.draw 22 [⟨some 33,.faddr 3 (.t 1),none⟩,
 ⟨some 34,.load false 1 (.t 33),none⟩,
 ⟨some 35,.mov (.t 5),none⟩,
 ⟨some 36,.iaddr 1 (.t 34) (.t 35),none⟩,
 ⟨some 37,.load false 1 (.t 36),none⟩,
 ⟨some 38,.len (.t 37),none⟩,
 ⟨some 39,.faddr 0 (.t 1),none⟩,
 ⟨some 40,.load false 1 (.t 39),none⟩,
 ⟨some 41,.conv .u64 (.t 40),none⟩,
 ⟨some 42,.bin .shl (.c (.int .i64 1)) (.t 41),none⟩,
 ⟨some 43,.bin .neq (.t 38) (.t 42),none⟩,
 ⟨some 44,.mov (.t 43),none⟩,
 ⟨some 45,.faddr 4 (.t 1),some (44,false)⟩,
 ⟨some 46,.load false 1 (.t 45),some (44,false)⟩,
 ⟨some 47,.mov (.t 5),some (44,false)⟩,
 ⟨some 48,.iaddr 1 (.t 46) (.t 47),some (44,false)⟩,
 ⟨some 49,.load false 1 (.t 48),some (44,false)⟩,
 ⟨some 50,.len (.t 49),some (44,false)⟩,
 ⟨some 51,.faddr 0 (.t 1),some (44,false)⟩,
 ⟨some 52,.load false 1 (.t 51),some (44,false)⟩,
 ⟨some 53,.conv .u64 (.t 52),some (44,false)⟩,
 ⟨some 54,.bin .shl (.c (.int .i64 1)) (.t 53),some (44,false)⟩,
 ⟨some 55,.bin .neq (.t 50) (.t 54),some (44,false)⟩,
 ⟨some 56,.pick (.t 44) (.c (.bool true)) (.t 55),none⟩])
 (.cond (.t 56)
 (.seq (.region [⟨some 2,.mov (.c (.int .i64 2)),none⟩])
 (.ret))
 (.skip)))
 (.seq (.seq (.draw 5 [⟨some 57,.faddr 3 (.t 1),none⟩,
 ⟨some 58,.load false 1 (.t 57),none⟩,
 ⟨some 59,.mov (.t 5),none⟩,
 ⟨some 60,.iaddr 1 (.t 58) (.t 59),none⟩,
 ⟨some 61,.load false 1 (.t 60),none⟩,
 ⟨some 62,.faddr 3 (.t 1),none⟩,
 ⟨some 63,.load false 1 (.t 62),none⟩,
 ⟨some 64,.len (.t 63),none⟩,
 ⟨some 65,.call 64 [(.t 61),(.t 64)],none⟩,
 ⟨some 66,.un .not (.t 65),none⟩])
 (.cond (.t 66)
 (.seq (.region [⟨some 2,.mov (.c (.int .i64 8)),none⟩])
 (.ret))
 (.skip)))
 (.seq (.region [⟨some 6,.mov (.c (.int .i64 0)),none⟩])
 (.block 2 (.loop xMW xXj))))))
 (.region [⟨some 31,.mov (.t 5),none⟩,
 ⟨some 32,.bin .add (.t 31) (.c (.int .i64 1)),none⟩,
 ⟨some 5,.mov (.t 32),none⟩]))
def xXk : ACode := xFk
def xMX : List Nat := [0,3,4,6,7,8,9,10,11,12,13,14,15,16,17,18,19,20,21,22,23,24,25,26,27,28,29,30,31,32,33,34,35,36,37,38,39,40,41,42,43,44,45,46,47,48,49,50,51,52,53,54,55,56,57,58,59,60,61,62,63,64,65,66,67,68,69,70,71,72,73,74,75,76,77,78,79,80,81,82,83,84,85,86,87,88,89,90]
abbrev xJF (s1 s2 s5 : AV) : List AV := [.any,s1,s2,.any,.any,s5,.any,.any,.any,.any,.any,.any,.any,.any,.any,.any,.any,.any,.any,.any,.any,.any,.any,.any,.any,.any,.any,.any,.any,.any,.any,.any,.any,.any,.any,.any,.any,.any,.any,.any,.any,.any,.any,.any,.any,.any,.any,.any,.any,.any,.any,.any,.any,.any,.any,.any,.any,.any,.any,.any,.any,.any,.any,.any,.any,.any,.any,.any,.any,.any,.any,.any,.any,.any,.any,.any,.any,.any,.any,.any,.any,.any,.any,.any,.any,.any,.any,.any,.any,.any,.any]
theorem xFl (s0 s1 s2 s3 s4 s5 s6 s7 s8 s9 s10 s11 s12 s13 s14 s15 s16 s17 s18 s19 s20 s21 s22 s23 s24 s25 s26 s27 s28 s29 s30 s31 s32 s33 s34 s35 s36 s37 s38 s39 s40 s41 s42 s43 s44 s45 s46 s47 s48 s49 s50 s51 s52 s53 s54 s55 s56 s57 s58 s59 s60 s61 s62 s63 s64 s65 s66 s67 s68 s69 s70 s71 s72 s73 s74 s75 s76 s77 s78 s79 s80 s81 s82 s83 s84 s85 s86 s87 s88 s89 s90 : AV) : xAY xMX [s0,s1,s2,s3,s4,s5,s6,s7,s8,s9,s10,s11,s12,s13,s14,s15,s16,s17,s18,s19,s20,s21,s22,s23,s24,s25,s26,s27,s28,s29,s30,s31,s32,s33,s34,s35,s36,s37,s38,s39,s40,s41,s42,s43,s44,s45,s46,s47,s48,s49,s50,s51,s52,s53,s54,s55,s56,s57,s58,s59,s60,s61,s62,s63,s64,s65,s66,s67,s68,s69,s70,s71,s72,s73,s74,s75,s76,s77,s78,s79,s80,s81,s82,s83,s84,s85,s86,s87,s88,s89,s90] = xJF s1 s2 s5 := by kernel_rfl
theorem xJG {prog : Nat → Option AFunc} (s1 s2 s5 : AV) (H : Heap) : (lim prog).loop xMX xXk ⟨xJF s1 s2 s5,H⟩ = xBt (lim prog) xMX xXk (run (lim prog) xFk ⟨xJF s1 s2 s5,H⟩) := xAE _ _ _ _ (by kernel_rfl)
def a22 : AFunc := ⟨91,
 .seq (.region [⟨some 1,.box (.t 0),none⟩,
 ⟨some 2,.mov (.c (.int .i64 0)),none⟩])
 (.seq (.seq (.region [⟨some 7,.faddr 0 (.t 1),none⟩,
 ⟨some 8,.load false 1 (.t 7),none⟩,
 ⟨some 9,.faddr 1 (.t 1),none⟩,
 ⟨some 10,.load false 1 (.t 9),none⟩,
 ⟨some 11,.call 62 [(.t 8),(.t 10)],none⟩,
 ⟨some 3,.mov (.t 11),none⟩])
 (.seq (.region [⟨some 12,.mov (.t 3),none⟩,
 ⟨some 13,.bin .neq (.t 12) (.c (.int .i64 0)),none⟩])
 (.cond (.t 13)
 (.seq (.region [⟨some 14,.mov (.t 3),none⟩,
 ⟨some 2,.mov (.t 14),none⟩])
 (.ret))
 (.skip))))
 (.seq (.seq (.region [⟨some 15,.faddr 3 (.t 1),none⟩,
 ⟨some 16,.load false 1 (.t 15),none⟩,
 ⟨some 17,.faddr 4 (.t 1),none⟩,
 ⟨some 18,.load false 1 (.t 17),none⟩,
 ⟨some 19,.len (.t 18),none⟩,
 ⟨some 20,.faddr 2 (.t 1),none⟩,
 ⟨some 21,.load false 1 (.t 20),none⟩,
 ⟨some 22,.call 63 [(.t 16),(.t 19),(.t 21)],none⟩,
 ⟨some 4,.mov (.t 22),none⟩])
 (.seq (.region [⟨some 23,.mov (.t 4),none⟩,
 ⟨some 24,.bin .neq (.t 23) (.c (.int .i64 0)),none⟩])
 (.cond (.t 24)
 (.seq (.region [⟨some 25,.mov (.t 4),none⟩,
 ⟨some 2,.mov (.t 25),none⟩])
 (.ret))
 (.skip))))
 (.seq (.seq (.region [⟨some 5,.mov (.c (.int .i64 0)),none⟩])
 (.block 0 (.loop xMX xXk)))
 (.seq (.region [⟨some 2,.mov (.c (.int .i64 0)),none⟩])
 (.ret))))),
 [.tmp 2]⟩
def xJH : ACode :=
 .seq (.seq (.region [⟨some 11,.mov (.t 5),none⟩,
 ⟨some 12,.mov (.t 0),none⟩,
 ⟨some 13,.len (.t 12),none⟩,
 ⟨some 14,.bin .lss (.t 11) (.t 13),none⟩])
 (.cond (.t 14)
 (.skip)
 (.exit 0)))
 (.seq (.block 1 (.seq (.draw 5 [⟨some 17,.mov (.t 0),none⟩,
 ⟨some 18,.mov (.t 5),none⟩,
 ⟨some 19,.iaddr 1 (.t 17) (.t 18),none⟩,
 ⟨some 20,.load false 1 (.t 19),none⟩,
 ⟨some 21,.mov (.t 1),none⟩,
 ⟨some 22,.mov (.t 5),none⟩,
 ⟨some 23,.iaddr 1 (.t 21) (.t 22),none⟩,
 ⟨some 24,.load false 1 (.t 23),none⟩,
 ⟨some 25,.bin .neq (.t 20) (.t 24),none⟩])
 (.cond (.t 25)
 (.seq (.region [⟨some 4,.mov (.c (.bool false)),none⟩])
 (.ret))
 (.skip))))
 (.region [⟨some 15,.mov (.t 5),none⟩,
 ⟨some 16,.bin .add (.t 15) (.c (.int .i64 1)),none⟩,
 ⟨some 5,.mov (.t 16),none⟩]))
def xXl : ACode := xJH
def xMY : List Nat := [2,3,6,7,8,9,10,11,12,13,14,15,16,17,18,19,20,21,22,23,24,25]
abbrev xJI (s0 s1 s4 s5 : AV) : List AV := [s0,s1,.any,.any,s4,s5,.any,.any,.any,.any,.any,.any,.any,.any,.any,.any,.any,.any,.any,.any,.any,.any,.any,.any,.any,.any]
theorem xJJ (s0 s1 s2 s3 s4 s5 s6 s7 s8 s9 s10 s11 s12 s13 s14 s15 s16 s17 s18 s19 s20 s21 s22 s23 s24 s25 : AV) : xAY xMY [s0,s1,s2,s3,s4,s5,s6,s7,s8,s9,s10,s11,s12,s13,s14,s15,s16,s17,s18,s19,s20,s21,s22,s23,s24,s25] = xJI s0 s1 s4 s5 := by kernel_rfl
theorem xT5 {prog : Nat → Option AFunc} (s0 s1 s4 s5 : AV) (H : Heap) : (lim prog).loop xMY xXl ⟨xJI s0 s1 s4 s5,H⟩ = xBt (lim prog) xMY xXl (run (lim prog) xJH ⟨xJI s0 s1 s4 s5,H⟩) := xAE _ _ _ _ (by kernel_rfl)
def a23 : AFunc := ⟨26,
 .seq (.region [⟨some 4,.mov (.c (.bool false)),none⟩])
 (.seq (.seq (.region [⟨some 6,.mov (.t 0),none⟩,
 ⟨some 7,.len (.t 6),none⟩,
 ⟨some 8,.mov (.t 1),none⟩,
 ⟨some 9,.len (.t 8),none⟩,
 ⟨some 10,.bin .neq (.t 7) (.t 9),none⟩])
 (.cond (.t 10)
 (.seq (.region [⟨some 4,.mov (.c (.bool false)),none⟩])
 (.ret))
 (.skip)))
 (.seq (.seq (.region [⟨some 5,.mov (.c (.int .i64 0)),none⟩])
 (.block 0 (.loop xMY xXl)))
 (.seq (.region [⟨some 4,.mov (.c (.bool true)),none⟩])
 (.ret)))),
 [.tmp 4]⟩
def xJK : ACode :=
 .seq (.seq (.region [⟨some 11,.mov (.t 5),none⟩,
 ⟨some 12,.mov (.t 0),none⟩,
 ⟨some 13,.len (.t 12),none⟩,
 ⟨some 14,.bin .lss (.t 11) (.t 13),none⟩])
 (.cond (.t 14)
 (.skip)
 (.exit 0)))
 (.seq (.block 1 (.seq (.draw 5 [⟨some 17,.mov (.t 0),none⟩,
 ⟨some 18,.mov (.t 5),none⟩,
 ⟨some 19,.iaddr 1 (.t 17) (.t 18),none⟩,
 ⟨some 20,.load false 1 (.t 19),none⟩,
 ⟨some 21,.mov (.t 1),none⟩,
 ⟨some 22,.mov (.t 5),none⟩,
 ⟨some 23,.iaddr 1 (.t 21) (.t 22),none⟩,
 ⟨some 24,.load false 1 (.t 23),none⟩,
 ⟨some 25,.bin .neq (.t 20) (.t 24),none⟩])
 (.cond (.t 25)
 (.seq (.region [⟨some 4,.mov (.c (.bool false)),none⟩])
 (.ret))
 (.skip))))
 (.region [⟨some 15,.mov (.t 5),none⟩,
 ⟨some 16,.bin .add (.t 15) (.c (.int .i64 1)),none⟩,
 ⟨some 5,.mov (.t 16),none⟩]))
def xXm : ACode := xJK
def xMZ : List Nat := [2,3,6,7,8,9,10,11,12,13,14,15,16,17,18,19,20,21,22,23,24,25]
abbrev xJL (s0 s1 s4 s5 : AV) : List AV := [s0,s1,.any,.any,s4,s5,.any,.any,.any,.any,.any,.any,.any,.any,.any,.any,.any,.any,.any,.any,.any,.any,.any,.any,.any,.any]
theorem xJM (s0 s1 s2 s3 s4 s5 s6 s7 s8 s9 s10 s11 s12 s13 s14 s15 s16 s17 s18 s19 s20 s21 s22 s23 s24 s25 : AV) : xAY xMZ [s0,s1,s2,s3,s4,s5,s6,s7,s8,s9,s10,s11,s12,s13,s14,s15,s16,s17,s18,s19,s20,s21,s22,s23,s24,s25] = xJL s0 s1 s4 s5 := by kernel_rfl
theorem xT6 {prog : Nat → Option AFunc} (s0 s1 s4 s5 : AV) (H : Heap) : (lim prog).loop xMZ xXm ⟨xJL s0 s1 s4 s5,H⟩ = xBt (lim prog) xMZ xXm (run (lim prog) xJK ⟨xJL s0 s1 s4 s5,H⟩) := xAE _ _ _ _ (by kernel_rfl)
def a24 : AFunc := ⟨26,
 .seq (.region [⟨some 4,.mov (.c (.bool false)),none⟩])
 (.seq (.seq (.region [⟨some 6,.mov (.t 0),none⟩,
 ⟨some 7,.len (.t 6),none⟩,
 ⟨some 8,.mov (.t 1),none⟩,
 ⟨some 9,.len (.t 8),none⟩,
 ⟨some 10,.bin .neq (.t 7) (.t 9),none⟩])
 (.cond (.t 10)
 (.seq (.region [⟨some 4,.mov (.c (.bool false)),none⟩])
 (.ret))
 (.skip)))
 (.seq (.seq (.region [⟨some 5,.mov (.c (.int .i64 0)),none⟩])
 (.block 0 (.loop xMZ xXm)))
 (.seq (.region [⟨some 4,.mov (.c (.bool true)),none⟩])
 (.ret)))),
 [.tmp 4]⟩
def a25 : AFunc := ⟨17,
 .seq (.region [⟨some 2,.box (.t 0),none⟩,
 ⟨some 3,.box (.t 1),none⟩,
 ⟨some 4,.mov (.c (.bool false)),none⟩])
 (.seq (.region [⟨some 5,.faddr 0 (.t 2),none⟩,
 ⟨some 6,.load false 1 (.t 5),none⟩,
 ⟨some 7,.faddr 0 (.t 3),none⟩,
 ⟨some 8,.load false 1 (.t 7),none⟩,
 ⟨some 9,.call 65 [(.t 6),(.t 8)],none⟩,
 ⟨some 10,.mov (.t 9),none⟩,
 ⟨some 11,.faddr 1 (.t 2),some (10,true)⟩,
 ⟨some 12,.load false 1 (.t 11),some (10,true)⟩,
 ⟨some 13,.faddr 1 (.t 3),some (10,true)⟩,
 ⟨some 14,.load false 1 (.t 13),some (10,true)⟩,
 ⟨some 15,.call 65 [(.t 12),(.t 14)],some (10,true)⟩,
 ⟨some 16,.pick (.t 10) (.t 15) (.c (.bool false)),none⟩,
 ⟨some 4,.mov (.t 16),none⟩])
 (.ret)),
 [.tmp 4]⟩
def xM0 : ACode :=
 .seq (.seq (.region [⟨some 3,.mov (.t 2),none⟩,
 ⟨some 4,.mov (.t 0),none⟩,
 ⟨some 5,.len (.t 4),none⟩,
 ⟨some 6,.bin .lss (.t 3) (.t 5),none⟩])
 (.cond (.t 6)
 (.skip)
 (.exit 0)))
 (.seq (.block 1 (.region [⟨some 9,.mov (.t 0),none⟩,
 ⟨some 10,.mov (.t 2),none⟩,
 ⟨some 11,.iaddr 1 (.t 9) (.t 10),none⟩,
 ⟨none,.store 1 (.t 11) (.c (.int .u8 201)),none⟩]))
 (.region [⟨some 7,.mov (.t 2),none⟩,
 ⟨some 8,.bin .add (.t 7) (.c (.int .i64 1)),none⟩,
 ⟨some 2,.mov (.t 8),none⟩]))
def xXn : ACode := xM0
def xM1 : List Nat := [1,3,4,5,6,7,8,9,10,11]
abbrev xM2 (s0 s2 : AV) : List AV := [s0,.any,s2,.any,.any,.any,.any,.any,.any,.any,.any,.any]
theorem xQm (s0 s1 s2 s3 s4 s5 s6 s7 s8 s9 s10 s11 : AV) : xAY xM1 [s0,s1,s2,s3,s4,s5,s6,s7,s8,s9,s10,s11] = xM2 s0 s2 := by kernel_rfl
theorem xT7 {prog : Nat → Option AFunc} (s0 s2 : AV) (H : Heap) : (lim prog).loop xM1 xXn ⟨xM2 s0 s2,H⟩ = xBt (lim prog) xM1 xXn (run (lim prog) xM0 ⟨xM2 s0 s2,H⟩) := xAE _ _ _ _ (by kernel_rfl)
def a26 : AFunc := ⟨12,
 .seq (.region [⟨some 2,.mov (.c (.int .i64 0)),none⟩])
 (.block 0 (.loop xM1 xXn)),
 []⟩
def xM3 : ACode :=
 .seq (.seq (.region [⟨some 3,.mov (.t 2),none⟩,
 ⟨some 4,.mov (.t 0),none⟩,
 ⟨some 5,.len (.t 4),none⟩,
 ⟨some 6,.bin .lss (.t 3) (.t 5),none⟩])
 (.cond (.t 6)
 (.skip)
 (.exit 0)))
 (.seq (.block 1 (.region [⟨some 9,.mov (.t 0),none⟩,
 ⟨some 10,.mov (.t 2),none⟩,
 ⟨some 11,.iaddr 1 (.t 9) (.t 10),none⟩,
 ⟨none,.store 1 (.t 11) (.c (.int .i64 (-77))),none⟩]))
 (.region [⟨some 7,.mov (.t 2),none⟩,
 ⟨some 8,.bin .add (.t 7) (.c (.int .i64 1)),none⟩,
 ⟨some 2,.mov (.t 8),none⟩]))
def xXo : ACode := xM3
def xM4 : List Nat := [1,3,4,5,6,7,8,9,10,11]
abbrev xM5 (s0 s2 : AV) : List AV := [s0,.any,s2,.any,.any,.any,.any,.any,.any,.any,.any,.any]
theorem xQn (s0 s1 s2 s3 s4 s5 s6 s7 s8 s9 s10 s11 : AV) : xAY xM4 [s0,s1,s2,s3,s4,s5,s6,s7,s8,s9,s10,s11] = xM5 s0 s2 := by kernel_rfl
theorem xT8 {prog : Nat → Option AFunc} (s0 s2 : AV) (H : Heap) : (lim prog).loop xM4 xXo ⟨xM5 s0 s2,H⟩ = xBt (lim prog) xM4 xXo (run (lim prog) xM3 ⟨xM5 s0 s2,H⟩) := xAE _ _ _ _ (by kernel_rfl)
def a27 : AFunc := ⟨12,
 .seq (.region [⟨some 2,.mov (.c (.int .i64 0)),none⟩])
 (.block 0 (.loop xM4 xXo)),
 []⟩
def a28 : AFunc := ⟨8,
 .seq (.region [⟨some 1,.box (.t 0),none⟩])
 (.seq (.region [⟨some 2,.faddr 0 (.t 1),none⟩,
 ⟨some 3,.load false 1 (.t 2),none⟩,
 ⟨some 4,.icall (.c (.func 26 [])) [(.t 3)],none⟩])
 (.region [⟨some 5,.faddr 1 (.t 1),none⟩,
 ⟨some 6,.load false 1 (.t 5),none⟩,
 ⟨some 7,.icall (.c (.func 26 [])) [(.t 6)],none⟩])),
 []⟩
def a29 : AFunc := ⟨38,
 .seq (.region [⟨some 2,.box (.t 0),none⟩,
 ⟨some 3,.box (.t 1),none⟩,
 ⟨some 4,.mov (.c (.bool false)),none⟩])
 (.seq (.region [⟨some 5,.faddr 0 (.t 2),none⟩,
 ⟨some 6,.load false 1 (.t 5),none⟩,
 ⟨some 7,.faddr 0 (.t 3),none⟩,
 ⟨some 8,.load false 1 (.t 7),none⟩,
 ⟨some 9,.bin .eql (.t 6) (.t 8),none⟩,
 ⟨some 10,.mov (.t 9),none⟩,
 ⟨some 11,.faddr 1 (.t 2),some (10,true)⟩,
 ⟨some 12,.load false 1 (.t 11),some (10,true)⟩,
 ⟨some 13,.faddr 1 (.t 3),some (10,true)⟩,
 ⟨some 14,.load false 1 (.t 13),some (10,true)⟩,
 ⟨some 15,.bin .eql (.t 12) (.t 14),some (10,true)⟩,
 ⟨some 16,.pick (.t 10) (.t 15) (.c (.bool false)),none⟩,
 ⟨some 17,.mov (.t 16),none⟩,
 ⟨some 18,.faddr 2 (.t 2),some (17,true)⟩,
 ⟨some 19,.load false 1 (.t 18),some (17,true)⟩,
 ⟨some 20,.faddr 2 (.t 3),some (17,true)⟩,
 ⟨some 21,.load false 1 (.t 20),some (17,true)⟩,
 ⟨some 22,.bin .eql (.t 19) (.t 21),some (17,true)⟩,
 ⟨some 23,.pick (.t 17) (.t 22) (.c (.bool false)),none⟩,
 ⟨some 24,.mov (.t 23),none⟩,
 ⟨some 25,.faddr 3 (.t 2),some (24,true)⟩,
 ⟨some 26,.load false 1 (.t 25),some (24,true)⟩,
 ⟨some 27,.faddr 3 (.t 3),some (24,true)⟩,
 ⟨some 28,.load false 1 (.t 27),some (24,true)⟩,
 ⟨some 29,.call 66 [(.t 26),(.t 28)],some (24,true)⟩,
 ⟨some 30,.pick (.t 24) (.t 29) (.c (.bool false)),none⟩,
 ⟨some 31,.mov (.t 30),none⟩,
 ⟨some 32,.faddr 4 (.t 2),some (31,true)⟩,
 ⟨some 33,.load false 1 (.t 32),some (31,true)⟩,
 ⟨some 34,.faddr 4 (.t 3),some (31,true)⟩,
 ⟨some 35,.load false 1 (.t 34),some (31,true)⟩,
 ⟨some 36,.call 67 [(.t 33),(.t 35)],some (31,true)⟩,
 ⟨some 37,.pick (.t 31) (.t 36) (.c (.bool false)),none⟩,
 ⟨some 4,.mov (.t 37),none⟩])
 (.ret)),
 [.tmp 4]⟩
def yBw : ACode :=
 .block 1 (.seq (.seq (.region [⟨some 45,.load true 2 (.t 8),none⟩,
 ⟨some 46,.icall (.c (.func 68 [])) [(.t 9),(.t 45)],none⟩,
 ⟨some 44,.mov (.t 46),none⟩,
 ⟨some 47,.ext 0 (.t 44),none⟩,
 ⟨some 48,.ext 1 (.t 44),none⟩,
 ⟨some 10,.box (.c (.agg [.sl true 0 [],.sl true 0 []])),none⟩,
 ⟨none,.store 2 (.t 10) (.t 47),none⟩,
 ⟨some 11,.mov (.t 48),none⟩])
 (.seq (.region [⟨some 49,.mov (.t 11),none⟩])
 (.cond (.t 49)
 (.seq (.region [⟨some 50,.load true 2 (.t 10),none⟩,
 ⟨none,.store 2 (.t 4) (.t 50),none⟩,
 ⟨some 5,.mov (.c (.int .i64 0)),none⟩])
 (.ret))
 (.skip))))
 (.seq (.region [⟨some 51,.faddr 3 (.t 3),none⟩,
 ⟨some 52,.load false 1 (.t 51),none⟩,
 ⟨some 53,.faddr 1 (.t 8),none⟩,
 ⟨some 54,.load false 1 (.t 53),none⟩,
 ⟨some 55,.iaddr 1 (.t 52) (.t 54),none⟩,
 ⟨some 56,.load false 1 (.t 55),none⟩,
 ⟨some 12,.mov (.t 56),none⟩])
 (.seq (.region [⟨some 57,.faddr 4 (.t 2),none⟩,
 ⟨some 58,.load false 1 (.t 57),none⟩,
 ⟨some 59,.faddr 0 (.t 8),none⟩,
 ⟨some 60,.load false 1 (.t 59),none⟩,
 ⟨some 61,.iaddr 1 (.t 58) (.t 60),none⟩,
 ⟨some 62,.load false 1 (.t 61),none⟩,
 ⟨some 63,.mov (.t 12),none⟩,
 ⟨some 64,.iaddr 1 (.t 62) (.t 63),none⟩,
 ⟨some 65,.load false 1 (.t 64),none⟩,
 ⟨some 13,.mov (.t 65),none⟩])
 (.seq (.draw 4 [⟨some 66,.faddr 1 (.t 9),none⟩,
 ⟨some 67,.load false 1 (.t 66),none⟩,
 ⟨some 68,.mov (.t 12),none⟩,
 ⟨some 69,.mov (.t 13),none⟩,
 ⟨some 70,.faddr 0 (.t 2),none⟩,
 ⟨some 71,.load false 1 (.t 70),none⟩,
 ⟨some 72,.bin .shl (.t 69) (.t 71),none⟩,
 ⟨some 73,.bin .or (.t 68) (.t 72),none⟩,
 ⟨some 74,.bslice true [.int .u8 0] 1 1 [(0,(.t 73))],none⟩,
 ⟨some 75,.append false 1 1 (.t 67) (.t 74),none⟩,
 ⟨some 76,.faddr 1 (.t 9),none⟩,
 ⟨none,.store 1 (.t 76) (.t 75),none⟩])
 (.draw 15 [⟨some 77,.faddr 3 (.t 2),none⟩,
 ⟨some 78,.load false 1 (.t 77),none⟩,
 ⟨some 79,.faddr 0 (.t 8),none⟩,
 ⟨some 80,.load false 1 (.t 79),none⟩,
 ⟨some 81,.iaddr 1 (.t 78) (.t 80),none⟩,
 ⟨some 82,.load false 1 (.t 81),none⟩,
 ⟨some 83,.mov (.t 12),none⟩,
 ⟨some 84,.iaddr 1 (.t 82) (.t 83),none⟩,
 ⟨some 85,.load false 1 (.t 84),none⟩,
 ⟨some 86,.faddr 4 (.t 3),none⟩,
 ⟨some 87,.load false 1 (.t 86),none⟩,
 ⟨some 88,.faddr 1 (.t 8),none⟩,
 ⟨some 89,.load false 1 (.t 88),none⟩,
 ⟨some 90,.iaddr 1 (.t 87) (.t 89),none⟩,
 ⟨some 91,.load false 1 (.t 90),none⟩,
 ⟨some 92,.mov (.t 13),none⟩,
 ⟨some 93,.iaddr 1 (.t 91) (.t 92),none⟩,
 ⟨some 94,.load false 1 (.t 93),none⟩,
 ⟨some 95,.build [.int .i64 0,.int .i64 0] [(0,1,(.t 85)),(1,1,(.t 94))],none⟩,
 ⟨none,.store 2 (.t 8) (.t 95),none⟩])))))
def yC9 : ACode := yBw
def yBx : List Nat := [0,1,6,7,10,11,12,13,14,15,16,17,18,19,20,21,22,23,24,25,26,27,28,29,30,31,32,33,34,35,36,37,38,39,40,41,42,43,44,45,46,47,48,49,50,51,52,53,54,55,56,57,58,59,60,61,62,63,64,65,66,67,68,69,70,71,72,73,74,75,76,77,78,79,80,81,82,83,84,85,86,87,88,89,90,91,92,93,94,95]
def a31 : AFunc := ⟨96,
 .seq (.region [⟨some 2,.box (.t 0),none⟩,
 ⟨some 3,.box (.t 1),none⟩,
 ⟨some 4,.box (.c (.agg [.sl true 0 [],.sl true 0 []])),none⟩,
 ⟨some 5,.mov (.c (.int .i64 0)),none⟩])
 (.seq (.seq (.region [⟨some 14,.load true 5 (.t 2),none⟩,
 ⟨some 15,.call 21 [(.t 14)],none⟩,
 ⟨some 6,.mov (.t 15),none⟩])
 (.seq (.region [⟨some 16,.mov (.t 6),none⟩,
 ⟨some 17,.bin .neq (.t 16) (.c (.int .i64 0)),none⟩])
 (.cond (.t 17)
 (.seq (.region [⟨some 18,.build [.sl true 0 [],.sl true 0 []] [],none⟩,
 ⟨some 19,.mov (.t 6),none⟩,
 ⟨none,.store 2 (.t 4) (.t 18),none⟩,
 ⟨some 5,.mov (.t 19),none⟩])
 (.ret))
 (.skip))))
 (.seq (.seq (.region [⟨some 20,.load true 5 (.t 3),none⟩,
 ⟨some 21,.call 33 [(.t 20)],none⟩,
 ⟨some 7,.mov (.t 21),none⟩])
 (.seq (.region [⟨some 22,.mov (.t 7),none⟩,
 ⟨some 23,.bin .neq (.t 22) (.c (.int .i64 0)),none⟩])
 (.cond (.t 23)
 (.seq (.region [⟨some 24,.build [.sl true 0 [],.sl true 0 []] [],none⟩,
 ⟨some 25,.mov (.t 7),none⟩,
 ⟨none,.store 2 (.t 4) (.t 24),none⟩,
 ⟨some 5,.mov (.t 25),none⟩])
 (.ret))
 (.skip))))
 (.seq (.seq (.region [⟨some 26,.faddr 0 (.t 2),none⟩,
 ⟨some 27,.load false 1 (.t 26),none⟩,
 ⟨some 28,.faddr 0 (.t 3),none⟩,
 ⟨some 29,.load false 1 (.t 28),none⟩,
 ⟨some 30,.bin .neq (.t 27) (.t 29),none⟩,
 ⟨some 31,.mov (.t 30),none⟩,
 ⟨some 32,.faddr 1 (.t 2),some (31,false)⟩,
 ⟨some 33,.load false 1 (.t 32),some (31,false)⟩,
 ⟨some 34,.faddr 1 (.t 3),some (31,false)⟩,
 ⟨some 35,.load false 1 (.t 34),some (31,false)⟩,
 ⟨some 36,.bin .neq (.t 33) (.t 35),some (31,false)⟩,
 ⟨some 37,.pick (.t 31) (.c (.bool true)) (.t 36),none⟩])
 (.cond (.t 37)
 (.seq (.region [⟨some 38,.build [.sl true 0 [],.sl true 0 []] [],none⟩,
 ⟨none,.store 2 (.t 4) (.t 38),none⟩,
 ⟨some 5,.mov (.c (.int .i64 16)),none⟩])
 (.ret))
 (.skip)))
 (.seq (.region [⟨some 39,.faddr 2 (.t 2),none⟩,
 ⟨some 40,.load false 1 (.t 39),none⟩,
 ⟨some 41,.faddr 2 (.t 3),none⟩,
 ⟨some 42,.load false 1 (.t 41),none⟩,
 ⟨some 43,.build [.int .i64 0,.int .i64 0] [(0,1,(.t 40)),(1,1,(.t 42))],none⟩,
 ⟨some 8,.box (.c (.agg [.int .i64 0,.int .i64 0])),none⟩,
 ⟨none,.store 2 (.t 8) (.t 43),none⟩])
 (.seq (.region [⟨some 9,.box (.c (.agg [.nilm,.sl true 0 []])),none⟩])
 (.block 0 (.loop yBx yC9))))))),
 [.cell 4 true 2,.tmp 5]⟩
def yBy : ACode :=
 .seq (.region [⟨some 28,.bin .lss (.t 27) (.t 26),none⟩])
 (.seq (.cond (.t 28)
 (.skip)
 (.exit 0))
 (.seq (.block 1 (.seq (.region [⟨some 29,.mov (.t 27),none⟩,
 ⟨some 30,.iaddr 1 (.t 25) (.t 27),none⟩,
 ⟨some 31,.load false 1 (.t 30),none⟩,
 ⟨some 5,.mov (.t 29),none⟩,
 ⟨some 6,.mov (.t 31),none⟩])
 (.block 2 (.seq (.region [⟨some 33,.mov (.t 6),none⟩,
 ⟨some 34,.len (.t 33),none⟩,
 ⟨some 35,.faddr 1 (.t 1),none⟩,
 ⟨some 36,.load false 1 (.t 35),none⟩,
 ⟨some 37,.bin .shl (.c (.int .i64 1)) (.t 36),none⟩,
 ⟨some 38,.bin .neq (.t 34) (.t 37),none⟩,
 ⟨some 32,.mov (.t 38),none⟩])
 (.cond (.t 32)
 (.seq (.region [⟨some 2,.mov (.c (.int .i64 2)),none⟩])
 (.ret))
 (.seq (.region [⟨some 40,.mov (.t 6),none⟩,
 ⟨some 41,.mov (.t 3),none⟩,
 ⟨some 42,.call 60 [(.t 40),(.t 41)],none⟩,
 ⟨some 39,.mov (.t 42),none⟩])
 (.cond (.t 39)
 (.seq (.region [⟨some 2,.mov (.c (.int .i64 8)),none⟩])
 (.ret))
 (.seq (.draw 6 [⟨some 44,.faddr 3 (.t 1),none⟩,
 ⟨some 45,.load false 1 (.t 44),none⟩,
 ⟨some 46,.mov (.t 5),none⟩,
 ⟨some 47,.iaddr 1 (.t 45) (.t 46),none⟩,
 ⟨some 48,.load false 1 (.t 47),none⟩,
 ⟨some 49,.conv .i64 (.t 48),none⟩,
 ⟨some 50,.faddr 0 (.t 1),none⟩,
 ⟨some 51,.load false 1 (.t 50),none⟩,
 ⟨some 52,.bin .shl (.c (.int .i64 1)) (.t 51),none⟩,
 ⟨some 53,.bin .geq (.t 49) (.t 52),none⟩,
 ⟨some 43,.mov (.t 53),none⟩])
 (.cond (.t 43)
 (.seq (.region [⟨some 2,.mov (.c (.int .i64 1)),none⟩])
 (.ret))
 (.skip))))))))))
 (.region [⟨some 54,.bin .add (.t 27) (.c (.int .i64 1)),none⟩,
 ⟨some 27,.mov (.t 54),none⟩])))
def yDa : ACode := yBy
def yBz : List Nat := [0,4,5,6,7,8,9,10,11,12,13,14,15,16,17,18,19,20,21,22,23,24,28,29,30,31,32,33,34,35,36,37,38,39,40,41,42,43,44,45,46,47,48,49,50,51,52,53,54]
def a33 : AFunc := ⟨55,
 .seq (.region [⟨some 1,.box (.t 0),none⟩,
 ⟨some 2,.mov (.c (.int .i64 0)),none⟩])
 (.seq (.region [⟨some 7,.faddr 4 (.t 1),none⟩,
 ⟨some 8,.load false 1 (.t 7),none⟩,
 ⟨some 9,.len (.t 8),none⟩,
 ⟨some 3,.mov (.t 9),none⟩])
 (.seq (.seq (.region [⟨some 10,.faddr 0 (.t 1),none⟩,
 ⟨some 11,.load false 1 (.t 10),none⟩,
 ⟨some 12,.faddr 1 (.t 1),none⟩,
 ⟨some 13,.load false 1 (.t 12),none⟩,
 ⟨some 14,.mov (.t 3),none⟩,
 ⟨some 15,.faddr 3 (.t 1),none⟩,
 ⟨some 16,.load false 1 (.t 15),none⟩,
 ⟨some 17,.len (.t 16),none⟩,
 ⟨some 18,.faddr 2 (.t 1),none⟩,
 ⟨some 19,.load false 1 (.t 18),none⟩,
 ⟨some 20,.call 59 [(.t 11),(.t 13),(.t 14),(.t 17),(.t 19)],none⟩,
 ⟨some 4,.mov (.t 20),none⟩])
 (.seq (.region [⟨some 21,.mov (.t 4),none⟩,
 ⟨some 22,.bin .neq (.t 21) (.c (.int .i64 0)),none⟩])
 (.cond (.t 22)
 (.seq (.region [⟨some 23,.mov (.t 4),none⟩,
 ⟨some 2,.mov (.t 23),none⟩])
 (.ret))
 (.skip))))
 (.seq (.seq (.region [⟨some 24,.faddr 4 (.t 1),none⟩,
 ⟨some 25,.load false 1 (.t 24),none⟩,
 ⟨some 26,.len (.t 25),none⟩,
 ⟨some 27,.mov (.c (.int .i64 0)),none⟩])
 (.block 0 (.loop yBz yDa)))
 (.seq (.region [⟨some 2,.mov (.c (.int .i64 0)),none⟩])
 (.ret))))),
 [.tmp 2]⟩
def yBA : ACode :=
 .seq (.region [⟨some 30,.bin .lss (.t 29) (.t 28),none⟩])
 (.seq (.cond (.t 30)
 (.skip)
 (.exit 0))
 (.seq (.block 1 (.seq (.region [⟨some 31,.mov (.t 29),none⟩,
 ⟨some 32,.iaddr 1 (.t 27) (.t 29),none⟩,
 ⟨some 33,.load false 1 (.t 32),none⟩,
 ⟨some 7,.mov (.t 31),none⟩,
 ⟨some 8,.mov (.t 33),none⟩])
 (.region [⟨some 34,.load false 1 (.t 6),none⟩,
 ⟨some 35,.mov (.t 8),none⟩,
 ⟨some 36,.mov (.t 7),none⟩,
 ⟨some 37,.iaddr 1 (.t 34) (.t 35),none⟩,
 ⟨none,.store 1 (.t 37) (.t 36),none⟩])))
 (.region [⟨some 38,.bin .add (.t 29) (.c (.int .i64 1)),none⟩,
 ⟨some 29,.mov (.t 38),none⟩])))
def yDb : ACode := yBA
def yBB : List Nat := [0,3,4,7,8,9,10,11,12,13,14,15,16,17,18,19,20,21,22,23,24,25,26,30,31,32,33,34,35,36,37,38,39,40,41,42,43,44,45,46,47,48,49,50,51,52,53,54,55,56,57,58,59,60,61,62,63,64,65,66,67,68,69,70,71,72,73,74,75,76,77,78,79,80,81,82,83,84,85,86,87,88,89,90,91,92,93,94,95,96,97,98,99,100,101,102,103,104,105]
def yBC : ACode :=
 .seq (.region [⟨some 72,.bin .lss (.t 71) (.t 70),none⟩])
 (.seq (.cond (.t 72)
 (.skip)
 (.exit 4))
 (.seq (.block 5 (.seq (.region [⟨some 73,.mov (.t 71),none⟩,
 ⟨some 74,.iaddr 1 (.t 69) (.t 71),none⟩,
 ⟨some 75,.load false 1 (.t 74),none⟩,
 ⟨some 14,.mov (.t 73),none⟩,
 ⟨some 15,.mov (.t 75),none⟩])
 (.region [⟨some 77,.mov (.t 13),none⟩,
 ⟨some 78,.mov (.t 14),none⟩,
 ⟨some 79,.load false 1 (.t 5),none⟩,
 ⟨some 80,.mov (.t 15),none⟩,
 ⟨some 81,.iaddr 1 (.t 79) (.t 80),none⟩,
 ⟨some 82,.load false 1 (.t 81),none⟩,
 ⟨some 83,.icall (.c (.func 70 [])) [(.t 9),(.t 82)],none⟩,
 ⟨some 76,.mov (.t 83),none⟩,
 ⟨some 84,.ext 0 (.t 76),none⟩,
 ⟨some 85,.ext 1 (.t 76),none⟩,
 ⟨some 86,.iaddr 1 (.t 77) (.t 78),none⟩,
 ⟨none,.store 1 (.t 86) (.t 84),none⟩])))
 (.region [⟨some 87,.bin .add (.t 71) (.c (.int .i64 1)),none⟩,
 ⟨some 71,.mov (.t 87),none⟩])))
def yDc : ACode := yBC
def yBD : List Nat := [0,3,4,6,7,8,10,11,14,15,16,17,18,19,20,21,22,23,24,25,26,27,28,29,30,31,32,33,34,35,36,37,38,39,40,41,42,43,44,45,46,47,48,49,50,51,52,53,54,55,56,57,58,59,60,61,62,63,64,65,66,67,68,72,73,74,75,76,77,78,79,80,81,82,83,84,85,86,87,88,89,90,91,92,93,94,95,96,97,98,99,100,101,102,103,104,105]
def xZW : ACode :=
 .region [⟨some 11,.mov (.t 53),none⟩]
def yBE : ACode :=
 .block 3 (.seq (.region [⟨some 54,.load false 1 (.t 6),none⟩,
 ⟨some 55,.mov (.t 11),none⟩,
 ⟨some 56,.iaddr 1 (.t 54) (.t 55),none⟩,
 ⟨some 57,.load false 1 (.t 56),none⟩,
 ⟨some 12,.mov (.t 57),none⟩])
 (.seq (.region [⟨some 58,.faddr 3 (.t 1),none⟩,
 ⟨some 59,.load false 1 (.t 58),none⟩,
 ⟨some 60,.mov (.t 12),none⟩,
 ⟨some 61,.iaddr 1 (.t 59) (.t 60),none⟩,
 ⟨some 62,.load false 1 (.t 61),none⟩,
 ⟨some 63,.len (.t 62),none⟩,
 ⟨some 64,.mkslice false [.int .i64 0] 8 (.t 63) (.t 63),none⟩,
 ⟨some 13,.mov (.t 64),none⟩])
 (.seq (.seq (.region [⟨some 65,.faddr 3 (.t 1),none⟩,
 ⟨some 66,.load false 1 (.t 65),none⟩,
 ⟨some 67,.mov (.t 12),none⟩,
 ⟨some 68,.iaddr 1 (.t 66) (.t 67),none⟩,
 ⟨some 69,.load false 1 (.t 68),none⟩,
 ⟨some 70,.len (.t 69),none⟩,
 ⟨some 71,.mov (.c (.int .i64 0)),none⟩])
 (.block 4 (.loop yBD yDc)))
 (.fzs 13 (.drawh [(93,(1,13))] [] [(93,(1,(89,0))),(95,(1,(89,0))),(98,(1,(89,0)))] 11 [⟨some 88,.faddr 3 (.t 2),none⟩,
 ⟨some 89,.load false 1 (.t 88),none⟩,
 ⟨some 90,.mov (.t 13),none⟩,
 ⟨some 91,.dslice [.sl true 0 []] 1 1 [(0,(.t 90))],none⟩,
 ⟨some 93,.faddr 4 (.t 2),none⟩,
 ⟨some 94,.load false 1 (.t 93),none⟩,
 ⟨some 95,.faddr 4 (.t 1),none⟩,
 ⟨some 96,.load false 1 (.t 95),none⟩,
 ⟨some 97,.mov (.t 12),none⟩,
 ⟨some 98,.iaddr 1 (.t 96) (.t 97),none⟩,
 ⟨some 99,.load false 1 (.t 98),none⟩,
 ⟨some 92,.append false 1 24 (.t 89) (.t 91),none⟩,
 ⟨some 103,.faddr 3 (.t 2),none⟩,
 ⟨some 100,.call 72 [(.t 99)],none⟩,
 ⟨some 101,.dslice [.sl true 0 []] 1 1 [(0,(.t 100))],none⟩,
 ⟨some 102,.append false 1 24 (.t 94) (.t 101),none⟩,
 ⟨none,.store 1 (.t 103) (.t 92),none⟩,
 ⟨some 104,.faddr 4 (.t 2),none⟩,
 ⟨none,.store 1 (.t 104) (.t 102),none⟩])))))
def yBF : ACode := xZW
def yDd : ACode := yBE
def a35 : AFunc := ⟨106,
 .seq (.region [⟨some 1,.box (.t 0),none⟩,
 ⟨some 2,.box (.c (.agg [.int .i64 0,.int .i64 0,.int .i64 0,.sl true 0 [],.sl true 0 []])),none⟩,
 ⟨some 3,.mov (.c (.int .i64 0)),none⟩])
 (.seq (.seq (.region [⟨some 16,.load true 5 (.t 1),none⟩,
 ⟨some 17,.call 21 [(.t 16)],none⟩,
 ⟨some 4,.mov (.t 17),none⟩])
 (.seq (.region [⟨some 18,.mov (.t 4),none⟩,
 ⟨some 19,.bin .neq (.t 18) (.c (.int .i64 0)),none⟩])
 (.cond (.t 19)
 (.seq (.region [⟨some 20,.load true 5 (.t 2),none⟩,
 ⟨some 21,.mov (.t 4),none⟩,
 ⟨none,.store 5 (.t 2) (.t 20),none⟩,
 ⟨some 3,.mov (.t 21),none⟩])
 (.ret))
 (.skip))))
 (.seq (.region [⟨some 22,.load true 5 (.t 1),none⟩,
 ⟨some 23,.call 69 [(.t 22)],none⟩,
 ⟨some 5,.box (.c (.sl true 0 [])),none⟩,
 ⟨none,.store 1 (.t 5) (.t 23),none⟩])
 (.seq (.region [⟨some 24,.load false 1 (.t 5),none⟩,
 ⟨some 25,.len (.t 24),none⟩,
 ⟨some 26,.mkslice false [.int .i64 0] 8 (.t 25) (.t 25),none⟩,
 ⟨some 6,.box (.c (.sl true 0 [])),none⟩,
 ⟨none,.store 1 (.t 6) (.t 26),none⟩])
 (.seq (.seq (.region [⟨some 27,.load false 1 (.t 5),none⟩,
 ⟨some 28,.len (.t 27),none⟩,
 ⟨some 29,.mov (.c (.int .i64 0)),none⟩])
 (.block 0 (.loop yBB yDb)))
 (.seq (.drawl [(41,(1,(43,1)))] 4 [⟨some 39,.faddr 0 (.t 1),none⟩,
 ⟨some 40,.load false 1 (.t 39),none⟩,
 ⟨some 41,.faddr 1 (.t 1),none⟩,
 ⟨some 42,.load false 1 (.t 41),none⟩,
 ⟨some 43,.faddr 0 (.t 2),none⟩,
 ⟨none,.store 1 (.t 43) (.t 40),none⟩,
 ⟨some 44,.faddr 1 (.t 2),none⟩,
 ⟨none,.store 1 (.t 44) (.t 42),none⟩])
 (.seq (.region [⟨some 9,.box (.c (.agg [.nilm,.sl true 0 []])),none⟩])
 (.seq (.region [⟨some 45,.load false 1 (.t 5),none⟩,
 ⟨some 46,.faddr 2 (.t 1),none⟩,
 ⟨some 47,.load false 1 (.t 46),none⟩,
 ⟨some 48,.iaddr 1 (.t 45) (.t 47),none⟩,
 ⟨some 49,.load false 1 (.t 48),none⟩,
 ⟨some 50,.icall (.c (.func 70 [])) [(.t 9),(.t 49)],none⟩])
 (.seq (.seq (.region [⟨some 51,.icall (.c (.func 71 [])) [(.t 9)],none⟩])
 (.block 2 (.range (.t 51) [52,53] yBF yDd)))
 (.seq (.region [⟨some 105,.load true 5 (.t 2),none⟩,
 ⟨none,.store 5 (.t 2) (.t 105),none⟩,
 ⟨some 3,.mov (.c (.int .i64 0)),none⟩])
 (.ret)))))))))),
 [.cell 2 true 5,.tmp 3]⟩
def yBG : ACode :=
 .seq (.region [⟨some 23,.bin .lss (.t 22) (.t 21),none⟩])
 (.seq (.cond (.t 23)
 (.skip)
 (.exit 0))
 (.seq (.block 1 (.seq (.region [⟨some 24,.iaddr 5 (.t 20) (.t 22),none⟩,
 ⟨some 25,.load true 5 (.t 24),none⟩,
 ⟨some 8,.box (.c (.agg [.int .i64 0,.int .i64 0,.int .i64 0,.sl true 0 [],.sl true 0 []])),none⟩,
 ⟨none,.store 5 (.t 8) (.t 25),none⟩])
 (.seq (.region [⟨some 26,.load true 5 (.t 8),none⟩,
 ⟨some 27,.call 21 [(.t 26)],none⟩,
 ⟨some 9,.mov (.t 27),none⟩])
 (.seq (.region [⟨some 28,.mov (.t 9),none⟩,
 ⟨some 29,.bin .neq (.t 28) (.c (.int .i64 0)),none⟩])
 (.cond (.t 29)
 (.seq (.region [⟨some 30,.mov (.t 9),none⟩,
 ⟨none,.store 1 (.t 4) (.c (.sl true 0 [])),none⟩,
 ⟨none,.store 1 (.t 5) (.c (.bool false)),none⟩,
 ⟨none,.store 1 (.t 6) (.t 30),none⟩])
 (.ret))
 (.skip))))))
 (.region [⟨some 31,.bin .add (.t 22) (.c (.int .i64 1)),none⟩,
 ⟨some 22,.mov (.t 31),none⟩])))
def yDe : ACode := yBG
def yBH : List Nat := [0,1,7,8,9,10,11,12,13,14,15,16,17,18,19,23,24,25,26,27,28,29,30,31,32,33,34,35,36,37,38,39,40,41,42,43,44,45,46,47,48,49,50,51,52,53,54,55,56,57,58,59,60,61,62,63,64,65,66,67,68,69,70,71,72,73,74,75,76,77,78,79,80,81,82,83,84,85,86,87,88,89,90,91,92,93,94,95,96,97,98,99,100,101,102,103,104,105,106,107,108,109,110,111,112,113,114,115,116,117]
def yBI : ACode :=
 .seq (.region [⟨some 58,.bin .lss (.t 57) (.t 56),none⟩])
 (.seq (.cond (.t 58)
 (.skip)
 (.exit 4))
 (.seq (.block 5 (.seq (.region [⟨some 59,.mov (.t 57),none⟩,
 ⟨some 14,.mov (.t 59),none⟩])
 (.seq (.region [⟨some 60,.load false 1 (.t 11),none⟩,
 ⟨some 61,.mov (.t 12),none⟩,
 ⟨some 62,.iaddr 1 (.t 60) (.t 61),none⟩,
 ⟨some 63,.load false 1 (.t 62),none⟩,
 ⟨some 64,.mov (.t 14),none⟩,
 ⟨some 65,.conv .u8 (.t 64),none⟩,
 ⟨some 66,.bslice true [.int .u8 0] 1 1 [(0,(.t 65))],none⟩,
 ⟨some 67,.bslice true [.sl true 0 []] 1 2 [(0,(.t 63)),(1,(.t 66))],none⟩,
 ⟨some 68,.call 76 [(.t 67)],none⟩,
 ⟨some 15,.mov (.t 68),none⟩])
 (.seq (.seq (.draw 15 [⟨some 69,.faddr 4 (.t 2),none⟩,
 ⟨some 70,.load false 1 (.t 69),none⟩,
 ⟨some 71,.arrat 1 2 (.t 13) (.c (.int .i64 0)),none⟩,
 ⟨some 72,.load false 1 (.t 71),none⟩,
 ⟨some 73,.iaddr 1 (.t 70) (.t 72),none⟩,
 ⟨some 74,.load false 1 (.t 73),none⟩,
 ⟨some 75,.mov (.t 14),none⟩,
 ⟨some 76,.iaddr 1 (.t 74) (.t 75),none⟩,
 ⟨some 77,.load false 1 (.t 76),none⟩,
 ⟨some 78,.faddr 4 (.t 3),none⟩,
 ⟨some 79,.load false 1 (.t 78),none⟩,
 ⟨some 80,.arrat 1 2 (.t 13) (.c (.int .i64 1)),none⟩,
 ⟨some 81,.load false 1 (.t 80),none⟩,
 ⟨some 82,.iaddr 1 (.t 79) (.t 81),none⟩,
 ⟨some 83,.load false 1 (.t 82),none⟩,
 ⟨some 84,.mov (.t 14),none⟩,
 ⟨some 85,.iaddr 1 (.t 83) (.t 84),none⟩,
 ⟨some 86,.load false 1 (.t 85),none⟩,
 ⟨some 87,.bin .neq (.t 77) (.t 86),none⟩])
 (.cond (.t 87)
 (.seq (.region [⟨some 88,.mov (.t 15),none⟩,
 ⟨none,.store 1 (.t 4) (.t 88),none⟩,
 ⟨none,.store 1 (.t 5) (.c (.bool false)),none⟩,
 ⟨none,.store 1 (.t 6) (.c (.int .i64 0)),none⟩])
 (.ret))
 (.skip)))
 (.seq (.draw 15 [⟨some 90,.faddr 3 (.t 2),none⟩,
 ⟨some 91,.load false 1 (.t 90),none⟩,
 ⟨some 92,.arrat 1 2 (.t 13) (.c (.int .i64 0)),none⟩,
 ⟨some 93,.load false 1 (.t 92),none⟩,
 ⟨some 94,.iaddr 1 (.t 91) (.t 93),none⟩,
 ⟨some 95,.load false 1 (.t 94),none⟩,
 ⟨some 96,.mov (.t 14),none⟩,
 ⟨some 97,.iaddr 1 (.t 95) (.t 96),none⟩,
 ⟨some 98,.load false 1 (.t 97),none⟩,
 ⟨some 99,.faddr 3 (.t 3),none⟩,
 ⟨some 100,.load false 1 (.t 99),none⟩,
 ⟨some 101,.arrat 1 2 (.t 13) (.c (.int .i64 1)),none⟩,
 ⟨some 102,.load false 1 (.t 101),none⟩,
 ⟨some 103,.iaddr 1 (.t 100) (.t 102),none⟩,
 ⟨some 104,.load false 1 (.t 103),none⟩,
 ⟨some 105,.mov (.t 14),none⟩,
 ⟨some 106,.iaddr 1 (.t 104) (.t 105),none⟩,
 ⟨some 107,.load false 1 (.t 106),none⟩,
 ⟨some 108,.build [.int .i64 0,.int .i64 0] [(0,1,(.t 98)),(1,1,(.t 107))],none⟩,
 ⟨some 109,.icall (.c (.func 74 [])) [(.t 10),(.t 108)],none⟩,
 ⟨some 89,.mov (.t 109),none⟩,
 ⟨some 110,.ext 0 (.t 89),none⟩,
 ⟨some 111,.ext 1 (.t 89),none⟩,
 ⟨some 16,.mov (.t 110),none⟩,
 ⟨some 17,.mov (.t 111),none⟩])
 (.seq (.region [⟨some 112,.mov (.t 17),none⟩])
 (.cond (.t 112)
 (.region [⟨some 113,.load false 1 (.t 11),none⟩,
 ⟨some 114,.mov (.t 15),none⟩,
 ⟨some 115,.bslice true [.sl true 0 []] 1 1 [(0,(.t 114))],none⟩,
 ⟨some 116,.append false 1 24 (.t 113) (.t 115),none⟩,
 ⟨none,.store 1 (.t 11) (.t 116),none⟩])
 (.skip))))))))
 (.region [⟨some 117,.bin .add (.t 57) (.c (.int .i64 1)),none⟩,
 ⟨some 57,.mov (.t 117),none⟩])))
def yDf : ACode := yBI
def yBJ : List Nat := [0,1,7,8,9,14,15,16,17,18,19,20,21,22,23,24,25,26,27,28,29,30,31,32,33,34,35,36,37,38,39,40,41,42,43,44,45,46,47,48,49,50,51,52,53,54,55,58,59,60,61,62,63,64,65,66,67,68,69,70,71,72,73,74,75,76,77,78,79,80,81,82,83,84,85,86,87,88,89,90,91,92,93,94,95,96,97,98,99,100,101,102,103,104,105,106,107,108,109,110,111,112,113,114,115,116,117]
def xZX : ACode :=
 .seq (.region [⟨some 12,.mov (.t 52),none⟩])
 (.region [⟨some 13,.box (.c (.agg [.int .i64 0,.int .i64 0])),none⟩,
 ⟨none,.store 2 (.t 13) (.t 53),none⟩])
def yBK : ACode :=
 .block 3 (.seq (.region [⟨some 54,.faddr 0 (.t 2),none⟩,
 ⟨some 55,.load false 1 (.t 54),none⟩,
 ⟨some 56,.bin .shl (.c (.int .i64 1)) (.t 55),none⟩,
 ⟨some 57,.mov (.c (.int .i64 0)),none⟩])
 (.block 4 (.loop yBJ yDf)))
def yBL : ACode := xZX
def yDg : ACode := yBK
def a37 : AFunc := ⟨118,
 .seq (.region [⟨some 2,.box (.t 0),none⟩,
 ⟨some 3,.box (.t 1),none⟩,
 ⟨some 4,.box (.c (.sl true 0 [])),none⟩,
 ⟨some 5,.box (.c (.bool false)),none⟩,
 ⟨some 6,.box (.c (.int .i64 0)),none⟩])
 (.seq (.seq (.region [⟨some 18,.load true 5 (.t 2),none⟩,
 ⟨some 19,.load true 5 (.t 3),none⟩,
 ⟨some 20,.bslice true [.int .i64 0,.int .i64 0,.int .i64 0,.sl true 0 [],.sl true 0 []] 5 2 [(0,(.t 18)),(1,(.t 19))],none⟩,
 ⟨some 21,.len (.t 20),none⟩,
 ⟨some 22,.mov (.c (.int .i64 0)),none⟩])
 (.block 0 (.loop yBH yDe)))
 (.seq (.seq (.region [⟨some 32,.faddr 0 (.t 2),none⟩,
 ⟨some 33,.load false 1 (.t 32),none⟩,
 ⟨some 34,.faddr 0 (.t 3),none⟩,
 ⟨some 35,.load false 1 (.t 34),none⟩,
 ⟨some 36,.bin .neq (.t 33) (.t 35),none⟩,
 ⟨some 37,.mov (.t 36),none⟩,
 ⟨some 38,.faddr 1 (.t 2),some (37,false)⟩,
 ⟨some 39,.load false 1 (.t 38),some (37,false)⟩,
 ⟨some 40,.faddr 1 (.t 3),some (37,false)⟩,
 ⟨some 41,.load false 1 (.t 40),some (37,false)⟩,
 ⟨some 42,.bin .neq (.t 39) (.t 41),some (37,false)⟩,
 ⟨some 43,.pick (.t 37) (.c (.bool true)) (.t 42),none⟩])
 (.cond (.t 43)
 (.seq (.region [⟨none,.store 1 (.t 4) (.c (.sl true 0 [])),none⟩,
 ⟨none,.store 1 (.t 5) (.c (.bool false)),none⟩,
 ⟨none,.store 1 (.t 6) (.c (.int .i64 7)),none⟩])
 (.ret))
 (.skip)))
 (.seq (.region [⟨some 10,.box (.c (.agg [.nilm,.sl true 0 []])),none⟩])
 (.seq (.region [⟨some 44,.faddr 2 (.t 2),none⟩,
 ⟨some 45,.load false 1 (.t 44),none⟩,
 ⟨some 46,.faddr 2 (.t 3),none⟩,
 ⟨some 47,.load false 1 (.t 46),none⟩,
 ⟨some 48,.build [.int .i64 0,.int .i64 0] [(0,1,(.t 45)),(1,1,(.t 47))],none⟩,
 ⟨some 49,.icall (.c (.func 74 [])) [(.t 10),(.t 48)],none⟩])
 (.seq (.region [⟨some 50,.bslice false [.sl true 0 []] 1 1 [(0,(.c (.sl true 0 [])))],none⟩,
 ⟨some 11,.box (.c (.sl true 0 [])),none⟩,
 ⟨none,.store 1 (.t 11) (.t 50),none⟩])
 (.seq (.seq (.region [⟨some 51,.icall (.c (.func 75 [])) [(.t 10)],none⟩])
 (.block 2 (.range (.t 51) [52,53] yBL yDg)))
 (.seq (.region [⟨none,.store 1 (.t 4) (.c (.sl true 0 [])),none⟩,
 ⟨none,.store 1 (.t 5) (.c (.bool true)),none⟩,
 ⟨none,.store 1 (.t 6) (.c (.int .i64 0)),none⟩])
 (.ret)))))))),
 [.cell 4 false 1,.cell 5 false 1,.cell 6 false 1]⟩
def a42 : AFunc := ⟨5,
 .seq (.region [⟨some 0,.box (.c (.agg [.int .i64 0,.int .i64 0,.int .i64 0,.sl true 0 [],.sl true 0 []])),none⟩])
 (.seq (.region [⟨some 1,.bslice true [.int .u8 0] 1 1 [(0,(.c (.int .u8 1)))],none⟩,
 ⟨some 2,.bslice true [.int .i64 0] 1 2 [(0,(.c (.int .i64 0))),(1,(.c (.int .i64 0)))],none⟩,
 ⟨some 3,.bslice true [.sl true 0 []] 1 1 [(0,(.t 2))],none⟩,
 ⟨some 4,.build [.int .i64 0,.int .i64 0,.int .i64 0,.sl true 0 [],.sl true 0 []] [(0,1,(.c (.int .i64 1))),(1,1,(.c (.int .i64 1))),(3,1,(.t 1)),(4,1,(.t 3))],none⟩,
 ⟨none,.store 5 (.t 0) (.t 4),none⟩])
 (.ret)),
 [.cell 0 true 5]⟩
def a43 : AFunc := ⟨6,
 .seq (.region [⟨some 0,.box (.c (.agg [.int .i64 0,.int .i64 0,.int .i64 0,.sl true 0 [],.sl true 0 []])),none⟩])
 (.seq (.region [⟨some 1,.bslice true [.int .i64 0] 1 2 [(0,(.c (.int .i64 0))),(1,(.c (.int .i64 0)))],none⟩,
 ⟨some 2,.bslice true [.sl true 0 []] 1 1 [(0,(.t 1))],none⟩,
 ⟨some 3,.bslice true [.int .u8 0] 1 2 [(0,(.c (.int .u8 1))),(1,(.c (.int .u8 0)))],none⟩,
 ⟨some 4,.bslice true [.sl true 0 []] 1 1 [(0,(.t 3))],none⟩,
 ⟨some 5,.build [.int .i64 0,.int .i64 0,.int .i64 0,.sl true 0 [],.sl true 0 []] [(0,1,(.c (.int .i64 1))),(1,1,(.c (.int .i64 1))),(3,1,(.t 2)),(4,1,(.t 4))],none⟩,
 ⟨none,.store 5 (.t 0) (.t 5),none⟩])
 (.ret)),
 [.cell 0 true 5]⟩
def a45 : AFunc := ⟨40,
 .seq (.region [⟨some 2,.box (.t 0),none⟩,
 ⟨some 3,.box (.t 1),none⟩,
 ⟨some 4,.mov (.c (.int .i64 0)),none⟩])
 (.seq (.block 0 (.seq (.region [⟨some 7,.load false 1 (.t 3),none⟩,
 ⟨some 8,.bin .lss (.t 7) (.c (.int .i64 0)),none⟩,
 ⟨some 9,.mov (.t 8),none⟩,
 ⟨some 10,.load false 1 (.t 3),some (9,false)⟩,
 ⟨some 11,.bin .gtr (.t 10) (.c (.int .i64 6)),some (9,false)⟩,
 ⟨some 12,.pick (.t 9) (.c (.bool true)) (.t 11),none⟩,
 ⟨some 6,.mov (.t 12),none⟩])
 (.cond (.t 6)
 (.seq (.region [⟨some 4,.mov (.c (.int .i64 7)),none⟩])
 (.ret))
 (.seq (.region [⟨some 14,.faddr 1 (.t 2),none⟩,
 ⟨some 15,.load false 1 (.t 14),none⟩,
 ⟨some 16,.len (.t 15),none⟩,
 ⟨some 17,.bin .eql (.t 16) (.c (.int .i64 0)),none⟩,
 ⟨some 13,.mov (.t 17),none⟩])
 (.cond (.t 13)
 (.seq (.region [⟨some 4,.mov (.c (.int .i64 3)),none⟩])
 (.ret))
 (.seq (.region [⟨some 19,.faddr 0 (.t 2),none⟩,
 ⟨some 20,.load false 1 (.t 19),none⟩,
 ⟨some 21,.len (.t 20),none⟩,
 ⟨some 22,.bin .gtr (.t 21) (.c (.int .i64 64)),none⟩,
 ⟨some 23,.mov (.t 22),none⟩,
 ⟨some 24,.faddr 1 (.t 2),some (23,false)⟩,
 ⟨some 25,.load false 1 (.t 24),some (23,false)⟩,
 ⟨some 26,.len (.t 25),some (23,false)⟩,
 ⟨some 27,.bin .gtr (.t 26) (.c (.int .i64 64)),some (23,false)⟩,
 ⟨some 28,.pick (.t 23) (.c (.bool true)) (.t 27),none⟩,
 ⟨some 18,.mov (.t 28),none⟩])
 (.cond (.t 18)
 (.seq (.region [⟨some 4,.mov (.c (.int .i64 4)),none⟩])
 (.ret))
 (.skip))))))))
 (.seq (.region [⟨some 29,.mkfunc 80 [(.t 3)],none⟩,
 ⟨some 5,.mov (.t 29),none⟩])
 (.seq (.seq (.region [⟨some 30,.faddr 0 (.t 2),none⟩,
 ⟨some 31,.load false 1 (.t 30),none⟩,
 ⟨some 32,.mov (.t 5),none⟩,
 ⟨some 33,.icall (.c (.func 52 [])) [(.t 31),(.t 32)],none⟩,
 ⟨some 34,.mov (.t 33),none⟩,
 ⟨some 35,.faddr 1 (.t 2),some (34,false)⟩,
 ⟨some 36,.load false 1 (.t 35),some (34,false)⟩,
 ⟨some 37,.mov (.t 5),some (34,false)⟩,
 ⟨some 38,.icall (.c (.func 52 [])) [(.t 36),(.t 37)],some (34,false)⟩,
 ⟨some 39,.pick (.t 34) (.c (.bool true)) (.t 38),none⟩])
 (.cond (.t 39)
 (.seq (.region [⟨some 4,.mov (.c (.int .i64 1)),none⟩])
 (.ret))
 (.skip)))
 (.seq (.region [⟨some 4,.mov (.c (.int .i64 0)),none⟩])
 (.ret))))),
 [.tmp 4]⟩
def a47 : AFunc := ⟨29,
 .seq (.region [⟨some 2,.box (.t 0),none⟩,
 ⟨some 4,.mov (.c (.int .u8 0)),none⟩])
 (.seq (.seq (.region [⟨some 6,.mov (.t 1),none⟩,
 ⟨some 7,.bin .lss (.t 6) (.c (.int .i64 0)),none⟩])
 (.cond (.t 7)
 (.seq (.region [⟨some 4,.mov (.c (.int .u8 0)),none⟩])
 (.ret))
 (.skip)))
 (.seq (.region [⟨some 8,.load true 2 (.t 2),none⟩,
 ⟨some 9,.call 77 [(.t 8)],none⟩,
 ⟨none,.store 2 (.t 2) (.t 9),none⟩])
 (.seq (.seq (.draw 6 [⟨some 10,.load true 2 (.t 2),none⟩,
 ⟨some 11,.mov (.t 1),none⟩,
 ⟨some 12,.call 55 [(.t 10),(.t 11)],none⟩,
 ⟨some 13,.faddr 0 (.t 2),none⟩,
 ⟨some 14,.load false 1 (.t 13),none⟩,
 ⟨some 15,.len (.t 14),none⟩,
 ⟨some 16,.bin .sub (.t 12) (.t 15),none⟩,
 ⟨some 5,.mov (.t 16),none⟩])
 (.seq (.region [⟨some 17,.mov (.t 5),none⟩,
 ⟨some 18,.bin .geq (.t 17) (.c (.int .i64 0)),none⟩])
 (.cond (.t 18)
 (.seq (.region [⟨some 19,.faddr 1 (.t 2),none⟩,
 ⟨some 20,.load false 1 (.t 19),none⟩,
 ⟨some 21,.mov (.t 5),none⟩,
 ⟨some 22,.iaddr 1 (.t 20) (.t 21),none⟩,
 ⟨some 23,.load false 1 (.t 22),none⟩,
 ⟨some 4,.mov (.t 23),none⟩])
 (.ret))
 (.skip))))
 (.seq (.region [⟨some 24,.faddr 0 (.t 2),none⟩,
 ⟨some 25,.load false 1 (.t 24),none⟩,
 ⟨some 26,.mov (.t 1),none⟩,
 ⟨some 27,.iaddr 1 (.t 25) (.t 26),none⟩,
 ⟨some 28,.load false 1 (.t 27),none⟩,
 ⟨some 4,.mov (.t 28),none⟩])
 (.ret))))),
 [.tmp 4]⟩
def xJN : ACode :=
 .seq (.seq (.region [⟨some 16,.mov (.t 4),none⟩,
 ⟨some 17,.bin .gtr (.t 16) (.c (.int .i64 0)),none⟩])
 (.cond (.t 17)
 (.skip)
 (.exit 0)))
 (.block 1 (.seq (.seq (.draw 9 [⟨some 18,.faddr 0 (.t 1),none⟩,
 ⟨some 19,.load false 1 (.t 18),none⟩,
 ⟨some 20,.mov (.t 4),none⟩,
 ⟨some 21,.bin .sub (.t 20) (.c (.int .i64 1)),none⟩,
 ⟨some 22,.iaddr 1 (.t 19) (.t 21),none⟩,
 ⟨some 23,.load false 1 (.t 22),none⟩,
 ⟨some 24,.mov (.t 3),none⟩,
 ⟨some 25,.mov (.t 5),none⟩,
 ⟨some 26,.bin .sub (.t 25) (.c (.int .i64 1)),none⟩,
 ⟨some 27,.mov (.t 3),none⟩,
 ⟨some 28,.len (.t 27),none⟩,
 ⟨some 29,.bin .rem (.t 26) (.t 28),none⟩,
 ⟨some 30,.iaddr 1 (.t 24) (.t 29),none⟩,
 ⟨some 31,.load false 1 (.t 30),none⟩,
 ⟨some 32,.bin .neq (.t 23) (.t 31),none⟩])
 (.cond (.t 32)
 (.exit 0)
 (.skip)))
 (.seq (.region [⟨some 33,.mov (.t 4),none⟩,
 ⟨some 34,.bin .sub (.t 33) (.c (.int .i64 1)),none⟩,
 ⟨some 4,.mov (.t 34),none⟩])
 (.seq (.region [⟨some 35,.mov (.t 5),none⟩,
 ⟨some 36,.bin .sub (.t 35) (.c (.int .i64 1)),none⟩,
 ⟨some 5,.mov (.t 36),none⟩])
 (.seq (.region [⟨some 37,.mov (.t 5),none⟩,
 ⟨some 38,.bin .eql (.t 37) (.c (.int .i64 0)),none⟩])
 (.cond (.t 38)
 (.region [⟨some 39,.mov (.t 3),none⟩,
 ⟨some 40,.len (.t 39),none⟩,
 ⟨some 5,.mov (.t 40),none⟩])
 (.skip)))))))
def xXp : ACode := xJN
def xM6 : List Nat := [0,6,7,8,9,10,11,12,13,14,15,16,17,18,19,20,21,22,23,24,25,26,27,28,29,30,31,32,33,34,35,36,37,38,39,40,41,42,43,44,45,46,47,48,49,50,51,52,53,54,55,56,57,58]
abbrev xM7 (s1 s2 s3 s4 s5 : AV) : List AV := [.any,s1,s2,s3,s4,s5,.any,.any,.any,.any,.any,.any,.any,.any,.any,.any,.any,.any,.any,.any,.any,.any,.any,.any,.any,.any,.any,.any,.any,.any,.any,.any,.any,.any,.any,.any,.any,.any,.any,.any,.any,.any,.any,.any,.any,.any,.any,.any,.any,.any,.any,.any,.any,.any,.any,.any,.any,.any,.any]
theorem xJO (s0 s1 s2 s3 s4 s5 s6 s7 s8 s9 s10 s11 s12 s13 s14 s15 s16 s17 s18 s19 s20 s21 s22 s23 s24 s25 s26 s27 s28 s29 s30 s31 s32 s33 s34 s35 s36 s37 s38 s39 s40 s41 s42 s43 s44 s45 s46 s47 s48 s49 s50 s51 s52 s53 s54 s55 s56 s57 s58 : AV) : xAY xM6 [s0,s1,s2,s3,s4,s5,s6,s7,s8,s9,s10,s11,s12,s13,s14,s15,s16,s17,s18,s19,s20,s21,s22,s23,s24,s25,s26,s27,s28,s29,s30,s31,s32,s33,s34,s35,s36,s37,s38,s39,s40,s41,s42,s43,s44,s45,s46,s47,s48,s49,s50,s51,s52,s53,s54,s55,s56,s57,s58] = xM7 s1 s2 s3 s4 s5 := by kernel_rfl
theorem xYx {prog : Nat → Option AFunc} (s1 s2 s3 s4 s5 : AV) (H : Heap) : (lim prog).loop xM6 xXp ⟨xM7 s1 s2 s3 s4 s5,H⟩ = xBt (lim prog) xM6 xXp (run (lim prog) xJN ⟨xM7 s1 s2 s3 s4 s5,H⟩) := xAE _ _ _ _ (by kernel_rfl)
def a49 : AFunc := ⟨59,
 .seq (.region [⟨some 1,.box (.t 0),none⟩,
 ⟨some 2,.box (.c (.agg [.sl true 0 [],.sl true 0 []])),none⟩])
 (.scope (.seq (.region [⟨some 6,.load true 2 (.t 1),none⟩,
 ⟨some 7,.call 77 [(.t 6)],none⟩,
 ⟨none,.store 2 (.t 1) (.t 7),none⟩])
 (.seq (.draw 6 [⟨some 8,.faddr 1 (.t 1),none⟩,
 ⟨some 9,.load false 1 (.t 8),none⟩,
 ⟨some 10,.call 83 [(.t 9)],none⟩,
 ⟨some 11,.faddr 0 (.t 1),none⟩,
 ⟨some 12,.load false 1 (.t 11),none⟩,
 ⟨some 13,.len (.t 12),none⟩,
 ⟨some 3,.mov (.t 10),none⟩,
 ⟨some 4,.mov (.t 13),none⟩])
 (.seq (.region [⟨some 14,.mov (.t 3),none⟩,
 ⟨some 15,.len (.t 14),none⟩,
 ⟨some 5,.mov (.t 15),none⟩])
 (.seq (.label)
 (.seq (.block 0 (.loop xM6 xXp))
 (.seq (.region [⟨some 41,.mov (.t 5),none⟩,
 ⟨some 42,.mov (.t 3),none⟩,
 ⟨some 43,.len (.t 42),none⟩,
 ⟨some 44,.bin .rem (.t 41) (.t 43),none⟩,
 ⟨some 5,.mov (.t 44),none⟩])
 (.seq (.drawp [] [] 12 [⟨some 45,.faddr 0 (.t 1),none⟩,
 ⟨some 46,.load false 1 (.t 45),none⟩,
 ⟨some 47,.mov (.t 4),none⟩,
 ⟨some 48,.slice 1 (.t 46) none (some (.t 47)) none,none⟩,
 ⟨some 49,.ocall 72 [(.t 48)],none⟩,
 ⟨some 50,.mov (.t 3),none⟩,
 ⟨some 51,.mov (.t 5),none⟩,
 ⟨some 52,.slice 1 (.t 50) (some (.t 51)) none none,none⟩,
 ⟨some 53,.mov (.t 3),none⟩,
 ⟨some 54,.mov (.t 5),none⟩,
 ⟨some 55,.slice 1 (.t 53) none (some (.t 54)) none,none⟩,
 ⟨some 56,.bslice true [.sl true 0 []] 1 2 [(0,(.t 52)),(1,(.t 55))],none⟩,
 ⟨some 57,.ocall 76 [(.t 56)],none⟩,
 ⟨some 58,.build [.sl true 0 [],.sl true 0 []] [(0,1,(.t 49)),(1,1,(.t 57))],none⟩,
 ⟨none,.store 2 (.t 2) (.t 58),none⟩])
 (.ret))))))))),
 [.cell 2 true 2]⟩
def xQo : ACode :=
 .seq (.seq (.region [⟨some 5,.mov (.t 4),none⟩,
 ⟨some 6,.mov (.t 0),none⟩,
 ⟨some 7,.len (.t 6),none⟩,
 ⟨some 8,.bin .lss (.t 5) (.t 7),none⟩])
 (.cond (.t 8)
 (.skip)
 (.exit 0)))
 (.seq (.block 1 (.region [⟨some 11,.mov (.t 3),none⟩,
 ⟨some 12,.mov (.t 0),none⟩,
 ⟨some 13,.mov (.t 4),none⟩,
 ⟨some 14,.iaddr 1 (.t 12) (.t 13),none⟩,
 ⟨some 15,.load false 1 (.t 14),none⟩,
 ⟨some 16,.call 84 [(.t 15)],none⟩,
 ⟨some 17,.bslice true [.sl true 0 []] 1 1 [(0,(.t 16))],none⟩,
 ⟨some 18,.append false 1 24 (.t 11) (.t 17),none⟩,
 ⟨some 3,.mov (.t 18),none⟩]))
 (.region [⟨some 9,.mov (.t 4),none⟩,
 ⟨some 10,.bin .add (.t 9) (.c (.int .i64 1)),none⟩,
 ⟨some 4,.mov (.t 10),none⟩]))
def xXq : ACode := xQo
def xM8 : List Nat := [1,2,5,6,7,8,9,10,11,12,13,14,15,16,17,18,19]
abbrev xM9 (s0 s3 s4 : AV) : List AV := [s0,.any,.any,s3,s4,.any,.any,.any,.any,.any,.any,.any,.any,.any,.any,.any,.any,.any,.any,.any]
theorem xT9 (s0 s1 s2 s3 s4 s5 s6 s7 s8 s9 s10 s11 s12 s13 s14 s15 s16 s17 s18 s19 : AV) : xAY xM8 [s0,s1,s2,s3,s4,s5,s6,s7,s8,s9,s10,s11,s12,s13,s14,s15,s16,s17,s18,s19] = xM9 s0 s3 s4 := by kernel_rfl
theorem xYy {prog : Nat → Option AFunc} (s0 s3 s4 : AV) (H : Heap) : (lim prog).loop xM8 xXq ⟨xM9 s0 s3 s4,H⟩ = xBt (lim prog) xM8 xXq (run (lim prog) xQo ⟨xM9 s0 s3 s4,H⟩) := xAE _ _ _ _ (by kernel_rfl)
def a50 : AFunc := ⟨20,
 .seq (.region [⟨some 2,.mov (.c (.sl true 0 [])),none⟩])
 (.seq (.region [⟨some 3,.mov (.c (.sl true 0 [])),none⟩])
 (.seq (.seq (.region [⟨some 4,.mov (.c (.int .i64 0)),none⟩])
 (.block 0 (.loop xM8 xXq)))
 (.seq (.region [⟨some 19,.mov (.t 3),none⟩,
 ⟨some 2,.mov (.t 19),none⟩])
 (.ret)))),
 [.tmp 2]⟩
def xQp : ACode :=
 .seq (.seq (.region [⟨some 5,.mov (.t 4),none⟩,
 ⟨some 6,.mov (.t 0),none⟩,
 ⟨some 7,.len (.t 6),none⟩,
 ⟨some 8,.bin .lss (.t 5) (.t 7),none⟩])
 (.cond (.t 8)
 (.skip)
 (.exit 0)))
 (.seq (.block 1 (.region [⟨some 11,.mov (.t 3),none⟩,
 ⟨some 12,.mov (.t 0),none⟩,
 ⟨some 13,.mov (.t 4),none⟩,
 ⟨some 14,.iaddr 1 (.t 12) (.t 13),none⟩,
 ⟨some 15,.load false 1 (.t 14),none⟩,
 ⟨some 16,.call 15 [(.t 15)],none⟩,
 ⟨some 17,.bslice true [.sl true 0 []] 1 1 [(0,(.t 16))],none⟩,
 ⟨some 18,.append false 1 24 (.t 11) (.t 17),none⟩,
 ⟨some 3,.mov (.t 18),none⟩]))
 (.region [⟨some 9,.mov (.t 4),none⟩,
 ⟨some 10,.bin .add (.t 9) (.c (.int .i64 1)),none⟩,
 ⟨some 4,.mov (.t 10),none⟩]))
def xXr : ACode := xQp
def xNa : List Nat := [1,2,5,6,7,8,9,10,11,12,13,14,15,16,17,18,19]
abbrev xNb (s0 s3 s4 : AV) : List AV := [s0,.any,.any,s3,s4,.any,.any,.any,.any,.any,.any,.any,.any,.any,.any,.any,.any,.any,.any,.any]
theorem xUa (s0 s1 s2 s3 s4 s5 s6 s7 s8 s9 s10 s11 s12 s13 s14 s15 s16 s17 s18 s19 : AV) : xAY xNa [s0,s1,s2,s3,s4,s5,s6,s7,s8,s9,s10,s11,s12,s13,s14,s15,s16,s17,s18,s19] = xNb s0 s3 s4 := by kernel_rfl
theorem xYz {prog : Nat → Option AFunc} (s0 s3 s4 : AV) (H : Heap) : (lim prog).loop xNa xXr ⟨xNb s0 s3 s4,H⟩ = xBt (lim prog) xNa xXr (run (lim prog) xQp ⟨xNb s0 s3 s4,H⟩) := xAE _ _ _ _ (by kernel_rfl)
def a51 : AFunc := ⟨20,
 .seq (.region [⟨some 2,.mov (.c (.sl true 0 [])),none⟩])
 (.seq (.region [⟨some 3,.mov (.c (.sl true 0 [])),none⟩])
 (.seq (.seq (.region [⟨some 4,.mov (.c (.int .i64 0)),none⟩])
 (.block 0 (.loop xNa xXr)))
 (.seq (.region [⟨some 19,.mov (.t 3),none⟩,
 ⟨some 2,.mov (.t 19),none⟩])
 (.ret)))),
 [.tmp 2]⟩
def a52 : AFunc := ⟨9,
 .seq (.region [⟨some 4,.mov (.c (.bool false)),none⟩])
 (.seq (.region [⟨some 5,.mov (.t 0),none⟩,
 ⟨some 6,.mov (.t 1),none⟩,
 ⟨some 7,.icall (.c (.func 85 [])) [(.t 5),(.t 6)],none⟩,
 ⟨some 8,.bin .geq (.t 7) (.c (.int .i64 0)),none⟩,
 ⟨some 4,.mov (.t 8),none⟩])
 (.ret)),
 [.tmp 4]⟩
def a53 : AFunc := ⟨10,
 .seq (.region [⟨some 3,.mov (.c (.bool false)),none⟩])
 (.seq (.region [⟨some 4,.mov (.t 0),none⟩,
 ⟨some 5,.conv .i64 (.t 4),none⟩,
 ⟨some 6,.faddr 0 (.t 1),none⟩,
 ⟨some 7,.load false 1 (.t 6),none⟩,
 ⟨some 8,.bin .shl (.c (.int .i64 1)) (.t 7),none⟩,
 ⟨some 9,.bin .geq (.t 5) (.t 8),none⟩,
 ⟨some 3,.mov (.t 9),none⟩])
 (.ret)),
 [.tmp 3]⟩
def a54 : AFunc := ⟨52,
 .seq (.region [⟨some 3,.box (.t 1),none⟩,
 ⟨some 4,.box (.c (.agg [.sl true 0 [],.sl true 0 []])),none⟩,
 ⟨some 5,.mov (.c (.bool false)),none⟩])
 (.seq (.seq (.region [⟨some 8,.mov (.t 0),none⟩,
 ⟨some 9,.nilchk (.t 8),none⟩,
 ⟨some 10,.faddr 0 (.t 9),none⟩,
 ⟨some 11,.load false 1 (.t 10),none⟩,
 ⟨some 12,.mnil false (.t 11),none⟩])
 (.cond (.t 12)
 (.region [⟨some 13,.mov (.t 0),none⟩,
 ⟨some 14,.mkmap,none⟩,
 ⟨some 15,.nilchk (.t 13),none⟩,
 ⟨some 16,.faddr 0 (.t 15),none⟩,
 ⟨none,.store 1 (.t 16) (.t 14),none⟩])
 (.skip)))
 (.seq (.seq (.draw 9 [⟨some 18,.mov (.t 0),none⟩,
 ⟨some 19,.nilchk (.t 18),none⟩,
 ⟨some 20,.faddr 0 (.t 19),none⟩,
 ⟨some 21,.load false 1 (.t 20),none⟩,
 ⟨some 22,.load true 2 (.t 3),none⟩,
 ⟨some 23,.mlook [2,0,0] true (.int .i64 0) (.t 21) (.t 22),none⟩,
 ⟨some 17,.mov (.t 23),none⟩,
 ⟨some 24,.ext 0 (.t 17),none⟩,
 ⟨some 25,.ext 1 (.t 17),none⟩,
 ⟨some 6,.mov (.t 24),none⟩,
 ⟨some 7,.mov (.t 25),none⟩])
 (.seq (.region [⟨some 26,.mov (.t 7),none⟩])
 (.cond (.t 26)
 (.seq (.drawp [] [] 10 [⟨some 27,.mov (.t 0),none⟩,
 ⟨some 28,.nilchk (.t 27),none⟩,
 ⟨some 29,.faddr 1 (.t 28),none⟩,
 ⟨some 30,.load false 1 (.t 29),none⟩,
 ⟨some 31,.mov (.t 6),none⟩,
 ⟨some 32,.slice 1 (.t 30) none (some (.t 31)) none,none⟩,
 ⟨some 33,.mov (.t 0),none⟩,
 ⟨some 34,.nilchk (.t 33),none⟩,
 ⟨some 35,.faddr 1 (.t 34),none⟩,
 ⟨some 36,.load false 1 (.t 35),none⟩,
 ⟨some 37,.mov (.t 6),none⟩,
 ⟨some 38,.slice 1 (.t 36) (some (.t 37)) none none,none⟩,
 ⟨some 39,.build [.sl true 0 [],.sl true 0 []] [(0,1,(.t 32)),(1,1,(.t 38))],none⟩,
 ⟨some 40,.ocall 49 [(.t 39)],none⟩,
 ⟨none,.store 2 (.t 4) (.t 40),none⟩,
 ⟨some 5,.mov (.c (.bool true)),none⟩])
 (.ret))
 (.skip))))
 (.seq (.draw 5 [⟨some 41,.mov (.t 0),none⟩,
 ⟨some 42,.nilchk (.t 41),none⟩,
 ⟨some 43,.faddr 0 (.t 42),none⟩,
 ⟨some 44,.load false 1 (.t 43),none⟩,
 ⟨some 45,.load true 2 (.t 3),none⟩,
 ⟨some 46,.mov (.t 0),none⟩,
 ⟨some 47,.nilchk (.t 46),none⟩,
 ⟨some 48,.faddr 1 (.t 47),none⟩,
 ⟨some 49,.load false 1 (.t 48),none⟩,
 ⟨some 50,.len (.t 49),none⟩,
 ⟨none,.mupd [2,0,0] (.t 44) (.t 45) (.t 50),none⟩])
 (.seq (.region [⟨some 51,.build [.sl true 0 [],.sl true 0 []] [],none⟩,
 ⟨none,.store 2 (.t 4) (.t 51),none⟩,
 ⟨some 5,.mov (.c (.bool false)),none⟩])
 (.ret))))),
 [.cell 4 true 2,.tmp 5]⟩
def a55 : AFunc := ⟨24,
 .seq (.region [⟨some 2,.box (.t 0),none⟩,
 ⟨some 4,.mov (.c (.int .i64 0)),none⟩])
 (.seq (.region [⟨some 6,.faddr 0 (.t 2),none⟩,
 ⟨some 7,.load false 1 (.t 6),none⟩,
 ⟨some 8,.len (.t 7),none⟩,
 ⟨some 5,.mov (.t 8),none⟩])
 (.seq (.seq (.region [⟨some 9,.mov (.t 1),none⟩,
 ⟨some 10,.mov (.t 5),none⟩,
 ⟨some 11,.bin .lss (.t 9) (.t 10),none⟩])
 (.cond (.t 11)
 (.seq (.region [⟨some 12,.mov (.t 1),none⟩,
 ⟨some 13,.maxi (.t 12) (.c (.int .i64 0)),none⟩,
 ⟨some 4,.mov (.t 13),none⟩])
 (.ret))
 (.skip)))
 (.seq (.region [⟨some 14,.mov (.t 5),none⟩,
 ⟨some 15,.mov (.t 1),none⟩,
 ⟨some 16,.mov (.t 5),none⟩,
 ⟨some 17,.bin .sub (.t 15) (.t 16),none⟩,
 ⟨some 18,.faddr 1 (.t 2),none⟩,
 ⟨some 19,.load false 1 (.t 18),none⟩,
 ⟨some 20,.len (.t 19),none⟩,
 ⟨some 21,.maxi (.t 20) (.c (.int .i64 1)),none⟩,
 ⟨some 22,.bin .rem (.t 17) (.t 21),none⟩,
 ⟨some 23,.bin .add (.t 14) (.t 22),none⟩,
 ⟨some 4,.mov (.t 23),none⟩])
 (.ret)))),
 [.tmp 4]⟩
def xJP : ACode :=
 .seq (.seq (.region [⟨some 33,.mov (.t 6),none⟩,
 ⟨some 34,.mov (.t 5),none⟩,
 ⟨some 35,.len (.t 34),none⟩,
 ⟨some 36,.bin .lss (.t 33) (.t 35),none⟩])
 (.cond (.t 36)
 (.skip)
 (.exit 0)))
 (.seq (.block 1 (.seq (.region [⟨some 39,.mov (.t 5),none⟩,
 ⟨some 40,.mov (.t 6),none⟩,
 ⟨some 41,.iaddr 1 (.t 39) (.t 40),none⟩,
 ⟨some 42,.load false 1 (.t 41),none⟩,
 ⟨some 43,.conv .i64 (.t 42),none⟩,
 ⟨some 44,.mov (.t 1),none⟩,
 ⟨some 45,.conv .u64 (.t 44),none⟩,
 ⟨some 46,.bin .shl (.c (.int .i64 1)) (.t 45),none⟩,
 ⟨some 47,.bin .geq (.t 43) (.t 46),none⟩])
 (.cond (.t 47)
 (.seq (.region [⟨some 4,.mov (.c (.int .i64 1)),none⟩])
 (.ret))
 (.skip))))
 (.region [⟨some 37,.mov (.t 6),none⟩,
 ⟨some 38,.bin .add (.t 37) (.c (.int .i64 1)),none⟩,
 ⟨some 6,.mov (.t 38),none⟩]))
def xXs : ACode := xJP
def xNc : List Nat := [0,2,3,7,8,9,10,11,12,13,14,15,16,17,18,19,20,21,22,23,24,25,26,27,28,29,30,31,32,33,34,35,36,37,38,39,40,41,42,43,44,45,46,47]
abbrev xJQ (s1 s4 s5 s6 : AV) : List AV := [.any,s1,.any,.any,s4,s5,s6,.any,.any,.any,.any,.any,.any,.any,.any,.any,.any,.any,.any,.any,.any,.any,.any,.any,.any,.any,.any,.any,.any,.any,.any,.any,.any,.any,.any,.any,.any,.any,.any,.any,.any,.any,.any,.any,.any,.any,.any,.any]
theorem xGv (s0 s1 s2 s3 s4 s5 s6 s7 s8 s9 s10 s11 s12 s13 s14 s15 s16 s17 s18 s19 s20 s21 s22 s23 s24 s25 s26 s27 s28 s29 s30 s31 s32 s33 s34 s35 s36 s37 s38 s39 s40 s41 s42 s43 s44 s45 s46 s47 : AV) : xAY xNc [s0,s1,s2,s3,s4,s5,s6,s7,s8,s9,s10,s11,s12,s13,s14,s15,s16,s17,s18,s19,s20,s21,s22,s23,s24,s25,s26,s27,s28,s29,s30,s31,s32,s33,s34,s35,s36,s37,s38,s39,s40,s41,s42,s43,s44,s45,s46,s47] = xJQ s1 s4 s5 s6 := by kernel_rfl
theorem xUb {prog : Nat → Option AFunc} (s1 s4 s5 s6 : AV) (H : Heap) : (lim prog).loop xNc xXs ⟨xJQ s1 s4 s5 s6,H⟩ = xBt (lim prog) xNc xXs (run (lim prog) xJP ⟨xJQ s1 s4 s5 s6,H⟩) := xAE _ _ _ _ (by kernel_rfl)
def a56 : AFunc := ⟨48,
 .seq (.region [⟨some 2,.box (.t 0),none⟩,
 ⟨some 4,.mov (.c (.int .i64 0)),none⟩])
 (.seq (.seq (.region [⟨some 7,.mov (.t 1),none⟩,
 ⟨some 8,.bin .lss (.t 7) (.c (.int .i64 0)),none⟩,
 ⟨some 9,.mov (.t 8),none⟩,
 ⟨some 10,.mov (.t 1),some (9,false)⟩,
 ⟨some 11,.bin .gtr (.t 10) (.c (.int .i64 6)),some (9,false)⟩,
 ⟨some 12,.pick (.t 9) (.c (.bool true)) (.t 11),none⟩])
 (.cond (.t 12)
 (.seq (.region [⟨some 4,.mov (.c (.int .i64 7)),none⟩])
 (.ret))
 (.skip)))
 (.seq (.seq (.region [⟨some 13,.faddr 1 (.t 2),none⟩,
 ⟨some 14,.load false 1 (.t 13),none⟩,
 ⟨some 15,.len (.t 14),none⟩,
 ⟨some 16,.bin .eql (.t 15) (.c (.int .i64 0)),none⟩])
 (.cond (.t 16)
 (.seq (.region [⟨some 4,.mov (.c (.int .i64 3)),none⟩])
 (.ret))
 (.skip)))
 (.seq (.seq (.region [⟨some 17,.faddr 0 (.t 2),none⟩,
 ⟨some 18,.load false 1 (.t 17),none⟩,
 ⟨some 19,.len (.t 18),none⟩,
 ⟨some 20,.bin .gtr (.t 19) (.c (.int .i64 64)),none⟩,
 ⟨some 21,.mov (.t 20),none⟩,
 ⟨some 22,.faddr 1 (.t 2),some (21,false)⟩,
 ⟨some 23,.load false 1 (.t 22),some (21,false)⟩,
 ⟨some 24,.len (.t 23),some (21,false)⟩,
 ⟨some 25,.bin .gtr (.t 24) (.c (.int .i64 64)),some (21,false)⟩,
 ⟨some 26,.pick (.t 21) (.c (.bool true)) (.t 25),none⟩])
 (.cond (.t 26)
 (.seq (.region [⟨some 4,.mov (.c (.int .i64 4)),none⟩])
 (.ret))
 (.skip)))
 (.seq (.drawp [] [] 5 [⟨some 27,.faddr 0 (.t 2),none⟩,
 ⟨some 28,.load false 1 (.t 27),none⟩,
 ⟨some 29,.append false 1 1 (.c (.sl true 0 [])) (.t 28),none⟩,
 ⟨some 30,.faddr 1 (.t 2),none⟩,
 ⟨some 31,.load false 1 (.t 30),none⟩,
 ⟨some 32,.append false 1 1 (.t 29) (.t 31),none⟩,
 ⟨some 5,.mov (.t 32),none⟩])
 (.seq (.seq (.region [⟨some 6,.mov (.c (.int .i64 0)),none⟩])
 (.block 0 (.loop xNc xXs)))
 (.seq (.region [⟨some 4,.mov (.c (.int .i64 0)),none⟩])
 (.ret))))))),
 [.tmp 4]⟩
def xQq : ACode :=
 .seq (.seq (.region [⟨some 21,.mov (.t 4),none⟩,
 ⟨some 22,.faddr 0 (.t 1),none⟩,
 ⟨some 23,.load false 1 (.t 22),none⟩,
 ⟨some 24,.len (.t 23),none⟩,
 ⟨some 25,.bin .leq (.t 21) (.t 24),none⟩])
 (.cond (.t 25)
 (.skip)
 (.exit 2)))
 (.seq (.block 3 (.seq (.region [⟨some 28,.load true 2 (.t 1),none⟩,
 ⟨some 29,.mov (.t 4),none⟩,
 ⟨some 30,.mov (.t 3),none⟩,
 ⟨some 31,.call 87 [(.t 28),(.t 29),(.t 30)],none⟩])
 (.cond (.t 31)
 (.seq (.region [⟨some 32,.load true 2 (.t 1),none⟩,
 ⟨some 33,.mov (.t 4),none⟩,
 ⟨some 34,.mov (.t 3),none⟩,
 ⟨some 35,.call 88 [(.t 32),(.t 33),(.t 34)],none⟩,
 ⟨none,.store 2 (.t 2) (.t 35),none⟩])
 (.ret))
 (.skip))))
 (.region [⟨some 26,.mov (.t 4),none⟩,
 ⟨some 27,.bin .add (.t 26) (.c (.int .i64 1)),none⟩,
 ⟨some 4,.mov (.t 27),none⟩]))
def xXt : ACode := xQq
def xNd : List Nat := [0,5,6,7,8,9,10,11,12,13,14,15,16,17,18,19,20,21,22,23,24,25,26,27,28,29,30,31,32,33,34,35,36]
abbrev xNe (s1 s2 s3 s4 : AV) : List AV := [.any,s1,s2,s3,s4,.any,.any,.any,.any,.any,.any,.any,.any,.any,.any,.any,.any,.any,.any,.any,.any,.any,.any,.any,.any,.any,.any,.any,.any,.any,.any,.any,.any,.any,.any,.any,.any]
theorem xUc (s0 s1 s2 s3 s4 s5 s6 s7 s8 s9 s10 s11 s12 s13 s14 s15 s16 s17 s18 s19 s20 s21 s22 s23 s24 s25 s26 s27 s28 s29 s30 s31 s32 s33 s34 s35 s36 : AV) : xAY xNd [s0,s1,s2,s3,s4,s5,s6,s7,s8,s9,s10,s11,s12,s13,s14,s15,s16,s17,s18,s19,s20,s21,s22,s23,s24,s25,s26,s27,s28,s29,s30,s31,s32,s33,s34,s35,s36] = xNe s1 s2 s3 s4 := by kernel_rfl
theorem xYA {prog : Nat → Option AFunc} (s1 s2 s3 s4 : AV) (H : Heap) : (lim prog).loop xNd xXt ⟨xNe s1 s2 s3 s4,H⟩ = xBt (lim prog) xNd xXt (run (lim prog) xQq ⟨xNe s1 s2 s3 s4,H⟩) := xAE _ _ _ _ (by kernel_rfl)
def xQr : ACode :=
 .seq (.seq (.region [⟨some 7,.mov (.t 3),none⟩,
 ⟨some 8,.faddr 1 (.t 1),none⟩,
 ⟨some 9,.load false 1 (.t 8),none⟩,
 ⟨some 10,.len (.t 9),none⟩,
 ⟨some 11,.bin .leq (.t 7) (.t 10),none⟩])
 (.cond (.t 11)
 (.skip)
 (.exit 0)))
 (.seq (.block 1 (.seq (.seq (.region [⟨some 14,.load true 2 (.t 1),none⟩,
 ⟨some 15,.faddr 0 (.t 1),none⟩,
 ⟨some 16,.load false 1 (.t 15),none⟩,
 ⟨some 17,.len (.t 16),none⟩,
 ⟨some 18,.mov (.t 3),none⟩,
 ⟨some 19,.call 87 [(.t 14),(.t 17),(.t 18)],none⟩,
 ⟨some 20,.un .not (.t 19),none⟩])
 (.cond (.t 20)
 (.exit 1)
 (.skip)))
 (.seq (.region [⟨some 4,.mov (.c (.int .i64 0)),none⟩])
 (.block 2 (.loop xNd xXt)))))
 (.region [⟨some 12,.mov (.t 3),none⟩,
 ⟨some 13,.bin .add (.t 12) (.c (.int .i64 1)),none⟩,
 ⟨some 3,.mov (.t 13),none⟩]))
def xXu : ACode := xQr
def xNf : List Nat := [0,4,5,6,7,8,9,10,11,12,13,14,15,16,17,18,19,20,21,22,23,24,25,26,27,28,29,30,31,32,33,34,35,36]
abbrev xNg (s1 s2 s3 : AV) : List AV := [.any,s1,s2,s3,.any,.any,.any,.any,.any,.any,.any,.any,.any,.any,.any,.any,.any,.any,.any,.any,.any,.any,.any,.any,.any,.any,.any,.any,.any,.any,.any,.any,.any,.any,.any,.any,.any]
theorem xUd (s0 s1 s2 s3 s4 s5 s6 s7 s8 s9 s10 s11 s12 s13 s14 s15 s16 s17 s18 s19 s20 s21 s22 s23 s24 s25 s26 s27 s28 s29 s30 s31 s32 s33 s34 s35 s36 : AV) : xAY xNf [s0,s1,s2,s3,s4,s5,s6,s7,s8,s9,s10,s11,s12,s13,s14,s15,s16,s17,s18,s19,s20,s21,s22,s23,s24,s25,s26,s27,s28,s29,s30,s31,s32,s33,s34,s35,s36] = xNg s1 s2 s3 := by kernel_rfl
theorem xYB {prog : Nat → Option AFunc} (s1 s2 s3 : AV) (H : Heap) : (lim prog).loop xNf xXu ⟨xNg s1 s2 s3,H⟩ = xBt (lim prog) xNf xXu (run (lim prog) xQr ⟨xNg s1 s2 s3,H⟩) := xAE _ _ _ _ (by kernel_rfl)
def a57 : AFunc := ⟨37,
 .seq (.region [⟨some 1,.box (.t 0),none⟩,
 ⟨some 2,.box (.c (.agg [.sl true 0 [],.sl true 0 []])),none⟩])
 (.seq (.region [⟨some 5,.load true 2 (.t 1),none⟩,
 ⟨some 6,.call 86 [(.t 5)],none⟩,
 ⟨none,.store 2 (.t 1) (.t 6),none⟩])
 (.seq (.seq (.region [⟨some 3,.mov (.c (.int .i64 1)),none⟩])
 (.block 0 (.loop xNf xXu)))
 (.seq (.region [⟨some 36,.load true 2 (.t 1),none⟩,
 ⟨none,.store 2 (.t 2) (.t 36),none⟩])
 (.ret)))),
 [.cell 2 true 2]⟩
def a58 : AFunc := ⟨32,
 .seq (.region [⟨some 2,.box (.t 0),none⟩,
 ⟨some 4,.mov (.c (.int .u8 0)),none⟩])
 (.seq (.seq (.region [⟨some 6,.mov (.t 1),none⟩,
 ⟨some 7,.bin .lss (.t 6) (.c (.int .i64 0)),none⟩])
 (.cond (.t 7)
 (.seq (.region [⟨some 4,.mov (.c (.int .u8 0)),none⟩])
 (.ret))
 (.skip)))
 (.seq (.region [⟨some 8,.load true 2 (.t 2),none⟩,
 ⟨some 9,.call 86 [(.t 8)],none⟩,
 ⟨none,.store 2 (.t 2) (.t 9),none⟩])
 (.seq (.region [⟨some 10,.load true 2 (.t 2),none⟩,
 ⟨some 11,.mov (.t 1),none⟩,
 ⟨some 12,.call 89 [(.t 10),(.t 11)],none⟩,
 ⟨some 5,.mov (.t 12),none⟩])
 (.seq (.seq (.region [⟨some 13,.mov (.t 5),none⟩,
 ⟨some 14,.faddr 0 (.t 2),none⟩,
 ⟨some 15,.load false 1 (.t 14),none⟩,
 ⟨some 16,.len (.t 15),none⟩,
 ⟨some 17,.bin .lss (.t 13) (.t 16),none⟩])
 (.cond (.t 17)
 (.seq (.region [⟨some 18,.faddr 0 (.t 2),none⟩,
 ⟨some 19,.load false 1 (.t 18),none⟩,
 ⟨some 20,.mov (.t 5),none⟩,
 ⟨some 21,.iaddr 1 (.t 19) (.t 20),none⟩,
 ⟨some 22,.load false 1 (.t 21),none⟩,
 ⟨some 4,.mov (.t 22),none⟩])
 (.ret))
 (.skip)))
 (.seq (.region [⟨some 23,.faddr 1 (.t 2),none⟩,
 ⟨some 24,.load false 1 (.t 23),none⟩,
 ⟨some 25,.mov (.t 5),none⟩,
 ⟨some 26,.faddr 0 (.t 2),none⟩,
 ⟨some 27,.load false 1 (.t 26),none⟩,
 ⟨some 28,.len (.t 27),none⟩,
 ⟨some 29,.bin .sub (.t 25) (.t 28),none⟩,
 ⟨some 30,.iaddr 1 (.t 24) (.t 29),none⟩,
 ⟨some 31,.load false 1 (.t 30),none⟩,
 ⟨some 4,.mov (.t 31),none⟩])
 (.ret)))))),
 [.tmp 4]⟩
def a59 : AFunc := ⟨46,
 .seq (.region [⟨some 10,.mov (.c (.int .i64 0)),none⟩])
 (.seq (.block 0 (.seq (.region [⟨some 12,.mov (.t 0),none⟩,
 ⟨some 13,.bin .lss (.t 12) (.c (.int .i64 0)),none⟩,
 ⟨some 14,.mov (.t 13),none⟩,
 ⟨some 15,.mov (.t 1),some (14,false)⟩,
 ⟨some 16,.bin .lss (.t 15) (.c (.int .i64 0)),some (14,false)⟩,
 ⟨some 17,.pick (.t 14) (.c (.bool true)) (.t 16),none⟩,
 ⟨some 18,.mov (.t 17),none⟩,
 ⟨some 19,.mov (.t 0),some (18,false)⟩,
 ⟨some 20,.bin .gtr (.t 19) (.c (.int .i64 6)),some (18,false)⟩,
 ⟨some 21,.pick (.t 18) (.c (.bool true)) (.t 20),none⟩,
 ⟨some 22,.mov (.t 21),none⟩,
 ⟨some 23,.mov (.t 1),some (22,false)⟩,
 ⟨some 24,.mov (.t 0),some (22,false)⟩,
 ⟨some 25,.bin .sub (.c (.int .i64 6)) (.t 24),some (22,false)⟩,
 ⟨some 26,.bin .gtr (.t 23) (.t 25),some (22,false)⟩,
 ⟨some 27,.pick (.t 22) (.c (.bool true)) (.t 26),none⟩,
 ⟨some 11,.mov (.t 27),none⟩])
 (.cond (.t 11)
 (.seq (.region [⟨some 10,.mov (.c (.int .i64 7)),none⟩])
 (.ret))
 (.seq (.region [⟨some 29,.mov (.t 2),none⟩,
 ⟨some 30,.bin .eql (.t 29) (.c (.int .i64 0)),none⟩,
 ⟨some 28,.mov (.t 30),none⟩])
 (.cond (.t 28)
 (.seq (.region [⟨some 10,.mov (.c (.int .i64 3)),none⟩])
 (.ret))
 (.seq (.region [⟨some 32,.mov (.t 2),none⟩,
 ⟨some 33,.bin .gtr (.t 32) (.c (.int .i64 4096)),none⟩,
 ⟨some 31,.mov (.t 33),none⟩])
 (.cond (.t 31)
 (.seq (.region [⟨some 10,.mov (.c (.int .i64 10)),none⟩])
 (.ret))
 (.seq (.region [⟨some 35,.mov (.t 3),none⟩,
 ⟨some 36,.mov (.t 2),none⟩,
 ⟨some 37,.bin .neq (.t 35) (.t 36),none⟩,
 ⟨some 34,.mov (.t 37),none⟩])
 (.cond (.t 34)
 (.seq (.region [⟨some 10,.mov (.c (.int .i64 2)),none⟩])
 (.ret))
 (.seq (.region [⟨some 39,.mov (.t 4),none⟩,
 ⟨some 40,.bin .lss (.t 39) (.c (.int .i64 0)),none⟩,
 ⟨some 41,.mov (.t 40),none⟩,
 ⟨some 42,.mov (.t 4),some (41,false)⟩,
 ⟨some 43,.mov (.t 2),some (41,false)⟩,
 ⟨some 44,.bin .geq (.t 42) (.t 43),some (41,false)⟩,
 ⟨some 45,.pick (.t 41) (.c (.bool true)) (.t 44),none⟩,
 ⟨some 38,.mov (.t 45),none⟩])
 (.cond (.t 38)
 (.seq (.region [⟨some 10,.mov (.c (.int .i64 8)),none⟩])
 (.ret))
 (.skip))))))))))))
 (.seq (.region [⟨some 10,.mov (.c (.int .i64 0)),none⟩])
 (.ret))),
 [.tmp 10]⟩
def a60 : AFunc := ⟨8,
 .seq (.region [⟨some 3,.box (.t 1),none⟩,
 ⟨some 4,.mov (.c (.bool false)),none⟩])
 (.seq (.region [⟨some 5,.mov (.t 0),none⟩,
 ⟨some 6,.mkfunc 91 [(.t 3)],none⟩,
 ⟨some 7,.icall (.c (.func 90 [])) [(.t 5),(.t 6)],none⟩,
 ⟨some 4,.mov (.t 7),none⟩])
 (.ret)),
 [.tmp 4]⟩
def xQs : ACode :=
 .seq (.seq (.region [⟨some 12,.mov (.t 4),none⟩,
 ⟨some 13,.mov (.t 0),none⟩,
 ⟨some 14,.len (.t 13),none⟩,
 ⟨some 15,.bin .lss (.t 12) (.t 14),none⟩])
 (.cond (.t 15)
 (.skip)
 (.exit 0)))
 (.seq (.block 1 (.region [⟨some 18,.mov (.t 3),none⟩,
 ⟨some 19,.mov (.t 0),none⟩,
 ⟨some 20,.mov (.t 4),none⟩,
 ⟨some 21,.iaddr 1 (.t 19) (.t 20),none⟩,
 ⟨some 22,.load false 1 (.t 21),none⟩,
 ⟨some 23,.maxi (.t 18) (.t 22),none⟩,
 ⟨some 3,.mov (.t 23),none⟩]))
 (.region [⟨some 16,.mov (.t 4),none⟩,
 ⟨some 17,.bin .add (.t 16) (.c (.int .i64 1)),none⟩,
 ⟨some 4,.mov (.t 17),none⟩]))
def xXv : ACode := xQs
def xNh : List Nat := [1,2,5,6,7,8,9,10,11,12,13,14,15,16,17,18,19,20,21,22,23,24]
abbrev xNi (s0 s3 s4 : AV) : List AV := [s0,.any,.any,s3,s4,.any,.any,.any,.any,.any,.any,.any,.any,.any,.any,.any,.any,.any,.any,.any,.any,.any,.any,.any,.any]
theorem xUe (s0 s1 s2 s3 s4 s5 s6 s7 s8 s9 s10 s11 s12 s13 s14 s15 s16 s17 s18 s19 s20 s21 s22 s23 s24 : AV) : xAY xNh [s0,s1,s2,s3,s4,s5,s6,s7,s8,s9,s10,s11,s12,s13,s14,s15,s16,s17,s18,s19,s20,s21,s22,s23,s24] = xNi s0 s3 s4 := by kernel_rfl
theorem xYC {prog : Nat → Option AFunc} (s0 s3 s4 : AV) (H : Heap) : (lim prog).loop xNh xXv ⟨xNi s0 s3 s4,H⟩ = xBt (lim prog) xNh xXv (run (lim prog) xQs ⟨xNi s0 s3 s4,H⟩) := xAE _ _ _ _ (by kernel_rfl)
def a61 : AFunc := ⟨25,
 .seq (.region [⟨some 2,.mov (.c (.int .u8 0)),none⟩])
 (.seq (.seq (.region [⟨some 5,.mov (.t 0),none⟩,
 ⟨some 6,.len (.t 5),none⟩,
 ⟨some 7,.bin .lss (.t 6) (.c (.int .i64 1)),none⟩])
 (.cond (.t 7)
 (.stuck)
 (.skip)))
 (.seq (.region [⟨some 9,.mov (.t 0),none⟩,
 ⟨some 10,.iaddr 1 (.t 9) (.c (.int .i64 0)),none⟩,
 ⟨some 11,.load false 1 (.t 10),none⟩,
 ⟨some 3,.mov (.t 11),none⟩])
 (.seq (.seq (.region [⟨some 4,.mov (.c (.int .i64 1)),none⟩])
 (.block 0 (.loop xNh xXv)))
 (.seq (.region [⟨some 24,.mov (.t 3),none⟩,
 ⟨some 2,.mov (.t 24),none⟩])
 (.ret))))),
 [.tmp 2]⟩
def a62 : AFunc := ⟨25,
 .seq (.region [⟨some 4,.mov (.c (.int .i64 0)),none⟩])
 (.seq (.seq (.region [⟨some 5,.mov (.t 0),none⟩,
 ⟨some 6,.bin .lss (.t 5) (.c (.int .i64 0)),none⟩,
 ⟨some 7,.mov (.t 6),none⟩,
 ⟨some 8,.mov (.t 1),some (7,false)⟩,
 ⟨some 9,.bin .lss (.t 8) (.c (.int .i64 0)),some (7,false)⟩,
 ⟨some 10,.pick (.t 7) (.c (.bool true)) (.t 9),none⟩,
 ⟨some 11,.mov (.t 10),none⟩,
 ⟨some 12,.mov (.t 0),some (11,false)⟩,
 ⟨some 13,.bin .gtr (.t 12) (.c (.int .i64 6)),some (11,false)⟩,
 ⟨some 14,.pick (.t 11) (.c (.bool true)) (.t 13),none⟩,
 ⟨some 15,.mov (.t 14),none⟩,
 ⟨some 16,.mov (.t 1),some (15,false)⟩,
 ⟨some 17,.bin .gtr (.t 16) (.c (.int .i64 6)),some (15,false)⟩,
 ⟨some 18,.pick (.t 15) (.c (.bool true)) (.t 17),none⟩,
 ⟨some 19,.mov (.t 18),none⟩,
 ⟨some 20,.mov (.t 0),some (19,false)⟩,
 ⟨some 21,.mov (.t 1),some (19,false)⟩,
 ⟨some 22,.bin .add (.t 20) (.t 21),some (19,false)⟩,
 ⟨some 23,.bin .gtr (.t 22) (.c (.int .i64 6)),some (19,false)⟩,
 ⟨some 24,.pick (.t 19) (.c (.bool true)) (.t 23),none⟩])
 (.cond (.t 24)
 (.seq (.region [⟨some 4,.mov (.c (.int .i64 7)),none⟩])
 (.ret))
 (.skip)))
 (.seq (.region [⟨some 4,.mov (.c (.int .i64 0)),none⟩])
 (.ret))),
 [.tmp 4]⟩
def a63 : AFunc := ⟨25,
 .seq (.region [⟨some 6,.mov (.c (.int .i64 0)),none⟩])
 (.seq (.seq (.region [⟨some 7,.mov (.t 0),none⟩,
 ⟨some 8,.len (.t 7),none⟩,
 ⟨some 9,.bin .eql (.t 8) (.c (.int .i64 0)),none⟩])
 (.cond (.t 9)
 (.seq (.region [⟨some 6,.mov (.c (.int .i64 3)),none⟩])
 (.ret))
 (.skip)))
 (.seq (.seq (.region [⟨some 10,.mov (.t 0),none⟩,
 ⟨some 11,.len (.t 10),none⟩,
 ⟨some 12,.bin .gtr (.t 11) (.c (.int .i64 4096)),none⟩])
 (.cond (.t 12)
 (.seq (.region [⟨some 6,.mov (.c (.int .i64 10)),none⟩])
 (.ret))
 (.skip)))
 (.seq (.seq (.region [⟨some 13,.mov (.t 1),none⟩,
 ⟨some 14,.mov (.t 0),none⟩,
 ⟨some 15,.len (.t 14),none⟩,
 ⟨some 16,.bin .neq (.t 13) (.t 15),none⟩])
 (.cond (.t 16)
 (.seq (.region [⟨some 6,.mov (.c (.int .i64 2)),none⟩])
 (.ret))
 (.skip)))
 (.seq (.seq (.region [⟨some 17,.mov (.t 2),none⟩,
 ⟨some 18,.bin .lss (.t 17) (.c (.int .i64 0)),none⟩,
 ⟨some 19,.mov (.t 18),none⟩,
 ⟨some 20,.mov (.t 2),some (19,false)⟩,
 ⟨some 21,.mov (.t 0),some (19,false)⟩,
 ⟨some 22,.len (.t 21),some (19,false)⟩,
 ⟨some 23,.bin .geq (.t 20) (.t 22),some (19,false)⟩,
 ⟨some 24,.pick (.t 19) (.c (.bool true)) (.t 23),none⟩])
 (.cond (.t 24)
 (.seq (.region [⟨some 6,.mov (.c (.int .i64 8)),none⟩])
 (.ret))
 (.skip)))
 (.seq (.region [⟨some 6,.mov (.c (.int .i64 0)),none⟩])
 (.ret)))))),
 [.tmp 6]⟩
def xHN : ACode :=
 .seq (.seq (.region [⟨some 6,.mov (.t 5),none⟩,
 ⟨some 7,.mov (.t 0),none⟩,
 ⟨some 8,.len (.t 7),none⟩,
 ⟨some 9,.bin .lss (.t 6) (.t 8),none⟩])
 (.cond (.t 9)
 (.skip)
 (.exit 0)))
 (.seq (.block 1 (.seq (.region [⟨some 12,.mov (.t 0),none⟩,
 ⟨some 13,.mov (.t 5),none⟩,
 ⟨some 14,.iaddr 1 (.t 12) (.t 13),none⟩,
 ⟨some 15,.load false 1 (.t 14),none⟩,
 ⟨some 16,.bin .lss (.t 15) (.c (.int .i64 0)),none⟩,
 ⟨some 17,.mov (.t 16),none⟩,
 ⟨some 18,.mov (.t 0),some (17,false)⟩,
 ⟨some 19,.mov (.t 5),some (17,false)⟩,
 ⟨some 20,.iaddr 1 (.t 18) (.t 19),some (17,false)⟩,
 ⟨some 21,.load false 1 (.t 20),some (17,false)⟩,
 ⟨some 22,.mov (.t 1),some (17,false)⟩,
 ⟨some 23,.bin .geq (.t 21) (.t 22),some (17,false)⟩,
 ⟨some 24,.pick (.t 17) (.c (.bool true)) (.t 23),none⟩])
 (.cond (.t 24)
 (.seq (.region [⟨some 4,.mov (.c (.bool false)),none⟩])
 (.ret))
 (.skip))))
 (.region [⟨some 10,.mov (.t 5),none⟩,
 ⟨some 11,.bin .add (.t 10) (.c (.int .i64 1)),none⟩,
 ⟨some 5,.mov (.t 11),none⟩]))
def xXw : ACode := xHN
def xNj : List Nat := [2,3,6,7,8,9,10,11,12,13,14,15,16,17,18,19,20,21,22,23,24]
abbrev xJR (s0 s1 s4 s5 : AV) : List AV := [s0,s1,.any,.any,s4,s5,.any,.any,.any,.any,.any,.any,.any,.any,.any,.any,.any,.any,.any,.any,.any,.any,.any,.any,.any]
theorem xHO (s0 s1 s2 s3 s4 s5 s6 s7 s8 s9 s10 s11 s12 s13 s14 s15 s16 s17 s18 s19 s20 s21 s22 s23 s24 : AV) : xAY xNj [s0,s1,s2,s3,s4,s5,s6,s7,s8,s9,s10,s11,s12,s13,s14,s15,s16,s17,s18,s19,s20,s21,s22,s23,s24] = xJR s0 s1 s4 s5 := by kernel_rfl
theorem xQt {prog : Nat → Option AFunc} (s0 s1 s4 s5 : AV) (H : Heap) : (lim prog).loop xNj xXw ⟨xJR s0 s1 s4 s5,H⟩ = xBt (lim prog) xNj xXw (run (lim prog) xHN ⟨xJR s0 s1 s4 s5,H⟩) := xAE _ _ _ _ (by kernel_rfl)
def a64 : AFunc := ⟨25,
 .seq (.region [⟨some 4,.mov (.c (.bool false)),none⟩])
 (.seq (.seq (.region [⟨some 5,.mov (.c (.int .i64 0)),none⟩])
 (.block 0 (.loop xNj xXw)))
 (.seq (.region [⟨some 4,.mov (.c (.bool true)),none⟩])
 (.ret))),
 [.tmp 4]⟩
def xQu : ACode :=
 .seq (.seq (.region [⟨some 11,.mov (.t 5),none⟩,
 ⟨some 12,.mov (.t 0),none⟩,
 ⟨some 13,.len (.t 12),none⟩,
 ⟨some 14,.bin .lss (.t 11) (.t 13),none⟩])
 (.cond (.t 14)
 (.skip)
 (.exit 0)))
 (.seq (.block 1 (.seq (.draw 5 [⟨some 17,.mov (.t 0),none⟩,
 ⟨some 18,.mov (.t 5),none⟩,
 ⟨some 19,.iaddr 1 (.t 17) (.t 18),none⟩,
 ⟨some 20,.load false 1 (.t 19),none⟩,
 ⟨some 21,.mov (.t 1),none⟩,
 ⟨some 22,.mov (.t 5),none⟩,
 ⟨some 23,.iaddr 1 (.t 21) (.t 22),none⟩,
 ⟨some 24,.load false 1 (.t 23),none⟩,
 ⟨some 25,.bin .neq (.t 20) (.t 24),none⟩])
 (.cond (.t 25)
 (.seq (.region [⟨some 4,.mov (.c (.bool false)),none⟩])
 (.ret))
 (.skip))))
 (.region [⟨some 15,.mov (.t 5),none⟩,
 ⟨some 16,.bin .add (.t 15) (.c (.int .i64 1)),none⟩,
 ⟨some 5,.mov (.t 16),none⟩]))
def xXx : ACode := xQu
def xNk : List Nat := [2,3,6,7,8,9,10,11,12,13,14,15,16,17,18,19,20,21,22,23,24,25]
abbrev xNl (s0 s1 s4 s5 : AV) : List AV := [s0,s1,.any,.any,s4,s5,.any,.any,.any,.any,.any,.any,.any,.any,.any,.any,.any,.any,.any,.any,.any,.any,.any,.any,.any,.any]
theorem xUf (s0 s1 s2 s3 s4 s5 s6 s7 s8 s9 s10 s11 s12 s13 s14 s15 s16 s17 s18 s19 s20 s21 s22 s23 s24 s25 : AV) : xAY xNk [s0,s1,s2,s3,s4,s5,s6,s7,s8,s9,s10,s11,s12,s13,s14,s15,s16,s17,s18,s19,s20,s21,s22,s23,s24,s25] = xNl s0 s1 s4 s5 := by kernel_rfl
theorem xYD {prog : Nat → Option AFunc} (s0 s1 s4 s5 : AV) (H : Heap) : (lim prog).loop xNk xXx ⟨xNl s0 s1 s4 s5,H⟩ = xBt (lim prog) xNk xXx (run (lim prog) xQu ⟨xNl s0 s1 s4 s5,H⟩) := xAE _ _ _ _ (by kernel_rfl)
def a65 : AFunc := ⟨26,
 .seq (.region [⟨some 4,.mov (.c (.bool false)),none⟩])
 (.seq (.seq (.region [⟨some 6,.mov (.t 0),none⟩,
 ⟨some 7,.len (.t 6),none⟩,
 ⟨some 8,.mov (.t 1),none⟩,
 ⟨some 9,.len (.t 8),none⟩,
 ⟨some 10,.bin .neq (.t 7) (.t 9),none⟩])
 (.cond (.t 10)
 (.seq (.region [⟨some 4,.mov (.c (.bool false)),none⟩])
 (.ret))
 (.skip)))
 (.seq (.seq (.region [⟨some 5,.mov (.c (.int .i64 0)),none⟩])
 (.block 0 (.loop xNk xXx)))
 (.seq (.region [⟨some 4,.mov (.c (.bool true)),none⟩])
 (.ret)))),
 [.tmp 4]⟩
def xJS : ACode :=
 .seq (.seq (.region [⟨some 11,.mov (.t 5),none⟩,
 ⟨some 12,.mov (.t 0),none⟩,
 ⟨some 13,.len (.t 12),none⟩,
 ⟨some 14,.bin .lss (.t 11) (.t 13),none⟩])
 (.cond (.t 14)
 (.skip)
 (.exit 0)))
 (.seq (.block 1 (.seq (.draw 5 [⟨some 17,.mov (.t 0),none⟩,
 ⟨some 18,.mov (.t 5),none⟩,
 ⟨some 19,.iaddr 1 (.t 17) (.t 18),none⟩,
 ⟨some 20,.load false 1 (.t 19),none⟩,
 ⟨some 21,.mov (.t 1),none⟩,
 ⟨some 22,.mov (.t 5),none⟩,
 ⟨some 23,.iaddr 1 (.t 21) (.t 22),none⟩,
 ⟨some 24,.load false 1 (.t 23),none⟩,
 ⟨some 25,.call 24 [(.t 20),(.t 24)],none⟩,
 ⟨some 26,.un .not (.t 25),none⟩])
 (.cond (.t 26)
 (.seq (.region [⟨some 4,.mov (.c (.bool false)),none⟩])
 (.ret))
 (.skip))))
 (.region [⟨some 15,.mov (.t 5),none⟩,
 ⟨some 16,.bin .add (.t 15) (.c (.int .i64 1)),none⟩,
 ⟨some 5,.mov (.t 16),none⟩]))
def xXy : ACode := xJS
def xNm : List Nat := [2,3,6,7,8,9,10,11,12,13,14,15,16,17,18,19,20,21,22,23,24,25,26]
abbrev xJT (s0 s1 s4 s5 : AV) : List AV := [s0,s1,.any,.any,s4,s5,.any,.any,.any,.any,.any,.any,.any,.any,.any,.any,.any,.any,.any,.any,.any,.any,.any,.any,.any,.any,.any]
theorem xJU (s0 s1 s2 s3 s4 s5 s6 s7 s8 s9 s10 s11 s12 s13 s14 s15 s16 s17 s18 s19 s20 s21 s22 s23 s24 s25 s26 : AV) : xAY xNm [s0,s1,s2,s3,s4,s5,s6,s7,s8,s9,s10,s11,s12,s13,s14,s15,s16,s17,s18,s19,s20,s21,s22,s23,s24,s25,s26] = xJT s0 s1 s4 s5 := by kernel_rfl
theorem xUg {prog : Nat → Option AFunc} (s0 s1 s4 s5 : AV) (H : Heap) : (lim prog).loop xNm xXy ⟨xJT s0 s1 s4 s5,H⟩ = xBt (lim prog) xNm xXy (run (lim prog) xJS ⟨xJT s0 s1 s4 s5,H⟩) := xAE _ _ _ _ (by kernel_rfl)
def a66 : AFunc := ⟨27,
 .seq (.region [⟨some 4,.mov (.c (.bool false)),none⟩])
 (.seq (.seq (.region [⟨some 6,.mov (.t 0),none⟩,
 ⟨some 7,.len (.t 6),none⟩,
 ⟨some 8,.mov (.t 1),none⟩,
 ⟨some 9,.len (.t 8),none⟩,
 ⟨some 10,.bin .neq (.t 7) (.t 9),none⟩])
 (.cond (.t 10)
 (.seq (.region [⟨some 4,.mov (.c (.bool false)),none⟩])
 (.ret))
 (.skip)))
 (.seq (.seq (.region [⟨some 5,.mov (.c (.int .i64 0)),none⟩])
 (.block 0 (.loop xNm xXy)))
 (.seq (.region [⟨some 4,.mov (.c (.bool true)),none⟩])
 (.ret)))),
 [.tmp 4]⟩
def xJV : ACode :=
 .seq (.seq (.region [⟨some 11,.mov (.t 5),none⟩,
 ⟨some 12,.mov (.t 0),none⟩,
 ⟨some 13,.len (.t 12),none⟩,
 ⟨some 14,.bin .lss (.t 11) (.t 13),none⟩])
 (.cond (.t 14)
 (.skip)
 (.exit 0)))
 (.seq (.block 1 (.seq (.draw 5 [⟨some 17,.mov (.t 0),none⟩,
 ⟨some 18,.mov (.t 5),none⟩,
 ⟨some 19,.iaddr 1 (.t 17) (.t 18),none⟩,
 ⟨some 20,.load false 1 (.t 19),none⟩,
 ⟨some 21,.mov (.t 1),none⟩,
 ⟨some 22,.mov (.t 5),none⟩,
 ⟨some 23,.iaddr 1 (.t 21) (.t 22),none⟩,
 ⟨some 24,.load false 1 (.t 23),none⟩,
 ⟨some 25,.call 23 [(.t 20),(.t 24)],none⟩,
 ⟨some 26,.un .not (.t 25),none⟩])
 (.cond (.t 26)
 (.seq (.region [⟨some 4,.mov (.c (.bool false)),none⟩])
 (.ret))
 (.skip))))
 (.region [⟨some 15,.mov (.t 5),none⟩,
 ⟨some 16,.bin .add (.t 15) (.c (.int .i64 1)),none⟩,
 ⟨some 5,.mov (.t 16),none⟩]))
def xXz : ACode := xJV
def xNn : List Nat := [2,3,6,7,8,9,10,11,12,13,14,15,16,17,18,19,20,21,22,23,24,25,26]
abbrev xJW (s0 s1 s4 s5 : AV) : List AV := [s0,s1,.any,.any,s4,s5,.any,.any,.any,.any,.any,.any,.any,.any,.any,.any,.any,.any,.any,.any,.any,.any,.any,.any,.any,.any,.any]
theorem xJX (s0 s1 s2 s3 s4 s5 s6 s7 s8 s9 s10 s11 s12 s13 s14 s15 s16 s17 s18 s19 s20 s21 s22 s23 s24 s25 s26 : AV) : xAY xNn [s0,s1,s2,s3,s4,s5,s6,s7,s8,s9,s10,s11,s12,s13,s14,s15,s16,s17,s18,s19,s20,s21,s22,s23,s24,s25,s26] = xJW s0 s1 s4 s5 := by kernel_rfl
theorem xUh {prog : Nat → Option AFunc} (s0 s1 s4 s5 : AV) (H : Heap) : (lim prog).loop xNn xXz ⟨xJW s0 s1 s4 s5,H⟩ = xBt (lim prog) xNn xXz (run (lim prog) xJV ⟨xJW s0 s1 s4 s5,H⟩) := xAE _ _ _ _ (by kernel_rfl)
def a67 : AFunc := ⟨27,
 .seq (.region [⟨some 4,.mov (.c (.bool false)),none⟩])
 (.seq (.seq (.region [⟨some 6,.mov (.t 0),none⟩,
 ⟨some 7,.len (.t 6),none⟩,
 ⟨some 8,.mov (.t 1),none⟩,
 ⟨some 9,.len (.t 8),none⟩,
 ⟨some 10,.bin .neq (.t 7) (.t 9),none⟩])
 (.cond (.t 10)
 (.seq (.region [⟨some 4,.mov (.c (.bool false)),none⟩])
 (.ret))
 (.skip)))
 (.seq (.seq (.region [⟨some 5,.mov (.c (.int .i64 0)),none⟩])
 (.block 0 (.loop xNn xXz)))
 (.seq (.region [⟨some 4,.mov (.c (.bool true)),none⟩])
 (.ret)))),
 [.tmp 4]⟩
def a68 : AFunc := ⟨52,
 .seq (.region [⟨some 3,.box (.t 1),none⟩,
 ⟨some 4,.box (.c (.agg [.sl true 0 [],.sl true 0 []])),none⟩,
 ⟨some 5,.mov (.c (.bool false)),none⟩])
 (.seq (.seq (.region [⟨some 8,.mov (.t 0),none⟩,
 ⟨some 9,.nilchk (.t 8),none⟩,
 ⟨some 10,.faddr 0 (.t 9),none⟩,
 ⟨some 11,.load false 1 (.t 10),none⟩,
 ⟨some 12,.mnil false (.t 11),none⟩])
 (.cond (.t 12)
 (.region [⟨some 13,.mov (.t 0),none⟩,
 ⟨some 14,.mkmap,none⟩,
 ⟨some 15,.nilchk (.t 13),none⟩,
 ⟨some 16,.faddr 0 (.t 15),none⟩,
 ⟨none,.store 1 (.t 16) (.t 14),none⟩])
 (.skip)))
 (.seq (.seq (.draw 9 [⟨some 18,.mov (.t 0),none⟩,
 ⟨some 19,.nilchk (.t 18),none⟩,
 ⟨some 20,.faddr 0 (.t 19),none⟩,
 ⟨some 21,.load false 1 (.t 20),none⟩,
 ⟨some 22,.load true 2 (.t 3),none⟩,
 ⟨some 23,.mlook [2,0,0] true (.int .i64 0) (.t 21) (.t 22),none⟩,
 ⟨some 17,.mov (.t 23),none⟩,
 ⟨some 24,.ext 0 (.t 17),none⟩,
 ⟨some 25,.ext 1 (.t 17),none⟩,
 ⟨some 6,.mov (.t 24),none⟩,
 ⟨some 7,.mov (.t 25),none⟩])
 (.seq (.region [⟨some 26,.mov (.t 7),none⟩])
 (.cond (.t 26)
 (.seq (.drawp [] [] 10 [⟨some 27,.mov (.t 0),none⟩,
 ⟨some 28,.nilchk (.t 27),none⟩,
 ⟨some 29,.faddr 1 (.t 28),none⟩,
 ⟨some 30,.load false 1 (.t 29),none⟩,
 ⟨some 31,.mov (.t 6),none⟩,
 ⟨some 32,.slice 1 (.t 30) none (some (.t 31)) none,none⟩,
 ⟨some 33,.mov (.t 0),none⟩,
 ⟨some 34,.nilchk (.t 33),none⟩,
 ⟨some 35,.faddr 1 (.t 34),none⟩,
 ⟨some 36,.load false 1 (.t 35),none⟩,
 ⟨some 37,.mov (.t 6),none⟩,
 ⟨some 38,.slice 1 (.t 36) (some (.t 37)) none none,none⟩,
 ⟨some 39,.build [.sl true 0 [],.sl true 0 []] [(0,1,(.t 32)),(1,1,(.t 38))],none⟩,
 ⟨some 40,.ocall 49 [(.t 39)],none⟩,
 ⟨none,.store 2 (.t 4) (.t 40),none⟩,
 ⟨some 5,.mov (.c (.bool true)),none⟩])
 (.ret))
 (.skip))))
 (.seq (.draw 5 [⟨some 41,.mov (.t 0),none⟩,
 ⟨some 42,.nilchk (.t 41),none⟩,
 ⟨some 43,.faddr 0 (.t 42),none⟩,
 ⟨some 44,.load false 1 (.t 43),none⟩,
 ⟨some 45,.load true 2 (.t 3),none⟩,
 ⟨some 46,.mov (.t 0),none⟩,
 ⟨some 47,.nilchk (.t 46),none⟩,
 ⟨some 48,.faddr 1 (.t 47),none⟩,
 ⟨some 49,.load false 1 (.t 48),none⟩,
 ⟨some 50,.len (.t 49),none⟩,
 ⟨none,.mupd [2,0,0] (.t 44) (.t 45) (.t 50),none⟩])
 (.seq (.region [⟨some 51,.build [.sl true 0 [],.sl true 0 []] [],none⟩,
 ⟨none,.store 2 (.t 4) (.t 51),none⟩,
 ⟨some 5,.mov (.c (.bool false)),none⟩])
 (.ret))))),
 [.cell 4 true 2,.tmp 5]⟩
def yBM : ACode :=
 .seq (.region [⟨some 33,.bin .lss (.t 32) (.t 31),none⟩])
 (.seq (.cond (.t 33)
 (.skip)
 (.exit 4))
 (.seq (.block 5 (.seq (.region [⟨some 34,.mov (.t 32),none⟩,
 ⟨some 35,.iaddr 1 (.t 30) (.t 32),none⟩,
 ⟨some 36,.load false 1 (.t 35),none⟩,
 ⟨some 10,.mov (.t 34),none⟩,
 ⟨some 11,.mov (.t 36),none⟩])
 (.region [⟨some 37,.mov (.t 9),none⟩,
 ⟨some 38,.mov (.t 10),none⟩,
 ⟨some 39,.mov (.t 3),none⟩,
 ⟨some 40,.mov (.t 11),none⟩,
 ⟨some 41,.iaddr 1 (.t 39) (.t 40),none⟩,
 ⟨some 42,.load false 1 (.t 41),none⟩,
 ⟨some 43,.iaddr 1 (.t 37) (.t 38),none⟩,
 ⟨none,.store 1 (.t 43) (.t 42),none⟩])))
 (.region [⟨some 44,.bin .add (.t 32) (.c (.int .i64 1)),none⟩,
 ⟨some 32,.mov (.t 44),none⟩])))
def yDh : ACode := yBM
def yBN : List Nat := [0,2,8,10,11,12,13,14,15,16,17,18,19,23,24,25,26,27,28,29,33,34,35,36,37,38,39,40,41,42,43,44,45,46,47,48,49,50,51,52,53,54,55,56,57,58,59,60,61,62,63,64,65,66,67,68,69,70,71]
def yBO : ACode :=
 .seq (.region [⟨some 23,.bin .lss (.t 22) (.t 21),none⟩])
 (.seq (.cond (.t 23)
 (.skip)
 (.exit 2))
 (.seq (.block 3 (.seq (.region [⟨some 24,.mov (.t 22),none⟩,
 ⟨some 25,.iaddr 1 (.t 20) (.t 22),none⟩,
 ⟨some 26,.load false 1 (.t 25),none⟩,
 ⟨some 7,.mov (.t 24),none⟩,
 ⟨some 8,.mov (.t 26),none⟩])
 (.seq (.region [⟨some 27,.mov (.t 8),none⟩,
 ⟨some 28,.len (.t 27),none⟩,
 ⟨some 29,.mkslice false [.int .i64 0] 8 (.t 28) (.t 28),none⟩,
 ⟨some 9,.mov (.t 29),none⟩])
 (.seq (.seq (.region [⟨some 30,.mov (.t 8),none⟩,
 ⟨some 31,.len (.t 30),none⟩,
 ⟨some 32,.mov (.c (.int .i64 0)),none⟩])
 (.block 4 (.loop yBN yDh)))
 (.draw 10 [⟨some 46,.mov (.t 6),none⟩,
 ⟨some 47,.mov (.t 7),none⟩,
 ⟨some 48,.faddr 4 (.t 1),none⟩,
 ⟨some 49,.load false 1 (.t 48),none⟩,
 ⟨some 50,.mov (.t 7),none⟩,
 ⟨some 51,.iaddr 1 (.t 49) (.t 50),none⟩,
 ⟨some 52,.load false 1 (.t 51),none⟩,
 ⟨some 53,.bstr (.t 52),none⟩,
 ⟨some 54,.mov (.t 9),none⟩,
 ⟨some 55,.call 93 [(.t 54)],none⟩,
 ⟨some 56,.build [.str ⟨#[]⟩,.str ⟨#[]⟩] [(0,1,(.t 53)),(1,1,(.t 55))],none⟩,
 ⟨some 57,.icall (.c (.func 92 [])) [(.t 5),(.t 56)],none⟩,
 ⟨some 45,.mov (.t 57),none⟩,
 ⟨some 58,.ext 0 (.t 45),none⟩,
 ⟨some 59,.ext 1 (.t 45),none⟩,
 ⟨some 60,.iaddr 1 (.t 46) (.t 47),none⟩,
 ⟨none,.store 1 (.t 60) (.t 58),none⟩])))))
 (.region [⟨some 61,.bin .add (.t 22) (.c (.int .i64 1)),none⟩,
 ⟨some 22,.mov (.t 61),none⟩])))
def yDi : ACode := yBO
def yBP : List Nat := [0,2,7,8,9,10,11,12,13,14,15,16,17,18,19,23,24,25,26,27,28,29,30,31,32,33,34,35,36,37,38,39,40,41,42,43,44,45,46,47,48,49,50,51,52,53,54,55,56,57,58,59,60,61,62,63,64,65,66,67,68,69,70,71]
def yBQ : ACode :=
 .block 1 (.seq (.region [⟨some 5,.box (.c (.agg [.nilm,.sl true 0 []])),none⟩])
 (.seq (.region [⟨some 16,.mov (.t 3),none⟩,
 ⟨some 17,.len (.t 16),none⟩,
 ⟨some 18,.mkslice false [.int .i64 0] 8 (.t 17) (.t 17),none⟩,
 ⟨some 6,.mov (.t 18),none⟩])
 (.seq (.seq (.region [⟨some 19,.faddr 3 (.t 1),none⟩,
 ⟨some 20,.load false 1 (.t 19),none⟩,
 ⟨some 21,.len (.t 20),none⟩,
 ⟨some 22,.mov (.c (.int .i64 0)),none⟩])
 (.block 2 (.loop yBP yDi)))
 (.seq (.region [⟨some 62,.mov (.t 6),none⟩,
 ⟨some 3,.mov (.t 62),none⟩])
 (.seq (.seq (.region [⟨some 63,.faddr 1 (.t 5),none⟩,
 ⟨some 64,.load false 1 (.t 63),none⟩,
 ⟨some 65,.len (.t 64),none⟩,
 ⟨some 66,.mov (.t 4),none⟩,
 ⟨some 67,.bin .eql (.t 65) (.t 66),none⟩])
 (.cond (.t 67)
 (.seq (.region [⟨some 68,.mov (.t 3),none⟩,
 ⟨some 2,.mov (.t 68),none⟩])
 (.ret))
 (.skip)))
 (.region [⟨some 69,.faddr 1 (.t 5),none⟩,
 ⟨some 70,.load false 1 (.t 69),none⟩,
 ⟨some 71,.len (.t 70),none⟩,
 ⟨some 4,.mov (.t 71),none⟩]))))))
def yDj : ACode := yBQ
def yBR : List Nat := [0,5,6,7,8,9,10,11,12,13,14,15,16,17,18,19,20,21,22,23,24,25,26,27,28,29,30,31,32,33,34,35,36,37,38,39,40,41,42,43,44,45,46,47,48,49,50,51,52,53,54,55,56,57,58,59,60,61,62,63,64,65,66,67,68,69,70,71]
def a69 : AFunc := ⟨72,
 .seq (.region [⟨some 1,.box (.t 0),none⟩,
 ⟨some 2,.mov (.c (.sl true 0 [])),none⟩])
 (.seq (.region [⟨some 12,.faddr 3 (.t 1),none⟩,
 ⟨some 13,.load false 1 (.t 12),none⟩,
 ⟨some 14,.len (.t 13),none⟩,
 ⟨some 15,.mkslice false [.int .i64 0] 8 (.t 14) (.t 14),none⟩,
 ⟨some 3,.mov (.t 15),none⟩])
 (.seq (.region [⟨some 4,.mov (.c (.int .i64 0)),none⟩])
 (.block 0 (.loop yBR yDj)))),
 [.tmp 2]⟩
def a70 : AFunc := ⟨54,
 .seq (.region [⟨some 4,.mov (.c (.int .i64 0)),none⟩,
 ⟨some 5,.mov (.c (.bool false)),none⟩])
 (.seq (.seq (.region [⟨some 8,.mov (.t 0),none⟩,
 ⟨some 9,.nilchk (.t 8),none⟩,
 ⟨some 10,.faddr 0 (.t 9),none⟩,
 ⟨some 11,.load false 1 (.t 10),none⟩,
 ⟨some 12,.mnil false (.t 11),none⟩])
 (.cond (.t 12)
 (.region [⟨some 13,.mov (.t 0),none⟩,
 ⟨some 14,.mkmap,none⟩,
 ⟨some 15,.nilchk (.t 13),none⟩,
 ⟨some 16,.faddr 0 (.t 15),none⟩,
 ⟨none,.store 1 (.t 16) (.t 14),none⟩])
 (.skip)))
 (.seq (.region [⟨some 18,.mov (.t 0),none⟩,
 ⟨some 19,.nilchk (.t 18),none⟩,
 ⟨some 20,.faddr 0 (.t 19),none⟩,
 ⟨some 21,.load false 1 (.t 20),none⟩,
 ⟨some 22,.mov (.t 1),none⟩,
 ⟨some 23,.mlook [0] true (.int .i64 0) (.t 21) (.t 22),none⟩,
 ⟨some 17,.mov (.t 23),none⟩,
 ⟨some 24,.ext 0 (.t 17),none⟩,
 ⟨some 25,.ext 1 (.t 17),none⟩,
 ⟨some 6,.mov (.t 24),none⟩,
 ⟨some 7,.mov (.t 25),none⟩])
 (.seq (.seq (.region [⟨some 26,.mov (.t 7),none⟩,
 ⟨some 27,.un .not (.t 26),none⟩])
 (.cond (.t 27)
 (.seq (.region [⟨some 28,.mov (.t 0),none⟩,
 ⟨some 29,.nilchk (.t 28),none⟩,
 ⟨some 30,.faddr 1 (.t 29),none⟩,
 ⟨some 31,.load false 1 (.t 30),none⟩,
 ⟨some 32,.len (.t 31),none⟩,
 ⟨some 6,.mov (.t 32),none⟩])
 (.drawl [(35,(1,(43,0)))] 11 [⟨some 33,.mov (.t 0),none⟩,
 ⟨some 34,.nilchk (.t 33),none⟩,
 ⟨some 35,.faddr 0 (.t 34),none⟩,
 ⟨some 36,.load false 1 (.t 35),none⟩,
 ⟨some 37,.mov (.t 1),none⟩,
 ⟨some 38,.mov (.t 0),none⟩,
 ⟨some 39,.mov (.t 6),none⟩,
 ⟨some 40,.mov (.t 0),none⟩,
 ⟨some 41,.nilchk (.t 40),none⟩,
 ⟨some 42,.faddr 1 (.t 41),none⟩,
 ⟨some 43,.load false 1 (.t 42),none⟩,
 ⟨some 44,.mov (.t 1),none⟩,
 ⟨some 45,.bslice true [.int .i64 0] 1 1 [(0,(.t 44))],none⟩,
 ⟨some 46,.append false 1 8 (.t 43) (.t 45),none⟩,
 ⟨some 47,.ment [0] (.int .i64 0) (.t 36) (.t 37),none⟩,
 ⟨some 48,.ext 1 (.t 47),none⟩,
 ⟨none,.mstore (.t 36) (.t 48) (.t 39),none⟩,
 ⟨some 49,.nilchk (.t 38),none⟩,
 ⟨some 50,.faddr 1 (.t 49),none⟩,
 ⟨none,.store 1 (.t 50) (.t 46),none⟩]))
 (.skip)))
 (.seq (.region [⟨some 51,.mov (.t 6),none⟩,
 ⟨some 52,.mov (.t 7),none⟩,
 ⟨some 53,.un .not (.t 52),none⟩,
 ⟨some 4,.mov (.t 51),none⟩,
 ⟨some 5,.mov (.t 53),none⟩])
 (.ret))))),
 [.tmp 4,.tmp 5]⟩
def a71 : AFunc := ⟨4,
 .seq (.region [⟨some 1,.box (.t 0),none⟩,
 ⟨some 2,.mov (.c (.nilf)),none⟩])
 (.seq (.region [⟨some 3,.mkfunc 94 [(.t 1)],none⟩,
 ⟨some 2,.mov (.t 3),none⟩])
 (.ret)),
 [.tmp 2]⟩
def a72 : AFunc := ⟨8,
 .seq (.region [⟨some 2,.mov (.c (.sl true 0 [])),none⟩])
 (.seq (.seq (.region [⟨some 3,.mov (.t 0),none⟩,
 ⟨some 4,.isnil false (.t 3),none⟩])
 (.cond (.t 4)
 (.seq (.region [⟨some 2,.mov (.c (.sl true 0 [])),none⟩])
 (.ret))
 (.skip)))
 (.seq (.region [⟨some 5,.bslice false [.int .u8 0] 1 0 [],none⟩,
 ⟨some 6,.mov (.t 0),none⟩,
 ⟨some 7,.append false 1 1 (.t 5) (.t 6),none⟩,
 ⟨some 2,.mov (.t 7),none⟩])
 (.ret))),
 [.tmp 2]⟩
def a74 : AFunc := ⟨54,
 .seq (.region [⟨some 3,.box (.t 1),none⟩,
 ⟨some 4,.mov (.c (.int .i64 0)),none⟩,
 ⟨some 5,.mov (.c (.bool false)),none⟩])
 (.seq (.seq (.region [⟨some 8,.mov (.t 0),none⟩,
 ⟨some 9,.nilchk (.t 8),none⟩,
 ⟨some 10,.faddr 0 (.t 9),none⟩,
 ⟨some 11,.load false 1 (.t 10),none⟩,
 ⟨some 12,.mnil false (.t 11),none⟩])
 (.cond (.t 12)
 (.region [⟨some 13,.mov (.t 0),none⟩,
 ⟨some 14,.mkmap,none⟩,
 ⟨some 15,.nilchk (.t 13),none⟩,
 ⟨some 16,.faddr 0 (.t 15),none⟩,
 ⟨none,.store 1 (.t 16) (.t 14),none⟩])
 (.skip)))
 (.seq (.draw 9 [⟨some 18,.mov (.t 0),none⟩,
 ⟨some 19,.nilchk (.t 18),none⟩,
 ⟨some 20,.faddr 0 (.t 19),none⟩,
 ⟨some 21,.load false 1 (.t 20),none⟩,
 ⟨some 22,.load true 2 (.t 3),none⟩,
 ⟨some 23,.mlook [2,0,0] true (.int .i64 0) (.t 21) (.t 22),none⟩,
 ⟨some 17,.mov (.t 23),none⟩,
 ⟨some 24,.ext 0 (.t 17),none⟩,
 ⟨some 25,.ext 1 (.t 17),none⟩,
 ⟨some 6,.mov (.t 24),none⟩,
 ⟨some 7,.mov (.t 25),none⟩])
 (.seq (.seq (.region [⟨some 26,.mov (.t 7),none⟩,
 ⟨some 27,.un .not (.t 26),none⟩])
 (.cond (.t 27)
 (.seq (.region [⟨some 28,.mov (.t 0),none⟩,
 ⟨some 29,.nilchk (.t 28),none⟩,
 ⟨some 30,.faddr 1 (.t 29),none⟩,
 ⟨some 31,.load false 1 (.t 30),none⟩,
 ⟨some 32,.len (.t 31),none⟩,
 ⟨some 6,.mov (.t 32),none⟩])
 (.drawl [(35,(1,(43,0))),(3,(2,(43,0)))] 11 [⟨some 33,.mov (.t 0),none⟩,
 ⟨some 34,.nilchk (.t 33),none⟩,
 ⟨some 35,.faddr 0 (.t 34),none⟩,
 ⟨some 36,.load false 1 (.t 35),none⟩,
 ⟨some 37,.load true 2 (.t 3),none⟩,
 ⟨some 38,.mov (.t 0),none⟩,
 ⟨some 39,.mov (.t 6),none⟩,
 ⟨some 40,.mov (.t 0),none⟩,
 ⟨some 41,.nilchk (.t 40),none⟩,
 ⟨some 42,.faddr 1 (.t 41),none⟩,
 ⟨some 43,.load false 1 (.t 42),none⟩,
 ⟨some 44,.load true 2 (.t 3),none⟩,
 ⟨some 45,.bslice true [.int .i64 0,.int .i64 0] 2 1 [(0,(.t 44))],none⟩,
 ⟨some 46,.append false 2 16 (.t 43) (.t 45),none⟩,
 ⟨some 47,.ment [2,0,0] (.int .i64 0) (.t 36) (.t 37),none⟩,
 ⟨some 48,.ext 1 (.t 47),none⟩,
 ⟨none,.mstore (.t 36) (.t 48) (.t 39),none⟩,
 ⟨some 49,.nilchk (.t 38),none⟩,
 ⟨some 50,.faddr 1 (.t 49),none⟩,
 ⟨none,.store 1 (.t 50) (.t 46),none⟩]))
 (.skip)))
 (.seq (.region [⟨some 51,.mov (.t 6),none⟩,
 ⟨some 52,.mov (.t 7),none⟩,
 ⟨some 53,.un .not (.t 52),none⟩,
 ⟨some 4,.mov (.t 51),none⟩,
 ⟨some 5,.mov (.t 53),none⟩])
 (.ret))))),
 [.tmp 4,.tmp 5]⟩
def a75 : AFunc := ⟨4,
 .seq (.region [⟨some 1,.box (.t 0),none⟩,
 ⟨some 2,.mov (.c (.nilf)),none⟩])
 (.seq (.region [⟨some 3,.mkfunc 95 [(.t 1)],none⟩,
 ⟨some 2,.mov (.t 3),none⟩])
 (.ret)),
 [.tmp 2]⟩
def xUi : ACode :=
 .seq (.region [⟨some 12,.bin .lss (.t 11) (.t 10),none⟩])
 (.seq (.cond (.t 12)
 (.skip)
 (.exit 0))
 (.seq (.block 1 (.seq (.region [⟨some 13,.iaddr 1 (.t 9) (.t 11),none⟩,
 ⟨some 14,.load false 1 (.t 13),none⟩,
 ⟨some 5,.mov (.t 14),none⟩])
 (.seq (.region [⟨some 15,.mov (.t 3),none⟩,
 ⟨some 16,.mov (.t 5),none⟩,
 ⟨some 17,.len (.t 16),none⟩,
 ⟨some 18,.bin .add (.t 15) (.t 17),none⟩,
 ⟨some 3,.mov (.t 18),none⟩])
 (.seq (.region [⟨some 19,.mov (.t 3),none⟩,
 ⟨some 20,.bin .lss (.t 19) (.c (.int .i64 0)),none⟩])
 (.cond (.t 20)
 (.stuck)
 (.skip))))))
 (.region [⟨some 22,.bin .add (.t 11) (.c (.int .i64 1)),none⟩,
 ⟨some 11,.mov (.t 22),none⟩])))
def xZY : ACode := xUi
def xQv : List Nat := [1,2,4,5,6,7,8,12,13,14,15,16,17,18,19,20,21,22,23,24,25,26,27,28,29,30,31,32,33,34,35]
abbrev xUj (s0 s3 s9 s10 s11 : AV) : List AV := [s0,.any,.any,s3,.any,.any,.any,.any,.any,s9,s10,s11,.any,.any,.any,.any,.any,.any,.any,.any,.any,.any,.any,.any,.any,.any,.any,.any,.any,.any,.any,.any,.any,.any,.any,.any]
theorem yBS (s0 s1 s2 s3 s4 s5 s6 s7 s8 s9 s10 s11 s12 s13 s14 s15 s16 s17 s18 s19 s20 s21 s22 s23 s24 s25 s26 s27 s28 s29 s30 s31 s32 s33 s34 s35 : AV) : xAY xQv [s0,s1,s2,s3,s4,s5,s6,s7,s8,s9,s10,s11,s12,s13,s14,s15,s16,s17,s18,s19,s20,s21,s22,s23,s24,s25,s26,s27,s28,s29,s30,s31,s32,s33,s34,s35] = xUj s0 s3 s9 s10 s11 := by kernel_rfl
theorem yBT {prog : Nat → Option AFunc} (s0 s3 s9 s10 s11 : AV) (H : Heap) : (lim prog).loop xQv xZY ⟨xUj s0 s3 s9 s10 s11,H⟩ = xBt (lim prog) xQv xZY (run (lim prog) xUi ⟨xUj s0 s3 s9 s10 s11,H⟩) := xAE _ _ _ _ (by kernel_rfl)
def xUk : ACode :=
 .seq (.region [⟨some 28,.bin .lss (.t 27) (.t 26),none⟩])
 (.seq (.cond (.t 28)
 (.skip)
 (.exit 2))
 (.seq (.block 3 (.seq (.region [⟨some 29,.iaddr 1 (.t 25) (.t 27),none⟩,
 ⟨some 30,.load false 1 (.t 29),none⟩,
 ⟨some 8,.mov (.t 30),none⟩])
 (.region [⟨some 31,.mov (.t 6),none⟩,
 ⟨some 32,.mov (.t 8),none⟩,
 ⟨some 33,.append false 1 1 (.t 31) (.t 32),none⟩,
 ⟨some 6,.mov (.t 33),none⟩])))
 (.region [⟨some 34,.bin .add (.t 27) (.c (.int .i64 1)),none⟩,
 ⟨some 27,.mov (.t 34),none⟩])))
def xZZ : ACode := xUk
def xQw : List Nat := [0,1,2,3,4,5,7,8,9,10,11,12,13,14,15,16,17,18,19,20,21,22,23,24,28,29,30,31,32,33,34,35]
abbrev xUl (s6 s25 s26 s27 : AV) : List AV := [.any,.any,.any,.any,.any,.any,s6,.any,.any,.any,.any,.any,.any,.any,.any,.any,.any,.any,.any,.any,.any,.any,.any,.any,.any,s25,s26,s27,.any,.any,.any,.any,.any,.any,.any,.any]
theorem yBU (s0 s1 s2 s3 s4 s5 s6 s7 s8 s9 s10 s11 s12 s13 s14 s15 s16 s17 s18 s19 s20 s21 s22 s23 s24 s25 s26 s27 s28 s29 s30 s31 s32 s33 s34 s35 : AV) : xAY xQw [s0,s1,s2,s3,s4,s5,s6,s7,s8,s9,s10,s11,s12,s13,s14,s15,s16,s17,s18,s19,s20,s21,s22,s23,s24,s25,s26,s27,s28,s29,s30,s31,s32,s33,s34,s35] = xUl s6 s25 s26 s27 := by kernel_rfl
theorem yBV {prog : Nat → Option AFunc} (s6 s25 s26 s27 : AV) (H : Heap) : (lim prog).loop xQw xZZ ⟨xUl s6 s25 s26 s27,H⟩ = xBt (lim prog) xQw xZZ (run (lim prog) xUk ⟨xUl s6 s25 s26 s27,H⟩) := xAE _ _ _ _ (by kernel_rfl)
def a76 : AFunc := ⟨36,
 .seq (.region [⟨some 2,.mov (.c (.sl true 0 [])),none⟩])
 (.seq (.region [⟨some 3,.mov (.c (.int .i64 0)),none⟩])
 (.seq (.seq (.region [⟨some 9,.mov (.t 0),none⟩,
 ⟨some 10,.len (.t 9),none⟩,
 ⟨some 11,.mov (.c (.int .i64 0)),none⟩])
 (.block 0 (.loop xQv xZY)))
 (.seq (.region [⟨some 23,.mov (.t 3),none⟩,
 ⟨some 24,.icall (.c (.func 96 [])) [(.c (.sl true 0 [])),(.t 23)],none⟩,
 ⟨some 6,.mov (.t 24),none⟩])
 (.seq (.seq (.region [⟨some 25,.mov (.t 0),none⟩,
 ⟨some 26,.len (.t 25),none⟩,
 ⟨some 27,.mov (.c (.int .i64 0)),none⟩])
 (.block 2 (.loop xQw xZZ)))
 (.seq (.region [⟨some 35,.mov (.t 6),none⟩,
 ⟨some 2,.mov (.t 35),none⟩])
 (.ret)))))),
 [.tmp 2]⟩
def a77 : AFunc := ⟨10,
 .seq (.region [⟨some 1,.box (.t 0),none⟩,
 ⟨some 2,.box (.c (.agg [.sl true 0 [],.sl true 0 []])),none⟩])
 (.seq (.seq (.region [⟨some 3,.faddr 1 (.t 1),none⟩,
 ⟨some 4,.load false 1 (.t 3),none⟩,
 ⟨some 5,.len (.t 4),none⟩,
 ⟨some 6,.bin .eql (.t 5) (.c (.int .i64 0)),none⟩])
 (.cond (.t 6)
 (.region [⟨some 7,.mkslice false [.int .u8 0] 1 (.c (.int .i64 1)) (.c (.int .i64 1)),none⟩,
 ⟨some 8,.faddr 1 (.t 1),none⟩,
 ⟨none,.store 1 (.t 8) (.t 7),none⟩])
 (.skip)))
 (.seq (.region [⟨some 9,.load true 2 (.t 1),none⟩,
 ⟨none,.store 2 (.t 2) (.t 9),none⟩])
 (.ret))),
 [.cell 2 true 2]⟩
def a80 : AFunc := ⟨9,
 .seq (.region [⟨some 3,.mov (.c (.bool false)),none⟩])
 (.seq (.region [⟨some 4,.mov (.t 0),none⟩,
 ⟨some 5,.conv .i64 (.t 4),none⟩,
 ⟨some 6,.load false 1 (.t 1),none⟩,
 ⟨some 7,.bin .shl (.c (.int .i64 1)) (.t 6),none⟩,
 ⟨some 8,.bin .geq (.t 5) (.t 7),none⟩,
 ⟨some 3,.mov (.t 8),none⟩])
 (.ret)),
 [.tmp 3]⟩
def xNo : ACode :=
 .seq (.seq (.draw 11 [⟨some 17,.mov (.t 4),none⟩,
 ⟨some 18,.bin .gtr (.t 17) (.c (.int .i64 0)),none⟩,
 ⟨some 19,.mov (.t 18),none⟩,
 ⟨some 20,.mov (.t 0),some (19,true)⟩,
 ⟨some 21,.mov (.t 5),some (19,true)⟩,
 ⟨some 22,.iaddr 1 (.t 20) (.t 21),some (19,true)⟩,
 ⟨some 23,.load false 1 (.t 22),some (19,true)⟩,
 ⟨some 24,.mov (.t 0),some (19,true)⟩,
 ⟨some 25,.mov (.t 4),some (19,true)⟩,
 ⟨some 26,.iaddr 1 (.t 24) (.t 25),some (19,true)⟩,
 ⟨some 27,.load false 1 (.t 26),some (19,true)⟩,
 ⟨some 28,.bin .neq (.t 23) (.t 27),some (19,true)⟩,
 ⟨some 29,.pick (.t 19) (.t 28) (.c (.bool false)),none⟩])
 (.cond (.t 29)
 (.skip)
 (.exit 2)))
 (.block 3 (.region [⟨some 30,.mov (.t 3),none⟩,
 ⟨some 31,.mov (.t 4),none⟩,
 ⟨some 32,.iaddr 1 (.t 30) (.t 31),none⟩,
 ⟨some 33,.load false 1 (.t 32),none⟩,
 ⟨some 4,.mov (.t 33),none⟩]))
def xXA : ACode := xNo
def xNp : List Nat := [1,2,6,7,8,9,10,11,12,13,14,15,16,17,18,19,20,21,22,23,24,25,26,27,28,29,30,31,32,33,34,35,36,37,38,39,40,41,42,43,44,45,46,47,48,49,50,51,52,53,54,55,56,57,58,59,60,61,62,63,64,65,66]
abbrev xNq (s0 s3 s4 s5 : AV) : List AV := [s0,.any,.any,s3,s4,s5,.any,.any,.any,.any,.any,.any,.any,.any,.any,.any,.any,.any,.any,.any,.any,.any,.any,.any,.any,.any,.any,.any,.any,.any,.any,.any,.any,.any,.any,.any,.any,.any,.any,.any,.any,.any,.any,.any,.any,.any,.any,.any,.any,.any,.any,.any,.any,.any,.any,.any,.any,.any,.any,.any,.any,.any,.any,.any,.any,.any,.any]
theorem xNr (s0 s1 s2 s3 s4 s5 s6 s7 s8 s9 s10 s11 s12 s13 s14 s15 s16 s17 s18 s19 s20 s21 s22 s23 s24 s25 s26 s27 s28 s29 s30 s31 s32 s33 s34 s35 s36 s37 s38 s39 s40 s41 s42 s43 s44 s45 s46 s47 s48 s49 s50 s51 s52 s53 s54 s55 s56 s57 s58 s59 s60 s61 s62 s63 s64 s65 s66 : AV) : xAY xNp [s0,s1,s2,s3,s4,s5,s6,s7,s8,s9,s10,s11,s12,s13,s14,s15,s16,s17,s18,s19,s20,s21,s22,s23,s24,s25,s26,s27,s28,s29,s30,s31,s32,s33,s34,s35,s36,s37,s38,s39,s40,s41,s42,s43,s44,s45,s46,s47,s48,s49,s50,s51,s52,s53,s54,s55,s56,s57,s58,s59,s60,s61,s62,s63,s64,s65,s66] = xNq s0 s3 s4 s5 := by kernel_rfl
theorem xUm {prog : Nat → Option AFunc} (s0 s3 s4 s5 : AV) (H : Heap) : (lim prog).loop xNp xXA ⟨xNq s0 s3 s4 s5,H⟩ = xBt (lim prog) xNp xXA (run (lim prog) xNo ⟨xNq s0 s3 s4 s5,H⟩) := xAE _ _ _ _ (by kernel_rfl)
def xNs : ACode :=
 .seq (.seq (.region [⟨some 11,.mov (.t 5),none⟩,
 ⟨some 12,.mov (.t 0),none⟩,
 ⟨some 13,.len (.t 12),none⟩,
 ⟨some 14,.bin .lss (.t 11) (.t 13),none⟩])
 (.cond (.t 14)
 (.skip)
 (.exit 0)))
 (.seq (.block 1 (.seq (.block 2 (.loop xNp xXA))
 (.seq (.seq (.draw 5 [⟨some 34,.mov (.t 0),none⟩,
 ⟨some 35,.mov (.t 5),none⟩,
 ⟨some 36,.iaddr 1 (.t 34) (.t 35),none⟩,
 ⟨some 37,.load false 1 (.t 36),none⟩,
 ⟨some 38,.mov (.t 0),none⟩,
 ⟨some 39,.mov (.t 4),none⟩,
 ⟨some 40,.iaddr 1 (.t 38) (.t 39),none⟩,
 ⟨some 41,.load false 1 (.t 40),none⟩,
 ⟨some 42,.bin .eql (.t 37) (.t 41),none⟩])
 (.cond (.t 42)
 (.region [⟨some 43,.mov (.t 4),none⟩,
 ⟨some 44,.bin .add (.t 43) (.c (.int .i64 1)),none⟩,
 ⟨some 4,.mov (.t 44),none⟩])
 (.skip)))
 (.region [⟨some 45,.mov (.t 3),none⟩,
 ⟨some 46,.mov (.t 5),none⟩,
 ⟨some 47,.bin .add (.t 46) (.c (.int .i64 1)),none⟩,
 ⟨some 48,.mov (.t 4),none⟩,
 ⟨some 49,.iaddr 1 (.t 45) (.t 47),none⟩,
 ⟨none,.store 1 (.t 49) (.t 48),none⟩]))))
 (.region [⟨some 15,.mov (.t 5),none⟩,
 ⟨some 16,.bin .add (.t 15) (.c (.int .i64 1)),none⟩,
 ⟨some 5,.mov (.t 16),none⟩]))
def xUn : ACode := xNs
def xJY : List Nat := [1,2,6,7,8,9,10,11,12,13,14,15,16,17,18,19,20,21,22,23,24,25,26,27,28,29,30,31,32,33,34,35,36,37,38,39,40,41,42,43,44,45,46,47,48,49,50,51,52,53,54,55,56,57,58,59,60,61,62,63,64,65,66]
abbrev xJZ (s0 s3 s4 s5 : AV) : List AV := [s0,.any,.any,s3,s4,s5,.any,.any,.any,.any,.any,.any,.any,.any,.any,.any,.any,.any,.any,.any,.any,.any,.any,.any,.any,.any,.any,.any,.any,.any,.any,.any,.any,.any,.any,.any,.any,.any,.any,.any,.any,.any,.any,.any,.any,.any,.any,.any,.any,.any,.any,.any,.any,.any,.any,.any,.any,.any,.any,.any,.any,.any,.any,.any,.any,.any,.any]
theorem xNt (s0 s1 s2 s3 s4 s5 s6 s7 s8 s9 s10 s11 s12 s13 s14 s15 s16 s17 s18 s19 s20 s21 s22 s23 s24 s25 s26 s27 s28 s29 s30 s31 s32 s33 s34 s35 s36 s37 s38 s39 s40 s41 s42 s43 s44 s45 s46 s47 s48 s49 s50 s51 s52 s53 s54 s55 s56 s57 s58 s59 s60 s61 s62 s63 s64 s65 s66 : AV) : xAY xJY [s0,s1,s2,s3,s4,s5,s6,s7,s8,s9,s10,s11,s12,s13,s14,s15,s16,s17,s18,s19,s20,s21,s22,s23,s24,s25,s26,s27,s28,s29,s30,s31,s32,s33,s34,s35,s36,s37,s38,s39,s40,s41,s42,s43,s44,s45,s46,s47,s48,s49,s50,s51,s52,s53,s54,s55,s56,s57,s58,s59,s60,s61,s62,s63,s64,s65,s66] = xJZ s0 s3 s4 s5 := by kernel_rfl
theorem xUo {prog : Nat → Option AFunc} (s0 s3 s4 s5 : AV) (H : Heap) : (lim prog).loop xJY xUn ⟨xJZ s0 s3 s4 s5,H⟩ = xBt (lim prog) xJY xUn (run (lim prog) xNs ⟨xJZ s0 s3 s4 s5,H⟩) := xAE _ _ _ _ (by kernel_rfl)
def a83 : AFunc := ⟨67,
 .seq (.region [⟨some 2,.mov (.c (.sl true 0 [])),none⟩])
 (.seq (.region [⟨some 7,.mov (.t 0),none⟩,
 ⟨some 8,.len (.t 7),none⟩,
 ⟨some 9,.bin .add (.t 8) (.c (.int .i64 1)),none⟩,
 ⟨some 10,.mkslice false [.int .i64 0] 8 (.t 9) (.t 9),none⟩,
 ⟨some 3,.mov (.t 10),none⟩])
 (.seq (.region [⟨some 4,.mov (.c (.int .i64 0)),none⟩])
 (.seq (.seq (.region [⟨some 5,.mov (.c (.int .i64 1)),none⟩])
 (.block 0 (.loop xJY xUn)))
 (.seq (.seq (.region [⟨some 50,.mov (.t 0),none⟩,
 ⟨some 51,.len (.t 50),none⟩,
 ⟨some 52,.mov (.t 3),none⟩,
 ⟨some 53,.mov (.t 0),none⟩,
 ⟨some 54,.len (.t 53),none⟩,
 ⟨some 55,.iaddr 1 (.t 52) (.t 54),none⟩,
 ⟨some 56,.load false 1 (.t 55),none⟩,
 ⟨some 57,.bin .sub (.t 51) (.t 56),none⟩,
 ⟨some 6,.mov (.t 57),none⟩])
 (.seq (.region [⟨some 58,.mov (.t 0),none⟩,
 ⟨some 59,.len (.t 58),none⟩,
 ⟨some 60,.mov (.t 6),none⟩,
 ⟨some 61,.bin .rem (.t 59) (.t 60),none⟩,
 ⟨some 62,.bin .eql (.t 61) (.c (.int .i64 0)),none⟩])
 (.cond (.t 62)
 (.seq (.region [⟨some 63,.mov (.t 0),none⟩,
 ⟨some 64,.mov (.t 6),none⟩,
 ⟨some 65,.slice 1 (.t 63) none (some (.t 64)) none,none⟩,
 ⟨some 2,.mov (.t 65),none⟩])
 (.ret))
 (.skip))))
 (.seq (.region [⟨some 66,.mov (.t 0),none⟩,
 ⟨some 2,.mov (.t 66),none⟩])
 (.ret)))))),
 [.tmp 2]⟩
def a84 : AFunc := ⟨5,
 .seq (.region [⟨some 2,.mov (.c (.sl true 0 [])),none⟩])
 (.seq (.region [⟨some 3,.mov (.t 0),none⟩,
 ⟨some 4,.append false 1 8 (.c (.sl true 0 [])) (.t 3),none⟩,
 ⟨some 2,.mov (.t 4),none⟩])
 (.ret)),
 [.tmp 2]⟩
def xJ0 : ACode :=
 .seq (.region [⟨some 9,.bin .lss (.t 8) (.t 7),none⟩])
 (.seq (.cond (.t 9)
 (.skip)
 (.exit 0))
 (.seq (.block 1 (.seq (.region [⟨some 10,.mov (.t 8),none⟩,
 ⟨some 5,.mov (.t 10),none⟩])
 (.seq (.region [⟨some 11,.mov (.t 1),none⟩,
 ⟨some 12,.mov (.t 0),none⟩,
 ⟨some 13,.mov (.t 5),none⟩,
 ⟨some 14,.iaddr 1 (.t 12) (.t 13),none⟩,
 ⟨some 15,.load false 1 (.t 14),none⟩,
 ⟨some 16,.icall (.t 11) [(.t 15)],none⟩])
 (.cond (.t 16)
 (.seq (.region [⟨some 17,.mov (.t 5),none⟩,
 ⟨some 4,.mov (.t 17),none⟩])
 (.ret))
 (.skip)))))
 (.region [⟨some 18,.bin .add (.t 8) (.c (.int .i64 1)),none⟩,
 ⟨some 8,.mov (.t 18),none⟩])))
def xXB : ACode := xJ0
def xNu : List Nat := [2,3,5,6,9,10,11,12,13,14,15,16,17,18]
abbrev xJ1 (s0 s1 s4 s7 s8 : AV) : List AV := [s0,s1,.any,.any,s4,.any,.any,s7,s8,.any,.any,.any,.any,.any,.any,.any,.any,.any,.any]
theorem xJ2 (s0 s1 s2 s3 s4 s5 s6 s7 s8 s9 s10 s11 s12 s13 s14 s15 s16 s17 s18 : AV) : xAY xNu [s0,s1,s2,s3,s4,s5,s6,s7,s8,s9,s10,s11,s12,s13,s14,s15,s16,s17,s18] = xJ1 s0 s1 s4 s7 s8 := by kernel_rfl
theorem xUp {prog : Nat → Option AFunc} (s0 s1 s4 s7 s8 : AV) (H : Heap) : (lim prog).loop xNu xXB ⟨xJ1 s0 s1 s4 s7 s8,H⟩ = xBt (lim prog) xNu xXB (run (lim prog) xJ0 ⟨xJ1 s0 s1 s4 s7 s8,H⟩) := xAE _ _ _ _ (by kernel_rfl)
def a85 : AFunc := ⟨19,
 .seq (.region [⟨some 4,.mov (.c (.int .i64 0)),none⟩])
 (.seq (.seq (.region [⟨some 6,.mov (.t 0),none⟩,
 ⟨some 7,.len (.t 6),none⟩,
 ⟨some 8,.mov (.c (.int .i64 0)),none⟩])
 (.block 0 (.loop xNu xXB)))
 (.seq (.region [⟨some 4,.mov (.c (.int .i64 (-1))),none⟩])
 (.ret))),
 [.tmp 4]⟩
def a86 : AFunc := ⟨10,
 .seq (.region [⟨some 1,.box (.t 0),none⟩,
 ⟨some 2,.box (.c (.agg [.sl true 0 [],.sl true 0 []])),none⟩])
 (.seq (.seq (.region [⟨some 3,.faddr 1 (.t 1),none⟩,
 ⟨some 4,.load false 1 (.t 3),none⟩,
 ⟨some 5,.len (.t 4),none⟩,
 ⟨some 6,.bin .eql (.t 5) (.c (.int .i64 0)),none⟩])
 (.cond (.t 6)
 (.region [⟨some 7,.bslice true [.int .u8 0] 1 1 [(0,(.c (.int .u8 0)))],none⟩,
 ⟨some 8,.faddr 1 (.t 1),none⟩,
 ⟨none,.store 1 (.t 8) (.t 7),none⟩])
 (.skip)))
 (.seq (.region [⟨some 9,.load true 2 (.t 1),none⟩,
 ⟨none,.store 2 (.t 2) (.t 9),none⟩])
 (.ret))),
 [.cell 2 true 2]⟩
def xFm : ACode :=
 .seq (.seq (.region [⟨some 11,.mov (.t 7),none⟩,
 ⟨some 12,.faddr 0 (.t 3),none⟩,
 ⟨some 13,.load false 1 (.t 12),none⟩,
 ⟨some 14,.len (.t 13),none⟩,
 ⟨some 15,.faddr 1 (.t 3),none⟩,
 ⟨some 16,.load false 1 (.t 15),none⟩,
 ⟨some 17,.len (.t 16),none⟩,
 ⟨some 18,.bin .add (.t 14) (.t 17),none⟩,
 ⟨some 19,.bin .lss (.t 11) (.t 18),none⟩,
 ⟨some 20,.mov (.t 19),none⟩,
 ⟨some 21,.mov (.t 7),some (20,false)⟩,
 ⟨some 22,.mov (.t 1),some (20,false)⟩,
 ⟨some 23,.faddr 1 (.t 3),some (20,false)⟩,
 ⟨some 24,.load false 1 (.t 23),some (20,false)⟩,
 ⟨some 25,.len (.t 24),some (20,false)⟩,
 ⟨some 26,.bin .add (.t 22) (.t 25),some (20,false)⟩,
 ⟨some 27,.bin .lss (.t 21) (.t 26),some (20,false)⟩,
 ⟨some 28,.pick (.t 20) (.c (.bool true)) (.t 27),none⟩])
 (.cond (.t 28)
 (.skip)
 (.exit 0)))
 (.seq (.block 1 (.seq (.draw 7 [⟨some 31,.load true 2 (.t 3),none⟩,
 ⟨some 32,.mov (.t 7),none⟩,
 ⟨some 33,.call 58 [(.t 31),(.t 32)],none⟩,
 ⟨some 34,.load true 2 (.t 3),none⟩,
 ⟨some 35,.mov (.t 7),none⟩,
 ⟨some 36,.mov (.t 2),none⟩,
 ⟨some 37,.bin .add (.t 35) (.t 36),none⟩,
 ⟨some 38,.call 58 [(.t 34),(.t 37)],none⟩,
 ⟨some 39,.bin .neq (.t 33) (.t 38),none⟩])
 (.cond (.t 39)
 (.seq (.region [⟨some 6,.mov (.c (.bool false)),none⟩])
 (.ret))
 (.skip))))
 (.region [⟨some 29,.mov (.t 7),none⟩,
 ⟨some 30,.bin .add (.t 29) (.c (.int .i64 1)),none⟩,
 ⟨some 7,.mov (.t 30),none⟩]))
def xUq : ACode := xFm
def xJ3 : List Nat := [0,4,5,8,9,10,11,12,13,14,15,16,17,18,19,20,21,22,23,24,25,26,27,28,29,30,31,32,33,34,35,36,37,38,39]
abbrev xHP (s1 s2 s3 s6 s7 : AV) : List AV := [.any,s1,s2,s3,.any,.any,s6,s7,.any,.any,.any,.any,.any,.any,.any,.any,.any,.any,.any,.any,.any,.any,.any,.any,.any,.any,.any,.any,.any,.any,.any,.any,.any,.any,.any,.any,.any,.any,.any,.any]
theorem xFn (s0 s1 s2 s3 s4 s5 s6 s7 s8 s9 s10 s11 s12 s13 s14 s15 s16 s17 s18 s19 s20 s21 s22 s23 s24 s25 s26 s27 s28 s29 s30 s31 s32 s33 s34 s35 s36 s37 s38 s39 : AV) : xAY xJ3 [s0,s1,s2,s3,s4,s5,s6,s7,s8,s9,s10,s11,s12,s13,s14,s15,s16,s17,s18,s19,s20,s21,s22,s23,s24,s25,s26,s27,s28,s29,s30,s31,s32,s33,s34,s35,s36,s37,s38,s39] = xHP s1 s2 s3 s6 s7 := by kernel_rfl
theorem xQx {prog : Nat → Option AFunc} (s1 s2 s3 s6 s7 : AV) (H : Heap) : (lim prog).loop xJ3 xUq ⟨xHP s1 s2 s3 s6 s7,H⟩ = xBt (lim prog) xJ3 xUq (run (lim prog) xFm ⟨xHP s1 s2 s3 s6 s7,H⟩) := xAE _ _ _ _ (by kernel_rfl)
def a87 : AFunc := ⟨40,
 .seq (.region [⟨some 3,.box (.t 0),none⟩,
 ⟨some 6,.mov (.c (.bool false)),none⟩])
 (.seq (.region [⟨some 8,.load true 2 (.t 3),none⟩,
 ⟨some 9,.call 86 [(.t 8)],none⟩,
 ⟨none,.store 2 (.t 3) (.t 9),none⟩])
 (.seq (.seq (.region [⟨some 10,.mov (.t 1),none⟩,
 ⟨some 7,.mov (.t 10),none⟩])
 (.block 0 (.loop xJ3 xUq)))
 (.seq (.region [⟨some 6,.mov (.c (.bool true)),none⟩])
 (.ret)))),
 [.tmp 6]⟩
def xNv : ACode :=
 .seq (.seq (.region [⟨some 9,.mov (.t 8),none⟩,
 ⟨some 10,.mov (.t 1),none⟩,
 ⟨some 11,.mov (.t 2),none⟩,
 ⟨some 12,.bin .add (.t 10) (.t 11),none⟩,
 ⟨some 13,.bin .lss (.t 9) (.t 12),none⟩])
 (.cond (.t 13)
 (.skip)
 (.exit 0)))
 (.seq (.block 1 (.region [⟨some 16,.mov (.t 7),none⟩,
 ⟨some 17,.load true 2 (.t 3),none⟩,
 ⟨some 18,.mov (.t 8),none⟩,
 ⟨some 19,.call 58 [(.t 17),(.t 18)],none⟩,
 ⟨some 20,.bslice true [.int .u8 0] 1 1 [(0,(.t 19))],none⟩,
 ⟨some 21,.append false 1 1 (.t 16) (.t 20),none⟩,
 ⟨some 7,.mov (.t 21),none⟩]))
 (.region [⟨some 14,.mov (.t 8),none⟩,
 ⟨some 15,.bin .add (.t 14) (.c (.int .i64 1)),none⟩,
 ⟨some 8,.mov (.t 15),none⟩]))
def xXC : ACode := xNv
def xNw : List Nat := [0,4,5,9,10,11,12,13,14,15,16,17,18,19,20,21,22,23,24,25,26,27,28,29,30]
abbrev xNx (s1 s2 s3 s6 s7 s8 : AV) : List AV := [.any,s1,s2,s3,.any,.any,s6,s7,s8,.any,.any,.any,.any,.any,.any,.any,.any,.any,.any,.any,.any,.any,.any,.any,.any,.any,.any,.any,.any,.any,.any]
theorem xQy (s0 s1 s2 s3 s4 s5 s6 s7 s8 s9 s10 s11 s12 s13 s14 s15 s16 s17 s18 s19 s20 s21 s22 s23 s24 s25 s26 s27 s28 s29 s30 : AV) : xAY xNw [s0,s1,s2,s3,s4,s5,s6,s7,s8,s9,s10,s11,s12,s13,s14,s15,s16,s17,s18,s19,s20,s21,s22,s23,s24,s25,s26,s27,s28,s29,s30] = xNx s1 s2 s3 s6 s7 s8 := by kernel_rfl
theorem xUr {prog : Nat → Option AFunc} (s1 s2 s3 s6 s7 s8 : AV) (H : Heap) : (lim prog).loop xNw xXC ⟨xNx s1 s2 s3 s6 s7 s8,H⟩ = xBt (lim prog) xNw xXC (run (lim prog) xNv ⟨xNx s1 s2 s3 s6 s7 s8,H⟩) := xAE _ _ _ _ (by kernel_rfl)
def a88 : AFunc := ⟨31,
 .seq (.region [⟨some 3,.box (.t 0),none⟩,
 ⟨some 6,.box (.c (.agg [.sl true 0 [],.sl true 0 []])),none⟩])
 (.seq (.region [⟨some 7,.mov (.c (.sl true 0 [])),none⟩])
 (.seq (.seq (.region [⟨some 8,.mov (.c (.int .i64 0)),none⟩])
 (.block 0 (.loop xNw xXC)))
 (.seq (.draw 7 [⟨some 22,.mov (.t 7),none⟩,
 ⟨some 23,.mov (.t 1),none⟩,
 ⟨some 24,.slice 1 (.t 22) none (some (.t 23)) none,none⟩,
 ⟨some 25,.append true 1 1 (.c (.sl true 0 [])) (.t 24),none⟩,
 ⟨some 26,.mov (.t 7),none⟩,
 ⟨some 27,.mov (.t 1),none⟩,
 ⟨some 28,.slice 1 (.t 26) (some (.t 27)) none none,none⟩,
 ⟨some 29,.append false 1 1 (.c (.sl true 0 [])) (.t 28),none⟩,
 ⟨some 30,.build [.sl true 0 [],.sl true 0 []] [(0,1,(.t 25)),(1,1,(.t 29))],none⟩,
 ⟨none,.store 2 (.t 6) (.t 30),none⟩])
 (.ret)))),
 [.cell 6 true 2]⟩
def a89 : AFunc := ⟨28,
 .seq (.region [⟨some 2,.box (.t 0),none⟩,
 ⟨some 4,.mov (.c (.int .i64 0)),none⟩])
 (.seq (.region [⟨some 5,.load true 2 (.t 2),none⟩,
 ⟨some 6,.call 86 [(.t 5)],none⟩,
 ⟨none,.store 2 (.t 2) (.t 6),none⟩])
 (.seq (.seq (.region [⟨some 7,.mov (.t 1),none⟩,
 ⟨some 8,.bin .lss (.t 7) (.c (.int .i64 0)),none⟩])
 (.cond (.t 8)
 (.seq (.region [⟨some 4,.mov (.c (.int .i64 0)),none⟩])
 (.ret))
 (.skip)))
 (.seq (.seq (.region [⟨some 9,.mov (.t 1),none⟩,
 ⟨some 10,.faddr 0 (.t 2),none⟩,
 ⟨some 11,.load false 1 (.t 10),none⟩,
 ⟨some 12,.len (.t 11),none⟩,
 ⟨some 13,.bin .lss (.t 9) (.t 12),none⟩])
 (.cond (.t 13)
 (.seq (.region [⟨some 14,.mov (.t 1),none⟩,
 ⟨some 4,.mov (.t 14),none⟩])
 (.ret))
 (.skip)))
 (.seq (.draw 8 [⟨some 15,.faddr 0 (.t 2),none⟩,
 ⟨some 16,.load false 1 (.t 15),none⟩,
 ⟨some 17,.len (.t 16),none⟩,
 ⟨some 18,.mov (.t 1),none⟩,
 ⟨some 19,.faddr 0 (.t 2),none⟩,
 ⟨some 20,.load false 1 (.t 19),none⟩,
 ⟨some 21,.len (.t 20),none⟩,
 ⟨some 22,.bin .sub (.t 18) (.t 21),none⟩,
 ⟨some 23,.faddr 1 (.t 2),none⟩,
 ⟨some 24,.load false 1 (.t 23),none⟩,
 ⟨some 25,.len (.t 24),none⟩,
 ⟨some 26,.bin .rem (.t 22) (.t 25),none⟩,
 ⟨some 27,.bin .add (.t 17) (.t 26),none⟩,
 ⟨some 4,.mov (.t 27),none⟩])
 (.ret))))),
 [.tmp 4]⟩
def a90 : AFunc := ⟨9,
 .seq (.region [⟨some 4,.mov (.c (.bool false)),none⟩])
 (.seq (.region [⟨some 5,.mov (.t 0),none⟩,
 ⟨some 6,.mov (.t 1),none⟩,
 ⟨some 7,.icall (.c (.func 99 [])) [(.t 5),(.t 6)],none⟩,
 ⟨some 8,.bin .geq (.t 7) (.c (.int .i64 0)),none⟩,
 ⟨some 4,.mov (.t 8),none⟩])
 (.ret)),
 [.tmp 4]⟩
def a91 : AFunc := ⟨11,
 .seq (.region [⟨some 3,.mov (.c (.bool false)),none⟩])
 (.seq (.region [⟨some 4,.mov (.t 0),none⟩,
 ⟨some 5,.bin .lss (.t 4) (.c (.int .i64 0)),none⟩,
 ⟨some 6,.mov (.t 5),none⟩,
 ⟨some 7,.mov (.t 0),some (6,false)⟩,
 ⟨some 8,.load false 1 (.t 1),some (6,false)⟩,
 ⟨some 9,.bin .geq (.t 7) (.t 8),some (6,false)⟩,
 ⟨some 10,.pick (.t 6) (.c (.bool true)) (.t 9),none⟩,
 ⟨some 3,.mov (.t 10),none⟩])
 (.ret)),
 [.tmp 3]⟩
def a92 : AFunc := ⟨54,
 .seq (.region [⟨some 3,.box (.t 1),none⟩,
 ⟨some 4,.mov (.c (.int .i64 0)),none⟩,
 ⟨some 5,.mov (.c (.bool false)),none⟩])
 (.seq (.seq (.region [⟨some 8,.mov (.t 0),none⟩,
 ⟨some 9,.nilchk (.t 8),none⟩,
 ⟨some 10,.faddr 0 (.t 9),none⟩,
 ⟨some 11,.load false 1 (.t 10),none⟩,
 ⟨some 12,.mnil false (.t 11),none⟩])
 (.cond (.t 12)
 (.region [⟨some 13,.mov (.t 0),none⟩,
 ⟨some 14,.mkmap,none⟩,
 ⟨some 15,.nilchk (.t 13),none⟩,
 ⟨some 16,.faddr 0 (.t 15),none⟩,
 ⟨none,.store 1 (.t 16) (.t 14),none⟩])
 (.skip)))
 (.seq (.draw 9 [⟨some 18,.mov (.t 0),none⟩,
 ⟨some 19,.nilchk (.t 18),none⟩,
 ⟨some 20,.faddr 0 (.t 19),none⟩,
 ⟨some 21,.load false 1 (.t 20),none⟩,
 ⟨some 22,.load true 2 (.t 3),none⟩,
 ⟨some 23,.mlook [2,1,1] true (.int .i64 0) (.t 21) (.t 22),none⟩,
 ⟨some 17,.mov (.t 23),none⟩,
 ⟨some 24,.ext 0 (.t 17),none⟩,
 ⟨some 25,.ext 1 (.t 17),none⟩,
 ⟨some 6,.mov (.t 24),none⟩,
 ⟨some 7,.mov (.t 25),none⟩])
 (.seq (.seq (.region [⟨some 26,.mov (.t 7),none⟩,
 ⟨some 27,.un .not (.t 26),none⟩])
 (.cond (.t 27)
 (.seq (.region [⟨some 28,.mov (.t 0),none⟩,
 ⟨some 29,.nilchk (.t 28),none⟩,
 ⟨some 30,.faddr 1 (.t 29),none⟩,
 ⟨some 31,.load false 1 (.t 30),none⟩,
 ⟨some 32,.len (.t 31),none⟩,
 ⟨some 6,.mov (.t 32),none⟩])
 (.drawl [(35,(1,(43,0))),(3,(2,(43,0)))] 11 [⟨some 33,.mov (.t 0),none⟩,
 ⟨some 34,.nilchk (.t 33),none⟩,
 ⟨some 35,.faddr 0 (.t 34),none⟩,
 ⟨some 36,.load false 1 (.t 35),none⟩,
 ⟨some 37,.load true 2 (.t 3),none⟩,
 ⟨some 38,.mov (.t 0),none⟩,
 ⟨some 39,.mov (.t 6),none⟩,
 ⟨some 40,.mov (.t 0),none⟩,
 ⟨some 41,.nilchk (.t 40),none⟩,
 ⟨some 42,.faddr 1 (.t 41),none⟩,
 ⟨some 43,.load false 1 (.t 42),none⟩,
 ⟨some 44,.load true 2 (.t 3),none⟩,
 ⟨some 45,.bslice true [.str ⟨#[]⟩,.str ⟨#[]⟩] 2 1 [(0,(.t 44))],none⟩,
 ⟨some 46,.append false 2 32 (.t 43) (.t 45),none⟩,
 ⟨some 47,.ment [2,1,1] (.int .i64 0) (.t 36) (.t 37),none⟩,
 ⟨some 48,.ext 1 (.t 47),none⟩,
 ⟨none,.mstore (.t 36) (.t 48) (.t 39),none⟩,
 ⟨some 49,.nilchk (.t 38),none⟩,
 ⟨some 50,.faddr 1 (.t 49),none⟩,
 ⟨none,.store 1 (.t 50) (.t 46),none⟩]))
 (.skip)))
 (.seq (.region [⟨some 51,.mov (.t 6),none⟩,
 ⟨some 52,.mov (.t 7),none⟩,
 ⟨some 53,.un .not (.t 52),none⟩,
 ⟨some 4,.mov (.t 51),none⟩,
 ⟨some 5,.mov (.t 53),none⟩])
 (.ret))))),
 [.tmp 4,.tmp 5]⟩
def yBW : ACode :=
 .seq (.seq (.region [⟨some 4,.mov (.t 3),none⟩,
 ⟨some 5,.load false 1 (.t 1),none⟩,
 ⟨some 6,.nilchk (.t 5),none⟩,
 ⟨some 7,.faddr 1 (.t 6),none⟩,
 ⟨some 8,.load false 1 (.t 7),none⟩,
 ⟨some 9,.len (.t 8),none⟩,
 ⟨some 10,.bin .lss (.t 4) (.t 9),none⟩])
 (.cond (.t 10)
 (.skip)
 (.exit 0)))
 (.seq (.block 1 (.seq (.region [⟨some 13,.mov (.t 0),none⟩,
 ⟨some 14,.mov (.t 3),none⟩,
 ⟨some 15,.load false 1 (.t 1),none⟩,
 ⟨some 16,.nilchk (.t 15),none⟩,
 ⟨some 17,.faddr 1 (.t 16),none⟩,
 ⟨some 18,.load false 1 (.t 17),none⟩,
 ⟨some 19,.mov (.t 3),none⟩,
 ⟨some 20,.iaddr 1 (.t 18) (.t 19),none⟩,
 ⟨some 21,.load false 1 (.t 20),none⟩,
 ⟨some 22,.icall (.t 13) [(.t 14),(.t 21)],none⟩,
 ⟨some 23,.un .not (.t 22),none⟩])
 (.cond (.t 23)
 (.ret)
 (.skip))))
 (.region [⟨some 11,.mov (.t 3),none⟩,
 ⟨some 12,.bin .add (.t 11) (.c (.int .i64 1)),none⟩,
 ⟨some 3,.mov (.t 12),none⟩]))
def yDk : ACode := yBW
def yBX : List Nat := [2,4,5,6,7,8,9,10,11,12,13,14,15,16,17,18,19,20,21,22,23]
def a94 : AFunc := ⟨24,
 .seq (.region [⟨some 3,.mov (.c (.int .i64 0)),none⟩])
 (.block 0 (.loop yBX yDk)),
 []⟩
def yBY : ACode :=
 .seq (.seq (.region [⟨some 4,.mov (.t 3),none⟩,
 ⟨some 5,.load false 1 (.t 1),none⟩,
 ⟨some 6,.nilchk (.t 5),none⟩,
 ⟨some 7,.faddr 1 (.t 6),none⟩,
 ⟨some 8,.load false 1 (.t 7),none⟩,
 ⟨some 9,.len (.t 8),none⟩,
 ⟨some 10,.bin .lss (.t 4) (.t 9),none⟩])
 (.cond (.t 10)
 (.skip)
 (.exit 0)))
 (.seq (.block 1 (.seq (.region [⟨some 13,.mov (.t 0),none⟩,
 ⟨some 14,.mov (.t 3),none⟩,
 ⟨some 15,.load false 1 (.t 1),none⟩,
 ⟨some 16,.nilchk (.t 15),none⟩,
 ⟨some 17,.faddr 1 (.t 16),none⟩,
 ⟨some 18,.load false 1 (.t 17),none⟩,
 ⟨some 19,.mov (.t 3),none⟩,
 ⟨some 20,.iaddr 2 (.t 18) (.t 19),none⟩,
 ⟨some 21,.load true 2 (.t 20),none⟩,
 ⟨some 22,.icall (.t 13) [(.t 14),(.t 21)],none⟩,
 ⟨some 23,.un .not (.t 22),none⟩])
 (.cond (.t 23)
 (.ret)
 (.skip))))
 (.region [⟨some 11,.mov (.t 3),none⟩,
 ⟨some 12,.bin .add (.t 11) (.c (.int .i64 1)),none⟩,
 ⟨some 3,.mov (.t 12),none⟩]))
def yDl : ACode := yBY
def yBZ : List Nat := [2,4,5,6,7,8,9,10,11,12,13,14,15,16,17,18,19,20,21,22,23]
def a95 : AFunc := ⟨24,
 .seq (.region [⟨some 3,.mov (.c (.int .i64 0)),none⟩])
 (.block 0 (.loop yBZ yDl)),
 []⟩
def a96 : AFunc := ⟨27,
 .seq (.region [⟨some 4,.mov (.c (.sl true 0 [])),none⟩])
 (.seq (.seq (.region [⟨some 5,.mov (.t 1),none⟩,
 ⟨some 6,.bin .lss (.t 5) (.c (.int .i64 0)),none⟩])
 (.cond (.t 6)
 (.stuck)
 (.skip)))
 (.seq (.seq (.region [⟨some 8,.mov (.t 1),none⟩,
 ⟨some 9,.mov (.t 0),none⟩,
 ⟨some 10,.cap (.t 9),none⟩,
 ⟨some 11,.mov (.t 0),none⟩,
 ⟨some 12,.len (.t 11),none⟩,
 ⟨some 13,.bin .sub (.t 10) (.t 12),none⟩,
 ⟨some 14,.bin .sub (.t 8) (.t 13),none⟩,
 ⟨some 1,.mov (.t 14),none⟩])
 (.seq (.region [⟨some 15,.mov (.t 1),none⟩,
 ⟨some 16,.bin .gtr (.t 15) (.c (.int .i64 0)),none⟩])
 (.cond (.t 16)
 (.region [⟨some 17,.mov (.t 0),none⟩,
 ⟨some 18,.mov (.t 0),none⟩,
 ⟨some 19,.cap (.t 18),none⟩,
 ⟨some 20,.slice 1 (.t 17) none (some (.t 19)) none,none⟩,
 ⟨some 21,.mov (.t 1),none⟩,
 ⟨some 22,.appendz [.int .u8 0] 1 (.t 20) (.t 21),none⟩,
 ⟨some 23,.mov (.t 0),none⟩,
 ⟨some 24,.len (.t 23),none⟩,
 ⟨some 25,.slice 1 (.t 22) none (some (.t 24)) none,none⟩,
 ⟨some 0,.mov (.t 25),none⟩])
 (.skip))))
 (.seq (.region [⟨some 26,.mov (.t 0),none⟩,
 ⟨some 4,.mov (.t 26),none⟩])
 (.ret)))),
 [.tmp 4]⟩
def xJ4 : ACode :=
 .seq (.region [⟨some 9,.bin .lss (.t 8) (.t 7),none⟩])
 (.seq (.cond (.t 9)
 (.skip)
 (.exit 0))
 (.seq (.block 1 (.seq (.region [⟨some 10,.mov (.t 8),none⟩,
 ⟨some 5,.mov (.t 10),none⟩])
 (.seq (.region [⟨some 11,.mov (.t 1),none⟩,
 ⟨some 12,.mov (.t 0),none⟩,
 ⟨some 13,.mov (.t 5),none⟩,
 ⟨some 14,.iaddr 1 (.t 12) (.t 13),none⟩,
 ⟨some 15,.load false 1 (.t 14),none⟩,
 ⟨some 16,.icall (.t 11) [(.t 15)],none⟩])
 (.cond (.t 16)
 (.seq (.region [⟨some 17,.mov (.t 5),none⟩,
 ⟨some 4,.mov (.t 17),none⟩])
 (.ret))
 (.skip)))))
 (.region [⟨some 18,.bin .add (.t 8) (.c (.int .i64 1)),none⟩,
 ⟨some 8,.mov (.t 18),none⟩])))
def xXD : ACode := xJ4
def xNy : List Nat := [2,3,5,6,9,10,11,12,13,14,15,16,17,18]
abbrev xJ5 (s0 s1 s4 s7 s8 : AV) : List AV := [s0,s1,.any,.any,s4,.any,.any,s7,s8,.any,.any,.any,.any,.any,.any,.any,.any,.any,.any]
theorem xJ6 (s0 s1 s2 s3 s4 s5 s6 s7 s8 s9 s10 s11 s12 s13 s14 s15 s16 s17 s18 : AV) : xAY xNy [s0,s1,s2,s3,s4,s5,s6,s7,s8,s9,s10,s11,s12,s13,s14,s15,s16,s17,s18] = xJ5 s0 s1 s4 s7 s8 := by kernel_rfl
theorem xUs {prog : Nat → Option AFunc} (s0 s1 s4 s7 s8 : AV) (H : Heap) : (lim prog).loop xNy xXD ⟨xJ5 s0 s1 s4 s7 s8,H⟩ = xBt (lim prog) xNy xXD (run (lim prog) xJ4 ⟨xJ5 s0 s1 s4 s7 s8,H⟩) := xAE _ _ _ _ (by kernel_rfl)
def a99 : AFunc := ⟨19,
 .seq (.region [⟨some 4,.mov (.c (.int .i64 0)),none⟩])
 (.seq (.seq (.region [⟨some 6,.mov (.t 0),none⟩,
 ⟨some 7,.len (.t 6),none⟩,
 ⟨some 8,.mov (.c (.int .i64 0)),none⟩])
 (.block 0 (.loop xNy xXD)))
 (.seq (.region [⟨some 4,.mov (.c (.int .i64 (-1))),none⟩])
 (.ret))),
 [.tmp 4]⟩
def xAN : Nat → Option AFunc
 | 3 => some a3
 | 11 => some a11
 | 12 => some a12
 | 13 => some a13
 | 14 => some a14
 | 15 => some a15
 | 16 => some a16
 | 17 => some a17
 | 18 => some a18
 | 19 => some a19
 | 20 => some a20
 | 21 => some a21
 | 22 => some a22
 | 23 => some a23
 | 24 => some a24
 | 25 => some a25
 | 26 => some a26
 | 27 => some a27
 | 28 => some a28
 | 29 => some a29
 | 31 => some a31
 | 33 => some a33
 | 35 => some a35
 | 37 => some a37
 | 42 => some a42
 | 43 => some a43
 | 45 => some a45
 | 47 => some a47
 | 49 => some a49
 | 50 => some a50
 | 51 => some a51
 | 52 => some a52
 | 53 => some a53
 | 54 => some a54
 | 55 => some a55
 | 56 => some a56
 | 57 => some a57
 | 58 => some a58
 | 59 => some a59
 | 60 => some a60
 | 61 => some a61
 | 62 => some a62
 | 63 => some a63
 | 64 => some a64
 | 65 => some a65
 | 66 => some a66
 | 67 => some a67
 | 68 => some a68
 | 69 => some a69
 | 70 => some a70
 | 71 => some a71
 | 72 => some a72
 | 74 => some a74
 | 75 => some a75
 | 76 => some a76
 | 77 => some a77
 | 80 => some a80
 | 83 => some a83
 | 84 => some a84
 | 85 => some a85
 | 86 => some a86
 | 87 => some a87
 | 88 => some a88
 | 89 => some a89
 | 90 => some a90
 | 91 => some a91
 | 92 => some a92
 | 94 => some a94
 | 95 => some a95
 | 96 => some a96
 | 99 => some a99
 | _ => none
theorem a3p (args : List AV) : (lim xAN).pcall 3 args = xA5 (lim xAN) a3 args := xAD rfl args
theorem yEA (args : List AV) : (lim xAN).pcall 11 args = xA5 (lim xAN) a11 args := xAD rfl args
theorem yEB (args : List AV) : (lim xAN).pcall 12 args = xA5 (lim xAN) a12 args := xAD rfl args
theorem yEC (args : List AV) : (lim xAN).pcall 14 args = xA5 (lim xAN) a14 args := xAD rfl args
theorem yED (args : List AV) : (lim xAN).pcall 15 args = xA5 (lim xAN) a15 args := xAD rfl args
theorem yB0 (args : List AV) : (lim xAN).pcall 16 args = xA5 (lim xAN) a16 args := xAD rfl args
theorem yB1 (caps args : List AV) (H : Heap) : (lim xAN).icall (.func 16 caps) args H = xB6 (lim xAN) a16 (args ++ caps) H := xA4 rfl caps args H
theorem yB2 (args : List AV) : (lim xAN).pcall 17 args = xA5 (lim xAN) a17 args := xAD rfl args
theorem yDm (args : List AV) : (lim xAN).pcall 18 args = xA5 (lim xAN) a18 args := xAD rfl args
theorem yDn (caps args : List AV) (H : Heap) : (lim xAN).icall (.func 18 caps) args H = xB6 (lim xAN) a18 (args ++ caps) H := xA4 rfl caps args H
theorem yEE (args : List AV) : (lim xAN).pcall 19 args = xA5 (lim xAN) a19 args := xAD rfl args
theorem yDo (args : List AV) : (lim xAN).pcall 20 args = xA5 (lim xAN) a20 args := xAD rfl args
theorem yEd (args : List AV) : (lim xAN).pcall 21 args = xA5 (lim xAN) a21 args := xAD rfl args
theorem yDp (args : List AV) : (lim xAN).pcall 22 args = xA5 (lim xAN) a22 args := xAD rfl args
theorem yEe (args : List AV) : (lim xAN).pcall 23 args = xA5 (lim xAN) a23 args := xAD rfl args
theorem yEf (args : List AV) : (lim xAN).pcall 24 args = xA5 (lim xAN) a24 args := xAD rfl args
theorem yEF (args : List AV) : (lim xAN).pcall 25 args = xA5 (lim xAN) a25 args := xAD rfl args
theorem yEg (caps args : List AV) (H : Heap) : (lim xAN).icall (.func 26 caps) args H = xB6 (lim xAN) a26 (args ++ caps) H := xA4 rfl caps args H
theorem yEh (caps args : List AV) (H : Heap) : (lim xAN).icall (.func 27 caps) args H = xB6 (lim xAN) a27 (args ++ caps) H := xA4 rfl caps args H
theorem yEi (caps args : List AV) (H : Heap) : (lim xAN).icall (.func 28 caps) args H = xB6 (lim xAN) a28 (args ++ caps) H := xA4 rfl caps args H
theorem yEG (args : List AV) : (lim xAN).pcall 29 args = xA5 (lim xAN) a29 args := xAD rfl args
theorem yEH (args : List AV) : (lim xAN).pcall 45 args = xA5 (lim xAN) a45 args := xAD rfl args
theorem yEI (args : List AV) : (lim xAN).pcall 47 args = xA5 (lim xAN) a47 args := xAD rfl args
theorem yEJ (args : List AV) : (lim xAN).pcall 49 args = xA5 (lim xAN) a49 args := xAD rfl args
theorem yEK (caps args : List AV) (H : Heap) : (lim xAN).icall (.func 49 caps) args H = xB6 (lim xAN) a49 (args ++ caps) H := xA4 rfl caps args H
theorem yEL (args : List AV) : (lim xAN).pcall 50 args = xA5 (lim xAN) a50 args := xAD rfl args
theorem yEM (args : List AV) : (lim xAN).pcall 51 args = xA5 (lim xAN) a51 args := xAD rfl args
theorem yEN (caps args : List AV) (H : Heap) : (lim xAN).icall (.func 52 caps) args H = xB6 (lim xAN) a52 (args ++ caps) H := xA4 rfl caps args H
theorem yEO (caps args : List AV) (H : Heap) : (lim xAN).icall (.func 53 caps) args H = xB6 (lim xAN) a53 (args ++ caps) H := xA4 rfl caps args H
theorem yDq (caps args : List AV) (H : Heap) : (lim xAN).icall (.func 54 caps) args H = xB6 (lim xAN) a54 (args ++ caps) H := xA4 rfl caps args H
theorem yEP (args : List AV) : (lim xAN).pcall 55 args = xA5 (lim xAN) a55 args := xAD rfl args
theorem yEQ (args : List AV) : (lim xAN).pcall 56 args = xA5 (lim xAN) a56 args := xAD rfl args
theorem yER (args : List AV) : (lim xAN).pcall 57 args = xA5 (lim xAN) a57 args := xAD rfl args
theorem yES (args : List AV) : (lim xAN).pcall 58 args = xA5 (lim xAN) a58 args := xAD rfl args
theorem yET (args : List AV) : (lim xAN).pcall 59 args = xA5 (lim xAN) a59 args := xAD rfl args
theorem yEU (args : List AV) : (lim xAN).pcall 60 args = xA5 (lim xAN) a60 args := xAD rfl args
theorem yEV (args : List AV) : (lim xAN).pcall 61 args = xA5 (lim xAN) a61 args := xAD rfl args
theorem yEW (args : List AV) : (lim xAN).pcall 62 args = xA5 (lim xAN) a62 args := xAD rfl args
theorem yEX (args : List AV) : (lim xAN).pcall 63 args = xA5 (lim xAN) a63 args := xAD rfl args
theorem yEY (args : List AV) : (lim xAN).pcall 64 args = xA5 (lim xAN) a64 args := xAD rfl args
theorem yEZ (args : List AV) : (lim xAN).pcall 65 args = xA5 (lim xAN) a65 args := xAD rfl args
theorem yEj (args : List AV) : (lim xAN).pcall 66 args = xA5 (lim xAN) a66 args := xAD rfl args
theorem yEk (args : List AV) : (lim xAN).pcall 67 args = xA5 (lim xAN) a67 args := xAD rfl args
theorem yEl (caps args : List AV) (H : Heap) : (lim xAN).icall (.func 72 caps) args H = xB6 (lim xAN) a72 (args ++ caps) H := xA4 rfl caps args H
theorem yE0 (caps args : List AV) (H : Heap) : (lim xAN).icall (.func 76 caps) args H = xB6 (lim xAN) a76 (args ++ caps) H := xA4 rfl caps args H
theorem yE1 (args : List AV) : (lim xAN).pcall 77 args = xA5 (lim xAN) a77 args := xAD rfl args
theorem yE2 (caps args : List AV) (H : Heap) : (lim xAN).icall (.func 80 caps) args H = xB6 (lim xAN) a80 (args ++ caps) H := xA4 rfl caps args H
theorem yEm (args : List AV) : (lim xAN).pcall 83 args = xA5 (lim xAN) a83 args := xAD rfl args
theorem yE3 (args : List AV) : (lim xAN).pcall 84 args = xA5 (lim xAN) a84 args := xAD rfl args
theorem yEn (caps args : List AV) (H : Heap) : (lim xAN).icall (.func 85 caps) args H = xB6 (lim xAN) a85 (args ++ caps) H := xA4 rfl caps args H
theorem yE4 (args : List AV) : (lim xAN).pcall 86 args = xA5 (lim xAN) a86 args := xAD rfl args
theorem yEo (args : List AV) : (lim xAN).pcall 87 args = xA5 (lim xAN) a87 args := xAD rfl args
theorem yE5 (args : List AV) : (lim xAN).pcall 88 args = xA5 (lim xAN) a88 args := xAD rfl args
theorem yE6 (args : List AV) : (lim xAN).pcall 89 args = xA5 (lim xAN) a89 args := xAD rfl args
theorem yE7 (caps args : List AV) (H : Heap) : (lim xAN).icall (.func 90 caps) args H = xB6 (lim xAN) a90 (args ++ caps) H := xA4 rfl caps args H
theorem yE8 (caps args : List AV) (H : Heap) : (lim xAN).icall (.func 91 caps) args H = xB6 (lim xAN) a91 (args ++ caps) H := xA4 rfl caps args H
theorem yE9 (caps args : List AV) (H : Heap) : (lim xAN).icall (.func 96 caps) args H = xB6 (lim xAN) a96 (args ++ caps) H := xA4 rfl caps args H
theorem yEp (caps args : List AV) (H : Heap) : (lim xAN).icall (.func 99 caps) args H = xB6 (lim xAN) a99 (args ++ caps) H := xA4 rfl caps args H
end Go.Abs.Mealy
