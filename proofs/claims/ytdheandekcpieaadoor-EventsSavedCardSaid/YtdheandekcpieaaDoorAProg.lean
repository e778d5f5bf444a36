/- The functions in the interpreter's words. -/
import Derived.Test.YtdheandekcpieaaDoorAbsEnc
import Derived.Test.YtdheandekcpieaaDoorProg
namespace Go.Abs.Events
open Go Go.Abs
def xXz : ACode :=
 .seq (.seq (.region [⟨some 54,.mov (.t 12),none⟩,
 ⟨some 55,.mov (.t 7),none⟩,
 ⟨some 56,.len (.t 55),none⟩,
 ⟨some 57,.bin .lss (.t 54) (.t 56),none⟩])
 (.cond (.t 57)
 (.skip)
 (.exit 0)))
 (.seq (.block 1 (.seq (.region [⟨some 61,.mov (.t 9),none⟩,
 ⟨some 62,.mov (.t 7),none⟩,
 ⟨some 63,.mov (.t 12),none⟩,
 ⟨some 64,.iaddr 2 (.t 62) (.t 63),none⟩,
 ⟨some 65,.load true 2 (.t 64),none⟩,
 ⟨some 66,.icall (.c (.func 22 [])) [(.t 61),(.t 65)],none⟩,
 ⟨some 60,.mov (.t 66),none⟩,
 ⟨some 67,.ext 0 (.t 60),none⟩,
 ⟨some 68,.ext 1 (.t 60),none⟩,
 ⟨some 13,.mov (.t 67),none⟩,
 ⟨some 14,.mov (.t 68),none⟩])
 (.seq (.region [⟨some 69,.mov (.t 13),none⟩,
 ⟨some 70,.mov (.t 6),none⟩,
 ⟨some 71,.mov (.t 12),none⟩,
 ⟨some 72,.iaddr 1 (.t 70) (.t 71),none⟩,
 ⟨some 73,.load false 1 (.t 72),none⟩,
 ⟨some 74,.beq true (.t 69) (.t 73),none⟩,
 ⟨some 75,.mov (.t 74),none⟩,
 ⟨some 76,.mov (.t 14),some (75,false)⟩,
 ⟨some 77,.bin .neq (.t 76) (.c (.int .i64 0)),some (75,false)⟩,
 ⟨some 78,.pick (.t 75) (.c (.bool true)) (.t 77),none⟩,
 ⟨some 79,.mov (.t 78),none⟩,
 ⟨some 80,.mov (.t 9),some (79,false)⟩,
 ⟨some 81,.icall (.c (.func 24 [])) [(.t 80)],some (79,false)⟩,
 ⟨some 82,.len (.t 81),some (79,false)⟩,
 ⟨some 83,.mov (.t 11),some (79,false)⟩,
 ⟨some 84,.bin .neq (.t 82) (.t 83),some (79,false)⟩,
 ⟨some 85,.pick (.t 79) (.c (.bool true)) (.t 84),none⟩])
 (.cond (.t 85)
 (.seq (.region [⟨some 4,.mov (.c (.bool false)),none⟩])
 (.ret))
 (.skip)))))
 (.region [⟨some 58,.mov (.t 12),none⟩,
 ⟨some 59,.bin .add (.t 58) (.c (.int .i64 1)),none⟩,
 ⟨some 12,.mov (.t 59),none⟩]))
def yBT : ACode := xXz
def xSZ : List Nat := [0,1,2,3,8,13,14,15,16,17,18,19,20,21,22,23,24,25,26,27,28,29,30,31,32,33,34,35,36,37,38,39,40,41,42,43,44,45,46,47,48,49,50,51,52,53,54,55,56,57,58,59,60,61,62,63,64,65,66,67,68,69,70,71,72,73,74,75,76,77,78,79,80,81,82,83,84,85,86,87,88,89,90,91,92,93,94,95,96,97,98,99,100]
abbrev xVy (s4 s5 s6 s7 s9 s10 s11 s12 : AV) : List AV := [.any,.any,.any,.any,s4,s5,s6,s7,.any,s9,s10,s11,s12,.any,.any,.any,.any,.any,.any,.any,.any,.any,.any,.any,.any,.any,.any,.any,.any,.any,.any,.any,.any,.any,.any,.any,.any,.any,.any,.any,.any,.any,.any,.any,.any,.any,.any,.any,.any,.any,.any,.any,.any,.any,.any,.any,.any,.any,.any,.any,.any,.any,.any,.any,.any,.any,.any,.any,.any,.any,.any,.any,.any,.any,.any,.any,.any,.any,.any,.any,.any,.any,.any,.any,.any,.any,.any,.any,.any,.any,.any,.any,.any,.any,.any,.any,.any,.any,.any,.any,.any]
theorem xZ8 (s0 s1 s2 s3 s4 s5 s6 s7 s8 s9 s10 s11 s12 s13 s14 s15 s16 s17 s18 s19 s20 s21 s22 s23 s24 s25 s26 s27 s28 s29 s30 s31 s32 s33 s34 s35 s36 s37 s38 s39 s40 s41 s42 s43 s44 s45 s46 s47 s48 s49 s50 s51 s52 s53 s54 s55 s56 s57 s58 s59 s60 s61 s62 s63 s64 s65 s66 s67 s68 s69 s70 s71 s72 s73 s74 s75 s76 s77 s78 s79 s80 s81 s82 s83 s84 s85 s86 s87 s88 s89 s90 s91 s92 s93 s94 s95 s96 s97 s98 s99 s100 : AV) : xA5 xSZ [s0,s1,s2,s3,s4,s5,s6,s7,s8,s9,s10,s11,s12,s13,s14,s15,s16,s17,s18,s19,s20,s21,s22,s23,s24,s25,s26,s27,s28,s29,s30,s31,s32,s33,s34,s35,s36,s37,s38,s39,s40,s41,s42,s43,s44,s45,s46,s47,s48,s49,s50,s51,s52,s53,s54,s55,s56,s57,s58,s59,s60,s61,s62,s63,s64,s65,s66,s67,s68,s69,s70,s71,s72,s73,s74,s75,s76,s77,s78,s79,s80,s81,s82,s83,s84,s85,s86,s87,s88,s89,s90,s91,s92,s93,s94,s95,s96,s97,s98,s99,s100] = xVy s4 s5 s6 s7 s9 s10 s11 s12 := by kernel_rfl
theorem yBU {prog : Nat → Option AFunc} (s4 s5 s6 s7 s9 s10 s11 s12 : AV) (H : Heap) : (lim prog).loop xSZ yBT ⟨xVy s4 s5 s6 s7 s9 s10 s11 s12,H⟩ = xB5 (lim prog) xSZ yBT (run (lim prog) xXz ⟨xVy s4 s5 s6 s7 s9 s10 s11 s12,H⟩) := xAw _ _ _ _ (by kernel_rfl)
def a6 : AFunc := ⟨101,
 .seq (.region [⟨some 4,.mov (.c (.bool false)),none⟩])
 (.seq (.seq (.region [⟨some 15,.call 17 [],none⟩,
 ⟨some 16,.un .not (.t 15),none⟩])
 (.cond (.t 16)
 (.seq (.region [⟨some 4,.mov (.c (.bool false)),none⟩])
 (.ret))
 (.skip)))
 (.seq (.region [⟨some 17,.mov (.t 0),none⟩,
 ⟨some 18,.call 18 [(.t 17)],none⟩,
 ⟨some 5,.mov (.t 18),none⟩])
 (.seq (.region [⟨some 19,.mov (.t 5),none⟩,
 ⟨some 20,.mov (.t 5),none⟩,
 ⟨some 21,.len (.t 20),none⟩,
 ⟨some 22,.mini (.t 21) (.c (.int .i64 40)),none⟩,
 ⟨some 23,.slice 6 (.t 19) none (some (.t 22)) none,none⟩,
 ⟨some 5,.mov (.t 23),none⟩])
 (.seq (.region [⟨some 25,.mov (.t 5),none⟩,
 ⟨some 26,.mov (.t 1),none⟩,
 ⟨some 27,.call 33 [(.t 25),(.t 26),(.c (.int .i64 12))],none⟩,
 ⟨some 24,.mov (.t 27),none⟩,
 ⟨some 28,.ext 0 (.t 24),none⟩,
 ⟨some 29,.ext 1 (.t 24),none⟩,
 ⟨some 30,.ext 2 (.t 24),none⟩,
 ⟨some 6,.mov (.t 28),none⟩,
 ⟨some 7,.mov (.t 29),none⟩,
 ⟨some 8,.mov (.t 30),none⟩])
 (.seq (.region [⟨some 32,.mov (.t 5),none⟩,
 ⟨some 33,.icall (.c (.func 19 [])) [(.t 32)],none⟩,
 ⟨some 31,.mov (.t 33),none⟩,
 ⟨some 34,.ext 0 (.t 31),none⟩,
 ⟨some 35,.ext 1 (.t 31),none⟩,
 ⟨some 9,.mov (.t 34),none⟩,
 ⟨some 10,.mov (.t 35),none⟩])
 (.seq (.seq (.region [⟨some 36,.mov (.t 8),none⟩,
 ⟨some 37,.un .not (.t 36),none⟩])
 (.cond (.t 37)
 (.seq (.region [⟨some 38,.mov (.t 6),none⟩,
 ⟨some 39,.len (.t 38),none⟩,
 ⟨some 40,.bin .eql (.t 39) (.c (.int .i64 0)),none⟩,
 ⟨some 41,.mov (.t 40),none⟩,
 ⟨some 42,.mov (.t 10),some (41,true)⟩,
 ⟨some 43,.bin .neq (.t 42) (.c (.int .i64 0)),some (41,true)⟩,
 ⟨some 44,.pick (.t 41) (.t 43) (.c (.bool false)),none⟩,
 ⟨some 45,.mov (.t 44),none⟩,
 ⟨some 46,.mov (.t 10),some (45,true)⟩,
 ⟨some 47,.mov (.t 5),some (45,true)⟩,
 ⟨some 48,.call 34 [(.t 47)],some (45,true)⟩,
 ⟨some 49,.bin .eql (.t 46) (.t 48),some (45,true)⟩,
 ⟨some 50,.pick (.t 45) (.t 49) (.c (.bool false)),none⟩,
 ⟨some 4,.mov (.t 50),none⟩])
 (.ret))
 (.skip)))
 (.seq (.region [⟨some 51,.mov (.t 9),none⟩,
 ⟨some 52,.icall (.c (.func 24 [])) [(.t 51)],none⟩,
 ⟨some 53,.len (.t 52),none⟩,
 ⟨some 11,.mov (.t 53),none⟩])
 (.seq (.seq (.region [⟨some 12,.mov (.c (.int .i64 0)),none⟩])
 (.block 0 (.loop xSZ yBT)))
 (.seq (.region [⟨some 86,.mov (.t 10),none⟩,
 ⟨some 87,.bin .eql (.t 86) (.c (.int .i64 0)),none⟩,
 ⟨some 88,.mov (.t 87),none⟩,
 ⟨some 89,.mov (.t 11),some (88,true)⟩,
 ⟨some 90,.bin .rem (.t 89) (.c (.int .i64 64)),some (88,true)⟩,
 ⟨some 91,.bin .eql (.t 90) (.c (.int .i64 1)),some (88,true)⟩,
 ⟨some 92,.pick (.t 88) (.t 91) (.c (.bool false)),none⟩,
 ⟨some 93,.mov (.t 92),none⟩,
 ⟨some 94,.mov (.t 11),some (93,true)⟩,
 ⟨some 95,.mov (.t 5),some (93,true)⟩,
 ⟨some 96,.len (.t 95),some (93,true)⟩,
 ⟨some 97,.bin .mul (.c (.int .i64 64)) (.t 96),some (93,true)⟩,
 ⟨some 98,.bin .add (.c (.int .i64 1)) (.t 97),some (93,true)⟩,
 ⟨some 99,.bin .leq (.t 94) (.t 98),some (93,true)⟩,
 ⟨some 100,.pick (.t 93) (.t 99) (.c (.bool false)),none⟩,
 ⟨some 4,.mov (.t 100),none⟩])
 (.ret)))))))))),
 [.tmp 4]⟩
def xXA : ACode :=
 .seq (.seq (.region [⟨some 38,.mov (.t 11),none⟩,
 ⟨some 39,.mov (.t 7),none⟩,
 ⟨some 40,.len (.t 39),none⟩,
 ⟨some 41,.bin .lss (.t 38) (.t 40),none⟩])
 (.cond (.t 41)
 (.skip)
 (.exit 0)))
 (.seq (.block 1 (.seq (.region [⟨some 45,.mov (.t 5),none⟩,
 ⟨some 46,.mov (.t 9),none⟩,
 ⟨some 47,.icall (.c (.func 24 [])) [(.t 46)],none⟩,
 ⟨some 48,.icall (.c (.func 29 [])) [(.t 45),(.t 47)],none⟩,
 ⟨some 44,.mov (.t 48),none⟩,
 ⟨some 49,.ext 0 (.t 44),none⟩,
 ⟨some 50,.ext 1 (.t 44),none⟩,
 ⟨some 12,.mov (.t 49),none⟩,
 ⟨some 13,.mov (.t 50),none⟩])
 (.seq (.seq (.region [⟨some 51,.mov (.t 10),none⟩,
 ⟨some 52,.bin .neq (.t 51) (.c (.int .i64 0)),none⟩,
 ⟨some 53,.mov (.t 52),none⟩,
 ⟨some 54,.mov (.t 13),some (53,false)⟩,
 ⟨some 55,.bin .neq (.t 54) (.c (.int .i64 0)),some (53,false)⟩,
 ⟨some 56,.pick (.t 53) (.c (.bool true)) (.t 55),none⟩])
 (.cond (.t 56)
 (.seq (.region [⟨some 4,.mov (.c (.bool false)),none⟩])
 (.ret))
 (.skip)))
 (.seq (.region [⟨some 58,.mov (.t 12),none⟩,
 ⟨some 59,.mov (.t 7),none⟩,
 ⟨some 60,.mov (.t 11),none⟩,
 ⟨some 61,.iaddr 2 (.t 59) (.t 60),none⟩,
 ⟨some 62,.load true 2 (.t 61),none⟩,
 ⟨some 63,.icall (.c (.func 22 [])) [(.t 58),(.t 62)],none⟩,
 ⟨some 57,.mov (.t 63),none⟩,
 ⟨some 64,.ext 0 (.t 57),none⟩,
 ⟨some 65,.ext 1 (.t 57),none⟩,
 ⟨some 14,.mov (.t 64),none⟩,
 ⟨some 15,.mov (.t 65),none⟩])
 (.seq (.seq (.region [⟨some 66,.mov (.t 14),none⟩,
 ⟨some 67,.mov (.t 6),none⟩,
 ⟨some 68,.mov (.t 11),none⟩,
 ⟨some 69,.iaddr 1 (.t 67) (.t 68),none⟩,
 ⟨some 70,.load false 1 (.t 69),none⟩,
 ⟨some 71,.beq true (.t 66) (.t 70),none⟩,
 ⟨some 72,.mov (.t 71),none⟩,
 ⟨some 73,.mov (.t 15),some (72,false)⟩,
 ⟨some 74,.bin .neq (.t 73) (.c (.int .i64 0)),some (72,false)⟩,
 ⟨some 75,.pick (.t 72) (.c (.bool true)) (.t 74),none⟩])
 (.cond (.t 75)
 (.seq (.region [⟨some 4,.mov (.c (.bool false)),none⟩])
 (.ret))
 (.skip)))
 (.region [⟨some 76,.mov (.t 12),none⟩,
 ⟨some 9,.mov (.t 76),none⟩]))))))
 (.region [⟨some 42,.mov (.t 11),none⟩,
 ⟨some 43,.bin .add (.t 42) (.c (.int .i64 1)),none⟩,
 ⟨some 11,.mov (.t 43),none⟩]))
def yBV : ACode := xXA
def xS0 : List Nat := [0,1,2,3,8,12,13,14,15,16,17,18,19,20,21,22,23,24,25,26,27,28,29,30,31,32,33,34,35,36,37,38,39,40,41,42,43,44,45,46,47,48,49,50,51,52,53,54,55,56,57,58,59,60,61,62,63,64,65,66,67,68,69,70,71,72,73,74,75,76,77]
abbrev xVz (s4 s5 s6 s7 s9 s10 s11 : AV) : List AV := [.any,.any,.any,.any,s4,s5,s6,s7,.any,s9,s10,s11,.any,.any,.any,.any,.any,.any,.any,.any,.any,.any,.any,.any,.any,.any,.any,.any,.any,.any,.any,.any,.any,.any,.any,.any,.any,.any,.any,.any,.any,.any,.any,.any,.any,.any,.any,.any,.any,.any,.any,.any,.any,.any,.any,.any,.any,.any,.any,.any,.any,.any,.any,.any,.any,.any,.any,.any,.any,.any,.any,.any,.any,.any,.any,.any,.any,.any]
theorem xZ9 (s0 s1 s2 s3 s4 s5 s6 s7 s8 s9 s10 s11 s12 s13 s14 s15 s16 s17 s18 s19 s20 s21 s22 s23 s24 s25 s26 s27 s28 s29 s30 s31 s32 s33 s34 s35 s36 s37 s38 s39 s40 s41 s42 s43 s44 s45 s46 s47 s48 s49 s50 s51 s52 s53 s54 s55 s56 s57 s58 s59 s60 s61 s62 s63 s64 s65 s66 s67 s68 s69 s70 s71 s72 s73 s74 s75 s76 s77 : AV) : xA5 xS0 [s0,s1,s2,s3,s4,s5,s6,s7,s8,s9,s10,s11,s12,s13,s14,s15,s16,s17,s18,s19,s20,s21,s22,s23,s24,s25,s26,s27,s28,s29,s30,s31,s32,s33,s34,s35,s36,s37,s38,s39,s40,s41,s42,s43,s44,s45,s46,s47,s48,s49,s50,s51,s52,s53,s54,s55,s56,s57,s58,s59,s60,s61,s62,s63,s64,s65,s66,s67,s68,s69,s70,s71,s72,s73,s74,s75,s76,s77] = xVz s4 s5 s6 s7 s9 s10 s11 := by kernel_rfl
theorem yBW {prog : Nat → Option AFunc} (s4 s5 s6 s7 s9 s10 s11 : AV) (H : Heap) : (lim prog).loop xS0 yBV ⟨xVz s4 s5 s6 s7 s9 s10 s11,H⟩ = xB5 (lim prog) xS0 yBV (run (lim prog) xXA ⟨xVz s4 s5 s6 s7 s9 s10 s11,H⟩) := xAw _ _ _ _ (by kernel_rfl)
def a7 : AFunc := ⟨78,
 .seq (.region [⟨some 4,.mov (.c (.bool false)),none⟩])
 (.seq (.region [⟨some 16,.mov (.t 0),none⟩,
 ⟨some 17,.call 18 [(.t 16)],none⟩,
 ⟨some 5,.mov (.t 17),none⟩])
 (.seq (.region [⟨some 18,.mov (.t 5),none⟩,
 ⟨some 19,.mov (.t 5),none⟩,
 ⟨some 20,.len (.t 19),none⟩,
 ⟨some 21,.mini (.t 20) (.c (.int .i64 40)),none⟩,
 ⟨some 22,.slice 6 (.t 18) none (some (.t 21)) none,none⟩,
 ⟨some 5,.mov (.t 22),none⟩])
 (.seq (.region [⟨some 24,.mov (.t 5),none⟩,
 ⟨some 25,.mov (.t 1),none⟩,
 ⟨some 26,.call 33 [(.t 24),(.t 25),(.c (.int .i64 12))],none⟩,
 ⟨some 23,.mov (.t 26),none⟩,
 ⟨some 27,.ext 0 (.t 23),none⟩,
 ⟨some 28,.ext 1 (.t 23),none⟩,
 ⟨some 29,.ext 2 (.t 23),none⟩,
 ⟨some 6,.mov (.t 27),none⟩,
 ⟨some 7,.mov (.t 28),none⟩,
 ⟨some 8,.mov (.t 29),none⟩])
 (.seq (.seq (.region [⟨some 30,.mov (.t 8),none⟩,
 ⟨some 31,.un .not (.t 30),none⟩])
 (.cond (.t 31)
 (.seq (.region [⟨some 32,.call 17 [],none⟩,
 ⟨some 4,.mov (.t 32),none⟩])
 (.ret))
 (.skip)))
 (.seq (.region [⟨some 34,.mov (.t 5),none⟩,
 ⟨some 35,.icall (.c (.func 19 [])) [(.t 34)],none⟩,
 ⟨some 33,.mov (.t 35),none⟩,
 ⟨some 36,.ext 0 (.t 33),none⟩,
 ⟨some 37,.ext 1 (.t 33),none⟩,
 ⟨some 9,.mov (.t 36),none⟩,
 ⟨some 10,.mov (.t 37),none⟩])
 (.seq (.seq (.region [⟨some 11,.mov (.c (.int .i64 0)),none⟩])
 (.block 0 (.loop xS0 yBV)))
 (.seq (.region [⟨some 77,.call 17 [],none⟩,
 ⟨some 4,.mov (.t 77),none⟩])
 (.ret)))))))),
 [.tmp 4]⟩
def a8 : AFunc := ⟨64,
 .seq (.region [⟨some 6,.mov (.c (.bool false)),none⟩])
 (.seq (.region [⟨some 14,.mov (.t 0),none⟩,
 ⟨some 15,.call 18 [(.t 14)],none⟩,
 ⟨some 7,.mov (.t 15),none⟩])
 (.seq (.region [⟨some 16,.mov (.t 7),none⟩,
 ⟨some 17,.mov (.t 7),none⟩,
 ⟨some 18,.len (.t 17),none⟩,
 ⟨some 19,.mini (.t 18) (.c (.int .i64 40)),none⟩,
 ⟨some 20,.slice 6 (.t 16) none (some (.t 19)) none,none⟩,
 ⟨some 7,.mov (.t 20),none⟩])
 (.seq (.region [⟨some 22,.mov (.t 7),none⟩,
 ⟨some 23,.mov (.t 1),none⟩,
 ⟨some 24,.call 33 [(.t 22),(.t 23),(.c (.int .i64 12))],none⟩,
 ⟨some 21,.mov (.t 24),none⟩,
 ⟨some 25,.ext 0 (.t 21),none⟩,
 ⟨some 26,.ext 1 (.t 21),none⟩,
 ⟨some 27,.ext 2 (.t 21),none⟩,
 ⟨some 8,.mov (.t 25),none⟩,
 ⟨some 9,.mov (.t 26),none⟩,
 ⟨some 10,.mov (.t 27),none⟩])
 (.seq (.seq (.region [⟨some 28,.mov (.t 10),none⟩,
 ⟨some 29,.un .not (.t 28),none⟩])
 (.cond (.t 29)
 (.seq (.region [⟨some 30,.call 17 [],none⟩,
 ⟨some 6,.mov (.t 30),none⟩])
 (.ret))
 (.skip)))
 (.seq (.region [⟨some 11,.mov (.c (.int .i64 0)),none⟩])
 (.seq (.seq (.region [⟨some 31,.mov (.t 9),none⟩,
 ⟨some 32,.len (.t 31),none⟩,
 ⟨some 33,.bin .gtr (.t 32) (.c (.int .i64 0)),none⟩])
 (.cond (.t 33)
 (.region [⟨some 34,.mov (.t 2),none⟩,
 ⟨some 35,.mov (.t 9),none⟩,
 ⟨some 36,.len (.t 35),none⟩,
 ⟨some 37,.bin .rem (.t 34) (.t 36),none⟩,
 ⟨some 38,.mov (.t 9),none⟩,
 ⟨some 39,.len (.t 38),none⟩,
 ⟨some 40,.bin .add (.t 37) (.t 39),none⟩,
 ⟨some 41,.mov (.t 9),none⟩,
 ⟨some 42,.len (.t 41),none⟩,
 ⟨some 43,.bin .rem (.t 40) (.t 42),none⟩,
 ⟨some 11,.mov (.t 43),none⟩])
 (.skip)))
 (.seq (.region [⟨some 45,.mov (.t 7),none⟩,
 ⟨some 46,.mov (.t 9),none⟩,
 ⟨some 47,.mov (.t 11),none⟩,
 ⟨some 48,.slice 2 (.t 46) none (some (.t 47)) none,none⟩,
 ⟨some 49,.call 35 [(.t 45),(.t 48)],none⟩,
 ⟨some 44,.mov (.t 49),none⟩,
 ⟨some 50,.ext 0 (.t 44),none⟩,
 ⟨some 51,.ext 1 (.t 44),none⟩,
 ⟨some 12,.mov (.t 50),none⟩,
 ⟨some 13,.mov (.t 51),none⟩])
 (.seq (.region [⟨some 52,.mov (.t 13),none⟩,
 ⟨some 53,.bin .eql (.t 52) (.c (.int .i64 0)),none⟩,
 ⟨some 54,.mov (.t 53),none⟩,
 ⟨some 55,.mov (.t 12),some (54,true)⟩,
 ⟨some 56,.mov (.t 8),some (54,true)⟩,
 ⟨some 57,.mov (.t 11),some (54,true)⟩,
 ⟨some 58,.slice 1 (.t 56) none (some (.t 57)) none,some (54,true)⟩,
 ⟨some 59,.call 36 [(.t 55),(.t 58)],some (54,true)⟩,
 ⟨some 60,.pick (.t 54) (.t 59) (.c (.bool false)),none⟩,
 ⟨some 61,.mov (.t 60),none⟩,
 ⟨some 62,.call 17 [],some (61,true)⟩,
 ⟨some 63,.pick (.t 61) (.t 62) (.c (.bool false)),none⟩,
 ⟨some 6,.mov (.t 63),none⟩])
 (.ret))))))))),
 [.tmp 6]⟩
def xRK : ACode :=
 .seq (.seq (.region [⟨some 100,.mov (.t 7),none⟩,
 ⟨some 101,.bin .lss (.t 100) (.c (.int .i64 33)),none⟩])
 (.cond (.t 101)
 (.skip)
 (.exit 0)))
 (.seq (.block 1 (.seq (.region [⟨some 104,.mov (.t 6),none⟩,
 ⟨some 105,.mov (.t 7),none⟩,
 ⟨some 106,.iaddr 1 (.t 104) (.t 105),none⟩,
 ⟨some 107,.load false 1 (.t 106),none⟩,
 ⟨some 108,.bin .neq (.t 107) (.c (.int .u8 255)),none⟩])
 (.cond (.t 108)
 (.seq (.region [⟨some 0,.mov (.c (.bool false)),none⟩])
 (.ret))
 (.skip))))
 (.region [⟨some 102,.mov (.t 7),none⟩,
 ⟨some 103,.bin .add (.t 102) (.c (.int .i64 1)),none⟩,
 ⟨some 7,.mov (.t 103),none⟩]))
def xVA : ACode := xRK
def xLh : List Nat := [3,4,5,8,9,10,11,12,13,14,15,16,17,18,19,20,21,22,23,24,25,26,27,28,29,30,31,32,33,34,35,36,37,38,39,40,41,42,43,44,45,46,47,48,49,50,51,52,53,54,55,56,57,58,59,60,61,62,63,64,65,66,67,68,69,70,71,72,73,74,75,76,77,78,79,80,81,82,83,84,85,86,87,88,89,90,91,92,93,94,95,96,97,98,99,100,101,102,103,104,105,106,107,108,109,110,111,112,113,114,115,116,117,118,119,120,121,122,123,124,125,126,127,128,129,130,131,132,133,134,135,136,137,138,139,140,141,142,143,144,145,146,147,148,149,150,151,152,153,154,155,156,157,158,159,160,161,162,163,164,165,166]
abbrev xLi (s0 s1 s2 s6 s7 : AV) : List AV := [s0,s1,s2,.any,.any,.any,s6,s7,.any,.any,.any,.any,.any,.any,.any,.any,.any,.any,.any,.any,.any,.any,.any,.any,.any,.any,.any,.any,.any,.any,.any,.any,.any,.any,.any,.any,.any,.any,.any,.any,.any,.any,.any,.any,.any,.any,.any,.any,.any,.any,.any,.any,.any,.any,.any,.any,.any,.any,.any,.any,.any,.any,.any,.any,.any,.any,.any,.any,.any,.any,.any,.any,.any,.any,.any,.any,.any,.any,.any,.any,.any,.any,.any,.any,.any,.any,.any,.any,.any,.any,.any,.any,.any,.any,.any,.any,.any,.any,.any,.any,.any,.any,.any,.any,.any,.any,.any,.any,.any,.any,.any,.any,.any,.any,.any,.any,.any,.any,.any,.any,.any,.any,.any,.any,.any,.any,.any,.any,.any,.any,.any,.any,.any,.any,.any,.any,.any,.any,.any,.any,.any,.any,.any,.any,.any,.any,.any,.any,.any,.any,.any,.any,.any,.any,.any,.any,.any,.any,.any,.any,.any,.any,.any,.any,.any,.any,.any]
theorem xVB (s0 s1 s2 s3 s4 s5 s6 s7 s8 s9 s10 s11 s12 s13 s14 s15 s16 s17 s18 s19 s20 s21 s22 s23 s24 s25 s26 s27 s28 s29 s30 s31 s32 s33 s34 s35 s36 s37 s38 s39 s40 s41 s42 s43 s44 s45 s46 s47 s48 s49 s50 s51 s52 s53 s54 s55 s56 s57 s58 s59 s60 s61 s62 s63 s64 s65 s66 s67 s68 s69 s70 s71 s72 s73 s74 s75 s76 s77 s78 s79 s80 s81 s82 s83 s84 s85 s86 s87 s88 s89 s90 s91 s92 s93 s94 s95 s96 s97 s98 s99 s100 s101 s102 s103 s104 s105 s106 s107 s108 s109 s110 s111 s112 s113 s114 s115 s116 s117 s118 s119 s120 s121 s122 s123 s124 s125 s126 s127 s128 s129 s130 s131 s132 s133 s134 s135 s136 s137 s138 s139 s140 s141 s142 s143 s144 s145 s146 s147 s148 s149 s150 s151 s152 s153 s154 s155 s156 s157 s158 s159 s160 s161 s162 s163 s164 s165 s166 : AV) : xA5 xLh [s0,s1,s2,s3,s4,s5,s6,s7,s8,s9,s10,s11,s12,s13,s14,s15,s16,s17,s18,s19,s20,s21,s22,s23,s24,s25,s26,s27,s28,s29,s30,s31,s32,s33,s34,s35,s36,s37,s38,s39,s40,s41,s42,s43,s44,s45,s46,s47,s48,s49,s50,s51,s52,s53,s54,s55,s56,s57,s58,s59,s60,s61,s62,s63,s64,s65,s66,s67,s68,s69,s70,s71,s72,s73,s74,s75,s76,s77,s78,s79,s80,s81,s82,s83,s84,s85,s86,s87,s88,s89,s90,s91,s92,s93,s94,s95,s96,s97,s98,s99,s100,s101,s102,s103,s104,s105,s106,s107,s108,s109,s110,s111,s112,s113,s114,s115,s116,s117,s118,s119,s120,s121,s122,s123,s124,s125,s126,s127,s128,s129,s130,s131,s132,s133,s134,s135,s136,s137,s138,s139,s140,s141,s142,s143,s144,s145,s146,s147,s148,s149,s150,s151,s152,s153,s154,s155,s156,s157,s158,s159,s160,s161,s162,s163,s164,s165,s166] = xLi s0 s1 s2 s6 s7 := by kernel_rfl
theorem xYW {prog : Nat → Option AFunc} (s0 s1 s2 s6 s7 : AV) (H : Heap) : (lim prog).loop xLh xVA ⟨xLi s0 s1 s2 s6 s7,H⟩ = xB5 (lim prog) xLh xVA (run (lim prog) xRK ⟨xLi s0 s1 s2 s6 s7,H⟩) := xAw _ _ _ _ (by kernel_rfl)
def a17 : AFunc := ⟨167,
 .seq (.region [⟨some 0,.mov (.c (.bool false)),none⟩])
 (.seq (.region [⟨some 1,.mov (.c (.str ⟨#[40,101,120,105,115,116,115,32,120,32,40,97,110,100,32,40,97,116,32,98,32,120,41,32,40,110,111,116,32,40,111,110,99,101,32,40,97,116,32,97,32,120,41,41,41,41,41]⟩)),none⟩])
 (.seq (.seq (.region [⟨some 15,.mov (.t 1),none⟩,
 ⟨some 16,.bslice true [.int .i64 0] 1 1 [(0,(.c (.int .i64 3)))],none⟩,
 ⟨some 17,.call 47 [(.c (.int .i64 0)),(.t 16)],none⟩,
 ⟨some 18,.bslice true [.int .i64 0] 1 1 [(0,(.c (.int .i64 3)))],none⟩,
 ⟨some 19,.call 47 [(.c (.int .i64 1)),(.t 18)],none⟩,
 ⟨some 20,.bslice true [.int .i64 0] 1 1 [(0,(.c (.int .i64 4)))],none⟩,
 ⟨some 21,.call 47 [(.c (.int .i64 1)),(.t 20)],none⟩,
 ⟨some 22,.bslice true [.int .i64 0] 1 1 [(0,(.c (.int .i64 4)))],none⟩,
 ⟨some 23,.call 47 [(.c (.int .i64 0)),(.t 22)],none⟩,
 ⟨some 24,.bslice true [.int .i64 0] 1 1 [(0,(.c (.int .i64 4)))],none⟩,
 ⟨some 25,.call 47 [(.c (.int .i64 1)),(.t 24)],none⟩,
 ⟨some 26,.bslice true [.int .i64 0,.sl true 0 []] 2 5 [(0,(.t 17)),(1,(.t 19)),(2,(.t 21)),(3,(.t 23)),(4,(.t 25))],none⟩,
 ⟨some 27,.bslice true [.bool false] 1 5 [(0,(.c (.bool false))),(1,(.c (.bool false))),(2,(.c (.bool true))),(3,(.c (.bool false))),(4,(.c (.bool false)))],none⟩,
 ⟨some 28,.call 46 [(.t 15),(.t 26),(.t 27)],none⟩,
 ⟨some 29,.un .not (.t 28),none⟩,
 ⟨some 30,.mov (.t 29),none⟩,
 ⟨some 31,.bslice true [.int .i64 0] 1 1 [(0,(.c (.int .i64 1)))],some (30,false)⟩,
 ⟨some 32,.call 47 [(.c (.int .i64 0)),(.t 31)],some (30,false)⟩,
 ⟨some 33,.call 47 [(.c (.int .i64 1)),(.c (.sl true 0 []))],some (30,false)⟩,
 ⟨some 34,.call 47 [(.c (.int .i64 2)),(.c (.sl true 0 []))],some (30,false)⟩,
 ⟨some 35,.bslice true [.int .i64 0] 1 1 [(0,(.c (.int .i64 2)))],some (30,false)⟩,
 ⟨some 36,.call 47 [(.c (.int .i64 0)),(.t 35)],some (30,false)⟩,
 ⟨some 37,.bslice true [.int .i64 0,.sl true 0 []] 2 4 [(0,(.t 32)),(1,(.t 33)),(2,(.t 34)),(3,(.t 36))],some (30,false)⟩,
 ⟨some 38,.bslice true [.bool false] 1 4 [(0,(.c (.bool true))),(1,(.c (.bool true))),(2,(.c (.bool false))),(3,(.c (.bool false)))],some (30,false)⟩,
 ⟨some 39,.call 46 [(.c (.str ⟨#[40,115,105,110,99,101,32,40,110,111,116,32,40,97,116,32,99,41,41,32,40,97,116,32,97,32,49,41,41]⟩)),(.t 37),(.t 38)],some (30,false)⟩,
 ⟨some 40,.un .not (.t 39),some (30,false)⟩,
 ⟨some 41,.pick (.t 30) (.c (.bool true)) (.t 40),none⟩,
 ⟨some 42,.mov (.t 41),none⟩,
 ⟨some 43,.bslice true [.int .i64 0] 1 2 [(0,(.c (.int .i64 2))),(1,(.c (.int .i64 2)))],some (42,false)⟩,
 ⟨some 44,.call 47 [(.c (.int .i64 0)),(.t 43)],some (42,false)⟩,
 ⟨some 45,.bslice true [.int .i64 0] 1 2 [(0,(.c (.int .i64 1))),(1,(.c (.int .i64 2)))],some (42,false)⟩,
 ⟨some 46,.call 47 [(.c (.int .i64 0)),(.t 45)],some (42,false)⟩,
 ⟨some 47,.call 47 [(.c (.int .i64 1)),(.c (.sl true 0 []))],some (42,false)⟩,
 ⟨some 48,.bslice true [.int .i64 0,.sl true 0 []] 2 3 [(0,(.t 44)),(1,(.t 46)),(2,(.t 47))],some (42,false)⟩,
 ⟨some 49,.bslice true [.bool false] 1 3 [(0,(.c (.bool false))),(1,(.c (.bool true))),(2,(.c (.bool false)))],some (42,false)⟩,
 ⟨some 50,.call 46 [(.c (.str ⟨#[40,112,114,101,118,105,111,117,115,32,40,101,120,105,115,116,115,32,121,32,40,97,116,32,97,32,121,32,121,41,41,41]⟩)),(.t 48),(.t 49)],some (42,false)⟩,
 ⟨some 51,.un .not (.t 50),some (42,false)⟩,
 ⟨some 52,.pick (.t 42) (.c (.bool true)) (.t 51),none⟩])
 (.cond (.t 52)
 (.seq (.region [⟨some 0,.mov (.c (.bool false)),none⟩])
 (.ret))
 (.skip)))
 (.seq (.region [⟨some 54,.mov (.t 1),none⟩,
 ⟨some 55,.call 39 [(.t 54)],none⟩,
 ⟨some 56,.icall (.c (.func 19 [])) [(.t 55)],none⟩,
 ⟨some 53,.mov (.t 56),none⟩,
 ⟨some 57,.ext 0 (.t 53),none⟩,
 ⟨some 58,.ext 1 (.t 53),none⟩,
 ⟨some 2,.mov (.t 57),none⟩,
 ⟨some 3,.mov (.t 58),none⟩])
 (.seq (.region [⟨some 60,.mov (.t 2),none⟩,
 ⟨some 61,.bslice true [.int .i64 0] 1 1 [(0,(.c (.int .i64 3)))],none⟩,
 ⟨some 62,.call 47 [(.c (.int .i64 0)),(.t 61)],none⟩,
 ⟨some 63,.icall (.c (.func 22 [])) [(.t 60),(.t 62)],none⟩,
 ⟨some 59,.mov (.t 63),none⟩,
 ⟨some 64,.ext 0 (.t 59),none⟩,
 ⟨some 65,.ext 1 (.t 59),none⟩,
 ⟨some 4,.mov (.t 64),none⟩,
 ⟨some 5,.mov (.t 65),none⟩])
 (.seq (.region [⟨some 66,.mov (.t 2),none⟩,
 ⟨some 67,.icall (.c (.func 24 [])) [(.t 66)],none⟩,
 ⟨some 6,.mov (.t 67),none⟩])
 (.seq (.seq (.region [⟨some 68,.mov (.t 3),none⟩,
 ⟨some 69,.bin .neq (.t 68) (.c (.int .i64 0)),none⟩,
 ⟨some 70,.mov (.t 69),none⟩,
 ⟨some 71,.mov (.t 4),some (70,false)⟩,
 ⟨some 72,.pick (.t 70) (.c (.bool true)) (.t 71),none⟩,
 ⟨some 73,.mov (.t 72),none⟩,
 ⟨some 74,.mov (.t 5),some (73,false)⟩,
 ⟨some 75,.bin .neq (.t 74) (.c (.int .i64 0)),some (73,false)⟩,
 ⟨some 76,.pick (.t 73) (.c (.bool true)) (.t 75),none⟩,
 ⟨some 77,.mov (.t 76),none⟩,
 ⟨some 78,.mov (.t 6),some (77,false)⟩,
 ⟨some 79,.len (.t 78),some (77,false)⟩,
 ⟨some 80,.bin .neq (.t 79) (.c (.int .i64 65)),some (77,false)⟩,
 ⟨some 81,.pick (.t 77) (.c (.bool true)) (.t 80),none⟩,
 ⟨some 82,.mov (.t 81),none⟩,
 ⟨some 83,.mov (.t 6),some (82,false)⟩,
 ⟨some 84,.iaddr 1 (.t 83) (.c (.int .i64 0)),some (82,false)⟩,
 ⟨some 85,.load false 1 (.t 84),some (82,false)⟩,
 ⟨some 86,.bin .neq (.t 85) (.c (.int .u8 1)),some (82,false)⟩,
 ⟨some 87,.pick (.t 82) (.c (.bool true)) (.t 86),none⟩,
 ⟨some 88,.mov (.t 87),none⟩,
 ⟨some 89,.mov (.t 6),some (88,false)⟩,
 ⟨some 90,.iaddr 1 (.t 89) (.c (.int .i64 24)),some (88,false)⟩,
 ⟨some 91,.load false 1 (.t 90),some (88,false)⟩,
 ⟨some 92,.bin .neq (.t 91) (.c (.int .u8 0)),some (88,false)⟩,
 ⟨some 93,.pick (.t 88) (.c (.bool true)) (.t 92),none⟩,
 ⟨some 94,.mov (.t 93),none⟩,
 ⟨some 95,.mov (.t 6),some (94,false)⟩,
 ⟨some 96,.iaddr 1 (.t 95) (.c (.int .i64 33)),some (94,false)⟩,
 ⟨some 97,.load false 1 (.t 96),some (94,false)⟩,
 ⟨some 98,.bin .neq (.t 97) (.c (.int .u8 0)),some (94,false)⟩,
 ⟨some 99,.pick (.t 94) (.c (.bool true)) (.t 98),none⟩])
 (.cond (.t 99)
 (.seq (.region [⟨some 0,.mov (.c (.bool false)),none⟩])
 (.ret))
 (.skip)))
 (.seq (.seq (.region [⟨some 7,.mov (.c (.int .i64 25)),none⟩])
 (.block 0 (.loop xLh xVA)))
 (.seq (.seq (.region [⟨some 109,.bslice true [.int .i64 0] 1 1 [(0,(.c (.int .i64 8)))],none⟩,
 ⟨some 110,.build [.int .u8 0,.int .i64 0,.sl true 0 [],.int .i64 0,.int .i64 0,.int .i64 0] [(0,1,(.c (.int .u8 2))),(2,1,(.t 109))],none⟩,
 ⟨some 111,.bslice true [.int .u8 0,.int .i64 0,.sl true 0 [],.int .i64 0,.int .i64 0,.int .i64 0] 6 1 [(0,(.t 110))],none⟩,
 ⟨some 112,.call 34 [(.t 111)],none⟩,
 ⟨some 113,.bin .neq (.t 112) (.c (.int .i64 11)),none⟩,
 ⟨some 114,.mov (.t 113),none⟩,
 ⟨some 115,.call 48 [(.c (.str ⟨#[40,97,116,32,97,32,120,41]⟩)),(.c (.int .i64 0)),(.c (.int .i64 11))],some (114,false)⟩,
 ⟨some 116,.un .not (.t 115),some (114,false)⟩,
 ⟨some 117,.pick (.t 114) (.c (.bool true)) (.t 116),none⟩,
 ⟨some 118,.mov (.t 117),none⟩,
 ⟨some 119,.call 48 [(.c (.str ⟨#[40,97,116,32,97,32,56,41]⟩)),(.c (.int .i64 6)),(.c (.int .i64 1))],some (118,false)⟩,
 ⟨some 120,.un .not (.t 119),some (118,false)⟩,
 ⟨some 121,.pick (.t 118) (.c (.bool true)) (.t 120),none⟩,
 ⟨some 122,.mov (.t 121),none⟩,
 ⟨some 123,.call 48 [(.c (.str ⟨#[40,61,32,120,41]⟩)),(.c (.int .i64 4)),(.c (.int .i64 2))],some (122,false)⟩,
 ⟨some 124,.un .not (.t 123),some (122,false)⟩,
 ⟨some 125,.pick (.t 122) (.c (.bool true)) (.t 124),none⟩,
 ⟨some 126,.mov (.t 125),none⟩,
 ⟨some 127,.call 48 [(.c (.str ⟨#[40,111,110,99,101,32,116,114,117,101]⟩)),(.c (.int .i64 10)),(.c (.int .i64 3))],some (126,false)⟩,
 ⟨some 128,.un .not (.t 127),some (126,false)⟩,
 ⟨some 129,.pick (.t 126) (.c (.bool true)) (.t 128),none⟩])
 (.cond (.t 129)
 (.seq (.region [⟨some 0,.mov (.c (.bool false)),none⟩])
 (.ret))
 (.skip)))
 (.seq (.draw 4 [⟨some 131,.mov (.t 1),none⟩,
 ⟨some 132,.call 39 [(.t 131)],none⟩,
 ⟨some 133,.mov (.t 6),none⟩,
 ⟨some 134,.slice 1 (.t 133) none (some (.c (.int .i64 64))) none,none⟩,
 ⟨some 135,.icall (.c (.func 29 [])) [(.t 132),(.t 134)],none⟩,
 ⟨some 130,.mov (.t 135),none⟩,
 ⟨some 136,.ext 0 (.t 130),none⟩,
 ⟨some 137,.ext 1 (.t 130),none⟩,
 ⟨some 8,.mov (.t 136),none⟩,
 ⟨some 9,.mov (.t 137),none⟩])
 (.seq (.region [⟨some 139,.mov (.t 2),none⟩,
 ⟨some 140,.bslice true [.int .i64 0] 1 1 [(0,(.c (.int .i64 8)))],none⟩,
 ⟨some 141,.call 47 [(.c (.int .i64 0)),(.t 140)],none⟩,
 ⟨some 142,.icall (.c (.func 22 [])) [(.t 139),(.t 141)],none⟩,
 ⟨some 138,.mov (.t 142),none⟩,
 ⟨some 143,.ext 0 (.t 138),none⟩,
 ⟨some 144,.ext 1 (.t 138),none⟩,
 ⟨some 10,.mov (.t 143),none⟩,
 ⟨some 11,.mov (.t 144),none⟩])
 (.seq (.region [⟨some 12,.mov (.c (.nilp)),none⟩])
 (.seq (.region [⟨some 146,.mov (.t 12),none⟩,
 ⟨some 147,.call 47 [(.c (.int .i64 0)),(.c (.sl true 0 []))],none⟩,
 ⟨some 148,.icall (.c (.func 22 [])) [(.t 146),(.t 147)],none⟩,
 ⟨some 145,.mov (.t 148),none⟩,
 ⟨some 149,.ext 0 (.t 145),none⟩,
 ⟨some 150,.ext 1 (.t 145),none⟩,
 ⟨some 13,.mov (.t 149),none⟩,
 ⟨some 14,.mov (.t 150),none⟩])
 (.seq (.region [⟨some 151,.mov (.t 9),none⟩,
 ⟨some 152,.bin .eql (.t 151) (.c (.int .i64 2)),none⟩,
 ⟨some 153,.mov (.t 152),none⟩,
 ⟨some 154,.mov (.t 11),some (153,true)⟩,
 ⟨some 155,.bin .eql (.t 154) (.c (.int .i64 1)),some (153,true)⟩,
 ⟨some 156,.pick (.t 153) (.t 155) (.c (.bool false)),none⟩,
 ⟨some 157,.mov (.t 156),none⟩,
 ⟨some 158,.mov (.t 14),some (157,true)⟩,
 ⟨some 159,.bin .eql (.t 158) (.c (.int .i64 12)),some (157,true)⟩,
 ⟨some 160,.pick (.t 157) (.t 159) (.c (.bool false)),none⟩,
 ⟨some 161,.mov (.t 160),none⟩,
 ⟨some 162,.mov (.t 2),some (161,true)⟩,
 ⟨some 163,.icall (.c (.func 24 [])) [(.t 162)],some (161,true)⟩,
 ⟨some 164,.mov (.t 6),some (161,true)⟩,
 ⟨some 165,.icall (.c (.func 25 [])) [(.t 163),(.t 164)],some (161,true)⟩,
 ⟨some 166,.pick (.t 161) (.t 165) (.c (.bool false)),none⟩,
 ⟨some 0,.mov (.t 166),none⟩])
 (.ret)))))))))))))),
 [.tmp 0]⟩
def xJe : ACode :=
 .seq (.seq (.region [⟨some 6,.mov (.t 4),none⟩,
 ⟨some 7,.mov (.t 0),none⟩,
 ⟨some 8,.len (.t 7),none⟩,
 ⟨some 9,.bin .lss (.t 6) (.t 8),none⟩,
 ⟨some 10,.mov (.t 9),none⟩,
 ⟨some 11,.mov (.t 4),some (10,true)⟩,
 ⟨some 12,.bin .lss (.t 11) (.c (.int .i64 70)),some (10,true)⟩,
 ⟨some 13,.pick (.t 10) (.t 12) (.c (.bool false)),none⟩])
 (.cond (.t 13)
 (.skip)
 (.exit 0)))
 (.seq (.block 1 (.seq (.region [⟨some 16,.mov (.t 0),none⟩,
 ⟨some 17,.mov (.t 4),none⟩,
 ⟨some 18,.iaddr 6 (.t 16) (.t 17),none⟩,
 ⟨some 19,.load true 6 (.t 18),none⟩,
 ⟨some 5,.box (.c (.agg [.int .u8 0,.int .i64 0,.sl true 0 [],.int .i64 0,.int .i64 0,.int .i64 0])),none⟩,
 ⟨none,.store 6 (.t 5) (.t 19),none⟩])
 (.seq (.region [⟨some 20,.faddr 2 (.t 5),none⟩,
 ⟨some 21,.load false 1 (.t 20),none⟩,
 ⟨some 22,.faddr 2 (.t 5),none⟩,
 ⟨some 23,.load false 1 (.t 22),none⟩,
 ⟨some 24,.len (.t 23),none⟩,
 ⟨some 25,.mini (.t 24) (.c (.int .i64 4)),none⟩,
 ⟨some 26,.slice 1 (.t 21) none (some (.t 25)) none,none⟩,
 ⟨some 27,.call 49 [(.t 26)],none⟩,
 ⟨some 28,.faddr 2 (.t 5),none⟩,
 ⟨none,.store 1 (.t 28) (.t 27),none⟩])
 (.region [⟨some 29,.mov (.t 3),none⟩,
 ⟨some 30,.load true 6 (.t 5),none⟩,
 ⟨some 31,.bslice true [.int .u8 0,.int .i64 0,.sl true 0 [],.int .i64 0,.int .i64 0,.int .i64 0] 6 1 [(0,(.t 30))],none⟩,
 ⟨some 32,.append false 6 64 (.t 29) (.t 31),none⟩,
 ⟨some 3,.mov (.t 32),none⟩]))))
 (.region [⟨some 14,.mov (.t 4),none⟩,
 ⟨some 15,.bin .add (.t 14) (.c (.int .i64 1)),none⟩,
 ⟨some 4,.mov (.t 15),none⟩]))
def xVC : ACode := xJe
def xLj : List Nat := [1,2,5,6,7,8,9,10,11,12,13,14,15,16,17,18,19,20,21,22,23,24,25,26,27,28,29,30,31,32,33]
abbrev xOu (s0 s3 s4 : AV) : List AV := [s0,.any,.any,s3,s4,.any,.any,.any,.any,.any,.any,.any,.any,.any,.any,.any,.any,.any,.any,.any,.any,.any,.any,.any,.any,.any,.any,.any,.any,.any,.any,.any,.any,.any]
theorem xJf (s0 s1 s2 s3 s4 s5 s6 s7 s8 s9 s10 s11 s12 s13 s14 s15 s16 s17 s18 s19 s20 s21 s22 s23 s24 s25 s26 s27 s28 s29 s30 s31 s32 s33 : AV) : xA5 xLj [s0,s1,s2,s3,s4,s5,s6,s7,s8,s9,s10,s11,s12,s13,s14,s15,s16,s17,s18,s19,s20,s21,s22,s23,s24,s25,s26,s27,s28,s29,s30,s31,s32,s33] = xOu s0 s3 s4 := by kernel_rfl
theorem xOv {prog : Nat → Option AFunc} (s0 s3 s4 : AV) (H : Heap) : (lim prog).loop xLj xVC ⟨xOu s0 s3 s4,H⟩ = xB5 (lim prog) xLj xVC (run (lim prog) xJe ⟨xOu s0 s3 s4,H⟩) := xAw _ _ _ _ (by kernel_rfl)
def a18 : AFunc := ⟨34,
 .seq (.region [⟨some 2,.mov (.c (.sl true 0 [])),none⟩])
 (.seq (.region [⟨some 3,.mov (.c (.sl true 0 [])),none⟩])
 (.seq (.seq (.region [⟨some 4,.mov (.c (.int .i64 0)),none⟩])
 (.block 0 (.loop xLj xVC)))
 (.seq (.region [⟨some 33,.mov (.t 3),none⟩,
 ⟨some 2,.mov (.t 33),none⟩])
 (.ret)))),
 [.tmp 2]⟩
def xOw : ACode :=
 .seq (.region [⟨some 21,.bin .lss (.t 20) (.t 19),none⟩])
 (.seq (.cond (.t 21)
 (.skip)
 (.exit 0))
 (.seq (.block 1 (.seq (.region [⟨some 22,.iaddr 6 (.t 18) (.t 20),none⟩,
 ⟨some 23,.load true 6 (.t 22),none⟩,
 ⟨some 7,.box (.c (.agg [.int .u8 0,.int .i64 0,.sl true 0 [],.int .i64 0,.int .i64 0,.int .i64 0])),none⟩,
 ⟨none,.store 6 (.t 7) (.t 23),none⟩])
 (.seq (.region [⟨some 24,.faddr 0 (.t 7),none⟩,
 ⟨some 25,.load false 1 (.t 24),none⟩,
 ⟨some 26,.call 51 [(.t 25)],none⟩])
 (.cond (.t 26)
 (.region [⟨some 27,.mov (.t 5),none⟩,
 ⟨some 28,.mov (.t 5),none⟩,
 ⟨some 29,.nilchk (.t 28),none⟩,
 ⟨some 30,.faddr 1 (.t 29),none⟩,
 ⟨some 31,.load false 1 (.t 30),none⟩,
 ⟨some 32,.appendz [.int .u8 0] 1 (.t 31) (.c (.int .i64 64)),none⟩,
 ⟨some 33,.nilchk (.t 27),none⟩,
 ⟨some 34,.faddr 1 (.t 33),none⟩,
 ⟨none,.store 1 (.t 34) (.t 32),none⟩])
 (.skip)))))
 (.region [⟨some 35,.bin .add (.t 20) (.c (.int .i64 1)),none⟩,
 ⟨some 20,.mov (.t 35),none⟩])))
def xVD : ACode := xOw
def xLk : List Nat := [0,1,2,3,4,6,7,8,9,10,11,12,13,14,15,16,17,21,22,23,24,25,26,27,28,29,30,31,32,33,34,35,36]
abbrev xOx (s5 s18 s19 s20 : AV) : List AV := [.any,.any,.any,.any,.any,s5,.any,.any,.any,.any,.any,.any,.any,.any,.any,.any,.any,.any,s18,s19,s20,.any,.any,.any,.any,.any,.any,.any,.any,.any,.any,.any,.any,.any,.any,.any,.any]
theorem xRL (s0 s1 s2 s3 s4 s5 s6 s7 s8 s9 s10 s11 s12 s13 s14 s15 s16 s17 s18 s19 s20 s21 s22 s23 s24 s25 s26 s27 s28 s29 s30 s31 s32 s33 s34 s35 s36 : AV) : xA5 xLk [s0,s1,s2,s3,s4,s5,s6,s7,s8,s9,s10,s11,s12,s13,s14,s15,s16,s17,s18,s19,s20,s21,s22,s23,s24,s25,s26,s27,s28,s29,s30,s31,s32,s33,s34,s35,s36] = xOx s5 s18 s19 s20 := by kernel_rfl
theorem xVE {prog : Nat → Option AFunc} (s5 s18 s19 s20 : AV) (H : Heap) : (lim prog).loop xLk xVD ⟨xOx s5 s18 s19 s20,H⟩ = xB5 (lim prog) xLk xVD (run (lim prog) xOw ⟨xOx s5 s18 s19 s20,H⟩) := xAw _ _ _ _ (by kernel_rfl)
def a19 : AFunc := ⟨37,
 .seq (.region [⟨some 2,.mov (.c (.nilp)),none⟩,
 ⟨some 3,.mov (.c (.int .i64 0)),none⟩])
 (.seq (.seq (.region [⟨some 8,.mov (.t 0),none⟩,
 ⟨some 9,.call 34 [(.t 8)],none⟩,
 ⟨some 4,.mov (.t 9),none⟩])
 (.seq (.region [⟨some 10,.mov (.t 4),none⟩,
 ⟨some 11,.bin .neq (.t 10) (.c (.int .i64 0)),none⟩])
 (.cond (.t 11)
 (.seq (.region [⟨some 12,.mov (.t 4),none⟩,
 ⟨some 2,.mov (.c (.nilp)),none⟩,
 ⟨some 3,.mov (.t 12),none⟩])
 (.ret))
 (.skip))))
 (.seq (.region [⟨some 13,.mov (.t 0),none⟩,
 ⟨some 14,.call 50 [(.t 13)],none⟩,
 ⟨some 15,.bslice false [.int .u8 0] 1 1 [(0,(.c (.int .u8 0)))],none⟩,
 ⟨some 16,.build [.sl true 0 [],.sl true 0 []] [(0,1,(.t 14)),(1,1,(.t 15))],none⟩,
 ⟨some 17,.box (.t 16),none⟩,
 ⟨some 5,.mov (.t 17),none⟩])
 (.seq (.seq (.region [⟨some 18,.mov (.t 0),none⟩,
 ⟨some 19,.len (.t 18),none⟩,
 ⟨some 20,.mov (.c (.int .i64 0)),none⟩])
 (.block 0 (.loop xLk xVD)))
 (.seq (.region [⟨some 36,.mov (.t 5),none⟩,
 ⟨some 2,.mov (.t 36),none⟩,
 ⟨some 3,.mov (.c (.int .i64 0)),none⟩])
 (.ret))))),
 [.tmp 2,.tmp 3]⟩
def xJg : ACode :=
 .seq (.region [⟨some 41,.bin .lss (.t 40) (.t 39),none⟩])
 (.seq (.cond (.t 41)
 (.skip)
 (.exit 0))
 (.seq (.block 1 (.seq (.region [⟨some 42,.iaddr 6 (.t 38) (.t 40),none⟩,
 ⟨some 43,.load true 6 (.t 42),none⟩,
 ⟨some 10,.box (.c (.agg [.int .u8 0,.int .i64 0,.sl true 0 [],.int .i64 0,.int .i64 0,.int .i64 0])),none⟩,
 ⟨none,.store 6 (.t 10) (.t 43),none⟩])
 (.seq (.seq (.region [⟨some 44,.faddr 0 (.t 10),none⟩,
 ⟨some 45,.load false 1 (.t 44),none⟩,
 ⟨some 46,.call 51 [(.t 45)],none⟩,
 ⟨some 47,.un .not (.t 46),none⟩])
 (.cond (.t 47)
 (.seq (.draw 12 [⟨some 48,.mov (.t 7),none⟩,
 ⟨some 49,.mov (.t 7),none⟩,
 ⟨some 50,.nilchk (.t 49),none⟩,
 ⟨some 51,.faddr 2 (.t 50),none⟩,
 ⟨some 52,.load false 1 (.t 51),none⟩,
 ⟨some 53,.mov (.t 6),none⟩,
 ⟨some 54,.faddr 0 (.t 10),none⟩,
 ⟨some 55,.load false 1 (.t 54),none⟩,
 ⟨some 56,.mlook [0] false (.nilf) (.t 53) (.t 55),none⟩,
 ⟨some 57,.mov (.t 7),none⟩,
 ⟨some 58,.load true 6 (.t 10),none⟩,
 ⟨some 59,.fcall (.t 56) [(.t 57),(.t 58)],none⟩,
 ⟨some 60,.bslice true [.int .u64 0,.int .u64 0,.int .u64 0,.int .u64 0,.int .u64 0,.int .u64 0,.int .u64 0,.int .u64 0] 8 1 [(0,(.t 59))],none⟩,
 ⟨some 61,.append false 8 64 (.t 52) (.t 60),none⟩,
 ⟨some 62,.nilchk (.t 48),none⟩,
 ⟨some 63,.faddr 2 (.t 62),none⟩,
 ⟨none,.store 1 (.t 63) (.t 61),none⟩])
 (.exit 1))
 (.skip)))
 (.seq (.region [⟨some 64,.mov (.t 0),none⟩,
 ⟨some 65,.nilchk (.t 64),none⟩,
 ⟨some 66,.faddr 1 (.t 65),none⟩,
 ⟨some 67,.load false 1 (.t 66),none⟩,
 ⟨some 68,.mov (.t 8),none⟩,
 ⟨some 69,.mov (.t 8),none⟩,
 ⟨some 70,.bin .add (.t 69) (.c (.int .i64 64)),none⟩,
 ⟨some 71,.mov (.t 8),none⟩,
 ⟨some 72,.bin .add (.t 71) (.c (.int .i64 64)),none⟩,
 ⟨some 73,.slice 1 (.t 67) (some (.t 68)) (some (.t 70)) (some (.t 72)),none⟩,
 ⟨some 11,.mov (.t 73),none⟩])
 (.seq (.region [⟨some 74,.mov (.t 7),none⟩,
 ⟨some 75,.mov (.t 11),none⟩,
 ⟨some 76,.call 56 [(.t 75)],none⟩,
 ⟨some 77,.nilchk (.t 74),none⟩,
 ⟨some 78,.faddr 3 (.t 77),none⟩,
 ⟨none,.store 8 (.t 78) (.t 76),none⟩])
 (.seq (.region [⟨some 79,.mov (.t 6),none⟩,
 ⟨some 80,.faddr 0 (.t 10),none⟩,
 ⟨some 81,.load false 1 (.t 80),none⟩,
 ⟨some 82,.mlook [0] false (.nilf) (.t 79) (.t 81),none⟩,
 ⟨some 83,.mov (.t 7),none⟩,
 ⟨some 84,.load true 6 (.t 10),none⟩,
 ⟨some 85,.icall (.t 82) [(.t 83),(.t 84)],none⟩,
 ⟨some 12,.box (.c (.agg [.int .u64 0,.int .u64 0,.int .u64 0,.int .u64 0,.int .u64 0,.int .u64 0,.int .u64 0,.int .u64 0])),none⟩,
 ⟨none,.store 8 (.t 12) (.t 85),none⟩])
 (.seq (.draw 5 [⟨some 86,.mov (.t 7),none⟩,
 ⟨some 87,.mov (.t 7),none⟩,
 ⟨some 88,.nilchk (.t 87),none⟩,
 ⟨some 89,.faddr 2 (.t 88),none⟩,
 ⟨some 90,.load false 1 (.t 89),none⟩,
 ⟨some 91,.load true 8 (.t 12),none⟩,
 ⟨some 92,.bslice true [.int .u64 0,.int .u64 0,.int .u64 0,.int .u64 0,.int .u64 0,.int .u64 0,.int .u64 0,.int .u64 0] 8 1 [(0,(.t 91))],none⟩,
 ⟨some 93,.append false 8 64 (.t 90) (.t 92),none⟩,
 ⟨some 94,.nilchk (.t 86),none⟩,
 ⟨some 95,.faddr 2 (.t 94),none⟩,
 ⟨none,.store 1 (.t 95) (.t 93),none⟩])
 (.seq (.seq (.region [⟨some 96,.faddr 0 (.t 10),none⟩,
 ⟨some 97,.load false 1 (.t 96),none⟩,
 ⟨some 98,.bin .eql (.t 97) (.c (.int .u8 8)),none⟩])
 (.cond (.t 98)
 (.draw 4 [⟨some 99,.mov (.t 7),none⟩,
 ⟨some 100,.nilchk (.t 99),none⟩,
 ⟨some 101,.faddr 2 (.t 100),none⟩,
 ⟨some 102,.load false 1 (.t 101),none⟩,
 ⟨some 103,.faddr 4 (.t 10),none⟩,
 ⟨some 104,.load false 1 (.t 103),none⟩,
 ⟨some 105,.iaddr 8 (.t 102) (.t 104),none⟩,
 ⟨some 106,.load true 8 (.t 105),none⟩,
 ⟨none,.store 8 (.t 12) (.t 106),none⟩])
 (.skip)))
 (.seq (.region [⟨some 107,.mov (.t 11),none⟩,
 ⟨some 108,.load true 8 (.t 12),none⟩,
 ⟨some 109,.icall (.c (.func 57 [])) [(.t 107),(.t 108)],none⟩])
 (.region [⟨some 110,.mov (.t 8),none⟩,
 ⟨some 111,.bin .add (.t 110) (.c (.int .i64 64)),none⟩,
 ⟨some 8,.mov (.t 111),none⟩]))))))))))
 (.region [⟨some 112,.bin .add (.t 40) (.c (.int .i64 1)),none⟩,
 ⟨some 40,.mov (.t 112),none⟩])))
def xMh : ACode := xJg
def xEX : List Nat := [1,2,3,4,5,9,10,11,12,13,14,15,16,17,18,19,20,21,22,23,24,25,26,27,28,29,30,31,32,33,34,35,36,37,41,42,43,44,45,46,47,48,49,50,51,52,53,54,55,56,57,58,59,60,61,62,63,64,65,66,67,68,69,70,71,72,73,74,75,76,77,78,79,80,81,82,83,84,85,86,87,88,89,90,91,92,93,94,95,96,97,98,99,100,101,102,103,104,105,106,107,108,109,110,111,112,113,114,115,116,117,118,119,120,121,122,123,124,125,126,127]
abbrev xOy (s0 s6 s7 s8 s38 s39 s40 : AV) : List AV := [s0,.any,.any,.any,.any,.any,s6,s7,s8,.any,.any,.any,.any,.any,.any,.any,.any,.any,.any,.any,.any,.any,.any,.any,.any,.any,.any,.any,.any,.any,.any,.any,.any,.any,.any,.any,.any,.any,s38,s39,s40,.any,.any,.any,.any,.any,.any,.any,.any,.any,.any,.any,.any,.any,.any,.any,.any,.any,.any,.any,.any,.any,.any,.any,.any,.any,.any,.any,.any,.any,.any,.any,.any,.any,.any,.any,.any,.any,.any,.any,.any,.any,.any,.any,.any,.any,.any,.any,.any,.any,.any,.any,.any,.any,.any,.any,.any,.any,.any,.any,.any,.any,.any,.any,.any,.any,.any,.any,.any,.any,.any,.any,.any,.any,.any,.any,.any,.any,.any,.any,.any,.any,.any,.any,.any,.any,.any,.any]
theorem xLl (s0 s1 s2 s3 s4 s5 s6 s7 s8 s9 s10 s11 s12 s13 s14 s15 s16 s17 s18 s19 s20 s21 s22 s23 s24 s25 s26 s27 s28 s29 s30 s31 s32 s33 s34 s35 s36 s37 s38 s39 s40 s41 s42 s43 s44 s45 s46 s47 s48 s49 s50 s51 s52 s53 s54 s55 s56 s57 s58 s59 s60 s61 s62 s63 s64 s65 s66 s67 s68 s69 s70 s71 s72 s73 s74 s75 s76 s77 s78 s79 s80 s81 s82 s83 s84 s85 s86 s87 s88 s89 s90 s91 s92 s93 s94 s95 s96 s97 s98 s99 s100 s101 s102 s103 s104 s105 s106 s107 s108 s109 s110 s111 s112 s113 s114 s115 s116 s117 s118 s119 s120 s121 s122 s123 s124 s125 s126 s127 : AV) : xA5 xEX [s0,s1,s2,s3,s4,s5,s6,s7,s8,s9,s10,s11,s12,s13,s14,s15,s16,s17,s18,s19,s20,s21,s22,s23,s24,s25,s26,s27,s28,s29,s30,s31,s32,s33,s34,s35,s36,s37,s38,s39,s40,s41,s42,s43,s44,s45,s46,s47,s48,s49,s50,s51,s52,s53,s54,s55,s56,s57,s58,s59,s60,s61,s62,s63,s64,s65,s66,s67,s68,s69,s70,s71,s72,s73,s74,s75,s76,s77,s78,s79,s80,s81,s82,s83,s84,s85,s86,s87,s88,s89,s90,s91,s92,s93,s94,s95,s96,s97,s98,s99,s100,s101,s102,s103,s104,s105,s106,s107,s108,s109,s110,s111,s112,s113,s114,s115,s116,s117,s118,s119,s120,s121,s122,s123,s124,s125,s126,s127] = xOy s0 s6 s7 s8 s38 s39 s40 := by kernel_rfl
theorem xOz {prog : Nat → Option AFunc} (s0 s6 s7 s8 s38 s39 s40 : AV) (H : Heap) : (lim prog).loop xEX xMh ⟨xOy s0 s6 s7 s8 s38 s39 s40,H⟩ = xB5 (lim prog) xEX xMh (run (lim prog) xJg ⟨xOy s0 s6 s7 s8 s38 s39 s40,H⟩) := xAw _ _ _ _ (by kernel_rfl)
def a22 : AFunc := ⟨128,
 .seq (.region [⟨some 3,.box (.t 1),none⟩,
 ⟨some 4,.mov (.c (.bool false)),none⟩,
 ⟨some 5,.mov (.c (.int .i64 0)),none⟩])
 (.seq (.seq (.region [⟨some 13,.mov (.t 0),none⟩,
 ⟨some 14,.pnil false (.t 13),none⟩,
 ⟨some 15,.mov (.t 14),none⟩,
 ⟨some 16,.mov (.t 0),some (15,false)⟩,
 ⟨some 17,.nilchk (.t 16),some (15,false)⟩,
 ⟨some 18,.faddr 0 (.t 17),some (15,false)⟩,
 ⟨some 19,.load false 1 (.t 18),some (15,false)⟩,
 ⟨some 20,.len (.t 19),some (15,false)⟩,
 ⟨some 21,.bin .eql (.t 20) (.c (.int .i64 0)),some (15,false)⟩,
 ⟨some 22,.pick (.t 15) (.c (.bool true)) (.t 21),none⟩])
 (.cond (.t 22)
 (.seq (.region [⟨some 4,.mov (.c (.bool false)),none⟩,
 ⟨some 5,.mov (.c (.int .i64 12)),none⟩])
 (.ret))
 (.skip)))
 (.seq (.seq (.region [⟨some 23,.load true 2 (.t 3),none⟩,
 ⟨some 24,.call 54 [(.t 23)],none⟩,
 ⟨some 25,.un .not (.t 24),none⟩])
 (.cond (.t 25)
 (.seq (.region [⟨some 4,.mov (.c (.bool false)),none⟩,
 ⟨some 5,.mov (.c (.int .i64 1)),none⟩])
 (.ret))
 (.skip)))
 (.seq (.region [⟨some 26,.icall (.c (.func 55 [])) [],none⟩,
 ⟨some 6,.mov (.t 26),none⟩])
 (.seq (.region [⟨some 27,.load true 2 (.t 3),none⟩,
 ⟨some 28,.build [.int .i64 0,.sl true 0 [],.sl true 0 [],.int .u64 0,.int .u64 0,.int .u64 0,.int .u64 0,.int .u64 0,.int .u64 0,.int .u64 0,.int .u64 0,.bool false] [(0,2,(.t 27))],none⟩,
 ⟨some 29,.box (.t 28),none⟩,
 ⟨some 7,.mov (.t 29),none⟩])
 (.seq (.region [⟨some 30,.mov (.t 0),none⟩,
 ⟨some 31,.nilchk (.t 30),none⟩,
 ⟨some 32,.faddr 1 (.t 31),none⟩,
 ⟨some 33,.load false 1 (.t 32),none⟩,
 ⟨some 34,.iaddr 1 (.t 33) (.c (.int .i64 0)),none⟩,
 ⟨none,.store 1 (.t 34) (.c (.int .u8 1)),none⟩])
 (.seq (.region [⟨some 8,.mov (.c (.int .i64 1)),none⟩])
 (.seq (.seq (.region [⟨some 35,.mov (.t 0),none⟩,
 ⟨some 36,.nilchk (.t 35),none⟩,
 ⟨some 37,.faddr 0 (.t 36),none⟩,
 ⟨some 38,.load false 1 (.t 37),none⟩,
 ⟨some 39,.len (.t 38),none⟩,
 ⟨some 40,.mov (.c (.int .i64 0)),none⟩])
 (.block 0 (.loop xEX xMh)))
 (.seq (.draw 4 [⟨some 113,.mov (.t 7),none⟩,
 ⟨some 114,.nilchk (.t 113),none⟩,
 ⟨some 115,.faddr 2 (.t 114),none⟩,
 ⟨some 116,.load false 1 (.t 115),none⟩,
 ⟨some 117,.mov (.t 7),none⟩,
 ⟨some 118,.nilchk (.t 117),none⟩,
 ⟨some 119,.faddr 2 (.t 118),none⟩,
 ⟨some 120,.load false 1 (.t 119),none⟩,
 ⟨some 121,.len (.t 120),none⟩,
 ⟨some 122,.bin .sub (.t 121) (.c (.int .i64 1)),none⟩,
 ⟨some 123,.iaddr 8 (.t 116) (.t 122),none⟩,
 ⟨some 124,.arrat 1 8 (.t 123) (.c (.int .i64 0)),none⟩,
 ⟨some 125,.load false 1 (.t 124),none⟩,
 ⟨some 126,.bin .and (.t 125) (.c (.int .u64 1)),none⟩,
 ⟨some 127,.bin .neq (.t 126) (.c (.int .u64 0)),none⟩,
 ⟨some 4,.mov (.t 127),none⟩,
 ⟨some 5,.mov (.c (.int .i64 0)),none⟩])
 (.ret))))))))),
 [.tmp 4,.tmp 5]⟩
def a24 : AFunc := ⟨10,
 .seq (.region [⟨some 2,.mov (.c (.sl true 0 [])),none⟩])
 (.seq (.seq (.region [⟨some 3,.mov (.t 0),none⟩,
 ⟨some 4,.pnil false (.t 3),none⟩])
 (.cond (.t 4)
 (.seq (.region [⟨some 2,.mov (.c (.sl true 0 [])),none⟩])
 (.ret))
 (.skip)))
 (.seq (.region [⟨some 5,.mov (.t 0),none⟩,
 ⟨some 6,.nilchk (.t 5),none⟩,
 ⟨some 7,.faddr 1 (.t 6),none⟩,
 ⟨some 8,.load false 1 (.t 7),none⟩,
 ⟨some 9,.icall (.c (.func 60 [])) [(.t 8)],none⟩,
 ⟨some 2,.mov (.t 9),none⟩])
 (.ret))),
 [.tmp 2]⟩
def xLm : ACode :=
 .seq (.seq (.region [⟨some 11,.mov (.t 5),none⟩,
 ⟨some 12,.mov (.t 0),none⟩,
 ⟨some 13,.len (.t 12),none⟩,
 ⟨some 14,.bin .lss (.t 11) (.t 13),none⟩])
 (.cond (.t 14)
 (.skip)
 (.exit 0)))
 (.seq (.block 1 (.seq (.draw 5 [⟨some 17,.mov (.t 0),none⟩,
 ⟨some 18,.mov (.t 5),none⟩,
 ⟨some 19,.iaddr 1 (.t 17) (.t 18),none⟩,
 ⟨some 20,.load false 1 (.t 19),none⟩,
 ⟨some 21,.mov (.t 1),none⟩,
 ⟨some 22,.mov (.t 5),none⟩,
 ⟨some 23,.iaddr 1 (.t 21) (.t 22),none⟩,
 ⟨some 24,.load false 1 (.t 23),none⟩,
 ⟨some 25,.bin .neq (.t 20) (.t 24),none⟩])
 (.cond (.t 25)
 (.seq (.region [⟨some 4,.mov (.c (.bool false)),none⟩])
 (.ret))
 (.skip))))
 (.region [⟨some 15,.mov (.t 5),none⟩,
 ⟨some 16,.bin .add (.t 15) (.c (.int .i64 1)),none⟩,
 ⟨some 5,.mov (.t 16),none⟩]))
def xXB : ACode := xLm
def xOA : List Nat := [2,3,6,7,8,9,10,11,12,13,14,15,16,17,18,19,20,21,22,23,24,25]
abbrev xLn (s0 s1 s4 s5 : AV) : List AV := [s0,s1,.any,.any,s4,s5,.any,.any,.any,.any,.any,.any,.any,.any,.any,.any,.any,.any,.any,.any,.any,.any,.any,.any,.any,.any]
theorem xLo (s0 s1 s2 s3 s4 s5 s6 s7 s8 s9 s10 s11 s12 s13 s14 s15 s16 s17 s18 s19 s20 s21 s22 s23 s24 s25 : AV) : xA5 xOA [s0,s1,s2,s3,s4,s5,s6,s7,s8,s9,s10,s11,s12,s13,s14,s15,s16,s17,s18,s19,s20,s21,s22,s23,s24,s25] = xLn s0 s1 s4 s5 := by kernel_rfl
theorem xVF {prog : Nat → Option AFunc} (s0 s1 s4 s5 : AV) (H : Heap) : (lim prog).loop xOA xXB ⟨xLn s0 s1 s4 s5,H⟩ = xB5 (lim prog) xOA xXB (run (lim prog) xLm ⟨xLn s0 s1 s4 s5,H⟩) := xAw _ _ _ _ (by kernel_rfl)
def a25 : AFunc := ⟨26,
 .seq (.region [⟨some 4,.mov (.c (.bool false)),none⟩])
 (.seq (.seq (.region [⟨some 6,.mov (.t 0),none⟩,
 ⟨some 7,.len (.t 6),none⟩,
 ⟨some 8,.mov (.t 1),none⟩,
 ⟨some 9,.len (.t 8),none⟩,
 ⟨some 10,.bin .neq (.t 7) (.t 9),none⟩])
 (.cond (.t 10)
 (.seq (.region [⟨some 4,.mov (.c (.bool false)),none⟩])
 (.ret))
 (.skip)))
 (.seq (.seq (.region [⟨some 5,.mov (.c (.int .i64 0)),none⟩])
 (.block 0 (.loop xOA xXB)))
 (.seq (.region [⟨some 4,.mov (.c (.bool true)),none⟩])
 (.ret)))),
 [.tmp 4]⟩
def a29 : AFunc := ⟨53,
 .seq (.region [⟨some 4,.mov (.c (.nilp)),none⟩,
 ⟨some 5,.mov (.c (.int .i64 0)),none⟩])
 (.seq (.region [⟨some 9,.mov (.t 0),none⟩,
 ⟨some 10,.icall (.c (.func 19 [])) [(.t 9)],none⟩,
 ⟨some 8,.mov (.t 10),none⟩,
 ⟨some 11,.ext 0 (.t 8),none⟩,
 ⟨some 12,.ext 1 (.t 8),none⟩,
 ⟨some 6,.mov (.t 11),none⟩,
 ⟨some 7,.mov (.t 12),none⟩])
 (.seq (.block 0 (.seq (.region [⟨some 14,.mov (.t 7),none⟩,
 ⟨some 15,.bin .neq (.t 14) (.c (.int .i64 0)),none⟩,
 ⟨some 13,.mov (.t 15),none⟩])
 (.cond (.t 13)
 (.seq (.region [⟨some 16,.mov (.t 7),none⟩,
 ⟨some 4,.mov (.c (.nilp)),none⟩,
 ⟨some 5,.mov (.t 16),none⟩])
 (.ret))
 (.seq (.region [⟨some 18,.mov (.t 1),none⟩,
 ⟨some 19,.len (.t 18),none⟩,
 ⟨some 20,.mov (.t 6),none⟩,
 ⟨some 21,.nilchk (.t 20),none⟩,
 ⟨some 22,.faddr 1 (.t 21),none⟩,
 ⟨some 23,.load false 1 (.t 22),none⟩,
 ⟨some 24,.len (.t 23),none⟩,
 ⟨some 25,.bin .neq (.t 19) (.t 24),none⟩,
 ⟨some 26,.mov (.t 25),none⟩,
 ⟨some 27,.mov (.t 1),some (26,false)⟩,
 ⟨some 28,.iaddr 1 (.t 27) (.c (.int .i64 0)),some (26,false)⟩,
 ⟨some 29,.load false 1 (.t 28),some (26,false)⟩,
 ⟨some 30,.bin .gtr (.t 29) (.c (.int .u8 1)),some (26,false)⟩,
 ⟨some 31,.pick (.t 26) (.c (.bool true)) (.t 30),none⟩,
 ⟨some 32,.mov (.t 31),none⟩,
 ⟨some 33,.mov (.t 1),some (32,false)⟩,
 ⟨some 34,.iaddr 1 (.t 33) (.c (.int .i64 0)),some (32,false)⟩,
 ⟨some 35,.load false 1 (.t 34),some (32,false)⟩,
 ⟨some 36,.bin .eql (.t 35) (.c (.int .u8 0)),some (32,false)⟩,
 ⟨some 37,.mov (.t 36),some (32,false)⟩,
 ⟨some 38,.mov (.t 1),some (37,true)⟩,
 ⟨some 39,.mov (.t 6),some (37,true)⟩,
 ⟨some 40,.nilchk (.t 39),some (37,true)⟩,
 ⟨some 41,.faddr 1 (.t 40),some (37,true)⟩,
 ⟨some 42,.load false 1 (.t 41),some (37,true)⟩,
 ⟨some 43,.icall (.c (.func 62 [])) [(.t 38),(.t 42)],some (37,true)⟩,
 ⟨some 44,.un .not (.t 43),some (37,true)⟩,
 ⟨some 45,.pick (.t 37) (.t 44) (.c (.bool false)),some (32,false)⟩,
 ⟨some 46,.pick (.t 32) (.c (.bool true)) (.t 45),none⟩,
 ⟨some 17,.mov (.t 46),none⟩])
 (.cond (.t 17)
 (.seq (.region [⟨some 4,.mov (.c (.nilp)),none⟩,
 ⟨some 5,.mov (.c (.int .i64 2)),none⟩])
 (.ret))
 (.skip))))))
 (.seq (.region [⟨some 47,.mov (.t 6),none⟩,
 ⟨some 48,.mov (.t 1),none⟩,
 ⟨some 49,.icall (.c (.func 60 [])) [(.t 48)],none⟩,
 ⟨some 50,.nilchk (.t 47),none⟩,
 ⟨some 51,.faddr 1 (.t 50),none⟩,
 ⟨none,.store 1 (.t 51) (.t 49),none⟩])
 (.seq (.region [⟨some 52,.mov (.t 6),none⟩,
 ⟨some 4,.mov (.t 52),none⟩,
 ⟨some 5,.mov (.c (.int .i64 0)),none⟩])
 (.ret))))),
 [.tmp 4,.tmp 5]⟩
def xFO : ACode :=
 .seq (.seq (.region [⟨some 15,.mov (.t 10),none⟩,
 ⟨some 16,.mov (.t 1),none⟩,
 ⟨some 17,.len (.t 16),none⟩,
 ⟨some 18,.bin .lss (.t 15) (.t 17),none⟩,
 ⟨some 19,.mov (.t 18),none⟩,
 ⟨some 20,.mov (.t 9),some (19,true)⟩,
 ⟨some 21,.len (.t 20),some (19,true)⟩,
 ⟨some 22,.mov (.t 2),some (19,true)⟩,
 ⟨some 23,.bin .lss (.t 21) (.t 22),some (19,true)⟩,
 ⟨some 24,.pick (.t 19) (.t 23) (.c (.bool false)),none⟩])
 (.cond (.t 24)
 (.skip)
 (.exit 0)))
 (.seq (.block 1 (.seq (.region [⟨some 28,.build [.int .u8 0,.int .i64 0,.sl true 0 [],.int .i64 0,.int .i64 0,.int .i64 0] [(0,1,(.c (.int .u8 1)))],none⟩,
 ⟨some 29,.bslice true [.int .u8 0,.int .i64 0,.sl true 0 [],.int .i64 0,.int .i64 0,.int .i64 0] 6 1 [(0,(.t 28))],none⟩,
 ⟨some 30,.mov (.t 1),none⟩,
 ⟨some 31,.mov (.t 10),none⟩,
 ⟨some 32,.mov (.t 10),none⟩,
 ⟨some 33,.bin .add (.t 32) (.c (.int .i64 1)),none⟩,
 ⟨some 34,.slice 2 (.t 30) (some (.t 31)) (some (.t 33)) none,none⟩,
 ⟨some 35,.call 35 [(.t 29),(.t 34)],none⟩,
 ⟨some 27,.mov (.t 35),none⟩,
 ⟨some 36,.ext 0 (.t 27),none⟩,
 ⟨some 37,.ext 1 (.t 27),none⟩,
 ⟨some 11,.mov (.t 36),none⟩,
 ⟨some 12,.mov (.t 37),none⟩])
 (.seq (.region [⟨some 38,.mov (.t 12),none⟩,
 ⟨some 39,.bin .eql (.t 38) (.c (.int .i64 0)),none⟩])
 (.cond (.t 39)
 (.region [⟨some 40,.mov (.t 9),none⟩,
 ⟨some 41,.mov (.t 1),none⟩,
 ⟨some 42,.mov (.t 10),none⟩,
 ⟨some 43,.iaddr 2 (.t 41) (.t 42),none⟩,
 ⟨some 44,.load true 2 (.t 43),none⟩,
 ⟨some 45,.bslice true [.int .i64 0,.sl true 0 []] 2 1 [(0,(.t 44))],none⟩,
 ⟨some 46,.append false 2 32 (.t 40) (.t 45),none⟩,
 ⟨some 9,.mov (.t 46),none⟩])
 (.skip)))))
 (.region [⟨some 25,.mov (.t 10),none⟩,
 ⟨some 26,.bin .add (.t 25) (.c (.int .i64 1)),none⟩,
 ⟨some 10,.mov (.t 26),none⟩]))
def xVG : ACode := xFO
def xLp : List Nat := [3,4,5,6,7,8,11,12,13,14,15,16,17,18,19,20,21,22,23,24,25,26,27,28,29,30,31,32,33,34,35,36,37,38,39,40,41,42,43,44,45,46,47,48,49,50,51,52,53,54,55,56,57,58,59,60,61,62,63]
abbrev xOB (s0 s1 s2 s9 s10 : AV) : List AV := [s0,s1,s2,.any,.any,.any,.any,.any,.any,s9,s10,.any,.any,.any,.any,.any,.any,.any,.any,.any,.any,.any,.any,.any,.any,.any,.any,.any,.any,.any,.any,.any,.any,.any,.any,.any,.any,.any,.any,.any,.any,.any,.any,.any,.any,.any,.any,.any,.any,.any,.any,.any,.any,.any,.any,.any,.any,.any,.any,.any,.any,.any,.any,.any]
theorem xEx (s0 s1 s2 s3 s4 s5 s6 s7 s8 s9 s10 s11 s12 s13 s14 s15 s16 s17 s18 s19 s20 s21 s22 s23 s24 s25 s26 s27 s28 s29 s30 s31 s32 s33 s34 s35 s36 s37 s38 s39 s40 s41 s42 s43 s44 s45 s46 s47 s48 s49 s50 s51 s52 s53 s54 s55 s56 s57 s58 s59 s60 s61 s62 s63 : AV) : xA5 xLp [s0,s1,s2,s3,s4,s5,s6,s7,s8,s9,s10,s11,s12,s13,s14,s15,s16,s17,s18,s19,s20,s21,s22,s23,s24,s25,s26,s27,s28,s29,s30,s31,s32,s33,s34,s35,s36,s37,s38,s39,s40,s41,s42,s43,s44,s45,s46,s47,s48,s49,s50,s51,s52,s53,s54,s55,s56,s57,s58,s59,s60,s61,s62,s63] = xOB s0 s1 s2 s9 s10 := by kernel_rfl
theorem xJh {prog : Nat → Option AFunc} (s0 s1 s2 s9 s10 : AV) (H : Heap) : (lim prog).loop xLp xVG ⟨xOB s0 s1 s2 s9 s10,H⟩ = xB5 (lim prog) xLp xVG (run (lim prog) xFO ⟨xOB s0 s1 s2 s9 s10,H⟩) := xAw _ _ _ _ (by kernel_rfl)
def a33 : AFunc := ⟨64,
 .seq (.region [⟨some 6,.mov (.c (.sl true 0 [])),none⟩,
 ⟨some 7,.mov (.c (.sl true 0 [])),none⟩,
 ⟨some 8,.mov (.c (.bool false)),none⟩])
 (.seq (.region [⟨some 9,.mov (.c (.sl true 0 [])),none⟩])
 (.seq (.seq (.region [⟨some 10,.mov (.c (.int .i64 0)),none⟩])
 (.block 0 (.loop xLp xVG)))
 (.seq (.region [⟨some 48,.mov (.t 0),none⟩,
 ⟨some 49,.mov (.t 9),none⟩,
 ⟨some 50,.call 35 [(.t 48),(.t 49)],none⟩,
 ⟨some 47,.mov (.t 50),none⟩,
 ⟨some 51,.ext 0 (.t 47),none⟩,
 ⟨some 52,.ext 1 (.t 47),none⟩,
 ⟨some 13,.mov (.t 51),none⟩,
 ⟨some 14,.mov (.t 52),none⟩])
 (.seq (.region [⟨some 53,.mov (.t 13),none⟩,
 ⟨some 54,.mov (.t 9),none⟩,
 ⟨some 55,.mov (.t 14),none⟩,
 ⟨some 56,.bin .eql (.t 55) (.c (.int .i64 0)),none⟩,
 ⟨some 57,.mov (.t 56),none⟩,
 ⟨some 58,.mov (.t 13),some (57,true)⟩,
 ⟨some 59,.len (.t 58),some (57,true)⟩,
 ⟨some 60,.mov (.t 9),some (57,true)⟩,
 ⟨some 61,.len (.t 60),some (57,true)⟩,
 ⟨some 62,.bin .eql (.t 59) (.t 61),some (57,true)⟩,
 ⟨some 63,.pick (.t 57) (.t 62) (.c (.bool false)),none⟩,
 ⟨some 6,.mov (.t 53),none⟩,
 ⟨some 7,.mov (.t 54),none⟩,
 ⟨some 8,.mov (.t 63),none⟩])
 (.ret))))),
 [.tmp 6,.tmp 7,.tmp 8]⟩
def xOC : ACode :=
 .seq (.region [⟨some 20,.bin .lss (.t 19) (.t 18),none⟩])
 (.seq (.cond (.t 20)
 (.skip)
 (.exit 1))
 (.seq (.block 2 (.seq (.region [⟨some 21,.mov (.t 19),none⟩,
 ⟨some 22,.iaddr 6 (.t 17) (.t 19),none⟩,
 ⟨some 23,.load true 6 (.t 22),none⟩,
 ⟨some 5,.box (.c (.agg [.int .u8 0,.int .i64 0,.sl true 0 [],.int .i64 0,.int .i64 0,.int .i64 0])),none⟩,
 ⟨some 4,.mov (.t 21),none⟩,
 ⟨none,.store 6 (.t 5) (.t 23),none⟩])
 (.seq (.draw 2 [⟨some 24,.load true 6 (.t 5),none⟩,
 ⟨some 25,.mov (.t 3),none⟩,
 ⟨some 26,.mov (.t 4),none⟩,
 ⟨some 27,.iaddr 1 (.t 25) (.t 26),none⟩,
 ⟨some 28,.load false 1 (.t 27),none⟩,
 ⟨some 29,.call 67 [(.t 24),(.t 28)],none⟩,
 ⟨some 6,.mov (.t 29),none⟩])
 (.seq (.region [⟨some 30,.mov (.t 6),none⟩,
 ⟨some 31,.bin .neq (.t 30) (.c (.int .i64 0)),none⟩])
 (.cond (.t 31)
 (.seq (.region [⟨some 32,.mov (.t 6),none⟩,
 ⟨some 2,.mov (.t 32),none⟩])
 (.ret))
 (.skip))))))
 (.region [⟨some 33,.bin .add (.t 19) (.c (.int .i64 1)),none⟩,
 ⟨some 19,.mov (.t 33),none⟩])))
def xVH : ACode := xOC
def xLq : List Nat := [1,4,5,6,7,8,9,10,11,12,13,14,15,16,20,21,22,23,24,25,26,27,28,29,30,31,32,33,34,35,36,37,38,39,40,41,42,43,44,45,46,47,48,49]
abbrev xOD (s0 s2 s3 s17 s18 s19 : AV) : List AV := [s0,.any,s2,s3,.any,.any,.any,.any,.any,.any,.any,.any,.any,.any,.any,.any,.any,s17,s18,s19,.any,.any,.any,.any,.any,.any,.any,.any,.any,.any,.any,.any,.any,.any,.any,.any,.any,.any,.any,.any,.any,.any,.any,.any,.any,.any,.any,.any,.any,.any]
theorem xJi (s0 s1 s2 s3 s4 s5 s6 s7 s8 s9 s10 s11 s12 s13 s14 s15 s16 s17 s18 s19 s20 s21 s22 s23 s24 s25 s26 s27 s28 s29 s30 s31 s32 s33 s34 s35 s36 s37 s38 s39 s40 s41 s42 s43 s44 s45 s46 s47 s48 s49 : AV) : xA5 xLq [s0,s1,s2,s3,s4,s5,s6,s7,s8,s9,s10,s11,s12,s13,s14,s15,s16,s17,s18,s19,s20,s21,s22,s23,s24,s25,s26,s27,s28,s29,s30,s31,s32,s33,s34,s35,s36,s37,s38,s39,s40,s41,s42,s43,s44,s45,s46,s47,s48,s49] = xOD s0 s2 s3 s17 s18 s19 := by kernel_rfl
theorem xVI {prog : Nat → Option AFunc} (s0 s2 s3 s17 s18 s19 : AV) (H : Heap) : (lim prog).loop xLq xVH ⟨xOD s0 s2 s3 s17 s18 s19,H⟩ = xB5 (lim prog) xLq xVH (run (lim prog) xOC ⟨xOD s0 s2 s3 s17 s18 s19,H⟩) := xAw _ _ _ _ (by kernel_rfl)
def a34 : AFunc := ⟨50,
 .seq (.region [⟨some 2,.mov (.c (.int .i64 0)),none⟩])
 (.seq (.block 0 (.seq (.region [⟨some 8,.mov (.t 0),none⟩,
 ⟨some 9,.len (.t 8),none⟩,
 ⟨some 10,.bin .eql (.t 9) (.c (.int .i64 0)),none⟩,
 ⟨some 7,.mov (.t 10),none⟩])
 (.cond (.t 7)
 (.seq (.region [⟨some 2,.mov (.c (.int .i64 3)),none⟩])
 (.ret))
 (.seq (.region [⟨some 12,.mov (.t 0),none⟩,
 ⟨some 13,.len (.t 12),none⟩,
 ⟨some 14,.bin .gtr (.t 13) (.c (.int .i64 64)),none⟩,
 ⟨some 11,.mov (.t 14),none⟩])
 (.cond (.t 11)
 (.seq (.region [⟨some 2,.mov (.c (.int .i64 4)),none⟩])
 (.ret))
 (.skip))))))
 (.seq (.region [⟨some 15,.mov (.t 0),none⟩,
 ⟨some 16,.call 66 [(.t 15)],none⟩,
 ⟨some 3,.mov (.t 16),none⟩])
 (.seq (.seq (.region [⟨some 17,.mov (.t 0),none⟩,
 ⟨some 18,.len (.t 17),none⟩,
 ⟨some 19,.mov (.c (.int .i64 0)),none⟩])
 (.block 1 (.loop xLq xVH)))
 (.seq (.block 3 (.seq (.region [⟨some 35,.mov (.t 3),none⟩,
 ⟨some 36,.mov (.t 0),none⟩,
 ⟨some 37,.len (.t 36),none⟩,
 ⟨some 38,.bin .sub (.t 37) (.c (.int .i64 1)),none⟩,
 ⟨some 39,.iaddr 1 (.t 35) (.t 38),none⟩,
 ⟨some 40,.load false 1 (.t 39),none⟩,
 ⟨some 41,.mov (.t 0),none⟩,
 ⟨some 42,.len (.t 41),none⟩,
 ⟨some 43,.bin .neq (.t 40) (.t 42),none⟩,
 ⟨some 34,.mov (.t 43),none⟩])
 (.cond (.t 34)
 (.seq (.region [⟨some 2,.mov (.c (.int .i64 2)),none⟩])
 (.ret))
 (.seq (.region [⟨some 45,.mov (.t 0),none⟩,
 ⟨some 46,.mov (.t 0),none⟩,
 ⟨some 47,.len (.t 46),none⟩,
 ⟨some 48,.bin .sub (.t 47) (.c (.int .i64 1)),none⟩,
 ⟨some 49,.call 42 [(.t 45),(.t 48),(.c (.int .u64 0))],none⟩,
 ⟨some 44,.mov (.t 49),none⟩])
 (.cond (.t 44)
 (.seq (.region [⟨some 2,.mov (.c (.int .i64 11)),none⟩])
 (.ret))
 (.skip))))))
 (.seq (.region [⟨some 2,.mov (.c (.int .i64 0)),none⟩])
 (.ret)))))),
 [.tmp 2]⟩
def xLr : ACode :=
 .seq (.region [⟨some 29,.bin .lss (.t 28) (.t 27),none⟩])
 (.seq (.cond (.t 29)
 (.skip)
 (.exit 1))
 (.seq (.block 2 (.seq (.region [⟨some 30,.iaddr 2 (.t 26) (.t 28),none⟩,
 ⟨some 31,.load true 2 (.t 30),none⟩,
 ⟨some 10,.box (.c (.agg [.int .i64 0,.sl true 0 []])),none⟩,
 ⟨none,.store 2 (.t 10) (.t 31),none⟩])
 (.seq (.region [⟨some 33,.mov (.t 6),none⟩,
 ⟨some 34,.load true 2 (.t 10),none⟩,
 ⟨some 35,.icall (.c (.func 22 [])) [(.t 33),(.t 34)],none⟩,
 ⟨some 32,.mov (.t 35),none⟩,
 ⟨some 36,.ext 0 (.t 32),none⟩,
 ⟨some 37,.ext 1 (.t 32),none⟩,
 ⟨some 11,.mov (.t 36),none⟩,
 ⟨some 12,.mov (.t 37),none⟩])
 (.seq (.seq (.region [⟨some 38,.mov (.t 12),none⟩,
 ⟨some 39,.bin .neq (.t 38) (.c (.int .i64 0)),none⟩])
 (.cond (.t 39)
 (.seq (.region [⟨some 40,.mov (.t 12),none⟩,
 ⟨some 4,.mov (.c (.sl true 0 [])),none⟩,
 ⟨some 5,.mov (.t 40),none⟩])
 (.ret))
 (.skip)))
 (.region [⟨some 41,.mov (.t 8),none⟩,
 ⟨some 42,.mov (.t 11),none⟩,
 ⟨some 43,.bslice true [.bool false] 1 1 [(0,(.t 42))],none⟩,
 ⟨some 44,.append false 1 1 (.t 41) (.t 43),none⟩,
 ⟨some 8,.mov (.t 44),none⟩])))))
 (.region [⟨some 45,.bin .add (.t 28) (.c (.int .i64 1)),none⟩,
 ⟨some 28,.mov (.t 45),none⟩])))
def xS1 : ACode := xLr
def xJj : List Nat := [0,1,2,3,7,9,10,11,12,13,14,15,16,17,18,19,20,21,22,23,24,25,29,30,31,32,33,34,35,36,37,38,39,40,41,42,43,44,45,46]
abbrev xOE (s4 s5 s6 s8 s26 s27 s28 : AV) : List AV := [.any,.any,.any,.any,s4,s5,s6,.any,s8,.any,.any,.any,.any,.any,.any,.any,.any,.any,.any,.any,.any,.any,.any,.any,.any,.any,s26,s27,s28,.any,.any,.any,.any,.any,.any,.any,.any,.any,.any,.any,.any,.any,.any,.any,.any,.any,.any]
theorem xJk (s0 s1 s2 s3 s4 s5 s6 s7 s8 s9 s10 s11 s12 s13 s14 s15 s16 s17 s18 s19 s20 s21 s22 s23 s24 s25 s26 s27 s28 s29 s30 s31 s32 s33 s34 s35 s36 s37 s38 s39 s40 s41 s42 s43 s44 s45 s46 : AV) : xA5 xJj [s0,s1,s2,s3,s4,s5,s6,s7,s8,s9,s10,s11,s12,s13,s14,s15,s16,s17,s18,s19,s20,s21,s22,s23,s24,s25,s26,s27,s28,s29,s30,s31,s32,s33,s34,s35,s36,s37,s38,s39,s40,s41,s42,s43,s44,s45,s46] = xOE s4 s5 s6 s8 s26 s27 s28 := by kernel_rfl
theorem xRM {prog : Nat → Option AFunc} (s4 s5 s6 s8 s26 s27 s28 : AV) (H : Heap) : (lim prog).loop xJj xS1 ⟨xOE s4 s5 s6 s8 s26 s27 s28,H⟩ = xB5 (lim prog) xJj xS1 (run (lim prog) xLr ⟨xOE s4 s5 s6 s8 s26 s27 s28,H⟩) := xAw _ _ _ _ (by kernel_rfl)
def a35 : AFunc := ⟨47,
 .seq (.region [⟨some 4,.mov (.c (.sl true 0 [])),none⟩,
 ⟨some 5,.mov (.c (.int .i64 0)),none⟩])
 (.seq (.region [⟨some 14,.mov (.t 0),none⟩,
 ⟨some 15,.icall (.c (.func 19 [])) [(.t 14)],none⟩,
 ⟨some 13,.mov (.t 15),none⟩,
 ⟨some 16,.ext 0 (.t 13),none⟩,
 ⟨some 17,.ext 1 (.t 13),none⟩,
 ⟨some 6,.mov (.t 16),none⟩,
 ⟨some 7,.mov (.t 17),none⟩])
 (.seq (.block 0 (.seq (.region [⟨some 19,.mov (.t 7),none⟩,
 ⟨some 20,.bin .neq (.t 19) (.c (.int .i64 0)),none⟩,
 ⟨some 18,.mov (.t 20),none⟩])
 (.cond (.t 18)
 (.seq (.region [⟨some 21,.mov (.t 7),none⟩,
 ⟨some 4,.mov (.c (.sl true 0 [])),none⟩,
 ⟨some 5,.mov (.t 21),none⟩])
 (.ret))
 (.seq (.region [⟨some 23,.mov (.t 1),none⟩,
 ⟨some 24,.len (.t 23),none⟩,
 ⟨some 25,.bin .gtr (.t 24) (.c (.int .i64 64)),none⟩,
 ⟨some 22,.mov (.t 25),none⟩])
 (.cond (.t 22)
 (.seq (.region [⟨some 4,.mov (.c (.sl true 0 [])),none⟩,
 ⟨some 5,.mov (.c (.int .i64 4)),none⟩])
 (.ret))
 (.skip))))))
 (.seq (.region [⟨some 8,.mov (.c (.sl true 0 [])),none⟩])
 (.seq (.seq (.region [⟨some 26,.mov (.t 1),none⟩,
 ⟨some 27,.len (.t 26),none⟩,
 ⟨some 28,.mov (.c (.int .i64 0)),none⟩])
 (.block 1 (.loop xJj xS1)))
 (.seq (.region [⟨some 46,.mov (.t 8),none⟩,
 ⟨some 4,.mov (.t 46),none⟩,
 ⟨some 5,.mov (.c (.int .i64 0)),none⟩])
 (.ret)))))),
 [.tmp 4,.tmp 5]⟩
def xLs : ACode :=
 .seq (.seq (.region [⟨some 11,.mov (.t 5),none⟩,
 ⟨some 12,.mov (.t 0),none⟩,
 ⟨some 13,.len (.t 12),none⟩,
 ⟨some 14,.bin .lss (.t 11) (.t 13),none⟩])
 (.cond (.t 14)
 (.skip)
 (.exit 0)))
 (.seq (.block 1 (.seq (.draw 5 [⟨some 17,.mov (.t 0),none⟩,
 ⟨some 18,.mov (.t 5),none⟩,
 ⟨some 19,.iaddr 1 (.t 17) (.t 18),none⟩,
 ⟨some 20,.load false 1 (.t 19),none⟩,
 ⟨some 21,.mov (.t 1),none⟩,
 ⟨some 22,.mov (.t 5),none⟩,
 ⟨some 23,.iaddr 1 (.t 21) (.t 22),none⟩,
 ⟨some 24,.load false 1 (.t 23),none⟩,
 ⟨some 25,.beq true (.t 20) (.t 24),none⟩])
 (.cond (.t 25)
 (.seq (.region [⟨some 4,.mov (.c (.bool false)),none⟩])
 (.ret))
 (.skip))))
 (.region [⟨some 15,.mov (.t 5),none⟩,
 ⟨some 16,.bin .add (.t 15) (.c (.int .i64 1)),none⟩,
 ⟨some 5,.mov (.t 16),none⟩]))
def xXC : ACode := xLs
def xOF : List Nat := [2,3,6,7,8,9,10,11,12,13,14,15,16,17,18,19,20,21,22,23,24,25]
abbrev xLt (s0 s1 s4 s5 : AV) : List AV := [s0,s1,.any,.any,s4,s5,.any,.any,.any,.any,.any,.any,.any,.any,.any,.any,.any,.any,.any,.any,.any,.any,.any,.any,.any,.any]
theorem xLu (s0 s1 s2 s3 s4 s5 s6 s7 s8 s9 s10 s11 s12 s13 s14 s15 s16 s17 s18 s19 s20 s21 s22 s23 s24 s25 : AV) : xA5 xOF [s0,s1,s2,s3,s4,s5,s6,s7,s8,s9,s10,s11,s12,s13,s14,s15,s16,s17,s18,s19,s20,s21,s22,s23,s24,s25] = xLt s0 s1 s4 s5 := by kernel_rfl
theorem xVJ {prog : Nat → Option AFunc} (s0 s1 s4 s5 : AV) (H : Heap) : (lim prog).loop xOF xXC ⟨xLt s0 s1 s4 s5,H⟩ = xB5 (lim prog) xOF xXC (run (lim prog) xLs ⟨xLt s0 s1 s4 s5,H⟩) := xAw _ _ _ _ (by kernel_rfl)
def a36 : AFunc := ⟨26,
 .seq (.region [⟨some 4,.mov (.c (.bool false)),none⟩])
 (.seq (.seq (.region [⟨some 6,.mov (.t 0),none⟩,
 ⟨some 7,.len (.t 6),none⟩,
 ⟨some 8,.mov (.t 1),none⟩,
 ⟨some 9,.len (.t 8),none⟩,
 ⟨some 10,.bin .neq (.t 7) (.t 9),none⟩])
 (.cond (.t 10)
 (.seq (.region [⟨some 4,.mov (.c (.bool false)),none⟩])
 (.ret))
 (.skip)))
 (.seq (.seq (.region [⟨some 5,.mov (.c (.int .i64 0)),none⟩])
 (.block 0 (.loop xOF xXC)))
 (.seq (.region [⟨some 4,.mov (.c (.bool true)),none⟩])
 (.ret)))),
 [.tmp 4]⟩
def a39 : AFunc := ⟨13,
 .seq (.region [⟨some 2,.mov (.c (.sl true 0 [])),none⟩])
 (.seq (.region [⟨some 7,.mov (.t 0),none⟩,
 ⟨some 8,.call 12 [(.t 7)],none⟩,
 ⟨some 6,.mov (.t 8),none⟩,
 ⟨some 9,.ext 0 (.t 6),none⟩,
 ⟨some 10,.ext 1 (.t 6),none⟩,
 ⟨some 11,.ext 2 (.t 6),none⟩,
 ⟨some 3,.mov (.t 9),none⟩,
 ⟨some 4,.mov (.t 10),none⟩,
 ⟨some 5,.mov (.t 11),none⟩])
 (.seq (.region [⟨some 12,.mov (.t 3),none⟩,
 ⟨some 2,.mov (.t 12),none⟩])
 (.ret))),
 [.tmp 2]⟩
def yBX : ACode :=
 .seq (.seq (.draw 34 [⟨some 54,.faddr 2 (.t 4),none⟩,
 ⟨some 55,.load false 1 (.t 54),none⟩,
 ⟨some 56,.len (.t 55),none⟩,
 ⟨some 57,.faddr 3 (.t 5),none⟩,
 ⟨some 58,.load false 1 (.t 57),none⟩,
 ⟨some 59,.bin .lss (.t 56) (.t 58),none⟩,
 ⟨some 60,.mov (.t 59),none⟩,
 ⟨some 61,.faddr 2 (.t 4),some (60,true)⟩,
 ⟨some 62,.load false 1 (.t 61),some (60,true)⟩,
 ⟨some 63,.len (.t 62),some (60,true)⟩,
 ⟨some 64,.faddr 2 (.t 5),some (60,true)⟩,
 ⟨some 65,.load false 1 (.t 64),some (60,true)⟩,
 ⟨some 66,.bin .lss (.t 63) (.t 65),some (60,true)⟩,
 ⟨some 67,.mov (.t 66),some (60,true)⟩,
 ⟨some 68,.mov (.t 0),some (67,false)⟩,
 ⟨some 69,.nilchk (.t 68),some (67,false)⟩,
 ⟨some 70,.faddr 1 (.t 69),some (67,false)⟩,
 ⟨some 71,.load false 1 (.t 70),some (67,false)⟩,
 ⟨some 72,.mov (.t 0),some (67,false)⟩,
 ⟨some 73,.nilchk (.t 72),some (67,false)⟩,
 ⟨some 74,.faddr 0 (.t 73),some (67,false)⟩,
 ⟨some 75,.load false 1 (.t 74),some (67,false)⟩,
 ⟨some 76,.slen (.t 75),some (67,false)⟩,
 ⟨some 77,.bin .eql (.t 71) (.t 76),some (67,false)⟩,
 ⟨some 78,.pick (.t 67) (.c (.bool true)) (.t 77),some (60,true)⟩,
 ⟨some 79,.mov (.t 78),some (60,true)⟩,
 ⟨some 80,.mov (.t 0),some (79,false)⟩,
 ⟨some 81,.nilchk (.t 80),some (79,false)⟩,
 ⟨some 82,.faddr 0 (.t 81),some (79,false)⟩,
 ⟨some 83,.load false 1 (.t 82),some (79,false)⟩,
 ⟨some 84,.mov (.t 0),some (79,false)⟩,
 ⟨some 85,.nilchk (.t 84),some (79,false)⟩,
 ⟨some 86,.faddr 1 (.t 85),some (79,false)⟩,
 ⟨some 87,.load false 1 (.t 86),some (79,false)⟩,
 ⟨some 88,.sidx (.t 83) (.t 87),some (79,false)⟩,
 ⟨some 89,.bin .neq (.t 88) (.c (.int .u8 41)),some (79,false)⟩,
 ⟨some 90,.pick (.t 79) (.c (.bool true)) (.t 89),some (60,true)⟩,
 ⟨some 91,.pick (.t 60) (.t 90) (.c (.bool false)),none⟩])
 (.cond (.t 91)
 (.skip)
 (.exit 0)))
 (.block 1 (.drawh [(92,(1,3))] [] [] 2 [⟨some 92,.faddr 2 (.t 4),none⟩,
 ⟨some 93,.load false 1 (.t 92),none⟩,
 ⟨some 94,.mov (.t 0),none⟩,
 ⟨some 95,.icall (.c (.func 72 [])) [(.t 94),(.c (.str ⟨#[48,49,50,51,52,53,54,55,120,121,122]⟩))],none⟩,
 ⟨some 96,.bslice true [.int .i64 0] 1 1 [(0,(.t 95))],none⟩,
 ⟨some 97,.append false 1 8 (.t 93) (.t 96),none⟩,
 ⟨some 98,.faddr 2 (.t 4),none⟩,
 ⟨none,.store 1 (.t 98) (.t 97),none⟩]))
def yDu : ACode := yBX
def yBY : List Nat := [1,2,6,7,8,9,10,11,12,13,14,15,16,17,18,19,20,21,22,23,24,25,26,27,28,29,30,31,32,33,34,35,36,37,38,39,40,41,42,43,44,45,46,47,48,49,50,51,52,53,54,55,56,57,58,59,60,61,62,63,64,65,66,67,68,69,70,71,72,73,74,75,76,77,78,79,80,81,82,83,84,85,86,87,88,89,90,91,92,93,94,95,96,97,98,99,100,101,102,103,104,105,106,107,108,109,110,111,112,113,114,115,116,117,118,119,120,121,122,123,124,125,126,127,128,129,130,131,132,133]
def a41 : AFunc := ⟨134,
 .seq (.region [⟨some 2,.mov (.c (.int .i64 0)),none⟩])
 (.seq (.region [⟨some 6,.mov (.t 0),none⟩,
 ⟨some 7,.icall (.c (.func 70 [])) [(.t 6),(.c (.str ⟨#[40,97,98,99,100,101,102,103,104,105,106,107,108,109,110,111,112,113,114,115,116,117,118,119,120,121,122]⟩)),(.c (.int .i64 2))],none⟩,
 ⟨some 8,.bin .eql (.t 7) (.c (.int .u8 40)),none⟩,
 ⟨some 3,.mov (.t 8),none⟩])
 (.seq (.seq (.region [⟨some 9,.mov (.t 0),none⟩,
 ⟨some 10,.nilchk (.t 9),none⟩,
 ⟨some 11,.faddr 3 (.t 10),none⟩,
 ⟨some 12,.load false 1 (.t 11),none⟩,
 ⟨some 13,.bin .eql (.t 12) (.c (.int .i64 64)),none⟩])
 (.cond (.t 13)
 (.stuck)
 (.skip)))
 (.seq (.region [⟨some 20,.mov (.t 0),none⟩,
 ⟨some 21,.nilchk (.t 20),none⟩,
 ⟨some 22,.faddr 3 (.t 21),none⟩,
 ⟨some 23,.load false 1 (.t 22),none⟩,
 ⟨some 24,.bin .add (.t 23) (.c (.int .i64 1)),none⟩,
 ⟨some 25,.nilchk (.t 20),none⟩,
 ⟨some 26,.faddr 3 (.t 25),none⟩,
 ⟨none,.store 1 (.t 26) (.t 24),none⟩])
 (.seq (.seq (.region [⟨some 27,.mov (.t 3),none⟩])
 (.cond (.t 27)
 (.region [⟨some 28,.mov (.t 0),none⟩,
 ⟨some 29,.nilchk (.t 28),none⟩,
 ⟨some 30,.faddr 1 (.t 29),none⟩,
 ⟨some 31,.load false 1 (.t 30),none⟩,
 ⟨some 32,.bin .add (.t 31) (.c (.int .i64 1)),none⟩,
 ⟨some 33,.nilchk (.t 28),none⟩,
 ⟨some 34,.faddr 1 (.t 33),none⟩,
 ⟨none,.store 1 (.t 34) (.t 32),none⟩])
 (.skip)))
 (.seq (.region [⟨some 35,.mov (.t 0),none⟩,
 ⟨some 36,.mov (.t 3),none⟩,
 ⟨some 37,.icall (.c (.func 71 [])) [(.t 35),(.t 36)],none⟩,
 ⟨some 38,.build [.int .u8 0,.int .i64 0,.sl true 0 [],.int .i64 0,.int .i64 0,.int .i64 0] [(0,1,(.t 37))],none⟩,
 ⟨some 4,.box (.c (.agg [.int .u8 0,.int .i64 0,.sl true 0 [],.int .i64 0,.int .i64 0,.int .i64 0])),none⟩,
 ⟨none,.store 6 (.t 4) (.t 38),none⟩])
 (.seq (.region [⟨some 39,.faddr 0 (.t 4),none⟩,
 ⟨some 40,.load false 1 (.t 39),none⟩,
 ⟨some 41,.call 68 [(.t 40)],none⟩,
 ⟨some 5,.box (.c (.agg [.str ⟨#[]⟩,.int .i64 0,.int .i64 0,.int .i64 0,.bool false,.bool false])),none⟩,
 ⟨none,.store 6 (.t 5) (.t 41),none⟩])
 (.seq (.seq (.region [⟨some 42,.faddr 4 (.t 5),none⟩,
 ⟨some 43,.load false 1 (.t 42),none⟩])
 (.cond (.t 43)
 (.region [⟨some 44,.mov (.t 0),none⟩,
 ⟨some 45,.icall (.c (.func 72 [])) [(.t 44),(.c (.str ⟨#[97,98,99,100,101,102,103,104]⟩))],none⟩,
 ⟨some 46,.faddr 1 (.t 4),none⟩,
 ⟨none,.store 1 (.t 46) (.t 45),none⟩])
 (.skip)))
 (.seq (.seq (.region [⟨some 47,.faddr 5 (.t 5),none⟩,
 ⟨some 48,.load false 1 (.t 47),none⟩])
 (.cond (.t 48)
 (.region [⟨some 49,.mov (.t 0),none⟩,
 ⟨some 50,.sslice (.c (.str ⟨#[48,49,50,51,52,53,54,55,120,121,122]⟩)) (some (.c (.int .i64 8))) none,none⟩,
 ⟨some 51,.icall (.c (.func 72 [])) [(.t 49),(.t 50)],none⟩,
 ⟨some 52,.bin .add (.c (.int .i64 8)) (.t 51),none⟩,
 ⟨some 53,.faddr 3 (.t 4),none⟩,
 ⟨none,.store 1 (.t 53) (.t 52),none⟩])
 (.skip)))
 (.seq (.block 0 (.loop yBY yDu))
 (.seq (.seq (.region [⟨some 99,.faddr 1 (.t 5),none⟩,
 ⟨some 100,.load false 1 (.t 99),none⟩,
 ⟨some 101,.bin .gtr (.t 100) (.c (.int .i64 0)),none⟩])
 (.cond (.t 101)
 (.seq (.region [⟨some 102,.mov (.t 0),none⟩,
 ⟨some 103,.icall (.c (.func 73 [])) [(.t 102),(.c (.str ⟨#[32]⟩))],none⟩])
 (.region [⟨some 104,.mov (.t 0),none⟩,
 ⟨some 105,.icall (.c (.func 41 [])) [(.t 104)],none⟩,
 ⟨some 106,.faddr 4 (.t 4),none⟩,
 ⟨none,.store 1 (.t 106) (.t 105),none⟩]))
 (.skip)))
 (.seq (.seq (.region [⟨some 107,.faddr 1 (.t 5),none⟩,
 ⟨some 108,.load false 1 (.t 107),none⟩,
 ⟨some 109,.bin .gtr (.t 108) (.c (.int .i64 1)),none⟩])
 (.cond (.t 109)
 (.seq (.region [⟨some 110,.mov (.t 0),none⟩,
 ⟨some 111,.icall (.c (.func 73 [])) [(.t 110),(.c (.str ⟨#[32]⟩))],none⟩])
 (.region [⟨some 112,.mov (.t 0),none⟩,
 ⟨some 113,.icall (.c (.func 41 [])) [(.t 112)],none⟩,
 ⟨some 114,.faddr 5 (.t 4),none⟩,
 ⟨none,.store 1 (.t 114) (.t 113),none⟩]))
 (.skip)))
 (.seq (.seq (.region [⟨some 115,.mov (.t 3),none⟩])
 (.cond (.t 115)
 (.region [⟨some 116,.mov (.t 0),none⟩,
 ⟨some 117,.icall (.c (.func 73 [])) [(.t 116),(.c (.str ⟨#[41]⟩))],none⟩])
 (.skip)))
 (.seq (.drawh [(121,(1,6))] [] [] 6 [⟨some 118,.mov (.t 0),none⟩,
 ⟨some 119,.mov (.t 0),none⟩,
 ⟨some 120,.nilchk (.t 119),none⟩,
 ⟨some 121,.faddr 2 (.t 120),none⟩,
 ⟨some 122,.load false 1 (.t 121),none⟩,
 ⟨some 123,.load true 6 (.t 4),none⟩,
 ⟨some 124,.bslice false [.int .u8 0,.int .i64 0,.sl true 0 [],.int .i64 0,.int .i64 0,.int .i64 0] 6 1 [(0,(.t 123))],none⟩,
 ⟨some 125,.append false 6 64 (.t 122) (.t 124),none⟩,
 ⟨some 126,.nilchk (.t 118),none⟩,
 ⟨some 127,.faddr 2 (.t 126),none⟩,
 ⟨none,.store 1 (.t 127) (.t 125),none⟩])
 (.seq (.region [⟨some 128,.mov (.t 0),none⟩,
 ⟨some 129,.nilchk (.t 128),none⟩,
 ⟨some 130,.faddr 2 (.t 129),none⟩,
 ⟨some 131,.load false 1 (.t 130),none⟩,
 ⟨some 132,.len (.t 131),none⟩,
 ⟨some 133,.bin .sub (.t 132) (.c (.int .i64 1)),none⟩,
 ⟨some 2,.mov (.t 133),none⟩])
 (.ret))))))))))))))),
 [.tmp 2]⟩
def xLv : ACode :=
 .seq (.region [⟨some 19,.bin .lss (.t 18) (.t 17),none⟩])
 (.seq (.cond (.t 19)
 (.skip)
 (.exit 0))
 (.seq (.block 1 (.seq (.region [⟨some 20,.iaddr 1 (.t 16) (.t 18),none⟩,
 ⟨some 21,.load false 1 (.t 20),none⟩,
 ⟨some 9,.mov (.t 21),none⟩])
 (.seq (.region [⟨some 22,.mov (.t 9),none⟩,
 ⟨some 23,.bin .geq (.t 22) (.c (.int .i64 8)),none⟩,
 ⟨some 24,.mov (.t 23),none⟩,
 ⟨some 25,.mov (.t 2),some (24,true)⟩,
 ⟨some 26,.mov (.t 9),some (24,true)⟩,
 ⟨some 27,.bin .sub (.t 26) (.c (.int .i64 8)),some (24,true)⟩,
 ⟨some 28,.bin .shr (.t 25) (.t 27),some (24,true)⟩,
 ⟨some 29,.bin .and (.t 28) (.c (.int .u64 1)),some (24,true)⟩,
 ⟨some 30,.bin .eql (.t 29) (.c (.int .u64 0)),some (24,true)⟩,
 ⟨some 31,.pick (.t 24) (.t 30) (.c (.bool false)),none⟩])
 (.cond (.t 31)
 (.seq (.region [⟨some 6,.mov (.c (.bool true)),none⟩])
 (.ret))
 (.skip)))))
 (.region [⟨some 32,.bin .add (.t 18) (.c (.int .i64 1)),none⟩,
 ⟨some 18,.mov (.t 32),none⟩])))
def xVK : ACode := xLv
def xLw : List Nat := [1,3,4,5,8,9,10,11,12,13,14,15,19,20,21,22,23,24,25,26,27,28,29,30,31,32,33,34,35,36,37,38,39,40,41,42,43,44,45,46,47,48,49,50,51,52,53,54,55,56,57,58,59,60,61,62,63,64,65]
abbrev xJl (s0 s2 s6 s7 s16 s17 s18 : AV) : List AV := [s0,.any,s2,.any,.any,.any,s6,s7,.any,.any,.any,.any,.any,.any,.any,.any,s16,s17,s18,.any,.any,.any,.any,.any,.any,.any,.any,.any,.any,.any,.any,.any,.any,.any,.any,.any,.any,.any,.any,.any,.any,.any,.any,.any,.any,.any,.any,.any,.any,.any,.any,.any,.any,.any,.any,.any,.any,.any,.any,.any,.any,.any,.any,.any,.any,.any]
theorem xD2 (s0 s1 s2 s3 s4 s5 s6 s7 s8 s9 s10 s11 s12 s13 s14 s15 s16 s17 s18 s19 s20 s21 s22 s23 s24 s25 s26 s27 s28 s29 s30 s31 s32 s33 s34 s35 s36 s37 s38 s39 s40 s41 s42 s43 s44 s45 s46 s47 s48 s49 s50 s51 s52 s53 s54 s55 s56 s57 s58 s59 s60 s61 s62 s63 s64 s65 : AV) : xA5 xLw [s0,s1,s2,s3,s4,s5,s6,s7,s8,s9,s10,s11,s12,s13,s14,s15,s16,s17,s18,s19,s20,s21,s22,s23,s24,s25,s26,s27,s28,s29,s30,s31,s32,s33,s34,s35,s36,s37,s38,s39,s40,s41,s42,s43,s44,s45,s46,s47,s48,s49,s50,s51,s52,s53,s54,s55,s56,s57,s58,s59,s60,s61,s62,s63,s64,s65] = xJl s0 s2 s6 s7 s16 s17 s18 := by kernel_rfl
theorem xRN {prog : Nat → Option AFunc} (s0 s2 s6 s7 s16 s17 s18 : AV) (H : Heap) : (lim prog).loop xLw xVK ⟨xJl s0 s2 s6 s7 s16 s17 s18,H⟩ = xB5 (lim prog) xLw xVK (run (lim prog) xLv ⟨xJl s0 s2 s6 s7 s16 s17 s18,H⟩) := xAw _ _ _ _ (by kernel_rfl)
def a42 : AFunc := ⟨66,
 .seq (.region [⟨some 6,.mov (.c (.bool false)),none⟩])
 (.seq (.region [⟨some 11,.mov (.t 0),none⟩,
 ⟨some 12,.mov (.t 1),none⟩,
 ⟨some 13,.iaddr 6 (.t 11) (.t 12),none⟩,
 ⟨some 14,.load true 6 (.t 13),none⟩,
 ⟨some 7,.box (.c (.agg [.int .u8 0,.int .i64 0,.sl true 0 [],.int .i64 0,.int .i64 0,.int .i64 0])),none⟩,
 ⟨none,.store 6 (.t 7) (.t 14),none⟩])
 (.seq (.seq (.region [⟨some 15,.faddr 2 (.t 7),none⟩,
 ⟨some 16,.load false 1 (.t 15),none⟩,
 ⟨some 17,.len (.t 16),none⟩,
 ⟨some 18,.mov (.c (.int .i64 0)),none⟩])
 (.block 0 (.loop xLw xVK)))
 (.seq (.seq (.region [⟨some 33,.faddr 0 (.t 7),none⟩,
 ⟨some 34,.load false 1 (.t 33),none⟩,
 ⟨some 35,.bin .eql (.t 34) (.c (.int .u8 7)),none⟩])
 (.cond (.t 35)
 (.region [⟨some 36,.mov (.t 2),none⟩,
 ⟨some 37,.faddr 3 (.t 7),none⟩,
 ⟨some 38,.load false 1 (.t 37),none⟩,
 ⟨some 39,.bin .sub (.t 38) (.c (.int .i64 8)),none⟩,
 ⟨some 40,.bin .shl (.c (.int .u64 1)) (.t 39),none⟩,
 ⟨some 41,.bin .or (.t 36) (.t 40),none⟩,
 ⟨some 2,.mov (.t 41),none⟩])
 (.skip)))
 (.seq (.region [⟨some 42,.faddr 0 (.t 7),none⟩,
 ⟨some 43,.load false 1 (.t 42),none⟩,
 ⟨some 44,.call 68 [(.t 43)],none⟩,
 ⟨some 45,.field false 1 1 (.t 44),none⟩,
 ⟨some 10,.mov (.t 45),none⟩])
 (.seq (.region [⟨some 46,.mov (.t 10),none⟩,
 ⟨some 47,.bin .gtr (.t 46) (.c (.int .i64 0)),none⟩,
 ⟨some 48,.mov (.t 47),none⟩,
 ⟨some 49,.mov (.t 0),some (48,true)⟩,
 ⟨some 50,.faddr 4 (.t 7),some (48,true)⟩,
 ⟨some 51,.load false 1 (.t 50),some (48,true)⟩,
 ⟨some 52,.mov (.t 2),some (48,true)⟩,
 ⟨some 53,.call 42 [(.t 49),(.t 51),(.t 52)],some (48,true)⟩,
 ⟨some 54,.pick (.t 48) (.t 53) (.c (.bool false)),none⟩,
 ⟨some 55,.mov (.t 54),none⟩,
 ⟨some 56,.mov (.t 10),some (55,false)⟩,
 ⟨some 57,.bin .gtr (.t 56) (.c (.int .i64 1)),some (55,false)⟩,
 ⟨some 58,.mov (.t 57),some (55,false)⟩,
 ⟨some 59,.mov (.t 0),some (58,true)⟩,
 ⟨some 60,.faddr 5 (.t 7),some (58,true)⟩,
 ⟨some 61,.load false 1 (.t 60),some (58,true)⟩,
 ⟨some 62,.mov (.t 2),some (58,true)⟩,
 ⟨some 63,.call 42 [(.t 59),(.t 61),(.t 62)],some (58,true)⟩,
 ⟨some 64,.pick (.t 58) (.t 63) (.c (.bool false)),some (55,false)⟩,
 ⟨some 65,.pick (.t 55) (.c (.bool true)) (.t 64),none⟩,
 ⟨some 6,.mov (.t 65),none⟩])
 (.ret)))))),
 [.tmp 6]⟩
def a46 : AFunc := ⟨23,
 .seq (.region [⟨some 6,.mov (.c (.bool false)),none⟩])
 (.seq (.region [⟨some 10,.mov (.t 0),none⟩,
 ⟨some 11,.call 39 [(.t 10)],none⟩,
 ⟨some 12,.mov (.t 1),none⟩,
 ⟨some 13,.call 35 [(.t 11),(.t 12)],none⟩,
 ⟨some 9,.mov (.t 13),none⟩,
 ⟨some 14,.ext 0 (.t 9),none⟩,
 ⟨some 15,.ext 1 (.t 9),none⟩,
 ⟨some 7,.mov (.t 14),none⟩,
 ⟨some 8,.mov (.t 15),none⟩])
 (.seq (.region [⟨some 16,.mov (.t 7),none⟩,
 ⟨some 17,.mov (.t 2),none⟩,
 ⟨some 18,.call 36 [(.t 16),(.t 17)],none⟩,
 ⟨some 19,.mov (.t 18),none⟩,
 ⟨some 20,.mov (.t 8),some (19,true)⟩,
 ⟨some 21,.bin .eql (.t 20) (.c (.int .i64 0)),some (19,true)⟩,
 ⟨some 22,.pick (.t 19) (.t 21) (.c (.bool false)),none⟩,
 ⟨some 6,.mov (.t 22),none⟩])
 (.ret))),
 [.tmp 6]⟩
def a47 : AFunc := ⟨8,
 .seq (.region [⟨some 4,.box (.c (.agg [.int .i64 0,.sl true 0 []])),none⟩])
 (.seq (.region [⟨some 5,.mov (.t 0),none⟩,
 ⟨some 6,.mov (.t 1),none⟩,
 ⟨some 7,.build [.int .i64 0,.sl true 0 []] [(0,1,(.t 5)),(1,1,(.t 6))],none⟩,
 ⟨none,.store 2 (.t 4) (.t 7),none⟩])
 (.ret)),
 [.cell 4 true 2]⟩
def a48 : AFunc := ⟨29,
 .seq (.region [⟨some 6,.mov (.c (.bool false)),none⟩])
 (.seq (.region [⟨some 11,.mov (.t 0),none⟩,
 ⟨some 12,.call 12 [(.t 11)],none⟩,
 ⟨some 10,.mov (.t 12),none⟩,
 ⟨some 13,.ext 0 (.t 10),none⟩,
 ⟨some 14,.ext 1 (.t 10),none⟩,
 ⟨some 15,.ext 2 (.t 10),none⟩,
 ⟨some 7,.mov (.t 13),none⟩,
 ⟨some 8,.mov (.t 14),none⟩,
 ⟨some 9,.mov (.t 15),none⟩])
 (.seq (.region [⟨some 16,.mov (.t 7),none⟩,
 ⟨some 17,.len (.t 16),none⟩,
 ⟨some 18,.bin .eql (.t 17) (.c (.int .i64 0)),none⟩,
 ⟨some 19,.mov (.t 18),none⟩,
 ⟨some 20,.mov (.t 8),some (19,true)⟩,
 ⟨some 21,.mov (.t 1),some (19,true)⟩,
 ⟨some 22,.bin .eql (.t 20) (.t 21),some (19,true)⟩,
 ⟨some 23,.pick (.t 19) (.t 22) (.c (.bool false)),none⟩,
 ⟨some 24,.mov (.t 23),none⟩,
 ⟨some 25,.mov (.t 9),some (24,true)⟩,
 ⟨some 26,.mov (.t 2),some (24,true)⟩,
 ⟨some 27,.bin .eql (.t 25) (.t 26),some (24,true)⟩,
 ⟨some 28,.pick (.t 24) (.t 27) (.c (.bool false)),none⟩,
 ⟨some 6,.mov (.t 28),none⟩])
 (.ret))),
 [.tmp 6]⟩
def a49 : AFunc := ⟨5,
 .seq (.region [⟨some 2,.mov (.c (.sl true 0 [])),none⟩])
 (.seq (.region [⟨some 3,.mov (.t 0),none⟩,
 ⟨some 4,.append false 1 8 (.c (.sl true 0 [])) (.t 3),none⟩,
 ⟨some 2,.mov (.t 4),none⟩])
 (.ret)),
 [.tmp 2]⟩
def xRO : ACode :=
 .seq (.region [⟨some 11,.bin .lss (.t 10) (.t 9),none⟩])
 (.seq (.cond (.t 11)
 (.skip)
 (.exit 0))
 (.seq (.block 1 (.seq (.region [⟨some 12,.mov (.t 10),none⟩,
 ⟨some 13,.iaddr 6 (.t 8) (.t 10),none⟩,
 ⟨some 14,.load true 6 (.t 13),none⟩,
 ⟨some 5,.box (.c (.agg [.int .u8 0,.int .i64 0,.sl true 0 [],.int .i64 0,.int .i64 0,.int .i64 0])),none⟩,
 ⟨some 4,.mov (.t 12),none⟩,
 ⟨none,.store 6 (.t 5) (.t 14),none⟩])
 (.region [⟨some 15,.mov (.t 3),none⟩,
 ⟨some 16,.mov (.t 4),none⟩,
 ⟨some 17,.faddr 2 (.t 5),none⟩,
 ⟨some 18,.load false 1 (.t 17),none⟩,
 ⟨some 19,.call 83 [(.t 18)],none⟩,
 ⟨some 20,.iaddr 6 (.t 15) (.t 16),none⟩,
 ⟨some 21,.faddr 2 (.t 20),none⟩,
 ⟨none,.store 1 (.t 21) (.t 19),none⟩])))
 (.region [⟨some 22,.bin .add (.t 10) (.c (.int .i64 1)),none⟩,
 ⟨some 10,.mov (.t 22),none⟩])))
def xVL : ACode := xRO
def xLx : List Nat := [0,1,2,4,5,6,7,11,12,13,14,15,16,17,18,19,20,21,22,23]
abbrev xOG (s3 s8 s9 s10 : AV) : List AV := [.any,.any,.any,s3,.any,.any,.any,.any,s8,s9,s10,.any,.any,.any,.any,.any,.any,.any,.any,.any,.any,.any,.any,.any]
theorem xVM (s0 s1 s2 s3 s4 s5 s6 s7 s8 s9 s10 s11 s12 s13 s14 s15 s16 s17 s18 s19 s20 s21 s22 s23 : AV) : xA5 xLx [s0,s1,s2,s3,s4,s5,s6,s7,s8,s9,s10,s11,s12,s13,s14,s15,s16,s17,s18,s19,s20,s21,s22,s23] = xOG s3 s8 s9 s10 := by kernel_rfl
theorem xYX {prog : Nat → Option AFunc} (s3 s8 s9 s10 : AV) (H : Heap) : (lim prog).loop xLx xVL ⟨xOG s3 s8 s9 s10,H⟩ = xB5 (lim prog) xLx xVL (run (lim prog) xRO ⟨xOG s3 s8 s9 s10,H⟩) := xAw _ _ _ _ (by kernel_rfl)
def a50 : AFunc := ⟨24,
 .seq (.region [⟨some 2,.mov (.c (.sl true 0 [])),none⟩])
 (.seq (.region [⟨some 6,.mov (.t 0),none⟩,
 ⟨some 7,.ocall 82 [(.t 6)],none⟩,
 ⟨some 3,.mov (.t 7),none⟩])
 (.seq (.seq (.region [⟨some 8,.mov (.t 3),none⟩,
 ⟨some 9,.len (.t 8),none⟩,
 ⟨some 10,.mov (.c (.int .i64 0)),none⟩])
 (.block 0 (.loop xLx xVL)))
 (.seq (.region [⟨some 23,.mov (.t 3),none⟩,
 ⟨some 2,.mov (.t 23),none⟩])
 (.ret)))),
 [.tmp 2]⟩
def a51 : AFunc := ⟨13,
 .seq (.region [⟨some 2,.mov (.c (.bool false)),none⟩])
 (.seq (.region [⟨some 3,.mov (.t 0),none⟩,
 ⟨some 4,.bin .eql (.t 3) (.c (.int .u8 8)),none⟩,
 ⟨some 5,.mov (.t 4),none⟩,
 ⟨some 6,.mov (.t 0),some (5,false)⟩,
 ⟨some 7,.bin .eql (.t 6) (.c (.int .u8 9)),some (5,false)⟩,
 ⟨some 8,.pick (.t 5) (.c (.bool true)) (.t 7),none⟩,
 ⟨some 9,.mov (.t 8),none⟩,
 ⟨some 10,.mov (.t 0),some (9,false)⟩,
 ⟨some 11,.bin .eql (.t 10) (.c (.int .u8 10)),some (9,false)⟩,
 ⟨some 12,.pick (.t 9) (.c (.bool true)) (.t 11),none⟩,
 ⟨some 2,.mov (.t 12),none⟩])
 (.ret)),
 [.tmp 2]⟩
def a54 : AFunc := ⟨18,
 .seq (.region [⟨some 1,.box (.t 0),none⟩,
 ⟨some 2,.mov (.c (.bool false)),none⟩])
 (.seq (.region [⟨some 3,.faddr 0 (.t 1),none⟩,
 ⟨some 4,.load false 1 (.t 3),none⟩,
 ⟨some 5,.bslice true [.int .i64 0] 1 1 [(0,(.t 4))],none⟩,
 ⟨some 6,.call 84 [(.c (.int .i64 0)),(.c (.int .i64 7)),(.t 5)],none⟩,
 ⟨some 7,.mov (.t 6),none⟩,
 ⟨some 8,.faddr 1 (.t 1),some (7,true)⟩,
 ⟨some 9,.load false 1 (.t 8),some (7,true)⟩,
 ⟨some 10,.len (.t 9),some (7,true)⟩,
 ⟨some 11,.bin .leq (.t 10) (.c (.int .i64 2)),some (7,true)⟩,
 ⟨some 12,.pick (.t 7) (.t 11) (.c (.bool false)),none⟩,
 ⟨some 13,.mov (.t 12),none⟩,
 ⟨some 14,.faddr 1 (.t 1),some (13,true)⟩,
 ⟨some 15,.load false 1 (.t 14),some (13,true)⟩,
 ⟨some 16,.call 84 [(.c (.int .i64 0)),(.c (.int .i64 7)),(.t 15)],some (13,true)⟩,
 ⟨some 17,.pick (.t 13) (.t 16) (.c (.bool false)),none⟩,
 ⟨some 2,.mov (.t 17),none⟩])
 (.ret)),
 [.tmp 2]⟩
def a55 : AFunc := ⟨3,
 .seq (.region [⟨some 0,.mov (.c (.nilm)),none⟩])
 (.seq (.region [⟨some 1,.mkmap,none⟩,
 ⟨none,.mupd [0] (.t 1) (.c (.int .u8 1)) (.c (.func 85 [])),none⟩,
 ⟨none,.mupd [0] (.t 1) (.c (.int .u8 2)) (.c (.func 86 [])),none⟩,
 ⟨none,.mupd [0] (.t 1) (.c (.int .u8 3)) (.c (.func 87 [])),none⟩,
 ⟨none,.mupd [0] (.t 1) (.c (.int .u8 4)) (.c (.func 88 [])),none⟩,
 ⟨none,.mupd [0] (.t 1) (.c (.int .u8 5)) (.c (.func 89 [])),none⟩,
 ⟨none,.mupd [0] (.t 1) (.c (.int .u8 6)) (.c (.func 90 [])),none⟩,
 ⟨none,.mupd [0] (.t 1) (.c (.int .u8 7)) (.c (.func 91 [])),none⟩,
 ⟨none,.mupd [0] (.t 1) (.c (.int .u8 8)) (.c (.func 92 [])),none⟩,
 ⟨none,.mupd [0] (.t 1) (.c (.int .u8 9)) (.c (.func 93 [])),none⟩,
 ⟨none,.mupd [0] (.t 1) (.c (.int .u8 10)) (.c (.func 94 [])),none⟩,
 ⟨some 2,.mov (.t 1),none⟩,
 ⟨some 0,.mov (.t 2),none⟩])
 (.ret)),
 [.tmp 0]⟩
def xRP : ACode :=
 .seq (.region [⟨some 8,.bin .lss (.t 7) (.t 6),none⟩])
 (.seq (.cond (.t 8)
 (.skip)
 (.exit 0))
 (.seq (.block 1 (.seq (.region [⟨some 9,.mov (.t 7),none⟩,
 ⟨some 10,.iaddr 1 (.t 5) (.t 7),none⟩,
 ⟨some 11,.load false 1 (.t 10),none⟩,
 ⟨some 3,.mov (.t 9),none⟩,
 ⟨some 4,.mov (.t 11),none⟩])
 (.draw 6 [⟨some 12,.mov (.t 3),none⟩,
 ⟨some 13,.bin .quo (.t 12) (.c (.int .i64 8)),none⟩,
 ⟨some 14,.arrat 1 8 (.t 2) (.t 13),none⟩,
 ⟨some 15,.load false 1 (.t 14),none⟩,
 ⟨some 16,.mov (.t 4),none⟩,
 ⟨some 17,.conv .u64 (.t 16),none⟩,
 ⟨some 18,.mov (.t 3),none⟩,
 ⟨some 19,.bin .rem (.t 18) (.c (.int .i64 8)),none⟩,
 ⟨some 20,.bin .mul (.c (.int .i64 8)) (.t 19),none⟩,
 ⟨some 21,.bin .shl (.t 17) (.t 20),none⟩,
 ⟨some 22,.bin .or (.t 15) (.t 21),none⟩,
 ⟨some 23,.arrat 1 8 (.t 2) (.t 13),none⟩,
 ⟨none,.store 1 (.t 23) (.t 22),none⟩])))
 (.region [⟨some 24,.bin .add (.t 7) (.c (.int .i64 1)),none⟩,
 ⟨some 7,.mov (.t 24),none⟩])))
def xVN : ACode := xRP
def xLy : List Nat := [0,1,3,4,8,9,10,11,12,13,14,15,16,17,18,19,20,21,22,23,24,25]
abbrev xLz (s2 s5 s6 s7 : AV) : List AV := [.any,.any,s2,.any,.any,s5,s6,s7,.any,.any,.any,.any,.any,.any,.any,.any,.any,.any,.any,.any,.any,.any,.any,.any,.any,.any]
theorem xVO (s0 s1 s2 s3 s4 s5 s6 s7 s8 s9 s10 s11 s12 s13 s14 s15 s16 s17 s18 s19 s20 s21 s22 s23 s24 s25 : AV) : xA5 xLy [s0,s1,s2,s3,s4,s5,s6,s7,s8,s9,s10,s11,s12,s13,s14,s15,s16,s17,s18,s19,s20,s21,s22,s23,s24,s25] = xLz s2 s5 s6 s7 := by kernel_rfl
theorem xYY {prog : Nat → Option AFunc} (s2 s5 s6 s7 : AV) (H : Heap) : (lim prog).loop xLy xVN ⟨xLz s2 s5 s6 s7,H⟩ = xB5 (lim prog) xLy xVN (run (lim prog) xRP ⟨xLz s2 s5 s6 s7,H⟩) := xAw _ _ _ _ (by kernel_rfl)
def a56 : AFunc := ⟨26,
 .seq (.region [⟨some 2,.box (.c (.agg [.int .u64 0,.int .u64 0,.int .u64 0,.int .u64 0,.int .u64 0,.int .u64 0,.int .u64 0,.int .u64 0])),none⟩])
 (.seq (.seq (.region [⟨some 5,.mov (.t 0),none⟩,
 ⟨some 6,.len (.t 5),none⟩,
 ⟨some 7,.mov (.c (.int .i64 0)),none⟩])
 (.block 0 (.loop xLy xVN)))
 (.seq (.region [⟨some 25,.load true 8 (.t 2),none⟩,
 ⟨none,.store 8 (.t 2) (.t 25),none⟩])
 (.ret))),
 [.cell 2 true 8]⟩
def xRQ : ACode :=
 .seq (.region [⟨some 8,.bin .lss (.t 7) (.t 6),none⟩])
 (.seq (.cond (.t 8)
 (.skip)
 (.exit 0))
 (.seq (.block 1 (.seq (.region [⟨some 9,.mov (.t 7),none⟩,
 ⟨some 4,.mov (.t 9),none⟩])
 (.region [⟨some 10,.mov (.t 0),none⟩,
 ⟨some 11,.mov (.t 4),none⟩,
 ⟨some 12,.mov (.t 4),none⟩,
 ⟨some 13,.bin .quo (.t 12) (.c (.int .i64 8)),none⟩,
 ⟨some 14,.arrat 1 8 (.t 3) (.t 13),none⟩,
 ⟨some 15,.load false 1 (.t 14),none⟩,
 ⟨some 16,.mov (.t 4),none⟩,
 ⟨some 17,.bin .rem (.t 16) (.c (.int .i64 8)),none⟩,
 ⟨some 18,.bin .mul (.c (.int .i64 8)) (.t 17),none⟩,
 ⟨some 19,.bin .shr (.t 15) (.t 18),none⟩,
 ⟨some 20,.conv .u8 (.t 19),none⟩,
 ⟨some 21,.iaddr 1 (.t 10) (.t 11),none⟩,
 ⟨none,.store 1 (.t 21) (.t 20),none⟩])))
 (.region [⟨some 22,.bin .add (.t 7) (.c (.int .i64 1)),none⟩,
 ⟨some 7,.mov (.t 22),none⟩])))
def xVP : ACode := xRQ
def xLA : List Nat := [1,2,4,5,8,9,10,11,12,13,14,15,16,17,18,19,20,21,22]
abbrev xLB (s0 s3 s6 s7 : AV) : List AV := [s0,.any,.any,s3,.any,.any,s6,s7,.any,.any,.any,.any,.any,.any,.any,.any,.any,.any,.any,.any,.any,.any,.any]
theorem xVQ (s0 s1 s2 s3 s4 s5 s6 s7 s8 s9 s10 s11 s12 s13 s14 s15 s16 s17 s18 s19 s20 s21 s22 : AV) : xA5 xLA [s0,s1,s2,s3,s4,s5,s6,s7,s8,s9,s10,s11,s12,s13,s14,s15,s16,s17,s18,s19,s20,s21,s22] = xLB s0 s3 s6 s7 := by kernel_rfl
theorem xYZ {prog : Nat → Option AFunc} (s0 s3 s6 s7 : AV) (H : Heap) : (lim prog).loop xLA xVP ⟨xLB s0 s3 s6 s7,H⟩ = xB5 (lim prog) xLA xVP (run (lim prog) xRQ ⟨xLB s0 s3 s6 s7,H⟩) := xAw _ _ _ _ (by kernel_rfl)
def a57 : AFunc := ⟨23,
 .seq (.region [⟨some 3,.box (.t 1),none⟩])
 (.seq (.region [⟨some 5,.mov (.t 0),none⟩,
 ⟨some 6,.len (.t 5),none⟩,
 ⟨some 7,.mov (.c (.int .i64 0)),none⟩])
 (.block 0 (.loop xLA xVP))),
 []⟩
def a60 : AFunc := ⟨8,
 .seq (.region [⟨some 2,.mov (.c (.sl true 0 [])),none⟩])
 (.seq (.seq (.region [⟨some 3,.mov (.t 0),none⟩,
 ⟨some 4,.isnil false (.t 3),none⟩])
 (.cond (.t 4)
 (.seq (.region [⟨some 2,.mov (.c (.sl true 0 [])),none⟩])
 (.ret))
 (.skip)))
 (.seq (.region [⟨some 5,.bslice false [.int .u8 0] 1 0 [],none⟩,
 ⟨some 6,.mov (.t 0),none⟩,
 ⟨some 7,.append false 1 1 (.t 5) (.t 6),none⟩,
 ⟨some 2,.mov (.t 7),none⟩])
 (.ret))),
 [.tmp 2]⟩
def a62 : AFunc := ⟨10,
 .seq (.region [⟨some 4,.mov (.c (.bool false)),none⟩])
 (.seq (.region [⟨some 5,.mov (.t 0),none⟩,
 ⟨some 6,.bstr (.t 5),none⟩,
 ⟨some 7,.mov (.t 1),none⟩,
 ⟨some 8,.bstr (.t 7),none⟩,
 ⟨some 9,.sbeq false (.t 6) (.t 8),none⟩,
 ⟨some 4,.mov (.t 9),none⟩])
 (.ret)),
 [.tmp 4]⟩
def xLC : ACode :=
 .seq (.region [⟨some 26,.bin .lss (.t 25) (.t 24),none⟩])
 (.seq (.cond (.t 26)
 (.skip)
 (.exit 2))
 (.seq (.block 3 (.seq (.seq (.region [⟨some 27,.mov (.t 7),none⟩,
 ⟨some 28,.bin .eql (.t 27) (.c (.int .i64 0)),none⟩,
 ⟨some 29,.mov (.t 28),none⟩,
 ⟨some 30,.mov (.t 3),some (29,false)⟩,
 ⟨some 31,.mov (.t 7),some (29,false)⟩,
 ⟨some 32,.bin .sub (.t 31) (.c (.int .i64 1)),some (29,false)⟩,
 ⟨some 33,.iaddr 1 (.t 30) (.t 32),some (29,false)⟩,
 ⟨some 34,.load false 1 (.t 33),some (29,false)⟩,
 ⟨some 35,.bin .eql (.t 34) (.c (.int .i64 0)),some (29,false)⟩,
 ⟨some 36,.pick (.t 29) (.c (.bool true)) (.t 35),none⟩])
 (.cond (.t 36)
 (.seq (.region [⟨some 6,.mov (.c (.int .i64 0)),none⟩])
 (.exit 2))
 (.skip)))
 (.seq (.region [⟨some 37,.mov (.t 7),none⟩,
 ⟨some 38,.bin .sub (.t 37) (.c (.int .i64 1)),none⟩,
 ⟨some 39,.mov (.t 8),none⟩,
 ⟨some 8,.mov (.t 38),none⟩,
 ⟨some 9,.mov (.t 39),none⟩])
 (.seq (.region [⟨some 40,.mov (.t 6),none⟩,
 ⟨some 41,.mov (.t 3),none⟩,
 ⟨some 42,.mov (.t 7),none⟩,
 ⟨some 43,.bin .sub (.t 42) (.c (.int .i64 1)),none⟩,
 ⟨some 44,.iaddr 1 (.t 41) (.t 43),none⟩,
 ⟨some 45,.load false 1 (.t 44),none⟩,
 ⟨some 46,.bin .add (.t 40) (.t 45),none⟩,
 ⟨some 6,.mov (.t 46),none⟩])
 (.region [⟨some 47,.mov (.t 7),none⟩,
 ⟨some 48,.mov (.t 3),none⟩,
 ⟨some 49,.mov (.t 7),none⟩,
 ⟨some 50,.bin .sub (.t 49) (.c (.int .i64 1)),none⟩,
 ⟨some 51,.iaddr 1 (.t 48) (.t 50),none⟩,
 ⟨some 52,.load false 1 (.t 51),none⟩,
 ⟨some 53,.bin .sub (.t 47) (.t 52),none⟩,
 ⟨some 7,.mov (.t 53),none⟩])))))
 (.region [⟨some 54,.bin .add (.t 25) (.c (.int .i64 1)),none⟩,
 ⟨some 25,.mov (.t 54),none⟩])))
def xJR : ACode := xLC
def xEy : List Nat := [0,1,2,10,11,12,16,17,18,19,20,21,22,23,26,27,28,29,30,31,32,33,34,35,36,37,38,39,40,41,42,43,44,45,46,47,48,49,50,51,52,53,54,55,56,57,58,59,60,61,62,63,64,65,66,67,68,69,70,71,72,73,74]
abbrev xOH (s3 s4 s5 s6 s7 s8 s9 s13 s14 s15 s24 s25 : AV) : List AV := [.any,.any,.any,s3,s4,s5,s6,s7,s8,s9,.any,.any,.any,s13,s14,s15,.any,.any,.any,.any,.any,.any,.any,.any,s24,s25,.any,.any,.any,.any,.any,.any,.any,.any,.any,.any,.any,.any,.any,.any,.any,.any,.any,.any,.any,.any,.any,.any,.any,.any,.any,.any,.any,.any,.any,.any,.any,.any,.any,.any,.any,.any,.any,.any,.any,.any,.any,.any,.any,.any,.any,.any,.any,.any,.any]
theorem xHd (s0 s1 s2 s3 s4 s5 s6 s7 s8 s9 s10 s11 s12 s13 s14 s15 s16 s17 s18 s19 s20 s21 s22 s23 s24 s25 s26 s27 s28 s29 s30 s31 s32 s33 s34 s35 s36 s37 s38 s39 s40 s41 s42 s43 s44 s45 s46 s47 s48 s49 s50 s51 s52 s53 s54 s55 s56 s57 s58 s59 s60 s61 s62 s63 s64 s65 s66 s67 s68 s69 s70 s71 s72 s73 s74 : AV) : xA5 xEy [s0,s1,s2,s3,s4,s5,s6,s7,s8,s9,s10,s11,s12,s13,s14,s15,s16,s17,s18,s19,s20,s21,s22,s23,s24,s25,s26,s27,s28,s29,s30,s31,s32,s33,s34,s35,s36,s37,s38,s39,s40,s41,s42,s43,s44,s45,s46,s47,s48,s49,s50,s51,s52,s53,s54,s55,s56,s57,s58,s59,s60,s61,s62,s63,s64,s65,s66,s67,s68,s69,s70,s71,s72,s73,s74] = xOH s3 s4 s5 s6 s7 s8 s9 s13 s14 s15 s24 s25 := by kernel_rfl
theorem xRR {prog : Nat → Option AFunc} (s3 s4 s5 s6 s7 s8 s9 s13 s14 s15 s24 s25 : AV) (H : Heap) : (lim prog).loop xEy xJR ⟨xOH s3 s4 s5 s6 s7 s8 s9 s13 s14 s15 s24 s25,H⟩ = xB5 (lim prog) xEy xJR (run (lim prog) xLC ⟨xOH s3 s4 s5 s6 s7 s8 s9 s13 s14 s15 s24 s25,H⟩) := xAw _ _ _ _ (by kernel_rfl)
def xJm : ACode :=
 .seq (.region [⟨some 16,.bin .lss (.t 15) (.t 14),none⟩])
 (.seq (.cond (.t 16)
 (.skip)
 (.exit 0))
 (.seq (.block 1 (.seq (.region [⟨some 17,.mov (.t 15),none⟩,
 ⟨some 18,.iaddr 6 (.t 13) (.t 15),none⟩,
 ⟨some 19,.load true 6 (.t 18),none⟩,
 ⟨some 5,.box (.c (.agg [.int .u8 0,.int .i64 0,.sl true 0 [],.int .i64 0,.int .i64 0,.int .i64 0])),none⟩,
 ⟨some 4,.mov (.t 17),none⟩,
 ⟨none,.store 6 (.t 5) (.t 19),none⟩])
 (.seq (.region [⟨some 20,.mov (.t 4),none⟩,
 ⟨some 6,.mov (.c (.int .i64 1)),none⟩,
 ⟨some 7,.mov (.t 20),none⟩,
 ⟨some 8,.mov (.c (.int .i64 0)),none⟩,
 ⟨some 9,.mov (.c (.int .i64 0)),none⟩])
 (.seq (.seq (.region [⟨some 21,.faddr 0 (.t 5),none⟩,
 ⟨some 22,.load false 1 (.t 21),none⟩,
 ⟨some 23,.call 68 [(.t 22)],none⟩,
 ⟨some 24,.field false 1 1 (.t 23),none⟩,
 ⟨some 25,.mov (.c (.int .i64 0)),none⟩])
 (.block 2 (.loop xEy xJR)))
 (.seq (.region [⟨some 55,.mov (.t 6),none⟩,
 ⟨some 56,.bin .gtr (.t 55) (.c (.int .i64 0)),none⟩,
 ⟨some 57,.mov (.t 56),none⟩,
 ⟨some 58,.faddr 4 (.t 5),some (57,true)⟩,
 ⟨some 59,.load false 1 (.t 58),some (57,true)⟩,
 ⟨some 60,.mov (.t 8),some (57,true)⟩,
 ⟨some 61,.bin .eql (.t 59) (.t 60),some (57,true)⟩,
 ⟨some 62,.pick (.t 57) (.t 61) (.c (.bool false)),none⟩,
 ⟨some 63,.mov (.t 62),none⟩,
 ⟨some 64,.faddr 5 (.t 5),some (63,true)⟩,
 ⟨some 65,.load false 1 (.t 64),some (63,true)⟩,
 ⟨some 66,.mov (.t 9),some (63,true)⟩,
 ⟨some 67,.bin .eql (.t 65) (.t 66),some (63,true)⟩,
 ⟨some 68,.pick (.t 63) (.t 67) (.c (.bool false)),none⟩])
 (.cond (.t 68)
 (.region [⟨some 69,.mov (.t 3),none⟩,
 ⟨some 70,.mov (.t 4),none⟩,
 ⟨some 71,.mov (.t 6),none⟩,
 ⟨some 72,.iaddr 1 (.t 69) (.t 70),none⟩,
 ⟨none,.store 1 (.t 72) (.t 71),none⟩])
 (.skip)))))))
 (.region [⟨some 73,.bin .add (.t 15) (.c (.int .i64 1)),none⟩,
 ⟨some 15,.mov (.t 73),none⟩])))
def xPN : ACode := xJm
def xHe : List Nat := [0,1,2,4,5,6,7,8,9,10,11,12,16,17,18,19,20,21,22,23,24,25,26,27,28,29,30,31,32,33,34,35,36,37,38,39,40,41,42,43,44,45,46,47,48,49,50,51,52,53,54,55,56,57,58,59,60,61,62,63,64,65,66,67,68,69,70,71,72,73,74]
abbrev xOI (s3 s13 s14 s15 : AV) : List AV := [.any,.any,.any,s3,.any,.any,.any,.any,.any,.any,.any,.any,.any,s13,s14,s15,.any,.any,.any,.any,.any,.any,.any,.any,.any,.any,.any,.any,.any,.any,.any,.any,.any,.any,.any,.any,.any,.any,.any,.any,.any,.any,.any,.any,.any,.any,.any,.any,.any,.any,.any,.any,.any,.any,.any,.any,.any,.any,.any,.any,.any,.any,.any,.any,.any,.any,.any,.any,.any,.any,.any,.any,.any,.any,.any]
theorem xLD (s0 s1 s2 s3 s4 s5 s6 s7 s8 s9 s10 s11 s12 s13 s14 s15 s16 s17 s18 s19 s20 s21 s22 s23 s24 s25 s26 s27 s28 s29 s30 s31 s32 s33 s34 s35 s36 s37 s38 s39 s40 s41 s42 s43 s44 s45 s46 s47 s48 s49 s50 s51 s52 s53 s54 s55 s56 s57 s58 s59 s60 s61 s62 s63 s64 s65 s66 s67 s68 s69 s70 s71 s72 s73 s74 : AV) : xA5 xHe [s0,s1,s2,s3,s4,s5,s6,s7,s8,s9,s10,s11,s12,s13,s14,s15,s16,s17,s18,s19,s20,s21,s22,s23,s24,s25,s26,s27,s28,s29,s30,s31,s32,s33,s34,s35,s36,s37,s38,s39,s40,s41,s42,s43,s44,s45,s46,s47,s48,s49,s50,s51,s52,s53,s54,s55,s56,s57,s58,s59,s60,s61,s62,s63,s64,s65,s66,s67,s68,s69,s70,s71,s72,s73,s74] = xOI s3 s13 s14 s15 := by kernel_rfl
theorem xOJ {prog : Nat → Option AFunc} (s3 s13 s14 s15 : AV) (H : Heap) : (lim prog).loop xHe xPN ⟨xOI s3 s13 s14 s15,H⟩ = xB5 (lim prog) xHe xPN (run (lim prog) xJm ⟨xOI s3 s13 s14 s15,H⟩) := xAw _ _ _ _ (by kernel_rfl)
def a66 : AFunc := ⟨75,
 .seq (.region [⟨some 2,.mov (.c (.sl true 0 [])),none⟩])
 (.seq (.region [⟨some 10,.mov (.t 0),none⟩,
 ⟨some 11,.len (.t 10),none⟩,
 ⟨some 12,.mkslice false [.int .i64 0] 8 (.t 11) (.t 11),none⟩,
 ⟨some 3,.mov (.t 12),none⟩])
 (.seq (.seq (.region [⟨some 13,.mov (.t 0),none⟩,
 ⟨some 14,.len (.t 13),none⟩,
 ⟨some 15,.mov (.c (.int .i64 0)),none⟩])
 (.block 0 (.loop xHe xPN)))
 (.seq (.region [⟨some 74,.mov (.t 3),none⟩,
 ⟨some 2,.mov (.t 74),none⟩])
 (.ret)))),
 [.tmp 2]⟩
def a67 : AFunc := ⟨75,
 .seq (.region [⟨some 2,.box (.t 0),none⟩,
 ⟨some 4,.mov (.c (.int .i64 0)),none⟩])
 (.seq (.region [⟨some 6,.faddr 0 (.t 2),none⟩,
 ⟨some 7,.load false 1 (.t 6),none⟩,
 ⟨some 8,.call 68 [(.t 7)],none⟩,
 ⟨some 5,.box (.c (.agg [.str ⟨#[]⟩,.int .i64 0,.int .i64 0,.int .i64 0,.bool false,.bool false])),none⟩,
 ⟨none,.store 6 (.t 5) (.t 8),none⟩])
 (.seq (.block 0 (.seq (.region [⟨some 10,.faddr 0 (.t 5),none⟩,
 ⟨some 11,.load false 1 (.t 10),none⟩,
 ⟨some 12,.sbeq false (.t 11) (.c (.str ⟨#[]⟩)),none⟩,
 ⟨some 9,.mov (.t 12),none⟩])
 (.cond (.t 9)
 (.seq (.region [⟨some 4,.mov (.c (.int .i64 6)),none⟩])
 (.ret))
 (.seq (.region [⟨some 14,.faddr 4 (.t 5),none⟩,
 ⟨some 15,.load false 1 (.t 14),none⟩,
 ⟨some 16,.un .not (.t 15),none⟩,
 ⟨some 17,.mov (.t 16),none⟩,
 ⟨some 18,.faddr 1 (.t 2),some (17,true)⟩,
 ⟨some 19,.load false 1 (.t 18),some (17,true)⟩,
 ⟨some 20,.bin .neq (.t 19) (.c (.int .i64 0)),some (17,true)⟩,
 ⟨some 21,.pick (.t 17) (.t 20) (.c (.bool false)),none⟩,
 ⟨some 22,.mov (.t 21),none⟩,
 ⟨some 23,.faddr 5 (.t 5),some (22,false)⟩,
 ⟨some 24,.load false 1 (.t 23),some (22,false)⟩,
 ⟨some 25,.un .not (.t 24),some (22,false)⟩,
 ⟨some 26,.mov (.t 25),some (22,false)⟩,
 ⟨some 27,.faddr 3 (.t 2),some (26,true)⟩,
 ⟨some 28,.load false 1 (.t 27),some (26,true)⟩,
 ⟨some 29,.bin .neq (.t 28) (.c (.int .i64 0)),some (26,true)⟩,
 ⟨some 30,.pick (.t 26) (.t 29) (.c (.bool false)),some (22,false)⟩,
 ⟨some 31,.pick (.t 22) (.c (.bool true)) (.t 30),none⟩,
 ⟨some 32,.mov (.t 31),none⟩,
 ⟨some 33,.mov (.t 1),some (32,false)⟩,
 ⟨some 34,.bin .eql (.t 33) (.c (.int .i64 0)),some (32,false)⟩,
 ⟨some 35,.pick (.t 32) (.c (.bool true)) (.t 34),none⟩,
 ⟨some 36,.mov (.t 35),none⟩,
 ⟨some 37,.faddr 2 (.t 2),some (36,false)⟩,
 ⟨some 38,.load false 1 (.t 37),some (36,false)⟩,
 ⟨some 39,.len (.t 38),some (36,false)⟩,
 ⟨some 40,.faddr 2 (.t 5),some (36,false)⟩,
 ⟨some 41,.load false 1 (.t 40),some (36,false)⟩,
 ⟨some 42,.bin .lss (.t 39) (.t 41),some (36,false)⟩,
 ⟨some 43,.pick (.t 36) (.c (.bool true)) (.t 42),none⟩,
 ⟨some 44,.mov (.t 43),none⟩,
 ⟨some 45,.faddr 2 (.t 2),some (44,false)⟩,
 ⟨some 46,.load false 1 (.t 45),some (44,false)⟩,
 ⟨some 47,.len (.t 46),some (44,false)⟩,
 ⟨some 48,.faddr 3 (.t 5),some (44,false)⟩,
 ⟨some 49,.load false 1 (.t 48),some (44,false)⟩,
 ⟨some 50,.bin .gtr (.t 47) (.t 49),some (44,false)⟩,
 ⟨some 51,.pick (.t 44) (.c (.bool true)) (.t 50),none⟩,
 ⟨some 13,.mov (.t 51),none⟩])
 (.cond (.t 13)
 (.seq (.region [⟨some 4,.mov (.c (.int .i64 2)),none⟩])
 (.ret))
 (.seq (.region [⟨some 53,.faddr 1 (.t 2),none⟩,
 ⟨some 54,.load false 1 (.t 53),none⟩,
 ⟨some 55,.bslice true [.int .i64 0] 1 1 [(0,(.t 54))],none⟩,
 ⟨some 56,.call 84 [(.c (.int .i64 0)),(.c (.int .i64 7)),(.t 55)],none⟩,
 ⟨some 57,.un .not (.t 56),none⟩,
 ⟨some 58,.mov (.t 57),none⟩,
 ⟨some 59,.faddr 5 (.t 5),some (58,false)⟩,
 ⟨some 60,.load false 1 (.t 59),some (58,false)⟩,
 ⟨some 61,.mov (.t 60),some (58,false)⟩,
 ⟨some 62,.faddr 3 (.t 2),some (61,true)⟩,
 ⟨some 63,.load false 1 (.t 62),some (61,true)⟩,
 ⟨some 64,.bslice true [.int .i64 0] 1 1 [(0,(.t 63))],some (61,true)⟩,
 ⟨some 65,.call 84 [(.c (.int .i64 8)),(.c (.int .i64 10)),(.t 64)],some (61,true)⟩,
 ⟨some 66,.un .not (.t 65),some (61,true)⟩,
 ⟨some 67,.pick (.t 61) (.t 66) (.c (.bool false)),some (58,false)⟩,
 ⟨some 68,.pick (.t 58) (.c (.bool true)) (.t 67),none⟩,
 ⟨some 69,.mov (.t 68),none⟩,
 ⟨some 70,.faddr 2 (.t 2),some (69,false)⟩,
 ⟨some 71,.load false 1 (.t 70),some (69,false)⟩,
 ⟨some 72,.call 84 [(.c (.int .i64 0)),(.c (.int .i64 10)),(.t 71)],some (69,false)⟩,
 ⟨some 73,.un .not (.t 72),some (69,false)⟩,
 ⟨some 74,.pick (.t 69) (.c (.bool true)) (.t 73),none⟩,
 ⟨some 52,.mov (.t 74),none⟩])
 (.cond (.t 52)
 (.seq (.region [⟨some 4,.mov (.c (.int .i64 1)),none⟩])
 (.ret))
 (.skip))))))))
 (.seq (.region [⟨some 4,.mov (.c (.int .i64 0)),none⟩])
 (.ret)))),
 [.tmp 4]⟩
def xFP : ACode :=
 .seq (.region [⟨some 26,.bin .lss (.t 25) (.c (.int .i64 6)),none⟩])
 (.seq (.cond (.t 26)
 (.skip)
 (.exit 1))
 (.seq (.block 2 (.seq (.region [⟨some 27,.idx true 3 6 (.t 24) (.t 25),none⟩,
 ⟨some 4,.box (.c (.agg [.int .u8 0,.str ⟨#[]⟩,.int .i64 0])),none⟩,
 ⟨none,.store 3 (.t 4) (.t 27),none⟩])
 (.seq (.region [⟨some 28,.faddr 0 (.t 4),none⟩,
 ⟨some 29,.load false 1 (.t 28),none⟩,
 ⟨some 30,.mov (.t 0),none⟩,
 ⟨some 31,.bin .eql (.t 29) (.t 30),none⟩])
 (.cond (.t 31)
 (.seq (.region [⟨some 32,.faddr 1 (.t 4),none⟩,
 ⟨some 33,.load false 1 (.t 32),none⟩,
 ⟨some 34,.faddr 2 (.t 4),none⟩,
 ⟨some 35,.load false 1 (.t 34),none⟩,
 ⟨some 36,.build [.str ⟨#[]⟩,.int .i64 0,.int .i64 0,.int .i64 0,.bool false,.bool false] [(0,1,(.t 33)),(1,1,(.t 35))],none⟩,
 ⟨none,.store 6 (.t 2) (.t 36),none⟩])
 (.ret))
 (.skip)))))
 (.region [⟨some 37,.bin .add (.t 25) (.c (.int .i64 1)),none⟩,
 ⟨some 25,.mov (.t 37),none⟩])))
def yAa : ACode := xFP
def xRS : List Nat := [1,3,4,5,6,7,8,9,10,11,12,13,14,15,16,17,18,19,20,21,22,23,26,27,28,29,30,31,32,33,34,35,36,37,38]
abbrev xVR (s0 s2 s24 s25 : AV) : List AV := [s0,.any,s2,.any,.any,.any,.any,.any,.any,.any,.any,.any,.any,.any,.any,.any,.any,.any,.any,.any,.any,.any,.any,.any,s24,s25,.any,.any,.any,.any,.any,.any,.any,.any,.any,.any,.any,.any,.any]
theorem xJn (s0 s1 s2 s3 s4 s5 s6 s7 s8 s9 s10 s11 s12 s13 s14 s15 s16 s17 s18 s19 s20 s21 s22 s23 s24 s25 s26 s27 s28 s29 s30 s31 s32 s33 s34 s35 s36 s37 s38 : AV) : xA5 xRS [s0,s1,s2,s3,s4,s5,s6,s7,s8,s9,s10,s11,s12,s13,s14,s15,s16,s17,s18,s19,s20,s21,s22,s23,s24,s25,s26,s27,s28,s29,s30,s31,s32,s33,s34,s35,s36,s37,s38] = xVR s0 s2 s24 s25 := by kernel_rfl
theorem xJo {prog : Nat → Option AFunc} (s0 s2 s24 s25 : AV) (H : Heap) : (lim prog).loop xRS yAa ⟨xVR s0 s2 s24 s25,H⟩ = xB5 (lim prog) xRS yAa (run (lim prog) xFP ⟨xVR s0 s2 s24 s25,H⟩) := xAw _ _ _ _ (by kernel_rfl)
def a68 : AFunc := ⟨39,
 .seq (.region [⟨some 2,.box (.c (.agg [.str ⟨#[]⟩,.int .i64 0,.int .i64 0,.int .i64 0,.bool false,.bool false])),none⟩])
 (.seq (.seq (.region [⟨some 5,.mov (.t 0),none⟩])
 (.block 0 (.seq (.region [⟨some 7,.bin .eql (.t 5) (.c (.int .u8 1)),none⟩,
 ⟨some 6,.mov (.t 7),none⟩])
 (.cond (.t 6)
 (.seq (.region [⟨some 8,.build [.str ⟨#[]⟩,.int .i64 0,.int .i64 0,.int .i64 0,.bool false,.bool false] [(0,1,(.c (.str ⟨#[116,114,117,101]⟩)))],none⟩,
 ⟨none,.store 6 (.t 2) (.t 8),none⟩])
 (.ret))
 (.seq (.region [⟨some 10,.bin .eql (.t 5) (.c (.int .u8 2)),none⟩,
 ⟨some 9,.mov (.t 10),none⟩])
 (.cond (.t 9)
 (.seq (.region [⟨some 11,.build [.str ⟨#[]⟩,.int .i64 0,.int .i64 0,.int .i64 0,.bool false,.bool false] [(0,1,(.c (.str ⟨#[97,116]⟩))),(3,1,(.c (.int .i64 2))),(4,1,(.c (.bool true)))],none⟩,
 ⟨none,.store 6 (.t 2) (.t 11),none⟩])
 (.ret))
 (.seq (.region [⟨some 13,.bin .eql (.t 5) (.c (.int .u8 3)),none⟩,
 ⟨some 12,.mov (.t 13),none⟩])
 (.cond (.t 12)
 (.seq (.region [⟨some 14,.build [.str ⟨#[]⟩,.int .i64 0,.int .i64 0,.int .i64 0,.bool false,.bool false] [(0,1,(.c (.str ⟨#[61]⟩))),(2,1,(.c (.int .i64 2))),(3,1,(.c (.int .i64 2)))],none⟩,
 ⟨none,.store 6 (.t 2) (.t 14),none⟩])
 (.ret))
 (.seq (.region [⟨some 16,.bin .eql (.t 5) (.c (.int .u8 7)),none⟩,
 ⟨some 15,.mov (.t 16),none⟩])
 (.cond (.t 15)
 (.seq (.region [⟨some 17,.build [.str ⟨#[]⟩,.int .i64 0,.int .i64 0,.int .i64 0,.bool false,.bool false] [(0,1,(.c (.str ⟨#[101,120,105,115,116,115]⟩))),(1,1,(.c (.int .i64 1))),(5,1,(.c (.bool true)))],none⟩,
 ⟨none,.store 6 (.t 2) (.t 17),none⟩])
 (.ret))
 (.skip)))))))))))
 (.seq (.seq (.region [⟨some 18,.build [.int .u8 0,.str ⟨#[]⟩,.int .i64 0] [(0,1,(.c (.int .u8 4))),(1,1,(.c (.str ⟨#[110,111,116]⟩))),(2,1,(.c (.int .i64 1)))],none⟩,
 ⟨some 19,.build [.int .u8 0,.str ⟨#[]⟩,.int .i64 0] [(0,1,(.c (.int .u8 5))),(1,1,(.c (.str ⟨#[97,110,100]⟩))),(2,1,(.c (.int .i64 2)))],none⟩,
 ⟨some 20,.build [.int .u8 0,.str ⟨#[]⟩,.int .i64 0] [(0,1,(.c (.int .u8 6))),(1,1,(.c (.str ⟨#[111,114]⟩))),(2,1,(.c (.int .i64 2)))],none⟩,
 ⟨some 21,.build [.int .u8 0,.str ⟨#[]⟩,.int .i64 0] [(0,1,(.c (.int .u8 8))),(1,1,(.c (.str ⟨#[112,114,101,118,105,111,117,115]⟩))),(2,1,(.c (.int .i64 1)))],none⟩,
 ⟨some 22,.build [.int .u8 0,.str ⟨#[]⟩,.int .i64 0] [(0,1,(.c (.int .u8 9))),(1,1,(.c (.str ⟨#[115,105,110,99,101]⟩))),(2,1,(.c (.int .i64 2)))],none⟩,
 ⟨some 23,.build [.int .u8 0,.str ⟨#[]⟩,.int .i64 0] [(0,1,(.c (.int .u8 10))),(1,1,(.c (.str ⟨#[111,110,99,101]⟩))),(2,1,(.c (.int .i64 1)))],none⟩,
 ⟨some 24,.build [.int .u8 0,.str ⟨#[]⟩,.int .i64 0,.int .u8 0,.str ⟨#[]⟩,.int .i64 0,.int .u8 0,.str ⟨#[]⟩,.int .i64 0,.int .u8 0,.str ⟨#[]⟩,.int .i64 0,.int .u8 0,.str ⟨#[]⟩,.int .i64 0,.int .u8 0,.str ⟨#[]⟩,.int .i64 0] [(0,3,(.t 18)),(3,3,(.t 19)),(6,3,(.t 20)),(9,3,(.t 21)),(12,3,(.t 22)),(15,3,(.t 23))],none⟩,
 ⟨some 25,.mov (.c (.int .i64 0)),none⟩])
 (.block 1 (.loop xRS yAa)))
 (.seq (.region [⟨some 38,.build [.str ⟨#[]⟩,.int .i64 0,.int .i64 0,.int .i64 0,.bool false,.bool false] [],none⟩,
 ⟨none,.store 6 (.t 2) (.t 38),none⟩])
 (.ret)))),
 [.cell 2 true 6]⟩
def a70 : AFunc := ⟨53,
 .seq (.region [⟨some 6,.mov (.c (.int .u8 0)),none⟩])
 (.seq (.block 0 (.seq (.draw 4 [⟨some 8,.mov (.t 0),none⟩,
 ⟨some 9,.nilchk (.t 8),none⟩,
 ⟨some 10,.faddr 1 (.t 9),none⟩,
 ⟨some 11,.load false 1 (.t 10),none⟩,
 ⟨some 12,.mov (.t 0),none⟩,
 ⟨some 13,.nilchk (.t 12),none⟩,
 ⟨some 14,.faddr 0 (.t 13),none⟩,
 ⟨some 15,.load false 1 (.t 14),none⟩,
 ⟨some 16,.slen (.t 15),none⟩,
 ⟨some 17,.bin .eql (.t 11) (.t 16),none⟩,
 ⟨some 7,.mov (.t 17),none⟩])
 (.cond (.t 7)
 (.stuck)
 (.seq (.draw 5 [⟨some 25,.mov (.t 1),none⟩,
 ⟨some 26,.mov (.t 0),none⟩,
 ⟨some 27,.nilchk (.t 26),none⟩,
 ⟨some 28,.faddr 0 (.t 27),none⟩,
 ⟨some 29,.load false 1 (.t 28),none⟩,
 ⟨some 30,.mov (.t 0),none⟩,
 ⟨some 31,.nilchk (.t 30),none⟩,
 ⟨some 32,.faddr 1 (.t 31),none⟩,
 ⟨some 33,.load false 1 (.t 32),none⟩,
 ⟨some 34,.sidx (.t 29) (.t 33),none⟩,
 ⟨some 35,.call 98 [(.t 25),(.t 34)],none⟩,
 ⟨some 36,.bin .lss (.t 35) (.c (.int .i64 0)),none⟩,
 ⟨some 24,.mov (.t 36),none⟩])
 (.cond (.t 24)
 (.stuck)
 (.skip))))))
 (.seq (.draw 4 [⟨some 44,.mov (.t 0),none⟩,
 ⟨some 45,.nilchk (.t 44),none⟩,
 ⟨some 46,.faddr 0 (.t 45),none⟩,
 ⟨some 47,.load false 1 (.t 46),none⟩,
 ⟨some 48,.mov (.t 0),none⟩,
 ⟨some 49,.nilchk (.t 48),none⟩,
 ⟨some 50,.faddr 1 (.t 49),none⟩,
 ⟨some 51,.load false 1 (.t 50),none⟩,
 ⟨some 52,.sidx (.t 47) (.t 51),none⟩,
 ⟨some 6,.mov (.t 52),none⟩])
 (.ret))),
 [.tmp 6]⟩
def yBZ : ACode :=
 .seq (.seq (.region [⟨some 28,.mov (.t 7),none⟩,
 ⟨some 29,.bin .leq (.t 28) (.c (.int .u8 10)),none⟩])
 (.cond (.t 29)
 (.skip)
 (.exit 0)))
 (.seq (.block 1 (.seq (.region [⟨some 32,.mov (.t 7),none⟩,
 ⟨some 33,.call 68 [(.t 32)],none⟩,
 ⟨some 34,.field false 0 1 (.t 33),none⟩,
 ⟨some 35,.mov (.t 5),none⟩,
 ⟨some 36,.sbeq false (.t 34) (.t 35),none⟩,
 ⟨some 37,.mov (.t 36),none⟩,
 ⟨some 38,.mov (.t 7),some (37,true)⟩,
 ⟨some 39,.bin .neq (.t 38) (.c (.int .u8 1)),some (37,true)⟩,
 ⟨some 40,.mov (.t 1),some (37,true)⟩,
 ⟨some 41,.beq false (.t 39) (.t 40),some (37,true)⟩,
 ⟨some 42,.pick (.t 37) (.t 41) (.c (.bool false)),none⟩])
 (.cond (.t 42)
 (.seq (.region [⟨some 43,.mov (.t 0),none⟩,
 ⟨some 44,.nilchk (.t 43),none⟩,
 ⟨some 45,.faddr 1 (.t 44),none⟩,
 ⟨some 46,.load false 1 (.t 45),none⟩,
 ⟨some 47,.mov (.t 5),none⟩,
 ⟨some 48,.slen (.t 47),none⟩,
 ⟨some 49,.bin .add (.t 46) (.t 48),none⟩,
 ⟨some 50,.nilchk (.t 43),none⟩,
 ⟨some 51,.faddr 1 (.t 50),none⟩,
 ⟨none,.store 1 (.t 51) (.t 49),none⟩])
 (.seq (.region [⟨some 52,.mov (.t 7),none⟩,
 ⟨some 4,.mov (.t 52),none⟩])
 (.ret)))
 (.skip))))
 (.region [⟨some 30,.mov (.t 7),none⟩,
 ⟨some 31,.bin .add (.t 30) (.c (.int .u8 1)),none⟩,
 ⟨some 7,.mov (.t 31),none⟩]))
def yDv : ACode := yBZ
def yB0 : List Nat := [2,3,6,8,9,10,11,12,13,14,15,16,17,18,19,20,21,22,23,24,25,26,27,28,29,30,31,32,33,34,35,36,37,38,39,40,41,42,43,44,45,46,47,48,49,50,51,52,53,54,55,56,57,58]
def a71 : AFunc := ⟨59,
 .seq (.region [⟨some 4,.mov (.c (.int .u8 0)),none⟩])
 (.seq (.region [⟨some 5,.mov (.c (.str ⟨#[61]⟩)),none⟩])
 (.seq (.seq (.region [⟨some 8,.mov (.t 0),none⟩,
 ⟨some 9,.icall (.c (.func 70 [])) [(.t 8),(.c (.str ⟨#[61,97,98,99,100,101,102,103,104,105,106,107,108,109,110,111,112,113,114,115,116,117,118,119,120,121,122]⟩)),(.c (.int .i64 2))],none⟩,
 ⟨some 10,.bin .neq (.t 9) (.c (.int .u8 61)),none⟩])
 (.cond (.t 10)
 (.seq (.draw 4 [⟨some 11,.mov (.t 0),none⟩,
 ⟨some 12,.nilchk (.t 11),none⟩,
 ⟨some 13,.faddr 0 (.t 12),none⟩,
 ⟨some 14,.load false 1 (.t 13),none⟩,
 ⟨some 15,.mov (.t 0),none⟩,
 ⟨some 16,.nilchk (.t 15),none⟩,
 ⟨some 17,.faddr 1 (.t 16),none⟩,
 ⟨some 18,.load false 1 (.t 17),none⟩,
 ⟨some 19,.sslice (.t 14) (some (.t 18)) none,none⟩,
 ⟨some 6,.mov (.t 19),none⟩])
 (.region [⟨some 20,.mov (.t 6),none⟩,
 ⟨some 21,.mov (.t 6),none⟩,
 ⟨some 22,.slen (.t 21),none⟩,
 ⟨some 23,.mov (.t 6),none⟩,
 ⟨some 24,.call 99 [(.t 23),(.c (.str ⟨#[97,98,99,100,101,102,103,104,105,106,107,108,109,110,111,112,113,114,115,116,117,118,119,120,121,122]⟩))],none⟩,
 ⟨some 25,.slen (.t 24),none⟩,
 ⟨some 26,.bin .sub (.t 22) (.t 25),none⟩,
 ⟨some 27,.sslice (.t 20) none (some (.t 26)),none⟩,
 ⟨some 5,.mov (.t 27),none⟩]))
 (.skip)))
 (.seq (.seq (.region [⟨some 7,.mov (.c (.int .u8 1)),none⟩])
 (.block 0 (.loop yB0 yDv)))
 (.stuck)))),
 [.tmp 4]⟩
def a72 : AFunc := ⟨21,
 .seq (.region [⟨some 4,.mov (.c (.int .i64 0)),none⟩])
 (.seq (.region [⟨some 6,.mov (.t 0),none⟩,
 ⟨some 7,.icall (.c (.func 73 [])) [(.t 6),(.c (.str ⟨#[32]⟩))],none⟩])
 (.seq (.region [⟨some 8,.mov (.t 0),none⟩,
 ⟨some 9,.mov (.t 1),none⟩,
 ⟨some 10,.icall (.c (.func 70 [])) [(.t 8),(.t 9),(.c (.int .i64 1))],none⟩,
 ⟨some 5,.mov (.t 10),none⟩])
 (.seq (.region [⟨some 11,.mov (.t 0),none⟩,
 ⟨some 12,.nilchk (.t 11),none⟩,
 ⟨some 13,.faddr 1 (.t 12),none⟩,
 ⟨some 14,.load false 1 (.t 13),none⟩,
 ⟨some 15,.bin .add (.t 14) (.c (.int .i64 1)),none⟩,
 ⟨some 16,.nilchk (.t 11),none⟩,
 ⟨some 17,.faddr 1 (.t 16),none⟩,
 ⟨none,.store 1 (.t 17) (.t 15),none⟩])
 (.seq (.region [⟨some 18,.mov (.t 1),none⟩,
 ⟨some 19,.mov (.t 5),none⟩,
 ⟨some 20,.call 98 [(.t 18),(.t 19)],none⟩,
 ⟨some 4,.mov (.t 20),none⟩])
 (.ret))))),
 [.tmp 4]⟩
def a73 : AFunc := ⟨14,
 .seq (.region [⟨some 4,.mov (.t 0),none⟩,
 ⟨some 5,.mov (.t 1),none⟩,
 ⟨some 6,.icall (.c (.func 70 [])) [(.t 4),(.t 5),(.c (.int .i64 2))],none⟩])
 (.region [⟨some 7,.mov (.t 0),none⟩,
 ⟨some 8,.nilchk (.t 7),none⟩,
 ⟨some 9,.faddr 1 (.t 8),none⟩,
 ⟨some 10,.load false 1 (.t 9),none⟩,
 ⟨some 11,.bin .add (.t 10) (.c (.int .i64 1)),none⟩,
 ⟨some 12,.nilchk (.t 7),none⟩,
 ⟨some 13,.faddr 1 (.t 12),none⟩,
 ⟨none,.store 1 (.t 13) (.t 11),none⟩]),
 []⟩
def a82 : AFunc := ⟨8,
 .seq (.region [⟨some 2,.mov (.c (.sl true 0 [])),none⟩])
 (.seq (.seq (.region [⟨some 3,.mov (.t 0),none⟩,
 ⟨some 4,.isnil false (.t 3),none⟩])
 (.cond (.t 4)
 (.seq (.region [⟨some 2,.mov (.c (.sl true 0 [])),none⟩])
 (.ret))
 (.skip)))
 (.seq (.region [⟨some 5,.bslice false [.int .u8 0,.int .i64 0,.sl true 0 [],.int .i64 0,.int .i64 0,.int .i64 0] 6 0 [],none⟩,
 ⟨some 6,.mov (.t 0),none⟩,
 ⟨some 7,.append false 6 64 (.t 5) (.t 6),none⟩,
 ⟨some 2,.mov (.t 7),none⟩])
 (.ret))),
 [.tmp 2]⟩
def a83 : AFunc := ⟨8,
 .seq (.region [⟨some 2,.mov (.c (.sl true 0 [])),none⟩])
 (.seq (.seq (.region [⟨some 3,.mov (.t 0),none⟩,
 ⟨some 4,.isnil false (.t 3),none⟩])
 (.cond (.t 4)
 (.seq (.region [⟨some 2,.mov (.c (.sl true 0 [])),none⟩])
 (.ret))
 (.skip)))
 (.seq (.region [⟨some 5,.bslice false [.int .i64 0] 1 0 [],none⟩,
 ⟨some 6,.mov (.t 0),none⟩,
 ⟨some 7,.append false 1 8 (.t 5) (.t 6),none⟩,
 ⟨some 2,.mov (.t 7),none⟩])
 (.ret))),
 [.tmp 2]⟩
def a84 : AFunc := ⟨11,
 .seq (.region [⟨some 3,.box (.t 0),none⟩,
 ⟨some 4,.box (.t 1),none⟩,
 ⟨some 6,.mov (.c (.bool false)),none⟩])
 (.seq (.region [⟨some 7,.mov (.t 2),none⟩,
 ⟨some 8,.mkfunc 102 [(.t 3),(.t 4)],none⟩,
 ⟨some 9,.icall (.c (.func 101 [])) [(.t 7),(.t 8)],none⟩,
 ⟨some 10,.un .not (.t 9),none⟩,
 ⟨some 6,.mov (.t 10),none⟩])
 (.ret)),
 [.tmp 6]⟩
def a85 : AFunc := ⟨6,
 .seq (.region [⟨some 3,.box (.t 1),none⟩,
 ⟨some 4,.box (.c (.agg [.int .u64 0,.int .u64 0,.int .u64 0,.int .u64 0,.int .u64 0,.int .u64 0,.int .u64 0,.int .u64 0])),none⟩])
 (.seq (.region [⟨some 5,.icall (.c (.func 103 [])) [(.c (.func 104 []))],none⟩,
 ⟨none,.store 8 (.t 4) (.t 5),none⟩])
 (.ret)),
 [.cell 4 true 8]⟩
def a86 : AFunc := ⟨28,
 .seq (.region [⟨some 2,.box (.t 0),none⟩,
 ⟨some 3,.box (.t 1),none⟩,
 ⟨some 4,.box (.c (.agg [.int .u64 0,.int .u64 0,.int .u64 0,.int .u64 0,.int .u64 0,.int .u64 0,.int .u64 0,.int .u64 0])),none⟩])
 (.seq (.seq (.draw 18 [⟨some 5,.faddr 1 (.t 3),none⟩,
 ⟨some 6,.load false 1 (.t 5),none⟩,
 ⟨some 7,.load false 1 (.t 2),none⟩,
 ⟨some 8,.nilchk (.t 7),none⟩,
 ⟨some 9,.faddr 0 (.t 8),none⟩,
 ⟨some 10,.faddr 0 (.t 9),none⟩,
 ⟨some 11,.load false 1 (.t 10),none⟩,
 ⟨some 12,.bin .neq (.t 6) (.t 11),none⟩,
 ⟨some 13,.mov (.t 12),none⟩,
 ⟨some 14,.faddr 2 (.t 3),some (13,false)⟩,
 ⟨some 15,.load false 1 (.t 14),some (13,false)⟩,
 ⟨some 16,.len (.t 15),some (13,false)⟩,
 ⟨some 17,.load false 1 (.t 2),some (13,false)⟩,
 ⟨some 18,.nilchk (.t 17),some (13,false)⟩,
 ⟨some 19,.faddr 0 (.t 18),some (13,false)⟩,
 ⟨some 20,.faddr 1 (.t 19),some (13,false)⟩,
 ⟨some 21,.load false 1 (.t 20),some (13,false)⟩,
 ⟨some 22,.len (.t 21),some (13,false)⟩,
 ⟨some 23,.bin .neq (.t 16) (.t 22),some (13,false)⟩,
 ⟨some 24,.pick (.t 13) (.c (.bool true)) (.t 23),none⟩])
 (.cond (.t 24)
 (.seq (.region [⟨some 25,.build [.int .u64 0,.int .u64 0,.int .u64 0,.int .u64 0,.int .u64 0,.int .u64 0,.int .u64 0,.int .u64 0] [],none⟩,
 ⟨none,.store 8 (.t 4) (.t 25),none⟩])
 (.ret))
 (.skip)))
 (.seq (.region [⟨some 26,.mkfunc 105 [(.t 3),(.t 2)],none⟩,
 ⟨some 27,.icall (.c (.func 103 [])) [(.t 26)],none⟩,
 ⟨none,.store 8 (.t 4) (.t 27),none⟩])
 (.ret))),
 [.cell 4 true 8]⟩
def a87 : AFunc := ⟨7,
 .seq (.region [⟨some 3,.box (.t 1),none⟩,
 ⟨some 4,.box (.c (.agg [.int .u64 0,.int .u64 0,.int .u64 0,.int .u64 0,.int .u64 0,.int .u64 0,.int .u64 0,.int .u64 0])),none⟩])
 (.seq (.region [⟨some 5,.mkfunc 106 [(.t 3)],none⟩,
 ⟨some 6,.icall (.c (.func 103 [])) [(.t 5)],none⟩,
 ⟨none,.store 8 (.t 4) (.t 6),none⟩])
 (.ret)),
 [.cell 4 true 8]⟩
def a88 : AFunc := ⟨15,
 .seq (.region [⟨some 3,.box (.t 1),none⟩,
 ⟨some 4,.box (.c (.agg [.int .u64 0,.int .u64 0,.int .u64 0,.int .u64 0,.int .u64 0,.int .u64 0,.int .u64 0,.int .u64 0])),none⟩])
 (.seq (.draw 8 [⟨some 5,.mov (.t 0),none⟩,
 ⟨some 6,.nilchk (.t 5),none⟩,
 ⟨some 7,.faddr 2 (.t 6),none⟩,
 ⟨some 8,.load false 1 (.t 7),none⟩,
 ⟨some 9,.faddr 4 (.t 3),none⟩,
 ⟨some 10,.load false 1 (.t 9),none⟩,
 ⟨some 11,.iaddr 8 (.t 8) (.t 10),none⟩,
 ⟨some 12,.load true 8 (.t 11),none⟩,
 ⟨some 13,.build [.int .u64 0,.int .u64 0,.int .u64 0,.int .u64 0,.int .u64 0,.int .u64 0,.int .u64 0,.int .u64 0] [],none⟩,
 ⟨some 14,.icall (.c (.func 107 [])) [(.t 12),(.t 13),(.c (.func 108 []))],none⟩,
 ⟨none,.store 8 (.t 4) (.t 14),none⟩])
 (.ret)),
 [.cell 4 true 8]⟩
def a89 : AFunc := ⟨22,
 .seq (.region [⟨some 3,.box (.t 1),none⟩,
 ⟨some 4,.box (.c (.agg [.int .u64 0,.int .u64 0,.int .u64 0,.int .u64 0,.int .u64 0,.int .u64 0,.int .u64 0,.int .u64 0])),none⟩])
 (.seq (.draw 12 [⟨some 5,.mov (.t 0),none⟩,
 ⟨some 6,.nilchk (.t 5),none⟩,
 ⟨some 7,.faddr 2 (.t 6),none⟩,
 ⟨some 8,.load false 1 (.t 7),none⟩,
 ⟨some 9,.faddr 4 (.t 3),none⟩,
 ⟨some 10,.load false 1 (.t 9),none⟩,
 ⟨some 11,.iaddr 8 (.t 8) (.t 10),none⟩,
 ⟨some 12,.load true 8 (.t 11),none⟩,
 ⟨some 13,.mov (.t 0),none⟩,
 ⟨some 14,.nilchk (.t 13),none⟩,
 ⟨some 15,.faddr 2 (.t 14),none⟩,
 ⟨some 16,.load false 1 (.t 15),none⟩,
 ⟨some 17,.faddr 5 (.t 3),none⟩,
 ⟨some 18,.load false 1 (.t 17),none⟩,
 ⟨some 19,.iaddr 8 (.t 16) (.t 18),none⟩,
 ⟨some 20,.load true 8 (.t 19),none⟩,
 ⟨some 21,.call 109 [(.t 12),(.t 20)],none⟩,
 ⟨none,.store 8 (.t 4) (.t 21),none⟩])
 (.ret)),
 [.cell 4 true 8]⟩
def a90 : AFunc := ⟨22,
 .seq (.region [⟨some 3,.box (.t 1),none⟩,
 ⟨some 4,.box (.c (.agg [.int .u64 0,.int .u64 0,.int .u64 0,.int .u64 0,.int .u64 0,.int .u64 0,.int .u64 0,.int .u64 0])),none⟩])
 (.seq (.draw 12 [⟨some 5,.mov (.t 0),none⟩,
 ⟨some 6,.nilchk (.t 5),none⟩,
 ⟨some 7,.faddr 2 (.t 6),none⟩,
 ⟨some 8,.load false 1 (.t 7),none⟩,
 ⟨some 9,.faddr 4 (.t 3),none⟩,
 ⟨some 10,.load false 1 (.t 9),none⟩,
 ⟨some 11,.iaddr 8 (.t 8) (.t 10),none⟩,
 ⟨some 12,.load true 8 (.t 11),none⟩,
 ⟨some 13,.mov (.t 0),none⟩,
 ⟨some 14,.nilchk (.t 13),none⟩,
 ⟨some 15,.faddr 2 (.t 14),none⟩,
 ⟨some 16,.load false 1 (.t 15),none⟩,
 ⟨some 17,.faddr 5 (.t 3),none⟩,
 ⟨some 18,.load false 1 (.t 17),none⟩,
 ⟨some 19,.iaddr 8 (.t 16) (.t 18),none⟩,
 ⟨some 20,.load true 8 (.t 19),none⟩,
 ⟨some 21,.call 110 [(.t 12),(.t 20)],none⟩,
 ⟨none,.store 8 (.t 4) (.t 21),none⟩])
 (.ret)),
 [.cell 4 true 8]⟩
def a91 : AFunc := ⟨16,
 .seq (.region [⟨some 3,.box (.t 1),none⟩,
 ⟨some 4,.box (.c (.agg [.int .u64 0,.int .u64 0,.int .u64 0,.int .u64 0,.int .u64 0,.int .u64 0,.int .u64 0,.int .u64 0])),none⟩])
 (.seq (.draw 8 [⟨some 5,.mov (.t 0),none⟩,
 ⟨some 6,.nilchk (.t 5),none⟩,
 ⟨some 7,.faddr 2 (.t 6),none⟩,
 ⟨some 8,.load false 1 (.t 7),none⟩,
 ⟨some 9,.faddr 4 (.t 3),none⟩,
 ⟨some 10,.load false 1 (.t 9),none⟩,
 ⟨some 11,.iaddr 8 (.t 8) (.t 10),none⟩,
 ⟨some 12,.load true 8 (.t 11),none⟩,
 ⟨some 13,.faddr 3 (.t 3),none⟩,
 ⟨some 14,.load false 1 (.t 13),none⟩,
 ⟨some 15,.call 111 [(.t 12),(.t 14)],none⟩,
 ⟨none,.store 8 (.t 4) (.t 15),none⟩])
 (.ret)),
 [.cell 4 true 8]⟩
def a92 : AFunc := ⟨9,
 .seq (.region [⟨some 3,.box (.t 1),none⟩,
 ⟨some 4,.box (.c (.agg [.int .u64 0,.int .u64 0,.int .u64 0,.int .u64 0,.int .u64 0,.int .u64 0,.int .u64 0,.int .u64 0])),none⟩])
 (.seq (.region [⟨some 5,.mov (.t 0),none⟩,
 ⟨some 6,.nilchk (.t 5),none⟩,
 ⟨some 7,.faddr 3 (.t 6),none⟩,
 ⟨some 8,.load true 8 (.t 7),none⟩,
 ⟨none,.store 8 (.t 4) (.t 8),none⟩])
 (.ret)),
 [.cell 4 true 8]⟩
def a93 : AFunc := ⟨27,
 .seq (.region [⟨some 3,.box (.t 1),none⟩,
 ⟨some 4,.box (.c (.agg [.int .u64 0,.int .u64 0,.int .u64 0,.int .u64 0,.int .u64 0,.int .u64 0,.int .u64 0,.int .u64 0])),none⟩])
 (.seq (.draw 21 [⟨some 5,.mov (.t 0),none⟩,
 ⟨some 6,.nilchk (.t 5),none⟩,
 ⟨some 7,.faddr 2 (.t 6),none⟩,
 ⟨some 8,.load false 1 (.t 7),none⟩,
 ⟨some 9,.faddr 5 (.t 3),none⟩,
 ⟨some 10,.load false 1 (.t 9),none⟩,
 ⟨some 11,.iaddr 8 (.t 8) (.t 10),none⟩,
 ⟨some 12,.load true 8 (.t 11),none⟩,
 ⟨some 13,.mov (.t 0),none⟩,
 ⟨some 14,.nilchk (.t 13),none⟩,
 ⟨some 15,.faddr 2 (.t 14),none⟩,
 ⟨some 16,.load false 1 (.t 15),none⟩,
 ⟨some 17,.faddr 4 (.t 3),none⟩,
 ⟨some 18,.load false 1 (.t 17),none⟩,
 ⟨some 19,.iaddr 8 (.t 16) (.t 18),none⟩,
 ⟨some 20,.load true 8 (.t 19),none⟩,
 ⟨some 21,.mov (.t 0),none⟩,
 ⟨some 22,.nilchk (.t 21),none⟩,
 ⟨some 23,.faddr 3 (.t 22),none⟩,
 ⟨some 24,.load true 8 (.t 23),none⟩,
 ⟨some 25,.call 109 [(.t 20),(.t 24)],none⟩,
 ⟨some 26,.call 110 [(.t 12),(.t 25)],none⟩,
 ⟨none,.store 8 (.t 4) (.t 26),none⟩])
 (.ret)),
 [.cell 4 true 8]⟩
def a94 : AFunc := ⟨18,
 .seq (.region [⟨some 3,.box (.t 1),none⟩,
 ⟨some 4,.box (.c (.agg [.int .u64 0,.int .u64 0,.int .u64 0,.int .u64 0,.int .u64 0,.int .u64 0,.int .u64 0,.int .u64 0])),none⟩])
 (.seq (.draw 8 [⟨some 5,.mov (.t 0),none⟩,
 ⟨some 6,.nilchk (.t 5),none⟩,
 ⟨some 7,.faddr 2 (.t 6),none⟩,
 ⟨some 8,.load false 1 (.t 7),none⟩,
 ⟨some 9,.faddr 4 (.t 3),none⟩,
 ⟨some 10,.load false 1 (.t 9),none⟩,
 ⟨some 11,.iaddr 8 (.t 8) (.t 10),none⟩,
 ⟨some 12,.load true 8 (.t 11),none⟩,
 ⟨some 13,.mov (.t 0),none⟩,
 ⟨some 14,.nilchk (.t 13),none⟩,
 ⟨some 15,.faddr 3 (.t 14),none⟩,
 ⟨some 16,.load true 8 (.t 15),none⟩,
 ⟨some 17,.call 110 [(.t 12),(.t 16)],none⟩,
 ⟨none,.store 8 (.t 4) (.t 17),none⟩])
 (.ret)),
 [.cell 4 true 8]⟩
def yCZ : AFunc := ⟨9,
 .seq (.region [⟨some 4,.mov (.c (.bool false)),none⟩])
 (.seq (.region [⟨some 5,.mov (.t 0),none⟩,
 ⟨some 6,.mov (.t 1),none⟩,
 ⟨some 7,.icall (.c (.func 119 [])) [(.t 5),(.t 6)],none⟩,
 ⟨some 8,.bin .geq (.t 7) (.c (.int .i64 0)),none⟩,
 ⟨some 4,.mov (.t 8),none⟩])
 (.ret)),
 [.tmp 4]⟩
def yB1 : AFunc := ⟨13,
 .seq (.region [⟨some 4,.mov (.c (.bool false)),none⟩])
 (.seq (.region [⟨some 5,.mov (.t 0),none⟩,
 ⟨some 6,.load false 1 (.t 1),none⟩,
 ⟨some 7,.bin .lss (.t 5) (.t 6),none⟩,
 ⟨some 8,.mov (.t 7),none⟩,
 ⟨some 9,.mov (.t 0),some (8,false)⟩,
 ⟨some 10,.load false 1 (.t 2),some (8,false)⟩,
 ⟨some 11,.bin .gtr (.t 9) (.t 10),some (8,false)⟩,
 ⟨some 12,.pick (.t 8) (.c (.bool true)) (.t 11),none⟩,
 ⟨some 4,.mov (.t 12),none⟩])
 (.ret)),
 [.tmp 4]⟩
def xJp : ACode :=
 .seq (.region [⟨some 14,.bin .lss (.t 13) (.c (.int .i64 8)),none⟩])
 (.seq (.cond (.t 14)
 (.skip)
 (.exit 4))
 (.seq (.block 5 (.seq (.region [⟨some 15,.mov (.t 13),none⟩,
 ⟨some 5,.box (.c (.int .i64 0)),none⟩,
 ⟨none,.store 1 (.t 5) (.t 15),none⟩])
 (.seq (.region [⟨some 16,.mkfunc 120 [(.t 3),(.t 4),(.t 5)],none⟩,
 ⟨some 6,.mov (.t 16),none⟩])
 (.seq (.region [⟨some 17,.mov (.t 0),none⟩,
 ⟨some 18,.mov (.t 6),none⟩,
 ⟨some 19,.icall (.t 17) [(.t 18)],none⟩])
 (.cond (.t 19)
 (.region [⟨some 20,.load false 1 (.t 3),none⟩,
 ⟨some 21,.load false 1 (.t 4),none⟩,
 ⟨some 22,.load false 1 (.t 5),none⟩,
 ⟨some 23,.icall (.c (.func 121 [])) [(.t 2),(.t 20),(.t 21),(.t 22)],none⟩])
 (.skip))))))
 (.region [⟨some 24,.bin .add (.t 13) (.c (.int .i64 1)),none⟩,
 ⟨some 13,.mov (.t 24),none⟩])))
def xOK : ACode := xJp
def xGl : List Nat := [1,5,6,8,9,11,12,14,15,16,17,18,19,20,21,22,23,24,25,26,27]
abbrev xGm (s0 s2 s3 s4 s7 s10 s13 : AV) : List AV := [s0,.any,s2,s3,s4,.any,.any,s7,.any,.any,s10,.any,.any,s13,.any,.any,.any,.any,.any,.any,.any,.any,.any,.any,.any,.any,.any,.any]
theorem xMi (s0 s1 s2 s3 s4 s5 s6 s7 s8 s9 s10 s11 s12 s13 s14 s15 s16 s17 s18 s19 s20 s21 s22 s23 s24 s25 s26 s27 : AV) : xA5 xGl [s0,s1,s2,s3,s4,s5,s6,s7,s8,s9,s10,s11,s12,s13,s14,s15,s16,s17,s18,s19,s20,s21,s22,s23,s24,s25,s26,s27] = xGm s0 s2 s3 s4 s7 s10 s13 := by kernel_rfl
theorem xPO {prog : Nat → Option AFunc} (s0 s2 s3 s4 s7 s10 s13 : AV) (H : Heap) : (lim prog).loop xGl xOK ⟨xGm s0 s2 s3 s4 s7 s10 s13,H⟩ = xB5 (lim prog) xGl xOK (run (lim prog) xJp ⟨xGm s0 s2 s3 s4 s7 s10 s13,H⟩) := xAw _ _ _ _ (by kernel_rfl)
def xMj : ACode :=
 .seq (.region [⟨some 11,.bin .lss (.t 10) (.c (.int .i64 8)),none⟩])
 (.seq (.cond (.t 11)
 (.skip)
 (.exit 2))
 (.seq (.block 3 (.seq (.region [⟨some 12,.mov (.t 10),none⟩,
 ⟨some 4,.box (.c (.int .i64 0)),none⟩,
 ⟨none,.store 1 (.t 4) (.t 12),none⟩])
 (.seq (.region [⟨some 13,.mov (.c (.int .i64 0)),none⟩])
 (.block 4 (.loop xGl xOK)))))
 (.region [⟨some 25,.bin .add (.t 10) (.c (.int .i64 1)),none⟩,
 ⟨some 10,.mov (.t 25),none⟩])))
def xOL : ACode := xMj
def xGn : List Nat := [1,4,5,6,8,9,11,12,13,14,15,16,17,18,19,20,21,22,23,24,25,26,27]
abbrev xGo (s0 s2 s3 s7 s10 : AV) : List AV := [s0,.any,s2,s3,.any,.any,.any,s7,.any,.any,s10,.any,.any,.any,.any,.any,.any,.any,.any,.any,.any,.any,.any,.any,.any,.any,.any,.any]
theorem xPP (s0 s1 s2 s3 s4 s5 s6 s7 s8 s9 s10 s11 s12 s13 s14 s15 s16 s17 s18 s19 s20 s21 s22 s23 s24 s25 s26 s27 : AV) : xA5 xGn [s0,s1,s2,s3,s4,s5,s6,s7,s8,s9,s10,s11,s12,s13,s14,s15,s16,s17,s18,s19,s20,s21,s22,s23,s24,s25,s26,s27] = xGo s0 s2 s3 s7 s10 := by kernel_rfl
theorem xVS {prog : Nat → Option AFunc} (s0 s2 s3 s7 s10 : AV) (H : Heap) : (lim prog).loop xGn xOL ⟨xGo s0 s2 s3 s7 s10,H⟩ = xB5 (lim prog) xGn xOL (run (lim prog) xMj ⟨xGo s0 s2 s3 s7 s10,H⟩) := xAw _ _ _ _ (by kernel_rfl)
def xMk : ACode :=
 .seq (.region [⟨some 8,.bin .lss (.t 7) (.c (.int .i64 8)),none⟩])
 (.seq (.cond (.t 8)
 (.skip)
 (.exit 0))
 (.seq (.block 1 (.seq (.region [⟨some 9,.mov (.t 7),none⟩,
 ⟨some 3,.box (.c (.int .i64 0)),none⟩,
 ⟨none,.store 1 (.t 3) (.t 9),none⟩])
 (.seq (.region [⟨some 10,.mov (.c (.int .i64 0)),none⟩])
 (.block 2 (.loop xGn xOL)))))
 (.region [⟨some 26,.bin .add (.t 7) (.c (.int .i64 1)),none⟩,
 ⟨some 7,.mov (.t 26),none⟩])))
def xOM : ACode := xMk
def xGp : List Nat := [1,3,4,5,6,8,9,10,11,12,13,14,15,16,17,18,19,20,21,22,23,24,25,26,27]
abbrev xGq (s0 s2 s7 : AV) : List AV := [s0,.any,s2,.any,.any,.any,.any,s7,.any,.any,.any,.any,.any,.any,.any,.any,.any,.any,.any,.any,.any,.any,.any,.any,.any,.any,.any,.any]
theorem xPQ (s0 s1 s2 s3 s4 s5 s6 s7 s8 s9 s10 s11 s12 s13 s14 s15 s16 s17 s18 s19 s20 s21 s22 s23 s24 s25 s26 s27 : AV) : xA5 xGp [s0,s1,s2,s3,s4,s5,s6,s7,s8,s9,s10,s11,s12,s13,s14,s15,s16,s17,s18,s19,s20,s21,s22,s23,s24,s25,s26,s27] = xGq s0 s2 s7 := by kernel_rfl
theorem xVT {prog : Nat → Option AFunc} (s0 s2 s7 : AV) (H : Heap) : (lim prog).loop xGp xOM ⟨xGq s0 s2 s7,H⟩ = xB5 (lim prog) xGp xOM (run (lim prog) xMk ⟨xGq s0 s2 s7,H⟩) := xAw _ _ _ _ (by kernel_rfl)
def yDw : AFunc := ⟨28,
 .seq (.region [⟨some 2,.box (.c (.agg [.int .u64 0,.int .u64 0,.int .u64 0,.int .u64 0,.int .u64 0,.int .u64 0,.int .u64 0,.int .u64 0])),none⟩])
 (.seq (.seq (.region [⟨some 7,.mov (.c (.int .i64 0)),none⟩])
 (.block 0 (.loop xGp xOM)))
 (.seq (.region [⟨some 27,.load true 8 (.t 2),none⟩,
 ⟨none,.store 8 (.t 2) (.t 27),none⟩])
 (.ret))),
 [.cell 2 true 8]⟩
def yDx : AFunc := ⟨3,
 .seq (.region [⟨some 2,.mov (.c (.bool false)),none⟩])
 (.seq (.region [⟨some 2,.mov (.c (.bool true)),none⟩])
 (.ret)),
 [.tmp 2]⟩
def xJq : ACode :=
 .seq (.region [⟨some 11,.bin .lss (.t 10) (.t 9),none⟩])
 (.seq (.cond (.t 11)
 (.skip)
 (.exit 0))
 (.seq (.block 1 (.seq (.region [⟨some 12,.mov (.t 10),none⟩,
 ⟨some 13,.iaddr 1 (.t 8) (.t 10),none⟩,
 ⟨some 14,.load false 1 (.t 13),none⟩,
 ⟨some 5,.mov (.t 12),none⟩,
 ⟨some 6,.mov (.t 14),none⟩])
 (.seq (.draw 11 [⟨some 15,.mov (.t 0),none⟩,
 ⟨some 16,.mov (.t 6),none⟩,
 ⟨some 17,.fcall (.t 15) [(.t 16)],none⟩,
 ⟨some 18,.load false 1 (.t 2),none⟩,
 ⟨some 19,.nilchk (.t 18),none⟩,
 ⟨some 20,.faddr 0 (.t 19),none⟩,
 ⟨some 21,.faddr 1 (.t 20),none⟩,
 ⟨some 22,.load false 1 (.t 21),none⟩,
 ⟨some 23,.mov (.t 5),none⟩,
 ⟨some 24,.iaddr 1 (.t 22) (.t 23),none⟩,
 ⟨some 25,.load false 1 (.t 24),none⟩,
 ⟨some 26,.bin .neq (.t 17) (.t 25),none⟩])
 (.cond (.t 26)
 (.seq (.region [⟨some 4,.mov (.c (.bool false)),none⟩])
 (.ret))
 (.skip)))))
 (.region [⟨some 27,.bin .add (.t 10) (.c (.int .i64 1)),none⟩,
 ⟨some 10,.mov (.t 27),none⟩])))
def xON : ACode := xJq
def xGr : List Nat := [1,3,5,6,7,11,12,13,14,15,16,17,18,19,20,21,22,23,24,25,26,27]
abbrev xE9 (s0 s2 s4 s8 s9 s10 : AV) : List AV := [s0,.any,s2,.any,s4,.any,.any,.any,s8,s9,s10,.any,.any,.any,.any,.any,.any,.any,.any,.any,.any,.any,.any,.any,.any,.any,.any,.any]
theorem xJr (s0 s1 s2 s3 s4 s5 s6 s7 s8 s9 s10 s11 s12 s13 s14 s15 s16 s17 s18 s19 s20 s21 s22 s23 s24 s25 s26 s27 : AV) : xA5 xGr [s0,s1,s2,s3,s4,s5,s6,s7,s8,s9,s10,s11,s12,s13,s14,s15,s16,s17,s18,s19,s20,s21,s22,s23,s24,s25,s26,s27] = xE9 s0 s2 s4 s8 s9 s10 := by kernel_rfl
theorem xPR {prog : Nat → Option AFunc} (s0 s2 s4 s8 s9 s10 : AV) (H : Heap) : (lim prog).loop xGr xON ⟨xE9 s0 s2 s4 s8 s9 s10,H⟩ = xB5 (lim prog) xGr xON (run (lim prog) xJq ⟨xE9 s0 s2 s4 s8 s9 s10,H⟩) := xAw _ _ _ _ (by kernel_rfl)
def a105 : AFunc := ⟨28,
 .seq (.region [⟨some 4,.mov (.c (.bool false)),none⟩])
 (.seq (.seq (.region [⟨some 7,.faddr 2 (.t 1),none⟩,
 ⟨some 8,.load false 1 (.t 7),none⟩,
 ⟨some 9,.len (.t 8),none⟩,
 ⟨some 10,.mov (.c (.int .i64 0)),none⟩])
 (.block 0 (.loop xGr xON)))
 (.seq (.region [⟨some 4,.mov (.c (.bool true)),none⟩])
 (.ret))),
 [.tmp 4]⟩
def yDy : AFunc := ⟨17,
 .seq (.region [⟨some 3,.mov (.c (.bool false)),none⟩])
 (.seq (.draw 11 [⟨some 4,.mov (.t 0),none⟩,
 ⟨some 5,.faddr 2 (.t 1),none⟩,
 ⟨some 6,.load false 1 (.t 5),none⟩,
 ⟨some 7,.iaddr 1 (.t 6) (.c (.int .i64 0)),none⟩,
 ⟨some 8,.load false 1 (.t 7),none⟩,
 ⟨some 9,.fcall (.t 4) [(.t 8)],none⟩,
 ⟨some 10,.mov (.t 0),none⟩,
 ⟨some 11,.faddr 2 (.t 1),none⟩,
 ⟨some 12,.load false 1 (.t 11),none⟩,
 ⟨some 13,.iaddr 1 (.t 12) (.c (.int .i64 1)),none⟩,
 ⟨some 14,.load false 1 (.t 13),none⟩,
 ⟨some 15,.icall (.t 10) [(.t 14)],none⟩,
 ⟨some 16,.bin .eql (.t 9) (.t 15),none⟩,
 ⟨some 3,.mov (.t 16),none⟩])
 (.ret)),
 [.tmp 3]⟩
def xMl : ACode :=
 .seq (.region [⟨some 9,.bin .lss (.t 8) (.c (.int .i64 8)),none⟩])
 (.seq (.cond (.t 9)
 (.skip)
 (.exit 0))
 (.seq (.block 1 (.seq (.region [⟨some 10,.mov (.t 8),none⟩,
 ⟨some 7,.mov (.t 10),none⟩])
 (.draw 5 [⟨some 11,.mov (.t 7),none⟩,
 ⟨some 12,.mov (.t 2),none⟩,
 ⟨some 13,.mov (.t 7),none⟩,
 ⟨some 14,.arrat 1 8 (.t 3) (.t 13),none⟩,
 ⟨some 15,.load false 1 (.t 14),none⟩,
 ⟨some 16,.mov (.t 7),none⟩,
 ⟨some 17,.arrat 1 8 (.t 4) (.t 16),none⟩,
 ⟨some 18,.load false 1 (.t 17),none⟩,
 ⟨some 19,.icall (.t 12) [(.t 15),(.t 18)],none⟩,
 ⟨some 20,.arrat 1 8 (.t 3) (.t 11),none⟩,
 ⟨none,.store 1 (.t 20) (.t 19),none⟩])))
 (.region [⟨some 21,.bin .add (.t 8) (.c (.int .i64 1)),none⟩,
 ⟨some 8,.mov (.t 21),none⟩])))
def xOO : ACode := xMl
def xGs : List Nat := [0,1,5,7,9,10,11,12,13,14,15,16,17,18,19,20,21,22]
abbrev xGt (s2 s3 s4 s6 s8 : AV) : List AV := [.any,.any,s2,s3,s4,.any,s6,.any,s8,.any,.any,.any,.any,.any,.any,.any,.any,.any,.any,.any,.any,.any,.any]
theorem xPS (s0 s1 s2 s3 s4 s5 s6 s7 s8 s9 s10 s11 s12 s13 s14 s15 s16 s17 s18 s19 s20 s21 s22 : AV) : xA5 xGs [s0,s1,s2,s3,s4,s5,s6,s7,s8,s9,s10,s11,s12,s13,s14,s15,s16,s17,s18,s19,s20,s21,s22] = xGt s2 s3 s4 s6 s8 := by kernel_rfl
theorem xVU {prog : Nat → Option AFunc} (s2 s3 s4 s6 s8 : AV) (H : Heap) : (lim prog).loop xGs xOO ⟨xGt s2 s3 s4 s6 s8,H⟩ = xB5 (lim prog) xGs xOO (run (lim prog) xMl ⟨xGt s2 s3 s4 s6 s8,H⟩) := xAw _ _ _ _ (by kernel_rfl)
def yDz : AFunc := ⟨23,
 .seq (.region [⟨some 3,.box (.t 0),none⟩,
 ⟨some 4,.box (.t 1),none⟩,
 ⟨some 6,.box (.c (.agg [.int .u64 0,.int .u64 0,.int .u64 0,.int .u64 0,.int .u64 0,.int .u64 0,.int .u64 0,.int .u64 0])),none⟩])
 (.seq (.seq (.region [⟨some 8,.mov (.c (.int .i64 0)),none⟩])
 (.block 0 (.loop xGs xOO)))
 (.seq (.region [⟨some 22,.load true 8 (.t 3),none⟩,
 ⟨none,.store 8 (.t 6) (.t 22),none⟩])
 (.ret))),
 [.cell 6 true 8]⟩
def yDA : AFunc := ⟨7,
 .seq (.region [⟨some 4,.mov (.c (.int .u64 0)),none⟩])
 (.seq (.region [⟨some 5,.mov (.t 0),none⟩,
 ⟨some 6,.un .xor (.t 5),none⟩,
 ⟨some 4,.mov (.t 6),none⟩])
 (.ret)),
 [.tmp 4]⟩
def yDB : AFunc := ⟨8,
 .seq (.region [⟨some 2,.box (.t 0),none⟩,
 ⟨some 3,.box (.t 1),none⟩,
 ⟨some 4,.box (.c (.agg [.int .u64 0,.int .u64 0,.int .u64 0,.int .u64 0,.int .u64 0,.int .u64 0,.int .u64 0,.int .u64 0])),none⟩])
 (.seq (.region [⟨some 5,.load true 8 (.t 2),none⟩,
 ⟨some 6,.load true 8 (.t 3),none⟩,
 ⟨some 7,.icall (.c (.func 107 [])) [(.t 5),(.t 6),(.c (.func 122 []))],none⟩,
 ⟨none,.store 8 (.t 4) (.t 7),none⟩])
 (.ret)),
 [.cell 4 true 8]⟩
def yDC : AFunc := ⟨8,
 .seq (.region [⟨some 2,.box (.t 0),none⟩,
 ⟨some 3,.box (.t 1),none⟩,
 ⟨some 4,.box (.c (.agg [.int .u64 0,.int .u64 0,.int .u64 0,.int .u64 0,.int .u64 0,.int .u64 0,.int .u64 0,.int .u64 0])),none⟩])
 (.seq (.region [⟨some 5,.load true 8 (.t 2),none⟩,
 ⟨some 6,.load true 8 (.t 3),none⟩,
 ⟨some 7,.icall (.c (.func 107 [])) [(.t 5),(.t 6),(.c (.func 123 []))],none⟩,
 ⟨none,.store 8 (.t 4) (.t 7),none⟩])
 (.ret)),
 [.cell 4 true 8]⟩
def xGu : ACode :=
 .seq (.region [⟨some 30,.bin .lss (.t 29) (.c (.int .i64 8)),none⟩])
 (.seq (.cond (.t 30)
 (.skip)
 (.exit 6))
 (.seq (.block 7 (.seq (.region [⟨some 31,.mov (.t 29),none⟩,
 ⟨some 8,.mov (.t 31),none⟩])
 (.seq (.region [⟨some 32,.mov (.t 5),none⟩,
 ⟨some 33,.mov (.t 6),none⟩,
 ⟨some 34,.mov (.t 7),none⟩,
 ⟨some 35,.build [.int .i64 0,.int .i64 0,.int .i64 0] [(0,1,(.t 32)),(1,1,(.t 33)),(2,1,(.t 34))],none⟩,
 ⟨some 9,.box (.c (.agg [.int .i64 0,.int .i64 0,.int .i64 0])),none⟩,
 ⟨none,.store 3 (.t 9) (.t 35),none⟩])
 (.seq (.region [⟨some 36,.mov (.t 1),none⟩,
 ⟨some 37,.bin .sub (.t 36) (.c (.int .i64 8)),none⟩,
 ⟨some 38,.mov (.t 8),none⟩,
 ⟨some 39,.arrat 1 3 (.t 9) (.t 37),none⟩,
 ⟨none,.store 1 (.t 39) (.t 38),none⟩])
 (.region [⟨some 40,.arrat 1 3 (.t 9) (.c (.int .i64 0)),none⟩,
 ⟨some 41,.load false 1 (.t 40),none⟩,
 ⟨some 42,.arrat 1 3 (.t 9) (.c (.int .i64 1)),none⟩,
 ⟨some 43,.load false 1 (.t 42),none⟩,
 ⟨some 44,.arrat 1 3 (.t 9) (.c (.int .i64 2)),none⟩,
 ⟨some 45,.load false 1 (.t 44),none⟩,
 ⟨some 46,.icall (.c (.func 121 [])) [(.t 4),(.t 41),(.t 43),(.t 45)],none⟩])))))
 (.region [⟨some 47,.bin .add (.t 29) (.c (.int .i64 1)),none⟩,
 ⟨some 29,.mov (.t 47),none⟩])))
def xOP : ACode := xGu
def xGv : List Nat := [0,3,8,9,11,12,14,15,17,18,19,20,21,22,23,24,25,26,27,28,30,31,32,33,34,35,36,37,38,39,40,41,42,43,44,45,46,47,48,49,50,51]
abbrev xGw (s1 s2 s4 s5 s6 s7 s10 s13 s16 s29 : AV) : List AV := [.any,s1,s2,.any,s4,s5,s6,s7,.any,.any,s10,.any,.any,s13,.any,.any,s16,.any,.any,.any,.any,.any,.any,.any,.any,.any,.any,.any,.any,s29,.any,.any,.any,.any,.any,.any,.any,.any,.any,.any,.any,.any,.any,.any,.any,.any,.any,.any,.any,.any,.any,.any]
theorem xJs (s0 s1 s2 s3 s4 s5 s6 s7 s8 s9 s10 s11 s12 s13 s14 s15 s16 s17 s18 s19 s20 s21 s22 s23 s24 s25 s26 s27 s28 s29 s30 s31 s32 s33 s34 s35 s36 s37 s38 s39 s40 s41 s42 s43 s44 s45 s46 s47 s48 s49 s50 s51 : AV) : xA5 xGv [s0,s1,s2,s3,s4,s5,s6,s7,s8,s9,s10,s11,s12,s13,s14,s15,s16,s17,s18,s19,s20,s21,s22,s23,s24,s25,s26,s27,s28,s29,s30,s31,s32,s33,s34,s35,s36,s37,s38,s39,s40,s41,s42,s43,s44,s45,s46,s47,s48,s49,s50,s51] = xGw s1 s2 s4 s5 s6 s7 s10 s13 s16 s29 := by kernel_rfl
theorem xMm {prog : Nat → Option AFunc} (s1 s2 s4 s5 s6 s7 s10 s13 s16 s29 : AV) (H : Heap) : (lim prog).loop xGv xOP ⟨xGw s1 s2 s4 s5 s6 s7 s10 s13 s16 s29,H⟩ = xB5 (lim prog) xGv xOP (run (lim prog) xGu ⟨xGw s1 s2 s4 s5 s6 s7 s10 s13 s16 s29,H⟩) := xAw _ _ _ _ (by kernel_rfl)
def xJt : ACode :=
 .seq (.region [⟨some 17,.bin .lss (.t 16) (.c (.int .i64 8)),none⟩])
 (.seq (.cond (.t 17)
 (.skip)
 (.exit 4))
 (.seq (.block 5 (.seq (.region [⟨some 18,.mov (.t 16),none⟩,
 ⟨some 7,.mov (.t 18),none⟩])
 (.seq (.seq (.region [⟨some 19,.mov (.t 5),none⟩,
 ⟨some 20,.arrat 1 8 (.t 2) (.t 19),none⟩,
 ⟨some 21,.load false 1 (.t 20),none⟩,
 ⟨some 22,.mov (.t 6),none⟩,
 ⟨some 23,.bin .mul (.c (.int .i64 8)) (.t 22),none⟩,
 ⟨some 24,.mov (.t 7),none⟩,
 ⟨some 25,.bin .add (.t 23) (.t 24),none⟩,
 ⟨some 26,.bin .shr (.t 21) (.t 25),none⟩,
 ⟨some 27,.bin .and (.t 26) (.c (.int .u64 1)),none⟩,
 ⟨some 28,.bin .eql (.t 27) (.c (.int .u64 0)),none⟩])
 (.cond (.t 28)
 (.exit 5)
 (.skip)))
 (.seq (.region [⟨some 29,.mov (.c (.int .i64 0)),none⟩])
 (.block 6 (.loop xGv xOP))))))
 (.region [⟨some 48,.bin .add (.t 16) (.c (.int .i64 1)),none⟩,
 ⟨some 16,.mov (.t 48),none⟩])))
def xOQ : ACode := xJt
def xGx : List Nat := [0,3,7,8,9,11,12,14,15,17,18,19,20,21,22,23,24,25,26,27,28,29,30,31,32,33,34,35,36,37,38,39,40,41,42,43,44,45,46,47,48,49,50,51]
abbrev xGy (s1 s2 s4 s5 s6 s10 s13 s16 : AV) : List AV := [.any,s1,s2,.any,s4,s5,s6,.any,.any,.any,s10,.any,.any,s13,.any,.any,s16,.any,.any,.any,.any,.any,.any,.any,.any,.any,.any,.any,.any,.any,.any,.any,.any,.any,.any,.any,.any,.any,.any,.any,.any,.any,.any,.any,.any,.any,.any,.any,.any,.any,.any,.any]
theorem xMn (s0 s1 s2 s3 s4 s5 s6 s7 s8 s9 s10 s11 s12 s13 s14 s15 s16 s17 s18 s19 s20 s21 s22 s23 s24 s25 s26 s27 s28 s29 s30 s31 s32 s33 s34 s35 s36 s37 s38 s39 s40 s41 s42 s43 s44 s45 s46 s47 s48 s49 s50 s51 : AV) : xA5 xGx [s0,s1,s2,s3,s4,s5,s6,s7,s8,s9,s10,s11,s12,s13,s14,s15,s16,s17,s18,s19,s20,s21,s22,s23,s24,s25,s26,s27,s28,s29,s30,s31,s32,s33,s34,s35,s36,s37,s38,s39,s40,s41,s42,s43,s44,s45,s46,s47,s48,s49,s50,s51] = xGy s1 s2 s4 s5 s6 s10 s13 s16 := by kernel_rfl
theorem xPT {prog : Nat → Option AFunc} (s1 s2 s4 s5 s6 s10 s13 s16 : AV) (H : Heap) : (lim prog).loop xGx xOQ ⟨xGy s1 s2 s4 s5 s6 s10 s13 s16,H⟩ = xB5 (lim prog) xGx xOQ (run (lim prog) xJt ⟨xGy s1 s2 s4 s5 s6 s10 s13 s16,H⟩) := xAw _ _ _ _ (by kernel_rfl)
def xMo : ACode :=
 .seq (.region [⟨some 14,.bin .lss (.t 13) (.c (.int .i64 8)),none⟩])
 (.seq (.cond (.t 14)
 (.skip)
 (.exit 2))
 (.seq (.block 3 (.seq (.region [⟨some 15,.mov (.t 13),none⟩,
 ⟨some 6,.mov (.t 15),none⟩])
 (.seq (.region [⟨some 16,.mov (.c (.int .i64 0)),none⟩])
 (.block 4 (.loop xGx xOQ)))))
 (.region [⟨some 49,.bin .add (.t 13) (.c (.int .i64 1)),none⟩,
 ⟨some 13,.mov (.t 49),none⟩])))
def xOR : ACode := xMo
def xGz : List Nat := [0,3,6,7,8,9,11,12,14,15,16,17,18,19,20,21,22,23,24,25,26,27,28,29,30,31,32,33,34,35,36,37,38,39,40,41,42,43,44,45,46,47,48,49,50,51]
abbrev xGA (s1 s2 s4 s5 s10 s13 : AV) : List AV := [.any,s1,s2,.any,s4,s5,.any,.any,.any,.any,s10,.any,.any,s13,.any,.any,.any,.any,.any,.any,.any,.any,.any,.any,.any,.any,.any,.any,.any,.any,.any,.any,.any,.any,.any,.any,.any,.any,.any,.any,.any,.any,.any,.any,.any,.any,.any,.any,.any,.any,.any,.any]
theorem xPU (s0 s1 s2 s3 s4 s5 s6 s7 s8 s9 s10 s11 s12 s13 s14 s15 s16 s17 s18 s19 s20 s21 s22 s23 s24 s25 s26 s27 s28 s29 s30 s31 s32 s33 s34 s35 s36 s37 s38 s39 s40 s41 s42 s43 s44 s45 s46 s47 s48 s49 s50 s51 : AV) : xA5 xGz [s0,s1,s2,s3,s4,s5,s6,s7,s8,s9,s10,s11,s12,s13,s14,s15,s16,s17,s18,s19,s20,s21,s22,s23,s24,s25,s26,s27,s28,s29,s30,s31,s32,s33,s34,s35,s36,s37,s38,s39,s40,s41,s42,s43,s44,s45,s46,s47,s48,s49,s50,s51] = xGA s1 s2 s4 s5 s10 s13 := by kernel_rfl
theorem xVV {prog : Nat → Option AFunc} (s1 s2 s4 s5 s10 s13 : AV) (H : Heap) : (lim prog).loop xGz xOR ⟨xGA s1 s2 s4 s5 s10 s13,H⟩ = xB5 (lim prog) xGz xOR (run (lim prog) xMo ⟨xGA s1 s2 s4 s5 s10 s13,H⟩) := xAw _ _ _ _ (by kernel_rfl)
def xMp : ACode :=
 .seq (.region [⟨some 11,.bin .lss (.t 10) (.c (.int .i64 8)),none⟩])
 (.seq (.cond (.t 11)
 (.skip)
 (.exit 0))
 (.seq (.block 1 (.seq (.region [⟨some 12,.mov (.t 10),none⟩,
 ⟨some 5,.mov (.t 12),none⟩])
 (.seq (.region [⟨some 13,.mov (.c (.int .i64 0)),none⟩])
 (.block 2 (.loop xGz xOR)))))
 (.region [⟨some 50,.bin .add (.t 10) (.c (.int .i64 1)),none⟩,
 ⟨some 10,.mov (.t 50),none⟩])))
def xOS : ACode := xMp
def xGB : List Nat := [0,3,5,6,7,8,9,11,12,13,14,15,16,17,18,19,20,21,22,23,24,25,26,27,28,29,30,31,32,33,34,35,36,37,38,39,40,41,42,43,44,45,46,47,48,49,50,51]
abbrev xGC (s1 s2 s4 s10 : AV) : List AV := [.any,s1,s2,.any,s4,.any,.any,.any,.any,.any,s10,.any,.any,.any,.any,.any,.any,.any,.any,.any,.any,.any,.any,.any,.any,.any,.any,.any,.any,.any,.any,.any,.any,.any,.any,.any,.any,.any,.any,.any,.any,.any,.any,.any,.any,.any,.any,.any,.any,.any,.any,.any]
theorem xPV (s0 s1 s2 s3 s4 s5 s6 s7 s8 s9 s10 s11 s12 s13 s14 s15 s16 s17 s18 s19 s20 s21 s22 s23 s24 s25 s26 s27 s28 s29 s30 s31 s32 s33 s34 s35 s36 s37 s38 s39 s40 s41 s42 s43 s44 s45 s46 s47 s48 s49 s50 s51 : AV) : xA5 xGB [s0,s1,s2,s3,s4,s5,s6,s7,s8,s9,s10,s11,s12,s13,s14,s15,s16,s17,s18,s19,s20,s21,s22,s23,s24,s25,s26,s27,s28,s29,s30,s31,s32,s33,s34,s35,s36,s37,s38,s39,s40,s41,s42,s43,s44,s45,s46,s47,s48,s49,s50,s51] = xGC s1 s2 s4 s10 := by kernel_rfl
theorem xVW {prog : Nat → Option AFunc} (s1 s2 s4 s10 : AV) (H : Heap) : (lim prog).loop xGB xOS ⟨xGC s1 s2 s4 s10,H⟩ = xB5 (lim prog) xGB xOS (run (lim prog) xMp ⟨xGC s1 s2 s4 s10,H⟩) := xAw _ _ _ _ (by kernel_rfl)
def yDD : AFunc := ⟨52,
 .seq (.region [⟨some 2,.box (.t 0),none⟩,
 ⟨some 4,.box (.c (.agg [.int .u64 0,.int .u64 0,.int .u64 0,.int .u64 0,.int .u64 0,.int .u64 0,.int .u64 0,.int .u64 0])),none⟩])
 (.seq (.seq (.region [⟨some 10,.mov (.c (.int .i64 0)),none⟩])
 (.block 0 (.loop xGB xOS)))
 (.seq (.region [⟨some 51,.load true 8 (.t 4),none⟩,
 ⟨none,.store 8 (.t 4) (.t 51),none⟩])
 (.ret))),
 [.cell 4 true 8]⟩
def xJu : ACode :=
 .seq (.region [⟨some 9,.bin .lss (.t 8) (.t 7),none⟩])
 (.seq (.cond (.t 9)
 (.skip)
 (.exit 0))
 (.seq (.block 1 (.seq (.region [⟨some 10,.mov (.t 8),none⟩,
 ⟨some 5,.mov (.t 10),none⟩])
 (.seq (.region [⟨some 11,.mov (.t 1),none⟩,
 ⟨some 12,.mov (.t 0),none⟩,
 ⟨some 13,.mov (.t 5),none⟩,
 ⟨some 14,.iaddr 1 (.t 12) (.t 13),none⟩,
 ⟨some 15,.load false 1 (.t 14),none⟩,
 ⟨some 16,.icall (.t 11) [(.t 15)],none⟩])
 (.cond (.t 16)
 (.seq (.region [⟨some 17,.mov (.t 5),none⟩,
 ⟨some 4,.mov (.t 17),none⟩])
 (.ret))
 (.skip)))))
 (.region [⟨some 18,.bin .add (.t 8) (.c (.int .i64 1)),none⟩,
 ⟨some 8,.mov (.t 18),none⟩])))
def xOT : ACode := xJu
def xGD : List Nat := [2,3,5,6,9,10,11,12,13,14,15,16,17,18]
abbrev xFa (s0 s1 s4 s7 s8 : AV) : List AV := [s0,s1,.any,.any,s4,.any,.any,s7,s8,.any,.any,.any,.any,.any,.any,.any,.any,.any,.any]
theorem xJv (s0 s1 s2 s3 s4 s5 s6 s7 s8 s9 s10 s11 s12 s13 s14 s15 s16 s17 s18 : AV) : xA5 xGD [s0,s1,s2,s3,s4,s5,s6,s7,s8,s9,s10,s11,s12,s13,s14,s15,s16,s17,s18] = xFa s0 s1 s4 s7 s8 := by kernel_rfl
theorem xPW {prog : Nat → Option AFunc} (s0 s1 s4 s7 s8 : AV) (H : Heap) : (lim prog).loop xGD xOT ⟨xFa s0 s1 s4 s7 s8,H⟩ = xB5 (lim prog) xGD xOT (run (lim prog) xJu ⟨xFa s0 s1 s4 s7 s8,H⟩) := xAw _ _ _ _ (by kernel_rfl)
def a119 : AFunc := ⟨19,
 .seq (.region [⟨some 4,.mov (.c (.int .i64 0)),none⟩])
 (.seq (.seq (.region [⟨some 6,.mov (.t 0),none⟩,
 ⟨some 7,.len (.t 6),none⟩,
 ⟨some 8,.mov (.c (.int .i64 0)),none⟩])
 (.block 0 (.loop xGD xOT)))
 (.seq (.region [⟨some 4,.mov (.c (.int .i64 (-1))),none⟩])
 (.ret))),
 [.tmp 4]⟩
def yB2 : AFunc := ⟨16,
 .seq (.region [⟨some 5,.mov (.c (.int .i64 0)),none⟩])
 (.seq (.seq (.region [⟨some 6,.mov (.t 0),none⟩,
 ⟨some 7,.bin .lss (.t 6) (.c (.int .i64 8)),none⟩])
 (.cond (.t 7)
 (.seq (.region [⟨some 8,.mov (.t 0),none⟩,
 ⟨some 5,.mov (.t 8),none⟩])
 (.ret))
 (.skip)))
 (.seq (.region [⟨some 9,.load false 1 (.t 1),none⟩,
 ⟨some 10,.load false 1 (.t 2),none⟩,
 ⟨some 11,.load false 1 (.t 3),none⟩,
 ⟨some 12,.build [.int .i64 0,.int .i64 0,.int .i64 0] [(0,1,(.t 9)),(1,1,(.t 10)),(2,1,(.t 11))],none⟩,
 ⟨some 13,.mov (.t 0),none⟩,
 ⟨some 14,.bin .sub (.t 13) (.c (.int .i64 8)),none⟩,
 ⟨some 15,.idx false 1 3 (.t 12) (.t 14),none⟩,
 ⟨some 5,.mov (.t 15),none⟩])
 (.ret))),
 [.tmp 5]⟩
def yDE : AFunc := ⟨21,
 .draw 11 [⟨some 8,.mov (.t 0),none⟩,
 ⟨some 9,.mov (.t 1),none⟩,
 ⟨some 10,.nilchk (.t 8),none⟩,
 ⟨some 11,.arrat 1 8 (.t 10) (.t 9),none⟩,
 ⟨some 12,.load false 1 (.t 11),none⟩,
 ⟨some 13,.mov (.t 2),none⟩,
 ⟨some 14,.bin .mul (.c (.int .i64 8)) (.t 13),none⟩,
 ⟨some 15,.mov (.t 3),none⟩,
 ⟨some 16,.bin .add (.t 14) (.t 15),none⟩,
 ⟨some 17,.bin .shl (.c (.int .u64 1)) (.t 16),none⟩,
 ⟨some 18,.bin .or (.t 12) (.t 17),none⟩,
 ⟨some 19,.nilchk (.t 8),none⟩,
 ⟨some 20,.arrat 1 8 (.t 19) (.t 9),none⟩,
 ⟨none,.store 1 (.t 20) (.t 18),none⟩],
 []⟩
def yDF : AFunc := ⟨8,
 .seq (.region [⟨some 4,.mov (.c (.int .u64 0)),none⟩])
 (.seq (.region [⟨some 5,.mov (.t 0),none⟩,
 ⟨some 6,.mov (.t 1),none⟩,
 ⟨some 7,.bin .and (.t 5) (.t 6),none⟩,
 ⟨some 4,.mov (.t 7),none⟩])
 (.ret)),
 [.tmp 4]⟩
def yDG : AFunc := ⟨8,
 .seq (.region [⟨some 4,.mov (.c (.int .u64 0)),none⟩])
 (.seq (.region [⟨some 5,.mov (.t 0),none⟩,
 ⟨some 6,.mov (.t 1),none⟩,
 ⟨some 7,.bin .or (.t 5) (.t 6),none⟩,
 ⟨some 4,.mov (.t 7),none⟩])
 (.ret)),
 [.tmp 4]⟩
def xAz : Nat → Option AFunc
 | 6 => some a6
 | 7 => some a7
 | 8 => some a8
 | 17 => some a17
 | 18 => some a18
 | 19 => some a19
 | 22 => some a22
 | 24 => some a24
 | 25 => some a25
 | 29 => some a29
 | 33 => some a33
 | 34 => some a34
 | 35 => some a35
 | 36 => some a36
 | 39 => some a39
 | 41 => some a41
 | 42 => some a42
 | 46 => some a46
 | 47 => some a47
 | 48 => some a48
 | 49 => some a49
 | 50 => some a50
 | 51 => some a51
 | 54 => some a54
 | 55 => some a55
 | 56 => some a56
 | 57 => some a57
 | 60 => some a60
 | 62 => some a62
 | 66 => some a66
 | 67 => some a67
 | 68 => some a68
 | 70 => some a70
 | 71 => some a71
 | 72 => some a72
 | 73 => some a73
 | 82 => some a82
 | 83 => some a83
 | 84 => some a84
 | 85 => some a85
 | 86 => some a86
 | 87 => some a87
 | 88 => some a88
 | 89 => some a89
 | 90 => some a90
 | 91 => some a91
 | 92 => some a92
 | 93 => some a93
 | 94 => some a94
 | 101 => some yCZ
 | 102 => some yB1
 | 103 => some yDw
 | 104 => some yDx
 | 105 => some a105
 | 106 => some yDy
 | 107 => some yDz
 | 108 => some yDA
 | 109 => some yDB
 | 110 => some yDC
 | 111 => some yDD
 | 119 => some a119
 | 120 => some yB2
 | 121 => some yDE
 | 122 => some yDF
 | 123 => some yDG
 | _ => none
theorem a6p (args : List AV) : (lim xAz).pcall 6 args = xBj (lim xAz) a6 args := xAt rfl args
theorem a7p (args : List AV) : (lim xAz).pcall 7 args = xBj (lim xAz) a7 args := xAt rfl args
theorem a8p (args : List AV) : (lim xAz).pcall 8 args = xBj (lim xAz) a8 args := xAt rfl args
theorem yER (args : List AV) : (lim xAz).pcall 17 args = xBj (lim xAz) a17 args := xAt rfl args
theorem yEx (args : List AV) : (lim xAz).pcall 18 args = xBj (lim xAz) a18 args := xAt rfl args
theorem yEy (caps args : List AV) (H : Heap) : (lim xAz).icall (.func 19 caps) args H = xBU (lim xAz) a19 (args ++ caps) H := xAI rfl caps args H
theorem yDH (caps args : List AV) (H : Heap) : (lim xAz).icall (.func 22 caps) args H = xBU (lim xAz) a22 (args ++ caps) H := xAI rfl caps args H
theorem yES (caps args : List AV) (H : Heap) : (lim xAz).icall (.func 24 caps) args H = xBU (lim xAz) a24 (args ++ caps) H := xAI rfl caps args H
theorem yEz (caps args : List AV) (H : Heap) : (lim xAz).icall (.func 25 caps) args H = xBU (lim xAz) a25 (args ++ caps) H := xAI rfl caps args H
theorem yDI (caps args : List AV) (H : Heap) : (lim xAz).icall (.func 29 caps) args H = xBU (lim xAz) a29 (args ++ caps) H := xAI rfl caps args H
theorem yC0 (args : List AV) : (lim xAz).pcall 33 args = xBj (lim xAz) a33 args := xAt rfl args
theorem yBc (args : List AV) : (lim xAz).pcall 34 args = xBj (lim xAz) a34 args := xAt rfl args
theorem yC1 (args : List AV) : (lim xAz).pcall 35 args = xBj (lim xAz) a35 args := xAt rfl args
theorem yEA (args : List AV) : (lim xAz).pcall 36 args = xBj (lim xAz) a36 args := xAt rfl args
theorem yET (args : List AV) : (lim xAz).pcall 39 args = xBj (lim xAz) a39 args := xAt rfl args
theorem xY0 (args : List AV) : (lim xAz).pcall 42 args = xBj (lim xAz) a42 args := xAt rfl args
theorem yEU (args : List AV) : (lim xAz).pcall 46 args = xBj (lim xAz) a46 args := xAt rfl args
theorem yEV (args : List AV) : (lim xAz).pcall 47 args = xBj (lim xAz) a47 args := xAt rfl args
theorem yEW (args : List AV) : (lim xAz).pcall 48 args = xBj (lim xAz) a48 args := xAt rfl args
theorem yEB (args : List AV) : (lim xAz).pcall 49 args = xBj (lim xAz) a49 args := xAt rfl args
theorem yEX (args : List AV) : (lim xAz).pcall 50 args = xBj (lim xAz) a50 args := xAt rfl args
theorem yEY (args : List AV) : (lim xAz).pcall 51 args = xBj (lim xAz) a51 args := xAt rfl args
theorem yDJ (args : List AV) : (lim xAz).pcall 54 args = xBj (lim xAz) a54 args := xAt rfl args
theorem yEZ (caps args : List AV) (H : Heap) : (lim xAz).icall (.func 55 caps) args H = xBU (lim xAz) a55 (args ++ caps) H := xAI rfl caps args H
theorem yE0 (args : List AV) : (lim xAz).pcall 56 args = xBj (lim xAz) a56 args := xAt rfl args
theorem yE1 (caps args : List AV) (H : Heap) : (lim xAz).icall (.func 57 caps) args H = xBU (lim xAz) a57 (args ++ caps) H := xAI rfl caps args H
theorem yE2 (caps args : List AV) (H : Heap) : (lim xAz).icall (.func 60 caps) args H = xBU (lim xAz) a60 (args ++ caps) H := xAI rfl caps args H
theorem yE3 (caps args : List AV) (H : Heap) : (lim xAz).icall (.func 62 caps) args H = xBU (lim xAz) a62 (args ++ caps) H := xAI rfl caps args H
theorem yE4 (args : List AV) : (lim xAz).pcall 66 args = xBj (lim xAz) a66 args := xAt rfl args
theorem xFf (args : List AV) : (lim xAz).pcall 67 args = xBj (lim xAz) a67 args := xAt rfl args
theorem xVX (args : List AV) : (lim xAz).pcall 68 args = xBj (lim xAz) a68 args := xAt rfl args
theorem yE5 (caps args : List AV) (H : Heap) : (lim xAz).icall (.func 82 caps) args H = xBU (lim xAz) a82 (args ++ caps) H := xAI rfl caps args H
theorem yEC (args : List AV) : (lim xAz).pcall 83 args = xBj (lim xAz) a83 args := xAt rfl args
theorem yE6 (args : List AV) : (lim xAz).pcall 84 args = xBj (lim xAz) a84 args := xAt rfl args
theorem yE7 (args : List AV) : (lim xAz).pcall 85 args = xBj (lim xAz) a85 args := xAt rfl args
theorem yED (args : List AV) : (lim xAz).pcall 86 args = xBj (lim xAz) a86 args := xAt rfl args
theorem yE8 (args : List AV) : (lim xAz).pcall 87 args = xBj (lim xAz) a87 args := xAt rfl args
theorem yE9 (args : List AV) : (lim xAz).pcall 88 args = xBj (lim xAz) a88 args := xAt rfl args
theorem yFa (args : List AV) : (lim xAz).pcall 89 args = xBj (lim xAz) a89 args := xAt rfl args
theorem yFb (args : List AV) : (lim xAz).pcall 90 args = xBj (lim xAz) a90 args := xAt rfl args
theorem yFc (args : List AV) : (lim xAz).pcall 91 args = xBj (lim xAz) a91 args := xAt rfl args
theorem yFd (caps args : List AV) (H : Heap) : (lim xAz).icall (.func 92 caps) args H = xBU (lim xAz) a92 (args ++ caps) H := xAI rfl caps args H
theorem yFe (caps args : List AV) (H : Heap) : (lim xAz).icall (.func 93 caps) args H = xBU (lim xAz) a93 (args ++ caps) H := xAI rfl caps args H
theorem yFf (caps args : List AV) (H : Heap) : (lim xAz).icall (.func 94 caps) args H = xBU (lim xAz) a94 (args ++ caps) H := xAI rfl caps args H
theorem yB3 (caps args : List AV) (H : Heap) : (lim xAz).icall (.func 101 caps) args H = xBU (lim xAz) yCZ (args ++ caps) H := xAI rfl caps args H
theorem yAb (caps args : List AV) (H : Heap) : (lim xAz).icall (.func 102 caps) args H = xBU (lim xAz) yB1 (args ++ caps) H := xAI rfl caps args H
theorem yDK (caps args : List AV) (H : Heap) : (lim xAz).icall (.func 103 caps) args H = xBU (lim xAz) yDw (args ++ caps) H := xAI rfl caps args H
theorem yDL (caps args : List AV) (H : Heap) : (lim xAz).icall (.func 104 caps) args H = xBU (lim xAz) yDx (args ++ caps) H := xAI rfl caps args H
theorem yB4 (caps args : List AV) (H : Heap) : (lim xAz).icall (.func 105 caps) args H = xBU (lim xAz) a105 (args ++ caps) H := xAI rfl caps args H
theorem yDM (caps args : List AV) (H : Heap) : (lim xAz).icall (.func 106 caps) args H = xBU (lim xAz) yDy (args ++ caps) H := xAI rfl caps args H
theorem yDN (caps args : List AV) (H : Heap) : (lim xAz).icall (.func 107 caps) args H = xBU (lim xAz) yDz (args ++ caps) H := xAI rfl caps args H
theorem yDO (caps args : List AV) (H : Heap) : (lim xAz).icall (.func 108 caps) args H = xBU (lim xAz) yDA (args ++ caps) H := xAI rfl caps args H
theorem yDP (args : List AV) : (lim xAz).pcall 109 args = xBj (lim xAz) yDB args := xAt rfl args
theorem yDQ (args : List AV) : (lim xAz).pcall 110 args = xBj (lim xAz) yDC args := xAt rfl args
theorem yDR (args : List AV) : (lim xAz).pcall 111 args = xBj (lim xAz) yDD args := xAt rfl args
theorem yB5 (caps args : List AV) (H : Heap) : (lim xAz).icall (.func 119 caps) args H = xBU (lim xAz) a119 (args ++ caps) H := xAI rfl caps args H
theorem yDS (args : List AV) : (lim xAz).pcall 120 args = xBj (lim xAz) yB2 args := xAt rfl args
theorem yDT (caps args : List AV) (H : Heap) : (lim xAz).icall (.func 120 caps) args H = xBU (lim xAz) yB2 (args ++ caps) H := xAI rfl caps args H
theorem yDU (caps args : List AV) (H : Heap) : (lim xAz).icall (.func 121 caps) args H = xBU (lim xAz) yDE (args ++ caps) H := xAI rfl caps args H
theorem yDV (caps args : List AV) (H : Heap) : (lim xAz).icall (.func 122 caps) args H = xBU (lim xAz) yDF (args ++ caps) H := xAI rfl caps args H
theorem yDW (caps args : List AV) (H : Heap) : (lim xAz).icall (.func 123 caps) args H = xBU (lim xAz) yDG (args ++ caps) H := xAI rfl caps args H
end Go.Abs.Events
