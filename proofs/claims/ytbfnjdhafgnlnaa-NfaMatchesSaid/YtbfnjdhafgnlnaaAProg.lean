/- The functions in the interpreter's words. -/
import Derived.Test.YtbfnjdhafgnlnaaAbsEnc
import Derived.Test.YtbfnjdhafgnlnaaProg
namespace Go.Abs.Nfa
open Go Go.Abs
/-- gosem.cut.init -/
def a2 : AFunc := ⟨1,
  .stuck,
  []⟩

/-- sentinel/sentinellaw06.NfaReverses -/
def a3 : AFunc := ⟨82,
  .seq (.region [⟨some 2, .box (.t 0), none⟩,
     ⟨some 4, .mov (.c (.bool false)), none⟩])
  (.seq (.seq (.region [⟨some 13, .load true 5 (.t 2), none⟩,
       ⟨some 14, .bslice true [.int Go.IntKind.i64 0, .int Go.IntKind.i64 0, .sl true 0 [], .sl true 0 [], .sl true 0 []] 5 1 [(0, (.t 13))], none⟩,
       ⟨some 15, .call 8 [(.t 14)], none⟩,
       ⟨some 16, .mov (.t 15), none⟩,
       ⟨some 17, .mov (.t 1), some (16, false)⟩,
       ⟨some 18, .len (.t 17), some (16, false)⟩,
       ⟨some 19, .bin .gtr (.t 18) (.c (.int Go.IntKind.i64 100)), some (16, false)⟩,
       ⟨some 20, .pick (.t 16) (.c (.bool true)) (.t 19), none⟩,
       ⟨some 21, .mov (.t 20), none⟩,
       ⟨some 22, .call 9 [], some (21, false)⟩,
       ⟨some 23, .un .not (.t 22), some (21, false)⟩,
       ⟨some 24, .pick (.t 21) (.c (.bool true)) (.t 23), none⟩])
    (.cond (.t 24)
     (.seq (.region [⟨some 25, .call 9 [], none⟩,
         ⟨some 4, .mov (.t 25), none⟩])
      (.ret))
     (.skip)))
   (.seq (.region [⟨some 27, .load true 5 (.t 2), none⟩,
       ⟨some 28, .call 10 [(.t 27)], none⟩,
       ⟨some 26, .mov (.t 28), none⟩,
       ⟨some 29, .ext 0 (.t 26), none⟩,
       ⟨some 30, .ext 1 (.t 26), none⟩,
       ⟨some 5, .box (.c (.agg [.int Go.IntKind.i64 0, .int Go.IntKind.i64 0, .sl true 0 [], .sl true 0 [], .sl true 0 []])), none⟩,
       ⟨none, .store 5 (.t 5) (.t 29), none⟩,
       ⟨some 6, .mov (.t 30), none⟩])
    (.seq (.seq (.region [⟨some 31, .mov (.t 6), none⟩,
         ⟨some 32, .bin .neq (.t 31) (.c (.int Go.IntKind.i64 0)), none⟩])
      (.cond (.t 32)
       (.seq (.region [⟨some 33, .load true 5 (.t 2), none⟩,
           ⟨some 34, .call 11 [(.t 33)], none⟩,
           ⟨some 35, .mov (.t 6), none⟩,
           ⟨some 36, .bin .eql (.t 34) (.t 35), none⟩,
           ⟨some 37, .mov (.t 36), none⟩,
           ⟨some 38, .faddr 1 (.t 5), some (37, true)⟩,
           ⟨some 39, .load false 1 (.t 38), some (37, true)⟩,
           ⟨some 40, .bin .eql (.t 39) (.c (.int Go.IntKind.i64 0)), some (37, true)⟩,
           ⟨some 41, .pick (.t 37) (.t 40) (.c (.bool false)), none⟩,
           ⟨some 4, .mov (.t 41), none⟩])
        (.ret))
       (.skip)))
     (.seq (.region [⟨some 43, .load true 5 (.t 5), none⟩,
         ⟨some 44, .call 10 [(.t 43)], none⟩,
         ⟨some 42, .mov (.t 44), none⟩,
         ⟨some 45, .ext 0 (.t 42), none⟩,
         ⟨some 46, .ext 1 (.t 42), none⟩,
         ⟨some 7, .box (.c (.agg [.int Go.IntKind.i64 0, .int Go.IntKind.i64 0, .sl true 0 [], .sl true 0 [], .sl true 0 []])), none⟩,
         ⟨none, .store 5 (.t 7) (.t 45), none⟩,
         ⟨some 8, .mov (.t 46), none⟩])
      (.seq (.region [⟨some 48, .load true 5 (.t 2), none⟩,
          ⟨some 49, .mov (.t 1), none⟩,
          ⟨some 50, .call 12 [(.t 48), (.t 49)], none⟩,
          ⟨some 47, .mov (.t 50), none⟩,
          ⟨some 51, .ext 0 (.t 47), none⟩,
          ⟨some 52, .ext 1 (.t 47), none⟩,
          ⟨some 9, .mov (.t 51), none⟩,
          ⟨some 10, .mov (.t 52), none⟩])
       (.seq (.draw 7 [⟨some 54, .load true 5 (.t 5), none⟩,
           ⟨some 55, .mov (.t 1), none⟩,
           ⟨some 56, .call 13 [(.t 55)], none⟩,
           ⟨some 57, .call 12 [(.t 54), (.t 56)], none⟩,
           ⟨some 53, .mov (.t 57), none⟩,
           ⟨some 58, .ext 0 (.t 53), none⟩,
           ⟨some 59, .ext 1 (.t 53), none⟩,
           ⟨some 11, .mov (.t 58), none⟩,
           ⟨some 12, .mov (.t 59), none⟩])
        (.seq (.region [⟨some 60, .load true 5 (.t 5), none⟩,
            ⟨some 61, .call 11 [(.t 60)], none⟩,
            ⟨some 62, .bin .eql (.t 61) (.c (.int Go.IntKind.i64 0)), none⟩,
            ⟨some 63, .mov (.t 62), none⟩,
            ⟨some 64, .mov (.t 8), some (63, true)⟩,
            ⟨some 65, .bin .eql (.t 64) (.c (.int Go.IntKind.i64 0)), some (63, true)⟩,
            ⟨some 66, .pick (.t 63) (.t 65) (.c (.bool false)), none⟩,
            ⟨some 67, .mov (.t 66), none⟩,
            ⟨some 68, .load true 5 (.t 7), some (67, true)⟩,
            ⟨some 69, .load true 5 (.t 2), some (67, true)⟩,
            ⟨some 70, .call 14 [(.t 68), (.t 69)], some (67, true)⟩,
            ⟨some 71, .pick (.t 67) (.t 70) (.c (.bool false)), none⟩,
            ⟨some 72, .mov (.t 71), none⟩,
            ⟨some 73, .mov (.t 10), some (72, true)⟩,
            ⟨some 74, .mov (.t 12), some (72, true)⟩,
            ⟨some 75, .bin .eql (.t 73) (.t 74), some (72, true)⟩,
            ⟨some 76, .pick (.t 72) (.t 75) (.c (.bool false)), none⟩,
            ⟨some 77, .mov (.t 76), none⟩,
            ⟨some 78, .mov (.t 9), some (77, true)⟩,
            ⟨some 79, .mov (.t 11), some (77, true)⟩,
            ⟨some 80, .beq false (.t 78) (.t 79), some (77, true)⟩,
            ⟨some 81, .pick (.t 77) (.t 80) (.c (.bool false)), none⟩,
            ⟨some 4, .mov (.t 81), none⟩])
         (.ret)))))))),
  [.tmp 4]⟩

def a4l0b : ACode :=
  .seq (.seq (.region [⟨some 76, .mov (.t 18), none⟩,
      ⟨some 77, .bin .lss (.t 76) (.c (.int Go.IntKind.i64 2)), none⟩])
   (.cond (.t 77)
    (.skip)
    (.exit 0)))
  (.seq (.block 1 (.seq (.region [⟨some 81, .load true 5 (.t 9), none⟩,
        ⟨some 82, .mov (.t 1), none⟩,
        ⟨some 83, .mov (.t 2), none⟩,
        ⟨some 84, .ocall 24 [(.t 81), (.t 82), (.t 83)], none⟩,
        ⟨some 80, .mov (.t 84), none⟩,
        ⟨some 85, .ext 0 (.t 80), none⟩,
        ⟨some 86, .ext 1 (.t 80), none⟩,
        ⟨some 19, .mov (.t 85), none⟩,
        ⟨some 20, .mov (.t 86), none⟩])
     (.seq (.region [⟨some 88, .load true 5 (.t 9), none⟩,
         ⟨some 89, .mov (.t 10), none⟩,
         ⟨some 90, .ocall 25 [(.t 88), (.t 89)], none⟩,
         ⟨some 87, .mov (.t 90), none⟩,
         ⟨some 91, .ext 0 (.t 87), none⟩,
         ⟨some 92, .ext 1 (.t 87), none⟩,
         ⟨some 21, .mov (.t 91), none⟩,
         ⟨some 22, .mov (.t 92), none⟩])
      (.seq (.region [⟨some 94, .load true 5 (.t 9), none⟩,
          ⟨some 95, .mov (.t 10), none⟩,
          ⟨some 96, .call 12 [(.t 94), (.t 95)], none⟩,
          ⟨some 93, .mov (.t 96), none⟩,
          ⟨some 97, .ext 0 (.t 93), none⟩,
          ⟨some 98, .ext 1 (.t 93), none⟩,
          ⟨some 23, .mov (.t 97), none⟩,
          ⟨some 24, .mov (.t 98), none⟩])
       (.seq (.seq (.region [⟨some 99, .load true 5 (.t 9), none⟩,
            ⟨some 100, .call 11 [(.t 99)], none⟩,
            ⟨some 101, .mov (.t 11), none⟩,
            ⟨some 102, .bin .neq (.t 100) (.t 101), none⟩,
            ⟨some 103, .mov (.t 102), none⟩,
            ⟨some 104, .mov (.t 20), some (103, false)⟩,
            ⟨some 105, .mov (.t 12), some (103, false)⟩,
            ⟨some 106, .bin .neq (.t 104) (.t 105), some (103, false)⟩,
            ⟨some 107, .pick (.t 103) (.c (.bool true)) (.t 106), none⟩,
            ⟨some 108, .mov (.t 107), none⟩,
            ⟨some 109, .mov (.t 22), some (108, false)⟩,
            ⟨some 110, .mov (.t 13), some (108, false)⟩,
            ⟨some 111, .bin .neq (.t 109) (.t 110), some (108, false)⟩,
            ⟨some 112, .pick (.t 108) (.c (.bool true)) (.t 111), none⟩,
            ⟨some 113, .mov (.t 112), none⟩,
            ⟨some 114, .mov (.t 24), some (113, false)⟩,
            ⟨some 115, .mov (.t 13), some (113, false)⟩,
            ⟨some 116, .bin .neq (.t 114) (.t 115), some (113, false)⟩,
            ⟨some 117, .pick (.t 113) (.c (.bool true)) (.t 116), none⟩,
            ⟨some 118, .mov (.t 117), none⟩,
            ⟨some 119, .mov (.t 23), some (118, false)⟩,
            ⟨some 120, .mov (.t 16), some (118, false)⟩,
            ⟨some 121, .beq true (.t 119) (.t 120), some (118, false)⟩,
            ⟨some 122, .pick (.t 118) (.c (.bool true)) (.t 121), none⟩,
            ⟨some 123, .mov (.t 122), none⟩,
            ⟨some 124, .mov (.t 19), some (123, false)⟩,
            ⟨some 125, .mov (.t 14), some (123, false)⟩,
            ⟨some 126, .mov (.t 12), some (123, false)⟩,
            ⟨some 127, .call 27 [(.t 125), (.t 126)], some (123, false)⟩,
            ⟨some 128, .call 26 [(.t 124), (.t 127)], some (123, false)⟩,
            ⟨some 129, .un .not (.t 128), some (123, false)⟩,
            ⟨some 130, .pick (.t 123) (.c (.bool true)) (.t 129), none⟩,
            ⟨some 131, .mov (.t 130), none⟩,
            ⟨some 132, .mov (.t 21), some (131, false)⟩,
            ⟨some 133, .mov (.t 15), some (131, false)⟩,
            ⟨some 134, .mov (.t 13), some (131, false)⟩,
            ⟨some 135, .call 27 [(.t 133), (.t 134)], some (131, false)⟩,
            ⟨some 136, .call 26 [(.t 132), (.t 135)], some (131, false)⟩,
            ⟨some 137, .un .not (.t 136), some (131, false)⟩,
            ⟨some 138, .pick (.t 131) (.c (.bool true)) (.t 137), none⟩,
            ⟨some 139, .mov (.t 138), none⟩,
            ⟨some 140, .load true 5 (.t 9), some (139, false)⟩,
            ⟨some 141, .load true 5 (.t 4), some (139, false)⟩,
            ⟨some 142, .call 14 [(.t 140), (.t 141)], some (139, false)⟩,
            ⟨some 143, .un .not (.t 142), some (139, false)⟩,
            ⟨some 144, .pick (.t 139) (.c (.bool true)) (.t 143), none⟩,
            ⟨some 145, .mov (.t 144), none⟩,
            ⟨some 146, .mov (.t 10), some (145, false)⟩,
            ⟨some 147, .mov (.t 3), some (145, false)⟩,
            ⟨some 148, .call 28 [(.t 146), (.t 147)], some (145, false)⟩,
            ⟨some 149, .un .not (.t 148), some (145, false)⟩,
            ⟨some 150, .pick (.t 145) (.c (.bool true)) (.t 149), none⟩])
         (.cond (.t 150)
          (.seq (.region [⟨some 8, .mov (.c (.bool false)), none⟩])
           (.ret))
          (.skip)))
        (.seq (.region [⟨some 151, .mov (.t 19), none⟩,
            ⟨some 152, .icall (.c (.func 29 [])) [(.t 151)], none⟩])
         (.region [⟨some 153, .mov (.t 21), none⟩,
            ⟨some 154, .icall (.c (.func 29 [])) [(.t 153)], none⟩])))))))
   (.region [⟨some 78, .mov (.t 18), none⟩,
      ⟨some 79, .bin .add (.t 78) (.c (.int Go.IntKind.i64 1)), none⟩,
      ⟨some 18, .mov (.t 79), none⟩]))

def a4l0 : ACode := a4l0b
def a4l0s : List Nat := [0, 5, 6, 7, 17, 19, 20, 21, 22, 23, 24, 25, 26, 27, 28, 29, 30, 31, 32, 33, 34, 35, 36, 37, 38, 39, 40, 41, 42, 43, 44, 45, 46, 47, 48, 49, 50, 51, 52, 53, 54, 55, 56, 57, 58, 59, 60, 61, 62, 63, 64, 65, 66, 67, 68, 69, 70, 71, 72, 73, 74, 75, 76, 77, 78, 79, 80, 81, 82, 83, 84, 85, 86, 87, 88, 89, 90, 91, 92, 93, 94, 95, 96, 97, 98, 99, 100, 101, 102, 103, 104, 105, 106, 107, 108, 109, 110, 111, 112, 113, 114, 115, 116, 117, 118, 119, 120, 121, 122, 123, 124, 125, 126, 127, 128, 129, 130, 131, 132, 133, 134, 135, 136, 137, 138, 139, 140, 141, 142, 143, 144, 145, 146, 147, 148, 149, 150, 151, 152, 153, 154, 155]
abbrev a4l0F (s1 s2 s3 s4 s8 s9 s10 s11 s12 s13 s14 s15 s16 s18 : AV) : List AV := [.any, s1, s2, s3, s4, .any, .any, .any, s8, s9, s10, s11, s12, s13, s14, s15, s16, .any, s18, .any, .any, .any, .any, .any, .any, .any, .any, .any, .any, .any, .any, .any, .any, .any, .any, .any, .any, .any, .any, .any, .any, .any, .any, .any, .any, .any, .any, .any, .any, .any, .any, .any, .any, .any, .any, .any, .any, .any, .any, .any, .any, .any, .any, .any, .any, .any, .any, .any, .any, .any, .any, .any, .any, .any, .any, .any, .any, .any, .any, .any, .any, .any, .any, .any, .any, .any, .any, .any, .any, .any, .any, .any, .any, .any, .any, .any, .any, .any, .any, .any, .any, .any, .any, .any, .any, .any, .any, .any, .any, .any, .any, .any, .any, .any, .any, .any, .any, .any, .any, .any, .any, .any, .any, .any, .any, .any, .any, .any, .any, .any, .any, .any, .any, .any, .any, .any, .any, .any, .any, .any, .any, .any, .any, .any, .any, .any, .any, .any, .any, .any, .any, .any, .any, .any, .any, .any]
theorem a4l0c (s0 s1 s2 s3 s4 s5 s6 s7 s8 s9 s10 s11 s12 s13 s14 s15 s16 s17 s18 s19 s20 s21 s22 s23 s24 s25 s26 s27 s28 s29 s30 s31 s32 s33 s34 s35 s36 s37 s38 s39 s40 s41 s42 s43 s44 s45 s46 s47 s48 s49 s50 s51 s52 s53 s54 s55 s56 s57 s58 s59 s60 s61 s62 s63 s64 s65 s66 s67 s68 s69 s70 s71 s72 s73 s74 s75 s76 s77 s78 s79 s80 s81 s82 s83 s84 s85 s86 s87 s88 s89 s90 s91 s92 s93 s94 s95 s96 s97 s98 s99 s100 s101 s102 s103 s104 s105 s106 s107 s108 s109 s110 s111 s112 s113 s114 s115 s116 s117 s118 s119 s120 s121 s122 s123 s124 s125 s126 s127 s128 s129 s130 s131 s132 s133 s134 s135 s136 s137 s138 s139 s140 s141 s142 s143 s144 s145 s146 s147 s148 s149 s150 s151 s152 s153 s154 s155 : AV) : clearA a4l0s [s0, s1, s2, s3, s4, s5, s6, s7, s8, s9, s10, s11, s12, s13, s14, s15, s16, s17, s18, s19, s20, s21, s22, s23, s24, s25, s26, s27, s28, s29, s30, s31, s32, s33, s34, s35, s36, s37, s38, s39, s40, s41, s42, s43, s44, s45, s46, s47, s48, s49, s50, s51, s52, s53, s54, s55, s56, s57, s58, s59, s60, s61, s62, s63, s64, s65, s66, s67, s68, s69, s70, s71, s72, s73, s74, s75, s76, s77, s78, s79, s80, s81, s82, s83, s84, s85, s86, s87, s88, s89, s90, s91, s92, s93, s94, s95, s96, s97, s98, s99, s100, s101, s102, s103, s104, s105, s106, s107, s108, s109, s110, s111, s112, s113, s114, s115, s116, s117, s118, s119, s120, s121, s122, s123, s124, s125, s126, s127, s128, s129, s130, s131, s132, s133, s134, s135, s136, s137, s138, s139, s140, s141, s142, s143, s144, s145, s146, s147, s148, s149, s150, s151, s152, s153, s154, s155] = a4l0F s1 s2 s3 s4 s8 s9 s10 s11 s12 s13 s14 s15 s16 s18 := by kernel_rfl
theorem a4l0n {prog : Nat → Option AFunc} (s1 s2 s3 s4 s8 s9 s10 s11 s12 s13 s14 s15 s16 s18 : AV) (H : Heap) : (lim prog).loop a4l0s a4l0 ⟨a4l0F s1 s2 s3 s4 s8 s9 s10 s11 s12 s13 s14 s15 s16 s18, H⟩ = loopK (lim prog) a4l0s a4l0 (run (lim prog) a4l0b ⟨a4l0F s1 s2 s3 s4 s8 s9 s10 s11 s12 s13 s14 s15 s16 s18, H⟩) := lim_loop_step _ _ _ _ (by kernel_rfl)

/-- sentinel/sentinellaw06.NfaMatches -/
def a4 : AFunc := ⟨156,
  .seq (.region [⟨some 4, .box (.t 0), none⟩,
     ⟨some 8, .mov (.c (.bool false)), none⟩])
  (.seq (.seq (.region [⟨some 25, .load true 5 (.t 4), none⟩,
       ⟨some 26, .bslice true [.int Go.IntKind.i64 0, .int Go.IntKind.i64 0, .sl true 0 [], .sl true 0 [], .sl true 0 []] 5 1 [(0, (.t 25))], none⟩,
       ⟨some 27, .call 8 [(.t 26)], none⟩,
       ⟨some 28, .mov (.t 27), none⟩,
       ⟨some 29, .mov (.t 1), some (28, false)⟩,
       ⟨some 30, .bslice true [.sl true 0 []] 1 1 [(0, (.t 29))], some (28, false)⟩,
       ⟨some 31, .call 15 [(.t 30)], some (28, false)⟩,
       ⟨some 32, .pick (.t 28) (.c (.bool true)) (.t 31), none⟩,
       ⟨some 33, .mov (.t 32), none⟩,
       ⟨some 34, .mov (.t 3), some (33, false)⟩,
       ⟨some 35, .len (.t 34), some (33, false)⟩,
       ⟨some 36, .bin .gtr (.t 35) (.c (.int Go.IntKind.i64 100)), some (33, false)⟩,
       ⟨some 37, .pick (.t 33) (.c (.bool true)) (.t 36), none⟩])
    (.cond (.t 37)
     (.seq (.region [⟨some 38, .call 9 [], none⟩,
         ⟨some 8, .mov (.t 38), none⟩])
      (.ret))
     (.skip)))
   (.seq (.region [⟨some 39, .load true 5 (.t 4), none⟩,
       ⟨some 40, .call 16 [(.t 39)], none⟩,
       ⟨some 41, .mov (.t 3), none⟩,
       ⟨some 42, .call 17 [(.t 41)], none⟩,
       ⟨some 9, .box (.c (.agg [.int Go.IntKind.i64 0, .int Go.IntKind.i64 0, .sl true 0 [], .sl true 0 [], .sl true 0 []])), none⟩,
       ⟨none, .store 5 (.t 9) (.t 40), none⟩,
       ⟨some 10, .mov (.t 42), none⟩])
    (.seq (.region [⟨some 43, .load true 5 (.t 4), none⟩,
        ⟨some 44, .call 18 [(.t 43)], none⟩,
        ⟨some 11, .mov (.t 44), none⟩])
     (.seq (.region [⟨some 45, .mov (.t 11), none⟩,
         ⟨some 46, .mov (.t 11), none⟩,
         ⟨some 12, .mov (.t 45), none⟩,
         ⟨some 13, .mov (.t 46), none⟩])
      (.seq (.seq (.region [⟨some 47, .mov (.t 11), none⟩,
           ⟨some 48, .bin .eql (.t 47) (.c (.int Go.IntKind.i64 0)), none⟩])
        (.cond (.t 48)
         (.draw 8 [⟨some 49, .mov (.t 2), none⟩,
            ⟨some 50, .bslice true [.int Go.IntKind.u8 0] 1 1 [(0, (.t 49))], none⟩,
            ⟨some 51, .faddr 0 (.t 4), none⟩,
            ⟨some 52, .load false 1 (.t 51), none⟩,
            ⟨some 53, .call 19 [(.t 50), (.t 52)], none⟩,
            ⟨some 54, .mov (.t 3), none⟩,
            ⟨some 55, .faddr 0 (.t 4), none⟩,
            ⟨some 56, .load false 1 (.t 55), none⟩,
            ⟨some 57, .call 19 [(.t 54), (.t 56)], none⟩,
            ⟨some 12, .mov (.t 53), none⟩,
            ⟨some 13, .mov (.t 57), none⟩])
         (.skip)))
       (.seq (.region [⟨some 14, .mov (.c (.sl true 0 [])), none⟩,
           ⟨some 15, .mov (.c (.sl true 0 [])), none⟩])
        (.seq (.seq (.region [⟨some 58, .mov (.t 12), none⟩,
             ⟨some 59, .bin .eql (.t 58) (.c (.int Go.IntKind.i64 0)), none⟩])
          (.cond (.t 59)
           (.draw 4 [⟨some 60, .load true 5 (.t 4), none⟩,
              ⟨some 61, .mov (.t 1), none⟩,
              ⟨some 62, .call 21 [(.t 61)], none⟩,
              ⟨some 63, .mov (.t 2), none⟩,
              ⟨some 64, .call 20 [(.t 60), (.t 62), (.t 63)], none⟩,
              ⟨some 14, .mov (.t 64), none⟩])
           (.skip)))
         (.seq (.seq (.region [⟨some 65, .mov (.t 13), none⟩,
              ⟨some 66, .bin .eql (.t 65) (.c (.int Go.IntKind.i64 0)), none⟩])
           (.cond (.t 66)
            (.region [⟨some 67, .load true 5 (.t 4), none⟩,
               ⟨some 68, .mov (.t 3), none⟩,
               ⟨some 69, .call 22 [(.t 67), (.t 68)], none⟩,
               ⟨some 15, .mov (.t 69), none⟩])
            (.skip)))
          (.seq (.region [⟨some 71, .load true 5 (.t 4), none⟩,
              ⟨some 72, .mov (.t 3), none⟩,
              ⟨some 73, .call 23 [(.t 71), (.t 72)], none⟩,
              ⟨some 70, .mov (.t 73), none⟩,
              ⟨some 74, .ext 0 (.t 70), none⟩,
              ⟨some 75, .ext 1 (.t 70), none⟩,
              ⟨some 16, .mov (.t 74), none⟩,
              ⟨some 17, .mov (.t 75), none⟩])
           (.seq (.seq (.region [⟨some 18, .mov (.c (.int Go.IntKind.i64 0)), none⟩])
             (.block 0 (.loop a4l0s a4l0)))
            (.seq (.region [⟨some 155, .call 9 [], none⟩,
                ⟨some 8, .mov (.t 155), none⟩])
             (.ret)))))))))))),
  [.tmp 8]⟩

def a5l0b : ACode :=
  .seq (.seq (.region [⟨some 114, .mov (.t 24), none⟩,
      ⟨some 115, .mov (.t 5), none⟩,
      ⟨some 116, .len (.t 115), none⟩,
      ⟨some 117, .bin .lss (.t 114) (.t 116), none⟩])
   (.cond (.t 117)
    (.skip)
    (.exit 0)))
  (.seq (.block 1 (.seq (.draw 10 [⟨some 121, .load true 5 (.t 6), none⟩,
        ⟨some 122, .mov (.t 22), none⟩,
        ⟨some 123, .mov (.t 5), none⟩,
        ⟨some 124, .mov (.t 24), none⟩,
        ⟨some 125, .iaddr 1 (.t 123) (.t 124), none⟩,
        ⟨some 126, .load false 1 (.t 125), none⟩,
        ⟨some 127, .call 24 [(.t 121), (.t 122), (.t 126)], none⟩,
        ⟨some 120, .mov (.t 127), none⟩,
        ⟨some 128, .ext 0 (.t 120), none⟩,
        ⟨some 129, .ext 1 (.t 120), none⟩,
        ⟨some 25, .mov (.t 128), none⟩,
        ⟨some 26, .mov (.t 129), none⟩])
     (.seq (.seq (.region [⟨some 130, .mov (.t 26), none⟩,
          ⟨some 131, .bin .neq (.t 130) (.c (.int Go.IntKind.i64 0)), none⟩])
       (.cond (.t 131)
        (.seq (.region [⟨some 12, .mov (.c (.bool false)), none⟩])
         (.ret))
        (.skip)))
      (.region [⟨some 132, .mov (.t 25), none⟩,
         ⟨some 22, .mov (.t 132), none⟩]))))
   (.region [⟨some 118, .mov (.t 24), none⟩,
      ⟨some 119, .bin .add (.t 118) (.c (.int Go.IntKind.i64 1)), none⟩,
      ⟨some 24, .mov (.t 119), none⟩]))

def a5l0 : ACode := a5l0b
def a5l0s : List Nat := [0, 1, 2, 3, 4, 7, 8, 9, 10, 11, 13, 14, 15, 16, 17, 18, 21, 23, 25, 26, 27, 28, 29, 30, 31, 32, 33, 34, 35, 36, 37, 38, 39, 40, 41, 42, 43, 44, 45, 46, 47, 48, 49, 50, 51, 52, 53, 54, 55, 56, 57, 58, 59, 60, 61, 62, 63, 64, 65, 66, 67, 68, 69, 70, 71, 72, 73, 74, 75, 76, 77, 78, 79, 80, 81, 82, 83, 84, 85, 86, 87, 88, 89, 90, 91, 92, 93, 94, 95, 96, 97, 98, 99, 100, 101, 102, 103, 104, 105, 106, 107, 108, 109, 110, 111, 112, 113, 114, 115, 116, 117, 118, 119, 120, 121, 122, 123, 124, 125, 126, 127, 128, 129, 130, 131, 132, 133, 134, 135, 136, 137, 138, 139, 140, 141, 142, 143, 144, 145, 146, 147, 148, 149, 150, 151, 152, 153, 154, 155]
abbrev a5l0F (s5 s6 s12 s19 s20 s22 s24 : AV) : List AV := [.any, .any, .any, .any, .any, s5, s6, .any, .any, .any, .any, .any, s12, .any, .any, .any, .any, .any, .any, s19, s20, .any, s22, .any, s24, .any, .any, .any, .any, .any, .any, .any, .any, .any, .any, .any, .any, .any, .any, .any, .any, .any, .any, .any, .any, .any, .any, .any, .any, .any, .any, .any, .any, .any, .any, .any, .any, .any, .any, .any, .any, .any, .any, .any, .any, .any, .any, .any, .any, .any, .any, .any, .any, .any, .any, .any, .any, .any, .any, .any, .any, .any, .any, .any, .any, .any, .any, .any, .any, .any, .any, .any, .any, .any, .any, .any, .any, .any, .any, .any, .any, .any, .any, .any, .any, .any, .any, .any, .any, .any, .any, .any, .any, .any, .any, .any, .any, .any, .any, .any, .any, .any, .any, .any, .any, .any, .any, .any, .any, .any, .any, .any, .any, .any, .any, .any, .any, .any, .any, .any, .any, .any, .any, .any, .any, .any, .any, .any, .any, .any, .any, .any, .any, .any, .any, .any]
theorem a5l0c (s0 s1 s2 s3 s4 s5 s6 s7 s8 s9 s10 s11 s12 s13 s14 s15 s16 s17 s18 s19 s20 s21 s22 s23 s24 s25 s26 s27 s28 s29 s30 s31 s32 s33 s34 s35 s36 s37 s38 s39 s40 s41 s42 s43 s44 s45 s46 s47 s48 s49 s50 s51 s52 s53 s54 s55 s56 s57 s58 s59 s60 s61 s62 s63 s64 s65 s66 s67 s68 s69 s70 s71 s72 s73 s74 s75 s76 s77 s78 s79 s80 s81 s82 s83 s84 s85 s86 s87 s88 s89 s90 s91 s92 s93 s94 s95 s96 s97 s98 s99 s100 s101 s102 s103 s104 s105 s106 s107 s108 s109 s110 s111 s112 s113 s114 s115 s116 s117 s118 s119 s120 s121 s122 s123 s124 s125 s126 s127 s128 s129 s130 s131 s132 s133 s134 s135 s136 s137 s138 s139 s140 s141 s142 s143 s144 s145 s146 s147 s148 s149 s150 s151 s152 s153 s154 s155 : AV) : clearA a5l0s [s0, s1, s2, s3, s4, s5, s6, s7, s8, s9, s10, s11, s12, s13, s14, s15, s16, s17, s18, s19, s20, s21, s22, s23, s24, s25, s26, s27, s28, s29, s30, s31, s32, s33, s34, s35, s36, s37, s38, s39, s40, s41, s42, s43, s44, s45, s46, s47, s48, s49, s50, s51, s52, s53, s54, s55, s56, s57, s58, s59, s60, s61, s62, s63, s64, s65, s66, s67, s68, s69, s70, s71, s72, s73, s74, s75, s76, s77, s78, s79, s80, s81, s82, s83, s84, s85, s86, s87, s88, s89, s90, s91, s92, s93, s94, s95, s96, s97, s98, s99, s100, s101, s102, s103, s104, s105, s106, s107, s108, s109, s110, s111, s112, s113, s114, s115, s116, s117, s118, s119, s120, s121, s122, s123, s124, s125, s126, s127, s128, s129, s130, s131, s132, s133, s134, s135, s136, s137, s138, s139, s140, s141, s142, s143, s144, s145, s146, s147, s148, s149, s150, s151, s152, s153, s154, s155] = a5l0F s5 s6 s12 s19 s20 s22 s24 := by kernel_rfl
theorem a5l0n {prog : Nat → Option AFunc} (s5 s6 s12 s19 s20 s22 s24 : AV) (H : Heap) : (lim prog).loop a5l0s a5l0 ⟨a5l0F s5 s6 s12 s19 s20 s22 s24, H⟩ = loopK (lim prog) a5l0s a5l0 (run (lim prog) a5l0b ⟨a5l0F s5 s6 s12 s19 s20 s22 s24, H⟩) := lim_loop_step _ _ _ _ (by kernel_rfl)

/-- sentinel/sentinellaw06.NfaSteps -/
def a5 : AFunc := ⟨156,
  .seq (.region [⟨some 6, .box (.t 0), none⟩,
     ⟨some 12, .mov (.c (.bool false)), none⟩])
  (.seq (.seq (.region [⟨some 29, .load true 5 (.t 6), none⟩,
       ⟨some 30, .bslice true [.int Go.IntKind.i64 0, .int Go.IntKind.i64 0, .sl true 0 [], .sl true 0 [], .sl true 0 []] 5 1 [(0, (.t 29))], none⟩,
       ⟨some 31, .call 8 [(.t 30)], none⟩,
       ⟨some 32, .mov (.t 31), none⟩,
       ⟨some 33, .mov (.t 1), some (32, false)⟩,
       ⟨some 34, .mov (.t 2), some (32, false)⟩,
       ⟨some 35, .bslice true [.sl true 0 []] 1 2 [(0, (.t 33)), (1, (.t 34))], some (32, false)⟩,
       ⟨some 36, .call 15 [(.t 35)], some (32, false)⟩,
       ⟨some 37, .pick (.t 32) (.c (.bool true)) (.t 36), none⟩,
       ⟨some 38, .mov (.t 37), none⟩,
       ⟨some 39, .mov (.t 4), some (38, false)⟩,
       ⟨some 40, .len (.t 39), some (38, false)⟩,
       ⟨some 41, .mov (.t 5), some (38, false)⟩,
       ⟨some 42, .len (.t 41), some (38, false)⟩,
       ⟨some 43, .bin .add (.t 40) (.t 42), some (38, false)⟩,
       ⟨some 44, .bin .gtr (.t 43) (.c (.int Go.IntKind.i64 100)), some (38, false)⟩,
       ⟨some 45, .pick (.t 38) (.c (.bool true)) (.t 44), none⟩,
       ⟨some 46, .mov (.t 45), none⟩,
       ⟨some 47, .call 9 [], some (46, false)⟩,
       ⟨some 48, .un .not (.t 47), some (46, false)⟩,
       ⟨some 49, .pick (.t 46) (.c (.bool true)) (.t 48), none⟩])
    (.cond (.t 49)
     (.seq (.region [⟨some 50, .call 9 [], none⟩,
         ⟨some 12, .mov (.t 50), none⟩])
      (.ret))
     (.skip)))
   (.seq (.region [⟨some 52, .load true 5 (.t 6), none⟩,
       ⟨some 53, .mov (.t 1), none⟩,
       ⟨some 54, .mov (.t 3), none⟩,
       ⟨some 55, .call 24 [(.t 52), (.t 53), (.t 54)], none⟩,
       ⟨some 51, .mov (.t 55), none⟩,
       ⟨some 56, .ext 0 (.t 51), none⟩,
       ⟨some 57, .ext 1 (.t 51), none⟩,
       ⟨some 13, .mov (.t 56), none⟩,
       ⟨some 14, .mov (.t 57), none⟩])
    (.seq (.region [⟨some 59, .load true 5 (.t 6), none⟩,
        ⟨some 60, .mov (.t 2), none⟩,
        ⟨some 61, .mov (.t 3), none⟩,
        ⟨some 62, .call 24 [(.t 59), (.t 60), (.t 61)], none⟩,
        ⟨some 58, .mov (.t 62), none⟩,
        ⟨some 63, .ext 0 (.t 58), none⟩,
        ⟨some 64, .ext 1 (.t 58), none⟩,
        ⟨some 15, .mov (.t 63), none⟩,
        ⟨some 16, .mov (.t 64), none⟩])
     (.seq (.draw 9 [⟨some 66, .load true 5 (.t 6), none⟩,
         ⟨some 67, .mov (.t 1), none⟩,
         ⟨some 68, .mov (.t 2), none⟩,
         ⟨some 69, .call 30 [(.t 67), (.t 68)], none⟩,
         ⟨some 70, .mov (.t 3), none⟩,
         ⟨some 71, .call 24 [(.t 66), (.t 69), (.t 70)], none⟩,
         ⟨some 65, .mov (.t 71), none⟩,
         ⟨some 72, .ext 0 (.t 65), none⟩,
         ⟨some 73, .ext 1 (.t 65), none⟩,
         ⟨some 17, .mov (.t 72), none⟩,
         ⟨some 18, .mov (.t 73), none⟩])
      (.seq (.seq (.region [⟨some 74, .mov (.t 14), none⟩,
           ⟨some 75, .mov (.t 16), none⟩,
           ⟨some 76, .bin .neq (.t 74) (.t 75), none⟩,
           ⟨some 77, .mov (.t 76), none⟩,
           ⟨some 78, .mov (.t 16), some (77, false)⟩,
           ⟨some 79, .mov (.t 18), some (77, false)⟩,
           ⟨some 80, .bin .neq (.t 78) (.t 79), some (77, false)⟩,
           ⟨some 81, .pick (.t 77) (.c (.bool true)) (.t 80), none⟩,
           ⟨some 82, .mov (.t 81), none⟩,
           ⟨some 83, .mov (.t 17), some (82, false)⟩,
           ⟨some 84, .mov (.t 13), some (82, false)⟩,
           ⟨some 85, .mov (.t 15), some (82, false)⟩,
           ⟨some 86, .call 30 [(.t 84), (.t 85)], some (82, false)⟩,
           ⟨some 87, .call 31 [(.t 83), (.t 86)], some (82, false)⟩,
           ⟨some 88, .un .not (.t 87), some (82, false)⟩,
           ⟨some 89, .pick (.t 82) (.c (.bool true)) (.t 88), none⟩])
        (.cond (.t 89)
         (.seq (.region [⟨some 12, .mov (.c (.bool false)), none⟩])
          (.ret))
         (.skip)))
       (.seq (.region [⟨some 90, .bslice false [.int Go.IntKind.u8 0] 1 0 [], none⟩,
           ⟨some 91, .mov (.t 4), none⟩,
           ⟨some 92, .append false 1 1 (.t 90) (.t 91), none⟩,
           ⟨some 93, .mov (.t 5), none⟩,
           ⟨some 94, .append false 1 1 (.t 92) (.t 93), none⟩,
           ⟨some 19, .mov (.t 94), none⟩])
        (.seq (.region [⟨some 96, .load true 5 (.t 6), none⟩,
            ⟨some 97, .mov (.t 19), none⟩,
            ⟨some 98, .call 25 [(.t 96), (.t 97)], none⟩,
            ⟨some 95, .mov (.t 98), none⟩,
            ⟨some 99, .ext 0 (.t 95), none⟩,
            ⟨some 100, .ext 1 (.t 95), none⟩,
            ⟨some 20, .mov (.t 99), none⟩,
            ⟨some 21, .mov (.t 100), none⟩])
         (.seq (.region [⟨some 102, .load true 5 (.t 6), none⟩,
             ⟨some 103, .mov (.t 4), none⟩,
             ⟨some 104, .call 25 [(.t 102), (.t 103)], none⟩,
             ⟨some 101, .mov (.t 104), none⟩,
             ⟨some 105, .ext 0 (.t 101), none⟩,
             ⟨some 106, .ext 1 (.t 101), none⟩,
             ⟨some 22, .mov (.t 105), none⟩,
             ⟨some 23, .mov (.t 106), none⟩])
          (.seq (.seq (.region [⟨some 107, .mov (.t 21), none⟩,
               ⟨some 108, .bin .neq (.t 107) (.c (.int Go.IntKind.i64 0)), none⟩])
            (.cond (.t 108)
             (.seq (.region [⟨some 109, .mov (.t 20), none⟩,
                 ⟨some 110, .len (.t 109), none⟩,
                 ⟨some 111, .bin .eql (.t 110) (.c (.int Go.IntKind.i64 0)), none⟩,
                 ⟨some 12, .mov (.t 111), none⟩])
              (.ret))
             (.skip)))
           (.seq (.seq (.region [⟨some 112, .mov (.t 23), none⟩,
                ⟨some 113, .bin .neq (.t 112) (.c (.int Go.IntKind.i64 0)), none⟩])
             (.cond (.t 113)
              (.seq (.region [⟨some 12, .mov (.c (.bool false)), none⟩])
               (.ret))
              (.skip)))
            (.seq (.seq (.region [⟨some 24, .mov (.c (.int Go.IntKind.i64 0)), none⟩])
              (.block 0 (.loop a5l0s a5l0)))
             (.seq (.region [⟨some 134, .load true 5 (.t 6), none⟩,
                 ⟨some 135, .mov (.t 19), none⟩,
                 ⟨some 136, .call 12 [(.t 134), (.t 135)], none⟩,
                 ⟨some 133, .mov (.t 136), none⟩,
                 ⟨some 137, .ext 0 (.t 133), none⟩,
                 ⟨some 138, .ext 1 (.t 133), none⟩,
                 ⟨some 27, .mov (.t 137), none⟩,
                 ⟨some 28, .mov (.t 138), none⟩])
              (.seq (.region [⟨some 139, .mov (.t 22), none⟩,
                  ⟨some 140, .mov (.t 20), none⟩,
                  ⟨some 141, .call 31 [(.t 139), (.t 140)], none⟩,
                  ⟨some 142, .mov (.t 141), none⟩,
                  ⟨some 143, .mov (.t 28), some (142, true)⟩,
                  ⟨some 144, .bin .eql (.t 143) (.c (.int Go.IntKind.i64 0)), some (142, true)⟩,
                  ⟨some 145, .pick (.t 142) (.t 144) (.c (.bool false)), none⟩,
                  ⟨some 146, .mov (.t 145), none⟩,
                  ⟨some 147, .mov (.t 27), some (146, true)⟩,
                  ⟨some 148, .mov (.t 20), some (146, true)⟩,
                  ⟨some 149, .faddr 3 (.t 6), some (146, true)⟩,
                  ⟨some 150, .load false 1 (.t 149), some (146, true)⟩,
                  ⟨some 151, .call 34 [(.t 150)], some (146, true)⟩,
                  ⟨some 152, .call 33 [(.t 151)], some (146, true)⟩,
                  ⟨some 153, .call 32 [(.t 148), (.t 152)], some (146, true)⟩,
                  ⟨some 154, .beq false (.t 147) (.t 153), some (146, true)⟩,
                  ⟨some 155, .pick (.t 146) (.t 154) (.c (.bool false)), none⟩,
                  ⟨some 12, .mov (.t 155), none⟩])
               (.ret)))))))))))))),
  [.tmp 12]⟩

/-- sentinel/sentinellaw06.NfaUnions -/
def a6 : AFunc := ⟨104,
  .seq (.region [⟨some 3, .box (.t 0), none⟩,
     ⟨some 4, .box (.t 1), none⟩,
     ⟨some 6, .mov (.c (.bool false)), none⟩])
  (.seq (.seq (.region [⟨some 15, .load true 5 (.t 3), none⟩,
       ⟨some 16, .load true 5 (.t 4), none⟩,
       ⟨some 17, .bslice true [.int Go.IntKind.i64 0, .int Go.IntKind.i64 0, .sl true 0 [], .sl true 0 [], .sl true 0 []] 5 2 [(0, (.t 15)), (1, (.t 16))], none⟩,
       ⟨some 18, .call 8 [(.t 17)], none⟩,
       ⟨some 19, .mov (.t 18), none⟩,
       ⟨some 20, .mov (.t 2), some (19, false)⟩,
       ⟨some 21, .len (.t 20), some (19, false)⟩,
       ⟨some 22, .bin .gtr (.t 21) (.c (.int Go.IntKind.i64 100)), some (19, false)⟩,
       ⟨some 23, .pick (.t 19) (.c (.bool true)) (.t 22), none⟩,
       ⟨some 24, .mov (.t 23), none⟩,
       ⟨some 25, .call 9 [], some (24, false)⟩,
       ⟨some 26, .un .not (.t 25), some (24, false)⟩,
       ⟨some 27, .pick (.t 24) (.c (.bool true)) (.t 26), none⟩])
    (.cond (.t 27)
     (.seq (.region [⟨some 28, .call 9 [], none⟩,
         ⟨some 6, .mov (.t 28), none⟩])
      (.ret))
     (.skip)))
   (.seq (.region [⟨some 30, .load true 5 (.t 3), none⟩,
       ⟨some 31, .load true 5 (.t 4), none⟩,
       ⟨some 32, .call 35 [(.t 30), (.t 31)], none⟩,
       ⟨some 29, .mov (.t 32), none⟩,
       ⟨some 33, .ext 0 (.t 29), none⟩,
       ⟨some 34, .ext 1 (.t 29), none⟩,
       ⟨some 7, .box (.c (.agg [.int Go.IntKind.i64 0, .int Go.IntKind.i64 0, .sl true 0 [], .sl true 0 [], .sl true 0 []])), none⟩,
       ⟨none, .store 5 (.t 7) (.t 33), none⟩,
       ⟨some 8, .mov (.t 34), none⟩])
    (.seq (.seq (.region [⟨some 35, .mov (.t 8), none⟩,
         ⟨some 36, .bin .neq (.t 35) (.c (.int Go.IntKind.i64 0)), none⟩])
      (.cond (.t 36)
       (.seq (.region [⟨some 37, .faddr 1 (.t 7), none⟩,
           ⟨some 38, .load false 1 (.t 37), none⟩,
           ⟨some 39, .bin .eql (.t 38) (.c (.int Go.IntKind.i64 0)), none⟩,
           ⟨some 40, .mov (.t 39), none⟩,
           ⟨some 41, .load true 5 (.t 3), some (40, true)⟩,
           ⟨some 42, .call 11 [(.t 41)], some (40, true)⟩,
           ⟨some 43, .bin .neq (.t 42) (.c (.int Go.IntKind.i64 0)), some (40, true)⟩,
           ⟨some 44, .mov (.t 43), some (40, true)⟩,
           ⟨some 45, .load true 5 (.t 4), some (44, false)⟩,
           ⟨some 46, .call 11 [(.t 45)], some (44, false)⟩,
           ⟨some 47, .bin .neq (.t 46) (.c (.int Go.IntKind.i64 0)), some (44, false)⟩,
           ⟨some 48, .pick (.t 44) (.c (.bool true)) (.t 47), some (40, true)⟩,
           ⟨some 49, .mov (.t 48), some (40, true)⟩,
           ⟨some 50, .mov (.t 8), some (49, false)⟩,
           ⟨some 51, .bin .eql (.t 50) (.c (.int Go.IntKind.i64 7)), some (49, false)⟩,
           ⟨some 52, .mov (.t 51), some (49, false)⟩,
           ⟨some 53, .faddr 0 (.t 3), some (52, true)⟩,
           ⟨some 54, .load false 1 (.t 53), some (52, true)⟩,
           ⟨some 55, .faddr 0 (.t 4), some (52, true)⟩,
           ⟨some 56, .load false 1 (.t 55), some (52, true)⟩,
           ⟨some 57, .bin .neq (.t 54) (.t 56), some (52, true)⟩,
           ⟨some 58, .pick (.t 52) (.t 57) (.c (.bool false)), some (49, false)⟩,
           ⟨some 59, .pick (.t 49) (.c (.bool true)) (.t 58), some (40, true)⟩,
           ⟨some 60, .mov (.t 59), some (40, true)⟩,
           ⟨some 61, .mov (.t 8), some (60, false)⟩,
           ⟨some 62, .bin .eql (.t 61) (.c (.int Go.IntKind.i64 4)), some (60, false)⟩,
           ⟨some 63, .pick (.t 60) (.c (.bool true)) (.t 62), some (40, true)⟩,
           ⟨some 64, .pick (.t 40) (.t 63) (.c (.bool false)), none⟩,
           ⟨some 6, .mov (.t 64), none⟩])
        (.ret))
       (.skip)))
     (.seq (.region [⟨some 66, .load true 5 (.t 3), none⟩,
         ⟨some 67, .mov (.t 2), none⟩,
         ⟨some 68, .call 12 [(.t 66), (.t 67)], none⟩,
         ⟨some 65, .mov (.t 68), none⟩,
         ⟨some 69, .ext 0 (.t 65), none⟩,
         ⟨some 70, .ext 1 (.t 65), none⟩,
         ⟨some 9, .mov (.t 69), none⟩,
         ⟨some 10, .mov (.t 70), none⟩])
      (.seq (.region [⟨some 72, .load true 5 (.t 4), none⟩,
          ⟨some 73, .mov (.t 2), none⟩,
          ⟨some 74, .call 12 [(.t 72), (.t 73)], none⟩,
          ⟨some 71, .mov (.t 74), none⟩,
          ⟨some 75, .ext 0 (.t 71), none⟩,
          ⟨some 76, .ext 1 (.t 71), none⟩,
          ⟨some 11, .mov (.t 75), none⟩,
          ⟨some 12, .mov (.t 76), none⟩])
       (.seq (.region [⟨some 78, .load true 5 (.t 7), none⟩,
           ⟨some 79, .mov (.t 2), none⟩,
           ⟨some 80, .call 12 [(.t 78), (.t 79)], none⟩,
           ⟨some 77, .mov (.t 80), none⟩,
           ⟨some 81, .ext 0 (.t 77), none⟩,
           ⟨some 82, .ext 1 (.t 77), none⟩,
           ⟨some 13, .mov (.t 81), none⟩,
           ⟨some 14, .mov (.t 82), none⟩])
        (.seq (.region [⟨some 83, .load true 5 (.t 7), none⟩,
            ⟨some 84, .call 11 [(.t 83)], none⟩,
            ⟨some 85, .bin .eql (.t 84) (.c (.int Go.IntKind.i64 0)), none⟩,
            ⟨some 86, .mov (.t 85), none⟩,
            ⟨some 87, .mov (.t 10), some (86, true)⟩,
            ⟨some 88, .mov (.t 12), some (86, true)⟩,
            ⟨some 89, .bin .eql (.t 87) (.t 88), some (86, true)⟩,
            ⟨some 90, .pick (.t 86) (.t 89) (.c (.bool false)), none⟩,
            ⟨some 91, .mov (.t 90), none⟩,
            ⟨some 92, .mov (.t 12), some (91, true)⟩,
            ⟨some 93, .mov (.t 14), some (91, true)⟩,
            ⟨some 94, .bin .eql (.t 92) (.t 93), some (91, true)⟩,
            ⟨some 95, .pick (.t 91) (.t 94) (.c (.bool false)), none⟩,
            ⟨some 96, .mov (.t 95), none⟩,
            ⟨some 97, .mov (.t 13), some (96, true)⟩,
            ⟨some 98, .mov (.t 9), some (96, true)⟩,
            ⟨some 99, .mov (.t 98), some (96, true)⟩,
            ⟨some 100, .mov (.t 11), some (99, false)⟩,
            ⟨some 101, .pick (.t 99) (.c (.bool true)) (.t 100), some (96, true)⟩,
            ⟨some 102, .beq false (.t 97) (.t 101), some (96, true)⟩,
            ⟨some 103, .pick (.t 96) (.t 102) (.c (.bool false)), none⟩,
            ⟨some 6, .mov (.t 103), none⟩])
         (.ret)))))))),
  [.tmp 6]⟩

def a7l0b : ACode :=
  .seq (.seq (.region [⟨some 43, .mov (.t 6), none⟩,
      ⟨some 44, .faddr 0 (.t 1), none⟩,
      ⟨some 45, .load false 1 (.t 44), none⟩,
      ⟨some 46, .call 37 [(.t 45)], none⟩,
      ⟨some 47, .bin .lss (.t 43) (.t 46), none⟩])
   (.cond (.t 47)
    (.skip)
    (.exit 0)))
  (.seq (.block 1 (.seq (.region [⟨some 51, .load true 5 (.t 1), none⟩,
        ⟨some 52, .mov (.t 3), none⟩,
        ⟨some 53, .mov (.t 6), none⟩,
        ⟨some 54, .conv Go.IntKind.u8 (.t 53), none⟩,
        ⟨some 55, .call 24 [(.t 51), (.t 52), (.t 54)], none⟩,
        ⟨some 50, .mov (.t 55), none⟩,
        ⟨some 56, .ext 0 (.t 50), none⟩,
        ⟨some 57, .ext 1 (.t 50), none⟩,
        ⟨some 7, .mov (.t 56), none⟩,
        ⟨some 8, .mov (.t 57), none⟩])
     (.seq (.seq (.region [⟨some 58, .mov (.t 8), none⟩,
          ⟨some 59, .bin .neq (.t 58) (.c (.int Go.IntKind.i64 0)), none⟩])
       (.cond (.t 59)
        (.seq (.region [⟨some 2, .mov (.c (.bool false)), none⟩])
         (.ret))
        (.skip)))
      (.region [⟨some 60, .mov (.t 5), none⟩,
         ⟨some 61, .mov (.t 7), none⟩,
         ⟨some 62, .call 30 [(.t 60), (.t 61)], none⟩,
         ⟨some 5, .mov (.t 62), none⟩]))))
   (.region [⟨some 48, .mov (.t 6), none⟩,
      ⟨some 49, .bin .add (.t 48) (.c (.int Go.IntKind.i64 1)), none⟩,
      ⟨some 6, .mov (.t 49), none⟩]))

def a7l0 : ACode := a7l0b
def a7l0s : List Nat := [0, 4, 7, 8, 9, 10, 11, 12, 13, 14, 15, 16, 17, 18, 19, 20, 21, 22, 23, 24, 25, 26, 27, 28, 29, 30, 31, 32, 33, 34, 35, 36, 37, 38, 39, 40, 41, 42, 43, 44, 45, 46, 47, 48, 49, 50, 51, 52, 53, 54, 55, 56, 57, 58, 59, 60, 61, 62, 63, 64, 65, 66, 67, 68, 69, 70, 71, 72, 73, 74, 75, 76, 77, 78, 79, 80, 81, 82, 83, 84, 85, 86, 87, 88, 89, 90, 91, 92, 93, 94, 95, 96, 97]
abbrev a7l0F (s1 s2 s3 s5 s6 : AV) : List AV := [.any, s1, s2, s3, .any, s5, s6, .any, .any, .any, .any, .any, .any, .any, .any, .any, .any, .any, .any, .any, .any, .any, .any, .any, .any, .any, .any, .any, .any, .any, .any, .any, .any, .any, .any, .any, .any, .any, .any, .any, .any, .any, .any, .any, .any, .any, .any, .any, .any, .any, .any, .any, .any, .any, .any, .any, .any, .any, .any, .any, .any, .any, .any, .any, .any, .any, .any, .any, .any, .any, .any, .any, .any, .any, .any, .any, .any, .any, .any, .any, .any, .any, .any, .any, .any, .any, .any, .any, .any, .any, .any, .any, .any, .any, .any, .any, .any, .any]
theorem a7l0c (s0 s1 s2 s3 s4 s5 s6 s7 s8 s9 s10 s11 s12 s13 s14 s15 s16 s17 s18 s19 s20 s21 s22 s23 s24 s25 s26 s27 s28 s29 s30 s31 s32 s33 s34 s35 s36 s37 s38 s39 s40 s41 s42 s43 s44 s45 s46 s47 s48 s49 s50 s51 s52 s53 s54 s55 s56 s57 s58 s59 s60 s61 s62 s63 s64 s65 s66 s67 s68 s69 s70 s71 s72 s73 s74 s75 s76 s77 s78 s79 s80 s81 s82 s83 s84 s85 s86 s87 s88 s89 s90 s91 s92 s93 s94 s95 s96 s97 : AV) : clearA a7l0s [s0, s1, s2, s3, s4, s5, s6, s7, s8, s9, s10, s11, s12, s13, s14, s15, s16, s17, s18, s19, s20, s21, s22, s23, s24, s25, s26, s27, s28, s29, s30, s31, s32, s33, s34, s35, s36, s37, s38, s39, s40, s41, s42, s43, s44, s45, s46, s47, s48, s49, s50, s51, s52, s53, s54, s55, s56, s57, s58, s59, s60, s61, s62, s63, s64, s65, s66, s67, s68, s69, s70, s71, s72, s73, s74, s75, s76, s77, s78, s79, s80, s81, s82, s83, s84, s85, s86, s87, s88, s89, s90, s91, s92, s93, s94, s95, s96, s97] = a7l0F s1 s2 s3 s5 s6 := by kernel_rfl
theorem a7l0n {prog : Nat → Option AFunc} (s1 s2 s3 s5 s6 : AV) (H : Heap) : (lim prog).loop a7l0s a7l0 ⟨a7l0F s1 s2 s3 s5 s6, H⟩ = loopK (lim prog) a7l0s a7l0 (run (lim prog) a7l0b ⟨a7l0F s1 s2 s3 s5 s6, H⟩) := lim_loop_step _ _ _ _ (by kernel_rfl)

/-- sentinel/sentinellaw06.NfaReaches -/
def a7 : AFunc := ⟨98,
  .seq (.region [⟨some 1, .box (.t 0), none⟩,
     ⟨some 2, .mov (.c (.bool false)), none⟩])
  (.seq (.seq (.region [⟨some 15, .load true 5 (.t 1), none⟩,
       ⟨some 16, .bslice true [.int Go.IntKind.i64 0, .int Go.IntKind.i64 0, .sl true 0 [], .sl true 0 [], .sl true 0 []] 5 1 [(0, (.t 15))], none⟩,
       ⟨some 17, .call 8 [(.t 16)], none⟩,
       ⟨some 18, .mov (.t 17), none⟩,
       ⟨some 19, .call 9 [], some (18, false)⟩,
       ⟨some 20, .un .not (.t 19), some (18, false)⟩,
       ⟨some 21, .pick (.t 18) (.c (.bool true)) (.t 20), none⟩])
    (.cond (.t 21)
     (.seq (.region [⟨some 22, .call 9 [], none⟩,
         ⟨some 2, .mov (.t 22), none⟩])
      (.ret))
     (.skip)))
   (.seq (.region [⟨some 24, .load true 5 (.t 1), none⟩,
       ⟨some 25, .call 36 [(.t 24)], none⟩,
       ⟨some 23, .mov (.t 25), none⟩,
       ⟨some 26, .ext 0 (.t 23), none⟩,
       ⟨some 27, .ext 1 (.t 23), none⟩,
       ⟨some 3, .mov (.t 26), none⟩,
       ⟨some 4, .mov (.t 27), none⟩])
    (.seq (.seq (.region [⟨some 28, .mov (.t 4), none⟩,
         ⟨some 29, .bin .neq (.t 28) (.c (.int Go.IntKind.i64 0)), none⟩])
      (.cond (.t 29)
       (.seq (.region [⟨some 30, .load true 5 (.t 1), none⟩,
           ⟨some 31, .call 11 [(.t 30)], none⟩,
           ⟨some 32, .mov (.t 4), none⟩,
           ⟨some 33, .bin .eql (.t 31) (.t 32), none⟩,
           ⟨some 34, .mov (.t 33), none⟩,
           ⟨some 35, .mov (.t 3), some (34, true)⟩,
           ⟨some 36, .len (.t 35), some (34, true)⟩,
           ⟨some 37, .bin .eql (.t 36) (.c (.int Go.IntKind.i64 0)), some (34, true)⟩,
           ⟨some 38, .pick (.t 34) (.t 37) (.c (.bool false)), none⟩,
           ⟨some 2, .mov (.t 38), none⟩])
        (.ret))
       (.skip)))
     (.seq (.region [⟨some 39, .faddr 2 (.t 1), none⟩,
         ⟨some 40, .load false 1 (.t 39), none⟩,
         ⟨some 41, .call 34 [(.t 40)], none⟩,
         ⟨some 42, .call 33 [(.t 41)], none⟩,
         ⟨some 5, .mov (.t 42), none⟩])
      (.seq (.seq (.region [⟨some 6, .mov (.c (.int Go.IntKind.i64 0)), none⟩])
        (.block 0 (.loop a7l0s a7l0)))
       (.seq (.region [⟨some 64, .load true 5 (.t 1), none⟩,
           ⟨some 65, .call 10 [(.t 64)], none⟩,
           ⟨some 63, .mov (.t 65), none⟩,
           ⟨some 66, .ext 0 (.t 63), none⟩,
           ⟨some 67, .ext 1 (.t 63), none⟩,
           ⟨some 9, .box (.c (.agg [.int Go.IntKind.i64 0, .int Go.IntKind.i64 0, .sl true 0 [], .sl true 0 [], .sl true 0 []])), none⟩,
           ⟨none, .store 5 (.t 9) (.t 66), none⟩,
           ⟨some 10, .mov (.t 67), none⟩])
        (.seq (.region [⟨some 69, .load true 5 (.t 9), none⟩,
            ⟨some 70, .call 36 [(.t 69)], none⟩,
            ⟨some 68, .mov (.t 70), none⟩,
            ⟨some 71, .ext 0 (.t 68), none⟩,
            ⟨some 72, .ext 1 (.t 68), none⟩,
            ⟨some 11, .mov (.t 71), none⟩,
            ⟨some 12, .mov (.t 72), none⟩])
         (.seq (.region [⟨some 74, .load true 5 (.t 1), none⟩,
             ⟨some 75, .call 38 [(.t 74)], none⟩,
             ⟨some 73, .mov (.t 75), none⟩,
             ⟨some 76, .ext 0 (.t 73), none⟩,
             ⟨some 77, .ext 1 (.t 73), none⟩,
             ⟨some 13, .mov (.t 76), none⟩,
             ⟨some 14, .mov (.t 77), none⟩])
          (.seq (.region [⟨some 78, .mov (.t 5), none⟩,
              ⟨some 79, .mov (.t 3), none⟩,
              ⟨some 80, .call 31 [(.t 78), (.t 79)], none⟩,
              ⟨some 81, .mov (.t 80), none⟩,
              ⟨some 82, .mov (.t 10), some (81, true)⟩,
              ⟨some 83, .bin .eql (.t 82) (.c (.int Go.IntKind.i64 0)), some (81, true)⟩,
              ⟨some 84, .pick (.t 81) (.t 83) (.c (.bool false)), none⟩,
              ⟨some 85, .mov (.t 84), none⟩,
              ⟨some 86, .mov (.t 12), some (85, true)⟩,
              ⟨some 87, .bin .eql (.t 86) (.c (.int Go.IntKind.i64 0)), some (85, true)⟩,
              ⟨some 88, .pick (.t 85) (.t 87) (.c (.bool false)), none⟩,
              ⟨some 89, .mov (.t 88), none⟩,
              ⟨some 90, .mov (.t 14), some (89, true)⟩,
              ⟨some 91, .bin .eql (.t 90) (.c (.int Go.IntKind.i64 0)), some (89, true)⟩,
              ⟨some 92, .pick (.t 89) (.t 91) (.c (.bool false)), none⟩,
              ⟨some 93, .mov (.t 92), none⟩,
              ⟨some 94, .mov (.t 11), some (93, true)⟩,
              ⟨some 95, .mov (.t 13), some (93, true)⟩,
              ⟨some 96, .call 31 [(.t 94), (.t 95)], some (93, true)⟩,
              ⟨some 97, .pick (.t 93) (.t 96) (.c (.bool false)), none⟩,
              ⟨some 2, .mov (.t 97), none⟩])
           (.ret)))))))))),
  [.tmp 2]⟩

def a8l0b : ACode :=
  .seq (.seq (.region [⟨some 4, .mov (.t 3), none⟩,
      ⟨some 5, .mov (.t 0), none⟩,
      ⟨some 6, .len (.t 5), none⟩,
      ⟨some 7, .bin .lss (.t 4) (.t 6), none⟩])
   (.cond (.t 7)
    (.skip)
    (.exit 0)))
  (.seq (.block 1 (.seq (.region [⟨some 10, .mov (.t 0), none⟩,
        ⟨some 11, .mov (.t 3), none⟩,
        ⟨some 12, .iaddr 5 (.t 10) (.t 11), none⟩,
        ⟨some 13, .faddr 2 (.t 12), none⟩,
        ⟨some 14, .load false 1 (.t 13), none⟩,
        ⟨some 15, .len (.t 14), none⟩,
        ⟨some 16, .bin .gtr (.t 15) (.c (.int Go.IntKind.i64 100)), none⟩,
        ⟨some 17, .mov (.t 16), none⟩,
        ⟨some 18, .mov (.t 0), some (17, false)⟩,
        ⟨some 19, .mov (.t 3), some (17, false)⟩,
        ⟨some 20, .iaddr 5 (.t 18) (.t 19), some (17, false)⟩,
        ⟨some 21, .faddr 3 (.t 20), some (17, false)⟩,
        ⟨some 22, .load false 1 (.t 21), some (17, false)⟩,
        ⟨some 23, .len (.t 22), some (17, false)⟩,
        ⟨some 24, .bin .gtr (.t 23) (.c (.int Go.IntKind.i64 100)), some (17, false)⟩,
        ⟨some 25, .pick (.t 17) (.c (.bool true)) (.t 24), none⟩,
        ⟨some 26, .mov (.t 25), none⟩,
        ⟨some 27, .mov (.t 0), some (26, false)⟩,
        ⟨some 28, .mov (.t 3), some (26, false)⟩,
        ⟨some 29, .iaddr 5 (.t 27) (.t 28), some (26, false)⟩,
        ⟨some 30, .faddr 4 (.t 29), some (26, false)⟩,
        ⟨some 31, .load false 1 (.t 30), some (26, false)⟩,
        ⟨some 32, .len (.t 31), some (26, false)⟩,
        ⟨some 33, .bin .gtr (.t 32) (.c (.int Go.IntKind.i64 520)), some (26, false)⟩,
        ⟨some 34, .pick (.t 26) (.c (.bool true)) (.t 33), none⟩])
     (.cond (.t 34)
      (.seq (.region [⟨some 2, .mov (.c (.bool true)), none⟩])
       (.ret))
      (.skip))))
   (.region [⟨some 8, .mov (.t 3), none⟩,
      ⟨some 9, .bin .add (.t 8) (.c (.int Go.IntKind.i64 1)), none⟩,
      ⟨some 3, .mov (.t 9), none⟩]))

def a8l0 : ACode := a8l0b
def a8l0s : List Nat := [1, 4, 5, 6, 7, 8, 9, 10, 11, 12, 13, 14, 15, 16, 17, 18, 19, 20, 21, 22, 23, 24, 25, 26, 27, 28, 29, 30, 31, 32, 33, 34]
abbrev a8l0F (s0 s2 s3 : AV) : List AV := [s0, .any, s2, s3, .any, .any, .any, .any, .any, .any, .any, .any, .any, .any, .any, .any, .any, .any, .any, .any, .any, .any, .any, .any, .any, .any, .any, .any, .any, .any, .any, .any, .any, .any, .any]
theorem a8l0c (s0 s1 s2 s3 s4 s5 s6 s7 s8 s9 s10 s11 s12 s13 s14 s15 s16 s17 s18 s19 s20 s21 s22 s23 s24 s25 s26 s27 s28 s29 s30 s31 s32 s33 s34 : AV) : clearA a8l0s [s0, s1, s2, s3, s4, s5, s6, s7, s8, s9, s10, s11, s12, s13, s14, s15, s16, s17, s18, s19, s20, s21, s22, s23, s24, s25, s26, s27, s28, s29, s30, s31, s32, s33, s34] = a8l0F s0 s2 s3 := by kernel_rfl
theorem a8l0n {prog : Nat → Option AFunc} (s0 s2 s3 : AV) (H : Heap) : (lim prog).loop a8l0s a8l0 ⟨a8l0F s0 s2 s3, H⟩ = loopK (lim prog) a8l0s a8l0 (run (lim prog) a8l0b ⟨a8l0F s0 s2 s3, H⟩) := lim_loop_step _ _ _ _ (by kernel_rfl)

/-- sentinel/sentinellaw06.Long -/
def a8 : AFunc := ⟨35,
  .seq (.region [⟨some 2, .mov (.c (.bool false)), none⟩])
  (.seq (.seq (.region [⟨some 3, .mov (.c (.int Go.IntKind.i64 0)), none⟩])
    (.block 0 (.loop a8l0s a8l0)))
   (.seq (.region [⟨some 2, .mov (.c (.bool false)), none⟩])
    (.ret))),
  [.tmp 2]⟩

/-- sentinel/sentinellaw06.awake -/
def a9 : AFunc := ⟨102,
  .seq (.region [⟨some 0, .mov (.c (.bool false)), none⟩])
  (.seq (.region [⟨some 14, .call 39 [], none⟩,
      ⟨some 1, .box (.c (.agg [.int Go.IntKind.i64 0, .int Go.IntKind.i64 0, .sl true 0 [], .sl true 0 [], .sl true 0 []])), none⟩,
      ⟨none, .store 5 (.t 1) (.t 14), none⟩])
   (.seq (.region [⟨some 16, .load true 5 (.t 1), none⟩,
       ⟨some 17, .bslice true [.int Go.IntKind.u8 0] 1 2 [(0, (.c (.int Go.IntKind.u8 1))), (1, (.c (.int Go.IntKind.u8 0)))], none⟩,
       ⟨some 18, .call 12 [(.t 16), (.t 17)], none⟩,
       ⟨some 15, .mov (.t 18), none⟩,
       ⟨some 19, .ext 0 (.t 15), none⟩,
       ⟨some 20, .ext 1 (.t 15), none⟩,
       ⟨some 2, .mov (.t 19), none⟩,
       ⟨some 3, .mov (.t 20), none⟩])
    (.seq (.region [⟨some 22, .load true 5 (.t 1), none⟩,
        ⟨some 23, .bslice true [.int Go.IntKind.u8 0] 1 3 [(0, (.c (.int Go.IntKind.u8 0))), (1, (.c (.int Go.IntKind.u8 1))), (2, (.c (.int Go.IntKind.u8 1)))], none⟩,
        ⟨some 24, .call 12 [(.t 22), (.t 23)], none⟩,
        ⟨some 21, .mov (.t 24), none⟩,
        ⟨some 25, .ext 0 (.t 21), none⟩,
        ⟨some 26, .ext 1 (.t 21), none⟩,
        ⟨some 4, .mov (.t 25), none⟩,
        ⟨some 5, .mov (.t 26), none⟩])
     (.seq (.region [⟨some 28, .load true 5 (.t 1), none⟩,
         ⟨some 29, .bslice true [.int Go.IntKind.u8 0] 1 2 [(0, (.c (.int Go.IntKind.u8 0))), (1, (.c (.int Go.IntKind.u8 1)))], none⟩,
         ⟨some 30, .call 12 [(.t 28), (.t 29)], none⟩,
         ⟨some 27, .mov (.t 30), none⟩,
         ⟨some 31, .ext 0 (.t 27), none⟩,
         ⟨some 32, .ext 1 (.t 27), none⟩,
         ⟨some 6, .mov (.t 31), none⟩,
         ⟨some 7, .mov (.t 32), none⟩])
      (.seq (.region [⟨some 34, .load true 5 (.t 1), none⟩,
          ⟨some 35, .call 12 [(.t 34), (.c (.sl true 0 []))], none⟩,
          ⟨some 33, .mov (.t 35), none⟩,
          ⟨some 36, .ext 0 (.t 33), none⟩,
          ⟨some 37, .ext 1 (.t 33), none⟩,
          ⟨some 8, .mov (.t 36), none⟩,
          ⟨some 9, .mov (.t 37), none⟩])
       (.seq (.region [⟨some 39, .load true 5 (.t 1), none⟩,
           ⟨some 40, .bslice true [.int Go.IntKind.u8 0] 1 1 [(0, (.c (.int Go.IntKind.u8 1)))], none⟩,
           ⟨some 41, .call 25 [(.t 39), (.t 40)], none⟩,
           ⟨some 38, .mov (.t 41), none⟩,
           ⟨some 42, .ext 0 (.t 38), none⟩,
           ⟨some 43, .ext 1 (.t 38), none⟩,
           ⟨some 10, .mov (.t 42), none⟩,
           ⟨some 11, .mov (.t 43), none⟩])
        (.seq (.region [⟨some 45, .load true 5 (.t 1), none⟩,
            ⟨some 46, .call 10 [(.t 45)], none⟩,
            ⟨some 44, .mov (.t 46), none⟩,
            ⟨some 47, .ext 0 (.t 44), none⟩,
            ⟨some 48, .ext 1 (.t 44), none⟩,
            ⟨some 12, .box (.c (.agg [.int Go.IntKind.i64 0, .int Go.IntKind.i64 0, .sl true 0 [], .sl true 0 [], .sl true 0 []])), none⟩,
            ⟨none, .store 5 (.t 12) (.t 47), none⟩,
            ⟨some 13, .mov (.t 48), none⟩])
         (.seq (.region [⟨some 49, .mov (.t 3), none⟩,
             ⟨some 50, .bin .eql (.t 49) (.c (.int Go.IntKind.i64 0)), none⟩,
             ⟨some 51, .mov (.t 50), none⟩,
             ⟨some 52, .mov (.t 5), some (51, true)⟩,
             ⟨some 53, .bin .eql (.t 52) (.c (.int Go.IntKind.i64 0)), some (51, true)⟩,
             ⟨some 54, .pick (.t 51) (.t 53) (.c (.bool false)), none⟩,
             ⟨some 55, .mov (.t 54), none⟩,
             ⟨some 56, .mov (.t 7), some (55, true)⟩,
             ⟨some 57, .bin .eql (.t 56) (.c (.int Go.IntKind.i64 0)), some (55, true)⟩,
             ⟨some 58, .pick (.t 55) (.t 57) (.c (.bool false)), none⟩,
             ⟨some 59, .mov (.t 58), none⟩,
             ⟨some 60, .mov (.t 9), some (59, true)⟩,
             ⟨some 61, .bin .eql (.t 60) (.c (.int Go.IntKind.i64 0)), some (59, true)⟩,
             ⟨some 62, .pick (.t 59) (.t 61) (.c (.bool false)), none⟩,
             ⟨some 63, .mov (.t 62), none⟩,
             ⟨some 64, .mov (.t 11), some (63, true)⟩,
             ⟨some 65, .bin .eql (.t 64) (.c (.int Go.IntKind.i64 0)), some (63, true)⟩,
             ⟨some 66, .pick (.t 63) (.t 65) (.c (.bool false)), none⟩,
             ⟨some 67, .mov (.t 66), none⟩,
             ⟨some 68, .mov (.t 13), some (67, true)⟩,
             ⟨some 69, .bin .eql (.t 68) (.c (.int Go.IntKind.i64 0)), some (67, true)⟩,
             ⟨some 70, .pick (.t 67) (.t 69) (.c (.bool false)), none⟩,
             ⟨some 71, .mov (.t 70), none⟩,
             ⟨some 72, .mov (.t 2), some (71, true)⟩,
             ⟨some 73, .pick (.t 71) (.t 72) (.c (.bool false)), none⟩,
             ⟨some 74, .mov (.t 73), none⟩,
             ⟨some 75, .mov (.t 4), some (74, true)⟩,
             ⟨some 76, .pick (.t 74) (.t 75) (.c (.bool false)), none⟩,
             ⟨some 77, .mov (.t 76), none⟩,
             ⟨some 78, .mov (.t 6), some (77, true)⟩,
             ⟨some 79, .un .not (.t 78), some (77, true)⟩,
             ⟨some 80, .pick (.t 77) (.t 79) (.c (.bool false)), none⟩,
             ⟨some 81, .mov (.t 80), none⟩,
             ⟨some 82, .mov (.t 8), some (81, true)⟩,
             ⟨some 83, .un .not (.t 82), some (81, true)⟩,
             ⟨some 84, .pick (.t 81) (.t 83) (.c (.bool false)), none⟩,
             ⟨some 85, .mov (.t 84), none⟩,
             ⟨some 86, .mov (.t 10), some (85, true)⟩,
             ⟨some 87, .bslice true [.int Go.IntKind.u64 0] 1 1 [(0, (.c (.int Go.IntKind.u64 3)))], some (85, true)⟩,
             ⟨some 88, .call 26 [(.t 86), (.t 87)], some (85, true)⟩,
             ⟨some 89, .pick (.t 85) (.t 88) (.c (.bool false)), none⟩,
             ⟨some 90, .mov (.t 89), none⟩,
             ⟨some 91, .faddr 2 (.t 12), some (90, true)⟩,
             ⟨some 92, .load false 1 (.t 91), some (90, true)⟩,
             ⟨some 93, .bslice true [.int Go.IntKind.i64 0] 1 1 [(0, (.c (.int Go.IntKind.i64 2)))], some (90, true)⟩,
             ⟨some 94, .call 40 [(.t 92), (.t 93)], some (90, true)⟩,
             ⟨some 95, .pick (.t 90) (.t 94) (.c (.bool false)), none⟩,
             ⟨some 96, .mov (.t 95), none⟩,
             ⟨some 97, .faddr 3 (.t 12), some (96, true)⟩,
             ⟨some 98, .load false 1 (.t 97), some (96, true)⟩,
             ⟨some 99, .bslice true [.int Go.IntKind.i64 0] 1 1 [(0, (.c (.int Go.IntKind.i64 0)))], some (96, true)⟩,
             ⟨some 100, .call 40 [(.t 98), (.t 99)], some (96, true)⟩,
             ⟨some 101, .pick (.t 96) (.t 100) (.c (.bool false)), none⟩,
             ⟨some 0, .mov (.t 101), none⟩])
          (.ret))))))))),
  [.tmp 0]⟩

def a10l0b : ACode :=
  .seq (.region [⟨some 29, .bin .lss (.t 28) (.t 27), none⟩])
  (.seq (.cond (.t 29)
    (.skip)
    (.exit 0))
   (.seq (.block 1 (.seq (.region [⟨some 30, .iaddr 4 (.t 26) (.t 28), none⟩,
         ⟨some 31, .load true 4 (.t 30), none⟩,
         ⟨some 7, .box (.c (.agg [.int Go.IntKind.i64 0, .int Go.IntKind.i64 0, .int Go.IntKind.u8 0, .int Go.IntKind.u8 0])), none⟩,
         ⟨none, .store 4 (.t 7) (.t 31), none⟩])
      (.region [⟨some 32, .faddr 4 (.t 5), none⟩,
         ⟨some 33, .load false 1 (.t 32), none⟩,
         ⟨some 34, .faddr 1 (.t 7), none⟩,
         ⟨some 35, .load false 1 (.t 34), none⟩,
         ⟨some 36, .faddr 0 (.t 7), none⟩,
         ⟨some 37, .load false 1 (.t 36), none⟩,
         ⟨some 38, .faddr 2 (.t 7), none⟩,
         ⟨some 39, .load false 1 (.t 38), none⟩,
         ⟨some 40, .faddr 3 (.t 7), none⟩,
         ⟨some 41, .load false 1 (.t 40), none⟩,
         ⟨some 42, .build [.int Go.IntKind.i64 0, .int Go.IntKind.i64 0, .int Go.IntKind.u8 0, .int Go.IntKind.u8 0] [(0, 1, (.t 35)), (1, 1, (.t 37)), (2, 1, (.t 39)), (3, 1, (.t 41))], none⟩,
         ⟨some 43, .bslice true [.int Go.IntKind.i64 0, .int Go.IntKind.i64 0, .int Go.IntKind.u8 0, .int Go.IntKind.u8 0] 4 1 [(0, (.t 42))], none⟩,
         ⟨some 44, .append false 4 24 (.t 33) (.t 43), none⟩,
         ⟨some 45, .faddr 4 (.t 5), none⟩,
         ⟨none, .store 1 (.t 45) (.t 44), none⟩])))
    (.region [⟨some 46, .bin .add (.t 28) (.c (.int Go.IntKind.i64 1)), none⟩,
       ⟨some 28, .mov (.t 46), none⟩])))

def a10l0 : ACode := a10l0b
def a10l0s : List Nat := [0, 1, 3, 4, 6, 7, 8, 9, 10, 11, 12, 13, 14, 15, 16, 17, 18, 19, 20, 21, 22, 23, 24, 25, 29, 30, 31, 32, 33, 34, 35, 36, 37, 38, 39, 40, 41, 42, 43, 44, 45, 46, 47]
abbrev a10l0F (s2 s5 s26 s27 s28 : AV) : List AV := [.any, .any, s2, .any, .any, s5, .any, .any, .any, .any, .any, .any, .any, .any, .any, .any, .any, .any, .any, .any, .any, .any, .any, .any, .any, .any, s26, s27, s28, .any, .any, .any, .any, .any, .any, .any, .any, .any, .any, .any, .any, .any, .any, .any, .any, .any, .any, .any]
theorem a10l0c (s0 s1 s2 s3 s4 s5 s6 s7 s8 s9 s10 s11 s12 s13 s14 s15 s16 s17 s18 s19 s20 s21 s22 s23 s24 s25 s26 s27 s28 s29 s30 s31 s32 s33 s34 s35 s36 s37 s38 s39 s40 s41 s42 s43 s44 s45 s46 s47 : AV) : clearA a10l0s [s0, s1, s2, s3, s4, s5, s6, s7, s8, s9, s10, s11, s12, s13, s14, s15, s16, s17, s18, s19, s20, s21, s22, s23, s24, s25, s26, s27, s28, s29, s30, s31, s32, s33, s34, s35, s36, s37, s38, s39, s40, s41, s42, s43, s44, s45, s46, s47] = a10l0F s2 s5 s26 s27 s28 := by kernel_rfl
theorem a10l0n {prog : Nat → Option AFunc} (s2 s5 s26 s27 s28 : AV) (H : Heap) : (lim prog).loop a10l0s a10l0 ⟨a10l0F s2 s5 s26 s27 s28, H⟩ = loopK (lim prog) a10l0s a10l0 (run (lim prog) a10l0b ⟨a10l0F s2 s5 s26 s27 s28, H⟩) := lim_loop_step _ _ _ _ (by kernel_rfl)

/-- sentinel/nfa.Reverse -/
def a10 : AFunc := ⟨48,
  .seq (.region [⟨some 1, .box (.t 0), none⟩,
     ⟨some 2, .box (.c (.agg [.int Go.IntKind.i64 0, .int Go.IntKind.i64 0, .sl true 0 [], .sl true 0 [], .sl true 0 []])), none⟩,
     ⟨some 3, .mov (.c (.int Go.IntKind.i64 0)), none⟩])
  (.seq (.seq (.region [⟨some 8, .load true 5 (.t 1), none⟩,
       ⟨some 9, .call 11 [(.t 8)], none⟩,
       ⟨some 4, .mov (.t 9), none⟩])
    (.seq (.region [⟨some 10, .mov (.t 4), none⟩,
        ⟨some 11, .bin .neq (.t 10) (.c (.int Go.IntKind.i64 0)), none⟩])
     (.cond (.t 11)
      (.seq (.region [⟨some 12, .build [.int Go.IntKind.i64 0, .int Go.IntKind.i64 0, .sl true 0 [], .sl true 0 [], .sl true 0 []] [], none⟩,
          ⟨some 13, .mov (.t 4), none⟩,
          ⟨none, .store 5 (.t 2) (.t 12), none⟩,
          ⟨some 3, .mov (.t 13), none⟩])
       (.ret))
      (.skip))))
   (.seq (.draw 12 [⟨some 14, .faddr 0 (.t 1), none⟩,
       ⟨some 15, .load false 1 (.t 14), none⟩,
       ⟨some 16, .faddr 1 (.t 1), none⟩,
       ⟨some 17, .load false 1 (.t 16), none⟩,
       ⟨some 18, .faddr 3 (.t 1), none⟩,
       ⟨some 19, .load false 1 (.t 18), none⟩,
       ⟨some 20, .call 41 [(.t 19)], none⟩,
       ⟨some 21, .faddr 2 (.t 1), none⟩,
       ⟨some 22, .load false 1 (.t 21), none⟩,
       ⟨some 23, .call 41 [(.t 22)], none⟩,
       ⟨some 24, .build [.int Go.IntKind.i64 0, .int Go.IntKind.i64 0, .sl true 0 [], .sl true 0 [], .sl true 0 []] [(0, 1, (.t 15)), (1, 1, (.t 17)), (2, 1, (.t 20)), (3, 1, (.t 23))], none⟩,
       ⟨some 5, .box (.c (.agg [.int Go.IntKind.i64 0, .int Go.IntKind.i64 0, .sl true 0 [], .sl true 0 [], .sl true 0 []])), none⟩,
       ⟨none, .store 5 (.t 5) (.t 24), none⟩])
    (.seq (.seq (.region [⟨some 25, .faddr 4 (.t 1), none⟩,
         ⟨some 26, .load false 1 (.t 25), none⟩,
         ⟨some 27, .len (.t 26), none⟩,
         ⟨some 28, .mov (.c (.int Go.IntKind.i64 0)), none⟩])
      (.block 0 (.loop a10l0s a10l0)))
     (.seq (.region [⟨some 47, .load true 5 (.t 5), none⟩,
         ⟨none, .store 5 (.t 2) (.t 47), none⟩,
         ⟨some 3, .mov (.c (.int Go.IntKind.i64 0)), none⟩])
      (.ret))))),
  [.cell 2 true 5, .tmp 3]⟩

def a11l0b : ACode :=
  .seq (.region [⟨some 19, .bin .lss (.t 18) (.t 17), none⟩])
  (.seq (.cond (.t 19)
    (.skip)
    (.exit 0))
   (.seq (.block 1 (.seq (.region [⟨some 20, .iaddr 2 (.t 16) (.t 18), none⟩,
         ⟨some 21, .load true 2 (.t 20), none⟩,
         ⟨some 4, .box (.c (.agg [.nilf, .int Go.IntKind.i64 0])), none⟩,
         ⟨none, .store 2 (.t 4) (.t 21), none⟩])
      (.seq (.region [⟨some 22, .faddr 0 (.t 4), none⟩,
          ⟨some 23, .load false 1 (.t 22), none⟩,
          ⟨some 24, .icall (.t 23) [], none⟩])
       (.cond (.t 24)
        (.seq (.region [⟨some 25, .faddr 1 (.t 4), none⟩,
            ⟨some 26, .load false 1 (.t 25), none⟩,
            ⟨some 2, .mov (.t 26), none⟩])
         (.ret))
        (.skip)))))
    (.region [⟨some 27, .bin .add (.t 18) (.c (.int Go.IntKind.i64 1)), none⟩,
       ⟨some 18, .mov (.t 27), none⟩])))

def a11l0 : ACode := a11l0b
def a11l0s : List Nat := [0, 3, 4, 5, 6, 7, 8, 9, 10, 11, 12, 13, 14, 15, 19, 20, 21, 22, 23, 24, 25, 26, 27, 28, 29, 30, 31, 32, 33, 34, 35, 36, 37, 38, 39, 40, 41, 42, 43, 44, 45, 46, 47, 48, 49, 50, 51, 52, 53, 54, 55, 56, 57, 58, 59, 60, 61, 62]
abbrev a11l0F (s1 s2 s16 s17 s18 : AV) : List AV := [.any, s1, s2, .any, .any, .any, .any, .any, .any, .any, .any, .any, .any, .any, .any, .any, s16, s17, s18, .any, .any, .any, .any, .any, .any, .any, .any, .any, .any, .any, .any, .any, .any, .any, .any, .any, .any, .any, .any, .any, .any, .any, .any, .any, .any, .any, .any, .any, .any, .any, .any, .any, .any, .any, .any, .any, .any, .any, .any, .any, .any, .any, .any]
theorem a11l0c (s0 s1 s2 s3 s4 s5 s6 s7 s8 s9 s10 s11 s12 s13 s14 s15 s16 s17 s18 s19 s20 s21 s22 s23 s24 s25 s26 s27 s28 s29 s30 s31 s32 s33 s34 s35 s36 s37 s38 s39 s40 s41 s42 s43 s44 s45 s46 s47 s48 s49 s50 s51 s52 s53 s54 s55 s56 s57 s58 s59 s60 s61 s62 : AV) : clearA a11l0s [s0, s1, s2, s3, s4, s5, s6, s7, s8, s9, s10, s11, s12, s13, s14, s15, s16, s17, s18, s19, s20, s21, s22, s23, s24, s25, s26, s27, s28, s29, s30, s31, s32, s33, s34, s35, s36, s37, s38, s39, s40, s41, s42, s43, s44, s45, s46, s47, s48, s49, s50, s51, s52, s53, s54, s55, s56, s57, s58, s59, s60, s61, s62] = a11l0F s1 s2 s16 s17 s18 := by kernel_rfl
theorem a11l0n {prog : Nat → Option AFunc} (s1 s2 s16 s17 s18 : AV) (H : Heap) : (lim prog).loop a11l0s a11l0 ⟨a11l0F s1 s2 s16 s17 s18, H⟩ = loopK (lim prog) a11l0s a11l0 (run (lim prog) a11l0b ⟨a11l0F s1 s2 s16 s17 s18, H⟩) := lim_loop_step _ _ _ _ (by kernel_rfl)

def a11l1b : ACode :=
  .seq (.region [⟨some 32, .bin .lss (.t 31) (.t 30), none⟩])
  (.seq (.cond (.t 32)
    (.skip)
    (.exit 2))
   (.seq (.block 3 (.seq (.region [⟨some 33, .iaddr 4 (.t 29) (.t 31), none⟩,
         ⟨some 34, .load true 4 (.t 33), none⟩,
         ⟨some 6, .box (.c (.agg [.int Go.IntKind.i64 0, .int Go.IntKind.i64 0, .int Go.IntKind.u8 0, .int Go.IntKind.u8 0])), none⟩,
         ⟨none, .store 4 (.t 6) (.t 34), none⟩])
      (.seq (.seq (.region [⟨some 35, .faddr 0 (.t 6), none⟩,
           ⟨some 36, .load false 1 (.t 35), none⟩,
           ⟨some 37, .faddr 1 (.t 6), none⟩,
           ⟨some 38, .load false 1 (.t 37), none⟩,
           ⟨some 39, .mini (.t 36) (.t 38), none⟩,
           ⟨some 40, .bin .lss (.t 39) (.c (.int Go.IntKind.i64 0)), none⟩,
           ⟨some 41, .mov (.t 40), none⟩,
           ⟨some 42, .faddr 0 (.t 6), some (41, false)⟩,
           ⟨some 43, .load false 1 (.t 42), some (41, false)⟩,
           ⟨some 44, .faddr 1 (.t 6), some (41, false)⟩,
           ⟨some 45, .load false 1 (.t 44), some (41, false)⟩,
           ⟨some 46, .maxi (.t 43) (.t 45), some (41, false)⟩,
           ⟨some 47, .faddr 1 (.t 1), some (41, false)⟩,
           ⟨some 48, .load false 1 (.t 47), some (41, false)⟩,
           ⟨some 49, .bin .geq (.t 46) (.t 48), some (41, false)⟩,
           ⟨some 50, .pick (.t 41) (.c (.bool true)) (.t 49), none⟩])
        (.cond (.t 50)
         (.seq (.region [⟨some 2, .mov (.c (.int Go.IntKind.i64 8)), none⟩])
          (.ret))
         (.skip)))
       (.seq (.region [⟨some 51, .faddr 2 (.t 6), none⟩,
           ⟨some 52, .load false 1 (.t 51), none⟩,
           ⟨some 53, .faddr 3 (.t 6), none⟩,
           ⟨some 54, .load false 1 (.t 53), none⟩,
           ⟨some 55, .build [.int Go.IntKind.u8 0, .int Go.IntKind.u8 0] [(0, 1, (.t 52)), (1, 1, (.t 54))], none⟩,
           ⟨some 56, .faddr 0 (.t 1), none⟩,
           ⟨some 57, .load false 1 (.t 56), none⟩,
           ⟨some 58, .call 47 [(.t 55), (.t 57)], none⟩,
           ⟨some 7, .mov (.t 58), none⟩])
        (.seq (.region [⟨some 59, .mov (.t 7), none⟩,
            ⟨some 60, .bin .neq (.t 59) (.c (.int Go.IntKind.i64 0)), none⟩])
         (.cond (.t 60)
          (.seq (.region [⟨some 61, .mov (.t 7), none⟩,
              ⟨some 2, .mov (.t 61), none⟩])
           (.ret))
          (.skip)))))))
    (.region [⟨some 62, .bin .add (.t 31) (.c (.int Go.IntKind.i64 1)), none⟩,
       ⟨some 31, .mov (.t 62), none⟩])))

def a11l1 : ACode := a11l1b
def a11l1s : List Nat := [0, 3, 4, 5, 6, 7, 8, 9, 10, 11, 12, 13, 14, 15, 16, 17, 18, 19, 20, 21, 22, 23, 24, 25, 26, 27, 28, 32, 33, 34, 35, 36, 37, 38, 39, 40, 41, 42, 43, 44, 45, 46, 47, 48, 49, 50, 51, 52, 53, 54, 55, 56, 57, 58, 59, 60, 61, 62]
abbrev a11l1F (s1 s2 s29 s30 s31 : AV) : List AV := [.any, s1, s2, .any, .any, .any, .any, .any, .any, .any, .any, .any, .any, .any, .any, .any, .any, .any, .any, .any, .any, .any, .any, .any, .any, .any, .any, .any, .any, s29, s30, s31, .any, .any, .any, .any, .any, .any, .any, .any, .any, .any, .any, .any, .any, .any, .any, .any, .any, .any, .any, .any, .any, .any, .any, .any, .any, .any, .any, .any, .any, .any, .any]
theorem a11l1c (s0 s1 s2 s3 s4 s5 s6 s7 s8 s9 s10 s11 s12 s13 s14 s15 s16 s17 s18 s19 s20 s21 s22 s23 s24 s25 s26 s27 s28 s29 s30 s31 s32 s33 s34 s35 s36 s37 s38 s39 s40 s41 s42 s43 s44 s45 s46 s47 s48 s49 s50 s51 s52 s53 s54 s55 s56 s57 s58 s59 s60 s61 s62 : AV) : clearA a11l1s [s0, s1, s2, s3, s4, s5, s6, s7, s8, s9, s10, s11, s12, s13, s14, s15, s16, s17, s18, s19, s20, s21, s22, s23, s24, s25, s26, s27, s28, s29, s30, s31, s32, s33, s34, s35, s36, s37, s38, s39, s40, s41, s42, s43, s44, s45, s46, s47, s48, s49, s50, s51, s52, s53, s54, s55, s56, s57, s58, s59, s60, s61, s62] = a11l1F s1 s2 s29 s30 s31 := by kernel_rfl
theorem a11l1n {prog : Nat → Option AFunc} (s1 s2 s29 s30 s31 : AV) (H : Heap) : (lim prog).loop a11l1s a11l1 ⟨a11l1F s1 s2 s29 s30 s31, H⟩ = loopK (lim prog) a11l1s a11l1 (run (lim prog) a11l1b ⟨a11l1F s1 s2 s29 s30 s31, H⟩) := lim_loop_step _ _ _ _ (by kernel_rfl)

/-- sentinel/nfa.Check -/
def a11 : AFunc := ⟨63,
  .seq (.region [⟨some 1, .box (.t 0), none⟩,
     ⟨some 2, .mov (.c (.int Go.IntKind.i64 0)), none⟩])
  (.seq (.seq (.region [⟨some 8, .mkfunc 42 [(.t 1)], none⟩,
       ⟨some 9, .build [.nilf, .int Go.IntKind.i64 0] [(0, 1, (.t 8)), (1, 1, (.c (.int Go.IntKind.i64 7)))], none⟩,
       ⟨some 10, .mkfunc 43 [(.t 1)], none⟩,
       ⟨some 11, .build [.nilf, .int Go.IntKind.i64 0] [(0, 1, (.t 10)), (1, 1, (.c (.int Go.IntKind.i64 1)))], none⟩,
       ⟨some 12, .mkfunc 44 [(.t 1)], none⟩,
       ⟨some 13, .build [.nilf, .int Go.IntKind.i64 0] [(0, 1, (.t 12)), (1, 1, (.c (.int Go.IntKind.i64 4)))], none⟩,
       ⟨some 14, .mkfunc 45 [(.t 1)], none⟩,
       ⟨some 15, .build [.nilf, .int Go.IntKind.i64 0] [(0, 1, (.t 14)), (1, 1, (.c (.int Go.IntKind.i64 8)))], none⟩,
       ⟨some 16, .bslice false [.nilf, .int Go.IntKind.i64 0] 2 4 [(0, (.t 9)), (1, (.t 11)), (2, (.t 13)), (3, (.t 15))], none⟩,
       ⟨some 17, .len (.t 16), none⟩,
       ⟨some 18, .mov (.c (.int Go.IntKind.i64 0)), none⟩])
    (.block 0 (.loop a11l0s a11l0)))
   (.seq (.seq (.region [⟨some 28, .faddr 4 (.t 1), none⟩,
        ⟨some 29, .load false 1 (.t 28), none⟩,
        ⟨some 30, .len (.t 29), none⟩,
        ⟨some 31, .mov (.c (.int Go.IntKind.i64 0)), none⟩])
     (.block 2 (.loop a11l1s a11l1)))
    (.seq (.region [⟨some 2, .mov (.c (.int Go.IntKind.i64 0)), none⟩])
     (.ret)))),
  [.tmp 2]⟩

/-- sentinel/nfa.Accepts -/
def a12 : AFunc := ⟨24,
  .seq (.region [⟨some 2, .box (.t 0), none⟩,
     ⟨some 4, .mov (.c (.bool false)), none⟩,
     ⟨some 5, .mov (.c (.int Go.IntKind.i64 0)), none⟩])
  (.seq (.region [⟨some 9, .load true 5 (.t 2), none⟩,
      ⟨some 10, .mov (.t 1), none⟩,
      ⟨some 11, .call 25 [(.t 9), (.t 10)], none⟩,
      ⟨some 8, .mov (.t 11), none⟩,
      ⟨some 12, .ext 0 (.t 8), none⟩,
      ⟨some 13, .ext 1 (.t 8), none⟩,
      ⟨some 6, .mov (.t 12), none⟩,
      ⟨some 7, .mov (.t 13), none⟩])
   (.seq (.region [⟨some 14, .mov (.t 7), none⟩,
       ⟨some 15, .bin .eql (.t 14) (.c (.int Go.IntKind.i64 0)), none⟩,
       ⟨some 16, .mov (.t 15), none⟩,
       ⟨some 17, .mov (.t 6), some (16, true)⟩,
       ⟨some 18, .faddr 3 (.t 2), some (16, true)⟩,
       ⟨some 19, .load false 1 (.t 18), some (16, true)⟩,
       ⟨some 20, .call 33 [(.t 19)], some (16, true)⟩,
       ⟨some 21, .call 32 [(.t 17), (.t 20)], some (16, true)⟩,
       ⟨some 22, .pick (.t 16) (.t 21) (.c (.bool false)), none⟩,
       ⟨some 23, .mov (.t 7), none⟩,
       ⟨some 4, .mov (.t 22), none⟩,
       ⟨some 5, .mov (.t 23), none⟩])
    (.ret))),
  [.tmp 4, .tmp 5]⟩

def a13l0b : ACode :=
  .seq (.seq (.region [⟨some 8, .mov (.t 4), none⟩,
      ⟨some 9, .bin .geq (.t 8) (.c (.int Go.IntKind.i64 0)), none⟩])
   (.cond (.t 9)
    (.skip)
    (.exit 0)))
  (.seq (.block 1 (.region [⟨some 12, .mov (.t 3), none⟩,
       ⟨some 13, .mov (.t 0), none⟩,
       ⟨some 14, .mov (.t 4), none⟩,
       ⟨some 15, .iaddr 1 (.t 13) (.t 14), none⟩,
       ⟨some 16, .load false 1 (.t 15), none⟩,
       ⟨some 17, .bslice true [.int Go.IntKind.u8 0] 1 1 [(0, (.t 16))], none⟩,
       ⟨some 18, .append false 1 1 (.t 12) (.t 17), none⟩,
       ⟨some 3, .mov (.t 18), none⟩]))
   (.region [⟨some 10, .mov (.t 4), none⟩,
      ⟨some 11, .bin .sub (.t 10) (.c (.int Go.IntKind.i64 1)), none⟩,
      ⟨some 4, .mov (.t 11), none⟩]))

def a13l0 : ACode := a13l0b
def a13l0s : List Nat := [1, 2, 5, 6, 7, 8, 9, 10, 11, 12, 13, 14, 15, 16, 17, 18, 19]
abbrev a13l0F (s0 s3 s4 : AV) : List AV := [s0, .any, .any, s3, s4, .any, .any, .any, .any, .any, .any, .any, .any, .any, .any, .any, .any, .any, .any, .any]
theorem a13l0c (s0 s1 s2 s3 s4 s5 s6 s7 s8 s9 s10 s11 s12 s13 s14 s15 s16 s17 s18 s19 : AV) : clearA a13l0s [s0, s1, s2, s3, s4, s5, s6, s7, s8, s9, s10, s11, s12, s13, s14, s15, s16, s17, s18, s19] = a13l0F s0 s3 s4 := by kernel_rfl
theorem a13l0n {prog : Nat → Option AFunc} (s0 s3 s4 : AV) (H : Heap) : (lim prog).loop a13l0s a13l0 ⟨a13l0F s0 s3 s4, H⟩ = loopK (lim prog) a13l0s a13l0 (run (lim prog) a13l0b ⟨a13l0F s0 s3 s4, H⟩) := lim_loop_step _ _ _ _ (by kernel_rfl)

/-- sentinel/sentinellaw06.reversed -/
def a13 : AFunc := ⟨20,
  .seq (.region [⟨some 2, .mov (.c (.sl true 0 [])), none⟩])
  (.seq (.region [⟨some 3, .mov (.c (.sl true 0 [])), none⟩])
   (.seq (.seq (.region [⟨some 5, .mov (.t 0), none⟩,
        ⟨some 6, .len (.t 5), none⟩,
        ⟨some 7, .bin .sub (.t 6) (.c (.int Go.IntKind.i64 1)), none⟩,
        ⟨some 4, .mov (.t 7), none⟩])
     (.block 0 (.loop a13l0s a13l0)))
    (.seq (.region [⟨some 19, .mov (.t 3), none⟩,
        ⟨some 2, .mov (.t 19), none⟩])
     (.ret)))),
  [.tmp 2]⟩

/-- sentinel/sentinelkit.EqualNFA -/
def a14 : AFunc := ⟨38,
  .seq (.region [⟨some 2, .box (.t 0), none⟩,
     ⟨some 3, .box (.t 1), none⟩,
     ⟨some 4, .mov (.c (.bool false)), none⟩])
  (.seq (.region [⟨some 5, .faddr 0 (.t 2), none⟩,
      ⟨some 6, .load false 1 (.t 5), none⟩,
      ⟨some 7, .faddr 0 (.t 3), none⟩,
      ⟨some 8, .load false 1 (.t 7), none⟩,
      ⟨some 9, .bin .eql (.t 6) (.t 8), none⟩,
      ⟨some 10, .mov (.t 9), none⟩,
      ⟨some 11, .faddr 1 (.t 2), some (10, true)⟩,
      ⟨some 12, .load false 1 (.t 11), some (10, true)⟩,
      ⟨some 13, .faddr 1 (.t 3), some (10, true)⟩,
      ⟨some 14, .load false 1 (.t 13), some (10, true)⟩,
      ⟨some 15, .bin .eql (.t 12) (.t 14), some (10, true)⟩,
      ⟨some 16, .pick (.t 10) (.t 15) (.c (.bool false)), none⟩,
      ⟨some 17, .mov (.t 16), none⟩,
      ⟨some 18, .faddr 2 (.t 2), some (17, true)⟩,
      ⟨some 19, .load false 1 (.t 18), some (17, true)⟩,
      ⟨some 20, .faddr 2 (.t 3), some (17, true)⟩,
      ⟨some 21, .load false 1 (.t 20), some (17, true)⟩,
      ⟨some 22, .call 40 [(.t 19), (.t 21)], some (17, true)⟩,
      ⟨some 23, .pick (.t 17) (.t 22) (.c (.bool false)), none⟩,
      ⟨some 24, .mov (.t 23), none⟩,
      ⟨some 25, .faddr 3 (.t 2), some (24, true)⟩,
      ⟨some 26, .load false 1 (.t 25), some (24, true)⟩,
      ⟨some 27, .faddr 3 (.t 3), some (24, true)⟩,
      ⟨some 28, .load false 1 (.t 27), some (24, true)⟩,
      ⟨some 29, .call 40 [(.t 26), (.t 28)], some (24, true)⟩,
      ⟨some 30, .pick (.t 24) (.t 29) (.c (.bool false)), none⟩,
      ⟨some 31, .mov (.t 30), none⟩,
      ⟨some 32, .faddr 4 (.t 2), some (31, true)⟩,
      ⟨some 33, .load false 1 (.t 32), some (31, true)⟩,
      ⟨some 34, .faddr 4 (.t 3), some (31, true)⟩,
      ⟨some 35, .load false 1 (.t 34), some (31, true)⟩,
      ⟨some 36, .call 48 [(.t 33), (.t 35)], some (31, true)⟩,
      ⟨some 37, .pick (.t 31) (.t 36) (.c (.bool false)), none⟩,
      ⟨some 4, .mov (.t 37), none⟩])
   (.ret)),
  [.tmp 4]⟩

def a15l0b : ACode :=
  .seq (.seq (.region [⟨some 4, .mov (.t 3), none⟩,
      ⟨some 5, .mov (.t 0), none⟩,
      ⟨some 6, .len (.t 5), none⟩,
      ⟨some 7, .bin .lss (.t 4) (.t 6), none⟩])
   (.cond (.t 7)
    (.skip)
    (.exit 0)))
  (.seq (.block 1 (.seq (.region [⟨some 10, .mov (.t 0), none⟩,
        ⟨some 11, .mov (.t 3), none⟩,
        ⟨some 12, .iaddr 1 (.t 10) (.t 11), none⟩,
        ⟨some 13, .load false 1 (.t 12), none⟩,
        ⟨some 14, .len (.t 13), none⟩,
        ⟨some 15, .bin .gtr (.t 14) (.c (.int Go.IntKind.i64 80)), none⟩])
     (.cond (.t 15)
      (.seq (.region [⟨some 2, .mov (.c (.bool true)), none⟩])
       (.ret))
      (.skip))))
   (.region [⟨some 8, .mov (.t 3), none⟩,
      ⟨some 9, .bin .add (.t 8) (.c (.int Go.IntKind.i64 1)), none⟩,
      ⟨some 3, .mov (.t 9), none⟩]))

def a15l0 : ACode := a15l0b
def a15l0s : List Nat := [1, 4, 5, 6, 7, 8, 9, 10, 11, 12, 13, 14, 15]
abbrev a15l0F (s0 s2 s3 : AV) : List AV := [s0, .any, s2, s3, .any, .any, .any, .any, .any, .any, .any, .any, .any, .any, .any, .any]
theorem a15l0c (s0 s1 s2 s3 s4 s5 s6 s7 s8 s9 s10 s11 s12 s13 s14 s15 : AV) : clearA a15l0s [s0, s1, s2, s3, s4, s5, s6, s7, s8, s9, s10, s11, s12, s13, s14, s15] = a15l0F s0 s2 s3 := by kernel_rfl
theorem a15l0n {prog : Nat → Option AFunc} (s0 s2 s3 : AV) (H : Heap) : (lim prog).loop a15l0s a15l0 ⟨a15l0F s0 s2 s3, H⟩ = loopK (lim prog) a15l0s a15l0 (run (lim prog) a15l0b ⟨a15l0F s0 s2 s3, H⟩) := lim_loop_step _ _ _ _ (by kernel_rfl)

/-- sentinel/sentinellaw01.Long -/
def a15 : AFunc := ⟨16,
  .seq (.region [⟨some 2, .mov (.c (.bool false)), none⟩])
  (.seq (.seq (.region [⟨some 3, .mov (.c (.int Go.IntKind.i64 0)), none⟩])
    (.block 0 (.loop a15l0s a15l0)))
   (.seq (.region [⟨some 2, .mov (.c (.bool false)), none⟩])
    (.ret))),
  [.tmp 2]⟩

/-- sentinel/sentinelkit.CopyNFA -/
def a16 : AFunc := ⟨17,
  .seq (.region [⟨some 1, .box (.t 0), none⟩,
     ⟨some 2, .box (.c (.agg [.int Go.IntKind.i64 0, .int Go.IntKind.i64 0, .sl true 0 [], .sl true 0 [], .sl true 0 []])), none⟩])
  (.seq (.draw 13 [⟨some 3, .faddr 0 (.t 1), none⟩,
      ⟨some 4, .load false 1 (.t 3), none⟩,
      ⟨some 5, .faddr 1 (.t 1), none⟩,
      ⟨some 6, .load false 1 (.t 5), none⟩,
      ⟨some 7, .faddr 2 (.t 1), none⟩,
      ⟨some 8, .load false 1 (.t 7), none⟩,
      ⟨some 9, .call 34 [(.t 8)], none⟩,
      ⟨some 10, .faddr 3 (.t 1), none⟩,
      ⟨some 11, .load false 1 (.t 10), none⟩,
      ⟨some 12, .call 34 [(.t 11)], none⟩,
      ⟨some 13, .faddr 4 (.t 1), none⟩,
      ⟨some 14, .load false 1 (.t 13), none⟩,
      ⟨some 15, .call 49 [(.t 14)], none⟩,
      ⟨some 16, .build [.int Go.IntKind.i64 0, .int Go.IntKind.i64 0, .sl true 0 [], .sl true 0 [], .sl true 0 []] [(0, 1, (.t 4)), (1, 1, (.t 6)), (2, 1, (.t 9)), (3, 1, (.t 12)), (4, 1, (.t 15))], none⟩,
      ⟨none, .store 5 (.t 2) (.t 16), none⟩])
   (.ret)),
  [.cell 2 true 5]⟩

/-- sentinel/sentinelkit.CopyBytes -/
def a17 : AFunc := ⟨5,
  .seq (.region [⟨some 2, .mov (.c (.sl true 0 [])), none⟩])
  (.seq (.region [⟨some 3, .mov (.t 0), none⟩,
      ⟨some 4, .append false 1 1 (.c (.sl true 0 [])) (.t 3), none⟩,
      ⟨some 2, .mov (.t 4), none⟩])
   (.ret)),
  [.tmp 2]⟩

/-- sentinel/sentinelref06.Check -/
def a18 : AFunc := ⟨40,
  .seq (.region [⟨some 1, .box (.t 0), none⟩,
     ⟨some 2, .mov (.c (.int Go.IntKind.i64 0)), none⟩])
  (.seq (.seq (.region [⟨some 3, .faddr 0 (.t 1), none⟩,
       ⟨some 4, .load false 1 (.t 3), none⟩,
       ⟨some 5, .call 50 [(.t 4)], none⟩,
       ⟨some 6, .un .not (.t 5), none⟩])
    (.cond (.t 6)
     (.seq (.region [⟨some 2, .mov (.c (.int Go.IntKind.i64 7)), none⟩])
      (.ret))
     (.skip)))
   (.seq (.seq (.region [⟨some 7, .faddr 1 (.t 1), none⟩,
        ⟨some 8, .load false 1 (.t 7), none⟩,
        ⟨some 9, .bin .lss (.t 8) (.c (.int Go.IntKind.i64 0)), none⟩])
     (.cond (.t 9)
      (.seq (.region [⟨some 2, .mov (.c (.int Go.IntKind.i64 1)), none⟩])
       (.ret))
      (.skip)))
    (.seq (.seq (.region [⟨some 10, .faddr 1 (.t 1), none⟩,
         ⟨some 11, .load false 1 (.t 10), none⟩,
         ⟨some 12, .bin .gtr (.t 11) (.c (.int Go.IntKind.i64 64)), none⟩,
         ⟨some 13, .mov (.t 12), none⟩,
         ⟨some 14, .faddr 4 (.t 1), some (13, false)⟩,
         ⟨some 15, .load false 1 (.t 14), some (13, false)⟩,
         ⟨some 16, .len (.t 15), some (13, false)⟩,
         ⟨some 17, .bin .gtr (.t 16) (.c (.int Go.IntKind.i64 512)), some (13, false)⟩,
         ⟨some 18, .pick (.t 13) (.c (.bool true)) (.t 17), none⟩])
      (.cond (.t 18)
       (.seq (.region [⟨some 2, .mov (.c (.int Go.IntKind.i64 4)), none⟩])
        (.ret))
       (.skip)))
     (.seq (.seq (.region [⟨some 19, .faddr 2 (.t 1), none⟩,
          ⟨some 20, .load false 1 (.t 19), none⟩,
          ⟨some 21, .faddr 1 (.t 1), none⟩,
          ⟨some 22, .load false 1 (.t 21), none⟩,
          ⟨some 23, .call 51 [(.t 20), (.t 22)], none⟩,
          ⟨some 24, .un .not (.t 23), none⟩,
          ⟨some 25, .mov (.t 24), none⟩,
          ⟨some 26, .faddr 3 (.t 1), some (25, false)⟩,
          ⟨some 27, .load false 1 (.t 26), some (25, false)⟩,
          ⟨some 28, .faddr 1 (.t 1), some (25, false)⟩,
          ⟨some 29, .load false 1 (.t 28), some (25, false)⟩,
          ⟨some 30, .call 51 [(.t 27), (.t 29)], some (25, false)⟩,
          ⟨some 31, .un .not (.t 30), some (25, false)⟩,
          ⟨some 32, .pick (.t 25) (.c (.bool true)) (.t 31), none⟩])
       (.cond (.t 32)
        (.seq (.region [⟨some 2, .mov (.c (.int Go.IntKind.i64 8)), none⟩])
         (.ret))
        (.skip)))
      (.seq (.region [⟨some 33, .faddr 4 (.t 1), none⟩,
          ⟨some 34, .load false 1 (.t 33), none⟩,
          ⟨some 35, .faddr 0 (.t 1), none⟩,
          ⟨some 36, .load false 1 (.t 35), none⟩,
          ⟨some 37, .faddr 1 (.t 1), none⟩,
          ⟨some 38, .load false 1 (.t 37), none⟩,
          ⟨some 39, .call 52 [(.t 34), (.t 36), (.t 38)], none⟩,
          ⟨some 2, .mov (.t 39), none⟩])
       (.ret)))))),
  [.tmp 2]⟩

def a19l0b : ACode :=
  .seq (.seq (.region [⟨some 9, .mov (.t 5), none⟩,
      ⟨some 10, .mov (.t 0), none⟩,
      ⟨some 11, .len (.t 10), none⟩,
      ⟨some 12, .bin .lss (.t 9) (.t 11), none⟩])
   (.cond (.t 12)
    (.skip)
    (.exit 0)))
  (.seq (.block 1 (.seq (.draw 7 [⟨some 15, .mov (.t 0), none⟩,
        ⟨some 16, .mov (.t 5), none⟩,
        ⟨some 17, .iaddr 1 (.t 15) (.t 16), none⟩,
        ⟨some 18, .load false 1 (.t 17), none⟩,
        ⟨some 19, .conv Go.IntKind.i64 (.t 18), none⟩,
        ⟨some 20, .mov (.t 1), none⟩,
        ⟨some 21, .call 37 [(.t 20)], none⟩,
        ⟨some 22, .bin .geq (.t 19) (.t 21), none⟩])
     (.cond (.t 22)
      (.seq (.region [⟨some 4, .mov (.c (.int Go.IntKind.i64 1)), none⟩])
       (.ret))
      (.skip))))
   (.region [⟨some 13, .mov (.t 5), none⟩,
      ⟨some 14, .bin .add (.t 13) (.c (.int Go.IntKind.i64 1)), none⟩,
      ⟨some 5, .mov (.t 14), none⟩]))

def a19l0 : ACode := a19l0b
def a19l0s : List Nat := [2, 3, 6, 7, 8, 9, 10, 11, 12, 13, 14, 15, 16, 17, 18, 19, 20, 21, 22]
abbrev a19l0F (s0 s1 s4 s5 : AV) : List AV := [s0, s1, .any, .any, s4, s5, .any, .any, .any, .any, .any, .any, .any, .any, .any, .any, .any, .any, .any, .any, .any, .any, .any]
theorem a19l0c (s0 s1 s2 s3 s4 s5 s6 s7 s8 s9 s10 s11 s12 s13 s14 s15 s16 s17 s18 s19 s20 s21 s22 : AV) : clearA a19l0s [s0, s1, s2, s3, s4, s5, s6, s7, s8, s9, s10, s11, s12, s13, s14, s15, s16, s17, s18, s19, s20, s21, s22] = a19l0F s0 s1 s4 s5 := by kernel_rfl
theorem a19l0n {prog : Nat → Option AFunc} (s0 s1 s4 s5 : AV) (H : Heap) : (lim prog).loop a19l0s a19l0 ⟨a19l0F s0 s1 s4 s5, H⟩ = loopK (lim prog) a19l0s a19l0 (run (lim prog) a19l0b ⟨a19l0F s0 s1 s4 s5, H⟩) := lim_loop_step _ _ _ _ (by kernel_rfl)

/-- sentinel/sentinelref06.Word -/
def a19 : AFunc := ⟨23,
  .seq (.region [⟨some 4, .mov (.c (.int Go.IntKind.i64 0)), none⟩])
  (.seq (.seq (.region [⟨some 6, .mov (.t 0), none⟩,
       ⟨some 7, .len (.t 6), none⟩,
       ⟨some 8, .bin .gtr (.t 7) (.c (.int Go.IntKind.i64 64)), none⟩])
    (.cond (.t 8)
     (.seq (.region [⟨some 4, .mov (.c (.int Go.IntKind.i64 4)), none⟩])
      (.ret))
     (.skip)))
   (.seq (.seq (.region [⟨some 5, .mov (.c (.int Go.IntKind.i64 0)), none⟩])
     (.block 0 (.loop a19l0s a19l0)))
    (.seq (.region [⟨some 4, .mov (.c (.int Go.IntKind.i64 0)), none⟩])
     (.ret)))),
  [.tmp 4]⟩

def a20l0b : ACode :=
  .seq (.seq (.region [⟨some 17, .mov (.t 9), none⟩,
      ⟨some 18, .faddr 4 (.t 3), none⟩,
      ⟨some 19, .load false 1 (.t 18), none⟩,
      ⟨some 20, .len (.t 19), none⟩,
      ⟨some 21, .bin .lss (.t 17) (.t 20), none⟩])
   (.cond (.t 21)
    (.skip)
    (.exit 2)))
  (.seq (.block 3 (.seq (.region [⟨some 24, .faddr 4 (.t 3), none⟩,
        ⟨some 25, .load false 1 (.t 24), none⟩,
        ⟨some 26, .mov (.t 9), none⟩,
        ⟨some 27, .iaddr 4 (.t 25) (.t 26), none⟩,
        ⟨some 28, .load true 4 (.t 27), none⟩,
        ⟨some 10, .box (.c (.agg [.int Go.IntKind.i64 0, .int Go.IntKind.i64 0, .int Go.IntKind.u8 0, .int Go.IntKind.u8 0])), none⟩,
        ⟨none, .store 4 (.t 10) (.t 28), none⟩])
     (.seq (.region [⟨some 29, .faddr 1 (.t 10), none⟩,
         ⟨some 30, .load false 1 (.t 29), none⟩,
         ⟨some 31, .mov (.t 8), none⟩,
         ⟨some 32, .bin .eql (.t 30) (.t 31), none⟩,
         ⟨some 33, .mov (.t 32), none⟩,
         ⟨some 34, .mov (.t 1), some (33, true)⟩,
         ⟨some 35, .faddr 0 (.t 10), some (33, true)⟩,
         ⟨some 36, .load false 1 (.t 35), some (33, true)⟩,
         ⟨some 37, .call 53 [(.t 34), (.t 36)], some (33, true)⟩,
         ⟨some 38, .pick (.t 33) (.t 37) (.c (.bool false)), none⟩,
         ⟨some 39, .mov (.t 38), none⟩,
         ⟨some 40, .mov (.t 2), some (39, true)⟩,
         ⟨some 41, .faddr 2 (.t 10), some (39, true)⟩,
         ⟨some 42, .load false 1 (.t 41), some (39, true)⟩,
         ⟨some 43, .faddr 3 (.t 10), some (39, true)⟩,
         ⟨some 44, .load false 1 (.t 43), some (39, true)⟩,
         ⟨some 45, .call 54 [(.t 40), (.t 42), (.t 44)], some (39, true)⟩,
         ⟨some 46, .pick (.t 39) (.t 45) (.c (.bool false)), none⟩,
         ⟨some 47, .mov (.t 46), none⟩,
         ⟨some 48, .mov (.t 7), some (47, true)⟩,
         ⟨some 49, .mov (.t 8), some (47, true)⟩,
         ⟨some 50, .call 53 [(.t 48), (.t 49)], some (47, true)⟩,
         ⟨some 51, .un .not (.t 50), some (47, true)⟩,
         ⟨some 52, .pick (.t 47) (.t 51) (.c (.bool false)), none⟩])
      (.cond (.t 52)
       (.region [⟨some 53, .mov (.t 7), none⟩,
          ⟨some 54, .mov (.t 8), none⟩,
          ⟨some 55, .bslice true [.int Go.IntKind.i64 0] 1 1 [(0, (.t 54))], none⟩,
          ⟨some 56, .append false 1 8 (.t 53) (.t 55), none⟩,
          ⟨some 7, .mov (.t 56), none⟩])
       (.skip)))))
   (.region [⟨some 22, .mov (.t 9), none⟩,
      ⟨some 23, .bin .add (.t 22) (.c (.int Go.IntKind.i64 1)), none⟩,
      ⟨some 9, .mov (.t 23), none⟩]))

def a20l0 : ACode := a20l0b
def a20l0s : List Nat := [0, 4, 5, 6, 10, 11, 12, 13, 14, 15, 16, 17, 18, 19, 20, 21, 22, 23, 24, 25, 26, 27, 28, 29, 30, 31, 32, 33, 34, 35, 36, 37, 38, 39, 40, 41, 42, 43, 44, 45, 46, 47, 48, 49, 50, 51, 52, 53, 54, 55, 56, 57]
abbrev a20l0F (s1 s2 s3 s7 s8 s9 : AV) : List AV := [.any, s1, s2, s3, .any, .any, .any, s7, s8, s9, .any, .any, .any, .any, .any, .any, .any, .any, .any, .any, .any, .any, .any, .any, .any, .any, .any, .any, .any, .any, .any, .any, .any, .any, .any, .any, .any, .any, .any, .any, .any, .any, .any, .any, .any, .any, .any, .any, .any, .any, .any, .any, .any, .any, .any, .any, .any, .any]
theorem a20l0c (s0 s1 s2 s3 s4 s5 s6 s7 s8 s9 s10 s11 s12 s13 s14 s15 s16 s17 s18 s19 s20 s21 s22 s23 s24 s25 s26 s27 s28 s29 s30 s31 s32 s33 s34 s35 s36 s37 s38 s39 s40 s41 s42 s43 s44 s45 s46 s47 s48 s49 s50 s51 s52 s53 s54 s55 s56 s57 : AV) : clearA a20l0s [s0, s1, s2, s3, s4, s5, s6, s7, s8, s9, s10, s11, s12, s13, s14, s15, s16, s17, s18, s19, s20, s21, s22, s23, s24, s25, s26, s27, s28, s29, s30, s31, s32, s33, s34, s35, s36, s37, s38, s39, s40, s41, s42, s43, s44, s45, s46, s47, s48, s49, s50, s51, s52, s53, s54, s55, s56, s57] = a20l0F s1 s2 s3 s7 s8 s9 := by kernel_rfl
theorem a20l0n {prog : Nat → Option AFunc} (s1 s2 s3 s7 s8 s9 : AV) (H : Heap) : (lim prog).loop a20l0s a20l0 ⟨a20l0F s1 s2 s3 s7 s8 s9, H⟩ = loopK (lim prog) a20l0s a20l0 (run (lim prog) a20l0b ⟨a20l0F s1 s2 s3 s7 s8 s9, H⟩) := lim_loop_step _ _ _ _ (by kernel_rfl)

def a20l1b : ACode :=
  .seq (.seq (.region [⟨some 11, .mov (.t 8), none⟩,
      ⟨some 12, .faddr 1 (.t 3), none⟩,
      ⟨some 13, .load false 1 (.t 12), none⟩,
      ⟨some 14, .bin .lss (.t 11) (.t 13), none⟩])
   (.cond (.t 14)
    (.skip)
    (.exit 0)))
  (.seq (.block 1 (.seq (.region [⟨some 9, .mov (.c (.int Go.IntKind.i64 0)), none⟩])
     (.block 2 (.loop a20l0s a20l0))))
   (.region [⟨some 15, .mov (.t 8), none⟩,
      ⟨some 16, .bin .add (.t 15) (.c (.int Go.IntKind.i64 1)), none⟩,
      ⟨some 8, .mov (.t 16), none⟩]))

def a20l1 : ACode := a20l1b
def a20l1s : List Nat := [0, 4, 5, 6, 9, 10, 11, 12, 13, 14, 15, 16, 17, 18, 19, 20, 21, 22, 23, 24, 25, 26, 27, 28, 29, 30, 31, 32, 33, 34, 35, 36, 37, 38, 39, 40, 41, 42, 43, 44, 45, 46, 47, 48, 49, 50, 51, 52, 53, 54, 55, 56, 57]
abbrev a20l1F (s1 s2 s3 s7 s8 : AV) : List AV := [.any, s1, s2, s3, .any, .any, .any, s7, s8, .any, .any, .any, .any, .any, .any, .any, .any, .any, .any, .any, .any, .any, .any, .any, .any, .any, .any, .any, .any, .any, .any, .any, .any, .any, .any, .any, .any, .any, .any, .any, .any, .any, .any, .any, .any, .any, .any, .any, .any, .any, .any, .any, .any, .any, .any, .any, .any, .any]
theorem a20l1c (s0 s1 s2 s3 s4 s5 s6 s7 s8 s9 s10 s11 s12 s13 s14 s15 s16 s17 s18 s19 s20 s21 s22 s23 s24 s25 s26 s27 s28 s29 s30 s31 s32 s33 s34 s35 s36 s37 s38 s39 s40 s41 s42 s43 s44 s45 s46 s47 s48 s49 s50 s51 s52 s53 s54 s55 s56 s57 : AV) : clearA a20l1s [s0, s1, s2, s3, s4, s5, s6, s7, s8, s9, s10, s11, s12, s13, s14, s15, s16, s17, s18, s19, s20, s21, s22, s23, s24, s25, s26, s27, s28, s29, s30, s31, s32, s33, s34, s35, s36, s37, s38, s39, s40, s41, s42, s43, s44, s45, s46, s47, s48, s49, s50, s51, s52, s53, s54, s55, s56, s57] = a20l1F s1 s2 s3 s7 s8 := by kernel_rfl
theorem a20l1n {prog : Nat → Option AFunc} (s1 s2 s3 s7 s8 : AV) (H : Heap) : (lim prog).loop a20l1s a20l1 ⟨a20l1F s1 s2 s3 s7 s8, H⟩ = loopK (lim prog) a20l1s a20l1 (run (lim prog) a20l1b ⟨a20l1F s1 s2 s3 s7 s8, H⟩) := lim_loop_step _ _ _ _ (by kernel_rfl)

/-- sentinel/sentinelref06.After -/
def a20 : AFunc := ⟨58,
  .seq (.region [⟨some 3, .box (.t 0), none⟩,
     ⟨some 6, .mov (.c (.sl true 0 [])), none⟩])
  (.seq (.region [⟨some 7, .mov (.c (.sl true 0 [])), none⟩])
   (.seq (.seq (.region [⟨some 8, .mov (.c (.int Go.IntKind.i64 0)), none⟩])
     (.block 0 (.loop a20l1s a20l1)))
    (.seq (.region [⟨some 57, .mov (.t 7), none⟩,
        ⟨some 6, .mov (.t 57), none⟩])
     (.ret)))),
  [.tmp 6]⟩

def a21l0b : ACode :=
  .seq (.seq (.region [⟨some 16, .mov (.t 5), none⟩,
      ⟨some 17, .bin .lss (.t 16) (.c (.int Go.IntKind.i64 64)), none⟩])
   (.cond (.t 17)
    (.skip)
    (.exit 2)))
  (.seq (.block 3 (.seq (.region [⟨some 20, .mov (.t 0), none⟩,
        ⟨some 21, .mov (.t 4), none⟩,
        ⟨some 22, .iaddr 1 (.t 20) (.t 21), none⟩,
        ⟨some 23, .load false 1 (.t 22), none⟩,
        ⟨some 24, .mov (.t 5), none⟩,
        ⟨some 25, .conv Go.IntKind.u64 (.t 24), none⟩,
        ⟨some 26, .bin .shr (.t 23) (.t 25), none⟩,
        ⟨some 27, .bin .rem (.t 26) (.c (.int Go.IntKind.u64 2)), none⟩,
        ⟨some 28, .bin .eql (.t 27) (.c (.int Go.IntKind.u64 1)), none⟩])
     (.cond (.t 28)
      (.region [⟨some 29, .mov (.t 3), none⟩,
         ⟨some 30, .mov (.t 4), none⟩,
         ⟨some 31, .bin .mul (.c (.int Go.IntKind.i64 64)) (.t 30), none⟩,
         ⟨some 32, .mov (.t 5), none⟩,
         ⟨some 33, .bin .add (.t 31) (.t 32), none⟩,
         ⟨some 34, .bslice true [.int Go.IntKind.i64 0] 1 1 [(0, (.t 33))], none⟩,
         ⟨some 35, .append false 1 8 (.t 29) (.t 34), none⟩,
         ⟨some 3, .mov (.t 35), none⟩])
      (.skip))))
   (.region [⟨some 18, .mov (.t 5), none⟩,
      ⟨some 19, .bin .add (.t 18) (.c (.int Go.IntKind.i64 1)), none⟩,
      ⟨some 5, .mov (.t 19), none⟩]))

def a21l0 : ACode := a21l0b
def a21l0s : List Nat := [1, 2, 6, 7, 8, 9, 10, 11, 12, 13, 14, 15, 16, 17, 18, 19, 20, 21, 22, 23, 24, 25, 26, 27, 28, 29, 30, 31, 32, 33, 34, 35, 36]
abbrev a21l0F (s0 s3 s4 s5 : AV) : List AV := [s0, .any, .any, s3, s4, s5, .any, .any, .any, .any, .any, .any, .any, .any, .any, .any, .any, .any, .any, .any, .any, .any, .any, .any, .any, .any, .any, .any, .any, .any, .any, .any, .any, .any, .any, .any, .any]
theorem a21l0c (s0 s1 s2 s3 s4 s5 s6 s7 s8 s9 s10 s11 s12 s13 s14 s15 s16 s17 s18 s19 s20 s21 s22 s23 s24 s25 s26 s27 s28 s29 s30 s31 s32 s33 s34 s35 s36 : AV) : clearA a21l0s [s0, s1, s2, s3, s4, s5, s6, s7, s8, s9, s10, s11, s12, s13, s14, s15, s16, s17, s18, s19, s20, s21, s22, s23, s24, s25, s26, s27, s28, s29, s30, s31, s32, s33, s34, s35, s36] = a21l0F s0 s3 s4 s5 := by kernel_rfl
theorem a21l0n {prog : Nat → Option AFunc} (s0 s3 s4 s5 : AV) (H : Heap) : (lim prog).loop a21l0s a21l0 ⟨a21l0F s0 s3 s4 s5, H⟩ = loopK (lim prog) a21l0s a21l0 (run (lim prog) a21l0b ⟨a21l0F s0 s3 s4 s5, H⟩) := lim_loop_step _ _ _ _ (by kernel_rfl)

def a21l1b : ACode :=
  .seq (.seq (.region [⟨some 6, .mov (.t 4), none⟩,
      ⟨some 7, .mov (.t 0), none⟩,
      ⟨some 8, .len (.t 7), none⟩,
      ⟨some 9, .bin .lss (.t 6) (.t 8), none⟩,
      ⟨some 10, .mov (.t 9), none⟩,
      ⟨some 11, .mov (.t 4), some (10, true)⟩,
      ⟨some 12, .bin .lss (.t 11) (.c (.int Go.IntKind.i64 64)), some (10, true)⟩,
      ⟨some 13, .pick (.t 10) (.t 12) (.c (.bool false)), none⟩])
   (.cond (.t 13)
    (.skip)
    (.exit 0)))
  (.seq (.block 1 (.seq (.region [⟨some 5, .mov (.c (.int Go.IntKind.i64 0)), none⟩])
     (.block 2 (.loop a21l0s a21l0))))
   (.region [⟨some 14, .mov (.t 4), none⟩,
      ⟨some 15, .bin .add (.t 14) (.c (.int Go.IntKind.i64 1)), none⟩,
      ⟨some 4, .mov (.t 15), none⟩]))

def a21l1 : ACode := a21l1b
def a21l1s : List Nat := [1, 2, 5, 6, 7, 8, 9, 10, 11, 12, 13, 14, 15, 16, 17, 18, 19, 20, 21, 22, 23, 24, 25, 26, 27, 28, 29, 30, 31, 32, 33, 34, 35, 36]
abbrev a21l1F (s0 s3 s4 : AV) : List AV := [s0, .any, .any, s3, s4, .any, .any, .any, .any, .any, .any, .any, .any, .any, .any, .any, .any, .any, .any, .any, .any, .any, .any, .any, .any, .any, .any, .any, .any, .any, .any, .any, .any, .any, .any, .any, .any]
theorem a21l1c (s0 s1 s2 s3 s4 s5 s6 s7 s8 s9 s10 s11 s12 s13 s14 s15 s16 s17 s18 s19 s20 s21 s22 s23 s24 s25 s26 s27 s28 s29 s30 s31 s32 s33 s34 s35 s36 : AV) : clearA a21l1s [s0, s1, s2, s3, s4, s5, s6, s7, s8, s9, s10, s11, s12, s13, s14, s15, s16, s17, s18, s19, s20, s21, s22, s23, s24, s25, s26, s27, s28, s29, s30, s31, s32, s33, s34, s35, s36] = a21l1F s0 s3 s4 := by kernel_rfl
theorem a21l1n {prog : Nat → Option AFunc} (s0 s3 s4 : AV) (H : Heap) : (lim prog).loop a21l1s a21l1 ⟨a21l1F s0 s3 s4, H⟩ = loopK (lim prog) a21l1s a21l1 (run (lim prog) a21l1b ⟨a21l1F s0 s3 s4, H⟩) := lim_loop_step _ _ _ _ (by kernel_rfl)

/-- sentinel/sentinelref01.List -/
def a21 : AFunc := ⟨37,
  .seq (.region [⟨some 2, .mov (.c (.sl true 0 [])), none⟩])
  (.seq (.region [⟨some 3, .mov (.c (.sl true 0 [])), none⟩])
   (.seq (.seq (.region [⟨some 4, .mov (.c (.int Go.IntKind.i64 0)), none⟩])
     (.block 0 (.loop a21l1s a21l1)))
    (.seq (.region [⟨some 36, .mov (.t 3), none⟩,
        ⟨some 2, .mov (.t 36), none⟩])
     (.ret)))),
  [.tmp 2]⟩

def a22l0b : ACode :=
  .seq (.seq (.region [⟨some 10, .mov (.t 6), none⟩,
      ⟨some 11, .mov (.t 1), none⟩,
      ⟨some 12, .len (.t 11), none⟩,
      ⟨some 13, .bin .lss (.t 10) (.t 12), none⟩])
   (.cond (.t 13)
    (.skip)
    (.exit 0)))
  (.seq (.block 1 (.draw 6 [⟨some 16, .load true 5 (.t 2), none⟩,
       ⟨some 17, .mov (.t 5), none⟩,
       ⟨some 18, .mov (.t 1), none⟩,
       ⟨some 19, .mov (.t 6), none⟩,
       ⟨some 20, .iaddr 1 (.t 18) (.t 19), none⟩,
       ⟨some 21, .load false 1 (.t 20), none⟩,
       ⟨some 22, .call 20 [(.t 16), (.t 17), (.t 21)], none⟩,
       ⟨some 5, .mov (.t 22), none⟩]))
   (.region [⟨some 14, .mov (.t 6), none⟩,
      ⟨some 15, .bin .add (.t 14) (.c (.int Go.IntKind.i64 1)), none⟩,
      ⟨some 6, .mov (.t 15), none⟩]))

def a22l0 : ACode := a22l0b
def a22l0s : List Nat := [0, 3, 4, 7, 8, 9, 10, 11, 12, 13, 14, 15, 16, 17, 18, 19, 20, 21, 22, 23]
abbrev a22l0F (s1 s2 s5 s6 : AV) : List AV := [.any, s1, s2, .any, .any, s5, s6, .any, .any, .any, .any, .any, .any, .any, .any, .any, .any, .any, .any, .any, .any, .any, .any, .any]
theorem a22l0c (s0 s1 s2 s3 s4 s5 s6 s7 s8 s9 s10 s11 s12 s13 s14 s15 s16 s17 s18 s19 s20 s21 s22 s23 : AV) : clearA a22l0s [s0, s1, s2, s3, s4, s5, s6, s7, s8, s9, s10, s11, s12, s13, s14, s15, s16, s17, s18, s19, s20, s21, s22, s23] = a22l0F s1 s2 s5 s6 := by kernel_rfl
theorem a22l0n {prog : Nat → Option AFunc} (s1 s2 s5 s6 : AV) (H : Heap) : (lim prog).loop a22l0s a22l0 ⟨a22l0F s1 s2 s5 s6, H⟩ = loopK (lim prog) a22l0s a22l0 (run (lim prog) a22l0b ⟨a22l0F s1 s2 s5 s6, H⟩) := lim_loop_step _ _ _ _ (by kernel_rfl)

/-- sentinel/sentinelref06.Run -/
def a22 : AFunc := ⟨24,
  .seq (.region [⟨some 2, .box (.t 0), none⟩,
     ⟨some 4, .mov (.c (.sl true 0 [])), none⟩])
  (.seq (.region [⟨some 7, .faddr 2 (.t 2), none⟩,
      ⟨some 8, .load false 1 (.t 7), none⟩,
      ⟨some 9, .call 34 [(.t 8)], none⟩,
      ⟨some 5, .mov (.t 9), none⟩])
   (.seq (.seq (.region [⟨some 6, .mov (.c (.int Go.IntKind.i64 0)), none⟩])
     (.block 0 (.loop a22l0s a22l0)))
    (.seq (.region [⟨some 23, .mov (.t 5), none⟩,
        ⟨some 4, .mov (.t 23), none⟩])
     (.ret)))),
  [.tmp 4]⟩

def a23l0b : ACode :=
  .seq (.seq (.region [⟨some 23, .mov (.t 8), none⟩,
      ⟨some 24, .mov (.t 7), none⟩,
      ⟨some 25, .len (.t 24), none⟩,
      ⟨some 26, .bin .lss (.t 23) (.t 25), none⟩])
   (.cond (.t 26)
    (.skip)
    (.exit 0)))
  (.seq (.block 1 (.seq (.draw 6 [⟨some 29, .faddr 3 (.t 2), none⟩,
        ⟨some 30, .load false 1 (.t 29), none⟩,
        ⟨some 31, .mov (.t 7), none⟩,
        ⟨some 32, .mov (.t 8), none⟩,
        ⟨some 33, .iaddr 1 (.t 31) (.t 32), none⟩,
        ⟨some 34, .load false 1 (.t 33), none⟩,
        ⟨some 35, .call 53 [(.t 30), (.t 34)], none⟩])
     (.cond (.t 35)
      (.seq (.region [⟨some 4, .mov (.c (.bool true)), none⟩,
          ⟨some 5, .mov (.c (.int Go.IntKind.i64 0)), none⟩])
       (.ret))
      (.skip))))
   (.region [⟨some 27, .mov (.t 8), none⟩,
      ⟨some 28, .bin .add (.t 27) (.c (.int Go.IntKind.i64 1)), none⟩,
      ⟨some 8, .mov (.t 28), none⟩]))

def a23l0 : ACode := a23l0b
def a23l0s : List Nat := [0, 1, 3, 6, 9, 10, 11, 12, 13, 14, 15, 16, 17, 18, 19, 20, 21, 22, 23, 24, 25, 26, 27, 28, 29, 30, 31, 32, 33, 34, 35]
abbrev a23l0F (s2 s4 s5 s7 s8 : AV) : List AV := [.any, .any, s2, .any, s4, s5, .any, s7, s8, .any, .any, .any, .any, .any, .any, .any, .any, .any, .any, .any, .any, .any, .any, .any, .any, .any, .any, .any, .any, .any, .any, .any, .any, .any, .any, .any]
theorem a23l0c (s0 s1 s2 s3 s4 s5 s6 s7 s8 s9 s10 s11 s12 s13 s14 s15 s16 s17 s18 s19 s20 s21 s22 s23 s24 s25 s26 s27 s28 s29 s30 s31 s32 s33 s34 s35 : AV) : clearA a23l0s [s0, s1, s2, s3, s4, s5, s6, s7, s8, s9, s10, s11, s12, s13, s14, s15, s16, s17, s18, s19, s20, s21, s22, s23, s24, s25, s26, s27, s28, s29, s30, s31, s32, s33, s34, s35] = a23l0F s2 s4 s5 s7 s8 := by kernel_rfl
theorem a23l0n {prog : Nat → Option AFunc} (s2 s4 s5 s7 s8 : AV) (H : Heap) : (lim prog).loop a23l0s a23l0 ⟨a23l0F s2 s4 s5 s7 s8, H⟩ = loopK (lim prog) a23l0s a23l0 (run (lim prog) a23l0b ⟨a23l0F s2 s4 s5 s7 s8, H⟩) := lim_loop_step _ _ _ _ (by kernel_rfl)

/-- sentinel/sentinelref06.Accepts -/
def a23 : AFunc := ⟨36,
  .seq (.region [⟨some 2, .box (.t 0), none⟩,
     ⟨some 4, .mov (.c (.bool false)), none⟩,
     ⟨some 5, .mov (.c (.int Go.IntKind.i64 0)), none⟩])
  (.seq (.region [⟨some 9, .load true 5 (.t 2), none⟩,
      ⟨some 10, .call 18 [(.t 9)], none⟩,
      ⟨some 6, .mov (.t 10), none⟩])
   (.seq (.seq (.region [⟨some 11, .mov (.t 6), none⟩,
        ⟨some 12, .bin .eql (.t 11) (.c (.int Go.IntKind.i64 0)), none⟩])
     (.cond (.t 12)
      (.region [⟨some 13, .mov (.t 1), none⟩,
         ⟨some 14, .faddr 0 (.t 2), none⟩,
         ⟨some 15, .load false 1 (.t 14), none⟩,
         ⟨some 16, .call 19 [(.t 13), (.t 15)], none⟩,
         ⟨some 6, .mov (.t 16), none⟩])
      (.skip)))
    (.seq (.seq (.region [⟨some 17, .mov (.t 6), none⟩,
         ⟨some 18, .bin .neq (.t 17) (.c (.int Go.IntKind.i64 0)), none⟩])
      (.cond (.t 18)
       (.seq (.region [⟨some 19, .mov (.t 6), none⟩,
           ⟨some 4, .mov (.c (.bool false)), none⟩,
           ⟨some 5, .mov (.t 19), none⟩])
        (.ret))
       (.skip)))
     (.seq (.region [⟨some 20, .load true 5 (.t 2), none⟩,
         ⟨some 21, .mov (.t 1), none⟩,
         ⟨some 22, .call 22 [(.t 20), (.t 21)], none⟩,
         ⟨some 7, .mov (.t 22), none⟩])
      (.seq (.seq (.region [⟨some 8, .mov (.c (.int Go.IntKind.i64 0)), none⟩])
        (.block 0 (.loop a23l0s a23l0)))
       (.seq (.region [⟨some 4, .mov (.c (.bool false)), none⟩,
           ⟨some 5, .mov (.c (.int Go.IntKind.i64 0)), none⟩])
        (.ret))))))),
  [.tmp 4, .tmp 5]⟩

/-- sentinel/nfa.After -/
def a24 : AFunc := ⟨24,
  .seq (.region [⟨some 3, .box (.t 0), none⟩,
     ⟨some 6, .mov (.c (.sl true 0 [])), none⟩,
     ⟨some 7, .mov (.c (.int Go.IntKind.i64 0)), none⟩])
  (.seq (.region [⟨some 9, .load true 5 (.t 3), none⟩,
      ⟨some 10, .call 11 [(.t 9)], none⟩,
      ⟨some 8, .mov (.t 10), none⟩])
   (.seq (.seq (.region [⟨some 11, .mov (.t 8), none⟩,
        ⟨some 12, .bin .eql (.t 11) (.c (.int Go.IntKind.i64 0)), none⟩])
     (.cond (.t 12)
      (.region [⟨some 13, .load true 5 (.t 3), none⟩,
         ⟨some 14, .mov (.t 2), none⟩,
         ⟨some 15, .bslice true [.int Go.IntKind.u8 0] 1 1 [(0, (.t 14))], none⟩,
         ⟨some 16, .call 55 [(.t 13), (.t 15)], none⟩,
         ⟨some 8, .mov (.t 16), none⟩])
      (.skip)))
    (.seq (.seq (.region [⟨some 17, .mov (.t 8), none⟩,
         ⟨some 18, .bin .neq (.t 17) (.c (.int Go.IntKind.i64 0)), none⟩])
      (.cond (.t 18)
       (.seq (.region [⟨some 19, .mov (.t 8), none⟩,
           ⟨some 6, .mov (.c (.sl true 0 [])), none⟩,
           ⟨some 7, .mov (.t 19), none⟩])
        (.ret))
       (.skip)))
     (.seq (.region [⟨some 20, .load true 5 (.t 3), none⟩,
         ⟨some 21, .mov (.t 1), none⟩,
         ⟨some 22, .mov (.t 2), none⟩,
         ⟨some 23, .ocall 56 [(.t 20), (.t 21), (.t 22)], none⟩,
         ⟨some 6, .mov (.t 23), none⟩,
         ⟨some 7, .mov (.c (.int Go.IntKind.i64 0)), none⟩])
      (.ret))))),
  [.tmp 6, .tmp 7]⟩

def a25l0b : ACode :=
  .seq (.region [⟨some 26, .bin .lss (.t 25) (.t 24), none⟩])
  (.seq (.cond (.t 26)
    (.skip)
    (.exit 0))
   (.seq (.block 1 (.seq (.region [⟨some 27, .iaddr 1 (.t 23) (.t 25), none⟩,
         ⟨some 28, .load false 1 (.t 27), none⟩,
         ⟨some 9, .mov (.t 28), none⟩])
      (.region [⟨some 29, .load true 5 (.t 2), none⟩,
         ⟨some 30, .mov (.t 7), none⟩,
         ⟨some 31, .mov (.t 9), none⟩,
         ⟨some 32, .ocall 56 [(.t 29), (.t 30), (.t 31)], none⟩,
         ⟨some 7, .mov (.t 32), none⟩])))
    (.region [⟨some 33, .bin .add (.t 25) (.c (.int Go.IntKind.i64 1)), none⟩,
       ⟨some 25, .mov (.t 33), none⟩])))

def a25l0 : ACode := a25l0b
def a25l0s : List Nat := [0, 1, 3, 4, 5, 6, 8, 9, 10, 11, 12, 13, 14, 15, 16, 17, 18, 19, 20, 21, 22, 26, 27, 28, 29, 30, 31, 32, 33, 34]
abbrev a25l0F (s2 s7 s23 s24 s25 : AV) : List AV := [.any, .any, s2, .any, .any, .any, .any, s7, .any, .any, .any, .any, .any, .any, .any, .any, .any, .any, .any, .any, .any, .any, .any, s23, s24, s25, .any, .any, .any, .any, .any, .any, .any, .any, .any]
theorem a25l0c (s0 s1 s2 s3 s4 s5 s6 s7 s8 s9 s10 s11 s12 s13 s14 s15 s16 s17 s18 s19 s20 s21 s22 s23 s24 s25 s26 s27 s28 s29 s30 s31 s32 s33 s34 : AV) : clearA a25l0s [s0, s1, s2, s3, s4, s5, s6, s7, s8, s9, s10, s11, s12, s13, s14, s15, s16, s17, s18, s19, s20, s21, s22, s23, s24, s25, s26, s27, s28, s29, s30, s31, s32, s33, s34] = a25l0F s2 s7 s23 s24 s25 := by kernel_rfl
theorem a25l0n {prog : Nat → Option AFunc} (s2 s7 s23 s24 s25 : AV) (H : Heap) : (lim prog).loop a25l0s a25l0 ⟨a25l0F s2 s7 s23 s24 s25, H⟩ = loopK (lim prog) a25l0s a25l0 (run (lim prog) a25l0b ⟨a25l0F s2 s7 s23 s24 s25, H⟩) := lim_loop_step _ _ _ _ (by kernel_rfl)

/-- sentinel/nfa.Run -/
def a25 : AFunc := ⟨35,
  .seq (.region [⟨some 2, .box (.t 0), none⟩,
     ⟨some 4, .mov (.c (.sl true 0 [])), none⟩,
     ⟨some 5, .mov (.c (.int Go.IntKind.i64 0)), none⟩])
  (.seq (.region [⟨some 10, .load true 5 (.t 2), none⟩,
      ⟨some 11, .call 11 [(.t 10)], none⟩,
      ⟨some 6, .mov (.t 11), none⟩])
   (.seq (.seq (.region [⟨some 12, .mov (.t 6), none⟩,
        ⟨some 13, .bin .eql (.t 12) (.c (.int Go.IntKind.i64 0)), none⟩])
     (.cond (.t 13)
      (.region [⟨some 14, .load true 5 (.t 2), none⟩,
         ⟨some 15, .mov (.t 1), none⟩,
         ⟨some 16, .call 55 [(.t 14), (.t 15)], none⟩,
         ⟨some 6, .mov (.t 16), none⟩])
      (.skip)))
    (.seq (.seq (.region [⟨some 17, .mov (.t 6), none⟩,
         ⟨some 18, .bin .neq (.t 17) (.c (.int Go.IntKind.i64 0)), none⟩])
      (.cond (.t 18)
       (.seq (.region [⟨some 19, .mov (.t 6), none⟩,
           ⟨some 4, .mov (.c (.sl true 0 [])), none⟩,
           ⟨some 5, .mov (.t 19), none⟩])
        (.ret))
       (.skip)))
     (.seq (.region [⟨some 20, .faddr 2 (.t 2), none⟩,
         ⟨some 21, .load false 1 (.t 20), none⟩,
         ⟨some 22, .ocall 33 [(.t 21)], none⟩,
         ⟨some 7, .mov (.t 22), none⟩])
      (.seq (.seq (.region [⟨some 23, .mov (.t 1), none⟩,
           ⟨some 24, .len (.t 23), none⟩,
           ⟨some 25, .mov (.c (.int Go.IntKind.i64 0)), none⟩])
        (.block 0 (.loop a25l0s a25l0)))
       (.seq (.region [⟨some 34, .mov (.t 7), none⟩,
           ⟨some 4, .mov (.t 34), none⟩,
           ⟨some 5, .mov (.c (.int Go.IntKind.i64 0)), none⟩])
        (.ret))))))),
  [.tmp 4, .tmp 5]⟩

def a26l0b : ACode :=
  .seq (.seq (.region [⟨some 11, .mov (.t 5), none⟩,
      ⟨some 12, .mov (.t 0), none⟩,
      ⟨some 13, .len (.t 12), none⟩,
      ⟨some 14, .bin .lss (.t 11) (.t 13), none⟩])
   (.cond (.t 14)
    (.skip)
    (.exit 0)))
  (.seq (.block 1 (.seq (.draw 8 [⟨some 17, .mov (.t 0), none⟩,
        ⟨some 18, .mov (.t 5), none⟩,
        ⟨some 19, .iaddr 1 (.t 17) (.t 18), none⟩,
        ⟨some 20, .load false 1 (.t 19), none⟩,
        ⟨some 21, .mov (.t 1), none⟩,
        ⟨some 22, .mov (.t 5), none⟩,
        ⟨some 23, .iaddr 1 (.t 21) (.t 22), none⟩,
        ⟨some 24, .load false 1 (.t 23), none⟩,
        ⟨some 25, .bin .neq (.t 20) (.t 24), none⟩])
     (.cond (.t 25)
      (.seq (.region [⟨some 4, .mov (.c (.bool false)), none⟩])
       (.ret))
      (.skip))))
   (.region [⟨some 15, .mov (.t 5), none⟩,
      ⟨some 16, .bin .add (.t 15) (.c (.int Go.IntKind.i64 1)), none⟩,
      ⟨some 5, .mov (.t 16), none⟩]))

def a26l0 : ACode := a26l0b
def a26l0s : List Nat := [2, 3, 6, 7, 8, 9, 10, 11, 12, 13, 14, 15, 16, 17, 18, 19, 20, 21, 22, 23, 24, 25]
abbrev a26l0F (s0 s1 s4 s5 : AV) : List AV := [s0, s1, .any, .any, s4, s5, .any, .any, .any, .any, .any, .any, .any, .any, .any, .any, .any, .any, .any, .any, .any, .any, .any, .any, .any, .any]
theorem a26l0c (s0 s1 s2 s3 s4 s5 s6 s7 s8 s9 s10 s11 s12 s13 s14 s15 s16 s17 s18 s19 s20 s21 s22 s23 s24 s25 : AV) : clearA a26l0s [s0, s1, s2, s3, s4, s5, s6, s7, s8, s9, s10, s11, s12, s13, s14, s15, s16, s17, s18, s19, s20, s21, s22, s23, s24, s25] = a26l0F s0 s1 s4 s5 := by kernel_rfl
theorem a26l0n {prog : Nat → Option AFunc} (s0 s1 s4 s5 : AV) (H : Heap) : (lim prog).loop a26l0s a26l0 ⟨a26l0F s0 s1 s4 s5, H⟩ = loopK (lim prog) a26l0s a26l0 (run (lim prog) a26l0b ⟨a26l0F s0 s1 s4 s5, H⟩) := lim_loop_step _ _ _ _ (by kernel_rfl)

/-- sentinel/sentinelkit.EqualSet -/
def a26 : AFunc := ⟨26,
  .seq (.region [⟨some 4, .mov (.c (.bool false)), none⟩])
  (.seq (.seq (.region [⟨some 6, .mov (.t 0), none⟩,
       ⟨some 7, .len (.t 6), none⟩,
       ⟨some 8, .mov (.t 1), none⟩,
       ⟨some 9, .len (.t 8), none⟩,
       ⟨some 10, .bin .neq (.t 7) (.t 9), none⟩])
    (.cond (.t 10)
     (.seq (.region [⟨some 4, .mov (.c (.bool false)), none⟩])
      (.ret))
     (.skip)))
   (.seq (.seq (.region [⟨some 5, .mov (.c (.int Go.IntKind.i64 0)), none⟩])
     (.block 0 (.loop a26l0s a26l0)))
    (.seq (.region [⟨some 4, .mov (.c (.bool true)), none⟩])
     (.ret)))),
  [.tmp 4]⟩

/-- sentinel/sentinellaw06.set -/
def a27 : AFunc := ⟨9,
  .seq (.region [⟨some 4, .mov (.c (.sl true 0 [])), none⟩])
  (.seq (.seq (.region [⟨some 5, .mov (.t 1), none⟩,
       ⟨some 6, .bin .neq (.t 5) (.c (.int Go.IntKind.i64 0)), none⟩])
    (.cond (.t 6)
     (.seq (.region [⟨some 4, .mov (.c (.sl true 0 [])), none⟩])
      (.ret))
     (.skip)))
   (.seq (.region [⟨some 7, .mov (.t 0), none⟩,
       ⟨some 8, .call 57 [(.t 7)], none⟩,
       ⟨some 4, .mov (.t 8), none⟩])
    (.ret))),
  [.tmp 4]⟩

def a28l0b : ACode :=
  .seq (.seq (.region [⟨some 11, .mov (.t 5), none⟩,
      ⟨some 12, .mov (.t 0), none⟩,
      ⟨some 13, .len (.t 12), none⟩,
      ⟨some 14, .bin .lss (.t 11) (.t 13), none⟩])
   (.cond (.t 14)
    (.skip)
    (.exit 0)))
  (.seq (.block 1 (.seq (.draw 8 [⟨some 17, .mov (.t 0), none⟩,
        ⟨some 18, .mov (.t 5), none⟩,
        ⟨some 19, .iaddr 1 (.t 17) (.t 18), none⟩,
        ⟨some 20, .load false 1 (.t 19), none⟩,
        ⟨some 21, .mov (.t 1), none⟩,
        ⟨some 22, .mov (.t 5), none⟩,
        ⟨some 23, .iaddr 1 (.t 21) (.t 22), none⟩,
        ⟨some 24, .load false 1 (.t 23), none⟩,
        ⟨some 25, .bin .neq (.t 20) (.t 24), none⟩])
     (.cond (.t 25)
      (.seq (.region [⟨some 4, .mov (.c (.bool false)), none⟩])
       (.ret))
      (.skip))))
   (.region [⟨some 15, .mov (.t 5), none⟩,
      ⟨some 16, .bin .add (.t 15) (.c (.int Go.IntKind.i64 1)), none⟩,
      ⟨some 5, .mov (.t 16), none⟩]))

def a28l0 : ACode := a28l0b
def a28l0s : List Nat := [2, 3, 6, 7, 8, 9, 10, 11, 12, 13, 14, 15, 16, 17, 18, 19, 20, 21, 22, 23, 24, 25]
abbrev a28l0F (s0 s1 s4 s5 : AV) : List AV := [s0, s1, .any, .any, s4, s5, .any, .any, .any, .any, .any, .any, .any, .any, .any, .any, .any, .any, .any, .any, .any, .any, .any, .any, .any, .any]
theorem a28l0c (s0 s1 s2 s3 s4 s5 s6 s7 s8 s9 s10 s11 s12 s13 s14 s15 s16 s17 s18 s19 s20 s21 s22 s23 s24 s25 : AV) : clearA a28l0s [s0, s1, s2, s3, s4, s5, s6, s7, s8, s9, s10, s11, s12, s13, s14, s15, s16, s17, s18, s19, s20, s21, s22, s23, s24, s25] = a28l0F s0 s1 s4 s5 := by kernel_rfl
theorem a28l0n {prog : Nat → Option AFunc} (s0 s1 s4 s5 : AV) (H : Heap) : (lim prog).loop a28l0s a28l0 ⟨a28l0F s0 s1 s4 s5, H⟩ = loopK (lim prog) a28l0s a28l0 (run (lim prog) a28l0b ⟨a28l0F s0 s1 s4 s5, H⟩) := lim_loop_step _ _ _ _ (by kernel_rfl)

/-- sentinel/sentinelkit.EqualBytes -/
def a28 : AFunc := ⟨26,
  .seq (.region [⟨some 4, .mov (.c (.bool false)), none⟩])
  (.seq (.seq (.region [⟨some 6, .mov (.t 0), none⟩,
       ⟨some 7, .len (.t 6), none⟩,
       ⟨some 8, .mov (.t 1), none⟩,
       ⟨some 9, .len (.t 8), none⟩,
       ⟨some 10, .bin .neq (.t 7) (.t 9), none⟩])
    (.cond (.t 10)
     (.seq (.region [⟨some 4, .mov (.c (.bool false)), none⟩])
      (.ret))
     (.skip)))
   (.seq (.seq (.region [⟨some 5, .mov (.c (.int Go.IntKind.i64 0)), none⟩])
     (.block 0 (.loop a28l0s a28l0)))
    (.seq (.region [⟨some 4, .mov (.c (.bool true)), none⟩])
     (.ret)))),
  [.tmp 4]⟩

def a29l0b : ACode :=
  .seq (.seq (.region [⟨some 3, .mov (.t 2), none⟩,
      ⟨some 4, .mov (.t 0), none⟩,
      ⟨some 5, .len (.t 4), none⟩,
      ⟨some 6, .bin .lss (.t 3) (.t 5), none⟩])
   (.cond (.t 6)
    (.skip)
    (.exit 0)))
  (.seq (.block 1 (.region [⟨some 9, .mov (.t 0), none⟩,
       ⟨some 10, .mov (.t 2), none⟩,
       ⟨some 11, .iaddr 1 (.t 9) (.t 10), none⟩,
       ⟨none, .store 1 (.t 11) (.c (.int Go.IntKind.u64 77)), none⟩]))
   (.region [⟨some 7, .mov (.t 2), none⟩,
      ⟨some 8, .bin .add (.t 7) (.c (.int Go.IntKind.i64 1)), none⟩,
      ⟨some 2, .mov (.t 8), none⟩]))

def a29l0 : ACode := a29l0b
def a29l0s : List Nat := [1, 3, 4, 5, 6, 7, 8, 9, 10, 11]
abbrev a29l0F (s0 s2 : AV) : List AV := [s0, .any, s2, .any, .any, .any, .any, .any, .any, .any, .any, .any]
theorem a29l0c (s0 s1 s2 s3 s4 s5 s6 s7 s8 s9 s10 s11 : AV) : clearA a29l0s [s0, s1, s2, s3, s4, s5, s6, s7, s8, s9, s10, s11] = a29l0F s0 s2 := by kernel_rfl
theorem a29l0n {prog : Nat → Option AFunc} (s0 s2 : AV) (H : Heap) : (lim prog).loop a29l0s a29l0 ⟨a29l0F s0 s2, H⟩ = loopK (lim prog) a29l0s a29l0 (run (lim prog) a29l0b ⟨a29l0F s0 s2, H⟩) := lim_loop_step _ _ _ _ (by kernel_rfl)

/-- sentinel/sentinelkit.OverSet -/
def a29 : AFunc := ⟨12,
  .seq (.region [⟨some 2, .mov (.c (.int Go.IntKind.i64 0)), none⟩])
  (.block 0 (.loop a29l0s a29l0)),
  []⟩

/-- sentinel/bitset.Union -/
def a30 : AFunc := ⟨8,
  .seq (.region [⟨some 4, .mov (.c (.sl true 0 [])), none⟩])
  (.seq (.region [⟨some 5, .mov (.t 0), none⟩,
      ⟨some 6, .mov (.t 1), none⟩,
      ⟨some 7, .icall (.c (.func 58 [])) [(.t 5), (.t 6), (.c (.func 59 []))], none⟩,
      ⟨some 4, .mov (.t 7), none⟩])
   (.ret)),
  [.tmp 4]⟩

/-- sentinel/bitset.Equal -/
def a31 : AFunc := ⟨10,
  .seq (.region [⟨some 4, .mov (.c (.bool false)), none⟩])
  (.seq (.region [⟨some 5, .mov (.t 0), none⟩,
      ⟨some 6, .call 61 [(.t 5)], none⟩,
      ⟨some 7, .mov (.t 1), none⟩,
      ⟨some 8, .call 61 [(.t 7)], none⟩,
      ⟨some 9, .call 60 [(.t 6), (.t 8)], none⟩,
      ⟨some 4, .mov (.t 9), none⟩])
   (.ret)),
  [.tmp 4]⟩

/-- sentinel/bitset.Intersects -/
def a32 : AFunc := ⟨10,
  .seq (.region [⟨some 4, .mov (.c (.bool false)), none⟩])
  (.seq (.region [⟨some 5, .mov (.t 0), none⟩,
      ⟨some 6, .mov (.t 1), none⟩,
      ⟨some 7, .call 62 [(.t 5), (.t 6)], none⟩,
      ⟨some 8, .len (.t 7), none⟩,
      ⟨some 9, .bin .gtr (.t 8) (.c (.int Go.IntKind.i64 0)), none⟩,
      ⟨some 4, .mov (.t 9), none⟩])
   (.ret)),
  [.tmp 4]⟩

def a33l0b : ACode :=
  .seq (.region [⟨some 8, .bin .lss (.t 7) (.t 6), none⟩])
  (.seq (.cond (.t 8)
    (.skip)
    (.exit 0))
   (.seq (.block 1 (.seq (.region [⟨some 9, .iaddr 1 (.t 5) (.t 7), none⟩,
         ⟨some 10, .load false 1 (.t 9), none⟩,
         ⟨some 4, .mov (.t 10), none⟩])
      (.region [⟨some 11, .mov (.t 2), none⟩,
         ⟨some 12, .mov (.t 4), none⟩,
         ⟨some 13, .ocall 63 [(.t 11), (.t 12)], none⟩,
         ⟨some 2, .mov (.t 13), none⟩])))
    (.region [⟨some 14, .bin .add (.t 7) (.c (.int Go.IntKind.i64 1)), none⟩,
       ⟨some 7, .mov (.t 14), none⟩])))

def a33l0 : ACode := a33l0b
def a33l0s : List Nat := [0, 1, 3, 4, 8, 9, 10, 11, 12, 13, 14, 15]
abbrev a33l0F (s2 s5 s6 s7 : AV) : List AV := [.any, .any, s2, .any, .any, s5, s6, s7, .any, .any, .any, .any, .any, .any, .any, .any]
theorem a33l0c (s0 s1 s2 s3 s4 s5 s6 s7 s8 s9 s10 s11 s12 s13 s14 s15 : AV) : clearA a33l0s [s0, s1, s2, s3, s4, s5, s6, s7, s8, s9, s10, s11, s12, s13, s14, s15] = a33l0F s2 s5 s6 s7 := by kernel_rfl
theorem a33l0n {prog : Nat → Option AFunc} (s2 s5 s6 s7 : AV) (H : Heap) : (lim prog).loop a33l0s a33l0 ⟨a33l0F s2 s5 s6 s7, H⟩ = loopK (lim prog) a33l0s a33l0 (run (lim prog) a33l0b ⟨a33l0F s2 s5 s6 s7, H⟩) := lim_loop_step _ _ _ _ (by kernel_rfl)

/-- sentinel/bitset.Of -/
def a33 : AFunc := ⟨16,
  .seq (.region [⟨some 2, .mov (.c (.sl true 0 [])), none⟩])
  (.seq (.seq (.region [⟨some 5, .mov (.t 0), none⟩,
       ⟨some 6, .len (.t 5), none⟩,
       ⟨some 7, .mov (.c (.int Go.IntKind.i64 0)), none⟩])
    (.block 0 (.loop a33l0s a33l0)))
   (.seq (.region [⟨some 15, .mov (.t 2), none⟩,
       ⟨some 2, .mov (.t 15), none⟩])
    (.ret))),
  [.tmp 2]⟩

/-- sentinel/sentinelkit.CopyInts -/
def a34 : AFunc := ⟨5,
  .seq (.region [⟨some 2, .mov (.c (.sl true 0 [])), none⟩])
  (.seq (.region [⟨some 3, .mov (.t 0), none⟩,
      ⟨some 4, .append false 1 8 (.c (.sl true 0 [])) (.t 3), none⟩,
      ⟨some 2, .mov (.t 4), none⟩])
   (.ret)),
  [.tmp 2]⟩

def a35l0b : ACode :=
  .seq (.region [⟨some 70, .bin .lss (.t 69) (.t 68), none⟩])
  (.seq (.cond (.t 70)
    (.skip)
    (.exit 1))
   (.seq (.block 2 (.seq (.region [⟨some 71, .iaddr 1 (.t 67) (.t 69), none⟩,
         ⟨some 72, .load false 1 (.t 71), none⟩,
         ⟨some 9, .mov (.t 72), none⟩])
      (.region [⟨some 73, .faddr 2 (.t 4), none⟩,
         ⟨some 74, .load false 1 (.t 73), none⟩,
         ⟨some 75, .faddr 1 (.t 2), none⟩,
         ⟨some 76, .load false 1 (.t 75), none⟩,
         ⟨some 77, .mov (.t 9), none⟩,
         ⟨some 78, .bin .add (.t 76) (.t 77), none⟩,
         ⟨some 79, .bslice true [.int Go.IntKind.i64 0] 1 1 [(0, (.t 78))], none⟩,
         ⟨some 80, .append false 1 8 (.t 74) (.t 79), none⟩,
         ⟨some 81, .faddr 2 (.t 4), none⟩,
         ⟨none, .store 1 (.t 81) (.t 80), none⟩])))
    (.region [⟨some 82, .bin .add (.t 69) (.c (.int Go.IntKind.i64 1)), none⟩,
       ⟨some 69, .mov (.t 82), none⟩])))

def a35l0 : ACode := a35l0b
def a35l0s : List Nat := [0, 1, 5, 6, 7, 8, 9, 10, 11, 12, 13, 14, 15, 16, 17, 18, 19, 20, 21, 22, 23, 24, 25, 26, 27, 28, 29, 30, 31, 32, 33, 34, 35, 36, 37, 38, 39, 40, 41, 42, 43, 44, 45, 46, 47, 48, 49, 50, 51, 52, 53, 54, 55, 56, 57, 58, 59, 60, 61, 62, 63, 64, 65, 66, 70, 71, 72, 73, 74, 75, 76, 77, 78, 79, 80, 81, 82, 83, 84, 85, 86, 87, 88, 89, 90, 91, 92, 93, 94, 95, 96, 97, 98, 99, 100, 101, 102, 103, 104, 105, 106, 107, 108, 109, 110, 111, 112, 113, 114, 115, 116, 117, 118, 119, 120, 121, 122, 123, 124, 125, 126]
abbrev a35l0F (s2 s3 s4 s67 s68 s69 : AV) : List AV := [.any, .any, s2, s3, s4, .any, .any, .any, .any, .any, .any, .any, .any, .any, .any, .any, .any, .any, .any, .any, .any, .any, .any, .any, .any, .any, .any, .any, .any, .any, .any, .any, .any, .any, .any, .any, .any, .any, .any, .any, .any, .any, .any, .any, .any, .any, .any, .any, .any, .any, .any, .any, .any, .any, .any, .any, .any, .any, .any, .any, .any, .any, .any, .any, .any, .any, .any, s67, s68, s69, .any, .any, .any, .any, .any, .any, .any, .any, .any, .any, .any, .any, .any, .any, .any, .any, .any, .any, .any, .any, .any, .any, .any, .any, .any, .any, .any, .any, .any, .any, .any, .any, .any, .any, .any, .any, .any, .any, .any, .any, .any, .any, .any, .any, .any, .any, .any, .any, .any, .any, .any, .any, .any, .any, .any, .any, .any]
theorem a35l0c (s0 s1 s2 s3 s4 s5 s6 s7 s8 s9 s10 s11 s12 s13 s14 s15 s16 s17 s18 s19 s20 s21 s22 s23 s24 s25 s26 s27 s28 s29 s30 s31 s32 s33 s34 s35 s36 s37 s38 s39 s40 s41 s42 s43 s44 s45 s46 s47 s48 s49 s50 s51 s52 s53 s54 s55 s56 s57 s58 s59 s60 s61 s62 s63 s64 s65 s66 s67 s68 s69 s70 s71 s72 s73 s74 s75 s76 s77 s78 s79 s80 s81 s82 s83 s84 s85 s86 s87 s88 s89 s90 s91 s92 s93 s94 s95 s96 s97 s98 s99 s100 s101 s102 s103 s104 s105 s106 s107 s108 s109 s110 s111 s112 s113 s114 s115 s116 s117 s118 s119 s120 s121 s122 s123 s124 s125 s126 : AV) : clearA a35l0s [s0, s1, s2, s3, s4, s5, s6, s7, s8, s9, s10, s11, s12, s13, s14, s15, s16, s17, s18, s19, s20, s21, s22, s23, s24, s25, s26, s27, s28, s29, s30, s31, s32, s33, s34, s35, s36, s37, s38, s39, s40, s41, s42, s43, s44, s45, s46, s47, s48, s49, s50, s51, s52, s53, s54, s55, s56, s57, s58, s59, s60, s61, s62, s63, s64, s65, s66, s67, s68, s69, s70, s71, s72, s73, s74, s75, s76, s77, s78, s79, s80, s81, s82, s83, s84, s85, s86, s87, s88, s89, s90, s91, s92, s93, s94, s95, s96, s97, s98, s99, s100, s101, s102, s103, s104, s105, s106, s107, s108, s109, s110, s111, s112, s113, s114, s115, s116, s117, s118, s119, s120, s121, s122, s123, s124, s125, s126] = a35l0F s2 s3 s4 s67 s68 s69 := by kernel_rfl
theorem a35l0n {prog : Nat → Option AFunc} (s2 s3 s4 s67 s68 s69 : AV) (H : Heap) : (lim prog).loop a35l0s a35l0 ⟨a35l0F s2 s3 s4 s67 s68 s69, H⟩ = loopK (lim prog) a35l0s a35l0 (run (lim prog) a35l0b ⟨a35l0F s2 s3 s4 s67 s68 s69, H⟩) := lim_loop_step _ _ _ _ (by kernel_rfl)

def a35l1b : ACode :=
  .seq (.region [⟨some 87, .bin .lss (.t 86) (.t 85), none⟩])
  (.seq (.cond (.t 87)
    (.skip)
    (.exit 3))
   (.seq (.block 4 (.seq (.region [⟨some 88, .iaddr 1 (.t 84) (.t 86), none⟩,
         ⟨some 89, .load false 1 (.t 88), none⟩,
         ⟨some 11, .mov (.t 89), none⟩])
      (.region [⟨some 90, .faddr 3 (.t 4), none⟩,
         ⟨some 91, .load false 1 (.t 90), none⟩,
         ⟨some 92, .faddr 1 (.t 2), none⟩,
         ⟨some 93, .load false 1 (.t 92), none⟩,
         ⟨some 94, .mov (.t 11), none⟩,
         ⟨some 95, .bin .add (.t 93) (.t 94), none⟩,
         ⟨some 96, .bslice true [.int Go.IntKind.i64 0] 1 1 [(0, (.t 95))], none⟩,
         ⟨some 97, .append false 1 8 (.t 91) (.t 96), none⟩,
         ⟨some 98, .faddr 3 (.t 4), none⟩,
         ⟨none, .store 1 (.t 98) (.t 97), none⟩])))
    (.region [⟨some 99, .bin .add (.t 86) (.c (.int Go.IntKind.i64 1)), none⟩,
       ⟨some 86, .mov (.t 99), none⟩])))

def a35l1 : ACode := a35l1b
def a35l1s : List Nat := [0, 1, 5, 6, 7, 8, 9, 10, 11, 12, 13, 14, 15, 16, 17, 18, 19, 20, 21, 22, 23, 24, 25, 26, 27, 28, 29, 30, 31, 32, 33, 34, 35, 36, 37, 38, 39, 40, 41, 42, 43, 44, 45, 46, 47, 48, 49, 50, 51, 52, 53, 54, 55, 56, 57, 58, 59, 60, 61, 62, 63, 64, 65, 66, 67, 68, 69, 70, 71, 72, 73, 74, 75, 76, 77, 78, 79, 80, 81, 82, 83, 87, 88, 89, 90, 91, 92, 93, 94, 95, 96, 97, 98, 99, 100, 101, 102, 103, 104, 105, 106, 107, 108, 109, 110, 111, 112, 113, 114, 115, 116, 117, 118, 119, 120, 121, 122, 123, 124, 125, 126]
abbrev a35l1F (s2 s3 s4 s84 s85 s86 : AV) : List AV := [.any, .any, s2, s3, s4, .any, .any, .any, .any, .any, .any, .any, .any, .any, .any, .any, .any, .any, .any, .any, .any, .any, .any, .any, .any, .any, .any, .any, .any, .any, .any, .any, .any, .any, .any, .any, .any, .any, .any, .any, .any, .any, .any, .any, .any, .any, .any, .any, .any, .any, .any, .any, .any, .any, .any, .any, .any, .any, .any, .any, .any, .any, .any, .any, .any, .any, .any, .any, .any, .any, .any, .any, .any, .any, .any, .any, .any, .any, .any, .any, .any, .any, .any, .any, s84, s85, s86, .any, .any, .any, .any, .any, .any, .any, .any, .any, .any, .any, .any, .any, .any, .any, .any, .any, .any, .any, .any, .any, .any, .any, .any, .any, .any, .any, .any, .any, .any, .any, .any, .any, .any, .any, .any, .any, .any, .any, .any]
theorem a35l1c (s0 s1 s2 s3 s4 s5 s6 s7 s8 s9 s10 s11 s12 s13 s14 s15 s16 s17 s18 s19 s20 s21 s22 s23 s24 s25 s26 s27 s28 s29 s30 s31 s32 s33 s34 s35 s36 s37 s38 s39 s40 s41 s42 s43 s44 s45 s46 s47 s48 s49 s50 s51 s52 s53 s54 s55 s56 s57 s58 s59 s60 s61 s62 s63 s64 s65 s66 s67 s68 s69 s70 s71 s72 s73 s74 s75 s76 s77 s78 s79 s80 s81 s82 s83 s84 s85 s86 s87 s88 s89 s90 s91 s92 s93 s94 s95 s96 s97 s98 s99 s100 s101 s102 s103 s104 s105 s106 s107 s108 s109 s110 s111 s112 s113 s114 s115 s116 s117 s118 s119 s120 s121 s122 s123 s124 s125 s126 : AV) : clearA a35l1s [s0, s1, s2, s3, s4, s5, s6, s7, s8, s9, s10, s11, s12, s13, s14, s15, s16, s17, s18, s19, s20, s21, s22, s23, s24, s25, s26, s27, s28, s29, s30, s31, s32, s33, s34, s35, s36, s37, s38, s39, s40, s41, s42, s43, s44, s45, s46, s47, s48, s49, s50, s51, s52, s53, s54, s55, s56, s57, s58, s59, s60, s61, s62, s63, s64, s65, s66, s67, s68, s69, s70, s71, s72, s73, s74, s75, s76, s77, s78, s79, s80, s81, s82, s83, s84, s85, s86, s87, s88, s89, s90, s91, s92, s93, s94, s95, s96, s97, s98, s99, s100, s101, s102, s103, s104, s105, s106, s107, s108, s109, s110, s111, s112, s113, s114, s115, s116, s117, s118, s119, s120, s121, s122, s123, s124, s125, s126] = a35l1F s2 s3 s4 s84 s85 s86 := by kernel_rfl
theorem a35l1n {prog : Nat → Option AFunc} (s2 s3 s4 s84 s85 s86 : AV) (H : Heap) : (lim prog).loop a35l1s a35l1 ⟨a35l1F s2 s3 s4 s84 s85 s86, H⟩ = loopK (lim prog) a35l1s a35l1 (run (lim prog) a35l1b ⟨a35l1F s2 s3 s4 s84 s85 s86, H⟩) := lim_loop_step _ _ _ _ (by kernel_rfl)

def a35l2b : ACode :=
  .seq (.region [⟨some 104, .bin .lss (.t 103) (.t 102), none⟩])
  (.seq (.cond (.t 104)
    (.skip)
    (.exit 5))
   (.seq (.block 6 (.seq (.region [⟨some 105, .iaddr 4 (.t 101) (.t 103), none⟩,
         ⟨some 106, .load true 4 (.t 105), none⟩,
         ⟨some 13, .box (.c (.agg [.int Go.IntKind.i64 0, .int Go.IntKind.i64 0, .int Go.IntKind.u8 0, .int Go.IntKind.u8 0])), none⟩,
         ⟨none, .store 4 (.t 13) (.t 106), none⟩])
      (.seq (.drawl [(112, (1, (117, 1)))] 10 [⟨some 107, .faddr 1 (.t 2), none⟩,
          ⟨some 108, .load false 1 (.t 107), none⟩,
          ⟨some 109, .faddr 0 (.t 13), none⟩,
          ⟨some 110, .load false 1 (.t 109), none⟩,
          ⟨some 111, .bin .add (.t 108) (.t 110), none⟩,
          ⟨some 112, .faddr 1 (.t 2), none⟩,
          ⟨some 113, .load false 1 (.t 112), none⟩,
          ⟨some 114, .faddr 1 (.t 13), none⟩,
          ⟨some 115, .load false 1 (.t 114), none⟩,
          ⟨some 116, .bin .add (.t 113) (.t 115), none⟩,
          ⟨some 117, .faddr 0 (.t 13), none⟩,
          ⟨none, .store 1 (.t 117) (.t 111), none⟩,
          ⟨some 118, .faddr 1 (.t 13), none⟩,
          ⟨none, .store 1 (.t 118) (.t 116), none⟩])
       (.region [⟨some 119, .faddr 4 (.t 4), none⟩,
          ⟨some 120, .load false 1 (.t 119), none⟩,
          ⟨some 121, .load true 4 (.t 13), none⟩,
          ⟨some 122, .bslice true [.int Go.IntKind.i64 0, .int Go.IntKind.i64 0, .int Go.IntKind.u8 0, .int Go.IntKind.u8 0] 4 1 [(0, (.t 121))], none⟩,
          ⟨some 123, .append false 4 24 (.t 120) (.t 122), none⟩,
          ⟨some 124, .faddr 4 (.t 4), none⟩,
          ⟨none, .store 1 (.t 124) (.t 123), none⟩]))))
    (.region [⟨some 125, .bin .add (.t 103) (.c (.int Go.IntKind.i64 1)), none⟩,
       ⟨some 103, .mov (.t 125), none⟩])))

def a35l2 : ACode := a35l2b
def a35l2s : List Nat := [0, 1, 3, 5, 6, 7, 8, 9, 10, 11, 12, 13, 14, 15, 16, 17, 18, 19, 20, 21, 22, 23, 24, 25, 26, 27, 28, 29, 30, 31, 32, 33, 34, 35, 36, 37, 38, 39, 40, 41, 42, 43, 44, 45, 46, 47, 48, 49, 50, 51, 52, 53, 54, 55, 56, 57, 58, 59, 60, 61, 62, 63, 64, 65, 66, 67, 68, 69, 70, 71, 72, 73, 74, 75, 76, 77, 78, 79, 80, 81, 82, 83, 84, 85, 86, 87, 88, 89, 90, 91, 92, 93, 94, 95, 96, 97, 98, 99, 100, 104, 105, 106, 107, 108, 109, 110, 111, 112, 113, 114, 115, 116, 117, 118, 119, 120, 121, 122, 123, 124, 125, 126]
abbrev a35l2F (s2 s4 s101 s102 s103 : AV) : List AV := [.any, .any, s2, .any, s4, .any, .any, .any, .any, .any, .any, .any, .any, .any, .any, .any, .any, .any, .any, .any, .any, .any, .any, .any, .any, .any, .any, .any, .any, .any, .any, .any, .any, .any, .any, .any, .any, .any, .any, .any, .any, .any, .any, .any, .any, .any, .any, .any, .any, .any, .any, .any, .any, .any, .any, .any, .any, .any, .any, .any, .any, .any, .any, .any, .any, .any, .any, .any, .any, .any, .any, .any, .any, .any, .any, .any, .any, .any, .any, .any, .any, .any, .any, .any, .any, .any, .any, .any, .any, .any, .any, .any, .any, .any, .any, .any, .any, .any, .any, .any, .any, s101, s102, s103, .any, .any, .any, .any, .any, .any, .any, .any, .any, .any, .any, .any, .any, .any, .any, .any, .any, .any, .any, .any, .any, .any, .any]
theorem a35l2c (s0 s1 s2 s3 s4 s5 s6 s7 s8 s9 s10 s11 s12 s13 s14 s15 s16 s17 s18 s19 s20 s21 s22 s23 s24 s25 s26 s27 s28 s29 s30 s31 s32 s33 s34 s35 s36 s37 s38 s39 s40 s41 s42 s43 s44 s45 s46 s47 s48 s49 s50 s51 s52 s53 s54 s55 s56 s57 s58 s59 s60 s61 s62 s63 s64 s65 s66 s67 s68 s69 s70 s71 s72 s73 s74 s75 s76 s77 s78 s79 s80 s81 s82 s83 s84 s85 s86 s87 s88 s89 s90 s91 s92 s93 s94 s95 s96 s97 s98 s99 s100 s101 s102 s103 s104 s105 s106 s107 s108 s109 s110 s111 s112 s113 s114 s115 s116 s117 s118 s119 s120 s121 s122 s123 s124 s125 s126 : AV) : clearA a35l2s [s0, s1, s2, s3, s4, s5, s6, s7, s8, s9, s10, s11, s12, s13, s14, s15, s16, s17, s18, s19, s20, s21, s22, s23, s24, s25, s26, s27, s28, s29, s30, s31, s32, s33, s34, s35, s36, s37, s38, s39, s40, s41, s42, s43, s44, s45, s46, s47, s48, s49, s50, s51, s52, s53, s54, s55, s56, s57, s58, s59, s60, s61, s62, s63, s64, s65, s66, s67, s68, s69, s70, s71, s72, s73, s74, s75, s76, s77, s78, s79, s80, s81, s82, s83, s84, s85, s86, s87, s88, s89, s90, s91, s92, s93, s94, s95, s96, s97, s98, s99, s100, s101, s102, s103, s104, s105, s106, s107, s108, s109, s110, s111, s112, s113, s114, s115, s116, s117, s118, s119, s120, s121, s122, s123, s124, s125, s126] = a35l2F s2 s4 s101 s102 s103 := by kernel_rfl
theorem a35l2n {prog : Nat → Option AFunc} (s2 s4 s101 s102 s103 : AV) (H : Heap) : (lim prog).loop a35l2s a35l2 ⟨a35l2F s2 s4 s101 s102 s103, H⟩ = loopK (lim prog) a35l2s a35l2 (run (lim prog) a35l2b ⟨a35l2F s2 s4 s101 s102 s103, H⟩) := lim_loop_step _ _ _ _ (by kernel_rfl)

/-- sentinel/nfa.Union -/
def a35 : AFunc := ⟨127,
  .seq (.region [⟨some 2, .box (.t 0), none⟩,
     ⟨some 3, .box (.t 1), none⟩,
     ⟨some 4, .box (.c (.agg [.int Go.IntKind.i64 0, .int Go.IntKind.i64 0, .sl true 0 [], .sl true 0 [], .sl true 0 []])), none⟩,
     ⟨some 5, .mov (.c (.int Go.IntKind.i64 0)), none⟩])
  (.seq (.seq (.region [⟨some 14, .load true 5 (.t 2), none⟩,
       ⟨some 15, .call 11 [(.t 14)], none⟩,
       ⟨some 6, .mov (.t 15), none⟩])
    (.seq (.region [⟨some 16, .mov (.t 6), none⟩,
        ⟨some 17, .bin .neq (.t 16) (.c (.int Go.IntKind.i64 0)), none⟩])
     (.cond (.t 17)
      (.seq (.region [⟨some 18, .build [.int Go.IntKind.i64 0, .int Go.IntKind.i64 0, .sl true 0 [], .sl true 0 [], .sl true 0 []] [], none⟩,
          ⟨some 19, .mov (.t 6), none⟩,
          ⟨none, .store 5 (.t 4) (.t 18), none⟩,
          ⟨some 5, .mov (.t 19), none⟩])
       (.ret))
      (.skip))))
   (.seq (.seq (.region [⟨some 20, .load true 5 (.t 3), none⟩,
        ⟨some 21, .call 11 [(.t 20)], none⟩,
        ⟨some 7, .mov (.t 21), none⟩])
     (.seq (.region [⟨some 22, .mov (.t 7), none⟩,
         ⟨some 23, .bin .neq (.t 22) (.c (.int Go.IntKind.i64 0)), none⟩])
      (.cond (.t 23)
       (.seq (.region [⟨some 24, .build [.int Go.IntKind.i64 0, .int Go.IntKind.i64 0, .sl true 0 [], .sl true 0 [], .sl true 0 []] [], none⟩,
           ⟨some 25, .mov (.t 7), none⟩,
           ⟨none, .store 5 (.t 4) (.t 24), none⟩,
           ⟨some 5, .mov (.t 25), none⟩])
        (.ret))
       (.skip))))
    (.seq (.block 0 (.seq (.region [⟨some 27, .faddr 0 (.t 2), none⟩,
          ⟨some 28, .load false 1 (.t 27), none⟩,
          ⟨some 29, .faddr 0 (.t 3), none⟩,
          ⟨some 30, .load false 1 (.t 29), none⟩,
          ⟨some 31, .bin .neq (.t 28) (.t 30), none⟩,
          ⟨some 26, .mov (.t 31), none⟩])
       (.cond (.t 26)
        (.seq (.region [⟨some 32, .build [.int Go.IntKind.i64 0, .int Go.IntKind.i64 0, .sl true 0 [], .sl true 0 [], .sl true 0 []] [], none⟩,
            ⟨none, .store 5 (.t 4) (.t 32), none⟩,
            ⟨some 5, .mov (.c (.int Go.IntKind.i64 7)), none⟩])
         (.ret))
        (.seq (.seq (.region [⟨some 34, .faddr 1 (.t 2), none⟩,
             ⟨some 35, .load false 1 (.t 34), none⟩,
             ⟨some 36, .faddr 1 (.t 3), none⟩,
             ⟨some 37, .load false 1 (.t 36), none⟩,
             ⟨some 38, .bin .add (.t 35) (.t 37), none⟩,
             ⟨some 39, .bin .gtr (.t 38) (.c (.int Go.IntKind.i64 64)), none⟩,
             ⟨some 33, .mov (.t 39), none⟩])
          (.cond (.t 33)
           (.skip)
           (.region [⟨some 40, .faddr 4 (.t 2), none⟩,
              ⟨some 41, .load false 1 (.t 40), none⟩,
              ⟨some 42, .len (.t 41), none⟩,
              ⟨some 43, .faddr 4 (.t 3), none⟩,
              ⟨some 44, .load false 1 (.t 43), none⟩,
              ⟨some 45, .len (.t 44), none⟩,
              ⟨some 46, .bin .add (.t 42) (.t 45), none⟩,
              ⟨some 47, .bin .gtr (.t 46) (.c (.int Go.IntKind.i64 512)), none⟩,
              ⟨some 33, .mov (.t 47), none⟩])))
         (.cond (.t 33)
          (.seq (.region [⟨some 48, .build [.int Go.IntKind.i64 0, .int Go.IntKind.i64 0, .sl true 0 [], .sl true 0 [], .sl true 0 []] [], none⟩,
              ⟨none, .store 5 (.t 4) (.t 48), none⟩,
              ⟨some 5, .mov (.c (.int Go.IntKind.i64 4)), none⟩])
           (.ret))
          (.skip))))))
     (.seq (.draw 16 [⟨some 49, .faddr 0 (.t 2), none⟩,
         ⟨some 50, .load false 1 (.t 49), none⟩,
         ⟨some 51, .faddr 1 (.t 2), none⟩,
         ⟨some 52, .load false 1 (.t 51), none⟩,
         ⟨some 53, .faddr 1 (.t 3), none⟩,
         ⟨some 54, .load false 1 (.t 53), none⟩,
         ⟨some 55, .bin .add (.t 52) (.t 54), none⟩,
         ⟨some 56, .faddr 2 (.t 2), none⟩,
         ⟨some 57, .load false 1 (.t 56), none⟩,
         ⟨some 58, .call 41 [(.t 57)], none⟩,
         ⟨some 59, .faddr 3 (.t 2), none⟩,
         ⟨some 60, .load false 1 (.t 59), none⟩,
         ⟨some 61, .call 41 [(.t 60)], none⟩,
         ⟨some 62, .faddr 4 (.t 2), none⟩,
         ⟨some 63, .load false 1 (.t 62), none⟩,
         ⟨some 64, .call 64 [(.t 63)], none⟩,
         ⟨some 65, .build [.int Go.IntKind.i64 0, .int Go.IntKind.i64 0, .sl true 0 [], .sl true 0 [], .sl true 0 []] [(0, 1, (.t 50)), (1, 1, (.t 55)), (2, 1, (.t 58)), (3, 1, (.t 61)), (4, 1, (.t 64))], none⟩,
         ⟨none, .store 5 (.t 4) (.t 65), none⟩])
      (.seq (.seq (.region [⟨some 66, .faddr 2 (.t 3), none⟩,
           ⟨some 67, .load false 1 (.t 66), none⟩,
           ⟨some 68, .len (.t 67), none⟩,
           ⟨some 69, .mov (.c (.int Go.IntKind.i64 0)), none⟩])
        (.block 1 (.loop a35l0s a35l0)))
       (.seq (.seq (.region [⟨some 83, .faddr 3 (.t 3), none⟩,
            ⟨some 84, .load false 1 (.t 83), none⟩,
            ⟨some 85, .len (.t 84), none⟩,
            ⟨some 86, .mov (.c (.int Go.IntKind.i64 0)), none⟩])
         (.block 3 (.loop a35l1s a35l1)))
        (.seq (.seq (.region [⟨some 100, .faddr 4 (.t 3), none⟩,
             ⟨some 101, .load false 1 (.t 100), none⟩,
             ⟨some 102, .len (.t 101), none⟩,
             ⟨some 103, .mov (.c (.int Go.IntKind.i64 0)), none⟩])
          (.block 5 (.loop a35l2s a35l2)))
         (.seq (.region [⟨some 126, .load true 5 (.t 4), none⟩,
             ⟨none, .store 5 (.t 4) (.t 126), none⟩,
             ⟨some 5, .mov (.c (.int Go.IntKind.i64 0)), none⟩])
          (.ret))))))))),
  [.cell 4 true 5, .tmp 5]⟩

/-- sentinel/nfa.Reachable -/
def a36 : AFunc := ⟨16,
  .seq (.region [⟨some 1, .box (.t 0), none⟩,
     ⟨some 2, .mov (.c (.sl true 0 [])), none⟩,
     ⟨some 3, .mov (.c (.int Go.IntKind.i64 0)), none⟩])
  (.seq (.seq (.region [⟨some 5, .load true 5 (.t 1), none⟩,
       ⟨some 6, .call 11 [(.t 5)], none⟩,
       ⟨some 4, .mov (.t 6), none⟩])
    (.seq (.region [⟨some 7, .mov (.t 4), none⟩,
        ⟨some 8, .bin .neq (.t 7) (.c (.int Go.IntKind.i64 0)), none⟩])
     (.cond (.t 8)
      (.seq (.region [⟨some 9, .mov (.t 4), none⟩,
          ⟨some 2, .mov (.c (.sl true 0 [])), none⟩,
          ⟨some 3, .mov (.t 9), none⟩])
       (.ret))
      (.skip))))
   (.seq (.draw 5 [⟨some 10, .faddr 2 (.t 1), none⟩,
       ⟨some 11, .load false 1 (.t 10), none⟩,
       ⟨some 12, .call 33 [(.t 11)], none⟩,
       ⟨some 13, .faddr 4 (.t 1), none⟩,
       ⟨some 14, .load false 1 (.t 13), none⟩,
       ⟨some 15, .call 65 [(.t 12), (.t 14)], none⟩,
       ⟨some 2, .mov (.t 15), none⟩,
       ⟨some 3, .mov (.c (.int Go.IntKind.i64 0)), none⟩])
    (.ret))),
  [.tmp 2, .tmp 3]⟩

/-- sentinel/sentinelkit.Letters -/
def a37 : AFunc := ⟨6,
  .seq (.region [⟨some 2, .mov (.c (.int Go.IntKind.i64 0)), none⟩])
  (.seq (.region [⟨some 3, .mov (.t 0), none⟩,
      ⟨some 4, .conv Go.IntKind.u64 (.t 3), none⟩,
      ⟨some 5, .bin .shl (.c (.int Go.IntKind.i64 1)) (.t 4), none⟩,
      ⟨some 2, .mov (.t 5), none⟩])
   (.ret)),
  [.tmp 2]⟩

/-- sentinel/nfa.Productive -/
def a38 : AFunc := ⟨18,
  .seq (.region [⟨some 1, .box (.t 0), none⟩,
     ⟨some 2, .mov (.c (.sl true 0 [])), none⟩,
     ⟨some 3, .mov (.c (.int Go.IntKind.i64 0)), none⟩])
  (.seq (.region [⟨some 7, .load true 5 (.t 1), none⟩,
      ⟨some 8, .call 10 [(.t 7)], none⟩,
      ⟨some 6, .mov (.t 8), none⟩,
      ⟨some 9, .ext 0 (.t 6), none⟩,
      ⟨some 10, .ext 1 (.t 6), none⟩,
      ⟨some 4, .box (.c (.agg [.int Go.IntKind.i64 0, .int Go.IntKind.i64 0, .sl true 0 [], .sl true 0 [], .sl true 0 []])), none⟩,
      ⟨none, .store 5 (.t 4) (.t 9), none⟩,
      ⟨some 5, .mov (.t 10), none⟩])
   (.seq (.seq (.region [⟨some 11, .mov (.t 5), none⟩,
        ⟨some 12, .bin .neq (.t 11) (.c (.int Go.IntKind.i64 0)), none⟩])
     (.cond (.t 12)
      (.seq (.region [⟨some 13, .mov (.t 5), none⟩,
          ⟨some 2, .mov (.c (.sl true 0 [])), none⟩,
          ⟨some 3, .mov (.t 13), none⟩])
       (.ret))
      (.skip)))
    (.seq (.region [⟨some 14, .load true 5 (.t 4), none⟩,
        ⟨some 15, .call 36 [(.t 14)], none⟩,
        ⟨some 16, .ext 0 (.t 15), none⟩,
        ⟨some 17, .ext 1 (.t 15), none⟩,
        ⟨some 2, .mov (.t 16), none⟩,
        ⟨some 3, .mov (.t 17), none⟩])
     (.ret)))),
  [.tmp 2, .tmp 3]⟩

/-- sentinel/sentinellaw06.second -/
def a39 : AFunc := ⟨8,
  .seq (.region [⟨some 0, .box (.c (.agg [.int Go.IntKind.i64 0, .int Go.IntKind.i64 0, .sl true 0 [], .sl true 0 [], .sl true 0 []])), none⟩])
  (.seq (.region [⟨some 1, .bslice true [.int Go.IntKind.i64 0] 1 1 [(0, (.c (.int Go.IntKind.i64 0)))], none⟩,
      ⟨some 2, .bslice true [.int Go.IntKind.i64 0] 1 1 [(0, (.c (.int Go.IntKind.i64 2)))], none⟩,
      ⟨some 3, .build [.int Go.IntKind.i64 0, .int Go.IntKind.i64 0, .int Go.IntKind.u8 0, .int Go.IntKind.u8 0] [(0, 1, (.c (.int Go.IntKind.i64 0))), (1, 1, (.c (.int Go.IntKind.i64 0)))], none⟩,
      ⟨some 4, .build [.int Go.IntKind.i64 0, .int Go.IntKind.i64 0, .int Go.IntKind.u8 0, .int Go.IntKind.u8 0] [(0, 1, (.c (.int Go.IntKind.i64 0))), (1, 1, (.c (.int Go.IntKind.i64 1))), (2, 1, (.c (.int Go.IntKind.u8 1)))], none⟩,
      ⟨some 5, .build [.int Go.IntKind.i64 0, .int Go.IntKind.i64 0, .int Go.IntKind.u8 0, .int Go.IntKind.u8 0] [(0, 1, (.c (.int Go.IntKind.i64 1))), (1, 1, (.c (.int Go.IntKind.i64 2)))], none⟩,
      ⟨some 6, .bslice true [.int Go.IntKind.i64 0, .int Go.IntKind.i64 0, .int Go.IntKind.u8 0, .int Go.IntKind.u8 0] 4 3 [(0, (.t 3)), (1, (.t 4)), (2, (.t 5))], none⟩,
      ⟨some 7, .build [.int Go.IntKind.i64 0, .int Go.IntKind.i64 0, .sl true 0 [], .sl true 0 [], .sl true 0 []] [(0, 1, (.c (.int Go.IntKind.i64 1))), (1, 1, (.c (.int Go.IntKind.i64 3))), (2, 1, (.t 1)), (3, 1, (.t 2)), (4, 1, (.t 6))], none⟩,
      ⟨none, .store 5 (.t 0) (.t 7), none⟩])
   (.ret)),
  [.cell 0 true 5]⟩

def a40l0b : ACode :=
  .seq (.seq (.region [⟨some 11, .mov (.t 5), none⟩,
      ⟨some 12, .mov (.t 0), none⟩,
      ⟨some 13, .len (.t 12), none⟩,
      ⟨some 14, .bin .lss (.t 11) (.t 13), none⟩])
   (.cond (.t 14)
    (.skip)
    (.exit 0)))
  (.seq (.block 1 (.seq (.draw 8 [⟨some 17, .mov (.t 0), none⟩,
        ⟨some 18, .mov (.t 5), none⟩,
        ⟨some 19, .iaddr 1 (.t 17) (.t 18), none⟩,
        ⟨some 20, .load false 1 (.t 19), none⟩,
        ⟨some 21, .mov (.t 1), none⟩,
        ⟨some 22, .mov (.t 5), none⟩,
        ⟨some 23, .iaddr 1 (.t 21) (.t 22), none⟩,
        ⟨some 24, .load false 1 (.t 23), none⟩,
        ⟨some 25, .bin .neq (.t 20) (.t 24), none⟩])
     (.cond (.t 25)
      (.seq (.region [⟨some 4, .mov (.c (.bool false)), none⟩])
       (.ret))
      (.skip))))
   (.region [⟨some 15, .mov (.t 5), none⟩,
      ⟨some 16, .bin .add (.t 15) (.c (.int Go.IntKind.i64 1)), none⟩,
      ⟨some 5, .mov (.t 16), none⟩]))

def a40l0 : ACode := a40l0b
def a40l0s : List Nat := [2, 3, 6, 7, 8, 9, 10, 11, 12, 13, 14, 15, 16, 17, 18, 19, 20, 21, 22, 23, 24, 25]
abbrev a40l0F (s0 s1 s4 s5 : AV) : List AV := [s0, s1, .any, .any, s4, s5, .any, .any, .any, .any, .any, .any, .any, .any, .any, .any, .any, .any, .any, .any, .any, .any, .any, .any, .any, .any]
theorem a40l0c (s0 s1 s2 s3 s4 s5 s6 s7 s8 s9 s10 s11 s12 s13 s14 s15 s16 s17 s18 s19 s20 s21 s22 s23 s24 s25 : AV) : clearA a40l0s [s0, s1, s2, s3, s4, s5, s6, s7, s8, s9, s10, s11, s12, s13, s14, s15, s16, s17, s18, s19, s20, s21, s22, s23, s24, s25] = a40l0F s0 s1 s4 s5 := by kernel_rfl
theorem a40l0n {prog : Nat → Option AFunc} (s0 s1 s4 s5 : AV) (H : Heap) : (lim prog).loop a40l0s a40l0 ⟨a40l0F s0 s1 s4 s5, H⟩ = loopK (lim prog) a40l0s a40l0 (run (lim prog) a40l0b ⟨a40l0F s0 s1 s4 s5, H⟩) := lim_loop_step _ _ _ _ (by kernel_rfl)

/-- sentinel/sentinelkit.EqualInts -/
def a40 : AFunc := ⟨26,
  .seq (.region [⟨some 4, .mov (.c (.bool false)), none⟩])
  (.seq (.seq (.region [⟨some 6, .mov (.t 0), none⟩,
       ⟨some 7, .len (.t 6), none⟩,
       ⟨some 8, .mov (.t 1), none⟩,
       ⟨some 9, .len (.t 8), none⟩,
       ⟨some 10, .bin .neq (.t 7) (.t 9), none⟩])
    (.cond (.t 10)
     (.seq (.region [⟨some 4, .mov (.c (.bool false)), none⟩])
      (.ret))
     (.skip)))
   (.seq (.seq (.region [⟨some 5, .mov (.c (.int Go.IntKind.i64 0)), none⟩])
     (.block 0 (.loop a40l0s a40l0)))
    (.seq (.region [⟨some 4, .mov (.c (.bool true)), none⟩])
     (.ret)))),
  [.tmp 4]⟩

/-- slices.Clone[[]int,int] -/
def a41 : AFunc := ⟨8,
  .seq (.region [⟨some 2, .mov (.c (.sl true 0 [])), none⟩])
  (.seq (.seq (.region [⟨some 3, .mov (.t 0), none⟩,
       ⟨some 4, .isnil false (.t 3), none⟩])
    (.cond (.t 4)
     (.seq (.region [⟨some 2, .mov (.c (.sl true 0 [])), none⟩])
      (.ret))
     (.skip)))
   (.seq (.region [⟨some 5, .bslice false [.int Go.IntKind.i64 0] 1 0 [], none⟩,
       ⟨some 6, .mov (.t 0), none⟩,
       ⟨some 7, .append false 1 8 (.t 5) (.t 6), none⟩,
       ⟨some 2, .mov (.t 7), none⟩])
    (.ret))),
  [.tmp 2]⟩

/-- sentinel/nfa.Check$1 -/
def a42 : AFunc := ⟨10,
  .seq (.region [⟨some 1, .mov (.c (.bool false)), none⟩])
  (.seq (.region [⟨some 2, .faddr 0 (.t 0), none⟩,
      ⟨some 3, .load false 1 (.t 2), none⟩,
      ⟨some 4, .bin .lss (.t 3) (.c (.int Go.IntKind.i64 0)), none⟩,
      ⟨some 5, .mov (.t 4), none⟩,
      ⟨some 6, .faddr 0 (.t 0), some (5, false)⟩,
      ⟨some 7, .load false 1 (.t 6), some (5, false)⟩,
      ⟨some 8, .bin .gtr (.t 7) (.c (.int Go.IntKind.i64 6)), some (5, false)⟩,
      ⟨some 9, .pick (.t 5) (.c (.bool true)) (.t 8), none⟩,
      ⟨some 1, .mov (.t 9), none⟩])
   (.ret)),
  [.tmp 1]⟩

/-- sentinel/nfa.Check$2 -/
def a43 : AFunc := ⟨5,
  .seq (.region [⟨some 1, .mov (.c (.bool false)), none⟩])
  (.seq (.region [⟨some 2, .faddr 1 (.t 0), none⟩,
      ⟨some 3, .load false 1 (.t 2), none⟩,
      ⟨some 4, .bin .lss (.t 3) (.c (.int Go.IntKind.i64 0)), none⟩,
      ⟨some 1, .mov (.t 4), none⟩])
   (.ret)),
  [.tmp 1]⟩

/-- sentinel/nfa.Check$3 -/
def a44 : AFunc := ⟨11,
  .seq (.region [⟨some 1, .mov (.c (.bool false)), none⟩])
  (.seq (.region [⟨some 2, .faddr 1 (.t 0), none⟩,
      ⟨some 3, .load false 1 (.t 2), none⟩,
      ⟨some 4, .bin .gtr (.t 3) (.c (.int Go.IntKind.i64 64)), none⟩,
      ⟨some 5, .mov (.t 4), none⟩,
      ⟨some 6, .faddr 4 (.t 0), some (5, false)⟩,
      ⟨some 7, .load false 1 (.t 6), some (5, false)⟩,
      ⟨some 8, .len (.t 7), some (5, false)⟩,
      ⟨some 9, .bin .gtr (.t 8) (.c (.int Go.IntKind.i64 512)), some (5, false)⟩,
      ⟨some 10, .pick (.t 5) (.c (.bool true)) (.t 9), none⟩,
      ⟨some 1, .mov (.t 10), none⟩])
   (.ret)),
  [.tmp 1]⟩

/-- sentinel/nfa.Check$4 -/
def a45 : AFunc := ⟨14,
  .seq (.region [⟨some 1, .mov (.c (.bool false)), none⟩])
  (.seq (.region [⟨some 2, .load true 5 (.t 0), none⟩,
      ⟨some 3, .faddr 2 (.t 0), none⟩,
      ⟨some 4, .load false 1 (.t 3), none⟩,
      ⟨some 5, .call 46 [(.t 2), (.t 4)], none⟩,
      ⟨some 6, .un .not (.t 5), none⟩,
      ⟨some 7, .mov (.t 6), none⟩,
      ⟨some 8, .load true 5 (.t 0), some (7, false)⟩,
      ⟨some 9, .faddr 3 (.t 0), some (7, false)⟩,
      ⟨some 10, .load false 1 (.t 9), some (7, false)⟩,
      ⟨some 11, .call 46 [(.t 8), (.t 10)], some (7, false)⟩,
      ⟨some 12, .un .not (.t 11), some (7, false)⟩,
      ⟨some 13, .pick (.t 7) (.c (.bool true)) (.t 12), none⟩,
      ⟨some 1, .mov (.t 13), none⟩])
   (.ret)),
  [.tmp 1]⟩

def a46l0b : ACode :=
  .seq (.region [⟨some 11, .bin .lss (.t 10) (.t 9), none⟩])
  (.seq (.cond (.t 11)
    (.skip)
    (.exit 0))
   (.seq (.block 1 (.seq (.region [⟨some 12, .iaddr 1 (.t 8) (.t 10), none⟩,
         ⟨some 13, .load false 1 (.t 12), none⟩,
         ⟨some 7, .mov (.t 13), none⟩])
      (.seq (.seq (.region [⟨some 14, .mov (.t 7), none⟩,
           ⟨some 15, .mov (.t 5), none⟩,
           ⟨some 16, .bin .leq (.t 14) (.t 15), none⟩,
           ⟨some 17, .mov (.t 16), none⟩,
           ⟨some 18, .mov (.t 7), some (17, false)⟩,
           ⟨some 19, .faddr 1 (.t 2), some (17, false)⟩,
           ⟨some 20, .load false 1 (.t 19), some (17, false)⟩,
           ⟨some 21, .bin .geq (.t 18) (.t 20), some (17, false)⟩,
           ⟨some 22, .pick (.t 17) (.c (.bool true)) (.t 21), none⟩])
        (.cond (.t 22)
         (.seq (.region [⟨some 4, .mov (.c (.bool false)), none⟩])
          (.ret))
         (.skip)))
       (.region [⟨some 23, .mov (.t 7), none⟩,
          ⟨some 5, .mov (.t 23), none⟩]))))
    (.region [⟨some 24, .bin .add (.t 10) (.c (.int Go.IntKind.i64 1)), none⟩,
       ⟨some 10, .mov (.t 24), none⟩])))

def a46l0 : ACode := a46l0b
def a46l0s : List Nat := [0, 1, 3, 6, 7, 11, 12, 13, 14, 15, 16, 17, 18, 19, 20, 21, 22, 23, 24]
abbrev a46l0F (s2 s4 s5 s8 s9 s10 : AV) : List AV := [.any, .any, s2, .any, s4, s5, .any, .any, s8, s9, s10, .any, .any, .any, .any, .any, .any, .any, .any, .any, .any, .any, .any, .any, .any]
theorem a46l0c (s0 s1 s2 s3 s4 s5 s6 s7 s8 s9 s10 s11 s12 s13 s14 s15 s16 s17 s18 s19 s20 s21 s22 s23 s24 : AV) : clearA a46l0s [s0, s1, s2, s3, s4, s5, s6, s7, s8, s9, s10, s11, s12, s13, s14, s15, s16, s17, s18, s19, s20, s21, s22, s23, s24] = a46l0F s2 s4 s5 s8 s9 s10 := by kernel_rfl
theorem a46l0n {prog : Nat → Option AFunc} (s2 s4 s5 s8 s9 s10 : AV) (H : Heap) : (lim prog).loop a46l0s a46l0 ⟨a46l0F s2 s4 s5 s8 s9 s10, H⟩ = loopK (lim prog) a46l0s a46l0 (run (lim prog) a46l0b ⟨a46l0F s2 s4 s5 s8 s9 s10, H⟩) := lim_loop_step _ _ _ _ (by kernel_rfl)

/-- sentinel/nfa.states -/
def a46 : AFunc := ⟨25,
  .seq (.region [⟨some 2, .box (.t 0), none⟩,
     ⟨some 4, .mov (.c (.bool false)), none⟩])
  (.seq (.region [⟨some 5, .mov (.c (.int Go.IntKind.i64 (-1))), none⟩])
   (.seq (.seq (.region [⟨some 8, .mov (.t 1), none⟩,
        ⟨some 9, .len (.t 8), none⟩,
        ⟨some 10, .mov (.c (.int Go.IntKind.i64 0)), none⟩])
     (.block 0 (.loop a46l0s a46l0)))
    (.seq (.region [⟨some 4, .mov (.c (.bool true)), none⟩])
     (.ret)))),
  [.tmp 4]⟩

/-- sentinel/cube.Check -/
def a47 : AFunc := ⟨28,
  .seq (.region [⟨some 2, .box (.t 0), none⟩,
     ⟨some 4, .mov (.c (.int Go.IntKind.i64 0)), none⟩])
  (.seq (.block 0 (.seq (.seq (.region [⟨some 6, .mov (.t 1), none⟩,
         ⟨some 7, .bin .lss (.t 6) (.c (.int Go.IntKind.i64 0)), none⟩,
         ⟨some 8, .mov (.t 7), none⟩,
         ⟨some 9, .mov (.t 1), some (8, false)⟩,
         ⟨some 10, .bin .gtr (.t 9) (.c (.int Go.IntKind.i64 6)), some (8, false)⟩,
         ⟨some 11, .pick (.t 8) (.c (.bool true)) (.t 10), none⟩,
         ⟨some 5, .mov (.t 11), none⟩])
      (.cond (.t 5)
       (.skip)
       (.draw 6 [⟨some 12, .faddr 0 (.t 2), none⟩,
          ⟨some 13, .load false 1 (.t 12), none⟩,
          ⟨some 14, .faddr 1 (.t 2), none⟩,
          ⟨some 15, .load false 1 (.t 14), none⟩,
          ⟨some 16, .bin .or (.t 13) (.t 15), none⟩,
          ⟨some 17, .conv Go.IntKind.i64 (.t 16), none⟩,
          ⟨some 18, .mov (.t 1), none⟩,
          ⟨some 19, .bin .shl (.c (.int Go.IntKind.i64 1)) (.t 18), none⟩,
          ⟨some 20, .bin .geq (.t 17) (.t 19), none⟩,
          ⟨some 5, .mov (.t 20), none⟩])))
     (.cond (.t 5)
      (.seq (.region [⟨some 4, .mov (.c (.int Go.IntKind.i64 7)), none⟩])
       (.ret))
      (.seq (.region [⟨some 22, .faddr 0 (.t 2), none⟩,
          ⟨some 23, .load false 1 (.t 22), none⟩,
          ⟨some 24, .faddr 1 (.t 2), none⟩,
          ⟨some 25, .load false 1 (.t 24), none⟩,
          ⟨some 26, .bin .and (.t 23) (.t 25), none⟩,
          ⟨some 27, .bin .neq (.t 26) (.c (.int Go.IntKind.u8 0)), none⟩,
          ⟨some 21, .mov (.t 27), none⟩])
       (.cond (.t 21)
        (.seq (.region [⟨some 4, .mov (.c (.int Go.IntKind.i64 2)), none⟩])
         (.ret))
        (.skip))))))
   (.seq (.region [⟨some 4, .mov (.c (.int Go.IntKind.i64 0)), none⟩])
    (.ret))),
  [.tmp 4]⟩

def a48l0b : ACode :=
  .seq (.seq (.region [⟨some 11, .mov (.t 5), none⟩,
      ⟨some 12, .mov (.t 0), none⟩,
      ⟨some 13, .len (.t 12), none⟩,
      ⟨some 14, .bin .lss (.t 11) (.t 13), none⟩])
   (.cond (.t 14)
    (.skip)
    (.exit 0)))
  (.seq (.block 1 (.seq (.draw 8 [⟨some 17, .mov (.t 0), none⟩,
        ⟨some 18, .mov (.t 5), none⟩,
        ⟨some 19, .iaddr 4 (.t 17) (.t 18), none⟩,
        ⟨some 20, .load true 4 (.t 19), none⟩,
        ⟨some 21, .mov (.t 1), none⟩,
        ⟨some 22, .mov (.t 5), none⟩,
        ⟨some 23, .iaddr 4 (.t 21) (.t 22), none⟩,
        ⟨some 24, .load true 4 (.t 23), none⟩,
        ⟨some 25, .aeq true 4 (.t 20) (.t 24), none⟩])
     (.cond (.t 25)
      (.seq (.region [⟨some 4, .mov (.c (.bool false)), none⟩])
       (.ret))
      (.skip))))
   (.region [⟨some 15, .mov (.t 5), none⟩,
      ⟨some 16, .bin .add (.t 15) (.c (.int Go.IntKind.i64 1)), none⟩,
      ⟨some 5, .mov (.t 16), none⟩]))

def a48l0 : ACode := a48l0b
def a48l0s : List Nat := [2, 3, 6, 7, 8, 9, 10, 11, 12, 13, 14, 15, 16, 17, 18, 19, 20, 21, 22, 23, 24, 25]
abbrev a48l0F (s0 s1 s4 s5 : AV) : List AV := [s0, s1, .any, .any, s4, s5, .any, .any, .any, .any, .any, .any, .any, .any, .any, .any, .any, .any, .any, .any, .any, .any, .any, .any, .any, .any]
theorem a48l0c (s0 s1 s2 s3 s4 s5 s6 s7 s8 s9 s10 s11 s12 s13 s14 s15 s16 s17 s18 s19 s20 s21 s22 s23 s24 s25 : AV) : clearA a48l0s [s0, s1, s2, s3, s4, s5, s6, s7, s8, s9, s10, s11, s12, s13, s14, s15, s16, s17, s18, s19, s20, s21, s22, s23, s24, s25] = a48l0F s0 s1 s4 s5 := by kernel_rfl
theorem a48l0n {prog : Nat → Option AFunc} (s0 s1 s4 s5 : AV) (H : Heap) : (lim prog).loop a48l0s a48l0 ⟨a48l0F s0 s1 s4 s5, H⟩ = loopK (lim prog) a48l0s a48l0 (run (lim prog) a48l0b ⟨a48l0F s0 s1 s4 s5, H⟩) := lim_loop_step _ _ _ _ (by kernel_rfl)

/-- sentinel/sentinelkit.EqualEdges -/
def a48 : AFunc := ⟨26,
  .seq (.region [⟨some 4, .mov (.c (.bool false)), none⟩])
  (.seq (.seq (.region [⟨some 6, .mov (.t 0), none⟩,
       ⟨some 7, .len (.t 6), none⟩,
       ⟨some 8, .mov (.t 1), none⟩,
       ⟨some 9, .len (.t 8), none⟩,
       ⟨some 10, .bin .neq (.t 7) (.t 9), none⟩])
    (.cond (.t 10)
     (.seq (.region [⟨some 4, .mov (.c (.bool false)), none⟩])
      (.ret))
     (.skip)))
   (.seq (.seq (.region [⟨some 5, .mov (.c (.int Go.IntKind.i64 0)), none⟩])
     (.block 0 (.loop a48l0s a48l0)))
    (.seq (.region [⟨some 4, .mov (.c (.bool true)), none⟩])
     (.ret)))),
  [.tmp 4]⟩

/-- sentinel/sentinelkit.CopyEdges -/
def a49 : AFunc := ⟨5,
  .seq (.region [⟨some 2, .mov (.c (.sl true 0 [])), none⟩])
  (.seq (.region [⟨some 3, .mov (.t 0), none⟩,
      ⟨some 4, .append false 4 24 (.c (.sl true 0 [])) (.t 3), none⟩,
      ⟨some 2, .mov (.t 4), none⟩])
   (.ret)),
  [.tmp 2]⟩

/-- sentinel/sentinelkit.Vars -/
def a50 : AFunc := ⟨9,
  .seq (.region [⟨some 2, .mov (.c (.bool false)), none⟩])
  (.seq (.region [⟨some 3, .mov (.t 0), none⟩,
      ⟨some 4, .bin .geq (.t 3) (.c (.int Go.IntKind.i64 0)), none⟩,
      ⟨some 5, .mov (.t 4), none⟩,
      ⟨some 6, .mov (.t 0), some (5, true)⟩,
      ⟨some 7, .bin .leq (.t 6) (.c (.int Go.IntKind.i64 6)), some (5, true)⟩,
      ⟨some 8, .pick (.t 5) (.t 7) (.c (.bool false)), none⟩,
      ⟨some 2, .mov (.t 8), none⟩])
   (.ret)),
  [.tmp 2]⟩

def a51l0b : ACode :=
  .seq (.seq (.region [⟨some 6, .mov (.t 5), none⟩,
      ⟨some 7, .mov (.t 0), none⟩,
      ⟨some 8, .len (.t 7), none⟩,
      ⟨some 9, .bin .lss (.t 6) (.t 8), none⟩])
   (.cond (.t 9)
    (.skip)
    (.exit 0)))
  (.seq (.block 1 (.seq (.draw 26 [⟨some 12, .mov (.t 0), none⟩,
        ⟨some 13, .mov (.t 5), none⟩,
        ⟨some 14, .iaddr 1 (.t 12) (.t 13), none⟩,
        ⟨some 15, .load false 1 (.t 14), none⟩,
        ⟨some 16, .bin .lss (.t 15) (.c (.int Go.IntKind.i64 0)), none⟩,
        ⟨some 17, .mov (.t 16), none⟩,
        ⟨some 18, .mov (.t 0), some (17, false)⟩,
        ⟨some 19, .mov (.t 5), some (17, false)⟩,
        ⟨some 20, .iaddr 1 (.t 18) (.t 19), some (17, false)⟩,
        ⟨some 21, .load false 1 (.t 20), some (17, false)⟩,
        ⟨some 22, .mov (.t 1), some (17, false)⟩,
        ⟨some 23, .bin .geq (.t 21) (.t 22), some (17, false)⟩,
        ⟨some 24, .pick (.t 17) (.c (.bool true)) (.t 23), none⟩,
        ⟨some 25, .mov (.t 24), none⟩,
        ⟨some 26, .mov (.t 5), some (25, false)⟩,
        ⟨some 27, .bin .gtr (.t 26) (.c (.int Go.IntKind.i64 0)), some (25, false)⟩,
        ⟨some 28, .mov (.t 27), some (25, false)⟩,
        ⟨some 29, .mov (.t 0), some (28, true)⟩,
        ⟨some 30, .mov (.t 5), some (28, true)⟩,
        ⟨some 31, .iaddr 1 (.t 29) (.t 30), some (28, true)⟩,
        ⟨some 32, .load false 1 (.t 31), some (28, true)⟩,
        ⟨some 33, .mov (.t 0), some (28, true)⟩,
        ⟨some 34, .mov (.t 5), some (28, true)⟩,
        ⟨some 35, .bin .sub (.t 34) (.c (.int Go.IntKind.i64 1)), some (28, true)⟩,
        ⟨some 36, .iaddr 1 (.t 33) (.t 35), some (28, true)⟩,
        ⟨some 37, .load false 1 (.t 36), some (28, true)⟩,
        ⟨some 38, .bin .leq (.t 32) (.t 37), some (28, true)⟩,
        ⟨some 39, .pick (.t 28) (.t 38) (.c (.bool false)), some (25, false)⟩,
        ⟨some 40, .pick (.t 25) (.c (.bool true)) (.t 39), none⟩])
     (.cond (.t 40)
      (.seq (.region [⟨some 4, .mov (.c (.bool false)), none⟩])
       (.ret))
      (.skip))))
   (.region [⟨some 10, .mov (.t 5), none⟩,
      ⟨some 11, .bin .add (.t 10) (.c (.int Go.IntKind.i64 1)), none⟩,
      ⟨some 5, .mov (.t 11), none⟩]))

def a51l0 : ACode := a51l0b
def a51l0s : List Nat := [2, 3, 6, 7, 8, 9, 10, 11, 12, 13, 14, 15, 16, 17, 18, 19, 20, 21, 22, 23, 24, 25, 26, 27, 28, 29, 30, 31, 32, 33, 34, 35, 36, 37, 38, 39, 40]
abbrev a51l0F (s0 s1 s4 s5 : AV) : List AV := [s0, s1, .any, .any, s4, s5, .any, .any, .any, .any, .any, .any, .any, .any, .any, .any, .any, .any, .any, .any, .any, .any, .any, .any, .any, .any, .any, .any, .any, .any, .any, .any, .any, .any, .any, .any, .any, .any, .any, .any, .any]
theorem a51l0c (s0 s1 s2 s3 s4 s5 s6 s7 s8 s9 s10 s11 s12 s13 s14 s15 s16 s17 s18 s19 s20 s21 s22 s23 s24 s25 s26 s27 s28 s29 s30 s31 s32 s33 s34 s35 s36 s37 s38 s39 s40 : AV) : clearA a51l0s [s0, s1, s2, s3, s4, s5, s6, s7, s8, s9, s10, s11, s12, s13, s14, s15, s16, s17, s18, s19, s20, s21, s22, s23, s24, s25, s26, s27, s28, s29, s30, s31, s32, s33, s34, s35, s36, s37, s38, s39, s40] = a51l0F s0 s1 s4 s5 := by kernel_rfl
theorem a51l0n {prog : Nat → Option AFunc} (s0 s1 s4 s5 : AV) (H : Heap) : (lim prog).loop a51l0s a51l0 ⟨a51l0F s0 s1 s4 s5, H⟩ = loopK (lim prog) a51l0s a51l0 (run (lim prog) a51l0b ⟨a51l0F s0 s1 s4 s5, H⟩) := lim_loop_step _ _ _ _ (by kernel_rfl)

/-- sentinel/sentinelref06.States -/
def a51 : AFunc := ⟨41,
  .seq (.region [⟨some 4, .mov (.c (.bool false)), none⟩])
  (.seq (.seq (.region [⟨some 5, .mov (.c (.int Go.IntKind.i64 0)), none⟩])
    (.block 0 (.loop a51l0s a51l0)))
   (.seq (.region [⟨some 4, .mov (.c (.bool true)), none⟩])
    (.ret))),
  [.tmp 4]⟩

def a52l0b : ACode :=
  .seq (.seq (.region [⟨some 9, .mov (.t 7), none⟩,
      ⟨some 10, .mov (.t 0), none⟩,
      ⟨some 11, .len (.t 10), none⟩,
      ⟨some 12, .bin .lss (.t 9) (.t 11), none⟩])
   (.cond (.t 12)
    (.skip)
    (.exit 0)))
  (.seq (.block 1 (.seq (.seq (.region [⟨some 15, .mov (.t 0), none⟩,
         ⟨some 16, .mov (.t 7), none⟩,
         ⟨some 17, .iaddr 4 (.t 15) (.t 16), none⟩,
         ⟨some 18, .faddr 0 (.t 17), none⟩,
         ⟨some 19, .load false 1 (.t 18), none⟩,
         ⟨some 20, .bin .lss (.t 19) (.c (.int Go.IntKind.i64 0)), none⟩,
         ⟨some 21, .mov (.t 20), none⟩,
         ⟨some 22, .mov (.t 0), some (21, false)⟩,
         ⟨some 23, .mov (.t 7), some (21, false)⟩,
         ⟨some 24, .iaddr 4 (.t 22) (.t 23), some (21, false)⟩,
         ⟨some 25, .faddr 0 (.t 24), some (21, false)⟩,
         ⟨some 26, .load false 1 (.t 25), some (21, false)⟩,
         ⟨some 27, .mov (.t 2), some (21, false)⟩,
         ⟨some 28, .bin .geq (.t 26) (.t 27), some (21, false)⟩,
         ⟨some 29, .pick (.t 21) (.c (.bool true)) (.t 28), none⟩,
         ⟨some 30, .mov (.t 29), none⟩,
         ⟨some 31, .mov (.t 0), some (30, false)⟩,
         ⟨some 32, .mov (.t 7), some (30, false)⟩,
         ⟨some 33, .iaddr 4 (.t 31) (.t 32), some (30, false)⟩,
         ⟨some 34, .faddr 1 (.t 33), some (30, false)⟩,
         ⟨some 35, .load false 1 (.t 34), some (30, false)⟩,
         ⟨some 36, .bin .lss (.t 35) (.c (.int Go.IntKind.i64 0)), some (30, false)⟩,
         ⟨some 37, .pick (.t 30) (.c (.bool true)) (.t 36), none⟩,
         ⟨some 38, .mov (.t 37), none⟩,
         ⟨some 39, .mov (.t 0), some (38, false)⟩,
         ⟨some 40, .mov (.t 7), some (38, false)⟩,
         ⟨some 41, .iaddr 4 (.t 39) (.t 40), some (38, false)⟩,
         ⟨some 42, .faddr 1 (.t 41), some (38, false)⟩,
         ⟨some 43, .load false 1 (.t 42), some (38, false)⟩,
         ⟨some 44, .mov (.t 2), some (38, false)⟩,
         ⟨some 45, .bin .geq (.t 43) (.t 44), some (38, false)⟩,
         ⟨some 46, .pick (.t 38) (.c (.bool true)) (.t 45), none⟩])
      (.cond (.t 46)
       (.seq (.region [⟨some 6, .mov (.c (.int Go.IntKind.i64 8)), none⟩])
        (.ret))
       (.skip)))
     (.seq (.draw 12 [⟨some 47, .mov (.t 0), none⟩,
         ⟨some 48, .mov (.t 7), none⟩,
         ⟨some 49, .iaddr 4 (.t 47) (.t 48), none⟩,
         ⟨some 50, .faddr 2 (.t 49), none⟩,
         ⟨some 51, .load false 1 (.t 50), none⟩,
         ⟨some 52, .mov (.t 0), none⟩,
         ⟨some 53, .mov (.t 7), none⟩,
         ⟨some 54, .iaddr 4 (.t 52) (.t 53), none⟩,
         ⟨some 55, .faddr 3 (.t 54), none⟩,
         ⟨some 56, .load false 1 (.t 55), none⟩,
         ⟨some 57, .build [.int Go.IntKind.u8 0, .int Go.IntKind.u8 0] [(0, 1, (.t 51)), (1, 1, (.t 56))], none⟩,
         ⟨some 58, .mov (.t 1), none⟩,
         ⟨some 59, .call 66 [(.t 57), (.t 58)], none⟩,
         ⟨some 8, .mov (.t 59), none⟩])
      (.seq (.region [⟨some 60, .mov (.t 8), none⟩,
          ⟨some 61, .bin .neq (.t 60) (.c (.int Go.IntKind.i64 0)), none⟩])
       (.cond (.t 61)
        (.seq (.region [⟨some 62, .mov (.t 8), none⟩,
            ⟨some 6, .mov (.t 62), none⟩])
         (.ret))
        (.skip))))))
   (.region [⟨some 13, .mov (.t 7), none⟩,
      ⟨some 14, .bin .add (.t 13) (.c (.int Go.IntKind.i64 1)), none⟩,
      ⟨some 7, .mov (.t 14), none⟩]))

def a52l0 : ACode := a52l0b
def a52l0s : List Nat := [3, 4, 5, 8, 9, 10, 11, 12, 13, 14, 15, 16, 17, 18, 19, 20, 21, 22, 23, 24, 25, 26, 27, 28, 29, 30, 31, 32, 33, 34, 35, 36, 37, 38, 39, 40, 41, 42, 43, 44, 45, 46, 47, 48, 49, 50, 51, 52, 53, 54, 55, 56, 57, 58, 59, 60, 61, 62]
abbrev a52l0F (s0 s1 s2 s6 s7 : AV) : List AV := [s0, s1, s2, .any, .any, .any, s6, s7, .any, .any, .any, .any, .any, .any, .any, .any, .any, .any, .any, .any, .any, .any, .any, .any, .any, .any, .any, .any, .any, .any, .any, .any, .any, .any, .any, .any, .any, .any, .any, .any, .any, .any, .any, .any, .any, .any, .any, .any, .any, .any, .any, .any, .any, .any, .any, .any, .any, .any, .any, .any, .any, .any, .any]
theorem a52l0c (s0 s1 s2 s3 s4 s5 s6 s7 s8 s9 s10 s11 s12 s13 s14 s15 s16 s17 s18 s19 s20 s21 s22 s23 s24 s25 s26 s27 s28 s29 s30 s31 s32 s33 s34 s35 s36 s37 s38 s39 s40 s41 s42 s43 s44 s45 s46 s47 s48 s49 s50 s51 s52 s53 s54 s55 s56 s57 s58 s59 s60 s61 s62 : AV) : clearA a52l0s [s0, s1, s2, s3, s4, s5, s6, s7, s8, s9, s10, s11, s12, s13, s14, s15, s16, s17, s18, s19, s20, s21, s22, s23, s24, s25, s26, s27, s28, s29, s30, s31, s32, s33, s34, s35, s36, s37, s38, s39, s40, s41, s42, s43, s44, s45, s46, s47, s48, s49, s50, s51, s52, s53, s54, s55, s56, s57, s58, s59, s60, s61, s62] = a52l0F s0 s1 s2 s6 s7 := by kernel_rfl
theorem a52l0n {prog : Nat → Option AFunc} (s0 s1 s2 s6 s7 : AV) (H : Heap) : (lim prog).loop a52l0s a52l0 ⟨a52l0F s0 s1 s2 s6 s7, H⟩ = loopK (lim prog) a52l0s a52l0 (run (lim prog) a52l0b ⟨a52l0F s0 s1 s2 s6 s7, H⟩) := lim_loop_step _ _ _ _ (by kernel_rfl)

/-- sentinel/sentinelref06.Edges -/
def a52 : AFunc := ⟨63,
  .seq (.region [⟨some 6, .mov (.c (.int Go.IntKind.i64 0)), none⟩])
  (.seq (.seq (.region [⟨some 7, .mov (.c (.int Go.IntKind.i64 0)), none⟩])
    (.block 0 (.loop a52l0s a52l0)))
   (.seq (.region [⟨some 6, .mov (.c (.int Go.IntKind.i64 0)), none⟩])
    (.ret))),
  [.tmp 6]⟩

def a53l0b : ACode :=
  .seq (.seq (.region [⟨some 6, .mov (.t 5), none⟩,
      ⟨some 7, .mov (.t 0), none⟩,
      ⟨some 8, .len (.t 7), none⟩,
      ⟨some 9, .bin .lss (.t 6) (.t 8), none⟩])
   (.cond (.t 9)
    (.skip)
    (.exit 0)))
  (.seq (.block 1 (.seq (.region [⟨some 12, .mov (.t 0), none⟩,
        ⟨some 13, .mov (.t 5), none⟩,
        ⟨some 14, .iaddr 1 (.t 12) (.t 13), none⟩,
        ⟨some 15, .load false 1 (.t 14), none⟩,
        ⟨some 16, .mov (.t 1), none⟩,
        ⟨some 17, .bin .eql (.t 15) (.t 16), none⟩])
     (.cond (.t 17)
      (.seq (.region [⟨some 4, .mov (.c (.bool true)), none⟩])
       (.ret))
      (.skip))))
   (.region [⟨some 10, .mov (.t 5), none⟩,
      ⟨some 11, .bin .add (.t 10) (.c (.int Go.IntKind.i64 1)), none⟩,
      ⟨some 5, .mov (.t 11), none⟩]))

def a53l0 : ACode := a53l0b
def a53l0s : List Nat := [2, 3, 6, 7, 8, 9, 10, 11, 12, 13, 14, 15, 16, 17]
abbrev a53l0F (s0 s1 s4 s5 : AV) : List AV := [s0, s1, .any, .any, s4, s5, .any, .any, .any, .any, .any, .any, .any, .any, .any, .any, .any, .any]
theorem a53l0c (s0 s1 s2 s3 s4 s5 s6 s7 s8 s9 s10 s11 s12 s13 s14 s15 s16 s17 : AV) : clearA a53l0s [s0, s1, s2, s3, s4, s5, s6, s7, s8, s9, s10, s11, s12, s13, s14, s15, s16, s17] = a53l0F s0 s1 s4 s5 := by kernel_rfl
theorem a53l0n {prog : Nat → Option AFunc} (s0 s1 s4 s5 : AV) (H : Heap) : (lim prog).loop a53l0s a53l0 ⟨a53l0F s0 s1 s4 s5, H⟩ = loopK (lim prog) a53l0s a53l0 (run (lim prog) a53l0b ⟨a53l0F s0 s1 s4 s5, H⟩) := lim_loop_step _ _ _ _ (by kernel_rfl)

/-- sentinel/sentinelkit.HasInt -/
def a53 : AFunc := ⟨18,
  .seq (.region [⟨some 4, .mov (.c (.bool false)), none⟩])
  (.seq (.seq (.region [⟨some 5, .mov (.c (.int Go.IntKind.i64 0)), none⟩])
    (.block 0 (.loop a53l0s a53l0)))
   (.seq (.region [⟨some 4, .mov (.c (.bool false)), none⟩])
    (.ret))),
  [.tmp 4]⟩

/-- sentinel/sentinelkit.Letter -/
def a54 : AFunc := ⟨18,
  .seq (.region [⟨some 6, .mov (.c (.bool false)), none⟩])
  (.seq (.region [⟨some 7, .mov (.t 0), none⟩,
      ⟨some 8, .mov (.t 1), none⟩,
      ⟨some 9, .bin .and (.t 7) (.t 8), none⟩,
      ⟨some 10, .mov (.t 1), none⟩,
      ⟨some 11, .bin .eql (.t 9) (.t 10), none⟩,
      ⟨some 12, .mov (.t 11), none⟩,
      ⟨some 13, .mov (.t 0), some (12, true)⟩,
      ⟨some 14, .mov (.t 2), some (12, true)⟩,
      ⟨some 15, .bin .and (.t 13) (.t 14), some (12, true)⟩,
      ⟨some 16, .bin .eql (.t 15) (.c (.int Go.IntKind.u8 0)), some (12, true)⟩,
      ⟨some 17, .pick (.t 12) (.t 16) (.c (.bool false)), none⟩,
      ⟨some 6, .mov (.t 17), none⟩])
   (.ret)),
  [.tmp 6]⟩

/-- sentinel/nfa.word -/
def a55 : AFunc := ⟨13,
  .seq (.region [⟨some 2, .box (.t 0), none⟩,
     ⟨some 4, .mov (.c (.int Go.IntKind.i64 0)), none⟩])
  (.seq (.block 0 (.seq (.region [⟨some 6, .mov (.t 1), none⟩,
        ⟨some 7, .len (.t 6), none⟩,
        ⟨some 8, .bin .gtr (.t 7) (.c (.int Go.IntKind.i64 64)), none⟩,
        ⟨some 5, .mov (.t 8), none⟩])
     (.cond (.t 5)
      (.seq (.region [⟨some 4, .mov (.c (.int Go.IntKind.i64 4)), none⟩])
       (.ret))
      (.seq (.region [⟨some 10, .mov (.t 1), none⟩,
          ⟨some 11, .mkfunc 68 [(.t 2)], none⟩,
          ⟨some 12, .icall (.c (.func 67 [])) [(.t 10), (.t 11)], none⟩,
          ⟨some 9, .mov (.t 12), none⟩])
       (.cond (.t 9)
        (.seq (.region [⟨some 4, .mov (.c (.int Go.IntKind.i64 1)), none⟩])
         (.ret))
        (.skip))))))
   (.seq (.region [⟨some 4, .mov (.c (.int Go.IntKind.i64 0)), none⟩])
    (.ret))),
  [.tmp 4]⟩

def a56r0ab : ACode :=
  .region [⟨some 7, .box (.c (.agg [.int Go.IntKind.i64 0, .int Go.IntKind.i64 0, .int Go.IntKind.u8 0, .int Go.IntKind.u8 0])), none⟩,
    ⟨none, .store 4 (.t 7) (.t 11), none⟩]

def a56r0b : ACode :=
  .block 1 (.seq (.region [⟨some 12, .load false 1 (.t 4), none⟩,
      ⟨some 13, .faddr 0 (.t 7), none⟩,
      ⟨some 14, .load false 1 (.t 13), none⟩,
      ⟨some 15, .call 70 [(.t 12), (.t 14)], none⟩])
   (.cond (.t 15)
    (.region [⟨some 16, .load false 1 (.t 6), none⟩,
       ⟨some 17, .faddr 1 (.t 7), none⟩,
       ⟨some 18, .load false 1 (.t 17), none⟩,
       ⟨some 19, .ocall 63 [(.t 16), (.t 18)], none⟩,
       ⟨none, .store 1 (.t 6) (.t 19), none⟩])
    (.skip)))

def a56r0a : ACode := a56r0ab
def a56r0 : ACode := a56r0b
theorem a56r0an (R : Rec) (s : St) : run R a56r0a s = run R a56r0ab s := rfl
theorem a56r0n (R : Rec) (s : St) : run R a56r0 s = run R a56r0b s := rfl

/-- sentinel/nfa.after -/
def a56 : AFunc := ⟨21,
  .seq (.region [⟨some 3, .box (.t 0), none⟩,
     ⟨some 4, .box (.t 1), none⟩,
     ⟨some 6, .box (.c (.sl true 0 [])), none⟩])
  (.seq (.seq (.region [⟨some 8, .load true 5 (.t 3), none⟩,
       ⟨some 9, .mov (.t 2), none⟩,
       ⟨some 10, .icall (.c (.func 69 [])) [(.t 8), (.t 9)], none⟩])
    (.block 0 (.range (.t 10) [11] a56r0a a56r0)))
   (.seq (.region [⟨some 20, .load false 1 (.t 6), none⟩,
       ⟨none, .store 1 (.t 6) (.t 20), none⟩])
    (.ret))),
  [.cell 6 false 1]⟩

def a57l0b : ACode :=
  .seq (.seq (.region [⟨some 22, .mov (.t 3), none⟩,
      ⟨some 23, .len (.t 22), none⟩,
      ⟨some 24, .mov (.t 5), none⟩,
      ⟨some 25, .bin .quo (.t 24) (.c (.int Go.IntKind.i64 64)), none⟩,
      ⟨some 26, .bin .leq (.t 23) (.t 25), none⟩])
   (.cond (.t 26)
    (.skip)
    (.exit 2)))
  (.block 3 (.region [⟨some 27, .mov (.t 3), none⟩,
      ⟨some 28, .bslice true [.int Go.IntKind.u64 0] 1 1 [(0, (.c (.int Go.IntKind.u64 0)))], none⟩,
      ⟨some 29, .append false 1 8 (.t 27) (.t 28), none⟩,
      ⟨some 3, .mov (.t 29), none⟩]))

def a57l0 : ACode := a57l0b
def a57l0s : List Nat := [1, 2, 6, 7, 8, 9, 10, 11, 12, 13, 14, 15, 16, 17, 18, 19, 20, 21, 22, 23, 24, 25, 26, 27, 28, 29, 30, 31, 32, 33, 34, 35, 36, 37, 38, 39, 40, 41, 42, 43, 44]
abbrev a57l0F (s0 s3 s4 s5 : AV) : List AV := [s0, .any, .any, s3, s4, s5, .any, .any, .any, .any, .any, .any, .any, .any, .any, .any, .any, .any, .any, .any, .any, .any, .any, .any, .any, .any, .any, .any, .any, .any, .any, .any, .any, .any, .any, .any, .any, .any, .any, .any, .any, .any, .any, .any, .any]
theorem a57l0c (s0 s1 s2 s3 s4 s5 s6 s7 s8 s9 s10 s11 s12 s13 s14 s15 s16 s17 s18 s19 s20 s21 s22 s23 s24 s25 s26 s27 s28 s29 s30 s31 s32 s33 s34 s35 s36 s37 s38 s39 s40 s41 s42 s43 s44 : AV) : clearA a57l0s [s0, s1, s2, s3, s4, s5, s6, s7, s8, s9, s10, s11, s12, s13, s14, s15, s16, s17, s18, s19, s20, s21, s22, s23, s24, s25, s26, s27, s28, s29, s30, s31, s32, s33, s34, s35, s36, s37, s38, s39, s40, s41, s42, s43, s44] = a57l0F s0 s3 s4 s5 := by kernel_rfl
theorem a57l0n {prog : Nat → Option AFunc} (s0 s3 s4 s5 : AV) (H : Heap) : (lim prog).loop a57l0s a57l0 ⟨a57l0F s0 s3 s4 s5, H⟩ = loopK (lim prog) a57l0s a57l0 (run (lim prog) a57l0b ⟨a57l0F s0 s3 s4 s5, H⟩) := lim_loop_step _ _ _ _ (by kernel_rfl)

def a57l1b : ACode :=
  .seq (.seq (.region [⟨some 6, .mov (.t 4), none⟩,
      ⟨some 7, .mov (.t 0), none⟩,
      ⟨some 8, .len (.t 7), none⟩,
      ⟨some 9, .bin .lss (.t 6) (.t 8), none⟩])
   (.cond (.t 9)
    (.skip)
    (.exit 0)))
  (.seq (.block 1 (.seq (.region [⟨some 12, .mov (.t 0), none⟩,
        ⟨some 13, .mov (.t 4), none⟩,
        ⟨some 14, .iaddr 1 (.t 12) (.t 13), none⟩,
        ⟨some 15, .load false 1 (.t 14), none⟩,
        ⟨some 5, .mov (.t 15), none⟩])
     (.seq (.seq (.region [⟨some 16, .mov (.t 5), none⟩,
          ⟨some 17, .bin .lss (.t 16) (.c (.int Go.IntKind.i64 0)), none⟩,
          ⟨some 18, .mov (.t 17), none⟩,
          ⟨some 19, .mov (.t 5), some (18, false)⟩,
          ⟨some 20, .bin .gtr (.t 19) (.c (.int Go.IntKind.i64 4095)), some (18, false)⟩,
          ⟨some 21, .pick (.t 18) (.c (.bool true)) (.t 20), none⟩])
       (.cond (.t 21)
        (.exit 1)
        (.skip)))
      (.seq (.block 2 (.loop a57l0s a57l0))
       (.region [⟨some 30, .mov (.t 3), none⟩,
          ⟨some 31, .mov (.t 5), none⟩,
          ⟨some 32, .bin .quo (.t 31) (.c (.int Go.IntKind.i64 64)), none⟩,
          ⟨some 33, .mov (.t 3), none⟩,
          ⟨some 34, .mov (.t 5), none⟩,
          ⟨some 35, .bin .quo (.t 34) (.c (.int Go.IntKind.i64 64)), none⟩,
          ⟨some 36, .iaddr 1 (.t 33) (.t 35), none⟩,
          ⟨some 37, .load false 1 (.t 36), none⟩,
          ⟨some 38, .mov (.t 5), none⟩,
          ⟨some 39, .bin .rem (.t 38) (.c (.int Go.IntKind.i64 64)), none⟩,
          ⟨some 40, .conv Go.IntKind.u64 (.t 39), none⟩,
          ⟨some 41, .bin .shl (.c (.int Go.IntKind.u64 1)) (.t 40), none⟩,
          ⟨some 42, .bin .or (.t 37) (.t 41), none⟩,
          ⟨some 43, .iaddr 1 (.t 30) (.t 32), none⟩,
          ⟨none, .store 1 (.t 43) (.t 42), none⟩])))))
   (.region [⟨some 10, .mov (.t 4), none⟩,
      ⟨some 11, .bin .add (.t 10) (.c (.int Go.IntKind.i64 1)), none⟩,
      ⟨some 4, .mov (.t 11), none⟩]))

def a57l1 : ACode := a57l1b
def a57l1s : List Nat := [1, 2, 5, 6, 7, 8, 9, 10, 11, 12, 13, 14, 15, 16, 17, 18, 19, 20, 21, 22, 23, 24, 25, 26, 27, 28, 29, 30, 31, 32, 33, 34, 35, 36, 37, 38, 39, 40, 41, 42, 43, 44]
abbrev a57l1F (s0 s3 s4 : AV) : List AV := [s0, .any, .any, s3, s4, .any, .any, .any, .any, .any, .any, .any, .any, .any, .any, .any, .any, .any, .any, .any, .any, .any, .any, .any, .any, .any, .any, .any, .any, .any, .any, .any, .any, .any, .any, .any, .any, .any, .any, .any, .any, .any, .any, .any, .any]
theorem a57l1c (s0 s1 s2 s3 s4 s5 s6 s7 s8 s9 s10 s11 s12 s13 s14 s15 s16 s17 s18 s19 s20 s21 s22 s23 s24 s25 s26 s27 s28 s29 s30 s31 s32 s33 s34 s35 s36 s37 s38 s39 s40 s41 s42 s43 s44 : AV) : clearA a57l1s [s0, s1, s2, s3, s4, s5, s6, s7, s8, s9, s10, s11, s12, s13, s14, s15, s16, s17, s18, s19, s20, s21, s22, s23, s24, s25, s26, s27, s28, s29, s30, s31, s32, s33, s34, s35, s36, s37, s38, s39, s40, s41, s42, s43, s44] = a57l1F s0 s3 s4 := by kernel_rfl
theorem a57l1n {prog : Nat → Option AFunc} (s0 s3 s4 : AV) (H : Heap) : (lim prog).loop a57l1s a57l1 ⟨a57l1F s0 s3 s4, H⟩ = loopK (lim prog) a57l1s a57l1 (run (lim prog) a57l1b ⟨a57l1F s0 s3 s4, H⟩) := lim_loop_step _ _ _ _ (by kernel_rfl)

/-- sentinel/sentinelref01.Of -/
def a57 : AFunc := ⟨45,
  .seq (.region [⟨some 2, .mov (.c (.sl true 0 [])), none⟩])
  (.seq (.region [⟨some 3, .mov (.c (.sl true 0 [])), none⟩])
   (.seq (.seq (.region [⟨some 4, .mov (.c (.int Go.IntKind.i64 0)), none⟩])
     (.block 0 (.loop a57l1s a57l1)))
    (.seq (.region [⟨some 44, .mov (.t 3), none⟩,
        ⟨some 2, .mov (.t 44), none⟩])
     (.ret)))),
  [.tmp 2]⟩

def a58l0b : ACode :=
  .seq (.region [⟨some 17, .bin .lss (.t 16) (.t 15), none⟩])
  (.seq (.cond (.t 17)
    (.skip)
    (.exit 0))
   (.seq (.block 1 (.seq (.region [⟨some 18, .mov (.t 16), none⟩,
         ⟨some 9, .mov (.t 18), none⟩])
      (.region [⟨some 19, .mov (.t 8), none⟩,
         ⟨some 20, .mov (.t 2), none⟩,
         ⟨some 21, .mov (.t 7), none⟩,
         ⟨some 22, .mov (.t 0), none⟩,
         ⟨some 23, .mov (.t 9), none⟩,
         ⟨some 24, .icall (.t 21) [(.t 22), (.t 23)], none⟩,
         ⟨some 25, .mov (.t 7), none⟩,
         ⟨some 26, .mov (.t 1), none⟩,
         ⟨some 27, .mov (.t 9), none⟩,
         ⟨some 28, .icall (.t 25) [(.t 26), (.t 27)], none⟩,
         ⟨some 29, .icall (.t 20) [(.t 24), (.t 28)], none⟩,
         ⟨some 30, .bslice true [.int Go.IntKind.u64 0] 1 1 [(0, (.t 29))], none⟩,
         ⟨some 31, .append false 1 8 (.t 19) (.t 30), none⟩,
         ⟨some 8, .mov (.t 31), none⟩])))
    (.region [⟨some 32, .bin .add (.t 16) (.c (.int Go.IntKind.i64 1)), none⟩,
       ⟨some 16, .mov (.t 32), none⟩])))

def a58l0 : ACode := a58l0b
def a58l0s : List Nat := [3, 4, 5, 6, 9, 10, 11, 12, 13, 14, 17, 18, 19, 20, 21, 22, 23, 24, 25, 26, 27, 28, 29, 30, 31, 32, 33, 34, 35, 36, 37, 38, 39, 40, 41, 42, 43, 44, 45, 46, 47, 48, 49, 50, 51]
abbrev a58l0F (s0 s1 s2 s7 s8 s15 s16 : AV) : List AV := [s0, s1, s2, .any, .any, .any, .any, s7, s8, .any, .any, .any, .any, .any, .any, s15, s16, .any, .any, .any, .any, .any, .any, .any, .any, .any, .any, .any, .any, .any, .any, .any, .any, .any, .any, .any, .any, .any, .any, .any, .any, .any, .any, .any, .any, .any, .any, .any, .any, .any, .any, .any]
theorem a58l0c (s0 s1 s2 s3 s4 s5 s6 s7 s8 s9 s10 s11 s12 s13 s14 s15 s16 s17 s18 s19 s20 s21 s22 s23 s24 s25 s26 s27 s28 s29 s30 s31 s32 s33 s34 s35 s36 s37 s38 s39 s40 s41 s42 s43 s44 s45 s46 s47 s48 s49 s50 s51 : AV) : clearA a58l0s [s0, s1, s2, s3, s4, s5, s6, s7, s8, s9, s10, s11, s12, s13, s14, s15, s16, s17, s18, s19, s20, s21, s22, s23, s24, s25, s26, s27, s28, s29, s30, s31, s32, s33, s34, s35, s36, s37, s38, s39, s40, s41, s42, s43, s44, s45, s46, s47, s48, s49, s50, s51] = a58l0F s0 s1 s2 s7 s8 s15 s16 := by kernel_rfl
theorem a58l0n {prog : Nat → Option AFunc} (s0 s1 s2 s7 s8 s15 s16 : AV) (H : Heap) : (lim prog).loop a58l0s a58l0 ⟨a58l0F s0 s1 s2 s7 s8 s15 s16, H⟩ = loopK (lim prog) a58l0s a58l0 (run (lim prog) a58l0b ⟨a58l0F s0 s1 s2 s7 s8 s15 s16, H⟩) := lim_loop_step _ _ _ _ (by kernel_rfl)

def a58l1b : ACode :=
  .seq (.seq (.region [⟨some 33, .mov (.t 8), none⟩,
      ⟨some 34, .len (.t 33), none⟩,
      ⟨some 35, .bin .gtr (.t 34) (.c (.int Go.IntKind.i64 0)), none⟩,
      ⟨some 36, .mov (.t 35), none⟩,
      ⟨some 37, .mov (.t 8), some (36, true)⟩,
      ⟨some 38, .mov (.t 8), some (36, true)⟩,
      ⟨some 39, .len (.t 38), some (36, true)⟩,
      ⟨some 40, .bin .sub (.t 39) (.c (.int Go.IntKind.i64 1)), some (36, true)⟩,
      ⟨some 41, .iaddr 1 (.t 37) (.t 40), some (36, true)⟩,
      ⟨some 42, .load false 1 (.t 41), some (36, true)⟩,
      ⟨some 43, .bin .eql (.t 42) (.c (.int Go.IntKind.u64 0)), some (36, true)⟩,
      ⟨some 44, .pick (.t 36) (.t 43) (.c (.bool false)), none⟩])
   (.cond (.t 44)
    (.skip)
    (.exit 2)))
  (.block 3 (.region [⟨some 45, .mov (.t 8), none⟩,
      ⟨some 46, .mov (.t 8), none⟩,
      ⟨some 47, .len (.t 46), none⟩,
      ⟨some 48, .bin .sub (.t 47) (.c (.int Go.IntKind.i64 1)), none⟩,
      ⟨some 49, .slice 1 (.t 45) none (some (.t 48)) none, none⟩,
      ⟨some 8, .mov (.t 49), none⟩]))

def a58l1 : ACode := a58l1b
def a58l1s : List Nat := [0, 1, 2, 3, 4, 5, 6, 7, 9, 10, 11, 12, 13, 14, 15, 16, 17, 18, 19, 20, 21, 22, 23, 24, 25, 26, 27, 28, 29, 30, 31, 32, 33, 34, 35, 36, 37, 38, 39, 40, 41, 42, 43, 44, 45, 46, 47, 48, 49, 50, 51]
abbrev a58l1F (s8 : AV) : List AV := [.any, .any, .any, .any, .any, .any, .any, .any, s8, .any, .any, .any, .any, .any, .any, .any, .any, .any, .any, .any, .any, .any, .any, .any, .any, .any, .any, .any, .any, .any, .any, .any, .any, .any, .any, .any, .any, .any, .any, .any, .any, .any, .any, .any, .any, .any, .any, .any, .any, .any, .any, .any]
theorem a58l1c (s0 s1 s2 s3 s4 s5 s6 s7 s8 s9 s10 s11 s12 s13 s14 s15 s16 s17 s18 s19 s20 s21 s22 s23 s24 s25 s26 s27 s28 s29 s30 s31 s32 s33 s34 s35 s36 s37 s38 s39 s40 s41 s42 s43 s44 s45 s46 s47 s48 s49 s50 s51 : AV) : clearA a58l1s [s0, s1, s2, s3, s4, s5, s6, s7, s8, s9, s10, s11, s12, s13, s14, s15, s16, s17, s18, s19, s20, s21, s22, s23, s24, s25, s26, s27, s28, s29, s30, s31, s32, s33, s34, s35, s36, s37, s38, s39, s40, s41, s42, s43, s44, s45, s46, s47, s48, s49, s50, s51] = a58l1F s8 := by kernel_rfl
theorem a58l1n {prog : Nat → Option AFunc} (s8 : AV) (H : Heap) : (lim prog).loop a58l1s a58l1 ⟨a58l1F s8, H⟩ = loopK (lim prog) a58l1s a58l1 (run (lim prog) a58l1b ⟨a58l1F s8, H⟩) := lim_loop_step _ _ _ _ (by kernel_rfl)

/-- sentinel/bitset.combine -/
def a58 : AFunc := ⟨52,
  .seq (.region [⟨some 6, .mov (.c (.sl true 0 [])), none⟩])
  (.seq (.region [⟨some 7, .mov (.c (.func 71 [])), none⟩])
   (.seq (.region [⟨some 8, .mov (.c (.sl true 0 [])), none⟩])
    (.seq (.seq (.region [⟨some 10, .mov (.t 0), none⟩,
         ⟨some 11, .len (.t 10), none⟩,
         ⟨some 12, .mov (.t 1), none⟩,
         ⟨some 13, .len (.t 12), none⟩,
         ⟨some 14, .maxi (.t 11) (.t 13), none⟩,
         ⟨some 15, .mini (.t 14) (.c (.int Go.IntKind.i64 64)), none⟩,
         ⟨some 16, .mov (.c (.int Go.IntKind.i64 0)), none⟩])
      (.block 0 (.loop a58l0s a58l0)))
     (.seq (.block 2 (.loop a58l1s a58l1))
      (.seq (.region [⟨some 50, .mov (.t 8), none⟩,
          ⟨some 51, .icall (.c (.func 72 [])) [(.t 50)], none⟩,
          ⟨some 6, .mov (.t 51), none⟩])
       (.ret)))))),
  [.tmp 6]⟩

/-- sentinel/bitset.Union$1 -/
def a59 : AFunc := ⟨8,
  .seq (.region [⟨some 4, .mov (.c (.int Go.IntKind.u64 0)), none⟩])
  (.seq (.region [⟨some 5, .mov (.t 0), none⟩,
      ⟨some 6, .mov (.t 1), none⟩,
      ⟨some 7, .bin .or (.t 5) (.t 6), none⟩,
      ⟨some 4, .mov (.t 7), none⟩])
   (.ret)),
  [.tmp 4]⟩

def a60l0b : ACode :=
  .seq (.region [⟨some 14, .bin .lss (.t 13) (.t 12), none⟩])
  (.seq (.cond (.t 14)
    (.skip)
    (.exit 0))
   (.seq (.block 1 (.seq (.region [⟨some 15, .mov (.t 13), none⟩,
         ⟨some 5, .mov (.t 15), none⟩])
      (.seq (.draw 8 [⟨some 16, .mov (.t 0), none⟩,
          ⟨some 17, .mov (.t 5), none⟩,
          ⟨some 18, .iaddr 1 (.t 16) (.t 17), none⟩,
          ⟨some 19, .load false 1 (.t 18), none⟩,
          ⟨some 20, .mov (.t 1), none⟩,
          ⟨some 21, .mov (.t 5), none⟩,
          ⟨some 22, .iaddr 1 (.t 20) (.t 21), none⟩,
          ⟨some 23, .load false 1 (.t 22), none⟩,
          ⟨some 24, .bin .neq (.t 19) (.t 23), none⟩])
       (.cond (.t 24)
        (.seq (.region [⟨some 4, .mov (.c (.bool false)), none⟩])
         (.ret))
        (.skip)))))
    (.region [⟨some 25, .bin .add (.t 13) (.c (.int Go.IntKind.i64 1)), none⟩,
       ⟨some 13, .mov (.t 25), none⟩])))

def a60l0 : ACode := a60l0b
def a60l0s : List Nat := [2, 3, 5, 6, 7, 8, 9, 10, 11, 14, 15, 16, 17, 18, 19, 20, 21, 22, 23, 24, 25]
abbrev a60l0F (s0 s1 s4 s12 s13 : AV) : List AV := [s0, s1, .any, .any, s4, .any, .any, .any, .any, .any, .any, .any, s12, s13, .any, .any, .any, .any, .any, .any, .any, .any, .any, .any, .any, .any]
theorem a60l0c (s0 s1 s2 s3 s4 s5 s6 s7 s8 s9 s10 s11 s12 s13 s14 s15 s16 s17 s18 s19 s20 s21 s22 s23 s24 s25 : AV) : clearA a60l0s [s0, s1, s2, s3, s4, s5, s6, s7, s8, s9, s10, s11, s12, s13, s14, s15, s16, s17, s18, s19, s20, s21, s22, s23, s24, s25] = a60l0F s0 s1 s4 s12 s13 := by kernel_rfl
theorem a60l0n {prog : Nat → Option AFunc} (s0 s1 s4 s12 s13 : AV) (H : Heap) : (lim prog).loop a60l0s a60l0 ⟨a60l0F s0 s1 s4 s12 s13, H⟩ = loopK (lim prog) a60l0s a60l0 (run (lim prog) a60l0b ⟨a60l0F s0 s1 s4 s12 s13, H⟩) := lim_loop_step _ _ _ _ (by kernel_rfl)

/-- slices.Equal[sentinel/api.Set,uint64] -/
def a60 : AFunc := ⟨26,
  .seq (.region [⟨some 4, .mov (.c (.bool false)), none⟩])
  (.seq (.seq (.region [⟨some 6, .mov (.t 0), none⟩,
       ⟨some 7, .len (.t 6), none⟩,
       ⟨some 8, .mov (.t 1), none⟩,
       ⟨some 9, .len (.t 8), none⟩,
       ⟨some 10, .bin .neq (.t 7) (.t 9), none⟩])
    (.cond (.t 10)
     (.seq (.region [⟨some 4, .mov (.c (.bool false)), none⟩])
      (.ret))
     (.skip)))
   (.seq (.seq (.region [⟨some 11, .mov (.t 0), none⟩,
        ⟨some 12, .len (.t 11), none⟩,
        ⟨some 13, .mov (.c (.int Go.IntKind.i64 0)), none⟩])
     (.block 0 (.loop a60l0s a60l0)))
    (.seq (.region [⟨some 4, .mov (.c (.bool true)), none⟩])
     (.ret)))),
  [.tmp 4]⟩

/-- sentinel/bitset.Canonical -/
def a61 : AFunc := ⟨5,
  .seq (.region [⟨some 2, .mov (.c (.sl true 0 [])), none⟩])
  (.seq (.region [⟨some 3, .mov (.t 0), none⟩,
      ⟨some 4, .call 30 [(.t 3), (.c (.sl true 0 []))], none⟩,
      ⟨some 2, .mov (.t 4), none⟩])
   (.ret)),
  [.tmp 2]⟩

/-- sentinel/bitset.Intersect -/
def a62 : AFunc := ⟨8,
  .seq (.region [⟨some 4, .mov (.c (.sl true 0 [])), none⟩])
  (.seq (.region [⟨some 5, .mov (.t 0), none⟩,
      ⟨some 6, .mov (.t 1), none⟩,
      ⟨some 7, .icall (.c (.func 58 [])) [(.t 5), (.t 6), (.c (.func 73 []))], none⟩,
      ⟨some 4, .mov (.t 7), none⟩])
   (.ret)),
  [.tmp 4]⟩

/-- sentinel/bitset.With -/
def a63 : AFunc := ⟨9,
  .seq (.region [⟨some 4, .mov (.c (.sl true 0 [])), none⟩])
  (.seq (.region [⟨some 5, .mov (.t 0), none⟩,
      ⟨some 6, .mov (.t 1), none⟩,
      ⟨some 7, .call 74 [(.t 6)], none⟩,
      ⟨some 8, .ocall 30 [(.t 5), (.t 7)], none⟩,
      ⟨some 4, .mov (.t 8), none⟩])
   (.ret)),
  [.tmp 4]⟩

/-- slices.Clone[[]sentinel/api.Edge,sentinel/api.Edge] -/
def a64 : AFunc := ⟨8,
  .seq (.region [⟨some 2, .mov (.c (.sl true 0 [])), none⟩])
  (.seq (.seq (.region [⟨some 3, .mov (.t 0), none⟩,
       ⟨some 4, .isnil false (.t 3), none⟩])
    (.cond (.t 4)
     (.seq (.region [⟨some 2, .mov (.c (.sl true 0 [])), none⟩])
      (.ret))
     (.skip)))
   (.seq (.region [⟨some 5, .bslice false [.int Go.IntKind.i64 0, .int Go.IntKind.i64 0, .int Go.IntKind.u8 0, .int Go.IntKind.u8 0] 4 0 [], none⟩,
       ⟨some 6, .mov (.t 0), none⟩,
       ⟨some 7, .append false 4 24 (.t 5) (.t 6), none⟩,
       ⟨some 2, .mov (.t 7), none⟩])
    (.ret))),
  [.tmp 2]⟩

def a65l0b : ACode :=
  .seq (.seq (.region [⟨some 7, .mov (.t 5), none⟩,
      ⟨some 8, .icall (.t 7) [], none⟩])
   (.cond (.t 8)
    (.skip)
    (.exit 0)))
  (.block 1 (.skip))

def a65l0 : ACode := a65l0b
def a65l0s : List Nat := [0, 1, 3, 4, 6, 7, 8, 9]
abbrev a65l0F (s2 s5 : AV) : List AV := [.any, .any, s2, .any, .any, s5, .any, .any, .any, .any]
theorem a65l0c (s0 s1 s2 s3 s4 s5 s6 s7 s8 s9 : AV) : clearA a65l0s [s0, s1, s2, s3, s4, s5, s6, s7, s8, s9] = a65l0F s2 s5 := by kernel_rfl
theorem a65l0n {prog : Nat → Option AFunc} (s2 s5 : AV) (H : Heap) : (lim prog).loop a65l0s a65l0 ⟨a65l0F s2 s5, H⟩ = loopK (lim prog) a65l0s a65l0 (run (lim prog) a65l0b ⟨a65l0F s2 s5, H⟩) := lim_loop_step _ _ _ _ (by kernel_rfl)

/-- sentinel/nfa.closed -/
def a65 : AFunc := ⟨10,
  .seq (.region [⟨some 2, .box (.t 0), none⟩,
     ⟨some 3, .box (.t 1), none⟩,
     ⟨some 4, .mov (.c (.sl true 0 [])), none⟩])
  (.seq (.region [⟨some 6, .mkfunc 75 [(.t 3), (.t 2)], none⟩,
      ⟨some 5, .mov (.t 6), none⟩])
   (.seq (.block 0 (.loop a65l0s a65l0))
    (.seq (.region [⟨some 9, .load false 1 (.t 2), none⟩,
        ⟨some 4, .mov (.t 9), none⟩])
     (.ret)))),
  [.tmp 4]⟩

/-- sentinel/sentinelref02.Check -/
def a66 : AFunc := ⟨32,
  .seq (.region [⟨some 2, .box (.t 0), none⟩,
     ⟨some 4, .mov (.c (.int Go.IntKind.i64 0)), none⟩])
  (.seq (.seq (.region [⟨some 6, .mov (.t 1), none⟩,
       ⟨some 7, .bin .lss (.t 6) (.c (.int Go.IntKind.i64 0)), none⟩,
       ⟨some 8, .mov (.t 7), none⟩,
       ⟨some 9, .mov (.t 1), some (8, false)⟩,
       ⟨some 10, .bin .gtr (.t 9) (.c (.int Go.IntKind.i64 6)), some (8, false)⟩,
       ⟨some 11, .pick (.t 8) (.c (.bool true)) (.t 10), none⟩])
    (.cond (.t 11)
     (.seq (.region [⟨some 4, .mov (.c (.int Go.IntKind.i64 7)), none⟩])
      (.ret))
     (.skip)))
   (.seq (.region [⟨some 12, .mov (.t 1), none⟩,
       ⟨some 13, .call 37 [(.t 12)], none⟩,
       ⟨some 5, .mov (.t 13), none⟩])
    (.seq (.seq (.region [⟨some 14, .faddr 0 (.t 2), none⟩,
         ⟨some 15, .load false 1 (.t 14), none⟩,
         ⟨some 16, .conv Go.IntKind.i64 (.t 15), none⟩,
         ⟨some 17, .mov (.t 5), none⟩,
         ⟨some 18, .bin .geq (.t 16) (.t 17), none⟩,
         ⟨some 19, .mov (.t 18), none⟩,
         ⟨some 20, .faddr 1 (.t 2), some (19, false)⟩,
         ⟨some 21, .load false 1 (.t 20), some (19, false)⟩,
         ⟨some 22, .conv Go.IntKind.i64 (.t 21), some (19, false)⟩,
         ⟨some 23, .mov (.t 5), some (19, false)⟩,
         ⟨some 24, .bin .geq (.t 22) (.t 23), some (19, false)⟩,
         ⟨some 25, .pick (.t 19) (.c (.bool true)) (.t 24), none⟩])
      (.cond (.t 25)
       (.seq (.region [⟨some 4, .mov (.c (.int Go.IntKind.i64 7)), none⟩])
        (.ret))
       (.skip)))
     (.seq (.seq (.region [⟨some 26, .faddr 0 (.t 2), none⟩,
          ⟨some 27, .load false 1 (.t 26), none⟩,
          ⟨some 28, .faddr 1 (.t 2), none⟩,
          ⟨some 29, .load false 1 (.t 28), none⟩,
          ⟨some 30, .bin .and (.t 27) (.t 29), none⟩,
          ⟨some 31, .bin .neq (.t 30) (.c (.int Go.IntKind.u8 0)), none⟩])
       (.cond (.t 31)
        (.seq (.region [⟨some 4, .mov (.c (.int Go.IntKind.i64 2)), none⟩])
         (.ret))
        (.skip)))
      (.seq (.region [⟨some 4, .mov (.c (.int Go.IntKind.i64 0)), none⟩])
       (.ret)))))),
  [.tmp 4]⟩

/-- slices.ContainsFunc[[]uint8,uint8] -/
def a67 : AFunc := ⟨9,
  .seq (.region [⟨some 4, .mov (.c (.bool false)), none⟩])
  (.seq (.region [⟨some 5, .mov (.t 0), none⟩,
      ⟨some 6, .mov (.t 1), none⟩,
      ⟨some 7, .icall (.c (.func 76 [])) [(.t 5), (.t 6)], none⟩,
      ⟨some 8, .bin .geq (.t 7) (.c (.int Go.IntKind.i64 0)), none⟩,
      ⟨some 4, .mov (.t 8), none⟩])
   (.ret)),
  [.tmp 4]⟩

/-- sentinel/nfa.word$1 -/
def a68 : AFunc := ⟨10,
  .seq (.region [⟨some 3, .mov (.c (.bool false)), none⟩])
  (.seq (.region [⟨some 4, .mov (.t 0), none⟩,
      ⟨some 5, .conv Go.IntKind.i64 (.t 4), none⟩,
      ⟨some 6, .faddr 0 (.t 1), none⟩,
      ⟨some 7, .load false 1 (.t 6), none⟩,
      ⟨some 8, .bin .shl (.c (.int Go.IntKind.i64 1)) (.t 7), none⟩,
      ⟨some 9, .bin .geq (.t 5) (.t 8), none⟩,
      ⟨some 3, .mov (.t 9), none⟩])
   (.ret)),
  [.tmp 3]⟩

/-- sentinel/nfa.matching -/
def a69 : AFunc := ⟨6,
  .seq (.region [⟨some 2, .box (.t 0), none⟩,
     ⟨some 3, .box (.t 1), none⟩,
     ⟨some 4, .mov (.c (.nilf)), none⟩])
  (.seq (.region [⟨some 5, .mkfunc 77 [(.t 2), (.t 3)], none⟩,
      ⟨some 4, .mov (.t 5), none⟩])
   (.ret)),
  [.tmp 4]⟩

/-- sentinel/bitset.Has -/
def a70 : AFunc := ⟨9,
  .seq (.region [⟨some 4, .mov (.c (.bool false)), none⟩])
  (.seq (.region [⟨some 5, .mov (.t 0), none⟩,
      ⟨some 6, .mov (.t 1), none⟩,
      ⟨some 7, .call 74 [(.t 6)], none⟩,
      ⟨some 8, .call 32 [(.t 5), (.t 7)], none⟩,
      ⟨some 4, .mov (.t 8), none⟩])
   (.ret)),
  [.tmp 4]⟩

/-- sentinel/bitset.combine$1 -/
def a71 : AFunc := ⟨13,
  .seq (.region [⟨some 4, .mov (.c (.int Go.IntKind.u64 0)), none⟩])
  (.seq (.seq (.region [⟨some 5, .mov (.t 1), none⟩,
       ⟨some 6, .mov (.t 0), none⟩,
       ⟨some 7, .len (.t 6), none⟩,
       ⟨some 8, .bin .lss (.t 5) (.t 7), none⟩])
    (.cond (.t 8)
     (.seq (.region [⟨some 9, .mov (.t 0), none⟩,
         ⟨some 10, .mov (.t 1), none⟩,
         ⟨some 11, .iaddr 1 (.t 9) (.t 10), none⟩,
         ⟨some 12, .load false 1 (.t 11), none⟩,
         ⟨some 4, .mov (.t 12), none⟩])
      (.ret))
     (.skip)))
   (.seq (.region [⟨some 4, .mov (.c (.int Go.IntKind.u64 0)), none⟩])
    (.ret))),
  [.tmp 4]⟩

/-- slices.Clip[sentinel/api.Set,uint64] -/
def a72 : AFunc := ⟨9,
  .seq (.region [⟨some 2, .mov (.c (.sl true 0 [])), none⟩])
  (.seq (.region [⟨some 3, .mov (.t 0), none⟩,
      ⟨some 4, .mov (.t 0), none⟩,
      ⟨some 5, .len (.t 4), none⟩,
      ⟨some 6, .mov (.t 0), none⟩,
      ⟨some 7, .len (.t 6), none⟩,
      ⟨some 8, .slice 1 (.t 3) none (some (.t 5)) (some (.t 7)), none⟩,
      ⟨some 2, .mov (.t 8), none⟩])
   (.ret)),
  [.tmp 2]⟩

/-- sentinel/bitset.Intersect$1 -/
def a73 : AFunc := ⟨8,
  .seq (.region [⟨some 4, .mov (.c (.int Go.IntKind.u64 0)), none⟩])
  (.seq (.region [⟨some 5, .mov (.t 0), none⟩,
      ⟨some 6, .mov (.t 1), none⟩,
      ⟨some 7, .bin .and (.t 5) (.t 6), none⟩,
      ⟨some 4, .mov (.t 7), none⟩])
   (.ret)),
  [.tmp 4]⟩

/-- sentinel/bitset.single -/
def a74 : AFunc := ⟨22,
  .seq (.region [⟨some 2, .mov (.c (.sl true 0 [])), none⟩])
  (.seq (.seq (.region [⟨some 4, .mov (.t 0), none⟩,
       ⟨some 5, .bin .lss (.t 4) (.c (.int Go.IntKind.i64 0)), none⟩,
       ⟨some 6, .mov (.t 5), none⟩,
       ⟨some 7, .mov (.t 0), some (6, false)⟩,
       ⟨some 8, .bin .gtr (.t 7) (.c (.int Go.IntKind.i64 4095)), some (6, false)⟩,
       ⟨some 9, .pick (.t 6) (.c (.bool true)) (.t 8), none⟩])
    (.cond (.t 9)
     (.seq (.region [⟨some 2, .mov (.c (.sl true 0 [])), none⟩])
      (.ret))
     (.skip)))
   (.seq (.region [⟨some 10, .mov (.t 0), none⟩,
       ⟨some 11, .bin .quo (.t 10) (.c (.int Go.IntKind.i64 64)), none⟩,
       ⟨some 12, .bin .add (.t 11) (.c (.int Go.IntKind.i64 1)), none⟩,
       ⟨some 13, .mkslice false [.int Go.IntKind.u64 0] 8 (.t 12) (.t 12), none⟩,
       ⟨some 3, .mov (.t 13), none⟩])
    (.seq (.region [⟨some 14, .mov (.t 3), none⟩,
        ⟨some 15, .mov (.t 0), none⟩,
        ⟨some 16, .bin .quo (.t 15) (.c (.int Go.IntKind.i64 64)), none⟩,
        ⟨some 17, .mov (.t 0), none⟩,
        ⟨some 18, .bin .rem (.t 17) (.c (.int Go.IntKind.i64 64)), none⟩,
        ⟨some 19, .bin .shl (.c (.int Go.IntKind.u64 1)) (.t 18), none⟩,
        ⟨some 20, .iaddr 1 (.t 14) (.t 16), none⟩,
        ⟨none, .store 1 (.t 20) (.t 19), none⟩])
     (.seq (.region [⟨some 21, .mov (.t 3), none⟩,
         ⟨some 2, .mov (.t 21), none⟩])
      (.ret))))),
  [.tmp 2]⟩

def a75l0b : ACode :=
  .seq (.region [⟨some 8, .bin .lss (.t 7) (.t 6), none⟩])
  (.seq (.cond (.t 8)
    (.skip)
    (.exit 0))
   (.seq (.block 1 (.seq (.region [⟨some 9, .iaddr 4 (.t 5) (.t 7), none⟩,
         ⟨some 10, .load true 4 (.t 9), none⟩,
         ⟨some 4, .box (.c (.agg [.int Go.IntKind.i64 0, .int Go.IntKind.i64 0, .int Go.IntKind.u8 0, .int Go.IntKind.u8 0])), none⟩,
         ⟨none, .store 4 (.t 4) (.t 10), none⟩])
      (.seq (.region [⟨some 11, .load false 1 (.t 1), none⟩,
          ⟨some 12, .faddr 0 (.t 4), none⟩,
          ⟨some 13, .load false 1 (.t 12), none⟩,
          ⟨some 14, .call 70 [(.t 11), (.t 13)], none⟩,
          ⟨some 15, .mov (.t 14), none⟩,
          ⟨some 16, .load false 1 (.t 1), some (15, true)⟩,
          ⟨some 17, .faddr 1 (.t 4), some (15, true)⟩,
          ⟨some 18, .load false 1 (.t 17), some (15, true)⟩,
          ⟨some 19, .call 70 [(.t 16), (.t 18)], some (15, true)⟩,
          ⟨some 20, .un .not (.t 19), some (15, true)⟩,
          ⟨some 21, .pick (.t 15) (.t 20) (.c (.bool false)), none⟩])
       (.cond (.t 21)
        (.region [⟨some 22, .load false 1 (.t 1), none⟩,
           ⟨some 23, .faddr 1 (.t 4), none⟩,
           ⟨some 24, .load false 1 (.t 23), none⟩,
           ⟨some 25, .call 63 [(.t 22), (.t 24)], none⟩,
           ⟨none, .store 1 (.t 1) (.t 25), none⟩,
           ⟨some 2, .mov (.c (.bool true)), none⟩])
        (.skip)))))
    (.region [⟨some 26, .bin .add (.t 7) (.c (.int Go.IntKind.i64 1)), none⟩,
       ⟨some 7, .mov (.t 26), none⟩])))

def a75l0 : ACode := a75l0b
def a75l0s : List Nat := [0, 3, 4, 8, 9, 10, 11, 12, 13, 14, 15, 16, 17, 18, 19, 20, 21, 22, 23, 24, 25, 26, 27]
abbrev a75l0F (s1 s2 s5 s6 s7 : AV) : List AV := [.any, s1, s2, .any, .any, s5, s6, s7, .any, .any, .any, .any, .any, .any, .any, .any, .any, .any, .any, .any, .any, .any, .any, .any, .any, .any, .any, .any]
theorem a75l0c (s0 s1 s2 s3 s4 s5 s6 s7 s8 s9 s10 s11 s12 s13 s14 s15 s16 s17 s18 s19 s20 s21 s22 s23 s24 s25 s26 s27 : AV) : clearA a75l0s [s0, s1, s2, s3, s4, s5, s6, s7, s8, s9, s10, s11, s12, s13, s14, s15, s16, s17, s18, s19, s20, s21, s22, s23, s24, s25, s26, s27] = a75l0F s1 s2 s5 s6 s7 := by kernel_rfl
theorem a75l0n {prog : Nat → Option AFunc} (s1 s2 s5 s6 s7 : AV) (H : Heap) : (lim prog).loop a75l0s a75l0 ⟨a75l0F s1 s2 s5 s6 s7, H⟩ = loopK (lim prog) a75l0s a75l0 (run (lim prog) a75l0b ⟨a75l0F s1 s2 s5 s6 s7, H⟩) := lim_loop_step _ _ _ _ (by kernel_rfl)

/-- sentinel/nfa.closed$1 -/
def a75 : AFunc := ⟨28,
  .seq (.region [⟨some 2, .mov (.c (.bool false)), none⟩])
  (.seq (.seq (.region [⟨some 5, .load false 1 (.t 0), none⟩,
       ⟨some 6, .len (.t 5), none⟩,
       ⟨some 7, .mov (.c (.int Go.IntKind.i64 0)), none⟩])
    (.block 0 (.loop a75l0s a75l0)))
   (.seq (.region [⟨some 27, .mov (.t 2), none⟩,
       ⟨some 2, .mov (.t 27), none⟩])
    (.ret))),
  [.tmp 2]⟩

def a76l0b : ACode :=
  .seq (.region [⟨some 9, .bin .lss (.t 8) (.t 7), none⟩])
  (.seq (.cond (.t 9)
    (.skip)
    (.exit 0))
   (.seq (.block 1 (.seq (.region [⟨some 10, .mov (.t 8), none⟩,
         ⟨some 5, .mov (.t 10), none⟩])
      (.seq (.region [⟨some 11, .mov (.t 1), none⟩,
          ⟨some 12, .mov (.t 0), none⟩,
          ⟨some 13, .mov (.t 5), none⟩,
          ⟨some 14, .iaddr 1 (.t 12) (.t 13), none⟩,
          ⟨some 15, .load false 1 (.t 14), none⟩,
          ⟨some 16, .icall (.t 11) [(.t 15)], none⟩])
       (.cond (.t 16)
        (.seq (.region [⟨some 17, .mov (.t 5), none⟩,
            ⟨some 4, .mov (.t 17), none⟩])
         (.ret))
        (.skip)))))
    (.region [⟨some 18, .bin .add (.t 8) (.c (.int Go.IntKind.i64 1)), none⟩,
       ⟨some 8, .mov (.t 18), none⟩])))

def a76l0 : ACode := a76l0b
def a76l0s : List Nat := [2, 3, 5, 6, 9, 10, 11, 12, 13, 14, 15, 16, 17, 18]
abbrev a76l0F (s0 s1 s4 s7 s8 : AV) : List AV := [s0, s1, .any, .any, s4, .any, .any, s7, s8, .any, .any, .any, .any, .any, .any, .any, .any, .any, .any]
theorem a76l0c (s0 s1 s2 s3 s4 s5 s6 s7 s8 s9 s10 s11 s12 s13 s14 s15 s16 s17 s18 : AV) : clearA a76l0s [s0, s1, s2, s3, s4, s5, s6, s7, s8, s9, s10, s11, s12, s13, s14, s15, s16, s17, s18] = a76l0F s0 s1 s4 s7 s8 := by kernel_rfl
theorem a76l0n {prog : Nat → Option AFunc} (s0 s1 s4 s7 s8 : AV) (H : Heap) : (lim prog).loop a76l0s a76l0 ⟨a76l0F s0 s1 s4 s7 s8, H⟩ = loopK (lim prog) a76l0s a76l0 (run (lim prog) a76l0b ⟨a76l0F s0 s1 s4 s7 s8, H⟩) := lim_loop_step _ _ _ _ (by kernel_rfl)

/-- slices.IndexFunc[[]uint8,uint8] -/
def a76 : AFunc := ⟨19,
  .seq (.region [⟨some 4, .mov (.c (.int Go.IntKind.i64 0)), none⟩])
  (.seq (.seq (.region [⟨some 6, .mov (.t 0), none⟩,
       ⟨some 7, .len (.t 6), none⟩,
       ⟨some 8, .mov (.c (.int Go.IntKind.i64 0)), none⟩])
    (.block 0 (.loop a76l0s a76l0)))
   (.seq (.region [⟨some 4, .mov (.c (.int Go.IntKind.i64 (-1))), none⟩])
    (.ret))),
  [.tmp 4]⟩

def a77l0b : ACode :=
  .seq (.region [⟨some 10, .bin .lss (.t 9) (.t 8), none⟩])
  (.seq (.cond (.t 10)
    (.skip)
    (.exit 0))
   (.seq (.block 1 (.seq (.region [⟨some 11, .iaddr 4 (.t 7) (.t 9), none⟩,
         ⟨some 12, .load true 4 (.t 11), none⟩,
         ⟨some 5, .box (.c (.agg [.int Go.IntKind.i64 0, .int Go.IntKind.i64 0, .int Go.IntKind.u8 0, .int Go.IntKind.u8 0])), none⟩,
         ⟨none, .store 4 (.t 5) (.t 12), none⟩])
      (.seq (.region [⟨some 13, .faddr 2 (.t 5), none⟩,
          ⟨some 14, .load false 1 (.t 13), none⟩,
          ⟨some 15, .faddr 3 (.t 5), none⟩,
          ⟨some 16, .load false 1 (.t 15), none⟩,
          ⟨some 17, .build [.int Go.IntKind.u8 0, .int Go.IntKind.u8 0] [(0, 1, (.t 14)), (1, 1, (.t 16))], none⟩,
          ⟨some 18, .load false 1 (.t 2), none⟩,
          ⟨some 19, .call 78 [(.t 17), (.t 18)], none⟩,
          ⟨some 20, .mov (.t 19), none⟩,
          ⟨some 21, .mov (.t 0), some (20, true)⟩,
          ⟨some 22, .load true 4 (.t 5), some (20, true)⟩,
          ⟨some 23, .icall (.t 21) [(.t 22)], some (20, true)⟩,
          ⟨some 24, .un .not (.t 23), some (20, true)⟩,
          ⟨some 25, .pick (.t 20) (.t 24) (.c (.bool false)), none⟩])
       (.cond (.t 25)
        (.ret)
        (.skip)))))
    (.region [⟨some 26, .bin .add (.t 9) (.c (.int Go.IntKind.i64 1)), none⟩,
       ⟨some 9, .mov (.t 26), none⟩])))

def a77l0 : ACode := a77l0b
def a77l0s : List Nat := [1, 3, 4, 5, 6, 10, 11, 12, 13, 14, 15, 16, 17, 18, 19, 20, 21, 22, 23, 24, 25, 26]
abbrev a77l0F (s0 s2 s7 s8 s9 : AV) : List AV := [s0, .any, s2, .any, .any, .any, .any, s7, s8, s9, .any, .any, .any, .any, .any, .any, .any, .any, .any, .any, .any, .any, .any, .any, .any, .any, .any]
theorem a77l0c (s0 s1 s2 s3 s4 s5 s6 s7 s8 s9 s10 s11 s12 s13 s14 s15 s16 s17 s18 s19 s20 s21 s22 s23 s24 s25 s26 : AV) : clearA a77l0s [s0, s1, s2, s3, s4, s5, s6, s7, s8, s9, s10, s11, s12, s13, s14, s15, s16, s17, s18, s19, s20, s21, s22, s23, s24, s25, s26] = a77l0F s0 s2 s7 s8 s9 := by kernel_rfl
theorem a77l0n {prog : Nat → Option AFunc} (s0 s2 s7 s8 s9 : AV) (H : Heap) : (lim prog).loop a77l0s a77l0 ⟨a77l0F s0 s2 s7 s8 s9, H⟩ = loopK (lim prog) a77l0s a77l0 (run (lim prog) a77l0b ⟨a77l0F s0 s2 s7 s8 s9, H⟩) := lim_loop_step _ _ _ _ (by kernel_rfl)

/-- sentinel/nfa.matching$1 -/
def a77 : AFunc := ⟨27,
  .seq (.region [⟨some 6, .faddr 4 (.t 1), none⟩,
     ⟨some 7, .load false 1 (.t 6), none⟩,
     ⟨some 8, .len (.t 7), none⟩,
     ⟨some 9, .mov (.c (.int Go.IntKind.i64 0)), none⟩])
  (.block 0 (.loop a77l0s a77l0)),
  []⟩

/-- sentinel/cube.Has -/
def a78 : AFunc := ⟨19,
  .seq (.region [⟨some 2, .box (.t 0), none⟩,
     ⟨some 4, .mov (.c (.bool false)), none⟩])
  (.seq (.region [⟨some 5, .mov (.t 1), none⟩,
      ⟨some 6, .faddr 0 (.t 2), none⟩,
      ⟨some 7, .load false 1 (.t 6), none⟩,
      ⟨some 8, .bin .and (.t 5) (.t 7), none⟩,
      ⟨some 9, .faddr 0 (.t 2), none⟩,
      ⟨some 10, .load false 1 (.t 9), none⟩,
      ⟨some 11, .bin .eql (.t 8) (.t 10), none⟩,
      ⟨some 12, .mov (.t 11), none⟩,
      ⟨some 13, .mov (.t 1), some (12, true)⟩,
      ⟨some 14, .faddr 1 (.t 2), some (12, true)⟩,
      ⟨some 15, .load false 1 (.t 14), some (12, true)⟩,
      ⟨some 16, .bin .and (.t 13) (.t 15), some (12, true)⟩,
      ⟨some 17, .bin .eql (.t 16) (.c (.int Go.IntKind.u8 0)), some (12, true)⟩,
      ⟨some 18, .pick (.t 12) (.t 17) (.c (.bool false)), none⟩,
      ⟨some 4, .mov (.t 18), none⟩])
   (.ret)),
  [.tmp 4]⟩

def aprog : Nat → Option AFunc
  | 2 => some a2
  | 3 => some a3
  | 4 => some a4
  | 5 => some a5
  | 6 => some a6
  | 7 => some a7
  | 8 => some a8
  | 9 => some a9
  | 10 => some a10
  | 11 => some a11
  | 12 => some a12
  | 13 => some a13
  | 14 => some a14
  | 15 => some a15
  | 16 => some a16
  | 17 => some a17
  | 18 => some a18
  | 19 => some a19
  | 20 => some a20
  | 21 => some a21
  | 22 => some a22
  | 23 => some a23
  | 24 => some a24
  | 25 => some a25
  | 26 => some a26
  | 27 => some a27
  | 28 => some a28
  | 29 => some a29
  | 30 => some a30
  | 31 => some a31
  | 32 => some a32
  | 33 => some a33
  | 34 => some a34
  | 35 => some a35
  | 36 => some a36
  | 37 => some a37
  | 38 => some a38
  | 39 => some a39
  | 40 => some a40
  | 41 => some a41
  | 42 => some a42
  | 43 => some a43
  | 44 => some a44
  | 45 => some a45
  | 46 => some a46
  | 47 => some a47
  | 48 => some a48
  | 49 => some a49
  | 50 => some a50
  | 51 => some a51
  | 52 => some a52
  | 53 => some a53
  | 54 => some a54
  | 55 => some a55
  | 56 => some a56
  | 57 => some a57
  | 58 => some a58
  | 59 => some a59
  | 60 => some a60
  | 61 => some a61
  | 62 => some a62
  | 63 => some a63
  | 64 => some a64
  | 65 => some a65
  | 66 => some a66
  | 67 => some a67
  | 68 => some a68
  | 69 => some a69
  | 70 => some a70
  | 71 => some a71
  | 72 => some a72
  | 73 => some a73
  | 74 => some a74
  | 75 => some a75
  | 76 => some a76
  | 77 => some a77
  | 78 => some a78
  | _ => none
theorem a2p (args : List AV) : (lim aprog).pcall 2 args = pbodyA (lim aprog) a2 args := lim_pcall_eq rfl args
theorem a2i (caps args : List AV) (H : Heap) : (lim aprog).icall (.func 2 caps) args H = bodyA (lim aprog) a2 (args ++ caps) H := lim_fcall_eq rfl caps args H
theorem a3p (args : List AV) : (lim aprog).pcall 3 args = pbodyA (lim aprog) a3 args := lim_pcall_eq rfl args
theorem a3i (caps args : List AV) (H : Heap) : (lim aprog).icall (.func 3 caps) args H = bodyA (lim aprog) a3 (args ++ caps) H := lim_fcall_eq rfl caps args H
theorem a4p (args : List AV) : (lim aprog).pcall 4 args = pbodyA (lim aprog) a4 args := lim_pcall_eq rfl args
theorem a4i (caps args : List AV) (H : Heap) : (lim aprog).icall (.func 4 caps) args H = bodyA (lim aprog) a4 (args ++ caps) H := lim_fcall_eq rfl caps args H
theorem a5p (args : List AV) : (lim aprog).pcall 5 args = pbodyA (lim aprog) a5 args := lim_pcall_eq rfl args
theorem a5i (caps args : List AV) (H : Heap) : (lim aprog).icall (.func 5 caps) args H = bodyA (lim aprog) a5 (args ++ caps) H := lim_fcall_eq rfl caps args H
theorem a6p (args : List AV) : (lim aprog).pcall 6 args = pbodyA (lim aprog) a6 args := lim_pcall_eq rfl args
theorem a6i (caps args : List AV) (H : Heap) : (lim aprog).icall (.func 6 caps) args H = bodyA (lim aprog) a6 (args ++ caps) H := lim_fcall_eq rfl caps args H
theorem a7p (args : List AV) : (lim aprog).pcall 7 args = pbodyA (lim aprog) a7 args := lim_pcall_eq rfl args
theorem a7i (caps args : List AV) (H : Heap) : (lim aprog).icall (.func 7 caps) args H = bodyA (lim aprog) a7 (args ++ caps) H := lim_fcall_eq rfl caps args H
theorem a8p (args : List AV) : (lim aprog).pcall 8 args = pbodyA (lim aprog) a8 args := lim_pcall_eq rfl args
theorem a8i (caps args : List AV) (H : Heap) : (lim aprog).icall (.func 8 caps) args H = bodyA (lim aprog) a8 (args ++ caps) H := lim_fcall_eq rfl caps args H
theorem a9p (args : List AV) : (lim aprog).pcall 9 args = pbodyA (lim aprog) a9 args := lim_pcall_eq rfl args
theorem a9i (caps args : List AV) (H : Heap) : (lim aprog).icall (.func 9 caps) args H = bodyA (lim aprog) a9 (args ++ caps) H := lim_fcall_eq rfl caps args H
theorem a10p (args : List AV) : (lim aprog).pcall 10 args = pbodyA (lim aprog) a10 args := lim_pcall_eq rfl args
theorem a10i (caps args : List AV) (H : Heap) : (lim aprog).icall (.func 10 caps) args H = bodyA (lim aprog) a10 (args ++ caps) H := lim_fcall_eq rfl caps args H
theorem a11p (args : List AV) : (lim aprog).pcall 11 args = pbodyA (lim aprog) a11 args := lim_pcall_eq rfl args
theorem a11i (caps args : List AV) (H : Heap) : (lim aprog).icall (.func 11 caps) args H = bodyA (lim aprog) a11 (args ++ caps) H := lim_fcall_eq rfl caps args H
theorem a12p (args : List AV) : (lim aprog).pcall 12 args = pbodyA (lim aprog) a12 args := lim_pcall_eq rfl args
theorem a12i (caps args : List AV) (H : Heap) : (lim aprog).icall (.func 12 caps) args H = bodyA (lim aprog) a12 (args ++ caps) H := lim_fcall_eq rfl caps args H
theorem a13p (args : List AV) : (lim aprog).pcall 13 args = pbodyA (lim aprog) a13 args := lim_pcall_eq rfl args
theorem a13i (caps args : List AV) (H : Heap) : (lim aprog).icall (.func 13 caps) args H = bodyA (lim aprog) a13 (args ++ caps) H := lim_fcall_eq rfl caps args H
theorem a14p (args : List AV) : (lim aprog).pcall 14 args = pbodyA (lim aprog) a14 args := lim_pcall_eq rfl args
theorem a14i (caps args : List AV) (H : Heap) : (lim aprog).icall (.func 14 caps) args H = bodyA (lim aprog) a14 (args ++ caps) H := lim_fcall_eq rfl caps args H
theorem a15p (args : List AV) : (lim aprog).pcall 15 args = pbodyA (lim aprog) a15 args := lim_pcall_eq rfl args
theorem a15i (caps args : List AV) (H : Heap) : (lim aprog).icall (.func 15 caps) args H = bodyA (lim aprog) a15 (args ++ caps) H := lim_fcall_eq rfl caps args H
theorem a16p (args : List AV) : (lim aprog).pcall 16 args = pbodyA (lim aprog) a16 args := lim_pcall_eq rfl args
theorem a16i (caps args : List AV) (H : Heap) : (lim aprog).icall (.func 16 caps) args H = bodyA (lim aprog) a16 (args ++ caps) H := lim_fcall_eq rfl caps args H
theorem a17p (args : List AV) : (lim aprog).pcall 17 args = pbodyA (lim aprog) a17 args := lim_pcall_eq rfl args
theorem a17i (caps args : List AV) (H : Heap) : (lim aprog).icall (.func 17 caps) args H = bodyA (lim aprog) a17 (args ++ caps) H := lim_fcall_eq rfl caps args H
theorem a18p (args : List AV) : (lim aprog).pcall 18 args = pbodyA (lim aprog) a18 args := lim_pcall_eq rfl args
theorem a18i (caps args : List AV) (H : Heap) : (lim aprog).icall (.func 18 caps) args H = bodyA (lim aprog) a18 (args ++ caps) H := lim_fcall_eq rfl caps args H
theorem a19p (args : List AV) : (lim aprog).pcall 19 args = pbodyA (lim aprog) a19 args := lim_pcall_eq rfl args
theorem a19i (caps args : List AV) (H : Heap) : (lim aprog).icall (.func 19 caps) args H = bodyA (lim aprog) a19 (args ++ caps) H := lim_fcall_eq rfl caps args H
theorem a20p (args : List AV) : (lim aprog).pcall 20 args = pbodyA (lim aprog) a20 args := lim_pcall_eq rfl args
theorem a20i (caps args : List AV) (H : Heap) : (lim aprog).icall (.func 20 caps) args H = bodyA (lim aprog) a20 (args ++ caps) H := lim_fcall_eq rfl caps args H
theorem a21p (args : List AV) : (lim aprog).pcall 21 args = pbodyA (lim aprog) a21 args := lim_pcall_eq rfl args
theorem a21i (caps args : List AV) (H : Heap) : (lim aprog).icall (.func 21 caps) args H = bodyA (lim aprog) a21 (args ++ caps) H := lim_fcall_eq rfl caps args H
theorem a22p (args : List AV) : (lim aprog).pcall 22 args = pbodyA (lim aprog) a22 args := lim_pcall_eq rfl args
theorem a22i (caps args : List AV) (H : Heap) : (lim aprog).icall (.func 22 caps) args H = bodyA (lim aprog) a22 (args ++ caps) H := lim_fcall_eq rfl caps args H
theorem a23p (args : List AV) : (lim aprog).pcall 23 args = pbodyA (lim aprog) a23 args := lim_pcall_eq rfl args
theorem a23i (caps args : List AV) (H : Heap) : (lim aprog).icall (.func 23 caps) args H = bodyA (lim aprog) a23 (args ++ caps) H := lim_fcall_eq rfl caps args H
theorem a24p (args : List AV) : (lim aprog).pcall 24 args = pbodyA (lim aprog) a24 args := lim_pcall_eq rfl args
theorem a24i (caps args : List AV) (H : Heap) : (lim aprog).icall (.func 24 caps) args H = bodyA (lim aprog) a24 (args ++ caps) H := lim_fcall_eq rfl caps args H
theorem a25p (args : List AV) : (lim aprog).pcall 25 args = pbodyA (lim aprog) a25 args := lim_pcall_eq rfl args
theorem a25i (caps args : List AV) (H : Heap) : (lim aprog).icall (.func 25 caps) args H = bodyA (lim aprog) a25 (args ++ caps) H := lim_fcall_eq rfl caps args H
theorem a26p (args : List AV) : (lim aprog).pcall 26 args = pbodyA (lim aprog) a26 args := lim_pcall_eq rfl args
theorem a26i (caps args : List AV) (H : Heap) : (lim aprog).icall (.func 26 caps) args H = bodyA (lim aprog) a26 (args ++ caps) H := lim_fcall_eq rfl caps args H
theorem a27p (args : List AV) : (lim aprog).pcall 27 args = pbodyA (lim aprog) a27 args := lim_pcall_eq rfl args
theorem a27i (caps args : List AV) (H : Heap) : (lim aprog).icall (.func 27 caps) args H = bodyA (lim aprog) a27 (args ++ caps) H := lim_fcall_eq rfl caps args H
theorem a28p (args : List AV) : (lim aprog).pcall 28 args = pbodyA (lim aprog) a28 args := lim_pcall_eq rfl args
theorem a28i (caps args : List AV) (H : Heap) : (lim aprog).icall (.func 28 caps) args H = bodyA (lim aprog) a28 (args ++ caps) H := lim_fcall_eq rfl caps args H
theorem a29p (args : List AV) : (lim aprog).pcall 29 args = pbodyA (lim aprog) a29 args := lim_pcall_eq rfl args
theorem a29i (caps args : List AV) (H : Heap) : (lim aprog).icall (.func 29 caps) args H = bodyA (lim aprog) a29 (args ++ caps) H := lim_fcall_eq rfl caps args H
theorem a30p (args : List AV) : (lim aprog).pcall 30 args = pbodyA (lim aprog) a30 args := lim_pcall_eq rfl args
theorem a30i (caps args : List AV) (H : Heap) : (lim aprog).icall (.func 30 caps) args H = bodyA (lim aprog) a30 (args ++ caps) H := lim_fcall_eq rfl caps args H
theorem a31p (args : List AV) : (lim aprog).pcall 31 args = pbodyA (lim aprog) a31 args := lim_pcall_eq rfl args
theorem a31i (caps args : List AV) (H : Heap) : (lim aprog).icall (.func 31 caps) args H = bodyA (lim aprog) a31 (args ++ caps) H := lim_fcall_eq rfl caps args H
theorem a32p (args : List AV) : (lim aprog).pcall 32 args = pbodyA (lim aprog) a32 args := lim_pcall_eq rfl args
theorem a32i (caps args : List AV) (H : Heap) : (lim aprog).icall (.func 32 caps) args H = bodyA (lim aprog) a32 (args ++ caps) H := lim_fcall_eq rfl caps args H
theorem a33p (args : List AV) : (lim aprog).pcall 33 args = pbodyA (lim aprog) a33 args := lim_pcall_eq rfl args
theorem a33i (caps args : List AV) (H : Heap) : (lim aprog).icall (.func 33 caps) args H = bodyA (lim aprog) a33 (args ++ caps) H := lim_fcall_eq rfl caps args H
theorem a34p (args : List AV) : (lim aprog).pcall 34 args = pbodyA (lim aprog) a34 args := lim_pcall_eq rfl args
theorem a34i (caps args : List AV) (H : Heap) : (lim aprog).icall (.func 34 caps) args H = bodyA (lim aprog) a34 (args ++ caps) H := lim_fcall_eq rfl caps args H
theorem a35p (args : List AV) : (lim aprog).pcall 35 args = pbodyA (lim aprog) a35 args := lim_pcall_eq rfl args
theorem a35i (caps args : List AV) (H : Heap) : (lim aprog).icall (.func 35 caps) args H = bodyA (lim aprog) a35 (args ++ caps) H := lim_fcall_eq rfl caps args H
theorem a36p (args : List AV) : (lim aprog).pcall 36 args = pbodyA (lim aprog) a36 args := lim_pcall_eq rfl args
theorem a36i (caps args : List AV) (H : Heap) : (lim aprog).icall (.func 36 caps) args H = bodyA (lim aprog) a36 (args ++ caps) H := lim_fcall_eq rfl caps args H
theorem a37p (args : List AV) : (lim aprog).pcall 37 args = pbodyA (lim aprog) a37 args := lim_pcall_eq rfl args
theorem a37i (caps args : List AV) (H : Heap) : (lim aprog).icall (.func 37 caps) args H = bodyA (lim aprog) a37 (args ++ caps) H := lim_fcall_eq rfl caps args H
theorem a38p (args : List AV) : (lim aprog).pcall 38 args = pbodyA (lim aprog) a38 args := lim_pcall_eq rfl args
theorem a38i (caps args : List AV) (H : Heap) : (lim aprog).icall (.func 38 caps) args H = bodyA (lim aprog) a38 (args ++ caps) H := lim_fcall_eq rfl caps args H
theorem a39p (args : List AV) : (lim aprog).pcall 39 args = pbodyA (lim aprog) a39 args := lim_pcall_eq rfl args
theorem a39i (caps args : List AV) (H : Heap) : (lim aprog).icall (.func 39 caps) args H = bodyA (lim aprog) a39 (args ++ caps) H := lim_fcall_eq rfl caps args H
theorem a40p (args : List AV) : (lim aprog).pcall 40 args = pbodyA (lim aprog) a40 args := lim_pcall_eq rfl args
theorem a40i (caps args : List AV) (H : Heap) : (lim aprog).icall (.func 40 caps) args H = bodyA (lim aprog) a40 (args ++ caps) H := lim_fcall_eq rfl caps args H
theorem a41p (args : List AV) : (lim aprog).pcall 41 args = pbodyA (lim aprog) a41 args := lim_pcall_eq rfl args
theorem a41i (caps args : List AV) (H : Heap) : (lim aprog).icall (.func 41 caps) args H = bodyA (lim aprog) a41 (args ++ caps) H := lim_fcall_eq rfl caps args H
theorem a42p (args : List AV) : (lim aprog).pcall 42 args = pbodyA (lim aprog) a42 args := lim_pcall_eq rfl args
theorem a42i (caps args : List AV) (H : Heap) : (lim aprog).icall (.func 42 caps) args H = bodyA (lim aprog) a42 (args ++ caps) H := lim_fcall_eq rfl caps args H
theorem a43p (args : List AV) : (lim aprog).pcall 43 args = pbodyA (lim aprog) a43 args := lim_pcall_eq rfl args
theorem a43i (caps args : List AV) (H : Heap) : (lim aprog).icall (.func 43 caps) args H = bodyA (lim aprog) a43 (args ++ caps) H := lim_fcall_eq rfl caps args H
theorem a44p (args : List AV) : (lim aprog).pcall 44 args = pbodyA (lim aprog) a44 args := lim_pcall_eq rfl args
theorem a44i (caps args : List AV) (H : Heap) : (lim aprog).icall (.func 44 caps) args H = bodyA (lim aprog) a44 (args ++ caps) H := lim_fcall_eq rfl caps args H
theorem a45p (args : List AV) : (lim aprog).pcall 45 args = pbodyA (lim aprog) a45 args := lim_pcall_eq rfl args
theorem a45i (caps args : List AV) (H : Heap) : (lim aprog).icall (.func 45 caps) args H = bodyA (lim aprog) a45 (args ++ caps) H := lim_fcall_eq rfl caps args H
theorem a46p (args : List AV) : (lim aprog).pcall 46 args = pbodyA (lim aprog) a46 args := lim_pcall_eq rfl args
theorem a46i (caps args : List AV) (H : Heap) : (lim aprog).icall (.func 46 caps) args H = bodyA (lim aprog) a46 (args ++ caps) H := lim_fcall_eq rfl caps args H
theorem a47p (args : List AV) : (lim aprog).pcall 47 args = pbodyA (lim aprog) a47 args := lim_pcall_eq rfl args
theorem a47i (caps args : List AV) (H : Heap) : (lim aprog).icall (.func 47 caps) args H = bodyA (lim aprog) a47 (args ++ caps) H := lim_fcall_eq rfl caps args H
theorem a48p (args : List AV) : (lim aprog).pcall 48 args = pbodyA (lim aprog) a48 args := lim_pcall_eq rfl args
theorem a48i (caps args : List AV) (H : Heap) : (lim aprog).icall (.func 48 caps) args H = bodyA (lim aprog) a48 (args ++ caps) H := lim_fcall_eq rfl caps args H
theorem a49p (args : List AV) : (lim aprog).pcall 49 args = pbodyA (lim aprog) a49 args := lim_pcall_eq rfl args
theorem a49i (caps args : List AV) (H : Heap) : (lim aprog).icall (.func 49 caps) args H = bodyA (lim aprog) a49 (args ++ caps) H := lim_fcall_eq rfl caps args H
theorem a50p (args : List AV) : (lim aprog).pcall 50 args = pbodyA (lim aprog) a50 args := lim_pcall_eq rfl args
theorem a50i (caps args : List AV) (H : Heap) : (lim aprog).icall (.func 50 caps) args H = bodyA (lim aprog) a50 (args ++ caps) H := lim_fcall_eq rfl caps args H
theorem a51p (args : List AV) : (lim aprog).pcall 51 args = pbodyA (lim aprog) a51 args := lim_pcall_eq rfl args
theorem a51i (caps args : List AV) (H : Heap) : (lim aprog).icall (.func 51 caps) args H = bodyA (lim aprog) a51 (args ++ caps) H := lim_fcall_eq rfl caps args H
theorem a52p (args : List AV) : (lim aprog).pcall 52 args = pbodyA (lim aprog) a52 args := lim_pcall_eq rfl args
theorem a52i (caps args : List AV) (H : Heap) : (lim aprog).icall (.func 52 caps) args H = bodyA (lim aprog) a52 (args ++ caps) H := lim_fcall_eq rfl caps args H
theorem a53p (args : List AV) : (lim aprog).pcall 53 args = pbodyA (lim aprog) a53 args := lim_pcall_eq rfl args
theorem a53i (caps args : List AV) (H : Heap) : (lim aprog).icall (.func 53 caps) args H = bodyA (lim aprog) a53 (args ++ caps) H := lim_fcall_eq rfl caps args H
theorem a54p (args : List AV) : (lim aprog).pcall 54 args = pbodyA (lim aprog) a54 args := lim_pcall_eq rfl args
theorem a54i (caps args : List AV) (H : Heap) : (lim aprog).icall (.func 54 caps) args H = bodyA (lim aprog) a54 (args ++ caps) H := lim_fcall_eq rfl caps args H
theorem a55p (args : List AV) : (lim aprog).pcall 55 args = pbodyA (lim aprog) a55 args := lim_pcall_eq rfl args
theorem a55i (caps args : List AV) (H : Heap) : (lim aprog).icall (.func 55 caps) args H = bodyA (lim aprog) a55 (args ++ caps) H := lim_fcall_eq rfl caps args H
theorem a56p (args : List AV) : (lim aprog).pcall 56 args = pbodyA (lim aprog) a56 args := lim_pcall_eq rfl args
theorem a56i (caps args : List AV) (H : Heap) : (lim aprog).icall (.func 56 caps) args H = bodyA (lim aprog) a56 (args ++ caps) H := lim_fcall_eq rfl caps args H
theorem a57p (args : List AV) : (lim aprog).pcall 57 args = pbodyA (lim aprog) a57 args := lim_pcall_eq rfl args
theorem a57i (caps args : List AV) (H : Heap) : (lim aprog).icall (.func 57 caps) args H = bodyA (lim aprog) a57 (args ++ caps) H := lim_fcall_eq rfl caps args H
theorem a58p (args : List AV) : (lim aprog).pcall 58 args = pbodyA (lim aprog) a58 args := lim_pcall_eq rfl args
theorem a58i (caps args : List AV) (H : Heap) : (lim aprog).icall (.func 58 caps) args H = bodyA (lim aprog) a58 (args ++ caps) H := lim_fcall_eq rfl caps args H
theorem a59p (args : List AV) : (lim aprog).pcall 59 args = pbodyA (lim aprog) a59 args := lim_pcall_eq rfl args
theorem a59i (caps args : List AV) (H : Heap) : (lim aprog).icall (.func 59 caps) args H = bodyA (lim aprog) a59 (args ++ caps) H := lim_fcall_eq rfl caps args H
theorem a60p (args : List AV) : (lim aprog).pcall 60 args = pbodyA (lim aprog) a60 args := lim_pcall_eq rfl args
theorem a60i (caps args : List AV) (H : Heap) : (lim aprog).icall (.func 60 caps) args H = bodyA (lim aprog) a60 (args ++ caps) H := lim_fcall_eq rfl caps args H
theorem a61p (args : List AV) : (lim aprog).pcall 61 args = pbodyA (lim aprog) a61 args := lim_pcall_eq rfl args
theorem a61i (caps args : List AV) (H : Heap) : (lim aprog).icall (.func 61 caps) args H = bodyA (lim aprog) a61 (args ++ caps) H := lim_fcall_eq rfl caps args H
theorem a62p (args : List AV) : (lim aprog).pcall 62 args = pbodyA (lim aprog) a62 args := lim_pcall_eq rfl args
theorem a62i (caps args : List AV) (H : Heap) : (lim aprog).icall (.func 62 caps) args H = bodyA (lim aprog) a62 (args ++ caps) H := lim_fcall_eq rfl caps args H
theorem a63p (args : List AV) : (lim aprog).pcall 63 args = pbodyA (lim aprog) a63 args := lim_pcall_eq rfl args
theorem a63i (caps args : List AV) (H : Heap) : (lim aprog).icall (.func 63 caps) args H = bodyA (lim aprog) a63 (args ++ caps) H := lim_fcall_eq rfl caps args H
theorem a64p (args : List AV) : (lim aprog).pcall 64 args = pbodyA (lim aprog) a64 args := lim_pcall_eq rfl args
theorem a64i (caps args : List AV) (H : Heap) : (lim aprog).icall (.func 64 caps) args H = bodyA (lim aprog) a64 (args ++ caps) H := lim_fcall_eq rfl caps args H
theorem a65p (args : List AV) : (lim aprog).pcall 65 args = pbodyA (lim aprog) a65 args := lim_pcall_eq rfl args
theorem a65i (caps args : List AV) (H : Heap) : (lim aprog).icall (.func 65 caps) args H = bodyA (lim aprog) a65 (args ++ caps) H := lim_fcall_eq rfl caps args H
theorem a66p (args : List AV) : (lim aprog).pcall 66 args = pbodyA (lim aprog) a66 args := lim_pcall_eq rfl args
theorem a66i (caps args : List AV) (H : Heap) : (lim aprog).icall (.func 66 caps) args H = bodyA (lim aprog) a66 (args ++ caps) H := lim_fcall_eq rfl caps args H
theorem a67p (args : List AV) : (lim aprog).pcall 67 args = pbodyA (lim aprog) a67 args := lim_pcall_eq rfl args
theorem a67i (caps args : List AV) (H : Heap) : (lim aprog).icall (.func 67 caps) args H = bodyA (lim aprog) a67 (args ++ caps) H := lim_fcall_eq rfl caps args H
theorem a68p (args : List AV) : (lim aprog).pcall 68 args = pbodyA (lim aprog) a68 args := lim_pcall_eq rfl args
theorem a68i (caps args : List AV) (H : Heap) : (lim aprog).icall (.func 68 caps) args H = bodyA (lim aprog) a68 (args ++ caps) H := lim_fcall_eq rfl caps args H
theorem a69p (args : List AV) : (lim aprog).pcall 69 args = pbodyA (lim aprog) a69 args := lim_pcall_eq rfl args
theorem a69i (caps args : List AV) (H : Heap) : (lim aprog).icall (.func 69 caps) args H = bodyA (lim aprog) a69 (args ++ caps) H := lim_fcall_eq rfl caps args H
theorem a70p (args : List AV) : (lim aprog).pcall 70 args = pbodyA (lim aprog) a70 args := lim_pcall_eq rfl args
theorem a70i (caps args : List AV) (H : Heap) : (lim aprog).icall (.func 70 caps) args H = bodyA (lim aprog) a70 (args ++ caps) H := lim_fcall_eq rfl caps args H
theorem a71p (args : List AV) : (lim aprog).pcall 71 args = pbodyA (lim aprog) a71 args := lim_pcall_eq rfl args
theorem a71i (caps args : List AV) (H : Heap) : (lim aprog).icall (.func 71 caps) args H = bodyA (lim aprog) a71 (args ++ caps) H := lim_fcall_eq rfl caps args H
theorem a72p (args : List AV) : (lim aprog).pcall 72 args = pbodyA (lim aprog) a72 args := lim_pcall_eq rfl args
theorem a72i (caps args : List AV) (H : Heap) : (lim aprog).icall (.func 72 caps) args H = bodyA (lim aprog) a72 (args ++ caps) H := lim_fcall_eq rfl caps args H
theorem a73p (args : List AV) : (lim aprog).pcall 73 args = pbodyA (lim aprog) a73 args := lim_pcall_eq rfl args
theorem a73i (caps args : List AV) (H : Heap) : (lim aprog).icall (.func 73 caps) args H = bodyA (lim aprog) a73 (args ++ caps) H := lim_fcall_eq rfl caps args H
theorem a74p (args : List AV) : (lim aprog).pcall 74 args = pbodyA (lim aprog) a74 args := lim_pcall_eq rfl args
theorem a74i (caps args : List AV) (H : Heap) : (lim aprog).icall (.func 74 caps) args H = bodyA (lim aprog) a74 (args ++ caps) H := lim_fcall_eq rfl caps args H
theorem a75p (args : List AV) : (lim aprog).pcall 75 args = pbodyA (lim aprog) a75 args := lim_pcall_eq rfl args
theorem a75i (caps args : List AV) (H : Heap) : (lim aprog).icall (.func 75 caps) args H = bodyA (lim aprog) a75 (args ++ caps) H := lim_fcall_eq rfl caps args H
theorem a76p (args : List AV) : (lim aprog).pcall 76 args = pbodyA (lim aprog) a76 args := lim_pcall_eq rfl args
theorem a76i (caps args : List AV) (H : Heap) : (lim aprog).icall (.func 76 caps) args H = bodyA (lim aprog) a76 (args ++ caps) H := lim_fcall_eq rfl caps args H
theorem a77p (args : List AV) : (lim aprog).pcall 77 args = pbodyA (lim aprog) a77 args := lim_pcall_eq rfl args
theorem a77i (caps args : List AV) (H : Heap) : (lim aprog).icall (.func 77 caps) args H = bodyA (lim aprog) a77 (args ++ caps) H := lim_fcall_eq rfl caps args H
theorem a78p (args : List AV) : (lim aprog).pcall 78 args = pbodyA (lim aprog) a78 args := lim_pcall_eq rfl args
theorem a78i (caps args : List AV) (H : Heap) : (lim aprog).icall (.func 78 caps) args H = bodyA (lim aprog) a78 (args ++ caps) H := lim_fcall_eq rfl caps args H
end Go.Abs.Nfa
