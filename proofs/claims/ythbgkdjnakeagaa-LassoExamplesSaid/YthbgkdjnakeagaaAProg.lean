/- The functions in the interpreter's words. -/
import Derived.Test.YthbgkdjnakeagaaAbsEnc
import Derived.Test.YthbgkdjnakeagaaProg
namespace Go.Abs.Lasso
open Go Go.Abs
/-- gosem.cut.init -/
def a2 : AFunc := ⟨1,
  .stuck,
  []⟩

/-- sentinel/sentinellaw22.LassoFormsMatch -/
def a3 : AFunc := ⟨80,
  .seq (.region [⟨some 4, .box (.t 0), none⟩,
     ⟨some 8, .mov (.c (.bool false)), none⟩])
  (.seq (.seq (.region [⟨some 14, .load true 2 (.t 4), none⟩,
       ⟨some 15, .bslice true [.sl true 0 [], .sl true 0 []] 2 1 [(0, (.t 14))], none⟩,
       ⟨some 16, .call 9 [(.t 15)], none⟩,
       ⟨some 17, .mov (.t 16), none⟩,
       ⟨some 18, .mov (.t 2), some (17, false)⟩,
       ⟨some 19, .len (.t 18), some (17, false)⟩,
       ⟨some 20, .bin .gtr (.t 19) (.c (.int Go.IntKind.i64 70)), some (17, false)⟩,
       ⟨some 21, .pick (.t 17) (.c (.bool true)) (.t 20), none⟩])
    (.cond (.t 21)
     (.seq (.region [⟨some 22, .call 10 [], none⟩,
         ⟨some 8, .mov (.t 22), none⟩])
      (.ret))
     (.skip)))
   (.seq (.region [⟨some 23, .load true 2 (.t 4), none⟩,
       ⟨some 24, .call 11 [(.t 23)], none⟩,
       ⟨some 9, .box (.c (.agg [.sl true 0 [], .sl true 0 []])), none⟩,
       ⟨none, .store 2 (.t 9) (.t 24), none⟩])
    (.seq (.drawp [] [] 16 [⟨some 25, .load true 2 (.t 9), none⟩,
        ⟨some 26, .ocall 12 [(.t 25)], none⟩,
        ⟨some 27, .load true 2 (.t 9), none⟩,
        ⟨some 28, .mov (.t 1), none⟩,
        ⟨some 29, .ocall 13 [(.t 27), (.t 28)], none⟩,
        ⟨some 30, .mov (.t 2), none⟩,
        ⟨some 31, .append true 1 1 (.c (.sl true 0 [])) (.t 30), none⟩,
        ⟨some 32, .load true 2 (.t 9), none⟩,
        ⟨some 33, .ocall 14 [(.t 31), (.t 32)], none⟩,
        ⟨some 34, .load true 2 (.t 9), none⟩,
        ⟨some 35, .mov (.t 3), none⟩,
        ⟨some 36, .ocall 15 [(.t 34), (.t 35)], none⟩,
        ⟨some 10, .box (.c (.agg [.sl true 0 [], .sl true 0 []])), none⟩,
        ⟨some 11, .box (.c (.agg [.sl true 0 [], .sl true 0 []])), none⟩,
        ⟨some 12, .box (.c (.agg [.sl true 0 [], .sl true 0 []])), none⟩,
        ⟨some 13, .box (.c (.agg [.sl true 0 [], .sl true 0 []])), none⟩,
        ⟨none, .store 2 (.t 10) (.t 26), none⟩,
        ⟨none, .store 2 (.t 11) (.t 29), none⟩,
        ⟨none, .store 2 (.t 12) (.t 33), none⟩,
        ⟨none, .store 2 (.t 13) (.t 36), none⟩])
     (.seq (.seq (.draw 26 [⟨some 37, .load true 2 (.t 10), none⟩,
          ⟨some 38, .load true 2 (.t 4), none⟩,
          ⟨some 39, .call 17 [(.t 38)], none⟩,
          ⟨some 40, .call 16 [(.t 37), (.t 39)], none⟩,
          ⟨some 41, .un .not (.t 40), none⟩,
          ⟨some 42, .mov (.t 41), none⟩,
          ⟨some 43, .load true 2 (.t 11), some (42, false)⟩,
          ⟨some 44, .load true 2 (.t 4), some (42, false)⟩,
          ⟨some 45, .mov (.t 1), some (42, false)⟩,
          ⟨some 46, .call 18 [(.t 44), (.t 45)], some (42, false)⟩,
          ⟨some 47, .call 16 [(.t 43), (.t 46)], some (42, false)⟩,
          ⟨some 48, .un .not (.t 47), some (42, false)⟩,
          ⟨some 49, .pick (.t 42) (.c (.bool true)) (.t 48), none⟩,
          ⟨some 50, .mov (.t 49), none⟩,
          ⟨some 51, .load true 2 (.t 12), some (50, false)⟩,
          ⟨some 52, .mov (.t 2), some (50, false)⟩,
          ⟨some 53, .load true 2 (.t 4), some (50, false)⟩,
          ⟨some 54, .call 19 [(.t 52), (.t 53)], some (50, false)⟩,
          ⟨some 55, .call 16 [(.t 51), (.t 54)], some (50, false)⟩,
          ⟨some 56, .un .not (.t 55), some (50, false)⟩,
          ⟨some 57, .pick (.t 50) (.c (.bool true)) (.t 56), none⟩,
          ⟨some 58, .mov (.t 57), none⟩,
          ⟨some 59, .load true 2 (.t 13), some (58, false)⟩,
          ⟨some 60, .load true 2 (.t 4), some (58, false)⟩,
          ⟨some 61, .mov (.t 3), some (58, false)⟩,
          ⟨some 62, .call 20 [(.t 60), (.t 61)], some (58, false)⟩,
          ⟨some 63, .call 16 [(.t 59), (.t 62)], some (58, false)⟩,
          ⟨some 64, .un .not (.t 63), some (58, false)⟩,
          ⟨some 65, .pick (.t 58) (.c (.bool true)) (.t 64), none⟩])
       (.cond (.t 65)
        (.seq (.region [⟨some 8, .mov (.c (.bool false)), none⟩])
         (.ret))
        (.skip)))
      (.seq (.region [⟨some 66, .load true 2 (.t 10), none⟩,
          ⟨some 67, .icall (.c (.func 21 [])) [(.t 66)], none⟩])
       (.seq (.region [⟨some 68, .load true 2 (.t 11), none⟩,
           ⟨some 69, .icall (.c (.func 21 [])) [(.t 68)], none⟩])
        (.seq (.region [⟨some 70, .load true 2 (.t 12), none⟩,
            ⟨some 71, .icall (.c (.func 21 [])) [(.t 70)], none⟩])
         (.seq (.region [⟨some 72, .load true 2 (.t 13), none⟩,
             ⟨some 73, .icall (.c (.func 21 [])) [(.t 72)], none⟩])
          (.seq (.region [⟨some 74, .load true 2 (.t 9), none⟩,
              ⟨some 75, .load true 2 (.t 4), none⟩,
              ⟨some 76, .call 16 [(.t 74), (.t 75)], none⟩,
              ⟨some 77, .mov (.t 76), none⟩,
              ⟨some 78, .call 10 [], some (77, true)⟩,
              ⟨some 79, .pick (.t 77) (.t 78) (.c (.bool false)), none⟩,
              ⟨some 8, .mov (.t 79), none⟩])
           (.ret)))))))))),
  [.tmp 8]⟩

def a4l0b : ACode :=
  .seq (.seq (.region [⟨some 54, .mov (.t 11), none⟩,
      ⟨some 55, .mov (.t 10), none⟩,
      ⟨some 56, .len (.t 55), none⟩,
      ⟨some 57, .bin .lss (.t 54) (.t 56), none⟩])
   (.cond (.t 57)
    (.skip)
    (.exit 0)))
  (.seq (.block 1 (.region [⟨some 60, .mov (.t 10), none⟩,
       ⟨some 61, .mov (.t 11), none⟩,
       ⟨some 62, .iaddr 1 (.t 60) (.t 61), none⟩,
       ⟨none, .store 1 (.t 62) (.c (.int Go.IntKind.u8 77)), none⟩]))
   (.region [⟨some 58, .mov (.t 11), none⟩,
      ⟨some 59, .bin .add (.t 58) (.c (.int Go.IntKind.i64 1)), none⟩,
      ⟨some 11, .mov (.t 59), none⟩]))

def a4l0 : ACode := a4l0b
def a4l0s : List Nat := [0, 1, 2, 3, 5, 6, 7, 8, 12, 13, 14, 15, 16, 17, 18, 19, 20, 21, 22, 23, 24, 25, 26, 27, 28, 29, 30, 31, 32, 33, 34, 35, 36, 37, 38, 39, 40, 41, 42, 43, 44, 45, 46, 47, 48, 49, 50, 51, 52, 53, 54, 55, 56, 57, 58, 59, 60, 61, 62, 63, 64, 65, 66, 67, 68]
abbrev a4l0F (s4 s9 s10 s11 : AV) : List AV := [.any, .any, .any, .any, s4, .any, .any, .any, .any, s9, s10, s11, .any, .any, .any, .any, .any, .any, .any, .any, .any, .any, .any, .any, .any, .any, .any, .any, .any, .any, .any, .any, .any, .any, .any, .any, .any, .any, .any, .any, .any, .any, .any, .any, .any, .any, .any, .any, .any, .any, .any, .any, .any, .any, .any, .any, .any, .any, .any, .any, .any, .any, .any, .any, .any, .any, .any, .any, .any]
theorem a4l0c (s0 s1 s2 s3 s4 s5 s6 s7 s8 s9 s10 s11 s12 s13 s14 s15 s16 s17 s18 s19 s20 s21 s22 s23 s24 s25 s26 s27 s28 s29 s30 s31 s32 s33 s34 s35 s36 s37 s38 s39 s40 s41 s42 s43 s44 s45 s46 s47 s48 s49 s50 s51 s52 s53 s54 s55 s56 s57 s58 s59 s60 s61 s62 s63 s64 s65 s66 s67 s68 : AV) : clearA a4l0s [s0, s1, s2, s3, s4, s5, s6, s7, s8, s9, s10, s11, s12, s13, s14, s15, s16, s17, s18, s19, s20, s21, s22, s23, s24, s25, s26, s27, s28, s29, s30, s31, s32, s33, s34, s35, s36, s37, s38, s39, s40, s41, s42, s43, s44, s45, s46, s47, s48, s49, s50, s51, s52, s53, s54, s55, s56, s57, s58, s59, s60, s61, s62, s63, s64, s65, s66, s67, s68] = a4l0F s4 s9 s10 s11 := by kernel_rfl
theorem a4l0n {prog : Nat → Option AFunc} (s4 s9 s10 s11 : AV) (H : Heap) : (lim prog).loop a4l0s a4l0 ⟨a4l0F s4 s9 s10 s11, H⟩ = loopK (lim prog) a4l0s a4l0 (run (lim prog) a4l0b ⟨a4l0F s4 s9 s10 s11, H⟩) := lim_loop_step _ _ _ _ (by kernel_rfl)

/-- sentinel/sentinellaw22.LassoMatches -/
def a4 : AFunc := ⟨69,
  .seq (.region [⟨some 4, .box (.t 0), none⟩,
     ⟨some 8, .mov (.c (.bool false)), none⟩])
  (.seq (.seq (.region [⟨some 12, .load true 2 (.t 4), none⟩,
       ⟨some 13, .bslice true [.sl true 0 [], .sl true 0 []] 2 1 [(0, (.t 12))], none⟩,
       ⟨some 14, .call 9 [(.t 13)], none⟩])
    (.cond (.t 14)
     (.seq (.region [⟨some 15, .call 10 [], none⟩,
         ⟨some 8, .mov (.t 15), none⟩])
      (.ret))
     (.skip)))
   (.seq (.region [⟨some 16, .load true 2 (.t 4), none⟩,
       ⟨some 17, .call 11 [(.t 16)], none⟩,
       ⟨some 9, .box (.c (.agg [.sl true 0 [], .sl true 0 []])), none⟩,
       ⟨none, .store 2 (.t 9) (.t 17), none⟩])
    (.seq (.region [⟨some 18, .load true 2 (.t 9), none⟩,
        ⟨some 19, .mov (.t 3), none⟩,
        ⟨some 20, .call 22 [(.t 18), (.t 19)], none⟩,
        ⟨some 10, .mov (.t 20), none⟩])
     (.seq (.seq (.draw 29 [⟨some 21, .load true 2 (.t 9), none⟩,
          ⟨some 22, .mov (.t 1), none⟩,
          ⟨some 23, .call 23 [(.t 21), (.t 22)], none⟩,
          ⟨some 24, .load true 2 (.t 4), none⟩,
          ⟨some 25, .mov (.t 1), none⟩,
          ⟨some 26, .call 24 [(.t 24), (.t 25)], none⟩,
          ⟨some 27, .bin .neq (.t 23) (.t 26), none⟩,
          ⟨some 28, .mov (.t 27), none⟩,
          ⟨some 29, .load true 2 (.t 9), some (28, false)⟩,
          ⟨some 30, .mov (.t 2), some (28, false)⟩,
          ⟨some 31, .call 25 [(.t 29), (.t 30)], some (28, false)⟩,
          ⟨some 32, .load true 2 (.t 4), some (28, false)⟩,
          ⟨some 33, .mov (.t 2), some (28, false)⟩,
          ⟨some 34, .call 26 [(.t 32), (.t 33)], some (28, false)⟩,
          ⟨some 35, .bin .neq (.t 31) (.t 34), some (28, false)⟩,
          ⟨some 36, .pick (.t 28) (.c (.bool true)) (.t 35), none⟩,
          ⟨some 37, .mov (.t 36), none⟩,
          ⟨some 38, .load true 2 (.t 9), some (37, false)⟩,
          ⟨some 39, .mov (.t 2), some (37, false)⟩,
          ⟨some 40, .call 27 [(.t 38), (.t 39)], some (37, false)⟩,
          ⟨some 41, .load true 2 (.t 4), some (37, false)⟩,
          ⟨some 42, .mov (.t 2), some (37, false)⟩,
          ⟨some 43, .call 28 [(.t 41), (.t 42)], some (37, false)⟩,
          ⟨some 44, .bin .neq (.t 40) (.t 43), some (37, false)⟩,
          ⟨some 45, .pick (.t 37) (.c (.bool true)) (.t 44), none⟩,
          ⟨some 46, .mov (.t 45), none⟩,
          ⟨some 47, .mov (.t 10), some (46, false)⟩,
          ⟨some 48, .load true 2 (.t 4), some (46, false)⟩,
          ⟨some 49, .mov (.t 3), some (46, false)⟩,
          ⟨some 50, .call 30 [(.t 48), (.t 49)], some (46, false)⟩,
          ⟨some 51, .call 29 [(.t 47), (.t 50)], some (46, false)⟩,
          ⟨some 52, .un .not (.t 51), some (46, false)⟩,
          ⟨some 53, .pick (.t 46) (.c (.bool true)) (.t 52), none⟩])
       (.cond (.t 53)
        (.seq (.region [⟨some 8, .mov (.c (.bool false)), none⟩])
         (.ret))
        (.skip)))
      (.seq (.seq (.region [⟨some 11, .mov (.c (.int Go.IntKind.i64 0)), none⟩])
        (.block 0 (.loop a4l0s a4l0)))
       (.seq (.region [⟨some 63, .load true 2 (.t 9), none⟩,
           ⟨some 64, .load true 2 (.t 4), none⟩,
           ⟨some 65, .call 16 [(.t 63), (.t 64)], none⟩,
           ⟨some 66, .mov (.t 65), none⟩,
           ⟨some 67, .call 10 [], some (66, true)⟩,
           ⟨some 68, .pick (.t 66) (.t 67) (.c (.bool false)), none⟩,
           ⟨some 8, .mov (.t 68), none⟩])
        (.ret))))))),
  [.tmp 8]⟩

def a5l0b : ACode :=
  .seq (.region [⟨some 53, .bin .lss (.t 52) (.t 51), none⟩])
  (.seq (.cond (.t 53)
    (.skip)
    (.exit 0))
   (.seq (.block 1 (.seq (.region [⟨some 54, .iaddr 4 (.t 50) (.t 52), none⟩,
         ⟨some 55, .load true 4 (.t 54), none⟩,
         ⟨some 3, .box (.c (.agg [.sl true 0 [], .sl true 0 [], .int Go.IntKind.i64 0, .int Go.IntKind.i64 0])), none⟩,
         ⟨none, .store 4 (.t 3) (.t 55), none⟩])
      (.seq (.draw 7 [⟨some 56, .faddr 0 (.t 3), none⟩,
          ⟨some 57, .load true 2 (.t 56), none⟩,
          ⟨some 58, .faddr 2 (.t 3), none⟩,
          ⟨some 59, .load false 1 (.t 58), none⟩,
          ⟨some 60, .call 23 [(.t 57), (.t 59)], none⟩,
          ⟨some 61, .faddr 3 (.t 3), none⟩,
          ⟨some 62, .load false 1 (.t 61), none⟩,
          ⟨some 63, .bin .neq (.t 60) (.t 62), none⟩])
       (.cond (.t 63)
        (.seq (.region [⟨some 0, .mov (.c (.bool false)), none⟩])
         (.ret))
        (.skip)))))
    (.region [⟨some 64, .bin .add (.t 52) (.c (.int Go.IntKind.i64 1)), none⟩,
       ⟨some 52, .mov (.t 64), none⟩])))

def a5l0 : ACode := a5l0b
def a5l0s : List Nat := [1, 2, 3, 4, 5, 6, 7, 8, 9, 10, 11, 12, 13, 14, 15, 16, 17, 18, 19, 20, 21, 22, 23, 24, 25, 26, 27, 28, 29, 30, 31, 32, 33, 34, 35, 36, 37, 38, 39, 40, 41, 42, 43, 44, 45, 46, 47, 48, 49, 53, 54, 55, 56, 57, 58, 59, 60, 61, 62, 63, 64, 65, 66, 67, 68, 69, 70, 71, 72, 73, 74, 75, 76, 77, 78, 79, 80, 81, 82, 83, 84, 85, 86, 87, 88, 89, 90, 91, 92, 93, 94, 95, 96, 97, 98, 99, 100, 101, 102, 103, 104, 105, 106, 107, 108, 109, 110, 111, 112, 113, 114, 115, 116, 117, 118, 119, 120, 121, 122, 123, 124, 125, 126, 127, 128, 129, 130, 131, 132, 133]
abbrev a5l0F (s0 s50 s51 s52 : AV) : List AV := [s0, .any, .any, .any, .any, .any, .any, .any, .any, .any, .any, .any, .any, .any, .any, .any, .any, .any, .any, .any, .any, .any, .any, .any, .any, .any, .any, .any, .any, .any, .any, .any, .any, .any, .any, .any, .any, .any, .any, .any, .any, .any, .any, .any, .any, .any, .any, .any, .any, .any, s50, s51, s52, .any, .any, .any, .any, .any, .any, .any, .any, .any, .any, .any, .any, .any, .any, .any, .any, .any, .any, .any, .any, .any, .any, .any, .any, .any, .any, .any, .any, .any, .any, .any, .any, .any, .any, .any, .any, .any, .any, .any, .any, .any, .any, .any, .any, .any, .any, .any, .any, .any, .any, .any, .any, .any, .any, .any, .any, .any, .any, .any, .any, .any, .any, .any, .any, .any, .any, .any, .any, .any, .any, .any, .any, .any, .any, .any, .any, .any, .any, .any, .any, .any]
theorem a5l0c (s0 s1 s2 s3 s4 s5 s6 s7 s8 s9 s10 s11 s12 s13 s14 s15 s16 s17 s18 s19 s20 s21 s22 s23 s24 s25 s26 s27 s28 s29 s30 s31 s32 s33 s34 s35 s36 s37 s38 s39 s40 s41 s42 s43 s44 s45 s46 s47 s48 s49 s50 s51 s52 s53 s54 s55 s56 s57 s58 s59 s60 s61 s62 s63 s64 s65 s66 s67 s68 s69 s70 s71 s72 s73 s74 s75 s76 s77 s78 s79 s80 s81 s82 s83 s84 s85 s86 s87 s88 s89 s90 s91 s92 s93 s94 s95 s96 s97 s98 s99 s100 s101 s102 s103 s104 s105 s106 s107 s108 s109 s110 s111 s112 s113 s114 s115 s116 s117 s118 s119 s120 s121 s122 s123 s124 s125 s126 s127 s128 s129 s130 s131 s132 s133 : AV) : clearA a5l0s [s0, s1, s2, s3, s4, s5, s6, s7, s8, s9, s10, s11, s12, s13, s14, s15, s16, s17, s18, s19, s20, s21, s22, s23, s24, s25, s26, s27, s28, s29, s30, s31, s32, s33, s34, s35, s36, s37, s38, s39, s40, s41, s42, s43, s44, s45, s46, s47, s48, s49, s50, s51, s52, s53, s54, s55, s56, s57, s58, s59, s60, s61, s62, s63, s64, s65, s66, s67, s68, s69, s70, s71, s72, s73, s74, s75, s76, s77, s78, s79, s80, s81, s82, s83, s84, s85, s86, s87, s88, s89, s90, s91, s92, s93, s94, s95, s96, s97, s98, s99, s100, s101, s102, s103, s104, s105, s106, s107, s108, s109, s110, s111, s112, s113, s114, s115, s116, s117, s118, s119, s120, s121, s122, s123, s124, s125, s126, s127, s128, s129, s130, s131, s132, s133] = a5l0F s0 s50 s51 s52 := by kernel_rfl
theorem a5l0n {prog : Nat → Option AFunc} (s0 s50 s51 s52 : AV) (H : Heap) : (lim prog).loop a5l0s a5l0 ⟨a5l0F s0 s50 s51 s52, H⟩ = loopK (lim prog) a5l0s a5l0 (run (lim prog) a5l0b ⟨a5l0F s0 s50 s51 s52, H⟩) := lim_loop_step _ _ _ _ (by kernel_rfl)

/-- sentinel/sentinellaw22.LassoExamples -/
def a5 : AFunc := ⟨134,
  .seq (.region [⟨some 0, .mov (.c (.bool false)), none⟩])
  (.seq (.seq (.region [⟨some 11, .call 10 [], none⟩,
       ⟨some 12, .un .not (.t 11), none⟩,
       ⟨some 13, .mov (.t 12), none⟩,
       ⟨some 14, .pick (.t 13) (.c (.bool true)) (.c (.bool false)), none⟩,
       ⟨some 15, .mov (.t 14), none⟩,
       ⟨some 16, .pick (.t 15) (.c (.bool true)) (.c (.bool false)), none⟩])
    (.cond (.t 16)
     (.seq (.region [⟨some 0, .mov (.c (.bool false)), none⟩])
      (.ret))
     (.skip)))
   (.seq (.region [⟨some 17, .mkslice true [.int Go.IntKind.u8 0] 1 (.c (.int Go.IntKind.i64 65)) (.c (.int Go.IntKind.i64 65)), none⟩,
       ⟨some 1, .mov (.t 17), none⟩])
    (.seq (.seq (.draw 35 [⟨some 18, .build [.sl true 0 [], .sl true 0 []] [], none⟩,
         ⟨some 19, .build [.sl true 0 [], .sl true 0 [], .int Go.IntKind.i64 0, .int Go.IntKind.i64 0] [(0, 2, (.t 18)), (2, 1, (.c (.int Go.IntKind.i64 (-1)))), (3, 1, (.c (.int Go.IntKind.i64 7)))], none⟩,
         ⟨some 20, .bslice true [.int Go.IntKind.u8 0] 1 1 [(0, (.c (.int Go.IntKind.u8 9)))], none⟩,
         ⟨some 21, .call 31 [(.t 20)], none⟩,
         ⟨some 22, .build [.sl true 0 [], .sl true 0 [], .int Go.IntKind.i64 0, .int Go.IntKind.i64 0] [(0, 2, (.t 21)), (2, 1, (.c (.int Go.IntKind.i64 7))), (3, 1, (.c (.int Go.IntKind.i64 7)))], none⟩,
         ⟨some 23, .mov (.t 1), none⟩,
         ⟨some 24, .build [.sl true 0 [], .sl true 0 []] [(0, 1, (.t 23))], none⟩,
         ⟨some 25, .build [.sl true 0 [], .sl true 0 [], .int Go.IntKind.i64 0, .int Go.IntKind.i64 0] [(0, 2, (.t 24)), (2, 1, (.c (.int Go.IntKind.i64 1))), (3, 1, (.c (.int Go.IntKind.i64 3)))], none⟩,
         ⟨some 26, .mov (.t 1), none⟩,
         ⟨some 27, .bslice true [.int Go.IntKind.u8 0] 1 1 [(0, (.c (.int Go.IntKind.u8 9)))], none⟩,
         ⟨some 28, .build [.sl true 0 [], .sl true 0 []] [(0, 1, (.t 26)), (1, 1, (.t 27))], none⟩,
         ⟨some 29, .build [.sl true 0 [], .sl true 0 [], .int Go.IntKind.i64 0, .int Go.IntKind.i64 0] [(0, 2, (.t 28)), (2, 1, (.c (.int Go.IntKind.i64 1))), (3, 1, (.c (.int Go.IntKind.i64 4)))], none⟩,
         ⟨some 30, .mov (.t 1), none⟩,
         ⟨some 31, .build [.sl true 0 [], .sl true 0 []] [(1, 1, (.t 30))], none⟩,
         ⟨some 32, .build [.sl true 0 [], .sl true 0 [], .int Go.IntKind.i64 0, .int Go.IntKind.i64 0] [(0, 2, (.t 31)), (2, 1, (.c (.int Go.IntKind.i64 0))), (3, 1, (.c (.int Go.IntKind.i64 4)))], none⟩,
         ⟨some 33, .mov (.t 1), none⟩,
         ⟨some 34, .slice 1 (.t 33) none (some (.c (.int Go.IntKind.i64 64))) none, none⟩,
         ⟨some 35, .call 31 [(.t 34)], none⟩,
         ⟨some 36, .build [.sl true 0 [], .sl true 0 [], .int Go.IntKind.i64 0, .int Go.IntKind.i64 0] [(0, 2, (.t 35)), (2, 1, (.c (.int Go.IntKind.i64 0))), (3, 1, (.c (.int Go.IntKind.i64 0)))], none⟩,
         ⟨some 37, .bslice true [.int Go.IntKind.u8 0] 1 1 [(0, (.c (.int Go.IntKind.u8 1)))], none⟩,
         ⟨some 38, .call 31 [(.t 37)], none⟩,
         ⟨some 39, .build [.sl true 0 [], .sl true 0 [], .int Go.IntKind.i64 0, .int Go.IntKind.i64 0] [(0, 2, (.t 38)), (2, 1, (.c (.int Go.IntKind.i64 0))), (3, 1, (.c (.int Go.IntKind.i64 1)))], none⟩,
         ⟨some 40, .bslice true [.int Go.IntKind.u8 0] 1 1 [(0, (.c (.int Go.IntKind.u8 4)))], none⟩,
         ⟨some 41, .bslice true [.int Go.IntKind.u8 0] 1 1 [(0, (.c (.int Go.IntKind.u8 0)))], none⟩,
         ⟨some 42, .build [.sl true 0 [], .sl true 0 []] [(0, 1, (.t 40)), (1, 1, (.t 41))], none⟩,
         ⟨some 43, .build [.sl true 0 [], .sl true 0 [], .int Go.IntKind.i64 0, .int Go.IntKind.i64 0] [(0, 2, (.t 42)), (2, 1, (.c (.int Go.IntKind.i64 2))), (3, 1, (.c (.int Go.IntKind.i64 1)))], none⟩,
         ⟨some 44, .bslice true [.int Go.IntKind.u8 0] 1 1 [(0, (.c (.int Go.IntKind.u8 63)))], none⟩,
         ⟨some 45, .call 31 [(.t 44)], none⟩,
         ⟨some 46, .build [.sl true 0 [], .sl true 0 [], .int Go.IntKind.i64 0, .int Go.IntKind.i64 0] [(0, 2, (.t 45)), (2, 1, (.c (.int Go.IntKind.i64 6))), (3, 1, (.c (.int Go.IntKind.i64 0)))], none⟩,
         ⟨some 47, .bslice true [.int Go.IntKind.u8 0] 1 1 [(0, (.c (.int Go.IntKind.u8 64)))], none⟩,
         ⟨some 48, .call 31 [(.t 47)], none⟩,
         ⟨some 49, .build [.sl true 0 [], .sl true 0 [], .int Go.IntKind.i64 0, .int Go.IntKind.i64 0] [(0, 2, (.t 48)), (2, 1, (.c (.int Go.IntKind.i64 6))), (3, 1, (.c (.int Go.IntKind.i64 1)))], none⟩,
         ⟨some 50, .bslice true [.sl true 0 [], .sl true 0 [], .int Go.IntKind.i64 0, .int Go.IntKind.i64 0] 4 10 [(0, (.t 19)), (1, (.t 22)), (2, (.t 25)), (3, (.t 29)), (4, (.t 32)), (5, (.t 36)), (6, (.t 39)), (7, (.t 43)), (8, (.t 46)), (9, (.t 49))], none⟩,
         ⟨some 51, .len (.t 50), none⟩,
         ⟨some 52, .mov (.c (.int Go.IntKind.i64 0)), none⟩])
      (.block 0 (.loop a5l0s a5l0)))
     (.seq (.drawp [(4, 65)] [] 3 [⟨some 65, .mkslice false [.int Go.IntKind.u8 0] 1 (.c (.int Go.IntKind.i64 64)) (.c (.int Go.IntKind.i64 64)), none⟩,
         ⟨some 66, .mkslice false [.int Go.IntKind.u8 0] 1 (.c (.int Go.IntKind.i64 63)) (.c (.int Go.IntKind.i64 63)), none⟩,
         ⟨some 4, .mov (.t 65), none⟩,
         ⟨some 5, .mov (.t 66), none⟩])
      (.seq (.region [⟨some 67, .mov (.t 4), none⟩,
          ⟨some 68, .mov (.t 5), none⟩,
          ⟨some 69, .iaddr 1 (.t 67) (.c (.int Go.IntKind.i64 0)), none⟩,
          ⟨none, .store 1 (.t 69) (.c (.int Go.IntKind.u8 1)), none⟩,
          ⟨some 70, .iaddr 1 (.t 68) (.c (.int Go.IntKind.i64 0)), none⟩,
          ⟨none, .store 1 (.t 70) (.c (.int Go.IntKind.u8 1)), none⟩])
       (.seq (.region [⟨some 72, .mov (.t 4), none⟩,
           ⟨some 73, .call 31 [(.t 72)], none⟩,
           ⟨some 74, .mov (.t 5), none⟩,
           ⟨some 75, .call 31 [(.t 74)], none⟩,
           ⟨some 76, .call 32 [(.t 73), (.t 75)], none⟩,
           ⟨some 71, .mov (.t 76), none⟩,
           ⟨some 77, .ext 0 (.t 71), none⟩,
           ⟨some 78, .ext 1 (.t 71), none⟩,
           ⟨some 6, .box (.c (.agg [.sl true 0 [], .sl true 0 []])), none⟩,
           ⟨none, .store 2 (.t 6) (.t 77), none⟩,
           ⟨some 7, .mov (.t 78), none⟩])
        (.seq (.region [⟨some 79, .mkslice false [.int Go.IntKind.u8 0] 1 (.c (.int Go.IntKind.i64 65)) (.c (.int Go.IntKind.i64 65)), none⟩,
            ⟨some 8, .mov (.t 79), none⟩])
         (.seq (.region [⟨some 80, .mov (.t 8), none⟩,
             ⟨some 81, .iaddr 1 (.t 80) (.c (.int Go.IntKind.i64 0)), none⟩,
             ⟨none, .store 1 (.t 81) (.c (.int Go.IntKind.u8 1)), none⟩])
          (.seq (.region [⟨some 83, .mov (.t 4), none⟩,
              ⟨some 84, .call 31 [(.t 83)], none⟩,
              ⟨some 85, .mov (.t 8), none⟩,
              ⟨some 86, .call 31 [(.t 85)], none⟩,
              ⟨some 87, .call 32 [(.t 84), (.t 86)], none⟩,
              ⟨some 82, .mov (.t 87), none⟩,
              ⟨some 88, .ext 0 (.t 82), none⟩,
              ⟨some 89, .ext 1 (.t 82), none⟩,
              ⟨some 9, .box (.c (.agg [.sl true 0 [], .sl true 0 []])), none⟩,
              ⟨none, .store 2 (.t 9) (.t 88), none⟩,
              ⟨some 10, .mov (.t 89), none⟩])
           (.seq (.region [⟨some 90, .mov (.t 7), none⟩,
               ⟨some 91, .bin .eql (.t 90) (.c (.int Go.IntKind.i64 0)), none⟩,
               ⟨some 92, .mov (.t 91), none⟩,
               ⟨some 93, .faddr 1 (.t 6), some (92, true)⟩,
               ⟨some 94, .load false 1 (.t 93), some (92, true)⟩,
               ⟨some 95, .len (.t 94), some (92, true)⟩,
               ⟨some 96, .bin .eql (.t 95) (.c (.int Go.IntKind.i64 4032)), some (92, true)⟩,
               ⟨some 97, .pick (.t 92) (.t 96) (.c (.bool false)), none⟩,
               ⟨some 98, .mov (.t 97), none⟩,
               ⟨some 99, .mov (.t 10), some (98, true)⟩,
               ⟨some 100, .bin .eql (.t 99) (.c (.int Go.IntKind.i64 4)), some (98, true)⟩,
               ⟨some 101, .pick (.t 98) (.t 100) (.c (.bool false)), none⟩,
               ⟨some 102, .mov (.t 101), none⟩,
               ⟨some 103, .bslice true [.int Go.IntKind.u8 0] 1 1 [(0, (.c (.int Go.IntKind.u8 1)))], some (102, true)⟩,
               ⟨some 104, .call 31 [(.t 103)], some (102, true)⟩,
               ⟨some 105, .call 22 [(.t 104), (.c (.int Go.IntKind.i64 1099511627776))], some (102, true)⟩,
               ⟨some 106, .len (.t 105), some (102, true)⟩,
               ⟨some 107, .bin .eql (.t 106) (.c (.int Go.IntKind.i64 4096)), some (102, true)⟩,
               ⟨some 108, .pick (.t 102) (.t 107) (.c (.bool false)), none⟩,
               ⟨some 109, .mov (.t 108), none⟩,
               ⟨some 110, .bslice true [.int Go.IntKind.u8 0] 1 1 [(0, (.c (.int Go.IntKind.u8 1)))], some (109, true)⟩,
               ⟨some 111, .call 31 [(.t 110)], some (109, true)⟩,
               ⟨some 112, .call 22 [(.t 111), (.c (.int Go.IntKind.i64 (-1)))], some (109, true)⟩,
               ⟨some 113, .len (.t 112), some (109, true)⟩,
               ⟨some 114, .bin .eql (.t 113) (.c (.int Go.IntKind.i64 0)), some (109, true)⟩,
               ⟨some 115, .pick (.t 109) (.t 114) (.c (.bool false)), none⟩,
               ⟨some 116, .mov (.t 115), none⟩,
               ⟨some 117, .bslice true [.int Go.IntKind.u8 0] 1 1 [(0, (.c (.int Go.IntKind.u8 5)))], some (116, true)⟩,
               ⟨some 118, .call 31 [(.t 117)], some (116, true)⟩,
               ⟨some 119, .call 25 [(.t 118), (.c (.int Go.IntKind.i64 (-1)))], some (116, true)⟩,
               ⟨some 120, .bin .eql (.t 119) (.c (.int Go.IntKind.u8 0)), some (116, true)⟩,
               ⟨some 121, .pick (.t 116) (.t 120) (.c (.bool false)), none⟩,
               ⟨some 122, .mov (.t 121), none⟩,
               ⟨some 123, .bslice true [.int Go.IntKind.u8 0] 1 1 [(0, (.c (.int Go.IntKind.u8 1)))], some (122, true)⟩,
               ⟨some 124, .build [.sl true 0 [], .sl true 0 []] [(0, 1, (.t 123))], some (122, true)⟩,
               ⟨some 125, .call 27 [(.t 124), (.c (.int Go.IntKind.i64 9))], some (122, true)⟩,
               ⟨some 126, .bin .eql (.t 125) (.c (.int Go.IntKind.i64 1)), some (122, true)⟩,
               ⟨some 127, .pick (.t 122) (.t 126) (.c (.bool false)), none⟩,
               ⟨some 128, .mov (.t 127), none⟩,
               ⟨some 129, .bslice true [.int Go.IntKind.u8 0] 1 3 [(0, (.c (.int Go.IntKind.u8 1))), (1, (.c (.int Go.IntKind.u8 2))), (2, (.c (.int Go.IntKind.u8 3)))], some (128, true)⟩,
               ⟨some 130, .call 31 [(.t 129)], some (128, true)⟩,
               ⟨some 131, .call 25 [(.t 130), (.c (.int Go.IntKind.i64 4611686018427387904))], some (128, true)⟩,
               ⟨some 132, .bin .eql (.t 131) (.c (.int Go.IntKind.u8 2)), some (128, true)⟩,
               ⟨some 133, .pick (.t 128) (.t 132) (.c (.bool false)), none⟩,
               ⟨some 0, .mov (.t 133), none⟩])
            (.ret))))))))))),
  [.tmp 0]⟩

/-- sentinel/sentinellaw22.LassoOrder -/
def a6 : AFunc := ⟨84,
  .seq (.region [⟨some 4, .box (.t 0), none⟩,
     ⟨some 5, .box (.t 1), none⟩,
     ⟨some 6, .box (.t 2), none⟩,
     ⟨some 8, .mov (.c (.bool false)), none⟩])
  (.seq (.seq (.region [⟨some 12, .load true 2 (.t 4), none⟩,
       ⟨some 13, .load true 2 (.t 5), none⟩,
       ⟨some 14, .load true 2 (.t 6), none⟩,
       ⟨some 15, .bslice true [.sl true 0 [], .sl true 0 []] 2 3 [(0, (.t 12)), (1, (.t 13)), (2, (.t 14))], none⟩,
       ⟨some 16, .call 9 [(.t 15)], none⟩,
       ⟨some 17, .mov (.t 16), none⟩,
       ⟨some 18, .mov (.t 3), some (17, false)⟩,
       ⟨some 19, .len (.t 18), some (17, false)⟩,
       ⟨some 20, .bin .gtr (.t 19) (.c (.int Go.IntKind.i64 70)), some (17, false)⟩,
       ⟨some 21, .pick (.t 17) (.c (.bool true)) (.t 20), none⟩,
       ⟨some 22, .mov (.t 21), none⟩,
       ⟨some 23, .call 10 [], some (22, false)⟩,
       ⟨some 24, .un .not (.t 23), some (22, false)⟩,
       ⟨some 25, .pick (.t 22) (.c (.bool true)) (.t 24), none⟩])
    (.cond (.t 25)
     (.seq (.region [⟨some 26, .call 10 [], none⟩,
         ⟨some 8, .mov (.t 26), none⟩])
      (.ret))
     (.skip)))
   (.seq (.draw 8 [⟨some 27, .load true 2 (.t 4), none⟩,
       ⟨some 28, .load true 2 (.t 5), none⟩,
       ⟨some 29, .call 33 [(.t 27), (.t 28)], none⟩,
       ⟨some 30, .load true 2 (.t 5), none⟩,
       ⟨some 31, .load true 2 (.t 6), none⟩,
       ⟨some 32, .call 33 [(.t 30), (.t 31)], none⟩,
       ⟨some 33, .load true 2 (.t 4), none⟩,
       ⟨some 34, .load true 2 (.t 6), none⟩,
       ⟨some 35, .call 33 [(.t 33), (.t 34)], none⟩,
       ⟨some 9, .mov (.t 29), none⟩,
       ⟨some 10, .mov (.t 32), none⟩,
       ⟨some 11, .mov (.t 35), none⟩])
    (.seq (.seq (.region [⟨some 36, .mov (.t 9), none⟩,
         ⟨some 37, .load true 2 (.t 5), none⟩,
         ⟨some 38, .load true 2 (.t 4), none⟩,
         ⟨some 39, .call 33 [(.t 37), (.t 38)], none⟩,
         ⟨some 40, .un .neg (.t 39), none⟩,
         ⟨some 41, .bin .neq (.t 36) (.t 40), none⟩,
         ⟨some 42, .mov (.t 41), none⟩,
         ⟨some 43, .mov (.t 9), some (42, false)⟩,
         ⟨some 44, .bin .eql (.t 43) (.c (.int Go.IntKind.i64 0)), some (42, false)⟩,
         ⟨some 45, .load true 2 (.t 4), some (42, false)⟩,
         ⟨some 46, .load true 2 (.t 5), some (42, false)⟩,
         ⟨some 47, .call 34 [(.t 45), (.t 46)], some (42, false)⟩,
         ⟨some 48, .beq true (.t 44) (.t 47), some (42, false)⟩,
         ⟨some 49, .pick (.t 42) (.c (.bool true)) (.t 48), none⟩,
         ⟨some 50, .mov (.t 49), none⟩,
         ⟨some 51, .mov (.t 9), some (50, false)⟩,
         ⟨some 52, .bin .lss (.t 51) (.c (.int Go.IntKind.i64 (-1))), some (50, false)⟩,
         ⟨some 53, .pick (.t 50) (.c (.bool true)) (.t 52), none⟩,
         ⟨some 54, .mov (.t 53), none⟩,
         ⟨some 55, .mov (.t 9), some (54, false)⟩,
         ⟨some 56, .bin .gtr (.t 55) (.c (.int Go.IntKind.i64 1)), some (54, false)⟩,
         ⟨some 57, .pick (.t 54) (.c (.bool true)) (.t 56), none⟩])
      (.cond (.t 57)
       (.seq (.region [⟨some 8, .mov (.c (.bool false)), none⟩])
        (.ret))
       (.skip)))
     (.seq (.seq (.region [⟨some 58, .mov (.t 9), none⟩,
          ⟨some 59, .mov (.t 10), none⟩,
          ⟨some 60, .bin .eql (.t 58) (.t 59), none⟩,
          ⟨some 61, .mov (.t 60), none⟩,
          ⟨some 62, .mov (.t 11), some (61, true)⟩,
          ⟨some 63, .mov (.t 9), some (61, true)⟩,
          ⟨some 64, .bin .neq (.t 62) (.t 63), some (61, true)⟩,
          ⟨some 65, .pick (.t 61) (.t 64) (.c (.bool false)), none⟩,
          ⟨some 66, .mov (.t 65), none⟩,
          ⟨some 67, .mov (.t 9), some (66, false)⟩,
          ⟨some 68, .bin .eql (.t 67) (.c (.int Go.IntKind.i64 0)), some (66, false)⟩,
          ⟨some 69, .mov (.t 68), some (66, false)⟩,
          ⟨some 70, .mov (.t 11), some (69, true)⟩,
          ⟨some 71, .mov (.t 10), some (69, true)⟩,
          ⟨some 72, .bin .neq (.t 70) (.t 71), some (69, true)⟩,
          ⟨some 73, .pick (.t 69) (.t 72) (.c (.bool false)), some (66, false)⟩,
          ⟨some 74, .pick (.t 66) (.c (.bool true)) (.t 73), none⟩])
       (.cond (.t 74)
        (.seq (.region [⟨some 8, .mov (.c (.bool false)), none⟩])
         (.ret))
        (.skip)))
      (.seq (.draw 8 [⟨some 75, .mov (.t 3), none⟩,
          ⟨some 76, .load true 2 (.t 4), none⟩,
          ⟨some 77, .call 14 [(.t 75), (.t 76)], none⟩,
          ⟨some 78, .mov (.t 3), none⟩,
          ⟨some 79, .load true 2 (.t 5), none⟩,
          ⟨some 80, .call 14 [(.t 78), (.t 79)], none⟩,
          ⟨some 81, .call 33 [(.t 77), (.t 80)], none⟩,
          ⟨some 82, .mov (.t 9), none⟩,
          ⟨some 83, .bin .eql (.t 81) (.t 82), none⟩,
          ⟨some 8, .mov (.t 83), none⟩])
       (.ret)))))),
  [.tmp 8]⟩

/-- sentinel/sentinellaw22.LassoMerge -/
def a7 : AFunc := ⟨143,
  .seq (.region [⟨some 4, .box (.t 0), none⟩,
     ⟨some 5, .box (.t 1), none⟩,
     ⟨some 8, .mov (.c (.bool false)), none⟩])
  (.seq (.seq (.region [⟨some 19, .load true 2 (.t 4), none⟩,
       ⟨some 20, .load true 2 (.t 5), none⟩,
       ⟨some 21, .bslice true [.sl true 0 [], .sl true 0 []] 2 2 [(0, (.t 19)), (1, (.t 20))], none⟩,
       ⟨some 22, .call 9 [(.t 21)], none⟩,
       ⟨some 23, .mov (.t 22), none⟩,
       ⟨some 24, .call 10 [], some (23, false)⟩,
       ⟨some 25, .un .not (.t 24), some (23, false)⟩,
       ⟨some 26, .pick (.t 23) (.c (.bool true)) (.t 25), none⟩])
    (.cond (.t 26)
     (.seq (.region [⟨some 27, .call 10 [], none⟩,
         ⟨some 8, .mov (.t 27), none⟩])
      (.ret))
     (.skip)))
   (.seq (.region [⟨some 29, .load true 2 (.t 4), none⟩,
       ⟨some 30, .load true 2 (.t 5), none⟩,
       ⟨some 31, .call 32 [(.t 29), (.t 30)], none⟩,
       ⟨some 28, .mov (.t 31), none⟩,
       ⟨some 32, .ext 0 (.t 28), none⟩,
       ⟨some 33, .ext 1 (.t 28), none⟩,
       ⟨some 9, .box (.c (.agg [.sl true 0 [], .sl true 0 []])), none⟩,
       ⟨none, .store 2 (.t 9) (.t 32), none⟩,
       ⟨some 10, .mov (.t 33), none⟩])
    (.seq (.region [⟨some 35, .load true 2 (.t 5), none⟩,
        ⟨some 36, .load true 2 (.t 4), none⟩,
        ⟨some 37, .call 32 [(.t 35), (.t 36)], none⟩,
        ⟨some 34, .mov (.t 37), none⟩,
        ⟨some 38, .ext 0 (.t 34), none⟩,
        ⟨some 39, .ext 1 (.t 34), none⟩,
        ⟨some 11, .box (.c (.agg [.sl true 0 [], .sl true 0 []])), none⟩,
        ⟨none, .store 2 (.t 11) (.t 38), none⟩,
        ⟨some 12, .mov (.t 39), none⟩])
     (.seq (.region [⟨some 41, .load true 2 (.t 4), none⟩,
         ⟨some 42, .load true 2 (.t 4), none⟩,
         ⟨some 43, .call 32 [(.t 41), (.t 42)], none⟩,
         ⟨some 40, .mov (.t 43), none⟩,
         ⟨some 44, .ext 0 (.t 40), none⟩,
         ⟨some 45, .ext 1 (.t 40), none⟩,
         ⟨some 13, .box (.c (.agg [.sl true 0 [], .sl true 0 []])), none⟩,
         ⟨none, .store 2 (.t 13) (.t 44), none⟩,
         ⟨some 14, .mov (.t 45), none⟩])
      (.seq (.draw 12 [⟨some 47, .load true 2 (.t 4), none⟩,
          ⟨some 48, .mov (.t 2), none⟩,
          ⟨some 49, .call 15 [(.t 47), (.t 48)], none⟩,
          ⟨some 50, .load true 2 (.t 4), none⟩,
          ⟨some 51, .mov (.t 2), none⟩,
          ⟨some 52, .un .xor (.t 51), none⟩,
          ⟨some 53, .call 15 [(.t 50), (.t 52)], none⟩,
          ⟨some 54, .call 32 [(.t 49), (.t 53)], none⟩,
          ⟨some 46, .mov (.t 54), none⟩,
          ⟨some 55, .ext 0 (.t 46), none⟩,
          ⟨some 56, .ext 1 (.t 46), none⟩,
          ⟨some 15, .box (.c (.agg [.sl true 0 [], .sl true 0 []])), none⟩,
          ⟨none, .store 2 (.t 15) (.t 55), none⟩,
          ⟨some 16, .mov (.t 56), none⟩])
       (.seq (.seq (.region [⟨some 57, .mov (.t 10), none⟩,
            ⟨some 58, .mov (.t 12), none⟩,
            ⟨some 59, .bin .neq (.t 57) (.t 58), none⟩,
            ⟨some 60, .mov (.t 59), none⟩,
            ⟨some 61, .load true 2 (.t 9), some (60, false)⟩,
            ⟨some 62, .load true 2 (.t 11), some (60, false)⟩,
            ⟨some 63, .call 16 [(.t 61), (.t 62)], some (60, false)⟩,
            ⟨some 64, .un .not (.t 63), some (60, false)⟩,
            ⟨some 65, .pick (.t 60) (.c (.bool true)) (.t 64), none⟩,
            ⟨some 66, .mov (.t 65), none⟩,
            ⟨some 67, .mov (.t 14), some (66, false)⟩,
            ⟨some 68, .bin .neq (.t 67) (.c (.int Go.IntKind.i64 0)), some (66, false)⟩,
            ⟨some 69, .pick (.t 66) (.c (.bool true)) (.t 68), none⟩,
            ⟨some 70, .mov (.t 69), none⟩,
            ⟨some 71, .load true 2 (.t 13), some (70, false)⟩,
            ⟨some 72, .load true 2 (.t 4), some (70, false)⟩,
            ⟨some 73, .call 34 [(.t 71), (.t 72)], some (70, false)⟩,
            ⟨some 74, .un .not (.t 73), some (70, false)⟩,
            ⟨some 75, .pick (.t 70) (.c (.bool true)) (.t 74), none⟩,
            ⟨some 76, .mov (.t 75), none⟩,
            ⟨some 77, .mov (.t 16), some (76, false)⟩,
            ⟨some 78, .bin .eql (.t 77) (.c (.int Go.IntKind.i64 0)), some (76, false)⟩,
            ⟨some 79, .mov (.t 78), some (76, false)⟩,
            ⟨some 80, .load true 2 (.t 15), some (79, true)⟩,
            ⟨some 81, .load true 2 (.t 4), some (79, true)⟩,
            ⟨some 82, .call 34 [(.t 80), (.t 81)], some (79, true)⟩,
            ⟨some 83, .un .not (.t 82), some (79, true)⟩,
            ⟨some 84, .pick (.t 79) (.t 83) (.c (.bool false)), some (76, false)⟩,
            ⟨some 85, .pick (.t 76) (.c (.bool true)) (.t 84), none⟩,
            ⟨some 86, .mov (.t 85), none⟩,
            ⟨some 87, .mov (.t 16), some (86, false)⟩,
            ⟨some 88, .bin .neq (.t 87) (.c (.int Go.IntKind.i64 0)), some (86, false)⟩,
            ⟨some 89, .mov (.t 88), some (86, false)⟩,
            ⟨some 90, .mov (.t 16), some (89, true)⟩,
            ⟨some 91, .bin .neq (.t 90) (.c (.int Go.IntKind.i64 4)), some (89, true)⟩,
            ⟨some 92, .pick (.t 89) (.t 91) (.c (.bool false)), some (86, false)⟩,
            ⟨some 93, .pick (.t 86) (.c (.bool true)) (.t 92), none⟩])
         (.cond (.t 93)
          (.seq (.region [⟨some 8, .mov (.c (.bool false)), none⟩])
           (.ret))
          (.skip)))
        (.seq (.seq (.region [⟨some 94, .mov (.t 10), none⟩,
             ⟨some 95, .bin .neq (.t 94) (.c (.int Go.IntKind.i64 0)), none⟩])
          (.cond (.t 95)
           (.seq (.region [⟨some 96, .mov (.t 10), none⟩,
               ⟨some 97, .bin .eql (.t 96) (.c (.int Go.IntKind.i64 4)), none⟩,
               ⟨some 98, .mov (.t 97), none⟩,
               ⟨some 99, .faddr 0 (.t 9), some (98, true)⟩,
               ⟨some 100, .load false 1 (.t 99), some (98, true)⟩,
               ⟨some 101, .len (.t 100), some (98, true)⟩,
               ⟨some 102, .faddr 1 (.t 9), some (98, true)⟩,
               ⟨some 103, .load false 1 (.t 102), some (98, true)⟩,
               ⟨some 104, .len (.t 103), some (98, true)⟩,
               ⟨some 105, .bin .add (.t 101) (.t 104), some (98, true)⟩,
               ⟨some 106, .bin .eql (.t 105) (.c (.int Go.IntKind.i64 0)), some (98, true)⟩,
               ⟨some 107, .pick (.t 98) (.t 106) (.c (.bool false)), none⟩,
               ⟨some 8, .mov (.t 107), none⟩])
            (.ret))
           (.skip)))
         (.seq (.draw 11 [⟨some 109, .load true 2 (.t 4), none⟩,
             ⟨some 110, .mov (.t 2), none⟩,
             ⟨some 111, .call 15 [(.t 109), (.t 110)], none⟩,
             ⟨some 112, .load true 2 (.t 5), none⟩,
             ⟨some 113, .mov (.t 2), none⟩,
             ⟨some 114, .call 15 [(.t 112), (.t 113)], none⟩,
             ⟨some 115, .call 32 [(.t 111), (.t 114)], none⟩,
             ⟨some 108, .mov (.t 115), none⟩,
             ⟨some 116, .ext 0 (.t 108), none⟩,
             ⟨some 117, .ext 1 (.t 108), none⟩,
             ⟨some 17, .box (.c (.agg [.sl true 0 [], .sl true 0 []])), none⟩,
             ⟨none, .store 2 (.t 17) (.t 116), none⟩,
             ⟨some 18, .mov (.t 117), none⟩])
          (.seq (.draw 22 [⟨some 118, .load true 2 (.t 9), none⟩,
              ⟨some 119, .mov (.t 3), none⟩,
              ⟨some 120, .conv Go.IntKind.i64 (.t 119), none⟩,
              ⟨some 121, .call 25 [(.t 118), (.t 120)], none⟩,
              ⟨some 122, .load true 2 (.t 4), none⟩,
              ⟨some 123, .mov (.t 3), none⟩,
              ⟨some 124, .conv Go.IntKind.i64 (.t 123), none⟩,
              ⟨some 125, .call 25 [(.t 122), (.t 124)], none⟩,
              ⟨some 126, .load true 2 (.t 5), none⟩,
              ⟨some 127, .mov (.t 3), none⟩,
              ⟨some 128, .conv Go.IntKind.i64 (.t 127), none⟩,
              ⟨some 129, .call 25 [(.t 126), (.t 128)], none⟩,
              ⟨some 130, .bin .or (.t 125) (.t 129), none⟩,
              ⟨some 131, .bin .eql (.t 121) (.t 130), none⟩,
              ⟨some 132, .mov (.t 131), none⟩,
              ⟨some 133, .mov (.t 18), some (132, true)⟩,
              ⟨some 134, .bin .neq (.t 133) (.c (.int Go.IntKind.i64 0)), some (132, true)⟩,
              ⟨some 135, .mov (.t 134), some (132, true)⟩,
              ⟨some 136, .load true 2 (.t 17), some (135, false)⟩,
              ⟨some 137, .load true 2 (.t 9), some (135, false)⟩,
              ⟨some 138, .mov (.t 2), some (135, false)⟩,
              ⟨some 139, .call 15 [(.t 137), (.t 138)], some (135, false)⟩,
              ⟨some 140, .call 34 [(.t 136), (.t 139)], some (135, false)⟩,
              ⟨some 141, .pick (.t 135) (.c (.bool true)) (.t 140), some (132, true)⟩,
              ⟨some 142, .pick (.t 132) (.t 141) (.c (.bool false)), none⟩,
              ⟨some 8, .mov (.t 142), none⟩])
           (.ret)))))))))),
  [.tmp 8]⟩

/-- sentinel/sentinellaw22.LassoSuffix -/
def a8 : AFunc := ⟨73,
  .seq (.region [⟨some 5, .box (.t 0), none⟩,
     ⟨some 10, .mov (.c (.bool false)), none⟩])
  (.seq (.seq (.region [⟨some 12, .load true 2 (.t 5), none⟩,
       ⟨some 13, .bslice true [.sl true 0 [], .sl true 0 []] 2 1 [(0, (.t 12))], none⟩,
       ⟨some 14, .call 9 [(.t 13)], none⟩,
       ⟨some 15, .mov (.t 14), none⟩,
       ⟨some 16, .mov (.t 1), some (15, false)⟩,
       ⟨some 17, .len (.t 16), some (15, false)⟩,
       ⟨some 18, .bin .gtr (.t 17) (.c (.int Go.IntKind.i64 70)), some (15, false)⟩,
       ⟨some 19, .pick (.t 15) (.c (.bool true)) (.t 18), none⟩,
       ⟨some 20, .mov (.t 19), none⟩,
       ⟨some 21, .call 10 [], some (20, false)⟩,
       ⟨some 22, .un .not (.t 21), some (20, false)⟩,
       ⟨some 23, .pick (.t 20) (.c (.bool true)) (.t 22), none⟩])
    (.cond (.t 23)
     (.seq (.region [⟨some 24, .call 10 [], none⟩,
         ⟨some 10, .mov (.t 24), none⟩])
      (.ret))
     (.skip)))
   (.seq (.region [⟨some 25, .load true 2 (.t 5), none⟩,
       ⟨some 26, .mov (.t 2), none⟩,
       ⟨some 27, .conv Go.IntKind.i64 (.t 26), none⟩,
       ⟨some 28, .call 13 [(.t 25), (.t 27)], none⟩,
       ⟨some 11, .box (.c (.agg [.sl true 0 [], .sl true 0 []])), none⟩,
       ⟨none, .store 2 (.t 11) (.t 28), none⟩])
    (.seq (.seq (.draw 24 [⟨some 29, .load true 2 (.t 11), none⟩,
         ⟨some 30, .mov (.t 3), none⟩,
         ⟨some 31, .conv Go.IntKind.i64 (.t 30), none⟩,
         ⟨some 32, .call 13 [(.t 29), (.t 31)], none⟩,
         ⟨some 33, .load true 2 (.t 5), none⟩,
         ⟨some 34, .mov (.t 2), none⟩,
         ⟨some 35, .conv Go.IntKind.i64 (.t 34), none⟩,
         ⟨some 36, .mov (.t 3), none⟩,
         ⟨some 37, .conv Go.IntKind.i64 (.t 36), none⟩,
         ⟨some 38, .bin .add (.t 35) (.t 37), none⟩,
         ⟨some 39, .call 13 [(.t 33), (.t 38)], none⟩,
         ⟨some 40, .call 34 [(.t 32), (.t 39)], none⟩,
         ⟨some 41, .un .not (.t 40), none⟩,
         ⟨some 42, .mov (.t 41), none⟩,
         ⟨some 43, .load true 2 (.t 11), some (42, false)⟩,
         ⟨some 44, .mov (.t 4), some (42, false)⟩,
         ⟨some 45, .conv Go.IntKind.i64 (.t 44), some (42, false)⟩,
         ⟨some 46, .call 25 [(.t 43), (.t 45)], some (42, false)⟩,
         ⟨some 47, .load true 2 (.t 5), some (42, false)⟩,
         ⟨some 48, .mov (.t 2), some (42, false)⟩,
         ⟨some 49, .conv Go.IntKind.i64 (.t 48), some (42, false)⟩,
         ⟨some 50, .mov (.t 4), some (42, false)⟩,
         ⟨some 51, .conv Go.IntKind.i64 (.t 50), some (42, false)⟩,
         ⟨some 52, .bin .add (.t 49) (.t 51), some (42, false)⟩,
         ⟨some 53, .call 25 [(.t 47), (.t 52)], some (42, false)⟩,
         ⟨some 54, .bin .neq (.t 46) (.t 53), some (42, false)⟩,
         ⟨some 55, .pick (.t 42) (.c (.bool true)) (.t 54), none⟩])
      (.cond (.t 55)
       (.seq (.region [⟨some 10, .mov (.c (.bool false)), none⟩])
        (.ret))
       (.skip)))
     (.seq (.seq (.draw 7 [⟨some 56, .mov (.t 1), none⟩,
          ⟨some 57, .load true 2 (.t 5), none⟩,
          ⟨some 58, .call 14 [(.t 56), (.t 57)], none⟩,
          ⟨some 59, .mov (.t 1), none⟩,
          ⟨some 60, .len (.t 59), none⟩,
          ⟨some 61, .call 13 [(.t 58), (.t 60)], none⟩,
          ⟨some 62, .load true 2 (.t 5), none⟩,
          ⟨some 63, .call 34 [(.t 61), (.t 62)], none⟩,
          ⟨some 64, .un .not (.t 63), none⟩])
       (.cond (.t 64)
        (.seq (.region [⟨some 10, .mov (.c (.bool false)), none⟩])
         (.ret))
        (.skip)))
      (.seq (.draw 7 [⟨some 65, .load true 2 (.t 5), none⟩,
          ⟨some 66, .mov (.t 2), none⟩,
          ⟨some 67, .conv Go.IntKind.i64 (.t 66), none⟩,
          ⟨some 68, .call 22 [(.t 65), (.t 67)], none⟩,
          ⟨some 69, .load true 2 (.t 11), none⟩,
          ⟨some 70, .call 14 [(.t 68), (.t 69)], none⟩,
          ⟨some 71, .load true 2 (.t 5), none⟩,
          ⟨some 72, .call 34 [(.t 70), (.t 71)], none⟩,
          ⟨some 10, .mov (.t 72), none⟩])
       (.ret)))))),
  [.tmp 10]⟩

def a9l0b : ACode :=
  .seq (.seq (.region [⟨some 4, .mov (.t 3), none⟩,
      ⟨some 5, .mov (.t 0), none⟩,
      ⟨some 6, .len (.t 5), none⟩,
      ⟨some 7, .bin .lss (.t 4) (.t 6), none⟩])
   (.cond (.t 7)
    (.skip)
    (.exit 0)))
  (.seq (.block 1 (.seq (.region [⟨some 10, .mov (.t 0), none⟩,
        ⟨some 11, .mov (.t 3), none⟩,
        ⟨some 12, .iaddr 2 (.t 10) (.t 11), none⟩,
        ⟨some 13, .faddr 0 (.t 12), none⟩,
        ⟨some 14, .load false 1 (.t 13), none⟩,
        ⟨some 15, .len (.t 14), none⟩,
        ⟨some 16, .bin .gtr (.t 15) (.c (.int Go.IntKind.i64 70)), none⟩,
        ⟨some 17, .mov (.t 16), none⟩,
        ⟨some 18, .mov (.t 0), some (17, false)⟩,
        ⟨some 19, .mov (.t 3), some (17, false)⟩,
        ⟨some 20, .iaddr 2 (.t 18) (.t 19), some (17, false)⟩,
        ⟨some 21, .faddr 1 (.t 20), some (17, false)⟩,
        ⟨some 22, .load false 1 (.t 21), some (17, false)⟩,
        ⟨some 23, .len (.t 22), some (17, false)⟩,
        ⟨some 24, .bin .gtr (.t 23) (.c (.int Go.IntKind.i64 70)), some (17, false)⟩,
        ⟨some 25, .pick (.t 17) (.c (.bool true)) (.t 24), none⟩])
     (.cond (.t 25)
      (.seq (.region [⟨some 2, .mov (.c (.bool true)), none⟩])
       (.ret))
      (.skip))))
   (.region [⟨some 8, .mov (.t 3), none⟩,
      ⟨some 9, .bin .add (.t 8) (.c (.int Go.IntKind.i64 1)), none⟩,
      ⟨some 3, .mov (.t 9), none⟩]))

def a9l0 : ACode := a9l0b
def a9l0s : List Nat := [1, 4, 5, 6, 7, 8, 9, 10, 11, 12, 13, 14, 15, 16, 17, 18, 19, 20, 21, 22, 23, 24, 25]
abbrev a9l0F (s0 s2 s3 : AV) : List AV := [s0, .any, s2, s3, .any, .any, .any, .any, .any, .any, .any, .any, .any, .any, .any, .any, .any, .any, .any, .any, .any, .any, .any, .any, .any, .any]
theorem a9l0c (s0 s1 s2 s3 s4 s5 s6 s7 s8 s9 s10 s11 s12 s13 s14 s15 s16 s17 s18 s19 s20 s21 s22 s23 s24 s25 : AV) : clearA a9l0s [s0, s1, s2, s3, s4, s5, s6, s7, s8, s9, s10, s11, s12, s13, s14, s15, s16, s17, s18, s19, s20, s21, s22, s23, s24, s25] = a9l0F s0 s2 s3 := by kernel_rfl
theorem a9l0n {prog : Nat → Option AFunc} (s0 s2 s3 : AV) (H : Heap) : (lim prog).loop a9l0s a9l0 ⟨a9l0F s0 s2 s3, H⟩ = loopK (lim prog) a9l0s a9l0 (run (lim prog) a9l0b ⟨a9l0F s0 s2 s3, H⟩) := lim_loop_step _ _ _ _ (by kernel_rfl)

/-- sentinel/sentinellaw22.Long -/
def a9 : AFunc := ⟨26,
  .seq (.region [⟨some 2, .mov (.c (.bool false)), none⟩])
  (.seq (.seq (.region [⟨some 3, .mov (.c (.int Go.IntKind.i64 0)), none⟩])
    (.block 0 (.loop a9l0s a9l0)))
   (.seq (.region [⟨some 2, .mov (.c (.bool false)), none⟩])
    (.ret))),
  [.tmp 2]⟩

/-- sentinel/sentinellaw22.awake -/
def a10 : AFunc := ⟨79,
  .seq (.region [⟨some 0, .mov (.c (.bool false)), none⟩])
  (.seq (.region [⟨some 5, .bslice true [.int Go.IntKind.u8 0] 1 2 [(0, (.c (.int Go.IntKind.u8 1))), (1, (.c (.int Go.IntKind.u8 2)))], none⟩,
      ⟨some 6, .bslice true [.int Go.IntKind.u8 0] 1 2 [(0, (.c (.int Go.IntKind.u8 3))), (1, (.c (.int Go.IntKind.u8 2)))], none⟩,
      ⟨some 7, .build [.sl true 0 [], .sl true 0 []] [(0, 1, (.t 5)), (1, 1, (.t 6))], none⟩,
      ⟨some 1, .box (.c (.agg [.sl true 0 [], .sl true 0 []])), none⟩,
      ⟨none, .store 2 (.t 1) (.t 7), none⟩])
   (.seq (.region [⟨some 9, .bslice true [.int Go.IntKind.u8 0] 1 2 [(0, (.c (.int Go.IntKind.u8 1))), (1, (.c (.int Go.IntKind.u8 0)))], none⟩,
       ⟨some 10, .call 31 [(.t 9)], none⟩,
       ⟨some 11, .bslice true [.int Go.IntKind.u8 0] 1 3 [(0, (.c (.int Go.IntKind.u8 0))), (1, (.c (.int Go.IntKind.u8 2))), (2, (.c (.int Go.IntKind.u8 4)))], none⟩,
       ⟨some 12, .call 31 [(.t 11)], none⟩,
       ⟨some 13, .call 32 [(.t 10), (.t 12)], none⟩,
       ⟨some 8, .mov (.t 13), none⟩,
       ⟨some 14, .ext 0 (.t 8), none⟩,
       ⟨some 15, .ext 1 (.t 8), none⟩,
       ⟨some 2, .box (.c (.agg [.sl true 0 [], .sl true 0 []])), none⟩,
       ⟨none, .store 2 (.t 2) (.t 14), none⟩,
       ⟨some 3, .mov (.t 15), none⟩])
    (.seq (.region [⟨some 4, .mov (.c (.func 16 [])), none⟩])
     (.seq (.draw 50 [⟨some 16, .mov (.t 4), none⟩,
         ⟨some 17, .load true 2 (.t 1), none⟩,
         ⟨some 18, .call 12 [(.t 17)], none⟩,
         ⟨some 19, .bslice true [.int Go.IntKind.u8 0] 1 1 [(0, (.c (.int Go.IntKind.u8 1)))], none⟩,
         ⟨some 20, .bslice true [.int Go.IntKind.u8 0] 1 2 [(0, (.c (.int Go.IntKind.u8 2))), (1, (.c (.int Go.IntKind.u8 3)))], none⟩,
         ⟨some 21, .build [.sl true 0 [], .sl true 0 []] [(0, 1, (.t 19)), (1, 1, (.t 20))], none⟩,
         ⟨some 22, .fcall (.t 16) [(.t 18), (.t 21)], none⟩,
         ⟨some 23, .mov (.t 22), none⟩,
         ⟨some 24, .load true 2 (.t 1), some (23, true)⟩,
         ⟨some 25, .call 25 [(.t 24), (.c (.int Go.IntKind.i64 4))], some (23, true)⟩,
         ⟨some 26, .bin .eql (.t 25) (.c (.int Go.IntKind.u8 3)), some (23, true)⟩,
         ⟨some 27, .pick (.t 23) (.t 26) (.c (.bool false)), none⟩,
         ⟨some 28, .mov (.t 27), none⟩,
         ⟨some 29, .load true 2 (.t 1), some (28, true)⟩,
         ⟨some 30, .call 27 [(.t 29), (.c (.int Go.IntKind.i64 4))], some (28, true)⟩,
         ⟨some 31, .bin .eql (.t 30) (.c (.int Go.IntKind.i64 2)), some (28, true)⟩,
         ⟨some 32, .pick (.t 28) (.t 31) (.c (.bool false)), none⟩,
         ⟨some 33, .mov (.t 32), none⟩,
         ⟨some 34, .mov (.t 4), some (33, true)⟩,
         ⟨some 35, .load true 2 (.t 1), some (33, true)⟩,
         ⟨some 36, .call 13 [(.t 35), (.c (.int Go.IntKind.i64 2))], some (33, true)⟩,
         ⟨some 37, .bslice true [.int Go.IntKind.u8 0] 1 2 [(0, (.c (.int Go.IntKind.u8 3))), (1, (.c (.int Go.IntKind.u8 2)))], some (33, true)⟩,
         ⟨some 38, .call 31 [(.t 37)], some (33, true)⟩,
         ⟨some 39, .fcall (.t 34) [(.t 36), (.t 38)], some (33, true)⟩,
         ⟨some 40, .pick (.t 33) (.t 39) (.c (.bool false)), none⟩,
         ⟨some 41, .mov (.t 40), none⟩,
         ⟨some 42, .mov (.t 4), some (41, true)⟩,
         ⟨some 43, .bslice true [.int Go.IntKind.u8 0] 1 2 [(0, (.c (.int Go.IntKind.u8 1))), (1, (.c (.int Go.IntKind.u8 1)))], some (41, true)⟩,
         ⟨some 44, .call 31 [(.t 43)], some (41, true)⟩,
         ⟨some 45, .call 12 [(.t 44)], some (41, true)⟩,
         ⟨some 46, .bslice true [.int Go.IntKind.u8 0] 1 1 [(0, (.c (.int Go.IntKind.u8 1)))], some (41, true)⟩,
         ⟨some 47, .call 31 [(.t 46)], some (41, true)⟩,
         ⟨some 48, .fcall (.t 42) [(.t 45), (.t 47)], some (41, true)⟩,
         ⟨some 49, .pick (.t 41) (.t 48) (.c (.bool false)), none⟩,
         ⟨some 50, .mov (.t 49), none⟩,
         ⟨some 51, .mov (.t 3), some (50, true)⟩,
         ⟨some 52, .bin .eql (.t 51) (.c (.int Go.IntKind.i64 0)), some (50, true)⟩,
         ⟨some 53, .pick (.t 50) (.t 52) (.c (.bool false)), none⟩,
         ⟨some 54, .mov (.t 53), none⟩,
         ⟨some 55, .mov (.t 4), some (54, true)⟩,
         ⟨some 56, .load true 2 (.t 2), some (54, true)⟩,
         ⟨some 57, .bslice true [.int Go.IntKind.u8 0] 1 6 [(0, (.c (.int Go.IntKind.u8 1))), (1, (.c (.int Go.IntKind.u8 2))), (2, (.c (.int Go.IntKind.u8 5))), (3, (.c (.int Go.IntKind.u8 0))), (4, (.c (.int Go.IntKind.u8 3))), (5, (.c (.int Go.IntKind.u8 4)))], some (54, true)⟩,
         ⟨some 58, .call 31 [(.t 57)], some (54, true)⟩,
         ⟨some 59, .fcall (.t 55) [(.t 56), (.t 58)], some (54, true)⟩,
         ⟨some 60, .pick (.t 54) (.t 59) (.c (.bool false)), none⟩,
         ⟨some 61, .mov (.t 60), none⟩,
         ⟨some 62, .mov (.t 4), some (61, true)⟩,
         ⟨some 63, .build [.sl true 0 [], .sl true 0 []] [], some (61, true)⟩,
         ⟨some 64, .call 12 [(.t 63)], some (61, true)⟩,
         ⟨some 65, .bslice true [.int Go.IntKind.u8 0] 1 1 [(0, (.c (.int Go.IntKind.u8 0)))], some (61, true)⟩,
         ⟨some 66, .call 31 [(.t 65)], some (61, true)⟩,
         ⟨some 67, .icall (.t 62) [(.t 64), (.t 66)], some (61, true)⟩,
         ⟨some 68, .pick (.t 61) (.t 67) (.c (.bool false)), none⟩,
         ⟨some 69, .mov (.t 68), none⟩,
         ⟨some 70, .load true 2 (.t 1), some (69, true)⟩,
         ⟨some 71, .call 23 [(.t 70), (.c (.int Go.IntKind.i64 2))], some (69, true)⟩,
         ⟨some 72, .bin .eql (.t 71) (.c (.int Go.IntKind.i64 0)), some (69, true)⟩,
         ⟨some 73, .pick (.t 69) (.t 72) (.c (.bool false)), none⟩,
         ⟨some 74, .mov (.t 73), none⟩,
         ⟨some 75, .load true 2 (.t 1), some (74, true)⟩,
         ⟨some 76, .call 23 [(.t 75), (.c (.int Go.IntKind.i64 1))], some (74, true)⟩,
         ⟨some 77, .bin .eql (.t 76) (.c (.int Go.IntKind.i64 1)), some (74, true)⟩,
         ⟨some 78, .pick (.t 74) (.t 77) (.c (.bool false)), none⟩,
         ⟨some 0, .mov (.t 78), none⟩])
      (.ret))))),
  [.tmp 0]⟩

/-- sentinel/sentinellaw22.Own -/
def a11 : AFunc := ⟨10,
  .seq (.region [⟨some 1, .box (.t 0), none⟩,
     ⟨some 2, .box (.c (.agg [.sl true 0 [], .sl true 0 []])), none⟩])
  (.seq (.draw 5 [⟨some 3, .faddr 0 (.t 1), none⟩,
      ⟨some 4, .load false 1 (.t 3), none⟩,
      ⟨some 5, .append true 1 1 (.c (.sl true 0 [])) (.t 4), none⟩,
      ⟨some 6, .faddr 1 (.t 1), none⟩,
      ⟨some 7, .load false 1 (.t 6), none⟩,
      ⟨some 8, .append false 1 1 (.c (.sl true 0 [])) (.t 7), none⟩,
      ⟨some 9, .build [.sl true 0 [], .sl true 0 []] [(0, 1, (.t 5)), (1, 1, (.t 8))], none⟩,
      ⟨none, .store 2 (.t 2) (.t 9), none⟩])
   (.ret)),
  [.cell 2 true 2]⟩

def a12l0b : ACode :=
  .seq (.seq (.region [⟨some 16, .mov (.t 4), none⟩,
      ⟨some 17, .bin .gtr (.t 16) (.c (.int Go.IntKind.i64 0)), none⟩])
   (.cond (.t 17)
    (.skip)
    (.exit 0)))
  (.block 1 (.seq (.seq (.draw 14 [⟨some 18, .faddr 0 (.t 1), none⟩,
        ⟨some 19, .load false 1 (.t 18), none⟩,
        ⟨some 20, .mov (.t 4), none⟩,
        ⟨some 21, .bin .sub (.t 20) (.c (.int Go.IntKind.i64 1)), none⟩,
        ⟨some 22, .iaddr 1 (.t 19) (.t 21), none⟩,
        ⟨some 23, .load false 1 (.t 22), none⟩,
        ⟨some 24, .mov (.t 3), none⟩,
        ⟨some 25, .mov (.t 5), none⟩,
        ⟨some 26, .bin .sub (.t 25) (.c (.int Go.IntKind.i64 1)), none⟩,
        ⟨some 27, .mov (.t 3), none⟩,
        ⟨some 28, .len (.t 27), none⟩,
        ⟨some 29, .bin .rem (.t 26) (.t 28), none⟩,
        ⟨some 30, .iaddr 1 (.t 24) (.t 29), none⟩,
        ⟨some 31, .load false 1 (.t 30), none⟩,
        ⟨some 32, .bin .neq (.t 23) (.t 31), none⟩])
     (.cond (.t 32)
      (.exit 0)
      (.skip)))
    (.seq (.region [⟨some 33, .mov (.t 4), none⟩,
        ⟨some 34, .bin .sub (.t 33) (.c (.int Go.IntKind.i64 1)), none⟩,
        ⟨some 4, .mov (.t 34), none⟩])
     (.seq (.region [⟨some 35, .mov (.t 5), none⟩,
         ⟨some 36, .bin .sub (.t 35) (.c (.int Go.IntKind.i64 1)), none⟩,
         ⟨some 5, .mov (.t 36), none⟩])
      (.seq (.region [⟨some 37, .mov (.t 5), none⟩,
          ⟨some 38, .bin .eql (.t 37) (.c (.int Go.IntKind.i64 0)), none⟩])
       (.cond (.t 38)
        (.region [⟨some 39, .mov (.t 3), none⟩,
           ⟨some 40, .len (.t 39), none⟩,
           ⟨some 5, .mov (.t 40), none⟩])
        (.skip)))))))

def a12l0 : ACode := a12l0b
def a12l0s : List Nat := [0, 6, 7, 8, 9, 10, 11, 12, 13, 14, 15, 16, 17, 18, 19, 20, 21, 22, 23, 24, 25, 26, 27, 28, 29, 30, 31, 32, 33, 34, 35, 36, 37, 38, 39, 40, 41, 42, 43, 44, 45, 46, 47, 48, 49, 50, 51, 52, 53, 54, 55, 56, 57, 58]
abbrev a12l0F (s1 s2 s3 s4 s5 : AV) : List AV := [.any, s1, s2, s3, s4, s5, .any, .any, .any, .any, .any, .any, .any, .any, .any, .any, .any, .any, .any, .any, .any, .any, .any, .any, .any, .any, .any, .any, .any, .any, .any, .any, .any, .any, .any, .any, .any, .any, .any, .any, .any, .any, .any, .any, .any, .any, .any, .any, .any, .any, .any, .any, .any, .any, .any, .any, .any, .any, .any]
theorem a12l0c (s0 s1 s2 s3 s4 s5 s6 s7 s8 s9 s10 s11 s12 s13 s14 s15 s16 s17 s18 s19 s20 s21 s22 s23 s24 s25 s26 s27 s28 s29 s30 s31 s32 s33 s34 s35 s36 s37 s38 s39 s40 s41 s42 s43 s44 s45 s46 s47 s48 s49 s50 s51 s52 s53 s54 s55 s56 s57 s58 : AV) : clearA a12l0s [s0, s1, s2, s3, s4, s5, s6, s7, s8, s9, s10, s11, s12, s13, s14, s15, s16, s17, s18, s19, s20, s21, s22, s23, s24, s25, s26, s27, s28, s29, s30, s31, s32, s33, s34, s35, s36, s37, s38, s39, s40, s41, s42, s43, s44, s45, s46, s47, s48, s49, s50, s51, s52, s53, s54, s55, s56, s57, s58] = a12l0F s1 s2 s3 s4 s5 := by kernel_rfl
theorem a12l0n {prog : Nat → Option AFunc} (s1 s2 s3 s4 s5 : AV) (H : Heap) : (lim prog).loop a12l0s a12l0 ⟨a12l0F s1 s2 s3 s4 s5, H⟩ = loopK (lim prog) a12l0s a12l0 (run (lim prog) a12l0b ⟨a12l0F s1 s2 s3 s4 s5, H⟩) := lim_loop_step _ _ _ _ (by kernel_rfl)

/-- sentinel/lasso.Canonical -/
def a12 : AFunc := ⟨59,
  .seq (.region [⟨some 1, .box (.t 0), none⟩,
     ⟨some 2, .box (.c (.agg [.sl true 0 [], .sl true 0 []])), none⟩])
  (.scope (.seq (.region [⟨some 6, .load true 2 (.t 1), none⟩,
       ⟨some 7, .call 35 [(.t 6)], none⟩,
       ⟨none, .store 2 (.t 1) (.t 7), none⟩])
    (.seq (.draw 6 [⟨some 8, .faddr 1 (.t 1), none⟩,
        ⟨some 9, .load false 1 (.t 8), none⟩,
        ⟨some 10, .call 36 [(.t 9)], none⟩,
        ⟨some 11, .faddr 0 (.t 1), none⟩,
        ⟨some 12, .load false 1 (.t 11), none⟩,
        ⟨some 13, .len (.t 12), none⟩,
        ⟨some 3, .mov (.t 10), none⟩,
        ⟨some 4, .mov (.t 13), none⟩])
     (.seq (.region [⟨some 14, .mov (.t 3), none⟩,
         ⟨some 15, .len (.t 14), none⟩,
         ⟨some 5, .mov (.t 15), none⟩])
      (.seq (.label)
       (.seq (.block 0 (.loop a12l0s a12l0))
        (.seq (.region [⟨some 41, .mov (.t 5), none⟩,
            ⟨some 42, .mov (.t 3), none⟩,
            ⟨some 43, .len (.t 42), none⟩,
            ⟨some 44, .bin .rem (.t 41) (.t 43), none⟩,
            ⟨some 5, .mov (.t 44), none⟩])
         (.seq (.drawp [] [] 12 [⟨some 45, .faddr 0 (.t 1), none⟩,
             ⟨some 46, .load false 1 (.t 45), none⟩,
             ⟨some 47, .mov (.t 4), none⟩,
             ⟨some 48, .slice 1 (.t 46) none (some (.t 47)) none, none⟩,
             ⟨some 49, .ocall 37 [(.t 48)], none⟩,
             ⟨some 50, .mov (.t 3), none⟩,
             ⟨some 51, .mov (.t 5), none⟩,
             ⟨some 52, .slice 1 (.t 50) (some (.t 51)) none none, none⟩,
             ⟨some 53, .mov (.t 3), none⟩,
             ⟨some 54, .mov (.t 5), none⟩,
             ⟨some 55, .slice 1 (.t 53) none (some (.t 54)) none, none⟩,
             ⟨some 56, .bslice true [.sl true 0 []] 1 2 [(0, (.t 52)), (1, (.t 55))], none⟩,
             ⟨some 57, .ocall 38 [(.t 56)], none⟩,
             ⟨some 58, .build [.sl true 0 [], .sl true 0 []] [(0, 1, (.t 49)), (1, 1, (.t 57))], none⟩,
             ⟨none, .store 2 (.t 2) (.t 58), none⟩])
          (.ret))))))))),
  [.cell 2 true 2]⟩

/-- sentinel/lasso.Suffix -/
def a13 : AFunc := ⟨41,
  .seq (.region [⟨some 2, .box (.t 0), none⟩,
     ⟨some 4, .box (.c (.agg [.sl true 0 [], .sl true 0 []])), none⟩])
  (.seq (.region [⟨some 6, .load true 2 (.t 2), none⟩,
      ⟨some 7, .call 35 [(.t 6)], none⟩,
      ⟨none, .store 2 (.t 2) (.t 7), none⟩])
   (.seq (.region [⟨some 8, .load true 2 (.t 2), none⟩,
       ⟨some 9, .mov (.t 1), none⟩,
       ⟨some 10, .call 27 [(.t 8), (.t 9)], none⟩,
       ⟨some 1, .mov (.t 10), none⟩])
    (.seq (.seq (.region [⟨some 11, .faddr 0 (.t 2), none⟩,
         ⟨some 12, .load false 1 (.t 11), none⟩,
         ⟨some 13, .len (.t 12), none⟩,
         ⟨some 5, .mov (.t 13), none⟩])
      (.seq (.region [⟨some 14, .mov (.t 1), none⟩,
          ⟨some 15, .mov (.t 5), none⟩,
          ⟨some 16, .bin .geq (.t 14) (.t 15), none⟩])
       (.cond (.t 16)
        (.seq (.drawp [] [] 9 [⟨some 17, .faddr 1 (.t 2), none⟩,
            ⟨some 18, .load false 1 (.t 17), none⟩,
            ⟨some 19, .mov (.t 1), none⟩,
            ⟨some 20, .mov (.t 5), none⟩,
            ⟨some 21, .bin .sub (.t 19) (.t 20), none⟩,
            ⟨some 22, .slice 1 (.t 18) (some (.t 21)) none none, none⟩,
            ⟨some 23, .faddr 1 (.t 2), none⟩,
            ⟨some 24, .load false 1 (.t 23), none⟩,
            ⟨some 25, .mov (.t 1), none⟩,
            ⟨some 26, .mov (.t 5), none⟩,
            ⟨some 27, .bin .sub (.t 25) (.t 26), none⟩,
            ⟨some 28, .slice 1 (.t 24) none (some (.t 27)) none, none⟩,
            ⟨some 29, .bslice true [.sl true 0 []] 1 2 [(0, (.t 22)), (1, (.t 28))], none⟩,
            ⟨some 30, .call 38 [(.t 29)], none⟩,
            ⟨some 31, .build [.sl true 0 [], .sl true 0 []] [(1, 1, (.t 30))], none⟩,
            ⟨some 32, .ocall 12 [(.t 31)], none⟩,
            ⟨none, .store 2 (.t 4) (.t 32), none⟩])
         (.ret))
        (.skip))))
     (.seq (.drawp [] [] 6 [⟨some 33, .faddr 0 (.t 2), none⟩,
         ⟨some 34, .load false 1 (.t 33), none⟩,
         ⟨some 35, .mov (.t 1), none⟩,
         ⟨some 36, .slice 1 (.t 34) (some (.t 35)) none none, none⟩,
         ⟨some 37, .faddr 1 (.t 2), none⟩,
         ⟨some 38, .load false 1 (.t 37), none⟩,
         ⟨some 39, .build [.sl true 0 [], .sl true 0 []] [(0, 1, (.t 36)), (1, 1, (.t 38))], none⟩,
         ⟨some 40, .ocall 12 [(.t 39)], none⟩,
         ⟨none, .store 2 (.t 4) (.t 40), none⟩])
      (.ret))))),
  [.cell 4 true 2]⟩

/-- sentinel/lasso.Prepend -/
def a14 : AFunc := ⟨14,
  .seq (.region [⟨some 3, .box (.t 1), none⟩,
     ⟨some 4, .box (.c (.agg [.sl true 0 [], .sl true 0 []])), none⟩])
  (.seq (.drawp [] [] 7 [⟨some 5, .mov (.t 0), none⟩,
      ⟨some 6, .faddr 0 (.t 3), none⟩,
      ⟨some 7, .load false 1 (.t 6), none⟩,
      ⟨some 8, .bslice true [.sl true 0 []] 1 2 [(0, (.t 5)), (1, (.t 7))], none⟩,
      ⟨some 9, .call 38 [(.t 8)], none⟩,
      ⟨some 10, .faddr 1 (.t 3), none⟩,
      ⟨some 11, .load false 1 (.t 10), none⟩,
      ⟨some 12, .build [.sl true 0 [], .sl true 0 []] [(0, 1, (.t 9)), (1, 1, (.t 11))], none⟩,
      ⟨some 13, .ocall 12 [(.t 12)], none⟩,
      ⟨none, .store 2 (.t 4) (.t 13), none⟩])
   (.ret)),
  [.cell 4 true 2]⟩

/-- sentinel/lasso.Project -/
def a15 : AFunc := ⟨15,
  .seq (.region [⟨some 2, .box (.t 0), none⟩,
     ⟨some 3, .box (.t 1), none⟩,
     ⟨some 4, .box (.c (.agg [.sl true 0 [], .sl true 0 []])), none⟩])
  (.seq (.region [⟨some 5, .load true 2 (.t 2), none⟩,
      ⟨some 6, .call 35 [(.t 5)], none⟩,
      ⟨none, .store 2 (.t 2) (.t 6), none⟩])
   (.seq (.region [⟨some 7, .faddr 0 (.t 2), none⟩,
       ⟨some 8, .load false 1 (.t 7), none⟩,
       ⟨some 9, .len (.t 8), none⟩,
       ⟨some 10, .faddr 1 (.t 2), none⟩,
       ⟨some 11, .load false 1 (.t 10), none⟩,
       ⟨some 12, .len (.t 11), none⟩,
       ⟨some 13, .mkfunc 40 [(.t 2), (.t 3)], none⟩,
       ⟨some 14, .icall (.c (.func 39 [])) [(.t 9), (.t 12), (.t 13)], none⟩,
       ⟨none, .store 2 (.t 4) (.t 14), none⟩])
    (.ret))),
  [.cell 4 true 2]⟩

/-- sentinel/sentinelref22.Is -/
def a16 : AFunc := ⟨17,
  .seq (.region [⟨some 2, .box (.t 0), none⟩,
     ⟨some 3, .box (.t 1), none⟩,
     ⟨some 4, .mov (.c (.bool false)), none⟩])
  (.seq (.region [⟨some 5, .faddr 0 (.t 2), none⟩,
      ⟨some 6, .load false 1 (.t 5), none⟩,
      ⟨some 7, .faddr 0 (.t 3), none⟩,
      ⟨some 8, .load false 1 (.t 7), none⟩,
      ⟨some 9, .call 29 [(.t 6), (.t 8)], none⟩,
      ⟨some 10, .mov (.t 9), none⟩,
      ⟨some 11, .faddr 1 (.t 2), some (10, true)⟩,
      ⟨some 12, .load false 1 (.t 11), some (10, true)⟩,
      ⟨some 13, .faddr 1 (.t 3), some (10, true)⟩,
      ⟨some 14, .load false 1 (.t 13), some (10, true)⟩,
      ⟨some 15, .call 29 [(.t 12), (.t 14)], some (10, true)⟩,
      ⟨some 16, .pick (.t 10) (.t 15) (.c (.bool false)), none⟩,
      ⟨some 4, .mov (.t 16), none⟩])
   (.ret)),
  [.tmp 4]⟩

def a17l0b : ACode :=
  .seq (.seq (.region [⟨some 21, .mov (.t 4), none⟩,
      ⟨some 22, .faddr 0 (.t 1), none⟩,
      ⟨some 23, .load false 1 (.t 22), none⟩,
      ⟨some 24, .len (.t 23), none⟩,
      ⟨some 25, .bin .leq (.t 21) (.t 24), none⟩])
   (.cond (.t 25)
    (.skip)
    (.exit 2)))
  (.seq (.block 3 (.seq (.region [⟨some 28, .load true 2 (.t 1), none⟩,
        ⟨some 29, .mov (.t 4), none⟩,
        ⟨some 30, .mov (.t 3), none⟩,
        ⟨some 31, .call 42 [(.t 28), (.t 29), (.t 30)], none⟩])
     (.cond (.t 31)
      (.seq (.region [⟨some 32, .load true 2 (.t 1), none⟩,
          ⟨some 33, .mov (.t 4), none⟩,
          ⟨some 34, .mov (.t 3), none⟩,
          ⟨some 35, .call 43 [(.t 32), (.t 33), (.t 34)], none⟩,
          ⟨none, .store 2 (.t 2) (.t 35), none⟩])
       (.ret))
      (.skip))))
   (.region [⟨some 26, .mov (.t 4), none⟩,
      ⟨some 27, .bin .add (.t 26) (.c (.int Go.IntKind.i64 1)), none⟩,
      ⟨some 4, .mov (.t 27), none⟩]))

def a17l0 : ACode := a17l0b
def a17l0s : List Nat := [0, 5, 6, 7, 8, 9, 10, 11, 12, 13, 14, 15, 16, 17, 18, 19, 20, 21, 22, 23, 24, 25, 26, 27, 28, 29, 30, 31, 32, 33, 34, 35, 36]
abbrev a17l0F (s1 s2 s3 s4 : AV) : List AV := [.any, s1, s2, s3, s4, .any, .any, .any, .any, .any, .any, .any, .any, .any, .any, .any, .any, .any, .any, .any, .any, .any, .any, .any, .any, .any, .any, .any, .any, .any, .any, .any, .any, .any, .any, .any, .any]
theorem a17l0c (s0 s1 s2 s3 s4 s5 s6 s7 s8 s9 s10 s11 s12 s13 s14 s15 s16 s17 s18 s19 s20 s21 s22 s23 s24 s25 s26 s27 s28 s29 s30 s31 s32 s33 s34 s35 s36 : AV) : clearA a17l0s [s0, s1, s2, s3, s4, s5, s6, s7, s8, s9, s10, s11, s12, s13, s14, s15, s16, s17, s18, s19, s20, s21, s22, s23, s24, s25, s26, s27, s28, s29, s30, s31, s32, s33, s34, s35, s36] = a17l0F s1 s2 s3 s4 := by kernel_rfl
theorem a17l0n {prog : Nat → Option AFunc} (s1 s2 s3 s4 : AV) (H : Heap) : (lim prog).loop a17l0s a17l0 ⟨a17l0F s1 s2 s3 s4, H⟩ = loopK (lim prog) a17l0s a17l0 (run (lim prog) a17l0b ⟨a17l0F s1 s2 s3 s4, H⟩) := lim_loop_step _ _ _ _ (by kernel_rfl)

def a17l1b : ACode :=
  .seq (.seq (.region [⟨some 7, .mov (.t 3), none⟩,
      ⟨some 8, .faddr 1 (.t 1), none⟩,
      ⟨some 9, .load false 1 (.t 8), none⟩,
      ⟨some 10, .len (.t 9), none⟩,
      ⟨some 11, .bin .leq (.t 7) (.t 10), none⟩])
   (.cond (.t 11)
    (.skip)
    (.exit 0)))
  (.seq (.block 1 (.seq (.seq (.region [⟨some 14, .load true 2 (.t 1), none⟩,
         ⟨some 15, .faddr 0 (.t 1), none⟩,
         ⟨some 16, .load false 1 (.t 15), none⟩,
         ⟨some 17, .len (.t 16), none⟩,
         ⟨some 18, .mov (.t 3), none⟩,
         ⟨some 19, .call 42 [(.t 14), (.t 17), (.t 18)], none⟩,
         ⟨some 20, .un .not (.t 19), none⟩])
      (.cond (.t 20)
       (.exit 1)
       (.skip)))
     (.seq (.region [⟨some 4, .mov (.c (.int Go.IntKind.i64 0)), none⟩])
      (.block 2 (.loop a17l0s a17l0)))))
   (.region [⟨some 12, .mov (.t 3), none⟩,
      ⟨some 13, .bin .add (.t 12) (.c (.int Go.IntKind.i64 1)), none⟩,
      ⟨some 3, .mov (.t 13), none⟩]))

def a17l1 : ACode := a17l1b
def a17l1s : List Nat := [0, 4, 5, 6, 7, 8, 9, 10, 11, 12, 13, 14, 15, 16, 17, 18, 19, 20, 21, 22, 23, 24, 25, 26, 27, 28, 29, 30, 31, 32, 33, 34, 35, 36]
abbrev a17l1F (s1 s2 s3 : AV) : List AV := [.any, s1, s2, s3, .any, .any, .any, .any, .any, .any, .any, .any, .any, .any, .any, .any, .any, .any, .any, .any, .any, .any, .any, .any, .any, .any, .any, .any, .any, .any, .any, .any, .any, .any, .any, .any, .any]
theorem a17l1c (s0 s1 s2 s3 s4 s5 s6 s7 s8 s9 s10 s11 s12 s13 s14 s15 s16 s17 s18 s19 s20 s21 s22 s23 s24 s25 s26 s27 s28 s29 s30 s31 s32 s33 s34 s35 s36 : AV) : clearA a17l1s [s0, s1, s2, s3, s4, s5, s6, s7, s8, s9, s10, s11, s12, s13, s14, s15, s16, s17, s18, s19, s20, s21, s22, s23, s24, s25, s26, s27, s28, s29, s30, s31, s32, s33, s34, s35, s36] = a17l1F s1 s2 s3 := by kernel_rfl
theorem a17l1n {prog : Nat → Option AFunc} (s1 s2 s3 : AV) (H : Heap) : (lim prog).loop a17l1s a17l1 ⟨a17l1F s1 s2 s3, H⟩ = loopK (lim prog) a17l1s a17l1 (run (lim prog) a17l1b ⟨a17l1F s1 s2 s3, H⟩) := lim_loop_step _ _ _ _ (by kernel_rfl)

/-- sentinel/sentinelref22.Canonical -/
def a17 : AFunc := ⟨37,
  .seq (.region [⟨some 1, .box (.t 0), none⟩,
     ⟨some 2, .box (.c (.agg [.sl true 0 [], .sl true 0 []])), none⟩])
  (.seq (.region [⟨some 5, .load true 2 (.t 1), none⟩,
      ⟨some 6, .call 41 [(.t 5)], none⟩,
      ⟨none, .store 2 (.t 1) (.t 6), none⟩])
   (.seq (.seq (.region [⟨some 3, .mov (.c (.int Go.IntKind.i64 1)), none⟩])
     (.block 0 (.loop a17l1s a17l1)))
    (.seq (.region [⟨some 36, .load true 2 (.t 1), none⟩,
        ⟨none, .store 2 (.t 2) (.t 36), none⟩])
     (.ret)))),
  [.cell 2 true 2]⟩

/-- sentinel/sentinelref22.Suffix -/
def a18 : AFunc := ⟨40,
  .seq (.region [⟨some 2, .box (.t 0), none⟩,
     ⟨some 4, .box (.c (.agg [.sl true 0 [], .sl true 0 []])), none⟩])
  (.seq (.region [⟨some 5, .load true 2 (.t 2), none⟩,
      ⟨some 6, .call 41 [(.t 5)], none⟩,
      ⟨none, .store 2 (.t 2) (.t 6), none⟩])
   (.seq (.region [⟨some 7, .load true 2 (.t 2), none⟩,
       ⟨some 8, .mov (.t 1), none⟩,
       ⟨some 9, .call 28 [(.t 7), (.t 8)], none⟩,
       ⟨some 1, .mov (.t 9), none⟩])
    (.seq (.seq (.region [⟨some 10, .mov (.t 1), none⟩,
         ⟨some 11, .faddr 0 (.t 2), none⟩,
         ⟨some 12, .load false 1 (.t 11), none⟩,
         ⟨some 13, .len (.t 12), none⟩,
         ⟨some 14, .bin .lss (.t 10) (.t 13), none⟩])
      (.cond (.t 14)
       (.seq (.draw 6 [⟨some 15, .faddr 0 (.t 2), none⟩,
           ⟨some 16, .load false 1 (.t 15), none⟩,
           ⟨some 17, .mov (.t 1), none⟩,
           ⟨some 18, .slice 1 (.t 16) (some (.t 17)) none none, none⟩,
           ⟨some 19, .faddr 1 (.t 2), none⟩,
           ⟨some 20, .load false 1 (.t 19), none⟩,
           ⟨some 21, .build [.sl true 0 [], .sl true 0 []] [(0, 1, (.t 18)), (1, 1, (.t 20))], none⟩,
           ⟨some 22, .call 17 [(.t 21)], none⟩,
           ⟨none, .store 2 (.t 4) (.t 22), none⟩])
        (.ret))
       (.skip)))
     (.seq (.region [⟨some 23, .mov (.t 1), none⟩,
         ⟨some 24, .faddr 0 (.t 2), none⟩,
         ⟨some 25, .load false 1 (.t 24), none⟩,
         ⟨some 26, .len (.t 25), none⟩,
         ⟨some 27, .bin .sub (.t 23) (.t 26), none⟩,
         ⟨some 1, .mov (.t 27), none⟩])
      (.seq (.drawp [] [] 9 [⟨some 28, .faddr 1 (.t 2), none⟩,
          ⟨some 29, .load false 1 (.t 28), none⟩,
          ⟨some 30, .mov (.t 1), none⟩,
          ⟨some 31, .slice 1 (.t 29) (some (.t 30)) none none, none⟩,
          ⟨some 32, .append false 1 1 (.c (.sl true 0 [])) (.t 31), none⟩,
          ⟨some 33, .faddr 1 (.t 2), none⟩,
          ⟨some 34, .load false 1 (.t 33), none⟩,
          ⟨some 35, .mov (.t 1), none⟩,
          ⟨some 36, .slice 1 (.t 34) none (some (.t 35)) none, none⟩,
          ⟨some 37, .append false 1 1 (.t 32) (.t 36), none⟩,
          ⟨some 38, .build [.sl true 0 [], .sl true 0 []] [(1, 1, (.t 37))], none⟩,
          ⟨some 39, .call 17 [(.t 38)], none⟩,
          ⟨none, .store 2 (.t 4) (.t 39), none⟩])
       (.ret)))))),
  [.cell 4 true 2]⟩

/-- sentinel/sentinelref22.Prepend -/
def a19 : AFunc := ⟨14,
  .seq (.region [⟨some 3, .box (.t 1), none⟩,
     ⟨some 4, .box (.c (.agg [.sl true 0 [], .sl true 0 []])), none⟩])
  (.seq (.drawp [] [(10, (1, (6, 0)))] 6 [⟨some 5, .mov (.t 0), none⟩,
      ⟨some 6, .append false 1 1 (.c (.sl true 0 [])) (.t 5), none⟩,
      ⟨some 7, .faddr 0 (.t 3), none⟩,
      ⟨some 8, .load false 1 (.t 7), none⟩,
      ⟨some 10, .faddr 1 (.t 3), none⟩,
      ⟨some 11, .load false 1 (.t 10), none⟩,
      ⟨some 9, .append false 1 1 (.t 6) (.t 8), none⟩,
      ⟨some 12, .build [.sl true 0 [], .sl true 0 []] [(0, 1, (.t 9)), (1, 1, (.t 11))], none⟩,
      ⟨some 13, .call 17 [(.t 12)], none⟩,
      ⟨none, .store 2 (.t 4) (.t 13), none⟩])
   (.ret)),
  [.cell 4 true 2]⟩

def a20l0b : ACode :=
  .seq (.seq (.region [⟨some 10, .mov (.t 6), none⟩,
      ⟨some 11, .faddr 0 (.t 2), none⟩,
      ⟨some 12, .load false 1 (.t 11), none⟩,
      ⟨some 13, .len (.t 12), none⟩,
      ⟨some 14, .bin .lss (.t 10) (.t 13), none⟩])
   (.cond (.t 14)
    (.skip)
    (.exit 0)))
  (.seq (.block 1 (.draw 10 [⟨some 17, .faddr 0 (.t 5), none⟩,
       ⟨some 18, .load false 1 (.t 17), none⟩,
       ⟨some 19, .faddr 0 (.t 2), none⟩,
       ⟨some 20, .load false 1 (.t 19), none⟩,
       ⟨some 21, .mov (.t 6), none⟩,
       ⟨some 22, .iaddr 1 (.t 20) (.t 21), none⟩,
       ⟨some 23, .load false 1 (.t 22), none⟩,
       ⟨some 24, .mov (.t 1), none⟩,
       ⟨some 25, .bin .and (.t 23) (.t 24), none⟩,
       ⟨some 26, .bslice true [.int Go.IntKind.u8 0] 1 1 [(0, (.t 25))], none⟩,
       ⟨some 27, .append false 1 1 (.t 18) (.t 26), none⟩,
       ⟨some 28, .faddr 0 (.t 5), none⟩,
       ⟨none, .store 1 (.t 28) (.t 27), none⟩]))
   (.region [⟨some 15, .mov (.t 6), none⟩,
      ⟨some 16, .bin .add (.t 15) (.c (.int Go.IntKind.i64 1)), none⟩,
      ⟨some 6, .mov (.t 16), none⟩]))

def a20l0 : ACode := a20l0b
def a20l0s : List Nat := [0, 3, 7, 8, 9, 10, 11, 12, 13, 14, 15, 16, 17, 18, 19, 20, 21, 22, 23, 24, 25, 26, 27, 28, 29, 30, 31, 32, 33, 34, 35, 36, 37, 38, 39, 40, 41, 42, 43, 44, 45, 46, 47, 48, 49]
abbrev a20l0F (s1 s2 s4 s5 s6 : AV) : List AV := [.any, s1, s2, .any, s4, s5, s6, .any, .any, .any, .any, .any, .any, .any, .any, .any, .any, .any, .any, .any, .any, .any, .any, .any, .any, .any, .any, .any, .any, .any, .any, .any, .any, .any, .any, .any, .any, .any, .any, .any, .any, .any, .any, .any, .any, .any, .any, .any, .any, .any]
theorem a20l0c (s0 s1 s2 s3 s4 s5 s6 s7 s8 s9 s10 s11 s12 s13 s14 s15 s16 s17 s18 s19 s20 s21 s22 s23 s24 s25 s26 s27 s28 s29 s30 s31 s32 s33 s34 s35 s36 s37 s38 s39 s40 s41 s42 s43 s44 s45 s46 s47 s48 s49 : AV) : clearA a20l0s [s0, s1, s2, s3, s4, s5, s6, s7, s8, s9, s10, s11, s12, s13, s14, s15, s16, s17, s18, s19, s20, s21, s22, s23, s24, s25, s26, s27, s28, s29, s30, s31, s32, s33, s34, s35, s36, s37, s38, s39, s40, s41, s42, s43, s44, s45, s46, s47, s48, s49] = a20l0F s1 s2 s4 s5 s6 := by kernel_rfl
theorem a20l0n {prog : Nat → Option AFunc} (s1 s2 s4 s5 s6 : AV) (H : Heap) : (lim prog).loop a20l0s a20l0 ⟨a20l0F s1 s2 s4 s5 s6, H⟩ = loopK (lim prog) a20l0s a20l0 (run (lim prog) a20l0b ⟨a20l0F s1 s2 s4 s5 s6, H⟩) := lim_loop_step _ _ _ _ (by kernel_rfl)

def a20l1b : ACode :=
  .seq (.seq (.region [⟨some 29, .mov (.t 7), none⟩,
      ⟨some 30, .faddr 1 (.t 2), none⟩,
      ⟨some 31, .load false 1 (.t 30), none⟩,
      ⟨some 32, .len (.t 31), none⟩,
      ⟨some 33, .bin .lss (.t 29) (.t 32), none⟩])
   (.cond (.t 33)
    (.skip)
    (.exit 2)))
  (.seq (.block 3 (.draw 10 [⟨some 36, .faddr 1 (.t 5), none⟩,
       ⟨some 37, .load false 1 (.t 36), none⟩,
       ⟨some 38, .faddr 1 (.t 2), none⟩,
       ⟨some 39, .load false 1 (.t 38), none⟩,
       ⟨some 40, .mov (.t 7), none⟩,
       ⟨some 41, .iaddr 1 (.t 39) (.t 40), none⟩,
       ⟨some 42, .load false 1 (.t 41), none⟩,
       ⟨some 43, .mov (.t 1), none⟩,
       ⟨some 44, .bin .and (.t 42) (.t 43), none⟩,
       ⟨some 45, .bslice true [.int Go.IntKind.u8 0] 1 1 [(0, (.t 44))], none⟩,
       ⟨some 46, .append false 1 1 (.t 37) (.t 45), none⟩,
       ⟨some 47, .faddr 1 (.t 5), none⟩,
       ⟨none, .store 1 (.t 47) (.t 46), none⟩]))
   (.region [⟨some 34, .mov (.t 7), none⟩,
      ⟨some 35, .bin .add (.t 34) (.c (.int Go.IntKind.i64 1)), none⟩,
      ⟨some 7, .mov (.t 35), none⟩]))

def a20l1 : ACode := a20l1b
def a20l1s : List Nat := [0, 3, 6, 8, 9, 10, 11, 12, 13, 14, 15, 16, 17, 18, 19, 20, 21, 22, 23, 24, 25, 26, 27, 28, 29, 30, 31, 32, 33, 34, 35, 36, 37, 38, 39, 40, 41, 42, 43, 44, 45, 46, 47, 48, 49]
abbrev a20l1F (s1 s2 s4 s5 s7 : AV) : List AV := [.any, s1, s2, .any, s4, s5, .any, s7, .any, .any, .any, .any, .any, .any, .any, .any, .any, .any, .any, .any, .any, .any, .any, .any, .any, .any, .any, .any, .any, .any, .any, .any, .any, .any, .any, .any, .any, .any, .any, .any, .any, .any, .any, .any, .any, .any, .any, .any, .any, .any]
theorem a20l1c (s0 s1 s2 s3 s4 s5 s6 s7 s8 s9 s10 s11 s12 s13 s14 s15 s16 s17 s18 s19 s20 s21 s22 s23 s24 s25 s26 s27 s28 s29 s30 s31 s32 s33 s34 s35 s36 s37 s38 s39 s40 s41 s42 s43 s44 s45 s46 s47 s48 s49 : AV) : clearA a20l1s [s0, s1, s2, s3, s4, s5, s6, s7, s8, s9, s10, s11, s12, s13, s14, s15, s16, s17, s18, s19, s20, s21, s22, s23, s24, s25, s26, s27, s28, s29, s30, s31, s32, s33, s34, s35, s36, s37, s38, s39, s40, s41, s42, s43, s44, s45, s46, s47, s48, s49] = a20l1F s1 s2 s4 s5 s7 := by kernel_rfl
theorem a20l1n {prog : Nat → Option AFunc} (s1 s2 s4 s5 s7 : AV) (H : Heap) : (lim prog).loop a20l1s a20l1 ⟨a20l1F s1 s2 s4 s5 s7, H⟩ = loopK (lim prog) a20l1s a20l1 (run (lim prog) a20l1b ⟨a20l1F s1 s2 s4 s5 s7, H⟩) := lim_loop_step _ _ _ _ (by kernel_rfl)

/-- sentinel/sentinelref22.Project -/
def a20 : AFunc := ⟨50,
  .seq (.region [⟨some 2, .box (.t 0), none⟩,
     ⟨some 4, .box (.c (.agg [.sl true 0 [], .sl true 0 []])), none⟩])
  (.seq (.region [⟨some 8, .load true 2 (.t 2), none⟩,
      ⟨some 9, .call 41 [(.t 8)], none⟩,
      ⟨none, .store 2 (.t 2) (.t 9), none⟩])
   (.seq (.region [⟨some 5, .box (.c (.agg [.sl true 0 [], .sl true 0 []])), none⟩])
    (.seq (.seq (.region [⟨some 6, .mov (.c (.int Go.IntKind.i64 0)), none⟩])
      (.block 0 (.loop a20l0s a20l0)))
     (.seq (.seq (.region [⟨some 7, .mov (.c (.int Go.IntKind.i64 0)), none⟩])
       (.block 2 (.loop a20l1s a20l1)))
      (.seq (.region [⟨some 48, .load true 2 (.t 5), none⟩,
          ⟨some 49, .call 17 [(.t 48)], none⟩,
          ⟨none, .store 2 (.t 4) (.t 49), none⟩])
       (.ret)))))),
  [.cell 4 true 2]⟩

def a21l0b : ACode :=
  .seq (.seq (.region [⟨some 4, .mov (.t 2), none⟩,
      ⟨some 5, .faddr 0 (.t 1), none⟩,
      ⟨some 6, .load false 1 (.t 5), none⟩,
      ⟨some 7, .len (.t 6), none⟩,
      ⟨some 8, .bin .lss (.t 4) (.t 7), none⟩])
   (.cond (.t 8)
    (.skip)
    (.exit 0)))
  (.seq (.block 1 (.region [⟨some 11, .faddr 0 (.t 1), none⟩,
       ⟨some 12, .load false 1 (.t 11), none⟩,
       ⟨some 13, .mov (.t 2), none⟩,
       ⟨some 14, .iaddr 1 (.t 12) (.t 13), none⟩,
       ⟨none, .store 1 (.t 14) (.c (.int Go.IntKind.u8 77)), none⟩]))
   (.region [⟨some 9, .mov (.t 2), none⟩,
      ⟨some 10, .bin .add (.t 9) (.c (.int Go.IntKind.i64 1)), none⟩,
      ⟨some 2, .mov (.t 10), none⟩]))

def a21l0 : ACode := a21l0b
def a21l0s : List Nat := [0, 3, 4, 5, 6, 7, 8, 9, 10, 11, 12, 13, 14, 15, 16, 17, 18, 19, 20, 21, 22, 23, 24, 25]
abbrev a21l0F (s1 s2 : AV) : List AV := [.any, s1, s2, .any, .any, .any, .any, .any, .any, .any, .any, .any, .any, .any, .any, .any, .any, .any, .any, .any, .any, .any, .any, .any, .any, .any]
theorem a21l0c (s0 s1 s2 s3 s4 s5 s6 s7 s8 s9 s10 s11 s12 s13 s14 s15 s16 s17 s18 s19 s20 s21 s22 s23 s24 s25 : AV) : clearA a21l0s [s0, s1, s2, s3, s4, s5, s6, s7, s8, s9, s10, s11, s12, s13, s14, s15, s16, s17, s18, s19, s20, s21, s22, s23, s24, s25] = a21l0F s1 s2 := by kernel_rfl
theorem a21l0n {prog : Nat → Option AFunc} (s1 s2 : AV) (H : Heap) : (lim prog).loop a21l0s a21l0 ⟨a21l0F s1 s2, H⟩ = loopK (lim prog) a21l0s a21l0 (run (lim prog) a21l0b ⟨a21l0F s1 s2, H⟩) := lim_loop_step _ _ _ _ (by kernel_rfl)

def a21l1b : ACode :=
  .seq (.seq (.region [⟨some 15, .mov (.t 3), none⟩,
      ⟨some 16, .faddr 1 (.t 1), none⟩,
      ⟨some 17, .load false 1 (.t 16), none⟩,
      ⟨some 18, .len (.t 17), none⟩,
      ⟨some 19, .bin .lss (.t 15) (.t 18), none⟩])
   (.cond (.t 19)
    (.skip)
    (.exit 2)))
  (.seq (.block 3 (.region [⟨some 22, .faddr 1 (.t 1), none⟩,
       ⟨some 23, .load false 1 (.t 22), none⟩,
       ⟨some 24, .mov (.t 3), none⟩,
       ⟨some 25, .iaddr 1 (.t 23) (.t 24), none⟩,
       ⟨none, .store 1 (.t 25) (.c (.int Go.IntKind.u8 77)), none⟩]))
   (.region [⟨some 20, .mov (.t 3), none⟩,
      ⟨some 21, .bin .add (.t 20) (.c (.int Go.IntKind.i64 1)), none⟩,
      ⟨some 3, .mov (.t 21), none⟩]))

def a21l1 : ACode := a21l1b
def a21l1s : List Nat := [0, 2, 4, 5, 6, 7, 8, 9, 10, 11, 12, 13, 14, 15, 16, 17, 18, 19, 20, 21, 22, 23, 24, 25]
abbrev a21l1F (s1 s3 : AV) : List AV := [.any, s1, .any, s3, .any, .any, .any, .any, .any, .any, .any, .any, .any, .any, .any, .any, .any, .any, .any, .any, .any, .any, .any, .any, .any, .any]
theorem a21l1c (s0 s1 s2 s3 s4 s5 s6 s7 s8 s9 s10 s11 s12 s13 s14 s15 s16 s17 s18 s19 s20 s21 s22 s23 s24 s25 : AV) : clearA a21l1s [s0, s1, s2, s3, s4, s5, s6, s7, s8, s9, s10, s11, s12, s13, s14, s15, s16, s17, s18, s19, s20, s21, s22, s23, s24, s25] = a21l1F s1 s3 := by kernel_rfl
theorem a21l1n {prog : Nat → Option AFunc} (s1 s3 : AV) (H : Heap) : (lim prog).loop a21l1s a21l1 ⟨a21l1F s1 s3, H⟩ = loopK (lim prog) a21l1s a21l1 (run (lim prog) a21l1b ⟨a21l1F s1 s3, H⟩) := lim_loop_step _ _ _ _ (by kernel_rfl)

/-- sentinel/sentinellaw22.spoil -/
def a21 : AFunc := ⟨26,
  .seq (.region [⟨some 1, .box (.t 0), none⟩])
  (.seq (.seq (.region [⟨some 2, .mov (.c (.int Go.IntKind.i64 0)), none⟩])
    (.block 0 (.loop a21l0s a21l0)))
   (.seq (.region [⟨some 3, .mov (.c (.int Go.IntKind.i64 0)), none⟩])
    (.block 2 (.loop a21l1s a21l1)))),
  []⟩

def a22r0ab : ACode :=
  .region [⟨some 6, .mov (.t 12), none⟩]

def a22r0b : ACode :=
  .block 1 (.region [⟨some 13, .load false 1 (.t 4), none⟩,
     ⟨some 14, .mov (.t 6), none⟩,
     ⟨some 15, .bslice true [.int Go.IntKind.u8 0] 1 1 [(0, (.t 14))], none⟩,
     ⟨some 16, .append false 1 1 (.t 13) (.t 15), none⟩,
     ⟨none, .store 1 (.t 4) (.t 16), none⟩])

def a22r0a : ACode := a22r0ab
def a22r0 : ACode := a22r0b
theorem a22r0an (R : Rec) (s : St) : run R a22r0a s = run R a22r0ab s := rfl
theorem a22r0n (R : Rec) (s : St) : run R a22r0 s = run R a22r0b s := rfl

/-- sentinel/lasso.Take -/
def a22 : AFunc := ⟨18,
  .seq (.region [⟨some 2, .box (.t 0), none⟩,
     ⟨some 4, .box (.c (.sl true 0 [])), none⟩])
  (.seq (.seq (.region [⟨some 7, .load true 2 (.t 2), none⟩,
       ⟨some 8, .mov (.t 1), none⟩,
       ⟨some 9, .mini (.t 8) (.c (.int Go.IntKind.i64 4096)), none⟩,
       ⟨some 10, .icall (.c (.func 44 [])) [(.t 7), (.t 9)], none⟩])
    (.block 0 (.range (.t 10) [11, 12] a22r0a a22r0)))
   (.seq (.region [⟨some 17, .load false 1 (.t 4), none⟩,
       ⟨none, .store 1 (.t 4) (.t 17), none⟩])
    (.ret))),
  [.cell 4 false 1]⟩

/-- sentinel/lasso.Check -/
def a23 : AFunc := ⟨40,
  .seq (.region [⟨some 2, .box (.t 0), none⟩,
     ⟨some 3, .box (.t 1), none⟩,
     ⟨some 4, .mov (.c (.int Go.IntKind.i64 0)), none⟩])
  (.seq (.block 0 (.seq (.region [⟨some 7, .load false 1 (.t 3), none⟩,
        ⟨some 8, .bin .lss (.t 7) (.c (.int Go.IntKind.i64 0)), none⟩,
        ⟨some 9, .mov (.t 8), none⟩,
        ⟨some 10, .load false 1 (.t 3), some (9, false)⟩,
        ⟨some 11, .bin .gtr (.t 10) (.c (.int Go.IntKind.i64 6)), some (9, false)⟩,
        ⟨some 12, .pick (.t 9) (.c (.bool true)) (.t 11), none⟩,
        ⟨some 6, .mov (.t 12), none⟩])
     (.cond (.t 6)
      (.seq (.region [⟨some 4, .mov (.c (.int Go.IntKind.i64 7)), none⟩])
       (.ret))
      (.seq (.region [⟨some 14, .faddr 1 (.t 2), none⟩,
          ⟨some 15, .load false 1 (.t 14), none⟩,
          ⟨some 16, .len (.t 15), none⟩,
          ⟨some 17, .bin .eql (.t 16) (.c (.int Go.IntKind.i64 0)), none⟩,
          ⟨some 13, .mov (.t 17), none⟩])
       (.cond (.t 13)
        (.seq (.region [⟨some 4, .mov (.c (.int Go.IntKind.i64 3)), none⟩])
         (.ret))
        (.seq (.region [⟨some 19, .faddr 0 (.t 2), none⟩,
            ⟨some 20, .load false 1 (.t 19), none⟩,
            ⟨some 21, .len (.t 20), none⟩,
            ⟨some 22, .bin .gtr (.t 21) (.c (.int Go.IntKind.i64 64)), none⟩,
            ⟨some 23, .mov (.t 22), none⟩,
            ⟨some 24, .faddr 1 (.t 2), some (23, false)⟩,
            ⟨some 25, .load false 1 (.t 24), some (23, false)⟩,
            ⟨some 26, .len (.t 25), some (23, false)⟩,
            ⟨some 27, .bin .gtr (.t 26) (.c (.int Go.IntKind.i64 64)), some (23, false)⟩,
            ⟨some 28, .pick (.t 23) (.c (.bool true)) (.t 27), none⟩,
            ⟨some 18, .mov (.t 28), none⟩])
         (.cond (.t 18)
          (.seq (.region [⟨some 4, .mov (.c (.int Go.IntKind.i64 4)), none⟩])
           (.ret))
          (.skip))))))))
   (.seq (.region [⟨some 29, .mkfunc 45 [(.t 3)], none⟩,
       ⟨some 5, .mov (.t 29), none⟩])
    (.seq (.seq (.region [⟨some 30, .faddr 0 (.t 2), none⟩,
         ⟨some 31, .load false 1 (.t 30), none⟩,
         ⟨some 32, .mov (.t 5), none⟩,
         ⟨some 33, .icall (.c (.func 46 [])) [(.t 31), (.t 32)], none⟩,
         ⟨some 34, .mov (.t 33), none⟩,
         ⟨some 35, .faddr 1 (.t 2), some (34, false)⟩,
         ⟨some 36, .load false 1 (.t 35), some (34, false)⟩,
         ⟨some 37, .mov (.t 5), some (34, false)⟩,
         ⟨some 38, .icall (.c (.func 46 [])) [(.t 36), (.t 37)], some (34, false)⟩,
         ⟨some 39, .pick (.t 34) (.c (.bool true)) (.t 38), none⟩])
      (.cond (.t 39)
       (.seq (.region [⟨some 4, .mov (.c (.int Go.IntKind.i64 1)), none⟩])
        (.ret))
       (.skip)))
     (.seq (.region [⟨some 4, .mov (.c (.int Go.IntKind.i64 0)), none⟩])
      (.ret))))),
  [.tmp 4]⟩

def a24l0b : ACode :=
  .seq (.seq (.region [⟨some 33, .mov (.t 6), none⟩,
      ⟨some 34, .mov (.t 5), none⟩,
      ⟨some 35, .len (.t 34), none⟩,
      ⟨some 36, .bin .lss (.t 33) (.t 35), none⟩])
   (.cond (.t 36)
    (.skip)
    (.exit 0)))
  (.seq (.block 1 (.seq (.region [⟨some 39, .mov (.t 5), none⟩,
        ⟨some 40, .mov (.t 6), none⟩,
        ⟨some 41, .iaddr 1 (.t 39) (.t 40), none⟩,
        ⟨some 42, .load false 1 (.t 41), none⟩,
        ⟨some 43, .conv Go.IntKind.i64 (.t 42), none⟩,
        ⟨some 44, .mov (.t 1), none⟩,
        ⟨some 45, .conv Go.IntKind.u64 (.t 44), none⟩,
        ⟨some 46, .bin .shl (.c (.int Go.IntKind.i64 1)) (.t 45), none⟩,
        ⟨some 47, .bin .geq (.t 43) (.t 46), none⟩])
     (.cond (.t 47)
      (.seq (.region [⟨some 4, .mov (.c (.int Go.IntKind.i64 1)), none⟩])
       (.ret))
      (.skip))))
   (.region [⟨some 37, .mov (.t 6), none⟩,
      ⟨some 38, .bin .add (.t 37) (.c (.int Go.IntKind.i64 1)), none⟩,
      ⟨some 6, .mov (.t 38), none⟩]))

def a24l0 : ACode := a24l0b
def a24l0s : List Nat := [0, 2, 3, 7, 8, 9, 10, 11, 12, 13, 14, 15, 16, 17, 18, 19, 20, 21, 22, 23, 24, 25, 26, 27, 28, 29, 30, 31, 32, 33, 34, 35, 36, 37, 38, 39, 40, 41, 42, 43, 44, 45, 46, 47]
abbrev a24l0F (s1 s4 s5 s6 : AV) : List AV := [.any, s1, .any, .any, s4, s5, s6, .any, .any, .any, .any, .any, .any, .any, .any, .any, .any, .any, .any, .any, .any, .any, .any, .any, .any, .any, .any, .any, .any, .any, .any, .any, .any, .any, .any, .any, .any, .any, .any, .any, .any, .any, .any, .any, .any, .any, .any, .any]
theorem a24l0c (s0 s1 s2 s3 s4 s5 s6 s7 s8 s9 s10 s11 s12 s13 s14 s15 s16 s17 s18 s19 s20 s21 s22 s23 s24 s25 s26 s27 s28 s29 s30 s31 s32 s33 s34 s35 s36 s37 s38 s39 s40 s41 s42 s43 s44 s45 s46 s47 : AV) : clearA a24l0s [s0, s1, s2, s3, s4, s5, s6, s7, s8, s9, s10, s11, s12, s13, s14, s15, s16, s17, s18, s19, s20, s21, s22, s23, s24, s25, s26, s27, s28, s29, s30, s31, s32, s33, s34, s35, s36, s37, s38, s39, s40, s41, s42, s43, s44, s45, s46, s47] = a24l0F s1 s4 s5 s6 := by kernel_rfl
theorem a24l0n {prog : Nat → Option AFunc} (s1 s4 s5 s6 : AV) (H : Heap) : (lim prog).loop a24l0s a24l0 ⟨a24l0F s1 s4 s5 s6, H⟩ = loopK (lim prog) a24l0s a24l0 (run (lim prog) a24l0b ⟨a24l0F s1 s4 s5 s6, H⟩) := lim_loop_step _ _ _ _ (by kernel_rfl)

/-- sentinel/sentinelref22.Check -/
def a24 : AFunc := ⟨48,
  .seq (.region [⟨some 2, .box (.t 0), none⟩,
     ⟨some 4, .mov (.c (.int Go.IntKind.i64 0)), none⟩])
  (.seq (.seq (.region [⟨some 7, .mov (.t 1), none⟩,
       ⟨some 8, .bin .lss (.t 7) (.c (.int Go.IntKind.i64 0)), none⟩,
       ⟨some 9, .mov (.t 8), none⟩,
       ⟨some 10, .mov (.t 1), some (9, false)⟩,
       ⟨some 11, .bin .gtr (.t 10) (.c (.int Go.IntKind.i64 6)), some (9, false)⟩,
       ⟨some 12, .pick (.t 9) (.c (.bool true)) (.t 11), none⟩])
    (.cond (.t 12)
     (.seq (.region [⟨some 4, .mov (.c (.int Go.IntKind.i64 7)), none⟩])
      (.ret))
     (.skip)))
   (.seq (.seq (.region [⟨some 13, .faddr 1 (.t 2), none⟩,
        ⟨some 14, .load false 1 (.t 13), none⟩,
        ⟨some 15, .len (.t 14), none⟩,
        ⟨some 16, .bin .eql (.t 15) (.c (.int Go.IntKind.i64 0)), none⟩])
     (.cond (.t 16)
      (.seq (.region [⟨some 4, .mov (.c (.int Go.IntKind.i64 3)), none⟩])
       (.ret))
      (.skip)))
    (.seq (.seq (.region [⟨some 17, .faddr 0 (.t 2), none⟩,
         ⟨some 18, .load false 1 (.t 17), none⟩,
         ⟨some 19, .len (.t 18), none⟩,
         ⟨some 20, .bin .gtr (.t 19) (.c (.int Go.IntKind.i64 64)), none⟩,
         ⟨some 21, .mov (.t 20), none⟩,
         ⟨some 22, .faddr 1 (.t 2), some (21, false)⟩,
         ⟨some 23, .load false 1 (.t 22), some (21, false)⟩,
         ⟨some 24, .len (.t 23), some (21, false)⟩,
         ⟨some 25, .bin .gtr (.t 24) (.c (.int Go.IntKind.i64 64)), some (21, false)⟩,
         ⟨some 26, .pick (.t 21) (.c (.bool true)) (.t 25), none⟩])
      (.cond (.t 26)
       (.seq (.region [⟨some 4, .mov (.c (.int Go.IntKind.i64 4)), none⟩])
        (.ret))
       (.skip)))
     (.seq (.drawp [] [] 5 [⟨some 27, .faddr 0 (.t 2), none⟩,
         ⟨some 28, .load false 1 (.t 27), none⟩,
         ⟨some 29, .append false 1 1 (.c (.sl true 0 [])) (.t 28), none⟩,
         ⟨some 30, .faddr 1 (.t 2), none⟩,
         ⟨some 31, .load false 1 (.t 30), none⟩,
         ⟨some 32, .append false 1 1 (.t 29) (.t 31), none⟩,
         ⟨some 5, .mov (.t 32), none⟩])
      (.seq (.seq (.region [⟨some 6, .mov (.c (.int Go.IntKind.i64 0)), none⟩])
        (.block 0 (.loop a24l0s a24l0)))
       (.seq (.region [⟨some 4, .mov (.c (.int Go.IntKind.i64 0)), none⟩])
        (.ret))))))),
  [.tmp 4]⟩

/-- sentinel/lasso.At -/
def a25 : AFunc := ⟨29,
  .seq (.region [⟨some 2, .box (.t 0), none⟩,
     ⟨some 4, .mov (.c (.int Go.IntKind.u8 0)), none⟩])
  (.seq (.seq (.region [⟨some 6, .mov (.t 1), none⟩,
       ⟨some 7, .bin .lss (.t 6) (.c (.int Go.IntKind.i64 0)), none⟩])
    (.cond (.t 7)
     (.seq (.region [⟨some 4, .mov (.c (.int Go.IntKind.u8 0)), none⟩])
      (.ret))
     (.skip)))
   (.seq (.region [⟨some 8, .load true 2 (.t 2), none⟩,
       ⟨some 9, .call 35 [(.t 8)], none⟩,
       ⟨none, .store 2 (.t 2) (.t 9), none⟩])
    (.seq (.seq (.draw 6 [⟨some 10, .load true 2 (.t 2), none⟩,
         ⟨some 11, .mov (.t 1), none⟩,
         ⟨some 12, .call 27 [(.t 10), (.t 11)], none⟩,
         ⟨some 13, .faddr 0 (.t 2), none⟩,
         ⟨some 14, .load false 1 (.t 13), none⟩,
         ⟨some 15, .len (.t 14), none⟩,
         ⟨some 16, .bin .sub (.t 12) (.t 15), none⟩,
         ⟨some 5, .mov (.t 16), none⟩])
      (.seq (.region [⟨some 17, .mov (.t 5), none⟩,
          ⟨some 18, .bin .geq (.t 17) (.c (.int Go.IntKind.i64 0)), none⟩])
       (.cond (.t 18)
        (.seq (.region [⟨some 19, .faddr 1 (.t 2), none⟩,
            ⟨some 20, .load false 1 (.t 19), none⟩,
            ⟨some 21, .mov (.t 5), none⟩,
            ⟨some 22, .iaddr 1 (.t 20) (.t 21), none⟩,
            ⟨some 23, .load false 1 (.t 22), none⟩,
            ⟨some 4, .mov (.t 23), none⟩])
         (.ret))
        (.skip))))
     (.seq (.region [⟨some 24, .faddr 0 (.t 2), none⟩,
         ⟨some 25, .load false 1 (.t 24), none⟩,
         ⟨some 26, .mov (.t 1), none⟩,
         ⟨some 27, .iaddr 1 (.t 25) (.t 26), none⟩,
         ⟨some 28, .load false 1 (.t 27), none⟩,
         ⟨some 4, .mov (.t 28), none⟩])
      (.ret))))),
  [.tmp 4]⟩

/-- sentinel/sentinelref22.At -/
def a26 : AFunc := ⟨32,
  .seq (.region [⟨some 2, .box (.t 0), none⟩,
     ⟨some 4, .mov (.c (.int Go.IntKind.u8 0)), none⟩])
  (.seq (.seq (.region [⟨some 6, .mov (.t 1), none⟩,
       ⟨some 7, .bin .lss (.t 6) (.c (.int Go.IntKind.i64 0)), none⟩])
    (.cond (.t 7)
     (.seq (.region [⟨some 4, .mov (.c (.int Go.IntKind.u8 0)), none⟩])
      (.ret))
     (.skip)))
   (.seq (.region [⟨some 8, .load true 2 (.t 2), none⟩,
       ⟨some 9, .call 41 [(.t 8)], none⟩,
       ⟨none, .store 2 (.t 2) (.t 9), none⟩])
    (.seq (.region [⟨some 10, .load true 2 (.t 2), none⟩,
        ⟨some 11, .mov (.t 1), none⟩,
        ⟨some 12, .call 28 [(.t 10), (.t 11)], none⟩,
        ⟨some 5, .mov (.t 12), none⟩])
     (.seq (.seq (.region [⟨some 13, .mov (.t 5), none⟩,
          ⟨some 14, .faddr 0 (.t 2), none⟩,
          ⟨some 15, .load false 1 (.t 14), none⟩,
          ⟨some 16, .len (.t 15), none⟩,
          ⟨some 17, .bin .lss (.t 13) (.t 16), none⟩])
       (.cond (.t 17)
        (.seq (.region [⟨some 18, .faddr 0 (.t 2), none⟩,
            ⟨some 19, .load false 1 (.t 18), none⟩,
            ⟨some 20, .mov (.t 5), none⟩,
            ⟨some 21, .iaddr 1 (.t 19) (.t 20), none⟩,
            ⟨some 22, .load false 1 (.t 21), none⟩,
            ⟨some 4, .mov (.t 22), none⟩])
         (.ret))
        (.skip)))
      (.seq (.region [⟨some 23, .faddr 1 (.t 2), none⟩,
          ⟨some 24, .load false 1 (.t 23), none⟩,
          ⟨some 25, .mov (.t 5), none⟩,
          ⟨some 26, .faddr 0 (.t 2), none⟩,
          ⟨some 27, .load false 1 (.t 26), none⟩,
          ⟨some 28, .len (.t 27), none⟩,
          ⟨some 29, .bin .sub (.t 25) (.t 28), none⟩,
          ⟨some 30, .iaddr 1 (.t 24) (.t 29), none⟩,
          ⟨some 31, .load false 1 (.t 30), none⟩,
          ⟨some 4, .mov (.t 31), none⟩])
       (.ret)))))),
  [.tmp 4]⟩

/-- sentinel/lasso.Index -/
def a27 : AFunc := ⟨24,
  .seq (.region [⟨some 2, .box (.t 0), none⟩,
     ⟨some 4, .mov (.c (.int Go.IntKind.i64 0)), none⟩])
  (.seq (.region [⟨some 6, .faddr 0 (.t 2), none⟩,
      ⟨some 7, .load false 1 (.t 6), none⟩,
      ⟨some 8, .len (.t 7), none⟩,
      ⟨some 5, .mov (.t 8), none⟩])
   (.seq (.seq (.region [⟨some 9, .mov (.t 1), none⟩,
        ⟨some 10, .mov (.t 5), none⟩,
        ⟨some 11, .bin .lss (.t 9) (.t 10), none⟩])
     (.cond (.t 11)
      (.seq (.region [⟨some 12, .mov (.t 1), none⟩,
          ⟨some 13, .maxi (.t 12) (.c (.int Go.IntKind.i64 0)), none⟩,
          ⟨some 4, .mov (.t 13), none⟩])
       (.ret))
      (.skip)))
    (.seq (.region [⟨some 14, .mov (.t 5), none⟩,
        ⟨some 15, .mov (.t 1), none⟩,
        ⟨some 16, .mov (.t 5), none⟩,
        ⟨some 17, .bin .sub (.t 15) (.t 16), none⟩,
        ⟨some 18, .faddr 1 (.t 2), none⟩,
        ⟨some 19, .load false 1 (.t 18), none⟩,
        ⟨some 20, .len (.t 19), none⟩,
        ⟨some 21, .maxi (.t 20) (.c (.int Go.IntKind.i64 1)), none⟩,
        ⟨some 22, .bin .rem (.t 17) (.t 21), none⟩,
        ⟨some 23, .bin .add (.t 14) (.t 22), none⟩,
        ⟨some 4, .mov (.t 23), none⟩])
     (.ret)))),
  [.tmp 4]⟩

/-- sentinel/sentinelref22.Index -/
def a28 : AFunc := ⟨28,
  .seq (.region [⟨some 2, .box (.t 0), none⟩,
     ⟨some 4, .mov (.c (.int Go.IntKind.i64 0)), none⟩])
  (.seq (.region [⟨some 5, .load true 2 (.t 2), none⟩,
      ⟨some 6, .call 41 [(.t 5)], none⟩,
      ⟨none, .store 2 (.t 2) (.t 6), none⟩])
   (.seq (.seq (.region [⟨some 7, .mov (.t 1), none⟩,
        ⟨some 8, .bin .lss (.t 7) (.c (.int Go.IntKind.i64 0)), none⟩])
     (.cond (.t 8)
      (.seq (.region [⟨some 4, .mov (.c (.int Go.IntKind.i64 0)), none⟩])
       (.ret))
      (.skip)))
    (.seq (.seq (.region [⟨some 9, .mov (.t 1), none⟩,
         ⟨some 10, .faddr 0 (.t 2), none⟩,
         ⟨some 11, .load false 1 (.t 10), none⟩,
         ⟨some 12, .len (.t 11), none⟩,
         ⟨some 13, .bin .lss (.t 9) (.t 12), none⟩])
      (.cond (.t 13)
       (.seq (.region [⟨some 14, .mov (.t 1), none⟩,
           ⟨some 4, .mov (.t 14), none⟩])
        (.ret))
       (.skip)))
     (.seq (.draw 10 [⟨some 15, .faddr 0 (.t 2), none⟩,
         ⟨some 16, .load false 1 (.t 15), none⟩,
         ⟨some 17, .len (.t 16), none⟩,
         ⟨some 18, .mov (.t 1), none⟩,
         ⟨some 19, .faddr 0 (.t 2), none⟩,
         ⟨some 20, .load false 1 (.t 19), none⟩,
         ⟨some 21, .len (.t 20), none⟩,
         ⟨some 22, .bin .sub (.t 18) (.t 21), none⟩,
         ⟨some 23, .faddr 1 (.t 2), none⟩,
         ⟨some 24, .load false 1 (.t 23), none⟩,
         ⟨some 25, .len (.t 24), none⟩,
         ⟨some 26, .bin .rem (.t 22) (.t 25), none⟩,
         ⟨some 27, .bin .add (.t 17) (.t 26), none⟩,
         ⟨some 4, .mov (.t 27), none⟩])
      (.ret))))),
  [.tmp 4]⟩

def a29l0b : ACode :=
  .seq (.seq (.region [⟨some 11, .mov (.t 5), none⟩,
      ⟨some 12, .mov (.t 0), none⟩,
      ⟨some 13, .len (.t 12), none⟩,
      ⟨some 14, .bin .lss (.t 11) (.t 13), none⟩])
   (.cond (.t 14)
    (.skip)
    (.exit 0)))
  (.seq (.block 1 (.seq (.draw 8 [⟨some 17, .mov (.t 0), none⟩,
        ⟨some 18, .mov (.t 5), none⟩,
        ⟨some 19, .iaddr 1 (.t 17) (.t 18), none⟩,
        ⟨some 20, .load false 1 (.t 19), none⟩,
        ⟨some 21, .mov (.t 1), none⟩,
        ⟨some 22, .mov (.t 5), none⟩,
        ⟨some 23, .iaddr 1 (.t 21) (.t 22), none⟩,
        ⟨some 24, .load false 1 (.t 23), none⟩,
        ⟨some 25, .bin .neq (.t 20) (.t 24), none⟩])
     (.cond (.t 25)
      (.seq (.region [⟨some 4, .mov (.c (.bool false)), none⟩])
       (.ret))
      (.skip))))
   (.region [⟨some 15, .mov (.t 5), none⟩,
      ⟨some 16, .bin .add (.t 15) (.c (.int Go.IntKind.i64 1)), none⟩,
      ⟨some 5, .mov (.t 16), none⟩]))

def a29l0 : ACode := a29l0b
def a29l0s : List Nat := [2, 3, 6, 7, 8, 9, 10, 11, 12, 13, 14, 15, 16, 17, 18, 19, 20, 21, 22, 23, 24, 25]
abbrev a29l0F (s0 s1 s4 s5 : AV) : List AV := [s0, s1, .any, .any, s4, s5, .any, .any, .any, .any, .any, .any, .any, .any, .any, .any, .any, .any, .any, .any, .any, .any, .any, .any, .any, .any]
theorem a29l0c (s0 s1 s2 s3 s4 s5 s6 s7 s8 s9 s10 s11 s12 s13 s14 s15 s16 s17 s18 s19 s20 s21 s22 s23 s24 s25 : AV) : clearA a29l0s [s0, s1, s2, s3, s4, s5, s6, s7, s8, s9, s10, s11, s12, s13, s14, s15, s16, s17, s18, s19, s20, s21, s22, s23, s24, s25] = a29l0F s0 s1 s4 s5 := by kernel_rfl
theorem a29l0n {prog : Nat → Option AFunc} (s0 s1 s4 s5 : AV) (H : Heap) : (lim prog).loop a29l0s a29l0 ⟨a29l0F s0 s1 s4 s5, H⟩ = loopK (lim prog) a29l0s a29l0 (run (lim prog) a29l0b ⟨a29l0F s0 s1 s4 s5, H⟩) := lim_loop_step _ _ _ _ (by kernel_rfl)

/-- sentinel/sentinelref22.Letters -/
def a29 : AFunc := ⟨26,
  .seq (.region [⟨some 4, .mov (.c (.bool false)), none⟩])
  (.seq (.seq (.region [⟨some 6, .mov (.t 0), none⟩,
       ⟨some 7, .len (.t 6), none⟩,
       ⟨some 8, .mov (.t 1), none⟩,
       ⟨some 9, .len (.t 8), none⟩,
       ⟨some 10, .bin .neq (.t 7) (.t 9), none⟩])
    (.cond (.t 10)
     (.seq (.region [⟨some 4, .mov (.c (.bool false)), none⟩])
      (.ret))
     (.skip)))
   (.seq (.seq (.region [⟨some 5, .mov (.c (.int Go.IntKind.i64 0)), none⟩])
     (.block 0 (.loop a29l0s a29l0)))
    (.seq (.region [⟨some 4, .mov (.c (.bool true)), none⟩])
     (.ret)))),
  [.tmp 4]⟩

def a30l0b : ACode :=
  .seq (.seq (.region [⟨some 7, .mov (.t 6), none⟩,
      ⟨some 8, .mov (.t 1), none⟩,
      ⟨some 9, .bin .lss (.t 7) (.t 8), none⟩,
      ⟨some 10, .mov (.t 9), none⟩,
      ⟨some 11, .mov (.t 6), some (10, true)⟩,
      ⟨some 12, .bin .lss (.t 11) (.c (.int Go.IntKind.i64 4096)), some (10, true)⟩,
      ⟨some 13, .pick (.t 10) (.t 12) (.c (.bool false)), none⟩])
   (.cond (.t 13)
    (.skip)
    (.exit 0)))
  (.seq (.block 1 (.region [⟨some 16, .mov (.t 5), none⟩,
       ⟨some 17, .load true 2 (.t 2), none⟩,
       ⟨some 18, .mov (.t 6), none⟩,
       ⟨some 19, .call 26 [(.t 17), (.t 18)], none⟩,
       ⟨some 20, .bslice true [.int Go.IntKind.u8 0] 1 1 [(0, (.t 19))], none⟩,
       ⟨some 21, .append false 1 1 (.t 16) (.t 20), none⟩,
       ⟨some 5, .mov (.t 21), none⟩]))
   (.region [⟨some 14, .mov (.t 6), none⟩,
      ⟨some 15, .bin .add (.t 14) (.c (.int Go.IntKind.i64 1)), none⟩,
      ⟨some 6, .mov (.t 15), none⟩]))

def a30l0 : ACode := a30l0b
def a30l0s : List Nat := [0, 3, 4, 7, 8, 9, 10, 11, 12, 13, 14, 15, 16, 17, 18, 19, 20, 21, 22]
abbrev a30l0F (s1 s2 s5 s6 : AV) : List AV := [.any, s1, s2, .any, .any, s5, s6, .any, .any, .any, .any, .any, .any, .any, .any, .any, .any, .any, .any, .any, .any, .any, .any]
theorem a30l0c (s0 s1 s2 s3 s4 s5 s6 s7 s8 s9 s10 s11 s12 s13 s14 s15 s16 s17 s18 s19 s20 s21 s22 : AV) : clearA a30l0s [s0, s1, s2, s3, s4, s5, s6, s7, s8, s9, s10, s11, s12, s13, s14, s15, s16, s17, s18, s19, s20, s21, s22] = a30l0F s1 s2 s5 s6 := by kernel_rfl
theorem a30l0n {prog : Nat → Option AFunc} (s1 s2 s5 s6 : AV) (H : Heap) : (lim prog).loop a30l0s a30l0 ⟨a30l0F s1 s2 s5 s6, H⟩ = loopK (lim prog) a30l0s a30l0 (run (lim prog) a30l0b ⟨a30l0F s1 s2 s5 s6, H⟩) := lim_loop_step _ _ _ _ (by kernel_rfl)

/-- sentinel/sentinelref22.Take -/
def a30 : AFunc := ⟨23,
  .seq (.region [⟨some 2, .box (.t 0), none⟩,
     ⟨some 4, .mov (.c (.sl true 0 [])), none⟩])
  (.seq (.region [⟨some 5, .mov (.c (.sl true 0 [])), none⟩])
   (.seq (.seq (.region [⟨some 6, .mov (.c (.int Go.IntKind.i64 0)), none⟩])
     (.block 0 (.loop a30l0s a30l0)))
    (.seq (.region [⟨some 22, .mov (.t 5), none⟩,
        ⟨some 4, .mov (.t 22), none⟩])
     (.ret)))),
  [.tmp 4]⟩

/-- sentinel/sentinellaw22.loop -/
def a31 : AFunc := ⟨5,
  .seq (.region [⟨some 2, .box (.c (.agg [.sl true 0 [], .sl true 0 []])), none⟩])
  (.seq (.region [⟨some 3, .mov (.t 0), none⟩,
      ⟨some 4, .build [.sl true 0 [], .sl true 0 []] [(1, 1, (.t 3))], none⟩,
      ⟨none, .store 2 (.t 2) (.t 4), none⟩])
   (.ret)),
  [.cell 2 true 2]⟩

def a32l0b : ACode :=
  .seq (.seq (.region [⟨some 19, .mov (.t 7), none⟩,
      ⟨some 20, .bin .gtr (.t 19) (.c (.int Go.IntKind.i64 0)), none⟩])
   (.cond (.t 20)
    (.skip)
    (.exit 0)))
  (.block 1 (.draw 4 [⟨some 21, .mov (.t 7), none⟩,
      ⟨some 22, .mov (.t 6), none⟩,
      ⟨some 23, .mov (.t 7), none⟩,
      ⟨some 24, .bin .rem (.t 22) (.t 23), none⟩,
      ⟨some 6, .mov (.t 21), none⟩,
      ⟨some 7, .mov (.t 24), none⟩]))

def a32l0 : ACode := a32l0b
def a32l0s : List Nat := [0, 1, 5, 8, 9, 10, 11, 12, 13, 14, 15, 16, 17, 18, 19, 20, 21, 22, 23, 24, 25, 26, 27, 28, 29, 30, 31, 32, 33, 34, 35, 36, 37, 38, 39, 40, 41, 42, 43, 44, 45, 46]
abbrev a32l0F (s2 s3 s4 s6 s7 : AV) : List AV := [.any, .any, s2, s3, s4, .any, s6, s7, .any, .any, .any, .any, .any, .any, .any, .any, .any, .any, .any, .any, .any, .any, .any, .any, .any, .any, .any, .any, .any, .any, .any, .any, .any, .any, .any, .any, .any, .any, .any, .any, .any, .any, .any, .any, .any, .any, .any]
theorem a32l0c (s0 s1 s2 s3 s4 s5 s6 s7 s8 s9 s10 s11 s12 s13 s14 s15 s16 s17 s18 s19 s20 s21 s22 s23 s24 s25 s26 s27 s28 s29 s30 s31 s32 s33 s34 s35 s36 s37 s38 s39 s40 s41 s42 s43 s44 s45 s46 : AV) : clearA a32l0s [s0, s1, s2, s3, s4, s5, s6, s7, s8, s9, s10, s11, s12, s13, s14, s15, s16, s17, s18, s19, s20, s21, s22, s23, s24, s25, s26, s27, s28, s29, s30, s31, s32, s33, s34, s35, s36, s37, s38, s39, s40, s41, s42, s43, s44, s45, s46] = a32l0F s2 s3 s4 s6 s7 := by kernel_rfl
theorem a32l0n {prog : Nat → Option AFunc} (s2 s3 s4 s6 s7 : AV) (H : Heap) : (lim prog).loop a32l0s a32l0 ⟨a32l0F s2 s3 s4 s6 s7, H⟩ = loopK (lim prog) a32l0s a32l0 (run (lim prog) a32l0b ⟨a32l0F s2 s3 s4 s6 s7, H⟩) := lim_loop_step _ _ _ _ (by kernel_rfl)

/-- sentinel/lasso.Merge -/
def a32 : AFunc := ⟨47,
  .seq (.region [⟨some 2, .box (.t 0), none⟩,
     ⟨some 3, .box (.t 1), none⟩,
     ⟨some 4, .box (.c (.agg [.sl true 0 [], .sl true 0 []])), none⟩,
     ⟨some 5, .mov (.c (.int Go.IntKind.i64 0)), none⟩])
  (.seq (.draw 3 [⟨some 9, .load true 2 (.t 2), none⟩,
      ⟨some 10, .call 12 [(.t 9)], none⟩,
      ⟨some 11, .load true 2 (.t 3), none⟩,
      ⟨some 12, .call 12 [(.t 11)], none⟩,
      ⟨none, .store 2 (.t 2) (.t 10), none⟩,
      ⟨none, .store 2 (.t 3) (.t 12), none⟩])
   (.seq (.draw 6 [⟨some 13, .faddr 1 (.t 2), none⟩,
       ⟨some 14, .load false 1 (.t 13), none⟩,
       ⟨some 15, .len (.t 14), none⟩,
       ⟨some 16, .faddr 1 (.t 3), none⟩,
       ⟨some 17, .load false 1 (.t 16), none⟩,
       ⟨some 18, .len (.t 17), none⟩,
       ⟨some 6, .mov (.t 15), none⟩,
       ⟨some 7, .mov (.t 18), none⟩])
    (.seq (.block 0 (.loop a32l0s a32l0))
     (.seq (.draw 7 [⟨some 25, .faddr 1 (.t 2), none⟩,
         ⟨some 26, .load false 1 (.t 25), none⟩,
         ⟨some 27, .len (.t 26), none⟩,
         ⟨some 28, .mov (.t 6), none⟩,
         ⟨some 29, .bin .quo (.t 27) (.t 28), none⟩,
         ⟨some 30, .faddr 1 (.t 3), none⟩,
         ⟨some 31, .load false 1 (.t 30), none⟩,
         ⟨some 32, .len (.t 31), none⟩,
         ⟨some 33, .bin .mul (.t 29) (.t 32), none⟩,
         ⟨some 8, .mov (.t 33), none⟩])
      (.seq (.seq (.region [⟨some 34, .mov (.t 8), none⟩,
           ⟨some 35, .bin .gtr (.t 34) (.c (.int Go.IntKind.i64 4096)), none⟩])
        (.cond (.t 35)
         (.seq (.region [⟨some 36, .build [.sl true 0 [], .sl true 0 []] [], none⟩,
             ⟨none, .store 2 (.t 4) (.t 36), none⟩,
             ⟨some 5, .mov (.c (.int Go.IntKind.i64 4)), none⟩])
          (.ret))
         (.skip)))
       (.seq (.region [⟨some 37, .faddr 0 (.t 2), none⟩,
           ⟨some 38, .load false 1 (.t 37), none⟩,
           ⟨some 39, .len (.t 38), none⟩,
           ⟨some 40, .faddr 0 (.t 3), none⟩,
           ⟨some 41, .load false 1 (.t 40), none⟩,
           ⟨some 42, .len (.t 41), none⟩,
           ⟨some 43, .maxi (.t 39) (.t 42), none⟩,
           ⟨some 44, .mov (.t 8), none⟩,
           ⟨some 45, .mkfunc 47 [(.t 2), (.t 3)], none⟩,
           ⟨some 46, .icall (.c (.func 39 [])) [(.t 43), (.t 44), (.t 45)], none⟩,
           ⟨none, .store 2 (.t 4) (.t 46), none⟩,
           ⟨some 5, .mov (.c (.int Go.IntKind.i64 0)), none⟩])
        (.ret))))))),
  [.cell 4 true 2, .tmp 5]⟩

def a33r0ab : ACode :=
  .seq (.region [⟨some 6, .mov (.t 29), none⟩])
  (.region [⟨some 7, .mov (.t 30), none⟩])

def a33r0b : ACode :=
  .block 1 (.seq (.region [⟨some 31, .mov (.t 7), none⟩,
      ⟨some 32, .load true 2 (.t 3), none⟩,
      ⟨some 33, .mov (.t 6), none⟩,
      ⟨some 34, .call 25 [(.t 32), (.t 33)], none⟩,
      ⟨some 35, .call 48 [(.t 31), (.t 34)], none⟩,
      ⟨some 8, .mov (.t 35), none⟩])
   (.seq (.region [⟨some 36, .mov (.t 8), none⟩,
       ⟨some 37, .bin .neq (.t 36) (.c (.int Go.IntKind.i64 0)), none⟩])
    (.cond (.t 37)
     (.seq (.region [⟨some 38, .mov (.t 8), none⟩,
         ⟨none, .store 1 (.t 4) (.t 38), none⟩])
      (.ret))
     (.skip))))

def a33r0a : ACode := a33r0ab
def a33r0 : ACode := a33r0b
theorem a33r0an (R : Rec) (s : St) : run R a33r0a s = run R a33r0ab s := rfl
theorem a33r0n (R : Rec) (s : St) : run R a33r0 s = run R a33r0b s := rfl

/-- sentinel/lasso.Compare -/
def a33 : AFunc := ⟨39,
  .seq (.region [⟨some 2, .box (.t 0), none⟩,
     ⟨some 3, .box (.t 1), none⟩,
     ⟨some 4, .box (.c (.int Go.IntKind.i64 0)), none⟩])
  (.seq (.region [⟨some 9, .faddr 0 (.t 2), none⟩,
      ⟨some 10, .load false 1 (.t 9), none⟩,
      ⟨some 11, .len (.t 10), none⟩,
      ⟨some 12, .faddr 0 (.t 3), none⟩,
      ⟨some 13, .load false 1 (.t 12), none⟩,
      ⟨some 14, .len (.t 13), none⟩,
      ⟨some 15, .maxi (.t 11) (.t 14), none⟩,
      ⟨some 16, .faddr 1 (.t 2), none⟩,
      ⟨some 17, .load false 1 (.t 16), none⟩,
      ⟨some 18, .len (.t 17), none⟩,
      ⟨some 19, .maxi (.t 18) (.c (.int Go.IntKind.i64 1)), none⟩,
      ⟨some 20, .bin .add (.t 15) (.t 19), none⟩,
      ⟨some 21, .faddr 1 (.t 3), none⟩,
      ⟨some 22, .load false 1 (.t 21), none⟩,
      ⟨some 23, .len (.t 22), none⟩,
      ⟨some 24, .maxi (.t 23) (.c (.int Go.IntKind.i64 1)), none⟩,
      ⟨some 25, .bin .add (.t 20) (.t 24), none⟩,
      ⟨some 5, .mov (.t 25), none⟩])
   (.seq (.seq (.region [⟨some 26, .load true 2 (.t 2), none⟩,
        ⟨some 27, .mov (.t 5), none⟩,
        ⟨some 28, .icall (.c (.func 44 [])) [(.t 26), (.t 27)], none⟩])
     (.block 0 (.range (.t 28) [29, 30] a33r0a a33r0)))
    (.seq (.region [⟨none, .store 1 (.t 4) (.c (.int Go.IntKind.i64 0)), none⟩])
     (.ret)))),
  [.cell 4 false 1]⟩

/-- sentinel/lasso.Equal -/
def a34 : AFunc := ⟨9,
  .seq (.region [⟨some 2, .box (.t 0), none⟩,
     ⟨some 3, .box (.t 1), none⟩,
     ⟨some 4, .mov (.c (.bool false)), none⟩])
  (.seq (.region [⟨some 5, .load true 2 (.t 2), none⟩,
      ⟨some 6, .load true 2 (.t 3), none⟩,
      ⟨some 7, .call 33 [(.t 5), (.t 6)], none⟩,
      ⟨some 8, .bin .eql (.t 7) (.c (.int Go.IntKind.i64 0)), none⟩,
      ⟨some 4, .mov (.t 8), none⟩])
   (.ret)),
  [.tmp 4]⟩

/-- sentinel/lasso.full -/
def a35 : AFunc := ⟨10,
  .seq (.region [⟨some 1, .box (.t 0), none⟩,
     ⟨some 2, .box (.c (.agg [.sl true 0 [], .sl true 0 []])), none⟩])
  (.seq (.seq (.region [⟨some 3, .faddr 1 (.t 1), none⟩,
       ⟨some 4, .load false 1 (.t 3), none⟩,
       ⟨some 5, .len (.t 4), none⟩,
       ⟨some 6, .bin .eql (.t 5) (.c (.int Go.IntKind.i64 0)), none⟩])
    (.cond (.t 6)
     (.region [⟨some 7, .mkslice false [.int Go.IntKind.u8 0] 1 (.c (.int Go.IntKind.i64 1)) (.c (.int Go.IntKind.i64 1)), none⟩,
        ⟨some 8, .faddr 1 (.t 1), none⟩,
        ⟨none, .store 1 (.t 8) (.t 7), none⟩])
     (.skip)))
   (.seq (.region [⟨some 9, .load true 2 (.t 1), none⟩,
       ⟨none, .store 2 (.t 2) (.t 9), none⟩])
    (.ret))),
  [.cell 2 true 2]⟩

def a36l0b : ACode :=
  .seq (.seq (.draw 11 [⟨some 17, .mov (.t 4), none⟩,
      ⟨some 18, .bin .gtr (.t 17) (.c (.int Go.IntKind.i64 0)), none⟩,
      ⟨some 19, .mov (.t 18), none⟩,
      ⟨some 20, .mov (.t 0), some (19, true)⟩,
      ⟨some 21, .mov (.t 5), some (19, true)⟩,
      ⟨some 22, .iaddr 1 (.t 20) (.t 21), some (19, true)⟩,
      ⟨some 23, .load false 1 (.t 22), some (19, true)⟩,
      ⟨some 24, .mov (.t 0), some (19, true)⟩,
      ⟨some 25, .mov (.t 4), some (19, true)⟩,
      ⟨some 26, .iaddr 1 (.t 24) (.t 25), some (19, true)⟩,
      ⟨some 27, .load false 1 (.t 26), some (19, true)⟩,
      ⟨some 28, .bin .neq (.t 23) (.t 27), some (19, true)⟩,
      ⟨some 29, .pick (.t 19) (.t 28) (.c (.bool false)), none⟩])
   (.cond (.t 29)
    (.skip)
    (.exit 2)))
  (.block 3 (.region [⟨some 30, .mov (.t 3), none⟩,
      ⟨some 31, .mov (.t 4), none⟩,
      ⟨some 32, .iaddr 1 (.t 30) (.t 31), none⟩,
      ⟨some 33, .load false 1 (.t 32), none⟩,
      ⟨some 4, .mov (.t 33), none⟩]))

def a36l0 : ACode := a36l0b
def a36l0s : List Nat := [1, 2, 6, 7, 8, 9, 10, 11, 12, 13, 14, 15, 16, 17, 18, 19, 20, 21, 22, 23, 24, 25, 26, 27, 28, 29, 30, 31, 32, 33, 34, 35, 36, 37, 38, 39, 40, 41, 42, 43, 44, 45, 46, 47, 48, 49, 50, 51, 52, 53, 54, 55, 56, 57, 58, 59, 60, 61, 62, 63, 64, 65, 66]
abbrev a36l0F (s0 s3 s4 s5 : AV) : List AV := [s0, .any, .any, s3, s4, s5, .any, .any, .any, .any, .any, .any, .any, .any, .any, .any, .any, .any, .any, .any, .any, .any, .any, .any, .any, .any, .any, .any, .any, .any, .any, .any, .any, .any, .any, .any, .any, .any, .any, .any, .any, .any, .any, .any, .any, .any, .any, .any, .any, .any, .any, .any, .any, .any, .any, .any, .any, .any, .any, .any, .any, .any, .any, .any, .any, .any, .any]
theorem a36l0c (s0 s1 s2 s3 s4 s5 s6 s7 s8 s9 s10 s11 s12 s13 s14 s15 s16 s17 s18 s19 s20 s21 s22 s23 s24 s25 s26 s27 s28 s29 s30 s31 s32 s33 s34 s35 s36 s37 s38 s39 s40 s41 s42 s43 s44 s45 s46 s47 s48 s49 s50 s51 s52 s53 s54 s55 s56 s57 s58 s59 s60 s61 s62 s63 s64 s65 s66 : AV) : clearA a36l0s [s0, s1, s2, s3, s4, s5, s6, s7, s8, s9, s10, s11, s12, s13, s14, s15, s16, s17, s18, s19, s20, s21, s22, s23, s24, s25, s26, s27, s28, s29, s30, s31, s32, s33, s34, s35, s36, s37, s38, s39, s40, s41, s42, s43, s44, s45, s46, s47, s48, s49, s50, s51, s52, s53, s54, s55, s56, s57, s58, s59, s60, s61, s62, s63, s64, s65, s66] = a36l0F s0 s3 s4 s5 := by kernel_rfl
theorem a36l0n {prog : Nat → Option AFunc} (s0 s3 s4 s5 : AV) (H : Heap) : (lim prog).loop a36l0s a36l0 ⟨a36l0F s0 s3 s4 s5, H⟩ = loopK (lim prog) a36l0s a36l0 (run (lim prog) a36l0b ⟨a36l0F s0 s3 s4 s5, H⟩) := lim_loop_step _ _ _ _ (by kernel_rfl)

def a36l1b : ACode :=
  .seq (.seq (.region [⟨some 11, .mov (.t 5), none⟩,
      ⟨some 12, .mov (.t 0), none⟩,
      ⟨some 13, .len (.t 12), none⟩,
      ⟨some 14, .bin .lss (.t 11) (.t 13), none⟩])
   (.cond (.t 14)
    (.skip)
    (.exit 0)))
  (.seq (.block 1 (.seq (.block 2 (.loop a36l0s a36l0))
     (.seq (.seq (.draw 8 [⟨some 34, .mov (.t 0), none⟩,
          ⟨some 35, .mov (.t 5), none⟩,
          ⟨some 36, .iaddr 1 (.t 34) (.t 35), none⟩,
          ⟨some 37, .load false 1 (.t 36), none⟩,
          ⟨some 38, .mov (.t 0), none⟩,
          ⟨some 39, .mov (.t 4), none⟩,
          ⟨some 40, .iaddr 1 (.t 38) (.t 39), none⟩,
          ⟨some 41, .load false 1 (.t 40), none⟩,
          ⟨some 42, .bin .eql (.t 37) (.t 41), none⟩])
       (.cond (.t 42)
        (.region [⟨some 43, .mov (.t 4), none⟩,
           ⟨some 44, .bin .add (.t 43) (.c (.int Go.IntKind.i64 1)), none⟩,
           ⟨some 4, .mov (.t 44), none⟩])
        (.skip)))
      (.region [⟨some 45, .mov (.t 3), none⟩,
         ⟨some 46, .mov (.t 5), none⟩,
         ⟨some 47, .bin .add (.t 46) (.c (.int Go.IntKind.i64 1)), none⟩,
         ⟨some 48, .mov (.t 4), none⟩,
         ⟨some 49, .iaddr 1 (.t 45) (.t 47), none⟩,
         ⟨none, .store 1 (.t 49) (.t 48), none⟩]))))
   (.region [⟨some 15, .mov (.t 5), none⟩,
      ⟨some 16, .bin .add (.t 15) (.c (.int Go.IntKind.i64 1)), none⟩,
      ⟨some 5, .mov (.t 16), none⟩]))

def a36l1 : ACode := a36l1b
def a36l1s : List Nat := [1, 2, 6, 7, 8, 9, 10, 11, 12, 13, 14, 15, 16, 17, 18, 19, 20, 21, 22, 23, 24, 25, 26, 27, 28, 29, 30, 31, 32, 33, 34, 35, 36, 37, 38, 39, 40, 41, 42, 43, 44, 45, 46, 47, 48, 49, 50, 51, 52, 53, 54, 55, 56, 57, 58, 59, 60, 61, 62, 63, 64, 65, 66]
abbrev a36l1F (s0 s3 s4 s5 : AV) : List AV := [s0, .any, .any, s3, s4, s5, .any, .any, .any, .any, .any, .any, .any, .any, .any, .any, .any, .any, .any, .any, .any, .any, .any, .any, .any, .any, .any, .any, .any, .any, .any, .any, .any, .any, .any, .any, .any, .any, .any, .any, .any, .any, .any, .any, .any, .any, .any, .any, .any, .any, .any, .any, .any, .any, .any, .any, .any, .any, .any, .any, .any, .any, .any, .any, .any, .any, .any]
theorem a36l1c (s0 s1 s2 s3 s4 s5 s6 s7 s8 s9 s10 s11 s12 s13 s14 s15 s16 s17 s18 s19 s20 s21 s22 s23 s24 s25 s26 s27 s28 s29 s30 s31 s32 s33 s34 s35 s36 s37 s38 s39 s40 s41 s42 s43 s44 s45 s46 s47 s48 s49 s50 s51 s52 s53 s54 s55 s56 s57 s58 s59 s60 s61 s62 s63 s64 s65 s66 : AV) : clearA a36l1s [s0, s1, s2, s3, s4, s5, s6, s7, s8, s9, s10, s11, s12, s13, s14, s15, s16, s17, s18, s19, s20, s21, s22, s23, s24, s25, s26, s27, s28, s29, s30, s31, s32, s33, s34, s35, s36, s37, s38, s39, s40, s41, s42, s43, s44, s45, s46, s47, s48, s49, s50, s51, s52, s53, s54, s55, s56, s57, s58, s59, s60, s61, s62, s63, s64, s65, s66] = a36l1F s0 s3 s4 s5 := by kernel_rfl
theorem a36l1n {prog : Nat → Option AFunc} (s0 s3 s4 s5 : AV) (H : Heap) : (lim prog).loop a36l1s a36l1 ⟨a36l1F s0 s3 s4 s5, H⟩ = loopK (lim prog) a36l1s a36l1 (run (lim prog) a36l1b ⟨a36l1F s0 s3 s4 s5, H⟩) := lim_loop_step _ _ _ _ (by kernel_rfl)

/-- sentinel/lasso.root -/
def a36 : AFunc := ⟨67,
  .seq (.region [⟨some 2, .mov (.c (.sl true 0 [])), none⟩])
  (.seq (.region [⟨some 7, .mov (.t 0), none⟩,
      ⟨some 8, .len (.t 7), none⟩,
      ⟨some 9, .bin .add (.t 8) (.c (.int Go.IntKind.i64 1)), none⟩,
      ⟨some 10, .mkslice false [.int Go.IntKind.i64 0] 8 (.t 9) (.t 9), none⟩,
      ⟨some 3, .mov (.t 10), none⟩])
   (.seq (.region [⟨some 4, .mov (.c (.int Go.IntKind.i64 0)), none⟩])
    (.seq (.seq (.region [⟨some 5, .mov (.c (.int Go.IntKind.i64 1)), none⟩])
      (.block 0 (.loop a36l1s a36l1)))
     (.seq (.seq (.region [⟨some 50, .mov (.t 0), none⟩,
          ⟨some 51, .len (.t 50), none⟩,
          ⟨some 52, .mov (.t 3), none⟩,
          ⟨some 53, .mov (.t 0), none⟩,
          ⟨some 54, .len (.t 53), none⟩,
          ⟨some 55, .iaddr 1 (.t 52) (.t 54), none⟩,
          ⟨some 56, .load false 1 (.t 55), none⟩,
          ⟨some 57, .bin .sub (.t 51) (.t 56), none⟩,
          ⟨some 6, .mov (.t 57), none⟩])
       (.seq (.region [⟨some 58, .mov (.t 0), none⟩,
           ⟨some 59, .len (.t 58), none⟩,
           ⟨some 60, .mov (.t 6), none⟩,
           ⟨some 61, .bin .rem (.t 59) (.t 60), none⟩,
           ⟨some 62, .bin .eql (.t 61) (.c (.int Go.IntKind.i64 0)), none⟩])
        (.cond (.t 62)
         (.seq (.region [⟨some 63, .mov (.t 0), none⟩,
             ⟨some 64, .mov (.t 6), none⟩,
             ⟨some 65, .slice 1 (.t 63) none (some (.t 64)) none, none⟩,
             ⟨some 2, .mov (.t 65), none⟩])
          (.ret))
         (.skip))))
      (.seq (.region [⟨some 66, .mov (.t 0), none⟩,
          ⟨some 2, .mov (.t 66), none⟩])
       (.ret)))))),
  [.tmp 2]⟩

/-- slices.Clone[[]uint8,uint8] -/
def a37 : AFunc := ⟨8,
  .seq (.region [⟨some 2, .mov (.c (.sl true 0 [])), none⟩])
  (.seq (.seq (.region [⟨some 3, .mov (.t 0), none⟩,
       ⟨some 4, .isnil false (.t 3), none⟩])
    (.cond (.t 4)
     (.seq (.region [⟨some 2, .mov (.c (.sl true 0 [])), none⟩])
      (.ret))
     (.skip)))
   (.seq (.region [⟨some 5, .bslice false [.int Go.IntKind.u8 0] 1 0 [], none⟩,
       ⟨some 6, .mov (.t 0), none⟩,
       ⟨some 7, .append false 1 1 (.t 5) (.t 6), none⟩,
       ⟨some 2, .mov (.t 7), none⟩])
    (.ret))),
  [.tmp 2]⟩

def a38l0b : ACode :=
  .seq (.region [⟨some 12, .bin .lss (.t 11) (.t 10), none⟩])
  (.seq (.cond (.t 12)
    (.skip)
    (.exit 0))
   (.seq (.block 1 (.seq (.region [⟨some 13, .iaddr 1 (.t 9) (.t 11), none⟩,
         ⟨some 14, .load false 1 (.t 13), none⟩,
         ⟨some 5, .mov (.t 14), none⟩])
      (.seq (.region [⟨some 15, .mov (.t 3), none⟩,
          ⟨some 16, .mov (.t 5), none⟩,
          ⟨some 17, .len (.t 16), none⟩,
          ⟨some 18, .bin .add (.t 15) (.t 17), none⟩,
          ⟨some 3, .mov (.t 18), none⟩])
       (.seq (.region [⟨some 19, .mov (.t 3), none⟩,
           ⟨some 20, .bin .lss (.t 19) (.c (.int Go.IntKind.i64 0)), none⟩])
        (.cond (.t 20)
         (.stuck)
         (.skip))))))
    (.region [⟨some 22, .bin .add (.t 11) (.c (.int Go.IntKind.i64 1)), none⟩,
       ⟨some 11, .mov (.t 22), none⟩])))

def a38l0 : ACode := a38l0b
def a38l0s : List Nat := [1, 2, 4, 5, 6, 7, 8, 12, 13, 14, 15, 16, 17, 18, 19, 20, 21, 22, 23, 24, 25, 26, 27, 28, 29, 30, 31, 32, 33, 34, 35]
abbrev a38l0F (s0 s3 s9 s10 s11 : AV) : List AV := [s0, .any, .any, s3, .any, .any, .any, .any, .any, s9, s10, s11, .any, .any, .any, .any, .any, .any, .any, .any, .any, .any, .any, .any, .any, .any, .any, .any, .any, .any, .any, .any, .any, .any, .any, .any]
theorem a38l0c (s0 s1 s2 s3 s4 s5 s6 s7 s8 s9 s10 s11 s12 s13 s14 s15 s16 s17 s18 s19 s20 s21 s22 s23 s24 s25 s26 s27 s28 s29 s30 s31 s32 s33 s34 s35 : AV) : clearA a38l0s [s0, s1, s2, s3, s4, s5, s6, s7, s8, s9, s10, s11, s12, s13, s14, s15, s16, s17, s18, s19, s20, s21, s22, s23, s24, s25, s26, s27, s28, s29, s30, s31, s32, s33, s34, s35] = a38l0F s0 s3 s9 s10 s11 := by kernel_rfl
theorem a38l0n {prog : Nat → Option AFunc} (s0 s3 s9 s10 s11 : AV) (H : Heap) : (lim prog).loop a38l0s a38l0 ⟨a38l0F s0 s3 s9 s10 s11, H⟩ = loopK (lim prog) a38l0s a38l0 (run (lim prog) a38l0b ⟨a38l0F s0 s3 s9 s10 s11, H⟩) := lim_loop_step _ _ _ _ (by kernel_rfl)

def a38l1b : ACode :=
  .seq (.region [⟨some 28, .bin .lss (.t 27) (.t 26), none⟩])
  (.seq (.cond (.t 28)
    (.skip)
    (.exit 2))
   (.seq (.block 3 (.seq (.region [⟨some 29, .iaddr 1 (.t 25) (.t 27), none⟩,
         ⟨some 30, .load false 1 (.t 29), none⟩,
         ⟨some 8, .mov (.t 30), none⟩])
      (.region [⟨some 31, .mov (.t 6), none⟩,
         ⟨some 32, .mov (.t 8), none⟩,
         ⟨some 33, .append false 1 1 (.t 31) (.t 32), none⟩,
         ⟨some 6, .mov (.t 33), none⟩])))
    (.region [⟨some 34, .bin .add (.t 27) (.c (.int Go.IntKind.i64 1)), none⟩,
       ⟨some 27, .mov (.t 34), none⟩])))

def a38l1 : ACode := a38l1b
def a38l1s : List Nat := [0, 1, 2, 3, 4, 5, 7, 8, 9, 10, 11, 12, 13, 14, 15, 16, 17, 18, 19, 20, 21, 22, 23, 24, 28, 29, 30, 31, 32, 33, 34, 35]
abbrev a38l1F (s6 s25 s26 s27 : AV) : List AV := [.any, .any, .any, .any, .any, .any, s6, .any, .any, .any, .any, .any, .any, .any, .any, .any, .any, .any, .any, .any, .any, .any, .any, .any, .any, s25, s26, s27, .any, .any, .any, .any, .any, .any, .any, .any]
theorem a38l1c (s0 s1 s2 s3 s4 s5 s6 s7 s8 s9 s10 s11 s12 s13 s14 s15 s16 s17 s18 s19 s20 s21 s22 s23 s24 s25 s26 s27 s28 s29 s30 s31 s32 s33 s34 s35 : AV) : clearA a38l1s [s0, s1, s2, s3, s4, s5, s6, s7, s8, s9, s10, s11, s12, s13, s14, s15, s16, s17, s18, s19, s20, s21, s22, s23, s24, s25, s26, s27, s28, s29, s30, s31, s32, s33, s34, s35] = a38l1F s6 s25 s26 s27 := by kernel_rfl
theorem a38l1n {prog : Nat → Option AFunc} (s6 s25 s26 s27 : AV) (H : Heap) : (lim prog).loop a38l1s a38l1 ⟨a38l1F s6 s25 s26 s27, H⟩ = loopK (lim prog) a38l1s a38l1 (run (lim prog) a38l1b ⟨a38l1F s6 s25 s26 s27, H⟩) := lim_loop_step _ _ _ _ (by kernel_rfl)

/-- slices.Concat[[]uint8,uint8] -/
def a38 : AFunc := ⟨36,
  .seq (.region [⟨some 2, .mov (.c (.sl true 0 [])), none⟩])
  (.seq (.region [⟨some 3, .mov (.c (.int Go.IntKind.i64 0)), none⟩])
   (.seq (.seq (.region [⟨some 9, .mov (.t 0), none⟩,
        ⟨some 10, .len (.t 9), none⟩,
        ⟨some 11, .mov (.c (.int Go.IntKind.i64 0)), none⟩])
     (.block 0 (.loop a38l0s a38l0)))
    (.seq (.region [⟨some 23, .mov (.t 3), none⟩,
        ⟨some 24, .icall (.c (.func 49 [])) [(.c (.sl true 0 [])), (.t 23)], none⟩,
        ⟨some 6, .mov (.t 24), none⟩])
     (.seq (.seq (.region [⟨some 25, .mov (.t 0), none⟩,
          ⟨some 26, .len (.t 25), none⟩,
          ⟨some 27, .mov (.c (.int Go.IntKind.i64 0)), none⟩])
       (.block 2 (.loop a38l1s a38l1)))
      (.seq (.region [⟨some 35, .mov (.t 6), none⟩,
          ⟨some 2, .mov (.t 35), none⟩])
       (.ret)))))),
  [.tmp 2]⟩

def a39l0b : ACode :=
  .seq (.region [⟨some 16, .bin .lss (.t 15) (.t 14), none⟩])
  (.seq (.cond (.t 16)
    (.skip)
    (.exit 0))
   (.seq (.block 1 (.seq (.region [⟨some 17, .mov (.t 15), none⟩,
         ⟨some 8, .mov (.t 17), none⟩])
      (.region [⟨some 18, .mov (.t 7), none⟩,
         ⟨some 19, .mov (.t 8), none⟩,
         ⟨some 20, .mov (.t 2), none⟩,
         ⟨some 21, .mov (.t 8), none⟩,
         ⟨some 22, .icall (.t 20) [(.t 21)], none⟩,
         ⟨some 23, .iaddr 1 (.t 18) (.t 19), none⟩,
         ⟨none, .store 1 (.t 23) (.t 22), none⟩])))
    (.region [⟨some 24, .bin .add (.t 15) (.c (.int Go.IntKind.i64 1)), none⟩,
       ⟨some 15, .mov (.t 24), none⟩])))

def a39l0 : ACode := a39l0b
def a39l0s : List Nat := [1, 3, 4, 5, 8, 9, 10, 11, 12, 13, 16, 17, 18, 19, 20, 21, 22, 23, 24, 25, 26, 27, 28, 29, 30, 31, 32]
abbrev a39l0F (s0 s2 s6 s7 s14 s15 : AV) : List AV := [s0, .any, s2, .any, .any, .any, s6, s7, .any, .any, .any, .any, .any, .any, s14, s15, .any, .any, .any, .any, .any, .any, .any, .any, .any, .any, .any, .any, .any, .any, .any, .any, .any]
theorem a39l0c (s0 s1 s2 s3 s4 s5 s6 s7 s8 s9 s10 s11 s12 s13 s14 s15 s16 s17 s18 s19 s20 s21 s22 s23 s24 s25 s26 s27 s28 s29 s30 s31 s32 : AV) : clearA a39l0s [s0, s1, s2, s3, s4, s5, s6, s7, s8, s9, s10, s11, s12, s13, s14, s15, s16, s17, s18, s19, s20, s21, s22, s23, s24, s25, s26, s27, s28, s29, s30, s31, s32] = a39l0F s0 s2 s6 s7 s14 s15 := by kernel_rfl
theorem a39l0n {prog : Nat → Option AFunc} (s0 s2 s6 s7 s14 s15 : AV) (H : Heap) : (lim prog).loop a39l0s a39l0 ⟨a39l0F s0 s2 s6 s7 s14 s15, H⟩ = loopK (lim prog) a39l0s a39l0 (run (lim prog) a39l0b ⟨a39l0F s0 s2 s6 s7 s14 s15, H⟩) := lim_loop_step _ _ _ _ (by kernel_rfl)

/-- sentinel/lasso.build -/
def a39 : AFunc := ⟨33,
  .seq (.region [⟨some 6, .box (.c (.agg [.sl true 0 [], .sl true 0 []])), none⟩])
  (.seq (.region [⟨some 9, .mov (.t 0), none⟩,
      ⟨some 10, .mov (.t 1), none⟩,
      ⟨some 11, .bin .add (.t 9) (.t 10), none⟩,
      ⟨some 12, .mkslice false [.int Go.IntKind.u8 0] 1 (.t 11) (.t 11), none⟩,
      ⟨some 7, .mov (.t 12), none⟩])
   (.seq (.seq (.region [⟨some 13, .mov (.t 7), none⟩,
        ⟨some 14, .len (.t 13), none⟩,
        ⟨some 15, .mov (.c (.int Go.IntKind.i64 0)), none⟩])
     (.block 0 (.loop a39l0s a39l0)))
    (.seq (.drawp [] [] 4 [⟨some 25, .mov (.t 7), none⟩,
        ⟨some 26, .mov (.t 0), none⟩,
        ⟨some 27, .slice 1 (.t 25) none (some (.t 26)) none, none⟩,
        ⟨some 28, .mov (.t 7), none⟩,
        ⟨some 29, .mov (.t 0), none⟩,
        ⟨some 30, .slice 1 (.t 28) (some (.t 29)) none none, none⟩,
        ⟨some 31, .build [.sl true 0 [], .sl true 0 []] [(0, 1, (.t 27)), (1, 1, (.t 30))], none⟩,
        ⟨some 32, .ocall 12 [(.t 31)], none⟩,
        ⟨none, .store 2 (.t 6) (.t 32), none⟩])
     (.ret)))),
  [.cell 6 true 2]⟩

/-- sentinel/lasso.Project$1 -/
def a40 : AFunc := ⟨10,
  .seq (.region [⟨some 4, .mov (.c (.int Go.IntKind.u8 0)), none⟩])
  (.seq (.draw 4 [⟨some 5, .load true 2 (.t 1), none⟩,
      ⟨some 6, .mov (.t 0), none⟩,
      ⟨some 7, .call 25 [(.t 5), (.t 6)], none⟩,
      ⟨some 8, .load false 1 (.t 2), none⟩,
      ⟨some 9, .bin .and (.t 7) (.t 8), none⟩,
      ⟨some 4, .mov (.t 9), none⟩])
   (.ret)),
  [.tmp 4]⟩

/-- sentinel/sentinelref22.full -/
def a41 : AFunc := ⟨10,
  .seq (.region [⟨some 1, .box (.t 0), none⟩,
     ⟨some 2, .box (.c (.agg [.sl true 0 [], .sl true 0 []])), none⟩])
  (.seq (.seq (.region [⟨some 3, .faddr 1 (.t 1), none⟩,
       ⟨some 4, .load false 1 (.t 3), none⟩,
       ⟨some 5, .len (.t 4), none⟩,
       ⟨some 6, .bin .eql (.t 5) (.c (.int Go.IntKind.i64 0)), none⟩])
    (.cond (.t 6)
     (.region [⟨some 7, .bslice true [.int Go.IntKind.u8 0] 1 1 [(0, (.c (.int Go.IntKind.u8 0)))], none⟩,
        ⟨some 8, .faddr 1 (.t 1), none⟩,
        ⟨none, .store 1 (.t 8) (.t 7), none⟩])
     (.skip)))
   (.seq (.region [⟨some 9, .load true 2 (.t 1), none⟩,
       ⟨none, .store 2 (.t 2) (.t 9), none⟩])
    (.ret))),
  [.cell 2 true 2]⟩

def a42l0b : ACode :=
  .seq (.seq (.region [⟨some 11, .mov (.t 7), none⟩,
      ⟨some 12, .faddr 0 (.t 3), none⟩,
      ⟨some 13, .load false 1 (.t 12), none⟩,
      ⟨some 14, .len (.t 13), none⟩,
      ⟨some 15, .faddr 1 (.t 3), none⟩,
      ⟨some 16, .load false 1 (.t 15), none⟩,
      ⟨some 17, .len (.t 16), none⟩,
      ⟨some 18, .bin .add (.t 14) (.t 17), none⟩,
      ⟨some 19, .bin .lss (.t 11) (.t 18), none⟩,
      ⟨some 20, .mov (.t 19), none⟩,
      ⟨some 21, .mov (.t 7), some (20, false)⟩,
      ⟨some 22, .mov (.t 1), some (20, false)⟩,
      ⟨some 23, .faddr 1 (.t 3), some (20, false)⟩,
      ⟨some 24, .load false 1 (.t 23), some (20, false)⟩,
      ⟨some 25, .len (.t 24), some (20, false)⟩,
      ⟨some 26, .bin .add (.t 22) (.t 25), some (20, false)⟩,
      ⟨some 27, .bin .lss (.t 21) (.t 26), some (20, false)⟩,
      ⟨some 28, .pick (.t 20) (.c (.bool true)) (.t 27), none⟩])
   (.cond (.t 28)
    (.skip)
    (.exit 0)))
  (.seq (.block 1 (.seq (.draw 7 [⟨some 31, .load true 2 (.t 3), none⟩,
        ⟨some 32, .mov (.t 7), none⟩,
        ⟨some 33, .call 26 [(.t 31), (.t 32)], none⟩,
        ⟨some 34, .load true 2 (.t 3), none⟩,
        ⟨some 35, .mov (.t 7), none⟩,
        ⟨some 36, .mov (.t 2), none⟩,
        ⟨some 37, .bin .add (.t 35) (.t 36), none⟩,
        ⟨some 38, .call 26 [(.t 34), (.t 37)], none⟩,
        ⟨some 39, .bin .neq (.t 33) (.t 38), none⟩])
     (.cond (.t 39)
      (.seq (.region [⟨some 6, .mov (.c (.bool false)), none⟩])
       (.ret))
      (.skip))))
   (.region [⟨some 29, .mov (.t 7), none⟩,
      ⟨some 30, .bin .add (.t 29) (.c (.int Go.IntKind.i64 1)), none⟩,
      ⟨some 7, .mov (.t 30), none⟩]))

def a42l0 : ACode := a42l0b
def a42l0s : List Nat := [0, 4, 5, 8, 9, 10, 11, 12, 13, 14, 15, 16, 17, 18, 19, 20, 21, 22, 23, 24, 25, 26, 27, 28, 29, 30, 31, 32, 33, 34, 35, 36, 37, 38, 39]
abbrev a42l0F (s1 s2 s3 s6 s7 : AV) : List AV := [.any, s1, s2, s3, .any, .any, s6, s7, .any, .any, .any, .any, .any, .any, .any, .any, .any, .any, .any, .any, .any, .any, .any, .any, .any, .any, .any, .any, .any, .any, .any, .any, .any, .any, .any, .any, .any, .any, .any, .any]
theorem a42l0c (s0 s1 s2 s3 s4 s5 s6 s7 s8 s9 s10 s11 s12 s13 s14 s15 s16 s17 s18 s19 s20 s21 s22 s23 s24 s25 s26 s27 s28 s29 s30 s31 s32 s33 s34 s35 s36 s37 s38 s39 : AV) : clearA a42l0s [s0, s1, s2, s3, s4, s5, s6, s7, s8, s9, s10, s11, s12, s13, s14, s15, s16, s17, s18, s19, s20, s21, s22, s23, s24, s25, s26, s27, s28, s29, s30, s31, s32, s33, s34, s35, s36, s37, s38, s39] = a42l0F s1 s2 s3 s6 s7 := by kernel_rfl
theorem a42l0n {prog : Nat → Option AFunc} (s1 s2 s3 s6 s7 : AV) (H : Heap) : (lim prog).loop a42l0s a42l0 ⟨a42l0F s1 s2 s3 s6 s7, H⟩ = loopK (lim prog) a42l0s a42l0 (run (lim prog) a42l0b ⟨a42l0F s1 s2 s3 s6 s7, H⟩) := lim_loop_step _ _ _ _ (by kernel_rfl)

/-- sentinel/sentinelref22.repeats -/
def a42 : AFunc := ⟨40,
  .seq (.region [⟨some 3, .box (.t 0), none⟩,
     ⟨some 6, .mov (.c (.bool false)), none⟩])
  (.seq (.region [⟨some 8, .load true 2 (.t 3), none⟩,
      ⟨some 9, .call 41 [(.t 8)], none⟩,
      ⟨none, .store 2 (.t 3) (.t 9), none⟩])
   (.seq (.seq (.region [⟨some 10, .mov (.t 1), none⟩,
        ⟨some 7, .mov (.t 10), none⟩])
     (.block 0 (.loop a42l0s a42l0)))
    (.seq (.region [⟨some 6, .mov (.c (.bool true)), none⟩])
     (.ret)))),
  [.tmp 6]⟩

def a43l0b : ACode :=
  .seq (.seq (.region [⟨some 9, .mov (.t 8), none⟩,
      ⟨some 10, .mov (.t 1), none⟩,
      ⟨some 11, .mov (.t 2), none⟩,
      ⟨some 12, .bin .add (.t 10) (.t 11), none⟩,
      ⟨some 13, .bin .lss (.t 9) (.t 12), none⟩])
   (.cond (.t 13)
    (.skip)
    (.exit 0)))
  (.seq (.block 1 (.region [⟨some 16, .mov (.t 7), none⟩,
       ⟨some 17, .load true 2 (.t 3), none⟩,
       ⟨some 18, .mov (.t 8), none⟩,
       ⟨some 19, .call 26 [(.t 17), (.t 18)], none⟩,
       ⟨some 20, .bslice true [.int Go.IntKind.u8 0] 1 1 [(0, (.t 19))], none⟩,
       ⟨some 21, .append false 1 1 (.t 16) (.t 20), none⟩,
       ⟨some 7, .mov (.t 21), none⟩]))
   (.region [⟨some 14, .mov (.t 8), none⟩,
      ⟨some 15, .bin .add (.t 14) (.c (.int Go.IntKind.i64 1)), none⟩,
      ⟨some 8, .mov (.t 15), none⟩]))

def a43l0 : ACode := a43l0b
def a43l0s : List Nat := [0, 4, 5, 9, 10, 11, 12, 13, 14, 15, 16, 17, 18, 19, 20, 21, 22, 23, 24, 25, 26, 27, 28, 29, 30]
abbrev a43l0F (s1 s2 s3 s6 s7 s8 : AV) : List AV := [.any, s1, s2, s3, .any, .any, s6, s7, s8, .any, .any, .any, .any, .any, .any, .any, .any, .any, .any, .any, .any, .any, .any, .any, .any, .any, .any, .any, .any, .any, .any]
theorem a43l0c (s0 s1 s2 s3 s4 s5 s6 s7 s8 s9 s10 s11 s12 s13 s14 s15 s16 s17 s18 s19 s20 s21 s22 s23 s24 s25 s26 s27 s28 s29 s30 : AV) : clearA a43l0s [s0, s1, s2, s3, s4, s5, s6, s7, s8, s9, s10, s11, s12, s13, s14, s15, s16, s17, s18, s19, s20, s21, s22, s23, s24, s25, s26, s27, s28, s29, s30] = a43l0F s1 s2 s3 s6 s7 s8 := by kernel_rfl
theorem a43l0n {prog : Nat → Option AFunc} (s1 s2 s3 s6 s7 s8 : AV) (H : Heap) : (lim prog).loop a43l0s a43l0 ⟨a43l0F s1 s2 s3 s6 s7 s8, H⟩ = loopK (lim prog) a43l0s a43l0 (run (lim prog) a43l0b ⟨a43l0F s1 s2 s3 s6 s7 s8, H⟩) := lim_loop_step _ _ _ _ (by kernel_rfl)

/-- sentinel/sentinelref22.cut -/
def a43 : AFunc := ⟨31,
  .seq (.region [⟨some 3, .box (.t 0), none⟩,
     ⟨some 6, .box (.c (.agg [.sl true 0 [], .sl true 0 []])), none⟩])
  (.seq (.region [⟨some 7, .mov (.c (.sl true 0 [])), none⟩])
   (.seq (.seq (.region [⟨some 8, .mov (.c (.int Go.IntKind.i64 0)), none⟩])
     (.block 0 (.loop a43l0s a43l0)))
    (.seq (.draw 7 [⟨some 22, .mov (.t 7), none⟩,
        ⟨some 23, .mov (.t 1), none⟩,
        ⟨some 24, .slice 1 (.t 22) none (some (.t 23)) none, none⟩,
        ⟨some 25, .append true 1 1 (.c (.sl true 0 [])) (.t 24), none⟩,
        ⟨some 26, .mov (.t 7), none⟩,
        ⟨some 27, .mov (.t 1), none⟩,
        ⟨some 28, .slice 1 (.t 26) (some (.t 27)) none none, none⟩,
        ⟨some 29, .append false 1 1 (.c (.sl true 0 [])) (.t 28), none⟩,
        ⟨some 30, .build [.sl true 0 [], .sl true 0 []] [(0, 1, (.t 25)), (1, 1, (.t 29))], none⟩,
        ⟨none, .store 2 (.t 6) (.t 30), none⟩])
     (.ret)))),
  [.cell 6 true 2]⟩

/-- sentinel/lasso.letters -/
def a44 : AFunc := ⟨6,
  .seq (.region [⟨some 2, .box (.t 0), none⟩,
     ⟨some 3, .box (.t 1), none⟩,
     ⟨some 4, .mov (.c (.nilf)), none⟩])
  (.seq (.region [⟨some 5, .mkfunc 50 [(.t 3), (.t 2)], none⟩,
      ⟨some 4, .mov (.t 5), none⟩])
   (.ret)),
  [.tmp 4]⟩

/-- sentinel/lasso.Check$1 -/
def a45 : AFunc := ⟨9,
  .seq (.region [⟨some 3, .mov (.c (.bool false)), none⟩])
  (.seq (.region [⟨some 4, .mov (.t 0), none⟩,
      ⟨some 5, .conv Go.IntKind.i64 (.t 4), none⟩,
      ⟨some 6, .load false 1 (.t 1), none⟩,
      ⟨some 7, .bin .shl (.c (.int Go.IntKind.i64 1)) (.t 6), none⟩,
      ⟨some 8, .bin .geq (.t 5) (.t 7), none⟩,
      ⟨some 3, .mov (.t 8), none⟩])
   (.ret)),
  [.tmp 3]⟩

/-- slices.ContainsFunc[[]uint8,uint8] -/
def a46 : AFunc := ⟨9,
  .seq (.region [⟨some 4, .mov (.c (.bool false)), none⟩])
  (.seq (.region [⟨some 5, .mov (.t 0), none⟩,
      ⟨some 6, .mov (.t 1), none⟩,
      ⟨some 7, .icall (.c (.func 51 [])) [(.t 5), (.t 6)], none⟩,
      ⟨some 8, .bin .geq (.t 7) (.c (.int Go.IntKind.i64 0)), none⟩,
      ⟨some 4, .mov (.t 8), none⟩])
   (.ret)),
  [.tmp 4]⟩

/-- sentinel/lasso.Merge$1 -/
def a47 : AFunc := ⟨12,
  .seq (.region [⟨some 4, .mov (.c (.int Go.IntKind.u8 0)), none⟩])
  (.seq (.draw 5 [⟨some 5, .load true 2 (.t 1), none⟩,
      ⟨some 6, .mov (.t 0), none⟩,
      ⟨some 7, .call 25 [(.t 5), (.t 6)], none⟩,
      ⟨some 8, .load true 2 (.t 2), none⟩,
      ⟨some 9, .mov (.t 0), none⟩,
      ⟨some 10, .call 25 [(.t 8), (.t 9)], none⟩,
      ⟨some 11, .bin .or (.t 7) (.t 10), none⟩,
      ⟨some 4, .mov (.t 11), none⟩])
   (.ret)),
  [.tmp 4]⟩

/-- cmp.Compare[uint8] -/
def a48 : AFunc := ⟨20,
  .seq (.region [⟨some 4, .mov (.c (.int Go.IntKind.i64 0)), none⟩])
  (.seq (.region [⟨some 7, .mov (.t 0), none⟩,
      ⟨some 8, .call 52 [(.t 7)], none⟩,
      ⟨some 5, .mov (.t 8), none⟩])
   (.seq (.region [⟨some 9, .mov (.t 1), none⟩,
       ⟨some 10, .call 52 [(.t 9)], none⟩,
       ⟨some 6, .mov (.t 10), none⟩])
    (.seq (.seq (.region [⟨some 11, .mov (.t 5), none⟩])
      (.cond (.t 11)
       (.seq (.seq (.region [⟨some 12, .mov (.t 6), none⟩])
         (.cond (.t 12)
          (.seq (.region [⟨some 4, .mov (.c (.int Go.IntKind.i64 0)), none⟩])
           (.ret))
          (.skip)))
        (.seq (.region [⟨some 4, .mov (.c (.int Go.IntKind.i64 (-1))), none⟩])
         (.ret)))
       (.skip)))
     (.seq (.seq (.region [⟨some 13, .mov (.t 6), none⟩])
       (.cond (.t 13)
        (.seq (.region [⟨some 4, .mov (.c (.int Go.IntKind.i64 1)), none⟩])
         (.ret))
        (.skip)))
      (.seq (.seq (.region [⟨some 14, .mov (.t 0), none⟩,
           ⟨some 15, .mov (.t 1), none⟩,
           ⟨some 16, .bin .lss (.t 14) (.t 15), none⟩])
        (.cond (.t 16)
         (.seq (.region [⟨some 4, .mov (.c (.int Go.IntKind.i64 (-1))), none⟩])
          (.ret))
         (.skip)))
       (.seq (.seq (.region [⟨some 17, .mov (.t 0), none⟩,
            ⟨some 18, .mov (.t 1), none⟩,
            ⟨some 19, .bin .gtr (.t 17) (.t 18), none⟩])
         (.cond (.t 19)
          (.seq (.region [⟨some 4, .mov (.c (.int Go.IntKind.i64 1)), none⟩])
           (.ret))
          (.skip)))
        (.seq (.region [⟨some 4, .mov (.c (.int Go.IntKind.i64 0)), none⟩])
         (.ret)))))))),
  [.tmp 4]⟩

/-- slices.Grow[[]uint8,uint8] -/
def a49 : AFunc := ⟨27,
  .seq (.region [⟨some 4, .mov (.c (.sl true 0 [])), none⟩])
  (.seq (.seq (.region [⟨some 5, .mov (.t 1), none⟩,
       ⟨some 6, .bin .lss (.t 5) (.c (.int Go.IntKind.i64 0)), none⟩])
    (.cond (.t 6)
     (.stuck)
     (.skip)))
   (.seq (.seq (.region [⟨some 8, .mov (.t 1), none⟩,
        ⟨some 9, .mov (.t 0), none⟩,
        ⟨some 10, .cap (.t 9), none⟩,
        ⟨some 11, .mov (.t 0), none⟩,
        ⟨some 12, .len (.t 11), none⟩,
        ⟨some 13, .bin .sub (.t 10) (.t 12), none⟩,
        ⟨some 14, .bin .sub (.t 8) (.t 13), none⟩,
        ⟨some 1, .mov (.t 14), none⟩])
     (.seq (.region [⟨some 15, .mov (.t 1), none⟩,
         ⟨some 16, .bin .gtr (.t 15) (.c (.int Go.IntKind.i64 0)), none⟩])
      (.cond (.t 16)
       (.region [⟨some 17, .mov (.t 0), none⟩,
          ⟨some 18, .mov (.t 0), none⟩,
          ⟨some 19, .cap (.t 18), none⟩,
          ⟨some 20, .slice 1 (.t 17) none (some (.t 19)) none, none⟩,
          ⟨some 21, .mov (.t 1), none⟩,
          ⟨some 22, .appendz [.int Go.IntKind.u8 0] 1 (.t 20) (.t 21), none⟩,
          ⟨some 23, .mov (.t 0), none⟩,
          ⟨some 24, .len (.t 23), none⟩,
          ⟨some 25, .slice 1 (.t 22) none (some (.t 24)) none, none⟩,
          ⟨some 0, .mov (.t 25), none⟩])
       (.skip))))
    (.seq (.region [⟨some 26, .mov (.t 0), none⟩,
        ⟨some 4, .mov (.t 26), none⟩])
     (.ret)))),
  [.tmp 4]⟩

def a50l0b : ACode :=
  .seq (.region [⟨some 8, .bin .lss (.t 7) (.t 6), none⟩])
  (.seq (.cond (.t 8)
    (.skip)
    (.exit 0))
   (.seq (.block 1 (.seq (.region [⟨some 9, .mov (.t 7), none⟩,
         ⟨some 4, .mov (.t 9), none⟩])
      (.seq (.region [⟨some 10, .mov (.t 0), none⟩,
          ⟨some 11, .mov (.t 4), none⟩,
          ⟨some 12, .load true 2 (.t 2), none⟩,
          ⟨some 13, .mov (.t 4), none⟩,
          ⟨some 14, .call 25 [(.t 12), (.t 13)], none⟩,
          ⟨some 15, .icall (.t 10) [(.t 11), (.t 14)], none⟩,
          ⟨some 16, .un .not (.t 15), none⟩])
       (.cond (.t 16)
        (.ret)
        (.skip)))))
    (.region [⟨some 17, .bin .add (.t 7) (.c (.int Go.IntKind.i64 1)), none⟩,
       ⟨some 7, .mov (.t 17), none⟩])))

def a50l0 : ACode := a50l0b
def a50l0s : List Nat := [1, 3, 4, 5, 8, 9, 10, 11, 12, 13, 14, 15, 16, 17]
abbrev a50l0F (s0 s2 s6 s7 : AV) : List AV := [s0, .any, s2, .any, .any, .any, s6, s7, .any, .any, .any, .any, .any, .any, .any, .any, .any, .any]
theorem a50l0c (s0 s1 s2 s3 s4 s5 s6 s7 s8 s9 s10 s11 s12 s13 s14 s15 s16 s17 : AV) : clearA a50l0s [s0, s1, s2, s3, s4, s5, s6, s7, s8, s9, s10, s11, s12, s13, s14, s15, s16, s17] = a50l0F s0 s2 s6 s7 := by kernel_rfl
theorem a50l0n {prog : Nat → Option AFunc} (s0 s2 s6 s7 : AV) (H : Heap) : (lim prog).loop a50l0s a50l0 ⟨a50l0F s0 s2 s6 s7, H⟩ = loopK (lim prog) a50l0s a50l0 (run (lim prog) a50l0b ⟨a50l0F s0 s2 s6 s7, H⟩) := lim_loop_step _ _ _ _ (by kernel_rfl)

/-- sentinel/lasso.letters$1 -/
def a50 : AFunc := ⟨18,
  .seq (.region [⟨some 5, .load false 1 (.t 1), none⟩,
     ⟨some 6, .maxi (.t 5) (.c (.int Go.IntKind.i64 0)), none⟩,
     ⟨some 7, .mov (.c (.int Go.IntKind.i64 0)), none⟩])
  (.block 0 (.loop a50l0s a50l0)),
  []⟩

def a51l0b : ACode :=
  .seq (.region [⟨some 9, .bin .lss (.t 8) (.t 7), none⟩])
  (.seq (.cond (.t 9)
    (.skip)
    (.exit 0))
   (.seq (.block 1 (.seq (.region [⟨some 10, .mov (.t 8), none⟩,
         ⟨some 5, .mov (.t 10), none⟩])
      (.seq (.region [⟨some 11, .mov (.t 1), none⟩,
          ⟨some 12, .mov (.t 0), none⟩,
          ⟨some 13, .mov (.t 5), none⟩,
          ⟨some 14, .iaddr 1 (.t 12) (.t 13), none⟩,
          ⟨some 15, .load false 1 (.t 14), none⟩,
          ⟨some 16, .icall (.t 11) [(.t 15)], none⟩])
       (.cond (.t 16)
        (.seq (.region [⟨some 17, .mov (.t 5), none⟩,
            ⟨some 4, .mov (.t 17), none⟩])
         (.ret))
        (.skip)))))
    (.region [⟨some 18, .bin .add (.t 8) (.c (.int Go.IntKind.i64 1)), none⟩,
       ⟨some 8, .mov (.t 18), none⟩])))

def a51l0 : ACode := a51l0b
def a51l0s : List Nat := [2, 3, 5, 6, 9, 10, 11, 12, 13, 14, 15, 16, 17, 18]
abbrev a51l0F (s0 s1 s4 s7 s8 : AV) : List AV := [s0, s1, .any, .any, s4, .any, .any, s7, s8, .any, .any, .any, .any, .any, .any, .any, .any, .any, .any]
theorem a51l0c (s0 s1 s2 s3 s4 s5 s6 s7 s8 s9 s10 s11 s12 s13 s14 s15 s16 s17 s18 : AV) : clearA a51l0s [s0, s1, s2, s3, s4, s5, s6, s7, s8, s9, s10, s11, s12, s13, s14, s15, s16, s17, s18] = a51l0F s0 s1 s4 s7 s8 := by kernel_rfl
theorem a51l0n {prog : Nat → Option AFunc} (s0 s1 s4 s7 s8 : AV) (H : Heap) : (lim prog).loop a51l0s a51l0 ⟨a51l0F s0 s1 s4 s7 s8, H⟩ = loopK (lim prog) a51l0s a51l0 (run (lim prog) a51l0b ⟨a51l0F s0 s1 s4 s7 s8, H⟩) := lim_loop_step _ _ _ _ (by kernel_rfl)

/-- slices.IndexFunc[[]uint8,uint8] -/
def a51 : AFunc := ⟨19,
  .seq (.region [⟨some 4, .mov (.c (.int Go.IntKind.i64 0)), none⟩])
  (.seq (.seq (.region [⟨some 6, .mov (.t 0), none⟩,
       ⟨some 7, .len (.t 6), none⟩,
       ⟨some 8, .mov (.c (.int Go.IntKind.i64 0)), none⟩])
    (.block 0 (.loop a51l0s a51l0)))
   (.seq (.region [⟨some 4, .mov (.c (.int Go.IntKind.i64 (-1))), none⟩])
    (.ret))),
  [.tmp 4]⟩

/-- cmp.isNaN[uint8] -/
def a52 : AFunc := ⟨6,
  .seq (.region [⟨some 2, .mov (.c (.bool false)), none⟩])
  (.seq (.region [⟨some 3, .mov (.t 0), none⟩,
      ⟨some 4, .mov (.t 0), none⟩,
      ⟨some 5, .bin .neq (.t 3) (.t 4), none⟩,
      ⟨some 2, .mov (.t 5), none⟩])
   (.ret)),
  [.tmp 2]⟩

def aprog : Nat → Option AFunc
  | 2 => some a2
  | 3 => some a3
  | 4 => some a4
  | 5 => some a5
  | 6 => some a6
  | 7 => some a7
  | 8 => some a8
  | 9 => some a9
  | 10 => some a10
  | 11 => some a11
  | 12 => some a12
  | 13 => some a13
  | 14 => some a14
  | 15 => some a15
  | 16 => some a16
  | 17 => some a17
  | 18 => some a18
  | 19 => some a19
  | 20 => some a20
  | 21 => some a21
  | 22 => some a22
  | 23 => some a23
  | 24 => some a24
  | 25 => some a25
  | 26 => some a26
  | 27 => some a27
  | 28 => some a28
  | 29 => some a29
  | 30 => some a30
  | 31 => some a31
  | 32 => some a32
  | 33 => some a33
  | 34 => some a34
  | 35 => some a35
  | 36 => some a36
  | 37 => some a37
  | 38 => some a38
  | 39 => some a39
  | 40 => some a40
  | 41 => some a41
  | 42 => some a42
  | 43 => some a43
  | 44 => some a44
  | 45 => some a45
  | 46 => some a46
  | 47 => some a47
  | 48 => some a48
  | 49 => some a49
  | 50 => some a50
  | 51 => some a51
  | 52 => some a52
  | _ => none
theorem a2p (args : List AV) : (lim aprog).pcall 2 args = pbodyA (lim aprog) a2 args := lim_pcall_eq rfl args
theorem a2i (caps args : List AV) (H : Heap) : (lim aprog).icall (.func 2 caps) args H = bodyA (lim aprog) a2 (args ++ caps) H := lim_fcall_eq rfl caps args H
theorem a3p (args : List AV) : (lim aprog).pcall 3 args = pbodyA (lim aprog) a3 args := lim_pcall_eq rfl args
theorem a3i (caps args : List AV) (H : Heap) : (lim aprog).icall (.func 3 caps) args H = bodyA (lim aprog) a3 (args ++ caps) H := lim_fcall_eq rfl caps args H
theorem a4p (args : List AV) : (lim aprog).pcall 4 args = pbodyA (lim aprog) a4 args := lim_pcall_eq rfl args
theorem a4i (caps args : List AV) (H : Heap) : (lim aprog).icall (.func 4 caps) args H = bodyA (lim aprog) a4 (args ++ caps) H := lim_fcall_eq rfl caps args H
theorem a5p (args : List AV) : (lim aprog).pcall 5 args = pbodyA (lim aprog) a5 args := lim_pcall_eq rfl args
theorem a5i (caps args : List AV) (H : Heap) : (lim aprog).icall (.func 5 caps) args H = bodyA (lim aprog) a5 (args ++ caps) H := lim_fcall_eq rfl caps args H
theorem a6p (args : List AV) : (lim aprog).pcall 6 args = pbodyA (lim aprog) a6 args := lim_pcall_eq rfl args
theorem a6i (caps args : List AV) (H : Heap) : (lim aprog).icall (.func 6 caps) args H = bodyA (lim aprog) a6 (args ++ caps) H := lim_fcall_eq rfl caps args H
theorem a7p (args : List AV) : (lim aprog).pcall 7 args = pbodyA (lim aprog) a7 args := lim_pcall_eq rfl args
theorem a7i (caps args : List AV) (H : Heap) : (lim aprog).icall (.func 7 caps) args H = bodyA (lim aprog) a7 (args ++ caps) H := lim_fcall_eq rfl caps args H
theorem a8p (args : List AV) : (lim aprog).pcall 8 args = pbodyA (lim aprog) a8 args := lim_pcall_eq rfl args
theorem a8i (caps args : List AV) (H : Heap) : (lim aprog).icall (.func 8 caps) args H = bodyA (lim aprog) a8 (args ++ caps) H := lim_fcall_eq rfl caps args H
theorem a9p (args : List AV) : (lim aprog).pcall 9 args = pbodyA (lim aprog) a9 args := lim_pcall_eq rfl args
theorem a9i (caps args : List AV) (H : Heap) : (lim aprog).icall (.func 9 caps) args H = bodyA (lim aprog) a9 (args ++ caps) H := lim_fcall_eq rfl caps args H
theorem a10p (args : List AV) : (lim aprog).pcall 10 args = pbodyA (lim aprog) a10 args := lim_pcall_eq rfl args
theorem a10i (caps args : List AV) (H : Heap) : (lim aprog).icall (.func 10 caps) args H = bodyA (lim aprog) a10 (args ++ caps) H := lim_fcall_eq rfl caps args H
theorem a11p (args : List AV) : (lim aprog).pcall 11 args = pbodyA (lim aprog) a11 args := lim_pcall_eq rfl args
theorem a11i (caps args : List AV) (H : Heap) : (lim aprog).icall (.func 11 caps) args H = bodyA (lim aprog) a11 (args ++ caps) H := lim_fcall_eq rfl caps args H
theorem a12p (args : List AV) : (lim aprog).pcall 12 args = pbodyA (lim aprog) a12 args := lim_pcall_eq rfl args
theorem a12i (caps args : List AV) (H : Heap) : (lim aprog).icall (.func 12 caps) args H = bodyA (lim aprog) a12 (args ++ caps) H := lim_fcall_eq rfl caps args H
theorem a13p (args : List AV) : (lim aprog).pcall 13 args = pbodyA (lim aprog) a13 args := lim_pcall_eq rfl args
theorem a13i (caps args : List AV) (H : Heap) : (lim aprog).icall (.func 13 caps) args H = bodyA (lim aprog) a13 (args ++ caps) H := lim_fcall_eq rfl caps args H
theorem a14p (args : List AV) : (lim aprog).pcall 14 args = pbodyA (lim aprog) a14 args := lim_pcall_eq rfl args
theorem a14i (caps args : List AV) (H : Heap) : (lim aprog).icall (.func 14 caps) args H = bodyA (lim aprog) a14 (args ++ caps) H := lim_fcall_eq rfl caps args H
theorem a15p (args : List AV) : (lim aprog).pcall 15 args = pbodyA (lim aprog) a15 args := lim_pcall_eq rfl args
theorem a15i (caps args : List AV) (H : Heap) : (lim aprog).icall (.func 15 caps) args H = bodyA (lim aprog) a15 (args ++ caps) H := lim_fcall_eq rfl caps args H
theorem a16p (args : List AV) : (lim aprog).pcall 16 args = pbodyA (lim aprog) a16 args := lim_pcall_eq rfl args
theorem a16i (caps args : List AV) (H : Heap) : (lim aprog).icall (.func 16 caps) args H = bodyA (lim aprog) a16 (args ++ caps) H := lim_fcall_eq rfl caps args H
theorem a17p (args : List AV) : (lim aprog).pcall 17 args = pbodyA (lim aprog) a17 args := lim_pcall_eq rfl args
theorem a17i (caps args : List AV) (H : Heap) : (lim aprog).icall (.func 17 caps) args H = bodyA (lim aprog) a17 (args ++ caps) H := lim_fcall_eq rfl caps args H
theorem a18p (args : List AV) : (lim aprog).pcall 18 args = pbodyA (lim aprog) a18 args := lim_pcall_eq rfl args
theorem a18i (caps args : List AV) (H : Heap) : (lim aprog).icall (.func 18 caps) args H = bodyA (lim aprog) a18 (args ++ caps) H := lim_fcall_eq rfl caps args H
theorem a19p (args : List AV) : (lim aprog).pcall 19 args = pbodyA (lim aprog) a19 args := lim_pcall_eq rfl args
theorem a19i (caps args : List AV) (H : Heap) : (lim aprog).icall (.func 19 caps) args H = bodyA (lim aprog) a19 (args ++ caps) H := lim_fcall_eq rfl caps args H
theorem a20p (args : List AV) : (lim aprog).pcall 20 args = pbodyA (lim aprog) a20 args := lim_pcall_eq rfl args
theorem a20i (caps args : List AV) (H : Heap) : (lim aprog).icall (.func 20 caps) args H = bodyA (lim aprog) a20 (args ++ caps) H := lim_fcall_eq rfl caps args H
theorem a21p (args : List AV) : (lim aprog).pcall 21 args = pbodyA (lim aprog) a21 args := lim_pcall_eq rfl args
theorem a21i (caps args : List AV) (H : Heap) : (lim aprog).icall (.func 21 caps) args H = bodyA (lim aprog) a21 (args ++ caps) H := lim_fcall_eq rfl caps args H
theorem a22p (args : List AV) : (lim aprog).pcall 22 args = pbodyA (lim aprog) a22 args := lim_pcall_eq rfl args
theorem a22i (caps args : List AV) (H : Heap) : (lim aprog).icall (.func 22 caps) args H = bodyA (lim aprog) a22 (args ++ caps) H := lim_fcall_eq rfl caps args H
theorem a23p (args : List AV) : (lim aprog).pcall 23 args = pbodyA (lim aprog) a23 args := lim_pcall_eq rfl args
theorem a23i (caps args : List AV) (H : Heap) : (lim aprog).icall (.func 23 caps) args H = bodyA (lim aprog) a23 (args ++ caps) H := lim_fcall_eq rfl caps args H
theorem a24p (args : List AV) : (lim aprog).pcall 24 args = pbodyA (lim aprog) a24 args := lim_pcall_eq rfl args
theorem a24i (caps args : List AV) (H : Heap) : (lim aprog).icall (.func 24 caps) args H = bodyA (lim aprog) a24 (args ++ caps) H := lim_fcall_eq rfl caps args H
theorem a25p (args : List AV) : (lim aprog).pcall 25 args = pbodyA (lim aprog) a25 args := lim_pcall_eq rfl args
theorem a25i (caps args : List AV) (H : Heap) : (lim aprog).icall (.func 25 caps) args H = bodyA (lim aprog) a25 (args ++ caps) H := lim_fcall_eq rfl caps args H
theorem a26p (args : List AV) : (lim aprog).pcall 26 args = pbodyA (lim aprog) a26 args := lim_pcall_eq rfl args
theorem a26i (caps args : List AV) (H : Heap) : (lim aprog).icall (.func 26 caps) args H = bodyA (lim aprog) a26 (args ++ caps) H := lim_fcall_eq rfl caps args H
theorem a27p (args : List AV) : (lim aprog).pcall 27 args = pbodyA (lim aprog) a27 args := lim_pcall_eq rfl args
theorem a27i (caps args : List AV) (H : Heap) : (lim aprog).icall (.func 27 caps) args H = bodyA (lim aprog) a27 (args ++ caps) H := lim_fcall_eq rfl caps args H
theorem a28p (args : List AV) : (lim aprog).pcall 28 args = pbodyA (lim aprog) a28 args := lim_pcall_eq rfl args
theorem a28i (caps args : List AV) (H : Heap) : (lim aprog).icall (.func 28 caps) args H = bodyA (lim aprog) a28 (args ++ caps) H := lim_fcall_eq rfl caps args H
theorem a29p (args : List AV) : (lim aprog).pcall 29 args = pbodyA (lim aprog) a29 args := lim_pcall_eq rfl args
theorem a29i (caps args : List AV) (H : Heap) : (lim aprog).icall (.func 29 caps) args H = bodyA (lim aprog) a29 (args ++ caps) H := lim_fcall_eq rfl caps args H
theorem a30p (args : List AV) : (lim aprog).pcall 30 args = pbodyA (lim aprog) a30 args := lim_pcall_eq rfl args
theorem a30i (caps args : List AV) (H : Heap) : (lim aprog).icall (.func 30 caps) args H = bodyA (lim aprog) a30 (args ++ caps) H := lim_fcall_eq rfl caps args H
theorem a31p (args : List AV) : (lim aprog).pcall 31 args = pbodyA (lim aprog) a31 args := lim_pcall_eq rfl args
theorem a31i (caps args : List AV) (H : Heap) : (lim aprog).icall (.func 31 caps) args H = bodyA (lim aprog) a31 (args ++ caps) H := lim_fcall_eq rfl caps args H
theorem a32p (args : List AV) : (lim aprog).pcall 32 args = pbodyA (lim aprog) a32 args := lim_pcall_eq rfl args
theorem a32i (caps args : List AV) (H : Heap) : (lim aprog).icall (.func 32 caps) args H = bodyA (lim aprog) a32 (args ++ caps) H := lim_fcall_eq rfl caps args H
theorem a33p (args : List AV) : (lim aprog).pcall 33 args = pbodyA (lim aprog) a33 args := lim_pcall_eq rfl args
theorem a33i (caps args : List AV) (H : Heap) : (lim aprog).icall (.func 33 caps) args H = bodyA (lim aprog) a33 (args ++ caps) H := lim_fcall_eq rfl caps args H
theorem a34p (args : List AV) : (lim aprog).pcall 34 args = pbodyA (lim aprog) a34 args := lim_pcall_eq rfl args
theorem a34i (caps args : List AV) (H : Heap) : (lim aprog).icall (.func 34 caps) args H = bodyA (lim aprog) a34 (args ++ caps) H := lim_fcall_eq rfl caps args H
theorem a35p (args : List AV) : (lim aprog).pcall 35 args = pbodyA (lim aprog) a35 args := lim_pcall_eq rfl args
theorem a35i (caps args : List AV) (H : Heap) : (lim aprog).icall (.func 35 caps) args H = bodyA (lim aprog) a35 (args ++ caps) H := lim_fcall_eq rfl caps args H
theorem a36p (args : List AV) : (lim aprog).pcall 36 args = pbodyA (lim aprog) a36 args := lim_pcall_eq rfl args
theorem a36i (caps args : List AV) (H : Heap) : (lim aprog).icall (.func 36 caps) args H = bodyA (lim aprog) a36 (args ++ caps) H := lim_fcall_eq rfl caps args H
theorem a37p (args : List AV) : (lim aprog).pcall 37 args = pbodyA (lim aprog) a37 args := lim_pcall_eq rfl args
theorem a37i (caps args : List AV) (H : Heap) : (lim aprog).icall (.func 37 caps) args H = bodyA (lim aprog) a37 (args ++ caps) H := lim_fcall_eq rfl caps args H
theorem a38p (args : List AV) : (lim aprog).pcall 38 args = pbodyA (lim aprog) a38 args := lim_pcall_eq rfl args
theorem a38i (caps args : List AV) (H : Heap) : (lim aprog).icall (.func 38 caps) args H = bodyA (lim aprog) a38 (args ++ caps) H := lim_fcall_eq rfl caps args H
theorem a39p (args : List AV) : (lim aprog).pcall 39 args = pbodyA (lim aprog) a39 args := lim_pcall_eq rfl args
theorem a39i (caps args : List AV) (H : Heap) : (lim aprog).icall (.func 39 caps) args H = bodyA (lim aprog) a39 (args ++ caps) H := lim_fcall_eq rfl caps args H
theorem a40p (args : List AV) : (lim aprog).pcall 40 args = pbodyA (lim aprog) a40 args := lim_pcall_eq rfl args
theorem a40i (caps args : List AV) (H : Heap) : (lim aprog).icall (.func 40 caps) args H = bodyA (lim aprog) a40 (args ++ caps) H := lim_fcall_eq rfl caps args H
theorem a41p (args : List AV) : (lim aprog).pcall 41 args = pbodyA (lim aprog) a41 args := lim_pcall_eq rfl args
theorem a41i (caps args : List AV) (H : Heap) : (lim aprog).icall (.func 41 caps) args H = bodyA (lim aprog) a41 (args ++ caps) H := lim_fcall_eq rfl caps args H
theorem a42p (args : List AV) : (lim aprog).pcall 42 args = pbodyA (lim aprog) a42 args := lim_pcall_eq rfl args
theorem a42i (caps args : List AV) (H : Heap) : (lim aprog).icall (.func 42 caps) args H = bodyA (lim aprog) a42 (args ++ caps) H := lim_fcall_eq rfl caps args H
theorem a43p (args : List AV) : (lim aprog).pcall 43 args = pbodyA (lim aprog) a43 args := lim_pcall_eq rfl args
theorem a43i (caps args : List AV) (H : Heap) : (lim aprog).icall (.func 43 caps) args H = bodyA (lim aprog) a43 (args ++ caps) H := lim_fcall_eq rfl caps args H
theorem a44p (args : List AV) : (lim aprog).pcall 44 args = pbodyA (lim aprog) a44 args := lim_pcall_eq rfl args
theorem a44i (caps args : List AV) (H : Heap) : (lim aprog).icall (.func 44 caps) args H = bodyA (lim aprog) a44 (args ++ caps) H := lim_fcall_eq rfl caps args H
theorem a45p (args : List AV) : (lim aprog).pcall 45 args = pbodyA (lim aprog) a45 args := lim_pcall_eq rfl args
theorem a45i (caps args : List AV) (H : Heap) : (lim aprog).icall (.func 45 caps) args H = bodyA (lim aprog) a45 (args ++ caps) H := lim_fcall_eq rfl caps args H
theorem a46p (args : List AV) : (lim aprog).pcall 46 args = pbodyA (lim aprog) a46 args := lim_pcall_eq rfl args
theorem a46i (caps args : List AV) (H : Heap) : (lim aprog).icall (.func 46 caps) args H = bodyA (lim aprog) a46 (args ++ caps) H := lim_fcall_eq rfl caps args H
theorem a47p (args : List AV) : (lim aprog).pcall 47 args = pbodyA (lim aprog) a47 args := lim_pcall_eq rfl args
theorem a47i (caps args : List AV) (H : Heap) : (lim aprog).icall (.func 47 caps) args H = bodyA (lim aprog) a47 (args ++ caps) H := lim_fcall_eq rfl caps args H
theorem a48p (args : List AV) : (lim aprog).pcall 48 args = pbodyA (lim aprog) a48 args := lim_pcall_eq rfl args
theorem a48i (caps args : List AV) (H : Heap) : (lim aprog).icall (.func 48 caps) args H = bodyA (lim aprog) a48 (args ++ caps) H := lim_fcall_eq rfl caps args H
theorem a49p (args : List AV) : (lim aprog).pcall 49 args = pbodyA (lim aprog) a49 args := lim_pcall_eq rfl args
theorem a49i (caps args : List AV) (H : Heap) : (lim aprog).icall (.func 49 caps) args H = bodyA (lim aprog) a49 (args ++ caps) H := lim_fcall_eq rfl caps args H
theorem a50p (args : List AV) : (lim aprog).pcall 50 args = pbodyA (lim aprog) a50 args := lim_pcall_eq rfl args
theorem a50i (caps args : List AV) (H : Heap) : (lim aprog).icall (.func 50 caps) args H = bodyA (lim aprog) a50 (args ++ caps) H := lim_fcall_eq rfl caps args H
theorem a51p (args : List AV) : (lim aprog).pcall 51 args = pbodyA (lim aprog) a51 args := lim_pcall_eq rfl args
theorem a51i (caps args : List AV) (H : Heap) : (lim aprog).icall (.func 51 caps) args H = bodyA (lim aprog) a51 (args ++ caps) H := lim_fcall_eq rfl caps args H
theorem a52p (args : List AV) : (lim aprog).pcall 52 args = pbodyA (lim aprog) a52 args := lim_pcall_eq rfl args
theorem a52i (caps args : List AV) (H : Heap) : (lim aprog).icall (.func 52 caps) args H = bodyA (lim aprog) a52 (args ++ caps) H := lim_fcall_eq rfl caps args H
end Go.Abs.Lasso
