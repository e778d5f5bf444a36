/- The functions in the interpreter's words. -/
import Derived.Test.YtdkbhidfiplncaaAbsEnc
import Derived.Test.YtdkbhidfiplncaaProg
namespace Go.Abs.Det
open Go Go.Abs
def a8l0b : ACode :=
  .seq (.seq (.region [⟨some 65, .mov (.t 13), none⟩,
      ⟨some 66, .faddr 2 (.t 5), none⟩,
      ⟨some 67, .load false 1 (.t 66), none⟩,
      ⟨some 68, .len (.t 67), none⟩,
      ⟨some 69, .bin .lss (.t 65) (.t 68), none⟩])
   (.cond (.t 69)
    (.skip)
    (.exit 0)))
  (.seq (.block 1 (.seq (.draw 6 [⟨some 72, .mov (.t 11), none⟩,
        ⟨some 73, .mov (.t 13), none⟩,
        ⟨some 74, .iaddr 1 (.t 72) (.t 73), none⟩,
        ⟨some 75, .load false 1 (.t 74), none⟩,
        ⟨some 76, .mov (.t 11), none⟩,
        ⟨some 77, .mov (.t 13), none⟩,
        ⟨some 78, .faddr 2 (.t 5), none⟩,
        ⟨some 79, .load false 1 (.t 78), none⟩,
        ⟨some 80, .len (.t 79), none⟩,
        ⟨some 81, .bin .add (.t 77) (.t 80), none⟩,
        ⟨some 82, .iaddr 1 (.t 76) (.t 81), none⟩,
        ⟨some 83, .load false 1 (.t 82), none⟩,
        ⟨some 84, .bin .neq (.t 75) (.t 83), none⟩])
     (.cond (.t 84)
      (.seq (.region [⟨some 4, .mov (.c (.bool false)), none⟩])
       (.ret))
      (.skip))))
   (.region [⟨some 70, .mov (.t 13), none⟩,
      ⟨some 71, .bin .add (.t 70) (.c (.int Go.IntKind.i64 1)), none⟩,
      ⟨some 13, .mov (.t 71), none⟩]))

def a8l0 : ACode := a8l0b
def a8l0s : List Nat := [0, 1, 2, 3, 6, 7, 8, 9, 10, 12, 14, 15, 16, 17, 18, 19, 20, 21, 22, 23, 24, 25, 26, 27, 28, 29, 30, 31, 32, 33, 34, 35, 36, 37, 38, 39, 40, 41, 42, 43, 44, 45, 46, 47, 48, 49, 50, 51, 52, 53, 54, 55, 56, 57, 58, 59, 60, 61, 62, 63, 64, 65, 66, 67, 68, 69, 70, 71, 72, 73, 74, 75, 76, 77, 78, 79, 80, 81, 82, 83, 84, 85]
abbrev a8l0F (s4 s5 s11 s13 : AV) : List AV := [.any, .any, .any, .any, s4, s5, .any, .any, .any, .any, .any, s11, .any, s13, .any, .any, .any, .any, .any, .any, .any, .any, .any, .any, .any, .any, .any, .any, .any, .any, .any, .any, .any, .any, .any, .any, .any, .any, .any, .any, .any, .any, .any, .any, .any, .any, .any, .any, .any, .any, .any, .any, .any, .any, .any, .any, .any, .any, .any, .any, .any, .any, .any, .any, .any, .any, .any, .any, .any, .any, .any, .any, .any, .any, .any, .any, .any, .any, .any, .any, .any, .any, .any, .any, .any, .any]
theorem a8l0c (s0 s1 s2 s3 s4 s5 s6 s7 s8 s9 s10 s11 s12 s13 s14 s15 s16 s17 s18 s19 s20 s21 s22 s23 s24 s25 s26 s27 s28 s29 s30 s31 s32 s33 s34 s35 s36 s37 s38 s39 s40 s41 s42 s43 s44 s45 s46 s47 s48 s49 s50 s51 s52 s53 s54 s55 s56 s57 s58 s59 s60 s61 s62 s63 s64 s65 s66 s67 s68 s69 s70 s71 s72 s73 s74 s75 s76 s77 s78 s79 s80 s81 s82 s83 s84 s85 : AV) : clearA a8l0s [s0, s1, s2, s3, s4, s5, s6, s7, s8, s9, s10, s11, s12, s13, s14, s15, s16, s17, s18, s19, s20, s21, s22, s23, s24, s25, s26, s27, s28, s29, s30, s31, s32, s33, s34, s35, s36, s37, s38, s39, s40, s41, s42, s43, s44, s45, s46, s47, s48, s49, s50, s51, s52, s53, s54, s55, s56, s57, s58, s59, s60, s61, s62, s63, s64, s65, s66, s67, s68, s69, s70, s71, s72, s73, s74, s75, s76, s77, s78, s79, s80, s81, s82, s83, s84, s85] = a8l0F s4 s5 s11 s13 := by kernel_rfl
theorem a8l0n {prog : Nat → Option AFunc} (s4 s5 s11 s13 : AV) (H : Heap) : (lim prog).loop a8l0s a8l0 ⟨a8l0F s4 s5 s11 s13, H⟩ = loopK (lim prog) a8l0s a8l0 (run (lim prog) a8l0b ⟨a8l0F s4 s5 s11 s13, H⟩) := lim_loop_step _ _ _ _ (by kernel_rfl)

/-- sentinel/sentinellaw19.TreedetDoubled -/
def a8 : AFunc := ⟨86,
  .seq (.region [⟨some 2, .box (.t 0), none⟩,
     ⟨some 4, .mov (.c (.bool false)), none⟩])
  (.seq (.region [⟨some 14, .load true 4 (.t 2), none⟩,
      ⟨some 15, .call 42 [(.t 14), (.c (.int Go.IntKind.i64 5))], none⟩,
      ⟨some 5, .box (.c (.agg [.int Go.IntKind.i64 0, .int Go.IntKind.i64 0, .sl true 0 [], .sl true 0 []])), none⟩,
      ⟨none, .store 4 (.t 5) (.t 15), none⟩])
   (.seq (.seq (.region [⟨some 16, .faddr 2 (.t 5), none⟩,
        ⟨some 17, .load false 1 (.t 16), none⟩,
        ⟨some 18, .len (.t 17), none⟩,
        ⟨some 19, .bin .eql (.t 18) (.c (.int Go.IntKind.i64 0)), none⟩])
     (.cond (.t 19)
      (.seq (.region [⟨some 20, .call 35 [], none⟩,
          ⟨some 4, .mov (.t 20), none⟩])
       (.ret))
      (.skip)))
    (.seq (.region [⟨some 21, .load true 4 (.t 5), none⟩,
        ⟨some 22, .mov (.t 1), none⟩,
        ⟨some 23, .bin .and (.t 22) (.c (.int Go.IntKind.i64 65535)), none⟩,
        ⟨some 24, .call 43 [(.t 21), (.t 23)], none⟩,
        ⟨some 6, .box (.c (.agg [.int Go.IntKind.i64 0, .int Go.IntKind.i64 0, .sl true 0 [], .sl true 0 []])), none⟩,
        ⟨none, .store 4 (.t 6) (.t 24), none⟩])
     (.seq (.region [⟨some 26, .load true 4 (.t 5), none⟩,
         ⟨some 27, .call 23 [(.t 26)], none⟩,
         ⟨some 25, .mov (.t 27), none⟩,
         ⟨some 28, .ext 0 (.t 25), none⟩,
         ⟨some 29, .ext 1 (.t 25), none⟩,
         ⟨some 7, .box (.c (.agg [.int Go.IntKind.i64 0, .int Go.IntKind.i64 0, .sl true 0 [], .sl true 0 []])), none⟩,
         ⟨none, .store 4 (.t 7) (.t 28), none⟩,
         ⟨some 8, .mov (.t 29), none⟩])
      (.seq (.region [⟨some 31, .load true 4 (.t 6), none⟩,
          ⟨some 32, .call 23 [(.t 31)], none⟩,
          ⟨some 30, .mov (.t 32), none⟩,
          ⟨some 33, .ext 0 (.t 30), none⟩,
          ⟨some 34, .ext 1 (.t 30), none⟩,
          ⟨some 9, .box (.c (.agg [.int Go.IntKind.i64 0, .int Go.IntKind.i64 0, .sl true 0 [], .sl true 0 []])), none⟩,
          ⟨none, .store 4 (.t 9) (.t 33), none⟩,
          ⟨some 10, .mov (.t 34), none⟩])
       (.seq (.region [⟨some 36, .load true 4 (.t 6), none⟩,
           ⟨some 37, .call 25 [(.t 36)], none⟩,
           ⟨some 35, .mov (.t 37), none⟩,
           ⟨some 38, .ext 0 (.t 35), none⟩,
           ⟨some 39, .ext 1 (.t 35), none⟩,
           ⟨some 11, .mov (.t 38), none⟩,
           ⟨some 12, .mov (.t 39), none⟩])
        (.seq (.seq (.region [⟨some 40, .mov (.t 8), none⟩,
             ⟨some 41, .bin .neq (.t 40) (.c (.int Go.IntKind.i64 0)), none⟩,
             ⟨some 42, .mov (.t 41), none⟩,
             ⟨some 43, .mov (.t 10), some (42, false)⟩,
             ⟨some 44, .bin .neq (.t 43) (.c (.int Go.IntKind.i64 0)), some (42, false)⟩,
             ⟨some 45, .pick (.t 42) (.c (.bool true)) (.t 44), none⟩,
             ⟨some 46, .mov (.t 45), none⟩,
             ⟨some 47, .mov (.t 12), some (46, false)⟩,
             ⟨some 48, .bin .neq (.t 47) (.c (.int Go.IntKind.i64 0)), some (46, false)⟩,
             ⟨some 49, .pick (.t 46) (.c (.bool true)) (.t 48), none⟩,
             ⟨some 50, .mov (.t 49), none⟩,
             ⟨some 51, .load true 4 (.t 7), some (50, false)⟩,
             ⟨some 52, .load true 4 (.t 9), some (50, false)⟩,
             ⟨some 53, .call 29 [(.t 51), (.t 52)], some (50, false)⟩,
             ⟨some 54, .un .not (.t 53), some (50, false)⟩,
             ⟨some 55, .pick (.t 50) (.c (.bool true)) (.t 54), none⟩,
             ⟨some 56, .mov (.t 55), none⟩,
             ⟨some 57, .mov (.t 11), some (56, false)⟩,
             ⟨some 58, .len (.t 57), some (56, false)⟩,
             ⟨some 59, .faddr 2 (.t 5), some (56, false)⟩,
             ⟨some 60, .load false 1 (.t 59), some (56, false)⟩,
             ⟨some 61, .len (.t 60), some (56, false)⟩,
             ⟨some 62, .bin .mul (.c (.int Go.IntKind.i64 2)) (.t 61), some (56, false)⟩,
             ⟨some 63, .bin .neq (.t 58) (.t 62), some (56, false)⟩,
             ⟨some 64, .pick (.t 56) (.c (.bool true)) (.t 63), none⟩])
          (.cond (.t 64)
           (.seq (.region [⟨some 4, .mov (.c (.bool false)), none⟩])
            (.ret))
           (.skip)))
         (.seq (.seq (.region [⟨some 13, .mov (.c (.int Go.IntKind.i64 0)), none⟩])
           (.block 0 (.loop a8l0s a8l0)))
          (.seq (.region [⟨some 85, .call 35 [], none⟩,
              ⟨some 4, .mov (.t 85), none⟩])
           (.ret)))))))))),
  [.tmp 4]⟩

def a14l0b : ACode :=
  .seq (.region [⟨some 68, .bin .lss (.t 67) (.t 66), none⟩])
  (.seq (.cond (.t 68)
    (.skip)
    (.exit 5))
   (.seq (.block 6 (.seq (.region [⟨some 69, .iaddr 1 (.t 65) (.t 67), none⟩,
         ⟨some 70, .load false 1 (.t 69), none⟩,
         ⟨some 10, .mov (.t 70), none⟩])
      (.seq (.region [⟨some 71, .mov (.t 4), none⟩,
          ⟨some 72, .mov (.t 10), none⟩,
          ⟨some 73, .icall (.t 71) [(.t 72)], none⟩,
          ⟨some 74, .un .not (.t 73), none⟩])
       (.cond (.t 74)
        (.seq (.region [⟨some 2, .mov (.c (.int Go.IntKind.i64 8)), none⟩])
         (.ret))
        (.skip)))))
    (.region [⟨some 75, .bin .add (.t 67) (.c (.int Go.IntKind.i64 1)), none⟩,
       ⟨some 67, .mov (.t 75), none⟩])))

def a14l0 : ACode := a14l0b
def a14l0s : List Nat := [0, 5, 6, 7, 8, 9, 10, 11, 12, 13, 14, 15, 16, 17, 18, 19, 20, 21, 22, 23, 24, 25, 26, 27, 28, 29, 30, 31, 32, 33, 34, 35, 36, 37, 38, 39, 40, 41, 42, 46, 47, 48, 49, 50, 51, 52, 56, 57, 58, 59, 60, 61, 62, 63, 64, 68, 69, 70, 71, 72, 73, 74, 75, 76, 77]
abbrev a14l0F (s1 s2 s3 s4 s43 s44 s45 s53 s54 s55 s65 s66 s67 : AV) : List AV := [.any, s1, s2, s3, s4, .any, .any, .any, .any, .any, .any, .any, .any, .any, .any, .any, .any, .any, .any, .any, .any, .any, .any, .any, .any, .any, .any, .any, .any, .any, .any, .any, .any, .any, .any, .any, .any, .any, .any, .any, .any, .any, .any, s43, s44, s45, .any, .any, .any, .any, .any, .any, .any, s53, s54, s55, .any, .any, .any, .any, .any, .any, .any, .any, .any, s65, s66, s67, .any, .any, .any, .any, .any, .any, .any, .any, .any, .any]
theorem a14l0c (s0 s1 s2 s3 s4 s5 s6 s7 s8 s9 s10 s11 s12 s13 s14 s15 s16 s17 s18 s19 s20 s21 s22 s23 s24 s25 s26 s27 s28 s29 s30 s31 s32 s33 s34 s35 s36 s37 s38 s39 s40 s41 s42 s43 s44 s45 s46 s47 s48 s49 s50 s51 s52 s53 s54 s55 s56 s57 s58 s59 s60 s61 s62 s63 s64 s65 s66 s67 s68 s69 s70 s71 s72 s73 s74 s75 s76 s77 : AV) : clearA a14l0s [s0, s1, s2, s3, s4, s5, s6, s7, s8, s9, s10, s11, s12, s13, s14, s15, s16, s17, s18, s19, s20, s21, s22, s23, s24, s25, s26, s27, s28, s29, s30, s31, s32, s33, s34, s35, s36, s37, s38, s39, s40, s41, s42, s43, s44, s45, s46, s47, s48, s49, s50, s51, s52, s53, s54, s55, s56, s57, s58, s59, s60, s61, s62, s63, s64, s65, s66, s67, s68, s69, s70, s71, s72, s73, s74, s75, s76, s77] = a14l0F s1 s2 s3 s4 s43 s44 s45 s53 s54 s55 s65 s66 s67 := by kernel_rfl
theorem a14l0n {prog : Nat → Option AFunc} (s1 s2 s3 s4 s43 s44 s45 s53 s54 s55 s65 s66 s67 : AV) (H : Heap) : (lim prog).loop a14l0s a14l0 ⟨a14l0F s1 s2 s3 s4 s43 s44 s45 s53 s54 s55 s65 s66 s67, H⟩ = loopK (lim prog) a14l0s a14l0 (run (lim prog) a14l0b ⟨a14l0F s1 s2 s3 s4 s43 s44 s45 s53 s54 s55 s65 s66 s67, H⟩) := lim_loop_step _ _ _ _ (by kernel_rfl)

def a14l1b : ACode :=
  .seq (.region [⟨some 56, .bin .lss (.t 55) (.t 54), none⟩])
  (.seq (.cond (.t 56)
    (.skip)
    (.exit 3))
   (.seq (.block 4 (.seq (.region [⟨some 57, .iaddr 1 (.t 53) (.t 55), none⟩,
         ⟨some 58, .load false 1 (.t 57), none⟩,
         ⟨some 8, .mov (.t 58), none⟩])
      (.seq (.seq (.region [⟨some 59, .mov (.t 8), none⟩,
           ⟨some 60, .len (.t 59), none⟩,
           ⟨some 61, .faddr 0 (.t 1), none⟩,
           ⟨some 62, .load false 1 (.t 61), none⟩,
           ⟨some 63, .bin .shl (.c (.int Go.IntKind.i64 1)) (.t 62), none⟩,
           ⟨some 64, .bin .neq (.t 60) (.t 63), none⟩])
        (.cond (.t 64)
         (.seq (.region [⟨some 2, .mov (.c (.int Go.IntKind.i64 2)), none⟩])
          (.ret))
         (.skip)))
       (.seq (.region [⟨some 65, .mov (.t 8), none⟩,
           ⟨some 66, .len (.t 65), none⟩,
           ⟨some 67, .mov (.c (.int Go.IntKind.i64 0)), none⟩])
        (.block 5 (.loop a14l0s a14l0))))))
    (.region [⟨some 76, .bin .add (.t 55) (.c (.int Go.IntKind.i64 1)), none⟩,
       ⟨some 55, .mov (.t 76), none⟩])))

def a14l1 : ACode := a14l1b
def a14l1s : List Nat := [0, 5, 6, 7, 8, 9, 10, 11, 12, 13, 14, 15, 16, 17, 18, 19, 20, 21, 22, 23, 24, 25, 26, 27, 28, 29, 30, 31, 32, 33, 34, 35, 36, 37, 38, 39, 40, 41, 42, 46, 47, 48, 49, 50, 51, 52, 56, 57, 58, 59, 60, 61, 62, 63, 64, 65, 66, 67, 68, 69, 70, 71, 72, 73, 74, 75, 76, 77]
abbrev a14l1F (s1 s2 s3 s4 s43 s44 s45 s53 s54 s55 : AV) : List AV := [.any, s1, s2, s3, s4, .any, .any, .any, .any, .any, .any, .any, .any, .any, .any, .any, .any, .any, .any, .any, .any, .any, .any, .any, .any, .any, .any, .any, .any, .any, .any, .any, .any, .any, .any, .any, .any, .any, .any, .any, .any, .any, .any, s43, s44, s45, .any, .any, .any, .any, .any, .any, .any, s53, s54, s55, .any, .any, .any, .any, .any, .any, .any, .any, .any, .any, .any, .any, .any, .any, .any, .any, .any, .any, .any, .any, .any, .any]
theorem a14l1c (s0 s1 s2 s3 s4 s5 s6 s7 s8 s9 s10 s11 s12 s13 s14 s15 s16 s17 s18 s19 s20 s21 s22 s23 s24 s25 s26 s27 s28 s29 s30 s31 s32 s33 s34 s35 s36 s37 s38 s39 s40 s41 s42 s43 s44 s45 s46 s47 s48 s49 s50 s51 s52 s53 s54 s55 s56 s57 s58 s59 s60 s61 s62 s63 s64 s65 s66 s67 s68 s69 s70 s71 s72 s73 s74 s75 s76 s77 : AV) : clearA a14l1s [s0, s1, s2, s3, s4, s5, s6, s7, s8, s9, s10, s11, s12, s13, s14, s15, s16, s17, s18, s19, s20, s21, s22, s23, s24, s25, s26, s27, s28, s29, s30, s31, s32, s33, s34, s35, s36, s37, s38, s39, s40, s41, s42, s43, s44, s45, s46, s47, s48, s49, s50, s51, s52, s53, s54, s55, s56, s57, s58, s59, s60, s61, s62, s63, s64, s65, s66, s67, s68, s69, s70, s71, s72, s73, s74, s75, s76, s77] = a14l1F s1 s2 s3 s4 s43 s44 s45 s53 s54 s55 := by kernel_rfl
theorem a14l1n {prog : Nat → Option AFunc} (s1 s2 s3 s4 s43 s44 s45 s53 s54 s55 : AV) (H : Heap) : (lim prog).loop a14l1s a14l1 ⟨a14l1F s1 s2 s3 s4 s43 s44 s45 s53 s54 s55, H⟩ = loopK (lim prog) a14l1s a14l1 (run (lim prog) a14l1b ⟨a14l1F s1 s2 s3 s4 s43 s44 s45 s53 s54 s55, H⟩) := lim_loop_step _ _ _ _ (by kernel_rfl)

def a14l2b : ACode :=
  .seq (.region [⟨some 46, .bin .lss (.t 45) (.t 44), none⟩])
  (.seq (.cond (.t 46)
    (.skip)
    (.exit 1))
   (.seq (.block 2 (.seq (.region [⟨some 47, .iaddr 1 (.t 43) (.t 45), none⟩,
         ⟨some 48, .load false 1 (.t 47), none⟩,
         ⟨some 6, .mov (.t 48), none⟩])
      (.seq (.seq (.region [⟨some 49, .mov (.t 6), none⟩,
           ⟨some 50, .len (.t 49), none⟩,
           ⟨some 51, .load false 1 (.t 3), none⟩,
           ⟨some 52, .bin .neq (.t 50) (.t 51), none⟩])
        (.cond (.t 52)
         (.seq (.region [⟨some 2, .mov (.c (.int Go.IntKind.i64 2)), none⟩])
          (.ret))
         (.skip)))
       (.seq (.region [⟨some 53, .mov (.t 6), none⟩,
           ⟨some 54, .len (.t 53), none⟩,
           ⟨some 55, .mov (.c (.int Go.IntKind.i64 0)), none⟩])
        (.block 3 (.loop a14l1s a14l1))))))
    (.region [⟨some 77, .bin .add (.t 45) (.c (.int Go.IntKind.i64 1)), none⟩,
       ⟨some 45, .mov (.t 77), none⟩])))

def a14l2 : ACode := a14l2b
def a14l2s : List Nat := [0, 5, 6, 7, 8, 9, 10, 11, 12, 13, 14, 15, 16, 17, 18, 19, 20, 21, 22, 23, 24, 25, 26, 27, 28, 29, 30, 31, 32, 33, 34, 35, 36, 37, 38, 39, 40, 41, 42, 46, 47, 48, 49, 50, 51, 52, 53, 54, 55, 56, 57, 58, 59, 60, 61, 62, 63, 64, 65, 66, 67, 68, 69, 70, 71, 72, 73, 74, 75, 76, 77]
abbrev a14l2F (s1 s2 s3 s4 s43 s44 s45 : AV) : List AV := [.any, s1, s2, s3, s4, .any, .any, .any, .any, .any, .any, .any, .any, .any, .any, .any, .any, .any, .any, .any, .any, .any, .any, .any, .any, .any, .any, .any, .any, .any, .any, .any, .any, .any, .any, .any, .any, .any, .any, .any, .any, .any, .any, s43, s44, s45, .any, .any, .any, .any, .any, .any, .any, .any, .any, .any, .any, .any, .any, .any, .any, .any, .any, .any, .any, .any, .any, .any, .any, .any, .any, .any, .any, .any, .any, .any, .any, .any]
theorem a14l2c (s0 s1 s2 s3 s4 s5 s6 s7 s8 s9 s10 s11 s12 s13 s14 s15 s16 s17 s18 s19 s20 s21 s22 s23 s24 s25 s26 s27 s28 s29 s30 s31 s32 s33 s34 s35 s36 s37 s38 s39 s40 s41 s42 s43 s44 s45 s46 s47 s48 s49 s50 s51 s52 s53 s54 s55 s56 s57 s58 s59 s60 s61 s62 s63 s64 s65 s66 s67 s68 s69 s70 s71 s72 s73 s74 s75 s76 s77 : AV) : clearA a14l2s [s0, s1, s2, s3, s4, s5, s6, s7, s8, s9, s10, s11, s12, s13, s14, s15, s16, s17, s18, s19, s20, s21, s22, s23, s24, s25, s26, s27, s28, s29, s30, s31, s32, s33, s34, s35, s36, s37, s38, s39, s40, s41, s42, s43, s44, s45, s46, s47, s48, s49, s50, s51, s52, s53, s54, s55, s56, s57, s58, s59, s60, s61, s62, s63, s64, s65, s66, s67, s68, s69, s70, s71, s72, s73, s74, s75, s76, s77] = a14l2F s1 s2 s3 s4 s43 s44 s45 := by kernel_rfl
theorem a14l2n {prog : Nat → Option AFunc} (s1 s2 s3 s4 s43 s44 s45 : AV) (H : Heap) : (lim prog).loop a14l2s a14l2 ⟨a14l2F s1 s2 s3 s4 s43 s44 s45, H⟩ = loopK (lim prog) a14l2s a14l2 (run (lim prog) a14l2b ⟨a14l2F s1 s2 s3 s4 s43 s44 s45, H⟩) := lim_loop_step _ _ _ _ (by kernel_rfl)

/-- sentinel/treedet.Check -/
def a14 : AFunc := ⟨78,
  .seq (.region [⟨some 1, .box (.t 0), none⟩,
     ⟨some 2, .mov (.c (.int Go.IntKind.i64 0)), none⟩])
  (.seq (.region [⟨some 11, .faddr 2 (.t 1), none⟩,
      ⟨some 12, .load false 1 (.t 11), none⟩,
      ⟨some 13, .len (.t 12), none⟩,
      ⟨some 3, .box (.c (.int Go.IntKind.i64 0)), none⟩,
      ⟨none, .store 1 (.t 3) (.t 13), none⟩])
   (.seq (.region [⟨some 14, .mkfunc 52 [(.t 3)], none⟩,
       ⟨some 4, .mov (.t 14), none⟩])
    (.seq (.block 0 (.seq (.region [⟨some 16, .faddr 0 (.t 1), none⟩,
          ⟨some 17, .load false 1 (.t 16), none⟩,
          ⟨some 18, .bin .lss (.t 17) (.c (.int Go.IntKind.i64 0)), none⟩,
          ⟨some 19, .mov (.t 18), none⟩,
          ⟨some 20, .faddr 0 (.t 1), some (19, false)⟩,
          ⟨some 21, .load false 1 (.t 20), some (19, false)⟩,
          ⟨some 22, .bin .gtr (.t 21) (.c (.int Go.IntKind.i64 3)), some (19, false)⟩,
          ⟨some 23, .pick (.t 19) (.c (.bool true)) (.t 22), none⟩,
          ⟨some 15, .mov (.t 23), none⟩])
       (.cond (.t 15)
        (.seq (.region [⟨some 2, .mov (.c (.int Go.IntKind.i64 7)), none⟩])
         (.ret))
        (.seq (.region [⟨some 25, .load false 1 (.t 3), none⟩,
            ⟨some 26, .bin .eql (.t 25) (.c (.int Go.IntKind.i64 0)), none⟩,
            ⟨some 24, .mov (.t 26), none⟩])
         (.cond (.t 24)
          (.seq (.region [⟨some 2, .mov (.c (.int Go.IntKind.i64 3)), none⟩])
           (.ret))
          (.seq (.region [⟨some 28, .load false 1 (.t 3), none⟩,
              ⟨some 29, .bin .gtr (.t 28) (.c (.int Go.IntKind.i64 64)), none⟩,
              ⟨some 27, .mov (.t 29), none⟩])
           (.cond (.t 27)
            (.seq (.region [⟨some 2, .mov (.c (.int Go.IntKind.i64 4)), none⟩])
             (.ret))
            (.seq (.region [⟨some 31, .faddr 3 (.t 1), none⟩,
                ⟨some 32, .load false 1 (.t 31), none⟩,
                ⟨some 33, .len (.t 32), none⟩,
                ⟨some 34, .load false 1 (.t 3), none⟩,
                ⟨some 35, .bin .neq (.t 33) (.t 34), none⟩,
                ⟨some 30, .mov (.t 35), none⟩])
             (.cond (.t 30)
              (.seq (.region [⟨some 2, .mov (.c (.int Go.IntKind.i64 2)), none⟩])
               (.ret))
              (.seq (.region [⟨some 37, .mov (.t 4), none⟩,
                  ⟨some 38, .faddr 1 (.t 1), none⟩,
                  ⟨some 39, .load false 1 (.t 38), none⟩,
                  ⟨some 40, .icall (.t 37) [(.t 39)], none⟩,
                  ⟨some 41, .un .not (.t 40), none⟩,
                  ⟨some 36, .mov (.t 41), none⟩])
               (.cond (.t 36)
                (.seq (.region [⟨some 2, .mov (.c (.int Go.IntKind.i64 8)), none⟩])
                 (.ret))
                (.skip))))))))))))
     (.seq (.seq (.region [⟨some 42, .faddr 2 (.t 1), none⟩,
          ⟨some 43, .load false 1 (.t 42), none⟩,
          ⟨some 44, .len (.t 43), none⟩,
          ⟨some 45, .mov (.c (.int Go.IntKind.i64 0)), none⟩])
       (.block 1 (.loop a14l2s a14l2)))
      (.seq (.region [⟨some 2, .mov (.c (.int Go.IntKind.i64 0)), none⟩])
       (.ret)))))),
  [.tmp 2]⟩

/-- sentinel/treedet.Run -/
def a16 : AFunc := ⟨21,
  .seq (.region [⟨some 2, .box (.t 0), none⟩,
     ⟨some 4, .mov (.c (.sl true 0 [])), none⟩,
     ⟨some 5, .mov (.c (.int Go.IntKind.i64 0)), none⟩])
  (.seq (.seq (.region [⟨some 7, .load true 4 (.t 2), none⟩,
       ⟨some 8, .mov (.t 1), none⟩,
       ⟨some 9, .call 53 [(.t 7), (.t 8)], none⟩,
       ⟨some 6, .mov (.t 9), none⟩])
    (.seq (.region [⟨some 10, .mov (.t 6), none⟩,
        ⟨some 11, .bin .neq (.t 10) (.c (.int Go.IntKind.i64 0)), none⟩])
     (.cond (.t 11)
      (.seq (.region [⟨some 12, .mov (.t 6), none⟩,
          ⟨some 4, .mov (.c (.sl true 0 [])), none⟩,
          ⟨some 5, .mov (.t 12), none⟩])
       (.ret))
      (.skip))))
   (.seq (.region [⟨some 13, .load true 4 (.t 2), none⟩,
       ⟨some 14, .mov (.t 1), none⟩,
       ⟨some 15, .call 54 [(.t 13), (.t 14)], none⟩,
       ⟨some 16, .mov (.t 1), none⟩,
       ⟨some 17, .len (.t 16), none⟩,
       ⟨some 18, .mov (.t 1), none⟩,
       ⟨some 19, .len (.t 18), none⟩,
       ⟨some 20, .slice 1 (.t 15) none (some (.t 17)) (some (.t 19)), none⟩,
       ⟨some 4, .mov (.t 20), none⟩,
       ⟨some 5, .mov (.c (.int Go.IntKind.i64 0)), none⟩])
    (.ret))),
  [.tmp 4, .tmp 5]⟩

/-- sentinel/treedet.Accepts -/
def a18 : AFunc := ⟨22,
  .seq (.region [⟨some 2, .box (.t 0), none⟩,
     ⟨some 4, .mov (.c (.bool false)), none⟩,
     ⟨some 5, .mov (.c (.int Go.IntKind.i64 0)), none⟩])
  (.seq (.seq (.region [⟨some 7, .load true 4 (.t 2), none⟩,
       ⟨some 8, .mov (.t 1), none⟩,
       ⟨some 9, .call 53 [(.t 7), (.t 8)], none⟩,
       ⟨some 6, .mov (.t 9), none⟩])
    (.seq (.region [⟨some 10, .mov (.t 6), none⟩,
        ⟨some 11, .bin .neq (.t 10) (.c (.int Go.IntKind.i64 0)), none⟩])
     (.cond (.t 11)
      (.seq (.region [⟨some 12, .mov (.t 6), none⟩,
          ⟨some 4, .mov (.c (.bool false)), none⟩,
          ⟨some 5, .mov (.t 12), none⟩])
       (.ret))
      (.skip))))
   (.seq (.draw 5 [⟨some 13, .faddr 3 (.t 2), none⟩,
       ⟨some 14, .load false 1 (.t 13), none⟩,
       ⟨some 15, .load true 4 (.t 2), none⟩,
       ⟨some 16, .mov (.t 1), none⟩,
       ⟨some 17, .call 54 [(.t 15), (.t 16)], none⟩,
       ⟨some 18, .iaddr 1 (.t 17) (.c (.int Go.IntKind.i64 0)), none⟩,
       ⟨some 19, .load false 1 (.t 18), none⟩,
       ⟨some 20, .iaddr 1 (.t 14) (.t 19), none⟩,
       ⟨some 21, .load false 1 (.t 20), none⟩,
       ⟨some 4, .mov (.t 21), none⟩,
       ⟨some 5, .mov (.c (.int Go.IntKind.i64 0)), none⟩])
    (.ret))),
  [.tmp 4, .tmp 5]⟩

def a20l0b : ACode :=
  .seq (.seq (.region [⟨some 11, .mov (.t 5), none⟩,
      ⟨some 12, .mov (.t 0), none⟩,
      ⟨some 13, .len (.t 12), none⟩,
      ⟨some 14, .bin .lss (.t 11) (.t 13), none⟩])
   (.cond (.t 14)
    (.skip)
    (.exit 0)))
  (.seq (.block 1 (.seq (.draw 5 [⟨some 17, .mov (.t 0), none⟩,
        ⟨some 18, .mov (.t 5), none⟩,
        ⟨some 19, .iaddr 1 (.t 17) (.t 18), none⟩,
        ⟨some 20, .load false 1 (.t 19), none⟩,
        ⟨some 21, .mov (.t 1), none⟩,
        ⟨some 22, .mov (.t 5), none⟩,
        ⟨some 23, .iaddr 1 (.t 21) (.t 22), none⟩,
        ⟨some 24, .load false 1 (.t 23), none⟩,
        ⟨some 25, .bin .neq (.t 20) (.t 24), none⟩])
     (.cond (.t 25)
      (.seq (.region [⟨some 4, .mov (.c (.bool false)), none⟩])
       (.ret))
      (.skip))))
   (.region [⟨some 15, .mov (.t 5), none⟩,
      ⟨some 16, .bin .add (.t 15) (.c (.int Go.IntKind.i64 1)), none⟩,
      ⟨some 5, .mov (.t 16), none⟩]))

def a20l0 : ACode := a20l0b
def a20l0s : List Nat := [2, 3, 6, 7, 8, 9, 10, 11, 12, 13, 14, 15, 16, 17, 18, 19, 20, 21, 22, 23, 24, 25]
abbrev a20l0F (s0 s1 s4 s5 : AV) : List AV := [s0, s1, .any, .any, s4, s5, .any, .any, .any, .any, .any, .any, .any, .any, .any, .any, .any, .any, .any, .any, .any, .any, .any, .any, .any, .any]
theorem a20l0c (s0 s1 s2 s3 s4 s5 s6 s7 s8 s9 s10 s11 s12 s13 s14 s15 s16 s17 s18 s19 s20 s21 s22 s23 s24 s25 : AV) : clearA a20l0s [s0, s1, s2, s3, s4, s5, s6, s7, s8, s9, s10, s11, s12, s13, s14, s15, s16, s17, s18, s19, s20, s21, s22, s23, s24, s25] = a20l0F s0 s1 s4 s5 := by kernel_rfl
theorem a20l0n {prog : Nat → Option AFunc} (s0 s1 s4 s5 : AV) (H : Heap) : (lim prog).loop a20l0s a20l0 ⟨a20l0F s0 s1 s4 s5, H⟩ = loopK (lim prog) a20l0s a20l0 (run (lim prog) a20l0b ⟨a20l0F s0 s1 s4 s5, H⟩) := lim_loop_step _ _ _ _ (by kernel_rfl)

/-- sentinel/sentinelkit.EqualInts -/
def a20 : AFunc := ⟨26,
  .seq (.region [⟨some 4, .mov (.c (.bool false)), none⟩])
  (.seq (.seq (.region [⟨some 6, .mov (.t 0), none⟩,
       ⟨some 7, .len (.t 6), none⟩,
       ⟨some 8, .mov (.t 1), none⟩,
       ⟨some 9, .len (.t 8), none⟩,
       ⟨some 10, .bin .neq (.t 7) (.t 9), none⟩])
    (.cond (.t 10)
     (.seq (.region [⟨some 4, .mov (.c (.bool false)), none⟩])
      (.ret))
     (.skip)))
   (.seq (.seq (.region [⟨some 5, .mov (.c (.int Go.IntKind.i64 0)), none⟩])
     (.block 0 (.loop a20l0s a20l0)))
    (.seq (.region [⟨some 4, .mov (.c (.bool true)), none⟩])
     (.ret)))),
  [.tmp 4]⟩

/-- sentinel/treedet.Renumber -/
def a21 : AFunc := ⟨13,
  .seq (.region [⟨some 1, .box (.t 0), none⟩,
     ⟨some 2, .box (.c (.agg [.int Go.IntKind.i64 0, .int Go.IntKind.i64 0, .sl true 0 [], .sl true 0 []])), none⟩,
     ⟨some 3, .mov (.c (.int Go.IntKind.i64 0)), none⟩])
  (.seq (.seq (.region [⟨some 5, .load true 4 (.t 1), none⟩,
       ⟨some 6, .call 14 [(.t 5)], none⟩,
       ⟨some 4, .mov (.t 6), none⟩])
    (.seq (.region [⟨some 7, .mov (.t 4), none⟩,
        ⟨some 8, .bin .neq (.t 7) (.c (.int Go.IntKind.i64 0)), none⟩])
     (.cond (.t 8)
      (.seq (.region [⟨some 9, .build [.int Go.IntKind.i64 0, .int Go.IntKind.i64 0, .sl true 0 [], .sl true 0 []] [], none⟩,
          ⟨some 10, .mov (.t 4), none⟩,
          ⟨none, .store 4 (.t 2) (.t 9), none⟩,
          ⟨some 3, .mov (.t 10), none⟩])
       (.ret))
      (.skip))))
   (.seq (.region [⟨some 11, .load true 4 (.t 1), none⟩,
       ⟨some 12, .call 56 [(.t 11)], none⟩,
       ⟨none, .store 4 (.t 2) (.t 12), none⟩,
       ⟨some 3, .mov (.c (.int Go.IntKind.i64 0)), none⟩])
    (.ret))),
  [.cell 2 true 4, .tmp 3]⟩

def a23l0b : ACode :=
  .seq (.seq (.region [⟨some 29, .mov (.t 9), none⟩,
      ⟨some 30, .bin .geq (.t 29) (.c (.int Go.IntKind.i64 0)), none⟩])
   (.cond (.t 30)
    (.skip)
    (.exit 0)))
  (.seq (.block 1 (.draw 5 [⟨some 33, .load false 1 (.t 8), none⟩,
       ⟨some 34, .load false 1 (.t 6), none⟩,
       ⟨some 35, .mov (.t 9), none⟩,
       ⟨some 36, .iaddr 1 (.t 34) (.t 35), none⟩,
       ⟨some 37, .load false 1 (.t 36), none⟩,
       ⟨some 38, .mov (.t 9), none⟩,
       ⟨some 39, .iaddr 1 (.t 33) (.t 37), none⟩,
       ⟨none, .store 1 (.t 39) (.t 38), none⟩]))
   (.region [⟨some 31, .mov (.t 9), none⟩,
      ⟨some 32, .bin .sub (.t 31) (.c (.int Go.IntKind.i64 1)), none⟩,
      ⟨some 9, .mov (.t 32), none⟩]))

def a23l0 : ACode := a23l0b
def a23l0s : List Nat := [0, 1, 3, 4, 10, 11, 12, 13, 14, 15, 16, 17, 18, 19, 20, 21, 22, 23, 24, 25, 26, 27, 28, 29, 30, 31, 32, 33, 34, 35, 36, 37, 38, 39, 40, 41, 42, 43, 44, 45, 46, 47, 48, 49, 50, 51, 52, 53]
abbrev a23l0F (s2 s5 s6 s7 s8 s9 : AV) : List AV := [.any, .any, s2, .any, .any, s5, s6, s7, s8, s9, .any, .any, .any, .any, .any, .any, .any, .any, .any, .any, .any, .any, .any, .any, .any, .any, .any, .any, .any, .any, .any, .any, .any, .any, .any, .any, .any, .any, .any, .any, .any, .any, .any, .any, .any, .any, .any, .any, .any, .any, .any, .any, .any, .any]
theorem a23l0c (s0 s1 s2 s3 s4 s5 s6 s7 s8 s9 s10 s11 s12 s13 s14 s15 s16 s17 s18 s19 s20 s21 s22 s23 s24 s25 s26 s27 s28 s29 s30 s31 s32 s33 s34 s35 s36 s37 s38 s39 s40 s41 s42 s43 s44 s45 s46 s47 s48 s49 s50 s51 s52 s53 : AV) : clearA a23l0s [s0, s1, s2, s3, s4, s5, s6, s7, s8, s9, s10, s11, s12, s13, s14, s15, s16, s17, s18, s19, s20, s21, s22, s23, s24, s25, s26, s27, s28, s29, s30, s31, s32, s33, s34, s35, s36, s37, s38, s39, s40, s41, s42, s43, s44, s45, s46, s47, s48, s49, s50, s51, s52, s53] = a23l0F s2 s5 s6 s7 s8 s9 := by kernel_rfl
theorem a23l0n {prog : Nat → Option AFunc} (s2 s5 s6 s7 s8 s9 : AV) (H : Heap) : (lim prog).loop a23l0s a23l0 ⟨a23l0F s2 s5 s6 s7 s8 s9, H⟩ = loopK (lim prog) a23l0s a23l0 (run (lim prog) a23l0b ⟨a23l0F s2 s5 s6 s7 s8 s9, H⟩) := lim_loop_step _ _ _ _ (by kernel_rfl)

/-- sentinel/treedet.Minimize -/
def a23 : AFunc := ⟨54,
  .seq (.region [⟨some 1, .box (.t 0), none⟩,
     ⟨some 2, .box (.c (.agg [.int Go.IntKind.i64 0, .int Go.IntKind.i64 0, .sl true 0 [], .sl true 0 []])), none⟩,
     ⟨some 3, .mov (.c (.int Go.IntKind.i64 0)), none⟩])
  (.seq (.seq (.region [⟨some 11, .load true 4 (.t 1), none⟩,
       ⟨some 12, .call 14 [(.t 11)], none⟩,
       ⟨some 4, .mov (.t 12), none⟩])
    (.seq (.region [⟨some 13, .mov (.t 4), none⟩,
        ⟨some 14, .bin .neq (.t 13) (.c (.int Go.IntKind.i64 0)), none⟩])
     (.cond (.t 14)
      (.seq (.region [⟨some 15, .build [.int Go.IntKind.i64 0, .int Go.IntKind.i64 0, .sl true 0 [], .sl true 0 []] [], none⟩,
          ⟨some 16, .mov (.t 4), none⟩,
          ⟨none, .store 4 (.t 2) (.t 15), none⟩,
          ⟨some 3, .mov (.t 16), none⟩])
       (.ret))
      (.skip))))
   (.seq (.region [⟨some 17, .load true 4 (.t 1), none⟩,
       ⟨some 18, .call 56 [(.t 17)], none⟩,
       ⟨some 5, .box (.c (.agg [.int Go.IntKind.i64 0, .int Go.IntKind.i64 0, .sl true 0 [], .sl true 0 []])), none⟩,
       ⟨none, .store 4 (.t 5) (.t 18), none⟩])
    (.seq (.region [⟨some 20, .load true 4 (.t 5), none⟩,
        ⟨some 21, .call 60 [(.t 20)], none⟩,
        ⟨some 19, .mov (.t 21), none⟩,
        ⟨some 22, .ext 0 (.t 19), none⟩,
        ⟨some 23, .ext 1 (.t 19), none⟩,
        ⟨some 6, .box (.c (.sl true 0 [])), none⟩,
        ⟨none, .store 1 (.t 6) (.t 22), none⟩,
        ⟨some 7, .mov (.t 23), none⟩])
     (.seq (.region [⟨some 24, .mov (.t 7), none⟩,
         ⟨some 25, .mkslice false [.int Go.IntKind.i64 0] 8 (.t 24) (.t 24), none⟩,
         ⟨some 8, .box (.c (.sl true 0 [])), none⟩,
         ⟨none, .store 1 (.t 8) (.t 25), none⟩])
      (.seq (.seq (.region [⟨some 26, .load false 1 (.t 6), none⟩,
           ⟨some 27, .len (.t 26), none⟩,
           ⟨some 28, .bin .sub (.t 27) (.c (.int Go.IntKind.i64 1)), none⟩,
           ⟨some 9, .mov (.t 28), none⟩])
        (.block 0 (.loop a23l0s a23l0)))
       (.seq (.region [⟨some 40, .faddr 0 (.t 5), none⟩,
           ⟨some 41, .load false 1 (.t 40), none⟩,
           ⟨some 42, .mov (.t 7), none⟩,
           ⟨some 43, .mkfunc 62 [(.t 6), (.t 5), (.t 8)], none⟩,
           ⟨some 44, .mkfunc 63 [(.t 5), (.t 8)], none⟩,
           ⟨some 45, .icall (.c (.func 61 [])) [(.t 41), (.t 42), (.t 43), (.t 44)], none⟩,
           ⟨some 10, .box (.c (.agg [.int Go.IntKind.i64 0, .int Go.IntKind.i64 0, .sl true 0 [], .sl true 0 []])), none⟩,
           ⟨none, .store 4 (.t 10) (.t 45), none⟩])
        (.seq (.region [⟨some 46, .load false 1 (.t 6), none⟩,
            ⟨some 47, .faddr 1 (.t 5), none⟩,
            ⟨some 48, .load false 1 (.t 47), none⟩,
            ⟨some 49, .iaddr 1 (.t 46) (.t 48), none⟩,
            ⟨some 50, .load false 1 (.t 49), none⟩,
            ⟨some 51, .faddr 1 (.t 10), none⟩,
            ⟨none, .store 1 (.t 51) (.t 50), none⟩])
         (.seq (.region [⟨some 52, .load true 4 (.t 10), none⟩,
             ⟨some 53, .call 56 [(.t 52)], none⟩,
             ⟨none, .store 4 (.t 2) (.t 53), none⟩,
             ⟨some 3, .mov (.c (.int Go.IntKind.i64 0)), none⟩])
          (.ret))))))))),
  [.cell 2 true 4, .tmp 3]⟩

/-- sentinel/treedet.Classes -/
def a25 : AFunc := ⟨18,
  .seq (.region [⟨some 1, .box (.t 0), none⟩,
     ⟨some 2, .mov (.c (.sl true 0 [])), none⟩,
     ⟨some 3, .mov (.c (.int Go.IntKind.i64 0)), none⟩])
  (.seq (.seq (.region [⟨some 7, .load true 4 (.t 1), none⟩,
       ⟨some 8, .call 14 [(.t 7)], none⟩,
       ⟨some 4, .mov (.t 8), none⟩])
    (.seq (.region [⟨some 9, .mov (.t 4), none⟩,
        ⟨some 10, .bin .neq (.t 9) (.c (.int Go.IntKind.i64 0)), none⟩])
     (.cond (.t 10)
      (.seq (.region [⟨some 11, .mov (.t 4), none⟩,
          ⟨some 2, .mov (.c (.sl true 0 [])), none⟩,
          ⟨some 3, .mov (.t 11), none⟩])
       (.ret))
      (.skip))))
   (.seq (.region [⟨some 13, .load true 4 (.t 1), none⟩,
       ⟨some 14, .call 60 [(.t 13)], none⟩,
       ⟨some 12, .mov (.t 14), none⟩,
       ⟨some 15, .ext 0 (.t 12), none⟩,
       ⟨some 16, .ext 1 (.t 12), none⟩,
       ⟨some 5, .mov (.t 15), none⟩,
       ⟨some 6, .mov (.t 16), none⟩])
    (.seq (.region [⟨some 17, .mov (.t 5), none⟩,
        ⟨some 2, .mov (.t 17), none⟩,
        ⟨some 3, .mov (.c (.int Go.IntKind.i64 0)), none⟩])
     (.ret)))),
  [.tmp 2, .tmp 3]⟩

def a27l0b : ACode :=
  .seq (.region [⟨some 69, .bin .lss (.t 68) (.t 67), none⟩])
  (.seq (.cond (.t 69)
    (.skip)
    (.exit 4))
   (.seq (.block 5 (.seq (.region [⟨some 70, .mov (.t 68), none⟩,
         ⟨some 71, .iaddr 1 (.t 66) (.t 68), none⟩,
         ⟨some 72, .load false 1 (.t 71), none⟩,
         ⟨some 12, .mov (.t 70), none⟩,
         ⟨some 13, .mov (.t 72), none⟩])
      (.region [⟨some 73, .faddr 4 (.t 7), none⟩,
         ⟨some 74, .load false 1 (.t 73), none⟩,
         ⟨some 75, .mov (.t 8), none⟩,
         ⟨some 76, .mov (.t 10), none⟩,
         ⟨some 77, .mov (.t 13), none⟩,
         ⟨some 78, .mov (.t 12), none⟩,
         ⟨some 79, .conv Go.IntKind.u8 (.t 78), none⟩,
         ⟨some 80, .mov (.t 6), none⟩,
         ⟨some 81, .bin .sub (.t 80) (.c (.int Go.IntKind.i64 1)), none⟩,
         ⟨some 82, .mov (.t 12), none⟩,
         ⟨some 83, .bin .sub (.t 81) (.t 82), none⟩,
         ⟨some 84, .conv Go.IntKind.u8 (.t 83), none⟩,
         ⟨some 85, .build [.int Go.IntKind.i64 0, .int Go.IntKind.i64 0, .int Go.IntKind.i64 0, .int Go.IntKind.u8 0, .int Go.IntKind.u8 0] [(0, 1, (.t 75)), (1, 1, (.t 76)), (2, 1, (.t 77)), (3, 1, (.t 79)), (4, 1, (.t 84))], none⟩,
         ⟨some 86, .bslice true [.int Go.IntKind.i64 0, .int Go.IntKind.i64 0, .int Go.IntKind.i64 0, .int Go.IntKind.u8 0, .int Go.IntKind.u8 0] 5 1 [(0, (.t 85))], none⟩,
         ⟨some 87, .append false 5 32 (.t 74) (.t 86), none⟩,
         ⟨some 88, .faddr 4 (.t 7), none⟩,
         ⟨none, .store 1 (.t 88) (.t 87), none⟩])))
    (.region [⟨some 89, .bin .add (.t 68) (.c (.int Go.IntKind.i64 1)), none⟩,
       ⟨some 68, .mov (.t 89), none⟩])))

def a27l0 : ACode := a27l0b
def a27l0s : List Nat := [0, 3, 4, 5, 9, 11, 12, 13, 14, 15, 16, 17, 18, 19, 20, 21, 22, 23, 24, 25, 26, 27, 28, 29, 30, 31, 32, 33, 34, 35, 36, 37, 38, 39, 40, 44, 45, 46, 47, 48, 49, 50, 51, 52, 53, 54, 55, 56, 57, 58, 62, 63, 64, 65, 69, 70, 71, 72, 73, 74, 75, 76, 77, 78, 79, 80, 81, 82, 83, 84, 85, 86, 87, 88, 89, 90, 91, 92]
abbrev a27l0F (s1 s2 s6 s7 s8 s10 s41 s42 s43 s59 s60 s61 s66 s67 s68 : AV) : List AV := [.any, s1, s2, .any, .any, .any, s6, s7, s8, .any, s10, .any, .any, .any, .any, .any, .any, .any, .any, .any, .any, .any, .any, .any, .any, .any, .any, .any, .any, .any, .any, .any, .any, .any, .any, .any, .any, .any, .any, .any, .any, s41, s42, s43, .any, .any, .any, .any, .any, .any, .any, .any, .any, .any, .any, .any, .any, .any, .any, s59, s60, s61, .any, .any, .any, .any, s66, s67, s68, .any, .any, .any, .any, .any, .any, .any, .any, .any, .any, .any, .any, .any, .any, .any, .any, .any, .any, .any, .any, .any, .any, .any, .any]
theorem a27l0c (s0 s1 s2 s3 s4 s5 s6 s7 s8 s9 s10 s11 s12 s13 s14 s15 s16 s17 s18 s19 s20 s21 s22 s23 s24 s25 s26 s27 s28 s29 s30 s31 s32 s33 s34 s35 s36 s37 s38 s39 s40 s41 s42 s43 s44 s45 s46 s47 s48 s49 s50 s51 s52 s53 s54 s55 s56 s57 s58 s59 s60 s61 s62 s63 s64 s65 s66 s67 s68 s69 s70 s71 s72 s73 s74 s75 s76 s77 s78 s79 s80 s81 s82 s83 s84 s85 s86 s87 s88 s89 s90 s91 s92 : AV) : clearA a27l0s [s0, s1, s2, s3, s4, s5, s6, s7, s8, s9, s10, s11, s12, s13, s14, s15, s16, s17, s18, s19, s20, s21, s22, s23, s24, s25, s26, s27, s28, s29, s30, s31, s32, s33, s34, s35, s36, s37, s38, s39, s40, s41, s42, s43, s44, s45, s46, s47, s48, s49, s50, s51, s52, s53, s54, s55, s56, s57, s58, s59, s60, s61, s62, s63, s64, s65, s66, s67, s68, s69, s70, s71, s72, s73, s74, s75, s76, s77, s78, s79, s80, s81, s82, s83, s84, s85, s86, s87, s88, s89, s90, s91, s92] = a27l0F s1 s2 s6 s7 s8 s10 s41 s42 s43 s59 s60 s61 s66 s67 s68 := by kernel_rfl
theorem a27l0n {prog : Nat → Option AFunc} (s1 s2 s6 s7 s8 s10 s41 s42 s43 s59 s60 s61 s66 s67 s68 : AV) (H : Heap) : (lim prog).loop a27l0s a27l0 ⟨a27l0F s1 s2 s6 s7 s8 s10 s41 s42 s43 s59 s60 s61 s66 s67 s68, H⟩ = loopK (lim prog) a27l0s a27l0 (run (lim prog) a27l0b ⟨a27l0F s1 s2 s6 s7 s8 s10 s41 s42 s43 s59 s60 s61 s66 s67 s68, H⟩) := lim_loop_step _ _ _ _ (by kernel_rfl)

def a27l1b : ACode :=
  .seq (.region [⟨some 62, .bin .lss (.t 61) (.t 60), none⟩])
  (.seq (.cond (.t 62)
    (.skip)
    (.exit 2))
   (.seq (.block 3 (.seq (.region [⟨some 63, .mov (.t 61), none⟩,
         ⟨some 64, .iaddr 1 (.t 59) (.t 61), none⟩,
         ⟨some 65, .load false 1 (.t 64), none⟩,
         ⟨some 10, .mov (.t 63), none⟩,
         ⟨some 11, .mov (.t 65), none⟩])
      (.seq (.region [⟨some 66, .mov (.t 11), none⟩,
          ⟨some 67, .len (.t 66), none⟩,
          ⟨some 68, .mov (.c (.int Go.IntKind.i64 0)), none⟩])
       (.block 4 (.loop a27l0s a27l0)))))
    (.region [⟨some 90, .bin .add (.t 61) (.c (.int Go.IntKind.i64 1)), none⟩,
       ⟨some 61, .mov (.t 90), none⟩])))

def a27l1 : ACode := a27l1b
def a27l1s : List Nat := [0, 3, 4, 5, 9, 10, 11, 12, 13, 14, 15, 16, 17, 18, 19, 20, 21, 22, 23, 24, 25, 26, 27, 28, 29, 30, 31, 32, 33, 34, 35, 36, 37, 38, 39, 40, 44, 45, 46, 47, 48, 49, 50, 51, 52, 53, 54, 55, 56, 57, 58, 62, 63, 64, 65, 66, 67, 68, 69, 70, 71, 72, 73, 74, 75, 76, 77, 78, 79, 80, 81, 82, 83, 84, 85, 86, 87, 88, 89, 90, 91, 92]
abbrev a27l1F (s1 s2 s6 s7 s8 s41 s42 s43 s59 s60 s61 : AV) : List AV := [.any, s1, s2, .any, .any, .any, s6, s7, s8, .any, .any, .any, .any, .any, .any, .any, .any, .any, .any, .any, .any, .any, .any, .any, .any, .any, .any, .any, .any, .any, .any, .any, .any, .any, .any, .any, .any, .any, .any, .any, .any, s41, s42, s43, .any, .any, .any, .any, .any, .any, .any, .any, .any, .any, .any, .any, .any, .any, .any, s59, s60, s61, .any, .any, .any, .any, .any, .any, .any, .any, .any, .any, .any, .any, .any, .any, .any, .any, .any, .any, .any, .any, .any, .any, .any, .any, .any, .any, .any, .any, .any, .any, .any]
theorem a27l1c (s0 s1 s2 s3 s4 s5 s6 s7 s8 s9 s10 s11 s12 s13 s14 s15 s16 s17 s18 s19 s20 s21 s22 s23 s24 s25 s26 s27 s28 s29 s30 s31 s32 s33 s34 s35 s36 s37 s38 s39 s40 s41 s42 s43 s44 s45 s46 s47 s48 s49 s50 s51 s52 s53 s54 s55 s56 s57 s58 s59 s60 s61 s62 s63 s64 s65 s66 s67 s68 s69 s70 s71 s72 s73 s74 s75 s76 s77 s78 s79 s80 s81 s82 s83 s84 s85 s86 s87 s88 s89 s90 s91 s92 : AV) : clearA a27l1s [s0, s1, s2, s3, s4, s5, s6, s7, s8, s9, s10, s11, s12, s13, s14, s15, s16, s17, s18, s19, s20, s21, s22, s23, s24, s25, s26, s27, s28, s29, s30, s31, s32, s33, s34, s35, s36, s37, s38, s39, s40, s41, s42, s43, s44, s45, s46, s47, s48, s49, s50, s51, s52, s53, s54, s55, s56, s57, s58, s59, s60, s61, s62, s63, s64, s65, s66, s67, s68, s69, s70, s71, s72, s73, s74, s75, s76, s77, s78, s79, s80, s81, s82, s83, s84, s85, s86, s87, s88, s89, s90, s91, s92] = a27l1F s1 s2 s6 s7 s8 s41 s42 s43 s59 s60 s61 := by kernel_rfl
theorem a27l1n {prog : Nat → Option AFunc} (s1 s2 s6 s7 s8 s41 s42 s43 s59 s60 s61 : AV) (H : Heap) : (lim prog).loop a27l1s a27l1 ⟨a27l1F s1 s2 s6 s7 s8 s41 s42 s43 s59 s60 s61, H⟩ = loopK (lim prog) a27l1s a27l1 (run (lim prog) a27l1b ⟨a27l1F s1 s2 s6 s7 s8 s41 s42 s43 s59 s60 s61, H⟩) := lim_loop_step _ _ _ _ (by kernel_rfl)

def a27l2b : ACode :=
  .seq (.region [⟨some 44, .bin .lss (.t 43) (.t 42), none⟩])
  (.seq (.cond (.t 44)
    (.skip)
    (.exit 0))
   (.seq (.block 1 (.seq (.region [⟨some 45, .mov (.t 43), none⟩,
         ⟨some 46, .iaddr 1 (.t 41) (.t 43), none⟩,
         ⟨some 47, .load false 1 (.t 46), none⟩,
         ⟨some 8, .mov (.t 45), none⟩,
         ⟨some 9, .mov (.t 47), none⟩])
      (.seq (.seq (.region [⟨some 48, .faddr 3 (.t 1), none⟩,
           ⟨some 49, .load false 1 (.t 48), none⟩,
           ⟨some 50, .mov (.t 8), none⟩,
           ⟨some 51, .iaddr 1 (.t 49) (.t 50), none⟩,
           ⟨some 52, .load false 1 (.t 51), none⟩])
        (.cond (.t 52)
         (.region [⟨some 53, .faddr 3 (.t 7), none⟩,
            ⟨some 54, .load false 1 (.t 53), none⟩,
            ⟨some 55, .mov (.t 8), none⟩,
            ⟨some 56, .bslice true [.int Go.IntKind.i64 0] 1 1 [(0, (.t 55))], none⟩,
            ⟨some 57, .append false 1 8 (.t 54) (.t 56), none⟩,
            ⟨some 58, .faddr 3 (.t 7), none⟩,
            ⟨none, .store 1 (.t 58) (.t 57), none⟩])
         (.skip)))
       (.seq (.region [⟨some 59, .mov (.t 9), none⟩,
           ⟨some 60, .len (.t 59), none⟩,
           ⟨some 61, .mov (.c (.int Go.IntKind.i64 0)), none⟩])
        (.block 2 (.loop a27l1s a27l1))))))
    (.region [⟨some 91, .bin .add (.t 43) (.c (.int Go.IntKind.i64 1)), none⟩,
       ⟨some 43, .mov (.t 91), none⟩])))

def a27l2 : ACode := a27l2b
def a27l2s : List Nat := [0, 3, 4, 5, 8, 9, 10, 11, 12, 13, 14, 15, 16, 17, 18, 19, 20, 21, 22, 23, 24, 25, 26, 27, 28, 29, 30, 31, 32, 33, 34, 35, 36, 37, 38, 39, 40, 44, 45, 46, 47, 48, 49, 50, 51, 52, 53, 54, 55, 56, 57, 58, 59, 60, 61, 62, 63, 64, 65, 66, 67, 68, 69, 70, 71, 72, 73, 74, 75, 76, 77, 78, 79, 80, 81, 82, 83, 84, 85, 86, 87, 88, 89, 90, 91, 92]
abbrev a27l2F (s1 s2 s6 s7 s41 s42 s43 : AV) : List AV := [.any, s1, s2, .any, .any, .any, s6, s7, .any, .any, .any, .any, .any, .any, .any, .any, .any, .any, .any, .any, .any, .any, .any, .any, .any, .any, .any, .any, .any, .any, .any, .any, .any, .any, .any, .any, .any, .any, .any, .any, .any, s41, s42, s43, .any, .any, .any, .any, .any, .any, .any, .any, .any, .any, .any, .any, .any, .any, .any, .any, .any, .any, .any, .any, .any, .any, .any, .any, .any, .any, .any, .any, .any, .any, .any, .any, .any, .any, .any, .any, .any, .any, .any, .any, .any, .any, .any, .any, .any, .any, .any, .any, .any]
theorem a27l2c (s0 s1 s2 s3 s4 s5 s6 s7 s8 s9 s10 s11 s12 s13 s14 s15 s16 s17 s18 s19 s20 s21 s22 s23 s24 s25 s26 s27 s28 s29 s30 s31 s32 s33 s34 s35 s36 s37 s38 s39 s40 s41 s42 s43 s44 s45 s46 s47 s48 s49 s50 s51 s52 s53 s54 s55 s56 s57 s58 s59 s60 s61 s62 s63 s64 s65 s66 s67 s68 s69 s70 s71 s72 s73 s74 s75 s76 s77 s78 s79 s80 s81 s82 s83 s84 s85 s86 s87 s88 s89 s90 s91 s92 : AV) : clearA a27l2s [s0, s1, s2, s3, s4, s5, s6, s7, s8, s9, s10, s11, s12, s13, s14, s15, s16, s17, s18, s19, s20, s21, s22, s23, s24, s25, s26, s27, s28, s29, s30, s31, s32, s33, s34, s35, s36, s37, s38, s39, s40, s41, s42, s43, s44, s45, s46, s47, s48, s49, s50, s51, s52, s53, s54, s55, s56, s57, s58, s59, s60, s61, s62, s63, s64, s65, s66, s67, s68, s69, s70, s71, s72, s73, s74, s75, s76, s77, s78, s79, s80, s81, s82, s83, s84, s85, s86, s87, s88, s89, s90, s91, s92] = a27l2F s1 s2 s6 s7 s41 s42 s43 := by kernel_rfl
theorem a27l2n {prog : Nat → Option AFunc} (s1 s2 s6 s7 s41 s42 s43 : AV) (H : Heap) : (lim prog).loop a27l2s a27l2 ⟨a27l2F s1 s2 s6 s7 s41 s42 s43, H⟩ = loopK (lim prog) a27l2s a27l2 (run (lim prog) a27l2b ⟨a27l2F s1 s2 s6 s7 s41 s42 s43, H⟩) := lim_loop_step _ _ _ _ (by kernel_rfl)

/-- sentinel/treedet.ToNFA -/
def a27 : AFunc := ⟨93,
  .seq (.region [⟨some 1, .box (.t 0), none⟩,
     ⟨some 2, .box (.c (.agg [.int Go.IntKind.i64 0, .int Go.IntKind.i64 0, .sl true 0 [], .sl true 0 [], .sl true 0 []])), none⟩,
     ⟨some 3, .mov (.c (.int Go.IntKind.i64 0)), none⟩])
  (.seq (.seq (.region [⟨some 14, .load true 4 (.t 1), none⟩,
       ⟨some 15, .call 14 [(.t 14)], none⟩,
       ⟨some 4, .mov (.t 15), none⟩])
    (.seq (.region [⟨some 16, .mov (.t 4), none⟩,
        ⟨some 17, .bin .neq (.t 16) (.c (.int Go.IntKind.i64 0)), none⟩])
     (.cond (.t 17)
      (.seq (.region [⟨some 18, .build [.int Go.IntKind.i64 0, .int Go.IntKind.i64 0, .sl true 0 [], .sl true 0 [], .sl true 0 []] [], none⟩,
          ⟨some 19, .mov (.t 4), none⟩,
          ⟨none, .store 5 (.t 2) (.t 18), none⟩,
          ⟨some 3, .mov (.t 19), none⟩])
       (.ret))
      (.skip))))
   (.seq (.draw 6 [⟨some 20, .faddr 2 (.t 1), none⟩,
       ⟨some 21, .load false 1 (.t 20), none⟩,
       ⟨some 22, .len (.t 21), none⟩,
       ⟨some 23, .faddr 0 (.t 1), none⟩,
       ⟨some 24, .load false 1 (.t 23), none⟩,
       ⟨some 25, .bin .shl (.c (.int Go.IntKind.i64 1)) (.t 24), none⟩,
       ⟨some 5, .mov (.t 22), none⟩,
       ⟨some 6, .mov (.t 25), none⟩])
    (.seq (.seq (.region [⟨some 26, .mov (.t 5), none⟩,
         ⟨some 27, .mov (.t 5), none⟩,
         ⟨some 28, .bin .mul (.t 26) (.t 27), none⟩,
         ⟨some 29, .mov (.t 6), none⟩,
         ⟨some 30, .bin .mul (.t 28) (.t 29), none⟩,
         ⟨some 31, .bin .gtr (.t 30) (.c (.int Go.IntKind.i64 512)), none⟩])
      (.cond (.t 31)
       (.seq (.region [⟨some 32, .build [.int Go.IntKind.i64 0, .int Go.IntKind.i64 0, .sl true 0 [], .sl true 0 [], .sl true 0 []] [], none⟩,
           ⟨none, .store 5 (.t 2) (.t 32), none⟩,
           ⟨some 3, .mov (.c (.int Go.IntKind.i64 4)), none⟩])
        (.ret))
       (.skip)))
     (.seq (.region [⟨some 33, .faddr 0 (.t 1), none⟩,
         ⟨some 34, .load false 1 (.t 33), none⟩,
         ⟨some 35, .mov (.t 5), none⟩,
         ⟨some 36, .faddr 1 (.t 1), none⟩,
         ⟨some 37, .load false 1 (.t 36), none⟩,
         ⟨some 38, .bslice true [.int Go.IntKind.i64 0] 1 1 [(0, (.t 37))], none⟩,
         ⟨some 39, .build [.int Go.IntKind.i64 0, .int Go.IntKind.i64 0, .sl true 0 [], .sl true 0 [], .sl true 0 []] [(0, 1, (.t 34)), (1, 1, (.t 35)), (2, 1, (.t 38))], none⟩,
         ⟨some 7, .box (.c (.agg [.int Go.IntKind.i64 0, .int Go.IntKind.i64 0, .sl true 0 [], .sl true 0 [], .sl true 0 []])), none⟩,
         ⟨none, .store 5 (.t 7) (.t 39), none⟩])
      (.seq (.seq (.region [⟨some 40, .faddr 2 (.t 1), none⟩,
           ⟨some 41, .load false 1 (.t 40), none⟩,
           ⟨some 42, .len (.t 41), none⟩,
           ⟨some 43, .mov (.c (.int Go.IntKind.i64 0)), none⟩])
        (.block 0 (.loop a27l2s a27l2)))
       (.seq (.region [⟨some 92, .load true 5 (.t 7), none⟩,
           ⟨none, .store 5 (.t 2) (.t 92), none⟩,
           ⟨some 3, .mov (.c (.int Go.IntKind.i64 0)), none⟩])
        (.ret))))))),
  [.cell 2 true 5, .tmp 3]⟩

/-- sentinel/sentinelkit.EqualTreeDFA -/
def a29 : AFunc := ⟨31,
  .seq (.region [⟨some 2, .box (.t 0), none⟩,
     ⟨some 3, .box (.t 1), none⟩,
     ⟨some 4, .mov (.c (.bool false)), none⟩])
  (.seq (.region [⟨some 5, .faddr 0 (.t 2), none⟩,
      ⟨some 6, .load false 1 (.t 5), none⟩,
      ⟨some 7, .faddr 0 (.t 3), none⟩,
      ⟨some 8, .load false 1 (.t 7), none⟩,
      ⟨some 9, .bin .eql (.t 6) (.t 8), none⟩,
      ⟨some 10, .mov (.t 9), none⟩,
      ⟨some 11, .faddr 1 (.t 2), some (10, true)⟩,
      ⟨some 12, .load false 1 (.t 11), some (10, true)⟩,
      ⟨some 13, .faddr 1 (.t 3), some (10, true)⟩,
      ⟨some 14, .load false 1 (.t 13), some (10, true)⟩,
      ⟨some 15, .bin .eql (.t 12) (.t 14), some (10, true)⟩,
      ⟨some 16, .pick (.t 10) (.t 15) (.c (.bool false)), none⟩,
      ⟨some 17, .mov (.t 16), none⟩,
      ⟨some 18, .faddr 2 (.t 2), some (17, true)⟩,
      ⟨some 19, .load false 1 (.t 18), some (17, true)⟩,
      ⟨some 20, .faddr 2 (.t 3), some (17, true)⟩,
      ⟨some 21, .load false 1 (.t 20), some (17, true)⟩,
      ⟨some 22, .call 66 [(.t 19), (.t 21)], some (17, true)⟩,
      ⟨some 23, .pick (.t 17) (.t 22) (.c (.bool false)), none⟩,
      ⟨some 24, .mov (.t 23), none⟩,
      ⟨some 25, .faddr 3 (.t 2), some (24, true)⟩,
      ⟨some 26, .load false 1 (.t 25), some (24, true)⟩,
      ⟨some 27, .faddr 3 (.t 3), some (24, true)⟩,
      ⟨some 28, .load false 1 (.t 27), some (24, true)⟩,
      ⟨some 29, .call 67 [(.t 26), (.t 28)], some (24, true)⟩,
      ⟨some 30, .pick (.t 24) (.t 29) (.c (.bool false)), none⟩,
      ⟨some 4, .mov (.t 30), none⟩])
   (.ret)),
  [.tmp 4]⟩

/-- sentinel/sentinellaw19.awake -/
def a35 : AFunc := ⟨211,
  .seq (.region [⟨some 0, .mov (.c (.bool false)), none⟩])
  (.seq (.region [⟨some 28, .call 41 [], none⟩,
      ⟨some 1, .box (.c (.agg [.int Go.IntKind.i64 0, .int Go.IntKind.i64 0, .sl true 0 [], .sl true 0 []])), none⟩,
      ⟨none, .store 4 (.t 1) (.t 28), none⟩])
   (.seq (.region [⟨some 29, .build [.int Go.IntKind.u8 0, .int Go.IntKind.i64 0, .int Go.IntKind.i64 0] [(0, 1, (.c (.int Go.IntKind.u8 1))), (1, 1, (.c (.int Go.IntKind.i64 (-1)))), (2, 1, (.c (.int Go.IntKind.i64 (-1))))], none⟩,
       ⟨some 30, .bslice true [.int Go.IntKind.u8 0, .int Go.IntKind.i64 0, .int Go.IntKind.i64 0] 3 1 [(0, (.t 29))], none⟩,
       ⟨some 2, .mov (.t 30), none⟩])
    (.seq (.region [⟨some 32, .load true 4 (.t 1), none⟩,
        ⟨some 33, .build [.int Go.IntKind.u8 0, .int Go.IntKind.i64 0, .int Go.IntKind.i64 0] [(1, 1, (.c (.int Go.IntKind.i64 1))), (2, 1, (.c (.int Go.IntKind.i64 2)))], none⟩,
        ⟨some 34, .build [.int Go.IntKind.u8 0, .int Go.IntKind.i64 0, .int Go.IntKind.i64 0] [(0, 1, (.c (.int Go.IntKind.u8 1))), (1, 1, (.c (.int Go.IntKind.i64 (-1)))), (2, 1, (.c (.int Go.IntKind.i64 (-1))))], none⟩,
        ⟨some 35, .build [.int Go.IntKind.u8 0, .int Go.IntKind.i64 0, .int Go.IntKind.i64 0] [(1, 1, (.c (.int Go.IntKind.i64 (-1)))), (2, 1, (.c (.int Go.IntKind.i64 (-1))))], none⟩,
        ⟨some 36, .bslice true [.int Go.IntKind.u8 0, .int Go.IntKind.i64 0, .int Go.IntKind.i64 0] 3 3 [(0, (.t 33)), (1, (.t 34)), (2, (.t 35))], none⟩,
        ⟨some 37, .call 16 [(.t 32), (.t 36)], none⟩,
        ⟨some 31, .mov (.t 37), none⟩,
        ⟨some 38, .ext 0 (.t 31), none⟩,
        ⟨some 39, .ext 1 (.t 31), none⟩,
        ⟨some 3, .mov (.t 38), none⟩,
        ⟨some 4, .mov (.t 39), none⟩])
     (.seq (.region [⟨some 41, .load true 4 (.t 1), none⟩,
         ⟨some 42, .call 18 [(.t 41), (.c (.sl true 0 []))], none⟩,
         ⟨some 40, .mov (.t 42), none⟩,
         ⟨some 43, .ext 0 (.t 40), none⟩,
         ⟨some 44, .ext 1 (.t 40), none⟩,
         ⟨some 5, .mov (.t 43), none⟩,
         ⟨some 6, .mov (.t 44), none⟩])
      (.seq (.region [⟨some 46, .load true 4 (.t 1), none⟩,
          ⟨some 47, .mov (.t 2), none⟩,
          ⟨some 48, .call 18 [(.t 46), (.t 47)], none⟩,
          ⟨some 45, .mov (.t 48), none⟩,
          ⟨some 49, .ext 0 (.t 45), none⟩,
          ⟨some 50, .ext 1 (.t 45), none⟩,
          ⟨some 7, .mov (.t 49), none⟩,
          ⟨some 8, .mov (.t 50), none⟩])
       (.seq (.region [⟨some 52, .load true 4 (.t 1), none⟩,
           ⟨some 53, .call 25 [(.t 52)], none⟩,
           ⟨some 51, .mov (.t 53), none⟩,
           ⟨some 54, .ext 0 (.t 51), none⟩,
           ⟨some 55, .ext 1 (.t 51), none⟩,
           ⟨some 9, .mov (.t 54), none⟩,
           ⟨some 10, .mov (.t 55), none⟩])
        (.seq (.region [⟨some 56, .bslice true [.bool false] 1 2 [(0, (.c (.bool false))), (1, (.c (.bool true)))], none⟩,
            ⟨some 57, .bslice true [.int Go.IntKind.i64 0] 1 2 [(0, (.c (.int Go.IntKind.i64 0))), (1, (.c (.int Go.IntKind.i64 1)))], none⟩,
            ⟨some 58, .bslice true [.int Go.IntKind.i64 0] 1 2 [(0, (.c (.int Go.IntKind.i64 1))), (1, (.c (.int Go.IntKind.i64 1)))], none⟩,
            ⟨some 59, .bslice true [.sl true 0 []] 1 2 [(0, (.t 57)), (1, (.t 58))], none⟩,
            ⟨some 60, .bslice true [.int Go.IntKind.i64 0] 1 2 [(0, (.c (.int Go.IntKind.i64 1))), (1, (.c (.int Go.IntKind.i64 1)))], none⟩,
            ⟨some 61, .bslice true [.int Go.IntKind.i64 0] 1 2 [(0, (.c (.int Go.IntKind.i64 1))), (1, (.c (.int Go.IntKind.i64 1)))], none⟩,
            ⟨some 62, .bslice true [.sl true 0 []] 1 2 [(0, (.t 60)), (1, (.t 61))], none⟩,
            ⟨some 63, .bslice true [.sl true 0 []] 1 2 [(0, (.t 59)), (1, (.t 62))], none⟩,
            ⟨some 64, .build [.int Go.IntKind.i64 0, .int Go.IntKind.i64 0, .sl true 0 [], .sl true 0 []] [(0, 1, (.c (.int Go.IntKind.i64 1))), (3, 1, (.t 56)), (2, 1, (.t 63))], none⟩,
            ⟨some 11, .box (.c (.agg [.int Go.IntKind.i64 0, .int Go.IntKind.i64 0, .sl true 0 [], .sl true 0 []])), none⟩,
            ⟨none, .store 4 (.t 11) (.t 64), none⟩])
         (.seq (.region [⟨some 66, .load true 4 (.t 1), none⟩,
             ⟨some 67, .call 21 [(.t 66)], none⟩,
             ⟨some 65, .mov (.t 67), none⟩,
             ⟨some 68, .ext 0 (.t 65), none⟩,
             ⟨some 69, .ext 1 (.t 65), none⟩,
             ⟨some 12, .box (.c (.agg [.int Go.IntKind.i64 0, .int Go.IntKind.i64 0, .sl true 0 [], .sl true 0 []])), none⟩,
             ⟨none, .store 4 (.t 12) (.t 68), none⟩,
             ⟨some 13, .mov (.t 69), none⟩])
          (.seq (.region [⟨some 71, .load true 4 (.t 1), none⟩,
              ⟨some 72, .call 23 [(.t 71)], none⟩,
              ⟨some 70, .mov (.t 72), none⟩,
              ⟨some 73, .ext 0 (.t 70), none⟩,
              ⟨some 74, .ext 1 (.t 70), none⟩,
              ⟨some 14, .box (.c (.agg [.int Go.IntKind.i64 0, .int Go.IntKind.i64 0, .sl true 0 [], .sl true 0 []])), none⟩,
              ⟨none, .store 4 (.t 14) (.t 73), none⟩,
              ⟨some 15, .mov (.t 74), none⟩])
           (.seq (.seq (.region [⟨some 75, .mov (.t 3), none⟩,
                ⟨some 76, .bslice true [.int Go.IntKind.i64 0] 1 3 [(0, (.c (.int Go.IntKind.i64 1))), (1, (.c (.int Go.IntKind.i64 1))), (2, (.c (.int Go.IntKind.i64 0)))], none⟩,
                ⟨some 77, .call 20 [(.t 75), (.t 76)], none⟩,
                ⟨some 78, .un .not (.t 77), none⟩,
                ⟨some 79, .mov (.t 78), none⟩,
                ⟨some 80, .mov (.t 4), some (79, false)⟩,
                ⟨some 81, .bin .neq (.t 80) (.c (.int Go.IntKind.i64 0)), some (79, false)⟩,
                ⟨some 82, .pick (.t 79) (.c (.bool true)) (.t 81), none⟩,
                ⟨some 83, .mov (.t 82), none⟩,
                ⟨some 84, .mov (.t 5), some (83, false)⟩,
                ⟨some 85, .pick (.t 83) (.c (.bool true)) (.t 84), none⟩,
                ⟨some 86, .mov (.t 85), none⟩,
                ⟨some 87, .mov (.t 6), some (86, false)⟩,
                ⟨some 88, .bin .neq (.t 87) (.c (.int Go.IntKind.i64 0)), some (86, false)⟩,
                ⟨some 89, .pick (.t 86) (.c (.bool true)) (.t 88), none⟩,
                ⟨some 90, .mov (.t 89), none⟩,
                ⟨some 91, .mov (.t 7), some (90, false)⟩,
                ⟨some 92, .un .not (.t 91), some (90, false)⟩,
                ⟨some 93, .pick (.t 90) (.c (.bool true)) (.t 92), none⟩,
                ⟨some 94, .mov (.t 93), none⟩,
                ⟨some 95, .mov (.t 8), some (94, false)⟩,
                ⟨some 96, .bin .neq (.t 95) (.c (.int Go.IntKind.i64 0)), some (94, false)⟩,
                ⟨some 97, .pick (.t 94) (.c (.bool true)) (.t 96), none⟩,
                ⟨some 98, .mov (.t 97), none⟩,
                ⟨some 99, .mov (.t 9), some (98, false)⟩,
                ⟨some 100, .bslice true [.int Go.IntKind.i64 0] 1 3 [(0, (.c (.int Go.IntKind.i64 0))), (1, (.c (.int Go.IntKind.i64 1))), (2, (.c (.int Go.IntKind.i64 1)))], some (98, false)⟩,
                ⟨some 101, .call 20 [(.t 99), (.t 100)], some (98, false)⟩,
                ⟨some 102, .un .not (.t 101), some (98, false)⟩,
                ⟨some 103, .pick (.t 98) (.c (.bool true)) (.t 102), none⟩,
                ⟨some 104, .mov (.t 103), none⟩,
                ⟨some 105, .mov (.t 10), some (104, false)⟩,
                ⟨some 106, .bin .neq (.t 105) (.c (.int Go.IntKind.i64 0)), some (104, false)⟩,
                ⟨some 107, .pick (.t 104) (.c (.bool true)) (.t 106), none⟩,
                ⟨some 108, .mov (.t 107), none⟩,
                ⟨some 109, .load true 4 (.t 12), some (108, false)⟩,
                ⟨some 110, .load true 4 (.t 11), some (108, false)⟩,
                ⟨some 111, .call 29 [(.t 109), (.t 110)], some (108, false)⟩,
                ⟨some 112, .un .not (.t 111), some (108, false)⟩,
                ⟨some 113, .pick (.t 108) (.c (.bool true)) (.t 112), none⟩,
                ⟨some 114, .mov (.t 113), none⟩,
                ⟨some 115, .mov (.t 13), some (114, false)⟩,
                ⟨some 116, .bin .neq (.t 115) (.c (.int Go.IntKind.i64 0)), some (114, false)⟩,
                ⟨some 117, .pick (.t 114) (.c (.bool true)) (.t 116), none⟩,
                ⟨some 118, .mov (.t 117), none⟩,
                ⟨some 119, .load true 4 (.t 14), some (118, false)⟩,
                ⟨some 120, .load true 4 (.t 11), some (118, false)⟩,
                ⟨some 121, .call 29 [(.t 119), (.t 120)], some (118, false)⟩,
                ⟨some 122, .un .not (.t 121), some (118, false)⟩,
                ⟨some 123, .pick (.t 118) (.c (.bool true)) (.t 122), none⟩,
                ⟨some 124, .mov (.t 123), none⟩,
                ⟨some 125, .mov (.t 15), some (124, false)⟩,
                ⟨some 126, .bin .neq (.t 125) (.c (.int Go.IntKind.i64 0)), some (124, false)⟩,
                ⟨some 127, .pick (.t 124) (.c (.bool true)) (.t 126), none⟩])
             (.cond (.t 127)
              (.seq (.region [⟨some 0, .mov (.c (.bool false)), none⟩])
               (.ret))
              (.skip)))
            (.seq (.region [⟨some 128, .bslice true [.int Go.IntKind.i64 0] 1 1 [(0, (.c (.int Go.IntKind.i64 0)))], none⟩,
                ⟨some 129, .bslice true [.int Go.IntKind.i64 0] 1 1 [(0, (.c (.int Go.IntKind.i64 1)))], none⟩,
                ⟨some 130, .build [.int Go.IntKind.i64 0, .int Go.IntKind.i64 0, .int Go.IntKind.i64 0, .int Go.IntKind.u8 0, .int Go.IntKind.u8 0] [(2, 1, (.c (.int Go.IntKind.i64 1))), (3, 1, (.c (.int Go.IntKind.u8 1)))], none⟩,
                ⟨some 131, .build [.int Go.IntKind.i64 0, .int Go.IntKind.i64 0, .int Go.IntKind.i64 0, .int Go.IntKind.u8 0, .int Go.IntKind.u8 0] [(0, 1, (.c (.int Go.IntKind.i64 1))), (2, 1, (.c (.int Go.IntKind.i64 1)))], none⟩,
                ⟨some 132, .build [.int Go.IntKind.i64 0, .int Go.IntKind.i64 0, .int Go.IntKind.i64 0, .int Go.IntKind.u8 0, .int Go.IntKind.u8 0] [(1, 1, (.c (.int Go.IntKind.i64 1))), (2, 1, (.c (.int Go.IntKind.i64 1)))], none⟩,
                ⟨some 133, .build [.int Go.IntKind.i64 0, .int Go.IntKind.i64 0, .int Go.IntKind.i64 0, .int Go.IntKind.u8 0, .int Go.IntKind.u8 0] [], none⟩,
                ⟨some 134, .bslice true [.int Go.IntKind.i64 0, .int Go.IntKind.i64 0, .int Go.IntKind.i64 0, .int Go.IntKind.u8 0, .int Go.IntKind.u8 0] 5 4 [(0, (.t 130)), (1, (.t 131)), (2, (.t 132)), (3, (.t 133))], none⟩,
                ⟨some 135, .build [.int Go.IntKind.i64 0, .int Go.IntKind.i64 0, .sl true 0 [], .sl true 0 [], .sl true 0 []] [(0, 1, (.c (.int Go.IntKind.i64 2))), (1, 1, (.c (.int Go.IntKind.i64 2))), (2, 1, (.t 128)), (3, 1, (.t 129)), (4, 1, (.t 134))], none⟩,
                ⟨some 16, .box (.c (.agg [.int Go.IntKind.i64 0, .int Go.IntKind.i64 0, .sl true 0 [], .sl true 0 [], .sl true 0 []])), none⟩,
                ⟨none, .store 5 (.t 16) (.t 135), none⟩])
             (.seq (.region [⟨some 137, .load true 5 (.t 16), none⟩,
                 ⟨some 138, .call 37 [(.t 137), (.c (.int Go.IntKind.i64 2))], none⟩,
                 ⟨some 136, .mov (.t 138), none⟩,
                 ⟨some 139, .ext 0 (.t 136), none⟩,
                 ⟨some 140, .ext 1 (.t 136), none⟩,
                 ⟨some 141, .ext 2 (.t 136), none⟩,
                 ⟨some 17, .box (.c (.agg [.int Go.IntKind.i64 0, .int Go.IntKind.i64 0, .sl true 0 [], .sl true 0 []])), none⟩,
                 ⟨none, .store 4 (.t 17) (.t 139), none⟩,
                 ⟨some 18, .mov (.t 140), none⟩,
                 ⟨some 19, .mov (.t 141), none⟩])
              (.seq (.region [⟨some 143, .load true 5 (.t 16), none⟩,
                  ⟨some 144, .call 37 [(.t 143), (.c (.int Go.IntKind.i64 1))], none⟩,
                  ⟨some 142, .mov (.t 144), none⟩,
                  ⟨some 145, .ext 0 (.t 142), none⟩,
                  ⟨some 146, .ext 1 (.t 142), none⟩,
                  ⟨some 147, .ext 2 (.t 142), none⟩,
                  ⟨some 20, .box (.c (.agg [.int Go.IntKind.i64 0, .int Go.IntKind.i64 0, .sl true 0 [], .sl true 0 []])), none⟩,
                  ⟨none, .store 4 (.t 20) (.t 145), none⟩,
                  ⟨some 21, .mov (.t 146), none⟩,
                  ⟨some 22, .mov (.t 147), none⟩])
               (.seq (.region [⟨some 149, .load true 5 (.t 16), none⟩,
                   ⟨some 150, .call 37 [(.t 149), (.c (.int Go.IntKind.i64 65))], none⟩,
                   ⟨some 148, .mov (.t 150), none⟩,
                   ⟨some 151, .ext 0 (.t 148), none⟩,
                   ⟨some 152, .ext 1 (.t 148), none⟩,
                   ⟨some 153, .ext 2 (.t 148), none⟩,
                   ⟨some 23, .box (.c (.agg [.int Go.IntKind.i64 0, .int Go.IntKind.i64 0, .sl true 0 [], .sl true 0 []])), none⟩,
                   ⟨none, .store 4 (.t 23) (.t 151), none⟩,
                   ⟨some 24, .mov (.t 152), none⟩,
                   ⟨some 25, .mov (.t 153), none⟩])
                (.seq (.region [⟨some 155, .load true 4 (.t 11), none⟩,
                    ⟨some 156, .call 27 [(.t 155)], none⟩,
                    ⟨some 154, .mov (.t 156), none⟩,
                    ⟨some 157, .ext 0 (.t 154), none⟩,
                    ⟨some 158, .ext 1 (.t 154), none⟩,
                    ⟨some 26, .box (.c (.agg [.int Go.IntKind.i64 0, .int Go.IntKind.i64 0, .sl true 0 [], .sl true 0 [], .sl true 0 []])), none⟩,
                    ⟨none, .store 5 (.t 26) (.t 157), none⟩,
                    ⟨some 27, .mov (.t 158), none⟩])
                 (.seq (.region [⟨some 159, .mov (.t 18), none⟩,
                     ⟨some 160, .bslice true [.int Go.IntKind.i64 0] 1 1 [(0, (.c (.int Go.IntKind.i64 0)))], none⟩,
                     ⟨some 161, .bslice true [.int Go.IntKind.i64 0] 1 2 [(0, (.c (.int Go.IntKind.i64 0))), (1, (.c (.int Go.IntKind.i64 1)))], none⟩,
                     ⟨some 162, .bslice true [.sl true 0 []] 1 2 [(0, (.t 160)), (1, (.t 161))], none⟩,
                     ⟨some 163, .call 39 [(.t 159), (.t 162)], none⟩,
                     ⟨some 164, .mov (.t 163), none⟩,
                     ⟨some 165, .mov (.t 19), some (164, true)⟩,
                     ⟨some 166, .bin .eql (.t 165) (.c (.int Go.IntKind.i64 0)), some (164, true)⟩,
                     ⟨some 167, .pick (.t 164) (.t 166) (.c (.bool false)), none⟩,
                     ⟨some 168, .mov (.t 167), none⟩,
                     ⟨some 169, .mov (.t 22), some (168, true)⟩,
                     ⟨some 170, .bin .eql (.t 169) (.c (.int Go.IntKind.i64 10)), some (168, true)⟩,
                     ⟨some 171, .pick (.t 168) (.t 170) (.c (.bool false)), none⟩,
                     ⟨some 172, .mov (.t 171), none⟩,
                     ⟨some 173, .mov (.t 25), some (172, true)⟩,
                     ⟨some 174, .bin .eql (.t 173) (.c (.int Go.IntKind.i64 1)), some (172, true)⟩,
                     ⟨some 175, .pick (.t 172) (.t 174) (.c (.bool false)), none⟩,
                     ⟨some 176, .mov (.t 175), none⟩,
                     ⟨some 177, .mov (.t 27), some (176, true)⟩,
                     ⟨some 178, .bin .eql (.t 177) (.c (.int Go.IntKind.i64 0)), some (176, true)⟩,
                     ⟨some 179, .pick (.t 176) (.t 178) (.c (.bool false)), none⟩,
                     ⟨some 180, .mov (.t 179), none⟩,
                     ⟨some 181, .faddr 1 (.t 26), some (180, true)⟩,
                     ⟨some 182, .load false 1 (.t 181), some (180, true)⟩,
                     ⟨some 183, .bin .eql (.t 182) (.c (.int Go.IntKind.i64 2)), some (180, true)⟩,
                     ⟨some 184, .pick (.t 180) (.t 183) (.c (.bool false)), none⟩,
                     ⟨some 185, .mov (.t 184), none⟩,
                     ⟨some 186, .faddr 2 (.t 26), some (185, true)⟩,
                     ⟨some 187, .load false 1 (.t 186), some (185, true)⟩,
                     ⟨some 188, .bslice true [.int Go.IntKind.i64 0] 1 1 [(0, (.c (.int Go.IntKind.i64 0)))], some (185, true)⟩,
                     ⟨some 189, .call 20 [(.t 187), (.t 188)], some (185, true)⟩,
                     ⟨some 190, .pick (.t 185) (.t 189) (.c (.bool false)), none⟩,
                     ⟨some 191, .mov (.t 190), none⟩,
                     ⟨some 192, .faddr 3 (.t 26), some (191, true)⟩,
                     ⟨some 193, .load false 1 (.t 192), some (191, true)⟩,
                     ⟨some 194, .bslice true [.int Go.IntKind.i64 0] 1 1 [(0, (.c (.int Go.IntKind.i64 1)))], some (191, true)⟩,
                     ⟨some 195, .call 20 [(.t 193), (.t 194)], some (191, true)⟩,
                     ⟨some 196, .pick (.t 191) (.t 195) (.c (.bool false)), none⟩,
                     ⟨some 197, .mov (.t 196), none⟩,
                     ⟨some 198, .faddr 4 (.t 26), some (197, true)⟩,
                     ⟨some 199, .load false 1 (.t 198), some (197, true)⟩,
                     ⟨some 200, .len (.t 199), some (197, true)⟩,
                     ⟨some 201, .bin .eql (.t 200) (.c (.int Go.IntKind.i64 8)), some (197, true)⟩,
                     ⟨some 202, .pick (.t 197) (.t 201) (.c (.bool false)), none⟩,
                     ⟨some 203, .mov (.t 202), none⟩,
                     ⟨some 204, .faddr 4 (.t 26), some (203, true)⟩,
                     ⟨some 205, .load false 1 (.t 204), some (203, true)⟩,
                     ⟨some 206, .iaddr 5 (.t 205) (.c (.int Go.IntKind.i64 0)), some (203, true)⟩,
                     ⟨some 207, .load true 5 (.t 206), some (203, true)⟩,
                     ⟨some 208, .build [.int Go.IntKind.i64 0, .int Go.IntKind.i64 0, .int Go.IntKind.i64 0, .int Go.IntKind.u8 0, .int Go.IntKind.u8 0] [(4, 1, (.c (.int Go.IntKind.u8 1)))], some (203, true)⟩,
                     ⟨some 209, .aeq false 5 (.t 207) (.t 208), some (203, true)⟩,
                     ⟨some 210, .pick (.t 203) (.t 209) (.c (.bool false)), none⟩,
                     ⟨some 0, .mov (.t 210), none⟩])
                  (.ret))))))))))))))))),
  [.tmp 0]⟩

def a37l0b : ACode :=
  .seq (.region [⟨some 46, .bin .lss (.t 45) (.t 44), none⟩])
  (.seq (.cond (.t 46)
    (.skip)
    (.exit 0))
   (.seq (.block 1 (.seq (.region [⟨some 47, .iaddr 1 (.t 43) (.t 45), none⟩,
         ⟨some 48, .load false 1 (.t 47), none⟩,
         ⟨some 13, .mov (.t 48), none⟩])
      (.region [⟨some 49, .mov (.t 5), none⟩,
         ⟨some 50, .mov (.t 13), none⟩,
         ⟨some 51, .call 77 [(.t 50)], none⟩,
         ⟨some 52, .bslice true [.sl true 0 []] 1 1 [(0, (.t 51))], none⟩,
         ⟨some 53, .append false 1 24 (.t 49) (.t 52), none⟩,
         ⟨some 5, .mov (.t 53), none⟩])))
    (.region [⟨some 54, .bin .add (.t 45) (.c (.int Go.IntKind.i64 1)), none⟩,
       ⟨some 45, .mov (.t 54), none⟩])))

def a37l0 : ACode := a37l0b
def a37l0s : List Nat := [0, 1, 3, 6, 7, 11, 12, 13, 14, 15, 16, 17, 18, 19, 20, 21, 22, 23, 24, 25, 26, 27, 28, 29, 30, 31, 32, 33, 34, 35, 36, 37, 38, 39, 40, 41, 42, 46, 47, 48, 49, 50, 51, 52, 53, 54, 55, 56, 57, 58, 59, 60, 61, 62, 63]
abbrev a37l0F (s2 s4 s5 s8 s9 s10 s43 s44 s45 : AV) : List AV := [.any, .any, s2, .any, s4, s5, .any, .any, s8, s9, s10, .any, .any, .any, .any, .any, .any, .any, .any, .any, .any, .any, .any, .any, .any, .any, .any, .any, .any, .any, .any, .any, .any, .any, .any, .any, .any, .any, .any, .any, .any, .any, .any, s43, s44, s45, .any, .any, .any, .any, .any, .any, .any, .any, .any, .any, .any, .any, .any, .any, .any, .any, .any, .any]
theorem a37l0c (s0 s1 s2 s3 s4 s5 s6 s7 s8 s9 s10 s11 s12 s13 s14 s15 s16 s17 s18 s19 s20 s21 s22 s23 s24 s25 s26 s27 s28 s29 s30 s31 s32 s33 s34 s35 s36 s37 s38 s39 s40 s41 s42 s43 s44 s45 s46 s47 s48 s49 s50 s51 s52 s53 s54 s55 s56 s57 s58 s59 s60 s61 s62 s63 : AV) : clearA a37l0s [s0, s1, s2, s3, s4, s5, s6, s7, s8, s9, s10, s11, s12, s13, s14, s15, s16, s17, s18, s19, s20, s21, s22, s23, s24, s25, s26, s27, s28, s29, s30, s31, s32, s33, s34, s35, s36, s37, s38, s39, s40, s41, s42, s43, s44, s45, s46, s47, s48, s49, s50, s51, s52, s53, s54, s55, s56, s57, s58, s59, s60, s61, s62, s63] = a37l0F s2 s4 s5 s8 s9 s10 s43 s44 s45 := by kernel_rfl
theorem a37l0n {prog : Nat → Option AFunc} (s2 s4 s5 s8 s9 s10 s43 s44 s45 : AV) (H : Heap) : (lim prog).loop a37l0s a37l0 ⟨a37l0F s2 s4 s5 s8 s9 s10 s43 s44 s45, H⟩ = loopK (lim prog) a37l0s a37l0 (run (lim prog) a37l0b ⟨a37l0F s2 s4 s5 s8 s9 s10 s43 s44 s45, H⟩) := lim_loop_step _ _ _ _ (by kernel_rfl)

/-- sentinel/treedet.Determinize -/
def a37 : AFunc := ⟨64,
  .seq (.region [⟨some 2, .box (.t 0), none⟩,
     ⟨some 3, .box (.t 1), none⟩,
     ⟨some 4, .box (.c (.agg [.int Go.IntKind.i64 0, .int Go.IntKind.i64 0, .sl true 0 [], .sl true 0 []])), none⟩,
     ⟨some 5, .mov (.c (.sl true 0 [])), none⟩,
     ⟨some 6, .mov (.c (.int Go.IntKind.i64 0)), none⟩])
  (.seq (.seq (.region [⟨some 14, .load true 5 (.t 2), none⟩,
       ⟨some 15, .call 45 [(.t 14)], none⟩,
       ⟨some 7, .mov (.t 15), none⟩])
    (.seq (.region [⟨some 16, .mov (.t 7), none⟩,
        ⟨some 17, .bin .neq (.t 16) (.c (.int Go.IntKind.i64 0)), none⟩])
     (.cond (.t 17)
      (.seq (.region [⟨some 18, .build [.int Go.IntKind.i64 0, .int Go.IntKind.i64 0, .sl true 0 [], .sl true 0 []] [], none⟩,
          ⟨some 19, .mov (.t 7), none⟩,
          ⟨none, .store 4 (.t 4) (.t 18), none⟩,
          ⟨some 5, .mov (.c (.sl true 0 [])), none⟩,
          ⟨some 6, .mov (.t 19), none⟩])
       (.ret))
      (.skip))))
   (.seq (.seq (.region [⟨some 20, .load false 1 (.t 3), none⟩,
        ⟨some 21, .bin .lss (.t 20) (.c (.int Go.IntKind.i64 1)), none⟩,
        ⟨some 22, .mov (.t 21), none⟩,
        ⟨some 23, .load false 1 (.t 3), some (22, false)⟩,
        ⟨some 24, .bin .gtr (.t 23) (.c (.int Go.IntKind.i64 64)), some (22, false)⟩,
        ⟨some 25, .pick (.t 22) (.c (.bool true)) (.t 24), none⟩])
     (.cond (.t 25)
      (.seq (.region [⟨some 26, .build [.int Go.IntKind.i64 0, .int Go.IntKind.i64 0, .sl true 0 [], .sl true 0 []] [], none⟩,
          ⟨none, .store 4 (.t 4) (.t 26), none⟩,
          ⟨some 5, .mov (.c (.sl true 0 [])), none⟩,
          ⟨some 6, .mov (.c (.int Go.IntKind.i64 1)), none⟩])
       (.ret))
      (.skip)))
    (.seq (.region [⟨some 27, .faddr 2 (.t 2), none⟩,
        ⟨some 28, .load false 1 (.t 27), none⟩,
        ⟨some 29, .call 73 [(.t 28)], none⟩,
        ⟨some 30, .bslice false [.int Go.IntKind.u64 0] 1 1 [(0, (.t 29))], none⟩,
        ⟨some 8, .box (.c (.sl true 0 [])), none⟩,
        ⟨none, .store 1 (.t 8) (.t 30), none⟩])
     (.seq (.region [⟨some 31, .mkmap, none⟩,
         ⟨some 32, .load false 1 (.t 8), none⟩,
         ⟨some 33, .iaddr 1 (.t 32) (.c (.int Go.IntKind.i64 0)), none⟩,
         ⟨some 34, .load false 1 (.t 33), none⟩,
         ⟨none, .mupd [0] (.t 31) (.t 34) (.c (.int Go.IntKind.i64 0)), none⟩,
         ⟨some 35, .mov (.t 31), none⟩,
         ⟨some 9, .box (.c (.nilm)), none⟩,
         ⟨none, .store 1 (.t 9) (.t 35), none⟩])
      (.seq (.region [⟨some 36, .mkfunc 74 [(.t 2), (.t 8)], none⟩,
          ⟨some 10, .box (.c (.nilf)), none⟩,
          ⟨none, .store 1 (.t 10) (.t 36), none⟩])
       (.seq (.region [⟨some 11, .box (.c (.bool false)), none⟩,
           ⟨none, .store 1 (.t 11) (.c (.bool false)), none⟩])
        (.seq (.region [⟨some 37, .faddr 0 (.t 2), none⟩,
            ⟨some 38, .load false 1 (.t 37), none⟩,
            ⟨some 39, .mkfunc 76 [(.t 10), (.t 9), (.t 8), (.t 3), (.t 11)], none⟩,
            ⟨some 40, .icall (.c (.func 75 [])) [(.t 38), (.t 39)], none⟩])
         (.seq (.seq (.region [⟨some 41, .load false 1 (.t 11), none⟩])
           (.cond (.t 41)
            (.seq (.region [⟨some 42, .build [.int Go.IntKind.i64 0, .int Go.IntKind.i64 0, .sl true 0 [], .sl true 0 []] [], none⟩,
                ⟨none, .store 4 (.t 4) (.t 42), none⟩,
                ⟨some 5, .mov (.c (.sl true 0 [])), none⟩,
                ⟨some 6, .mov (.c (.int Go.IntKind.i64 10)), none⟩])
             (.ret))
            (.skip)))
          (.seq (.seq (.region [⟨some 43, .load false 1 (.t 8), none⟩,
               ⟨some 44, .len (.t 43), none⟩,
               ⟨some 45, .mov (.c (.int Go.IntKind.i64 0)), none⟩])
            (.block 0 (.loop a37l0s a37l0)))
           (.seq (.region [⟨some 55, .faddr 0 (.t 2), none⟩,
               ⟨some 56, .load false 1 (.t 55), none⟩,
               ⟨some 57, .load false 1 (.t 8), none⟩,
               ⟨some 58, .len (.t 57), none⟩,
               ⟨some 59, .mkfunc 78 [(.t 9), (.t 10)], none⟩,
               ⟨some 60, .mkfunc 79 [(.t 2), (.t 8)], none⟩,
               ⟨some 61, .icall (.c (.func 61 [])) [(.t 56), (.t 58), (.t 59), (.t 60)], none⟩,
               ⟨none, .store 4 (.t 4) (.t 61), none⟩])
            (.seq (.region [⟨some 62, .load true 4 (.t 4), none⟩,
                ⟨some 63, .mov (.t 5), none⟩,
                ⟨none, .store 4 (.t 4) (.t 62), none⟩,
                ⟨some 5, .mov (.t 63), none⟩,
                ⟨some 6, .mov (.c (.int Go.IntKind.i64 0)), none⟩])
             (.ret)))))))))))),
  [.cell 4 true 4, .tmp 5, .tmp 6]⟩

def a39l0b : ACode :=
  .seq (.seq (.region [⟨some 11, .mov (.t 5), none⟩,
      ⟨some 12, .mov (.t 0), none⟩,
      ⟨some 13, .len (.t 12), none⟩,
      ⟨some 14, .bin .lss (.t 11) (.t 13), none⟩])
   (.cond (.t 14)
    (.skip)
    (.exit 0)))
  (.seq (.block 1 (.seq (.draw 5 [⟨some 17, .mov (.t 0), none⟩,
        ⟨some 18, .mov (.t 5), none⟩,
        ⟨some 19, .iaddr 1 (.t 17) (.t 18), none⟩,
        ⟨some 20, .load false 1 (.t 19), none⟩,
        ⟨some 21, .mov (.t 1), none⟩,
        ⟨some 22, .mov (.t 5), none⟩,
        ⟨some 23, .iaddr 1 (.t 21) (.t 22), none⟩,
        ⟨some 24, .load false 1 (.t 23), none⟩,
        ⟨some 25, .call 20 [(.t 20), (.t 24)], none⟩,
        ⟨some 26, .un .not (.t 25), none⟩])
     (.cond (.t 26)
      (.seq (.region [⟨some 4, .mov (.c (.bool false)), none⟩])
       (.ret))
      (.skip))))
   (.region [⟨some 15, .mov (.t 5), none⟩,
      ⟨some 16, .bin .add (.t 15) (.c (.int Go.IntKind.i64 1)), none⟩,
      ⟨some 5, .mov (.t 16), none⟩]))

def a39l0 : ACode := a39l0b
def a39l0s : List Nat := [2, 3, 6, 7, 8, 9, 10, 11, 12, 13, 14, 15, 16, 17, 18, 19, 20, 21, 22, 23, 24, 25, 26]
abbrev a39l0F (s0 s1 s4 s5 : AV) : List AV := [s0, s1, .any, .any, s4, s5, .any, .any, .any, .any, .any, .any, .any, .any, .any, .any, .any, .any, .any, .any, .any, .any, .any, .any, .any, .any, .any]
theorem a39l0c (s0 s1 s2 s3 s4 s5 s6 s7 s8 s9 s10 s11 s12 s13 s14 s15 s16 s17 s18 s19 s20 s21 s22 s23 s24 s25 s26 : AV) : clearA a39l0s [s0, s1, s2, s3, s4, s5, s6, s7, s8, s9, s10, s11, s12, s13, s14, s15, s16, s17, s18, s19, s20, s21, s22, s23, s24, s25, s26] = a39l0F s0 s1 s4 s5 := by kernel_rfl
theorem a39l0n {prog : Nat → Option AFunc} (s0 s1 s4 s5 : AV) (H : Heap) : (lim prog).loop a39l0s a39l0 ⟨a39l0F s0 s1 s4 s5, H⟩ = loopK (lim prog) a39l0s a39l0 (run (lim prog) a39l0b ⟨a39l0F s0 s1 s4 s5, H⟩) := lim_loop_step _ _ _ _ (by kernel_rfl)

/-- sentinel/sentinelkit.EqualRows -/
def a39 : AFunc := ⟨27,
  .seq (.region [⟨some 4, .mov (.c (.bool false)), none⟩])
  (.seq (.seq (.region [⟨some 6, .mov (.t 0), none⟩,
       ⟨some 7, .len (.t 6), none⟩,
       ⟨some 8, .mov (.t 1), none⟩,
       ⟨some 9, .len (.t 8), none⟩,
       ⟨some 10, .bin .neq (.t 7) (.t 9), none⟩])
    (.cond (.t 10)
     (.seq (.region [⟨some 4, .mov (.c (.bool false)), none⟩])
      (.ret))
     (.skip)))
   (.seq (.seq (.region [⟨some 5, .mov (.c (.int Go.IntKind.i64 0)), none⟩])
     (.block 0 (.loop a39l0s a39l0)))
    (.seq (.region [⟨some 4, .mov (.c (.bool true)), none⟩])
     (.ret)))),
  [.tmp 4]⟩

def a41l0b : ACode :=
  .seq (.seq (.region [⟨some 12, .mov (.t 4), none⟩,
      ⟨some 13, .bin .lss (.t 12) (.c (.int Go.IntKind.i64 3)), none⟩])
   (.cond (.t 13)
    (.skip)
    (.exit 2)))
  (.seq (.block 3 (.seq (.region [⟨some 5, .mov (.c (.int Go.IntKind.i64 0)), none⟩])
     (.seq (.seq (.region [⟨some 16, .mov (.t 2), none⟩,
          ⟨some 17, .bin .eql (.t 16) (.c (.int Go.IntKind.i64 2)), none⟩,
          ⟨some 18, .mov (.t 17), none⟩,
          ⟨some 19, .mov (.t 4), some (18, false)⟩,
          ⟨some 20, .bin .eql (.t 19) (.c (.int Go.IntKind.i64 2)), some (18, false)⟩,
          ⟨some 21, .pick (.t 18) (.c (.bool true)) (.t 20), none⟩])
       (.cond (.t 21)
        (.region [⟨some 5, .mov (.c (.int Go.IntKind.i64 2)), none⟩])
        (.skip)))
      (.seq (.seq (.region [⟨some 22, .mov (.t 2), none⟩,
           ⟨some 23, .bin .eql (.t 22) (.c (.int Go.IntKind.i64 1)), none⟩,
           ⟨some 24, .mov (.t 23), none⟩,
           ⟨some 25, .mov (.t 4), some (24, false)⟩,
           ⟨some 26, .bin .eql (.t 25) (.c (.int Go.IntKind.i64 1)), some (24, false)⟩,
           ⟨some 27, .pick (.t 24) (.c (.bool true)) (.t 26), none⟩])
        (.cond (.t 27)
         (.region [⟨some 5, .mov (.c (.int Go.IntKind.i64 1)), none⟩])
         (.skip)))
       (.region [⟨some 28, .mov (.t 3), none⟩,
          ⟨some 29, .mov (.t 5), none⟩,
          ⟨some 30, .bslice true [.int Go.IntKind.i64 0] 1 2 [(0, (.t 29)), (1, (.c (.int Go.IntKind.i64 1)))], none⟩,
          ⟨some 31, .bslice true [.sl true 0 []] 1 1 [(0, (.t 30))], none⟩,
          ⟨some 32, .append false 1 24 (.t 28) (.t 31), none⟩,
          ⟨some 3, .mov (.t 32), none⟩])))))
   (.region [⟨some 14, .mov (.t 4), none⟩,
      ⟨some 15, .bin .add (.t 14) (.c (.int Go.IntKind.i64 1)), none⟩,
      ⟨some 4, .mov (.t 15), none⟩]))

def a41l0 : ACode := a41l0b
def a41l0s : List Nat := [5, 6, 7, 8, 9, 10, 11, 12, 13, 14, 15, 16, 17, 18, 19, 20, 21, 22, 23, 24, 25, 26, 27, 28, 29, 30, 31, 32, 33, 34, 35, 36, 37, 38, 39]
abbrev a41l0F (s0 s1 s2 s3 s4 : AV) : List AV := [s0, s1, s2, s3, s4, .any, .any, .any, .any, .any, .any, .any, .any, .any, .any, .any, .any, .any, .any, .any, .any, .any, .any, .any, .any, .any, .any, .any, .any, .any, .any, .any, .any, .any, .any, .any, .any, .any, .any, .any]
theorem a41l0c (s0 s1 s2 s3 s4 s5 s6 s7 s8 s9 s10 s11 s12 s13 s14 s15 s16 s17 s18 s19 s20 s21 s22 s23 s24 s25 s26 s27 s28 s29 s30 s31 s32 s33 s34 s35 s36 s37 s38 s39 : AV) : clearA a41l0s [s0, s1, s2, s3, s4, s5, s6, s7, s8, s9, s10, s11, s12, s13, s14, s15, s16, s17, s18, s19, s20, s21, s22, s23, s24, s25, s26, s27, s28, s29, s30, s31, s32, s33, s34, s35, s36, s37, s38, s39] = a41l0F s0 s1 s2 s3 s4 := by kernel_rfl
theorem a41l0n {prog : Nat → Option AFunc} (s0 s1 s2 s3 s4 : AV) (H : Heap) : (lim prog).loop a41l0s a41l0 ⟨a41l0F s0 s1 s2 s3 s4, H⟩ = loopK (lim prog) a41l0s a41l0 (run (lim prog) a41l0b ⟨a41l0F s0 s1 s2 s3 s4, H⟩) := lim_loop_step _ _ _ _ (by kernel_rfl)

def a41l1b : ACode :=
  .seq (.seq (.region [⟨some 8, .mov (.t 2), none⟩,
      ⟨some 9, .bin .lss (.t 8) (.c (.int Go.IntKind.i64 3)), none⟩])
   (.cond (.t 9)
    (.skip)
    (.exit 0)))
  (.seq (.block 1 (.seq (.region [⟨some 3, .mov (.c (.sl true 0 [])), none⟩])
     (.seq (.seq (.region [⟨some 4, .mov (.c (.int Go.IntKind.i64 0)), none⟩])
       (.block 2 (.loop a41l0s a41l0)))
      (.region [⟨some 33, .faddr 2 (.t 1), none⟩,
         ⟨some 34, .load false 1 (.t 33), none⟩,
         ⟨some 35, .mov (.t 3), none⟩,
         ⟨some 36, .bslice false [.sl true 0 []] 1 1 [(0, (.t 35))], none⟩,
         ⟨some 37, .append false 1 24 (.t 34) (.t 36), none⟩,
         ⟨some 38, .faddr 2 (.t 1), none⟩,
         ⟨none, .store 1 (.t 38) (.t 37), none⟩]))))
   (.region [⟨some 10, .mov (.t 2), none⟩,
      ⟨some 11, .bin .add (.t 10) (.c (.int Go.IntKind.i64 1)), none⟩,
      ⟨some 2, .mov (.t 11), none⟩]))

def a41l1 : ACode := a41l1b
def a41l1s : List Nat := [3, 4, 5, 6, 7, 8, 9, 10, 11, 12, 13, 14, 15, 16, 17, 18, 19, 20, 21, 22, 23, 24, 25, 26, 27, 28, 29, 30, 31, 32, 33, 34, 35, 36, 37, 38, 39]
abbrev a41l1F (s0 s1 s2 : AV) : List AV := [s0, s1, s2, .any, .any, .any, .any, .any, .any, .any, .any, .any, .any, .any, .any, .any, .any, .any, .any, .any, .any, .any, .any, .any, .any, .any, .any, .any, .any, .any, .any, .any, .any, .any, .any, .any, .any, .any, .any, .any]
theorem a41l1c (s0 s1 s2 s3 s4 s5 s6 s7 s8 s9 s10 s11 s12 s13 s14 s15 s16 s17 s18 s19 s20 s21 s22 s23 s24 s25 s26 s27 s28 s29 s30 s31 s32 s33 s34 s35 s36 s37 s38 s39 : AV) : clearA a41l1s [s0, s1, s2, s3, s4, s5, s6, s7, s8, s9, s10, s11, s12, s13, s14, s15, s16, s17, s18, s19, s20, s21, s22, s23, s24, s25, s26, s27, s28, s29, s30, s31, s32, s33, s34, s35, s36, s37, s38, s39] = a41l1F s0 s1 s2 := by kernel_rfl
theorem a41l1n {prog : Nat → Option AFunc} (s0 s1 s2 : AV) (H : Heap) : (lim prog).loop a41l1s a41l1 ⟨a41l1F s0 s1 s2, H⟩ = loopK (lim prog) a41l1s a41l1 (run (lim prog) a41l1b ⟨a41l1F s0 s1 s2, H⟩) := lim_loop_step _ _ _ _ (by kernel_rfl)

/-- sentinel/sentinellaw19.example -/
def a41 : AFunc := ⟨40,
  .seq (.region [⟨some 0, .box (.c (.agg [.int Go.IntKind.i64 0, .int Go.IntKind.i64 0, .sl true 0 [], .sl true 0 []])), none⟩])
  (.seq (.region [⟨some 6, .bslice true [.bool false] 1 3 [(0, (.c (.bool false))), (1, (.c (.bool true))), (2, (.c (.bool true)))], none⟩,
      ⟨some 7, .build [.int Go.IntKind.i64 0, .int Go.IntKind.i64 0, .sl true 0 [], .sl true 0 []] [(0, 1, (.c (.int Go.IntKind.i64 1))), (3, 1, (.t 6))], none⟩,
      ⟨some 1, .box (.c (.agg [.int Go.IntKind.i64 0, .int Go.IntKind.i64 0, .sl true 0 [], .sl true 0 []])), none⟩,
      ⟨none, .store 4 (.t 1) (.t 7), none⟩])
   (.seq (.seq (.region [⟨some 2, .mov (.c (.int Go.IntKind.i64 0)), none⟩])
     (.block 0 (.loop a41l1s a41l1)))
    (.seq (.region [⟨some 39, .load true 4 (.t 1), none⟩,
        ⟨none, .store 4 (.t 0) (.t 39), none⟩])
     (.ret)))),
  [.cell 0 true 4]⟩

def a42l0b : ACode :=
  .seq (.seq (.region [⟨some 48, .mov (.t 10), none⟩,
      ⟨some 49, .mov (.t 9), none⟩,
      ⟨some 50, .len (.t 49), none⟩,
      ⟨some 51, .bin .lss (.t 48) (.t 50), none⟩])
   (.cond (.t 51)
    (.skip)
    (.exit 4)))
  (.seq (.block 5 (.seq (.region [⟨some 54, .mov (.t 8), none⟩,
        ⟨some 55, .faddr 2 (.t 2), none⟩,
        ⟨some 56, .load false 1 (.t 55), none⟩,
        ⟨some 57, .mov (.t 6), none⟩,
        ⟨some 58, .iaddr 1 (.t 56) (.t 57), none⟩,
        ⟨some 59, .load false 1 (.t 58), none⟩,
        ⟨some 60, .len (.t 59), none⟩,
        ⟨some 61, .bin .lss (.t 54) (.t 60), none⟩,
        ⟨some 62, .mov (.t 61), none⟩,
        ⟨some 63, .mov (.t 10), some (62, true)⟩,
        ⟨some 64, .faddr 2 (.t 2), some (62, true)⟩,
        ⟨some 65, .load false 1 (.t 64), some (62, true)⟩,
        ⟨some 66, .mov (.t 6), some (62, true)⟩,
        ⟨some 67, .iaddr 1 (.t 65) (.t 66), some (62, true)⟩,
        ⟨some 68, .load false 1 (.t 67), some (62, true)⟩,
        ⟨some 69, .mov (.t 8), some (62, true)⟩,
        ⟨some 70, .iaddr 1 (.t 68) (.t 69), some (62, true)⟩,
        ⟨some 71, .load false 1 (.t 70), some (62, true)⟩,
        ⟨some 72, .len (.t 71), some (62, true)⟩,
        ⟨some 73, .bin .lss (.t 63) (.t 72), some (62, true)⟩,
        ⟨some 74, .pick (.t 62) (.t 73) (.c (.bool false)), none⟩])
     (.cond (.t 74)
      (.region [⟨some 75, .mov (.t 9), none⟩,
         ⟨some 76, .mov (.t 10), none⟩,
         ⟨some 77, .faddr 2 (.t 2), none⟩,
         ⟨some 78, .load false 1 (.t 77), none⟩,
         ⟨some 79, .mov (.t 6), none⟩,
         ⟨some 80, .iaddr 1 (.t 78) (.t 79), none⟩,
         ⟨some 81, .load false 1 (.t 80), none⟩,
         ⟨some 82, .mov (.t 8), none⟩,
         ⟨some 83, .iaddr 1 (.t 81) (.t 82), none⟩,
         ⟨some 84, .load false 1 (.t 83), none⟩,
         ⟨some 85, .mov (.t 10), none⟩,
         ⟨some 86, .iaddr 1 (.t 84) (.t 85), none⟩,
         ⟨some 87, .load false 1 (.t 86), none⟩,
         ⟨some 88, .mov (.t 1), none⟩,
         ⟨some 89, .bin .rem (.t 87) (.t 88), none⟩,
         ⟨some 90, .mov (.t 1), none⟩,
         ⟨some 91, .bin .add (.t 89) (.t 90), none⟩,
         ⟨some 92, .mov (.t 1), none⟩,
         ⟨some 93, .bin .rem (.t 91) (.t 92), none⟩,
         ⟨some 94, .iaddr 1 (.t 75) (.t 76), none⟩,
         ⟨none, .store 1 (.t 94) (.t 93), none⟩])
      (.skip))))
   (.region [⟨some 52, .mov (.t 10), none⟩,
      ⟨some 53, .bin .add (.t 52) (.c (.int Go.IntKind.i64 1)), none⟩,
      ⟨some 10, .mov (.t 53), none⟩]))

def a42l0 : ACode := a42l0b
def a42l0s : List Nat := [0, 3, 11, 12, 13, 14, 15, 16, 17, 18, 19, 20, 21, 22, 23, 24, 25, 26, 27, 28, 29, 30, 31, 32, 33, 34, 35, 36, 37, 38, 39, 40, 41, 42, 43, 44, 45, 46, 47, 48, 49, 50, 51, 52, 53, 54, 55, 56, 57, 58, 59, 60, 61, 62, 63, 64, 65, 66, 67, 68, 69, 70, 71, 72, 73, 74, 75, 76, 77, 78, 79, 80, 81, 82, 83, 84, 85, 86, 87, 88, 89, 90, 91, 92, 93, 94, 95, 96, 97, 98, 99, 100, 101, 102, 103, 104, 105, 106, 107, 108, 109, 110, 111, 112, 113, 114, 115, 116, 117, 118, 119, 120, 121, 122]
abbrev a42l0F (s1 s2 s4 s5 s6 s7 s8 s9 s10 : AV) : List AV := [.any, s1, s2, .any, s4, s5, s6, s7, s8, s9, s10, .any, .any, .any, .any, .any, .any, .any, .any, .any, .any, .any, .any, .any, .any, .any, .any, .any, .any, .any, .any, .any, .any, .any, .any, .any, .any, .any, .any, .any, .any, .any, .any, .any, .any, .any, .any, .any, .any, .any, .any, .any, .any, .any, .any, .any, .any, .any, .any, .any, .any, .any, .any, .any, .any, .any, .any, .any, .any, .any, .any, .any, .any, .any, .any, .any, .any, .any, .any, .any, .any, .any, .any, .any, .any, .any, .any, .any, .any, .any, .any, .any, .any, .any, .any, .any, .any, .any, .any, .any, .any, .any, .any, .any, .any, .any, .any, .any, .any, .any, .any, .any, .any, .any, .any, .any, .any, .any, .any, .any, .any, .any, .any]
theorem a42l0c (s0 s1 s2 s3 s4 s5 s6 s7 s8 s9 s10 s11 s12 s13 s14 s15 s16 s17 s18 s19 s20 s21 s22 s23 s24 s25 s26 s27 s28 s29 s30 s31 s32 s33 s34 s35 s36 s37 s38 s39 s40 s41 s42 s43 s44 s45 s46 s47 s48 s49 s50 s51 s52 s53 s54 s55 s56 s57 s58 s59 s60 s61 s62 s63 s64 s65 s66 s67 s68 s69 s70 s71 s72 s73 s74 s75 s76 s77 s78 s79 s80 s81 s82 s83 s84 s85 s86 s87 s88 s89 s90 s91 s92 s93 s94 s95 s96 s97 s98 s99 s100 s101 s102 s103 s104 s105 s106 s107 s108 s109 s110 s111 s112 s113 s114 s115 s116 s117 s118 s119 s120 s121 s122 : AV) : clearA a42l0s [s0, s1, s2, s3, s4, s5, s6, s7, s8, s9, s10, s11, s12, s13, s14, s15, s16, s17, s18, s19, s20, s21, s22, s23, s24, s25, s26, s27, s28, s29, s30, s31, s32, s33, s34, s35, s36, s37, s38, s39, s40, s41, s42, s43, s44, s45, s46, s47, s48, s49, s50, s51, s52, s53, s54, s55, s56, s57, s58, s59, s60, s61, s62, s63, s64, s65, s66, s67, s68, s69, s70, s71, s72, s73, s74, s75, s76, s77, s78, s79, s80, s81, s82, s83, s84, s85, s86, s87, s88, s89, s90, s91, s92, s93, s94, s95, s96, s97, s98, s99, s100, s101, s102, s103, s104, s105, s106, s107, s108, s109, s110, s111, s112, s113, s114, s115, s116, s117, s118, s119, s120, s121, s122] = a42l0F s1 s2 s4 s5 s6 s7 s8 s9 s10 := by kernel_rfl
theorem a42l0n {prog : Nat → Option AFunc} (s1 s2 s4 s5 s6 s7 s8 s9 s10 : AV) (H : Heap) : (lim prog).loop a42l0s a42l0 ⟨a42l0F s1 s2 s4 s5 s6 s7 s8 s9 s10, H⟩ = loopK (lim prog) a42l0s a42l0 (run (lim prog) a42l0b ⟨a42l0F s1 s2 s4 s5 s6 s7 s8 s9 s10, H⟩) := lim_loop_step _ _ _ _ (by kernel_rfl)

def a42l1b : ACode :=
  .seq (.seq (.region [⟨some 39, .mov (.t 8), none⟩,
      ⟨some 40, .mov (.t 1), none⟩,
      ⟨some 41, .bin .lss (.t 39) (.t 40), none⟩])
   (.cond (.t 41)
    (.skip)
    (.exit 2)))
  (.seq (.block 3 (.seq (.region [⟨some 44, .faddr 0 (.t 5), none⟩,
        ⟨some 45, .load false 1 (.t 44), none⟩,
        ⟨some 46, .bin .shl (.c (.int Go.IntKind.i64 1)) (.t 45), none⟩,
        ⟨some 47, .mkslice false [.int Go.IntKind.i64 0] 8 (.t 46) (.t 46), none⟩,
        ⟨some 9, .mov (.t 47), none⟩])
     (.seq (.seq (.region [⟨some 10, .mov (.c (.int Go.IntKind.i64 0)), none⟩])
       (.block 4 (.loop a42l0s a42l0)))
      (.region [⟨some 95, .mov (.t 7), none⟩,
         ⟨some 96, .mov (.t 9), none⟩,
         ⟨some 97, .bslice false [.sl true 0 []] 1 1 [(0, (.t 96))], none⟩,
         ⟨some 98, .append false 1 24 (.t 95) (.t 97), none⟩,
         ⟨some 7, .mov (.t 98), none⟩]))))
   (.region [⟨some 42, .mov (.t 8), none⟩,
      ⟨some 43, .bin .add (.t 42) (.c (.int Go.IntKind.i64 1)), none⟩,
      ⟨some 8, .mov (.t 43), none⟩]))

def a42l1 : ACode := a42l1b
def a42l1s : List Nat := [0, 3, 9, 10, 11, 12, 13, 14, 15, 16, 17, 18, 19, 20, 21, 22, 23, 24, 25, 26, 27, 28, 29, 30, 31, 32, 33, 34, 35, 36, 37, 38, 39, 40, 41, 42, 43, 44, 45, 46, 47, 48, 49, 50, 51, 52, 53, 54, 55, 56, 57, 58, 59, 60, 61, 62, 63, 64, 65, 66, 67, 68, 69, 70, 71, 72, 73, 74, 75, 76, 77, 78, 79, 80, 81, 82, 83, 84, 85, 86, 87, 88, 89, 90, 91, 92, 93, 94, 95, 96, 97, 98, 99, 100, 101, 102, 103, 104, 105, 106, 107, 108, 109, 110, 111, 112, 113, 114, 115, 116, 117, 118, 119, 120, 121, 122]
abbrev a42l1F (s1 s2 s4 s5 s6 s7 s8 : AV) : List AV := [.any, s1, s2, .any, s4, s5, s6, s7, s8, .any, .any, .any, .any, .any, .any, .any, .any, .any, .any, .any, .any, .any, .any, .any, .any, .any, .any, .any, .any, .any, .any, .any, .any, .any, .any, .any, .any, .any, .any, .any, .any, .any, .any, .any, .any, .any, .any, .any, .any, .any, .any, .any, .any, .any, .any, .any, .any, .any, .any, .any, .any, .any, .any, .any, .any, .any, .any, .any, .any, .any, .any, .any, .any, .any, .any, .any, .any, .any, .any, .any, .any, .any, .any, .any, .any, .any, .any, .any, .any, .any, .any, .any, .any, .any, .any, .any, .any, .any, .any, .any, .any, .any, .any, .any, .any, .any, .any, .any, .any, .any, .any, .any, .any, .any, .any, .any, .any, .any, .any, .any, .any, .any, .any]
theorem a42l1c (s0 s1 s2 s3 s4 s5 s6 s7 s8 s9 s10 s11 s12 s13 s14 s15 s16 s17 s18 s19 s20 s21 s22 s23 s24 s25 s26 s27 s28 s29 s30 s31 s32 s33 s34 s35 s36 s37 s38 s39 s40 s41 s42 s43 s44 s45 s46 s47 s48 s49 s50 s51 s52 s53 s54 s55 s56 s57 s58 s59 s60 s61 s62 s63 s64 s65 s66 s67 s68 s69 s70 s71 s72 s73 s74 s75 s76 s77 s78 s79 s80 s81 s82 s83 s84 s85 s86 s87 s88 s89 s90 s91 s92 s93 s94 s95 s96 s97 s98 s99 s100 s101 s102 s103 s104 s105 s106 s107 s108 s109 s110 s111 s112 s113 s114 s115 s116 s117 s118 s119 s120 s121 s122 : AV) : clearA a42l1s [s0, s1, s2, s3, s4, s5, s6, s7, s8, s9, s10, s11, s12, s13, s14, s15, s16, s17, s18, s19, s20, s21, s22, s23, s24, s25, s26, s27, s28, s29, s30, s31, s32, s33, s34, s35, s36, s37, s38, s39, s40, s41, s42, s43, s44, s45, s46, s47, s48, s49, s50, s51, s52, s53, s54, s55, s56, s57, s58, s59, s60, s61, s62, s63, s64, s65, s66, s67, s68, s69, s70, s71, s72, s73, s74, s75, s76, s77, s78, s79, s80, s81, s82, s83, s84, s85, s86, s87, s88, s89, s90, s91, s92, s93, s94, s95, s96, s97, s98, s99, s100, s101, s102, s103, s104, s105, s106, s107, s108, s109, s110, s111, s112, s113, s114, s115, s116, s117, s118, s119, s120, s121, s122] = a42l1F s1 s2 s4 s5 s6 s7 s8 := by kernel_rfl
theorem a42l1n {prog : Nat → Option AFunc} (s1 s2 s4 s5 s6 s7 s8 : AV) (H : Heap) : (lim prog).loop a42l1s a42l1 ⟨a42l1F s1 s2 s4 s5 s6 s7 s8, H⟩ = loopK (lim prog) a42l1s a42l1 (run (lim prog) a42l1b ⟨a42l1F s1 s2 s4 s5 s6 s7 s8, H⟩) := lim_loop_step _ _ _ _ (by kernel_rfl)

def a42l2b : ACode :=
  .seq (.seq (.region [⟨some 34, .mov (.t 6), none⟩,
      ⟨some 35, .mov (.t 1), none⟩,
      ⟨some 36, .bin .lss (.t 34) (.t 35), none⟩])
   (.cond (.t 36)
    (.skip)
    (.exit 0)))
  (.seq (.block 1 (.seq (.region [⟨some 7, .mov (.c (.sl true 0 [])), none⟩])
     (.seq (.seq (.region [⟨some 8, .mov (.c (.int Go.IntKind.i64 0)), none⟩])
       (.block 2 (.loop a42l1s a42l1)))
      (.seq (.region [⟨some 99, .faddr 2 (.t 5), none⟩,
          ⟨some 100, .load false 1 (.t 99), none⟩,
          ⟨some 101, .mov (.t 7), none⟩,
          ⟨some 102, .bslice false [.sl true 0 []] 1 1 [(0, (.t 101))], none⟩,
          ⟨some 103, .append false 1 24 (.t 100) (.t 102), none⟩,
          ⟨some 104, .faddr 2 (.t 5), none⟩,
          ⟨none, .store 1 (.t 104) (.t 103), none⟩])
       (.draw 11 [⟨some 105, .faddr 3 (.t 5), none⟩,
          ⟨some 106, .load false 1 (.t 105), none⟩,
          ⟨some 107, .mov (.t 6), none⟩,
          ⟨some 108, .faddr 3 (.t 2), none⟩,
          ⟨some 109, .load false 1 (.t 108), none⟩,
          ⟨some 110, .len (.t 109), none⟩,
          ⟨some 111, .bin .lss (.t 107) (.t 110), none⟩,
          ⟨some 112, .mov (.t 111), none⟩,
          ⟨some 113, .faddr 3 (.t 2), some (112, true)⟩,
          ⟨some 114, .load false 1 (.t 113), some (112, true)⟩,
          ⟨some 115, .mov (.t 6), some (112, true)⟩,
          ⟨some 116, .iaddr 1 (.t 114) (.t 115), some (112, true)⟩,
          ⟨some 117, .load false 1 (.t 116), some (112, true)⟩,
          ⟨some 118, .pick (.t 112) (.t 117) (.c (.bool false)), none⟩,
          ⟨some 119, .bslice true [.bool false] 1 1 [(0, (.t 118))], none⟩,
          ⟨some 120, .append false 1 1 (.t 106) (.t 119), none⟩,
          ⟨some 121, .faddr 3 (.t 5), none⟩,
          ⟨none, .store 1 (.t 121) (.t 120), none⟩])))))
   (.region [⟨some 37, .mov (.t 6), none⟩,
      ⟨some 38, .bin .add (.t 37) (.c (.int Go.IntKind.i64 1)), none⟩,
      ⟨some 6, .mov (.t 38), none⟩]))

def a42l2 : ACode := a42l2b
def a42l2s : List Nat := [0, 3, 7, 8, 9, 10, 11, 12, 13, 14, 15, 16, 17, 18, 19, 20, 21, 22, 23, 24, 25, 26, 27, 28, 29, 30, 31, 32, 33, 34, 35, 36, 37, 38, 39, 40, 41, 42, 43, 44, 45, 46, 47, 48, 49, 50, 51, 52, 53, 54, 55, 56, 57, 58, 59, 60, 61, 62, 63, 64, 65, 66, 67, 68, 69, 70, 71, 72, 73, 74, 75, 76, 77, 78, 79, 80, 81, 82, 83, 84, 85, 86, 87, 88, 89, 90, 91, 92, 93, 94, 95, 96, 97, 98, 99, 100, 101, 102, 103, 104, 105, 106, 107, 108, 109, 110, 111, 112, 113, 114, 115, 116, 117, 118, 119, 120, 121, 122]
abbrev a42l2F (s1 s2 s4 s5 s6 : AV) : List AV := [.any, s1, s2, .any, s4, s5, s6, .any, .any, .any, .any, .any, .any, .any, .any, .any, .any, .any, .any, .any, .any, .any, .any, .any, .any, .any, .any, .any, .any, .any, .any, .any, .any, .any, .any, .any, .any, .any, .any, .any, .any, .any, .any, .any, .any, .any, .any, .any, .any, .any, .any, .any, .any, .any, .any, .any, .any, .any, .any, .any, .any, .any, .any, .any, .any, .any, .any, .any, .any, .any, .any, .any, .any, .any, .any, .any, .any, .any, .any, .any, .any, .any, .any, .any, .any, .any, .any, .any, .any, .any, .any, .any, .any, .any, .any, .any, .any, .any, .any, .any, .any, .any, .any, .any, .any, .any, .any, .any, .any, .any, .any, .any, .any, .any, .any, .any, .any, .any, .any, .any, .any, .any, .any]
theorem a42l2c (s0 s1 s2 s3 s4 s5 s6 s7 s8 s9 s10 s11 s12 s13 s14 s15 s16 s17 s18 s19 s20 s21 s22 s23 s24 s25 s26 s27 s28 s29 s30 s31 s32 s33 s34 s35 s36 s37 s38 s39 s40 s41 s42 s43 s44 s45 s46 s47 s48 s49 s50 s51 s52 s53 s54 s55 s56 s57 s58 s59 s60 s61 s62 s63 s64 s65 s66 s67 s68 s69 s70 s71 s72 s73 s74 s75 s76 s77 s78 s79 s80 s81 s82 s83 s84 s85 s86 s87 s88 s89 s90 s91 s92 s93 s94 s95 s96 s97 s98 s99 s100 s101 s102 s103 s104 s105 s106 s107 s108 s109 s110 s111 s112 s113 s114 s115 s116 s117 s118 s119 s120 s121 s122 : AV) : clearA a42l2s [s0, s1, s2, s3, s4, s5, s6, s7, s8, s9, s10, s11, s12, s13, s14, s15, s16, s17, s18, s19, s20, s21, s22, s23, s24, s25, s26, s27, s28, s29, s30, s31, s32, s33, s34, s35, s36, s37, s38, s39, s40, s41, s42, s43, s44, s45, s46, s47, s48, s49, s50, s51, s52, s53, s54, s55, s56, s57, s58, s59, s60, s61, s62, s63, s64, s65, s66, s67, s68, s69, s70, s71, s72, s73, s74, s75, s76, s77, s78, s79, s80, s81, s82, s83, s84, s85, s86, s87, s88, s89, s90, s91, s92, s93, s94, s95, s96, s97, s98, s99, s100, s101, s102, s103, s104, s105, s106, s107, s108, s109, s110, s111, s112, s113, s114, s115, s116, s117, s118, s119, s120, s121, s122] = a42l2F s1 s2 s4 s5 s6 := by kernel_rfl
theorem a42l2n {prog : Nat → Option AFunc} (s1 s2 s4 s5 s6 : AV) (H : Heap) : (lim prog).loop a42l2s a42l2 ⟨a42l2F s1 s2 s4 s5 s6, H⟩ = loopK (lim prog) a42l2s a42l2 (run (lim prog) a42l2b ⟨a42l2F s1 s2 s4 s5 s6, H⟩) := lim_loop_step _ _ _ _ (by kernel_rfl)

/-- sentinel/sentinellaw19.sub -/
def a42 : AFunc := ⟨123,
  .seq (.region [⟨some 2, .box (.t 0), none⟩,
     ⟨some 4, .box (.c (.agg [.int Go.IntKind.i64 0, .int Go.IntKind.i64 0, .sl true 0 [], .sl true 0 []])), none⟩])
  (.seq (.region [⟨some 11, .mov (.t 1), none⟩,
      ⟨some 12, .faddr 2 (.t 2), none⟩,
      ⟨some 13, .load false 1 (.t 12), none⟩,
      ⟨some 14, .len (.t 13), none⟩,
      ⟨some 15, .mini (.t 11) (.t 14), none⟩,
      ⟨some 1, .mov (.t 15), none⟩])
   (.seq (.region [⟨some 16, .faddr 0 (.t 2), none⟩,
       ⟨some 17, .load false 1 (.t 16), none⟩,
       ⟨some 18, .bin .rem (.t 17) (.c (.int Go.IntKind.i64 3)), none⟩,
       ⟨some 19, .bin .add (.t 18) (.c (.int Go.IntKind.i64 3)), none⟩,
       ⟨some 20, .bin .rem (.t 19) (.c (.int Go.IntKind.i64 3)), none⟩,
       ⟨some 21, .build [.int Go.IntKind.i64 0, .int Go.IntKind.i64 0, .sl true 0 [], .sl true 0 []] [(0, 1, (.t 20))], none⟩,
       ⟨some 5, .box (.c (.agg [.int Go.IntKind.i64 0, .int Go.IntKind.i64 0, .sl true 0 [], .sl true 0 []])), none⟩,
       ⟨none, .store 4 (.t 5) (.t 21), none⟩])
    (.seq (.seq (.region [⟨some 22, .mov (.t 1), none⟩,
         ⟨some 23, .bin .eql (.t 22) (.c (.int Go.IntKind.i64 0)), none⟩])
      (.cond (.t 23)
       (.seq (.region [⟨some 24, .load true 4 (.t 5), none⟩,
           ⟨none, .store 4 (.t 4) (.t 24), none⟩])
        (.ret))
       (.skip)))
     (.seq (.region [⟨some 25, .faddr 1 (.t 2), none⟩,
         ⟨some 26, .load false 1 (.t 25), none⟩,
         ⟨some 27, .mov (.t 1), none⟩,
         ⟨some 28, .bin .rem (.t 26) (.t 27), none⟩,
         ⟨some 29, .mov (.t 1), none⟩,
         ⟨some 30, .bin .add (.t 28) (.t 29), none⟩,
         ⟨some 31, .mov (.t 1), none⟩,
         ⟨some 32, .bin .rem (.t 30) (.t 31), none⟩,
         ⟨some 33, .faddr 1 (.t 5), none⟩,
         ⟨none, .store 1 (.t 33) (.t 32), none⟩])
      (.seq (.seq (.region [⟨some 6, .mov (.c (.int Go.IntKind.i64 0)), none⟩])
        (.block 0 (.loop a42l2s a42l2)))
       (.seq (.region [⟨some 122, .load true 4 (.t 5), none⟩,
           ⟨none, .store 4 (.t 4) (.t 122), none⟩])
        (.ret))))))),
  [.cell 4 true 4]⟩

def a43l0b : ACode :=
  .seq (.seq (.region [⟨some 37, .mov (.t 11), none⟩,
      ⟨some 38, .faddr 0 (.t 2), none⟩,
      ⟨some 39, .load false 1 (.t 38), none⟩,
      ⟨some 40, .bin .shl (.c (.int Go.IntKind.i64 1)) (.t 39), none⟩,
      ⟨some 41, .bin .lss (.t 37) (.t 40), none⟩])
   (.cond (.t 41)
    (.skip)
    (.exit 4)))
  (.seq (.block 5 (.draw 22 [⟨some 44, .mov (.t 10), none⟩,
       ⟨some 45, .faddr 2 (.t 2), none⟩,
       ⟨some 46, .load false 1 (.t 45), none⟩,
       ⟨some 47, .mov (.t 7), none⟩,
       ⟨some 48, .mov (.t 5), none⟩,
       ⟨some 49, .bin .rem (.t 47) (.t 48), none⟩,
       ⟨some 50, .iaddr 1 (.t 46) (.t 49), none⟩,
       ⟨some 51, .load false 1 (.t 50), none⟩,
       ⟨some 52, .mov (.t 9), none⟩,
       ⟨some 53, .mov (.t 5), none⟩,
       ⟨some 54, .bin .rem (.t 52) (.t 53), none⟩,
       ⟨some 55, .iaddr 1 (.t 51) (.t 54), none⟩,
       ⟨some 56, .load false 1 (.t 55), none⟩,
       ⟨some 57, .mov (.t 11), none⟩,
       ⟨some 58, .iaddr 1 (.t 56) (.t 57), none⟩,
       ⟨some 59, .load false 1 (.t 58), none⟩,
       ⟨some 60, .mov (.t 5), none⟩,
       ⟨some 61, .mov (.t 1), none⟩,
       ⟨some 62, .mov (.t 7), none⟩,
       ⟨some 63, .mov (.t 9), none⟩,
       ⟨some 64, .bin .mul (.c (.int Go.IntKind.i64 3)) (.t 63), none⟩,
       ⟨some 65, .bin .add (.t 62) (.t 64), none⟩,
       ⟨some 66, .mov (.t 11), none⟩,
       ⟨some 67, .bin .mul (.c (.int Go.IntKind.i64 5)) (.t 66), none⟩,
       ⟨some 68, .bin .add (.t 65) (.t 67), none⟩,
       ⟨some 69, .bin .rem (.t 68) (.c (.int Go.IntKind.i64 16)), none⟩,
       ⟨some 70, .bin .shr (.t 61) (.t 69), none⟩,
       ⟨some 71, .bin .and (.t 70) (.c (.int Go.IntKind.i64 1)), none⟩,
       ⟨some 72, .bin .mul (.t 60) (.t 71), none⟩,
       ⟨some 73, .bin .add (.t 59) (.t 72), none⟩,
       ⟨some 74, .bslice true [.int Go.IntKind.i64 0] 1 1 [(0, (.t 73))], none⟩,
       ⟨some 75, .append false 1 8 (.t 44) (.t 74), none⟩,
       ⟨some 10, .mov (.t 75), none⟩]))
   (.region [⟨some 42, .mov (.t 11), none⟩,
      ⟨some 43, .bin .add (.t 42) (.c (.int Go.IntKind.i64 1)), none⟩,
      ⟨some 11, .mov (.t 43), none⟩]))

def a43l0 : ACode := a43l0b
def a43l0s : List Nat := [0, 3, 12, 13, 14, 15, 16, 17, 18, 19, 20, 21, 22, 23, 24, 25, 26, 27, 28, 29, 30, 31, 32, 33, 34, 35, 36, 37, 38, 39, 40, 41, 42, 43, 44, 45, 46, 47, 48, 49, 50, 51, 52, 53, 54, 55, 56, 57, 58, 59, 60, 61, 62, 63, 64, 65, 66, 67, 68, 69, 70, 71, 72, 73, 74, 75, 76, 77, 78, 79, 80, 81, 82, 83, 84, 85, 86, 87, 88, 89, 90, 91, 92, 93, 94, 95, 96, 97, 98]
abbrev a43l0F (s1 s2 s4 s5 s6 s7 s8 s9 s10 s11 : AV) : List AV := [.any, s1, s2, .any, s4, s5, s6, s7, s8, s9, s10, s11, .any, .any, .any, .any, .any, .any, .any, .any, .any, .any, .any, .any, .any, .any, .any, .any, .any, .any, .any, .any, .any, .any, .any, .any, .any, .any, .any, .any, .any, .any, .any, .any, .any, .any, .any, .any, .any, .any, .any, .any, .any, .any, .any, .any, .any, .any, .any, .any, .any, .any, .any, .any, .any, .any, .any, .any, .any, .any, .any, .any, .any, .any, .any, .any, .any, .any, .any, .any, .any, .any, .any, .any, .any, .any, .any, .any, .any, .any, .any, .any, .any, .any, .any, .any, .any, .any, .any]
theorem a43l0c (s0 s1 s2 s3 s4 s5 s6 s7 s8 s9 s10 s11 s12 s13 s14 s15 s16 s17 s18 s19 s20 s21 s22 s23 s24 s25 s26 s27 s28 s29 s30 s31 s32 s33 s34 s35 s36 s37 s38 s39 s40 s41 s42 s43 s44 s45 s46 s47 s48 s49 s50 s51 s52 s53 s54 s55 s56 s57 s58 s59 s60 s61 s62 s63 s64 s65 s66 s67 s68 s69 s70 s71 s72 s73 s74 s75 s76 s77 s78 s79 s80 s81 s82 s83 s84 s85 s86 s87 s88 s89 s90 s91 s92 s93 s94 s95 s96 s97 s98 : AV) : clearA a43l0s [s0, s1, s2, s3, s4, s5, s6, s7, s8, s9, s10, s11, s12, s13, s14, s15, s16, s17, s18, s19, s20, s21, s22, s23, s24, s25, s26, s27, s28, s29, s30, s31, s32, s33, s34, s35, s36, s37, s38, s39, s40, s41, s42, s43, s44, s45, s46, s47, s48, s49, s50, s51, s52, s53, s54, s55, s56, s57, s58, s59, s60, s61, s62, s63, s64, s65, s66, s67, s68, s69, s70, s71, s72, s73, s74, s75, s76, s77, s78, s79, s80, s81, s82, s83, s84, s85, s86, s87, s88, s89, s90, s91, s92, s93, s94, s95, s96, s97, s98] = a43l0F s1 s2 s4 s5 s6 s7 s8 s9 s10 s11 := by kernel_rfl
theorem a43l0n {prog : Nat → Option AFunc} (s1 s2 s4 s5 s6 s7 s8 s9 s10 s11 : AV) (H : Heap) : (lim prog).loop a43l0s a43l0 ⟨a43l0F s1 s2 s4 s5 s6 s7 s8 s9 s10 s11, H⟩ = loopK (lim prog) a43l0s a43l0 (run (lim prog) a43l0b ⟨a43l0F s1 s2 s4 s5 s6 s7 s8 s9 s10 s11, H⟩) := lim_loop_step _ _ _ _ (by kernel_rfl)

def a43l1b : ACode :=
  .seq (.seq (.region [⟨some 31, .mov (.t 9), none⟩,
      ⟨some 32, .mov (.t 5), none⟩,
      ⟨some 33, .bin .mul (.c (.int Go.IntKind.i64 2)) (.t 32), none⟩,
      ⟨some 34, .bin .lss (.t 31) (.t 33), none⟩])
   (.cond (.t 34)
    (.skip)
    (.exit 2)))
  (.seq (.block 3 (.seq (.region [⟨some 10, .mov (.c (.sl true 0 [])), none⟩])
     (.seq (.seq (.region [⟨some 11, .mov (.c (.int Go.IntKind.i64 0)), none⟩])
       (.block 4 (.loop a43l0s a43l0)))
      (.fzs 10 (.region [⟨some 76, .mov (.t 8), none⟩,
          ⟨some 77, .mov (.t 10), none⟩,
          ⟨some 78, .bslice true [.sl true 0 []] 1 1 [(0, (.t 77))], none⟩,
          ⟨some 79, .append false 1 24 (.t 76) (.t 78), none⟩,
          ⟨some 8, .mov (.t 79), none⟩])))))
   (.region [⟨some 35, .mov (.t 9), none⟩,
      ⟨some 36, .bin .add (.t 35) (.c (.int Go.IntKind.i64 1)), none⟩,
      ⟨some 9, .mov (.t 36), none⟩]))

def a43l1 : ACode := a43l1b
def a43l1s : List Nat := [0, 3, 10, 11, 12, 13, 14, 15, 16, 17, 18, 19, 20, 21, 22, 23, 24, 25, 26, 27, 28, 29, 30, 31, 32, 33, 34, 35, 36, 37, 38, 39, 40, 41, 42, 43, 44, 45, 46, 47, 48, 49, 50, 51, 52, 53, 54, 55, 56, 57, 58, 59, 60, 61, 62, 63, 64, 65, 66, 67, 68, 69, 70, 71, 72, 73, 74, 75, 76, 77, 78, 79, 80, 81, 82, 83, 84, 85, 86, 87, 88, 89, 90, 91, 92, 93, 94, 95, 96, 97, 98]
abbrev a43l1F (s1 s2 s4 s5 s6 s7 s8 s9 : AV) : List AV := [.any, s1, s2, .any, s4, s5, s6, s7, s8, s9, .any, .any, .any, .any, .any, .any, .any, .any, .any, .any, .any, .any, .any, .any, .any, .any, .any, .any, .any, .any, .any, .any, .any, .any, .any, .any, .any, .any, .any, .any, .any, .any, .any, .any, .any, .any, .any, .any, .any, .any, .any, .any, .any, .any, .any, .any, .any, .any, .any, .any, .any, .any, .any, .any, .any, .any, .any, .any, .any, .any, .any, .any, .any, .any, .any, .any, .any, .any, .any, .any, .any, .any, .any, .any, .any, .any, .any, .any, .any, .any, .any, .any, .any, .any, .any, .any, .any, .any, .any]
theorem a43l1c (s0 s1 s2 s3 s4 s5 s6 s7 s8 s9 s10 s11 s12 s13 s14 s15 s16 s17 s18 s19 s20 s21 s22 s23 s24 s25 s26 s27 s28 s29 s30 s31 s32 s33 s34 s35 s36 s37 s38 s39 s40 s41 s42 s43 s44 s45 s46 s47 s48 s49 s50 s51 s52 s53 s54 s55 s56 s57 s58 s59 s60 s61 s62 s63 s64 s65 s66 s67 s68 s69 s70 s71 s72 s73 s74 s75 s76 s77 s78 s79 s80 s81 s82 s83 s84 s85 s86 s87 s88 s89 s90 s91 s92 s93 s94 s95 s96 s97 s98 : AV) : clearA a43l1s [s0, s1, s2, s3, s4, s5, s6, s7, s8, s9, s10, s11, s12, s13, s14, s15, s16, s17, s18, s19, s20, s21, s22, s23, s24, s25, s26, s27, s28, s29, s30, s31, s32, s33, s34, s35, s36, s37, s38, s39, s40, s41, s42, s43, s44, s45, s46, s47, s48, s49, s50, s51, s52, s53, s54, s55, s56, s57, s58, s59, s60, s61, s62, s63, s64, s65, s66, s67, s68, s69, s70, s71, s72, s73, s74, s75, s76, s77, s78, s79, s80, s81, s82, s83, s84, s85, s86, s87, s88, s89, s90, s91, s92, s93, s94, s95, s96, s97, s98] = a43l1F s1 s2 s4 s5 s6 s7 s8 s9 := by kernel_rfl
theorem a43l1n {prog : Nat → Option AFunc} (s1 s2 s4 s5 s6 s7 s8 s9 : AV) (H : Heap) : (lim prog).loop a43l1s a43l1 ⟨a43l1F s1 s2 s4 s5 s6 s7 s8 s9, H⟩ = loopK (lim prog) a43l1s a43l1 (run (lim prog) a43l1b ⟨a43l1F s1 s2 s4 s5 s6 s7 s8 s9, H⟩) := lim_loop_step _ _ _ _ (by kernel_rfl)

def a43l2b : ACode :=
  .seq (.seq (.region [⟨some 25, .mov (.t 7), none⟩,
      ⟨some 26, .mov (.t 5), none⟩,
      ⟨some 27, .bin .mul (.c (.int Go.IntKind.i64 2)) (.t 26), none⟩,
      ⟨some 28, .bin .lss (.t 25) (.t 27), none⟩])
   (.cond (.t 28)
    (.skip)
    (.exit 0)))
  (.seq (.block 1 (.seq (.region [⟨some 8, .mov (.c (.sl true 0 [])), none⟩])
     (.seq (.seq (.region [⟨some 9, .mov (.c (.int Go.IntKind.i64 0)), none⟩])
       (.block 2 (.loop a43l1s a43l1)))
      (.seq (.fzs 8 (.region [⟨some 80, .faddr 2 (.t 6), none⟩,
           ⟨some 81, .load false 1 (.t 80), none⟩,
           ⟨some 82, .mov (.t 8), none⟩,
           ⟨some 83, .bslice true [.sl true 0 []] 1 1 [(0, (.t 82))], none⟩,
           ⟨some 84, .append false 1 24 (.t 81) (.t 83), none⟩,
           ⟨some 85, .faddr 2 (.t 6), none⟩,
           ⟨none, .store 1 (.t 85) (.t 84), none⟩]))
       (.draw 5 [⟨some 86, .faddr 3 (.t 6), none⟩,
          ⟨some 87, .load false 1 (.t 86), none⟩,
          ⟨some 88, .faddr 3 (.t 2), none⟩,
          ⟨some 89, .load false 1 (.t 88), none⟩,
          ⟨some 90, .mov (.t 7), none⟩,
          ⟨some 91, .mov (.t 5), none⟩,
          ⟨some 92, .bin .rem (.t 90) (.t 91), none⟩,
          ⟨some 93, .iaddr 1 (.t 89) (.t 92), none⟩,
          ⟨some 94, .load false 1 (.t 93), none⟩,
          ⟨some 95, .bslice true [.bool false] 1 1 [(0, (.t 94))], none⟩,
          ⟨some 96, .append false 1 1 (.t 87) (.t 95), none⟩,
          ⟨some 97, .faddr 3 (.t 6), none⟩,
          ⟨none, .store 1 (.t 97) (.t 96), none⟩])))))
   (.region [⟨some 29, .mov (.t 7), none⟩,
      ⟨some 30, .bin .add (.t 29) (.c (.int Go.IntKind.i64 1)), none⟩,
      ⟨some 7, .mov (.t 30), none⟩]))

def a43l2 : ACode := a43l2b
def a43l2s : List Nat := [0, 3, 8, 9, 10, 11, 12, 13, 14, 15, 16, 17, 18, 19, 20, 21, 22, 23, 24, 25, 26, 27, 28, 29, 30, 31, 32, 33, 34, 35, 36, 37, 38, 39, 40, 41, 42, 43, 44, 45, 46, 47, 48, 49, 50, 51, 52, 53, 54, 55, 56, 57, 58, 59, 60, 61, 62, 63, 64, 65, 66, 67, 68, 69, 70, 71, 72, 73, 74, 75, 76, 77, 78, 79, 80, 81, 82, 83, 84, 85, 86, 87, 88, 89, 90, 91, 92, 93, 94, 95, 96, 97, 98]
abbrev a43l2F (s1 s2 s4 s5 s6 s7 : AV) : List AV := [.any, s1, s2, .any, s4, s5, s6, s7, .any, .any, .any, .any, .any, .any, .any, .any, .any, .any, .any, .any, .any, .any, .any, .any, .any, .any, .any, .any, .any, .any, .any, .any, .any, .any, .any, .any, .any, .any, .any, .any, .any, .any, .any, .any, .any, .any, .any, .any, .any, .any, .any, .any, .any, .any, .any, .any, .any, .any, .any, .any, .any, .any, .any, .any, .any, .any, .any, .any, .any, .any, .any, .any, .any, .any, .any, .any, .any, .any, .any, .any, .any, .any, .any, .any, .any, .any, .any, .any, .any, .any, .any, .any, .any, .any, .any, .any, .any, .any, .any]
theorem a43l2c (s0 s1 s2 s3 s4 s5 s6 s7 s8 s9 s10 s11 s12 s13 s14 s15 s16 s17 s18 s19 s20 s21 s22 s23 s24 s25 s26 s27 s28 s29 s30 s31 s32 s33 s34 s35 s36 s37 s38 s39 s40 s41 s42 s43 s44 s45 s46 s47 s48 s49 s50 s51 s52 s53 s54 s55 s56 s57 s58 s59 s60 s61 s62 s63 s64 s65 s66 s67 s68 s69 s70 s71 s72 s73 s74 s75 s76 s77 s78 s79 s80 s81 s82 s83 s84 s85 s86 s87 s88 s89 s90 s91 s92 s93 s94 s95 s96 s97 s98 : AV) : clearA a43l2s [s0, s1, s2, s3, s4, s5, s6, s7, s8, s9, s10, s11, s12, s13, s14, s15, s16, s17, s18, s19, s20, s21, s22, s23, s24, s25, s26, s27, s28, s29, s30, s31, s32, s33, s34, s35, s36, s37, s38, s39, s40, s41, s42, s43, s44, s45, s46, s47, s48, s49, s50, s51, s52, s53, s54, s55, s56, s57, s58, s59, s60, s61, s62, s63, s64, s65, s66, s67, s68, s69, s70, s71, s72, s73, s74, s75, s76, s77, s78, s79, s80, s81, s82, s83, s84, s85, s86, s87, s88, s89, s90, s91, s92, s93, s94, s95, s96, s97, s98] = a43l2F s1 s2 s4 s5 s6 s7 := by kernel_rfl
theorem a43l2n {prog : Nat → Option AFunc} (s1 s2 s4 s5 s6 s7 : AV) (H : Heap) : (lim prog).loop a43l2s a43l2 ⟨a43l2F s1 s2 s4 s5 s6 s7, H⟩ = loopK (lim prog) a43l2s a43l2 (run (lim prog) a43l2b ⟨a43l2F s1 s2 s4 s5 s6 s7, H⟩) := lim_loop_step _ _ _ _ (by kernel_rfl)

/-- sentinel/sentinellaw19.doubled -/
def a43 : AFunc := ⟨99,
  .seq (.region [⟨some 2, .box (.t 0), none⟩,
     ⟨some 4, .box (.c (.agg [.int Go.IntKind.i64 0, .int Go.IntKind.i64 0, .sl true 0 [], .sl true 0 []])), none⟩])
  (.seq (.region [⟨some 12, .faddr 2 (.t 2), none⟩,
      ⟨some 13, .load false 1 (.t 12), none⟩,
      ⟨some 14, .len (.t 13), none⟩,
      ⟨some 5, .mov (.t 14), none⟩])
   (.seq (.region [⟨some 15, .faddr 0 (.t 2), none⟩,
       ⟨some 16, .load false 1 (.t 15), none⟩,
       ⟨some 17, .faddr 1 (.t 2), none⟩,
       ⟨some 18, .load false 1 (.t 17), none⟩,
       ⟨some 19, .mov (.t 5), none⟩,
       ⟨some 20, .mov (.t 1), none⟩,
       ⟨some 21, .bin .and (.t 20) (.c (.int Go.IntKind.i64 1)), none⟩,
       ⟨some 22, .bin .mul (.t 19) (.t 21), none⟩,
       ⟨some 23, .bin .add (.t 18) (.t 22), none⟩,
       ⟨some 24, .build [.int Go.IntKind.i64 0, .int Go.IntKind.i64 0, .sl true 0 [], .sl true 0 []] [(0, 1, (.t 16)), (1, 1, (.t 23))], none⟩,
       ⟨some 6, .box (.c (.agg [.int Go.IntKind.i64 0, .int Go.IntKind.i64 0, .sl true 0 [], .sl true 0 []])), none⟩,
       ⟨none, .store 4 (.t 6) (.t 24), none⟩])
    (.seq (.seq (.region [⟨some 7, .mov (.c (.int Go.IntKind.i64 0)), none⟩])
      (.block 0 (.loop a43l2s a43l2)))
     (.seq (.region [⟨some 98, .load true 4 (.t 6), none⟩,
         ⟨none, .store 4 (.t 4) (.t 98), none⟩])
      (.ret))))),
  [.cell 4 true 4]⟩

def a45l0b : ACode :=
  .seq (.region [⟨some 38, .bin .lss (.t 37) (.c (.int Go.IntKind.i64 2)), none⟩])
  (.seq (.cond (.t 38)
    (.skip)
    (.exit 1))
   (.seq (.block 2 (.seq (.region [⟨some 39, .idx false 1 2 (.t 36) (.t 37), none⟩,
         ⟨some 4, .mov (.t 39), none⟩])
      (.seq (.region [⟨some 40, .mov (.t 4), none⟩,
          ⟨some 41, .faddr 1 (.t 1), none⟩,
          ⟨some 42, .load false 1 (.t 41), none⟩,
          ⟨some 43, .call 89 [(.t 40), (.t 42)], none⟩,
          ⟨some 5, .mov (.t 43), none⟩])
       (.seq (.region [⟨some 44, .mov (.t 5), none⟩,
           ⟨some 45, .bin .neq (.t 44) (.c (.int Go.IntKind.i64 0)), none⟩])
        (.cond (.t 45)
         (.seq (.region [⟨some 46, .mov (.t 5), none⟩,
             ⟨some 2, .mov (.t 46), none⟩])
          (.ret))
         (.skip))))))
    (.region [⟨some 47, .bin .add (.t 37) (.c (.int Go.IntKind.i64 1)), none⟩,
       ⟨some 37, .mov (.t 47), none⟩])))

def a45l0 : ACode := a45l0b
def a45l0s : List Nat := [0, 3, 4, 5, 6, 7, 8, 9, 10, 11, 12, 13, 14, 15, 16, 17, 18, 19, 20, 21, 22, 23, 24, 25, 26, 27, 28, 29, 30, 31, 32, 33, 34, 35, 38, 39, 40, 41, 42, 43, 44, 45, 46, 47, 48, 49, 50, 51, 52, 53, 54, 55, 56, 57, 58, 59, 60, 61, 62, 63, 64, 65, 66, 67, 68, 69, 70, 71, 72, 73, 74, 75, 76, 77, 78, 79, 80, 81, 82, 83, 84, 85, 86]
abbrev a45l0F (s1 s2 s36 s37 : AV) : List AV := [.any, s1, s2, .any, .any, .any, .any, .any, .any, .any, .any, .any, .any, .any, .any, .any, .any, .any, .any, .any, .any, .any, .any, .any, .any, .any, .any, .any, .any, .any, .any, .any, .any, .any, .any, .any, s36, s37, .any, .any, .any, .any, .any, .any, .any, .any, .any, .any, .any, .any, .any, .any, .any, .any, .any, .any, .any, .any, .any, .any, .any, .any, .any, .any, .any, .any, .any, .any, .any, .any, .any, .any, .any, .any, .any, .any, .any, .any, .any, .any, .any, .any, .any, .any, .any, .any, .any]
theorem a45l0c (s0 s1 s2 s3 s4 s5 s6 s7 s8 s9 s10 s11 s12 s13 s14 s15 s16 s17 s18 s19 s20 s21 s22 s23 s24 s25 s26 s27 s28 s29 s30 s31 s32 s33 s34 s35 s36 s37 s38 s39 s40 s41 s42 s43 s44 s45 s46 s47 s48 s49 s50 s51 s52 s53 s54 s55 s56 s57 s58 s59 s60 s61 s62 s63 s64 s65 s66 s67 s68 s69 s70 s71 s72 s73 s74 s75 s76 s77 s78 s79 s80 s81 s82 s83 s84 s85 s86 : AV) : clearA a45l0s [s0, s1, s2, s3, s4, s5, s6, s7, s8, s9, s10, s11, s12, s13, s14, s15, s16, s17, s18, s19, s20, s21, s22, s23, s24, s25, s26, s27, s28, s29, s30, s31, s32, s33, s34, s35, s36, s37, s38, s39, s40, s41, s42, s43, s44, s45, s46, s47, s48, s49, s50, s51, s52, s53, s54, s55, s56, s57, s58, s59, s60, s61, s62, s63, s64, s65, s66, s67, s68, s69, s70, s71, s72, s73, s74, s75, s76, s77, s78, s79, s80, s81, s82, s83, s84, s85, s86] = a45l0F s1 s2 s36 s37 := by kernel_rfl
theorem a45l0n {prog : Nat → Option AFunc} (s1 s2 s36 s37 : AV) (H : Heap) : (lim prog).loop a45l0s a45l0 ⟨a45l0F s1 s2 s36 s37, H⟩ = loopK (lim prog) a45l0s a45l0 (run (lim prog) a45l0b ⟨a45l0F s1 s2 s36 s37, H⟩) := lim_loop_step _ _ _ _ (by kernel_rfl)

def a45l1b : ACode :=
  .seq (.region [⟨some 52, .bin .lss (.t 51) (.t 50), none⟩])
  (.seq (.cond (.t 52)
    (.skip)
    (.exit 3))
   (.seq (.block 4 (.seq (.region [⟨some 53, .iaddr 5 (.t 49) (.t 51), none⟩,
         ⟨some 54, .load true 5 (.t 53), none⟩,
         ⟨some 7, .box (.c (.agg [.int Go.IntKind.i64 0, .int Go.IntKind.i64 0, .int Go.IntKind.i64 0, .int Go.IntKind.u8 0, .int Go.IntKind.u8 0])), none⟩,
         ⟨none, .store 5 (.t 7) (.t 54), none⟩])
      (.seq (.seq (.region [⟨some 55, .faddr 0 (.t 7), none⟩,
           ⟨some 56, .load false 1 (.t 55), none⟩,
           ⟨some 57, .faddr 1 (.t 7), none⟩,
           ⟨some 58, .load false 1 (.t 57), none⟩,
           ⟨some 59, .faddr 2 (.t 7), none⟩,
           ⟨some 60, .load false 1 (.t 59), none⟩,
           ⟨some 61, .mm false [(.t 56), (.t 58), (.t 60)], none⟩,
           ⟨some 62, .bin .lss (.t 61) (.c (.int Go.IntKind.i64 0)), none⟩,
           ⟨some 63, .mov (.t 62), none⟩,
           ⟨some 64, .faddr 0 (.t 7), some (63, false)⟩,
           ⟨some 65, .load false 1 (.t 64), some (63, false)⟩,
           ⟨some 66, .faddr 1 (.t 7), some (63, false)⟩,
           ⟨some 67, .load false 1 (.t 66), some (63, false)⟩,
           ⟨some 68, .faddr 2 (.t 7), some (63, false)⟩,
           ⟨some 69, .load false 1 (.t 68), some (63, false)⟩,
           ⟨some 70, .mm true [(.t 65), (.t 67), (.t 69)], some (63, false)⟩,
           ⟨some 71, .faddr 1 (.t 1), some (63, false)⟩,
           ⟨some 72, .load false 1 (.t 71), some (63, false)⟩,
           ⟨some 73, .bin .geq (.t 70) (.t 72), some (63, false)⟩,
           ⟨some 74, .pick (.t 63) (.c (.bool true)) (.t 73), none⟩])
        (.cond (.t 74)
         (.seq (.region [⟨some 2, .mov (.c (.int Go.IntKind.i64 8)), none⟩])
          (.ret))
         (.skip)))
       (.seq (.region [⟨some 75, .faddr 3 (.t 7), none⟩,
           ⟨some 76, .load false 1 (.t 75), none⟩,
           ⟨some 77, .faddr 4 (.t 7), none⟩,
           ⟨some 78, .load false 1 (.t 77), none⟩,
           ⟨some 79, .build [.int Go.IntKind.u8 0, .int Go.IntKind.u8 0] [(0, 1, (.t 76)), (1, 1, (.t 78))], none⟩,
           ⟨some 80, .faddr 0 (.t 1), none⟩,
           ⟨some 81, .load false 1 (.t 80), none⟩,
           ⟨some 82, .call 90 [(.t 79), (.t 81)], none⟩,
           ⟨some 8, .mov (.t 82), none⟩])
        (.seq (.region [⟨some 83, .mov (.t 8), none⟩,
            ⟨some 84, .bin .neq (.t 83) (.c (.int Go.IntKind.i64 0)), none⟩])
         (.cond (.t 84)
          (.seq (.region [⟨some 85, .mov (.t 8), none⟩,
              ⟨some 2, .mov (.t 85), none⟩])
           (.ret))
          (.skip)))))))
    (.region [⟨some 86, .bin .add (.t 51) (.c (.int Go.IntKind.i64 1)), none⟩,
       ⟨some 51, .mov (.t 86), none⟩])))

def a45l1 : ACode := a45l1b
def a45l1s : List Nat := [0, 3, 4, 5, 6, 7, 8, 9, 10, 11, 12, 13, 14, 15, 16, 17, 18, 19, 20, 21, 22, 23, 24, 25, 26, 27, 28, 29, 30, 31, 32, 33, 34, 35, 36, 37, 38, 39, 40, 41, 42, 43, 44, 45, 46, 47, 48, 52, 53, 54, 55, 56, 57, 58, 59, 60, 61, 62, 63, 64, 65, 66, 67, 68, 69, 70, 71, 72, 73, 74, 75, 76, 77, 78, 79, 80, 81, 82, 83, 84, 85, 86]
abbrev a45l1F (s1 s2 s49 s50 s51 : AV) : List AV := [.any, s1, s2, .any, .any, .any, .any, .any, .any, .any, .any, .any, .any, .any, .any, .any, .any, .any, .any, .any, .any, .any, .any, .any, .any, .any, .any, .any, .any, .any, .any, .any, .any, .any, .any, .any, .any, .any, .any, .any, .any, .any, .any, .any, .any, .any, .any, .any, .any, s49, s50, s51, .any, .any, .any, .any, .any, .any, .any, .any, .any, .any, .any, .any, .any, .any, .any, .any, .any, .any, .any, .any, .any, .any, .any, .any, .any, .any, .any, .any, .any, .any, .any, .any, .any, .any, .any]
theorem a45l1c (s0 s1 s2 s3 s4 s5 s6 s7 s8 s9 s10 s11 s12 s13 s14 s15 s16 s17 s18 s19 s20 s21 s22 s23 s24 s25 s26 s27 s28 s29 s30 s31 s32 s33 s34 s35 s36 s37 s38 s39 s40 s41 s42 s43 s44 s45 s46 s47 s48 s49 s50 s51 s52 s53 s54 s55 s56 s57 s58 s59 s60 s61 s62 s63 s64 s65 s66 s67 s68 s69 s70 s71 s72 s73 s74 s75 s76 s77 s78 s79 s80 s81 s82 s83 s84 s85 s86 : AV) : clearA a45l1s [s0, s1, s2, s3, s4, s5, s6, s7, s8, s9, s10, s11, s12, s13, s14, s15, s16, s17, s18, s19, s20, s21, s22, s23, s24, s25, s26, s27, s28, s29, s30, s31, s32, s33, s34, s35, s36, s37, s38, s39, s40, s41, s42, s43, s44, s45, s46, s47, s48, s49, s50, s51, s52, s53, s54, s55, s56, s57, s58, s59, s60, s61, s62, s63, s64, s65, s66, s67, s68, s69, s70, s71, s72, s73, s74, s75, s76, s77, s78, s79, s80, s81, s82, s83, s84, s85, s86] = a45l1F s1 s2 s49 s50 s51 := by kernel_rfl
theorem a45l1n {prog : Nat → Option AFunc} (s1 s2 s49 s50 s51 : AV) (H : Heap) : (lim prog).loop a45l1s a45l1 ⟨a45l1F s1 s2 s49 s50 s51, H⟩ = loopK (lim prog) a45l1s a45l1 (run (lim prog) a45l1b ⟨a45l1F s1 s2 s49 s50 s51, H⟩) := lim_loop_step _ _ _ _ (by kernel_rfl)

/-- sentinel/treeaut.Check -/
def a45 : AFunc := ⟨87,
  .seq (.region [⟨some 1, .box (.t 0), none⟩,
     ⟨some 2, .mov (.c (.int Go.IntKind.i64 0)), none⟩])
  (.seq (.block 0 (.seq (.region [⟨some 10, .faddr 0 (.t 1), none⟩,
        ⟨some 11, .load false 1 (.t 10), none⟩,
        ⟨some 12, .bin .lss (.t 11) (.c (.int Go.IntKind.i64 0)), none⟩,
        ⟨some 13, .mov (.t 12), none⟩,
        ⟨some 14, .faddr 0 (.t 1), some (13, false)⟩,
        ⟨some 15, .load false 1 (.t 14), some (13, false)⟩,
        ⟨some 16, .bin .gtr (.t 15) (.c (.int Go.IntKind.i64 3)), some (13, false)⟩,
        ⟨some 17, .pick (.t 13) (.c (.bool true)) (.t 16), none⟩,
        ⟨some 9, .mov (.t 17), none⟩])
     (.cond (.t 9)
      (.seq (.region [⟨some 2, .mov (.c (.int Go.IntKind.i64 7)), none⟩])
       (.ret))
      (.seq (.region [⟨some 19, .faddr 1 (.t 1), none⟩,
          ⟨some 20, .load false 1 (.t 19), none⟩,
          ⟨some 21, .bin .lss (.t 20) (.c (.int Go.IntKind.i64 0)), none⟩,
          ⟨some 18, .mov (.t 21), none⟩])
       (.cond (.t 18)
        (.seq (.region [⟨some 2, .mov (.c (.int Go.IntKind.i64 1)), none⟩])
         (.ret))
        (.seq (.region [⟨some 23, .faddr 1 (.t 1), none⟩,
            ⟨some 24, .load false 1 (.t 23), none⟩,
            ⟨some 25, .bin .gtr (.t 24) (.c (.int Go.IntKind.i64 64)), none⟩,
            ⟨some 26, .mov (.t 25), none⟩,
            ⟨some 27, .faddr 4 (.t 1), some (26, false)⟩,
            ⟨some 28, .load false 1 (.t 27), some (26, false)⟩,
            ⟨some 29, .len (.t 28), some (26, false)⟩,
            ⟨some 30, .bin .gtr (.t 29) (.c (.int Go.IntKind.i64 512)), some (26, false)⟩,
            ⟨some 31, .pick (.t 26) (.c (.bool true)) (.t 30), none⟩,
            ⟨some 22, .mov (.t 31), none⟩])
         (.cond (.t 22)
          (.seq (.region [⟨some 2, .mov (.c (.int Go.IntKind.i64 4)), none⟩])
           (.ret))
          (.skip))))))))
   (.seq (.seq (.region [⟨some 32, .faddr 2 (.t 1), none⟩,
        ⟨some 33, .load false 1 (.t 32), none⟩,
        ⟨some 34, .faddr 3 (.t 1), none⟩,
        ⟨some 35, .load false 1 (.t 34), none⟩,
        ⟨some 36, .build [.sl true 0 [], .sl true 0 []] [(0, 1, (.t 33)), (1, 1, (.t 35))], none⟩,
        ⟨some 37, .mov (.c (.int Go.IntKind.i64 0)), none⟩])
     (.block 1 (.loop a45l0s a45l0)))
    (.seq (.seq (.region [⟨some 48, .faddr 4 (.t 1), none⟩,
         ⟨some 49, .load false 1 (.t 48), none⟩,
         ⟨some 50, .len (.t 49), none⟩,
         ⟨some 51, .mov (.c (.int Go.IntKind.i64 0)), none⟩])
      (.block 3 (.loop a45l1s a45l1)))
     (.seq (.region [⟨some 2, .mov (.c (.int Go.IntKind.i64 0)), none⟩])
      (.ret))))),
  [.tmp 2]⟩

/-- sentinel/treedet.Check$1 -/
def a52 : AFunc := ⟨11,
  .seq (.region [⟨some 3, .mov (.c (.bool false)), none⟩])
  (.seq (.region [⟨some 4, .mov (.t 0), none⟩,
      ⟨some 5, .bin .geq (.t 4) (.c (.int Go.IntKind.i64 0)), none⟩,
      ⟨some 6, .mov (.t 5), none⟩,
      ⟨some 7, .mov (.t 0), some (6, true)⟩,
      ⟨some 8, .load false 1 (.t 1), some (6, true)⟩,
      ⟨some 9, .bin .lss (.t 7) (.t 8), some (6, true)⟩,
      ⟨some 10, .pick (.t 6) (.t 9) (.c (.bool false)), none⟩,
      ⟨some 3, .mov (.t 10), none⟩])
   (.ret)),
  [.tmp 3]⟩

/-- sentinel/treedet.both -/
def a53 : AFunc := ⟨15,
  .seq (.region [⟨some 2, .box (.t 0), none⟩,
     ⟨some 4, .mov (.c (.int Go.IntKind.i64 0)), none⟩])
  (.seq (.seq (.region [⟨some 6, .load true 4 (.t 2), none⟩,
       ⟨some 7, .call 14 [(.t 6)], none⟩,
       ⟨some 5, .mov (.t 7), none⟩])
    (.seq (.region [⟨some 8, .mov (.t 5), none⟩,
        ⟨some 9, .bin .neq (.t 8) (.c (.int Go.IntKind.i64 0)), none⟩])
     (.cond (.t 9)
      (.seq (.region [⟨some 10, .mov (.t 5), none⟩,
          ⟨some 4, .mov (.t 10), none⟩])
       (.ret))
      (.skip))))
   (.seq (.region [⟨some 11, .mov (.t 1), none⟩,
       ⟨some 12, .faddr 0 (.t 2), none⟩,
       ⟨some 13, .load false 1 (.t 12), none⟩,
       ⟨some 14, .call 99 [(.t 11), (.t 13)], none⟩,
       ⟨some 4, .mov (.t 14), none⟩])
    (.ret))),
  [.tmp 4]⟩

def a54l0b : ACode :=
  .seq (.seq (.region [⟨some 22, .mov (.t 8), none⟩,
      ⟨some 23, .bin .geq (.t 22) (.c (.int Go.IntKind.i64 0)), none⟩])
   (.cond (.t 23)
    (.skip)
    (.exit 0)))
  (.seq (.block 1 (.draw 27 [⟨some 26, .load false 1 (.t 6), none⟩,
       ⟨some 27, .mov (.t 8), none⟩,
       ⟨some 28, .faddr 2 (.t 2), none⟩,
       ⟨some 29, .load false 1 (.t 28), none⟩,
       ⟨some 30, .mov (.t 7), none⟩,
       ⟨some 31, .mov (.t 1), none⟩,
       ⟨some 32, .mov (.t 8), none⟩,
       ⟨some 33, .iaddr 3 (.t 31) (.t 32), none⟩,
       ⟨some 34, .faddr 1 (.t 33), none⟩,
       ⟨some 35, .load false 1 (.t 34), none⟩,
       ⟨some 36, .fcall (.t 30) [(.t 35)], none⟩,
       ⟨some 37, .iaddr 1 (.t 29) (.t 36), none⟩,
       ⟨some 38, .load false 1 (.t 37), none⟩,
       ⟨some 39, .mov (.t 7), none⟩,
       ⟨some 40, .mov (.t 1), none⟩,
       ⟨some 41, .mov (.t 8), none⟩,
       ⟨some 42, .iaddr 3 (.t 40) (.t 41), none⟩,
       ⟨some 43, .faddr 2 (.t 42), none⟩,
       ⟨some 44, .load false 1 (.t 43), none⟩,
       ⟨some 45, .fcall (.t 39) [(.t 44)], none⟩,
       ⟨some 46, .iaddr 1 (.t 38) (.t 45), none⟩,
       ⟨some 47, .load false 1 (.t 46), none⟩,
       ⟨some 48, .mov (.t 1), none⟩,
       ⟨some 49, .mov (.t 8), none⟩,
       ⟨some 50, .iaddr 3 (.t 48) (.t 49), none⟩,
       ⟨some 51, .faddr 0 (.t 50), none⟩,
       ⟨some 52, .load false 1 (.t 51), none⟩,
       ⟨some 53, .iaddr 1 (.t 47) (.t 52), none⟩,
       ⟨some 54, .load false 1 (.t 53), none⟩,
       ⟨some 55, .iaddr 1 (.t 26) (.t 27), none⟩,
       ⟨none, .store 1 (.t 55) (.t 54), none⟩]))
   (.region [⟨some 24, .mov (.t 8), none⟩,
      ⟨some 25, .bin .sub (.t 24) (.c (.int Go.IntKind.i64 1)), none⟩,
      ⟨some 8, .mov (.t 25), none⟩]))

def a54l0 : ACode := a54l0b
def a54l0s : List Nat := [0, 3, 4, 5, 9, 10, 11, 12, 13, 14, 15, 16, 17, 18, 19, 20, 21, 22, 23, 24, 25, 26, 27, 28, 29, 30, 31, 32, 33, 34, 35, 36, 37, 38, 39, 40, 41, 42, 43, 44, 45, 46, 47, 48, 49, 50, 51, 52, 53, 54, 55, 56]
abbrev a54l0F (s1 s2 s6 s7 s8 : AV) : List AV := [.any, s1, s2, .any, .any, .any, s6, s7, s8, .any, .any, .any, .any, .any, .any, .any, .any, .any, .any, .any, .any, .any, .any, .any, .any, .any, .any, .any, .any, .any, .any, .any, .any, .any, .any, .any, .any, .any, .any, .any, .any, .any, .any, .any, .any, .any, .any, .any, .any, .any, .any, .any, .any, .any, .any, .any, .any]
theorem a54l0c (s0 s1 s2 s3 s4 s5 s6 s7 s8 s9 s10 s11 s12 s13 s14 s15 s16 s17 s18 s19 s20 s21 s22 s23 s24 s25 s26 s27 s28 s29 s30 s31 s32 s33 s34 s35 s36 s37 s38 s39 s40 s41 s42 s43 s44 s45 s46 s47 s48 s49 s50 s51 s52 s53 s54 s55 s56 : AV) : clearA a54l0s [s0, s1, s2, s3, s4, s5, s6, s7, s8, s9, s10, s11, s12, s13, s14, s15, s16, s17, s18, s19, s20, s21, s22, s23, s24, s25, s26, s27, s28, s29, s30, s31, s32, s33, s34, s35, s36, s37, s38, s39, s40, s41, s42, s43, s44, s45, s46, s47, s48, s49, s50, s51, s52, s53, s54, s55, s56] = a54l0F s1 s2 s6 s7 s8 := by kernel_rfl
theorem a54l0n {prog : Nat → Option AFunc} (s1 s2 s6 s7 s8 : AV) (H : Heap) : (lim prog).loop a54l0s a54l0 ⟨a54l0F s1 s2 s6 s7 s8, H⟩ = loopK (lim prog) a54l0s a54l0 (run (lim prog) a54l0b ⟨a54l0F s1 s2 s6 s7 s8, H⟩) := lim_loop_step _ _ _ _ (by kernel_rfl)

/-- sentinel/treedet.run -/
def a54 : AFunc := ⟨57,
  .seq (.region [⟨some 2, .box (.t 0), none⟩,
     ⟨some 4, .mov (.c (.sl true 0 [])), none⟩])
  (.seq (.region [⟨some 9, .mov (.t 1), none⟩,
      ⟨some 10, .len (.t 9), none⟩,
      ⟨some 5, .box (.c (.int Go.IntKind.i64 0)), none⟩,
      ⟨none, .store 1 (.t 5) (.t 10), none⟩])
   (.seq (.region [⟨some 11, .load false 1 (.t 5), none⟩,
       ⟨some 12, .bin .add (.t 11) (.c (.int Go.IntKind.i64 1)), none⟩,
       ⟨some 13, .mkslice false [.int Go.IntKind.i64 0] 8 (.t 12) (.t 12), none⟩,
       ⟨some 6, .box (.c (.sl true 0 [])), none⟩,
       ⟨none, .store 1 (.t 6) (.t 13), none⟩])
    (.seq (.region [⟨some 14, .load false 1 (.t 6), none⟩,
        ⟨some 15, .load false 1 (.t 5), none⟩,
        ⟨some 16, .faddr 1 (.t 2), none⟩,
        ⟨some 17, .load false 1 (.t 16), none⟩,
        ⟨some 18, .iaddr 1 (.t 14) (.t 15), none⟩,
        ⟨none, .store 1 (.t 18) (.t 17), none⟩])
     (.seq (.region [⟨some 19, .mkfunc 100 [(.t 5), (.t 6)], none⟩,
         ⟨some 7, .mov (.t 19), none⟩])
      (.seq (.seq (.region [⟨some 20, .load false 1 (.t 5), none⟩,
           ⟨some 21, .bin .sub (.t 20) (.c (.int Go.IntKind.i64 1)), none⟩,
           ⟨some 8, .mov (.t 21), none⟩])
        (.block 0 (.loop a54l0s a54l0)))
       (.seq (.region [⟨some 56, .load false 1 (.t 6), none⟩,
           ⟨some 4, .mov (.t 56), none⟩])
        (.ret))))))),
  [.tmp 4]⟩

/-- sentinel/treedet.renumber -/
def a56 : AFunc := ⟨23,
  .seq (.region [⟨some 1, .box (.t 0), none⟩,
     ⟨some 2, .box (.c (.agg [.int Go.IntKind.i64 0, .int Go.IntKind.i64 0, .sl true 0 [], .sl true 0 []])), none⟩])
  (.seq (.region [⟨some 5, .mkmap, none⟩,
      ⟨some 6, .faddr 1 (.t 1), none⟩,
      ⟨some 7, .load false 1 (.t 6), none⟩,
      ⟨none, .mupd [0] (.t 5) (.t 7) (.c (.int Go.IntKind.i64 0)), none⟩,
      ⟨some 8, .mov (.t 5), none⟩,
      ⟨some 3, .box (.c (.nilm)), none⟩,
      ⟨none, .store 1 (.t 3) (.t 8), none⟩])
   (.seq (.region [⟨some 9, .faddr 1 (.t 1), none⟩,
       ⟨some 10, .load false 1 (.t 9), none⟩,
       ⟨some 11, .bslice false [.int Go.IntKind.i64 0] 1 1 [(0, (.t 10))], none⟩,
       ⟨some 4, .box (.c (.sl true 0 [])), none⟩,
       ⟨none, .store 1 (.t 4) (.t 11), none⟩])
    (.seq (.region [⟨some 12, .faddr 0 (.t 1), none⟩,
        ⟨some 13, .load false 1 (.t 12), none⟩,
        ⟨some 14, .mkfunc 102 [(.t 1), (.t 4), (.t 3)], none⟩,
        ⟨some 15, .icall (.c (.func 75 [])) [(.t 13), (.t 14)], none⟩])
     (.seq (.region [⟨some 16, .faddr 0 (.t 1), none⟩,
         ⟨some 17, .load false 1 (.t 16), none⟩,
         ⟨some 18, .load false 1 (.t 4), none⟩,
         ⟨some 19, .len (.t 18), none⟩,
         ⟨some 20, .mkfunc 103 [(.t 3), (.t 1), (.t 4)], none⟩,
         ⟨some 21, .mkfunc 104 [(.t 1), (.t 4)], none⟩,
         ⟨some 22, .icall (.c (.func 61 [])) [(.t 17), (.t 19), (.t 20), (.t 21)], none⟩,
         ⟨none, .store 4 (.t 2) (.t 22), none⟩])
      (.ret))))),
  [.cell 2 true 4]⟩

def a60l0b : ACode :=
  .seq (.region [⟨some 52, .bin .lss (.t 51) (.t 50), none⟩])
  (.seq (.cond (.t 52)
    (.skip)
    (.exit 6))
   (.seq (.block 7 (.seq (.region [⟨some 53, .mov (.t 51), none⟩,
         ⟨some 10, .mov (.t 53), none⟩])
      (.seq (.region [⟨some 54, .mov (.t 8), none⟩,
          ⟨some 55, .faddr 2 (.t 1), none⟩,
          ⟨some 56, .load false 1 (.t 55), none⟩,
          ⟨some 57, .mov (.t 6), none⟩,
          ⟨some 58, .iaddr 1 (.t 56) (.t 57), none⟩,
          ⟨some 59, .load false 1 (.t 58), none⟩,
          ⟨some 60, .mov (.t 9), none⟩,
          ⟨some 61, .iaddr 1 (.t 59) (.t 60), none⟩,
          ⟨some 62, .load false 1 (.t 61), none⟩,
          ⟨some 63, .mov (.t 10), none⟩,
          ⟨some 64, .iaddr 1 (.t 62) (.t 63), none⟩,
          ⟨some 65, .load false 1 (.t 64), none⟩,
          ⟨some 66, .icall (.t 54) [(.t 65)], none⟩])
       (.region [⟨some 67, .mov (.t 8), none⟩,
          ⟨some 68, .faddr 2 (.t 1), none⟩,
          ⟨some 69, .load false 1 (.t 68), none⟩,
          ⟨some 70, .mov (.t 9), none⟩,
          ⟨some 71, .iaddr 1 (.t 69) (.t 70), none⟩,
          ⟨some 72, .load false 1 (.t 71), none⟩,
          ⟨some 73, .mov (.t 6), none⟩,
          ⟨some 74, .iaddr 1 (.t 72) (.t 73), none⟩,
          ⟨some 75, .load false 1 (.t 74), none⟩,
          ⟨some 76, .mov (.t 10), none⟩,
          ⟨some 77, .iaddr 1 (.t 75) (.t 76), none⟩,
          ⟨some 78, .load false 1 (.t 77), none⟩,
          ⟨some 79, .icall (.t 67) [(.t 78)], none⟩]))))
    (.region [⟨some 80, .bin .add (.t 51) (.c (.int Go.IntKind.i64 1)), none⟩,
       ⟨some 51, .mov (.t 80), none⟩])))

def a60l0 : ACode := a60l0b
def a60l0s : List Nat := [0, 10, 11, 12, 13, 14, 15, 16, 17, 18, 19, 20, 21, 24, 25, 26, 27, 28, 29, 30, 31, 32, 33, 34, 35, 36, 37, 40, 41, 42, 43, 44, 45, 46, 47, 48, 49, 52, 53, 54, 55, 56, 57, 58, 59, 60, 61, 62, 63, 64, 65, 66, 67, 68, 69, 70, 71, 72, 73, 74, 75, 76, 77, 78, 79, 80, 81, 82, 83, 84, 85, 86, 87, 88, 89, 90, 91, 92, 93, 94, 95, 96, 97, 98, 99, 100, 101, 102, 103, 104, 105, 106, 107, 108, 109, 110]
abbrev a60l0F (s1 s2 s3 s4 s5 s6 s7 s8 s9 s22 s23 s38 s39 s50 s51 : AV) : List AV := [.any, s1, s2, s3, s4, s5, s6, s7, s8, s9, .any, .any, .any, .any, .any, .any, .any, .any, .any, .any, .any, .any, s22, s23, .any, .any, .any, .any, .any, .any, .any, .any, .any, .any, .any, .any, .any, .any, s38, s39, .any, .any, .any, .any, .any, .any, .any, .any, .any, .any, s50, s51, .any, .any, .any, .any, .any, .any, .any, .any, .any, .any, .any, .any, .any, .any, .any, .any, .any, .any, .any, .any, .any, .any, .any, .any, .any, .any, .any, .any, .any, .any, .any, .any, .any, .any, .any, .any, .any, .any, .any, .any, .any, .any, .any, .any, .any, .any, .any, .any, .any, .any, .any, .any, .any, .any, .any, .any, .any, .any, .any]
theorem a60l0c (s0 s1 s2 s3 s4 s5 s6 s7 s8 s9 s10 s11 s12 s13 s14 s15 s16 s17 s18 s19 s20 s21 s22 s23 s24 s25 s26 s27 s28 s29 s30 s31 s32 s33 s34 s35 s36 s37 s38 s39 s40 s41 s42 s43 s44 s45 s46 s47 s48 s49 s50 s51 s52 s53 s54 s55 s56 s57 s58 s59 s60 s61 s62 s63 s64 s65 s66 s67 s68 s69 s70 s71 s72 s73 s74 s75 s76 s77 s78 s79 s80 s81 s82 s83 s84 s85 s86 s87 s88 s89 s90 s91 s92 s93 s94 s95 s96 s97 s98 s99 s100 s101 s102 s103 s104 s105 s106 s107 s108 s109 s110 : AV) : clearA a60l0s [s0, s1, s2, s3, s4, s5, s6, s7, s8, s9, s10, s11, s12, s13, s14, s15, s16, s17, s18, s19, s20, s21, s22, s23, s24, s25, s26, s27, s28, s29, s30, s31, s32, s33, s34, s35, s36, s37, s38, s39, s40, s41, s42, s43, s44, s45, s46, s47, s48, s49, s50, s51, s52, s53, s54, s55, s56, s57, s58, s59, s60, s61, s62, s63, s64, s65, s66, s67, s68, s69, s70, s71, s72, s73, s74, s75, s76, s77, s78, s79, s80, s81, s82, s83, s84, s85, s86, s87, s88, s89, s90, s91, s92, s93, s94, s95, s96, s97, s98, s99, s100, s101, s102, s103, s104, s105, s106, s107, s108, s109, s110] = a60l0F s1 s2 s3 s4 s5 s6 s7 s8 s9 s22 s23 s38 s39 s50 s51 := by kernel_rfl
theorem a60l0n {prog : Nat → Option AFunc} (s1 s2 s3 s4 s5 s6 s7 s8 s9 s22 s23 s38 s39 s50 s51 : AV) (H : Heap) : (lim prog).loop a60l0s a60l0 ⟨a60l0F s1 s2 s3 s4 s5 s6 s7 s8 s9 s22 s23 s38 s39 s50 s51, H⟩ = loopK (lim prog) a60l0s a60l0 (run (lim prog) a60l0b ⟨a60l0F s1 s2 s3 s4 s5 s6 s7 s8 s9 s22 s23 s38 s39 s50 s51, H⟩) := lim_loop_step _ _ _ _ (by kernel_rfl)

def a60l1b : ACode :=
  .seq (.region [⟨some 40, .bin .lss (.t 39) (.t 38), none⟩])
  (.seq (.cond (.t 40)
    (.skip)
    (.exit 4))
   (.seq (.block 5 (.seq (.region [⟨some 41, .mov (.t 39), none⟩,
         ⟨some 9, .mov (.t 41), none⟩])
      (.seq (.region [⟨some 42, .faddr 2 (.t 1), none⟩,
          ⟨some 43, .load false 1 (.t 42), none⟩,
          ⟨some 44, .mov (.t 6), none⟩,
          ⟨some 45, .iaddr 1 (.t 43) (.t 44), none⟩,
          ⟨some 46, .load false 1 (.t 45), none⟩,
          ⟨some 47, .mov (.t 9), none⟩,
          ⟨some 48, .iaddr 1 (.t 46) (.t 47), none⟩,
          ⟨some 49, .load false 1 (.t 48), none⟩,
          ⟨some 50, .len (.t 49), none⟩,
          ⟨some 51, .mov (.c (.int Go.IntKind.i64 0)), none⟩])
       (.block 6 (.loop a60l0s a60l0)))))
    (.region [⟨some 81, .bin .add (.t 39) (.c (.int Go.IntKind.i64 1)), none⟩,
       ⟨some 39, .mov (.t 81), none⟩])))

def a60l1 : ACode := a60l1b
def a60l1s : List Nat := [0, 9, 10, 11, 12, 13, 14, 15, 16, 17, 18, 19, 20, 21, 24, 25, 26, 27, 28, 29, 30, 31, 32, 33, 34, 35, 36, 37, 40, 41, 42, 43, 44, 45, 46, 47, 48, 49, 50, 51, 52, 53, 54, 55, 56, 57, 58, 59, 60, 61, 62, 63, 64, 65, 66, 67, 68, 69, 70, 71, 72, 73, 74, 75, 76, 77, 78, 79, 80, 81, 82, 83, 84, 85, 86, 87, 88, 89, 90, 91, 92, 93, 94, 95, 96, 97, 98, 99, 100, 101, 102, 103, 104, 105, 106, 107, 108, 109, 110]
abbrev a60l1F (s1 s2 s3 s4 s5 s6 s7 s8 s22 s23 s38 s39 : AV) : List AV := [.any, s1, s2, s3, s4, s5, s6, s7, s8, .any, .any, .any, .any, .any, .any, .any, .any, .any, .any, .any, .any, .any, s22, s23, .any, .any, .any, .any, .any, .any, .any, .any, .any, .any, .any, .any, .any, .any, s38, s39, .any, .any, .any, .any, .any, .any, .any, .any, .any, .any, .any, .any, .any, .any, .any, .any, .any, .any, .any, .any, .any, .any, .any, .any, .any, .any, .any, .any, .any, .any, .any, .any, .any, .any, .any, .any, .any, .any, .any, .any, .any, .any, .any, .any, .any, .any, .any, .any, .any, .any, .any, .any, .any, .any, .any, .any, .any, .any, .any, .any, .any, .any, .any, .any, .any, .any, .any, .any, .any, .any, .any]
theorem a60l1c (s0 s1 s2 s3 s4 s5 s6 s7 s8 s9 s10 s11 s12 s13 s14 s15 s16 s17 s18 s19 s20 s21 s22 s23 s24 s25 s26 s27 s28 s29 s30 s31 s32 s33 s34 s35 s36 s37 s38 s39 s40 s41 s42 s43 s44 s45 s46 s47 s48 s49 s50 s51 s52 s53 s54 s55 s56 s57 s58 s59 s60 s61 s62 s63 s64 s65 s66 s67 s68 s69 s70 s71 s72 s73 s74 s75 s76 s77 s78 s79 s80 s81 s82 s83 s84 s85 s86 s87 s88 s89 s90 s91 s92 s93 s94 s95 s96 s97 s98 s99 s100 s101 s102 s103 s104 s105 s106 s107 s108 s109 s110 : AV) : clearA a60l1s [s0, s1, s2, s3, s4, s5, s6, s7, s8, s9, s10, s11, s12, s13, s14, s15, s16, s17, s18, s19, s20, s21, s22, s23, s24, s25, s26, s27, s28, s29, s30, s31, s32, s33, s34, s35, s36, s37, s38, s39, s40, s41, s42, s43, s44, s45, s46, s47, s48, s49, s50, s51, s52, s53, s54, s55, s56, s57, s58, s59, s60, s61, s62, s63, s64, s65, s66, s67, s68, s69, s70, s71, s72, s73, s74, s75, s76, s77, s78, s79, s80, s81, s82, s83, s84, s85, s86, s87, s88, s89, s90, s91, s92, s93, s94, s95, s96, s97, s98, s99, s100, s101, s102, s103, s104, s105, s106, s107, s108, s109, s110] = a60l1F s1 s2 s3 s4 s5 s6 s7 s8 s22 s23 s38 s39 := by kernel_rfl
theorem a60l1n {prog : Nat → Option AFunc} (s1 s2 s3 s4 s5 s6 s7 s8 s22 s23 s38 s39 : AV) (H : Heap) : (lim prog).loop a60l1s a60l1 ⟨a60l1F s1 s2 s3 s4 s5 s6 s7 s8 s22 s23 s38 s39, H⟩ = loopK (lim prog) a60l1s a60l1 (run (lim prog) a60l1b ⟨a60l1F s1 s2 s3 s4 s5 s6 s7 s8 s22 s23 s38 s39, H⟩) := lim_loop_step _ _ _ _ (by kernel_rfl)

def a60l2b : ACode :=
  .seq (.region [⟨some 24, .bin .lss (.t 23) (.t 22), none⟩])
  (.seq (.cond (.t 24)
    (.skip)
    (.exit 2))
   (.seq (.block 3 (.seq (.region [⟨some 25, .mov (.t 23), none⟩,
         ⟨some 6, .mov (.t 25), none⟩])
      (.seq (.region [⟨some 26, .faddr 3 (.t 1), none⟩,
          ⟨some 27, .load false 1 (.t 26), none⟩,
          ⟨some 28, .mov (.t 6), none⟩,
          ⟨some 29, .iaddr 1 (.t 27) (.t 28), none⟩,
          ⟨some 30, .load false 1 (.t 29), none⟩,
          ⟨some 31, .call 105 [(.t 30)], none⟩,
          ⟨some 32, .sbytes false (.t 31), none⟩,
          ⟨some 7, .box (.c (.sl true 0 [])), none⟩,
          ⟨none, .store 1 (.t 7) (.t 32), none⟩])
       (.seq (.region [⟨some 33, .mkfunc 106 [(.t 7), (.t 2)], none⟩,
           ⟨some 8, .mov (.t 33), none⟩])
        (.seq (.region [⟨some 34, .mov (.t 8), none⟩,
            ⟨some 35, .mov (.t 6), none⟩,
            ⟨some 36, .icall (.t 34) [(.t 35)], none⟩])
         (.seq (.seq (.region [⟨some 37, .load false 1 (.t 2), none⟩,
              ⟨some 38, .len (.t 37), none⟩,
              ⟨some 39, .mov (.c (.int Go.IntKind.i64 0)), none⟩])
           (.block 4 (.loop a60l1s a60l1)))
          (.seq (.region [⟨some 83, .mov (.t 4), none⟩,
              ⟨some 84, .load false 1 (.t 7), none⟩,
              ⟨some 85, .bstr (.t 84), none⟩,
              ⟨some 86, .mlook [1] true (.int Go.IntKind.i64 0) (.t 83) (.t 85), none⟩,
              ⟨some 82, .mov (.t 86), none⟩,
              ⟨some 87, .ext 0 (.t 82), none⟩,
              ⟨some 88, .ext 1 (.t 82), none⟩,
              ⟨some 11, .mov (.t 87), none⟩,
              ⟨some 12, .mov (.t 88), none⟩])
           (.seq (.seq (.region [⟨some 89, .mov (.t 12), none⟩,
                ⟨some 90, .un .not (.t 89), none⟩])
             (.cond (.t 90)
              (.seq (.region [⟨some 91, .mov (.t 4), none⟩,
                  ⟨some 92, .mlen (.t 91), none⟩,
                  ⟨some 11, .mov (.t 92), none⟩])
               (.region [⟨some 93, .mov (.t 4), none⟩,
                  ⟨some 94, .load false 1 (.t 7), none⟩,
                  ⟨some 95, .bstr (.t 94), none⟩,
                  ⟨some 96, .mov (.t 11), none⟩,
                  ⟨none, .mupd [1] (.t 93) (.t 95) (.t 96), none⟩]))
              (.skip)))
            (.region [⟨some 97, .mov (.t 5), none⟩,
               ⟨some 98, .mov (.t 6), none⟩,
               ⟨some 99, .mov (.t 11), none⟩,
               ⟨some 100, .iaddr 1 (.t 97) (.t 98), none⟩,
               ⟨none, .store 1 (.t 100) (.t 99), none⟩])))))))))
    (.region [⟨some 101, .bin .add (.t 23) (.c (.int Go.IntKind.i64 1)), none⟩,
       ⟨some 23, .mov (.t 101), none⟩])))

def a60l2 : ACode := a60l2b
def a60l2s : List Nat := [0, 6, 7, 8, 9, 10, 11, 12, 13, 14, 15, 16, 17, 18, 19, 20, 21, 24, 25, 26, 27, 28, 29, 30, 31, 32, 33, 34, 35, 36, 37, 38, 39, 40, 41, 42, 43, 44, 45, 46, 47, 48, 49, 50, 51, 52, 53, 54, 55, 56, 57, 58, 59, 60, 61, 62, 63, 64, 65, 66, 67, 68, 69, 70, 71, 72, 73, 74, 75, 76, 77, 78, 79, 80, 81, 82, 83, 84, 85, 86, 87, 88, 89, 90, 91, 92, 93, 94, 95, 96, 97, 98, 99, 100, 101, 102, 103, 104, 105, 106, 107, 108, 109, 110]
abbrev a60l2F (s1 s2 s3 s4 s5 s22 s23 : AV) : List AV := [.any, s1, s2, s3, s4, s5, .any, .any, .any, .any, .any, .any, .any, .any, .any, .any, .any, .any, .any, .any, .any, .any, s22, s23, .any, .any, .any, .any, .any, .any, .any, .any, .any, .any, .any, .any, .any, .any, .any, .any, .any, .any, .any, .any, .any, .any, .any, .any, .any, .any, .any, .any, .any, .any, .any, .any, .any, .any, .any, .any, .any, .any, .any, .any, .any, .any, .any, .any, .any, .any, .any, .any, .any, .any, .any, .any, .any, .any, .any, .any, .any, .any, .any, .any, .any, .any, .any, .any, .any, .any, .any, .any, .any, .any, .any, .any, .any, .any, .any, .any, .any, .any, .any, .any, .any, .any, .any, .any, .any, .any, .any]
theorem a60l2c (s0 s1 s2 s3 s4 s5 s6 s7 s8 s9 s10 s11 s12 s13 s14 s15 s16 s17 s18 s19 s20 s21 s22 s23 s24 s25 s26 s27 s28 s29 s30 s31 s32 s33 s34 s35 s36 s37 s38 s39 s40 s41 s42 s43 s44 s45 s46 s47 s48 s49 s50 s51 s52 s53 s54 s55 s56 s57 s58 s59 s60 s61 s62 s63 s64 s65 s66 s67 s68 s69 s70 s71 s72 s73 s74 s75 s76 s77 s78 s79 s80 s81 s82 s83 s84 s85 s86 s87 s88 s89 s90 s91 s92 s93 s94 s95 s96 s97 s98 s99 s100 s101 s102 s103 s104 s105 s106 s107 s108 s109 s110 : AV) : clearA a60l2s [s0, s1, s2, s3, s4, s5, s6, s7, s8, s9, s10, s11, s12, s13, s14, s15, s16, s17, s18, s19, s20, s21, s22, s23, s24, s25, s26, s27, s28, s29, s30, s31, s32, s33, s34, s35, s36, s37, s38, s39, s40, s41, s42, s43, s44, s45, s46, s47, s48, s49, s50, s51, s52, s53, s54, s55, s56, s57, s58, s59, s60, s61, s62, s63, s64, s65, s66, s67, s68, s69, s70, s71, s72, s73, s74, s75, s76, s77, s78, s79, s80, s81, s82, s83, s84, s85, s86, s87, s88, s89, s90, s91, s92, s93, s94, s95, s96, s97, s98, s99, s100, s101, s102, s103, s104, s105, s106, s107, s108, s109, s110] = a60l2F s1 s2 s3 s4 s5 s22 s23 := by kernel_rfl
theorem a60l2n {prog : Nat → Option AFunc} (s1 s2 s3 s4 s5 s22 s23 : AV) (H : Heap) : (lim prog).loop a60l2s a60l2 ⟨a60l2F s1 s2 s3 s4 s5 s22 s23, H⟩ = loopK (lim prog) a60l2s a60l2 (run (lim prog) a60l2b ⟨a60l2F s1 s2 s3 s4 s5 s22 s23, H⟩) := lim_loop_step _ _ _ _ (by kernel_rfl)

def a60l3b : ACode :=
  .block 1 (.seq (.region [⟨some 17, .mkmap, none⟩,
      ⟨some 4, .mov (.t 17), none⟩])
   (.seq (.region [⟨some 18, .load false 1 (.t 2), none⟩,
       ⟨some 19, .len (.t 18), none⟩,
       ⟨some 20, .mkslice false [.int Go.IntKind.i64 0] 8 (.t 19) (.t 19), none⟩,
       ⟨some 5, .mov (.t 20), none⟩])
    (.seq (.seq (.region [⟨some 21, .load false 1 (.t 2), none⟩,
         ⟨some 22, .len (.t 21), none⟩,
         ⟨some 23, .mov (.c (.int Go.IntKind.i64 0)), none⟩])
      (.block 2 (.loop a60l2s a60l2)))
     (.seq (.seq (.region [⟨some 102, .mov (.t 4), none⟩,
          ⟨some 103, .mlen (.t 102), none⟩,
          ⟨some 104, .mov (.t 3), none⟩,
          ⟨some 105, .bin .eql (.t 103) (.t 104), none⟩])
       (.cond (.t 105)
        (.seq (.region [⟨some 106, .mov (.t 5), none⟩,
            ⟨some 107, .mov (.t 3), none⟩,
            ⟨none, .store 1 (.t 2) (.t 106), none⟩,
            ⟨some 3, .mov (.t 107), none⟩])
         (.ret))
        (.skip)))
      (.region [⟨some 108, .mov (.t 5), none⟩,
         ⟨some 109, .mov (.t 4), none⟩,
         ⟨some 110, .mlen (.t 109), none⟩,
         ⟨none, .store 1 (.t 2) (.t 108), none⟩,
         ⟨some 3, .mov (.t 110), none⟩])))))

def a60l3 : ACode := a60l3b
def a60l3s : List Nat := [0, 4, 5, 6, 7, 8, 9, 10, 11, 12, 13, 14, 15, 16, 17, 18, 19, 20, 21, 22, 23, 24, 25, 26, 27, 28, 29, 30, 31, 32, 33, 34, 35, 36, 37, 38, 39, 40, 41, 42, 43, 44, 45, 46, 47, 48, 49, 50, 51, 52, 53, 54, 55, 56, 57, 58, 59, 60, 61, 62, 63, 64, 65, 66, 67, 68, 69, 70, 71, 72, 73, 74, 75, 76, 77, 78, 79, 80, 81, 82, 83, 84, 85, 86, 87, 88, 89, 90, 91, 92, 93, 94, 95, 96, 97, 98, 99, 100, 101, 102, 103, 104, 105, 106, 107, 108, 109, 110]
abbrev a60l3F (s1 s2 s3 : AV) : List AV := [.any, s1, s2, s3, .any, .any, .any, .any, .any, .any, .any, .any, .any, .any, .any, .any, .any, .any, .any, .any, .any, .any, .any, .any, .any, .any, .any, .any, .any, .any, .any, .any, .any, .any, .any, .any, .any, .any, .any, .any, .any, .any, .any, .any, .any, .any, .any, .any, .any, .any, .any, .any, .any, .any, .any, .any, .any, .any, .any, .any, .any, .any, .any, .any, .any, .any, .any, .any, .any, .any, .any, .any, .any, .any, .any, .any, .any, .any, .any, .any, .any, .any, .any, .any, .any, .any, .any, .any, .any, .any, .any, .any, .any, .any, .any, .any, .any, .any, .any, .any, .any, .any, .any, .any, .any, .any, .any, .any, .any, .any, .any]
theorem a60l3c (s0 s1 s2 s3 s4 s5 s6 s7 s8 s9 s10 s11 s12 s13 s14 s15 s16 s17 s18 s19 s20 s21 s22 s23 s24 s25 s26 s27 s28 s29 s30 s31 s32 s33 s34 s35 s36 s37 s38 s39 s40 s41 s42 s43 s44 s45 s46 s47 s48 s49 s50 s51 s52 s53 s54 s55 s56 s57 s58 s59 s60 s61 s62 s63 s64 s65 s66 s67 s68 s69 s70 s71 s72 s73 s74 s75 s76 s77 s78 s79 s80 s81 s82 s83 s84 s85 s86 s87 s88 s89 s90 s91 s92 s93 s94 s95 s96 s97 s98 s99 s100 s101 s102 s103 s104 s105 s106 s107 s108 s109 s110 : AV) : clearA a60l3s [s0, s1, s2, s3, s4, s5, s6, s7, s8, s9, s10, s11, s12, s13, s14, s15, s16, s17, s18, s19, s20, s21, s22, s23, s24, s25, s26, s27, s28, s29, s30, s31, s32, s33, s34, s35, s36, s37, s38, s39, s40, s41, s42, s43, s44, s45, s46, s47, s48, s49, s50, s51, s52, s53, s54, s55, s56, s57, s58, s59, s60, s61, s62, s63, s64, s65, s66, s67, s68, s69, s70, s71, s72, s73, s74, s75, s76, s77, s78, s79, s80, s81, s82, s83, s84, s85, s86, s87, s88, s89, s90, s91, s92, s93, s94, s95, s96, s97, s98, s99, s100, s101, s102, s103, s104, s105, s106, s107, s108, s109, s110] = a60l3F s1 s2 s3 := by kernel_rfl
theorem a60l3n {prog : Nat → Option AFunc} (s1 s2 s3 : AV) (H : Heap) : (lim prog).loop a60l3s a60l3 ⟨a60l3F s1 s2 s3, H⟩ = loopK (lim prog) a60l3s a60l3 (run (lim prog) a60l3b ⟨a60l3F s1 s2 s3, H⟩) := lim_loop_step _ _ _ _ (by kernel_rfl)

/-- sentinel/treedet.classes -/
def a60 : AFunc := ⟨111,
  .seq (.region [⟨some 1, .box (.t 0), none⟩,
     ⟨some 2, .box (.c (.sl true 0 [])), none⟩,
     ⟨some 3, .mov (.c (.int Go.IntKind.i64 0)), none⟩])
  (.seq (.region [⟨some 13, .faddr 2 (.t 1), none⟩,
      ⟨some 14, .load false 1 (.t 13), none⟩,
      ⟨some 15, .len (.t 14), none⟩,
      ⟨some 16, .mkslice false [.int Go.IntKind.i64 0] 8 (.t 15) (.t 15), none⟩,
      ⟨none, .store 1 (.t 2) (.t 16), none⟩])
   (.block 0 (.loop a60l3s a60l3))),
  [.cell 2 false 1, .tmp 3]⟩

def a61l0b : ACode :=
  .seq (.region [⟨some 30, .bin .lss (.t 29) (.t 28), none⟩])
  (.seq (.cond (.t 30)
    (.skip)
    (.exit 4))
   (.seq (.block 5 (.seq (.region [⟨some 31, .mov (.t 29), none⟩,
         ⟨some 13, .mov (.t 31), none⟩])
      (.drawh [(36, (1, 10))] [] [] 6 [⟨some 32, .mov (.t 11), none⟩,
         ⟨some 33, .mov (.t 12), none⟩,
         ⟨some 34, .mov (.t 11), none⟩,
         ⟨some 35, .mov (.t 12), none⟩,
         ⟨some 36, .iaddr 1 (.t 34) (.t 35), none⟩,
         ⟨some 37, .load false 1 (.t 36), none⟩,
         ⟨some 38, .mov (.t 2), none⟩,
         ⟨some 39, .mov (.t 10), none⟩,
         ⟨some 40, .mov (.t 12), none⟩,
         ⟨some 41, .mov (.t 13), none⟩,
         ⟨some 42, .icall (.t 38) [(.t 39), (.t 40), (.t 41)], none⟩,
         ⟨some 43, .bslice true [.int Go.IntKind.i64 0] 1 1 [(0, (.t 42))], none⟩,
         ⟨some 44, .append false 1 8 (.t 37) (.t 43), none⟩,
         ⟨some 45, .iaddr 1 (.t 32) (.t 33), none⟩,
         ⟨none, .store 1 (.t 45) (.t 44), none⟩])))
    (.region [⟨some 46, .bin .add (.t 29) (.c (.int Go.IntKind.i64 1)), none⟩,
       ⟨some 29, .mov (.t 46), none⟩])))

def a61l0 : ACode := a61l0b
def a61l0s : List Nat := [4, 5, 6, 7, 13, 14, 15, 18, 19, 20, 21, 22, 25, 26, 27, 30, 31, 32, 33, 34, 35, 36, 37, 38, 39, 40, 41, 42, 43, 44, 45, 46, 47, 48, 49, 50, 51, 52, 53, 54, 55, 56, 57, 58, 59, 60, 61, 62, 63]
abbrev a61l0F (s0 s1 s2 s3 s8 s9 s10 s11 s12 s16 s17 s23 s24 s28 s29 : AV) : List AV := [s0, s1, s2, s3, .any, .any, .any, .any, s8, s9, s10, s11, s12, .any, .any, .any, s16, s17, .any, .any, .any, .any, .any, s23, s24, .any, .any, .any, s28, s29, .any, .any, .any, .any, .any, .any, .any, .any, .any, .any, .any, .any, .any, .any, .any, .any, .any, .any, .any, .any, .any, .any, .any, .any, .any, .any, .any, .any, .any, .any, .any, .any, .any, .any]
theorem a61l0c (s0 s1 s2 s3 s4 s5 s6 s7 s8 s9 s10 s11 s12 s13 s14 s15 s16 s17 s18 s19 s20 s21 s22 s23 s24 s25 s26 s27 s28 s29 s30 s31 s32 s33 s34 s35 s36 s37 s38 s39 s40 s41 s42 s43 s44 s45 s46 s47 s48 s49 s50 s51 s52 s53 s54 s55 s56 s57 s58 s59 s60 s61 s62 s63 : AV) : clearA a61l0s [s0, s1, s2, s3, s4, s5, s6, s7, s8, s9, s10, s11, s12, s13, s14, s15, s16, s17, s18, s19, s20, s21, s22, s23, s24, s25, s26, s27, s28, s29, s30, s31, s32, s33, s34, s35, s36, s37, s38, s39, s40, s41, s42, s43, s44, s45, s46, s47, s48, s49, s50, s51, s52, s53, s54, s55, s56, s57, s58, s59, s60, s61, s62, s63] = a61l0F s0 s1 s2 s3 s8 s9 s10 s11 s12 s16 s17 s23 s24 s28 s29 := by kernel_rfl
theorem a61l0n {prog : Nat → Option AFunc} (s0 s1 s2 s3 s8 s9 s10 s11 s12 s16 s17 s23 s24 s28 s29 : AV) (H : Heap) : (lim prog).loop a61l0s a61l0 ⟨a61l0F s0 s1 s2 s3 s8 s9 s10 s11 s12 s16 s17 s23 s24 s28 s29, H⟩ = loopK (lim prog) a61l0s a61l0 (run (lim prog) a61l0b ⟨a61l0F s0 s1 s2 s3 s8 s9 s10 s11 s12 s16 s17 s23 s24 s28 s29, H⟩) := lim_loop_step _ _ _ _ (by kernel_rfl)

def a61l1b : ACode :=
  .seq (.region [⟨some 25, .bin .lss (.t 24) (.t 23), none⟩])
  (.seq (.cond (.t 25)
    (.skip)
    (.exit 2))
   (.seq (.block 3 (.seq (.region [⟨some 26, .mov (.t 24), none⟩,
         ⟨some 12, .mov (.t 26), none⟩])
      (.seq (.region [⟨some 27, .mov (.t 0), none⟩,
          ⟨some 28, .bin .shl (.c (.int Go.IntKind.i64 1)) (.t 27), none⟩,
          ⟨some 29, .mov (.c (.int Go.IntKind.i64 0)), none⟩])
       (.block 4 (.loop a61l0s a61l0)))))
    (.region [⟨some 47, .bin .add (.t 24) (.c (.int Go.IntKind.i64 1)), none⟩,
       ⟨some 24, .mov (.t 47), none⟩])))

def a61l1 : ACode := a61l1b
def a61l1s : List Nat := [4, 5, 6, 7, 12, 13, 14, 15, 18, 19, 20, 21, 22, 25, 26, 27, 28, 29, 30, 31, 32, 33, 34, 35, 36, 37, 38, 39, 40, 41, 42, 43, 44, 45, 46, 47, 48, 49, 50, 51, 52, 53, 54, 55, 56, 57, 58, 59, 60, 61, 62, 63]
abbrev a61l1F (s0 s1 s2 s3 s8 s9 s10 s11 s16 s17 s23 s24 : AV) : List AV := [s0, s1, s2, s3, .any, .any, .any, .any, s8, s9, s10, s11, .any, .any, .any, .any, s16, s17, .any, .any, .any, .any, .any, s23, s24, .any, .any, .any, .any, .any, .any, .any, .any, .any, .any, .any, .any, .any, .any, .any, .any, .any, .any, .any, .any, .any, .any, .any, .any, .any, .any, .any, .any, .any, .any, .any, .any, .any, .any, .any, .any, .any, .any, .any]
theorem a61l1c (s0 s1 s2 s3 s4 s5 s6 s7 s8 s9 s10 s11 s12 s13 s14 s15 s16 s17 s18 s19 s20 s21 s22 s23 s24 s25 s26 s27 s28 s29 s30 s31 s32 s33 s34 s35 s36 s37 s38 s39 s40 s41 s42 s43 s44 s45 s46 s47 s48 s49 s50 s51 s52 s53 s54 s55 s56 s57 s58 s59 s60 s61 s62 s63 : AV) : clearA a61l1s [s0, s1, s2, s3, s4, s5, s6, s7, s8, s9, s10, s11, s12, s13, s14, s15, s16, s17, s18, s19, s20, s21, s22, s23, s24, s25, s26, s27, s28, s29, s30, s31, s32, s33, s34, s35, s36, s37, s38, s39, s40, s41, s42, s43, s44, s45, s46, s47, s48, s49, s50, s51, s52, s53, s54, s55, s56, s57, s58, s59, s60, s61, s62, s63] = a61l1F s0 s1 s2 s3 s8 s9 s10 s11 s16 s17 s23 s24 := by kernel_rfl
theorem a61l1n {prog : Nat → Option AFunc} (s0 s1 s2 s3 s8 s9 s10 s11 s16 s17 s23 s24 : AV) (H : Heap) : (lim prog).loop a61l1s a61l1 ⟨a61l1F s0 s1 s2 s3 s8 s9 s10 s11 s16 s17 s23 s24, H⟩ = loopK (lim prog) a61l1s a61l1 (run (lim prog) a61l1b ⟨a61l1F s0 s1 s2 s3 s8 s9 s10 s11 s16 s17 s23 s24, H⟩) := lim_loop_step _ _ _ _ (by kernel_rfl)

def a61l2b : ACode :=
  .seq (.region [⟨some 18, .bin .lss (.t 17) (.t 16), none⟩])
  (.seq (.cond (.t 18)
    (.skip)
    (.exit 0))
   (.seq (.block 1 (.seq (.region [⟨some 19, .mov (.t 17), none⟩,
         ⟨some 10, .mov (.t 19), none⟩])
      (.seq (.region [⟨some 20, .mov (.t 1), none⟩,
          ⟨some 21, .mkslice false [.sl true 0 []] 24 (.t 20) (.t 20), none⟩,
          ⟨some 11, .mov (.t 21), none⟩])
       (.seq (.seq (.region [⟨some 22, .mov (.t 11), none⟩,
            ⟨some 23, .len (.t 22), none⟩,
            ⟨some 24, .mov (.c (.int Go.IntKind.i64 0)), none⟩])
         (.block 2 (.loop a61l1s a61l1)))
        (.seq (.region [⟨some 48, .faddr 2 (.t 9), none⟩,
            ⟨some 49, .load false 1 (.t 48), none⟩,
            ⟨some 50, .mov (.t 11), none⟩,
            ⟨some 51, .bslice false [.sl true 0 []] 1 1 [(0, (.t 50))], none⟩,
            ⟨some 52, .append false 1 24 (.t 49) (.t 51), none⟩,
            ⟨some 53, .faddr 2 (.t 9), none⟩,
            ⟨none, .store 1 (.t 53) (.t 52), none⟩])
         (.drawh [(54, (1, 4))] [] [] 2 [⟨some 54, .faddr 3 (.t 9), none⟩,
            ⟨some 55, .load false 1 (.t 54), none⟩,
            ⟨some 56, .mov (.t 3), none⟩,
            ⟨some 57, .mov (.t 10), none⟩,
            ⟨some 58, .icall (.t 56) [(.t 57)], none⟩,
            ⟨some 59, .bslice true [.bool false] 1 1 [(0, (.t 58))], none⟩,
            ⟨some 60, .append false 1 1 (.t 55) (.t 59), none⟩,
            ⟨some 61, .faddr 3 (.t 9), none⟩,
            ⟨none, .store 1 (.t 61) (.t 60), none⟩]))))))
    (.region [⟨some 62, .bin .add (.t 17) (.c (.int Go.IntKind.i64 1)), none⟩,
       ⟨some 17, .mov (.t 62), none⟩])))

def a61l2 : ACode := a61l2b
def a61l2s : List Nat := [4, 5, 6, 7, 10, 11, 12, 13, 14, 15, 18, 19, 20, 21, 22, 23, 24, 25, 26, 27, 28, 29, 30, 31, 32, 33, 34, 35, 36, 37, 38, 39, 40, 41, 42, 43, 44, 45, 46, 47, 48, 49, 50, 51, 52, 53, 54, 55, 56, 57, 58, 59, 60, 61, 62, 63]
abbrev a61l2F (s0 s1 s2 s3 s8 s9 s16 s17 : AV) : List AV := [s0, s1, s2, s3, .any, .any, .any, .any, s8, s9, .any, .any, .any, .any, .any, .any, s16, s17, .any, .any, .any, .any, .any, .any, .any, .any, .any, .any, .any, .any, .any, .any, .any, .any, .any, .any, .any, .any, .any, .any, .any, .any, .any, .any, .any, .any, .any, .any, .any, .any, .any, .any, .any, .any, .any, .any, .any, .any, .any, .any, .any, .any, .any, .any]
theorem a61l2c (s0 s1 s2 s3 s4 s5 s6 s7 s8 s9 s10 s11 s12 s13 s14 s15 s16 s17 s18 s19 s20 s21 s22 s23 s24 s25 s26 s27 s28 s29 s30 s31 s32 s33 s34 s35 s36 s37 s38 s39 s40 s41 s42 s43 s44 s45 s46 s47 s48 s49 s50 s51 s52 s53 s54 s55 s56 s57 s58 s59 s60 s61 s62 s63 : AV) : clearA a61l2s [s0, s1, s2, s3, s4, s5, s6, s7, s8, s9, s10, s11, s12, s13, s14, s15, s16, s17, s18, s19, s20, s21, s22, s23, s24, s25, s26, s27, s28, s29, s30, s31, s32, s33, s34, s35, s36, s37, s38, s39, s40, s41, s42, s43, s44, s45, s46, s47, s48, s49, s50, s51, s52, s53, s54, s55, s56, s57, s58, s59, s60, s61, s62, s63] = a61l2F s0 s1 s2 s3 s8 s9 s16 s17 := by kernel_rfl
theorem a61l2n {prog : Nat → Option AFunc} (s0 s1 s2 s3 s8 s9 s16 s17 : AV) (H : Heap) : (lim prog).loop a61l2s a61l2 ⟨a61l2F s0 s1 s2 s3 s8 s9 s16 s17, H⟩ = loopK (lim prog) a61l2s a61l2 (run (lim prog) a61l2b ⟨a61l2F s0 s1 s2 s3 s8 s9 s16 s17, H⟩) := lim_loop_step _ _ _ _ (by kernel_rfl)

/-- sentinel/treedet.built -/
def a61 : AFunc := ⟨64,
  .seq (.region [⟨some 8, .box (.c (.agg [.int Go.IntKind.i64 0, .int Go.IntKind.i64 0, .sl true 0 [], .sl true 0 []])), none⟩])
  (.seq (.region [⟨some 14, .mov (.t 0), none⟩,
      ⟨some 15, .build [.int Go.IntKind.i64 0, .int Go.IntKind.i64 0, .sl true 0 [], .sl true 0 []] [(0, 1, (.t 14))], none⟩,
      ⟨some 9, .box (.c (.agg [.int Go.IntKind.i64 0, .int Go.IntKind.i64 0, .sl true 0 [], .sl true 0 []])), none⟩,
      ⟨none, .store 4 (.t 9) (.t 15), none⟩])
   (.seq (.seq (.region [⟨some 16, .mov (.t 1), none⟩,
        ⟨some 17, .mov (.c (.int Go.IntKind.i64 0)), none⟩])
     (.block 0 (.loop a61l2s a61l2)))
    (.seq (.region [⟨some 63, .load true 4 (.t 9), none⟩,
        ⟨none, .store 4 (.t 8) (.t 63), none⟩])
     (.ret)))),
  [.cell 8 true 4]⟩

/-- sentinel/treedet.Minimize$1 -/
def a62 : AFunc := ⟨30,
  .seq (.region [⟨some 9, .mov (.c (.int Go.IntKind.i64 0)), none⟩])
  (.seq (.draw 15 [⟨some 10, .load false 1 (.t 3), none⟩,
      ⟨some 11, .faddr 2 (.t 4), none⟩,
      ⟨some 12, .load false 1 (.t 11), none⟩,
      ⟨some 13, .load false 1 (.t 5), none⟩,
      ⟨some 14, .mov (.t 0), none⟩,
      ⟨some 15, .iaddr 1 (.t 13) (.t 14), none⟩,
      ⟨some 16, .load false 1 (.t 15), none⟩,
      ⟨some 17, .iaddr 1 (.t 12) (.t 16), none⟩,
      ⟨some 18, .load false 1 (.t 17), none⟩,
      ⟨some 19, .load false 1 (.t 5), none⟩,
      ⟨some 20, .mov (.t 1), none⟩,
      ⟨some 21, .iaddr 1 (.t 19) (.t 20), none⟩,
      ⟨some 22, .load false 1 (.t 21), none⟩,
      ⟨some 23, .iaddr 1 (.t 18) (.t 22), none⟩,
      ⟨some 24, .load false 1 (.t 23), none⟩,
      ⟨some 25, .mov (.t 2), none⟩,
      ⟨some 26, .iaddr 1 (.t 24) (.t 25), none⟩,
      ⟨some 27, .load false 1 (.t 26), none⟩,
      ⟨some 28, .iaddr 1 (.t 10) (.t 27), none⟩,
      ⟨some 29, .load false 1 (.t 28), none⟩,
      ⟨some 9, .mov (.t 29), none⟩])
   (.ret)),
  [.tmp 9]⟩

/-- sentinel/treedet.Minimize$2 -/
def a63 : AFunc := ⟨13,
  .seq (.region [⟨some 4, .mov (.c (.bool false)), none⟩])
  (.seq (.draw 3 [⟨some 5, .faddr 3 (.t 1), none⟩,
      ⟨some 6, .load false 1 (.t 5), none⟩,
      ⟨some 7, .load false 1 (.t 2), none⟩,
      ⟨some 8, .mov (.t 0), none⟩,
      ⟨some 9, .iaddr 1 (.t 7) (.t 8), none⟩,
      ⟨some 10, .load false 1 (.t 9), none⟩,
      ⟨some 11, .iaddr 1 (.t 6) (.t 10), none⟩,
      ⟨some 12, .load false 1 (.t 11), none⟩,
      ⟨some 4, .mov (.t 12), none⟩])
   (.ret)),
  [.tmp 4]⟩

def a66l0b : ACode :=
  .seq (.seq (.region [⟨some 11, .mov (.t 5), none⟩,
      ⟨some 12, .mov (.t 0), none⟩,
      ⟨some 13, .len (.t 12), none⟩,
      ⟨some 14, .bin .lss (.t 11) (.t 13), none⟩])
   (.cond (.t 14)
    (.skip)
    (.exit 0)))
  (.seq (.block 1 (.seq (.draw 5 [⟨some 17, .mov (.t 0), none⟩,
        ⟨some 18, .mov (.t 5), none⟩,
        ⟨some 19, .iaddr 1 (.t 17) (.t 18), none⟩,
        ⟨some 20, .load false 1 (.t 19), none⟩,
        ⟨some 21, .mov (.t 1), none⟩,
        ⟨some 22, .mov (.t 5), none⟩,
        ⟨some 23, .iaddr 1 (.t 21) (.t 22), none⟩,
        ⟨some 24, .load false 1 (.t 23), none⟩,
        ⟨some 25, .call 39 [(.t 20), (.t 24)], none⟩,
        ⟨some 26, .un .not (.t 25), none⟩])
     (.cond (.t 26)
      (.seq (.region [⟨some 4, .mov (.c (.bool false)), none⟩])
       (.ret))
      (.skip))))
   (.region [⟨some 15, .mov (.t 5), none⟩,
      ⟨some 16, .bin .add (.t 15) (.c (.int Go.IntKind.i64 1)), none⟩,
      ⟨some 5, .mov (.t 16), none⟩]))

def a66l0 : ACode := a66l0b
def a66l0s : List Nat := [2, 3, 6, 7, 8, 9, 10, 11, 12, 13, 14, 15, 16, 17, 18, 19, 20, 21, 22, 23, 24, 25, 26]
abbrev a66l0F (s0 s1 s4 s5 : AV) : List AV := [s0, s1, .any, .any, s4, s5, .any, .any, .any, .any, .any, .any, .any, .any, .any, .any, .any, .any, .any, .any, .any, .any, .any, .any, .any, .any, .any]
theorem a66l0c (s0 s1 s2 s3 s4 s5 s6 s7 s8 s9 s10 s11 s12 s13 s14 s15 s16 s17 s18 s19 s20 s21 s22 s23 s24 s25 s26 : AV) : clearA a66l0s [s0, s1, s2, s3, s4, s5, s6, s7, s8, s9, s10, s11, s12, s13, s14, s15, s16, s17, s18, s19, s20, s21, s22, s23, s24, s25, s26] = a66l0F s0 s1 s4 s5 := by kernel_rfl
theorem a66l0n {prog : Nat → Option AFunc} (s0 s1 s4 s5 : AV) (H : Heap) : (lim prog).loop a66l0s a66l0 ⟨a66l0F s0 s1 s4 s5, H⟩ = loopK (lim prog) a66l0s a66l0 (run (lim prog) a66l0b ⟨a66l0F s0 s1 s4 s5, H⟩) := lim_loop_step _ _ _ _ (by kernel_rfl)

/-- sentinel/sentinelkit.EqualBlocks -/
def a66 : AFunc := ⟨27,
  .seq (.region [⟨some 4, .mov (.c (.bool false)), none⟩])
  (.seq (.seq (.region [⟨some 6, .mov (.t 0), none⟩,
       ⟨some 7, .len (.t 6), none⟩,
       ⟨some 8, .mov (.t 1), none⟩,
       ⟨some 9, .len (.t 8), none⟩,
       ⟨some 10, .bin .neq (.t 7) (.t 9), none⟩])
    (.cond (.t 10)
     (.seq (.region [⟨some 4, .mov (.c (.bool false)), none⟩])
      (.ret))
     (.skip)))
   (.seq (.seq (.region [⟨some 5, .mov (.c (.int Go.IntKind.i64 0)), none⟩])
     (.block 0 (.loop a66l0s a66l0)))
    (.seq (.region [⟨some 4, .mov (.c (.bool true)), none⟩])
     (.ret)))),
  [.tmp 4]⟩

def a67l0b : ACode :=
  .seq (.seq (.region [⟨some 11, .mov (.t 5), none⟩,
      ⟨some 12, .mov (.t 0), none⟩,
      ⟨some 13, .len (.t 12), none⟩,
      ⟨some 14, .bin .lss (.t 11) (.t 13), none⟩])
   (.cond (.t 14)
    (.skip)
    (.exit 0)))
  (.seq (.block 1 (.seq (.draw 5 [⟨some 17, .mov (.t 0), none⟩,
        ⟨some 18, .mov (.t 5), none⟩,
        ⟨some 19, .iaddr 1 (.t 17) (.t 18), none⟩,
        ⟨some 20, .load false 1 (.t 19), none⟩,
        ⟨some 21, .mov (.t 1), none⟩,
        ⟨some 22, .mov (.t 5), none⟩,
        ⟨some 23, .iaddr 1 (.t 21) (.t 22), none⟩,
        ⟨some 24, .load false 1 (.t 23), none⟩,
        ⟨some 25, .beq true (.t 20) (.t 24), none⟩])
     (.cond (.t 25)
      (.seq (.region [⟨some 4, .mov (.c (.bool false)), none⟩])
       (.ret))
      (.skip))))
   (.region [⟨some 15, .mov (.t 5), none⟩,
      ⟨some 16, .bin .add (.t 15) (.c (.int Go.IntKind.i64 1)), none⟩,
      ⟨some 5, .mov (.t 16), none⟩]))

def a67l0 : ACode := a67l0b
def a67l0s : List Nat := [2, 3, 6, 7, 8, 9, 10, 11, 12, 13, 14, 15, 16, 17, 18, 19, 20, 21, 22, 23, 24, 25]
abbrev a67l0F (s0 s1 s4 s5 : AV) : List AV := [s0, s1, .any, .any, s4, s5, .any, .any, .any, .any, .any, .any, .any, .any, .any, .any, .any, .any, .any, .any, .any, .any, .any, .any, .any, .any]
theorem a67l0c (s0 s1 s2 s3 s4 s5 s6 s7 s8 s9 s10 s11 s12 s13 s14 s15 s16 s17 s18 s19 s20 s21 s22 s23 s24 s25 : AV) : clearA a67l0s [s0, s1, s2, s3, s4, s5, s6, s7, s8, s9, s10, s11, s12, s13, s14, s15, s16, s17, s18, s19, s20, s21, s22, s23, s24, s25] = a67l0F s0 s1 s4 s5 := by kernel_rfl
theorem a67l0n {prog : Nat → Option AFunc} (s0 s1 s4 s5 : AV) (H : Heap) : (lim prog).loop a67l0s a67l0 ⟨a67l0F s0 s1 s4 s5, H⟩ = loopK (lim prog) a67l0s a67l0 (run (lim prog) a67l0b ⟨a67l0F s0 s1 s4 s5, H⟩) := lim_loop_step _ _ _ _ (by kernel_rfl)

/-- sentinel/sentinelkit.EqualBools -/
def a67 : AFunc := ⟨26,
  .seq (.region [⟨some 4, .mov (.c (.bool false)), none⟩])
  (.seq (.seq (.region [⟨some 6, .mov (.t 0), none⟩,
       ⟨some 7, .len (.t 6), none⟩,
       ⟨some 8, .mov (.t 1), none⟩,
       ⟨some 9, .len (.t 8), none⟩,
       ⟨some 10, .bin .neq (.t 7) (.t 9), none⟩])
    (.cond (.t 10)
     (.seq (.region [⟨some 4, .mov (.c (.bool false)), none⟩])
      (.ret))
     (.skip)))
   (.seq (.seq (.region [⟨some 5, .mov (.c (.int Go.IntKind.i64 0)), none⟩])
     (.block 0 (.loop a67l0s a67l0)))
    (.seq (.region [⟨some 4, .mov (.c (.bool true)), none⟩])
     (.ret)))),
  [.tmp 4]⟩

def a73l0b : ACode :=
  .seq (.region [⟨some 8, .bin .lss (.t 7) (.t 6), none⟩])
  (.seq (.cond (.t 8)
    (.skip)
    (.exit 0))
   (.seq (.block 1 (.seq (.region [⟨some 9, .iaddr 1 (.t 5) (.t 7), none⟩,
         ⟨some 10, .load false 1 (.t 9), none⟩,
         ⟨some 4, .mov (.t 10), none⟩])
      (.region [⟨some 11, .mov (.t 2), none⟩,
         ⟨some 12, .mov (.t 4), none⟩,
         ⟨some 13, .bin .shl (.c (.int Go.IntKind.u64 1)) (.t 12), none⟩,
         ⟨some 14, .bin .or (.t 11) (.t 13), none⟩,
         ⟨some 2, .mov (.t 14), none⟩])))
    (.region [⟨some 15, .bin .add (.t 7) (.c (.int Go.IntKind.i64 1)), none⟩,
       ⟨some 7, .mov (.t 15), none⟩])))

def a73l0 : ACode := a73l0b
def a73l0s : List Nat := [0, 1, 3, 4, 8, 9, 10, 11, 12, 13, 14, 15, 16]
abbrev a73l0F (s2 s5 s6 s7 : AV) : List AV := [.any, .any, s2, .any, .any, s5, s6, s7, .any, .any, .any, .any, .any, .any, .any, .any, .any]
theorem a73l0c (s0 s1 s2 s3 s4 s5 s6 s7 s8 s9 s10 s11 s12 s13 s14 s15 s16 : AV) : clearA a73l0s [s0, s1, s2, s3, s4, s5, s6, s7, s8, s9, s10, s11, s12, s13, s14, s15, s16] = a73l0F s2 s5 s6 s7 := by kernel_rfl
theorem a73l0n {prog : Nat → Option AFunc} (s2 s5 s6 s7 : AV) (H : Heap) : (lim prog).loop a73l0s a73l0 ⟨a73l0F s2 s5 s6 s7, H⟩ = loopK (lim prog) a73l0s a73l0 (run (lim prog) a73l0b ⟨a73l0F s2 s5 s6 s7, H⟩) := lim_loop_step _ _ _ _ (by kernel_rfl)

/-- sentinel/treedet.word -/
def a73 : AFunc := ⟨17,
  .seq (.region [⟨some 2, .mov (.c (.int Go.IntKind.u64 0)), none⟩])
  (.seq (.seq (.region [⟨some 5, .mov (.t 0), none⟩,
       ⟨some 6, .len (.t 5), none⟩,
       ⟨some 7, .mov (.c (.int Go.IntKind.i64 0)), none⟩])
    (.block 0 (.loop a73l0s a73l0)))
   (.seq (.region [⟨some 16, .mov (.t 2), none⟩,
       ⟨some 2, .mov (.t 16), none⟩])
    (.ret))),
  [.tmp 2]⟩

def a74l0b : ACode :=
  .seq (.region [⟨some 15, .bin .lss (.t 14) (.t 13), none⟩])
  (.seq (.cond (.t 15)
    (.skip)
    (.exit 0))
   (.seq (.block 1 (.seq (.region [⟨some 16, .iaddr 5 (.t 12) (.t 14), none⟩,
         ⟨some 17, .load true 5 (.t 16), none⟩,
         ⟨some 10, .box (.c (.agg [.int Go.IntKind.i64 0, .int Go.IntKind.i64 0, .int Go.IntKind.i64 0, .int Go.IntKind.u8 0, .int Go.IntKind.u8 0])), none⟩,
         ⟨none, .store 5 (.t 10) (.t 17), none⟩])
      (.seq (.draw 30 [⟨some 18, .load false 1 (.t 4), none⟩,
          ⟨some 19, .mov (.t 0), none⟩,
          ⟨some 20, .iaddr 1 (.t 18) (.t 19), none⟩,
          ⟨some 21, .load false 1 (.t 20), none⟩,
          ⟨some 22, .faddr 0 (.t 10), none⟩,
          ⟨some 23, .load false 1 (.t 22), none⟩,
          ⟨some 24, .bin .shr (.t 21) (.t 23), none⟩,
          ⟨some 25, .load false 1 (.t 4), none⟩,
          ⟨some 26, .mov (.t 1), none⟩,
          ⟨some 27, .iaddr 1 (.t 25) (.t 26), none⟩,
          ⟨some 28, .load false 1 (.t 27), none⟩,
          ⟨some 29, .faddr 1 (.t 10), none⟩,
          ⟨some 30, .load false 1 (.t 29), none⟩,
          ⟨some 31, .bin .shr (.t 28) (.t 30), none⟩,
          ⟨some 32, .bin .and (.t 24) (.t 31), none⟩,
          ⟨some 33, .bin .and (.t 32) (.c (.int Go.IntKind.u64 1)), none⟩,
          ⟨some 34, .bin .neq (.t 33) (.c (.int Go.IntKind.u64 0)), none⟩,
          ⟨some 35, .mov (.t 34), none⟩,
          ⟨some 36, .mov (.t 2), some (35, true)⟩,
          ⟨some 37, .conv Go.IntKind.u8 (.t 36), some (35, true)⟩,
          ⟨some 38, .faddr 3 (.t 10), some (35, true)⟩,
          ⟨some 39, .load false 1 (.t 38), some (35, true)⟩,
          ⟨some 40, .bin .and (.t 37) (.t 39), some (35, true)⟩,
          ⟨some 41, .faddr 3 (.t 10), some (35, true)⟩,
          ⟨some 42, .load false 1 (.t 41), some (35, true)⟩,
          ⟨some 43, .bin .eql (.t 40) (.t 42), some (35, true)⟩,
          ⟨some 44, .pick (.t 35) (.t 43) (.c (.bool false)), none⟩,
          ⟨some 45, .mov (.t 44), none⟩,
          ⟨some 46, .mov (.t 2), some (45, true)⟩,
          ⟨some 47, .conv Go.IntKind.u8 (.t 46), some (45, true)⟩,
          ⟨some 48, .faddr 4 (.t 10), some (45, true)⟩,
          ⟨some 49, .load false 1 (.t 48), some (45, true)⟩,
          ⟨some 50, .bin .and (.t 47) (.t 49), some (45, true)⟩,
          ⟨some 51, .bin .eql (.t 50) (.c (.int Go.IntKind.u8 0)), some (45, true)⟩,
          ⟨some 52, .pick (.t 45) (.t 51) (.c (.bool false)), none⟩])
       (.cond (.t 52)
        (.region [⟨some 53, .mov (.t 8), none⟩,
           ⟨some 54, .faddr 2 (.t 10), none⟩,
           ⟨some 55, .load false 1 (.t 54), none⟩,
           ⟨some 56, .bin .shl (.c (.int Go.IntKind.u64 1)) (.t 55), none⟩,
           ⟨some 57, .bin .or (.t 53) (.t 56), none⟩,
           ⟨some 8, .mov (.t 57), none⟩])
        (.skip)))))
    (.region [⟨some 58, .bin .add (.t 14) (.c (.int Go.IntKind.i64 1)), none⟩,
       ⟨some 14, .mov (.t 58), none⟩])))

def a74l0 : ACode := a74l0b
def a74l0s : List Nat := [3, 5, 6, 7, 9, 10, 11, 15, 16, 17, 18, 19, 20, 21, 22, 23, 24, 25, 26, 27, 28, 29, 30, 31, 32, 33, 34, 35, 36, 37, 38, 39, 40, 41, 42, 43, 44, 45, 46, 47, 48, 49, 50, 51, 52, 53, 54, 55, 56, 57, 58, 59]
abbrev a74l0F (s0 s1 s2 s4 s8 s12 s13 s14 : AV) : List AV := [s0, s1, s2, .any, s4, .any, .any, .any, s8, .any, .any, .any, s12, s13, s14, .any, .any, .any, .any, .any, .any, .any, .any, .any, .any, .any, .any, .any, .any, .any, .any, .any, .any, .any, .any, .any, .any, .any, .any, .any, .any, .any, .any, .any, .any, .any, .any, .any, .any, .any, .any, .any, .any, .any, .any, .any, .any, .any, .any, .any]
theorem a74l0c (s0 s1 s2 s3 s4 s5 s6 s7 s8 s9 s10 s11 s12 s13 s14 s15 s16 s17 s18 s19 s20 s21 s22 s23 s24 s25 s26 s27 s28 s29 s30 s31 s32 s33 s34 s35 s36 s37 s38 s39 s40 s41 s42 s43 s44 s45 s46 s47 s48 s49 s50 s51 s52 s53 s54 s55 s56 s57 s58 s59 : AV) : clearA a74l0s [s0, s1, s2, s3, s4, s5, s6, s7, s8, s9, s10, s11, s12, s13, s14, s15, s16, s17, s18, s19, s20, s21, s22, s23, s24, s25, s26, s27, s28, s29, s30, s31, s32, s33, s34, s35, s36, s37, s38, s39, s40, s41, s42, s43, s44, s45, s46, s47, s48, s49, s50, s51, s52, s53, s54, s55, s56, s57, s58, s59] = a74l0F s0 s1 s2 s4 s8 s12 s13 s14 := by kernel_rfl
theorem a74l0n {prog : Nat → Option AFunc} (s0 s1 s2 s4 s8 s12 s13 s14 : AV) (H : Heap) : (lim prog).loop a74l0s a74l0 ⟨a74l0F s0 s1 s2 s4 s8 s12 s13 s14, H⟩ = loopK (lim prog) a74l0s a74l0 (run (lim prog) a74l0b ⟨a74l0F s0 s1 s2 s4 s8 s12 s13 s14, H⟩) := lim_loop_step _ _ _ _ (by kernel_rfl)

/-- sentinel/treedet.Determinize$1 -/
def a74 : AFunc := ⟨60,
  .seq (.region [⟨some 8, .mov (.c (.int Go.IntKind.u64 0)), none⟩])
  (.seq (.seq (.region [⟨some 11, .faddr 4 (.t 3), none⟩,
       ⟨some 12, .load false 1 (.t 11), none⟩,
       ⟨some 13, .len (.t 12), none⟩,
       ⟨some 14, .mov (.c (.int Go.IntKind.i64 0)), none⟩])
    (.block 0 (.loop a74l0s a74l0)))
   (.seq (.region [⟨some 59, .mov (.t 8), none⟩,
       ⟨some 8, .mov (.t 59), none⟩])
    (.ret))),
  [.tmp 8]⟩

def a75l0b : ACode :=
  .seq (.region [⟨some 33, .bin .lss (.t 32) (.t 31), none⟩])
  (.seq (.cond (.t 33)
    (.skip)
    (.exit 6))
   (.seq (.block 7 (.seq (.region [⟨some 34, .mov (.t 32), none⟩,
         ⟨some 9, .mov (.t 34), none⟩])
      (.seq (.region [⟨some 35, .mov (.t 1), none⟩,
          ⟨some 36, .arrat 1 2 (.t 8) (.c (.int Go.IntKind.i64 0)), none⟩,
          ⟨some 37, .load false 1 (.t 36), none⟩,
          ⟨some 38, .arrat 1 2 (.t 8) (.c (.int Go.IntKind.i64 1)), none⟩,
          ⟨some 39, .load false 1 (.t 38), none⟩,
          ⟨some 40, .mov (.t 9), none⟩,
          ⟨some 41, .icall (.t 35) [(.t 37), (.t 39), (.t 40)], none⟩,
          ⟨some 4, .mov (.t 41), none⟩])
       (.seq (.region [⟨some 42, .mov (.t 4), none⟩,
           ⟨some 43, .bin .lss (.t 42) (.c (.int Go.IntKind.i64 0)), none⟩])
        (.cond (.t 43)
         (.exit 0)
         (.skip))))))
    (.region [⟨some 44, .bin .add (.t 32) (.c (.int Go.IntKind.i64 1)), none⟩,
       ⟨some 32, .mov (.t 44), none⟩])))

def a75l0 : ACode := a75l0b
def a75l0s : List Nat := [2, 3, 7, 9, 10, 11, 12, 13, 14, 15, 16, 17, 18, 19, 20, 21, 22, 23, 24, 25, 28, 29, 30, 33, 34, 35, 36, 37, 38, 39, 40, 41, 42, 43, 44, 45]
abbrev a75l0F (s0 s1 s4 s5 s6 s8 s26 s27 s31 s32 : AV) : List AV := [s0, s1, .any, .any, s4, s5, s6, .any, s8, .any, .any, .any, .any, .any, .any, .any, .any, .any, .any, .any, .any, .any, .any, .any, .any, .any, s26, s27, .any, .any, .any, s31, s32, .any, .any, .any, .any, .any, .any, .any, .any, .any, .any, .any, .any, .any]
theorem a75l0c (s0 s1 s2 s3 s4 s5 s6 s7 s8 s9 s10 s11 s12 s13 s14 s15 s16 s17 s18 s19 s20 s21 s22 s23 s24 s25 s26 s27 s28 s29 s30 s31 s32 s33 s34 s35 s36 s37 s38 s39 s40 s41 s42 s43 s44 s45 : AV) : clearA a75l0s [s0, s1, s2, s3, s4, s5, s6, s7, s8, s9, s10, s11, s12, s13, s14, s15, s16, s17, s18, s19, s20, s21, s22, s23, s24, s25, s26, s27, s28, s29, s30, s31, s32, s33, s34, s35, s36, s37, s38, s39, s40, s41, s42, s43, s44, s45] = a75l0F s0 s1 s4 s5 s6 s8 s26 s27 s31 s32 := by kernel_rfl
theorem a75l0n {prog : Nat → Option AFunc} (s0 s1 s4 s5 s6 s8 s26 s27 s31 s32 : AV) (H : Heap) : (lim prog).loop a75l0s a75l0 ⟨a75l0F s0 s1 s4 s5 s6 s8 s26 s27 s31 s32, H⟩ = loopK (lim prog) a75l0s a75l0 (run (lim prog) a75l0b ⟨a75l0F s0 s1 s4 s5 s6 s8 s26 s27 s31 s32, H⟩) := lim_loop_step _ _ _ _ (by kernel_rfl)

def a75l1b : ACode :=
  .seq (.region [⟨some 28, .bin .lss (.t 27) (.c (.int Go.IntKind.i64 2)), none⟩])
  (.seq (.cond (.t 28)
    (.skip)
    (.exit 4))
   (.seq (.block 5 (.seq (.region [⟨some 29, .idx true 2 2 (.t 26) (.t 27), none⟩,
         ⟨some 8, .box (.c (.agg [.int Go.IntKind.i64 0, .int Go.IntKind.i64 0])), none⟩,
         ⟨none, .store 2 (.t 8) (.t 29), none⟩])
      (.seq (.region [⟨some 30, .mov (.t 0), none⟩,
          ⟨some 31, .bin .shl (.c (.int Go.IntKind.i64 1)) (.t 30), none⟩,
          ⟨some 32, .mov (.c (.int Go.IntKind.i64 0)), none⟩])
       (.block 6 (.loop a75l0s a75l0)))))
    (.region [⟨some 45, .bin .add (.t 27) (.c (.int Go.IntKind.i64 1)), none⟩,
       ⟨some 27, .mov (.t 45), none⟩])))

def a75l1 : ACode := a75l1b
def a75l1s : List Nat := [2, 3, 7, 8, 9, 10, 11, 12, 13, 14, 15, 16, 17, 18, 19, 20, 21, 22, 23, 24, 25, 28, 29, 30, 31, 32, 33, 34, 35, 36, 37, 38, 39, 40, 41, 42, 43, 44, 45]
abbrev a75l1F (s0 s1 s4 s5 s6 s26 s27 : AV) : List AV := [s0, s1, .any, .any, s4, s5, s6, .any, .any, .any, .any, .any, .any, .any, .any, .any, .any, .any, .any, .any, .any, .any, .any, .any, .any, .any, s26, s27, .any, .any, .any, .any, .any, .any, .any, .any, .any, .any, .any, .any, .any, .any, .any, .any, .any, .any]
theorem a75l1c (s0 s1 s2 s3 s4 s5 s6 s7 s8 s9 s10 s11 s12 s13 s14 s15 s16 s17 s18 s19 s20 s21 s22 s23 s24 s25 s26 s27 s28 s29 s30 s31 s32 s33 s34 s35 s36 s37 s38 s39 s40 s41 s42 s43 s44 s45 : AV) : clearA a75l1s [s0, s1, s2, s3, s4, s5, s6, s7, s8, s9, s10, s11, s12, s13, s14, s15, s16, s17, s18, s19, s20, s21, s22, s23, s24, s25, s26, s27, s28, s29, s30, s31, s32, s33, s34, s35, s36, s37, s38, s39, s40, s41, s42, s43, s44, s45] = a75l1F s0 s1 s4 s5 s6 s26 s27 := by kernel_rfl
theorem a75l1n {prog : Nat → Option AFunc} (s0 s1 s4 s5 s6 s26 s27 : AV) (H : Heap) : (lim prog).loop a75l1s a75l1 ⟨a75l1F s0 s1 s4 s5 s6 s26 s27, H⟩ = loopK (lim prog) a75l1s a75l1 (run (lim prog) a75l1b ⟨a75l1F s0 s1 s4 s5 s6 s26 s27, H⟩) := lim_loop_step _ _ _ _ (by kernel_rfl)

def a75l2b : ACode :=
  .seq (.seq (.region [⟨some 15, .mov (.t 6), none⟩,
      ⟨some 16, .mov (.t 5), none⟩,
      ⟨some 17, .bin .leq (.t 15) (.t 16), none⟩])
   (.cond (.t 17)
    (.skip)
    (.exit 2)))
  (.seq (.block 3 (.seq (.region [⟨some 20, .mov (.t 6), none⟩,
        ⟨some 21, .mov (.t 5), none⟩,
        ⟨some 22, .build [.int Go.IntKind.i64 0, .int Go.IntKind.i64 0] [(0, 1, (.t 20)), (1, 1, (.t 21))], none⟩,
        ⟨some 23, .mov (.t 5), none⟩,
        ⟨some 24, .mov (.t 6), none⟩,
        ⟨some 25, .build [.int Go.IntKind.i64 0, .int Go.IntKind.i64 0] [(0, 1, (.t 23)), (1, 1, (.t 24))], none⟩,
        ⟨some 26, .build [.int Go.IntKind.i64 0, .int Go.IntKind.i64 0, .int Go.IntKind.i64 0, .int Go.IntKind.i64 0] [(0, 2, (.t 22)), (2, 2, (.t 25))], none⟩,
        ⟨some 27, .mov (.c (.int Go.IntKind.i64 0)), none⟩])
     (.block 4 (.loop a75l1s a75l1))))
   (.region [⟨some 18, .mov (.t 6), none⟩,
      ⟨some 19, .bin .add (.t 18) (.c (.int Go.IntKind.i64 1)), none⟩,
      ⟨some 6, .mov (.t 19), none⟩]))

def a75l2 : ACode := a75l2b
def a75l2s : List Nat := [2, 3, 7, 8, 9, 10, 11, 12, 13, 14, 15, 16, 17, 18, 19, 20, 21, 22, 23, 24, 25, 26, 27, 28, 29, 30, 31, 32, 33, 34, 35, 36, 37, 38, 39, 40, 41, 42, 43, 44, 45]
abbrev a75l2F (s0 s1 s4 s5 s6 : AV) : List AV := [s0, s1, .any, .any, s4, s5, s6, .any, .any, .any, .any, .any, .any, .any, .any, .any, .any, .any, .any, .any, .any, .any, .any, .any, .any, .any, .any, .any, .any, .any, .any, .any, .any, .any, .any, .any, .any, .any, .any, .any, .any, .any, .any, .any, .any, .any]
theorem a75l2c (s0 s1 s2 s3 s4 s5 s6 s7 s8 s9 s10 s11 s12 s13 s14 s15 s16 s17 s18 s19 s20 s21 s22 s23 s24 s25 s26 s27 s28 s29 s30 s31 s32 s33 s34 s35 s36 s37 s38 s39 s40 s41 s42 s43 s44 s45 : AV) : clearA a75l2s [s0, s1, s2, s3, s4, s5, s6, s7, s8, s9, s10, s11, s12, s13, s14, s15, s16, s17, s18, s19, s20, s21, s22, s23, s24, s25, s26, s27, s28, s29, s30, s31, s32, s33, s34, s35, s36, s37, s38, s39, s40, s41, s42, s43, s44, s45] = a75l2F s0 s1 s4 s5 s6 := by kernel_rfl
theorem a75l2n {prog : Nat → Option AFunc} (s0 s1 s4 s5 s6 : AV) (H : Heap) : (lim prog).loop a75l2s a75l2 ⟨a75l2F s0 s1 s4 s5 s6, H⟩ = loopK (lim prog) a75l2s a75l2 (run (lim prog) a75l2b ⟨a75l2F s0 s1 s4 s5 s6, H⟩) := lim_loop_step _ _ _ _ (by kernel_rfl)

def a75l3b : ACode :=
  .seq (.seq (.region [⟨some 10, .mov (.t 5), none⟩,
      ⟨some 11, .mov (.t 4), none⟩,
      ⟨some 12, .bin .lss (.t 10) (.t 11), none⟩])
   (.cond (.t 12)
    (.skip)
    (.exit 0)))
  (.seq (.block 1 (.seq (.region [⟨some 6, .mov (.c (.int Go.IntKind.i64 0)), none⟩])
     (.block 2 (.loop a75l2s a75l2))))
   (.region [⟨some 13, .mov (.t 5), none⟩,
      ⟨some 14, .bin .add (.t 13) (.c (.int Go.IntKind.i64 1)), none⟩,
      ⟨some 5, .mov (.t 14), none⟩]))

def a75l3 : ACode := a75l3b
def a75l3s : List Nat := [2, 3, 6, 7, 8, 9, 10, 11, 12, 13, 14, 15, 16, 17, 18, 19, 20, 21, 22, 23, 24, 25, 26, 27, 28, 29, 30, 31, 32, 33, 34, 35, 36, 37, 38, 39, 40, 41, 42, 43, 44, 45]
abbrev a75l3F (s0 s1 s4 s5 : AV) : List AV := [s0, s1, .any, .any, s4, s5, .any, .any, .any, .any, .any, .any, .any, .any, .any, .any, .any, .any, .any, .any, .any, .any, .any, .any, .any, .any, .any, .any, .any, .any, .any, .any, .any, .any, .any, .any, .any, .any, .any, .any, .any, .any, .any, .any, .any, .any]
theorem a75l3c (s0 s1 s2 s3 s4 s5 s6 s7 s8 s9 s10 s11 s12 s13 s14 s15 s16 s17 s18 s19 s20 s21 s22 s23 s24 s25 s26 s27 s28 s29 s30 s31 s32 s33 s34 s35 s36 s37 s38 s39 s40 s41 s42 s43 s44 s45 : AV) : clearA a75l3s [s0, s1, s2, s3, s4, s5, s6, s7, s8, s9, s10, s11, s12, s13, s14, s15, s16, s17, s18, s19, s20, s21, s22, s23, s24, s25, s26, s27, s28, s29, s30, s31, s32, s33, s34, s35, s36, s37, s38, s39, s40, s41, s42, s43, s44, s45] = a75l3F s0 s1 s4 s5 := by kernel_rfl
theorem a75l3n {prog : Nat → Option AFunc} (s0 s1 s4 s5 : AV) (H : Heap) : (lim prog).loop a75l3s a75l3 ⟨a75l3F s0 s1 s4 s5, H⟩ = loopK (lim prog) a75l3s a75l3 (run (lim prog) a75l3b ⟨a75l3F s0 s1 s4 s5, H⟩) := lim_loop_step _ _ _ _ (by kernel_rfl)

/-- sentinel/treedet.explore -/
def a75 : AFunc := ⟨46,
  .scope (.seq (.region [⟨some 4, .mov (.c (.int Go.IntKind.i64 1)), none⟩])
   (.seq (.label)
    (.seq (.region [⟨some 5, .mov (.c (.int Go.IntKind.i64 0)), none⟩])
     (.block 0 (.loop a75l3s a75l3))))),
  []⟩

/-- sentinel/treedet.Determinize$2 -/
def a76 : AFunc := ⟨43,
  .seq (.region [⟨some 11, .mov (.c (.int Go.IntKind.i64 0)), none⟩])
  (.seq (.region [⟨some 15, .load false 1 (.t 3), none⟩,
      ⟨some 16, .mov (.t 0), none⟩,
      ⟨some 17, .mov (.t 1), none⟩,
      ⟨some 18, .mov (.t 2), none⟩,
      ⟨some 19, .icall (.t 15) [(.t 16), (.t 17), (.t 18)], none⟩,
      ⟨some 12, .mov (.t 19), none⟩])
   (.seq (.seq (.region [⟨some 21, .load false 1 (.t 4), none⟩,
        ⟨some 22, .mov (.t 12), none⟩,
        ⟨some 23, .mlook [0] true (.int Go.IntKind.i64 0) (.t 21) (.t 22), none⟩,
        ⟨some 20, .mov (.t 23), none⟩,
        ⟨some 24, .ext 0 (.t 20), none⟩,
        ⟨some 25, .ext 1 (.t 20), none⟩,
        ⟨some 13, .mov (.t 24), none⟩,
        ⟨some 14, .mov (.t 25), none⟩])
     (.seq (.region [⟨some 26, .mov (.t 14), none⟩,
         ⟨some 27, .un .not (.t 26), none⟩])
      (.cond (.t 27)
       (.seq (.region [⟨some 28, .load false 1 (.t 4), none⟩,
           ⟨some 29, .mov (.t 12), none⟩,
           ⟨some 30, .load false 1 (.t 5), none⟩,
           ⟨some 31, .len (.t 30), none⟩,
           ⟨none, .mupd [0] (.t 28) (.t 29) (.t 31), none⟩])
        (.region [⟨some 32, .load false 1 (.t 5), none⟩,
           ⟨some 33, .mov (.t 12), none⟩,
           ⟨some 34, .bslice true [.int Go.IntKind.u64 0] 1 1 [(0, (.t 33))], none⟩,
           ⟨some 35, .append false 1 8 (.t 32) (.t 34), none⟩,
           ⟨none, .store 1 (.t 5) (.t 35), none⟩]))
       (.skip))))
    (.seq (.seq (.region [⟨some 36, .load false 1 (.t 5), none⟩,
         ⟨some 37, .len (.t 36), none⟩,
         ⟨some 38, .load false 1 (.t 6), none⟩,
         ⟨some 39, .bin .gtr (.t 37) (.t 38), none⟩,
         ⟨none, .store 1 (.t 7) (.t 39), none⟩])
      (.seq (.region [⟨some 40, .load false 1 (.t 7), none⟩])
       (.cond (.t 40)
        (.seq (.region [⟨some 11, .mov (.c (.int Go.IntKind.i64 (-1))), none⟩])
         (.ret))
        (.skip))))
     (.seq (.region [⟨some 41, .load false 1 (.t 5), none⟩,
         ⟨some 42, .len (.t 41), none⟩,
         ⟨some 11, .mov (.t 42), none⟩])
      (.ret))))),
  [.tmp 11]⟩

def a77l0b : ACode :=
  .seq (.region [⟨some 5, .bin .lss (.t 4) (.c (.int Go.IntKind.i64 64)), none⟩])
  (.seq (.cond (.t 5)
    (.skip)
    (.exit 0))
   (.seq (.block 1 (.seq (.region [⟨some 6, .mov (.t 4), none⟩,
         ⟨some 3, .mov (.t 6), none⟩])
      (.seq (.region [⟨some 7, .mov (.t 0), none⟩,
          ⟨some 8, .mov (.t 3), none⟩,
          ⟨some 9, .bin .shr (.t 7) (.t 8), none⟩,
          ⟨some 10, .bin .and (.t 9) (.c (.int Go.IntKind.u64 1)), none⟩,
          ⟨some 11, .bin .neq (.t 10) (.c (.int Go.IntKind.u64 0)), none⟩])
       (.cond (.t 11)
        (.region [⟨some 12, .mov (.t 2), none⟩,
           ⟨some 13, .mov (.t 3), none⟩,
           ⟨some 14, .bslice true [.int Go.IntKind.i64 0] 1 1 [(0, (.t 13))], none⟩,
           ⟨some 15, .append false 1 8 (.t 12) (.t 14), none⟩,
           ⟨some 2, .mov (.t 15), none⟩])
        (.skip)))))
    (.region [⟨some 16, .bin .add (.t 4) (.c (.int Go.IntKind.i64 1)), none⟩,
       ⟨some 4, .mov (.t 16), none⟩])))

def a77l0 : ACode := a77l0b
def a77l0s : List Nat := [1, 3, 5, 6, 7, 8, 9, 10, 11, 12, 13, 14, 15, 16, 17]
abbrev a77l0F (s0 s2 s4 : AV) : List AV := [s0, .any, s2, .any, s4, .any, .any, .any, .any, .any, .any, .any, .any, .any, .any, .any, .any, .any]
theorem a77l0c (s0 s1 s2 s3 s4 s5 s6 s7 s8 s9 s10 s11 s12 s13 s14 s15 s16 s17 : AV) : clearA a77l0s [s0, s1, s2, s3, s4, s5, s6, s7, s8, s9, s10, s11, s12, s13, s14, s15, s16, s17] = a77l0F s0 s2 s4 := by kernel_rfl
theorem a77l0n {prog : Nat → Option AFunc} (s0 s2 s4 : AV) (H : Heap) : (lim prog).loop a77l0s a77l0 ⟨a77l0F s0 s2 s4, H⟩ = loopK (lim prog) a77l0s a77l0 (run (lim prog) a77l0b ⟨a77l0F s0 s2 s4, H⟩) := lim_loop_step _ _ _ _ (by kernel_rfl)

/-- sentinel/treedet.list -/
def a77 : AFunc := ⟨18,
  .seq (.region [⟨some 2, .mov (.c (.sl true 0 [])), none⟩])
  (.seq (.seq (.region [⟨some 4, .mov (.c (.int Go.IntKind.i64 0)), none⟩])
    (.block 0 (.loop a77l0s a77l0)))
   (.seq (.region [⟨some 17, .mov (.t 2), none⟩,
       ⟨some 2, .mov (.t 17), none⟩])
    (.ret))),
  [.tmp 2]⟩

/-- sentinel/treedet.Determinize$3 -/
def a78 : AFunc := ⟨16,
  .seq (.region [⟨some 8, .mov (.c (.int Go.IntKind.i64 0)), none⟩])
  (.seq (.draw 6 [⟨some 9, .load false 1 (.t 3), none⟩,
      ⟨some 10, .load false 1 (.t 4), none⟩,
      ⟨some 11, .mov (.t 0), none⟩,
      ⟨some 12, .mov (.t 1), none⟩,
      ⟨some 13, .mov (.t 2), none⟩,
      ⟨some 14, .fcall (.t 10) [(.t 11), (.t 12), (.t 13)], none⟩,
      ⟨some 15, .mlook [0] false (.int Go.IntKind.i64 0) (.t 9) (.t 14), none⟩,
      ⟨some 8, .mov (.t 15), none⟩])
   (.ret)),
  [.tmp 8]⟩

/-- sentinel/treedet.Determinize$4 -/
def a79 : AFunc := ⟨9,
  .seq (.region [⟨some 3, .box (.t 0), none⟩,
     ⟨some 4, .mov (.c (.bool false)), none⟩])
  (.seq (.region [⟨some 5, .faddr 3 (.t 1), none⟩,
      ⟨some 6, .load false 1 (.t 5), none⟩,
      ⟨some 7, .mkfunc 81 [(.t 2), (.t 3)], none⟩,
      ⟨some 8, .icall (.c (.func 80 [])) [(.t 6), (.t 7)], none⟩,
      ⟨some 4, .mov (.t 8), none⟩])
   (.ret)),
  [.tmp 4]⟩

/-- slices.ContainsFunc[[]int,int] -/
def a80 : AFunc := ⟨9,
  .seq (.region [⟨some 4, .mov (.c (.bool false)), none⟩])
  (.seq (.region [⟨some 5, .mov (.t 0), none⟩,
      ⟨some 6, .mov (.t 1), none⟩,
      ⟨some 7, .icall (.c (.func 109 [])) [(.t 5), (.t 6)], none⟩,
      ⟨some 8, .bin .geq (.t 7) (.c (.int Go.IntKind.i64 0)), none⟩,
      ⟨some 4, .mov (.t 8), none⟩])
   (.ret)),
  [.tmp 4]⟩

/-- sentinel/treedet.Determinize$4$1 -/
def a81 : AFunc := ⟨13,
  .seq (.region [⟨some 4, .mov (.c (.bool false)), none⟩])
  (.seq (.region [⟨some 5, .load false 1 (.t 1), none⟩,
      ⟨some 6, .load false 1 (.t 2), none⟩,
      ⟨some 7, .iaddr 1 (.t 5) (.t 6), none⟩,
      ⟨some 8, .load false 1 (.t 7), none⟩,
      ⟨some 9, .mov (.t 0), none⟩,
      ⟨some 10, .bin .shr (.t 8) (.t 9), none⟩,
      ⟨some 11, .bin .and (.t 10) (.c (.int Go.IntKind.u64 1)), none⟩,
      ⟨some 12, .bin .neq (.t 11) (.c (.int Go.IntKind.u64 0)), none⟩,
      ⟨some 4, .mov (.t 12), none⟩])
   (.ret)),
  [.tmp 4]⟩

def a89l0b : ACode :=
  .seq (.region [⟨some 11, .bin .lss (.t 10) (.t 9), none⟩])
  (.seq (.cond (.t 11)
    (.skip)
    (.exit 0))
   (.seq (.block 1 (.seq (.region [⟨some 12, .iaddr 1 (.t 8) (.t 10), none⟩,
         ⟨some 13, .load false 1 (.t 12), none⟩,
         ⟨some 7, .mov (.t 13), none⟩])
      (.seq (.seq (.region [⟨some 14, .mov (.t 7), none⟩,
           ⟨some 15, .mov (.t 5), none⟩,
           ⟨some 16, .bin .leq (.t 14) (.t 15), none⟩,
           ⟨some 17, .mov (.t 16), none⟩,
           ⟨some 18, .mov (.t 7), some (17, false)⟩,
           ⟨some 19, .mov (.t 1), some (17, false)⟩,
           ⟨some 20, .bin .geq (.t 18) (.t 19), some (17, false)⟩,
           ⟨some 21, .pick (.t 17) (.c (.bool true)) (.t 20), none⟩])
        (.cond (.t 21)
         (.seq (.region [⟨some 4, .mov (.c (.int Go.IntKind.i64 8)), none⟩])
          (.ret))
         (.skip)))
       (.region [⟨some 22, .mov (.t 7), none⟩,
          ⟨some 5, .mov (.t 22), none⟩]))))
    (.region [⟨some 23, .bin .add (.t 10) (.c (.int Go.IntKind.i64 1)), none⟩,
       ⟨some 10, .mov (.t 23), none⟩])))

def a89l0 : ACode := a89l0b
def a89l0s : List Nat := [0, 2, 3, 6, 7, 11, 12, 13, 14, 15, 16, 17, 18, 19, 20, 21, 22, 23]
abbrev a89l0F (s1 s4 s5 s8 s9 s10 : AV) : List AV := [.any, s1, .any, .any, s4, s5, .any, .any, s8, s9, s10, .any, .any, .any, .any, .any, .any, .any, .any, .any, .any, .any, .any, .any]
theorem a89l0c (s0 s1 s2 s3 s4 s5 s6 s7 s8 s9 s10 s11 s12 s13 s14 s15 s16 s17 s18 s19 s20 s21 s22 s23 : AV) : clearA a89l0s [s0, s1, s2, s3, s4, s5, s6, s7, s8, s9, s10, s11, s12, s13, s14, s15, s16, s17, s18, s19, s20, s21, s22, s23] = a89l0F s1 s4 s5 s8 s9 s10 := by kernel_rfl
theorem a89l0n {prog : Nat → Option AFunc} (s1 s4 s5 s8 s9 s10 : AV) (H : Heap) : (lim prog).loop a89l0s a89l0 ⟨a89l0F s1 s4 s5 s8 s9 s10, H⟩ = loopK (lim prog) a89l0s a89l0 (run (lim prog) a89l0b ⟨a89l0F s1 s4 s5 s8 s9 s10, H⟩) := lim_loop_step _ _ _ _ (by kernel_rfl)

/-- sentinel/treeaut.check -/
def a89 : AFunc := ⟨24,
  .seq (.region [⟨some 4, .mov (.c (.int Go.IntKind.i64 0)), none⟩])
  (.seq (.region [⟨some 5, .mov (.c (.int Go.IntKind.i64 (-1))), none⟩])
   (.seq (.seq (.region [⟨some 8, .mov (.t 0), none⟩,
        ⟨some 9, .len (.t 8), none⟩,
        ⟨some 10, .mov (.c (.int Go.IntKind.i64 0)), none⟩])
     (.block 0 (.loop a89l0s a89l0)))
    (.seq (.region [⟨some 4, .mov (.c (.int Go.IntKind.i64 0)), none⟩])
     (.ret)))),
  [.tmp 4]⟩

/-- sentinel/cube.Check -/
def a90 : AFunc := ⟨28,
  .seq (.region [⟨some 2, .box (.t 0), none⟩,
     ⟨some 4, .mov (.c (.int Go.IntKind.i64 0)), none⟩])
  (.seq (.block 0 (.seq (.seq (.region [⟨some 6, .mov (.t 1), none⟩,
         ⟨some 7, .bin .lss (.t 6) (.c (.int Go.IntKind.i64 0)), none⟩,
         ⟨some 8, .mov (.t 7), none⟩,
         ⟨some 9, .mov (.t 1), some (8, false)⟩,
         ⟨some 10, .bin .gtr (.t 9) (.c (.int Go.IntKind.i64 6)), some (8, false)⟩,
         ⟨some 11, .pick (.t 8) (.c (.bool true)) (.t 10), none⟩,
         ⟨some 5, .mov (.t 11), none⟩])
      (.cond (.t 5)
       (.skip)
       (.draw 6 [⟨some 12, .faddr 0 (.t 2), none⟩,
          ⟨some 13, .load false 1 (.t 12), none⟩,
          ⟨some 14, .faddr 1 (.t 2), none⟩,
          ⟨some 15, .load false 1 (.t 14), none⟩,
          ⟨some 16, .bin .or (.t 13) (.t 15), none⟩,
          ⟨some 17, .conv Go.IntKind.i64 (.t 16), none⟩,
          ⟨some 18, .mov (.t 1), none⟩,
          ⟨some 19, .bin .shl (.c (.int Go.IntKind.i64 1)) (.t 18), none⟩,
          ⟨some 20, .bin .geq (.t 17) (.t 19), none⟩,
          ⟨some 5, .mov (.t 20), none⟩])))
     (.cond (.t 5)
      (.seq (.region [⟨some 4, .mov (.c (.int Go.IntKind.i64 7)), none⟩])
       (.ret))
      (.seq (.region [⟨some 22, .faddr 0 (.t 2), none⟩,
          ⟨some 23, .load false 1 (.t 22), none⟩,
          ⟨some 24, .faddr 1 (.t 2), none⟩,
          ⟨some 25, .load false 1 (.t 24), none⟩,
          ⟨some 26, .bin .and (.t 23) (.t 25), none⟩,
          ⟨some 27, .bin .neq (.t 26) (.c (.int Go.IntKind.u8 0)), none⟩,
          ⟨some 21, .mov (.t 27), none⟩])
       (.cond (.t 21)
        (.seq (.region [⟨some 4, .mov (.c (.int Go.IntKind.i64 2)), none⟩])
         (.ret))
        (.skip))))))
   (.seq (.region [⟨some 4, .mov (.c (.int Go.IntKind.i64 0)), none⟩])
    (.ret))),
  [.tmp 4]⟩

/-- sentinel/tree.formed -/
def a91 : AFunc := ⟨18,
  .seq (.region [⟨some 2, .mov (.c (.bool false)), none⟩])
  (.seq (.region [⟨some 3, .mov (.t 0), none⟩,
      ⟨some 4, .len (.t 3), none⟩,
      ⟨some 5, .bin .eql (.t 4) (.c (.int Go.IntKind.i64 0)), none⟩,
      ⟨some 6, .mov (.t 5), none⟩,
      ⟨some 7, .mov (.t 0), some (6, false)⟩,
      ⟨some 8, .len (.t 7), some (6, false)⟩,
      ⟨some 9, .bin .leq (.t 8) (.c (.int Go.IntKind.i64 31)), some (6, false)⟩,
      ⟨some 10, .mov (.t 9), some (6, false)⟩,
      ⟨some 11, .mov (.t 0), some (10, true)⟩,
      ⟨some 12, .call 114 [(.t 11), (.c (.int Go.IntKind.i64 0))], some (10, true)⟩,
      ⟨some 13, .mov (.t 0), some (10, true)⟩,
      ⟨some 14, .len (.t 13), some (10, true)⟩,
      ⟨some 15, .bin .eql (.t 12) (.t 14), some (10, true)⟩,
      ⟨some 16, .pick (.t 10) (.t 15) (.c (.bool false)), some (6, false)⟩,
      ⟨some 17, .pick (.t 6) (.c (.bool true)) (.t 16), none⟩,
      ⟨some 2, .mov (.t 17), none⟩])
   (.ret)),
  [.tmp 2]⟩

def a99l0b : ACode :=
  .seq (.region [⟨some 21, .bin .lss (.t 20) (.t 19), none⟩])
  (.seq (.cond (.t 21)
    (.skip)
    (.exit 1))
   (.seq (.block 2 (.seq (.region [⟨some 22, .iaddr 3 (.t 18) (.t 20), none⟩,
         ⟨some 23, .load true 3 (.t 22), none⟩,
         ⟨some 6, .box (.c (.agg [.int Go.IntKind.u8 0, .int Go.IntKind.i64 0, .int Go.IntKind.i64 0])), none⟩,
         ⟨none, .store 3 (.t 6) (.t 23), none⟩])
      (.seq (.region [⟨some 24, .faddr 0 (.t 6), none⟩,
          ⟨some 25, .load false 1 (.t 24), none⟩,
          ⟨some 26, .conv Go.IntKind.i64 (.t 25), none⟩,
          ⟨some 27, .mov (.t 1), none⟩,
          ⟨some 28, .bin .shr (.t 26) (.t 27), none⟩,
          ⟨some 29, .bin .neq (.t 28) (.c (.int Go.IntKind.i64 0)), none⟩])
       (.cond (.t 29)
        (.seq (.region [⟨some 4, .mov (.c (.int Go.IntKind.i64 1)), none⟩])
         (.ret))
        (.skip)))))
    (.region [⟨some 30, .bin .add (.t 20) (.c (.int Go.IntKind.i64 1)), none⟩,
       ⟨some 20, .mov (.t 30), none⟩])))

def a99l0 : ACode := a99l0b
def a99l0s : List Nat := [2, 3, 5, 6, 7, 8, 9, 10, 11, 12, 13, 14, 15, 16, 17, 21, 22, 23, 24, 25, 26, 27, 28, 29, 30, 31, 32, 33]
abbrev a99l0F (s0 s1 s4 s18 s19 s20 : AV) : List AV := [s0, s1, .any, .any, s4, .any, .any, .any, .any, .any, .any, .any, .any, .any, .any, .any, .any, .any, s18, s19, s20, .any, .any, .any, .any, .any, .any, .any, .any, .any, .any, .any, .any, .any]
theorem a99l0c (s0 s1 s2 s3 s4 s5 s6 s7 s8 s9 s10 s11 s12 s13 s14 s15 s16 s17 s18 s19 s20 s21 s22 s23 s24 s25 s26 s27 s28 s29 s30 s31 s32 s33 : AV) : clearA a99l0s [s0, s1, s2, s3, s4, s5, s6, s7, s8, s9, s10, s11, s12, s13, s14, s15, s16, s17, s18, s19, s20, s21, s22, s23, s24, s25, s26, s27, s28, s29, s30, s31, s32, s33] = a99l0F s0 s1 s4 s18 s19 s20 := by kernel_rfl
theorem a99l0n {prog : Nat → Option AFunc} (s0 s1 s4 s18 s19 s20 : AV) (H : Heap) : (lim prog).loop a99l0s a99l0 ⟨a99l0F s0 s1 s4 s18 s19 s20, H⟩ = loopK (lim prog) a99l0s a99l0 (run (lim prog) a99l0b ⟨a99l0F s0 s1 s4 s18 s19 s20, H⟩) := lim_loop_step _ _ _ _ (by kernel_rfl)

/-- sentinel/tree.Check -/
def a99 : AFunc := ⟨34,
  .seq (.region [⟨some 4, .mov (.c (.int Go.IntKind.i64 0)), none⟩])
  (.seq (.block 0 (.seq (.region [⟨some 8, .mov (.t 1), none⟩,
        ⟨some 9, .bin .lss (.t 8) (.c (.int Go.IntKind.i64 0)), none⟩,
        ⟨some 10, .mov (.t 9), none⟩,
        ⟨some 11, .mov (.t 1), some (10, false)⟩,
        ⟨some 12, .bin .gtr (.t 11) (.c (.int Go.IntKind.i64 3)), some (10, false)⟩,
        ⟨some 13, .pick (.t 10) (.c (.bool true)) (.t 12), none⟩,
        ⟨some 7, .mov (.t 13), none⟩])
     (.cond (.t 7)
      (.seq (.region [⟨some 4, .mov (.c (.int Go.IntKind.i64 7)), none⟩])
       (.ret))
      (.seq (.region [⟨some 15, .mov (.t 0), none⟩,
          ⟨some 16, .len (.t 15), none⟩,
          ⟨some 17, .bin .gtr (.t 16) (.c (.int Go.IntKind.i64 31)), none⟩,
          ⟨some 14, .mov (.t 17), none⟩])
       (.cond (.t 14)
        (.seq (.region [⟨some 4, .mov (.c (.int Go.IntKind.i64 4)), none⟩])
         (.ret))
        (.skip))))))
   (.seq (.seq (.region [⟨some 18, .mov (.t 0), none⟩,
        ⟨some 19, .len (.t 18), none⟩,
        ⟨some 20, .mov (.c (.int Go.IntKind.i64 0)), none⟩])
     (.block 1 (.loop a99l0s a99l0)))
    (.seq (.seq (.region [⟨some 31, .mov (.t 0), none⟩,
         ⟨some 32, .call 91 [(.t 31)], none⟩,
         ⟨some 33, .un .not (.t 32), none⟩])
      (.cond (.t 33)
       (.seq (.region [⟨some 4, .mov (.c (.int Go.IntKind.i64 2)), none⟩])
        (.ret))
       (.skip)))
     (.seq (.region [⟨some 4, .mov (.c (.int Go.IntKind.i64 0)), none⟩])
      (.ret))))),
  [.tmp 4]⟩

/-- sentinel/treedet.run$1 -/
def a100 : AFunc := ⟨12,
  .seq (.region [⟨some 4, .mov (.c (.int Go.IntKind.i64 0)), none⟩])
  (.seq (.seq (.region [⟨some 5, .mov (.t 0), none⟩,
       ⟨some 6, .bin .lss (.t 5) (.c (.int Go.IntKind.i64 0)), none⟩])
    (.cond (.t 6)
     (.region [⟨some 7, .load false 1 (.t 1), none⟩,
        ⟨some 0, .mov (.t 7), none⟩])
     (.skip)))
   (.seq (.region [⟨some 8, .load false 1 (.t 2), none⟩,
       ⟨some 9, .mov (.t 0), none⟩,
       ⟨some 10, .iaddr 1 (.t 8) (.t 9), none⟩,
       ⟨some 11, .load false 1 (.t 10), none⟩,
       ⟨some 4, .mov (.t 11), none⟩])
    (.ret))),
  [.tmp 4]⟩

/-- sentinel/treedet.renumber$1 -/
def a102 : AFunc := ⟨48,
  .seq (.region [⟨some 9, .mov (.c (.int Go.IntKind.i64 0)), none⟩])
  (.seq (.draw 14 [⟨some 13, .faddr 2 (.t 3), none⟩,
      ⟨some 14, .load false 1 (.t 13), none⟩,
      ⟨some 15, .load false 1 (.t 4), none⟩,
      ⟨some 16, .mov (.t 0), none⟩,
      ⟨some 17, .iaddr 1 (.t 15) (.t 16), none⟩,
      ⟨some 18, .load false 1 (.t 17), none⟩,
      ⟨some 19, .iaddr 1 (.t 14) (.t 18), none⟩,
      ⟨some 20, .load false 1 (.t 19), none⟩,
      ⟨some 21, .load false 1 (.t 4), none⟩,
      ⟨some 22, .mov (.t 1), none⟩,
      ⟨some 23, .iaddr 1 (.t 21) (.t 22), none⟩,
      ⟨some 24, .load false 1 (.t 23), none⟩,
      ⟨some 25, .iaddr 1 (.t 20) (.t 24), none⟩,
      ⟨some 26, .load false 1 (.t 25), none⟩,
      ⟨some 27, .mov (.t 2), none⟩,
      ⟨some 28, .iaddr 1 (.t 26) (.t 27), none⟩,
      ⟨some 29, .load false 1 (.t 28), none⟩,
      ⟨some 10, .mov (.t 29), none⟩])
   (.seq (.seq (.region [⟨some 31, .load false 1 (.t 5), none⟩,
        ⟨some 32, .mov (.t 10), none⟩,
        ⟨some 33, .mlook [0] true (.int Go.IntKind.i64 0) (.t 31) (.t 32), none⟩,
        ⟨some 30, .mov (.t 33), none⟩,
        ⟨some 34, .ext 0 (.t 30), none⟩,
        ⟨some 35, .ext 1 (.t 30), none⟩,
        ⟨some 11, .mov (.t 34), none⟩,
        ⟨some 12, .mov (.t 35), none⟩])
     (.seq (.region [⟨some 36, .mov (.t 12), none⟩,
         ⟨some 37, .un .not (.t 36), none⟩])
      (.cond (.t 37)
       (.seq (.region [⟨some 38, .load false 1 (.t 5), none⟩,
           ⟨some 39, .mov (.t 10), none⟩,
           ⟨some 40, .load false 1 (.t 4), none⟩,
           ⟨some 41, .len (.t 40), none⟩,
           ⟨none, .mupd [0] (.t 38) (.t 39) (.t 41), none⟩])
        (.region [⟨some 42, .load false 1 (.t 4), none⟩,
           ⟨some 43, .mov (.t 10), none⟩,
           ⟨some 44, .bslice true [.int Go.IntKind.i64 0] 1 1 [(0, (.t 43))], none⟩,
           ⟨some 45, .append false 1 8 (.t 42) (.t 44), none⟩,
           ⟨none, .store 1 (.t 4) (.t 45), none⟩]))
       (.skip))))
    (.seq (.region [⟨some 46, .load false 1 (.t 4), none⟩,
        ⟨some 47, .len (.t 46), none⟩,
        ⟨some 9, .mov (.t 47), none⟩])
     (.ret)))),
  [.tmp 9]⟩

/-- sentinel/treedet.renumber$2 -/
def a103 : AFunc := ⟨29,
  .seq (.region [⟨some 9, .mov (.c (.int Go.IntKind.i64 0)), none⟩])
  (.seq (.draw 15 [⟨some 10, .load false 1 (.t 3), none⟩,
      ⟨some 11, .faddr 2 (.t 4), none⟩,
      ⟨some 12, .load false 1 (.t 11), none⟩,
      ⟨some 13, .load false 1 (.t 5), none⟩,
      ⟨some 14, .mov (.t 0), none⟩,
      ⟨some 15, .iaddr 1 (.t 13) (.t 14), none⟩,
      ⟨some 16, .load false 1 (.t 15), none⟩,
      ⟨some 17, .iaddr 1 (.t 12) (.t 16), none⟩,
      ⟨some 18, .load false 1 (.t 17), none⟩,
      ⟨some 19, .load false 1 (.t 5), none⟩,
      ⟨some 20, .mov (.t 1), none⟩,
      ⟨some 21, .iaddr 1 (.t 19) (.t 20), none⟩,
      ⟨some 22, .load false 1 (.t 21), none⟩,
      ⟨some 23, .iaddr 1 (.t 18) (.t 22), none⟩,
      ⟨some 24, .load false 1 (.t 23), none⟩,
      ⟨some 25, .mov (.t 2), none⟩,
      ⟨some 26, .iaddr 1 (.t 24) (.t 25), none⟩,
      ⟨some 27, .load false 1 (.t 26), none⟩,
      ⟨some 28, .mlook [0] false (.int Go.IntKind.i64 0) (.t 10) (.t 27), none⟩,
      ⟨some 9, .mov (.t 28), none⟩])
   (.ret)),
  [.tmp 9]⟩

/-- sentinel/treedet.renumber$3 -/
def a104 : AFunc := ⟨13,
  .seq (.region [⟨some 4, .mov (.c (.bool false)), none⟩])
  (.seq (.draw 3 [⟨some 5, .faddr 3 (.t 1), none⟩,
      ⟨some 6, .load false 1 (.t 5), none⟩,
      ⟨some 7, .load false 1 (.t 2), none⟩,
      ⟨some 8, .mov (.t 0), none⟩,
      ⟨some 9, .iaddr 1 (.t 7) (.t 8), none⟩,
      ⟨some 10, .load false 1 (.t 9), none⟩,
      ⟨some 11, .iaddr 1 (.t 6) (.t 10), none⟩,
      ⟨some 12, .load false 1 (.t 11), none⟩,
      ⟨some 4, .mov (.t 12), none⟩])
   (.ret)),
  [.tmp 4]⟩

/-- strconv.FormatBool -/
def a105 : AFunc := ⟨5,
  .seq (.region [⟨some 2, .mov (.c (.str ⟨#[]⟩)), none⟩])
  (.seq (.region [⟨some 3, .mov (.t 0), none⟩,
      ⟨some 4, .call 121 [(.t 3)], none⟩,
      ⟨some 2, .mov (.t 4), none⟩])
   (.ret)),
  [.tmp 2]⟩

/-- sentinel/treedet.classes$1 -/
def a106 : AFunc := ⟨12,
  .draw 2 [⟨some 4, .load false 1 (.t 1), none⟩,
    ⟨some 5, .load false 1 (.t 2), none⟩,
    ⟨some 6, .mov (.t 0), none⟩,
    ⟨some 7, .iaddr 1 (.t 5) (.t 6), none⟩,
    ⟨some 8, .load false 1 (.t 7), none⟩,
    ⟨some 9, .conv Go.IntKind.u8 (.t 8), none⟩,
    ⟨some 10, .bslice true [.int Go.IntKind.u8 0] 1 2 [(0, (.c (.int Go.IntKind.u8 32))), (1, (.t 9))], none⟩,
    ⟨some 11, .append false 1 1 (.t 4) (.t 10), none⟩,
    ⟨none, .store 1 (.t 1) (.t 11), none⟩],
  []⟩

def a109l0b : ACode :=
  .seq (.region [⟨some 9, .bin .lss (.t 8) (.t 7), none⟩])
  (.seq (.cond (.t 9)
    (.skip)
    (.exit 0))
   (.seq (.block 1 (.seq (.region [⟨some 10, .mov (.t 8), none⟩,
         ⟨some 5, .mov (.t 10), none⟩])
      (.seq (.region [⟨some 11, .mov (.t 1), none⟩,
          ⟨some 12, .mov (.t 0), none⟩,
          ⟨some 13, .mov (.t 5), none⟩,
          ⟨some 14, .iaddr 1 (.t 12) (.t 13), none⟩,
          ⟨some 15, .load false 1 (.t 14), none⟩,
          ⟨some 16, .icall (.t 11) [(.t 15)], none⟩])
       (.cond (.t 16)
        (.seq (.region [⟨some 17, .mov (.t 5), none⟩,
            ⟨some 4, .mov (.t 17), none⟩])
         (.ret))
        (.skip)))))
    (.region [⟨some 18, .bin .add (.t 8) (.c (.int Go.IntKind.i64 1)), none⟩,
       ⟨some 8, .mov (.t 18), none⟩])))

def a109l0 : ACode := a109l0b
def a109l0s : List Nat := [2, 3, 5, 6, 9, 10, 11, 12, 13, 14, 15, 16, 17, 18]
abbrev a109l0F (s0 s1 s4 s7 s8 : AV) : List AV := [s0, s1, .any, .any, s4, .any, .any, s7, s8, .any, .any, .any, .any, .any, .any, .any, .any, .any, .any]
theorem a109l0c (s0 s1 s2 s3 s4 s5 s6 s7 s8 s9 s10 s11 s12 s13 s14 s15 s16 s17 s18 : AV) : clearA a109l0s [s0, s1, s2, s3, s4, s5, s6, s7, s8, s9, s10, s11, s12, s13, s14, s15, s16, s17, s18] = a109l0F s0 s1 s4 s7 s8 := by kernel_rfl
theorem a109l0n {prog : Nat → Option AFunc} (s0 s1 s4 s7 s8 : AV) (H : Heap) : (lim prog).loop a109l0s a109l0 ⟨a109l0F s0 s1 s4 s7 s8, H⟩ = loopK (lim prog) a109l0s a109l0 (run (lim prog) a109l0b ⟨a109l0F s0 s1 s4 s7 s8, H⟩) := lim_loop_step _ _ _ _ (by kernel_rfl)

/-- slices.IndexFunc[[]int,int] -/
def a109 : AFunc := ⟨19,
  .seq (.region [⟨some 4, .mov (.c (.int Go.IntKind.i64 0)), none⟩])
  (.seq (.seq (.region [⟨some 6, .mov (.t 0), none⟩,
       ⟨some 7, .len (.t 6), none⟩,
       ⟨some 8, .mov (.c (.int Go.IntKind.i64 0)), none⟩])
    (.block 0 (.loop a109l0s a109l0)))
   (.seq (.region [⟨some 4, .mov (.c (.int Go.IntKind.i64 (-1))), none⟩])
    (.ret))),
  [.tmp 4]⟩

def a114l0b : ACode :=
  .seq (.region [⟨some 22, .bin .lss (.t 21) (.c (.int Go.IntKind.i64 2)), none⟩])
  (.seq (.cond (.t 22)
    (.skip)
    (.exit 0))
   (.seq (.block 1 (.seq (.region [⟨some 23, .idx false 1 2 (.t 20) (.t 21), none⟩,
         ⟨some 7, .mov (.t 23), none⟩])
      (.seq (.block 2 (.seq (.region [⟨some 25, .mov (.t 7), none⟩,
            ⟨some 26, .bin .eql (.t 25) (.c (.int Go.IntKind.i64 (-1))), none⟩,
            ⟨some 24, .mov (.t 26), none⟩])
         (.cond (.t 24)
          (.exit 1)
          (.seq (.region [⟨some 28, .mov (.t 7), none⟩,
              ⟨some 29, .mov (.t 5), none⟩,
              ⟨some 30, .bin .neq (.t 28) (.t 29), none⟩,
              ⟨some 31, .mov (.t 30), none⟩,
              ⟨some 32, .mov (.t 5), some (31, false)⟩,
              ⟨some 33, .mov (.t 0), some (31, false)⟩,
              ⟨some 34, .len (.t 33), some (31, false)⟩,
              ⟨some 35, .bin .geq (.t 32) (.t 34), some (31, false)⟩,
              ⟨some 36, .pick (.t 31) (.c (.bool true)) (.t 35), none⟩,
              ⟨some 27, .mov (.t 36), none⟩])
           (.cond (.t 27)
            (.seq (.region [⟨some 4, .mov (.c (.int Go.IntKind.i64 (-1))), none⟩])
             (.ret))
            (.skip))))))
       (.seq (.region [⟨some 37, .mov (.t 0), none⟩,
           ⟨some 38, .mov (.t 5), none⟩,
           ⟨some 39, .call 114 [(.t 37), (.t 38)], none⟩,
           ⟨some 5, .mov (.t 39), none⟩])
        (.seq (.region [⟨some 40, .mov (.t 5), none⟩,
            ⟨some 41, .bin .eql (.t 40) (.c (.int Go.IntKind.i64 (-1))), none⟩])
         (.cond (.t 41)
          (.seq (.region [⟨some 4, .mov (.c (.int Go.IntKind.i64 (-1))), none⟩])
           (.ret))
          (.skip)))))))
    (.region [⟨some 42, .bin .add (.t 21) (.c (.int Go.IntKind.i64 1)), none⟩,
       ⟨some 21, .mov (.t 42), none⟩])))

def a114l0 : ACode := a114l0b
def a114l0s : List Nat := [1, 2, 3, 6, 7, 8, 9, 10, 11, 12, 13, 14, 15, 16, 17, 18, 19, 22, 23, 24, 25, 26, 27, 28, 29, 30, 31, 32, 33, 34, 35, 36, 37, 38, 39, 40, 41, 42, 43]
abbrev a114l0F (s0 s4 s5 s20 s21 : AV) : List AV := [s0, .any, .any, .any, s4, s5, .any, .any, .any, .any, .any, .any, .any, .any, .any, .any, .any, .any, .any, .any, s20, s21, .any, .any, .any, .any, .any, .any, .any, .any, .any, .any, .any, .any, .any, .any, .any, .any, .any, .any, .any, .any, .any, .any]
theorem a114l0c (s0 s1 s2 s3 s4 s5 s6 s7 s8 s9 s10 s11 s12 s13 s14 s15 s16 s17 s18 s19 s20 s21 s22 s23 s24 s25 s26 s27 s28 s29 s30 s31 s32 s33 s34 s35 s36 s37 s38 s39 s40 s41 s42 s43 : AV) : clearA a114l0s [s0, s1, s2, s3, s4, s5, s6, s7, s8, s9, s10, s11, s12, s13, s14, s15, s16, s17, s18, s19, s20, s21, s22, s23, s24, s25, s26, s27, s28, s29, s30, s31, s32, s33, s34, s35, s36, s37, s38, s39, s40, s41, s42, s43] = a114l0F s0 s4 s5 s20 s21 := by kernel_rfl
theorem a114l0n {prog : Nat → Option AFunc} (s0 s4 s5 s20 s21 : AV) (H : Heap) : (lim prog).loop a114l0s a114l0 ⟨a114l0F s0 s4 s5 s20 s21, H⟩ = loopK (lim prog) a114l0s a114l0 (run (lim prog) a114l0b ⟨a114l0F s0 s4 s5 s20 s21, H⟩) := lim_loop_step _ _ _ _ (by kernel_rfl)

/-- sentinel/tree.end -/
def a114 : AFunc := ⟨44,
  .seq (.region [⟨some 4, .mov (.c (.int Go.IntKind.i64 0)), none⟩])
  (.seq (.region [⟨some 8, .mov (.t 1), none⟩,
      ⟨some 9, .bin .add (.t 8) (.c (.int Go.IntKind.i64 1)), none⟩,
      ⟨some 5, .mov (.t 9), none⟩])
   (.seq (.seq (.draw 12 [⟨some 10, .mov (.t 0), none⟩,
        ⟨some 11, .mov (.t 1), none⟩,
        ⟨some 12, .iaddr 3 (.t 10) (.t 11), none⟩,
        ⟨some 13, .faddr 1 (.t 12), none⟩,
        ⟨some 14, .load false 1 (.t 13), none⟩,
        ⟨some 15, .mov (.t 0), none⟩,
        ⟨some 16, .mov (.t 1), none⟩,
        ⟨some 17, .iaddr 3 (.t 15) (.t 16), none⟩,
        ⟨some 18, .faddr 2 (.t 17), none⟩,
        ⟨some 19, .load false 1 (.t 18), none⟩,
        ⟨some 20, .build [.int Go.IntKind.i64 0, .int Go.IntKind.i64 0] [(0, 1, (.t 14)), (1, 1, (.t 19))], none⟩,
        ⟨some 21, .mov (.c (.int Go.IntKind.i64 0)), none⟩])
     (.block 0 (.loop a114l0s a114l0)))
    (.seq (.region [⟨some 43, .mov (.t 5), none⟩,
        ⟨some 4, .mov (.t 43), none⟩])
     (.ret)))),
  [.tmp 4]⟩

/-- internal/strconv.FormatBool -/
def a121 : AFunc := ⟨4,
  .seq (.region [⟨some 2, .mov (.c (.str ⟨#[]⟩)), none⟩])
  (.seq (.seq (.region [⟨some 3, .mov (.t 0), none⟩])
    (.cond (.t 3)
     (.seq (.region [⟨some 2, .mov (.c (.str ⟨#[116, 114, 117, 101]⟩)), none⟩])
      (.ret))
     (.skip)))
   (.seq (.region [⟨some 2, .mov (.c (.str ⟨#[102, 97, 108, 115, 101]⟩)), none⟩])
    (.ret))),
  [.tmp 2]⟩

def aprog : Nat → Option AFunc
  | 8 => some a8
  | 14 => some a14
  | 16 => some a16
  | 18 => some a18
  | 20 => some a20
  | 21 => some a21
  | 23 => some a23
  | 25 => some a25
  | 27 => some a27
  | 29 => some a29
  | 35 => some a35
  | 37 => some a37
  | 39 => some a39
  | 41 => some a41
  | 42 => some a42
  | 43 => some a43
  | 45 => some a45
  | 52 => some a52
  | 53 => some a53
  | 54 => some a54
  | 56 => some a56
  | 60 => some a60
  | 61 => some a61
  | 62 => some a62
  | 63 => some a63
  | 66 => some a66
  | 67 => some a67
  | 73 => some a73
  | 74 => some a74
  | 75 => some a75
  | 76 => some a76
  | 77 => some a77
  | 78 => some a78
  | 79 => some a79
  | 80 => some a80
  | 81 => some a81
  | 89 => some a89
  | 90 => some a90
  | 91 => some a91
  | 99 => some a99
  | 100 => some a100
  | 102 => some a102
  | 103 => some a103
  | 104 => some a104
  | 105 => some a105
  | 106 => some a106
  | 109 => some a109
  | 114 => some a114
  | 121 => some a121
  | _ => none
theorem a8p (args : List AV) : (lim aprog).pcall 8 args = pbodyA (lim aprog) a8 args := lim_pcall_eq rfl args
theorem a8i (caps args : List AV) (H : Heap) : (lim aprog).icall (.func 8 caps) args H = bodyA (lim aprog) a8 (args ++ caps) H := lim_fcall_eq rfl caps args H
theorem a14p (args : List AV) : (lim aprog).pcall 14 args = pbodyA (lim aprog) a14 args := lim_pcall_eq rfl args
theorem a14i (caps args : List AV) (H : Heap) : (lim aprog).icall (.func 14 caps) args H = bodyA (lim aprog) a14 (args ++ caps) H := lim_fcall_eq rfl caps args H
theorem a16p (args : List AV) : (lim aprog).pcall 16 args = pbodyA (lim aprog) a16 args := lim_pcall_eq rfl args
theorem a16i (caps args : List AV) (H : Heap) : (lim aprog).icall (.func 16 caps) args H = bodyA (lim aprog) a16 (args ++ caps) H := lim_fcall_eq rfl caps args H
theorem a18p (args : List AV) : (lim aprog).pcall 18 args = pbodyA (lim aprog) a18 args := lim_pcall_eq rfl args
theorem a18i (caps args : List AV) (H : Heap) : (lim aprog).icall (.func 18 caps) args H = bodyA (lim aprog) a18 (args ++ caps) H := lim_fcall_eq rfl caps args H
theorem a20p (args : List AV) : (lim aprog).pcall 20 args = pbodyA (lim aprog) a20 args := lim_pcall_eq rfl args
theorem a20i (caps args : List AV) (H : Heap) : (lim aprog).icall (.func 20 caps) args H = bodyA (lim aprog) a20 (args ++ caps) H := lim_fcall_eq rfl caps args H
theorem a21p (args : List AV) : (lim aprog).pcall 21 args = pbodyA (lim aprog) a21 args := lim_pcall_eq rfl args
theorem a21i (caps args : List AV) (H : Heap) : (lim aprog).icall (.func 21 caps) args H = bodyA (lim aprog) a21 (args ++ caps) H := lim_fcall_eq rfl caps args H
theorem a23p (args : List AV) : (lim aprog).pcall 23 args = pbodyA (lim aprog) a23 args := lim_pcall_eq rfl args
theorem a23i (caps args : List AV) (H : Heap) : (lim aprog).icall (.func 23 caps) args H = bodyA (lim aprog) a23 (args ++ caps) H := lim_fcall_eq rfl caps args H
theorem a25p (args : List AV) : (lim aprog).pcall 25 args = pbodyA (lim aprog) a25 args := lim_pcall_eq rfl args
theorem a25i (caps args : List AV) (H : Heap) : (lim aprog).icall (.func 25 caps) args H = bodyA (lim aprog) a25 (args ++ caps) H := lim_fcall_eq rfl caps args H
theorem a27p (args : List AV) : (lim aprog).pcall 27 args = pbodyA (lim aprog) a27 args := lim_pcall_eq rfl args
theorem a27i (caps args : List AV) (H : Heap) : (lim aprog).icall (.func 27 caps) args H = bodyA (lim aprog) a27 (args ++ caps) H := lim_fcall_eq rfl caps args H
theorem a29p (args : List AV) : (lim aprog).pcall 29 args = pbodyA (lim aprog) a29 args := lim_pcall_eq rfl args
theorem a29i (caps args : List AV) (H : Heap) : (lim aprog).icall (.func 29 caps) args H = bodyA (lim aprog) a29 (args ++ caps) H := lim_fcall_eq rfl caps args H
theorem a35p (args : List AV) : (lim aprog).pcall 35 args = pbodyA (lim aprog) a35 args := lim_pcall_eq rfl args
theorem a35i (caps args : List AV) (H : Heap) : (lim aprog).icall (.func 35 caps) args H = bodyA (lim aprog) a35 (args ++ caps) H := lim_fcall_eq rfl caps args H
theorem a37p (args : List AV) : (lim aprog).pcall 37 args = pbodyA (lim aprog) a37 args := lim_pcall_eq rfl args
theorem a37i (caps args : List AV) (H : Heap) : (lim aprog).icall (.func 37 caps) args H = bodyA (lim aprog) a37 (args ++ caps) H := lim_fcall_eq rfl caps args H
theorem a39p (args : List AV) : (lim aprog).pcall 39 args = pbodyA (lim aprog) a39 args := lim_pcall_eq rfl args
theorem a39i (caps args : List AV) (H : Heap) : (lim aprog).icall (.func 39 caps) args H = bodyA (lim aprog) a39 (args ++ caps) H := lim_fcall_eq rfl caps args H
theorem a41p (args : List AV) : (lim aprog).pcall 41 args = pbodyA (lim aprog) a41 args := lim_pcall_eq rfl args
theorem a41i (caps args : List AV) (H : Heap) : (lim aprog).icall (.func 41 caps) args H = bodyA (lim aprog) a41 (args ++ caps) H := lim_fcall_eq rfl caps args H
theorem a42p (args : List AV) : (lim aprog).pcall 42 args = pbodyA (lim aprog) a42 args := lim_pcall_eq rfl args
theorem a42i (caps args : List AV) (H : Heap) : (lim aprog).icall (.func 42 caps) args H = bodyA (lim aprog) a42 (args ++ caps) H := lim_fcall_eq rfl caps args H
theorem a43p (args : List AV) : (lim aprog).pcall 43 args = pbodyA (lim aprog) a43 args := lim_pcall_eq rfl args
theorem a43i (caps args : List AV) (H : Heap) : (lim aprog).icall (.func 43 caps) args H = bodyA (lim aprog) a43 (args ++ caps) H := lim_fcall_eq rfl caps args H
theorem a45p (args : List AV) : (lim aprog).pcall 45 args = pbodyA (lim aprog) a45 args := lim_pcall_eq rfl args
theorem a45i (caps args : List AV) (H : Heap) : (lim aprog).icall (.func 45 caps) args H = bodyA (lim aprog) a45 (args ++ caps) H := lim_fcall_eq rfl caps args H
theorem a52p (args : List AV) : (lim aprog).pcall 52 args = pbodyA (lim aprog) a52 args := lim_pcall_eq rfl args
theorem a52i (caps args : List AV) (H : Heap) : (lim aprog).icall (.func 52 caps) args H = bodyA (lim aprog) a52 (args ++ caps) H := lim_fcall_eq rfl caps args H
theorem a53p (args : List AV) : (lim aprog).pcall 53 args = pbodyA (lim aprog) a53 args := lim_pcall_eq rfl args
theorem a53i (caps args : List AV) (H : Heap) : (lim aprog).icall (.func 53 caps) args H = bodyA (lim aprog) a53 (args ++ caps) H := lim_fcall_eq rfl caps args H
theorem a54p (args : List AV) : (lim aprog).pcall 54 args = pbodyA (lim aprog) a54 args := lim_pcall_eq rfl args
theorem a54i (caps args : List AV) (H : Heap) : (lim aprog).icall (.func 54 caps) args H = bodyA (lim aprog) a54 (args ++ caps) H := lim_fcall_eq rfl caps args H
theorem a56p (args : List AV) : (lim aprog).pcall 56 args = pbodyA (lim aprog) a56 args := lim_pcall_eq rfl args
theorem a56i (caps args : List AV) (H : Heap) : (lim aprog).icall (.func 56 caps) args H = bodyA (lim aprog) a56 (args ++ caps) H := lim_fcall_eq rfl caps args H
theorem a60p (args : List AV) : (lim aprog).pcall 60 args = pbodyA (lim aprog) a60 args := lim_pcall_eq rfl args
theorem a60i (caps args : List AV) (H : Heap) : (lim aprog).icall (.func 60 caps) args H = bodyA (lim aprog) a60 (args ++ caps) H := lim_fcall_eq rfl caps args H
theorem a61p (args : List AV) : (lim aprog).pcall 61 args = pbodyA (lim aprog) a61 args := lim_pcall_eq rfl args
theorem a61i (caps args : List AV) (H : Heap) : (lim aprog).icall (.func 61 caps) args H = bodyA (lim aprog) a61 (args ++ caps) H := lim_fcall_eq rfl caps args H
theorem a62p (args : List AV) : (lim aprog).pcall 62 args = pbodyA (lim aprog) a62 args := lim_pcall_eq rfl args
theorem a62i (caps args : List AV) (H : Heap) : (lim aprog).icall (.func 62 caps) args H = bodyA (lim aprog) a62 (args ++ caps) H := lim_fcall_eq rfl caps args H
theorem a63p (args : List AV) : (lim aprog).pcall 63 args = pbodyA (lim aprog) a63 args := lim_pcall_eq rfl args
theorem a63i (caps args : List AV) (H : Heap) : (lim aprog).icall (.func 63 caps) args H = bodyA (lim aprog) a63 (args ++ caps) H := lim_fcall_eq rfl caps args H
theorem a66p (args : List AV) : (lim aprog).pcall 66 args = pbodyA (lim aprog) a66 args := lim_pcall_eq rfl args
theorem a66i (caps args : List AV) (H : Heap) : (lim aprog).icall (.func 66 caps) args H = bodyA (lim aprog) a66 (args ++ caps) H := lim_fcall_eq rfl caps args H
theorem a67p (args : List AV) : (lim aprog).pcall 67 args = pbodyA (lim aprog) a67 args := lim_pcall_eq rfl args
theorem a67i (caps args : List AV) (H : Heap) : (lim aprog).icall (.func 67 caps) args H = bodyA (lim aprog) a67 (args ++ caps) H := lim_fcall_eq rfl caps args H
theorem a73p (args : List AV) : (lim aprog).pcall 73 args = pbodyA (lim aprog) a73 args := lim_pcall_eq rfl args
theorem a73i (caps args : List AV) (H : Heap) : (lim aprog).icall (.func 73 caps) args H = bodyA (lim aprog) a73 (args ++ caps) H := lim_fcall_eq rfl caps args H
theorem a74p (args : List AV) : (lim aprog).pcall 74 args = pbodyA (lim aprog) a74 args := lim_pcall_eq rfl args
theorem a74i (caps args : List AV) (H : Heap) : (lim aprog).icall (.func 74 caps) args H = bodyA (lim aprog) a74 (args ++ caps) H := lim_fcall_eq rfl caps args H
theorem a75p (args : List AV) : (lim aprog).pcall 75 args = pbodyA (lim aprog) a75 args := lim_pcall_eq rfl args
theorem a75i (caps args : List AV) (H : Heap) : (lim aprog).icall (.func 75 caps) args H = bodyA (lim aprog) a75 (args ++ caps) H := lim_fcall_eq rfl caps args H
theorem a76p (args : List AV) : (lim aprog).pcall 76 args = pbodyA (lim aprog) a76 args := lim_pcall_eq rfl args
theorem a76i (caps args : List AV) (H : Heap) : (lim aprog).icall (.func 76 caps) args H = bodyA (lim aprog) a76 (args ++ caps) H := lim_fcall_eq rfl caps args H
theorem a77p (args : List AV) : (lim aprog).pcall 77 args = pbodyA (lim aprog) a77 args := lim_pcall_eq rfl args
theorem a77i (caps args : List AV) (H : Heap) : (lim aprog).icall (.func 77 caps) args H = bodyA (lim aprog) a77 (args ++ caps) H := lim_fcall_eq rfl caps args H
theorem a78p (args : List AV) : (lim aprog).pcall 78 args = pbodyA (lim aprog) a78 args := lim_pcall_eq rfl args
theorem a78i (caps args : List AV) (H : Heap) : (lim aprog).icall (.func 78 caps) args H = bodyA (lim aprog) a78 (args ++ caps) H := lim_fcall_eq rfl caps args H
theorem a79p (args : List AV) : (lim aprog).pcall 79 args = pbodyA (lim aprog) a79 args := lim_pcall_eq rfl args
theorem a79i (caps args : List AV) (H : Heap) : (lim aprog).icall (.func 79 caps) args H = bodyA (lim aprog) a79 (args ++ caps) H := lim_fcall_eq rfl caps args H
theorem a80p (args : List AV) : (lim aprog).pcall 80 args = pbodyA (lim aprog) a80 args := lim_pcall_eq rfl args
theorem a80i (caps args : List AV) (H : Heap) : (lim aprog).icall (.func 80 caps) args H = bodyA (lim aprog) a80 (args ++ caps) H := lim_fcall_eq rfl caps args H
theorem a81p (args : List AV) : (lim aprog).pcall 81 args = pbodyA (lim aprog) a81 args := lim_pcall_eq rfl args
theorem a81i (caps args : List AV) (H : Heap) : (lim aprog).icall (.func 81 caps) args H = bodyA (lim aprog) a81 (args ++ caps) H := lim_fcall_eq rfl caps args H
theorem a89p (args : List AV) : (lim aprog).pcall 89 args = pbodyA (lim aprog) a89 args := lim_pcall_eq rfl args
theorem a89i (caps args : List AV) (H : Heap) : (lim aprog).icall (.func 89 caps) args H = bodyA (lim aprog) a89 (args ++ caps) H := lim_fcall_eq rfl caps args H
theorem a90p (args : List AV) : (lim aprog).pcall 90 args = pbodyA (lim aprog) a90 args := lim_pcall_eq rfl args
theorem a90i (caps args : List AV) (H : Heap) : (lim aprog).icall (.func 90 caps) args H = bodyA (lim aprog) a90 (args ++ caps) H := lim_fcall_eq rfl caps args H
theorem a91p (args : List AV) : (lim aprog).pcall 91 args = pbodyA (lim aprog) a91 args := lim_pcall_eq rfl args
theorem a91i (caps args : List AV) (H : Heap) : (lim aprog).icall (.func 91 caps) args H = bodyA (lim aprog) a91 (args ++ caps) H := lim_fcall_eq rfl caps args H
theorem a99p (args : List AV) : (lim aprog).pcall 99 args = pbodyA (lim aprog) a99 args := lim_pcall_eq rfl args
theorem a99i (caps args : List AV) (H : Heap) : (lim aprog).icall (.func 99 caps) args H = bodyA (lim aprog) a99 (args ++ caps) H := lim_fcall_eq rfl caps args H
theorem a100p (args : List AV) : (lim aprog).pcall 100 args = pbodyA (lim aprog) a100 args := lim_pcall_eq rfl args
theorem a100i (caps args : List AV) (H : Heap) : (lim aprog).icall (.func 100 caps) args H = bodyA (lim aprog) a100 (args ++ caps) H := lim_fcall_eq rfl caps args H
theorem a102p (args : List AV) : (lim aprog).pcall 102 args = pbodyA (lim aprog) a102 args := lim_pcall_eq rfl args
theorem a102i (caps args : List AV) (H : Heap) : (lim aprog).icall (.func 102 caps) args H = bodyA (lim aprog) a102 (args ++ caps) H := lim_fcall_eq rfl caps args H
theorem a103p (args : List AV) : (lim aprog).pcall 103 args = pbodyA (lim aprog) a103 args := lim_pcall_eq rfl args
theorem a103i (caps args : List AV) (H : Heap) : (lim aprog).icall (.func 103 caps) args H = bodyA (lim aprog) a103 (args ++ caps) H := lim_fcall_eq rfl caps args H
theorem a104p (args : List AV) : (lim aprog).pcall 104 args = pbodyA (lim aprog) a104 args := lim_pcall_eq rfl args
theorem a104i (caps args : List AV) (H : Heap) : (lim aprog).icall (.func 104 caps) args H = bodyA (lim aprog) a104 (args ++ caps) H := lim_fcall_eq rfl caps args H
theorem a105p (args : List AV) : (lim aprog).pcall 105 args = pbodyA (lim aprog) a105 args := lim_pcall_eq rfl args
theorem a105i (caps args : List AV) (H : Heap) : (lim aprog).icall (.func 105 caps) args H = bodyA (lim aprog) a105 (args ++ caps) H := lim_fcall_eq rfl caps args H
theorem a106p (args : List AV) : (lim aprog).pcall 106 args = pbodyA (lim aprog) a106 args := lim_pcall_eq rfl args
theorem a106i (caps args : List AV) (H : Heap) : (lim aprog).icall (.func 106 caps) args H = bodyA (lim aprog) a106 (args ++ caps) H := lim_fcall_eq rfl caps args H
theorem a109p (args : List AV) : (lim aprog).pcall 109 args = pbodyA (lim aprog) a109 args := lim_pcall_eq rfl args
theorem a109i (caps args : List AV) (H : Heap) : (lim aprog).icall (.func 109 caps) args H = bodyA (lim aprog) a109 (args ++ caps) H := lim_fcall_eq rfl caps args H
theorem a114p (args : List AV) : (lim aprog).pcall 114 args = pbodyA (lim aprog) a114 args := lim_pcall_eq rfl args
theorem a114i (caps args : List AV) (H : Heap) : (lim aprog).icall (.func 114 caps) args H = bodyA (lim aprog) a114 (args ++ caps) H := lim_fcall_eq rfl caps args H
theorem a121p (args : List AV) : (lim aprog).pcall 121 args = pbodyA (lim aprog) a121 args := lim_pcall_eq rfl args
theorem a121i (caps args : List AV) (H : Heap) : (lim aprog).icall (.func 121 caps) args H = bodyA (lim aprog) a121 (args ++ caps) H := lim_fcall_eq rfl caps args H
end Go.Abs.Det
