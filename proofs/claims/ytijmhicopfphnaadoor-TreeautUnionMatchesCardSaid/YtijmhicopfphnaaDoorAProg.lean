/- The functions in the interpreter's words. -/
import Derived.Test.YtijmhicopfphnaaDoorAbsEnc
import Derived.Test.YtijmhicopfphnaaDoorProg
namespace Go.Abs.Tree
open Go Go.Abs
def a4l0b : ACode :=
  .seq (.seq (.region [⟨some 16, .mov (.t 7), none⟩,
      ⟨some 17, .bin .lss (.t 16) (.c (.int Go.IntKind.i64 2)), none⟩])
   (.cond (.t 17)
    (.skip)
    (.exit 0)))
  (.seq (.block 1 (.seq (.region [⟨some 21, .load true 5 (.t 5), none⟩,
        ⟨some 22, .load true 5 (.t 6), none⟩,
        ⟨some 23, .ocall 30 [(.t 21), (.t 22)], none⟩,
        ⟨some 20, .mov (.t 23), none⟩,
        ⟨some 24, .ext 0 (.t 20), none⟩,
        ⟨some 25, .ext 1 (.t 20), none⟩,
        ⟨some 8, .box (.c (.agg [.int Go.IntKind.i64 0, .int Go.IntKind.i64 0, .sl true 0 [], .sl true 0 [], .sl true 0 []])), none⟩,
        ⟨none, .store 5 (.t 8) (.t 24), none⟩,
        ⟨some 9, .mov (.t 25), none⟩])
     (.seq (.region [⟨some 27, .load true 5 (.t 5), none⟩,
         ⟨some 28, .load true 5 (.t 6), none⟩,
         ⟨some 29, .call 31 [(.t 27), (.t 28)], none⟩,
         ⟨some 26, .mov (.t 29), none⟩,
         ⟨some 30, .ext 0 (.t 26), none⟩,
         ⟨some 31, .ext 1 (.t 26), none⟩,
         ⟨some 10, .box (.c (.agg [.int Go.IntKind.i64 0, .int Go.IntKind.i64 0, .sl true 0 [], .sl true 0 [], .sl true 0 []])), none⟩,
         ⟨none, .store 5 (.t 10) (.t 30), none⟩,
         ⟨some 11, .mov (.t 31), none⟩])
      (.seq (.seq (.draw 20 [⟨some 32, .load true 5 (.t 8), none⟩,
           ⟨some 33, .load true 5 (.t 10), none⟩,
           ⟨some 34, .call 25 [(.t 32), (.t 33)], none⟩,
           ⟨some 35, .un .not (.t 34), none⟩,
           ⟨some 36, .mov (.t 35), none⟩,
           ⟨some 37, .mov (.t 9), some (36, false)⟩,
           ⟨some 38, .mov (.t 11), some (36, false)⟩,
           ⟨some 39, .bin .neq (.t 37) (.t 38), some (36, false)⟩,
           ⟨some 40, .pick (.t 36) (.c (.bool true)) (.t 39), none⟩,
           ⟨some 41, .mov (.t 40), none⟩,
           ⟨some 42, .load true 5 (.t 5), some (41, false)⟩,
           ⟨some 43, .load true 5 (.t 2), some (41, false)⟩,
           ⟨some 44, .call 12 [(.t 43)], some (41, false)⟩,
           ⟨some 45, .call 25 [(.t 42), (.t 44)], some (41, false)⟩,
           ⟨some 46, .un .not (.t 45), some (41, false)⟩,
           ⟨some 47, .pick (.t 41) (.c (.bool true)) (.t 46), none⟩,
           ⟨some 48, .mov (.t 47), none⟩,
           ⟨some 49, .load true 5 (.t 6), some (48, false)⟩,
           ⟨some 50, .load true 5 (.t 3), some (48, false)⟩,
           ⟨some 51, .call 12 [(.t 50)], some (48, false)⟩,
           ⟨some 52, .call 25 [(.t 49), (.t 51)], some (48, false)⟩,
           ⟨some 53, .un .not (.t 52), some (48, false)⟩,
           ⟨some 54, .pick (.t 48) (.c (.bool true)) (.t 53), none⟩])
        (.cond (.t 54)
         (.seq (.region [⟨some 4, .mov (.c (.bool false)), none⟩])
          (.ret))
         (.skip)))
       (.region [⟨some 55, .load true 5 (.t 8), none⟩,
          ⟨some 56, .icall (.c (.func 28 [])) [(.t 55)], none⟩])))))
   (.region [⟨some 18, .mov (.t 7), none⟩,
      ⟨some 19, .bin .add (.t 18) (.c (.int Go.IntKind.i64 1)), none⟩,
      ⟨some 7, .mov (.t 19), none⟩]))

def a4l0 : ACode := a4l0b
def a4l0s : List Nat := [0, 1, 8, 9, 10, 11, 12, 13, 14, 15, 16, 17, 18, 19, 20, 21, 22, 23, 24, 25, 26, 27, 28, 29, 30, 31, 32, 33, 34, 35, 36, 37, 38, 39, 40, 41, 42, 43, 44, 45, 46, 47, 48, 49, 50, 51, 52, 53, 54, 55, 56, 57]
abbrev a4l0F (s2 s3 s4 s5 s6 s7 : AV) : List AV := [.any, .any, s2, s3, s4, s5, s6, s7, .any, .any, .any, .any, .any, .any, .any, .any, .any, .any, .any, .any, .any, .any, .any, .any, .any, .any, .any, .any, .any, .any, .any, .any, .any, .any, .any, .any, .any, .any, .any, .any, .any, .any, .any, .any, .any, .any, .any, .any, .any, .any, .any, .any, .any, .any, .any, .any, .any, .any]
theorem a4l0c (s0 s1 s2 s3 s4 s5 s6 s7 s8 s9 s10 s11 s12 s13 s14 s15 s16 s17 s18 s19 s20 s21 s22 s23 s24 s25 s26 s27 s28 s29 s30 s31 s32 s33 s34 s35 s36 s37 s38 s39 s40 s41 s42 s43 s44 s45 s46 s47 s48 s49 s50 s51 s52 s53 s54 s55 s56 s57 : AV) : clearA a4l0s [s0, s1, s2, s3, s4, s5, s6, s7, s8, s9, s10, s11, s12, s13, s14, s15, s16, s17, s18, s19, s20, s21, s22, s23, s24, s25, s26, s27, s28, s29, s30, s31, s32, s33, s34, s35, s36, s37, s38, s39, s40, s41, s42, s43, s44, s45, s46, s47, s48, s49, s50, s51, s52, s53, s54, s55, s56, s57] = a4l0F s2 s3 s4 s5 s6 s7 := by kernel_rfl
theorem a4l0n {prog : Nat → Option AFunc} (s2 s3 s4 s5 s6 s7 : AV) (H : Heap) : (lim prog).loop a4l0s a4l0 ⟨a4l0F s2 s3 s4 s5 s6 s7, H⟩ = loopK (lim prog) a4l0s a4l0 (run (lim prog) a4l0b ⟨a4l0F s2 s3 s4 s5 s6 s7, H⟩) := lim_loop_step _ _ _ _ (by kernel_rfl)

/-- sentinel/sentinellaw18.TreeautUnionMatches -/
def a4 : AFunc := ⟨58,
  .seq (.region [⟨some 2, .box (.t 0), none⟩,
     ⟨some 3, .box (.t 1), none⟩,
     ⟨some 4, .mov (.c (.bool false)), none⟩])
  (.seq (.draw 6 [⟨some 12, .load true 5 (.t 2), none⟩,
      ⟨some 13, .call 12 [(.t 12)], none⟩,
      ⟨some 14, .load true 5 (.t 3), none⟩,
      ⟨some 15, .call 12 [(.t 14)], none⟩,
      ⟨some 5, .box (.c (.agg [.int Go.IntKind.i64 0, .int Go.IntKind.i64 0, .sl true 0 [], .sl true 0 [], .sl true 0 []])), none⟩,
      ⟨some 6, .box (.c (.agg [.int Go.IntKind.i64 0, .int Go.IntKind.i64 0, .sl true 0 [], .sl true 0 [], .sl true 0 []])), none⟩,
      ⟨none, .store 5 (.t 5) (.t 13), none⟩,
      ⟨none, .store 5 (.t 6) (.t 15), none⟩])
   (.seq (.seq (.region [⟨some 7, .mov (.c (.int Go.IntKind.i64 0)), none⟩])
     (.block 0 (.loop a4l0s a4l0)))
    (.seq (.region [⟨some 57, .call 29 [], none⟩,
        ⟨some 4, .mov (.t 57), none⟩])
     (.ret)))),
  [.tmp 4]⟩

/-- sentinel/sentinellaw18.few -/
def a12 : AFunc := ⟨29,
  .seq (.region [⟨some 1, .box (.t 0), none⟩,
     ⟨some 2, .box (.c (.agg [.int Go.IntKind.i64 0, .int Go.IntKind.i64 0, .sl true 0 [], .sl true 0 [], .sl true 0 []])), none⟩])
  (.seq (.region [⟨some 3, .faddr 2 (.t 1), none⟩,
      ⟨some 4, .load false 1 (.t 3), none⟩,
      ⟨some 5, .faddr 2 (.t 1), none⟩,
      ⟨some 6, .load false 1 (.t 5), none⟩,
      ⟨some 7, .len (.t 6), none⟩,
      ⟨some 8, .mini (.t 7) (.c (.int Go.IntKind.i64 70)), none⟩,
      ⟨some 9, .slice 1 (.t 4) none (some (.t 8)) none, none⟩,
      ⟨some 10, .faddr 2 (.t 1), none⟩,
      ⟨none, .store 1 (.t 10) (.t 9), none⟩])
   (.seq (.region [⟨some 11, .faddr 3 (.t 1), none⟩,
       ⟨some 12, .load false 1 (.t 11), none⟩,
       ⟨some 13, .faddr 3 (.t 1), none⟩,
       ⟨some 14, .load false 1 (.t 13), none⟩,
       ⟨some 15, .len (.t 14), none⟩,
       ⟨some 16, .mini (.t 15) (.c (.int Go.IntKind.i64 70)), none⟩,
       ⟨some 17, .slice 1 (.t 12) none (some (.t 16)) none, none⟩,
       ⟨some 18, .faddr 3 (.t 1), none⟩,
       ⟨none, .store 1 (.t 18) (.t 17), none⟩])
    (.seq (.region [⟨some 19, .faddr 4 (.t 1), none⟩,
        ⟨some 20, .load false 1 (.t 19), none⟩,
        ⟨some 21, .faddr 4 (.t 1), none⟩,
        ⟨some 22, .load false 1 (.t 21), none⟩,
        ⟨some 23, .len (.t 22), none⟩,
        ⟨some 24, .mini (.t 23) (.c (.int Go.IntKind.i64 520)), none⟩,
        ⟨some 25, .slice 5 (.t 20) none (some (.t 24)) none, none⟩,
        ⟨some 26, .faddr 4 (.t 1), none⟩,
        ⟨none, .store 1 (.t 26) (.t 25), none⟩])
     (.seq (.region [⟨some 27, .load true 5 (.t 1), none⟩,
         ⟨some 28, .call 33 [(.t 27)], none⟩,
         ⟨none, .store 5 (.t 2) (.t 28), none⟩])
      (.ret))))),
  [.cell 2 true 5]⟩

def a14l0b : ACode :=
  .seq (.region [⟨some 38, .bin .lss (.t 37) (.c (.int Go.IntKind.i64 2)), none⟩])
  (.seq (.cond (.t 38)
    (.skip)
    (.exit 1))
   (.seq (.block 2 (.seq (.region [⟨some 39, .idx false 1 2 (.t 36) (.t 37), none⟩,
         ⟨some 4, .mov (.t 39), none⟩])
      (.seq (.region [⟨some 40, .mov (.t 4), none⟩,
          ⟨some 41, .faddr 1 (.t 1), none⟩,
          ⟨some 42, .load false 1 (.t 41), none⟩,
          ⟨some 43, .call 44 [(.t 40), (.t 42)], none⟩,
          ⟨some 5, .mov (.t 43), none⟩])
       (.seq (.region [⟨some 44, .mov (.t 5), none⟩,
           ⟨some 45, .bin .neq (.t 44) (.c (.int Go.IntKind.i64 0)), none⟩])
        (.cond (.t 45)
         (.seq (.region [⟨some 46, .mov (.t 5), none⟩,
             ⟨some 2, .mov (.t 46), none⟩])
          (.ret))
         (.skip))))))
    (.region [⟨some 47, .bin .add (.t 37) (.c (.int Go.IntKind.i64 1)), none⟩,
       ⟨some 37, .mov (.t 47), none⟩])))

def a14l0 : ACode := a14l0b
def a14l0s : List Nat := [0, 3, 4, 5, 6, 7, 8, 9, 10, 11, 12, 13, 14, 15, 16, 17, 18, 19, 20, 21, 22, 23, 24, 25, 26, 27, 28, 29, 30, 31, 32, 33, 34, 35, 38, 39, 40, 41, 42, 43, 44, 45, 46, 47, 48, 49, 50, 51, 52, 53, 54, 55, 56, 57, 58, 59, 60, 61, 62, 63, 64, 65, 66, 67, 68, 69, 70, 71, 72, 73, 74, 75, 76, 77, 78, 79, 80, 81, 82, 83, 84, 85, 86]
abbrev a14l0F (s1 s2 s36 s37 : AV) : List AV := [.any, s1, s2, .any, .any, .any, .any, .any, .any, .any, .any, .any, .any, .any, .any, .any, .any, .any, .any, .any, .any, .any, .any, .any, .any, .any, .any, .any, .any, .any, .any, .any, .any, .any, .any, .any, s36, s37, .any, .any, .any, .any, .any, .any, .any, .any, .any, .any, .any, .any, .any, .any, .any, .any, .any, .any, .any, .any, .any, .any, .any, .any, .any, .any, .any, .any, .any, .any, .any, .any, .any, .any, .any, .any, .any, .any, .any, .any, .any, .any, .any, .any, .any, .any, .any, .any, .any]
theorem a14l0c (s0 s1 s2 s3 s4 s5 s6 s7 s8 s9 s10 s11 s12 s13 s14 s15 s16 s17 s18 s19 s20 s21 s22 s23 s24 s25 s26 s27 s28 s29 s30 s31 s32 s33 s34 s35 s36 s37 s38 s39 s40 s41 s42 s43 s44 s45 s46 s47 s48 s49 s50 s51 s52 s53 s54 s55 s56 s57 s58 s59 s60 s61 s62 s63 s64 s65 s66 s67 s68 s69 s70 s71 s72 s73 s74 s75 s76 s77 s78 s79 s80 s81 s82 s83 s84 s85 s86 : AV) : clearA a14l0s [s0, s1, s2, s3, s4, s5, s6, s7, s8, s9, s10, s11, s12, s13, s14, s15, s16, s17, s18, s19, s20, s21, s22, s23, s24, s25, s26, s27, s28, s29, s30, s31, s32, s33, s34, s35, s36, s37, s38, s39, s40, s41, s42, s43, s44, s45, s46, s47, s48, s49, s50, s51, s52, s53, s54, s55, s56, s57, s58, s59, s60, s61, s62, s63, s64, s65, s66, s67, s68, s69, s70, s71, s72, s73, s74, s75, s76, s77, s78, s79, s80, s81, s82, s83, s84, s85, s86] = a14l0F s1 s2 s36 s37 := by kernel_rfl
theorem a14l0n {prog : Nat → Option AFunc} (s1 s2 s36 s37 : AV) (H : Heap) : (lim prog).loop a14l0s a14l0 ⟨a14l0F s1 s2 s36 s37, H⟩ = loopK (lim prog) a14l0s a14l0 (run (lim prog) a14l0b ⟨a14l0F s1 s2 s36 s37, H⟩) := lim_loop_step _ _ _ _ (by kernel_rfl)

def a14l1b : ACode :=
  .seq (.region [⟨some 52, .bin .lss (.t 51) (.t 50), none⟩])
  (.seq (.cond (.t 52)
    (.skip)
    (.exit 3))
   (.seq (.block 4 (.seq (.region [⟨some 53, .iaddr 5 (.t 49) (.t 51), none⟩,
         ⟨some 54, .load true 5 (.t 53), none⟩,
         ⟨some 7, .box (.c (.agg [.int Go.IntKind.i64 0, .int Go.IntKind.i64 0, .int Go.IntKind.i64 0, .int Go.IntKind.u8 0, .int Go.IntKind.u8 0])), none⟩,
         ⟨none, .store 5 (.t 7) (.t 54), none⟩])
      (.seq (.seq (.region [⟨some 55, .faddr 0 (.t 7), none⟩,
           ⟨some 56, .load false 1 (.t 55), none⟩,
           ⟨some 57, .faddr 1 (.t 7), none⟩,
           ⟨some 58, .load false 1 (.t 57), none⟩,
           ⟨some 59, .faddr 2 (.t 7), none⟩,
           ⟨some 60, .load false 1 (.t 59), none⟩,
           ⟨some 61, .mm false [(.t 56), (.t 58), (.t 60)], none⟩,
           ⟨some 62, .bin .lss (.t 61) (.c (.int Go.IntKind.i64 0)), none⟩,
           ⟨some 63, .mov (.t 62), none⟩,
           ⟨some 64, .faddr 0 (.t 7), some (63, false)⟩,
           ⟨some 65, .load false 1 (.t 64), some (63, false)⟩,
           ⟨some 66, .faddr 1 (.t 7), some (63, false)⟩,
           ⟨some 67, .load false 1 (.t 66), some (63, false)⟩,
           ⟨some 68, .faddr 2 (.t 7), some (63, false)⟩,
           ⟨some 69, .load false 1 (.t 68), some (63, false)⟩,
           ⟨some 70, .mm true [(.t 65), (.t 67), (.t 69)], some (63, false)⟩,
           ⟨some 71, .faddr 1 (.t 1), some (63, false)⟩,
           ⟨some 72, .load false 1 (.t 71), some (63, false)⟩,
           ⟨some 73, .bin .geq (.t 70) (.t 72), some (63, false)⟩,
           ⟨some 74, .pick (.t 63) (.c (.bool true)) (.t 73), none⟩])
        (.cond (.t 74)
         (.seq (.region [⟨some 2, .mov (.c (.int Go.IntKind.i64 8)), none⟩])
          (.ret))
         (.skip)))
       (.seq (.region [⟨some 75, .faddr 3 (.t 7), none⟩,
           ⟨some 76, .load false 1 (.t 75), none⟩,
           ⟨some 77, .faddr 4 (.t 7), none⟩,
           ⟨some 78, .load false 1 (.t 77), none⟩,
           ⟨some 79, .build [.int Go.IntKind.u8 0, .int Go.IntKind.u8 0] [(0, 1, (.t 76)), (1, 1, (.t 78))], none⟩,
           ⟨some 80, .faddr 0 (.t 1), none⟩,
           ⟨some 81, .load false 1 (.t 80), none⟩,
           ⟨some 82, .call 45 [(.t 79), (.t 81)], none⟩,
           ⟨some 8, .mov (.t 82), none⟩])
        (.seq (.region [⟨some 83, .mov (.t 8), none⟩,
            ⟨some 84, .bin .neq (.t 83) (.c (.int Go.IntKind.i64 0)), none⟩])
         (.cond (.t 84)
          (.seq (.region [⟨some 85, .mov (.t 8), none⟩,
              ⟨some 2, .mov (.t 85), none⟩])
           (.ret))
          (.skip)))))))
    (.region [⟨some 86, .bin .add (.t 51) (.c (.int Go.IntKind.i64 1)), none⟩,
       ⟨some 51, .mov (.t 86), none⟩])))

def a14l1 : ACode := a14l1b
def a14l1s : List Nat := [0, 3, 4, 5, 6, 7, 8, 9, 10, 11, 12, 13, 14, 15, 16, 17, 18, 19, 20, 21, 22, 23, 24, 25, 26, 27, 28, 29, 30, 31, 32, 33, 34, 35, 36, 37, 38, 39, 40, 41, 42, 43, 44, 45, 46, 47, 48, 52, 53, 54, 55, 56, 57, 58, 59, 60, 61, 62, 63, 64, 65, 66, 67, 68, 69, 70, 71, 72, 73, 74, 75, 76, 77, 78, 79, 80, 81, 82, 83, 84, 85, 86]
abbrev a14l1F (s1 s2 s49 s50 s51 : AV) : List AV := [.any, s1, s2, .any, .any, .any, .any, .any, .any, .any, .any, .any, .any, .any, .any, .any, .any, .any, .any, .any, .any, .any, .any, .any, .any, .any, .any, .any, .any, .any, .any, .any, .any, .any, .any, .any, .any, .any, .any, .any, .any, .any, .any, .any, .any, .any, .any, .any, .any, s49, s50, s51, .any, .any, .any, .any, .any, .any, .any, .any, .any, .any, .any, .any, .any, .any, .any, .any, .any, .any, .any, .any, .any, .any, .any, .any, .any, .any, .any, .any, .any, .any, .any, .any, .any, .any, .any]
theorem a14l1c (s0 s1 s2 s3 s4 s5 s6 s7 s8 s9 s10 s11 s12 s13 s14 s15 s16 s17 s18 s19 s20 s21 s22 s23 s24 s25 s26 s27 s28 s29 s30 s31 s32 s33 s34 s35 s36 s37 s38 s39 s40 s41 s42 s43 s44 s45 s46 s47 s48 s49 s50 s51 s52 s53 s54 s55 s56 s57 s58 s59 s60 s61 s62 s63 s64 s65 s66 s67 s68 s69 s70 s71 s72 s73 s74 s75 s76 s77 s78 s79 s80 s81 s82 s83 s84 s85 s86 : AV) : clearA a14l1s [s0, s1, s2, s3, s4, s5, s6, s7, s8, s9, s10, s11, s12, s13, s14, s15, s16, s17, s18, s19, s20, s21, s22, s23, s24, s25, s26, s27, s28, s29, s30, s31, s32, s33, s34, s35, s36, s37, s38, s39, s40, s41, s42, s43, s44, s45, s46, s47, s48, s49, s50, s51, s52, s53, s54, s55, s56, s57, s58, s59, s60, s61, s62, s63, s64, s65, s66, s67, s68, s69, s70, s71, s72, s73, s74, s75, s76, s77, s78, s79, s80, s81, s82, s83, s84, s85, s86] = a14l1F s1 s2 s49 s50 s51 := by kernel_rfl
theorem a14l1n {prog : Nat → Option AFunc} (s1 s2 s49 s50 s51 : AV) (H : Heap) : (lim prog).loop a14l1s a14l1 ⟨a14l1F s1 s2 s49 s50 s51, H⟩ = loopK (lim prog) a14l1s a14l1 (run (lim prog) a14l1b ⟨a14l1F s1 s2 s49 s50 s51, H⟩) := lim_loop_step _ _ _ _ (by kernel_rfl)

/-- sentinel/treeaut.Check -/
def a14 : AFunc := ⟨87,
  .seq (.region [⟨some 1, .box (.t 0), none⟩,
     ⟨some 2, .mov (.c (.int Go.IntKind.i64 0)), none⟩])
  (.seq (.block 0 (.seq (.region [⟨some 10, .faddr 0 (.t 1), none⟩,
        ⟨some 11, .load false 1 (.t 10), none⟩,
        ⟨some 12, .bin .lss (.t 11) (.c (.int Go.IntKind.i64 0)), none⟩,
        ⟨some 13, .mov (.t 12), none⟩,
        ⟨some 14, .faddr 0 (.t 1), some (13, false)⟩,
        ⟨some 15, .load false 1 (.t 14), some (13, false)⟩,
        ⟨some 16, .bin .gtr (.t 15) (.c (.int Go.IntKind.i64 3)), some (13, false)⟩,
        ⟨some 17, .pick (.t 13) (.c (.bool true)) (.t 16), none⟩,
        ⟨some 9, .mov (.t 17), none⟩])
     (.cond (.t 9)
      (.seq (.region [⟨some 2, .mov (.c (.int Go.IntKind.i64 7)), none⟩])
       (.ret))
      (.seq (.region [⟨some 19, .faddr 1 (.t 1), none⟩,
          ⟨some 20, .load false 1 (.t 19), none⟩,
          ⟨some 21, .bin .lss (.t 20) (.c (.int Go.IntKind.i64 0)), none⟩,
          ⟨some 18, .mov (.t 21), none⟩])
       (.cond (.t 18)
        (.seq (.region [⟨some 2, .mov (.c (.int Go.IntKind.i64 1)), none⟩])
         (.ret))
        (.seq (.region [⟨some 23, .faddr 1 (.t 1), none⟩,
            ⟨some 24, .load false 1 (.t 23), none⟩,
            ⟨some 25, .bin .gtr (.t 24) (.c (.int Go.IntKind.i64 64)), none⟩,
            ⟨some 26, .mov (.t 25), none⟩,
            ⟨some 27, .faddr 4 (.t 1), some (26, false)⟩,
            ⟨some 28, .load false 1 (.t 27), some (26, false)⟩,
            ⟨some 29, .len (.t 28), some (26, false)⟩,
            ⟨some 30, .bin .gtr (.t 29) (.c (.int Go.IntKind.i64 512)), some (26, false)⟩,
            ⟨some 31, .pick (.t 26) (.c (.bool true)) (.t 30), none⟩,
            ⟨some 22, .mov (.t 31), none⟩])
         (.cond (.t 22)
          (.seq (.region [⟨some 2, .mov (.c (.int Go.IntKind.i64 4)), none⟩])
           (.ret))
          (.skip))))))))
   (.seq (.seq (.region [⟨some 32, .faddr 2 (.t 1), none⟩,
        ⟨some 33, .load false 1 (.t 32), none⟩,
        ⟨some 34, .faddr 3 (.t 1), none⟩,
        ⟨some 35, .load false 1 (.t 34), none⟩,
        ⟨some 36, .build [.sl true 0 [], .sl true 0 []] [(0, 1, (.t 33)), (1, 1, (.t 35))], none⟩,
        ⟨some 37, .mov (.c (.int Go.IntKind.i64 0)), none⟩])
     (.block 1 (.loop a14l0s a14l0)))
    (.seq (.seq (.region [⟨some 48, .faddr 4 (.t 1), none⟩,
         ⟨some 49, .load false 1 (.t 48), none⟩,
         ⟨some 50, .len (.t 49), none⟩,
         ⟨some 51, .mov (.c (.int Go.IntKind.i64 0)), none⟩])
      (.block 3 (.loop a14l1s a14l1)))
     (.seq (.region [⟨some 2, .mov (.c (.int Go.IntKind.i64 0)), none⟩])
      (.ret))))),
  [.tmp 2]⟩

def a15l0b : ACode :=
  .seq (.seq (.region [⟨some 43, .mov (.t 5), none⟩,
      ⟨some 44, .faddr 4 (.t 1), none⟩,
      ⟨some 45, .load false 1 (.t 44), none⟩,
      ⟨some 46, .len (.t 45), none⟩,
      ⟨some 47, .bin .lss (.t 43) (.t 46), none⟩])
   (.cond (.t 47)
    (.skip)
    (.exit 0)))
  (.seq (.block 1 (.seq (.region [⟨some 50, .faddr 4 (.t 1), none⟩,
        ⟨some 51, .load false 1 (.t 50), none⟩,
        ⟨some 52, .mov (.t 5), none⟩,
        ⟨some 53, .iaddr 5 (.t 51) (.t 52), none⟩,
        ⟨some 54, .load true 5 (.t 53), none⟩,
        ⟨some 6, .box (.c (.agg [.int Go.IntKind.i64 0, .int Go.IntKind.i64 0, .int Go.IntKind.i64 0, .int Go.IntKind.u8 0, .int Go.IntKind.u8 0])), none⟩,
        ⟨none, .store 5 (.t 6) (.t 54), none⟩])
     (.seq (.seq (.region [⟨some 55, .faddr 0 (.t 6), none⟩,
          ⟨some 56, .load false 1 (.t 55), none⟩,
          ⟨some 57, .bin .lss (.t 56) (.c (.int Go.IntKind.i64 0)), none⟩,
          ⟨some 58, .mov (.t 57), none⟩,
          ⟨some 59, .faddr 0 (.t 6), some (58, false)⟩,
          ⟨some 60, .load false 1 (.t 59), some (58, false)⟩,
          ⟨some 61, .faddr 1 (.t 1), some (58, false)⟩,
          ⟨some 62, .load false 1 (.t 61), some (58, false)⟩,
          ⟨some 63, .bin .geq (.t 60) (.t 62), some (58, false)⟩,
          ⟨some 64, .pick (.t 58) (.c (.bool true)) (.t 63), none⟩,
          ⟨some 65, .mov (.t 64), none⟩,
          ⟨some 66, .faddr 1 (.t 6), some (65, false)⟩,
          ⟨some 67, .load false 1 (.t 66), some (65, false)⟩,
          ⟨some 68, .bin .lss (.t 67) (.c (.int Go.IntKind.i64 0)), some (65, false)⟩,
          ⟨some 69, .pick (.t 65) (.c (.bool true)) (.t 68), none⟩,
          ⟨some 70, .mov (.t 69), none⟩,
          ⟨some 71, .faddr 1 (.t 6), some (70, false)⟩,
          ⟨some 72, .load false 1 (.t 71), some (70, false)⟩,
          ⟨some 73, .faddr 1 (.t 1), some (70, false)⟩,
          ⟨some 74, .load false 1 (.t 73), some (70, false)⟩,
          ⟨some 75, .bin .geq (.t 72) (.t 74), some (70, false)⟩,
          ⟨some 76, .pick (.t 70) (.c (.bool true)) (.t 75), none⟩,
          ⟨some 77, .mov (.t 76), none⟩,
          ⟨some 78, .faddr 2 (.t 6), some (77, false)⟩,
          ⟨some 79, .load false 1 (.t 78), some (77, false)⟩,
          ⟨some 80, .bin .lss (.t 79) (.c (.int Go.IntKind.i64 0)), some (77, false)⟩,
          ⟨some 81, .pick (.t 77) (.c (.bool true)) (.t 80), none⟩,
          ⟨some 82, .mov (.t 81), none⟩,
          ⟨some 83, .faddr 2 (.t 6), some (82, false)⟩,
          ⟨some 84, .load false 1 (.t 83), some (82, false)⟩,
          ⟨some 85, .faddr 1 (.t 1), some (82, false)⟩,
          ⟨some 86, .load false 1 (.t 85), some (82, false)⟩,
          ⟨some 87, .bin .geq (.t 84) (.t 86), some (82, false)⟩,
          ⟨some 88, .pick (.t 82) (.c (.bool true)) (.t 87), none⟩])
       (.cond (.t 88)
        (.seq (.region [⟨some 2, .mov (.c (.int Go.IntKind.i64 8)), none⟩])
         (.ret))
        (.skip)))
      (.seq (.seq (.draw 14 [⟨some 89, .faddr 3 (.t 6), none⟩,
           ⟨some 90, .load false 1 (.t 89), none⟩,
           ⟨some 91, .conv Go.IntKind.i64 (.t 90), none⟩,
           ⟨some 92, .faddr 0 (.t 1), none⟩,
           ⟨some 93, .load false 1 (.t 92), none⟩,
           ⟨some 94, .bin .shl (.c (.int Go.IntKind.i64 1)) (.t 93), none⟩,
           ⟨some 95, .bin .geq (.t 91) (.t 94), none⟩,
           ⟨some 96, .mov (.t 95), none⟩,
           ⟨some 97, .faddr 4 (.t 6), some (96, false)⟩,
           ⟨some 98, .load false 1 (.t 97), some (96, false)⟩,
           ⟨some 99, .conv Go.IntKind.i64 (.t 98), some (96, false)⟩,
           ⟨some 100, .faddr 0 (.t 1), some (96, false)⟩,
           ⟨some 101, .load false 1 (.t 100), some (96, false)⟩,
           ⟨some 102, .bin .shl (.c (.int Go.IntKind.i64 1)) (.t 101), some (96, false)⟩,
           ⟨some 103, .bin .geq (.t 99) (.t 102), some (96, false)⟩,
           ⟨some 104, .pick (.t 96) (.c (.bool true)) (.t 103), none⟩])
        (.cond (.t 104)
         (.seq (.region [⟨some 2, .mov (.c (.int Go.IntKind.i64 7)), none⟩])
          (.ret))
         (.skip)))
       (.seq (.region [⟨some 105, .faddr 3 (.t 6), none⟩,
           ⟨some 106, .load false 1 (.t 105), none⟩,
           ⟨some 107, .faddr 4 (.t 6), none⟩,
           ⟨some 108, .load false 1 (.t 107), none⟩,
           ⟨some 109, .bin .and (.t 106) (.t 108), none⟩,
           ⟨some 110, .bin .neq (.t 109) (.c (.int Go.IntKind.u8 0)), none⟩])
        (.cond (.t 110)
         (.seq (.region [⟨some 2, .mov (.c (.int Go.IntKind.i64 2)), none⟩])
          (.ret))
         (.skip)))))))
   (.region [⟨some 48, .mov (.t 5), none⟩,
      ⟨some 49, .bin .add (.t 48) (.c (.int Go.IntKind.i64 1)), none⟩,
      ⟨some 5, .mov (.t 49), none⟩]))

def a15l0 : ACode := a15l0b
def a15l0s : List Nat := [0, 3, 4, 6, 7, 8, 9, 10, 11, 12, 13, 14, 15, 16, 17, 18, 19, 20, 21, 22, 23, 24, 25, 26, 27, 28, 29, 30, 31, 32, 33, 34, 35, 36, 37, 38, 39, 40, 41, 42, 43, 44, 45, 46, 47, 48, 49, 50, 51, 52, 53, 54, 55, 56, 57, 58, 59, 60, 61, 62, 63, 64, 65, 66, 67, 68, 69, 70, 71, 72, 73, 74, 75, 76, 77, 78, 79, 80, 81, 82, 83, 84, 85, 86, 87, 88, 89, 90, 91, 92, 93, 94, 95, 96, 97, 98, 99, 100, 101, 102, 103, 104, 105, 106, 107, 108, 109, 110]
abbrev a15l0F (s1 s2 s5 : AV) : List AV := [.any, s1, s2, .any, .any, s5, .any, .any, .any, .any, .any, .any, .any, .any, .any, .any, .any, .any, .any, .any, .any, .any, .any, .any, .any, .any, .any, .any, .any, .any, .any, .any, .any, .any, .any, .any, .any, .any, .any, .any, .any, .any, .any, .any, .any, .any, .any, .any, .any, .any, .any, .any, .any, .any, .any, .any, .any, .any, .any, .any, .any, .any, .any, .any, .any, .any, .any, .any, .any, .any, .any, .any, .any, .any, .any, .any, .any, .any, .any, .any, .any, .any, .any, .any, .any, .any, .any, .any, .any, .any, .any, .any, .any, .any, .any, .any, .any, .any, .any, .any, .any, .any, .any, .any, .any, .any, .any, .any, .any, .any, .any]
theorem a15l0c (s0 s1 s2 s3 s4 s5 s6 s7 s8 s9 s10 s11 s12 s13 s14 s15 s16 s17 s18 s19 s20 s21 s22 s23 s24 s25 s26 s27 s28 s29 s30 s31 s32 s33 s34 s35 s36 s37 s38 s39 s40 s41 s42 s43 s44 s45 s46 s47 s48 s49 s50 s51 s52 s53 s54 s55 s56 s57 s58 s59 s60 s61 s62 s63 s64 s65 s66 s67 s68 s69 s70 s71 s72 s73 s74 s75 s76 s77 s78 s79 s80 s81 s82 s83 s84 s85 s86 s87 s88 s89 s90 s91 s92 s93 s94 s95 s96 s97 s98 s99 s100 s101 s102 s103 s104 s105 s106 s107 s108 s109 s110 : AV) : clearA a15l0s [s0, s1, s2, s3, s4, s5, s6, s7, s8, s9, s10, s11, s12, s13, s14, s15, s16, s17, s18, s19, s20, s21, s22, s23, s24, s25, s26, s27, s28, s29, s30, s31, s32, s33, s34, s35, s36, s37, s38, s39, s40, s41, s42, s43, s44, s45, s46, s47, s48, s49, s50, s51, s52, s53, s54, s55, s56, s57, s58, s59, s60, s61, s62, s63, s64, s65, s66, s67, s68, s69, s70, s71, s72, s73, s74, s75, s76, s77, s78, s79, s80, s81, s82, s83, s84, s85, s86, s87, s88, s89, s90, s91, s92, s93, s94, s95, s96, s97, s98, s99, s100, s101, s102, s103, s104, s105, s106, s107, s108, s109, s110] = a15l0F s1 s2 s5 := by kernel_rfl
theorem a15l0n {prog : Nat → Option AFunc} (s1 s2 s5 : AV) (H : Heap) : (lim prog).loop a15l0s a15l0 ⟨a15l0F s1 s2 s5, H⟩ = loopK (lim prog) a15l0s a15l0 (run (lim prog) a15l0b ⟨a15l0F s1 s2 s5, H⟩) := lim_loop_step _ _ _ _ (by kernel_rfl)

/-- sentinel/sentinelref18.Check -/
def a15 : AFunc := ⟨111,
  .seq (.region [⟨some 1, .box (.t 0), none⟩,
     ⟨some 2, .mov (.c (.int Go.IntKind.i64 0)), none⟩])
  (.seq (.seq (.region [⟨some 7, .faddr 0 (.t 1), none⟩,
       ⟨some 8, .load false 1 (.t 7), none⟩,
       ⟨some 9, .bin .lss (.t 8) (.c (.int Go.IntKind.i64 0)), none⟩,
       ⟨some 10, .mov (.t 9), none⟩,
       ⟨some 11, .faddr 0 (.t 1), some (10, false)⟩,
       ⟨some 12, .load false 1 (.t 11), some (10, false)⟩,
       ⟨some 13, .bin .gtr (.t 12) (.c (.int Go.IntKind.i64 3)), some (10, false)⟩,
       ⟨some 14, .pick (.t 10) (.c (.bool true)) (.t 13), none⟩])
    (.cond (.t 14)
     (.seq (.region [⟨some 2, .mov (.c (.int Go.IntKind.i64 7)), none⟩])
      (.ret))
     (.skip)))
   (.seq (.seq (.region [⟨some 15, .faddr 1 (.t 1), none⟩,
        ⟨some 16, .load false 1 (.t 15), none⟩,
        ⟨some 17, .bin .lss (.t 16) (.c (.int Go.IntKind.i64 0)), none⟩])
     (.cond (.t 17)
      (.seq (.region [⟨some 2, .mov (.c (.int Go.IntKind.i64 1)), none⟩])
       (.ret))
      (.skip)))
    (.seq (.seq (.region [⟨some 18, .faddr 1 (.t 1), none⟩,
         ⟨some 19, .load false 1 (.t 18), none⟩,
         ⟨some 20, .bin .gtr (.t 19) (.c (.int Go.IntKind.i64 64)), none⟩,
         ⟨some 21, .mov (.t 20), none⟩,
         ⟨some 22, .faddr 4 (.t 1), some (21, false)⟩,
         ⟨some 23, .load false 1 (.t 22), some (21, false)⟩,
         ⟨some 24, .len (.t 23), some (21, false)⟩,
         ⟨some 25, .bin .gtr (.t 24) (.c (.int Go.IntKind.i64 512)), some (21, false)⟩,
         ⟨some 26, .pick (.t 21) (.c (.bool true)) (.t 25), none⟩])
      (.cond (.t 26)
       (.seq (.region [⟨some 2, .mov (.c (.int Go.IntKind.i64 4)), none⟩])
        (.ret))
       (.skip)))
     (.seq (.seq (.region [⟨some 27, .faddr 2 (.t 1), none⟩,
          ⟨some 28, .load false 1 (.t 27), none⟩,
          ⟨some 29, .faddr 1 (.t 1), none⟩,
          ⟨some 30, .load false 1 (.t 29), none⟩,
          ⟨some 31, .call 46 [(.t 28), (.t 30)], none⟩,
          ⟨some 3, .mov (.t 31), none⟩])
       (.seq (.region [⟨some 32, .mov (.t 3), none⟩,
           ⟨some 33, .bin .neq (.t 32) (.c (.int Go.IntKind.i64 0)), none⟩])
        (.cond (.t 33)
         (.seq (.region [⟨some 34, .mov (.t 3), none⟩,
             ⟨some 2, .mov (.t 34), none⟩])
          (.ret))
         (.skip))))
      (.seq (.seq (.region [⟨some 35, .faddr 3 (.t 1), none⟩,
           ⟨some 36, .load false 1 (.t 35), none⟩,
           ⟨some 37, .faddr 1 (.t 1), none⟩,
           ⟨some 38, .load false 1 (.t 37), none⟩,
           ⟨some 39, .call 46 [(.t 36), (.t 38)], none⟩,
           ⟨some 4, .mov (.t 39), none⟩])
        (.seq (.region [⟨some 40, .mov (.t 4), none⟩,
            ⟨some 41, .bin .neq (.t 40) (.c (.int Go.IntKind.i64 0)), none⟩])
         (.cond (.t 41)
          (.seq (.region [⟨some 42, .mov (.t 4), none⟩,
              ⟨some 2, .mov (.t 42), none⟩])
           (.ret))
          (.skip))))
       (.seq (.seq (.region [⟨some 5, .mov (.c (.int Go.IntKind.i64 0)), none⟩])
         (.block 0 (.loop a15l0s a15l0)))
        (.seq (.region [⟨some 2, .mov (.c (.int Go.IntKind.i64 0)), none⟩])
         (.ret)))))))),
  [.tmp 2]⟩

/-- sentinel/treeaut.States -/
def a16 : AFunc := ⟨17,
  .seq (.region [⟨some 2, .box (.t 0), none⟩,
     ⟨some 4, .mov (.c (.sl true 0 [])), none⟩,
     ⟨some 5, .mov (.c (.int Go.IntKind.i64 0)), none⟩])
  (.seq (.seq (.region [⟨some 7, .load true 5 (.t 2), none⟩,
       ⟨some 8, .mov (.t 1), none⟩,
       ⟨some 9, .call 47 [(.t 7), (.t 8)], none⟩,
       ⟨some 6, .mov (.t 9), none⟩])
    (.seq (.region [⟨some 10, .mov (.t 6), none⟩,
        ⟨some 11, .bin .neq (.t 10) (.c (.int Go.IntKind.i64 0)), none⟩])
     (.cond (.t 11)
      (.seq (.region [⟨some 12, .mov (.t 6), none⟩,
          ⟨some 4, .mov (.c (.sl true 0 [])), none⟩,
          ⟨some 5, .mov (.t 12), none⟩])
       (.ret))
      (.skip))))
   (.seq (.region [⟨some 13, .load true 5 (.t 2), none⟩,
       ⟨some 14, .mov (.t 1), none⟩,
       ⟨some 15, .call 49 [(.t 13), (.t 14)], none⟩,
       ⟨some 16, .call 48 [(.t 15)], none⟩,
       ⟨some 4, .mov (.t 16), none⟩,
       ⟨some 5, .mov (.c (.int Go.IntKind.i64 0)), none⟩])
    (.ret))),
  [.tmp 4, .tmp 5]⟩

/-- sentinel/treeaut.Accepts -/
def a18 : AFunc := ⟨21,
  .seq (.region [⟨some 2, .box (.t 0), none⟩,
     ⟨some 4, .mov (.c (.bool false)), none⟩,
     ⟨some 5, .mov (.c (.int Go.IntKind.i64 0)), none⟩])
  (.seq (.seq (.region [⟨some 7, .load true 5 (.t 2), none⟩,
       ⟨some 8, .mov (.t 1), none⟩,
       ⟨some 9, .call 47 [(.t 7), (.t 8)], none⟩,
       ⟨some 6, .mov (.t 9), none⟩])
    (.seq (.region [⟨some 10, .mov (.t 6), none⟩,
        ⟨some 11, .bin .neq (.t 10) (.c (.int Go.IntKind.i64 0)), none⟩])
     (.cond (.t 11)
      (.seq (.region [⟨some 12, .mov (.t 6), none⟩,
          ⟨some 4, .mov (.c (.bool false)), none⟩,
          ⟨some 5, .mov (.t 12), none⟩])
       (.ret))
      (.skip))))
   (.seq (.draw 5 [⟨some 13, .load true 5 (.t 2), none⟩,
       ⟨some 14, .mov (.t 1), none⟩,
       ⟨some 15, .call 49 [(.t 13), (.t 14)], none⟩,
       ⟨some 16, .faddr 3 (.t 2), none⟩,
       ⟨some 17, .load false 1 (.t 16), none⟩,
       ⟨some 18, .call 54 [(.t 17)], none⟩,
       ⟨some 19, .bin .and (.t 15) (.t 18), none⟩,
       ⟨some 20, .bin .neq (.t 19) (.c (.int Go.IntKind.u64 0)), none⟩,
       ⟨some 4, .mov (.t 20), none⟩,
       ⟨some 5, .mov (.c (.int Go.IntKind.i64 0)), none⟩])
    (.ret))),
  [.tmp 4, .tmp 5]⟩

/-- sentinel/treeaut.Reachable -/
def a20 : AFunc := ⟨13,
  .seq (.region [⟨some 1, .box (.t 0), none⟩,
     ⟨some 2, .mov (.c (.sl true 0 [])), none⟩,
     ⟨some 3, .mov (.c (.int Go.IntKind.i64 0)), none⟩])
  (.seq (.seq (.region [⟨some 5, .load true 5 (.t 1), none⟩,
       ⟨some 6, .call 14 [(.t 5)], none⟩,
       ⟨some 4, .mov (.t 6), none⟩])
    (.seq (.region [⟨some 7, .mov (.t 4), none⟩,
        ⟨some 8, .bin .neq (.t 7) (.c (.int Go.IntKind.i64 0)), none⟩])
     (.cond (.t 8)
      (.seq (.region [⟨some 9, .mov (.t 4), none⟩,
          ⟨some 2, .mov (.c (.sl true 0 [])), none⟩,
          ⟨some 3, .mov (.t 9), none⟩])
       (.ret))
      (.skip))))
   (.seq (.region [⟨some 10, .load true 5 (.t 1), none⟩,
       ⟨some 11, .call 55 [(.t 10)], none⟩,
       ⟨some 12, .call 48 [(.t 11)], none⟩,
       ⟨some 2, .mov (.t 12), none⟩,
       ⟨some 3, .mov (.c (.int Go.IntKind.i64 0)), none⟩])
    (.ret))),
  [.tmp 2, .tmp 3]⟩

def a22l0b : ACode :=
  .seq (.region [⟨some 24, .bin .lss (.t 23) (.t 22), none⟩])
  (.seq (.cond (.t 24)
    (.skip)
    (.exit 0))
   (.seq (.block 1 (.seq (.region [⟨some 25, .mov (.t 23), none⟩,
         ⟨some 8, .mov (.t 25), none⟩])
      (.seq (.region [⟨some 26, .mov (.t 6), none⟩,
          ⟨some 27, .mov (.t 8), none⟩,
          ⟨some 28, .iaddr 1 (.t 26) (.t 27), none⟩,
          ⟨none, .store 1 (.t 28) (.c (.int Go.IntKind.i64 (-1))), none⟩])
       (.seq (.region [⟨some 29, .mov (.t 5), none⟩,
           ⟨some 30, .mov (.t 8), none⟩,
           ⟨some 31, .bin .shr (.t 29) (.t 30), none⟩,
           ⟨some 32, .bin .and (.t 31) (.c (.int Go.IntKind.u64 1)), none⟩,
           ⟨some 33, .bin .neq (.t 32) (.c (.int Go.IntKind.u64 0)), none⟩])
        (.cond (.t 33)
         (.seq (.region [⟨some 34, .mov (.t 6), none⟩,
             ⟨some 35, .mov (.t 8), none⟩,
             ⟨some 36, .mov (.t 7), none⟩,
             ⟨some 37, .iaddr 1 (.t 34) (.t 35), none⟩,
             ⟨none, .store 1 (.t 37) (.t 36), none⟩])
          (.region [⟨some 38, .mov (.t 7), none⟩,
             ⟨some 39, .bin .add (.t 38) (.c (.int Go.IntKind.i64 1)), none⟩,
             ⟨some 7, .mov (.t 39), none⟩]))
         (.skip))))))
    (.region [⟨some 40, .bin .add (.t 23) (.c (.int Go.IntKind.i64 1)), none⟩,
       ⟨some 23, .mov (.t 40), none⟩])))

def a22l0 : ACode := a22l0b
def a22l0s : List Nat := [0, 3, 4, 8, 9, 10, 11, 12, 13, 14, 15, 16, 17, 18, 19, 20, 21, 24, 25, 26, 27, 28, 29, 30, 31, 32, 33, 34, 35, 36, 37, 38, 39, 40, 41, 42, 43, 44, 45, 46]
abbrev a22l0F (s1 s2 s5 s6 s7 s22 s23 : AV) : List AV := [.any, s1, s2, .any, .any, s5, s6, s7, .any, .any, .any, .any, .any, .any, .any, .any, .any, .any, .any, .any, .any, .any, s22, s23, .any, .any, .any, .any, .any, .any, .any, .any, .any, .any, .any, .any, .any, .any, .any, .any, .any, .any, .any, .any, .any, .any, .any]
theorem a22l0c (s0 s1 s2 s3 s4 s5 s6 s7 s8 s9 s10 s11 s12 s13 s14 s15 s16 s17 s18 s19 s20 s21 s22 s23 s24 s25 s26 s27 s28 s29 s30 s31 s32 s33 s34 s35 s36 s37 s38 s39 s40 s41 s42 s43 s44 s45 s46 : AV) : clearA a22l0s [s0, s1, s2, s3, s4, s5, s6, s7, s8, s9, s10, s11, s12, s13, s14, s15, s16, s17, s18, s19, s20, s21, s22, s23, s24, s25, s26, s27, s28, s29, s30, s31, s32, s33, s34, s35, s36, s37, s38, s39, s40, s41, s42, s43, s44, s45, s46] = a22l0F s1 s2 s5 s6 s7 s22 s23 := by kernel_rfl
theorem a22l0n {prog : Nat → Option AFunc} (s1 s2 s5 s6 s7 s22 s23 : AV) (H : Heap) : (lim prog).loop a22l0s a22l0 ⟨a22l0F s1 s2 s5 s6 s7 s22 s23, H⟩ = loopK (lim prog) a22l0s a22l0 (run (lim prog) a22l0b ⟨a22l0F s1 s2 s5 s6 s7 s22 s23, H⟩) := lim_loop_step _ _ _ _ (by kernel_rfl)

/-- sentinel/treeaut.Trim -/
def a22 : AFunc := ⟨47,
  .seq (.region [⟨some 1, .box (.t 0), none⟩,
     ⟨some 2, .box (.c (.agg [.int Go.IntKind.i64 0, .int Go.IntKind.i64 0, .sl true 0 [], .sl true 0 [], .sl true 0 []])), none⟩,
     ⟨some 3, .mov (.c (.int Go.IntKind.i64 0)), none⟩])
  (.seq (.seq (.region [⟨some 10, .load true 5 (.t 1), none⟩,
       ⟨some 11, .call 14 [(.t 10)], none⟩,
       ⟨some 4, .mov (.t 11), none⟩])
    (.seq (.region [⟨some 12, .mov (.t 4), none⟩,
        ⟨some 13, .bin .neq (.t 12) (.c (.int Go.IntKind.i64 0)), none⟩])
     (.cond (.t 13)
      (.seq (.region [⟨some 14, .build [.int Go.IntKind.i64 0, .int Go.IntKind.i64 0, .sl true 0 [], .sl true 0 [], .sl true 0 []] [], none⟩,
          ⟨some 15, .mov (.t 4), none⟩,
          ⟨none, .store 5 (.t 2) (.t 14), none⟩,
          ⟨some 3, .mov (.t 15), none⟩])
       (.ret))
      (.skip))))
   (.seq (.region [⟨some 16, .load true 5 (.t 1), none⟩,
       ⟨some 17, .call 57 [(.t 16)], none⟩,
       ⟨some 5, .mov (.t 17), none⟩])
    (.seq (.region [⟨some 18, .faddr 1 (.t 1), none⟩,
        ⟨some 19, .load false 1 (.t 18), none⟩,
        ⟨some 20, .mkslice false [.int Go.IntKind.i64 0] 8 (.t 19) (.t 19), none⟩,
        ⟨some 6, .mov (.t 20), none⟩])
     (.seq (.region [⟨some 7, .mov (.c (.int Go.IntKind.i64 0)), none⟩])
      (.seq (.seq (.region [⟨some 21, .mov (.t 6), none⟩,
           ⟨some 22, .len (.t 21), none⟩,
           ⟨some 23, .mov (.c (.int Go.IntKind.i64 0)), none⟩])
        (.block 0 (.loop a22l0s a22l0)))
       (.seq (.region [⟨some 41, .load true 5 (.t 1), none⟩,
           ⟨some 42, .mov (.t 6), none⟩,
           ⟨some 43, .call 58 [(.t 41), (.t 42)], none⟩,
           ⟨some 9, .box (.c (.agg [.int Go.IntKind.i64 0, .int Go.IntKind.i64 0, .sl true 0 [], .sl true 0 [], .sl true 0 []])), none⟩,
           ⟨none, .store 5 (.t 9) (.t 43), none⟩])
        (.seq (.region [⟨some 44, .mov (.t 7), none⟩,
            ⟨some 45, .faddr 1 (.t 9), none⟩,
            ⟨none, .store 1 (.t 45) (.t 44), none⟩])
         (.seq (.region [⟨some 46, .load true 5 (.t 9), none⟩,
             ⟨none, .store 5 (.t 2) (.t 46), none⟩,
             ⟨some 3, .mov (.c (.int Go.IntKind.i64 0)), none⟩])
          (.ret))))))))),
  [.cell 2 true 5, .tmp 3]⟩

/-- sentinel/sentinelkit.EqualTreeNFA -/
def a25 : AFunc := ⟨38,
  .seq (.region [⟨some 2, .box (.t 0), none⟩,
     ⟨some 3, .box (.t 1), none⟩,
     ⟨some 4, .mov (.c (.bool false)), none⟩])
  (.seq (.region [⟨some 5, .faddr 0 (.t 2), none⟩,
      ⟨some 6, .load false 1 (.t 5), none⟩,
      ⟨some 7, .faddr 0 (.t 3), none⟩,
      ⟨some 8, .load false 1 (.t 7), none⟩,
      ⟨some 9, .bin .eql (.t 6) (.t 8), none⟩,
      ⟨some 10, .mov (.t 9), none⟩,
      ⟨some 11, .faddr 1 (.t 2), some (10, true)⟩,
      ⟨some 12, .load false 1 (.t 11), some (10, true)⟩,
      ⟨some 13, .faddr 1 (.t 3), some (10, true)⟩,
      ⟨some 14, .load false 1 (.t 13), some (10, true)⟩,
      ⟨some 15, .bin .eql (.t 12) (.t 14), some (10, true)⟩,
      ⟨some 16, .pick (.t 10) (.t 15) (.c (.bool false)), none⟩,
      ⟨some 17, .mov (.t 16), none⟩,
      ⟨some 18, .faddr 2 (.t 2), some (17, true)⟩,
      ⟨some 19, .load false 1 (.t 18), some (17, true)⟩,
      ⟨some 20, .faddr 2 (.t 3), some (17, true)⟩,
      ⟨some 21, .load false 1 (.t 20), some (17, true)⟩,
      ⟨some 22, .call 60 [(.t 19), (.t 21)], some (17, true)⟩,
      ⟨some 23, .pick (.t 17) (.t 22) (.c (.bool false)), none⟩,
      ⟨some 24, .mov (.t 23), none⟩,
      ⟨some 25, .faddr 3 (.t 2), some (24, true)⟩,
      ⟨some 26, .load false 1 (.t 25), some (24, true)⟩,
      ⟨some 27, .faddr 3 (.t 3), some (24, true)⟩,
      ⟨some 28, .load false 1 (.t 27), some (24, true)⟩,
      ⟨some 29, .call 60 [(.t 26), (.t 28)], some (24, true)⟩,
      ⟨some 30, .pick (.t 24) (.t 29) (.c (.bool false)), none⟩,
      ⟨some 31, .mov (.t 30), none⟩,
      ⟨some 32, .faddr 4 (.t 2), some (31, true)⟩,
      ⟨some 33, .load false 1 (.t 32), some (31, true)⟩,
      ⟨some 34, .faddr 4 (.t 3), some (31, true)⟩,
      ⟨some 35, .load false 1 (.t 34), some (31, true)⟩,
      ⟨some 36, .call 61 [(.t 33), (.t 35)], some (31, true)⟩,
      ⟨some 37, .pick (.t 31) (.t 36) (.c (.bool false)), none⟩,
      ⟨some 4, .mov (.t 37), none⟩])
   (.ret)),
  [.tmp 4]⟩

/-- sentinel/sentinelkit.OverTreeNFA -/
def a28 : AFunc := ⟨11,
  .seq (.region [⟨some 1, .box (.t 0), none⟩])
  (.seq (.region [⟨some 2, .faddr 2 (.t 1), none⟩,
      ⟨some 3, .load false 1 (.t 2), none⟩,
      ⟨some 4, .icall (.c (.func 62 [])) [(.t 3)], none⟩])
   (.seq (.region [⟨some 5, .faddr 3 (.t 1), none⟩,
       ⟨some 6, .load false 1 (.t 5), none⟩,
       ⟨some 7, .icall (.c (.func 62 [])) [(.t 6)], none⟩])
    (.region [⟨some 8, .faddr 4 (.t 1), none⟩,
       ⟨some 9, .load false 1 (.t 8), none⟩,
       ⟨some 10, .icall (.c (.func 63 [])) [(.t 9)], none⟩]))),
  []⟩

/-- sentinel/sentinellaw18.awake -/
def a29 : AFunc := ⟨181,
  .seq (.region [⟨some 0, .mov (.c (.bool false)), none⟩])
  (.seq (.region [⟨some 16, .call 32 [], none⟩,
      ⟨some 1, .box (.c (.agg [.int Go.IntKind.i64 0, .int Go.IntKind.i64 0, .sl true 0 [], .sl true 0 [], .sl true 0 []])), none⟩,
      ⟨none, .store 5 (.t 1) (.t 16), none⟩])
   (.seq (.seq (.draw 37 [⟨some 17, .load true 5 (.t 1), none⟩,
        ⟨some 18, .bslice true [.int Go.IntKind.i64 0] 1 1 [(0, (.c (.int Go.IntKind.i64 0)))], none⟩,
        ⟨some 19, .call 64 [(.t 17), (.c (.str ⟨#[45]⟩)), (.t 18)], none⟩,
        ⟨some 20, .un .not (.t 19), none⟩,
        ⟨some 21, .mov (.t 20), none⟩,
        ⟨some 22, .load true 5 (.t 1), some (21, false)⟩,
        ⟨some 23, .bslice true [.int Go.IntKind.i64 0] 1 2 [(0, (.c (.int Go.IntKind.i64 0))), (1, (.c (.int Go.IntKind.i64 1)))], some (21, false)⟩,
        ⟨some 24, .call 64 [(.t 22), (.c (.str ⟨#[40, 49, 32, 45, 32, 45, 41]⟩)), (.t 23)], some (21, false)⟩,
        ⟨some 25, .un .not (.t 24), some (21, false)⟩,
        ⟨some 26, .pick (.t 21) (.c (.bool true)) (.t 25), none⟩,
        ⟨some 27, .mov (.t 26), none⟩,
        ⟨some 28, .load true 5 (.t 1), some (27, false)⟩,
        ⟨some 29, .bslice true [.int Go.IntKind.i64 0] 1 1 [(0, (.c (.int Go.IntKind.i64 0)))], some (27, false)⟩,
        ⟨some 30, .call 64 [(.t 28), (.c (.str ⟨#[40, 50, 32, 45, 32, 45, 41]⟩)), (.t 29)], some (27, false)⟩,
        ⟨some 31, .un .not (.t 30), some (27, false)⟩,
        ⟨some 32, .pick (.t 27) (.c (.bool true)) (.t 31), none⟩,
        ⟨some 33, .mov (.t 32), none⟩,
        ⟨some 34, .load true 5 (.t 1), some (33, false)⟩,
        ⟨some 35, .bslice true [.int Go.IntKind.i64 0] 1 2 [(0, (.c (.int Go.IntKind.i64 0))), (1, (.c (.int Go.IntKind.i64 1)))], some (33, false)⟩,
        ⟨some 36, .call 64 [(.t 34), (.c (.str ⟨#[40, 48, 32, 40, 49, 32, 45, 32, 45, 41, 32, 45, 41]⟩)), (.t 35)], some (33, false)⟩,
        ⟨some 37, .un .not (.t 36), some (33, false)⟩,
        ⟨some 38, .pick (.t 33) (.c (.bool true)) (.t 37), none⟩,
        ⟨some 39, .mov (.t 38), none⟩,
        ⟨some 40, .load true 5 (.t 1), some (39, false)⟩,
        ⟨some 41, .bslice true [.int Go.IntKind.i64 0] 1 2 [(0, (.c (.int Go.IntKind.i64 0))), (1, (.c (.int Go.IntKind.i64 1)))], some (39, false)⟩,
        ⟨some 42, .call 64 [(.t 40), (.c (.str ⟨#[40, 49, 32, 40, 49, 32, 45, 32, 45, 41, 32, 40, 48, 32, 45, 32, 45, 41, 41]⟩)), (.t 41)], some (39, false)⟩,
        ⟨some 43, .un .not (.t 42), some (39, false)⟩,
        ⟨some 44, .pick (.t 39) (.c (.bool true)) (.t 43), none⟩,
        ⟨some 45, .mov (.t 44), none⟩,
        ⟨some 46, .load true 5 (.t 1), some (45, false)⟩,
        ⟨some 47, .call 66 [(.c (.str ⟨#[40, 50, 32, 40, 51, 32, 45, 32, 45, 41, 32, 45, 41]⟩))], some (45, false)⟩,
        ⟨some 48, .call 65 [(.t 46), (.t 47), (.c (.bool true))], some (45, false)⟩,
        ⟨some 49, .un .not (.t 48), some (45, false)⟩,
        ⟨some 50, .pick (.t 45) (.c (.bool true)) (.t 49), none⟩,
        ⟨some 51, .mov (.t 50), none⟩,
        ⟨some 52, .load true 5 (.t 1), some (51, false)⟩,
        ⟨some 53, .call 66 [(.c (.str ⟨#[40, 50, 32, 45, 32, 45, 41]⟩))], some (51, false)⟩,
        ⟨some 54, .call 65 [(.t 52), (.t 53), (.c (.bool false))], some (51, false)⟩,
        ⟨some 55, .un .not (.t 54), some (51, false)⟩,
        ⟨some 56, .pick (.t 51) (.c (.bool true)) (.t 55), none⟩,
        ⟨some 57, .mov (.t 56), none⟩,
        ⟨some 58, .load true 5 (.t 1), some (57, false)⟩,
        ⟨some 59, .call 65 [(.t 58), (.c (.sl true 0 [])), (.c (.bool false))], some (57, false)⟩,
        ⟨some 60, .un .not (.t 59), some (57, false)⟩,
        ⟨some 61, .pick (.t 57) (.c (.bool true)) (.t 60), none⟩])
     (.cond (.t 61)
      (.seq (.region [⟨some 0, .mov (.c (.bool false)), none⟩])
       (.ret))
      (.skip)))
    (.seq (.region [⟨some 63, .load true 5 (.t 1), none⟩,
        ⟨some 64, .call 20 [(.t 63)], none⟩,
        ⟨some 62, .mov (.t 64), none⟩,
        ⟨some 65, .ext 0 (.t 62), none⟩,
        ⟨some 66, .ext 1 (.t 62), none⟩,
        ⟨some 2, .mov (.t 65), none⟩,
        ⟨some 3, .mov (.t 66), none⟩])
     (.seq (.region [⟨some 68, .load true 5 (.t 1), none⟩,
         ⟨some 69, .call 22 [(.t 68)], none⟩,
         ⟨some 67, .mov (.t 69), none⟩,
         ⟨some 70, .ext 0 (.t 67), none⟩,
         ⟨some 71, .ext 1 (.t 67), none⟩,
         ⟨some 4, .box (.c (.agg [.int Go.IntKind.i64 0, .int Go.IntKind.i64 0, .sl true 0 [], .sl true 0 [], .sl true 0 []])), none⟩,
         ⟨none, .store 5 (.t 4) (.t 70), none⟩,
         ⟨some 5, .mov (.t 71), none⟩])
      (.seq (.region [⟨some 72, .call 32 [], none⟩,
          ⟨some 6, .box (.c (.agg [.int Go.IntKind.i64 0, .int Go.IntKind.i64 0, .sl true 0 [], .sl true 0 [], .sl true 0 []])), none⟩,
          ⟨none, .store 5 (.t 6) (.t 72), none⟩])
       (.seq (.region [⟨some 73, .bslice true [.int Go.IntKind.i64 0] 1 1 [(0, (.c (.int Go.IntKind.i64 0)))], none⟩,
           ⟨some 74, .faddr 3 (.t 6), none⟩,
           ⟨none, .store 1 (.t 74) (.t 73), none⟩])
        (.seq (.region [⟨some 76, .load true 5 (.t 6), none⟩,
            ⟨some 77, .call 22 [(.t 76)], none⟩,
            ⟨some 75, .mov (.t 77), none⟩,
            ⟨some 78, .ext 0 (.t 75), none⟩,
            ⟨some 79, .ext 1 (.t 75), none⟩,
            ⟨some 7, .box (.c (.agg [.int Go.IntKind.i64 0, .int Go.IntKind.i64 0, .sl true 0 [], .sl true 0 [], .sl true 0 []])), none⟩,
            ⟨none, .store 5 (.t 7) (.t 78), none⟩,
            ⟨some 8, .mov (.t 79), none⟩])
         (.seq (.seq (.region [⟨some 80, .mov (.t 2), none⟩,
              ⟨some 81, .bslice true [.int Go.IntKind.i64 0] 1 2 [(0, (.c (.int Go.IntKind.i64 0))), (1, (.c (.int Go.IntKind.i64 1)))], none⟩,
              ⟨some 82, .call 36 [(.t 81)], none⟩,
              ⟨some 83, .call 42 [(.t 80), (.t 82)], none⟩,
              ⟨some 84, .un .not (.t 83), none⟩,
              ⟨some 85, .mov (.t 84), none⟩,
              ⟨some 86, .mov (.t 3), some (85, false)⟩,
              ⟨some 87, .bin .neq (.t 86) (.c (.int Go.IntKind.i64 0)), some (85, false)⟩,
              ⟨some 88, .pick (.t 85) (.c (.bool true)) (.t 87), none⟩,
              ⟨some 89, .mov (.t 88), none⟩,
              ⟨some 90, .load true 5 (.t 1), some (89, false)⟩,
              ⟨some 91, .load true 5 (.t 4), some (89, false)⟩,
              ⟨some 92, .call 25 [(.t 90), (.t 91)], some (89, false)⟩,
              ⟨some 93, .un .not (.t 92), some (89, false)⟩,
              ⟨some 94, .pick (.t 89) (.c (.bool true)) (.t 93), none⟩,
              ⟨some 95, .mov (.t 94), none⟩,
              ⟨some 96, .mov (.t 5), some (95, false)⟩,
              ⟨some 97, .bin .neq (.t 96) (.c (.int Go.IntKind.i64 0)), some (95, false)⟩,
              ⟨some 98, .pick (.t 95) (.c (.bool true)) (.t 97), none⟩,
              ⟨some 99, .mov (.t 98), none⟩,
              ⟨some 100, .load true 5 (.t 7), some (99, false)⟩,
              ⟨some 101, .bslice true [.int Go.IntKind.i64 0] 1 1 [(0, (.c (.int Go.IntKind.i64 0)))], some (99, false)⟩,
              ⟨some 102, .bslice true [.int Go.IntKind.i64 0] 1 1 [(0, (.c (.int Go.IntKind.i64 0)))], some (99, false)⟩,
              ⟨some 103, .build [.int Go.IntKind.i64 0, .int Go.IntKind.i64 0, .int Go.IntKind.i64 0, .int Go.IntKind.u8 0, .int Go.IntKind.u8 0] [], some (99, false)⟩,
              ⟨some 104, .bslice true [.int Go.IntKind.i64 0, .int Go.IntKind.i64 0, .int Go.IntKind.i64 0, .int Go.IntKind.u8 0, .int Go.IntKind.u8 0] 5 1 [(0, (.t 103))], some (99, false)⟩,
              ⟨some 105, .build [.int Go.IntKind.i64 0, .int Go.IntKind.i64 0, .sl true 0 [], .sl true 0 [], .sl true 0 []] [(0, 1, (.c (.int Go.IntKind.i64 2))), (1, 1, (.c (.int Go.IntKind.i64 1))), (2, 1, (.t 101)), (3, 1, (.t 102)), (4, 1, (.t 104))], some (99, false)⟩,
              ⟨some 106, .call 25 [(.t 100), (.t 105)], some (99, false)⟩,
              ⟨some 107, .un .not (.t 106), some (99, false)⟩,
              ⟨some 108, .pick (.t 99) (.c (.bool true)) (.t 107), none⟩,
              ⟨some 109, .mov (.t 108), none⟩,
              ⟨some 110, .mov (.t 8), some (109, false)⟩,
              ⟨some 111, .bin .neq (.t 110) (.c (.int Go.IntKind.i64 0)), some (109, false)⟩,
              ⟨some 112, .pick (.t 109) (.c (.bool true)) (.t 111), none⟩])
           (.cond (.t 112)
            (.seq (.region [⟨some 0, .mov (.c (.bool false)), none⟩])
             (.ret))
            (.skip)))
          (.seq (.region [⟨some 113, .ocall 32 [], none⟩,
              ⟨some 114, .ocall 32 [], none⟩,
              ⟨some 115, .ocall 32 [], none⟩,
              ⟨some 9, .box (.c (.agg [.int Go.IntKind.i64 0, .int Go.IntKind.i64 0, .sl true 0 [], .sl true 0 [], .sl true 0 []])), none⟩,
              ⟨some 10, .box (.c (.agg [.int Go.IntKind.i64 0, .int Go.IntKind.i64 0, .sl true 0 [], .sl true 0 [], .sl true 0 []])), none⟩,
              ⟨some 11, .box (.c (.agg [.int Go.IntKind.i64 0, .int Go.IntKind.i64 0, .sl true 0 [], .sl true 0 [], .sl true 0 []])), none⟩,
              ⟨none, .store 5 (.t 9) (.t 113), none⟩,
              ⟨none, .store 5 (.t 10) (.t 114), none⟩,
              ⟨none, .store 5 (.t 11) (.t 115), none⟩])
           (.seq (.region [⟨some 116, .bslice true [.int Go.IntKind.i64 0] 1 2 [(0, (.c (.int Go.IntKind.i64 0))), (1, (.c (.int Go.IntKind.i64 0)))], none⟩,
               ⟨some 117, .faddr 2 (.t 9), none⟩,
               ⟨none, .store 1 (.t 117) (.t 116), none⟩])
            (.seq (.region [⟨some 118, .bslice true [.int Go.IntKind.i64 0] 1 1 [(0, (.c (.int Go.IntKind.i64 2)))], none⟩,
                ⟨some 119, .faddr 3 (.t 10), none⟩,
                ⟨none, .store 1 (.t 119) (.t 118), none⟩])
             (.seq (.region [⟨some 120, .faddr 4 (.t 11), none⟩,
                 ⟨some 121, .load false 1 (.t 120), none⟩,
                 ⟨some 122, .iaddr 5 (.t 121) (.c (.int Go.IntKind.i64 0)), none⟩,
                 ⟨some 123, .faddr 4 (.t 122), none⟩,
                 ⟨none, .store 1 (.t 123) (.c (.int Go.IntKind.u8 1)), none⟩])
              (.seq (.region [⟨some 125, .load true 5 (.t 1), none⟩,
                  ⟨some 126, .build [.int Go.IntKind.u8 0, .int Go.IntKind.i64 0, .int Go.IntKind.i64 0] [(0, 1, (.c (.int Go.IntKind.u8 4))), (1, 1, (.c (.int Go.IntKind.i64 (-1)))), (2, 1, (.c (.int Go.IntKind.i64 (-1))))], none⟩,
                  ⟨some 127, .bslice true [.int Go.IntKind.u8 0, .int Go.IntKind.i64 0, .int Go.IntKind.i64 0] 3 1 [(0, (.t 126))], none⟩,
                  ⟨some 128, .call 16 [(.t 125), (.t 127)], none⟩,
                  ⟨some 124, .mov (.t 128), none⟩,
                  ⟨some 129, .ext 0 (.t 124), none⟩,
                  ⟨some 130, .ext 1 (.t 124), none⟩,
                  ⟨some 12, .mov (.t 129), none⟩,
                  ⟨some 13, .mov (.t 130), none⟩])
               (.seq (.region [⟨some 132, .load true 5 (.t 1), none⟩,
                   ⟨some 133, .load true 5 (.t 1), none⟩,
                   ⟨some 134, .call 30 [(.t 132), (.t 133)], none⟩,
                   ⟨some 131, .mov (.t 134), none⟩,
                   ⟨some 135, .ext 0 (.t 131), none⟩,
                   ⟨some 136, .ext 1 (.t 131), none⟩,
                   ⟨some 14, .box (.c (.agg [.int Go.IntKind.i64 0, .int Go.IntKind.i64 0, .sl true 0 [], .sl true 0 [], .sl true 0 []])), none⟩,
                   ⟨none, .store 5 (.t 14) (.t 135), none⟩,
                   ⟨some 15, .mov (.t 136), none⟩])
                (.seq (.region [⟨some 137, .load true 5 (.t 9), none⟩,
                    ⟨some 138, .call 14 [(.t 137)], none⟩,
                    ⟨some 139, .bin .eql (.t 138) (.c (.int Go.IntKind.i64 8)), none⟩,
                    ⟨some 140, .mov (.t 139), none⟩,
                    ⟨some 141, .load true 5 (.t 10), some (140, true)⟩,
                    ⟨some 142, .call 14 [(.t 141)], some (140, true)⟩,
                    ⟨some 143, .bin .eql (.t 142) (.c (.int Go.IntKind.i64 8)), some (140, true)⟩,
                    ⟨some 144, .pick (.t 140) (.t 143) (.c (.bool false)), none⟩,
                    ⟨some 145, .mov (.t 144), none⟩,
                    ⟨some 146, .load true 5 (.t 11), some (145, true)⟩,
                    ⟨some 147, .call 14 [(.t 146)], some (145, true)⟩,
                    ⟨some 148, .bin .eql (.t 147) (.c (.int Go.IntKind.i64 2)), some (145, true)⟩,
                    ⟨some 149, .pick (.t 145) (.t 148) (.c (.bool false)), none⟩,
                    ⟨some 150, .mov (.t 149), none⟩,
                    ⟨some 151, .mov (.t 13), some (150, true)⟩,
                    ⟨some 152, .bin .eql (.t 151) (.c (.int Go.IntKind.i64 1)), some (150, true)⟩,
                    ⟨some 153, .pick (.t 150) (.t 152) (.c (.bool false)), none⟩,
                    ⟨some 154, .mov (.t 153), none⟩,
                    ⟨some 155, .mov (.t 15), some (154, true)⟩,
                    ⟨some 156, .bin .eql (.t 155) (.c (.int Go.IntKind.i64 0)), some (154, true)⟩,
                    ⟨some 157, .pick (.t 154) (.t 156) (.c (.bool false)), none⟩,
                    ⟨some 158, .mov (.t 157), none⟩,
                    ⟨some 159, .faddr 1 (.t 14), some (158, true)⟩,
                    ⟨some 160, .load false 1 (.t 159), some (158, true)⟩,
                    ⟨some 161, .bin .eql (.t 160) (.c (.int Go.IntKind.i64 4)), some (158, true)⟩,
                    ⟨some 162, .pick (.t 158) (.t 161) (.c (.bool false)), none⟩,
                    ⟨some 163, .mov (.t 162), none⟩,
                    ⟨some 164, .faddr 2 (.t 14), some (163, true)⟩,
                    ⟨some 165, .load false 1 (.t 164), some (163, true)⟩,
                    ⟨some 166, .bslice true [.int Go.IntKind.i64 0] 1 2 [(0, (.c (.int Go.IntKind.i64 0))), (1, (.c (.int Go.IntKind.i64 2)))], some (163, true)⟩,
                    ⟨some 167, .call 60 [(.t 165), (.t 166)], some (163, true)⟩,
                    ⟨some 168, .pick (.t 163) (.t 167) (.c (.bool false)), none⟩,
                    ⟨some 169, .mov (.t 168), none⟩,
                    ⟨some 170, .faddr 3 (.t 14), some (169, true)⟩,
                    ⟨some 171, .load false 1 (.t 170), some (169, true)⟩,
                    ⟨some 172, .bslice true [.int Go.IntKind.i64 0] 1 2 [(0, (.c (.int Go.IntKind.i64 1))), (1, (.c (.int Go.IntKind.i64 3)))], some (169, true)⟩,
                    ⟨some 173, .call 60 [(.t 171), (.t 172)], some (169, true)⟩,
                    ⟨some 174, .pick (.t 169) (.t 173) (.c (.bool false)), none⟩,
                    ⟨some 175, .mov (.t 174), none⟩,
                    ⟨some 176, .faddr 4 (.t 14), some (175, true)⟩,
                    ⟨some 177, .load false 1 (.t 176), some (175, true)⟩,
                    ⟨some 178, .len (.t 177), some (175, true)⟩,
                    ⟨some 179, .bin .eql (.t 178) (.c (.int Go.IntKind.i64 8)), some (175, true)⟩,
                    ⟨some 180, .pick (.t 175) (.t 179) (.c (.bool false)), none⟩,
                    ⟨some 0, .mov (.t 180), none⟩])
                 (.ret)))))))))))))))),
  [.tmp 0]⟩

def a30l0b : ACode :=
  .seq (.region [⟨some 16, .bin .lss (.t 15) (.c (.int Go.IntKind.i64 2)), none⟩])
  (.seq (.cond (.t 16)
    (.skip)
    (.exit 0))
   (.seq (.block 1 (.seq (.region [⟨some 17, .idx true 5 2 (.t 14) (.t 15), none⟩,
         ⟨some 7, .box (.c (.agg [.int Go.IntKind.i64 0, .int Go.IntKind.i64 0, .sl true 0 [], .sl true 0 [], .sl true 0 []])), none⟩,
         ⟨none, .store 5 (.t 7) (.t 17), none⟩])
      (.seq (.region [⟨some 18, .load true 5 (.t 7), none⟩,
          ⟨some 19, .call 14 [(.t 18)], none⟩,
          ⟨some 8, .mov (.t 19), none⟩])
       (.seq (.region [⟨some 20, .mov (.t 8), none⟩,
           ⟨some 21, .bin .neq (.t 20) (.c (.int Go.IntKind.i64 0)), none⟩])
        (.cond (.t 21)
         (.seq (.region [⟨some 22, .build [.int Go.IntKind.i64 0, .int Go.IntKind.i64 0, .sl true 0 [], .sl true 0 [], .sl true 0 []] [], none⟩,
             ⟨some 23, .mov (.t 8), none⟩,
             ⟨none, .store 5 (.t 4) (.t 22), none⟩,
             ⟨some 5, .mov (.t 23), none⟩])
          (.ret))
         (.skip))))))
    (.region [⟨some 24, .bin .add (.t 15) (.c (.int Go.IntKind.i64 1)), none⟩,
       ⟨some 15, .mov (.t 24), none⟩])))

def a30l0 : ACode := a30l0b
def a30l0s : List Nat := [0, 1, 6, 7, 8, 9, 10, 11, 12, 13, 16, 17, 18, 19, 20, 21, 22, 23, 24, 25, 26, 27, 28, 29, 30, 31, 32, 33, 34, 35, 36, 37, 38, 39, 40, 41, 42, 43, 44, 45, 46, 47, 48, 49, 50, 51, 52, 53, 54, 55, 56, 57, 58, 59, 60, 61, 62, 63, 64, 65, 66, 67, 68, 69, 70, 71, 72, 73, 74, 75, 76, 77, 78, 79, 80, 81, 82, 83, 84, 85, 86, 87, 88, 89, 90, 91, 92, 93, 94]
abbrev a30l0F (s2 s3 s4 s5 s14 s15 : AV) : List AV := [.any, .any, s2, s3, s4, s5, .any, .any, .any, .any, .any, .any, .any, .any, s14, s15, .any, .any, .any, .any, .any, .any, .any, .any, .any, .any, .any, .any, .any, .any, .any, .any, .any, .any, .any, .any, .any, .any, .any, .any, .any, .any, .any, .any, .any, .any, .any, .any, .any, .any, .any, .any, .any, .any, .any, .any, .any, .any, .any, .any, .any, .any, .any, .any, .any, .any, .any, .any, .any, .any, .any, .any, .any, .any, .any, .any, .any, .any, .any, .any, .any, .any, .any, .any, .any, .any, .any, .any, .any, .any, .any, .any, .any, .any, .any]
theorem a30l0c (s0 s1 s2 s3 s4 s5 s6 s7 s8 s9 s10 s11 s12 s13 s14 s15 s16 s17 s18 s19 s20 s21 s22 s23 s24 s25 s26 s27 s28 s29 s30 s31 s32 s33 s34 s35 s36 s37 s38 s39 s40 s41 s42 s43 s44 s45 s46 s47 s48 s49 s50 s51 s52 s53 s54 s55 s56 s57 s58 s59 s60 s61 s62 s63 s64 s65 s66 s67 s68 s69 s70 s71 s72 s73 s74 s75 s76 s77 s78 s79 s80 s81 s82 s83 s84 s85 s86 s87 s88 s89 s90 s91 s92 s93 s94 : AV) : clearA a30l0s [s0, s1, s2, s3, s4, s5, s6, s7, s8, s9, s10, s11, s12, s13, s14, s15, s16, s17, s18, s19, s20, s21, s22, s23, s24, s25, s26, s27, s28, s29, s30, s31, s32, s33, s34, s35, s36, s37, s38, s39, s40, s41, s42, s43, s44, s45, s46, s47, s48, s49, s50, s51, s52, s53, s54, s55, s56, s57, s58, s59, s60, s61, s62, s63, s64, s65, s66, s67, s68, s69, s70, s71, s72, s73, s74, s75, s76, s77, s78, s79, s80, s81, s82, s83, s84, s85, s86, s87, s88, s89, s90, s91, s92, s93, s94] = a30l0F s2 s3 s4 s5 s14 s15 := by kernel_rfl
theorem a30l0n {prog : Nat → Option AFunc} (s2 s3 s4 s5 s14 s15 : AV) (H : Heap) : (lim prog).loop a30l0s a30l0 ⟨a30l0F s2 s3 s4 s5 s14 s15, H⟩ = loopK (lim prog) a30l0s a30l0 (run (lim prog) a30l0b ⟨a30l0F s2 s3 s4 s5 s14 s15, H⟩) := lim_loop_step _ _ _ _ (by kernel_rfl)

def a30l1b : ACode :=
  .seq (.region [⟨some 56, .bin .lss (.t 55) (.t 54), none⟩])
  (.seq (.cond (.t 56)
    (.skip)
    (.exit 3))
   (.seq (.block 4 (.seq (.region [⟨some 57, .mov (.t 55), none⟩,
         ⟨some 10, .mov (.t 57), none⟩])
      (.region [⟨some 58, .mov (.t 9), none⟩,
         ⟨some 59, .mov (.t 10), none⟩,
         ⟨some 60, .faddr 1 (.t 2), none⟩,
         ⟨some 61, .load false 1 (.t 60), none⟩,
         ⟨some 62, .mov (.t 10), none⟩,
         ⟨some 63, .bin .add (.t 61) (.t 62), none⟩,
         ⟨some 64, .iaddr 1 (.t 58) (.t 59), none⟩,
         ⟨none, .store 1 (.t 64) (.t 63), none⟩])))
    (.region [⟨some 65, .bin .add (.t 55) (.c (.int Go.IntKind.i64 1)), none⟩,
       ⟨some 55, .mov (.t 65), none⟩])))

def a30l1 : ACode := a30l1b
def a30l1s : List Nat := [0, 1, 5, 6, 7, 8, 10, 11, 12, 13, 14, 15, 16, 17, 18, 19, 20, 21, 22, 23, 24, 25, 26, 27, 28, 29, 30, 31, 32, 33, 34, 35, 36, 37, 38, 39, 40, 41, 42, 43, 44, 45, 46, 47, 48, 49, 50, 51, 52, 53, 56, 57, 58, 59, 60, 61, 62, 63, 64, 65, 66, 67, 68, 69, 70, 71, 72, 73, 74, 75, 76, 77, 78, 79, 80, 81, 82, 83, 84, 85, 86, 87, 88, 89, 90, 91, 92, 93, 94]
abbrev a30l1F (s2 s3 s4 s9 s54 s55 : AV) : List AV := [.any, .any, s2, s3, s4, .any, .any, .any, .any, s9, .any, .any, .any, .any, .any, .any, .any, .any, .any, .any, .any, .any, .any, .any, .any, .any, .any, .any, .any, .any, .any, .any, .any, .any, .any, .any, .any, .any, .any, .any, .any, .any, .any, .any, .any, .any, .any, .any, .any, .any, .any, .any, .any, .any, s54, s55, .any, .any, .any, .any, .any, .any, .any, .any, .any, .any, .any, .any, .any, .any, .any, .any, .any, .any, .any, .any, .any, .any, .any, .any, .any, .any, .any, .any, .any, .any, .any, .any, .any, .any, .any, .any, .any, .any, .any]
theorem a30l1c (s0 s1 s2 s3 s4 s5 s6 s7 s8 s9 s10 s11 s12 s13 s14 s15 s16 s17 s18 s19 s20 s21 s22 s23 s24 s25 s26 s27 s28 s29 s30 s31 s32 s33 s34 s35 s36 s37 s38 s39 s40 s41 s42 s43 s44 s45 s46 s47 s48 s49 s50 s51 s52 s53 s54 s55 s56 s57 s58 s59 s60 s61 s62 s63 s64 s65 s66 s67 s68 s69 s70 s71 s72 s73 s74 s75 s76 s77 s78 s79 s80 s81 s82 s83 s84 s85 s86 s87 s88 s89 s90 s91 s92 s93 s94 : AV) : clearA a30l1s [s0, s1, s2, s3, s4, s5, s6, s7, s8, s9, s10, s11, s12, s13, s14, s15, s16, s17, s18, s19, s20, s21, s22, s23, s24, s25, s26, s27, s28, s29, s30, s31, s32, s33, s34, s35, s36, s37, s38, s39, s40, s41, s42, s43, s44, s45, s46, s47, s48, s49, s50, s51, s52, s53, s54, s55, s56, s57, s58, s59, s60, s61, s62, s63, s64, s65, s66, s67, s68, s69, s70, s71, s72, s73, s74, s75, s76, s77, s78, s79, s80, s81, s82, s83, s84, s85, s86, s87, s88, s89, s90, s91, s92, s93, s94] = a30l1F s2 s3 s4 s9 s54 s55 := by kernel_rfl
theorem a30l1n {prog : Nat → Option AFunc} (s2 s3 s4 s9 s54 s55 : AV) (H : Heap) : (lim prog).loop a30l1s a30l1 ⟨a30l1F s2 s3 s4 s9 s54 s55, H⟩ = loopK (lim prog) a30l1s a30l1 (run (lim prog) a30l1b ⟨a30l1F s2 s3 s4 s9 s54 s55, H⟩) := lim_loop_step _ _ _ _ (by kernel_rfl)

/-- sentinel/treeaut.Union -/
def a30 : AFunc := ⟨95,
  .seq (.region [⟨some 2, .box (.t 0), none⟩,
     ⟨some 3, .box (.t 1), none⟩,
     ⟨some 4, .box (.c (.agg [.int Go.IntKind.i64 0, .int Go.IntKind.i64 0, .sl true 0 [], .sl true 0 [], .sl true 0 []])), none⟩,
     ⟨some 5, .mov (.c (.int Go.IntKind.i64 0)), none⟩])
  (.seq (.seq (.region [⟨some 12, .load true 5 (.t 2), none⟩,
       ⟨some 13, .load true 5 (.t 3), none⟩,
       ⟨some 14, .build [.int Go.IntKind.i64 0, .int Go.IntKind.i64 0, .sl true 0 [], .sl true 0 [], .sl true 0 [], .int Go.IntKind.i64 0, .int Go.IntKind.i64 0, .sl true 0 [], .sl true 0 [], .sl true 0 []] [(0, 5, (.t 12)), (5, 5, (.t 13))], none⟩,
       ⟨some 15, .mov (.c (.int Go.IntKind.i64 0)), none⟩])
    (.block 0 (.loop a30l0s a30l0)))
   (.seq (.block 2 (.seq (.region [⟨some 26, .faddr 0 (.t 2), none⟩,
         ⟨some 27, .load false 1 (.t 26), none⟩,
         ⟨some 28, .faddr 0 (.t 3), none⟩,
         ⟨some 29, .load false 1 (.t 28), none⟩,
         ⟨some 30, .bin .neq (.t 27) (.t 29), none⟩,
         ⟨some 25, .mov (.t 30), none⟩])
      (.cond (.t 25)
       (.seq (.region [⟨some 31, .build [.int Go.IntKind.i64 0, .int Go.IntKind.i64 0, .sl true 0 [], .sl true 0 [], .sl true 0 []] [], none⟩,
           ⟨none, .store 5 (.t 4) (.t 31), none⟩,
           ⟨some 5, .mov (.c (.int Go.IntKind.i64 7)), none⟩])
        (.ret))
       (.seq (.region [⟨some 33, .faddr 1 (.t 2), none⟩,
           ⟨some 34, .load false 1 (.t 33), none⟩,
           ⟨some 35, .faddr 1 (.t 3), none⟩,
           ⟨some 36, .load false 1 (.t 35), none⟩,
           ⟨some 37, .bin .add (.t 34) (.t 36), none⟩,
           ⟨some 38, .bin .gtr (.t 37) (.c (.int Go.IntKind.i64 64)), none⟩,
           ⟨some 39, .mov (.t 38), none⟩,
           ⟨some 40, .faddr 4 (.t 2), some (39, false)⟩,
           ⟨some 41, .load false 1 (.t 40), some (39, false)⟩,
           ⟨some 42, .len (.t 41), some (39, false)⟩,
           ⟨some 43, .faddr 4 (.t 3), some (39, false)⟩,
           ⟨some 44, .load false 1 (.t 43), some (39, false)⟩,
           ⟨some 45, .len (.t 44), some (39, false)⟩,
           ⟨some 46, .bin .add (.t 42) (.t 45), some (39, false)⟩,
           ⟨some 47, .bin .gtr (.t 46) (.c (.int Go.IntKind.i64 512)), some (39, false)⟩,
           ⟨some 48, .pick (.t 39) (.c (.bool true)) (.t 47), none⟩,
           ⟨some 32, .mov (.t 48), none⟩])
        (.cond (.t 32)
         (.seq (.region [⟨some 49, .build [.int Go.IntKind.i64 0, .int Go.IntKind.i64 0, .sl true 0 [], .sl true 0 [], .sl true 0 []] [], none⟩,
             ⟨none, .store 5 (.t 4) (.t 49), none⟩,
             ⟨some 5, .mov (.c (.int Go.IntKind.i64 4)), none⟩])
          (.ret))
         (.skip))))))
    (.seq (.region [⟨some 50, .faddr 1 (.t 3), none⟩,
        ⟨some 51, .load false 1 (.t 50), none⟩,
        ⟨some 52, .mkslice false [.int Go.IntKind.i64 0] 8 (.t 51) (.t 51), none⟩,
        ⟨some 9, .mov (.t 52), none⟩])
     (.seq (.seq (.region [⟨some 53, .mov (.t 9), none⟩,
          ⟨some 54, .len (.t 53), none⟩,
          ⟨some 55, .mov (.c (.int Go.IntKind.i64 0)), none⟩])
       (.block 3 (.loop a30l1s a30l1)))
      (.seq (.region [⟨some 66, .load true 5 (.t 3), none⟩,
          ⟨some 67, .mov (.t 9), none⟩,
          ⟨some 68, .call 58 [(.t 66), (.t 67)], none⟩,
          ⟨some 11, .box (.c (.agg [.int Go.IntKind.i64 0, .int Go.IntKind.i64 0, .sl true 0 [], .sl true 0 [], .sl true 0 []])), none⟩,
          ⟨none, .store 5 (.t 11) (.t 68), none⟩])
       (.seq (.drawp [] [] 25 [⟨some 69, .faddr 0 (.t 2), none⟩,
           ⟨some 70, .load false 1 (.t 69), none⟩,
           ⟨some 71, .faddr 1 (.t 2), none⟩,
           ⟨some 72, .load false 1 (.t 71), none⟩,
           ⟨some 73, .faddr 1 (.t 3), none⟩,
           ⟨some 74, .load false 1 (.t 73), none⟩,
           ⟨some 75, .bin .add (.t 72) (.t 74), none⟩,
           ⟨some 76, .faddr 2 (.t 2), none⟩,
           ⟨some 77, .load false 1 (.t 76), none⟩,
           ⟨some 78, .faddr 2 (.t 11), none⟩,
           ⟨some 79, .load false 1 (.t 78), none⟩,
           ⟨some 80, .bslice true [.sl true 0 []] 1 2 [(0, (.t 77)), (1, (.t 79))], none⟩,
           ⟨some 81, .ocall 67 [(.t 80)], none⟩,
           ⟨some 82, .faddr 3 (.t 2), none⟩,
           ⟨some 83, .load false 1 (.t 82), none⟩,
           ⟨some 84, .faddr 3 (.t 11), none⟩,
           ⟨some 85, .load false 1 (.t 84), none⟩,
           ⟨some 86, .bslice true [.sl true 0 []] 1 2 [(0, (.t 83)), (1, (.t 85))], none⟩,
           ⟨some 87, .ocall 67 [(.t 86)], none⟩,
           ⟨some 88, .faddr 4 (.t 2), none⟩,
           ⟨some 89, .load false 1 (.t 88), none⟩,
           ⟨some 90, .faddr 4 (.t 11), none⟩,
           ⟨some 91, .load false 1 (.t 90), none⟩,
           ⟨some 92, .bslice true [.sl true 0 []] 1 2 [(0, (.t 89)), (1, (.t 91))], none⟩,
           ⟨some 93, .ocall 68 [(.t 92)], none⟩,
           ⟨some 94, .build [.int Go.IntKind.i64 0, .int Go.IntKind.i64 0, .sl true 0 [], .sl true 0 [], .sl true 0 []] [(0, 1, (.t 70)), (1, 1, (.t 75)), (2, 1, (.t 81)), (3, 1, (.t 87)), (4, 1, (.t 93))], none⟩,
           ⟨none, .store 5 (.t 4) (.t 94), none⟩,
           ⟨some 5, .mov (.c (.int Go.IntKind.i64 0)), none⟩])
        (.ret))))))),
  [.cell 4 true 5, .tmp 5]⟩

def a31l0b : ACode :=
  .seq (.seq (.region [⟨some 56, .mov (.t 9), none⟩,
      ⟨some 57, .faddr 2 (.t 3), none⟩,
      ⟨some 58, .load false 1 (.t 57), none⟩,
      ⟨some 59, .len (.t 58), none⟩,
      ⟨some 60, .bin .lss (.t 56) (.t 59), none⟩])
   (.cond (.t 60)
    (.skip)
    (.exit 0)))
  (.seq (.block 1 (.draw 7 [⟨some 63, .faddr 2 (.t 8), none⟩,
       ⟨some 64, .load false 1 (.t 63), none⟩,
       ⟨some 65, .faddr 2 (.t 3), none⟩,
       ⟨some 66, .load false 1 (.t 65), none⟩,
       ⟨some 67, .mov (.t 9), none⟩,
       ⟨some 68, .iaddr 1 (.t 66) (.t 67), none⟩,
       ⟨some 69, .load false 1 (.t 68), none⟩,
       ⟨some 70, .faddr 1 (.t 2), none⟩,
       ⟨some 71, .load false 1 (.t 70), none⟩,
       ⟨some 72, .bin .add (.t 69) (.t 71), none⟩,
       ⟨some 73, .bslice true [.int Go.IntKind.i64 0] 1 1 [(0, (.t 72))], none⟩,
       ⟨some 74, .append false 1 8 (.t 64) (.t 73), none⟩,
       ⟨some 75, .faddr 2 (.t 8), none⟩,
       ⟨none, .store 1 (.t 75) (.t 74), none⟩]))
   (.region [⟨some 61, .mov (.t 9), none⟩,
      ⟨some 62, .bin .add (.t 61) (.c (.int Go.IntKind.i64 1)), none⟩,
      ⟨some 9, .mov (.t 62), none⟩]))

def a31l0 : ACode := a31l0b
def a31l0s : List Nat := [0, 1, 5, 6, 7, 10, 11, 12, 13, 14, 15, 16, 17, 18, 19, 20, 21, 22, 23, 24, 25, 26, 27, 28, 29, 30, 31, 32, 33, 34, 35, 36, 37, 38, 39, 40, 41, 42, 43, 44, 45, 46, 47, 48, 49, 50, 51, 52, 53, 54, 55, 56, 57, 58, 59, 60, 61, 62, 63, 64, 65, 66, 67, 68, 69, 70, 71, 72, 73, 74, 75, 76, 77, 78, 79, 80, 81, 82, 83, 84, 85, 86, 87, 88, 89, 90, 91, 92, 93, 94, 95, 96, 97, 98, 99, 100, 101, 102, 103, 104, 105, 106, 107, 108, 109, 110, 111, 112, 113, 114, 115, 116, 117, 118, 119, 120, 121, 122, 123, 124, 125, 126, 127, 128, 129, 130, 131, 132, 133]
abbrev a31l0F (s2 s3 s4 s8 s9 : AV) : List AV := [.any, .any, s2, s3, s4, .any, .any, .any, s8, s9, .any, .any, .any, .any, .any, .any, .any, .any, .any, .any, .any, .any, .any, .any, .any, .any, .any, .any, .any, .any, .any, .any, .any, .any, .any, .any, .any, .any, .any, .any, .any, .any, .any, .any, .any, .any, .any, .any, .any, .any, .any, .any, .any, .any, .any, .any, .any, .any, .any, .any, .any, .any, .any, .any, .any, .any, .any, .any, .any, .any, .any, .any, .any, .any, .any, .any, .any, .any, .any, .any, .any, .any, .any, .any, .any, .any, .any, .any, .any, .any, .any, .any, .any, .any, .any, .any, .any, .any, .any, .any, .any, .any, .any, .any, .any, .any, .any, .any, .any, .any, .any, .any, .any, .any, .any, .any, .any, .any, .any, .any, .any, .any, .any, .any, .any, .any, .any, .any, .any, .any, .any, .any, .any, .any]
theorem a31l0c (s0 s1 s2 s3 s4 s5 s6 s7 s8 s9 s10 s11 s12 s13 s14 s15 s16 s17 s18 s19 s20 s21 s22 s23 s24 s25 s26 s27 s28 s29 s30 s31 s32 s33 s34 s35 s36 s37 s38 s39 s40 s41 s42 s43 s44 s45 s46 s47 s48 s49 s50 s51 s52 s53 s54 s55 s56 s57 s58 s59 s60 s61 s62 s63 s64 s65 s66 s67 s68 s69 s70 s71 s72 s73 s74 s75 s76 s77 s78 s79 s80 s81 s82 s83 s84 s85 s86 s87 s88 s89 s90 s91 s92 s93 s94 s95 s96 s97 s98 s99 s100 s101 s102 s103 s104 s105 s106 s107 s108 s109 s110 s111 s112 s113 s114 s115 s116 s117 s118 s119 s120 s121 s122 s123 s124 s125 s126 s127 s128 s129 s130 s131 s132 s133 : AV) : clearA a31l0s [s0, s1, s2, s3, s4, s5, s6, s7, s8, s9, s10, s11, s12, s13, s14, s15, s16, s17, s18, s19, s20, s21, s22, s23, s24, s25, s26, s27, s28, s29, s30, s31, s32, s33, s34, s35, s36, s37, s38, s39, s40, s41, s42, s43, s44, s45, s46, s47, s48, s49, s50, s51, s52, s53, s54, s55, s56, s57, s58, s59, s60, s61, s62, s63, s64, s65, s66, s67, s68, s69, s70, s71, s72, s73, s74, s75, s76, s77, s78, s79, s80, s81, s82, s83, s84, s85, s86, s87, s88, s89, s90, s91, s92, s93, s94, s95, s96, s97, s98, s99, s100, s101, s102, s103, s104, s105, s106, s107, s108, s109, s110, s111, s112, s113, s114, s115, s116, s117, s118, s119, s120, s121, s122, s123, s124, s125, s126, s127, s128, s129, s130, s131, s132, s133] = a31l0F s2 s3 s4 s8 s9 := by kernel_rfl
theorem a31l0n {prog : Nat → Option AFunc} (s2 s3 s4 s8 s9 : AV) (H : Heap) : (lim prog).loop a31l0s a31l0 ⟨a31l0F s2 s3 s4 s8 s9, H⟩ = loopK (lim prog) a31l0s a31l0 (run (lim prog) a31l0b ⟨a31l0F s2 s3 s4 s8 s9, H⟩) := lim_loop_step _ _ _ _ (by kernel_rfl)

def a31l1b : ACode :=
  .seq (.seq (.region [⟨some 76, .mov (.t 10), none⟩,
      ⟨some 77, .faddr 3 (.t 3), none⟩,
      ⟨some 78, .load false 1 (.t 77), none⟩,
      ⟨some 79, .len (.t 78), none⟩,
      ⟨some 80, .bin .lss (.t 76) (.t 79), none⟩])
   (.cond (.t 80)
    (.skip)
    (.exit 2)))
  (.seq (.block 3 (.draw 7 [⟨some 83, .faddr 3 (.t 8), none⟩,
       ⟨some 84, .load false 1 (.t 83), none⟩,
       ⟨some 85, .faddr 3 (.t 3), none⟩,
       ⟨some 86, .load false 1 (.t 85), none⟩,
       ⟨some 87, .mov (.t 10), none⟩,
       ⟨some 88, .iaddr 1 (.t 86) (.t 87), none⟩,
       ⟨some 89, .load false 1 (.t 88), none⟩,
       ⟨some 90, .faddr 1 (.t 2), none⟩,
       ⟨some 91, .load false 1 (.t 90), none⟩,
       ⟨some 92, .bin .add (.t 89) (.t 91), none⟩,
       ⟨some 93, .bslice true [.int Go.IntKind.i64 0] 1 1 [(0, (.t 92))], none⟩,
       ⟨some 94, .append false 1 8 (.t 84) (.t 93), none⟩,
       ⟨some 95, .faddr 3 (.t 8), none⟩,
       ⟨none, .store 1 (.t 95) (.t 94), none⟩]))
   (.region [⟨some 81, .mov (.t 10), none⟩,
      ⟨some 82, .bin .add (.t 81) (.c (.int Go.IntKind.i64 1)), none⟩,
      ⟨some 10, .mov (.t 82), none⟩]))

def a31l1 : ACode := a31l1b
def a31l1s : List Nat := [0, 1, 5, 6, 7, 9, 11, 12, 13, 14, 15, 16, 17, 18, 19, 20, 21, 22, 23, 24, 25, 26, 27, 28, 29, 30, 31, 32, 33, 34, 35, 36, 37, 38, 39, 40, 41, 42, 43, 44, 45, 46, 47, 48, 49, 50, 51, 52, 53, 54, 55, 56, 57, 58, 59, 60, 61, 62, 63, 64, 65, 66, 67, 68, 69, 70, 71, 72, 73, 74, 75, 76, 77, 78, 79, 80, 81, 82, 83, 84, 85, 86, 87, 88, 89, 90, 91, 92, 93, 94, 95, 96, 97, 98, 99, 100, 101, 102, 103, 104, 105, 106, 107, 108, 109, 110, 111, 112, 113, 114, 115, 116, 117, 118, 119, 120, 121, 122, 123, 124, 125, 126, 127, 128, 129, 130, 131, 132, 133]
abbrev a31l1F (s2 s3 s4 s8 s10 : AV) : List AV := [.any, .any, s2, s3, s4, .any, .any, .any, s8, .any, s10, .any, .any, .any, .any, .any, .any, .any, .any, .any, .any, .any, .any, .any, .any, .any, .any, .any, .any, .any, .any, .any, .any, .any, .any, .any, .any, .any, .any, .any, .any, .any, .any, .any, .any, .any, .any, .any, .any, .any, .any, .any, .any, .any, .any, .any, .any, .any, .any, .any, .any, .any, .any, .any, .any, .any, .any, .any, .any, .any, .any, .any, .any, .any, .any, .any, .any, .any, .any, .any, .any, .any, .any, .any, .any, .any, .any, .any, .any, .any, .any, .any, .any, .any, .any, .any, .any, .any, .any, .any, .any, .any, .any, .any, .any, .any, .any, .any, .any, .any, .any, .any, .any, .any, .any, .any, .any, .any, .any, .any, .any, .any, .any, .any, .any, .any, .any, .any, .any, .any, .any, .any, .any, .any]
theorem a31l1c (s0 s1 s2 s3 s4 s5 s6 s7 s8 s9 s10 s11 s12 s13 s14 s15 s16 s17 s18 s19 s20 s21 s22 s23 s24 s25 s26 s27 s28 s29 s30 s31 s32 s33 s34 s35 s36 s37 s38 s39 s40 s41 s42 s43 s44 s45 s46 s47 s48 s49 s50 s51 s52 s53 s54 s55 s56 s57 s58 s59 s60 s61 s62 s63 s64 s65 s66 s67 s68 s69 s70 s71 s72 s73 s74 s75 s76 s77 s78 s79 s80 s81 s82 s83 s84 s85 s86 s87 s88 s89 s90 s91 s92 s93 s94 s95 s96 s97 s98 s99 s100 s101 s102 s103 s104 s105 s106 s107 s108 s109 s110 s111 s112 s113 s114 s115 s116 s117 s118 s119 s120 s121 s122 s123 s124 s125 s126 s127 s128 s129 s130 s131 s132 s133 : AV) : clearA a31l1s [s0, s1, s2, s3, s4, s5, s6, s7, s8, s9, s10, s11, s12, s13, s14, s15, s16, s17, s18, s19, s20, s21, s22, s23, s24, s25, s26, s27, s28, s29, s30, s31, s32, s33, s34, s35, s36, s37, s38, s39, s40, s41, s42, s43, s44, s45, s46, s47, s48, s49, s50, s51, s52, s53, s54, s55, s56, s57, s58, s59, s60, s61, s62, s63, s64, s65, s66, s67, s68, s69, s70, s71, s72, s73, s74, s75, s76, s77, s78, s79, s80, s81, s82, s83, s84, s85, s86, s87, s88, s89, s90, s91, s92, s93, s94, s95, s96, s97, s98, s99, s100, s101, s102, s103, s104, s105, s106, s107, s108, s109, s110, s111, s112, s113, s114, s115, s116, s117, s118, s119, s120, s121, s122, s123, s124, s125, s126, s127, s128, s129, s130, s131, s132, s133] = a31l1F s2 s3 s4 s8 s10 := by kernel_rfl
theorem a31l1n {prog : Nat → Option AFunc} (s2 s3 s4 s8 s10 : AV) (H : Heap) : (lim prog).loop a31l1s a31l1 ⟨a31l1F s2 s3 s4 s8 s10, H⟩ = loopK (lim prog) a31l1s a31l1 (run (lim prog) a31l1b ⟨a31l1F s2 s3 s4 s8 s10, H⟩) := lim_loop_step _ _ _ _ (by kernel_rfl)

def a31l2b : ACode :=
  .seq (.seq (.region [⟨some 96, .mov (.t 11), none⟩,
      ⟨some 97, .faddr 4 (.t 3), none⟩,
      ⟨some 98, .load false 1 (.t 97), none⟩,
      ⟨some 99, .len (.t 98), none⟩,
      ⟨some 100, .bin .lss (.t 96) (.t 99), none⟩])
   (.cond (.t 100)
    (.skip)
    (.exit 4)))
  (.seq (.block 5 (.seq (.region [⟨some 103, .faddr 4 (.t 3), none⟩,
        ⟨some 104, .load false 1 (.t 103), none⟩,
        ⟨some 105, .mov (.t 11), none⟩,
        ⟨some 106, .iaddr 5 (.t 104) (.t 105), none⟩,
        ⟨some 107, .load true 5 (.t 106), none⟩,
        ⟨some 12, .box (.c (.agg [.int Go.IntKind.i64 0, .int Go.IntKind.i64 0, .int Go.IntKind.i64 0, .int Go.IntKind.u8 0, .int Go.IntKind.u8 0])), none⟩,
        ⟨none, .store 5 (.t 12) (.t 107), none⟩])
     (.region [⟨some 108, .faddr 4 (.t 8), none⟩,
        ⟨some 109, .load false 1 (.t 108), none⟩,
        ⟨some 110, .faddr 0 (.t 12), none⟩,
        ⟨some 111, .load false 1 (.t 110), none⟩,
        ⟨some 112, .faddr 1 (.t 2), none⟩,
        ⟨some 113, .load false 1 (.t 112), none⟩,
        ⟨some 114, .bin .add (.t 111) (.t 113), none⟩,
        ⟨some 115, .faddr 1 (.t 12), none⟩,
        ⟨some 116, .load false 1 (.t 115), none⟩,
        ⟨some 117, .faddr 1 (.t 2), none⟩,
        ⟨some 118, .load false 1 (.t 117), none⟩,
        ⟨some 119, .bin .add (.t 116) (.t 118), none⟩,
        ⟨some 120, .faddr 2 (.t 12), none⟩,
        ⟨some 121, .load false 1 (.t 120), none⟩,
        ⟨some 122, .faddr 1 (.t 2), none⟩,
        ⟨some 123, .load false 1 (.t 122), none⟩,
        ⟨some 124, .bin .add (.t 121) (.t 123), none⟩,
        ⟨some 125, .faddr 3 (.t 12), none⟩,
        ⟨some 126, .load false 1 (.t 125), none⟩,
        ⟨some 127, .faddr 4 (.t 12), none⟩,
        ⟨some 128, .load false 1 (.t 127), none⟩,
        ⟨some 129, .build [.int Go.IntKind.i64 0, .int Go.IntKind.i64 0, .int Go.IntKind.i64 0, .int Go.IntKind.u8 0, .int Go.IntKind.u8 0] [(0, 1, (.t 114)), (1, 1, (.t 119)), (2, 1, (.t 124)), (3, 1, (.t 126)), (4, 1, (.t 128))], none⟩,
        ⟨some 130, .bslice true [.int Go.IntKind.i64 0, .int Go.IntKind.i64 0, .int Go.IntKind.i64 0, .int Go.IntKind.u8 0, .int Go.IntKind.u8 0] 5 1 [(0, (.t 129))], none⟩,
        ⟨some 131, .append false 5 32 (.t 109) (.t 130), none⟩,
        ⟨some 132, .faddr 4 (.t 8), none⟩,
        ⟨none, .store 1 (.t 132) (.t 131), none⟩])))
   (.region [⟨some 101, .mov (.t 11), none⟩,
      ⟨some 102, .bin .add (.t 101) (.c (.int Go.IntKind.i64 1)), none⟩,
      ⟨some 11, .mov (.t 102), none⟩]))

def a31l2 : ACode := a31l2b
def a31l2s : List Nat := [0, 1, 5, 6, 7, 9, 10, 12, 13, 14, 15, 16, 17, 18, 19, 20, 21, 22, 23, 24, 25, 26, 27, 28, 29, 30, 31, 32, 33, 34, 35, 36, 37, 38, 39, 40, 41, 42, 43, 44, 45, 46, 47, 48, 49, 50, 51, 52, 53, 54, 55, 56, 57, 58, 59, 60, 61, 62, 63, 64, 65, 66, 67, 68, 69, 70, 71, 72, 73, 74, 75, 76, 77, 78, 79, 80, 81, 82, 83, 84, 85, 86, 87, 88, 89, 90, 91, 92, 93, 94, 95, 96, 97, 98, 99, 100, 101, 102, 103, 104, 105, 106, 107, 108, 109, 110, 111, 112, 113, 114, 115, 116, 117, 118, 119, 120, 121, 122, 123, 124, 125, 126, 127, 128, 129, 130, 131, 132, 133]
abbrev a31l2F (s2 s3 s4 s8 s11 : AV) : List AV := [.any, .any, s2, s3, s4, .any, .any, .any, s8, .any, .any, s11, .any, .any, .any, .any, .any, .any, .any, .any, .any, .any, .any, .any, .any, .any, .any, .any, .any, .any, .any, .any, .any, .any, .any, .any, .any, .any, .any, .any, .any, .any, .any, .any, .any, .any, .any, .any, .any, .any, .any, .any, .any, .any, .any, .any, .any, .any, .any, .any, .any, .any, .any, .any, .any, .any, .any, .any, .any, .any, .any, .any, .any, .any, .any, .any, .any, .any, .any, .any, .any, .any, .any, .any, .any, .any, .any, .any, .any, .any, .any, .any, .any, .any, .any, .any, .any, .any, .any, .any, .any, .any, .any, .any, .any, .any, .any, .any, .any, .any, .any, .any, .any, .any, .any, .any, .any, .any, .any, .any, .any, .any, .any, .any, .any, .any, .any, .any, .any, .any, .any, .any, .any, .any]
theorem a31l2c (s0 s1 s2 s3 s4 s5 s6 s7 s8 s9 s10 s11 s12 s13 s14 s15 s16 s17 s18 s19 s20 s21 s22 s23 s24 s25 s26 s27 s28 s29 s30 s31 s32 s33 s34 s35 s36 s37 s38 s39 s40 s41 s42 s43 s44 s45 s46 s47 s48 s49 s50 s51 s52 s53 s54 s55 s56 s57 s58 s59 s60 s61 s62 s63 s64 s65 s66 s67 s68 s69 s70 s71 s72 s73 s74 s75 s76 s77 s78 s79 s80 s81 s82 s83 s84 s85 s86 s87 s88 s89 s90 s91 s92 s93 s94 s95 s96 s97 s98 s99 s100 s101 s102 s103 s104 s105 s106 s107 s108 s109 s110 s111 s112 s113 s114 s115 s116 s117 s118 s119 s120 s121 s122 s123 s124 s125 s126 s127 s128 s129 s130 s131 s132 s133 : AV) : clearA a31l2s [s0, s1, s2, s3, s4, s5, s6, s7, s8, s9, s10, s11, s12, s13, s14, s15, s16, s17, s18, s19, s20, s21, s22, s23, s24, s25, s26, s27, s28, s29, s30, s31, s32, s33, s34, s35, s36, s37, s38, s39, s40, s41, s42, s43, s44, s45, s46, s47, s48, s49, s50, s51, s52, s53, s54, s55, s56, s57, s58, s59, s60, s61, s62, s63, s64, s65, s66, s67, s68, s69, s70, s71, s72, s73, s74, s75, s76, s77, s78, s79, s80, s81, s82, s83, s84, s85, s86, s87, s88, s89, s90, s91, s92, s93, s94, s95, s96, s97, s98, s99, s100, s101, s102, s103, s104, s105, s106, s107, s108, s109, s110, s111, s112, s113, s114, s115, s116, s117, s118, s119, s120, s121, s122, s123, s124, s125, s126, s127, s128, s129, s130, s131, s132, s133] = a31l2F s2 s3 s4 s8 s11 := by kernel_rfl
theorem a31l2n {prog : Nat → Option AFunc} (s2 s3 s4 s8 s11 : AV) (H : Heap) : (lim prog).loop a31l2s a31l2 ⟨a31l2F s2 s3 s4 s8 s11, H⟩ = loopK (lim prog) a31l2s a31l2 (run (lim prog) a31l2b ⟨a31l2F s2 s3 s4 s8 s11, H⟩) := lim_loop_step _ _ _ _ (by kernel_rfl)

/-- sentinel/sentinelref18.Union -/
def a31 : AFunc := ⟨134,
  .seq (.region [⟨some 2, .box (.t 0), none⟩,
     ⟨some 3, .box (.t 1), none⟩,
     ⟨some 4, .box (.c (.agg [.int Go.IntKind.i64 0, .int Go.IntKind.i64 0, .sl true 0 [], .sl true 0 [], .sl true 0 []])), none⟩,
     ⟨some 5, .mov (.c (.int Go.IntKind.i64 0)), none⟩])
  (.seq (.seq (.region [⟨some 13, .load true 5 (.t 2), none⟩,
       ⟨some 14, .call 15 [(.t 13)], none⟩,
       ⟨some 6, .mov (.t 14), none⟩])
    (.seq (.region [⟨some 15, .mov (.t 6), none⟩,
        ⟨some 16, .bin .neq (.t 15) (.c (.int Go.IntKind.i64 0)), none⟩])
     (.cond (.t 16)
      (.seq (.region [⟨some 17, .build [.int Go.IntKind.i64 0, .int Go.IntKind.i64 0, .sl true 0 [], .sl true 0 [], .sl true 0 []] [], none⟩,
          ⟨some 18, .mov (.t 6), none⟩,
          ⟨none, .store 5 (.t 4) (.t 17), none⟩,
          ⟨some 5, .mov (.t 18), none⟩])
       (.ret))
      (.skip))))
   (.seq (.seq (.region [⟨some 19, .load true 5 (.t 3), none⟩,
        ⟨some 20, .call 15 [(.t 19)], none⟩,
        ⟨some 7, .mov (.t 20), none⟩])
     (.seq (.region [⟨some 21, .mov (.t 7), none⟩,
         ⟨some 22, .bin .neq (.t 21) (.c (.int Go.IntKind.i64 0)), none⟩])
      (.cond (.t 22)
       (.seq (.region [⟨some 23, .build [.int Go.IntKind.i64 0, .int Go.IntKind.i64 0, .sl true 0 [], .sl true 0 [], .sl true 0 []] [], none⟩,
           ⟨some 24, .mov (.t 7), none⟩,
           ⟨none, .store 5 (.t 4) (.t 23), none⟩,
           ⟨some 5, .mov (.t 24), none⟩])
        (.ret))
       (.skip))))
    (.seq (.seq (.region [⟨some 25, .faddr 0 (.t 2), none⟩,
         ⟨some 26, .load false 1 (.t 25), none⟩,
         ⟨some 27, .faddr 0 (.t 3), none⟩,
         ⟨some 28, .load false 1 (.t 27), none⟩,
         ⟨some 29, .bin .neq (.t 26) (.t 28), none⟩])
      (.cond (.t 29)
       (.seq (.region [⟨some 30, .build [.int Go.IntKind.i64 0, .int Go.IntKind.i64 0, .sl true 0 [], .sl true 0 [], .sl true 0 []] [], none⟩,
           ⟨none, .store 5 (.t 4) (.t 30), none⟩,
           ⟨some 5, .mov (.c (.int Go.IntKind.i64 7)), none⟩])
        (.ret))
       (.skip)))
     (.seq (.seq (.region [⟨some 31, .faddr 1 (.t 2), none⟩,
          ⟨some 32, .load false 1 (.t 31), none⟩,
          ⟨some 33, .faddr 1 (.t 3), none⟩,
          ⟨some 34, .load false 1 (.t 33), none⟩,
          ⟨some 35, .bin .add (.t 32) (.t 34), none⟩,
          ⟨some 36, .bin .gtr (.t 35) (.c (.int Go.IntKind.i64 64)), none⟩,
          ⟨some 37, .mov (.t 36), none⟩,
          ⟨some 38, .faddr 4 (.t 2), some (37, false)⟩,
          ⟨some 39, .load false 1 (.t 38), some (37, false)⟩,
          ⟨some 40, .len (.t 39), some (37, false)⟩,
          ⟨some 41, .faddr 4 (.t 3), some (37, false)⟩,
          ⟨some 42, .load false 1 (.t 41), some (37, false)⟩,
          ⟨some 43, .len (.t 42), some (37, false)⟩,
          ⟨some 44, .bin .add (.t 40) (.t 43), some (37, false)⟩,
          ⟨some 45, .bin .gtr (.t 44) (.c (.int Go.IntKind.i64 512)), some (37, false)⟩,
          ⟨some 46, .pick (.t 37) (.c (.bool true)) (.t 45), none⟩])
       (.cond (.t 46)
        (.seq (.region [⟨some 47, .build [.int Go.IntKind.i64 0, .int Go.IntKind.i64 0, .sl true 0 [], .sl true 0 [], .sl true 0 []] [], none⟩,
            ⟨none, .store 5 (.t 4) (.t 47), none⟩,
            ⟨some 5, .mov (.c (.int Go.IntKind.i64 4)), none⟩])
         (.ret))
        (.skip)))
      (.seq (.region [⟨some 48, .load true 5 (.t 2), none⟩,
          ⟨some 49, .ocall 33 [(.t 48)], none⟩,
          ⟨some 8, .box (.c (.agg [.int Go.IntKind.i64 0, .int Go.IntKind.i64 0, .sl true 0 [], .sl true 0 [], .sl true 0 []])), none⟩,
          ⟨none, .store 5 (.t 8) (.t 49), none⟩])
       (.seq (.region [⟨some 50, .faddr 1 (.t 2), none⟩,
           ⟨some 51, .load false 1 (.t 50), none⟩,
           ⟨some 52, .faddr 1 (.t 3), none⟩,
           ⟨some 53, .load false 1 (.t 52), none⟩,
           ⟨some 54, .bin .add (.t 51) (.t 53), none⟩,
           ⟨some 55, .faddr 1 (.t 8), none⟩,
           ⟨none, .store 1 (.t 55) (.t 54), none⟩])
        (.seq (.seq (.region [⟨some 9, .mov (.c (.int Go.IntKind.i64 0)), none⟩])
          (.block 0 (.loop a31l0s a31l0)))
         (.seq (.seq (.region [⟨some 10, .mov (.c (.int Go.IntKind.i64 0)), none⟩])
           (.block 2 (.loop a31l1s a31l1)))
          (.seq (.seq (.region [⟨some 11, .mov (.c (.int Go.IntKind.i64 0)), none⟩])
            (.block 4 (.loop a31l2s a31l2)))
           (.seq (.region [⟨some 133, .load true 5 (.t 8), none⟩,
               ⟨none, .store 5 (.t 4) (.t 133), none⟩,
               ⟨some 5, .mov (.c (.int Go.IntKind.i64 0)), none⟩])
            (.ret))))))))))),
  [.cell 4 true 5, .tmp 5]⟩

/-- sentinel/sentinellaw18.example -/
def a32 : AFunc := ⟨9,
  .seq (.region [⟨some 0, .box (.c (.agg [.int Go.IntKind.i64 0, .int Go.IntKind.i64 0, .sl true 0 [], .sl true 0 [], .sl true 0 []])), none⟩])
  (.seq (.region [⟨some 1, .bslice false [.int Go.IntKind.i64 0] 1 1 [(0, (.c (.int Go.IntKind.i64 0)))], none⟩,
      ⟨some 2, .bslice false [.int Go.IntKind.i64 0] 1 1 [(0, (.c (.int Go.IntKind.i64 1)))], none⟩,
      ⟨some 3, .build [.int Go.IntKind.i64 0, .int Go.IntKind.i64 0, .int Go.IntKind.i64 0, .int Go.IntKind.u8 0, .int Go.IntKind.u8 0] [(2, 1, (.c (.int Go.IntKind.i64 1))), (3, 1, (.c (.int Go.IntKind.u8 1)))], none⟩,
      ⟨some 4, .build [.int Go.IntKind.i64 0, .int Go.IntKind.i64 0, .int Go.IntKind.i64 0, .int Go.IntKind.u8 0, .int Go.IntKind.u8 0] [(0, 1, (.c (.int Go.IntKind.i64 1))), (2, 1, (.c (.int Go.IntKind.i64 1)))], none⟩,
      ⟨some 5, .build [.int Go.IntKind.i64 0, .int Go.IntKind.i64 0, .int Go.IntKind.i64 0, .int Go.IntKind.u8 0, .int Go.IntKind.u8 0] [(1, 1, (.c (.int Go.IntKind.i64 1))), (2, 1, (.c (.int Go.IntKind.i64 1)))], none⟩,
      ⟨some 6, .build [.int Go.IntKind.i64 0, .int Go.IntKind.i64 0, .int Go.IntKind.i64 0, .int Go.IntKind.u8 0, .int Go.IntKind.u8 0] [], none⟩,
      ⟨some 7, .bslice false [.int Go.IntKind.i64 0, .int Go.IntKind.i64 0, .int Go.IntKind.i64 0, .int Go.IntKind.u8 0, .int Go.IntKind.u8 0] 5 4 [(0, (.t 3)), (1, (.t 4)), (2, (.t 5)), (3, (.t 6))], none⟩,
      ⟨some 8, .build [.int Go.IntKind.i64 0, .int Go.IntKind.i64 0, .sl true 0 [], .sl true 0 [], .sl true 0 []] [(0, 1, (.c (.int Go.IntKind.i64 2))), (1, 1, (.c (.int Go.IntKind.i64 2))), (2, 1, (.t 1)), (3, 1, (.t 2)), (4, 1, (.t 7))], none⟩,
      ⟨none, .store 5 (.t 0) (.t 8), none⟩])
   (.ret)),
  [.cell 0 true 5]⟩

/-- sentinel/sentinelkit.CopyTreeNFA -/
def a33 : AFunc := ⟨17,
  .seq (.region [⟨some 1, .box (.t 0), none⟩,
     ⟨some 2, .box (.c (.agg [.int Go.IntKind.i64 0, .int Go.IntKind.i64 0, .sl true 0 [], .sl true 0 [], .sl true 0 []])), none⟩])
  (.seq (.drawp [] [] 13 [⟨some 3, .faddr 0 (.t 1), none⟩,
      ⟨some 4, .load false 1 (.t 3), none⟩,
      ⟨some 5, .faddr 1 (.t 1), none⟩,
      ⟨some 6, .load false 1 (.t 5), none⟩,
      ⟨some 7, .faddr 2 (.t 1), none⟩,
      ⟨some 8, .load false 1 (.t 7), none⟩,
      ⟨some 9, .ocall 69 [(.t 8)], none⟩,
      ⟨some 10, .faddr 3 (.t 1), none⟩,
      ⟨some 11, .load false 1 (.t 10), none⟩,
      ⟨some 12, .ocall 69 [(.t 11)], none⟩,
      ⟨some 13, .faddr 4 (.t 1), none⟩,
      ⟨some 14, .load false 1 (.t 13), none⟩,
      ⟨some 15, .ocall 70 [(.t 14)], none⟩,
      ⟨some 16, .build [.int Go.IntKind.i64 0, .int Go.IntKind.i64 0, .sl true 0 [], .sl true 0 [], .sl true 0 []] [(0, 1, (.t 4)), (1, 1, (.t 6)), (2, 1, (.t 9)), (3, 1, (.t 12)), (4, 1, (.t 15))], none⟩,
      ⟨none, .store 5 (.t 2) (.t 16), none⟩])
   (.ret)),
  [.cell 2 true 5]⟩

def a36l0b : ACode :=
  .seq (.region [⟨some 8, .bin .lss (.t 7) (.t 6), none⟩])
  (.seq (.cond (.t 8)
    (.skip)
    (.exit 0))
   (.seq (.block 1 (.seq (.region [⟨some 9, .iaddr 1 (.t 5) (.t 7), none⟩,
         ⟨some 10, .load false 1 (.t 9), none⟩,
         ⟨some 4, .mov (.t 10), none⟩])
      (.region [⟨some 11, .mov (.t 2), none⟩,
         ⟨some 12, .mov (.t 4), none⟩,
         ⟨some 13, .call 72 [(.t 11), (.t 12)], none⟩,
         ⟨some 2, .mov (.t 13), none⟩])))
    (.region [⟨some 14, .bin .add (.t 7) (.c (.int Go.IntKind.i64 1)), none⟩,
       ⟨some 7, .mov (.t 14), none⟩])))

def a36l0 : ACode := a36l0b
def a36l0s : List Nat := [0, 1, 3, 4, 8, 9, 10, 11, 12, 13, 14, 15]
abbrev a36l0F (s2 s5 s6 s7 : AV) : List AV := [.any, .any, s2, .any, .any, s5, s6, s7, .any, .any, .any, .any, .any, .any, .any, .any]
theorem a36l0c (s0 s1 s2 s3 s4 s5 s6 s7 s8 s9 s10 s11 s12 s13 s14 s15 : AV) : clearA a36l0s [s0, s1, s2, s3, s4, s5, s6, s7, s8, s9, s10, s11, s12, s13, s14, s15] = a36l0F s2 s5 s6 s7 := by kernel_rfl
theorem a36l0n {prog : Nat → Option AFunc} (s2 s5 s6 s7 : AV) (H : Heap) : (lim prog).loop a36l0s a36l0 ⟨a36l0F s2 s5 s6 s7, H⟩ = loopK (lim prog) a36l0s a36l0 (run (lim prog) a36l0b ⟨a36l0F s2 s5 s6 s7, H⟩) := lim_loop_step _ _ _ _ (by kernel_rfl)

/-- sentinel/bitset.Of -/
def a36 : AFunc := ⟨16,
  .seq (.region [⟨some 2, .mov (.c (.sl true 0 [])), none⟩])
  (.seq (.seq (.region [⟨some 5, .mov (.t 0), none⟩,
       ⟨some 6, .len (.t 5), none⟩,
       ⟨some 7, .mov (.c (.int Go.IntKind.i64 0)), none⟩])
    (.block 0 (.loop a36l0s a36l0)))
   (.seq (.region [⟨some 15, .mov (.t 2), none⟩,
       ⟨some 2, .mov (.t 15), none⟩])
    (.ret))),
  [.tmp 2]⟩

/-- sentinel/bitset.Equal -/
def a42 : AFunc := ⟨10,
  .seq (.region [⟨some 4, .mov (.c (.bool false)), none⟩])
  (.seq (.region [⟨some 5, .mov (.t 0), none⟩,
      ⟨some 6, .call 73 [(.t 5)], none⟩,
      ⟨some 7, .mov (.t 1), none⟩,
      ⟨some 8, .call 73 [(.t 7)], none⟩,
      ⟨some 9, .call 79 [(.t 6), (.t 8)], none⟩,
      ⟨some 4, .mov (.t 9), none⟩])
   (.ret)),
  [.tmp 4]⟩

def a44l0b : ACode :=
  .seq (.region [⟨some 11, .bin .lss (.t 10) (.t 9), none⟩])
  (.seq (.cond (.t 11)
    (.skip)
    (.exit 0))
   (.seq (.block 1 (.seq (.region [⟨some 12, .iaddr 1 (.t 8) (.t 10), none⟩,
         ⟨some 13, .load false 1 (.t 12), none⟩,
         ⟨some 7, .mov (.t 13), none⟩])
      (.seq (.seq (.region [⟨some 14, .mov (.t 7), none⟩,
           ⟨some 15, .mov (.t 5), none⟩,
           ⟨some 16, .bin .leq (.t 14) (.t 15), none⟩,
           ⟨some 17, .mov (.t 16), none⟩,
           ⟨some 18, .mov (.t 7), some (17, false)⟩,
           ⟨some 19, .mov (.t 1), some (17, false)⟩,
           ⟨some 20, .bin .geq (.t 18) (.t 19), some (17, false)⟩,
           ⟨some 21, .pick (.t 17) (.c (.bool true)) (.t 20), none⟩])
        (.cond (.t 21)
         (.seq (.region [⟨some 4, .mov (.c (.int Go.IntKind.i64 8)), none⟩])
          (.ret))
         (.skip)))
       (.region [⟨some 22, .mov (.t 7), none⟩,
          ⟨some 5, .mov (.t 22), none⟩]))))
    (.region [⟨some 23, .bin .add (.t 10) (.c (.int Go.IntKind.i64 1)), none⟩,
       ⟨some 10, .mov (.t 23), none⟩])))

def a44l0 : ACode := a44l0b
def a44l0s : List Nat := [0, 2, 3, 6, 7, 11, 12, 13, 14, 15, 16, 17, 18, 19, 20, 21, 22, 23]
abbrev a44l0F (s1 s4 s5 s8 s9 s10 : AV) : List AV := [.any, s1, .any, .any, s4, s5, .any, .any, s8, s9, s10, .any, .any, .any, .any, .any, .any, .any, .any, .any, .any, .any, .any, .any]
theorem a44l0c (s0 s1 s2 s3 s4 s5 s6 s7 s8 s9 s10 s11 s12 s13 s14 s15 s16 s17 s18 s19 s20 s21 s22 s23 : AV) : clearA a44l0s [s0, s1, s2, s3, s4, s5, s6, s7, s8, s9, s10, s11, s12, s13, s14, s15, s16, s17, s18, s19, s20, s21, s22, s23] = a44l0F s1 s4 s5 s8 s9 s10 := by kernel_rfl
theorem a44l0n {prog : Nat → Option AFunc} (s1 s4 s5 s8 s9 s10 : AV) (H : Heap) : (lim prog).loop a44l0s a44l0 ⟨a44l0F s1 s4 s5 s8 s9 s10, H⟩ = loopK (lim prog) a44l0s a44l0 (run (lim prog) a44l0b ⟨a44l0F s1 s4 s5 s8 s9 s10, H⟩) := lim_loop_step _ _ _ _ (by kernel_rfl)

/-- sentinel/treeaut.check -/
def a44 : AFunc := ⟨24,
  .seq (.region [⟨some 4, .mov (.c (.int Go.IntKind.i64 0)), none⟩])
  (.seq (.region [⟨some 5, .mov (.c (.int Go.IntKind.i64 (-1))), none⟩])
   (.seq (.seq (.region [⟨some 8, .mov (.t 0), none⟩,
        ⟨some 9, .len (.t 8), none⟩,
        ⟨some 10, .mov (.c (.int Go.IntKind.i64 0)), none⟩])
     (.block 0 (.loop a44l0s a44l0)))
    (.seq (.region [⟨some 4, .mov (.c (.int Go.IntKind.i64 0)), none⟩])
     (.ret)))),
  [.tmp 4]⟩

/-- sentinel/cube.Check -/
def a45 : AFunc := ⟨28,
  .seq (.region [⟨some 2, .box (.t 0), none⟩,
     ⟨some 4, .mov (.c (.int Go.IntKind.i64 0)), none⟩])
  (.seq (.block 0 (.seq (.seq (.region [⟨some 6, .mov (.t 1), none⟩,
         ⟨some 7, .bin .lss (.t 6) (.c (.int Go.IntKind.i64 0)), none⟩,
         ⟨some 8, .mov (.t 7), none⟩,
         ⟨some 9, .mov (.t 1), some (8, false)⟩,
         ⟨some 10, .bin .gtr (.t 9) (.c (.int Go.IntKind.i64 6)), some (8, false)⟩,
         ⟨some 11, .pick (.t 8) (.c (.bool true)) (.t 10), none⟩,
         ⟨some 5, .mov (.t 11), none⟩])
      (.cond (.t 5)
       (.skip)
       (.draw 6 [⟨some 12, .faddr 0 (.t 2), none⟩,
          ⟨some 13, .load false 1 (.t 12), none⟩,
          ⟨some 14, .faddr 1 (.t 2), none⟩,
          ⟨some 15, .load false 1 (.t 14), none⟩,
          ⟨some 16, .bin .or (.t 13) (.t 15), none⟩,
          ⟨some 17, .conv Go.IntKind.i64 (.t 16), none⟩,
          ⟨some 18, .mov (.t 1), none⟩,
          ⟨some 19, .bin .shl (.c (.int Go.IntKind.i64 1)) (.t 18), none⟩,
          ⟨some 20, .bin .geq (.t 17) (.t 19), none⟩,
          ⟨some 5, .mov (.t 20), none⟩])))
     (.cond (.t 5)
      (.seq (.region [⟨some 4, .mov (.c (.int Go.IntKind.i64 7)), none⟩])
       (.ret))
      (.seq (.region [⟨some 22, .faddr 0 (.t 2), none⟩,
          ⟨some 23, .load false 1 (.t 22), none⟩,
          ⟨some 24, .faddr 1 (.t 2), none⟩,
          ⟨some 25, .load false 1 (.t 24), none⟩,
          ⟨some 26, .bin .and (.t 23) (.t 25), none⟩,
          ⟨some 27, .bin .neq (.t 26) (.c (.int Go.IntKind.u8 0)), none⟩,
          ⟨some 21, .mov (.t 27), none⟩])
       (.cond (.t 21)
        (.seq (.region [⟨some 4, .mov (.c (.int Go.IntKind.i64 2)), none⟩])
         (.ret))
        (.skip))))))
   (.seq (.region [⟨some 4, .mov (.c (.int Go.IntKind.i64 0)), none⟩])
    (.ret))),
  [.tmp 4]⟩

def a46l0b : ACode :=
  .seq (.seq (.region [⟨some 6, .mov (.t 5), none⟩,
      ⟨some 7, .mov (.t 0), none⟩,
      ⟨some 8, .len (.t 7), none⟩,
      ⟨some 9, .bin .lss (.t 6) (.t 8), none⟩])
   (.cond (.t 9)
    (.skip)
    (.exit 0)))
  (.seq (.block 1 (.seq (.draw 26 [⟨some 12, .mov (.t 0), none⟩,
        ⟨some 13, .mov (.t 5), none⟩,
        ⟨some 14, .iaddr 1 (.t 12) (.t 13), none⟩,
        ⟨some 15, .load false 1 (.t 14), none⟩,
        ⟨some 16, .bin .lss (.t 15) (.c (.int Go.IntKind.i64 0)), none⟩,
        ⟨some 17, .mov (.t 16), none⟩,
        ⟨some 18, .mov (.t 0), some (17, false)⟩,
        ⟨some 19, .mov (.t 5), some (17, false)⟩,
        ⟨some 20, .iaddr 1 (.t 18) (.t 19), some (17, false)⟩,
        ⟨some 21, .load false 1 (.t 20), some (17, false)⟩,
        ⟨some 22, .mov (.t 1), some (17, false)⟩,
        ⟨some 23, .bin .geq (.t 21) (.t 22), some (17, false)⟩,
        ⟨some 24, .pick (.t 17) (.c (.bool true)) (.t 23), none⟩,
        ⟨some 25, .mov (.t 24), none⟩,
        ⟨some 26, .mov (.t 5), some (25, false)⟩,
        ⟨some 27, .bin .gtr (.t 26) (.c (.int Go.IntKind.i64 0)), some (25, false)⟩,
        ⟨some 28, .mov (.t 27), some (25, false)⟩,
        ⟨some 29, .mov (.t 0), some (28, true)⟩,
        ⟨some 30, .mov (.t 5), some (28, true)⟩,
        ⟨some 31, .iaddr 1 (.t 29) (.t 30), some (28, true)⟩,
        ⟨some 32, .load false 1 (.t 31), some (28, true)⟩,
        ⟨some 33, .mov (.t 0), some (28, true)⟩,
        ⟨some 34, .mov (.t 5), some (28, true)⟩,
        ⟨some 35, .bin .sub (.t 34) (.c (.int Go.IntKind.i64 1)), some (28, true)⟩,
        ⟨some 36, .iaddr 1 (.t 33) (.t 35), some (28, true)⟩,
        ⟨some 37, .load false 1 (.t 36), some (28, true)⟩,
        ⟨some 38, .bin .leq (.t 32) (.t 37), some (28, true)⟩,
        ⟨some 39, .pick (.t 28) (.t 38) (.c (.bool false)), some (25, false)⟩,
        ⟨some 40, .pick (.t 25) (.c (.bool true)) (.t 39), none⟩])
     (.cond (.t 40)
      (.seq (.region [⟨some 4, .mov (.c (.int Go.IntKind.i64 8)), none⟩])
       (.ret))
      (.skip))))
   (.region [⟨some 10, .mov (.t 5), none⟩,
      ⟨some 11, .bin .add (.t 10) (.c (.int Go.IntKind.i64 1)), none⟩,
      ⟨some 5, .mov (.t 11), none⟩]))

def a46l0 : ACode := a46l0b
def a46l0s : List Nat := [2, 3, 6, 7, 8, 9, 10, 11, 12, 13, 14, 15, 16, 17, 18, 19, 20, 21, 22, 23, 24, 25, 26, 27, 28, 29, 30, 31, 32, 33, 34, 35, 36, 37, 38, 39, 40]
abbrev a46l0F (s0 s1 s4 s5 : AV) : List AV := [s0, s1, .any, .any, s4, s5, .any, .any, .any, .any, .any, .any, .any, .any, .any, .any, .any, .any, .any, .any, .any, .any, .any, .any, .any, .any, .any, .any, .any, .any, .any, .any, .any, .any, .any, .any, .any, .any, .any, .any, .any]
theorem a46l0c (s0 s1 s2 s3 s4 s5 s6 s7 s8 s9 s10 s11 s12 s13 s14 s15 s16 s17 s18 s19 s20 s21 s22 s23 s24 s25 s26 s27 s28 s29 s30 s31 s32 s33 s34 s35 s36 s37 s38 s39 s40 : AV) : clearA a46l0s [s0, s1, s2, s3, s4, s5, s6, s7, s8, s9, s10, s11, s12, s13, s14, s15, s16, s17, s18, s19, s20, s21, s22, s23, s24, s25, s26, s27, s28, s29, s30, s31, s32, s33, s34, s35, s36, s37, s38, s39, s40] = a46l0F s0 s1 s4 s5 := by kernel_rfl
theorem a46l0n {prog : Nat → Option AFunc} (s0 s1 s4 s5 : AV) (H : Heap) : (lim prog).loop a46l0s a46l0 ⟨a46l0F s0 s1 s4 s5, H⟩ = loopK (lim prog) a46l0s a46l0 (run (lim prog) a46l0b ⟨a46l0F s0 s1 s4 s5, H⟩) := lim_loop_step _ _ _ _ (by kernel_rfl)

/-- sentinel/sentinelref18.list -/
def a46 : AFunc := ⟨41,
  .seq (.region [⟨some 4, .mov (.c (.int Go.IntKind.i64 0)), none⟩])
  (.seq (.seq (.region [⟨some 5, .mov (.c (.int Go.IntKind.i64 0)), none⟩])
    (.block 0 (.loop a46l0s a46l0)))
   (.seq (.region [⟨some 4, .mov (.c (.int Go.IntKind.i64 0)), none⟩])
    (.ret))),
  [.tmp 4]⟩

/-- sentinel/treeaut.both -/
def a47 : AFunc := ⟨15,
  .seq (.region [⟨some 2, .box (.t 0), none⟩,
     ⟨some 4, .mov (.c (.int Go.IntKind.i64 0)), none⟩])
  (.seq (.seq (.region [⟨some 6, .load true 5 (.t 2), none⟩,
       ⟨some 7, .call 14 [(.t 6)], none⟩,
       ⟨some 5, .mov (.t 7), none⟩])
    (.seq (.region [⟨some 8, .mov (.t 5), none⟩,
        ⟨some 9, .bin .neq (.t 8) (.c (.int Go.IntKind.i64 0)), none⟩])
     (.cond (.t 9)
      (.seq (.region [⟨some 10, .mov (.t 5), none⟩,
          ⟨some 4, .mov (.t 10), none⟩])
       (.ret))
      (.skip))))
   (.seq (.region [⟨some 11, .mov (.t 1), none⟩,
       ⟨some 12, .faddr 0 (.t 2), none⟩,
       ⟨some 13, .load false 1 (.t 12), none⟩,
       ⟨some 14, .call 81 [(.t 11), (.t 13)], none⟩,
       ⟨some 4, .mov (.t 14), none⟩])
    (.ret))),
  [.tmp 4]⟩

/-- sentinel/treeaut.set -/
def a48 : AFunc := ⟨6,
  .seq (.region [⟨some 2, .mov (.c (.sl true 0 [])), none⟩])
  (.seq (.region [⟨some 3, .mov (.t 0), none⟩,
      ⟨some 4, .bslice true [.int Go.IntKind.u64 0] 1 1 [(0, (.t 3))], none⟩,
      ⟨some 5, .call 73 [(.t 4)], none⟩,
      ⟨some 2, .mov (.t 5), none⟩])
   (.ret)),
  [.tmp 2]⟩

def a49l0b : ACode :=
  .seq (.region [⟨some 41, .bin .lss (.t 40) (.t 39), none⟩])
  (.seq (.cond (.t 41)
    (.skip)
    (.exit 2))
   (.seq (.block 3 (.seq (.region [⟨some 42, .iaddr 5 (.t 38) (.t 40), none⟩,
         ⟨some 43, .load true 5 (.t 42), none⟩,
         ⟨some 14, .box (.c (.agg [.int Go.IntKind.i64 0, .int Go.IntKind.i64 0, .int Go.IntKind.i64 0, .int Go.IntKind.u8 0, .int Go.IntKind.u8 0])), none⟩,
         ⟨none, .store 5 (.t 14) (.t 43), none⟩])
      (.seq (.region [⟨some 44, .mov (.t 10), none⟩,
          ⟨some 45, .faddr 0 (.t 14), none⟩,
          ⟨some 46, .load false 1 (.t 45), none⟩,
          ⟨some 47, .bin .shr (.t 44) (.t 46), none⟩,
          ⟨some 48, .bin .and (.t 47) (.c (.int Go.IntKind.u64 1)), none⟩,
          ⟨some 49, .bin .neq (.t 48) (.c (.int Go.IntKind.u64 0)), none⟩,
          ⟨some 50, .mov (.t 49), none⟩,
          ⟨some 51, .mov (.t 11), some (50, true)⟩,
          ⟨some 52, .faddr 1 (.t 14), some (50, true)⟩,
          ⟨some 53, .load false 1 (.t 52), some (50, true)⟩,
          ⟨some 54, .bin .shr (.t 51) (.t 53), some (50, true)⟩,
          ⟨some 55, .bin .and (.t 54) (.c (.int Go.IntKind.u64 1)), some (50, true)⟩,
          ⟨some 56, .bin .neq (.t 55) (.c (.int Go.IntKind.u64 0)), some (50, true)⟩,
          ⟨some 57, .pick (.t 50) (.t 56) (.c (.bool false)), none⟩,
          ⟨some 58, .mov (.t 57), none⟩,
          ⟨some 59, .faddr 3 (.t 14), some (58, true)⟩,
          ⟨some 60, .load false 1 (.t 59), some (58, true)⟩,
          ⟨some 61, .faddr 4 (.t 14), some (58, true)⟩,
          ⟨some 62, .load false 1 (.t 61), some (58, true)⟩,
          ⟨some 63, .build [.int Go.IntKind.u8 0, .int Go.IntKind.u8 0] [(0, 1, (.t 60)), (1, 1, (.t 62))], some (58, true)⟩,
          ⟨some 64, .faddr 0 (.t 9), some (58, true)⟩,
          ⟨some 65, .load false 1 (.t 64), some (58, true)⟩,
          ⟨some 66, .call 83 [(.t 63), (.t 65)], some (58, true)⟩,
          ⟨some 67, .pick (.t 58) (.t 66) (.c (.bool false)), none⟩])
       (.cond (.t 67)
        (.region [⟨some 68, .mov (.t 12), none⟩,
           ⟨some 69, .faddr 2 (.t 14), none⟩,
           ⟨some 70, .load false 1 (.t 69), none⟩,
           ⟨some 71, .bin .shl (.c (.int Go.IntKind.u64 1)) (.t 70), none⟩,
           ⟨some 72, .bin .or (.t 68) (.t 71), none⟩,
           ⟨some 12, .mov (.t 72), none⟩])
        (.skip)))))
    (.region [⟨some 73, .bin .add (.t 40) (.c (.int Go.IntKind.i64 1)), none⟩,
       ⟨some 40, .mov (.t 73), none⟩])))

def a49l0 : ACode := a49l0b
def a49l0s : List Nat := [0, 3, 4, 13, 14, 15, 16, 17, 18, 19, 20, 21, 22, 23, 24, 25, 26, 27, 28, 29, 30, 31, 32, 33, 34, 35, 36, 37, 41, 42, 43, 44, 45, 46, 47, 48, 49, 50, 51, 52, 53, 54, 55, 56, 57, 58, 59, 60, 61, 62, 63, 64, 65, 66, 67, 68, 69, 70, 71, 72, 73, 74, 75, 76, 77, 78, 79, 80, 81, 82, 83, 84, 85, 86]
abbrev a49l0F (s1 s2 s5 s6 s7 s8 s9 s10 s11 s12 s38 s39 s40 : AV) : List AV := [.any, s1, s2, .any, .any, s5, s6, s7, s8, s9, s10, s11, s12, .any, .any, .any, .any, .any, .any, .any, .any, .any, .any, .any, .any, .any, .any, .any, .any, .any, .any, .any, .any, .any, .any, .any, .any, .any, s38, s39, s40, .any, .any, .any, .any, .any, .any, .any, .any, .any, .any, .any, .any, .any, .any, .any, .any, .any, .any, .any, .any, .any, .any, .any, .any, .any, .any, .any, .any, .any, .any, .any, .any, .any, .any, .any, .any, .any, .any, .any, .any, .any, .any, .any, .any, .any, .any]
theorem a49l0c (s0 s1 s2 s3 s4 s5 s6 s7 s8 s9 s10 s11 s12 s13 s14 s15 s16 s17 s18 s19 s20 s21 s22 s23 s24 s25 s26 s27 s28 s29 s30 s31 s32 s33 s34 s35 s36 s37 s38 s39 s40 s41 s42 s43 s44 s45 s46 s47 s48 s49 s50 s51 s52 s53 s54 s55 s56 s57 s58 s59 s60 s61 s62 s63 s64 s65 s66 s67 s68 s69 s70 s71 s72 s73 s74 s75 s76 s77 s78 s79 s80 s81 s82 s83 s84 s85 s86 : AV) : clearA a49l0s [s0, s1, s2, s3, s4, s5, s6, s7, s8, s9, s10, s11, s12, s13, s14, s15, s16, s17, s18, s19, s20, s21, s22, s23, s24, s25, s26, s27, s28, s29, s30, s31, s32, s33, s34, s35, s36, s37, s38, s39, s40, s41, s42, s43, s44, s45, s46, s47, s48, s49, s50, s51, s52, s53, s54, s55, s56, s57, s58, s59, s60, s61, s62, s63, s64, s65, s66, s67, s68, s69, s70, s71, s72, s73, s74, s75, s76, s77, s78, s79, s80, s81, s82, s83, s84, s85, s86] = a49l0F s1 s2 s5 s6 s7 s8 s9 s10 s11 s12 s38 s39 s40 := by kernel_rfl
theorem a49l0n {prog : Nat → Option AFunc} (s1 s2 s5 s6 s7 s8 s9 s10 s11 s12 s38 s39 s40 : AV) (H : Heap) : (lim prog).loop a49l0s a49l0 ⟨a49l0F s1 s2 s5 s6 s7 s8 s9 s10 s11 s12 s38 s39 s40, H⟩ = loopK (lim prog) a49l0s a49l0 (run (lim prog) a49l0b ⟨a49l0F s1 s2 s5 s6 s7 s8 s9 s10 s11 s12 s38 s39 s40, H⟩) := lim_loop_step _ _ _ _ (by kernel_rfl)

def a49l1b : ACode :=
  .seq (.seq (.region [⟨some 21, .mov (.t 7), none⟩,
      ⟨some 22, .bin .gtr (.t 21) (.c (.int Go.IntKind.i64 0)), none⟩])
   (.cond (.t 22)
    (.skip)
    (.exit 0)))
  (.block 1 (.seq (.region [⟨some 23, .mov (.t 7), none⟩,
       ⟨some 24, .bin .sub (.t 23) (.c (.int Go.IntKind.i64 1)), none⟩,
       ⟨some 7, .mov (.t 24), none⟩])
    (.seq (.region [⟨some 25, .mov (.t 1), none⟩,
        ⟨some 26, .mov (.t 7), none⟩,
        ⟨some 27, .iaddr 3 (.t 25) (.t 26), none⟩,
        ⟨some 28, .load true 3 (.t 27), none⟩,
        ⟨some 9, .box (.c (.agg [.int Go.IntKind.u8 0, .int Go.IntKind.i64 0, .int Go.IntKind.i64 0])), none⟩,
        ⟨none, .store 3 (.t 9) (.t 28), none⟩])
     (.seq (.region [⟨some 29, .mov (.t 8), none⟩,
         ⟨some 30, .faddr 1 (.t 9), none⟩,
         ⟨some 31, .load false 1 (.t 30), none⟩,
         ⟨some 32, .icall (.t 29) [(.t 31)], none⟩,
         ⟨some 10, .mov (.t 32), none⟩])
      (.seq (.region [⟨some 33, .mov (.t 8), none⟩,
          ⟨some 34, .faddr 2 (.t 9), none⟩,
          ⟨some 35, .load false 1 (.t 34), none⟩,
          ⟨some 36, .icall (.t 33) [(.t 35)], none⟩,
          ⟨some 11, .mov (.t 36), none⟩])
       (.seq (.region [⟨some 12, .mov (.c (.int Go.IntKind.u64 0)), none⟩])
        (.seq (.seq (.region [⟨some 37, .faddr 4 (.t 2), none⟩,
             ⟨some 38, .load false 1 (.t 37), none⟩,
             ⟨some 39, .len (.t 38), none⟩,
             ⟨some 40, .mov (.c (.int Go.IntKind.i64 0)), none⟩])
          (.block 2 (.loop a49l0s a49l0)))
         (.seq (.region [⟨some 74, .load false 1 (.t 6), none⟩,
             ⟨some 75, .mov (.t 12), none⟩,
             ⟨some 76, .bslice true [.int Go.IntKind.u64 0] 1 1 [(0, (.t 75))], none⟩,
             ⟨some 77, .append false 1 8 (.t 74) (.t 76), none⟩,
             ⟨none, .store 1 (.t 6) (.t 77), none⟩])
          (.seq (.region [⟨some 78, .mov (.t 7), none⟩,
              ⟨some 79, .bin .eql (.t 78) (.c (.int Go.IntKind.i64 0)), none⟩])
           (.cond (.t 79)
            (.exit 0)
            (.skip)))))))))))

def a49l1 : ACode := a49l1b
def a49l1s : List Nat := [0, 3, 4, 9, 10, 11, 12, 13, 14, 15, 16, 17, 18, 19, 20, 21, 22, 23, 24, 25, 26, 27, 28, 29, 30, 31, 32, 33, 34, 35, 36, 37, 38, 39, 40, 41, 42, 43, 44, 45, 46, 47, 48, 49, 50, 51, 52, 53, 54, 55, 56, 57, 58, 59, 60, 61, 62, 63, 64, 65, 66, 67, 68, 69, 70, 71, 72, 73, 74, 75, 76, 77, 78, 79, 80, 81, 82, 83, 84, 85, 86]
abbrev a49l1F (s1 s2 s5 s6 s7 s8 : AV) : List AV := [.any, s1, s2, .any, .any, s5, s6, s7, s8, .any, .any, .any, .any, .any, .any, .any, .any, .any, .any, .any, .any, .any, .any, .any, .any, .any, .any, .any, .any, .any, .any, .any, .any, .any, .any, .any, .any, .any, .any, .any, .any, .any, .any, .any, .any, .any, .any, .any, .any, .any, .any, .any, .any, .any, .any, .any, .any, .any, .any, .any, .any, .any, .any, .any, .any, .any, .any, .any, .any, .any, .any, .any, .any, .any, .any, .any, .any, .any, .any, .any, .any, .any, .any, .any, .any, .any, .any]
theorem a49l1c (s0 s1 s2 s3 s4 s5 s6 s7 s8 s9 s10 s11 s12 s13 s14 s15 s16 s17 s18 s19 s20 s21 s22 s23 s24 s25 s26 s27 s28 s29 s30 s31 s32 s33 s34 s35 s36 s37 s38 s39 s40 s41 s42 s43 s44 s45 s46 s47 s48 s49 s50 s51 s52 s53 s54 s55 s56 s57 s58 s59 s60 s61 s62 s63 s64 s65 s66 s67 s68 s69 s70 s71 s72 s73 s74 s75 s76 s77 s78 s79 s80 s81 s82 s83 s84 s85 s86 : AV) : clearA a49l1s [s0, s1, s2, s3, s4, s5, s6, s7, s8, s9, s10, s11, s12, s13, s14, s15, s16, s17, s18, s19, s20, s21, s22, s23, s24, s25, s26, s27, s28, s29, s30, s31, s32, s33, s34, s35, s36, s37, s38, s39, s40, s41, s42, s43, s44, s45, s46, s47, s48, s49, s50, s51, s52, s53, s54, s55, s56, s57, s58, s59, s60, s61, s62, s63, s64, s65, s66, s67, s68, s69, s70, s71, s72, s73, s74, s75, s76, s77, s78, s79, s80, s81, s82, s83, s84, s85, s86] = a49l1F s1 s2 s5 s6 s7 s8 := by kernel_rfl
theorem a49l1n {prog : Nat → Option AFunc} (s1 s2 s5 s6 s7 s8 : AV) (H : Heap) : (lim prog).loop a49l1s a49l1 ⟨a49l1F s1 s2 s5 s6 s7 s8, H⟩ = loopK (lim prog) a49l1s a49l1 (run (lim prog) a49l1b ⟨a49l1F s1 s2 s5 s6 s7 s8, H⟩) := lim_loop_step _ _ _ _ (by kernel_rfl)

/-- sentinel/treeaut.states -/
def a49 : AFunc := ⟨87,
  .seq (.region [⟨some 2, .box (.t 0), none⟩,
     ⟨some 4, .mov (.c (.int Go.IntKind.u64 0)), none⟩])
  (.scope (.seq (.region [⟨some 15, .faddr 2 (.t 2), none⟩,
       ⟨some 16, .load false 1 (.t 15), none⟩,
       ⟨some 17, .call 54 [(.t 16)], none⟩,
       ⟨some 5, .box (.c (.int Go.IntKind.u64 0)), none⟩,
       ⟨none, .store 1 (.t 5) (.t 17), none⟩])
    (.seq (.region [⟨some 6, .box (.c (.sl true 0 [])), none⟩])
     (.seq (.region [⟨some 18, .mov (.t 1), none⟩,
         ⟨some 19, .len (.t 18), none⟩,
         ⟨some 7, .mov (.t 19), none⟩])
      (.seq (.region [⟨some 20, .mkfunc 82 [(.t 5), (.t 6)], none⟩,
          ⟨some 8, .mov (.t 20), none⟩])
       (.seq (.label)
        (.seq (.block 0 (.loop a49l1s a49l1))
         (.seq (.seq (.region [⟨some 80, .mov (.t 1), none⟩,
              ⟨some 81, .len (.t 80), none⟩,
              ⟨some 82, .bin .eql (.t 81) (.c (.int Go.IntKind.i64 0)), none⟩])
           (.cond (.t 82)
            (.seq (.region [⟨some 83, .load false 1 (.t 5), none⟩,
                ⟨some 4, .mov (.t 83), none⟩])
             (.ret))
            (.skip)))
          (.seq (.region [⟨some 84, .load false 1 (.t 6), none⟩,
              ⟨some 85, .iaddr 1 (.t 84) (.c (.int Go.IntKind.i64 0)), none⟩,
              ⟨some 86, .load false 1 (.t 85), none⟩,
              ⟨some 4, .mov (.t 86), none⟩])
           (.ret)))))))))),
  [.tmp 4]⟩

def a54l0b : ACode :=
  .seq (.region [⟨some 8, .bin .lss (.t 7) (.t 6), none⟩])
  (.seq (.cond (.t 8)
    (.skip)
    (.exit 0))
   (.seq (.block 1 (.seq (.region [⟨some 9, .iaddr 1 (.t 5) (.t 7), none⟩,
         ⟨some 10, .load false 1 (.t 9), none⟩,
         ⟨some 4, .mov (.t 10), none⟩])
      (.region [⟨some 11, .mov (.t 2), none⟩,
         ⟨some 12, .mov (.t 4), none⟩,
         ⟨some 13, .bin .shl (.c (.int Go.IntKind.u64 1)) (.t 12), none⟩,
         ⟨some 14, .bin .or (.t 11) (.t 13), none⟩,
         ⟨some 2, .mov (.t 14), none⟩])))
    (.region [⟨some 15, .bin .add (.t 7) (.c (.int Go.IntKind.i64 1)), none⟩,
       ⟨some 7, .mov (.t 15), none⟩])))

def a54l0 : ACode := a54l0b
def a54l0s : List Nat := [0, 1, 3, 4, 8, 9, 10, 11, 12, 13, 14, 15, 16]
abbrev a54l0F (s2 s5 s6 s7 : AV) : List AV := [.any, .any, s2, .any, .any, s5, s6, s7, .any, .any, .any, .any, .any, .any, .any, .any, .any]
theorem a54l0c (s0 s1 s2 s3 s4 s5 s6 s7 s8 s9 s10 s11 s12 s13 s14 s15 s16 : AV) : clearA a54l0s [s0, s1, s2, s3, s4, s5, s6, s7, s8, s9, s10, s11, s12, s13, s14, s15, s16] = a54l0F s2 s5 s6 s7 := by kernel_rfl
theorem a54l0n {prog : Nat → Option AFunc} (s2 s5 s6 s7 : AV) (H : Heap) : (lim prog).loop a54l0s a54l0 ⟨a54l0F s2 s5 s6 s7, H⟩ = loopK (lim prog) a54l0s a54l0 (run (lim prog) a54l0b ⟨a54l0F s2 s5 s6 s7, H⟩) := lim_loop_step _ _ _ _ (by kernel_rfl)

/-- sentinel/treeaut.word -/
def a54 : AFunc := ⟨17,
  .seq (.region [⟨some 2, .mov (.c (.int Go.IntKind.u64 0)), none⟩])
  (.seq (.seq (.region [⟨some 5, .mov (.t 0), none⟩,
       ⟨some 6, .len (.t 5), none⟩,
       ⟨some 7, .mov (.c (.int Go.IntKind.i64 0)), none⟩])
    (.block 0 (.loop a54l0s a54l0)))
   (.seq (.region [⟨some 16, .mov (.t 2), none⟩,
       ⟨some 2, .mov (.t 16), none⟩])
    (.ret))),
  [.tmp 2]⟩

/-- sentinel/treeaut.reachable -/
def a55 : AFunc := ⟨8,
  .seq (.region [⟨some 1, .box (.t 0), none⟩,
     ⟨some 2, .mov (.c (.int Go.IntKind.u64 0)), none⟩])
  (.seq (.region [⟨some 3, .faddr 2 (.t 1), none⟩,
      ⟨some 4, .load false 1 (.t 3), none⟩,
      ⟨some 5, .call 54 [(.t 4)], none⟩,
      ⟨some 6, .mkfunc 87 [(.t 1)], none⟩,
      ⟨some 7, .icall (.c (.func 86 [])) [(.t 5), (.t 6)], none⟩,
      ⟨some 2, .mov (.t 7), none⟩])
   (.ret)),
  [.tmp 2]⟩

/-- sentinel/treeaut.useful -/
def a57 : AFunc := ⟨13,
  .seq (.region [⟨some 1, .box (.t 0), none⟩,
     ⟨some 2, .mov (.c (.int Go.IntKind.u64 0)), none⟩])
  (.seq (.region [⟨some 4, .load true 5 (.t 1), none⟩,
      ⟨some 5, .call 55 [(.t 4)], none⟩,
      ⟨some 3, .box (.c (.int Go.IntKind.u64 0)), none⟩,
      ⟨none, .store 1 (.t 3) (.t 5), none⟩])
   (.seq (.draw 6 [⟨some 6, .faddr 3 (.t 1), none⟩,
       ⟨some 7, .load false 1 (.t 6), none⟩,
       ⟨some 8, .call 54 [(.t 7)], none⟩,
       ⟨some 9, .load false 1 (.t 3), none⟩,
       ⟨some 10, .bin .and (.t 8) (.t 9), none⟩,
       ⟨some 11, .mkfunc 88 [(.t 1), (.t 3)], none⟩,
       ⟨some 12, .icall (.c (.func 86 [])) [(.t 10), (.t 11)], none⟩,
       ⟨some 2, .mov (.t 12), none⟩])
    (.ret))),
  [.tmp 2]⟩

def a58l0b : ACode :=
  .seq (.region [⟨some 25, .bin .lss (.t 24) (.t 23), none⟩])
  (.seq (.cond (.t 25)
    (.skip)
    (.exit 0))
   (.seq (.block 1 (.seq (.region [⟨some 26, .iaddr 5 (.t 22) (.t 24), none⟩,
         ⟨some 27, .load true 5 (.t 26), none⟩,
         ⟨some 8, .box (.c (.agg [.int Go.IntKind.i64 0, .int Go.IntKind.i64 0, .int Go.IntKind.i64 0, .int Go.IntKind.u8 0, .int Go.IntKind.u8 0])), none⟩,
         ⟨none, .store 5 (.t 8) (.t 27), none⟩])
      (.seq (.drawl [(3, (1, (43, 1))), (36, (1, (43, 1))), (3, (1, (43, 1))), (41, (1, (43, 1))), (3, (1, (44, 1))), (41, (1, (44, 1)))] 15 [⟨some 28, .load false 1 (.t 3), none⟩,
          ⟨some 29, .faddr 0 (.t 8), none⟩,
          ⟨some 30, .load false 1 (.t 29), none⟩,
          ⟨some 31, .iaddr 1 (.t 28) (.t 30), none⟩,
          ⟨some 32, .load false 1 (.t 31), none⟩,
          ⟨some 33, .load false 1 (.t 3), none⟩,
          ⟨some 34, .faddr 1 (.t 8), none⟩,
          ⟨some 35, .load false 1 (.t 34), none⟩,
          ⟨some 36, .iaddr 1 (.t 33) (.t 35), none⟩,
          ⟨some 37, .load false 1 (.t 36), none⟩,
          ⟨some 38, .load false 1 (.t 3), none⟩,
          ⟨some 39, .faddr 2 (.t 8), none⟩,
          ⟨some 40, .load false 1 (.t 39), none⟩,
          ⟨some 41, .iaddr 1 (.t 38) (.t 40), none⟩,
          ⟨some 42, .load false 1 (.t 41), none⟩,
          ⟨some 43, .faddr 0 (.t 8), none⟩,
          ⟨none, .store 1 (.t 43) (.t 32), none⟩,
          ⟨some 44, .faddr 1 (.t 8), none⟩,
          ⟨none, .store 1 (.t 44) (.t 37), none⟩,
          ⟨some 45, .faddr 2 (.t 8), none⟩,
          ⟨none, .store 1 (.t 45) (.t 42), none⟩])
       (.seq (.region [⟨some 46, .faddr 0 (.t 8), none⟩,
           ⟨some 47, .load false 1 (.t 46), none⟩,
           ⟨some 48, .faddr 1 (.t 8), none⟩,
           ⟨some 49, .load false 1 (.t 48), none⟩,
           ⟨some 50, .faddr 2 (.t 8), none⟩,
           ⟨some 51, .load false 1 (.t 50), none⟩,
           ⟨some 52, .mm false [(.t 47), (.t 49), (.t 51)], none⟩,
           ⟨some 53, .bin .geq (.t 52) (.c (.int Go.IntKind.i64 0)), none⟩])
        (.cond (.t 53)
         (.region [⟨some 54, .faddr 4 (.t 6), none⟩,
            ⟨some 55, .load false 1 (.t 54), none⟩,
            ⟨some 56, .load true 5 (.t 8), none⟩,
            ⟨some 57, .bslice true [.int Go.IntKind.i64 0, .int Go.IntKind.i64 0, .int Go.IntKind.i64 0, .int Go.IntKind.u8 0, .int Go.IntKind.u8 0] 5 1 [(0, (.t 56))], none⟩,
            ⟨some 58, .append false 5 32 (.t 55) (.t 57), none⟩,
            ⟨some 59, .faddr 4 (.t 6), none⟩,
            ⟨none, .store 1 (.t 59) (.t 58), none⟩])
         (.skip))))))
    (.region [⟨some 60, .bin .add (.t 24) (.c (.int Go.IntKind.i64 1)), none⟩,
       ⟨some 24, .mov (.t 60), none⟩])))

def a58l0 : ACode := a58l0b
def a58l0s : List Nat := [0, 1, 2, 5, 7, 8, 9, 10, 11, 12, 13, 14, 15, 16, 17, 18, 19, 20, 21, 25, 26, 27, 28, 29, 30, 31, 32, 33, 34, 35, 36, 37, 38, 39, 40, 41, 42, 43, 44, 45, 46, 47, 48, 49, 50, 51, 52, 53, 54, 55, 56, 57, 58, 59, 60, 61]
abbrev a58l0F (s3 s4 s6 s22 s23 s24 : AV) : List AV := [.any, .any, .any, s3, s4, .any, s6, .any, .any, .any, .any, .any, .any, .any, .any, .any, .any, .any, .any, .any, .any, .any, s22, s23, s24, .any, .any, .any, .any, .any, .any, .any, .any, .any, .any, .any, .any, .any, .any, .any, .any, .any, .any, .any, .any, .any, .any, .any, .any, .any, .any, .any, .any, .any, .any, .any, .any, .any, .any, .any, .any, .any]
theorem a58l0c (s0 s1 s2 s3 s4 s5 s6 s7 s8 s9 s10 s11 s12 s13 s14 s15 s16 s17 s18 s19 s20 s21 s22 s23 s24 s25 s26 s27 s28 s29 s30 s31 s32 s33 s34 s35 s36 s37 s38 s39 s40 s41 s42 s43 s44 s45 s46 s47 s48 s49 s50 s51 s52 s53 s54 s55 s56 s57 s58 s59 s60 s61 : AV) : clearA a58l0s [s0, s1, s2, s3, s4, s5, s6, s7, s8, s9, s10, s11, s12, s13, s14, s15, s16, s17, s18, s19, s20, s21, s22, s23, s24, s25, s26, s27, s28, s29, s30, s31, s32, s33, s34, s35, s36, s37, s38, s39, s40, s41, s42, s43, s44, s45, s46, s47, s48, s49, s50, s51, s52, s53, s54, s55, s56, s57, s58, s59, s60, s61] = a58l0F s3 s4 s6 s22 s23 s24 := by kernel_rfl
theorem a58l0n {prog : Nat → Option AFunc} (s3 s4 s6 s22 s23 s24 : AV) (H : Heap) : (lim prog).loop a58l0s a58l0 ⟨a58l0F s3 s4 s6 s22 s23 s24, H⟩ = loopK (lim prog) a58l0s a58l0 (run (lim prog) a58l0b ⟨a58l0F s3 s4 s6 s22 s23 s24, H⟩) := lim_loop_step _ _ _ _ (by kernel_rfl)

/-- sentinel/treeaut.mapped -/
def a58 : AFunc := ⟨62,
  .seq (.region [⟨some 2, .box (.t 0), none⟩,
     ⟨some 3, .box (.t 1), none⟩,
     ⟨some 4, .box (.c (.agg [.int Go.IntKind.i64 0, .int Go.IntKind.i64 0, .sl true 0 [], .sl true 0 [], .sl true 0 []])), none⟩])
  (.seq (.region [⟨some 9, .mkfunc 89 [(.t 3)], none⟩,
      ⟨some 5, .mov (.t 9), none⟩])
   (.seq (.fz [3] (.draw 12 [⟨some 10, .faddr 0 (.t 2), none⟩,
        ⟨some 11, .load false 1 (.t 10), none⟩,
        ⟨some 12, .mov (.t 5), none⟩,
        ⟨some 13, .faddr 2 (.t 2), none⟩,
        ⟨some 14, .load false 1 (.t 13), none⟩,
        ⟨some 15, .fcall (.t 12) [(.t 14)], none⟩,
        ⟨some 16, .mov (.t 5), none⟩,
        ⟨some 17, .faddr 3 (.t 2), none⟩,
        ⟨some 18, .load false 1 (.t 17), none⟩,
        ⟨some 19, .fcall (.t 16) [(.t 18)], none⟩,
        ⟨some 20, .build [.int Go.IntKind.i64 0, .int Go.IntKind.i64 0, .sl true 0 [], .sl true 0 [], .sl true 0 []] [(0, 1, (.t 11)), (2, 1, (.t 15)), (3, 1, (.t 19))], none⟩,
        ⟨some 6, .box (.c (.agg [.int Go.IntKind.i64 0, .int Go.IntKind.i64 0, .sl true 0 [], .sl true 0 [], .sl true 0 []])), none⟩,
        ⟨none, .store 5 (.t 6) (.t 20), none⟩]))
    (.seq (.seq (.region [⟨some 21, .faddr 4 (.t 2), none⟩,
         ⟨some 22, .load false 1 (.t 21), none⟩,
         ⟨some 23, .len (.t 22), none⟩,
         ⟨some 24, .mov (.c (.int Go.IntKind.i64 0)), none⟩])
      (.block 0 (.loop a58l0s a58l0)))
     (.seq (.region [⟨some 61, .load true 5 (.t 6), none⟩,
         ⟨none, .store 5 (.t 4) (.t 61), none⟩])
      (.ret))))),
  [.cell 4 true 5]⟩

def a60l0b : ACode :=
  .seq (.seq (.region [⟨some 11, .mov (.t 5), none⟩,
      ⟨some 12, .mov (.t 0), none⟩,
      ⟨some 13, .len (.t 12), none⟩,
      ⟨some 14, .bin .lss (.t 11) (.t 13), none⟩])
   (.cond (.t 14)
    (.skip)
    (.exit 0)))
  (.seq (.block 1 (.seq (.draw 5 [⟨some 17, .mov (.t 0), none⟩,
        ⟨some 18, .mov (.t 5), none⟩,
        ⟨some 19, .iaddr 1 (.t 17) (.t 18), none⟩,
        ⟨some 20, .load false 1 (.t 19), none⟩,
        ⟨some 21, .mov (.t 1), none⟩,
        ⟨some 22, .mov (.t 5), none⟩,
        ⟨some 23, .iaddr 1 (.t 21) (.t 22), none⟩,
        ⟨some 24, .load false 1 (.t 23), none⟩,
        ⟨some 25, .bin .neq (.t 20) (.t 24), none⟩])
     (.cond (.t 25)
      (.seq (.region [⟨some 4, .mov (.c (.bool false)), none⟩])
       (.ret))
      (.skip))))
   (.region [⟨some 15, .mov (.t 5), none⟩,
      ⟨some 16, .bin .add (.t 15) (.c (.int Go.IntKind.i64 1)), none⟩,
      ⟨some 5, .mov (.t 16), none⟩]))

def a60l0 : ACode := a60l0b
def a60l0s : List Nat := [2, 3, 6, 7, 8, 9, 10, 11, 12, 13, 14, 15, 16, 17, 18, 19, 20, 21, 22, 23, 24, 25]
abbrev a60l0F (s0 s1 s4 s5 : AV) : List AV := [s0, s1, .any, .any, s4, s5, .any, .any, .any, .any, .any, .any, .any, .any, .any, .any, .any, .any, .any, .any, .any, .any, .any, .any, .any, .any]
theorem a60l0c (s0 s1 s2 s3 s4 s5 s6 s7 s8 s9 s10 s11 s12 s13 s14 s15 s16 s17 s18 s19 s20 s21 s22 s23 s24 s25 : AV) : clearA a60l0s [s0, s1, s2, s3, s4, s5, s6, s7, s8, s9, s10, s11, s12, s13, s14, s15, s16, s17, s18, s19, s20, s21, s22, s23, s24, s25] = a60l0F s0 s1 s4 s5 := by kernel_rfl
theorem a60l0n {prog : Nat → Option AFunc} (s0 s1 s4 s5 : AV) (H : Heap) : (lim prog).loop a60l0s a60l0 ⟨a60l0F s0 s1 s4 s5, H⟩ = loopK (lim prog) a60l0s a60l0 (run (lim prog) a60l0b ⟨a60l0F s0 s1 s4 s5, H⟩) := lim_loop_step _ _ _ _ (by kernel_rfl)

/-- sentinel/sentinelkit.EqualInts -/
def a60 : AFunc := ⟨26,
  .seq (.region [⟨some 4, .mov (.c (.bool false)), none⟩])
  (.seq (.seq (.region [⟨some 6, .mov (.t 0), none⟩,
       ⟨some 7, .len (.t 6), none⟩,
       ⟨some 8, .mov (.t 1), none⟩,
       ⟨some 9, .len (.t 8), none⟩,
       ⟨some 10, .bin .neq (.t 7) (.t 9), none⟩])
    (.cond (.t 10)
     (.seq (.region [⟨some 4, .mov (.c (.bool false)), none⟩])
      (.ret))
     (.skip)))
   (.seq (.seq (.region [⟨some 5, .mov (.c (.int Go.IntKind.i64 0)), none⟩])
     (.block 0 (.loop a60l0s a60l0)))
    (.seq (.region [⟨some 4, .mov (.c (.bool true)), none⟩])
     (.ret)))),
  [.tmp 4]⟩

def a61l0b : ACode :=
  .seq (.seq (.region [⟨some 11, .mov (.t 5), none⟩,
      ⟨some 12, .mov (.t 0), none⟩,
      ⟨some 13, .len (.t 12), none⟩,
      ⟨some 14, .bin .lss (.t 11) (.t 13), none⟩])
   (.cond (.t 14)
    (.skip)
    (.exit 0)))
  (.seq (.block 1 (.seq (.draw 5 [⟨some 17, .mov (.t 0), none⟩,
        ⟨some 18, .mov (.t 5), none⟩,
        ⟨some 19, .iaddr 5 (.t 17) (.t 18), none⟩,
        ⟨some 20, .load true 5 (.t 19), none⟩,
        ⟨some 21, .mov (.t 1), none⟩,
        ⟨some 22, .mov (.t 5), none⟩,
        ⟨some 23, .iaddr 5 (.t 21) (.t 22), none⟩,
        ⟨some 24, .load true 5 (.t 23), none⟩,
        ⟨some 25, .aeq true 5 (.t 20) (.t 24), none⟩])
     (.cond (.t 25)
      (.seq (.region [⟨some 4, .mov (.c (.bool false)), none⟩])
       (.ret))
      (.skip))))
   (.region [⟨some 15, .mov (.t 5), none⟩,
      ⟨some 16, .bin .add (.t 15) (.c (.int Go.IntKind.i64 1)), none⟩,
      ⟨some 5, .mov (.t 16), none⟩]))

def a61l0 : ACode := a61l0b
def a61l0s : List Nat := [2, 3, 6, 7, 8, 9, 10, 11, 12, 13, 14, 15, 16, 17, 18, 19, 20, 21, 22, 23, 24, 25]
abbrev a61l0F (s0 s1 s4 s5 : AV) : List AV := [s0, s1, .any, .any, s4, s5, .any, .any, .any, .any, .any, .any, .any, .any, .any, .any, .any, .any, .any, .any, .any, .any, .any, .any, .any, .any]
theorem a61l0c (s0 s1 s2 s3 s4 s5 s6 s7 s8 s9 s10 s11 s12 s13 s14 s15 s16 s17 s18 s19 s20 s21 s22 s23 s24 s25 : AV) : clearA a61l0s [s0, s1, s2, s3, s4, s5, s6, s7, s8, s9, s10, s11, s12, s13, s14, s15, s16, s17, s18, s19, s20, s21, s22, s23, s24, s25] = a61l0F s0 s1 s4 s5 := by kernel_rfl
theorem a61l0n {prog : Nat → Option AFunc} (s0 s1 s4 s5 : AV) (H : Heap) : (lim prog).loop a61l0s a61l0 ⟨a61l0F s0 s1 s4 s5, H⟩ = loopK (lim prog) a61l0s a61l0 (run (lim prog) a61l0b ⟨a61l0F s0 s1 s4 s5, H⟩) := lim_loop_step _ _ _ _ (by kernel_rfl)

/-- sentinel/sentinelkit.EqualRules -/
def a61 : AFunc := ⟨26,
  .seq (.region [⟨some 4, .mov (.c (.bool false)), none⟩])
  (.seq (.seq (.region [⟨some 6, .mov (.t 0), none⟩,
       ⟨some 7, .len (.t 6), none⟩,
       ⟨some 8, .mov (.t 1), none⟩,
       ⟨some 9, .len (.t 8), none⟩,
       ⟨some 10, .bin .neq (.t 7) (.t 9), none⟩])
    (.cond (.t 10)
     (.seq (.region [⟨some 4, .mov (.c (.bool false)), none⟩])
      (.ret))
     (.skip)))
   (.seq (.seq (.region [⟨some 5, .mov (.c (.int Go.IntKind.i64 0)), none⟩])
     (.block 0 (.loop a61l0s a61l0)))
    (.seq (.region [⟨some 4, .mov (.c (.bool true)), none⟩])
     (.ret)))),
  [.tmp 4]⟩

def a62l0b : ACode :=
  .seq (.seq (.region [⟨some 3, .mov (.t 2), none⟩,
      ⟨some 4, .mov (.t 0), none⟩,
      ⟨some 5, .len (.t 4), none⟩,
      ⟨some 6, .bin .lss (.t 3) (.t 5), none⟩])
   (.cond (.t 6)
    (.skip)
    (.exit 0)))
  (.seq (.block 1 (.region [⟨some 9, .mov (.t 0), none⟩,
       ⟨some 10, .mov (.t 2), none⟩,
       ⟨some 11, .iaddr 1 (.t 9) (.t 10), none⟩,
       ⟨none, .store 1 (.t 11) (.c (.int Go.IntKind.i64 (-77))), none⟩]))
   (.region [⟨some 7, .mov (.t 2), none⟩,
      ⟨some 8, .bin .add (.t 7) (.c (.int Go.IntKind.i64 1)), none⟩,
      ⟨some 2, .mov (.t 8), none⟩]))

def a62l0 : ACode := a62l0b
def a62l0s : List Nat := [1, 3, 4, 5, 6, 7, 8, 9, 10, 11]
abbrev a62l0F (s0 s2 : AV) : List AV := [s0, .any, s2, .any, .any, .any, .any, .any, .any, .any, .any, .any]
theorem a62l0c (s0 s1 s2 s3 s4 s5 s6 s7 s8 s9 s10 s11 : AV) : clearA a62l0s [s0, s1, s2, s3, s4, s5, s6, s7, s8, s9, s10, s11] = a62l0F s0 s2 := by kernel_rfl
theorem a62l0n {prog : Nat → Option AFunc} (s0 s2 : AV) (H : Heap) : (lim prog).loop a62l0s a62l0 ⟨a62l0F s0 s2, H⟩ = loopK (lim prog) a62l0s a62l0 (run (lim prog) a62l0b ⟨a62l0F s0 s2, H⟩) := lim_loop_step _ _ _ _ (by kernel_rfl)

/-- sentinel/sentinelkit.OverInts -/
def a62 : AFunc := ⟨12,
  .seq (.region [⟨some 2, .mov (.c (.int Go.IntKind.i64 0)), none⟩])
  (.block 0 (.loop a62l0s a62l0)),
  []⟩

def a63l0b : ACode :=
  .seq (.seq (.region [⟨some 3, .mov (.t 2), none⟩,
      ⟨some 4, .mov (.t 0), none⟩,
      ⟨some 5, .len (.t 4), none⟩,
      ⟨some 6, .bin .lss (.t 3) (.t 5), none⟩])
   (.cond (.t 6)
    (.skip)
    (.exit 0)))
  (.seq (.block 1 (.region [⟨some 9, .mov (.t 0), none⟩,
       ⟨some 10, .mov (.t 2), none⟩,
       ⟨some 11, .build [.int Go.IntKind.i64 0, .int Go.IntKind.i64 0, .int Go.IntKind.i64 0, .int Go.IntKind.u8 0, .int Go.IntKind.u8 0] [(2, 1, (.c (.int Go.IntKind.i64 (-7))))], none⟩,
       ⟨some 12, .iaddr 5 (.t 9) (.t 10), none⟩,
       ⟨none, .store 5 (.t 12) (.t 11), none⟩]))
   (.region [⟨some 7, .mov (.t 2), none⟩,
      ⟨some 8, .bin .add (.t 7) (.c (.int Go.IntKind.i64 1)), none⟩,
      ⟨some 2, .mov (.t 8), none⟩]))

def a63l0 : ACode := a63l0b
def a63l0s : List Nat := [1, 3, 4, 5, 6, 7, 8, 9, 10, 11, 12]
abbrev a63l0F (s0 s2 : AV) : List AV := [s0, .any, s2, .any, .any, .any, .any, .any, .any, .any, .any, .any, .any]
theorem a63l0c (s0 s1 s2 s3 s4 s5 s6 s7 s8 s9 s10 s11 s12 : AV) : clearA a63l0s [s0, s1, s2, s3, s4, s5, s6, s7, s8, s9, s10, s11, s12] = a63l0F s0 s2 := by kernel_rfl
theorem a63l0n {prog : Nat → Option AFunc} (s0 s2 : AV) (H : Heap) : (lim prog).loop a63l0s a63l0 ⟨a63l0F s0 s2, H⟩ = loopK (lim prog) a63l0s a63l0 (run (lim prog) a63l0b ⟨a63l0F s0 s2, H⟩) := lim_loop_step _ _ _ _ (by kernel_rfl)

/-- sentinel/sentinelkit.OverRules -/
def a63 : AFunc := ⟨13,
  .seq (.region [⟨some 2, .mov (.c (.int Go.IntKind.i64 0)), none⟩])
  (.block 0 (.loop a63l0s a63l0)),
  []⟩

/-- sentinel/sentinellaw18.has -/
def a64 : AFunc := ⟨24,
  .seq (.region [⟨some 3, .box (.t 0), none⟩,
     ⟨some 6, .mov (.c (.bool false)), none⟩])
  (.seq (.draw 7 [⟨some 10, .load true 5 (.t 3), none⟩,
      ⟨some 11, .mov (.t 1), none⟩,
      ⟨some 12, .call 66 [(.t 11)], none⟩,
      ⟨some 13, .call 16 [(.t 10), (.t 12)], none⟩,
      ⟨some 9, .mov (.t 13), none⟩,
      ⟨some 14, .ext 0 (.t 9), none⟩,
      ⟨some 15, .ext 1 (.t 9), none⟩,
      ⟨some 7, .mov (.t 14), none⟩,
      ⟨some 8, .mov (.t 15), none⟩])
   (.seq (.region [⟨some 16, .mov (.t 7), none⟩,
       ⟨some 17, .mov (.t 2), none⟩,
       ⟨some 18, .call 36 [(.t 17)], none⟩,
       ⟨some 19, .call 42 [(.t 16), (.t 18)], none⟩,
       ⟨some 20, .mov (.t 19), none⟩,
       ⟨some 21, .mov (.t 8), some (20, true)⟩,
       ⟨some 22, .bin .eql (.t 21) (.c (.int Go.IntKind.i64 0)), some (20, true)⟩,
       ⟨some 23, .pick (.t 20) (.t 22) (.c (.bool false)), none⟩,
       ⟨some 6, .mov (.t 23), none⟩])
    (.ret))),
  [.tmp 6]⟩

/-- sentinel/sentinellaw18.accepts -/
def a65 : AFunc := ⟨22,
  .seq (.region [⟨some 3, .box (.t 0), none⟩,
     ⟨some 6, .mov (.c (.bool false)), none⟩])
  (.seq (.region [⟨some 10, .load true 5 (.t 3), none⟩,
      ⟨some 11, .mov (.t 1), none⟩,
      ⟨some 12, .call 18 [(.t 10), (.t 11)], none⟩,
      ⟨some 9, .mov (.t 12), none⟩,
      ⟨some 13, .ext 0 (.t 9), none⟩,
      ⟨some 14, .ext 1 (.t 9), none⟩,
      ⟨some 7, .mov (.t 13), none⟩,
      ⟨some 8, .mov (.t 14), none⟩])
   (.seq (.region [⟨some 15, .mov (.t 7), none⟩,
       ⟨some 16, .mov (.t 2), none⟩,
       ⟨some 17, .beq false (.t 15) (.t 16), none⟩,
       ⟨some 18, .mov (.t 17), none⟩,
       ⟨some 19, .mov (.t 8), some (18, true)⟩,
       ⟨some 20, .bin .eql (.t 19) (.c (.int Go.IntKind.i64 0)), some (18, true)⟩,
       ⟨some 21, .pick (.t 18) (.t 20) (.c (.bool false)), none⟩,
       ⟨some 6, .mov (.t 21), none⟩])
    (.ret))),
  [.tmp 6]⟩

/-- sentinel/sentinellaw18.parsed -/
def a66 : AFunc := ⟨13,
  .seq (.region [⟨some 2, .mov (.c (.sl true 0 [])), none⟩])
  (.seq (.region [⟨some 7, .mov (.t 0), none⟩,
      ⟨some 8, .call 90 [(.t 7)], none⟩,
      ⟨some 6, .mov (.t 8), none⟩,
      ⟨some 9, .ext 0 (.t 6), none⟩,
      ⟨some 10, .ext 1 (.t 6), none⟩,
      ⟨some 11, .ext 2 (.t 6), none⟩,
      ⟨some 3, .mov (.t 9), none⟩,
      ⟨some 4, .mov (.t 10), none⟩,
      ⟨some 5, .mov (.t 11), none⟩])
   (.seq (.region [⟨some 12, .mov (.t 3), none⟩,
       ⟨some 2, .mov (.t 12), none⟩])
    (.ret))),
  [.tmp 2]⟩

def a67l0b : ACode :=
  .seq (.region [⟨some 12, .bin .lss (.t 11) (.t 10), none⟩])
  (.seq (.cond (.t 12)
    (.skip)
    (.exit 0))
   (.seq (.block 1 (.seq (.region [⟨some 13, .iaddr 1 (.t 9) (.t 11), none⟩,
         ⟨some 14, .load false 1 (.t 13), none⟩,
         ⟨some 5, .mov (.t 14), none⟩])
      (.seq (.region [⟨some 15, .mov (.t 3), none⟩,
          ⟨some 16, .mov (.t 5), none⟩,
          ⟨some 17, .len (.t 16), none⟩,
          ⟨some 18, .bin .add (.t 15) (.t 17), none⟩,
          ⟨some 3, .mov (.t 18), none⟩])
       (.seq (.region [⟨some 19, .mov (.t 3), none⟩,
           ⟨some 20, .bin .lss (.t 19) (.c (.int Go.IntKind.i64 0)), none⟩])
        (.cond (.t 20)
         (.stuck)
         (.skip))))))
    (.region [⟨some 22, .bin .add (.t 11) (.c (.int Go.IntKind.i64 1)), none⟩,
       ⟨some 11, .mov (.t 22), none⟩])))

def a67l0 : ACode := a67l0b
def a67l0s : List Nat := [1, 2, 4, 5, 6, 7, 8, 12, 13, 14, 15, 16, 17, 18, 19, 20, 21, 22, 23, 24, 25, 26, 27, 28, 29, 30, 31, 32, 33, 34, 35]
abbrev a67l0F (s0 s3 s9 s10 s11 : AV) : List AV := [s0, .any, .any, s3, .any, .any, .any, .any, .any, s9, s10, s11, .any, .any, .any, .any, .any, .any, .any, .any, .any, .any, .any, .any, .any, .any, .any, .any, .any, .any, .any, .any, .any, .any, .any, .any]
theorem a67l0c (s0 s1 s2 s3 s4 s5 s6 s7 s8 s9 s10 s11 s12 s13 s14 s15 s16 s17 s18 s19 s20 s21 s22 s23 s24 s25 s26 s27 s28 s29 s30 s31 s32 s33 s34 s35 : AV) : clearA a67l0s [s0, s1, s2, s3, s4, s5, s6, s7, s8, s9, s10, s11, s12, s13, s14, s15, s16, s17, s18, s19, s20, s21, s22, s23, s24, s25, s26, s27, s28, s29, s30, s31, s32, s33, s34, s35] = a67l0F s0 s3 s9 s10 s11 := by kernel_rfl
theorem a67l0n {prog : Nat → Option AFunc} (s0 s3 s9 s10 s11 : AV) (H : Heap) : (lim prog).loop a67l0s a67l0 ⟨a67l0F s0 s3 s9 s10 s11, H⟩ = loopK (lim prog) a67l0s a67l0 (run (lim prog) a67l0b ⟨a67l0F s0 s3 s9 s10 s11, H⟩) := lim_loop_step _ _ _ _ (by kernel_rfl)

def a67l1b : ACode :=
  .seq (.region [⟨some 28, .bin .lss (.t 27) (.t 26), none⟩])
  (.seq (.cond (.t 28)
    (.skip)
    (.exit 2))
   (.seq (.block 3 (.seq (.region [⟨some 29, .iaddr 1 (.t 25) (.t 27), none⟩,
         ⟨some 30, .load false 1 (.t 29), none⟩,
         ⟨some 8, .mov (.t 30), none⟩])
      (.region [⟨some 31, .mov (.t 6), none⟩,
         ⟨some 32, .mov (.t 8), none⟩,
         ⟨some 33, .append false 1 8 (.t 31) (.t 32), none⟩,
         ⟨some 6, .mov (.t 33), none⟩])))
    (.region [⟨some 34, .bin .add (.t 27) (.c (.int Go.IntKind.i64 1)), none⟩,
       ⟨some 27, .mov (.t 34), none⟩])))

def a67l1 : ACode := a67l1b
def a67l1s : List Nat := [0, 1, 2, 3, 4, 5, 7, 8, 9, 10, 11, 12, 13, 14, 15, 16, 17, 18, 19, 20, 21, 22, 23, 24, 28, 29, 30, 31, 32, 33, 34, 35]
abbrev a67l1F (s6 s25 s26 s27 : AV) : List AV := [.any, .any, .any, .any, .any, .any, s6, .any, .any, .any, .any, .any, .any, .any, .any, .any, .any, .any, .any, .any, .any, .any, .any, .any, .any, s25, s26, s27, .any, .any, .any, .any, .any, .any, .any, .any]
theorem a67l1c (s0 s1 s2 s3 s4 s5 s6 s7 s8 s9 s10 s11 s12 s13 s14 s15 s16 s17 s18 s19 s20 s21 s22 s23 s24 s25 s26 s27 s28 s29 s30 s31 s32 s33 s34 s35 : AV) : clearA a67l1s [s0, s1, s2, s3, s4, s5, s6, s7, s8, s9, s10, s11, s12, s13, s14, s15, s16, s17, s18, s19, s20, s21, s22, s23, s24, s25, s26, s27, s28, s29, s30, s31, s32, s33, s34, s35] = a67l1F s6 s25 s26 s27 := by kernel_rfl
theorem a67l1n {prog : Nat → Option AFunc} (s6 s25 s26 s27 : AV) (H : Heap) : (lim prog).loop a67l1s a67l1 ⟨a67l1F s6 s25 s26 s27, H⟩ = loopK (lim prog) a67l1s a67l1 (run (lim prog) a67l1b ⟨a67l1F s6 s25 s26 s27, H⟩) := lim_loop_step _ _ _ _ (by kernel_rfl)

/-- slices.Concat[[]int,int] -/
def a67 : AFunc := ⟨36,
  .seq (.region [⟨some 2, .mov (.c (.sl true 0 [])), none⟩])
  (.seq (.region [⟨some 3, .mov (.c (.int Go.IntKind.i64 0)), none⟩])
   (.seq (.seq (.region [⟨some 9, .mov (.t 0), none⟩,
        ⟨some 10, .len (.t 9), none⟩,
        ⟨some 11, .mov (.c (.int Go.IntKind.i64 0)), none⟩])
     (.block 0 (.loop a67l0s a67l0)))
    (.seq (.region [⟨some 23, .mov (.t 3), none⟩,
        ⟨some 24, .icall (.c (.func 91 [])) [(.c (.sl true 0 [])), (.t 23)], none⟩,
        ⟨some 6, .mov (.t 24), none⟩])
     (.seq (.seq (.region [⟨some 25, .mov (.t 0), none⟩,
          ⟨some 26, .len (.t 25), none⟩,
          ⟨some 27, .mov (.c (.int Go.IntKind.i64 0)), none⟩])
       (.block 2 (.loop a67l1s a67l1)))
      (.seq (.region [⟨some 35, .mov (.t 6), none⟩,
          ⟨some 2, .mov (.t 35), none⟩])
       (.ret)))))),
  [.tmp 2]⟩

def a68l0b : ACode :=
  .seq (.region [⟨some 12, .bin .lss (.t 11) (.t 10), none⟩])
  (.seq (.cond (.t 12)
    (.skip)
    (.exit 0))
   (.seq (.block 1 (.seq (.region [⟨some 13, .iaddr 1 (.t 9) (.t 11), none⟩,
         ⟨some 14, .load false 1 (.t 13), none⟩,
         ⟨some 5, .mov (.t 14), none⟩])
      (.seq (.region [⟨some 15, .mov (.t 3), none⟩,
          ⟨some 16, .mov (.t 5), none⟩,
          ⟨some 17, .len (.t 16), none⟩,
          ⟨some 18, .bin .add (.t 15) (.t 17), none⟩,
          ⟨some 3, .mov (.t 18), none⟩])
       (.seq (.region [⟨some 19, .mov (.t 3), none⟩,
           ⟨some 20, .bin .lss (.t 19) (.c (.int Go.IntKind.i64 0)), none⟩])
        (.cond (.t 20)
         (.stuck)
         (.skip))))))
    (.region [⟨some 22, .bin .add (.t 11) (.c (.int Go.IntKind.i64 1)), none⟩,
       ⟨some 11, .mov (.t 22), none⟩])))

def a68l0 : ACode := a68l0b
def a68l0s : List Nat := [1, 2, 4, 5, 6, 7, 8, 12, 13, 14, 15, 16, 17, 18, 19, 20, 21, 22, 23, 24, 25, 26, 27, 28, 29, 30, 31, 32, 33, 34, 35]
abbrev a68l0F (s0 s3 s9 s10 s11 : AV) : List AV := [s0, .any, .any, s3, .any, .any, .any, .any, .any, s9, s10, s11, .any, .any, .any, .any, .any, .any, .any, .any, .any, .any, .any, .any, .any, .any, .any, .any, .any, .any, .any, .any, .any, .any, .any, .any]
theorem a68l0c (s0 s1 s2 s3 s4 s5 s6 s7 s8 s9 s10 s11 s12 s13 s14 s15 s16 s17 s18 s19 s20 s21 s22 s23 s24 s25 s26 s27 s28 s29 s30 s31 s32 s33 s34 s35 : AV) : clearA a68l0s [s0, s1, s2, s3, s4, s5, s6, s7, s8, s9, s10, s11, s12, s13, s14, s15, s16, s17, s18, s19, s20, s21, s22, s23, s24, s25, s26, s27, s28, s29, s30, s31, s32, s33, s34, s35] = a68l0F s0 s3 s9 s10 s11 := by kernel_rfl
theorem a68l0n {prog : Nat → Option AFunc} (s0 s3 s9 s10 s11 : AV) (H : Heap) : (lim prog).loop a68l0s a68l0 ⟨a68l0F s0 s3 s9 s10 s11, H⟩ = loopK (lim prog) a68l0s a68l0 (run (lim prog) a68l0b ⟨a68l0F s0 s3 s9 s10 s11, H⟩) := lim_loop_step _ _ _ _ (by kernel_rfl)

def a68l1b : ACode :=
  .seq (.region [⟨some 28, .bin .lss (.t 27) (.t 26), none⟩])
  (.seq (.cond (.t 28)
    (.skip)
    (.exit 2))
   (.seq (.block 3 (.seq (.region [⟨some 29, .iaddr 1 (.t 25) (.t 27), none⟩,
         ⟨some 30, .load false 1 (.t 29), none⟩,
         ⟨some 8, .mov (.t 30), none⟩])
      (.region [⟨some 31, .mov (.t 6), none⟩,
         ⟨some 32, .mov (.t 8), none⟩,
         ⟨some 33, .append false 5 32 (.t 31) (.t 32), none⟩,
         ⟨some 6, .mov (.t 33), none⟩])))
    (.region [⟨some 34, .bin .add (.t 27) (.c (.int Go.IntKind.i64 1)), none⟩,
       ⟨some 27, .mov (.t 34), none⟩])))

def a68l1 : ACode := a68l1b
def a68l1s : List Nat := [0, 1, 2, 3, 4, 5, 7, 8, 9, 10, 11, 12, 13, 14, 15, 16, 17, 18, 19, 20, 21, 22, 23, 24, 28, 29, 30, 31, 32, 33, 34, 35]
abbrev a68l1F (s6 s25 s26 s27 : AV) : List AV := [.any, .any, .any, .any, .any, .any, s6, .any, .any, .any, .any, .any, .any, .any, .any, .any, .any, .any, .any, .any, .any, .any, .any, .any, .any, s25, s26, s27, .any, .any, .any, .any, .any, .any, .any, .any]
theorem a68l1c (s0 s1 s2 s3 s4 s5 s6 s7 s8 s9 s10 s11 s12 s13 s14 s15 s16 s17 s18 s19 s20 s21 s22 s23 s24 s25 s26 s27 s28 s29 s30 s31 s32 s33 s34 s35 : AV) : clearA a68l1s [s0, s1, s2, s3, s4, s5, s6, s7, s8, s9, s10, s11, s12, s13, s14, s15, s16, s17, s18, s19, s20, s21, s22, s23, s24, s25, s26, s27, s28, s29, s30, s31, s32, s33, s34, s35] = a68l1F s6 s25 s26 s27 := by kernel_rfl
theorem a68l1n {prog : Nat → Option AFunc} (s6 s25 s26 s27 : AV) (H : Heap) : (lim prog).loop a68l1s a68l1 ⟨a68l1F s6 s25 s26 s27, H⟩ = loopK (lim prog) a68l1s a68l1 (run (lim prog) a68l1b ⟨a68l1F s6 s25 s26 s27, H⟩) := lim_loop_step _ _ _ _ (by kernel_rfl)

/-- slices.Concat[[]sentinel/api.Rule,sentinel/api.Rule] -/
def a68 : AFunc := ⟨36,
  .seq (.region [⟨some 2, .mov (.c (.sl true 0 [])), none⟩])
  (.seq (.region [⟨some 3, .mov (.c (.int Go.IntKind.i64 0)), none⟩])
   (.seq (.seq (.region [⟨some 9, .mov (.t 0), none⟩,
        ⟨some 10, .len (.t 9), none⟩,
        ⟨some 11, .mov (.c (.int Go.IntKind.i64 0)), none⟩])
     (.block 0 (.loop a68l0s a68l0)))
    (.seq (.region [⟨some 23, .mov (.t 3), none⟩,
        ⟨some 24, .icall (.c (.func 92 [])) [(.c (.sl true 0 [])), (.t 23)], none⟩,
        ⟨some 6, .mov (.t 24), none⟩])
     (.seq (.seq (.region [⟨some 25, .mov (.t 0), none⟩,
          ⟨some 26, .len (.t 25), none⟩,
          ⟨some 27, .mov (.c (.int Go.IntKind.i64 0)), none⟩])
       (.block 2 (.loop a68l1s a68l1)))
      (.seq (.region [⟨some 35, .mov (.t 6), none⟩,
          ⟨some 2, .mov (.t 35), none⟩])
       (.ret)))))),
  [.tmp 2]⟩

/-- sentinel/sentinelkit.CopyInts -/
def a69 : AFunc := ⟨5,
  .seq (.region [⟨some 2, .mov (.c (.sl true 0 [])), none⟩])
  (.seq (.region [⟨some 3, .mov (.t 0), none⟩,
      ⟨some 4, .append false 1 8 (.c (.sl true 0 [])) (.t 3), none⟩,
      ⟨some 2, .mov (.t 4), none⟩])
   (.ret)),
  [.tmp 2]⟩

/-- sentinel/sentinelkit.CopyRules -/
def a70 : AFunc := ⟨5,
  .seq (.region [⟨some 2, .mov (.c (.sl true 0 [])), none⟩])
  (.seq (.region [⟨some 3, .mov (.t 0), none⟩,
      ⟨some 4, .append false 5 32 (.c (.sl true 0 [])) (.t 3), none⟩,
      ⟨some 2, .mov (.t 4), none⟩])
   (.ret)),
  [.tmp 2]⟩

/-- sentinel/bitset.With -/
def a72 : AFunc := ⟨9,
  .seq (.region [⟨some 4, .mov (.c (.sl true 0 [])), none⟩])
  (.seq (.region [⟨some 5, .mov (.t 0), none⟩,
      ⟨some 6, .mov (.t 1), none⟩,
      ⟨some 7, .call 78 [(.t 6)], none⟩,
      ⟨some 8, .call 95 [(.t 5), (.t 7)], none⟩,
      ⟨some 4, .mov (.t 8), none⟩])
   (.ret)),
  [.tmp 4]⟩

/-- sentinel/bitset.Canonical -/
def a73 : AFunc := ⟨5,
  .seq (.region [⟨some 2, .mov (.c (.sl true 0 [])), none⟩])
  (.seq (.region [⟨some 3, .mov (.t 0), none⟩,
      ⟨some 4, .call 95 [(.t 3), (.c (.sl true 0 []))], none⟩,
      ⟨some 2, .mov (.t 4), none⟩])
   (.ret)),
  [.tmp 2]⟩

/-- sentinel/tree.formed -/
def a75 : AFunc := ⟨18,
  .seq (.region [⟨some 2, .mov (.c (.bool false)), none⟩])
  (.seq (.region [⟨some 3, .mov (.t 0), none⟩,
      ⟨some 4, .len (.t 3), none⟩,
      ⟨some 5, .bin .eql (.t 4) (.c (.int Go.IntKind.i64 0)), none⟩,
      ⟨some 6, .mov (.t 5), none⟩,
      ⟨some 7, .mov (.t 0), some (6, false)⟩,
      ⟨some 8, .len (.t 7), some (6, false)⟩,
      ⟨some 9, .bin .leq (.t 8) (.c (.int Go.IntKind.i64 31)), some (6, false)⟩,
      ⟨some 10, .mov (.t 9), some (6, false)⟩,
      ⟨some 11, .mov (.t 0), some (10, true)⟩,
      ⟨some 12, .call 96 [(.t 11), (.c (.int Go.IntKind.i64 0))], some (10, true)⟩,
      ⟨some 13, .mov (.t 0), some (10, true)⟩,
      ⟨some 14, .len (.t 13), some (10, true)⟩,
      ⟨some 15, .bin .eql (.t 12) (.t 14), some (10, true)⟩,
      ⟨some 16, .pick (.t 10) (.t 15) (.c (.bool false)), some (6, false)⟩,
      ⟨some 17, .pick (.t 6) (.c (.bool true)) (.t 16), none⟩,
      ⟨some 2, .mov (.t 17), none⟩])
   (.ret)),
  [.tmp 2]⟩

/-- sentinel/bitset.single -/
def a78 : AFunc := ⟨22,
  .seq (.region [⟨some 2, .mov (.c (.sl true 0 [])), none⟩])
  (.seq (.seq (.region [⟨some 4, .mov (.t 0), none⟩,
       ⟨some 5, .bin .lss (.t 4) (.c (.int Go.IntKind.i64 0)), none⟩,
       ⟨some 6, .mov (.t 5), none⟩,
       ⟨some 7, .mov (.t 0), some (6, false)⟩,
       ⟨some 8, .bin .gtr (.t 7) (.c (.int Go.IntKind.i64 4095)), some (6, false)⟩,
       ⟨some 9, .pick (.t 6) (.c (.bool true)) (.t 8), none⟩])
    (.cond (.t 9)
     (.seq (.region [⟨some 2, .mov (.c (.sl true 0 [])), none⟩])
      (.ret))
     (.skip)))
   (.seq (.region [⟨some 10, .mov (.t 0), none⟩,
       ⟨some 11, .bin .quo (.t 10) (.c (.int Go.IntKind.i64 64)), none⟩,
       ⟨some 12, .bin .add (.t 11) (.c (.int Go.IntKind.i64 1)), none⟩,
       ⟨some 13, .mkslice false [.int Go.IntKind.u64 0] 8 (.t 12) (.t 12), none⟩,
       ⟨some 3, .mov (.t 13), none⟩])
    (.seq (.region [⟨some 14, .mov (.t 3), none⟩,
        ⟨some 15, .mov (.t 0), none⟩,
        ⟨some 16, .bin .quo (.t 15) (.c (.int Go.IntKind.i64 64)), none⟩,
        ⟨some 17, .mov (.t 0), none⟩,
        ⟨some 18, .bin .rem (.t 17) (.c (.int Go.IntKind.i64 64)), none⟩,
        ⟨some 19, .bin .shl (.c (.int Go.IntKind.u64 1)) (.t 18), none⟩,
        ⟨some 20, .iaddr 1 (.t 14) (.t 16), none⟩,
        ⟨none, .store 1 (.t 20) (.t 19), none⟩])
     (.seq (.region [⟨some 21, .mov (.t 3), none⟩,
         ⟨some 2, .mov (.t 21), none⟩])
      (.ret))))),
  [.tmp 2]⟩

def a79l0b : ACode :=
  .seq (.region [⟨some 14, .bin .lss (.t 13) (.t 12), none⟩])
  (.seq (.cond (.t 14)
    (.skip)
    (.exit 0))
   (.seq (.block 1 (.seq (.region [⟨some 15, .mov (.t 13), none⟩,
         ⟨some 5, .mov (.t 15), none⟩])
      (.seq (.draw 5 [⟨some 16, .mov (.t 0), none⟩,
          ⟨some 17, .mov (.t 5), none⟩,
          ⟨some 18, .iaddr 1 (.t 16) (.t 17), none⟩,
          ⟨some 19, .load false 1 (.t 18), none⟩,
          ⟨some 20, .mov (.t 1), none⟩,
          ⟨some 21, .mov (.t 5), none⟩,
          ⟨some 22, .iaddr 1 (.t 20) (.t 21), none⟩,
          ⟨some 23, .load false 1 (.t 22), none⟩,
          ⟨some 24, .bin .neq (.t 19) (.t 23), none⟩])
       (.cond (.t 24)
        (.seq (.region [⟨some 4, .mov (.c (.bool false)), none⟩])
         (.ret))
        (.skip)))))
    (.region [⟨some 25, .bin .add (.t 13) (.c (.int Go.IntKind.i64 1)), none⟩,
       ⟨some 13, .mov (.t 25), none⟩])))

def a79l0 : ACode := a79l0b
def a79l0s : List Nat := [2, 3, 5, 6, 7, 8, 9, 10, 11, 14, 15, 16, 17, 18, 19, 20, 21, 22, 23, 24, 25]
abbrev a79l0F (s0 s1 s4 s12 s13 : AV) : List AV := [s0, s1, .any, .any, s4, .any, .any, .any, .any, .any, .any, .any, s12, s13, .any, .any, .any, .any, .any, .any, .any, .any, .any, .any, .any, .any]
theorem a79l0c (s0 s1 s2 s3 s4 s5 s6 s7 s8 s9 s10 s11 s12 s13 s14 s15 s16 s17 s18 s19 s20 s21 s22 s23 s24 s25 : AV) : clearA a79l0s [s0, s1, s2, s3, s4, s5, s6, s7, s8, s9, s10, s11, s12, s13, s14, s15, s16, s17, s18, s19, s20, s21, s22, s23, s24, s25] = a79l0F s0 s1 s4 s12 s13 := by kernel_rfl
theorem a79l0n {prog : Nat → Option AFunc} (s0 s1 s4 s12 s13 : AV) (H : Heap) : (lim prog).loop a79l0s a79l0 ⟨a79l0F s0 s1 s4 s12 s13, H⟩ = loopK (lim prog) a79l0s a79l0 (run (lim prog) a79l0b ⟨a79l0F s0 s1 s4 s12 s13, H⟩) := lim_loop_step _ _ _ _ (by kernel_rfl)

/-- slices.Equal[sentinel/api.Set,uint64] -/
def a79 : AFunc := ⟨26,
  .seq (.region [⟨some 4, .mov (.c (.bool false)), none⟩])
  (.seq (.seq (.region [⟨some 6, .mov (.t 0), none⟩,
       ⟨some 7, .len (.t 6), none⟩,
       ⟨some 8, .mov (.t 1), none⟩,
       ⟨some 9, .len (.t 8), none⟩,
       ⟨some 10, .bin .neq (.t 7) (.t 9), none⟩])
    (.cond (.t 10)
     (.seq (.region [⟨some 4, .mov (.c (.bool false)), none⟩])
      (.ret))
     (.skip)))
   (.seq (.seq (.region [⟨some 11, .mov (.t 0), none⟩,
        ⟨some 12, .len (.t 11), none⟩,
        ⟨some 13, .mov (.c (.int Go.IntKind.i64 0)), none⟩])
     (.block 0 (.loop a79l0s a79l0)))
    (.seq (.region [⟨some 4, .mov (.c (.bool true)), none⟩])
     (.ret)))),
  [.tmp 4]⟩

def a81l0b : ACode :=
  .seq (.region [⟨some 21, .bin .lss (.t 20) (.t 19), none⟩])
  (.seq (.cond (.t 21)
    (.skip)
    (.exit 1))
   (.seq (.block 2 (.seq (.region [⟨some 22, .iaddr 3 (.t 18) (.t 20), none⟩,
         ⟨some 23, .load true 3 (.t 22), none⟩,
         ⟨some 6, .box (.c (.agg [.int Go.IntKind.u8 0, .int Go.IntKind.i64 0, .int Go.IntKind.i64 0])), none⟩,
         ⟨none, .store 3 (.t 6) (.t 23), none⟩])
      (.seq (.region [⟨some 24, .faddr 0 (.t 6), none⟩,
          ⟨some 25, .load false 1 (.t 24), none⟩,
          ⟨some 26, .conv Go.IntKind.i64 (.t 25), none⟩,
          ⟨some 27, .mov (.t 1), none⟩,
          ⟨some 28, .bin .shr (.t 26) (.t 27), none⟩,
          ⟨some 29, .bin .neq (.t 28) (.c (.int Go.IntKind.i64 0)), none⟩])
       (.cond (.t 29)
        (.seq (.region [⟨some 4, .mov (.c (.int Go.IntKind.i64 1)), none⟩])
         (.ret))
        (.skip)))))
    (.region [⟨some 30, .bin .add (.t 20) (.c (.int Go.IntKind.i64 1)), none⟩,
       ⟨some 20, .mov (.t 30), none⟩])))

def a81l0 : ACode := a81l0b
def a81l0s : List Nat := [2, 3, 5, 6, 7, 8, 9, 10, 11, 12, 13, 14, 15, 16, 17, 21, 22, 23, 24, 25, 26, 27, 28, 29, 30, 31, 32, 33]
abbrev a81l0F (s0 s1 s4 s18 s19 s20 : AV) : List AV := [s0, s1, .any, .any, s4, .any, .any, .any, .any, .any, .any, .any, .any, .any, .any, .any, .any, .any, s18, s19, s20, .any, .any, .any, .any, .any, .any, .any, .any, .any, .any, .any, .any, .any]
theorem a81l0c (s0 s1 s2 s3 s4 s5 s6 s7 s8 s9 s10 s11 s12 s13 s14 s15 s16 s17 s18 s19 s20 s21 s22 s23 s24 s25 s26 s27 s28 s29 s30 s31 s32 s33 : AV) : clearA a81l0s [s0, s1, s2, s3, s4, s5, s6, s7, s8, s9, s10, s11, s12, s13, s14, s15, s16, s17, s18, s19, s20, s21, s22, s23, s24, s25, s26, s27, s28, s29, s30, s31, s32, s33] = a81l0F s0 s1 s4 s18 s19 s20 := by kernel_rfl
theorem a81l0n {prog : Nat → Option AFunc} (s0 s1 s4 s18 s19 s20 : AV) (H : Heap) : (lim prog).loop a81l0s a81l0 ⟨a81l0F s0 s1 s4 s18 s19 s20, H⟩ = loopK (lim prog) a81l0s a81l0 (run (lim prog) a81l0b ⟨a81l0F s0 s1 s4 s18 s19 s20, H⟩) := lim_loop_step _ _ _ _ (by kernel_rfl)

/-- sentinel/tree.Check -/
def a81 : AFunc := ⟨34,
  .seq (.region [⟨some 4, .mov (.c (.int Go.IntKind.i64 0)), none⟩])
  (.seq (.block 0 (.seq (.region [⟨some 8, .mov (.t 1), none⟩,
        ⟨some 9, .bin .lss (.t 8) (.c (.int Go.IntKind.i64 0)), none⟩,
        ⟨some 10, .mov (.t 9), none⟩,
        ⟨some 11, .mov (.t 1), some (10, false)⟩,
        ⟨some 12, .bin .gtr (.t 11) (.c (.int Go.IntKind.i64 3)), some (10, false)⟩,
        ⟨some 13, .pick (.t 10) (.c (.bool true)) (.t 12), none⟩,
        ⟨some 7, .mov (.t 13), none⟩])
     (.cond (.t 7)
      (.seq (.region [⟨some 4, .mov (.c (.int Go.IntKind.i64 7)), none⟩])
       (.ret))
      (.seq (.region [⟨some 15, .mov (.t 0), none⟩,
          ⟨some 16, .len (.t 15), none⟩,
          ⟨some 17, .bin .gtr (.t 16) (.c (.int Go.IntKind.i64 31)), none⟩,
          ⟨some 14, .mov (.t 17), none⟩])
       (.cond (.t 14)
        (.seq (.region [⟨some 4, .mov (.c (.int Go.IntKind.i64 4)), none⟩])
         (.ret))
        (.skip))))))
   (.seq (.seq (.region [⟨some 18, .mov (.t 0), none⟩,
        ⟨some 19, .len (.t 18), none⟩,
        ⟨some 20, .mov (.c (.int Go.IntKind.i64 0)), none⟩])
     (.block 1 (.loop a81l0s a81l0)))
    (.seq (.seq (.region [⟨some 31, .mov (.t 0), none⟩,
         ⟨some 32, .call 75 [(.t 31)], none⟩,
         ⟨some 33, .un .not (.t 32), none⟩])
      (.cond (.t 33)
       (.seq (.region [⟨some 4, .mov (.c (.int Go.IntKind.i64 2)), none⟩])
        (.ret))
       (.skip)))
     (.seq (.region [⟨some 4, .mov (.c (.int Go.IntKind.i64 0)), none⟩])
      (.ret))))),
  [.tmp 4]⟩

/-- sentinel/treeaut.states$1 -/
def a82 : AFunc := ⟨21,
  .seq (.region [⟨some 4, .mov (.c (.int Go.IntKind.u64 0)), none⟩])
  (.seq (.seq (.region [⟨some 6, .mov (.t 0), none⟩,
       ⟨some 7, .bin .lss (.t 6) (.c (.int Go.IntKind.i64 0)), none⟩])
    (.cond (.t 7)
     (.seq (.region [⟨some 8, .load false 1 (.t 1), none⟩,
         ⟨some 4, .mov (.t 8), none⟩])
      (.ret))
     (.skip)))
   (.seq (.region [⟨some 9, .load false 1 (.t 2), none⟩,
       ⟨some 10, .load false 1 (.t 2), none⟩,
       ⟨some 11, .len (.t 10), none⟩,
       ⟨some 12, .bin .sub (.t 11) (.c (.int Go.IntKind.i64 1)), none⟩,
       ⟨some 13, .iaddr 1 (.t 9) (.t 12), none⟩,
       ⟨some 14, .load false 1 (.t 13), none⟩,
       ⟨some 5, .mov (.t 14), none⟩])
    (.seq (.region [⟨some 15, .load false 1 (.t 2), none⟩,
        ⟨some 16, .load false 1 (.t 2), none⟩,
        ⟨some 17, .len (.t 16), none⟩,
        ⟨some 18, .bin .sub (.t 17) (.c (.int Go.IntKind.i64 1)), none⟩,
        ⟨some 19, .slice 1 (.t 15) none (some (.t 18)) none, none⟩,
        ⟨none, .store 1 (.t 2) (.t 19), none⟩])
     (.seq (.region [⟨some 20, .mov (.t 5), none⟩,
         ⟨some 4, .mov (.t 20), none⟩])
      (.ret))))),
  [.tmp 4]⟩

/-- sentinel/cube.Has -/
def a83 : AFunc := ⟨19,
  .seq (.region [⟨some 2, .box (.t 0), none⟩,
     ⟨some 4, .mov (.c (.bool false)), none⟩])
  (.seq (.region [⟨some 5, .mov (.t 1), none⟩,
      ⟨some 6, .faddr 0 (.t 2), none⟩,
      ⟨some 7, .load false 1 (.t 6), none⟩,
      ⟨some 8, .bin .and (.t 5) (.t 7), none⟩,
      ⟨some 9, .faddr 0 (.t 2), none⟩,
      ⟨some 10, .load false 1 (.t 9), none⟩,
      ⟨some 11, .bin .eql (.t 8) (.t 10), none⟩,
      ⟨some 12, .mov (.t 11), none⟩,
      ⟨some 13, .mov (.t 1), some (12, true)⟩,
      ⟨some 14, .faddr 1 (.t 2), some (12, true)⟩,
      ⟨some 15, .load false 1 (.t 14), some (12, true)⟩,
      ⟨some 16, .bin .and (.t 13) (.t 15), some (12, true)⟩,
      ⟨some 17, .bin .eql (.t 16) (.c (.int Go.IntKind.u8 0)), some (12, true)⟩,
      ⟨some 18, .pick (.t 12) (.t 17) (.c (.bool false)), none⟩,
      ⟨some 4, .mov (.t 18), none⟩])
   (.ret)),
  [.tmp 4]⟩

def a86l0b : ACode :=
  .seq (.seq (.region [⟨some 9, .mov (.t 5), none⟩,
      ⟨some 10, .mov (.t 0), none⟩,
      ⟨some 11, .bin .neq (.t 9) (.t 10), none⟩])
   (.cond (.t 11)
    (.skip)
    (.exit 0)))
  (.seq (.block 1 (.region [⟨some 15, .mov (.t 5), none⟩,
       ⟨some 0, .mov (.t 15), none⟩]))
   (.region [⟨some 12, .mov (.t 1), none⟩,
      ⟨some 13, .mov (.t 0), none⟩,
      ⟨some 14, .icall (.t 12) [(.t 13)], none⟩,
      ⟨some 5, .mov (.t 14), none⟩]))

def a86l0 : ACode := a86l0b
def a86l0s : List Nat := [2, 3, 4, 6, 7, 8, 9, 10, 11, 12, 13, 14, 15, 16]
abbrev a86l0F (s0 s1 s5 : AV) : List AV := [s0, s1, .any, .any, .any, s5, .any, .any, .any, .any, .any, .any, .any, .any, .any, .any, .any]
theorem a86l0c (s0 s1 s2 s3 s4 s5 s6 s7 s8 s9 s10 s11 s12 s13 s14 s15 s16 : AV) : clearA a86l0s [s0, s1, s2, s3, s4, s5, s6, s7, s8, s9, s10, s11, s12, s13, s14, s15, s16] = a86l0F s0 s1 s5 := by kernel_rfl
theorem a86l0n {prog : Nat → Option AFunc} (s0 s1 s5 : AV) (H : Heap) : (lim prog).loop a86l0s a86l0 ⟨a86l0F s0 s1 s5, H⟩ = loopK (lim prog) a86l0s a86l0 (run (lim prog) a86l0b ⟨a86l0F s0 s1 s5, H⟩) := lim_loop_step _ _ _ _ (by kernel_rfl)

/-- sentinel/treeaut.fixed -/
def a86 : AFunc := ⟨17,
  .seq (.region [⟨some 4, .mov (.c (.int Go.IntKind.u64 0)), none⟩])
  (.seq (.seq (.region [⟨some 6, .mov (.t 1), none⟩,
       ⟨some 7, .mov (.t 0), none⟩,
       ⟨some 8, .icall (.t 6) [(.t 7)], none⟩,
       ⟨some 5, .mov (.t 8), none⟩])
    (.block 0 (.loop a86l0s a86l0)))
   (.seq (.region [⟨some 16, .mov (.t 0), none⟩,
       ⟨some 4, .mov (.t 16), none⟩])
    (.ret))),
  [.tmp 4]⟩

def a87l0b : ACode :=
  .seq (.region [⟨some 10, .bin .lss (.t 9) (.t 8), none⟩])
  (.seq (.cond (.t 10)
    (.skip)
    (.exit 0))
   (.seq (.block 1 (.seq (.region [⟨some 11, .iaddr 5 (.t 7) (.t 9), none⟩,
         ⟨some 12, .load true 5 (.t 11), none⟩,
         ⟨some 5, .box (.c (.agg [.int Go.IntKind.i64 0, .int Go.IntKind.i64 0, .int Go.IntKind.i64 0, .int Go.IntKind.u8 0, .int Go.IntKind.u8 0])), none⟩,
         ⟨none, .store 5 (.t 5) (.t 12), none⟩])
      (.draw 11 [⟨some 13, .mov (.t 0), none⟩,
         ⟨some 14, .mov (.t 0), none⟩,
         ⟨some 15, .faddr 0 (.t 5), none⟩,
         ⟨some 16, .load false 1 (.t 15), none⟩,
         ⟨some 17, .bin .shr (.t 14) (.t 16), none⟩,
         ⟨some 18, .mov (.t 0), none⟩,
         ⟨some 19, .faddr 1 (.t 5), none⟩,
         ⟨some 20, .load false 1 (.t 19), none⟩,
         ⟨some 21, .bin .shr (.t 18) (.t 20), none⟩,
         ⟨some 22, .bin .and (.t 17) (.t 21), none⟩,
         ⟨some 23, .bin .and (.t 22) (.c (.int Go.IntKind.u64 1)), none⟩,
         ⟨some 24, .faddr 2 (.t 5), none⟩,
         ⟨some 25, .load false 1 (.t 24), none⟩,
         ⟨some 26, .bin .shl (.t 23) (.t 25), none⟩,
         ⟨some 27, .bin .or (.t 13) (.t 26), none⟩,
         ⟨some 0, .mov (.t 27), none⟩])))
    (.region [⟨some 28, .bin .add (.t 9) (.c (.int Go.IntKind.i64 1)), none⟩,
       ⟨some 9, .mov (.t 28), none⟩])))

def a87l0 : ACode := a87l0b
def a87l0s : List Nat := [1, 2, 3, 4, 5, 6, 10, 11, 12, 13, 14, 15, 16, 17, 18, 19, 20, 21, 22, 23, 24, 25, 26, 27, 28, 29]
abbrev a87l0F (s0 s7 s8 s9 : AV) : List AV := [s0, .any, .any, .any, .any, .any, .any, s7, s8, s9, .any, .any, .any, .any, .any, .any, .any, .any, .any, .any, .any, .any, .any, .any, .any, .any, .any, .any, .any, .any]
theorem a87l0c (s0 s1 s2 s3 s4 s5 s6 s7 s8 s9 s10 s11 s12 s13 s14 s15 s16 s17 s18 s19 s20 s21 s22 s23 s24 s25 s26 s27 s28 s29 : AV) : clearA a87l0s [s0, s1, s2, s3, s4, s5, s6, s7, s8, s9, s10, s11, s12, s13, s14, s15, s16, s17, s18, s19, s20, s21, s22, s23, s24, s25, s26, s27, s28, s29] = a87l0F s0 s7 s8 s9 := by kernel_rfl
theorem a87l0n {prog : Nat → Option AFunc} (s0 s7 s8 s9 : AV) (H : Heap) : (lim prog).loop a87l0s a87l0 ⟨a87l0F s0 s7 s8 s9, H⟩ = loopK (lim prog) a87l0s a87l0 (run (lim prog) a87l0b ⟨a87l0F s0 s7 s8 s9, H⟩) := lim_loop_step _ _ _ _ (by kernel_rfl)

/-- sentinel/treeaut.reachable$1 -/
def a87 : AFunc := ⟨30,
  .seq (.region [⟨some 3, .mov (.c (.int Go.IntKind.u64 0)), none⟩])
  (.seq (.seq (.region [⟨some 6, .faddr 4 (.t 1), none⟩,
       ⟨some 7, .load false 1 (.t 6), none⟩,
       ⟨some 8, .len (.t 7), none⟩,
       ⟨some 9, .mov (.c (.int Go.IntKind.i64 0)), none⟩])
    (.block 0 (.loop a87l0s a87l0)))
   (.seq (.region [⟨some 29, .mov (.t 0), none⟩,
       ⟨some 3, .mov (.t 29), none⟩])
    (.ret))),
  [.tmp 3]⟩

def a88l0b : ACode :=
  .seq (.region [⟨some 11, .bin .lss (.t 10) (.t 9), none⟩])
  (.seq (.cond (.t 11)
    (.skip)
    (.exit 0))
   (.seq (.block 1 (.seq (.region [⟨some 12, .iaddr 5 (.t 8) (.t 10), none⟩,
         ⟨some 13, .load true 5 (.t 12), none⟩,
         ⟨some 6, .box (.c (.agg [.int Go.IntKind.i64 0, .int Go.IntKind.i64 0, .int Go.IntKind.i64 0, .int Go.IntKind.u8 0, .int Go.IntKind.u8 0])), none⟩,
         ⟨none, .store 5 (.t 6) (.t 13), none⟩])
      (.seq (.draw 15 [⟨some 14, .mov (.t 0), none⟩,
          ⟨some 15, .faddr 2 (.t 6), none⟩,
          ⟨some 16, .load false 1 (.t 15), none⟩,
          ⟨some 17, .bin .shr (.t 14) (.t 16), none⟩,
          ⟨some 18, .bin .and (.t 17) (.c (.int Go.IntKind.u64 1)), none⟩,
          ⟨some 19, .bin .neq (.t 18) (.c (.int Go.IntKind.u64 0)), none⟩,
          ⟨some 20, .mov (.t 19), none⟩,
          ⟨some 21, .load false 1 (.t 2), some (20, true)⟩,
          ⟨some 22, .faddr 0 (.t 6), some (20, true)⟩,
          ⟨some 23, .load false 1 (.t 22), some (20, true)⟩,
          ⟨some 24, .bin .shr (.t 21) (.t 23), some (20, true)⟩,
          ⟨some 25, .load false 1 (.t 2), some (20, true)⟩,
          ⟨some 26, .faddr 1 (.t 6), some (20, true)⟩,
          ⟨some 27, .load false 1 (.t 26), some (20, true)⟩,
          ⟨some 28, .bin .shr (.t 25) (.t 27), some (20, true)⟩,
          ⟨some 29, .bin .and (.t 24) (.t 28), some (20, true)⟩,
          ⟨some 30, .bin .and (.t 29) (.c (.int Go.IntKind.u64 1)), some (20, true)⟩,
          ⟨some 31, .bin .neq (.t 30) (.c (.int Go.IntKind.u64 0)), some (20, true)⟩,
          ⟨some 32, .pick (.t 20) (.t 31) (.c (.bool false)), none⟩])
       (.cond (.t 32)
        (.draw 4 [⟨some 33, .mov (.t 0), none⟩,
           ⟨some 34, .faddr 0 (.t 6), none⟩,
           ⟨some 35, .load false 1 (.t 34), none⟩,
           ⟨some 36, .bin .shl (.c (.int Go.IntKind.u64 1)) (.t 35), none⟩,
           ⟨some 37, .faddr 1 (.t 6), none⟩,
           ⟨some 38, .load false 1 (.t 37), none⟩,
           ⟨some 39, .bin .shl (.c (.int Go.IntKind.u64 1)) (.t 38), none⟩,
           ⟨some 40, .bin .or (.t 36) (.t 39), none⟩,
           ⟨some 41, .bin .or (.t 33) (.t 40), none⟩,
           ⟨some 0, .mov (.t 41), none⟩])
        (.skip)))))
    (.region [⟨some 42, .bin .add (.t 10) (.c (.int Go.IntKind.i64 1)), none⟩,
       ⟨some 10, .mov (.t 42), none⟩])))

def a88l0 : ACode := a88l0b
def a88l0s : List Nat := [1, 3, 4, 5, 6, 7, 11, 12, 13, 14, 15, 16, 17, 18, 19, 20, 21, 22, 23, 24, 25, 26, 27, 28, 29, 30, 31, 32, 33, 34, 35, 36, 37, 38, 39, 40, 41, 42, 43]
abbrev a88l0F (s0 s2 s8 s9 s10 : AV) : List AV := [s0, .any, s2, .any, .any, .any, .any, .any, s8, s9, s10, .any, .any, .any, .any, .any, .any, .any, .any, .any, .any, .any, .any, .any, .any, .any, .any, .any, .any, .any, .any, .any, .any, .any, .any, .any, .any, .any, .any, .any, .any, .any, .any, .any]
theorem a88l0c (s0 s1 s2 s3 s4 s5 s6 s7 s8 s9 s10 s11 s12 s13 s14 s15 s16 s17 s18 s19 s20 s21 s22 s23 s24 s25 s26 s27 s28 s29 s30 s31 s32 s33 s34 s35 s36 s37 s38 s39 s40 s41 s42 s43 : AV) : clearA a88l0s [s0, s1, s2, s3, s4, s5, s6, s7, s8, s9, s10, s11, s12, s13, s14, s15, s16, s17, s18, s19, s20, s21, s22, s23, s24, s25, s26, s27, s28, s29, s30, s31, s32, s33, s34, s35, s36, s37, s38, s39, s40, s41, s42, s43] = a88l0F s0 s2 s8 s9 s10 := by kernel_rfl
theorem a88l0n {prog : Nat → Option AFunc} (s0 s2 s8 s9 s10 : AV) (H : Heap) : (lim prog).loop a88l0s a88l0 ⟨a88l0F s0 s2 s8 s9 s10, H⟩ = loopK (lim prog) a88l0s a88l0 (run (lim prog) a88l0b ⟨a88l0F s0 s2 s8 s9 s10, H⟩) := lim_loop_step _ _ _ _ (by kernel_rfl)

/-- sentinel/treeaut.useful$1 -/
def a88 : AFunc := ⟨44,
  .seq (.region [⟨some 4, .mov (.c (.int Go.IntKind.u64 0)), none⟩])
  (.seq (.seq (.region [⟨some 7, .faddr 4 (.t 1), none⟩,
       ⟨some 8, .load false 1 (.t 7), none⟩,
       ⟨some 9, .len (.t 8), none⟩,
       ⟨some 10, .mov (.c (.int Go.IntKind.i64 0)), none⟩])
    (.block 0 (.loop a88l0s a88l0)))
   (.seq (.region [⟨some 43, .mov (.t 0), none⟩,
       ⟨some 4, .mov (.t 43), none⟩])
    (.ret))),
  [.tmp 4]⟩

def a89l0b : ACode :=
  .seq (.region [⟨some 9, .bin .lss (.t 8) (.t 7), none⟩])
  (.seq (.cond (.t 9)
    (.skip)
    (.exit 0))
   (.seq (.block 1 (.seq (.region [⟨some 10, .iaddr 1 (.t 6) (.t 8), none⟩,
         ⟨some 11, .load false 1 (.t 10), none⟩,
         ⟨some 5, .mov (.t 11), none⟩])
      (.seq (.region [⟨some 12, .load false 1 (.t 1), none⟩,
          ⟨some 13, .mov (.t 5), none⟩,
          ⟨some 14, .iaddr 1 (.t 12) (.t 13), none⟩,
          ⟨some 15, .load false 1 (.t 14), none⟩,
          ⟨some 16, .bin .geq (.t 15) (.c (.int Go.IntKind.i64 0)), none⟩])
       (.cond (.t 16)
        (.region [⟨some 17, .mov (.t 3), none⟩,
           ⟨some 18, .load false 1 (.t 1), none⟩,
           ⟨some 19, .mov (.t 5), none⟩,
           ⟨some 20, .iaddr 1 (.t 18) (.t 19), none⟩,
           ⟨some 21, .load false 1 (.t 20), none⟩,
           ⟨some 22, .bslice true [.int Go.IntKind.i64 0] 1 1 [(0, (.t 21))], none⟩,
           ⟨some 23, .append false 1 8 (.t 17) (.t 22), none⟩,
           ⟨some 3, .mov (.t 23), none⟩])
        (.skip)))))
    (.region [⟨some 24, .bin .add (.t 8) (.c (.int Go.IntKind.i64 1)), none⟩,
       ⟨some 8, .mov (.t 24), none⟩])))

def a89l0 : ACode := a89l0b
def a89l0s : List Nat := [0, 2, 4, 5, 9, 10, 11, 12, 13, 14, 15, 16, 17, 18, 19, 20, 21, 22, 23, 24, 25]
abbrev a89l0F (s1 s3 s6 s7 s8 : AV) : List AV := [.any, s1, .any, s3, .any, .any, s6, s7, s8, .any, .any, .any, .any, .any, .any, .any, .any, .any, .any, .any, .any, .any, .any, .any, .any, .any]
theorem a89l0c (s0 s1 s2 s3 s4 s5 s6 s7 s8 s9 s10 s11 s12 s13 s14 s15 s16 s17 s18 s19 s20 s21 s22 s23 s24 s25 : AV) : clearA a89l0s [s0, s1, s2, s3, s4, s5, s6, s7, s8, s9, s10, s11, s12, s13, s14, s15, s16, s17, s18, s19, s20, s21, s22, s23, s24, s25] = a89l0F s1 s3 s6 s7 s8 := by kernel_rfl
theorem a89l0n {prog : Nat → Option AFunc} (s1 s3 s6 s7 s8 : AV) (H : Heap) : (lim prog).loop a89l0s a89l0 ⟨a89l0F s1 s3 s6 s7 s8, H⟩ = loopK (lim prog) a89l0s a89l0 (run (lim prog) a89l0b ⟨a89l0F s1 s3 s6 s7 s8, H⟩) := lim_loop_step _ _ _ _ (by kernel_rfl)

/-- sentinel/treeaut.mapped$1 -/
def a89 : AFunc := ⟨26,
  .seq (.region [⟨some 3, .mov (.c (.sl true 0 [])), none⟩])
  (.seq (.seq (.region [⟨some 6, .mov (.t 0), none⟩,
       ⟨some 7, .len (.t 6), none⟩,
       ⟨some 8, .mov (.c (.int Go.IntKind.i64 0)), none⟩])
    (.block 0 (.loop a89l0s a89l0)))
   (.seq (.region [⟨some 25, .mov (.t 3), none⟩,
       ⟨some 3, .mov (.t 25), none⟩])
    (.ret))),
  [.tmp 3]⟩

/-- sentinel/tree.Parse -/
def a90 : AFunc := ⟨51,
  .seq (.region [⟨some 2, .mov (.c (.sl true 0 [])), none⟩,
     ⟨some 3, .mov (.c (.int Go.IntKind.i64 0)), none⟩,
     ⟨some 4, .mov (.c (.int Go.IntKind.i64 0)), none⟩])
  (.seq (.seq (.region [⟨some 6, .mov (.t 0), none⟩,
       ⟨some 7, .slen (.t 6), none⟩,
       ⟨some 8, .bin .gtr (.t 7) (.c (.int Go.IntKind.i64 4096)), none⟩])
    (.cond (.t 8)
     (.seq (.region [⟨some 2, .mov (.c (.sl true 0 [])), none⟩,
         ⟨some 3, .mov (.c (.int Go.IntKind.i64 0)), none⟩,
         ⟨some 4, .mov (.c (.int Go.IntKind.i64 4)), none⟩])
      (.ret))
     (.skip)))
   (.seq (.region [⟨some 9, .mov (.t 0), none⟩,
       ⟨some 10, .build [.str ⟨#[]⟩, .int Go.IntKind.i64 0, .sl true 0 [], .int Go.IntKind.i64 0] [(0, 1, (.t 9))], none⟩,
       ⟨some 11, .box (.t 10), none⟩,
       ⟨some 5, .mov (.t 11), none⟩])
    (.seq (.region [⟨some 12, .mov (.t 5), none⟩,
        ⟨some 13, .icall (.c (.func 102 [])) [(.t 12)], none⟩])
     (.seq (.seq (.region [⟨some 14, .mov (.t 5), none⟩,
          ⟨some 15, .nilchk (.t 14), none⟩,
          ⟨some 16, .faddr 3 (.t 15), none⟩,
          ⟨some 17, .load false 1 (.t 16), none⟩,
          ⟨some 18, .bin .eql (.t 17) (.c (.int Go.IntKind.i64 0)), none⟩,
          ⟨some 19, .mov (.t 18), none⟩,
          ⟨some 20, .mov (.t 5), some (19, true)⟩,
          ⟨some 21, .nilchk (.t 20), some (19, true)⟩,
          ⟨some 22, .faddr 1 (.t 21), some (19, true)⟩,
          ⟨some 23, .load false 1 (.t 22), some (19, true)⟩,
          ⟨some 24, .mov (.t 0), some (19, true)⟩,
          ⟨some 25, .slen (.t 24), some (19, true)⟩,
          ⟨some 26, .bin .lss (.t 23) (.t 25), some (19, true)⟩,
          ⟨some 27, .pick (.t 19) (.t 26) (.c (.bool false)), none⟩])
       (.cond (.t 27)
        (.region [⟨some 28, .mov (.t 5), none⟩,
           ⟨some 29, .mov (.t 5), none⟩,
           ⟨some 30, .nilchk (.t 29), none⟩,
           ⟨some 31, .faddr 1 (.t 30), none⟩,
           ⟨some 32, .load false 1 (.t 31), none⟩,
           ⟨some 33, .icall (.c (.func 103 [])) [(.t 28), (.t 32), (.c (.int Go.IntKind.i64 5))], none⟩])
        (.skip)))
      (.seq (.seq (.region [⟨some 34, .mov (.t 5), none⟩,
           ⟨some 35, .nilchk (.t 34), none⟩,
           ⟨some 36, .faddr 3 (.t 35), none⟩,
           ⟨some 37, .load false 1 (.t 36), none⟩,
           ⟨some 38, .bin .neq (.t 37) (.c (.int Go.IntKind.i64 0)), none⟩])
        (.cond (.t 38)
         (.seq (.draw 8 [⟨some 39, .mov (.t 5), none⟩,
             ⟨some 40, .nilchk (.t 39), none⟩,
             ⟨some 41, .faddr 1 (.t 40), none⟩,
             ⟨some 42, .load false 1 (.t 41), none⟩,
             ⟨some 43, .mov (.t 5), none⟩,
             ⟨some 44, .nilchk (.t 43), none⟩,
             ⟨some 45, .faddr 3 (.t 44), none⟩,
             ⟨some 46, .load false 1 (.t 45), none⟩,
             ⟨some 2, .mov (.c (.sl true 0 [])), none⟩,
             ⟨some 3, .mov (.t 42), none⟩,
             ⟨some 4, .mov (.t 46), none⟩])
          (.ret))
         (.skip)))
       (.seq (.region [⟨some 47, .mov (.t 5), none⟩,
           ⟨some 48, .nilchk (.t 47), none⟩,
           ⟨some 49, .faddr 2 (.t 48), none⟩,
           ⟨some 50, .load false 1 (.t 49), none⟩,
           ⟨some 2, .mov (.t 50), none⟩,
           ⟨some 3, .mov (.c (.int Go.IntKind.i64 0)), none⟩,
           ⟨some 4, .mov (.c (.int Go.IntKind.i64 0)), none⟩])
        (.ret))))))),
  [.tmp 2, .tmp 3, .tmp 4]⟩

/-- slices.Grow[[]int,int] -/
def a91 : AFunc := ⟨27,
  .seq (.region [⟨some 4, .mov (.c (.sl true 0 [])), none⟩])
  (.seq (.seq (.region [⟨some 5, .mov (.t 1), none⟩,
       ⟨some 6, .bin .lss (.t 5) (.c (.int Go.IntKind.i64 0)), none⟩])
    (.cond (.t 6)
     (.stuck)
     (.skip)))
   (.seq (.seq (.region [⟨some 8, .mov (.t 1), none⟩,
        ⟨some 9, .mov (.t 0), none⟩,
        ⟨some 10, .cap (.t 9), none⟩,
        ⟨some 11, .mov (.t 0), none⟩,
        ⟨some 12, .len (.t 11), none⟩,
        ⟨some 13, .bin .sub (.t 10) (.t 12), none⟩,
        ⟨some 14, .bin .sub (.t 8) (.t 13), none⟩,
        ⟨some 1, .mov (.t 14), none⟩])
     (.seq (.region [⟨some 15, .mov (.t 1), none⟩,
         ⟨some 16, .bin .gtr (.t 15) (.c (.int Go.IntKind.i64 0)), none⟩])
      (.cond (.t 16)
       (.region [⟨some 17, .mov (.t 0), none⟩,
          ⟨some 18, .mov (.t 0), none⟩,
          ⟨some 19, .cap (.t 18), none⟩,
          ⟨some 20, .slice 1 (.t 17) none (some (.t 19)) none, none⟩,
          ⟨some 21, .mov (.t 1), none⟩,
          ⟨some 22, .appendz [.int Go.IntKind.i64 0] 8 (.t 20) (.t 21), none⟩,
          ⟨some 23, .mov (.t 0), none⟩,
          ⟨some 24, .len (.t 23), none⟩,
          ⟨some 25, .slice 1 (.t 22) none (some (.t 24)) none, none⟩,
          ⟨some 0, .mov (.t 25), none⟩])
       (.skip))))
    (.seq (.region [⟨some 26, .mov (.t 0), none⟩,
        ⟨some 4, .mov (.t 26), none⟩])
     (.ret)))),
  [.tmp 4]⟩

/-- slices.Grow[[]sentinel/api.Rule,sentinel/api.Rule] -/
def a92 : AFunc := ⟨27,
  .seq (.region [⟨some 4, .mov (.c (.sl true 0 [])), none⟩])
  (.seq (.seq (.region [⟨some 5, .mov (.t 1), none⟩,
       ⟨some 6, .bin .lss (.t 5) (.c (.int Go.IntKind.i64 0)), none⟩])
    (.cond (.t 6)
     (.stuck)
     (.skip)))
   (.seq (.seq (.region [⟨some 8, .mov (.t 1), none⟩,
        ⟨some 9, .mov (.t 0), none⟩,
        ⟨some 10, .cap (.t 9), none⟩,
        ⟨some 11, .mov (.t 0), none⟩,
        ⟨some 12, .len (.t 11), none⟩,
        ⟨some 13, .bin .sub (.t 10) (.t 12), none⟩,
        ⟨some 14, .bin .sub (.t 8) (.t 13), none⟩,
        ⟨some 1, .mov (.t 14), none⟩])
     (.seq (.region [⟨some 15, .mov (.t 1), none⟩,
         ⟨some 16, .bin .gtr (.t 15) (.c (.int Go.IntKind.i64 0)), none⟩])
      (.cond (.t 16)
       (.region [⟨some 17, .mov (.t 0), none⟩,
          ⟨some 18, .mov (.t 0), none⟩,
          ⟨some 19, .cap (.t 18), none⟩,
          ⟨some 20, .slice 5 (.t 17) none (some (.t 19)) none, none⟩,
          ⟨some 21, .mov (.t 1), none⟩,
          ⟨some 22, .appendz [.int Go.IntKind.i64 0, .int Go.IntKind.i64 0, .int Go.IntKind.i64 0, .int Go.IntKind.u8 0, .int Go.IntKind.u8 0] 32 (.t 20) (.t 21), none⟩,
          ⟨some 23, .mov (.t 0), none⟩,
          ⟨some 24, .len (.t 23), none⟩,
          ⟨some 25, .slice 5 (.t 22) none (some (.t 24)) none, none⟩,
          ⟨some 0, .mov (.t 25), none⟩])
       (.skip))))
    (.seq (.region [⟨some 26, .mov (.t 0), none⟩,
        ⟨some 4, .mov (.t 26), none⟩])
     (.ret)))),
  [.tmp 4]⟩

def a93l0b : ACode :=
  .seq (.region [⟨some 17, .bin .lss (.t 16) (.t 15), none⟩])
  (.seq (.cond (.t 17)
    (.skip)
    (.exit 0))
   (.seq (.block 1 (.seq (.region [⟨some 18, .mov (.t 16), none⟩,
         ⟨some 9, .mov (.t 18), none⟩])
      (.region [⟨some 19, .mov (.t 8), none⟩,
         ⟨some 20, .mov (.t 2), none⟩,
         ⟨some 21, .mov (.t 7), none⟩,
         ⟨some 22, .mov (.t 0), none⟩,
         ⟨some 23, .mov (.t 9), none⟩,
         ⟨some 24, .icall (.t 21) [(.t 22), (.t 23)], none⟩,
         ⟨some 25, .mov (.t 7), none⟩,
         ⟨some 26, .mov (.t 1), none⟩,
         ⟨some 27, .mov (.t 9), none⟩,
         ⟨some 28, .icall (.t 25) [(.t 26), (.t 27)], none⟩,
         ⟨some 29, .icall (.t 20) [(.t 24), (.t 28)], none⟩,
         ⟨some 30, .bslice true [.int Go.IntKind.u64 0] 1 1 [(0, (.t 29))], none⟩,
         ⟨some 31, .append false 1 8 (.t 19) (.t 30), none⟩,
         ⟨some 8, .mov (.t 31), none⟩])))
    (.region [⟨some 32, .bin .add (.t 16) (.c (.int Go.IntKind.i64 1)), none⟩,
       ⟨some 16, .mov (.t 32), none⟩])))

def a93l0 : ACode := a93l0b
def a93l0s : List Nat := [3, 4, 5, 6, 9, 10, 11, 12, 13, 14, 17, 18, 19, 20, 21, 22, 23, 24, 25, 26, 27, 28, 29, 30, 31, 32, 33, 34, 35, 36, 37, 38, 39, 40, 41, 42, 43, 44, 45, 46, 47, 48, 49, 50, 51]
abbrev a93l0F (s0 s1 s2 s7 s8 s15 s16 : AV) : List AV := [s0, s1, s2, .any, .any, .any, .any, s7, s8, .any, .any, .any, .any, .any, .any, s15, s16, .any, .any, .any, .any, .any, .any, .any, .any, .any, .any, .any, .any, .any, .any, .any, .any, .any, .any, .any, .any, .any, .any, .any, .any, .any, .any, .any, .any, .any, .any, .any, .any, .any, .any, .any]
theorem a93l0c (s0 s1 s2 s3 s4 s5 s6 s7 s8 s9 s10 s11 s12 s13 s14 s15 s16 s17 s18 s19 s20 s21 s22 s23 s24 s25 s26 s27 s28 s29 s30 s31 s32 s33 s34 s35 s36 s37 s38 s39 s40 s41 s42 s43 s44 s45 s46 s47 s48 s49 s50 s51 : AV) : clearA a93l0s [s0, s1, s2, s3, s4, s5, s6, s7, s8, s9, s10, s11, s12, s13, s14, s15, s16, s17, s18, s19, s20, s21, s22, s23, s24, s25, s26, s27, s28, s29, s30, s31, s32, s33, s34, s35, s36, s37, s38, s39, s40, s41, s42, s43, s44, s45, s46, s47, s48, s49, s50, s51] = a93l0F s0 s1 s2 s7 s8 s15 s16 := by kernel_rfl
theorem a93l0n {prog : Nat → Option AFunc} (s0 s1 s2 s7 s8 s15 s16 : AV) (H : Heap) : (lim prog).loop a93l0s a93l0 ⟨a93l0F s0 s1 s2 s7 s8 s15 s16, H⟩ = loopK (lim prog) a93l0s a93l0 (run (lim prog) a93l0b ⟨a93l0F s0 s1 s2 s7 s8 s15 s16, H⟩) := lim_loop_step _ _ _ _ (by kernel_rfl)

def a93l1b : ACode :=
  .seq (.seq (.region [⟨some 33, .mov (.t 8), none⟩,
      ⟨some 34, .len (.t 33), none⟩,
      ⟨some 35, .bin .gtr (.t 34) (.c (.int Go.IntKind.i64 0)), none⟩,
      ⟨some 36, .mov (.t 35), none⟩,
      ⟨some 37, .mov (.t 8), some (36, true)⟩,
      ⟨some 38, .mov (.t 8), some (36, true)⟩,
      ⟨some 39, .len (.t 38), some (36, true)⟩,
      ⟨some 40, .bin .sub (.t 39) (.c (.int Go.IntKind.i64 1)), some (36, true)⟩,
      ⟨some 41, .iaddr 1 (.t 37) (.t 40), some (36, true)⟩,
      ⟨some 42, .load false 1 (.t 41), some (36, true)⟩,
      ⟨some 43, .bin .eql (.t 42) (.c (.int Go.IntKind.u64 0)), some (36, true)⟩,
      ⟨some 44, .pick (.t 36) (.t 43) (.c (.bool false)), none⟩])
   (.cond (.t 44)
    (.skip)
    (.exit 2)))
  (.block 3 (.region [⟨some 45, .mov (.t 8), none⟩,
      ⟨some 46, .mov (.t 8), none⟩,
      ⟨some 47, .len (.t 46), none⟩,
      ⟨some 48, .bin .sub (.t 47) (.c (.int Go.IntKind.i64 1)), none⟩,
      ⟨some 49, .slice 1 (.t 45) none (some (.t 48)) none, none⟩,
      ⟨some 8, .mov (.t 49), none⟩]))

def a93l1 : ACode := a93l1b
def a93l1s : List Nat := [0, 1, 2, 3, 4, 5, 6, 7, 9, 10, 11, 12, 13, 14, 15, 16, 17, 18, 19, 20, 21, 22, 23, 24, 25, 26, 27, 28, 29, 30, 31, 32, 33, 34, 35, 36, 37, 38, 39, 40, 41, 42, 43, 44, 45, 46, 47, 48, 49, 50, 51]
abbrev a93l1F (s8 : AV) : List AV := [.any, .any, .any, .any, .any, .any, .any, .any, s8, .any, .any, .any, .any, .any, .any, .any, .any, .any, .any, .any, .any, .any, .any, .any, .any, .any, .any, .any, .any, .any, .any, .any, .any, .any, .any, .any, .any, .any, .any, .any, .any, .any, .any, .any, .any, .any, .any, .any, .any, .any, .any, .any]
theorem a93l1c (s0 s1 s2 s3 s4 s5 s6 s7 s8 s9 s10 s11 s12 s13 s14 s15 s16 s17 s18 s19 s20 s21 s22 s23 s24 s25 s26 s27 s28 s29 s30 s31 s32 s33 s34 s35 s36 s37 s38 s39 s40 s41 s42 s43 s44 s45 s46 s47 s48 s49 s50 s51 : AV) : clearA a93l1s [s0, s1, s2, s3, s4, s5, s6, s7, s8, s9, s10, s11, s12, s13, s14, s15, s16, s17, s18, s19, s20, s21, s22, s23, s24, s25, s26, s27, s28, s29, s30, s31, s32, s33, s34, s35, s36, s37, s38, s39, s40, s41, s42, s43, s44, s45, s46, s47, s48, s49, s50, s51] = a93l1F s8 := by kernel_rfl
theorem a93l1n {prog : Nat → Option AFunc} (s8 : AV) (H : Heap) : (lim prog).loop a93l1s a93l1 ⟨a93l1F s8, H⟩ = loopK (lim prog) a93l1s a93l1 (run (lim prog) a93l1b ⟨a93l1F s8, H⟩) := lim_loop_step _ _ _ _ (by kernel_rfl)

/-- sentinel/bitset.combine -/
def a93 : AFunc := ⟨52,
  .seq (.region [⟨some 6, .mov (.c (.sl true 0 [])), none⟩])
  (.seq (.region [⟨some 7, .mov (.c (.func 104 [])), none⟩])
   (.seq (.region [⟨some 8, .mov (.c (.sl true 0 [])), none⟩])
    (.seq (.seq (.region [⟨some 10, .mov (.t 0), none⟩,
         ⟨some 11, .len (.t 10), none⟩,
         ⟨some 12, .mov (.t 1), none⟩,
         ⟨some 13, .len (.t 12), none⟩,
         ⟨some 14, .maxi (.t 11) (.t 13), none⟩,
         ⟨some 15, .mini (.t 14) (.c (.int Go.IntKind.i64 64)), none⟩,
         ⟨some 16, .mov (.c (.int Go.IntKind.i64 0)), none⟩])
      (.block 0 (.loop a93l0s a93l0)))
     (.seq (.block 2 (.loop a93l1s a93l1))
      (.seq (.region [⟨some 50, .mov (.t 8), none⟩,
          ⟨some 51, .call 105 [(.t 50)], none⟩,
          ⟨some 6, .mov (.t 51), none⟩])
       (.ret)))))),
  [.tmp 6]⟩

/-- sentinel/bitset.Union -/
def a95 : AFunc := ⟨8,
  .seq (.region [⟨some 4, .mov (.c (.sl true 0 [])), none⟩])
  (.seq (.region [⟨some 5, .mov (.t 0), none⟩,
      ⟨some 6, .mov (.t 1), none⟩,
      ⟨some 7, .icall (.c (.func 93 [])) [(.t 5), (.t 6), (.c (.func 106 []))], none⟩,
      ⟨some 4, .mov (.t 7), none⟩])
   (.ret)),
  [.tmp 4]⟩

def a96l0b : ACode :=
  .seq (.region [⟨some 22, .bin .lss (.t 21) (.c (.int Go.IntKind.i64 2)), none⟩])
  (.seq (.cond (.t 22)
    (.skip)
    (.exit 0))
   (.seq (.block 1 (.seq (.region [⟨some 23, .idx false 1 2 (.t 20) (.t 21), none⟩,
         ⟨some 7, .mov (.t 23), none⟩])
      (.seq (.block 2 (.seq (.region [⟨some 25, .mov (.t 7), none⟩,
            ⟨some 26, .bin .eql (.t 25) (.c (.int Go.IntKind.i64 (-1))), none⟩,
            ⟨some 24, .mov (.t 26), none⟩])
         (.cond (.t 24)
          (.exit 1)
          (.seq (.region [⟨some 28, .mov (.t 7), none⟩,
              ⟨some 29, .mov (.t 5), none⟩,
              ⟨some 30, .bin .neq (.t 28) (.t 29), none⟩,
              ⟨some 31, .mov (.t 30), none⟩,
              ⟨some 32, .mov (.t 5), some (31, false)⟩,
              ⟨some 33, .mov (.t 0), some (31, false)⟩,
              ⟨some 34, .len (.t 33), some (31, false)⟩,
              ⟨some 35, .bin .geq (.t 32) (.t 34), some (31, false)⟩,
              ⟨some 36, .pick (.t 31) (.c (.bool true)) (.t 35), none⟩,
              ⟨some 27, .mov (.t 36), none⟩])
           (.cond (.t 27)
            (.seq (.region [⟨some 4, .mov (.c (.int Go.IntKind.i64 (-1))), none⟩])
             (.ret))
            (.skip))))))
       (.seq (.region [⟨some 37, .mov (.t 0), none⟩,
           ⟨some 38, .mov (.t 5), none⟩,
           ⟨some 39, .call 96 [(.t 37), (.t 38)], none⟩,
           ⟨some 5, .mov (.t 39), none⟩])
        (.seq (.region [⟨some 40, .mov (.t 5), none⟩,
            ⟨some 41, .bin .eql (.t 40) (.c (.int Go.IntKind.i64 (-1))), none⟩])
         (.cond (.t 41)
          (.seq (.region [⟨some 4, .mov (.c (.int Go.IntKind.i64 (-1))), none⟩])
           (.ret))
          (.skip)))))))
    (.region [⟨some 42, .bin .add (.t 21) (.c (.int Go.IntKind.i64 1)), none⟩,
       ⟨some 21, .mov (.t 42), none⟩])))

def a96l0 : ACode := a96l0b
def a96l0s : List Nat := [1, 2, 3, 6, 7, 8, 9, 10, 11, 12, 13, 14, 15, 16, 17, 18, 19, 22, 23, 24, 25, 26, 27, 28, 29, 30, 31, 32, 33, 34, 35, 36, 37, 38, 39, 40, 41, 42, 43]
abbrev a96l0F (s0 s4 s5 s20 s21 : AV) : List AV := [s0, .any, .any, .any, s4, s5, .any, .any, .any, .any, .any, .any, .any, .any, .any, .any, .any, .any, .any, .any, s20, s21, .any, .any, .any, .any, .any, .any, .any, .any, .any, .any, .any, .any, .any, .any, .any, .any, .any, .any, .any, .any, .any, .any]
theorem a96l0c (s0 s1 s2 s3 s4 s5 s6 s7 s8 s9 s10 s11 s12 s13 s14 s15 s16 s17 s18 s19 s20 s21 s22 s23 s24 s25 s26 s27 s28 s29 s30 s31 s32 s33 s34 s35 s36 s37 s38 s39 s40 s41 s42 s43 : AV) : clearA a96l0s [s0, s1, s2, s3, s4, s5, s6, s7, s8, s9, s10, s11, s12, s13, s14, s15, s16, s17, s18, s19, s20, s21, s22, s23, s24, s25, s26, s27, s28, s29, s30, s31, s32, s33, s34, s35, s36, s37, s38, s39, s40, s41, s42, s43] = a96l0F s0 s4 s5 s20 s21 := by kernel_rfl
theorem a96l0n {prog : Nat → Option AFunc} (s0 s4 s5 s20 s21 : AV) (H : Heap) : (lim prog).loop a96l0s a96l0 ⟨a96l0F s0 s4 s5 s20 s21, H⟩ = loopK (lim prog) a96l0s a96l0 (run (lim prog) a96l0b ⟨a96l0F s0 s4 s5 s20 s21, H⟩) := lim_loop_step _ _ _ _ (by kernel_rfl)

/-- sentinel/tree.end -/
def a96 : AFunc := ⟨44,
  .seq (.region [⟨some 4, .mov (.c (.int Go.IntKind.i64 0)), none⟩])
  (.seq (.region [⟨some 8, .mov (.t 1), none⟩,
      ⟨some 9, .bin .add (.t 8) (.c (.int Go.IntKind.i64 1)), none⟩,
      ⟨some 5, .mov (.t 9), none⟩])
   (.seq (.seq (.draw 12 [⟨some 10, .mov (.t 0), none⟩,
        ⟨some 11, .mov (.t 1), none⟩,
        ⟨some 12, .iaddr 3 (.t 10) (.t 11), none⟩,
        ⟨some 13, .faddr 1 (.t 12), none⟩,
        ⟨some 14, .load false 1 (.t 13), none⟩,
        ⟨some 15, .mov (.t 0), none⟩,
        ⟨some 16, .mov (.t 1), none⟩,
        ⟨some 17, .iaddr 3 (.t 15) (.t 16), none⟩,
        ⟨some 18, .faddr 2 (.t 17), none⟩,
        ⟨some 19, .load false 1 (.t 18), none⟩,
        ⟨some 20, .build [.int Go.IntKind.i64 0, .int Go.IntKind.i64 0] [(0, 1, (.t 14)), (1, 1, (.t 19))], none⟩,
        ⟨some 21, .mov (.c (.int Go.IntKind.i64 0)), none⟩])
     (.block 0 (.loop a96l0s a96l0)))
    (.seq (.region [⟨some 43, .mov (.t 5), none⟩,
        ⟨some 4, .mov (.t 43), none⟩])
     (.ret)))),
  [.tmp 4]⟩

/-- (*sentinel/tree.reader).tree -/
def a102 : AFunc := ⟨135,
  .seq (.region [⟨some 2, .mov (.c (.int Go.IntKind.i64 0)), none⟩])
  (.seq (.seq (.draw 26 [⟨some 7, .mov (.t 0), none⟩,
       ⟨some 8, .nilchk (.t 7), none⟩,
       ⟨some 9, .faddr 3 (.t 8), none⟩,
       ⟨some 10, .load false 1 (.t 9), none⟩,
       ⟨some 11, .bin .eql (.t 10) (.c (.int Go.IntKind.i64 0)), none⟩,
       ⟨some 12, .mov (.t 11), none⟩,
       ⟨some 13, .mov (.t 0), some (12, true)⟩,
       ⟨some 14, .nilchk (.t 13), some (12, true)⟩,
       ⟨some 15, .faddr 1 (.t 14), some (12, true)⟩,
       ⟨some 16, .load false 1 (.t 15), some (12, true)⟩,
       ⟨some 17, .mov (.t 0), some (12, true)⟩,
       ⟨some 18, .nilchk (.t 17), some (12, true)⟩,
       ⟨some 19, .faddr 0 (.t 18), some (12, true)⟩,
       ⟨some 20, .load false 1 (.t 19), some (12, true)⟩,
       ⟨some 21, .slen (.t 20), some (12, true)⟩,
       ⟨some 22, .bin .lss (.t 16) (.t 21), some (12, true)⟩,
       ⟨some 23, .pick (.t 12) (.t 22) (.c (.bool false)), none⟩,
       ⟨some 24, .mov (.t 23), none⟩,
       ⟨some 25, .mov (.t 0), some (24, true)⟩,
       ⟨some 26, .nilchk (.t 25), some (24, true)⟩,
       ⟨some 27, .faddr 0 (.t 26), some (24, true)⟩,
       ⟨some 28, .load false 1 (.t 27), some (24, true)⟩,
       ⟨some 29, .mov (.t 0), some (24, true)⟩,
       ⟨some 30, .nilchk (.t 29), some (24, true)⟩,
       ⟨some 31, .faddr 1 (.t 30), some (24, true)⟩,
       ⟨some 32, .load false 1 (.t 31), some (24, true)⟩,
       ⟨some 33, .sidx (.t 28) (.t 32), some (24, true)⟩,
       ⟨some 34, .bin .eql (.t 33) (.c (.int Go.IntKind.u8 45)), some (24, true)⟩,
       ⟨some 35, .pick (.t 24) (.t 34) (.c (.bool false)), none⟩])
    (.cond (.t 35)
     (.seq (.region [⟨some 36, .mov (.t 0), none⟩,
         ⟨some 37, .nilchk (.t 36), none⟩,
         ⟨some 38, .faddr 1 (.t 37), none⟩,
         ⟨some 39, .load false 1 (.t 38), none⟩,
         ⟨some 40, .bin .add (.t 39) (.c (.int Go.IntKind.i64 1)), none⟩,
         ⟨some 41, .nilchk (.t 36), none⟩,
         ⟨some 42, .faddr 1 (.t 41), none⟩,
         ⟨none, .store 1 (.t 42) (.t 40), none⟩])
      (.seq (.region [⟨some 2, .mov (.c (.int Go.IntKind.i64 (-1))), none⟩])
       (.ret)))
     (.skip)))
   (.seq (.seq (.draw 26 [⟨some 43, .mov (.t 0), none⟩,
        ⟨some 44, .nilchk (.t 43), none⟩,
        ⟨some 45, .faddr 3 (.t 44), none⟩,
        ⟨some 46, .load false 1 (.t 45), none⟩,
        ⟨some 47, .bin .eql (.t 46) (.c (.int Go.IntKind.i64 0)), none⟩,
        ⟨some 48, .mov (.t 47), none⟩,
        ⟨some 49, .mov (.t 0), some (48, true)⟩,
        ⟨some 50, .nilchk (.t 49), some (48, true)⟩,
        ⟨some 51, .faddr 1 (.t 50), some (48, true)⟩,
        ⟨some 52, .load false 1 (.t 51), some (48, true)⟩,
        ⟨some 53, .mov (.t 0), some (48, true)⟩,
        ⟨some 54, .nilchk (.t 53), some (48, true)⟩,
        ⟨some 55, .faddr 0 (.t 54), some (48, true)⟩,
        ⟨some 56, .load false 1 (.t 55), some (48, true)⟩,
        ⟨some 57, .slen (.t 56), some (48, true)⟩,
        ⟨some 58, .bin .lss (.t 52) (.t 57), some (48, true)⟩,
        ⟨some 59, .pick (.t 48) (.t 58) (.c (.bool false)), none⟩,
        ⟨some 60, .mov (.t 59), none⟩,
        ⟨some 61, .mov (.t 0), some (60, true)⟩,
        ⟨some 62, .nilchk (.t 61), some (60, true)⟩,
        ⟨some 63, .faddr 0 (.t 62), some (60, true)⟩,
        ⟨some 64, .load false 1 (.t 63), some (60, true)⟩,
        ⟨some 65, .mov (.t 0), some (60, true)⟩,
        ⟨some 66, .nilchk (.t 65), some (60, true)⟩,
        ⟨some 67, .faddr 1 (.t 66), some (60, true)⟩,
        ⟨some 68, .load false 1 (.t 67), some (60, true)⟩,
        ⟨some 69, .sidx (.t 64) (.t 68), some (60, true)⟩,
        ⟨some 70, .bin .eql (.t 69) (.c (.int Go.IntKind.u8 40)), some (60, true)⟩,
        ⟨some 71, .pick (.t 60) (.t 70) (.c (.bool false)), none⟩,
        ⟨some 72, .mov (.t 71), none⟩,
        ⟨some 73, .mov (.t 0), some (72, true)⟩,
        ⟨some 74, .nilchk (.t 73), some (72, true)⟩,
        ⟨some 75, .faddr 2 (.t 74), some (72, true)⟩,
        ⟨some 76, .load false 1 (.t 75), some (72, true)⟩,
        ⟨some 77, .len (.t 76), some (72, true)⟩,
        ⟨some 78, .bin .eql (.t 77) (.c (.int Go.IntKind.i64 31)), some (72, true)⟩,
        ⟨some 79, .pick (.t 72) (.t 78) (.c (.bool false)), none⟩])
     (.cond (.t 79)
      (.region [⟨some 80, .mov (.t 0), none⟩,
         ⟨some 81, .mov (.t 0), none⟩,
         ⟨some 82, .nilchk (.t 81), none⟩,
         ⟨some 83, .faddr 1 (.t 82), none⟩,
         ⟨some 84, .load false 1 (.t 83), none⟩,
         ⟨some 85, .icall (.c (.func 103 [])) [(.t 80), (.t 84), (.c (.int Go.IntKind.i64 4))], none⟩])
      (.skip)))
    (.seq (.seq (.region [⟨some 86, .mov (.t 0), none⟩,
         ⟨some 87, .icall (.c (.func 111 [])) [(.t 86), (.c (.int Go.IntKind.u8 40))], none⟩,
         ⟨some 88, .un .not (.t 87), none⟩])
      (.cond (.t 88)
       (.seq (.region [⟨some 2, .mov (.c (.int Go.IntKind.i64 (-1))), none⟩])
        (.ret))
       (.skip)))
     (.seq (.region [⟨some 89, .mov (.t 0), none⟩,
         ⟨some 90, .nilchk (.t 89), none⟩,
         ⟨some 91, .faddr 2 (.t 90), none⟩,
         ⟨some 92, .load false 1 (.t 91), none⟩,
         ⟨some 93, .len (.t 92), none⟩,
         ⟨some 3, .mov (.t 93), none⟩])
      (.seq (.drawh [(97, (1, 6))] [] [] 5 [⟨some 94, .mov (.t 0), none⟩,
          ⟨some 95, .mov (.t 0), none⟩,
          ⟨some 96, .nilchk (.t 95), none⟩,
          ⟨some 97, .faddr 2 (.t 96), none⟩,
          ⟨some 98, .load false 1 (.t 97), none⟩,
          ⟨some 99, .mov (.t 0), none⟩,
          ⟨some 100, .icall (.c (.func 112 [])) [(.t 99)], none⟩,
          ⟨some 101, .build [.int Go.IntKind.u8 0, .int Go.IntKind.i64 0, .int Go.IntKind.i64 0] [(0, 1, (.t 100)), (1, 1, (.c (.int Go.IntKind.i64 (-1)))), (2, 1, (.c (.int Go.IntKind.i64 (-1))))], none⟩,
          ⟨some 102, .bslice true [.int Go.IntKind.u8 0, .int Go.IntKind.i64 0, .int Go.IntKind.i64 0] 3 1 [(0, (.t 101))], none⟩,
          ⟨some 103, .append false 3 24 (.t 98) (.t 102), none⟩,
          ⟨some 104, .nilchk (.t 94), none⟩,
          ⟨some 105, .faddr 2 (.t 104), none⟩,
          ⟨none, .store 1 (.t 105) (.t 103), none⟩])
       (.seq (.region [⟨some 106, .mov (.t 0), none⟩,
           ⟨some 107, .mkbound 102 [(.t 106)], none⟩,
           ⟨some 4, .mov (.t 107), none⟩])
        (.seq (.seq (.region [⟨some 108, .mov (.t 0), none⟩,
             ⟨some 109, .icall (.c (.func 111 [])) [(.t 108), (.c (.int Go.IntKind.u8 32))], none⟩])
          (.cond (.t 109)
           (.seq (.region [⟨some 110, .mov (.t 4), none⟩,
               ⟨some 111, .bcall (.t 110) [], none⟩,
               ⟨some 5, .mov (.t 111), none⟩])
            (.region [⟨some 112, .mov (.t 0), none⟩,
               ⟨some 113, .nilchk (.t 112), none⟩,
               ⟨some 114, .faddr 2 (.t 113), none⟩,
               ⟨some 115, .load false 1 (.t 114), none⟩,
               ⟨some 116, .mov (.t 3), none⟩,
               ⟨some 117, .mov (.t 5), none⟩,
               ⟨some 118, .iaddr 3 (.t 115) (.t 116), none⟩,
               ⟨some 119, .faddr 1 (.t 118), none⟩,
               ⟨none, .store 1 (.t 119) (.t 117), none⟩]))
           (.skip)))
         (.seq (.seq (.region [⟨some 120, .mov (.t 0), none⟩,
              ⟨some 121, .icall (.c (.func 111 [])) [(.t 120), (.c (.int Go.IntKind.u8 32))], none⟩])
           (.cond (.t 121)
            (.seq (.region [⟨some 122, .mov (.t 4), none⟩,
                ⟨some 123, .bcall (.t 122) [], none⟩,
                ⟨some 6, .mov (.t 123), none⟩])
             (.region [⟨some 124, .mov (.t 0), none⟩,
                ⟨some 125, .nilchk (.t 124), none⟩,
                ⟨some 126, .faddr 2 (.t 125), none⟩,
                ⟨some 127, .load false 1 (.t 126), none⟩,
                ⟨some 128, .mov (.t 3), none⟩,
                ⟨some 129, .mov (.t 6), none⟩,
                ⟨some 130, .iaddr 3 (.t 127) (.t 128), none⟩,
                ⟨some 131, .faddr 2 (.t 130), none⟩,
                ⟨none, .store 1 (.t 131) (.t 129), none⟩]))
            (.skip)))
          (.seq (.region [⟨some 132, .mov (.t 0), none⟩,
              ⟨some 133, .icall (.c (.func 111 [])) [(.t 132), (.c (.int Go.IntKind.u8 41))], none⟩])
           (.seq (.region [⟨some 134, .mov (.t 3), none⟩,
               ⟨some 2, .mov (.t 134), none⟩])
            (.ret))))))))))),
  [.tmp 2]⟩

/-- (*sentinel/tree.reader).fail -/
def a103 : AFunc := ⟨19,
  .seq (.region [⟨some 6, .mov (.t 0), none⟩,
     ⟨some 7, .nilchk (.t 6), none⟩,
     ⟨some 8, .faddr 3 (.t 7), none⟩,
     ⟨some 9, .load false 1 (.t 8), none⟩,
     ⟨some 10, .bin .eql (.t 9) (.c (.int Go.IntKind.i64 0)), none⟩])
  (.cond (.t 10)
   (.region [⟨some 11, .mov (.t 0), none⟩,
      ⟨some 12, .mov (.t 0), none⟩,
      ⟨some 13, .mov (.t 1), none⟩,
      ⟨some 14, .mov (.t 2), none⟩,
      ⟨some 15, .nilchk (.t 11), none⟩,
      ⟨some 16, .faddr 1 (.t 15), none⟩,
      ⟨none, .store 1 (.t 16) (.t 13), none⟩,
      ⟨some 17, .nilchk (.t 12), none⟩,
      ⟨some 18, .faddr 3 (.t 17), none⟩,
      ⟨none, .store 1 (.t 18) (.t 14), none⟩])
   (.skip)),
  []⟩

/-- sentinel/bitset.combine$1 -/
def a104 : AFunc := ⟨13,
  .seq (.region [⟨some 4, .mov (.c (.int Go.IntKind.u64 0)), none⟩])
  (.seq (.seq (.region [⟨some 5, .mov (.t 1), none⟩,
       ⟨some 6, .mov (.t 0), none⟩,
       ⟨some 7, .len (.t 6), none⟩,
       ⟨some 8, .bin .lss (.t 5) (.t 7), none⟩])
    (.cond (.t 8)
     (.seq (.region [⟨some 9, .mov (.t 0), none⟩,
         ⟨some 10, .mov (.t 1), none⟩,
         ⟨some 11, .iaddr 1 (.t 9) (.t 10), none⟩,
         ⟨some 12, .load false 1 (.t 11), none⟩,
         ⟨some 4, .mov (.t 12), none⟩])
      (.ret))
     (.skip)))
   (.seq (.region [⟨some 4, .mov (.c (.int Go.IntKind.u64 0)), none⟩])
    (.ret))),
  [.tmp 4]⟩

/-- slices.Clip[sentinel/api.Set,uint64] -/
def a105 : AFunc := ⟨9,
  .seq (.region [⟨some 2, .mov (.c (.sl true 0 [])), none⟩])
  (.seq (.region [⟨some 3, .mov (.t 0), none⟩,
      ⟨some 4, .mov (.t 0), none⟩,
      ⟨some 5, .len (.t 4), none⟩,
      ⟨some 6, .mov (.t 0), none⟩,
      ⟨some 7, .len (.t 6), none⟩,
      ⟨some 8, .slice 1 (.t 3) none (some (.t 5)) (some (.t 7)), none⟩,
      ⟨some 2, .mov (.t 8), none⟩])
   (.ret)),
  [.tmp 2]⟩

/-- sentinel/bitset.Union$1 -/
def a106 : AFunc := ⟨8,
  .seq (.region [⟨some 4, .mov (.c (.int Go.IntKind.u64 0)), none⟩])
  (.seq (.region [⟨some 5, .mov (.t 0), none⟩,
      ⟨some 6, .mov (.t 1), none⟩,
      ⟨some 7, .bin .or (.t 5) (.t 6), none⟩,
      ⟨some 4, .mov (.t 7), none⟩])
   (.ret)),
  [.tmp 4]⟩

/-- (*sentinel/tree.reader).next -/
def a111 : AFunc := ⟨58,
  .seq (.region [⟨some 4, .mov (.c (.bool false)), none⟩])
  (.seq (.block 0 (.seq (.region [⟨some 13, .mov (.t 0), none⟩,
        ⟨some 14, .nilchk (.t 13), none⟩,
        ⟨some 15, .faddr 3 (.t 14), none⟩,
        ⟨some 16, .load false 1 (.t 15), none⟩,
        ⟨some 17, .bin .neq (.t 16) (.c (.int Go.IntKind.i64 0)), none⟩,
        ⟨some 12, .mov (.t 17), none⟩])
     (.cond (.t 12)
      (.skip)
      (.seq (.draw 4 [⟨some 19, .mov (.t 0), none⟩,
          ⟨some 20, .nilchk (.t 19), none⟩,
          ⟨some 21, .faddr 1 (.t 20), none⟩,
          ⟨some 22, .load false 1 (.t 21), none⟩,
          ⟨some 23, .mov (.t 0), none⟩,
          ⟨some 24, .nilchk (.t 23), none⟩,
          ⟨some 25, .faddr 0 (.t 24), none⟩,
          ⟨some 26, .load false 1 (.t 25), none⟩,
          ⟨some 27, .slen (.t 26), none⟩,
          ⟨some 28, .bin .eql (.t 22) (.t 27), none⟩,
          ⟨some 18, .mov (.t 28), none⟩])
       (.cond (.t 18)
        (.region [⟨some 29, .mov (.t 0), none⟩,
           ⟨some 30, .mov (.t 0), none⟩,
           ⟨some 31, .nilchk (.t 30), none⟩,
           ⟨some 32, .faddr 1 (.t 31), none⟩,
           ⟨some 33, .load false 1 (.t 32), none⟩,
           ⟨some 34, .icall (.c (.func 103 [])) [(.t 29), (.t 33), (.c (.int Go.IntKind.i64 3))], none⟩])
        (.seq (.draw 9 [⟨some 36, .mov (.t 0), none⟩,
            ⟨some 37, .nilchk (.t 36), none⟩,
            ⟨some 38, .faddr 0 (.t 37), none⟩,
            ⟨some 39, .load false 1 (.t 38), none⟩,
            ⟨some 40, .mov (.t 0), none⟩,
            ⟨some 41, .nilchk (.t 40), none⟩,
            ⟨some 42, .faddr 1 (.t 41), none⟩,
            ⟨some 43, .load false 1 (.t 42), none⟩,
            ⟨some 44, .sidx (.t 39) (.t 43), none⟩,
            ⟨some 45, .mov (.t 1), none⟩,
            ⟨some 46, .bin .neq (.t 44) (.t 45), none⟩,
            ⟨some 35, .mov (.t 46), none⟩])
         (.cond (.t 35)
          (.region [⟨some 47, .mov (.t 0), none⟩,
             ⟨some 48, .mov (.t 0), none⟩,
             ⟨some 49, .nilchk (.t 48), none⟩,
             ⟨some 50, .faddr 1 (.t 49), none⟩,
             ⟨some 51, .load false 1 (.t 50), none⟩,
             ⟨some 52, .icall (.c (.func 103 [])) [(.t 47), (.t 51), (.c (.int Go.IntKind.i64 2))], none⟩])
          (.region [⟨some 5, .mov (.t 0), none⟩,
             ⟨some 6, .nilchk (.t 5), none⟩,
             ⟨some 7, .faddr 1 (.t 6), none⟩,
             ⟨some 8, .load false 1 (.t 7), none⟩,
             ⟨some 9, .bin .add (.t 8) (.c (.int Go.IntKind.i64 1)), none⟩,
             ⟨some 10, .nilchk (.t 5), none⟩,
             ⟨some 11, .faddr 1 (.t 10), none⟩,
             ⟨none, .store 1 (.t 11) (.t 9), none⟩]))))))))
   (.seq (.region [⟨some 53, .mov (.t 0), none⟩,
       ⟨some 54, .nilchk (.t 53), none⟩,
       ⟨some 55, .faddr 3 (.t 54), none⟩,
       ⟨some 56, .load false 1 (.t 55), none⟩,
       ⟨some 57, .bin .eql (.t 56) (.c (.int Go.IntKind.i64 0)), none⟩,
       ⟨some 4, .mov (.t 57), none⟩])
    (.ret))),
  [.tmp 4]⟩

/-- (*sentinel/tree.reader).label -/
def a112 : AFunc := ⟨66,
  .seq (.region [⟨some 2, .mov (.c (.int Go.IntKind.u8 0)), none⟩])
  (.seq (.draw 4 [⟨some 5, .mov (.t 0), none⟩,
      ⟨some 6, .nilchk (.t 5), none⟩,
      ⟨some 7, .faddr 0 (.t 6), none⟩,
      ⟨some 8, .load false 1 (.t 7), none⟩,
      ⟨some 9, .mov (.t 0), none⟩,
      ⟨some 10, .nilchk (.t 9), none⟩,
      ⟨some 11, .faddr 1 (.t 10), none⟩,
      ⟨some 12, .load false 1 (.t 11), none⟩,
      ⟨some 13, .sslice (.t 8) (some (.t 12)) none, none⟩,
      ⟨some 3, .mov (.t 13), none⟩])
   (.seq (.region [⟨some 14, .mov (.t 3), none⟩,
       ⟨some 15, .slen (.t 14), none⟩,
       ⟨some 16, .mov (.t 3), none⟩,
       ⟨some 17, .call 113 [(.t 16), (.c (.str ⟨#[48, 49, 50, 51, 52, 53, 54, 55, 56, 57]⟩))], none⟩,
       ⟨some 18, .slen (.t 17), none⟩,
       ⟨some 19, .bin .sub (.t 15) (.t 18), none⟩,
       ⟨some 4, .mov (.t 19), none⟩])
    (.seq (.block 0 (.seq (.region [⟨some 21, .mov (.t 3), none⟩,
          ⟨some 22, .sbeq false (.t 21) (.c (.str ⟨#[]⟩)), none⟩,
          ⟨some 20, .mov (.t 22), none⟩])
       (.cond (.t 20)
        (.seq (.region [⟨some 23, .mov (.t 0), none⟩,
            ⟨some 24, .mov (.t 0), none⟩,
            ⟨some 25, .nilchk (.t 24), none⟩,
            ⟨some 26, .faddr 1 (.t 25), none⟩,
            ⟨some 27, .load false 1 (.t 26), none⟩,
            ⟨some 28, .icall (.c (.func 103 [])) [(.t 23), (.t 27), (.c (.int Go.IntKind.i64 3))], none⟩])
         (.seq (.region [⟨some 2, .mov (.c (.int Go.IntKind.u8 0)), none⟩])
          (.ret)))
        (.seq (.region [⟨some 30, .mov (.t 4), none⟩,
            ⟨some 31, .bin .eql (.t 30) (.c (.int Go.IntKind.i64 0)), none⟩,
            ⟨some 29, .mov (.t 31), none⟩])
         (.cond (.t 29)
          (.seq (.region [⟨some 32, .mov (.t 0), none⟩,
              ⟨some 33, .mov (.t 0), none⟩,
              ⟨some 34, .nilchk (.t 33), none⟩,
              ⟨some 35, .faddr 1 (.t 34), none⟩,
              ⟨some 36, .load false 1 (.t 35), none⟩,
              ⟨some 37, .icall (.c (.func 103 [])) [(.t 32), (.t 36), (.c (.int Go.IntKind.i64 2))], none⟩])
           (.seq (.region [⟨some 2, .mov (.c (.int Go.IntKind.u8 0)), none⟩])
            (.ret)))
          (.seq (.region [⟨some 39, .mov (.t 3), none⟩,
              ⟨some 40, .sidx (.t 39) (.c (.int Go.IntKind.i64 0)), none⟩,
              ⟨some 41, .bin .eql (.t 40) (.c (.int Go.IntKind.u8 48)), none⟩,
              ⟨some 38, .mov (.t 41), none⟩])
           (.cond (.t 38)
            (.region [⟨some 4, .mov (.c (.int Go.IntKind.i64 1)), none⟩])
            (.skip))))))))
     (.seq (.seq (.region [⟨some 42, .mov (.t 4), none⟩,
          ⟨some 43, .bin .gtr (.t 42) (.c (.int Go.IntKind.i64 1)), none⟩,
          ⟨some 44, .mov (.t 43), none⟩,
          ⟨some 45, .mov (.t 3), some (44, false)⟩,
          ⟨some 46, .sidx (.t 45) (.c (.int Go.IntKind.i64 0)), some (44, false)⟩,
          ⟨some 47, .bin .sub (.t 46) (.c (.int Go.IntKind.u8 48)), some (44, false)⟩,
          ⟨some 48, .bin .gtr (.t 47) (.c (.int Go.IntKind.u8 7)), some (44, false)⟩,
          ⟨some 49, .pick (.t 44) (.c (.bool true)) (.t 48), none⟩])
       (.cond (.t 49)
        (.seq (.region [⟨some 50, .mov (.t 0), none⟩,
            ⟨some 51, .mov (.t 0), none⟩,
            ⟨some 52, .nilchk (.t 51), none⟩,
            ⟨some 53, .faddr 1 (.t 52), none⟩,
            ⟨some 54, .load false 1 (.t 53), none⟩,
            ⟨some 55, .icall (.c (.func 103 [])) [(.t 50), (.t 54), (.c (.int Go.IntKind.i64 1))], none⟩])
         (.seq (.region [⟨some 2, .mov (.c (.int Go.IntKind.u8 0)), none⟩])
          (.ret)))
        (.skip)))
      (.seq (.region [⟨some 56, .mov (.t 0), none⟩,
          ⟨some 57, .nilchk (.t 56), none⟩,
          ⟨some 58, .faddr 1 (.t 57), none⟩,
          ⟨some 59, .load false 1 (.t 58), none⟩,
          ⟨some 60, .bin .add (.t 59) (.c (.int Go.IntKind.i64 1)), none⟩,
          ⟨some 61, .nilchk (.t 56), none⟩,
          ⟨some 62, .faddr 1 (.t 61), none⟩,
          ⟨none, .store 1 (.t 62) (.t 60), none⟩])
       (.seq (.region [⟨some 63, .mov (.t 3), none⟩,
           ⟨some 64, .sidx (.t 63) (.c (.int Go.IntKind.i64 0)), none⟩,
           ⟨some 65, .bin .sub (.t 64) (.c (.int Go.IntKind.u8 48)), none⟩,
           ⟨some 2, .mov (.t 65), none⟩])
        (.ret))))))),
  [.tmp 2]⟩

/-- strings.TrimLeft -/
def a113 : AFunc := ⟨37,
  .seq (.region [⟨some 4, .mov (.c (.str ⟨#[]⟩)), none⟩])
  (.seq (.seq (.region [⟨some 7, .mov (.t 0), none⟩,
       ⟨some 8, .sbeq false (.t 7) (.c (.str ⟨#[]⟩)), none⟩,
       ⟨some 9, .mov (.t 8), none⟩,
       ⟨some 10, .mov (.t 1), some (9, false)⟩,
       ⟨some 11, .sbeq false (.t 10) (.c (.str ⟨#[]⟩)), some (9, false)⟩,
       ⟨some 12, .pick (.t 9) (.c (.bool true)) (.t 11), none⟩])
    (.cond (.t 12)
     (.seq (.region [⟨some 13, .mov (.t 0), none⟩,
         ⟨some 4, .mov (.t 13), none⟩])
      (.ret))
     (.skip)))
   (.seq (.seq (.region [⟨some 14, .mov (.t 1), none⟩,
        ⟨some 15, .slen (.t 14), none⟩,
        ⟨some 16, .bin .eql (.t 15) (.c (.int Go.IntKind.i64 1)), none⟩,
        ⟨some 17, .mov (.t 16), none⟩,
        ⟨some 18, .mov (.t 1), some (17, true)⟩,
        ⟨some 19, .sidx (.t 18) (.c (.int Go.IntKind.i64 0)), some (17, true)⟩,
        ⟨some 20, .bin .lss (.t 19) (.c (.int Go.IntKind.u8 128)), some (17, true)⟩,
        ⟨some 21, .pick (.t 17) (.t 20) (.c (.bool false)), none⟩])
     (.cond (.t 21)
      (.seq (.region [⟨some 22, .mov (.t 0), none⟩,
          ⟨some 23, .mov (.t 1), none⟩,
          ⟨some 24, .sidx (.t 23) (.c (.int Go.IntKind.i64 0)), none⟩,
          ⟨some 25, .call 114 [(.t 22), (.t 24)], none⟩,
          ⟨some 4, .mov (.t 25), none⟩])
       (.ret))
      (.skip)))
    (.seq (.seq (.region [⟨some 27, .mov (.t 1), none⟩,
         ⟨some 28, .call 115 [(.t 27)], none⟩,
         ⟨some 26, .mov (.t 28), none⟩,
         ⟨some 29, .ext 0 (.t 26), none⟩,
         ⟨some 30, .ext 1 (.t 26), none⟩,
         ⟨some 5, .box (.c (.agg [.bool false, .bool false, .bool false, .bool false, .bool false, .bool false, .bool false, .bool false, .bool false, .bool false, .bool false, .bool false, .bool false, .bool false, .bool false, .bool false, .bool false, .bool false, .bool false, .bool false, .bool false, .bool false, .bool false, .bool false, .bool false, .bool false, .bool false, .bool false, .bool false, .bool false, .bool false, .bool false, .bool false, .bool false, .bool false, .bool false, .bool false, .bool false, .bool false, .bool false, .bool false, .bool false, .bool false, .bool false, .bool false, .bool false, .bool false, .bool false, .bool false, .bool false, .bool false, .bool false, .bool false, .bool false, .bool false, .bool false, .bool false, .bool false, .bool false, .bool false, .bool false, .bool false, .bool false, .bool false, .bool false, .bool false, .bool false, .bool false, .bool false, .bool false, .bool false, .bool false, .bool false, .bool false, .bool false, .bool false, .bool false, .bool false, .bool false, .bool false, .bool false, .bool false, .bool false, .bool false, .bool false, .bool false, .bool false, .bool false, .bool false, .bool false, .bool false, .bool false, .bool false, .bool false, .bool false, .bool false, .bool false, .bool false, .bool false, .bool false, .bool false, .bool false, .bool false, .bool false, .bool false, .bool false, .bool false, .bool false, .bool false, .bool false, .bool false, .bool false, .bool false, .bool false, .bool false, .bool false, .bool false, .bool false, .bool false, .bool false, .bool false, .bool false, .bool false, .bool false, .bool false, .bool false, .bool false, .bool false, .bool false, .bool false, .bool false, .bool false, .bool false, .bool false, .bool false, .bool false, .bool false, .bool false, .bool false, .bool false, .bool false, .bool false, .bool false, .bool false, .bool false, .bool false, .bool false, .bool false, .bool false, .bool false, .bool false, .bool false, .bool false, .bool false, .bool false, .bool false, .bool false, .bool false, .bool false, .bool false, .bool false, .bool false, .bool false, .bool false, .bool false, .bool false, .bool false, .bool false, .bool false, .bool false, .bool false, .bool false, .bool false, .bool false, .bool false, .bool false, .bool false, .bool false, .bool false, .bool false, .bool false, .bool false, .bool false, .bool false, .bool false, .bool false, .bool false, .bool false, .bool false, .bool false, .bool false, .bool false, .bool false, .bool false, .bool false, .bool false, .bool false, .bool false, .bool false, .bool false, .bool false, .bool false, .bool false, .bool false, .bool false, .bool false, .bool false, .bool false, .bool false, .bool false, .bool false, .bool false, .bool false, .bool false, .bool false, .bool false, .bool false, .bool false, .bool false, .bool false, .bool false, .bool false, .bool false, .bool false, .bool false, .bool false, .bool false, .bool false, .bool false, .bool false, .bool false, .bool false, .bool false, .bool false, .bool false, .bool false, .bool false, .bool false, .bool false, .bool false, .bool false, .bool false, .bool false, .bool false, .bool false, .bool false, .bool false, .bool false, .bool false, .bool false, .bool false, .bool false, .bool false, .bool false, .bool false, .bool false])), none⟩,
         ⟨none, .store 256 (.t 5) (.t 29), none⟩,
         ⟨some 6, .mov (.t 30), none⟩])
      (.seq (.region [⟨some 31, .mov (.t 6), none⟩])
       (.cond (.t 31)
        (.seq (.region [⟨some 32, .mov (.t 0), none⟩,
            ⟨some 33, .icall (.c (.func 116 [])) [(.t 32), (.t 5)], none⟩,
            ⟨some 4, .mov (.t 33), none⟩])
         (.ret))
        (.skip))))
     (.seq (.region [⟨some 34, .mov (.t 0), none⟩,
         ⟨some 35, .mov (.t 1), none⟩,
         ⟨some 36, .call 117 [(.t 34), (.t 35)], none⟩,
         ⟨some 4, .mov (.t 36), none⟩])
      (.ret))))),
  [.tmp 4]⟩

def a114l0b : ACode :=
  .seq (.seq (.region [⟨some 5, .mov (.t 0), none⟩,
      ⟨some 6, .slen (.t 5), none⟩,
      ⟨some 7, .bin .gtr (.t 6) (.c (.int Go.IntKind.i64 0)), none⟩,
      ⟨some 8, .mov (.t 7), none⟩,
      ⟨some 9, .mov (.t 0), some (8, true)⟩,
      ⟨some 10, .sidx (.t 9) (.c (.int Go.IntKind.i64 0)), some (8, true)⟩,
      ⟨some 11, .mov (.t 1), some (8, true)⟩,
      ⟨some 12, .bin .eql (.t 10) (.t 11), some (8, true)⟩,
      ⟨some 13, .pick (.t 8) (.t 12) (.c (.bool false)), none⟩])
   (.cond (.t 13)
    (.skip)
    (.exit 0)))
  (.block 1 (.region [⟨some 14, .mov (.t 0), none⟩,
      ⟨some 15, .sslice (.t 14) (some (.c (.int Go.IntKind.i64 1))) none, none⟩,
      ⟨some 0, .mov (.t 15), none⟩]))

def a114l0 : ACode := a114l0b
def a114l0s : List Nat := [2, 3, 4, 5, 6, 7, 8, 9, 10, 11, 12, 13, 14, 15, 16]
abbrev a114l0F (s0 s1 : AV) : List AV := [s0, s1, .any, .any, .any, .any, .any, .any, .any, .any, .any, .any, .any, .any, .any, .any, .any]
theorem a114l0c (s0 s1 s2 s3 s4 s5 s6 s7 s8 s9 s10 s11 s12 s13 s14 s15 s16 : AV) : clearA a114l0s [s0, s1, s2, s3, s4, s5, s6, s7, s8, s9, s10, s11, s12, s13, s14, s15, s16] = a114l0F s0 s1 := by kernel_rfl
theorem a114l0n {prog : Nat → Option AFunc} (s0 s1 : AV) (H : Heap) : (lim prog).loop a114l0s a114l0 ⟨a114l0F s0 s1, H⟩ = loopK (lim prog) a114l0s a114l0 (run (lim prog) a114l0b ⟨a114l0F s0 s1, H⟩) := lim_loop_step _ _ _ _ (by kernel_rfl)

/-- strings.trimLeftByte -/
def a114 : AFunc := ⟨17,
  .seq (.region [⟨some 4, .mov (.c (.str ⟨#[]⟩)), none⟩])
  (.seq (.block 0 (.loop a114l0s a114l0))
   (.seq (.region [⟨some 16, .mov (.t 0), none⟩,
       ⟨some 4, .mov (.t 16), none⟩])
    (.ret))),
  [.tmp 4]⟩

def a115l0b : ACode :=
  .seq (.seq (.region [⟨some 6, .mov (.t 4), none⟩,
      ⟨some 7, .mov (.t 0), none⟩,
      ⟨some 8, .slen (.t 7), none⟩,
      ⟨some 9, .bin .lss (.t 6) (.t 8), none⟩])
   (.cond (.t 9)
    (.skip)
    (.exit 0)))
  (.seq (.block 1 (.seq (.region [⟨some 12, .mov (.t 0), none⟩,
        ⟨some 13, .mov (.t 4), none⟩,
        ⟨some 14, .sidx (.t 12) (.t 13), none⟩,
        ⟨some 5, .mov (.t 14), none⟩])
     (.seq (.seq (.region [⟨some 15, .mov (.t 5), none⟩,
          ⟨some 16, .bin .geq (.t 15) (.c (.int Go.IntKind.u8 128)), none⟩])
       (.cond (.t 16)
        (.seq (.region [⟨some 17, .load true 256 (.t 2), none⟩,
            ⟨none, .store 256 (.t 2) (.t 17), none⟩,
            ⟨some 3, .mov (.c (.bool false)), none⟩])
         (.ret))
        (.skip)))
      (.region [⟨some 18, .mov (.t 5), none⟩,
         ⟨some 19, .arrat 1 256 (.t 2) (.t 18), none⟩,
         ⟨none, .store 1 (.t 19) (.c (.bool true)), none⟩]))))
   (.region [⟨some 10, .mov (.t 4), none⟩,
      ⟨some 11, .bin .add (.t 10) (.c (.int Go.IntKind.i64 1)), none⟩,
      ⟨some 4, .mov (.t 11), none⟩]))

def a115l0 : ACode := a115l0b
def a115l0s : List Nat := [1, 5, 6, 7, 8, 9, 10, 11, 12, 13, 14, 15, 16, 17, 18, 19, 20]
abbrev a115l0F (s0 s2 s3 s4 : AV) : List AV := [s0, .any, s2, s3, s4, .any, .any, .any, .any, .any, .any, .any, .any, .any, .any, .any, .any, .any, .any, .any, .any]
theorem a115l0c (s0 s1 s2 s3 s4 s5 s6 s7 s8 s9 s10 s11 s12 s13 s14 s15 s16 s17 s18 s19 s20 : AV) : clearA a115l0s [s0, s1, s2, s3, s4, s5, s6, s7, s8, s9, s10, s11, s12, s13, s14, s15, s16, s17, s18, s19, s20] = a115l0F s0 s2 s3 s4 := by kernel_rfl
theorem a115l0n {prog : Nat → Option AFunc} (s0 s2 s3 s4 : AV) (H : Heap) : (lim prog).loop a115l0s a115l0 ⟨a115l0F s0 s2 s3 s4, H⟩ = loopK (lim prog) a115l0s a115l0 (run (lim prog) a115l0b ⟨a115l0F s0 s2 s3 s4, H⟩) := lim_loop_step _ _ _ _ (by kernel_rfl)

/-- strings.makeASCIISet -/
def a115 : AFunc := ⟨21,
  .seq (.region [⟨some 2, .box (.c (.agg [.bool false, .bool false, .bool false, .bool false, .bool false, .bool false, .bool false, .bool false, .bool false, .bool false, .bool false, .bool false, .bool false, .bool false, .bool false, .bool false, .bool false, .bool false, .bool false, .bool false, .bool false, .bool false, .bool false, .bool false, .bool false, .bool false, .bool false, .bool false, .bool false, .bool false, .bool false, .bool false, .bool false, .bool false, .bool false, .bool false, .bool false, .bool false, .bool false, .bool false, .bool false, .bool false, .bool false, .bool false, .bool false, .bool false, .bool false, .bool false, .bool false, .bool false, .bool false, .bool false, .bool false, .bool false, .bool false, .bool false, .bool false, .bool false, .bool false, .bool false, .bool false, .bool false, .bool false, .bool false, .bool false, .bool false, .bool false, .bool false, .bool false, .bool false, .bool false, .bool false, .bool false, .bool false, .bool false, .bool false, .bool false, .bool false, .bool false, .bool false, .bool false, .bool false, .bool false, .bool false, .bool false, .bool false, .bool false, .bool false, .bool false, .bool false, .bool false, .bool false, .bool false, .bool false, .bool false, .bool false, .bool false, .bool false, .bool false, .bool false, .bool false, .bool false, .bool false, .bool false, .bool false, .bool false, .bool false, .bool false, .bool false, .bool false, .bool false, .bool false, .bool false, .bool false, .bool false, .bool false, .bool false, .bool false, .bool false, .bool false, .bool false, .bool false, .bool false, .bool false, .bool false, .bool false, .bool false, .bool false, .bool false, .bool false, .bool false, .bool false, .bool false, .bool false, .bool false, .bool false, .bool false, .bool false, .bool false, .bool false, .bool false, .bool false, .bool false, .bool false, .bool false, .bool false, .bool false, .bool false, .bool false, .bool false, .bool false, .bool false, .bool false, .bool false, .bool false, .bool false, .bool false, .bool false, .bool false, .bool false, .bool false, .bool false, .bool false, .bool false, .bool false, .bool false, .bool false, .bool false, .bool false, .bool false, .bool false, .bool false, .bool false, .bool false, .bool false, .bool false, .bool false, .bool false, .bool false, .bool false, .bool false, .bool false, .bool false, .bool false, .bool false, .bool false, .bool false, .bool false, .bool false, .bool false, .bool false, .bool false, .bool false, .bool false, .bool false, .bool false, .bool false, .bool false, .bool false, .bool false, .bool false, .bool false, .bool false, .bool false, .bool false, .bool false, .bool false, .bool false, .bool false, .bool false, .bool false, .bool false, .bool false, .bool false, .bool false, .bool false, .bool false, .bool false, .bool false, .bool false, .bool false, .bool false, .bool false, .bool false, .bool false, .bool false, .bool false, .bool false, .bool false, .bool false, .bool false, .bool false, .bool false, .bool false, .bool false, .bool false, .bool false, .bool false, .bool false, .bool false, .bool false, .bool false, .bool false, .bool false, .bool false, .bool false, .bool false, .bool false, .bool false, .bool false, .bool false, .bool false, .bool false, .bool false, .bool false, .bool false])), none⟩,
     ⟨some 3, .mov (.c (.bool false)), none⟩])
  (.seq (.seq (.region [⟨some 4, .mov (.c (.int Go.IntKind.i64 0)), none⟩])
    (.block 0 (.loop a115l0s a115l0)))
   (.seq (.region [⟨some 20, .load true 256 (.t 2), none⟩,
       ⟨none, .store 256 (.t 2) (.t 20), none⟩,
       ⟨some 3, .mov (.c (.bool true)), none⟩])
    (.ret))),
  [.cell 2 true 256, .tmp 3]⟩

def a116l0b : ACode :=
  .seq (.seq (.region [⟨some 5, .mov (.t 0), none⟩,
      ⟨some 6, .slen (.t 5), none⟩,
      ⟨some 7, .bin .gtr (.t 6) (.c (.int Go.IntKind.i64 0)), none⟩])
   (.cond (.t 7)
    (.skip)
    (.exit 0)))
  (.block 1 (.seq (.seq (.region [⟨some 8, .mov (.t 1), none⟩,
        ⟨some 9, .mov (.t 0), none⟩,
        ⟨some 10, .sidx (.t 9) (.c (.int Go.IntKind.i64 0)), none⟩,
        ⟨some 11, .icall (.c (.func 118 [])) [(.t 8), (.t 10)], none⟩,
        ⟨some 12, .un .not (.t 11), none⟩])
     (.cond (.t 12)
      (.exit 0)
      (.skip)))
    (.region [⟨some 13, .mov (.t 0), none⟩,
       ⟨some 14, .sslice (.t 13) (some (.c (.int Go.IntKind.i64 1))) none, none⟩,
       ⟨some 0, .mov (.t 14), none⟩])))

def a116l0 : ACode := a116l0b
def a116l0s : List Nat := [2, 3, 4, 5, 6, 7, 8, 9, 10, 11, 12, 13, 14, 15]
abbrev a116l0F (s0 s1 : AV) : List AV := [s0, s1, .any, .any, .any, .any, .any, .any, .any, .any, .any, .any, .any, .any, .any, .any]
theorem a116l0c (s0 s1 s2 s3 s4 s5 s6 s7 s8 s9 s10 s11 s12 s13 s14 s15 : AV) : clearA a116l0s [s0, s1, s2, s3, s4, s5, s6, s7, s8, s9, s10, s11, s12, s13, s14, s15] = a116l0F s0 s1 := by kernel_rfl
theorem a116l0n {prog : Nat → Option AFunc} (s0 s1 : AV) (H : Heap) : (lim prog).loop a116l0s a116l0 ⟨a116l0F s0 s1, H⟩ = loopK (lim prog) a116l0s a116l0 (run (lim prog) a116l0b ⟨a116l0F s0 s1, H⟩) := lim_loop_step _ _ _ _ (by kernel_rfl)

/-- strings.trimLeftASCII -/
def a116 : AFunc := ⟨16,
  .seq (.region [⟨some 4, .mov (.c (.str ⟨#[]⟩)), none⟩])
  (.seq (.block 0 (.loop a116l0s a116l0))
   (.seq (.region [⟨some 15, .mov (.t 0), none⟩,
       ⟨some 4, .mov (.t 15), none⟩])
    (.ret))),
  [.tmp 4]⟩

def a117l0b : ACode :=
  .seq (.seq (.region [⟨some 7, .mov (.t 0), none⟩,
      ⟨some 8, .slen (.t 7), none⟩,
      ⟨some 9, .bin .gtr (.t 8) (.c (.int Go.IntKind.i64 0)), none⟩])
   (.cond (.t 9)
    (.skip)
    (.exit 0)))
  (.block 1 (.seq (.region [⟨some 11, .mov (.t 0), none⟩,
       ⟨some 12, .call 119 [(.t 11)], none⟩,
       ⟨some 10, .mov (.t 12), none⟩,
       ⟨some 13, .ext 0 (.t 10), none⟩,
       ⟨some 14, .ext 1 (.t 10), none⟩,
       ⟨some 5, .mov (.t 13), none⟩,
       ⟨some 6, .mov (.t 14), none⟩])
    (.seq (.seq (.region [⟨some 15, .mov (.t 1), none⟩,
         ⟨some 16, .mov (.t 5), none⟩,
         ⟨some 17, .call 120 [(.t 15), (.t 16)], none⟩,
         ⟨some 18, .un .not (.t 17), none⟩])
      (.cond (.t 18)
       (.exit 0)
       (.skip)))
     (.region [⟨some 19, .mov (.t 0), none⟩,
        ⟨some 20, .mov (.t 6), none⟩,
        ⟨some 21, .sslice (.t 19) (some (.t 20)) none, none⟩,
        ⟨some 0, .mov (.t 21), none⟩]))))

def a117l0 : ACode := a117l0b
def a117l0s : List Nat := [2, 3, 4, 5, 6, 7, 8, 9, 10, 11, 12, 13, 14, 15, 16, 17, 18, 19, 20, 21, 22]
abbrev a117l0F (s0 s1 : AV) : List AV := [s0, s1, .any, .any, .any, .any, .any, .any, .any, .any, .any, .any, .any, .any, .any, .any, .any, .any, .any, .any, .any, .any, .any]
theorem a117l0c (s0 s1 s2 s3 s4 s5 s6 s7 s8 s9 s10 s11 s12 s13 s14 s15 s16 s17 s18 s19 s20 s21 s22 : AV) : clearA a117l0s [s0, s1, s2, s3, s4, s5, s6, s7, s8, s9, s10, s11, s12, s13, s14, s15, s16, s17, s18, s19, s20, s21, s22] = a117l0F s0 s1 := by kernel_rfl
theorem a117l0n {prog : Nat → Option AFunc} (s0 s1 : AV) (H : Heap) : (lim prog).loop a117l0s a117l0 ⟨a117l0F s0 s1, H⟩ = loopK (lim prog) a117l0s a117l0 (run (lim prog) a117l0b ⟨a117l0F s0 s1, H⟩) := lim_loop_step _ _ _ _ (by kernel_rfl)

/-- strings.trimLeftUnicode -/
def a117 : AFunc := ⟨23,
  .seq (.region [⟨some 4, .mov (.c (.str ⟨#[]⟩)), none⟩])
  (.seq (.block 0 (.loop a117l0s a117l0))
   (.seq (.region [⟨some 22, .mov (.t 0), none⟩,
       ⟨some 4, .mov (.t 22), none⟩])
    (.ret))),
  [.tmp 4]⟩

/-- (*strings.asciiSet).contains -/
def a118 : AFunc := ⟨10,
  .seq (.region [⟨some 4, .mov (.c (.bool false)), none⟩])
  (.seq (.region [⟨some 5, .mov (.t 0), none⟩,
      ⟨some 6, .mov (.t 1), none⟩,
      ⟨some 7, .nilchk (.t 5), none⟩,
      ⟨some 8, .arrat 1 256 (.t 7) (.t 6), none⟩,
      ⟨some 9, .load false 1 (.t 8), none⟩,
      ⟨some 4, .mov (.t 9), none⟩])
   (.ret)),
  [.tmp 4]⟩

/-- unicode/utf8.DecodeRuneInString -/
def a119 : AFunc := ⟨19,
  .seq (.region [⟨some 2, .mov (.c (.int Go.IntKind.i32 0)), none⟩,
     ⟨some 3, .mov (.c (.int Go.IntKind.i64 0)), none⟩])
  (.seq (.seq (.region [⟨some 4, .mov (.t 0), none⟩,
       ⟨some 5, .sbeq true (.t 4) (.c (.str ⟨#[]⟩)), none⟩,
       ⟨some 6, .mov (.t 5), none⟩,
       ⟨some 7, .mov (.t 0), some (6, true)⟩,
       ⟨some 8, .sidx (.t 7) (.c (.int Go.IntKind.i64 0)), some (6, true)⟩,
       ⟨some 9, .bin .lss (.t 8) (.c (.int Go.IntKind.u8 128)), some (6, true)⟩,
       ⟨some 10, .pick (.t 6) (.t 9) (.c (.bool false)), none⟩])
    (.cond (.t 10)
     (.seq (.region [⟨some 11, .mov (.t 0), none⟩,
         ⟨some 12, .sidx (.t 11) (.c (.int Go.IntKind.i64 0)), none⟩,
         ⟨some 13, .conv Go.IntKind.i32 (.t 12), none⟩,
         ⟨some 2, .mov (.t 13), none⟩,
         ⟨some 3, .mov (.c (.int Go.IntKind.i64 1)), none⟩])
      (.ret))
     (.region [⟨some 15, .mov (.t 0), none⟩,
        ⟨some 16, .call 121 [(.t 15)], none⟩,
        ⟨some 14, .mov (.t 16), none⟩,
        ⟨some 17, .ext 0 (.t 14), none⟩,
        ⟨some 18, .ext 1 (.t 14), none⟩,
        ⟨some 2, .mov (.t 17), none⟩,
        ⟨some 3, .mov (.t 18), none⟩])))
   (.ret)),
  [.tmp 2, .tmp 3]⟩

/-- strings.ContainsRune -/
def a120 : AFunc := ⟨9,
  .seq (.region [⟨some 4, .mov (.c (.bool false)), none⟩])
  (.seq (.region [⟨some 5, .mov (.t 0), none⟩,
      ⟨some 6, .mov (.t 1), none⟩,
      ⟨some 7, .call 122 [(.t 5), (.t 6)], none⟩,
      ⟨some 8, .bin .geq (.t 7) (.c (.int Go.IntKind.i64 0)), none⟩,
      ⟨some 4, .mov (.t 8), none⟩])
   (.ret)),
  [.tmp 4]⟩

/-- unicode/utf8.decodeRuneInStringSlow -/
def a121 : AFunc := ⟨117,
  .seq (.region [⟨some 2, .mov (.c (.int Go.IntKind.i32 0)), none⟩,
     ⟨some 3, .mov (.c (.int Go.IntKind.i64 0)), none⟩])
  (.seq (.region [⟨some 13, .mov (.t 0), none⟩,
      ⟨some 14, .slen (.t 13), none⟩,
      ⟨some 4, .mov (.t 14), none⟩])
   (.seq (.seq (.region [⟨some 15, .mov (.t 4), none⟩,
        ⟨some 16, .bin .lss (.t 15) (.c (.int Go.IntKind.i64 1)), none⟩])
     (.cond (.t 16)
      (.seq (.region [⟨some 2, .mov (.c (.int Go.IntKind.i32 65533)), none⟩,
          ⟨some 3, .mov (.c (.int Go.IntKind.i64 0)), none⟩])
       (.ret))
      (.skip)))
    (.seq (.region [⟨some 17, .mov (.t 0), none⟩,
        ⟨some 18, .sidx (.t 17) (.c (.int Go.IntKind.i64 0)), none⟩,
        ⟨some 5, .mov (.t 18), none⟩])
     (.seq (.region [⟨some 19, .mov (.t 5), none⟩,
         ⟨some 20, .garr 0 1 256 (.t 19), none⟩,
         ⟨some 21, .load false 1 (.t 20), none⟩,
         ⟨some 6, .mov (.t 21), none⟩])
      (.seq (.seq (.region [⟨some 22, .mov (.t 6), none⟩,
           ⟨some 23, .bin .geq (.t 22) (.c (.int Go.IntKind.u8 240)), none⟩])
        (.cond (.t 23)
         (.seq (.region [⟨some 24, .mov (.t 6), none⟩,
             ⟨some 25, .conv Go.IntKind.i32 (.t 24), none⟩,
             ⟨some 26, .bin .shl (.t 25) (.c (.int Go.IntKind.u64 31)), none⟩,
             ⟨some 27, .bin .shr (.t 26) (.c (.int Go.IntKind.u64 31)), none⟩,
             ⟨some 7, .mov (.t 27), none⟩])
          (.seq (.region [⟨some 28, .mov (.t 0), none⟩,
              ⟨some 29, .sidx (.t 28) (.c (.int Go.IntKind.i64 0)), none⟩,
              ⟨some 30, .conv Go.IntKind.i32 (.t 29), none⟩,
              ⟨some 31, .mov (.t 7), none⟩,
              ⟨some 32, .bin .andNot (.t 30) (.t 31), none⟩,
              ⟨some 33, .mov (.t 7), none⟩,
              ⟨some 34, .bin .and (.c (.int Go.IntKind.i32 65533)) (.t 33), none⟩,
              ⟨some 35, .bin .or (.t 32) (.t 34), none⟩,
              ⟨some 2, .mov (.t 35), none⟩,
              ⟨some 3, .mov (.c (.int Go.IntKind.i64 1)), none⟩])
           (.ret)))
         (.skip)))
       (.seq (.region [⟨some 36, .mov (.t 6), none⟩,
           ⟨some 37, .bin .and (.t 36) (.c (.int Go.IntKind.u8 7)), none⟩,
           ⟨some 38, .conv Go.IntKind.i64 (.t 37), none⟩,
           ⟨some 8, .mov (.t 38), none⟩])
        (.seq (.region [⟨some 39, .mov (.t 6), none⟩,
            ⟨some 40, .bin .shr (.t 39) (.c (.int Go.IntKind.u64 4)), none⟩,
            ⟨some 41, .garr 1 2 16 (.t 40), none⟩,
            ⟨some 42, .load true 2 (.t 41), none⟩,
            ⟨some 9, .box (.c (.agg [.int Go.IntKind.u8 0, .int Go.IntKind.u8 0])), none⟩,
            ⟨none, .store 2 (.t 9) (.t 42), none⟩])
         (.seq (.seq (.region [⟨some 43, .mov (.t 4), none⟩,
              ⟨some 44, .mov (.t 8), none⟩,
              ⟨some 45, .bin .lss (.t 43) (.t 44), none⟩])
           (.cond (.t 45)
            (.seq (.region [⟨some 2, .mov (.c (.int Go.IntKind.i32 65533)), none⟩,
                ⟨some 3, .mov (.c (.int Go.IntKind.i64 1)), none⟩])
             (.ret))
            (.skip)))
          (.seq (.region [⟨some 46, .mov (.t 0), none⟩,
              ⟨some 47, .sidx (.t 46) (.c (.int Go.IntKind.i64 1)), none⟩,
              ⟨some 10, .mov (.t 47), none⟩])
           (.seq (.seq (.region [⟨some 48, .mov (.t 10), none⟩,
                ⟨some 49, .faddr 0 (.t 9), none⟩,
                ⟨some 50, .load false 1 (.t 49), none⟩,
                ⟨some 51, .bin .lss (.t 48) (.t 50), none⟩,
                ⟨some 52, .mov (.t 51), none⟩,
                ⟨some 53, .faddr 1 (.t 9), some (52, false)⟩,
                ⟨some 54, .load false 1 (.t 53), some (52, false)⟩,
                ⟨some 55, .mov (.t 10), some (52, false)⟩,
                ⟨some 56, .bin .lss (.t 54) (.t 55), some (52, false)⟩,
                ⟨some 57, .pick (.t 52) (.c (.bool true)) (.t 56), none⟩])
             (.cond (.t 57)
              (.seq (.region [⟨some 2, .mov (.c (.int Go.IntKind.i32 65533)), none⟩,
                  ⟨some 3, .mov (.c (.int Go.IntKind.i64 1)), none⟩])
               (.ret))
              (.skip)))
            (.seq (.seq (.region [⟨some 58, .mov (.t 8), none⟩,
                 ⟨some 59, .bin .leq (.t 58) (.c (.int Go.IntKind.i64 2)), none⟩])
              (.cond (.t 59)
               (.seq (.region [⟨some 60, .mov (.t 5), none⟩,
                   ⟨some 61, .bin .and (.t 60) (.c (.int Go.IntKind.u8 31)), none⟩,
                   ⟨some 62, .conv Go.IntKind.i32 (.t 61), none⟩,
                   ⟨some 63, .bin .shl (.t 62) (.c (.int Go.IntKind.u64 6)), none⟩,
                   ⟨some 64, .mov (.t 10), none⟩,
                   ⟨some 65, .bin .and (.t 64) (.c (.int Go.IntKind.u8 63)), none⟩,
                   ⟨some 66, .conv Go.IntKind.i32 (.t 65), none⟩,
                   ⟨some 67, .bin .or (.t 63) (.t 66), none⟩,
                   ⟨some 2, .mov (.t 67), none⟩,
                   ⟨some 3, .mov (.c (.int Go.IntKind.i64 2)), none⟩])
                (.ret))
               (.skip)))
             (.seq (.region [⟨some 68, .mov (.t 0), none⟩,
                 ⟨some 69, .sidx (.t 68) (.c (.int Go.IntKind.i64 2)), none⟩,
                 ⟨some 11, .mov (.t 69), none⟩])
              (.seq (.seq (.region [⟨some 70, .mov (.t 11), none⟩,
                   ⟨some 71, .bin .lss (.t 70) (.c (.int Go.IntKind.u8 128)), none⟩,
                   ⟨some 72, .mov (.t 71), none⟩,
                   ⟨some 73, .mov (.t 11), some (72, false)⟩,
                   ⟨some 74, .bin .lss (.c (.int Go.IntKind.u8 191)) (.t 73), some (72, false)⟩,
                   ⟨some 75, .pick (.t 72) (.c (.bool true)) (.t 74), none⟩])
                (.cond (.t 75)
                 (.seq (.region [⟨some 2, .mov (.c (.int Go.IntKind.i32 65533)), none⟩,
                     ⟨some 3, .mov (.c (.int Go.IntKind.i64 1)), none⟩])
                  (.ret))
                 (.skip)))
               (.seq (.seq (.region [⟨some 76, .mov (.t 8), none⟩,
                    ⟨some 77, .bin .leq (.t 76) (.c (.int Go.IntKind.i64 3)), none⟩])
                 (.cond (.t 77)
                  (.seq (.region [⟨some 78, .mov (.t 5), none⟩,
                      ⟨some 79, .bin .and (.t 78) (.c (.int Go.IntKind.u8 15)), none⟩,
                      ⟨some 80, .conv Go.IntKind.i32 (.t 79), none⟩,
                      ⟨some 81, .bin .shl (.t 80) (.c (.int Go.IntKind.u64 12)), none⟩,
                      ⟨some 82, .mov (.t 10), none⟩,
                      ⟨some 83, .bin .and (.t 82) (.c (.int Go.IntKind.u8 63)), none⟩,
                      ⟨some 84, .conv Go.IntKind.i32 (.t 83), none⟩,
                      ⟨some 85, .bin .shl (.t 84) (.c (.int Go.IntKind.u64 6)), none⟩,
                      ⟨some 86, .bin .or (.t 81) (.t 85), none⟩,
                      ⟨some 87, .mov (.t 11), none⟩,
                      ⟨some 88, .bin .and (.t 87) (.c (.int Go.IntKind.u8 63)), none⟩,
                      ⟨some 89, .conv Go.IntKind.i32 (.t 88), none⟩,
                      ⟨some 90, .bin .or (.t 86) (.t 89), none⟩,
                      ⟨some 2, .mov (.t 90), none⟩,
                      ⟨some 3, .mov (.c (.int Go.IntKind.i64 3)), none⟩])
                   (.ret))
                  (.skip)))
                (.seq (.region [⟨some 91, .mov (.t 0), none⟩,
                    ⟨some 92, .sidx (.t 91) (.c (.int Go.IntKind.i64 3)), none⟩,
                    ⟨some 12, .mov (.t 92), none⟩])
                 (.seq (.seq (.region [⟨some 93, .mov (.t 12), none⟩,
                      ⟨some 94, .bin .lss (.t 93) (.c (.int Go.IntKind.u8 128)), none⟩,
                      ⟨some 95, .mov (.t 94), none⟩,
                      ⟨some 96, .mov (.t 12), some (95, false)⟩,
                      ⟨some 97, .bin .lss (.c (.int Go.IntKind.u8 191)) (.t 96), some (95, false)⟩,
                      ⟨some 98, .pick (.t 95) (.c (.bool true)) (.t 97), none⟩])
                   (.cond (.t 98)
                    (.seq (.region [⟨some 2, .mov (.c (.int Go.IntKind.i32 65533)), none⟩,
                        ⟨some 3, .mov (.c (.int Go.IntKind.i64 1)), none⟩])
                     (.ret))
                    (.skip)))
                  (.seq (.region [⟨some 99, .mov (.t 5), none⟩,
                      ⟨some 100, .bin .and (.t 99) (.c (.int Go.IntKind.u8 7)), none⟩,
                      ⟨some 101, .conv Go.IntKind.i32 (.t 100), none⟩,
                      ⟨some 102, .bin .shl (.t 101) (.c (.int Go.IntKind.u64 18)), none⟩,
                      ⟨some 103, .mov (.t 10), none⟩,
                      ⟨some 104, .bin .and (.t 103) (.c (.int Go.IntKind.u8 63)), none⟩,
                      ⟨some 105, .conv Go.IntKind.i32 (.t 104), none⟩,
                      ⟨some 106, .bin .shl (.t 105) (.c (.int Go.IntKind.u64 12)), none⟩,
                      ⟨some 107, .bin .or (.t 102) (.t 106), none⟩,
                      ⟨some 108, .mov (.t 11), none⟩,
                      ⟨some 109, .bin .and (.t 108) (.c (.int Go.IntKind.u8 63)), none⟩,
                      ⟨some 110, .conv Go.IntKind.i32 (.t 109), none⟩,
                      ⟨some 111, .bin .shl (.t 110) (.c (.int Go.IntKind.u64 6)), none⟩,
                      ⟨some 112, .bin .or (.t 107) (.t 111), none⟩,
                      ⟨some 113, .mov (.t 12), none⟩,
                      ⟨some 114, .bin .and (.t 113) (.c (.int Go.IntKind.u8 63)), none⟩,
                      ⟨some 115, .conv Go.IntKind.i32 (.t 114), none⟩,
                      ⟨some 116, .bin .or (.t 112) (.t 115), none⟩,
                      ⟨some 2, .mov (.t 116), none⟩,
                      ⟨some 3, .mov (.c (.int Go.IntKind.i64 4)), none⟩])
                   (.ret)))))))))))))))))),
  [.tmp 2, .tmp 3]⟩

def a122l0b : ACode :=
  .seq (.stuck)
  (.seq (.cond (.t 177)
    (.skip)
    (.exit 9))
   (.block 10 (.seq (.region [⟨some 178, .ext 1 (.t 176), none⟩,
        ⟨some 179, .ext 2 (.t 176), none⟩,
        ⟨some 5, .mov (.t 178), none⟩,
        ⟨some 6, .mov (.t 179), none⟩])
     (.seq (.region [⟨some 180, .mov (.t 6), none⟩,
         ⟨some 181, .bin .eql (.t 180) (.c (.int Go.IntKind.i32 65533)), none⟩])
      (.cond (.t 181)
       (.seq (.region [⟨some 182, .mov (.t 5), none⟩,
           ⟨some 4, .mov (.t 182), none⟩])
        (.ret))
       (.skip))))))

def a122l0 : ACode := a122l0b
def a122l0s : List Nat := [0, 1, 2, 3, 5, 6, 7, 8, 9, 10, 11, 12, 13, 14, 15, 16, 17, 18, 19, 20, 21, 22, 23, 24, 25, 26, 27, 28, 29, 30, 31, 32, 33, 34, 35, 36, 37, 38, 39, 40, 41, 42, 43, 44, 45, 46, 47, 48, 49, 50, 51, 52, 53, 54, 55, 56, 57, 58, 59, 60, 61, 62, 63, 64, 65, 66, 67, 68, 69, 70, 71, 72, 73, 74, 75, 76, 77, 78, 79, 80, 81, 82, 83, 84, 85, 86, 87, 88, 89, 90, 91, 92, 93, 94, 95, 96, 97, 98, 99, 100, 101, 102, 103, 104, 105, 106, 107, 108, 109, 110, 111, 112, 113, 114, 115, 116, 117, 118, 119, 120, 121, 122, 123, 124, 125, 126, 127, 128, 129, 130, 131, 132, 133, 134, 135, 136, 137, 138, 139, 140, 141, 142, 143, 144, 145, 146, 147, 148, 149, 150, 151, 152, 153, 154, 155, 156, 157, 158, 159, 160, 161, 162, 163, 164, 165, 166, 167, 168, 169, 170, 171, 172, 173, 174, 175, 176, 177, 178, 179, 180, 181, 182, 183, 184, 185, 186]
abbrev a122l0F (s4 : AV) : List AV := [.any, .any, .any, .any, s4, .any, .any, .any, .any, .any, .any, .any, .any, .any, .any, .any, .any, .any, .any, .any, .any, .any, .any, .any, .any, .any, .any, .any, .any, .any, .any, .any, .any, .any, .any, .any, .any, .any, .any, .any, .any, .any, .any, .any, .any, .any, .any, .any, .any, .any, .any, .any, .any, .any, .any, .any, .any, .any, .any, .any, .any, .any, .any, .any, .any, .any, .any, .any, .any, .any, .any, .any, .any, .any, .any, .any, .any, .any, .any, .any, .any, .any, .any, .any, .any, .any, .any, .any, .any, .any, .any, .any, .any, .any, .any, .any, .any, .any, .any, .any, .any, .any, .any, .any, .any, .any, .any, .any, .any, .any, .any, .any, .any, .any, .any, .any, .any, .any, .any, .any, .any, .any, .any, .any, .any, .any, .any, .any, .any, .any, .any, .any, .any, .any, .any, .any, .any, .any, .any, .any, .any, .any, .any, .any, .any, .any, .any, .any, .any, .any, .any, .any, .any, .any, .any, .any, .any, .any, .any, .any, .any, .any, .any, .any, .any, .any, .any, .any, .any, .any, .any, .any, .any, .any, .any, .any, .any, .any, .any, .any, .any, .any, .any, .any, .any, .any, .any]
theorem a122l0c (s0 s1 s2 s3 s4 s5 s6 s7 s8 s9 s10 s11 s12 s13 s14 s15 s16 s17 s18 s19 s20 s21 s22 s23 s24 s25 s26 s27 s28 s29 s30 s31 s32 s33 s34 s35 s36 s37 s38 s39 s40 s41 s42 s43 s44 s45 s46 s47 s48 s49 s50 s51 s52 s53 s54 s55 s56 s57 s58 s59 s60 s61 s62 s63 s64 s65 s66 s67 s68 s69 s70 s71 s72 s73 s74 s75 s76 s77 s78 s79 s80 s81 s82 s83 s84 s85 s86 s87 s88 s89 s90 s91 s92 s93 s94 s95 s96 s97 s98 s99 s100 s101 s102 s103 s104 s105 s106 s107 s108 s109 s110 s111 s112 s113 s114 s115 s116 s117 s118 s119 s120 s121 s122 s123 s124 s125 s126 s127 s128 s129 s130 s131 s132 s133 s134 s135 s136 s137 s138 s139 s140 s141 s142 s143 s144 s145 s146 s147 s148 s149 s150 s151 s152 s153 s154 s155 s156 s157 s158 s159 s160 s161 s162 s163 s164 s165 s166 s167 s168 s169 s170 s171 s172 s173 s174 s175 s176 s177 s178 s179 s180 s181 s182 s183 s184 s185 s186 : AV) : clearA a122l0s [s0, s1, s2, s3, s4, s5, s6, s7, s8, s9, s10, s11, s12, s13, s14, s15, s16, s17, s18, s19, s20, s21, s22, s23, s24, s25, s26, s27, s28, s29, s30, s31, s32, s33, s34, s35, s36, s37, s38, s39, s40, s41, s42, s43, s44, s45, s46, s47, s48, s49, s50, s51, s52, s53, s54, s55, s56, s57, s58, s59, s60, s61, s62, s63, s64, s65, s66, s67, s68, s69, s70, s71, s72, s73, s74, s75, s76, s77, s78, s79, s80, s81, s82, s83, s84, s85, s86, s87, s88, s89, s90, s91, s92, s93, s94, s95, s96, s97, s98, s99, s100, s101, s102, s103, s104, s105, s106, s107, s108, s109, s110, s111, s112, s113, s114, s115, s116, s117, s118, s119, s120, s121, s122, s123, s124, s125, s126, s127, s128, s129, s130, s131, s132, s133, s134, s135, s136, s137, s138, s139, s140, s141, s142, s143, s144, s145, s146, s147, s148, s149, s150, s151, s152, s153, s154, s155, s156, s157, s158, s159, s160, s161, s162, s163, s164, s165, s166, s167, s168, s169, s170, s171, s172, s173, s174, s175, s176, s177, s178, s179, s180, s181, s182, s183, s184, s185, s186] = a122l0F s4 := by kernel_rfl
theorem a122l0n {prog : Nat → Option AFunc} (s4 : AV) (H : Heap) : (lim prog).loop a122l0s a122l0 ⟨a122l0F s4, H⟩ = loopK (lim prog) a122l0s a122l0 (run (lim prog) a122l0b ⟨a122l0F s4, H⟩) := lim_loop_step _ _ _ _ (by kernel_rfl)

def a122l1b : ACode :=
  .seq (.seq (.region [⟨some 48, .mov (.t 12), none⟩,
      ⟨some 49, .mov (.t 7), none⟩,
      ⟨some 50, .slen (.t 49), none⟩,
      ⟨some 51, .bin .lss (.t 48) (.t 50), none⟩])
   (.cond (.t 51)
    (.skip)
    (.exit 3)))
  (.seq (.block 4 (.seq (.draw 7 [⟨some 54, .mov (.t 0), none⟩,
        ⟨some 55, .mov (.t 9), none⟩,
        ⟨some 56, .mov (.t 12), none⟩,
        ⟨some 57, .bin .sub (.t 55) (.t 56), none⟩,
        ⟨some 58, .sidx (.t 54) (.t 57), none⟩,
        ⟨some 59, .mov (.t 7), none⟩,
        ⟨some 60, .mov (.t 8), none⟩,
        ⟨some 61, .mov (.t 12), none⟩,
        ⟨some 62, .bin .sub (.t 60) (.t 61), none⟩,
        ⟨some 63, .sidx (.t 59) (.t 62), none⟩,
        ⟨some 64, .bin .neq (.t 58) (.t 63), none⟩])
     (.cond (.t 64)
      (.stuck)
      (.skip))))
   (.region [⟨some 52, .mov (.t 12), none⟩,
      ⟨some 53, .bin .add (.t 52) (.c (.int Go.IntKind.i64 1)), none⟩,
      ⟨some 12, .mov (.t 53), none⟩]))

def a122l1 : ACode := a122l1b
def a122l1s : List Nat := [1, 2, 3, 4, 5, 6, 10, 11, 13, 14, 15, 16, 17, 18, 19, 20, 21, 22, 23, 24, 25, 26, 27, 28, 29, 30, 31, 32, 33, 34, 35, 36, 37, 38, 39, 40, 41, 42, 43, 44, 45, 46, 47, 48, 49, 50, 51, 52, 53, 54, 55, 56, 57, 58, 59, 60, 61, 62, 63, 64, 65, 66, 67, 68, 69, 70, 71, 72, 73, 74, 75, 76, 77, 78, 79, 80, 81, 82, 83, 84, 85, 86, 87, 88, 89, 90, 91, 92, 93, 94, 95, 96, 97, 98, 99, 100, 101, 102, 103, 104, 105, 106, 107, 108, 109, 110, 111, 112, 113, 114, 115, 116, 117, 118, 119, 120, 121, 122, 123, 124, 125, 126, 127, 128, 129, 130, 131, 132, 133, 134, 135, 136, 137, 138, 139, 140, 141, 142, 143, 144, 145, 146, 147, 148, 149, 150, 151, 152, 153, 154, 155, 156, 157, 158, 159, 160, 161, 162, 163, 164, 165, 166, 167, 168, 169, 170, 171, 172, 173, 174, 175, 176, 177, 178, 179, 180, 181, 182, 183, 184, 185, 186]
abbrev a122l1F (s0 s7 s8 s9 s12 : AV) : List AV := [s0, .any, .any, .any, .any, .any, .any, s7, s8, s9, .any, .any, s12, .any, .any, .any, .any, .any, .any, .any, .any, .any, .any, .any, .any, .any, .any, .any, .any, .any, .any, .any, .any, .any, .any, .any, .any, .any, .any, .any, .any, .any, .any, .any, .any, .any, .any, .any, .any, .any, .any, .any, .any, .any, .any, .any, .any, .any, .any, .any, .any, .any, .any, .any, .any, .any, .any, .any, .any, .any, .any, .any, .any, .any, .any, .any, .any, .any, .any, .any, .any, .any, .any, .any, .any, .any, .any, .any, .any, .any, .any, .any, .any, .any, .any, .any, .any, .any, .any, .any, .any, .any, .any, .any, .any, .any, .any, .any, .any, .any, .any, .any, .any, .any, .any, .any, .any, .any, .any, .any, .any, .any, .any, .any, .any, .any, .any, .any, .any, .any, .any, .any, .any, .any, .any, .any, .any, .any, .any, .any, .any, .any, .any, .any, .any, .any, .any, .any, .any, .any, .any, .any, .any, .any, .any, .any, .any, .any, .any, .any, .any, .any, .any, .any, .any, .any, .any, .any, .any, .any, .any, .any, .any, .any, .any, .any, .any, .any, .any, .any, .any, .any, .any, .any, .any, .any, .any]
theorem a122l1c (s0 s1 s2 s3 s4 s5 s6 s7 s8 s9 s10 s11 s12 s13 s14 s15 s16 s17 s18 s19 s20 s21 s22 s23 s24 s25 s26 s27 s28 s29 s30 s31 s32 s33 s34 s35 s36 s37 s38 s39 s40 s41 s42 s43 s44 s45 s46 s47 s48 s49 s50 s51 s52 s53 s54 s55 s56 s57 s58 s59 s60 s61 s62 s63 s64 s65 s66 s67 s68 s69 s70 s71 s72 s73 s74 s75 s76 s77 s78 s79 s80 s81 s82 s83 s84 s85 s86 s87 s88 s89 s90 s91 s92 s93 s94 s95 s96 s97 s98 s99 s100 s101 s102 s103 s104 s105 s106 s107 s108 s109 s110 s111 s112 s113 s114 s115 s116 s117 s118 s119 s120 s121 s122 s123 s124 s125 s126 s127 s128 s129 s130 s131 s132 s133 s134 s135 s136 s137 s138 s139 s140 s141 s142 s143 s144 s145 s146 s147 s148 s149 s150 s151 s152 s153 s154 s155 s156 s157 s158 s159 s160 s161 s162 s163 s164 s165 s166 s167 s168 s169 s170 s171 s172 s173 s174 s175 s176 s177 s178 s179 s180 s181 s182 s183 s184 s185 s186 : AV) : clearA a122l1s [s0, s1, s2, s3, s4, s5, s6, s7, s8, s9, s10, s11, s12, s13, s14, s15, s16, s17, s18, s19, s20, s21, s22, s23, s24, s25, s26, s27, s28, s29, s30, s31, s32, s33, s34, s35, s36, s37, s38, s39, s40, s41, s42, s43, s44, s45, s46, s47, s48, s49, s50, s51, s52, s53, s54, s55, s56, s57, s58, s59, s60, s61, s62, s63, s64, s65, s66, s67, s68, s69, s70, s71, s72, s73, s74, s75, s76, s77, s78, s79, s80, s81, s82, s83, s84, s85, s86, s87, s88, s89, s90, s91, s92, s93, s94, s95, s96, s97, s98, s99, s100, s101, s102, s103, s104, s105, s106, s107, s108, s109, s110, s111, s112, s113, s114, s115, s116, s117, s118, s119, s120, s121, s122, s123, s124, s125, s126, s127, s128, s129, s130, s131, s132, s133, s134, s135, s136, s137, s138, s139, s140, s141, s142, s143, s144, s145, s146, s147, s148, s149, s150, s151, s152, s153, s154, s155, s156, s157, s158, s159, s160, s161, s162, s163, s164, s165, s166, s167, s168, s169, s170, s171, s172, s173, s174, s175, s176, s177, s178, s179, s180, s181, s182, s183, s184, s185, s186] = a122l1F s0 s7 s8 s9 s12 := by kernel_rfl
theorem a122l1n {prog : Nat → Option AFunc} (s0 s7 s8 s9 s12 : AV) (H : Heap) : (lim prog).loop a122l1s a122l1 ⟨a122l1F s0 s7 s8 s9 s12, H⟩ = loopK (lim prog) a122l1s a122l1 (run (lim prog) a122l1b ⟨a122l1F s0 s7 s8 s9 s12, H⟩) := lim_loop_step _ _ _ _ (by kernel_rfl)

def a122l2b : ACode :=
  .seq (.seq (.region [⟨some 23, .mov (.t 9), none⟩,
      ⟨some 24, .mov (.t 0), none⟩,
      ⟨some 25, .slen (.t 24), none⟩,
      ⟨some 26, .bin .lss (.t 23) (.t 25), none⟩])
   (.cond (.t 26)
    (.skip)
    (.exit 1)))
  (.block 2 (.scope (.seq (.seq (.draw 4 [⟨some 27, .mov (.t 0), none⟩,
         ⟨some 28, .mov (.t 9), none⟩,
         ⟨some 29, .sidx (.t 27) (.t 28), none⟩,
         ⟨some 30, .mov (.t 7), none⟩,
         ⟨some 31, .mov (.t 8), none⟩,
         ⟨some 32, .sidx (.t 30) (.t 31), none⟩,
         ⟨some 33, .bin .neq (.t 29) (.t 32), none⟩])
      (.cond (.t 33)
       (.seq (.draw 5 [⟨some 34, .mov (.t 0), none⟩,
           ⟨some 35, .mov (.t 9), none⟩,
           ⟨some 36, .bin .add (.t 35) (.c (.int Go.IntKind.i64 1)), none⟩,
           ⟨some 37, .sslice (.t 34) (some (.t 36)) none, none⟩,
           ⟨some 38, .mov (.t 7), none⟩,
           ⟨some 39, .mov (.t 8), none⟩,
           ⟨some 40, .sidx (.t 38) (.t 39), none⟩,
           ⟨some 41, .call 123 [(.t 37), (.t 40)], none⟩,
           ⟨some 11, .mov (.t 41), none⟩])
        (.seq (.seq (.region [⟨some 42, .mov (.t 11), none⟩,
             ⟨some 43, .bin .lss (.t 42) (.c (.int Go.IntKind.i64 0)), none⟩])
          (.cond (.t 43)
           (.seq (.region [⟨some 4, .mov (.c (.int Go.IntKind.i64 (-1))), none⟩])
            (.ret))
           (.skip)))
         (.region [⟨some 44, .mov (.t 9), none⟩,
            ⟨some 45, .mov (.t 11), none⟩,
            ⟨some 46, .bin .add (.t 45) (.c (.int Go.IntKind.i64 1)), none⟩,
            ⟨some 47, .bin .add (.t 44) (.t 46), none⟩,
            ⟨some 9, .mov (.t 47), none⟩])))
       (.skip)))
     (.seq (.seq (.region [⟨some 12, .mov (.c (.int Go.IntKind.i64 1)), none⟩])
       (.block 3 (.loop a122l1s a122l1)))
      (.seq (.seq (.region [⟨some 65, .mov (.t 9), none⟩,
           ⟨some 66, .mov (.t 8), none⟩,
           ⟨some 67, .bin .sub (.t 65) (.t 66), none⟩,
           ⟨some 4, .mov (.t 67), none⟩])
        (.ret))
       (.seq (.label)
        (.seq (.region [⟨some 68, .mov (.t 10), none⟩,
            ⟨some 69, .bin .add (.t 68) (.c (.int Go.IntKind.i64 1)), none⟩,
            ⟨some 10, .mov (.t 69), none⟩])
         (.seq (.region [⟨some 70, .mov (.t 9), none⟩,
             ⟨some 71, .bin .add (.t 70) (.c (.int Go.IntKind.i64 1)), none⟩,
             ⟨some 9, .mov (.t 71), none⟩])
          (.seq (.region [⟨some 72, .mov (.c (.bool true)), none⟩,
              ⟨some 73, .mov (.t 10), some (72, true)⟩,
              ⟨some 74, .mov (.t 9), some (72, true)⟩,
              ⟨some 75, .call 125 [(.t 74)], some (72, true)⟩,
              ⟨some 76, .bin .gtr (.t 73) (.t 75), some (72, true)⟩,
              ⟨some 77, .pick (.t 72) (.t 76) (.c (.bool false)), none⟩,
              ⟨some 78, .mov (.t 77), none⟩,
              ⟨some 79, .mov (.t 9), some (78, true)⟩,
              ⟨some 80, .mov (.t 0), some (78, true)⟩,
              ⟨some 81, .slen (.t 80), some (78, true)⟩,
              ⟨some 82, .bin .lss (.t 79) (.t 81), some (78, true)⟩,
              ⟨some 83, .pick (.t 78) (.t 82) (.c (.bool false)), none⟩,
              ⟨some 84, .mov (.t 83), none⟩,
              ⟨some 85, .mov (.c (.bool false)), some (84, false)⟩,
              ⟨some 86, .mov (.t 10), some (85, true)⟩,
              ⟨some 87, .mov (.t 9), some (85, true)⟩,
              ⟨some 88, .bin .shr (.t 87) (.c (.int Go.IntKind.u64 4)), some (85, true)⟩,
              ⟨some 89, .bin .add (.c (.int Go.IntKind.i64 4)) (.t 88), some (85, true)⟩,
              ⟨some 90, .bin .geq (.t 86) (.t 89), some (85, true)⟩,
              ⟨some 91, .pick (.t 85) (.t 90) (.c (.bool false)), some (84, false)⟩,
              ⟨some 92, .mov (.t 91), some (84, false)⟩,
              ⟨some 93, .mov (.t 9), some (92, true)⟩,
              ⟨some 94, .mov (.t 0), some (92, true)⟩,
              ⟨some 95, .slen (.t 94), some (92, true)⟩,
              ⟨some 96, .bin .lss (.t 93) (.t 95), some (92, true)⟩,
              ⟨some 97, .pick (.t 92) (.t 96) (.c (.bool false)), some (84, false)⟩,
              ⟨some 98, .pick (.t 84) (.c (.bool true)) (.t 97), none⟩])
           (.cond (.t 98)
            (.stuck)
            (.skip)))))))))))

def a122l2 : ACode := a122l2b
def a122l2s : List Nat := [1, 2, 3, 5, 6, 10, 11, 12, 13, 14, 15, 16, 17, 18, 19, 20, 21, 22, 23, 24, 25, 26, 27, 28, 29, 30, 31, 32, 33, 34, 35, 36, 37, 38, 39, 40, 41, 42, 43, 44, 45, 46, 47, 48, 49, 50, 51, 52, 53, 54, 55, 56, 57, 58, 59, 60, 61, 62, 63, 64, 65, 66, 67, 68, 69, 70, 71, 72, 73, 74, 75, 76, 77, 78, 79, 80, 81, 82, 83, 84, 85, 86, 87, 88, 89, 90, 91, 92, 93, 94, 95, 96, 97, 98, 99, 100, 101, 102, 103, 104, 105, 106, 107, 108, 109, 110, 111, 112, 113, 114, 115, 116, 117, 118, 119, 120, 121, 122, 123, 124, 125, 126, 127, 128, 129, 130, 131, 132, 133, 134, 135, 136, 137, 138, 139, 140, 141, 142, 143, 144, 145, 146, 147, 148, 149, 150, 151, 152, 153, 154, 155, 156, 157, 158, 159, 160, 161, 162, 163, 164, 165, 166, 167, 168, 169, 170, 171, 172, 173, 174, 175, 176, 177, 178, 179, 180, 181, 182, 183, 184, 185, 186]
abbrev a122l2F (s0 s4 s7 s8 s9 : AV) : List AV := [s0, .any, .any, .any, s4, .any, .any, s7, s8, s9, .any, .any, .any, .any, .any, .any, .any, .any, .any, .any, .any, .any, .any, .any, .any, .any, .any, .any, .any, .any, .any, .any, .any, .any, .any, .any, .any, .any, .any, .any, .any, .any, .any, .any, .any, .any, .any, .any, .any, .any, .any, .any, .any, .any, .any, .any, .any, .any, .any, .any, .any, .any, .any, .any, .any, .any, .any, .any, .any, .any, .any, .any, .any, .any, .any, .any, .any, .any, .any, .any, .any, .any, .any, .any, .any, .any, .any, .any, .any, .any, .any, .any, .any, .any, .any, .any, .any, .any, .any, .any, .any, .any, .any, .any, .any, .any, .any, .any, .any, .any, .any, .any, .any, .any, .any, .any, .any, .any, .any, .any, .any, .any, .any, .any, .any, .any, .any, .any, .any, .any, .any, .any, .any, .any, .any, .any, .any, .any, .any, .any, .any, .any, .any, .any, .any, .any, .any, .any, .any, .any, .any, .any, .any, .any, .any, .any, .any, .any, .any, .any, .any, .any, .any, .any, .any, .any, .any, .any, .any, .any, .any, .any, .any, .any, .any, .any, .any, .any, .any, .any, .any, .any, .any, .any, .any, .any, .any]
theorem a122l2c (s0 s1 s2 s3 s4 s5 s6 s7 s8 s9 s10 s11 s12 s13 s14 s15 s16 s17 s18 s19 s20 s21 s22 s23 s24 s25 s26 s27 s28 s29 s30 s31 s32 s33 s34 s35 s36 s37 s38 s39 s40 s41 s42 s43 s44 s45 s46 s47 s48 s49 s50 s51 s52 s53 s54 s55 s56 s57 s58 s59 s60 s61 s62 s63 s64 s65 s66 s67 s68 s69 s70 s71 s72 s73 s74 s75 s76 s77 s78 s79 s80 s81 s82 s83 s84 s85 s86 s87 s88 s89 s90 s91 s92 s93 s94 s95 s96 s97 s98 s99 s100 s101 s102 s103 s104 s105 s106 s107 s108 s109 s110 s111 s112 s113 s114 s115 s116 s117 s118 s119 s120 s121 s122 s123 s124 s125 s126 s127 s128 s129 s130 s131 s132 s133 s134 s135 s136 s137 s138 s139 s140 s141 s142 s143 s144 s145 s146 s147 s148 s149 s150 s151 s152 s153 s154 s155 s156 s157 s158 s159 s160 s161 s162 s163 s164 s165 s166 s167 s168 s169 s170 s171 s172 s173 s174 s175 s176 s177 s178 s179 s180 s181 s182 s183 s184 s185 s186 : AV) : clearA a122l2s [s0, s1, s2, s3, s4, s5, s6, s7, s8, s9, s10, s11, s12, s13, s14, s15, s16, s17, s18, s19, s20, s21, s22, s23, s24, s25, s26, s27, s28, s29, s30, s31, s32, s33, s34, s35, s36, s37, s38, s39, s40, s41, s42, s43, s44, s45, s46, s47, s48, s49, s50, s51, s52, s53, s54, s55, s56, s57, s58, s59, s60, s61, s62, s63, s64, s65, s66, s67, s68, s69, s70, s71, s72, s73, s74, s75, s76, s77, s78, s79, s80, s81, s82, s83, s84, s85, s86, s87, s88, s89, s90, s91, s92, s93, s94, s95, s96, s97, s98, s99, s100, s101, s102, s103, s104, s105, s106, s107, s108, s109, s110, s111, s112, s113, s114, s115, s116, s117, s118, s119, s120, s121, s122, s123, s124, s125, s126, s127, s128, s129, s130, s131, s132, s133, s134, s135, s136, s137, s138, s139, s140, s141, s142, s143, s144, s145, s146, s147, s148, s149, s150, s151, s152, s153, s154, s155, s156, s157, s158, s159, s160, s161, s162, s163, s164, s165, s166, s167, s168, s169, s170, s171, s172, s173, s174, s175, s176, s177, s178, s179, s180, s181, s182, s183, s184, s185, s186] = a122l2F s0 s4 s7 s8 s9 := by kernel_rfl
theorem a122l2n {prog : Nat → Option AFunc} (s0 s4 s7 s8 s9 : AV) (H : Heap) : (lim prog).loop a122l2s a122l2 ⟨a122l2F s0 s4 s7 s8 s9, H⟩ = loopK (lim prog) a122l2s a122l2 (run (lim prog) a122l2b ⟨a122l2F s0 s4 s7 s8 s9, H⟩) := lim_loop_step _ _ _ _ (by kernel_rfl)

def a122l3b : ACode :=
  .seq (.seq (.region [⟨some 140, .mov (.t 16), none⟩,
      ⟨some 141, .mov (.t 7), none⟩,
      ⟨some 142, .slen (.t 141), none⟩,
      ⟨some 143, .bin .lss (.t 140) (.t 142), none⟩])
   (.cond (.t 143)
    (.skip)
    (.exit 7)))
  (.seq (.block 8 (.seq (.draw 7 [⟨some 146, .mov (.t 0), none⟩,
        ⟨some 147, .mov (.t 9), none⟩,
        ⟨some 148, .mov (.t 16), none⟩,
        ⟨some 149, .bin .sub (.t 147) (.t 148), none⟩,
        ⟨some 150, .sidx (.t 146) (.t 149), none⟩,
        ⟨some 151, .mov (.t 7), none⟩,
        ⟨some 152, .mov (.t 8), none⟩,
        ⟨some 153, .mov (.t 16), none⟩,
        ⟨some 154, .bin .sub (.t 152) (.t 153), none⟩,
        ⟨some 155, .sidx (.t 151) (.t 154), none⟩,
        ⟨some 156, .bin .neq (.t 150) (.t 155), none⟩])
     (.cond (.t 156)
      (.exit 6)
      (.skip))))
   (.region [⟨some 144, .mov (.t 16), none⟩,
      ⟨some 145, .bin .add (.t 144) (.c (.int Go.IntKind.i64 1)), none⟩,
      ⟨some 16, .mov (.t 145), none⟩]))

def a122l3 : ACode := a122l3b
def a122l3s : List Nat := [1, 2, 3, 4, 5, 6, 10, 11, 12, 13, 17, 18, 19, 20, 21, 22, 23, 24, 25, 26, 27, 28, 29, 30, 31, 32, 33, 34, 35, 36, 37, 38, 39, 40, 41, 42, 43, 44, 45, 46, 47, 48, 49, 50, 51, 52, 53, 54, 55, 56, 57, 58, 59, 60, 61, 62, 63, 64, 65, 66, 67, 68, 69, 70, 71, 72, 73, 74, 75, 76, 77, 78, 79, 80, 81, 82, 83, 84, 85, 86, 87, 88, 89, 90, 91, 92, 93, 94, 95, 96, 97, 98, 99, 100, 101, 102, 103, 104, 105, 106, 107, 108, 109, 110, 111, 112, 113, 114, 115, 116, 117, 118, 119, 120, 121, 122, 123, 124, 125, 126, 127, 128, 129, 130, 131, 132, 133, 134, 135, 136, 137, 138, 139, 140, 141, 142, 143, 144, 145, 146, 147, 148, 149, 150, 151, 152, 153, 154, 155, 156, 157, 158, 159, 160, 161, 162, 163, 164, 165, 166, 167, 168, 169, 170, 171, 172, 173, 174, 175, 176, 177, 178, 179, 180, 181, 182, 183, 184, 185, 186]
abbrev a122l3F (s0 s7 s8 s9 s14 s15 s16 : AV) : List AV := [s0, .any, .any, .any, .any, .any, .any, s7, s8, s9, .any, .any, .any, .any, s14, s15, s16, .any, .any, .any, .any, .any, .any, .any, .any, .any, .any, .any, .any, .any, .any, .any, .any, .any, .any, .any, .any, .any, .any, .any, .any, .any, .any, .any, .any, .any, .any, .any, .any, .any, .any, .any, .any, .any, .any, .any, .any, .any, .any, .any, .any, .any, .any, .any, .any, .any, .any, .any, .any, .any, .any, .any, .any, .any, .any, .any, .any, .any, .any, .any, .any, .any, .any, .any, .any, .any, .any, .any, .any, .any, .any, .any, .any, .any, .any, .any, .any, .any, .any, .any, .any, .any, .any, .any, .any, .any, .any, .any, .any, .any, .any, .any, .any, .any, .any, .any, .any, .any, .any, .any, .any, .any, .any, .any, .any, .any, .any, .any, .any, .any, .any, .any, .any, .any, .any, .any, .any, .any, .any, .any, .any, .any, .any, .any, .any, .any, .any, .any, .any, .any, .any, .any, .any, .any, .any, .any, .any, .any, .any, .any, .any, .any, .any, .any, .any, .any, .any, .any, .any, .any, .any, .any, .any, .any, .any, .any, .any, .any, .any, .any, .any, .any, .any, .any, .any, .any, .any]
theorem a122l3c (s0 s1 s2 s3 s4 s5 s6 s7 s8 s9 s10 s11 s12 s13 s14 s15 s16 s17 s18 s19 s20 s21 s22 s23 s24 s25 s26 s27 s28 s29 s30 s31 s32 s33 s34 s35 s36 s37 s38 s39 s40 s41 s42 s43 s44 s45 s46 s47 s48 s49 s50 s51 s52 s53 s54 s55 s56 s57 s58 s59 s60 s61 s62 s63 s64 s65 s66 s67 s68 s69 s70 s71 s72 s73 s74 s75 s76 s77 s78 s79 s80 s81 s82 s83 s84 s85 s86 s87 s88 s89 s90 s91 s92 s93 s94 s95 s96 s97 s98 s99 s100 s101 s102 s103 s104 s105 s106 s107 s108 s109 s110 s111 s112 s113 s114 s115 s116 s117 s118 s119 s120 s121 s122 s123 s124 s125 s126 s127 s128 s129 s130 s131 s132 s133 s134 s135 s136 s137 s138 s139 s140 s141 s142 s143 s144 s145 s146 s147 s148 s149 s150 s151 s152 s153 s154 s155 s156 s157 s158 s159 s160 s161 s162 s163 s164 s165 s166 s167 s168 s169 s170 s171 s172 s173 s174 s175 s176 s177 s178 s179 s180 s181 s182 s183 s184 s185 s186 : AV) : clearA a122l3s [s0, s1, s2, s3, s4, s5, s6, s7, s8, s9, s10, s11, s12, s13, s14, s15, s16, s17, s18, s19, s20, s21, s22, s23, s24, s25, s26, s27, s28, s29, s30, s31, s32, s33, s34, s35, s36, s37, s38, s39, s40, s41, s42, s43, s44, s45, s46, s47, s48, s49, s50, s51, s52, s53, s54, s55, s56, s57, s58, s59, s60, s61, s62, s63, s64, s65, s66, s67, s68, s69, s70, s71, s72, s73, s74, s75, s76, s77, s78, s79, s80, s81, s82, s83, s84, s85, s86, s87, s88, s89, s90, s91, s92, s93, s94, s95, s96, s97, s98, s99, s100, s101, s102, s103, s104, s105, s106, s107, s108, s109, s110, s111, s112, s113, s114, s115, s116, s117, s118, s119, s120, s121, s122, s123, s124, s125, s126, s127, s128, s129, s130, s131, s132, s133, s134, s135, s136, s137, s138, s139, s140, s141, s142, s143, s144, s145, s146, s147, s148, s149, s150, s151, s152, s153, s154, s155, s156, s157, s158, s159, s160, s161, s162, s163, s164, s165, s166, s167, s168, s169, s170, s171, s172, s173, s174, s175, s176, s177, s178, s179, s180, s181, s182, s183, s184, s185, s186] = a122l3F s0 s7 s8 s9 s14 s15 s16 := by kernel_rfl
theorem a122l3n {prog : Nat → Option AFunc} (s0 s7 s8 s9 s14 s15 s16 : AV) (H : Heap) : (lim prog).loop a122l3s a122l3 ⟨a122l3F s0 s7 s8 s9 s14 s15 s16, H⟩ = loopK (lim prog) a122l3s a122l3 (run (lim prog) a122l3b ⟨a122l3F s0 s7 s8 s9 s14 s15 s16, H⟩) := lim_loop_step _ _ _ _ (by kernel_rfl)

def a122l4b : ACode :=
  .seq (.seq (.region [⟨some 121, .mov (.t 9), none⟩,
      ⟨some 122, .mov (.t 0), none⟩,
      ⟨some 123, .slen (.t 122), none⟩,
      ⟨some 124, .bin .lss (.t 121) (.t 123), none⟩])
   (.cond (.t 124)
    (.skip)
    (.exit 5)))
  (.seq (.block 6 (.seq (.region [⟨some 127, .mov (.t 0), none⟩,
        ⟨some 128, .mov (.t 9), none⟩,
        ⟨some 129, .sidx (.t 127) (.t 128), none⟩,
        ⟨some 130, .mov (.t 14), none⟩,
        ⟨some 131, .bin .eql (.t 129) (.t 130), none⟩,
        ⟨some 132, .mov (.t 131), none⟩,
        ⟨some 133, .mov (.t 0), some (132, true)⟩,
        ⟨some 134, .mov (.t 9), some (132, true)⟩,
        ⟨some 135, .bin .sub (.t 134) (.c (.int Go.IntKind.i64 1)), some (132, true)⟩,
        ⟨some 136, .sidx (.t 133) (.t 135), some (132, true)⟩,
        ⟨some 137, .mov (.t 15), some (132, true)⟩,
        ⟨some 138, .bin .eql (.t 136) (.t 137), some (132, true)⟩,
        ⟨some 139, .pick (.t 132) (.t 138) (.c (.bool false)), none⟩])
     (.cond (.t 139)
      (.seq (.seq (.region [⟨some 16, .mov (.c (.int Go.IntKind.i64 2)), none⟩])
        (.block 7 (.loop a122l3s a122l3)))
       (.seq (.region [⟨some 157, .mov (.t 9), none⟩,
           ⟨some 158, .mov (.t 8), none⟩,
           ⟨some 159, .bin .sub (.t 157) (.t 158), none⟩,
           ⟨some 4, .mov (.t 159), none⟩])
        (.ret)))
      (.skip))))
   (.region [⟨some 125, .mov (.t 9), none⟩,
      ⟨some 126, .bin .add (.t 125) (.c (.int Go.IntKind.i64 1)), none⟩,
      ⟨some 9, .mov (.t 126), none⟩]))

def a122l4 : ACode := a122l4b
def a122l4s : List Nat := [1, 2, 3, 5, 6, 10, 11, 12, 13, 16, 17, 18, 19, 20, 21, 22, 23, 24, 25, 26, 27, 28, 29, 30, 31, 32, 33, 34, 35, 36, 37, 38, 39, 40, 41, 42, 43, 44, 45, 46, 47, 48, 49, 50, 51, 52, 53, 54, 55, 56, 57, 58, 59, 60, 61, 62, 63, 64, 65, 66, 67, 68, 69, 70, 71, 72, 73, 74, 75, 76, 77, 78, 79, 80, 81, 82, 83, 84, 85, 86, 87, 88, 89, 90, 91, 92, 93, 94, 95, 96, 97, 98, 99, 100, 101, 102, 103, 104, 105, 106, 107, 108, 109, 110, 111, 112, 113, 114, 115, 116, 117, 118, 119, 120, 121, 122, 123, 124, 125, 126, 127, 128, 129, 130, 131, 132, 133, 134, 135, 136, 137, 138, 139, 140, 141, 142, 143, 144, 145, 146, 147, 148, 149, 150, 151, 152, 153, 154, 155, 156, 157, 158, 159, 160, 161, 162, 163, 164, 165, 166, 167, 168, 169, 170, 171, 172, 173, 174, 175, 176, 177, 178, 179, 180, 181, 182, 183, 184, 185, 186]
abbrev a122l4F (s0 s4 s7 s8 s9 s14 s15 : AV) : List AV := [s0, .any, .any, .any, s4, .any, .any, s7, s8, s9, .any, .any, .any, .any, s14, s15, .any, .any, .any, .any, .any, .any, .any, .any, .any, .any, .any, .any, .any, .any, .any, .any, .any, .any, .any, .any, .any, .any, .any, .any, .any, .any, .any, .any, .any, .any, .any, .any, .any, .any, .any, .any, .any, .any, .any, .any, .any, .any, .any, .any, .any, .any, .any, .any, .any, .any, .any, .any, .any, .any, .any, .any, .any, .any, .any, .any, .any, .any, .any, .any, .any, .any, .any, .any, .any, .any, .any, .any, .any, .any, .any, .any, .any, .any, .any, .any, .any, .any, .any, .any, .any, .any, .any, .any, .any, .any, .any, .any, .any, .any, .any, .any, .any, .any, .any, .any, .any, .any, .any, .any, .any, .any, .any, .any, .any, .any, .any, .any, .any, .any, .any, .any, .any, .any, .any, .any, .any, .any, .any, .any, .any, .any, .any, .any, .any, .any, .any, .any, .any, .any, .any, .any, .any, .any, .any, .any, .any, .any, .any, .any, .any, .any, .any, .any, .any, .any, .any, .any, .any, .any, .any, .any, .any, .any, .any, .any, .any, .any, .any, .any, .any, .any, .any, .any, .any, .any, .any]
theorem a122l4c (s0 s1 s2 s3 s4 s5 s6 s7 s8 s9 s10 s11 s12 s13 s14 s15 s16 s17 s18 s19 s20 s21 s22 s23 s24 s25 s26 s27 s28 s29 s30 s31 s32 s33 s34 s35 s36 s37 s38 s39 s40 s41 s42 s43 s44 s45 s46 s47 s48 s49 s50 s51 s52 s53 s54 s55 s56 s57 s58 s59 s60 s61 s62 s63 s64 s65 s66 s67 s68 s69 s70 s71 s72 s73 s74 s75 s76 s77 s78 s79 s80 s81 s82 s83 s84 s85 s86 s87 s88 s89 s90 s91 s92 s93 s94 s95 s96 s97 s98 s99 s100 s101 s102 s103 s104 s105 s106 s107 s108 s109 s110 s111 s112 s113 s114 s115 s116 s117 s118 s119 s120 s121 s122 s123 s124 s125 s126 s127 s128 s129 s130 s131 s132 s133 s134 s135 s136 s137 s138 s139 s140 s141 s142 s143 s144 s145 s146 s147 s148 s149 s150 s151 s152 s153 s154 s155 s156 s157 s158 s159 s160 s161 s162 s163 s164 s165 s166 s167 s168 s169 s170 s171 s172 s173 s174 s175 s176 s177 s178 s179 s180 s181 s182 s183 s184 s185 s186 : AV) : clearA a122l4s [s0, s1, s2, s3, s4, s5, s6, s7, s8, s9, s10, s11, s12, s13, s14, s15, s16, s17, s18, s19, s20, s21, s22, s23, s24, s25, s26, s27, s28, s29, s30, s31, s32, s33, s34, s35, s36, s37, s38, s39, s40, s41, s42, s43, s44, s45, s46, s47, s48, s49, s50, s51, s52, s53, s54, s55, s56, s57, s58, s59, s60, s61, s62, s63, s64, s65, s66, s67, s68, s69, s70, s71, s72, s73, s74, s75, s76, s77, s78, s79, s80, s81, s82, s83, s84, s85, s86, s87, s88, s89, s90, s91, s92, s93, s94, s95, s96, s97, s98, s99, s100, s101, s102, s103, s104, s105, s106, s107, s108, s109, s110, s111, s112, s113, s114, s115, s116, s117, s118, s119, s120, s121, s122, s123, s124, s125, s126, s127, s128, s129, s130, s131, s132, s133, s134, s135, s136, s137, s138, s139, s140, s141, s142, s143, s144, s145, s146, s147, s148, s149, s150, s151, s152, s153, s154, s155, s156, s157, s158, s159, s160, s161, s162, s163, s164, s165, s166, s167, s168, s169, s170, s171, s172, s173, s174, s175, s176, s177, s178, s179, s180, s181, s182, s183, s184, s185, s186] = a122l4F s0 s4 s7 s8 s9 s14 s15 := by kernel_rfl
theorem a122l4n {prog : Nat → Option AFunc} (s0 s4 s7 s8 s9 s14 s15 : AV) (H : Heap) : (lim prog).loop a122l4s a122l4 ⟨a122l4F s0 s4 s7 s8 s9 s14 s15, H⟩ = loopK (lim prog) a122l4s a122l4 (run (lim prog) a122l4b ⟨a122l4F s0 s4 s7 s8 s9 s14 s15, H⟩) := lim_loop_step _ _ _ _ (by kernel_rfl)

/-- strings.IndexRune -/
def a122 : AFunc := ⟨187,
  .seq (.region [⟨some 4, .mov (.c (.int Go.IntKind.i64 0)), none⟩])
  (.block 0 (.seq (.region [⟨some 161, .mov (.t 1), none⟩,
       ⟨some 162, .bin .leq (.c (.int Go.IntKind.i32 0)) (.t 161), none⟩,
       ⟨some 163, .mov (.t 162), none⟩,
       ⟨some 164, .mov (.t 1), some (163, true)⟩,
       ⟨some 165, .bin .lss (.t 164) (.c (.int Go.IntKind.i32 128)), some (163, true)⟩,
       ⟨some 166, .pick (.t 163) (.t 165) (.c (.bool false)), none⟩,
       ⟨some 160, .mov (.t 166), none⟩])
    (.cond (.t 160)
     (.seq (.region [⟨some 167, .mov (.t 0), none⟩,
         ⟨some 168, .mov (.t 1), none⟩,
         ⟨some 169, .conv Go.IntKind.u8 (.t 168), none⟩,
         ⟨some 170, .call 123 [(.t 167), (.t 169)], none⟩,
         ⟨some 4, .mov (.t 170), none⟩])
      (.ret))
     (.seq (.region [⟨some 172, .mov (.t 1), none⟩,
         ⟨some 173, .bin .eql (.t 172) (.c (.int Go.IntKind.i32 65533)), none⟩,
         ⟨some 171, .mov (.t 173), none⟩])
      (.cond (.t 171)
       (.seq (.seq (.stuck)
         (.block 9 (.loop a122l0s a122l0)))
        (.seq (.region [⟨some 4, .mov (.c (.int Go.IntKind.i64 (-1))), none⟩])
         (.ret)))
       (.seq (.region [⟨some 184, .mov (.t 1), none⟩,
           ⟨some 185, .call 124 [(.t 184)], none⟩,
           ⟨some 186, .un .not (.t 185), none⟩,
           ⟨some 183, .mov (.t 186), none⟩])
        (.cond (.t 183)
         (.seq (.region [⟨some 4, .mov (.c (.int Go.IntKind.i64 (-1))), none⟩])
          (.ret))
         (.scope (.seq (.stuck)
           (.seq (.region [⟨some 19, .mov (.t 7), none⟩,
               ⟨some 20, .slen (.t 19), none⟩,
               ⟨some 21, .bin .sub (.t 20) (.c (.int Go.IntKind.i64 1)), none⟩,
               ⟨some 8, .mov (.t 21), none⟩])
            (.seq (.region [⟨some 22, .mov (.t 8), none⟩,
                ⟨some 9, .mov (.t 22), none⟩])
             (.seq (.region [⟨some 10, .mov (.c (.int Go.IntKind.i64 0)), none⟩])
              (.seq (.block 1 (.loop a122l2s a122l2))
               (.seq (.seq (.region [⟨some 4, .mov (.c (.int Go.IntKind.i64 (-1))), none⟩])
                 (.ret))
                (.seq (.label)
                 (.seq (.cond (.c (.bool true))
                   (.seq (.stuck)
                    (.seq (.region [⟨some 107, .mov (.t 13), none⟩,
                        ⟨some 108, .bin .geq (.t 107) (.c (.int Go.IntKind.i64 0)), none⟩])
                     (.cond (.t 108)
                      (.seq (.region [⟨some 109, .mov (.t 9), none⟩,
                          ⟨some 110, .mov (.t 13), none⟩,
                          ⟨some 111, .bin .add (.t 109) (.t 110), none⟩,
                          ⟨some 112, .mov (.t 8), none⟩,
                          ⟨some 113, .bin .sub (.t 111) (.t 112), none⟩,
                          ⟨some 4, .mov (.t 113), none⟩])
                       (.ret))
                      (.skip))))
                   (.scope (.seq (.region [⟨some 114, .mov (.t 7), none⟩,
                        ⟨some 115, .mov (.t 8), none⟩,
                        ⟨some 116, .sidx (.t 114) (.t 115), none⟩,
                        ⟨some 14, .mov (.t 116), none⟩])
                     (.seq (.region [⟨some 117, .mov (.t 7), none⟩,
                         ⟨some 118, .mov (.t 8), none⟩,
                         ⟨some 119, .bin .sub (.t 118) (.c (.int Go.IntKind.i64 1)), none⟩,
                         ⟨some 120, .sidx (.t 117) (.t 119), none⟩,
                         ⟨some 15, .mov (.t 120), none⟩])
                      (.seq (.label)
                       (.block 5 (.loop a122l4s a122l4)))))))
                  (.seq (.region [⟨some 4, .mov (.c (.int Go.IntKind.i64 (-1))), none⟩])
                   (.ret)))))))))))))))))),
  [.tmp 4]⟩

/-- strings.IndexByte -/
def a123 : AFunc := ⟨8,
  .seq (.region [⟨some 4, .mov (.c (.int Go.IntKind.i64 0)), none⟩])
  (.seq (.region [⟨some 5, .mov (.t 0), none⟩,
      ⟨some 6, .mov (.t 1), none⟩,
      ⟨some 7, .call 127 [(.t 5), (.t 6)], none⟩,
      ⟨some 4, .mov (.t 7), none⟩])
   (.ret)),
  [.tmp 4]⟩

/-- unicode/utf8.ValidRune -/
def a124 : AFunc := ⟨17,
  .seq (.region [⟨some 2, .mov (.c (.bool false)), none⟩])
  (.seq (.block 0 (.seq (.region [⟨some 4, .mov (.t 0), none⟩,
        ⟨some 5, .bin .leq (.c (.int Go.IntKind.i32 0)) (.t 4), none⟩,
        ⟨some 6, .mov (.t 5), none⟩,
        ⟨some 7, .mov (.t 0), some (6, true)⟩,
        ⟨some 8, .bin .lss (.t 7) (.c (.int Go.IntKind.i32 55296)), some (6, true)⟩,
        ⟨some 9, .pick (.t 6) (.t 8) (.c (.bool false)), none⟩,
        ⟨some 3, .mov (.t 9), none⟩])
     (.cond (.t 3)
      (.seq (.region [⟨some 2, .mov (.c (.bool true)), none⟩])
       (.ret))
      (.seq (.region [⟨some 11, .mov (.t 0), none⟩,
          ⟨some 12, .bin .lss (.c (.int Go.IntKind.i32 57343)) (.t 11), none⟩,
          ⟨some 13, .mov (.t 12), none⟩,
          ⟨some 14, .mov (.t 0), some (13, true)⟩,
          ⟨some 15, .bin .leq (.t 14) (.c (.int Go.IntKind.i32 1114111)), some (13, true)⟩,
          ⟨some 16, .pick (.t 13) (.t 15) (.c (.bool false)), none⟩,
          ⟨some 10, .mov (.t 16), none⟩])
       (.cond (.t 10)
        (.seq (.region [⟨some 2, .mov (.c (.bool true)), none⟩])
         (.ret))
        (.skip))))))
   (.seq (.region [⟨some 2, .mov (.c (.bool false)), none⟩])
    (.ret))),
  [.tmp 2]⟩

/-- internal/bytealg.Cutover -/
def a125 : AFunc := ⟨6,
  .seq (.region [⟨some 2, .mov (.c (.int Go.IntKind.i64 0)), none⟩])
  (.seq (.region [⟨some 3, .mov (.t 0), none⟩,
      ⟨some 4, .bin .add (.t 3) (.c (.int Go.IntKind.i64 16)), none⟩,
      ⟨some 5, .bin .quo (.t 4) (.c (.int Go.IntKind.i64 8)), none⟩,
      ⟨some 2, .mov (.t 5), none⟩])
   (.ret)),
  [.tmp 2]⟩

/-- internal/stringslite.IndexByte -/
def a127 : AFunc := ⟨8,
  .seq (.region [⟨some 4, .mov (.c (.int Go.IntKind.i64 0)), none⟩])
  (.seq (.stuck)
   (.ret)),
  [.tmp 4]⟩

def aprog : Nat → Option AFunc
  | 4 => some a4
  | 12 => some a12
  | 14 => some a14
  | 15 => some a15
  | 16 => some a16
  | 18 => some a18
  | 20 => some a20
  | 22 => some a22
  | 25 => some a25
  | 28 => some a28
  | 29 => some a29
  | 30 => some a30
  | 31 => some a31
  | 32 => some a32
  | 33 => some a33
  | 36 => some a36
  | 42 => some a42
  | 44 => some a44
  | 45 => some a45
  | 46 => some a46
  | 47 => some a47
  | 48 => some a48
  | 49 => some a49
  | 54 => some a54
  | 55 => some a55
  | 57 => some a57
  | 58 => some a58
  | 60 => some a60
  | 61 => some a61
  | 62 => some a62
  | 63 => some a63
  | 64 => some a64
  | 65 => some a65
  | 66 => some a66
  | 67 => some a67
  | 68 => some a68
  | 69 => some a69
  | 70 => some a70
  | 72 => some a72
  | 73 => some a73
  | 75 => some a75
  | 78 => some a78
  | 79 => some a79
  | 81 => some a81
  | 82 => some a82
  | 83 => some a83
  | 86 => some a86
  | 87 => some a87
  | 88 => some a88
  | 89 => some a89
  | 90 => some a90
  | 91 => some a91
  | 92 => some a92
  | 93 => some a93
  | 95 => some a95
  | 96 => some a96
  | 102 => some a102
  | 103 => some a103
  | 104 => some a104
  | 105 => some a105
  | 106 => some a106
  | 111 => some a111
  | 112 => some a112
  | 113 => some a113
  | 114 => some a114
  | 115 => some a115
  | 116 => some a116
  | 117 => some a117
  | 118 => some a118
  | 119 => some a119
  | 120 => some a120
  | 121 => some a121
  | 122 => some a122
  | 123 => some a123
  | 124 => some a124
  | 125 => some a125
  | 127 => some a127
  | _ => none
theorem a4p (args : List AV) : (lim aprog).pcall 4 args = pbodyA (lim aprog) a4 args := lim_pcall_eq rfl args
theorem a4i (caps args : List AV) (H : Heap) : (lim aprog).icall (.func 4 caps) args H = bodyA (lim aprog) a4 (args ++ caps) H := lim_fcall_eq rfl caps args H
theorem a12p (args : List AV) : (lim aprog).pcall 12 args = pbodyA (lim aprog) a12 args := lim_pcall_eq rfl args
theorem a12i (caps args : List AV) (H : Heap) : (lim aprog).icall (.func 12 caps) args H = bodyA (lim aprog) a12 (args ++ caps) H := lim_fcall_eq rfl caps args H
theorem a14p (args : List AV) : (lim aprog).pcall 14 args = pbodyA (lim aprog) a14 args := lim_pcall_eq rfl args
theorem a14i (caps args : List AV) (H : Heap) : (lim aprog).icall (.func 14 caps) args H = bodyA (lim aprog) a14 (args ++ caps) H := lim_fcall_eq rfl caps args H
theorem a15p (args : List AV) : (lim aprog).pcall 15 args = pbodyA (lim aprog) a15 args := lim_pcall_eq rfl args
theorem a15i (caps args : List AV) (H : Heap) : (lim aprog).icall (.func 15 caps) args H = bodyA (lim aprog) a15 (args ++ caps) H := lim_fcall_eq rfl caps args H
theorem a16p (args : List AV) : (lim aprog).pcall 16 args = pbodyA (lim aprog) a16 args := lim_pcall_eq rfl args
theorem a16i (caps args : List AV) (H : Heap) : (lim aprog).icall (.func 16 caps) args H = bodyA (lim aprog) a16 (args ++ caps) H := lim_fcall_eq rfl caps args H
theorem a18p (args : List AV) : (lim aprog).pcall 18 args = pbodyA (lim aprog) a18 args := lim_pcall_eq rfl args
theorem a18i (caps args : List AV) (H : Heap) : (lim aprog).icall (.func 18 caps) args H = bodyA (lim aprog) a18 (args ++ caps) H := lim_fcall_eq rfl caps args H
theorem a20p (args : List AV) : (lim aprog).pcall 20 args = pbodyA (lim aprog) a20 args := lim_pcall_eq rfl args
theorem a20i (caps args : List AV) (H : Heap) : (lim aprog).icall (.func 20 caps) args H = bodyA (lim aprog) a20 (args ++ caps) H := lim_fcall_eq rfl caps args H
theorem a22p (args : List AV) : (lim aprog).pcall 22 args = pbodyA (lim aprog) a22 args := lim_pcall_eq rfl args
theorem a22i (caps args : List AV) (H : Heap) : (lim aprog).icall (.func 22 caps) args H = bodyA (lim aprog) a22 (args ++ caps) H := lim_fcall_eq rfl caps args H
theorem a25p (args : List AV) : (lim aprog).pcall 25 args = pbodyA (lim aprog) a25 args := lim_pcall_eq rfl args
theorem a25i (caps args : List AV) (H : Heap) : (lim aprog).icall (.func 25 caps) args H = bodyA (lim aprog) a25 (args ++ caps) H := lim_fcall_eq rfl caps args H
theorem a28p (args : List AV) : (lim aprog).pcall 28 args = pbodyA (lim aprog) a28 args := lim_pcall_eq rfl args
theorem a28i (caps args : List AV) (H : Heap) : (lim aprog).icall (.func 28 caps) args H = bodyA (lim aprog) a28 (args ++ caps) H := lim_fcall_eq rfl caps args H
theorem a29p (args : List AV) : (lim aprog).pcall 29 args = pbodyA (lim aprog) a29 args := lim_pcall_eq rfl args
theorem a29i (caps args : List AV) (H : Heap) : (lim aprog).icall (.func 29 caps) args H = bodyA (lim aprog) a29 (args ++ caps) H := lim_fcall_eq rfl caps args H
theorem a30p (args : List AV) : (lim aprog).pcall 30 args = pbodyA (lim aprog) a30 args := lim_pcall_eq rfl args
theorem a30i (caps args : List AV) (H : Heap) : (lim aprog).icall (.func 30 caps) args H = bodyA (lim aprog) a30 (args ++ caps) H := lim_fcall_eq rfl caps args H
theorem a31p (args : List AV) : (lim aprog).pcall 31 args = pbodyA (lim aprog) a31 args := lim_pcall_eq rfl args
theorem a31i (caps args : List AV) (H : Heap) : (lim aprog).icall (.func 31 caps) args H = bodyA (lim aprog) a31 (args ++ caps) H := lim_fcall_eq rfl caps args H
theorem a32p (args : List AV) : (lim aprog).pcall 32 args = pbodyA (lim aprog) a32 args := lim_pcall_eq rfl args
theorem a32i (caps args : List AV) (H : Heap) : (lim aprog).icall (.func 32 caps) args H = bodyA (lim aprog) a32 (args ++ caps) H := lim_fcall_eq rfl caps args H
theorem a33p (args : List AV) : (lim aprog).pcall 33 args = pbodyA (lim aprog) a33 args := lim_pcall_eq rfl args
theorem a33i (caps args : List AV) (H : Heap) : (lim aprog).icall (.func 33 caps) args H = bodyA (lim aprog) a33 (args ++ caps) H := lim_fcall_eq rfl caps args H
theorem a36p (args : List AV) : (lim aprog).pcall 36 args = pbodyA (lim aprog) a36 args := lim_pcall_eq rfl args
theorem a36i (caps args : List AV) (H : Heap) : (lim aprog).icall (.func 36 caps) args H = bodyA (lim aprog) a36 (args ++ caps) H := lim_fcall_eq rfl caps args H
theorem a42p (args : List AV) : (lim aprog).pcall 42 args = pbodyA (lim aprog) a42 args := lim_pcall_eq rfl args
theorem a42i (caps args : List AV) (H : Heap) : (lim aprog).icall (.func 42 caps) args H = bodyA (lim aprog) a42 (args ++ caps) H := lim_fcall_eq rfl caps args H
theorem a44p (args : List AV) : (lim aprog).pcall 44 args = pbodyA (lim aprog) a44 args := lim_pcall_eq rfl args
theorem a44i (caps args : List AV) (H : Heap) : (lim aprog).icall (.func 44 caps) args H = bodyA (lim aprog) a44 (args ++ caps) H := lim_fcall_eq rfl caps args H
theorem a45p (args : List AV) : (lim aprog).pcall 45 args = pbodyA (lim aprog) a45 args := lim_pcall_eq rfl args
theorem a45i (caps args : List AV) (H : Heap) : (lim aprog).icall (.func 45 caps) args H = bodyA (lim aprog) a45 (args ++ caps) H := lim_fcall_eq rfl caps args H
theorem a46p (args : List AV) : (lim aprog).pcall 46 args = pbodyA (lim aprog) a46 args := lim_pcall_eq rfl args
theorem a46i (caps args : List AV) (H : Heap) : (lim aprog).icall (.func 46 caps) args H = bodyA (lim aprog) a46 (args ++ caps) H := lim_fcall_eq rfl caps args H
theorem a47p (args : List AV) : (lim aprog).pcall 47 args = pbodyA (lim aprog) a47 args := lim_pcall_eq rfl args
theorem a47i (caps args : List AV) (H : Heap) : (lim aprog).icall (.func 47 caps) args H = bodyA (lim aprog) a47 (args ++ caps) H := lim_fcall_eq rfl caps args H
theorem a48p (args : List AV) : (lim aprog).pcall 48 args = pbodyA (lim aprog) a48 args := lim_pcall_eq rfl args
theorem a48i (caps args : List AV) (H : Heap) : (lim aprog).icall (.func 48 caps) args H = bodyA (lim aprog) a48 (args ++ caps) H := lim_fcall_eq rfl caps args H
theorem a49p (args : List AV) : (lim aprog).pcall 49 args = pbodyA (lim aprog) a49 args := lim_pcall_eq rfl args
theorem a49i (caps args : List AV) (H : Heap) : (lim aprog).icall (.func 49 caps) args H = bodyA (lim aprog) a49 (args ++ caps) H := lim_fcall_eq rfl caps args H
theorem a54p (args : List AV) : (lim aprog).pcall 54 args = pbodyA (lim aprog) a54 args := lim_pcall_eq rfl args
theorem a54i (caps args : List AV) (H : Heap) : (lim aprog).icall (.func 54 caps) args H = bodyA (lim aprog) a54 (args ++ caps) H := lim_fcall_eq rfl caps args H
theorem a55p (args : List AV) : (lim aprog).pcall 55 args = pbodyA (lim aprog) a55 args := lim_pcall_eq rfl args
theorem a55i (caps args : List AV) (H : Heap) : (lim aprog).icall (.func 55 caps) args H = bodyA (lim aprog) a55 (args ++ caps) H := lim_fcall_eq rfl caps args H
theorem a57p (args : List AV) : (lim aprog).pcall 57 args = pbodyA (lim aprog) a57 args := lim_pcall_eq rfl args
theorem a57i (caps args : List AV) (H : Heap) : (lim aprog).icall (.func 57 caps) args H = bodyA (lim aprog) a57 (args ++ caps) H := lim_fcall_eq rfl caps args H
theorem a58p (args : List AV) : (lim aprog).pcall 58 args = pbodyA (lim aprog) a58 args := lim_pcall_eq rfl args
theorem a58i (caps args : List AV) (H : Heap) : (lim aprog).icall (.func 58 caps) args H = bodyA (lim aprog) a58 (args ++ caps) H := lim_fcall_eq rfl caps args H
theorem a60p (args : List AV) : (lim aprog).pcall 60 args = pbodyA (lim aprog) a60 args := lim_pcall_eq rfl args
theorem a60i (caps args : List AV) (H : Heap) : (lim aprog).icall (.func 60 caps) args H = bodyA (lim aprog) a60 (args ++ caps) H := lim_fcall_eq rfl caps args H
theorem a61p (args : List AV) : (lim aprog).pcall 61 args = pbodyA (lim aprog) a61 args := lim_pcall_eq rfl args
theorem a61i (caps args : List AV) (H : Heap) : (lim aprog).icall (.func 61 caps) args H = bodyA (lim aprog) a61 (args ++ caps) H := lim_fcall_eq rfl caps args H
theorem a62p (args : List AV) : (lim aprog).pcall 62 args = pbodyA (lim aprog) a62 args := lim_pcall_eq rfl args
theorem a62i (caps args : List AV) (H : Heap) : (lim aprog).icall (.func 62 caps) args H = bodyA (lim aprog) a62 (args ++ caps) H := lim_fcall_eq rfl caps args H
theorem a63p (args : List AV) : (lim aprog).pcall 63 args = pbodyA (lim aprog) a63 args := lim_pcall_eq rfl args
theorem a63i (caps args : List AV) (H : Heap) : (lim aprog).icall (.func 63 caps) args H = bodyA (lim aprog) a63 (args ++ caps) H := lim_fcall_eq rfl caps args H
theorem a64p (args : List AV) : (lim aprog).pcall 64 args = pbodyA (lim aprog) a64 args := lim_pcall_eq rfl args
theorem a64i (caps args : List AV) (H : Heap) : (lim aprog).icall (.func 64 caps) args H = bodyA (lim aprog) a64 (args ++ caps) H := lim_fcall_eq rfl caps args H
theorem a65p (args : List AV) : (lim aprog).pcall 65 args = pbodyA (lim aprog) a65 args := lim_pcall_eq rfl args
theorem a65i (caps args : List AV) (H : Heap) : (lim aprog).icall (.func 65 caps) args H = bodyA (lim aprog) a65 (args ++ caps) H := lim_fcall_eq rfl caps args H
theorem a66p (args : List AV) : (lim aprog).pcall 66 args = pbodyA (lim aprog) a66 args := lim_pcall_eq rfl args
theorem a66i (caps args : List AV) (H : Heap) : (lim aprog).icall (.func 66 caps) args H = bodyA (lim aprog) a66 (args ++ caps) H := lim_fcall_eq rfl caps args H
theorem a67p (args : List AV) : (lim aprog).pcall 67 args = pbodyA (lim aprog) a67 args := lim_pcall_eq rfl args
theorem a67i (caps args : List AV) (H : Heap) : (lim aprog).icall (.func 67 caps) args H = bodyA (lim aprog) a67 (args ++ caps) H := lim_fcall_eq rfl caps args H
theorem a68p (args : List AV) : (lim aprog).pcall 68 args = pbodyA (lim aprog) a68 args := lim_pcall_eq rfl args
theorem a68i (caps args : List AV) (H : Heap) : (lim aprog).icall (.func 68 caps) args H = bodyA (lim aprog) a68 (args ++ caps) H := lim_fcall_eq rfl caps args H
theorem a69p (args : List AV) : (lim aprog).pcall 69 args = pbodyA (lim aprog) a69 args := lim_pcall_eq rfl args
theorem a69i (caps args : List AV) (H : Heap) : (lim aprog).icall (.func 69 caps) args H = bodyA (lim aprog) a69 (args ++ caps) H := lim_fcall_eq rfl caps args H
theorem a70p (args : List AV) : (lim aprog).pcall 70 args = pbodyA (lim aprog) a70 args := lim_pcall_eq rfl args
theorem a70i (caps args : List AV) (H : Heap) : (lim aprog).icall (.func 70 caps) args H = bodyA (lim aprog) a70 (args ++ caps) H := lim_fcall_eq rfl caps args H
theorem a72p (args : List AV) : (lim aprog).pcall 72 args = pbodyA (lim aprog) a72 args := lim_pcall_eq rfl args
theorem a72i (caps args : List AV) (H : Heap) : (lim aprog).icall (.func 72 caps) args H = bodyA (lim aprog) a72 (args ++ caps) H := lim_fcall_eq rfl caps args H
theorem a73p (args : List AV) : (lim aprog).pcall 73 args = pbodyA (lim aprog) a73 args := lim_pcall_eq rfl args
theorem a73i (caps args : List AV) (H : Heap) : (lim aprog).icall (.func 73 caps) args H = bodyA (lim aprog) a73 (args ++ caps) H := lim_fcall_eq rfl caps args H
theorem a75p (args : List AV) : (lim aprog).pcall 75 args = pbodyA (lim aprog) a75 args := lim_pcall_eq rfl args
theorem a75i (caps args : List AV) (H : Heap) : (lim aprog).icall (.func 75 caps) args H = bodyA (lim aprog) a75 (args ++ caps) H := lim_fcall_eq rfl caps args H
theorem a78p (args : List AV) : (lim aprog).pcall 78 args = pbodyA (lim aprog) a78 args := lim_pcall_eq rfl args
theorem a78i (caps args : List AV) (H : Heap) : (lim aprog).icall (.func 78 caps) args H = bodyA (lim aprog) a78 (args ++ caps) H := lim_fcall_eq rfl caps args H
theorem a79p (args : List AV) : (lim aprog).pcall 79 args = pbodyA (lim aprog) a79 args := lim_pcall_eq rfl args
theorem a79i (caps args : List AV) (H : Heap) : (lim aprog).icall (.func 79 caps) args H = bodyA (lim aprog) a79 (args ++ caps) H := lim_fcall_eq rfl caps args H
theorem a81p (args : List AV) : (lim aprog).pcall 81 args = pbodyA (lim aprog) a81 args := lim_pcall_eq rfl args
theorem a81i (caps args : List AV) (H : Heap) : (lim aprog).icall (.func 81 caps) args H = bodyA (lim aprog) a81 (args ++ caps) H := lim_fcall_eq rfl caps args H
theorem a82p (args : List AV) : (lim aprog).pcall 82 args = pbodyA (lim aprog) a82 args := lim_pcall_eq rfl args
theorem a82i (caps args : List AV) (H : Heap) : (lim aprog).icall (.func 82 caps) args H = bodyA (lim aprog) a82 (args ++ caps) H := lim_fcall_eq rfl caps args H
theorem a83p (args : List AV) : (lim aprog).pcall 83 args = pbodyA (lim aprog) a83 args := lim_pcall_eq rfl args
theorem a83i (caps args : List AV) (H : Heap) : (lim aprog).icall (.func 83 caps) args H = bodyA (lim aprog) a83 (args ++ caps) H := lim_fcall_eq rfl caps args H
theorem a86p (args : List AV) : (lim aprog).pcall 86 args = pbodyA (lim aprog) a86 args := lim_pcall_eq rfl args
theorem a86i (caps args : List AV) (H : Heap) : (lim aprog).icall (.func 86 caps) args H = bodyA (lim aprog) a86 (args ++ caps) H := lim_fcall_eq rfl caps args H
theorem a87p (args : List AV) : (lim aprog).pcall 87 args = pbodyA (lim aprog) a87 args := lim_pcall_eq rfl args
theorem a87i (caps args : List AV) (H : Heap) : (lim aprog).icall (.func 87 caps) args H = bodyA (lim aprog) a87 (args ++ caps) H := lim_fcall_eq rfl caps args H
theorem a88p (args : List AV) : (lim aprog).pcall 88 args = pbodyA (lim aprog) a88 args := lim_pcall_eq rfl args
theorem a88i (caps args : List AV) (H : Heap) : (lim aprog).icall (.func 88 caps) args H = bodyA (lim aprog) a88 (args ++ caps) H := lim_fcall_eq rfl caps args H
theorem a89p (args : List AV) : (lim aprog).pcall 89 args = pbodyA (lim aprog) a89 args := lim_pcall_eq rfl args
theorem a89i (caps args : List AV) (H : Heap) : (lim aprog).icall (.func 89 caps) args H = bodyA (lim aprog) a89 (args ++ caps) H := lim_fcall_eq rfl caps args H
theorem a90p (args : List AV) : (lim aprog).pcall 90 args = pbodyA (lim aprog) a90 args := lim_pcall_eq rfl args
theorem a90i (caps args : List AV) (H : Heap) : (lim aprog).icall (.func 90 caps) args H = bodyA (lim aprog) a90 (args ++ caps) H := lim_fcall_eq rfl caps args H
theorem a91p (args : List AV) : (lim aprog).pcall 91 args = pbodyA (lim aprog) a91 args := lim_pcall_eq rfl args
theorem a91i (caps args : List AV) (H : Heap) : (lim aprog).icall (.func 91 caps) args H = bodyA (lim aprog) a91 (args ++ caps) H := lim_fcall_eq rfl caps args H
theorem a92p (args : List AV) : (lim aprog).pcall 92 args = pbodyA (lim aprog) a92 args := lim_pcall_eq rfl args
theorem a92i (caps args : List AV) (H : Heap) : (lim aprog).icall (.func 92 caps) args H = bodyA (lim aprog) a92 (args ++ caps) H := lim_fcall_eq rfl caps args H
theorem a93p (args : List AV) : (lim aprog).pcall 93 args = pbodyA (lim aprog) a93 args := lim_pcall_eq rfl args
theorem a93i (caps args : List AV) (H : Heap) : (lim aprog).icall (.func 93 caps) args H = bodyA (lim aprog) a93 (args ++ caps) H := lim_fcall_eq rfl caps args H
theorem a95p (args : List AV) : (lim aprog).pcall 95 args = pbodyA (lim aprog) a95 args := lim_pcall_eq rfl args
theorem a95i (caps args : List AV) (H : Heap) : (lim aprog).icall (.func 95 caps) args H = bodyA (lim aprog) a95 (args ++ caps) H := lim_fcall_eq rfl caps args H
theorem a96p (args : List AV) : (lim aprog).pcall 96 args = pbodyA (lim aprog) a96 args := lim_pcall_eq rfl args
theorem a96i (caps args : List AV) (H : Heap) : (lim aprog).icall (.func 96 caps) args H = bodyA (lim aprog) a96 (args ++ caps) H := lim_fcall_eq rfl caps args H
theorem a102p (args : List AV) : (lim aprog).pcall 102 args = pbodyA (lim aprog) a102 args := lim_pcall_eq rfl args
theorem a102i (caps args : List AV) (H : Heap) : (lim aprog).icall (.func 102 caps) args H = bodyA (lim aprog) a102 (args ++ caps) H := lim_fcall_eq rfl caps args H
theorem a103p (args : List AV) : (lim aprog).pcall 103 args = pbodyA (lim aprog) a103 args := lim_pcall_eq rfl args
theorem a103i (caps args : List AV) (H : Heap) : (lim aprog).icall (.func 103 caps) args H = bodyA (lim aprog) a103 (args ++ caps) H := lim_fcall_eq rfl caps args H
theorem a104p (args : List AV) : (lim aprog).pcall 104 args = pbodyA (lim aprog) a104 args := lim_pcall_eq rfl args
theorem a104i (caps args : List AV) (H : Heap) : (lim aprog).icall (.func 104 caps) args H = bodyA (lim aprog) a104 (args ++ caps) H := lim_fcall_eq rfl caps args H
theorem a105p (args : List AV) : (lim aprog).pcall 105 args = pbodyA (lim aprog) a105 args := lim_pcall_eq rfl args
theorem a105i (caps args : List AV) (H : Heap) : (lim aprog).icall (.func 105 caps) args H = bodyA (lim aprog) a105 (args ++ caps) H := lim_fcall_eq rfl caps args H
theorem a106p (args : List AV) : (lim aprog).pcall 106 args = pbodyA (lim aprog) a106 args := lim_pcall_eq rfl args
theorem a106i (caps args : List AV) (H : Heap) : (lim aprog).icall (.func 106 caps) args H = bodyA (lim aprog) a106 (args ++ caps) H := lim_fcall_eq rfl caps args H
theorem a111p (args : List AV) : (lim aprog).pcall 111 args = pbodyA (lim aprog) a111 args := lim_pcall_eq rfl args
theorem a111i (caps args : List AV) (H : Heap) : (lim aprog).icall (.func 111 caps) args H = bodyA (lim aprog) a111 (args ++ caps) H := lim_fcall_eq rfl caps args H
theorem a112p (args : List AV) : (lim aprog).pcall 112 args = pbodyA (lim aprog) a112 args := lim_pcall_eq rfl args
theorem a112i (caps args : List AV) (H : Heap) : (lim aprog).icall (.func 112 caps) args H = bodyA (lim aprog) a112 (args ++ caps) H := lim_fcall_eq rfl caps args H
theorem a113p (args : List AV) : (lim aprog).pcall 113 args = pbodyA (lim aprog) a113 args := lim_pcall_eq rfl args
theorem a113i (caps args : List AV) (H : Heap) : (lim aprog).icall (.func 113 caps) args H = bodyA (lim aprog) a113 (args ++ caps) H := lim_fcall_eq rfl caps args H
theorem a114p (args : List AV) : (lim aprog).pcall 114 args = pbodyA (lim aprog) a114 args := lim_pcall_eq rfl args
theorem a114i (caps args : List AV) (H : Heap) : (lim aprog).icall (.func 114 caps) args H = bodyA (lim aprog) a114 (args ++ caps) H := lim_fcall_eq rfl caps args H
theorem a115p (args : List AV) : (lim aprog).pcall 115 args = pbodyA (lim aprog) a115 args := lim_pcall_eq rfl args
theorem a115i (caps args : List AV) (H : Heap) : (lim aprog).icall (.func 115 caps) args H = bodyA (lim aprog) a115 (args ++ caps) H := lim_fcall_eq rfl caps args H
theorem a116p (args : List AV) : (lim aprog).pcall 116 args = pbodyA (lim aprog) a116 args := lim_pcall_eq rfl args
theorem a116i (caps args : List AV) (H : Heap) : (lim aprog).icall (.func 116 caps) args H = bodyA (lim aprog) a116 (args ++ caps) H := lim_fcall_eq rfl caps args H
theorem a117p (args : List AV) : (lim aprog).pcall 117 args = pbodyA (lim aprog) a117 args := lim_pcall_eq rfl args
theorem a117i (caps args : List AV) (H : Heap) : (lim aprog).icall (.func 117 caps) args H = bodyA (lim aprog) a117 (args ++ caps) H := lim_fcall_eq rfl caps args H
theorem a118p (args : List AV) : (lim aprog).pcall 118 args = pbodyA (lim aprog) a118 args := lim_pcall_eq rfl args
theorem a118i (caps args : List AV) (H : Heap) : (lim aprog).icall (.func 118 caps) args H = bodyA (lim aprog) a118 (args ++ caps) H := lim_fcall_eq rfl caps args H
theorem a119p (args : List AV) : (lim aprog).pcall 119 args = pbodyA (lim aprog) a119 args := lim_pcall_eq rfl args
theorem a119i (caps args : List AV) (H : Heap) : (lim aprog).icall (.func 119 caps) args H = bodyA (lim aprog) a119 (args ++ caps) H := lim_fcall_eq rfl caps args H
theorem a120p (args : List AV) : (lim aprog).pcall 120 args = pbodyA (lim aprog) a120 args := lim_pcall_eq rfl args
theorem a120i (caps args : List AV) (H : Heap) : (lim aprog).icall (.func 120 caps) args H = bodyA (lim aprog) a120 (args ++ caps) H := lim_fcall_eq rfl caps args H
theorem a121p (args : List AV) : (lim aprog).pcall 121 args = pbodyA (lim aprog) a121 args := lim_pcall_eq rfl args
theorem a121i (caps args : List AV) (H : Heap) : (lim aprog).icall (.func 121 caps) args H = bodyA (lim aprog) a121 (args ++ caps) H := lim_fcall_eq rfl caps args H
theorem a122p (args : List AV) : (lim aprog).pcall 122 args = pbodyA (lim aprog) a122 args := lim_pcall_eq rfl args
theorem a122i (caps args : List AV) (H : Heap) : (lim aprog).icall (.func 122 caps) args H = bodyA (lim aprog) a122 (args ++ caps) H := lim_fcall_eq rfl caps args H
theorem a123p (args : List AV) : (lim aprog).pcall 123 args = pbodyA (lim aprog) a123 args := lim_pcall_eq rfl args
theorem a123i (caps args : List AV) (H : Heap) : (lim aprog).icall (.func 123 caps) args H = bodyA (lim aprog) a123 (args ++ caps) H := lim_fcall_eq rfl caps args H
theorem a124p (args : List AV) : (lim aprog).pcall 124 args = pbodyA (lim aprog) a124 args := lim_pcall_eq rfl args
theorem a124i (caps args : List AV) (H : Heap) : (lim aprog).icall (.func 124 caps) args H = bodyA (lim aprog) a124 (args ++ caps) H := lim_fcall_eq rfl caps args H
theorem a125p (args : List AV) : (lim aprog).pcall 125 args = pbodyA (lim aprog) a125 args := lim_pcall_eq rfl args
theorem a125i (caps args : List AV) (H : Heap) : (lim aprog).icall (.func 125 caps) args H = bodyA (lim aprog) a125 (args ++ caps) H := lim_fcall_eq rfl caps args H
theorem a127p (args : List AV) : (lim aprog).pcall 127 args = pbodyA (lim aprog) a127 args := lim_pcall_eq rfl args
theorem a127i (caps args : List AV) (H : Heap) : (lim aprog).icall (.func 127 caps) args H = bodyA (lim aprog) a127 (args ++ caps) H := lim_fcall_eq rfl caps args H
end Go.Abs.Tree
