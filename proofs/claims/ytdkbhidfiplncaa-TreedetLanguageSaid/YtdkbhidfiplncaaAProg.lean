/- The functions in the interpreter's words. -/
import Derived.Test.YtdkbhidfiplncaaAbsEnc
import Derived.Test.YtdkbhidfiplncaaProg
namespace Go.Abs.Det
open Go Go.Abs
def a11 : AFunc := ⟨148,
  .seq (.region [⟨some 2, .box (.t 0), none⟩,
     ⟨some 4, .mov (.c (.bool false)), none⟩])
  (.seq (.seq (.region [⟨some 19, .call 35 [], none⟩,
       ⟨some 20, .un .not (.t 19), none⟩])
    (.cond (.t 20)
     (.seq (.region [⟨some 4, .mov (.c (.bool false)), none⟩])
      (.ret))
     (.skip)))
   (.seq (.draw 9 [⟨some 21, .load true 5 (.t 2), none⟩,
       ⟨some 22, .call 36 [(.t 21)], none⟩,
       ⟨some 23, .mov (.t 1), none⟩,
       ⟨some 24, .mov (.t 1), none⟩,
       ⟨some 25, .len (.t 24), none⟩,
       ⟨some 26, .mini (.t 25) (.c (.int Go.IntKind.i64 15)), none⟩,
       ⟨some 27, .slice 3 (.t 23) none (some (.t 26)) none, none⟩,
       ⟨some 28, .call 13 [(.t 27)], none⟩,
       ⟨some 5, .box (.c (.agg [.int Go.IntKind.i64 0, .int Go.IntKind.i64 0, .sl true 0 [], .sl true 0 [], .sl true 0 []])), none⟩,
       ⟨none, .store 5 (.t 5) (.t 22), none⟩,
       ⟨some 6, .mov (.t 28), none⟩])
    (.seq (.region [⟨some 30, .load true 5 (.t 5), none⟩,
        ⟨some 31, .call 37 [(.t 30), (.c (.int Go.IntKind.i64 64))], none⟩,
        ⟨some 29, .mov (.t 31), none⟩,
        ⟨some 32, .ext 0 (.t 29), none⟩,
        ⟨some 33, .ext 1 (.t 29), none⟩,
        ⟨some 34, .ext 2 (.t 29), none⟩,
        ⟨some 7, .box (.c (.agg [.int Go.IntKind.i64 0, .int Go.IntKind.i64 0, .sl true 0 [], .sl true 0 []])), none⟩,
        ⟨none, .store 4 (.t 7) (.t 32), none⟩,
        ⟨some 8, .mov (.t 33), none⟩,
        ⟨some 9, .mov (.t 34), none⟩])
     (.seq (.seq (.region [⟨some 35, .mov (.t 9), none⟩,
          ⟨some 36, .bin .neq (.t 35) (.c (.int Go.IntKind.i64 0)), none⟩])
       (.cond (.t 36)
        (.seq (.region [⟨some 37, .faddr 2 (.t 7), none⟩,
            ⟨some 38, .load false 1 (.t 37), none⟩,
            ⟨some 39, .len (.t 38), none⟩,
            ⟨some 40, .bin .eql (.t 39) (.c (.int Go.IntKind.i64 0)), none⟩,
            ⟨some 41, .mov (.t 40), none⟩,
            ⟨some 42, .mov (.t 8), some (41, true)⟩,
            ⟨some 43, .len (.t 42), some (41, true)⟩,
            ⟨some 44, .bin .eql (.t 43) (.c (.int Go.IntKind.i64 0)), some (41, true)⟩,
            ⟨some 45, .pick (.t 41) (.t 44) (.c (.bool false)), none⟩,
            ⟨some 46, .mov (.t 45), none⟩,
            ⟨some 47, .mov (.t 9), some (46, true)⟩,
            ⟨some 48, .bin .eql (.t 47) (.c (.int Go.IntKind.i64 10)), some (46, true)⟩,
            ⟨some 49, .mov (.t 48), some (46, true)⟩,
            ⟨some 50, .mov (.t 9), some (49, false)⟩,
            ⟨some 51, .load true 5 (.t 5), some (49, false)⟩,
            ⟨some 52, .call 45 [(.t 51)], some (49, false)⟩,
            ⟨some 53, .bin .eql (.t 50) (.t 52), some (49, false)⟩,
            ⟨some 54, .pick (.t 49) (.c (.bool true)) (.t 53), some (46, true)⟩,
            ⟨some 55, .pick (.t 46) (.t 54) (.c (.bool false)), none⟩,
            ⟨some 4, .mov (.t 55), none⟩])
         (.ret))
        (.skip)))
      (.seq (.seq (.region [⟨some 56, .load true 4 (.t 7), none⟩,
           ⟨some 57, .call 14 [(.t 56)], none⟩,
           ⟨some 58, .bin .neq (.t 57) (.c (.int Go.IntKind.i64 0)), none⟩,
           ⟨some 59, .mov (.t 58), none⟩,
           ⟨some 60, .mov (.t 8), some (59, false)⟩,
           ⟨some 61, .len (.t 60), some (59, false)⟩,
           ⟨some 62, .faddr 2 (.t 7), some (59, false)⟩,
           ⟨some 63, .load false 1 (.t 62), some (59, false)⟩,
           ⟨some 64, .len (.t 63), some (59, false)⟩,
           ⟨some 65, .bin .neq (.t 61) (.t 64), some (59, false)⟩,
           ⟨some 66, .pick (.t 59) (.c (.bool true)) (.t 65), none⟩])
        (.cond (.t 66)
         (.seq (.region [⟨some 4, .mov (.c (.bool false)), none⟩])
          (.ret))
         (.skip)))
       (.seq (.region [⟨some 68, .load true 4 (.t 7), none⟩,
           ⟨some 69, .mov (.t 6), none⟩,
           ⟨some 70, .call 16 [(.t 68), (.t 69)], none⟩,
           ⟨some 67, .mov (.t 70), none⟩,
           ⟨some 71, .ext 0 (.t 67), none⟩,
           ⟨some 72, .ext 1 (.t 67), none⟩,
           ⟨some 10, .mov (.t 71), none⟩,
           ⟨some 11, .mov (.t 72), none⟩])
        (.seq (.region [⟨some 74, .load true 5 (.t 5), none⟩,
            ⟨some 75, .mov (.t 6), none⟩,
            ⟨some 76, .call 48 [(.t 74), (.t 75)], none⟩,
            ⟨some 73, .mov (.t 76), none⟩,
            ⟨some 77, .ext 0 (.t 73), none⟩,
            ⟨some 78, .ext 1 (.t 73), none⟩,
            ⟨some 12, .mov (.t 77), none⟩,
            ⟨some 13, .mov (.t 78), none⟩])
         (.seq (.region [⟨some 80, .load true 4 (.t 7), none⟩,
             ⟨some 81, .mov (.t 6), none⟩,
             ⟨some 82, .call 18 [(.t 80), (.t 81)], none⟩,
             ⟨some 79, .mov (.t 82), none⟩,
             ⟨some 83, .ext 0 (.t 79), none⟩,
             ⟨some 84, .ext 1 (.t 79), none⟩,
             ⟨some 14, .mov (.t 83), none⟩,
             ⟨some 15, .mov (.t 84), none⟩])
          (.seq (.region [⟨some 86, .load true 5 (.t 5), none⟩,
              ⟨some 87, .mov (.t 6), none⟩,
              ⟨some 88, .call 44 [(.t 86), (.t 87)], none⟩,
              ⟨some 85, .mov (.t 88), none⟩,
              ⟨some 89, .ext 0 (.t 85), none⟩,
              ⟨some 90, .ext 1 (.t 85), none⟩,
              ⟨some 16, .mov (.t 89), none⟩,
              ⟨some 17, .mov (.t 90), none⟩])
           (.seq (.seq (.region [⟨some 91, .mov (.t 11), none⟩,
                ⟨some 92, .bin .neq (.t 91) (.c (.int Go.IntKind.i64 0)), none⟩])
             (.cond (.t 92)
              (.seq (.region [⟨some 93, .mov (.t 11), none⟩,
                  ⟨some 94, .mov (.t 13), none⟩,
                  ⟨some 95, .bin .eql (.t 93) (.t 94), none⟩,
                  ⟨some 96, .mov (.t 95), none⟩,
                  ⟨some 97, .mov (.t 11), some (96, true)⟩,
                  ⟨some 98, .mov (.t 15), some (96, true)⟩,
                  ⟨some 99, .bin .eql (.t 97) (.t 98), some (96, true)⟩,
                  ⟨some 100, .pick (.t 96) (.t 99) (.c (.bool false)), none⟩,
                  ⟨some 101, .mov (.t 100), none⟩,
                  ⟨some 102, .mov (.t 11), some (101, true)⟩,
                  ⟨some 103, .mov (.t 17), some (101, true)⟩,
                  ⟨some 104, .bin .eql (.t 102) (.t 103), some (101, true)⟩,
                  ⟨some 105, .pick (.t 101) (.t 104) (.c (.bool false)), none⟩,
                  ⟨some 4, .mov (.t 105), none⟩])
               (.ret))
              (.skip)))
            (.seq (.region [⟨some 106, .faddr 1 (.t 7), none⟩,
                ⟨some 107, .load false 1 (.t 106), none⟩,
                ⟨some 18, .mov (.t 107), none⟩])
             (.seq (.seq (.region [⟨some 108, .mov (.t 6), none⟩,
                  ⟨some 109, .len (.t 108), none⟩,
                  ⟨some 110, .bin .gtr (.t 109) (.c (.int Go.IntKind.i64 0)), none⟩])
               (.cond (.t 110)
                (.region [⟨some 111, .mov (.t 10), none⟩,
                   ⟨some 112, .iaddr 1 (.t 111) (.c (.int Go.IntKind.i64 0)), none⟩,
                   ⟨some 113, .load false 1 (.t 112), none⟩,
                   ⟨some 18, .mov (.t 113), none⟩])
                (.skip)))
              (.seq (.region [⟨some 114, .mov (.t 13), none⟩,
                  ⟨some 115, .bin .eql (.t 114) (.c (.int Go.IntKind.i64 0)), none⟩,
                  ⟨some 116, .mov (.t 115), none⟩,
                  ⟨some 117, .mov (.t 15), some (116, true)⟩,
                  ⟨some 118, .bin .eql (.t 117) (.c (.int Go.IntKind.i64 0)), some (116, true)⟩,
                  ⟨some 119, .pick (.t 116) (.t 118) (.c (.bool false)), none⟩,
                  ⟨some 120, .mov (.t 119), none⟩,
                  ⟨some 121, .mov (.t 17), some (120, true)⟩,
                  ⟨some 122, .bin .eql (.t 121) (.c (.int Go.IntKind.i64 0)), some (120, true)⟩,
                  ⟨some 123, .pick (.t 120) (.t 122) (.c (.bool false)), none⟩,
                  ⟨some 124, .mov (.t 123), none⟩,
                  ⟨some 125, .mov (.t 14), some (124, true)⟩,
                  ⟨some 126, .mov (.t 16), some (124, true)⟩,
                  ⟨some 127, .beq false (.t 125) (.t 126), some (124, true)⟩,
                  ⟨some 128, .pick (.t 124) (.t 127) (.c (.bool false)), none⟩,
                  ⟨some 129, .mov (.t 128), none⟩,
                  ⟨some 130, .mov (.t 18), some (129, true)⟩,
                  ⟨some 131, .bin .geq (.t 130) (.c (.int Go.IntKind.i64 0)), some (129, true)⟩,
                  ⟨some 132, .pick (.t 129) (.t 131) (.c (.bool false)), none⟩,
                  ⟨some 133, .mov (.t 132), none⟩,
                  ⟨some 134, .mov (.t 18), some (133, true)⟩,
                  ⟨some 135, .mov (.t 8), some (133, true)⟩,
                  ⟨some 136, .len (.t 135), some (133, true)⟩,
                  ⟨some 137, .bin .lss (.t 134) (.t 136), some (133, true)⟩,
                  ⟨some 138, .pick (.t 133) (.t 137) (.c (.bool false)), none⟩,
                  ⟨some 139, .mov (.t 138), none⟩,
                  ⟨some 140, .mov (.t 12), some (139, true)⟩,
                  ⟨some 141, .mov (.t 8), some (139, true)⟩,
                  ⟨some 142, .mov (.t 18), some (139, true)⟩,
                  ⟨some 143, .iaddr 1 (.t 141) (.t 142), some (139, true)⟩,
                  ⟨some 144, .load false 1 (.t 143), some (139, true)⟩,
                  ⟨some 145, .call 50 [(.t 144)], some (139, true)⟩,
                  ⟨some 146, .call 49 [(.t 140), (.t 145)], some (139, true)⟩,
                  ⟨some 147, .pick (.t 139) (.t 146) (.c (.bool false)), none⟩,
                  ⟨some 4, .mov (.t 147), none⟩])
               (.ret)))))))))))))),
  [.tmp 4]⟩

def a13 : AFunc := ⟨5,
  .seq (.region [⟨some 2, .mov (.c (.sl true 0 [])), none⟩])
  (.seq (.region [⟨some 3, .mov (.t 0), none⟩,
      ⟨some 4, .append false 3 24 (.c (.sl true 0 [])) (.t 3), none⟩,
      ⟨some 2, .mov (.t 4), none⟩])
   (.ret)),
  [.tmp 2]⟩

def xNu : ACode :=
  .seq (.region [⟨some 68, .bin .lss (.t 67) (.t 66), none⟩])
  (.seq (.cond (.t 68)
    (.skip)
    (.exit 5))
   (.seq (.block 6 (.seq (.region [⟨some 69, .iaddr 1 (.t 65) (.t 67), none⟩,
         ⟨some 70, .load false 1 (.t 69), none⟩,
         ⟨some 10, .mov (.t 70), none⟩])
      (.seq (.region [⟨some 71, .mov (.t 4), none⟩,
          ⟨some 72, .mov (.t 10), none⟩,
          ⟨some 73, .icall (.t 71) [(.t 72)], none⟩,
          ⟨some 74, .un .not (.t 73), none⟩])
       (.cond (.t 74)
        (.seq (.region [⟨some 2, .mov (.c (.int Go.IntKind.i64 8)), none⟩])
         (.ret))
        (.skip)))))
    (.region [⟨some 75, .bin .add (.t 67) (.c (.int Go.IntKind.i64 1)), none⟩,
       ⟨some 67, .mov (.t 75), none⟩])))

def xSp : ACode := xNu
def xKW : List Nat := [0, 5, 6, 7, 8, 9, 10, 11, 12, 13, 14, 15, 16, 17, 18, 19, 20, 21, 22, 23, 24, 25, 26, 27, 28, 29, 30, 31, 32, 33, 34, 35, 36, 37, 38, 39, 40, 41, 42, 46, 47, 48, 49, 50, 51, 52, 56, 57, 58, 59, 60, 61, 62, 63, 64, 68, 69, 70, 71, 72, 73, 74, 75, 76, 77]
abbrev xKX (s1 s2 s3 s4 s43 s44 s45 s53 s54 s55 s65 s66 s67 : AV) : List AV := [.any, s1, s2, s3, s4, .any, .any, .any, .any, .any, .any, .any, .any, .any, .any, .any, .any, .any, .any, .any, .any, .any, .any, .any, .any, .any, .any, .any, .any, .any, .any, .any, .any, .any, .any, .any, .any, .any, .any, .any, .any, .any, .any, s43, s44, s45, .any, .any, .any, .any, .any, .any, .any, s53, s54, s55, .any, .any, .any, .any, .any, .any, .any, .any, .any, s65, s66, s67, .any, .any, .any, .any, .any, .any, .any, .any, .any, .any]
theorem xPG (s0 s1 s2 s3 s4 s5 s6 s7 s8 s9 s10 s11 s12 s13 s14 s15 s16 s17 s18 s19 s20 s21 s22 s23 s24 s25 s26 s27 s28 s29 s30 s31 s32 s33 s34 s35 s36 s37 s38 s39 s40 s41 s42 s43 s44 s45 s46 s47 s48 s49 s50 s51 s52 s53 s54 s55 s56 s57 s58 s59 s60 s61 s62 s63 s64 s65 s66 s67 s68 s69 s70 s71 s72 s73 s74 s75 s76 s77 : AV) : xBw xKW [s0, s1, s2, s3, s4, s5, s6, s7, s8, s9, s10, s11, s12, s13, s14, s15, s16, s17, s18, s19, s20, s21, s22, s23, s24, s25, s26, s27, s28, s29, s30, s31, s32, s33, s34, s35, s36, s37, s38, s39, s40, s41, s42, s43, s44, s45, s46, s47, s48, s49, s50, s51, s52, s53, s54, s55, s56, s57, s58, s59, s60, s61, s62, s63, s64, s65, s66, s67, s68, s69, s70, s71, s72, s73, s74, s75, s76, s77] = xKX s1 s2 s3 s4 s43 s44 s45 s53 s54 s55 s65 s66 s67 := by kernel_rfl
theorem xUd {prog : Nat → Option AFunc} (s1 s2 s3 s4 s43 s44 s45 s53 s54 s55 s65 s66 s67 : AV) (H : xAA) : (lim prog).loop xKW xSp ⟨xKX s1 s2 s3 s4 s43 s44 s45 s53 s54 s55 s65 s66 s67, H⟩ = xCh (lim prog) xKW xSp (run (lim prog) xNu ⟨xKX s1 s2 s3 s4 s43 s44 s45 s53 s54 s55 s65 s66 s67, H⟩) := xAS _ _ _ _ (by kernel_rfl)

def xNv : ACode :=
  .seq (.region [⟨some 56, .bin .lss (.t 55) (.t 54), none⟩])
  (.seq (.cond (.t 56)
    (.skip)
    (.exit 3))
   (.seq (.block 4 (.seq (.region [⟨some 57, .iaddr 1 (.t 53) (.t 55), none⟩,
         ⟨some 58, .load false 1 (.t 57), none⟩,
         ⟨some 8, .mov (.t 58), none⟩])
      (.seq (.seq (.region [⟨some 59, .mov (.t 8), none⟩,
           ⟨some 60, .len (.t 59), none⟩,
           ⟨some 61, .faddr 0 (.t 1), none⟩,
           ⟨some 62, .load false 1 (.t 61), none⟩,
           ⟨some 63, .bin .shl (.c (.int Go.IntKind.i64 1)) (.t 62), none⟩,
           ⟨some 64, .bin .neq (.t 60) (.t 63), none⟩])
        (.cond (.t 64)
         (.seq (.region [⟨some 2, .mov (.c (.int Go.IntKind.i64 2)), none⟩])
          (.ret))
         (.skip)))
       (.seq (.region [⟨some 65, .mov (.t 8), none⟩,
           ⟨some 66, .len (.t 65), none⟩,
           ⟨some 67, .mov (.c (.int Go.IntKind.i64 0)), none⟩])
        (.block 5 (.loop xKW xSp))))))
    (.region [⟨some 76, .bin .add (.t 55) (.c (.int Go.IntKind.i64 1)), none⟩,
       ⟨some 55, .mov (.t 76), none⟩])))

def xSq : ACode := xNv
def xKY : List Nat := [0, 5, 6, 7, 8, 9, 10, 11, 12, 13, 14, 15, 16, 17, 18, 19, 20, 21, 22, 23, 24, 25, 26, 27, 28, 29, 30, 31, 32, 33, 34, 35, 36, 37, 38, 39, 40, 41, 42, 46, 47, 48, 49, 50, 51, 52, 56, 57, 58, 59, 60, 61, 62, 63, 64, 65, 66, 67, 68, 69, 70, 71, 72, 73, 74, 75, 76, 77]
abbrev xKZ (s1 s2 s3 s4 s43 s44 s45 s53 s54 s55 : AV) : List AV := [.any, s1, s2, s3, s4, .any, .any, .any, .any, .any, .any, .any, .any, .any, .any, .any, .any, .any, .any, .any, .any, .any, .any, .any, .any, .any, .any, .any, .any, .any, .any, .any, .any, .any, .any, .any, .any, .any, .any, .any, .any, .any, .any, s43, s44, s45, .any, .any, .any, .any, .any, .any, .any, s53, s54, s55, .any, .any, .any, .any, .any, .any, .any, .any, .any, .any, .any, .any, .any, .any, .any, .any, .any, .any, .any, .any, .any, .any]
theorem xPH (s0 s1 s2 s3 s4 s5 s6 s7 s8 s9 s10 s11 s12 s13 s14 s15 s16 s17 s18 s19 s20 s21 s22 s23 s24 s25 s26 s27 s28 s29 s30 s31 s32 s33 s34 s35 s36 s37 s38 s39 s40 s41 s42 s43 s44 s45 s46 s47 s48 s49 s50 s51 s52 s53 s54 s55 s56 s57 s58 s59 s60 s61 s62 s63 s64 s65 s66 s67 s68 s69 s70 s71 s72 s73 s74 s75 s76 s77 : AV) : xBw xKY [s0, s1, s2, s3, s4, s5, s6, s7, s8, s9, s10, s11, s12, s13, s14, s15, s16, s17, s18, s19, s20, s21, s22, s23, s24, s25, s26, s27, s28, s29, s30, s31, s32, s33, s34, s35, s36, s37, s38, s39, s40, s41, s42, s43, s44, s45, s46, s47, s48, s49, s50, s51, s52, s53, s54, s55, s56, s57, s58, s59, s60, s61, s62, s63, s64, s65, s66, s67, s68, s69, s70, s71, s72, s73, s74, s75, s76, s77] = xKZ s1 s2 s3 s4 s43 s44 s45 s53 s54 s55 := by kernel_rfl
theorem xUe {prog : Nat → Option AFunc} (s1 s2 s3 s4 s43 s44 s45 s53 s54 s55 : AV) (H : xAA) : (lim prog).loop xKY xSq ⟨xKZ s1 s2 s3 s4 s43 s44 s45 s53 s54 s55, H⟩ = xCh (lim prog) xKY xSq (run (lim prog) xNv ⟨xKZ s1 s2 s3 s4 s43 s44 s45 s53 s54 s55, H⟩) := xAS _ _ _ _ (by kernel_rfl)

def xNw : ACode :=
  .seq (.region [⟨some 46, .bin .lss (.t 45) (.t 44), none⟩])
  (.seq (.cond (.t 46)
    (.skip)
    (.exit 1))
   (.seq (.block 2 (.seq (.region [⟨some 47, .iaddr 1 (.t 43) (.t 45), none⟩,
         ⟨some 48, .load false 1 (.t 47), none⟩,
         ⟨some 6, .mov (.t 48), none⟩])
      (.seq (.seq (.region [⟨some 49, .mov (.t 6), none⟩,
           ⟨some 50, .len (.t 49), none⟩,
           ⟨some 51, .load false 1 (.t 3), none⟩,
           ⟨some 52, .bin .neq (.t 50) (.t 51), none⟩])
        (.cond (.t 52)
         (.seq (.region [⟨some 2, .mov (.c (.int Go.IntKind.i64 2)), none⟩])
          (.ret))
         (.skip)))
       (.seq (.region [⟨some 53, .mov (.t 6), none⟩,
           ⟨some 54, .len (.t 53), none⟩,
           ⟨some 55, .mov (.c (.int Go.IntKind.i64 0)), none⟩])
        (.block 3 (.loop xKY xSq))))))
    (.region [⟨some 77, .bin .add (.t 45) (.c (.int Go.IntKind.i64 1)), none⟩,
       ⟨some 45, .mov (.t 77), none⟩])))

def xSr : ACode := xNw
def xK0 : List Nat := [0, 5, 6, 7, 8, 9, 10, 11, 12, 13, 14, 15, 16, 17, 18, 19, 20, 21, 22, 23, 24, 25, 26, 27, 28, 29, 30, 31, 32, 33, 34, 35, 36, 37, 38, 39, 40, 41, 42, 46, 47, 48, 49, 50, 51, 52, 53, 54, 55, 56, 57, 58, 59, 60, 61, 62, 63, 64, 65, 66, 67, 68, 69, 70, 71, 72, 73, 74, 75, 76, 77]
abbrev xK1 (s1 s2 s3 s4 s43 s44 s45 : AV) : List AV := [.any, s1, s2, s3, s4, .any, .any, .any, .any, .any, .any, .any, .any, .any, .any, .any, .any, .any, .any, .any, .any, .any, .any, .any, .any, .any, .any, .any, .any, .any, .any, .any, .any, .any, .any, .any, .any, .any, .any, .any, .any, .any, .any, s43, s44, s45, .any, .any, .any, .any, .any, .any, .any, .any, .any, .any, .any, .any, .any, .any, .any, .any, .any, .any, .any, .any, .any, .any, .any, .any, .any, .any, .any, .any, .any, .any, .any, .any]
theorem xPI (s0 s1 s2 s3 s4 s5 s6 s7 s8 s9 s10 s11 s12 s13 s14 s15 s16 s17 s18 s19 s20 s21 s22 s23 s24 s25 s26 s27 s28 s29 s30 s31 s32 s33 s34 s35 s36 s37 s38 s39 s40 s41 s42 s43 s44 s45 s46 s47 s48 s49 s50 s51 s52 s53 s54 s55 s56 s57 s58 s59 s60 s61 s62 s63 s64 s65 s66 s67 s68 s69 s70 s71 s72 s73 s74 s75 s76 s77 : AV) : xBw xK0 [s0, s1, s2, s3, s4, s5, s6, s7, s8, s9, s10, s11, s12, s13, s14, s15, s16, s17, s18, s19, s20, s21, s22, s23, s24, s25, s26, s27, s28, s29, s30, s31, s32, s33, s34, s35, s36, s37, s38, s39, s40, s41, s42, s43, s44, s45, s46, s47, s48, s49, s50, s51, s52, s53, s54, s55, s56, s57, s58, s59, s60, s61, s62, s63, s64, s65, s66, s67, s68, s69, s70, s71, s72, s73, s74, s75, s76, s77] = xK1 s1 s2 s3 s4 s43 s44 s45 := by kernel_rfl
theorem xUf {prog : Nat → Option AFunc} (s1 s2 s3 s4 s43 s44 s45 : AV) (H : xAA) : (lim prog).loop xK0 xSr ⟨xK1 s1 s2 s3 s4 s43 s44 s45, H⟩ = xCh (lim prog) xK0 xSr (run (lim prog) xNw ⟨xK1 s1 s2 s3 s4 s43 s44 s45, H⟩) := xAS _ _ _ _ (by kernel_rfl)

def a14 : AFunc := ⟨78,
  .seq (.region [⟨some 1, .box (.t 0), none⟩,
     ⟨some 2, .mov (.c (.int Go.IntKind.i64 0)), none⟩])
  (.seq (.region [⟨some 11, .faddr 2 (.t 1), none⟩,
      ⟨some 12, .load false 1 (.t 11), none⟩,
      ⟨some 13, .len (.t 12), none⟩,
      ⟨some 3, .box (.c (.int Go.IntKind.i64 0)), none⟩,
      ⟨none, .store 1 (.t 3) (.t 13), none⟩])
   (.seq (.region [⟨some 14, .mkfunc 52 [(.t 3)], none⟩,
       ⟨some 4, .mov (.t 14), none⟩])
    (.seq (.block 0 (.seq (.region [⟨some 16, .faddr 0 (.t 1), none⟩,
          ⟨some 17, .load false 1 (.t 16), none⟩,
          ⟨some 18, .bin .lss (.t 17) (.c (.int Go.IntKind.i64 0)), none⟩,
          ⟨some 19, .mov (.t 18), none⟩,
          ⟨some 20, .faddr 0 (.t 1), some (19, false)⟩,
          ⟨some 21, .load false 1 (.t 20), some (19, false)⟩,
          ⟨some 22, .bin .gtr (.t 21) (.c (.int Go.IntKind.i64 3)), some (19, false)⟩,
          ⟨some 23, .pick (.t 19) (.c (.bool true)) (.t 22), none⟩,
          ⟨some 15, .mov (.t 23), none⟩])
       (.cond (.t 15)
        (.seq (.region [⟨some 2, .mov (.c (.int Go.IntKind.i64 7)), none⟩])
         (.ret))
        (.seq (.region [⟨some 25, .load false 1 (.t 3), none⟩,
            ⟨some 26, .bin .eql (.t 25) (.c (.int Go.IntKind.i64 0)), none⟩,
            ⟨some 24, .mov (.t 26), none⟩])
         (.cond (.t 24)
          (.seq (.region [⟨some 2, .mov (.c (.int Go.IntKind.i64 3)), none⟩])
           (.ret))
          (.seq (.region [⟨some 28, .load false 1 (.t 3), none⟩,
              ⟨some 29, .bin .gtr (.t 28) (.c (.int Go.IntKind.i64 64)), none⟩,
              ⟨some 27, .mov (.t 29), none⟩])
           (.cond (.t 27)
            (.seq (.region [⟨some 2, .mov (.c (.int Go.IntKind.i64 4)), none⟩])
             (.ret))
            (.seq (.region [⟨some 31, .faddr 3 (.t 1), none⟩,
                ⟨some 32, .load false 1 (.t 31), none⟩,
                ⟨some 33, .len (.t 32), none⟩,
                ⟨some 34, .load false 1 (.t 3), none⟩,
                ⟨some 35, .bin .neq (.t 33) (.t 34), none⟩,
                ⟨some 30, .mov (.t 35), none⟩])
             (.cond (.t 30)
              (.seq (.region [⟨some 2, .mov (.c (.int Go.IntKind.i64 2)), none⟩])
               (.ret))
              (.seq (.region [⟨some 37, .mov (.t 4), none⟩,
                  ⟨some 38, .faddr 1 (.t 1), none⟩,
                  ⟨some 39, .load false 1 (.t 38), none⟩,
                  ⟨some 40, .icall (.t 37) [(.t 39)], none⟩,
                  ⟨some 41, .un .not (.t 40), none⟩,
                  ⟨some 36, .mov (.t 41), none⟩])
               (.cond (.t 36)
                (.seq (.region [⟨some 2, .mov (.c (.int Go.IntKind.i64 8)), none⟩])
                 (.ret))
                (.skip))))))))))))
     (.seq (.seq (.region [⟨some 42, .faddr 2 (.t 1), none⟩,
          ⟨some 43, .load false 1 (.t 42), none⟩,
          ⟨some 44, .len (.t 43), none⟩,
          ⟨some 45, .mov (.c (.int Go.IntKind.i64 0)), none⟩])
       (.block 1 (.loop xK0 xSr)))
      (.seq (.region [⟨some 2, .mov (.c (.int Go.IntKind.i64 0)), none⟩])
       (.ret)))))),
  [.tmp 2]⟩

def a16 : AFunc := ⟨21,
  .seq (.region [⟨some 2, .box (.t 0), none⟩,
     ⟨some 4, .mov (.c (.sl true 0 [])), none⟩,
     ⟨some 5, .mov (.c (.int Go.IntKind.i64 0)), none⟩])
  (.seq (.seq (.region [⟨some 7, .load true 4 (.t 2), none⟩,
       ⟨some 8, .mov (.t 1), none⟩,
       ⟨some 9, .call 53 [(.t 7), (.t 8)], none⟩,
       ⟨some 6, .mov (.t 9), none⟩])
    (.seq (.region [⟨some 10, .mov (.t 6), none⟩,
        ⟨some 11, .bin .neq (.t 10) (.c (.int Go.IntKind.i64 0)), none⟩])
     (.cond (.t 11)
      (.seq (.region [⟨some 12, .mov (.t 6), none⟩,
          ⟨some 4, .mov (.c (.sl true 0 [])), none⟩,
          ⟨some 5, .mov (.t 12), none⟩])
       (.ret))
      (.skip))))
   (.seq (.region [⟨some 13, .load true 4 (.t 2), none⟩,
       ⟨some 14, .mov (.t 1), none⟩,
       ⟨some 15, .call 54 [(.t 13), (.t 14)], none⟩,
       ⟨some 16, .mov (.t 1), none⟩,
       ⟨some 17, .len (.t 16), none⟩,
       ⟨some 18, .mov (.t 1), none⟩,
       ⟨some 19, .len (.t 18), none⟩,
       ⟨some 20, .slice 1 (.t 15) none (some (.t 17)) (some (.t 19)), none⟩,
       ⟨some 4, .mov (.t 20), none⟩,
       ⟨some 5, .mov (.c (.int Go.IntKind.i64 0)), none⟩])
    (.ret))),
  [.tmp 4, .tmp 5]⟩

def a18 : AFunc := ⟨22,
  .seq (.region [⟨some 2, .box (.t 0), none⟩,
     ⟨some 4, .mov (.c (.bool false)), none⟩,
     ⟨some 5, .mov (.c (.int Go.IntKind.i64 0)), none⟩])
  (.seq (.seq (.region [⟨some 7, .load true 4 (.t 2), none⟩,
       ⟨some 8, .mov (.t 1), none⟩,
       ⟨some 9, .call 53 [(.t 7), (.t 8)], none⟩,
       ⟨some 6, .mov (.t 9), none⟩])
    (.seq (.region [⟨some 10, .mov (.t 6), none⟩,
        ⟨some 11, .bin .neq (.t 10) (.c (.int Go.IntKind.i64 0)), none⟩])
     (.cond (.t 11)
      (.seq (.region [⟨some 12, .mov (.t 6), none⟩,
          ⟨some 4, .mov (.c (.bool false)), none⟩,
          ⟨some 5, .mov (.t 12), none⟩])
       (.ret))
      (.skip))))
   (.seq (.draw 5 [⟨some 13, .faddr 3 (.t 2), none⟩,
       ⟨some 14, .load false 1 (.t 13), none⟩,
       ⟨some 15, .load true 4 (.t 2), none⟩,
       ⟨some 16, .mov (.t 1), none⟩,
       ⟨some 17, .call 54 [(.t 15), (.t 16)], none⟩,
       ⟨some 18, .iaddr 1 (.t 17) (.c (.int Go.IntKind.i64 0)), none⟩,
       ⟨some 19, .load false 1 (.t 18), none⟩,
       ⟨some 20, .iaddr 1 (.t 14) (.t 19), none⟩,
       ⟨some 21, .load false 1 (.t 20), none⟩,
       ⟨some 4, .mov (.t 21), none⟩,
       ⟨some 5, .mov (.c (.int Go.IntKind.i64 0)), none⟩])
    (.ret))),
  [.tmp 4, .tmp 5]⟩

def xUg : ACode :=
  .seq (.seq (.region [⟨some 11, .mov (.t 5), none⟩,
      ⟨some 12, .mov (.t 0), none⟩,
      ⟨some 13, .len (.t 12), none⟩,
      ⟨some 14, .bin .lss (.t 11) (.t 13), none⟩])
   (.cond (.t 14)
    (.skip)
    (.exit 0)))
  (.seq (.block 1 (.seq (.draw 5 [⟨some 17, .mov (.t 0), none⟩,
        ⟨some 18, .mov (.t 5), none⟩,
        ⟨some 19, .iaddr 1 (.t 17) (.t 18), none⟩,
        ⟨some 20, .load false 1 (.t 19), none⟩,
        ⟨some 21, .mov (.t 1), none⟩,
        ⟨some 22, .mov (.t 5), none⟩,
        ⟨some 23, .iaddr 1 (.t 21) (.t 22), none⟩,
        ⟨some 24, .load false 1 (.t 23), none⟩,
        ⟨some 25, .bin .neq (.t 20) (.t 24), none⟩])
     (.cond (.t 25)
      (.seq (.region [⟨some 4, .mov (.c (.bool false)), none⟩])
       (.ret))
      (.skip))))
   (.region [⟨some 15, .mov (.t 5), none⟩,
      ⟨some 16, .bin .add (.t 15) (.c (.int Go.IntKind.i64 1)), none⟩,
      ⟨some 5, .mov (.t 16), none⟩]))

def xVi : ACode := xUg
def xNx : List Nat := [2, 3, 6, 7, 8, 9, 10, 11, 12, 13, 14, 15, 16, 17, 18, 19, 20, 21, 22, 23, 24, 25]
abbrev xPJ (s0 s1 s4 s5 : AV) : List AV := [s0, s1, .any, .any, s4, s5, .any, .any, .any, .any, .any, .any, .any, .any, .any, .any, .any, .any, .any, .any, .any, .any, .any, .any, .any, .any]
theorem yCj (s0 s1 s2 s3 s4 s5 s6 s7 s8 s9 s10 s11 s12 s13 s14 s15 s16 s17 s18 s19 s20 s21 s22 s23 s24 s25 : AV) : xBw xNx [s0, s1, s2, s3, s4, s5, s6, s7, s8, s9, s10, s11, s12, s13, s14, s15, s16, s17, s18, s19, s20, s21, s22, s23, s24, s25] = xPJ s0 s1 s4 s5 := by kernel_rfl
theorem yCk {prog : Nat → Option AFunc} (s0 s1 s4 s5 : AV) (H : xAA) : (lim prog).loop xNx xVi ⟨xPJ s0 s1 s4 s5, H⟩ = xCh (lim prog) xNx xVi (run (lim prog) xUg ⟨xPJ s0 s1 s4 s5, H⟩) := xAS _ _ _ _ (by kernel_rfl)

def a20 : AFunc := ⟨26,
  .seq (.region [⟨some 4, .mov (.c (.bool false)), none⟩])
  (.seq (.seq (.region [⟨some 6, .mov (.t 0), none⟩,
       ⟨some 7, .len (.t 6), none⟩,
       ⟨some 8, .mov (.t 1), none⟩,
       ⟨some 9, .len (.t 8), none⟩,
       ⟨some 10, .bin .neq (.t 7) (.t 9), none⟩])
    (.cond (.t 10)
     (.seq (.region [⟨some 4, .mov (.c (.bool false)), none⟩])
      (.ret))
     (.skip)))
   (.seq (.seq (.region [⟨some 5, .mov (.c (.int Go.IntKind.i64 0)), none⟩])
     (.block 0 (.loop xNx xVi)))
    (.seq (.region [⟨some 4, .mov (.c (.bool true)), none⟩])
     (.ret)))),
  [.tmp 4]⟩

def a21 : AFunc := ⟨13,
  .seq (.region [⟨some 1, .box (.t 0), none⟩,
     ⟨some 2, .box (.c (.agg [.int Go.IntKind.i64 0, .int Go.IntKind.i64 0, .sl true 0 [], .sl true 0 []])), none⟩,
     ⟨some 3, .mov (.c (.int Go.IntKind.i64 0)), none⟩])
  (.seq (.seq (.region [⟨some 5, .load true 4 (.t 1), none⟩,
       ⟨some 6, .call 14 [(.t 5)], none⟩,
       ⟨some 4, .mov (.t 6), none⟩])
    (.seq (.region [⟨some 7, .mov (.t 4), none⟩,
        ⟨some 8, .bin .neq (.t 7) (.c (.int Go.IntKind.i64 0)), none⟩])
     (.cond (.t 8)
      (.seq (.region [⟨some 9, .build [.int Go.IntKind.i64 0, .int Go.IntKind.i64 0, .sl true 0 [], .sl true 0 []] [], none⟩,
          ⟨some 10, .mov (.t 4), none⟩,
          ⟨none, .store 4 (.t 2) (.t 9), none⟩,
          ⟨some 3, .mov (.t 10), none⟩])
       (.ret))
      (.skip))))
   (.seq (.region [⟨some 11, .load true 4 (.t 1), none⟩,
       ⟨some 12, .call 56 [(.t 11)], none⟩,
       ⟨none, .store 4 (.t 2) (.t 12), none⟩,
       ⟨some 3, .mov (.c (.int Go.IntKind.i64 0)), none⟩])
    (.ret))),
  [.cell 2 true 4, .tmp 3]⟩

def xUh : ACode :=
  .seq (.seq (.region [⟨some 29, .mov (.t 9), none⟩,
      ⟨some 30, .bin .geq (.t 29) (.c (.int Go.IntKind.i64 0)), none⟩])
   (.cond (.t 30)
    (.skip)
    (.exit 0)))
  (.seq (.block 1 (.draw 5 [⟨some 33, .load false 1 (.t 8), none⟩,
       ⟨some 34, .load false 1 (.t 6), none⟩,
       ⟨some 35, .mov (.t 9), none⟩,
       ⟨some 36, .iaddr 1 (.t 34) (.t 35), none⟩,
       ⟨some 37, .load false 1 (.t 36), none⟩,
       ⟨some 38, .mov (.t 9), none⟩,
       ⟨some 39, .iaddr 1 (.t 33) (.t 37), none⟩,
       ⟨none, .store 1 (.t 39) (.t 38), none⟩]))
   (.region [⟨some 31, .mov (.t 9), none⟩,
      ⟨some 32, .bin .sub (.t 31) (.c (.int Go.IntKind.i64 1)), none⟩,
      ⟨some 9, .mov (.t 32), none⟩]))

def xVj : ACode := xUh
def xNy : List Nat := [0, 1, 3, 4, 10, 11, 12, 13, 14, 15, 16, 17, 18, 19, 20, 21, 22, 23, 24, 25, 26, 27, 28, 29, 30, 31, 32, 33, 34, 35, 36, 37, 38, 39, 40, 41, 42, 43, 44, 45, 46, 47, 48, 49, 50, 51, 52, 53]
abbrev xPK (s2 s5 s6 s7 s8 s9 : AV) : List AV := [.any, .any, s2, .any, .any, s5, s6, s7, s8, s9, .any, .any, .any, .any, .any, .any, .any, .any, .any, .any, .any, .any, .any, .any, .any, .any, .any, .any, .any, .any, .any, .any, .any, .any, .any, .any, .any, .any, .any, .any, .any, .any, .any, .any, .any, .any, .any, .any, .any, .any, .any, .any, .any, .any]
theorem yCl (s0 s1 s2 s3 s4 s5 s6 s7 s8 s9 s10 s11 s12 s13 s14 s15 s16 s17 s18 s19 s20 s21 s22 s23 s24 s25 s26 s27 s28 s29 s30 s31 s32 s33 s34 s35 s36 s37 s38 s39 s40 s41 s42 s43 s44 s45 s46 s47 s48 s49 s50 s51 s52 s53 : AV) : xBw xNy [s0, s1, s2, s3, s4, s5, s6, s7, s8, s9, s10, s11, s12, s13, s14, s15, s16, s17, s18, s19, s20, s21, s22, s23, s24, s25, s26, s27, s28, s29, s30, s31, s32, s33, s34, s35, s36, s37, s38, s39, s40, s41, s42, s43, s44, s45, s46, s47, s48, s49, s50, s51, s52, s53] = xPK s2 s5 s6 s7 s8 s9 := by kernel_rfl
theorem yCm {prog : Nat → Option AFunc} (s2 s5 s6 s7 s8 s9 : AV) (H : xAA) : (lim prog).loop xNy xVj ⟨xPK s2 s5 s6 s7 s8 s9, H⟩ = xCh (lim prog) xNy xVj (run (lim prog) xUh ⟨xPK s2 s5 s6 s7 s8 s9, H⟩) := xAS _ _ _ _ (by kernel_rfl)

def a23 : AFunc := ⟨54,
  .seq (.region [⟨some 1, .box (.t 0), none⟩,
     ⟨some 2, .box (.c (.agg [.int Go.IntKind.i64 0, .int Go.IntKind.i64 0, .sl true 0 [], .sl true 0 []])), none⟩,
     ⟨some 3, .mov (.c (.int Go.IntKind.i64 0)), none⟩])
  (.seq (.seq (.region [⟨some 11, .load true 4 (.t 1), none⟩,
       ⟨some 12, .call 14 [(.t 11)], none⟩,
       ⟨some 4, .mov (.t 12), none⟩])
    (.seq (.region [⟨some 13, .mov (.t 4), none⟩,
        ⟨some 14, .bin .neq (.t 13) (.c (.int Go.IntKind.i64 0)), none⟩])
     (.cond (.t 14)
      (.seq (.region [⟨some 15, .build [.int Go.IntKind.i64 0, .int Go.IntKind.i64 0, .sl true 0 [], .sl true 0 []] [], none⟩,
          ⟨some 16, .mov (.t 4), none⟩,
          ⟨none, .store 4 (.t 2) (.t 15), none⟩,
          ⟨some 3, .mov (.t 16), none⟩])
       (.ret))
      (.skip))))
   (.seq (.region [⟨some 17, .load true 4 (.t 1), none⟩,
       ⟨some 18, .call 56 [(.t 17)], none⟩,
       ⟨some 5, .box (.c (.agg [.int Go.IntKind.i64 0, .int Go.IntKind.i64 0, .sl true 0 [], .sl true 0 []])), none⟩,
       ⟨none, .store 4 (.t 5) (.t 18), none⟩])
    (.seq (.region [⟨some 20, .load true 4 (.t 5), none⟩,
        ⟨some 21, .call 60 [(.t 20)], none⟩,
        ⟨some 19, .mov (.t 21), none⟩,
        ⟨some 22, .ext 0 (.t 19), none⟩,
        ⟨some 23, .ext 1 (.t 19), none⟩,
        ⟨some 6, .box (.c (.sl true 0 [])), none⟩,
        ⟨none, .store 1 (.t 6) (.t 22), none⟩,
        ⟨some 7, .mov (.t 23), none⟩])
     (.seq (.region [⟨some 24, .mov (.t 7), none⟩,
         ⟨some 25, .mkslice false [.int Go.IntKind.i64 0] 8 (.t 24) (.t 24), none⟩,
         ⟨some 8, .box (.c (.sl true 0 [])), none⟩,
         ⟨none, .store 1 (.t 8) (.t 25), none⟩])
      (.seq (.seq (.region [⟨some 26, .load false 1 (.t 6), none⟩,
           ⟨some 27, .len (.t 26), none⟩,
           ⟨some 28, .bin .sub (.t 27) (.c (.int Go.IntKind.i64 1)), none⟩,
           ⟨some 9, .mov (.t 28), none⟩])
        (.block 0 (.loop xNy xVj)))
       (.seq (.region [⟨some 40, .faddr 0 (.t 5), none⟩,
           ⟨some 41, .load false 1 (.t 40), none⟩,
           ⟨some 42, .mov (.t 7), none⟩,
           ⟨some 43, .mkfunc 62 [(.t 6), (.t 5), (.t 8)], none⟩,
           ⟨some 44, .mkfunc 63 [(.t 5), (.t 8)], none⟩,
           ⟨some 45, .icall (.c (.func 61 [])) [(.t 41), (.t 42), (.t 43), (.t 44)], none⟩,
           ⟨some 10, .box (.c (.agg [.int Go.IntKind.i64 0, .int Go.IntKind.i64 0, .sl true 0 [], .sl true 0 []])), none⟩,
           ⟨none, .store 4 (.t 10) (.t 45), none⟩])
        (.seq (.region [⟨some 46, .load false 1 (.t 6), none⟩,
            ⟨some 47, .faddr 1 (.t 5), none⟩,
            ⟨some 48, .load false 1 (.t 47), none⟩,
            ⟨some 49, .iaddr 1 (.t 46) (.t 48), none⟩,
            ⟨some 50, .load false 1 (.t 49), none⟩,
            ⟨some 51, .faddr 1 (.t 10), none⟩,
            ⟨none, .store 1 (.t 51) (.t 50), none⟩])
         (.seq (.region [⟨some 52, .load true 4 (.t 10), none⟩,
             ⟨some 53, .call 56 [(.t 52)], none⟩,
             ⟨none, .store 4 (.t 2) (.t 53), none⟩,
             ⟨some 3, .mov (.c (.int Go.IntKind.i64 0)), none⟩])
          (.ret))))))))),
  [.cell 2 true 4, .tmp 3]⟩

def a25 : AFunc := ⟨18,
  .seq (.region [⟨some 1, .box (.t 0), none⟩,
     ⟨some 2, .mov (.c (.sl true 0 [])), none⟩,
     ⟨some 3, .mov (.c (.int Go.IntKind.i64 0)), none⟩])
  (.seq (.seq (.region [⟨some 7, .load true 4 (.t 1), none⟩,
       ⟨some 8, .call 14 [(.t 7)], none⟩,
       ⟨some 4, .mov (.t 8), none⟩])
    (.seq (.region [⟨some 9, .mov (.t 4), none⟩,
        ⟨some 10, .bin .neq (.t 9) (.c (.int Go.IntKind.i64 0)), none⟩])
     (.cond (.t 10)
      (.seq (.region [⟨some 11, .mov (.t 4), none⟩,
          ⟨some 2, .mov (.c (.sl true 0 [])), none⟩,
          ⟨some 3, .mov (.t 11), none⟩])
       (.ret))
      (.skip))))
   (.seq (.region [⟨some 13, .load true 4 (.t 1), none⟩,
       ⟨some 14, .call 60 [(.t 13)], none⟩,
       ⟨some 12, .mov (.t 14), none⟩,
       ⟨some 15, .ext 0 (.t 12), none⟩,
       ⟨some 16, .ext 1 (.t 12), none⟩,
       ⟨some 5, .mov (.t 15), none⟩,
       ⟨some 6, .mov (.t 16), none⟩])
    (.seq (.region [⟨some 17, .mov (.t 5), none⟩,
        ⟨some 2, .mov (.t 17), none⟩,
        ⟨some 3, .mov (.c (.int Go.IntKind.i64 0)), none⟩])
     (.ret)))),
  [.tmp 2, .tmp 3]⟩

def xUi : ACode :=
  .seq (.region [⟨some 69, .bin .lss (.t 68) (.t 67), none⟩])
  (.seq (.cond (.t 69)
    (.skip)
    (.exit 4))
   (.seq (.block 5 (.seq (.region [⟨some 70, .mov (.t 68), none⟩,
         ⟨some 71, .iaddr 1 (.t 66) (.t 68), none⟩,
         ⟨some 72, .load false 1 (.t 71), none⟩,
         ⟨some 12, .mov (.t 70), none⟩,
         ⟨some 13, .mov (.t 72), none⟩])
      (.region [⟨some 73, .faddr 4 (.t 7), none⟩,
         ⟨some 74, .load false 1 (.t 73), none⟩,
         ⟨some 75, .mov (.t 8), none⟩,
         ⟨some 76, .mov (.t 10), none⟩,
         ⟨some 77, .mov (.t 13), none⟩,
         ⟨some 78, .mov (.t 12), none⟩,
         ⟨some 79, .conv Go.IntKind.u8 (.t 78), none⟩,
         ⟨some 80, .mov (.t 6), none⟩,
         ⟨some 81, .bin .sub (.t 80) (.c (.int Go.IntKind.i64 1)), none⟩,
         ⟨some 82, .mov (.t 12), none⟩,
         ⟨some 83, .bin .sub (.t 81) (.t 82), none⟩,
         ⟨some 84, .conv Go.IntKind.u8 (.t 83), none⟩,
         ⟨some 85, .build [.int Go.IntKind.i64 0, .int Go.IntKind.i64 0, .int Go.IntKind.i64 0, .int Go.IntKind.u8 0, .int Go.IntKind.u8 0] [(0, 1, (.t 75)), (1, 1, (.t 76)), (2, 1, (.t 77)), (3, 1, (.t 79)), (4, 1, (.t 84))], none⟩,
         ⟨some 86, .bslice true [.int Go.IntKind.i64 0, .int Go.IntKind.i64 0, .int Go.IntKind.i64 0, .int Go.IntKind.u8 0, .int Go.IntKind.u8 0] 5 1 [(0, (.t 85))], none⟩,
         ⟨some 87, .append false 5 32 (.t 74) (.t 86), none⟩,
         ⟨some 88, .faddr 4 (.t 7), none⟩,
         ⟨none, .store 1 (.t 88) (.t 87), none⟩])))
    (.region [⟨some 89, .bin .add (.t 68) (.c (.int Go.IntKind.i64 1)), none⟩,
       ⟨some 68, .mov (.t 89), none⟩])))

def xVk : ACode := xUi
def xNz : List Nat := [0, 3, 4, 5, 9, 11, 12, 13, 14, 15, 16, 17, 18, 19, 20, 21, 22, 23, 24, 25, 26, 27, 28, 29, 30, 31, 32, 33, 34, 35, 36, 37, 38, 39, 40, 44, 45, 46, 47, 48, 49, 50, 51, 52, 53, 54, 55, 56, 57, 58, 62, 63, 64, 65, 69, 70, 71, 72, 73, 74, 75, 76, 77, 78, 79, 80, 81, 82, 83, 84, 85, 86, 87, 88, 89, 90, 91, 92]
abbrev xPL (s1 s2 s6 s7 s8 s10 s41 s42 s43 s59 s60 s61 s66 s67 s68 : AV) : List AV := [.any, s1, s2, .any, .any, .any, s6, s7, s8, .any, s10, .any, .any, .any, .any, .any, .any, .any, .any, .any, .any, .any, .any, .any, .any, .any, .any, .any, .any, .any, .any, .any, .any, .any, .any, .any, .any, .any, .any, .any, .any, s41, s42, s43, .any, .any, .any, .any, .any, .any, .any, .any, .any, .any, .any, .any, .any, .any, .any, s59, s60, s61, .any, .any, .any, .any, s66, s67, s68, .any, .any, .any, .any, .any, .any, .any, .any, .any, .any, .any, .any, .any, .any, .any, .any, .any, .any, .any, .any, .any, .any, .any, .any]
theorem yCn (s0 s1 s2 s3 s4 s5 s6 s7 s8 s9 s10 s11 s12 s13 s14 s15 s16 s17 s18 s19 s20 s21 s22 s23 s24 s25 s26 s27 s28 s29 s30 s31 s32 s33 s34 s35 s36 s37 s38 s39 s40 s41 s42 s43 s44 s45 s46 s47 s48 s49 s50 s51 s52 s53 s54 s55 s56 s57 s58 s59 s60 s61 s62 s63 s64 s65 s66 s67 s68 s69 s70 s71 s72 s73 s74 s75 s76 s77 s78 s79 s80 s81 s82 s83 s84 s85 s86 s87 s88 s89 s90 s91 s92 : AV) : xBw xNz [s0, s1, s2, s3, s4, s5, s6, s7, s8, s9, s10, s11, s12, s13, s14, s15, s16, s17, s18, s19, s20, s21, s22, s23, s24, s25, s26, s27, s28, s29, s30, s31, s32, s33, s34, s35, s36, s37, s38, s39, s40, s41, s42, s43, s44, s45, s46, s47, s48, s49, s50, s51, s52, s53, s54, s55, s56, s57, s58, s59, s60, s61, s62, s63, s64, s65, s66, s67, s68, s69, s70, s71, s72, s73, s74, s75, s76, s77, s78, s79, s80, s81, s82, s83, s84, s85, s86, s87, s88, s89, s90, s91, s92] = xPL s1 s2 s6 s7 s8 s10 s41 s42 s43 s59 s60 s61 s66 s67 s68 := by kernel_rfl
theorem yCo {prog : Nat → Option AFunc} (s1 s2 s6 s7 s8 s10 s41 s42 s43 s59 s60 s61 s66 s67 s68 : AV) (H : xAA) : (lim prog).loop xNz xVk ⟨xPL s1 s2 s6 s7 s8 s10 s41 s42 s43 s59 s60 s61 s66 s67 s68, H⟩ = xCh (lim prog) xNz xVk (run (lim prog) xUi ⟨xPL s1 s2 s6 s7 s8 s10 s41 s42 s43 s59 s60 s61 s66 s67 s68, H⟩) := xAS _ _ _ _ (by kernel_rfl)

def xUj : ACode :=
  .seq (.region [⟨some 62, .bin .lss (.t 61) (.t 60), none⟩])
  (.seq (.cond (.t 62)
    (.skip)
    (.exit 2))
   (.seq (.block 3 (.seq (.region [⟨some 63, .mov (.t 61), none⟩,
         ⟨some 64, .iaddr 1 (.t 59) (.t 61), none⟩,
         ⟨some 65, .load false 1 (.t 64), none⟩,
         ⟨some 10, .mov (.t 63), none⟩,
         ⟨some 11, .mov (.t 65), none⟩])
      (.seq (.region [⟨some 66, .mov (.t 11), none⟩,
          ⟨some 67, .len (.t 66), none⟩,
          ⟨some 68, .mov (.c (.int Go.IntKind.i64 0)), none⟩])
       (.block 4 (.loop xNz xVk)))))
    (.region [⟨some 90, .bin .add (.t 61) (.c (.int Go.IntKind.i64 1)), none⟩,
       ⟨some 61, .mov (.t 90), none⟩])))

def xVl : ACode := xUj
def xNA : List Nat := [0, 3, 4, 5, 9, 10, 11, 12, 13, 14, 15, 16, 17, 18, 19, 20, 21, 22, 23, 24, 25, 26, 27, 28, 29, 30, 31, 32, 33, 34, 35, 36, 37, 38, 39, 40, 44, 45, 46, 47, 48, 49, 50, 51, 52, 53, 54, 55, 56, 57, 58, 62, 63, 64, 65, 66, 67, 68, 69, 70, 71, 72, 73, 74, 75, 76, 77, 78, 79, 80, 81, 82, 83, 84, 85, 86, 87, 88, 89, 90, 91, 92]
abbrev xPM (s1 s2 s6 s7 s8 s41 s42 s43 s59 s60 s61 : AV) : List AV := [.any, s1, s2, .any, .any, .any, s6, s7, s8, .any, .any, .any, .any, .any, .any, .any, .any, .any, .any, .any, .any, .any, .any, .any, .any, .any, .any, .any, .any, .any, .any, .any, .any, .any, .any, .any, .any, .any, .any, .any, .any, s41, s42, s43, .any, .any, .any, .any, .any, .any, .any, .any, .any, .any, .any, .any, .any, .any, .any, s59, s60, s61, .any, .any, .any, .any, .any, .any, .any, .any, .any, .any, .any, .any, .any, .any, .any, .any, .any, .any, .any, .any, .any, .any, .any, .any, .any, .any, .any, .any, .any, .any, .any]
theorem yCp (s0 s1 s2 s3 s4 s5 s6 s7 s8 s9 s10 s11 s12 s13 s14 s15 s16 s17 s18 s19 s20 s21 s22 s23 s24 s25 s26 s27 s28 s29 s30 s31 s32 s33 s34 s35 s36 s37 s38 s39 s40 s41 s42 s43 s44 s45 s46 s47 s48 s49 s50 s51 s52 s53 s54 s55 s56 s57 s58 s59 s60 s61 s62 s63 s64 s65 s66 s67 s68 s69 s70 s71 s72 s73 s74 s75 s76 s77 s78 s79 s80 s81 s82 s83 s84 s85 s86 s87 s88 s89 s90 s91 s92 : AV) : xBw xNA [s0, s1, s2, s3, s4, s5, s6, s7, s8, s9, s10, s11, s12, s13, s14, s15, s16, s17, s18, s19, s20, s21, s22, s23, s24, s25, s26, s27, s28, s29, s30, s31, s32, s33, s34, s35, s36, s37, s38, s39, s40, s41, s42, s43, s44, s45, s46, s47, s48, s49, s50, s51, s52, s53, s54, s55, s56, s57, s58, s59, s60, s61, s62, s63, s64, s65, s66, s67, s68, s69, s70, s71, s72, s73, s74, s75, s76, s77, s78, s79, s80, s81, s82, s83, s84, s85, s86, s87, s88, s89, s90, s91, s92] = xPM s1 s2 s6 s7 s8 s41 s42 s43 s59 s60 s61 := by kernel_rfl
theorem yCq {prog : Nat → Option AFunc} (s1 s2 s6 s7 s8 s41 s42 s43 s59 s60 s61 : AV) (H : xAA) : (lim prog).loop xNA xVl ⟨xPM s1 s2 s6 s7 s8 s41 s42 s43 s59 s60 s61, H⟩ = xCh (lim prog) xNA xVl (run (lim prog) xUj ⟨xPM s1 s2 s6 s7 s8 s41 s42 s43 s59 s60 s61, H⟩) := xAS _ _ _ _ (by kernel_rfl)

def xUk : ACode :=
  .seq (.region [⟨some 44, .bin .lss (.t 43) (.t 42), none⟩])
  (.seq (.cond (.t 44)
    (.skip)
    (.exit 0))
   (.seq (.block 1 (.seq (.region [⟨some 45, .mov (.t 43), none⟩,
         ⟨some 46, .iaddr 1 (.t 41) (.t 43), none⟩,
         ⟨some 47, .load false 1 (.t 46), none⟩,
         ⟨some 8, .mov (.t 45), none⟩,
         ⟨some 9, .mov (.t 47), none⟩])
      (.seq (.seq (.region [⟨some 48, .faddr 3 (.t 1), none⟩,
           ⟨some 49, .load false 1 (.t 48), none⟩,
           ⟨some 50, .mov (.t 8), none⟩,
           ⟨some 51, .iaddr 1 (.t 49) (.t 50), none⟩,
           ⟨some 52, .load false 1 (.t 51), none⟩])
        (.cond (.t 52)
         (.region [⟨some 53, .faddr 3 (.t 7), none⟩,
            ⟨some 54, .load false 1 (.t 53), none⟩,
            ⟨some 55, .mov (.t 8), none⟩,
            ⟨some 56, .bslice true [.int Go.IntKind.i64 0] 1 1 [(0, (.t 55))], none⟩,
            ⟨some 57, .append false 1 8 (.t 54) (.t 56), none⟩,
            ⟨some 58, .faddr 3 (.t 7), none⟩,
            ⟨none, .store 1 (.t 58) (.t 57), none⟩])
         (.skip)))
       (.seq (.region [⟨some 59, .mov (.t 9), none⟩,
           ⟨some 60, .len (.t 59), none⟩,
           ⟨some 61, .mov (.c (.int Go.IntKind.i64 0)), none⟩])
        (.block 2 (.loop xNA xVl))))))
    (.region [⟨some 91, .bin .add (.t 43) (.c (.int Go.IntKind.i64 1)), none⟩,
       ⟨some 43, .mov (.t 91), none⟩])))

def xVm : ACode := xUk
def xNB : List Nat := [0, 3, 4, 5, 8, 9, 10, 11, 12, 13, 14, 15, 16, 17, 18, 19, 20, 21, 22, 23, 24, 25, 26, 27, 28, 29, 30, 31, 32, 33, 34, 35, 36, 37, 38, 39, 40, 44, 45, 46, 47, 48, 49, 50, 51, 52, 53, 54, 55, 56, 57, 58, 59, 60, 61, 62, 63, 64, 65, 66, 67, 68, 69, 70, 71, 72, 73, 74, 75, 76, 77, 78, 79, 80, 81, 82, 83, 84, 85, 86, 87, 88, 89, 90, 91, 92]
abbrev xPN (s1 s2 s6 s7 s41 s42 s43 : AV) : List AV := [.any, s1, s2, .any, .any, .any, s6, s7, .any, .any, .any, .any, .any, .any, .any, .any, .any, .any, .any, .any, .any, .any, .any, .any, .any, .any, .any, .any, .any, .any, .any, .any, .any, .any, .any, .any, .any, .any, .any, .any, .any, s41, s42, s43, .any, .any, .any, .any, .any, .any, .any, .any, .any, .any, .any, .any, .any, .any, .any, .any, .any, .any, .any, .any, .any, .any, .any, .any, .any, .any, .any, .any, .any, .any, .any, .any, .any, .any, .any, .any, .any, .any, .any, .any, .any, .any, .any, .any, .any, .any, .any, .any, .any]
theorem yCr (s0 s1 s2 s3 s4 s5 s6 s7 s8 s9 s10 s11 s12 s13 s14 s15 s16 s17 s18 s19 s20 s21 s22 s23 s24 s25 s26 s27 s28 s29 s30 s31 s32 s33 s34 s35 s36 s37 s38 s39 s40 s41 s42 s43 s44 s45 s46 s47 s48 s49 s50 s51 s52 s53 s54 s55 s56 s57 s58 s59 s60 s61 s62 s63 s64 s65 s66 s67 s68 s69 s70 s71 s72 s73 s74 s75 s76 s77 s78 s79 s80 s81 s82 s83 s84 s85 s86 s87 s88 s89 s90 s91 s92 : AV) : xBw xNB [s0, s1, s2, s3, s4, s5, s6, s7, s8, s9, s10, s11, s12, s13, s14, s15, s16, s17, s18, s19, s20, s21, s22, s23, s24, s25, s26, s27, s28, s29, s30, s31, s32, s33, s34, s35, s36, s37, s38, s39, s40, s41, s42, s43, s44, s45, s46, s47, s48, s49, s50, s51, s52, s53, s54, s55, s56, s57, s58, s59, s60, s61, s62, s63, s64, s65, s66, s67, s68, s69, s70, s71, s72, s73, s74, s75, s76, s77, s78, s79, s80, s81, s82, s83, s84, s85, s86, s87, s88, s89, s90, s91, s92] = xPN s1 s2 s6 s7 s41 s42 s43 := by kernel_rfl
theorem yCs {prog : Nat → Option AFunc} (s1 s2 s6 s7 s41 s42 s43 : AV) (H : xAA) : (lim prog).loop xNB xVm ⟨xPN s1 s2 s6 s7 s41 s42 s43, H⟩ = xCh (lim prog) xNB xVm (run (lim prog) xUk ⟨xPN s1 s2 s6 s7 s41 s42 s43, H⟩) := xAS _ _ _ _ (by kernel_rfl)

def a27 : AFunc := ⟨93,
  .seq (.region [⟨some 1, .box (.t 0), none⟩,
     ⟨some 2, .box (.c (.agg [.int Go.IntKind.i64 0, .int Go.IntKind.i64 0, .sl true 0 [], .sl true 0 [], .sl true 0 []])), none⟩,
     ⟨some 3, .mov (.c (.int Go.IntKind.i64 0)), none⟩])
  (.seq (.seq (.region [⟨some 14, .load true 4 (.t 1), none⟩,
       ⟨some 15, .call 14 [(.t 14)], none⟩,
       ⟨some 4, .mov (.t 15), none⟩])
    (.seq (.region [⟨some 16, .mov (.t 4), none⟩,
        ⟨some 17, .bin .neq (.t 16) (.c (.int Go.IntKind.i64 0)), none⟩])
     (.cond (.t 17)
      (.seq (.region [⟨some 18, .build [.int Go.IntKind.i64 0, .int Go.IntKind.i64 0, .sl true 0 [], .sl true 0 [], .sl true 0 []] [], none⟩,
          ⟨some 19, .mov (.t 4), none⟩,
          ⟨none, .store 5 (.t 2) (.t 18), none⟩,
          ⟨some 3, .mov (.t 19), none⟩])
       (.ret))
      (.skip))))
   (.seq (.draw 6 [⟨some 20, .faddr 2 (.t 1), none⟩,
       ⟨some 21, .load false 1 (.t 20), none⟩,
       ⟨some 22, .len (.t 21), none⟩,
       ⟨some 23, .faddr 0 (.t 1), none⟩,
       ⟨some 24, .load false 1 (.t 23), none⟩,
       ⟨some 25, .bin .shl (.c (.int Go.IntKind.i64 1)) (.t 24), none⟩,
       ⟨some 5, .mov (.t 22), none⟩,
       ⟨some 6, .mov (.t 25), none⟩])
    (.seq (.seq (.region [⟨some 26, .mov (.t 5), none⟩,
         ⟨some 27, .mov (.t 5), none⟩,
         ⟨some 28, .bin .mul (.t 26) (.t 27), none⟩,
         ⟨some 29, .mov (.t 6), none⟩,
         ⟨some 30, .bin .mul (.t 28) (.t 29), none⟩,
         ⟨some 31, .bin .gtr (.t 30) (.c (.int Go.IntKind.i64 512)), none⟩])
      (.cond (.t 31)
       (.seq (.region [⟨some 32, .build [.int Go.IntKind.i64 0, .int Go.IntKind.i64 0, .sl true 0 [], .sl true 0 [], .sl true 0 []] [], none⟩,
           ⟨none, .store 5 (.t 2) (.t 32), none⟩,
           ⟨some 3, .mov (.c (.int Go.IntKind.i64 4)), none⟩])
        (.ret))
       (.skip)))
     (.seq (.region [⟨some 33, .faddr 0 (.t 1), none⟩,
         ⟨some 34, .load false 1 (.t 33), none⟩,
         ⟨some 35, .mov (.t 5), none⟩,
         ⟨some 36, .faddr 1 (.t 1), none⟩,
         ⟨some 37, .load false 1 (.t 36), none⟩,
         ⟨some 38, .bslice true [.int Go.IntKind.i64 0] 1 1 [(0, (.t 37))], none⟩,
         ⟨some 39, .build [.int Go.IntKind.i64 0, .int Go.IntKind.i64 0, .sl true 0 [], .sl true 0 [], .sl true 0 []] [(0, 1, (.t 34)), (1, 1, (.t 35)), (2, 1, (.t 38))], none⟩,
         ⟨some 7, .box (.c (.agg [.int Go.IntKind.i64 0, .int Go.IntKind.i64 0, .sl true 0 [], .sl true 0 [], .sl true 0 []])), none⟩,
         ⟨none, .store 5 (.t 7) (.t 39), none⟩])
      (.seq (.seq (.region [⟨some 40, .faddr 2 (.t 1), none⟩,
           ⟨some 41, .load false 1 (.t 40), none⟩,
           ⟨some 42, .len (.t 41), none⟩,
           ⟨some 43, .mov (.c (.int Go.IntKind.i64 0)), none⟩])
        (.block 0 (.loop xNB xVm)))
       (.seq (.region [⟨some 92, .load true 5 (.t 7), none⟩,
           ⟨none, .store 5 (.t 2) (.t 92), none⟩,
           ⟨some 3, .mov (.c (.int Go.IntKind.i64 0)), none⟩])
        (.ret))))))),
  [.cell 2 true 5, .tmp 3]⟩

def a29 : AFunc := ⟨31,
  .seq (.region [⟨some 2, .box (.t 0), none⟩,
     ⟨some 3, .box (.t 1), none⟩,
     ⟨some 4, .mov (.c (.bool false)), none⟩])
  (.seq (.region [⟨some 5, .faddr 0 (.t 2), none⟩,
      ⟨some 6, .load false 1 (.t 5), none⟩,
      ⟨some 7, .faddr 0 (.t 3), none⟩,
      ⟨some 8, .load false 1 (.t 7), none⟩,
      ⟨some 9, .bin .eql (.t 6) (.t 8), none⟩,
      ⟨some 10, .mov (.t 9), none⟩,
      ⟨some 11, .faddr 1 (.t 2), some (10, true)⟩,
      ⟨some 12, .load false 1 (.t 11), some (10, true)⟩,
      ⟨some 13, .faddr 1 (.t 3), some (10, true)⟩,
      ⟨some 14, .load false 1 (.t 13), some (10, true)⟩,
      ⟨some 15, .bin .eql (.t 12) (.t 14), some (10, true)⟩,
      ⟨some 16, .pick (.t 10) (.t 15) (.c (.bool false)), none⟩,
      ⟨some 17, .mov (.t 16), none⟩,
      ⟨some 18, .faddr 2 (.t 2), some (17, true)⟩,
      ⟨some 19, .load false 1 (.t 18), some (17, true)⟩,
      ⟨some 20, .faddr 2 (.t 3), some (17, true)⟩,
      ⟨some 21, .load false 1 (.t 20), some (17, true)⟩,
      ⟨some 22, .call 66 [(.t 19), (.t 21)], some (17, true)⟩,
      ⟨some 23, .pick (.t 17) (.t 22) (.c (.bool false)), none⟩,
      ⟨some 24, .mov (.t 23), none⟩,
      ⟨some 25, .faddr 3 (.t 2), some (24, true)⟩,
      ⟨some 26, .load false 1 (.t 25), some (24, true)⟩,
      ⟨some 27, .faddr 3 (.t 3), some (24, true)⟩,
      ⟨some 28, .load false 1 (.t 27), some (24, true)⟩,
      ⟨some 29, .call 67 [(.t 26), (.t 28)], some (24, true)⟩,
      ⟨some 30, .pick (.t 24) (.t 29) (.c (.bool false)), none⟩,
      ⟨some 4, .mov (.t 30), none⟩])
   (.ret)),
  [.tmp 4]⟩

def a35 : AFunc := ⟨211,
  .seq (.region [⟨some 0, .mov (.c (.bool false)), none⟩])
  (.seq (.region [⟨some 28, .call 41 [], none⟩,
      ⟨some 1, .box (.c (.agg [.int Go.IntKind.i64 0, .int Go.IntKind.i64 0, .sl true 0 [], .sl true 0 []])), none⟩,
      ⟨none, .store 4 (.t 1) (.t 28), none⟩])
   (.seq (.region [⟨some 29, .build [.int Go.IntKind.u8 0, .int Go.IntKind.i64 0, .int Go.IntKind.i64 0] [(0, 1, (.c (.int Go.IntKind.u8 1))), (1, 1, (.c (.int Go.IntKind.i64 (-1)))), (2, 1, (.c (.int Go.IntKind.i64 (-1))))], none⟩,
       ⟨some 30, .bslice true [.int Go.IntKind.u8 0, .int Go.IntKind.i64 0, .int Go.IntKind.i64 0] 3 1 [(0, (.t 29))], none⟩,
       ⟨some 2, .mov (.t 30), none⟩])
    (.seq (.region [⟨some 32, .load true 4 (.t 1), none⟩,
        ⟨some 33, .build [.int Go.IntKind.u8 0, .int Go.IntKind.i64 0, .int Go.IntKind.i64 0] [(1, 1, (.c (.int Go.IntKind.i64 1))), (2, 1, (.c (.int Go.IntKind.i64 2)))], none⟩,
        ⟨some 34, .build [.int Go.IntKind.u8 0, .int Go.IntKind.i64 0, .int Go.IntKind.i64 0] [(0, 1, (.c (.int Go.IntKind.u8 1))), (1, 1, (.c (.int Go.IntKind.i64 (-1)))), (2, 1, (.c (.int Go.IntKind.i64 (-1))))], none⟩,
        ⟨some 35, .build [.int Go.IntKind.u8 0, .int Go.IntKind.i64 0, .int Go.IntKind.i64 0] [(1, 1, (.c (.int Go.IntKind.i64 (-1)))), (2, 1, (.c (.int Go.IntKind.i64 (-1))))], none⟩,
        ⟨some 36, .bslice true [.int Go.IntKind.u8 0, .int Go.IntKind.i64 0, .int Go.IntKind.i64 0] 3 3 [(0, (.t 33)), (1, (.t 34)), (2, (.t 35))], none⟩,
        ⟨some 37, .call 16 [(.t 32), (.t 36)], none⟩,
        ⟨some 31, .mov (.t 37), none⟩,
        ⟨some 38, .ext 0 (.t 31), none⟩,
        ⟨some 39, .ext 1 (.t 31), none⟩,
        ⟨some 3, .mov (.t 38), none⟩,
        ⟨some 4, .mov (.t 39), none⟩])
     (.seq (.region [⟨some 41, .load true 4 (.t 1), none⟩,
         ⟨some 42, .call 18 [(.t 41), (.c (.sl true 0 []))], none⟩,
         ⟨some 40, .mov (.t 42), none⟩,
         ⟨some 43, .ext 0 (.t 40), none⟩,
         ⟨some 44, .ext 1 (.t 40), none⟩,
         ⟨some 5, .mov (.t 43), none⟩,
         ⟨some 6, .mov (.t 44), none⟩])
      (.seq (.region [⟨some 46, .load true 4 (.t 1), none⟩,
          ⟨some 47, .mov (.t 2), none⟩,
          ⟨some 48, .call 18 [(.t 46), (.t 47)], none⟩,
          ⟨some 45, .mov (.t 48), none⟩,
          ⟨some 49, .ext 0 (.t 45), none⟩,
          ⟨some 50, .ext 1 (.t 45), none⟩,
          ⟨some 7, .mov (.t 49), none⟩,
          ⟨some 8, .mov (.t 50), none⟩])
       (.seq (.region [⟨some 52, .load true 4 (.t 1), none⟩,
           ⟨some 53, .call 25 [(.t 52)], none⟩,
           ⟨some 51, .mov (.t 53), none⟩,
           ⟨some 54, .ext 0 (.t 51), none⟩,
           ⟨some 55, .ext 1 (.t 51), none⟩,
           ⟨some 9, .mov (.t 54), none⟩,
           ⟨some 10, .mov (.t 55), none⟩])
        (.seq (.region [⟨some 56, .bslice true [.bool false] 1 2 [(0, (.c (.bool false))), (1, (.c (.bool true)))], none⟩,
            ⟨some 57, .bslice true [.int Go.IntKind.i64 0] 1 2 [(0, (.c (.int Go.IntKind.i64 0))), (1, (.c (.int Go.IntKind.i64 1)))], none⟩,
            ⟨some 58, .bslice true [.int Go.IntKind.i64 0] 1 2 [(0, (.c (.int Go.IntKind.i64 1))), (1, (.c (.int Go.IntKind.i64 1)))], none⟩,
            ⟨some 59, .bslice true [.sl true 0 []] 1 2 [(0, (.t 57)), (1, (.t 58))], none⟩,
            ⟨some 60, .bslice true [.int Go.IntKind.i64 0] 1 2 [(0, (.c (.int Go.IntKind.i64 1))), (1, (.c (.int Go.IntKind.i64 1)))], none⟩,
            ⟨some 61, .bslice true [.int Go.IntKind.i64 0] 1 2 [(0, (.c (.int Go.IntKind.i64 1))), (1, (.c (.int Go.IntKind.i64 1)))], none⟩,
            ⟨some 62, .bslice true [.sl true 0 []] 1 2 [(0, (.t 60)), (1, (.t 61))], none⟩,
            ⟨some 63, .bslice true [.sl true 0 []] 1 2 [(0, (.t 59)), (1, (.t 62))], none⟩,
            ⟨some 64, .build [.int Go.IntKind.i64 0, .int Go.IntKind.i64 0, .sl true 0 [], .sl true 0 []] [(0, 1, (.c (.int Go.IntKind.i64 1))), (3, 1, (.t 56)), (2, 1, (.t 63))], none⟩,
            ⟨some 11, .box (.c (.agg [.int Go.IntKind.i64 0, .int Go.IntKind.i64 0, .sl true 0 [], .sl true 0 []])), none⟩,
            ⟨none, .store 4 (.t 11) (.t 64), none⟩])
         (.seq (.region [⟨some 66, .load true 4 (.t 1), none⟩,
             ⟨some 67, .call 21 [(.t 66)], none⟩,
             ⟨some 65, .mov (.t 67), none⟩,
             ⟨some 68, .ext 0 (.t 65), none⟩,
             ⟨some 69, .ext 1 (.t 65), none⟩,
             ⟨some 12, .box (.c (.agg [.int Go.IntKind.i64 0, .int Go.IntKind.i64 0, .sl true 0 [], .sl true 0 []])), none⟩,
             ⟨none, .store 4 (.t 12) (.t 68), none⟩,
             ⟨some 13, .mov (.t 69), none⟩])
          (.seq (.region [⟨some 71, .load true 4 (.t 1), none⟩,
              ⟨some 72, .call 23 [(.t 71)], none⟩,
              ⟨some 70, .mov (.t 72), none⟩,
              ⟨some 73, .ext 0 (.t 70), none⟩,
              ⟨some 74, .ext 1 (.t 70), none⟩,
              ⟨some 14, .box (.c (.agg [.int Go.IntKind.i64 0, .int Go.IntKind.i64 0, .sl true 0 [], .sl true 0 []])), none⟩,
              ⟨none, .store 4 (.t 14) (.t 73), none⟩,
              ⟨some 15, .mov (.t 74), none⟩])
           (.seq (.seq (.region [⟨some 75, .mov (.t 3), none⟩,
                ⟨some 76, .bslice true [.int Go.IntKind.i64 0] 1 3 [(0, (.c (.int Go.IntKind.i64 1))), (1, (.c (.int Go.IntKind.i64 1))), (2, (.c (.int Go.IntKind.i64 0)))], none⟩,
                ⟨some 77, .call 20 [(.t 75), (.t 76)], none⟩,
                ⟨some 78, .un .not (.t 77), none⟩,
                ⟨some 79, .mov (.t 78), none⟩,
                ⟨some 80, .mov (.t 4), some (79, false)⟩,
                ⟨some 81, .bin .neq (.t 80) (.c (.int Go.IntKind.i64 0)), some (79, false)⟩,
                ⟨some 82, .pick (.t 79) (.c (.bool true)) (.t 81), none⟩,
                ⟨some 83, .mov (.t 82), none⟩,
                ⟨some 84, .mov (.t 5), some (83, false)⟩,
                ⟨some 85, .pick (.t 83) (.c (.bool true)) (.t 84), none⟩,
                ⟨some 86, .mov (.t 85), none⟩,
                ⟨some 87, .mov (.t 6), some (86, false)⟩,
                ⟨some 88, .bin .neq (.t 87) (.c (.int Go.IntKind.i64 0)), some (86, false)⟩,
                ⟨some 89, .pick (.t 86) (.c (.bool true)) (.t 88), none⟩,
                ⟨some 90, .mov (.t 89), none⟩,
                ⟨some 91, .mov (.t 7), some (90, false)⟩,
                ⟨some 92, .un .not (.t 91), some (90, false)⟩,
                ⟨some 93, .pick (.t 90) (.c (.bool true)) (.t 92), none⟩,
                ⟨some 94, .mov (.t 93), none⟩,
                ⟨some 95, .mov (.t 8), some (94, false)⟩,
                ⟨some 96, .bin .neq (.t 95) (.c (.int Go.IntKind.i64 0)), some (94, false)⟩,
                ⟨some 97, .pick (.t 94) (.c (.bool true)) (.t 96), none⟩,
                ⟨some 98, .mov (.t 97), none⟩,
                ⟨some 99, .mov (.t 9), some (98, false)⟩,
                ⟨some 100, .bslice true [.int Go.IntKind.i64 0] 1 3 [(0, (.c (.int Go.IntKind.i64 0))), (1, (.c (.int Go.IntKind.i64 1))), (2, (.c (.int Go.IntKind.i64 1)))], some (98, false)⟩,
                ⟨some 101, .call 20 [(.t 99), (.t 100)], some (98, false)⟩,
                ⟨some 102, .un .not (.t 101), some (98, false)⟩,
                ⟨some 103, .pick (.t 98) (.c (.bool true)) (.t 102), none⟩,
                ⟨some 104, .mov (.t 103), none⟩,
                ⟨some 105, .mov (.t 10), some (104, false)⟩,
                ⟨some 106, .bin .neq (.t 105) (.c (.int Go.IntKind.i64 0)), some (104, false)⟩,
                ⟨some 107, .pick (.t 104) (.c (.bool true)) (.t 106), none⟩,
                ⟨some 108, .mov (.t 107), none⟩,
                ⟨some 109, .load true 4 (.t 12), some (108, false)⟩,
                ⟨some 110, .load true 4 (.t 11), some (108, false)⟩,
                ⟨some 111, .call 29 [(.t 109), (.t 110)], some (108, false)⟩,
                ⟨some 112, .un .not (.t 111), some (108, false)⟩,
                ⟨some 113, .pick (.t 108) (.c (.bool true)) (.t 112), none⟩,
                ⟨some 114, .mov (.t 113), none⟩,
                ⟨some 115, .mov (.t 13), some (114, false)⟩,
                ⟨some 116, .bin .neq (.t 115) (.c (.int Go.IntKind.i64 0)), some (114, false)⟩,
                ⟨some 117, .pick (.t 114) (.c (.bool true)) (.t 116), none⟩,
                ⟨some 118, .mov (.t 117), none⟩,
                ⟨some 119, .load true 4 (.t 14), some (118, false)⟩,
                ⟨some 120, .load true 4 (.t 11), some (118, false)⟩,
                ⟨some 121, .call 29 [(.t 119), (.t 120)], some (118, false)⟩,
                ⟨some 122, .un .not (.t 121), some (118, false)⟩,
                ⟨some 123, .pick (.t 118) (.c (.bool true)) (.t 122), none⟩,
                ⟨some 124, .mov (.t 123), none⟩,
                ⟨some 125, .mov (.t 15), some (124, false)⟩,
                ⟨some 126, .bin .neq (.t 125) (.c (.int Go.IntKind.i64 0)), some (124, false)⟩,
                ⟨some 127, .pick (.t 124) (.c (.bool true)) (.t 126), none⟩])
             (.cond (.t 127)
              (.seq (.region [⟨some 0, .mov (.c (.bool false)), none⟩])
               (.ret))
              (.skip)))
            (.seq (.region [⟨some 128, .bslice true [.int Go.IntKind.i64 0] 1 1 [(0, (.c (.int Go.IntKind.i64 0)))], none⟩,
                ⟨some 129, .bslice true [.int Go.IntKind.i64 0] 1 1 [(0, (.c (.int Go.IntKind.i64 1)))], none⟩,
                ⟨some 130, .build [.int Go.IntKind.i64 0, .int Go.IntKind.i64 0, .int Go.IntKind.i64 0, .int Go.IntKind.u8 0, .int Go.IntKind.u8 0] [(2, 1, (.c (.int Go.IntKind.i64 1))), (3, 1, (.c (.int Go.IntKind.u8 1)))], none⟩,
                ⟨some 131, .build [.int Go.IntKind.i64 0, .int Go.IntKind.i64 0, .int Go.IntKind.i64 0, .int Go.IntKind.u8 0, .int Go.IntKind.u8 0] [(0, 1, (.c (.int Go.IntKind.i64 1))), (2, 1, (.c (.int Go.IntKind.i64 1)))], none⟩,
                ⟨some 132, .build [.int Go.IntKind.i64 0, .int Go.IntKind.i64 0, .int Go.IntKind.i64 0, .int Go.IntKind.u8 0, .int Go.IntKind.u8 0] [(1, 1, (.c (.int Go.IntKind.i64 1))), (2, 1, (.c (.int Go.IntKind.i64 1)))], none⟩,
                ⟨some 133, .build [.int Go.IntKind.i64 0, .int Go.IntKind.i64 0, .int Go.IntKind.i64 0, .int Go.IntKind.u8 0, .int Go.IntKind.u8 0] [], none⟩,
                ⟨some 134, .bslice true [.int Go.IntKind.i64 0, .int Go.IntKind.i64 0, .int Go.IntKind.i64 0, .int Go.IntKind.u8 0, .int Go.IntKind.u8 0] 5 4 [(0, (.t 130)), (1, (.t 131)), (2, (.t 132)), (3, (.t 133))], none⟩,
                ⟨some 135, .build [.int Go.IntKind.i64 0, .int Go.IntKind.i64 0, .sl true 0 [], .sl true 0 [], .sl true 0 []] [(0, 1, (.c (.int Go.IntKind.i64 2))), (1, 1, (.c (.int Go.IntKind.i64 2))), (2, 1, (.t 128)), (3, 1, (.t 129)), (4, 1, (.t 134))], none⟩,
                ⟨some 16, .box (.c (.agg [.int Go.IntKind.i64 0, .int Go.IntKind.i64 0, .sl true 0 [], .sl true 0 [], .sl true 0 []])), none⟩,
                ⟨none, .store 5 (.t 16) (.t 135), none⟩])
             (.seq (.region [⟨some 137, .load true 5 (.t 16), none⟩,
                 ⟨some 138, .call 37 [(.t 137), (.c (.int Go.IntKind.i64 2))], none⟩,
                 ⟨some 136, .mov (.t 138), none⟩,
                 ⟨some 139, .ext 0 (.t 136), none⟩,
                 ⟨some 140, .ext 1 (.t 136), none⟩,
                 ⟨some 141, .ext 2 (.t 136), none⟩,
                 ⟨some 17, .box (.c (.agg [.int Go.IntKind.i64 0, .int Go.IntKind.i64 0, .sl true 0 [], .sl true 0 []])), none⟩,
                 ⟨none, .store 4 (.t 17) (.t 139), none⟩,
                 ⟨some 18, .mov (.t 140), none⟩,
                 ⟨some 19, .mov (.t 141), none⟩])
              (.seq (.region [⟨some 143, .load true 5 (.t 16), none⟩,
                  ⟨some 144, .call 37 [(.t 143), (.c (.int Go.IntKind.i64 1))], none⟩,
                  ⟨some 142, .mov (.t 144), none⟩,
                  ⟨some 145, .ext 0 (.t 142), none⟩,
                  ⟨some 146, .ext 1 (.t 142), none⟩,
                  ⟨some 147, .ext 2 (.t 142), none⟩,
                  ⟨some 20, .box (.c (.agg [.int Go.IntKind.i64 0, .int Go.IntKind.i64 0, .sl true 0 [], .sl true 0 []])), none⟩,
                  ⟨none, .store 4 (.t 20) (.t 145), none⟩,
                  ⟨some 21, .mov (.t 146), none⟩,
                  ⟨some 22, .mov (.t 147), none⟩])
               (.seq (.region [⟨some 149, .load true 5 (.t 16), none⟩,
                   ⟨some 150, .call 37 [(.t 149), (.c (.int Go.IntKind.i64 65))], none⟩,
                   ⟨some 148, .mov (.t 150), none⟩,
                   ⟨some 151, .ext 0 (.t 148), none⟩,
                   ⟨some 152, .ext 1 (.t 148), none⟩,
                   ⟨some 153, .ext 2 (.t 148), none⟩,
                   ⟨some 23, .box (.c (.agg [.int Go.IntKind.i64 0, .int Go.IntKind.i64 0, .sl true 0 [], .sl true 0 []])), none⟩,
                   ⟨none, .store 4 (.t 23) (.t 151), none⟩,
                   ⟨some 24, .mov (.t 152), none⟩,
                   ⟨some 25, .mov (.t 153), none⟩])
                (.seq (.region [⟨some 155, .load true 4 (.t 11), none⟩,
                    ⟨some 156, .call 27 [(.t 155)], none⟩,
                    ⟨some 154, .mov (.t 156), none⟩,
                    ⟨some 157, .ext 0 (.t 154), none⟩,
                    ⟨some 158, .ext 1 (.t 154), none⟩,
                    ⟨some 26, .box (.c (.agg [.int Go.IntKind.i64 0, .int Go.IntKind.i64 0, .sl true 0 [], .sl true 0 [], .sl true 0 []])), none⟩,
                    ⟨none, .store 5 (.t 26) (.t 157), none⟩,
                    ⟨some 27, .mov (.t 158), none⟩])
                 (.seq (.region [⟨some 159, .mov (.t 18), none⟩,
                     ⟨some 160, .bslice true [.int Go.IntKind.i64 0] 1 1 [(0, (.c (.int Go.IntKind.i64 0)))], none⟩,
                     ⟨some 161, .bslice true [.int Go.IntKind.i64 0] 1 2 [(0, (.c (.int Go.IntKind.i64 0))), (1, (.c (.int Go.IntKind.i64 1)))], none⟩,
                     ⟨some 162, .bslice true [.sl true 0 []] 1 2 [(0, (.t 160)), (1, (.t 161))], none⟩,
                     ⟨some 163, .call 39 [(.t 159), (.t 162)], none⟩,
                     ⟨some 164, .mov (.t 163), none⟩,
                     ⟨some 165, .mov (.t 19), some (164, true)⟩,
                     ⟨some 166, .bin .eql (.t 165) (.c (.int Go.IntKind.i64 0)), some (164, true)⟩,
                     ⟨some 167, .pick (.t 164) (.t 166) (.c (.bool false)), none⟩,
                     ⟨some 168, .mov (.t 167), none⟩,
                     ⟨some 169, .mov (.t 22), some (168, true)⟩,
                     ⟨some 170, .bin .eql (.t 169) (.c (.int Go.IntKind.i64 10)), some (168, true)⟩,
                     ⟨some 171, .pick (.t 168) (.t 170) (.c (.bool false)), none⟩,
                     ⟨some 172, .mov (.t 171), none⟩,
                     ⟨some 173, .mov (.t 25), some (172, true)⟩,
                     ⟨some 174, .bin .eql (.t 173) (.c (.int Go.IntKind.i64 1)), some (172, true)⟩,
                     ⟨some 175, .pick (.t 172) (.t 174) (.c (.bool false)), none⟩,
                     ⟨some 176, .mov (.t 175), none⟩,
                     ⟨some 177, .mov (.t 27), some (176, true)⟩,
                     ⟨some 178, .bin .eql (.t 177) (.c (.int Go.IntKind.i64 0)), some (176, true)⟩,
                     ⟨some 179, .pick (.t 176) (.t 178) (.c (.bool false)), none⟩,
                     ⟨some 180, .mov (.t 179), none⟩,
                     ⟨some 181, .faddr 1 (.t 26), some (180, true)⟩,
                     ⟨some 182, .load false 1 (.t 181), some (180, true)⟩,
                     ⟨some 183, .bin .eql (.t 182) (.c (.int Go.IntKind.i64 2)), some (180, true)⟩,
                     ⟨some 184, .pick (.t 180) (.t 183) (.c (.bool false)), none⟩,
                     ⟨some 185, .mov (.t 184), none⟩,
                     ⟨some 186, .faddr 2 (.t 26), some (185, true)⟩,
                     ⟨some 187, .load false 1 (.t 186), some (185, true)⟩,
                     ⟨some 188, .bslice true [.int Go.IntKind.i64 0] 1 1 [(0, (.c (.int Go.IntKind.i64 0)))], some (185, true)⟩,
                     ⟨some 189, .call 20 [(.t 187), (.t 188)], some (185, true)⟩,
                     ⟨some 190, .pick (.t 185) (.t 189) (.c (.bool false)), none⟩,
                     ⟨some 191, .mov (.t 190), none⟩,
                     ⟨some 192, .faddr 3 (.t 26), some (191, true)⟩,
                     ⟨some 193, .load false 1 (.t 192), some (191, true)⟩,
                     ⟨some 194, .bslice true [.int Go.IntKind.i64 0] 1 1 [(0, (.c (.int Go.IntKind.i64 1)))], some (191, true)⟩,
                     ⟨some 195, .call 20 [(.t 193), (.t 194)], some (191, true)⟩,
                     ⟨some 196, .pick (.t 191) (.t 195) (.c (.bool false)), none⟩,
                     ⟨some 197, .mov (.t 196), none⟩,
                     ⟨some 198, .faddr 4 (.t 26), some (197, true)⟩,
                     ⟨some 199, .load false 1 (.t 198), some (197, true)⟩,
                     ⟨some 200, .len (.t 199), some (197, true)⟩,
                     ⟨some 201, .bin .eql (.t 200) (.c (.int Go.IntKind.i64 8)), some (197, true)⟩,
                     ⟨some 202, .pick (.t 197) (.t 201) (.c (.bool false)), none⟩,
                     ⟨some 203, .mov (.t 202), none⟩,
                     ⟨some 204, .faddr 4 (.t 26), some (203, true)⟩,
                     ⟨some 205, .load false 1 (.t 204), some (203, true)⟩,
                     ⟨some 206, .iaddr 5 (.t 205) (.c (.int Go.IntKind.i64 0)), some (203, true)⟩,
                     ⟨some 207, .load true 5 (.t 206), some (203, true)⟩,
                     ⟨some 208, .build [.int Go.IntKind.i64 0, .int Go.IntKind.i64 0, .int Go.IntKind.i64 0, .int Go.IntKind.u8 0, .int Go.IntKind.u8 0] [(4, 1, (.c (.int Go.IntKind.u8 1)))], some (203, true)⟩,
                     ⟨some 209, .aeq false 5 (.t 207) (.t 208), some (203, true)⟩,
                     ⟨some 210, .pick (.t 203) (.t 209) (.c (.bool false)), none⟩,
                     ⟨some 0, .mov (.t 210), none⟩])
                  (.ret))))))))))))))))),
  [.tmp 0]⟩

def a36 : AFunc := ⟨29,
  .seq (.region [⟨some 1, .box (.t 0), none⟩,
     ⟨some 2, .box (.c (.agg [.int Go.IntKind.i64 0, .int Go.IntKind.i64 0, .sl true 0 [], .sl true 0 [], .sl true 0 []])), none⟩])
  (.seq (.region [⟨some 3, .faddr 2 (.t 1), none⟩,
      ⟨some 4, .load false 1 (.t 3), none⟩,
      ⟨some 5, .faddr 2 (.t 1), none⟩,
      ⟨some 6, .load false 1 (.t 5), none⟩,
      ⟨some 7, .len (.t 6), none⟩,
      ⟨some 8, .mini (.t 7) (.c (.int Go.IntKind.i64 70)), none⟩,
      ⟨some 9, .slice 1 (.t 4) none (some (.t 8)) none, none⟩,
      ⟨some 10, .faddr 2 (.t 1), none⟩,
      ⟨none, .store 1 (.t 10) (.t 9), none⟩])
   (.seq (.region [⟨some 11, .faddr 3 (.t 1), none⟩,
       ⟨some 12, .load false 1 (.t 11), none⟩,
       ⟨some 13, .faddr 3 (.t 1), none⟩,
       ⟨some 14, .load false 1 (.t 13), none⟩,
       ⟨some 15, .len (.t 14), none⟩,
       ⟨some 16, .mini (.t 15) (.c (.int Go.IntKind.i64 70)), none⟩,
       ⟨some 17, .slice 1 (.t 12) none (some (.t 16)) none, none⟩,
       ⟨some 18, .faddr 3 (.t 1), none⟩,
       ⟨none, .store 1 (.t 18) (.t 17), none⟩])
    (.seq (.region [⟨some 19, .faddr 4 (.t 1), none⟩,
        ⟨some 20, .load false 1 (.t 19), none⟩,
        ⟨some 21, .faddr 4 (.t 1), none⟩,
        ⟨some 22, .load false 1 (.t 21), none⟩,
        ⟨some 23, .len (.t 22), none⟩,
        ⟨some 24, .mini (.t 23) (.c (.int Go.IntKind.i64 60)), none⟩,
        ⟨some 25, .slice 5 (.t 20) none (some (.t 24)) none, none⟩,
        ⟨some 26, .faddr 4 (.t 1), none⟩,
        ⟨none, .store 1 (.t 26) (.t 25), none⟩])
     (.seq (.region [⟨some 27, .load true 5 (.t 1), none⟩,
         ⟨some 28, .call 72 [(.t 27)], none⟩,
         ⟨none, .store 5 (.t 2) (.t 28), none⟩])
      (.ret))))),
  [.cell 2 true 5]⟩

def xNC : ACode :=
  .seq (.region [⟨some 46, .bin .lss (.t 45) (.t 44), none⟩])
  (.seq (.cond (.t 46)
    (.skip)
    (.exit 0))
   (.seq (.block 1 (.seq (.region [⟨some 47, .iaddr 1 (.t 43) (.t 45), none⟩,
         ⟨some 48, .load false 1 (.t 47), none⟩,
         ⟨some 13, .mov (.t 48), none⟩])
      (.region [⟨some 49, .mov (.t 5), none⟩,
         ⟨some 50, .mov (.t 13), none⟩,
         ⟨some 51, .call 77 [(.t 50)], none⟩,
         ⟨some 52, .bslice true [.sl true 0 []] 1 1 [(0, (.t 51))], none⟩,
         ⟨some 53, .append false 1 24 (.t 49) (.t 52), none⟩,
         ⟨some 5, .mov (.t 53), none⟩])))
    (.region [⟨some 54, .bin .add (.t 45) (.c (.int Go.IntKind.i64 1)), none⟩,
       ⟨some 45, .mov (.t 54), none⟩])))

def xSs : ACode := xNC
def xK2 : List Nat := [0, 1, 3, 6, 7, 11, 12, 13, 14, 15, 16, 17, 18, 19, 20, 21, 22, 23, 24, 25, 26, 27, 28, 29, 30, 31, 32, 33, 34, 35, 36, 37, 38, 39, 40, 41, 42, 46, 47, 48, 49, 50, 51, 52, 53, 54, 55, 56, 57, 58, 59, 60, 61, 62, 63]
abbrev xK3 (s2 s4 s5 s8 s9 s10 s43 s44 s45 : AV) : List AV := [.any, .any, s2, .any, s4, s5, .any, .any, s8, s9, s10, .any, .any, .any, .any, .any, .any, .any, .any, .any, .any, .any, .any, .any, .any, .any, .any, .any, .any, .any, .any, .any, .any, .any, .any, .any, .any, .any, .any, .any, .any, .any, .any, s43, s44, s45, .any, .any, .any, .any, .any, .any, .any, .any, .any, .any, .any, .any, .any, .any, .any, .any, .any, .any]
theorem xPO (s0 s1 s2 s3 s4 s5 s6 s7 s8 s9 s10 s11 s12 s13 s14 s15 s16 s17 s18 s19 s20 s21 s22 s23 s24 s25 s26 s27 s28 s29 s30 s31 s32 s33 s34 s35 s36 s37 s38 s39 s40 s41 s42 s43 s44 s45 s46 s47 s48 s49 s50 s51 s52 s53 s54 s55 s56 s57 s58 s59 s60 s61 s62 s63 : AV) : xBw xK2 [s0, s1, s2, s3, s4, s5, s6, s7, s8, s9, s10, s11, s12, s13, s14, s15, s16, s17, s18, s19, s20, s21, s22, s23, s24, s25, s26, s27, s28, s29, s30, s31, s32, s33, s34, s35, s36, s37, s38, s39, s40, s41, s42, s43, s44, s45, s46, s47, s48, s49, s50, s51, s52, s53, s54, s55, s56, s57, s58, s59, s60, s61, s62, s63] = xK3 s2 s4 s5 s8 s9 s10 s43 s44 s45 := by kernel_rfl
theorem xUl {prog : Nat → Option AFunc} (s2 s4 s5 s8 s9 s10 s43 s44 s45 : AV) (H : xAA) : (lim prog).loop xK2 xSs ⟨xK3 s2 s4 s5 s8 s9 s10 s43 s44 s45, H⟩ = xCh (lim prog) xK2 xSs (run (lim prog) xNC ⟨xK3 s2 s4 s5 s8 s9 s10 s43 s44 s45, H⟩) := xAS _ _ _ _ (by kernel_rfl)

def a37 : AFunc := ⟨64,
  .seq (.region [⟨some 2, .box (.t 0), none⟩,
     ⟨some 3, .box (.t 1), none⟩,
     ⟨some 4, .box (.c (.agg [.int Go.IntKind.i64 0, .int Go.IntKind.i64 0, .sl true 0 [], .sl true 0 []])), none⟩,
     ⟨some 5, .mov (.c (.sl true 0 [])), none⟩,
     ⟨some 6, .mov (.c (.int Go.IntKind.i64 0)), none⟩])
  (.seq (.seq (.region [⟨some 14, .load true 5 (.t 2), none⟩,
       ⟨some 15, .call 45 [(.t 14)], none⟩,
       ⟨some 7, .mov (.t 15), none⟩])
    (.seq (.region [⟨some 16, .mov (.t 7), none⟩,
        ⟨some 17, .bin .neq (.t 16) (.c (.int Go.IntKind.i64 0)), none⟩])
     (.cond (.t 17)
      (.seq (.region [⟨some 18, .build [.int Go.IntKind.i64 0, .int Go.IntKind.i64 0, .sl true 0 [], .sl true 0 []] [], none⟩,
          ⟨some 19, .mov (.t 7), none⟩,
          ⟨none, .store 4 (.t 4) (.t 18), none⟩,
          ⟨some 5, .mov (.c (.sl true 0 [])), none⟩,
          ⟨some 6, .mov (.t 19), none⟩])
       (.ret))
      (.skip))))
   (.seq (.seq (.region [⟨some 20, .load false 1 (.t 3), none⟩,
        ⟨some 21, .bin .lss (.t 20) (.c (.int Go.IntKind.i64 1)), none⟩,
        ⟨some 22, .mov (.t 21), none⟩,
        ⟨some 23, .load false 1 (.t 3), some (22, false)⟩,
        ⟨some 24, .bin .gtr (.t 23) (.c (.int Go.IntKind.i64 64)), some (22, false)⟩,
        ⟨some 25, .pick (.t 22) (.c (.bool true)) (.t 24), none⟩])
     (.cond (.t 25)
      (.seq (.region [⟨some 26, .build [.int Go.IntKind.i64 0, .int Go.IntKind.i64 0, .sl true 0 [], .sl true 0 []] [], none⟩,
          ⟨none, .store 4 (.t 4) (.t 26), none⟩,
          ⟨some 5, .mov (.c (.sl true 0 [])), none⟩,
          ⟨some 6, .mov (.c (.int Go.IntKind.i64 1)), none⟩])
       (.ret))
      (.skip)))
    (.seq (.region [⟨some 27, .faddr 2 (.t 2), none⟩,
        ⟨some 28, .load false 1 (.t 27), none⟩,
        ⟨some 29, .call 73 [(.t 28)], none⟩,
        ⟨some 30, .bslice false [.int Go.IntKind.u64 0] 1 1 [(0, (.t 29))], none⟩,
        ⟨some 8, .box (.c (.sl true 0 [])), none⟩,
        ⟨none, .store 1 (.t 8) (.t 30), none⟩])
     (.seq (.region [⟨some 31, .mkmap, none⟩,
         ⟨some 32, .load false 1 (.t 8), none⟩,
         ⟨some 33, .iaddr 1 (.t 32) (.c (.int Go.IntKind.i64 0)), none⟩,
         ⟨some 34, .load false 1 (.t 33), none⟩,
         ⟨none, .mupd [0] (.t 31) (.t 34) (.c (.int Go.IntKind.i64 0)), none⟩,
         ⟨some 35, .mov (.t 31), none⟩,
         ⟨some 9, .box (.c (.nilm)), none⟩,
         ⟨none, .store 1 (.t 9) (.t 35), none⟩])
      (.seq (.region [⟨some 36, .mkfunc 74 [(.t 2), (.t 8)], none⟩,
          ⟨some 10, .box (.c (.nilf)), none⟩,
          ⟨none, .store 1 (.t 10) (.t 36), none⟩])
       (.seq (.region [⟨some 11, .box (.c (.bool false)), none⟩,
           ⟨none, .store 1 (.t 11) (.c (.bool false)), none⟩])
        (.seq (.region [⟨some 37, .faddr 0 (.t 2), none⟩,
            ⟨some 38, .load false 1 (.t 37), none⟩,
            ⟨some 39, .mkfunc 76 [(.t 10), (.t 9), (.t 8), (.t 3), (.t 11)], none⟩,
            ⟨some 40, .icall (.c (.func 75 [])) [(.t 38), (.t 39)], none⟩])
         (.seq (.seq (.region [⟨some 41, .load false 1 (.t 11), none⟩])
           (.cond (.t 41)
            (.seq (.region [⟨some 42, .build [.int Go.IntKind.i64 0, .int Go.IntKind.i64 0, .sl true 0 [], .sl true 0 []] [], none⟩,
                ⟨none, .store 4 (.t 4) (.t 42), none⟩,
                ⟨some 5, .mov (.c (.sl true 0 [])), none⟩,
                ⟨some 6, .mov (.c (.int Go.IntKind.i64 10)), none⟩])
             (.ret))
            (.skip)))
          (.seq (.seq (.region [⟨some 43, .load false 1 (.t 8), none⟩,
               ⟨some 44, .len (.t 43), none⟩,
               ⟨some 45, .mov (.c (.int Go.IntKind.i64 0)), none⟩])
            (.block 0 (.loop xK2 xSs)))
           (.seq (.region [⟨some 55, .faddr 0 (.t 2), none⟩,
               ⟨some 56, .load false 1 (.t 55), none⟩,
               ⟨some 57, .load false 1 (.t 8), none⟩,
               ⟨some 58, .len (.t 57), none⟩,
               ⟨some 59, .mkfunc 78 [(.t 9), (.t 10)], none⟩,
               ⟨some 60, .mkfunc 79 [(.t 2), (.t 8)], none⟩,
               ⟨some 61, .icall (.c (.func 61 [])) [(.t 56), (.t 58), (.t 59), (.t 60)], none⟩,
               ⟨none, .store 4 (.t 4) (.t 61), none⟩])
            (.seq (.region [⟨some 62, .load true 4 (.t 4), none⟩,
                ⟨some 63, .mov (.t 5), none⟩,
                ⟨none, .store 4 (.t 4) (.t 62), none⟩,
                ⟨some 5, .mov (.t 63), none⟩,
                ⟨some 6, .mov (.c (.int Go.IntKind.i64 0)), none⟩])
             (.ret)))))))))))),
  [.cell 4 true 4, .tmp 5, .tmp 6]⟩

def xUm : ACode :=
  .seq (.seq (.region [⟨some 11, .mov (.t 5), none⟩,
      ⟨some 12, .mov (.t 0), none⟩,
      ⟨some 13, .len (.t 12), none⟩,
      ⟨some 14, .bin .lss (.t 11) (.t 13), none⟩])
   (.cond (.t 14)
    (.skip)
    (.exit 0)))
  (.seq (.block 1 (.seq (.draw 5 [⟨some 17, .mov (.t 0), none⟩,
        ⟨some 18, .mov (.t 5), none⟩,
        ⟨some 19, .iaddr 1 (.t 17) (.t 18), none⟩,
        ⟨some 20, .load false 1 (.t 19), none⟩,
        ⟨some 21, .mov (.t 1), none⟩,
        ⟨some 22, .mov (.t 5), none⟩,
        ⟨some 23, .iaddr 1 (.t 21) (.t 22), none⟩,
        ⟨some 24, .load false 1 (.t 23), none⟩,
        ⟨some 25, .call 20 [(.t 20), (.t 24)], none⟩,
        ⟨some 26, .un .not (.t 25), none⟩])
     (.cond (.t 26)
      (.seq (.region [⟨some 4, .mov (.c (.bool false)), none⟩])
       (.ret))
      (.skip))))
   (.region [⟨some 15, .mov (.t 5), none⟩,
      ⟨some 16, .bin .add (.t 15) (.c (.int Go.IntKind.i64 1)), none⟩,
      ⟨some 5, .mov (.t 16), none⟩]))

def xVn : ACode := xUm
def xND : List Nat := [2, 3, 6, 7, 8, 9, 10, 11, 12, 13, 14, 15, 16, 17, 18, 19, 20, 21, 22, 23, 24, 25, 26]
abbrev xPP (s0 s1 s4 s5 : AV) : List AV := [s0, s1, .any, .any, s4, s5, .any, .any, .any, .any, .any, .any, .any, .any, .any, .any, .any, .any, .any, .any, .any, .any, .any, .any, .any, .any, .any]
theorem yCt (s0 s1 s2 s3 s4 s5 s6 s7 s8 s9 s10 s11 s12 s13 s14 s15 s16 s17 s18 s19 s20 s21 s22 s23 s24 s25 s26 : AV) : xBw xND [s0, s1, s2, s3, s4, s5, s6, s7, s8, s9, s10, s11, s12, s13, s14, s15, s16, s17, s18, s19, s20, s21, s22, s23, s24, s25, s26] = xPP s0 s1 s4 s5 := by kernel_rfl
theorem yCu {prog : Nat → Option AFunc} (s0 s1 s4 s5 : AV) (H : xAA) : (lim prog).loop xND xVn ⟨xPP s0 s1 s4 s5, H⟩ = xCh (lim prog) xND xVn (run (lim prog) xUm ⟨xPP s0 s1 s4 s5, H⟩) := xAS _ _ _ _ (by kernel_rfl)

def a39 : AFunc := ⟨27,
  .seq (.region [⟨some 4, .mov (.c (.bool false)), none⟩])
  (.seq (.seq (.region [⟨some 6, .mov (.t 0), none⟩,
       ⟨some 7, .len (.t 6), none⟩,
       ⟨some 8, .mov (.t 1), none⟩,
       ⟨some 9, .len (.t 8), none⟩,
       ⟨some 10, .bin .neq (.t 7) (.t 9), none⟩])
    (.cond (.t 10)
     (.seq (.region [⟨some 4, .mov (.c (.bool false)), none⟩])
      (.ret))
     (.skip)))
   (.seq (.seq (.region [⟨some 5, .mov (.c (.int Go.IntKind.i64 0)), none⟩])
     (.block 0 (.loop xND xVn)))
    (.seq (.region [⟨some 4, .mov (.c (.bool true)), none⟩])
     (.ret)))),
  [.tmp 4]⟩

def xUn : ACode :=
  .seq (.seq (.region [⟨some 12, .mov (.t 4), none⟩,
      ⟨some 13, .bin .lss (.t 12) (.c (.int Go.IntKind.i64 3)), none⟩])
   (.cond (.t 13)
    (.skip)
    (.exit 2)))
  (.seq (.block 3 (.seq (.region [⟨some 5, .mov (.c (.int Go.IntKind.i64 0)), none⟩])
     (.seq (.seq (.region [⟨some 16, .mov (.t 2), none⟩,
          ⟨some 17, .bin .eql (.t 16) (.c (.int Go.IntKind.i64 2)), none⟩,
          ⟨some 18, .mov (.t 17), none⟩,
          ⟨some 19, .mov (.t 4), some (18, false)⟩,
          ⟨some 20, .bin .eql (.t 19) (.c (.int Go.IntKind.i64 2)), some (18, false)⟩,
          ⟨some 21, .pick (.t 18) (.c (.bool true)) (.t 20), none⟩])
       (.cond (.t 21)
        (.region [⟨some 5, .mov (.c (.int Go.IntKind.i64 2)), none⟩])
        (.skip)))
      (.seq (.seq (.region [⟨some 22, .mov (.t 2), none⟩,
           ⟨some 23, .bin .eql (.t 22) (.c (.int Go.IntKind.i64 1)), none⟩,
           ⟨some 24, .mov (.t 23), none⟩,
           ⟨some 25, .mov (.t 4), some (24, false)⟩,
           ⟨some 26, .bin .eql (.t 25) (.c (.int Go.IntKind.i64 1)), some (24, false)⟩,
           ⟨some 27, .pick (.t 24) (.c (.bool true)) (.t 26), none⟩])
        (.cond (.t 27)
         (.region [⟨some 5, .mov (.c (.int Go.IntKind.i64 1)), none⟩])
         (.skip)))
       (.region [⟨some 28, .mov (.t 3), none⟩,
          ⟨some 29, .mov (.t 5), none⟩,
          ⟨some 30, .bslice true [.int Go.IntKind.i64 0] 1 2 [(0, (.t 29)), (1, (.c (.int Go.IntKind.i64 1)))], none⟩,
          ⟨some 31, .bslice true [.sl true 0 []] 1 1 [(0, (.t 30))], none⟩,
          ⟨some 32, .append false 1 24 (.t 28) (.t 31), none⟩,
          ⟨some 3, .mov (.t 32), none⟩])))))
   (.region [⟨some 14, .mov (.t 4), none⟩,
      ⟨some 15, .bin .add (.t 14) (.c (.int Go.IntKind.i64 1)), none⟩,
      ⟨some 4, .mov (.t 15), none⟩]))

def xVo : ACode := xUn
def xNE : List Nat := [5, 6, 7, 8, 9, 10, 11, 12, 13, 14, 15, 16, 17, 18, 19, 20, 21, 22, 23, 24, 25, 26, 27, 28, 29, 30, 31, 32, 33, 34, 35, 36, 37, 38, 39]
abbrev xPQ (s0 s1 s2 s3 s4 : AV) : List AV := [s0, s1, s2, s3, s4, .any, .any, .any, .any, .any, .any, .any, .any, .any, .any, .any, .any, .any, .any, .any, .any, .any, .any, .any, .any, .any, .any, .any, .any, .any, .any, .any, .any, .any, .any, .any, .any, .any, .any, .any]
theorem yCv (s0 s1 s2 s3 s4 s5 s6 s7 s8 s9 s10 s11 s12 s13 s14 s15 s16 s17 s18 s19 s20 s21 s22 s23 s24 s25 s26 s27 s28 s29 s30 s31 s32 s33 s34 s35 s36 s37 s38 s39 : AV) : xBw xNE [s0, s1, s2, s3, s4, s5, s6, s7, s8, s9, s10, s11, s12, s13, s14, s15, s16, s17, s18, s19, s20, s21, s22, s23, s24, s25, s26, s27, s28, s29, s30, s31, s32, s33, s34, s35, s36, s37, s38, s39] = xPQ s0 s1 s2 s3 s4 := by kernel_rfl
theorem yCw {prog : Nat → Option AFunc} (s0 s1 s2 s3 s4 : AV) (H : xAA) : (lim prog).loop xNE xVo ⟨xPQ s0 s1 s2 s3 s4, H⟩ = xCh (lim prog) xNE xVo (run (lim prog) xUn ⟨xPQ s0 s1 s2 s3 s4, H⟩) := xAS _ _ _ _ (by kernel_rfl)

def xUo : ACode :=
  .seq (.seq (.region [⟨some 8, .mov (.t 2), none⟩,
      ⟨some 9, .bin .lss (.t 8) (.c (.int Go.IntKind.i64 3)), none⟩])
   (.cond (.t 9)
    (.skip)
    (.exit 0)))
  (.seq (.block 1 (.seq (.region [⟨some 3, .mov (.c (.sl true 0 [])), none⟩])
     (.seq (.seq (.region [⟨some 4, .mov (.c (.int Go.IntKind.i64 0)), none⟩])
       (.block 2 (.loop xNE xVo)))
      (.region [⟨some 33, .faddr 2 (.t 1), none⟩,
         ⟨some 34, .load false 1 (.t 33), none⟩,
         ⟨some 35, .mov (.t 3), none⟩,
         ⟨some 36, .bslice false [.sl true 0 []] 1 1 [(0, (.t 35))], none⟩,
         ⟨some 37, .append false 1 24 (.t 34) (.t 36), none⟩,
         ⟨some 38, .faddr 2 (.t 1), none⟩,
         ⟨none, .store 1 (.t 38) (.t 37), none⟩]))))
   (.region [⟨some 10, .mov (.t 2), none⟩,
      ⟨some 11, .bin .add (.t 10) (.c (.int Go.IntKind.i64 1)), none⟩,
      ⟨some 2, .mov (.t 11), none⟩]))

def xVp : ACode := xUo
def xNF : List Nat := [3, 4, 5, 6, 7, 8, 9, 10, 11, 12, 13, 14, 15, 16, 17, 18, 19, 20, 21, 22, 23, 24, 25, 26, 27, 28, 29, 30, 31, 32, 33, 34, 35, 36, 37, 38, 39]
abbrev xPR (s0 s1 s2 : AV) : List AV := [s0, s1, s2, .any, .any, .any, .any, .any, .any, .any, .any, .any, .any, .any, .any, .any, .any, .any, .any, .any, .any, .any, .any, .any, .any, .any, .any, .any, .any, .any, .any, .any, .any, .any, .any, .any, .any, .any, .any, .any]
theorem yCx (s0 s1 s2 s3 s4 s5 s6 s7 s8 s9 s10 s11 s12 s13 s14 s15 s16 s17 s18 s19 s20 s21 s22 s23 s24 s25 s26 s27 s28 s29 s30 s31 s32 s33 s34 s35 s36 s37 s38 s39 : AV) : xBw xNF [s0, s1, s2, s3, s4, s5, s6, s7, s8, s9, s10, s11, s12, s13, s14, s15, s16, s17, s18, s19, s20, s21, s22, s23, s24, s25, s26, s27, s28, s29, s30, s31, s32, s33, s34, s35, s36, s37, s38, s39] = xPR s0 s1 s2 := by kernel_rfl
theorem yCy {prog : Nat → Option AFunc} (s0 s1 s2 : AV) (H : xAA) : (lim prog).loop xNF xVp ⟨xPR s0 s1 s2, H⟩ = xCh (lim prog) xNF xVp (run (lim prog) xUo ⟨xPR s0 s1 s2, H⟩) := xAS _ _ _ _ (by kernel_rfl)

def a41 : AFunc := ⟨40,
  .seq (.region [⟨some 0, .box (.c (.agg [.int Go.IntKind.i64 0, .int Go.IntKind.i64 0, .sl true 0 [], .sl true 0 []])), none⟩])
  (.seq (.region [⟨some 6, .bslice true [.bool false] 1 3 [(0, (.c (.bool false))), (1, (.c (.bool true))), (2, (.c (.bool true)))], none⟩,
      ⟨some 7, .build [.int Go.IntKind.i64 0, .int Go.IntKind.i64 0, .sl true 0 [], .sl true 0 []] [(0, 1, (.c (.int Go.IntKind.i64 1))), (3, 1, (.t 6))], none⟩,
      ⟨some 1, .box (.c (.agg [.int Go.IntKind.i64 0, .int Go.IntKind.i64 0, .sl true 0 [], .sl true 0 []])), none⟩,
      ⟨none, .store 4 (.t 1) (.t 7), none⟩])
   (.seq (.seq (.region [⟨some 2, .mov (.c (.int Go.IntKind.i64 0)), none⟩])
     (.block 0 (.loop xNF xVp)))
    (.seq (.region [⟨some 39, .load true 4 (.t 1), none⟩,
        ⟨none, .store 4 (.t 0) (.t 39), none⟩])
     (.ret)))),
  [.cell 0 true 4]⟩

def a44 : AFunc := ⟨21,
  .seq (.region [⟨some 2, .box (.t 0), none⟩,
     ⟨some 4, .mov (.c (.bool false)), none⟩,
     ⟨some 5, .mov (.c (.int Go.IntKind.i64 0)), none⟩])
  (.seq (.seq (.region [⟨some 7, .load true 5 (.t 2), none⟩,
       ⟨some 8, .mov (.t 1), none⟩,
       ⟨some 9, .call 86 [(.t 7), (.t 8)], none⟩,
       ⟨some 6, .mov (.t 9), none⟩])
    (.seq (.region [⟨some 10, .mov (.t 6), none⟩,
        ⟨some 11, .bin .neq (.t 10) (.c (.int Go.IntKind.i64 0)), none⟩])
     (.cond (.t 11)
      (.seq (.region [⟨some 12, .mov (.t 6), none⟩,
          ⟨some 4, .mov (.c (.bool false)), none⟩,
          ⟨some 5, .mov (.t 12), none⟩])
       (.ret))
      (.skip))))
   (.seq (.draw 5 [⟨some 13, .load true 5 (.t 2), none⟩,
       ⟨some 14, .mov (.t 1), none⟩,
       ⟨some 15, .call 87 [(.t 13), (.t 14)], none⟩,
       ⟨some 16, .faddr 3 (.t 2), none⟩,
       ⟨some 17, .load false 1 (.t 16), none⟩,
       ⟨some 18, .call 88 [(.t 17)], none⟩,
       ⟨some 19, .bin .and (.t 15) (.t 18), none⟩,
       ⟨some 20, .bin .neq (.t 19) (.c (.int Go.IntKind.u64 0)), none⟩,
       ⟨some 4, .mov (.t 20), none⟩,
       ⟨some 5, .mov (.c (.int Go.IntKind.i64 0)), none⟩])
    (.ret))),
  [.tmp 4, .tmp 5]⟩

def xHv : ACode :=
  .seq (.region [⟨some 38, .bin .lss (.t 37) (.c (.int Go.IntKind.i64 2)), none⟩])
  (.seq (.cond (.t 38)
    (.skip)
    (.exit 1))
   (.seq (.block 2 (.seq (.region [⟨some 39, .idx false 1 2 (.t 36) (.t 37), none⟩,
         ⟨some 4, .mov (.t 39), none⟩])
      (.seq (.region [⟨some 40, .mov (.t 4), none⟩,
          ⟨some 41, .faddr 1 (.t 1), none⟩,
          ⟨some 42, .load false 1 (.t 41), none⟩,
          ⟨some 43, .call 89 [(.t 40), (.t 42)], none⟩,
          ⟨some 5, .mov (.t 43), none⟩])
       (.seq (.region [⟨some 44, .mov (.t 5), none⟩,
           ⟨some 45, .bin .neq (.t 44) (.c (.int Go.IntKind.i64 0)), none⟩])
        (.cond (.t 45)
         (.seq (.region [⟨some 46, .mov (.t 5), none⟩,
             ⟨some 2, .mov (.t 46), none⟩])
          (.ret))
         (.skip))))))
    (.region [⟨some 47, .bin .add (.t 37) (.c (.int Go.IntKind.i64 1)), none⟩,
       ⟨some 37, .mov (.t 47), none⟩])))

def xPS : ACode := xHv
def xJy : List Nat := [0, 3, 4, 5, 6, 7, 8, 9, 10, 11, 12, 13, 14, 15, 16, 17, 18, 19, 20, 21, 22, 23, 24, 25, 26, 27, 28, 29, 30, 31, 32, 33, 34, 35, 38, 39, 40, 41, 42, 43, 44, 45, 46, 47, 48, 49, 50, 51, 52, 53, 54, 55, 56, 57, 58, 59, 60, 61, 62, 63, 64, 65, 66, 67, 68, 69, 70, 71, 72, 73, 74, 75, 76, 77, 78, 79, 80, 81, 82, 83, 84, 85, 86]
abbrev xHw (s1 s2 s36 s37 : AV) : List AV := [.any, s1, s2, .any, .any, .any, .any, .any, .any, .any, .any, .any, .any, .any, .any, .any, .any, .any, .any, .any, .any, .any, .any, .any, .any, .any, .any, .any, .any, .any, .any, .any, .any, .any, .any, .any, s36, s37, .any, .any, .any, .any, .any, .any, .any, .any, .any, .any, .any, .any, .any, .any, .any, .any, .any, .any, .any, .any, .any, .any, .any, .any, .any, .any, .any, .any, .any, .any, .any, .any, .any, .any, .any, .any, .any, .any, .any, .any, .any, .any, .any, .any, .any, .any, .any, .any, .any]
theorem xGy (s0 s1 s2 s3 s4 s5 s6 s7 s8 s9 s10 s11 s12 s13 s14 s15 s16 s17 s18 s19 s20 s21 s22 s23 s24 s25 s26 s27 s28 s29 s30 s31 s32 s33 s34 s35 s36 s37 s38 s39 s40 s41 s42 s43 s44 s45 s46 s47 s48 s49 s50 s51 s52 s53 s54 s55 s56 s57 s58 s59 s60 s61 s62 s63 s64 s65 s66 s67 s68 s69 s70 s71 s72 s73 s74 s75 s76 s77 s78 s79 s80 s81 s82 s83 s84 s85 s86 : AV) : xBw xJy [s0, s1, s2, s3, s4, s5, s6, s7, s8, s9, s10, s11, s12, s13, s14, s15, s16, s17, s18, s19, s20, s21, s22, s23, s24, s25, s26, s27, s28, s29, s30, s31, s32, s33, s34, s35, s36, s37, s38, s39, s40, s41, s42, s43, s44, s45, s46, s47, s48, s49, s50, s51, s52, s53, s54, s55, s56, s57, s58, s59, s60, s61, s62, s63, s64, s65, s66, s67, s68, s69, s70, s71, s72, s73, s74, s75, s76, s77, s78, s79, s80, s81, s82, s83, s84, s85, s86] = xHw s1 s2 s36 s37 := by kernel_rfl
theorem xJz {prog : Nat → Option AFunc} (s1 s2 s36 s37 : AV) (H : xAA) : (lim prog).loop xJy xPS ⟨xHw s1 s2 s36 s37, H⟩ = xCh (lim prog) xJy xPS (run (lim prog) xHv ⟨xHw s1 s2 s36 s37, H⟩) := xAS _ _ _ _ (by kernel_rfl)

def xHx : ACode :=
  .seq (.region [⟨some 52, .bin .lss (.t 51) (.t 50), none⟩])
  (.seq (.cond (.t 52)
    (.skip)
    (.exit 3))
   (.seq (.block 4 (.seq (.region [⟨some 53, .iaddr 5 (.t 49) (.t 51), none⟩,
         ⟨some 54, .load true 5 (.t 53), none⟩,
         ⟨some 7, .box (.c (.agg [.int Go.IntKind.i64 0, .int Go.IntKind.i64 0, .int Go.IntKind.i64 0, .int Go.IntKind.u8 0, .int Go.IntKind.u8 0])), none⟩,
         ⟨none, .store 5 (.t 7) (.t 54), none⟩])
      (.seq (.seq (.region [⟨some 55, .faddr 0 (.t 7), none⟩,
           ⟨some 56, .load false 1 (.t 55), none⟩,
           ⟨some 57, .faddr 1 (.t 7), none⟩,
           ⟨some 58, .load false 1 (.t 57), none⟩,
           ⟨some 59, .faddr 2 (.t 7), none⟩,
           ⟨some 60, .load false 1 (.t 59), none⟩,
           ⟨some 61, .mm false [(.t 56), (.t 58), (.t 60)], none⟩,
           ⟨some 62, .bin .lss (.t 61) (.c (.int Go.IntKind.i64 0)), none⟩,
           ⟨some 63, .mov (.t 62), none⟩,
           ⟨some 64, .faddr 0 (.t 7), some (63, false)⟩,
           ⟨some 65, .load false 1 (.t 64), some (63, false)⟩,
           ⟨some 66, .faddr 1 (.t 7), some (63, false)⟩,
           ⟨some 67, .load false 1 (.t 66), some (63, false)⟩,
           ⟨some 68, .faddr 2 (.t 7), some (63, false)⟩,
           ⟨some 69, .load false 1 (.t 68), some (63, false)⟩,
           ⟨some 70, .mm true [(.t 65), (.t 67), (.t 69)], some (63, false)⟩,
           ⟨some 71, .faddr 1 (.t 1), some (63, false)⟩,
           ⟨some 72, .load false 1 (.t 71), some (63, false)⟩,
           ⟨some 73, .bin .geq (.t 70) (.t 72), some (63, false)⟩,
           ⟨some 74, .pick (.t 63) (.c (.bool true)) (.t 73), none⟩])
        (.cond (.t 74)
         (.seq (.region [⟨some 2, .mov (.c (.int Go.IntKind.i64 8)), none⟩])
          (.ret))
         (.skip)))
       (.seq (.region [⟨some 75, .faddr 3 (.t 7), none⟩,
           ⟨some 76, .load false 1 (.t 75), none⟩,
           ⟨some 77, .faddr 4 (.t 7), none⟩,
           ⟨some 78, .load false 1 (.t 77), none⟩,
           ⟨some 79, .build [.int Go.IntKind.u8 0, .int Go.IntKind.u8 0] [(0, 1, (.t 76)), (1, 1, (.t 78))], none⟩,
           ⟨some 80, .faddr 0 (.t 1), none⟩,
           ⟨some 81, .load false 1 (.t 80), none⟩,
           ⟨some 82, .call 90 [(.t 79), (.t 81)], none⟩,
           ⟨some 8, .mov (.t 82), none⟩])
        (.seq (.region [⟨some 83, .mov (.t 8), none⟩,
            ⟨some 84, .bin .neq (.t 83) (.c (.int Go.IntKind.i64 0)), none⟩])
         (.cond (.t 84)
          (.seq (.region [⟨some 85, .mov (.t 8), none⟩,
              ⟨some 2, .mov (.t 85), none⟩])
           (.ret))
          (.skip)))))))
    (.region [⟨some 86, .bin .add (.t 51) (.c (.int Go.IntKind.i64 1)), none⟩,
       ⟨some 51, .mov (.t 86), none⟩])))

def xSt : ACode := xHx
def xK4 : List Nat := [0, 3, 4, 5, 6, 7, 8, 9, 10, 11, 12, 13, 14, 15, 16, 17, 18, 19, 20, 21, 22, 23, 24, 25, 26, 27, 28, 29, 30, 31, 32, 33, 34, 35, 36, 37, 38, 39, 40, 41, 42, 43, 44, 45, 46, 47, 48, 52, 53, 54, 55, 56, 57, 58, 59, 60, 61, 62, 63, 64, 65, 66, 67, 68, 69, 70, 71, 72, 73, 74, 75, 76, 77, 78, 79, 80, 81, 82, 83, 84, 85, 86]
abbrev xJA (s1 s2 s49 s50 s51 : AV) : List AV := [.any, s1, s2, .any, .any, .any, .any, .any, .any, .any, .any, .any, .any, .any, .any, .any, .any, .any, .any, .any, .any, .any, .any, .any, .any, .any, .any, .any, .any, .any, .any, .any, .any, .any, .any, .any, .any, .any, .any, .any, .any, .any, .any, .any, .any, .any, .any, .any, .any, s49, s50, s51, .any, .any, .any, .any, .any, .any, .any, .any, .any, .any, .any, .any, .any, .any, .any, .any, .any, .any, .any, .any, .any, .any, .any, .any, .any, .any, .any, .any, .any, .any, .any, .any, .any, .any, .any]
theorem xHy (s0 s1 s2 s3 s4 s5 s6 s7 s8 s9 s10 s11 s12 s13 s14 s15 s16 s17 s18 s19 s20 s21 s22 s23 s24 s25 s26 s27 s28 s29 s30 s31 s32 s33 s34 s35 s36 s37 s38 s39 s40 s41 s42 s43 s44 s45 s46 s47 s48 s49 s50 s51 s52 s53 s54 s55 s56 s57 s58 s59 s60 s61 s62 s63 s64 s65 s66 s67 s68 s69 s70 s71 s72 s73 s74 s75 s76 s77 s78 s79 s80 s81 s82 s83 s84 s85 s86 : AV) : xBw xK4 [s0, s1, s2, s3, s4, s5, s6, s7, s8, s9, s10, s11, s12, s13, s14, s15, s16, s17, s18, s19, s20, s21, s22, s23, s24, s25, s26, s27, s28, s29, s30, s31, s32, s33, s34, s35, s36, s37, s38, s39, s40, s41, s42, s43, s44, s45, s46, s47, s48, s49, s50, s51, s52, s53, s54, s55, s56, s57, s58, s59, s60, s61, s62, s63, s64, s65, s66, s67, s68, s69, s70, s71, s72, s73, s74, s75, s76, s77, s78, s79, s80, s81, s82, s83, s84, s85, s86] = xJA s1 s2 s49 s50 s51 := by kernel_rfl
theorem xK5 {prog : Nat → Option AFunc} (s1 s2 s49 s50 s51 : AV) (H : xAA) : (lim prog).loop xK4 xSt ⟨xJA s1 s2 s49 s50 s51, H⟩ = xCh (lim prog) xK4 xSt (run (lim prog) xHx ⟨xJA s1 s2 s49 s50 s51, H⟩) := xAS _ _ _ _ (by kernel_rfl)

def a45 : AFunc := ⟨87,
  .seq (.region [⟨some 1, .box (.t 0), none⟩,
     ⟨some 2, .mov (.c (.int Go.IntKind.i64 0)), none⟩])
  (.seq (.block 0 (.seq (.region [⟨some 10, .faddr 0 (.t 1), none⟩,
        ⟨some 11, .load false 1 (.t 10), none⟩,
        ⟨some 12, .bin .lss (.t 11) (.c (.int Go.IntKind.i64 0)), none⟩,
        ⟨some 13, .mov (.t 12), none⟩,
        ⟨some 14, .faddr 0 (.t 1), some (13, false)⟩,
        ⟨some 15, .load false 1 (.t 14), some (13, false)⟩,
        ⟨some 16, .bin .gtr (.t 15) (.c (.int Go.IntKind.i64 3)), some (13, false)⟩,
        ⟨some 17, .pick (.t 13) (.c (.bool true)) (.t 16), none⟩,
        ⟨some 9, .mov (.t 17), none⟩])
     (.cond (.t 9)
      (.seq (.region [⟨some 2, .mov (.c (.int Go.IntKind.i64 7)), none⟩])
       (.ret))
      (.seq (.region [⟨some 19, .faddr 1 (.t 1), none⟩,
          ⟨some 20, .load false 1 (.t 19), none⟩,
          ⟨some 21, .bin .lss (.t 20) (.c (.int Go.IntKind.i64 0)), none⟩,
          ⟨some 18, .mov (.t 21), none⟩])
       (.cond (.t 18)
        (.seq (.region [⟨some 2, .mov (.c (.int Go.IntKind.i64 1)), none⟩])
         (.ret))
        (.seq (.region [⟨some 23, .faddr 1 (.t 1), none⟩,
            ⟨some 24, .load false 1 (.t 23), none⟩,
            ⟨some 25, .bin .gtr (.t 24) (.c (.int Go.IntKind.i64 64)), none⟩,
            ⟨some 26, .mov (.t 25), none⟩,
            ⟨some 27, .faddr 4 (.t 1), some (26, false)⟩,
            ⟨some 28, .load false 1 (.t 27), some (26, false)⟩,
            ⟨some 29, .len (.t 28), some (26, false)⟩,
            ⟨some 30, .bin .gtr (.t 29) (.c (.int Go.IntKind.i64 512)), some (26, false)⟩,
            ⟨some 31, .pick (.t 26) (.c (.bool true)) (.t 30), none⟩,
            ⟨some 22, .mov (.t 31), none⟩])
         (.cond (.t 22)
          (.seq (.region [⟨some 2, .mov (.c (.int Go.IntKind.i64 4)), none⟩])
           (.ret))
          (.skip))))))))
   (.seq (.seq (.region [⟨some 32, .faddr 2 (.t 1), none⟩,
        ⟨some 33, .load false 1 (.t 32), none⟩,
        ⟨some 34, .faddr 3 (.t 1), none⟩,
        ⟨some 35, .load false 1 (.t 34), none⟩,
        ⟨some 36, .build [.sl true 0 [], .sl true 0 []] [(0, 1, (.t 33)), (1, 1, (.t 35))], none⟩,
        ⟨some 37, .mov (.c (.int Go.IntKind.i64 0)), none⟩])
     (.block 1 (.loop xJy xPS)))
    (.seq (.seq (.region [⟨some 48, .faddr 4 (.t 1), none⟩,
         ⟨some 49, .load false 1 (.t 48), none⟩,
         ⟨some 50, .len (.t 49), none⟩,
         ⟨some 51, .mov (.c (.int Go.IntKind.i64 0)), none⟩])
      (.block 3 (.loop xK4 xSt)))
     (.seq (.region [⟨some 2, .mov (.c (.int Go.IntKind.i64 0)), none⟩])
      (.ret))))),
  [.tmp 2]⟩

def a47 : AFunc := ⟨5,
  .seq (.region [⟨some 2, .mov (.c (.sl true 0 [])), none⟩])
  (.seq (.region [⟨some 3, .mov (.t 0), none⟩,
      ⟨some 4, .append false 1 8 (.c (.sl true 0 [])) (.t 3), none⟩,
      ⟨some 2, .mov (.t 4), none⟩])
   (.ret)),
  [.tmp 2]⟩

def a48 : AFunc := ⟨17,
  .seq (.region [⟨some 2, .box (.t 0), none⟩,
     ⟨some 4, .mov (.c (.sl true 0 [])), none⟩,
     ⟨some 5, .mov (.c (.int Go.IntKind.i64 0)), none⟩])
  (.seq (.seq (.region [⟨some 7, .load true 5 (.t 2), none⟩,
       ⟨some 8, .mov (.t 1), none⟩,
       ⟨some 9, .call 86 [(.t 7), (.t 8)], none⟩,
       ⟨some 6, .mov (.t 9), none⟩])
    (.seq (.region [⟨some 10, .mov (.t 6), none⟩,
        ⟨some 11, .bin .neq (.t 10) (.c (.int Go.IntKind.i64 0)), none⟩])
     (.cond (.t 11)
      (.seq (.region [⟨some 12, .mov (.t 6), none⟩,
          ⟨some 4, .mov (.c (.sl true 0 [])), none⟩,
          ⟨some 5, .mov (.t 12), none⟩])
       (.ret))
      (.skip))))
   (.seq (.region [⟨some 13, .load true 5 (.t 2), none⟩,
       ⟨some 14, .mov (.t 1), none⟩,
       ⟨some 15, .call 87 [(.t 13), (.t 14)], none⟩,
       ⟨some 16, .call 93 [(.t 15)], none⟩,
       ⟨some 4, .mov (.t 16), none⟩,
       ⟨some 5, .mov (.c (.int Go.IntKind.i64 0)), none⟩])
    (.ret))),
  [.tmp 4, .tmp 5]⟩

def a49 : AFunc := ⟨10,
  .seq (.region [⟨some 4, .mov (.c (.bool false)), none⟩])
  (.seq (.region [⟨some 5, .mov (.t 0), none⟩,
      ⟨some 6, .call 95 [(.t 5)], none⟩,
      ⟨some 7, .mov (.t 1), none⟩,
      ⟨some 8, .call 95 [(.t 7)], none⟩,
      ⟨some 9, .call 94 [(.t 6), (.t 8)], none⟩,
      ⟨some 4, .mov (.t 9), none⟩])
   (.ret)),
  [.tmp 4]⟩

def xNG : ACode :=
  .seq (.region [⟨some 8, .bin .lss (.t 7) (.t 6), none⟩])
  (.seq (.cond (.t 8)
    (.skip)
    (.exit 0))
   (.seq (.block 1 (.seq (.region [⟨some 9, .iaddr 1 (.t 5) (.t 7), none⟩,
         ⟨some 10, .load false 1 (.t 9), none⟩,
         ⟨some 4, .mov (.t 10), none⟩])
      (.region [⟨some 11, .mov (.t 2), none⟩,
         ⟨some 12, .mov (.t 4), none⟩,
         ⟨some 13, .call 96 [(.t 11), (.t 12)], none⟩,
         ⟨some 2, .mov (.t 13), none⟩])))
    (.region [⟨some 14, .bin .add (.t 7) (.c (.int Go.IntKind.i64 1)), none⟩,
       ⟨some 7, .mov (.t 14), none⟩])))

def xPT : ACode := xNG
def xJB : List Nat := [0, 1, 3, 4, 8, 9, 10, 11, 12, 13, 14, 15]
abbrev xJC (s2 s5 s6 s7 : AV) : List AV := [.any, .any, s2, .any, .any, s5, s6, s7, .any, .any, .any, .any, .any, .any, .any, .any]
theorem xPU (s0 s1 s2 s3 s4 s5 s6 s7 s8 s9 s10 s11 s12 s13 s14 s15 : AV) : xBw xJB [s0, s1, s2, s3, s4, s5, s6, s7, s8, s9, s10, s11, s12, s13, s14, s15] = xJC s2 s5 s6 s7 := by kernel_rfl
theorem xUp {prog : Nat → Option AFunc} (s2 s5 s6 s7 : AV) (H : xAA) : (lim prog).loop xJB xPT ⟨xJC s2 s5 s6 s7, H⟩ = xCh (lim prog) xJB xPT (run (lim prog) xNG ⟨xJC s2 s5 s6 s7, H⟩) := xAS _ _ _ _ (by kernel_rfl)

def a50 : AFunc := ⟨16,
  .seq (.region [⟨some 2, .mov (.c (.sl true 0 [])), none⟩])
  (.seq (.seq (.region [⟨some 5, .mov (.t 0), none⟩,
       ⟨some 6, .len (.t 5), none⟩,
       ⟨some 7, .mov (.c (.int Go.IntKind.i64 0)), none⟩])
    (.block 0 (.loop xJB xPT)))
   (.seq (.region [⟨some 15, .mov (.t 2), none⟩,
       ⟨some 2, .mov (.t 15), none⟩])
    (.ret))),
  [.tmp 2]⟩

def a52 : AFunc := ⟨11,
  .seq (.region [⟨some 3, .mov (.c (.bool false)), none⟩])
  (.seq (.region [⟨some 4, .mov (.t 0), none⟩,
      ⟨some 5, .bin .geq (.t 4) (.c (.int Go.IntKind.i64 0)), none⟩,
      ⟨some 6, .mov (.t 5), none⟩,
      ⟨some 7, .mov (.t 0), some (6, true)⟩,
      ⟨some 8, .load false 1 (.t 1), some (6, true)⟩,
      ⟨some 9, .bin .lss (.t 7) (.t 8), some (6, true)⟩,
      ⟨some 10, .pick (.t 6) (.t 9) (.c (.bool false)), none⟩,
      ⟨some 3, .mov (.t 10), none⟩])
   (.ret)),
  [.tmp 3]⟩

def a53 : AFunc := ⟨15,
  .seq (.region [⟨some 2, .box (.t 0), none⟩,
     ⟨some 4, .mov (.c (.int Go.IntKind.i64 0)), none⟩])
  (.seq (.seq (.region [⟨some 6, .load true 4 (.t 2), none⟩,
       ⟨some 7, .call 14 [(.t 6)], none⟩,
       ⟨some 5, .mov (.t 7), none⟩])
    (.seq (.region [⟨some 8, .mov (.t 5), none⟩,
        ⟨some 9, .bin .neq (.t 8) (.c (.int Go.IntKind.i64 0)), none⟩])
     (.cond (.t 9)
      (.seq (.region [⟨some 10, .mov (.t 5), none⟩,
          ⟨some 4, .mov (.t 10), none⟩])
       (.ret))
      (.skip))))
   (.seq (.region [⟨some 11, .mov (.t 1), none⟩,
       ⟨some 12, .faddr 0 (.t 2), none⟩,
       ⟨some 13, .load false 1 (.t 12), none⟩,
       ⟨some 14, .call 99 [(.t 11), (.t 13)], none⟩,
       ⟨some 4, .mov (.t 14), none⟩])
    (.ret))),
  [.tmp 4]⟩

def xNH : ACode :=
  .seq (.seq (.region [⟨some 22, .mov (.t 8), none⟩,
      ⟨some 23, .bin .geq (.t 22) (.c (.int Go.IntKind.i64 0)), none⟩])
   (.cond (.t 23)
    (.skip)
    (.exit 0)))
  (.seq (.block 1 (.draw 27 [⟨some 26, .load false 1 (.t 6), none⟩,
       ⟨some 27, .mov (.t 8), none⟩,
       ⟨some 28, .faddr 2 (.t 2), none⟩,
       ⟨some 29, .load false 1 (.t 28), none⟩,
       ⟨some 30, .mov (.t 7), none⟩,
       ⟨some 31, .mov (.t 1), none⟩,
       ⟨some 32, .mov (.t 8), none⟩,
       ⟨some 33, .iaddr 3 (.t 31) (.t 32), none⟩,
       ⟨some 34, .faddr 1 (.t 33), none⟩,
       ⟨some 35, .load false 1 (.t 34), none⟩,
       ⟨some 36, .fcall (.t 30) [(.t 35)], none⟩,
       ⟨some 37, .iaddr 1 (.t 29) (.t 36), none⟩,
       ⟨some 38, .load false 1 (.t 37), none⟩,
       ⟨some 39, .mov (.t 7), none⟩,
       ⟨some 40, .mov (.t 1), none⟩,
       ⟨some 41, .mov (.t 8), none⟩,
       ⟨some 42, .iaddr 3 (.t 40) (.t 41), none⟩,
       ⟨some 43, .faddr 2 (.t 42), none⟩,
       ⟨some 44, .load false 1 (.t 43), none⟩,
       ⟨some 45, .fcall (.t 39) [(.t 44)], none⟩,
       ⟨some 46, .iaddr 1 (.t 38) (.t 45), none⟩,
       ⟨some 47, .load false 1 (.t 46), none⟩,
       ⟨some 48, .mov (.t 1), none⟩,
       ⟨some 49, .mov (.t 8), none⟩,
       ⟨some 50, .iaddr 3 (.t 48) (.t 49), none⟩,
       ⟨some 51, .faddr 0 (.t 50), none⟩,
       ⟨some 52, .load false 1 (.t 51), none⟩,
       ⟨some 53, .iaddr 1 (.t 47) (.t 52), none⟩,
       ⟨some 54, .load false 1 (.t 53), none⟩,
       ⟨some 55, .iaddr 1 (.t 26) (.t 27), none⟩,
       ⟨none, .store 1 (.t 55) (.t 54), none⟩]))
   (.region [⟨some 24, .mov (.t 8), none⟩,
      ⟨some 25, .bin .sub (.t 24) (.c (.int Go.IntKind.i64 1)), none⟩,
      ⟨some 8, .mov (.t 25), none⟩]))

def xSu : ACode := xNH
def xK6 : List Nat := [0, 3, 4, 5, 9, 10, 11, 12, 13, 14, 15, 16, 17, 18, 19, 20, 21, 22, 23, 24, 25, 26, 27, 28, 29, 30, 31, 32, 33, 34, 35, 36, 37, 38, 39, 40, 41, 42, 43, 44, 45, 46, 47, 48, 49, 50, 51, 52, 53, 54, 55, 56]
abbrev xK7 (s1 s2 s6 s7 s8 : AV) : List AV := [.any, s1, s2, .any, .any, .any, s6, s7, s8, .any, .any, .any, .any, .any, .any, .any, .any, .any, .any, .any, .any, .any, .any, .any, .any, .any, .any, .any, .any, .any, .any, .any, .any, .any, .any, .any, .any, .any, .any, .any, .any, .any, .any, .any, .any, .any, .any, .any, .any, .any, .any, .any, .any, .any, .any, .any, .any]
theorem xPV (s0 s1 s2 s3 s4 s5 s6 s7 s8 s9 s10 s11 s12 s13 s14 s15 s16 s17 s18 s19 s20 s21 s22 s23 s24 s25 s26 s27 s28 s29 s30 s31 s32 s33 s34 s35 s36 s37 s38 s39 s40 s41 s42 s43 s44 s45 s46 s47 s48 s49 s50 s51 s52 s53 s54 s55 s56 : AV) : xBw xK6 [s0, s1, s2, s3, s4, s5, s6, s7, s8, s9, s10, s11, s12, s13, s14, s15, s16, s17, s18, s19, s20, s21, s22, s23, s24, s25, s26, s27, s28, s29, s30, s31, s32, s33, s34, s35, s36, s37, s38, s39, s40, s41, s42, s43, s44, s45, s46, s47, s48, s49, s50, s51, s52, s53, s54, s55, s56] = xK7 s1 s2 s6 s7 s8 := by kernel_rfl
theorem xUq {prog : Nat → Option AFunc} (s1 s2 s6 s7 s8 : AV) (H : xAA) : (lim prog).loop xK6 xSu ⟨xK7 s1 s2 s6 s7 s8, H⟩ = xCh (lim prog) xK6 xSu (run (lim prog) xNH ⟨xK7 s1 s2 s6 s7 s8, H⟩) := xAS _ _ _ _ (by kernel_rfl)

def a54 : AFunc := ⟨57,
  .seq (.region [⟨some 2, .box (.t 0), none⟩,
     ⟨some 4, .mov (.c (.sl true 0 [])), none⟩])
  (.seq (.region [⟨some 9, .mov (.t 1), none⟩,
      ⟨some 10, .len (.t 9), none⟩,
      ⟨some 5, .box (.c (.int Go.IntKind.i64 0)), none⟩,
      ⟨none, .store 1 (.t 5) (.t 10), none⟩])
   (.seq (.region [⟨some 11, .load false 1 (.t 5), none⟩,
       ⟨some 12, .bin .add (.t 11) (.c (.int Go.IntKind.i64 1)), none⟩,
       ⟨some 13, .mkslice false [.int Go.IntKind.i64 0] 8 (.t 12) (.t 12), none⟩,
       ⟨some 6, .box (.c (.sl true 0 [])), none⟩,
       ⟨none, .store 1 (.t 6) (.t 13), none⟩])
    (.seq (.region [⟨some 14, .load false 1 (.t 6), none⟩,
        ⟨some 15, .load false 1 (.t 5), none⟩,
        ⟨some 16, .faddr 1 (.t 2), none⟩,
        ⟨some 17, .load false 1 (.t 16), none⟩,
        ⟨some 18, .iaddr 1 (.t 14) (.t 15), none⟩,
        ⟨none, .store 1 (.t 18) (.t 17), none⟩])
     (.seq (.region [⟨some 19, .mkfunc 100 [(.t 5), (.t 6)], none⟩,
         ⟨some 7, .mov (.t 19), none⟩])
      (.seq (.seq (.region [⟨some 20, .load false 1 (.t 5), none⟩,
           ⟨some 21, .bin .sub (.t 20) (.c (.int Go.IntKind.i64 1)), none⟩,
           ⟨some 8, .mov (.t 21), none⟩])
        (.block 0 (.loop xK6 xSu)))
       (.seq (.region [⟨some 56, .load false 1 (.t 6), none⟩,
           ⟨some 4, .mov (.t 56), none⟩])
        (.ret))))))),
  [.tmp 4]⟩

def a56 : AFunc := ⟨23,
  .seq (.region [⟨some 1, .box (.t 0), none⟩,
     ⟨some 2, .box (.c (.agg [.int Go.IntKind.i64 0, .int Go.IntKind.i64 0, .sl true 0 [], .sl true 0 []])), none⟩])
  (.seq (.region [⟨some 5, .mkmap, none⟩,
      ⟨some 6, .faddr 1 (.t 1), none⟩,
      ⟨some 7, .load false 1 (.t 6), none⟩,
      ⟨none, .mupd [0] (.t 5) (.t 7) (.c (.int Go.IntKind.i64 0)), none⟩,
      ⟨some 8, .mov (.t 5), none⟩,
      ⟨some 3, .box (.c (.nilm)), none⟩,
      ⟨none, .store 1 (.t 3) (.t 8), none⟩])
   (.seq (.region [⟨some 9, .faddr 1 (.t 1), none⟩,
       ⟨some 10, .load false 1 (.t 9), none⟩,
       ⟨some 11, .bslice false [.int Go.IntKind.i64 0] 1 1 [(0, (.t 10))], none⟩,
       ⟨some 4, .box (.c (.sl true 0 [])), none⟩,
       ⟨none, .store 1 (.t 4) (.t 11), none⟩])
    (.seq (.region [⟨some 12, .faddr 0 (.t 1), none⟩,
        ⟨some 13, .load false 1 (.t 12), none⟩,
        ⟨some 14, .mkfunc 102 [(.t 1), (.t 4), (.t 3)], none⟩,
        ⟨some 15, .icall (.c (.func 75 [])) [(.t 13), (.t 14)], none⟩])
     (.seq (.region [⟨some 16, .faddr 0 (.t 1), none⟩,
         ⟨some 17, .load false 1 (.t 16), none⟩,
         ⟨some 18, .load false 1 (.t 4), none⟩,
         ⟨some 19, .len (.t 18), none⟩,
         ⟨some 20, .mkfunc 103 [(.t 3), (.t 1), (.t 4)], none⟩,
         ⟨some 21, .mkfunc 104 [(.t 1), (.t 4)], none⟩,
         ⟨some 22, .icall (.c (.func 61 [])) [(.t 17), (.t 19), (.t 20), (.t 21)], none⟩,
         ⟨none, .store 4 (.t 2) (.t 22), none⟩])
      (.ret))))),
  [.cell 2 true 4]⟩

def xUr : ACode :=
  .seq (.region [⟨some 52, .bin .lss (.t 51) (.t 50), none⟩])
  (.seq (.cond (.t 52)
    (.skip)
    (.exit 6))
   (.seq (.block 7 (.seq (.region [⟨some 53, .mov (.t 51), none⟩,
         ⟨some 10, .mov (.t 53), none⟩])
      (.seq (.region [⟨some 54, .mov (.t 8), none⟩,
          ⟨some 55, .faddr 2 (.t 1), none⟩,
          ⟨some 56, .load false 1 (.t 55), none⟩,
          ⟨some 57, .mov (.t 6), none⟩,
          ⟨some 58, .iaddr 1 (.t 56) (.t 57), none⟩,
          ⟨some 59, .load false 1 (.t 58), none⟩,
          ⟨some 60, .mov (.t 9), none⟩,
          ⟨some 61, .iaddr 1 (.t 59) (.t 60), none⟩,
          ⟨some 62, .load false 1 (.t 61), none⟩,
          ⟨some 63, .mov (.t 10), none⟩,
          ⟨some 64, .iaddr 1 (.t 62) (.t 63), none⟩,
          ⟨some 65, .load false 1 (.t 64), none⟩,
          ⟨some 66, .icall (.t 54) [(.t 65)], none⟩])
       (.region [⟨some 67, .mov (.t 8), none⟩,
          ⟨some 68, .faddr 2 (.t 1), none⟩,
          ⟨some 69, .load false 1 (.t 68), none⟩,
          ⟨some 70, .mov (.t 9), none⟩,
          ⟨some 71, .iaddr 1 (.t 69) (.t 70), none⟩,
          ⟨some 72, .load false 1 (.t 71), none⟩,
          ⟨some 73, .mov (.t 6), none⟩,
          ⟨some 74, .iaddr 1 (.t 72) (.t 73), none⟩,
          ⟨some 75, .load false 1 (.t 74), none⟩,
          ⟨some 76, .mov (.t 10), none⟩,
          ⟨some 77, .iaddr 1 (.t 75) (.t 76), none⟩,
          ⟨some 78, .load false 1 (.t 77), none⟩,
          ⟨some 79, .icall (.t 67) [(.t 78)], none⟩]))))
    (.region [⟨some 80, .bin .add (.t 51) (.c (.int Go.IntKind.i64 1)), none⟩,
       ⟨some 51, .mov (.t 80), none⟩])))

def xVq : ACode := xUr
def xNI : List Nat := [0, 10, 11, 12, 13, 14, 15, 16, 17, 18, 19, 20, 21, 24, 25, 26, 27, 28, 29, 30, 31, 32, 33, 34, 35, 36, 37, 40, 41, 42, 43, 44, 45, 46, 47, 48, 49, 52, 53, 54, 55, 56, 57, 58, 59, 60, 61, 62, 63, 64, 65, 66, 67, 68, 69, 70, 71, 72, 73, 74, 75, 76, 77, 78, 79, 80, 81, 82, 83, 84, 85, 86, 87, 88, 89, 90, 91, 92, 93, 94, 95, 96, 97, 98, 99, 100, 101, 102, 103, 104, 105, 106, 107, 108, 109, 110]
abbrev xPW (s1 s2 s3 s4 s5 s6 s7 s8 s9 s22 s23 s38 s39 s50 s51 : AV) : List AV := [.any, s1, s2, s3, s4, s5, s6, s7, s8, s9, .any, .any, .any, .any, .any, .any, .any, .any, .any, .any, .any, .any, s22, s23, .any, .any, .any, .any, .any, .any, .any, .any, .any, .any, .any, .any, .any, .any, s38, s39, .any, .any, .any, .any, .any, .any, .any, .any, .any, .any, s50, s51, .any, .any, .any, .any, .any, .any, .any, .any, .any, .any, .any, .any, .any, .any, .any, .any, .any, .any, .any, .any, .any, .any, .any, .any, .any, .any, .any, .any, .any, .any, .any, .any, .any, .any, .any, .any, .any, .any, .any, .any, .any, .any, .any, .any, .any, .any, .any, .any, .any, .any, .any, .any, .any, .any, .any, .any, .any, .any, .any]
theorem yCz (s0 s1 s2 s3 s4 s5 s6 s7 s8 s9 s10 s11 s12 s13 s14 s15 s16 s17 s18 s19 s20 s21 s22 s23 s24 s25 s26 s27 s28 s29 s30 s31 s32 s33 s34 s35 s36 s37 s38 s39 s40 s41 s42 s43 s44 s45 s46 s47 s48 s49 s50 s51 s52 s53 s54 s55 s56 s57 s58 s59 s60 s61 s62 s63 s64 s65 s66 s67 s68 s69 s70 s71 s72 s73 s74 s75 s76 s77 s78 s79 s80 s81 s82 s83 s84 s85 s86 s87 s88 s89 s90 s91 s92 s93 s94 s95 s96 s97 s98 s99 s100 s101 s102 s103 s104 s105 s106 s107 s108 s109 s110 : AV) : xBw xNI [s0, s1, s2, s3, s4, s5, s6, s7, s8, s9, s10, s11, s12, s13, s14, s15, s16, s17, s18, s19, s20, s21, s22, s23, s24, s25, s26, s27, s28, s29, s30, s31, s32, s33, s34, s35, s36, s37, s38, s39, s40, s41, s42, s43, s44, s45, s46, s47, s48, s49, s50, s51, s52, s53, s54, s55, s56, s57, s58, s59, s60, s61, s62, s63, s64, s65, s66, s67, s68, s69, s70, s71, s72, s73, s74, s75, s76, s77, s78, s79, s80, s81, s82, s83, s84, s85, s86, s87, s88, s89, s90, s91, s92, s93, s94, s95, s96, s97, s98, s99, s100, s101, s102, s103, s104, s105, s106, s107, s108, s109, s110] = xPW s1 s2 s3 s4 s5 s6 s7 s8 s9 s22 s23 s38 s39 s50 s51 := by kernel_rfl
theorem yCA {prog : Nat → Option AFunc} (s1 s2 s3 s4 s5 s6 s7 s8 s9 s22 s23 s38 s39 s50 s51 : AV) (H : xAA) : (lim prog).loop xNI xVq ⟨xPW s1 s2 s3 s4 s5 s6 s7 s8 s9 s22 s23 s38 s39 s50 s51, H⟩ = xCh (lim prog) xNI xVq (run (lim prog) xUr ⟨xPW s1 s2 s3 s4 s5 s6 s7 s8 s9 s22 s23 s38 s39 s50 s51, H⟩) := xAS _ _ _ _ (by kernel_rfl)

def xUs : ACode :=
  .seq (.region [⟨some 40, .bin .lss (.t 39) (.t 38), none⟩])
  (.seq (.cond (.t 40)
    (.skip)
    (.exit 4))
   (.seq (.block 5 (.seq (.region [⟨some 41, .mov (.t 39), none⟩,
         ⟨some 9, .mov (.t 41), none⟩])
      (.seq (.region [⟨some 42, .faddr 2 (.t 1), none⟩,
          ⟨some 43, .load false 1 (.t 42), none⟩,
          ⟨some 44, .mov (.t 6), none⟩,
          ⟨some 45, .iaddr 1 (.t 43) (.t 44), none⟩,
          ⟨some 46, .load false 1 (.t 45), none⟩,
          ⟨some 47, .mov (.t 9), none⟩,
          ⟨some 48, .iaddr 1 (.t 46) (.t 47), none⟩,
          ⟨some 49, .load false 1 (.t 48), none⟩,
          ⟨some 50, .len (.t 49), none⟩,
          ⟨some 51, .mov (.c (.int Go.IntKind.i64 0)), none⟩])
       (.block 6 (.loop xNI xVq)))))
    (.region [⟨some 81, .bin .add (.t 39) (.c (.int Go.IntKind.i64 1)), none⟩,
       ⟨some 39, .mov (.t 81), none⟩])))

def xVr : ACode := xUs
def xNJ : List Nat := [0, 9, 10, 11, 12, 13, 14, 15, 16, 17, 18, 19, 20, 21, 24, 25, 26, 27, 28, 29, 30, 31, 32, 33, 34, 35, 36, 37, 40, 41, 42, 43, 44, 45, 46, 47, 48, 49, 50, 51, 52, 53, 54, 55, 56, 57, 58, 59, 60, 61, 62, 63, 64, 65, 66, 67, 68, 69, 70, 71, 72, 73, 74, 75, 76, 77, 78, 79, 80, 81, 82, 83, 84, 85, 86, 87, 88, 89, 90, 91, 92, 93, 94, 95, 96, 97, 98, 99, 100, 101, 102, 103, 104, 105, 106, 107, 108, 109, 110]
abbrev xPX (s1 s2 s3 s4 s5 s6 s7 s8 s22 s23 s38 s39 : AV) : List AV := [.any, s1, s2, s3, s4, s5, s6, s7, s8, .any, .any, .any, .any, .any, .any, .any, .any, .any, .any, .any, .any, .any, s22, s23, .any, .any, .any, .any, .any, .any, .any, .any, .any, .any, .any, .any, .any, .any, s38, s39, .any, .any, .any, .any, .any, .any, .any, .any, .any, .any, .any, .any, .any, .any, .any, .any, .any, .any, .any, .any, .any, .any, .any, .any, .any, .any, .any, .any, .any, .any, .any, .any, .any, .any, .any, .any, .any, .any, .any, .any, .any, .any, .any, .any, .any, .any, .any, .any, .any, .any, .any, .any, .any, .any, .any, .any, .any, .any, .any, .any, .any, .any, .any, .any, .any, .any, .any, .any, .any, .any, .any]
theorem yCB (s0 s1 s2 s3 s4 s5 s6 s7 s8 s9 s10 s11 s12 s13 s14 s15 s16 s17 s18 s19 s20 s21 s22 s23 s24 s25 s26 s27 s28 s29 s30 s31 s32 s33 s34 s35 s36 s37 s38 s39 s40 s41 s42 s43 s44 s45 s46 s47 s48 s49 s50 s51 s52 s53 s54 s55 s56 s57 s58 s59 s60 s61 s62 s63 s64 s65 s66 s67 s68 s69 s70 s71 s72 s73 s74 s75 s76 s77 s78 s79 s80 s81 s82 s83 s84 s85 s86 s87 s88 s89 s90 s91 s92 s93 s94 s95 s96 s97 s98 s99 s100 s101 s102 s103 s104 s105 s106 s107 s108 s109 s110 : AV) : xBw xNJ [s0, s1, s2, s3, s4, s5, s6, s7, s8, s9, s10, s11, s12, s13, s14, s15, s16, s17, s18, s19, s20, s21, s22, s23, s24, s25, s26, s27, s28, s29, s30, s31, s32, s33, s34, s35, s36, s37, s38, s39, s40, s41, s42, s43, s44, s45, s46, s47, s48, s49, s50, s51, s52, s53, s54, s55, s56, s57, s58, s59, s60, s61, s62, s63, s64, s65, s66, s67, s68, s69, s70, s71, s72, s73, s74, s75, s76, s77, s78, s79, s80, s81, s82, s83, s84, s85, s86, s87, s88, s89, s90, s91, s92, s93, s94, s95, s96, s97, s98, s99, s100, s101, s102, s103, s104, s105, s106, s107, s108, s109, s110] = xPX s1 s2 s3 s4 s5 s6 s7 s8 s22 s23 s38 s39 := by kernel_rfl
theorem yCC {prog : Nat → Option AFunc} (s1 s2 s3 s4 s5 s6 s7 s8 s22 s23 s38 s39 : AV) (H : xAA) : (lim prog).loop xNJ xVr ⟨xPX s1 s2 s3 s4 s5 s6 s7 s8 s22 s23 s38 s39, H⟩ = xCh (lim prog) xNJ xVr (run (lim prog) xUs ⟨xPX s1 s2 s3 s4 s5 s6 s7 s8 s22 s23 s38 s39, H⟩) := xAS _ _ _ _ (by kernel_rfl)

def xUt : ACode :=
  .seq (.region [⟨some 24, .bin .lss (.t 23) (.t 22), none⟩])
  (.seq (.cond (.t 24)
    (.skip)
    (.exit 2))
   (.seq (.block 3 (.seq (.region [⟨some 25, .mov (.t 23), none⟩,
         ⟨some 6, .mov (.t 25), none⟩])
      (.seq (.region [⟨some 26, .faddr 3 (.t 1), none⟩,
          ⟨some 27, .load false 1 (.t 26), none⟩,
          ⟨some 28, .mov (.t 6), none⟩,
          ⟨some 29, .iaddr 1 (.t 27) (.t 28), none⟩,
          ⟨some 30, .load false 1 (.t 29), none⟩,
          ⟨some 31, .call 105 [(.t 30)], none⟩,
          ⟨some 32, .sbytes false (.t 31), none⟩,
          ⟨some 7, .box (.c (.sl true 0 [])), none⟩,
          ⟨none, .store 1 (.t 7) (.t 32), none⟩])
       (.seq (.region [⟨some 33, .mkfunc 106 [(.t 7), (.t 2)], none⟩,
           ⟨some 8, .mov (.t 33), none⟩])
        (.seq (.region [⟨some 34, .mov (.t 8), none⟩,
            ⟨some 35, .mov (.t 6), none⟩,
            ⟨some 36, .icall (.t 34) [(.t 35)], none⟩])
         (.seq (.seq (.region [⟨some 37, .load false 1 (.t 2), none⟩,
              ⟨some 38, .len (.t 37), none⟩,
              ⟨some 39, .mov (.c (.int Go.IntKind.i64 0)), none⟩])
           (.block 4 (.loop xNJ xVr)))
          (.seq (.region [⟨some 83, .mov (.t 4), none⟩,
              ⟨some 84, .load false 1 (.t 7), none⟩,
              ⟨some 85, .bstr (.t 84), none⟩,
              ⟨some 86, .mlook [1] true (.int Go.IntKind.i64 0) (.t 83) (.t 85), none⟩,
              ⟨some 82, .mov (.t 86), none⟩,
              ⟨some 87, .ext 0 (.t 82), none⟩,
              ⟨some 88, .ext 1 (.t 82), none⟩,
              ⟨some 11, .mov (.t 87), none⟩,
              ⟨some 12, .mov (.t 88), none⟩])
           (.seq (.seq (.region [⟨some 89, .mov (.t 12), none⟩,
                ⟨some 90, .un .not (.t 89), none⟩])
             (.cond (.t 90)
              (.seq (.region [⟨some 91, .mov (.t 4), none⟩,
                  ⟨some 92, .mlen (.t 91), none⟩,
                  ⟨some 11, .mov (.t 92), none⟩])
               (.region [⟨some 93, .mov (.t 4), none⟩,
                  ⟨some 94, .load false 1 (.t 7), none⟩,
                  ⟨some 95, .bstr (.t 94), none⟩,
                  ⟨some 96, .mov (.t 11), none⟩,
                  ⟨none, .mupd [1] (.t 93) (.t 95) (.t 96), none⟩]))
              (.skip)))
            (.region [⟨some 97, .mov (.t 5), none⟩,
               ⟨some 98, .mov (.t 6), none⟩,
               ⟨some 99, .mov (.t 11), none⟩,
               ⟨some 100, .iaddr 1 (.t 97) (.t 98), none⟩,
               ⟨none, .store 1 (.t 100) (.t 99), none⟩])))))))))
    (.region [⟨some 101, .bin .add (.t 23) (.c (.int Go.IntKind.i64 1)), none⟩,
       ⟨some 23, .mov (.t 101), none⟩])))

def xVs : ACode := xUt
def xNK : List Nat := [0, 6, 7, 8, 9, 10, 11, 12, 13, 14, 15, 16, 17, 18, 19, 20, 21, 24, 25, 26, 27, 28, 29, 30, 31, 32, 33, 34, 35, 36, 37, 38, 39, 40, 41, 42, 43, 44, 45, 46, 47, 48, 49, 50, 51, 52, 53, 54, 55, 56, 57, 58, 59, 60, 61, 62, 63, 64, 65, 66, 67, 68, 69, 70, 71, 72, 73, 74, 75, 76, 77, 78, 79, 80, 81, 82, 83, 84, 85, 86, 87, 88, 89, 90, 91, 92, 93, 94, 95, 96, 97, 98, 99, 100, 101, 102, 103, 104, 105, 106, 107, 108, 109, 110]
abbrev xPY (s1 s2 s3 s4 s5 s22 s23 : AV) : List AV := [.any, s1, s2, s3, s4, s5, .any, .any, .any, .any, .any, .any, .any, .any, .any, .any, .any, .any, .any, .any, .any, .any, s22, s23, .any, .any, .any, .any, .any, .any, .any, .any, .any, .any, .any, .any, .any, .any, .any, .any, .any, .any, .any, .any, .any, .any, .any, .any, .any, .any, .any, .any, .any, .any, .any, .any, .any, .any, .any, .any, .any, .any, .any, .any, .any, .any, .any, .any, .any, .any, .any, .any, .any, .any, .any, .any, .any, .any, .any, .any, .any, .any, .any, .any, .any, .any, .any, .any, .any, .any, .any, .any, .any, .any, .any, .any, .any, .any, .any, .any, .any, .any, .any, .any, .any, .any, .any, .any, .any, .any, .any]
theorem yCD (s0 s1 s2 s3 s4 s5 s6 s7 s8 s9 s10 s11 s12 s13 s14 s15 s16 s17 s18 s19 s20 s21 s22 s23 s24 s25 s26 s27 s28 s29 s30 s31 s32 s33 s34 s35 s36 s37 s38 s39 s40 s41 s42 s43 s44 s45 s46 s47 s48 s49 s50 s51 s52 s53 s54 s55 s56 s57 s58 s59 s60 s61 s62 s63 s64 s65 s66 s67 s68 s69 s70 s71 s72 s73 s74 s75 s76 s77 s78 s79 s80 s81 s82 s83 s84 s85 s86 s87 s88 s89 s90 s91 s92 s93 s94 s95 s96 s97 s98 s99 s100 s101 s102 s103 s104 s105 s106 s107 s108 s109 s110 : AV) : xBw xNK [s0, s1, s2, s3, s4, s5, s6, s7, s8, s9, s10, s11, s12, s13, s14, s15, s16, s17, s18, s19, s20, s21, s22, s23, s24, s25, s26, s27, s28, s29, s30, s31, s32, s33, s34, s35, s36, s37, s38, s39, s40, s41, s42, s43, s44, s45, s46, s47, s48, s49, s50, s51, s52, s53, s54, s55, s56, s57, s58, s59, s60, s61, s62, s63, s64, s65, s66, s67, s68, s69, s70, s71, s72, s73, s74, s75, s76, s77, s78, s79, s80, s81, s82, s83, s84, s85, s86, s87, s88, s89, s90, s91, s92, s93, s94, s95, s96, s97, s98, s99, s100, s101, s102, s103, s104, s105, s106, s107, s108, s109, s110] = xPY s1 s2 s3 s4 s5 s22 s23 := by kernel_rfl
theorem yCE {prog : Nat → Option AFunc} (s1 s2 s3 s4 s5 s22 s23 : AV) (H : xAA) : (lim prog).loop xNK xVs ⟨xPY s1 s2 s3 s4 s5 s22 s23, H⟩ = xCh (lim prog) xNK xVs (run (lim prog) xUt ⟨xPY s1 s2 s3 s4 s5 s22 s23, H⟩) := xAS _ _ _ _ (by kernel_rfl)

def xUu : ACode :=
  .block 1 (.seq (.region [⟨some 17, .mkmap, none⟩,
      ⟨some 4, .mov (.t 17), none⟩])
   (.seq (.region [⟨some 18, .load false 1 (.t 2), none⟩,
       ⟨some 19, .len (.t 18), none⟩,
       ⟨some 20, .mkslice false [.int Go.IntKind.i64 0] 8 (.t 19) (.t 19), none⟩,
       ⟨some 5, .mov (.t 20), none⟩])
    (.seq (.seq (.region [⟨some 21, .load false 1 (.t 2), none⟩,
         ⟨some 22, .len (.t 21), none⟩,
         ⟨some 23, .mov (.c (.int Go.IntKind.i64 0)), none⟩])
      (.block 2 (.loop xNK xVs)))
     (.seq (.seq (.region [⟨some 102, .mov (.t 4), none⟩,
          ⟨some 103, .mlen (.t 102), none⟩,
          ⟨some 104, .mov (.t 3), none⟩,
          ⟨some 105, .bin .eql (.t 103) (.t 104), none⟩])
       (.cond (.t 105)
        (.seq (.region [⟨some 106, .mov (.t 5), none⟩,
            ⟨some 107, .mov (.t 3), none⟩,
            ⟨none, .store 1 (.t 2) (.t 106), none⟩,
            ⟨some 3, .mov (.t 107), none⟩])
         (.ret))
        (.skip)))
      (.region [⟨some 108, .mov (.t 5), none⟩,
         ⟨some 109, .mov (.t 4), none⟩,
         ⟨some 110, .mlen (.t 109), none⟩,
         ⟨none, .store 1 (.t 2) (.t 108), none⟩,
         ⟨some 3, .mov (.t 110), none⟩])))))

def xVt : ACode := xUu
def xNL : List Nat := [0, 4, 5, 6, 7, 8, 9, 10, 11, 12, 13, 14, 15, 16, 17, 18, 19, 20, 21, 22, 23, 24, 25, 26, 27, 28, 29, 30, 31, 32, 33, 34, 35, 36, 37, 38, 39, 40, 41, 42, 43, 44, 45, 46, 47, 48, 49, 50, 51, 52, 53, 54, 55, 56, 57, 58, 59, 60, 61, 62, 63, 64, 65, 66, 67, 68, 69, 70, 71, 72, 73, 74, 75, 76, 77, 78, 79, 80, 81, 82, 83, 84, 85, 86, 87, 88, 89, 90, 91, 92, 93, 94, 95, 96, 97, 98, 99, 100, 101, 102, 103, 104, 105, 106, 107, 108, 109, 110]
abbrev xPZ (s1 s2 s3 : AV) : List AV := [.any, s1, s2, s3, .any, .any, .any, .any, .any, .any, .any, .any, .any, .any, .any, .any, .any, .any, .any, .any, .any, .any, .any, .any, .any, .any, .any, .any, .any, .any, .any, .any, .any, .any, .any, .any, .any, .any, .any, .any, .any, .any, .any, .any, .any, .any, .any, .any, .any, .any, .any, .any, .any, .any, .any, .any, .any, .any, .any, .any, .any, .any, .any, .any, .any, .any, .any, .any, .any, .any, .any, .any, .any, .any, .any, .any, .any, .any, .any, .any, .any, .any, .any, .any, .any, .any, .any, .any, .any, .any, .any, .any, .any, .any, .any, .any, .any, .any, .any, .any, .any, .any, .any, .any, .any, .any, .any, .any, .any, .any, .any]
theorem yCF (s0 s1 s2 s3 s4 s5 s6 s7 s8 s9 s10 s11 s12 s13 s14 s15 s16 s17 s18 s19 s20 s21 s22 s23 s24 s25 s26 s27 s28 s29 s30 s31 s32 s33 s34 s35 s36 s37 s38 s39 s40 s41 s42 s43 s44 s45 s46 s47 s48 s49 s50 s51 s52 s53 s54 s55 s56 s57 s58 s59 s60 s61 s62 s63 s64 s65 s66 s67 s68 s69 s70 s71 s72 s73 s74 s75 s76 s77 s78 s79 s80 s81 s82 s83 s84 s85 s86 s87 s88 s89 s90 s91 s92 s93 s94 s95 s96 s97 s98 s99 s100 s101 s102 s103 s104 s105 s106 s107 s108 s109 s110 : AV) : xBw xNL [s0, s1, s2, s3, s4, s5, s6, s7, s8, s9, s10, s11, s12, s13, s14, s15, s16, s17, s18, s19, s20, s21, s22, s23, s24, s25, s26, s27, s28, s29, s30, s31, s32, s33, s34, s35, s36, s37, s38, s39, s40, s41, s42, s43, s44, s45, s46, s47, s48, s49, s50, s51, s52, s53, s54, s55, s56, s57, s58, s59, s60, s61, s62, s63, s64, s65, s66, s67, s68, s69, s70, s71, s72, s73, s74, s75, s76, s77, s78, s79, s80, s81, s82, s83, s84, s85, s86, s87, s88, s89, s90, s91, s92, s93, s94, s95, s96, s97, s98, s99, s100, s101, s102, s103, s104, s105, s106, s107, s108, s109, s110] = xPZ s1 s2 s3 := by kernel_rfl
theorem yCG {prog : Nat → Option AFunc} (s1 s2 s3 : AV) (H : xAA) : (lim prog).loop xNL xVt ⟨xPZ s1 s2 s3, H⟩ = xCh (lim prog) xNL xVt (run (lim prog) xUu ⟨xPZ s1 s2 s3, H⟩) := xAS _ _ _ _ (by kernel_rfl)

def a60 : AFunc := ⟨111,
  .seq (.region [⟨some 1, .box (.t 0), none⟩,
     ⟨some 2, .box (.c (.sl true 0 [])), none⟩,
     ⟨some 3, .mov (.c (.int Go.IntKind.i64 0)), none⟩])
  (.seq (.region [⟨some 13, .faddr 2 (.t 1), none⟩,
      ⟨some 14, .load false 1 (.t 13), none⟩,
      ⟨some 15, .len (.t 14), none⟩,
      ⟨some 16, .mkslice false [.int Go.IntKind.i64 0] 8 (.t 15) (.t 15), none⟩,
      ⟨none, .store 1 (.t 2) (.t 16), none⟩])
   (.block 0 (.loop xNL xVt))),
  [.cell 2 false 1, .tmp 3]⟩

def xK8 : ACode :=
  .seq (.region [⟨some 30, .bin .lss (.t 29) (.t 28), none⟩])
  (.seq (.cond (.t 30)
    (.skip)
    (.exit 4))
   (.seq (.block 5 (.seq (.region [⟨some 31, .mov (.t 29), none⟩,
         ⟨some 13, .mov (.t 31), none⟩])
      (.drawh [(36, (1, 10))] [] [] 6 [⟨some 32, .mov (.t 11), none⟩,
         ⟨some 33, .mov (.t 12), none⟩,
         ⟨some 34, .mov (.t 11), none⟩,
         ⟨some 35, .mov (.t 12), none⟩,
         ⟨some 36, .iaddr 1 (.t 34) (.t 35), none⟩,
         ⟨some 37, .load false 1 (.t 36), none⟩,
         ⟨some 38, .mov (.t 2), none⟩,
         ⟨some 39, .mov (.t 10), none⟩,
         ⟨some 40, .mov (.t 12), none⟩,
         ⟨some 41, .mov (.t 13), none⟩,
         ⟨some 42, .icall (.t 38) [(.t 39), (.t 40), (.t 41)], none⟩,
         ⟨some 43, .bslice true [.int Go.IntKind.i64 0] 1 1 [(0, (.t 42))], none⟩,
         ⟨some 44, .append false 1 8 (.t 37) (.t 43), none⟩,
         ⟨some 45, .iaddr 1 (.t 32) (.t 33), none⟩,
         ⟨none, .store 1 (.t 45) (.t 44), none⟩])))
    (.region [⟨some 46, .bin .add (.t 29) (.c (.int Go.IntKind.i64 1)), none⟩,
       ⟨some 29, .mov (.t 46), none⟩])))

def xP0 : ACode := xK8
def xJD : List Nat := [4, 5, 6, 7, 13, 14, 15, 18, 19, 20, 21, 22, 25, 26, 27, 30, 31, 32, 33, 34, 35, 36, 37, 38, 39, 40, 41, 42, 43, 44, 45, 46, 47, 48, 49, 50, 51, 52, 53, 54, 55, 56, 57, 58, 59, 60, 61, 62, 63]
abbrev xH6 (s0 s1 s2 s3 s8 s9 s10 s11 s12 s16 s17 s23 s24 s28 s29 : AV) : List AV := [s0, s1, s2, s3, .any, .any, .any, .any, s8, s9, s10, s11, s12, .any, .any, .any, s16, s17, .any, .any, .any, .any, .any, s23, s24, .any, .any, .any, s28, s29, .any, .any, .any, .any, .any, .any, .any, .any, .any, .any, .any, .any, .any, .any, .any, .any, .any, .any, .any, .any, .any, .any, .any, .any, .any, .any, .any, .any, .any, .any, .any, .any, .any, .any]
theorem xNM (s0 s1 s2 s3 s4 s5 s6 s7 s8 s9 s10 s11 s12 s13 s14 s15 s16 s17 s18 s19 s20 s21 s22 s23 s24 s25 s26 s27 s28 s29 s30 s31 s32 s33 s34 s35 s36 s37 s38 s39 s40 s41 s42 s43 s44 s45 s46 s47 s48 s49 s50 s51 s52 s53 s54 s55 s56 s57 s58 s59 s60 s61 s62 s63 : AV) : xBw xJD [s0, s1, s2, s3, s4, s5, s6, s7, s8, s9, s10, s11, s12, s13, s14, s15, s16, s17, s18, s19, s20, s21, s22, s23, s24, s25, s26, s27, s28, s29, s30, s31, s32, s33, s34, s35, s36, s37, s38, s39, s40, s41, s42, s43, s44, s45, s46, s47, s48, s49, s50, s51, s52, s53, s54, s55, s56, s57, s58, s59, s60, s61, s62, s63] = xH6 s0 s1 s2 s3 s8 s9 s10 s11 s12 s16 s17 s23 s24 s28 s29 := by kernel_rfl
theorem xP1 {prog : Nat → Option AFunc} (s0 s1 s2 s3 s8 s9 s10 s11 s12 s16 s17 s23 s24 s28 s29 : AV) (H : xAA) : (lim prog).loop xJD xP0 ⟨xH6 s0 s1 s2 s3 s8 s9 s10 s11 s12 s16 s17 s23 s24 s28 s29, H⟩ = xCh (lim prog) xJD xP0 (run (lim prog) xK8 ⟨xH6 s0 s1 s2 s3 s8 s9 s10 s11 s12 s16 s17 s23 s24 s28 s29, H⟩) := xAS _ _ _ _ (by kernel_rfl)

def xNN : ACode :=
  .seq (.region [⟨some 25, .bin .lss (.t 24) (.t 23), none⟩])
  (.seq (.cond (.t 25)
    (.skip)
    (.exit 2))
   (.seq (.block 3 (.seq (.region [⟨some 26, .mov (.t 24), none⟩,
         ⟨some 12, .mov (.t 26), none⟩])
      (.seq (.region [⟨some 27, .mov (.t 0), none⟩,
          ⟨some 28, .bin .shl (.c (.int Go.IntKind.i64 1)) (.t 27), none⟩,
          ⟨some 29, .mov (.c (.int Go.IntKind.i64 0)), none⟩])
       (.block 4 (.loop xJD xP0)))))
    (.region [⟨some 47, .bin .add (.t 24) (.c (.int Go.IntKind.i64 1)), none⟩,
       ⟨some 24, .mov (.t 47), none⟩])))

def xSv : ACode := xNN
def xK9 : List Nat := [4, 5, 6, 7, 12, 13, 14, 15, 18, 19, 20, 21, 22, 25, 26, 27, 28, 29, 30, 31, 32, 33, 34, 35, 36, 37, 38, 39, 40, 41, 42, 43, 44, 45, 46, 47, 48, 49, 50, 51, 52, 53, 54, 55, 56, 57, 58, 59, 60, 61, 62, 63]
abbrev xLa (s0 s1 s2 s3 s8 s9 s10 s11 s16 s17 s23 s24 : AV) : List AV := [s0, s1, s2, s3, .any, .any, .any, .any, s8, s9, s10, s11, .any, .any, .any, .any, s16, s17, .any, .any, .any, .any, .any, s23, s24, .any, .any, .any, .any, .any, .any, .any, .any, .any, .any, .any, .any, .any, .any, .any, .any, .any, .any, .any, .any, .any, .any, .any, .any, .any, .any, .any, .any, .any, .any, .any, .any, .any, .any, .any, .any, .any, .any, .any]
theorem xNO (s0 s1 s2 s3 s4 s5 s6 s7 s8 s9 s10 s11 s12 s13 s14 s15 s16 s17 s18 s19 s20 s21 s22 s23 s24 s25 s26 s27 s28 s29 s30 s31 s32 s33 s34 s35 s36 s37 s38 s39 s40 s41 s42 s43 s44 s45 s46 s47 s48 s49 s50 s51 s52 s53 s54 s55 s56 s57 s58 s59 s60 s61 s62 s63 : AV) : xBw xK9 [s0, s1, s2, s3, s4, s5, s6, s7, s8, s9, s10, s11, s12, s13, s14, s15, s16, s17, s18, s19, s20, s21, s22, s23, s24, s25, s26, s27, s28, s29, s30, s31, s32, s33, s34, s35, s36, s37, s38, s39, s40, s41, s42, s43, s44, s45, s46, s47, s48, s49, s50, s51, s52, s53, s54, s55, s56, s57, s58, s59, s60, s61, s62, s63] = xLa s0 s1 s2 s3 s8 s9 s10 s11 s16 s17 s23 s24 := by kernel_rfl
theorem xUv {prog : Nat → Option AFunc} (s0 s1 s2 s3 s8 s9 s10 s11 s16 s17 s23 s24 : AV) (H : xAA) : (lim prog).loop xK9 xSv ⟨xLa s0 s1 s2 s3 s8 s9 s10 s11 s16 s17 s23 s24, H⟩ = xCh (lim prog) xK9 xSv (run (lim prog) xNN ⟨xLa s0 s1 s2 s3 s8 s9 s10 s11 s16 s17 s23 s24, H⟩) := xAS _ _ _ _ (by kernel_rfl)

def xLb : ACode :=
  .seq (.region [⟨some 18, .bin .lss (.t 17) (.t 16), none⟩])
  (.seq (.cond (.t 18)
    (.skip)
    (.exit 0))
   (.seq (.block 1 (.seq (.region [⟨some 19, .mov (.t 17), none⟩,
         ⟨some 10, .mov (.t 19), none⟩])
      (.seq (.region [⟨some 20, .mov (.t 1), none⟩,
          ⟨some 21, .mkslice false [.sl true 0 []] 24 (.t 20) (.t 20), none⟩,
          ⟨some 11, .mov (.t 21), none⟩])
       (.seq (.seq (.region [⟨some 22, .mov (.t 11), none⟩,
            ⟨some 23, .len (.t 22), none⟩,
            ⟨some 24, .mov (.c (.int Go.IntKind.i64 0)), none⟩])
         (.block 2 (.loop xK9 xSv)))
        (.seq (.region [⟨some 48, .faddr 2 (.t 9), none⟩,
            ⟨some 49, .load false 1 (.t 48), none⟩,
            ⟨some 50, .mov (.t 11), none⟩,
            ⟨some 51, .bslice false [.sl true 0 []] 1 1 [(0, (.t 50))], none⟩,
            ⟨some 52, .append false 1 24 (.t 49) (.t 51), none⟩,
            ⟨some 53, .faddr 2 (.t 9), none⟩,
            ⟨none, .store 1 (.t 53) (.t 52), none⟩])
         (.drawh [(54, (1, 4))] [] [] 2 [⟨some 54, .faddr 3 (.t 9), none⟩,
            ⟨some 55, .load false 1 (.t 54), none⟩,
            ⟨some 56, .mov (.t 3), none⟩,
            ⟨some 57, .mov (.t 10), none⟩,
            ⟨some 58, .icall (.t 56) [(.t 57)], none⟩,
            ⟨some 59, .bslice true [.bool false] 1 1 [(0, (.t 58))], none⟩,
            ⟨some 60, .append false 1 1 (.t 55) (.t 59), none⟩,
            ⟨some 61, .faddr 3 (.t 9), none⟩,
            ⟨none, .store 1 (.t 61) (.t 60), none⟩]))))))
    (.region [⟨some 62, .bin .add (.t 17) (.c (.int Go.IntKind.i64 1)), none⟩,
       ⟨some 17, .mov (.t 62), none⟩])))

def xSw : ACode := xLb
def xLc : List Nat := [4, 5, 6, 7, 10, 11, 12, 13, 14, 15, 18, 19, 20, 21, 22, 23, 24, 25, 26, 27, 28, 29, 30, 31, 32, 33, 34, 35, 36, 37, 38, 39, 40, 41, 42, 43, 44, 45, 46, 47, 48, 49, 50, 51, 52, 53, 54, 55, 56, 57, 58, 59, 60, 61, 62, 63]
abbrev xLd (s0 s1 s2 s3 s8 s9 s16 s17 : AV) : List AV := [s0, s1, s2, s3, .any, .any, .any, .any, s8, s9, .any, .any, .any, .any, .any, .any, s16, s17, .any, .any, .any, .any, .any, .any, .any, .any, .any, .any, .any, .any, .any, .any, .any, .any, .any, .any, .any, .any, .any, .any, .any, .any, .any, .any, .any, .any, .any, .any, .any, .any, .any, .any, .any, .any, .any, .any, .any, .any, .any, .any, .any, .any, .any, .any]
theorem xNP (s0 s1 s2 s3 s4 s5 s6 s7 s8 s9 s10 s11 s12 s13 s14 s15 s16 s17 s18 s19 s20 s21 s22 s23 s24 s25 s26 s27 s28 s29 s30 s31 s32 s33 s34 s35 s36 s37 s38 s39 s40 s41 s42 s43 s44 s45 s46 s47 s48 s49 s50 s51 s52 s53 s54 s55 s56 s57 s58 s59 s60 s61 s62 s63 : AV) : xBw xLc [s0, s1, s2, s3, s4, s5, s6, s7, s8, s9, s10, s11, s12, s13, s14, s15, s16, s17, s18, s19, s20, s21, s22, s23, s24, s25, s26, s27, s28, s29, s30, s31, s32, s33, s34, s35, s36, s37, s38, s39, s40, s41, s42, s43, s44, s45, s46, s47, s48, s49, s50, s51, s52, s53, s54, s55, s56, s57, s58, s59, s60, s61, s62, s63] = xLd s0 s1 s2 s3 s8 s9 s16 s17 := by kernel_rfl
theorem xP2 {prog : Nat → Option AFunc} (s0 s1 s2 s3 s8 s9 s16 s17 : AV) (H : xAA) : (lim prog).loop xLc xSw ⟨xLd s0 s1 s2 s3 s8 s9 s16 s17, H⟩ = xCh (lim prog) xLc xSw (run (lim prog) xLb ⟨xLd s0 s1 s2 s3 s8 s9 s16 s17, H⟩) := xAS _ _ _ _ (by kernel_rfl)

def a61 : AFunc := ⟨64,
  .seq (.region [⟨some 8, .box (.c (.agg [.int Go.IntKind.i64 0, .int Go.IntKind.i64 0, .sl true 0 [], .sl true 0 []])), none⟩])
  (.seq (.region [⟨some 14, .mov (.t 0), none⟩,
      ⟨some 15, .build [.int Go.IntKind.i64 0, .int Go.IntKind.i64 0, .sl true 0 [], .sl true 0 []] [(0, 1, (.t 14))], none⟩,
      ⟨some 9, .box (.c (.agg [.int Go.IntKind.i64 0, .int Go.IntKind.i64 0, .sl true 0 [], .sl true 0 []])), none⟩,
      ⟨none, .store 4 (.t 9) (.t 15), none⟩])
   (.seq (.seq (.region [⟨some 16, .mov (.t 1), none⟩,
        ⟨some 17, .mov (.c (.int Go.IntKind.i64 0)), none⟩])
     (.block 0 (.loop xLc xSw)))
    (.seq (.region [⟨some 63, .load true 4 (.t 9), none⟩,
        ⟨none, .store 4 (.t 8) (.t 63), none⟩])
     (.ret)))),
  [.cell 8 true 4]⟩

def a62 : AFunc := ⟨30,
  .seq (.region [⟨some 9, .mov (.c (.int Go.IntKind.i64 0)), none⟩])
  (.seq (.draw 15 [⟨some 10, .load false 1 (.t 3), none⟩,
      ⟨some 11, .faddr 2 (.t 4), none⟩,
      ⟨some 12, .load false 1 (.t 11), none⟩,
      ⟨some 13, .load false 1 (.t 5), none⟩,
      ⟨some 14, .mov (.t 0), none⟩,
      ⟨some 15, .iaddr 1 (.t 13) (.t 14), none⟩,
      ⟨some 16, .load false 1 (.t 15), none⟩,
      ⟨some 17, .iaddr 1 (.t 12) (.t 16), none⟩,
      ⟨some 18, .load false 1 (.t 17), none⟩,
      ⟨some 19, .load false 1 (.t 5), none⟩,
      ⟨some 20, .mov (.t 1), none⟩,
      ⟨some 21, .iaddr 1 (.t 19) (.t 20), none⟩,
      ⟨some 22, .load false 1 (.t 21), none⟩,
      ⟨some 23, .iaddr 1 (.t 18) (.t 22), none⟩,
      ⟨some 24, .load false 1 (.t 23), none⟩,
      ⟨some 25, .mov (.t 2), none⟩,
      ⟨some 26, .iaddr 1 (.t 24) (.t 25), none⟩,
      ⟨some 27, .load false 1 (.t 26), none⟩,
      ⟨some 28, .iaddr 1 (.t 10) (.t 27), none⟩,
      ⟨some 29, .load false 1 (.t 28), none⟩,
      ⟨some 9, .mov (.t 29), none⟩])
   (.ret)),
  [.tmp 9]⟩

def a63 : AFunc := ⟨13,
  .seq (.region [⟨some 4, .mov (.c (.bool false)), none⟩])
  (.seq (.draw 3 [⟨some 5, .faddr 3 (.t 1), none⟩,
      ⟨some 6, .load false 1 (.t 5), none⟩,
      ⟨some 7, .load false 1 (.t 2), none⟩,
      ⟨some 8, .mov (.t 0), none⟩,
      ⟨some 9, .iaddr 1 (.t 7) (.t 8), none⟩,
      ⟨some 10, .load false 1 (.t 9), none⟩,
      ⟨some 11, .iaddr 1 (.t 6) (.t 10), none⟩,
      ⟨some 12, .load false 1 (.t 11), none⟩,
      ⟨some 4, .mov (.t 12), none⟩])
   (.ret)),
  [.tmp 4]⟩

def xUw : ACode :=
  .seq (.seq (.region [⟨some 11, .mov (.t 5), none⟩,
      ⟨some 12, .mov (.t 0), none⟩,
      ⟨some 13, .len (.t 12), none⟩,
      ⟨some 14, .bin .lss (.t 11) (.t 13), none⟩])
   (.cond (.t 14)
    (.skip)
    (.exit 0)))
  (.seq (.block 1 (.seq (.draw 5 [⟨some 17, .mov (.t 0), none⟩,
        ⟨some 18, .mov (.t 5), none⟩,
        ⟨some 19, .iaddr 1 (.t 17) (.t 18), none⟩,
        ⟨some 20, .load false 1 (.t 19), none⟩,
        ⟨some 21, .mov (.t 1), none⟩,
        ⟨some 22, .mov (.t 5), none⟩,
        ⟨some 23, .iaddr 1 (.t 21) (.t 22), none⟩,
        ⟨some 24, .load false 1 (.t 23), none⟩,
        ⟨some 25, .call 39 [(.t 20), (.t 24)], none⟩,
        ⟨some 26, .un .not (.t 25), none⟩])
     (.cond (.t 26)
      (.seq (.region [⟨some 4, .mov (.c (.bool false)), none⟩])
       (.ret))
      (.skip))))
   (.region [⟨some 15, .mov (.t 5), none⟩,
      ⟨some 16, .bin .add (.t 15) (.c (.int Go.IntKind.i64 1)), none⟩,
      ⟨some 5, .mov (.t 16), none⟩]))

def xVu : ACode := xUw
def xNQ : List Nat := [2, 3, 6, 7, 8, 9, 10, 11, 12, 13, 14, 15, 16, 17, 18, 19, 20, 21, 22, 23, 24, 25, 26]
abbrev xP3 (s0 s1 s4 s5 : AV) : List AV := [s0, s1, .any, .any, s4, s5, .any, .any, .any, .any, .any, .any, .any, .any, .any, .any, .any, .any, .any, .any, .any, .any, .any, .any, .any, .any, .any]
theorem yCH (s0 s1 s2 s3 s4 s5 s6 s7 s8 s9 s10 s11 s12 s13 s14 s15 s16 s17 s18 s19 s20 s21 s22 s23 s24 s25 s26 : AV) : xBw xNQ [s0, s1, s2, s3, s4, s5, s6, s7, s8, s9, s10, s11, s12, s13, s14, s15, s16, s17, s18, s19, s20, s21, s22, s23, s24, s25, s26] = xP3 s0 s1 s4 s5 := by kernel_rfl
theorem yCI {prog : Nat → Option AFunc} (s0 s1 s4 s5 : AV) (H : xAA) : (lim prog).loop xNQ xVu ⟨xP3 s0 s1 s4 s5, H⟩ = xCh (lim prog) xNQ xVu (run (lim prog) xUw ⟨xP3 s0 s1 s4 s5, H⟩) := xAS _ _ _ _ (by kernel_rfl)

def a66 : AFunc := ⟨27,
  .seq (.region [⟨some 4, .mov (.c (.bool false)), none⟩])
  (.seq (.seq (.region [⟨some 6, .mov (.t 0), none⟩,
       ⟨some 7, .len (.t 6), none⟩,
       ⟨some 8, .mov (.t 1), none⟩,
       ⟨some 9, .len (.t 8), none⟩,
       ⟨some 10, .bin .neq (.t 7) (.t 9), none⟩])
    (.cond (.t 10)
     (.seq (.region [⟨some 4, .mov (.c (.bool false)), none⟩])
      (.ret))
     (.skip)))
   (.seq (.seq (.region [⟨some 5, .mov (.c (.int Go.IntKind.i64 0)), none⟩])
     (.block 0 (.loop xNQ xVu)))
    (.seq (.region [⟨some 4, .mov (.c (.bool true)), none⟩])
     (.ret)))),
  [.tmp 4]⟩

def xUx : ACode :=
  .seq (.seq (.region [⟨some 11, .mov (.t 5), none⟩,
      ⟨some 12, .mov (.t 0), none⟩,
      ⟨some 13, .len (.t 12), none⟩,
      ⟨some 14, .bin .lss (.t 11) (.t 13), none⟩])
   (.cond (.t 14)
    (.skip)
    (.exit 0)))
  (.seq (.block 1 (.seq (.draw 5 [⟨some 17, .mov (.t 0), none⟩,
        ⟨some 18, .mov (.t 5), none⟩,
        ⟨some 19, .iaddr 1 (.t 17) (.t 18), none⟩,
        ⟨some 20, .load false 1 (.t 19), none⟩,
        ⟨some 21, .mov (.t 1), none⟩,
        ⟨some 22, .mov (.t 5), none⟩,
        ⟨some 23, .iaddr 1 (.t 21) (.t 22), none⟩,
        ⟨some 24, .load false 1 (.t 23), none⟩,
        ⟨some 25, .beq true (.t 20) (.t 24), none⟩])
     (.cond (.t 25)
      (.seq (.region [⟨some 4, .mov (.c (.bool false)), none⟩])
       (.ret))
      (.skip))))
   (.region [⟨some 15, .mov (.t 5), none⟩,
      ⟨some 16, .bin .add (.t 15) (.c (.int Go.IntKind.i64 1)), none⟩,
      ⟨some 5, .mov (.t 16), none⟩]))

def xVv : ACode := xUx
def xNR : List Nat := [2, 3, 6, 7, 8, 9, 10, 11, 12, 13, 14, 15, 16, 17, 18, 19, 20, 21, 22, 23, 24, 25]
abbrev xP4 (s0 s1 s4 s5 : AV) : List AV := [s0, s1, .any, .any, s4, s5, .any, .any, .any, .any, .any, .any, .any, .any, .any, .any, .any, .any, .any, .any, .any, .any, .any, .any, .any, .any]
theorem yCJ (s0 s1 s2 s3 s4 s5 s6 s7 s8 s9 s10 s11 s12 s13 s14 s15 s16 s17 s18 s19 s20 s21 s22 s23 s24 s25 : AV) : xBw xNR [s0, s1, s2, s3, s4, s5, s6, s7, s8, s9, s10, s11, s12, s13, s14, s15, s16, s17, s18, s19, s20, s21, s22, s23, s24, s25] = xP4 s0 s1 s4 s5 := by kernel_rfl
theorem yCK {prog : Nat → Option AFunc} (s0 s1 s4 s5 : AV) (H : xAA) : (lim prog).loop xNR xVv ⟨xP4 s0 s1 s4 s5, H⟩ = xCh (lim prog) xNR xVv (run (lim prog) xUx ⟨xP4 s0 s1 s4 s5, H⟩) := xAS _ _ _ _ (by kernel_rfl)

def a67 : AFunc := ⟨26,
  .seq (.region [⟨some 4, .mov (.c (.bool false)), none⟩])
  (.seq (.seq (.region [⟨some 6, .mov (.t 0), none⟩,
       ⟨some 7, .len (.t 6), none⟩,
       ⟨some 8, .mov (.t 1), none⟩,
       ⟨some 9, .len (.t 8), none⟩,
       ⟨some 10, .bin .neq (.t 7) (.t 9), none⟩])
    (.cond (.t 10)
     (.seq (.region [⟨some 4, .mov (.c (.bool false)), none⟩])
      (.ret))
     (.skip)))
   (.seq (.seq (.region [⟨some 5, .mov (.c (.int Go.IntKind.i64 0)), none⟩])
     (.block 0 (.loop xNR xVv)))
    (.seq (.region [⟨some 4, .mov (.c (.bool true)), none⟩])
     (.ret)))),
  [.tmp 4]⟩

def a72 : AFunc := ⟨17,
  .seq (.region [⟨some 1, .box (.t 0), none⟩,
     ⟨some 2, .box (.c (.agg [.int Go.IntKind.i64 0, .int Go.IntKind.i64 0, .sl true 0 [], .sl true 0 [], .sl true 0 []])), none⟩])
  (.seq (.draw 13 [⟨some 3, .faddr 0 (.t 1), none⟩,
      ⟨some 4, .load false 1 (.t 3), none⟩,
      ⟨some 5, .faddr 1 (.t 1), none⟩,
      ⟨some 6, .load false 1 (.t 5), none⟩,
      ⟨some 7, .faddr 2 (.t 1), none⟩,
      ⟨some 8, .load false 1 (.t 7), none⟩,
      ⟨some 9, .call 47 [(.t 8)], none⟩,
      ⟨some 10, .faddr 3 (.t 1), none⟩,
      ⟨some 11, .load false 1 (.t 10), none⟩,
      ⟨some 12, .call 47 [(.t 11)], none⟩,
      ⟨some 13, .faddr 4 (.t 1), none⟩,
      ⟨some 14, .load false 1 (.t 13), none⟩,
      ⟨some 15, .call 108 [(.t 14)], none⟩,
      ⟨some 16, .build [.int Go.IntKind.i64 0, .int Go.IntKind.i64 0, .sl true 0 [], .sl true 0 [], .sl true 0 []] [(0, 1, (.t 4)), (1, 1, (.t 6)), (2, 1, (.t 9)), (3, 1, (.t 12)), (4, 1, (.t 15))], none⟩,
      ⟨none, .store 5 (.t 2) (.t 16), none⟩])
   (.ret)),
  [.cell 2 true 5]⟩

def xNS : ACode :=
  .seq (.region [⟨some 8, .bin .lss (.t 7) (.t 6), none⟩])
  (.seq (.cond (.t 8)
    (.skip)
    (.exit 0))
   (.seq (.block 1 (.seq (.region [⟨some 9, .iaddr 1 (.t 5) (.t 7), none⟩,
         ⟨some 10, .load false 1 (.t 9), none⟩,
         ⟨some 4, .mov (.t 10), none⟩])
      (.region [⟨some 11, .mov (.t 2), none⟩,
         ⟨some 12, .mov (.t 4), none⟩,
         ⟨some 13, .bin .shl (.c (.int Go.IntKind.u64 1)) (.t 12), none⟩,
         ⟨some 14, .bin .or (.t 11) (.t 13), none⟩,
         ⟨some 2, .mov (.t 14), none⟩])))
    (.region [⟨some 15, .bin .add (.t 7) (.c (.int Go.IntKind.i64 1)), none⟩,
       ⟨some 7, .mov (.t 15), none⟩])))

def xSx : ACode := xNS
def xLe : List Nat := [0, 1, 3, 4, 8, 9, 10, 11, 12, 13, 14, 15, 16]
abbrev xLf (s2 s5 s6 s7 : AV) : List AV := [.any, .any, s2, .any, .any, s5, s6, s7, .any, .any, .any, .any, .any, .any, .any, .any, .any]
theorem xP5 (s0 s1 s2 s3 s4 s5 s6 s7 s8 s9 s10 s11 s12 s13 s14 s15 s16 : AV) : xBw xLe [s0, s1, s2, s3, s4, s5, s6, s7, s8, s9, s10, s11, s12, s13, s14, s15, s16] = xLf s2 s5 s6 s7 := by kernel_rfl
theorem xUy {prog : Nat → Option AFunc} (s2 s5 s6 s7 : AV) (H : xAA) : (lim prog).loop xLe xSx ⟨xLf s2 s5 s6 s7, H⟩ = xCh (lim prog) xLe xSx (run (lim prog) xNS ⟨xLf s2 s5 s6 s7, H⟩) := xAS _ _ _ _ (by kernel_rfl)

def a73 : AFunc := ⟨17,
  .seq (.region [⟨some 2, .mov (.c (.int Go.IntKind.u64 0)), none⟩])
  (.seq (.seq (.region [⟨some 5, .mov (.t 0), none⟩,
       ⟨some 6, .len (.t 5), none⟩,
       ⟨some 7, .mov (.c (.int Go.IntKind.i64 0)), none⟩])
    (.block 0 (.loop xLe xSx)))
   (.seq (.region [⟨some 16, .mov (.t 2), none⟩,
       ⟨some 2, .mov (.t 16), none⟩])
    (.ret))),
  [.tmp 2]⟩

def xE9 : ACode :=
  .seq (.region [⟨some 15, .bin .lss (.t 14) (.t 13), none⟩])
  (.seq (.cond (.t 15)
    (.skip)
    (.exit 0))
   (.seq (.block 1 (.seq (.region [⟨some 16, .iaddr 5 (.t 12) (.t 14), none⟩,
         ⟨some 17, .load true 5 (.t 16), none⟩,
         ⟨some 10, .box (.c (.agg [.int Go.IntKind.i64 0, .int Go.IntKind.i64 0, .int Go.IntKind.i64 0, .int Go.IntKind.u8 0, .int Go.IntKind.u8 0])), none⟩,
         ⟨none, .store 5 (.t 10) (.t 17), none⟩])
      (.seq (.draw 30 [⟨some 18, .load false 1 (.t 4), none⟩,
          ⟨some 19, .mov (.t 0), none⟩,
          ⟨some 20, .iaddr 1 (.t 18) (.t 19), none⟩,
          ⟨some 21, .load false 1 (.t 20), none⟩,
          ⟨some 22, .faddr 0 (.t 10), none⟩,
          ⟨some 23, .load false 1 (.t 22), none⟩,
          ⟨some 24, .bin .shr (.t 21) (.t 23), none⟩,
          ⟨some 25, .load false 1 (.t 4), none⟩,
          ⟨some 26, .mov (.t 1), none⟩,
          ⟨some 27, .iaddr 1 (.t 25) (.t 26), none⟩,
          ⟨some 28, .load false 1 (.t 27), none⟩,
          ⟨some 29, .faddr 1 (.t 10), none⟩,
          ⟨some 30, .load false 1 (.t 29), none⟩,
          ⟨some 31, .bin .shr (.t 28) (.t 30), none⟩,
          ⟨some 32, .bin .and (.t 24) (.t 31), none⟩,
          ⟨some 33, .bin .and (.t 32) (.c (.int Go.IntKind.u64 1)), none⟩,
          ⟨some 34, .bin .neq (.t 33) (.c (.int Go.IntKind.u64 0)), none⟩,
          ⟨some 35, .mov (.t 34), none⟩,
          ⟨some 36, .mov (.t 2), some (35, true)⟩,
          ⟨some 37, .conv Go.IntKind.u8 (.t 36), some (35, true)⟩,
          ⟨some 38, .faddr 3 (.t 10), some (35, true)⟩,
          ⟨some 39, .load false 1 (.t 38), some (35, true)⟩,
          ⟨some 40, .bin .and (.t 37) (.t 39), some (35, true)⟩,
          ⟨some 41, .faddr 3 (.t 10), some (35, true)⟩,
          ⟨some 42, .load false 1 (.t 41), some (35, true)⟩,
          ⟨some 43, .bin .eql (.t 40) (.t 42), some (35, true)⟩,
          ⟨some 44, .pick (.t 35) (.t 43) (.c (.bool false)), none⟩,
          ⟨some 45, .mov (.t 44), none⟩,
          ⟨some 46, .mov (.t 2), some (45, true)⟩,
          ⟨some 47, .conv Go.IntKind.u8 (.t 46), some (45, true)⟩,
          ⟨some 48, .faddr 4 (.t 10), some (45, true)⟩,
          ⟨some 49, .load false 1 (.t 48), some (45, true)⟩,
          ⟨some 50, .bin .and (.t 47) (.t 49), some (45, true)⟩,
          ⟨some 51, .bin .eql (.t 50) (.c (.int Go.IntKind.u8 0)), some (45, true)⟩,
          ⟨some 52, .pick (.t 45) (.t 51) (.c (.bool false)), none⟩])
       (.cond (.t 52)
        (.region [⟨some 53, .mov (.t 8), none⟩,
           ⟨some 54, .faddr 2 (.t 10), none⟩,
           ⟨some 55, .load false 1 (.t 54), none⟩,
           ⟨some 56, .bin .shl (.c (.int Go.IntKind.u64 1)) (.t 55), none⟩,
           ⟨some 57, .bin .or (.t 53) (.t 56), none⟩,
           ⟨some 8, .mov (.t 57), none⟩])
        (.skip)))))
    (.region [⟨some 58, .bin .add (.t 14) (.c (.int Go.IntKind.i64 1)), none⟩,
       ⟨some 14, .mov (.t 58), none⟩])))

def xP6 : ACode := xE9
def xJE : List Nat := [3, 5, 6, 7, 9, 10, 11, 15, 16, 17, 18, 19, 20, 21, 22, 23, 24, 25, 26, 27, 28, 29, 30, 31, 32, 33, 34, 35, 36, 37, 38, 39, 40, 41, 42, 43, 44, 45, 46, 47, 48, 49, 50, 51, 52, 53, 54, 55, 56, 57, 58, 59]
abbrev xH7 (s0 s1 s2 s4 s8 s12 s13 s14 : AV) : List AV := [s0, s1, s2, .any, s4, .any, .any, .any, s8, .any, .any, .any, s12, s13, s14, .any, .any, .any, .any, .any, .any, .any, .any, .any, .any, .any, .any, .any, .any, .any, .any, .any, .any, .any, .any, .any, .any, .any, .any, .any, .any, .any, .any, .any, .any, .any, .any, .any, .any, .any, .any, .any, .any, .any, .any, .any, .any, .any, .any, .any]
theorem xFa (s0 s1 s2 s3 s4 s5 s6 s7 s8 s9 s10 s11 s12 s13 s14 s15 s16 s17 s18 s19 s20 s21 s22 s23 s24 s25 s26 s27 s28 s29 s30 s31 s32 s33 s34 s35 s36 s37 s38 s39 s40 s41 s42 s43 s44 s45 s46 s47 s48 s49 s50 s51 s52 s53 s54 s55 s56 s57 s58 s59 : AV) : xBw xJE [s0, s1, s2, s3, s4, s5, s6, s7, s8, s9, s10, s11, s12, s13, s14, s15, s16, s17, s18, s19, s20, s21, s22, s23, s24, s25, s26, s27, s28, s29, s30, s31, s32, s33, s34, s35, s36, s37, s38, s39, s40, s41, s42, s43, s44, s45, s46, s47, s48, s49, s50, s51, s52, s53, s54, s55, s56, s57, s58, s59] = xH7 s0 s1 s2 s4 s8 s12 s13 s14 := by kernel_rfl
theorem xF8 {prog : Nat → Option AFunc} (s0 s1 s2 s4 s8 s12 s13 s14 : AV) (H : xAA) : (lim prog).loop xJE xP6 ⟨xH7 s0 s1 s2 s4 s8 s12 s13 s14, H⟩ = xCh (lim prog) xJE xP6 (run (lim prog) xE9 ⟨xH7 s0 s1 s2 s4 s8 s12 s13 s14, H⟩) := xAS _ _ _ _ (by kernel_rfl)

def a74 : AFunc := ⟨60,
  .seq (.region [⟨some 8, .mov (.c (.int Go.IntKind.u64 0)), none⟩])
  (.seq (.seq (.region [⟨some 11, .faddr 4 (.t 3), none⟩,
       ⟨some 12, .load false 1 (.t 11), none⟩,
       ⟨some 13, .len (.t 12), none⟩,
       ⟨some 14, .mov (.c (.int Go.IntKind.i64 0)), none⟩])
    (.block 0 (.loop xJE xP6)))
   (.seq (.region [⟨some 59, .mov (.t 8), none⟩,
       ⟨some 8, .mov (.t 59), none⟩])
    (.ret))),
  [.tmp 8]⟩

def xLg : ACode :=
  .seq (.region [⟨some 33, .bin .lss (.t 32) (.t 31), none⟩])
  (.seq (.cond (.t 33)
    (.skip)
    (.exit 6))
   (.seq (.block 7 (.seq (.region [⟨some 34, .mov (.t 32), none⟩,
         ⟨some 9, .mov (.t 34), none⟩])
      (.seq (.region [⟨some 35, .mov (.t 1), none⟩,
          ⟨some 36, .arrat 1 2 (.t 8) (.c (.int Go.IntKind.i64 0)), none⟩,
          ⟨some 37, .load false 1 (.t 36), none⟩,
          ⟨some 38, .arrat 1 2 (.t 8) (.c (.int Go.IntKind.i64 1)), none⟩,
          ⟨some 39, .load false 1 (.t 38), none⟩,
          ⟨some 40, .mov (.t 9), none⟩,
          ⟨some 41, .icall (.t 35) [(.t 37), (.t 39), (.t 40)], none⟩,
          ⟨some 4, .mov (.t 41), none⟩])
       (.seq (.region [⟨some 42, .mov (.t 4), none⟩,
           ⟨some 43, .bin .lss (.t 42) (.c (.int Go.IntKind.i64 0)), none⟩])
        (.cond (.t 43)
         (.exit 0)
         (.skip))))))
    (.region [⟨some 44, .bin .add (.t 32) (.c (.int Go.IntKind.i64 1)), none⟩,
       ⟨some 32, .mov (.t 44), none⟩])))

def xSy : ACode := xLg
def xLh : List Nat := [2, 3, 7, 9, 10, 11, 12, 13, 14, 15, 16, 17, 18, 19, 20, 21, 22, 23, 24, 25, 28, 29, 30, 33, 34, 35, 36, 37, 38, 39, 40, 41, 42, 43, 44, 45]
abbrev xLi (s0 s1 s4 s5 s6 s8 s26 s27 s31 s32 : AV) : List AV := [s0, s1, .any, .any, s4, s5, s6, .any, s8, .any, .any, .any, .any, .any, .any, .any, .any, .any, .any, .any, .any, .any, .any, .any, .any, .any, s26, s27, .any, .any, .any, s31, s32, .any, .any, .any, .any, .any, .any, .any, .any, .any, .any, .any, .any, .any]
theorem xH8 (s0 s1 s2 s3 s4 s5 s6 s7 s8 s9 s10 s11 s12 s13 s14 s15 s16 s17 s18 s19 s20 s21 s22 s23 s24 s25 s26 s27 s28 s29 s30 s31 s32 s33 s34 s35 s36 s37 s38 s39 s40 s41 s42 s43 s44 s45 : AV) : xBw xLh [s0, s1, s2, s3, s4, s5, s6, s7, s8, s9, s10, s11, s12, s13, s14, s15, s16, s17, s18, s19, s20, s21, s22, s23, s24, s25, s26, s27, s28, s29, s30, s31, s32, s33, s34, s35, s36, s37, s38, s39, s40, s41, s42, s43, s44, s45] = xLi s0 s1 s4 s5 s6 s8 s26 s27 s31 s32 := by kernel_rfl
theorem xP7 {prog : Nat → Option AFunc} (s0 s1 s4 s5 s6 s8 s26 s27 s31 s32 : AV) (H : xAA) : (lim prog).loop xLh xSy ⟨xLi s0 s1 s4 s5 s6 s8 s26 s27 s31 s32, H⟩ = xCh (lim prog) xLh xSy (run (lim prog) xLg ⟨xLi s0 s1 s4 s5 s6 s8 s26 s27 s31 s32, H⟩) := xAS _ _ _ _ (by kernel_rfl)

def xH9 : ACode :=
  .seq (.region [⟨some 28, .bin .lss (.t 27) (.c (.int Go.IntKind.i64 2)), none⟩])
  (.seq (.cond (.t 28)
    (.skip)
    (.exit 4))
   (.seq (.block 5 (.seq (.region [⟨some 29, .idx true 2 2 (.t 26) (.t 27), none⟩,
         ⟨some 8, .box (.c (.agg [.int Go.IntKind.i64 0, .int Go.IntKind.i64 0])), none⟩,
         ⟨none, .store 2 (.t 8) (.t 29), none⟩])
      (.seq (.region [⟨some 30, .mov (.t 0), none⟩,
          ⟨some 31, .bin .shl (.c (.int Go.IntKind.i64 1)) (.t 30), none⟩,
          ⟨some 32, .mov (.c (.int Go.IntKind.i64 0)), none⟩])
       (.block 6 (.loop xLh xSy)))))
    (.region [⟨some 45, .bin .add (.t 27) (.c (.int Go.IntKind.i64 1)), none⟩,
       ⟨some 27, .mov (.t 45), none⟩])))

def xOM : ACode := xH9
def xIa : List Nat := [2, 3, 7, 8, 9, 10, 11, 12, 13, 14, 15, 16, 17, 18, 19, 20, 21, 22, 23, 24, 25, 28, 29, 30, 31, 32, 33, 34, 35, 36, 37, 38, 39, 40, 41, 42, 43, 44, 45]
abbrev xGz (s0 s1 s4 s5 s6 s26 s27 : AV) : List AV := [s0, s1, .any, .any, s4, s5, s6, .any, .any, .any, .any, .any, .any, .any, .any, .any, .any, .any, .any, .any, .any, .any, .any, .any, .any, .any, s26, s27, .any, .any, .any, .any, .any, .any, .any, .any, .any, .any, .any, .any, .any, .any, .any, .any, .any, .any]
theorem xIb (s0 s1 s2 s3 s4 s5 s6 s7 s8 s9 s10 s11 s12 s13 s14 s15 s16 s17 s18 s19 s20 s21 s22 s23 s24 s25 s26 s27 s28 s29 s30 s31 s32 s33 s34 s35 s36 s37 s38 s39 s40 s41 s42 s43 s44 s45 : AV) : xBw xIa [s0, s1, s2, s3, s4, s5, s6, s7, s8, s9, s10, s11, s12, s13, s14, s15, s16, s17, s18, s19, s20, s21, s22, s23, s24, s25, s26, s27, s28, s29, s30, s31, s32, s33, s34, s35, s36, s37, s38, s39, s40, s41, s42, s43, s44, s45] = xGz s0 s1 s4 s5 s6 s26 s27 := by kernel_rfl
theorem xLj {prog : Nat → Option AFunc} (s0 s1 s4 s5 s6 s26 s27 : AV) (H : xAA) : (lim prog).loop xIa xOM ⟨xGz s0 s1 s4 s5 s6 s26 s27, H⟩ = xCh (lim prog) xIa xOM (run (lim prog) xH9 ⟨xGz s0 s1 s4 s5 s6 s26 s27, H⟩) := xAS _ _ _ _ (by kernel_rfl)

def xLk : ACode :=
  .seq (.seq (.region [⟨some 15, .mov (.t 6), none⟩,
      ⟨some 16, .mov (.t 5), none⟩,
      ⟨some 17, .bin .leq (.t 15) (.t 16), none⟩])
   (.cond (.t 17)
    (.skip)
    (.exit 2)))
  (.seq (.block 3 (.seq (.region [⟨some 20, .mov (.t 6), none⟩,
        ⟨some 21, .mov (.t 5), none⟩,
        ⟨some 22, .build [.int Go.IntKind.i64 0, .int Go.IntKind.i64 0] [(0, 1, (.t 20)), (1, 1, (.t 21))], none⟩,
        ⟨some 23, .mov (.t 5), none⟩,
        ⟨some 24, .mov (.t 6), none⟩,
        ⟨some 25, .build [.int Go.IntKind.i64 0, .int Go.IntKind.i64 0] [(0, 1, (.t 23)), (1, 1, (.t 24))], none⟩,
        ⟨some 26, .build [.int Go.IntKind.i64 0, .int Go.IntKind.i64 0, .int Go.IntKind.i64 0, .int Go.IntKind.i64 0] [(0, 2, (.t 22)), (2, 2, (.t 25))], none⟩,
        ⟨some 27, .mov (.c (.int Go.IntKind.i64 0)), none⟩])
     (.block 4 (.loop xIa xOM))))
   (.region [⟨some 18, .mov (.t 6), none⟩,
      ⟨some 19, .bin .add (.t 18) (.c (.int Go.IntKind.i64 1)), none⟩,
      ⟨some 6, .mov (.t 19), none⟩]))

def xSz : ACode := xLk
def xLl : List Nat := [2, 3, 7, 8, 9, 10, 11, 12, 13, 14, 15, 16, 17, 18, 19, 20, 21, 22, 23, 24, 25, 26, 27, 28, 29, 30, 31, 32, 33, 34, 35, 36, 37, 38, 39, 40, 41, 42, 43, 44, 45]
abbrev xLm (s0 s1 s4 s5 s6 : AV) : List AV := [s0, s1, .any, .any, s4, s5, s6, .any, .any, .any, .any, .any, .any, .any, .any, .any, .any, .any, .any, .any, .any, .any, .any, .any, .any, .any, .any, .any, .any, .any, .any, .any, .any, .any, .any, .any, .any, .any, .any, .any, .any, .any, .any, .any, .any, .any]
theorem xLn (s0 s1 s2 s3 s4 s5 s6 s7 s8 s9 s10 s11 s12 s13 s14 s15 s16 s17 s18 s19 s20 s21 s22 s23 s24 s25 s26 s27 s28 s29 s30 s31 s32 s33 s34 s35 s36 s37 s38 s39 s40 s41 s42 s43 s44 s45 : AV) : xBw xLl [s0, s1, s2, s3, s4, s5, s6, s7, s8, s9, s10, s11, s12, s13, s14, s15, s16, s17, s18, s19, s20, s21, s22, s23, s24, s25, s26, s27, s28, s29, s30, s31, s32, s33, s34, s35, s36, s37, s38, s39, s40, s41, s42, s43, s44, s45] = xLm s0 s1 s4 s5 s6 := by kernel_rfl
theorem xP8 {prog : Nat → Option AFunc} (s0 s1 s4 s5 s6 : AV) (H : xAA) : (lim prog).loop xLl xSz ⟨xLm s0 s1 s4 s5 s6, H⟩ = xCh (lim prog) xLl xSz (run (lim prog) xLk ⟨xLm s0 s1 s4 s5 s6, H⟩) := xAS _ _ _ _ (by kernel_rfl)

def xJF : ACode :=
  .seq (.seq (.region [⟨some 10, .mov (.t 5), none⟩,
      ⟨some 11, .mov (.t 4), none⟩,
      ⟨some 12, .bin .lss (.t 10) (.t 11), none⟩])
   (.cond (.t 12)
    (.skip)
    (.exit 0)))
  (.seq (.block 1 (.seq (.region [⟨some 6, .mov (.c (.int Go.IntKind.i64 0)), none⟩])
     (.block 2 (.loop xLl xSz))))
   (.region [⟨some 13, .mov (.t 5), none⟩,
      ⟨some 14, .bin .add (.t 13) (.c (.int Go.IntKind.i64 1)), none⟩,
      ⟨some 5, .mov (.t 14), none⟩]))

def xSA : ACode := xJF
def xLo : List Nat := [2, 3, 6, 7, 8, 9, 10, 11, 12, 13, 14, 15, 16, 17, 18, 19, 20, 21, 22, 23, 24, 25, 26, 27, 28, 29, 30, 31, 32, 33, 34, 35, 36, 37, 38, 39, 40, 41, 42, 43, 44, 45]
abbrev xLp (s0 s1 s4 s5 : AV) : List AV := [s0, s1, .any, .any, s4, s5, .any, .any, .any, .any, .any, .any, .any, .any, .any, .any, .any, .any, .any, .any, .any, .any, .any, .any, .any, .any, .any, .any, .any, .any, .any, .any, .any, .any, .any, .any, .any, .any, .any, .any, .any, .any, .any, .any, .any, .any]
theorem xLq (s0 s1 s2 s3 s4 s5 s6 s7 s8 s9 s10 s11 s12 s13 s14 s15 s16 s17 s18 s19 s20 s21 s22 s23 s24 s25 s26 s27 s28 s29 s30 s31 s32 s33 s34 s35 s36 s37 s38 s39 s40 s41 s42 s43 s44 s45 : AV) : xBw xLo [s0, s1, s2, s3, s4, s5, s6, s7, s8, s9, s10, s11, s12, s13, s14, s15, s16, s17, s18, s19, s20, s21, s22, s23, s24, s25, s26, s27, s28, s29, s30, s31, s32, s33, s34, s35, s36, s37, s38, s39, s40, s41, s42, s43, s44, s45] = xLp s0 s1 s4 s5 := by kernel_rfl
theorem xNT {prog : Nat → Option AFunc} (s0 s1 s4 s5 : AV) (H : xAA) : (lim prog).loop xLo xSA ⟨xLp s0 s1 s4 s5, H⟩ = xCh (lim prog) xLo xSA (run (lim prog) xJF ⟨xLp s0 s1 s4 s5, H⟩) := xAS _ _ _ _ (by kernel_rfl)

def a75 : AFunc := ⟨46,
  .scope (.seq (.region [⟨some 4, .mov (.c (.int Go.IntKind.i64 1)), none⟩])
   (.seq (.label)
    (.seq (.region [⟨some 5, .mov (.c (.int Go.IntKind.i64 0)), none⟩])
     (.block 0 (.loop xLo xSA))))),
  []⟩

def a76 : AFunc := ⟨43,
  .seq (.region [⟨some 11, .mov (.c (.int Go.IntKind.i64 0)), none⟩])
  (.seq (.region [⟨some 15, .load false 1 (.t 3), none⟩,
      ⟨some 16, .mov (.t 0), none⟩,
      ⟨some 17, .mov (.t 1), none⟩,
      ⟨some 18, .mov (.t 2), none⟩,
      ⟨some 19, .icall (.t 15) [(.t 16), (.t 17), (.t 18)], none⟩,
      ⟨some 12, .mov (.t 19), none⟩])
   (.seq (.seq (.region [⟨some 21, .load false 1 (.t 4), none⟩,
        ⟨some 22, .mov (.t 12), none⟩,
        ⟨some 23, .mlook [0] true (.int Go.IntKind.i64 0) (.t 21) (.t 22), none⟩,
        ⟨some 20, .mov (.t 23), none⟩,
        ⟨some 24, .ext 0 (.t 20), none⟩,
        ⟨some 25, .ext 1 (.t 20), none⟩,
        ⟨some 13, .mov (.t 24), none⟩,
        ⟨some 14, .mov (.t 25), none⟩])
     (.seq (.region [⟨some 26, .mov (.t 14), none⟩,
         ⟨some 27, .un .not (.t 26), none⟩])
      (.cond (.t 27)
       (.seq (.region [⟨some 28, .load false 1 (.t 4), none⟩,
           ⟨some 29, .mov (.t 12), none⟩,
           ⟨some 30, .load false 1 (.t 5), none⟩,
           ⟨some 31, .len (.t 30), none⟩,
           ⟨none, .mupd [0] (.t 28) (.t 29) (.t 31), none⟩])
        (.region [⟨some 32, .load false 1 (.t 5), none⟩,
           ⟨some 33, .mov (.t 12), none⟩,
           ⟨some 34, .bslice true [.int Go.IntKind.u64 0] 1 1 [(0, (.t 33))], none⟩,
           ⟨some 35, .append false 1 8 (.t 32) (.t 34), none⟩,
           ⟨none, .store 1 (.t 5) (.t 35), none⟩]))
       (.skip))))
    (.seq (.seq (.region [⟨some 36, .load false 1 (.t 5), none⟩,
         ⟨some 37, .len (.t 36), none⟩,
         ⟨some 38, .load false 1 (.t 6), none⟩,
         ⟨some 39, .bin .gtr (.t 37) (.t 38), none⟩,
         ⟨none, .store 1 (.t 7) (.t 39), none⟩])
      (.seq (.region [⟨some 40, .load false 1 (.t 7), none⟩])
       (.cond (.t 40)
        (.seq (.region [⟨some 11, .mov (.c (.int Go.IntKind.i64 (-1))), none⟩])
         (.ret))
        (.skip))))
     (.seq (.region [⟨some 41, .load false 1 (.t 5), none⟩,
         ⟨some 42, .len (.t 41), none⟩,
         ⟨some 11, .mov (.t 42), none⟩])
      (.ret))))),
  [.tmp 11]⟩

def xLr : ACode :=
  .seq (.region [⟨some 5, .bin .lss (.t 4) (.c (.int Go.IntKind.i64 64)), none⟩])
  (.seq (.cond (.t 5)
    (.skip)
    (.exit 0))
   (.seq (.block 1 (.seq (.region [⟨some 6, .mov (.t 4), none⟩,
         ⟨some 3, .mov (.t 6), none⟩])
      (.seq (.region [⟨some 7, .mov (.t 0), none⟩,
          ⟨some 8, .mov (.t 3), none⟩,
          ⟨some 9, .bin .shr (.t 7) (.t 8), none⟩,
          ⟨some 10, .bin .and (.t 9) (.c (.int Go.IntKind.u64 1)), none⟩,
          ⟨some 11, .bin .neq (.t 10) (.c (.int Go.IntKind.u64 0)), none⟩])
       (.cond (.t 11)
        (.region [⟨some 12, .mov (.t 2), none⟩,
           ⟨some 13, .mov (.t 3), none⟩,
           ⟨some 14, .bslice true [.int Go.IntKind.i64 0] 1 1 [(0, (.t 13))], none⟩,
           ⟨some 15, .append false 1 8 (.t 12) (.t 14), none⟩,
           ⟨some 2, .mov (.t 15), none⟩])
        (.skip)))))
    (.region [⟨some 16, .bin .add (.t 4) (.c (.int Go.IntKind.i64 1)), none⟩,
       ⟨some 4, .mov (.t 16), none⟩])))

def xSB : ACode := xLr
def xLs : List Nat := [1, 3, 5, 6, 7, 8, 9, 10, 11, 12, 13, 14, 15, 16, 17]
abbrev xLt (s0 s2 s4 : AV) : List AV := [s0, .any, s2, .any, s4, .any, .any, .any, .any, .any, .any, .any, .any, .any, .any, .any, .any, .any]
theorem xNU (s0 s1 s2 s3 s4 s5 s6 s7 s8 s9 s10 s11 s12 s13 s14 s15 s16 s17 : AV) : xBw xLs [s0, s1, s2, s3, s4, s5, s6, s7, s8, s9, s10, s11, s12, s13, s14, s15, s16, s17] = xLt s0 s2 s4 := by kernel_rfl
theorem xP9 {prog : Nat → Option AFunc} (s0 s2 s4 : AV) (H : xAA) : (lim prog).loop xLs xSB ⟨xLt s0 s2 s4, H⟩ = xCh (lim prog) xLs xSB (run (lim prog) xLr ⟨xLt s0 s2 s4, H⟩) := xAS _ _ _ _ (by kernel_rfl)

def a77 : AFunc := ⟨18,
  .seq (.region [⟨some 2, .mov (.c (.sl true 0 [])), none⟩])
  (.seq (.seq (.region [⟨some 4, .mov (.c (.int Go.IntKind.i64 0)), none⟩])
    (.block 0 (.loop xLs xSB)))
   (.seq (.region [⟨some 17, .mov (.t 2), none⟩,
       ⟨some 2, .mov (.t 17), none⟩])
    (.ret))),
  [.tmp 2]⟩

def a78 : AFunc := ⟨16,
  .seq (.region [⟨some 8, .mov (.c (.int Go.IntKind.i64 0)), none⟩])
  (.seq (.draw 6 [⟨some 9, .load false 1 (.t 3), none⟩,
      ⟨some 10, .load false 1 (.t 4), none⟩,
      ⟨some 11, .mov (.t 0), none⟩,
      ⟨some 12, .mov (.t 1), none⟩,
      ⟨some 13, .mov (.t 2), none⟩,
      ⟨some 14, .fcall (.t 10) [(.t 11), (.t 12), (.t 13)], none⟩,
      ⟨some 15, .mlook [0] false (.int Go.IntKind.i64 0) (.t 9) (.t 14), none⟩,
      ⟨some 8, .mov (.t 15), none⟩])
   (.ret)),
  [.tmp 8]⟩

def a79 : AFunc := ⟨9,
  .seq (.region [⟨some 3, .box (.t 0), none⟩,
     ⟨some 4, .mov (.c (.bool false)), none⟩])
  (.seq (.region [⟨some 5, .faddr 3 (.t 1), none⟩,
      ⟨some 6, .load false 1 (.t 5), none⟩,
      ⟨some 7, .mkfunc 81 [(.t 2), (.t 3)], none⟩,
      ⟨some 8, .icall (.c (.func 80 [])) [(.t 6), (.t 7)], none⟩,
      ⟨some 4, .mov (.t 8), none⟩])
   (.ret)),
  [.tmp 4]⟩

def a80 : AFunc := ⟨9,
  .seq (.region [⟨some 4, .mov (.c (.bool false)), none⟩])
  (.seq (.region [⟨some 5, .mov (.t 0), none⟩,
      ⟨some 6, .mov (.t 1), none⟩,
      ⟨some 7, .icall (.c (.func 109 [])) [(.t 5), (.t 6)], none⟩,
      ⟨some 8, .bin .geq (.t 7) (.c (.int Go.IntKind.i64 0)), none⟩,
      ⟨some 4, .mov (.t 8), none⟩])
   (.ret)),
  [.tmp 4]⟩

def a81 : AFunc := ⟨13,
  .seq (.region [⟨some 4, .mov (.c (.bool false)), none⟩])
  (.seq (.region [⟨some 5, .load false 1 (.t 1), none⟩,
      ⟨some 6, .load false 1 (.t 2), none⟩,
      ⟨some 7, .iaddr 1 (.t 5) (.t 6), none⟩,
      ⟨some 8, .load false 1 (.t 7), none⟩,
      ⟨some 9, .mov (.t 0), none⟩,
      ⟨some 10, .bin .shr (.t 8) (.t 9), none⟩,
      ⟨some 11, .bin .and (.t 10) (.c (.int Go.IntKind.u64 1)), none⟩,
      ⟨some 12, .bin .neq (.t 11) (.c (.int Go.IntKind.u64 0)), none⟩,
      ⟨some 4, .mov (.t 12), none⟩])
   (.ret)),
  [.tmp 4]⟩

def a86 : AFunc := ⟨15,
  .seq (.region [⟨some 2, .box (.t 0), none⟩,
     ⟨some 4, .mov (.c (.int Go.IntKind.i64 0)), none⟩])
  (.seq (.seq (.region [⟨some 6, .load true 5 (.t 2), none⟩,
       ⟨some 7, .call 45 [(.t 6)], none⟩,
       ⟨some 5, .mov (.t 7), none⟩])
    (.seq (.region [⟨some 8, .mov (.t 5), none⟩,
        ⟨some 9, .bin .neq (.t 8) (.c (.int Go.IntKind.i64 0)), none⟩])
     (.cond (.t 9)
      (.seq (.region [⟨some 10, .mov (.t 5), none⟩,
          ⟨some 4, .mov (.t 10), none⟩])
       (.ret))
      (.skip))))
   (.seq (.region [⟨some 11, .mov (.t 1), none⟩,
       ⟨some 12, .faddr 0 (.t 2), none⟩,
       ⟨some 13, .load false 1 (.t 12), none⟩,
       ⟨some 14, .call 99 [(.t 11), (.t 13)], none⟩,
       ⟨some 4, .mov (.t 14), none⟩])
    (.ret))),
  [.tmp 4]⟩

def xIc : ACode :=
  .seq (.region [⟨some 41, .bin .lss (.t 40) (.t 39), none⟩])
  (.seq (.cond (.t 41)
    (.skip)
    (.exit 2))
   (.seq (.block 3 (.seq (.region [⟨some 42, .iaddr 5 (.t 38) (.t 40), none⟩,
         ⟨some 43, .load true 5 (.t 42), none⟩,
         ⟨some 14, .box (.c (.agg [.int Go.IntKind.i64 0, .int Go.IntKind.i64 0, .int Go.IntKind.i64 0, .int Go.IntKind.u8 0, .int Go.IntKind.u8 0])), none⟩,
         ⟨none, .store 5 (.t 14) (.t 43), none⟩])
      (.seq (.region [⟨some 44, .mov (.t 10), none⟩,
          ⟨some 45, .faddr 0 (.t 14), none⟩,
          ⟨some 46, .load false 1 (.t 45), none⟩,
          ⟨some 47, .bin .shr (.t 44) (.t 46), none⟩,
          ⟨some 48, .bin .and (.t 47) (.c (.int Go.IntKind.u64 1)), none⟩,
          ⟨some 49, .bin .neq (.t 48) (.c (.int Go.IntKind.u64 0)), none⟩,
          ⟨some 50, .mov (.t 49), none⟩,
          ⟨some 51, .mov (.t 11), some (50, true)⟩,
          ⟨some 52, .faddr 1 (.t 14), some (50, true)⟩,
          ⟨some 53, .load false 1 (.t 52), some (50, true)⟩,
          ⟨some 54, .bin .shr (.t 51) (.t 53), some (50, true)⟩,
          ⟨some 55, .bin .and (.t 54) (.c (.int Go.IntKind.u64 1)), some (50, true)⟩,
          ⟨some 56, .bin .neq (.t 55) (.c (.int Go.IntKind.u64 0)), some (50, true)⟩,
          ⟨some 57, .pick (.t 50) (.t 56) (.c (.bool false)), none⟩,
          ⟨some 58, .mov (.t 57), none⟩,
          ⟨some 59, .faddr 3 (.t 14), some (58, true)⟩,
          ⟨some 60, .load false 1 (.t 59), some (58, true)⟩,
          ⟨some 61, .faddr 4 (.t 14), some (58, true)⟩,
          ⟨some 62, .load false 1 (.t 61), some (58, true)⟩,
          ⟨some 63, .build [.int Go.IntKind.u8 0, .int Go.IntKind.u8 0] [(0, 1, (.t 60)), (1, 1, (.t 62))], some (58, true)⟩,
          ⟨some 64, .faddr 0 (.t 9), some (58, true)⟩,
          ⟨some 65, .load false 1 (.t 64), some (58, true)⟩,
          ⟨some 66, .call 113 [(.t 63), (.t 65)], some (58, true)⟩,
          ⟨some 67, .pick (.t 58) (.t 66) (.c (.bool false)), none⟩])
       (.cond (.t 67)
        (.region [⟨some 68, .mov (.t 12), none⟩,
           ⟨some 69, .faddr 2 (.t 14), none⟩,
           ⟨some 70, .load false 1 (.t 69), none⟩,
           ⟨some 71, .bin .shl (.c (.int Go.IntKind.u64 1)) (.t 70), none⟩,
           ⟨some 72, .bin .or (.t 68) (.t 71), none⟩,
           ⟨some 12, .mov (.t 72), none⟩])
        (.skip)))))
    (.region [⟨some 73, .bin .add (.t 40) (.c (.int Go.IntKind.i64 1)), none⟩,
       ⟨some 40, .mov (.t 73), none⟩])))

def xSC : ACode := xIc
def xLu : List Nat := [0, 3, 4, 13, 14, 15, 16, 17, 18, 19, 20, 21, 22, 23, 24, 25, 26, 27, 28, 29, 30, 31, 32, 33, 34, 35, 36, 37, 41, 42, 43, 44, 45, 46, 47, 48, 49, 50, 51, 52, 53, 54, 55, 56, 57, 58, 59, 60, 61, 62, 63, 64, 65, 66, 67, 68, 69, 70, 71, 72, 73, 74, 75, 76, 77, 78, 79, 80, 81, 82, 83, 84, 85, 86]
abbrev xLv (s1 s2 s5 s6 s7 s8 s9 s10 s11 s12 s38 s39 s40 : AV) : List AV := [.any, s1, s2, .any, .any, s5, s6, s7, s8, s9, s10, s11, s12, .any, .any, .any, .any, .any, .any, .any, .any, .any, .any, .any, .any, .any, .any, .any, .any, .any, .any, .any, .any, .any, .any, .any, .any, .any, s38, s39, s40, .any, .any, .any, .any, .any, .any, .any, .any, .any, .any, .any, .any, .any, .any, .any, .any, .any, .any, .any, .any, .any, .any, .any, .any, .any, .any, .any, .any, .any, .any, .any, .any, .any, .any, .any, .any, .any, .any, .any, .any, .any, .any, .any, .any, .any, .any]
theorem xGA (s0 s1 s2 s3 s4 s5 s6 s7 s8 s9 s10 s11 s12 s13 s14 s15 s16 s17 s18 s19 s20 s21 s22 s23 s24 s25 s26 s27 s28 s29 s30 s31 s32 s33 s34 s35 s36 s37 s38 s39 s40 s41 s42 s43 s44 s45 s46 s47 s48 s49 s50 s51 s52 s53 s54 s55 s56 s57 s58 s59 s60 s61 s62 s63 s64 s65 s66 s67 s68 s69 s70 s71 s72 s73 s74 s75 s76 s77 s78 s79 s80 s81 s82 s83 s84 s85 s86 : AV) : xBw xLu [s0, s1, s2, s3, s4, s5, s6, s7, s8, s9, s10, s11, s12, s13, s14, s15, s16, s17, s18, s19, s20, s21, s22, s23, s24, s25, s26, s27, s28, s29, s30, s31, s32, s33, s34, s35, s36, s37, s38, s39, s40, s41, s42, s43, s44, s45, s46, s47, s48, s49, s50, s51, s52, s53, s54, s55, s56, s57, s58, s59, s60, s61, s62, s63, s64, s65, s66, s67, s68, s69, s70, s71, s72, s73, s74, s75, s76, s77, s78, s79, s80, s81, s82, s83, s84, s85, s86] = xLv s1 s2 s5 s6 s7 s8 s9 s10 s11 s12 s38 s39 s40 := by kernel_rfl
theorem xLw {prog : Nat → Option AFunc} (s1 s2 s5 s6 s7 s8 s9 s10 s11 s12 s38 s39 s40 : AV) (H : xAA) : (lim prog).loop xLu xSC ⟨xLv s1 s2 s5 s6 s7 s8 s9 s10 s11 s12 s38 s39 s40, H⟩ = xCh (lim prog) xLu xSC (run (lim prog) xIc ⟨xLv s1 s2 s5 s6 s7 s8 s9 s10 s11 s12 s38 s39 s40, H⟩) := xAS _ _ _ _ (by kernel_rfl)

def xId : ACode :=
  .seq (.seq (.region [⟨some 21, .mov (.t 7), none⟩,
      ⟨some 22, .bin .gtr (.t 21) (.c (.int Go.IntKind.i64 0)), none⟩])
   (.cond (.t 22)
    (.skip)
    (.exit 0)))
  (.block 1 (.seq (.region [⟨some 23, .mov (.t 7), none⟩,
       ⟨some 24, .bin .sub (.t 23) (.c (.int Go.IntKind.i64 1)), none⟩,
       ⟨some 7, .mov (.t 24), none⟩])
    (.seq (.region [⟨some 25, .mov (.t 1), none⟩,
        ⟨some 26, .mov (.t 7), none⟩,
        ⟨some 27, .iaddr 3 (.t 25) (.t 26), none⟩,
        ⟨some 28, .load true 3 (.t 27), none⟩,
        ⟨some 9, .box (.c (.agg [.int Go.IntKind.u8 0, .int Go.IntKind.i64 0, .int Go.IntKind.i64 0])), none⟩,
        ⟨none, .store 3 (.t 9) (.t 28), none⟩])
     (.seq (.region [⟨some 29, .mov (.t 8), none⟩,
         ⟨some 30, .faddr 1 (.t 9), none⟩,
         ⟨some 31, .load false 1 (.t 30), none⟩,
         ⟨some 32, .icall (.t 29) [(.t 31)], none⟩,
         ⟨some 10, .mov (.t 32), none⟩])
      (.seq (.region [⟨some 33, .mov (.t 8), none⟩,
          ⟨some 34, .faddr 2 (.t 9), none⟩,
          ⟨some 35, .load false 1 (.t 34), none⟩,
          ⟨some 36, .icall (.t 33) [(.t 35)], none⟩,
          ⟨some 11, .mov (.t 36), none⟩])
       (.seq (.region [⟨some 12, .mov (.c (.int Go.IntKind.u64 0)), none⟩])
        (.seq (.seq (.region [⟨some 37, .faddr 4 (.t 2), none⟩,
             ⟨some 38, .load false 1 (.t 37), none⟩,
             ⟨some 39, .len (.t 38), none⟩,
             ⟨some 40, .mov (.c (.int Go.IntKind.i64 0)), none⟩])
          (.block 2 (.loop xLu xSC)))
         (.seq (.region [⟨some 74, .load false 1 (.t 6), none⟩,
             ⟨some 75, .mov (.t 12), none⟩,
             ⟨some 76, .bslice true [.int Go.IntKind.u64 0] 1 1 [(0, (.t 75))], none⟩,
             ⟨some 77, .append false 1 8 (.t 74) (.t 76), none⟩,
             ⟨none, .store 1 (.t 6) (.t 77), none⟩])
          (.seq (.region [⟨some 78, .mov (.t 7), none⟩,
              ⟨some 79, .bin .eql (.t 78) (.c (.int Go.IntKind.i64 0)), none⟩])
           (.cond (.t 79)
            (.exit 0)
            (.skip)))))))))))

def xSD : ACode := xId
def xLx : List Nat := [0, 3, 4, 9, 10, 11, 12, 13, 14, 15, 16, 17, 18, 19, 20, 21, 22, 23, 24, 25, 26, 27, 28, 29, 30, 31, 32, 33, 34, 35, 36, 37, 38, 39, 40, 41, 42, 43, 44, 45, 46, 47, 48, 49, 50, 51, 52, 53, 54, 55, 56, 57, 58, 59, 60, 61, 62, 63, 64, 65, 66, 67, 68, 69, 70, 71, 72, 73, 74, 75, 76, 77, 78, 79, 80, 81, 82, 83, 84, 85, 86]
abbrev xJG (s1 s2 s5 s6 s7 s8 : AV) : List AV := [.any, s1, s2, .any, .any, s5, s6, s7, s8, .any, .any, .any, .any, .any, .any, .any, .any, .any, .any, .any, .any, .any, .any, .any, .any, .any, .any, .any, .any, .any, .any, .any, .any, .any, .any, .any, .any, .any, .any, .any, .any, .any, .any, .any, .any, .any, .any, .any, .any, .any, .any, .any, .any, .any, .any, .any, .any, .any, .any, .any, .any, .any, .any, .any, .any, .any, .any, .any, .any, .any, .any, .any, .any, .any, .any, .any, .any, .any, .any, .any, .any, .any, .any, .any, .any, .any, .any]
theorem xIe (s0 s1 s2 s3 s4 s5 s6 s7 s8 s9 s10 s11 s12 s13 s14 s15 s16 s17 s18 s19 s20 s21 s22 s23 s24 s25 s26 s27 s28 s29 s30 s31 s32 s33 s34 s35 s36 s37 s38 s39 s40 s41 s42 s43 s44 s45 s46 s47 s48 s49 s50 s51 s52 s53 s54 s55 s56 s57 s58 s59 s60 s61 s62 s63 s64 s65 s66 s67 s68 s69 s70 s71 s72 s73 s74 s75 s76 s77 s78 s79 s80 s81 s82 s83 s84 s85 s86 : AV) : xBw xLx [s0, s1, s2, s3, s4, s5, s6, s7, s8, s9, s10, s11, s12, s13, s14, s15, s16, s17, s18, s19, s20, s21, s22, s23, s24, s25, s26, s27, s28, s29, s30, s31, s32, s33, s34, s35, s36, s37, s38, s39, s40, s41, s42, s43, s44, s45, s46, s47, s48, s49, s50, s51, s52, s53, s54, s55, s56, s57, s58, s59, s60, s61, s62, s63, s64, s65, s66, s67, s68, s69, s70, s71, s72, s73, s74, s75, s76, s77, s78, s79, s80, s81, s82, s83, s84, s85, s86] = xJG s1 s2 s5 s6 s7 s8 := by kernel_rfl
theorem xUz {prog : Nat → Option AFunc} (s1 s2 s5 s6 s7 s8 : AV) (H : xAA) : (lim prog).loop xLx xSD ⟨xJG s1 s2 s5 s6 s7 s8, H⟩ = xCh (lim prog) xLx xSD (run (lim prog) xId ⟨xJG s1 s2 s5 s6 s7 s8, H⟩) := xAS _ _ _ _ (by kernel_rfl)

def a87 : AFunc := ⟨87,
  .seq (.region [⟨some 2, .box (.t 0), none⟩,
     ⟨some 4, .mov (.c (.int Go.IntKind.u64 0)), none⟩])
  (.scope (.seq (.region [⟨some 15, .faddr 2 (.t 2), none⟩,
       ⟨some 16, .load false 1 (.t 15), none⟩,
       ⟨some 17, .call 88 [(.t 16)], none⟩,
       ⟨some 5, .box (.c (.int Go.IntKind.u64 0)), none⟩,
       ⟨none, .store 1 (.t 5) (.t 17), none⟩])
    (.seq (.region [⟨some 6, .box (.c (.sl true 0 [])), none⟩])
     (.seq (.region [⟨some 18, .mov (.t 1), none⟩,
         ⟨some 19, .len (.t 18), none⟩,
         ⟨some 7, .mov (.t 19), none⟩])
      (.seq (.region [⟨some 20, .mkfunc 112 [(.t 5), (.t 6)], none⟩,
          ⟨some 8, .mov (.t 20), none⟩])
       (.seq (.label)
        (.seq (.block 0 (.loop xLx xSD))
         (.seq (.seq (.region [⟨some 80, .mov (.t 1), none⟩,
              ⟨some 81, .len (.t 80), none⟩,
              ⟨some 82, .bin .eql (.t 81) (.c (.int Go.IntKind.i64 0)), none⟩])
           (.cond (.t 82)
            (.seq (.region [⟨some 83, .load false 1 (.t 5), none⟩,
                ⟨some 4, .mov (.t 83), none⟩])
             (.ret))
            (.skip)))
          (.seq (.region [⟨some 84, .load false 1 (.t 6), none⟩,
              ⟨some 85, .iaddr 1 (.t 84) (.c (.int Go.IntKind.i64 0)), none⟩,
              ⟨some 86, .load false 1 (.t 85), none⟩,
              ⟨some 4, .mov (.t 86), none⟩])
           (.ret)))))))))),
  [.tmp 4]⟩

def xNV : ACode :=
  .seq (.region [⟨some 8, .bin .lss (.t 7) (.t 6), none⟩])
  (.seq (.cond (.t 8)
    (.skip)
    (.exit 0))
   (.seq (.block 1 (.seq (.region [⟨some 9, .iaddr 1 (.t 5) (.t 7), none⟩,
         ⟨some 10, .load false 1 (.t 9), none⟩,
         ⟨some 4, .mov (.t 10), none⟩])
      (.region [⟨some 11, .mov (.t 2), none⟩,
         ⟨some 12, .mov (.t 4), none⟩,
         ⟨some 13, .bin .shl (.c (.int Go.IntKind.u64 1)) (.t 12), none⟩,
         ⟨some 14, .bin .or (.t 11) (.t 13), none⟩,
         ⟨some 2, .mov (.t 14), none⟩])))
    (.region [⟨some 15, .bin .add (.t 7) (.c (.int Go.IntKind.i64 1)), none⟩,
       ⟨some 7, .mov (.t 15), none⟩])))

def xSE : ACode := xNV
def xLy : List Nat := [0, 1, 3, 4, 8, 9, 10, 11, 12, 13, 14, 15, 16]
abbrev xLz (s2 s5 s6 s7 : AV) : List AV := [.any, .any, s2, .any, .any, s5, s6, s7, .any, .any, .any, .any, .any, .any, .any, .any, .any]
theorem xQa (s0 s1 s2 s3 s4 s5 s6 s7 s8 s9 s10 s11 s12 s13 s14 s15 s16 : AV) : xBw xLy [s0, s1, s2, s3, s4, s5, s6, s7, s8, s9, s10, s11, s12, s13, s14, s15, s16] = xLz s2 s5 s6 s7 := by kernel_rfl
theorem xUA {prog : Nat → Option AFunc} (s2 s5 s6 s7 : AV) (H : xAA) : (lim prog).loop xLy xSE ⟨xLz s2 s5 s6 s7, H⟩ = xCh (lim prog) xLy xSE (run (lim prog) xNV ⟨xLz s2 s5 s6 s7, H⟩) := xAS _ _ _ _ (by kernel_rfl)

def a88 : AFunc := ⟨17,
  .seq (.region [⟨some 2, .mov (.c (.int Go.IntKind.u64 0)), none⟩])
  (.seq (.seq (.region [⟨some 5, .mov (.t 0), none⟩,
       ⟨some 6, .len (.t 5), none⟩,
       ⟨some 7, .mov (.c (.int Go.IntKind.i64 0)), none⟩])
    (.block 0 (.loop xLy xSE)))
   (.seq (.region [⟨some 16, .mov (.t 2), none⟩,
       ⟨some 2, .mov (.t 16), none⟩])
    (.ret))),
  [.tmp 2]⟩

def xIf : ACode :=
  .seq (.region [⟨some 11, .bin .lss (.t 10) (.t 9), none⟩])
  (.seq (.cond (.t 11)
    (.skip)
    (.exit 0))
   (.seq (.block 1 (.seq (.region [⟨some 12, .iaddr 1 (.t 8) (.t 10), none⟩,
         ⟨some 13, .load false 1 (.t 12), none⟩,
         ⟨some 7, .mov (.t 13), none⟩])
      (.seq (.seq (.region [⟨some 14, .mov (.t 7), none⟩,
           ⟨some 15, .mov (.t 5), none⟩,
           ⟨some 16, .bin .leq (.t 14) (.t 15), none⟩,
           ⟨some 17, .mov (.t 16), none⟩,
           ⟨some 18, .mov (.t 7), some (17, false)⟩,
           ⟨some 19, .mov (.t 1), some (17, false)⟩,
           ⟨some 20, .bin .geq (.t 18) (.t 19), some (17, false)⟩,
           ⟨some 21, .pick (.t 17) (.c (.bool true)) (.t 20), none⟩])
        (.cond (.t 21)
         (.seq (.region [⟨some 4, .mov (.c (.int Go.IntKind.i64 8)), none⟩])
          (.ret))
         (.skip)))
       (.region [⟨some 22, .mov (.t 7), none⟩,
          ⟨some 5, .mov (.t 22), none⟩]))))
    (.region [⟨some 23, .bin .add (.t 10) (.c (.int Go.IntKind.i64 1)), none⟩,
       ⟨some 10, .mov (.t 23), none⟩])))

def xSF : ACode := xIf
def xLA : List Nat := [0, 2, 3, 6, 7, 11, 12, 13, 14, 15, 16, 17, 18, 19, 20, 21, 22, 23]
abbrev xJH (s1 s4 s5 s8 s9 s10 : AV) : List AV := [.any, s1, .any, .any, s4, s5, .any, .any, s8, s9, s10, .any, .any, .any, .any, .any, .any, .any, .any, .any, .any, .any, .any, .any]
theorem xIg (s0 s1 s2 s3 s4 s5 s6 s7 s8 s9 s10 s11 s12 s13 s14 s15 s16 s17 s18 s19 s20 s21 s22 s23 : AV) : xBw xLA [s0, s1, s2, s3, s4, s5, s6, s7, s8, s9, s10, s11, s12, s13, s14, s15, s16, s17, s18, s19, s20, s21, s22, s23] = xJH s1 s4 s5 s8 s9 s10 := by kernel_rfl
theorem xNW {prog : Nat → Option AFunc} (s1 s4 s5 s8 s9 s10 : AV) (H : xAA) : (lim prog).loop xLA xSF ⟨xJH s1 s4 s5 s8 s9 s10, H⟩ = xCh (lim prog) xLA xSF (run (lim prog) xIf ⟨xJH s1 s4 s5 s8 s9 s10, H⟩) := xAS _ _ _ _ (by kernel_rfl)

def a89 : AFunc := ⟨24,
  .seq (.region [⟨some 4, .mov (.c (.int Go.IntKind.i64 0)), none⟩])
  (.seq (.region [⟨some 5, .mov (.c (.int Go.IntKind.i64 (-1))), none⟩])
   (.seq (.seq (.region [⟨some 8, .mov (.t 0), none⟩,
        ⟨some 9, .len (.t 8), none⟩,
        ⟨some 10, .mov (.c (.int Go.IntKind.i64 0)), none⟩])
     (.block 0 (.loop xLA xSF)))
    (.seq (.region [⟨some 4, .mov (.c (.int Go.IntKind.i64 0)), none⟩])
     (.ret)))),
  [.tmp 4]⟩

def a90 : AFunc := ⟨28,
  .seq (.region [⟨some 2, .box (.t 0), none⟩,
     ⟨some 4, .mov (.c (.int Go.IntKind.i64 0)), none⟩])
  (.seq (.block 0 (.seq (.seq (.region [⟨some 6, .mov (.t 1), none⟩,
         ⟨some 7, .bin .lss (.t 6) (.c (.int Go.IntKind.i64 0)), none⟩,
         ⟨some 8, .mov (.t 7), none⟩,
         ⟨some 9, .mov (.t 1), some (8, false)⟩,
         ⟨some 10, .bin .gtr (.t 9) (.c (.int Go.IntKind.i64 6)), some (8, false)⟩,
         ⟨some 11, .pick (.t 8) (.c (.bool true)) (.t 10), none⟩,
         ⟨some 5, .mov (.t 11), none⟩])
      (.cond (.t 5)
       (.skip)
       (.draw 6 [⟨some 12, .faddr 0 (.t 2), none⟩,
          ⟨some 13, .load false 1 (.t 12), none⟩,
          ⟨some 14, .faddr 1 (.t 2), none⟩,
          ⟨some 15, .load false 1 (.t 14), none⟩,
          ⟨some 16, .bin .or (.t 13) (.t 15), none⟩,
          ⟨some 17, .conv Go.IntKind.i64 (.t 16), none⟩,
          ⟨some 18, .mov (.t 1), none⟩,
          ⟨some 19, .bin .shl (.c (.int Go.IntKind.i64 1)) (.t 18), none⟩,
          ⟨some 20, .bin .geq (.t 17) (.t 19), none⟩,
          ⟨some 5, .mov (.t 20), none⟩])))
     (.cond (.t 5)
      (.seq (.region [⟨some 4, .mov (.c (.int Go.IntKind.i64 7)), none⟩])
       (.ret))
      (.seq (.region [⟨some 22, .faddr 0 (.t 2), none⟩,
          ⟨some 23, .load false 1 (.t 22), none⟩,
          ⟨some 24, .faddr 1 (.t 2), none⟩,
          ⟨some 25, .load false 1 (.t 24), none⟩,
          ⟨some 26, .bin .and (.t 23) (.t 25), none⟩,
          ⟨some 27, .bin .neq (.t 26) (.c (.int Go.IntKind.u8 0)), none⟩,
          ⟨some 21, .mov (.t 27), none⟩])
       (.cond (.t 21)
        (.seq (.region [⟨some 4, .mov (.c (.int Go.IntKind.i64 2)), none⟩])
         (.ret))
        (.skip))))))
   (.seq (.region [⟨some 4, .mov (.c (.int Go.IntKind.i64 0)), none⟩])
    (.ret))),
  [.tmp 4]⟩

def a91 : AFunc := ⟨18,
  .seq (.region [⟨some 2, .mov (.c (.bool false)), none⟩])
  (.seq (.region [⟨some 3, .mov (.t 0), none⟩,
      ⟨some 4, .len (.t 3), none⟩,
      ⟨some 5, .bin .eql (.t 4) (.c (.int Go.IntKind.i64 0)), none⟩,
      ⟨some 6, .mov (.t 5), none⟩,
      ⟨some 7, .mov (.t 0), some (6, false)⟩,
      ⟨some 8, .len (.t 7), some (6, false)⟩,
      ⟨some 9, .bin .leq (.t 8) (.c (.int Go.IntKind.i64 31)), some (6, false)⟩,
      ⟨some 10, .mov (.t 9), some (6, false)⟩,
      ⟨some 11, .mov (.t 0), some (10, true)⟩,
      ⟨some 12, .call 114 [(.t 11), (.c (.int Go.IntKind.i64 0))], some (10, true)⟩,
      ⟨some 13, .mov (.t 0), some (10, true)⟩,
      ⟨some 14, .len (.t 13), some (10, true)⟩,
      ⟨some 15, .bin .eql (.t 12) (.t 14), some (10, true)⟩,
      ⟨some 16, .pick (.t 10) (.t 15) (.c (.bool false)), some (6, false)⟩,
      ⟨some 17, .pick (.t 6) (.c (.bool true)) (.t 16), none⟩,
      ⟨some 2, .mov (.t 17), none⟩])
   (.ret)),
  [.tmp 2]⟩

def a93 : AFunc := ⟨6,
  .seq (.region [⟨some 2, .mov (.c (.sl true 0 [])), none⟩])
  (.seq (.region [⟨some 3, .mov (.t 0), none⟩,
      ⟨some 4, .bslice true [.int Go.IntKind.u64 0] 1 1 [(0, (.t 3))], none⟩,
      ⟨some 5, .call 95 [(.t 4)], none⟩,
      ⟨some 2, .mov (.t 5), none⟩])
   (.ret)),
  [.tmp 2]⟩

def xJI : ACode :=
  .seq (.region [⟨some 14, .bin .lss (.t 13) (.t 12), none⟩])
  (.seq (.cond (.t 14)
    (.skip)
    (.exit 0))
   (.seq (.block 1 (.seq (.region [⟨some 15, .mov (.t 13), none⟩,
         ⟨some 5, .mov (.t 15), none⟩])
      (.seq (.draw 5 [⟨some 16, .mov (.t 0), none⟩,
          ⟨some 17, .mov (.t 5), none⟩,
          ⟨some 18, .iaddr 1 (.t 16) (.t 17), none⟩,
          ⟨some 19, .load false 1 (.t 18), none⟩,
          ⟨some 20, .mov (.t 1), none⟩,
          ⟨some 21, .mov (.t 5), none⟩,
          ⟨some 22, .iaddr 1 (.t 20) (.t 21), none⟩,
          ⟨some 23, .load false 1 (.t 22), none⟩,
          ⟨some 24, .bin .neq (.t 19) (.t 23), none⟩])
       (.cond (.t 24)
        (.seq (.region [⟨some 4, .mov (.c (.bool false)), none⟩])
         (.ret))
        (.skip)))))
    (.region [⟨some 25, .bin .add (.t 13) (.c (.int Go.IntKind.i64 1)), none⟩,
       ⟨some 13, .mov (.t 25), none⟩])))

def xSG : ACode := xJI
def xLB : List Nat := [2, 3, 5, 6, 7, 8, 9, 10, 11, 14, 15, 16, 17, 18, 19, 20, 21, 22, 23, 24, 25]
abbrev xJJ (s0 s1 s4 s12 s13 : AV) : List AV := [s0, s1, .any, .any, s4, .any, .any, .any, .any, .any, .any, .any, s12, s13, .any, .any, .any, .any, .any, .any, .any, .any, .any, .any, .any, .any]
theorem xJK (s0 s1 s2 s3 s4 s5 s6 s7 s8 s9 s10 s11 s12 s13 s14 s15 s16 s17 s18 s19 s20 s21 s22 s23 s24 s25 : AV) : xBw xLB [s0, s1, s2, s3, s4, s5, s6, s7, s8, s9, s10, s11, s12, s13, s14, s15, s16, s17, s18, s19, s20, s21, s22, s23, s24, s25] = xJJ s0 s1 s4 s12 s13 := by kernel_rfl
theorem xQb {prog : Nat → Option AFunc} (s0 s1 s4 s12 s13 : AV) (H : xAA) : (lim prog).loop xLB xSG ⟨xJJ s0 s1 s4 s12 s13, H⟩ = xCh (lim prog) xLB xSG (run (lim prog) xJI ⟨xJJ s0 s1 s4 s12 s13, H⟩) := xAS _ _ _ _ (by kernel_rfl)

def a94 : AFunc := ⟨26,
  .seq (.region [⟨some 4, .mov (.c (.bool false)), none⟩])
  (.seq (.seq (.region [⟨some 6, .mov (.t 0), none⟩,
       ⟨some 7, .len (.t 6), none⟩,
       ⟨some 8, .mov (.t 1), none⟩,
       ⟨some 9, .len (.t 8), none⟩,
       ⟨some 10, .bin .neq (.t 7) (.t 9), none⟩])
    (.cond (.t 10)
     (.seq (.region [⟨some 4, .mov (.c (.bool false)), none⟩])
      (.ret))
     (.skip)))
   (.seq (.seq (.region [⟨some 11, .mov (.t 0), none⟩,
        ⟨some 12, .len (.t 11), none⟩,
        ⟨some 13, .mov (.c (.int Go.IntKind.i64 0)), none⟩])
     (.block 0 (.loop xLB xSG)))
    (.seq (.region [⟨some 4, .mov (.c (.bool true)), none⟩])
     (.ret)))),
  [.tmp 4]⟩

def a95 : AFunc := ⟨5,
  .seq (.region [⟨some 2, .mov (.c (.sl true 0 [])), none⟩])
  (.seq (.region [⟨some 3, .mov (.t 0), none⟩,
      ⟨some 4, .call 117 [(.t 3), (.c (.sl true 0 []))], none⟩,
      ⟨some 2, .mov (.t 4), none⟩])
   (.ret)),
  [.tmp 2]⟩

def a96 : AFunc := ⟨9,
  .seq (.region [⟨some 4, .mov (.c (.sl true 0 [])), none⟩])
  (.seq (.region [⟨some 5, .mov (.t 0), none⟩,
      ⟨some 6, .mov (.t 1), none⟩,
      ⟨some 7, .call 118 [(.t 6)], none⟩,
      ⟨some 8, .call 117 [(.t 5), (.t 7)], none⟩,
      ⟨some 4, .mov (.t 8), none⟩])
   (.ret)),
  [.tmp 4]⟩

def xJL : ACode :=
  .seq (.region [⟨some 21, .bin .lss (.t 20) (.t 19), none⟩])
  (.seq (.cond (.t 21)
    (.skip)
    (.exit 1))
   (.seq (.block 2 (.seq (.region [⟨some 22, .iaddr 3 (.t 18) (.t 20), none⟩,
         ⟨some 23, .load true 3 (.t 22), none⟩,
         ⟨some 6, .box (.c (.agg [.int Go.IntKind.u8 0, .int Go.IntKind.i64 0, .int Go.IntKind.i64 0])), none⟩,
         ⟨none, .store 3 (.t 6) (.t 23), none⟩])
      (.seq (.region [⟨some 24, .faddr 0 (.t 6), none⟩,
          ⟨some 25, .load false 1 (.t 24), none⟩,
          ⟨some 26, .conv Go.IntKind.i64 (.t 25), none⟩,
          ⟨some 27, .mov (.t 1), none⟩,
          ⟨some 28, .bin .shr (.t 26) (.t 27), none⟩,
          ⟨some 29, .bin .neq (.t 28) (.c (.int Go.IntKind.i64 0)), none⟩])
       (.cond (.t 29)
        (.seq (.region [⟨some 4, .mov (.c (.int Go.IntKind.i64 1)), none⟩])
         (.ret))
        (.skip)))))
    (.region [⟨some 30, .bin .add (.t 20) (.c (.int Go.IntKind.i64 1)), none⟩,
       ⟨some 20, .mov (.t 30), none⟩])))

def xQc : ACode := xJL
def xJM : List Nat := [2, 3, 5, 6, 7, 8, 9, 10, 11, 12, 13, 14, 15, 16, 17, 21, 22, 23, 24, 25, 26, 27, 28, 29, 30, 31, 32, 33]
abbrev xIh (s0 s1 s4 s18 s19 s20 : AV) : List AV := [s0, s1, .any, .any, s4, .any, .any, .any, .any, .any, .any, .any, .any, .any, .any, .any, .any, .any, s18, s19, s20, .any, .any, .any, .any, .any, .any, .any, .any, .any, .any, .any, .any, .any]
theorem xF9 (s0 s1 s2 s3 s4 s5 s6 s7 s8 s9 s10 s11 s12 s13 s14 s15 s16 s17 s18 s19 s20 s21 s22 s23 s24 s25 s26 s27 s28 s29 s30 s31 s32 s33 : AV) : xBw xJM [s0, s1, s2, s3, s4, s5, s6, s7, s8, s9, s10, s11, s12, s13, s14, s15, s16, s17, s18, s19, s20, s21, s22, s23, s24, s25, s26, s27, s28, s29, s30, s31, s32, s33] = xIh s0 s1 s4 s18 s19 s20 := by kernel_rfl
theorem xNX {prog : Nat → Option AFunc} (s0 s1 s4 s18 s19 s20 : AV) (H : xAA) : (lim prog).loop xJM xQc ⟨xIh s0 s1 s4 s18 s19 s20, H⟩ = xCh (lim prog) xJM xQc (run (lim prog) xJL ⟨xIh s0 s1 s4 s18 s19 s20, H⟩) := xAS _ _ _ _ (by kernel_rfl)

def a99 : AFunc := ⟨34,
  .seq (.region [⟨some 4, .mov (.c (.int Go.IntKind.i64 0)), none⟩])
  (.seq (.block 0 (.seq (.region [⟨some 8, .mov (.t 1), none⟩,
        ⟨some 9, .bin .lss (.t 8) (.c (.int Go.IntKind.i64 0)), none⟩,
        ⟨some 10, .mov (.t 9), none⟩,
        ⟨some 11, .mov (.t 1), some (10, false)⟩,
        ⟨some 12, .bin .gtr (.t 11) (.c (.int Go.IntKind.i64 3)), some (10, false)⟩,
        ⟨some 13, .pick (.t 10) (.c (.bool true)) (.t 12), none⟩,
        ⟨some 7, .mov (.t 13), none⟩])
     (.cond (.t 7)
      (.seq (.region [⟨some 4, .mov (.c (.int Go.IntKind.i64 7)), none⟩])
       (.ret))
      (.seq (.region [⟨some 15, .mov (.t 0), none⟩,
          ⟨some 16, .len (.t 15), none⟩,
          ⟨some 17, .bin .gtr (.t 16) (.c (.int Go.IntKind.i64 31)), none⟩,
          ⟨some 14, .mov (.t 17), none⟩])
       (.cond (.t 14)
        (.seq (.region [⟨some 4, .mov (.c (.int Go.IntKind.i64 4)), none⟩])
         (.ret))
        (.skip))))))
   (.seq (.seq (.region [⟨some 18, .mov (.t 0), none⟩,
        ⟨some 19, .len (.t 18), none⟩,
        ⟨some 20, .mov (.c (.int Go.IntKind.i64 0)), none⟩])
     (.block 1 (.loop xJM xQc)))
    (.seq (.seq (.region [⟨some 31, .mov (.t 0), none⟩,
         ⟨some 32, .call 91 [(.t 31)], none⟩,
         ⟨some 33, .un .not (.t 32), none⟩])
      (.cond (.t 33)
       (.seq (.region [⟨some 4, .mov (.c (.int Go.IntKind.i64 2)), none⟩])
        (.ret))
       (.skip)))
     (.seq (.region [⟨some 4, .mov (.c (.int Go.IntKind.i64 0)), none⟩])
      (.ret))))),
  [.tmp 4]⟩

def xYc : AFunc := ⟨12,
  .seq (.region [⟨some 4, .mov (.c (.int Go.IntKind.i64 0)), none⟩])
  (.seq (.seq (.region [⟨some 5, .mov (.t 0), none⟩,
       ⟨some 6, .bin .lss (.t 5) (.c (.int Go.IntKind.i64 0)), none⟩])
    (.cond (.t 6)
     (.region [⟨some 7, .load false 1 (.t 1), none⟩,
        ⟨some 0, .mov (.t 7), none⟩])
     (.skip)))
   (.seq (.region [⟨some 8, .load false 1 (.t 2), none⟩,
       ⟨some 9, .mov (.t 0), none⟩,
       ⟨some 10, .iaddr 1 (.t 8) (.t 9), none⟩,
       ⟨some 11, .load false 1 (.t 10), none⟩,
       ⟨some 4, .mov (.t 11), none⟩])
    (.ret))),
  [.tmp 4]⟩

def yA2 : AFunc := ⟨48,
  .seq (.region [⟨some 9, .mov (.c (.int Go.IntKind.i64 0)), none⟩])
  (.seq (.draw 14 [⟨some 13, .faddr 2 (.t 3), none⟩,
      ⟨some 14, .load false 1 (.t 13), none⟩,
      ⟨some 15, .load false 1 (.t 4), none⟩,
      ⟨some 16, .mov (.t 0), none⟩,
      ⟨some 17, .iaddr 1 (.t 15) (.t 16), none⟩,
      ⟨some 18, .load false 1 (.t 17), none⟩,
      ⟨some 19, .iaddr 1 (.t 14) (.t 18), none⟩,
      ⟨some 20, .load false 1 (.t 19), none⟩,
      ⟨some 21, .load false 1 (.t 4), none⟩,
      ⟨some 22, .mov (.t 1), none⟩,
      ⟨some 23, .iaddr 1 (.t 21) (.t 22), none⟩,
      ⟨some 24, .load false 1 (.t 23), none⟩,
      ⟨some 25, .iaddr 1 (.t 20) (.t 24), none⟩,
      ⟨some 26, .load false 1 (.t 25), none⟩,
      ⟨some 27, .mov (.t 2), none⟩,
      ⟨some 28, .iaddr 1 (.t 26) (.t 27), none⟩,
      ⟨some 29, .load false 1 (.t 28), none⟩,
      ⟨some 10, .mov (.t 29), none⟩])
   (.seq (.seq (.region [⟨some 31, .load false 1 (.t 5), none⟩,
        ⟨some 32, .mov (.t 10), none⟩,
        ⟨some 33, .mlook [0] true (.int Go.IntKind.i64 0) (.t 31) (.t 32), none⟩,
        ⟨some 30, .mov (.t 33), none⟩,
        ⟨some 34, .ext 0 (.t 30), none⟩,
        ⟨some 35, .ext 1 (.t 30), none⟩,
        ⟨some 11, .mov (.t 34), none⟩,
        ⟨some 12, .mov (.t 35), none⟩])
     (.seq (.region [⟨some 36, .mov (.t 12), none⟩,
         ⟨some 37, .un .not (.t 36), none⟩])
      (.cond (.t 37)
       (.seq (.region [⟨some 38, .load false 1 (.t 5), none⟩,
           ⟨some 39, .mov (.t 10), none⟩,
           ⟨some 40, .load false 1 (.t 4), none⟩,
           ⟨some 41, .len (.t 40), none⟩,
           ⟨none, .mupd [0] (.t 38) (.t 39) (.t 41), none⟩])
        (.region [⟨some 42, .load false 1 (.t 4), none⟩,
           ⟨some 43, .mov (.t 10), none⟩,
           ⟨some 44, .bslice true [.int Go.IntKind.i64 0] 1 1 [(0, (.t 43))], none⟩,
           ⟨some 45, .append false 1 8 (.t 42) (.t 44), none⟩,
           ⟨none, .store 1 (.t 4) (.t 45), none⟩]))
       (.skip))))
    (.seq (.region [⟨some 46, .load false 1 (.t 4), none⟩,
        ⟨some 47, .len (.t 46), none⟩,
        ⟨some 9, .mov (.t 47), none⟩])
     (.ret)))),
  [.tmp 9]⟩

def yA3 : AFunc := ⟨29,
  .seq (.region [⟨some 9, .mov (.c (.int Go.IntKind.i64 0)), none⟩])
  (.seq (.draw 15 [⟨some 10, .load false 1 (.t 3), none⟩,
      ⟨some 11, .faddr 2 (.t 4), none⟩,
      ⟨some 12, .load false 1 (.t 11), none⟩,
      ⟨some 13, .load false 1 (.t 5), none⟩,
      ⟨some 14, .mov (.t 0), none⟩,
      ⟨some 15, .iaddr 1 (.t 13) (.t 14), none⟩,
      ⟨some 16, .load false 1 (.t 15), none⟩,
      ⟨some 17, .iaddr 1 (.t 12) (.t 16), none⟩,
      ⟨some 18, .load false 1 (.t 17), none⟩,
      ⟨some 19, .load false 1 (.t 5), none⟩,
      ⟨some 20, .mov (.t 1), none⟩,
      ⟨some 21, .iaddr 1 (.t 19) (.t 20), none⟩,
      ⟨some 22, .load false 1 (.t 21), none⟩,
      ⟨some 23, .iaddr 1 (.t 18) (.t 22), none⟩,
      ⟨some 24, .load false 1 (.t 23), none⟩,
      ⟨some 25, .mov (.t 2), none⟩,
      ⟨some 26, .iaddr 1 (.t 24) (.t 25), none⟩,
      ⟨some 27, .load false 1 (.t 26), none⟩,
      ⟨some 28, .mlook [0] false (.int Go.IntKind.i64 0) (.t 10) (.t 27), none⟩,
      ⟨some 9, .mov (.t 28), none⟩])
   (.ret)),
  [.tmp 9]⟩

def yA4 : AFunc := ⟨13,
  .seq (.region [⟨some 4, .mov (.c (.bool false)), none⟩])
  (.seq (.draw 3 [⟨some 5, .faddr 3 (.t 1), none⟩,
      ⟨some 6, .load false 1 (.t 5), none⟩,
      ⟨some 7, .load false 1 (.t 2), none⟩,
      ⟨some 8, .mov (.t 0), none⟩,
      ⟨some 9, .iaddr 1 (.t 7) (.t 8), none⟩,
      ⟨some 10, .load false 1 (.t 9), none⟩,
      ⟨some 11, .iaddr 1 (.t 6) (.t 10), none⟩,
      ⟨some 12, .load false 1 (.t 11), none⟩,
      ⟨some 4, .mov (.t 12), none⟩])
   (.ret)),
  [.tmp 4]⟩

def yA5 : AFunc := ⟨5,
  .seq (.region [⟨some 2, .mov (.c (.str ⟨#[]⟩)), none⟩])
  (.seq (.region [⟨some 3, .mov (.t 0), none⟩,
      ⟨some 4, .call 121 [(.t 3)], none⟩,
      ⟨some 2, .mov (.t 4), none⟩])
   (.ret)),
  [.tmp 2]⟩

def yA6 : AFunc := ⟨12,
  .draw 2 [⟨some 4, .load false 1 (.t 1), none⟩,
    ⟨some 5, .load false 1 (.t 2), none⟩,
    ⟨some 6, .mov (.t 0), none⟩,
    ⟨some 7, .iaddr 1 (.t 5) (.t 6), none⟩,
    ⟨some 8, .load false 1 (.t 7), none⟩,
    ⟨some 9, .conv Go.IntKind.u8 (.t 8), none⟩,
    ⟨some 10, .bslice true [.int Go.IntKind.u8 0] 1 2 [(0, (.c (.int Go.IntKind.u8 32))), (1, (.t 9))], none⟩,
    ⟨some 11, .append false 1 1 (.t 4) (.t 10), none⟩,
    ⟨none, .store 1 (.t 1) (.t 11), none⟩],
  []⟩

def xYd : AFunc := ⟨5,
  .seq (.region [⟨some 2, .mov (.c (.sl true 0 [])), none⟩])
  (.seq (.region [⟨some 3, .mov (.t 0), none⟩,
      ⟨some 4, .append false 5 32 (.c (.sl true 0 [])) (.t 3), none⟩,
      ⟨some 2, .mov (.t 4), none⟩])
   (.ret)),
  [.tmp 2]⟩

def xIi : ACode :=
  .seq (.region [⟨some 9, .bin .lss (.t 8) (.t 7), none⟩])
  (.seq (.cond (.t 9)
    (.skip)
    (.exit 0))
   (.seq (.block 1 (.seq (.region [⟨some 10, .mov (.t 8), none⟩,
         ⟨some 5, .mov (.t 10), none⟩])
      (.seq (.region [⟨some 11, .mov (.t 1), none⟩,
          ⟨some 12, .mov (.t 0), none⟩,
          ⟨some 13, .mov (.t 5), none⟩,
          ⟨some 14, .iaddr 1 (.t 12) (.t 13), none⟩,
          ⟨some 15, .load false 1 (.t 14), none⟩,
          ⟨some 16, .icall (.t 11) [(.t 15)], none⟩])
       (.cond (.t 16)
        (.seq (.region [⟨some 17, .mov (.t 5), none⟩,
            ⟨some 4, .mov (.t 17), none⟩])
         (.ret))
        (.skip)))))
    (.region [⟨some 18, .bin .add (.t 8) (.c (.int Go.IntKind.i64 1)), none⟩,
       ⟨some 8, .mov (.t 18), none⟩])))

def xNY : ACode := xIi
def xIj : List Nat := [2, 3, 5, 6, 9, 10, 11, 12, 13, 14, 15, 16, 17, 18]
abbrev xIk (s0 s1 s4 s7 s8 : AV) : List AV := [s0, s1, .any, .any, s4, .any, .any, s7, s8, .any, .any, .any, .any, .any, .any, .any, .any, .any, .any]
theorem xIl (s0 s1 s2 s3 s4 s5 s6 s7 s8 s9 s10 s11 s12 s13 s14 s15 s16 s17 s18 : AV) : xBw xIj [s0, s1, s2, s3, s4, s5, s6, s7, s8, s9, s10, s11, s12, s13, s14, s15, s16, s17, s18] = xIk s0 s1 s4 s7 s8 := by kernel_rfl
theorem xMM {prog : Nat → Option AFunc} (s0 s1 s4 s7 s8 : AV) (H : xAA) : (lim prog).loop xIj xNY ⟨xIk s0 s1 s4 s7 s8, H⟩ = xCh (lim prog) xIj xNY (run (lim prog) xIi ⟨xIk s0 s1 s4 s7 s8, H⟩) := xAS _ _ _ _ (by kernel_rfl)

def xYe : AFunc := ⟨19,
  .seq (.region [⟨some 4, .mov (.c (.int Go.IntKind.i64 0)), none⟩])
  (.seq (.seq (.region [⟨some 6, .mov (.t 0), none⟩,
       ⟨some 7, .len (.t 6), none⟩,
       ⟨some 8, .mov (.c (.int Go.IntKind.i64 0)), none⟩])
    (.block 0 (.loop xIj xNY)))
   (.seq (.region [⟨some 4, .mov (.c (.int Go.IntKind.i64 (-1))), none⟩])
    (.ret))),
  [.tmp 4]⟩

def xYf : AFunc := ⟨21,
  .seq (.region [⟨some 4, .mov (.c (.int Go.IntKind.u64 0)), none⟩])
  (.seq (.seq (.region [⟨some 6, .mov (.t 0), none⟩,
       ⟨some 7, .bin .lss (.t 6) (.c (.int Go.IntKind.i64 0)), none⟩])
    (.cond (.t 7)
     (.seq (.region [⟨some 8, .load false 1 (.t 1), none⟩,
         ⟨some 4, .mov (.t 8), none⟩])
      (.ret))
     (.skip)))
   (.seq (.region [⟨some 9, .load false 1 (.t 2), none⟩,
       ⟨some 10, .load false 1 (.t 2), none⟩,
       ⟨some 11, .len (.t 10), none⟩,
       ⟨some 12, .bin .sub (.t 11) (.c (.int Go.IntKind.i64 1)), none⟩,
       ⟨some 13, .iaddr 1 (.t 9) (.t 12), none⟩,
       ⟨some 14, .load false 1 (.t 13), none⟩,
       ⟨some 5, .mov (.t 14), none⟩])
    (.seq (.region [⟨some 15, .load false 1 (.t 2), none⟩,
        ⟨some 16, .load false 1 (.t 2), none⟩,
        ⟨some 17, .len (.t 16), none⟩,
        ⟨some 18, .bin .sub (.t 17) (.c (.int Go.IntKind.i64 1)), none⟩,
        ⟨some 19, .slice 1 (.t 15) none (some (.t 18)) none, none⟩,
        ⟨none, .store 1 (.t 2) (.t 19), none⟩])
     (.seq (.region [⟨some 20, .mov (.t 5), none⟩,
         ⟨some 4, .mov (.t 20), none⟩])
      (.ret))))),
  [.tmp 4]⟩

def xZ4 : AFunc := ⟨19,
  .seq (.region [⟨some 2, .box (.t 0), none⟩,
     ⟨some 4, .mov (.c (.bool false)), none⟩])
  (.seq (.region [⟨some 5, .mov (.t 1), none⟩,
      ⟨some 6, .faddr 0 (.t 2), none⟩,
      ⟨some 7, .load false 1 (.t 6), none⟩,
      ⟨some 8, .bin .and (.t 5) (.t 7), none⟩,
      ⟨some 9, .faddr 0 (.t 2), none⟩,
      ⟨some 10, .load false 1 (.t 9), none⟩,
      ⟨some 11, .bin .eql (.t 8) (.t 10), none⟩,
      ⟨some 12, .mov (.t 11), none⟩,
      ⟨some 13, .mov (.t 1), some (12, true)⟩,
      ⟨some 14, .faddr 1 (.t 2), some (12, true)⟩,
      ⟨some 15, .load false 1 (.t 14), some (12, true)⟩,
      ⟨some 16, .bin .and (.t 13) (.t 15), some (12, true)⟩,
      ⟨some 17, .bin .eql (.t 16) (.c (.int Go.IntKind.u8 0)), some (12, true)⟩,
      ⟨some 18, .pick (.t 12) (.t 17) (.c (.bool false)), none⟩,
      ⟨some 4, .mov (.t 18), none⟩])
   (.ret)),
  [.tmp 4]⟩

def xDD : ACode :=
  .seq (.region [⟨some 22, .bin .lss (.t 21) (.c (.int Go.IntKind.i64 2)), none⟩])
  (.seq (.cond (.t 22)
    (.skip)
    (.exit 0))
   (.seq (.block 1 (.seq (.region [⟨some 23, .idx false 1 2 (.t 20) (.t 21), none⟩,
         ⟨some 7, .mov (.t 23), none⟩])
      (.seq (.block 2 (.seq (.region [⟨some 25, .mov (.t 7), none⟩,
            ⟨some 26, .bin .eql (.t 25) (.c (.int Go.IntKind.i64 (-1))), none⟩,
            ⟨some 24, .mov (.t 26), none⟩])
         (.cond (.t 24)
          (.exit 1)
          (.seq (.region [⟨some 28, .mov (.t 7), none⟩,
              ⟨some 29, .mov (.t 5), none⟩,
              ⟨some 30, .bin .neq (.t 28) (.t 29), none⟩,
              ⟨some 31, .mov (.t 30), none⟩,
              ⟨some 32, .mov (.t 5), some (31, false)⟩,
              ⟨some 33, .mov (.t 0), some (31, false)⟩,
              ⟨some 34, .len (.t 33), some (31, false)⟩,
              ⟨some 35, .bin .geq (.t 32) (.t 34), some (31, false)⟩,
              ⟨some 36, .pick (.t 31) (.c (.bool true)) (.t 35), none⟩,
              ⟨some 27, .mov (.t 36), none⟩])
           (.cond (.t 27)
            (.seq (.region [⟨some 4, .mov (.c (.int Go.IntKind.i64 (-1))), none⟩])
             (.ret))
            (.skip))))))
       (.seq (.region [⟨some 37, .mov (.t 0), none⟩,
           ⟨some 38, .mov (.t 5), none⟩,
           ⟨some 39, .call 114 [(.t 37), (.t 38)], none⟩,
           ⟨some 5, .mov (.t 39), none⟩])
        (.seq (.region [⟨some 40, .mov (.t 5), none⟩,
            ⟨some 41, .bin .eql (.t 40) (.c (.int Go.IntKind.i64 (-1))), none⟩])
         (.cond (.t 41)
          (.seq (.region [⟨some 4, .mov (.c (.int Go.IntKind.i64 (-1))), none⟩])
           (.ret))
          (.skip)))))))
    (.region [⟨some 42, .bin .add (.t 21) (.c (.int Go.IntKind.i64 1)), none⟩,
       ⟨some 21, .mov (.t 42), none⟩])))

def xNZ : ACode := xDD
def xIm : List Nat := [1, 2, 3, 6, 7, 8, 9, 10, 11, 12, 13, 14, 15, 16, 17, 18, 19, 22, 23, 24, 25, 26, 27, 28, 29, 30, 31, 32, 33, 34, 35, 36, 37, 38, 39, 40, 41, 42, 43]
abbrev xIn (s0 s4 s5 s20 s21 : AV) : List AV := [s0, .any, .any, .any, s4, s5, .any, .any, .any, .any, .any, .any, .any, .any, .any, .any, .any, .any, .any, .any, s20, s21, .any, .any, .any, .any, .any, .any, .any, .any, .any, .any, .any, .any, .any, .any, .any, .any, .any, .any, .any, .any, .any, .any]
theorem xDE (s0 s1 s2 s3 s4 s5 s6 s7 s8 s9 s10 s11 s12 s13 s14 s15 s16 s17 s18 s19 s20 s21 s22 s23 s24 s25 s26 s27 s28 s29 s30 s31 s32 s33 s34 s35 s36 s37 s38 s39 s40 s41 s42 s43 : AV) : xBw xIm [s0, s1, s2, s3, s4, s5, s6, s7, s8, s9, s10, s11, s12, s13, s14, s15, s16, s17, s18, s19, s20, s21, s22, s23, s24, s25, s26, s27, s28, s29, s30, s31, s32, s33, s34, s35, s36, s37, s38, s39, s40, s41, s42, s43] = xIn s0 s4 s5 s20 s21 := by kernel_rfl
theorem xG6 {prog : Nat → Option AFunc} (s0 s4 s5 s20 s21 : AV) (H : xAA) : (lim prog).loop xIm xNZ ⟨xIn s0 s4 s5 s20 s21, H⟩ = xCh (lim prog) xIm xNZ (run (lim prog) xDD ⟨xIn s0 s4 s5 s20 s21, H⟩) := xAS _ _ _ _ (by kernel_rfl)

def xYg : AFunc := ⟨44,
  .seq (.region [⟨some 4, .mov (.c (.int Go.IntKind.i64 0)), none⟩])
  (.seq (.region [⟨some 8, .mov (.t 1), none⟩,
      ⟨some 9, .bin .add (.t 8) (.c (.int Go.IntKind.i64 1)), none⟩,
      ⟨some 5, .mov (.t 9), none⟩])
   (.seq (.seq (.draw 12 [⟨some 10, .mov (.t 0), none⟩,
        ⟨some 11, .mov (.t 1), none⟩,
        ⟨some 12, .iaddr 3 (.t 10) (.t 11), none⟩,
        ⟨some 13, .faddr 1 (.t 12), none⟩,
        ⟨some 14, .load false 1 (.t 13), none⟩,
        ⟨some 15, .mov (.t 0), none⟩,
        ⟨some 16, .mov (.t 1), none⟩,
        ⟨some 17, .iaddr 3 (.t 15) (.t 16), none⟩,
        ⟨some 18, .faddr 2 (.t 17), none⟩,
        ⟨some 19, .load false 1 (.t 18), none⟩,
        ⟨some 20, .build [.int Go.IntKind.i64 0, .int Go.IntKind.i64 0] [(0, 1, (.t 14)), (1, 1, (.t 19))], none⟩,
        ⟨some 21, .mov (.c (.int Go.IntKind.i64 0)), none⟩])
     (.block 0 (.loop xIm xNZ)))
    (.seq (.region [⟨some 43, .mov (.t 5), none⟩,
        ⟨some 4, .mov (.t 43), none⟩])
     (.ret)))),
  [.tmp 4]⟩

def xZ5 : AFunc := ⟨8,
  .seq (.region [⟨some 4, .mov (.c (.sl true 0 [])), none⟩])
  (.seq (.region [⟨some 5, .mov (.t 0), none⟩,
      ⟨some 6, .mov (.t 1), none⟩,
      ⟨some 7, .icall (.c (.func 125 [])) [(.t 5), (.t 6), (.c (.func 126 []))], none⟩,
      ⟨some 4, .mov (.t 7), none⟩])
   (.ret)),
  [.tmp 4]⟩

def xZ6 : AFunc := ⟨22,
  .seq (.region [⟨some 2, .mov (.c (.sl true 0 [])), none⟩])
  (.seq (.seq (.region [⟨some 4, .mov (.t 0), none⟩,
       ⟨some 5, .bin .lss (.t 4) (.c (.int Go.IntKind.i64 0)), none⟩,
       ⟨some 6, .mov (.t 5), none⟩,
       ⟨some 7, .mov (.t 0), some (6, false)⟩,
       ⟨some 8, .bin .gtr (.t 7) (.c (.int Go.IntKind.i64 4095)), some (6, false)⟩,
       ⟨some 9, .pick (.t 6) (.c (.bool true)) (.t 8), none⟩])
    (.cond (.t 9)
     (.seq (.region [⟨some 2, .mov (.c (.sl true 0 [])), none⟩])
      (.ret))
     (.skip)))
   (.seq (.region [⟨some 10, .mov (.t 0), none⟩,
       ⟨some 11, .bin .quo (.t 10) (.c (.int Go.IntKind.i64 64)), none⟩,
       ⟨some 12, .bin .add (.t 11) (.c (.int Go.IntKind.i64 1)), none⟩,
       ⟨some 13, .mkslice false [.int Go.IntKind.u64 0] 8 (.t 12) (.t 12), none⟩,
       ⟨some 3, .mov (.t 13), none⟩])
    (.seq (.region [⟨some 14, .mov (.t 3), none⟩,
        ⟨some 15, .mov (.t 0), none⟩,
        ⟨some 16, .bin .quo (.t 15) (.c (.int Go.IntKind.i64 64)), none⟩,
        ⟨some 17, .mov (.t 0), none⟩,
        ⟨some 18, .bin .rem (.t 17) (.c (.int Go.IntKind.i64 64)), none⟩,
        ⟨some 19, .bin .shl (.c (.int Go.IntKind.u64 1)) (.t 18), none⟩,
        ⟨some 20, .iaddr 1 (.t 14) (.t 16), none⟩,
        ⟨none, .store 1 (.t 20) (.t 19), none⟩])
     (.seq (.region [⟨some 21, .mov (.t 3), none⟩,
         ⟨some 2, .mov (.t 21), none⟩])
      (.ret))))),
  [.tmp 2]⟩

def yA7 : AFunc := ⟨4,
  .seq (.region [⟨some 2, .mov (.c (.str ⟨#[]⟩)), none⟩])
  (.seq (.seq (.region [⟨some 3, .mov (.t 0), none⟩])
    (.cond (.t 3)
     (.seq (.region [⟨some 2, .mov (.c (.str ⟨#[116, 114, 117, 101]⟩)), none⟩])
      (.ret))
     (.skip)))
   (.seq (.region [⟨some 2, .mov (.c (.str ⟨#[102, 97, 108, 115, 101]⟩)), none⟩])
    (.ret))),
  [.tmp 2]⟩

def xIo : ACode :=
  .seq (.region [⟨some 17, .bin .lss (.t 16) (.t 15), none⟩])
  (.seq (.cond (.t 17)
    (.skip)
    (.exit 0))
   (.seq (.block 1 (.seq (.region [⟨some 18, .mov (.t 16), none⟩,
         ⟨some 9, .mov (.t 18), none⟩])
      (.region [⟨some 19, .mov (.t 8), none⟩,
         ⟨some 20, .mov (.t 2), none⟩,
         ⟨some 21, .mov (.t 7), none⟩,
         ⟨some 22, .mov (.t 0), none⟩,
         ⟨some 23, .mov (.t 9), none⟩,
         ⟨some 24, .icall (.t 21) [(.t 22), (.t 23)], none⟩,
         ⟨some 25, .mov (.t 7), none⟩,
         ⟨some 26, .mov (.t 1), none⟩,
         ⟨some 27, .mov (.t 9), none⟩,
         ⟨some 28, .icall (.t 25) [(.t 26), (.t 27)], none⟩,
         ⟨some 29, .icall (.t 20) [(.t 24), (.t 28)], none⟩,
         ⟨some 30, .bslice true [.int Go.IntKind.u64 0] 1 1 [(0, (.t 29))], none⟩,
         ⟨some 31, .append false 1 8 (.t 19) (.t 30), none⟩,
         ⟨some 8, .mov (.t 31), none⟩])))
    (.region [⟨some 32, .bin .add (.t 16) (.c (.int Go.IntKind.i64 1)), none⟩,
       ⟨some 16, .mov (.t 32), none⟩])))

def xN0 : ACode := xIo
def xIp : List Nat := [3, 4, 5, 6, 9, 10, 11, 12, 13, 14, 17, 18, 19, 20, 21, 22, 23, 24, 25, 26, 27, 28, 29, 30, 31, 32, 33, 34, 35, 36, 37, 38, 39, 40, 41, 42, 43, 44, 45, 46, 47, 48, 49, 50, 51]
abbrev xIq (s0 s1 s2 s7 s8 s15 s16 : AV) : List AV := [s0, s1, s2, .any, .any, .any, .any, s7, s8, .any, .any, .any, .any, .any, .any, s15, s16, .any, .any, .any, .any, .any, .any, .any, .any, .any, .any, .any, .any, .any, .any, .any, .any, .any, .any, .any, .any, .any, .any, .any, .any, .any, .any, .any, .any, .any, .any, .any, .any, .any, .any, .any]
theorem xIr (s0 s1 s2 s3 s4 s5 s6 s7 s8 s9 s10 s11 s12 s13 s14 s15 s16 s17 s18 s19 s20 s21 s22 s23 s24 s25 s26 s27 s28 s29 s30 s31 s32 s33 s34 s35 s36 s37 s38 s39 s40 s41 s42 s43 s44 s45 s46 s47 s48 s49 s50 s51 : AV) : xBw xIp [s0, s1, s2, s3, s4, s5, s6, s7, s8, s9, s10, s11, s12, s13, s14, s15, s16, s17, s18, s19, s20, s21, s22, s23, s24, s25, s26, s27, s28, s29, s30, s31, s32, s33, s34, s35, s36, s37, s38, s39, s40, s41, s42, s43, s44, s45, s46, s47, s48, s49, s50, s51] = xIq s0 s1 s2 s7 s8 s15 s16 := by kernel_rfl
theorem xMN {prog : Nat → Option AFunc} (s0 s1 s2 s7 s8 s15 s16 : AV) (H : xAA) : (lim prog).loop xIp xN0 ⟨xIq s0 s1 s2 s7 s8 s15 s16, H⟩ = xCh (lim prog) xIp xN0 (run (lim prog) xIo ⟨xIq s0 s1 s2 s7 s8 s15 s16, H⟩) := xAS _ _ _ _ (by kernel_rfl)

def xG7 : ACode :=
  .seq (.seq (.region [⟨some 33, .mov (.t 8), none⟩,
      ⟨some 34, .len (.t 33), none⟩,
      ⟨some 35, .bin .gtr (.t 34) (.c (.int Go.IntKind.i64 0)), none⟩,
      ⟨some 36, .mov (.t 35), none⟩,
      ⟨some 37, .mov (.t 8), some (36, true)⟩,
      ⟨some 38, .mov (.t 8), some (36, true)⟩,
      ⟨some 39, .len (.t 38), some (36, true)⟩,
      ⟨some 40, .bin .sub (.t 39) (.c (.int Go.IntKind.i64 1)), some (36, true)⟩,
      ⟨some 41, .iaddr 1 (.t 37) (.t 40), some (36, true)⟩,
      ⟨some 42, .load false 1 (.t 41), some (36, true)⟩,
      ⟨some 43, .bin .eql (.t 42) (.c (.int Go.IntKind.u64 0)), some (36, true)⟩,
      ⟨some 44, .pick (.t 36) (.t 43) (.c (.bool false)), none⟩])
   (.cond (.t 44)
    (.skip)
    (.exit 2)))
  (.block 3 (.region [⟨some 45, .mov (.t 8), none⟩,
      ⟨some 46, .mov (.t 8), none⟩,
      ⟨some 47, .len (.t 46), none⟩,
      ⟨some 48, .bin .sub (.t 47) (.c (.int Go.IntKind.i64 1)), none⟩,
      ⟨some 49, .slice 1 (.t 45) none (some (.t 48)) none, none⟩,
      ⟨some 8, .mov (.t 49), none⟩]))

def xLC : ACode := xG7
def xG8 : List Nat := [0, 1, 2, 3, 4, 5, 6, 7, 9, 10, 11, 12, 13, 14, 15, 16, 17, 18, 19, 20, 21, 22, 23, 24, 25, 26, 27, 28, 29, 30, 31, 32, 33, 34, 35, 36, 37, 38, 39, 40, 41, 42, 43, 44, 45, 46, 47, 48, 49, 50, 51]
abbrev xGj (s8 : AV) : List AV := [.any, .any, .any, .any, .any, .any, .any, .any, s8, .any, .any, .any, .any, .any, .any, .any, .any, .any, .any, .any, .any, .any, .any, .any, .any, .any, .any, .any, .any, .any, .any, .any, .any, .any, .any, .any, .any, .any, .any, .any, .any, .any, .any, .any, .any, .any, .any, .any, .any, .any, .any, .any]
theorem xG9 (s0 s1 s2 s3 s4 s5 s6 s7 s8 s9 s10 s11 s12 s13 s14 s15 s16 s17 s18 s19 s20 s21 s22 s23 s24 s25 s26 s27 s28 s29 s30 s31 s32 s33 s34 s35 s36 s37 s38 s39 s40 s41 s42 s43 s44 s45 s46 s47 s48 s49 s50 s51 : AV) : xBw xG8 [s0, s1, s2, s3, s4, s5, s6, s7, s8, s9, s10, s11, s12, s13, s14, s15, s16, s17, s18, s19, s20, s21, s22, s23, s24, s25, s26, s27, s28, s29, s30, s31, s32, s33, s34, s35, s36, s37, s38, s39, s40, s41, s42, s43, s44, s45, s46, s47, s48, s49, s50, s51] = xGj s8 := by kernel_rfl
theorem xMO {prog : Nat → Option AFunc} (s8 : AV) (H : xAA) : (lim prog).loop xG8 xLC ⟨xGj s8, H⟩ = xCh (lim prog) xG8 xLC (run (lim prog) xG7 ⟨xGj s8, H⟩) := xAS _ _ _ _ (by kernel_rfl)

def xYh : AFunc := ⟨52,
  .seq (.region [⟨some 6, .mov (.c (.sl true 0 [])), none⟩])
  (.seq (.region [⟨some 7, .mov (.c (.func 127 [])), none⟩])
   (.seq (.region [⟨some 8, .mov (.c (.sl true 0 [])), none⟩])
    (.seq (.seq (.region [⟨some 10, .mov (.t 0), none⟩,
         ⟨some 11, .len (.t 10), none⟩,
         ⟨some 12, .mov (.t 1), none⟩,
         ⟨some 13, .len (.t 12), none⟩,
         ⟨some 14, .maxi (.t 11) (.t 13), none⟩,
         ⟨some 15, .mini (.t 14) (.c (.int Go.IntKind.i64 64)), none⟩,
         ⟨some 16, .mov (.c (.int Go.IntKind.i64 0)), none⟩])
      (.block 0 (.loop xIp xN0)))
     (.seq (.block 2 (.loop xG8 xLC))
      (.seq (.region [⟨some 50, .mov (.t 8), none⟩,
          ⟨some 51, .call 128 [(.t 50)], none⟩,
          ⟨some 6, .mov (.t 51), none⟩])
       (.ret)))))),
  [.tmp 6]⟩

def xZ7 : AFunc := ⟨8,
  .seq (.region [⟨some 4, .mov (.c (.int Go.IntKind.u64 0)), none⟩])
  (.seq (.region [⟨some 5, .mov (.t 0), none⟩,
      ⟨some 6, .mov (.t 1), none⟩,
      ⟨some 7, .bin .or (.t 5) (.t 6), none⟩,
      ⟨some 4, .mov (.t 7), none⟩])
   (.ret)),
  [.tmp 4]⟩

def xYi : AFunc := ⟨13,
  .seq (.region [⟨some 4, .mov (.c (.int Go.IntKind.u64 0)), none⟩])
  (.seq (.seq (.region [⟨some 5, .mov (.t 1), none⟩,
       ⟨some 6, .mov (.t 0), none⟩,
       ⟨some 7, .len (.t 6), none⟩,
       ⟨some 8, .bin .lss (.t 5) (.t 7), none⟩])
    (.cond (.t 8)
     (.seq (.region [⟨some 9, .mov (.t 0), none⟩,
         ⟨some 10, .mov (.t 1), none⟩,
         ⟨some 11, .iaddr 1 (.t 9) (.t 10), none⟩,
         ⟨some 12, .load false 1 (.t 11), none⟩,
         ⟨some 4, .mov (.t 12), none⟩])
      (.ret))
     (.skip)))
   (.seq (.region [⟨some 4, .mov (.c (.int Go.IntKind.u64 0)), none⟩])
    (.ret))),
  [.tmp 4]⟩

def xZ8 : AFunc := ⟨9,
  .seq (.region [⟨some 2, .mov (.c (.sl true 0 [])), none⟩])
  (.seq (.region [⟨some 3, .mov (.t 0), none⟩,
      ⟨some 4, .mov (.t 0), none⟩,
      ⟨some 5, .len (.t 4), none⟩,
      ⟨some 6, .mov (.t 0), none⟩,
      ⟨some 7, .len (.t 6), none⟩,
      ⟨some 8, .slice 1 (.t 3) none (some (.t 5)) (some (.t 7)), none⟩,
      ⟨some 2, .mov (.t 8), none⟩])
   (.ret)),
  [.tmp 2]⟩

def xAy : Nat → Option AFunc
  | 11 => some a11
  | 13 => some a13
  | 14 => some a14
  | 16 => some a16
  | 18 => some a18
  | 20 => some a20
  | 21 => some a21
  | 23 => some a23
  | 25 => some a25
  | 27 => some a27
  | 29 => some a29
  | 35 => some a35
  | 36 => some a36
  | 37 => some a37
  | 39 => some a39
  | 41 => some a41
  | 44 => some a44
  | 45 => some a45
  | 47 => some a47
  | 48 => some a48
  | 49 => some a49
  | 50 => some a50
  | 52 => some a52
  | 53 => some a53
  | 54 => some a54
  | 56 => some a56
  | 60 => some a60
  | 61 => some a61
  | 62 => some a62
  | 63 => some a63
  | 66 => some a66
  | 67 => some a67
  | 72 => some a72
  | 73 => some a73
  | 74 => some a74
  | 75 => some a75
  | 76 => some a76
  | 77 => some a77
  | 78 => some a78
  | 79 => some a79
  | 80 => some a80
  | 81 => some a81
  | 86 => some a86
  | 87 => some a87
  | 88 => some a88
  | 89 => some a89
  | 90 => some a90
  | 91 => some a91
  | 93 => some a93
  | 94 => some a94
  | 95 => some a95
  | 96 => some a96
  | 99 => some a99
  | 100 => some xYc
  | 102 => some yA2
  | 103 => some yA3
  | 104 => some yA4
  | 105 => some yA5
  | 106 => some yA6
  | 108 => some xYd
  | 109 => some xYe
  | 112 => some xYf
  | 113 => some xZ4
  | 114 => some xYg
  | 117 => some xZ5
  | 118 => some xZ6
  | 121 => some yA7
  | 125 => some xYh
  | 126 => some xZ7
  | 127 => some xYi
  | 128 => some xZ8
  | _ => none
theorem xYj (args : List AV) : (lim xAy).pcall 11 args = xBc (lim xAy) a11 args := xAv rfl args
theorem yEF (caps args : List AV) (H : xAA) : (lim xAy).icall (.func 11 caps) args H = xBD (lim xAy) a11 (args ++ caps) H := xAw rfl caps args H
theorem yDD (args : List AV) : (lim xAy).pcall 13 args = xBc (lim xAy) a13 args := xAv rfl args
theorem yEG (caps args : List AV) (H : xAA) : (lim xAy).icall (.func 13 caps) args H = xBD (lim xAy) a13 (args ++ caps) H := xAw rfl caps args H
theorem yDE (args : List AV) : (lim xAy).pcall 14 args = xBc (lim xAy) a14 args := xAv rfl args
theorem yEH (caps args : List AV) (H : xAA) : (lim xAy).icall (.func 14 caps) args H = xBD (lim xAy) a14 (args ++ caps) H := xAw rfl caps args H
theorem yCL (args : List AV) : (lim xAy).pcall 16 args = xBc (lim xAy) a16 args := xAv rfl args
theorem yEI (caps args : List AV) (H : xAA) : (lim xAy).icall (.func 16 caps) args H = xBD (lim xAy) a16 (args ++ caps) H := xAw rfl caps args H
theorem yCM (args : List AV) : (lim xAy).pcall 18 args = xBc (lim xAy) a18 args := xAv rfl args
theorem yEJ (caps args : List AV) (H : xAA) : (lim xAy).icall (.func 18 caps) args H = xBD (lim xAy) a18 (args ++ caps) H := xAw rfl caps args H
theorem yEK (args : List AV) : (lim xAy).pcall 20 args = xBc (lim xAy) a20 args := xAv rfl args
theorem yEL (caps args : List AV) (H : xAA) : (lim xAy).icall (.func 20 caps) args H = xBD (lim xAy) a20 (args ++ caps) H := xAw rfl caps args H
theorem yEM (args : List AV) : (lim xAy).pcall 21 args = xBc (lim xAy) a21 args := xAv rfl args
theorem yEN (caps args : List AV) (H : xAA) : (lim xAy).icall (.func 21 caps) args H = xBD (lim xAy) a21 (args ++ caps) H := xAw rfl caps args H
theorem yEO (args : List AV) : (lim xAy).pcall 23 args = xBc (lim xAy) a23 args := xAv rfl args
theorem yEP (caps args : List AV) (H : xAA) : (lim xAy).icall (.func 23 caps) args H = xBD (lim xAy) a23 (args ++ caps) H := xAw rfl caps args H
theorem yEQ (args : List AV) : (lim xAy).pcall 25 args = xBc (lim xAy) a25 args := xAv rfl args
theorem yER (caps args : List AV) (H : xAA) : (lim xAy).icall (.func 25 caps) args H = xBD (lim xAy) a25 (args ++ caps) H := xAw rfl caps args H
theorem yES (args : List AV) : (lim xAy).pcall 27 args = xBc (lim xAy) a27 args := xAv rfl args
theorem yET (caps args : List AV) (H : xAA) : (lim xAy).icall (.func 27 caps) args H = xBD (lim xAy) a27 (args ++ caps) H := xAw rfl caps args H
theorem yEU (args : List AV) : (lim xAy).pcall 29 args = xBc (lim xAy) a29 args := xAv rfl args
theorem yEV (caps args : List AV) (H : xAA) : (lim xAy).icall (.func 29 caps) args H = xBD (lim xAy) a29 (args ++ caps) H := xAw rfl caps args H
theorem yEW (args : List AV) : (lim xAy).pcall 35 args = xBc (lim xAy) a35 args := xAv rfl args
theorem yEX (caps args : List AV) (H : xAA) : (lim xAy).icall (.func 35 caps) args H = xBD (lim xAy) a35 (args ++ caps) H := xAw rfl caps args H
theorem yDF (args : List AV) : (lim xAy).pcall 36 args = xBc (lim xAy) a36 args := xAv rfl args
theorem yEY (caps args : List AV) (H : xAA) : (lim xAy).icall (.func 36 caps) args H = xBD (lim xAy) a36 (args ++ caps) H := xAw rfl caps args H
theorem yA8 (args : List AV) : (lim xAy).pcall 37 args = xBc (lim xAy) a37 args := xAv rfl args
theorem yEZ (caps args : List AV) (H : xAA) : (lim xAy).icall (.func 37 caps) args H = xBD (lim xAy) a37 (args ++ caps) H := xAw rfl caps args H
theorem yE0 (args : List AV) : (lim xAy).pcall 39 args = xBc (lim xAy) a39 args := xAv rfl args
theorem yE1 (caps args : List AV) (H : xAA) : (lim xAy).icall (.func 39 caps) args H = xBD (lim xAy) a39 (args ++ caps) H := xAw rfl caps args H
theorem yE2 (args : List AV) : (lim xAy).pcall 41 args = xBc (lim xAy) a41 args := xAv rfl args
theorem yE3 (caps args : List AV) (H : xAA) : (lim xAy).icall (.func 41 caps) args H = xBD (lim xAy) a41 (args ++ caps) H := xAw rfl caps args H
theorem yCN (args : List AV) : (lim xAy).pcall 44 args = xBc (lim xAy) a44 args := xAv rfl args
theorem yE4 (caps args : List AV) (H : xAA) : (lim xAy).icall (.func 44 caps) args H = xBD (lim xAy) a44 (args ++ caps) H := xAw rfl caps args H
theorem yDG (args : List AV) : (lim xAy).pcall 45 args = xBc (lim xAy) a45 args := xAv rfl args
theorem yE5 (caps args : List AV) (H : xAA) : (lim xAy).icall (.func 45 caps) args H = xBD (lim xAy) a45 (args ++ caps) H := xAw rfl caps args H
theorem yDH (args : List AV) : (lim xAy).pcall 47 args = xBc (lim xAy) a47 args := xAv rfl args
theorem yDI (caps args : List AV) (H : xAA) : (lim xAy).icall (.func 47 caps) args H = xBD (lim xAy) a47 (args ++ caps) H := xAw rfl caps args H
theorem xZ9 (args : List AV) : (lim xAy).pcall 48 args = xBc (lim xAy) a48 args := xAv rfl args
theorem yE6 (caps args : List AV) (H : xAA) : (lim xAy).icall (.func 48 caps) args H = xBD (lim xAy) a48 (args ++ caps) H := xAw rfl caps args H
theorem yDJ (args : List AV) : (lim xAy).pcall 49 args = xBc (lim xAy) a49 args := xAv rfl args
theorem yE7 (caps args : List AV) (H : xAA) : (lim xAy).icall (.func 49 caps) args H = xBD (lim xAy) a49 (args ++ caps) H := xAw rfl caps args H
theorem yDK (args : List AV) : (lim xAy).pcall 50 args = xBc (lim xAy) a50 args := xAv rfl args
theorem yE8 (caps args : List AV) (H : xAA) : (lim xAy).icall (.func 50 caps) args H = xBD (lim xAy) a50 (args ++ caps) H := xAw rfl caps args H
theorem yE9 (args : List AV) : (lim xAy).pcall 52 args = xBc (lim xAy) a52 args := xAv rfl args
theorem yDL (caps args : List AV) (H : xAA) : (lim xAy).icall (.func 52 caps) args H = xBD (lim xAy) a52 (args ++ caps) H := xAw rfl caps args H
theorem yCO (args : List AV) : (lim xAy).pcall 53 args = xBc (lim xAy) a53 args := xAv rfl args
theorem yFa (caps args : List AV) (H : xAA) : (lim xAy).icall (.func 53 caps) args H = xBD (lim xAy) a53 (args ++ caps) H := xAw rfl caps args H
theorem yDM (args : List AV) : (lim xAy).pcall 54 args = xBc (lim xAy) a54 args := xAv rfl args
theorem yFb (caps args : List AV) (H : xAA) : (lim xAy).icall (.func 54 caps) args H = xBD (lim xAy) a54 (args ++ caps) H := xAw rfl caps args H
theorem yFc (args : List AV) : (lim xAy).pcall 56 args = xBc (lim xAy) a56 args := xAv rfl args
theorem yFd (caps args : List AV) (H : xAA) : (lim xAy).icall (.func 56 caps) args H = xBD (lim xAy) a56 (args ++ caps) H := xAw rfl caps args H
theorem yFe (args : List AV) : (lim xAy).pcall 60 args = xBc (lim xAy) a60 args := xAv rfl args
theorem yFf (caps args : List AV) (H : xAA) : (lim xAy).icall (.func 60 caps) args H = xBD (lim xAy) a60 (args ++ caps) H := xAw rfl caps args H
theorem yFg (args : List AV) : (lim xAy).pcall 61 args = xBc (lim xAy) a61 args := xAv rfl args
theorem yDN (caps args : List AV) (H : xAA) : (lim xAy).icall (.func 61 caps) args H = xBD (lim xAy) a61 (args ++ caps) H := xAw rfl caps args H
theorem yFh (args : List AV) : (lim xAy).pcall 62 args = xBc (lim xAy) a62 args := xAv rfl args
theorem yFi (caps args : List AV) (H : xAA) : (lim xAy).icall (.func 62 caps) args H = xBD (lim xAy) a62 (args ++ caps) H := xAw rfl caps args H
theorem yFj (args : List AV) : (lim xAy).pcall 63 args = xBc (lim xAy) a63 args := xAv rfl args
theorem yFk (caps args : List AV) (H : xAA) : (lim xAy).icall (.func 63 caps) args H = xBD (lim xAy) a63 (args ++ caps) H := xAw rfl caps args H
theorem yFl (args : List AV) : (lim xAy).pcall 66 args = xBc (lim xAy) a66 args := xAv rfl args
theorem yFm (caps args : List AV) (H : xAA) : (lim xAy).icall (.func 66 caps) args H = xBD (lim xAy) a66 (args ++ caps) H := xAw rfl caps args H
theorem yFn (args : List AV) : (lim xAy).pcall 67 args = xBc (lim xAy) a67 args := xAv rfl args
theorem yFo (caps args : List AV) (H : xAA) : (lim xAy).icall (.func 67 caps) args H = xBD (lim xAy) a67 (args ++ caps) H := xAw rfl caps args H
theorem yDO (args : List AV) : (lim xAy).pcall 72 args = xBc (lim xAy) a72 args := xAv rfl args
theorem yFp (caps args : List AV) (H : xAA) : (lim xAy).icall (.func 72 caps) args H = xBD (lim xAy) a72 (args ++ caps) H := xAw rfl caps args H
theorem yDP (args : List AV) : (lim xAy).pcall 73 args = xBc (lim xAy) a73 args := xAv rfl args
theorem yFq (caps args : List AV) (H : xAA) : (lim xAy).icall (.func 73 caps) args H = xBD (lim xAy) a73 (args ++ caps) H := xAw rfl caps args H
theorem yDQ (args : List AV) : (lim xAy).pcall 74 args = xBc (lim xAy) a74 args := xAv rfl args
theorem yDR (caps args : List AV) (H : xAA) : (lim xAy).icall (.func 74 caps) args H = xBD (lim xAy) a74 (args ++ caps) H := xAw rfl caps args H
theorem yFr (args : List AV) : (lim xAy).pcall 75 args = xBc (lim xAy) a75 args := xAv rfl args
theorem yDS (caps args : List AV) (H : xAA) : (lim xAy).icall (.func 75 caps) args H = xBD (lim xAy) a75 (args ++ caps) H := xAw rfl caps args H
theorem yFs (args : List AV) : (lim xAy).pcall 76 args = xBc (lim xAy) a76 args := xAv rfl args
theorem yA9 (caps args : List AV) (H : xAA) : (lim xAy).icall (.func 76 caps) args H = xBD (lim xAy) a76 (args ++ caps) H := xAw rfl caps args H
theorem yDT (args : List AV) : (lim xAy).pcall 77 args = xBc (lim xAy) a77 args := xAv rfl args
theorem yFt (caps args : List AV) (H : xAA) : (lim xAy).icall (.func 77 caps) args H = xBD (lim xAy) a77 (args ++ caps) H := xAw rfl caps args H
theorem yFu (args : List AV) : (lim xAy).pcall 78 args = xBc (lim xAy) a78 args := xAv rfl args
theorem yDU (caps args : List AV) (H : xAA) : (lim xAy).icall (.func 78 caps) args H = xBD (lim xAy) a78 (args ++ caps) H := xAw rfl caps args H
theorem yFv (args : List AV) : (lim xAy).pcall 79 args = xBc (lim xAy) a79 args := xAv rfl args
theorem yDV (caps args : List AV) (H : xAA) : (lim xAy).icall (.func 79 caps) args H = xBD (lim xAy) a79 (args ++ caps) H := xAw rfl caps args H
theorem yFw (args : List AV) : (lim xAy).pcall 80 args = xBc (lim xAy) a80 args := xAv rfl args
theorem yCP (caps args : List AV) (H : xAA) : (lim xAy).icall (.func 80 caps) args H = xBD (lim xAy) a80 (args ++ caps) H := xAw rfl caps args H
theorem yFx (args : List AV) : (lim xAy).pcall 81 args = xBc (lim xAy) a81 args := xAv rfl args
theorem yCQ (caps args : List AV) (H : xAA) : (lim xAy).icall (.func 81 caps) args H = xBD (lim xAy) a81 (args ++ caps) H := xAw rfl caps args H
theorem yAa (args : List AV) : (lim xAy).pcall 86 args = xBc (lim xAy) a86 args := xAv rfl args
theorem yFy (caps args : List AV) (H : xAA) : (lim xAy).icall (.func 86 caps) args H = xBD (lim xAy) a86 (args ++ caps) H := xAw rfl caps args H
theorem yCR (args : List AV) : (lim xAy).pcall 87 args = xBc (lim xAy) a87 args := xAv rfl args
theorem yFz (caps args : List AV) (H : xAA) : (lim xAy).icall (.func 87 caps) args H = xBD (lim xAy) a87 (args ++ caps) H := xAw rfl caps args H
theorem yDW (args : List AV) : (lim xAy).pcall 88 args = xBc (lim xAy) a88 args := xAv rfl args
theorem yFA (caps args : List AV) (H : xAA) : (lim xAy).icall (.func 88 caps) args H = xBD (lim xAy) a88 (args ++ caps) H := xAw rfl caps args H
theorem yDX (args : List AV) : (lim xAy).pcall 89 args = xBc (lim xAy) a89 args := xAv rfl args
theorem yFB (caps args : List AV) (H : xAA) : (lim xAy).icall (.func 89 caps) args H = xBD (lim xAy) a89 (args ++ caps) H := xAw rfl caps args H
theorem yDY (args : List AV) : (lim xAy).pcall 90 args = xBc (lim xAy) a90 args := xAv rfl args
theorem yFC (caps args : List AV) (H : xAA) : (lim xAy).icall (.func 90 caps) args H = xBD (lim xAy) a90 (args ++ caps) H := xAw rfl caps args H
theorem xVw (args : List AV) : (lim xAy).pcall 91 args = xBc (lim xAy) a91 args := xAv rfl args
theorem yFD (caps args : List AV) (H : xAA) : (lim xAy).icall (.func 91 caps) args H = xBD (lim xAy) a91 (args ++ caps) H := xAw rfl caps args H
theorem yDZ (args : List AV) : (lim xAy).pcall 93 args = xBc (lim xAy) a93 args := xAv rfl args
theorem yFE (caps args : List AV) (H : xAA) : (lim xAy).icall (.func 93 caps) args H = xBD (lim xAy) a93 (args ++ caps) H := xAw rfl caps args H
theorem yD0 (args : List AV) : (lim xAy).pcall 94 args = xBc (lim xAy) a94 args := xAv rfl args
theorem yFF (caps args : List AV) (H : xAA) : (lim xAy).icall (.func 94 caps) args H = xBD (lim xAy) a94 (args ++ caps) H := xAw rfl caps args H
theorem yCS (args : List AV) : (lim xAy).pcall 95 args = xBc (lim xAy) a95 args := xAv rfl args
theorem yFG (caps args : List AV) (H : xAA) : (lim xAy).icall (.func 95 caps) args H = xBD (lim xAy) a95 (args ++ caps) H := xAw rfl caps args H
theorem yD1 (args : List AV) : (lim xAy).pcall 96 args = xBc (lim xAy) a96 args := xAv rfl args
theorem yFH (caps args : List AV) (H : xAA) : (lim xAy).icall (.func 96 caps) args H = xBD (lim xAy) a96 (args ++ caps) H := xAw rfl caps args H
theorem xUB (args : List AV) : (lim xAy).pcall 99 args = xBc (lim xAy) a99 args := xAv rfl args
theorem yFI (caps args : List AV) (H : xAA) : (lim xAy).icall (.func 99 caps) args H = xBD (lim xAy) a99 (args ++ caps) H := xAw rfl caps args H
theorem xYk (args : List AV) : (lim xAy).pcall 100 args = xBc (lim xAy) xYc args := xAv rfl args
theorem yD2 (caps args : List AV) (H : xAA) : (lim xAy).icall (.func 100 caps) args H = xBD (lim xAy) xYc (args ++ caps) H := xAw rfl caps args H
theorem yD3 (args : List AV) : (lim xAy).pcall 102 args = xBc (lim xAy) yA2 args := xAv rfl args
theorem yD4 (caps args : List AV) (H : xAA) : (lim xAy).icall (.func 102 caps) args H = xBD (lim xAy) yA2 (args ++ caps) H := xAw rfl caps args H
theorem yD5 (args : List AV) : (lim xAy).pcall 103 args = xBc (lim xAy) yA3 args := xAv rfl args
theorem yD6 (caps args : List AV) (H : xAA) : (lim xAy).icall (.func 103 caps) args H = xBD (lim xAy) yA3 (args ++ caps) H := xAw rfl caps args H
theorem yD7 (args : List AV) : (lim xAy).pcall 104 args = xBc (lim xAy) yA4 args := xAv rfl args
theorem yD8 (caps args : List AV) (H : xAA) : (lim xAy).icall (.func 104 caps) args H = xBD (lim xAy) yA4 (args ++ caps) H := xAw rfl caps args H
theorem yD9 (args : List AV) : (lim xAy).pcall 105 args = xBc (lim xAy) yA5 args := xAv rfl args
theorem yEa (caps args : List AV) (H : xAA) : (lim xAy).icall (.func 105 caps) args H = xBD (lim xAy) yA5 (args ++ caps) H := xAw rfl caps args H
theorem yEb (args : List AV) : (lim xAy).pcall 106 args = xBc (lim xAy) yA6 args := xAv rfl args
theorem yEc (caps args : List AV) (H : xAA) : (lim xAy).icall (.func 106 caps) args H = xBD (lim xAy) yA6 (args ++ caps) H := xAw rfl caps args H
theorem yBa (args : List AV) : (lim xAy).pcall 108 args = xBc (lim xAy) xYd args := xAv rfl args
theorem yBb (caps args : List AV) (H : xAA) : (lim xAy).icall (.func 108 caps) args H = xBD (lim xAy) xYd (args ++ caps) H := xAw rfl caps args H
theorem yEd (args : List AV) : (lim xAy).pcall 109 args = xBc (lim xAy) xYe args := xAv rfl args
theorem xYl (caps args : List AV) (H : xAA) : (lim xAy).icall (.func 109 caps) args H = xBD (lim xAy) xYe (args ++ caps) H := xAw rfl caps args H
theorem yEe (args : List AV) : (lim xAy).pcall 112 args = xBc (lim xAy) xYf args := xAv rfl args
theorem xYm (caps args : List AV) (H : xAA) : (lim xAy).icall (.func 112 caps) args H = xBD (lim xAy) xYf (args ++ caps) H := xAw rfl caps args H
theorem yBc (args : List AV) : (lim xAy).pcall 113 args = xBc (lim xAy) xZ4 args := xAv rfl args
theorem yEf (caps args : List AV) (H : xAA) : (lim xAy).icall (.func 113 caps) args H = xBD (lim xAy) xZ4 (args ++ caps) H := xAw rfl caps args H
theorem xYn (args : List AV) : (lim xAy).pcall 114 args = xBc (lim xAy) xYg args := xAv rfl args
theorem yEg (caps args : List AV) (H : xAA) : (lim xAy).icall (.func 114 caps) args H = xBD (lim xAy) xYg (args ++ caps) H := xAw rfl caps args H
theorem yBd (args : List AV) : (lim xAy).pcall 117 args = xBc (lim xAy) xZ5 args := xAv rfl args
theorem yEh (caps args : List AV) (H : xAA) : (lim xAy).icall (.func 117 caps) args H = xBD (lim xAy) xZ5 (args ++ caps) H := xAw rfl caps args H
theorem yBe (args : List AV) : (lim xAy).pcall 118 args = xBc (lim xAy) xZ6 args := xAv rfl args
theorem yEi (caps args : List AV) (H : xAA) : (lim xAy).icall (.func 118 caps) args H = xBD (lim xAy) xZ6 (args ++ caps) H := xAw rfl caps args H
theorem yEj (args : List AV) : (lim xAy).pcall 121 args = xBc (lim xAy) yA7 args := xAv rfl args
theorem yEk (caps args : List AV) (H : xAA) : (lim xAy).icall (.func 121 caps) args H = xBD (lim xAy) yA7 (args ++ caps) H := xAw rfl caps args H
theorem yEl (args : List AV) : (lim xAy).pcall 125 args = xBc (lim xAy) xYh args := xAv rfl args
theorem xYo (caps args : List AV) (H : xAA) : (lim xAy).icall (.func 125 caps) args H = xBD (lim xAy) xYh (args ++ caps) H := xAw rfl caps args H
theorem yEm (args : List AV) : (lim xAy).pcall 126 args = xBc (lim xAy) xZ7 args := xAv rfl args
theorem yBf (caps args : List AV) (H : xAA) : (lim xAy).icall (.func 126 caps) args H = xBD (lim xAy) xZ7 (args ++ caps) H := xAw rfl caps args H
theorem yEn (args : List AV) : (lim xAy).pcall 127 args = xBc (lim xAy) xYi args := xAv rfl args
theorem xYp (caps args : List AV) (H : xAA) : (lim xAy).icall (.func 127 caps) args H = xBD (lim xAy) xYi (args ++ caps) H := xAw rfl caps args H
theorem yBg (args : List AV) : (lim xAy).pcall 128 args = xBc (lim xAy) xZ8 args := xAv rfl args
theorem yEo (caps args : List AV) (H : xAA) : (lim xAy).icall (.func 128 caps) args H = xBD (lim xAy) xZ8 (args ++ caps) H := xAw rfl caps args H
end Go.Abs.Det
