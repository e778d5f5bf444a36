/- The functions in the interpreter's words. -/
import Derived.Test.YtdkbhidfiplncaaAbsEnc
import Derived.Test.YtdkbhidfiplncaaProg
namespace Go.Abs.Det
open Go Go.Abs
def xTa : ACode :=
  .seq (.seq (.region [⟨some 85, .mov (.t 18), none⟩,
      ⟨some 86, .mov (.t 12), none⟩,
      ⟨some 87, .len (.t 86), none⟩,
      ⟨some 88, .bin .lss (.t 85) (.t 87), none⟩])
   (.cond (.t 88)
    (.skip)
    (.exit 0)))
  (.seq (.block 1 (.seq (.region [⟨some 91, .mov (.t 12), none⟩,
        ⟨some 92, .mov (.t 18), none⟩,
        ⟨some 93, .iaddr 1 (.t 91) (.t 92), none⟩,
        ⟨some 94, .load false 1 (.t 93), none⟩,
        ⟨some 95, .len (.t 94), none⟩,
        ⟨some 96, .bin .neq (.t 95) (.c (.int Go.IntKind.i64 1)), none⟩])
     (.cond (.t 96)
      (.seq (.region [⟨some 4, .mov (.c (.bool false)), none⟩])
       (.ret))
      (.skip))))
   (.region [⟨some 89, .mov (.t 18), none⟩,
      ⟨some 90, .bin .add (.t 89) (.c (.int Go.IntKind.i64 1)), none⟩,
      ⟨some 18, .mov (.t 90), none⟩]))

def yBe : ACode := xTa
def xQv : List Nat := [0, 1, 2, 3, 5, 6, 7, 8, 9, 10, 11, 13, 19, 20, 21, 22, 23, 24, 25, 26, 27, 28, 29, 30, 31, 32, 33, 34, 35, 36, 37, 38, 39, 40, 41, 42, 43, 44, 45, 46, 47, 48, 49, 50, 51, 52, 53, 54, 55, 56, 57, 58, 59, 60, 61, 62, 63, 64, 65, 66, 67, 68, 69, 70, 71, 72, 73, 74, 75, 76, 77, 78, 79, 80, 81, 82, 83, 84, 85, 86, 87, 88, 89, 90, 91, 92, 93, 94, 95, 96, 97, 98, 99, 100, 101, 102, 103, 104, 105, 106, 107]
abbrev xQw (s4 s12 s14 s15 s16 s17 s18 : AV) : List AV := [.any, .any, .any, .any, s4, .any, .any, .any, .any, .any, .any, .any, s12, .any, s14, s15, s16, s17, s18, .any, .any, .any, .any, .any, .any, .any, .any, .any, .any, .any, .any, .any, .any, .any, .any, .any, .any, .any, .any, .any, .any, .any, .any, .any, .any, .any, .any, .any, .any, .any, .any, .any, .any, .any, .any, .any, .any, .any, .any, .any, .any, .any, .any, .any, .any, .any, .any, .any, .any, .any, .any, .any, .any, .any, .any, .any, .any, .any, .any, .any, .any, .any, .any, .any, .any, .any, .any, .any, .any, .any, .any, .any, .any, .any, .any, .any, .any, .any, .any, .any, .any, .any, .any, .any, .any, .any, .any, .any]
theorem xWf (s0 s1 s2 s3 s4 s5 s6 s7 s8 s9 s10 s11 s12 s13 s14 s15 s16 s17 s18 s19 s20 s21 s22 s23 s24 s25 s26 s27 s28 s29 s30 s31 s32 s33 s34 s35 s36 s37 s38 s39 s40 s41 s42 s43 s44 s45 s46 s47 s48 s49 s50 s51 s52 s53 s54 s55 s56 s57 s58 s59 s60 s61 s62 s63 s64 s65 s66 s67 s68 s69 s70 s71 s72 s73 s74 s75 s76 s77 s78 s79 s80 s81 s82 s83 s84 s85 s86 s87 s88 s89 s90 s91 s92 s93 s94 s95 s96 s97 s98 s99 s100 s101 s102 s103 s104 s105 s106 s107 : AV) : xBA xQv [s0, s1, s2, s3, s4, s5, s6, s7, s8, s9, s10, s11, s12, s13, s14, s15, s16, s17, s18, s19, s20, s21, s22, s23, s24, s25, s26, s27, s28, s29, s30, s31, s32, s33, s34, s35, s36, s37, s38, s39, s40, s41, s42, s43, s44, s45, s46, s47, s48, s49, s50, s51, s52, s53, s54, s55, s56, s57, s58, s59, s60, s61, s62, s63, s64, s65, s66, s67, s68, s69, s70, s71, s72, s73, s74, s75, s76, s77, s78, s79, s80, s81, s82, s83, s84, s85, s86, s87, s88, s89, s90, s91, s92, s93, s94, s95, s96, s97, s98, s99, s100, s101, s102, s103, s104, s105, s106, s107] = xQw s4 s12 s14 s15 s16 s17 s18 := by kernel_rfl
theorem xZd {prog : Nat → Option AFunc} (s4 s12 s14 s15 s16 s17 s18 : AV) (H : xAu) : (lim prog).loop xQv yBe ⟨xQw s4 s12 s14 s15 s16 s17 s18, H⟩ = xCo (lim prog) xQv yBe (run (lim prog) xTa ⟨xQw s4 s12 s14 s15 s16 s17 s18, H⟩) := xAT _ _ _ _ (by kernel_rfl)

def a9 : AFunc := ⟨108,
  .seq (.region [⟨some 2, .box (.t 0), none⟩,
     ⟨some 4, .mov (.c (.bool false)), none⟩])
  (.seq (.draw 9 [⟨some 19, .load true 4 (.t 2), none⟩,
      ⟨some 20, .call 42 [(.t 19), (.c (.int Go.IntKind.i64 8))], none⟩,
      ⟨some 21, .mov (.t 1), none⟩,
      ⟨some 22, .mov (.t 1), none⟩,
      ⟨some 23, .len (.t 22), none⟩,
      ⟨some 24, .mini (.t 23) (.c (.int Go.IntKind.i64 15)), none⟩,
      ⟨some 25, .slice 3 (.t 21) none (some (.t 24)) none, none⟩,
      ⟨some 26, .call 13 [(.t 25)], none⟩,
      ⟨some 5, .box (.c (.agg [.int Go.IntKind.i64 0, .int Go.IntKind.i64 0, .sl true 0 [], .sl true 0 []])), none⟩,
      ⟨none, .store 4 (.t 5) (.t 20), none⟩,
      ⟨some 6, .mov (.t 26), none⟩])
   (.seq (.region [⟨some 28, .load true 4 (.t 5), none⟩,
       ⟨some 29, .call 27 [(.t 28)], none⟩,
       ⟨some 27, .mov (.t 29), none⟩,
       ⟨some 30, .ext 0 (.t 27), none⟩,
       ⟨some 31, .ext 1 (.t 27), none⟩,
       ⟨some 7, .box (.c (.agg [.int Go.IntKind.i64 0, .int Go.IntKind.i64 0, .sl true 0 [], .sl true 0 [], .sl true 0 []])), none⟩,
       ⟨none, .store 5 (.t 7) (.t 30), none⟩,
       ⟨some 8, .mov (.t 31), none⟩])
    (.seq (.seq (.region [⟨some 32, .mov (.t 8), none⟩,
         ⟨some 33, .bin .neq (.t 32) (.c (.int Go.IntKind.i64 0)), none⟩])
      (.cond (.t 33)
       (.seq (.region [⟨some 34, .mov (.t 8), none⟩,
           ⟨some 35, .bin .eql (.t 34) (.c (.int Go.IntKind.i64 3)), none⟩,
           ⟨some 36, .mov (.t 35), none⟩,
           ⟨some 37, .faddr 2 (.t 5), some (36, true)⟩,
           ⟨some 38, .load false 1 (.t 37), some (36, true)⟩,
           ⟨some 39, .len (.t 38), some (36, true)⟩,
           ⟨some 40, .bin .eql (.t 39) (.c (.int Go.IntKind.i64 0)), some (36, true)⟩,
           ⟨some 41, .pick (.t 36) (.t 40) (.c (.bool false)), none⟩,
           ⟨some 42, .mov (.t 41), none⟩,
           ⟨some 43, .call 35 [], some (42, true)⟩,
           ⟨some 44, .pick (.t 42) (.t 43) (.c (.bool false)), none⟩,
           ⟨some 4, .mov (.t 44), none⟩])
        (.ret))
       (.skip)))
     (.seq (.region [⟨some 46, .load true 4 (.t 5), none⟩,
         ⟨some 47, .call 21 [(.t 46)], none⟩,
         ⟨some 45, .mov (.t 47), none⟩,
         ⟨some 48, .ext 0 (.t 45), none⟩,
         ⟨some 49, .ext 1 (.t 45), none⟩,
         ⟨some 9, .box (.c (.agg [.int Go.IntKind.i64 0, .int Go.IntKind.i64 0, .sl true 0 [], .sl true 0 []])), none⟩,
         ⟨none, .store 4 (.t 9) (.t 48), none⟩,
         ⟨some 10, .mov (.t 49), none⟩])
      (.seq (.region [⟨some 51, .load true 5 (.t 7), none⟩,
          ⟨some 52, .call 37 [(.t 51), (.c (.int Go.IntKind.i64 64))], none⟩,
          ⟨some 50, .mov (.t 52), none⟩,
          ⟨some 53, .ext 0 (.t 50), none⟩,
          ⟨some 54, .ext 1 (.t 50), none⟩,
          ⟨some 55, .ext 2 (.t 50), none⟩,
          ⟨some 11, .box (.c (.agg [.int Go.IntKind.i64 0, .int Go.IntKind.i64 0, .sl true 0 [], .sl true 0 []])), none⟩,
          ⟨none, .store 4 (.t 11) (.t 53), none⟩,
          ⟨some 12, .mov (.t 54), none⟩,
          ⟨some 13, .mov (.t 55), none⟩])
       (.seq (.region [⟨some 57, .load true 4 (.t 5), none⟩,
           ⟨some 58, .mov (.t 6), none⟩,
           ⟨some 59, .call 18 [(.t 57), (.t 58)], none⟩,
           ⟨some 56, .mov (.t 59), none⟩,
           ⟨some 60, .ext 0 (.t 56), none⟩,
           ⟨some 61, .ext 1 (.t 56), none⟩,
           ⟨some 14, .mov (.t 60), none⟩,
           ⟨some 15, .mov (.t 61), none⟩])
        (.seq (.region [⟨some 63, .load true 5 (.t 7), none⟩,
            ⟨some 64, .mov (.t 6), none⟩,
            ⟨some 65, .call 44 [(.t 63), (.t 64)], none⟩,
            ⟨some 62, .mov (.t 65), none⟩,
            ⟨some 66, .ext 0 (.t 62), none⟩,
            ⟨some 67, .ext 1 (.t 62), none⟩,
            ⟨some 16, .mov (.t 66), none⟩,
            ⟨some 17, .mov (.t 67), none⟩])
         (.seq (.seq (.region [⟨some 68, .mov (.t 10), none⟩,
              ⟨some 69, .bin .neq (.t 68) (.c (.int Go.IntKind.i64 0)), none⟩,
              ⟨some 70, .mov (.t 69), none⟩,
              ⟨some 71, .mov (.t 13), some (70, false)⟩,
              ⟨some 72, .bin .neq (.t 71) (.c (.int Go.IntKind.i64 0)), some (70, false)⟩,
              ⟨some 73, .pick (.t 70) (.c (.bool true)) (.t 72), none⟩,
              ⟨some 74, .mov (.t 73), none⟩,
              ⟨some 75, .load true 4 (.t 11), some (74, false)⟩,
              ⟨some 76, .load true 4 (.t 9), some (74, false)⟩,
              ⟨some 77, .call 29 [(.t 75), (.t 76)], some (74, false)⟩,
              ⟨some 78, .un .not (.t 77), some (74, false)⟩,
              ⟨some 79, .pick (.t 74) (.c (.bool true)) (.t 78), none⟩,
              ⟨some 80, .mov (.t 79), none⟩,
              ⟨some 81, .load true 5 (.t 7), some (80, false)⟩,
              ⟨some 82, .call 45 [(.t 81)], some (80, false)⟩,
              ⟨some 83, .bin .neq (.t 82) (.c (.int Go.IntKind.i64 0)), some (80, false)⟩,
              ⟨some 84, .pick (.t 80) (.c (.bool true)) (.t 83), none⟩])
           (.cond (.t 84)
            (.seq (.region [⟨some 4, .mov (.c (.bool false)), none⟩])
             (.ret))
            (.skip)))
          (.seq (.seq (.region [⟨some 18, .mov (.c (.int Go.IntKind.i64 0)), none⟩])
            (.block 0 (.loop xQv yBe)))
           (.seq (.region [⟨some 97, .mov (.t 14), none⟩,
               ⟨some 98, .mov (.t 16), none⟩,
               ⟨some 99, .beq false (.t 97) (.t 98), none⟩,
               ⟨some 100, .mov (.t 99), none⟩,
               ⟨some 101, .mov (.t 15), some (100, true)⟩,
               ⟨some 102, .mov (.t 17), some (100, true)⟩,
               ⟨some 103, .bin .eql (.t 101) (.t 102), some (100, true)⟩,
               ⟨some 104, .pick (.t 100) (.t 103) (.c (.bool false)), none⟩,
               ⟨some 105, .mov (.t 104), none⟩,
               ⟨some 106, .call 35 [], some (105, true)⟩,
               ⟨some 107, .pick (.t 105) (.t 106) (.c (.bool false)), none⟩,
               ⟨some 4, .mov (.t 107), none⟩])
            (.ret))))))))))),
  [.tmp 4]⟩

def a13 : AFunc := ⟨5,
  .seq (.region [⟨some 2, .mov (.c (.sl true 0 [])), none⟩])
  (.seq (.region [⟨some 3, .mov (.t 0), none⟩,
      ⟨some 4, .append false 3 24 (.c (.sl true 0 [])) (.t 3), none⟩,
      ⟨some 2, .mov (.t 4), none⟩])
   (.ret)),
  [.tmp 2]⟩

def xOl : ACode :=
  .seq (.region [⟨some 68, .bin .lss (.t 67) (.t 66), none⟩])
  (.seq (.cond (.t 68)
    (.skip)
    (.exit 5))
   (.seq (.block 6 (.seq (.region [⟨some 69, .iaddr 1 (.t 65) (.t 67), none⟩,
         ⟨some 70, .load false 1 (.t 69), none⟩,
         ⟨some 10, .mov (.t 70), none⟩])
      (.seq (.region [⟨some 71, .mov (.t 4), none⟩,
          ⟨some 72, .mov (.t 10), none⟩,
          ⟨some 73, .icall (.t 71) [(.t 72)], none⟩,
          ⟨some 74, .un .not (.t 73), none⟩])
       (.cond (.t 74)
        (.seq (.region [⟨some 2, .mov (.c (.int Go.IntKind.i64 8)), none⟩])
         (.ret))
        (.skip)))))
    (.region [⟨some 75, .bin .add (.t 67) (.c (.int Go.IntKind.i64 1)), none⟩,
       ⟨some 67, .mov (.t 75), none⟩])))

def xTb : ACode := xOl
def xLa : List Nat := [0, 5, 6, 7, 8, 9, 10, 11, 12, 13, 14, 15, 16, 17, 18, 19, 20, 21, 22, 23, 24, 25, 26, 27, 28, 29, 30, 31, 32, 33, 34, 35, 36, 37, 38, 39, 40, 41, 42, 46, 47, 48, 49, 50, 51, 52, 56, 57, 58, 59, 60, 61, 62, 63, 64, 68, 69, 70, 71, 72, 73, 74, 75, 76, 77]
abbrev xLb (s1 s2 s3 s4 s43 s44 s45 s53 s54 s55 s65 s66 s67 : AV) : List AV := [.any, s1, s2, s3, s4, .any, .any, .any, .any, .any, .any, .any, .any, .any, .any, .any, .any, .any, .any, .any, .any, .any, .any, .any, .any, .any, .any, .any, .any, .any, .any, .any, .any, .any, .any, .any, .any, .any, .any, .any, .any, .any, .any, s43, s44, s45, .any, .any, .any, .any, .any, .any, .any, s53, s54, s55, .any, .any, .any, .any, .any, .any, .any, .any, .any, s65, s66, s67, .any, .any, .any, .any, .any, .any, .any, .any, .any, .any]
theorem xQx (s0 s1 s2 s3 s4 s5 s6 s7 s8 s9 s10 s11 s12 s13 s14 s15 s16 s17 s18 s19 s20 s21 s22 s23 s24 s25 s26 s27 s28 s29 s30 s31 s32 s33 s34 s35 s36 s37 s38 s39 s40 s41 s42 s43 s44 s45 s46 s47 s48 s49 s50 s51 s52 s53 s54 s55 s56 s57 s58 s59 s60 s61 s62 s63 s64 s65 s66 s67 s68 s69 s70 s71 s72 s73 s74 s75 s76 s77 : AV) : xBA xLa [s0, s1, s2, s3, s4, s5, s6, s7, s8, s9, s10, s11, s12, s13, s14, s15, s16, s17, s18, s19, s20, s21, s22, s23, s24, s25, s26, s27, s28, s29, s30, s31, s32, s33, s34, s35, s36, s37, s38, s39, s40, s41, s42, s43, s44, s45, s46, s47, s48, s49, s50, s51, s52, s53, s54, s55, s56, s57, s58, s59, s60, s61, s62, s63, s64, s65, s66, s67, s68, s69, s70, s71, s72, s73, s74, s75, s76, s77] = xLb s1 s2 s3 s4 s43 s44 s45 s53 s54 s55 s65 s66 s67 := by kernel_rfl
theorem xU9 {prog : Nat → Option AFunc} (s1 s2 s3 s4 s43 s44 s45 s53 s54 s55 s65 s66 s67 : AV) (H : xAu) : (lim prog).loop xLa xTb ⟨xLb s1 s2 s3 s4 s43 s44 s45 s53 s54 s55 s65 s66 s67, H⟩ = xCo (lim prog) xLa xTb (run (lim prog) xOl ⟨xLb s1 s2 s3 s4 s43 s44 s45 s53 s54 s55 s65 s66 s67, H⟩) := xAT _ _ _ _ (by kernel_rfl)

def xOm : ACode :=
  .seq (.region [⟨some 56, .bin .lss (.t 55) (.t 54), none⟩])
  (.seq (.cond (.t 56)
    (.skip)
    (.exit 3))
   (.seq (.block 4 (.seq (.region [⟨some 57, .iaddr 1 (.t 53) (.t 55), none⟩,
         ⟨some 58, .load false 1 (.t 57), none⟩,
         ⟨some 8, .mov (.t 58), none⟩])
      (.seq (.seq (.region [⟨some 59, .mov (.t 8), none⟩,
           ⟨some 60, .len (.t 59), none⟩,
           ⟨some 61, .faddr 0 (.t 1), none⟩,
           ⟨some 62, .load false 1 (.t 61), none⟩,
           ⟨some 63, .bin .shl (.c (.int Go.IntKind.i64 1)) (.t 62), none⟩,
           ⟨some 64, .bin .neq (.t 60) (.t 63), none⟩])
        (.cond (.t 64)
         (.seq (.region [⟨some 2, .mov (.c (.int Go.IntKind.i64 2)), none⟩])
          (.ret))
         (.skip)))
       (.seq (.region [⟨some 65, .mov (.t 8), none⟩,
           ⟨some 66, .len (.t 65), none⟩,
           ⟨some 67, .mov (.c (.int Go.IntKind.i64 0)), none⟩])
        (.block 5 (.loop xLa xTb))))))
    (.region [⟨some 76, .bin .add (.t 55) (.c (.int Go.IntKind.i64 1)), none⟩,
       ⟨some 55, .mov (.t 76), none⟩])))

def xTc : ACode := xOm
def xLc : List Nat := [0, 5, 6, 7, 8, 9, 10, 11, 12, 13, 14, 15, 16, 17, 18, 19, 20, 21, 22, 23, 24, 25, 26, 27, 28, 29, 30, 31, 32, 33, 34, 35, 36, 37, 38, 39, 40, 41, 42, 46, 47, 48, 49, 50, 51, 52, 56, 57, 58, 59, 60, 61, 62, 63, 64, 65, 66, 67, 68, 69, 70, 71, 72, 73, 74, 75, 76, 77]
abbrev xLd (s1 s2 s3 s4 s43 s44 s45 s53 s54 s55 : AV) : List AV := [.any, s1, s2, s3, s4, .any, .any, .any, .any, .any, .any, .any, .any, .any, .any, .any, .any, .any, .any, .any, .any, .any, .any, .any, .any, .any, .any, .any, .any, .any, .any, .any, .any, .any, .any, .any, .any, .any, .any, .any, .any, .any, .any, s43, s44, s45, .any, .any, .any, .any, .any, .any, .any, s53, s54, s55, .any, .any, .any, .any, .any, .any, .any, .any, .any, .any, .any, .any, .any, .any, .any, .any, .any, .any, .any, .any, .any, .any]
theorem xQy (s0 s1 s2 s3 s4 s5 s6 s7 s8 s9 s10 s11 s12 s13 s14 s15 s16 s17 s18 s19 s20 s21 s22 s23 s24 s25 s26 s27 s28 s29 s30 s31 s32 s33 s34 s35 s36 s37 s38 s39 s40 s41 s42 s43 s44 s45 s46 s47 s48 s49 s50 s51 s52 s53 s54 s55 s56 s57 s58 s59 s60 s61 s62 s63 s64 s65 s66 s67 s68 s69 s70 s71 s72 s73 s74 s75 s76 s77 : AV) : xBA xLc [s0, s1, s2, s3, s4, s5, s6, s7, s8, s9, s10, s11, s12, s13, s14, s15, s16, s17, s18, s19, s20, s21, s22, s23, s24, s25, s26, s27, s28, s29, s30, s31, s32, s33, s34, s35, s36, s37, s38, s39, s40, s41, s42, s43, s44, s45, s46, s47, s48, s49, s50, s51, s52, s53, s54, s55, s56, s57, s58, s59, s60, s61, s62, s63, s64, s65, s66, s67, s68, s69, s70, s71, s72, s73, s74, s75, s76, s77] = xLd s1 s2 s3 s4 s43 s44 s45 s53 s54 s55 := by kernel_rfl
theorem xVa {prog : Nat → Option AFunc} (s1 s2 s3 s4 s43 s44 s45 s53 s54 s55 : AV) (H : xAu) : (lim prog).loop xLc xTc ⟨xLd s1 s2 s3 s4 s43 s44 s45 s53 s54 s55, H⟩ = xCo (lim prog) xLc xTc (run (lim prog) xOm ⟨xLd s1 s2 s3 s4 s43 s44 s45 s53 s54 s55, H⟩) := xAT _ _ _ _ (by kernel_rfl)

def xOn : ACode :=
  .seq (.region [⟨some 46, .bin .lss (.t 45) (.t 44), none⟩])
  (.seq (.cond (.t 46)
    (.skip)
    (.exit 1))
   (.seq (.block 2 (.seq (.region [⟨some 47, .iaddr 1 (.t 43) (.t 45), none⟩,
         ⟨some 48, .load false 1 (.t 47), none⟩,
         ⟨some 6, .mov (.t 48), none⟩])
      (.seq (.seq (.region [⟨some 49, .mov (.t 6), none⟩,
           ⟨some 50, .len (.t 49), none⟩,
           ⟨some 51, .load false 1 (.t 3), none⟩,
           ⟨some 52, .bin .neq (.t 50) (.t 51), none⟩])
        (.cond (.t 52)
         (.seq (.region [⟨some 2, .mov (.c (.int Go.IntKind.i64 2)), none⟩])
          (.ret))
         (.skip)))
       (.seq (.region [⟨some 53, .mov (.t 6), none⟩,
           ⟨some 54, .len (.t 53), none⟩,
           ⟨some 55, .mov (.c (.int Go.IntKind.i64 0)), none⟩])
        (.block 3 (.loop xLc xTc))))))
    (.region [⟨some 77, .bin .add (.t 45) (.c (.int Go.IntKind.i64 1)), none⟩,
       ⟨some 45, .mov (.t 77), none⟩])))

def xTd : ACode := xOn
def xLe : List Nat := [0, 5, 6, 7, 8, 9, 10, 11, 12, 13, 14, 15, 16, 17, 18, 19, 20, 21, 22, 23, 24, 25, 26, 27, 28, 29, 30, 31, 32, 33, 34, 35, 36, 37, 38, 39, 40, 41, 42, 46, 47, 48, 49, 50, 51, 52, 53, 54, 55, 56, 57, 58, 59, 60, 61, 62, 63, 64, 65, 66, 67, 68, 69, 70, 71, 72, 73, 74, 75, 76, 77]
abbrev xLf (s1 s2 s3 s4 s43 s44 s45 : AV) : List AV := [.any, s1, s2, s3, s4, .any, .any, .any, .any, .any, .any, .any, .any, .any, .any, .any, .any, .any, .any, .any, .any, .any, .any, .any, .any, .any, .any, .any, .any, .any, .any, .any, .any, .any, .any, .any, .any, .any, .any, .any, .any, .any, .any, s43, s44, s45, .any, .any, .any, .any, .any, .any, .any, .any, .any, .any, .any, .any, .any, .any, .any, .any, .any, .any, .any, .any, .any, .any, .any, .any, .any, .any, .any, .any, .any, .any, .any, .any]
theorem xQz (s0 s1 s2 s3 s4 s5 s6 s7 s8 s9 s10 s11 s12 s13 s14 s15 s16 s17 s18 s19 s20 s21 s22 s23 s24 s25 s26 s27 s28 s29 s30 s31 s32 s33 s34 s35 s36 s37 s38 s39 s40 s41 s42 s43 s44 s45 s46 s47 s48 s49 s50 s51 s52 s53 s54 s55 s56 s57 s58 s59 s60 s61 s62 s63 s64 s65 s66 s67 s68 s69 s70 s71 s72 s73 s74 s75 s76 s77 : AV) : xBA xLe [s0, s1, s2, s3, s4, s5, s6, s7, s8, s9, s10, s11, s12, s13, s14, s15, s16, s17, s18, s19, s20, s21, s22, s23, s24, s25, s26, s27, s28, s29, s30, s31, s32, s33, s34, s35, s36, s37, s38, s39, s40, s41, s42, s43, s44, s45, s46, s47, s48, s49, s50, s51, s52, s53, s54, s55, s56, s57, s58, s59, s60, s61, s62, s63, s64, s65, s66, s67, s68, s69, s70, s71, s72, s73, s74, s75, s76, s77] = xLf s1 s2 s3 s4 s43 s44 s45 := by kernel_rfl
theorem xVb {prog : Nat → Option AFunc} (s1 s2 s3 s4 s43 s44 s45 : AV) (H : xAu) : (lim prog).loop xLe xTd ⟨xLf s1 s2 s3 s4 s43 s44 s45, H⟩ = xCo (lim prog) xLe xTd (run (lim prog) xOn ⟨xLf s1 s2 s3 s4 s43 s44 s45, H⟩) := xAT _ _ _ _ (by kernel_rfl)

def a14 : AFunc := ⟨78,
  .seq (.region [⟨some 1, .box (.t 0), none⟩,
     ⟨some 2, .mov (.c (.int Go.IntKind.i64 0)), none⟩])
  (.seq (.region [⟨some 11, .faddr 2 (.t 1), none⟩,
      ⟨some 12, .load false 1 (.t 11), none⟩,
      ⟨some 13, .len (.t 12), none⟩,
      ⟨some 3, .box (.c (.int Go.IntKind.i64 0)), none⟩,
      ⟨none, .store 1 (.t 3) (.t 13), none⟩])
   (.seq (.region [⟨some 14, .mkfunc 52 [(.t 3)], none⟩,
       ⟨some 4, .mov (.t 14), none⟩])
    (.seq (.block 0 (.seq (.region [⟨some 16, .faddr 0 (.t 1), none⟩,
          ⟨some 17, .load false 1 (.t 16), none⟩,
          ⟨some 18, .bin .lss (.t 17) (.c (.int Go.IntKind.i64 0)), none⟩,
          ⟨some 19, .mov (.t 18), none⟩,
          ⟨some 20, .faddr 0 (.t 1), some (19, false)⟩,
          ⟨some 21, .load false 1 (.t 20), some (19, false)⟩,
          ⟨some 22, .bin .gtr (.t 21) (.c (.int Go.IntKind.i64 3)), some (19, false)⟩,
          ⟨some 23, .pick (.t 19) (.c (.bool true)) (.t 22), none⟩,
          ⟨some 15, .mov (.t 23), none⟩])
       (.cond (.t 15)
        (.seq (.region [⟨some 2, .mov (.c (.int Go.IntKind.i64 7)), none⟩])
         (.ret))
        (.seq (.region [⟨some 25, .load false 1 (.t 3), none⟩,
            ⟨some 26, .bin .eql (.t 25) (.c (.int Go.IntKind.i64 0)), none⟩,
            ⟨some 24, .mov (.t 26), none⟩])
         (.cond (.t 24)
          (.seq (.region [⟨some 2, .mov (.c (.int Go.IntKind.i64 3)), none⟩])
           (.ret))
          (.seq (.region [⟨some 28, .load false 1 (.t 3), none⟩,
              ⟨some 29, .bin .gtr (.t 28) (.c (.int Go.IntKind.i64 64)), none⟩,
              ⟨some 27, .mov (.t 29), none⟩])
           (.cond (.t 27)
            (.seq (.region [⟨some 2, .mov (.c (.int Go.IntKind.i64 4)), none⟩])
             (.ret))
            (.seq (.region [⟨some 31, .faddr 3 (.t 1), none⟩,
                ⟨some 32, .load false 1 (.t 31), none⟩,
                ⟨some 33, .len (.t 32), none⟩,
                ⟨some 34, .load false 1 (.t 3), none⟩,
                ⟨some 35, .bin .neq (.t 33) (.t 34), none⟩,
                ⟨some 30, .mov (.t 35), none⟩])
             (.cond (.t 30)
              (.seq (.region [⟨some 2, .mov (.c (.int Go.IntKind.i64 2)), none⟩])
               (.ret))
              (.seq (.region [⟨some 37, .mov (.t 4), none⟩,
                  ⟨some 38, .faddr 1 (.t 1), none⟩,
                  ⟨some 39, .load false 1 (.t 38), none⟩,
                  ⟨some 40, .icall (.t 37) [(.t 39)], none⟩,
                  ⟨some 41, .un .not (.t 40), none⟩,
                  ⟨some 36, .mov (.t 41), none⟩])
               (.cond (.t 36)
                (.seq (.region [⟨some 2, .mov (.c (.int Go.IntKind.i64 8)), none⟩])
                 (.ret))
                (.skip))))))))))))
     (.seq (.seq (.region [⟨some 42, .faddr 2 (.t 1), none⟩,
          ⟨some 43, .load false 1 (.t 42), none⟩,
          ⟨some 44, .len (.t 43), none⟩,
          ⟨some 45, .mov (.c (.int Go.IntKind.i64 0)), none⟩])
       (.block 1 (.loop xLe xTd)))
      (.seq (.region [⟨some 2, .mov (.c (.int Go.IntKind.i64 0)), none⟩])
       (.ret)))))),
  [.tmp 2]⟩

def a16 : AFunc := ⟨21,
  .seq (.region [⟨some 2, .box (.t 0), none⟩,
     ⟨some 4, .mov (.c (.sl true 0 [])), none⟩,
     ⟨some 5, .mov (.c (.int Go.IntKind.i64 0)), none⟩])
  (.seq (.seq (.region [⟨some 7, .load true 4 (.t 2), none⟩,
       ⟨some 8, .mov (.t 1), none⟩,
       ⟨some 9, .call 53 [(.t 7), (.t 8)], none⟩,
       ⟨some 6, .mov (.t 9), none⟩])
    (.seq (.region [⟨some 10, .mov (.t 6), none⟩,
        ⟨some 11, .bin .neq (.t 10) (.c (.int Go.IntKind.i64 0)), none⟩])
     (.cond (.t 11)
      (.seq (.region [⟨some 12, .mov (.t 6), none⟩,
          ⟨some 4, .mov (.c (.sl true 0 [])), none⟩,
          ⟨some 5, .mov (.t 12), none⟩])
       (.ret))
      (.skip))))
   (.seq (.region [⟨some 13, .load true 4 (.t 2), none⟩,
       ⟨some 14, .mov (.t 1), none⟩,
       ⟨some 15, .call 54 [(.t 13), (.t 14)], none⟩,
       ⟨some 16, .mov (.t 1), none⟩,
       ⟨some 17, .len (.t 16), none⟩,
       ⟨some 18, .mov (.t 1), none⟩,
       ⟨some 19, .len (.t 18), none⟩,
       ⟨some 20, .slice 1 (.t 15) none (some (.t 17)) (some (.t 19)), none⟩,
       ⟨some 4, .mov (.t 20), none⟩,
       ⟨some 5, .mov (.c (.int Go.IntKind.i64 0)), none⟩])
    (.ret))),
  [.tmp 4, .tmp 5]⟩

def a18 : AFunc := ⟨22,
  .seq (.region [⟨some 2, .box (.t 0), none⟩,
     ⟨some 4, .mov (.c (.bool false)), none⟩,
     ⟨some 5, .mov (.c (.int Go.IntKind.i64 0)), none⟩])
  (.seq (.seq (.region [⟨some 7, .load true 4 (.t 2), none⟩,
       ⟨some 8, .mov (.t 1), none⟩,
       ⟨some 9, .call 53 [(.t 7), (.t 8)], none⟩,
       ⟨some 6, .mov (.t 9), none⟩])
    (.seq (.region [⟨some 10, .mov (.t 6), none⟩,
        ⟨some 11, .bin .neq (.t 10) (.c (.int Go.IntKind.i64 0)), none⟩])
     (.cond (.t 11)
      (.seq (.region [⟨some 12, .mov (.t 6), none⟩,
          ⟨some 4, .mov (.c (.bool false)), none⟩,
          ⟨some 5, .mov (.t 12), none⟩])
       (.ret))
      (.skip))))
   (.seq (.draw 5 [⟨some 13, .faddr 3 (.t 2), none⟩,
       ⟨some 14, .load false 1 (.t 13), none⟩,
       ⟨some 15, .load true 4 (.t 2), none⟩,
       ⟨some 16, .mov (.t 1), none⟩,
       ⟨some 17, .call 54 [(.t 15), (.t 16)], none⟩,
       ⟨some 18, .iaddr 1 (.t 17) (.c (.int Go.IntKind.i64 0)), none⟩,
       ⟨some 19, .load false 1 (.t 18), none⟩,
       ⟨some 20, .iaddr 1 (.t 14) (.t 19), none⟩,
       ⟨some 21, .load false 1 (.t 20), none⟩,
       ⟨some 4, .mov (.t 21), none⟩,
       ⟨some 5, .mov (.c (.int Go.IntKind.i64 0)), none⟩])
    (.ret))),
  [.tmp 4, .tmp 5]⟩

def xOo : ACode :=
  .seq (.seq (.region [⟨some 11, .mov (.t 5), none⟩,
      ⟨some 12, .mov (.t 0), none⟩,
      ⟨some 13, .len (.t 12), none⟩,
      ⟨some 14, .bin .lss (.t 11) (.t 13), none⟩])
   (.cond (.t 14)
    (.skip)
    (.exit 0)))
  (.seq (.block 1 (.seq (.draw 5 [⟨some 17, .mov (.t 0), none⟩,
        ⟨some 18, .mov (.t 5), none⟩,
        ⟨some 19, .iaddr 1 (.t 17) (.t 18), none⟩,
        ⟨some 20, .load false 1 (.t 19), none⟩,
        ⟨some 21, .mov (.t 1), none⟩,
        ⟨some 22, .mov (.t 5), none⟩,
        ⟨some 23, .iaddr 1 (.t 21) (.t 22), none⟩,
        ⟨some 24, .load false 1 (.t 23), none⟩,
        ⟨some 25, .bin .neq (.t 20) (.t 24), none⟩])
     (.cond (.t 25)
      (.seq (.region [⟨some 4, .mov (.c (.bool false)), none⟩])
       (.ret))
      (.skip))))
   (.region [⟨some 15, .mov (.t 5), none⟩,
      ⟨some 16, .bin .add (.t 15) (.c (.int Go.IntKind.i64 1)), none⟩,
      ⟨some 5, .mov (.t 16), none⟩]))

def xTe : ACode := xOo
def xLg : List Nat := [2, 3, 6, 7, 8, 9, 10, 11, 12, 13, 14, 15, 16, 17, 18, 19, 20, 21, 22, 23, 24, 25]
abbrev xLh (s0 s1 s4 s5 : AV) : List AV := [s0, s1, .any, .any, s4, s5, .any, .any, .any, .any, .any, .any, .any, .any, .any, .any, .any, .any, .any, .any, .any, .any, .any, .any, .any, .any]
theorem xQA (s0 s1 s2 s3 s4 s5 s6 s7 s8 s9 s10 s11 s12 s13 s14 s15 s16 s17 s18 s19 s20 s21 s22 s23 s24 s25 : AV) : xBA xLg [s0, s1, s2, s3, s4, s5, s6, s7, s8, s9, s10, s11, s12, s13, s14, s15, s16, s17, s18, s19, s20, s21, s22, s23, s24, s25] = xLh s0 s1 s4 s5 := by kernel_rfl
theorem xVc {prog : Nat → Option AFunc} (s0 s1 s4 s5 : AV) (H : xAu) : (lim prog).loop xLg xTe ⟨xLh s0 s1 s4 s5, H⟩ = xCo (lim prog) xLg xTe (run (lim prog) xOo ⟨xLh s0 s1 s4 s5, H⟩) := xAT _ _ _ _ (by kernel_rfl)

def a20 : AFunc := ⟨26,
  .seq (.region [⟨some 4, .mov (.c (.bool false)), none⟩])
  (.seq (.seq (.region [⟨some 6, .mov (.t 0), none⟩,
       ⟨some 7, .len (.t 6), none⟩,
       ⟨some 8, .mov (.t 1), none⟩,
       ⟨some 9, .len (.t 8), none⟩,
       ⟨some 10, .bin .neq (.t 7) (.t 9), none⟩])
    (.cond (.t 10)
     (.seq (.region [⟨some 4, .mov (.c (.bool false)), none⟩])
      (.ret))
     (.skip)))
   (.seq (.seq (.region [⟨some 5, .mov (.c (.int Go.IntKind.i64 0)), none⟩])
     (.block 0 (.loop xLg xTe)))
    (.seq (.region [⟨some 4, .mov (.c (.bool true)), none⟩])
     (.ret)))),
  [.tmp 4]⟩

def a21 : AFunc := ⟨13,
  .seq (.region [⟨some 1, .box (.t 0), none⟩,
     ⟨some 2, .box (.c (.agg [.int Go.IntKind.i64 0, .int Go.IntKind.i64 0, .sl true 0 [], .sl true 0 []])), none⟩,
     ⟨some 3, .mov (.c (.int Go.IntKind.i64 0)), none⟩])
  (.seq (.seq (.region [⟨some 5, .load true 4 (.t 1), none⟩,
       ⟨some 6, .call 14 [(.t 5)], none⟩,
       ⟨some 4, .mov (.t 6), none⟩])
    (.seq (.region [⟨some 7, .mov (.t 4), none⟩,
        ⟨some 8, .bin .neq (.t 7) (.c (.int Go.IntKind.i64 0)), none⟩])
     (.cond (.t 8)
      (.seq (.region [⟨some 9, .build [.int Go.IntKind.i64 0, .int Go.IntKind.i64 0, .sl true 0 [], .sl true 0 []] [], none⟩,
          ⟨some 10, .mov (.t 4), none⟩,
          ⟨none, .store 4 (.t 2) (.t 9), none⟩,
          ⟨some 3, .mov (.t 10), none⟩])
       (.ret))
      (.skip))))
   (.seq (.region [⟨some 11, .load true 4 (.t 1), none⟩,
       ⟨some 12, .call 56 [(.t 11)], none⟩,
       ⟨none, .store 4 (.t 2) (.t 12), none⟩,
       ⟨some 3, .mov (.c (.int Go.IntKind.i64 0)), none⟩])
    (.ret))),
  [.cell 2 true 4, .tmp 3]⟩

def xVd : ACode :=
  .seq (.seq (.region [⟨some 29, .mov (.t 9), none⟩,
      ⟨some 30, .bin .geq (.t 29) (.c (.int Go.IntKind.i64 0)), none⟩])
   (.cond (.t 30)
    (.skip)
    (.exit 0)))
  (.seq (.block 1 (.draw 5 [⟨some 33, .load false 1 (.t 8), none⟩,
       ⟨some 34, .load false 1 (.t 6), none⟩,
       ⟨some 35, .mov (.t 9), none⟩,
       ⟨some 36, .iaddr 1 (.t 34) (.t 35), none⟩,
       ⟨some 37, .load false 1 (.t 36), none⟩,
       ⟨some 38, .mov (.t 9), none⟩,
       ⟨some 39, .iaddr 1 (.t 33) (.t 37), none⟩,
       ⟨none, .store 1 (.t 39) (.t 38), none⟩]))
   (.region [⟨some 31, .mov (.t 9), none⟩,
      ⟨some 32, .bin .sub (.t 31) (.c (.int Go.IntKind.i64 1)), none⟩,
      ⟨some 9, .mov (.t 32), none⟩]))

def xWg : ACode := xVd
def xOp : List Nat := [0, 1, 3, 4, 10, 11, 12, 13, 14, 15, 16, 17, 18, 19, 20, 21, 22, 23, 24, 25, 26, 27, 28, 29, 30, 31, 32, 33, 34, 35, 36, 37, 38, 39, 40, 41, 42, 43, 44, 45, 46, 47, 48, 49, 50, 51, 52, 53]
abbrev xQB (s2 s5 s6 s7 s8 s9 : AV) : List AV := [.any, .any, s2, .any, .any, s5, s6, s7, s8, s9, .any, .any, .any, .any, .any, .any, .any, .any, .any, .any, .any, .any, .any, .any, .any, .any, .any, .any, .any, .any, .any, .any, .any, .any, .any, .any, .any, .any, .any, .any, .any, .any, .any, .any, .any, .any, .any, .any, .any, .any, .any, .any, .any, .any]
theorem yDy (s0 s1 s2 s3 s4 s5 s6 s7 s8 s9 s10 s11 s12 s13 s14 s15 s16 s17 s18 s19 s20 s21 s22 s23 s24 s25 s26 s27 s28 s29 s30 s31 s32 s33 s34 s35 s36 s37 s38 s39 s40 s41 s42 s43 s44 s45 s46 s47 s48 s49 s50 s51 s52 s53 : AV) : xBA xOp [s0, s1, s2, s3, s4, s5, s6, s7, s8, s9, s10, s11, s12, s13, s14, s15, s16, s17, s18, s19, s20, s21, s22, s23, s24, s25, s26, s27, s28, s29, s30, s31, s32, s33, s34, s35, s36, s37, s38, s39, s40, s41, s42, s43, s44, s45, s46, s47, s48, s49, s50, s51, s52, s53] = xQB s2 s5 s6 s7 s8 s9 := by kernel_rfl
theorem yDz {prog : Nat → Option AFunc} (s2 s5 s6 s7 s8 s9 : AV) (H : xAu) : (lim prog).loop xOp xWg ⟨xQB s2 s5 s6 s7 s8 s9, H⟩ = xCo (lim prog) xOp xWg (run (lim prog) xVd ⟨xQB s2 s5 s6 s7 s8 s9, H⟩) := xAT _ _ _ _ (by kernel_rfl)

def a23 : AFunc := ⟨54,
  .seq (.region [⟨some 1, .box (.t 0), none⟩,
     ⟨some 2, .box (.c (.agg [.int Go.IntKind.i64 0, .int Go.IntKind.i64 0, .sl true 0 [], .sl true 0 []])), none⟩,
     ⟨some 3, .mov (.c (.int Go.IntKind.i64 0)), none⟩])
  (.seq (.seq (.region [⟨some 11, .load true 4 (.t 1), none⟩,
       ⟨some 12, .call 14 [(.t 11)], none⟩,
       ⟨some 4, .mov (.t 12), none⟩])
    (.seq (.region [⟨some 13, .mov (.t 4), none⟩,
        ⟨some 14, .bin .neq (.t 13) (.c (.int Go.IntKind.i64 0)), none⟩])
     (.cond (.t 14)
      (.seq (.region [⟨some 15, .build [.int Go.IntKind.i64 0, .int Go.IntKind.i64 0, .sl true 0 [], .sl true 0 []] [], none⟩,
          ⟨some 16, .mov (.t 4), none⟩,
          ⟨none, .store 4 (.t 2) (.t 15), none⟩,
          ⟨some 3, .mov (.t 16), none⟩])
       (.ret))
      (.skip))))
   (.seq (.region [⟨some 17, .load true 4 (.t 1), none⟩,
       ⟨some 18, .call 56 [(.t 17)], none⟩,
       ⟨some 5, .box (.c (.agg [.int Go.IntKind.i64 0, .int Go.IntKind.i64 0, .sl true 0 [], .sl true 0 []])), none⟩,
       ⟨none, .store 4 (.t 5) (.t 18), none⟩])
    (.seq (.region [⟨some 20, .load true 4 (.t 5), none⟩,
        ⟨some 21, .call 60 [(.t 20)], none⟩,
        ⟨some 19, .mov (.t 21), none⟩,
        ⟨some 22, .ext 0 (.t 19), none⟩,
        ⟨some 23, .ext 1 (.t 19), none⟩,
        ⟨some 6, .box (.c (.sl true 0 [])), none⟩,
        ⟨none, .store 1 (.t 6) (.t 22), none⟩,
        ⟨some 7, .mov (.t 23), none⟩])
     (.seq (.region [⟨some 24, .mov (.t 7), none⟩,
         ⟨some 25, .mkslice false [.int Go.IntKind.i64 0] 8 (.t 24) (.t 24), none⟩,
         ⟨some 8, .box (.c (.sl true 0 [])), none⟩,
         ⟨none, .store 1 (.t 8) (.t 25), none⟩])
      (.seq (.seq (.region [⟨some 26, .load false 1 (.t 6), none⟩,
           ⟨some 27, .len (.t 26), none⟩,
           ⟨some 28, .bin .sub (.t 27) (.c (.int Go.IntKind.i64 1)), none⟩,
           ⟨some 9, .mov (.t 28), none⟩])
        (.block 0 (.loop xOp xWg)))
       (.seq (.region [⟨some 40, .faddr 0 (.t 5), none⟩,
           ⟨some 41, .load false 1 (.t 40), none⟩,
           ⟨some 42, .mov (.t 7), none⟩,
           ⟨some 43, .mkfunc 62 [(.t 6), (.t 5), (.t 8)], none⟩,
           ⟨some 44, .mkfunc 63 [(.t 5), (.t 8)], none⟩,
           ⟨some 45, .icall (.c (.func 61 [])) [(.t 41), (.t 42), (.t 43), (.t 44)], none⟩,
           ⟨some 10, .box (.c (.agg [.int Go.IntKind.i64 0, .int Go.IntKind.i64 0, .sl true 0 [], .sl true 0 []])), none⟩,
           ⟨none, .store 4 (.t 10) (.t 45), none⟩])
        (.seq (.region [⟨some 46, .load false 1 (.t 6), none⟩,
            ⟨some 47, .faddr 1 (.t 5), none⟩,
            ⟨some 48, .load false 1 (.t 47), none⟩,
            ⟨some 49, .iaddr 1 (.t 46) (.t 48), none⟩,
            ⟨some 50, .load false 1 (.t 49), none⟩,
            ⟨some 51, .faddr 1 (.t 10), none⟩,
            ⟨none, .store 1 (.t 51) (.t 50), none⟩])
         (.seq (.region [⟨some 52, .load true 4 (.t 10), none⟩,
             ⟨some 53, .call 56 [(.t 52)], none⟩,
             ⟨none, .store 4 (.t 2) (.t 53), none⟩,
             ⟨some 3, .mov (.c (.int Go.IntKind.i64 0)), none⟩])
          (.ret))))))))),
  [.cell 2 true 4, .tmp 3]⟩

def a25 : AFunc := ⟨18,
  .seq (.region [⟨some 1, .box (.t 0), none⟩,
     ⟨some 2, .mov (.c (.sl true 0 [])), none⟩,
     ⟨some 3, .mov (.c (.int Go.IntKind.i64 0)), none⟩])
  (.seq (.seq (.region [⟨some 7, .load true 4 (.t 1), none⟩,
       ⟨some 8, .call 14 [(.t 7)], none⟩,
       ⟨some 4, .mov (.t 8), none⟩])
    (.seq (.region [⟨some 9, .mov (.t 4), none⟩,
        ⟨some 10, .bin .neq (.t 9) (.c (.int Go.IntKind.i64 0)), none⟩])
     (.cond (.t 10)
      (.seq (.region [⟨some 11, .mov (.t 4), none⟩,
          ⟨some 2, .mov (.c (.sl true 0 [])), none⟩,
          ⟨some 3, .mov (.t 11), none⟩])
       (.ret))
      (.skip))))
   (.seq (.region [⟨some 13, .load true 4 (.t 1), none⟩,
       ⟨some 14, .call 60 [(.t 13)], none⟩,
       ⟨some 12, .mov (.t 14), none⟩,
       ⟨some 15, .ext 0 (.t 12), none⟩,
       ⟨some 16, .ext 1 (.t 12), none⟩,
       ⟨some 5, .mov (.t 15), none⟩,
       ⟨some 6, .mov (.t 16), none⟩])
    (.seq (.region [⟨some 17, .mov (.t 5), none⟩,
        ⟨some 2, .mov (.t 17), none⟩,
        ⟨some 3, .mov (.c (.int Go.IntKind.i64 0)), none⟩])
     (.ret)))),
  [.tmp 2, .tmp 3]⟩

def xOq : ACode :=
  .seq (.region [⟨some 69, .bin .lss (.t 68) (.t 67), none⟩])
  (.seq (.cond (.t 69)
    (.skip)
    (.exit 4))
   (.seq (.block 5 (.seq (.region [⟨some 70, .mov (.t 68), none⟩,
         ⟨some 71, .iaddr 1 (.t 66) (.t 68), none⟩,
         ⟨some 72, .load false 1 (.t 71), none⟩,
         ⟨some 12, .mov (.t 70), none⟩,
         ⟨some 13, .mov (.t 72), none⟩])
      (.region [⟨some 73, .faddr 4 (.t 7), none⟩,
         ⟨some 74, .load false 1 (.t 73), none⟩,
         ⟨some 75, .mov (.t 8), none⟩,
         ⟨some 76, .mov (.t 10), none⟩,
         ⟨some 77, .mov (.t 13), none⟩,
         ⟨some 78, .mov (.t 12), none⟩,
         ⟨some 79, .conv Go.IntKind.u8 (.t 78), none⟩,
         ⟨some 80, .mov (.t 6), none⟩,
         ⟨some 81, .bin .sub (.t 80) (.c (.int Go.IntKind.i64 1)), none⟩,
         ⟨some 82, .mov (.t 12), none⟩,
         ⟨some 83, .bin .sub (.t 81) (.t 82), none⟩,
         ⟨some 84, .conv Go.IntKind.u8 (.t 83), none⟩,
         ⟨some 85, .build [.int Go.IntKind.i64 0, .int Go.IntKind.i64 0, .int Go.IntKind.i64 0, .int Go.IntKind.u8 0, .int Go.IntKind.u8 0] [(0, 1, (.t 75)), (1, 1, (.t 76)), (2, 1, (.t 77)), (3, 1, (.t 79)), (4, 1, (.t 84))], none⟩,
         ⟨some 86, .bslice true [.int Go.IntKind.i64 0, .int Go.IntKind.i64 0, .int Go.IntKind.i64 0, .int Go.IntKind.u8 0, .int Go.IntKind.u8 0] 5 1 [(0, (.t 85))], none⟩,
         ⟨some 87, .append false 5 32 (.t 74) (.t 86), none⟩,
         ⟨some 88, .faddr 4 (.t 7), none⟩,
         ⟨none, .store 1 (.t 88) (.t 87), none⟩])))
    (.region [⟨some 89, .bin .add (.t 68) (.c (.int Go.IntKind.i64 1)), none⟩,
       ⟨some 68, .mov (.t 89), none⟩])))

def xTf : ACode := xOq
def xLi : List Nat := [0, 3, 4, 5, 9, 11, 12, 13, 14, 15, 16, 17, 18, 19, 20, 21, 22, 23, 24, 25, 26, 27, 28, 29, 30, 31, 32, 33, 34, 35, 36, 37, 38, 39, 40, 44, 45, 46, 47, 48, 49, 50, 51, 52, 53, 54, 55, 56, 57, 58, 62, 63, 64, 65, 69, 70, 71, 72, 73, 74, 75, 76, 77, 78, 79, 80, 81, 82, 83, 84, 85, 86, 87, 88, 89, 90, 91, 92]
abbrev xLj (s1 s2 s6 s7 s8 s10 s41 s42 s43 s59 s60 s61 s66 s67 s68 : AV) : List AV := [.any, s1, s2, .any, .any, .any, s6, s7, s8, .any, s10, .any, .any, .any, .any, .any, .any, .any, .any, .any, .any, .any, .any, .any, .any, .any, .any, .any, .any, .any, .any, .any, .any, .any, .any, .any, .any, .any, .any, .any, .any, s41, s42, s43, .any, .any, .any, .any, .any, .any, .any, .any, .any, .any, .any, .any, .any, .any, .any, s59, s60, s61, .any, .any, .any, .any, s66, s67, s68, .any, .any, .any, .any, .any, .any, .any, .any, .any, .any, .any, .any, .any, .any, .any, .any, .any, .any, .any, .any, .any, .any, .any, .any]
theorem xQC (s0 s1 s2 s3 s4 s5 s6 s7 s8 s9 s10 s11 s12 s13 s14 s15 s16 s17 s18 s19 s20 s21 s22 s23 s24 s25 s26 s27 s28 s29 s30 s31 s32 s33 s34 s35 s36 s37 s38 s39 s40 s41 s42 s43 s44 s45 s46 s47 s48 s49 s50 s51 s52 s53 s54 s55 s56 s57 s58 s59 s60 s61 s62 s63 s64 s65 s66 s67 s68 s69 s70 s71 s72 s73 s74 s75 s76 s77 s78 s79 s80 s81 s82 s83 s84 s85 s86 s87 s88 s89 s90 s91 s92 : AV) : xBA xLi [s0, s1, s2, s3, s4, s5, s6, s7, s8, s9, s10, s11, s12, s13, s14, s15, s16, s17, s18, s19, s20, s21, s22, s23, s24, s25, s26, s27, s28, s29, s30, s31, s32, s33, s34, s35, s36, s37, s38, s39, s40, s41, s42, s43, s44, s45, s46, s47, s48, s49, s50, s51, s52, s53, s54, s55, s56, s57, s58, s59, s60, s61, s62, s63, s64, s65, s66, s67, s68, s69, s70, s71, s72, s73, s74, s75, s76, s77, s78, s79, s80, s81, s82, s83, s84, s85, s86, s87, s88, s89, s90, s91, s92] = xLj s1 s2 s6 s7 s8 s10 s41 s42 s43 s59 s60 s61 s66 s67 s68 := by kernel_rfl
theorem xVe {prog : Nat → Option AFunc} (s1 s2 s6 s7 s8 s10 s41 s42 s43 s59 s60 s61 s66 s67 s68 : AV) (H : xAu) : (lim prog).loop xLi xTf ⟨xLj s1 s2 s6 s7 s8 s10 s41 s42 s43 s59 s60 s61 s66 s67 s68, H⟩ = xCo (lim prog) xLi xTf (run (lim prog) xOq ⟨xLj s1 s2 s6 s7 s8 s10 s41 s42 s43 s59 s60 s61 s66 s67 s68, H⟩) := xAT _ _ _ _ (by kernel_rfl)

def xOr : ACode :=
  .seq (.region [⟨some 62, .bin .lss (.t 61) (.t 60), none⟩])
  (.seq (.cond (.t 62)
    (.skip)
    (.exit 2))
   (.seq (.block 3 (.seq (.region [⟨some 63, .mov (.t 61), none⟩,
         ⟨some 64, .iaddr 1 (.t 59) (.t 61), none⟩,
         ⟨some 65, .load false 1 (.t 64), none⟩,
         ⟨some 10, .mov (.t 63), none⟩,
         ⟨some 11, .mov (.t 65), none⟩])
      (.seq (.region [⟨some 66, .mov (.t 11), none⟩,
          ⟨some 67, .len (.t 66), none⟩,
          ⟨some 68, .mov (.c (.int Go.IntKind.i64 0)), none⟩])
       (.block 4 (.loop xLi xTf)))))
    (.region [⟨some 90, .bin .add (.t 61) (.c (.int Go.IntKind.i64 1)), none⟩,
       ⟨some 61, .mov (.t 90), none⟩])))

def xTg : ACode := xOr
def xLk : List Nat := [0, 3, 4, 5, 9, 10, 11, 12, 13, 14, 15, 16, 17, 18, 19, 20, 21, 22, 23, 24, 25, 26, 27, 28, 29, 30, 31, 32, 33, 34, 35, 36, 37, 38, 39, 40, 44, 45, 46, 47, 48, 49, 50, 51, 52, 53, 54, 55, 56, 57, 58, 62, 63, 64, 65, 66, 67, 68, 69, 70, 71, 72, 73, 74, 75, 76, 77, 78, 79, 80, 81, 82, 83, 84, 85, 86, 87, 88, 89, 90, 91, 92]
abbrev xLl (s1 s2 s6 s7 s8 s41 s42 s43 s59 s60 s61 : AV) : List AV := [.any, s1, s2, .any, .any, .any, s6, s7, s8, .any, .any, .any, .any, .any, .any, .any, .any, .any, .any, .any, .any, .any, .any, .any, .any, .any, .any, .any, .any, .any, .any, .any, .any, .any, .any, .any, .any, .any, .any, .any, .any, s41, s42, s43, .any, .any, .any, .any, .any, .any, .any, .any, .any, .any, .any, .any, .any, .any, .any, s59, s60, s61, .any, .any, .any, .any, .any, .any, .any, .any, .any, .any, .any, .any, .any, .any, .any, .any, .any, .any, .any, .any, .any, .any, .any, .any, .any, .any, .any, .any, .any, .any, .any]
theorem xOs (s0 s1 s2 s3 s4 s5 s6 s7 s8 s9 s10 s11 s12 s13 s14 s15 s16 s17 s18 s19 s20 s21 s22 s23 s24 s25 s26 s27 s28 s29 s30 s31 s32 s33 s34 s35 s36 s37 s38 s39 s40 s41 s42 s43 s44 s45 s46 s47 s48 s49 s50 s51 s52 s53 s54 s55 s56 s57 s58 s59 s60 s61 s62 s63 s64 s65 s66 s67 s68 s69 s70 s71 s72 s73 s74 s75 s76 s77 s78 s79 s80 s81 s82 s83 s84 s85 s86 s87 s88 s89 s90 s91 s92 : AV) : xBA xLk [s0, s1, s2, s3, s4, s5, s6, s7, s8, s9, s10, s11, s12, s13, s14, s15, s16, s17, s18, s19, s20, s21, s22, s23, s24, s25, s26, s27, s28, s29, s30, s31, s32, s33, s34, s35, s36, s37, s38, s39, s40, s41, s42, s43, s44, s45, s46, s47, s48, s49, s50, s51, s52, s53, s54, s55, s56, s57, s58, s59, s60, s61, s62, s63, s64, s65, s66, s67, s68, s69, s70, s71, s72, s73, s74, s75, s76, s77, s78, s79, s80, s81, s82, s83, s84, s85, s86, s87, s88, s89, s90, s91, s92] = xLl s1 s2 s6 s7 s8 s41 s42 s43 s59 s60 s61 := by kernel_rfl
theorem xVf {prog : Nat → Option AFunc} (s1 s2 s6 s7 s8 s41 s42 s43 s59 s60 s61 : AV) (H : xAu) : (lim prog).loop xLk xTg ⟨xLl s1 s2 s6 s7 s8 s41 s42 s43 s59 s60 s61, H⟩ = xCo (lim prog) xLk xTg (run (lim prog) xOr ⟨xLl s1 s2 s6 s7 s8 s41 s42 s43 s59 s60 s61, H⟩) := xAT _ _ _ _ (by kernel_rfl)

def xLm : ACode :=
  .seq (.region [⟨some 44, .bin .lss (.t 43) (.t 42), none⟩])
  (.seq (.cond (.t 44)
    (.skip)
    (.exit 0))
   (.seq (.block 1 (.seq (.region [⟨some 45, .mov (.t 43), none⟩,
         ⟨some 46, .iaddr 1 (.t 41) (.t 43), none⟩,
         ⟨some 47, .load false 1 (.t 46), none⟩,
         ⟨some 8, .mov (.t 45), none⟩,
         ⟨some 9, .mov (.t 47), none⟩])
      (.seq (.seq (.region [⟨some 48, .faddr 3 (.t 1), none⟩,
           ⟨some 49, .load false 1 (.t 48), none⟩,
           ⟨some 50, .mov (.t 8), none⟩,
           ⟨some 51, .iaddr 1 (.t 49) (.t 50), none⟩,
           ⟨some 52, .load false 1 (.t 51), none⟩])
        (.cond (.t 52)
         (.region [⟨some 53, .faddr 3 (.t 7), none⟩,
            ⟨some 54, .load false 1 (.t 53), none⟩,
            ⟨some 55, .mov (.t 8), none⟩,
            ⟨some 56, .bslice true [.int Go.IntKind.i64 0] 1 1 [(0, (.t 55))], none⟩,
            ⟨some 57, .append false 1 8 (.t 54) (.t 56), none⟩,
            ⟨some 58, .faddr 3 (.t 7), none⟩,
            ⟨none, .store 1 (.t 58) (.t 57), none⟩])
         (.skip)))
       (.seq (.region [⟨some 59, .mov (.t 9), none⟩,
           ⟨some 60, .len (.t 59), none⟩,
           ⟨some 61, .mov (.c (.int Go.IntKind.i64 0)), none⟩])
        (.block 2 (.loop xLk xTg))))))
    (.region [⟨some 91, .bin .add (.t 43) (.c (.int Go.IntKind.i64 1)), none⟩,
       ⟨some 43, .mov (.t 91), none⟩])))

def xTh : ACode := xLm
def xLn : List Nat := [0, 3, 4, 5, 8, 9, 10, 11, 12, 13, 14, 15, 16, 17, 18, 19, 20, 21, 22, 23, 24, 25, 26, 27, 28, 29, 30, 31, 32, 33, 34, 35, 36, 37, 38, 39, 40, 44, 45, 46, 47, 48, 49, 50, 51, 52, 53, 54, 55, 56, 57, 58, 59, 60, 61, 62, 63, 64, 65, 66, 67, 68, 69, 70, 71, 72, 73, 74, 75, 76, 77, 78, 79, 80, 81, 82, 83, 84, 85, 86, 87, 88, 89, 90, 91, 92]
abbrev xLo (s1 s2 s6 s7 s41 s42 s43 : AV) : List AV := [.any, s1, s2, .any, .any, .any, s6, s7, .any, .any, .any, .any, .any, .any, .any, .any, .any, .any, .any, .any, .any, .any, .any, .any, .any, .any, .any, .any, .any, .any, .any, .any, .any, .any, .any, .any, .any, .any, .any, .any, .any, s41, s42, s43, .any, .any, .any, .any, .any, .any, .any, .any, .any, .any, .any, .any, .any, .any, .any, .any, .any, .any, .any, .any, .any, .any, .any, .any, .any, .any, .any, .any, .any, .any, .any, .any, .any, .any, .any, .any, .any, .any, .any, .any, .any, .any, .any, .any, .any, .any, .any, .any, .any]
theorem xOt (s0 s1 s2 s3 s4 s5 s6 s7 s8 s9 s10 s11 s12 s13 s14 s15 s16 s17 s18 s19 s20 s21 s22 s23 s24 s25 s26 s27 s28 s29 s30 s31 s32 s33 s34 s35 s36 s37 s38 s39 s40 s41 s42 s43 s44 s45 s46 s47 s48 s49 s50 s51 s52 s53 s54 s55 s56 s57 s58 s59 s60 s61 s62 s63 s64 s65 s66 s67 s68 s69 s70 s71 s72 s73 s74 s75 s76 s77 s78 s79 s80 s81 s82 s83 s84 s85 s86 s87 s88 s89 s90 s91 s92 : AV) : xBA xLn [s0, s1, s2, s3, s4, s5, s6, s7, s8, s9, s10, s11, s12, s13, s14, s15, s16, s17, s18, s19, s20, s21, s22, s23, s24, s25, s26, s27, s28, s29, s30, s31, s32, s33, s34, s35, s36, s37, s38, s39, s40, s41, s42, s43, s44, s45, s46, s47, s48, s49, s50, s51, s52, s53, s54, s55, s56, s57, s58, s59, s60, s61, s62, s63, s64, s65, s66, s67, s68, s69, s70, s71, s72, s73, s74, s75, s76, s77, s78, s79, s80, s81, s82, s83, s84, s85, s86, s87, s88, s89, s90, s91, s92] = xLo s1 s2 s6 s7 s41 s42 s43 := by kernel_rfl
theorem xQD {prog : Nat → Option AFunc} (s1 s2 s6 s7 s41 s42 s43 : AV) (H : xAu) : (lim prog).loop xLn xTh ⟨xLo s1 s2 s6 s7 s41 s42 s43, H⟩ = xCo (lim prog) xLn xTh (run (lim prog) xLm ⟨xLo s1 s2 s6 s7 s41 s42 s43, H⟩) := xAT _ _ _ _ (by kernel_rfl)

def a27 : AFunc := ⟨93,
  .seq (.region [⟨some 1, .box (.t 0), none⟩,
     ⟨some 2, .box (.c (.agg [.int Go.IntKind.i64 0, .int Go.IntKind.i64 0, .sl true 0 [], .sl true 0 [], .sl true 0 []])), none⟩,
     ⟨some 3, .mov (.c (.int Go.IntKind.i64 0)), none⟩])
  (.seq (.seq (.region [⟨some 14, .load true 4 (.t 1), none⟩,
       ⟨some 15, .call 14 [(.t 14)], none⟩,
       ⟨some 4, .mov (.t 15), none⟩])
    (.seq (.region [⟨some 16, .mov (.t 4), none⟩,
        ⟨some 17, .bin .neq (.t 16) (.c (.int Go.IntKind.i64 0)), none⟩])
     (.cond (.t 17)
      (.seq (.region [⟨some 18, .build [.int Go.IntKind.i64 0, .int Go.IntKind.i64 0, .sl true 0 [], .sl true 0 [], .sl true 0 []] [], none⟩,
          ⟨some 19, .mov (.t 4), none⟩,
          ⟨none, .store 5 (.t 2) (.t 18), none⟩,
          ⟨some 3, .mov (.t 19), none⟩])
       (.ret))
      (.skip))))
   (.seq (.draw 6 [⟨some 20, .faddr 2 (.t 1), none⟩,
       ⟨some 21, .load false 1 (.t 20), none⟩,
       ⟨some 22, .len (.t 21), none⟩,
       ⟨some 23, .faddr 0 (.t 1), none⟩,
       ⟨some 24, .load false 1 (.t 23), none⟩,
       ⟨some 25, .bin .shl (.c (.int Go.IntKind.i64 1)) (.t 24), none⟩,
       ⟨some 5, .mov (.t 22), none⟩,
       ⟨some 6, .mov (.t 25), none⟩])
    (.seq (.seq (.region [⟨some 26, .mov (.t 5), none⟩,
         ⟨some 27, .mov (.t 5), none⟩,
         ⟨some 28, .bin .mul (.t 26) (.t 27), none⟩,
         ⟨some 29, .mov (.t 6), none⟩,
         ⟨some 30, .bin .mul (.t 28) (.t 29), none⟩,
         ⟨some 31, .bin .gtr (.t 30) (.c (.int Go.IntKind.i64 512)), none⟩])
      (.cond (.t 31)
       (.seq (.region [⟨some 32, .build [.int Go.IntKind.i64 0, .int Go.IntKind.i64 0, .sl true 0 [], .sl true 0 [], .sl true 0 []] [], none⟩,
           ⟨none, .store 5 (.t 2) (.t 32), none⟩,
           ⟨some 3, .mov (.c (.int Go.IntKind.i64 4)), none⟩])
        (.ret))
       (.skip)))
     (.seq (.region [⟨some 33, .faddr 0 (.t 1), none⟩,
         ⟨some 34, .load false 1 (.t 33), none⟩,
         ⟨some 35, .mov (.t 5), none⟩,
         ⟨some 36, .faddr 1 (.t 1), none⟩,
         ⟨some 37, .load false 1 (.t 36), none⟩,
         ⟨some 38, .bslice true [.int Go.IntKind.i64 0] 1 1 [(0, (.t 37))], none⟩,
         ⟨some 39, .build [.int Go.IntKind.i64 0, .int Go.IntKind.i64 0, .sl true 0 [], .sl true 0 [], .sl true 0 []] [(0, 1, (.t 34)), (1, 1, (.t 35)), (2, 1, (.t 38))], none⟩,
         ⟨some 7, .box (.c (.agg [.int Go.IntKind.i64 0, .int Go.IntKind.i64 0, .sl true 0 [], .sl true 0 [], .sl true 0 []])), none⟩,
         ⟨none, .store 5 (.t 7) (.t 39), none⟩])
      (.seq (.seq (.region [⟨some 40, .faddr 2 (.t 1), none⟩,
           ⟨some 41, .load false 1 (.t 40), none⟩,
           ⟨some 42, .len (.t 41), none⟩,
           ⟨some 43, .mov (.c (.int Go.IntKind.i64 0)), none⟩])
        (.block 0 (.loop xLn xTh)))
       (.seq (.region [⟨some 92, .load true 5 (.t 7), none⟩,
           ⟨none, .store 5 (.t 2) (.t 92), none⟩,
           ⟨some 3, .mov (.c (.int Go.IntKind.i64 0)), none⟩])
        (.ret))))))),
  [.cell 2 true 5, .tmp 3]⟩

def a29 : AFunc := ⟨31,
  .seq (.region [⟨some 2, .box (.t 0), none⟩,
     ⟨some 3, .box (.t 1), none⟩,
     ⟨some 4, .mov (.c (.bool false)), none⟩])
  (.seq (.region [⟨some 5, .faddr 0 (.t 2), none⟩,
      ⟨some 6, .load false 1 (.t 5), none⟩,
      ⟨some 7, .faddr 0 (.t 3), none⟩,
      ⟨some 8, .load false 1 (.t 7), none⟩,
      ⟨some 9, .bin .eql (.t 6) (.t 8), none⟩,
      ⟨some 10, .mov (.t 9), none⟩,
      ⟨some 11, .faddr 1 (.t 2), some (10, true)⟩,
      ⟨some 12, .load false 1 (.t 11), some (10, true)⟩,
      ⟨some 13, .faddr 1 (.t 3), some (10, true)⟩,
      ⟨some 14, .load false 1 (.t 13), some (10, true)⟩,
      ⟨some 15, .bin .eql (.t 12) (.t 14), some (10, true)⟩,
      ⟨some 16, .pick (.t 10) (.t 15) (.c (.bool false)), none⟩,
      ⟨some 17, .mov (.t 16), none⟩,
      ⟨some 18, .faddr 2 (.t 2), some (17, true)⟩,
      ⟨some 19, .load false 1 (.t 18), some (17, true)⟩,
      ⟨some 20, .faddr 2 (.t 3), some (17, true)⟩,
      ⟨some 21, .load false 1 (.t 20), some (17, true)⟩,
      ⟨some 22, .call 66 [(.t 19), (.t 21)], some (17, true)⟩,
      ⟨some 23, .pick (.t 17) (.t 22) (.c (.bool false)), none⟩,
      ⟨some 24, .mov (.t 23), none⟩,
      ⟨some 25, .faddr 3 (.t 2), some (24, true)⟩,
      ⟨some 26, .load false 1 (.t 25), some (24, true)⟩,
      ⟨some 27, .faddr 3 (.t 3), some (24, true)⟩,
      ⟨some 28, .load false 1 (.t 27), some (24, true)⟩,
      ⟨some 29, .call 67 [(.t 26), (.t 28)], some (24, true)⟩,
      ⟨some 30, .pick (.t 24) (.t 29) (.c (.bool false)), none⟩,
      ⟨some 4, .mov (.t 30), none⟩])
   (.ret)),
  [.tmp 4]⟩

def a35 : AFunc := ⟨211,
  .seq (.region [⟨some 0, .mov (.c (.bool false)), none⟩])
  (.seq (.region [⟨some 28, .call 41 [], none⟩,
      ⟨some 1, .box (.c (.agg [.int Go.IntKind.i64 0, .int Go.IntKind.i64 0, .sl true 0 [], .sl true 0 []])), none⟩,
      ⟨none, .store 4 (.t 1) (.t 28), none⟩])
   (.seq (.region [⟨some 29, .build [.int Go.IntKind.u8 0, .int Go.IntKind.i64 0, .int Go.IntKind.i64 0] [(0, 1, (.c (.int Go.IntKind.u8 1))), (1, 1, (.c (.int Go.IntKind.i64 (-1)))), (2, 1, (.c (.int Go.IntKind.i64 (-1))))], none⟩,
       ⟨some 30, .bslice true [.int Go.IntKind.u8 0, .int Go.IntKind.i64 0, .int Go.IntKind.i64 0] 3 1 [(0, (.t 29))], none⟩,
       ⟨some 2, .mov (.t 30), none⟩])
    (.seq (.region [⟨some 32, .load true 4 (.t 1), none⟩,
        ⟨some 33, .build [.int Go.IntKind.u8 0, .int Go.IntKind.i64 0, .int Go.IntKind.i64 0] [(1, 1, (.c (.int Go.IntKind.i64 1))), (2, 1, (.c (.int Go.IntKind.i64 2)))], none⟩,
        ⟨some 34, .build [.int Go.IntKind.u8 0, .int Go.IntKind.i64 0, .int Go.IntKind.i64 0] [(0, 1, (.c (.int Go.IntKind.u8 1))), (1, 1, (.c (.int Go.IntKind.i64 (-1)))), (2, 1, (.c (.int Go.IntKind.i64 (-1))))], none⟩,
        ⟨some 35, .build [.int Go.IntKind.u8 0, .int Go.IntKind.i64 0, .int Go.IntKind.i64 0] [(1, 1, (.c (.int Go.IntKind.i64 (-1)))), (2, 1, (.c (.int Go.IntKind.i64 (-1))))], none⟩,
        ⟨some 36, .bslice true [.int Go.IntKind.u8 0, .int Go.IntKind.i64 0, .int Go.IntKind.i64 0] 3 3 [(0, (.t 33)), (1, (.t 34)), (2, (.t 35))], none⟩,
        ⟨some 37, .call 16 [(.t 32), (.t 36)], none⟩,
        ⟨some 31, .mov (.t 37), none⟩,
        ⟨some 38, .ext 0 (.t 31), none⟩,
        ⟨some 39, .ext 1 (.t 31), none⟩,
        ⟨some 3, .mov (.t 38), none⟩,
        ⟨some 4, .mov (.t 39), none⟩])
     (.seq (.region [⟨some 41, .load true 4 (.t 1), none⟩,
         ⟨some 42, .call 18 [(.t 41), (.c (.sl true 0 []))], none⟩,
         ⟨some 40, .mov (.t 42), none⟩,
         ⟨some 43, .ext 0 (.t 40), none⟩,
         ⟨some 44, .ext 1 (.t 40), none⟩,
         ⟨some 5, .mov (.t 43), none⟩,
         ⟨some 6, .mov (.t 44), none⟩])
      (.seq (.region [⟨some 46, .load true 4 (.t 1), none⟩,
          ⟨some 47, .mov (.t 2), none⟩,
          ⟨some 48, .call 18 [(.t 46), (.t 47)], none⟩,
          ⟨some 45, .mov (.t 48), none⟩,
          ⟨some 49, .ext 0 (.t 45), none⟩,
          ⟨some 50, .ext 1 (.t 45), none⟩,
          ⟨some 7, .mov (.t 49), none⟩,
          ⟨some 8, .mov (.t 50), none⟩])
       (.seq (.region [⟨some 52, .load true 4 (.t 1), none⟩,
           ⟨some 53, .call 25 [(.t 52)], none⟩,
           ⟨some 51, .mov (.t 53), none⟩,
           ⟨some 54, .ext 0 (.t 51), none⟩,
           ⟨some 55, .ext 1 (.t 51), none⟩,
           ⟨some 9, .mov (.t 54), none⟩,
           ⟨some 10, .mov (.t 55), none⟩])
        (.seq (.region [⟨some 56, .bslice true [.bool false] 1 2 [(0, (.c (.bool false))), (1, (.c (.bool true)))], none⟩,
            ⟨some 57, .bslice true [.int Go.IntKind.i64 0] 1 2 [(0, (.c (.int Go.IntKind.i64 0))), (1, (.c (.int Go.IntKind.i64 1)))], none⟩,
            ⟨some 58, .bslice true [.int Go.IntKind.i64 0] 1 2 [(0, (.c (.int Go.IntKind.i64 1))), (1, (.c (.int Go.IntKind.i64 1)))], none⟩,
            ⟨some 59, .bslice true [.sl true 0 []] 1 2 [(0, (.t 57)), (1, (.t 58))], none⟩,
            ⟨some 60, .bslice true [.int Go.IntKind.i64 0] 1 2 [(0, (.c (.int Go.IntKind.i64 1))), (1, (.c (.int Go.IntKind.i64 1)))], none⟩,
            ⟨some 61, .bslice true [.int Go.IntKind.i64 0] 1 2 [(0, (.c (.int Go.IntKind.i64 1))), (1, (.c (.int Go.IntKind.i64 1)))], none⟩,
            ⟨some 62, .bslice true [.sl true 0 []] 1 2 [(0, (.t 60)), (1, (.t 61))], none⟩,
            ⟨some 63, .bslice true [.sl true 0 []] 1 2 [(0, (.t 59)), (1, (.t 62))], none⟩,
            ⟨some 64, .build [.int Go.IntKind.i64 0, .int Go.IntKind.i64 0, .sl true 0 [], .sl true 0 []] [(0, 1, (.c (.int Go.IntKind.i64 1))), (3, 1, (.t 56)), (2, 1, (.t 63))], none⟩,
            ⟨some 11, .box (.c (.agg [.int Go.IntKind.i64 0, .int Go.IntKind.i64 0, .sl true 0 [], .sl true 0 []])), none⟩,
            ⟨none, .store 4 (.t 11) (.t 64), none⟩])
         (.seq (.region [⟨some 66, .load true 4 (.t 1), none⟩,
             ⟨some 67, .call 21 [(.t 66)], none⟩,
             ⟨some 65, .mov (.t 67), none⟩,
             ⟨some 68, .ext 0 (.t 65), none⟩,
             ⟨some 69, .ext 1 (.t 65), none⟩,
             ⟨some 12, .box (.c (.agg [.int Go.IntKind.i64 0, .int Go.IntKind.i64 0, .sl true 0 [], .sl true 0 []])), none⟩,
             ⟨none, .store 4 (.t 12) (.t 68), none⟩,
             ⟨some 13, .mov (.t 69), none⟩])
          (.seq (.region [⟨some 71, .load true 4 (.t 1), none⟩,
              ⟨some 72, .call 23 [(.t 71)], none⟩,
              ⟨some 70, .mov (.t 72), none⟩,
              ⟨some 73, .ext 0 (.t 70), none⟩,
              ⟨some 74, .ext 1 (.t 70), none⟩,
              ⟨some 14, .box (.c (.agg [.int Go.IntKind.i64 0, .int Go.IntKind.i64 0, .sl true 0 [], .sl true 0 []])), none⟩,
              ⟨none, .store 4 (.t 14) (.t 73), none⟩,
              ⟨some 15, .mov (.t 74), none⟩])
           (.seq (.seq (.region [⟨some 75, .mov (.t 3), none⟩,
                ⟨some 76, .bslice true [.int Go.IntKind.i64 0] 1 3 [(0, (.c (.int Go.IntKind.i64 1))), (1, (.c (.int Go.IntKind.i64 1))), (2, (.c (.int Go.IntKind.i64 0)))], none⟩,
                ⟨some 77, .call 20 [(.t 75), (.t 76)], none⟩,
                ⟨some 78, .un .not (.t 77), none⟩,
                ⟨some 79, .mov (.t 78), none⟩,
                ⟨some 80, .mov (.t 4), some (79, false)⟩,
                ⟨some 81, .bin .neq (.t 80) (.c (.int Go.IntKind.i64 0)), some (79, false)⟩,
                ⟨some 82, .pick (.t 79) (.c (.bool true)) (.t 81), none⟩,
                ⟨some 83, .mov (.t 82), none⟩,
                ⟨some 84, .mov (.t 5), some (83, false)⟩,
                ⟨some 85, .pick (.t 83) (.c (.bool true)) (.t 84), none⟩,
                ⟨some 86, .mov (.t 85), none⟩,
                ⟨some 87, .mov (.t 6), some (86, false)⟩,
                ⟨some 88, .bin .neq (.t 87) (.c (.int Go.IntKind.i64 0)), some (86, false)⟩,
                ⟨some 89, .pick (.t 86) (.c (.bool true)) (.t 88), none⟩,
                ⟨some 90, .mov (.t 89), none⟩,
                ⟨some 91, .mov (.t 7), some (90, false)⟩,
                ⟨some 92, .un .not (.t 91), some (90, false)⟩,
                ⟨some 93, .pick (.t 90) (.c (.bool true)) (.t 92), none⟩,
                ⟨some 94, .mov (.t 93), none⟩,
                ⟨some 95, .mov (.t 8), some (94, false)⟩,
                ⟨some 96, .bin .neq (.t 95) (.c (.int Go.IntKind.i64 0)), some (94, false)⟩,
                ⟨some 97, .pick (.t 94) (.c (.bool true)) (.t 96), none⟩,
                ⟨some 98, .mov (.t 97), none⟩,
                ⟨some 99, .mov (.t 9), some (98, false)⟩,
                ⟨some 100, .bslice true [.int Go.IntKind.i64 0] 1 3 [(0, (.c (.int Go.IntKind.i64 0))), (1, (.c (.int Go.IntKind.i64 1))), (2, (.c (.int Go.IntKind.i64 1)))], some (98, false)⟩,
                ⟨some 101, .call 20 [(.t 99), (.t 100)], some (98, false)⟩,
                ⟨some 102, .un .not (.t 101), some (98, false)⟩,
                ⟨some 103, .pick (.t 98) (.c (.bool true)) (.t 102), none⟩,
                ⟨some 104, .mov (.t 103), none⟩,
                ⟨some 105, .mov (.t 10), some (104, false)⟩,
                ⟨some 106, .bin .neq (.t 105) (.c (.int Go.IntKind.i64 0)), some (104, false)⟩,
                ⟨some 107, .pick (.t 104) (.c (.bool true)) (.t 106), none⟩,
                ⟨some 108, .mov (.t 107), none⟩,
                ⟨some 109, .load true 4 (.t 12), some (108, false)⟩,
                ⟨some 110, .load true 4 (.t 11), some (108, false)⟩,
                ⟨some 111, .call 29 [(.t 109), (.t 110)], some (108, false)⟩,
                ⟨some 112, .un .not (.t 111), some (108, false)⟩,
                ⟨some 113, .pick (.t 108) (.c (.bool true)) (.t 112), none⟩,
                ⟨some 114, .mov (.t 113), none⟩,
                ⟨some 115, .mov (.t 13), some (114, false)⟩,
                ⟨some 116, .bin .neq (.t 115) (.c (.int Go.IntKind.i64 0)), some (114, false)⟩,
                ⟨some 117, .pick (.t 114) (.c (.bool true)) (.t 116), none⟩,
                ⟨some 118, .mov (.t 117), none⟩,
                ⟨some 119, .load true 4 (.t 14), some (118, false)⟩,
                ⟨some 120, .load true 4 (.t 11), some (118, false)⟩,
                ⟨some 121, .call 29 [(.t 119), (.t 120)], some (118, false)⟩,
                ⟨some 122, .un .not (.t 121), some (118, false)⟩,
                ⟨some 123, .pick (.t 118) (.c (.bool true)) (.t 122), none⟩,
                ⟨some 124, .mov (.t 123), none⟩,
                ⟨some 125, .mov (.t 15), some (124, false)⟩,
                ⟨some 126, .bin .neq (.t 125) (.c (.int Go.IntKind.i64 0)), some (124, false)⟩,
                ⟨some 127, .pick (.t 124) (.c (.bool true)) (.t 126), none⟩])
             (.cond (.t 127)
              (.seq (.region [⟨some 0, .mov (.c (.bool false)), none⟩])
               (.ret))
              (.skip)))
            (.seq (.region [⟨some 128, .bslice true [.int Go.IntKind.i64 0] 1 1 [(0, (.c (.int Go.IntKind.i64 0)))], none⟩,
                ⟨some 129, .bslice true [.int Go.IntKind.i64 0] 1 1 [(0, (.c (.int Go.IntKind.i64 1)))], none⟩,
                ⟨some 130, .build [.int Go.IntKind.i64 0, .int Go.IntKind.i64 0, .int Go.IntKind.i64 0, .int Go.IntKind.u8 0, .int Go.IntKind.u8 0] [(2, 1, (.c (.int Go.IntKind.i64 1))), (3, 1, (.c (.int Go.IntKind.u8 1)))], none⟩,
                ⟨some 131, .build [.int Go.IntKind.i64 0, .int Go.IntKind.i64 0, .int Go.IntKind.i64 0, .int Go.IntKind.u8 0, .int Go.IntKind.u8 0] [(0, 1, (.c (.int Go.IntKind.i64 1))), (2, 1, (.c (.int Go.IntKind.i64 1)))], none⟩,
                ⟨some 132, .build [.int Go.IntKind.i64 0, .int Go.IntKind.i64 0, .int Go.IntKind.i64 0, .int Go.IntKind.u8 0, .int Go.IntKind.u8 0] [(1, 1, (.c (.int Go.IntKind.i64 1))), (2, 1, (.c (.int Go.IntKind.i64 1)))], none⟩,
                ⟨some 133, .build [.int Go.IntKind.i64 0, .int Go.IntKind.i64 0, .int Go.IntKind.i64 0, .int Go.IntKind.u8 0, .int Go.IntKind.u8 0] [], none⟩,
                ⟨some 134, .bslice true [.int Go.IntKind.i64 0, .int Go.IntKind.i64 0, .int Go.IntKind.i64 0, .int Go.IntKind.u8 0, .int Go.IntKind.u8 0] 5 4 [(0, (.t 130)), (1, (.t 131)), (2, (.t 132)), (3, (.t 133))], none⟩,
                ⟨some 135, .build [.int Go.IntKind.i64 0, .int Go.IntKind.i64 0, .sl true 0 [], .sl true 0 [], .sl true 0 []] [(0, 1, (.c (.int Go.IntKind.i64 2))), (1, 1, (.c (.int Go.IntKind.i64 2))), (2, 1, (.t 128)), (3, 1, (.t 129)), (4, 1, (.t 134))], none⟩,
                ⟨some 16, .box (.c (.agg [.int Go.IntKind.i64 0, .int Go.IntKind.i64 0, .sl true 0 [], .sl true 0 [], .sl true 0 []])), none⟩,
                ⟨none, .store 5 (.t 16) (.t 135), none⟩])
             (.seq (.region [⟨some 137, .load true 5 (.t 16), none⟩,
                 ⟨some 138, .call 37 [(.t 137), (.c (.int Go.IntKind.i64 2))], none⟩,
                 ⟨some 136, .mov (.t 138), none⟩,
                 ⟨some 139, .ext 0 (.t 136), none⟩,
                 ⟨some 140, .ext 1 (.t 136), none⟩,
                 ⟨some 141, .ext 2 (.t 136), none⟩,
                 ⟨some 17, .box (.c (.agg [.int Go.IntKind.i64 0, .int Go.IntKind.i64 0, .sl true 0 [], .sl true 0 []])), none⟩,
                 ⟨none, .store 4 (.t 17) (.t 139), none⟩,
                 ⟨some 18, .mov (.t 140), none⟩,
                 ⟨some 19, .mov (.t 141), none⟩])
              (.seq (.region [⟨some 143, .load true 5 (.t 16), none⟩,
                  ⟨some 144, .call 37 [(.t 143), (.c (.int Go.IntKind.i64 1))], none⟩,
                  ⟨some 142, .mov (.t 144), none⟩,
                  ⟨some 145, .ext 0 (.t 142), none⟩,
                  ⟨some 146, .ext 1 (.t 142), none⟩,
                  ⟨some 147, .ext 2 (.t 142), none⟩,
                  ⟨some 20, .box (.c (.agg [.int Go.IntKind.i64 0, .int Go.IntKind.i64 0, .sl true 0 [], .sl true 0 []])), none⟩,
                  ⟨none, .store 4 (.t 20) (.t 145), none⟩,
                  ⟨some 21, .mov (.t 146), none⟩,
                  ⟨some 22, .mov (.t 147), none⟩])
               (.seq (.region [⟨some 149, .load true 5 (.t 16), none⟩,
                   ⟨some 150, .call 37 [(.t 149), (.c (.int Go.IntKind.i64 65))], none⟩,
                   ⟨some 148, .mov (.t 150), none⟩,
                   ⟨some 151, .ext 0 (.t 148), none⟩,
                   ⟨some 152, .ext 1 (.t 148), none⟩,
                   ⟨some 153, .ext 2 (.t 148), none⟩,
                   ⟨some 23, .box (.c (.agg [.int Go.IntKind.i64 0, .int Go.IntKind.i64 0, .sl true 0 [], .sl true 0 []])), none⟩,
                   ⟨none, .store 4 (.t 23) (.t 151), none⟩,
                   ⟨some 24, .mov (.t 152), none⟩,
                   ⟨some 25, .mov (.t 153), none⟩])
                (.seq (.region [⟨some 155, .load true 4 (.t 11), none⟩,
                    ⟨some 156, .call 27 [(.t 155)], none⟩,
                    ⟨some 154, .mov (.t 156), none⟩,
                    ⟨some 157, .ext 0 (.t 154), none⟩,
                    ⟨some 158, .ext 1 (.t 154), none⟩,
                    ⟨some 26, .box (.c (.agg [.int Go.IntKind.i64 0, .int Go.IntKind.i64 0, .sl true 0 [], .sl true 0 [], .sl true 0 []])), none⟩,
                    ⟨none, .store 5 (.t 26) (.t 157), none⟩,
                    ⟨some 27, .mov (.t 158), none⟩])
                 (.seq (.region [⟨some 159, .mov (.t 18), none⟩,
                     ⟨some 160, .bslice true [.int Go.IntKind.i64 0] 1 1 [(0, (.c (.int Go.IntKind.i64 0)))], none⟩,
                     ⟨some 161, .bslice true [.int Go.IntKind.i64 0] 1 2 [(0, (.c (.int Go.IntKind.i64 0))), (1, (.c (.int Go.IntKind.i64 1)))], none⟩,
                     ⟨some 162, .bslice true [.sl true 0 []] 1 2 [(0, (.t 160)), (1, (.t 161))], none⟩,
                     ⟨some 163, .call 39 [(.t 159), (.t 162)], none⟩,
                     ⟨some 164, .mov (.t 163), none⟩,
                     ⟨some 165, .mov (.t 19), some (164, true)⟩,
                     ⟨some 166, .bin .eql (.t 165) (.c (.int Go.IntKind.i64 0)), some (164, true)⟩,
                     ⟨some 167, .pick (.t 164) (.t 166) (.c (.bool false)), none⟩,
                     ⟨some 168, .mov (.t 167), none⟩,
                     ⟨some 169, .mov (.t 22), some (168, true)⟩,
                     ⟨some 170, .bin .eql (.t 169) (.c (.int Go.IntKind.i64 10)), some (168, true)⟩,
                     ⟨some 171, .pick (.t 168) (.t 170) (.c (.bool false)), none⟩,
                     ⟨some 172, .mov (.t 171), none⟩,
                     ⟨some 173, .mov (.t 25), some (172, true)⟩,
                     ⟨some 174, .bin .eql (.t 173) (.c (.int Go.IntKind.i64 1)), some (172, true)⟩,
                     ⟨some 175, .pick (.t 172) (.t 174) (.c (.bool false)), none⟩,
                     ⟨some 176, .mov (.t 175), none⟩,
                     ⟨some 177, .mov (.t 27), some (176, true)⟩,
                     ⟨some 178, .bin .eql (.t 177) (.c (.int Go.IntKind.i64 0)), some (176, true)⟩,
                     ⟨some 179, .pick (.t 176) (.t 178) (.c (.bool false)), none⟩,
                     ⟨some 180, .mov (.t 179), none⟩,
                     ⟨some 181, .faddr 1 (.t 26), some (180, true)⟩,
                     ⟨some 182, .load false 1 (.t 181), some (180, true)⟩,
                     ⟨some 183, .bin .eql (.t 182) (.c (.int Go.IntKind.i64 2)), some (180, true)⟩,
                     ⟨some 184, .pick (.t 180) (.t 183) (.c (.bool false)), none⟩,
                     ⟨some 185, .mov (.t 184), none⟩,
                     ⟨some 186, .faddr 2 (.t 26), some (185, true)⟩,
                     ⟨some 187, .load false 1 (.t 186), some (185, true)⟩,
                     ⟨some 188, .bslice true [.int Go.IntKind.i64 0] 1 1 [(0, (.c (.int Go.IntKind.i64 0)))], some (185, true)⟩,
                     ⟨some 189, .call 20 [(.t 187), (.t 188)], some (185, true)⟩,
                     ⟨some 190, .pick (.t 185) (.t 189) (.c (.bool false)), none⟩,
                     ⟨some 191, .mov (.t 190), none⟩,
                     ⟨some 192, .faddr 3 (.t 26), some (191, true)⟩,
                     ⟨some 193, .load false 1 (.t 192), some (191, true)⟩,
                     ⟨some 194, .bslice true [.int Go.IntKind.i64 0] 1 1 [(0, (.c (.int Go.IntKind.i64 1)))], some (191, true)⟩,
                     ⟨some 195, .call 20 [(.t 193), (.t 194)], some (191, true)⟩,
                     ⟨some 196, .pick (.t 191) (.t 195) (.c (.bool false)), none⟩,
                     ⟨some 197, .mov (.t 196), none⟩,
                     ⟨some 198, .faddr 4 (.t 26), some (197, true)⟩,
                     ⟨some 199, .load false 1 (.t 198), some (197, true)⟩,
                     ⟨some 200, .len (.t 199), some (197, true)⟩,
                     ⟨some 201, .bin .eql (.t 200) (.c (.int Go.IntKind.i64 8)), some (197, true)⟩,
                     ⟨some 202, .pick (.t 197) (.t 201) (.c (.bool false)), none⟩,
                     ⟨some 203, .mov (.t 202), none⟩,
                     ⟨some 204, .faddr 4 (.t 26), some (203, true)⟩,
                     ⟨some 205, .load false 1 (.t 204), some (203, true)⟩,
                     ⟨some 206, .iaddr 5 (.t 205) (.c (.int Go.IntKind.i64 0)), some (203, true)⟩,
                     ⟨some 207, .load true 5 (.t 206), some (203, true)⟩,
                     ⟨some 208, .build [.int Go.IntKind.i64 0, .int Go.IntKind.i64 0, .int Go.IntKind.i64 0, .int Go.IntKind.u8 0, .int Go.IntKind.u8 0] [(4, 1, (.c (.int Go.IntKind.u8 1)))], some (203, true)⟩,
                     ⟨some 209, .aeq false 5 (.t 207) (.t 208), some (203, true)⟩,
                     ⟨some 210, .pick (.t 203) (.t 209) (.c (.bool false)), none⟩,
                     ⟨some 0, .mov (.t 210), none⟩])
                  (.ret))))))))))))))))),
  [.tmp 0]⟩

def xOu : ACode :=
  .seq (.region [⟨some 46, .bin .lss (.t 45) (.t 44), none⟩])
  (.seq (.cond (.t 46)
    (.skip)
    (.exit 0))
   (.seq (.block 1 (.seq (.region [⟨some 47, .iaddr 1 (.t 43) (.t 45), none⟩,
         ⟨some 48, .load false 1 (.t 47), none⟩,
         ⟨some 13, .mov (.t 48), none⟩])
      (.region [⟨some 49, .mov (.t 5), none⟩,
         ⟨some 50, .mov (.t 13), none⟩,
         ⟨some 51, .call 77 [(.t 50)], none⟩,
         ⟨some 52, .bslice true [.sl true 0 []] 1 1 [(0, (.t 51))], none⟩,
         ⟨some 53, .append false 1 24 (.t 49) (.t 52), none⟩,
         ⟨some 5, .mov (.t 53), none⟩])))
    (.region [⟨some 54, .bin .add (.t 45) (.c (.int Go.IntKind.i64 1)), none⟩,
       ⟨some 45, .mov (.t 54), none⟩])))

def xTi : ACode := xOu
def xLp : List Nat := [0, 1, 3, 6, 7, 11, 12, 13, 14, 15, 16, 17, 18, 19, 20, 21, 22, 23, 24, 25, 26, 27, 28, 29, 30, 31, 32, 33, 34, 35, 36, 37, 38, 39, 40, 41, 42, 46, 47, 48, 49, 50, 51, 52, 53, 54, 55, 56, 57, 58, 59, 60, 61, 62, 63]
abbrev xLq (s2 s4 s5 s8 s9 s10 s43 s44 s45 : AV) : List AV := [.any, .any, s2, .any, s4, s5, .any, .any, s8, s9, s10, .any, .any, .any, .any, .any, .any, .any, .any, .any, .any, .any, .any, .any, .any, .any, .any, .any, .any, .any, .any, .any, .any, .any, .any, .any, .any, .any, .any, .any, .any, .any, .any, s43, s44, s45, .any, .any, .any, .any, .any, .any, .any, .any, .any, .any, .any, .any, .any, .any, .any, .any, .any, .any]
theorem xQE (s0 s1 s2 s3 s4 s5 s6 s7 s8 s9 s10 s11 s12 s13 s14 s15 s16 s17 s18 s19 s20 s21 s22 s23 s24 s25 s26 s27 s28 s29 s30 s31 s32 s33 s34 s35 s36 s37 s38 s39 s40 s41 s42 s43 s44 s45 s46 s47 s48 s49 s50 s51 s52 s53 s54 s55 s56 s57 s58 s59 s60 s61 s62 s63 : AV) : xBA xLp [s0, s1, s2, s3, s4, s5, s6, s7, s8, s9, s10, s11, s12, s13, s14, s15, s16, s17, s18, s19, s20, s21, s22, s23, s24, s25, s26, s27, s28, s29, s30, s31, s32, s33, s34, s35, s36, s37, s38, s39, s40, s41, s42, s43, s44, s45, s46, s47, s48, s49, s50, s51, s52, s53, s54, s55, s56, s57, s58, s59, s60, s61, s62, s63] = xLq s2 s4 s5 s8 s9 s10 s43 s44 s45 := by kernel_rfl
theorem xVg {prog : Nat → Option AFunc} (s2 s4 s5 s8 s9 s10 s43 s44 s45 : AV) (H : xAu) : (lim prog).loop xLp xTi ⟨xLq s2 s4 s5 s8 s9 s10 s43 s44 s45, H⟩ = xCo (lim prog) xLp xTi (run (lim prog) xOu ⟨xLq s2 s4 s5 s8 s9 s10 s43 s44 s45, H⟩) := xAT _ _ _ _ (by kernel_rfl)

def a37 : AFunc := ⟨64,
  .seq (.region [⟨some 2, .box (.t 0), none⟩,
     ⟨some 3, .box (.t 1), none⟩,
     ⟨some 4, .box (.c (.agg [.int Go.IntKind.i64 0, .int Go.IntKind.i64 0, .sl true 0 [], .sl true 0 []])), none⟩,
     ⟨some 5, .mov (.c (.sl true 0 [])), none⟩,
     ⟨some 6, .mov (.c (.int Go.IntKind.i64 0)), none⟩])
  (.seq (.seq (.region [⟨some 14, .load true 5 (.t 2), none⟩,
       ⟨some 15, .call 45 [(.t 14)], none⟩,
       ⟨some 7, .mov (.t 15), none⟩])
    (.seq (.region [⟨some 16, .mov (.t 7), none⟩,
        ⟨some 17, .bin .neq (.t 16) (.c (.int Go.IntKind.i64 0)), none⟩])
     (.cond (.t 17)
      (.seq (.region [⟨some 18, .build [.int Go.IntKind.i64 0, .int Go.IntKind.i64 0, .sl true 0 [], .sl true 0 []] [], none⟩,
          ⟨some 19, .mov (.t 7), none⟩,
          ⟨none, .store 4 (.t 4) (.t 18), none⟩,
          ⟨some 5, .mov (.c (.sl true 0 [])), none⟩,
          ⟨some 6, .mov (.t 19), none⟩])
       (.ret))
      (.skip))))
   (.seq (.seq (.region [⟨some 20, .load false 1 (.t 3), none⟩,
        ⟨some 21, .bin .lss (.t 20) (.c (.int Go.IntKind.i64 1)), none⟩,
        ⟨some 22, .mov (.t 21), none⟩,
        ⟨some 23, .load false 1 (.t 3), some (22, false)⟩,
        ⟨some 24, .bin .gtr (.t 23) (.c (.int Go.IntKind.i64 64)), some (22, false)⟩,
        ⟨some 25, .pick (.t 22) (.c (.bool true)) (.t 24), none⟩])
     (.cond (.t 25)
      (.seq (.region [⟨some 26, .build [.int Go.IntKind.i64 0, .int Go.IntKind.i64 0, .sl true 0 [], .sl true 0 []] [], none⟩,
          ⟨none, .store 4 (.t 4) (.t 26), none⟩,
          ⟨some 5, .mov (.c (.sl true 0 [])), none⟩,
          ⟨some 6, .mov (.c (.int Go.IntKind.i64 1)), none⟩])
       (.ret))
      (.skip)))
    (.seq (.region [⟨some 27, .faddr 2 (.t 2), none⟩,
        ⟨some 28, .load false 1 (.t 27), none⟩,
        ⟨some 29, .call 73 [(.t 28)], none⟩,
        ⟨some 30, .bslice false [.int Go.IntKind.u64 0] 1 1 [(0, (.t 29))], none⟩,
        ⟨some 8, .box (.c (.sl true 0 [])), none⟩,
        ⟨none, .store 1 (.t 8) (.t 30), none⟩])
     (.seq (.region [⟨some 31, .mkmap, none⟩,
         ⟨some 32, .load false 1 (.t 8), none⟩,
         ⟨some 33, .iaddr 1 (.t 32) (.c (.int Go.IntKind.i64 0)), none⟩,
         ⟨some 34, .load false 1 (.t 33), none⟩,
         ⟨none, .mupd [0] (.t 31) (.t 34) (.c (.int Go.IntKind.i64 0)), none⟩,
         ⟨some 35, .mov (.t 31), none⟩,
         ⟨some 9, .box (.c (.nilm)), none⟩,
         ⟨none, .store 1 (.t 9) (.t 35), none⟩])
      (.seq (.region [⟨some 36, .mkfunc 74 [(.t 2), (.t 8)], none⟩,
          ⟨some 10, .box (.c (.nilf)), none⟩,
          ⟨none, .store 1 (.t 10) (.t 36), none⟩])
       (.seq (.region [⟨some 11, .box (.c (.bool false)), none⟩,
           ⟨none, .store 1 (.t 11) (.c (.bool false)), none⟩])
        (.seq (.region [⟨some 37, .faddr 0 (.t 2), none⟩,
            ⟨some 38, .load false 1 (.t 37), none⟩,
            ⟨some 39, .mkfunc 76 [(.t 10), (.t 9), (.t 8), (.t 3), (.t 11)], none⟩,
            ⟨some 40, .icall (.c (.func 75 [])) [(.t 38), (.t 39)], none⟩])
         (.seq (.seq (.region [⟨some 41, .load false 1 (.t 11), none⟩])
           (.cond (.t 41)
            (.seq (.region [⟨some 42, .build [.int Go.IntKind.i64 0, .int Go.IntKind.i64 0, .sl true 0 [], .sl true 0 []] [], none⟩,
                ⟨none, .store 4 (.t 4) (.t 42), none⟩,
                ⟨some 5, .mov (.c (.sl true 0 [])), none⟩,
                ⟨some 6, .mov (.c (.int Go.IntKind.i64 10)), none⟩])
             (.ret))
            (.skip)))
          (.seq (.seq (.region [⟨some 43, .load false 1 (.t 8), none⟩,
               ⟨some 44, .len (.t 43), none⟩,
               ⟨some 45, .mov (.c (.int Go.IntKind.i64 0)), none⟩])
            (.block 0 (.loop xLp xTi)))
           (.seq (.region [⟨some 55, .faddr 0 (.t 2), none⟩,
               ⟨some 56, .load false 1 (.t 55), none⟩,
               ⟨some 57, .load false 1 (.t 8), none⟩,
               ⟨some 58, .len (.t 57), none⟩,
               ⟨some 59, .mkfunc 78 [(.t 9), (.t 10)], none⟩,
               ⟨some 60, .mkfunc 79 [(.t 2), (.t 8)], none⟩,
               ⟨some 61, .icall (.c (.func 61 [])) [(.t 56), (.t 58), (.t 59), (.t 60)], none⟩,
               ⟨none, .store 4 (.t 4) (.t 61), none⟩])
            (.seq (.region [⟨some 62, .load true 4 (.t 4), none⟩,
                ⟨some 63, .mov (.t 5), none⟩,
                ⟨none, .store 4 (.t 4) (.t 62), none⟩,
                ⟨some 5, .mov (.t 63), none⟩,
                ⟨some 6, .mov (.c (.int Go.IntKind.i64 0)), none⟩])
             (.ret)))))))))))),
  [.cell 4 true 4, .tmp 5, .tmp 6]⟩

def xOv : ACode :=
  .seq (.seq (.region [⟨some 11, .mov (.t 5), none⟩,
      ⟨some 12, .mov (.t 0), none⟩,
      ⟨some 13, .len (.t 12), none⟩,
      ⟨some 14, .bin .lss (.t 11) (.t 13), none⟩])
   (.cond (.t 14)
    (.skip)
    (.exit 0)))
  (.seq (.block 1 (.seq (.draw 5 [⟨some 17, .mov (.t 0), none⟩,
        ⟨some 18, .mov (.t 5), none⟩,
        ⟨some 19, .iaddr 1 (.t 17) (.t 18), none⟩,
        ⟨some 20, .load false 1 (.t 19), none⟩,
        ⟨some 21, .mov (.t 1), none⟩,
        ⟨some 22, .mov (.t 5), none⟩,
        ⟨some 23, .iaddr 1 (.t 21) (.t 22), none⟩,
        ⟨some 24, .load false 1 (.t 23), none⟩,
        ⟨some 25, .call 20 [(.t 20), (.t 24)], none⟩,
        ⟨some 26, .un .not (.t 25), none⟩])
     (.cond (.t 26)
      (.seq (.region [⟨some 4, .mov (.c (.bool false)), none⟩])
       (.ret))
      (.skip))))
   (.region [⟨some 15, .mov (.t 5), none⟩,
      ⟨some 16, .bin .add (.t 15) (.c (.int Go.IntKind.i64 1)), none⟩,
      ⟨some 5, .mov (.t 16), none⟩]))

def xTj : ACode := xOv
def xLr : List Nat := [2, 3, 6, 7, 8, 9, 10, 11, 12, 13, 14, 15, 16, 17, 18, 19, 20, 21, 22, 23, 24, 25, 26]
abbrev xLs (s0 s1 s4 s5 : AV) : List AV := [s0, s1, .any, .any, s4, s5, .any, .any, .any, .any, .any, .any, .any, .any, .any, .any, .any, .any, .any, .any, .any, .any, .any, .any, .any, .any, .any]
theorem xQF (s0 s1 s2 s3 s4 s5 s6 s7 s8 s9 s10 s11 s12 s13 s14 s15 s16 s17 s18 s19 s20 s21 s22 s23 s24 s25 s26 : AV) : xBA xLr [s0, s1, s2, s3, s4, s5, s6, s7, s8, s9, s10, s11, s12, s13, s14, s15, s16, s17, s18, s19, s20, s21, s22, s23, s24, s25, s26] = xLs s0 s1 s4 s5 := by kernel_rfl
theorem xVh {prog : Nat → Option AFunc} (s0 s1 s4 s5 : AV) (H : xAu) : (lim prog).loop xLr xTj ⟨xLs s0 s1 s4 s5, H⟩ = xCo (lim prog) xLr xTj (run (lim prog) xOv ⟨xLs s0 s1 s4 s5, H⟩) := xAT _ _ _ _ (by kernel_rfl)

def a39 : AFunc := ⟨27,
  .seq (.region [⟨some 4, .mov (.c (.bool false)), none⟩])
  (.seq (.seq (.region [⟨some 6, .mov (.t 0), none⟩,
       ⟨some 7, .len (.t 6), none⟩,
       ⟨some 8, .mov (.t 1), none⟩,
       ⟨some 9, .len (.t 8), none⟩,
       ⟨some 10, .bin .neq (.t 7) (.t 9), none⟩])
    (.cond (.t 10)
     (.seq (.region [⟨some 4, .mov (.c (.bool false)), none⟩])
      (.ret))
     (.skip)))
   (.seq (.seq (.region [⟨some 5, .mov (.c (.int Go.IntKind.i64 0)), none⟩])
     (.block 0 (.loop xLr xTj)))
    (.seq (.region [⟨some 4, .mov (.c (.bool true)), none⟩])
     (.ret)))),
  [.tmp 4]⟩

def xVi : ACode :=
  .seq (.seq (.region [⟨some 12, .mov (.t 4), none⟩,
      ⟨some 13, .bin .lss (.t 12) (.c (.int Go.IntKind.i64 3)), none⟩])
   (.cond (.t 13)
    (.skip)
    (.exit 2)))
  (.seq (.block 3 (.seq (.region [⟨some 5, .mov (.c (.int Go.IntKind.i64 0)), none⟩])
     (.seq (.seq (.region [⟨some 16, .mov (.t 2), none⟩,
          ⟨some 17, .bin .eql (.t 16) (.c (.int Go.IntKind.i64 2)), none⟩,
          ⟨some 18, .mov (.t 17), none⟩,
          ⟨some 19, .mov (.t 4), some (18, false)⟩,
          ⟨some 20, .bin .eql (.t 19) (.c (.int Go.IntKind.i64 2)), some (18, false)⟩,
          ⟨some 21, .pick (.t 18) (.c (.bool true)) (.t 20), none⟩])
       (.cond (.t 21)
        (.region [⟨some 5, .mov (.c (.int Go.IntKind.i64 2)), none⟩])
        (.skip)))
      (.seq (.seq (.region [⟨some 22, .mov (.t 2), none⟩,
           ⟨some 23, .bin .eql (.t 22) (.c (.int Go.IntKind.i64 1)), none⟩,
           ⟨some 24, .mov (.t 23), none⟩,
           ⟨some 25, .mov (.t 4), some (24, false)⟩,
           ⟨some 26, .bin .eql (.t 25) (.c (.int Go.IntKind.i64 1)), some (24, false)⟩,
           ⟨some 27, .pick (.t 24) (.c (.bool true)) (.t 26), none⟩])
        (.cond (.t 27)
         (.region [⟨some 5, .mov (.c (.int Go.IntKind.i64 1)), none⟩])
         (.skip)))
       (.region [⟨some 28, .mov (.t 3), none⟩,
          ⟨some 29, .mov (.t 5), none⟩,
          ⟨some 30, .bslice true [.int Go.IntKind.i64 0] 1 2 [(0, (.t 29)), (1, (.c (.int Go.IntKind.i64 1)))], none⟩,
          ⟨some 31, .bslice true [.sl true 0 []] 1 1 [(0, (.t 30))], none⟩,
          ⟨some 32, .append false 1 24 (.t 28) (.t 31), none⟩,
          ⟨some 3, .mov (.t 32), none⟩])))))
   (.region [⟨some 14, .mov (.t 4), none⟩,
      ⟨some 15, .bin .add (.t 14) (.c (.int Go.IntKind.i64 1)), none⟩,
      ⟨some 4, .mov (.t 15), none⟩]))

def xWh : ACode := xVi
def xOw : List Nat := [5, 6, 7, 8, 9, 10, 11, 12, 13, 14, 15, 16, 17, 18, 19, 20, 21, 22, 23, 24, 25, 26, 27, 28, 29, 30, 31, 32, 33, 34, 35, 36, 37, 38, 39]
abbrev xQG (s0 s1 s2 s3 s4 : AV) : List AV := [s0, s1, s2, s3, s4, .any, .any, .any, .any, .any, .any, .any, .any, .any, .any, .any, .any, .any, .any, .any, .any, .any, .any, .any, .any, .any, .any, .any, .any, .any, .any, .any, .any, .any, .any, .any, .any, .any, .any, .any]
theorem yDA (s0 s1 s2 s3 s4 s5 s6 s7 s8 s9 s10 s11 s12 s13 s14 s15 s16 s17 s18 s19 s20 s21 s22 s23 s24 s25 s26 s27 s28 s29 s30 s31 s32 s33 s34 s35 s36 s37 s38 s39 : AV) : xBA xOw [s0, s1, s2, s3, s4, s5, s6, s7, s8, s9, s10, s11, s12, s13, s14, s15, s16, s17, s18, s19, s20, s21, s22, s23, s24, s25, s26, s27, s28, s29, s30, s31, s32, s33, s34, s35, s36, s37, s38, s39] = xQG s0 s1 s2 s3 s4 := by kernel_rfl
theorem yDB {prog : Nat → Option AFunc} (s0 s1 s2 s3 s4 : AV) (H : xAu) : (lim prog).loop xOw xWh ⟨xQG s0 s1 s2 s3 s4, H⟩ = xCo (lim prog) xOw xWh (run (lim prog) xVi ⟨xQG s0 s1 s2 s3 s4, H⟩) := xAT _ _ _ _ (by kernel_rfl)

def xVj : ACode :=
  .seq (.seq (.region [⟨some 8, .mov (.t 2), none⟩,
      ⟨some 9, .bin .lss (.t 8) (.c (.int Go.IntKind.i64 3)), none⟩])
   (.cond (.t 9)
    (.skip)
    (.exit 0)))
  (.seq (.block 1 (.seq (.region [⟨some 3, .mov (.c (.sl true 0 [])), none⟩])
     (.seq (.seq (.region [⟨some 4, .mov (.c (.int Go.IntKind.i64 0)), none⟩])
       (.block 2 (.loop xOw xWh)))
      (.region [⟨some 33, .faddr 2 (.t 1), none⟩,
         ⟨some 34, .load false 1 (.t 33), none⟩,
         ⟨some 35, .mov (.t 3), none⟩,
         ⟨some 36, .bslice false [.sl true 0 []] 1 1 [(0, (.t 35))], none⟩,
         ⟨some 37, .append false 1 24 (.t 34) (.t 36), none⟩,
         ⟨some 38, .faddr 2 (.t 1), none⟩,
         ⟨none, .store 1 (.t 38) (.t 37), none⟩]))))
   (.region [⟨some 10, .mov (.t 2), none⟩,
      ⟨some 11, .bin .add (.t 10) (.c (.int Go.IntKind.i64 1)), none⟩,
      ⟨some 2, .mov (.t 11), none⟩]))

def xWi : ACode := xVj
def xOx : List Nat := [3, 4, 5, 6, 7, 8, 9, 10, 11, 12, 13, 14, 15, 16, 17, 18, 19, 20, 21, 22, 23, 24, 25, 26, 27, 28, 29, 30, 31, 32, 33, 34, 35, 36, 37, 38, 39]
abbrev xQH (s0 s1 s2 : AV) : List AV := [s0, s1, s2, .any, .any, .any, .any, .any, .any, .any, .any, .any, .any, .any, .any, .any, .any, .any, .any, .any, .any, .any, .any, .any, .any, .any, .any, .any, .any, .any, .any, .any, .any, .any, .any, .any, .any, .any, .any, .any]
theorem yDC (s0 s1 s2 s3 s4 s5 s6 s7 s8 s9 s10 s11 s12 s13 s14 s15 s16 s17 s18 s19 s20 s21 s22 s23 s24 s25 s26 s27 s28 s29 s30 s31 s32 s33 s34 s35 s36 s37 s38 s39 : AV) : xBA xOx [s0, s1, s2, s3, s4, s5, s6, s7, s8, s9, s10, s11, s12, s13, s14, s15, s16, s17, s18, s19, s20, s21, s22, s23, s24, s25, s26, s27, s28, s29, s30, s31, s32, s33, s34, s35, s36, s37, s38, s39] = xQH s0 s1 s2 := by kernel_rfl
theorem yDD {prog : Nat → Option AFunc} (s0 s1 s2 : AV) (H : xAu) : (lim prog).loop xOx xWi ⟨xQH s0 s1 s2, H⟩ = xCo (lim prog) xOx xWi (run (lim prog) xVj ⟨xQH s0 s1 s2, H⟩) := xAT _ _ _ _ (by kernel_rfl)

def a41 : AFunc := ⟨40,
  .seq (.region [⟨some 0, .box (.c (.agg [.int Go.IntKind.i64 0, .int Go.IntKind.i64 0, .sl true 0 [], .sl true 0 []])), none⟩])
  (.seq (.region [⟨some 6, .bslice true [.bool false] 1 3 [(0, (.c (.bool false))), (1, (.c (.bool true))), (2, (.c (.bool true)))], none⟩,
      ⟨some 7, .build [.int Go.IntKind.i64 0, .int Go.IntKind.i64 0, .sl true 0 [], .sl true 0 []] [(0, 1, (.c (.int Go.IntKind.i64 1))), (3, 1, (.t 6))], none⟩,
      ⟨some 1, .box (.c (.agg [.int Go.IntKind.i64 0, .int Go.IntKind.i64 0, .sl true 0 [], .sl true 0 []])), none⟩,
      ⟨none, .store 4 (.t 1) (.t 7), none⟩])
   (.seq (.seq (.region [⟨some 2, .mov (.c (.int Go.IntKind.i64 0)), none⟩])
     (.block 0 (.loop xOx xWi)))
    (.seq (.region [⟨some 39, .load true 4 (.t 1), none⟩,
        ⟨none, .store 4 (.t 0) (.t 39), none⟩])
     (.ret)))),
  [.cell 0 true 4]⟩

def xJz : ACode :=
  .seq (.seq (.region [⟨some 48, .mov (.t 10), none⟩,
      ⟨some 49, .mov (.t 9), none⟩,
      ⟨some 50, .len (.t 49), none⟩,
      ⟨some 51, .bin .lss (.t 48) (.t 50), none⟩])
   (.cond (.t 51)
    (.skip)
    (.exit 4)))
  (.seq (.block 5 (.seq (.region [⟨some 54, .mov (.t 8), none⟩,
        ⟨some 55, .faddr 2 (.t 2), none⟩,
        ⟨some 56, .load false 1 (.t 55), none⟩,
        ⟨some 57, .mov (.t 6), none⟩,
        ⟨some 58, .iaddr 1 (.t 56) (.t 57), none⟩,
        ⟨some 59, .load false 1 (.t 58), none⟩,
        ⟨some 60, .len (.t 59), none⟩,
        ⟨some 61, .bin .lss (.t 54) (.t 60), none⟩,
        ⟨some 62, .mov (.t 61), none⟩,
        ⟨some 63, .mov (.t 10), some (62, true)⟩,
        ⟨some 64, .faddr 2 (.t 2), some (62, true)⟩,
        ⟨some 65, .load false 1 (.t 64), some (62, true)⟩,
        ⟨some 66, .mov (.t 6), some (62, true)⟩,
        ⟨some 67, .iaddr 1 (.t 65) (.t 66), some (62, true)⟩,
        ⟨some 68, .load false 1 (.t 67), some (62, true)⟩,
        ⟨some 69, .mov (.t 8), some (62, true)⟩,
        ⟨some 70, .iaddr 1 (.t 68) (.t 69), some (62, true)⟩,
        ⟨some 71, .load false 1 (.t 70), some (62, true)⟩,
        ⟨some 72, .len (.t 71), some (62, true)⟩,
        ⟨some 73, .bin .lss (.t 63) (.t 72), some (62, true)⟩,
        ⟨some 74, .pick (.t 62) (.t 73) (.c (.bool false)), none⟩])
     (.cond (.t 74)
      (.region [⟨some 75, .mov (.t 9), none⟩,
         ⟨some 76, .mov (.t 10), none⟩,
         ⟨some 77, .faddr 2 (.t 2), none⟩,
         ⟨some 78, .load false 1 (.t 77), none⟩,
         ⟨some 79, .mov (.t 6), none⟩,
         ⟨some 80, .iaddr 1 (.t 78) (.t 79), none⟩,
         ⟨some 81, .load false 1 (.t 80), none⟩,
         ⟨some 82, .mov (.t 8), none⟩,
         ⟨some 83, .iaddr 1 (.t 81) (.t 82), none⟩,
         ⟨some 84, .load false 1 (.t 83), none⟩,
         ⟨some 85, .mov (.t 10), none⟩,
         ⟨some 86, .iaddr 1 (.t 84) (.t 85), none⟩,
         ⟨some 87, .load false 1 (.t 86), none⟩,
         ⟨some 88, .mov (.t 1), none⟩,
         ⟨some 89, .bin .rem (.t 87) (.t 88), none⟩,
         ⟨some 90, .mov (.t 1), none⟩,
         ⟨some 91, .bin .add (.t 89) (.t 90), none⟩,
         ⟨some 92, .mov (.t 1), none⟩,
         ⟨some 93, .bin .rem (.t 91) (.t 92), none⟩,
         ⟨some 94, .iaddr 1 (.t 75) (.t 76), none⟩,
         ⟨none, .store 1 (.t 94) (.t 93), none⟩])
      (.skip))))
   (.region [⟨some 52, .mov (.t 10), none⟩,
      ⟨some 53, .bin .add (.t 52) (.c (.int Go.IntKind.i64 1)), none⟩,
      ⟨some 10, .mov (.t 53), none⟩]))

def xTk : ACode := xJz
def xLt : List Nat := [0, 3, 11, 12, 13, 14, 15, 16, 17, 18, 19, 20, 21, 22, 23, 24, 25, 26, 27, 28, 29, 30, 31, 32, 33, 34, 35, 36, 37, 38, 39, 40, 41, 42, 43, 44, 45, 46, 47, 48, 49, 50, 51, 52, 53, 54, 55, 56, 57, 58, 59, 60, 61, 62, 63, 64, 65, 66, 67, 68, 69, 70, 71, 72, 73, 74, 75, 76, 77, 78, 79, 80, 81, 82, 83, 84, 85, 86, 87, 88, 89, 90, 91, 92, 93, 94, 95, 96, 97, 98, 99, 100, 101, 102, 103, 104, 105, 106, 107, 108, 109, 110, 111, 112, 113, 114, 115, 116, 117, 118, 119, 120, 121, 122]
abbrev xLu (s1 s2 s4 s5 s6 s7 s8 s9 s10 : AV) : List AV := [.any, s1, s2, .any, s4, s5, s6, s7, s8, s9, s10, .any, .any, .any, .any, .any, .any, .any, .any, .any, .any, .any, .any, .any, .any, .any, .any, .any, .any, .any, .any, .any, .any, .any, .any, .any, .any, .any, .any, .any, .any, .any, .any, .any, .any, .any, .any, .any, .any, .any, .any, .any, .any, .any, .any, .any, .any, .any, .any, .any, .any, .any, .any, .any, .any, .any, .any, .any, .any, .any, .any, .any, .any, .any, .any, .any, .any, .any, .any, .any, .any, .any, .any, .any, .any, .any, .any, .any, .any, .any, .any, .any, .any, .any, .any, .any, .any, .any, .any, .any, .any, .any, .any, .any, .any, .any, .any, .any, .any, .any, .any, .any, .any, .any, .any, .any, .any, .any, .any, .any, .any, .any, .any]
theorem xJA (s0 s1 s2 s3 s4 s5 s6 s7 s8 s9 s10 s11 s12 s13 s14 s15 s16 s17 s18 s19 s20 s21 s22 s23 s24 s25 s26 s27 s28 s29 s30 s31 s32 s33 s34 s35 s36 s37 s38 s39 s40 s41 s42 s43 s44 s45 s46 s47 s48 s49 s50 s51 s52 s53 s54 s55 s56 s57 s58 s59 s60 s61 s62 s63 s64 s65 s66 s67 s68 s69 s70 s71 s72 s73 s74 s75 s76 s77 s78 s79 s80 s81 s82 s83 s84 s85 s86 s87 s88 s89 s90 s91 s92 s93 s94 s95 s96 s97 s98 s99 s100 s101 s102 s103 s104 s105 s106 s107 s108 s109 s110 s111 s112 s113 s114 s115 s116 s117 s118 s119 s120 s121 s122 : AV) : xBA xLt [s0, s1, s2, s3, s4, s5, s6, s7, s8, s9, s10, s11, s12, s13, s14, s15, s16, s17, s18, s19, s20, s21, s22, s23, s24, s25, s26, s27, s28, s29, s30, s31, s32, s33, s34, s35, s36, s37, s38, s39, s40, s41, s42, s43, s44, s45, s46, s47, s48, s49, s50, s51, s52, s53, s54, s55, s56, s57, s58, s59, s60, s61, s62, s63, s64, s65, s66, s67, s68, s69, s70, s71, s72, s73, s74, s75, s76, s77, s78, s79, s80, s81, s82, s83, s84, s85, s86, s87, s88, s89, s90, s91, s92, s93, s94, s95, s96, s97, s98, s99, s100, s101, s102, s103, s104, s105, s106, s107, s108, s109, s110, s111, s112, s113, s114, s115, s116, s117, s118, s119, s120, s121, s122] = xLu s1 s2 s4 s5 s6 s7 s8 s9 s10 := by kernel_rfl
theorem xOy {prog : Nat → Option AFunc} (s1 s2 s4 s5 s6 s7 s8 s9 s10 : AV) (H : xAu) : (lim prog).loop xLt xTk ⟨xLu s1 s2 s4 s5 s6 s7 s8 s9 s10, H⟩ = xCo (lim prog) xLt xTk (run (lim prog) xJz ⟨xLu s1 s2 s4 s5 s6 s7 s8 s9 s10, H⟩) := xAT _ _ _ _ (by kernel_rfl)

def xLv : ACode :=
  .seq (.seq (.region [⟨some 39, .mov (.t 8), none⟩,
      ⟨some 40, .mov (.t 1), none⟩,
      ⟨some 41, .bin .lss (.t 39) (.t 40), none⟩])
   (.cond (.t 41)
    (.skip)
    (.exit 2)))
  (.seq (.block 3 (.seq (.region [⟨some 44, .faddr 0 (.t 5), none⟩,
        ⟨some 45, .load false 1 (.t 44), none⟩,
        ⟨some 46, .bin .shl (.c (.int Go.IntKind.i64 1)) (.t 45), none⟩,
        ⟨some 47, .mkslice false [.int Go.IntKind.i64 0] 8 (.t 46) (.t 46), none⟩,
        ⟨some 9, .mov (.t 47), none⟩])
     (.seq (.seq (.region [⟨some 10, .mov (.c (.int Go.IntKind.i64 0)), none⟩])
       (.block 4 (.loop xLt xTk)))
      (.region [⟨some 95, .mov (.t 7), none⟩,
         ⟨some 96, .mov (.t 9), none⟩,
         ⟨some 97, .bslice false [.sl true 0 []] 1 1 [(0, (.t 96))], none⟩,
         ⟨some 98, .append false 1 24 (.t 95) (.t 97), none⟩,
         ⟨some 7, .mov (.t 98), none⟩]))))
   (.region [⟨some 42, .mov (.t 8), none⟩,
      ⟨some 43, .bin .add (.t 42) (.c (.int Go.IntKind.i64 1)), none⟩,
      ⟨some 8, .mov (.t 43), none⟩]))

def xTl : ACode := xLv
def xLw : List Nat := [0, 3, 9, 10, 11, 12, 13, 14, 15, 16, 17, 18, 19, 20, 21, 22, 23, 24, 25, 26, 27, 28, 29, 30, 31, 32, 33, 34, 35, 36, 37, 38, 39, 40, 41, 42, 43, 44, 45, 46, 47, 48, 49, 50, 51, 52, 53, 54, 55, 56, 57, 58, 59, 60, 61, 62, 63, 64, 65, 66, 67, 68, 69, 70, 71, 72, 73, 74, 75, 76, 77, 78, 79, 80, 81, 82, 83, 84, 85, 86, 87, 88, 89, 90, 91, 92, 93, 94, 95, 96, 97, 98, 99, 100, 101, 102, 103, 104, 105, 106, 107, 108, 109, 110, 111, 112, 113, 114, 115, 116, 117, 118, 119, 120, 121, 122]
abbrev xLx (s1 s2 s4 s5 s6 s7 s8 : AV) : List AV := [.any, s1, s2, .any, s4, s5, s6, s7, s8, .any, .any, .any, .any, .any, .any, .any, .any, .any, .any, .any, .any, .any, .any, .any, .any, .any, .any, .any, .any, .any, .any, .any, .any, .any, .any, .any, .any, .any, .any, .any, .any, .any, .any, .any, .any, .any, .any, .any, .any, .any, .any, .any, .any, .any, .any, .any, .any, .any, .any, .any, .any, .any, .any, .any, .any, .any, .any, .any, .any, .any, .any, .any, .any, .any, .any, .any, .any, .any, .any, .any, .any, .any, .any, .any, .any, .any, .any, .any, .any, .any, .any, .any, .any, .any, .any, .any, .any, .any, .any, .any, .any, .any, .any, .any, .any, .any, .any, .any, .any, .any, .any, .any, .any, .any, .any, .any, .any, .any, .any, .any, .any, .any, .any]
theorem xH3 (s0 s1 s2 s3 s4 s5 s6 s7 s8 s9 s10 s11 s12 s13 s14 s15 s16 s17 s18 s19 s20 s21 s22 s23 s24 s25 s26 s27 s28 s29 s30 s31 s32 s33 s34 s35 s36 s37 s38 s39 s40 s41 s42 s43 s44 s45 s46 s47 s48 s49 s50 s51 s52 s53 s54 s55 s56 s57 s58 s59 s60 s61 s62 s63 s64 s65 s66 s67 s68 s69 s70 s71 s72 s73 s74 s75 s76 s77 s78 s79 s80 s81 s82 s83 s84 s85 s86 s87 s88 s89 s90 s91 s92 s93 s94 s95 s96 s97 s98 s99 s100 s101 s102 s103 s104 s105 s106 s107 s108 s109 s110 s111 s112 s113 s114 s115 s116 s117 s118 s119 s120 s121 s122 : AV) : xBA xLw [s0, s1, s2, s3, s4, s5, s6, s7, s8, s9, s10, s11, s12, s13, s14, s15, s16, s17, s18, s19, s20, s21, s22, s23, s24, s25, s26, s27, s28, s29, s30, s31, s32, s33, s34, s35, s36, s37, s38, s39, s40, s41, s42, s43, s44, s45, s46, s47, s48, s49, s50, s51, s52, s53, s54, s55, s56, s57, s58, s59, s60, s61, s62, s63, s64, s65, s66, s67, s68, s69, s70, s71, s72, s73, s74, s75, s76, s77, s78, s79, s80, s81, s82, s83, s84, s85, s86, s87, s88, s89, s90, s91, s92, s93, s94, s95, s96, s97, s98, s99, s100, s101, s102, s103, s104, s105, s106, s107, s108, s109, s110, s111, s112, s113, s114, s115, s116, s117, s118, s119, s120, s121, s122] = xLx s1 s2 s4 s5 s6 s7 s8 := by kernel_rfl
theorem xQI {prog : Nat → Option AFunc} (s1 s2 s4 s5 s6 s7 s8 : AV) (H : xAu) : (lim prog).loop xLw xTl ⟨xLx s1 s2 s4 s5 s6 s7 s8, H⟩ = xCo (lim prog) xLw xTl (run (lim prog) xLv ⟨xLx s1 s2 s4 s5 s6 s7 s8, H⟩) := xAT _ _ _ _ (by kernel_rfl)

def xH4 : ACode :=
  .seq (.seq (.region [⟨some 34, .mov (.t 6), none⟩,
      ⟨some 35, .mov (.t 1), none⟩,
      ⟨some 36, .bin .lss (.t 34) (.t 35), none⟩])
   (.cond (.t 36)
    (.skip)
    (.exit 0)))
  (.seq (.block 1 (.seq (.region [⟨some 7, .mov (.c (.sl true 0 [])), none⟩])
     (.seq (.seq (.region [⟨some 8, .mov (.c (.int Go.IntKind.i64 0)), none⟩])
       (.block 2 (.loop xLw xTl)))
      (.seq (.region [⟨some 99, .faddr 2 (.t 5), none⟩,
          ⟨some 100, .load false 1 (.t 99), none⟩,
          ⟨some 101, .mov (.t 7), none⟩,
          ⟨some 102, .bslice false [.sl true 0 []] 1 1 [(0, (.t 101))], none⟩,
          ⟨some 103, .append false 1 24 (.t 100) (.t 102), none⟩,
          ⟨some 104, .faddr 2 (.t 5), none⟩,
          ⟨none, .store 1 (.t 104) (.t 103), none⟩])
       (.draw 11 [⟨some 105, .faddr 3 (.t 5), none⟩,
          ⟨some 106, .load false 1 (.t 105), none⟩,
          ⟨some 107, .mov (.t 6), none⟩,
          ⟨some 108, .faddr 3 (.t 2), none⟩,
          ⟨some 109, .load false 1 (.t 108), none⟩,
          ⟨some 110, .len (.t 109), none⟩,
          ⟨some 111, .bin .lss (.t 107) (.t 110), none⟩,
          ⟨some 112, .mov (.t 111), none⟩,
          ⟨some 113, .faddr 3 (.t 2), some (112, true)⟩,
          ⟨some 114, .load false 1 (.t 113), some (112, true)⟩,
          ⟨some 115, .mov (.t 6), some (112, true)⟩,
          ⟨some 116, .iaddr 1 (.t 114) (.t 115), some (112, true)⟩,
          ⟨some 117, .load false 1 (.t 116), some (112, true)⟩,
          ⟨some 118, .pick (.t 112) (.t 117) (.c (.bool false)), none⟩,
          ⟨some 119, .bslice true [.bool false] 1 1 [(0, (.t 118))], none⟩,
          ⟨some 120, .append false 1 1 (.t 106) (.t 119), none⟩,
          ⟨some 121, .faddr 3 (.t 5), none⟩,
          ⟨none, .store 1 (.t 121) (.t 120), none⟩])))))
   (.region [⟨some 37, .mov (.t 6), none⟩,
      ⟨some 38, .bin .add (.t 37) (.c (.int Go.IntKind.i64 1)), none⟩,
      ⟨some 6, .mov (.t 38), none⟩]))

def xTm : ACode := xH4
def xLy : List Nat := [0, 3, 7, 8, 9, 10, 11, 12, 13, 14, 15, 16, 17, 18, 19, 20, 21, 22, 23, 24, 25, 26, 27, 28, 29, 30, 31, 32, 33, 34, 35, 36, 37, 38, 39, 40, 41, 42, 43, 44, 45, 46, 47, 48, 49, 50, 51, 52, 53, 54, 55, 56, 57, 58, 59, 60, 61, 62, 63, 64, 65, 66, 67, 68, 69, 70, 71, 72, 73, 74, 75, 76, 77, 78, 79, 80, 81, 82, 83, 84, 85, 86, 87, 88, 89, 90, 91, 92, 93, 94, 95, 96, 97, 98, 99, 100, 101, 102, 103, 104, 105, 106, 107, 108, 109, 110, 111, 112, 113, 114, 115, 116, 117, 118, 119, 120, 121, 122]
abbrev xLz (s1 s2 s4 s5 s6 : AV) : List AV := [.any, s1, s2, .any, s4, s5, s6, .any, .any, .any, .any, .any, .any, .any, .any, .any, .any, .any, .any, .any, .any, .any, .any, .any, .any, .any, .any, .any, .any, .any, .any, .any, .any, .any, .any, .any, .any, .any, .any, .any, .any, .any, .any, .any, .any, .any, .any, .any, .any, .any, .any, .any, .any, .any, .any, .any, .any, .any, .any, .any, .any, .any, .any, .any, .any, .any, .any, .any, .any, .any, .any, .any, .any, .any, .any, .any, .any, .any, .any, .any, .any, .any, .any, .any, .any, .any, .any, .any, .any, .any, .any, .any, .any, .any, .any, .any, .any, .any, .any, .any, .any, .any, .any, .any, .any, .any, .any, .any, .any, .any, .any, .any, .any, .any, .any, .any, .any, .any, .any, .any, .any, .any, .any]
theorem xJB (s0 s1 s2 s3 s4 s5 s6 s7 s8 s9 s10 s11 s12 s13 s14 s15 s16 s17 s18 s19 s20 s21 s22 s23 s24 s25 s26 s27 s28 s29 s30 s31 s32 s33 s34 s35 s36 s37 s38 s39 s40 s41 s42 s43 s44 s45 s46 s47 s48 s49 s50 s51 s52 s53 s54 s55 s56 s57 s58 s59 s60 s61 s62 s63 s64 s65 s66 s67 s68 s69 s70 s71 s72 s73 s74 s75 s76 s77 s78 s79 s80 s81 s82 s83 s84 s85 s86 s87 s88 s89 s90 s91 s92 s93 s94 s95 s96 s97 s98 s99 s100 s101 s102 s103 s104 s105 s106 s107 s108 s109 s110 s111 s112 s113 s114 s115 s116 s117 s118 s119 s120 s121 s122 : AV) : xBA xLy [s0, s1, s2, s3, s4, s5, s6, s7, s8, s9, s10, s11, s12, s13, s14, s15, s16, s17, s18, s19, s20, s21, s22, s23, s24, s25, s26, s27, s28, s29, s30, s31, s32, s33, s34, s35, s36, s37, s38, s39, s40, s41, s42, s43, s44, s45, s46, s47, s48, s49, s50, s51, s52, s53, s54, s55, s56, s57, s58, s59, s60, s61, s62, s63, s64, s65, s66, s67, s68, s69, s70, s71, s72, s73, s74, s75, s76, s77, s78, s79, s80, s81, s82, s83, s84, s85, s86, s87, s88, s89, s90, s91, s92, s93, s94, s95, s96, s97, s98, s99, s100, s101, s102, s103, s104, s105, s106, s107, s108, s109, s110, s111, s112, s113, s114, s115, s116, s117, s118, s119, s120, s121, s122] = xLz s1 s2 s4 s5 s6 := by kernel_rfl
theorem xQJ {prog : Nat → Option AFunc} (s1 s2 s4 s5 s6 : AV) (H : xAu) : (lim prog).loop xLy xTm ⟨xLz s1 s2 s4 s5 s6, H⟩ = xCo (lim prog) xLy xTm (run (lim prog) xH4 ⟨xLz s1 s2 s4 s5 s6, H⟩) := xAT _ _ _ _ (by kernel_rfl)

def a42 : AFunc := ⟨123,
  .seq (.region [⟨some 2, .box (.t 0), none⟩,
     ⟨some 4, .box (.c (.agg [.int Go.IntKind.i64 0, .int Go.IntKind.i64 0, .sl true 0 [], .sl true 0 []])), none⟩])
  (.seq (.region [⟨some 11, .mov (.t 1), none⟩,
      ⟨some 12, .faddr 2 (.t 2), none⟩,
      ⟨some 13, .load false 1 (.t 12), none⟩,
      ⟨some 14, .len (.t 13), none⟩,
      ⟨some 15, .mini (.t 11) (.t 14), none⟩,
      ⟨some 1, .mov (.t 15), none⟩])
   (.seq (.region [⟨some 16, .faddr 0 (.t 2), none⟩,
       ⟨some 17, .load false 1 (.t 16), none⟩,
       ⟨some 18, .bin .rem (.t 17) (.c (.int Go.IntKind.i64 3)), none⟩,
       ⟨some 19, .bin .add (.t 18) (.c (.int Go.IntKind.i64 3)), none⟩,
       ⟨some 20, .bin .rem (.t 19) (.c (.int Go.IntKind.i64 3)), none⟩,
       ⟨some 21, .build [.int Go.IntKind.i64 0, .int Go.IntKind.i64 0, .sl true 0 [], .sl true 0 []] [(0, 1, (.t 20))], none⟩,
       ⟨some 5, .box (.c (.agg [.int Go.IntKind.i64 0, .int Go.IntKind.i64 0, .sl true 0 [], .sl true 0 []])), none⟩,
       ⟨none, .store 4 (.t 5) (.t 21), none⟩])
    (.seq (.seq (.region [⟨some 22, .mov (.t 1), none⟩,
         ⟨some 23, .bin .eql (.t 22) (.c (.int Go.IntKind.i64 0)), none⟩])
      (.cond (.t 23)
       (.seq (.region [⟨some 24, .load true 4 (.t 5), none⟩,
           ⟨none, .store 4 (.t 4) (.t 24), none⟩])
        (.ret))
       (.skip)))
     (.seq (.region [⟨some 25, .faddr 1 (.t 2), none⟩,
         ⟨some 26, .load false 1 (.t 25), none⟩,
         ⟨some 27, .mov (.t 1), none⟩,
         ⟨some 28, .bin .rem (.t 26) (.t 27), none⟩,
         ⟨some 29, .mov (.t 1), none⟩,
         ⟨some 30, .bin .add (.t 28) (.t 29), none⟩,
         ⟨some 31, .mov (.t 1), none⟩,
         ⟨some 32, .bin .rem (.t 30) (.t 31), none⟩,
         ⟨some 33, .faddr 1 (.t 5), none⟩,
         ⟨none, .store 1 (.t 33) (.t 32), none⟩])
      (.seq (.seq (.region [⟨some 6, .mov (.c (.int Go.IntKind.i64 0)), none⟩])
        (.block 0 (.loop xLy xTm)))
       (.seq (.region [⟨some 122, .load true 4 (.t 5), none⟩,
           ⟨none, .store 4 (.t 4) (.t 122), none⟩])
        (.ret))))))),
  [.cell 4 true 4]⟩

def a44 : AFunc := ⟨21,
  .seq (.region [⟨some 2, .box (.t 0), none⟩,
     ⟨some 4, .mov (.c (.bool false)), none⟩,
     ⟨some 5, .mov (.c (.int Go.IntKind.i64 0)), none⟩])
  (.seq (.seq (.region [⟨some 7, .load true 5 (.t 2), none⟩,
       ⟨some 8, .mov (.t 1), none⟩,
       ⟨some 9, .call 86 [(.t 7), (.t 8)], none⟩,
       ⟨some 6, .mov (.t 9), none⟩])
    (.seq (.region [⟨some 10, .mov (.t 6), none⟩,
        ⟨some 11, .bin .neq (.t 10) (.c (.int Go.IntKind.i64 0)), none⟩])
     (.cond (.t 11)
      (.seq (.region [⟨some 12, .mov (.t 6), none⟩,
          ⟨some 4, .mov (.c (.bool false)), none⟩,
          ⟨some 5, .mov (.t 12), none⟩])
       (.ret))
      (.skip))))
   (.seq (.draw 5 [⟨some 13, .load true 5 (.t 2), none⟩,
       ⟨some 14, .mov (.t 1), none⟩,
       ⟨some 15, .call 87 [(.t 13), (.t 14)], none⟩,
       ⟨some 16, .faddr 3 (.t 2), none⟩,
       ⟨some 17, .load false 1 (.t 16), none⟩,
       ⟨some 18, .call 88 [(.t 17)], none⟩,
       ⟨some 19, .bin .and (.t 15) (.t 18), none⟩,
       ⟨some 20, .bin .neq (.t 19) (.c (.int Go.IntKind.u64 0)), none⟩,
       ⟨some 4, .mov (.t 20), none⟩,
       ⟨some 5, .mov (.c (.int Go.IntKind.i64 0)), none⟩])
    (.ret))),
  [.tmp 4, .tmp 5]⟩

def xHp : ACode :=
  .seq (.region [⟨some 38, .bin .lss (.t 37) (.c (.int Go.IntKind.i64 2)), none⟩])
  (.seq (.cond (.t 38)
    (.skip)
    (.exit 1))
   (.seq (.block 2 (.seq (.region [⟨some 39, .idx false 1 2 (.t 36) (.t 37), none⟩,
         ⟨some 4, .mov (.t 39), none⟩])
      (.seq (.region [⟨some 40, .mov (.t 4), none⟩,
          ⟨some 41, .faddr 1 (.t 1), none⟩,
          ⟨some 42, .load false 1 (.t 41), none⟩,
          ⟨some 43, .call 89 [(.t 40), (.t 42)], none⟩,
          ⟨some 5, .mov (.t 43), none⟩])
       (.seq (.region [⟨some 44, .mov (.t 5), none⟩,
           ⟨some 45, .bin .neq (.t 44) (.c (.int Go.IntKind.i64 0)), none⟩])
        (.cond (.t 45)
         (.seq (.region [⟨some 46, .mov (.t 5), none⟩,
             ⟨some 2, .mov (.t 46), none⟩])
          (.ret))
         (.skip))))))
    (.region [⟨some 47, .bin .add (.t 37) (.c (.int Go.IntKind.i64 1)), none⟩,
       ⟨some 37, .mov (.t 47), none⟩])))

def xQK : ACode := xHp
def xJC : List Nat := [0, 3, 4, 5, 6, 7, 8, 9, 10, 11, 12, 13, 14, 15, 16, 17, 18, 19, 20, 21, 22, 23, 24, 25, 26, 27, 28, 29, 30, 31, 32, 33, 34, 35, 38, 39, 40, 41, 42, 43, 44, 45, 46, 47, 48, 49, 50, 51, 52, 53, 54, 55, 56, 57, 58, 59, 60, 61, 62, 63, 64, 65, 66, 67, 68, 69, 70, 71, 72, 73, 74, 75, 76, 77, 78, 79, 80, 81, 82, 83, 84, 85, 86]
abbrev xHq (s1 s2 s36 s37 : AV) : List AV := [.any, s1, s2, .any, .any, .any, .any, .any, .any, .any, .any, .any, .any, .any, .any, .any, .any, .any, .any, .any, .any, .any, .any, .any, .any, .any, .any, .any, .any, .any, .any, .any, .any, .any, .any, .any, s36, s37, .any, .any, .any, .any, .any, .any, .any, .any, .any, .any, .any, .any, .any, .any, .any, .any, .any, .any, .any, .any, .any, .any, .any, .any, .any, .any, .any, .any, .any, .any, .any, .any, .any, .any, .any, .any, .any, .any, .any, .any, .any, .any, .any, .any, .any, .any, .any, .any, .any]
theorem xGt (s0 s1 s2 s3 s4 s5 s6 s7 s8 s9 s10 s11 s12 s13 s14 s15 s16 s17 s18 s19 s20 s21 s22 s23 s24 s25 s26 s27 s28 s29 s30 s31 s32 s33 s34 s35 s36 s37 s38 s39 s40 s41 s42 s43 s44 s45 s46 s47 s48 s49 s50 s51 s52 s53 s54 s55 s56 s57 s58 s59 s60 s61 s62 s63 s64 s65 s66 s67 s68 s69 s70 s71 s72 s73 s74 s75 s76 s77 s78 s79 s80 s81 s82 s83 s84 s85 s86 : AV) : xBA xJC [s0, s1, s2, s3, s4, s5, s6, s7, s8, s9, s10, s11, s12, s13, s14, s15, s16, s17, s18, s19, s20, s21, s22, s23, s24, s25, s26, s27, s28, s29, s30, s31, s32, s33, s34, s35, s36, s37, s38, s39, s40, s41, s42, s43, s44, s45, s46, s47, s48, s49, s50, s51, s52, s53, s54, s55, s56, s57, s58, s59, s60, s61, s62, s63, s64, s65, s66, s67, s68, s69, s70, s71, s72, s73, s74, s75, s76, s77, s78, s79, s80, s81, s82, s83, s84, s85, s86] = xHq s1 s2 s36 s37 := by kernel_rfl
theorem xJD {prog : Nat → Option AFunc} (s1 s2 s36 s37 : AV) (H : xAu) : (lim prog).loop xJC xQK ⟨xHq s1 s2 s36 s37, H⟩ = xCo (lim prog) xJC xQK (run (lim prog) xHp ⟨xHq s1 s2 s36 s37, H⟩) := xAT _ _ _ _ (by kernel_rfl)

def xHr : ACode :=
  .seq (.region [⟨some 52, .bin .lss (.t 51) (.t 50), none⟩])
  (.seq (.cond (.t 52)
    (.skip)
    (.exit 3))
   (.seq (.block 4 (.seq (.region [⟨some 53, .iaddr 5 (.t 49) (.t 51), none⟩,
         ⟨some 54, .load true 5 (.t 53), none⟩,
         ⟨some 7, .box (.c (.agg [.int Go.IntKind.i64 0, .int Go.IntKind.i64 0, .int Go.IntKind.i64 0, .int Go.IntKind.u8 0, .int Go.IntKind.u8 0])), none⟩,
         ⟨none, .store 5 (.t 7) (.t 54), none⟩])
      (.seq (.seq (.region [⟨some 55, .faddr 0 (.t 7), none⟩,
           ⟨some 56, .load false 1 (.t 55), none⟩,
           ⟨some 57, .faddr 1 (.t 7), none⟩,
           ⟨some 58, .load false 1 (.t 57), none⟩,
           ⟨some 59, .faddr 2 (.t 7), none⟩,
           ⟨some 60, .load false 1 (.t 59), none⟩,
           ⟨some 61, .mm false [(.t 56), (.t 58), (.t 60)], none⟩,
           ⟨some 62, .bin .lss (.t 61) (.c (.int Go.IntKind.i64 0)), none⟩,
           ⟨some 63, .mov (.t 62), none⟩,
           ⟨some 64, .faddr 0 (.t 7), some (63, false)⟩,
           ⟨some 65, .load false 1 (.t 64), some (63, false)⟩,
           ⟨some 66, .faddr 1 (.t 7), some (63, false)⟩,
           ⟨some 67, .load false 1 (.t 66), some (63, false)⟩,
           ⟨some 68, .faddr 2 (.t 7), some (63, false)⟩,
           ⟨some 69, .load false 1 (.t 68), some (63, false)⟩,
           ⟨some 70, .mm true [(.t 65), (.t 67), (.t 69)], some (63, false)⟩,
           ⟨some 71, .faddr 1 (.t 1), some (63, false)⟩,
           ⟨some 72, .load false 1 (.t 71), some (63, false)⟩,
           ⟨some 73, .bin .geq (.t 70) (.t 72), some (63, false)⟩,
           ⟨some 74, .pick (.t 63) (.c (.bool true)) (.t 73), none⟩])
        (.cond (.t 74)
         (.seq (.region [⟨some 2, .mov (.c (.int Go.IntKind.i64 8)), none⟩])
          (.ret))
         (.skip)))
       (.seq (.region [⟨some 75, .faddr 3 (.t 7), none⟩,
           ⟨some 76, .load false 1 (.t 75), none⟩,
           ⟨some 77, .faddr 4 (.t 7), none⟩,
           ⟨some 78, .load false 1 (.t 77), none⟩,
           ⟨some 79, .build [.int Go.IntKind.u8 0, .int Go.IntKind.u8 0] [(0, 1, (.t 76)), (1, 1, (.t 78))], none⟩,
           ⟨some 80, .faddr 0 (.t 1), none⟩,
           ⟨some 81, .load false 1 (.t 80), none⟩,
           ⟨some 82, .call 90 [(.t 79), (.t 81)], none⟩,
           ⟨some 8, .mov (.t 82), none⟩])
        (.seq (.region [⟨some 83, .mov (.t 8), none⟩,
            ⟨some 84, .bin .neq (.t 83) (.c (.int Go.IntKind.i64 0)), none⟩])
         (.cond (.t 84)
          (.seq (.region [⟨some 85, .mov (.t 8), none⟩,
              ⟨some 2, .mov (.t 85), none⟩])
           (.ret))
          (.skip)))))))
    (.region [⟨some 86, .bin .add (.t 51) (.c (.int Go.IntKind.i64 1)), none⟩,
       ⟨some 51, .mov (.t 86), none⟩])))

def xTn : ACode := xHr
def xLA : List Nat := [0, 3, 4, 5, 6, 7, 8, 9, 10, 11, 12, 13, 14, 15, 16, 17, 18, 19, 20, 21, 22, 23, 24, 25, 26, 27, 28, 29, 30, 31, 32, 33, 34, 35, 36, 37, 38, 39, 40, 41, 42, 43, 44, 45, 46, 47, 48, 52, 53, 54, 55, 56, 57, 58, 59, 60, 61, 62, 63, 64, 65, 66, 67, 68, 69, 70, 71, 72, 73, 74, 75, 76, 77, 78, 79, 80, 81, 82, 83, 84, 85, 86]
abbrev xJE (s1 s2 s49 s50 s51 : AV) : List AV := [.any, s1, s2, .any, .any, .any, .any, .any, .any, .any, .any, .any, .any, .any, .any, .any, .any, .any, .any, .any, .any, .any, .any, .any, .any, .any, .any, .any, .any, .any, .any, .any, .any, .any, .any, .any, .any, .any, .any, .any, .any, .any, .any, .any, .any, .any, .any, .any, .any, s49, s50, s51, .any, .any, .any, .any, .any, .any, .any, .any, .any, .any, .any, .any, .any, .any, .any, .any, .any, .any, .any, .any, .any, .any, .any, .any, .any, .any, .any, .any, .any, .any, .any, .any, .any, .any, .any]
theorem xHs (s0 s1 s2 s3 s4 s5 s6 s7 s8 s9 s10 s11 s12 s13 s14 s15 s16 s17 s18 s19 s20 s21 s22 s23 s24 s25 s26 s27 s28 s29 s30 s31 s32 s33 s34 s35 s36 s37 s38 s39 s40 s41 s42 s43 s44 s45 s46 s47 s48 s49 s50 s51 s52 s53 s54 s55 s56 s57 s58 s59 s60 s61 s62 s63 s64 s65 s66 s67 s68 s69 s70 s71 s72 s73 s74 s75 s76 s77 s78 s79 s80 s81 s82 s83 s84 s85 s86 : AV) : xBA xLA [s0, s1, s2, s3, s4, s5, s6, s7, s8, s9, s10, s11, s12, s13, s14, s15, s16, s17, s18, s19, s20, s21, s22, s23, s24, s25, s26, s27, s28, s29, s30, s31, s32, s33, s34, s35, s36, s37, s38, s39, s40, s41, s42, s43, s44, s45, s46, s47, s48, s49, s50, s51, s52, s53, s54, s55, s56, s57, s58, s59, s60, s61, s62, s63, s64, s65, s66, s67, s68, s69, s70, s71, s72, s73, s74, s75, s76, s77, s78, s79, s80, s81, s82, s83, s84, s85, s86] = xJE s1 s2 s49 s50 s51 := by kernel_rfl
theorem xLB {prog : Nat → Option AFunc} (s1 s2 s49 s50 s51 : AV) (H : xAu) : (lim prog).loop xLA xTn ⟨xJE s1 s2 s49 s50 s51, H⟩ = xCo (lim prog) xLA xTn (run (lim prog) xHr ⟨xJE s1 s2 s49 s50 s51, H⟩) := xAT _ _ _ _ (by kernel_rfl)

def a45 : AFunc := ⟨87,
  .seq (.region [⟨some 1, .box (.t 0), none⟩,
     ⟨some 2, .mov (.c (.int Go.IntKind.i64 0)), none⟩])
  (.seq (.block 0 (.seq (.region [⟨some 10, .faddr 0 (.t 1), none⟩,
        ⟨some 11, .load false 1 (.t 10), none⟩,
        ⟨some 12, .bin .lss (.t 11) (.c (.int Go.IntKind.i64 0)), none⟩,
        ⟨some 13, .mov (.t 12), none⟩,
        ⟨some 14, .faddr 0 (.t 1), some (13, false)⟩,
        ⟨some 15, .load false 1 (.t 14), some (13, false)⟩,
        ⟨some 16, .bin .gtr (.t 15) (.c (.int Go.IntKind.i64 3)), some (13, false)⟩,
        ⟨some 17, .pick (.t 13) (.c (.bool true)) (.t 16), none⟩,
        ⟨some 9, .mov (.t 17), none⟩])
     (.cond (.t 9)
      (.seq (.region [⟨some 2, .mov (.c (.int Go.IntKind.i64 7)), none⟩])
       (.ret))
      (.seq (.region [⟨some 19, .faddr 1 (.t 1), none⟩,
          ⟨some 20, .load false 1 (.t 19), none⟩,
          ⟨some 21, .bin .lss (.t 20) (.c (.int Go.IntKind.i64 0)), none⟩,
          ⟨some 18, .mov (.t 21), none⟩])
       (.cond (.t 18)
        (.seq (.region [⟨some 2, .mov (.c (.int Go.IntKind.i64 1)), none⟩])
         (.ret))
        (.seq (.region [⟨some 23, .faddr 1 (.t 1), none⟩,
            ⟨some 24, .load false 1 (.t 23), none⟩,
            ⟨some 25, .bin .gtr (.t 24) (.c (.int Go.IntKind.i64 64)), none⟩,
            ⟨some 26, .mov (.t 25), none⟩,
            ⟨some 27, .faddr 4 (.t 1), some (26, false)⟩,
            ⟨some 28, .load false 1 (.t 27), some (26, false)⟩,
            ⟨some 29, .len (.t 28), some (26, false)⟩,
            ⟨some 30, .bin .gtr (.t 29) (.c (.int Go.IntKind.i64 512)), some (26, false)⟩,
            ⟨some 31, .pick (.t 26) (.c (.bool true)) (.t 30), none⟩,
            ⟨some 22, .mov (.t 31), none⟩])
         (.cond (.t 22)
          (.seq (.region [⟨some 2, .mov (.c (.int Go.IntKind.i64 4)), none⟩])
           (.ret))
          (.skip))))))))
   (.seq (.seq (.region [⟨some 32, .faddr 2 (.t 1), none⟩,
        ⟨some 33, .load false 1 (.t 32), none⟩,
        ⟨some 34, .faddr 3 (.t 1), none⟩,
        ⟨some 35, .load false 1 (.t 34), none⟩,
        ⟨some 36, .build [.sl true 0 [], .sl true 0 []] [(0, 1, (.t 33)), (1, 1, (.t 35))], none⟩,
        ⟨some 37, .mov (.c (.int Go.IntKind.i64 0)), none⟩])
     (.block 1 (.loop xJC xQK)))
    (.seq (.seq (.region [⟨some 48, .faddr 4 (.t 1), none⟩,
         ⟨some 49, .load false 1 (.t 48), none⟩,
         ⟨some 50, .len (.t 49), none⟩,
         ⟨some 51, .mov (.c (.int Go.IntKind.i64 0)), none⟩])
      (.block 3 (.loop xLA xTn)))
     (.seq (.region [⟨some 2, .mov (.c (.int Go.IntKind.i64 0)), none⟩])
      (.ret))))),
  [.tmp 2]⟩

def a52 : AFunc := ⟨11,
  .seq (.region [⟨some 3, .mov (.c (.bool false)), none⟩])
  (.seq (.region [⟨some 4, .mov (.t 0), none⟩,
      ⟨some 5, .bin .geq (.t 4) (.c (.int Go.IntKind.i64 0)), none⟩,
      ⟨some 6, .mov (.t 5), none⟩,
      ⟨some 7, .mov (.t 0), some (6, true)⟩,
      ⟨some 8, .load false 1 (.t 1), some (6, true)⟩,
      ⟨some 9, .bin .lss (.t 7) (.t 8), some (6, true)⟩,
      ⟨some 10, .pick (.t 6) (.t 9) (.c (.bool false)), none⟩,
      ⟨some 3, .mov (.t 10), none⟩])
   (.ret)),
  [.tmp 3]⟩

def a53 : AFunc := ⟨15,
  .seq (.region [⟨some 2, .box (.t 0), none⟩,
     ⟨some 4, .mov (.c (.int Go.IntKind.i64 0)), none⟩])
  (.seq (.seq (.region [⟨some 6, .load true 4 (.t 2), none⟩,
       ⟨some 7, .call 14 [(.t 6)], none⟩,
       ⟨some 5, .mov (.t 7), none⟩])
    (.seq (.region [⟨some 8, .mov (.t 5), none⟩,
        ⟨some 9, .bin .neq (.t 8) (.c (.int Go.IntKind.i64 0)), none⟩])
     (.cond (.t 9)
      (.seq (.region [⟨some 10, .mov (.t 5), none⟩,
          ⟨some 4, .mov (.t 10), none⟩])
       (.ret))
      (.skip))))
   (.seq (.region [⟨some 11, .mov (.t 1), none⟩,
       ⟨some 12, .faddr 0 (.t 2), none⟩,
       ⟨some 13, .load false 1 (.t 12), none⟩,
       ⟨some 14, .call 99 [(.t 11), (.t 13)], none⟩,
       ⟨some 4, .mov (.t 14), none⟩])
    (.ret))),
  [.tmp 4]⟩

def xOz : ACode :=
  .seq (.seq (.region [⟨some 22, .mov (.t 8), none⟩,
      ⟨some 23, .bin .geq (.t 22) (.c (.int Go.IntKind.i64 0)), none⟩])
   (.cond (.t 23)
    (.skip)
    (.exit 0)))
  (.seq (.block 1 (.draw 27 [⟨some 26, .load false 1 (.t 6), none⟩,
       ⟨some 27, .mov (.t 8), none⟩,
       ⟨some 28, .faddr 2 (.t 2), none⟩,
       ⟨some 29, .load false 1 (.t 28), none⟩,
       ⟨some 30, .mov (.t 7), none⟩,
       ⟨some 31, .mov (.t 1), none⟩,
       ⟨some 32, .mov (.t 8), none⟩,
       ⟨some 33, .iaddr 3 (.t 31) (.t 32), none⟩,
       ⟨some 34, .faddr 1 (.t 33), none⟩,
       ⟨some 35, .load false 1 (.t 34), none⟩,
       ⟨some 36, .fcall (.t 30) [(.t 35)], none⟩,
       ⟨some 37, .iaddr 1 (.t 29) (.t 36), none⟩,
       ⟨some 38, .load false 1 (.t 37), none⟩,
       ⟨some 39, .mov (.t 7), none⟩,
       ⟨some 40, .mov (.t 1), none⟩,
       ⟨some 41, .mov (.t 8), none⟩,
       ⟨some 42, .iaddr 3 (.t 40) (.t 41), none⟩,
       ⟨some 43, .faddr 2 (.t 42), none⟩,
       ⟨some 44, .load false 1 (.t 43), none⟩,
       ⟨some 45, .fcall (.t 39) [(.t 44)], none⟩,
       ⟨some 46, .iaddr 1 (.t 38) (.t 45), none⟩,
       ⟨some 47, .load false 1 (.t 46), none⟩,
       ⟨some 48, .mov (.t 1), none⟩,
       ⟨some 49, .mov (.t 8), none⟩,
       ⟨some 50, .iaddr 3 (.t 48) (.t 49), none⟩,
       ⟨some 51, .faddr 0 (.t 50), none⟩,
       ⟨some 52, .load false 1 (.t 51), none⟩,
       ⟨some 53, .iaddr 1 (.t 47) (.t 52), none⟩,
       ⟨some 54, .load false 1 (.t 53), none⟩,
       ⟨some 55, .iaddr 1 (.t 26) (.t 27), none⟩,
       ⟨none, .store 1 (.t 55) (.t 54), none⟩]))
   (.region [⟨some 24, .mov (.t 8), none⟩,
      ⟨some 25, .bin .sub (.t 24) (.c (.int Go.IntKind.i64 1)), none⟩,
      ⟨some 8, .mov (.t 25), none⟩]))

def xTo : ACode := xOz
def xLC : List Nat := [0, 3, 4, 5, 9, 10, 11, 12, 13, 14, 15, 16, 17, 18, 19, 20, 21, 22, 23, 24, 25, 26, 27, 28, 29, 30, 31, 32, 33, 34, 35, 36, 37, 38, 39, 40, 41, 42, 43, 44, 45, 46, 47, 48, 49, 50, 51, 52, 53, 54, 55, 56]
abbrev xLD (s1 s2 s6 s7 s8 : AV) : List AV := [.any, s1, s2, .any, .any, .any, s6, s7, s8, .any, .any, .any, .any, .any, .any, .any, .any, .any, .any, .any, .any, .any, .any, .any, .any, .any, .any, .any, .any, .any, .any, .any, .any, .any, .any, .any, .any, .any, .any, .any, .any, .any, .any, .any, .any, .any, .any, .any, .any, .any, .any, .any, .any, .any, .any, .any, .any]
theorem xQL (s0 s1 s2 s3 s4 s5 s6 s7 s8 s9 s10 s11 s12 s13 s14 s15 s16 s17 s18 s19 s20 s21 s22 s23 s24 s25 s26 s27 s28 s29 s30 s31 s32 s33 s34 s35 s36 s37 s38 s39 s40 s41 s42 s43 s44 s45 s46 s47 s48 s49 s50 s51 s52 s53 s54 s55 s56 : AV) : xBA xLC [s0, s1, s2, s3, s4, s5, s6, s7, s8, s9, s10, s11, s12, s13, s14, s15, s16, s17, s18, s19, s20, s21, s22, s23, s24, s25, s26, s27, s28, s29, s30, s31, s32, s33, s34, s35, s36, s37, s38, s39, s40, s41, s42, s43, s44, s45, s46, s47, s48, s49, s50, s51, s52, s53, s54, s55, s56] = xLD s1 s2 s6 s7 s8 := by kernel_rfl
theorem xVk {prog : Nat → Option AFunc} (s1 s2 s6 s7 s8 : AV) (H : xAu) : (lim prog).loop xLC xTo ⟨xLD s1 s2 s6 s7 s8, H⟩ = xCo (lim prog) xLC xTo (run (lim prog) xOz ⟨xLD s1 s2 s6 s7 s8, H⟩) := xAT _ _ _ _ (by kernel_rfl)

def a54 : AFunc := ⟨57,
  .seq (.region [⟨some 2, .box (.t 0), none⟩,
     ⟨some 4, .mov (.c (.sl true 0 [])), none⟩])
  (.seq (.region [⟨some 9, .mov (.t 1), none⟩,
      ⟨some 10, .len (.t 9), none⟩,
      ⟨some 5, .box (.c (.int Go.IntKind.i64 0)), none⟩,
      ⟨none, .store 1 (.t 5) (.t 10), none⟩])
   (.seq (.region [⟨some 11, .load false 1 (.t 5), none⟩,
       ⟨some 12, .bin .add (.t 11) (.c (.int Go.IntKind.i64 1)), none⟩,
       ⟨some 13, .mkslice false [.int Go.IntKind.i64 0] 8 (.t 12) (.t 12), none⟩,
       ⟨some 6, .box (.c (.sl true 0 [])), none⟩,
       ⟨none, .store 1 (.t 6) (.t 13), none⟩])
    (.seq (.region [⟨some 14, .load false 1 (.t 6), none⟩,
        ⟨some 15, .load false 1 (.t 5), none⟩,
        ⟨some 16, .faddr 1 (.t 2), none⟩,
        ⟨some 17, .load false 1 (.t 16), none⟩,
        ⟨some 18, .iaddr 1 (.t 14) (.t 15), none⟩,
        ⟨none, .store 1 (.t 18) (.t 17), none⟩])
     (.seq (.region [⟨some 19, .mkfunc 100 [(.t 5), (.t 6)], none⟩,
         ⟨some 7, .mov (.t 19), none⟩])
      (.seq (.seq (.region [⟨some 20, .load false 1 (.t 5), none⟩,
           ⟨some 21, .bin .sub (.t 20) (.c (.int Go.IntKind.i64 1)), none⟩,
           ⟨some 8, .mov (.t 21), none⟩])
        (.block 0 (.loop xLC xTo)))
       (.seq (.region [⟨some 56, .load false 1 (.t 6), none⟩,
           ⟨some 4, .mov (.t 56), none⟩])
        (.ret))))))),
  [.tmp 4]⟩

def a56 : AFunc := ⟨23,
  .seq (.region [⟨some 1, .box (.t 0), none⟩,
     ⟨some 2, .box (.c (.agg [.int Go.IntKind.i64 0, .int Go.IntKind.i64 0, .sl true 0 [], .sl true 0 []])), none⟩])
  (.seq (.region [⟨some 5, .mkmap, none⟩,
      ⟨some 6, .faddr 1 (.t 1), none⟩,
      ⟨some 7, .load false 1 (.t 6), none⟩,
      ⟨none, .mupd [0] (.t 5) (.t 7) (.c (.int Go.IntKind.i64 0)), none⟩,
      ⟨some 8, .mov (.t 5), none⟩,
      ⟨some 3, .box (.c (.nilm)), none⟩,
      ⟨none, .store 1 (.t 3) (.t 8), none⟩])
   (.seq (.region [⟨some 9, .faddr 1 (.t 1), none⟩,
       ⟨some 10, .load false 1 (.t 9), none⟩,
       ⟨some 11, .bslice false [.int Go.IntKind.i64 0] 1 1 [(0, (.t 10))], none⟩,
       ⟨some 4, .box (.c (.sl true 0 [])), none⟩,
       ⟨none, .store 1 (.t 4) (.t 11), none⟩])
    (.seq (.region [⟨some 12, .faddr 0 (.t 1), none⟩,
        ⟨some 13, .load false 1 (.t 12), none⟩,
        ⟨some 14, .mkfunc 102 [(.t 1), (.t 4), (.t 3)], none⟩,
        ⟨some 15, .icall (.c (.func 75 [])) [(.t 13), (.t 14)], none⟩])
     (.seq (.region [⟨some 16, .faddr 0 (.t 1), none⟩,
         ⟨some 17, .load false 1 (.t 16), none⟩,
         ⟨some 18, .load false 1 (.t 4), none⟩,
         ⟨some 19, .len (.t 18), none⟩,
         ⟨some 20, .mkfunc 103 [(.t 3), (.t 1), (.t 4)], none⟩,
         ⟨some 21, .mkfunc 104 [(.t 1), (.t 4)], none⟩,
         ⟨some 22, .icall (.c (.func 61 [])) [(.t 17), (.t 19), (.t 20), (.t 21)], none⟩,
         ⟨none, .store 4 (.t 2) (.t 22), none⟩])
      (.ret))))),
  [.cell 2 true 4]⟩

def xVl : ACode :=
  .seq (.region [⟨some 52, .bin .lss (.t 51) (.t 50), none⟩])
  (.seq (.cond (.t 52)
    (.skip)
    (.exit 6))
   (.seq (.block 7 (.seq (.region [⟨some 53, .mov (.t 51), none⟩,
         ⟨some 10, .mov (.t 53), none⟩])
      (.seq (.region [⟨some 54, .mov (.t 8), none⟩,
          ⟨some 55, .faddr 2 (.t 1), none⟩,
          ⟨some 56, .load false 1 (.t 55), none⟩,
          ⟨some 57, .mov (.t 6), none⟩,
          ⟨some 58, .iaddr 1 (.t 56) (.t 57), none⟩,
          ⟨some 59, .load false 1 (.t 58), none⟩,
          ⟨some 60, .mov (.t 9), none⟩,
          ⟨some 61, .iaddr 1 (.t 59) (.t 60), none⟩,
          ⟨some 62, .load false 1 (.t 61), none⟩,
          ⟨some 63, .mov (.t 10), none⟩,
          ⟨some 64, .iaddr 1 (.t 62) (.t 63), none⟩,
          ⟨some 65, .load false 1 (.t 64), none⟩,
          ⟨some 66, .icall (.t 54) [(.t 65)], none⟩])
       (.region [⟨some 67, .mov (.t 8), none⟩,
          ⟨some 68, .faddr 2 (.t 1), none⟩,
          ⟨some 69, .load false 1 (.t 68), none⟩,
          ⟨some 70, .mov (.t 9), none⟩,
          ⟨some 71, .iaddr 1 (.t 69) (.t 70), none⟩,
          ⟨some 72, .load false 1 (.t 71), none⟩,
          ⟨some 73, .mov (.t 6), none⟩,
          ⟨some 74, .iaddr 1 (.t 72) (.t 73), none⟩,
          ⟨some 75, .load false 1 (.t 74), none⟩,
          ⟨some 76, .mov (.t 10), none⟩,
          ⟨some 77, .iaddr 1 (.t 75) (.t 76), none⟩,
          ⟨some 78, .load false 1 (.t 77), none⟩,
          ⟨some 79, .icall (.t 67) [(.t 78)], none⟩]))))
    (.region [⟨some 80, .bin .add (.t 51) (.c (.int Go.IntKind.i64 1)), none⟩,
       ⟨some 51, .mov (.t 80), none⟩])))

def xWj : ACode := xVl
def xOA : List Nat := [0, 10, 11, 12, 13, 14, 15, 16, 17, 18, 19, 20, 21, 24, 25, 26, 27, 28, 29, 30, 31, 32, 33, 34, 35, 36, 37, 40, 41, 42, 43, 44, 45, 46, 47, 48, 49, 52, 53, 54, 55, 56, 57, 58, 59, 60, 61, 62, 63, 64, 65, 66, 67, 68, 69, 70, 71, 72, 73, 74, 75, 76, 77, 78, 79, 80, 81, 82, 83, 84, 85, 86, 87, 88, 89, 90, 91, 92, 93, 94, 95, 96, 97, 98, 99, 100, 101, 102, 103, 104, 105, 106, 107, 108, 109, 110]
abbrev xQM (s1 s2 s3 s4 s5 s6 s7 s8 s9 s22 s23 s38 s39 s50 s51 : AV) : List AV := [.any, s1, s2, s3, s4, s5, s6, s7, s8, s9, .any, .any, .any, .any, .any, .any, .any, .any, .any, .any, .any, .any, s22, s23, .any, .any, .any, .any, .any, .any, .any, .any, .any, .any, .any, .any, .any, .any, s38, s39, .any, .any, .any, .any, .any, .any, .any, .any, .any, .any, s50, s51, .any, .any, .any, .any, .any, .any, .any, .any, .any, .any, .any, .any, .any, .any, .any, .any, .any, .any, .any, .any, .any, .any, .any, .any, .any, .any, .any, .any, .any, .any, .any, .any, .any, .any, .any, .any, .any, .any, .any, .any, .any, .any, .any, .any, .any, .any, .any, .any, .any, .any, .any, .any, .any, .any, .any, .any, .any, .any, .any]
theorem yDE (s0 s1 s2 s3 s4 s5 s6 s7 s8 s9 s10 s11 s12 s13 s14 s15 s16 s17 s18 s19 s20 s21 s22 s23 s24 s25 s26 s27 s28 s29 s30 s31 s32 s33 s34 s35 s36 s37 s38 s39 s40 s41 s42 s43 s44 s45 s46 s47 s48 s49 s50 s51 s52 s53 s54 s55 s56 s57 s58 s59 s60 s61 s62 s63 s64 s65 s66 s67 s68 s69 s70 s71 s72 s73 s74 s75 s76 s77 s78 s79 s80 s81 s82 s83 s84 s85 s86 s87 s88 s89 s90 s91 s92 s93 s94 s95 s96 s97 s98 s99 s100 s101 s102 s103 s104 s105 s106 s107 s108 s109 s110 : AV) : xBA xOA [s0, s1, s2, s3, s4, s5, s6, s7, s8, s9, s10, s11, s12, s13, s14, s15, s16, s17, s18, s19, s20, s21, s22, s23, s24, s25, s26, s27, s28, s29, s30, s31, s32, s33, s34, s35, s36, s37, s38, s39, s40, s41, s42, s43, s44, s45, s46, s47, s48, s49, s50, s51, s52, s53, s54, s55, s56, s57, s58, s59, s60, s61, s62, s63, s64, s65, s66, s67, s68, s69, s70, s71, s72, s73, s74, s75, s76, s77, s78, s79, s80, s81, s82, s83, s84, s85, s86, s87, s88, s89, s90, s91, s92, s93, s94, s95, s96, s97, s98, s99, s100, s101, s102, s103, s104, s105, s106, s107, s108, s109, s110] = xQM s1 s2 s3 s4 s5 s6 s7 s8 s9 s22 s23 s38 s39 s50 s51 := by kernel_rfl
theorem yDF {prog : Nat → Option AFunc} (s1 s2 s3 s4 s5 s6 s7 s8 s9 s22 s23 s38 s39 s50 s51 : AV) (H : xAu) : (lim prog).loop xOA xWj ⟨xQM s1 s2 s3 s4 s5 s6 s7 s8 s9 s22 s23 s38 s39 s50 s51, H⟩ = xCo (lim prog) xOA xWj (run (lim prog) xVl ⟨xQM s1 s2 s3 s4 s5 s6 s7 s8 s9 s22 s23 s38 s39 s50 s51, H⟩) := xAT _ _ _ _ (by kernel_rfl)

def xVm : ACode :=
  .seq (.region [⟨some 40, .bin .lss (.t 39) (.t 38), none⟩])
  (.seq (.cond (.t 40)
    (.skip)
    (.exit 4))
   (.seq (.block 5 (.seq (.region [⟨some 41, .mov (.t 39), none⟩,
         ⟨some 9, .mov (.t 41), none⟩])
      (.seq (.region [⟨some 42, .faddr 2 (.t 1), none⟩,
          ⟨some 43, .load false 1 (.t 42), none⟩,
          ⟨some 44, .mov (.t 6), none⟩,
          ⟨some 45, .iaddr 1 (.t 43) (.t 44), none⟩,
          ⟨some 46, .load false 1 (.t 45), none⟩,
          ⟨some 47, .mov (.t 9), none⟩,
          ⟨some 48, .iaddr 1 (.t 46) (.t 47), none⟩,
          ⟨some 49, .load false 1 (.t 48), none⟩,
          ⟨some 50, .len (.t 49), none⟩,
          ⟨some 51, .mov (.c (.int Go.IntKind.i64 0)), none⟩])
       (.block 6 (.loop xOA xWj)))))
    (.region [⟨some 81, .bin .add (.t 39) (.c (.int Go.IntKind.i64 1)), none⟩,
       ⟨some 39, .mov (.t 81), none⟩])))

def xWk : ACode := xVm
def xOB : List Nat := [0, 9, 10, 11, 12, 13, 14, 15, 16, 17, 18, 19, 20, 21, 24, 25, 26, 27, 28, 29, 30, 31, 32, 33, 34, 35, 36, 37, 40, 41, 42, 43, 44, 45, 46, 47, 48, 49, 50, 51, 52, 53, 54, 55, 56, 57, 58, 59, 60, 61, 62, 63, 64, 65, 66, 67, 68, 69, 70, 71, 72, 73, 74, 75, 76, 77, 78, 79, 80, 81, 82, 83, 84, 85, 86, 87, 88, 89, 90, 91, 92, 93, 94, 95, 96, 97, 98, 99, 100, 101, 102, 103, 104, 105, 106, 107, 108, 109, 110]
abbrev xQN (s1 s2 s3 s4 s5 s6 s7 s8 s22 s23 s38 s39 : AV) : List AV := [.any, s1, s2, s3, s4, s5, s6, s7, s8, .any, .any, .any, .any, .any, .any, .any, .any, .any, .any, .any, .any, .any, s22, s23, .any, .any, .any, .any, .any, .any, .any, .any, .any, .any, .any, .any, .any, .any, s38, s39, .any, .any, .any, .any, .any, .any, .any, .any, .any, .any, .any, .any, .any, .any, .any, .any, .any, .any, .any, .any, .any, .any, .any, .any, .any, .any, .any, .any, .any, .any, .any, .any, .any, .any, .any, .any, .any, .any, .any, .any, .any, .any, .any, .any, .any, .any, .any, .any, .any, .any, .any, .any, .any, .any, .any, .any, .any, .any, .any, .any, .any, .any, .any, .any, .any, .any, .any, .any, .any, .any, .any]
theorem yDG (s0 s1 s2 s3 s4 s5 s6 s7 s8 s9 s10 s11 s12 s13 s14 s15 s16 s17 s18 s19 s20 s21 s22 s23 s24 s25 s26 s27 s28 s29 s30 s31 s32 s33 s34 s35 s36 s37 s38 s39 s40 s41 s42 s43 s44 s45 s46 s47 s48 s49 s50 s51 s52 s53 s54 s55 s56 s57 s58 s59 s60 s61 s62 s63 s64 s65 s66 s67 s68 s69 s70 s71 s72 s73 s74 s75 s76 s77 s78 s79 s80 s81 s82 s83 s84 s85 s86 s87 s88 s89 s90 s91 s92 s93 s94 s95 s96 s97 s98 s99 s100 s101 s102 s103 s104 s105 s106 s107 s108 s109 s110 : AV) : xBA xOB [s0, s1, s2, s3, s4, s5, s6, s7, s8, s9, s10, s11, s12, s13, s14, s15, s16, s17, s18, s19, s20, s21, s22, s23, s24, s25, s26, s27, s28, s29, s30, s31, s32, s33, s34, s35, s36, s37, s38, s39, s40, s41, s42, s43, s44, s45, s46, s47, s48, s49, s50, s51, s52, s53, s54, s55, s56, s57, s58, s59, s60, s61, s62, s63, s64, s65, s66, s67, s68, s69, s70, s71, s72, s73, s74, s75, s76, s77, s78, s79, s80, s81, s82, s83, s84, s85, s86, s87, s88, s89, s90, s91, s92, s93, s94, s95, s96, s97, s98, s99, s100, s101, s102, s103, s104, s105, s106, s107, s108, s109, s110] = xQN s1 s2 s3 s4 s5 s6 s7 s8 s22 s23 s38 s39 := by kernel_rfl
theorem yDH {prog : Nat → Option AFunc} (s1 s2 s3 s4 s5 s6 s7 s8 s22 s23 s38 s39 : AV) (H : xAu) : (lim prog).loop xOB xWk ⟨xQN s1 s2 s3 s4 s5 s6 s7 s8 s22 s23 s38 s39, H⟩ = xCo (lim prog) xOB xWk (run (lim prog) xVm ⟨xQN s1 s2 s3 s4 s5 s6 s7 s8 s22 s23 s38 s39, H⟩) := xAT _ _ _ _ (by kernel_rfl)

def xVn : ACode :=
  .seq (.region [⟨some 24, .bin .lss (.t 23) (.t 22), none⟩])
  (.seq (.cond (.t 24)
    (.skip)
    (.exit 2))
   (.seq (.block 3 (.seq (.region [⟨some 25, .mov (.t 23), none⟩,
         ⟨some 6, .mov (.t 25), none⟩])
      (.seq (.region [⟨some 26, .faddr 3 (.t 1), none⟩,
          ⟨some 27, .load false 1 (.t 26), none⟩,
          ⟨some 28, .mov (.t 6), none⟩,
          ⟨some 29, .iaddr 1 (.t 27) (.t 28), none⟩,
          ⟨some 30, .load false 1 (.t 29), none⟩,
          ⟨some 31, .call 105 [(.t 30)], none⟩,
          ⟨some 32, .sbytes false (.t 31), none⟩,
          ⟨some 7, .box (.c (.sl true 0 [])), none⟩,
          ⟨none, .store 1 (.t 7) (.t 32), none⟩])
       (.seq (.region [⟨some 33, .mkfunc 106 [(.t 7), (.t 2)], none⟩,
           ⟨some 8, .mov (.t 33), none⟩])
        (.seq (.region [⟨some 34, .mov (.t 8), none⟩,
            ⟨some 35, .mov (.t 6), none⟩,
            ⟨some 36, .icall (.t 34) [(.t 35)], none⟩])
         (.seq (.seq (.region [⟨some 37, .load false 1 (.t 2), none⟩,
              ⟨some 38, .len (.t 37), none⟩,
              ⟨some 39, .mov (.c (.int Go.IntKind.i64 0)), none⟩])
           (.block 4 (.loop xOB xWk)))
          (.seq (.region [⟨some 83, .mov (.t 4), none⟩,
              ⟨some 84, .load false 1 (.t 7), none⟩,
              ⟨some 85, .bstr (.t 84), none⟩,
              ⟨some 86, .mlook [1] true (.int Go.IntKind.i64 0) (.t 83) (.t 85), none⟩,
              ⟨some 82, .mov (.t 86), none⟩,
              ⟨some 87, .ext 0 (.t 82), none⟩,
              ⟨some 88, .ext 1 (.t 82), none⟩,
              ⟨some 11, .mov (.t 87), none⟩,
              ⟨some 12, .mov (.t 88), none⟩])
           (.seq (.seq (.region [⟨some 89, .mov (.t 12), none⟩,
                ⟨some 90, .un .not (.t 89), none⟩])
             (.cond (.t 90)
              (.seq (.region [⟨some 91, .mov (.t 4), none⟩,
                  ⟨some 92, .mlen (.t 91), none⟩,
                  ⟨some 11, .mov (.t 92), none⟩])
               (.region [⟨some 93, .mov (.t 4), none⟩,
                  ⟨some 94, .load false 1 (.t 7), none⟩,
                  ⟨some 95, .bstr (.t 94), none⟩,
                  ⟨some 96, .mov (.t 11), none⟩,
                  ⟨none, .mupd [1] (.t 93) (.t 95) (.t 96), none⟩]))
              (.skip)))
            (.region [⟨some 97, .mov (.t 5), none⟩,
               ⟨some 98, .mov (.t 6), none⟩,
               ⟨some 99, .mov (.t 11), none⟩,
               ⟨some 100, .iaddr 1 (.t 97) (.t 98), none⟩,
               ⟨none, .store 1 (.t 100) (.t 99), none⟩])))))))))
    (.region [⟨some 101, .bin .add (.t 23) (.c (.int Go.IntKind.i64 1)), none⟩,
       ⟨some 23, .mov (.t 101), none⟩])))

def xWl : ACode := xVn
def xOC : List Nat := [0, 6, 7, 8, 9, 10, 11, 12, 13, 14, 15, 16, 17, 18, 19, 20, 21, 24, 25, 26, 27, 28, 29, 30, 31, 32, 33, 34, 35, 36, 37, 38, 39, 40, 41, 42, 43, 44, 45, 46, 47, 48, 49, 50, 51, 52, 53, 54, 55, 56, 57, 58, 59, 60, 61, 62, 63, 64, 65, 66, 67, 68, 69, 70, 71, 72, 73, 74, 75, 76, 77, 78, 79, 80, 81, 82, 83, 84, 85, 86, 87, 88, 89, 90, 91, 92, 93, 94, 95, 96, 97, 98, 99, 100, 101, 102, 103, 104, 105, 106, 107, 108, 109, 110]
abbrev xQO (s1 s2 s3 s4 s5 s22 s23 : AV) : List AV := [.any, s1, s2, s3, s4, s5, .any, .any, .any, .any, .any, .any, .any, .any, .any, .any, .any, .any, .any, .any, .any, .any, s22, s23, .any, .any, .any, .any, .any, .any, .any, .any, .any, .any, .any, .any, .any, .any, .any, .any, .any, .any, .any, .any, .any, .any, .any, .any, .any, .any, .any, .any, .any, .any, .any, .any, .any, .any, .any, .any, .any, .any, .any, .any, .any, .any, .any, .any, .any, .any, .any, .any, .any, .any, .any, .any, .any, .any, .any, .any, .any, .any, .any, .any, .any, .any, .any, .any, .any, .any, .any, .any, .any, .any, .any, .any, .any, .any, .any, .any, .any, .any, .any, .any, .any, .any, .any, .any, .any, .any, .any]
theorem yDI (s0 s1 s2 s3 s4 s5 s6 s7 s8 s9 s10 s11 s12 s13 s14 s15 s16 s17 s18 s19 s20 s21 s22 s23 s24 s25 s26 s27 s28 s29 s30 s31 s32 s33 s34 s35 s36 s37 s38 s39 s40 s41 s42 s43 s44 s45 s46 s47 s48 s49 s50 s51 s52 s53 s54 s55 s56 s57 s58 s59 s60 s61 s62 s63 s64 s65 s66 s67 s68 s69 s70 s71 s72 s73 s74 s75 s76 s77 s78 s79 s80 s81 s82 s83 s84 s85 s86 s87 s88 s89 s90 s91 s92 s93 s94 s95 s96 s97 s98 s99 s100 s101 s102 s103 s104 s105 s106 s107 s108 s109 s110 : AV) : xBA xOC [s0, s1, s2, s3, s4, s5, s6, s7, s8, s9, s10, s11, s12, s13, s14, s15, s16, s17, s18, s19, s20, s21, s22, s23, s24, s25, s26, s27, s28, s29, s30, s31, s32, s33, s34, s35, s36, s37, s38, s39, s40, s41, s42, s43, s44, s45, s46, s47, s48, s49, s50, s51, s52, s53, s54, s55, s56, s57, s58, s59, s60, s61, s62, s63, s64, s65, s66, s67, s68, s69, s70, s71, s72, s73, s74, s75, s76, s77, s78, s79, s80, s81, s82, s83, s84, s85, s86, s87, s88, s89, s90, s91, s92, s93, s94, s95, s96, s97, s98, s99, s100, s101, s102, s103, s104, s105, s106, s107, s108, s109, s110] = xQO s1 s2 s3 s4 s5 s22 s23 := by kernel_rfl
theorem yDJ {prog : Nat → Option AFunc} (s1 s2 s3 s4 s5 s22 s23 : AV) (H : xAu) : (lim prog).loop xOC xWl ⟨xQO s1 s2 s3 s4 s5 s22 s23, H⟩ = xCo (lim prog) xOC xWl (run (lim prog) xVn ⟨xQO s1 s2 s3 s4 s5 s22 s23, H⟩) := xAT _ _ _ _ (by kernel_rfl)

def xVo : ACode :=
  .block 1 (.seq (.region [⟨some 17, .mkmap, none⟩,
      ⟨some 4, .mov (.t 17), none⟩])
   (.seq (.region [⟨some 18, .load false 1 (.t 2), none⟩,
       ⟨some 19, .len (.t 18), none⟩,
       ⟨some 20, .mkslice false [.int Go.IntKind.i64 0] 8 (.t 19) (.t 19), none⟩,
       ⟨some 5, .mov (.t 20), none⟩])
    (.seq (.seq (.region [⟨some 21, .load false 1 (.t 2), none⟩,
         ⟨some 22, .len (.t 21), none⟩,
         ⟨some 23, .mov (.c (.int Go.IntKind.i64 0)), none⟩])
      (.block 2 (.loop xOC xWl)))
     (.seq (.seq (.region [⟨some 102, .mov (.t 4), none⟩,
          ⟨some 103, .mlen (.t 102), none⟩,
          ⟨some 104, .mov (.t 3), none⟩,
          ⟨some 105, .bin .eql (.t 103) (.t 104), none⟩])
       (.cond (.t 105)
        (.seq (.region [⟨some 106, .mov (.t 5), none⟩,
            ⟨some 107, .mov (.t 3), none⟩,
            ⟨none, .store 1 (.t 2) (.t 106), none⟩,
            ⟨some 3, .mov (.t 107), none⟩])
         (.ret))
        (.skip)))
      (.region [⟨some 108, .mov (.t 5), none⟩,
         ⟨some 109, .mov (.t 4), none⟩,
         ⟨some 110, .mlen (.t 109), none⟩,
         ⟨none, .store 1 (.t 2) (.t 108), none⟩,
         ⟨some 3, .mov (.t 110), none⟩])))))

def xWm : ACode := xVo
def xOD : List Nat := [0, 4, 5, 6, 7, 8, 9, 10, 11, 12, 13, 14, 15, 16, 17, 18, 19, 20, 21, 22, 23, 24, 25, 26, 27, 28, 29, 30, 31, 32, 33, 34, 35, 36, 37, 38, 39, 40, 41, 42, 43, 44, 45, 46, 47, 48, 49, 50, 51, 52, 53, 54, 55, 56, 57, 58, 59, 60, 61, 62, 63, 64, 65, 66, 67, 68, 69, 70, 71, 72, 73, 74, 75, 76, 77, 78, 79, 80, 81, 82, 83, 84, 85, 86, 87, 88, 89, 90, 91, 92, 93, 94, 95, 96, 97, 98, 99, 100, 101, 102, 103, 104, 105, 106, 107, 108, 109, 110]
abbrev xQP (s1 s2 s3 : AV) : List AV := [.any, s1, s2, s3, .any, .any, .any, .any, .any, .any, .any, .any, .any, .any, .any, .any, .any, .any, .any, .any, .any, .any, .any, .any, .any, .any, .any, .any, .any, .any, .any, .any, .any, .any, .any, .any, .any, .any, .any, .any, .any, .any, .any, .any, .any, .any, .any, .any, .any, .any, .any, .any, .any, .any, .any, .any, .any, .any, .any, .any, .any, .any, .any, .any, .any, .any, .any, .any, .any, .any, .any, .any, .any, .any, .any, .any, .any, .any, .any, .any, .any, .any, .any, .any, .any, .any, .any, .any, .any, .any, .any, .any, .any, .any, .any, .any, .any, .any, .any, .any, .any, .any, .any, .any, .any, .any, .any, .any, .any, .any, .any]
theorem yDK (s0 s1 s2 s3 s4 s5 s6 s7 s8 s9 s10 s11 s12 s13 s14 s15 s16 s17 s18 s19 s20 s21 s22 s23 s24 s25 s26 s27 s28 s29 s30 s31 s32 s33 s34 s35 s36 s37 s38 s39 s40 s41 s42 s43 s44 s45 s46 s47 s48 s49 s50 s51 s52 s53 s54 s55 s56 s57 s58 s59 s60 s61 s62 s63 s64 s65 s66 s67 s68 s69 s70 s71 s72 s73 s74 s75 s76 s77 s78 s79 s80 s81 s82 s83 s84 s85 s86 s87 s88 s89 s90 s91 s92 s93 s94 s95 s96 s97 s98 s99 s100 s101 s102 s103 s104 s105 s106 s107 s108 s109 s110 : AV) : xBA xOD [s0, s1, s2, s3, s4, s5, s6, s7, s8, s9, s10, s11, s12, s13, s14, s15, s16, s17, s18, s19, s20, s21, s22, s23, s24, s25, s26, s27, s28, s29, s30, s31, s32, s33, s34, s35, s36, s37, s38, s39, s40, s41, s42, s43, s44, s45, s46, s47, s48, s49, s50, s51, s52, s53, s54, s55, s56, s57, s58, s59, s60, s61, s62, s63, s64, s65, s66, s67, s68, s69, s70, s71, s72, s73, s74, s75, s76, s77, s78, s79, s80, s81, s82, s83, s84, s85, s86, s87, s88, s89, s90, s91, s92, s93, s94, s95, s96, s97, s98, s99, s100, s101, s102, s103, s104, s105, s106, s107, s108, s109, s110] = xQP s1 s2 s3 := by kernel_rfl
theorem yDL {prog : Nat → Option AFunc} (s1 s2 s3 : AV) (H : xAu) : (lim prog).loop xOD xWm ⟨xQP s1 s2 s3, H⟩ = xCo (lim prog) xOD xWm (run (lim prog) xVo ⟨xQP s1 s2 s3, H⟩) := xAT _ _ _ _ (by kernel_rfl)

def a60 : AFunc := ⟨111,
  .seq (.region [⟨some 1, .box (.t 0), none⟩,
     ⟨some 2, .box (.c (.sl true 0 [])), none⟩,
     ⟨some 3, .mov (.c (.int Go.IntKind.i64 0)), none⟩])
  (.seq (.region [⟨some 13, .faddr 2 (.t 1), none⟩,
      ⟨some 14, .load false 1 (.t 13), none⟩,
      ⟨some 15, .len (.t 14), none⟩,
      ⟨some 16, .mkslice false [.int Go.IntKind.i64 0] 8 (.t 15) (.t 15), none⟩,
      ⟨none, .store 1 (.t 2) (.t 16), none⟩])
   (.block 0 (.loop xOD xWm))),
  [.cell 2 false 1, .tmp 3]⟩

def xLE : ACode :=
  .seq (.region [⟨some 30, .bin .lss (.t 29) (.t 28), none⟩])
  (.seq (.cond (.t 30)
    (.skip)
    (.exit 4))
   (.seq (.block 5 (.seq (.region [⟨some 31, .mov (.t 29), none⟩,
         ⟨some 13, .mov (.t 31), none⟩])
      (.drawh [(36, (1, 10))] [] [] 6 [⟨some 32, .mov (.t 11), none⟩,
         ⟨some 33, .mov (.t 12), none⟩,
         ⟨some 34, .mov (.t 11), none⟩,
         ⟨some 35, .mov (.t 12), none⟩,
         ⟨some 36, .iaddr 1 (.t 34) (.t 35), none⟩,
         ⟨some 37, .load false 1 (.t 36), none⟩,
         ⟨some 38, .mov (.t 2), none⟩,
         ⟨some 39, .mov (.t 10), none⟩,
         ⟨some 40, .mov (.t 12), none⟩,
         ⟨some 41, .mov (.t 13), none⟩,
         ⟨some 42, .icall (.t 38) [(.t 39), (.t 40), (.t 41)], none⟩,
         ⟨some 43, .bslice true [.int Go.IntKind.i64 0] 1 1 [(0, (.t 42))], none⟩,
         ⟨some 44, .append false 1 8 (.t 37) (.t 43), none⟩,
         ⟨some 45, .iaddr 1 (.t 32) (.t 33), none⟩,
         ⟨none, .store 1 (.t 45) (.t 44), none⟩])))
    (.region [⟨some 46, .bin .add (.t 29) (.c (.int Go.IntKind.i64 1)), none⟩,
       ⟨some 29, .mov (.t 46), none⟩])))

def xQQ : ACode := xLE
def xJF : List Nat := [4, 5, 6, 7, 13, 14, 15, 18, 19, 20, 21, 22, 25, 26, 27, 30, 31, 32, 33, 34, 35, 36, 37, 38, 39, 40, 41, 42, 43, 44, 45, 46, 47, 48, 49, 50, 51, 52, 53, 54, 55, 56, 57, 58, 59, 60, 61, 62, 63]
abbrev xH5 (s0 s1 s2 s3 s8 s9 s10 s11 s12 s16 s17 s23 s24 s28 s29 : AV) : List AV := [s0, s1, s2, s3, .any, .any, .any, .any, s8, s9, s10, s11, s12, .any, .any, .any, s16, s17, .any, .any, .any, .any, .any, s23, s24, .any, .any, .any, s28, s29, .any, .any, .any, .any, .any, .any, .any, .any, .any, .any, .any, .any, .any, .any, .any, .any, .any, .any, .any, .any, .any, .any, .any, .any, .any, .any, .any, .any, .any, .any, .any, .any, .any, .any]
theorem xOE (s0 s1 s2 s3 s4 s5 s6 s7 s8 s9 s10 s11 s12 s13 s14 s15 s16 s17 s18 s19 s20 s21 s22 s23 s24 s25 s26 s27 s28 s29 s30 s31 s32 s33 s34 s35 s36 s37 s38 s39 s40 s41 s42 s43 s44 s45 s46 s47 s48 s49 s50 s51 s52 s53 s54 s55 s56 s57 s58 s59 s60 s61 s62 s63 : AV) : xBA xJF [s0, s1, s2, s3, s4, s5, s6, s7, s8, s9, s10, s11, s12, s13, s14, s15, s16, s17, s18, s19, s20, s21, s22, s23, s24, s25, s26, s27, s28, s29, s30, s31, s32, s33, s34, s35, s36, s37, s38, s39, s40, s41, s42, s43, s44, s45, s46, s47, s48, s49, s50, s51, s52, s53, s54, s55, s56, s57, s58, s59, s60, s61, s62, s63] = xH5 s0 s1 s2 s3 s8 s9 s10 s11 s12 s16 s17 s23 s24 s28 s29 := by kernel_rfl
theorem xQR {prog : Nat → Option AFunc} (s0 s1 s2 s3 s8 s9 s10 s11 s12 s16 s17 s23 s24 s28 s29 : AV) (H : xAu) : (lim prog).loop xJF xQQ ⟨xH5 s0 s1 s2 s3 s8 s9 s10 s11 s12 s16 s17 s23 s24 s28 s29, H⟩ = xCo (lim prog) xJF xQQ (run (lim prog) xLE ⟨xH5 s0 s1 s2 s3 s8 s9 s10 s11 s12 s16 s17 s23 s24 s28 s29, H⟩) := xAT _ _ _ _ (by kernel_rfl)

def xOF : ACode :=
  .seq (.region [⟨some 25, .bin .lss (.t 24) (.t 23), none⟩])
  (.seq (.cond (.t 25)
    (.skip)
    (.exit 2))
   (.seq (.block 3 (.seq (.region [⟨some 26, .mov (.t 24), none⟩,
         ⟨some 12, .mov (.t 26), none⟩])
      (.seq (.region [⟨some 27, .mov (.t 0), none⟩,
          ⟨some 28, .bin .shl (.c (.int Go.IntKind.i64 1)) (.t 27), none⟩,
          ⟨some 29, .mov (.c (.int Go.IntKind.i64 0)), none⟩])
       (.block 4 (.loop xJF xQQ)))))
    (.region [⟨some 47, .bin .add (.t 24) (.c (.int Go.IntKind.i64 1)), none⟩,
       ⟨some 24, .mov (.t 47), none⟩])))

def xTp : ACode := xOF
def xLF : List Nat := [4, 5, 6, 7, 12, 13, 14, 15, 18, 19, 20, 21, 22, 25, 26, 27, 28, 29, 30, 31, 32, 33, 34, 35, 36, 37, 38, 39, 40, 41, 42, 43, 44, 45, 46, 47, 48, 49, 50, 51, 52, 53, 54, 55, 56, 57, 58, 59, 60, 61, 62, 63]
abbrev xLG (s0 s1 s2 s3 s8 s9 s10 s11 s16 s17 s23 s24 : AV) : List AV := [s0, s1, s2, s3, .any, .any, .any, .any, s8, s9, s10, s11, .any, .any, .any, .any, s16, s17, .any, .any, .any, .any, .any, s23, s24, .any, .any, .any, .any, .any, .any, .any, .any, .any, .any, .any, .any, .any, .any, .any, .any, .any, .any, .any, .any, .any, .any, .any, .any, .any, .any, .any, .any, .any, .any, .any, .any, .any, .any, .any, .any, .any, .any, .any]
theorem xOG (s0 s1 s2 s3 s4 s5 s6 s7 s8 s9 s10 s11 s12 s13 s14 s15 s16 s17 s18 s19 s20 s21 s22 s23 s24 s25 s26 s27 s28 s29 s30 s31 s32 s33 s34 s35 s36 s37 s38 s39 s40 s41 s42 s43 s44 s45 s46 s47 s48 s49 s50 s51 s52 s53 s54 s55 s56 s57 s58 s59 s60 s61 s62 s63 : AV) : xBA xLF [s0, s1, s2, s3, s4, s5, s6, s7, s8, s9, s10, s11, s12, s13, s14, s15, s16, s17, s18, s19, s20, s21, s22, s23, s24, s25, s26, s27, s28, s29, s30, s31, s32, s33, s34, s35, s36, s37, s38, s39, s40, s41, s42, s43, s44, s45, s46, s47, s48, s49, s50, s51, s52, s53, s54, s55, s56, s57, s58, s59, s60, s61, s62, s63] = xLG s0 s1 s2 s3 s8 s9 s10 s11 s16 s17 s23 s24 := by kernel_rfl
theorem xVp {prog : Nat → Option AFunc} (s0 s1 s2 s3 s8 s9 s10 s11 s16 s17 s23 s24 : AV) (H : xAu) : (lim prog).loop xLF xTp ⟨xLG s0 s1 s2 s3 s8 s9 s10 s11 s16 s17 s23 s24, H⟩ = xCo (lim prog) xLF xTp (run (lim prog) xOF ⟨xLG s0 s1 s2 s3 s8 s9 s10 s11 s16 s17 s23 s24, H⟩) := xAT _ _ _ _ (by kernel_rfl)

def xLH : ACode :=
  .seq (.region [⟨some 18, .bin .lss (.t 17) (.t 16), none⟩])
  (.seq (.cond (.t 18)
    (.skip)
    (.exit 0))
   (.seq (.block 1 (.seq (.region [⟨some 19, .mov (.t 17), none⟩,
         ⟨some 10, .mov (.t 19), none⟩])
      (.seq (.region [⟨some 20, .mov (.t 1), none⟩,
          ⟨some 21, .mkslice false [.sl true 0 []] 24 (.t 20) (.t 20), none⟩,
          ⟨some 11, .mov (.t 21), none⟩])
       (.seq (.seq (.region [⟨some 22, .mov (.t 11), none⟩,
            ⟨some 23, .len (.t 22), none⟩,
            ⟨some 24, .mov (.c (.int Go.IntKind.i64 0)), none⟩])
         (.block 2 (.loop xLF xTp)))
        (.seq (.region [⟨some 48, .faddr 2 (.t 9), none⟩,
            ⟨some 49, .load false 1 (.t 48), none⟩,
            ⟨some 50, .mov (.t 11), none⟩,
            ⟨some 51, .bslice false [.sl true 0 []] 1 1 [(0, (.t 50))], none⟩,
            ⟨some 52, .append false 1 24 (.t 49) (.t 51), none⟩,
            ⟨some 53, .faddr 2 (.t 9), none⟩,
            ⟨none, .store 1 (.t 53) (.t 52), none⟩])
         (.drawh [(54, (1, 4))] [] [] 2 [⟨some 54, .faddr 3 (.t 9), none⟩,
            ⟨some 55, .load false 1 (.t 54), none⟩,
            ⟨some 56, .mov (.t 3), none⟩,
            ⟨some 57, .mov (.t 10), none⟩,
            ⟨some 58, .icall (.t 56) [(.t 57)], none⟩,
            ⟨some 59, .bslice true [.bool false] 1 1 [(0, (.t 58))], none⟩,
            ⟨some 60, .append false 1 1 (.t 55) (.t 59), none⟩,
            ⟨some 61, .faddr 3 (.t 9), none⟩,
            ⟨none, .store 1 (.t 61) (.t 60), none⟩]))))))
    (.region [⟨some 62, .bin .add (.t 17) (.c (.int Go.IntKind.i64 1)), none⟩,
       ⟨some 17, .mov (.t 62), none⟩])))

def xTq : ACode := xLH
def xLI : List Nat := [4, 5, 6, 7, 10, 11, 12, 13, 14, 15, 18, 19, 20, 21, 22, 23, 24, 25, 26, 27, 28, 29, 30, 31, 32, 33, 34, 35, 36, 37, 38, 39, 40, 41, 42, 43, 44, 45, 46, 47, 48, 49, 50, 51, 52, 53, 54, 55, 56, 57, 58, 59, 60, 61, 62, 63]
abbrev xLJ (s0 s1 s2 s3 s8 s9 s16 s17 : AV) : List AV := [s0, s1, s2, s3, .any, .any, .any, .any, s8, s9, .any, .any, .any, .any, .any, .any, s16, s17, .any, .any, .any, .any, .any, .any, .any, .any, .any, .any, .any, .any, .any, .any, .any, .any, .any, .any, .any, .any, .any, .any, .any, .any, .any, .any, .any, .any, .any, .any, .any, .any, .any, .any, .any, .any, .any, .any, .any, .any, .any, .any, .any, .any, .any, .any]
theorem xOH (s0 s1 s2 s3 s4 s5 s6 s7 s8 s9 s10 s11 s12 s13 s14 s15 s16 s17 s18 s19 s20 s21 s22 s23 s24 s25 s26 s27 s28 s29 s30 s31 s32 s33 s34 s35 s36 s37 s38 s39 s40 s41 s42 s43 s44 s45 s46 s47 s48 s49 s50 s51 s52 s53 s54 s55 s56 s57 s58 s59 s60 s61 s62 s63 : AV) : xBA xLI [s0, s1, s2, s3, s4, s5, s6, s7, s8, s9, s10, s11, s12, s13, s14, s15, s16, s17, s18, s19, s20, s21, s22, s23, s24, s25, s26, s27, s28, s29, s30, s31, s32, s33, s34, s35, s36, s37, s38, s39, s40, s41, s42, s43, s44, s45, s46, s47, s48, s49, s50, s51, s52, s53, s54, s55, s56, s57, s58, s59, s60, s61, s62, s63] = xLJ s0 s1 s2 s3 s8 s9 s16 s17 := by kernel_rfl
theorem xQS {prog : Nat → Option AFunc} (s0 s1 s2 s3 s8 s9 s16 s17 : AV) (H : xAu) : (lim prog).loop xLI xTq ⟨xLJ s0 s1 s2 s3 s8 s9 s16 s17, H⟩ = xCo (lim prog) xLI xTq (run (lim prog) xLH ⟨xLJ s0 s1 s2 s3 s8 s9 s16 s17, H⟩) := xAT _ _ _ _ (by kernel_rfl)

def a61 : AFunc := ⟨64,
  .seq (.region [⟨some 8, .box (.c (.agg [.int Go.IntKind.i64 0, .int Go.IntKind.i64 0, .sl true 0 [], .sl true 0 []])), none⟩])
  (.seq (.region [⟨some 14, .mov (.t 0), none⟩,
      ⟨some 15, .build [.int Go.IntKind.i64 0, .int Go.IntKind.i64 0, .sl true 0 [], .sl true 0 []] [(0, 1, (.t 14))], none⟩,
      ⟨some 9, .box (.c (.agg [.int Go.IntKind.i64 0, .int Go.IntKind.i64 0, .sl true 0 [], .sl true 0 []])), none⟩,
      ⟨none, .store 4 (.t 9) (.t 15), none⟩])
   (.seq (.seq (.region [⟨some 16, .mov (.t 1), none⟩,
        ⟨some 17, .mov (.c (.int Go.IntKind.i64 0)), none⟩])
     (.block 0 (.loop xLI xTq)))
    (.seq (.region [⟨some 63, .load true 4 (.t 9), none⟩,
        ⟨none, .store 4 (.t 8) (.t 63), none⟩])
     (.ret)))),
  [.cell 8 true 4]⟩

def a62 : AFunc := ⟨30,
  .seq (.region [⟨some 9, .mov (.c (.int Go.IntKind.i64 0)), none⟩])
  (.seq (.draw 15 [⟨some 10, .load false 1 (.t 3), none⟩,
      ⟨some 11, .faddr 2 (.t 4), none⟩,
      ⟨some 12, .load false 1 (.t 11), none⟩,
      ⟨some 13, .load false 1 (.t 5), none⟩,
      ⟨some 14, .mov (.t 0), none⟩,
      ⟨some 15, .iaddr 1 (.t 13) (.t 14), none⟩,
      ⟨some 16, .load false 1 (.t 15), none⟩,
      ⟨some 17, .iaddr 1 (.t 12) (.t 16), none⟩,
      ⟨some 18, .load false 1 (.t 17), none⟩,
      ⟨some 19, .load false 1 (.t 5), none⟩,
      ⟨some 20, .mov (.t 1), none⟩,
      ⟨some 21, .iaddr 1 (.t 19) (.t 20), none⟩,
      ⟨some 22, .load false 1 (.t 21), none⟩,
      ⟨some 23, .iaddr 1 (.t 18) (.t 22), none⟩,
      ⟨some 24, .load false 1 (.t 23), none⟩,
      ⟨some 25, .mov (.t 2), none⟩,
      ⟨some 26, .iaddr 1 (.t 24) (.t 25), none⟩,
      ⟨some 27, .load false 1 (.t 26), none⟩,
      ⟨some 28, .iaddr 1 (.t 10) (.t 27), none⟩,
      ⟨some 29, .load false 1 (.t 28), none⟩,
      ⟨some 9, .mov (.t 29), none⟩])
   (.ret)),
  [.tmp 9]⟩

def a63 : AFunc := ⟨13,
  .seq (.region [⟨some 4, .mov (.c (.bool false)), none⟩])
  (.seq (.draw 3 [⟨some 5, .faddr 3 (.t 1), none⟩,
      ⟨some 6, .load false 1 (.t 5), none⟩,
      ⟨some 7, .load false 1 (.t 2), none⟩,
      ⟨some 8, .mov (.t 0), none⟩,
      ⟨some 9, .iaddr 1 (.t 7) (.t 8), none⟩,
      ⟨some 10, .load false 1 (.t 9), none⟩,
      ⟨some 11, .iaddr 1 (.t 6) (.t 10), none⟩,
      ⟨some 12, .load false 1 (.t 11), none⟩,
      ⟨some 4, .mov (.t 12), none⟩])
   (.ret)),
  [.tmp 4]⟩

def xOI : ACode :=
  .seq (.seq (.region [⟨some 11, .mov (.t 5), none⟩,
      ⟨some 12, .mov (.t 0), none⟩,
      ⟨some 13, .len (.t 12), none⟩,
      ⟨some 14, .bin .lss (.t 11) (.t 13), none⟩])
   (.cond (.t 14)
    (.skip)
    (.exit 0)))
  (.seq (.block 1 (.seq (.draw 5 [⟨some 17, .mov (.t 0), none⟩,
        ⟨some 18, .mov (.t 5), none⟩,
        ⟨some 19, .iaddr 1 (.t 17) (.t 18), none⟩,
        ⟨some 20, .load false 1 (.t 19), none⟩,
        ⟨some 21, .mov (.t 1), none⟩,
        ⟨some 22, .mov (.t 5), none⟩,
        ⟨some 23, .iaddr 1 (.t 21) (.t 22), none⟩,
        ⟨some 24, .load false 1 (.t 23), none⟩,
        ⟨some 25, .call 39 [(.t 20), (.t 24)], none⟩,
        ⟨some 26, .un .not (.t 25), none⟩])
     (.cond (.t 26)
      (.seq (.region [⟨some 4, .mov (.c (.bool false)), none⟩])
       (.ret))
      (.skip))))
   (.region [⟨some 15, .mov (.t 5), none⟩,
      ⟨some 16, .bin .add (.t 15) (.c (.int Go.IntKind.i64 1)), none⟩,
      ⟨some 5, .mov (.t 16), none⟩]))

def xTr : ACode := xOI
def xLK : List Nat := [2, 3, 6, 7, 8, 9, 10, 11, 12, 13, 14, 15, 16, 17, 18, 19, 20, 21, 22, 23, 24, 25, 26]
abbrev xLL (s0 s1 s4 s5 : AV) : List AV := [s0, s1, .any, .any, s4, s5, .any, .any, .any, .any, .any, .any, .any, .any, .any, .any, .any, .any, .any, .any, .any, .any, .any, .any, .any, .any, .any]
theorem xQT (s0 s1 s2 s3 s4 s5 s6 s7 s8 s9 s10 s11 s12 s13 s14 s15 s16 s17 s18 s19 s20 s21 s22 s23 s24 s25 s26 : AV) : xBA xLK [s0, s1, s2, s3, s4, s5, s6, s7, s8, s9, s10, s11, s12, s13, s14, s15, s16, s17, s18, s19, s20, s21, s22, s23, s24, s25, s26] = xLL s0 s1 s4 s5 := by kernel_rfl
theorem xVq {prog : Nat → Option AFunc} (s0 s1 s4 s5 : AV) (H : xAu) : (lim prog).loop xLK xTr ⟨xLL s0 s1 s4 s5, H⟩ = xCo (lim prog) xLK xTr (run (lim prog) xOI ⟨xLL s0 s1 s4 s5, H⟩) := xAT _ _ _ _ (by kernel_rfl)

def a66 : AFunc := ⟨27,
  .seq (.region [⟨some 4, .mov (.c (.bool false)), none⟩])
  (.seq (.seq (.region [⟨some 6, .mov (.t 0), none⟩,
       ⟨some 7, .len (.t 6), none⟩,
       ⟨some 8, .mov (.t 1), none⟩,
       ⟨some 9, .len (.t 8), none⟩,
       ⟨some 10, .bin .neq (.t 7) (.t 9), none⟩])
    (.cond (.t 10)
     (.seq (.region [⟨some 4, .mov (.c (.bool false)), none⟩])
      (.ret))
     (.skip)))
   (.seq (.seq (.region [⟨some 5, .mov (.c (.int Go.IntKind.i64 0)), none⟩])
     (.block 0 (.loop xLK xTr)))
    (.seq (.region [⟨some 4, .mov (.c (.bool true)), none⟩])
     (.ret)))),
  [.tmp 4]⟩

def xLM : ACode :=
  .seq (.seq (.region [⟨some 11, .mov (.t 5), none⟩,
      ⟨some 12, .mov (.t 0), none⟩,
      ⟨some 13, .len (.t 12), none⟩,
      ⟨some 14, .bin .lss (.t 11) (.t 13), none⟩])
   (.cond (.t 14)
    (.skip)
    (.exit 0)))
  (.seq (.block 1 (.seq (.draw 5 [⟨some 17, .mov (.t 0), none⟩,
        ⟨some 18, .mov (.t 5), none⟩,
        ⟨some 19, .iaddr 1 (.t 17) (.t 18), none⟩,
        ⟨some 20, .load false 1 (.t 19), none⟩,
        ⟨some 21, .mov (.t 1), none⟩,
        ⟨some 22, .mov (.t 5), none⟩,
        ⟨some 23, .iaddr 1 (.t 21) (.t 22), none⟩,
        ⟨some 24, .load false 1 (.t 23), none⟩,
        ⟨some 25, .beq true (.t 20) (.t 24), none⟩])
     (.cond (.t 25)
      (.seq (.region [⟨some 4, .mov (.c (.bool false)), none⟩])
       (.ret))
      (.skip))))
   (.region [⟨some 15, .mov (.t 5), none⟩,
      ⟨some 16, .bin .add (.t 15) (.c (.int Go.IntKind.i64 1)), none⟩,
      ⟨some 5, .mov (.t 16), none⟩]))

def xTs : ACode := xLM
def xLN : List Nat := [2, 3, 6, 7, 8, 9, 10, 11, 12, 13, 14, 15, 16, 17, 18, 19, 20, 21, 22, 23, 24, 25]
abbrev xLO (s0 s1 s4 s5 : AV) : List AV := [s0, s1, .any, .any, s4, s5, .any, .any, .any, .any, .any, .any, .any, .any, .any, .any, .any, .any, .any, .any, .any, .any, .any, .any, .any, .any]
theorem xOJ (s0 s1 s2 s3 s4 s5 s6 s7 s8 s9 s10 s11 s12 s13 s14 s15 s16 s17 s18 s19 s20 s21 s22 s23 s24 s25 : AV) : xBA xLN [s0, s1, s2, s3, s4, s5, s6, s7, s8, s9, s10, s11, s12, s13, s14, s15, s16, s17, s18, s19, s20, s21, s22, s23, s24, s25] = xLO s0 s1 s4 s5 := by kernel_rfl
theorem xVr {prog : Nat → Option AFunc} (s0 s1 s4 s5 : AV) (H : xAu) : (lim prog).loop xLN xTs ⟨xLO s0 s1 s4 s5, H⟩ = xCo (lim prog) xLN xTs (run (lim prog) xLM ⟨xLO s0 s1 s4 s5, H⟩) := xAT _ _ _ _ (by kernel_rfl)

def a67 : AFunc := ⟨26,
  .seq (.region [⟨some 4, .mov (.c (.bool false)), none⟩])
  (.seq (.seq (.region [⟨some 6, .mov (.t 0), none⟩,
       ⟨some 7, .len (.t 6), none⟩,
       ⟨some 8, .mov (.t 1), none⟩,
       ⟨some 9, .len (.t 8), none⟩,
       ⟨some 10, .bin .neq (.t 7) (.t 9), none⟩])
    (.cond (.t 10)
     (.seq (.region [⟨some 4, .mov (.c (.bool false)), none⟩])
      (.ret))
     (.skip)))
   (.seq (.seq (.region [⟨some 5, .mov (.c (.int Go.IntKind.i64 0)), none⟩])
     (.block 0 (.loop xLN xTs)))
    (.seq (.region [⟨some 4, .mov (.c (.bool true)), none⟩])
     (.ret)))),
  [.tmp 4]⟩

def xOK : ACode :=
  .seq (.region [⟨some 8, .bin .lss (.t 7) (.t 6), none⟩])
  (.seq (.cond (.t 8)
    (.skip)
    (.exit 0))
   (.seq (.block 1 (.seq (.region [⟨some 9, .iaddr 1 (.t 5) (.t 7), none⟩,
         ⟨some 10, .load false 1 (.t 9), none⟩,
         ⟨some 4, .mov (.t 10), none⟩])
      (.region [⟨some 11, .mov (.t 2), none⟩,
         ⟨some 12, .mov (.t 4), none⟩,
         ⟨some 13, .bin .shl (.c (.int Go.IntKind.u64 1)) (.t 12), none⟩,
         ⟨some 14, .bin .or (.t 11) (.t 13), none⟩,
         ⟨some 2, .mov (.t 14), none⟩])))
    (.region [⟨some 15, .bin .add (.t 7) (.c (.int Go.IntKind.i64 1)), none⟩,
       ⟨some 7, .mov (.t 15), none⟩])))

def xTt : ACode := xOK
def xLP : List Nat := [0, 1, 3, 4, 8, 9, 10, 11, 12, 13, 14, 15, 16]
abbrev xLQ (s2 s5 s6 s7 : AV) : List AV := [.any, .any, s2, .any, .any, s5, s6, s7, .any, .any, .any, .any, .any, .any, .any, .any, .any]
theorem xQU (s0 s1 s2 s3 s4 s5 s6 s7 s8 s9 s10 s11 s12 s13 s14 s15 s16 : AV) : xBA xLP [s0, s1, s2, s3, s4, s5, s6, s7, s8, s9, s10, s11, s12, s13, s14, s15, s16] = xLQ s2 s5 s6 s7 := by kernel_rfl
theorem xVs {prog : Nat → Option AFunc} (s2 s5 s6 s7 : AV) (H : xAu) : (lim prog).loop xLP xTt ⟨xLQ s2 s5 s6 s7, H⟩ = xCo (lim prog) xLP xTt (run (lim prog) xOK ⟨xLQ s2 s5 s6 s7, H⟩) := xAT _ _ _ _ (by kernel_rfl)

def a73 : AFunc := ⟨17,
  .seq (.region [⟨some 2, .mov (.c (.int Go.IntKind.u64 0)), none⟩])
  (.seq (.seq (.region [⟨some 5, .mov (.t 0), none⟩,
       ⟨some 6, .len (.t 5), none⟩,
       ⟨some 7, .mov (.c (.int Go.IntKind.i64 0)), none⟩])
    (.block 0 (.loop xLP xTt)))
   (.seq (.region [⟨some 16, .mov (.t 2), none⟩,
       ⟨some 2, .mov (.t 16), none⟩])
    (.ret))),
  [.tmp 2]⟩

def xE5 : ACode :=
  .seq (.region [⟨some 15, .bin .lss (.t 14) (.t 13), none⟩])
  (.seq (.cond (.t 15)
    (.skip)
    (.exit 0))
   (.seq (.block 1 (.seq (.region [⟨some 16, .iaddr 5 (.t 12) (.t 14), none⟩,
         ⟨some 17, .load true 5 (.t 16), none⟩,
         ⟨some 10, .box (.c (.agg [.int Go.IntKind.i64 0, .int Go.IntKind.i64 0, .int Go.IntKind.i64 0, .int Go.IntKind.u8 0, .int Go.IntKind.u8 0])), none⟩,
         ⟨none, .store 5 (.t 10) (.t 17), none⟩])
      (.seq (.draw 30 [⟨some 18, .load false 1 (.t 4), none⟩,
          ⟨some 19, .mov (.t 0), none⟩,
          ⟨some 20, .iaddr 1 (.t 18) (.t 19), none⟩,
          ⟨some 21, .load false 1 (.t 20), none⟩,
          ⟨some 22, .faddr 0 (.t 10), none⟩,
          ⟨some 23, .load false 1 (.t 22), none⟩,
          ⟨some 24, .bin .shr (.t 21) (.t 23), none⟩,
          ⟨some 25, .load false 1 (.t 4), none⟩,
          ⟨some 26, .mov (.t 1), none⟩,
          ⟨some 27, .iaddr 1 (.t 25) (.t 26), none⟩,
          ⟨some 28, .load false 1 (.t 27), none⟩,
          ⟨some 29, .faddr 1 (.t 10), none⟩,
          ⟨some 30, .load false 1 (.t 29), none⟩,
          ⟨some 31, .bin .shr (.t 28) (.t 30), none⟩,
          ⟨some 32, .bin .and (.t 24) (.t 31), none⟩,
          ⟨some 33, .bin .and (.t 32) (.c (.int Go.IntKind.u64 1)), none⟩,
          ⟨some 34, .bin .neq (.t 33) (.c (.int Go.IntKind.u64 0)), none⟩,
          ⟨some 35, .mov (.t 34), none⟩,
          ⟨some 36, .mov (.t 2), some (35, true)⟩,
          ⟨some 37, .conv Go.IntKind.u8 (.t 36), some (35, true)⟩,
          ⟨some 38, .faddr 3 (.t 10), some (35, true)⟩,
          ⟨some 39, .load false 1 (.t 38), some (35, true)⟩,
          ⟨some 40, .bin .and (.t 37) (.t 39), some (35, true)⟩,
          ⟨some 41, .faddr 3 (.t 10), some (35, true)⟩,
          ⟨some 42, .load false 1 (.t 41), some (35, true)⟩,
          ⟨some 43, .bin .eql (.t 40) (.t 42), some (35, true)⟩,
          ⟨some 44, .pick (.t 35) (.t 43) (.c (.bool false)), none⟩,
          ⟨some 45, .mov (.t 44), none⟩,
          ⟨some 46, .mov (.t 2), some (45, true)⟩,
          ⟨some 47, .conv Go.IntKind.u8 (.t 46), some (45, true)⟩,
          ⟨some 48, .faddr 4 (.t 10), some (45, true)⟩,
          ⟨some 49, .load false 1 (.t 48), some (45, true)⟩,
          ⟨some 50, .bin .and (.t 47) (.t 49), some (45, true)⟩,
          ⟨some 51, .bin .eql (.t 50) (.c (.int Go.IntKind.u8 0)), some (45, true)⟩,
          ⟨some 52, .pick (.t 45) (.t 51) (.c (.bool false)), none⟩])
       (.cond (.t 52)
        (.region [⟨some 53, .mov (.t 8), none⟩,
           ⟨some 54, .faddr 2 (.t 10), none⟩,
           ⟨some 55, .load false 1 (.t 54), none⟩,
           ⟨some 56, .bin .shl (.c (.int Go.IntKind.u64 1)) (.t 55), none⟩,
           ⟨some 57, .bin .or (.t 53) (.t 56), none⟩,
           ⟨some 8, .mov (.t 57), none⟩])
        (.skip)))))
    (.region [⟨some 58, .bin .add (.t 14) (.c (.int Go.IntKind.i64 1)), none⟩,
       ⟨some 14, .mov (.t 58), none⟩])))

def xQV : ACode := xE5
def xJG : List Nat := [3, 5, 6, 7, 9, 10, 11, 15, 16, 17, 18, 19, 20, 21, 22, 23, 24, 25, 26, 27, 28, 29, 30, 31, 32, 33, 34, 35, 36, 37, 38, 39, 40, 41, 42, 43, 44, 45, 46, 47, 48, 49, 50, 51, 52, 53, 54, 55, 56, 57, 58, 59]
abbrev xH6 (s0 s1 s2 s4 s8 s12 s13 s14 : AV) : List AV := [s0, s1, s2, .any, s4, .any, .any, .any, s8, .any, .any, .any, s12, s13, s14, .any, .any, .any, .any, .any, .any, .any, .any, .any, .any, .any, .any, .any, .any, .any, .any, .any, .any, .any, .any, .any, .any, .any, .any, .any, .any, .any, .any, .any, .any, .any, .any, .any, .any, .any, .any, .any, .any, .any, .any, .any, .any, .any, .any, .any]
theorem xE6 (s0 s1 s2 s3 s4 s5 s6 s7 s8 s9 s10 s11 s12 s13 s14 s15 s16 s17 s18 s19 s20 s21 s22 s23 s24 s25 s26 s27 s28 s29 s30 s31 s32 s33 s34 s35 s36 s37 s38 s39 s40 s41 s42 s43 s44 s45 s46 s47 s48 s49 s50 s51 s52 s53 s54 s55 s56 s57 s58 s59 : AV) : xBA xJG [s0, s1, s2, s3, s4, s5, s6, s7, s8, s9, s10, s11, s12, s13, s14, s15, s16, s17, s18, s19, s20, s21, s22, s23, s24, s25, s26, s27, s28, s29, s30, s31, s32, s33, s34, s35, s36, s37, s38, s39, s40, s41, s42, s43, s44, s45, s46, s47, s48, s49, s50, s51, s52, s53, s54, s55, s56, s57, s58, s59] = xH6 s0 s1 s2 s4 s8 s12 s13 s14 := by kernel_rfl
theorem xF5 {prog : Nat → Option AFunc} (s0 s1 s2 s4 s8 s12 s13 s14 : AV) (H : xAu) : (lim prog).loop xJG xQV ⟨xH6 s0 s1 s2 s4 s8 s12 s13 s14, H⟩ = xCo (lim prog) xJG xQV (run (lim prog) xE5 ⟨xH6 s0 s1 s2 s4 s8 s12 s13 s14, H⟩) := xAT _ _ _ _ (by kernel_rfl)

def a74 : AFunc := ⟨60,
  .seq (.region [⟨some 8, .mov (.c (.int Go.IntKind.u64 0)), none⟩])
  (.seq (.seq (.region [⟨some 11, .faddr 4 (.t 3), none⟩,
       ⟨some 12, .load false 1 (.t 11), none⟩,
       ⟨some 13, .len (.t 12), none⟩,
       ⟨some 14, .mov (.c (.int Go.IntKind.i64 0)), none⟩])
    (.block 0 (.loop xJG xQV)))
   (.seq (.region [⟨some 59, .mov (.t 8), none⟩,
       ⟨some 8, .mov (.t 59), none⟩])
    (.ret))),
  [.tmp 8]⟩

def xLR : ACode :=
  .seq (.region [⟨some 33, .bin .lss (.t 32) (.t 31), none⟩])
  (.seq (.cond (.t 33)
    (.skip)
    (.exit 6))
   (.seq (.block 7 (.seq (.region [⟨some 34, .mov (.t 32), none⟩,
         ⟨some 9, .mov (.t 34), none⟩])
      (.seq (.region [⟨some 35, .mov (.t 1), none⟩,
          ⟨some 36, .arrat 1 2 (.t 8) (.c (.int Go.IntKind.i64 0)), none⟩,
          ⟨some 37, .load false 1 (.t 36), none⟩,
          ⟨some 38, .arrat 1 2 (.t 8) (.c (.int Go.IntKind.i64 1)), none⟩,
          ⟨some 39, .load false 1 (.t 38), none⟩,
          ⟨some 40, .mov (.t 9), none⟩,
          ⟨some 41, .icall (.t 35) [(.t 37), (.t 39), (.t 40)], none⟩,
          ⟨some 4, .mov (.t 41), none⟩])
       (.seq (.region [⟨some 42, .mov (.t 4), none⟩,
           ⟨some 43, .bin .lss (.t 42) (.c (.int Go.IntKind.i64 0)), none⟩])
        (.cond (.t 43)
         (.exit 0)
         (.skip))))))
    (.region [⟨some 44, .bin .add (.t 32) (.c (.int Go.IntKind.i64 1)), none⟩,
       ⟨some 32, .mov (.t 44), none⟩])))

def xTu : ACode := xLR
def xLS : List Nat := [2, 3, 7, 9, 10, 11, 12, 13, 14, 15, 16, 17, 18, 19, 20, 21, 22, 23, 24, 25, 28, 29, 30, 33, 34, 35, 36, 37, 38, 39, 40, 41, 42, 43, 44, 45]
abbrev xLT (s0 s1 s4 s5 s6 s8 s26 s27 s31 s32 : AV) : List AV := [s0, s1, .any, .any, s4, s5, s6, .any, s8, .any, .any, .any, .any, .any, .any, .any, .any, .any, .any, .any, .any, .any, .any, .any, .any, .any, s26, s27, .any, .any, .any, s31, s32, .any, .any, .any, .any, .any, .any, .any, .any, .any, .any, .any, .any, .any]
theorem xH7 (s0 s1 s2 s3 s4 s5 s6 s7 s8 s9 s10 s11 s12 s13 s14 s15 s16 s17 s18 s19 s20 s21 s22 s23 s24 s25 s26 s27 s28 s29 s30 s31 s32 s33 s34 s35 s36 s37 s38 s39 s40 s41 s42 s43 s44 s45 : AV) : xBA xLS [s0, s1, s2, s3, s4, s5, s6, s7, s8, s9, s10, s11, s12, s13, s14, s15, s16, s17, s18, s19, s20, s21, s22, s23, s24, s25, s26, s27, s28, s29, s30, s31, s32, s33, s34, s35, s36, s37, s38, s39, s40, s41, s42, s43, s44, s45] = xLT s0 s1 s4 s5 s6 s8 s26 s27 s31 s32 := by kernel_rfl
theorem xQW {prog : Nat → Option AFunc} (s0 s1 s4 s5 s6 s8 s26 s27 s31 s32 : AV) (H : xAu) : (lim prog).loop xLS xTu ⟨xLT s0 s1 s4 s5 s6 s8 s26 s27 s31 s32, H⟩ = xCo (lim prog) xLS xTu (run (lim prog) xLR ⟨xLT s0 s1 s4 s5 s6 s8 s26 s27 s31 s32, H⟩) := xAT _ _ _ _ (by kernel_rfl)

def xH8 : ACode :=
  .seq (.region [⟨some 28, .bin .lss (.t 27) (.c (.int Go.IntKind.i64 2)), none⟩])
  (.seq (.cond (.t 28)
    (.skip)
    (.exit 4))
   (.seq (.block 5 (.seq (.region [⟨some 29, .idx true 2 2 (.t 26) (.t 27), none⟩,
         ⟨some 8, .box (.c (.agg [.int Go.IntKind.i64 0, .int Go.IntKind.i64 0])), none⟩,
         ⟨none, .store 2 (.t 8) (.t 29), none⟩])
      (.seq (.region [⟨some 30, .mov (.t 0), none⟩,
          ⟨some 31, .bin .shl (.c (.int Go.IntKind.i64 1)) (.t 30), none⟩,
          ⟨some 32, .mov (.c (.int Go.IntKind.i64 0)), none⟩])
       (.block 6 (.loop xLS xTu)))))
    (.region [⟨some 45, .bin .add (.t 27) (.c (.int Go.IntKind.i64 1)), none⟩,
       ⟨some 27, .mov (.t 45), none⟩])))

def xPz : ACode := xH8
def xH9 : List Nat := [2, 3, 7, 8, 9, 10, 11, 12, 13, 14, 15, 16, 17, 18, 19, 20, 21, 22, 23, 24, 25, 28, 29, 30, 31, 32, 33, 34, 35, 36, 37, 38, 39, 40, 41, 42, 43, 44, 45]
abbrev xGu (s0 s1 s4 s5 s6 s26 s27 : AV) : List AV := [s0, s1, .any, .any, s4, s5, s6, .any, .any, .any, .any, .any, .any, .any, .any, .any, .any, .any, .any, .any, .any, .any, .any, .any, .any, .any, s26, s27, .any, .any, .any, .any, .any, .any, .any, .any, .any, .any, .any, .any, .any, .any, .any, .any, .any, .any]
theorem xIa (s0 s1 s2 s3 s4 s5 s6 s7 s8 s9 s10 s11 s12 s13 s14 s15 s16 s17 s18 s19 s20 s21 s22 s23 s24 s25 s26 s27 s28 s29 s30 s31 s32 s33 s34 s35 s36 s37 s38 s39 s40 s41 s42 s43 s44 s45 : AV) : xBA xH9 [s0, s1, s2, s3, s4, s5, s6, s7, s8, s9, s10, s11, s12, s13, s14, s15, s16, s17, s18, s19, s20, s21, s22, s23, s24, s25, s26, s27, s28, s29, s30, s31, s32, s33, s34, s35, s36, s37, s38, s39, s40, s41, s42, s43, s44, s45] = xGu s0 s1 s4 s5 s6 s26 s27 := by kernel_rfl
theorem xLU {prog : Nat → Option AFunc} (s0 s1 s4 s5 s6 s26 s27 : AV) (H : xAu) : (lim prog).loop xH9 xPz ⟨xGu s0 s1 s4 s5 s6 s26 s27, H⟩ = xCo (lim prog) xH9 xPz (run (lim prog) xH8 ⟨xGu s0 s1 s4 s5 s6 s26 s27, H⟩) := xAT _ _ _ _ (by kernel_rfl)

def xLV : ACode :=
  .seq (.seq (.region [⟨some 15, .mov (.t 6), none⟩,
      ⟨some 16, .mov (.t 5), none⟩,
      ⟨some 17, .bin .leq (.t 15) (.t 16), none⟩])
   (.cond (.t 17)
    (.skip)
    (.exit 2)))
  (.seq (.block 3 (.seq (.region [⟨some 20, .mov (.t 6), none⟩,
        ⟨some 21, .mov (.t 5), none⟩,
        ⟨some 22, .build [.int Go.IntKind.i64 0, .int Go.IntKind.i64 0] [(0, 1, (.t 20)), (1, 1, (.t 21))], none⟩,
        ⟨some 23, .mov (.t 5), none⟩,
        ⟨some 24, .mov (.t 6), none⟩,
        ⟨some 25, .build [.int Go.IntKind.i64 0, .int Go.IntKind.i64 0] [(0, 1, (.t 23)), (1, 1, (.t 24))], none⟩,
        ⟨some 26, .build [.int Go.IntKind.i64 0, .int Go.IntKind.i64 0, .int Go.IntKind.i64 0, .int Go.IntKind.i64 0] [(0, 2, (.t 22)), (2, 2, (.t 25))], none⟩,
        ⟨some 27, .mov (.c (.int Go.IntKind.i64 0)), none⟩])
     (.block 4 (.loop xH9 xPz))))
   (.region [⟨some 18, .mov (.t 6), none⟩,
      ⟨some 19, .bin .add (.t 18) (.c (.int Go.IntKind.i64 1)), none⟩,
      ⟨some 6, .mov (.t 19), none⟩]))

def xTv : ACode := xLV
def xLW : List Nat := [2, 3, 7, 8, 9, 10, 11, 12, 13, 14, 15, 16, 17, 18, 19, 20, 21, 22, 23, 24, 25, 26, 27, 28, 29, 30, 31, 32, 33, 34, 35, 36, 37, 38, 39, 40, 41, 42, 43, 44, 45]
abbrev xLX (s0 s1 s4 s5 s6 : AV) : List AV := [s0, s1, .any, .any, s4, s5, s6, .any, .any, .any, .any, .any, .any, .any, .any, .any, .any, .any, .any, .any, .any, .any, .any, .any, .any, .any, .any, .any, .any, .any, .any, .any, .any, .any, .any, .any, .any, .any, .any, .any, .any, .any, .any, .any, .any, .any]
theorem xLY (s0 s1 s2 s3 s4 s5 s6 s7 s8 s9 s10 s11 s12 s13 s14 s15 s16 s17 s18 s19 s20 s21 s22 s23 s24 s25 s26 s27 s28 s29 s30 s31 s32 s33 s34 s35 s36 s37 s38 s39 s40 s41 s42 s43 s44 s45 : AV) : xBA xLW [s0, s1, s2, s3, s4, s5, s6, s7, s8, s9, s10, s11, s12, s13, s14, s15, s16, s17, s18, s19, s20, s21, s22, s23, s24, s25, s26, s27, s28, s29, s30, s31, s32, s33, s34, s35, s36, s37, s38, s39, s40, s41, s42, s43, s44, s45] = xLX s0 s1 s4 s5 s6 := by kernel_rfl
theorem xQX {prog : Nat → Option AFunc} (s0 s1 s4 s5 s6 : AV) (H : xAu) : (lim prog).loop xLW xTv ⟨xLX s0 s1 s4 s5 s6, H⟩ = xCo (lim prog) xLW xTv (run (lim prog) xLV ⟨xLX s0 s1 s4 s5 s6, H⟩) := xAT _ _ _ _ (by kernel_rfl)

def xJH : ACode :=
  .seq (.seq (.region [⟨some 10, .mov (.t 5), none⟩,
      ⟨some 11, .mov (.t 4), none⟩,
      ⟨some 12, .bin .lss (.t 10) (.t 11), none⟩])
   (.cond (.t 12)
    (.skip)
    (.exit 0)))
  (.seq (.block 1 (.seq (.region [⟨some 6, .mov (.c (.int Go.IntKind.i64 0)), none⟩])
     (.block 2 (.loop xLW xTv))))
   (.region [⟨some 13, .mov (.t 5), none⟩,
      ⟨some 14, .bin .add (.t 13) (.c (.int Go.IntKind.i64 1)), none⟩,
      ⟨some 5, .mov (.t 14), none⟩]))

def xTw : ACode := xJH
def xLZ : List Nat := [2, 3, 6, 7, 8, 9, 10, 11, 12, 13, 14, 15, 16, 17, 18, 19, 20, 21, 22, 23, 24, 25, 26, 27, 28, 29, 30, 31, 32, 33, 34, 35, 36, 37, 38, 39, 40, 41, 42, 43, 44, 45]
abbrev xL0 (s0 s1 s4 s5 : AV) : List AV := [s0, s1, .any, .any, s4, s5, .any, .any, .any, .any, .any, .any, .any, .any, .any, .any, .any, .any, .any, .any, .any, .any, .any, .any, .any, .any, .any, .any, .any, .any, .any, .any, .any, .any, .any, .any, .any, .any, .any, .any, .any, .any, .any, .any, .any, .any]
theorem xL1 (s0 s1 s2 s3 s4 s5 s6 s7 s8 s9 s10 s11 s12 s13 s14 s15 s16 s17 s18 s19 s20 s21 s22 s23 s24 s25 s26 s27 s28 s29 s30 s31 s32 s33 s34 s35 s36 s37 s38 s39 s40 s41 s42 s43 s44 s45 : AV) : xBA xLZ [s0, s1, s2, s3, s4, s5, s6, s7, s8, s9, s10, s11, s12, s13, s14, s15, s16, s17, s18, s19, s20, s21, s22, s23, s24, s25, s26, s27, s28, s29, s30, s31, s32, s33, s34, s35, s36, s37, s38, s39, s40, s41, s42, s43, s44, s45] = xL0 s0 s1 s4 s5 := by kernel_rfl
theorem xOL {prog : Nat → Option AFunc} (s0 s1 s4 s5 : AV) (H : xAu) : (lim prog).loop xLZ xTw ⟨xL0 s0 s1 s4 s5, H⟩ = xCo (lim prog) xLZ xTw (run (lim prog) xJH ⟨xL0 s0 s1 s4 s5, H⟩) := xAT _ _ _ _ (by kernel_rfl)

def a75 : AFunc := ⟨46,
  .scope (.seq (.region [⟨some 4, .mov (.c (.int Go.IntKind.i64 1)), none⟩])
   (.seq (.label)
    (.seq (.region [⟨some 5, .mov (.c (.int Go.IntKind.i64 0)), none⟩])
     (.block 0 (.loop xLZ xTw))))),
  []⟩

def a76 : AFunc := ⟨43,
  .seq (.region [⟨some 11, .mov (.c (.int Go.IntKind.i64 0)), none⟩])
  (.seq (.region [⟨some 15, .load false 1 (.t 3), none⟩,
      ⟨some 16, .mov (.t 0), none⟩,
      ⟨some 17, .mov (.t 1), none⟩,
      ⟨some 18, .mov (.t 2), none⟩,
      ⟨some 19, .icall (.t 15) [(.t 16), (.t 17), (.t 18)], none⟩,
      ⟨some 12, .mov (.t 19), none⟩])
   (.seq (.seq (.region [⟨some 21, .load false 1 (.t 4), none⟩,
        ⟨some 22, .mov (.t 12), none⟩,
        ⟨some 23, .mlook [0] true (.int Go.IntKind.i64 0) (.t 21) (.t 22), none⟩,
        ⟨some 20, .mov (.t 23), none⟩,
        ⟨some 24, .ext 0 (.t 20), none⟩,
        ⟨some 25, .ext 1 (.t 20), none⟩,
        ⟨some 13, .mov (.t 24), none⟩,
        ⟨some 14, .mov (.t 25), none⟩])
     (.seq (.region [⟨some 26, .mov (.t 14), none⟩,
         ⟨some 27, .un .not (.t 26), none⟩])
      (.cond (.t 27)
       (.seq (.region [⟨some 28, .load false 1 (.t 4), none⟩,
           ⟨some 29, .mov (.t 12), none⟩,
           ⟨some 30, .load false 1 (.t 5), none⟩,
           ⟨some 31, .len (.t 30), none⟩,
           ⟨none, .mupd [0] (.t 28) (.t 29) (.t 31), none⟩])
        (.region [⟨some 32, .load false 1 (.t 5), none⟩,
           ⟨some 33, .mov (.t 12), none⟩,
           ⟨some 34, .bslice true [.int Go.IntKind.u64 0] 1 1 [(0, (.t 33))], none⟩,
           ⟨some 35, .append false 1 8 (.t 32) (.t 34), none⟩,
           ⟨none, .store 1 (.t 5) (.t 35), none⟩]))
       (.skip))))
    (.seq (.seq (.region [⟨some 36, .load false 1 (.t 5), none⟩,
         ⟨some 37, .len (.t 36), none⟩,
         ⟨some 38, .load false 1 (.t 6), none⟩,
         ⟨some 39, .bin .gtr (.t 37) (.t 38), none⟩,
         ⟨none, .store 1 (.t 7) (.t 39), none⟩])
      (.seq (.region [⟨some 40, .load false 1 (.t 7), none⟩])
       (.cond (.t 40)
        (.seq (.region [⟨some 11, .mov (.c (.int Go.IntKind.i64 (-1))), none⟩])
         (.ret))
        (.skip))))
     (.seq (.region [⟨some 41, .load false 1 (.t 5), none⟩,
         ⟨some 42, .len (.t 41), none⟩,
         ⟨some 11, .mov (.t 42), none⟩])
      (.ret))))),
  [.tmp 11]⟩

def xL2 : ACode :=
  .seq (.region [⟨some 5, .bin .lss (.t 4) (.c (.int Go.IntKind.i64 64)), none⟩])
  (.seq (.cond (.t 5)
    (.skip)
    (.exit 0))
   (.seq (.block 1 (.seq (.region [⟨some 6, .mov (.t 4), none⟩,
         ⟨some 3, .mov (.t 6), none⟩])
      (.seq (.region [⟨some 7, .mov (.t 0), none⟩,
          ⟨some 8, .mov (.t 3), none⟩,
          ⟨some 9, .bin .shr (.t 7) (.t 8), none⟩,
          ⟨some 10, .bin .and (.t 9) (.c (.int Go.IntKind.u64 1)), none⟩,
          ⟨some 11, .bin .neq (.t 10) (.c (.int Go.IntKind.u64 0)), none⟩])
       (.cond (.t 11)
        (.region [⟨some 12, .mov (.t 2), none⟩,
           ⟨some 13, .mov (.t 3), none⟩,
           ⟨some 14, .bslice true [.int Go.IntKind.i64 0] 1 1 [(0, (.t 13))], none⟩,
           ⟨some 15, .append false 1 8 (.t 12) (.t 14), none⟩,
           ⟨some 2, .mov (.t 15), none⟩])
        (.skip)))))
    (.region [⟨some 16, .bin .add (.t 4) (.c (.int Go.IntKind.i64 1)), none⟩,
       ⟨some 4, .mov (.t 16), none⟩])))

def xTx : ACode := xL2
def xL3 : List Nat := [1, 3, 5, 6, 7, 8, 9, 10, 11, 12, 13, 14, 15, 16, 17]
abbrev xL4 (s0 s2 s4 : AV) : List AV := [s0, .any, s2, .any, s4, .any, .any, .any, .any, .any, .any, .any, .any, .any, .any, .any, .any, .any]
theorem xOM (s0 s1 s2 s3 s4 s5 s6 s7 s8 s9 s10 s11 s12 s13 s14 s15 s16 s17 : AV) : xBA xL3 [s0, s1, s2, s3, s4, s5, s6, s7, s8, s9, s10, s11, s12, s13, s14, s15, s16, s17] = xL4 s0 s2 s4 := by kernel_rfl
theorem xQY {prog : Nat → Option AFunc} (s0 s2 s4 : AV) (H : xAu) : (lim prog).loop xL3 xTx ⟨xL4 s0 s2 s4, H⟩ = xCo (lim prog) xL3 xTx (run (lim prog) xL2 ⟨xL4 s0 s2 s4, H⟩) := xAT _ _ _ _ (by kernel_rfl)

def a77 : AFunc := ⟨18,
  .seq (.region [⟨some 2, .mov (.c (.sl true 0 [])), none⟩])
  (.seq (.seq (.region [⟨some 4, .mov (.c (.int Go.IntKind.i64 0)), none⟩])
    (.block 0 (.loop xL3 xTx)))
   (.seq (.region [⟨some 17, .mov (.t 2), none⟩,
       ⟨some 2, .mov (.t 17), none⟩])
    (.ret))),
  [.tmp 2]⟩

def a78 : AFunc := ⟨16,
  .seq (.region [⟨some 8, .mov (.c (.int Go.IntKind.i64 0)), none⟩])
  (.seq (.draw 6 [⟨some 9, .load false 1 (.t 3), none⟩,
      ⟨some 10, .load false 1 (.t 4), none⟩,
      ⟨some 11, .mov (.t 0), none⟩,
      ⟨some 12, .mov (.t 1), none⟩,
      ⟨some 13, .mov (.t 2), none⟩,
      ⟨some 14, .fcall (.t 10) [(.t 11), (.t 12), (.t 13)], none⟩,
      ⟨some 15, .mlook [0] false (.int Go.IntKind.i64 0) (.t 9) (.t 14), none⟩,
      ⟨some 8, .mov (.t 15), none⟩])
   (.ret)),
  [.tmp 8]⟩

def a79 : AFunc := ⟨9,
  .seq (.region [⟨some 3, .box (.t 0), none⟩,
     ⟨some 4, .mov (.c (.bool false)), none⟩])
  (.seq (.region [⟨some 5, .faddr 3 (.t 1), none⟩,
      ⟨some 6, .load false 1 (.t 5), none⟩,
      ⟨some 7, .mkfunc 81 [(.t 2), (.t 3)], none⟩,
      ⟨some 8, .icall (.c (.func 80 [])) [(.t 6), (.t 7)], none⟩,
      ⟨some 4, .mov (.t 8), none⟩])
   (.ret)),
  [.tmp 4]⟩

def a80 : AFunc := ⟨9,
  .seq (.region [⟨some 4, .mov (.c (.bool false)), none⟩])
  (.seq (.region [⟨some 5, .mov (.t 0), none⟩,
      ⟨some 6, .mov (.t 1), none⟩,
      ⟨some 7, .icall (.c (.func 109 [])) [(.t 5), (.t 6)], none⟩,
      ⟨some 8, .bin .geq (.t 7) (.c (.int Go.IntKind.i64 0)), none⟩,
      ⟨some 4, .mov (.t 8), none⟩])
   (.ret)),
  [.tmp 4]⟩

def a81 : AFunc := ⟨13,
  .seq (.region [⟨some 4, .mov (.c (.bool false)), none⟩])
  (.seq (.region [⟨some 5, .load false 1 (.t 1), none⟩,
      ⟨some 6, .load false 1 (.t 2), none⟩,
      ⟨some 7, .iaddr 1 (.t 5) (.t 6), none⟩,
      ⟨some 8, .load false 1 (.t 7), none⟩,
      ⟨some 9, .mov (.t 0), none⟩,
      ⟨some 10, .bin .shr (.t 8) (.t 9), none⟩,
      ⟨some 11, .bin .and (.t 10) (.c (.int Go.IntKind.u64 1)), none⟩,
      ⟨some 12, .bin .neq (.t 11) (.c (.int Go.IntKind.u64 0)), none⟩,
      ⟨some 4, .mov (.t 12), none⟩])
   (.ret)),
  [.tmp 4]⟩

def a86 : AFunc := ⟨15,
  .seq (.region [⟨some 2, .box (.t 0), none⟩,
     ⟨some 4, .mov (.c (.int Go.IntKind.i64 0)), none⟩])
  (.seq (.seq (.region [⟨some 6, .load true 5 (.t 2), none⟩,
       ⟨some 7, .call 45 [(.t 6)], none⟩,
       ⟨some 5, .mov (.t 7), none⟩])
    (.seq (.region [⟨some 8, .mov (.t 5), none⟩,
        ⟨some 9, .bin .neq (.t 8) (.c (.int Go.IntKind.i64 0)), none⟩])
     (.cond (.t 9)
      (.seq (.region [⟨some 10, .mov (.t 5), none⟩,
          ⟨some 4, .mov (.t 10), none⟩])
       (.ret))
      (.skip))))
   (.seq (.region [⟨some 11, .mov (.t 1), none⟩,
       ⟨some 12, .faddr 0 (.t 2), none⟩,
       ⟨some 13, .load false 1 (.t 12), none⟩,
       ⟨some 14, .call 99 [(.t 11), (.t 13)], none⟩,
       ⟨some 4, .mov (.t 14), none⟩])
    (.ret))),
  [.tmp 4]⟩

def xIb : ACode :=
  .seq (.region [⟨some 41, .bin .lss (.t 40) (.t 39), none⟩])
  (.seq (.cond (.t 41)
    (.skip)
    (.exit 2))
   (.seq (.block 3 (.seq (.region [⟨some 42, .iaddr 5 (.t 38) (.t 40), none⟩,
         ⟨some 43, .load true 5 (.t 42), none⟩,
         ⟨some 14, .box (.c (.agg [.int Go.IntKind.i64 0, .int Go.IntKind.i64 0, .int Go.IntKind.i64 0, .int Go.IntKind.u8 0, .int Go.IntKind.u8 0])), none⟩,
         ⟨none, .store 5 (.t 14) (.t 43), none⟩])
      (.seq (.region [⟨some 44, .mov (.t 10), none⟩,
          ⟨some 45, .faddr 0 (.t 14), none⟩,
          ⟨some 46, .load false 1 (.t 45), none⟩,
          ⟨some 47, .bin .shr (.t 44) (.t 46), none⟩,
          ⟨some 48, .bin .and (.t 47) (.c (.int Go.IntKind.u64 1)), none⟩,
          ⟨some 49, .bin .neq (.t 48) (.c (.int Go.IntKind.u64 0)), none⟩,
          ⟨some 50, .mov (.t 49), none⟩,
          ⟨some 51, .mov (.t 11), some (50, true)⟩,
          ⟨some 52, .faddr 1 (.t 14), some (50, true)⟩,
          ⟨some 53, .load false 1 (.t 52), some (50, true)⟩,
          ⟨some 54, .bin .shr (.t 51) (.t 53), some (50, true)⟩,
          ⟨some 55, .bin .and (.t 54) (.c (.int Go.IntKind.u64 1)), some (50, true)⟩,
          ⟨some 56, .bin .neq (.t 55) (.c (.int Go.IntKind.u64 0)), some (50, true)⟩,
          ⟨some 57, .pick (.t 50) (.t 56) (.c (.bool false)), none⟩,
          ⟨some 58, .mov (.t 57), none⟩,
          ⟨some 59, .faddr 3 (.t 14), some (58, true)⟩,
          ⟨some 60, .load false 1 (.t 59), some (58, true)⟩,
          ⟨some 61, .faddr 4 (.t 14), some (58, true)⟩,
          ⟨some 62, .load false 1 (.t 61), some (58, true)⟩,
          ⟨some 63, .build [.int Go.IntKind.u8 0, .int Go.IntKind.u8 0] [(0, 1, (.t 60)), (1, 1, (.t 62))], some (58, true)⟩,
          ⟨some 64, .faddr 0 (.t 9), some (58, true)⟩,
          ⟨some 65, .load false 1 (.t 64), some (58, true)⟩,
          ⟨some 66, .call 113 [(.t 63), (.t 65)], some (58, true)⟩,
          ⟨some 67, .pick (.t 58) (.t 66) (.c (.bool false)), none⟩])
       (.cond (.t 67)
        (.region [⟨some 68, .mov (.t 12), none⟩,
           ⟨some 69, .faddr 2 (.t 14), none⟩,
           ⟨some 70, .load false 1 (.t 69), none⟩,
           ⟨some 71, .bin .shl (.c (.int Go.IntKind.u64 1)) (.t 70), none⟩,
           ⟨some 72, .bin .or (.t 68) (.t 71), none⟩,
           ⟨some 12, .mov (.t 72), none⟩])
        (.skip)))))
    (.region [⟨some 73, .bin .add (.t 40) (.c (.int Go.IntKind.i64 1)), none⟩,
       ⟨some 40, .mov (.t 73), none⟩])))

def xTy : ACode := xIb
def xL5 : List Nat := [0, 3, 4, 13, 14, 15, 16, 17, 18, 19, 20, 21, 22, 23, 24, 25, 26, 27, 28, 29, 30, 31, 32, 33, 34, 35, 36, 37, 41, 42, 43, 44, 45, 46, 47, 48, 49, 50, 51, 52, 53, 54, 55, 56, 57, 58, 59, 60, 61, 62, 63, 64, 65, 66, 67, 68, 69, 70, 71, 72, 73, 74, 75, 76, 77, 78, 79, 80, 81, 82, 83, 84, 85, 86]
abbrev xL6 (s1 s2 s5 s6 s7 s8 s9 s10 s11 s12 s38 s39 s40 : AV) : List AV := [.any, s1, s2, .any, .any, s5, s6, s7, s8, s9, s10, s11, s12, .any, .any, .any, .any, .any, .any, .any, .any, .any, .any, .any, .any, .any, .any, .any, .any, .any, .any, .any, .any, .any, .any, .any, .any, .any, s38, s39, s40, .any, .any, .any, .any, .any, .any, .any, .any, .any, .any, .any, .any, .any, .any, .any, .any, .any, .any, .any, .any, .any, .any, .any, .any, .any, .any, .any, .any, .any, .any, .any, .any, .any, .any, .any, .any, .any, .any, .any, .any, .any, .any, .any, .any, .any, .any]
theorem xGv (s0 s1 s2 s3 s4 s5 s6 s7 s8 s9 s10 s11 s12 s13 s14 s15 s16 s17 s18 s19 s20 s21 s22 s23 s24 s25 s26 s27 s28 s29 s30 s31 s32 s33 s34 s35 s36 s37 s38 s39 s40 s41 s42 s43 s44 s45 s46 s47 s48 s49 s50 s51 s52 s53 s54 s55 s56 s57 s58 s59 s60 s61 s62 s63 s64 s65 s66 s67 s68 s69 s70 s71 s72 s73 s74 s75 s76 s77 s78 s79 s80 s81 s82 s83 s84 s85 s86 : AV) : xBA xL5 [s0, s1, s2, s3, s4, s5, s6, s7, s8, s9, s10, s11, s12, s13, s14, s15, s16, s17, s18, s19, s20, s21, s22, s23, s24, s25, s26, s27, s28, s29, s30, s31, s32, s33, s34, s35, s36, s37, s38, s39, s40, s41, s42, s43, s44, s45, s46, s47, s48, s49, s50, s51, s52, s53, s54, s55, s56, s57, s58, s59, s60, s61, s62, s63, s64, s65, s66, s67, s68, s69, s70, s71, s72, s73, s74, s75, s76, s77, s78, s79, s80, s81, s82, s83, s84, s85, s86] = xL6 s1 s2 s5 s6 s7 s8 s9 s10 s11 s12 s38 s39 s40 := by kernel_rfl
theorem xL7 {prog : Nat → Option AFunc} (s1 s2 s5 s6 s7 s8 s9 s10 s11 s12 s38 s39 s40 : AV) (H : xAu) : (lim prog).loop xL5 xTy ⟨xL6 s1 s2 s5 s6 s7 s8 s9 s10 s11 s12 s38 s39 s40, H⟩ = xCo (lim prog) xL5 xTy (run (lim prog) xIb ⟨xL6 s1 s2 s5 s6 s7 s8 s9 s10 s11 s12 s38 s39 s40, H⟩) := xAT _ _ _ _ (by kernel_rfl)

def xIc : ACode :=
  .seq (.seq (.region [⟨some 21, .mov (.t 7), none⟩,
      ⟨some 22, .bin .gtr (.t 21) (.c (.int Go.IntKind.i64 0)), none⟩])
   (.cond (.t 22)
    (.skip)
    (.exit 0)))
  (.block 1 (.seq (.region [⟨some 23, .mov (.t 7), none⟩,
       ⟨some 24, .bin .sub (.t 23) (.c (.int Go.IntKind.i64 1)), none⟩,
       ⟨some 7, .mov (.t 24), none⟩])
    (.seq (.region [⟨some 25, .mov (.t 1), none⟩,
        ⟨some 26, .mov (.t 7), none⟩,
        ⟨some 27, .iaddr 3 (.t 25) (.t 26), none⟩,
        ⟨some 28, .load true 3 (.t 27), none⟩,
        ⟨some 9, .box (.c (.agg [.int Go.IntKind.u8 0, .int Go.IntKind.i64 0, .int Go.IntKind.i64 0])), none⟩,
        ⟨none, .store 3 (.t 9) (.t 28), none⟩])
     (.seq (.region [⟨some 29, .mov (.t 8), none⟩,
         ⟨some 30, .faddr 1 (.t 9), none⟩,
         ⟨some 31, .load false 1 (.t 30), none⟩,
         ⟨some 32, .icall (.t 29) [(.t 31)], none⟩,
         ⟨some 10, .mov (.t 32), none⟩])
      (.seq (.region [⟨some 33, .mov (.t 8), none⟩,
          ⟨some 34, .faddr 2 (.t 9), none⟩,
          ⟨some 35, .load false 1 (.t 34), none⟩,
          ⟨some 36, .icall (.t 33) [(.t 35)], none⟩,
          ⟨some 11, .mov (.t 36), none⟩])
       (.seq (.region [⟨some 12, .mov (.c (.int Go.IntKind.u64 0)), none⟩])
        (.seq (.seq (.region [⟨some 37, .faddr 4 (.t 2), none⟩,
             ⟨some 38, .load false 1 (.t 37), none⟩,
             ⟨some 39, .len (.t 38), none⟩,
             ⟨some 40, .mov (.c (.int Go.IntKind.i64 0)), none⟩])
          (.block 2 (.loop xL5 xTy)))
         (.seq (.region [⟨some 74, .load false 1 (.t 6), none⟩,
             ⟨some 75, .mov (.t 12), none⟩,
             ⟨some 76, .bslice true [.int Go.IntKind.u64 0] 1 1 [(0, (.t 75))], none⟩,
             ⟨some 77, .append false 1 8 (.t 74) (.t 76), none⟩,
             ⟨none, .store 1 (.t 6) (.t 77), none⟩])
          (.seq (.region [⟨some 78, .mov (.t 7), none⟩,
              ⟨some 79, .bin .eql (.t 78) (.c (.int Go.IntKind.i64 0)), none⟩])
           (.cond (.t 79)
            (.exit 0)
            (.skip)))))))))))

def xTz : ACode := xIc
def xL8 : List Nat := [0, 3, 4, 9, 10, 11, 12, 13, 14, 15, 16, 17, 18, 19, 20, 21, 22, 23, 24, 25, 26, 27, 28, 29, 30, 31, 32, 33, 34, 35, 36, 37, 38, 39, 40, 41, 42, 43, 44, 45, 46, 47, 48, 49, 50, 51, 52, 53, 54, 55, 56, 57, 58, 59, 60, 61, 62, 63, 64, 65, 66, 67, 68, 69, 70, 71, 72, 73, 74, 75, 76, 77, 78, 79, 80, 81, 82, 83, 84, 85, 86]
abbrev xJI (s1 s2 s5 s6 s7 s8 : AV) : List AV := [.any, s1, s2, .any, .any, s5, s6, s7, s8, .any, .any, .any, .any, .any, .any, .any, .any, .any, .any, .any, .any, .any, .any, .any, .any, .any, .any, .any, .any, .any, .any, .any, .any, .any, .any, .any, .any, .any, .any, .any, .any, .any, .any, .any, .any, .any, .any, .any, .any, .any, .any, .any, .any, .any, .any, .any, .any, .any, .any, .any, .any, .any, .any, .any, .any, .any, .any, .any, .any, .any, .any, .any, .any, .any, .any, .any, .any, .any, .any, .any, .any, .any, .any, .any, .any, .any, .any]
theorem xId (s0 s1 s2 s3 s4 s5 s6 s7 s8 s9 s10 s11 s12 s13 s14 s15 s16 s17 s18 s19 s20 s21 s22 s23 s24 s25 s26 s27 s28 s29 s30 s31 s32 s33 s34 s35 s36 s37 s38 s39 s40 s41 s42 s43 s44 s45 s46 s47 s48 s49 s50 s51 s52 s53 s54 s55 s56 s57 s58 s59 s60 s61 s62 s63 s64 s65 s66 s67 s68 s69 s70 s71 s72 s73 s74 s75 s76 s77 s78 s79 s80 s81 s82 s83 s84 s85 s86 : AV) : xBA xL8 [s0, s1, s2, s3, s4, s5, s6, s7, s8, s9, s10, s11, s12, s13, s14, s15, s16, s17, s18, s19, s20, s21, s22, s23, s24, s25, s26, s27, s28, s29, s30, s31, s32, s33, s34, s35, s36, s37, s38, s39, s40, s41, s42, s43, s44, s45, s46, s47, s48, s49, s50, s51, s52, s53, s54, s55, s56, s57, s58, s59, s60, s61, s62, s63, s64, s65, s66, s67, s68, s69, s70, s71, s72, s73, s74, s75, s76, s77, s78, s79, s80, s81, s82, s83, s84, s85, s86] = xJI s1 s2 s5 s6 s7 s8 := by kernel_rfl
theorem xVt {prog : Nat → Option AFunc} (s1 s2 s5 s6 s7 s8 : AV) (H : xAu) : (lim prog).loop xL8 xTz ⟨xJI s1 s2 s5 s6 s7 s8, H⟩ = xCo (lim prog) xL8 xTz (run (lim prog) xIc ⟨xJI s1 s2 s5 s6 s7 s8, H⟩) := xAT _ _ _ _ (by kernel_rfl)

def a87 : AFunc := ⟨87,
  .seq (.region [⟨some 2, .box (.t 0), none⟩,
     ⟨some 4, .mov (.c (.int Go.IntKind.u64 0)), none⟩])
  (.scope (.seq (.region [⟨some 15, .faddr 2 (.t 2), none⟩,
       ⟨some 16, .load false 1 (.t 15), none⟩,
       ⟨some 17, .call 88 [(.t 16)], none⟩,
       ⟨some 5, .box (.c (.int Go.IntKind.u64 0)), none⟩,
       ⟨none, .store 1 (.t 5) (.t 17), none⟩])
    (.seq (.region [⟨some 6, .box (.c (.sl true 0 [])), none⟩])
     (.seq (.region [⟨some 18, .mov (.t 1), none⟩,
         ⟨some 19, .len (.t 18), none⟩,
         ⟨some 7, .mov (.t 19), none⟩])
      (.seq (.region [⟨some 20, .mkfunc 112 [(.t 5), (.t 6)], none⟩,
          ⟨some 8, .mov (.t 20), none⟩])
       (.seq (.label)
        (.seq (.block 0 (.loop xL8 xTz))
         (.seq (.seq (.region [⟨some 80, .mov (.t 1), none⟩,
              ⟨some 81, .len (.t 80), none⟩,
              ⟨some 82, .bin .eql (.t 81) (.c (.int Go.IntKind.i64 0)), none⟩])
           (.cond (.t 82)
            (.seq (.region [⟨some 83, .load false 1 (.t 5), none⟩,
                ⟨some 4, .mov (.t 83), none⟩])
             (.ret))
            (.skip)))
          (.seq (.region [⟨some 84, .load false 1 (.t 6), none⟩,
              ⟨some 85, .iaddr 1 (.t 84) (.c (.int Go.IntKind.i64 0)), none⟩,
              ⟨some 86, .load false 1 (.t 85), none⟩,
              ⟨some 4, .mov (.t 86), none⟩])
           (.ret)))))))))),
  [.tmp 4]⟩

def xON : ACode :=
  .seq (.region [⟨some 8, .bin .lss (.t 7) (.t 6), none⟩])
  (.seq (.cond (.t 8)
    (.skip)
    (.exit 0))
   (.seq (.block 1 (.seq (.region [⟨some 9, .iaddr 1 (.t 5) (.t 7), none⟩,
         ⟨some 10, .load false 1 (.t 9), none⟩,
         ⟨some 4, .mov (.t 10), none⟩])
      (.region [⟨some 11, .mov (.t 2), none⟩,
         ⟨some 12, .mov (.t 4), none⟩,
         ⟨some 13, .bin .shl (.c (.int Go.IntKind.u64 1)) (.t 12), none⟩,
         ⟨some 14, .bin .or (.t 11) (.t 13), none⟩,
         ⟨some 2, .mov (.t 14), none⟩])))
    (.region [⟨some 15, .bin .add (.t 7) (.c (.int Go.IntKind.i64 1)), none⟩,
       ⟨some 7, .mov (.t 15), none⟩])))

def xTA : ACode := xON
def xL9 : List Nat := [0, 1, 3, 4, 8, 9, 10, 11, 12, 13, 14, 15, 16]
abbrev xMa (s2 s5 s6 s7 : AV) : List AV := [.any, .any, s2, .any, .any, s5, s6, s7, .any, .any, .any, .any, .any, .any, .any, .any, .any]
theorem xQZ (s0 s1 s2 s3 s4 s5 s6 s7 s8 s9 s10 s11 s12 s13 s14 s15 s16 : AV) : xBA xL9 [s0, s1, s2, s3, s4, s5, s6, s7, s8, s9, s10, s11, s12, s13, s14, s15, s16] = xMa s2 s5 s6 s7 := by kernel_rfl
theorem xVu {prog : Nat → Option AFunc} (s2 s5 s6 s7 : AV) (H : xAu) : (lim prog).loop xL9 xTA ⟨xMa s2 s5 s6 s7, H⟩ = xCo (lim prog) xL9 xTA (run (lim prog) xON ⟨xMa s2 s5 s6 s7, H⟩) := xAT _ _ _ _ (by kernel_rfl)

def a88 : AFunc := ⟨17,
  .seq (.region [⟨some 2, .mov (.c (.int Go.IntKind.u64 0)), none⟩])
  (.seq (.seq (.region [⟨some 5, .mov (.t 0), none⟩,
       ⟨some 6, .len (.t 5), none⟩,
       ⟨some 7, .mov (.c (.int Go.IntKind.i64 0)), none⟩])
    (.block 0 (.loop xL9 xTA)))
   (.seq (.region [⟨some 16, .mov (.t 2), none⟩,
       ⟨some 2, .mov (.t 16), none⟩])
    (.ret))),
  [.tmp 2]⟩

def xIe : ACode :=
  .seq (.region [⟨some 11, .bin .lss (.t 10) (.t 9), none⟩])
  (.seq (.cond (.t 11)
    (.skip)
    (.exit 0))
   (.seq (.block 1 (.seq (.region [⟨some 12, .iaddr 1 (.t 8) (.t 10), none⟩,
         ⟨some 13, .load false 1 (.t 12), none⟩,
         ⟨some 7, .mov (.t 13), none⟩])
      (.seq (.seq (.region [⟨some 14, .mov (.t 7), none⟩,
           ⟨some 15, .mov (.t 5), none⟩,
           ⟨some 16, .bin .leq (.t 14) (.t 15), none⟩,
           ⟨some 17, .mov (.t 16), none⟩,
           ⟨some 18, .mov (.t 7), some (17, false)⟩,
           ⟨some 19, .mov (.t 1), some (17, false)⟩,
           ⟨some 20, .bin .geq (.t 18) (.t 19), some (17, false)⟩,
           ⟨some 21, .pick (.t 17) (.c (.bool true)) (.t 20), none⟩])
        (.cond (.t 21)
         (.seq (.region [⟨some 4, .mov (.c (.int Go.IntKind.i64 8)), none⟩])
          (.ret))
         (.skip)))
       (.region [⟨some 22, .mov (.t 7), none⟩,
          ⟨some 5, .mov (.t 22), none⟩]))))
    (.region [⟨some 23, .bin .add (.t 10) (.c (.int Go.IntKind.i64 1)), none⟩,
       ⟨some 10, .mov (.t 23), none⟩])))

def xTB : ACode := xIe
def xMb : List Nat := [0, 2, 3, 6, 7, 11, 12, 13, 14, 15, 16, 17, 18, 19, 20, 21, 22, 23]
abbrev xJJ (s1 s4 s5 s8 s9 s10 : AV) : List AV := [.any, s1, .any, .any, s4, s5, .any, .any, s8, s9, s10, .any, .any, .any, .any, .any, .any, .any, .any, .any, .any, .any, .any, .any]
theorem xIf (s0 s1 s2 s3 s4 s5 s6 s7 s8 s9 s10 s11 s12 s13 s14 s15 s16 s17 s18 s19 s20 s21 s22 s23 : AV) : xBA xMb [s0, s1, s2, s3, s4, s5, s6, s7, s8, s9, s10, s11, s12, s13, s14, s15, s16, s17, s18, s19, s20, s21, s22, s23] = xJJ s1 s4 s5 s8 s9 s10 := by kernel_rfl
theorem xOO {prog : Nat → Option AFunc} (s1 s4 s5 s8 s9 s10 : AV) (H : xAu) : (lim prog).loop xMb xTB ⟨xJJ s1 s4 s5 s8 s9 s10, H⟩ = xCo (lim prog) xMb xTB (run (lim prog) xIe ⟨xJJ s1 s4 s5 s8 s9 s10, H⟩) := xAT _ _ _ _ (by kernel_rfl)

def a89 : AFunc := ⟨24,
  .seq (.region [⟨some 4, .mov (.c (.int Go.IntKind.i64 0)), none⟩])
  (.seq (.region [⟨some 5, .mov (.c (.int Go.IntKind.i64 (-1))), none⟩])
   (.seq (.seq (.region [⟨some 8, .mov (.t 0), none⟩,
        ⟨some 9, .len (.t 8), none⟩,
        ⟨some 10, .mov (.c (.int Go.IntKind.i64 0)), none⟩])
     (.block 0 (.loop xMb xTB)))
    (.seq (.region [⟨some 4, .mov (.c (.int Go.IntKind.i64 0)), none⟩])
     (.ret)))),
  [.tmp 4]⟩

def a90 : AFunc := ⟨28,
  .seq (.region [⟨some 2, .box (.t 0), none⟩,
     ⟨some 4, .mov (.c (.int Go.IntKind.i64 0)), none⟩])
  (.seq (.block 0 (.seq (.seq (.region [⟨some 6, .mov (.t 1), none⟩,
         ⟨some 7, .bin .lss (.t 6) (.c (.int Go.IntKind.i64 0)), none⟩,
         ⟨some 8, .mov (.t 7), none⟩,
         ⟨some 9, .mov (.t 1), some (8, false)⟩,
         ⟨some 10, .bin .gtr (.t 9) (.c (.int Go.IntKind.i64 6)), some (8, false)⟩,
         ⟨some 11, .pick (.t 8) (.c (.bool true)) (.t 10), none⟩,
         ⟨some 5, .mov (.t 11), none⟩])
      (.cond (.t 5)
       (.skip)
       (.draw 6 [⟨some 12, .faddr 0 (.t 2), none⟩,
          ⟨some 13, .load false 1 (.t 12), none⟩,
          ⟨some 14, .faddr 1 (.t 2), none⟩,
          ⟨some 15, .load false 1 (.t 14), none⟩,
          ⟨some 16, .bin .or (.t 13) (.t 15), none⟩,
          ⟨some 17, .conv Go.IntKind.i64 (.t 16), none⟩,
          ⟨some 18, .mov (.t 1), none⟩,
          ⟨some 19, .bin .shl (.c (.int Go.IntKind.i64 1)) (.t 18), none⟩,
          ⟨some 20, .bin .geq (.t 17) (.t 19), none⟩,
          ⟨some 5, .mov (.t 20), none⟩])))
     (.cond (.t 5)
      (.seq (.region [⟨some 4, .mov (.c (.int Go.IntKind.i64 7)), none⟩])
       (.ret))
      (.seq (.region [⟨some 22, .faddr 0 (.t 2), none⟩,
          ⟨some 23, .load false 1 (.t 22), none⟩,
          ⟨some 24, .faddr 1 (.t 2), none⟩,
          ⟨some 25, .load false 1 (.t 24), none⟩,
          ⟨some 26, .bin .and (.t 23) (.t 25), none⟩,
          ⟨some 27, .bin .neq (.t 26) (.c (.int Go.IntKind.u8 0)), none⟩,
          ⟨some 21, .mov (.t 27), none⟩])
       (.cond (.t 21)
        (.seq (.region [⟨some 4, .mov (.c (.int Go.IntKind.i64 2)), none⟩])
         (.ret))
        (.skip))))))
   (.seq (.region [⟨some 4, .mov (.c (.int Go.IntKind.i64 0)), none⟩])
    (.ret))),
  [.tmp 4]⟩

def a91 : AFunc := ⟨18,
  .seq (.region [⟨some 2, .mov (.c (.bool false)), none⟩])
  (.seq (.region [⟨some 3, .mov (.t 0), none⟩,
      ⟨some 4, .len (.t 3), none⟩,
      ⟨some 5, .bin .eql (.t 4) (.c (.int Go.IntKind.i64 0)), none⟩,
      ⟨some 6, .mov (.t 5), none⟩,
      ⟨some 7, .mov (.t 0), some (6, false)⟩,
      ⟨some 8, .len (.t 7), some (6, false)⟩,
      ⟨some 9, .bin .leq (.t 8) (.c (.int Go.IntKind.i64 31)), some (6, false)⟩,
      ⟨some 10, .mov (.t 9), some (6, false)⟩,
      ⟨some 11, .mov (.t 0), some (10, true)⟩,
      ⟨some 12, .call 114 [(.t 11), (.c (.int Go.IntKind.i64 0))], some (10, true)⟩,
      ⟨some 13, .mov (.t 0), some (10, true)⟩,
      ⟨some 14, .len (.t 13), some (10, true)⟩,
      ⟨some 15, .bin .eql (.t 12) (.t 14), some (10, true)⟩,
      ⟨some 16, .pick (.t 10) (.t 15) (.c (.bool false)), some (6, false)⟩,
      ⟨some 17, .pick (.t 6) (.c (.bool true)) (.t 16), none⟩,
      ⟨some 2, .mov (.t 17), none⟩])
   (.ret)),
  [.tmp 2]⟩

def xJK : ACode :=
  .seq (.region [⟨some 21, .bin .lss (.t 20) (.t 19), none⟩])
  (.seq (.cond (.t 21)
    (.skip)
    (.exit 1))
   (.seq (.block 2 (.seq (.region [⟨some 22, .iaddr 3 (.t 18) (.t 20), none⟩,
         ⟨some 23, .load true 3 (.t 22), none⟩,
         ⟨some 6, .box (.c (.agg [.int Go.IntKind.u8 0, .int Go.IntKind.i64 0, .int Go.IntKind.i64 0])), none⟩,
         ⟨none, .store 3 (.t 6) (.t 23), none⟩])
      (.seq (.region [⟨some 24, .faddr 0 (.t 6), none⟩,
          ⟨some 25, .load false 1 (.t 24), none⟩,
          ⟨some 26, .conv Go.IntKind.i64 (.t 25), none⟩,
          ⟨some 27, .mov (.t 1), none⟩,
          ⟨some 28, .bin .shr (.t 26) (.t 27), none⟩,
          ⟨some 29, .bin .neq (.t 28) (.c (.int Go.IntKind.i64 0)), none⟩])
       (.cond (.t 29)
        (.seq (.region [⟨some 4, .mov (.c (.int Go.IntKind.i64 1)), none⟩])
         (.ret))
        (.skip)))))
    (.region [⟨some 30, .bin .add (.t 20) (.c (.int Go.IntKind.i64 1)), none⟩,
       ⟨some 20, .mov (.t 30), none⟩])))

def xQ0 : ACode := xJK
def xJL : List Nat := [2, 3, 5, 6, 7, 8, 9, 10, 11, 12, 13, 14, 15, 16, 17, 21, 22, 23, 24, 25, 26, 27, 28, 29, 30, 31, 32, 33]
abbrev xIg (s0 s1 s4 s18 s19 s20 : AV) : List AV := [s0, s1, .any, .any, s4, .any, .any, .any, .any, .any, .any, .any, .any, .any, .any, .any, .any, .any, s18, s19, s20, .any, .any, .any, .any, .any, .any, .any, .any, .any, .any, .any, .any, .any]
theorem xIh (s0 s1 s2 s3 s4 s5 s6 s7 s8 s9 s10 s11 s12 s13 s14 s15 s16 s17 s18 s19 s20 s21 s22 s23 s24 s25 s26 s27 s28 s29 s30 s31 s32 s33 : AV) : xBA xJL [s0, s1, s2, s3, s4, s5, s6, s7, s8, s9, s10, s11, s12, s13, s14, s15, s16, s17, s18, s19, s20, s21, s22, s23, s24, s25, s26, s27, s28, s29, s30, s31, s32, s33] = xIg s0 s1 s4 s18 s19 s20 := by kernel_rfl
theorem xOP {prog : Nat → Option AFunc} (s0 s1 s4 s18 s19 s20 : AV) (H : xAu) : (lim prog).loop xJL xQ0 ⟨xIg s0 s1 s4 s18 s19 s20, H⟩ = xCo (lim prog) xJL xQ0 (run (lim prog) xJK ⟨xIg s0 s1 s4 s18 s19 s20, H⟩) := xAT _ _ _ _ (by kernel_rfl)

def a99 : AFunc := ⟨34,
  .seq (.region [⟨some 4, .mov (.c (.int Go.IntKind.i64 0)), none⟩])
  (.seq (.block 0 (.seq (.region [⟨some 8, .mov (.t 1), none⟩,
        ⟨some 9, .bin .lss (.t 8) (.c (.int Go.IntKind.i64 0)), none⟩,
        ⟨some 10, .mov (.t 9), none⟩,
        ⟨some 11, .mov (.t 1), some (10, false)⟩,
        ⟨some 12, .bin .gtr (.t 11) (.c (.int Go.IntKind.i64 3)), some (10, false)⟩,
        ⟨some 13, .pick (.t 10) (.c (.bool true)) (.t 12), none⟩,
        ⟨some 7, .mov (.t 13), none⟩])
     (.cond (.t 7)
      (.seq (.region [⟨some 4, .mov (.c (.int Go.IntKind.i64 7)), none⟩])
       (.ret))
      (.seq (.region [⟨some 15, .mov (.t 0), none⟩,
          ⟨some 16, .len (.t 15), none⟩,
          ⟨some 17, .bin .gtr (.t 16) (.c (.int Go.IntKind.i64 31)), none⟩,
          ⟨some 14, .mov (.t 17), none⟩])
       (.cond (.t 14)
        (.seq (.region [⟨some 4, .mov (.c (.int Go.IntKind.i64 4)), none⟩])
         (.ret))
        (.skip))))))
   (.seq (.seq (.region [⟨some 18, .mov (.t 0), none⟩,
        ⟨some 19, .len (.t 18), none⟩,
        ⟨some 20, .mov (.c (.int Go.IntKind.i64 0)), none⟩])
     (.block 1 (.loop xJL xQ0)))
    (.seq (.seq (.region [⟨some 31, .mov (.t 0), none⟩,
         ⟨some 32, .call 91 [(.t 31)], none⟩,
         ⟨some 33, .un .not (.t 32), none⟩])
      (.cond (.t 33)
       (.seq (.region [⟨some 4, .mov (.c (.int Go.IntKind.i64 2)), none⟩])
        (.ret))
       (.skip)))
     (.seq (.region [⟨some 4, .mov (.c (.int Go.IntKind.i64 0)), none⟩])
      (.ret))))),
  [.tmp 4]⟩

def xZe : AFunc := ⟨12,
  .seq (.region [⟨some 4, .mov (.c (.int Go.IntKind.i64 0)), none⟩])
  (.seq (.seq (.region [⟨some 5, .mov (.t 0), none⟩,
       ⟨some 6, .bin .lss (.t 5) (.c (.int Go.IntKind.i64 0)), none⟩])
    (.cond (.t 6)
     (.region [⟨some 7, .load false 1 (.t 1), none⟩,
        ⟨some 0, .mov (.t 7), none⟩])
     (.skip)))
   (.seq (.region [⟨some 8, .load false 1 (.t 2), none⟩,
       ⟨some 9, .mov (.t 0), none⟩,
       ⟨some 10, .iaddr 1 (.t 8) (.t 9), none⟩,
       ⟨some 11, .load false 1 (.t 10), none⟩,
       ⟨some 4, .mov (.t 11), none⟩])
    (.ret))),
  [.tmp 4]⟩

def xZf : AFunc := ⟨48,
  .seq (.region [⟨some 9, .mov (.c (.int Go.IntKind.i64 0)), none⟩])
  (.seq (.draw 14 [⟨some 13, .faddr 2 (.t 3), none⟩,
      ⟨some 14, .load false 1 (.t 13), none⟩,
      ⟨some 15, .load false 1 (.t 4), none⟩,
      ⟨some 16, .mov (.t 0), none⟩,
      ⟨some 17, .iaddr 1 (.t 15) (.t 16), none⟩,
      ⟨some 18, .load false 1 (.t 17), none⟩,
      ⟨some 19, .iaddr 1 (.t 14) (.t 18), none⟩,
      ⟨some 20, .load false 1 (.t 19), none⟩,
      ⟨some 21, .load false 1 (.t 4), none⟩,
      ⟨some 22, .mov (.t 1), none⟩,
      ⟨some 23, .iaddr 1 (.t 21) (.t 22), none⟩,
      ⟨some 24, .load false 1 (.t 23), none⟩,
      ⟨some 25, .iaddr 1 (.t 20) (.t 24), none⟩,
      ⟨some 26, .load false 1 (.t 25), none⟩,
      ⟨some 27, .mov (.t 2), none⟩,
      ⟨some 28, .iaddr 1 (.t 26) (.t 27), none⟩,
      ⟨some 29, .load false 1 (.t 28), none⟩,
      ⟨some 10, .mov (.t 29), none⟩])
   (.seq (.seq (.region [⟨some 31, .load false 1 (.t 5), none⟩,
        ⟨some 32, .mov (.t 10), none⟩,
        ⟨some 33, .mlook [0] true (.int Go.IntKind.i64 0) (.t 31) (.t 32), none⟩,
        ⟨some 30, .mov (.t 33), none⟩,
        ⟨some 34, .ext 0 (.t 30), none⟩,
        ⟨some 35, .ext 1 (.t 30), none⟩,
        ⟨some 11, .mov (.t 34), none⟩,
        ⟨some 12, .mov (.t 35), none⟩])
     (.seq (.region [⟨some 36, .mov (.t 12), none⟩,
         ⟨some 37, .un .not (.t 36), none⟩])
      (.cond (.t 37)
       (.seq (.region [⟨some 38, .load false 1 (.t 5), none⟩,
           ⟨some 39, .mov (.t 10), none⟩,
           ⟨some 40, .load false 1 (.t 4), none⟩,
           ⟨some 41, .len (.t 40), none⟩,
           ⟨none, .mupd [0] (.t 38) (.t 39) (.t 41), none⟩])
        (.region [⟨some 42, .load false 1 (.t 4), none⟩,
           ⟨some 43, .mov (.t 10), none⟩,
           ⟨some 44, .bslice true [.int Go.IntKind.i64 0] 1 1 [(0, (.t 43))], none⟩,
           ⟨some 45, .append false 1 8 (.t 42) (.t 44), none⟩,
           ⟨none, .store 1 (.t 4) (.t 45), none⟩]))
       (.skip))))
    (.seq (.region [⟨some 46, .load false 1 (.t 4), none⟩,
        ⟨some 47, .len (.t 46), none⟩,
        ⟨some 9, .mov (.t 47), none⟩])
     (.ret)))),
  [.tmp 9]⟩

def yBf : AFunc := ⟨29,
  .seq (.region [⟨some 9, .mov (.c (.int Go.IntKind.i64 0)), none⟩])
  (.seq (.draw 15 [⟨some 10, .load false 1 (.t 3), none⟩,
      ⟨some 11, .faddr 2 (.t 4), none⟩,
      ⟨some 12, .load false 1 (.t 11), none⟩,
      ⟨some 13, .load false 1 (.t 5), none⟩,
      ⟨some 14, .mov (.t 0), none⟩,
      ⟨some 15, .iaddr 1 (.t 13) (.t 14), none⟩,
      ⟨some 16, .load false 1 (.t 15), none⟩,
      ⟨some 17, .iaddr 1 (.t 12) (.t 16), none⟩,
      ⟨some 18, .load false 1 (.t 17), none⟩,
      ⟨some 19, .load false 1 (.t 5), none⟩,
      ⟨some 20, .mov (.t 1), none⟩,
      ⟨some 21, .iaddr 1 (.t 19) (.t 20), none⟩,
      ⟨some 22, .load false 1 (.t 21), none⟩,
      ⟨some 23, .iaddr 1 (.t 18) (.t 22), none⟩,
      ⟨some 24, .load false 1 (.t 23), none⟩,
      ⟨some 25, .mov (.t 2), none⟩,
      ⟨some 26, .iaddr 1 (.t 24) (.t 25), none⟩,
      ⟨some 27, .load false 1 (.t 26), none⟩,
      ⟨some 28, .mlook [0] false (.int Go.IntKind.i64 0) (.t 10) (.t 27), none⟩,
      ⟨some 9, .mov (.t 28), none⟩])
   (.ret)),
  [.tmp 9]⟩

def yBg : AFunc := ⟨13,
  .seq (.region [⟨some 4, .mov (.c (.bool false)), none⟩])
  (.seq (.draw 3 [⟨some 5, .faddr 3 (.t 1), none⟩,
      ⟨some 6, .load false 1 (.t 5), none⟩,
      ⟨some 7, .load false 1 (.t 2), none⟩,
      ⟨some 8, .mov (.t 0), none⟩,
      ⟨some 9, .iaddr 1 (.t 7) (.t 8), none⟩,
      ⟨some 10, .load false 1 (.t 9), none⟩,
      ⟨some 11, .iaddr 1 (.t 6) (.t 10), none⟩,
      ⟨some 12, .load false 1 (.t 11), none⟩,
      ⟨some 4, .mov (.t 12), none⟩])
   (.ret)),
  [.tmp 4]⟩

def yCj : AFunc := ⟨5,
  .seq (.region [⟨some 2, .mov (.c (.str ⟨#[]⟩)), none⟩])
  (.seq (.region [⟨some 3, .mov (.t 0), none⟩,
      ⟨some 4, .call 121 [(.t 3)], none⟩,
      ⟨some 2, .mov (.t 4), none⟩])
   (.ret)),
  [.tmp 2]⟩

def yCk : AFunc := ⟨12,
  .draw 2 [⟨some 4, .load false 1 (.t 1), none⟩,
    ⟨some 5, .load false 1 (.t 2), none⟩,
    ⟨some 6, .mov (.t 0), none⟩,
    ⟨some 7, .iaddr 1 (.t 5) (.t 6), none⟩,
    ⟨some 8, .load false 1 (.t 7), none⟩,
    ⟨some 9, .conv Go.IntKind.u8 (.t 8), none⟩,
    ⟨some 10, .bslice true [.int Go.IntKind.u8 0] 1 2 [(0, (.c (.int Go.IntKind.u8 32))), (1, (.t 9))], none⟩,
    ⟨some 11, .append false 1 1 (.t 4) (.t 10), none⟩,
    ⟨none, .store 1 (.t 1) (.t 11), none⟩],
  []⟩

def xIi : ACode :=
  .seq (.region [⟨some 9, .bin .lss (.t 8) (.t 7), none⟩])
  (.seq (.cond (.t 9)
    (.skip)
    (.exit 0))
   (.seq (.block 1 (.seq (.region [⟨some 10, .mov (.t 8), none⟩,
         ⟨some 5, .mov (.t 10), none⟩])
      (.seq (.region [⟨some 11, .mov (.t 1), none⟩,
          ⟨some 12, .mov (.t 0), none⟩,
          ⟨some 13, .mov (.t 5), none⟩,
          ⟨some 14, .iaddr 1 (.t 12) (.t 13), none⟩,
          ⟨some 15, .load false 1 (.t 14), none⟩,
          ⟨some 16, .icall (.t 11) [(.t 15)], none⟩])
       (.cond (.t 16)
        (.seq (.region [⟨some 17, .mov (.t 5), none⟩,
            ⟨some 4, .mov (.t 17), none⟩])
         (.ret))
        (.skip)))))
    (.region [⟨some 18, .bin .add (.t 8) (.c (.int Go.IntKind.i64 1)), none⟩,
       ⟨some 8, .mov (.t 18), none⟩])))

def xOQ : ACode := xIi
def xIj : List Nat := [2, 3, 5, 6, 9, 10, 11, 12, 13, 14, 15, 16, 17, 18]
abbrev xIk (s0 s1 s4 s7 s8 : AV) : List AV := [s0, s1, .any, .any, s4, .any, .any, s7, s8, .any, .any, .any, .any, .any, .any, .any, .any, .any, .any]
theorem xIl (s0 s1 s2 s3 s4 s5 s6 s7 s8 s9 s10 s11 s12 s13 s14 s15 s16 s17 s18 : AV) : xBA xIj [s0, s1, s2, s3, s4, s5, s6, s7, s8, s9, s10, s11, s12, s13, s14, s15, s16, s17, s18] = xIk s0 s1 s4 s7 s8 := by kernel_rfl
theorem xNj {prog : Nat → Option AFunc} (s0 s1 s4 s7 s8 : AV) (H : xAu) : (lim prog).loop xIj xOQ ⟨xIk s0 s1 s4 s7 s8, H⟩ = xCo (lim prog) xIj xOQ (run (lim prog) xIi ⟨xIk s0 s1 s4 s7 s8, H⟩) := xAT _ _ _ _ (by kernel_rfl)

def xZg : AFunc := ⟨19,
  .seq (.region [⟨some 4, .mov (.c (.int Go.IntKind.i64 0)), none⟩])
  (.seq (.seq (.region [⟨some 6, .mov (.t 0), none⟩,
       ⟨some 7, .len (.t 6), none⟩,
       ⟨some 8, .mov (.c (.int Go.IntKind.i64 0)), none⟩])
    (.block 0 (.loop xIj xOQ)))
   (.seq (.region [⟨some 4, .mov (.c (.int Go.IntKind.i64 (-1))), none⟩])
    (.ret))),
  [.tmp 4]⟩

def xZh : AFunc := ⟨21,
  .seq (.region [⟨some 4, .mov (.c (.int Go.IntKind.u64 0)), none⟩])
  (.seq (.seq (.region [⟨some 6, .mov (.t 0), none⟩,
       ⟨some 7, .bin .lss (.t 6) (.c (.int Go.IntKind.i64 0)), none⟩])
    (.cond (.t 7)
     (.seq (.region [⟨some 8, .load false 1 (.t 1), none⟩,
         ⟨some 4, .mov (.t 8), none⟩])
      (.ret))
     (.skip)))
   (.seq (.region [⟨some 9, .load false 1 (.t 2), none⟩,
       ⟨some 10, .load false 1 (.t 2), none⟩,
       ⟨some 11, .len (.t 10), none⟩,
       ⟨some 12, .bin .sub (.t 11) (.c (.int Go.IntKind.i64 1)), none⟩,
       ⟨some 13, .iaddr 1 (.t 9) (.t 12), none⟩,
       ⟨some 14, .load false 1 (.t 13), none⟩,
       ⟨some 5, .mov (.t 14), none⟩])
    (.seq (.region [⟨some 15, .load false 1 (.t 2), none⟩,
        ⟨some 16, .load false 1 (.t 2), none⟩,
        ⟨some 17, .len (.t 16), none⟩,
        ⟨some 18, .bin .sub (.t 17) (.c (.int Go.IntKind.i64 1)), none⟩,
        ⟨some 19, .slice 1 (.t 15) none (some (.t 18)) none, none⟩,
        ⟨none, .store 1 (.t 2) (.t 19), none⟩])
     (.seq (.region [⟨some 20, .mov (.t 5), none⟩,
         ⟨some 4, .mov (.t 20), none⟩])
      (.ret))))),
  [.tmp 4]⟩

def yBh : AFunc := ⟨19,
  .seq (.region [⟨some 2, .box (.t 0), none⟩,
     ⟨some 4, .mov (.c (.bool false)), none⟩])
  (.seq (.region [⟨some 5, .mov (.t 1), none⟩,
      ⟨some 6, .faddr 0 (.t 2), none⟩,
      ⟨some 7, .load false 1 (.t 6), none⟩,
      ⟨some 8, .bin .and (.t 5) (.t 7), none⟩,
      ⟨some 9, .faddr 0 (.t 2), none⟩,
      ⟨some 10, .load false 1 (.t 9), none⟩,
      ⟨some 11, .bin .eql (.t 8) (.t 10), none⟩,
      ⟨some 12, .mov (.t 11), none⟩,
      ⟨some 13, .mov (.t 1), some (12, true)⟩,
      ⟨some 14, .faddr 1 (.t 2), some (12, true)⟩,
      ⟨some 15, .load false 1 (.t 14), some (12, true)⟩,
      ⟨some 16, .bin .and (.t 13) (.t 15), some (12, true)⟩,
      ⟨some 17, .bin .eql (.t 16) (.c (.int Go.IntKind.u8 0)), some (12, true)⟩,
      ⟨some 18, .pick (.t 12) (.t 17) (.c (.bool false)), none⟩,
      ⟨some 4, .mov (.t 18), none⟩])
   (.ret)),
  [.tmp 4]⟩

def xDA : ACode :=
  .seq (.region [⟨some 22, .bin .lss (.t 21) (.c (.int Go.IntKind.i64 2)), none⟩])
  (.seq (.cond (.t 22)
    (.skip)
    (.exit 0))
   (.seq (.block 1 (.seq (.region [⟨some 23, .idx false 1 2 (.t 20) (.t 21), none⟩,
         ⟨some 7, .mov (.t 23), none⟩])
      (.seq (.block 2 (.seq (.region [⟨some 25, .mov (.t 7), none⟩,
            ⟨some 26, .bin .eql (.t 25) (.c (.int Go.IntKind.i64 (-1))), none⟩,
            ⟨some 24, .mov (.t 26), none⟩])
         (.cond (.t 24)
          (.exit 1)
          (.seq (.region [⟨some 28, .mov (.t 7), none⟩,
              ⟨some 29, .mov (.t 5), none⟩,
              ⟨some 30, .bin .neq (.t 28) (.t 29), none⟩,
              ⟨some 31, .mov (.t 30), none⟩,
              ⟨some 32, .mov (.t 5), some (31, false)⟩,
              ⟨some 33, .mov (.t 0), some (31, false)⟩,
              ⟨some 34, .len (.t 33), some (31, false)⟩,
              ⟨some 35, .bin .geq (.t 32) (.t 34), some (31, false)⟩,
              ⟨some 36, .pick (.t 31) (.c (.bool true)) (.t 35), none⟩,
              ⟨some 27, .mov (.t 36), none⟩])
           (.cond (.t 27)
            (.seq (.region [⟨some 4, .mov (.c (.int Go.IntKind.i64 (-1))), none⟩])
             (.ret))
            (.skip))))))
       (.seq (.region [⟨some 37, .mov (.t 0), none⟩,
           ⟨some 38, .mov (.t 5), none⟩,
           ⟨some 39, .call 114 [(.t 37), (.t 38)], none⟩,
           ⟨some 5, .mov (.t 39), none⟩])
        (.seq (.region [⟨some 40, .mov (.t 5), none⟩,
            ⟨some 41, .bin .eql (.t 40) (.c (.int Go.IntKind.i64 (-1))), none⟩])
         (.cond (.t 41)
          (.seq (.region [⟨some 4, .mov (.c (.int Go.IntKind.i64 (-1))), none⟩])
           (.ret))
          (.skip)))))))
    (.region [⟨some 42, .bin .add (.t 21) (.c (.int Go.IntKind.i64 1)), none⟩,
       ⟨some 21, .mov (.t 42), none⟩])))

def xOR : ACode := xDA
def xIm : List Nat := [1, 2, 3, 6, 7, 8, 9, 10, 11, 12, 13, 14, 15, 16, 17, 18, 19, 22, 23, 24, 25, 26, 27, 28, 29, 30, 31, 32, 33, 34, 35, 36, 37, 38, 39, 40, 41, 42, 43]
abbrev xIn (s0 s4 s5 s20 s21 : AV) : List AV := [s0, .any, .any, .any, s4, s5, .any, .any, .any, .any, .any, .any, .any, .any, .any, .any, .any, .any, .any, .any, s20, s21, .any, .any, .any, .any, .any, .any, .any, .any, .any, .any, .any, .any, .any, .any, .any, .any, .any, .any, .any, .any, .any, .any]
theorem xDB (s0 s1 s2 s3 s4 s5 s6 s7 s8 s9 s10 s11 s12 s13 s14 s15 s16 s17 s18 s19 s20 s21 s22 s23 s24 s25 s26 s27 s28 s29 s30 s31 s32 s33 s34 s35 s36 s37 s38 s39 s40 s41 s42 s43 : AV) : xBA xIm [s0, s1, s2, s3, s4, s5, s6, s7, s8, s9, s10, s11, s12, s13, s14, s15, s16, s17, s18, s19, s20, s21, s22, s23, s24, s25, s26, s27, s28, s29, s30, s31, s32, s33, s34, s35, s36, s37, s38, s39, s40, s41, s42, s43] = xIn s0 s4 s5 s20 s21 := by kernel_rfl
theorem xG1 {prog : Nat → Option AFunc} (s0 s4 s5 s20 s21 : AV) (H : xAu) : (lim prog).loop xIm xOR ⟨xIn s0 s4 s5 s20 s21, H⟩ = xCo (lim prog) xIm xOR (run (lim prog) xDA ⟨xIn s0 s4 s5 s20 s21, H⟩) := xAT _ _ _ _ (by kernel_rfl)

def xZi : AFunc := ⟨44,
  .seq (.region [⟨some 4, .mov (.c (.int Go.IntKind.i64 0)), none⟩])
  (.seq (.region [⟨some 8, .mov (.t 1), none⟩,
      ⟨some 9, .bin .add (.t 8) (.c (.int Go.IntKind.i64 1)), none⟩,
      ⟨some 5, .mov (.t 9), none⟩])
   (.seq (.seq (.draw 12 [⟨some 10, .mov (.t 0), none⟩,
        ⟨some 11, .mov (.t 1), none⟩,
        ⟨some 12, .iaddr 3 (.t 10) (.t 11), none⟩,
        ⟨some 13, .faddr 1 (.t 12), none⟩,
        ⟨some 14, .load false 1 (.t 13), none⟩,
        ⟨some 15, .mov (.t 0), none⟩,
        ⟨some 16, .mov (.t 1), none⟩,
        ⟨some 17, .iaddr 3 (.t 15) (.t 16), none⟩,
        ⟨some 18, .faddr 2 (.t 17), none⟩,
        ⟨some 19, .load false 1 (.t 18), none⟩,
        ⟨some 20, .build [.int Go.IntKind.i64 0, .int Go.IntKind.i64 0] [(0, 1, (.t 14)), (1, 1, (.t 19))], none⟩,
        ⟨some 21, .mov (.c (.int Go.IntKind.i64 0)), none⟩])
     (.block 0 (.loop xIm xOR)))
    (.seq (.region [⟨some 43, .mov (.t 5), none⟩,
        ⟨some 4, .mov (.t 43), none⟩])
     (.ret)))),
  [.tmp 4]⟩

def yCl : AFunc := ⟨4,
  .seq (.region [⟨some 2, .mov (.c (.str ⟨#[]⟩)), none⟩])
  (.seq (.seq (.region [⟨some 3, .mov (.t 0), none⟩])
    (.cond (.t 3)
     (.seq (.region [⟨some 2, .mov (.c (.str ⟨#[116, 114, 117, 101]⟩)), none⟩])
      (.ret))
     (.skip)))
   (.seq (.region [⟨some 2, .mov (.c (.str ⟨#[102, 97, 108, 115, 101]⟩)), none⟩])
    (.ret))),
  [.tmp 2]⟩

def xAF : Nat → Option AFunc
  | 9 => some a9
  | 13 => some a13
  | 14 => some a14
  | 16 => some a16
  | 18 => some a18
  | 20 => some a20
  | 21 => some a21
  | 23 => some a23
  | 25 => some a25
  | 27 => some a27
  | 29 => some a29
  | 35 => some a35
  | 37 => some a37
  | 39 => some a39
  | 41 => some a41
  | 42 => some a42
  | 44 => some a44
  | 45 => some a45
  | 52 => some a52
  | 53 => some a53
  | 54 => some a54
  | 56 => some a56
  | 60 => some a60
  | 61 => some a61
  | 62 => some a62
  | 63 => some a63
  | 66 => some a66
  | 67 => some a67
  | 73 => some a73
  | 74 => some a74
  | 75 => some a75
  | 76 => some a76
  | 77 => some a77
  | 78 => some a78
  | 79 => some a79
  | 80 => some a80
  | 81 => some a81
  | 86 => some a86
  | 87 => some a87
  | 88 => some a88
  | 89 => some a89
  | 90 => some a90
  | 91 => some a91
  | 99 => some a99
  | 100 => some xZe
  | 102 => some xZf
  | 103 => some yBf
  | 104 => some yBg
  | 105 => some yCj
  | 106 => some yCk
  | 109 => some xZg
  | 112 => some xZh
  | 113 => some yBh
  | 114 => some xZi
  | 121 => some yCl
  | _ => none
theorem a9p (args : List AV) : (lim xAF).pcall 9 args = xBw (lim xAF) a9 args := xAG rfl args
theorem a9i (caps args : List AV) (H : xAu) : (lim xAF).icall (.func 9 caps) args H = xBN (lim xAF) a9 (args ++ caps) H := xAH rfl caps args H
theorem yEE (args : List AV) : (lim xAF).pcall 13 args = xBw (lim xAF) a13 args := xAG rfl args
theorem yFx (caps args : List AV) (H : xAu) : (lim xAF).icall (.func 13 caps) args H = xBN (lim xAF) a13 (args ++ caps) H := xAH rfl caps args H
theorem yDM (args : List AV) : (lim xAF).pcall 14 args = xBw (lim xAF) a14 args := xAG rfl args
theorem yFy (caps args : List AV) (H : xAu) : (lim xAF).icall (.func 14 caps) args H = xBN (lim xAF) a14 (args ++ caps) H := xAH rfl caps args H
theorem yFz (args : List AV) : (lim xAF).pcall 16 args = xBw (lim xAF) a16 args := xAG rfl args
theorem yFA (caps args : List AV) (H : xAu) : (lim xAF).icall (.func 16 caps) args H = xBN (lim xAF) a16 (args ++ caps) H := xAH rfl caps args H
theorem yDN (args : List AV) : (lim xAF).pcall 18 args = xBw (lim xAF) a18 args := xAG rfl args
theorem yFB (caps args : List AV) (H : xAu) : (lim xAF).icall (.func 18 caps) args H = xBN (lim xAF) a18 (args ++ caps) H := xAH rfl caps args H
theorem yEF (args : List AV) : (lim xAF).pcall 20 args = xBw (lim xAF) a20 args := xAG rfl args
theorem yFC (caps args : List AV) (H : xAu) : (lim xAF).icall (.func 20 caps) args H = xBN (lim xAF) a20 (args ++ caps) H := xAH rfl caps args H
theorem yEG (args : List AV) : (lim xAF).pcall 21 args = xBw (lim xAF) a21 args := xAG rfl args
theorem yFD (caps args : List AV) (H : xAu) : (lim xAF).icall (.func 21 caps) args H = xBN (lim xAF) a21 (args ++ caps) H := xAH rfl caps args H
theorem yFE (args : List AV) : (lim xAF).pcall 23 args = xBw (lim xAF) a23 args := xAG rfl args
theorem yFF (caps args : List AV) (H : xAu) : (lim xAF).icall (.func 23 caps) args H = xBN (lim xAF) a23 (args ++ caps) H := xAH rfl caps args H
theorem yFG (args : List AV) : (lim xAF).pcall 25 args = xBw (lim xAF) a25 args := xAG rfl args
theorem yFH (caps args : List AV) (H : xAu) : (lim xAF).icall (.func 25 caps) args H = xBN (lim xAF) a25 (args ++ caps) H := xAH rfl caps args H
theorem yDO (args : List AV) : (lim xAF).pcall 27 args = xBw (lim xAF) a27 args := xAG rfl args
theorem yFI (caps args : List AV) (H : xAu) : (lim xAF).icall (.func 27 caps) args H = xBN (lim xAF) a27 (args ++ caps) H := xAH rfl caps args H
theorem yEH (args : List AV) : (lim xAF).pcall 29 args = xBw (lim xAF) a29 args := xAG rfl args
theorem yFJ (caps args : List AV) (H : xAu) : (lim xAF).icall (.func 29 caps) args H = xBN (lim xAF) a29 (args ++ caps) H := xAH rfl caps args H
theorem yFK (args : List AV) : (lim xAF).pcall 35 args = xBw (lim xAF) a35 args := xAG rfl args
theorem yFL (caps args : List AV) (H : xAu) : (lim xAF).icall (.func 35 caps) args H = xBN (lim xAF) a35 (args ++ caps) H := xAH rfl caps args H
theorem yEI (args : List AV) : (lim xAF).pcall 37 args = xBw (lim xAF) a37 args := xAG rfl args
theorem yFM (caps args : List AV) (H : xAu) : (lim xAF).icall (.func 37 caps) args H = xBN (lim xAF) a37 (args ++ caps) H := xAH rfl caps args H
theorem yEJ (args : List AV) : (lim xAF).pcall 39 args = xBw (lim xAF) a39 args := xAG rfl args
theorem yFN (caps args : List AV) (H : xAu) : (lim xAF).icall (.func 39 caps) args H = xBN (lim xAF) a39 (args ++ caps) H := xAH rfl caps args H
theorem yFO (args : List AV) : (lim xAF).pcall 41 args = xBw (lim xAF) a41 args := xAG rfl args
theorem yFP (caps args : List AV) (H : xAu) : (lim xAF).icall (.func 41 caps) args H = xBN (lim xAF) a41 (args ++ caps) H := xAH rfl caps args H
theorem yDP (args : List AV) : (lim xAF).pcall 42 args = xBw (lim xAF) a42 args := xAG rfl args
theorem yFQ (caps args : List AV) (H : xAu) : (lim xAF).icall (.func 42 caps) args H = xBN (lim xAF) a42 (args ++ caps) H := xAH rfl caps args H
theorem yDQ (args : List AV) : (lim xAF).pcall 44 args = xBw (lim xAF) a44 args := xAG rfl args
theorem yFR (caps args : List AV) (H : xAu) : (lim xAF).icall (.func 44 caps) args H = xBN (lim xAF) a44 (args ++ caps) H := xAH rfl caps args H
theorem yEK (args : List AV) : (lim xAF).pcall 45 args = xBw (lim xAF) a45 args := xAG rfl args
theorem yFS (caps args : List AV) (H : xAu) : (lim xAF).icall (.func 45 caps) args H = xBN (lim xAF) a45 (args ++ caps) H := xAH rfl caps args H
theorem yFT (args : List AV) : (lim xAF).pcall 52 args = xBw (lim xAF) a52 args := xAG rfl args
theorem yEL (caps args : List AV) (H : xAu) : (lim xAF).icall (.func 52 caps) args H = xBN (lim xAF) a52 (args ++ caps) H := xAH rfl caps args H
theorem yDR (args : List AV) : (lim xAF).pcall 53 args = xBw (lim xAF) a53 args := xAG rfl args
theorem yFU (caps args : List AV) (H : xAu) : (lim xAF).icall (.func 53 caps) args H = xBN (lim xAF) a53 (args ++ caps) H := xAH rfl caps args H
theorem yEM (args : List AV) : (lim xAF).pcall 54 args = xBw (lim xAF) a54 args := xAG rfl args
theorem yFV (caps args : List AV) (H : xAu) : (lim xAF).icall (.func 54 caps) args H = xBN (lim xAF) a54 (args ++ caps) H := xAH rfl caps args H
theorem yEN (args : List AV) : (lim xAF).pcall 56 args = xBw (lim xAF) a56 args := xAG rfl args
theorem yFW (caps args : List AV) (H : xAu) : (lim xAF).icall (.func 56 caps) args H = xBN (lim xAF) a56 (args ++ caps) H := xAH rfl caps args H
theorem yFX (args : List AV) : (lim xAF).pcall 60 args = xBw (lim xAF) a60 args := xAG rfl args
theorem yFY (caps args : List AV) (H : xAu) : (lim xAF).icall (.func 60 caps) args H = xBN (lim xAF) a60 (args ++ caps) H := xAH rfl caps args H
theorem yFZ (args : List AV) : (lim xAF).pcall 61 args = xBw (lim xAF) a61 args := xAG rfl args
theorem yEO (caps args : List AV) (H : xAu) : (lim xAF).icall (.func 61 caps) args H = xBN (lim xAF) a61 (args ++ caps) H := xAH rfl caps args H
theorem yF0 (args : List AV) : (lim xAF).pcall 62 args = xBw (lim xAF) a62 args := xAG rfl args
theorem yF1 (caps args : List AV) (H : xAu) : (lim xAF).icall (.func 62 caps) args H = xBN (lim xAF) a62 (args ++ caps) H := xAH rfl caps args H
theorem yF2 (args : List AV) : (lim xAF).pcall 63 args = xBw (lim xAF) a63 args := xAG rfl args
theorem yF3 (caps args : List AV) (H : xAu) : (lim xAF).icall (.func 63 caps) args H = xBN (lim xAF) a63 (args ++ caps) H := xAH rfl caps args H
theorem yEP (args : List AV) : (lim xAF).pcall 66 args = xBw (lim xAF) a66 args := xAG rfl args
theorem yF4 (caps args : List AV) (H : xAu) : (lim xAF).icall (.func 66 caps) args H = xBN (lim xAF) a66 (args ++ caps) H := xAH rfl caps args H
theorem yEQ (args : List AV) : (lim xAF).pcall 67 args = xBw (lim xAF) a67 args := xAG rfl args
theorem yF5 (caps args : List AV) (H : xAu) : (lim xAF).icall (.func 67 caps) args H = xBN (lim xAF) a67 (args ++ caps) H := xAH rfl caps args H
theorem yER (args : List AV) : (lim xAF).pcall 73 args = xBw (lim xAF) a73 args := xAG rfl args
theorem yF6 (caps args : List AV) (H : xAu) : (lim xAF).icall (.func 73 caps) args H = xBN (lim xAF) a73 (args ++ caps) H := xAH rfl caps args H
theorem yES (args : List AV) : (lim xAF).pcall 74 args = xBw (lim xAF) a74 args := xAG rfl args
theorem yET (caps args : List AV) (H : xAu) : (lim xAF).icall (.func 74 caps) args H = xBN (lim xAF) a74 (args ++ caps) H := xAH rfl caps args H
theorem yF7 (args : List AV) : (lim xAF).pcall 75 args = xBw (lim xAF) a75 args := xAG rfl args
theorem yEU (caps args : List AV) (H : xAu) : (lim xAF).icall (.func 75 caps) args H = xBN (lim xAF) a75 (args ++ caps) H := xAH rfl caps args H
theorem yF8 (args : List AV) : (lim xAF).pcall 76 args = xBw (lim xAF) a76 args := xAG rfl args
theorem yCm (caps args : List AV) (H : xAu) : (lim xAF).icall (.func 76 caps) args H = xBN (lim xAF) a76 (args ++ caps) H := xAH rfl caps args H
theorem yEV (args : List AV) : (lim xAF).pcall 77 args = xBw (lim xAF) a77 args := xAG rfl args
theorem yF9 (caps args : List AV) (H : xAu) : (lim xAF).icall (.func 77 caps) args H = xBN (lim xAF) a77 (args ++ caps) H := xAH rfl caps args H
theorem yGa (args : List AV) : (lim xAF).pcall 78 args = xBw (lim xAF) a78 args := xAG rfl args
theorem yEW (caps args : List AV) (H : xAu) : (lim xAF).icall (.func 78 caps) args H = xBN (lim xAF) a78 (args ++ caps) H := xAH rfl caps args H
theorem yGb (args : List AV) : (lim xAF).pcall 79 args = xBw (lim xAF) a79 args := xAG rfl args
theorem yEX (caps args : List AV) (H : xAu) : (lim xAF).icall (.func 79 caps) args H = xBN (lim xAF) a79 (args ++ caps) H := xAH rfl caps args H
theorem yGc (args : List AV) : (lim xAF).pcall 80 args = xBw (lim xAF) a80 args := xAG rfl args
theorem yDS (caps args : List AV) (H : xAu) : (lim xAF).icall (.func 80 caps) args H = xBN (lim xAF) a80 (args ++ caps) H := xAH rfl caps args H
theorem yGd (args : List AV) : (lim xAF).pcall 81 args = xBw (lim xAF) a81 args := xAG rfl args
theorem yDT (caps args : List AV) (H : xAu) : (lim xAF).icall (.func 81 caps) args H = xBN (lim xAF) a81 (args ++ caps) H := xAH rfl caps args H
theorem yDU (args : List AV) : (lim xAF).pcall 86 args = xBw (lim xAF) a86 args := xAG rfl args
theorem yGe (caps args : List AV) (H : xAu) : (lim xAF).icall (.func 86 caps) args H = xBN (lim xAF) a86 (args ++ caps) H := xAH rfl caps args H
theorem yDV (args : List AV) : (lim xAF).pcall 87 args = xBw (lim xAF) a87 args := xAG rfl args
theorem yGf (caps args : List AV) (H : xAu) : (lim xAF).icall (.func 87 caps) args H = xBN (lim xAF) a87 (args ++ caps) H := xAH rfl caps args H
theorem yEY (args : List AV) : (lim xAF).pcall 88 args = xBw (lim xAF) a88 args := xAG rfl args
theorem yGg (caps args : List AV) (H : xAu) : (lim xAF).icall (.func 88 caps) args H = xBN (lim xAF) a88 (args ++ caps) H := xAH rfl caps args H
theorem yEZ (args : List AV) : (lim xAF).pcall 89 args = xBw (lim xAF) a89 args := xAG rfl args
theorem yGh (caps args : List AV) (H : xAu) : (lim xAF).icall (.func 89 caps) args H = xBN (lim xAF) a89 (args ++ caps) H := xAH rfl caps args H
theorem yE0 (args : List AV) : (lim xAF).pcall 90 args = xBw (lim xAF) a90 args := xAG rfl args
theorem yGi (caps args : List AV) (H : xAu) : (lim xAF).icall (.func 90 caps) args H = xBN (lim xAF) a90 (args ++ caps) H := xAH rfl caps args H
theorem xWn (args : List AV) : (lim xAF).pcall 91 args = xBw (lim xAF) a91 args := xAG rfl args
theorem yGj (caps args : List AV) (H : xAu) : (lim xAF).icall (.func 91 caps) args H = xBN (lim xAF) a91 (args ++ caps) H := xAH rfl caps args H
theorem yBi (args : List AV) : (lim xAF).pcall 99 args = xBw (lim xAF) a99 args := xAG rfl args
theorem yGk (caps args : List AV) (H : xAu) : (lim xAF).icall (.func 99 caps) args H = xBN (lim xAF) a99 (args ++ caps) H := xAH rfl caps args H
theorem xZj (args : List AV) : (lim xAF).pcall 100 args = xBw (lim xAF) xZe args := xAG rfl args
theorem yE1 (caps args : List AV) (H : xAu) : (lim xAF).icall (.func 100 caps) args H = xBN (lim xAF) xZe (args ++ caps) H := xAH rfl caps args H
theorem yE2 (args : List AV) : (lim xAF).pcall 102 args = xBw (lim xAF) xZf args := xAG rfl args
theorem xZk (caps args : List AV) (H : xAu) : (lim xAF).icall (.func 102 caps) args H = xBN (lim xAF) xZf (args ++ caps) H := xAH rfl caps args H
theorem yE3 (args : List AV) : (lim xAF).pcall 103 args = xBw (lim xAF) yBf args := xAG rfl args
theorem yCn (caps args : List AV) (H : xAu) : (lim xAF).icall (.func 103 caps) args H = xBN (lim xAF) yBf (args ++ caps) H := xAH rfl caps args H
theorem yE4 (args : List AV) : (lim xAF).pcall 104 args = xBw (lim xAF) yBg args := xAG rfl args
theorem yCo (caps args : List AV) (H : xAu) : (lim xAF).icall (.func 104 caps) args H = xBN (lim xAF) yBg (args ++ caps) H := xAH rfl caps args H
theorem yE5 (args : List AV) : (lim xAF).pcall 105 args = xBw (lim xAF) yCj args := xAG rfl args
theorem yE6 (caps args : List AV) (H : xAu) : (lim xAF).icall (.func 105 caps) args H = xBN (lim xAF) yCj (args ++ caps) H := xAH rfl caps args H
theorem yE7 (args : List AV) : (lim xAF).pcall 106 args = xBw (lim xAF) yCk args := xAG rfl args
theorem yE8 (caps args : List AV) (H : xAu) : (lim xAF).icall (.func 106 caps) args H = xBN (lim xAF) yCk (args ++ caps) H := xAH rfl caps args H
theorem yE9 (args : List AV) : (lim xAF).pcall 109 args = xBw (lim xAF) xZg args := xAG rfl args
theorem xZl (caps args : List AV) (H : xAu) : (lim xAF).icall (.func 109 caps) args H = xBN (lim xAF) xZg (args ++ caps) H := xAH rfl caps args H
theorem yFa (args : List AV) : (lim xAF).pcall 112 args = xBw (lim xAF) xZh args := xAG rfl args
theorem xZm (caps args : List AV) (H : xAu) : (lim xAF).icall (.func 112 caps) args H = xBN (lim xAF) xZh (args ++ caps) H := xAH rfl caps args H
theorem yCp (args : List AV) : (lim xAF).pcall 113 args = xBw (lim xAF) yBh args := xAG rfl args
theorem yFb (caps args : List AV) (H : xAu) : (lim xAF).icall (.func 113 caps) args H = xBN (lim xAF) yBh (args ++ caps) H := xAH rfl caps args H
theorem xZn (args : List AV) : (lim xAF).pcall 114 args = xBw (lim xAF) xZi args := xAG rfl args
theorem yFc (caps args : List AV) (H : xAu) : (lim xAF).icall (.func 114 caps) args H = xBN (lim xAF) xZi (args ++ caps) H := xAH rfl caps args H
theorem yFd (args : List AV) : (lim xAF).pcall 121 args = xBw (lim xAF) yCl args := xAG rfl args
theorem yFe (caps args : List AV) (H : xAu) : (lim xAF).icall (.func 121 caps) args H = xBN (lim xAF) yCl (args ++ caps) H := xAH rfl caps args H
end Go.Abs.Det
