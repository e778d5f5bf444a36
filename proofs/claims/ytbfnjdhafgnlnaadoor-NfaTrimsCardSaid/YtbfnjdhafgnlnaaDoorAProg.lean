/- The functions in the interpreter's words. -/
import Derived.Test.YtbfnjdhafgnlnaaDoorAbsEnc
import Derived.Test.YtbfnjdhafgnlnaaDoorProg
namespace Go.Abs.NfaD
open Go Go.Abs
/-- sentinel/sentinellaw06.NfaTrims -/
def a5 : AFunc := ⟨117,
  .seq (.region [⟨some 2, .box (.t 0), none⟩,
     ⟨some 4, .mov (.c (.bool false)), none⟩])
  (.seq (.seq (.region [⟨some 17, .load true 5 (.t 2), none⟩,
       ⟨some 18, .bslice true [.int Go.IntKind.i64 0, .int Go.IntKind.i64 0, .sl true 0 [], .sl true 0 [], .sl true 0 []] 5 1 [(0, (.t 17))], none⟩,
       ⟨some 19, .call 6 [(.t 18)], none⟩,
       ⟨some 20, .mov (.t 19), none⟩,
       ⟨some 21, .mov (.t 1), some (20, false)⟩,
       ⟨some 22, .len (.t 21), some (20, false)⟩,
       ⟨some 23, .bin .gtr (.t 22) (.c (.int Go.IntKind.i64 100)), some (20, false)⟩,
       ⟨some 24, .pick (.t 20) (.c (.bool true)) (.t 23), none⟩,
       ⟨some 25, .mov (.t 24), none⟩,
       ⟨some 26, .call 7 [], some (25, false)⟩,
       ⟨some 27, .un .not (.t 26), some (25, false)⟩,
       ⟨some 28, .pick (.t 25) (.c (.bool true)) (.t 27), none⟩])
    (.cond (.t 28)
     (.seq (.region [⟨some 29, .call 7 [], none⟩,
         ⟨some 4, .mov (.t 29), none⟩])
      (.ret))
     (.skip)))
   (.seq (.region [⟨some 31, .load true 5 (.t 2), none⟩,
       ⟨some 32, .call 17 [(.t 31)], none⟩,
       ⟨some 30, .mov (.t 32), none⟩,
       ⟨some 33, .ext 0 (.t 30), none⟩,
       ⟨some 34, .ext 1 (.t 30), none⟩,
       ⟨some 5, .box (.c (.agg [.int Go.IntKind.i64 0, .int Go.IntKind.i64 0, .sl true 0 [], .sl true 0 [], .sl true 0 []])), none⟩,
       ⟨none, .store 5 (.t 5) (.t 33), none⟩,
       ⟨some 6, .mov (.t 34), none⟩])
    (.seq (.region [⟨some 36, .load true 5 (.t 2), none⟩,
        ⟨some 37, .mov (.t 1), none⟩,
        ⟨some 38, .call 25 [(.t 36), (.t 37)], none⟩,
        ⟨some 35, .mov (.t 38), none⟩,
        ⟨some 39, .ext 0 (.t 35), none⟩,
        ⟨some 40, .ext 1 (.t 35), none⟩,
        ⟨some 7, .mov (.t 39), none⟩,
        ⟨some 8, .mov (.t 40), none⟩])
     (.seq (.region [⟨some 42, .load true 5 (.t 5), none⟩,
         ⟨some 43, .mov (.t 1), none⟩,
         ⟨some 44, .call 25 [(.t 42), (.t 43)], none⟩,
         ⟨some 41, .mov (.t 44), none⟩,
         ⟨some 45, .ext 0 (.t 41), none⟩,
         ⟨some 46, .ext 1 (.t 41), none⟩,
         ⟨some 9, .mov (.t 45), none⟩,
         ⟨some 10, .mov (.t 46), none⟩])
      (.seq (.seq (.region [⟨some 47, .mov (.t 6), none⟩,
           ⟨some 48, .bin .neq (.t 47) (.c (.int Go.IntKind.i64 0)), none⟩])
        (.cond (.t 48)
         (.seq (.region [⟨some 49, .load true 5 (.t 2), none⟩,
             ⟨some 50, .call 26 [(.t 49)], none⟩,
             ⟨some 51, .mov (.t 6), none⟩,
             ⟨some 52, .bin .eql (.t 50) (.t 51), none⟩,
             ⟨some 53, .mov (.t 52), none⟩,
             ⟨some 54, .mov (.t 8), some (53, true)⟩,
             ⟨some 55, .mov (.t 6), some (53, true)⟩,
             ⟨some 56, .bin .eql (.t 54) (.t 55), some (53, true)⟩,
             ⟨some 57, .pick (.t 53) (.t 56) (.c (.bool false)), none⟩,
             ⟨some 58, .mov (.t 57), none⟩,
             ⟨some 59, .faddr 1 (.t 5), some (58, true)⟩,
             ⟨some 60, .load false 1 (.t 59), some (58, true)⟩,
             ⟨some 61, .bin .eql (.t 60) (.c (.int Go.IntKind.i64 0)), some (58, true)⟩,
             ⟨some 62, .pick (.t 58) (.t 61) (.c (.bool false)), none⟩,
             ⟨some 4, .mov (.t 62), none⟩])
          (.ret))
         (.skip)))
       (.seq (.region [⟨some 64, .load true 5 (.t 5), none⟩,
           ⟨some 65, .call 17 [(.t 64)], none⟩,
           ⟨some 63, .mov (.t 65), none⟩,
           ⟨some 66, .ext 0 (.t 63), none⟩,
           ⟨some 67, .ext 1 (.t 63), none⟩,
           ⟨some 11, .box (.c (.agg [.int Go.IntKind.i64 0, .int Go.IntKind.i64 0, .sl true 0 [], .sl true 0 [], .sl true 0 []])), none⟩,
           ⟨none, .store 5 (.t 11) (.t 66), none⟩,
           ⟨some 12, .mov (.t 67), none⟩])
        (.seq (.region [⟨some 69, .load true 5 (.t 5), none⟩,
            ⟨some 70, .call 15 [(.t 69)], none⟩,
            ⟨some 68, .mov (.t 70), none⟩,
            ⟨some 71, .ext 0 (.t 68), none⟩,
            ⟨some 72, .ext 1 (.t 68), none⟩,
            ⟨some 13, .mov (.t 71), none⟩,
            ⟨some 14, .mov (.t 72), none⟩])
         (.seq (.region [⟨some 74, .load true 5 (.t 5), none⟩,
             ⟨some 75, .call 16 [(.t 74)], none⟩,
             ⟨some 73, .mov (.t 75), none⟩,
             ⟨some 76, .ext 0 (.t 73), none⟩,
             ⟨some 77, .ext 1 (.t 73), none⟩,
             ⟨some 15, .mov (.t 76), none⟩,
             ⟨some 16, .mov (.t 77), none⟩])
          (.seq (.draw 37 [⟨some 78, .mov (.t 8), none⟩,
              ⟨some 79, .mov (.t 10), none⟩,
              ⟨some 80, .bin .eql (.t 78) (.t 79), none⟩,
              ⟨some 81, .mov (.t 80), none⟩,
              ⟨some 82, .mov (.t 7), some (81, true)⟩,
              ⟨some 83, .mov (.t 9), some (81, true)⟩,
              ⟨some 84, .beq false (.t 82) (.t 83), some (81, true)⟩,
              ⟨some 85, .pick (.t 81) (.t 84) (.c (.bool false)), none⟩,
              ⟨some 86, .mov (.t 85), none⟩,
              ⟨some 87, .mov (.t 12), some (86, true)⟩,
              ⟨some 88, .bin .eql (.t 87) (.c (.int Go.IntKind.i64 0)), some (86, true)⟩,
              ⟨some 89, .pick (.t 86) (.t 88) (.c (.bool false)), none⟩,
              ⟨some 90, .mov (.t 89), none⟩,
              ⟨some 91, .load true 5 (.t 11), some (90, true)⟩,
              ⟨some 92, .load true 5 (.t 5), some (90, true)⟩,
              ⟨some 93, .call 22 [(.t 91), (.t 92)], some (90, true)⟩,
              ⟨some 94, .pick (.t 90) (.t 93) (.c (.bool false)), none⟩,
              ⟨some 95, .mov (.t 94), none⟩,
              ⟨some 96, .mov (.t 14), some (95, true)⟩,
              ⟨some 97, .bin .eql (.t 96) (.c (.int Go.IntKind.i64 0)), some (95, true)⟩,
              ⟨some 98, .pick (.t 95) (.t 97) (.c (.bool false)), none⟩,
              ⟨some 99, .mov (.t 98), none⟩,
              ⟨some 100, .mov (.t 16), some (99, true)⟩,
              ⟨some 101, .bin .eql (.t 100) (.c (.int Go.IntKind.i64 0)), some (99, true)⟩,
              ⟨some 102, .pick (.t 99) (.t 101) (.c (.bool false)), none⟩,
              ⟨some 103, .mov (.t 102), none⟩,
              ⟨some 104, .mov (.t 13), some (103, true)⟩,
              ⟨some 105, .call 29 [(.t 104)], some (103, true)⟩,
              ⟨some 106, .faddr 1 (.t 5), some (103, true)⟩,
              ⟨some 107, .load false 1 (.t 106), some (103, true)⟩,
              ⟨some 108, .bin .eql (.t 105) (.t 107), some (103, true)⟩,
              ⟨some 109, .pick (.t 103) (.t 108) (.c (.bool false)), none⟩,
              ⟨some 110, .mov (.t 109), none⟩,
              ⟨some 111, .mov (.t 15), some (110, true)⟩,
              ⟨some 112, .call 29 [(.t 111)], some (110, true)⟩,
              ⟨some 113, .faddr 1 (.t 5), some (110, true)⟩,
              ⟨some 114, .load false 1 (.t 113), some (110, true)⟩,
              ⟨some 115, .bin .eql (.t 112) (.t 114), some (110, true)⟩,
              ⟨some 116, .pick (.t 110) (.t 115) (.c (.bool false)), none⟩,
              ⟨some 4, .mov (.t 116), none⟩])
           (.ret)))))))))),
  [.tmp 4]⟩

def a6l0b : ACode :=
  .seq (.seq (.region [⟨some 4, .mov (.t 3), none⟩,
      ⟨some 5, .mov (.t 0), none⟩,
      ⟨some 6, .len (.t 5), none⟩,
      ⟨some 7, .bin .lss (.t 4) (.t 6), none⟩])
   (.cond (.t 7)
    (.skip)
    (.exit 0)))
  (.seq (.block 1 (.seq (.region [⟨some 10, .mov (.t 0), none⟩,
        ⟨some 11, .mov (.t 3), none⟩,
        ⟨some 12, .iaddr 5 (.t 10) (.t 11), none⟩,
        ⟨some 13, .faddr 2 (.t 12), none⟩,
        ⟨some 14, .load false 1 (.t 13), none⟩,
        ⟨some 15, .len (.t 14), none⟩,
        ⟨some 16, .bin .gtr (.t 15) (.c (.int Go.IntKind.i64 100)), none⟩,
        ⟨some 17, .mov (.t 16), none⟩,
        ⟨some 18, .mov (.t 0), some (17, false)⟩,
        ⟨some 19, .mov (.t 3), some (17, false)⟩,
        ⟨some 20, .iaddr 5 (.t 18) (.t 19), some (17, false)⟩,
        ⟨some 21, .faddr 3 (.t 20), some (17, false)⟩,
        ⟨some 22, .load false 1 (.t 21), some (17, false)⟩,
        ⟨some 23, .len (.t 22), some (17, false)⟩,
        ⟨some 24, .bin .gtr (.t 23) (.c (.int Go.IntKind.i64 100)), some (17, false)⟩,
        ⟨some 25, .pick (.t 17) (.c (.bool true)) (.t 24), none⟩,
        ⟨some 26, .mov (.t 25), none⟩,
        ⟨some 27, .mov (.t 0), some (26, false)⟩,
        ⟨some 28, .mov (.t 3), some (26, false)⟩,
        ⟨some 29, .iaddr 5 (.t 27) (.t 28), some (26, false)⟩,
        ⟨some 30, .faddr 4 (.t 29), some (26, false)⟩,
        ⟨some 31, .load false 1 (.t 30), some (26, false)⟩,
        ⟨some 32, .len (.t 31), some (26, false)⟩,
        ⟨some 33, .bin .gtr (.t 32) (.c (.int Go.IntKind.i64 520)), some (26, false)⟩,
        ⟨some 34, .pick (.t 26) (.c (.bool true)) (.t 33), none⟩])
     (.cond (.t 34)
      (.seq (.region [⟨some 2, .mov (.c (.bool true)), none⟩])
       (.ret))
      (.skip))))
   (.region [⟨some 8, .mov (.t 3), none⟩,
      ⟨some 9, .bin .add (.t 8) (.c (.int Go.IntKind.i64 1)), none⟩,
      ⟨some 3, .mov (.t 9), none⟩]))

def a6l0 : ACode := a6l0b
def a6l0s : List Nat := [1, 4, 5, 6, 7, 8, 9, 10, 11, 12, 13, 14, 15, 16, 17, 18, 19, 20, 21, 22, 23, 24, 25, 26, 27, 28, 29, 30, 31, 32, 33, 34]
abbrev a6l0F (s0 s2 s3 : AV) : List AV := [s0, .any, s2, s3, .any, .any, .any, .any, .any, .any, .any, .any, .any, .any, .any, .any, .any, .any, .any, .any, .any, .any, .any, .any, .any, .any, .any, .any, .any, .any, .any, .any, .any, .any, .any]
theorem a6l0c (s0 s1 s2 s3 s4 s5 s6 s7 s8 s9 s10 s11 s12 s13 s14 s15 s16 s17 s18 s19 s20 s21 s22 s23 s24 s25 s26 s27 s28 s29 s30 s31 s32 s33 s34 : AV) : clearA a6l0s [s0, s1, s2, s3, s4, s5, s6, s7, s8, s9, s10, s11, s12, s13, s14, s15, s16, s17, s18, s19, s20, s21, s22, s23, s24, s25, s26, s27, s28, s29, s30, s31, s32, s33, s34] = a6l0F s0 s2 s3 := by kernel_rfl
theorem a6l0n {prog : Nat → Option AFunc} (s0 s2 s3 : AV) (H : Heap) : (lim prog).loop a6l0s a6l0 ⟨a6l0F s0 s2 s3, H⟩ = loopK (lim prog) a6l0s a6l0 (run (lim prog) a6l0b ⟨a6l0F s0 s2 s3, H⟩) := lim_loop_step _ _ _ _ (by kernel_rfl)

/-- sentinel/sentinellaw06.Long -/
def a6 : AFunc := ⟨35,
  .seq (.region [⟨some 2, .mov (.c (.bool false)), none⟩])
  (.seq (.seq (.region [⟨some 3, .mov (.c (.int Go.IntKind.i64 0)), none⟩])
    (.block 0 (.loop a6l0s a6l0)))
   (.seq (.region [⟨some 2, .mov (.c (.bool false)), none⟩])
    (.ret))),
  [.tmp 2]⟩

/-- sentinel/sentinellaw06.awake -/
def a7 : AFunc := ⟨102,
  .seq (.region [⟨some 0, .mov (.c (.bool false)), none⟩])
  (.seq (.region [⟨some 14, .call 27 [], none⟩,
      ⟨some 1, .box (.c (.agg [.int Go.IntKind.i64 0, .int Go.IntKind.i64 0, .sl true 0 [], .sl true 0 [], .sl true 0 []])), none⟩,
      ⟨none, .store 5 (.t 1) (.t 14), none⟩])
   (.seq (.region [⟨some 16, .load true 5 (.t 1), none⟩,
       ⟨some 17, .bslice true [.int Go.IntKind.u8 0] 1 2 [(0, (.c (.int Go.IntKind.u8 1))), (1, (.c (.int Go.IntKind.u8 0)))], none⟩,
       ⟨some 18, .call 25 [(.t 16), (.t 17)], none⟩,
       ⟨some 15, .mov (.t 18), none⟩,
       ⟨some 19, .ext 0 (.t 15), none⟩,
       ⟨some 20, .ext 1 (.t 15), none⟩,
       ⟨some 2, .mov (.t 19), none⟩,
       ⟨some 3, .mov (.t 20), none⟩])
    (.seq (.region [⟨some 22, .load true 5 (.t 1), none⟩,
        ⟨some 23, .bslice true [.int Go.IntKind.u8 0] 1 3 [(0, (.c (.int Go.IntKind.u8 0))), (1, (.c (.int Go.IntKind.u8 1))), (2, (.c (.int Go.IntKind.u8 1)))], none⟩,
        ⟨some 24, .call 25 [(.t 22), (.t 23)], none⟩,
        ⟨some 21, .mov (.t 24), none⟩,
        ⟨some 25, .ext 0 (.t 21), none⟩,
        ⟨some 26, .ext 1 (.t 21), none⟩,
        ⟨some 4, .mov (.t 25), none⟩,
        ⟨some 5, .mov (.t 26), none⟩])
     (.seq (.region [⟨some 28, .load true 5 (.t 1), none⟩,
         ⟨some 29, .bslice true [.int Go.IntKind.u8 0] 1 2 [(0, (.c (.int Go.IntKind.u8 0))), (1, (.c (.int Go.IntKind.u8 1)))], none⟩,
         ⟨some 30, .call 25 [(.t 28), (.t 29)], none⟩,
         ⟨some 27, .mov (.t 30), none⟩,
         ⟨some 31, .ext 0 (.t 27), none⟩,
         ⟨some 32, .ext 1 (.t 27), none⟩,
         ⟨some 6, .mov (.t 31), none⟩,
         ⟨some 7, .mov (.t 32), none⟩])
      (.seq (.region [⟨some 34, .load true 5 (.t 1), none⟩,
          ⟨some 35, .call 25 [(.t 34), (.c (.sl true 0 []))], none⟩,
          ⟨some 33, .mov (.t 35), none⟩,
          ⟨some 36, .ext 0 (.t 33), none⟩,
          ⟨some 37, .ext 1 (.t 33), none⟩,
          ⟨some 8, .mov (.t 36), none⟩,
          ⟨some 9, .mov (.t 37), none⟩])
       (.seq (.region [⟨some 39, .load true 5 (.t 1), none⟩,
           ⟨some 40, .bslice true [.int Go.IntKind.u8 0] 1 1 [(0, (.c (.int Go.IntKind.u8 1)))], none⟩,
           ⟨some 41, .call 30 [(.t 39), (.t 40)], none⟩,
           ⟨some 38, .mov (.t 41), none⟩,
           ⟨some 42, .ext 0 (.t 38), none⟩,
           ⟨some 43, .ext 1 (.t 38), none⟩,
           ⟨some 10, .mov (.t 42), none⟩,
           ⟨some 11, .mov (.t 43), none⟩])
        (.seq (.region [⟨some 45, .load true 5 (.t 1), none⟩,
            ⟨some 46, .call 18 [(.t 45)], none⟩,
            ⟨some 44, .mov (.t 46), none⟩,
            ⟨some 47, .ext 0 (.t 44), none⟩,
            ⟨some 48, .ext 1 (.t 44), none⟩,
            ⟨some 12, .box (.c (.agg [.int Go.IntKind.i64 0, .int Go.IntKind.i64 0, .sl true 0 [], .sl true 0 [], .sl true 0 []])), none⟩,
            ⟨none, .store 5 (.t 12) (.t 47), none⟩,
            ⟨some 13, .mov (.t 48), none⟩])
         (.seq (.region [⟨some 49, .mov (.t 3), none⟩,
             ⟨some 50, .bin .eql (.t 49) (.c (.int Go.IntKind.i64 0)), none⟩,
             ⟨some 51, .mov (.t 50), none⟩,
             ⟨some 52, .mov (.t 5), some (51, true)⟩,
             ⟨some 53, .bin .eql (.t 52) (.c (.int Go.IntKind.i64 0)), some (51, true)⟩,
             ⟨some 54, .pick (.t 51) (.t 53) (.c (.bool false)), none⟩,
             ⟨some 55, .mov (.t 54), none⟩,
             ⟨some 56, .mov (.t 7), some (55, true)⟩,
             ⟨some 57, .bin .eql (.t 56) (.c (.int Go.IntKind.i64 0)), some (55, true)⟩,
             ⟨some 58, .pick (.t 55) (.t 57) (.c (.bool false)), none⟩,
             ⟨some 59, .mov (.t 58), none⟩,
             ⟨some 60, .mov (.t 9), some (59, true)⟩,
             ⟨some 61, .bin .eql (.t 60) (.c (.int Go.IntKind.i64 0)), some (59, true)⟩,
             ⟨some 62, .pick (.t 59) (.t 61) (.c (.bool false)), none⟩,
             ⟨some 63, .mov (.t 62), none⟩,
             ⟨some 64, .mov (.t 11), some (63, true)⟩,
             ⟨some 65, .bin .eql (.t 64) (.c (.int Go.IntKind.i64 0)), some (63, true)⟩,
             ⟨some 66, .pick (.t 63) (.t 65) (.c (.bool false)), none⟩,
             ⟨some 67, .mov (.t 66), none⟩,
             ⟨some 68, .mov (.t 13), some (67, true)⟩,
             ⟨some 69, .bin .eql (.t 68) (.c (.int Go.IntKind.i64 0)), some (67, true)⟩,
             ⟨some 70, .pick (.t 67) (.t 69) (.c (.bool false)), none⟩,
             ⟨some 71, .mov (.t 70), none⟩,
             ⟨some 72, .mov (.t 2), some (71, true)⟩,
             ⟨some 73, .pick (.t 71) (.t 72) (.c (.bool false)), none⟩,
             ⟨some 74, .mov (.t 73), none⟩,
             ⟨some 75, .mov (.t 4), some (74, true)⟩,
             ⟨some 76, .pick (.t 74) (.t 75) (.c (.bool false)), none⟩,
             ⟨some 77, .mov (.t 76), none⟩,
             ⟨some 78, .mov (.t 6), some (77, true)⟩,
             ⟨some 79, .un .not (.t 78), some (77, true)⟩,
             ⟨some 80, .pick (.t 77) (.t 79) (.c (.bool false)), none⟩,
             ⟨some 81, .mov (.t 80), none⟩,
             ⟨some 82, .mov (.t 8), some (81, true)⟩,
             ⟨some 83, .un .not (.t 82), some (81, true)⟩,
             ⟨some 84, .pick (.t 81) (.t 83) (.c (.bool false)), none⟩,
             ⟨some 85, .mov (.t 84), none⟩,
             ⟨some 86, .mov (.t 10), some (85, true)⟩,
             ⟨some 87, .bslice true [.int Go.IntKind.u64 0] 1 1 [(0, (.c (.int Go.IntKind.u64 3)))], some (85, true)⟩,
             ⟨some 88, .call 20 [(.t 86), (.t 87)], some (85, true)⟩,
             ⟨some 89, .pick (.t 85) (.t 88) (.c (.bool false)), none⟩,
             ⟨some 90, .mov (.t 89), none⟩,
             ⟨some 91, .faddr 2 (.t 12), some (90, true)⟩,
             ⟨some 92, .load false 1 (.t 91), some (90, true)⟩,
             ⟨some 93, .bslice true [.int Go.IntKind.i64 0] 1 1 [(0, (.c (.int Go.IntKind.i64 2)))], some (90, true)⟩,
             ⟨some 94, .call 31 [(.t 92), (.t 93)], some (90, true)⟩,
             ⟨some 95, .pick (.t 90) (.t 94) (.c (.bool false)), none⟩,
             ⟨some 96, .mov (.t 95), none⟩,
             ⟨some 97, .faddr 3 (.t 12), some (96, true)⟩,
             ⟨some 98, .load false 1 (.t 97), some (96, true)⟩,
             ⟨some 99, .bslice true [.int Go.IntKind.i64 0] 1 1 [(0, (.c (.int Go.IntKind.i64 0)))], some (96, true)⟩,
             ⟨some 100, .call 31 [(.t 98), (.t 99)], some (96, true)⟩,
             ⟨some 101, .pick (.t 96) (.t 100) (.c (.bool false)), none⟩,
             ⟨some 0, .mov (.t 101), none⟩])
          (.ret))))))))),
  [.tmp 0]⟩

/-- sentinel/nfa.Reachable -/
def a15 : AFunc := ⟨16,
  .seq (.region [⟨some 1, .box (.t 0), none⟩,
     ⟨some 2, .mov (.c (.sl true 0 [])), none⟩,
     ⟨some 3, .mov (.c (.int Go.IntKind.i64 0)), none⟩])
  (.seq (.seq (.region [⟨some 5, .load true 5 (.t 1), none⟩,
       ⟨some 6, .call 26 [(.t 5)], none⟩,
       ⟨some 4, .mov (.t 6), none⟩])
    (.seq (.region [⟨some 7, .mov (.t 4), none⟩,
        ⟨some 8, .bin .neq (.t 7) (.c (.int Go.IntKind.i64 0)), none⟩])
     (.cond (.t 8)
      (.seq (.region [⟨some 9, .mov (.t 4), none⟩,
          ⟨some 2, .mov (.c (.sl true 0 [])), none⟩,
          ⟨some 3, .mov (.t 9), none⟩])
       (.ret))
      (.skip))))
   (.seq (.draw 5 [⟨some 10, .faddr 2 (.t 1), none⟩,
       ⟨some 11, .load false 1 (.t 10), none⟩,
       ⟨some 12, .call 43 [(.t 11)], none⟩,
       ⟨some 13, .faddr 4 (.t 1), none⟩,
       ⟨some 14, .load false 1 (.t 13), none⟩,
       ⟨some 15, .call 42 [(.t 12), (.t 14)], none⟩,
       ⟨some 2, .mov (.t 15), none⟩,
       ⟨some 3, .mov (.c (.int Go.IntKind.i64 0)), none⟩])
    (.ret))),
  [.tmp 2, .tmp 3]⟩

/-- sentinel/nfa.Productive -/
def a16 : AFunc := ⟨18,
  .seq (.region [⟨some 1, .box (.t 0), none⟩,
     ⟨some 2, .mov (.c (.sl true 0 [])), none⟩,
     ⟨some 3, .mov (.c (.int Go.IntKind.i64 0)), none⟩])
  (.seq (.region [⟨some 7, .load true 5 (.t 1), none⟩,
      ⟨some 8, .call 18 [(.t 7)], none⟩,
      ⟨some 6, .mov (.t 8), none⟩,
      ⟨some 9, .ext 0 (.t 6), none⟩,
      ⟨some 10, .ext 1 (.t 6), none⟩,
      ⟨some 4, .box (.c (.agg [.int Go.IntKind.i64 0, .int Go.IntKind.i64 0, .sl true 0 [], .sl true 0 [], .sl true 0 []])), none⟩,
      ⟨none, .store 5 (.t 4) (.t 9), none⟩,
      ⟨some 5, .mov (.t 10), none⟩])
   (.seq (.seq (.region [⟨some 11, .mov (.t 5), none⟩,
        ⟨some 12, .bin .neq (.t 11) (.c (.int Go.IntKind.i64 0)), none⟩])
     (.cond (.t 12)
      (.seq (.region [⟨some 13, .mov (.t 5), none⟩,
          ⟨some 2, .mov (.c (.sl true 0 [])), none⟩,
          ⟨some 3, .mov (.t 13), none⟩])
       (.ret))
      (.skip)))
    (.seq (.region [⟨some 14, .load true 5 (.t 4), none⟩,
        ⟨some 15, .call 15 [(.t 14)], none⟩,
        ⟨some 16, .ext 0 (.t 15), none⟩,
        ⟨some 17, .ext 1 (.t 15), none⟩,
        ⟨some 2, .mov (.t 16), none⟩,
        ⟨some 3, .mov (.t 17), none⟩])
     (.ret)))),
  [.tmp 2, .tmp 3]⟩

def a17l0b : ACode :=
  .seq (.region [⟨some 52, .bin .lss (.t 51) (.t 50), none⟩])
  (.seq (.cond (.t 52)
    (.skip)
    (.exit 0))
   (.seq (.block 1 (.seq (.region [⟨some 53, .iaddr 1 (.t 49) (.t 51), none⟩,
         ⟨some 54, .load false 1 (.t 53), none⟩,
         ⟨some 10, .mov (.t 54), none⟩])
      (.seq (.region [⟨some 56, .mov (.t 8), none⟩,
          ⟨some 57, .mov (.t 10), none⟩,
          ⟨some 58, .icall (.t 56) [(.t 57)], none⟩,
          ⟨some 55, .mov (.t 58), none⟩,
          ⟨some 59, .ext 0 (.t 55), none⟩,
          ⟨some 60, .ext 1 (.t 55), none⟩,
          ⟨some 11, .mov (.t 59), none⟩,
          ⟨some 12, .mov (.t 60), none⟩])
       (.seq (.region [⟨some 61, .mov (.t 12), none⟩])
        (.cond (.t 61)
         (.region [⟨some 62, .faddr 2 (.t 2), none⟩,
            ⟨some 63, .load false 1 (.t 62), none⟩,
            ⟨some 64, .mov (.t 11), none⟩,
            ⟨some 65, .bslice true [.int Go.IntKind.i64 0] 1 1 [(0, (.t 64))], none⟩,
            ⟨some 66, .append false 1 8 (.t 63) (.t 65), none⟩,
            ⟨some 67, .faddr 2 (.t 2), none⟩,
            ⟨none, .store 1 (.t 67) (.t 66), none⟩])
         (.skip))))))
    (.region [⟨some 68, .bin .add (.t 51) (.c (.int Go.IntKind.i64 1)), none⟩,
       ⟨some 51, .mov (.t 68), none⟩])))

def a17l0 : ACode := a17l0b
def a17l0s : List Nat := [0, 3, 4, 5, 6, 7, 9, 10, 11, 12, 13, 14, 15, 16, 17, 18, 19, 20, 21, 22, 23, 24, 25, 26, 27, 28, 29, 30, 31, 32, 33, 34, 35, 36, 37, 38, 39, 40, 41, 42, 43, 44, 45, 46, 47, 48, 52, 53, 54, 55, 56, 57, 58, 59, 60, 61, 62, 63, 64, 65, 66, 67, 68, 69, 70, 71, 72, 73, 74, 75, 76, 77, 78, 79, 80, 81, 82, 83, 84, 85, 86, 87, 88, 89, 90, 91, 92, 93, 94, 95, 96, 97, 98, 99, 100, 101, 102, 103, 104, 105, 106, 107, 108, 109, 110, 111, 112, 113, 114, 115, 116, 117, 118, 119, 120, 121, 122, 123, 124, 125, 126, 127, 128]
abbrev a17l0F (s1 s2 s8 s49 s50 s51 : AV) : List AV := [.any, s1, s2, .any, .any, .any, .any, .any, s8, .any, .any, .any, .any, .any, .any, .any, .any, .any, .any, .any, .any, .any, .any, .any, .any, .any, .any, .any, .any, .any, .any, .any, .any, .any, .any, .any, .any, .any, .any, .any, .any, .any, .any, .any, .any, .any, .any, .any, .any, s49, s50, s51, .any, .any, .any, .any, .any, .any, .any, .any, .any, .any, .any, .any, .any, .any, .any, .any, .any, .any, .any, .any, .any, .any, .any, .any, .any, .any, .any, .any, .any, .any, .any, .any, .any, .any, .any, .any, .any, .any, .any, .any, .any, .any, .any, .any, .any, .any, .any, .any, .any, .any, .any, .any, .any, .any, .any, .any, .any, .any, .any, .any, .any, .any, .any, .any, .any, .any, .any, .any, .any, .any, .any, .any, .any, .any, .any, .any, .any]
theorem a17l0c (s0 s1 s2 s3 s4 s5 s6 s7 s8 s9 s10 s11 s12 s13 s14 s15 s16 s17 s18 s19 s20 s21 s22 s23 s24 s25 s26 s27 s28 s29 s30 s31 s32 s33 s34 s35 s36 s37 s38 s39 s40 s41 s42 s43 s44 s45 s46 s47 s48 s49 s50 s51 s52 s53 s54 s55 s56 s57 s58 s59 s60 s61 s62 s63 s64 s65 s66 s67 s68 s69 s70 s71 s72 s73 s74 s75 s76 s77 s78 s79 s80 s81 s82 s83 s84 s85 s86 s87 s88 s89 s90 s91 s92 s93 s94 s95 s96 s97 s98 s99 s100 s101 s102 s103 s104 s105 s106 s107 s108 s109 s110 s111 s112 s113 s114 s115 s116 s117 s118 s119 s120 s121 s122 s123 s124 s125 s126 s127 s128 : AV) : clearA a17l0s [s0, s1, s2, s3, s4, s5, s6, s7, s8, s9, s10, s11, s12, s13, s14, s15, s16, s17, s18, s19, s20, s21, s22, s23, s24, s25, s26, s27, s28, s29, s30, s31, s32, s33, s34, s35, s36, s37, s38, s39, s40, s41, s42, s43, s44, s45, s46, s47, s48, s49, s50, s51, s52, s53, s54, s55, s56, s57, s58, s59, s60, s61, s62, s63, s64, s65, s66, s67, s68, s69, s70, s71, s72, s73, s74, s75, s76, s77, s78, s79, s80, s81, s82, s83, s84, s85, s86, s87, s88, s89, s90, s91, s92, s93, s94, s95, s96, s97, s98, s99, s100, s101, s102, s103, s104, s105, s106, s107, s108, s109, s110, s111, s112, s113, s114, s115, s116, s117, s118, s119, s120, s121, s122, s123, s124, s125, s126, s127, s128] = a17l0F s1 s2 s8 s49 s50 s51 := by kernel_rfl
theorem a17l0n {prog : Nat → Option AFunc} (s1 s2 s8 s49 s50 s51 : AV) (H : Heap) : (lim prog).loop a17l0s a17l0 ⟨a17l0F s1 s2 s8 s49 s50 s51, H⟩ = loopK (lim prog) a17l0s a17l0 (run (lim prog) a17l0b ⟨a17l0F s1 s2 s8 s49 s50 s51, H⟩) := lim_loop_step _ _ _ _ (by kernel_rfl)

def a17l1b : ACode :=
  .seq (.region [⟨some 73, .bin .lss (.t 72) (.t 71), none⟩])
  (.seq (.cond (.t 73)
    (.skip)
    (.exit 2))
   (.seq (.block 3 (.seq (.region [⟨some 74, .iaddr 1 (.t 70) (.t 72), none⟩,
         ⟨some 75, .load false 1 (.t 74), none⟩,
         ⟨some 14, .mov (.t 75), none⟩])
      (.seq (.region [⟨some 77, .mov (.t 8), none⟩,
          ⟨some 78, .mov (.t 14), none⟩,
          ⟨some 79, .icall (.t 77) [(.t 78)], none⟩,
          ⟨some 76, .mov (.t 79), none⟩,
          ⟨some 80, .ext 0 (.t 76), none⟩,
          ⟨some 81, .ext 1 (.t 76), none⟩,
          ⟨some 15, .mov (.t 80), none⟩,
          ⟨some 16, .mov (.t 81), none⟩])
       (.seq (.region [⟨some 82, .mov (.t 16), none⟩])
        (.cond (.t 82)
         (.region [⟨some 83, .faddr 3 (.t 2), none⟩,
            ⟨some 84, .load false 1 (.t 83), none⟩,
            ⟨some 85, .mov (.t 15), none⟩,
            ⟨some 86, .bslice true [.int Go.IntKind.i64 0] 1 1 [(0, (.t 85))], none⟩,
            ⟨some 87, .append false 1 8 (.t 84) (.t 86), none⟩,
            ⟨some 88, .faddr 3 (.t 2), none⟩,
            ⟨none, .store 1 (.t 88) (.t 87), none⟩])
         (.skip))))))
    (.region [⟨some 89, .bin .add (.t 72) (.c (.int Go.IntKind.i64 1)), none⟩,
       ⟨some 72, .mov (.t 89), none⟩])))

def a17l1 : ACode := a17l1b
def a17l1s : List Nat := [0, 3, 4, 5, 6, 7, 9, 10, 11, 12, 13, 14, 15, 16, 17, 18, 19, 20, 21, 22, 23, 24, 25, 26, 27, 28, 29, 30, 31, 32, 33, 34, 35, 36, 37, 38, 39, 40, 41, 42, 43, 44, 45, 46, 47, 48, 49, 50, 51, 52, 53, 54, 55, 56, 57, 58, 59, 60, 61, 62, 63, 64, 65, 66, 67, 68, 69, 73, 74, 75, 76, 77, 78, 79, 80, 81, 82, 83, 84, 85, 86, 87, 88, 89, 90, 91, 92, 93, 94, 95, 96, 97, 98, 99, 100, 101, 102, 103, 104, 105, 106, 107, 108, 109, 110, 111, 112, 113, 114, 115, 116, 117, 118, 119, 120, 121, 122, 123, 124, 125, 126, 127, 128]
abbrev a17l1F (s1 s2 s8 s70 s71 s72 : AV) : List AV := [.any, s1, s2, .any, .any, .any, .any, .any, s8, .any, .any, .any, .any, .any, .any, .any, .any, .any, .any, .any, .any, .any, .any, .any, .any, .any, .any, .any, .any, .any, .any, .any, .any, .any, .any, .any, .any, .any, .any, .any, .any, .any, .any, .any, .any, .any, .any, .any, .any, .any, .any, .any, .any, .any, .any, .any, .any, .any, .any, .any, .any, .any, .any, .any, .any, .any, .any, .any, .any, .any, s70, s71, s72, .any, .any, .any, .any, .any, .any, .any, .any, .any, .any, .any, .any, .any, .any, .any, .any, .any, .any, .any, .any, .any, .any, .any, .any, .any, .any, .any, .any, .any, .any, .any, .any, .any, .any, .any, .any, .any, .any, .any, .any, .any, .any, .any, .any, .any, .any, .any, .any, .any, .any, .any, .any, .any, .any, .any, .any]
theorem a17l1c (s0 s1 s2 s3 s4 s5 s6 s7 s8 s9 s10 s11 s12 s13 s14 s15 s16 s17 s18 s19 s20 s21 s22 s23 s24 s25 s26 s27 s28 s29 s30 s31 s32 s33 s34 s35 s36 s37 s38 s39 s40 s41 s42 s43 s44 s45 s46 s47 s48 s49 s50 s51 s52 s53 s54 s55 s56 s57 s58 s59 s60 s61 s62 s63 s64 s65 s66 s67 s68 s69 s70 s71 s72 s73 s74 s75 s76 s77 s78 s79 s80 s81 s82 s83 s84 s85 s86 s87 s88 s89 s90 s91 s92 s93 s94 s95 s96 s97 s98 s99 s100 s101 s102 s103 s104 s105 s106 s107 s108 s109 s110 s111 s112 s113 s114 s115 s116 s117 s118 s119 s120 s121 s122 s123 s124 s125 s126 s127 s128 : AV) : clearA a17l1s [s0, s1, s2, s3, s4, s5, s6, s7, s8, s9, s10, s11, s12, s13, s14, s15, s16, s17, s18, s19, s20, s21, s22, s23, s24, s25, s26, s27, s28, s29, s30, s31, s32, s33, s34, s35, s36, s37, s38, s39, s40, s41, s42, s43, s44, s45, s46, s47, s48, s49, s50, s51, s52, s53, s54, s55, s56, s57, s58, s59, s60, s61, s62, s63, s64, s65, s66, s67, s68, s69, s70, s71, s72, s73, s74, s75, s76, s77, s78, s79, s80, s81, s82, s83, s84, s85, s86, s87, s88, s89, s90, s91, s92, s93, s94, s95, s96, s97, s98, s99, s100, s101, s102, s103, s104, s105, s106, s107, s108, s109, s110, s111, s112, s113, s114, s115, s116, s117, s118, s119, s120, s121, s122, s123, s124, s125, s126, s127, s128] = a17l1F s1 s2 s8 s70 s71 s72 := by kernel_rfl
theorem a17l1n {prog : Nat → Option AFunc} (s1 s2 s8 s70 s71 s72 : AV) (H : Heap) : (lim prog).loop a17l1s a17l1 ⟨a17l1F s1 s2 s8 s70 s71 s72, H⟩ = loopK (lim prog) a17l1s a17l1 (run (lim prog) a17l1b ⟨a17l1F s1 s2 s8 s70 s71 s72, H⟩) := lim_loop_step _ _ _ _ (by kernel_rfl)

def a17l2b : ACode :=
  .seq (.region [⟨some 94, .bin .lss (.t 93) (.t 92), none⟩])
  (.seq (.cond (.t 94)
    (.skip)
    (.exit 4))
   (.seq (.block 5 (.seq (.region [⟨some 95, .iaddr 4 (.t 91) (.t 93), none⟩,
         ⟨some 96, .load true 4 (.t 95), none⟩,
         ⟨some 18, .box (.c (.agg [.int Go.IntKind.i64 0, .int Go.IntKind.i64 0, .int Go.IntKind.u8 0, .int Go.IntKind.u8 0])), none⟩,
         ⟨none, .store 4 (.t 18) (.t 96), none⟩])
      (.seq (.region [⟨some 98, .mov (.t 8), none⟩,
          ⟨some 99, .faddr 0 (.t 18), none⟩,
          ⟨some 100, .load false 1 (.t 99), none⟩,
          ⟨some 101, .icall (.t 98) [(.t 100)], none⟩,
          ⟨some 97, .mov (.t 101), none⟩,
          ⟨some 102, .ext 0 (.t 97), none⟩,
          ⟨some 103, .ext 1 (.t 97), none⟩,
          ⟨some 19, .mov (.t 102), none⟩,
          ⟨some 20, .mov (.t 103), none⟩])
       (.seq (.region [⟨some 105, .mov (.t 8), none⟩,
           ⟨some 106, .faddr 1 (.t 18), none⟩,
           ⟨some 107, .load false 1 (.t 106), none⟩,
           ⟨some 108, .icall (.t 105) [(.t 107)], none⟩,
           ⟨some 104, .mov (.t 108), none⟩,
           ⟨some 109, .ext 0 (.t 104), none⟩,
           ⟨some 110, .ext 1 (.t 104), none⟩,
           ⟨some 21, .mov (.t 109), none⟩,
           ⟨some 22, .mov (.t 110), none⟩])
        (.seq (.region [⟨some 111, .mov (.t 20), none⟩,
            ⟨some 112, .mov (.t 111), none⟩,
            ⟨some 113, .mov (.t 22), some (112, true)⟩,
            ⟨some 114, .pick (.t 112) (.t 113) (.c (.bool false)), none⟩])
         (.cond (.t 114)
          (.region [⟨some 115, .faddr 4 (.t 2), none⟩,
             ⟨some 116, .load false 1 (.t 115), none⟩,
             ⟨some 117, .mov (.t 19), none⟩,
             ⟨some 118, .mov (.t 21), none⟩,
             ⟨some 119, .faddr 2 (.t 18), none⟩,
             ⟨some 120, .load false 1 (.t 119), none⟩,
             ⟨some 121, .faddr 3 (.t 18), none⟩,
             ⟨some 122, .load false 1 (.t 121), none⟩,
             ⟨some 123, .build [.int Go.IntKind.i64 0, .int Go.IntKind.i64 0, .int Go.IntKind.u8 0, .int Go.IntKind.u8 0] [(0, 1, (.t 117)), (1, 1, (.t 118)), (2, 1, (.t 120)), (3, 1, (.t 122))], none⟩,
             ⟨some 124, .bslice true [.int Go.IntKind.i64 0, .int Go.IntKind.i64 0, .int Go.IntKind.u8 0, .int Go.IntKind.u8 0] 4 1 [(0, (.t 123))], none⟩,
             ⟨some 125, .append false 4 24 (.t 116) (.t 124), none⟩,
             ⟨some 126, .faddr 4 (.t 2), none⟩,
             ⟨none, .store 1 (.t 126) (.t 125), none⟩])
          (.skip)))))))
    (.region [⟨some 127, .bin .add (.t 93) (.c (.int Go.IntKind.i64 1)), none⟩,
       ⟨some 93, .mov (.t 127), none⟩])))

def a17l2 : ACode := a17l2b
def a17l2s : List Nat := [0, 1, 3, 4, 5, 6, 7, 9, 10, 11, 12, 13, 14, 15, 16, 17, 18, 19, 20, 21, 22, 23, 24, 25, 26, 27, 28, 29, 30, 31, 32, 33, 34, 35, 36, 37, 38, 39, 40, 41, 42, 43, 44, 45, 46, 47, 48, 49, 50, 51, 52, 53, 54, 55, 56, 57, 58, 59, 60, 61, 62, 63, 64, 65, 66, 67, 68, 69, 70, 71, 72, 73, 74, 75, 76, 77, 78, 79, 80, 81, 82, 83, 84, 85, 86, 87, 88, 89, 90, 94, 95, 96, 97, 98, 99, 100, 101, 102, 103, 104, 105, 106, 107, 108, 109, 110, 111, 112, 113, 114, 115, 116, 117, 118, 119, 120, 121, 122, 123, 124, 125, 126, 127, 128]
abbrev a17l2F (s2 s8 s91 s92 s93 : AV) : List AV := [.any, .any, s2, .any, .any, .any, .any, .any, s8, .any, .any, .any, .any, .any, .any, .any, .any, .any, .any, .any, .any, .any, .any, .any, .any, .any, .any, .any, .any, .any, .any, .any, .any, .any, .any, .any, .any, .any, .any, .any, .any, .any, .any, .any, .any, .any, .any, .any, .any, .any, .any, .any, .any, .any, .any, .any, .any, .any, .any, .any, .any, .any, .any, .any, .any, .any, .any, .any, .any, .any, .any, .any, .any, .any, .any, .any, .any, .any, .any, .any, .any, .any, .any, .any, .any, .any, .any, .any, .any, .any, .any, s91, s92, s93, .any, .any, .any, .any, .any, .any, .any, .any, .any, .any, .any, .any, .any, .any, .any, .any, .any, .any, .any, .any, .any, .any, .any, .any, .any, .any, .any, .any, .any, .any, .any, .any, .any, .any, .any]
theorem a17l2c (s0 s1 s2 s3 s4 s5 s6 s7 s8 s9 s10 s11 s12 s13 s14 s15 s16 s17 s18 s19 s20 s21 s22 s23 s24 s25 s26 s27 s28 s29 s30 s31 s32 s33 s34 s35 s36 s37 s38 s39 s40 s41 s42 s43 s44 s45 s46 s47 s48 s49 s50 s51 s52 s53 s54 s55 s56 s57 s58 s59 s60 s61 s62 s63 s64 s65 s66 s67 s68 s69 s70 s71 s72 s73 s74 s75 s76 s77 s78 s79 s80 s81 s82 s83 s84 s85 s86 s87 s88 s89 s90 s91 s92 s93 s94 s95 s96 s97 s98 s99 s100 s101 s102 s103 s104 s105 s106 s107 s108 s109 s110 s111 s112 s113 s114 s115 s116 s117 s118 s119 s120 s121 s122 s123 s124 s125 s126 s127 s128 : AV) : clearA a17l2s [s0, s1, s2, s3, s4, s5, s6, s7, s8, s9, s10, s11, s12, s13, s14, s15, s16, s17, s18, s19, s20, s21, s22, s23, s24, s25, s26, s27, s28, s29, s30, s31, s32, s33, s34, s35, s36, s37, s38, s39, s40, s41, s42, s43, s44, s45, s46, s47, s48, s49, s50, s51, s52, s53, s54, s55, s56, s57, s58, s59, s60, s61, s62, s63, s64, s65, s66, s67, s68, s69, s70, s71, s72, s73, s74, s75, s76, s77, s78, s79, s80, s81, s82, s83, s84, s85, s86, s87, s88, s89, s90, s91, s92, s93, s94, s95, s96, s97, s98, s99, s100, s101, s102, s103, s104, s105, s106, s107, s108, s109, s110, s111, s112, s113, s114, s115, s116, s117, s118, s119, s120, s121, s122, s123, s124, s125, s126, s127, s128] = a17l2F s2 s8 s91 s92 s93 := by kernel_rfl
theorem a17l2n {prog : Nat → Option AFunc} (s2 s8 s91 s92 s93 : AV) (H : Heap) : (lim prog).loop a17l2s a17l2 ⟨a17l2F s2 s8 s91 s92 s93, H⟩ = loopK (lim prog) a17l2s a17l2 (run (lim prog) a17l2b ⟨a17l2F s2 s8 s91 s92 s93, H⟩) := lim_loop_step _ _ _ _ (by kernel_rfl)

/-- sentinel/nfa.Trim -/
def a17 : AFunc := ⟨129,
  .seq (.region [⟨some 1, .box (.t 0), none⟩,
     ⟨some 2, .box (.c (.agg [.int Go.IntKind.i64 0, .int Go.IntKind.i64 0, .sl true 0 [], .sl true 0 [], .sl true 0 []])), none⟩,
     ⟨some 3, .mov (.c (.int Go.IntKind.i64 0)), none⟩])
  (.seq (.region [⟨some 24, .load true 5 (.t 1), none⟩,
      ⟨some 25, .call 15 [(.t 24)], none⟩,
      ⟨some 23, .mov (.t 25), none⟩,
      ⟨some 26, .ext 0 (.t 23), none⟩,
      ⟨some 27, .ext 1 (.t 23), none⟩,
      ⟨some 4, .mov (.t 26), none⟩,
      ⟨some 3, .mov (.t 27), none⟩])
   (.seq (.seq (.region [⟨some 28, .mov (.t 3), none⟩,
        ⟨some 29, .bin .neq (.t 28) (.c (.int Go.IntKind.i64 0)), none⟩])
     (.cond (.t 29)
      (.seq (.region [⟨some 30, .build [.int Go.IntKind.i64 0, .int Go.IntKind.i64 0, .sl true 0 [], .sl true 0 [], .sl true 0 []] [], none⟩,
          ⟨some 31, .mov (.t 3), none⟩,
          ⟨none, .store 5 (.t 2) (.t 30), none⟩,
          ⟨some 3, .mov (.t 31), none⟩])
       (.ret))
      (.skip)))
    (.seq (.region [⟨some 33, .load true 5 (.t 1), none⟩,
        ⟨some 34, .call 16 [(.t 33)], none⟩,
        ⟨some 32, .mov (.t 34), none⟩,
        ⟨some 35, .ext 0 (.t 32), none⟩,
        ⟨some 36, .ext 1 (.t 32), none⟩,
        ⟨some 5, .mov (.t 35), none⟩,
        ⟨some 6, .mov (.t 36), none⟩])
     (.seq (.region [⟨some 37, .mov (.t 4), none⟩,
         ⟨some 38, .mov (.t 5), none⟩,
         ⟨some 39, .call 45 [(.t 37), (.t 38)], none⟩,
         ⟨some 40, .call 44 [(.t 39)], none⟩,
         ⟨some 7, .box (.c (.sl true 0 [])), none⟩,
         ⟨none, .store 1 (.t 7) (.t 40), none⟩])
      (.seq (.region [⟨some 41, .mkfunc 46 [(.t 7)], none⟩,
          ⟨some 8, .mov (.t 41), none⟩])
       (.seq (.drawl [(7, (1, (46, 1)))] 4 [⟨some 42, .faddr 0 (.t 1), none⟩,
           ⟨some 43, .load false 1 (.t 42), none⟩,
           ⟨some 44, .load false 1 (.t 7), none⟩,
           ⟨some 45, .len (.t 44), none⟩,
           ⟨some 46, .faddr 0 (.t 2), none⟩,
           ⟨none, .store 1 (.t 46) (.t 43), none⟩,
           ⟨some 47, .faddr 1 (.t 2), none⟩,
           ⟨none, .store 1 (.t 47) (.t 45), none⟩])
        (.seq (.seq (.region [⟨some 48, .faddr 2 (.t 1), none⟩,
             ⟨some 49, .load false 1 (.t 48), none⟩,
             ⟨some 50, .len (.t 49), none⟩,
             ⟨some 51, .mov (.c (.int Go.IntKind.i64 0)), none⟩])
          (.block 0 (.loop a17l0s a17l0)))
         (.seq (.seq (.region [⟨some 69, .faddr 3 (.t 1), none⟩,
              ⟨some 70, .load false 1 (.t 69), none⟩,
              ⟨some 71, .len (.t 70), none⟩,
              ⟨some 72, .mov (.c (.int Go.IntKind.i64 0)), none⟩])
           (.block 2 (.loop a17l1s a17l1)))
          (.seq (.seq (.region [⟨some 90, .faddr 4 (.t 1), none⟩,
               ⟨some 91, .load false 1 (.t 90), none⟩,
               ⟨some 92, .len (.t 91), none⟩,
               ⟨some 93, .mov (.c (.int Go.IntKind.i64 0)), none⟩])
            (.block 4 (.loop a17l2s a17l2)))
           (.seq (.region [⟨some 128, .load true 5 (.t 2), none⟩,
               ⟨none, .store 5 (.t 2) (.t 128), none⟩,
               ⟨some 3, .mov (.c (.int Go.IntKind.i64 0)), none⟩])
            (.ret))))))))))),
  [.cell 2 true 5, .tmp 3]⟩

def a18l0b : ACode :=
  .seq (.region [⟨some 29, .bin .lss (.t 28) (.t 27), none⟩])
  (.seq (.cond (.t 29)
    (.skip)
    (.exit 0))
   (.seq (.block 1 (.seq (.region [⟨some 30, .iaddr 4 (.t 26) (.t 28), none⟩,
         ⟨some 31, .load true 4 (.t 30), none⟩,
         ⟨some 7, .box (.c (.agg [.int Go.IntKind.i64 0, .int Go.IntKind.i64 0, .int Go.IntKind.u8 0, .int Go.IntKind.u8 0])), none⟩,
         ⟨none, .store 4 (.t 7) (.t 31), none⟩])
      (.region [⟨some 32, .faddr 4 (.t 5), none⟩,
         ⟨some 33, .load false 1 (.t 32), none⟩,
         ⟨some 34, .faddr 1 (.t 7), none⟩,
         ⟨some 35, .load false 1 (.t 34), none⟩,
         ⟨some 36, .faddr 0 (.t 7), none⟩,
         ⟨some 37, .load false 1 (.t 36), none⟩,
         ⟨some 38, .faddr 2 (.t 7), none⟩,
         ⟨some 39, .load false 1 (.t 38), none⟩,
         ⟨some 40, .faddr 3 (.t 7), none⟩,
         ⟨some 41, .load false 1 (.t 40), none⟩,
         ⟨some 42, .build [.int Go.IntKind.i64 0, .int Go.IntKind.i64 0, .int Go.IntKind.u8 0, .int Go.IntKind.u8 0] [(0, 1, (.t 35)), (1, 1, (.t 37)), (2, 1, (.t 39)), (3, 1, (.t 41))], none⟩,
         ⟨some 43, .bslice true [.int Go.IntKind.i64 0, .int Go.IntKind.i64 0, .int Go.IntKind.u8 0, .int Go.IntKind.u8 0] 4 1 [(0, (.t 42))], none⟩,
         ⟨some 44, .append false 4 24 (.t 33) (.t 43), none⟩,
         ⟨some 45, .faddr 4 (.t 5), none⟩,
         ⟨none, .store 1 (.t 45) (.t 44), none⟩])))
    (.region [⟨some 46, .bin .add (.t 28) (.c (.int Go.IntKind.i64 1)), none⟩,
       ⟨some 28, .mov (.t 46), none⟩])))

def a18l0 : ACode := a18l0b
def a18l0s : List Nat := [0, 1, 3, 4, 6, 7, 8, 9, 10, 11, 12, 13, 14, 15, 16, 17, 18, 19, 20, 21, 22, 23, 24, 25, 29, 30, 31, 32, 33, 34, 35, 36, 37, 38, 39, 40, 41, 42, 43, 44, 45, 46, 47]
abbrev a18l0F (s2 s5 s26 s27 s28 : AV) : List AV := [.any, .any, s2, .any, .any, s5, .any, .any, .any, .any, .any, .any, .any, .any, .any, .any, .any, .any, .any, .any, .any, .any, .any, .any, .any, .any, s26, s27, s28, .any, .any, .any, .any, .any, .any, .any, .any, .any, .any, .any, .any, .any, .any, .any, .any, .any, .any, .any]
theorem a18l0c (s0 s1 s2 s3 s4 s5 s6 s7 s8 s9 s10 s11 s12 s13 s14 s15 s16 s17 s18 s19 s20 s21 s22 s23 s24 s25 s26 s27 s28 s29 s30 s31 s32 s33 s34 s35 s36 s37 s38 s39 s40 s41 s42 s43 s44 s45 s46 s47 : AV) : clearA a18l0s [s0, s1, s2, s3, s4, s5, s6, s7, s8, s9, s10, s11, s12, s13, s14, s15, s16, s17, s18, s19, s20, s21, s22, s23, s24, s25, s26, s27, s28, s29, s30, s31, s32, s33, s34, s35, s36, s37, s38, s39, s40, s41, s42, s43, s44, s45, s46, s47] = a18l0F s2 s5 s26 s27 s28 := by kernel_rfl
theorem a18l0n {prog : Nat → Option AFunc} (s2 s5 s26 s27 s28 : AV) (H : Heap) : (lim prog).loop a18l0s a18l0 ⟨a18l0F s2 s5 s26 s27 s28, H⟩ = loopK (lim prog) a18l0s a18l0 (run (lim prog) a18l0b ⟨a18l0F s2 s5 s26 s27 s28, H⟩) := lim_loop_step _ _ _ _ (by kernel_rfl)

/-- sentinel/nfa.Reverse -/
def a18 : AFunc := ⟨48,
  .seq (.region [⟨some 1, .box (.t 0), none⟩,
     ⟨some 2, .box (.c (.agg [.int Go.IntKind.i64 0, .int Go.IntKind.i64 0, .sl true 0 [], .sl true 0 [], .sl true 0 []])), none⟩,
     ⟨some 3, .mov (.c (.int Go.IntKind.i64 0)), none⟩])
  (.seq (.seq (.region [⟨some 8, .load true 5 (.t 1), none⟩,
       ⟨some 9, .call 26 [(.t 8)], none⟩,
       ⟨some 4, .mov (.t 9), none⟩])
    (.seq (.region [⟨some 10, .mov (.t 4), none⟩,
        ⟨some 11, .bin .neq (.t 10) (.c (.int Go.IntKind.i64 0)), none⟩])
     (.cond (.t 11)
      (.seq (.region [⟨some 12, .build [.int Go.IntKind.i64 0, .int Go.IntKind.i64 0, .sl true 0 [], .sl true 0 [], .sl true 0 []] [], none⟩,
          ⟨some 13, .mov (.t 4), none⟩,
          ⟨none, .store 5 (.t 2) (.t 12), none⟩,
          ⟨some 3, .mov (.t 13), none⟩])
       (.ret))
      (.skip))))
   (.seq (.draw 12 [⟨some 14, .faddr 0 (.t 1), none⟩,
       ⟨some 15, .load false 1 (.t 14), none⟩,
       ⟨some 16, .faddr 1 (.t 1), none⟩,
       ⟨some 17, .load false 1 (.t 16), none⟩,
       ⟨some 18, .faddr 3 (.t 1), none⟩,
       ⟨some 19, .load false 1 (.t 18), none⟩,
       ⟨some 20, .call 48 [(.t 19)], none⟩,
       ⟨some 21, .faddr 2 (.t 1), none⟩,
       ⟨some 22, .load false 1 (.t 21), none⟩,
       ⟨some 23, .call 48 [(.t 22)], none⟩,
       ⟨some 24, .build [.int Go.IntKind.i64 0, .int Go.IntKind.i64 0, .sl true 0 [], .sl true 0 [], .sl true 0 []] [(0, 1, (.t 15)), (1, 1, (.t 17)), (2, 1, (.t 20)), (3, 1, (.t 23))], none⟩,
       ⟨some 5, .box (.c (.agg [.int Go.IntKind.i64 0, .int Go.IntKind.i64 0, .sl true 0 [], .sl true 0 [], .sl true 0 []])), none⟩,
       ⟨none, .store 5 (.t 5) (.t 24), none⟩])
    (.seq (.seq (.region [⟨some 25, .faddr 4 (.t 1), none⟩,
         ⟨some 26, .load false 1 (.t 25), none⟩,
         ⟨some 27, .len (.t 26), none⟩,
         ⟨some 28, .mov (.c (.int Go.IntKind.i64 0)), none⟩])
      (.block 0 (.loop a18l0s a18l0)))
     (.seq (.region [⟨some 47, .load true 5 (.t 5), none⟩,
         ⟨none, .store 5 (.t 2) (.t 47), none⟩,
         ⟨some 3, .mov (.c (.int Go.IntKind.i64 0)), none⟩])
      (.ret))))),
  [.cell 2 true 5, .tmp 3]⟩

def a20l0b : ACode :=
  .seq (.seq (.region [⟨some 11, .mov (.t 5), none⟩,
      ⟨some 12, .mov (.t 0), none⟩,
      ⟨some 13, .len (.t 12), none⟩,
      ⟨some 14, .bin .lss (.t 11) (.t 13), none⟩])
   (.cond (.t 14)
    (.skip)
    (.exit 0)))
  (.seq (.block 1 (.seq (.draw 8 [⟨some 17, .mov (.t 0), none⟩,
        ⟨some 18, .mov (.t 5), none⟩,
        ⟨some 19, .iaddr 1 (.t 17) (.t 18), none⟩,
        ⟨some 20, .load false 1 (.t 19), none⟩,
        ⟨some 21, .mov (.t 1), none⟩,
        ⟨some 22, .mov (.t 5), none⟩,
        ⟨some 23, .iaddr 1 (.t 21) (.t 22), none⟩,
        ⟨some 24, .load false 1 (.t 23), none⟩,
        ⟨some 25, .bin .neq (.t 20) (.t 24), none⟩])
     (.cond (.t 25)
      (.seq (.region [⟨some 4, .mov (.c (.bool false)), none⟩])
       (.ret))
      (.skip))))
   (.region [⟨some 15, .mov (.t 5), none⟩,
      ⟨some 16, .bin .add (.t 15) (.c (.int Go.IntKind.i64 1)), none⟩,
      ⟨some 5, .mov (.t 16), none⟩]))

def a20l0 : ACode := a20l0b
def a20l0s : List Nat := [2, 3, 6, 7, 8, 9, 10, 11, 12, 13, 14, 15, 16, 17, 18, 19, 20, 21, 22, 23, 24, 25]
abbrev a20l0F (s0 s1 s4 s5 : AV) : List AV := [s0, s1, .any, .any, s4, s5, .any, .any, .any, .any, .any, .any, .any, .any, .any, .any, .any, .any, .any, .any, .any, .any, .any, .any, .any, .any]
theorem a20l0c (s0 s1 s2 s3 s4 s5 s6 s7 s8 s9 s10 s11 s12 s13 s14 s15 s16 s17 s18 s19 s20 s21 s22 s23 s24 s25 : AV) : clearA a20l0s [s0, s1, s2, s3, s4, s5, s6, s7, s8, s9, s10, s11, s12, s13, s14, s15, s16, s17, s18, s19, s20, s21, s22, s23, s24, s25] = a20l0F s0 s1 s4 s5 := by kernel_rfl
theorem a20l0n {prog : Nat → Option AFunc} (s0 s1 s4 s5 : AV) (H : Heap) : (lim prog).loop a20l0s a20l0 ⟨a20l0F s0 s1 s4 s5, H⟩ = loopK (lim prog) a20l0s a20l0 (run (lim prog) a20l0b ⟨a20l0F s0 s1 s4 s5, H⟩) := lim_loop_step _ _ _ _ (by kernel_rfl)

/-- sentinel/sentinelkit.EqualSet -/
def a20 : AFunc := ⟨26,
  .seq (.region [⟨some 4, .mov (.c (.bool false)), none⟩])
  (.seq (.seq (.region [⟨some 6, .mov (.t 0), none⟩,
       ⟨some 7, .len (.t 6), none⟩,
       ⟨some 8, .mov (.t 1), none⟩,
       ⟨some 9, .len (.t 8), none⟩,
       ⟨some 10, .bin .neq (.t 7) (.t 9), none⟩])
    (.cond (.t 10)
     (.seq (.region [⟨some 4, .mov (.c (.bool false)), none⟩])
      (.ret))
     (.skip)))
   (.seq (.seq (.region [⟨some 5, .mov (.c (.int Go.IntKind.i64 0)), none⟩])
     (.block 0 (.loop a20l0s a20l0)))
    (.seq (.region [⟨some 4, .mov (.c (.bool true)), none⟩])
     (.ret)))),
  [.tmp 4]⟩

/-- sentinel/sentinelkit.EqualNFA -/
def a22 : AFunc := ⟨38,
  .seq (.region [⟨some 2, .box (.t 0), none⟩,
     ⟨some 3, .box (.t 1), none⟩,
     ⟨some 4, .mov (.c (.bool false)), none⟩])
  (.seq (.region [⟨some 5, .faddr 0 (.t 2), none⟩,
      ⟨some 6, .load false 1 (.t 5), none⟩,
      ⟨some 7, .faddr 0 (.t 3), none⟩,
      ⟨some 8, .load false 1 (.t 7), none⟩,
      ⟨some 9, .bin .eql (.t 6) (.t 8), none⟩,
      ⟨some 10, .mov (.t 9), none⟩,
      ⟨some 11, .faddr 1 (.t 2), some (10, true)⟩,
      ⟨some 12, .load false 1 (.t 11), some (10, true)⟩,
      ⟨some 13, .faddr 1 (.t 3), some (10, true)⟩,
      ⟨some 14, .load false 1 (.t 13), some (10, true)⟩,
      ⟨some 15, .bin .eql (.t 12) (.t 14), some (10, true)⟩,
      ⟨some 16, .pick (.t 10) (.t 15) (.c (.bool false)), none⟩,
      ⟨some 17, .mov (.t 16), none⟩,
      ⟨some 18, .faddr 2 (.t 2), some (17, true)⟩,
      ⟨some 19, .load false 1 (.t 18), some (17, true)⟩,
      ⟨some 20, .faddr 2 (.t 3), some (17, true)⟩,
      ⟨some 21, .load false 1 (.t 20), some (17, true)⟩,
      ⟨some 22, .call 31 [(.t 19), (.t 21)], some (17, true)⟩,
      ⟨some 23, .pick (.t 17) (.t 22) (.c (.bool false)), none⟩,
      ⟨some 24, .mov (.t 23), none⟩,
      ⟨some 25, .faddr 3 (.t 2), some (24, true)⟩,
      ⟨some 26, .load false 1 (.t 25), some (24, true)⟩,
      ⟨some 27, .faddr 3 (.t 3), some (24, true)⟩,
      ⟨some 28, .load false 1 (.t 27), some (24, true)⟩,
      ⟨some 29, .call 31 [(.t 26), (.t 28)], some (24, true)⟩,
      ⟨some 30, .pick (.t 24) (.t 29) (.c (.bool false)), none⟩,
      ⟨some 31, .mov (.t 30), none⟩,
      ⟨some 32, .faddr 4 (.t 2), some (31, true)⟩,
      ⟨some 33, .load false 1 (.t 32), some (31, true)⟩,
      ⟨some 34, .faddr 4 (.t 3), some (31, true)⟩,
      ⟨some 35, .load false 1 (.t 34), some (31, true)⟩,
      ⟨some 36, .call 50 [(.t 33), (.t 35)], some (31, true)⟩,
      ⟨some 37, .pick (.t 31) (.t 36) (.c (.bool false)), none⟩,
      ⟨some 4, .mov (.t 37), none⟩])
   (.ret)),
  [.tmp 4]⟩

/-- sentinel/nfa.Accepts -/
def a25 : AFunc := ⟨24,
  .seq (.region [⟨some 2, .box (.t 0), none⟩,
     ⟨some 4, .mov (.c (.bool false)), none⟩,
     ⟨some 5, .mov (.c (.int Go.IntKind.i64 0)), none⟩])
  (.seq (.region [⟨some 9, .load true 5 (.t 2), none⟩,
      ⟨some 10, .mov (.t 1), none⟩,
      ⟨some 11, .call 30 [(.t 9), (.t 10)], none⟩,
      ⟨some 8, .mov (.t 11), none⟩,
      ⟨some 12, .ext 0 (.t 8), none⟩,
      ⟨some 13, .ext 1 (.t 8), none⟩,
      ⟨some 6, .mov (.t 12), none⟩,
      ⟨some 7, .mov (.t 13), none⟩])
   (.seq (.region [⟨some 14, .mov (.t 7), none⟩,
       ⟨some 15, .bin .eql (.t 14) (.c (.int Go.IntKind.i64 0)), none⟩,
       ⟨some 16, .mov (.t 15), none⟩,
       ⟨some 17, .mov (.t 6), some (16, true)⟩,
       ⟨some 18, .faddr 3 (.t 2), some (16, true)⟩,
       ⟨some 19, .load false 1 (.t 18), some (16, true)⟩,
       ⟨some 20, .call 43 [(.t 19)], some (16, true)⟩,
       ⟨some 21, .call 53 [(.t 17), (.t 20)], some (16, true)⟩,
       ⟨some 22, .pick (.t 16) (.t 21) (.c (.bool false)), none⟩,
       ⟨some 23, .mov (.t 7), none⟩,
       ⟨some 4, .mov (.t 22), none⟩,
       ⟨some 5, .mov (.t 23), none⟩])
    (.ret))),
  [.tmp 4, .tmp 5]⟩

def a26l0b : ACode :=
  .seq (.region [⟨some 19, .bin .lss (.t 18) (.t 17), none⟩])
  (.seq (.cond (.t 19)
    (.skip)
    (.exit 0))
   (.seq (.block 1 (.seq (.region [⟨some 20, .iaddr 2 (.t 16) (.t 18), none⟩,
         ⟨some 21, .load true 2 (.t 20), none⟩,
         ⟨some 4, .box (.c (.agg [.nilf, .int Go.IntKind.i64 0])), none⟩,
         ⟨none, .store 2 (.t 4) (.t 21), none⟩])
      (.seq (.region [⟨some 22, .faddr 0 (.t 4), none⟩,
          ⟨some 23, .load false 1 (.t 22), none⟩,
          ⟨some 24, .icall (.t 23) [], none⟩])
       (.cond (.t 24)
        (.seq (.region [⟨some 25, .faddr 1 (.t 4), none⟩,
            ⟨some 26, .load false 1 (.t 25), none⟩,
            ⟨some 2, .mov (.t 26), none⟩])
         (.ret))
        (.skip)))))
    (.region [⟨some 27, .bin .add (.t 18) (.c (.int Go.IntKind.i64 1)), none⟩,
       ⟨some 18, .mov (.t 27), none⟩])))

def a26l0 : ACode := a26l0b
def a26l0s : List Nat := [0, 3, 4, 5, 6, 7, 8, 9, 10, 11, 12, 13, 14, 15, 19, 20, 21, 22, 23, 24, 25, 26, 27, 28, 29, 30, 31, 32, 33, 34, 35, 36, 37, 38, 39, 40, 41, 42, 43, 44, 45, 46, 47, 48, 49, 50, 51, 52, 53, 54, 55, 56, 57, 58, 59, 60, 61, 62]
abbrev a26l0F (s1 s2 s16 s17 s18 : AV) : List AV := [.any, s1, s2, .any, .any, .any, .any, .any, .any, .any, .any, .any, .any, .any, .any, .any, s16, s17, s18, .any, .any, .any, .any, .any, .any, .any, .any, .any, .any, .any, .any, .any, .any, .any, .any, .any, .any, .any, .any, .any, .any, .any, .any, .any, .any, .any, .any, .any, .any, .any, .any, .any, .any, .any, .any, .any, .any, .any, .any, .any, .any, .any, .any]
theorem a26l0c (s0 s1 s2 s3 s4 s5 s6 s7 s8 s9 s10 s11 s12 s13 s14 s15 s16 s17 s18 s19 s20 s21 s22 s23 s24 s25 s26 s27 s28 s29 s30 s31 s32 s33 s34 s35 s36 s37 s38 s39 s40 s41 s42 s43 s44 s45 s46 s47 s48 s49 s50 s51 s52 s53 s54 s55 s56 s57 s58 s59 s60 s61 s62 : AV) : clearA a26l0s [s0, s1, s2, s3, s4, s5, s6, s7, s8, s9, s10, s11, s12, s13, s14, s15, s16, s17, s18, s19, s20, s21, s22, s23, s24, s25, s26, s27, s28, s29, s30, s31, s32, s33, s34, s35, s36, s37, s38, s39, s40, s41, s42, s43, s44, s45, s46, s47, s48, s49, s50, s51, s52, s53, s54, s55, s56, s57, s58, s59, s60, s61, s62] = a26l0F s1 s2 s16 s17 s18 := by kernel_rfl
theorem a26l0n {prog : Nat → Option AFunc} (s1 s2 s16 s17 s18 : AV) (H : Heap) : (lim prog).loop a26l0s a26l0 ⟨a26l0F s1 s2 s16 s17 s18, H⟩ = loopK (lim prog) a26l0s a26l0 (run (lim prog) a26l0b ⟨a26l0F s1 s2 s16 s17 s18, H⟩) := lim_loop_step _ _ _ _ (by kernel_rfl)

def a26l1b : ACode :=
  .seq (.region [⟨some 32, .bin .lss (.t 31) (.t 30), none⟩])
  (.seq (.cond (.t 32)
    (.skip)
    (.exit 2))
   (.seq (.block 3 (.seq (.region [⟨some 33, .iaddr 4 (.t 29) (.t 31), none⟩,
         ⟨some 34, .load true 4 (.t 33), none⟩,
         ⟨some 6, .box (.c (.agg [.int Go.IntKind.i64 0, .int Go.IntKind.i64 0, .int Go.IntKind.u8 0, .int Go.IntKind.u8 0])), none⟩,
         ⟨none, .store 4 (.t 6) (.t 34), none⟩])
      (.seq (.seq (.region [⟨some 35, .faddr 0 (.t 6), none⟩,
           ⟨some 36, .load false 1 (.t 35), none⟩,
           ⟨some 37, .faddr 1 (.t 6), none⟩,
           ⟨some 38, .load false 1 (.t 37), none⟩,
           ⟨some 39, .mini (.t 36) (.t 38), none⟩,
           ⟨some 40, .bin .lss (.t 39) (.c (.int Go.IntKind.i64 0)), none⟩,
           ⟨some 41, .mov (.t 40), none⟩,
           ⟨some 42, .faddr 0 (.t 6), some (41, false)⟩,
           ⟨some 43, .load false 1 (.t 42), some (41, false)⟩,
           ⟨some 44, .faddr 1 (.t 6), some (41, false)⟩,
           ⟨some 45, .load false 1 (.t 44), some (41, false)⟩,
           ⟨some 46, .maxi (.t 43) (.t 45), some (41, false)⟩,
           ⟨some 47, .faddr 1 (.t 1), some (41, false)⟩,
           ⟨some 48, .load false 1 (.t 47), some (41, false)⟩,
           ⟨some 49, .bin .geq (.t 46) (.t 48), some (41, false)⟩,
           ⟨some 50, .pick (.t 41) (.c (.bool true)) (.t 49), none⟩])
        (.cond (.t 50)
         (.seq (.region [⟨some 2, .mov (.c (.int Go.IntKind.i64 8)), none⟩])
          (.ret))
         (.skip)))
       (.seq (.region [⟨some 51, .faddr 2 (.t 6), none⟩,
           ⟨some 52, .load false 1 (.t 51), none⟩,
           ⟨some 53, .faddr 3 (.t 6), none⟩,
           ⟨some 54, .load false 1 (.t 53), none⟩,
           ⟨some 55, .build [.int Go.IntKind.u8 0, .int Go.IntKind.u8 0] [(0, 1, (.t 52)), (1, 1, (.t 54))], none⟩,
           ⟨some 56, .faddr 0 (.t 1), none⟩,
           ⟨some 57, .load false 1 (.t 56), none⟩,
           ⟨some 58, .call 59 [(.t 55), (.t 57)], none⟩,
           ⟨some 7, .mov (.t 58), none⟩])
        (.seq (.region [⟨some 59, .mov (.t 7), none⟩,
            ⟨some 60, .bin .neq (.t 59) (.c (.int Go.IntKind.i64 0)), none⟩])
         (.cond (.t 60)
          (.seq (.region [⟨some 61, .mov (.t 7), none⟩,
              ⟨some 2, .mov (.t 61), none⟩])
           (.ret))
          (.skip)))))))
    (.region [⟨some 62, .bin .add (.t 31) (.c (.int Go.IntKind.i64 1)), none⟩,
       ⟨some 31, .mov (.t 62), none⟩])))

def a26l1 : ACode := a26l1b
def a26l1s : List Nat := [0, 3, 4, 5, 6, 7, 8, 9, 10, 11, 12, 13, 14, 15, 16, 17, 18, 19, 20, 21, 22, 23, 24, 25, 26, 27, 28, 32, 33, 34, 35, 36, 37, 38, 39, 40, 41, 42, 43, 44, 45, 46, 47, 48, 49, 50, 51, 52, 53, 54, 55, 56, 57, 58, 59, 60, 61, 62]
abbrev a26l1F (s1 s2 s29 s30 s31 : AV) : List AV := [.any, s1, s2, .any, .any, .any, .any, .any, .any, .any, .any, .any, .any, .any, .any, .any, .any, .any, .any, .any, .any, .any, .any, .any, .any, .any, .any, .any, .any, s29, s30, s31, .any, .any, .any, .any, .any, .any, .any, .any, .any, .any, .any, .any, .any, .any, .any, .any, .any, .any, .any, .any, .any, .any, .any, .any, .any, .any, .any, .any, .any, .any, .any]
theorem a26l1c (s0 s1 s2 s3 s4 s5 s6 s7 s8 s9 s10 s11 s12 s13 s14 s15 s16 s17 s18 s19 s20 s21 s22 s23 s24 s25 s26 s27 s28 s29 s30 s31 s32 s33 s34 s35 s36 s37 s38 s39 s40 s41 s42 s43 s44 s45 s46 s47 s48 s49 s50 s51 s52 s53 s54 s55 s56 s57 s58 s59 s60 s61 s62 : AV) : clearA a26l1s [s0, s1, s2, s3, s4, s5, s6, s7, s8, s9, s10, s11, s12, s13, s14, s15, s16, s17, s18, s19, s20, s21, s22, s23, s24, s25, s26, s27, s28, s29, s30, s31, s32, s33, s34, s35, s36, s37, s38, s39, s40, s41, s42, s43, s44, s45, s46, s47, s48, s49, s50, s51, s52, s53, s54, s55, s56, s57, s58, s59, s60, s61, s62] = a26l1F s1 s2 s29 s30 s31 := by kernel_rfl
theorem a26l1n {prog : Nat → Option AFunc} (s1 s2 s29 s30 s31 : AV) (H : Heap) : (lim prog).loop a26l1s a26l1 ⟨a26l1F s1 s2 s29 s30 s31, H⟩ = loopK (lim prog) a26l1s a26l1 (run (lim prog) a26l1b ⟨a26l1F s1 s2 s29 s30 s31, H⟩) := lim_loop_step _ _ _ _ (by kernel_rfl)

/-- sentinel/nfa.Check -/
def a26 : AFunc := ⟨63,
  .seq (.region [⟨some 1, .box (.t 0), none⟩,
     ⟨some 2, .mov (.c (.int Go.IntKind.i64 0)), none⟩])
  (.seq (.seq (.region [⟨some 8, .mkfunc 54 [(.t 1)], none⟩,
       ⟨some 9, .build [.nilf, .int Go.IntKind.i64 0] [(0, 1, (.t 8)), (1, 1, (.c (.int Go.IntKind.i64 7)))], none⟩,
       ⟨some 10, .mkfunc 55 [(.t 1)], none⟩,
       ⟨some 11, .build [.nilf, .int Go.IntKind.i64 0] [(0, 1, (.t 10)), (1, 1, (.c (.int Go.IntKind.i64 1)))], none⟩,
       ⟨some 12, .mkfunc 56 [(.t 1)], none⟩,
       ⟨some 13, .build [.nilf, .int Go.IntKind.i64 0] [(0, 1, (.t 12)), (1, 1, (.c (.int Go.IntKind.i64 4)))], none⟩,
       ⟨some 14, .mkfunc 57 [(.t 1)], none⟩,
       ⟨some 15, .build [.nilf, .int Go.IntKind.i64 0] [(0, 1, (.t 14)), (1, 1, (.c (.int Go.IntKind.i64 8)))], none⟩,
       ⟨some 16, .bslice false [.nilf, .int Go.IntKind.i64 0] 2 4 [(0, (.t 9)), (1, (.t 11)), (2, (.t 13)), (3, (.t 15))], none⟩,
       ⟨some 17, .len (.t 16), none⟩,
       ⟨some 18, .mov (.c (.int Go.IntKind.i64 0)), none⟩])
    (.block 0 (.loop a26l0s a26l0)))
   (.seq (.seq (.region [⟨some 28, .faddr 4 (.t 1), none⟩,
        ⟨some 29, .load false 1 (.t 28), none⟩,
        ⟨some 30, .len (.t 29), none⟩,
        ⟨some 31, .mov (.c (.int Go.IntKind.i64 0)), none⟩])
     (.block 2 (.loop a26l1s a26l1)))
    (.seq (.region [⟨some 2, .mov (.c (.int Go.IntKind.i64 0)), none⟩])
     (.ret)))),
  [.tmp 2]⟩

/-- sentinel/sentinellaw06.second -/
def a27 : AFunc := ⟨8,
  .seq (.region [⟨some 0, .box (.c (.agg [.int Go.IntKind.i64 0, .int Go.IntKind.i64 0, .sl true 0 [], .sl true 0 [], .sl true 0 []])), none⟩])
  (.seq (.region [⟨some 1, .bslice true [.int Go.IntKind.i64 0] 1 1 [(0, (.c (.int Go.IntKind.i64 0)))], none⟩,
      ⟨some 2, .bslice true [.int Go.IntKind.i64 0] 1 1 [(0, (.c (.int Go.IntKind.i64 2)))], none⟩,
      ⟨some 3, .build [.int Go.IntKind.i64 0, .int Go.IntKind.i64 0, .int Go.IntKind.u8 0, .int Go.IntKind.u8 0] [(0, 1, (.c (.int Go.IntKind.i64 0))), (1, 1, (.c (.int Go.IntKind.i64 0)))], none⟩,
      ⟨some 4, .build [.int Go.IntKind.i64 0, .int Go.IntKind.i64 0, .int Go.IntKind.u8 0, .int Go.IntKind.u8 0] [(0, 1, (.c (.int Go.IntKind.i64 0))), (1, 1, (.c (.int Go.IntKind.i64 1))), (2, 1, (.c (.int Go.IntKind.u8 1)))], none⟩,
      ⟨some 5, .build [.int Go.IntKind.i64 0, .int Go.IntKind.i64 0, .int Go.IntKind.u8 0, .int Go.IntKind.u8 0] [(0, 1, (.c (.int Go.IntKind.i64 1))), (1, 1, (.c (.int Go.IntKind.i64 2)))], none⟩,
      ⟨some 6, .bslice true [.int Go.IntKind.i64 0, .int Go.IntKind.i64 0, .int Go.IntKind.u8 0, .int Go.IntKind.u8 0] 4 3 [(0, (.t 3)), (1, (.t 4)), (2, (.t 5))], none⟩,
      ⟨some 7, .build [.int Go.IntKind.i64 0, .int Go.IntKind.i64 0, .sl true 0 [], .sl true 0 [], .sl true 0 []] [(0, 1, (.c (.int Go.IntKind.i64 1))), (1, 1, (.c (.int Go.IntKind.i64 3))), (2, 1, (.t 1)), (3, 1, (.t 2)), (4, 1, (.t 6))], none⟩,
      ⟨none, .store 5 (.t 0) (.t 7), none⟩])
   (.ret)),
  [.cell 0 true 5]⟩

def a29l0b : ACode :=
  .seq (.region [⟨some 9, .bin .lss (.t 8) (.t 7), none⟩])
  (.seq (.cond (.t 9)
    (.skip)
    (.exit 0))
   (.seq (.block 1 (.seq (.region [⟨some 10, .iaddr 1 (.t 6) (.t 8), none⟩,
         ⟨some 11, .load false 1 (.t 10), none⟩,
         ⟨some 4, .mov (.t 11), none⟩])
      (.region [⟨some 12, .mov (.t 2), none⟩,
         ⟨some 13, .mov (.t 4), none⟩,
         ⟨some 14, .call 63 [(.t 13)], none⟩,
         ⟨some 15, .bin .add (.t 12) (.t 14), none⟩,
         ⟨some 2, .mov (.t 15), none⟩])))
    (.region [⟨some 16, .bin .add (.t 8) (.c (.int Go.IntKind.i64 1)), none⟩,
       ⟨some 8, .mov (.t 16), none⟩])))

def a29l0 : ACode := a29l0b
def a29l0s : List Nat := [0, 1, 3, 4, 5, 9, 10, 11, 12, 13, 14, 15, 16, 17]
abbrev a29l0F (s2 s6 s7 s8 : AV) : List AV := [.any, .any, s2, .any, .any, .any, s6, s7, s8, .any, .any, .any, .any, .any, .any, .any, .any, .any]
theorem a29l0c (s0 s1 s2 s3 s4 s5 s6 s7 s8 s9 s10 s11 s12 s13 s14 s15 s16 s17 : AV) : clearA a29l0s [s0, s1, s2, s3, s4, s5, s6, s7, s8, s9, s10, s11, s12, s13, s14, s15, s16, s17] = a29l0F s2 s6 s7 s8 := by kernel_rfl
theorem a29l0n {prog : Nat → Option AFunc} (s2 s6 s7 s8 : AV) (H : Heap) : (lim prog).loop a29l0s a29l0 ⟨a29l0F s2 s6 s7 s8, H⟩ = loopK (lim prog) a29l0s a29l0 (run (lim prog) a29l0b ⟨a29l0F s2 s6 s7 s8, H⟩) := lim_loop_step _ _ _ _ (by kernel_rfl)

/-- sentinel/bitset.Len -/
def a29 : AFunc := ⟨18,
  .seq (.region [⟨some 2, .mov (.c (.int Go.IntKind.i64 0)), none⟩])
  (.seq (.seq (.region [⟨some 5, .mov (.t 0), none⟩,
       ⟨some 6, .call 62 [(.t 5)], none⟩,
       ⟨some 7, .len (.t 6), none⟩,
       ⟨some 8, .mov (.c (.int Go.IntKind.i64 0)), none⟩])
    (.block 0 (.loop a29l0s a29l0)))
   (.seq (.region [⟨some 17, .mov (.t 2), none⟩,
       ⟨some 2, .mov (.t 17), none⟩])
    (.ret))),
  [.tmp 2]⟩

def a30l0b : ACode :=
  .seq (.region [⟨some 26, .bin .lss (.t 25) (.t 24), none⟩])
  (.seq (.cond (.t 26)
    (.skip)
    (.exit 0))
   (.seq (.block 1 (.seq (.region [⟨some 27, .iaddr 1 (.t 23) (.t 25), none⟩,
         ⟨some 28, .load false 1 (.t 27), none⟩,
         ⟨some 9, .mov (.t 28), none⟩])
      (.region [⟨some 29, .load true 5 (.t 2), none⟩,
         ⟨some 30, .mov (.t 7), none⟩,
         ⟨some 31, .mov (.t 9), none⟩,
         ⟨some 32, .call 61 [(.t 29), (.t 30), (.t 31)], none⟩,
         ⟨some 7, .mov (.t 32), none⟩])))
    (.region [⟨some 33, .bin .add (.t 25) (.c (.int Go.IntKind.i64 1)), none⟩,
       ⟨some 25, .mov (.t 33), none⟩])))

def a30l0 : ACode := a30l0b
def a30l0s : List Nat := [0, 1, 3, 4, 5, 6, 8, 9, 10, 11, 12, 13, 14, 15, 16, 17, 18, 19, 20, 21, 22, 26, 27, 28, 29, 30, 31, 32, 33, 34]
abbrev a30l0F (s2 s7 s23 s24 s25 : AV) : List AV := [.any, .any, s2, .any, .any, .any, .any, s7, .any, .any, .any, .any, .any, .any, .any, .any, .any, .any, .any, .any, .any, .any, .any, s23, s24, s25, .any, .any, .any, .any, .any, .any, .any, .any, .any]
theorem a30l0c (s0 s1 s2 s3 s4 s5 s6 s7 s8 s9 s10 s11 s12 s13 s14 s15 s16 s17 s18 s19 s20 s21 s22 s23 s24 s25 s26 s27 s28 s29 s30 s31 s32 s33 s34 : AV) : clearA a30l0s [s0, s1, s2, s3, s4, s5, s6, s7, s8, s9, s10, s11, s12, s13, s14, s15, s16, s17, s18, s19, s20, s21, s22, s23, s24, s25, s26, s27, s28, s29, s30, s31, s32, s33, s34] = a30l0F s2 s7 s23 s24 s25 := by kernel_rfl
theorem a30l0n {prog : Nat → Option AFunc} (s2 s7 s23 s24 s25 : AV) (H : Heap) : (lim prog).loop a30l0s a30l0 ⟨a30l0F s2 s7 s23 s24 s25, H⟩ = loopK (lim prog) a30l0s a30l0 (run (lim prog) a30l0b ⟨a30l0F s2 s7 s23 s24 s25, H⟩) := lim_loop_step _ _ _ _ (by kernel_rfl)

/-- sentinel/nfa.Run -/
def a30 : AFunc := ⟨35,
  .seq (.region [⟨some 2, .box (.t 0), none⟩,
     ⟨some 4, .mov (.c (.sl true 0 [])), none⟩,
     ⟨some 5, .mov (.c (.int Go.IntKind.i64 0)), none⟩])
  (.seq (.region [⟨some 10, .load true 5 (.t 2), none⟩,
      ⟨some 11, .call 26 [(.t 10)], none⟩,
      ⟨some 6, .mov (.t 11), none⟩])
   (.seq (.seq (.region [⟨some 12, .mov (.t 6), none⟩,
        ⟨some 13, .bin .eql (.t 12) (.c (.int Go.IntKind.i64 0)), none⟩])
     (.cond (.t 13)
      (.region [⟨some 14, .load true 5 (.t 2), none⟩,
         ⟨some 15, .mov (.t 1), none⟩,
         ⟨some 16, .call 60 [(.t 14), (.t 15)], none⟩,
         ⟨some 6, .mov (.t 16), none⟩])
      (.skip)))
    (.seq (.seq (.region [⟨some 17, .mov (.t 6), none⟩,
         ⟨some 18, .bin .neq (.t 17) (.c (.int Go.IntKind.i64 0)), none⟩])
      (.cond (.t 18)
       (.seq (.region [⟨some 19, .mov (.t 6), none⟩,
           ⟨some 4, .mov (.c (.sl true 0 [])), none⟩,
           ⟨some 5, .mov (.t 19), none⟩])
        (.ret))
       (.skip)))
     (.seq (.region [⟨some 20, .faddr 2 (.t 2), none⟩,
         ⟨some 21, .load false 1 (.t 20), none⟩,
         ⟨some 22, .call 43 [(.t 21)], none⟩,
         ⟨some 7, .mov (.t 22), none⟩])
      (.seq (.seq (.region [⟨some 23, .mov (.t 1), none⟩,
           ⟨some 24, .len (.t 23), none⟩,
           ⟨some 25, .mov (.c (.int Go.IntKind.i64 0)), none⟩])
        (.block 0 (.loop a30l0s a30l0)))
       (.seq (.region [⟨some 34, .mov (.t 7), none⟩,
           ⟨some 4, .mov (.t 34), none⟩,
           ⟨some 5, .mov (.c (.int Go.IntKind.i64 0)), none⟩])
        (.ret))))))),
  [.tmp 4, .tmp 5]⟩

def a31l0b : ACode :=
  .seq (.seq (.region [⟨some 11, .mov (.t 5), none⟩,
      ⟨some 12, .mov (.t 0), none⟩,
      ⟨some 13, .len (.t 12), none⟩,
      ⟨some 14, .bin .lss (.t 11) (.t 13), none⟩])
   (.cond (.t 14)
    (.skip)
    (.exit 0)))
  (.seq (.block 1 (.seq (.draw 8 [⟨some 17, .mov (.t 0), none⟩,
        ⟨some 18, .mov (.t 5), none⟩,
        ⟨some 19, .iaddr 1 (.t 17) (.t 18), none⟩,
        ⟨some 20, .load false 1 (.t 19), none⟩,
        ⟨some 21, .mov (.t 1), none⟩,
        ⟨some 22, .mov (.t 5), none⟩,
        ⟨some 23, .iaddr 1 (.t 21) (.t 22), none⟩,
        ⟨some 24, .load false 1 (.t 23), none⟩,
        ⟨some 25, .bin .neq (.t 20) (.t 24), none⟩])
     (.cond (.t 25)
      (.seq (.region [⟨some 4, .mov (.c (.bool false)), none⟩])
       (.ret))
      (.skip))))
   (.region [⟨some 15, .mov (.t 5), none⟩,
      ⟨some 16, .bin .add (.t 15) (.c (.int Go.IntKind.i64 1)), none⟩,
      ⟨some 5, .mov (.t 16), none⟩]))

def a31l0 : ACode := a31l0b
def a31l0s : List Nat := [2, 3, 6, 7, 8, 9, 10, 11, 12, 13, 14, 15, 16, 17, 18, 19, 20, 21, 22, 23, 24, 25]
abbrev a31l0F (s0 s1 s4 s5 : AV) : List AV := [s0, s1, .any, .any, s4, s5, .any, .any, .any, .any, .any, .any, .any, .any, .any, .any, .any, .any, .any, .any, .any, .any, .any, .any, .any, .any]
theorem a31l0c (s0 s1 s2 s3 s4 s5 s6 s7 s8 s9 s10 s11 s12 s13 s14 s15 s16 s17 s18 s19 s20 s21 s22 s23 s24 s25 : AV) : clearA a31l0s [s0, s1, s2, s3, s4, s5, s6, s7, s8, s9, s10, s11, s12, s13, s14, s15, s16, s17, s18, s19, s20, s21, s22, s23, s24, s25] = a31l0F s0 s1 s4 s5 := by kernel_rfl
theorem a31l0n {prog : Nat → Option AFunc} (s0 s1 s4 s5 : AV) (H : Heap) : (lim prog).loop a31l0s a31l0 ⟨a31l0F s0 s1 s4 s5, H⟩ = loopK (lim prog) a31l0s a31l0 (run (lim prog) a31l0b ⟨a31l0F s0 s1 s4 s5, H⟩) := lim_loop_step _ _ _ _ (by kernel_rfl)

/-- sentinel/sentinelkit.EqualInts -/
def a31 : AFunc := ⟨26,
  .seq (.region [⟨some 4, .mov (.c (.bool false)), none⟩])
  (.seq (.seq (.region [⟨some 6, .mov (.t 0), none⟩,
       ⟨some 7, .len (.t 6), none⟩,
       ⟨some 8, .mov (.t 1), none⟩,
       ⟨some 9, .len (.t 8), none⟩,
       ⟨some 10, .bin .neq (.t 7) (.t 9), none⟩])
    (.cond (.t 10)
     (.seq (.region [⟨some 4, .mov (.c (.bool false)), none⟩])
      (.ret))
     (.skip)))
   (.seq (.seq (.region [⟨some 5, .mov (.c (.int Go.IntKind.i64 0)), none⟩])
     (.block 0 (.loop a31l0s a31l0)))
    (.seq (.region [⟨some 4, .mov (.c (.bool true)), none⟩])
     (.ret)))),
  [.tmp 4]⟩

def a42l0b : ACode :=
  .seq (.seq (.region [⟨some 7, .mov (.t 5), none⟩,
      ⟨some 8, .icall (.t 7) [], none⟩])
   (.cond (.t 8)
    (.skip)
    (.exit 0)))
  (.block 1 (.skip))

def a42l0 : ACode := a42l0b
def a42l0s : List Nat := [0, 1, 3, 4, 6, 7, 8, 9]
abbrev a42l0F (s2 s5 : AV) : List AV := [.any, .any, s2, .any, .any, s5, .any, .any, .any, .any]
theorem a42l0c (s0 s1 s2 s3 s4 s5 s6 s7 s8 s9 : AV) : clearA a42l0s [s0, s1, s2, s3, s4, s5, s6, s7, s8, s9] = a42l0F s2 s5 := by kernel_rfl
theorem a42l0n {prog : Nat → Option AFunc} (s2 s5 : AV) (H : Heap) : (lim prog).loop a42l0s a42l0 ⟨a42l0F s2 s5, H⟩ = loopK (lim prog) a42l0s a42l0 (run (lim prog) a42l0b ⟨a42l0F s2 s5, H⟩) := lim_loop_step _ _ _ _ (by kernel_rfl)

/-- sentinel/nfa.closed -/
def a42 : AFunc := ⟨10,
  .seq (.region [⟨some 2, .box (.t 0), none⟩,
     ⟨some 3, .box (.t 1), none⟩,
     ⟨some 4, .mov (.c (.sl true 0 [])), none⟩])
  (.seq (.region [⟨some 6, .mkfunc 66 [(.t 3), (.t 2)], none⟩,
      ⟨some 5, .mov (.t 6), none⟩])
   (.seq (.block 0 (.loop a42l0s a42l0))
    (.seq (.region [⟨some 9, .load false 1 (.t 2), none⟩,
        ⟨some 4, .mov (.t 9), none⟩])
     (.ret)))),
  [.tmp 4]⟩

def a43l0b : ACode :=
  .seq (.region [⟨some 8, .bin .lss (.t 7) (.t 6), none⟩])
  (.seq (.cond (.t 8)
    (.skip)
    (.exit 0))
   (.seq (.block 1 (.seq (.region [⟨some 9, .iaddr 1 (.t 5) (.t 7), none⟩,
         ⟨some 10, .load false 1 (.t 9), none⟩,
         ⟨some 4, .mov (.t 10), none⟩])
      (.region [⟨some 11, .mov (.t 2), none⟩,
         ⟨some 12, .mov (.t 4), none⟩,
         ⟨some 13, .call 68 [(.t 11), (.t 12)], none⟩,
         ⟨some 2, .mov (.t 13), none⟩])))
    (.region [⟨some 14, .bin .add (.t 7) (.c (.int Go.IntKind.i64 1)), none⟩,
       ⟨some 7, .mov (.t 14), none⟩])))

def a43l0 : ACode := a43l0b
def a43l0s : List Nat := [0, 1, 3, 4, 8, 9, 10, 11, 12, 13, 14, 15]
abbrev a43l0F (s2 s5 s6 s7 : AV) : List AV := [.any, .any, s2, .any, .any, s5, s6, s7, .any, .any, .any, .any, .any, .any, .any, .any]
theorem a43l0c (s0 s1 s2 s3 s4 s5 s6 s7 s8 s9 s10 s11 s12 s13 s14 s15 : AV) : clearA a43l0s [s0, s1, s2, s3, s4, s5, s6, s7, s8, s9, s10, s11, s12, s13, s14, s15] = a43l0F s2 s5 s6 s7 := by kernel_rfl
theorem a43l0n {prog : Nat → Option AFunc} (s2 s5 s6 s7 : AV) (H : Heap) : (lim prog).loop a43l0s a43l0 ⟨a43l0F s2 s5 s6 s7, H⟩ = loopK (lim prog) a43l0s a43l0 (run (lim prog) a43l0b ⟨a43l0F s2 s5 s6 s7, H⟩) := lim_loop_step _ _ _ _ (by kernel_rfl)

/-- sentinel/bitset.Of -/
def a43 : AFunc := ⟨16,
  .seq (.region [⟨some 2, .mov (.c (.sl true 0 [])), none⟩])
  (.seq (.seq (.region [⟨some 5, .mov (.t 0), none⟩,
       ⟨some 6, .len (.t 5), none⟩,
       ⟨some 7, .mov (.c (.int Go.IntKind.i64 0)), none⟩])
    (.block 0 (.loop a43l0s a43l0)))
   (.seq (.region [⟨some 15, .mov (.t 2), none⟩,
       ⟨some 2, .mov (.t 15), none⟩])
    (.ret))),
  [.tmp 2]⟩

def a44r0ab : ACode :=
  .region [⟨some 3, .mov (.t 6), none⟩]

def a44r0b : ACode :=
  .block 1 (.region [⟨some 7, .load false 1 (.t 2), none⟩,
     ⟨some 8, .mov (.t 3), none⟩,
     ⟨some 9, .bslice true [.int Go.IntKind.i64 0] 1 1 [(0, (.t 8))], none⟩,
     ⟨some 10, .append false 1 8 (.t 7) (.t 9), none⟩,
     ⟨none, .store 1 (.t 2) (.t 10), none⟩])

def a44r0a : ACode := a44r0ab
def a44r0 : ACode := a44r0b
theorem a44r0an (R : Rec) (s : St) : run R a44r0a s = run R a44r0ab s := rfl
theorem a44r0n (R : Rec) (s : St) : run R a44r0 s = run R a44r0b s := rfl

/-- sentinel/bitset.List -/
def a44 : AFunc := ⟨12,
  .seq (.region [⟨some 2, .box (.c (.sl true 0 [])), none⟩])
  (.seq (.seq (.region [⟨some 4, .mov (.t 0), none⟩,
       ⟨some 5, .icall (.c (.func 69 [])) [(.t 4)], none⟩])
    (.block 0 (.range (.t 5) [6] a44r0a a44r0)))
   (.seq (.region [⟨some 11, .load false 1 (.t 2), none⟩,
       ⟨none, .store 1 (.t 2) (.t 11), none⟩])
    (.ret))),
  [.cell 2 false 1]⟩

/-- sentinel/bitset.Intersect -/
def a45 : AFunc := ⟨8,
  .seq (.region [⟨some 4, .mov (.c (.sl true 0 [])), none⟩])
  (.seq (.region [⟨some 5, .mov (.t 0), none⟩,
      ⟨some 6, .mov (.t 1), none⟩,
      ⟨some 7, .icall (.c (.func 70 [])) [(.t 5), (.t 6), (.c (.func 71 []))], none⟩,
      ⟨some 4, .mov (.t 7), none⟩])
   (.ret)),
  [.tmp 4]⟩

/-- sentinel/nfa.Trim$1 -/
def a46 : AFunc := ⟨10,
  .seq (.region [⟨some 3, .mov (.c (.int Go.IntKind.i64 0)), none⟩,
     ⟨some 4, .mov (.c (.bool false)), none⟩])
  (.seq (.region [⟨some 5, .load false 1 (.t 1), none⟩,
      ⟨some 6, .mov (.t 0), none⟩,
      ⟨some 7, .call 47 [(.t 5), (.t 6)], none⟩,
      ⟨some 8, .ext 0 (.t 7), none⟩,
      ⟨some 9, .ext 1 (.t 7), none⟩,
      ⟨some 3, .mov (.t 8), none⟩,
      ⟨some 4, .mov (.t 9), none⟩])
   (.ret)),
  [.tmp 3, .tmp 4]⟩

def a47l0b : ACode :=
  .seq (.seq (.region [⟨some 13, .mov (.t 7), none⟩,
      ⟨some 14, .mov (.t 8), none⟩,
      ⟨some 15, .bin .lss (.t 13) (.t 14), none⟩])
   (.cond (.t 15)
    (.skip)
    (.exit 0)))
  (.block 1 (.seq (.region [⟨some 16, .mov (.t 7), none⟩,
       ⟨some 17, .mov (.t 8), none⟩,
       ⟨some 18, .bin .add (.t 16) (.t 17), none⟩,
       ⟨some 19, .conv Go.IntKind.u64 (.t 18), none⟩,
       ⟨some 20, .bin .shr (.t 19) (.c (.int Go.IntKind.u64 1)), none⟩,
       ⟨some 21, .conv Go.IntKind.i64 (.t 20), none⟩,
       ⟨some 9, .mov (.t 21), none⟩])
    (.seq (.region [⟨some 22, .mov (.t 0), none⟩,
        ⟨some 23, .mov (.t 9), none⟩,
        ⟨some 24, .iaddr 1 (.t 22) (.t 23), none⟩,
        ⟨some 25, .load false 1 (.t 24), none⟩,
        ⟨some 26, .mov (.t 1), none⟩,
        ⟨some 27, .call 72 [(.t 25), (.t 26)], none⟩])
     (.cond (.t 27)
      (.region [⟨some 28, .mov (.t 9), none⟩,
         ⟨some 29, .bin .add (.t 28) (.c (.int Go.IntKind.i64 1)), none⟩,
         ⟨some 7, .mov (.t 29), none⟩])
      (.region [⟨some 30, .mov (.t 9), none⟩,
         ⟨some 8, .mov (.t 30), none⟩])))))

def a47l0 : ACode := a47l0b
def a47l0s : List Nat := [2, 3, 4, 5, 9, 10, 11, 12, 13, 14, 15, 16, 17, 18, 19, 20, 21, 22, 23, 24, 25, 26, 27, 28, 29, 30, 31, 32, 33, 34, 35, 36, 37, 38, 39, 40, 41, 42, 43, 44, 45, 46, 47, 48, 49, 50, 51, 52, 53]
abbrev a47l0F (s0 s1 s6 s7 s8 : AV) : List AV := [s0, s1, .any, .any, .any, .any, s6, s7, s8, .any, .any, .any, .any, .any, .any, .any, .any, .any, .any, .any, .any, .any, .any, .any, .any, .any, .any, .any, .any, .any, .any, .any, .any, .any, .any, .any, .any, .any, .any, .any, .any, .any, .any, .any, .any, .any, .any, .any, .any, .any, .any, .any, .any, .any]
theorem a47l0c (s0 s1 s2 s3 s4 s5 s6 s7 s8 s9 s10 s11 s12 s13 s14 s15 s16 s17 s18 s19 s20 s21 s22 s23 s24 s25 s26 s27 s28 s29 s30 s31 s32 s33 s34 s35 s36 s37 s38 s39 s40 s41 s42 s43 s44 s45 s46 s47 s48 s49 s50 s51 s52 s53 : AV) : clearA a47l0s [s0, s1, s2, s3, s4, s5, s6, s7, s8, s9, s10, s11, s12, s13, s14, s15, s16, s17, s18, s19, s20, s21, s22, s23, s24, s25, s26, s27, s28, s29, s30, s31, s32, s33, s34, s35, s36, s37, s38, s39, s40, s41, s42, s43, s44, s45, s46, s47, s48, s49, s50, s51, s52, s53] = a47l0F s0 s1 s6 s7 s8 := by kernel_rfl
theorem a47l0n {prog : Nat → Option AFunc} (s0 s1 s6 s7 s8 : AV) (H : Heap) : (lim prog).loop a47l0s a47l0 ⟨a47l0F s0 s1 s6 s7 s8, H⟩ = loopK (lim prog) a47l0s a47l0 (run (lim prog) a47l0b ⟨a47l0F s0 s1 s6 s7 s8, H⟩) := lim_loop_step _ _ _ _ (by kernel_rfl)

/-- slices.BinarySearch[[]int,int] -/
def a47 : AFunc := ⟨54,
  .seq (.region [⟨some 4, .mov (.c (.int Go.IntKind.i64 0)), none⟩,
     ⟨some 5, .mov (.c (.bool false)), none⟩])
  (.seq (.region [⟨some 10, .mov (.t 0), none⟩,
      ⟨some 11, .len (.t 10), none⟩,
      ⟨some 6, .mov (.t 11), none⟩])
   (.seq (.region [⟨some 12, .mov (.t 6), none⟩,
       ⟨some 7, .mov (.c (.int Go.IntKind.i64 0)), none⟩,
       ⟨some 8, .mov (.t 12), none⟩])
    (.seq (.block 0 (.loop a47l0s a47l0))
     (.seq (.region [⟨some 31, .mov (.t 7), none⟩,
         ⟨some 32, .mov (.t 7), none⟩,
         ⟨some 33, .mov (.t 6), none⟩,
         ⟨some 34, .bin .lss (.t 32) (.t 33), none⟩,
         ⟨some 35, .mov (.t 34), none⟩,
         ⟨some 36, .mov (.t 0), some (35, true)⟩,
         ⟨some 37, .mov (.t 7), some (35, true)⟩,
         ⟨some 38, .iaddr 1 (.t 36) (.t 37), some (35, true)⟩,
         ⟨some 39, .load false 1 (.t 38), some (35, true)⟩,
         ⟨some 40, .mov (.t 1), some (35, true)⟩,
         ⟨some 41, .bin .eql (.t 39) (.t 40), some (35, true)⟩,
         ⟨some 42, .mov (.t 41), some (35, true)⟩,
         ⟨some 43, .mov (.t 0), some (42, false)⟩,
         ⟨some 44, .mov (.t 7), some (42, false)⟩,
         ⟨some 45, .iaddr 1 (.t 43) (.t 44), some (42, false)⟩,
         ⟨some 46, .load false 1 (.t 45), some (42, false)⟩,
         ⟨some 47, .call 73 [(.t 46)], some (42, false)⟩,
         ⟨some 48, .mov (.t 47), some (42, false)⟩,
         ⟨some 49, .mov (.t 1), some (48, true)⟩,
         ⟨some 50, .call 73 [(.t 49)], some (48, true)⟩,
         ⟨some 51, .pick (.t 48) (.t 50) (.c (.bool false)), some (42, false)⟩,
         ⟨some 52, .pick (.t 42) (.c (.bool true)) (.t 51), some (35, true)⟩,
         ⟨some 53, .pick (.t 35) (.t 52) (.c (.bool false)), none⟩,
         ⟨some 4, .mov (.t 31), none⟩,
         ⟨some 5, .mov (.t 53), none⟩])
      (.ret))))),
  [.tmp 4, .tmp 5]⟩

/-- slices.Clone[[]int,int] -/
def a48 : AFunc := ⟨8,
  .seq (.region [⟨some 2, .mov (.c (.sl true 0 [])), none⟩])
  (.seq (.seq (.region [⟨some 3, .mov (.t 0), none⟩,
       ⟨some 4, .isnil false (.t 3), none⟩])
    (.cond (.t 4)
     (.seq (.region [⟨some 2, .mov (.c (.sl true 0 [])), none⟩])
      (.ret))
     (.skip)))
   (.seq (.region [⟨some 5, .bslice false [.int Go.IntKind.i64 0] 1 0 [], none⟩,
       ⟨some 6, .mov (.t 0), none⟩,
       ⟨some 7, .append false 1 8 (.t 5) (.t 6), none⟩,
       ⟨some 2, .mov (.t 7), none⟩])
    (.ret))),
  [.tmp 2]⟩

def a50l0b : ACode :=
  .seq (.seq (.region [⟨some 11, .mov (.t 5), none⟩,
      ⟨some 12, .mov (.t 0), none⟩,
      ⟨some 13, .len (.t 12), none⟩,
      ⟨some 14, .bin .lss (.t 11) (.t 13), none⟩])
   (.cond (.t 14)
    (.skip)
    (.exit 0)))
  (.seq (.block 1 (.seq (.draw 8 [⟨some 17, .mov (.t 0), none⟩,
        ⟨some 18, .mov (.t 5), none⟩,
        ⟨some 19, .iaddr 4 (.t 17) (.t 18), none⟩,
        ⟨some 20, .load true 4 (.t 19), none⟩,
        ⟨some 21, .mov (.t 1), none⟩,
        ⟨some 22, .mov (.t 5), none⟩,
        ⟨some 23, .iaddr 4 (.t 21) (.t 22), none⟩,
        ⟨some 24, .load true 4 (.t 23), none⟩,
        ⟨some 25, .aeq true 4 (.t 20) (.t 24), none⟩])
     (.cond (.t 25)
      (.seq (.region [⟨some 4, .mov (.c (.bool false)), none⟩])
       (.ret))
      (.skip))))
   (.region [⟨some 15, .mov (.t 5), none⟩,
      ⟨some 16, .bin .add (.t 15) (.c (.int Go.IntKind.i64 1)), none⟩,
      ⟨some 5, .mov (.t 16), none⟩]))

def a50l0 : ACode := a50l0b
def a50l0s : List Nat := [2, 3, 6, 7, 8, 9, 10, 11, 12, 13, 14, 15, 16, 17, 18, 19, 20, 21, 22, 23, 24, 25]
abbrev a50l0F (s0 s1 s4 s5 : AV) : List AV := [s0, s1, .any, .any, s4, s5, .any, .any, .any, .any, .any, .any, .any, .any, .any, .any, .any, .any, .any, .any, .any, .any, .any, .any, .any, .any]
theorem a50l0c (s0 s1 s2 s3 s4 s5 s6 s7 s8 s9 s10 s11 s12 s13 s14 s15 s16 s17 s18 s19 s20 s21 s22 s23 s24 s25 : AV) : clearA a50l0s [s0, s1, s2, s3, s4, s5, s6, s7, s8, s9, s10, s11, s12, s13, s14, s15, s16, s17, s18, s19, s20, s21, s22, s23, s24, s25] = a50l0F s0 s1 s4 s5 := by kernel_rfl
theorem a50l0n {prog : Nat → Option AFunc} (s0 s1 s4 s5 : AV) (H : Heap) : (lim prog).loop a50l0s a50l0 ⟨a50l0F s0 s1 s4 s5, H⟩ = loopK (lim prog) a50l0s a50l0 (run (lim prog) a50l0b ⟨a50l0F s0 s1 s4 s5, H⟩) := lim_loop_step _ _ _ _ (by kernel_rfl)

/-- sentinel/sentinelkit.EqualEdges -/
def a50 : AFunc := ⟨26,
  .seq (.region [⟨some 4, .mov (.c (.bool false)), none⟩])
  (.seq (.seq (.region [⟨some 6, .mov (.t 0), none⟩,
       ⟨some 7, .len (.t 6), none⟩,
       ⟨some 8, .mov (.t 1), none⟩,
       ⟨some 9, .len (.t 8), none⟩,
       ⟨some 10, .bin .neq (.t 7) (.t 9), none⟩])
    (.cond (.t 10)
     (.seq (.region [⟨some 4, .mov (.c (.bool false)), none⟩])
      (.ret))
     (.skip)))
   (.seq (.seq (.region [⟨some 5, .mov (.c (.int Go.IntKind.i64 0)), none⟩])
     (.block 0 (.loop a50l0s a50l0)))
    (.seq (.region [⟨some 4, .mov (.c (.bool true)), none⟩])
     (.ret)))),
  [.tmp 4]⟩

/-- sentinel/bitset.Intersects -/
def a53 : AFunc := ⟨10,
  .seq (.region [⟨some 4, .mov (.c (.bool false)), none⟩])
  (.seq (.region [⟨some 5, .mov (.t 0), none⟩,
      ⟨some 6, .mov (.t 1), none⟩,
      ⟨some 7, .call 45 [(.t 5), (.t 6)], none⟩,
      ⟨some 8, .len (.t 7), none⟩,
      ⟨some 9, .bin .gtr (.t 8) (.c (.int Go.IntKind.i64 0)), none⟩,
      ⟨some 4, .mov (.t 9), none⟩])
   (.ret)),
  [.tmp 4]⟩

/-- sentinel/nfa.Check$1 -/
def a54 : AFunc := ⟨10,
  .seq (.region [⟨some 1, .mov (.c (.bool false)), none⟩])
  (.seq (.region [⟨some 2, .faddr 0 (.t 0), none⟩,
      ⟨some 3, .load false 1 (.t 2), none⟩,
      ⟨some 4, .bin .lss (.t 3) (.c (.int Go.IntKind.i64 0)), none⟩,
      ⟨some 5, .mov (.t 4), none⟩,
      ⟨some 6, .faddr 0 (.t 0), some (5, false)⟩,
      ⟨some 7, .load false 1 (.t 6), some (5, false)⟩,
      ⟨some 8, .bin .gtr (.t 7) (.c (.int Go.IntKind.i64 6)), some (5, false)⟩,
      ⟨some 9, .pick (.t 5) (.c (.bool true)) (.t 8), none⟩,
      ⟨some 1, .mov (.t 9), none⟩])
   (.ret)),
  [.tmp 1]⟩

/-- sentinel/nfa.Check$2 -/
def a55 : AFunc := ⟨5,
  .seq (.region [⟨some 1, .mov (.c (.bool false)), none⟩])
  (.seq (.region [⟨some 2, .faddr 1 (.t 0), none⟩,
      ⟨some 3, .load false 1 (.t 2), none⟩,
      ⟨some 4, .bin .lss (.t 3) (.c (.int Go.IntKind.i64 0)), none⟩,
      ⟨some 1, .mov (.t 4), none⟩])
   (.ret)),
  [.tmp 1]⟩

/-- sentinel/nfa.Check$3 -/
def a56 : AFunc := ⟨11,
  .seq (.region [⟨some 1, .mov (.c (.bool false)), none⟩])
  (.seq (.region [⟨some 2, .faddr 1 (.t 0), none⟩,
      ⟨some 3, .load false 1 (.t 2), none⟩,
      ⟨some 4, .bin .gtr (.t 3) (.c (.int Go.IntKind.i64 64)), none⟩,
      ⟨some 5, .mov (.t 4), none⟩,
      ⟨some 6, .faddr 4 (.t 0), some (5, false)⟩,
      ⟨some 7, .load false 1 (.t 6), some (5, false)⟩,
      ⟨some 8, .len (.t 7), some (5, false)⟩,
      ⟨some 9, .bin .gtr (.t 8) (.c (.int Go.IntKind.i64 512)), some (5, false)⟩,
      ⟨some 10, .pick (.t 5) (.c (.bool true)) (.t 9), none⟩,
      ⟨some 1, .mov (.t 10), none⟩])
   (.ret)),
  [.tmp 1]⟩

/-- sentinel/nfa.Check$4 -/
def a57 : AFunc := ⟨14,
  .seq (.region [⟨some 1, .mov (.c (.bool false)), none⟩])
  (.seq (.region [⟨some 2, .load true 5 (.t 0), none⟩,
      ⟨some 3, .faddr 2 (.t 0), none⟩,
      ⟨some 4, .load false 1 (.t 3), none⟩,
      ⟨some 5, .call 58 [(.t 2), (.t 4)], none⟩,
      ⟨some 6, .un .not (.t 5), none⟩,
      ⟨some 7, .mov (.t 6), none⟩,
      ⟨some 8, .load true 5 (.t 0), some (7, false)⟩,
      ⟨some 9, .faddr 3 (.t 0), some (7, false)⟩,
      ⟨some 10, .load false 1 (.t 9), some (7, false)⟩,
      ⟨some 11, .call 58 [(.t 8), (.t 10)], some (7, false)⟩,
      ⟨some 12, .un .not (.t 11), some (7, false)⟩,
      ⟨some 13, .pick (.t 7) (.c (.bool true)) (.t 12), none⟩,
      ⟨some 1, .mov (.t 13), none⟩])
   (.ret)),
  [.tmp 1]⟩

def a58l0b : ACode :=
  .seq (.region [⟨some 11, .bin .lss (.t 10) (.t 9), none⟩])
  (.seq (.cond (.t 11)
    (.skip)
    (.exit 0))
   (.seq (.block 1 (.seq (.region [⟨some 12, .iaddr 1 (.t 8) (.t 10), none⟩,
         ⟨some 13, .load false 1 (.t 12), none⟩,
         ⟨some 7, .mov (.t 13), none⟩])
      (.seq (.seq (.region [⟨some 14, .mov (.t 7), none⟩,
           ⟨some 15, .mov (.t 5), none⟩,
           ⟨some 16, .bin .leq (.t 14) (.t 15), none⟩,
           ⟨some 17, .mov (.t 16), none⟩,
           ⟨some 18, .mov (.t 7), some (17, false)⟩,
           ⟨some 19, .faddr 1 (.t 2), some (17, false)⟩,
           ⟨some 20, .load false 1 (.t 19), some (17, false)⟩,
           ⟨some 21, .bin .geq (.t 18) (.t 20), some (17, false)⟩,
           ⟨some 22, .pick (.t 17) (.c (.bool true)) (.t 21), none⟩])
        (.cond (.t 22)
         (.seq (.region [⟨some 4, .mov (.c (.bool false)), none⟩])
          (.ret))
         (.skip)))
       (.region [⟨some 23, .mov (.t 7), none⟩,
          ⟨some 5, .mov (.t 23), none⟩]))))
    (.region [⟨some 24, .bin .add (.t 10) (.c (.int Go.IntKind.i64 1)), none⟩,
       ⟨some 10, .mov (.t 24), none⟩])))

def a58l0 : ACode := a58l0b
def a58l0s : List Nat := [0, 1, 3, 6, 7, 11, 12, 13, 14, 15, 16, 17, 18, 19, 20, 21, 22, 23, 24]
abbrev a58l0F (s2 s4 s5 s8 s9 s10 : AV) : List AV := [.any, .any, s2, .any, s4, s5, .any, .any, s8, s9, s10, .any, .any, .any, .any, .any, .any, .any, .any, .any, .any, .any, .any, .any, .any]
theorem a58l0c (s0 s1 s2 s3 s4 s5 s6 s7 s8 s9 s10 s11 s12 s13 s14 s15 s16 s17 s18 s19 s20 s21 s22 s23 s24 : AV) : clearA a58l0s [s0, s1, s2, s3, s4, s5, s6, s7, s8, s9, s10, s11, s12, s13, s14, s15, s16, s17, s18, s19, s20, s21, s22, s23, s24] = a58l0F s2 s4 s5 s8 s9 s10 := by kernel_rfl
theorem a58l0n {prog : Nat → Option AFunc} (s2 s4 s5 s8 s9 s10 : AV) (H : Heap) : (lim prog).loop a58l0s a58l0 ⟨a58l0F s2 s4 s5 s8 s9 s10, H⟩ = loopK (lim prog) a58l0s a58l0 (run (lim prog) a58l0b ⟨a58l0F s2 s4 s5 s8 s9 s10, H⟩) := lim_loop_step _ _ _ _ (by kernel_rfl)

/-- sentinel/nfa.states -/
def a58 : AFunc := ⟨25,
  .seq (.region [⟨some 2, .box (.t 0), none⟩,
     ⟨some 4, .mov (.c (.bool false)), none⟩])
  (.seq (.region [⟨some 5, .mov (.c (.int Go.IntKind.i64 (-1))), none⟩])
   (.seq (.seq (.region [⟨some 8, .mov (.t 1), none⟩,
        ⟨some 9, .len (.t 8), none⟩,
        ⟨some 10, .mov (.c (.int Go.IntKind.i64 0)), none⟩])
     (.block 0 (.loop a58l0s a58l0)))
    (.seq (.region [⟨some 4, .mov (.c (.bool true)), none⟩])
     (.ret)))),
  [.tmp 4]⟩

/-- sentinel/cube.Check -/
def a59 : AFunc := ⟨28,
  .seq (.region [⟨some 2, .box (.t 0), none⟩,
     ⟨some 4, .mov (.c (.int Go.IntKind.i64 0)), none⟩])
  (.seq (.block 0 (.seq (.seq (.region [⟨some 6, .mov (.t 1), none⟩,
         ⟨some 7, .bin .lss (.t 6) (.c (.int Go.IntKind.i64 0)), none⟩,
         ⟨some 8, .mov (.t 7), none⟩,
         ⟨some 9, .mov (.t 1), some (8, false)⟩,
         ⟨some 10, .bin .gtr (.t 9) (.c (.int Go.IntKind.i64 6)), some (8, false)⟩,
         ⟨some 11, .pick (.t 8) (.c (.bool true)) (.t 10), none⟩,
         ⟨some 5, .mov (.t 11), none⟩])
      (.cond (.t 5)
       (.skip)
       (.draw 6 [⟨some 12, .faddr 0 (.t 2), none⟩,
          ⟨some 13, .load false 1 (.t 12), none⟩,
          ⟨some 14, .faddr 1 (.t 2), none⟩,
          ⟨some 15, .load false 1 (.t 14), none⟩,
          ⟨some 16, .bin .or (.t 13) (.t 15), none⟩,
          ⟨some 17, .conv Go.IntKind.i64 (.t 16), none⟩,
          ⟨some 18, .mov (.t 1), none⟩,
          ⟨some 19, .bin .shl (.c (.int Go.IntKind.i64 1)) (.t 18), none⟩,
          ⟨some 20, .bin .geq (.t 17) (.t 19), none⟩,
          ⟨some 5, .mov (.t 20), none⟩])))
     (.cond (.t 5)
      (.seq (.region [⟨some 4, .mov (.c (.int Go.IntKind.i64 7)), none⟩])
       (.ret))
      (.seq (.region [⟨some 22, .faddr 0 (.t 2), none⟩,
          ⟨some 23, .load false 1 (.t 22), none⟩,
          ⟨some 24, .faddr 1 (.t 2), none⟩,
          ⟨some 25, .load false 1 (.t 24), none⟩,
          ⟨some 26, .bin .and (.t 23) (.t 25), none⟩,
          ⟨some 27, .bin .neq (.t 26) (.c (.int Go.IntKind.u8 0)), none⟩,
          ⟨some 21, .mov (.t 27), none⟩])
       (.cond (.t 21)
        (.seq (.region [⟨some 4, .mov (.c (.int Go.IntKind.i64 2)), none⟩])
         (.ret))
        (.skip))))))
   (.seq (.region [⟨some 4, .mov (.c (.int Go.IntKind.i64 0)), none⟩])
    (.ret))),
  [.tmp 4]⟩

/-- sentinel/nfa.word -/
def a60 : AFunc := ⟨13,
  .seq (.region [⟨some 2, .box (.t 0), none⟩,
     ⟨some 4, .mov (.c (.int Go.IntKind.i64 0)), none⟩])
  (.seq (.block 0 (.seq (.region [⟨some 6, .mov (.t 1), none⟩,
        ⟨some 7, .len (.t 6), none⟩,
        ⟨some 8, .bin .gtr (.t 7) (.c (.int Go.IntKind.i64 64)), none⟩,
        ⟨some 5, .mov (.t 8), none⟩])
     (.cond (.t 5)
      (.seq (.region [⟨some 4, .mov (.c (.int Go.IntKind.i64 4)), none⟩])
       (.ret))
      (.seq (.region [⟨some 10, .mov (.t 1), none⟩,
          ⟨some 11, .mkfunc 75 [(.t 2)], none⟩,
          ⟨some 12, .icall (.c (.func 74 [])) [(.t 10), (.t 11)], none⟩,
          ⟨some 9, .mov (.t 12), none⟩])
       (.cond (.t 9)
        (.seq (.region [⟨some 4, .mov (.c (.int Go.IntKind.i64 1)), none⟩])
         (.ret))
        (.skip))))))
   (.seq (.region [⟨some 4, .mov (.c (.int Go.IntKind.i64 0)), none⟩])
    (.ret))),
  [.tmp 4]⟩

def a61r0ab : ACode :=
  .region [⟨some 7, .box (.c (.agg [.int Go.IntKind.i64 0, .int Go.IntKind.i64 0, .int Go.IntKind.u8 0, .int Go.IntKind.u8 0])), none⟩,
    ⟨none, .store 4 (.t 7) (.t 11), none⟩]

def a61r0b : ACode :=
  .block 1 (.seq (.region [⟨some 12, .load false 1 (.t 4), none⟩,
      ⟨some 13, .faddr 0 (.t 7), none⟩,
      ⟨some 14, .load false 1 (.t 13), none⟩,
      ⟨some 15, .call 67 [(.t 12), (.t 14)], none⟩])
   (.cond (.t 15)
    (.region [⟨some 16, .load false 1 (.t 6), none⟩,
       ⟨some 17, .faddr 1 (.t 7), none⟩,
       ⟨some 18, .load false 1 (.t 17), none⟩,
       ⟨some 19, .call 68 [(.t 16), (.t 18)], none⟩,
       ⟨none, .store 1 (.t 6) (.t 19), none⟩])
    (.skip)))

def a61r0a : ACode := a61r0ab
def a61r0 : ACode := a61r0b
theorem a61r0an (R : Rec) (s : St) : run R a61r0a s = run R a61r0ab s := rfl
theorem a61r0n (R : Rec) (s : St) : run R a61r0 s = run R a61r0b s := rfl

/-- sentinel/nfa.after -/
def a61 : AFunc := ⟨21,
  .seq (.region [⟨some 3, .box (.t 0), none⟩,
     ⟨some 4, .box (.t 1), none⟩,
     ⟨some 6, .box (.c (.sl true 0 [])), none⟩])
  (.seq (.seq (.region [⟨some 8, .load true 5 (.t 3), none⟩,
       ⟨some 9, .mov (.t 2), none⟩,
       ⟨some 10, .icall (.c (.func 76 [])) [(.t 8), (.t 9)], none⟩])
    (.block 0 (.range (.t 10) [11] a61r0a a61r0)))
   (.seq (.region [⟨some 20, .load false 1 (.t 6), none⟩,
       ⟨none, .store 1 (.t 6) (.t 20), none⟩])
    (.ret))),
  [.cell 6 false 1]⟩

/-- sentinel/bitset.Canonical -/
def a62 : AFunc := ⟨5,
  .seq (.region [⟨some 2, .mov (.c (.sl true 0 [])), none⟩])
  (.seq (.region [⟨some 3, .mov (.t 0), none⟩,
      ⟨some 4, .call 77 [(.t 3), (.c (.sl true 0 []))], none⟩,
      ⟨some 2, .mov (.t 4), none⟩])
   (.ret)),
  [.tmp 2]⟩

/-- math/bits.OnesCount64 -/
def a63 : AFunc := ⟨35,
  .seq (.region [⟨some 2, .mov (.c (.int Go.IntKind.i64 0)), none⟩])
  (.seq (.region [⟨some 3, .mov (.t 0), none⟩,
      ⟨some 4, .bin .shr (.t 3) (.c (.int Go.IntKind.u64 1)), none⟩,
      ⟨some 5, .bin .and (.t 4) (.c (.int Go.IntKind.u64 6148914691236517205)), none⟩,
      ⟨some 6, .mov (.t 0), none⟩,
      ⟨some 7, .bin .and (.t 6) (.c (.int Go.IntKind.u64 6148914691236517205)), none⟩,
      ⟨some 8, .bin .add (.t 5) (.t 7), none⟩,
      ⟨some 0, .mov (.t 8), none⟩])
   (.seq (.region [⟨some 9, .mov (.t 0), none⟩,
       ⟨some 10, .bin .shr (.t 9) (.c (.int Go.IntKind.u64 2)), none⟩,
       ⟨some 11, .bin .and (.t 10) (.c (.int Go.IntKind.u64 3689348814741910323)), none⟩,
       ⟨some 12, .mov (.t 0), none⟩,
       ⟨some 13, .bin .and (.t 12) (.c (.int Go.IntKind.u64 3689348814741910323)), none⟩,
       ⟨some 14, .bin .add (.t 11) (.t 13), none⟩,
       ⟨some 0, .mov (.t 14), none⟩])
    (.seq (.region [⟨some 15, .mov (.t 0), none⟩,
        ⟨some 16, .bin .shr (.t 15) (.c (.int Go.IntKind.u64 4)), none⟩,
        ⟨some 17, .mov (.t 0), none⟩,
        ⟨some 18, .bin .add (.t 16) (.t 17), none⟩,
        ⟨some 19, .bin .and (.t 18) (.c (.int Go.IntKind.u64 1085102592571150095)), none⟩,
        ⟨some 0, .mov (.t 19), none⟩])
     (.seq (.region [⟨some 20, .mov (.t 0), none⟩,
         ⟨some 21, .mov (.t 0), none⟩,
         ⟨some 22, .bin .shr (.t 21) (.c (.int Go.IntKind.u64 8)), none⟩,
         ⟨some 23, .bin .add (.t 20) (.t 22), none⟩,
         ⟨some 0, .mov (.t 23), none⟩])
      (.seq (.region [⟨some 24, .mov (.t 0), none⟩,
          ⟨some 25, .mov (.t 0), none⟩,
          ⟨some 26, .bin .shr (.t 25) (.c (.int Go.IntKind.u64 16)), none⟩,
          ⟨some 27, .bin .add (.t 24) (.t 26), none⟩,
          ⟨some 0, .mov (.t 27), none⟩])
       (.seq (.region [⟨some 28, .mov (.t 0), none⟩,
           ⟨some 29, .mov (.t 0), none⟩,
           ⟨some 30, .bin .shr (.t 29) (.c (.int Go.IntKind.u64 32)), none⟩,
           ⟨some 31, .bin .add (.t 28) (.t 30), none⟩,
           ⟨some 0, .mov (.t 31), none⟩])
        (.seq (.region [⟨some 32, .mov (.t 0), none⟩,
            ⟨some 33, .conv Go.IntKind.i64 (.t 32), none⟩,
            ⟨some 34, .bin .and (.t 33) (.c (.int Go.IntKind.i64 127)), none⟩,
            ⟨some 2, .mov (.t 34), none⟩])
         (.ret)))))))),
  [.tmp 2]⟩

def a66l0b : ACode :=
  .seq (.region [⟨some 8, .bin .lss (.t 7) (.t 6), none⟩])
  (.seq (.cond (.t 8)
    (.skip)
    (.exit 0))
   (.seq (.block 1 (.seq (.region [⟨some 9, .iaddr 4 (.t 5) (.t 7), none⟩,
         ⟨some 10, .load true 4 (.t 9), none⟩,
         ⟨some 4, .box (.c (.agg [.int Go.IntKind.i64 0, .int Go.IntKind.i64 0, .int Go.IntKind.u8 0, .int Go.IntKind.u8 0])), none⟩,
         ⟨none, .store 4 (.t 4) (.t 10), none⟩])
      (.seq (.region [⟨some 11, .load false 1 (.t 1), none⟩,
          ⟨some 12, .faddr 0 (.t 4), none⟩,
          ⟨some 13, .load false 1 (.t 12), none⟩,
          ⟨some 14, .call 67 [(.t 11), (.t 13)], none⟩,
          ⟨some 15, .mov (.t 14), none⟩,
          ⟨some 16, .load false 1 (.t 1), some (15, true)⟩,
          ⟨some 17, .faddr 1 (.t 4), some (15, true)⟩,
          ⟨some 18, .load false 1 (.t 17), some (15, true)⟩,
          ⟨some 19, .call 67 [(.t 16), (.t 18)], some (15, true)⟩,
          ⟨some 20, .un .not (.t 19), some (15, true)⟩,
          ⟨some 21, .pick (.t 15) (.t 20) (.c (.bool false)), none⟩])
       (.cond (.t 21)
        (.region [⟨some 22, .load false 1 (.t 1), none⟩,
           ⟨some 23, .faddr 1 (.t 4), none⟩,
           ⟨some 24, .load false 1 (.t 23), none⟩,
           ⟨some 25, .call 68 [(.t 22), (.t 24)], none⟩,
           ⟨none, .store 1 (.t 1) (.t 25), none⟩,
           ⟨some 2, .mov (.c (.bool true)), none⟩])
        (.skip)))))
    (.region [⟨some 26, .bin .add (.t 7) (.c (.int Go.IntKind.i64 1)), none⟩,
       ⟨some 7, .mov (.t 26), none⟩])))

def a66l0 : ACode := a66l0b
def a66l0s : List Nat := [0, 3, 4, 8, 9, 10, 11, 12, 13, 14, 15, 16, 17, 18, 19, 20, 21, 22, 23, 24, 25, 26, 27]
abbrev a66l0F (s1 s2 s5 s6 s7 : AV) : List AV := [.any, s1, s2, .any, .any, s5, s6, s7, .any, .any, .any, .any, .any, .any, .any, .any, .any, .any, .any, .any, .any, .any, .any, .any, .any, .any, .any, .any]
theorem a66l0c (s0 s1 s2 s3 s4 s5 s6 s7 s8 s9 s10 s11 s12 s13 s14 s15 s16 s17 s18 s19 s20 s21 s22 s23 s24 s25 s26 s27 : AV) : clearA a66l0s [s0, s1, s2, s3, s4, s5, s6, s7, s8, s9, s10, s11, s12, s13, s14, s15, s16, s17, s18, s19, s20, s21, s22, s23, s24, s25, s26, s27] = a66l0F s1 s2 s5 s6 s7 := by kernel_rfl
theorem a66l0n {prog : Nat → Option AFunc} (s1 s2 s5 s6 s7 : AV) (H : Heap) : (lim prog).loop a66l0s a66l0 ⟨a66l0F s1 s2 s5 s6 s7, H⟩ = loopK (lim prog) a66l0s a66l0 (run (lim prog) a66l0b ⟨a66l0F s1 s2 s5 s6 s7, H⟩) := lim_loop_step _ _ _ _ (by kernel_rfl)

/-- sentinel/nfa.closed$1 -/
def a66 : AFunc := ⟨28,
  .seq (.region [⟨some 2, .mov (.c (.bool false)), none⟩])
  (.seq (.seq (.region [⟨some 5, .load false 1 (.t 0), none⟩,
       ⟨some 6, .len (.t 5), none⟩,
       ⟨some 7, .mov (.c (.int Go.IntKind.i64 0)), none⟩])
    (.block 0 (.loop a66l0s a66l0)))
   (.seq (.region [⟨some 27, .mov (.t 2), none⟩,
       ⟨some 2, .mov (.t 27), none⟩])
    (.ret))),
  [.tmp 2]⟩

/-- sentinel/bitset.Has -/
def a67 : AFunc := ⟨9,
  .seq (.region [⟨some 4, .mov (.c (.bool false)), none⟩])
  (.seq (.region [⟨some 5, .mov (.t 0), none⟩,
      ⟨some 6, .mov (.t 1), none⟩,
      ⟨some 7, .call 79 [(.t 6)], none⟩,
      ⟨some 8, .call 53 [(.t 5), (.t 7)], none⟩,
      ⟨some 4, .mov (.t 8), none⟩])
   (.ret)),
  [.tmp 4]⟩

/-- sentinel/bitset.With -/
def a68 : AFunc := ⟨9,
  .seq (.region [⟨some 4, .mov (.c (.sl true 0 [])), none⟩])
  (.seq (.region [⟨some 5, .mov (.t 0), none⟩,
      ⟨some 6, .mov (.t 1), none⟩,
      ⟨some 7, .call 79 [(.t 6)], none⟩,
      ⟨some 8, .call 77 [(.t 5), (.t 7)], none⟩,
      ⟨some 4, .mov (.t 8), none⟩])
   (.ret)),
  [.tmp 4]⟩

/-- sentinel/bitset.elements -/
def a69 : AFunc := ⟨4,
  .seq (.region [⟨some 1, .box (.t 0), none⟩,
     ⟨some 2, .mov (.c (.nilf)), none⟩])
  (.seq (.region [⟨some 3, .mkfunc 80 [(.t 1)], none⟩,
      ⟨some 2, .mov (.t 3), none⟩])
   (.ret)),
  [.tmp 2]⟩

def a70l0b : ACode :=
  .seq (.region [⟨some 17, .bin .lss (.t 16) (.t 15), none⟩])
  (.seq (.cond (.t 17)
    (.skip)
    (.exit 0))
   (.seq (.block 1 (.seq (.region [⟨some 18, .mov (.t 16), none⟩,
         ⟨some 9, .mov (.t 18), none⟩])
      (.region [⟨some 19, .mov (.t 8), none⟩,
         ⟨some 20, .mov (.t 2), none⟩,
         ⟨some 21, .mov (.t 7), none⟩,
         ⟨some 22, .mov (.t 0), none⟩,
         ⟨some 23, .mov (.t 9), none⟩,
         ⟨some 24, .icall (.t 21) [(.t 22), (.t 23)], none⟩,
         ⟨some 25, .mov (.t 7), none⟩,
         ⟨some 26, .mov (.t 1), none⟩,
         ⟨some 27, .mov (.t 9), none⟩,
         ⟨some 28, .icall (.t 25) [(.t 26), (.t 27)], none⟩,
         ⟨some 29, .icall (.t 20) [(.t 24), (.t 28)], none⟩,
         ⟨some 30, .bslice true [.int Go.IntKind.u64 0] 1 1 [(0, (.t 29))], none⟩,
         ⟨some 31, .append false 1 8 (.t 19) (.t 30), none⟩,
         ⟨some 8, .mov (.t 31), none⟩])))
    (.region [⟨some 32, .bin .add (.t 16) (.c (.int Go.IntKind.i64 1)), none⟩,
       ⟨some 16, .mov (.t 32), none⟩])))

def a70l0 : ACode := a70l0b
def a70l0s : List Nat := [3, 4, 5, 6, 9, 10, 11, 12, 13, 14, 17, 18, 19, 20, 21, 22, 23, 24, 25, 26, 27, 28, 29, 30, 31, 32, 33, 34, 35, 36, 37, 38, 39, 40, 41, 42, 43, 44, 45, 46, 47, 48, 49, 50, 51]
abbrev a70l0F (s0 s1 s2 s7 s8 s15 s16 : AV) : List AV := [s0, s1, s2, .any, .any, .any, .any, s7, s8, .any, .any, .any, .any, .any, .any, s15, s16, .any, .any, .any, .any, .any, .any, .any, .any, .any, .any, .any, .any, .any, .any, .any, .any, .any, .any, .any, .any, .any, .any, .any, .any, .any, .any, .any, .any, .any, .any, .any, .any, .any, .any, .any]
theorem a70l0c (s0 s1 s2 s3 s4 s5 s6 s7 s8 s9 s10 s11 s12 s13 s14 s15 s16 s17 s18 s19 s20 s21 s22 s23 s24 s25 s26 s27 s28 s29 s30 s31 s32 s33 s34 s35 s36 s37 s38 s39 s40 s41 s42 s43 s44 s45 s46 s47 s48 s49 s50 s51 : AV) : clearA a70l0s [s0, s1, s2, s3, s4, s5, s6, s7, s8, s9, s10, s11, s12, s13, s14, s15, s16, s17, s18, s19, s20, s21, s22, s23, s24, s25, s26, s27, s28, s29, s30, s31, s32, s33, s34, s35, s36, s37, s38, s39, s40, s41, s42, s43, s44, s45, s46, s47, s48, s49, s50, s51] = a70l0F s0 s1 s2 s7 s8 s15 s16 := by kernel_rfl
theorem a70l0n {prog : Nat → Option AFunc} (s0 s1 s2 s7 s8 s15 s16 : AV) (H : Heap) : (lim prog).loop a70l0s a70l0 ⟨a70l0F s0 s1 s2 s7 s8 s15 s16, H⟩ = loopK (lim prog) a70l0s a70l0 (run (lim prog) a70l0b ⟨a70l0F s0 s1 s2 s7 s8 s15 s16, H⟩) := lim_loop_step _ _ _ _ (by kernel_rfl)

def a70l1b : ACode :=
  .seq (.seq (.region [⟨some 33, .mov (.t 8), none⟩,
      ⟨some 34, .len (.t 33), none⟩,
      ⟨some 35, .bin .gtr (.t 34) (.c (.int Go.IntKind.i64 0)), none⟩,
      ⟨some 36, .mov (.t 35), none⟩,
      ⟨some 37, .mov (.t 8), some (36, true)⟩,
      ⟨some 38, .mov (.t 8), some (36, true)⟩,
      ⟨some 39, .len (.t 38), some (36, true)⟩,
      ⟨some 40, .bin .sub (.t 39) (.c (.int Go.IntKind.i64 1)), some (36, true)⟩,
      ⟨some 41, .iaddr 1 (.t 37) (.t 40), some (36, true)⟩,
      ⟨some 42, .load false 1 (.t 41), some (36, true)⟩,
      ⟨some 43, .bin .eql (.t 42) (.c (.int Go.IntKind.u64 0)), some (36, true)⟩,
      ⟨some 44, .pick (.t 36) (.t 43) (.c (.bool false)), none⟩])
   (.cond (.t 44)
    (.skip)
    (.exit 2)))
  (.block 3 (.region [⟨some 45, .mov (.t 8), none⟩,
      ⟨some 46, .mov (.t 8), none⟩,
      ⟨some 47, .len (.t 46), none⟩,
      ⟨some 48, .bin .sub (.t 47) (.c (.int Go.IntKind.i64 1)), none⟩,
      ⟨some 49, .slice 1 (.t 45) none (some (.t 48)) none, none⟩,
      ⟨some 8, .mov (.t 49), none⟩]))

def a70l1 : ACode := a70l1b
def a70l1s : List Nat := [0, 1, 2, 3, 4, 5, 6, 7, 9, 10, 11, 12, 13, 14, 15, 16, 17, 18, 19, 20, 21, 22, 23, 24, 25, 26, 27, 28, 29, 30, 31, 32, 33, 34, 35, 36, 37, 38, 39, 40, 41, 42, 43, 44, 45, 46, 47, 48, 49, 50, 51]
abbrev a70l1F (s8 : AV) : List AV := [.any, .any, .any, .any, .any, .any, .any, .any, s8, .any, .any, .any, .any, .any, .any, .any, .any, .any, .any, .any, .any, .any, .any, .any, .any, .any, .any, .any, .any, .any, .any, .any, .any, .any, .any, .any, .any, .any, .any, .any, .any, .any, .any, .any, .any, .any, .any, .any, .any, .any, .any, .any]
theorem a70l1c (s0 s1 s2 s3 s4 s5 s6 s7 s8 s9 s10 s11 s12 s13 s14 s15 s16 s17 s18 s19 s20 s21 s22 s23 s24 s25 s26 s27 s28 s29 s30 s31 s32 s33 s34 s35 s36 s37 s38 s39 s40 s41 s42 s43 s44 s45 s46 s47 s48 s49 s50 s51 : AV) : clearA a70l1s [s0, s1, s2, s3, s4, s5, s6, s7, s8, s9, s10, s11, s12, s13, s14, s15, s16, s17, s18, s19, s20, s21, s22, s23, s24, s25, s26, s27, s28, s29, s30, s31, s32, s33, s34, s35, s36, s37, s38, s39, s40, s41, s42, s43, s44, s45, s46, s47, s48, s49, s50, s51] = a70l1F s8 := by kernel_rfl
theorem a70l1n {prog : Nat → Option AFunc} (s8 : AV) (H : Heap) : (lim prog).loop a70l1s a70l1 ⟨a70l1F s8, H⟩ = loopK (lim prog) a70l1s a70l1 (run (lim prog) a70l1b ⟨a70l1F s8, H⟩) := lim_loop_step _ _ _ _ (by kernel_rfl)

/-- sentinel/bitset.combine -/
def a70 : AFunc := ⟨52,
  .seq (.region [⟨some 6, .mov (.c (.sl true 0 [])), none⟩])
  (.seq (.region [⟨some 7, .mov (.c (.func 82 [])), none⟩])
   (.seq (.region [⟨some 8, .mov (.c (.sl true 0 [])), none⟩])
    (.seq (.seq (.region [⟨some 10, .mov (.t 0), none⟩,
         ⟨some 11, .len (.t 10), none⟩,
         ⟨some 12, .mov (.t 1), none⟩,
         ⟨some 13, .len (.t 12), none⟩,
         ⟨some 14, .maxi (.t 11) (.t 13), none⟩,
         ⟨some 15, .mini (.t 14) (.c (.int Go.IntKind.i64 64)), none⟩,
         ⟨some 16, .mov (.c (.int Go.IntKind.i64 0)), none⟩])
      (.block 0 (.loop a70l0s a70l0)))
     (.seq (.block 2 (.loop a70l1s a70l1))
      (.seq (.region [⟨some 50, .mov (.t 8), none⟩,
          ⟨some 51, .call 83 [(.t 50)], none⟩,
          ⟨some 6, .mov (.t 51), none⟩])
       (.ret)))))),
  [.tmp 6]⟩

/-- sentinel/bitset.Intersect$1 -/
def a71 : AFunc := ⟨8,
  .seq (.region [⟨some 4, .mov (.c (.int Go.IntKind.u64 0)), none⟩])
  (.seq (.region [⟨some 5, .mov (.t 0), none⟩,
      ⟨some 6, .mov (.t 1), none⟩,
      ⟨some 7, .bin .and (.t 5) (.t 6), none⟩,
      ⟨some 4, .mov (.t 7), none⟩])
   (.ret)),
  [.tmp 4]⟩

/-- cmp.Less[int] -/
def a72 : AFunc := ⟨17,
  .seq (.region [⟨some 4, .mov (.c (.bool false)), none⟩])
  (.seq (.region [⟨some 5, .mov (.t 0), none⟩,
      ⟨some 6, .call 84 [(.t 5)], none⟩,
      ⟨some 7, .mov (.t 6), none⟩,
      ⟨some 8, .mov (.t 1), some (7, true)⟩,
      ⟨some 9, .call 84 [(.t 8)], some (7, true)⟩,
      ⟨some 10, .un .not (.t 9), some (7, true)⟩,
      ⟨some 11, .pick (.t 7) (.t 10) (.c (.bool false)), none⟩,
      ⟨some 12, .mov (.t 11), none⟩,
      ⟨some 13, .mov (.t 0), some (12, false)⟩,
      ⟨some 14, .mov (.t 1), some (12, false)⟩,
      ⟨some 15, .bin .lss (.t 13) (.t 14), some (12, false)⟩,
      ⟨some 16, .pick (.t 12) (.c (.bool true)) (.t 15), none⟩,
      ⟨some 4, .mov (.t 16), none⟩])
   (.ret)),
  [.tmp 4]⟩

/-- slices.isNaN[int] -/
def a73 : AFunc := ⟨6,
  .seq (.region [⟨some 2, .mov (.c (.bool false)), none⟩])
  (.seq (.region [⟨some 3, .mov (.t 0), none⟩,
      ⟨some 4, .mov (.t 0), none⟩,
      ⟨some 5, .bin .neq (.t 3) (.t 4), none⟩,
      ⟨some 2, .mov (.t 5), none⟩])
   (.ret)),
  [.tmp 2]⟩

/-- slices.ContainsFunc[[]uint8,uint8] -/
def a74 : AFunc := ⟨9,
  .seq (.region [⟨some 4, .mov (.c (.bool false)), none⟩])
  (.seq (.region [⟨some 5, .mov (.t 0), none⟩,
      ⟨some 6, .mov (.t 1), none⟩,
      ⟨some 7, .icall (.c (.func 85 [])) [(.t 5), (.t 6)], none⟩,
      ⟨some 8, .bin .geq (.t 7) (.c (.int Go.IntKind.i64 0)), none⟩,
      ⟨some 4, .mov (.t 8), none⟩])
   (.ret)),
  [.tmp 4]⟩

/-- sentinel/nfa.word$1 -/
def a75 : AFunc := ⟨10,
  .seq (.region [⟨some 3, .mov (.c (.bool false)), none⟩])
  (.seq (.region [⟨some 4, .mov (.t 0), none⟩,
      ⟨some 5, .conv Go.IntKind.i64 (.t 4), none⟩,
      ⟨some 6, .faddr 0 (.t 1), none⟩,
      ⟨some 7, .load false 1 (.t 6), none⟩,
      ⟨some 8, .bin .shl (.c (.int Go.IntKind.i64 1)) (.t 7), none⟩,
      ⟨some 9, .bin .geq (.t 5) (.t 8), none⟩,
      ⟨some 3, .mov (.t 9), none⟩])
   (.ret)),
  [.tmp 3]⟩

/-- sentinel/nfa.matching -/
def a76 : AFunc := ⟨6,
  .seq (.region [⟨some 2, .box (.t 0), none⟩,
     ⟨some 3, .box (.t 1), none⟩,
     ⟨some 4, .mov (.c (.nilf)), none⟩])
  (.seq (.region [⟨some 5, .mkfunc 86 [(.t 2), (.t 3)], none⟩,
      ⟨some 4, .mov (.t 5), none⟩])
   (.ret)),
  [.tmp 4]⟩

/-- sentinel/bitset.Union -/
def a77 : AFunc := ⟨8,
  .seq (.region [⟨some 4, .mov (.c (.sl true 0 [])), none⟩])
  (.seq (.region [⟨some 5, .mov (.t 0), none⟩,
      ⟨some 6, .mov (.t 1), none⟩,
      ⟨some 7, .icall (.c (.func 70 [])) [(.t 5), (.t 6), (.c (.func 88 []))], none⟩,
      ⟨some 4, .mov (.t 7), none⟩])
   (.ret)),
  [.tmp 4]⟩

/-- sentinel/bitset.single -/
def a79 : AFunc := ⟨22,
  .seq (.region [⟨some 2, .mov (.c (.sl true 0 [])), none⟩])
  (.seq (.seq (.region [⟨some 4, .mov (.t 0), none⟩,
       ⟨some 5, .bin .lss (.t 4) (.c (.int Go.IntKind.i64 0)), none⟩,
       ⟨some 6, .mov (.t 5), none⟩,
       ⟨some 7, .mov (.t 0), some (6, false)⟩,
       ⟨some 8, .bin .gtr (.t 7) (.c (.int Go.IntKind.i64 4095)), some (6, false)⟩,
       ⟨some 9, .pick (.t 6) (.c (.bool true)) (.t 8), none⟩])
    (.cond (.t 9)
     (.seq (.region [⟨some 2, .mov (.c (.sl true 0 [])), none⟩])
      (.ret))
     (.skip)))
   (.seq (.region [⟨some 10, .mov (.t 0), none⟩,
       ⟨some 11, .bin .quo (.t 10) (.c (.int Go.IntKind.i64 64)), none⟩,
       ⟨some 12, .bin .add (.t 11) (.c (.int Go.IntKind.i64 1)), none⟩,
       ⟨some 13, .mkslice false [.int Go.IntKind.u64 0] 8 (.t 12) (.t 12), none⟩,
       ⟨some 3, .mov (.t 13), none⟩])
    (.seq (.region [⟨some 14, .mov (.t 3), none⟩,
        ⟨some 15, .mov (.t 0), none⟩,
        ⟨some 16, .bin .quo (.t 15) (.c (.int Go.IntKind.i64 64)), none⟩,
        ⟨some 17, .mov (.t 0), none⟩,
        ⟨some 18, .bin .rem (.t 17) (.c (.int Go.IntKind.i64 64)), none⟩,
        ⟨some 19, .bin .shl (.c (.int Go.IntKind.u64 1)) (.t 18), none⟩,
        ⟨some 20, .iaddr 1 (.t 14) (.t 16), none⟩,
        ⟨none, .store 1 (.t 20) (.t 19), none⟩])
     (.seq (.region [⟨some 21, .mov (.t 3), none⟩,
         ⟨some 2, .mov (.t 21), none⟩])
      (.ret))))),
  [.tmp 2]⟩

def a80l0b : ACode :=
  .seq (.seq (.region [⟨some 16, .mov (.t 4), none⟩,
      ⟨some 17, .bin .neq (.t 16) (.c (.int Go.IntKind.u64 0)), none⟩])
   (.cond (.t 17)
    (.skip)
    (.exit 2)))
  (.block 3 (.seq (.seq (.region [⟨some 18, .mov (.t 0), none⟩,
        ⟨some 19, .mov (.t 3), none⟩,
        ⟨some 20, .bin .mul (.c (.int Go.IntKind.i64 64)) (.t 19), none⟩,
        ⟨some 21, .mov (.t 4), none⟩,
        ⟨some 22, .call 81 [(.t 21)], none⟩,
        ⟨some 23, .bin .add (.t 20) (.t 22), none⟩,
        ⟨some 24, .icall (.t 18) [(.t 23)], none⟩,
        ⟨some 25, .un .not (.t 24), none⟩])
     (.cond (.t 25)
      (.ret)
      (.skip)))
    (.region [⟨some 26, .mov (.t 4), none⟩,
       ⟨some 27, .mov (.t 4), none⟩,
       ⟨some 28, .bin .sub (.t 27) (.c (.int Go.IntKind.u64 1)), none⟩,
       ⟨some 29, .bin .and (.t 26) (.t 28), none⟩,
       ⟨some 4, .mov (.t 29), none⟩])))

def a80l0 : ACode := a80l0b
def a80l0s : List Nat := [1, 2, 5, 6, 7, 8, 12, 13, 14, 15, 16, 17, 18, 19, 20, 21, 22, 23, 24, 25, 26, 27, 28, 29, 30]
abbrev a80l0F (s0 s3 s4 s9 s10 s11 : AV) : List AV := [s0, .any, .any, s3, s4, .any, .any, .any, .any, s9, s10, s11, .any, .any, .any, .any, .any, .any, .any, .any, .any, .any, .any, .any, .any, .any, .any, .any, .any, .any, .any]
theorem a80l0c (s0 s1 s2 s3 s4 s5 s6 s7 s8 s9 s10 s11 s12 s13 s14 s15 s16 s17 s18 s19 s20 s21 s22 s23 s24 s25 s26 s27 s28 s29 s30 : AV) : clearA a80l0s [s0, s1, s2, s3, s4, s5, s6, s7, s8, s9, s10, s11, s12, s13, s14, s15, s16, s17, s18, s19, s20, s21, s22, s23, s24, s25, s26, s27, s28, s29, s30] = a80l0F s0 s3 s4 s9 s10 s11 := by kernel_rfl
theorem a80l0n {prog : Nat → Option AFunc} (s0 s3 s4 s9 s10 s11 : AV) (H : Heap) : (lim prog).loop a80l0s a80l0 ⟨a80l0F s0 s3 s4 s9 s10 s11, H⟩ = loopK (lim prog) a80l0s a80l0 (run (lim prog) a80l0b ⟨a80l0F s0 s3 s4 s9 s10 s11, H⟩) := lim_loop_step _ _ _ _ (by kernel_rfl)

def a80l1b : ACode :=
  .seq (.region [⟨some 12, .bin .lss (.t 11) (.t 10), none⟩])
  (.seq (.cond (.t 12)
    (.skip)
    (.exit 0))
   (.seq (.block 1 (.seq (.region [⟨some 13, .mov (.t 11), none⟩,
         ⟨some 14, .iaddr 1 (.t 9) (.t 11), none⟩,
         ⟨some 15, .load false 1 (.t 14), none⟩,
         ⟨some 3, .mov (.t 13), none⟩,
         ⟨some 4, .mov (.t 15), none⟩])
      (.block 2 (.loop a80l0s a80l0))))
    (.region [⟨some 30, .bin .add (.t 11) (.c (.int Go.IntKind.i64 1)), none⟩,
       ⟨some 11, .mov (.t 30), none⟩])))

def a80l1 : ACode := a80l1b
def a80l1s : List Nat := [1, 2, 3, 4, 5, 6, 7, 8, 12, 13, 14, 15, 16, 17, 18, 19, 20, 21, 22, 23, 24, 25, 26, 27, 28, 29, 30]
abbrev a80l1F (s0 s9 s10 s11 : AV) : List AV := [s0, .any, .any, .any, .any, .any, .any, .any, .any, s9, s10, s11, .any, .any, .any, .any, .any, .any, .any, .any, .any, .any, .any, .any, .any, .any, .any, .any, .any, .any, .any]
theorem a80l1c (s0 s1 s2 s3 s4 s5 s6 s7 s8 s9 s10 s11 s12 s13 s14 s15 s16 s17 s18 s19 s20 s21 s22 s23 s24 s25 s26 s27 s28 s29 s30 : AV) : clearA a80l1s [s0, s1, s2, s3, s4, s5, s6, s7, s8, s9, s10, s11, s12, s13, s14, s15, s16, s17, s18, s19, s20, s21, s22, s23, s24, s25, s26, s27, s28, s29, s30] = a80l1F s0 s9 s10 s11 := by kernel_rfl
theorem a80l1n {prog : Nat → Option AFunc} (s0 s9 s10 s11 : AV) (H : Heap) : (lim prog).loop a80l1s a80l1 ⟨a80l1F s0 s9 s10 s11, H⟩ = loopK (lim prog) a80l1s a80l1 (run (lim prog) a80l1b ⟨a80l1F s0 s9 s10 s11, H⟩) := lim_loop_step _ _ _ _ (by kernel_rfl)

/-- sentinel/bitset.elements$1 -/
def a80 : AFunc := ⟨31,
  .seq (.region [⟨some 5, .load false 1 (.t 1), none⟩,
     ⟨some 6, .load false 1 (.t 1), none⟩,
     ⟨some 7, .len (.t 6), none⟩,
     ⟨some 8, .mini (.t 7) (.c (.int Go.IntKind.i64 64)), none⟩,
     ⟨some 9, .slice 1 (.t 5) none (some (.t 8)) none, none⟩,
     ⟨some 10, .len (.t 9), none⟩,
     ⟨some 11, .mov (.c (.int Go.IntKind.i64 0)), none⟩])
  (.block 0 (.loop a80l1s a80l1)),
  []⟩

/-- math/bits.TrailingZeros64 -/
def a81 : AFunc := ⟨14,
  .seq (.region [⟨some 2, .mov (.c (.int Go.IntKind.i64 0)), none⟩])
  (.seq (.seq (.region [⟨some 3, .mov (.t 0), none⟩,
       ⟨some 4, .bin .eql (.t 3) (.c (.int Go.IntKind.u64 0)), none⟩])
    (.cond (.t 4)
     (.seq (.region [⟨some 2, .mov (.c (.int Go.IntKind.i64 64)), none⟩])
      (.ret))
     (.skip)))
   (.seq (.region [⟨some 5, .mov (.t 0), none⟩,
       ⟨some 6, .mov (.t 0), none⟩,
       ⟨some 7, .un .neg (.t 6), none⟩,
       ⟨some 8, .bin .and (.t 5) (.t 7), none⟩,
       ⟨some 9, .bin .mul (.t 8) (.c (.int Go.IntKind.u64 285870213051353865)), none⟩,
       ⟨some 10, .bin .shr (.t 9) (.c (.int Go.IntKind.u64 58)), none⟩,
       ⟨some 11, .garr 0 1 64 (.t 10), none⟩,
       ⟨some 12, .load false 1 (.t 11), none⟩,
       ⟨some 13, .conv Go.IntKind.i64 (.t 12), none⟩,
       ⟨some 2, .mov (.t 13), none⟩])
    (.ret))),
  [.tmp 2]⟩

/-- sentinel/bitset.combine$1 -/
def a82 : AFunc := ⟨13,
  .seq (.region [⟨some 4, .mov (.c (.int Go.IntKind.u64 0)), none⟩])
  (.seq (.seq (.region [⟨some 5, .mov (.t 1), none⟩,
       ⟨some 6, .mov (.t 0), none⟩,
       ⟨some 7, .len (.t 6), none⟩,
       ⟨some 8, .bin .lss (.t 5) (.t 7), none⟩])
    (.cond (.t 8)
     (.seq (.region [⟨some 9, .mov (.t 0), none⟩,
         ⟨some 10, .mov (.t 1), none⟩,
         ⟨some 11, .iaddr 1 (.t 9) (.t 10), none⟩,
         ⟨some 12, .load false 1 (.t 11), none⟩,
         ⟨some 4, .mov (.t 12), none⟩])
      (.ret))
     (.skip)))
   (.seq (.region [⟨some 4, .mov (.c (.int Go.IntKind.u64 0)), none⟩])
    (.ret))),
  [.tmp 4]⟩

/-- slices.Clip[sentinel/api.Set,uint64] -/
def a83 : AFunc := ⟨9,
  .seq (.region [⟨some 2, .mov (.c (.sl true 0 [])), none⟩])
  (.seq (.region [⟨some 3, .mov (.t 0), none⟩,
      ⟨some 4, .mov (.t 0), none⟩,
      ⟨some 5, .len (.t 4), none⟩,
      ⟨some 6, .mov (.t 0), none⟩,
      ⟨some 7, .len (.t 6), none⟩,
      ⟨some 8, .slice 1 (.t 3) none (some (.t 5)) (some (.t 7)), none⟩,
      ⟨some 2, .mov (.t 8), none⟩])
   (.ret)),
  [.tmp 2]⟩

/-- cmp.isNaN[int] -/
def a84 : AFunc := ⟨6,
  .seq (.region [⟨some 2, .mov (.c (.bool false)), none⟩])
  (.seq (.region [⟨some 3, .mov (.t 0), none⟩,
      ⟨some 4, .mov (.t 0), none⟩,
      ⟨some 5, .bin .neq (.t 3) (.t 4), none⟩,
      ⟨some 2, .mov (.t 5), none⟩])
   (.ret)),
  [.tmp 2]⟩

def a85l0b : ACode :=
  .seq (.region [⟨some 9, .bin .lss (.t 8) (.t 7), none⟩])
  (.seq (.cond (.t 9)
    (.skip)
    (.exit 0))
   (.seq (.block 1 (.seq (.region [⟨some 10, .mov (.t 8), none⟩,
         ⟨some 5, .mov (.t 10), none⟩])
      (.seq (.region [⟨some 11, .mov (.t 1), none⟩,
          ⟨some 12, .mov (.t 0), none⟩,
          ⟨some 13, .mov (.t 5), none⟩,
          ⟨some 14, .iaddr 1 (.t 12) (.t 13), none⟩,
          ⟨some 15, .load false 1 (.t 14), none⟩,
          ⟨some 16, .icall (.t 11) [(.t 15)], none⟩])
       (.cond (.t 16)
        (.seq (.region [⟨some 17, .mov (.t 5), none⟩,
            ⟨some 4, .mov (.t 17), none⟩])
         (.ret))
        (.skip)))))
    (.region [⟨some 18, .bin .add (.t 8) (.c (.int Go.IntKind.i64 1)), none⟩,
       ⟨some 8, .mov (.t 18), none⟩])))

def a85l0 : ACode := a85l0b
def a85l0s : List Nat := [2, 3, 5, 6, 9, 10, 11, 12, 13, 14, 15, 16, 17, 18]
abbrev a85l0F (s0 s1 s4 s7 s8 : AV) : List AV := [s0, s1, .any, .any, s4, .any, .any, s7, s8, .any, .any, .any, .any, .any, .any, .any, .any, .any, .any]
theorem a85l0c (s0 s1 s2 s3 s4 s5 s6 s7 s8 s9 s10 s11 s12 s13 s14 s15 s16 s17 s18 : AV) : clearA a85l0s [s0, s1, s2, s3, s4, s5, s6, s7, s8, s9, s10, s11, s12, s13, s14, s15, s16, s17, s18] = a85l0F s0 s1 s4 s7 s8 := by kernel_rfl
theorem a85l0n {prog : Nat → Option AFunc} (s0 s1 s4 s7 s8 : AV) (H : Heap) : (lim prog).loop a85l0s a85l0 ⟨a85l0F s0 s1 s4 s7 s8, H⟩ = loopK (lim prog) a85l0s a85l0 (run (lim prog) a85l0b ⟨a85l0F s0 s1 s4 s7 s8, H⟩) := lim_loop_step _ _ _ _ (by kernel_rfl)

/-- slices.IndexFunc[[]uint8,uint8] -/
def a85 : AFunc := ⟨19,
  .seq (.region [⟨some 4, .mov (.c (.int Go.IntKind.i64 0)), none⟩])
  (.seq (.seq (.region [⟨some 6, .mov (.t 0), none⟩,
       ⟨some 7, .len (.t 6), none⟩,
       ⟨some 8, .mov (.c (.int Go.IntKind.i64 0)), none⟩])
    (.block 0 (.loop a85l0s a85l0)))
   (.seq (.region [⟨some 4, .mov (.c (.int Go.IntKind.i64 (-1))), none⟩])
    (.ret))),
  [.tmp 4]⟩

def a86l0b : ACode :=
  .seq (.region [⟨some 10, .bin .lss (.t 9) (.t 8), none⟩])
  (.seq (.cond (.t 10)
    (.skip)
    (.exit 0))
   (.seq (.block 1 (.seq (.region [⟨some 11, .iaddr 4 (.t 7) (.t 9), none⟩,
         ⟨some 12, .load true 4 (.t 11), none⟩,
         ⟨some 5, .box (.c (.agg [.int Go.IntKind.i64 0, .int Go.IntKind.i64 0, .int Go.IntKind.u8 0, .int Go.IntKind.u8 0])), none⟩,
         ⟨none, .store 4 (.t 5) (.t 12), none⟩])
      (.seq (.region [⟨some 13, .faddr 2 (.t 5), none⟩,
          ⟨some 14, .load false 1 (.t 13), none⟩,
          ⟨some 15, .faddr 3 (.t 5), none⟩,
          ⟨some 16, .load false 1 (.t 15), none⟩,
          ⟨some 17, .build [.int Go.IntKind.u8 0, .int Go.IntKind.u8 0] [(0, 1, (.t 14)), (1, 1, (.t 16))], none⟩,
          ⟨some 18, .load false 1 (.t 2), none⟩,
          ⟨some 19, .call 87 [(.t 17), (.t 18)], none⟩,
          ⟨some 20, .mov (.t 19), none⟩,
          ⟨some 21, .mov (.t 0), some (20, true)⟩,
          ⟨some 22, .load true 4 (.t 5), some (20, true)⟩,
          ⟨some 23, .icall (.t 21) [(.t 22)], some (20, true)⟩,
          ⟨some 24, .un .not (.t 23), some (20, true)⟩,
          ⟨some 25, .pick (.t 20) (.t 24) (.c (.bool false)), none⟩])
       (.cond (.t 25)
        (.ret)
        (.skip)))))
    (.region [⟨some 26, .bin .add (.t 9) (.c (.int Go.IntKind.i64 1)), none⟩,
       ⟨some 9, .mov (.t 26), none⟩])))

def a86l0 : ACode := a86l0b
def a86l0s : List Nat := [1, 3, 4, 5, 6, 10, 11, 12, 13, 14, 15, 16, 17, 18, 19, 20, 21, 22, 23, 24, 25, 26]
abbrev a86l0F (s0 s2 s7 s8 s9 : AV) : List AV := [s0, .any, s2, .any, .any, .any, .any, s7, s8, s9, .any, .any, .any, .any, .any, .any, .any, .any, .any, .any, .any, .any, .any, .any, .any, .any, .any]
theorem a86l0c (s0 s1 s2 s3 s4 s5 s6 s7 s8 s9 s10 s11 s12 s13 s14 s15 s16 s17 s18 s19 s20 s21 s22 s23 s24 s25 s26 : AV) : clearA a86l0s [s0, s1, s2, s3, s4, s5, s6, s7, s8, s9, s10, s11, s12, s13, s14, s15, s16, s17, s18, s19, s20, s21, s22, s23, s24, s25, s26] = a86l0F s0 s2 s7 s8 s9 := by kernel_rfl
theorem a86l0n {prog : Nat → Option AFunc} (s0 s2 s7 s8 s9 : AV) (H : Heap) : (lim prog).loop a86l0s a86l0 ⟨a86l0F s0 s2 s7 s8 s9, H⟩ = loopK (lim prog) a86l0s a86l0 (run (lim prog) a86l0b ⟨a86l0F s0 s2 s7 s8 s9, H⟩) := lim_loop_step _ _ _ _ (by kernel_rfl)

/-- sentinel/nfa.matching$1 -/
def a86 : AFunc := ⟨27,
  .seq (.region [⟨some 6, .faddr 4 (.t 1), none⟩,
     ⟨some 7, .load false 1 (.t 6), none⟩,
     ⟨some 8, .len (.t 7), none⟩,
     ⟨some 9, .mov (.c (.int Go.IntKind.i64 0)), none⟩])
  (.block 0 (.loop a86l0s a86l0)),
  []⟩

/-- sentinel/cube.Has -/
def a87 : AFunc := ⟨19,
  .seq (.region [⟨some 2, .box (.t 0), none⟩,
     ⟨some 4, .mov (.c (.bool false)), none⟩])
  (.seq (.region [⟨some 5, .mov (.t 1), none⟩,
      ⟨some 6, .faddr 0 (.t 2), none⟩,
      ⟨some 7, .load false 1 (.t 6), none⟩,
      ⟨some 8, .bin .and (.t 5) (.t 7), none⟩,
      ⟨some 9, .faddr 0 (.t 2), none⟩,
      ⟨some 10, .load false 1 (.t 9), none⟩,
      ⟨some 11, .bin .eql (.t 8) (.t 10), none⟩,
      ⟨some 12, .mov (.t 11), none⟩,
      ⟨some 13, .mov (.t 1), some (12, true)⟩,
      ⟨some 14, .faddr 1 (.t 2), some (12, true)⟩,
      ⟨some 15, .load false 1 (.t 14), some (12, true)⟩,
      ⟨some 16, .bin .and (.t 13) (.t 15), some (12, true)⟩,
      ⟨some 17, .bin .eql (.t 16) (.c (.int Go.IntKind.u8 0)), some (12, true)⟩,
      ⟨some 18, .pick (.t 12) (.t 17) (.c (.bool false)), none⟩,
      ⟨some 4, .mov (.t 18), none⟩])
   (.ret)),
  [.tmp 4]⟩

/-- sentinel/bitset.Union$1 -/
def a88 : AFunc := ⟨8,
  .seq (.region [⟨some 4, .mov (.c (.int Go.IntKind.u64 0)), none⟩])
  (.seq (.region [⟨some 5, .mov (.t 0), none⟩,
      ⟨some 6, .mov (.t 1), none⟩,
      ⟨some 7, .bin .or (.t 5) (.t 6), none⟩,
      ⟨some 4, .mov (.t 7), none⟩])
   (.ret)),
  [.tmp 4]⟩

def aprog : Nat → Option AFunc
  | 5 => some a5
  | 6 => some a6
  | 7 => some a7
  | 15 => some a15
  | 16 => some a16
  | 17 => some a17
  | 18 => some a18
  | 20 => some a20
  | 22 => some a22
  | 25 => some a25
  | 26 => some a26
  | 27 => some a27
  | 29 => some a29
  | 30 => some a30
  | 31 => some a31
  | 42 => some a42
  | 43 => some a43
  | 44 => some a44
  | 45 => some a45
  | 46 => some a46
  | 47 => some a47
  | 48 => some a48
  | 50 => some a50
  | 53 => some a53
  | 54 => some a54
  | 55 => some a55
  | 56 => some a56
  | 57 => some a57
  | 58 => some a58
  | 59 => some a59
  | 60 => some a60
  | 61 => some a61
  | 62 => some a62
  | 63 => some a63
  | 66 => some a66
  | 67 => some a67
  | 68 => some a68
  | 69 => some a69
  | 70 => some a70
  | 71 => some a71
  | 72 => some a72
  | 73 => some a73
  | 74 => some a74
  | 75 => some a75
  | 76 => some a76
  | 77 => some a77
  | 79 => some a79
  | 80 => some a80
  | 81 => some a81
  | 82 => some a82
  | 83 => some a83
  | 84 => some a84
  | 85 => some a85
  | 86 => some a86
  | 87 => some a87
  | 88 => some a88
  | _ => none
theorem a5p (args : List AV) : (lim aprog).pcall 5 args = pbodyA (lim aprog) a5 args := lim_pcall_eq rfl args
theorem a5i (caps args : List AV) (H : Heap) : (lim aprog).icall (.func 5 caps) args H = bodyA (lim aprog) a5 (args ++ caps) H := lim_fcall_eq rfl caps args H
theorem a6p (args : List AV) : (lim aprog).pcall 6 args = pbodyA (lim aprog) a6 args := lim_pcall_eq rfl args
theorem a6i (caps args : List AV) (H : Heap) : (lim aprog).icall (.func 6 caps) args H = bodyA (lim aprog) a6 (args ++ caps) H := lim_fcall_eq rfl caps args H
theorem a7p (args : List AV) : (lim aprog).pcall 7 args = pbodyA (lim aprog) a7 args := lim_pcall_eq rfl args
theorem a7i (caps args : List AV) (H : Heap) : (lim aprog).icall (.func 7 caps) args H = bodyA (lim aprog) a7 (args ++ caps) H := lim_fcall_eq rfl caps args H
theorem a15p (args : List AV) : (lim aprog).pcall 15 args = pbodyA (lim aprog) a15 args := lim_pcall_eq rfl args
theorem a15i (caps args : List AV) (H : Heap) : (lim aprog).icall (.func 15 caps) args H = bodyA (lim aprog) a15 (args ++ caps) H := lim_fcall_eq rfl caps args H
theorem a16p (args : List AV) : (lim aprog).pcall 16 args = pbodyA (lim aprog) a16 args := lim_pcall_eq rfl args
theorem a16i (caps args : List AV) (H : Heap) : (lim aprog).icall (.func 16 caps) args H = bodyA (lim aprog) a16 (args ++ caps) H := lim_fcall_eq rfl caps args H
theorem a17p (args : List AV) : (lim aprog).pcall 17 args = pbodyA (lim aprog) a17 args := lim_pcall_eq rfl args
theorem a17i (caps args : List AV) (H : Heap) : (lim aprog).icall (.func 17 caps) args H = bodyA (lim aprog) a17 (args ++ caps) H := lim_fcall_eq rfl caps args H
theorem a18p (args : List AV) : (lim aprog).pcall 18 args = pbodyA (lim aprog) a18 args := lim_pcall_eq rfl args
theorem a18i (caps args : List AV) (H : Heap) : (lim aprog).icall (.func 18 caps) args H = bodyA (lim aprog) a18 (args ++ caps) H := lim_fcall_eq rfl caps args H
theorem a20p (args : List AV) : (lim aprog).pcall 20 args = pbodyA (lim aprog) a20 args := lim_pcall_eq rfl args
theorem a20i (caps args : List AV) (H : Heap) : (lim aprog).icall (.func 20 caps) args H = bodyA (lim aprog) a20 (args ++ caps) H := lim_fcall_eq rfl caps args H
theorem a22p (args : List AV) : (lim aprog).pcall 22 args = pbodyA (lim aprog) a22 args := lim_pcall_eq rfl args
theorem a22i (caps args : List AV) (H : Heap) : (lim aprog).icall (.func 22 caps) args H = bodyA (lim aprog) a22 (args ++ caps) H := lim_fcall_eq rfl caps args H
theorem a25p (args : List AV) : (lim aprog).pcall 25 args = pbodyA (lim aprog) a25 args := lim_pcall_eq rfl args
theorem a25i (caps args : List AV) (H : Heap) : (lim aprog).icall (.func 25 caps) args H = bodyA (lim aprog) a25 (args ++ caps) H := lim_fcall_eq rfl caps args H
theorem a26p (args : List AV) : (lim aprog).pcall 26 args = pbodyA (lim aprog) a26 args := lim_pcall_eq rfl args
theorem a26i (caps args : List AV) (H : Heap) : (lim aprog).icall (.func 26 caps) args H = bodyA (lim aprog) a26 (args ++ caps) H := lim_fcall_eq rfl caps args H
theorem a27p (args : List AV) : (lim aprog).pcall 27 args = pbodyA (lim aprog) a27 args := lim_pcall_eq rfl args
theorem a27i (caps args : List AV) (H : Heap) : (lim aprog).icall (.func 27 caps) args H = bodyA (lim aprog) a27 (args ++ caps) H := lim_fcall_eq rfl caps args H
theorem a29p (args : List AV) : (lim aprog).pcall 29 args = pbodyA (lim aprog) a29 args := lim_pcall_eq rfl args
theorem a29i (caps args : List AV) (H : Heap) : (lim aprog).icall (.func 29 caps) args H = bodyA (lim aprog) a29 (args ++ caps) H := lim_fcall_eq rfl caps args H
theorem a30p (args : List AV) : (lim aprog).pcall 30 args = pbodyA (lim aprog) a30 args := lim_pcall_eq rfl args
theorem a30i (caps args : List AV) (H : Heap) : (lim aprog).icall (.func 30 caps) args H = bodyA (lim aprog) a30 (args ++ caps) H := lim_fcall_eq rfl caps args H
theorem a31p (args : List AV) : (lim aprog).pcall 31 args = pbodyA (lim aprog) a31 args := lim_pcall_eq rfl args
theorem a31i (caps args : List AV) (H : Heap) : (lim aprog).icall (.func 31 caps) args H = bodyA (lim aprog) a31 (args ++ caps) H := lim_fcall_eq rfl caps args H
theorem a42p (args : List AV) : (lim aprog).pcall 42 args = pbodyA (lim aprog) a42 args := lim_pcall_eq rfl args
theorem a42i (caps args : List AV) (H : Heap) : (lim aprog).icall (.func 42 caps) args H = bodyA (lim aprog) a42 (args ++ caps) H := lim_fcall_eq rfl caps args H
theorem a43p (args : List AV) : (lim aprog).pcall 43 args = pbodyA (lim aprog) a43 args := lim_pcall_eq rfl args
theorem a43i (caps args : List AV) (H : Heap) : (lim aprog).icall (.func 43 caps) args H = bodyA (lim aprog) a43 (args ++ caps) H := lim_fcall_eq rfl caps args H
theorem a44p (args : List AV) : (lim aprog).pcall 44 args = pbodyA (lim aprog) a44 args := lim_pcall_eq rfl args
theorem a44i (caps args : List AV) (H : Heap) : (lim aprog).icall (.func 44 caps) args H = bodyA (lim aprog) a44 (args ++ caps) H := lim_fcall_eq rfl caps args H
theorem a45p (args : List AV) : (lim aprog).pcall 45 args = pbodyA (lim aprog) a45 args := lim_pcall_eq rfl args
theorem a45i (caps args : List AV) (H : Heap) : (lim aprog).icall (.func 45 caps) args H = bodyA (lim aprog) a45 (args ++ caps) H := lim_fcall_eq rfl caps args H
theorem a46p (args : List AV) : (lim aprog).pcall 46 args = pbodyA (lim aprog) a46 args := lim_pcall_eq rfl args
theorem a46i (caps args : List AV) (H : Heap) : (lim aprog).icall (.func 46 caps) args H = bodyA (lim aprog) a46 (args ++ caps) H := lim_fcall_eq rfl caps args H
theorem a47p (args : List AV) : (lim aprog).pcall 47 args = pbodyA (lim aprog) a47 args := lim_pcall_eq rfl args
theorem a47i (caps args : List AV) (H : Heap) : (lim aprog).icall (.func 47 caps) args H = bodyA (lim aprog) a47 (args ++ caps) H := lim_fcall_eq rfl caps args H
theorem a48p (args : List AV) : (lim aprog).pcall 48 args = pbodyA (lim aprog) a48 args := lim_pcall_eq rfl args
theorem a48i (caps args : List AV) (H : Heap) : (lim aprog).icall (.func 48 caps) args H = bodyA (lim aprog) a48 (args ++ caps) H := lim_fcall_eq rfl caps args H
theorem a50p (args : List AV) : (lim aprog).pcall 50 args = pbodyA (lim aprog) a50 args := lim_pcall_eq rfl args
theorem a50i (caps args : List AV) (H : Heap) : (lim aprog).icall (.func 50 caps) args H = bodyA (lim aprog) a50 (args ++ caps) H := lim_fcall_eq rfl caps args H
theorem a53p (args : List AV) : (lim aprog).pcall 53 args = pbodyA (lim aprog) a53 args := lim_pcall_eq rfl args
theorem a53i (caps args : List AV) (H : Heap) : (lim aprog).icall (.func 53 caps) args H = bodyA (lim aprog) a53 (args ++ caps) H := lim_fcall_eq rfl caps args H
theorem a54p (args : List AV) : (lim aprog).pcall 54 args = pbodyA (lim aprog) a54 args := lim_pcall_eq rfl args
theorem a54i (caps args : List AV) (H : Heap) : (lim aprog).icall (.func 54 caps) args H = bodyA (lim aprog) a54 (args ++ caps) H := lim_fcall_eq rfl caps args H
theorem a55p (args : List AV) : (lim aprog).pcall 55 args = pbodyA (lim aprog) a55 args := lim_pcall_eq rfl args
theorem a55i (caps args : List AV) (H : Heap) : (lim aprog).icall (.func 55 caps) args H = bodyA (lim aprog) a55 (args ++ caps) H := lim_fcall_eq rfl caps args H
theorem a56p (args : List AV) : (lim aprog).pcall 56 args = pbodyA (lim aprog) a56 args := lim_pcall_eq rfl args
theorem a56i (caps args : List AV) (H : Heap) : (lim aprog).icall (.func 56 caps) args H = bodyA (lim aprog) a56 (args ++ caps) H := lim_fcall_eq rfl caps args H
theorem a57p (args : List AV) : (lim aprog).pcall 57 args = pbodyA (lim aprog) a57 args := lim_pcall_eq rfl args
theorem a57i (caps args : List AV) (H : Heap) : (lim aprog).icall (.func 57 caps) args H = bodyA (lim aprog) a57 (args ++ caps) H := lim_fcall_eq rfl caps args H
theorem a58p (args : List AV) : (lim aprog).pcall 58 args = pbodyA (lim aprog) a58 args := lim_pcall_eq rfl args
theorem a58i (caps args : List AV) (H : Heap) : (lim aprog).icall (.func 58 caps) args H = bodyA (lim aprog) a58 (args ++ caps) H := lim_fcall_eq rfl caps args H
theorem a59p (args : List AV) : (lim aprog).pcall 59 args = pbodyA (lim aprog) a59 args := lim_pcall_eq rfl args
theorem a59i (caps args : List AV) (H : Heap) : (lim aprog).icall (.func 59 caps) args H = bodyA (lim aprog) a59 (args ++ caps) H := lim_fcall_eq rfl caps args H
theorem a60p (args : List AV) : (lim aprog).pcall 60 args = pbodyA (lim aprog) a60 args := lim_pcall_eq rfl args
theorem a60i (caps args : List AV) (H : Heap) : (lim aprog).icall (.func 60 caps) args H = bodyA (lim aprog) a60 (args ++ caps) H := lim_fcall_eq rfl caps args H
theorem a61p (args : List AV) : (lim aprog).pcall 61 args = pbodyA (lim aprog) a61 args := lim_pcall_eq rfl args
theorem a61i (caps args : List AV) (H : Heap) : (lim aprog).icall (.func 61 caps) args H = bodyA (lim aprog) a61 (args ++ caps) H := lim_fcall_eq rfl caps args H
theorem a62p (args : List AV) : (lim aprog).pcall 62 args = pbodyA (lim aprog) a62 args := lim_pcall_eq rfl args
theorem a62i (caps args : List AV) (H : Heap) : (lim aprog).icall (.func 62 caps) args H = bodyA (lim aprog) a62 (args ++ caps) H := lim_fcall_eq rfl caps args H
theorem a63p (args : List AV) : (lim aprog).pcall 63 args = pbodyA (lim aprog) a63 args := lim_pcall_eq rfl args
theorem a63i (caps args : List AV) (H : Heap) : (lim aprog).icall (.func 63 caps) args H = bodyA (lim aprog) a63 (args ++ caps) H := lim_fcall_eq rfl caps args H
theorem a66p (args : List AV) : (lim aprog).pcall 66 args = pbodyA (lim aprog) a66 args := lim_pcall_eq rfl args
theorem a66i (caps args : List AV) (H : Heap) : (lim aprog).icall (.func 66 caps) args H = bodyA (lim aprog) a66 (args ++ caps) H := lim_fcall_eq rfl caps args H
theorem a67p (args : List AV) : (lim aprog).pcall 67 args = pbodyA (lim aprog) a67 args := lim_pcall_eq rfl args
theorem a67i (caps args : List AV) (H : Heap) : (lim aprog).icall (.func 67 caps) args H = bodyA (lim aprog) a67 (args ++ caps) H := lim_fcall_eq rfl caps args H
theorem a68p (args : List AV) : (lim aprog).pcall 68 args = pbodyA (lim aprog) a68 args := lim_pcall_eq rfl args
theorem a68i (caps args : List AV) (H : Heap) : (lim aprog).icall (.func 68 caps) args H = bodyA (lim aprog) a68 (args ++ caps) H := lim_fcall_eq rfl caps args H
theorem a69p (args : List AV) : (lim aprog).pcall 69 args = pbodyA (lim aprog) a69 args := lim_pcall_eq rfl args
theorem a69i (caps args : List AV) (H : Heap) : (lim aprog).icall (.func 69 caps) args H = bodyA (lim aprog) a69 (args ++ caps) H := lim_fcall_eq rfl caps args H
theorem a70p (args : List AV) : (lim aprog).pcall 70 args = pbodyA (lim aprog) a70 args := lim_pcall_eq rfl args
theorem a70i (caps args : List AV) (H : Heap) : (lim aprog).icall (.func 70 caps) args H = bodyA (lim aprog) a70 (args ++ caps) H := lim_fcall_eq rfl caps args H
theorem a71p (args : List AV) : (lim aprog).pcall 71 args = pbodyA (lim aprog) a71 args := lim_pcall_eq rfl args
theorem a71i (caps args : List AV) (H : Heap) : (lim aprog).icall (.func 71 caps) args H = bodyA (lim aprog) a71 (args ++ caps) H := lim_fcall_eq rfl caps args H
theorem a72p (args : List AV) : (lim aprog).pcall 72 args = pbodyA (lim aprog) a72 args := lim_pcall_eq rfl args
theorem a72i (caps args : List AV) (H : Heap) : (lim aprog).icall (.func 72 caps) args H = bodyA (lim aprog) a72 (args ++ caps) H := lim_fcall_eq rfl caps args H
theorem a73p (args : List AV) : (lim aprog).pcall 73 args = pbodyA (lim aprog) a73 args := lim_pcall_eq rfl args
theorem a73i (caps args : List AV) (H : Heap) : (lim aprog).icall (.func 73 caps) args H = bodyA (lim aprog) a73 (args ++ caps) H := lim_fcall_eq rfl caps args H
theorem a74p (args : List AV) : (lim aprog).pcall 74 args = pbodyA (lim aprog) a74 args := lim_pcall_eq rfl args
theorem a74i (caps args : List AV) (H : Heap) : (lim aprog).icall (.func 74 caps) args H = bodyA (lim aprog) a74 (args ++ caps) H := lim_fcall_eq rfl caps args H
theorem a75p (args : List AV) : (lim aprog).pcall 75 args = pbodyA (lim aprog) a75 args := lim_pcall_eq rfl args
theorem a75i (caps args : List AV) (H : Heap) : (lim aprog).icall (.func 75 caps) args H = bodyA (lim aprog) a75 (args ++ caps) H := lim_fcall_eq rfl caps args H
theorem a76p (args : List AV) : (lim aprog).pcall 76 args = pbodyA (lim aprog) a76 args := lim_pcall_eq rfl args
theorem a76i (caps args : List AV) (H : Heap) : (lim aprog).icall (.func 76 caps) args H = bodyA (lim aprog) a76 (args ++ caps) H := lim_fcall_eq rfl caps args H
theorem a77p (args : List AV) : (lim aprog).pcall 77 args = pbodyA (lim aprog) a77 args := lim_pcall_eq rfl args
theorem a77i (caps args : List AV) (H : Heap) : (lim aprog).icall (.func 77 caps) args H = bodyA (lim aprog) a77 (args ++ caps) H := lim_fcall_eq rfl caps args H
theorem a79p (args : List AV) : (lim aprog).pcall 79 args = pbodyA (lim aprog) a79 args := lim_pcall_eq rfl args
theorem a79i (caps args : List AV) (H : Heap) : (lim aprog).icall (.func 79 caps) args H = bodyA (lim aprog) a79 (args ++ caps) H := lim_fcall_eq rfl caps args H
theorem a80p (args : List AV) : (lim aprog).pcall 80 args = pbodyA (lim aprog) a80 args := lim_pcall_eq rfl args
theorem a80i (caps args : List AV) (H : Heap) : (lim aprog).icall (.func 80 caps) args H = bodyA (lim aprog) a80 (args ++ caps) H := lim_fcall_eq rfl caps args H
theorem a81p (args : List AV) : (lim aprog).pcall 81 args = pbodyA (lim aprog) a81 args := lim_pcall_eq rfl args
theorem a81i (caps args : List AV) (H : Heap) : (lim aprog).icall (.func 81 caps) args H = bodyA (lim aprog) a81 (args ++ caps) H := lim_fcall_eq rfl caps args H
theorem a82p (args : List AV) : (lim aprog).pcall 82 args = pbodyA (lim aprog) a82 args := lim_pcall_eq rfl args
theorem a82i (caps args : List AV) (H : Heap) : (lim aprog).icall (.func 82 caps) args H = bodyA (lim aprog) a82 (args ++ caps) H := lim_fcall_eq rfl caps args H
theorem a83p (args : List AV) : (lim aprog).pcall 83 args = pbodyA (lim aprog) a83 args := lim_pcall_eq rfl args
theorem a83i (caps args : List AV) (H : Heap) : (lim aprog).icall (.func 83 caps) args H = bodyA (lim aprog) a83 (args ++ caps) H := lim_fcall_eq rfl caps args H
theorem a84p (args : List AV) : (lim aprog).pcall 84 args = pbodyA (lim aprog) a84 args := lim_pcall_eq rfl args
theorem a84i (caps args : List AV) (H : Heap) : (lim aprog).icall (.func 84 caps) args H = bodyA (lim aprog) a84 (args ++ caps) H := lim_fcall_eq rfl caps args H
theorem a85p (args : List AV) : (lim aprog).pcall 85 args = pbodyA (lim aprog) a85 args := lim_pcall_eq rfl args
theorem a85i (caps args : List AV) (H : Heap) : (lim aprog).icall (.func 85 caps) args H = bodyA (lim aprog) a85 (args ++ caps) H := lim_fcall_eq rfl caps args H
theorem a86p (args : List AV) : (lim aprog).pcall 86 args = pbodyA (lim aprog) a86 args := lim_pcall_eq rfl args
theorem a86i (caps args : List AV) (H : Heap) : (lim aprog).icall (.func 86 caps) args H = bodyA (lim aprog) a86 (args ++ caps) H := lim_fcall_eq rfl caps args H
theorem a87p (args : List AV) : (lim aprog).pcall 87 args = pbodyA (lim aprog) a87 args := lim_pcall_eq rfl args
theorem a87i (caps args : List AV) (H : Heap) : (lim aprog).icall (.func 87 caps) args H = bodyA (lim aprog) a87 (args ++ caps) H := lim_fcall_eq rfl caps args H
theorem a88p (args : List AV) : (lim aprog).pcall 88 args = pbodyA (lim aprog) a88 args := lim_pcall_eq rfl args
theorem a88i (caps args : List AV) (H : Heap) : (lim aprog).icall (.func 88 caps) args H = bodyA (lim aprog) a88 (args ++ caps) H := lim_fcall_eq rfl caps args H
end Go.Abs.NfaD
