/- The functions in the interpreter's words. -/
import Derived.Test.YtkpbekcgigigkaaDoorAbsEnc
import Derived.Test.YtkpbekcgigigkaaDoorProg
namespace Go.Abs.Mealy
open Go Go.Abs
abbrev oO (n : Nat) (x : AOp) : AOper := ⟨some n,x,none⟩
abbrev oT (n m : Nat) : AOper := ⟨some n,.mov (.t m),none⟩
abbrev oG (n k m : Nat) : AOper := ⟨some n,.load true k (.t m),none⟩
abbrev oH (n k m : Nat) : AOper := ⟨some n,.load false k (.t m),none⟩
abbrev oF (n k m : Nat) : AOper := ⟨some n,.faddr k (.t m),none⟩
abbrev oN (n m : Nat) : AOper := ⟨some n,.len (.t m),none⟩
abbrev oM (n : Nat) (x : Arg) : AOper := ⟨some n,.mov x,none⟩
abbrev oX (n : Nat) (x : Arg) : AOper := ⟨some n,.box x,none⟩
abbrev oB (n : Nat) (o : BinOp) (a b : Nat) : AOper := ⟨some n,.bin o (.t a) (.t b),none⟩
abbrev oA (n : Nat) (o : BinOp) (a : Nat) (x : Arg) : AOper := ⟨some n,.bin o (.t a) x,none⟩
abbrev oI (n : Int) : AV := .int .i64 n
abbrev oS : AV := .sl true 0 []
abbrev oR (l : List AOper) (c : ACode) : ACode := .seq (.region l) c
def a5 : AFunc := ⟨94,
 oR ([oX 2 (.t 0),
 oX 3 (.t 1),
 oM 4 (.c (.bool false))])
 (.seq (oR ([oG 17 5 2,
 oG 18 5 3,
 oO 19 (.bslice true [oI 0,oI 0,oI 0,oS,oS] 5 2 [(0,.t 17),(1,.t 18)]),
 oO 20 (.call 11 [.t 19])])
 (.cond (.t 20)
 (oR ([oO 21 (.call 13 []),
 oT 4 21])
 .ret)
 .skip))
 (.seq (.draw 6 [oG 22 5 2,
 oO 23 (.call 14 [.t 22]),
 oG 24 5 3,
 oO 25 (.call 14 [.t 24]),
 oX 5 (.c (.agg [oI 0,oI 0,oI 0,oS,oS])),
 oX 6 (.c (.agg [oI 0,oI 0,oI 0,oS,oS])),
 ⟨none,.store 5 (.t 5) (.t 23),none⟩,
 ⟨none,.store 5 (.t 6) (.t 25),none⟩])
 (oR ([oG 27 5 5,
 oO 28 (.ocallw 35 [.t 27]),
 oT 26 28,
 oO 29 (.ext 0 (.t 26)),
 oO 30 (.ext 1 (.t 26)),
 oX 7 (.c (.agg [oI 0,oI 0,oI 0,oS,oS])),
 ⟨none,.store 5 (.t 7) (.t 29),none⟩,
 oT 8 30])
 (oR ([oG 32 5 2,
 oO 33 (.call 36 [.t 32]),
 oT 31 33,
 oO 34 (.ext 0 (.t 31)),
 oO 35 (.ext 1 (.t 31)),
 oX 9 (.c (.agg [oI 0,oI 0,oI 0,oS,oS])),
 ⟨none,.store 5 (.t 9) (.t 34),none⟩,
 oT 10 35])
 (oR ([oG 37 5 5,
 oG 38 5 6,
 oO 39 (.ocall 37 [.t 37,.t 38]),
 oT 36 39,
 oO 40 (.ext 0 (.t 36)),
 oO 41 (.ext 1 (.t 36)),
 oO 42 (.ext 2 (.t 36)),
 oT 11 40,
 oT 12 41,
 oT 13 42])
 (oR ([oG 44 5 2,
 oG 45 5 3,
 oO 46 (.call 38 [.t 44,.t 45]),
 oT 43 46,
 oO 47 (.ext 0 (.t 43)),
 oO 48 (.ext 1 (.t 43)),
 oO 49 (.ext 2 (.t 43)),
 oT 14 47,
 oT 15 48,
 oT 16 49])
 (.seq (oR ([oT 50 8,
 oT 51 10,
 oB 52 .neq 50 51,
 oT 53 52,
 ⟨some 54,.mov (.t 13),some (53,false)⟩,
 ⟨some 55,.mov (.t 16),some (53,false)⟩,
 ⟨some 56,.bin .neq (.t 54) (.t 55),some (53,false)⟩,
 oO 57 (.pick (.t 53) (.c (.bool true)) (.t 56)),
 oT 58 57,
 ⟨some 59,.mov (.t 12),some (58,false)⟩,
 ⟨some 60,.mov (.t 15),some (58,false)⟩,
 ⟨some 61,.beq true (.t 59) (.t 60),some (58,false)⟩,
 oO 62 (.pick (.t 58) (.c (.bool true)) (.t 61)),
 oT 63 62,
 ⟨some 64,.load true 5 (.t 7),some (63,false)⟩,
 ⟨some 65,.load true 5 (.t 9),some (63,false)⟩,
 ⟨some 66,.call 29 [.t 64,.t 65],some (63,false)⟩,
 ⟨some 67,.un .not (.t 66),some (63,false)⟩,
 oO 68 (.pick (.t 63) (.c (.bool true)) (.t 67)),
 oT 69 68,
 ⟨some 70,.mov (.t 11),some (69,false)⟩,
 ⟨some 71,.mov (.t 14),some (69,false)⟩,
 ⟨some 72,.call 23 [.t 70,.t 71],some (69,false)⟩,
 ⟨some 73,.un .not (.t 72),some (69,false)⟩,
 oO 74 (.pick (.t 69) (.c (.bool true)) (.t 73))])
 (.cond (.t 74)
 (oR ([oM 4 (.c (.bool false))])
 .ret)
 .skip))
 (oR ([oF 75 3 7,
 oH 76 1 75,
 oO 77 (.icall (.c (.func 39 [])) [.t 76])])
 (oR ([oF 78 4 7,
 oH 79 1 78,
 oO 80 (.icall (.c (.func 40 [])) [.t 79])])
 (oR ([oT 81 11,
 oO 82 (.icall (.c (.func 26 [])) [.t 81])])
 (oR ([oG 83 5 5,
 oG 84 5 2,
 oO 85 (.call 29 [.t 83,.t 84]),
 oT 86 85,
 ⟨some 87,.load true 5 (.t 6),some (86,true)⟩,
 ⟨some 88,.load true 5 (.t 3),some (86,true)⟩,
 ⟨some 89,.call 29 [.t 87,.t 88],some (86,true)⟩,
 oO 90 (.pick (.t 86) (.t 89) (.c (.bool false))),
 oT 91 90,
 ⟨some 92,.call 13 [],some (91,true)⟩,
 oO 93 (.pick (.t 91) (.t 92) (.c (.bool false))),
 oT 4 93])
 .ret))))))))))),
 [.tmp 4]⟩
def xJZ : ACode :=
 .seq (oR ([oT 28 4,
 oT 29 0,
 oT 30 3,
 oO 31 (.iaddr 5 (.t 29) (.t 30)),
 oF 32 3 31,
 oH 33 1 32,
 oN 34 33,
 oB 35 .lss 28 34])
 (.cond (.t 35)
 .skip
 (.exit 2)))
 (.seq (.block 3 (oR ([oT 38 0,
 oT 39 3,
 oO 40 (.iaddr 5 (.t 38) (.t 39)),
 oF 41 3 40,
 oH 42 1 41,
 oT 43 4,
 oO 44 (.iaddr 1 (.t 42) (.t 43)),
 oH 45 1 44,
 oN 46 45,
 oA 47 .gtr 46 (.c (oI 66))])
 (.cond (.t 47)
 (oR ([oM 2 (.c (.bool true))])
 .ret)
 .skip)))
 (.region [oT 36 4,
 oA 37 .add 36 (.c (oI 1)),
 oT 4 37]))
def xZC : ACode := xJZ
def xNQ : List Nat := [1,5,6,7,8,9,10,11,12,13,14,15,16,17,18,19,20,21,22,23,24,25,26,27,28,29,30,31,32,33,34,35,36,37,38,39,40,41,42,43,44,45,46,47,48,49,50,51,52,53,54,55,56,57,58,59,60,61,62,63,64,65,66,67]
abbrev xJ0 (s0 s2 s3 s4 : AV) : List AV := [s0,.any,s2,s3,s4,.any,.any,.any,.any,.any,.any,.any,.any,.any,.any,.any,.any,.any,.any,.any,.any,.any,.any,.any,.any,.any,.any,.any,.any,.any,.any,.any,.any,.any,.any,.any,.any,.any,.any,.any,.any,.any,.any,.any,.any,.any,.any,.any,.any,.any,.any,.any,.any,.any,.any,.any,.any,.any,.any,.any,.any,.any,.any,.any,.any,.any,.any,.any]
theorem xGL (s0 s1 s2 s3 s4 s5 s6 s7 s8 s9 s10 s11 s12 s13 s14 s15 s16 s17 s18 s19 s20 s21 s22 s23 s24 s25 s26 s27 s28 s29 s30 s31 s32 s33 s34 s35 s36 s37 s38 s39 s40 s41 s42 s43 s44 s45 s46 s47 s48 s49 s50 s51 s52 s53 s54 s55 s56 s57 s58 s59 s60 s61 s62 s63 s64 s65 s66 s67 : AV) : xAp xNQ [s0,s1,s2,s3,s4,s5,s6,s7,s8,s9,s10,s11,s12,s13,s14,s15,s16,s17,s18,s19,s20,s21,s22,s23,s24,s25,s26,s27,s28,s29,s30,s31,s32,s33,s34,s35,s36,s37,s38,s39,s40,s41,s42,s43,s44,s45,s46,s47,s48,s49,s50,s51,s52,s53,s54,s55,s56,s57,s58,s59,s60,s61,s62,s63,s64,s65,s66,s67] = xJ0 s0 s2 s3 s4 := by kernel_rfl
theorem xVy {prog : Nat → Option AFunc} (s0 s2 s3 s4 : AV) (H : Heap) : (lim prog).loop xNQ xZC ⟨xJ0 s0 s2 s3 s4,H⟩ = xA2 (lim prog) xNQ xZC (run (lim prog) xJZ ⟨xJ0 s0 s2 s3 s4,H⟩) := xAd _ _ _ _ (by kernel_rfl)
def xJ1 : ACode :=
 .seq (oR ([oT 48 5,
 oT 49 0,
 oT 50 3,
 oO 51 (.iaddr 5 (.t 49) (.t 50)),
 oF 52 4 51,
 oH 53 1 52,
 oN 54 53,
 oB 55 .lss 48 54])
 (.cond (.t 55)
 .skip
 (.exit 4)))
 (.seq (.block 5 (oR ([oT 58 0,
 oT 59 3,
 oO 60 (.iaddr 5 (.t 58) (.t 59)),
 oF 61 4 60,
 oH 62 1 61,
 oT 63 5,
 oO 64 (.iaddr 1 (.t 62) (.t 63)),
 oH 65 1 64,
 oN 66 65,
 oA 67 .gtr 66 (.c (oI 66))])
 (.cond (.t 67)
 (oR ([oM 2 (.c (.bool true))])
 .ret)
 .skip)))
 (.region [oT 56 5,
 oA 57 .add 56 (.c (oI 1)),
 oT 5 57]))
def xZD : ACode := xJ1
def xNR : List Nat := [1,4,6,7,8,9,10,11,12,13,14,15,16,17,18,19,20,21,22,23,24,25,26,27,28,29,30,31,32,33,34,35,36,37,38,39,40,41,42,43,44,45,46,47,48,49,50,51,52,53,54,55,56,57,58,59,60,61,62,63,64,65,66,67]
abbrev xJ2 (s0 s2 s3 s5 : AV) : List AV := [s0,.any,s2,s3,.any,s5,.any,.any,.any,.any,.any,.any,.any,.any,.any,.any,.any,.any,.any,.any,.any,.any,.any,.any,.any,.any,.any,.any,.any,.any,.any,.any,.any,.any,.any,.any,.any,.any,.any,.any,.any,.any,.any,.any,.any,.any,.any,.any,.any,.any,.any,.any,.any,.any,.any,.any,.any,.any,.any,.any,.any,.any,.any,.any,.any,.any,.any,.any]
theorem xH3 (s0 s1 s2 s3 s4 s5 s6 s7 s8 s9 s10 s11 s12 s13 s14 s15 s16 s17 s18 s19 s20 s21 s22 s23 s24 s25 s26 s27 s28 s29 s30 s31 s32 s33 s34 s35 s36 s37 s38 s39 s40 s41 s42 s43 s44 s45 s46 s47 s48 s49 s50 s51 s52 s53 s54 s55 s56 s57 s58 s59 s60 s61 s62 s63 s64 s65 s66 s67 : AV) : xAp xNR [s0,s1,s2,s3,s4,s5,s6,s7,s8,s9,s10,s11,s12,s13,s14,s15,s16,s17,s18,s19,s20,s21,s22,s23,s24,s25,s26,s27,s28,s29,s30,s31,s32,s33,s34,s35,s36,s37,s38,s39,s40,s41,s42,s43,s44,s45,s46,s47,s48,s49,s50,s51,s52,s53,s54,s55,s56,s57,s58,s59,s60,s61,s62,s63,s64,s65,s66,s67] = xJ2 s0 s2 s3 s5 := by kernel_rfl
theorem xVz {prog : Nat → Option AFunc} (s0 s2 s3 s5 : AV) (H : Heap) : (lim prog).loop xNR xZD ⟨xJ2 s0 s2 s3 s5,H⟩ = xA2 (lim prog) xNR xZD (run (lim prog) xJ1 ⟨xJ2 s0 s2 s3 s5,H⟩) := xAd _ _ _ _ (by kernel_rfl)
def xFD : ACode :=
 .seq (oR ([oT 6 3,
 oT 7 0,
 oN 8 7,
 oB 9 .lss 6 8])
 (.cond (.t 9)
 .skip
 (.exit 0)))
 (.seq (.block 1 (.seq (oR ([oT 12 0,
 oT 13 3,
 oO 14 (.iaddr 5 (.t 12) (.t 13)),
 oF 15 3 14,
 oH 16 1 15,
 oN 17 16,
 oA 18 .gtr 17 (.c (oI 14)),
 oT 19 18,
 ⟨some 20,.mov (.t 0),some (19,false)⟩,
 ⟨some 21,.mov (.t 3),some (19,false)⟩,
 ⟨some 22,.iaddr 5 (.t 20) (.t 21),some (19,false)⟩,
 ⟨some 23,.faddr 4 (.t 22),some (19,false)⟩,
 ⟨some 24,.load false 1 (.t 23),some (19,false)⟩,
 ⟨some 25,.len (.t 24),some (19,false)⟩,
 ⟨some 26,.bin .gtr (.t 25) (.c (oI 16)),some (19,false)⟩,
 oO 27 (.pick (.t 19) (.c (.bool true)) (.t 26))])
 (.cond (.t 27)
 (oR ([oM 2 (.c (.bool true))])
 .ret)
 .skip))
 (.seq (oR ([oM 4 (.c (oI 0))])
 (.block 2 (.loop xNQ xZC)))
 (oR ([oM 5 (.c (oI 0))])
 (.block 4 (.loop xNR xZD))))))
 (.region [oT 10 3,
 oA 11 .add 10 (.c (oI 1)),
 oT 3 11]))
def xZE : ACode := xFD
def xNS : List Nat := [1,4,5,6,7,8,9,10,11,12,13,14,15,16,17,18,19,20,21,22,23,24,25,26,27,28,29,30,31,32,33,34,35,36,37,38,39,40,41,42,43,44,45,46,47,48,49,50,51,52,53,54,55,56,57,58,59,60,61,62,63,64,65,66,67]
abbrev xJ3 (s0 s2 s3 : AV) : List AV := [s0,.any,s2,s3,.any,.any,.any,.any,.any,.any,.any,.any,.any,.any,.any,.any,.any,.any,.any,.any,.any,.any,.any,.any,.any,.any,.any,.any,.any,.any,.any,.any,.any,.any,.any,.any,.any,.any,.any,.any,.any,.any,.any,.any,.any,.any,.any,.any,.any,.any,.any,.any,.any,.any,.any,.any,.any,.any,.any,.any,.any,.any,.any,.any,.any,.any,.any,.any]
theorem xFE (s0 s1 s2 s3 s4 s5 s6 s7 s8 s9 s10 s11 s12 s13 s14 s15 s16 s17 s18 s19 s20 s21 s22 s23 s24 s25 s26 s27 s28 s29 s30 s31 s32 s33 s34 s35 s36 s37 s38 s39 s40 s41 s42 s43 s44 s45 s46 s47 s48 s49 s50 s51 s52 s53 s54 s55 s56 s57 s58 s59 s60 s61 s62 s63 s64 s65 s66 s67 : AV) : xAp xNS [s0,s1,s2,s3,s4,s5,s6,s7,s8,s9,s10,s11,s12,s13,s14,s15,s16,s17,s18,s19,s20,s21,s22,s23,s24,s25,s26,s27,s28,s29,s30,s31,s32,s33,s34,s35,s36,s37,s38,s39,s40,s41,s42,s43,s44,s45,s46,s47,s48,s49,s50,s51,s52,s53,s54,s55,s56,s57,s58,s59,s60,s61,s62,s63,s64,s65,s66,s67] = xJ3 s0 s2 s3 := by kernel_rfl
theorem xJ4 {prog : Nat → Option AFunc} (s0 s2 s3 : AV) (H : Heap) : (lim prog).loop xNS xZE ⟨xJ3 s0 s2 s3,H⟩ = xA2 (lim prog) xNS xZE (run (lim prog) xFD ⟨xJ3 s0 s2 s3,H⟩) := xAd _ _ _ _ (by kernel_rfl)
def a11 : AFunc := ⟨68,
 oR ([oM 2 (.c (.bool false))])
 (.seq (oR ([oM 3 (.c (oI 0))])
 (.block 0 (.loop xNS xZE)))
 (oR ([oM 2 (.c (.bool false))])
 .ret)),
 [.tmp 2]⟩
def a13 : AFunc := ⟨131,
 oR ([oM 0 (.c (.bool false))])
 (oR ([oO 19 (.call 43 []),
 oX 1 (.c (.agg [oI 0,oI 0,oI 0,oS,oS])),
 ⟨none,.store 5 (.t 1) (.t 19),none⟩])
 (oR ([oO 20 (.bslice true [oI 0] 1 2 [(0,(.c (oI 1))),(1,(.c (oI 1)))]),
 oO 21 (.bslice true [oI 0] 1 2 [(0,(.c (oI 0))),(1,(.c (oI 0)))]),
 oO 22 (.bslice true [oS] 1 2 [(0,.t 20),(1,.t 21)]),
 oO 23 (.bslice true [.int .u8 0] 1 2 [(0,(.c (.int .u8 1))),(1,(.c (.int .u8 0)))]),
 oO 24 (.bslice true [.int .u8 0] 1 2 [(0,(.c (.int .u8 1))),(1,(.c (.int .u8 0)))]),
 oO 25 (.bslice true [oS] 1 2 [(0,.t 23),(1,.t 24)]),
 oO 26 (.build [oI 0,oI 0,oI 0,oS,oS] [(0,1,(.c (oI 1))),(1,1,(.c (oI 1))),(3,1,.t 22),(4,1,.t 25)]),
 oX 2 (.c (.agg [oI 0,oI 0,oI 0,oS,oS])),
 ⟨none,.store 5 (.t 2) (.t 26),none⟩])
 (oR ([oO 27 (.call 43 []),
 oX 3 (.c (.agg [oI 0,oI 0,oI 0,oS,oS])),
 ⟨none,.store 5 (.t 3) (.t 27),none⟩])
 (oR ([oO 28 (.bslice true [.int .u8 0] 1 2 [(0,(.c (.int .u8 1))),(1,(.c (.int .u8 1)))]),
 oO 29 (.bslice true [oS] 1 1 [(0,.t 28)]),
 oF 30 4 3,
 ⟨none,.store 1 (.t 30) (.t 29),none⟩])
 (oR ([oG 32 5 1,
 oO 33 (.bslice true [.int .u8 0] 1 3 [(0,(.c (.int .u8 0))),(1,(.c (.int .u8 1))),(2,(.c (.int .u8 1)))]),
 oO 34 (.call 16 [.t 32,.t 33]),
 oT 31 34,
 oO 35 (.ext 0 (.t 31)),
 oO 36 (.ext 1 (.t 31)),
 oO 37 (.ext 2 (.t 31)),
 oT 4 35,
 oT 5 36,
 oT 6 37])
 (oR ([oG 39 5 1,
 oO 40 (.bslice true [.int .u8 0] 1 2 [(0,(.c (.int .u8 0))),(1,(.c (.int .u8 1)))]),
 oO 41 (.build [oS,oS] [(1,1,.t 40)]),
 oO 42 (.call 18 [.t 39,.t 41]),
 oT 38 42,
 oO 43 (.ext 0 (.t 38)),
 oO 44 (.ext 1 (.t 38)),
 oX 7 (.c (.agg [oS,oS])),
 ⟨none,.store 2 (.t 7) (.t 43),none⟩,
 oT 8 44])
 (oR ([oG 46 5 2,
 oO 47 (.call 35 [.t 46]),
 oT 45 47,
 oO 48 (.ext 0 (.t 45)),
 oO 49 (.ext 1 (.t 45)),
 oX 9 (.c (.agg [oI 0,oI 0,oI 0,oS,oS])),
 ⟨none,.store 5 (.t 9) (.t 48),none⟩,
 oT 10 49])
 (oR ([oG 51 5 1,
 oG 52 5 2,
 oO 53 (.call 37 [.t 51,.t 52]),
 oT 50 53,
 oO 54 (.ext 0 (.t 50)),
 oO 55 (.ext 1 (.t 50)),
 oO 56 (.ext 2 (.t 50)),
 oT 11 54,
 oT 12 55,
 oT 13 56])
 (.seq (.draw 7 [oG 58 5 1,
 oO 59 (.call 42 []),
 oO 60 (.call 31 [.t 58,.t 59]),
 oT 57 60,
 oO 61 (.ext 0 (.t 57)),
 oO 62 (.ext 1 (.t 57)),
 oX 14 (.c (.agg [oS,oS])),
 ⟨none,.store 2 (.t 14) (.t 61),none⟩,
 oT 15 62])
 (oR ([oG 64 5 1,
 oG 65 5 3,
 oO 66 (.call 37 [.t 64,.t 65]),
 oT 63 66,
 oO 67 (.ext 0 (.t 63)),
 oO 68 (.ext 1 (.t 63)),
 oO 69 (.ext 2 (.t 63)),
 oT 16 67,
 oT 17 68,
 oT 18 69])
 (oR ([oT 70 6,
 oA 71 .eql 70 (.c (oI 0)),
 oT 72 71,
 ⟨some 73,.mov (.t 4),some (72,true)⟩,
 ⟨some 74,.bslice true [.int .u8 0] 1 3 [(0,(.c (.int .u8 1))),(1,(.c (.int .u8 0))),(2,(.c (.int .u8 0)))],some (72,true)⟩,
 ⟨some 75,.call 23 [.t 73,.t 74],some (72,true)⟩,
 oO 76 (.pick (.t 72) (.t 75) (.c (.bool false))),
 oT 77 76,
 ⟨some 78,.mov (.t 5),some (77,true)⟩,
 ⟨some 79,.bslice true [oI 0] 1 4 [(0,(.c (oI 0))),(1,(.c (oI 0))),(2,(.c (oI 0))),(3,(.c (oI 0)))],some (77,true)⟩,
 ⟨some 80,.call 24 [.t 78,.t 79],some (77,true)⟩,
 oO 81 (.pick (.t 77) (.t 80) (.c (.bool false))),
 oT 82 81,
 ⟨some 83,.mov (.t 8),some (82,true)⟩,
 ⟨some 84,.bin .eql (.t 83) (.c (oI 0)),some (82,true)⟩,
 oO 85 (.pick (.t 82) (.t 84) (.c (.bool false))),
 oT 86 85,
 ⟨some 87,.load true 2 (.t 7),some (86,true)⟩,
 ⟨some 88,.bslice true [.int .u8 0] 1 2 [(0,(.c (.int .u8 2))),(1,(.c (.int .u8 1)))],some (86,true)⟩,
 ⟨some 89,.build [oS,oS] [(1,1,.t 88)],some (86,true)⟩,
 ⟨some 90,.call 25 [.t 87,.t 89],some (86,true)⟩,
 oO 91 (.pick (.t 86) (.t 90) (.c (.bool false))),
 oT 92 91,
 ⟨some 93,.mov (.t 10),some (92,true)⟩,
 ⟨some 94,.bin .eql (.t 93) (.c (oI 0)),some (92,true)⟩,
 oO 95 (.pick (.t 92) (.t 94) (.c (.bool false))),
 oT 96 95,
 ⟨some 97,.load true 5 (.t 9),some (96,true)⟩,
 ⟨some 98,.load true 5 (.t 1),some (96,true)⟩,
 ⟨some 99,.call 29 [.t 97,.t 98],some (96,true)⟩,
 oO 100 (.pick (.t 96) (.t 99) (.c (.bool false))),
 oT 101 100,
 ⟨some 102,.mov (.t 13),some (101,true)⟩,
 ⟨some 103,.bin .eql (.t 102) (.c (oI 0)),some (101,true)⟩,
 oO 104 (.pick (.t 101) (.t 103) (.c (.bool false))),
 oT 105 104,
 ⟨some 106,.mov (.t 12),some (105,true)⟩,
 oO 107 (.pick (.t 105) (.t 106) (.c (.bool false))),
 oT 108 107,
 ⟨some 109,.mov (.t 15),some (108,true)⟩,
 ⟨some 110,.bin .eql (.t 109) (.c (oI 0)),some (108,true)⟩,
 oO 111 (.pick (.t 108) (.t 110) (.c (.bool false))),
 oT 112 111,
 ⟨some 113,.load true 2 (.t 14),some (112,true)⟩,
 ⟨some 114,.bslice true [.int .u8 0] 1 1 [(0,(.c (.int .u8 1)))],some (112,true)⟩,
 ⟨some 115,.build [oS,oS] [(1,1,.t 114)],some (112,true)⟩,
 ⟨some 116,.call 25 [.t 113,.t 115],some (112,true)⟩,
 oO 117 (.pick (.t 112) (.t 116) (.c (.bool false))),
 oT 118 117,
 ⟨some 119,.mov (.t 18),some (118,true)⟩,
 ⟨some 120,.bin .eql (.t 119) (.c (oI 0)),some (118,true)⟩,
 oO 121 (.pick (.t 118) (.t 120) (.c (.bool false))),
 oT 122 121,
 ⟨some 123,.mov (.t 17),some (122,true)⟩,
 ⟨some 124,.un .not (.t 123),some (122,true)⟩,
 oO 125 (.pick (.t 122) (.t 124) (.c (.bool false))),
 oT 126 125,
 ⟨some 127,.mov (.t 16),some (126,true)⟩,
 ⟨some 128,.bslice true [.int .u8 0] 1 1 [(0,(.c (.int .u8 1)))],some (126,true)⟩,
 ⟨some 129,.call 23 [.t 127,.t 128],some (126,true)⟩,
 oO 130 (.pick (.t 126) (.t 129) (.c (.bool false))),
 oT 0 130])
 .ret))))))))))),
 [.tmp 0]⟩
def a14 : AFunc := ⟨16,
 oR ([oX 1 (.t 0),
 oX 2 (.c (.agg [oI 0,oI 0,oI 0,oS,oS]))])
 (.seq (.draw 12 [oF 3 0 1,
 oH 4 1 3,
 oF 5 1 1,
 oH 6 1 5,
 oF 7 2 1,
 oH 8 1 7,
 oF 9 3 1,
 oH 10 1 9,
 oO 11 (.call 50 [.t 10]),
 oF 12 4 1,
 oH 13 1 12,
 oO 14 (.call 51 [.t 13]),
 oO 15 (.build [oI 0,oI 0,oI 0,oS,oS] [(0,1,.t 4),(1,1,.t 6),(2,1,.t 8),(3,1,.t 11),(4,1,.t 14)]),
 ⟨none,.store 5 (.t 2) (.t 15),none⟩])
 .ret),
 [.cell 2 true 5]⟩
def a15 : AFunc := ⟨5,
 oR ([oM 2 (.c (oS))])
 (oR ([oT 3 0,
 oO 4 (.append false 1 1 (.c (oS)) (.t 3)),
 oT 2 4])
 .ret),
 [.tmp 2]⟩
def yEs : ACode :=
 oR ([oB 31 .lss 30 29])
 (.seq (.cond (.t 31)
 .skip
 (.exit 1))
 (.seq (.block 2 (oR ([oO 32 (.iaddr 1 (.t 28) (.t 30)),
 oH 33 1 32,
 oT 10 33])
 (oR ([oT 34 4,
 oF 35 4 2,
 oH 36 1 35,
 oT 37 8,
 oO 38 (.iaddr 1 (.t 36) (.t 37)),
 oH 39 1 38,
 oT 40 10,
 oO 41 (.iaddr 1 (.t 39) (.t 40)),
 oH 42 1 41,
 oO 43 (.bslice true [.int .u8 0] 1 1 [(0,.t 42)]),
 oO 44 (.append false 1 1 (.t 34) (.t 43)),
 oT 4 44])
 (oR ([oF 45 3 2,
 oH 46 1 45,
 oT 47 8,
 oO 48 (.iaddr 1 (.t 46) (.t 47)),
 oH 49 1 48,
 oT 50 10,
 oO 51 (.iaddr 1 (.t 49) (.t 50)),
 oH 52 1 51,
 oT 8 52])
 (.region [oT 53 5,
 oT 54 8,
 oO 55 (.bslice true [oI 0] 1 1 [(0,.t 54)]),
 oO 56 (.append false 1 8 (.t 53) (.t 55)),
 oT 5 56])))))
 (.region [oA 57 .add 30 (.c (oI 1)),
 oT 30 57])))
def yGj : ACode := yEs
def yEt : List Nat := [0,1,3,6,7,9,10,11,12,13,14,15,16,17,18,19,20,21,22,23,24,25,26,27,31,32,33,34,35,36,37,38,39,40,41,42,43,44,45,46,47,48,49,50,51,52,53,54,55,56,57,58,59]
def a16 : AFunc := ⟨60,
 oR ([oX 2 (.t 0),
 oM 4 (.c (oS)),
 oM 5 (.c (oS)),
 oM 6 (.c (oI 0))])
 (.seq (oR ([oG 11 5 2,
 oO 12 (.call 21 [.t 11]),
 oT 7 12])
 (oR ([oT 13 7,
 oA 14 .neq 13 (.c (oI 0))])
 (.cond (.t 14)
 (oR ([oT 15 7,
 oM 4 (.c (oS)),
 oM 5 (.c (oS)),
 oT 6 15])
 .ret)
 .skip)))
 (.seq (.block 0 (oR ([oT 17 1,
 oN 18 17,
 oA 19 .gtr 18 (.c (oI 64)),
 oT 16 19])
 (.cond (.t 16)
 (oR ([oM 4 (.c (oS)),
 oM 5 (.c (oS)),
 oM 6 (.c (oI 4))])
 .ret)
 (oR ([oT 21 1,
 oO 22 (.mkfunc 53 [.t 2]),
 oO 23 (.icall (.c (.func 52 [])) [.t 21,.t 22]),
 oT 20 23])
 (.cond (.t 20)
 (oR ([oM 4 (.c (oS)),
 oM 5 (.c (oS)),
 oM 6 (.c (oI 1))])
 .ret)
 .skip)))))
 (oR ([oF 24 2 2,
 oH 25 1 24,
 oT 8 25])
 (oR ([oT 26 8,
 oO 27 (.bslice false [oI 0] 1 1 [(0,.t 26)]),
 oT 5 27])
 (.seq (oR ([oT 28 1,
 oN 29 28,
 oM 30 (.c (oI 0))])
 (.block 1 (.loop yEt yGj)))
 (oR ([oT 58 4,
 oT 59 5,
 oT 4 58,
 oT 5 59,
 oM 6 (.c (oI 0))])
 .ret)))))),
 [.tmp 4,.tmp 5,.tmp 6]⟩
def yEu : ACode :=
 .seq (.block 1 (.seq (oR ([oT 33 8,
 oG 34 2 3,
 oT 35 10,
 oO 36 (.call 55 [.t 34,.t 35]),
 oO 37 (.build [oI 0,oI 0] [(0,1,.t 33),(1,1,.t 36)]),
 oO 38 (.icall (.c (.func 54 [])) [.t 9,.t 37]),
 oT 32 38,
 oO 39 (.ext 0 (.t 32)),
 oO 40 (.ext 1 (.t 32)),
 oX 11 (.c (.agg [oS,oS])),
 ⟨none,.store 2 (.t 11) (.t 39),none⟩,
 oT 12 40])
 (oR ([oT 41 12])
 (.cond (.t 41)
 (oR ([oG 42 2 11,
 ⟨none,.store 2 (.t 4) (.t 42),none⟩,
 oM 5 (.c (oI 0))])
 .ret)
 .skip)))
 (oR ([oG 43 2 3,
 oT 44 10,
 oO 45 (.call 47 [.t 43,.t 44]),
 oT 13 45])
 (.seq (.draw 11 [oF 46 1 9,
 oH 47 1 46,
 oT 48 13,
 oF 49 4 2,
 oH 50 1 49,
 oT 51 8,
 oO 52 (.iaddr 1 (.t 50) (.t 51)),
 oH 53 1 52,
 oT 54 13,
 oO 55 (.iaddr 1 (.t 53) (.t 54)),
 oH 56 1 55,
 oF 57 0 2,
 oH 58 1 57,
 oB 59 .shl 56 58,
 oB 60 .or 48 59,
 oO 61 (.bslice true [.int .u8 0] 1 1 [(0,.t 60)]),
 oO 62 (.append false 1 1 (.t 47) (.t 61)),
 oF 63 1 9,
 ⟨none,.store 1 (.t 63) (.t 62),none⟩])
 (.region [oF 64 3 2,
 oH 65 1 64,
 oT 66 8,
 oO 67 (.iaddr 1 (.t 65) (.t 66)),
 oH 68 1 67,
 oT 69 13,
 oO 70 (.iaddr 1 (.t 68) (.t 69)),
 oH 71 1 70,
 oT 8 71])))))
 (.region [oT 30 10,
 oA 31 .add 30 (.c (oI 1)),
 oT 10 31])
def yGk : ACode := yEu
def yEv : List Nat := [0,1,6,7,11,12,13,14,15,16,17,18,19,20,21,22,23,24,25,26,27,28,29,30,31,32,33,34,35,36,37,38,39,40,41,42,43,44,45,46,47,48,49,50,51,52,53,54,55,56,57,58,59,60,61,62,63,64,65,66,67,68,69,70,71]
def a18 : AFunc := ⟨72,
 oR ([oX 2 (.t 0),
 oX 3 (.t 1),
 oX 4 (.c (.agg [oS,oS])),
 oM 5 (.c (oI 0))])
 (.seq (oR ([oG 14 5 2,
 oO 15 (.call 21 [.t 14]),
 oT 6 15])
 (oR ([oT 16 6,
 oA 17 .neq 16 (.c (oI 0))])
 (.cond (.t 17)
 (oR ([oO 18 (.build [oS,oS] []),
 oT 19 6,
 ⟨none,.store 2 (.t 4) (.t 18),none⟩,
 oT 5 19])
 .ret)
 .skip)))
 (.seq (oR ([oG 20 2 3,
 oF 21 0 2,
 oH 22 1 21,
 oO 23 (.call 45 [.t 20,.t 22]),
 oT 7 23])
 (oR ([oT 24 7,
 oA 25 .neq 24 (.c (oI 0))])
 (.cond (.t 25)
 (oR ([oO 26 (.build [oS,oS] []),
 oT 27 7,
 ⟨none,.store 2 (.t 4) (.t 26),none⟩,
 oT 5 27])
 .ret)
 .skip)))
 (oR ([oF 28 2 2,
 oH 29 1 28,
 oT 8 29])
 (oR ([oX 9 (.c (.agg [.nilm,oS]))])
 (oR ([oM 10 (.c (oI 0))])
 (.block 0 (.loop yEv yGk))))))),
 [.cell 4 true 2,.tmp 5]⟩
def xFF : ACode :=
 oR ([oB 28 .lss 27 26])
 (.seq (.cond (.t 28)
 .skip
 (.exit 0))
 (.seq (.block 1 (oR ([oT 29 27,
 oO 30 (.iaddr 1 (.t 25) (.t 27)),
 oH 31 1 30,
 oT 5 29,
 oT 6 31])
 (.block 2 (.seq (.draw 16 [oT 33 6,
 oN 34 33,
 oF 35 0 1,
 oH 36 1 35,
 oO 37 (.bin .shl (.c (oI 1)) (.t 36)),
 oB 38 .neq 34 37,
 oT 39 38,
 ⟨some 40,.faddr 4 (.t 1),some (39,false)⟩,
 ⟨some 41,.load false 1 (.t 40),some (39,false)⟩,
 ⟨some 42,.mov (.t 5),some (39,false)⟩,
 ⟨some 43,.iaddr 1 (.t 41) (.t 42),some (39,false)⟩,
 ⟨some 44,.load false 1 (.t 43),some (39,false)⟩,
 ⟨some 45,.len (.t 44),some (39,false)⟩,
 ⟨some 46,.faddr 0 (.t 1),some (39,false)⟩,
 ⟨some 47,.load false 1 (.t 46),some (39,false)⟩,
 ⟨some 48,.bin .shl (.c (oI 1)) (.t 47),some (39,false)⟩,
 ⟨some 49,.bin .neq (.t 45) (.t 48),some (39,false)⟩,
 oO 50 (.pick (.t 39) (.c (.bool true)) (.t 49)),
 oT 32 50])
 (.cond (.t 32)
 (oR ([oM 2 (.c (oI 2))])
 .ret)
 (oR ([oT 52 6,
 oT 53 3,
 oO 54 (.call 60 [.t 52,.t 53]),
 oT 51 54])
 (.cond (.t 51)
 (oR ([oM 2 (.c (oI 8))])
 .ret)
 (.seq (.draw 10 [oF 56 4 1,
 oH 57 1 56,
 oT 58 5,
 oO 59 (.iaddr 1 (.t 57) (.t 58)),
 oH 60 1 59,
 oO 61 (.call 61 [.t 60]),
 oO 62 (.conv .i64 (.t 61)),
 oF 63 1 1,
 oH 64 1 63,
 oO 65 (.bin .shl (.c (oI 1)) (.t 64)),
 oB 66 .geq 62 65,
 oT 55 66])
 (.cond (.t 55)
 (oR ([oM 2 (.c (oI 1))])
 .ret)
 .skip)))))))))
 (.region [oA 67 .add 27 (.c (oI 1)),
 oT 27 67])))
def xZF : ACode := xFF
def xNT : List Nat := [0,4,5,6,7,8,9,10,11,12,13,14,15,16,17,18,19,20,21,22,23,24,28,29,30,31,32,33,34,35,36,37,38,39,40,41,42,43,44,45,46,47,48,49,50,51,52,53,54,55,56,57,58,59,60,61,62,63,64,65,66,67]
abbrev xJ5 (s1 s2 s3 s25 s26 s27 : AV) : List AV := [.any,s1,s2,s3,.any,.any,.any,.any,.any,.any,.any,.any,.any,.any,.any,.any,.any,.any,.any,.any,.any,.any,.any,.any,.any,s25,s26,s27,.any,.any,.any,.any,.any,.any,.any,.any,.any,.any,.any,.any,.any,.any,.any,.any,.any,.any,.any,.any,.any,.any,.any,.any,.any,.any,.any,.any,.any,.any,.any,.any,.any,.any,.any,.any,.any,.any,.any,.any]
theorem xFG (s0 s1 s2 s3 s4 s5 s6 s7 s8 s9 s10 s11 s12 s13 s14 s15 s16 s17 s18 s19 s20 s21 s22 s23 s24 s25 s26 s27 s28 s29 s30 s31 s32 s33 s34 s35 s36 s37 s38 s39 s40 s41 s42 s43 s44 s45 s46 s47 s48 s49 s50 s51 s52 s53 s54 s55 s56 s57 s58 s59 s60 s61 s62 s63 s64 s65 s66 s67 : AV) : xAp xNT [s0,s1,s2,s3,s4,s5,s6,s7,s8,s9,s10,s11,s12,s13,s14,s15,s16,s17,s18,s19,s20,s21,s22,s23,s24,s25,s26,s27,s28,s29,s30,s31,s32,s33,s34,s35,s36,s37,s38,s39,s40,s41,s42,s43,s44,s45,s46,s47,s48,s49,s50,s51,s52,s53,s54,s55,s56,s57,s58,s59,s60,s61,s62,s63,s64,s65,s66,s67] = xJ5 s1 s2 s3 s25 s26 s27 := by kernel_rfl
theorem xJ6 {prog : Nat → Option AFunc} (s1 s2 s3 s25 s26 s27 : AV) (H : Heap) : (lim prog).loop xNT xZF ⟨xJ5 s1 s2 s3 s25 s26 s27,H⟩ = xA2 (lim prog) xNT xZF (run (lim prog) xFF ⟨xJ5 s1 s2 s3 s25 s26 s27,H⟩) := xAd _ _ _ _ (by kernel_rfl)
def a21 : AFunc := ⟨68,
 oR ([oX 1 (.t 0),
 oM 2 (.c (oI 0))])
 (oR ([oF 7 3 1,
 oH 8 1 7,
 oN 9 8,
 oT 3 9])
 (.seq (oR ([oF 10 0 1,
 oH 11 1 10,
 oF 12 1 1,
 oH 13 1 12,
 oT 14 3,
 oF 15 4 1,
 oH 16 1 15,
 oN 17 16,
 oF 18 2 1,
 oH 19 1 18,
 oO 20 (.call 59 [.t 11,.t 13,.t 14,.t 17,.t 19]),
 oT 4 20])
 (oR ([oT 21 4,
 oA 22 .neq 21 (.c (oI 0))])
 (.cond (.t 22)
 (oR ([oT 23 4,
 oT 2 23])
 .ret)
 .skip)))
 (.seq (oR ([oF 24 3 1,
 oH 25 1 24,
 oN 26 25,
 oM 27 (.c (oI 0))])
 (.block 0 (.loop xNT xZF)))
 (oR ([oM 2 (.c (oI 0))])
 .ret)))),
 [.tmp 2]⟩
def xJ7 : ACode :=
 .seq (oR ([oT 67 6,
 oF 68 4 1,
 oH 69 1 68,
 oT 70 5,
 oO 71 (.iaddr 1 (.t 69) (.t 70)),
 oH 72 1 71,
 oN 73 72,
 oB 74 .lss 67 73])
 (.cond (.t 74)
 .skip
 (.exit 2)))
 (.seq (.block 3 (.seq (.draw 9 [oF 77 4 1,
 oH 78 1 77,
 oT 79 5,
 oO 80 (.iaddr 1 (.t 78) (.t 79)),
 oH 81 1 80,
 oT 82 6,
 oO 83 (.iaddr 1 (.t 81) (.t 82)),
 oH 84 1 83,
 oO 85 (.conv .i64 (.t 84)),
 oF 86 1 1,
 oH 87 1 86,
 oO 88 (.conv .u64 (.t 87)),
 oO 89 (.bin .shl (.c (oI 1)) (.t 88)),
 oB 90 .geq 85 89])
 (.cond (.t 90)
 (oR ([oM 2 (.c (oI 1))])
 .ret)
 .skip)))
 (.region [oT 75 6,
 oA 76 .add 75 (.c (oI 1)),
 oT 6 76]))
def xZG : ACode := xJ7
def xNU : List Nat := [0,3,4,7,8,9,10,11,12,13,14,15,16,17,18,19,20,21,22,23,24,25,26,27,28,29,30,31,32,33,34,35,36,37,38,39,40,41,42,43,44,45,46,47,48,49,50,51,52,53,54,55,56,57,58,59,60,61,62,63,64,65,66,67,68,69,70,71,72,73,74,75,76,77,78,79,80,81,82,83,84,85,86,87,88,89,90]
abbrev xJ8 (s1 s2 s5 s6 : AV) : List AV := [.any,s1,s2,.any,.any,s5,s6,.any,.any,.any,.any,.any,.any,.any,.any,.any,.any,.any,.any,.any,.any,.any,.any,.any,.any,.any,.any,.any,.any,.any,.any,.any,.any,.any,.any,.any,.any,.any,.any,.any,.any,.any,.any,.any,.any,.any,.any,.any,.any,.any,.any,.any,.any,.any,.any,.any,.any,.any,.any,.any,.any,.any,.any,.any,.any,.any,.any,.any,.any,.any,.any,.any,.any,.any,.any,.any,.any,.any,.any,.any,.any,.any,.any,.any,.any,.any,.any,.any,.any,.any,.any]
theorem xH4 (s0 s1 s2 s3 s4 s5 s6 s7 s8 s9 s10 s11 s12 s13 s14 s15 s16 s17 s18 s19 s20 s21 s22 s23 s24 s25 s26 s27 s28 s29 s30 s31 s32 s33 s34 s35 s36 s37 s38 s39 s40 s41 s42 s43 s44 s45 s46 s47 s48 s49 s50 s51 s52 s53 s54 s55 s56 s57 s58 s59 s60 s61 s62 s63 s64 s65 s66 s67 s68 s69 s70 s71 s72 s73 s74 s75 s76 s77 s78 s79 s80 s81 s82 s83 s84 s85 s86 s87 s88 s89 s90 : AV) : xAp xNU [s0,s1,s2,s3,s4,s5,s6,s7,s8,s9,s10,s11,s12,s13,s14,s15,s16,s17,s18,s19,s20,s21,s22,s23,s24,s25,s26,s27,s28,s29,s30,s31,s32,s33,s34,s35,s36,s37,s38,s39,s40,s41,s42,s43,s44,s45,s46,s47,s48,s49,s50,s51,s52,s53,s54,s55,s56,s57,s58,s59,s60,s61,s62,s63,s64,s65,s66,s67,s68,s69,s70,s71,s72,s73,s74,s75,s76,s77,s78,s79,s80,s81,s82,s83,s84,s85,s86,s87,s88,s89,s90] = xJ8 s1 s2 s5 s6 := by kernel_rfl
theorem xVA {prog : Nat → Option AFunc} (s1 s2 s5 s6 : AV) (H : Heap) : (lim prog).loop xNU xZG ⟨xJ8 s1 s2 s5 s6,H⟩ = xA2 (lim prog) xNU xZG (run (lim prog) xJ7 ⟨xJ8 s1 s2 s5 s6,H⟩) := xAd _ _ _ _ (by kernel_rfl)
def xFH : ACode :=
 .seq (oR ([oT 26 5,
 oF 27 3 1,
 oH 28 1 27,
 oN 29 28,
 oB 30 .lss 26 29])
 (.cond (.t 30)
 .skip
 (.exit 0)))
 (.seq (.block 1 (.seq (.seq (.draw 22 [oF 33 3 1,
 oH 34 1 33,
 oT 35 5,
 oO 36 (.iaddr 1 (.t 34) (.t 35)),
 oH 37 1 36,
 oN 38 37,
 oF 39 0 1,
 oH 40 1 39,
 oO 41 (.conv .u64 (.t 40)),
 oO 42 (.bin .shl (.c (oI 1)) (.t 41)),
 oB 43 .neq 38 42,
 oT 44 43,
 ⟨some 45,.faddr 4 (.t 1),some (44,false)⟩,
 ⟨some 46,.load false 1 (.t 45),some (44,false)⟩,
 ⟨some 47,.mov (.t 5),some (44,false)⟩,
 ⟨some 48,.iaddr 1 (.t 46) (.t 47),some (44,false)⟩,
 ⟨some 49,.load false 1 (.t 48),some (44,false)⟩,
 ⟨some 50,.len (.t 49),some (44,false)⟩,
 ⟨some 51,.faddr 0 (.t 1),some (44,false)⟩,
 ⟨some 52,.load false 1 (.t 51),some (44,false)⟩,
 ⟨some 53,.conv .u64 (.t 52),some (44,false)⟩,
 ⟨some 54,.bin .shl (.c (oI 1)) (.t 53),some (44,false)⟩,
 ⟨some 55,.bin .neq (.t 50) (.t 54),some (44,false)⟩,
 oO 56 (.pick (.t 44) (.c (.bool true)) (.t 55))])
 (.cond (.t 56)
 (oR ([oM 2 (.c (oI 2))])
 .ret)
 .skip))
 (.seq (.seq (.draw 5 [oF 57 3 1,
 oH 58 1 57,
 oT 59 5,
 oO 60 (.iaddr 1 (.t 58) (.t 59)),
 oH 61 1 60,
 oF 62 3 1,
 oH 63 1 62,
 oN 64 63,
 oO 65 (.call 64 [.t 61,.t 64]),
 oO 66 (.un .not (.t 65))])
 (.cond (.t 66)
 (oR ([oM 2 (.c (oI 8))])
 .ret)
 .skip))
 (oR ([oM 6 (.c (oI 0))])
 (.block 2 (.loop xNU xZG))))))
 (.region [oT 31 5,
 oA 32 .add 31 (.c (oI 1)),
 oT 5 32]))
def xZH : ACode := xFH
def xNV : List Nat := [0,3,4,6,7,8,9,10,11,12,13,14,15,16,17,18,19,20,21,22,23,24,25,26,27,28,29,30,31,32,33,34,35,36,37,38,39,40,41,42,43,44,45,46,47,48,49,50,51,52,53,54,55,56,57,58,59,60,61,62,63,64,65,66,67,68,69,70,71,72,73,74,75,76,77,78,79,80,81,82,83,84,85,86,87,88,89,90]
abbrev xJ9 (s1 s2 s5 : AV) : List AV := [.any,s1,s2,.any,.any,s5,.any,.any,.any,.any,.any,.any,.any,.any,.any,.any,.any,.any,.any,.any,.any,.any,.any,.any,.any,.any,.any,.any,.any,.any,.any,.any,.any,.any,.any,.any,.any,.any,.any,.any,.any,.any,.any,.any,.any,.any,.any,.any,.any,.any,.any,.any,.any,.any,.any,.any,.any,.any,.any,.any,.any,.any,.any,.any,.any,.any,.any,.any,.any,.any,.any,.any,.any,.any,.any,.any,.any,.any,.any,.any,.any,.any,.any,.any,.any,.any,.any,.any,.any,.any,.any]
theorem xFI (s0 s1 s2 s3 s4 s5 s6 s7 s8 s9 s10 s11 s12 s13 s14 s15 s16 s17 s18 s19 s20 s21 s22 s23 s24 s25 s26 s27 s28 s29 s30 s31 s32 s33 s34 s35 s36 s37 s38 s39 s40 s41 s42 s43 s44 s45 s46 s47 s48 s49 s50 s51 s52 s53 s54 s55 s56 s57 s58 s59 s60 s61 s62 s63 s64 s65 s66 s67 s68 s69 s70 s71 s72 s73 s74 s75 s76 s77 s78 s79 s80 s81 s82 s83 s84 s85 s86 s87 s88 s89 s90 : AV) : xAp xNV [s0,s1,s2,s3,s4,s5,s6,s7,s8,s9,s10,s11,s12,s13,s14,s15,s16,s17,s18,s19,s20,s21,s22,s23,s24,s25,s26,s27,s28,s29,s30,s31,s32,s33,s34,s35,s36,s37,s38,s39,s40,s41,s42,s43,s44,s45,s46,s47,s48,s49,s50,s51,s52,s53,s54,s55,s56,s57,s58,s59,s60,s61,s62,s63,s64,s65,s66,s67,s68,s69,s70,s71,s72,s73,s74,s75,s76,s77,s78,s79,s80,s81,s82,s83,s84,s85,s86,s87,s88,s89,s90] = xJ9 s1 s2 s5 := by kernel_rfl
theorem xKa {prog : Nat → Option AFunc} (s1 s2 s5 : AV) (H : Heap) : (lim prog).loop xNV xZH ⟨xJ9 s1 s2 s5,H⟩ = xA2 (lim prog) xNV xZH (run (lim prog) xFH ⟨xJ9 s1 s2 s5,H⟩) := xAd _ _ _ _ (by kernel_rfl)
def a22 : AFunc := ⟨91,
 oR ([oX 1 (.t 0),
 oM 2 (.c (oI 0))])
 (.seq (oR ([oF 7 0 1,
 oH 8 1 7,
 oF 9 1 1,
 oH 10 1 9,
 oO 11 (.call 62 [.t 8,.t 10]),
 oT 3 11])
 (oR ([oT 12 3,
 oA 13 .neq 12 (.c (oI 0))])
 (.cond (.t 13)
 (oR ([oT 14 3,
 oT 2 14])
 .ret)
 .skip)))
 (.seq (oR ([oF 15 3 1,
 oH 16 1 15,
 oF 17 4 1,
 oH 18 1 17,
 oN 19 18,
 oF 20 2 1,
 oH 21 1 20,
 oO 22 (.call 63 [.t 16,.t 19,.t 21]),
 oT 4 22])
 (oR ([oT 23 4,
 oA 24 .neq 23 (.c (oI 0))])
 (.cond (.t 24)
 (oR ([oT 25 4,
 oT 2 25])
 .ret)
 .skip)))
 (.seq (oR ([oM 5 (.c (oI 0))])
 (.block 0 (.loop xNV xZH)))
 (oR ([oM 2 (.c (oI 0))])
 .ret)))),
 [.tmp 2]⟩
def xKb : ACode :=
 .seq (oR ([oT 11 5,
 oT 12 0,
 oN 13 12,
 oB 14 .lss 11 13])
 (.cond (.t 14)
 .skip
 (.exit 0)))
 (.seq (.block 1 (.seq (.draw 5 [oT 17 0,
 oT 18 5,
 oO 19 (.iaddr 1 (.t 17) (.t 18)),
 oH 20 1 19,
 oT 21 1,
 oT 22 5,
 oO 23 (.iaddr 1 (.t 21) (.t 22)),
 oH 24 1 23,
 oB 25 .neq 20 24])
 (.cond (.t 25)
 (oR ([oM 4 (.c (.bool false))])
 .ret)
 .skip)))
 (.region [oT 15 5,
 oA 16 .add 15 (.c (oI 1)),
 oT 5 16]))
def xZI : ACode := xKb
def xNW : List Nat := [2,3,6,7,8,9,10,11,12,13,14,15,16,17,18,19,20,21,22,23,24,25]
abbrev xKc (s0 s1 s4 s5 : AV) : List AV := [s0,s1,.any,.any,s4,s5,.any,.any,.any,.any,.any,.any,.any,.any,.any,.any,.any,.any,.any,.any,.any,.any,.any,.any,.any,.any]
theorem xKd (s0 s1 s2 s3 s4 s5 s6 s7 s8 s9 s10 s11 s12 s13 s14 s15 s16 s17 s18 s19 s20 s21 s22 s23 s24 s25 : AV) : xAp xNW [s0,s1,s2,s3,s4,s5,s6,s7,s8,s9,s10,s11,s12,s13,s14,s15,s16,s17,s18,s19,s20,s21,s22,s23,s24,s25] = xKc s0 s1 s4 s5 := by kernel_rfl
theorem xVB {prog : Nat → Option AFunc} (s0 s1 s4 s5 : AV) (H : Heap) : (lim prog).loop xNW xZI ⟨xKc s0 s1 s4 s5,H⟩ = xA2 (lim prog) xNW xZI (run (lim prog) xKb ⟨xKc s0 s1 s4 s5,H⟩) := xAd _ _ _ _ (by kernel_rfl)
def a23 : AFunc := ⟨26,
 oR ([oM 4 (.c (.bool false))])
 (.seq (oR ([oT 6 0,
 oN 7 6,
 oT 8 1,
 oN 9 8,
 oB 10 .neq 7 9])
 (.cond (.t 10)
 (oR ([oM 4 (.c (.bool false))])
 .ret)
 .skip))
 (.seq (oR ([oM 5 (.c (oI 0))])
 (.block 0 (.loop xNW xZI)))
 (oR ([oM 4 (.c (.bool true))])
 .ret))),
 [.tmp 4]⟩
def xKe : ACode :=
 .seq (oR ([oT 11 5,
 oT 12 0,
 oN 13 12,
 oB 14 .lss 11 13])
 (.cond (.t 14)
 .skip
 (.exit 0)))
 (.seq (.block 1 (.seq (.draw 5 [oT 17 0,
 oT 18 5,
 oO 19 (.iaddr 1 (.t 17) (.t 18)),
 oH 20 1 19,
 oT 21 1,
 oT 22 5,
 oO 23 (.iaddr 1 (.t 21) (.t 22)),
 oH 24 1 23,
 oB 25 .neq 20 24])
 (.cond (.t 25)
 (oR ([oM 4 (.c (.bool false))])
 .ret)
 .skip)))
 (.region [oT 15 5,
 oA 16 .add 15 (.c (oI 1)),
 oT 5 16]))
def xZJ : ACode := xKe
def xNX : List Nat := [2,3,6,7,8,9,10,11,12,13,14,15,16,17,18,19,20,21,22,23,24,25]
abbrev xKf (s0 s1 s4 s5 : AV) : List AV := [s0,s1,.any,.any,s4,s5,.any,.any,.any,.any,.any,.any,.any,.any,.any,.any,.any,.any,.any,.any,.any,.any,.any,.any,.any,.any]
theorem xKg (s0 s1 s2 s3 s4 s5 s6 s7 s8 s9 s10 s11 s12 s13 s14 s15 s16 s17 s18 s19 s20 s21 s22 s23 s24 s25 : AV) : xAp xNX [s0,s1,s2,s3,s4,s5,s6,s7,s8,s9,s10,s11,s12,s13,s14,s15,s16,s17,s18,s19,s20,s21,s22,s23,s24,s25] = xKf s0 s1 s4 s5 := by kernel_rfl
theorem xVC {prog : Nat → Option AFunc} (s0 s1 s4 s5 : AV) (H : Heap) : (lim prog).loop xNX xZJ ⟨xKf s0 s1 s4 s5,H⟩ = xA2 (lim prog) xNX xZJ (run (lim prog) xKe ⟨xKf s0 s1 s4 s5,H⟩) := xAd _ _ _ _ (by kernel_rfl)
def a24 : AFunc := ⟨26,
 oR ([oM 4 (.c (.bool false))])
 (.seq (oR ([oT 6 0,
 oN 7 6,
 oT 8 1,
 oN 9 8,
 oB 10 .neq 7 9])
 (.cond (.t 10)
 (oR ([oM 4 (.c (.bool false))])
 .ret)
 .skip))
 (.seq (oR ([oM 5 (.c (oI 0))])
 (.block 0 (.loop xNX xZJ)))
 (oR ([oM 4 (.c (.bool true))])
 .ret))),
 [.tmp 4]⟩
def a25 : AFunc := ⟨17,
 oR ([oX 2 (.t 0),
 oX 3 (.t 1),
 oM 4 (.c (.bool false))])
 (oR ([oF 5 0 2,
 oH 6 1 5,
 oF 7 0 3,
 oH 8 1 7,
 oO 9 (.call 65 [.t 6,.t 8]),
 oT 10 9,
 ⟨some 11,.faddr 1 (.t 2),some (10,true)⟩,
 ⟨some 12,.load false 1 (.t 11),some (10,true)⟩,
 ⟨some 13,.faddr 1 (.t 3),some (10,true)⟩,
 ⟨some 14,.load false 1 (.t 13),some (10,true)⟩,
 ⟨some 15,.call 65 [.t 12,.t 14],some (10,true)⟩,
 oO 16 (.pick (.t 10) (.t 15) (.c (.bool false))),
 oT 4 16])
 .ret),
 [.tmp 4]⟩
def xNY : ACode :=
 .seq (oR ([oT 3 2,
 oT 4 0,
 oN 5 4,
 oB 6 .lss 3 5])
 (.cond (.t 6)
 .skip
 (.exit 0)))
 (.seq (.block 1 (.region [oT 9 0,
 oT 10 2,
 oO 11 (.iaddr 1 (.t 9) (.t 10)),
 ⟨none,.store 1 (.t 11) (.c (.int .u8 201)),none⟩]))
 (.region [oT 7 2,
 oA 8 .add 7 (.c (oI 1)),
 oT 2 8]))
def xZK : ACode := xNY
def xNZ : List Nat := [1,3,4,5,6,7,8,9,10,11]
abbrev xN0 (s0 s2 : AV) : List AV := [s0,.any,s2,.any,.any,.any,.any,.any,.any,.any,.any,.any]
theorem xRz (s0 s1 s2 s3 s4 s5 s6 s7 s8 s9 s10 s11 : AV) : xAp xNZ [s0,s1,s2,s3,s4,s5,s6,s7,s8,s9,s10,s11] = xN0 s0 s2 := by kernel_rfl
theorem xVD {prog : Nat → Option AFunc} (s0 s2 : AV) (H : Heap) : (lim prog).loop xNZ xZK ⟨xN0 s0 s2,H⟩ = xA2 (lim prog) xNZ xZK (run (lim prog) xNY ⟨xN0 s0 s2,H⟩) := xAd _ _ _ _ (by kernel_rfl)
def a26 : AFunc := ⟨12,
 oR ([oM 2 (.c (oI 0))])
 (.block 0 (.loop xNZ xZK)),
 []⟩
def xRA : ACode :=
 .seq (oR ([oT 3 2,
 oT 4 0,
 oN 5 4,
 oB 6 .lss 3 5])
 (.cond (.t 6)
 .skip
 (.exit 0)))
 (.seq (.block 1 (.region [oT 9 0,
 oT 10 2,
 oO 11 (.iaddr 1 (.t 9) (.t 10)),
 ⟨none,.store 1 (.t 11) (.c (.int .i64 (-77))),none⟩]))
 (.region [oT 7 2,
 oA 8 .add 7 (.c (oI 1)),
 oT 2 8]))
def xZL : ACode := xRA
def xN1 : List Nat := [1,3,4,5,6,7,8,9,10,11]
abbrev xN2 (s0 s2 : AV) : List AV := [s0,.any,s2,.any,.any,.any,.any,.any,.any,.any,.any,.any]
theorem xVE (s0 s1 s2 s3 s4 s5 s6 s7 s8 s9 s10 s11 : AV) : xAp xN1 [s0,s1,s2,s3,s4,s5,s6,s7,s8,s9,s10,s11] = xN2 s0 s2 := by kernel_rfl
theorem yA6 {prog : Nat → Option AFunc} (s0 s2 : AV) (H : Heap) : (lim prog).loop xN1 xZL ⟨xN2 s0 s2,H⟩ = xA2 (lim prog) xN1 xZL (run (lim prog) xRA ⟨xN2 s0 s2,H⟩) := xAd _ _ _ _ (by kernel_rfl)
def a27 : AFunc := ⟨12,
 oR ([oM 2 (.c (oI 0))])
 (.block 0 (.loop xN1 xZL)),
 []⟩
def a29 : AFunc := ⟨38,
 oR ([oX 2 (.t 0),
 oX 3 (.t 1),
 oM 4 (.c (.bool false))])
 (oR ([oF 5 0 2,
 oH 6 1 5,
 oF 7 0 3,
 oH 8 1 7,
 oB 9 .eql 6 8,
 oT 10 9,
 ⟨some 11,.faddr 1 (.t 2),some (10,true)⟩,
 ⟨some 12,.load false 1 (.t 11),some (10,true)⟩,
 ⟨some 13,.faddr 1 (.t 3),some (10,true)⟩,
 ⟨some 14,.load false 1 (.t 13),some (10,true)⟩,
 ⟨some 15,.bin .eql (.t 12) (.t 14),some (10,true)⟩,
 oO 16 (.pick (.t 10) (.t 15) (.c (.bool false))),
 oT 17 16,
 ⟨some 18,.faddr 2 (.t 2),some (17,true)⟩,
 ⟨some 19,.load false 1 (.t 18),some (17,true)⟩,
 ⟨some 20,.faddr 2 (.t 3),some (17,true)⟩,
 ⟨some 21,.load false 1 (.t 20),some (17,true)⟩,
 ⟨some 22,.bin .eql (.t 19) (.t 21),some (17,true)⟩,
 oO 23 (.pick (.t 17) (.t 22) (.c (.bool false))),
 oT 24 23,
 ⟨some 25,.faddr 3 (.t 2),some (24,true)⟩,
 ⟨some 26,.load false 1 (.t 25),some (24,true)⟩,
 ⟨some 27,.faddr 3 (.t 3),some (24,true)⟩,
 ⟨some 28,.load false 1 (.t 27),some (24,true)⟩,
 ⟨some 29,.call 66 [.t 26,.t 28],some (24,true)⟩,
 oO 30 (.pick (.t 24) (.t 29) (.c (.bool false))),
 oT 31 30,
 ⟨some 32,.faddr 4 (.t 2),some (31,true)⟩,
 ⟨some 33,.load false 1 (.t 32),some (31,true)⟩,
 ⟨some 34,.faddr 4 (.t 3),some (31,true)⟩,
 ⟨some 35,.load false 1 (.t 34),some (31,true)⟩,
 ⟨some 36,.call 67 [.t 33,.t 35],some (31,true)⟩,
 oO 37 (.pick (.t 31) (.t 36) (.c (.bool false))),
 oT 4 37])
 .ret),
 [.tmp 4]⟩
def yEw : ACode :=
 .block 1 (.seq (oR ([oG 45 2 8,
 oO 46 (.icall (.c (.func 68 [])) [.t 9,.t 45]),
 oT 44 46,
 oO 47 (.ext 0 (.t 44)),
 oO 48 (.ext 1 (.t 44)),
 oX 10 (.c (.agg [oS,oS])),
 ⟨none,.store 2 (.t 10) (.t 47),none⟩,
 oT 11 48])
 (oR ([oT 49 11])
 (.cond (.t 49)
 (oR ([oG 50 2 10,
 ⟨none,.store 2 (.t 4) (.t 50),none⟩,
 oM 5 (.c (oI 0))])
 .ret)
 .skip)))
 (oR ([oF 51 3 3,
 oH 52 1 51,
 oF 53 1 8,
 oH 54 1 53,
 oO 55 (.iaddr 1 (.t 52) (.t 54)),
 oH 56 1 55,
 oT 12 56])
 (oR ([oF 57 4 2,
 oH 58 1 57,
 oF 59 0 8,
 oH 60 1 59,
 oO 61 (.iaddr 1 (.t 58) (.t 60)),
 oH 62 1 61,
 oT 63 12,
 oO 64 (.iaddr 1 (.t 62) (.t 63)),
 oH 65 1 64,
 oT 13 65])
 (.seq (.draw 4 [oF 66 1 9,
 oH 67 1 66,
 oT 68 12,
 oT 69 13,
 oF 70 0 2,
 oH 71 1 70,
 oB 72 .shl 69 71,
 oB 73 .or 68 72,
 oO 74 (.bslice true [.int .u8 0] 1 1 [(0,.t 73)]),
 oO 75 (.append false 1 1 (.t 67) (.t 74)),
 oF 76 1 9,
 ⟨none,.store 1 (.t 76) (.t 75),none⟩])
 (.draw 15 [oF 77 3 2,
 oH 78 1 77,
 oF 79 0 8,
 oH 80 1 79,
 oO 81 (.iaddr 1 (.t 78) (.t 80)),
 oH 82 1 81,
 oT 83 12,
 oO 84 (.iaddr 1 (.t 82) (.t 83)),
 oH 85 1 84,
 oF 86 4 3,
 oH 87 1 86,
 oF 88 1 8,
 oH 89 1 88,
 oO 90 (.iaddr 1 (.t 87) (.t 89)),
 oH 91 1 90,
 oT 92 13,
 oO 93 (.iaddr 1 (.t 91) (.t 92)),
 oH 94 1 93,
 oO 95 (.build [oI 0,oI 0] [(0,1,.t 85),(1,1,.t 94)]),
 ⟨none,.store 2 (.t 8) (.t 95),none⟩])))))
def yGl : ACode := yEw
def yEx : List Nat := [0,1,6,7,10,11,12,13,14,15,16,17,18,19,20,21,22,23,24,25,26,27,28,29,30,31,32,33,34,35,36,37,38,39,40,41,42,43,44,45,46,47,48,49,50,51,52,53,54,55,56,57,58,59,60,61,62,63,64,65,66,67,68,69,70,71,72,73,74,75,76,77,78,79,80,81,82,83,84,85,86,87,88,89,90,91,92,93,94,95]
def a31 : AFunc := ⟨96,
 oR ([oX 2 (.t 0),
 oX 3 (.t 1),
 oX 4 (.c (.agg [oS,oS])),
 oM 5 (.c (oI 0))])
 (.seq (oR ([oG 14 5 2,
 oO 15 (.call 21 [.t 14]),
 oT 6 15])
 (oR ([oT 16 6,
 oA 17 .neq 16 (.c (oI 0))])
 (.cond (.t 17)
 (oR ([oO 18 (.build [oS,oS] []),
 oT 19 6,
 ⟨none,.store 2 (.t 4) (.t 18),none⟩,
 oT 5 19])
 .ret)
 .skip)))
 (.seq (oR ([oG 20 5 3,
 oO 21 (.call 33 [.t 20]),
 oT 7 21])
 (oR ([oT 22 7,
 oA 23 .neq 22 (.c (oI 0))])
 (.cond (.t 23)
 (oR ([oO 24 (.build [oS,oS] []),
 oT 25 7,
 ⟨none,.store 2 (.t 4) (.t 24),none⟩,
 oT 5 25])
 .ret)
 .skip)))
 (.seq (oR ([oF 26 0 2,
 oH 27 1 26,
 oF 28 0 3,
 oH 29 1 28,
 oB 30 .neq 27 29,
 oT 31 30,
 ⟨some 32,.faddr 1 (.t 2),some (31,false)⟩,
 ⟨some 33,.load false 1 (.t 32),some (31,false)⟩,
 ⟨some 34,.faddr 1 (.t 3),some (31,false)⟩,
 ⟨some 35,.load false 1 (.t 34),some (31,false)⟩,
 ⟨some 36,.bin .neq (.t 33) (.t 35),some (31,false)⟩,
 oO 37 (.pick (.t 31) (.c (.bool true)) (.t 36))])
 (.cond (.t 37)
 (oR ([oO 38 (.build [oS,oS] []),
 ⟨none,.store 2 (.t 4) (.t 38),none⟩,
 oM 5 (.c (oI 16))])
 .ret)
 .skip))
 (oR ([oF 39 2 2,
 oH 40 1 39,
 oF 41 2 3,
 oH 42 1 41,
 oO 43 (.build [oI 0,oI 0] [(0,1,.t 40),(1,1,.t 42)]),
 oX 8 (.c (.agg [oI 0,oI 0])),
 ⟨none,.store 2 (.t 8) (.t 43),none⟩])
 (oR ([oX 9 (.c (.agg [.nilm,oS]))])
 (.block 0 (.loop yEx yGl))))))),
 [.cell 4 true 2,.tmp 5]⟩
def yEy : ACode :=
 oR ([oB 28 .lss 27 26])
 (.seq (.cond (.t 28)
 .skip
 (.exit 0))
 (.seq (.block 1 (oR ([oT 29 27,
 oO 30 (.iaddr 1 (.t 25) (.t 27)),
 oH 31 1 30,
 oT 5 29,
 oT 6 31])
 (.block 2 (oR ([oT 33 6,
 oN 34 33,
 oF 35 1 1,
 oH 36 1 35,
 oO 37 (.bin .shl (.c (oI 1)) (.t 36)),
 oB 38 .neq 34 37,
 oT 32 38])
 (.cond (.t 32)
 (oR ([oM 2 (.c (oI 2))])
 .ret)
 (oR ([oT 40 6,
 oT 41 3,
 oO 42 (.call 60 [.t 40,.t 41]),
 oT 39 42])
 (.cond (.t 39)
 (oR ([oM 2 (.c (oI 8))])
 .ret)
 (.seq (.draw 6 [oF 44 3 1,
 oH 45 1 44,
 oT 46 5,
 oO 47 (.iaddr 1 (.t 45) (.t 46)),
 oH 48 1 47,
 oO 49 (.conv .i64 (.t 48)),
 oF 50 0 1,
 oH 51 1 50,
 oO 52 (.bin .shl (.c (oI 1)) (.t 51)),
 oB 53 .geq 49 52,
 oT 43 53])
 (.cond (.t 43)
 (oR ([oM 2 (.c (oI 1))])
 .ret)
 .skip)))))))))
 (.region [oA 54 .add 27 (.c (oI 1)),
 oT 27 54])))
def yGm : ACode := yEy
def yEz : List Nat := [0,4,5,6,7,8,9,10,11,12,13,14,15,16,17,18,19,20,21,22,23,24,28,29,30,31,32,33,34,35,36,37,38,39,40,41,42,43,44,45,46,47,48,49,50,51,52,53,54]
def a33 : AFunc := ⟨55,
 oR ([oX 1 (.t 0),
 oM 2 (.c (oI 0))])
 (oR ([oF 7 4 1,
 oH 8 1 7,
 oN 9 8,
 oT 3 9])
 (.seq (oR ([oF 10 0 1,
 oH 11 1 10,
 oF 12 1 1,
 oH 13 1 12,
 oT 14 3,
 oF 15 3 1,
 oH 16 1 15,
 oN 17 16,
 oF 18 2 1,
 oH 19 1 18,
 oO 20 (.call 59 [.t 11,.t 13,.t 14,.t 17,.t 19]),
 oT 4 20])
 (oR ([oT 21 4,
 oA 22 .neq 21 (.c (oI 0))])
 (.cond (.t 22)
 (oR ([oT 23 4,
 oT 2 23])
 .ret)
 .skip)))
 (.seq (oR ([oF 24 4 1,
 oH 25 1 24,
 oN 26 25,
 oM 27 (.c (oI 0))])
 (.block 0 (.loop yEz yGm)))
 (oR ([oM 2 (.c (oI 0))])
 .ret)))),
 [.tmp 2]⟩
def xRB : ACode :=
 oR ([oB 30 .lss 29 28])
 (.seq (.cond (.t 30)
 .skip
 (.exit 0))
 (.seq (.block 1 (oR ([oT 31 29,
 oO 32 (.iaddr 1 (.t 27) (.t 29)),
 oH 33 1 32,
 oT 7 31,
 oT 8 33])
 (.region [oH 34 1 6,
 oT 35 8,
 oT 36 7,
 oO 37 (.iaddr 1 (.t 34) (.t 35)),
 ⟨none,.store 1 (.t 37) (.t 36),none⟩])))
 (.region [oA 38 .add 29 (.c (oI 1)),
 oT 29 38])))
def xVF : ACode := xRB
def xKh : List Nat := [0,3,4,7,8,9,10,11,12,13,14,15,16,17,18,19,20,21,22,23,24,25,26,30,31,32,33,34,35,36,37,38,39,40,41,42,43,44,45,46,47,48,49,50,51,52,53,54,55,56,57,58,59,60,61,62,63,64,65,66,67,68,69,70,71,72,73,74,75,76,77,78,79,80,81,82,83,84,85,86,87,88,89,90,91,92,93,94,95,96,97,98,99,100,101,102,103,104,105]
abbrev xKi (s1 s2 s5 s6 s27 s28 s29 : AV) : List AV := [.any,s1,s2,.any,.any,s5,s6,.any,.any,.any,.any,.any,.any,.any,.any,.any,.any,.any,.any,.any,.any,.any,.any,.any,.any,.any,.any,s27,s28,s29,.any,.any,.any,.any,.any,.any,.any,.any,.any,.any,.any,.any,.any,.any,.any,.any,.any,.any,.any,.any,.any,.any,.any,.any,.any,.any,.any,.any,.any,.any,.any,.any,.any,.any,.any,.any,.any,.any,.any,.any,.any,.any,.any,.any,.any,.any,.any,.any,.any,.any,.any,.any,.any,.any,.any,.any,.any,.any,.any,.any,.any,.any,.any,.any,.any,.any,.any,.any,.any,.any,.any,.any,.any,.any,.any,.any]
theorem xVG (s0 s1 s2 s3 s4 s5 s6 s7 s8 s9 s10 s11 s12 s13 s14 s15 s16 s17 s18 s19 s20 s21 s22 s23 s24 s25 s26 s27 s28 s29 s30 s31 s32 s33 s34 s35 s36 s37 s38 s39 s40 s41 s42 s43 s44 s45 s46 s47 s48 s49 s50 s51 s52 s53 s54 s55 s56 s57 s58 s59 s60 s61 s62 s63 s64 s65 s66 s67 s68 s69 s70 s71 s72 s73 s74 s75 s76 s77 s78 s79 s80 s81 s82 s83 s84 s85 s86 s87 s88 s89 s90 s91 s92 s93 s94 s95 s96 s97 s98 s99 s100 s101 s102 s103 s104 s105 : AV) : xAp xKh [s0,s1,s2,s3,s4,s5,s6,s7,s8,s9,s10,s11,s12,s13,s14,s15,s16,s17,s18,s19,s20,s21,s22,s23,s24,s25,s26,s27,s28,s29,s30,s31,s32,s33,s34,s35,s36,s37,s38,s39,s40,s41,s42,s43,s44,s45,s46,s47,s48,s49,s50,s51,s52,s53,s54,s55,s56,s57,s58,s59,s60,s61,s62,s63,s64,s65,s66,s67,s68,s69,s70,s71,s72,s73,s74,s75,s76,s77,s78,s79,s80,s81,s82,s83,s84,s85,s86,s87,s88,s89,s90,s91,s92,s93,s94,s95,s96,s97,s98,s99,s100,s101,s102,s103,s104,s105] = xKi s1 s2 s5 s6 s27 s28 s29 := by kernel_rfl
theorem yA7 {prog : Nat → Option AFunc} (s1 s2 s5 s6 s27 s28 s29 : AV) (H : Heap) : (lim prog).loop xKh xVF ⟨xKi s1 s2 s5 s6 s27 s28 s29,H⟩ = xA2 (lim prog) xKh xVF (run (lim prog) xRB ⟨xKi s1 s2 s5 s6 s27 s28 s29,H⟩) := xAd _ _ _ _ (by kernel_rfl)
def xRC : ACode :=
 oR ([oB 72 .lss 71 70])
 (.seq (.cond (.t 72)
 .skip
 (.exit 4))
 (.seq (.block 5 (oR ([oT 73 71,
 oO 74 (.iaddr 1 (.t 69) (.t 71)),
 oH 75 1 74,
 oT 14 73,
 oT 15 75])
 (.region [oT 77 13,
 oT 78 14,
 oH 79 1 5,
 oT 80 15,
 oO 81 (.iaddr 1 (.t 79) (.t 80)),
 oH 82 1 81,
 oO 83 (.icall (.c (.func 70 [])) [.t 9,.t 82]),
 oT 76 83,
 oO 84 (.ext 0 (.t 76)),
 oO 85 (.ext 1 (.t 76)),
 oO 86 (.iaddr 1 (.t 77) (.t 78)),
 ⟨none,.store 1 (.t 86) (.t 84),none⟩])))
 (.region [oA 87 .add 71 (.c (oI 1)),
 oT 71 87])))
def xVH : ACode := xRC
def xKj : List Nat := [0,3,4,6,7,8,10,11,14,15,16,17,18,19,20,21,22,23,24,25,26,27,28,29,30,31,32,33,34,35,36,37,38,39,40,41,42,43,44,45,46,47,48,49,50,51,52,53,54,55,56,57,58,59,60,61,62,63,64,65,66,67,68,72,73,74,75,76,77,78,79,80,81,82,83,84,85,86,87,88,89,90,91,92,93,94,95,96,97,98,99,100,101,102,103,104,105]
abbrev xKk (s1 s2 s5 s9 s12 s13 s69 s70 s71 : AV) : List AV := [.any,s1,s2,.any,.any,s5,.any,.any,.any,s9,.any,.any,s12,s13,.any,.any,.any,.any,.any,.any,.any,.any,.any,.any,.any,.any,.any,.any,.any,.any,.any,.any,.any,.any,.any,.any,.any,.any,.any,.any,.any,.any,.any,.any,.any,.any,.any,.any,.any,.any,.any,.any,.any,.any,.any,.any,.any,.any,.any,.any,.any,.any,.any,.any,.any,.any,.any,.any,.any,s69,s70,s71,.any,.any,.any,.any,.any,.any,.any,.any,.any,.any,.any,.any,.any,.any,.any,.any,.any,.any,.any,.any,.any,.any,.any,.any,.any,.any,.any,.any,.any,.any,.any,.any,.any,.any]
theorem xRD (s0 s1 s2 s3 s4 s5 s6 s7 s8 s9 s10 s11 s12 s13 s14 s15 s16 s17 s18 s19 s20 s21 s22 s23 s24 s25 s26 s27 s28 s29 s30 s31 s32 s33 s34 s35 s36 s37 s38 s39 s40 s41 s42 s43 s44 s45 s46 s47 s48 s49 s50 s51 s52 s53 s54 s55 s56 s57 s58 s59 s60 s61 s62 s63 s64 s65 s66 s67 s68 s69 s70 s71 s72 s73 s74 s75 s76 s77 s78 s79 s80 s81 s82 s83 s84 s85 s86 s87 s88 s89 s90 s91 s92 s93 s94 s95 s96 s97 s98 s99 s100 s101 s102 s103 s104 s105 : AV) : xAp xKj [s0,s1,s2,s3,s4,s5,s6,s7,s8,s9,s10,s11,s12,s13,s14,s15,s16,s17,s18,s19,s20,s21,s22,s23,s24,s25,s26,s27,s28,s29,s30,s31,s32,s33,s34,s35,s36,s37,s38,s39,s40,s41,s42,s43,s44,s45,s46,s47,s48,s49,s50,s51,s52,s53,s54,s55,s56,s57,s58,s59,s60,s61,s62,s63,s64,s65,s66,s67,s68,s69,s70,s71,s72,s73,s74,s75,s76,s77,s78,s79,s80,s81,s82,s83,s84,s85,s86,s87,s88,s89,s90,s91,s92,s93,s94,s95,s96,s97,s98,s99,s100,s101,s102,s103,s104,s105] = xKk s1 s2 s5 s9 s12 s13 s69 s70 s71 := by kernel_rfl
theorem yA8 {prog : Nat → Option AFunc} (s1 s2 s5 s9 s12 s13 s69 s70 s71 : AV) (H : Heap) : (lim prog).loop xKj xVH ⟨xKk s1 s2 s5 s9 s12 s13 s69 s70 s71,H⟩ = xA2 (lim prog) xKj xVH (run (lim prog) xRC ⟨xKk s1 s2 s5 s9 s12 s13 s69 s70 s71,H⟩) := xAd _ _ _ _ (by kernel_rfl)
def xMC : ACode :=
 .region [oT 11 53]
def xRE : ACode :=
 .block 3 (oR ([oH 54 1 6,
 oT 55 11,
 oO 56 (.iaddr 1 (.t 54) (.t 55)),
 oH 57 1 56,
 oT 12 57])
 (oR ([oF 58 3 1,
 oH 59 1 58,
 oT 60 12,
 oO 61 (.iaddr 1 (.t 59) (.t 60)),
 oH 62 1 61,
 oN 63 62,
 oO 64 (.mkslice false [oI 0] 8 (.t 63) (.t 63)),
 oT 13 64])
 (.seq (oR ([oF 65 3 1,
 oH 66 1 65,
 oT 67 12,
 oO 68 (.iaddr 1 (.t 66) (.t 67)),
 oH 69 1 68,
 oN 70 69,
 oM 71 (.c (oI 0))])
 (.block 4 (.loop xKj xVH)))
 (.drawh [(88,(1,10)),(93,(1,10)),(95,(1,10)),(98,(1,10)),(93,(1,13)),(93,(1,14))] [] [(93,(1,(89,0))),(95,(1,(89,0))),(98,(1,(89,0)))] 10 [oF 88 3 2,
 oH 89 1 88,
 oT 90 13,
 oF 93 4 2,
 oH 94 1 93,
 oF 95 4 1,
 oH 96 1 95,
 oT 97 12,
 oO 98 (.iaddr 1 (.t 96) (.t 97)),
 oH 99 1 98,
 oO 91 (.bslice false [oS] 1 1 [(0,.t 90)]),
 oO 92 (.append false 1 24 (.t 89) (.t 91)),
 oF 103 3 2,
 oO 100 (.ocall 72 [.t 99]),
 oO 101 (.bslice false [oS] 1 1 [(0,.t 100)]),
 oO 102 (.append false 1 24 (.t 94) (.t 101)),
 ⟨none,.store 1 (.t 103) (.t 92),none⟩,
 oF 104 4 2,
 ⟨none,.store 1 (.t 104) (.t 102),none⟩]))))
def xVI : ACode := xMC
def yCM : ACode := xRE
theorem xVJ (R : Rec) (s : St) : run R xVI s = run R xMC s := rfl
theorem yA9 (R : Rec) (s : St) : run R yCM s = run R xRE s := rfl
def a35 : AFunc := ⟨106,
 oR ([oX 1 (.t 0),
 oX 2 (.c (.agg [oI 0,oI 0,oI 0,oS,oS])),
 oM 3 (.c (oI 0))])
 (.seq (oR ([oG 16 5 1,
 oO 17 (.call 21 [.t 16]),
 oT 4 17])
 (oR ([oT 18 4,
 oA 19 .neq 18 (.c (oI 0))])
 (.cond (.t 19)
 (oR ([oG 20 5 2,
 oT 21 4,
 ⟨none,.store 5 (.t 2) (.t 20),none⟩,
 oT 3 21])
 .ret)
 .skip)))
 (oR ([oG 22 5 1,
 oO 23 (.call 69 [.t 22]),
 oX 5 (.c (oS)),
 ⟨none,.store 1 (.t 5) (.t 23),none⟩])
 (oR ([oH 24 1 5,
 oN 25 24,
 oO 26 (.mkslice false [oI 0] 8 (.t 25) (.t 25)),
 oX 6 (.c (oS)),
 ⟨none,.store 1 (.t 6) (.t 26),none⟩])
 (.seq (oR ([oH 27 1 5,
 oN 28 27,
 oM 29 (.c (oI 0))])
 (.block 0 (.loop xKh xVF)))
 (.seq (.drawl [(41,(1,(43,1)))] 4 [oF 39 0 1,
 oH 40 1 39,
 oF 41 1 1,
 oH 42 1 41,
 oF 43 0 2,
 ⟨none,.store 1 (.t 43) (.t 40),none⟩,
 oF 44 1 2,
 ⟨none,.store 1 (.t 44) (.t 42),none⟩])
 (oR ([oX 9 (.c (.agg [.nilm,oS]))])
 (oR ([oH 45 1 5,
 oF 46 2 1,
 oH 47 1 46,
 oO 48 (.iaddr 1 (.t 45) (.t 47)),
 oH 49 1 48,
 oO 50 (.icall (.c (.func 70 [])) [.t 9,.t 49])])
 (.seq (oR ([oO 51 (.icall (.c (.func 71 [])) [.t 9])])
 (.block 2 (.range (.t 51) [52,53] xVI yCM)))
 (oR ([oG 105 5 2,
 ⟨none,.store 5 (.t 2) (.t 105),none⟩,
 oM 3 (.c (oI 0))])
 .ret))))))))),
 [.cell 2 true 5,.tmp 3]⟩
def xN3 : ACode :=
 .seq (oR ([oT 60 13,
 oT 61 6,
 oN 62 61,
 oB 63 .lss 60 62,
 oT 64 63,
 ⟨some 65,.mov (.t 5),some (64,true)⟩,
 ⟨some 66,.mov (.t 6),some (64,true)⟩,
 ⟨some 67,.mov (.t 13),some (64,true)⟩,
 ⟨some 68,.iaddr 1 (.t 66) (.t 67),some (64,true)⟩,
 ⟨some 69,.load false 1 (.t 68),some (64,true)⟩,
 ⟨some 70,.iaddr 1 (.t 65) (.t 69),some (64,true)⟩,
 ⟨some 71,.load false 1 (.t 70),some (64,true)⟩,
 ⟨some 72,.mov (.t 12),some (64,true)⟩,
 ⟨some 73,.iaddr 1 (.t 71) (.t 72),some (64,true)⟩,
 ⟨some 74,.load false 1 (.t 73),some (64,true)⟩,
 oO 75 (.pick (.t 64) (.t 74) (.c (.bool false)))])
 (.cond (.t 75)
 .skip
 (.exit 4)))
 (.block 5 (.region [oT 76 13,
 oA 77 .add 76 (.c (oI 1)),
 oT 13 77]))
def xZM : ACode := xN3
def xN4 : List Nat := [0,3,4,14,15,16,17,18,19,20,21,22,23,24,25,26,27,28,29,30,31,32,33,34,35,36,37,38,39,40,41,42,43,44,45,46,47,48,49,50,51,52,53,54,55,56,57,58,59,60,61,62,63,64,65,66,67,68,69,70,71,72,73,74,75,76,77,78,79,80,81,82,83,84,85,86,87,88,89,90,91,92,93,94,95,96,97,98,99,100,101,102,103,104,105,106,107,108,109,110,111,112,113,114,115,116]
abbrev xN5 (s1 s2 s5 s6 s7 s8 s9 s10 s11 s12 s13 : AV) : List AV := [.any,s1,s2,.any,.any,s5,s6,s7,s8,s9,s10,s11,s12,s13,.any,.any,.any,.any,.any,.any,.any,.any,.any,.any,.any,.any,.any,.any,.any,.any,.any,.any,.any,.any,.any,.any,.any,.any,.any,.any,.any,.any,.any,.any,.any,.any,.any,.any,.any,.any,.any,.any,.any,.any,.any,.any,.any,.any,.any,.any,.any,.any,.any,.any,.any,.any,.any,.any,.any,.any,.any,.any,.any,.any,.any,.any,.any,.any,.any,.any,.any,.any,.any,.any,.any,.any,.any,.any,.any,.any,.any,.any,.any,.any,.any,.any,.any,.any,.any,.any,.any,.any,.any,.any,.any,.any,.any,.any,.any,.any,.any,.any,.any,.any,.any,.any,.any]
theorem xN6 (s0 s1 s2 s3 s4 s5 s6 s7 s8 s9 s10 s11 s12 s13 s14 s15 s16 s17 s18 s19 s20 s21 s22 s23 s24 s25 s26 s27 s28 s29 s30 s31 s32 s33 s34 s35 s36 s37 s38 s39 s40 s41 s42 s43 s44 s45 s46 s47 s48 s49 s50 s51 s52 s53 s54 s55 s56 s57 s58 s59 s60 s61 s62 s63 s64 s65 s66 s67 s68 s69 s70 s71 s72 s73 s74 s75 s76 s77 s78 s79 s80 s81 s82 s83 s84 s85 s86 s87 s88 s89 s90 s91 s92 s93 s94 s95 s96 s97 s98 s99 s100 s101 s102 s103 s104 s105 s106 s107 s108 s109 s110 s111 s112 s113 s114 s115 s116 : AV) : xAp xN4 [s0,s1,s2,s3,s4,s5,s6,s7,s8,s9,s10,s11,s12,s13,s14,s15,s16,s17,s18,s19,s20,s21,s22,s23,s24,s25,s26,s27,s28,s29,s30,s31,s32,s33,s34,s35,s36,s37,s38,s39,s40,s41,s42,s43,s44,s45,s46,s47,s48,s49,s50,s51,s52,s53,s54,s55,s56,s57,s58,s59,s60,s61,s62,s63,s64,s65,s66,s67,s68,s69,s70,s71,s72,s73,s74,s75,s76,s77,s78,s79,s80,s81,s82,s83,s84,s85,s86,s87,s88,s89,s90,s91,s92,s93,s94,s95,s96,s97,s98,s99,s100,s101,s102,s103,s104,s105,s106,s107,s108,s109,s110,s111,s112,s113,s114,s115,s116] = xN5 s1 s2 s5 s6 s7 s8 s9 s10 s11 s12 s13 := by kernel_rfl
theorem xVK {prog : Nat → Option AFunc} (s1 s2 s5 s6 s7 s8 s9 s10 s11 s12 s13 : AV) (H : Heap) : (lim prog).loop xN4 xZM ⟨xN5 s1 s2 s5 s6 s7 s8 s9 s10 s11 s12 s13,H⟩ = xA2 (lim prog) xN4 xZM (run (lim prog) xN3 ⟨xN5 s1 s2 s5 s6 s7 s8 s9 s10 s11 s12 s13,H⟩) := xAd _ _ _ _ (by kernel_rfl)
def xN7 : ACode :=
 .seq (.seq (.draw 4 [oT 36 11,
 oF 37 3 1,
 oH 38 1 37,
 oT 39 6,
 oT 40 8,
 oO 41 (.iaddr 1 (.t 39) (.t 40)),
 oH 42 1 41,
 oO 43 (.iaddr 1 (.t 38) (.t 42)),
 oH 44 1 43,
 oN 45 44,
 oB 46 .lss 36 45])
 (.cond (.t 46)
 .skip
 (.exit 2)))
 (.seq (.block 3 (.seq (.draw 8 [oF 49 3 1,
 oH 50 1 49,
 oT 51 6,
 oT 52 8,
 oO 53 (.iaddr 1 (.t 51) (.t 52)),
 oH 54 1 53,
 oO 55 (.iaddr 1 (.t 50) (.t 54)),
 oH 56 1 55,
 oT 57 11,
 oO 58 (.iaddr 1 (.t 56) (.t 57)),
 oH 59 1 58,
 oT 12 59])
 (oR ([oM 13 (.c (oI 0))])
 (.seq (.block 4 (.loop xN4 xZM))
 (.seq (oR ([oT 78 13,
 oT 79 6,
 oN 80 79,
 oB 81 .eql 78 80])
 (.cond (.t 81)
 (.region [oT 82 6,
 oT 83 12,
 oO 84 (.bslice true [oI 0] 1 1 [(0,.t 83)]),
 oO 85 (.append false 1 8 (.t 82) (.t 84)),
 oT 6 85])
 .skip))
 (.drawp [] [(91,(1,(86,0))),(95,(1,(86,0))),(97,(1,(86,0))),(100,(1,(86,0)))] 16 [oT 86 9,
 oT 87 13,
 oO 88 (.dslice [oI 0] 1 1 [(0,.t 87)]),
 oT 90 10,
 oF 91 4 1,
 oH 92 1 91,
 oT 93 6,
 oT 94 8,
 oO 95 (.iaddr 1 (.t 93) (.t 94)),
 oH 96 1 95,
 oO 97 (.iaddr 1 (.t 92) (.t 96)),
 oH 98 1 97,
 oT 99 11,
 oO 100 (.iaddr 1 (.t 98) (.t 99)),
 oH 101 1 100,
 oO 102 (.dslice [.int .u8 0] 1 1 [(0,.t 101)]),
 oO 89 (.append false 1 8 (.t 86) (.t 88)),
 oO 103 (.append false 1 1 (.t 90) (.t 102)),
 oT 9 89,
 oT 10 103]))))))
 (.region [oT 47 11,
 oA 48 .add 47 (.c (oI 1)),
 oT 11 48]))
def xQP : ACode := xN7
def xGM : List Nat := [0,3,4,12,13,14,15,16,17,18,19,20,21,22,23,24,25,26,27,28,29,30,31,32,33,34,35,36,37,38,39,40,41,42,43,44,45,46,47,48,49,50,51,52,53,54,55,56,57,58,59,60,61,62,63,64,65,66,67,68,69,70,71,72,73,74,75,76,77,78,79,80,81,82,83,84,85,86,87,88,89,90,91,92,93,94,95,96,97,98,99,100,101,102,103,104,105,106,107,108,109,110,111,112,113,114,115,116]
abbrev xKl (s1 s2 s5 s6 s7 s8 s9 s10 s11 : AV) : List AV := [.any,s1,s2,.any,.any,s5,s6,s7,s8,s9,s10,s11,.any,.any,.any,.any,.any,.any,.any,.any,.any,.any,.any,.any,.any,.any,.any,.any,.any,.any,.any,.any,.any,.any,.any,.any,.any,.any,.any,.any,.any,.any,.any,.any,.any,.any,.any,.any,.any,.any,.any,.any,.any,.any,.any,.any,.any,.any,.any,.any,.any,.any,.any,.any,.any,.any,.any,.any,.any,.any,.any,.any,.any,.any,.any,.any,.any,.any,.any,.any,.any,.any,.any,.any,.any,.any,.any,.any,.any,.any,.any,.any,.any,.any,.any,.any,.any,.any,.any,.any,.any,.any,.any,.any,.any,.any,.any,.any,.any,.any,.any,.any,.any,.any,.any,.any,.any]
theorem xN8 (s0 s1 s2 s3 s4 s5 s6 s7 s8 s9 s10 s11 s12 s13 s14 s15 s16 s17 s18 s19 s20 s21 s22 s23 s24 s25 s26 s27 s28 s29 s30 s31 s32 s33 s34 s35 s36 s37 s38 s39 s40 s41 s42 s43 s44 s45 s46 s47 s48 s49 s50 s51 s52 s53 s54 s55 s56 s57 s58 s59 s60 s61 s62 s63 s64 s65 s66 s67 s68 s69 s70 s71 s72 s73 s74 s75 s76 s77 s78 s79 s80 s81 s82 s83 s84 s85 s86 s87 s88 s89 s90 s91 s92 s93 s94 s95 s96 s97 s98 s99 s100 s101 s102 s103 s104 s105 s106 s107 s108 s109 s110 s111 s112 s113 s114 s115 s116 : AV) : xAp xGM [s0,s1,s2,s3,s4,s5,s6,s7,s8,s9,s10,s11,s12,s13,s14,s15,s16,s17,s18,s19,s20,s21,s22,s23,s24,s25,s26,s27,s28,s29,s30,s31,s32,s33,s34,s35,s36,s37,s38,s39,s40,s41,s42,s43,s44,s45,s46,s47,s48,s49,s50,s51,s52,s53,s54,s55,s56,s57,s58,s59,s60,s61,s62,s63,s64,s65,s66,s67,s68,s69,s70,s71,s72,s73,s74,s75,s76,s77,s78,s79,s80,s81,s82,s83,s84,s85,s86,s87,s88,s89,s90,s91,s92,s93,s94,s95,s96,s97,s98,s99,s100,s101,s102,s103,s104,s105,s106,s107,s108,s109,s110,s111,s112,s113,s114,s115,s116] = xKl s1 s2 s5 s6 s7 s8 s9 s10 s11 := by kernel_rfl
theorem xVL {prog : Nat → Option AFunc} (s1 s2 s5 s6 s7 s8 s9 s10 s11 : AV) (H : Heap) : (lim prog).loop xGM xQP ⟨xKl s1 s2 s5 s6 s7 s8 s9 s10 s11,H⟩ = xA2 (lim prog) xGM xQP (run (lim prog) xN7 ⟨xKl s1 s2 s5 s6 s7 s8 s9 s10 s11,H⟩) := xAd _ _ _ _ (by kernel_rfl)
def xN9 : ACode :=
 .seq (oR ([oT 30 8,
 oT 31 6,
 oN 32 31,
 oB 33 .lss 30 32])
 (.cond (.t 33)
 .skip
 (.exit 0)))
 (.seq (.block 1 (oR ([oM 9 (.c (oS))])
 (oR ([oM 10 (.c (oS))])
 (.seq (oR ([oM 11 (.c (oI 0))])
 (.block 2 (.loop xGM xQP)))
 (.fzs 9 (.fzs 10 (.drawp [] [(109,(1,(105,0)))] 8 [oF 104 3 7,
 oH 105 1 104,
 oT 106 9,
 oO 107 (.dslice [oS] 1 1 [(0,.t 106)]),
 oF 109 4 7,
 oH 110 1 109,
 oT 111 10,
 oO 112 (.dslice [oS] 1 1 [(0,.t 111)]),
 oO 108 (.append false 1 24 (.t 105) (.t 107)),
 oF 114 3 7,
 oO 113 (.append false 1 24 (.t 110) (.t 112)),
 ⟨none,.store 1 (.t 114) (.t 108),none⟩,
 oF 115 4 7,
 ⟨none,.store 1 (.t 115) (.t 113),none⟩])))))))
 (.region [oT 34 8,
 oA 35 .add 34 (.c (oI 1)),
 oT 8 35]))
def xQQ : ACode := xN9
def xGN : List Nat := [0,3,4,9,10,11,12,13,14,15,16,17,18,19,20,21,22,23,24,25,26,27,28,29,30,31,32,33,34,35,36,37,38,39,40,41,42,43,44,45,46,47,48,49,50,51,52,53,54,55,56,57,58,59,60,61,62,63,64,65,66,67,68,69,70,71,72,73,74,75,76,77,78,79,80,81,82,83,84,85,86,87,88,89,90,91,92,93,94,95,96,97,98,99,100,101,102,103,104,105,106,107,108,109,110,111,112,113,114,115,116]
abbrev xOa (s1 s2 s5 s6 s7 s8 : AV) : List AV := [.any,s1,s2,.any,.any,s5,s6,s7,s8,.any,.any,.any,.any,.any,.any,.any,.any,.any,.any,.any,.any,.any,.any,.any,.any,.any,.any,.any,.any,.any,.any,.any,.any,.any,.any,.any,.any,.any,.any,.any,.any,.any,.any,.any,.any,.any,.any,.any,.any,.any,.any,.any,.any,.any,.any,.any,.any,.any,.any,.any,.any,.any,.any,.any,.any,.any,.any,.any,.any,.any,.any,.any,.any,.any,.any,.any,.any,.any,.any,.any,.any,.any,.any,.any,.any,.any,.any,.any,.any,.any,.any,.any,.any,.any,.any,.any,.any,.any,.any,.any,.any,.any,.any,.any,.any,.any,.any,.any,.any,.any,.any,.any,.any,.any,.any,.any,.any]
theorem xRF (s0 s1 s2 s3 s4 s5 s6 s7 s8 s9 s10 s11 s12 s13 s14 s15 s16 s17 s18 s19 s20 s21 s22 s23 s24 s25 s26 s27 s28 s29 s30 s31 s32 s33 s34 s35 s36 s37 s38 s39 s40 s41 s42 s43 s44 s45 s46 s47 s48 s49 s50 s51 s52 s53 s54 s55 s56 s57 s58 s59 s60 s61 s62 s63 s64 s65 s66 s67 s68 s69 s70 s71 s72 s73 s74 s75 s76 s77 s78 s79 s80 s81 s82 s83 s84 s85 s86 s87 s88 s89 s90 s91 s92 s93 s94 s95 s96 s97 s98 s99 s100 s101 s102 s103 s104 s105 s106 s107 s108 s109 s110 s111 s112 s113 s114 s115 s116 : AV) : xAp xGN [s0,s1,s2,s3,s4,s5,s6,s7,s8,s9,s10,s11,s12,s13,s14,s15,s16,s17,s18,s19,s20,s21,s22,s23,s24,s25,s26,s27,s28,s29,s30,s31,s32,s33,s34,s35,s36,s37,s38,s39,s40,s41,s42,s43,s44,s45,s46,s47,s48,s49,s50,s51,s52,s53,s54,s55,s56,s57,s58,s59,s60,s61,s62,s63,s64,s65,s66,s67,s68,s69,s70,s71,s72,s73,s74,s75,s76,s77,s78,s79,s80,s81,s82,s83,s84,s85,s86,s87,s88,s89,s90,s91,s92,s93,s94,s95,s96,s97,s98,s99,s100,s101,s102,s103,s104,s105,s106,s107,s108,s109,s110,s111,s112,s113,s114,s115,s116] = xOa s1 s2 s5 s6 s7 s8 := by kernel_rfl
theorem xVM {prog : Nat → Option AFunc} (s1 s2 s5 s6 s7 s8 : AV) (H : Heap) : (lim prog).loop xGN xQQ ⟨xOa s1 s2 s5 s6 s7 s8,H⟩ = xA2 (lim prog) xGN xQQ (run (lim prog) xN9 ⟨xOa s1 s2 s5 s6 s7 s8,H⟩) := xAd _ _ _ _ (by kernel_rfl)
def a36 : AFunc := ⟨117,
 oR ([oX 1 (.t 0),
 oX 2 (.c (.agg [oI 0,oI 0,oI 0,oS,oS])),
 oM 3 (.c (oI 0))])
 (.seq (oR ([oG 14 5 1,
 oO 15 (.call 22 [.t 14]),
 oT 4 15])
 (oR ([oT 16 4,
 oA 17 .neq 16 (.c (oI 0))])
 (.cond (.t 17)
 (oR ([oO 18 (.build [oI 0,oI 0,oI 0,oS,oS] []),
 oT 19 4,
 ⟨none,.store 5 (.t 2) (.t 18),none⟩,
 oT 3 19])
 .ret)
 .skip)))
 (oR ([oG 20 5 1,
 oO 21 (.call 73 [.t 20]),
 oT 5 21])
 (oR ([oF 22 2 1,
 oH 23 1 22,
 oO 24 (.bslice false [oI 0] 1 1 [(0,.t 23)]),
 oT 6 24])
 (oR ([oF 25 0 1,
 oH 26 1 25,
 oF 27 1 1,
 oH 28 1 27,
 oO 29 (.build [oI 0,oI 0,oI 0,oS,oS] [(0,1,.t 26),(1,1,.t 28)]),
 oX 7 (.c (.agg [oI 0,oI 0,oI 0,oS,oS])),
 ⟨none,.store 5 (.t 7) (.t 29),none⟩])
 (.seq (oR ([oM 8 (.c (oI 0))])
 (.block 0 (.loop xGN xQQ)))
 (oR ([oG 116 5 7,
 ⟨none,.store 5 (.t 2) (.t 116),none⟩,
 oM 3 (.c (oI 0))])
 .ret)))))),
 [.cell 2 true 5,.tmp 3]⟩
def xGO : ACode :=
 oR ([oB 23 .lss 22 21])
 (.seq (.cond (.t 23)
 .skip
 (.exit 0))
 (.seq (.block 1 (oR ([oO 24 (.iaddr 5 (.t 20) (.t 22)),
 oG 25 5 24,
 oX 8 (.c (.agg [oI 0,oI 0,oI 0,oS,oS])),
 ⟨none,.store 5 (.t 8) (.t 25),none⟩])
 (oR ([oG 26 5 8,
 oO 27 (.call 21 [.t 26]),
 oT 9 27])
 (oR ([oT 28 9,
 oA 29 .neq 28 (.c (oI 0))])
 (.cond (.t 29)
 (oR ([oT 30 9,
 ⟨none,.store 1 (.t 4) (.c (oS)),none⟩,
 ⟨none,.store 1 (.t 5) (.c (.bool false)),none⟩,
 ⟨none,.store 1 (.t 6) (.t 30),none⟩])
 .ret)
 .skip)))))
 (.region [oA 31 .add 22 (.c (oI 1)),
 oT 22 31])))
def yCN : ACode := xGO
def xRG : List Nat := [0,1,7,8,9,10,11,12,13,14,15,16,17,18,19,23,24,25,26,27,28,29,30,31,32,33,34,35,36,37,38,39,40,41,42,43,44,45,46,47,48,49,50,51,52,53,54,55,56,57,58,59,60,61,62,63,64,65,66,67,68,69,70,71,72,73,74,75,76,77,78,79,80,81,82,83,84,85,86,87,88,89,90,91,92,93,94,95,96,97,98,99,100,101,102,103,104,105,106,107,108,109,110,111,112,113,114,115,116,117]
abbrev xVN (s2 s3 s4 s5 s6 s20 s21 s22 : AV) : List AV := [.any,.any,s2,s3,s4,s5,s6,.any,.any,.any,.any,.any,.any,.any,.any,.any,.any,.any,.any,.any,s20,s21,s22,.any,.any,.any,.any,.any,.any,.any,.any,.any,.any,.any,.any,.any,.any,.any,.any,.any,.any,.any,.any,.any,.any,.any,.any,.any,.any,.any,.any,.any,.any,.any,.any,.any,.any,.any,.any,.any,.any,.any,.any,.any,.any,.any,.any,.any,.any,.any,.any,.any,.any,.any,.any,.any,.any,.any,.any,.any,.any,.any,.any,.any,.any,.any,.any,.any,.any,.any,.any,.any,.any,.any,.any,.any,.any,.any,.any,.any,.any,.any,.any,.any,.any,.any,.any,.any,.any,.any,.any,.any,.any,.any,.any,.any,.any,.any]
theorem xKm (s0 s1 s2 s3 s4 s5 s6 s7 s8 s9 s10 s11 s12 s13 s14 s15 s16 s17 s18 s19 s20 s21 s22 s23 s24 s25 s26 s27 s28 s29 s30 s31 s32 s33 s34 s35 s36 s37 s38 s39 s40 s41 s42 s43 s44 s45 s46 s47 s48 s49 s50 s51 s52 s53 s54 s55 s56 s57 s58 s59 s60 s61 s62 s63 s64 s65 s66 s67 s68 s69 s70 s71 s72 s73 s74 s75 s76 s77 s78 s79 s80 s81 s82 s83 s84 s85 s86 s87 s88 s89 s90 s91 s92 s93 s94 s95 s96 s97 s98 s99 s100 s101 s102 s103 s104 s105 s106 s107 s108 s109 s110 s111 s112 s113 s114 s115 s116 s117 : AV) : xAp xRG [s0,s1,s2,s3,s4,s5,s6,s7,s8,s9,s10,s11,s12,s13,s14,s15,s16,s17,s18,s19,s20,s21,s22,s23,s24,s25,s26,s27,s28,s29,s30,s31,s32,s33,s34,s35,s36,s37,s38,s39,s40,s41,s42,s43,s44,s45,s46,s47,s48,s49,s50,s51,s52,s53,s54,s55,s56,s57,s58,s59,s60,s61,s62,s63,s64,s65,s66,s67,s68,s69,s70,s71,s72,s73,s74,s75,s76,s77,s78,s79,s80,s81,s82,s83,s84,s85,s86,s87,s88,s89,s90,s91,s92,s93,s94,s95,s96,s97,s98,s99,s100,s101,s102,s103,s104,s105,s106,s107,s108,s109,s110,s111,s112,s113,s114,s115,s116,s117] = xVN s2 s3 s4 s5 s6 s20 s21 s22 := by kernel_rfl
theorem xKn {prog : Nat → Option AFunc} (s2 s3 s4 s5 s6 s20 s21 s22 : AV) (H : Heap) : (lim prog).loop xRG yCN ⟨xVN s2 s3 s4 s5 s6 s20 s21 s22,H⟩ = xA2 (lim prog) xRG yCN (run (lim prog) xGO ⟨xVN s2 s3 s4 s5 s6 s20 s21 s22,H⟩) := xAd _ _ _ _ (by kernel_rfl)
def xKo : ACode :=
 oR ([oB 58 .lss 57 56])
 (.seq (.cond (.t 58)
 .skip
 (.exit 4))
 (.seq (.block 5 (oR ([oT 59 57,
 oT 14 59])
 (oR ([oH 60 1 11,
 oT 61 12,
 oO 62 (.iaddr 1 (.t 60) (.t 61)),
 oH 63 1 62,
 oT 64 14,
 oO 65 (.conv .u8 (.t 64)),
 oO 66 (.bslice true [.int .u8 0] 1 1 [(0,.t 65)]),
 oO 67 (.bslice true [oS] 1 2 [(0,.t 63),(1,.t 66)]),
 oO 68 (.ocall 76 [.t 67]),
 oT 15 68])
 (.seq (.seq (.draw 15 [oF 69 4 2,
 oH 70 1 69,
 oO 71 (.arrat 1 2 (.t 13) (.c (oI 0))),
 oH 72 1 71,
 oO 73 (.iaddr 1 (.t 70) (.t 72)),
 oH 74 1 73,
 oT 75 14,
 oO 76 (.iaddr 1 (.t 74) (.t 75)),
 oH 77 1 76,
 oF 78 4 3,
 oH 79 1 78,
 oO 80 (.arrat 1 2 (.t 13) (.c (oI 1))),
 oH 81 1 80,
 oO 82 (.iaddr 1 (.t 79) (.t 81)),
 oH 83 1 82,
 oT 84 14,
 oO 85 (.iaddr 1 (.t 83) (.t 84)),
 oH 86 1 85,
 oB 87 .neq 77 86])
 (.cond (.t 87)
 (oR ([oT 88 15,
 ⟨none,.store 1 (.t 4) (.t 88),none⟩,
 ⟨none,.store 1 (.t 5) (.c (.bool false)),none⟩,
 ⟨none,.store 1 (.t 6) (.c (oI 0)),none⟩])
 .ret)
 .skip))
 (.seq (.draw 15 [oF 90 3 2,
 oH 91 1 90,
 oO 92 (.arrat 1 2 (.t 13) (.c (oI 0))),
 oH 93 1 92,
 oO 94 (.iaddr 1 (.t 91) (.t 93)),
 oH 95 1 94,
 oT 96 14,
 oO 97 (.iaddr 1 (.t 95) (.t 96)),
 oH 98 1 97,
 oF 99 3 3,
 oH 100 1 99,
 oO 101 (.arrat 1 2 (.t 13) (.c (oI 1))),
 oH 102 1 101,
 oO 103 (.iaddr 1 (.t 100) (.t 102)),
 oH 104 1 103,
 oT 105 14,
 oO 106 (.iaddr 1 (.t 104) (.t 105)),
 oH 107 1 106,
 oO 108 (.build [oI 0,oI 0] [(0,1,.t 98),(1,1,.t 107)]),
 oO 109 (.icall (.c (.func 74 [])) [.t 10,.t 108]),
 oT 89 109,
 oO 110 (.ext 0 (.t 89)),
 oO 111 (.ext 1 (.t 89)),
 oT 16 110,
 oT 17 111])
 (oR ([oT 112 17])
 (.cond (.t 112)
 (.fzs 15 (.region [oH 113 1 11,
 oT 114 15,
 oO 115 (.bslice true [oS] 1 1 [(0,.t 114)]),
 oO 116 (.append false 1 24 (.t 113) (.t 115)),
 ⟨none,.store 1 (.t 11) (.t 116),none⟩]))
 .skip)))))))
 (.region [oA 117 .add 57 (.c (oI 1)),
 oT 57 117])))
def xGn : ACode := xKo
def xC3 : List Nat := [0,1,7,8,9,14,15,16,17,18,19,20,21,22,23,24,25,26,27,28,29,30,31,32,33,34,35,36,37,38,39,40,41,42,43,44,45,46,47,48,49,50,51,52,53,54,55,58,59,60,61,62,63,64,65,66,67,68,69,70,71,72,73,74,75,76,77,78,79,80,81,82,83,84,85,86,87,88,89,90,91,92,93,94,95,96,97,98,99,100,101,102,103,104,105,106,107,108,109,110,111,112,113,114,115,116,117]
abbrev xKp (s2 s3 s4 s5 s6 s10 s11 s12 s13 s56 s57 : AV) : List AV := [.any,.any,s2,s3,s4,s5,s6,.any,.any,.any,s10,s11,s12,s13,.any,.any,.any,.any,.any,.any,.any,.any,.any,.any,.any,.any,.any,.any,.any,.any,.any,.any,.any,.any,.any,.any,.any,.any,.any,.any,.any,.any,.any,.any,.any,.any,.any,.any,.any,.any,.any,.any,.any,.any,.any,.any,s56,s57,.any,.any,.any,.any,.any,.any,.any,.any,.any,.any,.any,.any,.any,.any,.any,.any,.any,.any,.any,.any,.any,.any,.any,.any,.any,.any,.any,.any,.any,.any,.any,.any,.any,.any,.any,.any,.any,.any,.any,.any,.any,.any,.any,.any,.any,.any,.any,.any,.any,.any,.any,.any,.any,.any,.any,.any,.any,.any,.any,.any]
theorem xKq (s0 s1 s2 s3 s4 s5 s6 s7 s8 s9 s10 s11 s12 s13 s14 s15 s16 s17 s18 s19 s20 s21 s22 s23 s24 s25 s26 s27 s28 s29 s30 s31 s32 s33 s34 s35 s36 s37 s38 s39 s40 s41 s42 s43 s44 s45 s46 s47 s48 s49 s50 s51 s52 s53 s54 s55 s56 s57 s58 s59 s60 s61 s62 s63 s64 s65 s66 s67 s68 s69 s70 s71 s72 s73 s74 s75 s76 s77 s78 s79 s80 s81 s82 s83 s84 s85 s86 s87 s88 s89 s90 s91 s92 s93 s94 s95 s96 s97 s98 s99 s100 s101 s102 s103 s104 s105 s106 s107 s108 s109 s110 s111 s112 s113 s114 s115 s116 s117 : AV) : xAp xC3 [s0,s1,s2,s3,s4,s5,s6,s7,s8,s9,s10,s11,s12,s13,s14,s15,s16,s17,s18,s19,s20,s21,s22,s23,s24,s25,s26,s27,s28,s29,s30,s31,s32,s33,s34,s35,s36,s37,s38,s39,s40,s41,s42,s43,s44,s45,s46,s47,s48,s49,s50,s51,s52,s53,s54,s55,s56,s57,s58,s59,s60,s61,s62,s63,s64,s65,s66,s67,s68,s69,s70,s71,s72,s73,s74,s75,s76,s77,s78,s79,s80,s81,s82,s83,s84,s85,s86,s87,s88,s89,s90,s91,s92,s93,s94,s95,s96,s97,s98,s99,s100,s101,s102,s103,s104,s105,s106,s107,s108,s109,s110,s111,s112,s113,s114,s115,s116,s117] = xKp s2 s3 s4 s5 s6 s10 s11 s12 s13 s56 s57 := by kernel_rfl
theorem xRH {prog : Nat → Option AFunc} (s2 s3 s4 s5 s6 s10 s11 s12 s13 s56 s57 : AV) (H : Heap) : (lim prog).loop xC3 xGn ⟨xKp s2 s3 s4 s5 s6 s10 s11 s12 s13 s56 s57,H⟩ = xA2 (lim prog) xC3 xGn (run (lim prog) xKo ⟨xKp s2 s3 s4 s5 s6 s10 s11 s12 s13 s56 s57,H⟩) := xAd _ _ _ _ (by kernel_rfl)
def xMD : ACode :=
 oR ([oT 12 52])
 (.region [oX 13 (.c (.agg [oI 0,oI 0])),
 ⟨none,.store 2 (.t 13) (.t 53),none⟩])
def xRI : ACode :=
 .block 3 (oR ([oF 54 0 2,
 oH 55 1 54,
 oO 56 (.bin .shl (.c (oI 1)) (.t 55)),
 oM 57 (.c (oI 0))])
 (.block 4 (.loop xC3 xGn)))
def xVO : ACode := xMD
def yCO : ACode := xRI
theorem xVP (R : Rec) (s : St) : run R xVO s = run R xMD s := rfl
theorem yBa (R : Rec) (s : St) : run R yCO s = run R xRI s := rfl
def a37 : AFunc := ⟨118,
 oR ([oX 2 (.t 0),
 oX 3 (.t 1),
 oX 4 (.c (oS)),
 oX 5 (.c (.bool false)),
 oX 6 (.c (oI 0))])
 (.seq (oR ([oG 18 5 2,
 oG 19 5 3,
 oO 20 (.bslice true [oI 0,oI 0,oI 0,oS,oS] 5 2 [(0,.t 18),(1,.t 19)]),
 oN 21 20,
 oM 22 (.c (oI 0))])
 (.block 0 (.loop xRG yCN)))
 (.seq (oR ([oF 32 0 2,
 oH 33 1 32,
 oF 34 0 3,
 oH 35 1 34,
 oB 36 .neq 33 35,
 oT 37 36,
 ⟨some 38,.faddr 1 (.t 2),some (37,false)⟩,
 ⟨some 39,.load false 1 (.t 38),some (37,false)⟩,
 ⟨some 40,.faddr 1 (.t 3),some (37,false)⟩,
 ⟨some 41,.load false 1 (.t 40),some (37,false)⟩,
 ⟨some 42,.bin .neq (.t 39) (.t 41),some (37,false)⟩,
 oO 43 (.pick (.t 37) (.c (.bool true)) (.t 42))])
 (.cond (.t 43)
 (oR ([⟨none,.store 1 (.t 4) (.c (oS)),none⟩,
 ⟨none,.store 1 (.t 5) (.c (.bool false)),none⟩,
 ⟨none,.store 1 (.t 6) (.c (oI 7)),none⟩])
 .ret)
 .skip))
 (oR ([oX 10 (.c (.agg [.nilm,oS]))])
 (oR ([oF 44 2 2,
 oH 45 1 44,
 oF 46 2 3,
 oH 47 1 46,
 oO 48 (.build [oI 0,oI 0] [(0,1,.t 45),(1,1,.t 47)]),
 oO 49 (.icall (.c (.func 74 [])) [.t 10,.t 48])])
 (oR ([oO 50 (.bslice false [oS] 1 1 [(0,(.c (oS)))]),
 oX 11 (.c (oS)),
 ⟨none,.store 1 (.t 11) (.t 50),none⟩])
 (.seq (oR ([oO 51 (.icall (.c (.func 75 [])) [.t 10])])
 (.block 2 (.range (.t 51) [52,53] xVO yCO)))
 (oR ([⟨none,.store 1 (.t 4) (.c (oS)),none⟩,
 ⟨none,.store 1 (.t 5) (.c (.bool true)),none⟩,
 ⟨none,.store 1 (.t 6) (.c (oI 0)),none⟩])
 .ret))))))),
 [.cell 4 false 1,.cell 5 false 1,.cell 6 false 1]⟩
def xKr : ACode :=
 .seq (oR ([oT 116 18,
 oT 117 9,
 oN 118 117,
 oB 119 .lss 116 118])
 (.cond (.t 119)
 .skip
 (.exit 4)))
 (.seq (.block 5 (.draw 7 [oT 122 17,
 oT 123 122,
 ⟨some 124,.mov (.t 9),some (123,false)⟩,
 ⟨some 125,.mov (.t 18),some (123,false)⟩,
 ⟨some 126,.iaddr 2 (.t 124) (.t 125),some (123,false)⟩,
 ⟨some 127,.load true 2 (.t 126),some (123,false)⟩,
 ⟨some 128,.load true 2 (.t 16),some (123,false)⟩,
 ⟨some 129,.aeq false 2 (.t 127) (.t 128),some (123,false)⟩,
 oO 130 (.pick (.t 123) (.c (.bool true)) (.t 129)),
 oT 17 130]))
 (.region [oT 120 18,
 oA 121 .add 120 (.c (oI 1)),
 oT 18 121]))
def xZN : ACode := xKr
def xOb : List Nat := [0,1,4,5,6,7,8,19,20,21,22,23,24,25,26,27,28,29,30,31,32,33,34,35,36,37,38,39,40,41,42,43,44,45,46,47,48,49,50,51,52,53,54,55,56,57,58,59,60,61,62,63,64,65,66,67,68,69,70,71,72,73,74,75,76,77,78,79,80,81,82,83,84,85,86,87,88,89,90,91,92,93,94,95,96,97,98,99,100,101,102,103,104,105,106,107,108,109,110,111,112,113,114,115,116,117,118,119,120,121,122,123,124,125,126,127,128,129,130,131,132,133,134,135,136,137,138,139,140]
abbrev xOc (s2 s3 s9 s10 s11 s12 s13 s14 s15 s16 s17 s18 : AV) : List AV := [.any,.any,s2,s3,.any,.any,.any,.any,.any,s9,s10,s11,s12,s13,s14,s15,s16,s17,s18,.any,.any,.any,.any,.any,.any,.any,.any,.any,.any,.any,.any,.any,.any,.any,.any,.any,.any,.any,.any,.any,.any,.any,.any,.any,.any,.any,.any,.any,.any,.any,.any,.any,.any,.any,.any,.any,.any,.any,.any,.any,.any,.any,.any,.any,.any,.any,.any,.any,.any,.any,.any,.any,.any,.any,.any,.any,.any,.any,.any,.any,.any,.any,.any,.any,.any,.any,.any,.any,.any,.any,.any,.any,.any,.any,.any,.any,.any,.any,.any,.any,.any,.any,.any,.any,.any,.any,.any,.any,.any,.any,.any,.any,.any,.any,.any,.any,.any,.any,.any,.any,.any,.any,.any,.any,.any,.any,.any,.any,.any,.any,.any,.any,.any,.any,.any,.any,.any,.any,.any,.any,.any]
theorem xKs (s0 s1 s2 s3 s4 s5 s6 s7 s8 s9 s10 s11 s12 s13 s14 s15 s16 s17 s18 s19 s20 s21 s22 s23 s24 s25 s26 s27 s28 s29 s30 s31 s32 s33 s34 s35 s36 s37 s38 s39 s40 s41 s42 s43 s44 s45 s46 s47 s48 s49 s50 s51 s52 s53 s54 s55 s56 s57 s58 s59 s60 s61 s62 s63 s64 s65 s66 s67 s68 s69 s70 s71 s72 s73 s74 s75 s76 s77 s78 s79 s80 s81 s82 s83 s84 s85 s86 s87 s88 s89 s90 s91 s92 s93 s94 s95 s96 s97 s98 s99 s100 s101 s102 s103 s104 s105 s106 s107 s108 s109 s110 s111 s112 s113 s114 s115 s116 s117 s118 s119 s120 s121 s122 s123 s124 s125 s126 s127 s128 s129 s130 s131 s132 s133 s134 s135 s136 s137 s138 s139 s140 : AV) : xAp xOb [s0,s1,s2,s3,s4,s5,s6,s7,s8,s9,s10,s11,s12,s13,s14,s15,s16,s17,s18,s19,s20,s21,s22,s23,s24,s25,s26,s27,s28,s29,s30,s31,s32,s33,s34,s35,s36,s37,s38,s39,s40,s41,s42,s43,s44,s45,s46,s47,s48,s49,s50,s51,s52,s53,s54,s55,s56,s57,s58,s59,s60,s61,s62,s63,s64,s65,s66,s67,s68,s69,s70,s71,s72,s73,s74,s75,s76,s77,s78,s79,s80,s81,s82,s83,s84,s85,s86,s87,s88,s89,s90,s91,s92,s93,s94,s95,s96,s97,s98,s99,s100,s101,s102,s103,s104,s105,s106,s107,s108,s109,s110,s111,s112,s113,s114,s115,s116,s117,s118,s119,s120,s121,s122,s123,s124,s125,s126,s127,s128,s129,s130,s131,s132,s133,s134,s135,s136,s137,s138,s139,s140] = xOc s2 s3 s9 s10 s11 s12 s13 s14 s15 s16 s17 s18 := by kernel_rfl
theorem xRJ {prog : Nat → Option AFunc} (s2 s3 s9 s10 s11 s12 s13 s14 s15 s16 s17 s18 : AV) (H : Heap) : (lim prog).loop xOb xZN ⟨xOc s2 s3 s9 s10 s11 s12 s13 s14 s15 s16 s17 s18,H⟩ = xA2 (lim prog) xOb xZN (run (lim prog) xKr ⟨xOc s2 s3 s9 s10 s11 s12 s13 s14 s15 s16 s17 s18,H⟩) := xAd _ _ _ _ (by kernel_rfl)
def xKt : ACode :=
 .seq (oR ([oT 64 14,
 oF 65 0 2,
 oH 66 1 65,
 oO 67 (.conv .u64 (.t 66)),
 oO 68 (.bin .shl (.c (oI 1)) (.t 67)),
 oB 69 .lss 64 68])
 (.cond (.t 69)
 .skip
 (.exit 2)))
 (.seq (.block 3 (oR ([oT 72 10,
 oT 73 11,
 oO 74 (.iaddr 1 (.t 72) (.t 73)),
 oH 75 1 74,
 oO 76 (.append false 1 1 (.c (oS)) (.t 75)),
 oT 77 14,
 oO 78 (.conv .u8 (.t 77)),
 oO 79 (.bslice true [.int .u8 0] 1 1 [(0,.t 78)]),
 oO 80 (.append false 1 1 (.t 76) (.t 79)),
 oT 15 80])
 (.seq (.seq (.draw 13 [oF 81 4 2,
 oH 82 1 81,
 oT 83 12,
 oO 84 (.iaddr 1 (.t 82) (.t 83)),
 oH 85 1 84,
 oT 86 14,
 oO 87 (.iaddr 1 (.t 85) (.t 86)),
 oH 88 1 87,
 oF 89 4 3,
 oH 90 1 89,
 oT 91 13,
 oO 92 (.iaddr 1 (.t 90) (.t 91)),
 oH 93 1 92,
 oT 94 14,
 oO 95 (.iaddr 1 (.t 93) (.t 94)),
 oH 96 1 95,
 oB 97 .neq 88 96])
 (.cond (.t 97)
 (oR ([oT 98 15,
 oT 4 98,
 oM 5 (.c (.bool false)),
 oM 6 (.c (oI 0))])
 .ret)
 .skip))
 (.seq (.draw 18 [oF 99 3 2,
 oH 100 1 99,
 oT 101 12,
 oO 102 (.iaddr 1 (.t 100) (.t 101)),
 oH 103 1 102,
 oT 104 14,
 oO 105 (.iaddr 1 (.t 103) (.t 104)),
 oH 106 1 105,
 oF 107 3 3,
 oH 108 1 107,
 oT 109 13,
 oO 110 (.iaddr 1 (.t 108) (.t 109)),
 oH 111 1 110,
 oT 112 14,
 oO 113 (.iaddr 1 (.t 111) (.t 112)),
 oH 114 1 113,
 oO 115 (.build [oI 0,oI 0] [(0,1,.t 106),(1,1,.t 114)]),
 oX 16 (.c (.agg [oI 0,oI 0])),
 ⟨none,.store 2 (.t 16) (.t 115),none⟩])
 (oR ([oM 17 (.c (.bool false))])
 (.seq (oR ([oM 18 (.c (oI 0))])
 (.block 4 (.loop xOb xZN)))
 (oR ([oT 131 17,
 oO 132 (.un .not (.t 131))])
 (.cond (.t 132)
 (.fzs 15 (.region [oT 133 9,
 oG 134 2 16,
 oO 135 (.bslice true [oI 0,oI 0] 2 1 [(0,.t 134)]),
 oO 136 (.append false 2 16 (.t 133) (.t 135)),
 oT 137 10,
 oT 138 15,
 oO 139 (.bslice true [oS] 1 1 [(0,.t 138)]),
 oO 140 (.append false 1 24 (.t 137) (.t 139)),
 oT 9 136,
 oT 10 140]))
 .skip))))))))
 (.region [oT 70 14,
 oA 71 .add 70 (.c (oI 1)),
 oT 14 71]))
def xGo : ACode := xKt
def xC4 : List Nat := [0,1,7,8,15,16,17,18,19,20,21,22,23,24,25,26,27,28,29,30,31,32,33,34,35,36,37,38,39,40,41,42,43,44,45,46,47,48,49,50,51,52,53,54,55,56,57,58,59,60,61,62,63,64,65,66,67,68,69,70,71,72,73,74,75,76,77,78,79,80,81,82,83,84,85,86,87,88,89,90,91,92,93,94,95,96,97,98,99,100,101,102,103,104,105,106,107,108,109,110,111,112,113,114,115,116,117,118,119,120,121,122,123,124,125,126,127,128,129,130,131,132,133,134,135,136,137,138,139,140]
abbrev xFJ (s2 s3 s4 s5 s6 s9 s10 s11 s12 s13 s14 : AV) : List AV := [.any,.any,s2,s3,s4,s5,s6,.any,.any,s9,s10,s11,s12,s13,s14,.any,.any,.any,.any,.any,.any,.any,.any,.any,.any,.any,.any,.any,.any,.any,.any,.any,.any,.any,.any,.any,.any,.any,.any,.any,.any,.any,.any,.any,.any,.any,.any,.any,.any,.any,.any,.any,.any,.any,.any,.any,.any,.any,.any,.any,.any,.any,.any,.any,.any,.any,.any,.any,.any,.any,.any,.any,.any,.any,.any,.any,.any,.any,.any,.any,.any,.any,.any,.any,.any,.any,.any,.any,.any,.any,.any,.any,.any,.any,.any,.any,.any,.any,.any,.any,.any,.any,.any,.any,.any,.any,.any,.any,.any,.any,.any,.any,.any,.any,.any,.any,.any,.any,.any,.any,.any,.any,.any,.any,.any,.any,.any,.any,.any,.any,.any,.any,.any,.any,.any,.any,.any,.any,.any,.any,.any]
theorem xKu (s0 s1 s2 s3 s4 s5 s6 s7 s8 s9 s10 s11 s12 s13 s14 s15 s16 s17 s18 s19 s20 s21 s22 s23 s24 s25 s26 s27 s28 s29 s30 s31 s32 s33 s34 s35 s36 s37 s38 s39 s40 s41 s42 s43 s44 s45 s46 s47 s48 s49 s50 s51 s52 s53 s54 s55 s56 s57 s58 s59 s60 s61 s62 s63 s64 s65 s66 s67 s68 s69 s70 s71 s72 s73 s74 s75 s76 s77 s78 s79 s80 s81 s82 s83 s84 s85 s86 s87 s88 s89 s90 s91 s92 s93 s94 s95 s96 s97 s98 s99 s100 s101 s102 s103 s104 s105 s106 s107 s108 s109 s110 s111 s112 s113 s114 s115 s116 s117 s118 s119 s120 s121 s122 s123 s124 s125 s126 s127 s128 s129 s130 s131 s132 s133 s134 s135 s136 s137 s138 s139 s140 : AV) : xAp xC4 [s0,s1,s2,s3,s4,s5,s6,s7,s8,s9,s10,s11,s12,s13,s14,s15,s16,s17,s18,s19,s20,s21,s22,s23,s24,s25,s26,s27,s28,s29,s30,s31,s32,s33,s34,s35,s36,s37,s38,s39,s40,s41,s42,s43,s44,s45,s46,s47,s48,s49,s50,s51,s52,s53,s54,s55,s56,s57,s58,s59,s60,s61,s62,s63,s64,s65,s66,s67,s68,s69,s70,s71,s72,s73,s74,s75,s76,s77,s78,s79,s80,s81,s82,s83,s84,s85,s86,s87,s88,s89,s90,s91,s92,s93,s94,s95,s96,s97,s98,s99,s100,s101,s102,s103,s104,s105,s106,s107,s108,s109,s110,s111,s112,s113,s114,s115,s116,s117,s118,s119,s120,s121,s122,s123,s124,s125,s126,s127,s128,s129,s130,s131,s132,s133,s134,s135,s136,s137,s138,s139,s140] = xFJ s2 s3 s4 s5 s6 s9 s10 s11 s12 s13 s14 := by kernel_rfl
theorem xRK {prog : Nat → Option AFunc} (s2 s3 s4 s5 s6 s9 s10 s11 s12 s13 s14 : AV) (H : Heap) : (lim prog).loop xC4 xGo ⟨xFJ s2 s3 s4 s5 s6 s9 s10 s11 s12 s13 s14,H⟩ = xA2 (lim prog) xC4 xGo (run (lim prog) xKt ⟨xFJ s2 s3 s4 s5 s6 s9 s10 s11 s12 s13 s14,H⟩) := xAd _ _ _ _ (by kernel_rfl)
def xOd : ACode :=
 .seq (oR ([oT 48 11,
 oT 49 9,
 oN 50 49,
 oB 51 .lss 48 50])
 (.cond (.t 51)
 .skip
 (.exit 0)))
 (.seq (.block 1 (.seq (.draw 10 [oT 54 9,
 oT 55 11,
 oO 56 (.iaddr 2 (.t 54) (.t 55)),
 oO 57 (.arrat 1 2 (.t 56) (.c (oI 0))),
 oH 58 1 57,
 oT 59 9,
 oT 60 11,
 oO 61 (.iaddr 2 (.t 59) (.t 60)),
 oO 62 (.arrat 1 2 (.t 61) (.c (oI 1))),
 oH 63 1 62,
 oT 12 58,
 oT 13 63])
 (oR ([oM 14 (.c (oI 0))])
 (.block 2 (.loop xC4 xGo)))))
 (.region [oT 52 11,
 oA 53 .add 52 (.c (oI 1)),
 oT 11 53]))
def xME : ACode := xOd
def xES : List Nat := [0,1,7,8,12,13,14,15,16,17,18,19,20,21,22,23,24,25,26,27,28,29,30,31,32,33,34,35,36,37,38,39,40,41,42,43,44,45,46,47,48,49,50,51,52,53,54,55,56,57,58,59,60,61,62,63,64,65,66,67,68,69,70,71,72,73,74,75,76,77,78,79,80,81,82,83,84,85,86,87,88,89,90,91,92,93,94,95,96,97,98,99,100,101,102,103,104,105,106,107,108,109,110,111,112,113,114,115,116,117,118,119,120,121,122,123,124,125,126,127,128,129,130,131,132,133,134,135,136,137,138,139,140]
abbrev xH5 (s2 s3 s4 s5 s6 s9 s10 s11 : AV) : List AV := [.any,.any,s2,s3,s4,s5,s6,.any,.any,s9,s10,s11,.any,.any,.any,.any,.any,.any,.any,.any,.any,.any,.any,.any,.any,.any,.any,.any,.any,.any,.any,.any,.any,.any,.any,.any,.any,.any,.any,.any,.any,.any,.any,.any,.any,.any,.any,.any,.any,.any,.any,.any,.any,.any,.any,.any,.any,.any,.any,.any,.any,.any,.any,.any,.any,.any,.any,.any,.any,.any,.any,.any,.any,.any,.any,.any,.any,.any,.any,.any,.any,.any,.any,.any,.any,.any,.any,.any,.any,.any,.any,.any,.any,.any,.any,.any,.any,.any,.any,.any,.any,.any,.any,.any,.any,.any,.any,.any,.any,.any,.any,.any,.any,.any,.any,.any,.any,.any,.any,.any,.any,.any,.any,.any,.any,.any,.any,.any,.any,.any,.any,.any,.any,.any,.any,.any,.any,.any,.any,.any,.any]
theorem xOe (s0 s1 s2 s3 s4 s5 s6 s7 s8 s9 s10 s11 s12 s13 s14 s15 s16 s17 s18 s19 s20 s21 s22 s23 s24 s25 s26 s27 s28 s29 s30 s31 s32 s33 s34 s35 s36 s37 s38 s39 s40 s41 s42 s43 s44 s45 s46 s47 s48 s49 s50 s51 s52 s53 s54 s55 s56 s57 s58 s59 s60 s61 s62 s63 s64 s65 s66 s67 s68 s69 s70 s71 s72 s73 s74 s75 s76 s77 s78 s79 s80 s81 s82 s83 s84 s85 s86 s87 s88 s89 s90 s91 s92 s93 s94 s95 s96 s97 s98 s99 s100 s101 s102 s103 s104 s105 s106 s107 s108 s109 s110 s111 s112 s113 s114 s115 s116 s117 s118 s119 s120 s121 s122 s123 s124 s125 s126 s127 s128 s129 s130 s131 s132 s133 s134 s135 s136 s137 s138 s139 s140 : AV) : xAp xES [s0,s1,s2,s3,s4,s5,s6,s7,s8,s9,s10,s11,s12,s13,s14,s15,s16,s17,s18,s19,s20,s21,s22,s23,s24,s25,s26,s27,s28,s29,s30,s31,s32,s33,s34,s35,s36,s37,s38,s39,s40,s41,s42,s43,s44,s45,s46,s47,s48,s49,s50,s51,s52,s53,s54,s55,s56,s57,s58,s59,s60,s61,s62,s63,s64,s65,s66,s67,s68,s69,s70,s71,s72,s73,s74,s75,s76,s77,s78,s79,s80,s81,s82,s83,s84,s85,s86,s87,s88,s89,s90,s91,s92,s93,s94,s95,s96,s97,s98,s99,s100,s101,s102,s103,s104,s105,s106,s107,s108,s109,s110,s111,s112,s113,s114,s115,s116,s117,s118,s119,s120,s121,s122,s123,s124,s125,s126,s127,s128,s129,s130,s131,s132,s133,s134,s135,s136,s137,s138,s139,s140] = xH5 s2 s3 s4 s5 s6 s9 s10 s11 := by kernel_rfl
theorem xVQ {prog : Nat → Option AFunc} (s2 s3 s4 s5 s6 s9 s10 s11 : AV) (H : Heap) : (lim prog).loop xES xME ⟨xH5 s2 s3 s4 s5 s6 s9 s10 s11,H⟩ = xA2 (lim prog) xES xME (run (lim prog) xOd ⟨xH5 s2 s3 s4 s5 s6 s9 s10 s11,H⟩) := xAd _ _ _ _ (by kernel_rfl)
def a38 : AFunc := ⟨141,
 oR ([oX 2 (.t 0),
 oX 3 (.t 1),
 oM 4 (.c (oS)),
 oM 5 (.c (.bool false)),
 oM 6 (.c (oI 0))])
 (.seq (oR ([oG 19 5 2,
 oO 20 (.call 22 [.t 19]),
 oT 7 20])
 (oR ([oT 21 7,
 oA 22 .neq 21 (.c (oI 0))])
 (.cond (.t 22)
 (oR ([oT 23 7,
 oM 4 (.c (oS)),
 oM 5 (.c (.bool false)),
 oT 6 23])
 .ret)
 .skip)))
 (.seq (oR ([oG 24 5 3,
 oO 25 (.call 22 [.t 24]),
 oT 8 25])
 (oR ([oT 26 8,
 oA 27 .neq 26 (.c (oI 0))])
 (.cond (.t 27)
 (oR ([oT 28 8,
 oM 4 (.c (oS)),
 oM 5 (.c (.bool false)),
 oT 6 28])
 .ret)
 .skip)))
 (.seq (oR ([oF 29 0 2,
 oH 30 1 29,
 oF 31 0 3,
 oH 32 1 31,
 oB 33 .neq 30 32,
 oT 34 33,
 ⟨some 35,.faddr 1 (.t 2),some (34,false)⟩,
 ⟨some 36,.load false 1 (.t 35),some (34,false)⟩,
 ⟨some 37,.faddr 1 (.t 3),some (34,false)⟩,
 ⟨some 38,.load false 1 (.t 37),some (34,false)⟩,
 ⟨some 39,.bin .neq (.t 36) (.t 38),some (34,false)⟩,
 oO 40 (.pick (.t 34) (.c (.bool true)) (.t 39))])
 (.cond (.t 40)
 (oR ([oM 4 (.c (oS)),
 oM 5 (.c (.bool false)),
 oM 6 (.c (oI 7))])
 .ret)
 .skip))
 (oR ([oF 41 2 2,
 oH 42 1 41,
 oF 43 2 3,
 oH 44 1 43,
 oO 45 (.build [oI 0,oI 0] [(0,1,.t 42),(1,1,.t 44)]),
 oO 46 (.bslice false [oI 0,oI 0] 2 1 [(0,.t 45)]),
 oT 9 46])
 (oR ([oO 47 (.bslice false [oS] 1 1 [(0,(.c (oS)))]),
 oT 10 47])
 (.seq (oR ([oM 11 (.c (oI 0))])
 (.block 0 (.loop xES xME)))
 (oR ([oM 4 (.c (oS)),
 oM 5 (.c (.bool true)),
 oM 6 (.c (oI 0))])
 .ret))))))),
 [.tmp 4,.tmp 5,.tmp 6]⟩
def xOf : ACode :=
 .seq (oR ([oT 3 2,
 oT 4 0,
 oN 5 4,
 oB 6 .lss 3 5])
 (.cond (.t 6)
 .skip
 (.exit 0)))
 (.seq (.block 1 (.region [oT 9 0,
 oT 10 2,
 oO 11 (.iaddr 1 (.t 9) (.t 10)),
 oH 12 1 11,
 oO 13 (.icall (.c (.func 27 [])) [.t 12])]))
 (.region [oT 7 2,
 oA 8 .add 7 (.c (oI 1)),
 oT 2 8]))
def xVR : ACode := xOf
def xKv : List Nat := [1,3,4,5,6,7,8,9,10,11,12,13]
abbrev xH6 (s0 s2 : AV) : List AV := [s0,.any,s2,.any,.any,.any,.any,.any,.any,.any,.any,.any,.any,.any]
theorem xOg (s0 s1 s2 s3 s4 s5 s6 s7 s8 s9 s10 s11 s12 s13 : AV) : xAp xKv [s0,s1,s2,s3,s4,s5,s6,s7,s8,s9,s10,s11,s12,s13] = xH6 s0 s2 := by kernel_rfl
theorem xVS {prog : Nat → Option AFunc} (s0 s2 : AV) (H : Heap) : (lim prog).loop xKv xVR ⟨xH6 s0 s2,H⟩ = xA2 (lim prog) xKv xVR (run (lim prog) xOf ⟨xH6 s0 s2,H⟩) := xAd _ _ _ _ (by kernel_rfl)
def a39 : AFunc := ⟨14,
 oR ([oM 2 (.c (oI 0))])
 (.block 0 (.loop xKv xVR)),
 []⟩
def xOh : ACode :=
 .seq (oR ([oT 3 2,
 oT 4 0,
 oN 5 4,
 oB 6 .lss 3 5])
 (.cond (.t 6)
 .skip
 (.exit 0)))
 (.seq (.block 1 (.region [oT 9 0,
 oT 10 2,
 oO 11 (.iaddr 1 (.t 9) (.t 10)),
 oH 12 1 11,
 oO 13 (.icall (.c (.func 26 [])) [.t 12])]))
 (.region [oT 7 2,
 oA 8 .add 7 (.c (oI 1)),
 oT 2 8]))
def xVT : ACode := xOh
def xKw : List Nat := [1,3,4,5,6,7,8,9,10,11,12,13]
abbrev xH7 (s0 s2 : AV) : List AV := [s0,.any,s2,.any,.any,.any,.any,.any,.any,.any,.any,.any,.any,.any]
theorem xOi (s0 s1 s2 s3 s4 s5 s6 s7 s8 s9 s10 s11 s12 s13 : AV) : xAp xKw [s0,s1,s2,s3,s4,s5,s6,s7,s8,s9,s10,s11,s12,s13] = xH7 s0 s2 := by kernel_rfl
theorem xVU {prog : Nat → Option AFunc} (s0 s2 : AV) (H : Heap) : (lim prog).loop xKw xVT ⟨xH7 s0 s2,H⟩ = xA2 (lim prog) xKw xVT (run (lim prog) xOh ⟨xH7 s0 s2,H⟩) := xAd _ _ _ _ (by kernel_rfl)
def a40 : AFunc := ⟨14,
 oR ([oM 2 (.c (oI 0))])
 (.block 0 (.loop xKw xVT)),
 []⟩
def a42 : AFunc := ⟨5,
 oR ([oX 0 (.c (.agg [oI 0,oI 0,oI 0,oS,oS]))])
 (oR ([oO 1 (.bslice true [.int .u8 0] 1 1 [(0,(.c (.int .u8 1)))]),
 oO 2 (.bslice true [oI 0] 1 2 [(0,(.c (oI 0))),(1,(.c (oI 0)))]),
 oO 3 (.bslice true [oS] 1 1 [(0,.t 2)]),
 oO 4 (.build [oI 0,oI 0,oI 0,oS,oS] [(0,1,(.c (oI 1))),(1,1,(.c (oI 1))),(3,1,.t 1),(4,1,.t 3)]),
 ⟨none,.store 5 (.t 0) (.t 4),none⟩])
 .ret),
 [.cell 0 true 5]⟩
def a43 : AFunc := ⟨6,
 oR ([oX 0 (.c (.agg [oI 0,oI 0,oI 0,oS,oS]))])
 (oR ([oO 1 (.bslice true [oI 0] 1 2 [(0,(.c (oI 0))),(1,(.c (oI 0)))]),
 oO 2 (.bslice true [oS] 1 1 [(0,.t 1)]),
 oO 3 (.bslice true [.int .u8 0] 1 2 [(0,(.c (.int .u8 1))),(1,(.c (.int .u8 0)))]),
 oO 4 (.bslice true [oS] 1 1 [(0,.t 3)]),
 oO 5 (.build [oI 0,oI 0,oI 0,oS,oS] [(0,1,(.c (oI 1))),(1,1,(.c (oI 1))),(3,1,.t 2),(4,1,.t 4)]),
 ⟨none,.store 5 (.t 0) (.t 5),none⟩])
 .ret),
 [.cell 0 true 5]⟩
def a45 : AFunc := ⟨40,
 oR ([oX 2 (.t 0),
 oX 3 (.t 1),
 oM 4 (.c (oI 0))])
 (.seq (.block 0 (oR ([oH 7 1 3,
 oA 8 .lss 7 (.c (oI 0)),
 oT 9 8,
 ⟨some 10,.load false 1 (.t 3),some (9,false)⟩,
 ⟨some 11,.bin .gtr (.t 10) (.c (oI 6)),some (9,false)⟩,
 oO 12 (.pick (.t 9) (.c (.bool true)) (.t 11)),
 oT 6 12])
 (.cond (.t 6)
 (oR ([oM 4 (.c (oI 7))])
 .ret)
 (oR ([oF 14 1 2,
 oH 15 1 14,
 oN 16 15,
 oA 17 .eql 16 (.c (oI 0)),
 oT 13 17])
 (.cond (.t 13)
 (oR ([oM 4 (.c (oI 3))])
 .ret)
 (oR ([oF 19 0 2,
 oH 20 1 19,
 oN 21 20,
 oA 22 .gtr 21 (.c (oI 64)),
 oT 23 22,
 ⟨some 24,.faddr 1 (.t 2),some (23,false)⟩,
 ⟨some 25,.load false 1 (.t 24),some (23,false)⟩,
 ⟨some 26,.len (.t 25),some (23,false)⟩,
 ⟨some 27,.bin .gtr (.t 26) (.c (oI 64)),some (23,false)⟩,
 oO 28 (.pick (.t 23) (.c (.bool true)) (.t 27)),
 oT 18 28])
 (.cond (.t 18)
 (oR ([oM 4 (.c (oI 4))])
 .ret)
 .skip)))))))
 (oR ([oO 29 (.mkfunc 80 [.t 3]),
 oT 5 29])
 (.seq (oR ([oF 30 0 2,
 oH 31 1 30,
 oT 32 5,
 oO 33 (.icall (.c (.func 52 [])) [.t 31,.t 32]),
 oT 34 33,
 ⟨some 35,.faddr 1 (.t 2),some (34,false)⟩,
 ⟨some 36,.load false 1 (.t 35),some (34,false)⟩,
 ⟨some 37,.mov (.t 5),some (34,false)⟩,
 ⟨some 38,.icall (.c (.func 52 [])) [.t 36,.t 37],some (34,false)⟩,
 oO 39 (.pick (.t 34) (.c (.bool true)) (.t 38))])
 (.cond (.t 39)
 (oR ([oM 4 (.c (oI 1))])
 .ret)
 .skip))
 (oR ([oM 4 (.c (oI 0))])
 .ret)))),
 [.tmp 4]⟩
def a47 : AFunc := ⟨29,
 oR ([oX 2 (.t 0),
 oM 4 (.c (.int .u8 0))])
 (.seq (oR ([oT 6 1,
 oA 7 .lss 6 (.c (oI 0))])
 (.cond (.t 7)
 (oR ([oM 4 (.c (.int .u8 0))])
 .ret)
 .skip))
 (oR ([oG 8 2 2,
 oO 9 (.call 77 [.t 8]),
 ⟨none,.store 2 (.t 2) (.t 9),none⟩])
 (.seq (.seq (.draw 6 [oG 10 2 2,
 oT 11 1,
 oO 12 (.call 55 [.t 10,.t 11]),
 oF 13 0 2,
 oH 14 1 13,
 oN 15 14,
 oB 16 .sub 12 15,
 oT 5 16])
 (oR ([oT 17 5,
 oA 18 .geq 17 (.c (oI 0))])
 (.cond (.t 18)
 (oR ([oF 19 1 2,
 oH 20 1 19,
 oT 21 5,
 oO 22 (.iaddr 1 (.t 20) (.t 21)),
 oH 23 1 22,
 oT 4 23])
 .ret)
 .skip)))
 (oR ([oF 24 0 2,
 oH 25 1 24,
 oT 26 1,
 oO 27 (.iaddr 1 (.t 25) (.t 26)),
 oH 28 1 27,
 oT 4 28])
 .ret)))),
 [.tmp 4]⟩
def yEA : ACode :=
 .seq (oR ([oT 16 4,
 oA 17 .gtr 16 (.c (oI 0))])
 (.cond (.t 17)
 .skip
 (.exit 0)))
 (.block 1 (.seq (.seq (.draw 9 [oF 18 0 1,
 oH 19 1 18,
 oT 20 4,
 oA 21 .sub 20 (.c (oI 1)),
 oO 22 (.iaddr 1 (.t 19) (.t 21)),
 oH 23 1 22,
 oT 24 3,
 oT 25 5,
 oA 26 .sub 25 (.c (oI 1)),
 oT 27 3,
 oN 28 27,
 oB 29 .rem 26 28,
 oO 30 (.iaddr 1 (.t 24) (.t 29)),
 oH 31 1 30,
 oB 32 .neq 23 31])
 (.cond (.t 32)
 (.exit 0)
 .skip))
 (oR ([oT 33 4,
 oA 34 .sub 33 (.c (oI 1)),
 oT 4 34])
 (oR ([oT 35 5,
 oA 36 .sub 35 (.c (oI 1)),
 oT 5 36])
 (oR ([oT 37 5,
 oA 38 .eql 37 (.c (oI 0))])
 (.cond (.t 38)
 (.region [oT 39 3,
 oN 40 39,
 oT 5 40])
 .skip))))))
def yGn : ACode := yEA
def yEB : List Nat := [0,6,7,8,9,10,11,12,13,14,15,16,17,18,19,20,21,22,23,24,25,26,27,28,29,30,31,32,33,34,35,36,37,38,39,40,41,42,43,44,45,46,47,48,49,50,51,52,53,54,55,56,57,58]
def a49 : AFunc := ⟨59,
 oR ([oX 1 (.t 0),
 oX 2 (.c (.agg [oS,oS]))])
 (.scope (oR ([oG 6 2 1,
 oO 7 (.call 77 [.t 6]),
 ⟨none,.store 2 (.t 1) (.t 7),none⟩])
 (.seq (.draw 6 [oF 8 1 1,
 oH 9 1 8,
 oO 10 (.call 83 [.t 9]),
 oF 11 0 1,
 oH 12 1 11,
 oN 13 12,
 oT 3 10,
 oT 4 13])
 (oR ([oT 14 3,
 oN 15 14,
 oT 5 15])
 (.seq (.label)
 (.seq (.block 0 (.loop yEB yGn))
 (oR ([oT 41 5,
 oT 42 3,
 oN 43 42,
 oB 44 .rem 41 43,
 oT 5 44])
 (.seq (.drawp [] [] 12 [oF 45 0 1,
 oH 46 1 45,
 oT 47 4,
 oO 48 (.slice 1 (.t 46) none (some (.t 47)) none),
 oO 49 (.ocall 72 [.t 48]),
 oT 50 3,
 oT 51 5,
 oO 52 (.slice 1 (.t 50) (some (.t 51)) none none),
 oT 53 3,
 oT 54 5,
 oO 55 (.slice 1 (.t 53) none (some (.t 54)) none),
 oO 56 (.bslice true [oS] 1 2 [(0,.t 52),(1,.t 55)]),
 oO 57 (.ocall 76 [.t 56]),
 oO 58 (.build [oS,oS] [(0,1,.t 49),(1,1,.t 57)]),
 ⟨none,.store 2 (.t 2) (.t 58),none⟩])
 .ret)))))))),
 [.cell 2 true 2]⟩
def xRL : ACode :=
 .seq (oR ([oT 5 4,
 oT 6 0,
 oN 7 6,
 oB 8 .lss 5 7])
 (.cond (.t 8)
 .skip
 (.exit 0)))
 (.seq (.block 1 (.region [oT 11 3,
 oT 12 0,
 oT 13 4,
 oO 14 (.iaddr 1 (.t 12) (.t 13)),
 oH 15 1 14,
 oO 16 (.call 84 [.t 15]),
 oO 17 (.bslice true [oS] 1 1 [(0,.t 16)]),
 oO 18 (.append false 1 24 (.t 11) (.t 17)),
 oT 3 18]))
 (.region [oT 9 4,
 oA 10 .add 9 (.c (oI 1)),
 oT 4 10]))
def xZO : ACode := xRL
def xOj : List Nat := [1,2,5,6,7,8,9,10,11,12,13,14,15,16,17,18,19]
abbrev xOk (s0 s3 s4 : AV) : List AV := [s0,.any,.any,s3,s4,.any,.any,.any,.any,.any,.any,.any,.any,.any,.any,.any,.any,.any,.any,.any]
theorem xVV (s0 s1 s2 s3 s4 s5 s6 s7 s8 s9 s10 s11 s12 s13 s14 s15 s16 s17 s18 s19 : AV) : xAp xOj [s0,s1,s2,s3,s4,s5,s6,s7,s8,s9,s10,s11,s12,s13,s14,s15,s16,s17,s18,s19] = xOk s0 s3 s4 := by kernel_rfl
theorem yBb {prog : Nat → Option AFunc} (s0 s3 s4 : AV) (H : Heap) : (lim prog).loop xOj xZO ⟨xOk s0 s3 s4,H⟩ = xA2 (lim prog) xOj xZO (run (lim prog) xRL ⟨xOk s0 s3 s4,H⟩) := xAd _ _ _ _ (by kernel_rfl)
def a50 : AFunc := ⟨20,
 oR ([oM 2 (.c (oS))])
 (oR ([oM 3 (.c (oS))])
 (.seq (oR ([oM 4 (.c (oI 0))])
 (.block 0 (.loop xOj xZO)))
 (oR ([oT 19 3,
 oT 2 19])
 .ret))),
 [.tmp 2]⟩
def xRM : ACode :=
 .seq (oR ([oT 5 4,
 oT 6 0,
 oN 7 6,
 oB 8 .lss 5 7])
 (.cond (.t 8)
 .skip
 (.exit 0)))
 (.seq (.block 1 (.region [oT 11 3,
 oT 12 0,
 oT 13 4,
 oO 14 (.iaddr 1 (.t 12) (.t 13)),
 oH 15 1 14,
 oO 16 (.call 15 [.t 15]),
 oO 17 (.bslice true [oS] 1 1 [(0,.t 16)]),
 oO 18 (.append false 1 24 (.t 11) (.t 17)),
 oT 3 18]))
 (.region [oT 9 4,
 oA 10 .add 9 (.c (oI 1)),
 oT 4 10]))
def xZP : ACode := xRM
def xOl : List Nat := [1,2,5,6,7,8,9,10,11,12,13,14,15,16,17,18,19]
abbrev xOm (s0 s3 s4 : AV) : List AV := [s0,.any,.any,s3,s4,.any,.any,.any,.any,.any,.any,.any,.any,.any,.any,.any,.any,.any,.any,.any]
theorem xVW (s0 s1 s2 s3 s4 s5 s6 s7 s8 s9 s10 s11 s12 s13 s14 s15 s16 s17 s18 s19 : AV) : xAp xOl [s0,s1,s2,s3,s4,s5,s6,s7,s8,s9,s10,s11,s12,s13,s14,s15,s16,s17,s18,s19] = xOm s0 s3 s4 := by kernel_rfl
theorem yBc {prog : Nat → Option AFunc} (s0 s3 s4 : AV) (H : Heap) : (lim prog).loop xOl xZP ⟨xOm s0 s3 s4,H⟩ = xA2 (lim prog) xOl xZP (run (lim prog) xRM ⟨xOm s0 s3 s4,H⟩) := xAd _ _ _ _ (by kernel_rfl)
def a51 : AFunc := ⟨20,
 oR ([oM 2 (.c (oS))])
 (oR ([oM 3 (.c (oS))])
 (.seq (oR ([oM 4 (.c (oI 0))])
 (.block 0 (.loop xOl xZP)))
 (oR ([oT 19 3,
 oT 2 19])
 .ret))),
 [.tmp 2]⟩
def a52 : AFunc := ⟨9,
 oR ([oM 4 (.c (.bool false))])
 (oR ([oT 5 0,
 oT 6 1,
 oO 7 (.icall (.c (.func 85 [])) [.t 5,.t 6]),
 oA 8 .geq 7 (.c (oI 0)),
 oT 4 8])
 .ret),
 [.tmp 4]⟩
def a53 : AFunc := ⟨10,
 oR ([oM 3 (.c (.bool false))])
 (oR ([oT 4 0,
 oO 5 (.conv .i64 (.t 4)),
 oF 6 0 1,
 oH 7 1 6,
 oO 8 (.bin .shl (.c (oI 1)) (.t 7)),
 oB 9 .geq 5 8,
 oT 3 9])
 .ret),
 [.tmp 3]⟩
def a54 : AFunc := ⟨52,
 oR ([oX 3 (.t 1),
 oX 4 (.c (.agg [oS,oS])),
 oM 5 (.c (.bool false))])
 (.seq (oR ([oT 8 0,
 oO 9 (.nilchk (.t 8)),
 oF 10 0 9,
 oH 11 1 10,
 oO 12 (.mnil false (.t 11))])
 (.cond (.t 12)
 (.region [oT 13 0,
 oO 14 (.mkmap),
 oO 15 (.nilchk (.t 13)),
 oF 16 0 15,
 ⟨none,.store 1 (.t 16) (.t 14),none⟩])
 .skip))
 (.seq (.seq (.draw 9 [oT 18 0,
 oO 19 (.nilchk (.t 18)),
 oF 20 0 19,
 oH 21 1 20,
 oG 22 2 3,
 oO 23 (.mlook [2,0,0] true (oI 0) (.t 21) (.t 22)),
 oT 17 23,
 oO 24 (.ext 0 (.t 17)),
 oO 25 (.ext 1 (.t 17)),
 oT 6 24,
 oT 7 25])
 (oR ([oT 26 7])
 (.cond (.t 26)
 (.seq (.drawp [] [] 10 [oT 27 0,
 oO 28 (.nilchk (.t 27)),
 oF 29 1 28,
 oH 30 1 29,
 oT 31 6,
 oO 32 (.slice 1 (.t 30) none (some (.t 31)) none),
 oT 33 0,
 oO 34 (.nilchk (.t 33)),
 oF 35 1 34,
 oH 36 1 35,
 oT 37 6,
 oO 38 (.slice 1 (.t 36) (some (.t 37)) none none),
 oO 39 (.build [oS,oS] [(0,1,.t 32),(1,1,.t 38)]),
 oO 40 (.ocall 49 [.t 39]),
 ⟨none,.store 2 (.t 4) (.t 40),none⟩,
 oM 5 (.c (.bool true))])
 .ret)
 .skip)))
 (.seq (.draw 5 [oT 41 0,
 oO 42 (.nilchk (.t 41)),
 oF 43 0 42,
 oH 44 1 43,
 oG 45 2 3,
 oT 46 0,
 oO 47 (.nilchk (.t 46)),
 oF 48 1 47,
 oH 49 1 48,
 oN 50 49,
 ⟨none,.mupd [2,0,0] (.t 44) (.t 45) (.t 50),none⟩])
 (oR ([oO 51 (.build [oS,oS] []),
 ⟨none,.store 2 (.t 4) (.t 51),none⟩,
 oM 5 (.c (.bool false))])
 .ret)))),
 [.cell 4 true 2,.tmp 5]⟩
def a55 : AFunc := ⟨24,
 oR ([oX 2 (.t 0),
 oM 4 (.c (oI 0))])
 (oR ([oF 6 0 2,
 oH 7 1 6,
 oN 8 7,
 oT 5 8])
 (.seq (oR ([oT 9 1,
 oT 10 5,
 oB 11 .lss 9 10])
 (.cond (.t 11)
 (oR ([oT 12 1,
 oO 13 (.maxi (.t 12) (.c (oI 0))),
 oT 4 13])
 .ret)
 .skip))
 (oR ([oT 14 5,
 oT 15 1,
 oT 16 5,
 oB 17 .sub 15 16,
 oF 18 1 2,
 oH 19 1 18,
 oN 20 19,
 oO 21 (.maxi (.t 20) (.c (oI 1))),
 oB 22 .rem 17 21,
 oB 23 .add 14 22,
 oT 4 23])
 .ret))),
 [.tmp 4]⟩
def a59 : AFunc := ⟨46,
 oR ([oM 10 (.c (oI 0))])
 (.seq (.block 0 (oR ([oT 12 0,
 oA 13 .lss 12 (.c (oI 0)),
 oT 14 13,
 ⟨some 15,.mov (.t 1),some (14,false)⟩,
 ⟨some 16,.bin .lss (.t 15) (.c (oI 0)),some (14,false)⟩,
 oO 17 (.pick (.t 14) (.c (.bool true)) (.t 16)),
 oT 18 17,
 ⟨some 19,.mov (.t 0),some (18,false)⟩,
 ⟨some 20,.bin .gtr (.t 19) (.c (oI 6)),some (18,false)⟩,
 oO 21 (.pick (.t 18) (.c (.bool true)) (.t 20)),
 oT 22 21,
 ⟨some 23,.mov (.t 1),some (22,false)⟩,
 ⟨some 24,.mov (.t 0),some (22,false)⟩,
 ⟨some 25,.bin .sub (.c (oI 6)) (.t 24),some (22,false)⟩,
 ⟨some 26,.bin .gtr (.t 23) (.t 25),some (22,false)⟩,
 oO 27 (.pick (.t 22) (.c (.bool true)) (.t 26)),
 oT 11 27])
 (.cond (.t 11)
 (oR ([oM 10 (.c (oI 7))])
 .ret)
 (oR ([oT 29 2,
 oA 30 .eql 29 (.c (oI 0)),
 oT 28 30])
 (.cond (.t 28)
 (oR ([oM 10 (.c (oI 3))])
 .ret)
 (oR ([oT 32 2,
 oA 33 .gtr 32 (.c (oI 4096)),
 oT 31 33])
 (.cond (.t 31)
 (oR ([oM 10 (.c (oI 10))])
 .ret)
 (oR ([oT 35 3,
 oT 36 2,
 oB 37 .neq 35 36,
 oT 34 37])
 (.cond (.t 34)
 (oR ([oM 10 (.c (oI 2))])
 .ret)
 (oR ([oT 39 4,
 oA 40 .lss 39 (.c (oI 0)),
 oT 41 40,
 ⟨some 42,.mov (.t 4),some (41,false)⟩,
 ⟨some 43,.mov (.t 2),some (41,false)⟩,
 ⟨some 44,.bin .geq (.t 42) (.t 43),some (41,false)⟩,
 oO 45 (.pick (.t 41) (.c (.bool true)) (.t 44)),
 oT 38 45])
 (.cond (.t 38)
 (oR ([oM 10 (.c (oI 8))])
 .ret)
 .skip)))))))))))
 (oR ([oM 10 (.c (oI 0))])
 .ret)),
 [.tmp 10]⟩
def a60 : AFunc := ⟨8,
 oR ([oX 3 (.t 1),
 oM 4 (.c (.bool false))])
 (oR ([oT 5 0,
 oO 6 (.mkfunc 91 [.t 3]),
 oO 7 (.icall (.c (.func 90 [])) [.t 5,.t 6]),
 oT 4 7])
 .ret),
 [.tmp 4]⟩
def xRN : ACode :=
 .seq (oR ([oT 12 4,
 oT 13 0,
 oN 14 13,
 oB 15 .lss 12 14])
 (.cond (.t 15)
 .skip
 (.exit 0)))
 (.seq (.block 1 (.region [oT 18 3,
 oT 19 0,
 oT 20 4,
 oO 21 (.iaddr 1 (.t 19) (.t 20)),
 oH 22 1 21,
 oO 23 (.maxi (.t 18) (.t 22)),
 oT 3 23]))
 (.region [oT 16 4,
 oA 17 .add 16 (.c (oI 1)),
 oT 4 17]))
def xZQ : ACode := xRN
def xOn : List Nat := [1,2,5,6,7,8,9,10,11,12,13,14,15,16,17,18,19,20,21,22,23,24]
abbrev xOo (s0 s3 s4 : AV) : List AV := [s0,.any,.any,s3,s4,.any,.any,.any,.any,.any,.any,.any,.any,.any,.any,.any,.any,.any,.any,.any,.any,.any,.any,.any,.any]
theorem xVX (s0 s1 s2 s3 s4 s5 s6 s7 s8 s9 s10 s11 s12 s13 s14 s15 s16 s17 s18 s19 s20 s21 s22 s23 s24 : AV) : xAp xOn [s0,s1,s2,s3,s4,s5,s6,s7,s8,s9,s10,s11,s12,s13,s14,s15,s16,s17,s18,s19,s20,s21,s22,s23,s24] = xOo s0 s3 s4 := by kernel_rfl
theorem yBd {prog : Nat → Option AFunc} (s0 s3 s4 : AV) (H : Heap) : (lim prog).loop xOn xZQ ⟨xOo s0 s3 s4,H⟩ = xA2 (lim prog) xOn xZQ (run (lim prog) xRN ⟨xOo s0 s3 s4,H⟩) := xAd _ _ _ _ (by kernel_rfl)
def a61 : AFunc := ⟨25,
 oR ([oM 2 (.c (.int .u8 0))])
 (.seq (oR ([oT 5 0,
 oN 6 5,
 oA 7 .lss 6 (.c (oI 1))])
 (.cond (.t 7)
 (.stuck)
 .skip))
 (oR ([oT 9 0,
 oO 10 (.iaddr 1 (.t 9) (.c (oI 0))),
 oH 11 1 10,
 oT 3 11])
 (.seq (oR ([oM 4 (.c (oI 1))])
 (.block 0 (.loop xOn xZQ)))
 (oR ([oT 24 3,
 oT 2 24])
 .ret)))),
 [.tmp 2]⟩
def a62 : AFunc := ⟨25,
 oR ([oM 4 (.c (oI 0))])
 (.seq (oR ([oT 5 0,
 oA 6 .lss 5 (.c (oI 0)),
 oT 7 6,
 ⟨some 8,.mov (.t 1),some (7,false)⟩,
 ⟨some 9,.bin .lss (.t 8) (.c (oI 0)),some (7,false)⟩,
 oO 10 (.pick (.t 7) (.c (.bool true)) (.t 9)),
 oT 11 10,
 ⟨some 12,.mov (.t 0),some (11,false)⟩,
 ⟨some 13,.bin .gtr (.t 12) (.c (oI 6)),some (11,false)⟩,
 oO 14 (.pick (.t 11) (.c (.bool true)) (.t 13)),
 oT 15 14,
 ⟨some 16,.mov (.t 1),some (15,false)⟩,
 ⟨some 17,.bin .gtr (.t 16) (.c (oI 6)),some (15,false)⟩,
 oO 18 (.pick (.t 15) (.c (.bool true)) (.t 17)),
 oT 19 18,
 ⟨some 20,.mov (.t 0),some (19,false)⟩,
 ⟨some 21,.mov (.t 1),some (19,false)⟩,
 ⟨some 22,.bin .add (.t 20) (.t 21),some (19,false)⟩,
 ⟨some 23,.bin .gtr (.t 22) (.c (oI 6)),some (19,false)⟩,
 oO 24 (.pick (.t 19) (.c (.bool true)) (.t 23))])
 (.cond (.t 24)
 (oR ([oM 4 (.c (oI 7))])
 .ret)
 .skip))
 (oR ([oM 4 (.c (oI 0))])
 .ret)),
 [.tmp 4]⟩
def a63 : AFunc := ⟨25,
 oR ([oM 6 (.c (oI 0))])
 (.seq (oR ([oT 7 0,
 oN 8 7,
 oA 9 .eql 8 (.c (oI 0))])
 (.cond (.t 9)
 (oR ([oM 6 (.c (oI 3))])
 .ret)
 .skip))
 (.seq (oR ([oT 10 0,
 oN 11 10,
 oA 12 .gtr 11 (.c (oI 4096))])
 (.cond (.t 12)
 (oR ([oM 6 (.c (oI 10))])
 .ret)
 .skip))
 (.seq (oR ([oT 13 1,
 oT 14 0,
 oN 15 14,
 oB 16 .neq 13 15])
 (.cond (.t 16)
 (oR ([oM 6 (.c (oI 2))])
 .ret)
 .skip))
 (.seq (oR ([oT 17 2,
 oA 18 .lss 17 (.c (oI 0)),
 oT 19 18,
 ⟨some 20,.mov (.t 2),some (19,false)⟩,
 ⟨some 21,.mov (.t 0),some (19,false)⟩,
 ⟨some 22,.len (.t 21),some (19,false)⟩,
 ⟨some 23,.bin .geq (.t 20) (.t 22),some (19,false)⟩,
 oO 24 (.pick (.t 19) (.c (.bool true)) (.t 23))])
 (.cond (.t 24)
 (oR ([oM 6 (.c (oI 8))])
 .ret)
 .skip))
 (oR ([oM 6 (.c (oI 0))])
 .ret))))),
 [.tmp 6]⟩
def xH8 : ACode :=
 .seq (oR ([oT 6 5,
 oT 7 0,
 oN 8 7,
 oB 9 .lss 6 8])
 (.cond (.t 9)
 .skip
 (.exit 0)))
 (.seq (.block 1 (oR ([oT 12 0,
 oT 13 5,
 oO 14 (.iaddr 1 (.t 12) (.t 13)),
 oH 15 1 14,
 oA 16 .lss 15 (.c (oI 0)),
 oT 17 16,
 ⟨some 18,.mov (.t 0),some (17,false)⟩,
 ⟨some 19,.mov (.t 5),some (17,false)⟩,
 ⟨some 20,.iaddr 1 (.t 18) (.t 19),some (17,false)⟩,
 ⟨some 21,.load false 1 (.t 20),some (17,false)⟩,
 ⟨some 22,.mov (.t 1),some (17,false)⟩,
 ⟨some 23,.bin .geq (.t 21) (.t 22),some (17,false)⟩,
 oO 24 (.pick (.t 17) (.c (.bool true)) (.t 23))])
 (.cond (.t 24)
 (oR ([oM 4 (.c (.bool false))])
 .ret)
 .skip)))
 (.region [oT 10 5,
 oA 11 .add 10 (.c (oI 1)),
 oT 5 11]))
def xZR : ACode := xH8
def xOp : List Nat := [2,3,6,7,8,9,10,11,12,13,14,15,16,17,18,19,20,21,22,23,24]
abbrev xKx (s0 s1 s4 s5 : AV) : List AV := [s0,s1,.any,.any,s4,s5,.any,.any,.any,.any,.any,.any,.any,.any,.any,.any,.any,.any,.any,.any,.any,.any,.any,.any,.any]
theorem xH9 (s0 s1 s2 s3 s4 s5 s6 s7 s8 s9 s10 s11 s12 s13 s14 s15 s16 s17 s18 s19 s20 s21 s22 s23 s24 : AV) : xAp xOp [s0,s1,s2,s3,s4,s5,s6,s7,s8,s9,s10,s11,s12,s13,s14,s15,s16,s17,s18,s19,s20,s21,s22,s23,s24] = xKx s0 s1 s4 s5 := by kernel_rfl
theorem xRO {prog : Nat → Option AFunc} (s0 s1 s4 s5 : AV) (H : Heap) : (lim prog).loop xOp xZR ⟨xKx s0 s1 s4 s5,H⟩ = xA2 (lim prog) xOp xZR (run (lim prog) xH8 ⟨xKx s0 s1 s4 s5,H⟩) := xAd _ _ _ _ (by kernel_rfl)
def a64 : AFunc := ⟨25,
 oR ([oM 4 (.c (.bool false))])
 (.seq (oR ([oM 5 (.c (oI 0))])
 (.block 0 (.loop xOp xZR)))
 (oR ([oM 4 (.c (.bool true))])
 .ret)),
 [.tmp 4]⟩
def yEC : ACode :=
 .seq (oR ([oT 11 5,
 oT 12 0,
 oN 13 12,
 oB 14 .lss 11 13])
 (.cond (.t 14)
 .skip
 (.exit 0)))
 (.seq (.block 1 (.seq (.draw 5 [oT 17 0,
 oT 18 5,
 oO 19 (.iaddr 1 (.t 17) (.t 18)),
 oH 20 1 19,
 oT 21 1,
 oT 22 5,
 oO 23 (.iaddr 1 (.t 21) (.t 22)),
 oH 24 1 23,
 oB 25 .neq 20 24])
 (.cond (.t 25)
 (oR ([oM 4 (.c (.bool false))])
 .ret)
 .skip)))
 (.region [oT 15 5,
 oA 16 .add 15 (.c (oI 1)),
 oT 5 16]))
def yGo : ACode := yEC
def yED : List Nat := [2,3,6,7,8,9,10,11,12,13,14,15,16,17,18,19,20,21,22,23,24,25]
def a65 : AFunc := ⟨26,
 oR ([oM 4 (.c (.bool false))])
 (.seq (oR ([oT 6 0,
 oN 7 6,
 oT 8 1,
 oN 9 8,
 oB 10 .neq 7 9])
 (.cond (.t 10)
 (oR ([oM 4 (.c (.bool false))])
 .ret)
 .skip))
 (.seq (oR ([oM 5 (.c (oI 0))])
 (.block 0 (.loop yED yGo)))
 (oR ([oM 4 (.c (.bool true))])
 .ret))),
 [.tmp 4]⟩
def xKy : ACode :=
 .seq (oR ([oT 11 5,
 oT 12 0,
 oN 13 12,
 oB 14 .lss 11 13])
 (.cond (.t 14)
 .skip
 (.exit 0)))
 (.seq (.block 1 (.seq (.draw 5 [oT 17 0,
 oT 18 5,
 oO 19 (.iaddr 1 (.t 17) (.t 18)),
 oH 20 1 19,
 oT 21 1,
 oT 22 5,
 oO 23 (.iaddr 1 (.t 21) (.t 22)),
 oH 24 1 23,
 oO 25 (.call 24 [.t 20,.t 24]),
 oO 26 (.un .not (.t 25))])
 (.cond (.t 26)
 (oR ([oM 4 (.c (.bool false))])
 .ret)
 .skip)))
 (.region [oT 15 5,
 oA 16 .add 15 (.c (oI 1)),
 oT 5 16]))
def xZS : ACode := xKy
def xOq : List Nat := [2,3,6,7,8,9,10,11,12,13,14,15,16,17,18,19,20,21,22,23,24,25,26]
abbrev xKz (s0 s1 s4 s5 : AV) : List AV := [s0,s1,.any,.any,s4,s5,.any,.any,.any,.any,.any,.any,.any,.any,.any,.any,.any,.any,.any,.any,.any,.any,.any,.any,.any,.any,.any]
theorem xKA (s0 s1 s2 s3 s4 s5 s6 s7 s8 s9 s10 s11 s12 s13 s14 s15 s16 s17 s18 s19 s20 s21 s22 s23 s24 s25 s26 : AV) : xAp xOq [s0,s1,s2,s3,s4,s5,s6,s7,s8,s9,s10,s11,s12,s13,s14,s15,s16,s17,s18,s19,s20,s21,s22,s23,s24,s25,s26] = xKz s0 s1 s4 s5 := by kernel_rfl
theorem xVY {prog : Nat → Option AFunc} (s0 s1 s4 s5 : AV) (H : Heap) : (lim prog).loop xOq xZS ⟨xKz s0 s1 s4 s5,H⟩ = xA2 (lim prog) xOq xZS (run (lim prog) xKy ⟨xKz s0 s1 s4 s5,H⟩) := xAd _ _ _ _ (by kernel_rfl)
def a66 : AFunc := ⟨27,
 oR ([oM 4 (.c (.bool false))])
 (.seq (oR ([oT 6 0,
 oN 7 6,
 oT 8 1,
 oN 9 8,
 oB 10 .neq 7 9])
 (.cond (.t 10)
 (oR ([oM 4 (.c (.bool false))])
 .ret)
 .skip))
 (.seq (oR ([oM 5 (.c (oI 0))])
 (.block 0 (.loop xOq xZS)))
 (oR ([oM 4 (.c (.bool true))])
 .ret))),
 [.tmp 4]⟩
def xKB : ACode :=
 .seq (oR ([oT 11 5,
 oT 12 0,
 oN 13 12,
 oB 14 .lss 11 13])
 (.cond (.t 14)
 .skip
 (.exit 0)))
 (.seq (.block 1 (.seq (.draw 5 [oT 17 0,
 oT 18 5,
 oO 19 (.iaddr 1 (.t 17) (.t 18)),
 oH 20 1 19,
 oT 21 1,
 oT 22 5,
 oO 23 (.iaddr 1 (.t 21) (.t 22)),
 oH 24 1 23,
 oO 25 (.call 23 [.t 20,.t 24]),
 oO 26 (.un .not (.t 25))])
 (.cond (.t 26)
 (oR ([oM 4 (.c (.bool false))])
 .ret)
 .skip)))
 (.region [oT 15 5,
 oA 16 .add 15 (.c (oI 1)),
 oT 5 16]))
def xZT : ACode := xKB
def xOr : List Nat := [2,3,6,7,8,9,10,11,12,13,14,15,16,17,18,19,20,21,22,23,24,25,26]
abbrev xKC (s0 s1 s4 s5 : AV) : List AV := [s0,s1,.any,.any,s4,s5,.any,.any,.any,.any,.any,.any,.any,.any,.any,.any,.any,.any,.any,.any,.any,.any,.any,.any,.any,.any,.any]
theorem xKD (s0 s1 s2 s3 s4 s5 s6 s7 s8 s9 s10 s11 s12 s13 s14 s15 s16 s17 s18 s19 s20 s21 s22 s23 s24 s25 s26 : AV) : xAp xOr [s0,s1,s2,s3,s4,s5,s6,s7,s8,s9,s10,s11,s12,s13,s14,s15,s16,s17,s18,s19,s20,s21,s22,s23,s24,s25,s26] = xKC s0 s1 s4 s5 := by kernel_rfl
theorem xVZ {prog : Nat → Option AFunc} (s0 s1 s4 s5 : AV) (H : Heap) : (lim prog).loop xOr xZT ⟨xKC s0 s1 s4 s5,H⟩ = xA2 (lim prog) xOr xZT (run (lim prog) xKB ⟨xKC s0 s1 s4 s5,H⟩) := xAd _ _ _ _ (by kernel_rfl)
def a67 : AFunc := ⟨27,
 oR ([oM 4 (.c (.bool false))])
 (.seq (oR ([oT 6 0,
 oN 7 6,
 oT 8 1,
 oN 9 8,
 oB 10 .neq 7 9])
 (.cond (.t 10)
 (oR ([oM 4 (.c (.bool false))])
 .ret)
 .skip))
 (.seq (oR ([oM 5 (.c (oI 0))])
 (.block 0 (.loop xOr xZT)))
 (oR ([oM 4 (.c (.bool true))])
 .ret))),
 [.tmp 4]⟩
def a68 : AFunc := ⟨52,
 oR ([oX 3 (.t 1),
 oX 4 (.c (.agg [oS,oS])),
 oM 5 (.c (.bool false))])
 (.seq (oR ([oT 8 0,
 oO 9 (.nilchk (.t 8)),
 oF 10 0 9,
 oH 11 1 10,
 oO 12 (.mnil false (.t 11))])
 (.cond (.t 12)
 (.region [oT 13 0,
 oO 14 (.mkmap),
 oO 15 (.nilchk (.t 13)),
 oF 16 0 15,
 ⟨none,.store 1 (.t 16) (.t 14),none⟩])
 .skip))
 (.seq (.seq (.draw 9 [oT 18 0,
 oO 19 (.nilchk (.t 18)),
 oF 20 0 19,
 oH 21 1 20,
 oG 22 2 3,
 oO 23 (.mlook [2,0,0] true (oI 0) (.t 21) (.t 22)),
 oT 17 23,
 oO 24 (.ext 0 (.t 17)),
 oO 25 (.ext 1 (.t 17)),
 oT 6 24,
 oT 7 25])
 (oR ([oT 26 7])
 (.cond (.t 26)
 (.seq (.drawp [] [] 10 [oT 27 0,
 oO 28 (.nilchk (.t 27)),
 oF 29 1 28,
 oH 30 1 29,
 oT 31 6,
 oO 32 (.slice 1 (.t 30) none (some (.t 31)) none),
 oT 33 0,
 oO 34 (.nilchk (.t 33)),
 oF 35 1 34,
 oH 36 1 35,
 oT 37 6,
 oO 38 (.slice 1 (.t 36) (some (.t 37)) none none),
 oO 39 (.build [oS,oS] [(0,1,.t 32),(1,1,.t 38)]),
 oO 40 (.ocall 49 [.t 39]),
 ⟨none,.store 2 (.t 4) (.t 40),none⟩,
 oM 5 (.c (.bool true))])
 .ret)
 .skip)))
 (.seq (.draw 5 [oT 41 0,
 oO 42 (.nilchk (.t 41)),
 oF 43 0 42,
 oH 44 1 43,
 oG 45 2 3,
 oT 46 0,
 oO 47 (.nilchk (.t 46)),
 oF 48 1 47,
 oH 49 1 48,
 oN 50 49,
 ⟨none,.mupd [2,0,0] (.t 44) (.t 45) (.t 50),none⟩])
 (oR ([oO 51 (.build [oS,oS] []),
 ⟨none,.store 2 (.t 4) (.t 51),none⟩,
 oM 5 (.c (.bool false))])
 .ret)))),
 [.cell 4 true 2,.tmp 5]⟩
def xRP : ACode :=
 oR ([oB 33 .lss 32 31])
 (.seq (.cond (.t 33)
 .skip
 (.exit 4))
 (.seq (.block 5 (oR ([oT 34 32,
 oO 35 (.iaddr 1 (.t 30) (.t 32)),
 oH 36 1 35,
 oT 10 34,
 oT 11 36])
 (.region [oT 37 9,
 oT 38 10,
 oT 39 3,
 oT 40 11,
 oO 41 (.iaddr 1 (.t 39) (.t 40)),
 oH 42 1 41,
 oO 43 (.iaddr 1 (.t 37) (.t 38)),
 ⟨none,.store 1 (.t 43) (.t 42),none⟩])))
 (.region [oA 44 .add 32 (.c (oI 1)),
 oT 32 44])))
def xZU : ACode := xRP
def xOs : List Nat := [0,2,8,10,11,12,13,14,15,16,17,18,19,23,24,25,26,27,28,29,33,34,35,36,37,38,39,40,41,42,43,44,45,46,47,48,49,50,51,52,53,54,55,56,57,58,59,60,61,62,63,64,65,66,67,68,69,70,71]
abbrev xOt (s1 s3 s4 s5 s6 s7 s9 s20 s21 s22 s30 s31 s32 : AV) : List AV := [.any,s1,.any,s3,s4,s5,s6,s7,.any,s9,.any,.any,.any,.any,.any,.any,.any,.any,.any,.any,s20,s21,s22,.any,.any,.any,.any,.any,.any,.any,s30,s31,s32,.any,.any,.any,.any,.any,.any,.any,.any,.any,.any,.any,.any,.any,.any,.any,.any,.any,.any,.any,.any,.any,.any,.any,.any,.any,.any,.any,.any,.any,.any,.any,.any,.any,.any,.any,.any,.any,.any,.any]
theorem xV0 (s0 s1 s2 s3 s4 s5 s6 s7 s8 s9 s10 s11 s12 s13 s14 s15 s16 s17 s18 s19 s20 s21 s22 s23 s24 s25 s26 s27 s28 s29 s30 s31 s32 s33 s34 s35 s36 s37 s38 s39 s40 s41 s42 s43 s44 s45 s46 s47 s48 s49 s50 s51 s52 s53 s54 s55 s56 s57 s58 s59 s60 s61 s62 s63 s64 s65 s66 s67 s68 s69 s70 s71 : AV) : xAp xOs [s0,s1,s2,s3,s4,s5,s6,s7,s8,s9,s10,s11,s12,s13,s14,s15,s16,s17,s18,s19,s20,s21,s22,s23,s24,s25,s26,s27,s28,s29,s30,s31,s32,s33,s34,s35,s36,s37,s38,s39,s40,s41,s42,s43,s44,s45,s46,s47,s48,s49,s50,s51,s52,s53,s54,s55,s56,s57,s58,s59,s60,s61,s62,s63,s64,s65,s66,s67,s68,s69,s70,s71] = xOt s1 s3 s4 s5 s6 s7 s9 s20 s21 s22 s30 s31 s32 := by kernel_rfl
theorem yBe {prog : Nat → Option AFunc} (s1 s3 s4 s5 s6 s7 s9 s20 s21 s22 s30 s31 s32 : AV) (H : Heap) : (lim prog).loop xOs xZU ⟨xOt s1 s3 s4 s5 s6 s7 s9 s20 s21 s22 s30 s31 s32,H⟩ = xA2 (lim prog) xOs xZU (run (lim prog) xRP ⟨xOt s1 s3 s4 s5 s6 s7 s9 s20 s21 s22 s30 s31 s32,H⟩) := xAd _ _ _ _ (by kernel_rfl)
def xRQ : ACode :=
 oR ([oB 23 .lss 22 21])
 (.seq (.cond (.t 23)
 .skip
 (.exit 2))
 (.seq (.block 3 (oR ([oT 24 22,
 oO 25 (.iaddr 1 (.t 20) (.t 22)),
 oH 26 1 25,
 oT 7 24,
 oT 8 26])
 (oR ([oT 27 8,
 oN 28 27,
 oO 29 (.mkslice false [oI 0] 8 (.t 28) (.t 28)),
 oT 9 29])
 (.seq (oR ([oT 30 8,
 oN 31 30,
 oM 32 (.c (oI 0))])
 (.block 4 (.loop xOs xZU)))
 (.draw 10 [oT 46 6,
 oT 47 7,
 oF 48 4 1,
 oH 49 1 48,
 oT 50 7,
 oO 51 (.iaddr 1 (.t 49) (.t 50)),
 oH 52 1 51,
 oO 53 (.bstr (.t 52)),
 oT 54 9,
 oO 55 (.call 93 [.t 54]),
 ⟨some 56,.build [.str ⟨#[]⟩,.str ⟨#[]⟩] [(0,1,.t 53),(1,1,.t 55)],none⟩,
 oO 57 (.icall (.c (.func 92 [])) [.t 5,.t 56]),
 oT 45 57,
 oO 58 (.ext 0 (.t 45)),
 oO 59 (.ext 1 (.t 45)),
 oO 60 (.iaddr 1 (.t 46) (.t 47)),
 ⟨none,.store 1 (.t 60) (.t 58),none⟩])))))
 (.region [oA 61 .add 22 (.c (oI 1)),
 oT 22 61])))
def xOu : ACode := xRQ
def xFK : List Nat := [0,2,7,8,9,10,11,12,13,14,15,16,17,18,19,23,24,25,26,27,28,29,30,31,32,33,34,35,36,37,38,39,40,41,42,43,44,45,46,47,48,49,50,51,52,53,54,55,56,57,58,59,60,61,62,63,64,65,66,67,68,69,70,71]
abbrev xOv (s1 s3 s4 s5 s6 s20 s21 s22 : AV) : List AV := [.any,s1,.any,s3,s4,s5,s6,.any,.any,.any,.any,.any,.any,.any,.any,.any,.any,.any,.any,.any,s20,s21,s22,.any,.any,.any,.any,.any,.any,.any,.any,.any,.any,.any,.any,.any,.any,.any,.any,.any,.any,.any,.any,.any,.any,.any,.any,.any,.any,.any,.any,.any,.any,.any,.any,.any,.any,.any,.any,.any,.any,.any,.any,.any,.any,.any,.any,.any,.any,.any,.any,.any]
theorem xKE (s0 s1 s2 s3 s4 s5 s6 s7 s8 s9 s10 s11 s12 s13 s14 s15 s16 s17 s18 s19 s20 s21 s22 s23 s24 s25 s26 s27 s28 s29 s30 s31 s32 s33 s34 s35 s36 s37 s38 s39 s40 s41 s42 s43 s44 s45 s46 s47 s48 s49 s50 s51 s52 s53 s54 s55 s56 s57 s58 s59 s60 s61 s62 s63 s64 s65 s66 s67 s68 s69 s70 s71 : AV) : xAp xFK [s0,s1,s2,s3,s4,s5,s6,s7,s8,s9,s10,s11,s12,s13,s14,s15,s16,s17,s18,s19,s20,s21,s22,s23,s24,s25,s26,s27,s28,s29,s30,s31,s32,s33,s34,s35,s36,s37,s38,s39,s40,s41,s42,s43,s44,s45,s46,s47,s48,s49,s50,s51,s52,s53,s54,s55,s56,s57,s58,s59,s60,s61,s62,s63,s64,s65,s66,s67,s68,s69,s70,s71] = xOv s1 s3 s4 s5 s6 s20 s21 s22 := by kernel_rfl
theorem yBf {prog : Nat → Option AFunc} (s1 s3 s4 s5 s6 s20 s21 s22 : AV) (H : Heap) : (lim prog).loop xFK xOu ⟨xOv s1 s3 s4 s5 s6 s20 s21 s22,H⟩ = xA2 (lim prog) xFK xOu (run (lim prog) xRQ ⟨xOv s1 s3 s4 s5 s6 s20 s21 s22,H⟩) := xAd _ _ _ _ (by kernel_rfl)
def xKF : ACode :=
 .block 1 (oR ([oX 5 (.c (.agg [.nilm,oS]))])
 (oR ([oT 16 3,
 oN 17 16,
 oO 18 (.mkslice false [oI 0] 8 (.t 17) (.t 17)),
 oT 6 18])
 (.seq (oR ([oF 19 3 1,
 oH 20 1 19,
 oN 21 20,
 oM 22 (.c (oI 0))])
 (.block 2 (.loop xFK xOu)))
 (oR ([oT 62 6,
 oT 3 62])
 (.seq (oR ([oF 63 1 5,
 oH 64 1 63,
 oN 65 64,
 oT 66 4,
 oB 67 .eql 65 66])
 (.cond (.t 67)
 (oR ([oT 68 3,
 oT 2 68])
 .ret)
 .skip))
 (.region [oF 69 1 5,
 oH 70 1 69,
 oN 71 70,
 oT 4 71]))))))
def xOw : ACode := xKF
def xFL : List Nat := [0,5,6,7,8,9,10,11,12,13,14,15,16,17,18,19,20,21,22,23,24,25,26,27,28,29,30,31,32,33,34,35,36,37,38,39,40,41,42,43,44,45,46,47,48,49,50,51,52,53,54,55,56,57,58,59,60,61,62,63,64,65,66,67,68,69,70,71]
abbrev xOx (s1 s2 s3 s4 : AV) : List AV := [.any,s1,s2,s3,s4,.any,.any,.any,.any,.any,.any,.any,.any,.any,.any,.any,.any,.any,.any,.any,.any,.any,.any,.any,.any,.any,.any,.any,.any,.any,.any,.any,.any,.any,.any,.any,.any,.any,.any,.any,.any,.any,.any,.any,.any,.any,.any,.any,.any,.any,.any,.any,.any,.any,.any,.any,.any,.any,.any,.any,.any,.any,.any,.any,.any,.any,.any,.any,.any,.any,.any,.any]
theorem xOy (s0 s1 s2 s3 s4 s5 s6 s7 s8 s9 s10 s11 s12 s13 s14 s15 s16 s17 s18 s19 s20 s21 s22 s23 s24 s25 s26 s27 s28 s29 s30 s31 s32 s33 s34 s35 s36 s37 s38 s39 s40 s41 s42 s43 s44 s45 s46 s47 s48 s49 s50 s51 s52 s53 s54 s55 s56 s57 s58 s59 s60 s61 s62 s63 s64 s65 s66 s67 s68 s69 s70 s71 : AV) : xAp xFL [s0,s1,s2,s3,s4,s5,s6,s7,s8,s9,s10,s11,s12,s13,s14,s15,s16,s17,s18,s19,s20,s21,s22,s23,s24,s25,s26,s27,s28,s29,s30,s31,s32,s33,s34,s35,s36,s37,s38,s39,s40,s41,s42,s43,s44,s45,s46,s47,s48,s49,s50,s51,s52,s53,s54,s55,s56,s57,s58,s59,s60,s61,s62,s63,s64,s65,s66,s67,s68,s69,s70,s71] = xOx s1 s2 s3 s4 := by kernel_rfl
theorem xRR {prog : Nat → Option AFunc} (s1 s2 s3 s4 : AV) (H : Heap) : (lim prog).loop xFL xOw ⟨xOx s1 s2 s3 s4,H⟩ = xA2 (lim prog) xFL xOw (run (lim prog) xKF ⟨xOx s1 s2 s3 s4,H⟩) := xAd _ _ _ _ (by kernel_rfl)
def a69 : AFunc := ⟨72,
 oR ([oX 1 (.t 0),
 oM 2 (.c (oS))])
 (oR ([oF 12 3 1,
 oH 13 1 12,
 oN 14 13,
 oO 15 (.mkslice false [oI 0] 8 (.t 14) (.t 14)),
 oT 3 15])
 (oR ([oM 4 (.c (oI 0))])
 (.block 0 (.loop xFL xOw)))),
 [.tmp 2]⟩
def a70 : AFunc := ⟨54,
 oR ([oM 4 (.c (oI 0)),
 oM 5 (.c (.bool false))])
 (.seq (oR ([oT 8 0,
 oO 9 (.nilchk (.t 8)),
 oF 10 0 9,
 oH 11 1 10,
 oO 12 (.mnil false (.t 11))])
 (.cond (.t 12)
 (.region [oT 13 0,
 oO 14 (.mkmap),
 oO 15 (.nilchk (.t 13)),
 oF 16 0 15,
 ⟨none,.store 1 (.t 16) (.t 14),none⟩])
 .skip))
 (oR ([oT 18 0,
 oO 19 (.nilchk (.t 18)),
 oF 20 0 19,
 oH 21 1 20,
 oT 22 1,
 oO 23 (.mlook [0] true (oI 0) (.t 21) (.t 22)),
 oT 17 23,
 oO 24 (.ext 0 (.t 17)),
 oO 25 (.ext 1 (.t 17)),
 oT 6 24,
 oT 7 25])
 (.seq (oR ([oT 26 7,
 oO 27 (.un .not (.t 26))])
 (.cond (.t 27)
 (oR ([oT 28 0,
 oO 29 (.nilchk (.t 28)),
 oF 30 1 29,
 oH 31 1 30,
 oN 32 31,
 oT 6 32])
 (.drawl [(35,(1,(43,0)))] 11 [oT 33 0,
 oO 34 (.nilchk (.t 33)),
 oF 35 0 34,
 oH 36 1 35,
 oT 37 1,
 oT 38 0,
 oT 39 6,
 oT 40 0,
 oO 41 (.nilchk (.t 40)),
 oF 42 1 41,
 oH 43 1 42,
 oT 44 1,
 oO 45 (.bslice true [oI 0] 1 1 [(0,.t 44)]),
 oO 46 (.append false 1 8 (.t 43) (.t 45)),
 oO 47 (.ment [0] (oI 0) (.t 36) (.t 37)),
 oO 48 (.ext 1 (.t 47)),
 ⟨none,.mstore (.t 36) (.t 48) (.t 39),none⟩,
 oO 49 (.nilchk (.t 38)),
 oF 50 1 49,
 ⟨none,.store 1 (.t 50) (.t 46),none⟩]))
 .skip))
 (oR ([oT 51 6,
 oT 52 7,
 oO 53 (.un .not (.t 52)),
 oT 4 51,
 oT 5 53])
 .ret)))),
 [.tmp 4,.tmp 5]⟩
def a71 : AFunc := ⟨4,
 oR ([oX 1 (.t 0),
 oM 2 (.c (.nilf))])
 (oR ([oO 3 (.mkfunc 94 [.t 1]),
 oT 2 3])
 .ret),
 [.tmp 2]⟩
def a72 : AFunc := ⟨8,
 oR ([oM 2 (.c (oS))])
 (.seq (oR ([oT 3 0,
 oO 4 (.isnil false (.t 3))])
 (.cond (.t 4)
 (oR ([oM 2 (.c (oS))])
 .ret)
 .skip))
 (oR ([oO 5 (.bslice false [.int .u8 0] 1 0 []),
 oT 6 0,
 oO 7 (.append false 1 1 (.t 5) (.t 6)),
 oT 2 7])
 .ret)),
 [.tmp 2]⟩
def xRS : ACode :=
 .seq (oR ([oT 15 5,
 oT 16 3,
 oB 17 .lss 15 16])
 (.cond (.t 17)
 .skip
 (.exit 0)))
 (.seq (.block 1 (.region [oT 20 4,
 oT 21 5,
 oT 22 3,
 oO 23 (.mkslice false [.bool false] 1 (.t 22) (.t 22)),
 oO 24 (.iaddr 1 (.t 20) (.t 21)),
 ⟨none,.store 1 (.t 24) (.t 23),none⟩]))
 (.region [oT 18 5,
 oA 19 .add 18 (.c (oI 1)),
 oT 5 19]))
def xV1 : ACode := xRS
def xKG : List Nat := [0,2,6,7,8,9,10,11,12,13,14,15,16,17,18,19,20,21,22,23,24,25,26,27,28,29,30,31,32,33,34,35,36,37,38,39,40,41,42,43,44,45,46,47,48,49,50,51,52,53,54,55,56,57,58,59,60,61,62,63,64,65,66,67,68,69,70,71,72,73,74,75,76,77,78,79,80,81,82,83,84,85,86,87,88,89,90,91,92,93,94,95,96,97,98,99,100,101,102]
abbrev xKH (s1 s3 s4 s5 : AV) : List AV := [.any,s1,.any,s3,s4,s5,.any,.any,.any,.any,.any,.any,.any,.any,.any,.any,.any,.any,.any,.any,.any,.any,.any,.any,.any,.any,.any,.any,.any,.any,.any,.any,.any,.any,.any,.any,.any,.any,.any,.any,.any,.any,.any,.any,.any,.any,.any,.any,.any,.any,.any,.any,.any,.any,.any,.any,.any,.any,.any,.any,.any,.any,.any,.any,.any,.any,.any,.any,.any,.any,.any,.any,.any,.any,.any,.any,.any,.any,.any,.any,.any,.any,.any,.any,.any,.any,.any,.any,.any,.any,.any,.any,.any,.any,.any,.any,.any,.any,.any,.any,.any,.any,.any]
theorem xV2 (s0 s1 s2 s3 s4 s5 s6 s7 s8 s9 s10 s11 s12 s13 s14 s15 s16 s17 s18 s19 s20 s21 s22 s23 s24 s25 s26 s27 s28 s29 s30 s31 s32 s33 s34 s35 s36 s37 s38 s39 s40 s41 s42 s43 s44 s45 s46 s47 s48 s49 s50 s51 s52 s53 s54 s55 s56 s57 s58 s59 s60 s61 s62 s63 s64 s65 s66 s67 s68 s69 s70 s71 s72 s73 s74 s75 s76 s77 s78 s79 s80 s81 s82 s83 s84 s85 s86 s87 s88 s89 s90 s91 s92 s93 s94 s95 s96 s97 s98 s99 s100 s101 s102 : AV) : xAp xKG [s0,s1,s2,s3,s4,s5,s6,s7,s8,s9,s10,s11,s12,s13,s14,s15,s16,s17,s18,s19,s20,s21,s22,s23,s24,s25,s26,s27,s28,s29,s30,s31,s32,s33,s34,s35,s36,s37,s38,s39,s40,s41,s42,s43,s44,s45,s46,s47,s48,s49,s50,s51,s52,s53,s54,s55,s56,s57,s58,s59,s60,s61,s62,s63,s64,s65,s66,s67,s68,s69,s70,s71,s72,s73,s74,s75,s76,s77,s78,s79,s80,s81,s82,s83,s84,s85,s86,s87,s88,s89,s90,s91,s92,s93,s94,s95,s96,s97,s98,s99,s100,s101,s102] = xKH s1 s3 s4 s5 := by kernel_rfl
theorem yBg {prog : Nat → Option AFunc} (s1 s3 s4 s5 : AV) (H : Heap) : (lim prog).loop xKG xV1 ⟨xKH s1 s3 s4 s5,H⟩ = xA2 (lim prog) xKG xV1 (run (lim prog) xRS ⟨xKH s1 s3 s4 s5,H⟩) := xAd _ _ _ _ (by kernel_rfl)
def xGP : ACode :=
 .seq (oR ([oT 36 9,
 oF 37 3 1,
 oH 38 1 37,
 oT 39 7,
 oO 40 (.iaddr 1 (.t 38) (.t 39)),
 oH 41 1 40,
 oN 42 41,
 oB 43 .lss 36 42,
 oT 44 43,
 ⟨some 45,.mov (.t 4),some (44,true)⟩,
 ⟨some 46,.mov (.t 7),some (44,true)⟩,
 ⟨some 47,.iaddr 1 (.t 45) (.t 46),some (44,true)⟩,
 ⟨some 48,.load false 1 (.t 47),some (44,true)⟩,
 ⟨some 49,.mov (.t 8),some (44,true)⟩,
 ⟨some 50,.iaddr 1 (.t 48) (.t 49),some (44,true)⟩,
 ⟨some 51,.load false 1 (.t 50),some (44,true)⟩,
 ⟨some 52,.un .not (.t 51),some (44,true)⟩,
 oO 53 (.pick (.t 44) (.t 52) (.c (.bool false)))])
 (.cond (.t 53)
 .skip
 (.exit 8)))
 (.seq (.block 9 (.seq (.draw 37 [oF 56 4 1,
 oH 57 1 56,
 oT 58 7,
 oO 59 (.iaddr 1 (.t 57) (.t 58)),
 oH 60 1 59,
 oT 61 9,
 oO 62 (.iaddr 1 (.t 60) (.t 61)),
 oH 63 1 62,
 oF 64 4 1,
 oH 65 1 64,
 oT 66 8,
 oO 67 (.iaddr 1 (.t 65) (.t 66)),
 oH 68 1 67,
 oT 69 9,
 oO 70 (.iaddr 1 (.t 68) (.t 69)),
 oH 71 1 70,
 oB 72 .neq 63 71,
 oT 73 72,
 ⟨some 74,.mov (.t 4),some (73,false)⟩,
 ⟨some 75,.faddr 3 (.t 1),some (73,false)⟩,
 ⟨some 76,.load false 1 (.t 75),some (73,false)⟩,
 ⟨some 77,.mov (.t 7),some (73,false)⟩,
 ⟨some 78,.iaddr 1 (.t 76) (.t 77),some (73,false)⟩,
 ⟨some 79,.load false 1 (.t 78),some (73,false)⟩,
 ⟨some 80,.mov (.t 9),some (73,false)⟩,
 ⟨some 81,.iaddr 1 (.t 79) (.t 80),some (73,false)⟩,
 ⟨some 82,.load false 1 (.t 81),some (73,false)⟩,
 ⟨some 83,.iaddr 1 (.t 74) (.t 82),some (73,false)⟩,
 ⟨some 84,.load false 1 (.t 83),some (73,false)⟩,
 ⟨some 85,.faddr 3 (.t 1),some (73,false)⟩,
 ⟨some 86,.load false 1 (.t 85),some (73,false)⟩,
 ⟨some 87,.mov (.t 8),some (73,false)⟩,
 ⟨some 88,.iaddr 1 (.t 86) (.t 87),some (73,false)⟩,
 ⟨some 89,.load false 1 (.t 88),some (73,false)⟩,
 ⟨some 90,.mov (.t 9),some (73,false)⟩,
 ⟨some 91,.iaddr 1 (.t 89) (.t 90),some (73,false)⟩,
 ⟨some 92,.load false 1 (.t 91),some (73,false)⟩,
 ⟨some 93,.iaddr 1 (.t 84) (.t 92),some (73,false)⟩,
 ⟨some 94,.load false 1 (.t 93),some (73,false)⟩,
 oO 95 (.pick (.t 73) (.c (.bool true)) (.t 94))])
 (.cond (.t 95)
 (.region [oT 96 4,
 oT 97 7,
 oO 98 (.iaddr 1 (.t 96) (.t 97)),
 oH 99 1 98,
 oT 100 8,
 oO 101 (.iaddr 1 (.t 99) (.t 100)),
 ⟨none,.store 1 (.t 101) (.c (.bool true)),none⟩,
 oM 6 (.c (.bool true))])
 .skip)))
 (.region [oT 54 9,
 oA 55 .add 54 (.c (oI 1)),
 oT 9 55]))
def xQR : ACode := xGP
def xGQ : List Nat := [0,2,5,10,11,12,13,14,15,16,17,18,19,20,21,22,23,24,25,26,27,28,29,30,31,32,33,34,35,36,37,38,39,40,41,42,43,44,45,46,47,48,49,50,51,52,53,54,55,56,57,58,59,60,61,62,63,64,65,66,67,68,69,70,71,72,73,74,75,76,77,78,79,80,81,82,83,84,85,86,87,88,89,90,91,92,93,94,95,96,97,98,99,100,101,102]
abbrev xKI (s1 s3 s4 s6 s7 s8 s9 : AV) : List AV := [.any,s1,.any,s3,s4,.any,s6,s7,s8,s9,.any,.any,.any,.any,.any,.any,.any,.any,.any,.any,.any,.any,.any,.any,.any,.any,.any,.any,.any,.any,.any,.any,.any,.any,.any,.any,.any,.any,.any,.any,.any,.any,.any,.any,.any,.any,.any,.any,.any,.any,.any,.any,.any,.any,.any,.any,.any,.any,.any,.any,.any,.any,.any,.any,.any,.any,.any,.any,.any,.any,.any,.any,.any,.any,.any,.any,.any,.any,.any,.any,.any,.any,.any,.any,.any,.any,.any,.any,.any,.any,.any,.any,.any,.any,.any,.any,.any,.any,.any,.any,.any,.any,.any]
theorem xGR (s0 s1 s2 s3 s4 s5 s6 s7 s8 s9 s10 s11 s12 s13 s14 s15 s16 s17 s18 s19 s20 s21 s22 s23 s24 s25 s26 s27 s28 s29 s30 s31 s32 s33 s34 s35 s36 s37 s38 s39 s40 s41 s42 s43 s44 s45 s46 s47 s48 s49 s50 s51 s52 s53 s54 s55 s56 s57 s58 s59 s60 s61 s62 s63 s64 s65 s66 s67 s68 s69 s70 s71 s72 s73 s74 s75 s76 s77 s78 s79 s80 s81 s82 s83 s84 s85 s86 s87 s88 s89 s90 s91 s92 s93 s94 s95 s96 s97 s98 s99 s100 s101 s102 : AV) : xAp xGQ [s0,s1,s2,s3,s4,s5,s6,s7,s8,s9,s10,s11,s12,s13,s14,s15,s16,s17,s18,s19,s20,s21,s22,s23,s24,s25,s26,s27,s28,s29,s30,s31,s32,s33,s34,s35,s36,s37,s38,s39,s40,s41,s42,s43,s44,s45,s46,s47,s48,s49,s50,s51,s52,s53,s54,s55,s56,s57,s58,s59,s60,s61,s62,s63,s64,s65,s66,s67,s68,s69,s70,s71,s72,s73,s74,s75,s76,s77,s78,s79,s80,s81,s82,s83,s84,s85,s86,s87,s88,s89,s90,s91,s92,s93,s94,s95,s96,s97,s98,s99,s100,s101,s102] = xKI s1 s3 s4 s6 s7 s8 s9 := by kernel_rfl
theorem xKJ {prog : Nat → Option AFunc} (s1 s3 s4 s6 s7 s8 s9 : AV) (H : Heap) : (lim prog).loop xGQ xQR ⟨xKI s1 s3 s4 s6 s7 s8 s9,H⟩ = xA2 (lim prog) xGQ xQR (run (lim prog) xGP ⟨xKI s1 s3 s4 s6 s7 s8 s9,H⟩) := xAd _ _ _ _ (by kernel_rfl)
def xOz : ACode :=
 .seq (oR ([oT 31 8,
 oT 32 3,
 oB 33 .lss 31 32])
 (.cond (.t 33)
 .skip
 (.exit 6)))
 (.seq (.block 7 (oR ([oM 9 (.c (oI 0))])
 (.block 8 (.loop xGQ xQR))))
 (.region [oT 34 8,
 oA 35 .add 34 (.c (oI 1)),
 oT 8 35]))
def xV3 : ACode := xOz
def xKK : List Nat := [0,2,5,9,10,11,12,13,14,15,16,17,18,19,20,21,22,23,24,25,26,27,28,29,30,31,32,33,34,35,36,37,38,39,40,41,42,43,44,45,46,47,48,49,50,51,52,53,54,55,56,57,58,59,60,61,62,63,64,65,66,67,68,69,70,71,72,73,74,75,76,77,78,79,80,81,82,83,84,85,86,87,88,89,90,91,92,93,94,95,96,97,98,99,100,101,102]
abbrev xKL (s1 s3 s4 s6 s7 s8 : AV) : List AV := [.any,s1,.any,s3,s4,.any,s6,s7,s8,.any,.any,.any,.any,.any,.any,.any,.any,.any,.any,.any,.any,.any,.any,.any,.any,.any,.any,.any,.any,.any,.any,.any,.any,.any,.any,.any,.any,.any,.any,.any,.any,.any,.any,.any,.any,.any,.any,.any,.any,.any,.any,.any,.any,.any,.any,.any,.any,.any,.any,.any,.any,.any,.any,.any,.any,.any,.any,.any,.any,.any,.any,.any,.any,.any,.any,.any,.any,.any,.any,.any,.any,.any,.any,.any,.any,.any,.any,.any,.any,.any,.any,.any,.any,.any,.any,.any,.any,.any,.any,.any,.any,.any,.any]
theorem xRT (s0 s1 s2 s3 s4 s5 s6 s7 s8 s9 s10 s11 s12 s13 s14 s15 s16 s17 s18 s19 s20 s21 s22 s23 s24 s25 s26 s27 s28 s29 s30 s31 s32 s33 s34 s35 s36 s37 s38 s39 s40 s41 s42 s43 s44 s45 s46 s47 s48 s49 s50 s51 s52 s53 s54 s55 s56 s57 s58 s59 s60 s61 s62 s63 s64 s65 s66 s67 s68 s69 s70 s71 s72 s73 s74 s75 s76 s77 s78 s79 s80 s81 s82 s83 s84 s85 s86 s87 s88 s89 s90 s91 s92 s93 s94 s95 s96 s97 s98 s99 s100 s101 s102 : AV) : xAp xKK [s0,s1,s2,s3,s4,s5,s6,s7,s8,s9,s10,s11,s12,s13,s14,s15,s16,s17,s18,s19,s20,s21,s22,s23,s24,s25,s26,s27,s28,s29,s30,s31,s32,s33,s34,s35,s36,s37,s38,s39,s40,s41,s42,s43,s44,s45,s46,s47,s48,s49,s50,s51,s52,s53,s54,s55,s56,s57,s58,s59,s60,s61,s62,s63,s64,s65,s66,s67,s68,s69,s70,s71,s72,s73,s74,s75,s76,s77,s78,s79,s80,s81,s82,s83,s84,s85,s86,s87,s88,s89,s90,s91,s92,s93,s94,s95,s96,s97,s98,s99,s100,s101,s102] = xKL s1 s3 s4 s6 s7 s8 := by kernel_rfl
theorem xV4 {prog : Nat → Option AFunc} (s1 s3 s4 s6 s7 s8 : AV) (H : Heap) : (lim prog).loop xKK xV3 ⟨xKL s1 s3 s4 s6 s7 s8,H⟩ = xA2 (lim prog) xKK xV3 (run (lim prog) xOz ⟨xKL s1 s3 s4 s6 s7 s8,H⟩) := xAd _ _ _ _ (by kernel_rfl)
def xRU : ACode :=
 .seq (oR ([oT 26 7,
 oT 27 3,
 oB 28 .lss 26 27])
 (.cond (.t 28)
 .skip
 (.exit 4)))
 (.seq (.block 5 (oR ([oM 8 (.c (oI 0))])
 (.block 6 (.loop xKK xV3))))
 (.region [oT 29 7,
 oA 30 .add 29 (.c (oI 1)),
 oT 7 30]))
def xV5 : ACode := xRU
def xKM : List Nat := [0,2,5,8,9,10,11,12,13,14,15,16,17,18,19,20,21,22,23,24,25,26,27,28,29,30,31,32,33,34,35,36,37,38,39,40,41,42,43,44,45,46,47,48,49,50,51,52,53,54,55,56,57,58,59,60,61,62,63,64,65,66,67,68,69,70,71,72,73,74,75,76,77,78,79,80,81,82,83,84,85,86,87,88,89,90,91,92,93,94,95,96,97,98,99,100,101,102]
abbrev xKN (s1 s3 s4 s6 s7 : AV) : List AV := [.any,s1,.any,s3,s4,.any,s6,s7,.any,.any,.any,.any,.any,.any,.any,.any,.any,.any,.any,.any,.any,.any,.any,.any,.any,.any,.any,.any,.any,.any,.any,.any,.any,.any,.any,.any,.any,.any,.any,.any,.any,.any,.any,.any,.any,.any,.any,.any,.any,.any,.any,.any,.any,.any,.any,.any,.any,.any,.any,.any,.any,.any,.any,.any,.any,.any,.any,.any,.any,.any,.any,.any,.any,.any,.any,.any,.any,.any,.any,.any,.any,.any,.any,.any,.any,.any,.any,.any,.any,.any,.any,.any,.any,.any,.any,.any,.any,.any,.any,.any,.any,.any,.any]
theorem xRV (s0 s1 s2 s3 s4 s5 s6 s7 s8 s9 s10 s11 s12 s13 s14 s15 s16 s17 s18 s19 s20 s21 s22 s23 s24 s25 s26 s27 s28 s29 s30 s31 s32 s33 s34 s35 s36 s37 s38 s39 s40 s41 s42 s43 s44 s45 s46 s47 s48 s49 s50 s51 s52 s53 s54 s55 s56 s57 s58 s59 s60 s61 s62 s63 s64 s65 s66 s67 s68 s69 s70 s71 s72 s73 s74 s75 s76 s77 s78 s79 s80 s81 s82 s83 s84 s85 s86 s87 s88 s89 s90 s91 s92 s93 s94 s95 s96 s97 s98 s99 s100 s101 s102 : AV) : xAp xKM [s0,s1,s2,s3,s4,s5,s6,s7,s8,s9,s10,s11,s12,s13,s14,s15,s16,s17,s18,s19,s20,s21,s22,s23,s24,s25,s26,s27,s28,s29,s30,s31,s32,s33,s34,s35,s36,s37,s38,s39,s40,s41,s42,s43,s44,s45,s46,s47,s48,s49,s50,s51,s52,s53,s54,s55,s56,s57,s58,s59,s60,s61,s62,s63,s64,s65,s66,s67,s68,s69,s70,s71,s72,s73,s74,s75,s76,s77,s78,s79,s80,s81,s82,s83,s84,s85,s86,s87,s88,s89,s90,s91,s92,s93,s94,s95,s96,s97,s98,s99,s100,s101,s102] = xKN s1 s3 s4 s6 s7 := by kernel_rfl
theorem yBh {prog : Nat → Option AFunc} (s1 s3 s4 s6 s7 : AV) (H : Heap) : (lim prog).loop xKM xV5 ⟨xKN s1 s3 s4 s6 s7,H⟩ = xA2 (lim prog) xKM xV5 (run (lim prog) xRU ⟨xKN s1 s3 s4 s6 s7,H⟩) := xAd _ _ _ _ (by kernel_rfl)
def xOA : ACode :=
 .seq (oR ([oT 25 6])
 (.cond (.t 25)
 .skip
 (.exit 2)))
 (.block 3 (oR ([oM 6 (.c (.bool false))])
 (oR ([oM 7 (.c (oI 0))])
 (.block 4 (.loop xKM xV5)))))
def xV6 : ACode := xOA
def xKO : List Nat := [0,2,5,7,8,9,10,11,12,13,14,15,16,17,18,19,20,21,22,23,24,25,26,27,28,29,30,31,32,33,34,35,36,37,38,39,40,41,42,43,44,45,46,47,48,49,50,51,52,53,54,55,56,57,58,59,60,61,62,63,64,65,66,67,68,69,70,71,72,73,74,75,76,77,78,79,80,81,82,83,84,85,86,87,88,89,90,91,92,93,94,95,96,97,98,99,100,101,102]
abbrev xIa (s1 s3 s4 s6 : AV) : List AV := [.any,s1,.any,s3,s4,.any,s6,.any,.any,.any,.any,.any,.any,.any,.any,.any,.any,.any,.any,.any,.any,.any,.any,.any,.any,.any,.any,.any,.any,.any,.any,.any,.any,.any,.any,.any,.any,.any,.any,.any,.any,.any,.any,.any,.any,.any,.any,.any,.any,.any,.any,.any,.any,.any,.any,.any,.any,.any,.any,.any,.any,.any,.any,.any,.any,.any,.any,.any,.any,.any,.any,.any,.any,.any,.any,.any,.any,.any,.any,.any,.any,.any,.any,.any,.any,.any,.any,.any,.any,.any,.any,.any,.any,.any,.any,.any,.any,.any,.any,.any,.any,.any,.any]
theorem xRW (s0 s1 s2 s3 s4 s5 s6 s7 s8 s9 s10 s11 s12 s13 s14 s15 s16 s17 s18 s19 s20 s21 s22 s23 s24 s25 s26 s27 s28 s29 s30 s31 s32 s33 s34 s35 s36 s37 s38 s39 s40 s41 s42 s43 s44 s45 s46 s47 s48 s49 s50 s51 s52 s53 s54 s55 s56 s57 s58 s59 s60 s61 s62 s63 s64 s65 s66 s67 s68 s69 s70 s71 s72 s73 s74 s75 s76 s77 s78 s79 s80 s81 s82 s83 s84 s85 s86 s87 s88 s89 s90 s91 s92 s93 s94 s95 s96 s97 s98 s99 s100 s101 s102 : AV) : xAp xKO [s0,s1,s2,s3,s4,s5,s6,s7,s8,s9,s10,s11,s12,s13,s14,s15,s16,s17,s18,s19,s20,s21,s22,s23,s24,s25,s26,s27,s28,s29,s30,s31,s32,s33,s34,s35,s36,s37,s38,s39,s40,s41,s42,s43,s44,s45,s46,s47,s48,s49,s50,s51,s52,s53,s54,s55,s56,s57,s58,s59,s60,s61,s62,s63,s64,s65,s66,s67,s68,s69,s70,s71,s72,s73,s74,s75,s76,s77,s78,s79,s80,s81,s82,s83,s84,s85,s86,s87,s88,s89,s90,s91,s92,s93,s94,s95,s96,s97,s98,s99,s100,s101,s102] = xIa s1 s3 s4 s6 := by kernel_rfl
theorem xV7 {prog : Nat → Option AFunc} (s1 s3 s4 s6 : AV) (H : Heap) : (lim prog).loop xKO xV6 ⟨xIa s1 s3 s4 s6,H⟩ = xA2 (lim prog) xKO xV6 (run (lim prog) xOA ⟨xIa s1 s3 s4 s6,H⟩) := xAd _ _ _ _ (by kernel_rfl)
def a73 : AFunc := ⟨103,
 oR ([oX 1 (.t 0),
 oM 2 (.c (oS))])
 (oR ([oF 10 3 1,
 oH 11 1 10,
 oN 12 11,
 oT 3 12])
 (oR ([oT 13 3,
 oO 14 (.mkslice false [oS] 24 (.t 13) (.t 13)),
 oT 4 14])
 (.seq (oR ([oM 5 (.c (oI 0))])
 (.block 0 (.loop xKG xV1)))
 (.seq (oR ([oM 6 (.c (.bool true))])
 (.block 2 (.loop xKO xV6)))
 (oR ([oT 102 4,
 oT 2 102])
 .ret))))),
 [.tmp 2]⟩
def a74 : AFunc := ⟨54,
 oR ([oX 3 (.t 1),
 oM 4 (.c (oI 0)),
 oM 5 (.c (.bool false))])
 (.seq (oR ([oT 8 0,
 oO 9 (.nilchk (.t 8)),
 oF 10 0 9,
 oH 11 1 10,
 oO 12 (.mnil false (.t 11))])
 (.cond (.t 12)
 (.region [oT 13 0,
 oO 14 (.mkmap),
 oO 15 (.nilchk (.t 13)),
 oF 16 0 15,
 ⟨none,.store 1 (.t 16) (.t 14),none⟩])
 .skip))
 (.seq (.draw 9 [oT 18 0,
 oO 19 (.nilchk (.t 18)),
 oF 20 0 19,
 oH 21 1 20,
 oG 22 2 3,
 oO 23 (.mlook [2,0,0] true (oI 0) (.t 21) (.t 22)),
 oT 17 23,
 oO 24 (.ext 0 (.t 17)),
 oO 25 (.ext 1 (.t 17)),
 oT 6 24,
 oT 7 25])
 (.seq (oR ([oT 26 7,
 oO 27 (.un .not (.t 26))])
 (.cond (.t 27)
 (oR ([oT 28 0,
 oO 29 (.nilchk (.t 28)),
 oF 30 1 29,
 oH 31 1 30,
 oN 32 31,
 oT 6 32])
 (.drawl [(35,(1,(43,0))),(3,(2,(43,0)))] 11 [oT 33 0,
 oO 34 (.nilchk (.t 33)),
 oF 35 0 34,
 oH 36 1 35,
 oG 37 2 3,
 oT 38 0,
 oT 39 6,
 oT 40 0,
 oO 41 (.nilchk (.t 40)),
 oF 42 1 41,
 oH 43 1 42,
 oG 44 2 3,
 oO 45 (.bslice true [oI 0,oI 0] 2 1 [(0,.t 44)]),
 oO 46 (.append false 2 16 (.t 43) (.t 45)),
 oO 47 (.ment [2,0,0] (oI 0) (.t 36) (.t 37)),
 oO 48 (.ext 1 (.t 47)),
 ⟨none,.mstore (.t 36) (.t 48) (.t 39),none⟩,
 oO 49 (.nilchk (.t 38)),
 oF 50 1 49,
 ⟨none,.store 1 (.t 50) (.t 46),none⟩]))
 .skip))
 (oR ([oT 51 6,
 oT 52 7,
 oO 53 (.un .not (.t 52)),
 oT 4 51,
 oT 5 53])
 .ret)))),
 [.tmp 4,.tmp 5]⟩
def a75 : AFunc := ⟨4,
 oR ([oX 1 (.t 0),
 oM 2 (.c (.nilf))])
 (oR ([oO 3 (.mkfunc 95 [.t 1]),
 oT 2 3])
 .ret),
 [.tmp 2]⟩
def xV8 : ACode :=
 oR ([oB 12 .lss 11 10])
 (.seq (.cond (.t 12)
 .skip
 (.exit 0))
 (.seq (.block 1 (oR ([oO 13 (.iaddr 1 (.t 9) (.t 11)),
 oH 14 1 13,
 oT 5 14])
 (oR ([oT 15 3,
 oT 16 5,
 oN 17 16,
 oB 18 .add 15 17,
 oT 3 18])
 (oR ([oT 19 3,
 oA 20 .lss 19 (.c (oI 0))])
 (.cond (.t 20)
 (.stuck)
 .skip)))))
 (.region [oA 22 .add 11 (.c (oI 1)),
 oT 11 22])))
def yCP : ACode := xV8
def xRX : List Nat := [1,2,4,5,6,7,8,12,13,14,15,16,17,18,19,20,21,22,23,24,25,26,27,28,29,30,31,32,33,34,35]
abbrev xV9 (s0 s3 s9 s10 s11 : AV) : List AV := [s0,.any,.any,s3,.any,.any,.any,.any,.any,s9,s10,s11,.any,.any,.any,.any,.any,.any,.any,.any,.any,.any,.any,.any,.any,.any,.any,.any,.any,.any,.any,.any,.any,.any,.any,.any]
theorem yEE (s0 s1 s2 s3 s4 s5 s6 s7 s8 s9 s10 s11 s12 s13 s14 s15 s16 s17 s18 s19 s20 s21 s22 s23 s24 s25 s26 s27 s28 s29 s30 s31 s32 s33 s34 s35 : AV) : xAp xRX [s0,s1,s2,s3,s4,s5,s6,s7,s8,s9,s10,s11,s12,s13,s14,s15,s16,s17,s18,s19,s20,s21,s22,s23,s24,s25,s26,s27,s28,s29,s30,s31,s32,s33,s34,s35] = xV9 s0 s3 s9 s10 s11 := by kernel_rfl
theorem yEF {prog : Nat → Option AFunc} (s0 s3 s9 s10 s11 : AV) (H : Heap) : (lim prog).loop xRX yCP ⟨xV9 s0 s3 s9 s10 s11,H⟩ = xA2 (lim prog) xRX yCP (run (lim prog) xV8 ⟨xV9 s0 s3 s9 s10 s11,H⟩) := xAd _ _ _ _ (by kernel_rfl)
def xWa : ACode :=
 oR ([oB 28 .lss 27 26])
 (.seq (.cond (.t 28)
 .skip
 (.exit 2))
 (.seq (.block 3 (oR ([oO 29 (.iaddr 1 (.t 25) (.t 27)),
 oH 30 1 29,
 oT 8 30])
 (.region [oT 31 6,
 oT 32 8,
 oO 33 (.append false 1 1 (.t 31) (.t 32)),
 oT 6 33])))
 (.region [oA 34 .add 27 (.c (oI 1)),
 oT 27 34])))
def yCQ : ACode := xWa
def xRY : List Nat := [0,1,2,3,4,5,7,8,9,10,11,12,13,14,15,16,17,18,19,20,21,22,23,24,28,29,30,31,32,33,34,35]
abbrev xWb (s6 s25 s26 s27 : AV) : List AV := [.any,.any,.any,.any,.any,.any,s6,.any,.any,.any,.any,.any,.any,.any,.any,.any,.any,.any,.any,.any,.any,.any,.any,.any,.any,s25,s26,s27,.any,.any,.any,.any,.any,.any,.any,.any]
theorem yEG (s0 s1 s2 s3 s4 s5 s6 s7 s8 s9 s10 s11 s12 s13 s14 s15 s16 s17 s18 s19 s20 s21 s22 s23 s24 s25 s26 s27 s28 s29 s30 s31 s32 s33 s34 s35 : AV) : xAp xRY [s0,s1,s2,s3,s4,s5,s6,s7,s8,s9,s10,s11,s12,s13,s14,s15,s16,s17,s18,s19,s20,s21,s22,s23,s24,s25,s26,s27,s28,s29,s30,s31,s32,s33,s34,s35] = xWb s6 s25 s26 s27 := by kernel_rfl
theorem yEH {prog : Nat → Option AFunc} (s6 s25 s26 s27 : AV) (H : Heap) : (lim prog).loop xRY yCQ ⟨xWb s6 s25 s26 s27,H⟩ = xA2 (lim prog) xRY yCQ (run (lim prog) xWa ⟨xWb s6 s25 s26 s27,H⟩) := xAd _ _ _ _ (by kernel_rfl)
def a76 : AFunc := ⟨36,
 oR ([oM 2 (.c (oS))])
 (oR ([oM 3 (.c (oI 0))])
 (.seq (oR ([oT 9 0,
 oN 10 9,
 oM 11 (.c (oI 0))])
 (.block 0 (.loop xRX yCP)))
 (oR ([oT 23 3,
 oO 24 (.icall (.c (.func 96 [])) [(.c (oS)),.t 23]),
 oT 6 24])
 (.seq (oR ([oT 25 0,
 oN 26 25,
 oM 27 (.c (oI 0))])
 (.block 2 (.loop xRY yCQ)))
 (oR ([oT 35 6,
 oT 2 35])
 .ret))))),
 [.tmp 2]⟩
def a77 : AFunc := ⟨10,
 oR ([oX 1 (.t 0),
 oX 2 (.c (.agg [oS,oS]))])
 (.seq (oR ([oF 3 1 1,
 oH 4 1 3,
 oN 5 4,
 oA 6 .eql 5 (.c (oI 0))])
 (.cond (.t 6)
 (.region [oO 7 (.mkslice false [.int .u8 0] 1 (.c (oI 1)) (.c (oI 1))),
 oF 8 1 1,
 ⟨none,.store 1 (.t 8) (.t 7),none⟩])
 .skip))
 (oR ([oG 9 2 1,
 ⟨none,.store 2 (.t 2) (.t 9),none⟩])
 .ret)),
 [.cell 2 true 2]⟩
def a80 : AFunc := ⟨9,
 oR ([oM 3 (.c (.bool false))])
 (oR ([oT 4 0,
 oO 5 (.conv .i64 (.t 4)),
 oH 6 1 1,
 oO 7 (.bin .shl (.c (oI 1)) (.t 6)),
 oB 8 .geq 5 7,
 oT 3 8])
 .ret),
 [.tmp 3]⟩
def yEI : ACode :=
 .seq (.seq (.draw 11 [oT 17 4,
 oA 18 .gtr 17 (.c (oI 0)),
 oT 19 18,
 ⟨some 20,.mov (.t 0),some (19,true)⟩,
 ⟨some 21,.mov (.t 5),some (19,true)⟩,
 ⟨some 22,.iaddr 1 (.t 20) (.t 21),some (19,true)⟩,
 ⟨some 23,.load false 1 (.t 22),some (19,true)⟩,
 ⟨some 24,.mov (.t 0),some (19,true)⟩,
 ⟨some 25,.mov (.t 4),some (19,true)⟩,
 ⟨some 26,.iaddr 1 (.t 24) (.t 25),some (19,true)⟩,
 ⟨some 27,.load false 1 (.t 26),some (19,true)⟩,
 ⟨some 28,.bin .neq (.t 23) (.t 27),some (19,true)⟩,
 oO 29 (.pick (.t 19) (.t 28) (.c (.bool false)))])
 (.cond (.t 29)
 .skip
 (.exit 2)))
 (.block 3 (.region [oT 30 3,
 oT 31 4,
 oO 32 (.iaddr 1 (.t 30) (.t 31)),
 oH 33 1 32,
 oT 4 33]))
def yGp : ACode := yEI
def yEJ : List Nat := [1,2,6,7,8,9,10,11,12,13,14,15,16,17,18,19,20,21,22,23,24,25,26,27,28,29,30,31,32,33,34,35,36,37,38,39,40,41,42,43,44,45,46,47,48,49,50,51,52,53,54,55,56,57,58,59,60,61,62,63,64,65,66]
def yEK : ACode :=
 .seq (oR ([oT 11 5,
 oT 12 0,
 oN 13 12,
 oB 14 .lss 11 13])
 (.cond (.t 14)
 .skip
 (.exit 0)))
 (.seq (.block 1 (.seq (.block 2 (.loop yEJ yGp))
 (.seq (.seq (.draw 5 [oT 34 0,
 oT 35 5,
 oO 36 (.iaddr 1 (.t 34) (.t 35)),
 oH 37 1 36,
 oT 38 0,
 oT 39 4,
 oO 40 (.iaddr 1 (.t 38) (.t 39)),
 oH 41 1 40,
 oB 42 .eql 37 41])
 (.cond (.t 42)
 (.region [oT 43 4,
 oA 44 .add 43 (.c (oI 1)),
 oT 4 44])
 .skip))
 (.region [oT 45 3,
 oT 46 5,
 oA 47 .add 46 (.c (oI 1)),
 oT 48 4,
 oO 49 (.iaddr 1 (.t 45) (.t 47)),
 ⟨none,.store 1 (.t 49) (.t 48),none⟩]))))
 (.region [oT 15 5,
 oA 16 .add 15 (.c (oI 1)),
 oT 5 16]))
def yGq : ACode := yEK
def yEL : List Nat := [1,2,6,7,8,9,10,11,12,13,14,15,16,17,18,19,20,21,22,23,24,25,26,27,28,29,30,31,32,33,34,35,36,37,38,39,40,41,42,43,44,45,46,47,48,49,50,51,52,53,54,55,56,57,58,59,60,61,62,63,64,65,66]
def a83 : AFunc := ⟨67,
 oR ([oM 2 (.c (oS))])
 (oR ([oT 7 0,
 oN 8 7,
 oA 9 .add 8 (.c (oI 1)),
 oO 10 (.mkslice false [oI 0] 8 (.t 9) (.t 9)),
 oT 3 10])
 (oR ([oM 4 (.c (oI 0))])
 (.seq (oR ([oM 5 (.c (oI 1))])
 (.block 0 (.loop yEL yGq)))
 (.seq (oR ([oT 50 0,
 oN 51 50,
 oT 52 3,
 oT 53 0,
 oN 54 53,
 oO 55 (.iaddr 1 (.t 52) (.t 54)),
 oH 56 1 55,
 oB 57 .sub 51 56,
 oT 6 57])
 (oR ([oT 58 0,
 oN 59 58,
 oT 60 6,
 oB 61 .rem 59 60,
 oA 62 .eql 61 (.c (oI 0))])
 (.cond (.t 62)
 (oR ([oT 63 0,
 oT 64 6,
 oO 65 (.slice 1 (.t 63) none (some (.t 64)) none),
 oT 2 65])
 .ret)
 .skip)))
 (oR ([oT 66 0,
 oT 2 66])
 .ret))))),
 [.tmp 2]⟩
def a84 : AFunc := ⟨5,
 oR ([oM 2 (.c (oS))])
 (oR ([oT 3 0,
 oO 4 (.append false 1 8 (.c (oS)) (.t 3)),
 oT 2 4])
 .ret),
 [.tmp 2]⟩
def yEM : ACode :=
 oR ([oB 9 .lss 8 7])
 (.seq (.cond (.t 9)
 .skip
 (.exit 0))
 (.seq (.block 1 (oR ([oT 10 8,
 oT 5 10])
 (oR ([oT 11 1,
 oT 12 0,
 oT 13 5,
 oO 14 (.iaddr 1 (.t 12) (.t 13)),
 oH 15 1 14,
 oO 16 (.icall (.t 11) [.t 15])])
 (.cond (.t 16)
 (oR ([oT 17 5,
 oT 4 17])
 .ret)
 .skip))))
 (.region [oA 18 .add 8 (.c (oI 1)),
 oT 8 18])))
def yGr : ACode := yEM
def yEN : List Nat := [2,3,5,6,9,10,11,12,13,14,15,16,17,18]
def a85 : AFunc := ⟨19,
 oR ([oM 4 (.c (oI 0))])
 (.seq (oR ([oT 6 0,
 oN 7 6,
 oM 8 (.c (oI 0))])
 (.block 0 (.loop yEN yGr)))
 (oR ([oM 4 (.c (.int .i64 (-1)))])
 .ret)),
 [.tmp 4]⟩
def a90 : AFunc := ⟨9,
 oR ([oM 4 (.c (.bool false))])
 (oR ([oT 5 0,
 oT 6 1,
 oO 7 (.icall (.c (.func 99 [])) [.t 5,.t 6]),
 oA 8 .geq 7 (.c (oI 0)),
 oT 4 8])
 .ret),
 [.tmp 4]⟩
def a91 : AFunc := ⟨11,
 oR ([oM 3 (.c (.bool false))])
 (oR ([oT 4 0,
 oA 5 .lss 4 (.c (oI 0)),
 oT 6 5,
 ⟨some 7,.mov (.t 0),some (6,false)⟩,
 ⟨some 8,.load false 1 (.t 1),some (6,false)⟩,
 ⟨some 9,.bin .geq (.t 7) (.t 8),some (6,false)⟩,
 oO 10 (.pick (.t 6) (.c (.bool true)) (.t 9)),
 oT 3 10])
 .ret),
 [.tmp 3]⟩
def a92 : AFunc := ⟨54,
 oR ([oX 3 (.t 1),
 oM 4 (.c (oI 0)),
 oM 5 (.c (.bool false))])
 (.seq (oR ([oT 8 0,
 oO 9 (.nilchk (.t 8)),
 oF 10 0 9,
 oH 11 1 10,
 oO 12 (.mnil false (.t 11))])
 (.cond (.t 12)
 (.region [oT 13 0,
 oO 14 (.mkmap),
 oO 15 (.nilchk (.t 13)),
 oF 16 0 15,
 ⟨none,.store 1 (.t 16) (.t 14),none⟩])
 .skip))
 (.seq (.draw 9 [oT 18 0,
 oO 19 (.nilchk (.t 18)),
 oF 20 0 19,
 oH 21 1 20,
 oG 22 2 3,
 oO 23 (.mlook [2,1,1] true (oI 0) (.t 21) (.t 22)),
 oT 17 23,
 oO 24 (.ext 0 (.t 17)),
 oO 25 (.ext 1 (.t 17)),
 oT 6 24,
 oT 7 25])
 (.seq (oR ([oT 26 7,
 oO 27 (.un .not (.t 26))])
 (.cond (.t 27)
 (oR ([oT 28 0,
 oO 29 (.nilchk (.t 28)),
 oF 30 1 29,
 oH 31 1 30,
 oN 32 31,
 oT 6 32])
 (.drawl [(35,(1,(43,0))),(3,(2,(43,0)))] 11 [oT 33 0,
 oO 34 (.nilchk (.t 33)),
 oF 35 0 34,
 oH 36 1 35,
 oG 37 2 3,
 oT 38 0,
 oT 39 6,
 oT 40 0,
 oO 41 (.nilchk (.t 40)),
 oF 42 1 41,
 oH 43 1 42,
 oG 44 2 3,
 ⟨some 45,.bslice true [.str ⟨#[]⟩,.str ⟨#[]⟩] 2 1 [(0,.t 44)],none⟩,
 oO 46 (.append false 2 32 (.t 43) (.t 45)),
 oO 47 (.ment [2,1,1] (oI 0) (.t 36) (.t 37)),
 oO 48 (.ext 1 (.t 47)),
 ⟨none,.mstore (.t 36) (.t 48) (.t 39),none⟩,
 oO 49 (.nilchk (.t 38)),
 oF 50 1 49,
 ⟨none,.store 1 (.t 50) (.t 46),none⟩]))
 .skip))
 (oR ([oT 51 6,
 oT 52 7,
 oO 53 (.un .not (.t 52)),
 oT 4 51,
 oT 5 53])
 .ret)))),
 [.tmp 4,.tmp 5]⟩
def xRZ : ACode :=
 .seq (oR ([oT 4 3,
 oH 5 1 1,
 oO 6 (.nilchk (.t 5)),
 oF 7 1 6,
 oH 8 1 7,
 oN 9 8,
 oB 10 .lss 4 9])
 (.cond (.t 10)
 .skip
 (.exit 0)))
 (.seq (.block 1 (oR ([oT 13 0,
 oT 14 3,
 oH 15 1 1,
 oO 16 (.nilchk (.t 15)),
 oF 17 1 16,
 oH 18 1 17,
 oT 19 3,
 oO 20 (.iaddr 1 (.t 18) (.t 19)),
 oH 21 1 20,
 oO 22 (.icall (.t 13) [.t 14,.t 21]),
 oO 23 (.un .not (.t 22))])
 (.cond (.t 23)
 .ret
 .skip)))
 (.region [oT 11 3,
 oA 12 .add 11 (.c (oI 1)),
 oT 3 12]))
def xQS : ACode := xRZ
def xGS : List Nat := [2,4,5,6,7,8,9,10,11,12,13,14,15,16,17,18,19,20,21,22,23]
abbrev xGT (s0 s1 s3 : AV) : List AV := [s0,s1,.any,s3,.any,.any,.any,.any,.any,.any,.any,.any,.any,.any,.any,.any,.any,.any,.any,.any,.any,.any,.any,.any]
theorem xWc (s0 s1 s2 s3 s4 s5 s6 s7 s8 s9 s10 s11 s12 s13 s14 s15 s16 s17 s18 s19 s20 s21 s22 s23 : AV) : xAp xGS [s0,s1,s2,s3,s4,s5,s6,s7,s8,s9,s10,s11,s12,s13,s14,s15,s16,s17,s18,s19,s20,s21,s22,s23] = xGT s0 s1 s3 := by kernel_rfl
theorem yBi {prog : Nat → Option AFunc} (s0 s1 s3 : AV) (H : Heap) : (lim prog).loop xGS xQS ⟨xGT s0 s1 s3,H⟩ = xA2 (lim prog) xGS xQS (run (lim prog) xRZ ⟨xGT s0 s1 s3,H⟩) := xAd _ _ _ _ (by kernel_rfl)
def a94 : AFunc := ⟨24,
 oR ([oM 3 (.c (oI 0))])
 (.block 0 (.loop xGS xQS)),
 []⟩
def xOB : ACode :=
 .seq (oR ([oT 4 3,
 oH 5 1 1,
 oO 6 (.nilchk (.t 5)),
 oF 7 1 6,
 oH 8 1 7,
 oN 9 8,
 oB 10 .lss 4 9])
 (.cond (.t 10)
 .skip
 (.exit 0)))
 (.seq (.block 1 (oR ([oT 13 0,
 oT 14 3,
 oH 15 1 1,
 oO 16 (.nilchk (.t 15)),
 oF 17 1 16,
 oH 18 1 17,
 oT 19 3,
 oO 20 (.iaddr 2 (.t 18) (.t 19)),
 oG 21 2 20,
 oO 22 (.icall (.t 13) [.t 14,.t 21]),
 oO 23 (.un .not (.t 22))])
 (.cond (.t 23)
 .ret
 .skip)))
 (.region [oT 11 3,
 oA 12 .add 11 (.c (oI 1)),
 oT 3 12]))
def xMF : ACode := xOB
def xET : List Nat := [2,4,5,6,7,8,9,10,11,12,13,14,15,16,17,18,19,20,21,22,23]
abbrev xEs (s0 s1 s3 : AV) : List AV := [s0,s1,.any,s3,.any,.any,.any,.any,.any,.any,.any,.any,.any,.any,.any,.any,.any,.any,.any,.any,.any,.any,.any,.any]
theorem xOC (s0 s1 s2 s3 s4 s5 s6 s7 s8 s9 s10 s11 s12 s13 s14 s15 s16 s17 s18 s19 s20 s21 s22 s23 : AV) : xAp xET [s0,s1,s2,s3,s4,s5,s6,s7,s8,s9,s10,s11,s12,s13,s14,s15,s16,s17,s18,s19,s20,s21,s22,s23] = xEs s0 s1 s3 := by kernel_rfl
theorem xWd {prog : Nat → Option AFunc} (s0 s1 s3 : AV) (H : Heap) : (lim prog).loop xET xMF ⟨xEs s0 s1 s3,H⟩ = xA2 (lim prog) xET xMF (run (lim prog) xOB ⟨xEs s0 s1 s3,H⟩) := xAd _ _ _ _ (by kernel_rfl)
def a95 : AFunc := ⟨24,
 oR ([oM 3 (.c (oI 0))])
 (.block 0 (.loop xET xMF)),
 []⟩
def a96 : AFunc := ⟨27,
 oR ([oM 4 (.c (oS))])
 (.seq (oR ([oT 5 1,
 oA 6 .lss 5 (.c (oI 0))])
 (.cond (.t 6)
 (.stuck)
 .skip))
 (.seq (oR ([oT 8 1,
 oT 9 0,
 oO 10 (.cap (.t 9)),
 oT 11 0,
 oN 12 11,
 oB 13 .sub 10 12,
 oB 14 .sub 8 13,
 oT 1 14])
 (oR ([oT 15 1,
 oA 16 .gtr 15 (.c (oI 0))])
 (.cond (.t 16)
 (.region [oT 17 0,
 oT 18 0,
 oO 19 (.cap (.t 18)),
 oO 20 (.slice 1 (.t 17) none (some (.t 19)) none),
 oT 21 1,
 oO 22 (.appendz [.int .u8 0] 1 (.t 20) (.t 21)),
 oT 23 0,
 oN 24 23,
 oO 25 (.slice 1 (.t 22) none (some (.t 24)) none),
 oT 0 25])
 .skip)))
 (oR ([oT 26 0,
 oT 4 26])
 .ret))),
 [.tmp 4]⟩
def xKP : ACode :=
 oR ([oB 9 .lss 8 7])
 (.seq (.cond (.t 9)
 .skip
 (.exit 0))
 (.seq (.block 1 (oR ([oT 10 8,
 oT 5 10])
 (oR ([oT 11 1,
 oT 12 0,
 oT 13 5,
 oO 14 (.iaddr 1 (.t 12) (.t 13)),
 oH 15 1 14,
 oO 16 (.icall (.t 11) [.t 15])])
 (.cond (.t 16)
 (oR ([oT 17 5,
 oT 4 17])
 .ret)
 .skip))))
 (.region [oA 18 .add 8 (.c (oI 1)),
 oT 8 18])))
def xZV : ACode := xKP
def xOD : List Nat := [2,3,5,6,9,10,11,12,13,14,15,16,17,18]
abbrev xKQ (s0 s1 s4 s7 s8 : AV) : List AV := [s0,s1,.any,.any,s4,.any,.any,s7,s8,.any,.any,.any,.any,.any,.any,.any,.any,.any,.any]
theorem xKR (s0 s1 s2 s3 s4 s5 s6 s7 s8 s9 s10 s11 s12 s13 s14 s15 s16 s17 s18 : AV) : xAp xOD [s0,s1,s2,s3,s4,s5,s6,s7,s8,s9,s10,s11,s12,s13,s14,s15,s16,s17,s18] = xKQ s0 s1 s4 s7 s8 := by kernel_rfl
theorem xWe {prog : Nat → Option AFunc} (s0 s1 s4 s7 s8 : AV) (H : Heap) : (lim prog).loop xOD xZV ⟨xKQ s0 s1 s4 s7 s8,H⟩ = xA2 (lim prog) xOD xZV (run (lim prog) xKP ⟨xKQ s0 s1 s4 s7 s8,H⟩) := xAd _ _ _ _ (by kernel_rfl)
def a99 : AFunc := ⟨19,
 oR ([oM 4 (.c (oI 0))])
 (.seq (oR ([oT 6 0,
 oN 7 6,
 oM 8 (.c (oI 0))])
 (.block 0 (.loop xOD xZV)))
 (oR ([oM 4 (.c (.int .i64 (-1)))])
 .ret)),
 [.tmp 4]⟩
def xAq : Nat → Option AFunc
 | 5 => some a5
 | 11 => some a11
 | 13 => some a13
 | 14 => some a14
 | 15 => some a15
 | 16 => some a16
 | 18 => some a18
 | 21 => some a21
 | 22 => some a22
 | 23 => some a23
 | 24 => some a24
 | 25 => some a25
 | 26 => some a26
 | 27 => some a27
 | 29 => some a29
 | 31 => some a31
 | 33 => some a33
 | 35 => some a35
 | 36 => some a36
 | 37 => some a37
 | 38 => some a38
 | 39 => some a39
 | 40 => some a40
 | 42 => some a42
 | 43 => some a43
 | 45 => some a45
 | 47 => some a47
 | 49 => some a49
 | 50 => some a50
 | 51 => some a51
 | 52 => some a52
 | 53 => some a53
 | 54 => some a54
 | 55 => some a55
 | 59 => some a59
 | 60 => some a60
 | 61 => some a61
 | 62 => some a62
 | 63 => some a63
 | 64 => some a64
 | 65 => some a65
 | 66 => some a66
 | 67 => some a67
 | 68 => some a68
 | 69 => some a69
 | 70 => some a70
 | 71 => some a71
 | 72 => some a72
 | 73 => some a73
 | 74 => some a74
 | 75 => some a75
 | 76 => some a76
 | 77 => some a77
 | 80 => some a80
 | 83 => some a83
 | 84 => some a84
 | 85 => some a85
 | 90 => some a90
 | 91 => some a91
 | 92 => some a92
 | 94 => some a94
 | 95 => some a95
 | 96 => some a96
 | 99 => some a99
 | _ => none
theorem a5p (args : List AV) : (lim xAq).pcall 5 args = xAY (lim xAq) a5 args := xAk rfl args
theorem yHK (args : List AV) : (lim xAq).pcall 11 args = xAY (lim xAq) a11 args := xAk rfl args
theorem yHL (args : List AV) : (lim xAq).pcall 14 args = xAY (lim xAq) a14 args := xAk rfl args
theorem yHM (args : List AV) : (lim xAq).pcall 15 args = xAY (lim xAq) a15 args := xAk rfl args
theorem yHj (args : List AV) : (lim xAq).pcall 21 args = xAY (lim xAq) a21 args := xAk rfl args
theorem yGs (args : List AV) : (lim xAq).pcall 22 args = xAY (lim xAq) a22 args := xAk rfl args
theorem yHk (args : List AV) : (lim xAq).pcall 23 args = xAY (lim xAq) a23 args := xAk rfl args
theorem yHl (args : List AV) : (lim xAq).pcall 24 args = xAY (lim xAq) a24 args := xAk rfl args
theorem yHm (caps args : List AV) (H : Heap) : (lim xAq).icall (.func 26 caps) args H = xBQ (lim xAq) a26 (args ++ caps) H := xAs rfl caps args H
theorem yHN (caps args : List AV) (H : Heap) : (lim xAq).icall (.func 27 caps) args H = xBQ (lim xAq) a27 (args ++ caps) H := xAs rfl caps args H
theorem yHO (args : List AV) : (lim xAq).pcall 29 args = xAY (lim xAq) a29 args := xAk rfl args
theorem yHn (caps args : List AV) (H : Heap) : (lim xAq).icall (.func 35 caps) args H = xBQ (lim xAq) a35 (args ++ caps) H := xAs rfl caps args H
theorem yHo (args : List AV) : (lim xAq).pcall 36 args = xAY (lim xAq) a36 args := xAk rfl args
theorem yEc (caps args : List AV) (H : Heap) : (lim xAq).icall (.func 37 caps) args H = xBQ (lim xAq) a37 (args ++ caps) H := xAs rfl caps args H
theorem yEd (args : List AV) : (lim xAq).pcall 38 args = xAY (lim xAq) a38 args := xAk rfl args
theorem yHp (caps args : List AV) (H : Heap) : (lim xAq).icall (.func 39 caps) args H = xBQ (lim xAq) a39 (args ++ caps) H := xAs rfl caps args H
theorem yHq (caps args : List AV) (H : Heap) : (lim xAq).icall (.func 40 caps) args H = xBQ (lim xAq) a40 (args ++ caps) H := xAs rfl caps args H
theorem yHP (args : List AV) : (lim xAq).pcall 50 args = xAY (lim xAq) a50 args := xAk rfl args
theorem yHQ (args : List AV) : (lim xAq).pcall 51 args = xAY (lim xAq) a51 args := xAk rfl args
theorem yHR (args : List AV) : (lim xAq).pcall 59 args = xAY (lim xAq) a59 args := xAk rfl args
theorem yHS (args : List AV) : (lim xAq).pcall 60 args = xAY (lim xAq) a60 args := xAk rfl args
theorem yHT (args : List AV) : (lim xAq).pcall 61 args = xAY (lim xAq) a61 args := xAk rfl args
theorem yHU (args : List AV) : (lim xAq).pcall 62 args = xAY (lim xAq) a62 args := xAk rfl args
theorem yHV (args : List AV) : (lim xAq).pcall 63 args = xAY (lim xAq) a63 args := xAk rfl args
theorem yHW (args : List AV) : (lim xAq).pcall 64 args = xAY (lim xAq) a64 args := xAk rfl args
theorem yHr (args : List AV) : (lim xAq).pcall 66 args = xAY (lim xAq) a66 args := xAk rfl args
theorem yHs (args : List AV) : (lim xAq).pcall 67 args = xAY (lim xAq) a67 args := xAk rfl args
theorem yHX (args : List AV) : (lim xAq).pcall 69 args = xAY (lim xAq) a69 args := xAk rfl args
theorem yF3 (caps args : List AV) (H : Heap) : (lim xAq).icall (.func 70 caps) args H = xBQ (lim xAq) a70 (args ++ caps) H := xAs rfl caps args H
theorem yHY (caps args : List AV) (H : Heap) : (lim xAq).icall (.func 71 caps) args H = xBQ (lim xAq) a71 (args ++ caps) H := xAs rfl caps args H
theorem yHt (caps args : List AV) (H : Heap) : (lim xAq).icall (.func 72 caps) args H = xBQ (lim xAq) a72 (args ++ caps) H := xAs rfl caps args H
theorem yHZ (args : List AV) : (lim xAq).pcall 73 args = xAY (lim xAq) a73 args := xAk rfl args
theorem yF4 (caps args : List AV) (H : Heap) : (lim xAq).icall (.func 74 caps) args H = xBQ (lim xAq) a74 (args ++ caps) H := xAs rfl caps args H
theorem yHu (caps args : List AV) (H : Heap) : (lim xAq).icall (.func 75 caps) args H = xBQ (lim xAq) a75 (args ++ caps) H := xAs rfl caps args H
theorem yH0 (caps args : List AV) (H : Heap) : (lim xAq).icall (.func 76 caps) args H = xBQ (lim xAq) a76 (args ++ caps) H := xAs rfl caps args H
theorem yH1 (args : List AV) : (lim xAq).pcall 84 args = xAY (lim xAq) a84 args := xAk rfl args
theorem yH2 (caps args : List AV) (H : Heap) : (lim xAq).icall (.func 90 caps) args H = xBQ (lim xAq) a90 (args ++ caps) H := xAs rfl caps args H
theorem yH3 (caps args : List AV) (H : Heap) : (lim xAq).icall (.func 91 caps) args H = xBQ (lim xAq) a91 (args ++ caps) H := xAs rfl caps args H
theorem yGt (caps args : List AV) (H : Heap) : (lim xAq).icall (.func 92 caps) args H = xBQ (lim xAq) a92 (args ++ caps) H := xAs rfl caps args H
theorem yH4 (caps args : List AV) (H : Heap) : (lim xAq).icall (.func 94 caps) args H = xBQ (lim xAq) a94 (args ++ caps) H := xAs rfl caps args H
theorem yH5 (caps args : List AV) (H : Heap) : (lim xAq).icall (.func 95 caps) args H = xBQ (lim xAq) a95 (args ++ caps) H := xAs rfl caps args H
theorem yH6 (caps args : List AV) (H : Heap) : (lim xAq).icall (.func 96 caps) args H = xBQ (lim xAq) a96 (args ++ caps) H := xAs rfl caps args H
theorem yHv (caps args : List AV) (H : Heap) : (lim xAq).icall (.func 99 caps) args H = xBQ (lim xAq) a99 (args ++ caps) H := xAs rfl caps args H
end Go.Abs.Mealy
